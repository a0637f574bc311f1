import Derived.Test.YtbffkkeieihpdaaGreatDoorE14
set_option linter.unusedSimpArgs false
set_option linter.unusedVariables false
set_option linter.constructorNameAsVariable false
set_option maxRecDepth 100000
set_option maxHeartbeats 4000000
namespace Go.Proofs.YtbffkkeieihpdaaGreatDoor
open Go Go.Eng
theorem zTa {α:Type} {sz:Nat} {d:De α} {en:α→List AV} (f:Flat sz d en) (r:List AV) {c:Nat} (hc:c<sz) (v:AV) (y:α):∀(l:List α) (i:Nat) (hi:i<l.length),(en l[i]).set c v=en y→(l.flatMap en++r).set (i*sz+c) v=(l.set i y).flatMap en++r
 | [],_,h,_=>by simp at h
 | x::l,0,_,e=>by
  simp only[List.getElem_cons_zero]at e;rw[xZ,xT,zEd,yQ,List.set_append_left _ _ (by rw[f.len];exact hc),e,List.set_cons_zero,xZ,xT]
 | x::l,i+1,h,e=>by
  simp only[List.getElem_cons_succ]at e;rw[xZ,xT,zCf _ _ (by rw[f.len,wC];omega),f.len,wC,show i*sz+sz+c-sz=i*sz+c by omega,zTa f r hc v y l i (by simpa using h) e,List.set_cons_succ,xZ,xT]
end Go.Proofs.YtbffkkeieihpdaaGreatDoor
