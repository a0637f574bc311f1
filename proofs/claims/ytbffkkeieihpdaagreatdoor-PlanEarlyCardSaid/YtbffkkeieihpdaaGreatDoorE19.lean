import Derived.Test.YtbffkkeieihpdaaGreatDoorE18
set_option linter.unusedSimpArgs false
set_option linter.unusedVariables false
set_option linter.constructorNameAsVariable false
set_option maxRecDepth 100000
set_option maxHeartbeats 4000000
namespace Go.Proofs.YtbffkkeieihpdaaGreatDoor
open Go Go.Eng
theorem zOz {h:Heap} {n:Nat} (hn:∀i,n≤i→h i=none):Fresh n (roH h):=fun i hi=>by simp[roH,hn i hi]
def zBt (t:List Nd) (x:Nd):Bool:=if x.op<12 then true else (wX (t.getD x.a.toNat nd0).op==zBh x.op)&&(decide (x.b<0)||(wX (t.getD x.b.toNat nd0).op==zBh x.op))
theorem zXs (vs:List ByteArray) (t:List Nd) (x:Nd):zCu vs t x=((!zPl x.op||decide (0≤wY vs x.var))&&zBt t x):=by
 unfold zCu zBt zPl;by_cases h1:x.op<4
 ·have h2:¬4≤x.op:=by omega
  have h3:x.op<12:=by omega
  simp[h1,h2,h3]
 ·by_cases h4:x.op≤11
  ·have h2:4≤x.op:=by omega
   have h3:x.op<12:=by omega
   simp[h1,h2,h3,h4]
  ·have h3:¬x.op<12:=by omega
   simp[h1,h3,h4]
def zV1 (h:Heap):List AV→Option (List Nd×Int)
 | [a,.v (.int .i64 i)]=>(rd dNs h a).map fun t=>(t,i)
 | _=>none
theorem zH0 {h:Heap} {args:List AV} {q:List Nd×Int} (e:zV1 h args=some q):∃a,args=[a,ii q.2]∧rd dNs h a=some q.1:=by
 unfold zV1 at e;split at e
 ·simp only[zV]at e
  obtain⟨t,h1,rfl⟩:=e;exact⟨_,rfl,h1⟩
 ·cases e
theorem zF8 (h h':Heap) (args:List AV) (q:List Nd×Int) (hh:h.le h') (e:zV1 h args=some q):zV1 h' args=some q:=by
 obtain⟨a,rfl,e1⟩:=zH0 e;simp only[zV1,ii,yZ hh e1,zK]
end Go.Proofs.YtbffkkeieihpdaaGreatDoor
