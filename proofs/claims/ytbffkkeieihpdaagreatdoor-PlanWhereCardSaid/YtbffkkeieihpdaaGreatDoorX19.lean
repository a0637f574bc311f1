import Derived.Test.YtbffkkeieihpdaaGreatDoorX18
set_option linter.unusedSimpArgs false
set_option linter.unusedVariables false
set_option linter.constructorNameAsVariable false
set_option maxRecDepth 100000
set_option maxHeartbeats 4000000
namespace Go.Proofs.YtbffkkeieihpdaaGreatDoor
open Go Go.Eng
theorem zFh {h:Heap} {n:Nat} (hn:∀i,n≤i→h i=none):Fresh n (roH h):=fun i hi=>by simp[roH,hn i hi]
def zB5 (t:List Nd) (x:Nd):Bool:=if x.op<12 then true else (zAj (t.getD x.a.toNat nd0).op==zBt x.op)&&(decide (x.b<0)||(zAj (t.getD x.b.toNat nd0).op==zBt x.op))
theorem zZl (vs:List ByteArray) (t:List Nd) (x:Nd):zC5 vs t x=((!zQz x.op||decide (0≤zAn vs x.var))&&zB5 t x):=by
 unfold zC5 zB5 zQz;by_cases h1:x.op<4
 ·have h2:¬4≤x.op:=by omega
  have h3:x.op<12:=by omega
  simp[h1,h2,h3]
 ·by_cases h4:x.op≤11
  ·have h2:4≤x.op:=by omega
   have h3:x.op<12:=by omega
   simp[h1,h2,h3,h4]
  ·have h3:¬x.op<12:=by omega
   simp[h1,h3,h4]
def zXn (h:Heap):List AV→Option (List Nd×Int)
 | [a,.v (.int .i64 i)]=>(rd dNs h a).map fun t=>(t,i)
 | _=>none
theorem zIx {h:Heap} {args:List AV} {q:List Nd×Int} (e:zXn h args=some q):∃a,args=[a,ii q.2]∧rd dNs h a=some q.1:=by
 unfold zXn at e;split at e
 ·simp only[zW]at e
  obtain⟨t,h1,rfl⟩:=e;exact⟨_,rfl,h1⟩
 ·cases e
theorem zG2 (h h':Heap) (args:List AV) (q:List Nd×Int) (hh:h.le h') (e:zXn h args=some q):zXn h' args=some q:=by
 obtain⟨a,rfl,e1⟩:=zIx e;simp only[zXn,ii,yU hh e1,zM]
end Go.Proofs.YtbffkkeieihpdaaGreatDoor
