import Derived.Test.YtbffkkeieihpdaaGreatDoorX18
set_option linter.unusedSimpArgs false
set_option linter.unusedVariables false
set_option linter.constructorNameAsVariable false
set_option maxRecDepth 100000
set_option maxHeartbeats 4000000
namespace Go.Proofs.YtbffkkeieihpdaaGreatDoor
open Go Go.Eng
theorem roH_fresh {h:Heap} {n:Nat} (hn:∀i,n≤i→h i=none):Fresh n (roH h):=fun i hi=>by simp[roH,hn i hi]
def kindB (t:List Nd) (x:Nd):Bool:=if x.op<12 then true else (truthO (t.getD x.a.toNat nd0).op==wantsT x.op)&&(decide (x.b<0)||(truthO (t.getD x.b.toNat nd0).op==wantsT x.op))
theorem nodeOk_eq (vs:List ByteArray) (t:List Nd) (x:Nd):nodeOk vs t x=((!mentO x.op||decide (0≤ixOf vs x.var))&&kindB t x):=by
 unfold nodeOk kindB mentO
 by_cases h1:x.op<4
 ·have h2:¬4≤x.op:=by omega
  have h3:x.op<12:=by omega
  simp[h1,h2,h3]
 ·by_cases h4:x.op≤11
  ·have h2:4≤x.op:=by omega
   have h3:x.op<12:=by omega
   simp[h1,h2,h3,h4]
  ·have h3:¬x.op<12:=by omega
   simp[h1,h3,h4]
def deTI (h:Heap):List AV→Option (List Nd×Int)
 | [a,.v (.int .i64 i)]=>(rd dNs h a).map fun t=>(t,i)
 | _=>none
theorem deTI_out {h:Heap} {args:List AV} {q:List Nd×Int} (e:deTI h args=some q):∃a,args=[a,ii q.2]∧rd dNs h a=some q.1:=by
 unfold deTI at e
 split at e
 ·simp only[Option.map_eq_some_iff]at e
  obtain⟨t,h1,rfl⟩:=e
  exact⟨_,rfl,h1⟩
 ·cases e
theorem deTI_mono (h h':Heap) (args:List AV) (q:List Nd×Int) (hh:h.le h') (e:deTI h args=some q):deTI h' args=some q:=by
 obtain⟨a,rfl,e1⟩:=deTI_out e
 simp only[deTI,ii,rd_mono hh e1,Option.map_some]
end Go.Proofs.YtbffkkeieihpdaaGreatDoor
