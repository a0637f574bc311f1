import Derived.Test.YtbffkkeieihpdaaGreatDoorX22
import Derived.Test.YtbffkkeieihpdaaGreatDoorX14
import Derived.Test.YtbffkkeieihpdaaGreatDoorX17
import Derived.Test.YtbffkkeieihpdaaGreatDoorX21
import Derived.Test.YtbffkkeieihpdaaGreatDoorX15
set_option linter.unusedSimpArgs false
set_option linter.unusedVariables false
set_option linter.constructorNameAsVariable false
set_option maxRecDepth 100000
set_option maxHeartbeats 4000000
namespace Go.Proofs.YtbffkkeieihpdaaGreatDoor
open Go Go.Eng
def fstI (f:Nat→Int):Nat→Int×Int
 | 0=>(0,0)
 | n+1=>if (fstI f n).2≠0 then fstI f n else if f n≠0 then ((n:Int),f n)else (0,0)
theorem fstI_none {f:Nat→Int}:∀{n:Nat},(∀i,i<n→f i=0)→fstI f n=(0,0)
 | 0,_=>rfl
 | n+1,h=>by
  have h1:=fstI_none (n:=n) fun i hi=>h i (by omega)
  simp[fstI,h1,h n (by omega)]
theorem fstI_at {f:Nat→Int} {j:Nat} (h0:∀i,i<j→f i=0) (hj:f j≠0):∀{n:Nat},j<n→fstI f n=((j:Int),f j)
 | 0,h=>by omega
 | n+1,h=>by
  by_cases e:j=n
  ·subst e
   simp[fstI,fstI_none h0,hj]
  ·have h1:=fstI_at h0 hj (n:=n) (by omega)
   simp[fstI,h1,hj]
theorem fstI_ok {f:Nat→Int}:∀{n:Nat},(fstI f n).2=0→∀i,i<n→f i=0
 | 0,_,i,hi=>by omega
 | n+1,h,i,hi=>by
  by_cases h1:(fstI f n).2=0
  ·by_cases h2:f n=0
   ·by_cases e:i=n
    ·rw[e];exact h2
    ·exact fstI_ok h1 i (by omega)
   ·simp[fstI,h1,h2]at h
  ·simp[fstI,h1]at h
structure Fl where
 code:Int
 part:Int
 index:Int
 sub:Int
deriving DecidableEq
def fl0:Fl:=⟨0,0,0,0⟩
def fcells (f:Fl):List AV:=[ii f.code,ii f.part,ii f.index,ii f.sub]
def ff (f:Fl):AV:=.g (fcells f)
def typeOf (sc:List Ty) (z:ByteArray):Int:=ixOf (sc.map (·.name)) z
def ty0:Ty:=⟨ByteArray.empty,[]⟩
def attE (t:Ty) (j:Nat):Int :=
 if isNameS (t.attrs.getD j ByteArray.empty)=false∨(t.attrs.getD j ByteArray.empty==tsB)=true then 22 else if ixOf t.attrs (t.attrs.getD j ByteArray.empty)≠j then 25 else 0
def schE (sc:List Ty) (i:Nat):Int :=
 if isNameS (sc.getD i ty0).name=false then 22 else if typeOf sc (sc.getD i ty0).name≠i then 25 else if 8<(sc.getD i ty0).attrs.length then 24 else (fstI (attE (sc.getD i ty0)) (sc.getD i ty0).attrs.length).2
def schF (sc:List Ty):Int:=if sc.length=0∨16<sc.length then 23 else (fstI (schE sc) sc.length).2
def it0:It:=⟨false,[],ByteArray.empty,0,0⟩
def shIt (it:It):Bool:=decide (it.types.length≠0)&&isNameS it.var&&decide (0≤it.lo)&&decide (0≤it.hi)&&it.types.all isNameS&&(!it.neg||(decide (it.lo=1)&&decide (it.hi=1)))
def shQ (q:Qu):Bool:=decide (q.items.length≠0)&&decide (0≤q.mode∧q.mode≤2)&&decide (0≤q.after∧q.after≤3)&&decide (0≤q.within)&&q.items.all shIt&&(decide (q.wh.length=0)||tree1 q.wh)&&(emB q.par||isNameS q.par)&&q.ret.all tree1
def dupTo (l:List ByteArray) (j:Nat):Bool:=(List.range j).any fun i=>(l.take i).any fun z=>z==l.getD i ByteArray.empty
def itemE (sc:List Ty) (it:It):Int :=
 if it.types.any (fun z=>decide (typeOf sc z<0))=true then 61 else if dupTo it.types it.types.length=true then 62 else if it.lo<1∨it.hi<it.lo∨4<it.hi then 63 else 0
def itE (sc:List Ty) (q:Qu) (i:Nat):Int :=
 if itemE sc (q.items.getD i it0)≠0 then itemE sc (q.items.getD i it0)else if ixOf (vars q.items) (q.items.getD i it0).var<i then 64 else 0
def itsF (sc:List Ty) (q:Qu):Fl :=
 if 10<q.items.length then ⟨60,1,10,0⟩else if (fstI (itE sc q) q.items.length).2≠0 then ⟨(fstI (itE sc q) q.items.length).2,1,(fstI (itE sc q) q.items.length).1,0⟩else if q.items.all (·.neg)=true then ⟨65,1,0,0⟩else fl0
def hasA (sc:List Ty) (it:It) (z:ByteArray):Bool:=it.types.all fun y=>decide (attrOf sc (typeOf sc y) z≠-1)
def repIt (it:It):Bool := !it.neg&&decide (1<it.hi)
def mentE (sc:List Ty) (q:Qu) (res:Bool) (x:Nd):Int :=
 if bareO x.op=false∧aggO x.op=false then 0 else if ixOf (vars q.items) x.var<0 then 68 else
  if x.op≠5∧hasA sc (q.items.getD (ixOf (vars q.items) x.var).toNat it0) x.attr=false then 69 else
  if (aggO x.op=true∧(q.items.getD (ixOf (vars q.items) x.var).toNat it0).neg=true)∨(x.op=11∧repIt (q.items.getD (ixOf (vars q.items) x.var).toNat it0)=false)then 76 else
  if res=true∧bareO x.op=true∧((q.items.getD (ixOf (vars q.items) x.var).toNat it0).neg=true∨repIt (q.items.getD (ixOf (vars q.items) x.var).toNat it0)=true)then 76 else 0
def kidB (t:List Nd) (x:Nd) (k:Int):Bool:=decide (k<0)||(truthO (t.getD k.toNat nd0).op==wantsT x.op)
def kinB (t:List Nd) (x:Nd):Bool:=kidB t x x.a&&kidB t x x.b
def nodE (sc:List Ty) (q:Qu) (t:List Nd) (res:Bool) (i:Nat):Int :=
 if mentE sc q res (t.getD i nd0)≠0 then mentE sc q res (t.getD i nd0)else if kinB t (t.getD i nd0)=true then 0 else 75
def wlk (sc:List Ty) (q:Qu) (t:List Nd) (res:Bool):Int×Int:=fstI (nodE sc q t res) t.length
def wlkW (sc:List Ty) (q:Qu):Int×Int:=if (wlk sc q q.wh false).2=0∧truthT q.wh=false then ((q.wh.length:Int)-1,75)else wlk sc q q.wh false
def wlkR (sc:List Ty) (q:Qu) (t:List Nd):Int×Int:=if (wlk sc q t true).2=0∧truthT t=true then ((t.length:Int)-1,75)else wlk sc q t true
def mixN (q:Qu) (l:List Int):Nat:=(l.filter fun i=>(q.items.getD i.toNat it0).neg||decide (1<(q.items.getD i.toNat it0).hi)).length
def conjW (t:List Nd):List Nat:=conjT t (t.length-1)
def bareT (q:Qu) (t:List Nd):List Int:=usesL bareO (vars q.items) t
def mixE (q:Qu) (k:Nat):Int:=if 1<mixN q (bareT q (subT q.wh ((conjW q.wh).getD k 0)))then 77 else 0
def mixF (q:Qu):Fl:=if (fstI (mixE q) (conjW q.wh).length).2≠0 then ⟨77,4,((conjW q.wh).getD (fstI (mixE q) (conjW q.wh).length).1.toNat 0:Nat),0⟩else fl0
def whF (sc:List Ty) (q:Qu):Fl :=
 if q.wh.length=0 then fl0 else if (wlkW sc q).2≠0 then ⟨(wlkW sc q).2,4,(wlkW sc q).1,0⟩else mixF q
def retE (sc:List Ty) (q:Qu) (k:Nat):Int:=(wlkR sc q (q.ret.getD k [])).2
def retF (sc:List Ty) (q:Qu):Fl :=
 if 8<q.ret.length then ⟨78,5,8,0⟩else if (fstI (retE sc q) q.ret.length).2≠0 then ⟨(fstI (retE sc q) q.ret.length).2,5,(fstI (retE sc q) q.ret.length).1,(wlkR sc q (q.ret.getD (fstI (retE sc q) q.ret.length).1.toNat [])).1⟩else fl0
def partB (sc:List Ty) (q:Qu):Bool := !(q.par==tsB)&&q.items.all fun it=>hasA sc it q.par
def chk (sc:List Ty) (q:Qu):Fl :=
 if schF sc≠0 then ⟨schF sc,0,0,0⟩else if shQ q=false then ⟨50,0,0,0⟩else if (itsF sc q).code≠0 then itsF sc q else if (whF sc q).code≠0 then whF sc q else
  if 1099511627776<q.within then ⟨66,2,0,0⟩else if emB q.par=false∧partB sc q=false then ⟨67,3,0,0⟩else retF sc q
section
structure Wf (sc:List Ty) (q:Qu):Prop where
 s0:schF sc=0
 sh:shQ q=true
 n1:q.items.length≤10
 it:∀i,i<q.items.length→itE sc q i=0
 po:q.items.all (·.neg)=false
 wh:q.wh.length≠0→(∀i,i<q.wh.length→nodE sc q q.wh false i=0)∧truthT q.wh=true∧∀k,k<(conjW q.wh).length→mixE q k=0
 wi:q.within≤1099511627776
 pa:emB q.par=false→partB sc q=true
 r1:q.ret.length≤8
 r2:∀k,k<q.ret.length→(∀i,i<(q.ret.getD k []).length→nodE sc q (q.ret.getD k []) true i=0)∧truthT (q.ret.getD k [])=false
section
variable {sc:List Ty} {q:Qu}
theorem itsF_ok (h:(itsF sc q).code=0):itsF sc q=fl0∧q.items.length≤10∧(∀i,i<q.items.length→itE sc q i=0)∧q.items.all (·.neg)=false:=by
 unfold itsF at h ⊢
 by_cases h1:10<q.items.length
 ·simp[h1]at h
 by_cases h2:(fstI (itE sc q) q.items.length).2=0
 ·cases h3:q.items.all (·.neg)with
  | true=>simp only[h3,if_neg h1,h2,ne_eq,not_true_eq_false,if_false,if_true]at h;simp at h
  | false=>simp only[if_neg h1,h2,ne_eq,not_true_eq_false,if_false,Bool.false_eq_true];exact⟨trivial,by omega,fstI_ok h2,trivial⟩
 ·simp only[if_neg h1,ne_eq,h2,not_false_eq_true,if_true]at h
theorem wlkW_ok (h:(wlkW sc q).2=0):(∀i,i<q.wh.length→nodE sc q q.wh false i=0)∧truthT q.wh=true:=by
 unfold wlkW at h
 by_cases h1:(wlk sc q q.wh false).2=0
 ·cases h2:truthT q.wh with
  | true=>exact⟨fstI_ok h1,rfl⟩
  | false=>simp[h1,h2]at h
 ·simp[h1]at h
theorem wlkR_ok {t:List Nd} (h:(wlkR sc q t).2=0):(∀i,i<t.length→nodE sc q t true i=0)∧truthT t=false:=by
 unfold wlkR at h
 by_cases h1:(wlk sc q t true).2=0
 ·cases h2:truthT t with
  | false=>exact⟨fstI_ok h1,rfl⟩
  | true=>simp[h1,h2]at h
 ·simp[h1]at h
theorem mixF_ok (h:(mixF q).code=0):mixF q=fl0∧∀k,k<(conjW q.wh).length→mixE q k=0:=by
 unfold mixF at h ⊢
 by_cases h1:(fstI (mixE q) (conjW q.wh).length).2=0
 ·simp only[h1,ne_eq,not_true_eq_false,if_false];exact⟨trivial,fstI_ok h1⟩
 ·simp[h1]at h
theorem whF_ok (h:(whF sc q).code=0):whF sc q=fl0∧(q.wh.length≠0→(∀i,i<q.wh.length→nodE sc q q.wh false i=0)∧truthT q.wh=true∧∀k,k<(conjW q.wh).length→mixE q k=0):=by
 unfold whF at h ⊢
 by_cases h0:q.wh.length=0
 ·simp only[h0,if_true];exact⟨trivial,fun h=>absurd rfl h⟩
 by_cases h1:(wlkW sc q).2=0
 ·simp only[if_neg h0,h1,ne_eq,not_true_eq_false,if_false]at h ⊢
  obtain⟨a,b⟩:=wlkW_ok h1
  obtain⟨c,d⟩:=mixF_ok h
  exact⟨c,fun _=>⟨a,b,d⟩⟩
 ·simp[h0,h1]at h
theorem retF_ok (h:(retF sc q).code=0):retF sc q=fl0∧q.ret.length≤8∧∀k,k<q.ret.length→(∀i,i<(q.ret.getD k []).length→nodE sc q (q.ret.getD k []) true i=0)∧truthT (q.ret.getD k [])=false:=by
 unfold retF at h ⊢
 by_cases h1:8<q.ret.length
 ·simp[h1]at h
 by_cases h2:(fstI (retE sc q) q.ret.length).2=0
 ·simp only[if_neg h1,h2,ne_eq,not_true_eq_false,if_false]
  exact⟨trivial,by omega,fun k hk=>wlkR_ok (fstI_ok h2 k hk)⟩
 ·simp[h1,h2]at h
theorem wf_of (h:(chk sc q).code=0):chk sc q=fl0∧Wf sc q:=by
 unfold chk at h ⊢
 by_cases h1:schF sc=0
 ·by_cases h2:shQ q=true
  ·by_cases h3:(itsF sc q).code=0
   ·by_cases h4:(whF sc q).code=0
    ·by_cases h5:1099511627776<q.within
     ·simp[h1,h2,h3,h4,h5]at h
     ·by_cases h6:emB q.par=false∧partB sc q=false
      ·simp[h1,h2,h3,h4,h5,h6]at h
      ·have e:∀x:Fl,(if schF sc≠0 then (⟨schF sc,0,0,0⟩:Fl)else if shQ q=false then ⟨50,0,0,0⟩else if (itsF sc q).code≠0 then itsF sc q else if (whF sc q).code≠0 then whF sc q else
        if 1099511627776<q.within then ⟨66,2,0,0⟩else if emB q.par=false∧partB sc q=false then ⟨67,3,0,0⟩else x)=x:=fun x=>by
        rw[if_neg (by simp[h1]),if_neg (by simp[h2]),if_neg (by simp[h3]),if_neg (by simp[h4]),if_neg h5,if_neg h6]
       rw[e]at h ⊢
       obtain⟨a1,a2,a3⟩:=retF_ok h
       obtain⟨b1,b2⟩:=whF_ok h4
       obtain⟨c1,c2,c3,c4⟩:=itsF_ok h3
       refine⟨a1,h1,h2,c2,c3,c4,b2,by omega,fun hp => ?_,a2,a3⟩
       cases hx:partB sc q with
       | true=>rfl
       | false=>exact absurd ⟨hp,hx⟩ h6
    ·simp[h1,h2,h3,h4]at h
   ·simp[h1,h2,h3]at h
  ·simp[h1,h2]at h
 ·simp[h1]at h
theorem sch_ok (h:schF sc=0):0<sc.length∧sc.length≤16∧∀i,i<sc.length→schE sc i=0:=by
 unfold schF at h
 by_cases h1:sc.length=0∨16<sc.length
 ·rw[if_pos h1]at h;cases h
 ·rw[if_neg h1]at h
  exact⟨by omega,by omega,fstI_ok h⟩
theorem schE_ok {i:Nat} (h:schE sc i=0):isNameS (sc.getD i ty0).name=true∧typeOf sc (sc.getD i ty0).name=i∧(sc.getD i ty0).attrs.length≤8∧∀j,j<(sc.getD i ty0).attrs.length→attE (sc.getD i ty0) j=0:=by
 unfold schE at h
 by_cases h1:isNameS (sc.getD i ty0).name=false
 ·rw[if_pos h1]at h;cases h
 by_cases h2:typeOf sc (sc.getD i ty0).name=i
 ·by_cases h3:8<(sc.getD i ty0).attrs.length
  ·rw[if_neg h1,if_neg (by simp only[ne_eq,h2,not_true_eq_false,not_false_eq_true]),if_pos h3]at h;cases h
  ·rw[if_neg h1,if_neg (by simp only[ne_eq,h2,not_true_eq_false,not_false_eq_true]),if_neg h3]at h
   exact⟨by simpa using h1,h2,by omega,fstI_ok h⟩
 ·rw[if_neg h1,if_pos h2]at h
  cases h
theorem itE_ok {i:Nat} (h:itE sc q i=0):itemE sc (q.items.getD i it0)=0∧¬ixOf (vars q.items) (q.items.getD i it0).var<i:=by
 unfold itE at h
 by_cases h1:itemE sc (q.items.getD i it0)=0
 ·refine⟨h1,fun h2 => ?_⟩
  rw[if_neg (not_not_intro h1),if_pos h2]at h;cases h
 ·rw[if_pos h1]at h;exact absurd h h1
theorem itemE_ok {it:It} (h:itemE sc it=0):(∀z∈it.types,0≤typeOf sc z)∧dupTo it.types it.types.length=false∧1≤it.lo∧it.lo≤it.hi∧it.hi≤4:=by
 unfold itemE at h
 by_cases h1:it.types.any (fun z=>decide (typeOf sc z<0))=true
 ·rw[if_pos h1]at h;cases h
 by_cases h2:dupTo it.types it.types.length=true
 ·rw[if_neg h1,if_pos h2]at h;cases h
 by_cases h3:it.lo<1∨it.hi<it.lo∨4<it.hi
 ·rw[if_neg h1,if_neg h2,if_pos h3]at h;cases h
 ·refine⟨fun z hz => ?_,by simpa using h2,by omega,by omega,by omega⟩
  simp only[List.any_eq_true,decide_eq_true_eq,not_exists,not_and]at h1
  have:=h1 z hz
  omega
theorem ix_le {l:List ByteArray} {i:Nat} (hi:i<l.length):ixOf l l[i]≤i:=by
 have h1:l.findIdx (· == l[i])≤i:=by
  apply Classical.byContradiction
  intro hn
  have:(l[i]==l[i])=false:=by simpa using List.not_of_lt_findIdx (p:=(· == l[i])) (xs:=l) (i:=i) (by omega)
  rw[show (l[i]==l[i])=true by rw[ba_beq]]at this
  cases this
 unfold ixOf
 split<;>omega
theorem vars_at {i:Nat} (hi:i<q.items.length):(vars q.items)[i]? = some (q.items.getD i it0).var:=by
 simp[vars,List.getD_eq_getElem?_getD,List.getElem?_eq_getElem hi]
theorem Wf.ix (W:Wf sc q) {i:Nat} (hi:i<q.items.length):ixOf (vars q.items) (q.items.getD i it0).var=i:=by
 have h1:=(itE_ok (W.it i hi)).2
 have hv:i<(vars q.items).length:=by simpa[vars]using hi
 have h2:=vars_at hi
 rw[List.getElem?_eq_getElem hv]at h2
 have h3:=ix_le hv
 rw[Option.some.inj h2]at h3
 omega
theorem ndE_ok {t:List Nd} {res:Bool} {i:Nat} (h:nodE sc q t res i=0):mentE sc q res (t.getD i nd0)=0∧kinB t (t.getD i nd0)=true:=by
 unfold nodE at h
 by_cases h1:mentE sc q res (t.getD i nd0)=0
 ·refine⟨h1,?_⟩
  rw[if_neg (not_not_intro h1)]at h
  cases h2:kinB t (t.getD i nd0)with
  | true=>rfl
  | false=>rw[h2,if_neg (by simp)]at h;cases h
 ·rw[if_pos h1]at h;exact absurd h h1
theorem ment_ok {res:Bool} {x:Nd} (h:mentE sc q res x=0) (hb:bareO x.op=true∨aggO x.op=true):0≤ixOf (vars q.items) x.var∧
  (x.op≠5→hasA sc (q.items.getD (ixOf (vars q.items) x.var).toNat it0) x.attr=true)∧(aggO x.op=true→(q.items.getD (ixOf (vars q.items) x.var).toNat it0).neg=false)∧
  (x.op=11→repIt (q.items.getD (ixOf (vars q.items) x.var).toNat it0)=true)∧(res=true→bareO x.op=true→(q.items.getD (ixOf (vars q.items) x.var).toNat it0).neg=false∧repIt (q.items.getD (ixOf (vars q.items) x.var).toNat it0)=false):=by
 unfold mentE at h
 rw[if_neg (by rcases hb with hb|hb<;>simp[hb])]at h
 by_cases h1:ixOf (vars q.items) x.var<0
 ·simp[h1]at h
 rw[if_neg h1]at h
 generalize q.items.getD (ixOf (vars q.items) x.var).toNat it0=it at *
 cases hh:hasA sc it x.attr<;>cases hn:it.neg<;>cases hr:repIt it<;>cases ha:aggO x.op<;>cases hc:bareO x.op<;>cases res<;>simp_all<;>grind
theorem wf_run {t:List Nd} {res:Bool} (ht:tree1 t=true) (h:∀i,i<t.length→nodE sc q t res i=0):runT (vars q.items) t=true:=by
 have T:=tre_of ht
 rw[runT,ht,Bool.true_and,ok_all]
 intro i hi
 obtain⟨h1,h2⟩:=ndE_ok (h i hi)
 rw[getD_at hi]at h1 h2
 have hk:=T.kind i hi
 generalize t[i]=x at *
 unfold nodeOk
 by_cases h4:x.op<4
 ·rw[if_pos h4]
 rw[if_neg h4]
 by_cases h5:x.op≤11
 ·rw[if_pos h5]
  have hb:bareO x.op=true∨aggO x.op=true:=by simp only[bareO,aggO,decide_eq_true_eq];omega
  simpa using (ment_ok h1 hb).1
 ·rw[if_neg h5]
  unfold kinB kidB at h2
  have ha:¬x.a<0:=by rcases hk with ⟨_,b,_⟩|⟨_,_,b,_⟩|⟨_,_,_,_,a,b,_⟩<;>omega
  simpa[ha]using h2
theorem sub_node {t:List Nd} {r:Nat} {x:Nd} (hx:x∈subT t r):∃y∈t,y.op=x.op∧y.var=x.var∧y.attr=x.attr:=by
 unfold subT cutT at hx
 obtain⟨y,hy,rfl⟩:=List.mem_map.1 hx
 exact⟨y,List.mem_of_mem_drop (List.mem_of_mem_take hy),rfl,rfl,rfl⟩
theorem uses_is {p:Int→Bool} {vs:List ByteArray} {t:List Nd} {i:Int} (h:i∈usesL p vs t):0≤i∧i<(vs.length:Int)∧∃x∈t,p x.op=true∧ixOf vs x.var=i:=by
 unfold usesL at h
 obtain⟨h1,h2⟩:=List.mem_filter.1 h
 obtain⟨j,hj,rfl⟩:=List.mem_map.1 h1
 have:=List.mem_range.1 hj
 unfold usesN at h2
 obtain⟨x,hx,hp⟩:=List.any_eq_true.1 h2
 simp only[Bool.and_eq_true,decide_eq_true_eq]at hp
 exact⟨by omega,by omega,x,hx,hp.1,hp.2⟩
end
end
structure Cd where
 p:Pr
 each:Int
 prev:Bool
structure CdOk (q:Cd×List (List Ev)):Prop where
 p:PrOk q.1.p
 e:EnOk ⟨q.2,q.1.each,0⟩
theorem CdOk.en {q:Cd×List (List Ev)} (o:CdOk q) (each:Int) {i:Nat} (hi:i≤2147483647):okR (q.1.p,⟨q.2,each,i⟩):=⟨o.p,o.e.len,o.e.ev,by unfold Rng;simp only[];omega⟩
structure Cmp where
 item:Int
 types:List Int
 lo:Int
 hi:Int
 own:List Pr
 conds:List Cd
structure Ng where
 item:Int
 types:List Int
 after:Int
 before:Int
 own:List Pr
 rest:List Pr
structure Pl where
 sc:List Ty
 q:Qu
 comps:List Cmp
 negs:List Ng
 fixed:List Pr
 used:List Bool
 cols:List Int
 ret:List Pr
 lead:Bool
 tail:Bool
def itA (q:Qu) (i:Nat):It:=q.items.getD i it0
def posI (q:Qu) (j:Nat):List Nat:=(List.range j).filter fun i => !(itA q i).neg
def negI (q:Qu) (j:Nat):List Nat:=(List.range j).filter fun i=>(itA q i).neg
def tysOf (sc:List Ty) (it:It):List Int:=it.types.map (typeOf sc)
theorem posI_succ (q:Qu) (j:Nat):posI q (j+1)=if (itA q j).neg=true then posI q j else posI q j++[j]:=by
 cases h:(itA q j).neg<;>simp[posI,List.range_succ,h]
theorem negI_succ (q:Qu) (j:Nat):negI q (j+1)=if (itA q j).neg=true then negI q j++[j]else negI q j:=by
 cases h:(itA q j).neg<;>simp[negI,List.range_succ,h]
theorem posneg (q:Qu) (j:Nat):(posI q j).length+(negI q j).length=j:=by
 induction j with
 | zero=>rfl
 | succ j ih =>
  rw[posI_succ,negI_succ]
  split<;>simp only[List.length_append,List.length_cons,List.length_nil]<;>omega
def conjs (q:Qu):List (List Nd):=if tree1 q.wh=true then (conjW q.wh).map (subT q.wh)else []
def prevT (q:Qu) (t:List Nd):List Int:=usesL prevO (vars q.items) t
def aggT (q:Qu) (t:List Nd):List Int:=usesL aggO (vars q.items) t
def mentL (q:Qu) (t:List Nd):List Int:=bareT q t++aggT q t
def aloneT (q:Qu) (t:List Nd):Bool:=decide ((bareT q t).length=1)&&decide ((prevT q t).length=0)&&decide ((aggT q t).length=0)
def rk (q:Qu) (i:Nat):Nat:=(posI q i).length
def rn (q:Qu) (i:Nat):Nat:=(negI q i).length
def lsL (q:Qu) (l:List Int):Nat:=l.foldl (fun m i=>min m (rk q i.toNat)) (posI q q.items.length).length
def chL (q:Qu) (t:List Nd) (l:List Int):Int:=l.foldl (fun e i=>if 1<(itA q i.toNat).hi∧i∈bareT q t then i else e) (-1)
def eachT (q:Qu) (t:List Nd):Int:=chL q t (mentL q t)
def homeT (q:Qu) (t:List Nd):Int:=match (mentL q t).find? fun i=>(itA q i.toNat).neg with
 | some i=>i
 | none=>if lsL q (mentL q t)<(posI q q.items.length).length then (((posI q q.items.length).getD (lsL q (mentL q t)) 0:Nat):Int)else -1
def ownL (sc:List Ty) (q:Qu) (l:List (List Nd)) (i:Int):List Pr:=(l.filter fun t=>aloneT q t&&decide (homeT q t=i)).map (compP sc (vars q.items))
def restL (sc:List Ty) (q:Qu) (l:List (List Nd)) (i:Int):List Pr:=(l.filter fun t => !aloneT q t&&decide (homeT q t=i)).map (compP sc (vars q.items))
def condL (sc:List Ty) (q:Qu) (l:List (List Nd)) (i:Int):List Cd:=(l.filter fun t => !aloneT q t&&decide (homeT q t=i)).map fun t=>⟨compP sc (vars q.items) t,eachT q t,decide (0<(prevT q t).length)⟩
def fixL (sc:List Ty) (q:Qu) (l:List (List Nd)):List Pr:=(l.filter fun t=>decide (homeT q t=-1)).map (compP sc (vars q.items))
def usedT (sc:List Ty) (q:Qu) (k:Nat):Bool:=q.items.any fun it=>it.types.any fun z=>z==(sc.getD k ty0).name
def colT (sc:List Ty) (q:Qu) (k:Nat):Int:=if usedT sc q k=true∧emB q.par=false then attrOf sc k q.par else -1
def cmpOf (sc:List Ty) (q:Qu) (l:List (List Nd)) (i:Nat):Cmp:=⟨i,tysOf sc (itA q i),(itA q i).lo,(itA q i).hi,ownL sc q l i,condL sc q l i⟩
def ngOf (sc:List Ty) (q:Qu) (l:List (List Nd)) (i:Nat):Ng:=⟨i,tysOf sc (itA q i),(rk q i:Int)-1,rk q i,ownL sc q l i,restL sc q l i⟩
def cmpsOf (sc:List Ty) (q:Qu) (l:List (List Nd)) (j:Nat):List Cmp:=(posI q j).map (cmpOf sc q l)
def ngsOf (sc:List Ty) (q:Qu) (l:List (List Nd)) (j:Nat):List Ng:=(negI q j).map (ngOf sc q l)
def planOf (sc:List Ty) (q:Qu):Pl :=
 ⟨sc,q,cmpsOf sc q (conjs q) q.items.length,ngsOf sc q (conjs q) q.items.length,fixL sc q (conjs q),(List.range sc.length).map (usedT sc q),(List.range sc.length).map (colT sc q),q.ret.map (compP sc (vars q.items)),(itA q 0).neg,(itA q (q.items.length-1)).neg⟩
def dPrg:De Pr where
 run h l:=dePr h (.g l)
 sim {h h' l x} hh e:=by
  obtain⟨a,b,e0,e1,e2⟩:=dePr_out e
  cases e0
  exact dePr_in (rd_sim hh e1) (rd_sim hh e2)
def deCdc (h:Heap):List AV→Option Cd
 | [a,b,.v (.int .i64 each),.v (.bool prev)]=>(dePr h (.g [a,b])).map fun p=>⟨p,each,prev⟩
 | _=>none
theorem deCdc_out {h:Heap} {l:List AV} {x:Cd} (e:deCdc h l=some x):∃a b,l=[a,b,ii x.each,bv x.prev]∧dePr h (.g [a,b])=some x.p:=by
 unfold deCdc at e
 split at e
 ·simp only[Option.map_eq_some_iff]at e
  obtain⟨t,h1,rfl⟩:=e
  exact⟨_,_,rfl,h1⟩
 ·cases e
theorem deCdc_in {h:Heap} {a b:AV} {x:Cd} (e:dePr h (.g [a,b])=some x.p):deCdc h [a,b,ii x.each,bv x.prev]=some x:=by
 simp only[deCdc,ii,bv,e,Option.map_some]
def dCdg:De Cd where
 run h l:=deCdc h l
 sim {h h' l x} hh e:=by
  obtain⟨a,b,rfl,h1⟩:=deCdc_out e
  exact deCdc_in (dePr_sim hh h1)
def LR {α:Type} (T:Nat→Nat) (k sz:Nat) (h:Heap) (a:AV) (xs:List α) (R:Nat→List AV→α→Prop):Prop :=
 ∃cs,GL T k sz h a xs.length cs∧∀i (hi:i<xs.length),R i ((cs.drop (i*sz)).take sz) xs[i]
def LL {α:Type} (d:De α) (sz:Nat) (T:Nat→Nat) (k:Nat) (h:Heap) (a:AV) (xs:List α):Prop:=LR T k sz h a xs fun _ l x=>d.run (still T h) l=some x
theorem LR.mv {α:Type} {K:Nat→Prop} {T T':Nat→Nat} {h h':Heap} {n n' k sz:Nat} {a:AV} {xs:List α} {R R':Nat→List AV→α→Prop} (g:LR T k sz h a xs R) (v:Mv K T h n T' h' n') (hn:Fresh n h) (hk:¬(k≠0∧K k)) (hR:∀i l x,i<xs.length→R i l x→R' i l x):LR T' k sz h' a xs R':=by
 obtain⟨cs,g1,g2⟩:=g
 exact⟨cs,g1.mv v hn hk,fun i hi=>hR _ _ _ hi (g2 i hi)⟩
theorem LL.mv {α:Type} {d:De α} {K:Nat→Prop} {T T':Nat→Nat} {h h':Heap} {n n' k sz:Nat} {a:AV} {xs:List α} (g:LL d sz T k h a xs) (v:Mv K T h n T' h' n') (hn:Fresh n h) (hk:¬(k≠0∧K k)):LL d sz T' k h' a xs :=
 LR.mv g v hn hk fun _ _ _ _ e=>d.mono (v.still hn) e
theorem LR.nil {α:Type} (T:Nat→Nat) (k sz:Nat) (h:Heap) (R:Nat→List AV→α→Prop):LR T k sz h (.v (.slice none 0 0)) [] R:=⟨[],GL.nil T k sz h,fun i hi=>by simp at hi⟩
theorem LR.isS {α:Type} {T:Nat→Nat} {k sz:Nat} {h:Heap} {a:AV} {xs:List α} {R:Nat→List AV→α→Prop} (g:LR T k sz h a xs R):a.isS∧a.slen=xs.length∧(∀g,AV.unc g a=a)∧a.one∧a.cells=[a]:=by
 obtain⟨cs,g1,_⟩:=g
 rcases g1.2 with ⟨rfl,h0⟩|⟨id,ver,rfl,_⟩
 ·exact⟨⟨rfl,rfl⟩,h0.symm,fun _=>rfl,rfl,rfl⟩
 ·exact⟨trivial,rfl,fun _=>rfl,trivial,rfl⟩
theorem cut_app {sz m:Nat} {cs ns:List AV} (hc:cs.length=m*sz) {i:Nat} (hi:i<m):((cs++ns).drop (i*sz)).take sz=(cs.drop (i*sz)).take sz:=by
 have hm:i*sz+sz≤m*sz:=by rw[←Nat.succ_mul];exact Nat.mul_le_mul_right _ hi
 rw[List.drop_append_of_le_length (by omega),List.take_append_of_le_length (by rw[List.length_drop];omega)]
theorem cut_new {sz m:Nat} {cs ns:List AV} (hc:cs.length=m*sz) (hn:ns.length=sz):((cs++ns).drop (m*sz)).take sz=ns:=by
 rw[←hc,List.drop_left,List.take_of_length_le (by omega)]
theorem LR.app {α:Type} {T':Nat→Nat} {k sz:Nat} {h':Heap} {xs:List α} {x:α} {R':Nat→List AV→α→Prop} {cs ns:List AV} {id ver:Nat} (hc:cs.length=xs.length*sz) (hn:ns.length=sz) (hT:T' id=k) (hb:h' id=some ⟨cs++ns,ver,true,sz⟩)
  (hR:∀i (hi:i<xs.length),R' i ((cs.drop (i*sz)).take sz) xs[i]) (hx:R' xs.length ns x):LR T' k sz h' (.s id ver 0 (xs.length+1)) (xs++[x]) R':=by
 refine⟨cs++ns,⟨by simp[hc,hn,Nat.succ_mul],.inr ⟨id,ver,by simp,hT,hb⟩⟩,fun i hi => ?_⟩
 by_cases h1:i<xs.length
 ·rw[cut_app hc h1,List.getElem_append_left h1];exact hR i h1
 ·obtain rfl:i=xs.length:=by simp at hi;omega
  rw[cut_new hc hn]
  simpa using hx
theorem Mv.wr {T:Nat→Nat} {h:Heap} {n n' id:Nat} (ht:∀i,n≤i→T i=0) (hn:Fresh n h) (hid:T id≠0) (hi:id<n) (hnn:n≤n') (b:Blk):Mv (fun k=>k=T id) T h n T (up h id (some b)) n' :=
 ⟨hnn,fun _ _=>rfl,fun i h1 h2=>by
  by_cases e:i=id
  ·subst e;exact absurd ⟨hid,rfl⟩ h2
  ·exact up_ne _ _ e,fun i h1=>ht i (by omega),(fresh_up (by omega) _).2 fun i h1=>hn i (by omega)⟩
theorem Mv.nw {T:Nat→Nat} {h:Heap} {n n':Nat} (ht:∀i,n≤i→T i=0) (hn:Fresh n h) (hnn:n<n') (k:Nat) (b:Blk) {K:Nat→Prop} {m:Nat} (hm:n≤m) (hm':m<n'):Mv K T h n (fun i=>if i=m then k else T i) (up h m (some b)) n' :=
 ⟨by omega,fun i hi=>if_neg (by omega),fun i h1 _=>up_ne _ _ (by omega),fun i h1=>by rw[if_neg (by omega)];exact ht i (by omega),(fresh_up (by omega) _).2 fun i h1=>hn i (by omega)⟩
def isSl (f:ByteArray→Option (Bool×Nat)) (cs:List AV):Prop:=mokV cs∧∀z,mfind z cs=(f z).map fun p=>.v (.agg #[.bool p.1,.int .i64 p.2])
theorem isSl_nil:isSl (fun _=>none) []:=⟨trivial,fun _=>rfl⟩
theorem msetV_ok (z:ByteArray) (v:Value):∀l:List AV,mokV l→mokV (mset z (.v v) l)
 | [],_=>trivial
 | .v (.string k) :: .v m::r,h=>by
  simp only[mset]
  split
  ·exact h
  ·exact msetV_ok z v r h
theorem msetV_find (z z':ByteArray) (v:AV):∀l:List AV,mokV l→mfind z' (mset z v l)=if z'=z then some v else mfind z' l
 | [],_=>by
  simp only[mset,mfind,ba_dec]
  by_cases h:z'=z<;>simp[h]
 | .v (.string k) :: .v m::r,h=>by
  have ih:=msetV_find z z' v r h
  by_cases h1:z=k
  ·subst h1
   simp only[mset,mfind,ba_dec,decide_true,if_true]
   by_cases h2:z'=z<;>simp[h2]
  ·simp only[mset,mfind,ba_dec,h1,decide_false,Bool.false_eq_true,if_false]
   by_cases h2:z'=k
   ·subst h2
    have:¬z'=z:=fun e=>h1 e.symm
    simp[this]
   ·simp only[h2,decide_false,Bool.false_eq_true,if_false]
    exact ih
theorem isSl_set {f:ByteArray→Option (Bool×Nat)} {cs:List AV} (h:isSl f cs) (k:ByteArray) (p:Bool×Nat):isSl (fun z=>if z=k then some p else f z) (mset k (.v (.agg #[.bool p.1,.int .i64 p.2])) cs) :=
 ⟨msetV_ok k _ cs h.1,fun z=>by rw[msetV_find k z _ cs h.1];by_cases e:z=k<;>simp[e,h.2]⟩
def CmpR (T:Nat→Nat) (h:Heap) (i:Nat) (l:List AV) (c:Cmp):Prop:=∃ty ow cn,l=[ii c.item,ty,ii c.lo,ii c.hi,ow,cn]∧rd dIs (still T h) ty=some c.types∧LL dPrg 2 T (16+4*i) h ow c.own∧LL dCdg 4 T (17+4*i) h cn c.conds
def NgR (T:Nat→Nat) (h:Heap) (i:Nat) (l:List AV) (c:Ng):Prop:=∃ty ow rs,l=[ii c.item,ty,ii c.after,ii c.before,ow,rs]∧rd dIs (still T h) ty=some c.types∧LL dPrg 2 T (18+4*i) h ow c.own∧LL dPrg 2 T (19+4*i) h rs c.rest
theorem CmpR.mv {K:Nat→Prop} {T T':Nat→Nat} {h h':Heap} {n n' i:Nat} {l:List AV} {c:Cmp} (g:CmpR T h i l c) (v:Mv K T h n T' h' n') (hn:Fresh n h) (h1:¬K (16+4*i)) (h2:¬K (17+4*i)):CmpR T' h' i l c:=by
 obtain⟨ty,ow,cn,e1,e2,e3,e4⟩:=g
 exact⟨ty,ow,cn,e1,rd_mono (v.still hn) e2,e3.mv v hn fun h=>h1 h.2,e4.mv v hn fun h=>h2 h.2⟩
theorem NgR.mv {K:Nat→Prop} {T T':Nat→Nat} {h h':Heap} {n n' i:Nat} {l:List AV} {c:Ng} (g:NgR T h i l c) (v:Mv K T h n T' h' n') (hn:Fresh n h) (h1:¬K (18+4*i)) (h2:¬K (19+4*i)):NgR T' h' i l c:=by
 obtain⟨ty,ow,cn,e1,e2,e3,e4⟩:=g
 exact⟨ty,ow,cn,e1,rd_mono (v.still hn) e2,e3.mv v hn fun h=>h1 h.2,e4.mv v hn fun h=>h2 h.2⟩
structure Pt where
 sa:AV
 qa:AV
 qb:AV
 qc:AV
 ca:AV
 na:AV
 fa:AV
 ua:AV
 la:AV
 ra:AV
structure BS (hB:Heap) (n1 bid mid:Nat) (T:Nat→Nat) (h:Heap) (n:Nat) (sc:List Ty) (q:Qu) (sa qa qb qc:AV):Prop where
 sch:rd dTys (still T h) sa=some sc
 qu:deQ (still T h) (.g [qa,ii q.mode,ii q.after,qb,ii q.within,ss q.par,qc])=some q
 tb:T bid=7
 tm:T mid=8
 b1:bid<n1
 m1:mid<n1
 low:∀i,i<n1→i≠bid→i≠mid→T i=9
 kp:∀i,i<n1→i≠bid→i≠mid→h i=hB i
 nn:n1≤n
 fr:Fresh n h
 tn:∀i,n≤i→T i=0
theorem BS.mv {K:Nat→Prop} {hB:Heap} {n1 bid mid:Nat} {T T':Nat→Nat} {h h':Heap} {n n':Nat} {sc:List Ty} {q:Qu} {sa qa qb qc:AV} (b:BS hB n1 bid mid T h n sc q sa qa qb qc) (v:Mv K T h n T' h' n') (hK:¬K 9):BS hB n1 bid mid T' h' n' sc q sa qa qb qc where
 sch:=rd_mono (v.still b.fr) b.sch
 qu:=by
  obtain⟨a,b',c,e0,e1,e2,e3⟩:=deQ_out b.qu
  cases e0
  exact deQ_in (rd_mono (v.still b.fr) e1) (rd_mono (v.still b.fr) e2) (rd_mono (v.still b.fr) e3)
 tb:=by rw[v.old _ (by have:=b.b1;have:=b.nn;omega)];exact b.tb
 tm:=by rw[v.old _ (by have:=b.m1;have:=b.nn;omega)];exact b.tm
 b1:=b.b1
 m1:=b.m1
 low i hi h1 h2:=by rw[v.old _ (by have:=b.nn;omega)];exact b.low i hi h1 h2
 kp i hi h1 h2:=by rw[v.keep _ (by have:=b.nn;omega) fun h=>hK (by rw[b.low i hi h1 h2]at h;exact h.2)];exact b.kp i hi h1 h2
 nn:=Nat.le_trans b.nn v.nn
 fr:=v.fr
 tn:=v.new
def bcells (p:Pt) (P:Pl) (mid:Nat):List AV:=[p.sa,p.qa,ii P.q.mode,ii P.q.after,p.qb,ii P.q.within,ss P.q.par,p.qc,p.ca,p.na,p.fa,p.ua,p.la,p.ra,bv P.lead,bv P.tail,.mv mid 0]
structure BI (hB:Heap) (n1 bid mid:Nat) (T:Nat→Nat) (h:Heap) (n:Nat) (p:Pt) (P:Pl) (f:ByteArray→Option (Bool×Nat)):Prop where
 s:BS hB n1 bid mid T h n P.sc P.q p.sa p.qa p.qb p.qc
 bb:h bid=some ⟨bcells p P mid,0,true,17⟩
 mm:∃cs,h mid=some ⟨cs,0,true,0⟩∧isSl f cs
 cm:LR T 1 6 h p.ca P.comps (CmpR T h)
 ng:LR T 2 6 h p.na P.negs (NgR T h)
 fx:LL dPrg 2 T 3 h p.fa P.fixed
 us:LL De.bool 1 T 4 h p.ua P.used
 cl:LL (De.int .i64) 1 T 5 h p.la P.cols
 rt:LL dPrg 2 T 6 h p.ra P.ret
theorem BI.mv {hB:Heap} {n1 bid mid:Nat} {T T':Nat→Nat} {h h':Heap} {n n':Nat} {p:Pt} {P:Pl} {f:ByteArray→Option (Bool×Nat)} (b:BI hB n1 bid mid T h n p P f) (v:Mv (fun _=>False) T h n T' h' n'):BI hB n1 bid mid T' h' n' p P f where
 s:=b.s.mv v id
 bb:=by
  have:=b.s.b1
  have:=b.s.nn
  rw[v.keep _ (by omega) fun h=>h.2];exact b.bb
 mm:=by
  obtain⟨cs,h1,h2⟩:=b.mm
  have:=b.s.m1
  have:=b.s.nn
  exact⟨cs,by rw[v.keep _ (by omega) fun h=>h.2];exact h1,h2⟩
 cm:=b.cm.mv v b.s.fr (fun h=>h.2) fun i l x _ g=>g.mv v b.s.fr id id
 ng:=b.ng.mv v b.s.fr (fun h=>h.2) fun i l x _ g=>g.mv v b.s.fr id id
 fx:=b.fx.mv v b.s.fr fun h=>h.2
 us:=b.us.mv v b.s.fr fun h=>h.2
 cl:=b.cl.mv v b.s.fr fun h=>h.2
 rt:=b.rt.mv v b.s.fr fun h=>h.2
section
structure Rdr (α:Type) where
 run:Heap→AV→Option α
 sim:∀{h h':Heap} {a:AV} {x:α},h.sim h'→run h a=some x→run h' a=some x
def rSc:Rdr (List Ty):=⟨deSc,fun hh e=>deSc_sim hh e⟩
def rQ:Rdr Qu:=⟨deQ,fun hh e=>deQ_sim hh e⟩
def rL {α:Type} (d:De α):Rdr α:=⟨rd d,fun hh e=>rd_sim hh e⟩
def rS:Rdr ByteArray:=⟨fun _ a=>deS a,fun _ e=>e⟩
def rI:Rdr Int:=⟨fun _ a=>deI a,fun _ e=>e⟩
def rB:Rdr Bool:=⟨fun _ a=>deB a,fun _ e=>e⟩
def rN:Rdr Nd:=⟨fun _ a=>deN a,fun _ e=>e⟩
def rG {α:Type} (d:De α):Rdr α where
 run h a:=match a with
  | .g l=>d.run h l
  | _=>none
 sim {h h' a x} hh e:=by
  split at e
  ·exact d.sim hh e
  ·cases e
theorem rG_out {α:Type} {d:De α} {h:Heap} {a:AV} {x:α} (e:(rG d).run h a=some x):∃l,a=.g l∧d.run h l=some x:=by
 simp only[rG]at e
 split at e
 ·exact⟨_,rfl,e⟩
 ·cases e
def rIt:Rdr It:=rG dIt
theorem rIt_out {h:Heap} {a:AV} {x:It} (e:rIt.run h a=some x):∃ty,a=.g [bv x.neg,ty,ss x.var,ii x.lo,ii x.hi]∧rd dSs h ty=some x.types:=by
 obtain⟨l,rfl,e1⟩:=rG_out e
 obtain⟨ty,rfl,h1⟩:=deItc_out e1
 exact⟨ty,rfl,h1⟩
section
variable {α β γ δ:Type} (ra:Rdr α) (rb:Rdr β) (rc:Rdr γ) (re:Rdr δ)
def de1 (h:Heap):List AV→Option α
 | [a]=>ra.run h a
 | _=>none
def de2 (h:Heap):List AV→Option (α×β)
 | [a,b]=>(ra.run h a).bind fun x=>(rb.run h b).map fun y=>(x,y)
 | _=>none
def de3 (h:Heap):List AV→Option (α×β×γ)
 | [a,b,c]=>(ra.run h a).bind fun x=>(rb.run h b).bind fun y=>(rc.run h c).map fun z=>(x,y,z)
 | _=>none
def de4 (h:Heap):List AV→Option (α×β×γ×δ)
 | [a,b,c,d]=>(ra.run h a).bind fun x=>(rb.run h b).bind fun y=>(rc.run h c).bind fun z=>(re.run h d).map fun u=>(x,y,z,u)
 | _=>none
variable {ra rb rc re}
theorem de1_out {h:Heap} {l:List AV} {q:α} (e:de1 ra h l=some q):∃a,l=[a]∧ra.run h a=some q:=by
 unfold de1 at e
 split at e
 ·exact⟨_,rfl,e⟩
 ·cases e
theorem de2_out {h:Heap} {l:List AV} {q:α×β} (e:de2 ra rb h l=some q):∃a b,l=[a,b]∧ra.run h a=some q.1∧rb.run h b=some q.2:=by
 unfold de2 at e
 split at e
 ·simp only[Option.bind_eq_some_iff,Option.map_eq_some_iff]at e
  obtain⟨x,e1,y,e2,rfl⟩:=e
  exact⟨_,_,rfl,e1,e2⟩
 ·cases e
theorem de3_out {h:Heap} {l:List AV} {q:α×β×γ} (e:de3 ra rb rc h l=some q):∃a b c,l=[a,b,c]∧ra.run h a=some q.1∧rb.run h b=some q.2.1∧rc.run h c=some q.2.2:=by
 unfold de3 at e
 split at e
 ·simp only[Option.bind_eq_some_iff,Option.map_eq_some_iff]at e
  obtain⟨x,e1,y,e2,z,e3,rfl⟩:=e
  exact⟨_,_,_,rfl,e1,e2,e3⟩
 ·cases e
theorem de4_out {h:Heap} {l:List AV} {q:α×β×γ×δ} (e:de4 ra rb rc re h l=some q):∃a b c d,l=[a,b,c,d]∧ra.run h a=some q.1∧rb.run h b=some q.2.1∧rc.run h c=some q.2.2.1∧re.run h d=some q.2.2.2:=by
 unfold de4 at e
 split at e
 ·simp only[Option.bind_eq_some_iff,Option.map_eq_some_iff]at e
  obtain⟨x,e1,y,e2,z,e3,u,e4,rfl⟩:=e
  exact⟨_,_,_,_,rfl,e1,e2,e3,e4⟩
 ·cases e
theorem de1_mono (h h':Heap) (l:List AV) (q:α) (hh:h.le h') (e:de1 ra h l=some q):de1 ra h' l=some q:=by
 obtain⟨a,rfl,e1⟩:=de1_out e
 exact ra.sim hh.sim e1
theorem de2_mono (h h':Heap) (l:List AV) (q:α×β) (hh:h.le h') (e:de2 ra rb h l=some q):de2 ra rb h' l=some q:=by
 obtain⟨a,b,rfl,e1,e2⟩:=de2_out e
 simp only[de2,ra.sim hh.sim e1,rb.sim hh.sim e2,Option.bind_some,Option.map_some]
theorem de3_mono (h h':Heap) (l:List AV) (q:α×β×γ) (hh:h.le h') (e:de3 ra rb rc h l=some q):de3 ra rb rc h' l=some q:=by
 obtain⟨a,b,c,rfl,e1,e2,e3⟩:=de3_out e
 simp only[de3,ra.sim hh.sim e1,rb.sim hh.sim e2,rc.sim hh.sim e3,Option.bind_some,Option.map_some]
theorem de4_mono (h h':Heap) (l:List AV) (q:α×β×γ×δ) (hh:h.le h') (e:de4 ra rb rc re h l=some q):de4 ra rb rc re h' l=some q:=by
 obtain⟨a,b,c,d,rfl,e1,e2,e3,e4⟩:=de4_out e
 simp only[de4,ra.sim hh.sim e1,rb.sim hh.sim e2,rc.sim hh.sim e3,re.sim hh.sim e4,Option.bind_some,Option.map_some]
theorem de1_len (h:Heap) (l:List AV) (q:α) (e:de1 ra h l=some q):l.length≤1:=by obtain⟨a,rfl,_⟩:=de1_out e;exact Nat.le_refl _
theorem de2_len (h:Heap) (l:List AV) (q:α×β) (e:de2 ra rb h l=some q):l.length≤2:=by obtain⟨a,b,rfl,_⟩:=de2_out e;exact Nat.le_refl _
theorem de3_len (h:Heap) (l:List AV) (q:α×β×γ) (e:de3 ra rb rc h l=some q):l.length≤3:=by obtain⟨a,b,c,rfl,_⟩:=de3_out e;exact Nat.le_refl _
theorem de4_len (h:Heap) (l:List AV) (q:α×β×γ×δ) (e:de4 ra rb rc re h l=some q):l.length≤4:=by obtain⟨a,b,c,d,rfl,_⟩:=de4_out e;exact Nat.le_refl _
theorem Rdr.agree (ra:Rdr α) {h:Heap} {n:Nat} {a:AV} {x:α} (hn:∀i,n≤i→h i=none) (e:ra.run h a=some x):∀h',agree n (roH h) h'→ra.run h' a=some x:=fun _ ha=>ra.sim (agree_sim hn ha) e
end
theorem acall_of_pure {S0 S : List Nat} {pf : FuncId → Option (List AV → Heap → PRes)} {f : FuncId} {fn : Func} {g : List AV → Heap → PRes} (hs0 : ∀ x ∈ S0, x ∈ S) (hp : P0 S0 f g) (hf : Tryz.prog.funcs[f]? = some fn) (hn : (fn.name == "runtime.NumGoroutine") = false) (hb : fn.body.isNone = false) {args : List AV} {h : Heap} {n : Nat} (hs : (g args h).side) :
  ACall (cx S pf) f args h n fun v h' n'=>v=(g args h).val∧h'=h∧n'=n:=by
 have hp:PureOk (cx S pf) f g:=pure_any hs0 hp
 have hc:=callable hf hn hb S pf
 refine⟨hc,fun K w0 ρ w vs r hv => ?_⟩
 have hm:∃m,∀j,m≤j→(∀ver,ρ j ver=none)∧h j=none:=⟨n,fun j hj=>r.free j hj⟩
 rcases hp.2 with ⟨_,h2⟩|h2
 ·exact (h2 ρ h w args vs r.ro hm hv hs).mono fun e w' ⟨y,h3,h4,h5⟩=>⟨y,h3,ρ,_,h,n,Ren.le_refl ρ,h4,r.below h5,rfl,rfl,rfl⟩
 ·obtain⟨y,e9,_⟩:=h2 ρ h w args vs hv hs
  rw[hc]at e9
  cases e9
end
def GTy:=pureH (de2 rSc rS) (fun q=>q.1.length<big) fun q=>ii (typeOf q.1 q.2)
theorem rS_out {h:Heap} {a:AV} {x:ByteArray} (e:rS.run h a=some x):a=ss x:=by
 simp only[rS]at e
 unfold deS at e
 split at e
 ·cases e;rfl
 ·cases e
theorem typeOf_hit {sc:List Ty} {v:ByteArray} {j:Nat} (hj:j<sc.length) (hno:∀i,i<j→((sc.getD i ty0).name==v)=false) (hh:((sc.getD j ty0).name==v)=true):typeOf sc v=j:=by
 have hl:(sc.map (·.name)).length=sc.length:=by simp
 have hg:∀i,i<sc.length→(sc.map (·.name)).getD i ByteArray.empty=(sc.getD i ty0).name:=fun i hi=>by
  simp[List.getD_eq_getElem?_getD,List.getElem?_eq_getElem hi]
 have hf:=fi_hit (l:=sc.map (·.name)) (v:=v) (j:=j) (by omega) (fun i hi=>by rw[hg i (by omega)];exact hno i hi) (by rw[hg j hj];exact hh)
 unfold typeOf ixOf
 rw[hf,if_pos (by omega)]
theorem typeOf_none {sc:List Ty} {v:ByteArray} (hno:∀i,i<sc.length→((sc.getD i ty0).name==v)=false):typeOf sc v=-1:=by
 have hl:(sc.map (·.name)).length=sc.length:=by simp
 have hf:=fi_none (l:=sc.map (·.name)) (v:=v) (fun i hi=>by
  have hi':i<sc.length:=by omega
  have:(sc.map (·.name)).getD i ByteArray.empty=(sc.getD i ty0).name:=by simp[List.getD_eq_getElem?_getD,List.getElem?_eq_getElem hi']
  rw[this];exact hno i hi')
 unfold typeOf ixOf
 rw[hf,if_neg (by omega)]
theorem upTo_succ {p:Nat→Prop} {j:Nat} (h:∀i,i<j→p i) (hj:p j):∀i,i<j+1→p i:=fun i hi=>by
 by_cases e:i=j
 ·rw[e];exact hj
 ·exact h i (by omega)
theorem P112:P0 [] 112 GTy:=by
 refine mkH 2 (S:=[]) (l:=[]) tb_nil Tryz.func112 rfl (by kernel_rfl) de2_mono de2_len (fun a=>rfl) (fun args q h n e hp hn => ?_)
 obtain⟨x,b,rfl,e1,e2⟩:=de2_out e
 obtain⟨sc,v⟩:=q
 simp only[]at e1 e2 hp ⊢
 have:=rS_out e2;subst this
 obtain⟨a,rfl,e3⟩:=deSc_out e1
 obtain⟨s1,s2,s3,s4,s5⟩:=sl_is e3
 have key:∀e:Nat→AV,e 0=.g [a]→e 1=ss v→awp (cx [] (pfL [])) (Tryz.f112.body.getD .skip) (finQ (cx [] (pfL [])) Tryz.f112 fun z _ _=>z=ii (typeOf sc v)) ⟨e,roH h,n⟩:=fun e q0 q1=>by
  simp[evx,Tryz.f112,q0,ii,s1,s2,s4]
  refine awp_loop (fun s=>∃j:Nat,j≤sc.length∧s.e 1=ss v∧s.e 8=a∧s.e 9=ii sc.length∧s.e 10=ii j∧agree n (roH h) s.h∧n≤s.n∧∀i,i<j→((sc.getD i ty0).name==v)=false) (fun s=>sc.length-(s.e 10).i.toNat) ⟨0,by simp[up,q1,ii,ss,agree_up,agree_refl]⟩ ?_
  rintro e' h' n' ⟨j,hj,q1,q8,q9,q10,hag,hnn,hno⟩
  simp only[]at q1 q8 q9 q10 hag hnn
  by_cases hlt:j<sc.length
  ·rcases tys_at e3 with ⟨h0,_⟩|⟨id,off,k,rfl,hk,ho,hat⟩
   ·rw[h0]at hlt;simp at hlt
   obtain⟨r1,c,r2,r3⟩:=hat j hlt
   have u1:=(sl_is r3).2.2.1
   have u2:=(sl_is r3).2.2.2.1
   have u3:=(sl_is r3).2.2.2.2
   have ha':=agree_at hn hk hag
   have hw:=wrap_nat (j:=j) (by omega)
   have hw1:off+(j*2+2)≤k.cells.length:=by omega
   have hgj:sc.getD j ty0=sc[j]:=by rw[List.getD_eq_getElem?_getD,List.getElem?_eq_getElem hlt];rfl
   have hhit:=typeOf_hit (v:=v) hlt hno
   have hmiss:=fun hy=>upTo_succ (p:=fun i=>((sc.getD i ty0).name==v)=false) hno hy
   rw[hgj]at hhit hmiss
   have hne:=ne_of hk hn
   generalize sc[j].name=y at *
   cases hy:(y==v)with
   | true =>
    have h1:=hhit hy
    simp[evx,q1,q8,q9,q10,ii,ss,hlt,ha',r1,r2,hw1,u2,hy,h1]
   | false =>
    have h1:=hmiss hy
    simp[evx,q1,q8,q9,q10,ii,ss,hlt,ha',r1,r2,hw1,u2,hy,hw,agree_up,hnn,hag]
    exact⟨⟨j+1,by omega,by omega,by omega,fun i hi=>by have:=h1 i hi;rwa [List.getD_eq_getElem?_getD]at this⟩,by omega⟩
  ·obtain rfl:j=sc.length:=by omega
   have h1:=typeOf_none hno
   simp[evx,q9,q10,ii,h1]
 exact key _ rfl rfl
theorem its_getD {h:Heap} {a:AV} {l:List It} (e:rd dIts h a=some l) {i:Nat} (hi:i<l.length):∃id off k ty,a=.s id k.ver off l.length∧h id=some k∧off+l.length*5≤k.cells.length∧
  k.cells[off+i*5]? = some (bv (l.getD i it0).neg)∧k.cells[off+(i*5+1)]? = some ty∧k.cells[off+(i*5+2)]? = some (ss (l.getD i it0).var)∧k.cells[off+(i*5+3)]? = some (ii (l.getD i it0).lo)∧k.cells[off+(i*5+4)]? = some (ii (l.getD i it0).hi)∧rd dSs h ty=some (l.getD i it0).types:=by
 rcases sl_at e with ⟨h0,_⟩|⟨id,off,k,h1,h2,h3,h4⟩
 ·rw[h0]at hi;simp at hi
 ·have hg:l.getD i it0=l[i]:=by rw[List.getD_eq_getElem?_getD,List.getElem?_eq_getElem hi];rfl
  obtain⟨ty,h5,h6⟩:=deItc_out (h4 i hi)
  have c0:=cell_of (c:=0) h5 rfl (by omega)
  have c1:=cell_of (c:=1) h5 rfl (by omega)
  have c2:=cell_of (c:=2) h5 rfl (by omega)
  have c3:=cell_of (c:=3) h5 rfl (by omega)
  have c4:=cell_of (c:=4) h5 rfl (by omega)
  simp only[Nat.add_zero]at c0
  rw[Nat.add_assoc]at c1 c2 c3 c4
  rw[hg]
  exact⟨id,off,k,ty,h1,h2,h3,c0,c1,c2,c3,c4,h6⟩
theorem ss_getD {h:Heap} {a:AV} {l:List ByteArray} (e:rd dSs h a=some l) {i:Nat} (hi:i<l.length):∃id off k,a=.s id k.ver off l.length∧h id=some k∧off+l.length≤k.cells.length∧k.cells[off+i]? = some (ss (l.getD i ByteArray.empty)):=by
 rcases ss_at e with ⟨h0,_⟩|⟨id,off,k,h1,h2,h3,h4⟩
 ·rw[h0]at hi;simp at hi
 ·have hg:l.getD i ByteArray.empty=l[i]:=by rw[List.getD_eq_getElem?_getD,List.getElem?_eq_getElem hi];rfl
  exact⟨id,off,k,h1,h2,h3,by rw[hg];exact h4 i hi⟩
theorem all_getD {α:Type} {l:List α} {p:α→Bool} (d:α):l.all p=true↔∀i,i<l.length→p (l.getD i d)=true:=by
 rw[List.all_eq_true]
 constructor
 ·intro h i hi
  rw[List.getD_eq_getElem?_getD,List.getElem?_eq_getElem hi]
  exact h _ (List.getElem_mem hi)
 ·intro h x hx
  obtain⟨i,hi,rfl⟩:=List.mem_iff_getElem.1 hx
  have:=h i hi
  rwa [List.getD_eq_getElem?_getD,List.getElem?_eq_getElem hi]at this
theorem allG_no {α:Type} {l:List α} {p:α→Bool} {d:α} {i:Nat} (hi:i<l.length) (h:p (l.getD i d)=false):l.all p=false:=by
 cases hx:l.all p with
 | false=>rfl
 | true=>rw[(all_getD d).1 hx i hi]at h;cases h
def GHas:=pureH (de3 rSc rIt rS) (fun q=>smallS q.1∧q.2.1.types.length<big) fun q=>bv (hasA q.1 q.2.1 q.2.2)
def tbHas:List (FuncId×(List AV→Heap→PRes)):=[(112,GTy),(116,GAt)]
theorem P153:P0 [] 153 GHas:=by
 refine mkH 3 (S:=[]) (l:=tbHas) (tb_cons P112 (tb_cons P121 tb_nil)) Tryz.func153 rfl (by kernel_rfl) de3_mono de3_len (fun a=>rfl) (fun args q h n e hp hn => ?_)
 obtain⟨x,b,c,rfl,e1,e2,e3⟩:=de3_out e
 obtain⟨sc,it,v⟩:=q
 simp only[]at e1 e2 e3 hp ⊢
 have:=rS_out e3;subst this
 obtain⟨ty,rfl,e4⟩:=rIt_out e2
 have g1:=sc_agree hn e1
 obtain⟨a,rfl,e5⟩:=deSc_out e1
 obtain⟨s1,s2,s3,s4,s5⟩:=sl_is e4
 obtain⟨t1,t2,t3,t4,t5⟩:=sl_is e5
 obtain⟨hp1,hp2⟩:=hp
 have hp0:=hp1.1
 have key:∀e:Nat→AV,e 0=.g [a]→e 1=.g [bv it.neg,ty,ss it.var,ii it.lo,ii it.hi]→e 2=ss v→awp (cx [] (pfL tbHas)) (Tryz.f153.body.getD .skip) (finQ (cx [] (pfL tbHas)) Tryz.f153 fun z _ _=>z=bv (hasA sc it v)) ⟨e,roH h,n⟩:=fun e q0 q1 q2=>by
  simp[evx,Tryz.f153,q0,q1,ii,ss,bv,s1,s2,s4,t4]
  refine awp_loop (fun s=>∃j:Nat,j≤it.types.length∧s.e 2=ss v∧s.e 3=.p n 0 0∧s.e 10=ty∧s.e 11=ii it.types.length∧s.e 12=ii j∧agree n (roH h) s.h∧s.h n=some ⟨[a],0,true,1⟩∧∀i,i<j→decide (attrOf sc (typeOf sc (it.types.getD i ByteArray.empty)) v≠-1)=true) (fun s=>it.types.length-(s.e 12).i.toNat) ⟨0,by simp[up,q2,ii,ss,agree_up,agree_refl]⟩ ?_
  rintro e' h' n' ⟨j,hj,q2,q3,q10,q11,q12,hag,hbk,hno⟩
  simp only[]at q2 q3 q10 q11 q12 hag hbk
  by_cases hlt:j<it.types.length
  ·obtain⟨id,off,k,rfl,hk,ho,hat⟩:=ss_getD e4 hlt
   have ha':=agree_at hn hk hag
   have hw:=wrap_nat (j:=j) (by omega)
   have hw1:off+(j+1)≤k.cells.length:=by omega
   have hmiss:=fun hy=>upTo_succ (p:=fun i=>decide (attrOf sc (typeOf sc (it.types.getD i ByteArray.empty)) v≠-1)=true) hno hy
   have hhit:decide (attrOf sc (typeOf sc (it.types.getD j ByteArray.empty)) v≠-1)=false→hasA sc it v=false:=fun hy=>allG_no (d:=ByteArray.empty) hlt hy
   generalize it.types.getD j ByteArray.empty=y at *
   by_cases hy:attrOf sc (typeOf sc y) v=-1
   ·have h1:=hhit (by simp[hy])
    simp[evx,q2,q3,q10,q11,q12,ii,ss,hlt,ha',hat,hw1,hbk,tbHas,GTy,GAt,pureH,de2,rSc,rS,deAt,deS,g1,hag,hp1,hp0,hy,h1]
   ·have h1:=hmiss (by simp[hy])
    simp[evx,q2,q3,q10,q11,q12,ii,ss,hlt,ha',hat,hw1,hbk,tbHas,GTy,GAt,pureH,de2,rSc,rS,deAt,deS,g1,hag,hp1,hp0,hy,hw]
    exact⟨⟨j+1,by omega,by omega,fun i hi=>by have:=h1 i hi;simpa using this⟩,by omega⟩
  ·obtain rfl:j=it.types.length:=by omega
   have h1:hasA sc it v=true:=(all_getD ByteArray.empty).2 hno
   simp[evx,q11,q12,ii,h1]
 exact key _ rfl rfl rfl
end Go.Proofs.YtbffkkeieihpdaaGreatDoor
