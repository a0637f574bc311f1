import Derived.Test.YtbffkkeieihpdaaGreatDoorE06
set_option linter.unusedSimpArgs false
set_option linter.unusedVariables false
set_option linter.constructorNameAsVariable false
set_option maxRecDepth 100000
set_option maxHeartbeats 4000000
namespace Go.Eng
open Go Go.RowKit
def zJd (ops:Array Oper) (o:Oper):List Tmp :=
 (o.op.operands.toList.filterMap fun x=>match x with | .tmp t=>some t|_=>none)++(match o.guard with|some (j,_)=>(ystop ops j).toList|none=>[])
def zG3 (X:Ctx) (ops:Array Oper) (b:Array Nat) (C:List Bool) (i:Nat) (o:Oper):Bool :=
 (o.after.toList.all fun e => !Region.binds .any e||decide (e.on<i)) &&
 if C.getD i false then
  ((zJd ops o).all fun t=>ops.toList.zipIdx.all fun p=>p.1.dst != some t||p.2==i||(if C.getD p.2 false then (if p.2<i then zFn b i p.2 else zFn b p.2 i)else decide (i<p.2)&&zFn b p.2 i)) &&
  (match o.dst with|some d=>ops.toList.zipIdx.all fun p=>p.1.dst != some d||p.2==i|none=>true) &&
  (match o.op with | .load _ (.tmp t)=>ops.toList.zipIdx.all fun p=>p.1.dst != some t||decide (p.2<i) || !C.getD p.2 false|_=>true)
 else
  ((zJd ops o).all fun t=>ops.toList.zipIdx.all fun p=>p.1.dst != some t || !C.getD p.2 false||zFn b i p.2) &&
  (monoOp X o||appNew ops o||X.two||(List.range ops.size).all fun k => !C.getD k false||zOu ops k||zFn b i k)
def zE0 (X:Ctx) (ops:Array Oper):Bool:=ops.toList.zipIdx.all fun p=>zG3 X ops (Region.before ops) (zTv X ops.toList []) p.2 p.1
theorem zRp (pre:List Oper):∀(l:List Oper) (acc:Array Nat),acc.size=pre.length→
  (∀i j,i<acc.size→(acc.getD i 0).testBit j=true→∃o,pre[i]? = some o∧∃e∈o.after.toList,Region.binds .any e=true∧(e.on=j∨(e.on<i∧(acc.getD e.on 0).testBit j=true)))→
  let acc':=l.foldl (fun acc o=>acc.push (o.after.foldl (fun s e=>if Region.binds .any e then s ||| 2^e.on ||| acc.getD e.on 0 else s) 0)) acc
  acc'.size=(pre++l).length∧∀i j,i<acc'.size→(acc'.getD i 0).testBit j=true→∃o,(pre++l)[i]? = some o∧∃e∈o.after.toList,Region.binds .any e=true∧(e.on=j∨(e.on<i∧(acc'.getD e.on 0).testBit j=true)):=by
 intro l
 induction l generalizing pre with
 | nil =>
  intro acc h1 h2;simp only[List.foldl_nil,List.append_nil];exact⟨h1,h2⟩
 | cons o l ih =>
  intro acc h1 h2;simp only[List.foldl_cons];have:=ih (pre++[o]) (acc.push (o.after.foldl (fun s e=>if Region.binds .any e then s ||| 2^e.on ||| acc.getD e.on 0 else s) 0)) (by simp[h1]) ?_
  ·simpa using this
  ·intro i j hi ht
   have hold:∀q,q<acc.size→(acc.push (o.after.foldl (fun s e=>if Region.binds .any e then s ||| 2^e.on ||| acc.getD e.on 0 else s) 0)).getD q 0=acc.getD q 0:=fun q hq=>by
    simp only[wO];rw[Array.getElem?_push,if_neg (by omega)]
   by_cases hia:i<acc.size
   ·rw[hold i hia]at ht
    obtain⟨o',e1,e,e2,e3,e4⟩:=h2 i j hia ht;refine⟨o',by rw[zL (by omega)];exact e1,e,e2,e3,?_⟩
    rcases e4 with e4|⟨e4,e5⟩
    ·exact .inl e4
    ·exact .inr ⟨e4,by rw[hold _ (by omega)];exact e5⟩
   ·have hii:i=acc.size:=by simp at hi;omega
    subst hii;have hnew:(acc.push (o.after.foldl (fun s e=>if Region.binds .any e then s ||| 2^e.on ||| acc.getD e.on 0 else s) 0)).getD acc.size 0=o.after.foldl (fun s e=>if Region.binds .any e then s ||| 2^e.on ||| acc.getD e.on 0 else s) 0:=by
     simp[wO]
    rw[hnew,←Array.foldl_toList]at ht;refine⟨o,by rw[h1];simp,?_⟩
    have key:∀(es:List Edge) (s0:Nat),(es.foldl (fun s e=>if Region.binds .any e then s ||| 2^e.on ||| acc.getD e.on 0 else s) s0).testBit j=true→s0.testBit j=true∨∃e∈es,Region.binds .any e=true∧(e.on=j∨(acc.getD e.on 0).testBit j=true):=by
     intro es
     induction es with
     | nil=>intro s0 hs;exact .inl hs
     | cons e es ihe =>
      intro s0 hs;simp only[List.foldl_cons]at hs;rcases ihe _ hs with h3|⟨e',h3,h4⟩
      ·by_cases hb:Region.binds .any e=true
       ·simp only[hb,if_true,Nat.testBit_or,Bool.or_eq_true]at h3
        rcases h3 with (h3|h3)|h3
        ·exact .inl h3
        ·refine .inr ⟨e,by simp,hb,.inl ?_⟩
         rw[Nat.testBit_two_pow]at h3;simpa using h3
        ·exact .inr ⟨e,by simp,hb,.inr h3⟩
       ·simp only[hb]at h3
        exact .inl h3
      ·exact .inr ⟨e',by simp[h3],h4⟩
    rcases key _ _ ht with h3|⟨e,h3,h4,h5⟩
    ·simp at h3
    ·refine⟨e,h3,h4,?_⟩
     rcases h5 with h5|h5
     ·exact .inl h5
     ·by_cases hlt:e.on<acc.size
      ·exact .inr ⟨hlt,by rw[hold _ hlt];exact h5⟩
      ·simp[wO,wK (Nat.le_of_not_lt hlt)]at h5
theorem zRo (ops:Array Oper) (i j:Nat) (hw:zFn (Region.before ops) i j=true):∃o,ops[i]? = some o∧∃e∈o.after.toList,Region.binds .any e=true∧(e.on=j∨(e.on<i∧zFn (Region.before ops) e.on j=true)):=by
 have h:=zRp [] ops.toList #[] (by simp) (fun i j hi=>by simp at hi)
 have hb:Region.before ops=ops.toList.foldl (fun acc o=>acc.push (o.after.foldl (fun s e=>if Region.binds .any e then s ||| 2^e.on ||| acc.getD e.on 0 else s) 0)) #[]:=by
  unfold Region.before;rw[←Array.foldl_toList]
 simp only[List.nil_append,←hb]at h;have hi:i<(Region.before ops).size:=by
  by_cases hi:i<(Region.before ops).size
  ·exact hi
  ·simp[zFn,wO,wK (Nat.le_of_not_lt hi)]at hw
 obtain⟨o,h1,h2⟩:=h.2 i j hi hw;exact⟨o,by rw[←xC];exact h1,h2⟩
section
variable {X:Ctx} {K:Nat→Prop} {w0:World} {ops:Array Oper}
def Closed (ops:Array Oper) (listed:Array Bool):Prop:=∀j o,ops[j]? = some o→listed.getD j false=true→∀e∈o.after.toList,Region.binds .any e=true→listed.getD e.on false=true
theorem zFs {listed:Array Bool} (hc:Closed ops listed):∀(i j:Nat),zFn (Region.before ops) i j=true→(∀o,ops[i]? = some o→∀e∈o.after.toList,Region.binds .any e=true→listed.getD e.on false=true)→listed.getD j false=true:=by
 intro i
 induction i using Nat.strongRecOn with
 | _ i ih =>
  intro j hw hall;obtain⟨o,ho,e,he,hb,h1⟩:=zRo ops i j hw;have h2:=hall o ho e he hb;rcases h1 with rfl|⟨hlt,h3⟩
  ·exact h2
  ·exact ih e.on hlt j h3 fun o' ho' e' he' hb'=>hc e.on o' ho' h2 e' he' hb'
theorem Closed.set {listed:Array Bool} (hc:Closed ops listed) {i:Nat} (hi:i∈Region.ready .any ops listed):Closed ops (listed.setIfInBounds i true):=by
 intro j o ho hl e he hb;obtain⟨_,oi,hoi,hall⟩:=mem_ready.1 hi;by_cases hij:i=j
 ·subst hij
  rw[hoi]at ho;cases ho;exact getD_set_true (hall e (by simpa using he) hb)
 ·rw[getD_set_ne false hij]at hl
  exact getD_set_true (hc j o ho hl e he hb)
theorem zP5:∀(l:List Bool) (i:Nat),l[i]? = some false→(l.set i true).count true=l.count true+1
 | [],i,h=>by simp at h
 | b::l,0,h=>by simp at h;subst h;simp
 | b::l,i+1,h=>by
  simp only[List.getElem?_cons_succ]at h;simp only[List.set_cons_succ,List.count_cons,zP5 l i h];omega
theorem zTf {e e':Nat→AV} {op:Op} {guardSlots:List Tmp} (h:∀t∈(op.operands.toList.filterMap fun x=>match x with | .tmp t=>some t|_=>none)++guardSlots,e t=e' t):∀x∈op.operands.toList,Eng.ev e x=Eng.ev e' x:=by
 intro x hx;cases x with
 | tmp t=>exact h t (zCo _ (List.mem_filterMap.2 ⟨.tmp t,hx,rfl⟩))
 | _=>rfl
theorem zH8 {o:Oper} {e e':Nat→AV} {h:Heap} {i:Nat} {hp:Heap} (hl:∀t∈zJd ops o,e t=e' t):aop X ops o e h i hp=aop X ops o e' h i hp:=by
 unfold zJd at hl;have hev:=zTf hl;cases hg:o.guard with
 | none =>
  simp only[aop,hg];exact zG8 hev hp
 | some q =>
  obtain⟨j,want⟩:=q;have hy:yav ops e j=yav ops e' j:=by
   unfold yav;cases hs:ystop ops j with
   | none=>rfl
   | some d=>exact hl d (by simp[hg,hs])
  simp only[aop,hg,hy];have:=zG8 (X:=X) (h:=h) (i:=i) (op:=o.op) (f:=fun x=>AV.unc ((yav ops e' j).gd want) (Eng.ev e x)) (g:=fun x=>AV.unc ((yav ops e' j).gd want) (Eng.ev e' x)) (fun x hx=>by rw[hev x hx]) hp
  rw[this]
theorem zIh {o:Oper} (hq:quietOp X o=true):heapOp o.op=false:=by
 unfold quietOp at hq;unfold heapOp;cases ho:o.op<;>simp only[ho]at hq ⊢ <;> try (cases hq)
 rename_i c;cases hc:c.callee<;>simp only[hc]at hq ⊢
 rename_i b;cases b<;>simp_all
theorem zZo {o:Oper} {e:Nat→AV} {h:Heap} {i:Nat} {hp:Heap} (hq:quietOp X o=true):(aop X ops o e h i hp).h=h:=by
 unfold aop;cases o.guard with
 | none=>exact zIy _ _ _ (zIh hq)
 | some q=>rfl
theorem zX5 {h h':Heap} {a:AV} (hh:zEy h h' a) {n:Nat} (hs:lds X h a n):lds X h' a n∧∀j,j<n→ldc X h' a j=ldc X h a j:=by
 cases a with
 | p id ver off =>
  simp only[lds]at hs ⊢;cases hk:h id with
  | none=>simp[hk]at hs
  | some k =>
   simp only[hk]at hs;have hk':h' id=some k:=hh _ hk;simp only[hk'];exact⟨hs,fun j _=>by simp only[ldc,hk,hk']⟩
 | gp g off=>exact⟨hs,fun j _=>rfl⟩
 | _=>simp[lds]at hs
theorem zQ4 {h h':Heap} {a:AV}:∀(n i:Nat),(∀j,i≤j→j<i+n→ldc X h' a j=ldc X h a j)→ldcs X h' a i n=ldcs X h a i n
 | 0,_,_=>rfl
 | n+1,i,hj=>by
  simp only[ldcs];rw[hj i (zC _) (by omega),zQ4 n (i+1) fun j h1 h2=>hj j (by omega) (by omega)]
theorem zN4 {o:Oper} (hq:quietOp X o=true) {f:Operand→AV} {h h':Heap} {i i':Nat} {hp hp':Heap} (hph:goOp o=true→hp'=hp) (hh:∀t x,o.op=.load t x→zEy h h' (f x)) (hs:(aeval X o.op f h i hp).side):(aeval X o.op f h' i' hp').side∧(aeval X o.op f h' i' hp').val=(aeval X o.op f h i hp).val:=by
 unfold quietOp at hq;cases ho:o.op<;>simp only[ho]at hq hs ⊢ <;> try (cases hq)
 case load t x =>
  have hh:=hh t x ho;simp only[aeval]at hs ⊢;split at hs
  ·exact hs.elim
  ·rename_i hd
   simp only[hd]at hs ⊢;obtain⟨q1,q2⟩:=zX5 hh hs;exact⟨q1,by rw[zQ4 _ _ fun j _ hj=>q2 j (by omega)]⟩
  ·rename_i hd
   simp only[hd]at hs ⊢;obtain⟨q1,q2⟩:=zX5 hh hs;exact⟨q1,by rw[zQ4 _ _ fun j _ hj=>q2 j (by omega)]⟩
  ·obtain⟨q1,q2⟩:=zX5 hh hs
   exact⟨q1,q2 0 (by omega)⟩
 case call c =>
  obtain⟨callee,⟨args⟩,⟨ats⟩⟩:=c;cases callee with
  | value fo =>
   obtain rfl:=hph (by simp only[goOp,ho])
   cases fo<;>simp only at hq<;>try (cases hq)
   simp only[aeval]at hs ⊢;split<;>simp_all
  | builtin b =>
   cases b<;>simp only at hq<;>try (cases hq)
   all_goals
    simp only[aeval]at hs ⊢;split<;>simp_all
    try (split<;>simp_all)
  | _=>cases hq
 case binOp op xt x y b =>
  simp only[aeval]at hs ⊢
  repeat' split
  all_goals first
   | (simp_all;done)
   | (simp_all
      have hb:=yKb op (f x) (f y) h h';exact⟨hb.1.symm▸hs,hb.2⟩)
 case unOp op xt x =>
  simp only[aeval]at hs ⊢
  repeat' split
  all_goals simp_all
 case convert s d x =>
  simp only[aeval]at hs ⊢
  repeat' split
  all_goals simp_all
 case slice t x lo hi mx =>
  simp only[aeval]at hs ⊢
  repeat' split
  all_goals simp_all
 case fieldAddr t x f =>
  simp only[aeval]at hs ⊢
  repeat' split
  all_goals simp_all
 case indexAddr t x ix =>
  simp only[aeval]at hs ⊢
  repeat' split
  all_goals simp_all
 case extract x j =>
  simp only[aeval]at hs ⊢
  repeat' split
  all_goals simp_all
 case index t x ix =>
  simp only[aeval]at hs ⊢
  repeat' split
  all_goals simp_all
 case field t x f =>
  simp only[aeval]at hs ⊢
  repeat' split
  all_goals simp_all
 all_goals exact⟨hs,rfl⟩
theorem yCu {o:Oper} (hq:zLv o=true) (ops:Array Oper) (e:Nat→AV) (h h':Heap) (i i':Nat) (hp hp':Heap) :
  (aop X ops o e h' i' hp').side=(aop X ops o e h i hp).side∧(aop X ops o e h' i' hp').val=(aop X ops o e h i hp).val:=by
 obtain⟨dst,op,ty,pos,after,guard⟩:=o;cases op<;>simp only[zLv]at hq<;>(try cases hq)<;>(cases guard<;>exact⟨rfl,rfl⟩)
theorem yG2 {h h':Heap} {e:Nat→AV} {x:Operand} (hh:∀t,x=.tmp t→zEy h h' (e t)):zEy h h' (ev e x):=by
 cases x with
 | tmp t=>exact hh t rfl
 | const v =>
  simp only[ev];unfold constAV
  repeat' split
  all_goals trivial
 | _=>simp[ev,zEy]
theorem zZ3 {h h':Heap} (g:Bool) {v:AV} (hh:zEy h h' v):zEy h h' (AV.unc g v):=by
 cases v with
 | c b x =>
  simp only[AV.unc];split
  ·trivial
  ·exact hh
 | _=>exact hh
theorem zZn {o:Oper} (hq:quietOp X o=true) {e:Nat→AV} {h h':Heap} {i i':Nat} {hp hp':Heap} (hph:goOp o=true→hp'=hp) (hh:∀ty t,o.op=.load ty (.tmp t)→zEy h h' (e t)) (hs:(aop X ops o e h i hp).side) :
  (aop X ops o e h' i' hp').side∧∀ρ y,VR ρ (aop X ops o e h' i' hp').val y→VR ρ (aop X ops o e h i hp).val y:=by
 have hk:∀ty x,o.op=.load ty x→zEy h h' (ev e x):=fun ty x ho=>yG2 fun t ht=>hh ty t (by rw[ho,ht])
 cases hg:o.guard with
 | none =>
  simp only[aop,hg]at hs ⊢;obtain⟨q1,q2⟩:=zN4 (i':=i') hq hph hk hs;exact⟨q1,fun ρ y hy=>by rw[q2]at hy;exact hy⟩
 | some q =>
  obtain⟨j,want⟩:=q;simp only[aop,hg]at hs ⊢;have hku:∀ty x,o.op=.load ty x→zEy h h' (AV.unc ((yav ops e j).gd want) (ev e x)):=fun ty x ho=>zZ3 _ (hk ty x ho)
  refine⟨⟨hs.1,hs.2.1,fun hgt=>(zN4 hq hph hku (hs.2.2 hgt)).1⟩,fun ρ y hy => ?_⟩
  simp only[VR]at hy ⊢;refine⟨fun hgt => ?_,hy.2⟩
  have:=hy.1 hgt;rw[(zN4 (i':=i') hq hph hku (hs.2.2 hgt)).2]at this
  exact this
def zB0 (X:Ctx) (ops:Array Oper) (C:List Bool) (s:St):Nat→(Nat→AV)
 | 0=>s.e
 | k+1=>match ops[k]? with
  | some o=>if C.getD k false=true then setd (zB0 X ops C s k) o.dst (aop X ops o (zB0 X ops C s k) s.h s.n s.h).val else zB0 X ops C s k
  | none=>zB0 X ops C s k
def zVw (C:List Bool):List Oper→Nat→List (Nat×Oper)
 | [],_=>[]
 | o::r,k=>if C.getD k false=true then zVw C r (k+1)else (k,o)::zVw C r (k+1)
theorem zR2 (C:List Bool):∀(l:List Oper) (k:Nat) (p:Nat×Oper),p∈zVw C l k↔k≤p.1∧l[p.1-k]? = some p.2∧C.getD p.1 false=false
 | [],k,p=>by simp[zVw]
 | o::r,k,p=>by
  have ih:=zR2 C r (k+1) p;have key:(k+1≤p.1∧r[p.1-(k+1)]? = some p.2∧C.getD p.1 false=false)↔(k<p.1∧(o::r)[p.1-k]? = some p.2∧C.getD p.1 false=false):=by
   constructor
   ·rintro⟨h1,h2,h3⟩
    exact⟨by omega,by rw[show p.1-k=p.1-(k+1)+1 by omega,List.getElem?_cons_succ];exact h2,h3⟩
   ·rintro⟨h1,h2,h3⟩
    rw[show p.1-k=p.1-(k+1)+1 by omega,List.getElem?_cons_succ]at h2
    exact⟨by omega,h2,h3⟩
  simp only[zVw];split
  ·rename_i hc
   rw[ih,key];constructor
   ·rintro⟨h1,h2,h3⟩;exact⟨by omega,h2,h3⟩
   ·rintro⟨h1,h2,h3⟩
    refine⟨?_,h2,h3⟩;rcases Nat.lt_or_eq_of_le h1 with h|h
    ·exact h
    ·rw[←h,hc]at h3;cases h3
  ·rename_i hc
   have hcf:C.getD k false=false:=by simpa using hc
   rw[yD,ih,key];constructor
   ·rintro (rfl|⟨h1,h2,h3⟩)
    ·exact⟨zC _,by simp,hcf⟩
    ·exact⟨by omega,h2,h3⟩
   ·rintro⟨h1,h2,h3⟩
    rcases Nat.lt_or_eq_of_le h1 with h|h
    ·exact .inr ⟨h,h2,h3⟩
    ·refine .inl ?_
     rw[←h,zC7]at h2;simp only[List.getElem?_cons_zero,Option.some.injEq]at h2;exact Prod.ext h.symm h2.symm
theorem zTu:∀(l:List Oper) (acc:List Bool) (j:Nat),j<acc.length→(zTv X l acc).getD j false=acc.getD j false
 | [],acc,j,_=>rfl
 | o::r,acc,j,hj=>by
  simp only[zTv];rw[zTu r _ j (by simp;omega)]
  simp[zB,zL hj]
theorem yHp {l:List Oper} {acc:List Bool}:∀{o:Oper} {r:List Oper},l=o::r→(zTv X l acc).getD acc.length false=isA X acc o:=by
 rintro o r rfl;simp only[zTv];rw[zTu r _ acc.length (by simp)]
 simp[zB]
theorem zGc {Kn:St→Prop} {s:St} {C:List Bool} (hC:C=zTv X ops.toList []):∀(l:List Oper) (k:Nat) (acc:List Bool) (tl:List (Nat×Oper)),l=ops.toList.drop k→k=acc.length→(∀j,j<k→acc.getD j false=C.getD j false)→C=zTv X l acc→
  zEg X ops Kn l acc tl ⟨zB0 X ops C s k,s.h,s.n⟩→k≤ops.size→
  (∀j o,k≤j→ops[j]? = some o→C.getD j false=true→quietOp X o=true∧(aop X ops o (zB0 X ops C s j) s.h s.n s.h).side)∧atl X ops s.h Kn (tl++zVw C l k).length (tl++zVw C l k) ⟨zB0 X ops C s ops.size,s.h,s.n⟩
 | [],k,acc,tl,hl,hk,_,_,h,hle=>by
  have hks:ops.size≤k:=by
   have:=congrArg List.length hl;simp at this
   omega
  have:k=ops.size:=by omega
  subst this;simp only[zEg]at h;simp only[zVw,List.append_nil];exact⟨fun j o h1 h2=>by
   have:=(zCe.1 h2).1;omega,h⟩
 | o::l,k,acc,tl,hl,hk,hacc,hcl,h,hle=>by
  have hko:ops[k]? = some o:=by
   rw[←xC];have:=congrArg (·[0]?) hl;simpa using this.symm
  have hl':l=ops.toList.drop (k+1):=by
   have:=congrArg List.tail hl;simpa using this
  have hlt:k<ops.size:=(zCe.1 hko).1;have hat:C.getD k false=isA X acc o:=by rw[hcl,hk];exact yHp rfl
  simp only[zEg]at h;by_cases hq:isA X acc o=true
  ·simp only[hq,if_true]at h
   have hp:zB0 X ops C s (k+1)=setd (zB0 X ops C s k) o.dst (aop X ops o (zB0 X ops C s k) s.h s.n s.h).val:=by simp only[zB0,hko,hat,hq,if_true]
   rw[←hp]at h;have ih:=zGc (Kn:=Kn) (s:=s) hC l (k+1) (acc++[true]) tl hl' (by simp[hk]) (fun j hj=>by
    by_cases hjk:j<k
    ·rw[←hacc j hjk];simp[zB,zL (show j<acc.length by omega)]
    ·have:j=acc.length:=by omega
     rw[show j=k by omega,hat,hq,hk];simp[zB]) (by rw[hcl];simp only[zTv,hq]) h.2 (by omega)
   refine⟨fun j o' h1 h2 h3 => ?_,by simp only[zVw,hat,hq,if_true];exact ih.2⟩
   by_cases hjk:j=k
   ·subst hjk
    rw[hko]at h2;cases h2;refine⟨?_,h.1⟩;simp only[isA,zO]at hq;exact hq.1
   ·exact ih.1 j o' (by omega) h2 h3
  ·have hqf:isA X acc o=false:=by simpa using hq
   rw[if_neg (by simp[hqf])]at h
   have hp:zB0 X ops C s (k+1)=zB0 X ops C s k:=by simp only[zB0,hko,hat,hqf];simp
   rw[←hp]at h;have ih:=zGc (Kn:=Kn) (s:=s) hC l (k+1) (acc++[false]) (tl++[(k,o)]) hl' (by simp[hk]) (fun j hj=>by
    by_cases hjk:j<k
    ·rw[←hacc j hjk];simp[zB,zL (show j<acc.length by omega)]
    ·rw[show j=k by omega,hat,hqf,hk];simp[zB]) (by rw[hcl];simp only[zTv,hqf]) (by rw[←hk]at h;exact h) (by omega)
   refine⟨fun j o' h1 h2 h3 => ?_,?_⟩
   ·by_cases hjk:j=k
    ·subst hjk
     rw[hat,hqf]at h3;cases h3
    ·exact ih.1 j o' (by omega) h2 h3
   ·have:=ih.2
    simp only[zVw,hat,hqf];simpa using this
theorem zL1 {listed:Array Bool} {i:Nat} (h:listed.getD i true=false):listed.getD i false≠true:=by
 intro h2;rcases Nat.lt_or_ge i listed.size with h'|h'
 ·simp[h']at h h2;rw[h]at h2;cases h2
 ·simp[wK h']at h2
section
variable {C:List Bool} (hC:C=zTv X ops.toList [])
include hC
theorem zF7 {i:Nat} {o:Oper} (hd:zE0 X ops=true) (ho:ops[i]? = some o):zG3 X ops (Region.before ops) C i o=true:=by
 unfold zE0 at hd;rw[hC];exact zR.1 hd (o,i) (zDx.2 (by simpa using ho))
theorem zRd {i:Nat} {o:Oper} (hd:zE0 X ops=true) (ho:ops[i]? = some o):∀e∈o.after.toList,Region.binds .any e=true→e.on<i:=by
 have h:=zF7 hC hd ho;unfold zG3 at h;simp only[zO]at h;intro e he hb;have:=zR.1 h.1 e he;simpa[hb]using this
theorem zSo {i:Nat} {o:Oper} (hd:zE0 X ops=true) (ho:ops[i]? = some o) (hA:C.getD i false=true):∀t∈zJd ops o,∀k o',ops[k]? = some o'→o'.dst=some t→k≠i→
  (C.getD k false=true→(k<i→zFn (Region.before ops) i k=true)∧(i<k→zFn (Region.before ops) k i=true))∧(C.getD k false=false→i<k∧zFn (Region.before ops) k i=true):=by
 have h:=zF7 hC hd ho;unfold zG3 at h;simp only[zO]at h;rw[if_pos hA]at h;simp only[zO]at h;intro t ht k o' hk hdst hne;have h1:=zR.1 h.2.1.1 t ht;have h2:=zR.1 h1 (o',k) (zDx.2 (by simpa using hk))
 simp only[hdst,bne_self_eq_false,Bool.false_or,Bool.or_eq_true,beq_iff_eq]at h2;rcases h2 with h2|h2
 ·exact absurd h2 hne
 ·refine⟨fun hc => ?_,fun hc => ?_⟩
  ·rw[if_pos hc]at h2
   refine⟨fun hlt=>by simpa[hlt]using h2,fun hlt => ?_⟩
   have:¬k<i:=by omega
   simpa[this]using h2
  ·rw[hc]at h2
   simpa using h2
theorem zM7 {i:Nat} {o:Oper} (hd:zE0 X ops=true) (ho:ops[i]? = some o) (hA:C.getD i false=true) {d:Tmp} (hdst:o.dst=some d):∀k o',ops[k]? = some o'→o'.dst=some d→k=i:=by
 have h:=zF7 hC hd ho;unfold zG3 at h;simp only[zO]at h;rw[if_pos hA]at h;simp only[zO,hdst]at h;intro k o' hk hdst';have h2:=zR.1 h.2.1.2 (o',k) (zDx.2 (by simpa using hk))
 simpa[hdst']using h2
theorem yI7 {i:Nat} {o:Oper} (hd:zE0 X ops=true) (ho:ops[i]? = some o) (hA:C.getD i false=true) {ty:_} {t:Tmp} (hop:o.op=.load ty (.tmp t)):∀k o',ops[k]? = some o'→o'.dst=some t→C.getD k false=true→k<i:=by
 have h:=zF7 hC hd ho;unfold zG3 at h;simp only[zO]at h;rw[if_pos hA]at h;simp only[zO,hop]at h;intro k o' hk hdst' hc;have h2:=zR.1 h.2.2 (o',k) (zDx.2 (by simpa using hk))
 simp only[hdst',bne_self_eq_false,Bool.false_or,Bool.or_eq_true,decide_eq_true_eq]at h2;rcases h2 with h2|h2
 ·exact h2
 ·rw[hc]at h2
  cases h2
theorem okB {i:Nat} {o:Oper} (hd:zE0 X ops=true) (ho:ops[i]? = some o) (hA:C.getD i false=false) :
  (∀t∈zJd ops o,∀k o',ops[k]? = some o'→o'.dst=some t→C.getD k false=true→zFn (Region.before ops) i k=true)∧
  ((monoOp X o=true∨appNew ops o=true∨keepOp X ops i o=true)∨∀k,k<ops.size→C.getD k false=true→zOu ops k=false→zFn (Region.before ops) i k=true):=by
 have h:=zF7 hC hd ho;unfold zG3 at h;simp only[zO]at h;rw[if_neg (by rw[hA];exact Bool.false_ne_true)]at h
 simp only[zO]at h;obtain⟨_,h2,h3⟩:=h;refine⟨fun t ht k o' hk hdst hc => ?_,?_⟩
 ·have h4:=zR.1 (zR.1 h2 t ht) (o',k) (zDx.2 (by simpa using hk))
  rw[hdst,hc]at h4;simpa using h4
 ·simp only[Bool.or_eq_true]at h3
  rcases h3 with ((h3|h3)|h3)|h3
  ·exact .inl (.inl h3)
  ·exact .inl (.inr (.inl h3))
  ·by_cases h4:monoOp X o=true
   ·exact .inl (.inl h4)
   by_cases h5:appNew ops o=true
   ·exact .inl (.inr (.inl h5))
   cases h6:yJj X ops i with
   | false =>
    refine .inl (.inr (.inr ?_));simp only[Bool.not_eq_true]at h4 h5;simp[keepOp,h3,h4,h5,h6]
   | true =>
    refine .inr fun k hk hc hsl => ?_
    have:=zR.1 h6 k (zAm.2 hk);rw[←hC,hc,hsl]at this
    exact this
  ·refine .inr fun k hk hc hsl => ?_
   have:=zR.1 h3 k (zAm.2 hk);rw[hc,hsl]at this
   exact this
theorem zVt {listed:Array Bool} (hd:zE0 X ops=true) (hsz:listed.size=ops.size) (hr:Region.ready .any ops listed=[]):∀k,k<ops.size→listed.getD k false=true:=by
 intro k
 induction k using Nat.strongRecOn with
 | _ k ih =>
  intro hk;by_cases hl:listed.getD k false=true
  ·exact hl
  ·exfalso
   have hk2:ops[k]? = some ops[k]:=Array.getElem?_eq_getElem hk;have:k∈Region.ready .any ops listed:=mem_ready.2 ⟨by
    have hks:k<listed.size:=by omega
    simp[hks]at hl ⊢;exact hl,ops[k],hk2,fun e he hb=>by
    have:=zRd hC hd hk2 e (by simpa using he) hb
    exact ih e.on this (by omega)⟩
   rw[hr]at this
   cases this
theorem zHq (hd:zE0 X ops=true) {s:St} {k:Nat} {o:Oper} {t:Tmp} (ho:ops[k]? = some o) (hA:C.getD k false=true) (hdst:o.dst=some t):∀i,k<i→zB0 X ops C s i t=(aop X ops o (zB0 X ops C s k) s.h s.n s.h).val
 | 0,h=>by omega
 | i+1,h=>by
  by_cases hik:i=k
  ·subst hik
   simp only[zB0,ho,hA,if_true,hdst,setd,zJ]
  ·have ih:=zHq hd (s:=s) ho hA hdst i (by omega)
   simp only[zB0];cases hi:ops[i]? with
   | none=>exact ih
   | some o' =>
    simp only;split
    ·have hne:o'.dst≠some t:=fun e=>hik (zM7 hC hd ho hA hdst i o' hi e)
     cases hd':o'.dst with
     | none=>exact ih
     | some d =>
      simp only[setd];rw[zP _ _ (fun e=>hne (by rw[hd',e]))]
      exact ih
    ·exact ih
omit hC in
theorem zEq {s:St} {t:Tmp}:∀i,(∀k o,k<i→ops[k]? = some o→C.getD k false=true→o.dst≠some t)→zB0 X ops C s i t=s.e t
 | 0,_=>rfl
 | i+1,h=>by
  have ih:=zEq (s:=s) i fun k o hk=>h k o (by omega)
  simp only[zB0];cases hi:ops[i]? with
  | none=>exact ih
  | some o' =>
   simp only;split
   ·rename_i hc
    have hne:=h i o' (by omega) hi hc
    cases hd':o'.dst with
    | none=>exact ih
    | some d =>
     simp only[setd];rw[zP _ _ (fun e=>hne (by rw[hd',e]))]
     exact ih
   ·exact ih
end
open Classical in
noncomputable def zKn (ops:Array Oper) (C:List Bool) (listed:Array Bool) (e0 e:Nat→AV):Nat→AV:=fun t=>if ∃k o,ops[k]? = some o∧C.getD k false=true∧listed.getD k false=false∧o.dst=some t then e0 t else e t
theorem zEv {C:List Bool} {listed:Array Bool} {e0 e:Nat→AV} {t:Tmp} (h:∃k o,ops[k]? = some o∧C.getD k false=true∧listed.getD k false=false∧o.dst=some t):zKn ops C listed e0 e t=e0 t:=by
 unfold zKn;rw[if_pos h]
theorem zB1 {C:List Bool} {listed:Array Bool} {e0 e:Nat→AV} {t:Tmp} (h:∀k o,ops[k]? = some o→C.getD k false=true→o.dst=some t→listed.getD k false=true):zKn ops C listed e0 e t=e t:=by
 unfold zKn;rw[if_neg];rintro⟨k,o,h1,h2,h3,h4⟩;rw[h k o h1 h2 h4]at h3;cases h3
theorem zRr {o:Oper} {s:St} {e':Nat→AV} {Kt:AV→Heap→Nat→Prop} (hl:∀t∈zJd ops o,s.e t=e' t) (h:zFi X ops o s Kt):zFi X ops o ⟨e',s.h,s.n⟩ Kt:=by
 have hev:=zTf (op:=o.op) (guardSlots:=match o.guard with|some (j,_)=>(ystop ops j).toList|none=>[]) hl
 have hy:∀j want,o.guard=some (j,want)→yav ops s.e j=yav ops e' j:=fun j want hg=>by
  unfold yav;cases hs:ystop ops j with
  | none=>rfl
  | some d=>exact hl d (by simp[zJd,hg,hs])
 have hgev:∀x∈o.op.operands.toList,gev ops o s.e x=gev ops o e' x:=fun x hx=>by
  unfold gev;cases hg:o.guard with
  | none=>exact hev x hx
  | some q =>
   obtain⟨j,want⟩:=q;simp only;rw[hy j want hg,hev x hx]
 have hgo:gocall X ops o s.e=gocall X ops o e':=by
  unfold gocall;cases ho:o.op with
  | call c =>
   simp only;cases hc:c.callee with
   | value fo =>
    simp only;have h1:ev s.e fo=ev e' fo:=hev fo (by rw[ho];simp[Op.operands,Call.operands,hc])
    have h2:c.args.toList.map (gev ops o s.e)=c.args.toList.map (gev ops o e'):=zB5 fun x hx=>hgev x (by rw[ho];simp[Op.operands,Call.operands];exact .inr (by simpa using hx))
    rw[h1,h2]
   | _=>rfl
  | _=>rfl
 have hop:aop X ops o s.e s.h s.n s.h=aop X ops o e' s.h s.n s.h:=zH8 hl;have htw:zQi X ops o s.e s.h s.n=zQi X ops o e' s.h s.n:=by
  unfold zQi;rw[zOh hev]
 unfold zFi at h ⊢;simp only;rw[←hgo,←hop,←htw];cases hg:o.guard with
 | none =>
  simp only[hg]at h ⊢;exact h
 | some q =>
  obtain⟨j,want⟩:=q;simp only[hg]at h ⊢;rw[←hy j want hg];exact h
theorem yGa {o:Oper} {e:Nat→AV} {h:Heap} {n:Nat} {hp:Heap} (hm:monoOp X o=true) (hgo:goOp o=false∨quietOp X o=true) (hn:h n=none) (hs:(aop X ops o e h n hp).side):h.le (aop X ops o e h n hp).h:=by
 have hup:∀b:Blk,h.le (up h n (some b)):=fun b i k hk=>by
  have:i≠n:=fun e=>by rw[e,hn]at hk;cases hk
  rw[zP _ _ this];exact hk
 cases hg:o.guard with
 | some q =>
  obtain⟨j,want⟩:=q;simp only[aop,hg];exact Heap.le_refl _
 | none =>
  simp only[aop,hg]at hs ⊢;by_cases hq:quietOp X o=true
  ·rw[zIy _ _ _ (zIh hq)]
   exact Heap.le_refl _
  ·have hgo':goOp o=false:=hgo.resolve_right hq
   simp only[monoOp,hgo',hq,Bool.false_or]at hm;cases ho:o.op with
   | alloc t=>exact hup _
   | box t x=>exact hup _
   | buildSlice t len ps =>
    simp only[aeval];split
    ·exact hup _
    ·exact Heap.le_refl _
   | makeSlice t l c =>
    simp only[aeval];split
    ·exact hup _
    ·exact Heap.le_refl _
   | _=>rw[ho]at hm;cases hm
theorem zWi {o:Oper} {e:Nat→AV} {h:Heap} {i:Nat} {q:ARes×ARes} (ht:zQi X ops o e h i=some q) (hm:monoOp X o=true):False:=by
 unfold zQi at ht;split at ht
 rotate_left
 ·cases ht
 cases hg:o.guard with
 | some q=>simp[hg]at ht
 | none =>
  simp only[hg]at ht;cases hop:o.op with
  | call c =>
   obtain⟨callee,⟨args⟩,⟨at'⟩⟩:=c;rw[hop]at ht;simp only[two]at ht;split at ht
   ·simp[monoOp,goOp,quietOp,hop]at hm
   ·cases ht
  | _=>rw[hop]at ht;simp[two]at ht
theorem yCc (ok:Ok X) {sz:Nat} {Kn:St→Prop} {Q:Exit→Act→World→Prop} {ρ:Ren} (hQ:∀s a w ρ',ρ.le ρ'→Kn s→Rel X K w0 ρ' (s.n≤·) s.h w→EnvR ρ' s.e a sz→Q .normal a w)
  (hop:∀o∈ops.toList,zPd ops sz o=true) (hd:zE0 X ops=true) {s:St} {C:List Bool} (hC:C=zTv X ops.toList [])
  (hside:∀j o,ops[j]? = some o→C.getD j false=true→quietOp X o=true∧(aop X ops o (zB0 X ops C s j) s.h s.n s.h).side) :
  ∀(fuel:Nat) (listed:Array Bool) (a:Act) (w:World) (ρ1:Ren) (rem:List (Nat×Oper)) (fl:Nat) (st:St),listed.size=ops.size→Closed ops listed→ops.size≤fuel+listed.toList.count true→
  (∀p:Nat×Oper,p∈rem↔ops[p.1]? = some p.2∧C.getD p.1 false=false∧listed.getD p.1 false=false)→rem.length≤fl→
  (∀k o d,ops[k]? = some o→C.getD k false=true→o.dst=some d→st.e d=(aop X ops o (zB0 X ops C s k) s.h s.n s.h).val)→
  (∀t,(∀k o,ops[k]? = some o→o.dst=some t→C.getD k false=false∧listed.getD k false=false)→st.e t=s.e t)→
  (∀k o,ops[k]? = some o→C.getD k false=true→listed.getD k false=false→zLv o=false→(goOp o=true→s.h.le st.h)∧(aop X ops o (zB0 X ops C s k) st.h st.n s.h).side∧∀ρ y,VR ρ (aop X ops o (zB0 X ops C s k) st.h st.n s.h).val y→VR ρ (aop X ops o (zB0 X ops C s k) s.h s.n s.h).val y)→
  atl X ops s.h Kn fl rem st→ρ.le ρ1→Rel X K w0 ρ1 (st.n≤·) st.h w→EnvR ρ1 (zKn ops C listed s.e st.e) a sz→wpAny X.P .any ops Q fuel listed a w:=by
 have hlt_of:∀{k:Nat} {o:Oper},ops[k]? = some o→k<ops.size:=fun h=>(zCe.1 h).1
 -- the end:all are listed
 have fin:∀(listed:Array Bool) (a:Act) (w:World) (ρ1:Ren) (rem:List (Nat×Oper)) (fl:Nat) (st:St),(∀k,k<ops.size→listed.getD k false=true)→(∀p:Nat×Oper,p∈rem↔ops[p.1]? = some p.2∧C.getD p.1 false=false∧listed.getD p.1 false=false)→
   atl X ops s.h Kn fl rem st→ρ.le ρ1→Rel X K w0 ρ1 (st.n≤·) st.h w→EnvR ρ1 (zKn ops C listed s.e st.e) a sz→Q .normal a w:=by
  intro listed a w ρ1 rem fl st hall hm hat hρ r he;have hnil:rem=[]:=List.eq_nil_iff_forall_not_mem.2 fun p hp=>by
   obtain⟨q1,_,q3⟩:=(hm p).1 hp;rw[hall p.1 (hlt_of q1)]at q3;cases q3
  rw[hnil,zRq]at hat;refine hQ st a w ρ1 hρ hat r ⟨he.1,he.2.1,fun t ht => ?_⟩
  have:=he.2.2 t ht;rw[zB1 fun k o hk _ _=>hall k (hlt_of hk)]at this
  exact this
 intro fuel
 induction fuel with
 | zero =>
  intro listed a w ρ1 rem fl st hsz hcl hf hm hms h1 h2 h3 hat hρ r he;have hall:∀k,k<ops.size→listed.getD k false=true:=fun k hk2=>by
   have hc:listed.toList.count true=listed.toList.length:=by
    have:=List.count_le_length (a:=true) (l:=listed.toList);simp only[xN]at this ⊢
    omega
   have:=List.count_eq_length.1 hc (listed.toList[k]'(by simp;omega)) (zH _)
   have hkl:k<listed.size:=by omega
   simp[hkl];simpa using this.symm
  refine⟨?_,fin listed a w ρ1 rem fl st hall hm hat hρ r he⟩;apply List.eq_nil_iff_forall_not_mem.2;intro i hi;obtain⟨h1,o,h2,_⟩:=mem_ready.1 hi;exact zL1 h1 (hall i (hlt_of h2))
 | succ fuel ih =>
  intro listed a w ρ1 rem fl st hsz hcl hf hm hms h1 h2 h3 hat hρ r he;refine⟨fun hr=>fin listed a w ρ1 rem fl st (zVt hC hd hsz hr) hm hat hρ r he,fun i hi => ?_⟩
  obtain⟨g1,o,g2,g3⟩:=mem_ready.1 hi;have hlt:i<ops.size:=hlt_of g2;have hwl:∀j,zFn (Region.before ops) i j=true→listed.getD j false=true:=fun j hj=>zFs hcl i j hj fun o' ho' e he' hb=>by
   rw[g2]at ho';cases ho';exact g3 e (by simpa using he') hb
  have hmem:o∈ops.toList:=by
   have:=(zCe.1 g2).2;rw[←this];simp
  have hun:=zL1 g1;have hunf:listed.getD i false=false:=by simpa using hun
  have hil:i<listed.size:=by omega
  -- whoever zFn for i is not listed
  have hbehind:∀k o',ops[k]? = some o'→zFn (Region.before ops) k i=true→listed.getD k false=false:=fun k o' hk2 hw=>by
   cases hkl:listed.getD k false with
   | false=>rfl
   | true=>exact absurd (zFs hcl k i hw fun o'' ho'' e he' hb=>hcl k o'' ho'' hkl e he' hb) hun
  have hset:(listed.setIfInBounds i true).getD i false=true:=by simp[hil]
  have hcount:ops.size≤fuel+(listed.setIfInBounds i true).toList.count true:=by
   have hi2:listed.toList[i]? = some false:=by
    simp[hil]at g1 ⊢;exact g1
   rw[Array.toList_setIfInBounds,zP5 _ _ hi2];omega
  unfold wpOp;rw[g2];simp only;cases hA:C.getD i false with
  | true =>
   obtain⟨hq,hs⟩:=hside i o g2 hA;have hagree:∀t∈zJd ops o,zKn ops C listed s.e st.e t=zB0 X ops C s i t:=fun t ht=>by
    have hl:=zSo hC hd g2 hA t ht;by_cases hex:∃k o',ops[k]? = some o'∧C.getD k false=true∧o'.dst=some t
    ·obtain⟨k,o',hk1,hk2,hk3⟩:=hex
     have huniq:=zM7 hC hd hk1 hk2 hk3;by_cases hki:k<i
     ·have hkl:=hwl k ((hl k o' hk1 hk3 (by omega)).1 hk2 |>.1 hki)
      rw[zB1 fun q oq hq1 _ hq3=>by rw[huniq q oq hq1 hq3];exact hkl,h1 k o' t hk1 hk2 hk3,zHq hC hd hk1 hk2 hk3 i hki]
     ·have hkl:listed.getD k false=false:=by
       by_cases hki':k=i
       ·rw[hki'];exact hunf
       ·exact hbehind k o' hk1 ((hl k o' hk1 hk3 hki').1 hk2 |>.2 (by omega))
      rw[zEv ⟨k,o',hk1,hk2,hkl,hk3⟩,zEq i fun q oq hq1 hq2 _ hq4=>by
       have:=huniq q oq hq2 hq4;omega]
    ·rw[zB1 fun q oq hq1 hq2 hq3=>absurd ⟨q,oq,hq1,hq2,hq3⟩ hex,zEq i fun q oq _ hq2 hq3 hq4=>hex ⟨q,oq,hq2,hq3,hq4⟩]
     refine h2 t fun k o' hk1 hk3 => ?_
     have hkc:C.getD k false=false:=by
      cases hkc:C.getD k false with
      | false=>rfl
      | true=>exact absurd ⟨k,o',hk1,hkc,hk3⟩ hex
     have hki:k≠i:=fun e=>by rw[e,hA]at hkc;cases hkc
     exact⟨hkc,hbehind k o' hk1 ((hl k o' hk1 hk3 hki).2 hkc).2⟩
   have hcong:=zH8 (X:=X) (h:=s.h) (i:=s.n) (hp:=s.h) hagree;have hs':(aop X ops o (zKn ops C listed s.e st.e) s.h s.n s.h).side:=by rw[hcong];exact hs
   obtain⟨hp9,hle,u1,u2⟩:∃hp9:Heap,hp9.le st.h∧(aop X ops o (zKn ops C listed s.e st.e) st.h st.n hp9).side∧∀ρ y,VR ρ (aop X ops o (zKn ops C listed s.e st.e) st.h st.n hp9).val y→VR ρ (aop X ops o (zKn ops C listed s.e st.e) s.h s.n s.h).val y:=by
    cases hsl:zLv o with
    | true =>
     obtain⟨e1,e2⟩:=yCu (X:=X) hsl ops (zKn ops C listed s.e st.e) s.h st.h s.n st.n s.h st.h;exact⟨st.h,Heap.le_refl _,by rw[e1];exact hs',fun ρ y hy=>by rw[e2]at hy;exact hy⟩
    | false =>
     obtain⟨u0,u1,u2⟩:=h3 i o g2 hA hunf hsl;rw[hcong];cases hgo:goOp o with
     | true =>
      refine⟨s.h,u0 hgo,?_⟩;rw[zH8 (X:=X) (h:=st.h) (i:=st.n) (hp:=s.h) hagree];exact⟨u1,u2⟩
     | false =>
      obtain⟨w1,w2⟩:=zZn (i':=st.n) (hp':=st.h) hq (fun hf=>by rw[hgo]at hf;cases hf) (fun _ _ _=>zHu (Heap.le_refl st.h) _) u1
      refine⟨st.h,Heap.le_refl _,?_⟩;rw[zH8 (X:=X) (h:=st.h) (i:=st.n) (hp:=st.h) hagree];exact⟨w1,fun ρ y hy=>u2 ρ y (w2 ρ y hy)⟩
   have hstep:=zQe (next:=wpAny X.P .any ops Q fuel (listed.setIfInBounds i true)) (Q:=Q) (hp:=hp9) ok (hop o hmem) hle r ⟨st.n,fun _ hj=>hj⟩ (zC _) he u1 fun y w' ρ2 q1 q2 q3=>by
    have q3':=u2 ρ2 y q3;rw[hcong]at q3';rw[zZo hq,zIh hq]at q2;have hsame:∀k,C.getD k false=false→(listed.setIfInBounds i true).getD k false=listed.getD k false:=fun k hkc=>getD_set_ne false (fun e=>by rw[e,hkc]at hA;cases hA)
    refine ih (listed.setIfInBounds i true) _ w' ρ2 rem fl st (by simp[hsz]) (hcl.set hi) hcount (fun p => ?_) hms h1 (fun t ht=>h2 t fun k o' k1 k2 => ?_) (fun k ok hk1 hk2 hk3 hk4=>h3 k ok hk1 hk2 (by
     have hki:k≠i:=fun e=>by rw[e,hset]at hk3;cases hk3
     rwa [getD_set_ne false (Ne.symm hki)]at hk3) hk4) hat (Ren.le_trans hρ q1) (q2.anti fun j hj=>⟨hj,fun e=>by cases e⟩) ?_
    ·rw[hm p]
     constructor
     ·rintro⟨x1,x2,x3⟩;exact⟨x1,x2,by rw[hsame _ x2];exact x3⟩
     ·rintro⟨x1,x2,x3⟩;exact⟨x1,x2,by rw[hsame _ x2]at x3;exact x3⟩
    ·obtain⟨x1,x2⟩:=ht k o' k1 k2
     exact⟨x1,by rw[hsame _ x1]at x2;exact x2⟩
    ·have hput:=(he.mono q1).put o.dst (zYu (hop o hmem)) q3'
     refine⟨hput.1,hput.2.1,fun t ht => ?_⟩
     have h5:=hput.2.2 t ht;have key:zKn ops C (listed.setIfInBounds i true) s.e st.e t=setd (zKn ops C listed s.e st.e) o.dst (aop X ops o (zB0 X ops C s i) s.h s.n s.h).val t:=by
      by_cases hdt:o.dst=some t
      ·simp only[setd,hdt,zJ]
       rw[zB1 fun q oq hq1 _ hq3=>by rw[zM7 hC hd g2 hA hdt q oq hq1 hq3];exact hset]
       exact h1 i o t g2 hA hdt
      ·have e1:setd (zKn ops C listed s.e st.e) o.dst (aop X ops o (zB0 X ops C s i) s.h s.n s.h).val t=zKn ops C listed s.e st.e t:=by
        cases hdd:o.dst with
        | none=>rfl
        | some d =>
         simp only[setd];exact zP _ _ fun e=>hdt (by rw[hdd,e])
       rw[e1];by_cases hp:∃k o',ops[k]? = some o'∧C.getD k false=true∧listed.getD k false=false∧o'.dst=some t
       ·rw[zEv hp]
        obtain⟨k,o',p1,p2,p3,p4⟩:=hp;refine zEv ⟨k,o',p1,p2,?_,p4⟩;rw[getD_set_ne false fun e=>hdt (by rw[←e,g2]at p1;cases p1;exact p4)]
        exact p3
       ·have hnp:∀k o',ops[k]? = some o'→C.getD k false=true→o'.dst=some t→listed.getD k false=true:=fun k o' p1 p2 p4=>by
         cases p3:listed.getD k false with
         | true=>rfl
         | false=>exact absurd ⟨k,o',p1,p2,p3,p4⟩ hp
        rw[zB1 hnp,zB1 fun k o' p1 p2 p4=>by
         have:=hnp k o' p1 p2 p4;exact getD_set_true this]
     rw[key];exact h5
   split
   ·rename_i hwant
    rw[if_pos hwant]at hstep;exact .inl hstep
   ·rename_i hwant
    rw[if_neg hwant]at hstep;exact hstep
  | false =>
   obtain⟨b2,b3⟩:=okB hC hd g2 hA;have hin:(i,o)∈rem:=(hm (i,o)).2 ⟨g2,hA,hunf⟩;have hfree0:freeOp o rem=true:=by
    unfold freeOp;refine zR.2 fun e he' => ?_
    cases hb:Region.binds .any e with
    | false=>rfl
    | true =>
     simp only[Bool.not_true,Bool.false_or];refine zR.2 fun p hp => ?_
     have hl:=g3 e (by simpa using he') hb
     have:=((hm p).1 hp).2.2;rw[bne_iff_ne];intro hpe;rw[hpe,hl]at this
     cases this
   obtain⟨f',rfl⟩:∃f',fl=f'+1:=⟨fl-1,by have:=List.length_pos_of_mem hin;omega⟩
   replace hat:=hat.2 (i,o) hin hfree0;simp only[]at hat;have hfl:(rem.filter fun q=>q.1 != i).length≤f':=by
    have:(rem.filter fun q=>q.1 != i).length<rem.length:=by
     have h9:=List.length_filter_lt_length_iff_exists (l:=rem) (p:=fun q=>q.1 != i)
     exact h9.2 ⟨(i,o),hin,by simp⟩
    omega
   have hagree:∀t∈zJd ops o,st.e t=zKn ops C listed s.e st.e t:=fun t ht=>by
    rw[zB1 fun k o' hk1 hk2 hk3=>hwl k (b2 t ht k o' hk1 hk3 hk2)]
   have hat':=zRr hagree hat
   -- what is done ahead and still to come finds what it zJd at as it was
   have hlds:∀k ok,ops[k]? = some ok→C.getD k false=true→listed.getD k false=false→∀ty t,ok.op=.load ty (.tmp t)→st.e t=zB0 X ops C s k t:=fun k ok k1 k2 k3 ty t k4=>by
    have hlk:t∈zJd ops ok:=zCo _ (by rw[k4];simp[Op.operands])
    by_cases hex:∃j o',ops[j]? = some o'∧C.getD j false=true∧o'.dst=some t
    ·obtain⟨j,o',j1,j2,j3⟩:=hex
     have hjk:=yI7 hC hd k1 k2 k4 j o' j1 j3 j2;rw[h1 j o' t j1 j2 j3,zHq hC hd j1 j2 j3 k hjk]
    ·rw[zEq k fun q oq _ hq2 hq3 hq4=>hex ⟨q,oq,hq2,hq3,hq4⟩]
     refine h2 t fun j o' j1 j3 => ?_
     have hjc:C.getD j false=false:=by
      cases hjc:C.getD j false with
      | false=>rfl
      | true=>exact absurd ⟨j,o',j1,hjc,j3⟩ hex
     have hjk:j≠k:=fun e=>by rw[e,k2]at hjc;cases hjc
     refine⟨hjc,?_⟩;have hw:=((zSo hC hd k1 k2 t hlk j o' j1 j3 hjk).2 hjc).2;cases hjl:listed.getD j false with
     | false=>rfl
     | true=>exact absurd (zFs hcl j k hw fun o'' ho'' e he' hb=>hcl j o'' ho'' hjl e he' hb) (by rw[k3];exact Bool.false_ne_true)
   have hmono:∀(h:Heap) (n:Nat),((keepOp X ops i o=true→zEa X ops st.e st.h h))→(appNew ops o=true→s.h.le h)→(goOp o=false→monoOp X o=true→st.h.le h)→(∀k ok,ops[k]? = some ok→C.getD k false=true→(listed.setIfInBounds i true).getD k false=false→zLv ok=false→(goOp ok=true→s.h.le h)∧(aop X ops ok (zB0 X ops C s k) h n s.h).side∧∀ρ y,VR ρ (aop X ops ok (zB0 X ops C s k) h n s.h).val y→VR ρ (aop X ops ok (zB0 X ops C s k) s.h s.n s.h).val y):=fun h n q1 q0 q2 k ok k1 k2 k3 k4=>by
    have hki:k≠i:=fun e=>by rw[e,hA]at k2;cases k2
    rw[getD_set_ne false (Ne.symm hki)]at k3;obtain⟨v0,v1,v2⟩:=h3 k ok k1 k2 k3 k4;have hsk:zOu ops k=false:=by simp only[zOu,k1,k4]
    obtain⟨hqk,hsdk⟩:=hside k ok k1 k2;have hmo3:monoOp X o=true∨appNew ops o=true∨keepOp X ops i o=true:=b3.resolve_right fun hall=>by
     rw[hwl k (hall k (hlt_of k1) k2 hsk)]at k3;cases k3
    by_cases happ:appNew ops o=true
    ·exact⟨fun _=>q0 happ,zZn hqk (fun _=>rfl) (fun ty t _=>zHu (q0 happ) _) hsdk⟩
    have hgo':keepOp X ops i o=false→goOp o=false:=fun hf=>by
     simp only[keepOp,Bool.or_eq_false_iff]at hf;exact hf.1
    have hmo:keepOp X ops i o=false→monoOp X o=true:=fun hf=>by
     rcases hmo3 with h|h|h
     ·exact h
     ·exact absurd h happ
     ·rw[hf]at h;cases h
    have hgl:goOp ok=true→s.h.le h:=fun hgk=>by
     cases hgo:keepOp X ops i o with
     | true =>
      rcases q1 hgo with hle|⟨hall,_⟩
      ·exact Heap.le_trans (v0 hgk) hle
      ·have hmk:ok∈ops.toList:=by
        have:=(zCe.1 k1).2;rw[←this];simp
       have:=zR.1 hall ok hmk;rw[hgk,hqk]at this
       cases this
     | false=>exact Heap.le_trans (v0 hgk) (q2 (hgo' hgo) (hmo hgo))
    have hkp:∀ty t,ok.op=.load ty (.tmp t)→zEy st.h h (zB0 X ops C s k t):=fun ty t ht=>by
     cases hgo:keepOp X ops i o with
     | true =>
      rw[←hlds k ok k1 k2 k3 ty t ht];exact yBw (q1 hgo) k1 ht
     | false=>exact zHu (q2 (hgo' hgo) (hmo hgo)) _
    obtain⟨u1,u2⟩:=zZn (i':=n) (hp':=s.h) hqk (fun _=>rfl) hkp v1
    exact⟨hgl,u1,fun ρ y hy=>v2 ρ y (u2 ρ y hy)⟩
   have hcont:∀v h n y w' ρ2,((keepOp X ops i o=true→zEa X ops st.e st.h h)∧(goOp o=false→monoOp X o=true→st.h.le h)∧(appNew ops o=true→s.h.le h)∧atl X ops s.h Kn f' (rem.filter fun q=>q.1 != i) ⟨setd st.e o.dst v,h,n⟩)→ρ1.le ρ2→Rel X K w0 ρ2 (n≤·) h w'→VR ρ2 v y→wpAny X.P .any ops Q fuel (listed.setIfInBounds i true) (a.put o.dst y) w':=by
    intro v h n y w' ρ2 ⟨q1,q1',q0,q2⟩ q3 q4 q5;have hdA:∀t,o.dst=some t→∀k o',ops[k]? = some o'→C.getD k false=true→o'.dst≠some t:=fun t hdt k o' hk1 hk2 hk3=>by
     have:=zM7 hC hd hk1 hk2 hk3 i o g2 hdt;rw[this,hk2]at hA;cases hA
    refine ih (listed.setIfInBounds i true) _ w' ρ2 (rem.filter fun q=>q.1 != i) f' ⟨setd st.e o.dst v,h,n⟩ (by simp[hsz]) (hcl.set hi) hcount (fun p => ?_) hfl (fun k o' d hk1 hk2 hk3 => ?_) (fun t ht => ?_) ?_ q2 (Ren.le_trans hρ q3) q4 ?_
    ·rw[zBo,hm p,bne_iff_ne]
     constructor
     ·rintro⟨⟨x1,x2,x3⟩,x4⟩
      exact⟨x1,x2,by rw[getD_set_ne false (Ne.symm x4)];exact x3⟩
     ·rintro⟨x1,x2,x3⟩
      have x4:p.1≠i:=fun e=>by rw[e,hset]at x3;cases x3
      exact⟨⟨x1,x2,by rw[getD_set_ne false (Ne.symm x4)]at x3;exact x3⟩,x4⟩
    ·have:setd st.e o.dst v d=st.e d:=by
      cases hdd:o.dst with
      | none=>rfl
      | some d' =>
       simp only[setd];exact zP _ _ fun e=>hdA d' hdd k o' hk1 hk2 (by rw[hk3,e])
     simp only[this];exact h1 k o' d hk1 hk2 hk3
    ·have:setd st.e o.dst v t=st.e t:=by
      cases hdd:o.dst with
      | none=>rfl
      | some d' =>
       simp only[setd];refine zP _ _ fun e => ?_
       have:=(ht i o g2 (by rw[hdd,e])).2
       rw[hset]at this
       cases this
     simp only[this];refine h2 t fun k o' hk1 hk3=>⟨(ht k o' hk1 hk3).1,?_⟩
     have hk2:=(ht k o' hk1 hk3).2;have x4:k≠i:=fun e=>by rw[e,hset]at hk2;cases hk2
     rw[getD_set_ne false (Ne.symm x4)]at hk2;exact hk2
    ·exact hmono h n q1 q0 q1'
    ·have hput:=(he.mono q3).put o.dst (zYu (hop o hmem)) q5
     refine⟨hput.1,hput.2.1,fun t ht => ?_⟩
     have h5:=hput.2.2 t ht;have key:zKn ops C (listed.setIfInBounds i true) s.e (setd st.e o.dst v) t=setd (zKn ops C listed s.e st.e) o.dst v t:=by
      have hsame:∀k,C.getD k false=true→(listed.setIfInBounds i true).getD k false=listed.getD k false:=fun k hk=>getD_set_ne false fun e=>by rw[←e,hA]at hk;cases hk
      by_cases hdt:o.dst=some t
      ·rw[zB1 fun q oq hq1 hq2 hq3=>absurd hq3 (hdA t hdt q oq hq1 hq2)]
       simp only[setd,hdt,zJ]
      ·have e1:∀e:Nat→AV,setd e o.dst v t=e t:=fun e=>by
        cases hdd:o.dst with
        | none=>rfl
        | some d =>
         simp only[setd];exact zP _ _ fun e=>hdt (by rw[hdd,e])
       rw[e1];by_cases hp:∃k o',ops[k]? = some o'∧C.getD k false=true∧listed.getD k false=false∧o'.dst=some t
       ·rw[zEv hp]
        obtain⟨k,o',p1,p2,p3,p4⟩:=hp;exact zEv ⟨k,o',p1,p2,by rw[hsame k p2];exact p3,p4⟩
       ·have hnp:∀k o',ops[k]? = some o'→C.getD k false=true→o'.dst=some t→listed.getD k false=true:=fun k o' p1 p2 p4=>by
         cases p3:listed.getD k false with
         | true=>rfl
         | false=>exact absurd ⟨k,o',p1,p2,p3,p4⟩ hp
        rw[zB1 hnp,zB1 fun k o' p1 p2 p4=>by rw[hsame k p2];exact hnp k o' p1 p2 p4,e1]
     rw[key];exact h5
   have hfree:st.h st.n=none:=(r.free st.n (zC _)).2;have hat2:zFi X ops o ⟨zKn ops C listed s.e st.e,st.h,st.n⟩ fun v h n=>(keepOp X ops i o=true→zEa X ops st.e st.h h)∧(goOp o=false→monoOp X o=true→st.h.le h)∧(appNew ops o=true→s.h.le h)∧atl X ops s.h Kn f' (rem.filter fun q=>q.1 != i) ⟨setd st.e o.dst v,h,n⟩:=by
    unfold zFi at hat' ⊢;simp only at hat' ⊢;cases hgc:gocall X ops o (zKn ops C listed s.e st.e)with
    | some q =>
     have hgo:goOp o=true:=by
      obtain⟨c,fo,_,_,q1,q2,_⟩:=zPt hgc;simp[goOp,q1,q2]
     simp only[hgc]at hat' ⊢;cases hg:o.guard with
     | none =>
      simp only[hg]at hat' ⊢;refine⟨hat'.1,fun K w0 ρ w vs r hv=>(hat'.2 K w0 ρ w vs r hv).mono fun e w' ⟨y,h1,ρ2,z,h',n',h2,h3,h4,h5⟩=>⟨y,h1,ρ2,z,h',n',h2,h3,h4,h5.1,fun hf=>(by rw[hgo]at hf;cases hf),h5.2⟩⟩
     | some q =>
      simp only[hg]at hat' ⊢;refine⟨hat'.1,fun hgt => ?_,fun hgt=>⟨(hat'.2.2 hgt).1,fun hf=>(by rw[hgo]at hf;cases hf),(hat'.2.2 hgt).2⟩⟩
      have hk:=hat'.2.1 hgt;exact⟨hk.1,fun K w0 ρ w vs r hv=>(hk.2 K w0 ρ w vs r hv).mono fun e w' ⟨y,h1,ρ2,z,h',n',h2,h3,h4,h5⟩=>⟨y,h1,ρ2,z,h',n',h2,h3,h4,h5.1,fun hf=>(by rw[hgo]at hf;cases hf),h5.2⟩⟩
    | none =>
     simp only[hgc]at hat' ⊢;cases htw:zQi X ops o (zKn ops C listed s.e st.e) st.h st.n with
     | some q =>
      obtain⟨x,y⟩:=q;simp only[htw]at hat' ⊢;have hno:monoOp X o=true→False:=fun hm=>zWi htw hm
      exact⟨hat'.1,⟨hat'.2.1.1,fun _ hm=>(hno hm).elim,hat'.2.1.2⟩,hat'.2.2.1,fun _ hm=>(hno hm).elim,hat'.2.2.2⟩
     | none =>
     simp only[htw]at hat' ⊢;exact⟨hat'.1,hat'.2.1,fun hf hmo=>yGa hmo (.inl hf) hfree hat'.1,hat'.2.2⟩
   have hstep:=zLc (next:=wpAny X.P .any ops Q fuel (listed.setIfInBounds i true)) (Q:=Q) ok (hop o hmem) hat2 r he hcont;split
   ·rename_i hwant
    rw[if_pos hwant]at hstep;exact .inl hstep
   ·rename_i hwant
    rw[if_neg hwant]at hstep;exact hstep
theorem zVc (ok:Ok X) {sz:Nat} {Kn:St→Prop} {Q:Exit→Act→World→Prop} {ρ:Ren} (hQ:∀s a w ρ',ρ.le ρ'→Kn s→Rel X K w0 ρ' (s.n≤·) s.h w→EnvR ρ' s.e a sz→Q .normal a w)
  (hop:∀o∈ops.toList,zPd ops sz o=true) (hd:zE0 X ops=true) {s:St} (hk:yCz X ops Kn ops.toList s) {a:Act} {w:World} {ρ1:Ren} (hρ:ρ.le ρ1) (r:Rel X K w0 ρ1 (s.n≤·) s.h w) (he:EnvR ρ1 s.e a sz) :
  wpAny X.P .any ops Q ops.size (Array.replicate ops.size false) a w:=by
 let C:=zTv X ops.toList []
 have hrep:∀k,(Array.replicate ops.size false).getD k false=false:=fun k=>by
  simp[wO,Array.getElem?_replicate];split<;>rfl
 obtain⟨h1,h2⟩:=zGc (X:=X) (ops:=ops) (Kn:=Kn) (s:=s) (C:=C) rfl ops.toList 0 [] [] (by simp) rfl (fun j hj=>by omega) rfl hk (zDg _)
 simp only[List.nil_append]at h2;refine yCc ok hQ hop hd (C:=C) rfl (fun j o hj hc=>h1 j o (zDg _) hj hc) ops.size (Array.replicate ops.size false) a w ρ1 (zVw C ops.toList 0) (zVw C ops.toList 0).length ⟨zB0 X ops C s ops.size,s.h,s.n⟩ (by simp) (fun j o _ hl=>by rw[hrep]at hl;cases hl) (by omega)
  (fun p=>by rw[zR2];simp[hrep]) (zC _)
  (fun k o d hk1 hk2 hk3=>zHq rfl hd hk1 hk2 hk3 ops.size (zCe.1 hk1).1) (fun t ht=>zEq (C:=C) ops.size fun k o _ hk1 hk2 hk3=>by rw[(ht k o hk1 hk3).1]at hk2;cases hk2) (fun k ok k1 k2 _ _=>⟨fun _=>Heap.le_refl _,(h1 k ok (zDg _) k1 k2).2,fun _ _ hy=>hy⟩) h2 hρ r ?_
 refine⟨he.1,he.2.1,fun t ht => ?_⟩
 have h5:=he.2.2 t ht;have key:zKn ops C (Array.replicate ops.size false) s.e (zB0 X ops C s ops.size) t=s.e t:=by
  by_cases hp:∃k o',ops[k]? = some o'∧C.getD k false=true∧(Array.replicate ops.size false).getD k false=false∧o'.dst=some t
  ·exact zEv hp
  ·rw[zB1 fun k o' p1 p2 p4=>absurd ⟨k,o',p1,p2,hrep k,p4⟩ hp]
   exact zEq (C:=C) ops.size fun k o _ hk1 hk2 hk3=>hp ⟨k,o,hk1,hk2,hrep k,hk3⟩
 rw[key];exact h5
end
end Go.Eng
