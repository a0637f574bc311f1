import Derived.Test.YtbffkkeieihpdaaGreatDoorE14
import Derived.Test.YtbffkkeieihpdaaGreatDoorE10
set_option linter.unusedSimpArgs false
set_option linter.unusedVariables false
set_option linter.constructorNameAsVariable false
set_option maxRecDepth 100000
set_option maxHeartbeats 4000000
namespace Go.Proofs.YtbffkkeieihpdaaGreatDoor
open Go Go.Eng
section
noncomputable def cz (S:List Nat) (pf:FuncId→Option (List AV→Heap→PRes)):Ctx:=⟨Tryz.prog,ti,globS S,pf,true⟩
section
variable (S:List Nat) (pf:FuncId→Option (List AV→Heap→PRes))
theorem yJ6:(cz S pf).ti=ti:=rfl
theorem yNd:(cz S pf).G=globS S:=rfl
theorem yJ7:(cz S pf).pf=pf:=rfl
theorem yJ5:(cz S pf).two=true:=rfl
theorem yEe (ops:Array Oper) (o:Oper) (e:Nat→AV) (h:Heap) (i:Nat):zQi (cz S pf) ops o e h i=match o.guard with
  | none=>two (cz S pf) o.op (ev e) h i
  | some _=>none:=yEt rfl ops o e h i
theorem zM8:(cz S pf).P.follows .mixedOrders=true:=zB3 S pf
theorem yNq (t:TypeId) (h:((cz S pf).ti t).d≠.other):TyOk (cz S pf) t :=
 let k:=yM7 S pf t h
 ⟨k.info,k.zlen,k.zone,k.desc⟩
end
theorem evz:type_of% (And.intro @ev0 (And.intro (And.intro (And.intro @yJ6 (And.intro @yNd @yJ7)) (And.intro (And.intro @yJ5 @yEe) (And.intro @two.eq_1 @two.eq_2))) (And.intro (And.intro (And.intro @zL9 @zL8) (And.intro @zL7 @zI1)) (And.intro (And.intro @zL6 @zL5) (And.intro @sls.eq_1 @slc.eq_1))))):=And.intro @ev0 (And.intro (And.intro (And.intro @yJ6 (And.intro @yNd @yJ7)) (And.intro (And.intro @yJ5 @yEe) (And.intro @two.eq_1 @two.eq_2))) (And.intro (And.intro (And.intro @zL9 @zL8) (And.intro @zL7 @zI1)) (And.intro (And.intro @zL6 @zL5) (And.intro @sls.eq_1 @slc.eq_1))))
theorem zNd {S S':List Nat} (hs:∀x∈S,x∈S'):∀g cs,globS S g=some cs→globS S' g=some cs:=fun g cs hg=>by
 simp only[globS]at hg ⊢;by_cases hm:g∈S
 ·rw[if_pos hm]at hg;rw[if_pos (hs g hm)];exact hg
 ·rw[if_neg hm]at hg;cases hg
theorem yIx {S S':List Nat} {pf pf':FuncId→Option (List AV→Heap→PRes)} (hs:∀x∈S,x∈S') {f:FuncId} {g:List AV→Heap→PRes} (h:zGp (cx S pf) f g):zGp (cz S' pf') f g :=
 ⟨h.1,h.2.imp (fun h=>⟨h.1,fun ρ hh w args vs r=>h.2 ρ hh w args vs ⟨fun g cs hg=>r.glob g cs (zNd hs g cs hg),r.blk⟩⟩) fun h=>h⟩
theorem zSi {S:List Nat} {l:List (FuncId×(List AV→Heap→PRes))} (h:zQh S l):Ok (cz S (pfL l)) :=
 ⟨yNq S _,fun f g hf=>yIx (fun _ hx=>hx) ((zAr h).pf f g hf)⟩
theorem zDo {S S':List Nat} {pf pf':FuncId→Option (List AV→Heap→PRes)} (hs:∀x∈S,x∈S') {f:FuncId} {args:List AV} {h:Heap} {n:Nat} {Q:AV→Heap→Nat→Prop} (k:ACall (cx S pf) f args h n Q):ACall (cz S' pf') f args h n Q:=by
 refine⟨k.1,fun K w0 ρ w vs r hv => ?_⟩
 have r0:Rel (cx S pf) K w0 ρ (n≤·) h w:=⟨r.os,r.tape,r.output,r.size,r.keep,r.kold,fun g cs hg=>r.glob g cs (zNd hs g cs hg),r.blk,r.apart,r.mine,r.free,r.vers⟩
 refine (k.2 K w0 ρ w vs r0 hv).mono fun e w' ⟨y,h1,ρ2,z,h',n',h2,h3,r2,h5⟩=>⟨y,h1,ρ2,z,h',n',h2,h3,⟨r2.os,r2.tape,r2.output,r2.size,r2.keep,r2.kold,fun g cs hg => ?_,r2.blk,r2.apart,r2.mine,r2.free,r2.vers⟩,h5⟩
 obtain⟨g1,arr,el,fr,g2,g3⟩:=r.glob g cs hg;exact⟨g1,arr,el,fr,by rw[r2.keep g g1,←r.keep g g1];exact g2,g3⟩
theorem zJ2 {S S':List Nat} {pf pf':FuncId→Option (List AV→Heap→PRes)} (hs:∀x∈S,x∈S') {f:FuncId} {args:List AV} {h:Heap} {n:Nat} {Q:AV→Heap→Nat→Prop} (k:ACall (cz S pf) f args h n Q):ACall (cz S' pf') f args h n Q:=by
 refine⟨k.1,fun K w0 ρ w vs r hv => ?_⟩
 have r0:Rel (cz S pf) K w0 ρ (n≤·) h w:=⟨r.os,r.tape,r.output,r.size,r.keep,r.kold,fun g cs hg=>r.glob g cs (zNd hs g cs hg),r.blk,r.apart,r.mine,r.free,r.vers⟩
 refine (k.2 K w0 ρ w vs r0 hv).mono fun e w' ⟨y,h1,ρ2,z,h',n',h2,h3,r2,h5⟩=>⟨y,h1,ρ2,z,h',n',h2,h3,⟨r2.os,r2.tape,r2.output,r2.size,r2.keep,r2.kold,fun g cs hg => ?_,r2.blk,r2.apart,r2.mine,r2.free,r2.vers⟩,h5⟩
 obtain⟨g1,arr,el,fr,g2,g3⟩:=r.glob g cs hg;exact⟨g1,arr,el,fr,by rw[r2.keep g g1,←r.keep g g1];exact g2,g3⟩
end
end Go.Proofs.YtbffkkeieihpdaaGreatDoor
namespace Go.Proofs.YtbffkkeieihpdaaGreatDoor
open Go Go.Eng Go.RowKit Go.ChangeShapes Go.Joins
theorem zUz {S:List Nat} {tb:List (FuncId×(List AV→Heap→PRes))} (ok:zQh S tb) {f:FuncId} {fn:Func} {c:Code} (hf:Tryz.prog.funcs[f]? = some fn) (hb:fn.body=some c) {k:Nat} (hok:(zU6 (cz S (pfL tb)) fn c&&decide (k≤fn.ntmps))=true)
  {args:List AV} {vs:List Value} (hk:args.length=k) {ρ:Ren} {h:Heap} {m:Nat} {W:World} (h1:awp (cz S (pfL tb)) (fn.body.getD .skip) (zBc (cz S (pfL tb)) fn fun z _ _=>z=bv true) ⟨env0 args,roH h,m⟩)
  (r0:RoRel (cx S (pfL tb)) ρ h W) (hm:∀j,m≤j→(∀ver,ρ j ver=none)∧h j=none) (ha:VRs ρ args vs):Calls Tryz.prog f vs.toArray W fun e W'=>e=.returned (.bool true)∧Below W.heap.size W W':=by
 have r:RoRel (cz S (pfL tb)) ρ h W:=⟨r0.glob,r0.blk⟩;simp only[zO,decide_eq_true_eq]at hok;rw[hb]at h1;refine (zEf (zSi ok) (zM8 _ _) hf hb hok.1 (by omega) h1 (r.rel hm) ha).mono fun e w' ⟨y,e1,ρ',z,h',n',q1,q2,q3,q4⟩ => ?_
 subst q4;simp only[bv,VR]at q2;subst q2;exact⟨e1,q3.gone⟩
end Go.Proofs.YtbffkkeieihpdaaGreatDoor
namespace Go.Proofs.YtbffkkeieihpdaaGreatDoor
open Go Go.Eng
def OwnR (sz:Nat) (a:AV) (len:Nat) (h:Heap) (n:Nat) (z:AV) (h':Heap) (n':Nat):Prop :=
 (len=0∧z=.v (.slice none 0 0)∧h'=h∧n'=n)∨
 (0<len∧z=.s n 0 0 len∧n'=n+2∧h'=up h n (some ⟨slc h a 0 (len*sz),0,true,sz⟩))
theorem yC7 {h:Heap} {n:Nat} {a b:Option Blk}:up (up h n a) n b=up h n b:=by
 funext i;by_cases e:i=n
 ·subst e;rw[zJ,zJ]
 ·rw[zP _ _ e,zP _ _ e,zP _ _ e]
theorem zV6 {α:Type}:∀(cs:List α) (a b c:List α),b.length=cs.length→wr (a++b++c) a.length cs=a++cs++c
 | [],a,b,c,h=>by
  have:b=[]:=zU h;subst this;rfl
 | x::r,a,[],c,h=>by simp at h
 | x::r,a,y::b,c,h=>by
  have e:((a++(y::b)++c).set a.length x)=(a++[x])++b++c:=by
   rw[xT,zCf _ _ (zC _),zC7];simp
  have:=zV6 r (a++[x]) b c (by simpa using h)
  rw[zM]at this
  simp only[wr,e];simpa using this
theorem yEl {l cs:List AV} (h:l.length=cs.length):wr l 0 cs=cs:=by
 have:=zV6 cs [] l [] (by simpa using h)
 simpa using this
theorem zIj {α:Type} {sz:Nat} {d:De α} {h:Heap} {n:Nat} {a:AV} {l:List α} (e1:rd (De.sl sz d) h a=some l) (hn:Fresh n h) (z:List Value) (hz:z.length=sz) (b:Option Blk) :
  (sls (up h n b) a 0 (l.length*sz)∧l.length*sz≤(repZ z l.length).length)∧wr (repZ z l.length) 0 (List.take (l.length*sz) (slc (up h n b) a 0 (l.length*sz)))=slc h a 0 (l.length*sz):=by
 obtain⟨cs,c1,c2,c3⟩:=zMy hn e1;have h1:=c1 (up h n b) ((zD (zC _) _).2 (zE _ _));have h2:=(c1 h (zE _ _)).2;have h3:(repZ z l.length).length=l.length*sz:=by rw[zCx,hz]
 refine⟨⟨h1.1,by omega⟩,?_⟩
 rw[h1.2,h2,yX (by omega),yEl (by omega)]
theorem c75 {α:Type} {d:De α} {h:Heap} {n:Nat} {a:AV} {l:List α} (e1:rd (De.sl 11 d) h a=some l) (hl:l.length≤2199023255552) (hn:Fresh n h) :
  ACall (cx [] (pfL [])) 75 [a] h n fun z h' n'=>OwnR 11 a l.length h n z h' n':=by
 refine yR (args:=[a]) (zAr yJ) (zB3 _ _) Tryz.func75 (c:=Tryz.f75.body.getD .skip) rfl (by kernel_rfl) (xK Tryz.func75 rfl rfl _ _) (show 1≤Tryz.f75.ntmps by decide +kernel) ?_
 obtain⟨s1,s2,s3,s4,s5⟩:=zN e1;have key:∀e:Nat→AV,e 0=a→awp (cx [] (pfL [])) (Tryz.f75.body.getD .skip) (zBc (cx [] (pfL [])) Tryz.f75 fun z h' n'=>OwnR 11 a l.length h n z h' n') ⟨e,h,n⟩:=by
  intro e q0;by_cases h0:l.length=0
  ·simp[evx,Tryz.f75,q0,s1,s2,h0,OwnR]
  ·have z3:0<l.length:=by omega
   simp[evx,Tryz.f75,q0,s1,s2,h0,OwnR,yC7];have k:=fun z hz b=>zIj e1 hn z hz b
   try simp only[xM]at k
   refine⟨by omega,(k _ rfl _).1,z3,?_⟩
   rw[(k _ rfl _).2]
 exact key _ rfl
theorem yPj {α:Type} {d:De α} {h:Heap} {n:Nat} {a:AV} {l:List α} (e1:rd (De.sl 2 d) h a=some l) (hl:l.length≤2199023255552) (hn:Fresh n h) :
  ACall (cx [] (pfL [])) 107 [a] h n fun z h' n'=>OwnR 2 a l.length h n z h' n':=by
 refine yR (args:=[a]) (zAr yJ) (zB3 _ _) Tryz.func107 (c:=Tryz.f107.body.getD .skip) rfl (by kernel_rfl) (xK Tryz.func107 rfl rfl _ _) (show 1≤Tryz.f107.ntmps by decide +kernel) ?_
 obtain⟨s1,s2,s3,s4,s5⟩:=zN e1;have key:∀e:Nat→AV,e 0=a→awp (cx [] (pfL [])) (Tryz.f107.body.getD .skip) (zBc (cx [] (pfL [])) Tryz.f107 fun z h' n'=>OwnR 2 a l.length h n z h' n') ⟨e,h,n⟩:=by
  intro e q0;by_cases h0:l.length=0
  ·simp[evx,Tryz.f107,q0,s1,s2,h0,OwnR]
  ·have z3:0<l.length:=by omega
   simp[evx,Tryz.f107,q0,s1,s2,h0,OwnR,yC7];have k:=fun z hz b=>zIj e1 hn z hz b
   try simp only[xM]at k
   refine⟨by omega,(k _ rfl _).1,z3,?_⟩
   rw[(k _ rfl _).2]
 exact key _ rfl
theorem yNi {α:Type} {d:De α} {h:Heap} {n:Nat} {a:AV} {l:List α} (e1:rd (De.sl 1 d) h a=some l) (hl:l.length≤2199023255552) (hn:Fresh n h) :
  ACall (cx [] (pfL [])) 108 [a] h n fun z h' n'=>OwnR 1 a l.length h n z h' n':=by
 refine yR (args:=[a]) (zAr yJ) (zB3 _ _) Tryz.func108 (c:=Tryz.f108.body.getD .skip) rfl (by kernel_rfl) (xK Tryz.func108 rfl rfl _ _) (show 1≤Tryz.f108.ntmps by decide +kernel) ?_
 obtain⟨s1,s2,s3,s4,s5⟩:=zN e1;have key:∀e:Nat→AV,e 0=a→awp (cx [] (pfL [])) (Tryz.f108.body.getD .skip) (zBc (cx [] (pfL [])) Tryz.f108 fun z h' n'=>OwnR 1 a l.length h n z h' n') ⟨e,h,n⟩:=by
  intro e q0;by_cases h0:l.length=0
  ·simp[evx,Tryz.f108,q0,s1,s2,h0,OwnR]
  ·have z3:0<l.length:=by omega
   simp[evx,Tryz.f108,q0,s1,s2,h0,OwnR,yC7];have k:=fun z hz b=>zIj e1 hn z hz b
   try simp only[xM]at k
   refine⟨by omega,(k _ rfl _).1,z3,?_⟩
   rw[(k _ rfl _).2]
 exact key _ rfl
theorem yPi {α:Type} {d:De α} {h:Heap} {n:Nat} {a:AV} {l:List α} (e1:rd (De.sl 5 d) h a=some l) (hl:l.length≤2199023255552) (hn:Fresh n h) :
  ACall (cx [] (pfL [])) 109 [a] h n fun z h' n'=>OwnR 5 a l.length h n z h' n':=by
 refine yR (args:=[a]) (zAr yJ) (zB3 _ _) Tryz.func109 (c:=Tryz.f109.body.getD .skip) rfl (by kernel_rfl) (xK Tryz.func109 rfl rfl _ _) (show 1≤Tryz.f109.ntmps by decide +kernel) ?_
 obtain⟨s1,s2,s3,s4,s5⟩:=zN e1;have key:∀e:Nat→AV,e 0=a→awp (cx [] (pfL [])) (Tryz.f109.body.getD .skip) (zBc (cx [] (pfL [])) Tryz.f109 fun z h' n'=>OwnR 5 a l.length h n z h' n') ⟨e,h,n⟩:=by
  intro e q0;by_cases h0:l.length=0
  ·simp[evx,Tryz.f109,q0,s1,s2,h0,OwnR]
  ·have z3:0<l.length:=by omega
   simp[evx,Tryz.f109,q0,s1,s2,h0,OwnR,yC7];have k:=fun z hz b=>zIj e1 hn z hz b
   try simp only[xM]at k
   refine⟨by omega,(k _ rfl _).1,z3,?_⟩
   rw[(k _ rfl _).2]
 exact key _ rfl
theorem yNh {α:Type} {d:De α} {h:Heap} {n:Nat} {a:AV} {l:List α} (e1:rd (De.sl 6 d) h a=some l) (hl:l.length≤2199023255552) (hn:Fresh n h) :
  ACall (cx [] (pfL [])) 110 [a] h n fun z h' n'=>OwnR 6 a l.length h n z h' n':=by
 refine yR (args:=[a]) (zAr yJ) (zB3 _ _) Tryz.func110 (c:=Tryz.f110.body.getD .skip) rfl (by kernel_rfl) (xK Tryz.func110 rfl rfl _ _) (show 1≤Tryz.f110.ntmps by decide +kernel) ?_
 obtain⟨s1,s2,s3,s4,s5⟩:=zN e1;have key:∀e:Nat→AV,e 0=a→awp (cx [] (pfL [])) (Tryz.f110.body.getD .skip) (zBc (cx [] (pfL [])) Tryz.f110 fun z h' n'=>OwnR 6 a l.length h n z h' n') ⟨e,h,n⟩:=by
  intro e q0;by_cases h0:l.length=0
  ·simp[evx,Tryz.f110,q0,s1,s2,h0,OwnR]
  ·have z3:0<l.length:=by omega
   simp[evx,Tryz.f110,q0,s1,s2,h0,OwnR,yC7];have k:=fun z hz b=>zIj e1 hn z hz b
   try simp only[xM]at k
   refine⟨by omega,(k _ rfl _).1,z3,?_⟩
   rw[(k _ rfl _).2]
 exact key _ rfl
theorem yPh {α:Type} {d:De α} {h:Heap} {n:Nat} {a:AV} {l:List α} (e1:rd (De.sl 1 d) h a=some l) (hl:l.length≤2199023255552) (hn:Fresh n h) :
  ACall (cx [] (pfL [])) 111 [a] h n fun z h' n'=>OwnR 1 a l.length h n z h' n':=by
 refine yR (args:=[a]) (zAr yJ) (zB3 _ _) Tryz.func111 (c:=Tryz.f111.body.getD .skip) rfl (by kernel_rfl) (xK Tryz.func111 rfl rfl _ _) (show 1≤Tryz.f111.ntmps by decide +kernel) ?_
 obtain⟨s1,s2,s3,s4,s5⟩:=zN e1;have key:∀e:Nat→AV,e 0=a→awp (cx [] (pfL [])) (Tryz.f111.body.getD .skip) (zBc (cx [] (pfL [])) Tryz.f111 fun z h' n'=>OwnR 1 a l.length h n z h' n') ⟨e,h,n⟩:=by
  intro e q0;by_cases h0:l.length=0
  ·simp[evx,Tryz.f111,q0,s1,s2,h0,OwnR]
  ·have z3:0<l.length:=by omega
   simp[evx,Tryz.f111,q0,s1,s2,h0,OwnR,yC7];have k:=fun z hz b=>zIj e1 hn z hz b
   try simp only[xM]at k
   refine⟨by omega,(k _ rfl _).1,z3,?_⟩
   rw[(k _ rfl _).2]
 exact key _ rfl
def wtn (lo hi:Nat) (h:Heap):Heap:=fun i=>if lo≤i∧i<hi then h i else none
theorem zJ4 {lo hi:Nat} {h:Heap} {i:Nat} (h1:lo≤i) (h2:i<hi):wtn lo hi h i=h i:=if_pos ⟨h1,h2⟩
theorem zZ1 {lo hi lo' hi':Nat} {h h':Heap} (h1:lo'≤lo) (h2:hi≤hi') (h3:∀i,lo≤i→i<hi→h' i=h i):(wtn lo hi h).le (wtn lo' hi' h'):=fun i k e=>by
 unfold wtn at e ⊢;split at e
 ·rename_i h4
  rw[if_pos ⟨by omega,by omega⟩,h3 i h4.1 h4.2];exact e
 ·cases e
theorem yC6 {lo hi:Nat} {h:Heap} {i:Nat} (b:Option Blk) (hi':i<lo∨hi≤i):wtn lo hi (up h i b)=wtn lo hi h:=by
 funext j;unfold wtn;split
 ·rw[zP _ _ (by omega)]
 ·rfl
theorem zC8 {α:Type} {d:De α} {lo hi lo' hi':Nat} {h h':Heap} {a:AV} {x:α} (e:rd d (wtn lo hi h) a=some x) (h1:lo'≤lo) (h2:hi≤hi') (h3:∀i,lo≤i→i<hi→h' i=h i):rd d (wtn lo' hi' h') a=some x:=yZ (zZ1 h1 h2 h3) e
def still (T:Nat→Nat) (h:Heap):Heap:=fun i=>if T i=0 then h i else none
theorem zA8 (T:Nat→Nat) (h:Heap):(still T h).le h:=fun i k e=>by
 unfold still at e;split at e
 ·exact e
 ·cases e
theorem zJi {T:Nat→Nat} {h:Heap} {i:Nat} (h1:T i=0):still T h i=h i:=if_pos h1
theorem zKc {T:Nat→Nat} {lo hi:Nat} {h:Heap} (h1:∀i,lo≤i→i<hi→T i=0):(wtn lo hi h).le (still T h):=fun i k e=>by
 unfold wtn at e;split at e
 ·rename_i h2
  rw[zJi (h1 i h2.1 h2.2)];exact e
 ·cases e
structure Mv (K:Nat→Prop) (T:Nat→Nat) (h:Heap) (n:Nat) (T':Nat→Nat) (h':Heap) (n':Nat):Prop where
 nn:n≤n'
 old:∀i,i<n→T' i=T i
 keep:∀i,i<n→¬(T i≠0∧K (T i))→h' i=h i
 new:∀i,n'≤i→T' i=0
 fr:Fresh n' h'
theorem Mv.still {K:Nat→Prop} {T T':Nat→Nat} {h h':Heap} {n n':Nat} (m:Mv K T h n T' h' n') (hn:Fresh n h):(still T h).le (still T' h'):=fun i k e=>by
 unfold Go.Proofs.YtbffkkeieihpdaaGreatDoor.still at e ⊢;split at e
 ·rename_i h0
  have hi:i<n:=xB e hn;rw[if_pos (by rw[m.old i hi];exact h0),m.keep i hi (fun h=>h.1 h0)];exact e
 ·cases e
theorem Mv.trans {K K1 K2:Nat→Prop} {T T1 T2:Nat→Nat} {h h1 h2:Heap} {n n1 n2:Nat} (a:Mv K1 T h n T1 h1 n1) (b:Mv K2 T1 h1 n1 T2 h2 n2) (k1:∀x,K1 x→K x) (k2:∀x,K2 x→K x):Mv K T h n T2 h2 n2 where
 nn:=xL a.nn b.nn
 old i hi:=by rw[b.old i (Nat.lt_of_lt_of_le hi a.nn),a.old i hi]
 keep i hi hk:=by
  rw[b.keep i (Nat.lt_of_lt_of_le hi a.nn) (by rw[a.old i hi];exact fun h=>hk ⟨h.1,k2 _ h.2⟩),a.keep i hi fun h=>hk ⟨h.1,k1 _ h.2⟩]
 new:=b.new
 fr:=b.fr
theorem Mv.of_agree {K:Nat→Prop} {T:Nat→Nat} {h h':Heap} {n n':Nat} (ht:∀i,n≤i→T i=0) (hnn:n≤n') (ha:agree n h h') (hf:Fresh n' h'):Mv K T h n T h' n' :=
 ⟨hnn,fun _ _=>rfl,fun i hi _=>ha i hi,fun i hi=>ht i (by omega),hf⟩
def GL (T:Nat→Nat) (k sz:Nat) (h:Heap) (a:AV) (m:Nat) (cs:List AV):Prop :=
 cs.length=m*sz∧((a=.v (.slice none 0 0)∧m=0)∨∃id ver,a=.s id ver 0 m∧T id=k∧h id=some ⟨cs,ver,true,sz⟩)
theorem GL.mv {K:Nat→Prop} {T T':Nat→Nat} {h h':Heap} {n n' k sz m:Nat} {a:AV} {cs:List AV} (g:GL T k sz h a m cs) (v:Mv K T h n T' h' n') (hn:Fresh n h) (hk:¬(k≠0∧K k)):GL T' k sz h' a m cs:=by
 refine⟨g.1,g.2.imp id fun⟨id,ver,e1,e2,e3⟩ => ?_⟩
 have hi:id<n:=xB e3 hn;exact⟨id,ver,e1,by rw[v.old id hi];exact e2,by rw[v.keep id hi (by rw[e2];exact hk)];exact e3⟩
theorem GL.nil (T:Nat→Nat) (k sz:Nat) (h:Heap):GL T k sz h (.v (.slice none 0 0)) 0 []:=⟨by simp,.inl ⟨rfl,rfl⟩⟩
theorem GL.rd {α:Type} {d:De α} {T:Nat→Nat} {k sz m:Nat} {h h0:Heap} {a:AV} {cs:List AV} {l:List α} (g:GL T k sz h a m cs) (hl:l.length=m) (h1:∀id ver,a=.s id ver 0 m→h0 id=h id) (h2:∀i (hi:i<l.length),d.run h0 ((cs.drop (i*sz)).take sz)=some l[i]):rd (De.sl sz d) h0 a=some l:=by
 rcases g.2 with ⟨rfl,rfl⟩|⟨id,ver,rfl,e2,e3⟩
 ·obtain rfl:l=[]:=zX.1 hl
  rfl
 ·subst hl
  exact De.sl_in (off:=0) (k:=⟨cs,ver,true,sz⟩) (by rw[h1 id ver rfl];exact e3) (by have:=g.1;simp only[];omega) (fun i hi=>by simpa using h2 i hi)
def zY9 (h:Heap):List AV→Option (List Ty×Int×ByteArray)
 | [x,.v (.int .i64 t),.v (.string v)]=>(zIp h x).map fun l=>(l,t,v)
 | _=>none
theorem zNr {h:Heap} {args:List AV} {q:List Ty×Int×ByteArray} (e:zY9 h args=some q):∃x,args=[x,ii q.2.1,ss q.2.2]∧zIp h x=some q.1:=by
 unfold zY9 at e;split at e
 ·simp only[zV]at e
  obtain⟨t,h1,rfl⟩:=e;exact⟨_,rfl,h1⟩
 ·cases e
theorem zY8 (h h':Heap) (args:List AV) (q:List Ty×Int×ByteArray) (hh:h.le h') (e:zY9 h args=some q):zY9 h' args=some q:=by
 obtain⟨x,rfl,e1⟩:=zNr e;simp only[zY9,ii,ss,zJw hh.sim e1,zK]
def GAt:=yH zY9 (fun q=>zCa q.1) fun q=>ii (zCn q.1 q.2.1 q.2.2)
def yAj:List (FuncId×(List AV→Heap→PRes)):=[(150,yEk)]
theorem yM1:P0 [] 116 GAt:=by
 refine mkH 3 (S:=[]) (l:=yAj) (zS yNm yJ) Tryz.func116 rfl (by kernel_rfl) zY8 (fun h l x e=>by obtain⟨a,rfl,_⟩:=zNr e;exact zC _) (fun a=>rfl) (fun args q h n e hp hn => ?_)
 obtain⟨x,rfl,e1⟩:=zNr e;obtain⟨a,rfl,e2⟩:=zBd e1;obtain⟨l,ty,v⟩:=q;obtain⟨hp1,hp2⟩:=hp;simp only[]at e2 hp1 hp2 ⊢;obtain⟨s1,s2,s3,s4,s5⟩:=zN e2;have hts:ByteArray.mk #[116,115]=tsB:=rfl;by_cases h1:ty<0
 ·have hf:zCn l ty v=-1:=by rw[zCn,if_pos (.inl h1)]
  simp[evx,ii,ss,s1,s2,s4,h1,hf]
 obtain⟨j,rfl⟩:∃j:Nat,ty=j:=⟨ty.toNat,by omega⟩
 by_cases hlt:j<l.length
 ·rcases zOg e2 with ⟨h0,_⟩|⟨id,off,k,rfl,hk,ho,hat⟩
  ·rw[h0]at hlt;simp at hlt
  obtain⟨_,c,hc,hcr⟩:=hat j hlt;have h2:¬l.length≤j:=by omega
  have hro:=zEj hk;have h0:=zJc hk hn 0;simp only[yL]at h0;have u3:=(zN hcr).2.2.1;have gr:∀h',agree n (roH h) h'→rd dSs h' c=some l[j].attrs:=xP hn hcr;have hw1:off+(j*2+2)≤k.cells.length:=by omega
  have hsm:=hp2 _ (zH hlt);have hlj:l[j]? = some l[j]:=zA hlt;have hff:zCn l j v=if (v==tsB)=true then -2 else if wY l[j].attrs v<8 then wY l[j].attrs v else -1:=by
   rw[zCn,if_neg (by omega)]
   simp only[yF,hlj]
  generalize l[j]=t at *;cases hv:(v==tsB)with
  | true =>
   rw[hv,if_pos rfl]at hff;simp[evx,ii,ss,h2,hts,hv,hff]
  | false =>
   rw[hv,if_neg (by simp)]at hff
   have hi0 : -1≤wY t.attrs v:=by unfold wY;split<;>omega
   obtain⟨z,hzz⟩:∃z,wY t.attrs v=z:=⟨_,rfl⟩;rw[hzz]at hff hi0;by_cases hz:0≤z
   ·by_cases hz8:z<8
    ·rw[if_pos hz8]at hff
     simp[evx,ii,ss,hlt,h2,hts,hv,hff,h0,hro,hc,hw1,yAj,yEk,yH,zRf,gr,zD,zE,hsm,hzz,hz,hz8]
    ·rw[if_neg hz8]at hff
     simp[evx,ii,ss,hlt,h2,hts,hv,hff,h0,hro,hc,hw1,yAj,yEk,yH,zRf,gr,zD,zE,hsm,hzz,hz,hz8]
   ·have:z=-1:=by omega
    subst this;simp at hff;simp[evx,ii,ss,hlt,h2,hts,hv,hff,h0,hro,hc,hw1,yAj,yEk,yH,zRf,gr,zD,zE,hsm,hzz]
 ·have h2:l.length≤j:=by omega
  have hf:zCn l j v=-1:=by rw[zCn,if_pos (.inr (by omega))]
  simp[evx,ii,ss,s1,s2,s4,h2,hf]
def opA (o:List Int) (k:Int):Int:=if k=1 then o.getD (o.length-1) 0 else if k=2 then o.getD (o.length-2) 0 else -1
def opB (o:List Int) (k:Int):Int:=if k=2 then o.getD (o.length-1) 0 else -1
def xS (o:List Int) (x:Nd) (i:Nat):Option (List Int) :=
 if zBg x.op<0∨zBg x.op > o.length∨zA3 x=false then none
 else if x.a≠opA o (zBg x.op)∨x.b≠opB o (zBg x.op)then none
 else some (o.take (o.length-(zBg x.op).toNat)++[(i:Int)])
def zBy (t:List Nd):Nat→Option (List Int)
 | 0=>some []
 | j+1=>(zBy t j).bind fun o=>xS o (t.getD j nd0) j
def zAh (t:List Nd):Bool:=match zBy t t.length with
 | some o=>decide (o.length=1)
 | none=>false
theorem zSm {t:List Nd}:∀{j:Nat} {o:List Int},zBy t j=some o→o.length≤j
 | 0,o,h=>by simp[zBy]at h;subst h;simp
 | j+1,o,h=>by
  simp only[zBy,xE]at h;obtain⟨p,h1,h2⟩:=h;have:=zSm h1;unfold xS at h2;split at h2
  ·cases h2
  ·split at h2
   ·cases h2
   ·cases h2
    simp;omega
theorem zPb {t:List Nd} {j:Nat} (h:zBy t j=none):∀m,zBy t (j+m)=none
 | 0=>h
 | m+1=>by
  show zBy t (j+m+1)=none;simp only[zBy,zPb h m,Option.bind_none]
theorem zZ9 {t:List Nd} {j:Nat} {o:List Int} (hj:j<t.length) (ho:zBy t j=some o) (hs:xS o (t.getD j nd0) j=none):zAh t=false:=by
 have h1:zBy t (j+1)=none:=by simp only[zBy,ho,zT,hs]
 have:=zPb h1 (t.length-(j+1));rw[show j+1+(t.length-(j+1))=t.length by omega]at this
 simp only[zAh,this]
def G70:=yH deT xQ fun t=>bv (zAh t)
def zMt:List (FuncId×(List AV→Heap→PRes)):=[(139,zOa),(140,zN9)]
theorem zN2 (o:Int):zBg o=-1∨zBg o=0∨zBg o=1∨zBg o=2:=by
 unfold zBg;repeat' split
 all_goals simp
theorem P70:P0 [3] 79 G70:=by
 refine mkH 1 (S:=[3]) (l:=zMt) (zS yOx (zS yOw yJ)) Tryz.func79 rfl (by kernel_rfl) zNj (fun h l x e=>by obtain⟨a,rfl,_⟩:=zG4 e;exact zC _) (fun a=>rfl) (fun args t h n e hp hn => ?_)
 obtain⟨a,rfl,e1⟩:=zG4 e;obtain⟨s1,s2,s3,s4,s5⟩:=zN e1;have hp':t.length*64≤140737488355328:=hp;have key:∀e:Nat→AV,e 0=a→awp (cx [3] (pfL zMt)) (Tryz.f79.body.getD .skip) (zBc (cx [3] (pfL zMt)) Tryz.f79 fun z _ _=>z=bv (zAh t)) ⟨e,roH h,n⟩:=fun e q0=>by
  simp[evx,Tryz.f79,q0,s1,s2];refine yN (fun s=>∃(j:Nat) (o:List Int),j≤t.length∧zBy t j=some o∧s.e 9=a∧s.e 10=ii t.length∧s.e 11=ii j∧Own s.h n s.n (s.e 3) o.length (o.map ii) 1∧agree n (roH h) s.h∧n≤s.n) (fun s=>t.length-(s.e 11).i.toNat) ⟨0,[],by simp[up,ii,zE,zBy,Own]⟩ ?_
  rintro e' h' n' ⟨j,o,hj,ho,q9,q10,q11,hown,hag,hnn⟩;simp only[]at q9 q10 q11 hown hag hnn;have hol:=zSm ho;by_cases hlt:j<t.length
  ·rcases zKk e1 with ⟨h0,_⟩|⟨id,off,k,rfl,hk,ho',hat⟩
   ·rw[h0]at hlt;simp at hlt
   have hr:=hat j hlt;have ha':=wR hn hk hag;have hle:∀(X:Ctx) (h':Heap),h' id=some ⟨k.cells,k.ver,false,k.esz⟩→ldcs X h' (.p id k.ver (off+j*6)) 0 6=yC t[j]:=fun X h' e=>zKo e hr
   have hw6:off+(j*6+6)≤k.cells.length:=by omega
   have hw:=yK (j:=j) (by unfold big;omega)
   have hg:t.getD j nd0=t[j]:=by rw[zB,zA hlt];rfl
   have hno:=zZ9 hlt ho;have hsu:zBy t (j+1)=xS o t[j] j:=by simp only[zBy,ho,zT,hg]
   rw[hg]at hno;have hid:id<n:=xB hk hn;have z1:¬id=n':=by omega
   have f0:n≤n':=hnn;generalize t[j]=x at *;obtain⟨op,num,var,attr,xa,xb⟩:=x;have hnb:∀(X:Ctx) (h'':Heap),h'' n'=some ⟨[.v (.int .i64 op),.v (.int .i64 num),.v (.string var),.v (.string attr),.v (.int .i64 xa),.v (.int .i64 xb)],0,true,6⟩→ldcs X h'' (.p n' 0 0) 0 6=[.v (.int .i64 op),.v (.int .i64 num),.v (.string var),.v (.string attr),.v (.int .i64 xa),.v (.int .i64 xb)]:=fun X h'' e=>by simp[ldcs,ldc,e]
   have hdn:deN (.g [.v (.int .i64 op),.v (.int .i64 num),.v (.string var),.v (.string attr),.v (.int .i64 xa),.v (.int .i64 xb)])=some ⟨op,num,var,attr,xa,xb⟩:=rfl
   try simp only[]at hno hsu
   have hb3:(j+1)*8≤140737488355328:=by omega
   have hol2:(o.map ii).length=o.length:=zQ ..;have hw0:IntKind.i64.wrap 0=0:=rfl;have hwn:∀m:Nat,m<big→IntKind.i64.wrap (m:Int)=m:=fun m hm=>by
    cases m with
    | zero=>rfl
    | succ m=>exact yK (by omega)
   have hbg:o.length<big:=by unfold big;omega
   rcases zN2 op with har|har|har|har
   ·have hf:=hno (by simp[xS,har])
    simp[evx,q9,q10,q11,ii,ss,hlt,ha',hle,hw6,zMt,zOa,zN9,yV,deI,har,hf,bv,yC]
   ·have q3s:(∀g,AV.unc g (e' 3)=e' 3)∧(e' 3).isS∧(e' 3).slen=o.length:=by
     rcases hown with ⟨h0,hnil,q3⟩|⟨w,u,q3,hk3,hw1,hw2⟩
     ·rw[q3];exact⟨fun _=>rfl,⟨rfl,rfl⟩,h0.symm⟩
     ·rw[q3];exact⟨fun _=>rfl,trivial,rfl⟩
    obtain⟨q3a,q3b,q3c⟩:=q3s;cases hfl:zA3 ⟨op,num,var,attr,xa,xb⟩with
    | false =>
     have hf:=hno (by simp[xS,hfl])
     simp[evx,q9,q10,q11,ii,ss,hlt,ha',hle,hnb,hdn,hw6,zMt,zOa,zN9,yV,deI,har,bv,yC,q3a,q3b,q3c,hfl,hf]
    | true =>
     by_cases hx1:xa=-1
     ·by_cases hx2:xb=-1
      ·subst hx1;subst hx2
       have hst:xS o ⟨op,num,var,attr,-1,-1⟩ j=some (o++[(j:Int)]):=by simp[xS,har,hfl,opA,opB]
       rcases hown with ⟨h0,hnil,q3⟩|⟨w,u,q3,hk3,hw1,hw2⟩
       ·have ho0:o=[]:=zX.1 h0
        subst ho0;have f1:n≤n'+2:=by omega
        have f2:n≤n'+3:=by omega
        simp[evx,q3,q9,q10,q11,ii,ss,hlt,ha',hle,hnb,hdn,hw6,zMt,zOa,zN9,yV,deI,har,bv,yC,hfl,hw0,hw,zD,hag,f0,f1,f2];exact⟨⟨j+1,by omega,_,by rw[hsu,hst],by omega,.inr ⟨n'+3,0,rfl,by rw[zJ];rfl,by omega,by omega⟩,by omega⟩,by omega⟩
       ·have y1:¬w=n':=by omega
        have y2:¬w=n'+2:=by omega
        have y3:n≤w:=hw1;have f1:n≤n'+2:=by omega
        have hb4:o.length≤9223372036854775806:=by omega
        have hb5:(o.length+1)*8≤140737488355328:=by omega
        simp[evx,q3,q9,q10,q11,ii,ss,hlt,ha',hle,hnb,hdn,hw6,zMt,zOa,zN9,yV,deI,har,bv,yC,hfl,hw,hwn _ hbg,hk3,y1,y2,y3,zD,hag,f0,f1,hb4,hb5];exact⟨⟨j+1,by omega,_,by rw[hsu,hst],by omega,.inr ⟨w,u+1,by simp,by rw[zJ];simp[ii],by omega,by omega⟩,by omega⟩,by omega⟩
      ·subst hx1
       have hf:=hno (by simp[xS,opB,har,hx2])
       simp[evx,q9,q10,q11,ii,ss,hlt,ha',hle,hnb,hdn,hw6,zMt,zOa,zN9,yV,deI,har,bv,yC,q3a,q3b,q3c,hfl,hf,hx2]
     ·have hf:=hno (by simp[xS,opA,har,hx1])
      simp[evx,q9,q10,q11,ii,ss,hlt,ha',hle,hnb,hdn,hw6,zMt,zOa,zN9,yV,deI,har,bv,yC,q3a,q3b,q3c,hfl,hf,hx1]
   ·by_cases hle1:o.length<1
    ·have ho0:o=[]:=zX.1 (by omega)
     subst ho0;have hf:=hno (by simp[xS,har])
     have q3s:(∀g,AV.unc g (e' 3)=e' 3)∧(e' 3).isS∧(e' 3).slen=0:=by
      rcases hown with ⟨h0,hnil,q3⟩|⟨w,u,q3,hk3,hw1,hw2⟩
      ·rw[q3];exact⟨fun _=>rfl,⟨rfl,rfl⟩,rfl⟩
      ·rw[q3];exact⟨fun _=>rfl,trivial,rfl⟩
     obtain⟨q3a,q3b,q3c⟩:=q3s;simp[evx,q9,q10,q11,ii,ss,hlt,ha',hle,hw6,zMt,zOa,zN9,yV,deI,har,hf,bv,yC,q3a,q3b,q3c]
    obtain⟨p,y,rfl⟩:∃p y,o=p++[y]:=⟨o.dropLast,o.getLast (by intro h;subst h;simp at hle1),(List.dropLast_concat_getLast _).symm⟩
    have hln:(p++[y]).length=p.length+1:=by simp
    have hz1:(1:Int)≤(p.length:Int)+1:=by omega
    have hz2:(p.length:Int)<(p.length:Int)+1:=by omega
    have hz4:(p.length:Int)≤(p.length:Int)+1:=by omega
    have hgt:¬(p.length:Int)+1<1:=by omega
    rcases hown with ⟨h0,hnil,q3⟩|⟨w,u,q3,hk3,hw1,hw2⟩
    ·rw[hln]at h0;omega
    have y1:¬w=n':=by omega
    have y2:¬w=n'+2:=by omega
    have y3:n≤w:=hw1;have f1:n≤n'+2:=by omega
    have hpb:p.length<big:=by omega
    have hb4:p.length≤9223372036854775806:=by omega
    have hb5:(p.length+1)*8≤140737488355328:=by omega
    have hmap:(p++[y]).map ii=p.map ii++[ii y]:=by simp
    have hpl:(p.map ii).length=p.length:=zQ ..;have hoA:opA (p++[y]) 1=y:=by simp[opA]
    have hoB:opB (p++[y]) 1=-1:=by simp[opB]
    rw[hln]at q3;rw[hmap]at hk3;have hcut:cut p.length (p.map ii++[ii y])=p.map ii:=by rw[zH2,zBw (by omega),yX (by omega)]
    simp only[ii]at hcut;generalize hcp:p.map ii=cp at *;cases hfl:zA3 ⟨op,num,var,attr,xa,xb⟩with
    | false =>
     have hf:=hno (by simp[xS,hfl])
     simp[evx,q3,q9,q10,q11,ii,ss,hlt,ha',hle,hnb,hdn,hw6,zMt,zOa,zN9,yV,deI,har,bv,yC,hfl,hf,hgt]
    | true =>
     by_cases hx1:xa=y
     ·by_cases hx2:xb=-1
      ·subst hx1;subst hx2
       have hst:xS (p++[xa]) ⟨op,num,var,attr,xa,-1⟩ j=some (p++[(j:Int)]):=by simp[xS,har,hfl,hoA,hoB];omega
       simp[evx,q3,q9,q10,q11,ii,ss,hlt,ha',hle,hnb,hdn,hw6,zMt,zOa,zN9,yV,deI,har,bv,yC,hfl,hw,hwn _ hpb,hk3,hpl,y1,y2,y3,zD,hag,f0,f1,hb4,hb5,hcut,hz2,hz4,hgt];exact⟨⟨j+1,by omega,_,by rw[hsu,hst],by omega,.inr ⟨w,u+1,by simp,by rw[zJ,←hcp];simp[ii],by omega,by omega⟩,by omega⟩,by omega⟩
      ·subst hx1
       have hf:=hno (by simp[xS,har,hoA,hoB,hx2])
       simp[evx,q3,q9,q10,q11,ii,ss,hlt,ha',hle,hnb,hdn,hw6,zMt,zOa,zN9,yV,deI,har,bv,yC,hfl,hf,hx2,hwn _ hpb,hk3,hpl,y1,hz2,hgt]
     ·have hf:=hno (by simp[xS,har,hoA,hx1])
      simp[evx,q3,q9,q10,q11,ii,ss,hlt,ha',hle,hnb,hdn,hw6,zMt,zOa,zN9,yV,deI,har,bv,yC,hfl,hf,hx1,hwn _ hpb,hk3,hpl,y1,hz2,hgt]
   ·by_cases hle1:o.length<2
    ·have hf:=hno (by simp[xS,har];omega)
     have q3s:(∀g,AV.unc g (e' 3)=e' 3)∧(e' 3).isS∧(e' 3).slen=o.length:=by
      rcases hown with ⟨h0,hnil,q3⟩|⟨w,u,q3,hk3,hw1,hw2⟩
      ·rw[q3];exact⟨fun _=>rfl,⟨rfl,rfl⟩,h0.symm⟩
      ·rw[q3];exact⟨fun _=>rfl,trivial,rfl⟩
     obtain⟨q3a,q3b,q3c⟩:=q3s;have hle2:(o.length:Int)<2:=by omega
     simp[evx,q9,q10,q11,ii,ss,hlt,ha',hle,hw6,zMt,zOa,zN9,yV,deI,har,hf,bv,yC,q3a,q3b,q3c,hle2]
    obtain⟨p,y,z,rfl⟩:∃p y z,o=p++[y,z]:=by
     obtain⟨p1,z,rfl⟩:∃p y,o=p++[y]:=⟨o.dropLast,o.getLast (by intro h;subst h;simp at hle1),(List.dropLast_concat_getLast _).symm⟩
     obtain⟨p,y,rfl⟩:∃p y,p1=p++[y]:=⟨p1.dropLast,p1.getLast (by intro h;subst h;simp at hle1),(List.dropLast_concat_getLast _).symm⟩
     exact⟨p,y,z,by simp⟩
    have hln:(p++[y,z]).length=p.length+2:=by simp
    have hwq:IntKind.i64.wrap ((p.length:Int)+2-1)=p.length+1:=by
     have:=hwn (p.length+1) (by omega)
     rw[show ((p.length:Int)+2-1)=((p.length+1:Nat):Int) by omega,this];omega
    have hz1:(2:Int)≤(p.length:Int)+2:=by omega
    have hz2:(p.length:Int)<(p.length:Int)+2:=by omega
    have hz4:(p.length:Int)≤(p.length:Int)+2:=by omega
    have hz3:(0:Int)≤(p.length:Int)+1:=by omega
    have hgt:¬(p.length:Int)+2<2:=by omega
    rcases hown with ⟨h0,hnil,q3⟩|⟨w,u,q3,hk3,hw1,hw2⟩
    ·rw[hln]at h0;omega
    have y1:¬w=n':=by omega
    have y2:¬w=n'+2:=by omega
    have y3:n≤w:=hw1;have f1:n≤n'+2:=by omega
    have hpb:p.length<big:=by omega
    have hb4:p.length≤9223372036854775806:=by omega
    have hb5:(p.length+1)*8≤140737488355328:=by omega
    have hmap:(p++[y,z]).map ii=p.map ii++[ii y,ii z]:=by simp
    have hpl:(p.map ii).length=p.length:=zQ ..;have hoA:opA (p++[y,z]) 2=y:=by simp[opA]
    have hoB:opB (p++[y,z]) 2=z:=by simp[opB]
    rw[hln]at q3;rw[hmap]at hk3;have hcut:cut p.length (p.map ii++[ii y,ii z])=p.map ii:=by rw[zH2,zBw (by omega),yX (by omega)]
    simp only[ii]at hcut;generalize hcp:p.map ii=cp at *;cases hfl:zA3 ⟨op,num,var,attr,xa,xb⟩with
    | false =>
     have hf:=hno (by simp[xS,hfl])
     simp[evx,q3,q9,q10,q11,ii,ss,hlt,ha',hle,hnb,hdn,hw6,zMt,zOa,zN9,yV,deI,har,bv,yC,hfl,hf,hgt]
    | true =>
     by_cases hx1:xa=y
     ·by_cases hx2:xb=z
      ·subst hx1;subst hx2
       have hst:xS (p++[xa,xb]) ⟨op,num,var,attr,xa,xb⟩ j=some (p++[(j:Int)]):=by simp[xS,har,hfl,hoA,hoB];omega
       simp[evx,q3,q9,q10,q11,ii,ss,hlt,ha',hle,hnb,hdn,hw6,zMt,zOa,zN9,yV,deI,har,bv,yC,hfl,hw,hwn _ hpb,hk3,hpl,y1,y2,y3,zD,hag,f0,f1,hb4,hb5,hcut,hwq,hgt,hz2,hz3,hz4];exact⟨⟨j+1,by omega,_,by rw[hsu,hst],by omega,.inr ⟨w,u+1,by simp,by rw[zJ,←hcp];simp[ii],by omega,by omega⟩,by omega⟩,by omega⟩
      ·subst hx1
       have hf:=hno (by simp[xS,har,hoA,hoB,hx2])
       simp[evx,q3,q9,q10,q11,ii,ss,hlt,ha',hle,hnb,hdn,hw6,zMt,zOa,zN9,yV,deI,har,bv,yC,hfl,hf,hx2,hwn _ hpb,hk3,hpl,y1,hwq,hgt,hz2,hz3]
     ·have hf:=hno (by simp[xS,har,hoA,hx1])
      simp[evx,q3,q9,q10,q11,ii,ss,hlt,ha',hle,hnb,hdn,hw6,zMt,zOa,zN9,yV,deI,har,bv,yC,hfl,hf,hx1,hwn _ hpb,hk3,hpl,y1,hwq,hgt,hz2,hz3]
  ·obtain rfl:j=t.length:=by omega
   have hf:zAh t=decide (o.length=1):=by simp only[zAh,ho]
   rcases hown with ⟨h0,hnil,q3⟩|⟨w,u,q3,hk3,hw1,hw2⟩
   ·rw[h0]at hf
    simp[evx,q3,q10,q11,ii,hf,bv]
   ·have hdd:((o.length:Int)==1)=decide (o.length=1):=by rw[Bool.eq_iff_iff];simp;omega
    simp[evx,q3,q10,q11,ii,hf,bv,hdd]
 exact key _ rfl
def zAg (l:List Int) (x:Nd) (i:Nat):Option (List Int) :=
 if zGx x=true then some (l++[(i:Int)])
 else if x.op=12∨x.op=13 then
  if zIx x=false∨i<1∨x.a≠(i:Int)-1∨x.b≠-1 then none else some (l++[l.getD (i-1) 0])
 else if 14≤x.op∧x.op≤26 then
  if zIx x=false∨i<1∨x.b≠(i:Int)-1∨l.getD (i-1) 0<1∨x.a≠l.getD (i-1) 0-1 then none else some (l++[l.getD x.a.toNat 0])
 else none
def zC2 (t:List Nd):Nat→Option (List Int)
 | 0=>some []
 | j+1=>(zC2 t j).bind fun l=>zAg l (t.getD j nd0) j
def zZ8 (t:List Nd):Bool:=match zC2 t t.length with
 | some l=>decide (0<t.length)&&decide (l.getD (t.length-1) 0=0)
 | none=>false
inductive StR (l:List Int):Nat→List Int→Prop
 | nil:StR l 0 []
 | cons {e b:Nat} {o:List Int}:l[e]? = some (b:Int)→b≤e→StR l b o→StR l (e+1) (o++[(e:Int)])
theorem StR.grow {l:List Int} {e:Nat} {o:List Int} (h:StR l e o) (m:List Int):StR (l++m) e o:=by
 induction h with
 | nil=>exact .nil
 | cons h1 h2 _ ih=>exact .cons (by rw[zL (by rw[yB]at h1;exact h1.1)];exact h1) h2 ih
theorem StR.zero {l o:List Int} (h:StR l 0 o):o=[]:=by
 generalize he:0=e at h;cases h with
 | nil=>rfl
 | cons=>omega
theorem StR.succ {l o:List Int} {e:Nat} (h:StR l (e+1) o):∃(b:Nat) (p:List Int),o=p++[(e:Int)]∧l[e]? = some (b:Int)∧b≤e∧StR l b p:=by
 generalize he:e+1=e' at h;cases h with
 | nil=>omega
 | cons h1 h2 h3 =>
  obtain rfl:=Nat.succ.inj he;exact⟨_,_,rfl,h1,h2,h3⟩
theorem zGw (x:Nd):zGx x=(decide (zBg x.op=0)&&zA3 x&&decide (x.a=-1)&&decide (x.b=-1)):=by
 obtain⟨op,n,var,attr,a,b⟩:=x;by_cases h1:op=1
 ·subst h1
  simp[zGx,zA3,zBg,emB];grind
 by_cases h2:op=2
 ·subst h2
  simp[zGx,zA3,zBg,emB,zIx];grind
 by_cases h3:op=3
 ·subst h3
  simp[zGx,zA3,zBg,emB,zIx];grind
 by_cases h5:op=5
 ·subst h5
  simp[zGx,zA3,zBg,emB];grind
 by_cases h4:4≤op∧op≤11
 ·have h6:1≤op∧op≤11:=by omega
  simp[zGx,zA3,zBg,h1,h2,h3,h4,h5,h6];grind
 ·have h6:¬(1≤op∧op≤11):=by omega
  simp only[zGx,zA3,zBg,h1,h2,h3,h4,h5,h6];simp;split<;>(try split)<;>simp
theorem zG7 (x:Nd) (h:12≤x.op):zA3 x=zIx x:=by
 obtain⟨op,n,var,attr,a,b⟩:=x;simp only[]at h;have h1:¬op=1:=by omega
 have h2:¬op≤11:=by omega
 simp[zA3,zIx,h1,h2]
theorem zWq {l o:List Int} {j:Nat} (x:Nd) (hl:l.length=j) (hs:StR l j o):(xS o x j=none∧zAg l x j=none)∨∃o' l',xS o x j=some o'∧zAg l x j=some l'∧l'.length=j+1∧StR l' (j+1) o':=by
 have hlf:=zGw x;have hbf:=zG7 x;have hlast:∀z:Int,(l++[z])[j]? = some z:=fun z=>by rw[yG (by omega),hl,zC7];rfl
 rcases zN2 x.op with har|har|har|har
 ·have h1:¬(x.op=12∨x.op=13):=fun h=>by unfold zBg at har;grind
  have h2:¬(14≤x.op∧x.op≤26):=fun h=>by unfold zBg at har;grind
  refine .inl ⟨by simp[xS,har],?_⟩
  rw[har]at hlf;simp only[zAg,hlf,h1,h2,if_false];simp
 ·have h1:¬(x.op=12∨x.op=13):=fun h=>by unfold zBg at har;grind
  have h2:¬(14≤x.op∧x.op≤26):=fun h=>by unfold zBg at har;grind
  have hA:opA o 0=-1:=by simp[opA]
  have hB:opB o 0=-1:=by simp[opB]
  rw[har]at hlf;simp only[decide_true,zCi]at hlf;by_cases hf:zGx x=true
  ·rw[hf]at hlf
   have hlf':=hlf.symm;simp only[zO,decide_eq_true_eq]at hlf';obtain⟨⟨f1,f2⟩,f3⟩:=hlf';refine .inr ⟨o++[(j:Int)],l++[(j:Int)],?_,by simp only[zAg,hf,if_true],by simp[hl],.cons (hlast _) (zC _) (hs.grow _)⟩
   have h3:¬((0:Int) > o.length):=by omega
   simp[xS,har,f1,f2,f3,hA,hB,h3]
  ·have hf':zGx x=false:=by simpa using hf
   refine .inl ⟨?_,by simp[zAg,hf',h1,h2]⟩
   rw[hf']at hlf;have hlf':=hlf.symm;simp only[Bool.and_eq_false_iff,decide_eq_false_iff_not]at hlf';simp only[xS,har,hA,hB];grind
 ·have h1:x.op=12∨x.op=13:=by unfold zBg at har;grind
  have hnl:zGx x=false:=by rw[hlf,har];simp
  have hb:=hbf (by omega)
  cases j with
  | zero =>
   have:=hs.zero;subst this;exact .inl ⟨by simp[xS,har],by simp[zAg,hnl,h1]⟩
  | succ e =>
   obtain⟨b,p,rfl,hb1,hb2,hb3⟩:=hs.succ;have hA:opA (p++[(e:Int)]) 1=e:=by simp[opA]
   have hB:opB (p++[(e:Int)]) 1=-1:=by simp[opB]
   have hg:l.getD e 0=b:=by rw[zB,hb1];rfl
   have h3:¬((1:Int) > ((p++[(e:Int)]).length:Nat)):=by simp;omega
   have h4:((e+1:Nat):Int)-1=e:=by omega
   have h5:¬e+1<1:=by omega
   by_cases hok:zIx x=true∧x.a=e∧x.b=-1
   ·obtain⟨k1,k2,k3⟩:=hok
    refine .inr ⟨p++[((e+1:Nat):Int)],l++[(b:Int)],?_,?_,by simp[hl],.cons (hlast _) (by omega) (hb3.grow _)⟩
    ·simp[xS,har,hb,k1,k2,k3,hA,hB]
     omega
    ·simp only[zAg,hnl,h1,if_true,k1,k2,k3,h4,h5,zDw,hg]
     simp
   ·refine .inl ⟨?_,?_⟩
    ·simp only[xS,har,hb,hA,hB,h3]
     cases hbb:zIx x<;>grind
    ·simp only[zAg,hnl,h1,if_true,h4,h5]
     cases hbb:zIx x<;>grind
 ·have h1:14≤x.op∧x.op≤26:=by unfold zBg at har;grind
  have h0:¬(x.op=12∨x.op=13):=by omega
  have hnl:zGx x=false:=by rw[hlf,har];simp
  have hb:=hbf (by omega)
  cases j with
  | zero =>
   have:=hs.zero;subst this;exact .inl ⟨by simp[xS,har],by simp[zAg,hnl,h0,h1]⟩
  | succ e =>
   obtain⟨b,p,rfl,hb1,hb2,hb3⟩:=hs.succ;have hg:l.getD e 0=b:=by rw[zB,hb1];rfl
   have h4:((e+1:Nat):Int)-1=e:=by omega
   have h5:¬e+1<1:=by omega
   cases b with
   | zero =>
    have:=hb3.zero;subst this;exact .inl ⟨by simp[xS,har],by simp only[zAg,hnl,h0,h1,zDw,hg];simp⟩
   | succ c =>
    obtain⟨d,q,rfl,hd1,hd2,hd3⟩:=hb3.succ;have hA:opA (q++[(c:Int)]++[(e:Int)]) 2=c:=by simp[opA]
    have hB:opB (q++[(c:Int)]++[(e:Int)]) 2=e:=by simp[opB]
    have hgd:l.getD c 0=d:=by rw[zB,hd1];rfl
    have h3:¬((2:Int) > ((q++[(c:Int)]++[(e:Int)]).length:Nat)):=by simp;omega
    have h6:((c+1:Nat):Int)-1=c:=by omega
    have h7:¬((c+1:Nat):Int)<1:=by omega
    by_cases hok:zIx x=true∧x.a=c∧x.b=e
    ·obtain⟨k1,k2,k3⟩:=hok
     refine .inr ⟨q++[((e+1:Nat):Int)],l++[(d:Int)],?_,?_,by simp[hl],.cons (hlast _) (by omega) (hd3.grow _)⟩
     ·have hA':opA (q++[(c:Int),(e:Int)]) 2=c:=by simp[opA]
      have hB':opB (q++[(c:Int),(e:Int)]) 2=e:=by simp[opB]
      simp[xS,har,hb,k1,k2,k3,hA',hB'];omega
     ·simp only[zAg,hnl,h0,h1,k1,k2,k3,h4,h5,h6,h7,zDw,hg,yF,hgd]
      simp
    ·refine .inl ⟨?_,?_⟩
     ·simp only[xS,har,hb,hA,hB,h3]
      cases hbb:zIx x<;>grind
     ·simp only[zAg,hnl,h0,h1,h4,h5,zDw,hg,h6,h7]
      cases hbb:zIx x<;>grind
theorem zWl (t:List Nd):∀j,(zBy t j=none∧zC2 t j=none)∨∃o l,zBy t j=some o∧zC2 t j=some l∧l.length=j∧StR l j o
 | 0=>.inr ⟨[],[],rfl,rfl,rfl,.nil⟩
 | j+1=>by
  rcases zWl t j with ⟨h1,h2⟩|⟨o,l,h1,h2,h3,h4⟩
  ·exact .inl ⟨by simp only[zBy,h1,Option.bind_none],by simp only[zC2,h2,Option.bind_none]⟩
  ·rcases zWq (t.getD j nd0) h3 h4 with ⟨k1,k2⟩|⟨o',l',k1,k2,k3,k4⟩
   ·exact .inl ⟨by simp only[zBy,h1,zT,k1],by simp only[zC2,h2,zT,k2]⟩
   ·exact .inr ⟨o',l',by simp only[zBy,h1,zT,k1],by simp only[zC2,h2,zT,k2],k3,k4⟩
theorem zOi (t:List Nd):zZ8 t=zAh t:=by
 unfold zAh zZ8;rcases zWl t t.length with ⟨h1,h2⟩|⟨o,l,h1,h2,h3,h4⟩
 ·rw[h1,h2]
 ·rw[h1,h2]
  simp only[];generalize t.length=e at *;cases e with
  | zero=>rw[h4.zero];simp
  | succ e =>
   obtain⟨b,p,rfl,hb1,hb2,hb3⟩:=h4.succ;have hg:l.getD e 0=b:=by rw[zB,hb1];rfl
   rw[zDw,hg];cases b with
   | zero=>rw[hb3.zero];simp
   | succ c =>
    obtain⟨d,q,rfl,hd1,hd2,hd3⟩:=hb3.succ;simp;omega
structure KidOk (x:Nd) (i:Nat):Prop where
 ar:0≤zBg x.op
 fl:zA3 x=true
 a1:1≤zBg x.op→0≤x.a∧x.a<i
 b2:zBg x.op=2→0≤x.b∧x.b<i
 b1:zBg x.op≤1→x.b=-1
 a0:zBg x.op=0→x.a=-1
theorem yBv {o:List Int} {x:Nd} {i:Nat} {o':List Int} (ho:∀y∈o,0≤y∧y<(i:Int)) (h:xS o x i=some o'):KidOk x i∧∀y∈o',0≤y∧y<((i+1:Nat):Int):=by
 have hm:∀k,k<o.length→0≤o.getD k 0∧o.getD k 0<(i:Int):=fun k hk=>by
  rw[zB,zA hk];exact ho _ (zH hk)
 unfold xS at h;split at h
 ·cases h
 rename_i h1;split at h
 ·cases h
 rename_i h2;cases h;simp only[not_or,Decidable.not_not]at h1 h2;obtain⟨h1a,h1b,h1c⟩:=h1;obtain⟨h2a,h2b⟩:=h2;refine⟨⟨by omega,by simpa using h1c,fun h => ?_,fun h => ?_,fun h => ?_,fun h => ?_⟩,fun y hy => ?_⟩
 ·rcases zN2 x.op with har|har|har|har
  ·omega
  ·omega
  ·rw[h2a,har]
   simp only[opA,if_true];exact hm _ (by omega)
  ·rw[h2a,har]
   simp only[opA];exact hm _ (by omega)
 ·rw[h2b,h]
  simp only[opB,if_true];exact hm _ (by omega)
 ·rw[h2b,opB,if_neg (by omega)]
 ·rw[h2a,opA,if_neg (by omega),if_neg (by omega)]
 ·rw[wB]at hy
  rcases hy with hy|hy
  ·have:=ho y (List.mem_of_mem_take hy);omega
  ·simp at hy;omega
theorem zYc {t:List Nd}:∀{j:Nat} {o:List Int},j≤t.length→zBy t j=some o→(∀y∈o,0≤y∧y<(j:Int))∧∀i (hi:i<t.length),i<j→KidOk t[i] i
 | 0,o,_,h=>by simp[zBy]at h;subst h;exact⟨by simp,fun i _ hi=>by omega⟩
 | j+1,o,hj,h=>by
  simp only[zBy,xE]at h;obtain⟨p,h1,h2⟩:=h;obtain⟨i1,i2⟩:=zYc (by omega) h1
  obtain⟨k1,k2⟩:=yBv i1 h2;refine⟨k2,fun i hi hij => ?_⟩
  by_cases e:i=j
  ·subst e
   rw[zB,zA hi]at k1;exact k1
  ·exact i2 i hi (by omega)
theorem zOj {t:List Nd} (h:zAh t=true) (i:Nat) (hi:i<t.length):KidOk t[i] i:=by
 unfold zAh at h;split at h
 ·rename_i o ho
  exact (zYc (zC _) ho).2 i hi hi
 ·cases h
section
def zEc (sc:List Ty) (name:ByteArray):List Int:=(List.range sc.length).map fun (i:Nat)=>zCn sc (i:Int) name
theorem zH4 (sc:List Ty) (name:ByteArray):(zEc sc name).length=sc.length:=by simp[zEc]
def zK6 (o:Int):Int:=if o=5 then 4 else if o=11 then 3 else if o=4 then 2 else o-1
def zJb (sc:List Ty) (it:Int) (en:En) (x:Nd) (va vb:V):V :=
 if x.op=1 then xX x.n else if x.op=2 then xX 1 else if x.op=3 then xX 0
 else if x.op≤11 then wG ⟨zK6 x.op,it,0,0,0⟩ (zEc sc x.attr) en
 else if x.op=12 then zXw va else if x.op=13 then yBh va else zCd x.op va vb
def yB5 (l:List V) (i:Int):V:=l.getD i.toNat unk
def zB9 (sc:List Ty) (its:List Int) (en:En) (t:List Nd):Nat→List V
 | 0=>[]
 | j+1=>zB9 sc its en t j++[zJb sc (its.getD j 0) en (t.getD j nd0) (yB5 (zB9 sc its en t j) (t.getD j nd0).a) (yB5 (zB9 sc its en t j) (t.getD j nd0).b)]
section
variable {sc:List Ty} {its:List Int} {en:En} {t:List Nd}
theorem zMs:∀j,(zB9 sc its en t j).length=j
 | 0=>rfl
 | j+1=>by simp only[zB9,zM,zMs j,List.length_cons,zAc]
theorem zRy {i:Nat}:∀{j:Nat},i<j→(zB9 sc its en t j).getD i unk=(zB9 sc its en t (i+1)).getD i unk
 | 0,h=>by omega
 | j+1,h=>by
  by_cases e:i=j
  ·subst e;rfl
  ·have hl:i<(zB9 sc its en t j).length:=by rw[zMs];omega
   rw[←zRy (j:=j) (by omega)]
   simp only[zB9,zB,zL hl]
end
def zCp (sc:List Ty) (its:List Int) (en:En) (t:List Nd) (i:Nat):V:=(zB9 sc its en t (i+1)).getD i unk
theorem zRz {sc:List Ty} {its:List Int} {en:En} {t:List Nd} {i:Nat} (hi:i<t.length):zCp sc its en t i=zJb sc (its.getD i 0) en t[i] (yB5 (zB9 sc its en t i) t[i].a) (yB5 (zB9 sc its en t i) t[i].b):=by
 have hg:t.getD i nd0=t[i]:=by rw[zB,zA hi];rfl
 unfold zCp;simp only[zB9,hg];have hl:=zMs (sc:=sc) (its:=its) (en:=en) (t:=t) i;generalize zB9 sc its en t i=l at *;rw[zB,yG (by omega),hl,zC7]
 rfl
theorem zQ7 {sc:List Ty} {its:List Int} {en:En} {t:List Nd} {i:Nat} {a:Int} (h0:0≤a) (h1:a<i):yB5 (zB9 sc its en t i) a=zCp sc its en t a.toNat:=by
 unfold yB5 zCp;exact zRy (by omega)
def zBh (o:Int):Bool:=decide (o=13∨o=25∨o=26)
def zCu (vs:List ByteArray) (t:List Nd) (x:Nd):Bool :=
 if x.op<4 then true
 else if x.op≤11 then decide (0≤wY vs x.var)
 else (wX (t.getD x.a.toNat nd0).op==zBh x.op)&&(decide (x.b<0)||(wX (t.getD x.b.toNat nd0).op==zBh x.op))
def zM6 (vs:List ByteArray) (t:List Nd) (j:Nat):Bool:=(t.take j).all (zCu vs t)
def zI9 (vs:List ByteArray) (t:List Nd):Bool:=zAh t&&zM6 vs t t.length
theorem zXp {vs:List ByteArray} {t:List Nd} {j:Nat} (hj:j<t.length):zM6 vs t (j+1)=(zM6 vs t j&&zCu vs t t[j]):=by
 unfold zM6;rw[zEo,zA hj,List.all_append,Option.toList_some];simp
theorem yFz {vs:List ByteArray} {t:List Nd} {j:Nat} (hj:j<t.length) (h:zCu vs t t[j]=false):zM6 vs t t.length=false:=by
 unfold zM6;rw[wW,List.all_eq_false];exact⟨t[j],zH hj,by rw[h];simp⟩
def wA (vs:List ByteArray) (x:Nd):Int:=if 4≤x.op∧x.op≤11 then wY vs x.var else 0
def zNi (sc:List Ty) (vs:List ByteArray) (en:En) (t:List Nd):V:=if zI9 vs t=true then zCp sc (t.map (wA vs)) en t (t.length-1)else unk
end
end Go.Proofs.YtbffkkeieihpdaaGreatDoor
