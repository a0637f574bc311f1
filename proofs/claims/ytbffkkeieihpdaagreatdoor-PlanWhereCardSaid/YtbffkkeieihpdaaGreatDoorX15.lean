import Derived.Test.YtbffkkeieihpdaaGreatDoorX14
import Derived.Test.YtbffkkeieihpdaaGreatDoorX10
set_option linter.unusedSimpArgs false
set_option linter.unusedVariables false
set_option linter.constructorNameAsVariable false
set_option maxRecDepth 100000
set_option maxHeartbeats 4000000
namespace Go.Proofs.YtbffkkeieihpdaaGreatDoor
open Go Go.Eng
section
noncomputable def cz (S:List Nat) (pf:FuncId→Option (List AV→Heap→PRes)):Ctx:=⟨Tryz.prog,ti,globS S,pf,true⟩
section
variable (S:List Nat) (pf:FuncId→Option (List AV→Heap→PRes))
theorem yMc:(cz S pf).ti=ti:=rfl
theorem yPw:(cz S pf).G=globS S:=rfl
theorem yMd:(cz S pf).pf=pf:=rfl
theorem yMb:(cz S pf).two=true:=rfl
theorem yGl (ops:Array Oper) (o:Oper) (e:Nat→AV) (h:Heap) (i:Nat):zRw (cz S pf) ops o e h i=match o.guard with
  | none=>two (cz S pf) o.op (ev e) h i
  | some _=>none:=yG0 rfl ops o e h i
theorem zOf:(cz S pf).P.follows .mixedOrders=true:=zCm S pf
theorem yQb (t:TypeId) (h:((cz S pf).ti t).d≠.other):TyOk (cz S pf) t :=
 let k:=yPo S pf t h
 ⟨k.info,k.zlen,k.zone,k.desc⟩
end
theorem evz:type_of% (And.intro @ev0 (And.intro (And.intro (And.intro @yMc (And.intro @yPw @yMd)) (And.intro (And.intro @yMb @yGl) (And.intro @two.eq_1 @two.eq_2))) (And.intro (And.intro (And.intro @zNf @zNe) (And.intro @zNd @zJ1)) (And.intro (And.intro @zNc @zNb) (And.intro @sls.eq_1 @slc.eq_1))))):=And.intro @ev0 (And.intro (And.intro (And.intro @yMc (And.intro @yPw @yMd)) (And.intro (And.intro @yMb @yGl) (And.intro @two.eq_1 @two.eq_2))) (And.intro (And.intro (And.intro @zNf @zNe) (And.intro @zNd @zJ1)) (And.intro (And.intro @zNc @zNb) (And.intro @sls.eq_1 @slc.eq_1))))
theorem zOn {S S':List Nat} (hs:∀x∈S,x∈S'):∀g cs,globS S g=some cs→globS S' g=some cs:=fun g cs hg=>by
 simp only[globS]at hg ⊢;by_cases hm:g∈S
 ·rw[if_pos hm]at hg;rw[if_pos (hs g hm)];exact hg
 ·rw[if_neg hm]at hg;cases hg
theorem yK7 {S S':List Nat} {pf pf':FuncId→Option (List AV→Heap→PRes)} (hs:∀x∈S,x∈S') {f:FuncId} {g:List AV→Heap→PRes} (h:zHp (cx S pf) f g):zHp (cz S' pf') f g :=
 ⟨h.1,h.2.imp (fun h=>⟨h.1,fun ρ hh w args vs r=>h.2 ρ hh w args vs ⟨fun g cs hg=>r.glob g cs (zOn hs g cs hg),r.blk⟩⟩) fun h=>h⟩
theorem zT1 {S:List Nat} {l:List (FuncId×(List AV→Heap→PRes))} (h:zRv S l):Ok (cz S (pfL l)) :=
 ⟨yQb S _,fun f g hf=>yK7 (fun _ hx=>hx) ((zA1 h).pf f g hf)⟩
theorem zD7 {S S':List Nat} {pf pf':FuncId→Option (List AV→Heap→PRes)} (hs:∀x∈S,x∈S') {f:FuncId} {args:List AV} {h:Heap} {n:Nat} {Q:AV→Heap→Nat→Prop} (k:ACall (cx S pf) f args h n Q):ACall (cz S' pf') f args h n Q:=by
 refine⟨k.1,fun K w0 ρ w vs r hv => ?_⟩
 have r0:Rel (cx S pf) K w0 ρ (n≤·) h w:=⟨r.os,r.tape,r.output,r.size,r.keep,r.kold,fun g cs hg=>r.glob g cs (zOn hs g cs hg),r.blk,r.apart,r.mine,r.free,r.vers⟩
 refine (k.2 K w0 ρ w vs r0 hv).mono fun e w' ⟨y,h1,ρ2,z,h',n',h2,h3,r2,h5⟩=>⟨y,h1,ρ2,z,h',n',h2,h3,⟨r2.os,r2.tape,r2.output,r2.size,r2.keep,r2.kold,fun g cs hg => ?_,r2.blk,r2.apart,r2.mine,r2.free,r2.vers⟩,h5⟩
 obtain⟨g1,arr,el,fr,g2,g3⟩:=r.glob g cs hg;exact⟨g1,arr,el,fr,by rw[r2.keep g g1,←r.keep g g1];exact g2,g3⟩
theorem zK9 {S S':List Nat} {pf pf':FuncId→Option (List AV→Heap→PRes)} (hs:∀x∈S,x∈S') {f:FuncId} {args:List AV} {h:Heap} {n:Nat} {Q:AV→Heap→Nat→Prop} (k:ACall (cz S pf) f args h n Q):ACall (cz S' pf') f args h n Q:=by
 refine⟨k.1,fun K w0 ρ w vs r hv => ?_⟩
 have r0:Rel (cz S pf) K w0 ρ (n≤·) h w:=⟨r.os,r.tape,r.output,r.size,r.keep,r.kold,fun g cs hg=>r.glob g cs (zOn hs g cs hg),r.blk,r.apart,r.mine,r.free,r.vers⟩
 refine (k.2 K w0 ρ w vs r0 hv).mono fun e w' ⟨y,h1,ρ2,z,h',n',h2,h3,r2,h5⟩=>⟨y,h1,ρ2,z,h',n',h2,h3,⟨r2.os,r2.tape,r2.output,r2.size,r2.keep,r2.kold,fun g cs hg => ?_,r2.blk,r2.apart,r2.mine,r2.free,r2.vers⟩,h5⟩
 obtain⟨g1,arr,el,fr,g2,g3⟩:=r.glob g cs hg;exact⟨g1,arr,el,fr,by rw[r2.keep g g1,←r.keep g g1];exact g2,g3⟩
end
end Go.Proofs.YtbffkkeieihpdaaGreatDoor
namespace Go.Proofs.YtbffkkeieihpdaaGreatDoor
open Go Go.Eng Go.RowKit Go.ChangeShapes Go.Joins
theorem zWi {S:List Nat} {tb:List (FuncId×(List AV→Heap→PRes))} (ok:zRv S tb) {f:FuncId} {fn:Func} {c:Code} (hf:Tryz.prog.funcs[f]? = some fn) (hb:fn.body=some c) {k:Nat} (hok:(zWo (cz S (pfL tb)) fn c&&decide (k≤fn.ntmps))=true)
  {args:List AV} {vs:List Value} (hk:args.length=k) {ρ:Ren} {h:Heap} {m:Nat} {W:World} (h1:awp (cz S (pfL tb)) (fn.body.getD .skip) (zA8 (cz S (pfL tb)) fn fun z _ _=>z=bv true) ⟨env0 args,roH h,m⟩)
  (r0:RoRel (cx S (pfL tb)) ρ h W) (hm:∀j,m≤j→(∀ver,ρ j ver=none)∧h j=none) (ha:VRs ρ args vs):Calls Tryz.prog f vs.toArray W fun e W'=>e=.returned (.bool true)∧Below W.heap.size W W':=by
 have r:RoRel (cz S (pfL tb)) ρ h W:=⟨r0.glob,r0.blk⟩;simp only[zH,decide_eq_true_eq]at hok;rw[hb]at h1;refine (zE5 (zT1 ok) (zOf _ _) hf hb hok.1 (by omega) h1 (r.rel hm) ha).mono fun e w' ⟨y,e1,ρ',z,h',n',q1,q2,q3,q4⟩ => ?_
 subst q4;simp only[bv,VR]at q2;subst q2;exact⟨e1,q3.gone⟩
end Go.Proofs.YtbffkkeieihpdaaGreatDoor
namespace Go.Proofs.YtbffkkeieihpdaaGreatDoor
open Go Go.Eng
def OwnR (sz:Nat) (a:AV) (len:Nat) (h:Heap) (n:Nat) (z:AV) (h':Heap) (n':Nat):Prop :=
 (len=0∧z=.v (.slice none 0 0)∧h'=h∧n'=n)∨
 (0<len∧z=.s n 0 0 len∧n'=n+2∧h'=up h n (some ⟨slc h a 0 (len*sz),0,true,sz⟩))
theorem yFf {h:Heap} {n:Nat} {a b:Option Blk}:up (up h n a) n b=up h n b:=by
 funext i;by_cases e:i=n
 ·subst e;rw[zN,zN]
 ·rw[zP _ _ e,zP _ _ e,zP _ _ e]
theorem zXv {α:Type}:∀(cs:List α) (a b c:List α),b.length=cs.length→wr (a++b++c) a.length cs=a++cs++c
 | [],a,b,c,h=>by
  have:b=[]:=zU h;subst this;rfl
 | x::r,a,[],c,h=>by simp at h
 | x::r,a,y::b,c,h=>by
  have e:((a++(y::b)++c).set a.length x)=(a++[x])++b++c:=by
   rw[wI,zC1 _ _ (zD _),zDr];simp
  have:=zXv r (a++[x]) b c (by simpa using h)
  rw[zR]at this
  simp only[wr,e];simpa using this
theorem yGs {l cs:List AV} (h:l.length=cs.length):wr l 0 cs=cs:=by
 have:=zXv cs [] l [] (by simpa using h)
 simpa using this
theorem zJm {α:Type} {sz:Nat} {d:De α} {h:Heap} {n:Nat} {a:AV} {l:List α} (e1:rd (De.sl sz d) h a=some l) (hn:Fresh n h) (z:List Value) (hz:z.length=sz) (b:Option Blk) :
  (sls (up h n b) a 0 (l.length*sz)∧l.length*sz≤(repZ z l.length).length)∧wr (repZ z l.length) 0 (List.take (l.length*sz) (slc (up h n b) a 0 (l.length*sz)))=slc h a 0 (l.length*sz):=by
 obtain⟨cs,c1,c2,c3⟩:=zN6 hn e1;have h1:=c1 (up h n b) ((zC (zD _) _).2 (zE _ _));have h2:=(c1 h (zE _ _)).2;have h3:(repZ z l.length).length=l.length*sz:=by rw[zDi,hz]
 refine⟨⟨h1.1,by omega⟩,?_⟩
 rw[h1.2,h2,yY (by omega),yGs (by omega)]
theorem c75 {α:Type} {d:De α} {h:Heap} {n:Nat} {a:AV} {l:List α} (e1:rd (De.sl 11 d) h a=some l) (hl:l.length≤2199023255552) (hn:Fresh n h) :
  ACall (cx [] (pfL [])) 75 [a] h n fun z h' n'=>OwnR 11 a l.length h n z h' n':=by
 refine yV (args:=[a]) (zA1 yH) (zCm _ _) Tryz.func75 (c:=Tryz.f75.body.getD .skip) rfl (by kernel_rfl) (xM Tryz.func75 rfl rfl _ _) (show 1≤Tryz.f75.ntmps by decide +kernel) ?_
 obtain⟨s1,s2,s3,s4,s5⟩:=zK e1;have key:∀e:Nat→AV,e 0=a→awp (cx [] (pfL [])) (Tryz.f75.body.getD .skip) (zA8 (cx [] (pfL [])) Tryz.f75 fun z h' n'=>OwnR 11 a l.length h n z h' n') ⟨e,h,n⟩:=by
  intro e q0;by_cases h0:l.length=0
  ·simp[evx,Tryz.f75,q0,s1,s2,h0,OwnR]
  ·have z3:0<l.length:=by omega
   simp[evx,Tryz.f75,q0,s1,s2,h0,OwnR,yFf];have k:=fun z hz b=>zJm e1 hn z hz b
   try simp only[wA]at k
   refine⟨by omega,(k _ rfl _).1,z3,?_⟩
   rw[(k _ rfl _).2]
 exact key _ rfl
theorem yR3 {α:Type} {d:De α} {h:Heap} {n:Nat} {a:AV} {l:List α} (e1:rd (De.sl 2 d) h a=some l) (hl:l.length≤2199023255552) (hn:Fresh n h) :
  ACall (cx [] (pfL [])) 107 [a] h n fun z h' n'=>OwnR 2 a l.length h n z h' n':=by
 refine yV (args:=[a]) (zA1 yH) (zCm _ _) Tryz.func107 (c:=Tryz.f107.body.getD .skip) rfl (by kernel_rfl) (xM Tryz.func107 rfl rfl _ _) (show 1≤Tryz.f107.ntmps by decide +kernel) ?_
 obtain⟨s1,s2,s3,s4,s5⟩:=zK e1;have key:∀e:Nat→AV,e 0=a→awp (cx [] (pfL [])) (Tryz.f107.body.getD .skip) (zA8 (cx [] (pfL [])) Tryz.f107 fun z h' n'=>OwnR 2 a l.length h n z h' n') ⟨e,h,n⟩:=by
  intro e q0;by_cases h0:l.length=0
  ·simp[evx,Tryz.f107,q0,s1,s2,h0,OwnR]
  ·have z3:0<l.length:=by omega
   simp[evx,Tryz.f107,q0,s1,s2,h0,OwnR,yFf];have k:=fun z hz b=>zJm e1 hn z hz b
   try simp only[wA]at k
   refine⟨by omega,(k _ rfl _).1,z3,?_⟩
   rw[(k _ rfl _).2]
 exact key _ rfl
theorem yP1 {α:Type} {d:De α} {h:Heap} {n:Nat} {a:AV} {l:List α} (e1:rd (De.sl 1 d) h a=some l) (hl:l.length≤2199023255552) (hn:Fresh n h) :
  ACall (cx [] (pfL [])) 108 [a] h n fun z h' n'=>OwnR 1 a l.length h n z h' n':=by
 refine yV (args:=[a]) (zA1 yH) (zCm _ _) Tryz.func108 (c:=Tryz.f108.body.getD .skip) rfl (by kernel_rfl) (xM Tryz.func108 rfl rfl _ _) (show 1≤Tryz.f108.ntmps by decide +kernel) ?_
 obtain⟨s1,s2,s3,s4,s5⟩:=zK e1;have key:∀e:Nat→AV,e 0=a→awp (cx [] (pfL [])) (Tryz.f108.body.getD .skip) (zA8 (cx [] (pfL [])) Tryz.f108 fun z h' n'=>OwnR 1 a l.length h n z h' n') ⟨e,h,n⟩:=by
  intro e q0;by_cases h0:l.length=0
  ·simp[evx,Tryz.f108,q0,s1,s2,h0,OwnR]
  ·have z3:0<l.length:=by omega
   simp[evx,Tryz.f108,q0,s1,s2,h0,OwnR,yFf];have k:=fun z hz b=>zJm e1 hn z hz b
   try simp only[wA]at k
   refine⟨by omega,(k _ rfl _).1,z3,?_⟩
   rw[(k _ rfl _).2]
 exact key _ rfl
theorem yR2 {α:Type} {d:De α} {h:Heap} {n:Nat} {a:AV} {l:List α} (e1:rd (De.sl 5 d) h a=some l) (hl:l.length≤2199023255552) (hn:Fresh n h) :
  ACall (cx [] (pfL [])) 109 [a] h n fun z h' n'=>OwnR 5 a l.length h n z h' n':=by
 refine yV (args:=[a]) (zA1 yH) (zCm _ _) Tryz.func109 (c:=Tryz.f109.body.getD .skip) rfl (by kernel_rfl) (xM Tryz.func109 rfl rfl _ _) (show 1≤Tryz.f109.ntmps by decide +kernel) ?_
 obtain⟨s1,s2,s3,s4,s5⟩:=zK e1;have key:∀e:Nat→AV,e 0=a→awp (cx [] (pfL [])) (Tryz.f109.body.getD .skip) (zA8 (cx [] (pfL [])) Tryz.f109 fun z h' n'=>OwnR 5 a l.length h n z h' n') ⟨e,h,n⟩:=by
  intro e q0;by_cases h0:l.length=0
  ·simp[evx,Tryz.f109,q0,s1,s2,h0,OwnR]
  ·have z3:0<l.length:=by omega
   simp[evx,Tryz.f109,q0,s1,s2,h0,OwnR,yFf];have k:=fun z hz b=>zJm e1 hn z hz b
   try simp only[wA]at k
   refine⟨by omega,(k _ rfl _).1,z3,?_⟩
   rw[(k _ rfl _).2]
 exact key _ rfl
theorem yP0 {α:Type} {d:De α} {h:Heap} {n:Nat} {a:AV} {l:List α} (e1:rd (De.sl 6 d) h a=some l) (hl:l.length≤2199023255552) (hn:Fresh n h) :
  ACall (cx [] (pfL [])) 110 [a] h n fun z h' n'=>OwnR 6 a l.length h n z h' n':=by
 refine yV (args:=[a]) (zA1 yH) (zCm _ _) Tryz.func110 (c:=Tryz.f110.body.getD .skip) rfl (by kernel_rfl) (xM Tryz.func110 rfl rfl _ _) (show 1≤Tryz.f110.ntmps by decide +kernel) ?_
 obtain⟨s1,s2,s3,s4,s5⟩:=zK e1;have key:∀e:Nat→AV,e 0=a→awp (cx [] (pfL [])) (Tryz.f110.body.getD .skip) (zA8 (cx [] (pfL [])) Tryz.f110 fun z h' n'=>OwnR 6 a l.length h n z h' n') ⟨e,h,n⟩:=by
  intro e q0;by_cases h0:l.length=0
  ·simp[evx,Tryz.f110,q0,s1,s2,h0,OwnR]
  ·have z3:0<l.length:=by omega
   simp[evx,Tryz.f110,q0,s1,s2,h0,OwnR,yFf];have k:=fun z hz b=>zJm e1 hn z hz b
   try simp only[wA]at k
   refine⟨by omega,(k _ rfl _).1,z3,?_⟩
   rw[(k _ rfl _).2]
 exact key _ rfl
theorem yR1 {α:Type} {d:De α} {h:Heap} {n:Nat} {a:AV} {l:List α} (e1:rd (De.sl 1 d) h a=some l) (hl:l.length≤2199023255552) (hn:Fresh n h) :
  ACall (cx [] (pfL [])) 111 [a] h n fun z h' n'=>OwnR 1 a l.length h n z h' n':=by
 refine yV (args:=[a]) (zA1 yH) (zCm _ _) Tryz.func111 (c:=Tryz.f111.body.getD .skip) rfl (by kernel_rfl) (xM Tryz.func111 rfl rfl _ _) (show 1≤Tryz.f111.ntmps by decide +kernel) ?_
 obtain⟨s1,s2,s3,s4,s5⟩:=zK e1;have key:∀e:Nat→AV,e 0=a→awp (cx [] (pfL [])) (Tryz.f111.body.getD .skip) (zA8 (cx [] (pfL [])) Tryz.f111 fun z h' n'=>OwnR 1 a l.length h n z h' n') ⟨e,h,n⟩:=by
  intro e q0;by_cases h0:l.length=0
  ·simp[evx,Tryz.f111,q0,s1,s2,h0,OwnR]
  ·have z3:0<l.length:=by omega
   simp[evx,Tryz.f111,q0,s1,s2,h0,OwnR,yFf];have k:=fun z hz b=>zJm e1 hn z hz b
   try simp only[wA]at k
   refine⟨by omega,(k _ rfl _).1,z3,?_⟩
   rw[(k _ rfl _).2]
 exact key _ rfl
def wtn (lo hi:Nat) (h:Heap):Heap:=fun i=>if lo≤i∧i<hi then h i else none
theorem zLa {lo hi:Nat} {h:Heap} {i:Nat} (h1:lo≤i) (h2:i<hi):wtn lo hi h i=h i:=if_pos ⟨h1,h2⟩
theorem yFe (lo hi:Nat) (h:Heap):(wtn lo hi h).le h:=fun i k e=>by
 unfold wtn at e;split at e
 ·exact e
 ·cases e
theorem yB3 {lo hi lo' hi':Nat} {h h':Heap} (h1:lo'≤lo) (h2:hi≤hi') (h3:∀i,lo≤i→i<hi→h' i=h i):(wtn lo hi h).le (wtn lo' hi' h'):=fun i k e=>by
 unfold wtn at e ⊢;split at e
 ·rename_i h4
  rw[if_pos ⟨by omega,by omega⟩,h3 i h4.1 h4.2];exact e
 ·cases e
theorem yFd {lo hi:Nat} {h:Heap} {i:Nat} (b:Option Blk) (hi':i<lo∨hi≤i):wtn lo hi (up h i b)=wtn lo hi h:=by
 funext j;unfold wtn;split
 ·rw[zP _ _ (by omega)]
 ·rfl
theorem zDs {α:Type} {d:De α} {lo hi lo' hi':Nat} {h h':Heap} {a:AV} {x:α} (e:rd d (wtn lo hi h) a=some x) (h1:lo'≤lo) (h2:hi≤hi') (h3:∀i,lo≤i→i<hi→h' i=h i):rd d (wtn lo' hi' h') a=some x:=yU (yB3 h1 h2 h3) e
def still (T:Nat→Nat) (h:Heap):Heap:=fun i=>if T i=0 then h i else none
theorem zBm (T:Nat→Nat) (h:Heap):(still T h).le h:=fun i k e=>by
 unfold still at e;split at e
 ·exact e
 ·cases e
theorem zKl {T:Nat→Nat} {h:Heap} {i:Nat} (h1:T i=0):still T h i=h i:=if_pos h1
theorem zLj {T:Nat→Nat} {lo hi:Nat} {h:Heap} (h1:∀i,lo≤i→i<hi→T i=0):(wtn lo hi h).le (still T h):=fun i k e=>by
 unfold wtn at e;split at e
 ·rename_i h2
  rw[zKl (h1 i h2.1 h2.2)];exact e
 ·cases e
structure Mv (K:Nat→Prop) (T:Nat→Nat) (h:Heap) (n:Nat) (T':Nat→Nat) (h':Heap) (n':Nat):Prop where
 nn:n≤n'
 old:∀i,i<n→T' i=T i
 keep:∀i,i<n→¬(T i≠0∧K (T i))→h' i=h i
 new:∀i,n'≤i→T' i=0
 fr:Fresh n' h'
theorem Mv.still {K:Nat→Prop} {T T':Nat→Nat} {h h':Heap} {n n':Nat} (m:Mv K T h n T' h' n') (hn:Fresh n h):(still T h).le (still T' h'):=fun i k e=>by
 unfold Go.Proofs.YtbffkkeieihpdaaGreatDoor.still at e ⊢;split at e
 ·rename_i h0
  have hi:i<n:=xI e hn;rw[if_pos (by rw[m.old i hi];exact h0),m.keep i hi (fun h=>h.1 h0)];exact e
 ·cases e
theorem Mv.trans {K K1 K2:Nat→Prop} {T T1 T2:Nat→Nat} {h h1 h2:Heap} {n n1 n2:Nat} (a:Mv K1 T h n T1 h1 n1) (b:Mv K2 T1 h1 n1 T2 h2 n2) (k1:∀x,K1 x→K x) (k2:∀x,K2 x→K x):Mv K T h n T2 h2 n2 where
 nn:=xE a.nn b.nn
 old i hi:=by rw[b.old i (Nat.lt_of_lt_of_le hi a.nn),a.old i hi]
 keep i hi hk:=by
  rw[b.keep i (Nat.lt_of_lt_of_le hi a.nn) (by rw[a.old i hi];exact fun h=>hk ⟨h.1,k2 _ h.2⟩),a.keep i hi fun h=>hk ⟨h.1,k1 _ h.2⟩]
 new:=b.new
 fr:=b.fr
theorem Mv.of_agree {K:Nat→Prop} {T:Nat→Nat} {h h':Heap} {n n':Nat} (ht:∀i,n≤i→T i=0) (hnn:n≤n') (ha:agree n h h') (hf:Fresh n' h'):Mv K T h n T h' n' :=
 ⟨hnn,fun _ _=>rfl,fun i hi _=>ha i hi,fun i hi=>ht i (by omega),hf⟩
def GL (T:Nat→Nat) (k sz:Nat) (h:Heap) (a:AV) (m:Nat) (cs:List AV):Prop :=
 cs.length=m*sz∧((a=.v (.slice none 0 0)∧m=0)∨∃id ver,a=.s id ver 0 m∧T id=k∧h id=some ⟨cs,ver,true,sz⟩)
theorem GL.mv {K:Nat→Prop} {T T':Nat→Nat} {h h':Heap} {n n' k sz m:Nat} {a:AV} {cs:List AV} (g:GL T k sz h a m cs) (v:Mv K T h n T' h' n') (hn:Fresh n h) (hk:¬(k≠0∧K k)):GL T' k sz h' a m cs:=by
 refine⟨g.1,g.2.imp id fun⟨id,ver,e1,e2,e3⟩ => ?_⟩
 have hi:id<n:=xI e3 hn;exact⟨id,ver,e1,by rw[v.old id hi];exact e2,by rw[v.keep id hi (by rw[e2];exact hk)];exact e3⟩
theorem GL.nil (T:Nat→Nat) (k sz:Nat) (h:Heap):GL T k sz h (.v (.slice none 0 0)) 0 []:=⟨by simp,.inl ⟨rfl,rfl⟩⟩
theorem GL.rd {α:Type} {d:De α} {T:Nat→Nat} {k sz m:Nat} {h h0:Heap} {a:AV} {cs:List AV} {l:List α} (g:GL T k sz h a m cs) (hl:l.length=m) (h1:∀id ver,a=.s id ver 0 m→h0 id=h id) (h2:∀i (hi:i<l.length),d.run h0 ((cs.drop (i*sz)).take sz)=some l[i]):rd (De.sl sz d) h0 a=some l:=by
 rcases g.2 with ⟨rfl,rfl⟩|⟨id,ver,rfl,e2,e3⟩
 ·obtain rfl:l=[]:=yC.1 hl
  rfl
 ·subst hl
  exact De.sl_in (off:=0) (k:=⟨cs,ver,true,sz⟩) (by rw[h1 id ver rfl];exact e3) (by have:=g.1;simp only[];omega) (fun i hi=>by simpa using h2 i hi)
def zXo (h:Heap):List AV→Option (List Ty×Int×ByteArray)
 | [x,.v (.int .i64 t),.v (.string v)]=>(zHj h x).map fun l=>(l,t,v)
 | _=>none
theorem zO2 {h:Heap} {args:List AV} {q:List Ty×Int×ByteArray} (e:zXo h args=some q):∃x,args=[x,ii q.2.1,ss q.2.2]∧zHj h x=some q.1:=by
 unfold zXo at e;split at e
 ·simp only[zW]at e
  obtain⟨t,h1,rfl⟩:=e;exact⟨_,rfl,h1⟩
 ·cases e
theorem yA1 (h h':Heap) (args:List AV) (q:List Ty×Int×ByteArray) (hh:h.le h') (e:zXo h args=some q):zXo h' args=some q:=by
 obtain⟨x,rfl,e1⟩:=zO2 e;simp only[zXo,ii,ss,zHg hh.sim e1,zM]
def GAt:=yE zXo (fun q=>zB9 q.1) fun q=>ii (zCp q.1 q.2.1 q.2.2)
def yCn:List (FuncId×(List AV→Heap→PRes)):=[(150,yGr)]
theorem yM2:P0 [] 116 GAt:=by
 refine mkH 3 (S:=[]) (l:=yCn) (zS yP6 yH) Tryz.func116 rfl (by kernel_rfl) yA1 (fun h l x e=>by obtain⟨a,rfl,_⟩:=zO2 e;exact zD _) (fun a=>rfl) (fun args q h n e hp hn => ?_)
 obtain⟨x,rfl,e1⟩:=zO2 e;obtain⟨a,rfl,e2⟩:=zA4 e1;obtain⟨l,ty,v⟩:=q;obtain⟨hp1,hp2⟩:=hp;simp only[]at e2 hp1 hp2 ⊢;obtain⟨s1,s2,s3,s4,s5⟩:=zK e2;have hts:ByteArray.mk #[116,115]=tsB:=rfl;by_cases h1:ty<0
 ·have hf:zCp l ty v=-1:=by rw[zCp,if_pos (.inl h1)]
  simp[evx,ii,ss,s1,s2,s4,h1,hf]
 obtain⟨j,rfl⟩:∃j:Nat,ty=j:=⟨ty.toNat,by omega⟩
 by_cases hlt:j<l.length
 ·rcases zPx e2 with ⟨h0,_⟩|⟨id,off,k,rfl,hk,ho,hat⟩
  ·rw[h0]at hlt;simp at hlt
  obtain⟨_,c,hc,hcr⟩:=hat j hlt;have h2:¬l.length≤j:=by omega
  have hro:=zDv hk;have h0:=zFn hk hn 0;simp only[yO]at h0;have u3:=(zK hcr).2.2.1;have gr:∀h',agree n (roH h) h'→rd dSs h' c=some l[j].attrs:=xL hn hcr;have hw1:off+(j*2+2)≤k.cells.length:=by omega
  have hsm:=hp2 _ (zF hlt);have hlj:l[j]? = some l[j]:=zA hlt;have hff:zCp l j v=if (v==tsB)=true then -2 else if zAn l[j].attrs v<8 then zAn l[j].attrs v else -1:=by
   rw[zCp,if_neg (by omega)]
   simp only[zV,hlj]
  generalize l[j]=t at *;cases hv:(v==tsB)with
  | true =>
   rw[hv,if_pos rfl]at hff;simp[evx,ii,ss,h2,hts,hv,hff]
  | false =>
   rw[hv,if_neg (by simp)]at hff
   have hi0 : -1≤zAn t.attrs v:=by unfold zAn;split<;>omega
   obtain⟨z,hzz⟩:∃z,zAn t.attrs v=z:=⟨_,rfl⟩;rw[hzz]at hff hi0;by_cases hz:0≤z
   ·by_cases hz8:z<8
    ·rw[if_pos hz8]at hff
     simp[evx,ii,ss,hlt,h2,hts,hv,hff,h0,hro,hc,hw1,yCn,yGr,yE,zSu,gr,zC,zE,hsm,hzz,hz,hz8]
    ·rw[if_neg hz8]at hff
     simp[evx,ii,ss,hlt,h2,hts,hv,hff,h0,hro,hc,hw1,yCn,yGr,yE,zSu,gr,zC,zE,hsm,hzz,hz,hz8]
   ·have:z=-1:=by omega
    subst this;simp at hff;simp[evx,ii,ss,hlt,h2,hts,hv,hff,h0,hro,hc,hw1,yCn,yGr,yE,zSu,gr,zC,zE,hsm,hzz]
 ·have h2:l.length≤j:=by omega
  have hf:zCp l j v=-1:=by rw[zCp,if_pos (.inr (by omega))]
  simp[evx,ii,ss,s1,s2,s4,h2,hf]
def opA (o:List Int) (k:Int):Int:=if k=1 then o.getD (o.length-1) 0 else if k=2 then o.getD (o.length-2) 0 else -1
def opB (o:List Int) (k:Int):Int:=if k=2 then o.getD (o.length-1) 0 else -1
def wF (o:List Int) (x:Nd) (i:Nat):Option (List Int) :=
 if zBc x.op<0∨zBc x.op > o.length∨zBi x=false then none
 else if x.a≠opA o (zBc x.op)∨x.b≠opB o (zBc x.op)then none
 else some (o.take (o.length-(zBc x.op).toNat)++[(i:Int)])
def zCa (t:List Nd):Nat→Option (List Int)
 | 0=>some []
 | j+1=>(zCa t j).bind fun o=>wF o (t.getD j nd0) j
def zAu (t:List Nd):Bool:=match zCa t t.length with
 | some o=>decide (o.length=1)
 | none=>false
theorem zT5 {t:List Nd}:∀{j:Nat} {o:List Int},zCa t j=some o→o.length≤j
 | 0,o,h=>by simp[zCa]at h;subst h;simp
 | j+1,o,h=>by
  simp only[zCa,xG]at h;obtain⟨p,h1,h2⟩:=h;have:=zT5 h1;unfold wF at h2;split at h2
  ·cases h2
  ·split at h2
   ·cases h2
   ·cases h2
    simp;omega
theorem zQr {t:List Nd} {j:Nat} (h:zCa t j=none):∀m,zCa t (j+m)=none
 | 0=>h
 | m+1=>by
  show zCa t (j+m+1)=none;simp only[zCa,zQr h m,Option.bind_none]
theorem yCc {t:List Nd} {j:Nat} {o:List Int} (hj:j<t.length) (ho:zCa t j=some o) (hs:wF o (t.getD j nd0) j=none):zAu t=false:=by
 have h1:zCa t (j+1)=none:=by simp only[zCa,ho,zT,hs]
 have:=zQr h1 (t.length-(j+1));rw[show j+1+(t.length-(j+1))=t.length by omega]at this
 simp only[zAu,this]
def G70:=yE deT xO fun t=>bv (zAu t)
def zN1:List (FuncId×(List AV→Heap→PRes)):=[(139,zPo),(140,zPn)]
theorem zPe (o:Int):zBc o=-1∨zBc o=0∨zBc o=1∨zBc o=2:=by
 unfold zBc;repeat' split
 all_goals simp
theorem P70:P0 [3] 79 G70:=by
 refine mkH 1 (S:=[3]) (l:=zN1) (zS yRg (zS yRf yH)) Tryz.func79 rfl (by kernel_rfl) zOv (fun h l x e=>by obtain⟨a,rfl,_⟩:=zH7 e;exact zD _) (fun a=>rfl) (fun args t h n e hp hn => ?_)
 obtain⟨a,rfl,e1⟩:=zH7 e;obtain⟨s1,s2,s3,s4,s5⟩:=zK e1;have hp':t.length*64≤140737488355328:=hp;have key:∀e:Nat→AV,e 0=a→awp (cx [3] (pfL zN1)) (Tryz.f79.body.getD .skip) (zA8 (cx [3] (pfL zN1)) Tryz.f79 fun z _ _=>z=bv (zAu t)) ⟨e,roH h,n⟩:=fun e q0=>by
  simp[evx,Tryz.f79,q0,s1,s2];refine yK (fun s=>∃(j:Nat) (o:List Int),j≤t.length∧zCa t j=some o∧s.e 9=a∧s.e 10=ii t.length∧s.e 11=ii j∧Own s.h n s.n (s.e 3) o.length (o.map ii) 1∧agree n (roH h) s.h∧n≤s.n) (fun s=>t.length-(s.e 11).i.toNat) ⟨0,[],by simp[up,ii,zE,zCa,Own]⟩ ?_
  rintro e' h' n' ⟨j,o,hj,ho,q9,q10,q11,hown,hag,hnn⟩;simp only[]at q9 q10 q11 hown hag hnn;have hol:=zT5 ho;by_cases hlt:j<t.length
  ·rcases zKb e1 with ⟨h0,_⟩|⟨id,off,k,rfl,hk,ho',hat⟩
   ·rw[h0]at hlt;simp at hlt
   have hr:=hat j hlt;have ha':=wQ hn hk hag;have hle:∀(X:Ctx) (h':Heap),h' id=some ⟨k.cells,k.ver,false,k.esz⟩→ldcs X h' (.p id k.ver (off+j*6)) 0 6=yA t[j]:=fun X h' e=>zJq e hr
   have hw6:off+(j*6+6)≤k.cells.length:=by omega
   have hw:=yF (j:=j) (by unfold big;omega)
   have hg:t.getD j nd0=t[j]:=by rw[zB,zA hlt];rfl
   have hno:=yCc hlt ho;have hsu:zCa t (j+1)=wF o t[j] j:=by simp only[zCa,ho,zT,hg]
   rw[hg]at hno;have hid:id<n:=xI hk hn;have z1:¬id=n':=by omega
   have f0:n≤n':=hnn;generalize t[j]=x at *;obtain⟨op,num,var,attr,xa,xb⟩:=x;have hnb:∀(X:Ctx) (h'':Heap),h'' n'=some ⟨[.v (.int .i64 op),.v (.int .i64 num),.v (.string var),.v (.string attr),.v (.int .i64 xa),.v (.int .i64 xb)],0,true,6⟩→ldcs X h'' (.p n' 0 0) 0 6=[.v (.int .i64 op),.v (.int .i64 num),.v (.string var),.v (.string attr),.v (.int .i64 xa),.v (.int .i64 xb)]:=fun X h'' e=>by simp[ldcs,ldc,e]
   have hdn:deN (.g [.v (.int .i64 op),.v (.int .i64 num),.v (.string var),.v (.string attr),.v (.int .i64 xa),.v (.int .i64 xb)])=some ⟨op,num,var,attr,xa,xb⟩:=rfl
   try simp only[]at hno hsu
   have hb3:(j+1)*8≤140737488355328:=by omega
   have hol2:(o.map ii).length=o.length:=zO ..;have hw0:IntKind.i64.wrap 0=0:=rfl;have hwn:∀m:Nat,m<big→IntKind.i64.wrap (m:Int)=m:=fun m hm=>by
    cases m with
    | zero=>rfl
    | succ m=>exact yF (by omega)
   have hbg:o.length<big:=by unfold big;omega
   rcases zPe op with har|har|har|har
   ·have hf:=hno (by simp[wF,har])
    simp[evx,q9,q10,q11,ii,ss,hlt,ha',hle,hw6,zN1,zPo,zPn,yZ,deI,har,hf,bv,yA]
   ·have q3s:(∀g,AV.unc g (e' 3)=e' 3)∧(e' 3).isS∧(e' 3).slen=o.length:=by
     rcases hown with ⟨h0,hnil,q3⟩|⟨w,u,q3,hk3,hw1,hw2⟩
     ·rw[q3];exact⟨fun _=>rfl,⟨rfl,rfl⟩,h0.symm⟩
     ·rw[q3];exact⟨fun _=>rfl,trivial,rfl⟩
    obtain⟨q3a,q3b,q3c⟩:=q3s;cases hfl:zBi ⟨op,num,var,attr,xa,xb⟩with
    | false =>
     have hf:=hno (by simp[wF,hfl])
     simp[evx,q9,q10,q11,ii,ss,hlt,ha',hle,hnb,hdn,hw6,zN1,zPo,zPn,yZ,deI,har,bv,yA,q3a,q3b,q3c,hfl,hf]
    | true =>
     by_cases hx1:xa=-1
     ·by_cases hx2:xb=-1
      ·subst hx1;subst hx2
       have hst:wF o ⟨op,num,var,attr,-1,-1⟩ j=some (o++[(j:Int)]):=by simp[wF,har,hfl,opA,opB]
       rcases hown with ⟨h0,hnil,q3⟩|⟨w,u,q3,hk3,hw1,hw2⟩
       ·have ho0:o=[]:=yC.1 h0
        subst ho0;have f1:n≤n'+2:=by omega
        have f2:n≤n'+3:=by omega
        simp[evx,q3,q9,q10,q11,ii,ss,hlt,ha',hle,hnb,hdn,hw6,zN1,zPo,zPn,yZ,deI,har,bv,yA,hfl,hw0,hw,zC,hag,f0,f1,f2];exact⟨⟨j+1,by omega,_,by rw[hsu,hst],by omega,.inr ⟨n'+3,0,rfl,by rw[zN];rfl,by omega,by omega⟩,by omega⟩,by omega⟩
       ·have y1:¬w=n':=by omega
        have y2:¬w=n'+2:=by omega
        have y3:n≤w:=hw1;have f1:n≤n'+2:=by omega
        have hb4:o.length≤9223372036854775806:=by omega
        have hb5:(o.length+1)*8≤140737488355328:=by omega
        simp[evx,q3,q9,q10,q11,ii,ss,hlt,ha',hle,hnb,hdn,hw6,zN1,zPo,zPn,yZ,deI,har,bv,yA,hfl,hw,hwn _ hbg,hk3,y1,y2,y3,zC,hag,f0,f1,hb4,hb5];exact⟨⟨j+1,by omega,_,by rw[hsu,hst],by omega,.inr ⟨w,u+1,by simp,by rw[zN];simp[ii],by omega,by omega⟩,by omega⟩,by omega⟩
      ·subst hx1
       have hf:=hno (by simp[wF,opB,har,hx2])
       simp[evx,q9,q10,q11,ii,ss,hlt,ha',hle,hnb,hdn,hw6,zN1,zPo,zPn,yZ,deI,har,bv,yA,q3a,q3b,q3c,hfl,hf,hx2]
     ·have hf:=hno (by simp[wF,opA,har,hx1])
      simp[evx,q9,q10,q11,ii,ss,hlt,ha',hle,hnb,hdn,hw6,zN1,zPo,zPn,yZ,deI,har,bv,yA,q3a,q3b,q3c,hfl,hf,hx1]
   ·by_cases hle1:o.length<1
    ·have ho0:o=[]:=yC.1 (by omega)
     subst ho0;have hf:=hno (by simp[wF,har])
     have q3s:(∀g,AV.unc g (e' 3)=e' 3)∧(e' 3).isS∧(e' 3).slen=0:=by
      rcases hown with ⟨h0,hnil,q3⟩|⟨w,u,q3,hk3,hw1,hw2⟩
      ·rw[q3];exact⟨fun _=>rfl,⟨rfl,rfl⟩,rfl⟩
      ·rw[q3];exact⟨fun _=>rfl,trivial,rfl⟩
     obtain⟨q3a,q3b,q3c⟩:=q3s;simp[evx,q9,q10,q11,ii,ss,hlt,ha',hle,hw6,zN1,zPo,zPn,yZ,deI,har,hf,bv,yA,q3a,q3b,q3c]
    obtain⟨p,y,rfl⟩:∃p y,o=p++[y]:=⟨o.dropLast,o.getLast (by intro h;subst h;simp at hle1),(List.dropLast_concat_getLast _).symm⟩
    have hln:(p++[y]).length=p.length+1:=by simp
    have hz1:(1:Int)≤(p.length:Int)+1:=by omega
    have hz2:(p.length:Int)<(p.length:Int)+1:=by omega
    have hz4:(p.length:Int)≤(p.length:Int)+1:=by omega
    have hgt:¬(p.length:Int)+1<1:=by omega
    rcases hown with ⟨h0,hnil,q3⟩|⟨w,u,q3,hk3,hw1,hw2⟩
    ·rw[hln]at h0;omega
    have y1:¬w=n':=by omega
    have y2:¬w=n'+2:=by omega
    have y3:n≤w:=hw1;have f1:n≤n'+2:=by omega
    have hpb:p.length<big:=by omega
    have hb4:p.length≤9223372036854775806:=by omega
    have hb5:(p.length+1)*8≤140737488355328:=by omega
    have hmap:(p++[y]).map ii=p.map ii++[ii y]:=by simp
    have hpl:(p.map ii).length=p.length:=zO ..;have hoA:opA (p++[y]) 1=y:=by simp[opA]
    have hoB:opB (p++[y]) 1=-1:=by simp[opB]
    rw[hln]at q3;rw[hmap]at hk3;have hcut:cut p.length (p.map ii++[ii y])=p.map ii:=by rw[zI2,zCd (by omega),yY (by omega)]
    simp only[ii]at hcut;generalize hcp:p.map ii=cp at *;cases hfl:zBi ⟨op,num,var,attr,xa,xb⟩with
    | false =>
     have hf:=hno (by simp[wF,hfl])
     simp[evx,q3,q9,q10,q11,ii,ss,hlt,ha',hle,hnb,hdn,hw6,zN1,zPo,zPn,yZ,deI,har,bv,yA,hfl,hf,hgt]
    | true =>
     by_cases hx1:xa=y
     ·by_cases hx2:xb=-1
      ·subst hx1;subst hx2
       have hst:wF (p++[xa]) ⟨op,num,var,attr,xa,-1⟩ j=some (p++[(j:Int)]):=by simp[wF,har,hfl,hoA,hoB];omega
       simp[evx,q3,q9,q10,q11,ii,ss,hlt,ha',hle,hnb,hdn,hw6,zN1,zPo,zPn,yZ,deI,har,bv,yA,hfl,hw,hwn _ hpb,hk3,hpl,y1,y2,y3,zC,hag,f0,f1,hb4,hb5,hcut,hz2,hz4,hgt];exact⟨⟨j+1,by omega,_,by rw[hsu,hst],by omega,.inr ⟨w,u+1,by simp,by rw[zN,←hcp];simp[ii],by omega,by omega⟩,by omega⟩,by omega⟩
      ·subst hx1
       have hf:=hno (by simp[wF,har,hoA,hoB,hx2])
       simp[evx,q3,q9,q10,q11,ii,ss,hlt,ha',hle,hnb,hdn,hw6,zN1,zPo,zPn,yZ,deI,har,bv,yA,hfl,hf,hx2,hwn _ hpb,hk3,hpl,y1,hz2,hgt]
     ·have hf:=hno (by simp[wF,har,hoA,hx1])
      simp[evx,q3,q9,q10,q11,ii,ss,hlt,ha',hle,hnb,hdn,hw6,zN1,zPo,zPn,yZ,deI,har,bv,yA,hfl,hf,hx1,hwn _ hpb,hk3,hpl,y1,hz2,hgt]
   ·by_cases hle1:o.length<2
    ·have hf:=hno (by simp[wF,har];omega)
     have q3s:(∀g,AV.unc g (e' 3)=e' 3)∧(e' 3).isS∧(e' 3).slen=o.length:=by
      rcases hown with ⟨h0,hnil,q3⟩|⟨w,u,q3,hk3,hw1,hw2⟩
      ·rw[q3];exact⟨fun _=>rfl,⟨rfl,rfl⟩,h0.symm⟩
      ·rw[q3];exact⟨fun _=>rfl,trivial,rfl⟩
     obtain⟨q3a,q3b,q3c⟩:=q3s;have hle2:(o.length:Int)<2:=by omega
     simp[evx,q9,q10,q11,ii,ss,hlt,ha',hle,hw6,zN1,zPo,zPn,yZ,deI,har,hf,bv,yA,q3a,q3b,q3c,hle2]
    obtain⟨p,y,z,rfl⟩:∃p y z,o=p++[y,z]:=by
     obtain⟨p1,z,rfl⟩:∃p y,o=p++[y]:=⟨o.dropLast,o.getLast (by intro h;subst h;simp at hle1),(List.dropLast_concat_getLast _).symm⟩
     obtain⟨p,y,rfl⟩:∃p y,p1=p++[y]:=⟨p1.dropLast,p1.getLast (by intro h;subst h;simp at hle1),(List.dropLast_concat_getLast _).symm⟩
     exact⟨p,y,z,by simp⟩
    have hln:(p++[y,z]).length=p.length+2:=by simp
    have hwq:IntKind.i64.wrap ((p.length:Int)+2-1)=p.length+1:=by
     have:=hwn (p.length+1) (by omega)
     rw[show ((p.length:Int)+2-1)=((p.length+1:Nat):Int) by omega,this];omega
    have hz1:(2:Int)≤(p.length:Int)+2:=by omega
    have hz2:(p.length:Int)<(p.length:Int)+2:=by omega
    have hz4:(p.length:Int)≤(p.length:Int)+2:=by omega
    have hz3:(0:Int)≤(p.length:Int)+1:=by omega
    have hgt:¬(p.length:Int)+2<2:=by omega
    rcases hown with ⟨h0,hnil,q3⟩|⟨w,u,q3,hk3,hw1,hw2⟩
    ·rw[hln]at h0;omega
    have y1:¬w=n':=by omega
    have y2:¬w=n'+2:=by omega
    have y3:n≤w:=hw1;have f1:n≤n'+2:=by omega
    have hpb:p.length<big:=by omega
    have hb4:p.length≤9223372036854775806:=by omega
    have hb5:(p.length+1)*8≤140737488355328:=by omega
    have hmap:(p++[y,z]).map ii=p.map ii++[ii y,ii z]:=by simp
    have hpl:(p.map ii).length=p.length:=zO ..;have hoA:opA (p++[y,z]) 2=y:=by simp[opA]
    have hoB:opB (p++[y,z]) 2=z:=by simp[opB]
    rw[hln]at q3;rw[hmap]at hk3;have hcut:cut p.length (p.map ii++[ii y,ii z])=p.map ii:=by rw[zI2,zCd (by omega),yY (by omega)]
    simp only[ii]at hcut;generalize hcp:p.map ii=cp at *;cases hfl:zBi ⟨op,num,var,attr,xa,xb⟩with
    | false =>
     have hf:=hno (by simp[wF,hfl])
     simp[evx,q3,q9,q10,q11,ii,ss,hlt,ha',hle,hnb,hdn,hw6,zN1,zPo,zPn,yZ,deI,har,bv,yA,hfl,hf,hgt]
    | true =>
     by_cases hx1:xa=y
     ·by_cases hx2:xb=z
      ·subst hx1;subst hx2
       have hst:wF (p++[xa,xb]) ⟨op,num,var,attr,xa,xb⟩ j=some (p++[(j:Int)]):=by simp[wF,har,hfl,hoA,hoB];omega
       simp[evx,q3,q9,q10,q11,ii,ss,hlt,ha',hle,hnb,hdn,hw6,zN1,zPo,zPn,yZ,deI,har,bv,yA,hfl,hw,hwn _ hpb,hk3,hpl,y1,y2,y3,zC,hag,f0,f1,hb4,hb5,hcut,hwq,hgt,hz2,hz3,hz4];exact⟨⟨j+1,by omega,_,by rw[hsu,hst],by omega,.inr ⟨w,u+1,by simp,by rw[zN,←hcp];simp[ii],by omega,by omega⟩,by omega⟩,by omega⟩
      ·subst hx1
       have hf:=hno (by simp[wF,har,hoA,hoB,hx2])
       simp[evx,q3,q9,q10,q11,ii,ss,hlt,ha',hle,hnb,hdn,hw6,zN1,zPo,zPn,yZ,deI,har,bv,yA,hfl,hf,hx2,hwn _ hpb,hk3,hpl,y1,hwq,hgt,hz2,hz3]
     ·have hf:=hno (by simp[wF,har,hoA,hx1])
      simp[evx,q3,q9,q10,q11,ii,ss,hlt,ha',hle,hnb,hdn,hw6,zN1,zPo,zPn,yZ,deI,har,bv,yA,hfl,hf,hx1,hwn _ hpb,hk3,hpl,y1,hwq,hgt,hz2,hz3]
  ·obtain rfl:j=t.length:=by omega
   have hf:zAu t=decide (o.length=1):=by simp only[zAu,ho]
   rcases hown with ⟨h0,hnil,q3⟩|⟨w,u,q3,hk3,hw1,hw2⟩
   ·rw[h0]at hf
    simp[evx,q3,q10,q11,ii,hf,bv]
   ·have hdd:((o.length:Int)==1)=decide (o.length=1):=by rw[Bool.eq_iff_iff];simp;omega
    simp[evx,q3,q10,q11,ii,hf,bv,hdd]
 exact key _ rfl
def zAy (l:List Int) (x:Nd) (i:Nat):Option (List Int) :=
 if zHz x=true then some (l++[(i:Int)])
 else if x.op=12∨x.op=13 then
  if zJx x=false∨i<1∨x.a≠(i:Int)-1∨x.b≠-1 then none else some (l++[l.getD (i-1) 0])
 else if 14≤x.op∧x.op≤26 then
  if zJx x=false∨i<1∨x.b≠(i:Int)-1∨l.getD (i-1) 0<1∨x.a≠l.getD (i-1) 0-1 then none else some (l++[l.getD x.a.toNat 0])
 else none
def zDn (t:List Nd):Nat→Option (List Int)
 | 0=>some []
 | j+1=>(zDn t j).bind fun l=>zAy l (t.getD j nd0) j
def yCb (t:List Nd):Bool:=match zDn t t.length with
 | some l=>decide (0<t.length)&&decide (l.getD (t.length-1) 0=0)
 | none=>false
inductive StR (l:List Int):Nat→List Int→Prop
 | nil:StR l 0 []
 | cons {e b:Nat} {o:List Int}:l[e]? = some (b:Int)→b≤e→StR l b o→StR l (e+1) (o++[(e:Int)])
theorem StR.grow {l:List Int} {e:Nat} {o:List Int} (h:StR l e o) (m:List Int):StR (l++m) e o:=by
 induction h with
 | nil=>exact .nil
 | cons h1 h2 _ ih=>exact .cons (by rw[zQ (by rw[zY]at h1;exact h1.1)];exact h1) h2 ih
theorem StR.zero {l o:List Int} (h:StR l 0 o):o=[]:=by
 generalize he:0=e at h;cases h with
 | nil=>rfl
 | cons=>omega
theorem StR.succ {l o:List Int} {e:Nat} (h:StR l (e+1) o):∃(b:Nat) (p:List Int),o=p++[(e:Int)]∧l[e]? = some (b:Int)∧b≤e∧StR l b p:=by
 generalize he:e+1=e' at h;cases h with
 | nil=>omega
 | cons h1 h2 h3 =>
  obtain rfl:=Nat.succ.inj he;exact⟨_,_,rfl,h1,h2,h3⟩
theorem zHy (x:Nd):zHz x=(decide (zBc x.op=0)&&zBi x&&decide (x.a=-1)&&decide (x.b=-1)):=by
 obtain⟨op,n,var,attr,a,b⟩:=x;by_cases h1:op=1
 ·subst h1
  simp[zHz,zBi,zBc,emB];grind
 by_cases h2:op=2
 ·subst h2
  simp[zHz,zBi,zBc,emB,zJx];grind
 by_cases h3:op=3
 ·subst h3
  simp[zHz,zBi,zBc,emB,zJx];grind
 by_cases h5:op=5
 ·subst h5
  simp[zHz,zBi,zBc,emB];grind
 by_cases h4:4≤op∧op≤11
 ·have h6:1≤op∧op≤11:=by omega
  simp[zHz,zBi,zBc,h1,h2,h3,h4,h5,h6];grind
 ·have h6:¬(1≤op∧op≤11):=by omega
  simp only[zHz,zBi,zBc,h1,h2,h3,h4,h5,h6];simp;split<;>(try split)<;>simp
theorem zIa (x:Nd) (h:12≤x.op):zBi x=zJx x:=by
 obtain⟨op,n,var,attr,a,b⟩:=x;simp only[]at h;have h1:¬op=1:=by omega
 have h2:¬op≤11:=by omega
 simp[zBi,zJx,h1,h2]
theorem zYf {l o:List Int} {j:Nat} (x:Nd) (hl:l.length=j) (hs:StR l j o):(wF o x j=none∧zAy l x j=none)∨∃o' l',wF o x j=some o'∧zAy l x j=some l'∧l'.length=j+1∧StR l' (j+1) o':=by
 have hlf:=zHy x;have hbf:=zIa x;have hlast:∀z:Int,(l++[z])[j]? = some z:=fun z=>by rw[yN (by omega),hl,zDr];rfl
 rcases zPe x.op with har|har|har|har
 ·have h1:¬(x.op=12∨x.op=13):=fun h=>by unfold zBc at har;grind
  have h2:¬(14≤x.op∧x.op≤26):=fun h=>by unfold zBc at har;grind
  refine .inl ⟨by simp[wF,har],?_⟩
  rw[har]at hlf;simp only[zAy,hlf,h1,h2,if_false];simp
 ·have h1:¬(x.op=12∨x.op=13):=fun h=>by unfold zBc at har;grind
  have h2:¬(14≤x.op∧x.op≤26):=fun h=>by unfold zBc at har;grind
  have hA:opA o 0=-1:=by simp[opA]
  have hB:opB o 0=-1:=by simp[opB]
  rw[har]at hlf;simp only[decide_true,zAq]at hlf;by_cases hf:zHz x=true
  ·rw[hf]at hlf
   have hlf':=hlf.symm;simp only[zH,decide_eq_true_eq]at hlf';obtain⟨⟨f1,f2⟩,f3⟩:=hlf';refine .inr ⟨o++[(j:Int)],l++[(j:Int)],?_,by simp only[zAy,hf,if_true],by simp[hl],.cons (hlast _) (zD _) (hs.grow _)⟩
   have h3:¬((0:Int) > o.length):=by omega
   simp[wF,har,f1,f2,f3,hA,hB,h3]
  ·have hf':zHz x=false:=by simpa using hf
   refine .inl ⟨?_,by simp[zAy,hf',h1,h2]⟩
   rw[hf']at hlf;have hlf':=hlf.symm;simp only[Bool.and_eq_false_iff,decide_eq_false_iff_not]at hlf';simp only[wF,har,hA,hB];grind
 ·have h1:x.op=12∨x.op=13:=by unfold zBc at har;grind
  have hnl:zHz x=false:=by rw[hlf,har];simp
  have hb:=hbf (by omega)
  cases j with
  | zero =>
   have:=hs.zero;subst this;exact .inl ⟨by simp[wF,har],by simp[zAy,hnl,h1]⟩
  | succ e =>
   obtain⟨b,p,rfl,hb1,hb2,hb3⟩:=hs.succ;have hA:opA (p++[(e:Int)]) 1=e:=by simp[opA]
   have hB:opB (p++[(e:Int)]) 1=-1:=by simp[opB]
   have hg:l.getD e 0=b:=by rw[zB,hb1];rfl
   have h3:¬((1:Int) > ((p++[(e:Int)]).length:Nat)):=by simp;omega
   have h4:((e+1:Nat):Int)-1=e:=by omega
   have h5:¬e+1<1:=by omega
   by_cases hok:zJx x=true∧x.a=e∧x.b=-1
   ·obtain⟨k1,k2,k3⟩:=hok
    refine .inr ⟨p++[((e+1:Nat):Int)],l++[(b:Int)],?_,?_,by simp[hl],.cons (hlast _) (by omega) (hb3.grow _)⟩
    ·simp[wF,har,hb,k1,k2,k3,hA,hB]
     omega
    ·simp only[zAy,hnl,h1,if_true,k1,k2,k3,h4,h5,zEi,hg]
     simp
   ·refine .inl ⟨?_,?_⟩
    ·simp only[wF,har,hb,hA,hB,h3]
     cases hbb:zJx x<;>grind
    ·simp only[zAy,hnl,h1,if_true,h4,h5]
     cases hbb:zJx x<;>grind
 ·have h1:14≤x.op∧x.op≤26:=by unfold zBc at har;grind
  have h0:¬(x.op=12∨x.op=13):=by omega
  have hnl:zHz x=false:=by rw[hlf,har];simp
  have hb:=hbf (by omega)
  cases j with
  | zero =>
   have:=hs.zero;subst this;exact .inl ⟨by simp[wF,har],by simp[zAy,hnl,h0,h1]⟩
  | succ e =>
   obtain⟨b,p,rfl,hb1,hb2,hb3⟩:=hs.succ;have hg:l.getD e 0=b:=by rw[zB,hb1];rfl
   have h4:((e+1:Nat):Int)-1=e:=by omega
   have h5:¬e+1<1:=by omega
   cases b with
   | zero =>
    have:=hb3.zero;subst this;exact .inl ⟨by simp[wF,har],by simp only[zAy,hnl,h0,h1,zEi,hg];simp⟩
   | succ c =>
    obtain⟨d,q,rfl,hd1,hd2,hd3⟩:=hb3.succ;have hA:opA (q++[(c:Int)]++[(e:Int)]) 2=c:=by simp[opA]
    have hB:opB (q++[(c:Int)]++[(e:Int)]) 2=e:=by simp[opB]
    have hgd:l.getD c 0=d:=by rw[zB,hd1];rfl
    have h3:¬((2:Int) > ((q++[(c:Int)]++[(e:Int)]).length:Nat)):=by simp;omega
    have h6:((c+1:Nat):Int)-1=c:=by omega
    have h7:¬((c+1:Nat):Int)<1:=by omega
    by_cases hok:zJx x=true∧x.a=c∧x.b=e
    ·obtain⟨k1,k2,k3⟩:=hok
     refine .inr ⟨q++[((e+1:Nat):Int)],l++[(d:Int)],?_,?_,by simp[hl],.cons (hlast _) (by omega) (hd3.grow _)⟩
     ·have hA':opA (q++[(c:Int),(e:Int)]) 2=c:=by simp[opA]
      have hB':opB (q++[(c:Int),(e:Int)]) 2=e:=by simp[opB]
      simp[wF,har,hb,k1,k2,k3,hA',hB'];omega
     ·simp only[zAy,hnl,h0,h1,k1,k2,k3,h4,h5,h6,h7,zEi,hg,zV,hgd]
      simp
    ·refine .inl ⟨?_,?_⟩
     ·simp only[wF,har,hb,hA,hB,h3]
      cases hbb:zJx x<;>grind
     ·simp only[zAy,hnl,h0,h1,h4,h5,zEi,hg,h6,h7]
      cases hbb:zJx x<;>grind
theorem zYa (t:List Nd):∀j,(zCa t j=none∧zDn t j=none)∨∃o l,zCa t j=some o∧zDn t j=some l∧l.length=j∧StR l j o
 | 0=>.inr ⟨[],[],rfl,rfl,rfl,.nil⟩
 | j+1=>by
  rcases zYa t j with ⟨h1,h2⟩|⟨o,l,h1,h2,h3,h4⟩
  ·exact .inl ⟨by simp only[zCa,h1,Option.bind_none],by simp only[zDn,h2,Option.bind_none]⟩
  ·rcases zYf (t.getD j nd0) h3 h4 with ⟨k1,k2⟩|⟨o',l',k1,k2,k3,k4⟩
   ·exact .inl ⟨by simp only[zCa,h1,zT,k1],by simp only[zDn,h2,zT,k2]⟩
   ·exact .inr ⟨o',l',by simp only[zCa,h1,zT,k1],by simp only[zDn,h2,zT,k2],k3,k4⟩
theorem zP0 (t:List Nd):yCb t=zAu t:=by
 unfold zAu yCb;rcases zYa t t.length with ⟨h1,h2⟩|⟨o,l,h1,h2,h3,h4⟩
 ·rw[h1,h2]
 ·rw[h1,h2]
  simp only[];generalize t.length=e at *;cases e with
  | zero=>rw[h4.zero];simp
  | succ e =>
   obtain⟨b,p,rfl,hb1,hb2,hb3⟩:=h4.succ;have hg:l.getD e 0=b:=by rw[zB,hb1];rfl
   rw[zEi,hg];cases b with
   | zero=>rw[hb3.zero];simp
   | succ c =>
    obtain⟨d,q,rfl,hd1,hd2,hd3⟩:=hb3.succ;simp;omega
structure KidOk (x:Nd) (i:Nat):Prop where
 ar:0≤zBc x.op
 fl:zBi x=true
 a1:1≤zBc x.op→0≤x.a∧x.a<i
 b2:zBc x.op=2→0≤x.b∧x.b<i
 b1:zBc x.op≤1→x.b=-1
 a0:zBc x.op=0→x.a=-1
theorem yD1 {o:List Int} {x:Nd} {i:Nat} {o':List Int} (ho:∀y∈o,0≤y∧y<(i:Int)) (h:wF o x i=some o'):KidOk x i∧∀y∈o',0≤y∧y<((i+1:Nat):Int):=by
 have hm:∀k,k<o.length→0≤o.getD k 0∧o.getD k 0<(i:Int):=fun k hk=>by
  rw[zB,zA hk];exact ho _ (zF hk)
 unfold wF at h;split at h
 ·cases h
 rename_i h1;split at h
 ·cases h
 rename_i h2;cases h;simp only[not_or,Decidable.not_not]at h1 h2;obtain⟨h1a,h1b,h1c⟩:=h1;obtain⟨h2a,h2b⟩:=h2;refine⟨⟨by omega,by simpa using h1c,fun h => ?_,fun h => ?_,fun h => ?_,fun h => ?_⟩,fun y hy => ?_⟩
 ·rcases zPe x.op with har|har|har|har
  ·omega
  ·omega
  ·rw[h2a,har]
   simp only[opA,if_true];exact hm _ (by omega)
  ·rw[h2a,har]
   simp only[opA];exact hm _ (by omega)
 ·rw[h2b,h]
  simp only[opB,if_true];exact hm _ (by omega)
 ·rw[h2b,opB,if_neg (by omega)]
 ·rw[h2a,opA,if_neg (by omega),if_neg (by omega)]
 ·rw[wN]at hy
  rcases hy with hy|hy
  ·have:=ho y (List.mem_of_mem_take hy);omega
  ·simp at hy;omega
theorem zZ7 {t:List Nd}:∀{j:Nat} {o:List Int},j≤t.length→zCa t j=some o→(∀y∈o,0≤y∧y<(j:Int))∧∀i (hi:i<t.length),i<j→KidOk t[i] i
 | 0,o,_,h=>by simp[zCa]at h;subst h;exact⟨by simp,fun i _ hi=>by omega⟩
 | j+1,o,hj,h=>by
  simp only[zCa,xG]at h;obtain⟨p,h1,h2⟩:=h;obtain⟨i1,i2⟩:=zZ7 (by omega) h1
  obtain⟨k1,k2⟩:=yD1 i1 h2;refine⟨k2,fun i hi hij => ?_⟩
  by_cases e:i=j
  ·subst e
   rw[zB,zA hi]at k1;exact k1
  ·exact i2 i hi (by omega)
theorem zLg {t:List Nd} (h:zAu t=true) (i:Nat) (hi:i<t.length):KidOk t[i] i:=by
 unfold zAu at h;split at h
 ·rename_i o ho
  exact (zZ7 (zD _) ho).2 i hi hi
 ·cases h
theorem yCa {t:List Nd} (h:zAu t=true):0<t.length:=by
 cases t with
 | nil=>simp[zAu,zCa]at h
 | cons=>simp
section
def zC7 (sc:List Ty) (name:ByteArray):List Int:=(List.range sc.length).map fun (i:Nat)=>zCp sc (i:Int) name
theorem zG7 (sc:List Ty) (name:ByteArray):(zC7 sc name).length=sc.length:=by simp[zC7]
theorem zXd {sc:List Ty} {ty:Int} {name:ByteArray} (h:ty<0∨(sc.length:Int)≤ty):zCp sc ty name=-1:=by rw[zCp,if_pos h]
theorem yH6 {sc:List Ty} {name:ByteArray} {l:List Ev} {j:Nat} (hj:j<l.length):zHw l (j:Int) (zC7 sc name)=zEl l[j] (zCp sc l[j].ty name):=by
 rw[yH7 hj];unfold evV zJk;by_cases h:l[j].ty<0∨(sc.length:Int)≤l[j].ty
 ·rw[zXd h]
  have hv:zEl l[j] (-1)=unk:=by simp[zEl]
  rw[hv];rcases h with h|h
  ·simp[h]
  ·have h1:¬l[j].ty<0:=by omega
   have h2:(zC7 sc name)[l[j].ty.toNat]? = none:=zL (by rw[zG7];omega)
   simp[h1,h2]
 ·obtain⟨t,ht⟩:∃t:Nat,l[j].ty=t:=⟨l[j].ty.toNat,by omega⟩
  have h1:¬l[j].ty<0:=by omega
  have h2:(zC7 sc name)[t]? = some (zCp sc t name):=by
   rw[zC7,xJ,zD1 (by omega)];rfl
  have h3:¬(t:Int)<0:=by omega
  simp[ht,h2,h3]
theorem yH5 {l:List Ev} {i:Int} (c:List Int) (h:i<0):zHw l i c=unk:=by unfold zHw;rw[if_pos h]
theorem yDj {l:List Ev} {i:Int} (c:List Int) (h:(l.length:Int)≤i):zHw l i c=unk:=by
 unfold zHw;rw[if_neg (by omega),zL (by omega)]
def zD6 (o:Int):Int:=if o=5 then 4 else if o=11 then 3 else if o=4 then 2 else o-1
def zDa (sc:List Ty) (it:Int) (en:En) (x:Nd) (va vb:V):V :=
 if x.op=1 then wE x.n else if x.op=2 then wE 1 else if x.op=3 then wE 0
 else if x.op≤11 then wG ⟨zD6 x.op,it,0,0,0⟩ (zC7 sc x.attr) en
 else if x.op=12 then zZp va else if x.op=13 then yDm va else zCy x.op va vb
def zXl (l:List V) (i:Int):V:=l.getD i.toNat unk
def zCg (sc:List Ty) (its:List Int) (en:En) (t:List Nd):Nat→List V
 | 0=>[]
 | j+1=>zCg sc its en t j++[zDa sc (its.getD j 0) en (t.getD j nd0) (zXl (zCg sc its en t j) (t.getD j nd0).a) (zXl (zCg sc its en t j) (t.getD j nd0).b)]
section
variable {sc:List Ty} {its:List Int} {en:En} {t:List Nd}
theorem zNz:∀j,(zCg sc its en t j).length=j
 | 0=>rfl
 | j+1=>by simp only[zCg,zR,zNz j,List.length_cons,zAi]
theorem zTg {i:Nat}:∀{j:Nat},i<j→(zCg sc its en t j).getD i unk=(zCg sc its en t (i+1)).getD i unk
 | 0,h=>by omega
 | j+1,h=>by
  by_cases e:i=j
  ·subst e;rfl
  ·have hl:i<(zCg sc its en t j).length:=by rw[zNz];omega
   rw[←zTg (j:=j) (by omega)]
   simp only[zCg,zB,zQ hl]
end
def zCj (sc:List Ty) (its:List Int) (en:En) (t:List Nd) (i:Nat):V:=(zCg sc its en t (i+1)).getD i unk
theorem zN0 {sc:List Ty} {its:List Int} {en:En} {t:List Nd} {i:Nat} (hi:i<t.length):zCj sc its en t i=zDa sc (its.getD i 0) en t[i] (zXl (zCg sc its en t i) t[i].a) (zXl (zCg sc its en t i) t[i].b):=by
 have hg:t.getD i nd0=t[i]:=by rw[zB,zA hi];rfl
 unfold zCj;simp only[zCg,hg];have hl:=zNz (sc:=sc) (its:=its) (en:=en) (t:=t) i;generalize zCg sc its en t i=l at *;rw[zB,yN (by omega),hl,zDr]
 rfl
theorem zOo {sc:List Ty} {its:List Int} {en:En} {t:List Nd} {i:Nat} {a:Int} (h0:0≤a) (h1:a<i):zXl (zCg sc its en t i) a=zCj sc its en t a.toNat:=by
 unfold zXl zCj;exact zTg (by omega)
def zBt (o:Int):Bool:=decide (o=13∨o=25∨o=26)
def zC5 (vs:List ByteArray) (t:List Nd) (x:Nd):Bool :=
 if x.op<4 then true
 else if x.op≤11 then decide (0≤zAn vs x.var)
 else (zAj (t.getD x.a.toNat nd0).op==zBt x.op)&&(decide (x.b<0)||(zAj (t.getD x.b.toNat nd0).op==zBt x.op))
def zMv (vs:List ByteArray) (t:List Nd) (j:Nat):Bool:=(t.take j).all (zC5 vs t)
def zI9 (vs:List ByteArray) (t:List Nd):Bool:=zAu t&&zMv vs t t.length
theorem zZh {vs:List ByteArray} {t:List Nd} {j:Nat} (hj:j<t.length):zMv vs t (j+1)=(zMv vs t j&&zC5 vs t t[j]):=by
 unfold zMv;rw[zFe,zA hj,List.all_append,Option.toList_some];simp
theorem yH8 {vs:List ByteArray} {t:List Nd} {j:Nat} (hj:j<t.length) (h:zC5 vs t t[j]=false):zMv vs t t.length=false:=by
 unfold zMv;rw[xN,zAl];exact⟨t[j],zF hj,by rw[h];simp⟩
def wK (vs:List ByteArray) (x:Nd):Int:=if 4≤x.op∧x.op≤11 then zAn vs x.var else 0
def zFb (sc:List Ty) (vs:List ByteArray) (en:En) (t:List Nd):V:=if zI9 vs t=true then zCj sc (t.map (wK vs)) en t (t.length-1)else unk
end
end Go.Proofs.YtbffkkeieihpdaaGreatDoor
