import Derived.Test.YtbffkkeieihpdaaGreatDoorX25
import Derived.Test.YtbffkkeieihpdaaGreatDoorX21
import Derived.Test.YtbffkkeieihpdaaGreatDoorX22
set_option linter.unusedSimpArgs false
set_option linter.unusedVariables false
set_option linter.constructorNameAsVariable false
set_option maxRecDepth 100000
set_option maxHeartbeats 4000000
namespace Go.Proofs.YtbffkkeieihpdaaGreatDoor
open Go Go.Eng
def GShI:=pureH (de1 rIt) (fun it=>it.types.length<big) fun it=>bv (shIt it)
def tbShI:List (FuncId×(List AV→Heap→PRes)):=[(149,g138)]
section
theorem P151:P0 [3] 151 GShI:=by
 refine mkH 1 (S:=[3]) (l:=tbShI) (tb_cons p138 tb_nil) Tryz.func151 rfl (by kernel_rfl) de1_mono de1_len (fun a=>rfl) (fun args it h n e hp hn => ?_)
 obtain⟨x,rfl,e1⟩:=de1_out e
 obtain⟨ty,rfl,e6⟩:=rIt_out e1
 obtain⟨u1,u2,u3,u4,u5⟩:=sl_is e6
 have key:∀e:Nat→AV,e 0=.g [bv it.neg,ty,ss it.var,ii it.lo,ii it.hi]→awp (cx [3] (pfL tbShI)) (Tryz.f151.body.getD .skip) (finQ (cx [3] (pfL tbShI)) Tryz.f151 fun z _ _=>z=bv (shIt it)) ⟨e,roH h,n⟩:=fun e q0=>by
  by_cases hb:it.types.length≠0∧isNameS it.var=true∧0≤it.lo∧0≤it.hi
  ·obtain⟨b1,b2,b3,b4⟩:=hb
   have hS:shIt it=(it.types.all isNameS&&(!it.neg||(decide (it.lo=1)&&decide (it.hi=1)))):=by
    simp[shIt,b1,b2,b3,b4]
   refine awp_cut 2 _ _ (R:=fun s=>s.e 1=.p n 0 0∧agree n (roH h) s.h∧s.h n=some ⟨[bv it.neg,ty,ss it.var,ii it.lo,ii it.hi],0,true,5⟩) ?_ fun y1 h1 n1 hh => ?_
   ·have c3:¬it.lo<0:=by omega
    have c4:¬it.hi<0:=by omega
    simp[evx,hdC,Tryz.f151,q0,ii,ss,bv,u1,u2,u4,b1,tbShI,g138,pure1,deS,b2,c3,c4]
    simp[agree_up,agree_refl]
   obtain⟨q1,hag,hb0⟩:=hh
   simp only[]at q1 hag hb0
   refine awp_cut 1 _ _ (R:=fun s=>it.types.all isNameS=true∧s.e 1=.p n 0 0∧s.h n=some ⟨[bv it.neg,ty,ss it.var,ii it.lo,ii it.hi],0,true,5⟩) ?_ fun y2 h2 n2 hh2 => ?_
   ·simp[evx,hdC,tlC,Tryz.f151,q1,hb0,ii,ss,bv,u1,u2]
    refine awp_loop (fun s=>∃j:Nat,j≤it.types.length∧s.e 1=.p n 0 0∧s.e 26=ty∧s.e 27=ii it.types.length∧s.e 28=ii j∧agree n (roH h) s.h∧s.h n=some ⟨[bv it.neg,ty,ss it.var,ii it.lo,ii it.hi],0,true,5⟩∧∀i,i<j→isNameS (it.types.getD i ByteArray.empty)=true) (fun s=>it.types.length-(s.e 28).i.toNat) ⟨0,by omega,by simp[up,q1],by simp[up],by simp[up,ii],by simp[up,ii],hag,hb0,by omega⟩ ?_
    rintro e' h' n' ⟨j,hj,q1,q26,q27,q28,hag,hb0,hno⟩
    simp only[]at q1 q26 q27 q28 hag hb0
    by_cases hlt:j<it.types.length
    ·obtain⟨id,off,k,rfl,hk,ho,hat⟩:=ss_getD e6 hlt
     have ha':=agree_at hn hk hag
     have hw:=wrap_nat (j:=j) (by omega)
     have hw1:off+(j+1)≤k.cells.length:=by omega
     have hmiss:=fun hy=>upTo_succ (p:=fun i=>isNameS (it.types.getD i ByteArray.empty)=true) hno hy
     have hhit:isNameS (it.types.getD j ByteArray.empty)=false→shIt it=false:=fun hy=>by
      rw[hS,allG_no (d:=ByteArray.empty) hlt hy];rfl
     generalize it.types.getD j ByteArray.empty=y at *
     cases hy:isNameS y with
     | false =>
      have h1:=hhit hy
      simp[evx,q26,q27,q28,ii,ss,bv,hlt,ha',hat,hw1,tbShI,g138,pure1,deS,hy,h1]
     | true =>
      have h1:=hmiss hy
      simp[evx,q1,q26,q27,q28,ii,ss,bv,hlt,ha',hat,hw1,tbShI,g138,pure1,deS,hy,hw,hag]
      exact⟨⟨j+1,by omega,by omega,by simpa[ii,ss,bv]using hb0,fun i hi=>by have:=h1 i hi;simpa using this⟩,by omega⟩
    ·obtain rfl:j=it.types.length:=by omega
     simp[evx,q1,q27,q28,ii]
     exact⟨fun x hx=>List.all_eq_true.1 ((all_getD ByteArray.empty).2 hno) x hx,hb0⟩
   ·obtain⟨hall,q1,hb0⟩:=hh2
    simp only[]at q1 hb0
    rw[hall,Bool.true_and]at hS
    obtain⟨neg,types,var,lo,hi⟩:=it
    simp only[ii,ss,bv]at hb0 hS
    generalize shIt ⟨neg,types,var,lo,hi⟩=sb at *
    cases neg with
    | false=>simp[evx,tlC,Tryz.f151,q1,hb0,bv,hS]
    | true =>
     by_cases c1:lo=1<;>by_cases c2:hi=1<;>simp[evx,tlC,Tryz.f151,q1,hb0,bv,hS,c1,c2]
  ·have hS:shIt it=false:=by
    cases hx:shIt it with
    | false=>rfl
    | true =>
     simp only[shIt,Bool.and_eq_true,decide_eq_true_eq]at hx
     exact absurd ⟨hx.1.1.1.1.1,hx.1.1.1.1.2,hx.1.1.1.2,hx.1.1.2⟩ hb
   by_cases b1:it.types.length=0
   ·simp[evx,Tryz.f151,q0,ii,ss,bv,u1,u2,u4,b1,tbShI,g138,pure1,deS,hS]
   ·cases b2:isNameS it.var with
    | false=>simp[evx,Tryz.f151,q0,ii,ss,bv,u1,u2,u4,b1,tbShI,g138,pure1,deS,b2,hS]
    | true =>
     by_cases b3:it.lo<0
     ·simp[evx,Tryz.f151,q0,ii,ss,bv,u1,u2,u4,b1,tbShI,g138,pure1,deS,b2,b3,hS]
     ·have b4:it.hi<0:=by
       apply Classical.byContradiction
       intro b4
       exact hb ⟨b1,b2,by omega,by omega⟩
      simp[evx,Tryz.f151,q0,ii,ss,bv,u1,u2,u4,b1,tbShI,g138,pure1,deS,b2,b3,b4,hS]
 exact key _ rfl
def GShQ:=pureH (de1 rQ) QuSm fun q=>bv (shQ q)
def tbShQ:List (FuncId×(List AV→Heap→PRes)):=[(149,g138),(151,GShI),(79,G70)]
theorem P100:P0 [3] 100 GShQ:=by
 refine mkH 1 (S:=[3]) (l:=tbShQ) (tb_cons p138 (tb_cons P151 (tb_cons P70 tb_nil))) Tryz.func100 rfl (by kernel_rfl) de1_mono de1_len (fun a=>rfl) (fun args q h n e hq hn => ?_)
 obtain⟨x,rfl,e1⟩:=de1_out e
 have e2:deQ h x=some q:=e1
 obtain⟨a,b,c,rfl,x2,x3,x4⟩:=deQ_out e2
 obtain⟨s1,s2,s3,s4,s5⟩:=sl_is x2
 obtain⟨w1,w2,w3,w4,w5⟩:=sl_is x3
 obtain⟨r1,r2,r3,r4,r5⟩:=sl_is x4
 have g3:=rd_agree hn x3
 have hwh:=hq.wh
 have key:∀e:Nat→AV,e 0=.g [a,ii q.mode,ii q.after,b,ii q.within,ss q.par,c]→awp (cx [3] (pfL tbShQ)) (Tryz.f100.body.getD .skip) (finQ (cx [3] (pfL tbShQ)) Tryz.f100 fun z _ _=>z=bv (shQ q)) ⟨e,roH h,n⟩:=fun e q0=>by
  by_cases hb:q.items.length≠0∧(0≤q.mode∧q.mode≤2)∧(0≤q.after∧q.after≤3)∧0≤q.within
  ·obtain⟨b1,⟨b2,b3⟩,⟨b4,b5⟩,b6⟩:=hb
   have hS:shQ q=(q.items.all shIt&&(decide (q.wh.length=0)||tree1 q.wh)&&(emB q.par||isNameS q.par)&&q.ret.all tree1):=by
    simp[shQ,b1,b2,b3,b4,b5,b6]
   refine awp_cut 2 _ _ (R:=fun s=>s.e 1=.p n 0 0∧agree n (roH h) s.h∧n+1≤s.n∧s.h n=some ⟨[a,ii q.mode,ii q.after,b,ii q.within,ss q.par,c],0,true,7⟩) ?_ fun y1 h1 n1 hh => ?_
   ·have c2:¬q.mode<0:=by omega
    have c3:¬2<q.mode:=by omega
    have c4:¬q.after<0:=by omega
    have c5:¬3<q.after:=by omega
    have c6:¬q.within<0:=by omega
    simp[evx,hdC,Tryz.f100,q0,ii,ss,bv,s1,s2,s4,w4,r4,b1,c2,c3,c4,c5,c6]
    simp[agree_up,agree_refl]
   obtain⟨q1,hag,hnn,hb0⟩:=hh
   simp only[]at q1 hag hnn hb0
   refine awp_cut 1 _ _ (R:=fun s=>q.items.all shIt=true∧s.e 1=.p n 0 0∧agree n (roH h) s.h∧s.h n=some ⟨[a,ii q.mode,ii q.after,b,ii q.within,ss q.par,c],0,true,7⟩) ?_ fun y2 h2 n2 hh2 => ?_
   ·simp[evx,hdC,tlC,Tryz.f100,q1,hb0,ii,ss,bv,s1,s2]
    refine awp_loop (fun s=>∃j:Nat,j≤q.items.length∧s.e 1=.p n 0 0∧s.e 37=a∧s.e 38=ii q.items.length∧s.e 39=ii j∧agree n (roH h) s.h∧n+1≤s.n∧s.h n=some ⟨[a,ii q.mode,ii q.after,b,ii q.within,ss q.par,c],0,true,7⟩∧∀i,i<j→shIt (q.items.getD i it0)=true) (fun s=>q.items.length-(s.e 39).i.toNat) ⟨0,by omega,by simp[up,q1],by simp[up],by simp[up,ii],by simp[up,ii],hag,hnn,hb0,by omega⟩ ?_
    rintro e' h' n' ⟨j,hj,q1,q37,q38,q39,hag,hnn,hb0,hno⟩
    simp only[]at q1 q37 q38 q39 hag hnn hb0
    by_cases hlt:j<q.items.length
    ·obtain⟨id,off,k,ty,rfl,hk,ho,c0,c1,c2,c3,c4,e6⟩:=its_getD x2 hlt
     have ha':=agree_at hn hk hag
     have hqb:=hq.it
     have hw:=wrap_nat (j:=j) (by omega)
     have hw1:off+(j*5+5)≤k.cells.length:=by omega
     have hty:=hq.ty j hlt
     have hmiss:=fun hy=>upTo_succ (p:=fun i=>shIt (q.items.getD i it0)=true) hno hy
     have hhit:shIt (q.items.getD j it0)=false→shQ q=false:=fun hy=>by rw[hS,allG_no (d:=it0) hlt hy];simp
     have u3:=(sl_is e6).2.2.1
     have u4:=(sl_is e6).2.2.2.1
     have g6:=rd_agree hn e6
     generalize q.items.getD j it0=it at *
     obtain⟨ng,types,var,lo,hi⟩:=it
     simp only[]at c0 c1 c2 c3 c4 e6 hty g6 hmiss hhit
     simp only[ii,ss,bv]at c0 c1 c2 c3 c4 hb0
     have z0:¬n=n':=by omega
     have z2:¬id=n':=by have:=lt_of hk hn;omega
     have hag2:∀b1 b2,agree n (roH h) (up (up h' n' b1) n' b2):=fun b1 b2=>by simp[agree_up,show n≤n' by omega,hag]
     cases hy:shIt ⟨ng,types,var,lo,hi⟩with
     | false =>
      have h2:=hhit hy
      simp[evx,q37,q38,q39,ii,ss,bv,hlt,ha',c0,c1,c2,c3,c4,hw1,u4,tbShQ,GShI,pureH,de1,rIt,rG,dIt,deItc,g6,hag2,hty,hy,h2]
     | true =>
      have h2:=hmiss hy
      simp[evx,q1,q37,q38,q39,ii,ss,bv,hlt,ha',c0,c1,c2,c3,c4,hw1,hb0,u4,z0,tbShQ,GShI,pureH,de1,rIt,rG,dIt,deItc,g6,hag2,hty,hy,hw]
      exact⟨⟨j+1,by omega,by omega,by omega,fun i hi=>by have:=h2 i hi;simpa using this⟩,by omega⟩
    ·obtain rfl:j=q.items.length:=by omega
     simp[evx,q1,q38,q39,ii]
     exact⟨fun x hx=>List.all_eq_true.1 ((all_getD it0).2 hno) x hx,hag,by simpa[ii,ss]using hb0⟩
   obtain⟨hall,q1,hag,hb0⟩:=hh2
   simp only[]at q1 hag hb0
   rw[hall,Bool.true_and]at hS
   by_cases hc:(q.wh.length=0∨tree1 q.wh=true)∧(emB q.par=true∨isNameS q.par=true)
   ·obtain⟨hc1,hc2⟩:=hc
    have hS2:shQ q=q.ret.all tree1:=by
     rw[hS]
     have h1:(decide (q.wh.length=0)||tree1 q.wh)=true:=by simpa using hc1
     have h2:(emB q.par||isNameS q.par)=true:=by simpa using hc2
     rw[h1,h2];rfl
    refine awp_cut 1 _ _ (R:=fun s=>s.e 1=.p n 0 0∧agree n (roH h) s.h∧s.h n=some ⟨[a,ii q.mode,ii q.after,b,ii q.within,ss q.par,c],0,true,7⟩) ?_ fun y3 h3 n3 hh3 => ?_
    ·have hem:(q.par==ByteArray.mk #[])=emB q.par:=rfl
     have hem2:(q.par != ByteArray.mk #[]) = !emB q.par:=rfl
     by_cases d1:q.wh.length=0
     ·cases d2:emB q.par with
      | true =>
       simp[evx,hdC,tlC,Tryz.f100,q1,hb0,ii,ss,bv,w1,w2,d1,hem2,d2,tbShQ,g138,G70,pureH,deT,pure1,deS]
       exact hag
      | false =>
       have d3:=hc2.resolve_left (by rw[d2];simp)
       simp[evx,hdC,tlC,Tryz.f100,q1,hb0,ii,ss,bv,w1,w2,d1,hem2,d2,d3,tbShQ,g138,G70,pureH,deT,pure1,deS]
       exact hag
     ·have d1':0<q.wh.length:=by omega
      have d4:=hc1.resolve_left d1
      cases d2:emB q.par with
      | true =>
       simp[evx,hdC,tlC,Tryz.f100,q1,hb0,ii,ss,bv,w1,w2,d1',d4,g3,hag,hwh,hem2,d2,tbShQ,g138,G70,pureH,deT,pure1,deS]
      | false =>
       have d3:=hc2.resolve_left (by rw[d2];simp)
       simp[evx,hdC,tlC,Tryz.f100,q1,hb0,ii,ss,bv,w1,w2,d1',d4,g3,hag,hwh,hem2,d2,d3,tbShQ,g138,G70,pureH,deT,pure1,deS]
    obtain⟨q1,hag,hb0⟩:=hh3
    simp only[]at q1 hag hb0
    simp[evx,tlC,Tryz.f100,q1,hb0,ii,ss,bv,r1,r2]
    refine awp_loop (fun s=>∃j:Nat,j≤q.ret.length∧s.e 69=c∧s.e 70=ii q.ret.length∧s.e 71=ii j∧agree n (roH h) s.h∧∀i,i<j→tree1 (q.ret.getD i [])=true) (fun s=>q.ret.length-(s.e 71).i.toNat) ⟨0,by omega,by simp[up],by simp[up,ii],by simp[up,ii],hag,by omega⟩ ?_
    rintro e' h' n' ⟨j,hj,q69,q70,q71,hag,hno⟩
    simp only[]at q69 q70 q71 hag
    have hrl:=hq.rl
    by_cases hlt:j<q.ret.length
    ·rcases sls_at x4 with ⟨h0,_⟩|⟨id,off,k,rfl,hk,ho,hat⟩
     ·rw[h0]at hlt;simp at hlt
     obtain⟨c',hc',hcr⟩:=hat j hlt
     have hg:q.ret.getD j []=q.ret[j]:=by rw[List.getD_eq_getElem?_getD,List.getElem?_eq_getElem hlt];rfl
     have u3:=(sl_is hcr).2.2.1
     have gr:∀h',agree n (roH h) h'→rd dNs h' c'=some q.ret[j]:=rd_agree hn hcr
     have ha':=agree_at hn hk hag
     have hw:=wrap_nat (j:=j) (by omega)
     have hw1:off+(j+1)≤k.cells.length:=by omega
     have hsm:=hq.rt j hlt
     have hmiss:=fun hy=>upTo_succ (p:=fun i=>tree1 (q.ret.getD i [])=true) hno hy
     have hhit:tree1 (q.ret.getD j [])=false→shQ q=false:=fun hy=>by rw[hS2,allG_no (d:=[]) hlt hy]
     rw[←hg]at gr
     generalize q.ret.getD j []=t at *
     cases hy:tree1 t with
     | false =>
      have h2:=hhit hy
      simp[evx,q69,q70,q71,ii,bv,hlt,ha',hc',hw1,tbShQ,G70,pureH,deT,gr,hag,hsm,hy,h2]
     | true =>
      have h2:=hmiss hy
      simp[evx,q69,q70,q71,ii,bv,hlt,ha',hc',hw1,tbShQ,G70,pureH,deT,gr,hag,hsm,hy,hw]
      exact⟨⟨j+1,by omega,by omega,fun i hi=>by have:=h2 i hi;simpa using this⟩,by omega⟩
    ·obtain rfl:j=q.ret.length:=by omega
     have h2:shQ q=true:=by rw[hS2];exact (all_getD []).2 hno
     simp[evx,q70,q71,ii,h2]
   ·have hS2:shQ q=false:=by
     rw[hS]
     cases h1:(decide (q.wh.length=0)||tree1 q.wh)with
     | false=>rfl
     | true =>
      cases h2:(emB q.par||isNameS q.par)with
      | false=>simp
      | true=>exact absurd ⟨by simpa using h1,by simpa using h2⟩ hc
    have hem2:(q.par != ByteArray.mk #[]) = !emB q.par:=rfl
    by_cases d:q.wh.length=0∨tree1 q.wh=true
    ·have d2:emB q.par=false:=by
      cases h1:emB q.par with
      | false=>rfl
      | true=>exact absurd ⟨d,.inl h1⟩ hc
     have d3:isNameS q.par=false:=by
      cases h1:isNameS q.par with
      | false=>rfl
      | true=>exact absurd ⟨d,.inr h1⟩ hc
     by_cases d1:q.wh.length=0
     ·simp[evx,tlC,Tryz.f100,q1,hb0,ii,ss,bv,w1,w2,d1,hem2,d2,d3,tbShQ,g138,G70,pureH,deT,pure1,deS,hS2]
     ·have d1':0<q.wh.length:=by omega
      have d4:=d.resolve_left d1
      simp[evx,tlC,Tryz.f100,q1,hb0,ii,ss,bv,w1,w2,d1',d4,g3,hag,hwh,hem2,d2,d3,tbShQ,g138,G70,pureH,deT,pure1,deS,hS2]
    ·have d1':0<q.wh.length:=by omega
     have d4:tree1 q.wh=false:=by
      cases h1:tree1 q.wh with
      | false=>rfl
      | true=>exact absurd (.inr h1) d
     simp[evx,tlC,Tryz.f100,q1,hb0,ii,ss,bv,w1,w2,d1',d4,g3,hag,hwh,tbShQ,g138,G70,pureH,deT,pure1,deS,hS2]
  ·have hS:shQ q=false:=by
    cases hx:shQ q with
    | false=>rfl
    | true =>
     simp only[shQ,Bool.and_eq_true,decide_eq_true_eq]at hx
     exact absurd ⟨hx.1.1.1.1.1.1.1,hx.1.1.1.1.1.1.2,hx.1.1.1.1.1.2,hx.1.1.1.1.2⟩ hb
   by_cases b1:q.items.length=0
   ·simp[evx,Tryz.f100,q0,ii,ss,bv,s1,s2,s4,w4,r4,b1,hS]
   by_cases b2:q.mode<0
   ·simp[evx,Tryz.f100,q0,ii,ss,bv,s1,s2,s4,w4,r4,b1,b2,hS]
   by_cases b3:2<q.mode
   ·simp[evx,Tryz.f100,q0,ii,ss,bv,s1,s2,s4,w4,r4,b1,b2,b3,hS]
   by_cases b4:q.after<0
   ·simp[evx,Tryz.f100,q0,ii,ss,bv,s1,s2,s4,w4,r4,b1,b2,b3,b4,hS]
   by_cases b5:3<q.after
   ·simp[evx,Tryz.f100,q0,ii,ss,bv,s1,s2,s4,w4,r4,b1,b2,b3,b4,b5,hS]
   have b6:q.within<0:=by
    apply Classical.byContradiction
    intro b6
    exact hb ⟨b1,by omega,by omega,by omega⟩
   simp[evx,Tryz.f100,q0,ii,ss,bv,s1,s2,s4,w4,r4,b1,b2,b3,b4,b5,b6,hS]
 exact key _ rfl
end
theorem map_flat (l:List Int):l.map ii=l.flatMap fun x=>[ii x]:=by
 induction l with
 | nil=>rfl
 | cons x l ih=>simp[ih]
def ISl (h:Heap) (z:AV) (l:List Int) (lo hi:Nat):Prop :=
 (l=[]∧z=.v (.slice none 0 0))∨∃w u,z=.s w u 0 l.length∧h w=some ⟨l.map ii,u,true,1⟩∧lo≤w∧w<hi∧0<l.length
theorem ISl.rd {h:Heap} {z:AV} {l:List Int} {lo hi:Nat} (k:ISl h z l lo hi):rd dIs h z=some l:=by
 rcases k with ⟨rfl,rfl⟩|⟨w,u,rfl,hw,_⟩
 ·rfl
 ·exact flat_in Flat.int (l:=l) hw rfl (r:=[]) (by simp[map_flat])
theorem ISl.nz {h:Heap} {z:AV} {l:List Int} {lo hi:Nat} (k:ISl h z l lo hi):z=.v (.slice none 0 0)∨0<l.length:=by
 rcases k with ⟨_,h⟩|⟨_,_,_,_,_,_,h⟩
 ·exact .inl h
 ·exact .inr h
theorem ISl.up {h h':Heap} {z:AV} {l:List Int} {lo hi:Nat} (k:ISl h z l lo hi) (hh:∀q,lo≤q→q<hi→h' q=h q):ISl h' z l lo hi:=by
 rcases k with h0|⟨w,u,h1,h2,h3,h4,h5⟩
 ·exact .inl h0
 ·exact .inr ⟨w,u,h1,by rw[hh w h3 h4];exact h2,h3,h4,h5⟩
def posTo (f:Int→Int) (j:Nat):List Int:=((List.range j).map fun i:Nat=>(i:Int)).filter fun i=>decide (0<f i)
theorem posTo_succ (f:Int→Int) (j:Nat):posTo f (j+1)=posTo f j++if 0<f (j:Int)then [(j:Int)]else []:=by
 simp only[posTo,List.range_succ,List.map_append,List.filter_append,List.map_cons,List.map_nil]
 congr 1
 by_cases h:0<f (j:Int)<;>simp[h]
theorem posTo_len (f:Int→Int) (j:Nat):(posTo f j).length≤j:=by
 refine Nat.le_trans (List.length_filter_le _ _) (by simp)
theorem c87 {h:Heap} {n m b:Nat} {cs:List AV} {f:Int→Int} {a x3 x6:AV} {q:Qu} (hm:h m=some ⟨cs,0,true,0⟩) (hI:isI f cs) (hb:h b=some ⟨[a,ii q.mode,ii q.after,x3,ii q.within,ss q.par,x6],0,true,7⟩)
  (e2:rd dIts h a=some q.items) (hq:q.items.length*64≤140737488355328) (hn:Fresh n h) :
  ACall (cx [] (pfL [])) 97 [.mv m 0,.p b 0 0] h n fun z h' n'=>agree n h h'∧Fresh n' h'∧n≤n'∧ISl h' z (posTo f q.items.length) n n':=by
 refine acall_of_awp (args:=[.mv m 0,.p b 0 0]) (pfL_ok tb_nil) (mixed _ _) Tryz.func97 (c:=Tryz.f97.body.getD .skip) rfl (by kernel_rfl) (callable Tryz.func97 rfl rfl _ _) (show 2≤Tryz.f97.ntmps by decide +kernel) ?_
 obtain⟨s1,s2,s3,s4,s5⟩:=sl_is e2
 have hmn:m<n:=lt_of hm hn
 have hbn:b<n:=lt_of hb hn
 have hok:=hI.1
 have key:∀e:Nat→AV,e 0=.mv m 0→e 1=.p b 0 0→awp (cx [] (pfL [])) (Tryz.f97.body.getD .skip) (finQ (cx [] (pfL [])) Tryz.f97 fun z h' n'=>agree n h h'∧Fresh n' h'∧n≤n'∧ISl h' z (posTo f q.items.length) n n') ⟨e,h,n⟩:=fun e q0 q1=>by
  simp[evx,Tryz.f97,q1,hb,s1,s2]
  refine awp_loop (fun s=>∃j:Nat,j≤q.items.length∧s.e 0=.mv m 0∧s.e 8=ii q.items.length∧s.e 9=ii j∧ISl s.h (s.e 4) (posTo f j) n s.n∧agree n h s.h∧Fresh s.n s.h∧n≤s.n) (fun s=>q.items.length-(s.e 9).i.toNat) ⟨0,by omega,by simp[up,q0],by simp[up,ii],by simp[up,ii],.inl ⟨rfl,by simp[up]⟩,by simp[agree_refl],hn,by simp⟩ ?_
  rintro e' h' n' ⟨j,hj,q0,q8,q9,hl,hag,hfr,hnn⟩
  simp only[]at q0 q8 q9 hl hag hfr hnn
  by_cases hlt:j<q.items.length
  ·have hm':h' m=some ⟨cs,0,true,0⟩:=by rw[hag m hmn];exact hm
   have hlt':(j:Int)<(q.items.length:Int):=by omega
   have hjw:=wrap_nat (j:=j) (by unfold big;omega)
   have hf:=hI.2 (j:Int)
   have hps:=posTo_succ f j
   have hpl:=posTo_len f j
   simp only[ii]at hf
   by_cases hp:0<f (j:Int)
   ·rw[if_pos hp]at hps
    generalize posTo f j=l at *
    obtain⟨z4,q4⟩:∃x,e' 4=x:=⟨_,rfl⟩
    rw[q4]at hl
    have b1:(l.length+1)*8≤140737488355328:=by omega
    have b2:l.length≤9223372036854775806:=by omega
    rcases hl with ⟨rfl,rfl⟩|⟨w,u,rfl,hw,hw1,hw2⟩
    ·simp[evx,q0,q4,q8,q9,ii,hlt',hm',hok,hf,hp,hjw]
     refine⟨⟨j+1,by omega,by omega,.inr ⟨n'+1,0,by simp[hps],?_,by omega,by omega,by rw[hps];simp⟩,?_,?_,by omega⟩,by omega⟩
     ·simp[hps,ii,up_same]
     ·exact fun q hq=>by rw[up_ne _ _ (by omega),up_ne _ _ (by omega),hag q hq]
     ·simp[fresh_up,hfr.add]
    ·have z1:¬w=n':=by omega
     have z2:w<n'+2:=by omega
     simp[evx,q0,q4,q8,q9,ii,hlt',hm',hok,hf,hp,hjw,hw,z1,b1,b2]
     refine⟨⟨j+1,by omega,by omega,.inr ⟨w,u+1,by simp[hps],?_,by omega,by omega,by rw[hps];simp⟩,?_,?_,by omega⟩,by omega⟩
     ·simp[hps,ii,up_same]
     ·exact fun q hq=>by rw[up_ne _ _ (by omega),up_ne _ _ (by omega),hag q hq]
     ·simp[fresh_up,hfr.add,z2]
   ·rw[if_neg hp,List.append_nil]at hps
    simp[evx,q0,q8,q9,ii,hlt',hm',hok,hf,hp,hjw]
    exact⟨⟨j+1,by omega,by omega,by rw[hps];exact hl,hag,hfr,hnn⟩,by omega⟩
  ·obtain rfl:j=q.items.length:=by omega
   obtain⟨z4,q4⟩:∃x,e' 4=x:=⟨_,rfl⟩
   rw[q4]at hl
   simp[evx,q4,q8,q9,ii]
   exact⟨hag,hfr,hnn,hl⟩
 exact key _ rfl rfl
section
def g85:=pure1 deI fun o=>bv (bareO o)
def g86:=pure1 deI fun o=>bv (aggO o)
theorem p85:P0 [] 95 g85:=by
 refine mk1 (S:=[]) tb_nil Tryz.func95 rfl (by kernel_rfl) ii (fun x a h=>deI_out h) (fun a=>rfl) (fun o h n => ?_)
 have hc:o=4∨o=11∨(o≠4∧o≠11):=by omega
 rcases hc with rfl|rfl|⟨h1,h2⟩
 ·simp[evv,ii,bv,bareO]
 ·simp[evv,ii,bv,bareO]
 ·simp[evv,ii,bv,bareO,h1,h2]
theorem p86:P0 [] 96 g86:=by
 refine mk1 (S:=[]) tb_nil Tryz.func96 rfl (by kernel_rfl) ii (fun x a h=>deI_out h) (fun a=>rfl) (fun o h n => ?_)
 by_cases h1:5≤o
 ·by_cases h2:o≤10<;>simp[evv,ii,bv,aggO,h1,h2]
 ·simp[evv,ii,bv,aggO,h1]
def cntU (p:Int→Bool) (vs:List ByteArray) (t:List Nd) (i:Int):Int:=((t.filter fun x=>p x.op&&decide (ixM vs x.var=some i)).length:Nat)
theorem cntU_add (p:Int→Bool) (vs:List ByteArray) (t:List Nd) (x:Nd) (i:Int):cntU p vs (t++[x]) i=cntU p vs t i+if p x.op=true∧ixM vs x.var=some i then 1 else 0:=by
 unfold cntU
 rw[List.filter_append,List.length_append]
 by_cases h1:p x.op=true<;>by_cases h2:ixM vs x.var=some i<;>simp[h1,h2]
theorem cntU_no {p:Int→Bool} {vs:List ByteArray} {t:List Nd} {x:Nd} (h:p x.op=false∨ixM vs x.var=none):cntU p vs (t++[x])=cntU p vs t:=by
 funext i
 rw[cntU_add,if_neg (fun e=>by rcases h with h|h<;>simp[h]at e),Int.add_zero]
theorem cntU_yes {p:Int→Bool} {vs:List ByteArray} {t:List Nd} {x:Nd} {i:Int} (h:p x.op=true) (h2:ixM vs x.var=some i):cntU p vs (t++[x])=fun z=>if z=i then cntU p vs t i+1 else cntU p vs t z:=by
 funext z
 rw[cntU_add]
 by_cases hz:z=i
 ·subst hz;rw[if_pos ⟨h,h2⟩,if_pos rfl]
 ·rw[if_neg (fun e=>hz (by rw[h2]at e;exact (Option.some.inj e.2).symm)),if_neg hz,Int.add_zero]
theorem cntU_bd (p:Int→Bool) (vs:List ByteArray) (t:List Nd) (i:Int):0≤cntU p vs t i∧cntU p vs t i≤t.length:=by
 unfold cntU
 have:=List.length_filter_le (fun x:Nd=>p x.op&&decide (ixM vs x.var=some i)) t
 omega
theorem posTo_uses (p:Int→Bool) (vs:List ByteArray) (t:List Nd):posTo (cntU p vs t) vs.length=usesL p vs t:=by
 unfold posTo usesL
 refine List.filter_congr fun i hi => ?_
 obtain⟨j,_,rfl⟩:=List.mem_map.1 hi
 have key:∀x:Nd,(ixM vs x.var=some (j:Int))↔ixOf vs x.var=(j:Int):=fun x=>by
  unfold ixM
  constructor
  ·intro h
   split at h
   ·exact Option.some.inj h
   ·cases h
  ·intro h
   rw[if_pos (by omega),h]
 unfold cntU usesN
 simp only[key]
 rw[Bool.eq_iff_iff,decide_eq_true_eq,List.any_eq_true]
 constructor
 ·intro h
  have h':0<(t.filter fun x=>p x.op&&decide (ixOf vs x.var=(j:Int))).length:=by omega
  obtain⟨x,hx⟩:=List.exists_mem_of_length_pos h'
  exact⟨x,(List.mem_filter.1 hx).1,(List.mem_filter.1 hx).2⟩
 ·rintro⟨x,hx,hp⟩
  have:=List.length_pos_of_mem (List.mem_filter (p:=fun x=>p x.op&&decide (ixOf vs x.var=(j:Int))).2 ⟨hx,hp⟩)
  omega
def tb49:List (FuncId×(List AV→Heap→PRes)):=[(95,g85),(96,g86)]
structure A49 (h0:Heap) (n:Nat) (qc:List AV) (ta:AV) (q:Qu) (t:List Nd) (j:Nat) (s:St):Prop where
 q2:s.e 2=.p n 0 0
 q4:s.e 4=.p (n+1) 0 0
 hq:s.h n=some ⟨qc,0,true,7⟩
 hz:s.h (n+1)=some ⟨[.v (.slice none 0 0),.v (.slice none 0 0),.v (.slice none 0 0)],0,true,3⟩
 ag:agree n h0 s.h
 fr:Fresh s.n s.h
 m:∃m cs,s.e 5=.mv m 0∧s.h m=some ⟨cs,0,true,0⟩∧isM (ixM (vars q.items)) cs∧n+2≤m∧∃b c1 c2 c3,m<b∧b+2<s.n∧s.e 6=.mv b 0∧s.e 7=.mv (b+1) 0∧s.e 8=.mv (b+2) 0∧
  s.h b=some ⟨c1,0,true,0⟩∧isI (cntU bareO (vars q.items) (t.take j)) c1∧s.h (b+1)=some ⟨c2,0,true,0⟩∧isI (cntU prevO (vars q.items) (t.take j)) c2∧s.h (b+2)=some ⟨c3,0,true,0⟩∧isI (cntU aggO (vars q.items) (t.take j)) c3
section
variable {h:Heap} {n:Nat} {qx ta:AV} {q:Qu} {t:List Nd}
theorem c49a {a b c:AV} (x2:rd dIts h a=some q.items) (x3:rd dNs h b=some q.wh) (x4:rd dNss h c=some q.ret) (e3:rd dNs h ta=some t) (hq:q.items.length<big) (hn:Fresh n h) (e:Nat→AV) (q0:e 0=.g [a,ii q.mode,ii q.after,b,ii q.within,ss q.par,c]) (q1:e 1=ta) {Q:Ex→St→Prop} :
  awp (cx [] (pfL tb49)) (hdC 3 (Tryz.f47.body.getD .skip)) (thenQ (fun s=>A49 h n [a,ii q.mode,ii q.after,b,ii q.within,ss q.par,c] ta q t 0 s∧s.e 1=ta) Q) ⟨e,h,n⟩:=by
 obtain⟨s1,s2,s3,s4,s5⟩:=sl_is e3
 have o1:=(sl_is x2).2.2.2.1
 have o2:=(sl_is x3).2.2.2.1
 have o3:=(sl_is x4).2.2.2.1
 simp[evx,hdC,Tryz.f47,q0,q1,ii,ss,o1,o2,o3,tb49]
 have hag:∀b1 b2:Option Blk,agree n h (up (up h n b1) (n+1) b2):=fun b1 b2=>by simp[agree_up,agree_refl]
 have hfr:∀b1 b2:Option Blk,Fresh (n+2) (up (up h n b1) (n+1) b2):=fun b1 b2=>by simp[fresh_up,hn.add]
 have hdq:∀h',agree n h h'→deQ h' (.g [a,.v (.int .i64 q.mode),.v (.int .i64 q.after),b,.v (.int .i64 q.within),.v (.string q.par),c])=some q:=fun h' ha=>deQ_sim (agr_sim hn ha) (deQ_in x2 x3 x4)
 refine (acall_any (S:=[]) (by simp) (c84 (hdq _ (hag _ _)) hq (hfr _ _))).mono ?_
 rintro z h2 n2 ⟨a1,a2,a3,m,cs,rfl,hm,hM,m1,m2⟩
 have z1:¬n=n2:=by omega
 have k0:h2 n=some ⟨[a,ii q.mode,ii q.after,b,ii q.within,ss q.par,c],0,true,7⟩:=by rw[a1 n (by omega)];simp[up,ii,ss]
 have k1:h2 (n+1)=some ⟨[.v (.slice none 0 0),.v (.slice none 0 0),.v (.slice none 0 0)],0,true,3⟩:=by rw[a1 (n+1) (by omega)];simp[up]
 have hup:∀(b1 b2 b3:Option Blk) (i:Nat),i<n2→up (up (up h2 n2 b1) (n2+1) b2) (n2+2) b3 i=h2 i:=fun b1 b2 b3 i hi=>by rw[up_ne _ _ (by omega),up_ne _ _ (by omega),up_ne _ _ (by omega)]
 refine⟨by simp[up],by simp[up],(hup _ _ _ _ (by omega)).trans k0,(hup _ _ _ _ (by omega)).trans k1,?_,by simp[fresh_up,a2.add],m,cs,by simp[up],(hup _ _ _ _ m2).trans hm,hM,m1,n2,[],[],[],m2,by simp,by simp[up],by simp[up],by simp[up],by simp[up],isI_nil,by simp[up],isI_nil,by simp[up],isI_nil⟩
 exact fun i hi=>(hup _ _ _ i (by omega)).trans (by rw[a1 i (by omega)];exact hag _ _ i hi)
theorem wrap_cnt (p:Int→Bool) (vs:List ByteArray) (t:List Nd) (i:Int) (h:t.length<big):IntKind.i64.wrap (cntU p vs t i+1)=cntU p vs t i+1:=by
 obtain⟨h1,h2⟩:=cntU_bd p vs t i
 obtain⟨c,hc⟩:∃c:Nat,cntU p vs t i=c:=⟨(cntU p vs t i).toNat,by omega⟩
 rw[hc]
 exact wrap_nat (by omega)
theorem c49b {qc:List AV} (e3:rd dNs h ta=some t) (hp:smallT t) (hn:Fresh n h) (e:Nat→AV) (h1:Heap) (n1:Nat) (a:A49 h n qc ta q t 0 ⟨e,h1,n1⟩) (q1:e 1=ta) {Q:Ex→St→Prop} :
  awp (cx [] (pfL tb49)) (hdC 1 (tlC 3 (Tryz.f47.body.getD .skip))) (thenQ (A49 h n qc ta q t t.length) Q) ⟨e,h1,n1⟩:=by
 have hp':t.length*64≤140737488355328:=hp
 obtain⟨s1,s2,s3,s4,s5⟩:=sl_is e3
 simp[evx,hdC,tlC,Tryz.f47,q1,s1,s2]
 refine awp_loop (fun s=>∃j:Nat,j≤t.length∧A49 h n qc ta q t j s∧s.e 19=ta∧s.e 20=ii t.length∧s.e 21=ii j) (fun s=>t.length-(s.e 21).i.toNat) ⟨0,by omega,?_,by simp[up],by simp[up,ii],by simp[up,ii]⟩ ?_
 ·obtain⟨x1,x2,x3,x4,xa,xf,m,cs,x5,x6,x7,x8,b,c1,c2,c3,x9,x10,x11,x12,x13,x14⟩:=a
  exact⟨by simpa[up]using x1,by simpa[up]using x2,x3,x4,xa,xf,m,cs,by simpa[up]using x5,x6,x7,x8,b,c1,c2,c3,x9,x10,by simpa[up]using x11,by simpa[up]using x12,by simpa[up]using x13,x14⟩
 rintro e' h' n' ⟨j,hj,⟨q2,q4,hq,hz,hag,hfr,m,cs,q5,hm,hM,hm2,b,c1,c2,c3,hb0,hb3,q6,q7,q8,k1,I1,k2,I2,k3,I3⟩,q19,q20,q21⟩
 simp only[]at q2 q4 hq hz q5 hm q6 q7 q8 k1 k2 k3 hag hfr q19 q20 q21 hb3
 by_cases hlt:j<t.length
 ·rcases ns_at e3 with ⟨h0,_⟩|⟨id,off,k,rfl,hk,ho,hat⟩
  ·rw[h0]at hlt;simp at hlt
  have hid:id<n:=lt_of hk hn
  have hk':h' id=some k:=by rw[hag id hid];exact hk
  have hr:=hat j hlt
  have d0:=cell_of (c:=0) hr rfl (by omega)
  have d1:=cell_of (c:=1) hr rfl (by omega)
  have d2:=cell_of (c:=2) hr rfl (by omega)
  have d3:=cell_of (c:=3) hr rfl (by omega)
  have d4:=cell_of (c:=4) hr rfl (by omega)
  have d5:=cell_of (c:=5) hr rfl (by omega)
  simp only[Nat.add_zero]at d0
  rw[Nat.add_assoc]at d1 d2 d3 d4 d5
  have hw6:off+(j*6+6)≤k.cells.length:=by omega
  have hld:∀X:Ctx,ldcs X h' (.p id k.ver (off+j*6)) 0 6=ncells t[j]:=fun X=>ldcs_nd hk' hr
  have hlt':(j:Int)<(t.length:Int):=by omega
  have hjw:=wrap_nat (j:=j) (by unfold big;omega)
  have htk:t.take (j+1)=t.take j++[t[j]]:=List.take_succ_eq_append_getElem hlt
  have htl:(t.take j).length<big:=by rw[List.length_take];unfold big;omega
  have hf:=hM.2 t[j].var
  have hok:=hM.1
  have ok1:=I1.1
  have ok2:=I2.1
  have ok3:=I3.1
  generalize t[j]=x at *
  obtain⟨op,nn,var,attr,xa,xb⟩:=x
  simp only[]at hf
  simp only[ncells,ii,ss]at hld
  simp only[ii,ss]at d0 d1 d2 d3 d4 d5
  have z0:¬id=n':=by omega
  have z1:¬m=n':=by omega
  have z2:¬b=n':=by omega
  have z3:¬b+1=n':=by omega
  have z4:¬b+2=n':=by omega
  have z5:¬n'=b:=by omega
  have z6:¬n'=b+1:=by omega
  have z7:¬n'=b+2:=by omega
  have fin:∀(h2:Heap) (n2:Nat) (c1' c2' c3':List AV),n'≤n2→(∀i,i<n'→i≠b→i≠b+1→i≠b+2→h2 i=h' i)→h2 b=some ⟨c1',0,true,0⟩→h2 (b+1)=some ⟨c2',0,true,0⟩→h2 (b+2)=some ⟨c3',0,true,0⟩→
    isI (cntU bareO (vars q.items) (t.take (j+1))) c1'→isI (cntU prevO (vars q.items) (t.take (j+1))) c2'→isI (cntU aggO (vars q.items) (t.take (j+1))) c3'→Fresh n2 h2→∀e2:Nat→AV,(∀i∈[2,4,5,6,7,8],e2 i=e' i)→
    A49 h n qc (.s id k.ver off t.length) q t (j+1) ⟨e2,h2,n2⟩:=fun h2 n2 c1' c2' c3' hn2 hh g1 g2 g3 i1 i2 i3 hf2 e2 he=>by
   have he':e2 2=e' 2∧e2 4=e' 4∧e2 5=e' 5∧e2 6=e' 6∧e2 7=e' 7∧e2 8=e' 8:=⟨he 2 (by simp),he 4 (by simp),he 5 (by simp),he 6 (by simp),he 7 (by simp),he 8 (by simp)⟩
   obtain⟨w2,w4,w5,w6,w7,w8⟩:=he'
   exact⟨w2.trans q2,w4.trans q4,(hh n (by omega) (by omega) (by omega) (by omega)).trans hq,(hh (n+1) (by omega) (by omega) (by omega) (by omega)).trans hz,fun i hi=>(hh i (by omega) (by omega) (by omega) (by omega)).trans (hag i hi),hf2,m,cs,w5.trans q5,(hh m (by omega) (by omega) (by omega) (by omega)).trans hm,hM,hm2,b,c1',c2',c3',hb0,by simp only[];omega,w6.trans q6,w7.trans q7,w8.trans q8,g1,i1,g2,i2,g3,i3⟩
  cases hx:ixM (vars q.items) var with
  | none =>
   rw[hx]at hf
   simp only[Option.map_none]at hf
   have e1:=cntU_no (p:=bareO) (vs:=vars q.items) (t:=t.take j) (x:=⟨op,nn,var,attr,xa,xb⟩) (.inr hx)
   have e2:=cntU_no (p:=prevO) (vs:=vars q.items) (t:=t.take j) (x:=⟨op,nn,var,attr,xa,xb⟩) (.inr hx)
   have e3:=cntU_no (p:=aggO) (vs:=vars q.items) (t:=t.take j) (x:=⟨op,nn,var,attr,xa,xb⟩) (.inr hx)
   rw[←htk]at e1 e2 e3
   simp[evx,q5,q19,q20,q21,ii,hlt',hk',hld,hm,hok,hf,hw6,z1,hjw]
   refine⟨⟨j+1,by omega,fin _ _ c1 c2 c3 (by omega) (fun i hi _ _ _ => ?_) ?_ ?_ ?_ (by rw[e1];exact I1) (by rw[e2];exact I2) (by rw[e3];exact I3) (by simp[fresh_up,hfr.add]) _ (by simp[up]),by omega⟩,by omega⟩
   ·rw[up_ne _ _ (by omega),up_ne _ _ (by omega)]
   ·rw[up_ne _ _ (by omega),up_ne _ _ (by omega)];exact k1
   ·rw[up_ne _ _ (by omega),up_ne _ _ (by omega)];exact k2
   ·rw[up_ne _ _ (by omega),up_ne _ _ (by omega)];exact k3
  | some i =>
   rw[hx]at hf
   simp only[Option.map_some,ii]at hf
   have f1:=I1.2 i
   have f2:=I2.2 i
   have f3:=I3.2 i
   simp only[ii]at f1 f2 f3
   have u1:=wrap_cnt bareO (vars q.items) (t.take j) i htl
   have u2:=wrap_cnt prevO (vars q.items) (t.take j) i htl
   have u3:=wrap_cnt aggO (vars q.items) (t.take j) i htl
   have y1:=fun hb:bareO op=true=>cntU_yes (p:=bareO) (vs:=vars q.items) (t:=t.take j) (x:=⟨op,nn,var,attr,xa,xb⟩) hb hx
   have y2:=fun hb:prevO op=true=>cntU_yes (p:=prevO) (vs:=vars q.items) (t:=t.take j) (x:=⟨op,nn,var,attr,xa,xb⟩) hb hx
   have y3:=fun hb:aggO op=true=>cntU_yes (p:=aggO) (vs:=vars q.items) (t:=t.take j) (x:=⟨op,nn,var,attr,xa,xb⟩) hb hx
   have g1:=fun hb:bareO op=false=>cntU_no (p:=bareO) (vs:=vars q.items) (t:=t.take j) (x:=⟨op,nn,var,attr,xa,xb⟩) (.inl hb)
   have g2:=fun hb:prevO op=false=>cntU_no (p:=prevO) (vs:=vars q.items) (t:=t.take j) (x:=⟨op,nn,var,attr,xa,xb⟩) (.inl hb)
   have g3:=fun hb:aggO op=false=>cntU_no (p:=aggO) (vs:=vars q.items) (t:=t.take j) (x:=⟨op,nn,var,attr,xa,xb⟩) (.inl hb)
   rw[←htk]at y1 y2 y3 g1 g2 g3
   have hc:op=4∨op=11∨(5≤op∧op≤10)∨(op≠4∧op≠11∧¬(5≤op∧op≤10)):=by omega
   rcases hc with rfl|rfl|⟨r1,r2⟩|⟨r1,r2,r3⟩
   ·have p1:bareO 4=true:=rfl
    have p2:prevO 4=false:=rfl
    have p3:aggO 4=false:=rfl
    simp[evx,q5,q6,q19,q20,q21,ii,bv,hlt',hk',hld,hm,hok,ok1,hf,f1,k1,hw6,z1,z2,z5,hjw,u1,tb49,g85,g86,pure1,deI,p1,p3]
    refine⟨⟨j+1,by omega,fin _ _ (msetI i (ii (cntU bareO (vars q.items) (t.take j) i+1)) c1) c2 c3 (by omega) (fun i hi z1 z2 z3 => ?_) ?_ ?_ ?_ (by rw[y1 p1];exact isI_set I1 _ _) (by rw[g2 p2];exact I2) (by rw[g3 p3];exact I3) ((fresh_up (by omega) _).2 ((fresh_up (by omega) _).2 ((fresh_up (by omega) _).2 (hfr.add 3)))) _ (by simp[up]),by omega⟩,by omega⟩
    ·rw[up_ne _ _ z1,up_ne _ _ (by omega),up_ne _ _ (by omega)]
    ·rw[up_same];rfl
    ·rw[up_ne _ _ (by omega),up_ne _ _ (by omega),up_ne _ _ (by omega)];exact k2
    ·rw[up_ne _ _ (by omega),up_ne _ _ (by omega),up_ne _ _ (by omega)];exact k3
   ·have p1:bareO 11=true:=rfl
    have p2:prevO 11=true:=rfl
    have p3:aggO 11=false:=rfl
    simp[evx,q5,q6,q7,q19,q20,q21,ii,bv,hlt',hk',hld,hm,hok,ok1,ok2,hf,f1,f2,k1,k2,hw6,z1,z2,z3,z5,z6,hjw,u1,u2,tb49,g85,g86,pure1,deI,p1,p3]
    refine⟨⟨j+1,by omega,fin _ _ (msetI i (ii (cntU bareO (vars q.items) (t.take j) i+1)) c1) (msetI i (ii (cntU prevO (vars q.items) (t.take j) i+1)) c2) c3 (by omega) (fun i hi z1 z2 z3 => ?_) ?_ ?_ ?_ (by rw[y1 p1];exact isI_set I1 _ _) (by rw[y2 p2];exact isI_set I2 _ _) (by rw[g3 p3];exact I3) ((fresh_up (by omega) _).2 ((fresh_up (by omega) _).2 ((fresh_up (by omega) _).2 ((fresh_up (by omega) _).2 (hfr.add 4))))) _ (by simp[up]),by omega⟩,by omega⟩
    ·rw[up_ne _ _ z2,up_ne _ _ z1,up_ne _ _ (by omega),up_ne _ _ (by omega)]
    ·rw[up_ne _ _ (by omega),up_same];rfl
    ·rw[up_same];rfl
    ·rw[up_ne _ _ (by omega),up_ne _ _ (by omega),up_ne _ _ (by omega),up_ne _ _ (by omega)];exact k3
   ·have p1:bareO op=false:=by simp[bareO];omega
    have p2:prevO op=false:=by simp[prevO];omega
    have p3:aggO op=true:=by simp[aggO];omega
    have r4:¬op=11:=by omega
    simp[evx,q5,q8,q19,q20,q21,ii,bv,hlt',hk',hld,hm,hok,ok3,hf,f3,k3,hw6,z1,z4,hjw,u3,tb49,g85,g86,pure1,deI,p1,p3,r4]
    refine⟨⟨j+1,by omega,fin _ _ c1 c2 (msetI i (ii (cntU aggO (vars q.items) (t.take j) i+1)) c3) (by omega) (fun i hi z1 z2 z3 => ?_) ?_ ?_ ?_ (by rw[g1 p1];exact I1) (by rw[g2 p2];exact I2) (by rw[y3 p3];exact isI_set I3 _ _) ((fresh_up (by omega) _).2 ((fresh_up (by omega) _).2 ((fresh_up (by omega) _).2 (hfr.add 3)))) _ (by simp[up]),by omega⟩,by omega⟩
    ·rw[up_ne _ _ z3,up_ne _ _ (by omega),up_ne _ _ (by omega)]
    ·rw[up_ne _ _ (by omega),up_ne _ _ (by omega),up_ne _ _ (by omega)];exact k1
    ·rw[up_ne _ _ (by omega),up_ne _ _ (by omega),up_ne _ _ (by omega)];exact k2
    ·rw[up_same];rfl
   ·have p1:bareO op=false:=by simp[bareO];omega
    have p2:prevO op=false:=by simp[prevO];omega
    have p3:aggO op=false:=by simp[aggO];omega
    simp[evx,q5,q19,q20,q21,ii,bv,hlt',hk',hld,hm,hok,hf,hw6,z1,hjw,tb49,g85,g86,pure1,deI,p1,p3,r2]
    refine⟨⟨j+1,by omega,fin _ _ c1 c2 c3 (by omega) (fun i hi _ _ _ => ?_) ?_ ?_ ?_ (by rw[g1 p1];exact I1) (by rw[g2 p2];exact I2) (by rw[g3 p3];exact I3) (by simp[fresh_up,hfr.add]) _ (by simp[up]),by omega⟩,by omega⟩
    ·rw[up_ne _ _ (by omega),up_ne _ _ (by omega)]
    ·rw[up_ne _ _ (by omega),up_ne _ _ (by omega)];exact k1
    ·rw[up_ne _ _ (by omega),up_ne _ _ (by omega)];exact k2
    ·rw[up_ne _ _ (by omega),up_ne _ _ (by omega)];exact k3
 ·obtain rfl:j=t.length:=by omega
  simp[evx,q20,q21,ii]
  exact⟨q2,q4,hq,hz,hag,hfr,m,cs,q5,hm,hM,hm2,b,c1,c2,c3,hb0,hb3,q6,q7,q8,k1,I1,k2,I2,k3,I3⟩
def post49 (h:Heap) (n:Nat) (q:Qu) (t:List Nd) (z:AV) (h':Heap) (n':Nat):Prop :=
 agree n h h'∧Fresh n' h'∧n≤n'∧∃a1 a2 a3,z=.g [a1,a2,a3]∧rd dIs h' a1=some (usesL bareO (vars q.items) t)∧rd dIs h' a2=some (usesL prevO (vars q.items) t)∧rd dIs h' a3=some (usesL aggO (vars q.items) t)
def post49z (h:Heap) (n:Nat) (q:Qu) (t:List Nd) (z:AV) (h':Heap) (n':Nat):Prop :=
 post49 h n q t z h' n'∧∃a1 a2 a3,z=.g [a1,a2,a3]∧(a1=.v (.slice none 0 0)∨0<(usesL bareO (vars q.items) t).length)
theorem c49c {a x3 x6:AV} (e2:rd dIts h a=some q.items) (hp:q.items.length*64≤140737488355328) (hn:Fresh n h) (e:Nat→AV) (h1:Heap) (n1:Nat) (k:A49 h n [a,ii q.mode,ii q.after,x3,ii q.within,ss q.par,x6] ta q t t.length ⟨e,h1,n1⟩) :
  awp (cx [] (pfL tb49)) (tlC 4 (Tryz.f47.body.getD .skip)) (finQ (cx [] (pfL tb49)) Tryz.f47 (post49z h n q t)) ⟨e,h1,n1⟩:=by
 obtain⟨q2,q4,hq,hz,hag,hfr,m,cs,q5,hm,hM,hm2,b,c1,c2,c3,hb0,hb3,q6,q7,q8,k1,I1,k2,I2,k3,I3⟩:=k
 simp only[]at q2 q4 hq hz q5 hm q6 q7 q8 k1 k2 k3 hag hfr hb3
 have hvl:q.items.length=(vars q.items).length:=by simp[vars]
 rw[List.take_length]at I1 I2 I3
 simp[evx,tlC,Tryz.f47,q2,q6,tb49]
 refine (acall_any (S:=[]) (by simp) (c87 k1 I1 hq (rd_agr hn e2 _ hag) hp hfr)).mono ?_
 rintro z1 h2 n2 ⟨a1,a2,a3,l1⟩
 rw[hvl,posTo_uses]at l1
 simp[q7]
 have hq2:=(a1 n (by omega)).trans hq
 have e22:=rd_agr hn e2 _ (agree_trans hag a1 (by omega))
 refine (acall_any (S:=[]) (by simp) (c87 ((a1 _ (by omega)).trans k2) I2 hq2 e22 hp a2)).mono ?_
 rintro z2 h3 n3 ⟨d1,d2,d3,l2⟩
 rw[hvl,posTo_uses]at l2
 simp[q8]
 have hq3:=(d1 n (by omega)).trans hq2
 have e23:=rd_agr hn e2 _ (agree_trans hag (agree_trans a1 d1 (by omega)) (by omega))
 refine (acall_any (S:=[]) (by simp) (c87 ((d1 _ (by omega)).trans ((a1 _ (by omega)).trans k3)) I3 hq3 e23 hp d2)).mono ?_
 rintro z3 h4 n4 ⟨g1,g2,g3,l3⟩
 rw[hvl,posTo_uses]at l3
 have r1:=rd_agr a2 l1.rd _ (agree_trans d1 g1 (by omega))
 have r2:=rd_agr d2 l2.rd _ g1
 have r3:=l3.rd
 have hz4:h4 (n+1)=_:=(g1 _ (by omega)).trans ((d1 _ (by omega)).trans ((a1 _ (by omega)).trans hz))
 have o1:=(sl_is r1).2.2.2.1
 have o2:=(sl_is r2).2.2.2.1
 have o3:=(sl_is r3).2.2.2.1
 have p1:=(sl_is r1).2.2.2.2
 have p2:=(sl_is r2).2.2.2.2
 have p3:=(sl_is r3).2.2.2.2
 simp[evx,q4,hz4,o1,o2,o3,p1,p2,p3]
 have hag4:agree n h h4:=agree_trans hag (agree_trans a1 (agree_trans d1 g1 (by omega)) (by omega)) (by omega)
 have up1:∀b1:Option Blk,agree n h (up h4 (n+1) b1):=fun b1 i hi=>by rw[up_ne _ _ (by omega)];exact hag4 i hi
 refine⟨⟨up1 _,(fresh_up (by omega) _).2 (g2.add 1),by omega,z1,z2,z3,rfl,(l1.up fun i y1 y2 => ?_).rd,(l2.up fun i y1 y2 => ?_).rd,(l3.up fun i y1 y2 => ?_).rd⟩,z1,z2,z3,rfl,l1.nz⟩
 ·rw[up_ne _ _ (by omega),g1 i (by omega),d1 i y2]
 ·rw[up_ne _ _ (by omega),g1 i y2]
 ·rw[up_ne _ _ (by omega)]
theorem c49z (e2:deQ h qx=some q) (e3:rd dNs h ta=some t) (hq:q.items.length*64≤140737488355328) (hp:smallT t) (hn:Fresh n h) :
  ACall (cx [] (pfL tb49)) 47 [qx,ta] h n (post49z h n q t):=by
 refine acall_of_awp (args:=[qx,ta]) (pfL_ok (tb_cons p85 (tb_cons p86 tb_nil))) (mixed _ _) Tryz.func47 (c:=Tryz.f47.body.getD .skip) rfl (by kernel_rfl) (callable Tryz.func47 rfl rfl _ _) (show 2≤Tryz.f47.ntmps by decide +kernel) ?_
 obtain⟨a,b,c,rfl,x2,x3,x4⟩:=deQ_out e2
 refine awp_cut 3 _ _ (c49a x2 x3 x4 e3 (by unfold big;omega) hn _ rfl rfl) fun y1 h1 n1 ⟨b1,q1⟩ => ?_
 refine awp_cut 1 _ _ (c49b e3 hp hn y1 h1 n1 b1 q1) fun y2 h2 n2 b2 => ?_
 exact c49c x2 hq hn y2 h2 n2 b2
theorem c49 (e2:deQ h qx=some q) (e3:rd dNs h ta=some t) (hq:q.items.length*64≤140737488355328) (hp:smallT t) (hn:Fresh n h) :
  ACall (cx [] (pfL tb49)) 47 [qx,ta] h n (post49 h n q t) :=
 (c49z e2 e3 hq hp hn).mono fun _ _ _ h=>h.1
end
end
end Go.Proofs.YtbffkkeieihpdaaGreatDoor
