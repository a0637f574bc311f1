import Derived.Test.YtbffkkeieihpdaaGreatDoorX39
import Derived.Test.YtbffkkeieihpdaaGreatDoorX35
import Derived.Test.YtbffkkeieihpdaaGreatDoorX37
import Derived.Test.YtbffkkeieihpdaaGreatDoorX14
set_option linter.unusedSimpArgs false
set_option linter.unusedVariables false
set_option linter.constructorNameAsVariable false
set_option maxRecDepth 100000
set_option maxHeartbeats 4000000
namespace Go.Proofs.YtbffkkeieihpdaaGreatDoor
open Go Go.Eng
section
section
variable {H:Heap} {n:Nat} {q:Qu} {qa qb qc ba:AV} {b:List (List Ev)} {k:Int} {x:Ev}
theorem I44.up {i:Nat} {e:Nat→AV} {h1:Heap} {n2:Nat} (a:I44 H n q qa qb qc ba b k x i ⟨e,h1,n2⟩) {e':Nat→AV} (he:∀j∈[1,2,4,7,9,10,11],e' j=e j):I44 H n q qa qb qc ba b k x i ⟨e',h1,n2⟩:=by
 obtain⟨q1,q2,q4,q7,q10,q11,b4,b7,ag,fr,nn,w,u,cs,hcl,hw,hcs⟩:=a
 exact⟨(he 1 (by simp)).trans q1,(he 2 (by simp)).trans q2,(he 4 (by simp)).trans q4,(he 7 (by simp)).trans q7,(he 10 (by simp)).trans q10,(he 11 (by simp)).trans q11,b4,b7,ag,fr,nn,w,u,cs,hcl,by simp only[];rw[he 9 (by simp)];exact hw,hcs⟩
theorem I44.al {i:Nat} {e:Nat→AV} {h1:Heap} {n2:Nat} (a:I44 H n q qa qb qc ba b k x i ⟨e,h1,n2⟩) (B:Blk):I44 H n q qa qb qc ba b k x i ⟨e,Go.Eng.up h1 n2 (some B),n2+1⟩:=by
 obtain⟨q1,q2,q4,q7,q10,q11,b4,b7,ag,fr,nn,w,u,cs,hcl,hw,hcs⟩:=a
 simp only[]at b4 b7 ag fr nn hw hcs
 refine⟨q1,q2,q4,q7,q10,q11,?_,?_,(agree_up (by omega) _).2 ag,(show Fresh (n2+1) _ from (fresh_up (by omega) _).2 (fr.add 1)),(show n+2≤n2+1 by omega),?_⟩
 ·simp only[];rw[up_ne _ _ (by omega)];exact b4
 ·simp only[];rw[up_ne _ _ (by omega)];exact b7
 rcases hw with ⟨h0,hc,q9⟩|⟨q9,hb,w1,w2⟩
 ·exact⟨w,u,cs,hcl,.inl ⟨h0,hc,q9⟩,fun j hj=>by omega⟩
 ·refine⟨w,u,cs,hcl,.inr ⟨q9,?_,w1,by simp only[];omega⟩,fun j hj => ?_⟩
  ·simp only[];rw[up_ne _ _ (by omega)];exact hb
  ·obtain⟨c,k1,k2⟩:=hcs j hj
   exact⟨c,k1,rd_mono (hid_le (n:=n2) fr fun i h1 h2=>by show Go.Eng.up _ _ _ i=_;rw[up_ne _ _ (by omega)]) k2⟩
theorem I44.w {i:Nat} {e:Nat→AV} {h1:Heap} {n2:Nat} (a:I44 H n q qa qb qc ba b k x i ⟨e,h1,n2⟩) {w:Nat} (hc:(∃u cs,e 9=.s w u 0 i∧h1 w=some ⟨cs,u,true,1⟩)∨n2≤w):n+2≤w:=by
 rcases hc with ⟨u',cs',k1,k2⟩|hc
 ·obtain⟨_,_,_,_,hw,_⟩:=a.ow
  rcases hw with ⟨z1,z2,q9⟩|⟨q9,z1,w1,z2⟩
  ·have q9':e 9=_:=q9
   rw[q9']at k1;cases k1
  ·have q9':e 9=_:=q9
   rw[q9']at k1;injection k1 with k1;omega
 ·have:=a.nn;simp only[]at this;omega
theorem b44m {i:Nat} {e:Nat→AV} {h1:Heap} {n2:Nat} (hi:i<q.items.length) (hq:q.items.length≤1000000) (a:I44 H n q qa qb qc ba b k x i ⟨fun j=>if j=10 then ii (posI q i).length else e j,h1,n2⟩) (q10:e 10=ii (posI q (i+1)).length) {c:AV} (q12:e 12=c) (hc:c.one∧c.cells=[c]) {h0:Heap} (hr:rd dEs h0 c=some (byE q b k x i)) (h0l:∀w,(∃u cs,e 9=.s w u 0 i∧h1 w=some ⟨cs,u,true,1⟩)∨n2≤w→Heap.le h0 (up h1 w none)) {Q:Ex→St→Prop}
  (hQ:∀s',I44 H n q qa qb qc ba b k x (i+1) s'→Q .normal s') :
  awp (cx [] (pfL [])) (tlC 2 c44B) (blockQ 1 (thenQ (awp (cx [] (pfL [])) (tlC 2 c44L) Q) Q)) ⟨e,h1,n2⟩:=by
 have hs:=b44e hi hq e h1 n2 a q10 q12 hc hr h0l (Q:=fun y s=>y=.normal∧Q .normal s) fun s' h=>⟨rfl,hQ s' h⟩
 rw[awp_seq]at hs
 refine awp_mono _ (fun y s hy => ?_) hs
 cases y with
 | normal =>
  rw[thenQ_n]at hy
  rw[blockQ_n,thenQ_n]
  refine awp_mono _ (fun y s hy => ?_) hy
  obtain⟨h1,h2⟩:=hy
  rw[h1];exact h2
 | _=>exact absurd hy.1 (by simp)
theorem b44n (hn:Fresh n H) (e1:deQ H (.g (qcells q qa qb qc))=some q) (hq:q.items.length≤1000000) {i:Nat} (hi:i<q.items.length) (hng:(itA q i).neg=true) (e:Nat→AV) (h1:Heap) (n2:Nat) (a:I44 H n q qa qb qc ba b k x i ⟨e,h1,n2⟩) {Q:Ex→St→Prop}
  (hQ:∀s',I44 H n q qa qb qc ba b k x (i+1) s'→Q .normal s') :
  awp (cx [] (pfL [])) (tlC 1 c44L) Q ⟨e,h1,n2⟩:=by
 have a0:=a
 obtain⟨q1,q2,q4,q7,q10,q11,b4,b7,ag,fr,nn,-⟩:=a
 simp only[]at q1 q2 q4 q7 q10 q11 b4 b7 ag fr nn
 obtain⟨a',b',c',e0,x1,x2,x3⟩:=deQ_out e1
 cases e0
 have hb4:h1 n=some ⟨[qa,.v (.int .i64 q.mode),.v (.int .i64 q.after),qb,.v (.int .i64 q.within),.v (.string q.par),qc],0,true,7⟩:=b4
 obtain⟨id,off,bk,ty,y1,y2,y3,y4,y5,y6,y7,y8,y9⟩:=its_cell x1 hi
 have y2':h1 id=some bk:=(ag _ (lt_of y2 hn)).trans y2
 have hlt:off+(i*5+1)≤bk.cells.length:=by omega
 have hA:=itA_at hi
 rw[←hA]at y5
 have hps:posI q (i+1)=posI q i:=by rw[posI_succ,if_pos hng]
 show awp _ (.seq (.block 1 c44B) (tlC 2 c44L)) _ _
 rw[awp_seq,awp_block]
 by_cases hik:(i:Int)=k
 ·have hE:byE q b k x i=[x]:=by unfold byE;rw[if_pos hng,if_pos hik]
  refine awp_cut 2 _ _ (R:=fun s=>s.h=up h1 n2 (some ⟨ecells x,0,true,11⟩)∧s.n=n2+1∧(∀j∈[1,2,4,7,9,10,11],s.e j=e j)∧s.e 12=.s n2 0 0 1) ?_ ?_
  ·subst hik
   have hb7:h1 (n+1)=some ⟨ecells x,0,true,11⟩:=b7
   simp[evx,hdC,tlC,c44B,c44L,inB,bodyL,Tryz.f44,q2,q4,q7,q11,hb4,hb7,ecells,ii,uu,ss,bv,y1,y2',hlt,y5,hi,hng,ldcs_11q]
   done
  ·rintro e' h' n' ⟨k0,k1,k2,k3⟩
   simp only[]at k0 k1 k2 k3
   subst k0 k1
   refine b44m hi hq ((a0.al _).up (e':=fun j=>if j=10 then ii (posI q i).length else e' j) fun j hj => ?_) ?_ k3 ⟨trivial,rfl⟩ (h0:=up (fun _=>none) n2 (some ⟨ecells x,0,true,11⟩)) ?_ (fun w hw => ?_) hQ
   ·by_cases hj:j=10
    ·subst hj;exact (if_pos rfl).trans q10.symm
    ·exact (if_neg hj).trans (k2 j (by assumption))
   ·rw[hps,k2 10 (by simp)];exact q10
   ·rw[hE];exact flat_in Flat.ev (l:=[x]) (up_same _ _ _) rfl (r:=[]) (by simp)
   ·have hw':¬w=n2:=by
     rcases hw with ⟨u',cs',z1,z2⟩|hw
     ·intro hw;subst hw;rw[up_same]at z2;cases z2
     ·omega
    intro i1 k4 h4
    by_cases hi1:i1=n2
    ·subst hi1;rw[up_ne _ _ (by omega)];rw[up_same]at h4 ⊢;exact h4
    ·rw[up_ne _ _ hi1]at h4;cases h4
 ·have hE:byE q b k x i=[]:=by unfold byE;rw[if_pos hng,if_neg hik]
  refine awp_cut 2 _ _ (R:=fun s=>s.h=h1∧s.n=n2∧(∀j∈[1,2,4,7,9,10,11],s.e j=e j)∧s.e 12=.v (.slice none 0 0)) ?_ ?_
  ·simp[evx,hdC,tlC,c44B,c44L,inB,bodyL,Tryz.f44,q2,q4,q7,q11,hb4,ii,uu,ss,bv,y1,y2',hlt,y5,hi,hng,hik]
   done
  ·rintro e' h' n' ⟨k0,k1,k2,k3⟩
   simp only[]at k0 k1 k2 k3
   subst k0 k1
   refine b44m hi hq (a0.up (e':=fun j=>if j=10 then ii (posI q i).length else e' j) fun j hj => ?_) ?_ k3 ⟨rfl,rfl⟩ (h0:=fun _=>none) ?_ (fun w hw => ?_) hQ
   ·by_cases hj:j=10
    ·subst hj;exact (if_pos rfl).trans q10.symm
    ·exact (if_neg hj).trans (k2 j (by assumption))
   ·rw[hps,k2 10 (by simp)];exact q10
   ·rw[hE];rfl
   ·intro i1 k4 h4;cases h4
end
end
section
section
variable {H:Heap} {n:Nat} {q:Qu} {qa qb qc ba:AV} {b:List (List Ev)} {k:Int} {x:Ev}
theorem b44p (hn:Fresh n H) (e1:deQ H (.g (qcells q qa qb qc))=some q) (rb:rd dEss H ba=some b) (hq:q.items.length≤1000000) {i:Nat} (hi:i<q.items.length) (hng:(itA q i).neg=false) (e:Nat→AV) (h1:Heap) (n2:Nat) (a:I44 H n q qa qb qc ba b k x i ⟨e,h1,n2⟩) {Q:Ex→St→Prop}
  (hQ:∀s',I44 H n q qa qb qc ba b k x (i+1) s'→Q .normal s') :
  awp (cx [] (pfL [])) (tlC 1 c44L) Q ⟨e,h1,n2⟩:=by
 have a0:=a
 obtain⟨q1,q2,q4,q7,q10,q11,b4,b7,ag,fr,nn,-⟩:=a
 simp only[]at q1 q2 q4 q7 q10 q11 b4 b7 ag fr nn
 obtain⟨a',b',c',e0,x1,x2,x3⟩:=deQ_out e1
 cases e0
 have hb4:h1 n=some ⟨[qa,.v (.int .i64 q.mode),.v (.int .i64 q.after),qb,.v (.int .i64 q.within),.v (.string q.par),qc],0,true,7⟩:=b4
 obtain⟨id,off,bk,ty,y1,y2,y3,y4,y5,y6,y7,y8,y9⟩:=its_cell x1 hi
 have y2':h1 id=some bk:=(ag _ (lt_of y2 hn)).trans y2
 have hlt:off+(i*5+1)≤bk.cells.length:=by omega
 have hA:=itA_at hi
 rw[←hA]at y5
 have hps:(posI q (i+1)).length=(posI q i).length+1:=by rw[posI_succ,if_neg (by rw[hng];simp)];simp
 have hpn:=posneg q i
 have hE:byE q b k x i=b.getD (posI q i).length []:=by unfold byE;rw[hng];rfl
 have wc:=wrap_nat (j:=(posI q i).length) (by unfold big;omega)
 obtain⟨t1,t2,t3,t4,t5⟩:=sl_is rb
 obtain⟨m,hmm⟩:∃m,m=(posI q i).length:=⟨_,rfl⟩
 rw[←hmm]at q10 hps hpn hE wc
 show awp _ (.seq (.block 1 c44B) (tlC 2 c44L)) _ _
 rw[awp_seq,awp_block]
 by_cases hm:m<b.length
 ·obtain⟨bid,boff,bk',c,rfl,hbk,bho,bc,brd⟩:=sls_getD rb hm
  have hbk':h1 bid=some bk':=(ag _ (lt_of hbk hn)).trans hbk
  have bw1:boff+(m+1)≤bk'.cells.length:=by omega
  have hone:=(sl_is brd).2.2.2
  refine awp_cut 2 _ _ (R:=fun s=>s.h=h1∧s.n=n2∧(∀j∈[1,2,4,7,9,11],s.e j=e j)∧s.e 10=ii (m+1:Nat)∧s.e 12=c) ?_ ?_
  ·simp[evx,hdC,tlC,c44B,c44L,inB,bodyL,Tryz.f44,q1,q2,q4,q7,q10,q11,hb4,ii,uu,ss,bv,y1,y2',hlt,y5,hi,hng,hm,hbk',bc,bw1,wc,t1,t2,t3]
   done
  ·rintro e' h' n' ⟨k0,k1,k2,k3,k4⟩
   simp only[]at k0 k1 k2 k3 k4
   subst k0 k1
   refine b44m hi hq (a0.up (e':=fun j=>if j=10 then ii (posI q i).length else e' j) fun j hj => ?_) ?_ k4 hone (h0:=H) ?_ (fun w hw => ?_) hQ
   ·by_cases hj':j=10
    ·subst hj';exact (if_pos rfl).trans (by rw[←hmm];exact q10.symm)
    ·exact (if_neg hj').trans (k2 j (by simp at hj ⊢;omega))
   ·rw[hps];exact k3
   ·rw[hE];exact brd
   ·have hw':=a0.w (w:=w) (by
     rcases hw with ⟨u',cs',z1,z2⟩|hw
     ·exact .inl ⟨u',cs',by rw[←k2 9 (by simp)];exact z1,z2⟩
     ·exact .inr hw)
    intro i1 k6 h4
    have:=lt_of h4 hn
    rw[up_ne _ _ (by omega),ag i1 this];exact h4
 ·have hE':b.getD m []=[]:=by rw[List.getD_eq_getElem?_getD,List.getElem?_eq_none (by omega)];rfl
  refine awp_cut 2 _ _ (R:=fun s=>s.h=h1∧s.n=n2∧(∀j∈[1,2,4,7,9,11],s.e j=e j)∧s.e 10=ii (m+1:Nat)∧s.e 12=.v (.slice none 0 0)) ?_ ?_
  ·simp[evx,hdC,tlC,c44B,c44L,inB,bodyL,Tryz.f44,q1,q2,q4,q7,q10,q11,hb4,ii,uu,ss,bv,y1,y2',hlt,y5,hi,hng,hm,wc,t1,t2,t3]
   done
  ·rintro e' h' n' ⟨k0,k1,k2,k3,k4⟩
   simp only[]at k0 k1 k2 k3 k4
   subst k0 k1
   refine b44m hi hq (a0.up (e':=fun j=>if j=10 then ii (posI q i).length else e' j) fun j hj => ?_) ?_ k4 ⟨rfl,rfl⟩ (h0:=fun _=>none) ?_ (fun w hw => ?_) hQ
   ·by_cases hj':j=10
    ·subst hj';exact (if_pos rfl).trans (by rw[←hmm];exact q10.symm)
    ·exact (if_neg hj').trans (k2 j (by simp at hj ⊢;omega))
   ·rw[hps];exact k3
   ·rw[hE,hE'];rfl
   ·intro i1 k6 h4;cases h4
def T44 (H:Heap) (n:Nat) (q:Qu) (qa qb qc ba:AV) (b:List (List Ev)) (k:Int) (x:Ev) (s:St):Prop:=∃i:Nat,i≤q.items.length∧I44 H n q qa qb qc ba b k x i s
theorem b44A (hn:Fresh n H) (e1:deQ H (.g (qcells q qa qb qc))=some q) (rb:rd dEss H ba=some b) (hq:q.items.length≤1000000) (e:Nat→AV) (h1:Heap) (n2:Nat) (a:I44 H n q qa qb qc ba b k x 0 ⟨e,h1,n2⟩) {Q:Ex→St→Prop}
  (hQ:∀s',I44 H n q qa qb qc ba b k x q.items.length s'→Q (.exit 0) s') :
  awp (cx [] (pfL [])) (.loop c44L) Q ⟨e,h1,n2⟩:=by
 refine awp_loop (T44 H n q qa qb qc ba b k x) (fun s=>q.items.length-(s.e 11).i.toNat) ⟨0,Nat.zero_le _,a⟩ ?_
 rintro e' h' n' ⟨i,hi,J⟩
 have J0:=J
 obtain⟨q1,q2,q4,q7,q10,q11,b4,b7,ag,fr,nn,-⟩:=J
 simp only[]at q1 q2 q4 q7 q10 q11 b4 b7 ag fr nn
 obtain⟨a',b',c',e0,x1,x2,x3⟩:=deQ_out e1
 cases e0
 have hb4:h' n=some ⟨[qa,.v (.int .i64 q.mode),.v (.int .i64 q.after),qb,.v (.int .i64 q.within),.v (.string q.par),qc],0,true,7⟩:=b4
 obtain⟨s1,s2,s3,s4,s5⟩:=sl_is x1
 by_cases hlt:i<q.items.length
 ·refine awp_cut 1 _ _ (R:=fun s=>s.h=h'∧s.n=n'∧∀j∈[1,2,4,7,9,10,11],s.e j=e' j) ?_ ?_
  ·simp[evx,hdC,tlC,c44L,bodyL,Tryz.f44,q4,q11,hb4,ii,s1,s2,s3,hlt]
  ·rintro e2 h2 n2 ⟨k0,k1,k2⟩
   simp only[]at k0 k1 k2
   subst k0 k1
   have J1:=J0.up k2
   have fin:∀s',I44 H n q qa qb qc ba b k x (i+1) s'→T44 H n q qa qb qc ba b k x s'∧q.items.length-(s'.e 11).i.toNat<q.items.length-(e' 11).i.toNat:=fun s' h=>by
    have g1:=h.q11
    refine⟨⟨i+1,hlt,h⟩,?_⟩
    rw[g1,q11]
    show q.items.length-((i+1:Nat):Int).toNat<q.items.length-((i:Nat):Int).toNat
    omega
   cases hng:(itA q i).neg with
   | false=>exact b44p hn e1 rb hq hlt hng _ _ _ J1 fin
   | true=>exact b44n hn e1 hq hlt hng _ _ _ J1 fin
 ·obtain rfl:i=q.items.length:=by omega
  simp[evx,c44L,bodyL,hdC,tlC,Tryz.f44,q4,q11,hb4,ii,s1,s2,s3]
  refine hQ _ ?_
  exact J0.up (by simp[up])
end
end
theorem c44 {H:Heap} {n:Nat} {q:Qu} {qa qb qc ba:AV} {b:List (List Ev)} {k:Int} {x:Ev} (hn:Fresh n H) (e1:deQ H (.g (qcells q qa qb qc))=some q) (rb:rd dEss H ba=some b) (hq:q.items.length≤1000000) :
  ACall (cx [] (pfL [])) 44 [.g (qcells q qa qb qc),ba,ii k,ee x] H n fun z h' n'=>agree n H h'∧Fresh n' h'∧n≤n'∧rd dEss h' z=some (byV q b k x):=by
 refine acall_of_awp (args:=[.g (qcells q qa qb qc),ba,ii k,ee x]) (pfL_ok tb_nil) (mixed _ _) Tryz.func44 (c:=Tryz.f44.body.getD .skip) rfl (by kernel_rfl) (callable Tryz.func44 rfl rfl _ _) (show 4≤Tryz.f44.ntmps by decide +kernel) ?_
 obtain⟨a',b',c',e0,x1,x2,x3⟩:=deQ_out e1
 cases e0
 have o1:=(sl_is x2).2.2.2.1
 have o2:=(sl_is x3).2.2.2.1
 obtain⟨s1,s2,s3,s4,s5⟩:=sl_is x1
 have key:∀e:Nat→AV,e 0=.g (qcells q qa qb qc)→e 1=ba→e 2=ii k→e 3=ee x→awp (cx [] (pfL [])) (Tryz.f44.body.getD .skip) (finQ (cx [] (pfL [])) Tryz.f44 fun z h' n'=>agree n H h'∧Fresh n' h'∧n≤n'∧rd dEss h' z=some (byV q b k x)) ⟨e,H,n⟩:=fun e q0 q1 q2 q3=>by
  refine awp_cut 3 _ _ (R:=fun s=>I44 H n q qa qb qc ba b k x 0 ⟨fun j=>if j=11 then ii 0 else s.e j,s.h,s.n⟩) ?_ fun e2 h2 n3 J => ?_
  ·simp[evx,hdC,Tryz.f44,q0,q1,q2,q3,qcells,ecells,ee,ii,ss,uu,o1,o2,s4]
   exact⟨by simp[up,q1],by simp[up,q2,ii],by simp[up],by simp[up],by simp[up,posI,ii],by simp[ii],by simp[up,qcells,ii,ss],by simp[up,ecells,ii,uu],by simp[agree_up,agree_refl],by simp[fresh_up,hn.add],by simp,0,0,[],rfl,.inl ⟨rfl,rfl,by simp[up]⟩,fun j hj=>by omega⟩
  ·refine awp_cut 1 _ _ (R:=fun s=>I44 H n q qa qb qc ba b k x q.items.length s) ?_ fun e6 h6 n7 J => ?_
   ·show awp _ (.seq (hdC 1 (hdC 1 (tlC 3 (Tryz.f44.body.getD .skip)))) (.block 0 (.loop c44L))) _ _
    have hb:=b44A hn e1 rb hq (k:=k) (x:=x) (up e2 11 (ii 0)) h2 n3 J (Q:=blockQ 0 (thenQ (fun s=>I44 H n q qa qb qc ba b k x q.items.length s) (finQ (cx [] (pfL [])) Tryz.f44 fun z h' n'=>agree n H h'∧Fresh n' h'∧n≤n'∧rd dEss h' z=some (byV q b k x)))) fun s' J=>by
     rw[blockQ_e,if_pos rfl,thenQ_n];exact J
    simp[evx,hdC,tlC,Tryz.f44]
    exact hb
   ·obtain⟨q1,q2,q4,q7,q10,q11,b4,b7,ag,fr,nn,w,u,cs,hcl,hw,hcs⟩:=J
    simp only[]at ag fr nn hw hcs
    have hbl:(byV q b k x).length=q.items.length:=by simp[byV]
    rcases hw with ⟨h0,rfl,q9⟩|⟨q9,hb,w1,w2⟩
    ·simp[evx,tlC,Tryz.f44,q9]
     refine⟨ag,fr,by omega,?_⟩
     have:byV q b k x=[]:=List.eq_nil_of_length_eq_zero (by omega)
     rw[this];rfl
    ·simp[evx,tlC,Tryz.f44,q9]
     refine⟨ag,fr,by omega,?_⟩
     have:=De.sl_in (a:=dEs) (sz:=1) (off:=0) (xs:=byV q b k x) hb (by simp only[];omega) fun i hi=>by
      obtain⟨c,k1,k2⟩:=hcs i (by omega)
      have hle:Heap.le (up h6 w none) h6:=fun i1 k4 h4=>by
       by_cases hi1:i1=w
       ·subst hi1;rw[up_same]at h4;cases h4
       ·rw[up_ne _ _ hi1]at h4;exact h4
      have hv:(byV q b k x)[i]=byE q b k x i:=by simp[byV]
      rw[hv,←rd_mono hle k2]
      show dEs.run h6 _=dEs.run h6 [c]
      congr 1
      rw[Nat.zero_add,Nat.mul_one]
      rw[List.drop_eq_getElem_cons (by simp only[];omega)]
      have:=(List.getElem?_eq_some_iff.1 k1).2
      simp[this]
     rw[hbl]at this
     exact this
 exact key _ rfl rfl rfl rfl
def de49 (h:Heap):List AV→Option Eq38
 | [s,q,t,l,.v (.int .i64 e),.v (.int .i64 p)]=>de38 h [s,q,t,.g [l,ii e,ii p]]
 | _=>none
theorem de49_out {h:Heap} {args:List AV} {v:Eq38} (e:de49 h args=some v):∃s q t l,args=[s,q,t,l,ii v.en.each,ii v.en.pos]∧deSc h s=some v.sc∧deQ h q=some v.q∧rd dNs h t=some v.t∧rd dEss h l=some v.en.ls:=by
 unfold de49 at e
 split at e
 ·obtain⟨s,q,t,y,k,e1,e2,e3,e4⟩:=de38_out e
  simp only[List.cons.injEq,and_true]at k
  obtain⟨rfl,rfl,rfl,rfl⟩:=k
  obtain⟨la,k,e5⟩:=deEn_out e4
  cases k
  exact⟨_,_,_,_,rfl,e1,e2,e3,e5⟩
 ·cases e
theorem de49_in {h:Heap} {s q t l:AV} {v:Eq38} (e1:deSc h s=some v.sc) (e2:deQ h q=some v.q) (e3:rd dNs h t=some v.t) (e4:rd dEss h l=some v.en.ls):de49 h [s,q,t,l,ii v.en.each,ii v.en.pos]=some v:=de38_in e1 e2 e3 (deEn_in e4)
theorem de49_mono (h h':Heap) (args:List AV) (v:Eq38) (hh:h.le h') (e:de49 h args=some v):de49 h' args=some v:=by
 obtain⟨s,q,t,x,rfl,e1,e2,e3,e4⟩:=de49_out e
 exact de49_in (deSc_sim hh.sim e1) (deQ_sim hh.sim e2) (rd_mono hh e3) (rd_mono hh e4)
def isTrueV (v:Eq38):Bool:=trueV (evalV v.sc (vars v.q.items) v.en v.t)
def G49:=pureH de49 EqOk fun v=>bv (isTrueV v)
def tb49p:List (FuncId×(List AV→Heap→PRes)):=[(98,G38)]
theorem P49:P0 (3::S67) 49 G49:=by
 refine mkH 6 (S:=3::S67) (l:=tb49p) (tb_cons P37 tb_nil) Tryz.func49 rfl (by kernel_rfl) de49_mono (fun h l x e=>by obtain⟨s,q,t,y,rfl,_⟩:=de49_out e;exact Nat.le_refl _) (fun a=>rfl) (fun args v h n e hp hn => ?_)
 obtain⟨sa,qa,ta,la,rfl,e1,e2,e3,e4⟩:=de49_out e
 have hp':=hp
 obtain⟨sc,q,t,en⟩:=v
 obtain⟨hsc,hqb,hsm,hrg,hen⟩:=hp
 simp only[]at e1 e2 e3 e4 hsc hqb hsm hrg hen ⊢
 have g1:=sc_agree hn e1
 have g2:=q_agree hn e2
 have g3:=rd_agree hn e3
 have g4:=rd_agree hn e4
 obtain⟨c1,rfl,r1⟩:=deSc_out e1
 obtain⟨qa1,qa2,qa3,rfl,e5,e6,e7⟩:=deQ_out e2
 have t1:=(sl_is r1).2.2.2.1
 have t2:=(sl_is e5).2.2.2.1
 have t3:=(sl_is e6).2.2.2.1
 have t4:=(sl_is e7).2.2.2.1
 have t5:=(sl_is e4).2.2.2.1
 have t6:=(sl_is e4).2.2.2.2
 have t7:=(sl_is e4).2.2.1
 obtain⟨s1,s2,s3,s4,s5⟩:=sl_is e3
 have d:∀h',agree n (roH h) h'→de38 h' [.g [c1],.g [qa1,ii q.mode,ii q.after,qa2,ii q.within,ss q.par,qa3],ta,.g [la,ii en.each,ii en.pos]]=some ⟨sc,q,t,en⟩:=fun h' ha=>de38_in (g1 h' ha) (g2 h' ha) (g3 h' ha) (deEn_in (g4 h' ha))
 simp only[ii,ss]at d
 have hv:isTrueV ⟨sc,q,t,en⟩=trueV (evalV sc (vars q.items) en t):=rfl
 have hg:∀h',agree n (roH h) h'→G38 [.g [c1],.g [qa1,.v (.int .i64 q.mode),.v (.int .i64 q.after),qa2,.v (.int .i64 q.within),.v (.string q.par),qa3],ta,.g [la,.v (.int .i64 en.each),.v (.int .i64 en.pos)]] h'=⟨EqOk ⟨sc,q,t,en⟩,vv (evalV sc (vars q.items) en t)⟩:=fun h' ha=>by simp only[G38,pureH,d h' ha]
 generalize evalV sc (vars q.items) en t=v at *
 cases hk:v.k<;>by_cases h0:v.n=0 <;>
  simp[evx,ii,ss,t1,t2,t3,t4,t5,t6,t7,s1,s2,s3,s4,s5,tb49p,hg,agree_up,agree_refl,hp',vv,hk,h0,hv,bv,trueV,rankV]
section
def tb43:List (FuncId×(List AV→Heap→PRes)):=[(90,GNamed)]
def rtsI (q:Qu):List Int:=(rootsQ q.wh).map fun x:Nat=>(x:Int)
noncomputable def c43L:Code:=bodyL (hdC 1 (tlC 2 (Tryz.f43.body.getD .skip)))
structure I43 (H:Heap) (n:Nat) (q:Qu) (qa qb qc:AV) (z:AV) (k:Nat) (s:St):Prop where
 q1:s.e 1=.p n 0 0
 q3:s.e 3=z
 q4:s.e 4=ii k
 b1:s.h n=some ⟨qcells q qa qb qc,0,true,7⟩
 ag:agree n H s.h
 fr:Fresh s.n s.h
 nn:n+1≤s.n
 rt:rd dIs s.h z=some (rtsI q)
section
variable {H:Heap} {n:Nat} {q:Qu} {qa qb qc z:AV}
theorem named_uses {q:Qu} {p:Int→Bool} {t:List Nd}:namedV q (usesL p (vars q.items) t)=true:=by
 unfold namedV
 rw[List.all_eq_true]
 intro i hi
 obtain⟨u1,u2,_⟩:=uses_is hi
 simp only[vars,List.length_map]at u2
 rw[decide_eq_true u1,decide_eq_true u2];rfl
theorem b43s (hn:Fresh n H) (e1:deQ H (.g (qcells q qa qb qc))=some q) (hq:q.items.length≤1000) (hw:smallT q.wh) {k:Nat} (hk:k<(rtsI q).length) (e:Nat→AV) (h1:Heap) (n2:Nat) (a:I43 H n q qa qb qc z k ⟨e,h1,n2⟩) {Q:Ex→St→Prop}
  (hQ:∀s',I43 H n q qa qb qc z (k+1) s'→Q .normal s') :
  awp (cx [3] (pfL tb43)) c43L Q ⟨e,h1,n2⟩:=by
 have a0:=a
 obtain⟨q1,q3,q4,b1,ag,fr,nn,rt⟩:=a
 simp only[]at q1 q3 q4 b1 ag fr nn rt
 have e1':deQ h1 (.g (qcells q qa qb qc))=some q:=deQ_sim (agr_sim hn ag) e1
 obtain⟨a',b',c',e0,x1,x2,x3⟩:=deQ_out e1'
 cases e0
 have hb1:h1 n=some ⟨[qa,.v (.int .i64 q.mode),.v (.int .i64 q.after),qb,.v (.int .i64 q.within),.v (.string q.par),qc],0,true,7⟩:=b1
 have o1:=(sl_is x1).2.2.1
 have o2:=(sl_is x2).2.2.1
 have o3:=(sl_is x3).2.2.1
 have o4:=(sl_is x1).2.2.2.1
 have o5:=(sl_is x2).2.2.2.1
 have o6:=(sl_is x3).2.2.2.1
 obtain⟨s1,s2,s3,s4,s5⟩:=sl_is x2
 have hmem:(rtsI q)[k]∈rtsI q:=List.getElem_mem hk
 obtain⟨r,hr,hrk⟩:=List.mem_map.1 hmem
 obtain⟨ht,hrl⟩:=roots_lt hr
 have T:=tre_of ht
 have hwl:q.wh.length*64≤140737488355328:=hw
 have hkl:(rtsI q).length≤q.wh.length:=by
  have:=conj_len T (q.wh.length-1) (by have:=T.pos;omega)
  unfold rtsI rootsQ;rw[List.length_map,if_pos ht];have:=T.pos;omega
 have hkw:=wrap_nat (j:=k) (by unfold big;omega)
 rcases is_at rt with ⟨h0,_⟩|⟨id,off,bk,rfl,hbk,ho,hat⟩
 ·rw[h0]at hk;simp at hk
 have hc:=hat k hk
 rw[←hrk]at hc
 have hw1:off+(k+1)≤bk.cells.length:=by omega
 have hrl':¬(q.wh.length:Int)≤(r:Int):=by omega
 have hr0:¬(r:Int)<0:=by omega
 have e1q:deQ h1 (.g [qa,.v (.int .i64 q.mode),.v (.int .i64 q.after),qb,.v (.int .i64 q.within),.v (.string q.par),qc])=some q:=e1'
 simp[evx,hdC,tlC,bodyL,c43L,Tryz.f43,q1,q3,q4,ii,hbk,hc,hw1,hk,hb1,tb43,s1,s2,s3,s4,hrl',hr0,o1,o2,o3]
 refine (acall_any (S:=[3]) (by simp) (c52 x2 ht hw hrl fr)).mono ?_
 rintro z h2 n3 ⟨a1,a2,a3,m2,rfl,hm,hm1,hm2⟩
 have rs':rd dNs h2 (.s m2 0 0 (subT q.wh r).length)=some (subT q.wh r):=flat_in Flat.nd hm rfl (r:=[]) (by simp)
 have hss:smallT (subT q.wh r):=by
  have h3:=cut_len (lo:=loOf q.wh) hrl (T.le r hrl)
  unfold smallT subT;rw[h3];exact Nat.le_trans (Nat.mul_le_mul_right 64 (by omega)) hwl
 have eq2:=deQ_sim (agr_sim fr a1) e1q
 refine⟨keep_le (agr_le fr a1),?_⟩
 refine (acall_any (S:=[]) (by simp) (c49 eq2 rs' (by omega) hss a2)).mono ?_
 rintro z h3 n4 ⟨c1,c2,c3,y1,y2,y3,rfl,r1,r2,r3⟩
 refine⟨keep_le (agr_le a2 c1),?_⟩
 have eq3:=deQ_sim (agr_sim a2 c1) eq2
 have hag3:agree n2 h1 h3:=agree_trans a1 c1 a3
 have p1:=(sl_is r1).2.2.1
 have p2:=(sl_is r2).2.2.1
 have p3:=(sl_is r3).2.2.1
 have hbl:(usesL bareO (vars q.items) (subT q.wh r)).length≤q.items.length:=by
  unfold usesL
  refine Nat.le_trans (List.length_filter_le _ _) ?_
  simp[vars]
 have hok:okNm (q,⟨usesL bareO (vars q.items) (subT q.wh r),usesL prevO (vars q.items) (subT q.wh r),usesL aggO (vars q.items) (subT q.wh r)⟩):=⟨by simp only[];unfold big;omega,by simp only[];unfold big;omega⟩
 have hnm:GNamed [.g [qa,.v (.int .i64 q.mode),.v (.int .i64 q.after),qb,.v (.int .i64 q.within),.v (.string q.par),qc],.g [y1,y2,y3]] h3=⟨okNm (q,⟨usesL bareO (vars q.items) (subT q.wh r),usesL prevO (vars q.items) (subT q.wh r),usesL aggO (vars q.items) (subT q.wh r)⟩),bv true⟩:=by
  have d:rUz.run h3 (.g [y1,y2,y3])=some ⟨usesL bareO (vars q.items) (subT q.wh r),usesL prevO (vars q.items) (subT q.wh r),usesL aggO (vars q.items) (subT q.wh r)⟩:=deUs_in r1 r2 r3
  have hv:namedV q (usesL bareO (vars q.items) (subT q.wh r))=true:=named_uses
  simp only[GNamed,pureH,de2,rQ,eq3,d,Option.bind_some,Option.map_some,hv]
 have b1':h3 n=_:=(hag3 n (by omega)).trans b1
 simp[evx,hnm,hok,bv,hkw]
 refine hQ _ ⟨by simp[up,q1],by simp[up,q3],by simp[up,ii],b1',agree_trans ag hag3 (by omega),c2,by simp only[];omega,?_⟩
 exact rd_agr fr rt h3 hag3
def T43 (H:Heap) (n:Nat) (q:Qu) (qa qb qc:AV) (z:AV) (s:St):Prop:=∃k:Nat,k≤(rtsI q).length∧I43 H n q qa qb qc z k s
theorem rts_len (hw:smallT q.wh):(rtsI q).length≤q.wh.length:=by
 unfold rtsI rootsQ
 rw[List.length_map]
 split
 ·rename_i ht
  have T:=tre_of ht
  have:=conj_len T (q.wh.length-1) (by have:=T.pos;omega)
  have:=T.pos;omega
 ·simp
theorem c43 (hn:Fresh n H) (e1:deQ H (.g (qcells q qa qb qc))=some q) (hq:q.items.length≤1000) (hw:smallT q.wh) :
  ACall (cx [3] (pfL tb43)) 43 [.g (qcells q qa qb qc)] H n fun z h' n'=>z=bv true∧agree n H h'∧Fresh n' h'∧n≤n':=by
 refine acall_of_awp (args:=[.g (qcells q qa qb qc)]) (pfL_ok (tb_cons P90 tb_nil)) (mixed _ _) Tryz.func43 (c:=Tryz.f43.body.getD .skip) rfl (by kernel_rfl) (callable Tryz.func43 rfl rfl _ _) (show 1≤Tryz.f43.ntmps by decide +kernel) ?_
 obtain⟨a',b',c',e0,x1,x2,x3⟩:=deQ_out e1
 cases e0
 have o2:=(sl_is x2).2.2.2.1
 have o3:=(sl_is x3).2.2.2.1
 obtain⟨s1,s2,s3,s4,s5⟩:=sl_is x1
 have key:∀e:Nat→AV,e 0=.g (qcells q qa qb qc)→awp (cx [3] (pfL tb43)) (Tryz.f43.body.getD .skip) (finQ (cx [3] (pfL tb43)) Tryz.f43 fun z h' n'=>z=bv true∧agree n H h'∧Fresh n' h'∧n≤n') ⟨e,H,n⟩:=fun e q0=>by
  refine awp_cut 2 _ _ (R:=fun s=>∃z,I43 H n q qa qb qc z 0 ⟨fun j=>if j=4 then ii 0 else s.e j,s.h,s.n⟩) ?_ fun e2 h2 n3 ⟨z,J⟩ => ?_
  ·simp[evx,hdC,Tryz.f43,q0,qcells,ii,ss,o2,o3,s4,tb43]
   have ag0:∀B,agree n H (up H n B):=fun B=>(agree_up (by omega) _).2 (agree_refl _ _)
   have fr0:∀B,Fresh (n+1) (up H n B):=fun B=>(fresh_up (by omega) _).2 (hn.add 1)
   refine (acall_any (S:=[3]) (by simp) (c35 (rd_agr hn x2 _ (ag0 _)) hw (fr0 _))).mono ?_
   rintro z h2 n2 ⟨a1,a2,a3,a4⟩
   refine⟨z,by simp[up],by simp[up],by simp[ii],?_,agree_trans (ag0 _) a1 (by omega),a2,by simp only[];omega,rd_mono (wtn_le _ _ _) a4⟩
   simp only[]
   rw[a1 n (by omega),up_same];simp[qcells,ii,ss]
  ·refine awp_cut 1 _ _ (R:=fun s=>I43 H n q qa qb qc z (rtsI q).length s) ?_ fun e6 h6 n7 J => ?_
   ·show awp _ (.seq (hdC 1 (hdC 1 (tlC 2 (Tryz.f43.body.getD .skip)))) (.block 0 (.loop c43L))) _ _
    have hb:awp (cx [3] (pfL tb43)) (.loop c43L) (blockQ 0 (thenQ (fun s=>I43 H n q qa qb qc z (rtsI q).length s) (finQ (cx [3] (pfL tb43)) Tryz.f43 fun z h' n'=>z=bv true∧agree n H h'∧Fresh n' h'∧n≤n'))) ⟨up e2 4 (ii 0),h2,n3⟩:=by
     refine awp_loop (T43 H n q qa qb qc z) (fun s=>(rtsI q).length-(s.e 4).i.toNat) ⟨0,Nat.zero_le _,J⟩ ?_
     rintro e' h' n' ⟨k,hk,J⟩
     have q4':e' 4=ii k:=J.q4
     by_cases hlt:k<(rtsI q).length
     ·refine b43s hn e1 hq hw hlt _ _ _ J fun s' J'=>⟨⟨k+1,hlt,J'⟩,?_⟩
      have:=J'.q4
      show (rtsI q).length-(s'.e 4).i.toNat<(rtsI q).length-(e' 4).i.toNat
      rw[this,q4']
      show (rtsI q).length-((k+1:Nat):Int).toNat<(rtsI q).length-((k:Nat):Int).toNat
      omega
     ·obtain rfl:k=(rtsI q).length:=by omega
      have q3':e' 3=z:=J.q3
      obtain⟨t1,t2,t3,t4,t5⟩:=sl_is J.rt
      simp[evx,hdC,tlC,bodyL,c43L,Tryz.f43,q3',q4',ii,t1,t2,t3,tb43]
      exact⟨by simp[up];exact J.q1,by simp[up];exact J.q3,by simp[up];exact J.q4,J.b1,J.ag,J.fr,J.nn,J.rt⟩
    simp[evx,hdC,tlC,Tryz.f43]
    exact hb
   ·simp[evx,tlC,Tryz.f43,bv]
    exact⟨J.ag,J.fr,by have:=J.nn;simp only[]at this;omega⟩
 exact key _ rfl
end
end
theorem eval_congr {sc:List Ty} {vs:List ByteArray} {t:List Nd} {en en':En} (hx:∀x∈t,1≤x.op→nodeOk vs t x=true→∀va vb,nodeV sc (itemV vs x) en' x va vb=nodeV sc (itemV vs x) en x va vb):evalV sc vs en' t=evalV sc vs en t:=by
 unfold evalV
 split
 ·rename_i hr
  simp only[runT,Bool.and_eq_true]at hr
  have hall:∀x∈t,nodeOk vs t x=true:=by
   have:=hr.2
   unfold okTo at this
   rw[List.take_length,List.all_eq_true]at this
   exact this
  have T:=tre_of hr.1
  have key:∀j,j≤t.length→valsTo sc (t.map (itemV vs)) en' t j=valsTo sc (t.map (itemV vs)) en t j:=by
   intro j
   induction j with
   | zero=>intro _;rfl
   | succ j ih =>
    intro hj
    simp only[valsTo]
    rw[ih (by omega)]
    have hg:t.getD j nd0=t[j]'(by omega):=by rw[List.getD_eq_getElem?_getD,List.getElem?_eq_getElem (by omega)];rfl
    have hi:(t.map (itemV vs)).getD j 0=itemV vs (t[j]'(by omega)):=by rw[List.getD_eq_getElem?_getD,List.getElem?_map,List.getElem?_eq_getElem (by omega)];rfl
    rw[hg,hi,hx _ (List.getElem_mem _) (op_pos T j (by omega)) (hall _ (List.getElem_mem _))]
  have hp:=T.pos
  unfold valAt
  rw[key _ (by omega)]
 ·rfl
theorem node_congr {sc:List Ty} {vs:List ByteArray} {t:List Nd} {en en':En} {x:Nd} (h0:1≤x.op) (hx:x∈t) (hok:nodeOk vs t x=true)
  (hb:∀i∈usesL bareO vs t,0≤i→∀col,mentionV ⟨2,i,0,0,0⟩ col en'=mentionV ⟨2,i,0,0,0⟩ col en)
  (hp:∀i∈usesL prevO vs t,0≤i→∀col,mentionV ⟨3,i,0,0,0⟩ col en'=mentionV ⟨3,i,0,0,0⟩ col en)
  (ha:∀i∈usesL aggO vs t,0≤i→listAt en'.ls i=listAt en.ls i) (va vb:V):nodeV sc (itemV vs x) en' x va vb=nodeV sc (itemV vs x) en x va vb:=by
 unfold nodeV
 by_cases h1:x.op=1
 ·rw[if_pos h1,if_pos h1]
 rw[if_neg h1,if_neg h1]
 by_cases h2:x.op=2
 ·rw[if_pos h2,if_pos h2]
 rw[if_neg h2,if_neg h2]
 by_cases h3:x.op=3
 ·rw[if_pos h3,if_pos h3]
 rw[if_neg h3,if_neg h3]
 by_cases h11:x.op≤11
 ·rw[if_pos h11,if_pos h11]
  have h4:¬x.op<4:=by omega
  have hi:0≤ixOf vs x.var:=by
   unfold nodeOk at hok
   rw[if_neg h4,if_pos h11]at hok
   simpa using hok
  have hit:itemV vs x=ixOf vs x.var:=by unfold itemV;rw[if_pos ⟨by omega,h11⟩]
  rw[hit]
  by_cases e4:x.op=4
  ·have hm:=uses_mem (p:=bareO) hx (by simp[bareO,e4]) hi
   have hc:codeM x.op=2:=by simp[codeM,e4]
   rw[hc];exact hb _ hm hi _
  ·by_cases e11:x.op=11
   ·have hm:=uses_mem (p:=prevO) hx (by simp[prevO,e11]) hi
    have hc:codeM x.op=3:=by simp[codeM,e11]
    rw[hc];exact hp _ hm hi _
   ·have hm:=uses_mem (p:=aggO) hx (by simp[aggO];omega) hi
    have hc2:¬codeM x.op=2:=by simp[codeM];omega
    have hc3:¬codeM x.op=3:=by simp[codeM];omega
    unfold mentionV
    simp only[ha _ hm hi,hc2,hc3,if_false]
 ·rw[if_neg h11,if_neg h11]
section
variable {sc:List Ty} {q:Qu}
theorem holds_eval {vs:List ByteArray} {en:En} {t:List Nd} (h:runT vs t=true):holdsV (compP sc vs t) en=trueV (evalV sc vs en t):=by
 unfold holdsV
 rw[run_comp h]
 simp
theorem alone_eval {t:List Nd} {i:Nat} {ls:List (List Ev)} {x:Ev} (hb:bareT q t=[(i:Int)]) (hp:prevT q t=[]) (ha:aggT q t=[]) (hi:i<q.items.length) (hl:listAt ls i=[x]):evalV sc (vars q.items) ⟨ls,-1,0⟩ t=evalV sc (vars q.items) ⟨aloneL q.items.length i x,i,0⟩ t:=by
 refine eval_congr fun y hy h0 hok va vb=>node_congr h0 hy hok (fun j hj h0 col => ?_) (fun j hj => ?_) (fun j hj => ?_) va vb
 ·have hj':j∈bareT q t:=hj
  rw[hb]at hj'
  obtain rfl:j=i:=by simpa using hj'
  have hl2:listAt (aloneL q.items.length i x) i=[x]:=by
   unfold listAt
   rw[if_neg (by omega),Int.toNat_natCast,List.getD_eq_getElem?_getD,List.getElem?_eq_getElem (by rw[alone_len];exact hi),Option.getD_some,alone_at,if_pos rfl]
  unfold mentionV
  simp only[hl,hl2]
  have:¬(i:Int)=-1:=by omega
  simp[this]
 ·have:j∈prevT q t:=hj
  rw[hp]at this;cases this
 ·have:j∈aggT q t:=hj
  rw[ha]at this;cases this
theorem Wf.run (W:Wf sc q) {r:Nat} (hr:r∈rootsQ q.wh):runT (vars q.items) (subT q.wh r)=true:=by
 obtain⟨ht,hl⟩:=roots_lt hr
 have h:=(W.wh (by omega)).1
 exact sub_run (wf_run ht h) hl
theorem Wf.agg (W:Wf sc q) {r:Nat} (hr:r∈rootsQ q.wh) {i:Int} (hi:i∈aggT q (subT q.wh r)):ngQ q i=false:=by
 obtain⟨ht,hl⟩:=roots_lt hr
 have h:=(W.wh (by omega)).1
 obtain⟨h0,h1,x,hx,hp,rfl⟩:=uses_is hi
 obtain⟨y,hy,e1,e2,e3⟩:=sub_node hx
 obtain⟨k,hk,rfl⟩:=List.mem_iff_getElem.1 hy
 have hm:=(ndE_ok (h k hk)).1
 rw[getD_at hk]at hm
 have:=(ment_ok hm (.inr (by rw[e1];exact hp))).2.2.1 (by rw[e1];exact hp)
 rw[e2]at this
 exact this
theorem home_ngd (W:Wf sc q) {r:Nat} (hr:r∈rootsQ q.wh) {i:Nat} (hn:(itA q i).neg=true):homeT q (subT q.wh r)=(i:Int)↔ngdV q (bareT q (subT q.wh r))=(i:Int):=by
 have ha:(aggT q (subT q.wh r)).find? (ngQ q)=none:=by
  rw[List.find?_eq_none]
  intro j hj
  rw[W.agg hr hj];simp
 have hf:(mentL q (subT q.wh r)).find? (ngQ q)=(bareT q (subT q.wh r)).find? (ngQ q):=by
  unfold mentL
  rw[List.find?_append,ha,Option.or_none]
 unfold ngdV
 cases hb:(bareT q (subT q.wh r)).find? (ngQ q)with
 | some j =>
  rw[hb]at hf
  rw[home_neg hf]
 | none =>
  rw[hb]at hf
  rw[home_pos hf]
  constructor
  ·intro h
   split at h
   ·rename_i hl
    have hm:(posI q q.items.length).getD (lsL q (mentL q (subT q.wh r))) 0∈posI q q.items.length:=by
     rw[List.getD_eq_getElem?_getD,List.getElem?_eq_getElem hl];exact List.getElem_mem hl
    have:=(posI_mem.1 hm).2
    rw[show (posI q q.items.length).getD (lsL q (mentL q (subT q.wh r))) 0=i by omega,hn]at this
    cases this
   ·omega
  ·intro h
   simp only[]at h
   omega
theorem all_fm {α β:Type} (p:α→Bool) (f:α→β) (g:β→Bool):∀l:List α,((l.filter p).map f).all g=l.all fun t => !p t||g (f t)
 | []=>rfl
 | x::l=>by
  rw[List.filter_cons]
  cases h:p x with
  | true=>rw[if_pos rfl,List.map_cons,List.all_cons,List.all_cons,all_fm p f g l,h];simp
  | false=>rw[if_neg (by simp),List.all_cons,all_fm p f g l,h];simp
theorem all_and2 {α:Type} (f g:α→Bool):∀l:List α,(l.all f&&l.all g)=l.all fun t=>f t&&g t
 | []=>rfl
 | x::l=>by
  simp only[List.all_cons,←all_and2 f g l]
  cases f x<;>cases g x<;>cases l.all f<;>rfl
theorem all_cg {α:Type} {f g:α→Bool}:∀{l:List α},(∀r∈l,f r=g r)→l.all f=l.all g
 | [],_=>rfl
 | x::l,h=>by rw[List.all_cons,List.all_cons,h x (by simp),all_cg fun r hr=>h r (by simp[hr])]
theorem neg_law (W:Wf sc q) {i:Nat} (hi:i<q.items.length) (hn:(itA q i).neg=true) (b:List (List Ev)) (x:Ev) :
  (passV q i (tysOf sc (itA q i)) (ownL sc q (conjs q) i) x&&(restL sc q (conjs q) i).all fun f=>holdsV f ⟨byV q b i x,-1,0⟩)=(decide (x.ty∈tysOf sc (itA q i))&&(rootsQ q.wh).all fun r => !decide (ngdV q (bareT q (subT q.wh r))=(i:Int))||isTrueV ⟨sc,q,subT q.wh r,⟨byV q b i x,-1,0⟩⟩):=by
 unfold passV
 rw[Bool.and_assoc]
 congr 1
 rw[ownL,restL,all_fm,all_fm,all_and2,conjs_roots,List.all_map]
 refine all_cg fun r hr => ?_
 have hrun:=W.run hr
 have hh:=home_ngd W hr hn
 simp only[Function.comp]
 rw[holds_eval hrun,holds_eval hrun]
 by_cases hg:ngdV q (bareT q (subT q.wh r))=(i:Int)
 ·have hm:=hh.2 hg
  rw[decide_eq_true hm,decide_eq_true hg]
  cases hal:aloneT q (subT q.wh r)with
  | true =>
   simp only[aloneT,Bool.and_eq_true,decide_eq_true_eq]at hal
   obtain⟨⟨a1,a2⟩,a3⟩:=hal
   have hb:bareT q (subT q.wh r)=[(i:Int)]:=by
    obtain⟨j,hj⟩:=List.length_eq_one_iff.1 a1
    rw[hj]at hg ⊢
    unfold ngdV at hg
    rw[List.find?_cons]at hg
    split at hg
    ·rename_i k hk
     split at hk
     ·cases hk;rw[hg]
     ·cases hk
    ·omega
   have hl:listAt (byV q b i x) i=[x]:=by
    unfold listAt
    rw[if_neg (by omega),Int.toNat_natCast,List.getD_eq_getElem?_getD,List.getElem?_eq_getElem (by simp[byV];exact hi),Option.getD_some]
    simp[byV,byE,hn]
   have:=alone_eval (sc:=sc) hb (List.eq_nil_of_length_eq_zero a2) (List.eq_nil_of_length_eq_zero a3) hi hl
   simp[isTrueV,this]
  | false=>simp[isTrueV]
 ·have hm:¬homeT q (subT q.wh r)=(i:Int):=fun e=>hg (hh.1 e)
  rw[decide_eq_false hm,decide_eq_false hg]
  simp
end
section
section
variable {h:Heap} {n:Nat}
structure B34 (h:Heap) (n:Nat) (p:Pt) (s:St):Prop where
 m3:∃m,s.e 3=.p m 0 0∧s.h m=some ⟨pcells p (planOf sc0 q0),0,true,16⟩
 m4:∃m,s.e 4=.p m 0 0∧s.h m=some ⟨fcells fl0,0,true,4⟩
 pl:PlR s.h p (planOf sc0 q0)
 ag:agree n h s.h
 fr:Fresh s.n s.h
 nn:n≤s.n
theorem b34b (e:Nat→AV) (h1:Heap) (n2:Nat) {sa qa qb qc:AV} (a:A34 h n sa qa qb qc ⟨e,h1,n2⟩) {Q}:awp (cz SP (pfL tbSt)) (hdC 1 (tlC 4 (Tryz.f34.body.getD .skip))) (thenQ (fun s=>∃p,B34 h n p s) Q) ⟨e,h1,n2⟩:=by
 obtain⟨⟨m1,r1,b1⟩,⟨m2,r2,b2⟩,e1,e2,ag,fr,nn⟩:=a
 simp only[]at r1 b1 r2 b2 e1 e2 ag fr nn
 have hb2:h1 m2=some ⟨[qa,.v (.int .i64 q0.mode),.v (.int .i64 q0.after),qb,.v (.int .i64 q0.within),.v (.string q0.par),qc],0,true,7⟩:=b2
 simp[evz,hdC,tlC,Tryz.f34,tbSt,r1,b1,r2,hb2]
 refine (acall_zz (S:=[3]) (by simp[SP]) (c17 e1 e2 sq0.ok fr)).mono ?_
 rintro z h2 n3 ⟨a1,a2,a3,hz⟩
 rcases hz with ⟨hz,_⟩|⟨_,p,rfl,pl⟩
 ·exact absurd chk0 hz
 obtain⟨o1,o2,o3,o4,o5,o6,o7,o8,o9,o10⟩:=pl.is
 have fin:∀(e':Nat→AV) (h':Heap) (n':Nat) (m3 m4:Nat),e' 3=.p m3 0 0→e' 4=.p m4 0 0→h' m3=some ⟨pcells p (planOf sc0 q0),0,true,16⟩→h' m4=some ⟨fcells fl0,0,true,4⟩→agree n3 h2 h'→Fresh n' h'→n3≤n'→∃p,B34 h n p ⟨e',h',n'⟩:=fun e' h' n' m3 m4 k1 k2 k3 k4 k5 k6 k7 =>
  ⟨p,⟨m3,k1,k3⟩,⟨m4,k2,k4⟩,pl.sim (agr_sim a2 k5),agree_trans ag (agree_trans a1 k5 a3) nn,k6,Nat.le_trans nn (Nat.le_trans a3 k7)⟩
 simp only[pcells,ff,fcells,fl0,ii,ss,bv]at fin ⊢
 generalize planOf sc0 q0=P at *
 simp[evz,o1,o2,o3,o4,o5,o6,o7,o8,o9,o10]
 exact fin _ _ _ n3 (n3+1) (by simp[up]) (by simp[up]) (by simp[up]) (by simp[up]) (by simp[agree_up,agree_refl]) (by simp[fresh_up,a2.add]) (by omega)
theorem b34c (e:Nat→AV) (h1:Heap) (n2:Nat) {p:Pt} (a:B34 h n p ⟨e,h1,n2⟩):awp (cz SP (pfL tbSt)) (tlC 5 (Tryz.f34.body.getD .skip)) (finQ (cz SP (pfL tbSt)) Tryz.f34 fun z h' n'=>agree n h h'∧Fresh n' h'∧n≤n'∧z=bv true) ⟨e,h1,n2⟩:=by
 obtain⟨⟨m3,r3,b3⟩,⟨m4,r4,b4⟩,pl,ag,fr,nn⟩:=a
 simp only[]at r3 b3 r4 b4 pl ag fr nn
 have hP:=plan_tk wf0 sq0 (c:=0) (x:=evq0) (by simp[EvOk,Rng,evq0])
 have hP1:=plan_tk wf0 sq0 (c:=0) (x:=evq1) (by simp[EvOk,Rng,evq1])
 have hP2:=plan_gd wf0 sq0 (c:=0) (x:=evq2) (by simp[EvOk,Rng,evq2])
 have v0:=pl0_0
 have v1:=pl0_1
 have v2:=pl0_2
 have v3:=pl0_3
 have l1:=pl0_c
 have l2:=pl0_n
 have l3:=pl0_u
 have l4:=pl0_t
 have l5:=pl0_l
 generalize planOf sc0 q0=P at *
 obtain⟨o1,o2,o3,o4,o5,o6,o7,o8,o9,o10⟩:=pl.is
 obtain⟨s1,s2,s3,s4,s5⟩:=sl_is pl.cm
 obtain⟨t1,t2,t3,t4,t5⟩:=sl_is pl.ng
 obtain⟨u1,u2,u3,u4,u5⟩:=sl_is pl.us
 rw[l1]at s2
 rw[l2]at t2
 rw[l3]at u2
 have gp:∀h',agree n2 h1 h'→rPl.run h' (.g (pcells p P))=some P:=fun h' ha=>dePlan_in (pl.sim (agr_sim fr ha))
 have gt:∀h',agree n2 h1 h'→∀x:Ev,GTakes [.g (pcells p P),ii 0,ee x] h'=⟨okTk (P,0,x),bv (takesV P 0 x)⟩:=fun h' ha x=>by
  have k1:=gp h' ha
  have k2:rI.run h' (ii 0)=some 0:=rfl
  have k3:rE.run h' (ee x)=some x:=deE_ee x
  simp only[GTakes,pureH,de3,k1,k2,k3,Option.bind_some,Option.map_some]
 have gg:∀h',agree n2 h1 h'→∀x:Ev,GGuards [.g (pcells p P),ii 0,ee x] h'=⟨okGd (P,0,x),bv (guardsV P 0 x)⟩:=fun h' ha x=>by
  have k1:=gp h' ha
  have k2:rI.run h' (ii 0)=some 0:=rfl
  have k3:rE.run h' (ee x)=some x:=deE_ee x
  simp only[GGuards,pureH,de3,k1,k2,k3,Option.bind_some,Option.map_some]
 have gi:∀h',agree n2 h1 h'→∀x:Ev,GIn [.g (pcells p P),ee x] h'=⟨P.used.length<big,bv (inStrV P x.ty)⟩:=fun h' ha x=>by
  have k1:=gp h' ha
  have k3:rE.run h' (ee x)=some x:=deE_ee x
  simp only[GIn,pureH,de2,k1,k3,Option.bind_some,Option.map_some]
 have g0:=fun h' ha=>gt h' ha evq0
 have g1:=fun h' ha=>gt h' ha evq1
 have g2:=fun h' ha=>gg h' ha evq2
 have g3:=fun h' ha=>gi h' ha evq2
 rw[v0]at g0
 rw[v1]at g1
 rw[v2]at g2
 have v3':inStrV P evq2.ty=true:=v3
 rw[v3']at g3
 simp only[pcells,ee,ecells,evq0,evq1,evq2,ii,ss,bv,uu]at g0 g1 g2 g3 b3
 simp only[fcells,fl0,ii]at b4
 have hb:P.used.length<big:=by rw[l3];unfold big;omega
 have nm3:¬m3=n2:=by have:=lt_of b3 fr;omega
 rw[l4,l5]at g0 g1 g2 g3 b3
 simp[evz,tlC,Tryz.f34,tbSt,r3,b3,r4,b4,s1,s2,t1,t2,u1,u2,g0,g1,g2,g3,ldcs_11q,ldcs_16q,agree_up,agree_refl,nm3,bv]
 exact⟨hP,hP1,hP2,hb,(agree_up nn _).2 ((agree_up nn _).2 ((agree_up nn _).2 ag)),(fresh_up (by omega) _).2 ((fresh_up (by omega) _).2 ((fresh_up (by omega) _).2 (fr.add 3))),by omega⟩
theorem c34 (hn:Fresh n h):ACall (cz SP (pfL tbSt)) 34 [] h n fun z h' n'=>agree n h h'∧Fresh n' h'∧n≤n'∧z=bv true:=by
 refine acall_of_awp (args:=[]) (pfZ_ok (tb_cons P78 (tb_cons P30 (tb_cons P32 (tb_cons P26 tb_nil))))) (mixed_z _ _) Tryz.func34 (c:=Tryz.f34.body.getD .skip) rfl (by kernel_rfl) (callable Tryz.func34 rfl rfl [] (pfL [])) (show 0≤Tryz.f34.ntmps by decide +kernel) ?_
 refine awp_cut 4 _ _ (b34a hn (env0 [])) fun e1 h1 n1 ⟨sa,qa,qb,qc,A⟩ => ?_
 refine awp_cut 1 _ _ (b34b e1 h1 n1 A) fun e2 h2 n2 ⟨p,B⟩ => ?_
 exact b34c e2 h2 n2 B
end
end
section
structure AP (H:Heap) (n:Nat) (q:Qu) (sa qa qb qc:AV) (s:St):Prop where
 q2:s.e 2=.p n 0 0
 q3:s.e 3=.p (n+1) 0 0
 b2:s.h n=some ⟨[sa],0,true,1⟩
 b3:s.h (n+1)=some ⟨qcells q qa qb qc,0,true,7⟩
 ag:agree n H s.h
 fr:Fresh s.n s.h
 nn:n+2≤s.n
theorem AP.up {H:Heap} {n:Nat} {q:Qu} {sa qa qb qc:AV} {s s':St} (a:AP H n q sa qa qb qc s) (he:∀i∈[2,3],s'.e i=s.e i) (ha:agree s.n s.h s'.h) (hf:Fresh s'.n s'.h) (hn:s.n≤s'.n):AP H n q sa qa qb qc s':=by
 have:=a.nn
 exact⟨(he 2 (by simp)).trans a.q2,(he 3 (by simp)).trans a.q3,(ha _ (by omega)).trans a.b2,(ha _ (by omega)).trans a.b3,agree_trans a.ag ha (by omega),hf,by omega⟩
structure BP (H:Heap) (n:Nat) (sc:List Ty) (q:Qu) (sa qa qb qc:AV) (k m:Nat) (p:Pt) (s:St):Prop where
 a:AP H n q sa qa qb qc s
 q5:s.e k=.p m 0 0
 b5:s.h m=some ⟨pcells p (planOf sc q),0,true,16⟩
 pl:PlR s.h p (planOf sc q)
theorem BP.up {H:Heap} {n:Nat} {sc:List Ty} {q:Qu} {sa qa qb qc:AV} {k m:Nat} {p:Pt} {s s':St} (a:BP H n sc q sa qa qb qc k m p s) (he:∀i∈[2,3,k],s'.e i=s.e i) (ha:agree s.n s.h s'.h) (hf:Fresh s'.n s'.h) (hn:s.n≤s'.n):BP H n sc q sa qa qb qc k m p s' :=
 ⟨a.a.up (fun i hi=>he i (by simp at hi ⊢;omega)) ha hf hn,(he k (by simp)).trans a.q5,(ha _ (lt_of a.b5 a.a.fr)).trans a.b5,a.pl.sim (agr_sim a.a.fr ha)⟩
section
variable {H:Heap} {n:Nat} {sc:List Ty} {q:Qu} {sa qa qb qc:AV}
end
end
end Go.Proofs.YtbffkkeieihpdaaGreatDoor
