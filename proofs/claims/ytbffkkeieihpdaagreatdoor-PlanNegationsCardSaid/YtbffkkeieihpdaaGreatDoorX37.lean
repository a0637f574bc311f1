import Derived.Test.YtbffkkeieihpdaaGreatDoorX36
import Derived.Test.YtbffkkeieihpdaaGreatDoorX29
import Derived.Test.YtbffkkeieihpdaaGreatDoorX15
import Derived.Test.YtbffkkeieihpdaaGreatDoorX16
set_option linter.unusedSimpArgs false
set_option linter.unusedVariables false
set_option linter.constructorNameAsVariable false
set_option maxRecDepth 100000
set_option maxHeartbeats 4000000
namespace Go.Proofs.YtbffkkeieihpdaaGreatDoor
open Go Go.Eng
section
section
variable {h:Heap} {n:Nat} {sc:List Ty} {q:Qu} {sa qa qb qc:AV} {hB:Heap} {n1 bid mid:Nat}
theorem conjs_len (q:Qu):(conjs q).length=(rootsQ q.wh).length:=by rw[conjs_roots,List.length_map]
theorem b17g (W:Wf sc q) (hwh:smallT q.wh) (e3:rd dNs h qb=some q.wh) (hn:Fresh n h) {T:Nat→Nat} {p:Pt} {z:AV} (e:Nat→AV) (h1:Heap) (n2:Nat) (a:C17 h n sc q sa qa qb qc hB n1 bid mid T p 0 z ⟨e,h1,n2⟩) {Q:Ex→St→Prop}
  (hQ:∀s',(∃T' p',C17 h n sc q sa qa qb qc hB n1 bid mid T' p' (rootsQ q.wh).length z s')→Q (.exit 0) s') :
  awp (cz [3] (pfL tp17)) (.loop c17L) Q ⟨e,h1,n2⟩:=by
 refine awp_loop (fun s=>∃j T p,j≤(rootsQ q.wh).length∧C17 h n sc q sa qa qb qc hB n1 bid mid T p j z s) (fun s=>(rootsQ q.wh).length-(s.e 43).i.toNat) ⟨0,T,p,Nat.zero_le _,a⟩ ?_
 rintro e' h' n' ⟨j,T',p',hj,J⟩
 by_cases hlt:j<(rootsQ q.wh).length
 ·have k1:=J.q43
  simp only[]at k1
  refine b17e W hwh e3 hn hlt _ _ _ J fun s' ⟨T'',p'',J'⟩ => ?_
  rw[thenQ_n]
  refine⟨⟨j+1,T'',p'',hlt,J'⟩,?_⟩
  show (rootsQ q.wh).length-(s'.e 43).i.toNat<(rootsQ q.wh).length-(e' 43).i.toNat
  rw[k1,J'.q43]
  simp[ii,AV.i]
  omega
 ·obtain rfl:j=(rootsQ q.wh).length:=by omega
  have q42:=J.q42
  have q43:=J.q43
  simp only[]at q42 q43
  obtain⟨B,r41,r41',r42,r43,bi⟩:=J
  simp[evz,hdC,tlC,c17L,bodyL,Tryz.f17,q42,q43,ii]
  exact hQ _ ⟨T',p',B.up (by simp[up]),by simpa[up]using r41,r41',by simpa[up]using r42,by simpa[up]using r43,bi⟩
theorem b17h (W:Wf sc q) (hrt:∀t∈q.ret,smallT t) (e1:rd dTys h sa=some sc) (e2:deQ h (.g (qcells q qa qb qc))=some q) (hn:Fresh n h) {T:Nat→Nat} {p:Pt} (e:Nat→AV) (h1:Heap) (n2:Nat) (a:D17 h n sc q sa qa qb qc hB n1 bid mid T p 0 ⟨e,h1,n2⟩) {Q:Ex→St→Prop}
  (hQ:∀s',(∃T' p',D17 h n sc q sa qa qb qc hB n1 bid mid T' p' q.ret.length s')→Q (.exit 2) s') :
  awp (cz [3] (pfL tp17)) (.loop c17M) Q ⟨e,h1,n2⟩:=by
 refine awp_loop (fun s=>∃j T p,j≤q.ret.length∧D17 h n sc q sa qa qb qc hB n1 bid mid T p j s) (fun s=>q.ret.length-(s.e 57).i.toNat) ⟨0,T,p,Nat.zero_le _,a⟩ ?_
 rintro e' h' n' ⟨j,T',p',hj,J⟩
 by_cases hlt:j<q.ret.length
 ·have k1:=J.q57
  simp only[]at k1
  refine b17f W hrt e1 e2 hn hlt _ _ _ J fun s' ⟨T'',p'',J'⟩ => ?_
  rw[thenQ_n]
  refine⟨⟨j+1,T'',p'',hlt,J'⟩,?_⟩
  show q.ret.length-(s'.e 57).i.toNat<q.ret.length-(e' 57).i.toNat
  rw[k1,J'.q57]
  simp[ii,AV.i]
  omega
 ·obtain rfl:j=q.ret.length:=by omega
  have q56:=J.q56
  have q57:=J.q57
  simp only[]at q56 q57
  obtain⟨B,r1,r2,r3,bi⟩:=J
  simp[evz,hdC,tlC,c17M,bodyL,Tryz.f17,q56,q57,ii]
  exact hQ _ ⟨T',p',B.up (by simp[up]),by simpa[up]using r1,by simpa[up]using r2,by simpa[up]using r3,bi⟩
theorem b17i (hc:chk sc q=fl0) (e:Nat→AV) (h1:Heap) (n2:Nat) {T:Nat→Nat} {p:Pt} (a:D17 h n sc q sa qa qb qc hB n1 bid mid T p q.ret.length ⟨e,h1,n2⟩) :
  awp (cz [3] (pfL tp17)) (tlC 8 (Tryz.f17.body.getD .skip)) (finQ (cz [3] (pfL tp17)) Tryz.f17 (Q17 h n sc q)) ⟨e,h1,n2⟩:=by
 obtain⟨B,_,_,_,bi⟩:=a
 simp only[]at B bi
 obtain⟨lo,ag⟩:=bi.low2 B
 obtain⟨lb,lm,nbm⟩:=bi.low
 have q4:=B.q4
 have q5:=B.q5
 have q7:=B.q7
 have nb1:=B.bi
 have nb2:=B.mi
 have nb3:=B.n1
 have nb4:=bi.s.nn
 have hb4:=(lo _ (by omega)).trans B.b4
 have hb5:=(lo _ (by omega)).trans B.b5
 have hbb:=bi.bb
 have hP:plR sc q q.ret.length=planOf sc q:=by simp only[plR,List.take_length];rfl
 rw[hP]at hbb bi
 have z1:¬bid=n+2:=by omega
 have z2:¬bid=n+3:=by omega
 obtain⟨a',b',c',e0,x1,x2,x3⟩:=deQ_out bi.s.qu
 cases e0
 have s1:=sl_is bi.s.sch
 have s2:=sl_is x1
 have s3:=sl_is x2
 have s4:=sl_is x3
 have s5:=bi.cm.isS
 have s6:=bi.ng.isS
 have s7:=bi.fx.isS
 have s8:=bi.us.isS
 have s9:=bi.cl.isS
 have s10:=bi.rt.isS
 have t2:T (n+2)=9:=bi.s.low _ (by omega) (by omega) (by omega)
 have t3:T (n+3)=9:=bi.s.low _ (by omega) (by omega) (by omega)
 simp[evz,tlC,Tryz.f17,q4,q5,q7,hb4,hb5,hbb,bcells,zpl,nilA,fcells,fl0,ii,ss,bv,s1,s2,s3,s4,s5,s6,s7,s8,s9,s10,ldcs_16]
 refine⟨(agree_up (by omega) _).2 ((agree_up (by omega) _).2 ag),(fresh_up (by omega) _).2 ((fresh_up (by omega) _).2 (bi.s.fr.add 2)),by omega,.inr ⟨by rw[hc];rfl,p,by simp[pcells,ff,fcells,fl0,ii,ss,bv],bi.plr fun id hid => ?_⟩⟩
 rw[up_ne _ _ (fun e=>hid (by rw[e];exact t3)),up_ne _ _ (fun e=>hid (by rw[e];exact t2))]
theorem c17 (e1:rd dTys h sa=some sc) (e2:deQ h (.g (qcells q qa qb qc))=some q) (hok:okCh (sc,q)) (hn:Fresh n h) :
  ACall (cz [3] (pfL tp17)) 17 [.g [sa],.g (qcells q qa qb qc)] h n (Q17 h n sc q):=by
 refine acall_of_awp (args:=[.g [sa],.g (qcells q qa qb qc)]) (pfZ_ok (tb_cons P54 tb_nil)) (mixed_z _ _) Tryz.func17 (c:=Tryz.f17.body.getD .skip) rfl (by kernel_rfl) (callable Tryz.func17 rfl rfl [] (pfL [])) (show 2≤Tryz.f17.ntmps by decide +kernel) ?_
 obtain⟨a',b',c',e0,x1,x2,x3⟩:=deQ_out e2
 cases e0
 have hwh:=hok.2.wh
 have hrt:∀t∈q.ret,smallT t:=fun t ht=>by
  obtain⟨i,hi,rfl⟩:=List.mem_iff_getElem.1 ht
  have:=hok.2.rt i hi
  rwa [List.getD_eq_getElem?_getD,List.getElem?_eq_getElem hi]at this
 refine awp_cut 2 _ _ (b17a e1 e2 hok hn (env0 [.g [sa],.g (qcells q qa qb qc)]) rfl rfl) fun e3 h3 n3 ⟨A,hc⟩ => ?_
 obtain⟨hc0,W⟩:=wf_of hc
 refine awp_cut 2 _ _ (b17b W hwh hrt e1 e2 hn e3 h3 n3 A) fun e4 h4 n4 ⟨hB,n1,bid,mid,T,p,B,bi⟩ => ?_
 refine awp_cut 2 _ _ (b17c W e4 h4 n4 B bi) fun e5 h5 n5 ⟨B5,T5,p5,bi5⟩ => ?_
 refine awp_cut 1 _ _ (R:=fun s=>∃T p,B17 h n q sa qa qb qc hB n1 bid mid s.e∧BI hB n1 bid mid T s.h s.n p (plR sc q 0) (slF q q.items.length)) ?_ fun e6 h6 n6 ⟨T6,p6,B6,bi6⟩ => ?_
 ·show awp _ (.seq (hdC 1 (hdC 1 (tlC 6 (Tryz.f17.body.getD .skip)))) (.block 0 (.loop c17L))) _ _
  rw[awp_seq]
  refine awp_mono _ (fun x s hxx => ?_) (b17d (Q:=fun _ _=>False) hwh x2 hn e5 h5 n5 B5 bi5)
  cases x with
  | normal =>
   obtain⟨e7,h7,n7⟩:=s
   rw[thenQ_n]at hxx
   obtain⟨T7,p7,z7,C7⟩:=hxx
   rw[thenQ_n,awp_block]
   refine b17g W hwh x2 hn e7 h7 n7 C7 fun s' ⟨T8,p8,C8⟩ => ?_
   rw[blockQ_e,if_pos rfl,thenQ_n]
   refine⟨T8,p8,C8.b,?_⟩
   have:=C8.bi
   rw[←conjs_len,List.take_length]at this
   exact this
  | exit i=>exact (by simp[thenQ_e]at hxx:False).elim
  | ret=>exact (by simp[thenQ_r]at hxx:False).elim
 ·simp only[]at B6 bi6
  refine awp_cut 1 _ _ (R:=fun s=>∃T p,D17 h n sc q sa qa qb qc hB n1 bid mid T p q.ret.length s) ?_ fun e8 h8 n8 ⟨T8,p8,D8⟩=>b17i hc0 e8 h8 n8 D8
  show awp _ (.seq (hdC 1 (hdC 1 (tlC 7 (Tryz.f17.body.getD .skip)))) (.block 2 (.loop c17M))) _ _
  obtain⟨lo,ag⟩:=bi6.low2 B6
  have q3:=B6.q3
  have hb3:h6 (n+1)=some ⟨[qa,.v (.int .i64 q.mode),.v (.int .i64 q.after),qb,.v (.int .i64 q.within),.v (.string q.par),qc],0,true,7⟩:=(lo _ (by omega)).trans B6.b3
  obtain⟨t1,t2,t3,t4,t5⟩:=sl_is x3
  simp[evz,hdC,tlC,Tryz.f17,q3,hb3,t1,t2]
  refine b17h W hrt e1 e2 hn _ _ _ (⟨B6.up (by simp[up]),by simp[up],by simp[up,ii],by simp[up,ii],bi6⟩:D17 h n sc q sa qa qb qc hB n1 bid mid T6 p6 0 _) fun s' ⟨T9,p9,D9⟩ => ?_
  rw[blockQ_e,if_pos rfl,thenQ_n]
  exact⟨T9,p9,D9⟩
end
end
def stA:ByteArray:=⟨#[65]⟩
def stB:ByteArray:=⟨#[66]⟩
def sta:ByteArray:=⟨#[97]⟩
def stx:ByteArray:=⟨#[120]⟩
def stn:ByteArray:=⟨#[110]⟩
def sc0:List Ty:=[⟨stA,[stx]⟩,⟨stB,[]⟩]
def wh0:List Nd:=[⟨4,0,sta,stx,-1,-1⟩,⟨1,1,⟨#[]⟩,⟨#[]⟩,-1,-1⟩,⟨19,0,⟨#[]⟩,⟨#[]⟩,0,1⟩]
def q0:Qu:=⟨[⟨false,[stA],sta,1,1⟩,⟨true,[stB],stn,1,1⟩],0,0,wh0,3,⟨#[]⟩,[]⟩
def evq0:Ev:=⟨0,0,0,0,0,0,0,0,0,0,0⟩
def evq1:Ev:=⟨0,0,0,1,0,0,0,0,0,0,0⟩
def evq2:Ev:=⟨0,0,1,1,0,0,0,0,0,0,0⟩
theorem chk0:(chk sc0 q0).code=0:=by kernel_rfl
theorem pl0_c:(planOf sc0 q0).comps.length=1:=by kernel_rfl
theorem pl0_n:(planOf sc0 q0).negs.length=1:=by kernel_rfl
theorem pl0_u:(planOf sc0 q0).used.length=2:=by kernel_rfl
theorem pl0_t:(planOf sc0 q0).tail=true:=by kernel_rfl
theorem pl0_l:(planOf sc0 q0).lead=false:=by kernel_rfl
theorem pl0_0:takesV (planOf sc0 q0) 0 evq0=false:=by kernel_rfl
theorem pl0_1:takesV (planOf sc0 q0) 0 evq1=true:=by kernel_rfl
theorem pl0_2:guardsV (planOf sc0 q0) 0 evq2=true:=by kernel_rfl
theorem pl0_3:inStrV (planOf sc0 q0) 1=true:=by kernel_rfl
section
def G78:=pureH (de4 rI rS rS rI) (fun _=>True) fun q=>nn ⟨q.1,q.2.2.2,q.2.1,q.2.2.1,-1,-1⟩
theorem P78:P0 [] 78 G78:=by
 refine mkH 4 (S:=[]) (l:=[]) tb_nil Tryz.func78 rfl (by kernel_rfl) de4_mono de4_len (fun a=>rfl) (fun args q h n e hp hn => ?_)
 obtain⟨a,b,c,d,rfl,e1,e2,e3,e4⟩:=de4_out e
 obtain⟨o,v,z,k⟩:=q
 simp only[]at e1 e2 e3 e4 hp ⊢
 have:=deI_out e1;subst this
 have:=deS_out e2;subst this
 have:=deS_out e3;subst this
 have:=deI_out e4;subst this
 have key:∀e:Nat→AV,e 0=ii o→e 1=ss v→e 2=ss z→e 3=ii k→awp (cx [] (pfL [])) (Tryz.f78.body.getD .skip) (finQ (cx [] (pfL [])) Tryz.f78 fun y _ _=>y=nn ⟨o,k,v,z,-1,-1⟩) ⟨e,roH h,n⟩:=fun e q0 q1 q2 q3=>by
  simp[evx,Tryz.f78,q0,q1,q2,q3,ii,ss,nn,ncells,ldcs_6]
 exact key _ rfl rfl rfl rfl
def tbSt:List (FuncId×(List AV→Heap→PRes)):=[(78,G78),(30,GTakes),(32,GGuards),(26,GIn)]
def SP:List Nat:=[0,1,2,3,4,5,6,7]
theorem st_sc {H:Heap} {b0 b1:Nat} (h0:H b0=some ⟨[ss stx],0,true,1⟩) (h1:H b1=some ⟨[ss stA,.s b0 0 0 1,ss stB,.v (.slice none 0 0)],0,true,2⟩):rd dTys H (.s b1 0 0 2)=some sc0:=by
 have r:rd dSs H (.s b0 0 0 1)=some [stx]:=flat_in Flat.str (l:=[stx]) h0 rfl (r:=[]) rfl
 refine De.sl_in (xs:=sc0) (off:=0) h1 (Nat.le_refl 4) fun i hi => ?_
 match i,hi with
 | 0,_=>exact deTyc_in (x:=⟨stA,[stx]⟩) r
 | 1,_=>exact deTyc_in (x:=⟨stB,[]⟩) (show rd dSs H (.v (.slice none 0 0))=some [] from rfl)
 | i+2,hi=>exact absurd hi (by simp[sc0])
theorem st_it {H:Heap} {b0 b1 b2:Nat} (h0:H b0=some ⟨[ss stA],0,true,1⟩) (h1:H b1=some ⟨[ss stB],0,true,1⟩) (h2:H b2=some ⟨[bv false,.s b0 0 0 1,ss sta,ii 1,ii 1,bv true,.s b1 0 0 1,ss stn,ii 1,ii 1],0,true,5⟩):rd dIts H (.s b2 0 0 2)=some q0.items:=by
 have r0:rd dSs H (.s b0 0 0 1)=some [stA]:=flat_in Flat.str (l:=[stA]) h0 rfl (r:=[]) rfl
 have r1:rd dSs H (.s b1 0 0 1)=some [stB]:=flat_in Flat.str (l:=[stB]) h1 rfl (r:=[]) rfl
 refine De.sl_in (xs:=q0.items) (off:=0) h2 (Nat.le_refl 10) fun i hi => ?_
 match i,hi with
 | 0,_=>exact deItc_in (x:=⟨false,[stA],sta,1,1⟩) r0
 | 1,_=>exact deItc_in (x:=⟨true,[stB],stn,1,1⟩) r1
 | i+2,hi=>exact absurd hi (by simp[q0])
theorem st_wh {H:Heap} {b:Nat} (h0:H b=some ⟨wh0.flatMap ncells,0,true,6⟩):rd dNs H (.s b 0 0 3)=some q0.wh:=flat_in Flat.nd (l:=wh0) h0 rfl (r:=[]) (by rw[List.append_nil])
section
variable {h:Heap} {n:Nat}
structure A34 (h:Heap) (n:Nat) (sa qa qb qc:AV) (s:St):Prop where
 m1:∃m,s.e 1=.p m 0 0∧s.h m=some ⟨[sa],0,true,1⟩
 m2:∃m,s.e 2=.p m 0 0∧s.h m=some ⟨qcells q0 qa qb qc,0,true,7⟩
 e1:rd dTys s.h sa=some sc0
 e2:deQ s.h (.g (qcells q0 qa qb qc))=some q0
 ag:agree n h s.h
 fr:Fresh s.n s.h
 nn:n≤s.n
theorem g78 (h:Heap) (o k:Int) (v z:ByteArray):G78 [.v (.int .i64 o),.v (.string v),.v (.string z),.v (.int .i64 k)] h=⟨True,.g [.v (.int .i64 o),.v (.int .i64 k),.v (.string v),.v (.string z),.v (.int .i64 (-1)),.v (.int .i64 (-1))]⟩:=rfl
theorem b34a (hn:Fresh n h) (e:Nat→AV) {Q}:awp (cz SP (pfL tbSt)) (hdC 4 (Tryz.f34.body.getD .skip)) (thenQ (fun s=>∃sa qa qb qc,A34 h n sa qa qb qc s) Q) ⟨e,h,n⟩:=by
 simp[evz,hdC,Tryz.f34,tbSt,g78]
 refine⟨.s (n+1) 0 0 2,.s (n+6) 0 0 2,.s (n+9) 0 0 3,nilA,⟨n+2,by simp[up],by simp[up]⟩,⟨n+7,by simp[up],by simp[up,qcells,q0,ii,ss,nilA];rfl⟩,st_sc (b0:=n) (by simp[up];rfl) (by simp[up,ss,stA,stB]),?_,by simp[agree_up,agree_refl],by simp[fresh_up,hn.add],by simp⟩
 exact deQ_in (q:=q0) (st_it (b0:=n+4) (b1:=n+5) (by simp[up];rfl) (by simp[up];rfl) (by simp[up,ss,ii,bv,sta,stn])) (st_wh (by simp[up];rfl)) rfl
end
end
section
structure SQ (sc:List Ty) (q:Qu):Prop where
 s1:sc.length*40≤140737488355328
 s2:∀t∈sc,t.attrs.length*16≤140737488355328
 q1:q.items.length*64≤140737488355328
 qt:∀it∈q.items,it.types.length*16≤140737488355328
 q2:smallT q.wh
 r2:∀x∈q.wh,Rng x.n
 q3:q.ret.length*24≤140737488355328
 q4:∀t∈q.ret,smallT t
 r4:∀t∈q.ret,∀x∈t,Rng x.n
section
variable {sc:List Ty} {q:Qu}
theorem SQ.ok (w:SQ sc q):okCh (sc,q):=by
 have a1:=w.s1
 have a2:=w.q1
 have a3:=w.q3
 refine⟨⟨show sc.length<_ by unfold big;omega,fun t ht=>by have:=w.s2 t ht;unfold big;omega⟩,show q.items.length<_ by unfold big;omega,fun i hi => ?_,w.q2,show q.ret.length<_ by unfold big;omega,fun i hi => ?_⟩
 ·rw[List.getD_eq_getElem?_getD,List.getElem?_eq_getElem hi,Option.getD_some]
  have:=w.qt _ (List.getElem_mem hi)
  unfold big;omega
 ·rw[List.getD_eq_getElem?_getD,List.getElem?_eq_getElem hi,Option.getD_some]
  exact w.q4 _ (List.getElem_mem hi)
theorem SQ.tl (w:SQ sc q):sc.length*8≤140737488355328:=by have:=w.s1;omega
theorem SQ.vs (w:SQ sc q):(vars q.items).length<big:=by have:=w.q1;simp only[vars,List.length_map];unfold big;omega
theorem conj_is {t:List Nd} (h:t∈conjs q):∃r,t=subT q.wh r∧r∈rootsQ q.wh:=by
 rw[conjs_roots]at h
 obtain⟨r,h1,rfl⟩:=List.mem_map.1 h
 exact⟨r,rfl,h1⟩
theorem SQ.conj (w:SQ sc q) {t:List Nd} (h:t∈conjs q):smallT t∧(∀x∈t,Rng x.n):=by
 obtain⟨r,rfl,h1⟩:=conj_is h
 obtain⟨h2,h3⟩:=roots_lt h1
 refine⟨sub_small h2 h3 w.q2,fun x hx => ?_⟩
 simp only[subT,cutT,List.mem_map]at hx
 obtain⟨y,hy,rfl⟩:=hx
 exact w.r2 y (List.mem_of_mem_drop (List.mem_of_mem_take hy))
theorem SQ.comp (w:SQ sc q) {t:List Nd} (h:t∈conjs q):PrOk (compP sc (vars q.items) t):=comp_ok w.vs (w.conj h).1 w.tl (w.conj h).2
theorem conjs_le (w:SQ sc q):(conjs q).length≤1099511627776:=by rw[conjs_roots,List.length_map];exact roots_len w.q2
theorem tys_len (W:Wf sc q) {i:Nat} (hi:i<q.items.length):(tysOf sc (itA q i)).length≤16:=by
 rw[tysOf,List.length_map]
 exact W.short.2.2.2.2 _ (by rw[itA_at hi];exact List.getElem_mem hi)
theorem ownL_ok (w:SQ sc q) {i:Int} {f:Pr} (hf:f∈ownL sc q (conjs q) i):PrOk f:=by
 simp only[ownL,List.mem_map,List.mem_filter]at hf
 obtain⟨t,⟨ht,_⟩,rfl⟩:=hf
 exact w.comp ht
theorem restL_ok (w:SQ sc q) {i:Int} {f:Pr} (hf:f∈restL sc q (conjs q) i):PrOk f:=by
 simp only[restL,List.mem_map,List.mem_filter]at hf
 obtain⟨t,⟨ht,_⟩,rfl⟩:=hf
 exact w.comp ht
theorem plan_cm {k:Cmp} (hk:k∈(planOf sc q).comps):∃i,i<q.items.length∧(itA q i).neg=false∧k=cmpOf sc q (conjs q) i:=by
 have hk:k∈cmpsOf sc q (conjs q) q.items.length:=hk
 rw[cmpsOf,List.mem_map]at hk
 obtain⟨i,hi,rfl⟩:=hk
 obtain⟨h1,h2⟩:=posI_mem.1 hi
 exact⟨i,h1,h2,rfl⟩
theorem plan_ng {k:Ng} (hk:k∈(planOf sc q).negs):∃i,i<q.items.length∧(itA q i).neg=true∧k=ngOf sc q (conjs q) i:=by
 have hk:k∈ngsOf sc q (conjs q) q.items.length:=hk
 rw[ngsOf,List.mem_map]at hk
 obtain⟨i,hi,rfl⟩:=hk
 obtain⟨h1,h2⟩:=negI_mem.1 hi
 exact⟨i,h1,h2,rfl⟩
theorem plan_tk (W:Wf sc q) (w:SQ sc q) {c:Int} {x:Ev} (hx:EvOk x):okTk (planOf sc q,c,x):=by
 have h1:=W.n1
 have h2:=posneg q q.items.length
 have h3:=conjs_le w
 refine⟨by show q.items.length≤_;omega,by show (cmpsOf sc q (conjs q) q.items.length).length<_;rw[cmpsOf,List.length_map];unfold big;omega,fun k hk => ?_,hx⟩
 obtain⟨i,hi,_,rfl⟩:=plan_cm hk
 exact⟨by have:=tys_len W hi;show (tysOf sc (itA q i)).length<_;unfold big;omega,by have:=@ownL_len sc q (conjs q) i;show (ownL sc q (conjs q) i).length<_;unfold big;omega,fun f hf=>ownL_ok w hf⟩
theorem plan_gd (W:Wf sc q) (w:SQ sc q) {c:Int} {x:Ev} (hx:EvOk x):okGd (planOf sc q,c,x):=by
 have h1:=W.n1
 have h2:=posneg q q.items.length
 have h3:=conjs_le w
 refine⟨by show q.items.length≤_;omega,by show (ngsOf sc q (conjs q) q.items.length).length<_;rw[ngsOf,List.length_map];unfold big;omega,fun k hk => ?_,hx⟩
 obtain⟨i,hi,_,rfl⟩:=plan_ng hk
 exact⟨by have:=tys_len W hi;show (tysOf sc (itA q i)).length<_;unfold big;omega,by have:=@ownL_len sc q (conjs q) i;show (ownL sc q (conjs q) i).length<_;unfold big;omega,fun f hf=>ownL_ok w hf⟩
end
theorem sq0:SQ sc0 q0:=by
 refine⟨by decide,?_,by decide,?_,by unfold smallT;decide,?_,by decide,?_,?_⟩
 ·intro t ht
  simp only[sc0,List.mem_cons,List.not_mem_nil,or_false]at ht
  rcases ht with rfl|rfl<;>simp
 ·intro t ht
  simp only[q0,List.mem_cons,List.not_mem_nil,or_false]at ht
  rcases ht with rfl|rfl<;>simp
 ·intro t ht
  simp only[q0,wh0,List.mem_cons,List.not_mem_nil,or_false]at ht
  rcases ht with rfl|rfl|rfl<;>simp[Rng]
 ·intro t ht;simp[q0]at ht
 ·intro t ht;simp[q0]at ht
theorem wf0:Wf sc0 q0:=(wf_of chk0).2
end
end Go.Proofs.YtbffkkeieihpdaaGreatDoor
namespace Go.Proofs.YtbffkkeieihpdaaGreatDoor
open Go Go.Eng Go.RowKit Go.ChangeShapes Go.WideShapes Go.Joins
theorem opens_itF:Opens Tryz.prog 71 dIt fun it=>it.types.length*16≤reachBytes:=by
 refine Opens.conv (Opens.struct Tryz.underlying71 (tot:=5) (by kernel_rfl) (OpensF.cons rfl (n:=1) (by kernel_rfl) (by decide) opens_b (OpensF.cons rfl (n:=1) (by kernel_rfl) (by decide) opens_93 (OpensF.cons rfl (n:=1) (by kernel_rfl) (by decide) opens_s (OpensF.cons rfl (n:=1) (by kernel_rfl) (by decide) opens_i (OpensF.one rfl (by kernel_rfl) opens_i)))))) fun h l x e ok => ?_
 obtain⟨e1,e2⟩:=pair_run e
 obtain⟨e3,e4⟩:=pair_run e2
 have h1:=tk_cons (bool_flat6 _ _ _ e1)
 obtain⟨a,ha⟩:=sl_one e3
 have h2:=tk_cons ha
 have h3:=pair_flat str_flat (pair_flat (int_flat .i64) (int_flat .i64)) h _ _ e4
 rw[ha]at e3
 have e3':rd dSs h a=some x.2.1:=e3
 refine⟨⟨x.1,x.2.1,x.2.2.1,x.2.2.2.1,x.2.2.2.2⟩,?_,ok.2.1.1⟩
 rw[h1,h2,h3]
 exact deItc_in (x:=⟨x.1,x.2.1,x.2.2.1,x.2.2.2.1,x.2.2.2.2⟩) e3'
theorem opens_25F:Opens Tryz.prog 25 dIts fun l=>l.length*64≤reachBytes∧∀x∈l,x.types.length*16≤reachBytes:=Opens.sl Tryz.underlying25 (sz:=5) (by kernel_rfl) (by decide) (by kernel_rfl) opens_itF
structure QuOkF (q:Qu):Prop where
 items:q.items.length*64≤reachBytes
 its:∀it∈q.items,it.types.length*16≤reachBytes
 wh:q.wh.length*64≤reachBytes
 whr:∀x∈q.wh,Rng x.n
 ret:q.ret.length*24≤reachBytes
 rets:∀t∈q.ret,t.length*64≤reachBytes
 retr:∀t∈q.ret,∀x∈t,Rng x.n
theorem opens_quF:Opens Tryz.prog 31 dQu QuOkF:=by
 refine Opens.conv (Opens.struct Tryz.underlying31 (tot:=7) (by kernel_rfl) (OpensF.cons rfl (n:=1) (by kernel_rfl) (by decide) opens_25F (OpensF.cons rfl (n:=1) (by kernel_rfl) (by decide) opens_26 (OpensF.cons rfl (n:=1) (by kernel_rfl) (by decide) opens_27 (OpensF.cons rfl (n:=1) (by kernel_rfl) (by decide) opens_28 (OpensF.cons rfl (n:=1) (by kernel_rfl) (by decide) opens_i2 (OpensF.cons rfl (n:=1) (by kernel_rfl) (by decide) opens_s (OpensF.one rfl (by kernel_rfl) opens_29)))))))) fun h l x e ok => ?_
 obtain⟨x1,x2,x3,x4,x5,x6,x7⟩:=x
 obtain⟨o1,o2,o3,o4,o5,o6,o7⟩:=ok
 obtain⟨e1,e⟩:=pair_run e
 obtain⟨e2,e⟩:=pair_run e
 obtain⟨e3,e⟩:=pair_run e
 obtain⟨e4,e⟩:=pair_run e
 obtain⟨e5,e⟩:=pair_run e
 obtain⟨e6,e7⟩:=pair_run e
 obtain⟨a,ha⟩:=sl_one e1
 obtain⟨b,hb⟩:=sl_one e4
 obtain⟨c,hc⟩:=sl_one e7
 have h1:=tk_cons ha
 have h2:=tk_cons (int_flat .i64 _ _ _ e2)
 have h3:=tk_cons (int_flat .i64 _ _ _ e3)
 have h4:=tk_cons hb
 have h5:=tk_cons (int_flat .i64 _ _ _ e5)
 have h6:=tk_cons (str_flat _ _ _ e6)
 rw[ha]at e1
 rw[hb]at e4
 rw[hc]at e7
 have e1':rd dIts h a=some x1:=e1
 have e4':rd dNs h b=some x4:=e4
 have e7':rd dNss h c=some x7:=e7
 refine⟨⟨x1,x2,x3,x4,x5,x6,x7⟩,?_,o1.1,o1.2,o4.1,o4.2,o7.1,fun t ht=>(o7.2 t ht).1,fun t ht=>(o7.2 t ht).2⟩
 rw[h1,h2,h3,h4,h5,h6,hc]
 exact deQ_in (q:=⟨x1,x2,x3,x4,x5,x6,x7⟩) e1' e4' e7'
theorem sq_of {sc:List Ty} {q:Qu} (h1:sc.length*40≤reachBytes) (h2:∀t∈sc,t.attrs.length*16≤reachBytes) (h3:QuOkF q):SQ sc q:=by
 have hr:reachBytes=140737488351232:=rfl
 have k1:=h3.items
 have k2:=h3.wh
 have k3:=h3.ret
 rw[hr]at h1 k1 k2 k3
 refine⟨by omega,fun t ht => ?_,by omega,fun t ht => ?_,by unfold smallT;omega,h3.whr,by omega,fun t ht => ?_,h3.retr⟩
 ·have:=h2 t ht;rw[hr]at this;omega
 ·have:=h3.its t ht;rw[hr]at this;omega
 ·have:=h3.rets t ht;rw[hr]at this;unfold smallT;omega
theorem roH_sim (h:Heap):h.sim (roH h):=fun i k e=>⟨k.ro,by simp[roH,e],rfl,rfl⟩
end Go.Proofs.YtbffkkeieihpdaaGreatDoor
namespace Go.Proofs.YtbffkkeieihpdaaGreatDoor
open Go Go.Eng
structure Evr where
 sc:List Ty
 t:List Nd
 its:List Int
 en:En
def deEvc (h:Heap):List AV→Option Evr
 | [a,b,c,d,.v (.int .i64 each),.v (.int .i64 pos)]=>match rd dTys h a,rd dNs h b,rd dIs h c,rd dEss h d with
  | some x,some y,some z,some w=>some ⟨x,y,z,⟨w,each,pos⟩⟩
  | _,_,_,_=>none
 | _=>none
theorem deEvc_out {h:Heap} {l:List AV} {q:Evr} (e:deEvc h l=some q):∃a b c d,l=[a,b,c,d,ii q.en.each,ii q.en.pos]∧rd dTys h a=some q.sc∧rd dNs h b=some q.t∧rd dIs h c=some q.its∧rd dEss h d=some q.en.ls:=by
 unfold deEvc at e
 split at e
 ·split at e
  ·rename_i e1 e2 e3 e4
   cases e
   exact⟨_,_,_,_,rfl,e1,e2,e3,e4⟩
  ·cases e
 ·cases e
theorem deEvc_in {h:Heap} {a b c d:AV} {q:Evr} (h1:rd dTys h a=some q.sc) (h2:rd dNs h b=some q.t) (h3:rd dIs h c=some q.its) (h4:rd dEss h d=some q.en.ls):deEvc h [a,b,c,d,.v (.int .i64 q.en.each),.v (.int .i64 q.en.pos)]=some q:=by
 simp only[deEvc,h1,h2,h3,h4]
def deEvr (h:Heap):AV→Option Evr
 | .p id v 0=>match h id with
  | some k=>if k.ver=v then deEvc h k.cells else none
  | none=>none
 | _=>none
theorem deEvr_out {h:Heap} {x:AV} {q:Evr} (e:deEvr h x=some q):∃id a b c d ver own esz,x=.p id ver 0∧h id=some ⟨[a,b,c,d,.v (.int .i64 q.en.each),.v (.int .i64 q.en.pos)],ver,own,esz⟩∧rd dTys h a=some q.sc∧rd dNs h b=some q.t∧rd dIs h c=some q.its∧rd dEss h d=some q.en.ls:=by
 unfold deEvr at e
 split at e
 ·split at e
  ·rename_i k hk
   split at e
   ·rename_i hv
    obtain⟨a,b,c,d,h1,h2,h3,h4,h5⟩:=deEvc_out e
    obtain⟨cells,ver,own,esz⟩:=k
    simp only[]at h1 hv
    subst h1;subst hv
    exact⟨_,a,b,c,d,_,own,esz,rfl,hk,h2,h3,h4,h5⟩
   ·cases e
  ·cases e
 ·cases e
theorem deEvr_in {h:Heap} {id ver:Nat} {own:Bool} {esz:Nat} {a b c d:AV} {q:Evr} (hk:h id=some ⟨[a,b,c,d,.v (.int .i64 q.en.each),.v (.int .i64 q.en.pos)],ver,own,esz⟩) (h1:rd dTys h a=some q.sc) (h2:rd dNs h b=some q.t) (h3:rd dIs h c=some q.its) (h4:rd dEss h d=some q.en.ls):deEvr h (.p id ver 0)=some q:=by
 simp only[deEvr,hk,if_true,deEvc_in h1 h2 h3 h4]
theorem deEvr_sim {h h':Heap} (hh:h.sim h') {x:AV} {q:Evr} (e:deEvr h x=some q):deEvr h' x=some q:=by
 obtain⟨id,a,b,c,d,ver,own,esz,rfl,hk,r1,r2,r3,r4⟩:=deEvr_out e
 obtain⟨⟨cells,ver',own',esz'⟩,hk',h1,h2⟩:=hh _ _ hk
 simp only[]at h1 h2
 subst h1;subst h2
 exact deEvr_in hk' (rd_sim hh r1) (rd_sim hh r2) (rd_sim hh r3) (rd_sim hh r4)
theorem evr_agree {h:Heap} {n:Nat} {a:AV} {x:Evr} (hn:∀i,n≤i→h i=none) (e:deEvr h a=some x):∀h',agree n (roH h) h'→deEvr h' a=some x:=fun _ ha=>deEvr_sim (agree_sim hn ha) e
def smallR (sc:List Ty) (l:List Ev):Prop:=smallS sc∧l.length<big
def de109 (h:Heap):List AV→Option (Evr×List Ev×Int×ByteArray)
 | [p,a,.v (.int .i64 x),.v (.string s)]=>match deEvr h p,rd dEs h a with
  | some q,some l=>some (q,l,x,s)
  | _,_=>none
 | _=>none
theorem de109_out {h:Heap} {args:List AV} {q:Evr×List Ev×Int×ByteArray} (e:de109 h args=some q):∃p a,args=[p,a,ii q.2.2.1,ss q.2.2.2]∧deEvr h p=some q.1∧rd dEs h a=some q.2.1:=by
 unfold de109 at e
 split at e
 ·split at e
  ·rename_i e1 e2
   cases e
   exact⟨_,_,rfl,e1,e2⟩
  ·cases e
 ·cases e
theorem de109_mono (h h':Heap) (args:List AV) (q:Evr×List Ev×Int×ByteArray) (hh:h.le h') (e:de109 h args=some q):de109 h' args=some q:=by
 obtain⟨p,a,rfl,e1,e2⟩:=de109_out e
 simp only[de109,ii,ss,deEvr_sim hh.sim e1,rd_mono hh e2]
def G109:=pureH de109 (fun q=>smallR q.1.sc q.2.1) fun q=>vv (oneV q.2.1 q.2.2.1 (colOf q.1.sc q.2.2.2))
def tb109:List (FuncId×(List AV→Heap→PRes)):=[(116,GAt),(212,g124)]
theorem P109:P0 [] 195 G109:=by
 refine mkH 4 (S:=[]) (l:=tb109) (tb_cons P121 (tb_cons p124 tb_nil)) Tryz.func195 rfl (by kernel_rfl) de109_mono (fun h l x e=>by obtain⟨p,a,rfl,_⟩:=de109_out e;exact Nat.le_refl _) (fun a=>rfl) (fun args q h n e hp hn => ?_)
 obtain⟨q,l,i,attr⟩:=q
 obtain⟨p,a,rfl,e1,e2⟩:=de109_out e
 simp only[]at e1 e2 ⊢
 obtain⟨hp1,hp2⟩:=hp
 simp only[]at hp1 hp2
 obtain⟨id',c1,c2,c3,c4,ver',own',esz',rfl,hk',r1,r2,r3,r4⟩:=deEvr_out e1
 obtain⟨s1,s2,s3,s4,s5⟩:=sl_is e2
 obtain⟨t1,t2,t3,t4,t5⟩:=sl_is r1
 by_cases hi:i<0
 ·simp[evw,ii,vv,one_low _ hi,unk,hi,s1,s2,s3]
 obtain⟨j,rfl⟩:∃j:Nat,i=j:=⟨i.toNat,by omega⟩
 by_cases hj:j<l.length
 ·rcases es_at e2 with ⟨h0,_⟩|⟨id,off,k,rfl,hk,ho,hat⟩
  ·rw[h0]at hj;simp at hj
  have hr:=hat j hj
  have hro:=ro_at hk
  have h0:=ne_of hk hn 0
  have hro':=ro_at hk'
  have h0':=ne_of hk' hn 0
  simp only[Nat.add_zero]at h0 h0' hro'
  have hle:∀(X:Ctx) (h':Heap),h' id=some ⟨k.cells,k.ver,false,k.esz⟩→ldcs X h' (.p id k.ver (off+j*11)) 0 11=ecells l[j]:=fun X h' e=>ldcs_ev e hr
  have hw:off+(j*11+11)≤k.cells.length:=by omega
  have hw2:off+(j*11+3)≤k.cells.length:=by omega
  have hty:=cell_of (c:=2) hr rfl (by omega)
  rw[Nat.add_assoc]at hty
  have hj':¬l.length≤j:=by omega
  have gsc:∀h',agree n (roH h) h'→deSc h' (.g [c1])=some q.sc:=fun h' ha=>rd_agree hn r1 h' ha
  have hv:=one_col (sc:=q.sc) (name:=attr) hj
  rw[hv]
  generalize l[j]=ev1 at *
  simp[evw,ii,ss,vv,hj,hj',hro,h0,hro',h0',hle,hw,hw2,hty,tb109,GAt,pureH,deAt,gsc,agree_up,agree_refl,hp1,g124,pure2,deE_ee,deI]
 ·have hj':l.length≤j:=by omega
  simp[evw,ii,vv,one_high _ (show (l.length:Int)≤(j:Int) by omega),unk,hj',s1,s2,s3]
def okF (sc:List Ty) (l:List Ev):Prop:=smallS sc∧l.length≤2147483647∧∀e∈l,EvOk e
def de110 (h:Heap):List AV→Option (Evr×List Ev×Nd)
 | [p,a,x]=>match deEvr h p,rd dEs h a,deN x with
  | some q,some l,some x=>some (q,l,x)
  | _,_,_=>none
 | _=>none
theorem de110_out {h:Heap} {args:List AV} {q:Evr×List Ev×Nd} (e:de110 h args=some q):∃p a,args=[p,a,nn q.2.2]∧deEvr h p=some q.1∧rd dEs h a=some q.2.1:=by
 unfold de110 at e
 split at e
 ·split at e
  ·rename_i e1 e2 e3
   cases e
   exact⟨_,_,by rw[deN_out e3],e1,e2⟩
  ·cases e
 ·cases e
theorem de110_mono (h h':Heap) (args:List AV) (q:Evr×List Ev×Nd) (hh:h.le h') (e:de110 h args=some q):de110 h' args=some q:=by
 obtain⟨p,a,rfl,e1,e2⟩:=de110_out e
 simp only[de110,deEvr_sim hh.sim e1,rd_mono hh e2,nn,deN_nn]
def G110:=pureH de110 (fun q=>okF q.1.sc q.2.1) fun q=>vv (allV q.2.1 (colOf q.1.sc q.2.2.attr) q.2.2.op)
def tb110:List (FuncId×(List AV→Heap→PRes)):=[(195,G109),(213,g33)]
theorem P110:P0 [1] 196 G110:=by
 refine mkH 3 (S:=[1]) (l:=tb110) (tb_cons P109 (tb_cons p33 tb_nil)) Tryz.func196 rfl (by kernel_rfl) de110_mono (fun h l x e=>by obtain⟨p,a,rfl,_⟩:=de110_out e;exact Nat.le_refl _) (fun a=>rfl) (fun args q h n e hp hn => ?_)
 obtain⟨v,l,⟨op,num,var,attr,xa,xb⟩⟩:=q
 obtain⟨p,a,rfl,e0,e1⟩:=de110_out e
 obtain⟨hsc,hl,hev⟩:=hp
 simp only[]at e0 e1 hsc hl hev ⊢
 obtain⟨s1,s2,s3,s4,s5⟩:=sl_is e1
 have g0:=evr_agree hn e0
 have g1:=rd_agree hn e1
 obtain⟨id',c1,c2,c3,c4,ver',own',esz',hpp,_⟩:=deEvr_out e0
 have p1:p.one∧(∀g,AV.unc g p=p)∧p.cells=[p]∧p.isPtr:=by rw[hpp];exact⟨trivial,fun _=>rfl,rfl,trivial⟩
 obtain⟨p1,p2,p3,p4⟩:=p1
 generalize hc':colOf v.sc attr=c' at *
 have key:∀e:Nat→AV,e 0=p→e 1=a→e 2=nn ⟨op,num,var,attr,xa,xb⟩→awp (cx [1] (pfL tb110)) (Tryz.f196.body.getD .skip) (finQ (cx [1] (pfL tb110)) Tryz.f196 fun z _ _=>z=vv (allV l c' op)) ⟨e,roH h,n⟩:=fun e q0 q1 q2=>by
  simp[evx,Tryz.f196,q0,q1,q2,nn,ncells,ii,ss,s1,s2,s3]
  refine awp_loop (fun s=>∃j,j≤l.length∧s.e 0=p∧s.e 1=a∧s.e 5=.p n 0 0∧s.e 6=.p (n+1) 0 0∧Own s.h (n+2) s.n (s.e 7) j ((colN l c' j).map ii) 1∧s.e 10=a∧s.e 11=ii l.length∧s.e 12=ii j∧agree n (roH h) s.h∧s.h n=some ⟨[ii op,ii num,ss var,ss attr,ii xa,ii xb],0,true,6⟩∧s.h (n+1)=some ⟨[.v (.bool false),.v (.int .i64 0)],0,true,2⟩∧n+2≤s.n∧knownTo l c' j=true) (fun s=>l.length-(s.e 12).i.toNat) ⟨0,by simp[up,q0,q1,q2,ii,ss,agree_up,agree_refl,colN,knownTo,Own]⟩ ?_
  rintro e' h' n' ⟨j,hj,q0,q1,q5,q6,hown,q10,q11,q12,hag,hb,hr,hnn,hkn⟩
  simp only[]at q0 q1 q5 q6 hown q10 q11 q12 hag hb hr hnn
  have f1:n≤n':=by omega
  have f2:n≤n'+1:=by omega
  have f3:n≤n'+2:=by omega
  have f4:n≤n'+3:=by omega
  have z1:¬n=n':=by omega
  have z2:¬n=n'+1:=by omega
  have z3:¬n=n'+2:=by omega
  have z4:¬n=n'+3:=by omega
  have w1:¬n+1=n':=by omega
  have w2:¬n+1=n'+1:=by omega
  have w3:¬n+1=n'+2:=by omega
  have w4:¬n+1=n'+3:=by omega
  by_cases hlt:j<l.length
  ·have hw:=wrap_nat (j:=j) (by unfold big;omega)
   have hsm:smallR v.sc l:=⟨hsc,by simp only[big];omega⟩
   have hcn:=colN_ints l c' j
   have hcl:((colN l c' j).map ii).length=j:=by rw[List.length_map,colN_len]
   generalize hx:oneV l (j:Int) c'=x at *
   generalize (colN l c' j).map ii=cs at *
   have hb3:(j+1)*8≤140737488355328:=by omega
   have hb4:j+1≤9223372036854775807:=by omega
   cases hxk:x.k with
   | false =>
    have ha:=all_no op hlt (by rw[hx];exact hxk)
    have hu:x=unk:=by rw[←hx];exact oneV_unk (by rw[hx];exact hxk)
    subst hu
    simp[evx,q0,q1,q5,q6,q10,q11,q12,ii,ss,hlt,tb110,G109,pureH,de109,g0,g1,hag,agree_up,f1,f2,f3,hsm,hc',hx,vv,unk,z1,z2,z3,z4,w1,w2,w3,w4,hb,hr,ha,p1,p2,p3,p4]
   | true =>
    rcases hown with ⟨hj0,hnil,q7⟩|⟨w,u,q7,hk,hw1,hw2⟩
    ·simp[evx,q0,q1,q5,q6,q7,q10,q11,q12,ii,ss,hlt,tb110,G109,pureH,de109,g0,g1,hag,agree_up,f1,f2,f3,f4,hsm,hc',hx,vv,unk,z1,z2,z3,z4,w1,w2,w3,w4,hb,hr,hxk,hb3,hb4,hw,p1,p2,p3,p4]
     exact⟨⟨j+1,by omega,.inr ⟨n'+3,0,by rw[hj0],by rw[up_same,hcn,hnil];rfl,by omega,by omega⟩,by omega,by rw[knownTo_succ,hkn,hx,hxk];rfl⟩,by omega⟩
    ·have y1:¬w=n':=by omega
     have y2:¬w=n'+1:=by omega
     have y3:¬w=n'+2:=by omega
     have y4:n≤w:=by omega
     have y5:¬n=w:=by omega
     have y6:¬n+1=w:=by omega
     simp[evx,q0,q1,q5,q6,q7,q10,q11,q12,ii,ss,hlt,tb110,G109,pureH,de109,g0,g1,hag,agree_up,f1,f2,f3,f4,hsm,hc',hx,vv,unk,z1,z2,z3,z4,w1,w2,w3,w4,hb,hr,hk,hxk,hcl,hb3,hb4,hw,y1,y2,y3,y4,y5,y6,p1,p2,p3,p4]
     exact⟨⟨j+1,by omega,.inr ⟨w,u+1,rfl,by rw[up_same,hcn];rfl,by omega,by omega⟩,by omega,by rw[knownTo_succ,hkn,hx,hxk];rfl⟩,by omega⟩
  ·have hje:j=l.length:=by omega
   subst hje
   have hay:=all_yes op hkn
   have hcl:(colN l c' l.length).length=l.length:=colN_len ..
   have hlb:l.length<big:=by unfold big;omega
   have hdi:deIs (List.take l.length ((colN l c' l.length).map ii))=some (colN l c' l.length):=by
    rw[List.take_of_length_le (by rw[List.length_map,hcl];exact Nat.le_refl _),deIs_ii]
   generalize colN l c' l.length=cn at *
   rcases hown with ⟨h0,hnil,q7⟩|⟨w,u,q7,hk,hw1,hw2⟩
   ·have hcn0:cn=[]:=by simpa using hnil
    subst hcn0
    simp[evx,q0,q1,q5,q6,q7,q10,q11,q12,ii,ss,tb110,g33,pureAL,deI,ints,vv,hb,hr,hag,hay,big]
   ·simp[evx,q0,q1,q5,q6,q7,q10,q11,q12,ii,ss,tb110,g33,pureAL,deI,ints,vv,hb,hr,hk,hag,hay,hcl,hlb,hdi]
 exact key _ rfl rfl rfl
end Go.Proofs.YtbffkkeieihpdaaGreatDoor
