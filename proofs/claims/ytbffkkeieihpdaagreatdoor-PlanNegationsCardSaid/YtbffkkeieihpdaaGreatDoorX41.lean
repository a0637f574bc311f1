import Derived.Test.YtbffkkeieihpdaaGreatDoorX40
set_option linter.unusedSimpArgs false
set_option linter.unusedVariables false
set_option linter.constructorNameAsVariable false
set_option maxRecDepth 100000
set_option maxHeartbeats 4000000
namespace Go.Proofs.YtbffkkeieihpdaaGreatDoor
open Go Go.Eng
section
def tbN12:List (FuncId×(List AV→Heap→PRes)):=[(14,G14),(42,GBinds),(32,GGuards),(45,G31),(48,GNeg),(49,G49)]
structure AN (H:Heap) (n:Nat) (q:Qu) (sa qa qb qc ba:AV) (ng:Int) (x:Ev) (s:St):Prop where
 q2:s.e 2=ba
 q3:s.e 3=ii ng
 q5:s.e 5=.p n 0 0
 q6:s.e 6=.p (n+1) 0 0
 q9:s.e 9=.p (n+2) 0 0
 b0:s.h n=some ⟨[sa],0,true,1⟩
 b1:s.h (n+1)=some ⟨qcells q qa qb qc,0,true,7⟩
 b2:s.h (n+2)=some ⟨ecells x,0,true,11⟩
 ag:agree n H s.h
 fr:Fresh s.n s.h
 nn:n+3≤s.n
theorem AN.up {H:Heap} {n:Nat} {q:Qu} {sa qa qb qc ba:AV} {ng:Int} {x:Ev} {s s':St} (a:AN H n q sa qa qb qc ba ng x s) (he:∀i∈[2,3,5,6,9],s'.e i=s.e i) (ha:agree s.n s.h s'.h) (hf:Fresh s'.n s'.h) (hn:s.n≤s'.n):AN H n q sa qa qb qc ba ng x s':=by
 have:=a.nn
 exact⟨(he 2 (by simp)).trans a.q2,(he 3 (by simp)).trans a.q3,(he 5 (by simp)).trans a.q5,(he 6 (by simp)).trans a.q6,(he 9 (by simp)).trans a.q9,(ha _ (by omega)).trans a.b0,(ha _ (by omega)).trans a.b1,(ha _ (by omega)).trans a.b2,agree_trans a.ag ha (by omega),hf,by omega⟩
structure BN (H:Heap) (n:Nat) (sc:List Ty) (q:Qu) (sa qa qb qc ba:AV) (ng:Int) (x:Ev) (m:Nat) (p:Pt) (s:St):Prop where
 a:AN H n q sa qa qb qc ba ng x s
 q11:s.e 11=.p m 0 0
 b11:s.h m=some ⟨pcells p (planOf sc q),0,true,16⟩
 pl:PlR s.h p (planOf sc q)
theorem BN.up {H:Heap} {n:Nat} {sc:List Ty} {q:Qu} {sa qa qb qc ba:AV} {ng:Int} {x:Ev} {m:Nat} {p:Pt} {s s':St} (a:BN H n sc q sa qa qb qc ba ng x m p s) (he:∀i∈[2,3,5,6,9,11],s'.e i=s.e i) (ha:agree s.n s.h s'.h) (hf:Fresh s'.n s'.h) (hn:s.n≤s'.n):BN H n sc q sa qa qb qc ba ng x m p s' :=
 ⟨a.a.up (fun i hi=>he i (by simp at hi ⊢;omega)) ha hf hn,(he 11 (by simp)).trans a.q11,(ha _ (lt_of a.b11 a.a.fr)).trans a.b11,a.pl.sim (agr_sim a.a.fr ha)⟩
section
variable {H:Heap} {n:Nat} {sc:List Ty} {q:Qu} {sa qa qb qc ba:AV} {ng:Int} {x:Ev}
theorem law12a (e1:rd dTys H sa=some sc) (e2:deQ H (.g (qcells q qa qb qc))=some q) (w:SQ sc q) (hn:Fresh n H) (e:Nat→AV) (q0:e 0=.g [sa]) (q1:e 1=.g (qcells q qa qb qc)) (q2:e 2=ba) (q3:e 3=ii ng) (q4:e 4=ee x) :
  awp (cz SP (pfL tbN12)) (hdC 3 (Tryz.f12.body.getD .skip)) (thenQ (AN H n q sa qa qb qc ba ng x) (finQ (cz SP (pfL tbN12)) Tryz.f12 fun z _ _=>z=bv true)) ⟨e,H,n⟩:=by
 obtain⟨a',b',c',e0,x1,x2,x3⟩:=deQ_out e2
 cases e0
 have o1:=(sl_is e1).2.2.2.1
 have o2:=(sl_is x1).2.2.2.1
 have o3:=(sl_is x2).2.2.2.1
 have o4:=(sl_is x3).2.2.2.1
 have w3:smallT q.wh∧q.ret.length<big∧∀t∈q.ret,smallT t:=⟨w.q2,by have:=w.q3;unfold big;omega,w.q4⟩
 have gq:∀h',agree n H h'→G14 [.g [qa,.v (.int .i64 q.mode),.v (.int .i64 q.after),qb,.v (.int .i64 q.within),.v (.string q.par),qc]] h'=⟨smallT q.wh∧q.ret.length<big∧∀t∈q.ret,smallT t,bv (qdeep q)⟩:=fun h' ha=>by
  simp only[G14,pureH,deQ1,deQ_has (rd_agr hn x1 h' ha) (rd_agr hn x2 h' ha) (rd_agr hn x3 h' ha)]
 simp[evz,hdC,Tryz.f12,q0,q1,q2,q3,q4,qcells,ecells,ee,ii,uu,ss,o1,o2,o3,o4,tbN12]
 refine (acall_zz (S:=SP) (fun _ h=>h) (c34 ((fresh_up (by omega) _).2 ((fresh_up (by omega) _).2 ((fresh_up (by omega) _).2 (hn.add 3)))))).mono ?_
 rintro z h2 n2 ⟨a1,a2,a3,rfl⟩
 have ag:agree n H h2:=fun i hi=>by rw[a1 i (by omega),up_ne _ _ (by omega),up_ne _ _ (by omega),up_ne _ _ (by omega)]
 have b2:h2 (n+2)=_:=(a1 (n+2) (by omega)).trans (up_same _ _ _)
 have b1:h2 (n+1)=_:=((a1 (n+1) (by omega)).trans (up_ne _ _ (by omega))).trans (up_same _ _ _)
 have b0:h2 n=_:=(((a1 n (by omega)).trans (up_ne _ _ (by omega))).trans (up_ne _ _ (by omega))).trans (up_same _ _ _)
 cases hq:qdeep q with
 | true =>
  rw[hq]at gq
  simp[evz,bv,b1,gq,ag]
  exact w3
 | false =>
  rw[hq]at gq
  simp[evz,bv,b1,gq,ag]
  exact⟨w3,by simp[up,q2],by simp[up,q3,ii],by simp[up],by simp[up],by simp[up],b0,b1,b2,ag,a2,by omega⟩
end
end
section
section
variable {H:Heap} {n:Nat} {sc:List Ty} {q:Qu} {sa qa qb qc ba:AV} {ng:Int} {x:Ev} {b:List (List Ev)}
theorem law12b (e1:rd dTys H sa=some sc) (e2:deQ H (.g (qcells q qa qb qc))=some q) (rb:rd dEss H ba=some b) (hb1:b.length<big) (hb2:∀l∈b,l.length<big) (w:SQ sc q) (hn:Fresh n H) (e:Nat→AV) (h1:Heap) (n2:Nat) (a:AN H n q sa qa qb qc ba ng x ⟨e,h1,n2⟩) :
  awp (cz SP (pfL tbN12)) (hdC 2 (tlC 3 (Tryz.f12.body.getD .skip))) (thenQ (fun s=>Wf sc q∧bindsV (planOf sc q) b=true∧0≤ng∧ng<((planOf sc q).negs.length:Int)∧∃m p,BN H n sc q sa qa qb qc ba ng x m p s) (finQ (cz SP (pfL tbN12)) Tryz.f12 fun z _ _=>z=bv true)) ⟨e,h1,n2⟩:=by
 have a0:=a
 obtain⟨q2,q3,q5,q6,q9,b0,b1,b2,ag,fr,nn⟩:=a
 simp only[]at q2 q3 q5 q6 q9 b0 b1 b2 ag fr nn
 obtain⟨a',b',c',e0,x1,x2,x3⟩:=deQ_out e2
 cases e0
 have b1':h1 (n+1)=some ⟨[qa,.v (.int .i64 q.mode),.v (.int .i64 q.after),qb,.v (.int .i64 q.within),.v (.string q.par),qc],0,true,7⟩:=b1
 simp[evz,hdC,tlC,Tryz.f12,tbN12,q2,q3,q5,q6,b0,b1']
 refine (acall_zz (S:=[3]) (by simp[SP]) (c17 (rd_agr hn e1 _ ag) (deQ_in (q:=q) (rd_agr hn x1 _ ag) (rd_agr hn x2 _ ag) (rd_agr hn x3 _ ag)) w.ok fr)).mono ?_
 rintro z h2 n3 ⟨a1,a2,a3,hz⟩
 rcases hz with ⟨hz,rfl⟩|⟨hz,p,rfl,pl⟩
 ·generalize chk sc q=F at *
  obtain⟨c,pt,ix,sb⟩:=F
  simp only[]at hz
  simp[evz,zpl,nilA,ff,fcells,ii,ss,bv,hz]
 ·obtain⟨hz0,W⟩:=wf_of hz
  obtain⟨o1,o2,o3,o4,o5,o6,o7,o8,o9,o10⟩:=pl.is
  have hag:agree n H h2:=agree_trans ag a1 (by omega)
  have rb2:∀h',agree n3 h2 h'→rd dEss h' ba=some b:=fun h' ha=>rd_agr hn rb h' (agree_trans hag ha (by omega))
  have okb:okBn (planOf sc q,b):=⟨by simp only[];rw[plan_comps_len];have:=posneg q q.items.length;have:=W.n1;unfold big;omega,hb1,hb2,fun k hk=>by
   obtain⟨i,hi,_,rfl⟩:=plan_cm hk
   have:=tys_len W hi
   show (tysOf sc (itA q i)).length<big
   unfold big;omega⟩
  have gb:∀h',agree n3 h2 h'→GBinds [.g (pcells p (planOf sc q)),ba] h'=⟨okBn (planOf sc q,b),bv (bindsV (planOf sc q) b)⟩:=fun h' ha=>by
   have d1:rPl.run h' (.g (pcells p (planOf sc q)))=some (planOf sc q):=dePlan_in (pl.sim (agr_sim a2 ha))
   have d2:rEss.run h' ba=some b:=rb2 h' ha
   simp only[GBinds,pureH,de2,d1,d2,Option.bind_some,Option.map_some]
  have hbo:=(sl_is rb).2.2.1
  obtain⟨s1,s2,s3,s4,s5⟩:=sl_is pl.ng
  have fin:∀(e':Nat→AV) (h':Heap) (n':Nat),(∀i∈[2,3,5,6,9],e' i=e i)→e' 11=.p n3 0 0→h' n3=some ⟨pcells p (planOf sc q),0,true,16⟩→agree n3 h2 h'→Fresh n' h'→n3≤n'→∃m p,BN H n sc q sa qa qb qc ba ng x m p ⟨e',h',n'⟩:=fun e' h' n' k1 k2 k3 k4 k5 k6 =>
   ⟨n3,p,a0.up k1 (agree_trans a1 k4 a3) k5 (Nat.le_trans a3 k6),k2,k3,pl.sim (agr_sim a2 k4)⟩
  simp only[pcells,ff,fcells,fl0,ii,ss,bv]at fin gb ⊢
  generalize planOf sc q=P at *
  cases hbv:bindsV P b with
  | false =>
   rw[hbv]at gb
   simp[evz,o1,o2,o3,o4,o5,o6,o7,o8,o9,o10,q2,q3,gb,agree_up,agree_refl,okb,bv,hbo,ldcs_16q,s1,s2]
  | true =>
   rw[hbv]at gb
   by_cases h0:ng<0
   ·simp[evz,o1,o2,o3,o4,o5,o6,o7,o8,o9,o10,q2,q3,gb,agree_up,agree_refl,okb,bv,hbo,ldcs_16q,ii,h0,s1,s2]
   ·by_cases h9:(P.negs.length:Int)≤ng
    ·simp[evz,o1,o2,o3,o4,o5,o6,o7,o8,o9,o10,q2,q3,gb,agree_up,agree_refl,okb,bv,hbo,ldcs_16q,ii,h0,h9,s1,s2]
    ·simp[evz,o1,o2,o3,o4,o5,o6,o7,o8,o9,o10,q2,q3,gb,agree_up,agree_refl,okb,bv,hbo,ldcs_16q,ii,h0,h9,s1,s2]
     exact⟨W,by omega,by omega,fin _ _ _ (by simp[up]) (by simp[up]) (by simp[up]) (by simp[agree_up,agree_refl]) (by simp[fresh_up,a2.add]) (by omega)⟩
end
end
section
structure CN (H:Heap) (n:Nat) (sc:List Ty) (q:Qu) (sa qa qb qc ba:AV) (ng:Int) (x:Ev) (m:Nat) (p:Pt) (m2:Nat) (g:Ng) (ty ow cn:AV) (s:St):Prop where
 b:BN H n sc q sa qa qb qc ba ng x m p s
 q13:s.e 13=.p m2 0 0
 b13:s.h m2=some ⟨[ii g.item,ty,ii g.after,ii g.before,ow,cn],0,true,6⟩
 rt:rd dIs s.h ty=some g.types
 rr:rd dPrs s.h cn=some g.rest
theorem CN.up {H:Heap} {n:Nat} {sc:List Ty} {q:Qu} {sa qa qb qc ba:AV} {ng:Int} {x:Ev} {m:Nat} {p:Pt} {m2:Nat} {g:Ng} {ty ow cn:AV} {s s':St} (a:CN H n sc q sa qa qb qc ba ng x m p m2 g ty ow cn s) (he:∀i∈[2,3,5,6,9,11,13],s'.e i=s.e i) (ha:agree s.n s.h s'.h) (hf:Fresh s'.n s'.h) (hn:s.n≤s'.n):CN H n sc q sa qa qb qc ba ng x m p m2 g ty ow cn s' :=
 ⟨a.b.up (fun i hi=>he i (by simp at hi ⊢;omega)) ha hf hn,(he 13 (by simp)).trans a.q13,(ha _ (lt_of a.b13 a.b.a.fr)).trans a.b13,rd_agr a.b.a.fr a.rt _ ha,rd_agr a.b.a.fr a.rr _ ha⟩
section
variable {H:Heap} {n:Nat} {sc:List Ty} {q:Qu} {sa qa qb qc ba:AV} {ng:Int} {x:Ev} {b:List (List Ev)} {m:Nat} {p:Pt}
theorem law12c (W:Wf sc q) (w:SQ sc q) (h0:0≤ng) (h9:ng<((planOf sc q).negs.length:Int)) (e2:deQ H (.g (qcells q qa qb qc))=some q) (hn:Fresh n H) (e:Nat→AV) (h1:Heap) (n2:Nat) (a:BN H n sc q sa qa qb qc ba ng x m p ⟨e,h1,n2⟩) {Q:Ex→St→Prop} :
  awp (cz SP (pfL tbN12)) (hdC 3 (tlC 5 (Tryz.f12.body.getD .skip))) (thenQ (fun s=>s.e 14=bv false∧∃m2 ty ow cn,CN H n sc q sa qa qb qc ba ng x m p m2 ((planOf sc q).negs.getD ng.toNat ng0) ty ow cn s) Q) ⟨e,h1,n2⟩:=by
 have a0:=a
 obtain⟨⟨q2,q3,q5,q6,q9,b0,b1,b2,ag,fr,nn⟩,q11,b11,pl⟩:=a
 simp only[]at q2 q3 q5 q6 q9 b0 b1 b2 ag fr nn q11 b11 pl
 obtain⟨a',b',c',e0,x1,x2,x3⟩:=deQ_out e2
 cases e0
 have b1':h1 (n+1)=some ⟨[qa,.v (.int .i64 q.mode),.v (.int .i64 q.after),qb,.v (.int .i64 q.within),.v (.string q.par),qc],0,true,7⟩:=b1
 have eq1:deQ h1 (.g (qcells q qa qb qc))=some q:=deQ_sim (agr_sim hn ag) e2
 obtain⟨G,hG⟩:∃G,G=(planOf sc q).negs.getD ng.toNat ng0:=⟨_,rfl⟩
 rw[←hG]
 simp[evz,hdC,tlC,Tryz.f12,tbN12,q6,b1']
 refine (acall_z (S:=[3]) (by simp[SP]) (c43 fr eq1 (by have:=W.n1;omega) w.q2)).mono ?_
 rintro z h2 n3 ⟨rfl,a1,a2,a3⟩
 have pl2:PlR h2 p (planOf sc q):=pl.sim (agr_sim fr a1)
 have b11':h2 m=_:=(a1 _ (lt_of b11 fr)).trans b11
 obtain⟨j,rfl⟩:=Int.eq_ofNat_of_zero_le h0
 have hj:j<(planOf sc q).negs.length:=by omega
 obtain⟨gid,goff,gk,gty,gow,gcn,g1,g2,g3,g4,g5,g6,t0,t1,t2,t3,t4,t5⟩:=ng_cell pl2.ng hj
 have hg:(planOf sc q).negs[j]=G:=by
  rw[hG,Int.toNat_natCast,List.getD_eq_getElem?_getD,List.getElem?_eq_getElem hj];rfl
 rw[hg]at g4 g5 g6 t0 t2 t3
 have fin:∀(e':Nat→AV) (h':Heap) (n':Nat),(∀i∈[2,3,5,6,9,11],e' i=e i)→e' 13=.p n3 0 0→h' n3=some ⟨[ii G.item,gty,ii G.after,ii G.before,gow,gcn],0,true,6⟩→agree n3 h2 h'→Fresh n' h'→n3≤n'→∃m2 ty ow cn,CN H n sc q sa qa qb qc ba j x m p m2 G ty ow cn ⟨e',h',n'⟩:=fun e' h' n' k1 k2 k3 k4 k5 k6 =>
  ⟨n3,gty,gow,gcn,a0.up k1 (agree_trans a1 k4 a3) k5 (Nat.le_trans a3 k6),k2,k3,rd_agr a2 g4 _ k4,rd_agr a2 g6 _ k4⟩
 have gl:goff+(j*6+6)≤gk.cells.length:=by omega
 have v1:=(sl_is g4).2.2.2.1
 have v2:=(sl_is g5).2.2.2.1
 have v3:=(sl_is g6).2.2.2.1
 simp only[pcells,ii,ss,bv]at fin b11'
 simp only[ii]at t0 t2 t3
 have gl1:goff+(j*6+1)≤gk.cells.length:=by omega
 generalize planOf sc q=P at *
 simp[evz,bv,b11',q3,q11,ii,g1,g2,hj,gl,gl1,t0,t1,t2,t3,t4,t5,v1,v2,v3,ldcs_6]
 exact fin _ _ _ (by simp[up]) (by simp[up]) (by simp[up]) (by simp[agree_up,agree_refl]) (by simp[fresh_up,a2.add]) (by omega)
end
end
section
noncomputable def l12A:Code:=bodyL (hdC 1 (tlC 8 (Tryz.f12.body.getD .skip)))
def T12A (H:Heap) (n:Nat) (sc:List Ty) (q:Qu) (sa qa qb qc ba:AV) (ng:Int) (x:Ev) (m:Nat) (p:Pt) (m2:Nat) (g:Ng) (ty ow cn:AV) (s:St):Prop :=
 ∃j:Nat,j≤g.types.length∧CN H n sc q sa qa qb qc ba ng x m p m2 g ty ow cn s∧s.e 14=bv (decide (x.ty∈g.types.take j))∧s.e 15=ii j
section
variable {H:Heap} {n:Nat} {sc:List Ty} {q:Qu} {sa qa qb qc ba:AV} {ng:Int} {x:Ev} {b:List (List Ev)} {m:Nat} {p:Pt} {m2:Nat} {g:Ng} {ty ow cn:AV}
theorem law12d (htl:g.types.length<big) (e:Nat→AV) (h1:Heap) (n2:Nat) (a:CN H n sc q sa qa qb qc ba ng x m p m2 g ty ow cn ⟨e,h1,n2⟩) (q14:e 14=bv false) (q15:e 15=ii 0) {Q:Ex→St→Prop}
  (hQ:∀s',CN H n sc q sa qa qb qc ba ng x m p m2 g ty ow cn s'→s'.e 14=bv (decide (x.ty∈g.types))→Q (.exit 0) s') :
  awp (cz SP (pfL tbN12)) (.loop l12A) Q ⟨e,h1,n2⟩:=by
 refine awp_loop (T12A H n sc q sa qa qb qc ba ng x m p m2 g ty ow cn) (fun s=>g.types.length-(s.e 15).i.toNat) ⟨0,Nat.zero_le _,a,by simp[q14],q15⟩ ?_
 rintro e' h' n' ⟨j,hj,J,q14,q15⟩
 have J0:=J
 obtain⟨⟨⟨q2,q3,q5,q6,q9,b0,b1,b2,ag,fr,nn⟩,q11,b11,pl⟩,q13,b13,rt,rr⟩:=J
 simp only[]at q2 q3 q5 q6 q9 b0 b1 b2 ag fr nn q11 b11 pl q13 b13 rt rr q14 q15
 obtain⟨t1,t2,t3,t4,t5⟩:=sl_is rt
 simp only[ii]at b13
 have b2':h' (n+2)=some ⟨[.v (.int .i64 x.ts),.v (.int .u64 x.id),.v (.int .i64 x.ty),.v (.int .i64 x.a0),.v (.int .i64 x.a1),.v (.int .i64 x.a2),.v (.int .i64 x.a3),.v (.int .i64 x.a4),.v (.int .i64 x.a5),.v (.int .i64 x.a6),.v (.int .i64 x.a7)],0,true,11⟩:=b2
 by_cases hlt:j<g.types.length
 ·rcases is_at rt with ⟨h0,_⟩|⟨tid,toff,tk,rfl,htk,tho,that⟩
  ·rw[h0]at hlt;simp at hlt
  have tr:=that j hlt
  have tw1:toff+(j+1)≤tk.cells.length:=by omega
  have hw:=wrap_nat (j:=j) (by omega)
  have hm:decide (x.ty∈g.types.take (j+1))=(decide (x.ty∈g.types.take j)||decide (g.types[j]=x.ty)):=by
   rw[List.take_succ_eq_append_getElem hlt,mem_snoc]
  have fin:∀e'',(∀j∈[2,3,5,6,9,11,13],e'' j=e' j)→e'' 14=bv (decide (x.ty∈g.types.take (j+1)))→e'' 15=ii (j+1:Nat)→T12A H n sc q sa qa qb qc ba ng x m p m2 g (.s tid tk.ver toff g.types.length) ow cn ⟨e'',h',n'⟩:=fun e'' k1 k2 k3=>⟨j+1,hlt,J0.up k1 (agree_refl _ _) fr (Nat.le_refl _),k2,k3⟩
  rw[hm]at fin
  by_cases hy:g.types[j]=x.ty
  ·rw[decide_eq_true hy,Bool.or_true]at fin
   simp[evz,l12A,bodyL,hdC,tlC,Tryz.f12,q9,q13,q14,q15,b13,b2',ii,bv,t1,t2,t3,hlt,htk,tr,tw1,hy,hw]
   exact⟨fin _ (by simp[up]) (by simp[up,bv]) (by simp[up,ii]),by omega⟩
  ·rw[decide_eq_false hy,Bool.or_false]at fin
   simp[evz,l12A,bodyL,hdC,tlC,Tryz.f12,q9,q13,q14,q15,b13,b2',ii,bv,t1,t2,t3,hlt,htk,tr,tw1,hy,hw]
   exact⟨fin _ (by simp[up]) (by simp[up,q14]) (by simp[up,ii]),by omega⟩
 ·obtain rfl:j=g.types.length:=by omega
  rw[List.take_length]at q14
  simp[evz,l12A,bodyL,hdC,tlC,Tryz.f12,q13,q15,b13,ii,t1,t2,t3]
  exact hQ _ (J0.up (by simp[up]) (agree_refl _ _) fr (Nat.le_refl _)) (by simp[up,q14])
end
end
section
structure DN (H:Heap) (n:Nat) (sc:List Ty) (q:Qu) (sa qa qb qc ba:AV) (ng:Int) (x:Ev) (b:List (List Ev)) (m:Nat) (p:Pt) (m2:Nat) (g:Ng) (ty ow cn la:AV) (s:St):Prop where
 c:CN H n sc q sa qa qb qc ba ng x m p m2 g ty ow cn s
 q14:s.e 14=bv (decide (x.ty∈g.types))
 q16:s.e 16=la
 rl:rd dEss s.h la=some (byV q b g.item x)
theorem DN.up {H:Heap} {n:Nat} {sc:List Ty} {q:Qu} {sa qa qb qc ba:AV} {ng:Int} {x:Ev} {b:List (List Ev)} {m:Nat} {p:Pt} {m2:Nat} {g:Ng} {ty ow cn la:AV} {s s':St} (a:DN H n sc q sa qa qb qc ba ng x b m p m2 g ty ow cn la s) (he:∀i∈[2,3,5,6,9,11,13,14,16],s'.e i=s.e i) (ha:agree s.n s.h s'.h) (hf:Fresh s'.n s'.h) (hn:s.n≤s'.n):DN H n sc q sa qa qb qc ba ng x b m p m2 g ty ow cn la s' :=
 ⟨a.c.up (fun i hi=>he i (by simp at hi ⊢;omega)) ha hf hn,(he 14 (by simp)).trans a.q14,(he 16 (by simp)).trans a.q16,rd_agr a.c.b.a.fr a.rl _ ha⟩
section
variable {H:Heap} {n:Nat} {sc:List Ty} {q:Qu} {sa qa qb qc ba:AV} {ng:Int} {x:Ev} {b:List (List Ev)} {m:Nat} {p:Pt} {m2:Nat} {g:Ng} {ty ow cn:AV}
theorem law12e (W:Wf sc q) (w:SQ sc q) (e2:deQ H (.g (qcells q qa qb qc))=some q) (rb:rd dEss H ba=some b) (hx:EvOk x) (hn:Fresh n H) (e:Nat→AV) (h1:Heap) (n2:Nat) (a:CN H n sc q sa qa qb qc ba ng x m p m2 g ty ow cn ⟨e,h1,n2⟩) (q14:e 14=bv (decide (x.ty∈g.types))) {Q:Ex→St→Prop} :
  awp (cz SP (pfL tbN12)) (hdC 2 (tlC 9 (Tryz.f12.body.getD .skip))) (thenQ (fun s=>s.e 17=bv (guardsV (planOf sc q) ng x)∧∃la,DN H n sc q sa qa qb qc ba ng x b m p m2 g ty ow cn la s) Q) ⟨e,h1,n2⟩:=by
 have a0:=a
 obtain⟨⟨⟨q2,q3,q5,q6,q9,b0,b1,b2,ag,fr,nn⟩,q11,b11,pl⟩,q13,b13,rt,rr⟩:=a
 simp only[]at q2 q3 q5 q6 q9 b0 b1 b2 ag fr nn q11 b11 pl q13 b13 rt rr
 obtain⟨a',b',c',e0,x1,x2,x3⟩:=deQ_out e2
 cases e0
 have b1':h1 (n+1)=some ⟨[qa,.v (.int .i64 q.mode),.v (.int .i64 q.after),qb,.v (.int .i64 q.within),.v (.string q.par),qc],0,true,7⟩:=b1
 have b2':h1 (n+2)=some ⟨[.v (.int .i64 x.ts),.v (.int .u64 x.id),.v (.int .i64 x.ty),.v (.int .i64 x.a0),.v (.int .i64 x.a1),.v (.int .i64 x.a2),.v (.int .i64 x.a3),.v (.int .i64 x.a4),.v (.int .i64 x.a5),.v (.int .i64 x.a6),.v (.int .i64 x.a7)],0,true,11⟩:=b2
 have eq1:deQ h1 (.g (qcells q qa qb qc))=some q:=deQ_sim (agr_sim hn ag) e2
 have rb1:rd dEss h1 ba=some b:=rd_agr hn rb _ ag
 have hbu:=(sl_is rb).2.2.1
 have hb13:h1 m2=some ⟨[.v (.int .i64 g.item),ty,.v (.int .i64 g.after),.v (.int .i64 g.before),ow,cn],0,true,6⟩:=b13
 simp[evz,hdC,tlC,Tryz.f12,tbN12,q2,q3,q6,q9,q13,b1',b2',hb13,hbu,ldcs_11q]
 refine (acall_z (S:=[]) (fun _ h=>by cases h) (c44 fr eq1 rb1 (by have:=W.n1;omega))).mono ?_
 rintro la h2 n3 ⟨a1,a2,a3,rl⟩
 have pl2:PlR h2 p (planOf sc q):=pl.sim (agr_sim fr a1)
 have b11':h2 m=_:=(a1 _ (lt_of b11 fr)).trans b11
 have b2'':h2 (n+2)=_:=(a1 _ (by omega)).trans b2'
 have gg:GGuards [.g (pcells p (planOf sc q)),.v (.int .i64 ng),.g [.v (.int .i64 x.ts),.v (.int .u64 x.id),.v (.int .i64 x.ty),.v (.int .i64 x.a0),.v (.int .i64 x.a1),.v (.int .i64 x.a2),.v (.int .i64 x.a3),.v (.int .i64 x.a4),.v (.int .i64 x.a5),.v (.int .i64 x.a6),.v (.int .i64 x.a7)]] h2=⟨okGd (planOf sc q,ng,x),bv (guardsV (planOf sc q) ng x)⟩:=by
  have d1:rPl.run h2 (.g (pcells p (planOf sc q)))=some (planOf sc q):=dePlan_in pl2
  have d2:rE.run h2 (.g (ecells x))=some x:=deE_ee x
  simp only[ecells,ii,uu]at d2
  have d3:rI.run h2 (.v (.int .i64 ng))=some ng:=rfl
  simp only[GGuards,pureH,de3,d1,d2,d3,Option.bind_some,Option.map_some]
 have okg:=plan_gd W w hx (c:=ng)
 obtain⟨u1,u2,u3,u4,u5⟩:=sl_is rl
 have fin:∀(e':Nat→AV) (h':Heap) (n':Nat),(∀i∈[2,3,5,6,9,11,13,14],e' i=e i)→e' 16=la→h'=h2→n'=n3→∃la,DN H n sc q sa qa qb qc ba ng x b m p m2 g ty ow cn la ⟨e',h',n'⟩:=fun e' h' n' k1 k2 k3 k4=>by
  subst k3 k4
  exact⟨la,a0.up (fun i hi=>k1 i (by simp at hi ⊢;omega)) a1 a2 a3,(k1 14 (by simp)).trans q14,k2,rl⟩
 simp only[pcells,ii,ss,bv]at fin b11' gg
 generalize guardsV (planOf sc q) ng x=K at *
 generalize planOf sc q=P at *
 simp[evz,bv,b11',b2'',q3,q9,q11,ii,gg,okg,ldcs_16q,ldcs_11q,u3]
 exact fin _ _ _ (by simp[up]) (by simp[up]) rfl rfl
end
end
section
noncomputable def l12B:Code:=bodyL (hdC 1 (tlC 11 (Tryz.f12.body.getD .skip)))
def T12B (H:Heap) (n:Nat) (sc:List Ty) (q:Qu) (sa qa qb qc ba:AV) (ng:Int) (x:Ev) (b:List (List Ev)) (m:Nat) (p:Pt) (m2:Nat) (g:Ng) (ty ow cn la:AV) (K:Bool) (s:St):Prop :=
 ∃j:Nat,j≤g.rest.length∧DN H n sc q sa qa qb qc ba ng x b m p m2 g ty ow cn la s∧s.e 17=bv (K&&(g.rest.take j).all fun f=>holdsV f ⟨byV q b g.item x,-1,0⟩)∧s.e 18=ii j
theorem all_snoc {α:Type} (f:α→Bool) (l:List α) (x:α):(l++[x]).all f=(l.all f&&f x):=by simp
section
variable {H:Heap} {n:Nat} {sc:List Ty} {q:Qu} {sa qa qb qc ba:AV} {ng:Int} {x:Ev} {b:List (List Ev)} {m:Nat} {p:Pt} {m2:Nat} {g:Ng} {ty ow cn la:AV} {K:Bool}
theorem law12f (hrl:g.rest.length<big) (hpr:∀f∈g.rest,PrOk f) (hen:EnOk ⟨byV q b g.item x,-1,0⟩) (e:Nat→AV) (h1:Heap) (n2:Nat) (a:DN H n sc q sa qa qb qc ba ng x b m p m2 g ty ow cn la ⟨e,h1,n2⟩) (q17:e 17=bv K) (q18:e 18=ii 0) {Q:Ex→St→Prop}
  (hQ:∀s',DN H n sc q sa qa qb qc ba ng x b m p m2 g ty ow cn la s'→s'.e 17=bv (K&&g.rest.all fun f=>holdsV f ⟨byV q b g.item x,-1,0⟩)→Q (.exit 2) s') :
  awp (cz SP (pfL tbN12)) (.loop l12B) Q ⟨e,h1,n2⟩:=by
 refine awp_loop (T12B H n sc q sa qa qb qc ba ng x b m p m2 g ty ow cn la K) (fun s=>g.rest.length-(s.e 18).i.toNat) ⟨0,Nat.zero_le _,a,by simp[q17],q18⟩ ?_
 rintro e' h' n' ⟨j,hj,J,q17,q18⟩
 have J0:=J
 obtain⟨⟨⟨⟨q2,q3,q5,q6,q9,b0,b1,b2,ag,fr,nn⟩,q11,b11,pl⟩,q13,b13,rt,rr⟩,q14,q16,rl⟩:=J
 simp only[]at q2 q3 q5 q6 q9 b0 b1 b2 ag fr nn q11 b11 pl q13 b13 rt rr q14 q16 rl q17 q18
 obtain⟨t1,t2,t3,t4,t5⟩:=sl_is rr
 obtain⟨u1,u2,u3,u4,u5⟩:=sl_is rl
 simp only[ii]at b13
 by_cases hlt:j<g.rest.length
 ·obtain⟨id,off,k,ca,lb,rfl,hk,ho,c0,c1,hp⟩:=prs_at rr hlt
  have hw:=wrap_nat (j:=j) (by omega)
  obtain⟨ca',la',ee0,p1,p2⟩:=dePr_out hp
  simp only[AV.g.injEq,List.cons.injEq,and_true]at ee0
  obtain⟨rfl,rfl⟩:=ee0
  have v1:=(sl_is p1).2.2.2.1
  have v2:=(sl_is p2).2.2.2.1
  have g31:G31 [.g [ca,lb],.g [la,.v (.int .i64 (-1)),.v (.int .i64 0)]] h'=⟨okR (g.rest[j],⟨byV q b g.item x,-1,0⟩),bv (holdsV g.rest[j] ⟨byV q b g.item x,-1,0⟩)⟩:=by
   have ge:deEn h' (.g [la,.v (.int .i64 (-1)),.v (.int .i64 0)])=some ⟨byV q b g.item x,-1,0⟩:=deEn_in (e:=⟨byV q b g.item x,-1,0⟩) rl
   simp only[G31,pureH,deR,hp,ge]
  have hok:okR (g.rest[j],⟨byV q b g.item x,-1,0⟩):=⟨hpr _ (List.getElem_mem hlt),hen⟩
  have w1:off+(j*2+1)≤k.cells.length:=by omega
  have w2:off+(j*2+2)≤k.cells.length:=by omega
  have hm:(K&&(g.rest.take (j+1)).all fun f=>holdsV f ⟨byV q b g.item x,-1,0⟩)=(K&&((g.rest.take j).all fun f=>holdsV f ⟨byV q b g.item x,-1,0⟩)&&holdsV g.rest[j] ⟨byV q b g.item x,-1,0⟩):=by
   rw[List.take_succ_eq_append_getElem hlt,all_snoc,Bool.and_assoc]
  have fin:∀e'':Nat→AV,(∀j∈[2,3,5,6,9,11,13,14,16],e'' j=e' j)→e'' 17=bv (K&&(g.rest.take (j+1)).all fun f=>holdsV f ⟨byV q b g.item x,-1,0⟩)→e'' 18=ii (j+1:Nat)→T12B H n sc q sa qa qb qc ba ng x b m p m2 g ty ow (.s id k.ver off g.rest.length) la K ⟨e'',h',n'⟩:=fun e'' k1 k2 k3=>⟨j+1,hlt,J0.up k1 (agree_refl _ _) fr (Nat.le_refl _),k2,k3⟩
  rw[hm]at fin
  cases hh:holdsV g.rest[j] ⟨byV q b g.item x,-1,0⟩with
  | true =>
   rw[hh,Bool.and_true]at fin
   rw[hh]at g31
   simp[evz,l12B,bodyL,hdC,tlC,Tryz.f12,tbN12,q13,q16,q18,b13,ii,bv,t1,t2,t3,u1,u3,u4,u5,hlt,hk,c0,c1,v1,v2,w1,w2,hw,g31,hok]
   exact⟨fin _ (by simp[up]) (by simp[up,q17]) (by simp[up,ii]),by omega⟩
  | false =>
   rw[hh,Bool.and_false]at fin
   rw[hh]at g31
   simp[evz,l12B,bodyL,hdC,tlC,Tryz.f12,tbN12,q13,q16,q18,b13,ii,bv,t1,t2,t3,u1,u3,u4,u5,hlt,hk,c0,c1,v1,v2,w1,w2,hw,g31,hok]
   exact⟨fin _ (by simp[up]) (by simp[up,bv]) (by simp[up,ii]),by omega⟩
 ·obtain rfl:j=g.rest.length:=by omega
  rw[List.take_length]at q17
  simp[evz,l12B,bodyL,hdC,tlC,Tryz.f12,q13,q18,b13,ii,t1,t2,t3]
  exact hQ _ (J0.up (by simp[up]) (agree_refl _ _) fr (Nat.le_refl _)) (by simp[up,q17])
end
end
section
def wantR (sc:List Ty) (q:Qu) (b:List (List Ev)) (i:Int) (x:Ev) (r:Nat):Bool := !decide (ngdV q (bareT q (subT q.wh r))=i)||isTrueV ⟨sc,q,subT q.wh r,⟨byV q b i x,-1,0⟩⟩
structure FN (H:Heap) (n:Nat) (sc:List Ty) (q:Qu) (sa qa qb qc ba:AV) (ng:Int) (x:Ev) (b:List (List Ev)) (m:Nat) (p:Pt) (m2:Nat) (g:Ng) (ty ow cn la:AV) (K:Bool) (z:AV) (s:St):Prop where
 d:DN H n sc q sa qa qb qc ba ng x b m p m2 g ty ow cn la s
 q17:s.e 17=bv K
 q20:s.e 20=z
 rz:rd dIs s.h z=some (rtsI q)
theorem FN.up {H:Heap} {n:Nat} {sc:List Ty} {q:Qu} {sa qa qb qc ba:AV} {ng:Int} {x:Ev} {b:List (List Ev)} {m:Nat} {p:Pt} {m2:Nat} {g:Ng} {ty ow cn la:AV} {K:Bool} {z:AV} {s s':St} (a:FN H n sc q sa qa qb qc ba ng x b m p m2 g ty ow cn la K z s) (he:∀i∈[2,3,5,6,9,11,13,14,16,17,20],s'.e i=s.e i) (ha:agree s.n s.h s'.h) (hf:Fresh s'.n s'.h) (hn:s.n≤s'.n):FN H n sc q sa qa qb qc ba ng x b m p m2 g ty ow cn la K z s' :=
 ⟨a.d.up (fun i hi=>he i (by simp at hi ⊢;omega)) ha hf hn,(he 17 (by simp)).trans a.q17,(he 20 (by simp)).trans a.q20,rd_agr a.d.c.b.a.fr a.rz _ ha⟩
noncomputable def l12C:Code:=bodyL (hdC 1 (tlC 14 (Tryz.f12.body.getD .skip)))
section
variable {H:Heap} {n:Nat} {sc:List Ty} {q:Qu} {sa qa qb qc ba:AV} {ng:Int} {x:Ev} {b:List (List Ev)} {m:Nat} {p:Pt} {m2:Nat} {g:Ng} {ty ow cn la z:AV} {K:Bool}
theorem law12g (w:SQ sc q) (e2:deQ H (.g (qcells q qa qb qc))=some q) (hn:Fresh n H) (e:Nat→AV) (h1:Heap) (n2:Nat) (a:DN H n sc q sa qa qb qc ba ng x b m p m2 g ty ow cn la ⟨e,h1,n2⟩) (q17:e 17=bv K) {Q:Ex→St→Prop} :
  awp (cz SP (pfL tbN12)) (hdC 2 (tlC 12 (Tryz.f12.body.getD .skip))) (thenQ (fun s=>s.e 19=bv (decide (x.ty∈g.types))∧∃z,FN H n sc q sa qa qb qc ba ng x b m p m2 g ty ow cn la K z s) Q) ⟨e,h1,n2⟩:=by
 have a0:=a
 obtain⟨⟨⟨⟨q2,q3,q5,q6,q9,b0,b1,b2,ag,fr,nn⟩,q11,b11,pl⟩,q13,b13,rt,rr⟩,q14,q16,rl⟩:=a
 simp only[]at q2 q3 q5 q6 q9 b0 b1 b2 ag fr nn q11 b11 pl q13 b13 rt rr q14 q16 rl
 obtain⟨a',b',c',e0,x1,x2,x3⟩:=deQ_out e2
 cases e0
 have b1':h1 (n+1)=some ⟨[qa,.v (.int .i64 q.mode),.v (.int .i64 q.after),qb,.v (.int .i64 q.within),.v (.string q.par),qc],0,true,7⟩:=b1
 simp[evz,hdC,tlC,Tryz.f12,tbN12,q6,q14,b1',bv]
 refine (acall_z (S:=[3]) (by simp[SP]) (c35 (rd_agr hn x2 _ ag) w.q2 fr)).mono ?_
 rintro z h2 n3 ⟨a1,a2,a3,a4⟩
 obtain⟨u1,u2,u3,u4,u5⟩:=sl_is a4
 have fin:∀(e':Nat→AV) (h':Heap) (n':Nat),(∀i∈[2,3,5,6,9,11,13,14,16,17],e' i=e i)→e' 20=z→h'=h2→n'=n3→∃z,FN H n sc q sa qa qb qc ba ng x b m p m2 g ty ow cn la K z ⟨e',h',n'⟩:=fun e' h' n' k1 k2 k3 k4=>by
  subst k3 k4
  exact⟨z,a0.up (fun i hi=>k1 i (by simp at hi ⊢;omega)) a1 a2 a3,(k1 17 (by simp)).trans q17,k2,rd_mono (wtn_le _ _ _) a4⟩
 exact fin _ _ _ (by simp[up]) (by simp[up]) rfl rfl
end
end
section
def T12C (H:Heap) (n:Nat) (sc:List Ty) (q:Qu) (sa qa qb qc ba:AV) (ng:Int) (x:Ev) (b:List (List Ev)) (m:Nat) (p:Pt) (m2:Nat) (g:Ng) (ty ow cn la:AV) (K:Bool) (z:AV) (s:St):Prop :=
 ∃k:Nat,k≤(rootsQ q.wh).length∧FN H n sc q sa qa qb qc ba ng x b m p m2 g ty ow cn la K z s∧s.e 19=bv (decide (x.ty∈g.types)&&((rootsQ q.wh).take k).all (wantR sc q b g.item x))∧s.e 21=ii k
section
variable {H:Heap} {n:Nat} {sc:List Ty} {q:Qu} {sa qa qb qc ba:AV} {ng:Int} {x:Ev} {b:List (List Ev)} {m:Nat} {p:Pt} {m2:Nat} {g:Ng} {ty ow cn la z:AV} {K:Bool}
theorem law12s (W:Wf sc q) (w:SQ sc q) (e1:rd dTys H sa=some sc) (e2:deQ H (.g (qcells q qa qb qc))=some q) (hen:EnOk ⟨byV q b g.item x,-1,0⟩) (hn:Fresh n H) {k:Nat} (hk:k<(rootsQ q.wh).length) (e:Nat→AV) (h1:Heap) (n2:Nat) (a:FN H n sc q sa qa qb qc ba ng x b m p m2 g ty ow cn la K z ⟨e,h1,n2⟩) {V:Bool} (q19:e 19=bv V) (q21:e 21=ii k) {Q:Ex→St→Prop}
  (hQ:∀s',FN H n sc q sa qa qb qc ba ng x b m p m2 g ty ow cn la K z s'→s'.e 19=bv (V&&wantR sc q b g.item x (rootsQ q.wh)[k])→s'.e 21=ii (k+1:Nat)→Q .normal s') :
  awp (cz SP (pfL tbN12)) l12C Q ⟨e,h1,n2⟩:=by
 have a0:=a
 obtain⟨⟨⟨⟨⟨q2,q3,q5,q6,q9,b0,b1,b2,ag,fr,nn⟩,q11,b11,pl⟩,q13,b13,rt,rr⟩,q14,q16,rl⟩,q17,q20,rz⟩:=a
 simp only[]at q2 q3 q5 q6 q9 b0 b1 b2 ag fr nn q11 b11 pl q13 b13 rt rr q14 q16 rl q17 q20 rz
 have e1':deQ h1 (.g (qcells q qa qb qc))=some q:=deQ_sim (agr_sim hn ag) e2
 obtain⟨a',b',c',e0,x1,x2,x3⟩:=deQ_out e1'
 cases e0
 have b1':h1 (n+1)=some ⟨[qa,.v (.int .i64 q.mode),.v (.int .i64 q.after),qb,.v (.int .i64 q.within),.v (.string q.par),qc],0,true,7⟩:=b1
 have hb13:h1 m2=some ⟨[.v (.int .i64 g.item),ty,.v (.int .i64 g.after),.v (.int .i64 g.before),ow,cn],0,true,6⟩:=b13
 have o1:=(sl_is x1).2.2.1
 have o2:=(sl_is x2).2.2.1
 have o3:=(sl_is x3).2.2.1
 obtain⟨s1,s2,s3,s4,s5⟩:=sl_is x2
 have hkr:k<(rtsI q).length:=by unfold rtsI;rw[List.length_map];exact hk
 have hrk:(rtsI q)[k]=((rootsQ q.wh)[k]:Nat):=by simp[rtsI]
 have hr:(rootsQ q.wh)[k]∈rootsQ q.wh:=List.getElem_mem hk
 obtain⟨r,hrr⟩:∃r,r=(rootsQ q.wh)[k]:=⟨_,rfl⟩
 rw[←hrr]at hrk hr hQ
 obtain⟨ht,hrl⟩:=roots_lt hr
 have T:=tre_of ht
 have hw:smallT q.wh:=w.q2
 have hwl:q.wh.length*64≤140737488355328:=hw
 have hkl:=rts_len hw
 have hkw:=wrap_nat (j:=k) (by unfold big;omega)
 rcases is_at rz with ⟨h0,_⟩|⟨id,off,bk,rfl,hbk,ho,hat⟩
 ·rw[h0]at hkr;simp at hkr
 have hc:=hat k hkr
 rw[hrk]at hc
 have hw1:off+(k+1)≤bk.cells.length:=by omega
 have e1q:deQ h1 (.g [qa,.v (.int .i64 q.mode),.v (.int .i64 q.after),qb,.v (.int .i64 q.within),.v (.string q.par),qc])=some q:=e1'
 have hmc:subT q.wh r∈conjs q:=by rw[conjs_roots];exact List.mem_map_of_mem hr
 obtain⟨hss,hrg⟩:=w.conj hmc
 simp[evz,hdC,tlC,bodyL,l12C,Tryz.f12,q6,q20,q21,ii,hbk,hc,hw1,hkr,b1',tbN12,s1,s2,s3,s4,o1,o2,o3]
 refine (acall_z (S:=[3]) (by simp[SP]) (c52 x2 ht hw hrl fr)).mono ?_
 rintro z h2 n3 ⟨a1,a2,a3,mm,rfl,hm,hm1,hm2⟩
 have rs':rd dNs h2 (.s mm 0 0 (subT q.wh r).length)=some (subT q.wh r):=flat_in Flat.nd hm rfl (r:=[]) (by simp)
 have eq2:=deQ_sim (agr_sim fr a1) e1q
 have hb1x:h2 (n+1)=_:=(a1 _ (by omega)).trans b1'
 refine⟨keep_le (agr_le fr a1),?_⟩
 simp[evz,hb1x]
 refine (acall_z (S:=[]) (fun _ h=>by cases h) (c49 eq2 rs' (by have:=W.n1;omega) hss a2)).mono ?_
 rintro z h3 n4 ⟨c1,c2,c3,y1,y2,y3,rfl,r1,r2,r3⟩
 have hag3:agree n2 h1 h3:=agree_trans a1 c1 a3
 have eq3:=deQ_sim (agr_sim a2 c1) eq2
 have rs3:=rd_agr a2 rs' _ c1
 have rl3:=rd_agr fr rl _ hag3
 have rs4:rd dTys h3 sa=some sc:=rd_agr hn e1 _ (agree_trans ag hag3 (by omega))
 have b0x:h3 n=_:=(hag3 n (by omega)).trans b0
 have b1x:h3 (n+1)=_:=(hag3 _ (by omega)).trans b1'
 have b13x:h3 m2=_:=(hag3 _ (lt_of hb13 fr)).trans hb13
 have p1:=(sl_is r1).2.2.2.1
 have p2:=(sl_is r2).2.2.2.1
 have p3:=(sl_is r3).2.2.2.1
 have p4:=(sl_is rs4).2.2.2.1
 have p5:=(sl_is rl3).2.2.1
 have p6:=(sl_is rs4).2.2.1
 have hbl:(usesL bareO (vars q.items) (subT q.wh r)).length≤q.items.length:=by
  unfold usesL
  refine Nat.le_trans (List.length_filter_le _ _) ?_
  simp[vars]
 have n10:=W.n1
 have okn:okNg (q,⟨usesL bareO (vars q.items) (subT q.wh r),usesL prevO (vars q.items) (subT q.wh r),usesL aggO (vars q.items) (subT q.wh r)⟩):=⟨by simp only[];unfold big;omega,by simp only[];unfold big;omega,fun i hi=>by
  obtain⟨u1,u2,_⟩:=uses_is hi
  simp only[vars,List.length_map]at u2
  exact⟨u1,u2⟩⟩
 have gn:∀h',agree n4 h3 h'→GNeg [.g [qa,.v (.int .i64 q.mode),.v (.int .i64 q.after),qb,.v (.int .i64 q.within),.v (.string q.par),qc],.g [y1,y2,y3]] h'=⟨okNg (q,⟨usesL bareO (vars q.items) (subT q.wh r),usesL prevO (vars q.items) (subT q.wh r),usesL aggO (vars q.items) (subT q.wh r)⟩),ii (ngdV q (bareT q (subT q.wh r)))⟩:=fun h' ha=>by
  have d:rUz.run h' (.g [y1,y2,y3])=some ⟨usesL bareO (vars q.items) (subT q.wh r),usesL prevO (vars q.items) (subT q.wh r),usesL aggO (vars q.items) (subT q.wh r)⟩:=deUs_in (rd_agr c2 r1 _ ha) (rd_agr c2 r2 _ ha) (rd_agr c2 r3 _ ha)
  have d2:deQ h' _=some q:=deQ_sim (agr_sim c2 ha) eq3
  simp only[GNeg,pureH,de2,rQ,d2,d,Option.bind_some,Option.map_some]
  rfl
 have okt:EqOk ⟨sc,q,subT q.wh r,⟨byV q b g.item x,-1,0⟩⟩:=⟨w.ok.1,by simp only[];unfold big;omega,hss,hrg,hen⟩
 have gt:∀h',agree n4 h3 h'→G49 [.g [sa],.g [qa,.v (.int .i64 q.mode),.v (.int .i64 q.after),qb,.v (.int .i64 q.within),.v (.string q.par),qc],.s mm 0 0 (subT q.wh r).length,la,.v (.int .i64 (-1)),.v (.int .i64 0)] h'=⟨EqOk ⟨sc,q,subT q.wh r,⟨byV q b g.item x,-1,0⟩⟩,bv (isTrueV ⟨sc,q,subT q.wh r,⟨byV q b g.item x,-1,0⟩⟩)⟩:=fun h' ha=>by
  have d:=de49_in (v:=⟨sc,q,subT q.wh r,⟨byV q b g.item x,-1,0⟩⟩) (h:=h') (s:=.g [sa]) (rd_agr c2 rs4 _ ha) (deQ_sim (agr_sim c2 ha) eq3) (rd_agr c2 rs3 _ ha) (rd_agr c2 rl3 _ ha)
  simp only[ii]at d
  simp only[G49,pureH,d]
 have fin:∀(e':Nat→AV) (h':Heap) (n':Nat),(∀i∈[2,3,5,6,9,11,13,14,16,17,20],e' i=e i)→e' 19=bv (V&&wantR sc q b g.item x r)→e' 21=ii (k+1:Nat)→agree n4 h3 h'→Fresh n' h'→n4≤n'→Q .normal ⟨e',h',n'⟩:=fun e' h' n' k1 k2 k3 k4 k5 k6 =>
  hQ _ (a0.up k1 (agree_trans hag3 k4 (show n2≤n4 by omega)) k5 (show n2≤n' by omega)) k2 k3
 have hwr:wantR sc q b g.item x r=(!decide (ngdV q (bareT q (subT q.wh r))=g.item)||isTrueV ⟨sc,q,subT q.wh r,⟨byV q b g.item x,-1,0⟩⟩):=rfl
 rw[hwr]at fin
 generalize isTrueV ⟨sc,q,subT q.wh r,⟨byV q b g.item x,-1,0⟩⟩=tv at *
 generalize ngdV q (bareT q (subT q.wh r))=nv at *
 have hlm:=lt_of hb13 fr
 have y1':¬n+1=n4:=by omega
 have y2':¬n=n4:=by omega
 have y3':¬m2=n4:=by omega
 simp only[ii]at gn
 simp only[bv]at gt fin
 by_cases hh:nv=g.item
 ·rw[decide_eq_true hh]at fin
  cases tv with
  | true =>
   simp[evz,b0x,b1x,b13x,gn,agree_up,agree_refl,okn,gt,okt,hh,p1,p2,p3,p4,p5,p6,y1',y2',y3',hkw,q5,q6,q13,q16,q19,q20,q21,ii,bv]
   exact fin _ _ _ (by simp[up]) (by simp[up,q19,bv]) (by simp[up,ii]) (by simp[agree_up,agree_refl]) (by simp[fresh_up,c2.add]) (by omega)
  | false =>
   simp[evz,b0x,b1x,b13x,gn,agree_up,agree_refl,okn,gt,okt,hh,p1,p2,p3,p4,p5,p6,y1',y2',y3',hkw,q5,q6,q13,q16,q19,q20,q21,ii,bv]
   exact fin _ _ _ (by simp[up]) (by simp[up,bv]) (by simp[up,ii]) (by simp[agree_up,agree_refl]) (by simp[fresh_up,c2.add]) (by omega)
 ·rw[decide_eq_false hh]at fin
  simp[evz,b0x,b1x,b13x,gn,agree_up,agree_refl,okn,hh,p1,p2,p3,p4,p5,p6,y1',y2',y3',hkw,q5,q6,q13,q16,q19,q20,q21,ii,bv]
  exact fin _ _ _ (by simp[up]) (by simp[up,q19,bv]) (by simp[up,ii]) (by simp[agree_up,agree_refl]) (by simp[fresh_up,c2.add]) (by omega)
end
end
section
section
variable {H:Heap} {n:Nat} {sc:List Ty} {q:Qu} {sa qa qb qc ba:AV} {ng:Int} {x:Ev} {b:List (List Ev)} {m:Nat} {p:Pt} {m2:Nat} {g:Ng} {ty ow cn la z:AV} {K:Bool}
theorem law12l (W:Wf sc q) (w:SQ sc q) (e1:rd dTys H sa=some sc) (e2:deQ H (.g (qcells q qa qb qc))=some q) (hen:EnOk ⟨byV q b g.item x,-1,0⟩) (hn:Fresh n H) (e:Nat→AV) (h1:Heap) (n2:Nat) (a:FN H n sc q sa qa qb qc ba ng x b m p m2 g ty ow cn la K z ⟨e,h1,n2⟩) (q19:e 19=bv (decide (x.ty∈g.types))) (q21:e 21=ii 0) {Q:Ex→St→Prop}
  (hQ:∀s',FN H n sc q sa qa qb qc ba ng x b m p m2 g ty ow cn la K z s'→s'.e 19=bv (decide (x.ty∈g.types)&&(rootsQ q.wh).all (wantR sc q b g.item x))→Q (.exit 4) s') :
  awp (cz SP (pfL tbN12)) (.loop l12C) Q ⟨e,h1,n2⟩:=by
 refine awp_loop (T12C H n sc q sa qa qb qc ba ng x b m p m2 g ty ow cn la K z) (fun s=>(rootsQ q.wh).length-(s.e 21).i.toNat) ⟨0,Nat.zero_le _,a,by simp[q19],q21⟩ ?_
 rintro e' h' n' ⟨k,hk,J,q19,q21⟩
 by_cases hlt:k<(rootsQ q.wh).length
 ·refine law12s W w e1 e2 hen hn hlt e' h' n' J q19 q21 fun s' J' k1 k2=>⟨⟨k+1,hlt,J',?_,k2⟩,?_⟩
  ·rw[k1,List.take_succ_eq_append_getElem hlt,all_snoc,Bool.and_assoc]
  ·have q21':e' 21=ii k:=q21
   show (rootsQ q.wh).length-(s'.e 21).i.toNat<(rootsQ q.wh).length-(e' 21).i.toNat
   rw[k2,q21']
   show (rootsQ q.wh).length-((k+1:Nat):Int).toNat<(rootsQ q.wh).length-((k:Nat):Int).toNat
   omega
 ·obtain rfl:k=(rootsQ q.wh).length:=by omega
  rw[List.take_length]at q19
  have q20:e' 20=z:=J.q20
  have fr:Fresh n' h':=J.d.c.b.a.fr
  simp only[]at q19 q21
  obtain⟨t1,t2,t3,t4,t5⟩:=sl_is J.rz
  have hrl:(rtsI q).length=(rootsQ q.wh).length:=by unfold rtsI;rw[List.length_map]
  rw[hrl]at t2
  simp[evz,l12C,bodyL,hdC,tlC,Tryz.f12,q20,q21,ii,t1,t2,t3]
  exact hQ _ (J.up (by simp[up]) (agree_refl _ _) fr (Nat.le_refl _)) (by simp[up,q19])
theorem law12z (e:Nat→AV) (h1:Heap) (n2:Nat) {V:Bool} (q17:e 17=bv K) (q19:e 19=bv V) (hv:K=V) :
  awp (cz SP (pfL tbN12)) (tlC 15 (Tryz.f12.body.getD .skip)) (finQ (cz SP (pfL tbN12)) Tryz.f12 fun z _ _=>z=bv true) ⟨e,h1,n2⟩:=by
 subst hv
 simp[evz,tlC,Tryz.f12,q17,q19,bv]
theorem neg_at (h0:0≤ng) (h9:ng<((planOf sc q).negs.length:Int)):∃i,i<q.items.length∧(itA q i).neg=true∧(planOf sc q).negs.getD ng.toNat ng0=ngOf sc q (conjs q) i:=by
 have hj:ng.toNat<(planOf sc q).negs.length:=by omega
 obtain⟨i,h1,h2,h3⟩:=plan_ng (List.getElem_mem hj)
 exact⟨i,h1,h2,by rw[List.getD_eq_getElem?_getD,List.getElem?_eq_getElem hj];exact h3⟩
theorem guards_at (h0:0≤ng) (h9:ng<((planOf sc q).negs.length:Int)) {i:Nat} (hg:(planOf sc q).negs.getD ng.toNat ng0=ngOf sc q (conjs q) i):guardsV (planOf sc q) ng x=passV q i (tysOf sc (itA q i)) (ownL sc q (conjs q) i) x:=by
 unfold guardsV
 rw[if_pos ⟨h0,h9⟩,hg]
 rfl
end
end
section
section
variable {sc:List Ty} {q:Qu} {b:List (List Ev)} {x:Ev}
theorem binds_len (W:Wf sc q) (h:bindsV (planOf sc q) b=true):∀l∈b,l.length≤4:=by
 intro l hl
 obtain⟨i,hi,rfl⟩:=List.mem_iff_getElem.1 hl
 unfold bindsV at h
 simp only[Bool.and_eq_true,decide_eq_true_eq,List.all_eq_true,List.mem_range]at h
 have h2:=h.2 i hi
 unfold bindE at h2
 simp only[Bool.and_eq_true,decide_eq_true_eq]at h2
 have h3:=h2.1.2
 have hic:i<(planOf sc q).comps.length:=by rw[←h.1];exact hi
 obtain⟨j,hj,_,hc⟩:=plan_cm (List.getElem_mem hic)
 rw[List.getD_eq_getElem?_getD,List.getElem?_eq_getElem hi,List.getD_eq_getElem?_getD,List.getElem?_eq_getElem hic,Option.getD_some,Option.getD_some,hc]at h3
 have h4:=(itemE_ok (itE_ok (W.it j hj)).1).2.2.2.2
 have h5:(b[i].length:Int)≤(itA q j).hi:=h3
 unfold itA at h5
 omega
theorem byV_ok (hl:∀l∈b,l.length≤4) (hev:∀l∈b,∀y∈l,EvOk y) (hx:EvOk x) (i:Int):EnOk ⟨byV q b i x,-1,0⟩:=by
 have key:∀l∈byV q b i x,l=[x]∨l=[]∨l∈b:=fun l hl=>by
  unfold byV at hl
  obtain⟨j,_,rfl⟩:=List.mem_map.1 hl
  unfold byE
  split
  ·split
   ·exact .inl rfl
   ·exact .inr (.inl rfl)
  ·rw[List.getD_eq_getElem?_getD]
   by_cases hj:rk q j<b.length
   ·rw[List.getElem?_eq_getElem hj];exact .inr (.inr (List.getElem_mem hj))
   ·rw[List.getElem?_eq_none (by omega)];exact .inr (.inl rfl)
 refine⟨fun l h => ?_,fun l h y hy => ?_,by show Rng 0;unfold Rng;omega⟩
 ·rcases key l h with rfl|rfl|h
  ·simp
  ·simp
  ·have:=hl l h;omega
 ·rcases key l h with rfl|rfl|h
  ·rw[List.mem_singleton.1 hy];exact hx
  ·cases hy
  ·exact hev l h y hy
end
theorem tbN12_ok:TbOk SP tbN12:=tb_cons P14 (tb_cons P42 (tb_cons P32 (tb_cons (P31 P29) (tb_cons P48 (tb_cons P49 tb_nil)))))
end
section
theorem blk_cut {X:Ctx} {r l:Code} {i:Nat} {I R:St→Prop} {Q:Ex→St→Prop} {s:St} (h1:awp X r (thenQ I fun _ _=>False) s) (h2:∀e h n,I ⟨e,h,n⟩→awp X (.loop l) (fun y s=>y=.exit i∧R s) ⟨e,h,n⟩):awp X (.seq r (.block i (.loop l))) (thenQ R Q) s:=by
 rw[awp_seq]
 refine awp_mono _ (fun y s hy => ?_) h1
 cases y with
 | normal =>
  obtain⟨e,h,n⟩:=s
  rw[thenQ_n]at hy
  rw[thenQ_n,awp_block]
  refine awp_mono _ (fun y s hy => ?_) (h2 e h n hy)
  obtain⟨rfl,hr⟩:=hy
  rw[blockQ_e,if_pos rfl,thenQ_n];exact hr
 | exit i=>exact (by simp[thenQ_e]at hy:False).elim
 | ret=>exact (by simp[thenQ_r]at hy:False).elim
section
variable {H:Heap} {n:Nat} {sc:List Ty} {q:Qu} {sa qa qb qc ba:AV} {ng:Int} {x:Ev} {b:List (List Ev)}
theorem law12 (e1:rd dTys H sa=some sc) (e2:deQ H (.g (qcells q qa qb qc))=some q) (rb:rd dEss H ba=some b) (hb1:b.length<big) (hb2:∀l∈b,l.length<big) (hev:∀l∈b,∀y∈l,EvOk y) (hx:EvOk x) (w:SQ sc q) (hn:Fresh n H) :
  awp (cz SP (pfL tbN12)) (Tryz.f12.body.getD .skip) (finQ (cz SP (pfL tbN12)) Tryz.f12 fun z _ _=>z=bv true) ⟨env0 [.g [sa],.g (qcells q qa qb qc),ba,ii ng,ee x],H,n⟩:=by
 refine awp_cut 3 _ _ (law12a e1 e2 w hn _ rfl rfl rfl rfl rfl) fun e3 h3 n3 A => ?_
 refine awp_cut 2 _ _ (law12b e1 e2 rb hb1 hb2 w hn e3 h3 n3 A) fun e4 h4 n4 ⟨W,hbv,g0,g9,m,p,B⟩ => ?_
 obtain⟨i,hi,hneg,hg⟩:=neg_at g0 g9
 have hgd:=guards_at (x:=x) g0 g9 hg
 have hlaw:=neg_law W hi hneg b x
 have hen:=byV_ok (q:=q) (binds_len W hbv) hev hx (i:Int)
 have htl:(ngOf sc q (conjs q) i).types.length<big:=by have:=tys_len W hi;show (tysOf sc (itA q i)).length<big;unfold big;omega
 have hrl:(ngOf sc q (conjs q) i).rest.length<big:=by
  have h1:=conjs_le w
  show (restL sc q (conjs q) i).length<big
  have h2:(restL sc q (conjs q) i).length≤(conjs q).length:=by unfold restL;rw[List.length_map];exact List.length_filter_le _ _
  unfold big;omega
 have hpr:∀f∈(ngOf sc q (conjs q) i).rest,PrOk f:=fun f hf=>restL_ok w hf
 refine awp_cut 3 _ _ (law12c W w g0 g9 e2 hn e4 h4 n4 B) fun e5 h5 n5 ⟨q14,m2,ty,ow,cn,C⟩ => ?_
 rw[hg]at C
 refine awp_cut 1 _ _ (R:=fun s=>CN H n sc q sa qa qb qc ba ng x m p m2 (ngOf sc q (conjs q) i) ty ow cn s∧s.e 14=bv (decide (x.ty∈(ngOf sc q (conjs q) i).types))) ?_ fun e6 h6 n6 ⟨C6,k14⟩ => ?_
 ·show awp _ (.seq (hdC 1 (hdC 1 (tlC 8 (Tryz.f12.body.getD .skip)))) (.block 0 (.loop l12A))) _ _
  refine blk_cut (I:=fun s=>CN H n sc q sa qa qb qc ba ng x m p m2 (ngOf sc q (conjs q) i) ty ow cn s∧s.e 14=bv false∧s.e 15=ii 0) ?_ fun e h n' ⟨J,j1,j2⟩=>law12d htl e h n' J j1 j2 fun s' J' k=>⟨rfl,J',k⟩
  simp only[]at q14
  simp[evz,hdC,tlC,Tryz.f12]
  exact⟨C.up (by simp[up]) (agree_refl _ _) C.b.a.fr (Nat.le_refl _),by simp[up,q14],by simp[up,ii]⟩
 refine awp_cut 2 _ _ (law12e W w e2 rb hx hn e6 h6 n6 C6 k14) fun e7 h7 n7 ⟨q17,la,D⟩ => ?_
 rw[hgd]at q17
 refine awp_cut 1 _ _ (R:=fun s=>DN H n sc q sa qa qb qc ba ng x b m p m2 (ngOf sc q (conjs q) i) ty ow cn la s∧s.e 17=bv (passV q i (tysOf sc (itA q i)) (ownL sc q (conjs q) i) x&&(restL sc q (conjs q) i).all fun f=>holdsV f ⟨byV q b i x,-1,0⟩)) ?_ fun e8 h8 n8 ⟨D8,k17⟩ => ?_
 ·show awp _ (.seq (hdC 1 (hdC 1 (tlC 11 (Tryz.f12.body.getD .skip)))) (.block 2 (.loop l12B))) _ _
  refine blk_cut (I:=fun s=>DN H n sc q sa qa qb qc ba ng x b m p m2 (ngOf sc q (conjs q) i) ty ow cn la s∧s.e 17=bv (passV q i (tysOf sc (itA q i)) (ownL sc q (conjs q) i) x)∧s.e 18=ii 0) ?_ fun e h n' ⟨J,j1,j2⟩=>law12f hrl hpr hen e h n' J j1 j2 fun s' J' k=>⟨rfl,J',k⟩
  simp only[]at q17
  simp[evz,hdC,tlC,Tryz.f12]
  exact⟨D.up (by simp[up]) (agree_refl _ _) D.c.b.a.fr (Nat.le_refl _),by simp[up,q17],by simp[up,ii]⟩
 refine awp_cut 2 _ _ (law12g w e2 hn e8 h8 n8 D8 k17) fun e9 h9 n9 ⟨q19,z,F⟩ => ?_
 refine awp_cut 1 _ _ (R:=fun s=>s.e 17=bv (passV q i (tysOf sc (itA q i)) (ownL sc q (conjs q) i) x&&(restL sc q (conjs q) i).all fun f=>holdsV f ⟨byV q b i x,-1,0⟩)∧s.e 19=bv (decide (x.ty∈tysOf sc (itA q i))&&(rootsQ q.wh).all (wantR sc q b i x))) ?_ fun ea ha na ⟨k1,k2⟩=>law12z ea ha na k1 k2 hlaw
 show awp _ (.seq (hdC 1 (hdC 1 (tlC 14 (Tryz.f12.body.getD .skip)))) (.block 4 (.loop l12C))) _ _
 refine blk_cut (I:=fun s=>FN H n sc q sa qa qb qc ba ng x b m p m2 (ngOf sc q (conjs q) i) ty ow cn la (passV q i (tysOf sc (itA q i)) (ownL sc q (conjs q) i) x&&(restL sc q (conjs q) i).all fun f=>holdsV f ⟨byV q b i x,-1,0⟩) z s∧s.e 19=bv (decide (x.ty∈(ngOf sc q (conjs q) i).types))∧s.e 21=ii 0) ?_ fun e h n' ⟨J,j1,j2⟩=>law12l W w e1 e2 hen hn e h n' J j1 j2 fun s' J' k=>⟨rfl,J'.q17,k⟩
 simp only[]at q19
 simp[evz,hdC,tlC,Tryz.f12]
 exact⟨F.up (by simp[up]) (agree_refl _ _) F.d.c.b.a.fr (Nat.le_refl _),by simp[up,q19],by simp[up,ii]⟩
end
end
end Go.Proofs.YtbffkkeieihpdaaGreatDoor
