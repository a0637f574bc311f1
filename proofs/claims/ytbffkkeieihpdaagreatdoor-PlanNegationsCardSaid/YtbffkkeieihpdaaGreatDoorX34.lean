import Derived.Test.YtbffkkeieihpdaaGreatDoorX33
import Derived.Test.YtbffkkeieihpdaaGreatDoorX28
import Derived.Test.YtbffkkeieihpdaaGreatDoorX22
import Derived.Test.YtbffkkeieihpdaaGreatDoorX19
import Derived.Test.YtbffkkeieihpdaaGreatDoorX14
set_option linter.unusedSimpArgs false
set_option linter.unusedVariables false
set_option linter.constructorNameAsVariable false
set_option maxRecDepth 100000
set_option maxHeartbeats 4000000
namespace Go.Proofs.YtbffkkeieihpdaaGreatDoor
open Go Go.Eng
section
section
variable {hB:Heap} {n1 bid mid:Nat} {T:Nat→Nat} {p:Pt} {P:Pl} {f:ByteArray→Option (Bool×Nat)}
theorem b59r {t:List Nd} {h:Heap} {n:Nat} (b:BI hB n1 bid mid T h n p P f) {y:Y59} {k:Nat} (hk:k<P.negs.length) (hl:P.negs[k].rest.length≤1099511627776) (hal:aloneT P.q t=false) (e:Nat→AV) (h1:Heap) (n2:Nat) (a:S59 bid P h n t y ⟨e,h1,n2⟩) (q7:e 7=bv (aloneT P.q t)) {it:It} {i:Int} {w:Bool×Nat} {m12 m13:Nat} {ty:AV} (hw:w.1=true) (hw2:w.2=k) (r:R59 it i w m12 m13 ty ⟨e,h1,n2⟩) {Q}
  (hQ:∀s',(∃T' p',BI hB n1 bid mid T' s'.h s'.n p' {P with negs:=P.negs.set k {P.negs[k]with rest:=P.negs[k].rest++[compP P.sc (vars P.q.items) t]} } f∧Mv (fun _=>True) T h n T' s'.h s'.n)→Q .ret s') :
  awp (cz [3] (pfL tp59)) (tlC 3 c59B) Q ⟨e,h1,n2⟩:=by
 obtain⟨bi,V0⟩:=a.bi b
 have a0:=a
 have hpr:=a.M.rd b.s
 obtain⟨q0,q4,ag,fr,nn,⟨q5,b5,ow,o1,o2,o3,o4,o5,o6⟩,U⟩:=a
 simp only[]at q0 q4 ag fr nn q5 b5 ow o2 bi V0 hpr
 generalize hpp:compP P.sc (vars P.q.items) t=pr at *
 obtain⟨lb,lm,nbm⟩:=bi.low
 have hbb:=bi.bb
 obtain⟨ca',la',e0,k1,k2,k3,k4,k5,k6⟩:=ow.is
 simp only[AV.g.injEq,List.cons.injEq,and_true]at e0
 obtain⟨rfl,rfl⟩:=e0
 obtain⟨hid,hver,ccs,hca,hT,hh,hcl,hR⟩:=bi.ng.row (by omega)
 obtain⟨ty,owl,cnl,hrow,e2,e3,e4⟩:=hR k hk
 have hc4:=cell_of (c:=5) hrow rfl (by omega)
 have hb5:k*6+6≤ccs.length:=by omega
 have hb4:k*6+5<ccs.length:=by omega
 have hc4':∀hx,ccs[k*6+5]'hx=cnl:=fun hx=>by rw[List.getElem?_eq_getElem hx]at hc4;exact Option.some.inj hc4
 obtain⟨_,_,_,q13,b13⟩:=r
 simp only[]at q13 b13
 rw[hw,hw2]at b13
 have hca2:=hca
 obtain⟨cs,gl,gR⟩:=e4
 have lh:=lt_of hh bi.s.fr
 have x4:¬bid=n2+1:=by omega
 have x5:¬bid=n2:=by omega
 have x6:¬hid=n2+1:=by omega
 have x7:¬hid=n2:=by omega
 have hm5:T y.m5=0:=b.s.tn _ o1
 have w1:¬bid=y.m5:=fun e=>by rw[←e,bi.s.tb]at hm5;cases hm5
 have w2:¬y.m5=n2:=by omega
 have w3:¬y.m5=n2+1:=by omega
 have w4:¬hid=y.m5:=fun e=>by rw[←e,hT]at hm5;cases hm5
 have w5:¬hid=bid:=fun e=>by rw[e,bi.s.tb]at hT;omega
 have w6:¬bid=hid:=fun e=>w5 e.symm
 rw[hal]at q7
 rcases gl.at with ⟨ga,g0,rfl⟩|⟨id,ver,ga,gT,gh⟩
 ·simp[evz,c59B,c59L,inB,bodyL,hdC,tlC,Tryz.f59,q4,q5,q7,q13,b13,b5,hbb,bcells,ii,ss,bv,hca,hh,hc4',hb4,hb5,hk,ga,x6,x7,k1,k2,tp59]
  have V:=Mv.thr_new (n':=n2+3) (k:=19+4*k) bi.s.tn bi.s.fr hT (by omega) lh ⟨[y.ca,y.la],0,true,2⟩ ⟨[y.ca,y.la],0,true,2⟩ ⟨ccs.set (k*6+5) (.s (n2+1) 0 0 1),hver,true,6⟩ (by omega)
  refine⟨fun _=>keepL_up rfl fun t ht => ?_,last_no (by kernel_rfl),hQ _ ⟨fun i=>if i=n2+1 then 19+4*k else T i,p,bi.ngrest hk hca hT hh hcl hR V (up_same _ _ _) ?_,V0.trans V (fun _ _=>trivial) fun _ _=>trivial⟩⟩
  ·simp[ldSlots]at ht
   rcases ht with rfl|rfl
   ·exact⟨hid,hver,_,by simp[up];rfl,by omega⟩
   ·exact⟨y.m5,0,0,by simp[up,q5],by omega⟩
  ·have hne:P.negs[k].rest=[]:=List.length_eq_zero_iff.1 g0
   rw[hne]
   exact LR.app (xs:=[]) (cs:=[]) (ns:=[y.ca,y.la]) (by simp) (by rfl) (if_pos rfl) (by simp only[];rw[up_ne _ _ (Ne.symm x6),up_same];rfl) (fun i hi=>by simp at hi) (dPrg.mono (V.still bi.s.fr) hpr)
 ·have y1:¬id=n2:=by have:=lt_of gh bi.s.fr;omega
  have y2:¬id=n2+1:=by have:=lt_of gh bi.s.fr;omega
  have y3:¬id=hid:=fun e=>by rw[e,hT]at gT;omega
  have y4:¬hid=id:=fun e=>y3 e.symm
  have y5:¬y.m5=id:=fun e=>by rw[←e,hm5]at gT;omega
  have y6:¬bid=id:=fun e=>by rw[←e,bi.s.tb]at gT;omega
  have hcl2:=gl.1
  simp[evz,c59B,c59L,inB,bodyL,hdC,tlC,Tryz.f59,q4,q5,q7,q13,b13,b5,hbb,bcells,ii,ss,bv,hca,hh,hc4',hb4,hb5,hk,ga,gh,x6,x7,k1,k2,tp59,y1,y4,hcl2]
  have V1:=Mv.thr_old (n':=n2+3) (k:=19+4*k) bi.s.tn bi.s.fr hT (by omega) lh (by omega) gT (lt_of gh bi.s.fr) ⟨[y.ca,y.la],0,true,2⟩ ⟨cs++[y.ca,y.la],ver,true,2⟩ ⟨ccs.set (k*6+5) (.s id ver 0 (P.negs[k].rest.length+1)),hver,true,6⟩ (by omega)
  have V2:=Mv.thr_new (n':=n2+3) (k:=19+4*k) bi.s.tn bi.s.fr hT (by omega) lh ⟨[y.ca,y.la],0,true,2⟩ ⟨cs++[y.ca,y.la],0,true,2⟩ ⟨ccs.set (k*6+5) (.s (n2+1) 0 0 (P.negs[k].rest.length+1)),hver,true,6⟩ (by omega)
  refine⟨⟨by omega,by omega⟩,⟨fun _=>keepL_up rfl fun t ht => ?_,last_no (by kernel_rfl),hQ _ ⟨T,p,bi.ngrest hk hca hT hh hcl hR V1 (up_same _ _ _) ?_,V0.trans V1 (fun _ _=>trivial) fun _ _=>trivial⟩⟩,fun _=>keepL_up rfl fun t ht => ?_,last_no (by kernel_rfl),hQ _ ⟨fun i=>if i=n2+1 then 19+4*k else T i,p,bi.ngrest hk hca hT hh hcl hR V2 (up_same _ _ _) ?_,V0.trans V2 (fun _ _=>trivial) fun _ _=>trivial⟩⟩
  ·simp[ldSlots]at ht
   rcases ht with rfl|rfl
   ·exact⟨hid,hver,_,by simp[up];rfl,by omega⟩
   ·exact⟨y.m5,0,0,by simp[up,q5],by omega⟩
  ·exact LR.app (cs:=cs) (ns:=[y.ca,y.la]) gl.1 (by rfl) gT (by simp only[];rw[up_ne _ _ y3,up_same]) (fun i hi=>dPrg.mono (V1.still bi.s.fr) (gR i hi)) (dPrg.mono (V1.still bi.s.fr) hpr)
  ·simp[ldSlots]at ht
   rcases ht with rfl|rfl
   ·exact⟨hid,hver,_,by simp[up];rfl,by omega⟩
   ·exact⟨y.m5,0,0,by simp[up,q5],by omega⟩
  ·exact LR.app (cs:=cs) (ns:=[y.ca,y.la]) gl.1 (by rfl) (if_pos rfl) (by simp only[];rw[up_ne _ _ (Ne.symm x6),up_same]) (fun i hi=>dPrg.mono (V2.still bi.s.fr) (gR i hi)) (dPrg.mono (V2.still bi.s.fr) hpr)
end
end
section
theorem find_none {α:Type} {p:α→Bool} {l:List α} (h:∀x∈l,p x=false):l.find? p=none:=List.find?_eq_none.2 fun x hx=>by rw[h x hx];simp
theorem find_at {α:Type} {p:α→Bool} {l:List α} {j:Nat} (hj:j<l.length) (h:∀x∈l.take j,p x=false) (hp:p l[j]=true):l.find? p=some l[j]:=by
 have e:l=l.take j++l[j]::l.drop (j+1):=by rw[List.getElem_cons_drop,List.take_append_drop]
 have h1:(l.take j++l[j]::l.drop (j+1)).find? p=some l[j]:=by
  rw[List.find?_append,find_none h,Option.none_or,List.find?_cons_of_pos hp]
 rw[←e]at h1
 exact h1
def E59 (hB:Heap) (n1 bid mid:Nat) (sc:List Ty) (q:Qu) (l:List (List Nd)) (T:Nat→Nat) (h:Heap) (n:Nat) (h':Heap) (n':Nat):Prop :=
 ∃T' p',BI hB n1 bid mid T' h' n' p' (plC sc q l) (slF q q.items.length)∧Mv (fun _=>True) T h n T' h' n'
section
variable {hB:Heap} {n1 bid mid:Nat} {sc:List Ty} {q:Qu} {l:List (List Nd)} {t:List Nd} {T:Nat→Nat} {p:Pt} {h:Heap} {n:Nat}
theorem plC_comps_len:(plC sc q l).comps.length=(posI q q.items.length).length:=by simp[plC,cmpsOf]
theorem ownL_len (i:Int):(ownL sc q l i).length≤l.length:=by simp only[ownL,List.length_map];exact List.length_filter_le _ _
theorem restL_len (i:Int):(restL sc q l i).length≤l.length:=by simp only[restL,List.length_map];exact List.length_filter_le _ _
theorem condL_len (i:Int):(condL sc q l i).length≤l.length:=by simp only[condL,List.length_map];exact List.length_filter_le _ _
theorem fixL_len:(fixL sc q l).length≤l.length:=by simp only[fixL,List.length_map];exact List.length_filter_le _ _
theorem comp_own_len {k:Nat} (hk:k<(plC sc q l).comps.length):(plC sc q l).comps[k].own.length≤l.length:=by
 simp only[plC,cmpsOf,List.getElem_map,cmpOf];exact ownL_len _
theorem comp_cond_len {k:Nat} (hk:k<(plC sc q l).comps.length):(plC sc q l).comps[k].conds.length≤l.length:=by
 simp only[plC,cmpsOf,List.getElem_map,cmpOf];exact condL_len _
theorem neg_own_len {k:Nat} (hk:k<(plC sc q l).negs.length):(plC sc q l).negs[k].own.length≤l.length:=by
 simp only[plC,ngsOf,List.getElem_map,ngOf];exact ownL_len _
theorem neg_rest_len {k:Nat} (hk:k<(plC sc q l).negs.length):(plC sc q l).negs[k].rest.length≤l.length:=by
 simp only[plC,ngsOf,List.getElem_map,ngOf];exact restL_len _
theorem b59s (b:BI hB n1 bid mid T h n p (plC sc q l) (slF q q.items.length)) (hll:l.length≤1099511627776) {y:Y59} {id ver j:Nat} (e:Nat→AV) (h1:Heap) (n2:Nat) (a:K59 bid (plC sc q l) h n t y id ver j j ⟨e,h1,n2⟩) (hj:j=(mentL q t).length) {Q}
  (hQ:∀s',E59 hB n1 bid mid sc q (l++[t]) T h n s'.h s'.n→Q .normal s') :
  awp (cz [3] (pfL tp59)) (tlC 6 (Tryz.f59.body.getD .skip)) Q ⟨e,h1,n2⟩:=by
 obtain⟨a0,q7,q8,q9,_,_,_,_,ps⟩:=a
 replace q7:e 7=bv (aloneT q t):=q7
 replace q8:e 8=ii (lsL q ((mentL q t).take j)):=q8
 replace q9:e 9=ii (chL q t ((mentL q t).take j)):=q9
 replace ps:∀i∈(mentL q t).take j,ngQ q i=false:=ps
 have hno:(mentL q t).find? (ngQ q)=none:=find_none fun x hx=>ps x (by rw[hj];rw[List.take_length];exact hx)
 rw[hj,List.take_length]at q8 q9
 have hle:=lsL_le (q:=q) (mentL q t)
 by_cases hlt:lsL q (mentL q t)<(posI q q.items.length).length
 ·have hk:lsL q (mentL q t)<(plC sc q l).comps.length:=by rw[plC_comps_len];exact hlt
  have hp:=plC_pos (sc:=sc) (l:=l) hno hlt _ (List.getElem?_eq_getElem hk)
  cases hal:aloneT q t with
  | true =>
   rw[hal,if_pos rfl]at hp
   exact b59y b hk (Nat.le_trans (comp_own_len hk) hll) hal e h1 n2 a0 q7 q8 fun s' ⟨T',p',b',V⟩=>hQ s' ⟨T',p',by rw[hp];exact b',V⟩
  | false =>
   rw[hal,if_neg (by simp)]at hp
   exact b59z b hk (Nat.le_trans (comp_cond_len hk) hll) hal e h1 n2 a0 q7 q8 q9 fun s' ⟨T',p',b',V⟩=>hQ s' ⟨T',p',by rw[hp];exact b',V⟩
 ·have hp:=plC_fix (sc:=sc) (l:=l) hno hlt
  exact b59x b (Nat.le_trans fixL_len hll) e h1 n2 a0 (by rw[q8,plC_comps_len];congr 2;congr 1;omega) fun s' ⟨T',p',b',V⟩=>hQ s' ⟨T',p',by rw[hp];exact b',V⟩
theorem b59l (hx:∀i,i<q.items.length→ixOf (vars q.items) (itA q i).var=i) (hq:q.items.length<big) (hlb:(usesL bareO (vars q.items) t).length≤1099511627776) (hla:(usesL aggO (vars q.items) t).length≤1099511627776) (hll:l.length≤1099511627776)
  (b:BI hB n1 bid mid T h n p (plC sc q l) (slF q q.items.length)) {y:Y59} {id ver:Nat} (e:Nat→AV) (h1:Heap) (n2:Nat) (a:K59 bid (plC sc q l) h n t y id ver 0 0 ⟨e,h1,n2⟩) {Q}
  (hN:∀e' h' n',K59 bid (plC sc q l) h n t y id ver (mentL q t).length (mentL q t).length ⟨e',h',n'⟩→Q (.exit 0) ⟨e',h',n'⟩)
  (hQ:∀s',E59 hB n1 bid mid sc q (l++[t]) T h n s'.h s'.n→Q .ret s') :
  awp (cz [3] (pfL tp59)) (.loop c59L) Q ⟨e,h1,n2⟩:=by
 refine awp_loop (fun s=>∃j,j≤(mentL q t).length∧K59 bid (plC sc q l) h n t y id ver j j s) (fun s=>(mentL q t).length-(s.e 62).i.toNat) ⟨0,Nat.zero_le _,a⟩ ?_
 rintro e' h' n' ⟨j,hj,J⟩
 have hml:(mentL q t).length<big:=by
  have:mentL q t=usesL bareO (vars q.items) t++usesL aggO (vars q.items) t:=rfl
  rw[this,List.length_append];unfold big;omega
 have J0:=J
 have q61:=J.q61
 have q62:=J.q62
 replace q61:e' 61=ii (mentL q t).length:=q61
 simp only[]at q62
 by_cases hlt:j<(mentL q t).length
 ·refine awp_cut 2 _ _ (R:=fun s=>K59 bid (plC sc q l) h n t y id ver j j s∧s.e 62=ii j) ?_ fun e2 h2 n2' ⟨J2,z62⟩ => ?_
  ·simp[evz,hdC,tlC,c59L,bodyL,Tryz.f59,q61,q62,ii,hlt]
   exact J0.up (by simp[up]) (agree_refl _ _) J0.a.fr (Nat.le_refl _)
  ·show awp _ (.seq (.block 1 c59B) (tlC 3 c59L)) _ _
   rw[awp_seq,awp_block]
   obtain⟨hi0,hi⟩:=ment_lt (List.getElem_mem hlt)
   have hsl:=slF_at hx hi (Nat.le_refl q.items.length)
   refine awp_cut 3 _ _ (b59e (P:=plC sc q l) b hlt hsl e2 h2 n2' J2) fun e3 h3 n3 ⟨J3,m12,m13,ty,R⟩ => ?_
   cases hng:(itA q (mentL q t)[j].toNat).neg with
   | true =>
    have hfd:=find_at (p:=ngQ q) hlt J.ps hng
    obtain⟨hk,hp⟩:=plC_neg (sc:=sc) (l:=l) hfd
    have hp:=hp _ (List.getElem?_eq_getElem hk)
    cases hal:aloneT q t with
    | true =>
     rw[hal,if_pos rfl]at hp
     refine b59n (P:=plC sc q l) b hk (Nat.le_trans (neg_own_len hk) hll) hal e3 h3 n3 J3.a J3.q7 hng (by simp only[hng,if_true]) R fun s' ⟨T',p',b',V⟩ => ?_
     exact hQ s' ⟨T',p',by rw[hp];exact b',V⟩
    | false =>
     rw[hal,if_neg (by simp)]at hp
     refine b59r (P:=plC sc q l) b hk (Nat.le_trans (neg_rest_len hk) hll) hal e3 h3 n3 J3.a J3.q7 hng (by simp only[hng,if_true]) R fun s' ⟨T',p',b',V⟩ => ?_
     exact hQ s' ⟨T',p',by rw[hp];exact b',V⟩
   | false =>
    refine awp_mono _ (fun x s hx => ?_) (b59f (P:=plC sc q l) (Q:=fun _ _=>False) (show (usesL bareO (vars q.items) t).length<big by unfold big;omega) hlt hng (by simp only[hng,Bool.false_eq_true,if_false];rfl) hng e3 h3 n3 J3 R)
    cases x with
    | normal =>
     obtain⟨e4,h4,n4⟩:=s
     rw[thenQ_n]at hx
     rw[blockQ_n,thenQ_n]
     have hx0:=hx
     have z:=hx.q62
     simp only[]at z
     have hw:=wrap_nat (j:=j) (by unfold big at hml ⊢;omega)
     simp[evz,hdC,tlC,c59L,bodyL,Tryz.f59,z,ii,hw]
     refine⟨⟨j+1,hlt,⟨hx0.a.up (by simp[up]) (agree_refl _ _) hx0.a.fr (Nat.le_refl _),by simpa[up]using hx0.q7,by simpa[up]using hx0.q8,by simpa[up]using hx0.q9,by simpa[up]using hx0.q60,hx0.b60,by simpa[up]using hx0.q61,by simp[up,ii],hx0.ps⟩⟩,?_⟩
     rw[q62]
     simp[ii,AV.i]
     omega
    | exit i=>exact (by simp[thenQ_e]at hx:False).elim
    | ret=>exact (by simp[thenQ_r]at hx:False).elim
 ·obtain rfl:j=(mentL q t).length:=by omega
  simp[evz,hdC,tlC,c59L,bodyL,Tryz.f59,q61,q62,ii]
  exact hN _ _ _ (J0.up (by simp[up]) (agree_refl _ _) J0.a.fr (Nat.le_refl _))
end
end
section
theorem usesL_len (p:Int→Bool) (vs:List ByteArray) (t:List Nd):(usesL p vs t).length≤vs.length:=by
 unfold usesL
 refine Nat.le_trans (List.length_filter_le _ _) ?_
 simp
section
variable {hB:Heap} {n1 bid mid:Nat} {sc:List Ty} {q:Qu} {l:List (List Nd)} {t:List Nd} {T:Nat→Nat} {p:Pt} {h:Heap} {n:Nat}
theorem b59 (hx:∀i,i<q.items.length→ixOf (vars q.items) (itA q i).var=i) (hq10:q.items.length≤10) (hll:l.length≤1099511627776) (hpt:smallT t) (htl:sc.length*8≤140737488355328) (hst:smallS sc)
  (b:BI hB n1 bid mid T h n p (plC sc q l) (slF q q.items.length)) {ta:AV} (et:rd dNs (still T h) ta=some t) :
  ACall (cz [3] (pfL tp59)) 59 [.p bid 0 0,ta] h n fun _ h' n'=>E59 hB n1 bid mid sc q (l++[t]) T h n h' n':=by
 refine acall_of_awp (args:=[.p bid 0 0,ta]) (pfZ_ok (tb_cons P118 tb_nil)) (mixed_z _ _) Tryz.func59 (c:=Tryz.f59.body.getD .skip) rfl (by kernel_rfl) (callable Tryz.func59 rfl rfl [] (pfL [])) (show 2≤Tryz.f59.ntmps by decide +kernel) ?_
 have hq:q.items.length*64≤140737488355328:=by omega
 have hvl:(vars q.items).length=q.items.length:=by simp[vars]
 have hub:=usesL_len bareO (vars q.items) t
 have hua:=usesL_len aggO (vars q.items) t
 refine awp_cut 2 _ _ (b59a (P:=plC sc q l) hq hpt htl hst b et (env0 [.p bid 0 0,ta]) rfl rfl) fun e1 h1 n2 ⟨q0,q1,q4,ag,fr,nn,m5,lo,hi,ca,la,M⟩ => ?_
 simp only[]at q0 q1 q4 ag fr nn
 have V:Mv (fun _=>False) T h n T h1 n2:=Mv.of_agree b.s.tn nn ag fr
 refine awp_cut 1 _ _ (b59b (P:=plC sc q l) hq hpt (b.mv V) (rd_agr b.s.fr (rd_mono (still_le _ _) et) _ ag) e1 q1 q4) fun e2 h2 n3 ⟨he,ag2,fr2,nn2,m6,a1,a2,a3,U⟩ => ?_
 simp only[]at he ag2 fr2 nn2
 have S:S59 bid (plC sc q l) h n t ⟨m5,lo,hi,ca,la,m6,a1,a2,a3⟩ ⟨e2,h2,n3⟩:=by
  refine⟨(he 0 (by simp)).trans q0,(he 4 (by simp)).trans q4,agree_trans ag ag2 nn,fr2,Nat.le_trans nn nn2,M.up (he 5 (by simp)) ag2 nn2,?_⟩
  obtain⟨u1,u2,⟨u3,u4⟩,u5,u6,u7,u8⟩:=U
  exact⟨u1,u2,⟨Nat.le_trans nn u3,u4⟩,u5,u6,u7,u8⟩
 refine awp_cut 2 _ _ (b59c (P:=plC sc q l) b e2 h2 n3 S) fun e3 h3 n4 ⟨S3,q7,q8,q9⟩ => ?_
 refine awp_cut 1 _ _ (R:=fun s=>∃y id ver,K59 bid (plC sc q l) h n t y id ver (mentL q t).length (mentL q t).length s) ?_ fun e4 h4 n5 ⟨y,id,ver,K⟩ => ?_
 ·show awp _ (.seq (hdC 1 (hdC 1 (tlC 5 (Tryz.f59.body.getD .skip)))) (.block 0 (.loop c59L))) _ _
  rw[awp_seq]
  have k1:(usesL bareO (vars q.items) t).length≤1099511627776:=by omega
  have k2:(usesL aggO (vars q.items) t).length≤1099511627776:=by omega
  refine awp_mono _ (fun x s hxx => ?_) (b59d (P:=plC sc q l) (Q:=fun _ _=>False) k1 k2 plC_comps_len e3 h3 n4 S3 q7 q8 q9)
  cases x with
  | normal =>
   obtain⟨e5,h5,n6⟩:=s
   rw[thenQ_n]at hxx
   obtain⟨id,ver,K⟩:=hxx
   rw[thenQ_n,awp_block]
   refine b59l hx (by unfold big;omega) k1 k2 hll b e5 h5 n6 K (fun e' h' n' K' => ?_) fun s' hE => ?_
   ·rw[blockQ_e,if_pos rfl,thenQ_n]
    exact⟨_,id,ver,K'⟩
   ·rw[blockQ_r,thenQ_r,finQ_r]
    exact⟨trivial,hE⟩
  | exit i=>exact (by simp[thenQ_e]at hxx:False).elim
  | ret=>exact (by simp[thenQ_r]at hxx:False).elim
 ·refine b59s b hll e4 h4 n5 K rfl fun s' hE => ?_
  rw[finQ_n]
  exact⟨trivial,hE⟩
end
end
def szN (t:List Nd) (i:Nat):Nat:=i+1-loOf t i
def G119 (m:Nat):=pureH deTI (fun q=>tree1 q.1=true∧smallT q.1∧0≤q.2∧q.2<(m:Int)∧q.2<(q.1.length:Int)) fun q=>ii (szN q.1 q.2.toNat)
def tb119 (m:Nat):List (FuncId×(List AV→Heap→PRes)):=[(147,G119 m)]
theorem p119_zero:P0 [] 147 (G119 0):=by
 have no:∀args h,¬(G119 0 args h).side:=fun args h hs=>by
  obtain⟨a,_,hp,_⟩:=pureH_out deTI_mono hs
  obtain⟨_,_,h1,h2,_⟩:=hp
  omega
 exact⟨fun args h h' _ hs=>(no _ _ hs).elim,.inl ⟨callable Tryz.func147 rfl rfl _ _,fun ρ h w args vs _ _ _ hs=>(no _ _ hs).elim⟩⟩
theorem P119:∀m,P0 [] 147 (G119 m)
 | 0=>p119_zero
 | m+1=>by
  refine mkH 2 (S:=[]) (l:=tb119 m) (tb_cons (P119 m) tb_nil) Tryz.func147 rfl (by kernel_rfl) deTI_mono (fun h l x e=>by obtain⟨p,rfl,_⟩:=deTI_out e;exact Nat.le_refl _) (fun a=>rfl) (fun args q h n e hp hn => ?_)
  obtain⟨t,i⟩:=q
  obtain⟨a,rfl,e1⟩:=deTI_out e
  obtain⟨ht,hsm,hi0,him,hil⟩:=hp
  simp only[]at e1 ht hsm hi0 him hil ⊢
  obtain⟨j,rfl⟩:∃j:Nat,i=j:=⟨i.toNat,by omega⟩
  rw[Int.toNat_natCast]
  have hlt:j<t.length:=by omega
  have T:=tre_of ht
  have hT:=T.kind j hlt
  have hsm':t.length*64≤140737488355328:=hsm
  have g1:=rd_agree hn e1
  rcases ns_at e1 with ⟨h0,_⟩|⟨id,off,k,rfl,hk,ho',hat⟩
  ·rw[h0]at hlt;simp at hlt
  have hr:=hat j hlt
  have hro:=ro_at hk
  have h0:=ne_of hk hn
  have h00:=ne_of hk hn 0
  simp only[Nat.add_zero]at h00
  have c4:=cell_of (c:=4) hr rfl (by omega)
  have c5:=cell_of (c:=5) hr rfl (by omega)
  rw[Nat.add_assoc]at c4 c5
  have hw5:off+(j*6+5)≤k.cells.length:=by omega
  have hw6:off+(j*6+6)≤k.cells.length:=by omega
  have hlo:=T.le j hlt
  have hag:=agree_refl n (roH h)
  rcases hT with ⟨b1,b2,b3,b4,b⟩|⟨b0,b1,b2,b3,b⟩|⟨b0,b0',b1,b2,c,b3,b4,b⟩
  ·have hsz:szN t j=1:=by unfold szN;omega
   rw[b3]at c4
   rw[b4]at c5
   simp only[ii]at c4 c5
   simp[evx,ii,hlt,hro,c4,c5,hw5,hw6,hsz]
  ·have hsz:(szN t j:Int)=1+(szN t (j-1):Int):=by
    have:=T.le (j-1) (by omega)
    unfold szN;omega
   rw[b2]at c4
   rw[b3]at c5
   simp only[ii]at c4 c5
   have k1:j-1<m:=by omega
   have k2:j-1<t.length:=by omega
   have hs2:szN t (j-1)≤t.length:=by unfold szN;omega
   have hw:=wrap_sm (x:=1+(szN t (j-1):Int)) (by omega) (by omega)
   rw[hsz]
   generalize hz:szN t (j-1)=z at *
   simp[evx,ii,hlt,hro,c4,c5,hw5,hw6,tb119,G119,pureH,deTI,g1,hag,ht,hsm,k1,k2,hz,hw]
   done
  ·have hlb:=T.le (j-1) (by omega)
   have hla:=T.le c (by omega)
   have hsz:(szN t j:Int)=1+(szN t c:Int)+(szN t (j-1):Int):=by
    unfold szN;omega
   rw[b3]at c4
   rw[b2]at c5
   simp only[ii]at c4 c5
   have k1:j-1<m:=by omega
   have k2:j-1<t.length:=by omega
   have k3:c<m:=by omega
   have k4:c<t.length:=by omega
   have hs1:szN t c≤t.length:=by unfold szN;omega
   have hs2:szN t (j-1)≤t.length:=by unfold szN;omega
   have hw:=wrap_sm (x:=1+(szN t c:Int)) (by omega) (by omega)
   have hw':=wrap_sm (x:=1+(szN t c:Int)+(szN t (j-1):Int)) (by omega) (by omega)
   rw[hsz]
   generalize hz1:szN t (j-1)=z1 at *
   generalize hz2:szN t c=z2 at *
   simp[evx,ii,hlt,hro,c4,c5,hw5,hw6,tb119,G119,pureH,deTI,g1,hag,ht,hsm,k1,k2,k3,k4,hz1,hz2,hw,hw']
   done
def okTr (q:List Nd×Int):Prop:=tree1 q.1=true∧smallT q.1∧0≤q.2∧q.2<(q.1.length:Int)
def G119a:=pureH deTI okTr fun q=>ii (szN q.1 q.2.toNat)
theorem P119a:P0 [] 147 G119a:=by
 refine⟨fun args h h' hh hs => ?_,.inl ⟨callable Tryz.func147 rfl rfl _ _,fun ρ h w args vs r hmx ha hs => ?_⟩⟩
 ·obtain⟨a,e,hp,hall⟩:=pureH_out deTI_mono hs
  have e1:G119a args h'=_:=hall h' hh
  have e2:G119a args h=_:=hall h (fun _ _ e=>e)
  rw[e1,e2]
  exact⟨hp,rfl⟩
 ·obtain⟨a,e,hp,hall⟩:=pureH_out deTI_mono hs
  have e2:G119a args h=_:=hall h (fun _ _ e=>e)
  have e3:G119 a.1.length args h=⟨tree1 a.1=true∧smallT a.1∧0≤a.2∧a.2<(a.1.length:Int)∧a.2<(a.1.length:Int),ii (szN a.1 a.2.toNat)⟩:=by simp only[G119,pureH,e]
  have hs':(G119 a.1.length args h).side:=by rw[e3];exact⟨hp.1,hp.2.1,hp.2.2.1,hp.2.2.2,hp.2.2.2⟩
  have hv:(G119 a.1.length args h).val=(G119a args h).val:=by rw[e3,e2]
  rcases (P119 a.1.length).2 with ⟨_,k⟩|k
  ·have:=k ρ h w args vs r hmx ha hs'
   rwa [hv]at this
  ·obtain⟨y,e9,_⟩:=k ρ h w args vs ha hs'
   rw[callable (S:=[]) Tryz.func147 rfl rfl]at e9
   cases e9
def G89:=pureH deTI okTr fun q=>ii (szN q.1 q.2.toNat)
def tb89:List (FuncId×(List AV→Heap→PRes)):=[(79,G70),(147,G119a)]
theorem P89:P0 [3] 93 G89:=by
 refine mkH 2 (S:=[3]) (l:=tb89) (tb_cons P70 (tb_cons P119a tb_nil)) Tryz.func93 rfl (by kernel_rfl) deTI_mono (fun h l x e=>by obtain⟨p,rfl,_⟩:=deTI_out e;exact Nat.le_refl _) (fun a=>rfl) (fun args q h n e hp hn => ?_)
 obtain⟨t,i⟩:=q
 obtain⟨a,rfl,e1⟩:=deTI_out e
 have hp':=hp
 obtain⟨ht,hsm,hi0,hil⟩:=hp
 simp only[]at e1 ht hsm hi0 hil ⊢
 have g1:=rd_agree hn e1
 obtain⟨s1,s2,s3,s4,s5⟩:=sl_is e1
 have hag:=agree_refl n (roH h)
 have h1:¬i<0:=by omega
 have h2:¬(t.length:Int)≤i:=by omega
 simp[evx,ii,s1,s2,s3,h1,h2,tb89,G70,G119a,okTr,pureH,deT,deTI,g1,hag,ht,hsm,hi0,hil,bv]
section
section
variable {sc:List Ty} {vs:List ByteArray} {t:List Nd} {lo:Nat→Nat} {en:En}
end
end
section
section
variable {vs:List ByteArray} {a b:List Nd} {op:Int}
end
end
section
theorem wr_app2 {α:Type}:∀(cs:List α) (a b c:List α),b.length=cs.length→wr (a++b++c) a.length cs=a++cs++c
 | [],a,b,c,h=>by
  have:b=[]:=List.eq_nil_of_length_eq_zero h
  subst this;rfl
 | x::r,a,[],c,h=>by simp at h
 | x::r,a,y::b,c,h=>by
  have e:((a++(y::b)++c).set a.length x)=(a++[x])++b++c:=by
   rw[List.append_assoc,List.set_append_right _ _ (Nat.le_refl _),Nat.sub_self]
   simp
  have:=wr_app2 r (a++[x]) b c (by simpa using h)
  rw[List.length_append]at this
  simp only[wr,e]
  rw[show a.length+[x].length=a.length+1 by rfl]at this
  rw[this]
  simp
def z99:Ins:=⟨99,0,0,0,0⟩
def bl (l:List Ins) (s:Nat):Nat→List Ins
 | 0=>l
 | k+1=>(bl l s k).set (s+k) z99
section
variable {sc:List Ty} {vs:List ByteArray} {en:En} {a b:List Nd} {op:Int}
end
end
def subC (lo:Nat) (x:List Nd) (j:Nat):List AV:=((x.take j).map (offN lo)++x.drop j).flatMap ncells
def tb52:List (FuncId×(List AV→Heap→PRes)):=[(93,G89)]
theorem wr_all {α:Type} {l cs:List α} (h:l.length=cs.length):wr l 0 cs=cs:=by
 have:=wr_app2 cs [] l [] (by simpa using h)
 simpa using this
theorem nth_nd {p q:List Nd} {x:Nd} {j c:Nat} {v:AV} (hp:p.length=j) (hc:(ncells x)[c]? = some v) (hc6:c<6):((p++x::q).flatMap ncells)[j*6+c]? = some v:=by
 have hl:(p.flatMap ncells).length=j*6:=by rw[flat_len Flat.nd,hp]
 rw[List.flatMap_append,List.flatMap_cons,List.getElem?_append_right (by omega),hl,show j*6+c-j*6=c by omega,List.getElem?_append_left (by rw[show (ncells x).length=6 from rfl];exact hc6)]
 exact hc
theorem wr_nd {p q:List Nd} {x y:Nd} {j c:Nat} {v:AV} (hp:p.length=j) (h:(ncells x).set c v=ncells y) (hc6:c<6):((p++x::q).flatMap ncells).set (j*6+c) v=(p++y::q).flatMap ncells:=by
 have hl:(p.flatMap ncells).length=j*6:=by rw[flat_len Flat.nd,hp]
 rw[List.flatMap_append,List.flatMap_cons,List.set_append_right _ _ (by omega),hl,show j*6+c-j*6=c by omega,List.set_append_left _ _ (by rw[show (ncells x).length=6 from rfl];exact hc6),h,List.flatMap_append,List.flatMap_cons]
theorem kids_rng {t:List Nd} {lo:Nat→Nat} (T:Tre t lo) {i:Nat} (hi:i<t.length) : -1≤t[i].a∧t[i].a<t.length∧-1≤t[i].b∧t[i].b<t.length:=by
 rcases T.kind i hi with ⟨b1,b2,b3,b4,b⟩|⟨b0,b1,b2,b3,b⟩|⟨b0,b0',b1,b2,a,b3,b4,b⟩
 ·omega
 ·omega
 ·have:=T.le (i-1) (by omega)
  omega
theorem flat_dropn (l:List Nd) (m:Nat):(l.flatMap ncells).drop (m*6)=(l.drop m).flatMap ncells:=by
 by_cases h:m≤l.length
 ·have h1:((l.take m).flatMap ncells).length=m*6:=by rw[flat_len Flat.nd,List.length_take,Nat.min_eq_left h]
  conv=>lhs;rw[←List.take_append_drop m l,List.flatMap_append,←h1,List.drop_left]
 ·have h1:l.drop m=[]:=List.drop_eq_nil_of_le (by omega)
  rw[h1,List.drop_eq_nil_of_le (by rw[flat_len Flat.nd];omega)];rfl
theorem flat_taken (l:List Nd) (m:Nat):(l.flatMap ncells).take (m*6)=(l.take m).flatMap ncells:=by
 by_cases h:m≤l.length
 ·have h1:((l.take m).flatMap ncells).length=m*6:=by rw[flat_len Flat.nd,List.length_take,Nat.min_eq_left h]
  conv=>lhs;rw[←List.take_append_drop m l,List.flatMap_append,←h1,List.take_left]
 ·rw[List.take_of_length_le (l:=l) (by omega),List.take_of_length_le (by rw[flat_len Flat.nd];omega)]
theorem c52 {h:Heap} {n:Nat} {a:AV} {t:List Nd} {r:Nat} (e1:rd dNs h a=some t) (ht:tree1 t=true) (hsm:smallT t) (hr:r<t.length) (hn:Fresh n h) :
  ACall (cx [3] (pfL tb52)) 46 [a,ii r] h n fun z h' n'=>agree n h h'∧Fresh n' h'∧n≤n'∧∃w,z=.s w 0 0 (subT t r).length∧h' w=some ⟨(subT t r).flatMap ncells,0,true,6⟩∧n≤w∧w<n':=by
 refine acall_of_awp (args:=[a,ii r]) (pfL_ok (tb_cons P89 tb_nil)) (mixed _ _) Tryz.func46 (c:=Tryz.f46.body.getD .skip) rfl (by kernel_rfl) (callable Tryz.func46 rfl rfl _ _) (show 2≤Tryz.f46.ntmps by decide +kernel) ?_
 obtain⟨s1,s2,s3,s4,s5⟩:=sl_is e1
 have T:=tre_of ht
 have hlo:=T.le r hr
 have b1:t.length*64≤140737488355328:=hsm
 have hsub:subT t r=((t.drop (loOf t r)).take (szN t r)).map (offN (loOf t r)):=rfl
 have hsl:(subT t r).length=szN t r:=cut_len hr hlo
 have hsz:szN t r=r+1-loOf t r:=rfl
 rw[hsl,hsub]
 have g1:∀h',agree n h h'→rd dNs h' a=some t:=fun h' ha=>rd_agr hn e1 h' ha
 have f1:∀h',agree n h h'→G89 [a,ii r] h'=⟨okTr (t,(r:Int)),ii (szN t r)⟩:=fun h' ha=>by
  simp only[G89,pureH,deTI,ii,g1 h' ha,Option.map_some,Int.toNat_natCast]
 have f2:okTr (t,(r:Int)):=⟨ht,hsm,Int.natCast_nonneg _,by simpa using hr⟩
 have hik:∀i (hi:i<t.length),loOf t r≤i→i≤r→(0≤t[i].a→(loOf t r:Int)≤t[i].a)∧(0≤t[i].b→(loOf t r:Int)≤t[i].b):=fun i hi h1 h2=>in_kids T hr h1 h2 hi
 generalize hz:szN t r=z at *
 generalize loOf t r=lo at *
 rcases ns_at e1 with ⟨hq,_⟩|⟨id,off,k,rfl,hk,ho',hat⟩
 ·rw[hq]at hr;simp at hr
 generalize hx:(t.drop lo).take z=x
 have key:∀e:Nat→AV,e 0=.s id k.ver off t.length→e 1=ii r→awp (cx [3] (pfL tb52)) (Tryz.f46.body.getD .skip) (finQ (cx [3] (pfL tb52)) Tryz.f46 fun v h' n'=>agree n h h'∧Fresh n' h'∧n≤n'∧∃w,v=.s w 0 0 z∧h' w=some ⟨(x.map (offN lo)).flatMap ncells,0,true,6⟩∧n≤w∧w<n') ⟨e,h,n⟩:=fun e q0 q1=>by
  have z1:¬(z:Int)=0:=by omega
  have w1:=wrap_sm (x:=(r:Int)-(z:Int)) (by omega) (by omega)
  have w2:IntKind.i64.wrap (lo:Int)=(lo:Int):=wrap_sm (by omega) (by omega)
  simp only[ii]at f1 f2
  have z2:¬z=0:=by omega
  have hl2:(r:Int)-(z:Int)+1=(lo:Int):=by omega
  have z3:64*(z:Int)≤281474976710656:=by omega
  have z4:(z:Int)≤9223372036854775807:=by omega
  have z5:(lo:Int)≤(t.length:Int):=by omega
  have hne:¬id=n:=by simpa using ne_of hk hn 0
  have z6:off+(lo*6+(t.length-lo)*6)≤k.cells.length:=by omega
  simp[evx,Tryz.f46,q0,q1,ii,tb52,f1,f2,agree_refl,z2,z3,z4,z5,z6,w1,w2,hl2,hne,hk,repZ_length]
  have hx1:x.length=z:=by simp only[←hx,List.length_take,List.length_drop];omega
  have hcp:wr (repZ [Value.int IntKind.i64 0,Value.int IntKind.i64 0,Value.string ByteArray.empty,Value.string ByteArray.empty,Value.int IntKind.i64 0,Value.int IntKind.i64 0] z) 0 (List.take (min (t.length-lo) z*6) (List.take ((t.length-lo)*6) (List.drop (off+lo*6) k.cells)))=x.flatMap ncells:=by
   have hfl:(k.cells.drop off).take (t.length*6)=t.flatMap ncells:=by
    have:=(flat_app Flat.nd e1).2
    simpa only[slc,hk,Nat.zero_add,Nat.add_zero]using this
   have hl2:(x.flatMap ncells).length=z*6:=by rw[flat_len Flat.nd,hx1]
   have e3:List.take (min (t.length-lo) z*6) (List.take ((t.length-lo)*6) (List.drop (off+lo*6) k.cells))=x.flatMap ncells:=by
    have hm:min (t.length-lo) z=z:=by omega
    have h4:List.take ((t.length-lo)*6) (List.drop (off+lo*6) k.cells)=(t.drop lo).flatMap ncells:=by
     rw[←flat_dropn,←hfl,List.drop_take,List.drop_drop,Nat.sub_mul]
    rw[hm,h4,flat_taken,hx]
   rw[e3]
   exact wr_all (by rw[repZ_length,hl2];rfl)
  refine awp_loop (fun s=>∃j:Nat,j≤z∧s.e 7=.s n 0 0 z∧s.e 6=ii lo∧s.e 26=ii z∧s.e 27=ii j∧s.h n=some ⟨subC lo x j,0,true,6⟩∧agree n h s.h∧Fresh s.n s.h∧n+1≤s.n) (fun s=>z-(s.e 27).i.toNat) ⟨0,by omega,by simp[up],by simp[up,ii],by simp[up,ii],by simp[up,ii],by simp[up,subC];exact hcp,by simp[agree_up,agree_refl],by simp[fresh_up,hn.add],by simp⟩ ?_
  rintro e' h' n' ⟨j,hj,q7,q6,q26,q27,hkw,hag,hfr,hnn⟩
  simp only[]at q7 q6 q26 q27 hkw hag hfr hnn
  by_cases hlt:j<z
  ·have hjx:j<x.length:=by omega
   have hsp:x.drop j=x[j]::x.drop (j+1):=List.drop_eq_getElem_cons hjx
   have htk:(x.take (j+1)).map (offN lo)=(x.take j).map (offN lo)++[offN lo x[j]]:=by rw[List.take_succ_eq_append_getElem hjx,List.map_append];rfl
   have hpl:((x.take j).map (offN lo)).length=j:=by rw[List.length_map,List.length_take];omega
   have hxj:x[j]=t[lo+j]'(by omega):=by simp only[←hx,List.getElem_take,List.getElem_drop]
   have hin:=kids_rng T (i:=lo+j) (by omega)
   have hin:=kids_rng T (i:=lo+j) (by omega)
   have hin2:=hik (lo+j) (by omega) (by omega) (by omega)
   rw[←hxj]at hin hin2
   have hxl:((x.take j).map (offN lo)++x.drop j).length=z:=by rw[List.length_append,hpl,List.length_drop];omega
   unfold subC at hkw
   rw[hsp]at hkw hxl
   have hfin:∀y',y'=offN lo x[j]→((x.take j).map (offN lo)++y'::x.drop (j+1)).flatMap ncells=subC lo x (j+1):=fun y' e=>by rw[subC,e,htk,List.append_assoc];rfl
   obtain⟨y,hy⟩:∃y,y=x[j]:=⟨_,rfl⟩
   rw[←hy]at hin hin2 hkw hfin hxl
   obtain⟨p,hp⟩:∃p,p=(x.take j).map (offN lo):=⟨_,rfl⟩
   rw[←hp]at hpl hkw hfin hxl
   obtain⟨g,hg⟩:∃g,g=x.drop (j+1):=⟨_,rfl⟩
   rw[←hg]at hkw hfin hxl
   clear hsp htk hxj hp hg hy
   obtain⟨op,ny,var,attr,ya,yb⟩:=y
   have hlt':(j:Int)<(z:Int):=by omega
   have hjw:=wrap_nat (j:=j) (by unfold big;omega)
   simp only[]at hin hin2
   have n4:∀u v:Int,((p++(⟨op,ny,var,attr,u,v⟩:Nd)::g).flatMap ncells)[j*6+4]? = some (ii u):=fun u v=>nth_nd hpl rfl (by omega)
   have n5:∀u v:Int,((p++(⟨op,ny,var,attr,u,v⟩:Nd)::g).flatMap ncells)[j*6+5]? = some (ii v):=fun u v=>nth_nd hpl rfl (by omega)
   have m4:∀u v w:Int,((p++(⟨op,ny,var,attr,u,v⟩:Nd)::g).flatMap ncells).set (j*6+4) (ii w)=(p++(⟨op,ny,var,attr,w,v⟩:Nd)::g).flatMap ncells:=fun u v w=>wr_nd hpl rfl (by omega)
   have m5:∀u v w:Int,((p++(⟨op,ny,var,attr,u,v⟩:Nd)::g).flatMap ncells).set (j*6+5) (ii w)=(p++(⟨op,ny,var,attr,u,w⟩:Nd)::g).flatMap ncells:=fun u v w=>wr_nd hpl rfl (by omega)
   have cl:∀u v:Int,((p++(⟨op,ny,var,attr,u,v⟩:Nd)::g).flatMap ncells).length=z*6:=fun u v=>by
    rw[flat_len Flat.nd,←hxl];simp
   have hf2:∀u v:Int,u=(if 0≤ya then ya-lo else ya)→v=(if 0≤yb then yb-lo else yb)→(p++(⟨op,ny,var,attr,u,v⟩:Nd)::g).flatMap ncells=subC lo x (j+1):=fun u v e1 e2=>hfin _ (by rw[e1,e2];rfl)
   generalize hC:(fun u v:Int=>(p++(⟨op,ny,var,attr,u,v⟩:Nd)::g).flatMap ncells)=C
   have hC':∀u v:Int,(p++(⟨op,ny,var,attr,u,v⟩:Nd)::g).flatMap ncells=C u v:=fun u v=>by rw[←hC]
   simp only[hC']at n4 n5 m4 m5 cl hf2 hkw
   clear hC hC' hfin
   simp only[ii]at n4 n5 m4 m5
   have v1:¬z*6<j*6+4+1:=by omega
   have v2:¬z*6<j*6+5+1:=by omega
   have u1:n<n'+1:=by omega
   have u2:n<n'+2:=by omega
   have v3:j*6+5≤z*6:=by omega
   have v4:j*6+6≤z*6:=by omega
   have hne':∀m,¬n=n'+m:=fun m=>by omega
   by_cases ha:0≤ya
   ·have wa:=wrap_sm (x:=ya-lo) (by have:=hin2.1 ha;omega) (by omega)
    by_cases hb:0≤yb
    ·have wb:=wrap_sm (x:=yb-lo) (by have:=hin2.2 hb;omega) (by omega)
     have hX2:=hf2 (ya-lo) (yb-lo) (by rw[if_pos ha]) (by rw[if_pos hb])
     simp[evx,q7,q6,q26,q27,ii,hlt',hkw,n4,n5,m4,m5,cl,ha,hb,hjw,v3,v4,wa,wb]
     exact⟨⟨j+1,by omega,by omega,hX2,by simp[agree_up,hag],by first|exact hfr|simp[fresh_up,u2,hfr.add],by omega⟩,by omega⟩
    ·have hX2:=hf2 (ya-lo) yb (by rw[if_pos ha]) (by rw[if_neg hb])
     simp[evx,q7,q6,q26,q27,ii,hlt',hkw,n4,n5,m4,cl,ha,hb,hjw,v3,v4,wa]
     exact⟨⟨j+1,by omega,by omega,hX2,by simp[agree_up,hag],by first|exact hfr|simp[fresh_up,u1,hfr.add],by omega⟩,by omega⟩
   ·by_cases hb:0≤yb
    ·have wb:=wrap_sm (x:=yb-lo) (by have:=hin2.2 hb;omega) (by omega)
     have hX2:=hf2 ya (yb-lo) (by rw[if_neg ha]) (by rw[if_pos hb])
     simp[evx,q7,q6,q26,q27,ii,hlt',hkw,n4,n5,m5,cl,ha,hb,hjw,v3,v4,wb]
     exact⟨⟨j+1,by omega,by omega,hX2,by simp[agree_up,hag],by first|exact hfr|simp[fresh_up,u1,hfr.add],by omega⟩,by omega⟩
    ·have hX2:=hf2 ya yb (by rw[if_neg ha]) (by rw[if_neg hb])
     simp[evx,q7,q6,q26,q27,ii,hlt',hkw,n4,n5,cl,ha,hb,hjw,v3,v4]
     exact⟨⟨j+1,by omega,by omega,hX2,by simp[hag],by first|exact hfr|simp[fresh_up,u1,u2,hfr.add],by omega⟩,by omega⟩
  ·obtain rfl:j=z:=by omega
   simp[evx,q7,q26,q27,ii]
   have hd:x.drop j=[]:=List.drop_eq_nil_of_le (by omega)
   have htk:x.take j=x:=List.take_of_length_le (by omega)
   rw[subC,hd,htk,List.append_nil]at hkw
   exact⟨hag,hfr,by omega,hkw,by omega⟩
 exact key _ rfl rfl
section
def OutL (q n:Nat) (h:Heap) (b:Nat) (l:List Nat):Prop :=
 (l=[]∧h b=some ⟨[.v (.slice none 0 0)],0,true,1⟩)∨∃w u,q≤w∧w<n∧h b=some ⟨[.s w u 0 l.length],0,true,1⟩∧h w=some ⟨l.map fun x:Nat=>ii x,u,true,1⟩
def post88 (q b n:Nat) (h:Heap) (l:List Nat) (h':Heap) (n':Nat):Prop:=(∀id,id<q→id≠b→h' id=h id)∧OutL q n' h' b l∧Fresh n' h'∧n≤n'
section
variable {m q b1 b b4:Nat} {h0:Heap} {a:AV} {t:List Nd}
theorem c88 (e1:rd dNs h0 a=some t) (hn0:Fresh m h0) (ht:tree1 t=true) (hsm:smallT t) (k1:m≤b1) (k2:m≤b) (k3:m≤b4) (k4:b1<q) (k5:b<q) (k6:b4<q) (k7:b1≠b) (k8:b4≠b) :
  ∀r,r<t.length→∀(h:Heap) (n:Nat) (l:List Nat),agree m h0 h→h b1=some ⟨[a],0,true,1⟩→h b4=some ⟨[.f (.func 80) [] [.p b1 0 0,.p b 0 0,.p b4 0 0]],0,true,1⟩→OutL q n h b l→Fresh n h→q≤n→l.length+szN t r≤t.length→
   ACall (cx [] (pfL [])) 80 [ii r,.p b1 0 0,.p b 0 0,.p b4 0 0] h n fun _ h' n'=>post88 q b n h (l++conjT t r) h' n':=by
 intro r
 induction r using Nat.strongRecOn with
 | _ r ih =>
 intro hr h n l hag g1 g4 ho hn hq hlen
 have T:=tre_of ht
 have e2:=rd_agr hn0 e1 h hag
 have hsm':t.length*64≤140737488355328:=hsm
 refine acall_of_awp (args:=[ii r,.p b1 0 0,.p b 0 0,.p b4 0 0]) (pfL_ok tb_nil) (mixed _ _) Tryz.func80 (c:=Tryz.f80.body.getD .skip) rfl (by kernel_rfl) (callable Tryz.func80 rfl rfl _ _) (show 4≤Tryz.f80.ntmps by decide +kernel) ?_
 rcases ns_at e1 with ⟨hz,_⟩|⟨id,off,k,rfl,hk0,ho',hat⟩
 ·rw[hz]at hr;simp at hr
 have hid:id<m:=lt_of hk0 hn0
 have hk:h id=some k:=by rw[hag id hid];exact hk0
 have hrw:=hat r hr
 have c0:=cell_of (c:=0) hrw rfl (by omega)
 have c4:=cell_of (c:=4) hrw rfl (by omega)
 have c5:=cell_of (c:=5) hrw rfl (by omega)
 simp only[Nat.add_zero]at c0
 rw[Nat.add_assoc]at c4 c5
 have v1:off+(r*6+1)≤k.cells.length:=by omega
 have v5:off+(r*6+5)≤k.cells.length:=by omega
 have v6:off+(r*6+6)≤k.cells.length:=by omega
 have key:∀e:Nat→AV,e 0=ii r→e 1=.p b1 0 0→e 2=.p b 0 0→e 3=.p b4 0 0→awp (cx [] (pfL [])) (Tryz.f80.body.getD .skip) (finQ (cx [] (pfL [])) Tryz.f80 fun _ h' n'=>post88 q b n h (l++conjT t r) h' n') ⟨e,h,n⟩:=fun e q0 q1 q2 q3=>by
  have nb:∀j,¬b=n+j:=fun j=>by omega
  have nb0:¬b=n:=by omega
  by_cases hop:t[r].op=25
  ·obtain⟨j1,j2,j3,j4⟩:=conj_kids T hr hop
   have hcj:=conj_two T hr hop
   have hop':t[r].op=25:=hop
   obtain⟨x,hx⟩:∃x:Nat,t[r].a=x:=⟨t[r].a.toNat,by omega⟩
   obtain⟨y,hy⟩:∃y:Nat,t[r].b=y:=⟨t[r].b.toNat,by omega⟩
   have hx':t[r].a.toNat=x:=by omega
   have hy':t[r].b.toNat=y:=by omega
   have hxr:x<r:=by omega
   have hyr:y<r:=by omega
   have hsz:szN t r=1+szN t x+szN t y:=by
    rcases T.kind r hr with ⟨z1,z2,z3,z4,z⟩|⟨z0,z1,z2,z3,z⟩|⟨z0,z0',z1,z2,c,z3,z4,z⟩
    ·omega
    ·omega
    ·have hlb:=T.le (r-1) (by omega)
     have hla:=T.le c (by omega)
     have e1:x=c:=by omega
     have e2:y=r-1:=by omega
     subst e1;subst e2
     unfold szN;omega
   have hcl:=conj_len T x (by omega)
   have hcx:(conjT t x).length≤szN t x:=hcl
   have A:=ih x hxr (by omega) h n l hag g1 g4 ho hn hq (by omega)
   rw[hcj,hx',hy']
   rw[hop]at c0
   rw[hx]at c4
   rw[hy]at c5
   simp only[ii]at c0 c4 c5 A
   have nid:∀j,¬id=n+j:=fun j=>by omega
   simp[evx,Tryz.f80,q0,q1,q3,ii,g1,g4,hk,c0,c4,hr,v1,v5]
   refine A.mono ?_
   rintro v h2 n2 ⟨f1,f2,f3,f4⟩
   have y1:h2 b1=some ⟨[AV.s id k.ver off t.length],0,true,1⟩:=by rw[f1 b1 k4 k7];exact g1
   have y4:h2 b4=some ⟨[.f (.func 80) [] [.p b1 0 0,.p b 0 0,.p b4 0 0]],0,true,1⟩:=by rw[f1 b4 k6 k8];exact g4
   have yk:h2 id=some k:=by rw[f1 id (by omega) (by omega)];exact hk
   have hag2:agree m h0 h2:=fun i hi=>by rw[f1 i (by omega) (by omega),hag i hi]
   refine⟨.inr ⟨rfl,fun t ht => ?_⟩,?_⟩
   ·simp[ldSlots]at ht
    rcases ht with ht|ht|ht<;>subst ht<;>simp[keepP,Eng.up,q1,q3,y1,y4,yk,g1,g4,hk]
   have B:=ih y hyr (by omega) h2 n2 (l++conjT t x) hag2 y1 y4 f2 f3 (by omega) (by rw[List.length_append];omega)
   simp only[ii]at B
   simp[evx,y1,y4,yk,c5,hr,v6]
   refine B.mono ?_
   rintro v3 h3 n3 ⟨p1,p2,p3,p4⟩
   have x1:h3 b1=some ⟨[AV.s id k.ver off t.length],0,true,1⟩:=by rw[p1 b1 k4 k7];exact y1
   have x4:h3 b4=some ⟨[.f (.func 80) [] [.p b1 0 0,.p b 0 0,.p b4 0 0]],0,true,1⟩:=by rw[p1 b4 k6 k8];exact y4
   have xk:h3 id=some k:=by rw[p1 id (by omega) (by omega)];exact yk
   refine⟨.inr ⟨rfl,fun t ht => ?_⟩,?_⟩
   ·simp[ldSlots]at ht
    rcases ht with ht|ht|ht<;>subst ht<;>simp[keepP,Eng.up,q1,q3,y1,y4,yk,x1,x4,xk]
   rw[←List.append_assoc]
   exact⟨fun i h1 h2'=>by rw[p1 i h1 h2',f1 i h1 h2'],p2,p3,by omega⟩
  ·have hcj:=conj_one hr hop
   rw[hcj]
   rcases ho with ⟨rfl,hb⟩|⟨w,u,o1,o2,hb,hw⟩
   ·simp[evx,Tryz.f80,q0,q1,q2,ii,g1,hk,c0,hr,v1,hop,hb,nb,nb0]
    exact⟨fun i h1 h2=>by simp[Eng.up,h2,show ¬i=n by omega,show ¬i=n+1 by omega],.inr ⟨n+1,0,by omega,by omega,by simp[Eng.up],by simp[Eng.up,ii,show ¬n+1=b by omega]⟩,by simp[fresh_up,hn.add,show b<n+3 by omega],by omega⟩
   ·have nw:∀j,¬w=n+j:=fun j=>by omega
    have nw0:¬w=n:=by omega
    have nwb:¬w=b:=by omega
    have nwb':¬b=w:=by omega
    have y1:(l.length+1)*8≤140737488355328:=by unfold szN at hlen;have:=T.le r hr;omega
    have y2:l.length≤9223372036854775806:=by omega
    simp[evx,Tryz.f80,q0,q1,q2,ii,g1,hk,c0,hr,v1,hop,hb,hw,nb0,nw0,nwb',y1,y2]
    exact⟨fun i h1 h2=>by simp[Eng.up,h2,show ¬i=n by omega,show ¬i=w by omega],.inr ⟨w,u+1,by omega,by omega,by simp[Eng.up],by simp[Eng.up,ii,nwb]⟩,by simp[fresh_up,hn.add,show b<n+3 by omega,show w<n+3 by omega],by omega⟩
 exact key _ rfl rfl rfl rfl
end
def tb51:List (FuncId×(List AV→Heap→PRes)):=[(79,G70)]
theorem c51 {h:Heap} {n:Nat} {a:AV} {t:List Nd} (e1:rd dNs h a=some t) (ht:tree1 t=true) (hsm:smallT t) (hn:Fresh n h) :
  ACall (cx [3] (pfL tb51)) 35 [a] h n fun z h' n'=>agree n h h'∧Fresh n' h'∧n≤n'∧∃w u,z=.s w u 0 (conjT t (t.length-1)).length∧h' w=some ⟨(conjT t (t.length-1)).map fun x:Nat=>ii x,u,true,1⟩∧n≤w∧w<n':=by
 refine acall_of_awp (args:=[a]) (pfL_ok (tb_cons P70 tb_nil)) (mixed _ _) Tryz.func35 (c:=Tryz.f35.body.getD .skip) rfl (by kernel_rfl) (callable Tryz.func35 rfl rfl _ _) (show 1≤Tryz.f35.ntmps by decide +kernel) ?_
 obtain⟨s1,s2,s3,s4,s5⟩:=sl_is e1
 have T:=tre_of ht
 have hpos:0<t.length:=T.pos
 have hsm':t.length*64≤140737488355328:=hsm
 obtain⟨j,he⟩:∃j,t.length=j+1:=⟨t.length-1,by omega⟩
 have he1:IntKind.i64.wrap ((t.length:Int)-1)=j:=by rw[he];exact wrapm1 (by unfold big;omega)
 have hj:t.length-1=j:=by omega
 rw[hj]
 have g1:∀h',agree n h h'→rd dNs h' a=some t:=fun h' ha=>rd_agr hn e1 h' ha
 have hne:=(conj_all T j (by omega)).2
 have key:∀e:Nat→AV,e 0=a→awp (cx [3] (pfL tb51)) (Tryz.f35.body.getD .skip) (finQ (cx [3] (pfL tb51)) Tryz.f35 fun z h' n'=>agree n h h'∧Fresh n' h'∧n≤n'∧∃w u,z=.s w u 0 (conjT t j).length∧h' w=some ⟨(conjT t j).map fun x:Nat=>ii x,u,true,1⟩∧n≤w∧w<n') ⟨e,h,n⟩:=fun e q0=>by
  simp[evx,Tryz.f35,q0,ii,s1,s2,s4,s5,tb51,G70,pureH,deT,g1,agree_up,agree_refl,hsm,ht,bv,he1]
  have K:=c88 (m:=n) (q:=n+3) (b1:=n) (b:=n+1) (b4:=n+2) e1 hn ht hsm (by omega) (by omega) (by omega) (by omega) (by omega) (by omega) (by omega) (by omega) j (by omega)
  refine (acall_any (S:=[]) (by simp) (K _ (n+4) [] (by simp[agree_up,agree_refl]) (by simp[Eng.up]) (by simp[Eng.up]) (.inl ⟨rfl,by simp[Eng.up]⟩) (by simp[fresh_up,hn.add]) (by omega) (by have:=T.le j (by omega);unfold szN;simp only[List.length_nil];omega))).mono ?_
  rintro v h2 n2 ⟨f1,f2,f3,f4⟩
  rw[List.nil_append]at f2
  rcases f2 with ⟨hz,_⟩|⟨w,u,w1,w2,hb,hw⟩
  ·exact absurd hz hne
  simp only[ii]at hw
  simp[hb]
  exact⟨fun i hi=>by rw[f1 i (by omega) (by omega)];simp[Eng.up,show ¬i=n by omega,show ¬i=n+1 by omega,show ¬i=n+2 by omega],f3,by omega,w,u,⟨rfl,rfl⟩,hw,by omega,w2⟩
 exact key _ rfl
end
end Go.Proofs.YtbffkkeieihpdaaGreatDoor
