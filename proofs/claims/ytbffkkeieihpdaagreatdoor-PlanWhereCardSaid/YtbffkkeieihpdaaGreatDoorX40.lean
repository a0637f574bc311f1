import Derived.Test.YtbffkkeieihpdaaGreatDoorX39
import Derived.Test.YtbffkkeieihpdaaGreatDoorX37
set_option linter.unusedSimpArgs false
set_option linter.unusedVariables false
set_option linter.constructorNameAsVariable false
set_option maxRecDepth 100000
set_option maxHeartbeats 4000000
namespace Go.Proofs.YtbffkkeieihpdaaGreatDoor
open Go Go.Eng
section
section
variable {sc:List Ty} {q:Qu}
theorem zYz {t:List Nd} (h:xX q t=[]):zBo q t=[]:=by
 apply List.eq_nil_iff_forall_not_mem.2;intro i hi;obtain⟨h0,h1,x,hx,hp,rfl⟩:=zGn (p:=zC0) hi;have hb:wS x.op=true:=by unfold zC0 at hp;unfold wS;simp at hp ⊢;omega
 have:=zKk (p:=wS) hx hb h0;have h2:zAn (vars q.items) x.var∈xX q t:=this;rw[h]at h2;cases h2
theorem zZy {b:List (List Ev)} {x:Ev} {i:Nat} (hi:i<q.items.length) (hn:(itA q i).neg=false):zAm (byV q b (-1) x) i=b.getD (rk q i) []:=by
 unfold zAm;rw[if_neg (by omega),zV,zB,zA (by simp[byV];exact hi),xB]
 simp[byV,byE,hn]
theorem zQ0 {i:Nat} {x:Ev} (hi:i<q.items.length):zAm (zA3 q.items.length i x) i=[x]:=by
 unfold zAm;rw[if_neg (by omega),zV,zB,zA (by rw[zI7];exact hi),xB,zK8,if_pos rfl]
theorem zNw {t:List Nd} {i k:Nat} {ls:List (List Ev)} {x:Ev} (hb:xX q t=[(i:Int)]) (hp:zBo q t=[]) (ha:zRt q t=[]) (hi:i<q.items.length) (hk:(zAm ls i)[k]? = some x):zFb sc (vars q.items) ⟨ls,i,k⟩ t=zFb sc (vars q.items) ⟨zA3 q.items.length i x,i,0⟩ t:=by
 refine zJr fun y hy h0 hok va vb=>zJo h0 hy hok (fun j hj h0 col => ?_) (fun j hj => ?_) (fun j hj => ?_) va vb
 ·have hj':j∈xX q t:=hj
  rw[hb]at hj';obtain rfl:j=i:=by simpa using hj'
  have hl2:=zQ0 (q:=q) (x:=x) hi;unfold wG;simp only[hl2,true_and];have h00:(0:Int)≤(i:Int):=by omega
  simp only[h00,if_true];simp[zHw,hk];intro hk0;omega
 ·have:j∈zBo q t:=hj
  rw[hp]at this;cases this
 ·have:j∈zRt q t:=hj
  rw[ha]at this;cases this
theorem zZk {t:List Nd} {en en':En} (hb:xX q t=[]) (hp:zBo q t=[]) (ha:zRt q t=[]):zFb sc (vars q.items) en' t=zFb sc (vars q.items) en t:=by
 refine zJr fun y hy h0 hok va vb=>zJo h0 hy hok (fun j hj => ?_) (fun j hj => ?_) (fun j hj => ?_) va vb
 ·have:j∈xX q t:=hj
  rw[hb]at this;cases this
 ·have:j∈zBo q t:=hj
  rw[hp]at this;cases this
 ·have:j∈zRt q t:=hj
  rw[ha]at this;cases this
theorem yBe (W:Wf sc q) {b:List (List Ev)} (hb:zCt (yQ sc q) b=true) {i:Nat} (hi:i<q.items.length) (hn:(itA q i).neg=false) (hr:zJ9 q (i:Int)=false):∃x,b.getD (rk q i) []=[x]:=by
 have hc:=zC9 (sc:=sc) hi hn;have hlt:(zBl q i).length<(yQ sc q).comps.length:=(zY.1 hc).1;unfold zCt at hb;simp only[zH,decide_eq_true_eq,zJ,xQ]at hb;have h2:=hb.2 (rk q i) (by rw[hb.1];exact hlt)
 unfold zI4 at h2;simp only[zH,decide_eq_true_eq]at h2;have hg:(yQ sc q).comps.getD (rk q i) zMb=zD0 sc q (zA7 q) i:=by
  have hc':(yQ sc q).comps[rk q i]? = some (zD0 sc q (zA7 q) i):=hc;rw[zB,hc',xB]
 rw[hg]at h2;have h3:=(zOj (zUq (W.it i hi)).1).2.2;have h4:((itA q i).lo≤((b.getD (rk q i) []).length:Int)):=h2.1.1;have h5:(((b.getD (rk q i) []).length:Int)≤(itA q i).hi):=h2.1.2;have h6:1≤(itA q i).lo:=h3.1;have h7:¬1<(itA q i).hi:=by unfold zJ9 at hr;simpa using hr
 exact List.length_eq_one_iff.1 (by omega)
theorem yEs (W:Wf sc q) {b:List (List Ev)} (hb:zCt (yQ sc q) b=true) (x0:Ev) {t:List Nd} {i:Nat} (hi:i<q.items.length) (hn:(itA q i).neg=false) (hng:¬0≤zPl q (xX q t)) (hal:wT q t=true→xX q t=[(i:Int)])
  (hes:zEr q t=zCc q (xX q t)) (he0 : -1≤zCc q (xX q t)) (hh:∀en,zBe (zA2 sc (vars q.items) t) en=zBy ⟨sc,q,t,en⟩) :
  ((wT q t=true→∀x∈b.getD (rk q i) [],zBy ⟨sc,q,t,⟨zA3 q.items.length i x,i,0⟩⟩=true)∧(wT q t=false→zCb ⟨zA2 sc (vars q.items) t,zEr q t,decide (0<(zBo q t).length)⟩ (byV q b (-1) x0)=true))↔zGf sc q (byV q b (-1) x0) t=true:=by
 unfold zGf;rw[if_neg hng];cases ha:wT q t with
 | true =>
  have hbt:=hal ha;simp only[wT,zH,decide_eq_true_eq]at ha;have hp:=zU ha.1.2;have hg:=zU ha.2;have hla:=zZy (b:=b) (x:=x0) hi hn;have hE:zCc q (xX q t)=if zJ9 q (i:Int)=true then (i:Int)else -1:=by
   rw[hbt];unfold zCc zJ9;simp
  cases hrp:zJ9 q (i:Int)with
  | true =>
   rw[hrp,if_pos rfl]at hE;rw[hE,if_neg (by omega),hla]
   simp only[hp,zAi,Nat.lt_irrefl,if_false,Nat.not_lt_zero,decide_false,zFg,zJ,xQ,true_implies,Bool.true_eq_false,false_implies,and_true];constructor
   ·intro h k hk
    have hx:(b.getD (rk q i) [])[k]∈b.getD (rk q i) []:=zF hk;have h1:=h _ hx;unfold zBy at h1 ⊢;rw[zNw (sc:=sc) (ls:=byV q b (-1) x0) hbt hp hg hi (by rw[hla];exact zA hk)]
    exact h1
   ·intro h x hx
    obtain⟨k,hk,rfl⟩:=yX.1 hx;have h1:=h k hk;unfold zBy at h1 ⊢;rw[zNw (sc:=sc) (ls:=byV q b (-1) x0) hbt hp hg hi (by rw[hla];exact zA hk)]at h1
    exact h1
  | false =>
   rw[hrp,if_neg (by simp)]at hE
   obtain⟨x,hx⟩:=yBe W hb hi hn hrp;rw[hE,if_pos (by omega),hx]
   have h1:=zXe (sc:=sc) (ls:=byV q b (-1) x0) hbt hp hg hi (by rw[hla,hx])
   unfold zBy;simp only[zB7,forall_eq,true_implies,Bool.true_eq_false,false_implies,and_true,h1]
 | false =>
  simp only[yR,false_implies,true_and,true_implies];rw[hes];unfold zCb;by_cases h0:zCc q (xX q t)<0
  ·have h1:zCc q (xX q t)=-1:=by omega
   simp only[h1,show (-1:Int)<0 from by omega,if_true,decide_true,zAq,hh]
   exact⟨fun h=>h.2,fun h=>⟨by simp,h⟩⟩
  ·have hf:zKf ⟨zA2 sc (vars q.items) t,zCc q (xX q t),decide (0<(zBo q t).length)⟩=if 0<(zBo q t).length then 1 else 0:=by simp[zKf]
   simp only[if_neg h0];unfold zD5;rw[hf];simp only[hh];exact⟨fun h=>h.2,fun h=>⟨by simp,h⟩⟩
def zT0 (sc:List Ty) (q:Qu) (b ls:List (List Ev)) (t:List Nd):Prop :=
 (zDl q t=-1→zBe (zA2 sc (vars q.items) t) ⟨[],-1,0⟩=true)∧∀i,i<q.items.length→(itA q i).neg=false→zDl q t=(i:Int)→
  (wT q t=true→∀x∈b.getD (rk q i) [],zBe (zA2 sc (vars q.items) t) ⟨zA3 q.items.length i x,i,0⟩=true)∧(wT q t=false→zCb ⟨zA2 sc (vars q.items) t,zEr q t,decide (0<(zBo q t).length)⟩ ls=true)
theorem zQp (W:Wf sc q) {b:List (List Ev)} (hb:zCt (yQ sc q) b=true) (x0:Ev) {r:Nat} (hr:r∈xR q.wh):zT0 sc q b (byV q b (-1) x0) (zAo q.wh r)↔zGf sc q (byV q b (-1) x0) (zAo q.wh r)=true:=by
 have hrun:=W.run hr;have hh:∀en,zBe (zA2 sc (vars q.items) (zAo q.wh r)) en=zBy ⟨sc,q,zAo q.wh r,en⟩:=fun en=>zWn hrun
 have hagg:∀i∈zRt q (zAo q.wh r),ngQ q i=false:=fun i hi=>W.agg hr hi
 have hes:=yAm W hr;have heo:∀i,i∈xX q (zAo q.wh r)→zJ9 q i=true→zCc q (xX q (zAo q.wh r))=i:=fun i=>zU1 W hr
 unfold zT0;simp only[hh];generalize zAo q.wh r=t at *;cases hf:(xX q t).find? (ngQ q)with
 | some j =>
  have hm:(wD q t).find? (ngQ q)=some j:=by unfold wD;rw[List.find?_append,hf];rfl
  have hj:zPl q (xX q t)=j:=by unfold zPl;rw[hf]
  obtain⟨j0,j1⟩:=zF4 (List.mem_of_find?_eq_some hm);have hjn0:ngQ q j=true:=List.find?_some hm;have hjn:(itA q j.toNat).neg=true:=hjn0;have hmt:zGf sc q (byV q b (-1) x0) t=true:=by unfold zGf;rw[hj,if_pos j0]
  rw[zUs hm,hmt];refine⟨fun _=>rfl,fun _=>⟨fun e=>by omega,fun i hi hn e => ?_⟩⟩
  rw[e,zV,hn]at hjn;cases hjn
 | none =>
  have hm:(wD q t).find? (ngQ q)=none:=by
   unfold wD;rw[List.find?_append,hf];have:(zRt q t).find? (ngQ q)=none:=List.find?_eq_none.2 fun i hi=>by rw[hagg i hi];simp
   rw[this];rfl
  have hj:zPl q (xX q t)=-1:=by unfold zPl;rw[hf]
  have hng:¬0≤zPl q (xX q t):=by omega
  have hpos:∀i∈wD q t,(itA q i.toNat).neg=false:=fun i hi=>by
   have:=List.find?_eq_none.1 hm i hi;simpa[ngQ]using this
  have hls:∀i∈wD q t,lsL q (wD q t)≤rk q i.toNat:=by
   intro i hi;unfold lsL;generalize (zBl q q.items.length).length=m;revert m;generalize wD q t=l at hi
   induction l with
   | nil=>cases hi
   | cons y l ih =>
    intro m;rw[List.foldl_cons];rcases yL.1 hi with rfl|hi
    ·exact xE (zOp _ l _) (Nat.min_le_right _ _)
    ·exact ih hi _
  have hrk:∀i∈wD q t,(zBl q q.items.length)[rk q i.toNat]? = some i.toNat:=fun i hi=>zF2 (zF4 hi).2 (hpos i hi)
  rw[zOm hm];by_cases hl:lsL q (wD q t)<(zBl q q.items.length).length
  ·rw[if_pos hl]
   have hpm:(zBl q q.items.length)[lsL q (wD q t)]∈zBl q q.items.length:=zF hl;obtain⟨ilt,ing⟩:=posI_mem.1 hpm;have hgd:(zBl q q.items.length).getD (lsL q (wD q t)) 0=(zBl q q.items.length)[lsL q (wD q t)]:=by rw[zB,zA hl];rfl
   rw[hgd];generalize hie:(zBl q q.items.length)[lsL q (wD q t)]=i0 at *;have hal:wT q t=true→xX q t=[(i0:Int)]:=fun ha=>by
    simp only[wT,zH,decide_eq_true_eq]at ha;obtain⟨y,hy⟩:=List.length_eq_one_iff.1 ha.1.1;have hg:=zU ha.2;have hml:wD q t=[y]:=by unfold wD;rw[hy,hg];rfl
    have hym:y∈wD q t:=by rw[hml];simp
    have h1:=hrk y hym;obtain⟨h2,h3⟩:=zY.1 h1;have h4:lsL q (wD q t)=rk q y.toNat:=by
     rw[hml];show min (zBl q q.items.length).length (rk q y.toNat)=_;omega
    have h5:i0=y.toNat:=by
     rw[←hie,←h3];exact getElem_congr_idx h4
    have:=(zF4 hym).1;rw[hy];congr 1;omega
   have he0 : -1≤zCc q (xX q t):=by
    rw[zIv];cases hx:(xX q t).filter (zJ9 q)with
    | nil=>show -1≤(-1:Int);omega
    | cons y l =>
     have hm2:(y::l).getLastD (-1)∈(xX q t).filter (zJ9 q):=by
      rw[hx,List.getLastD_cons];exact List.getLastD_mem_cons
     have:=(zF4 (zFx _ (wM.1 hm2).1)).1;omega
   have key:=yEs W hb x0 ilt ing hng hal hes he0 hh;rw[←key];exact⟨fun h=>h.2 i0 ilt ing rfl,fun h=>⟨fun e=>by omega,fun i hi hn e=>by
    obtain rfl:i0=i:=by omega
    exact h⟩⟩
  ·rw[if_neg hl]
   have hnil:wD q t=[]:=by
    apply List.eq_nil_iff_forall_not_mem.2;intro i hi;have h1:=hls i hi;have h2:=(zY.1 (hrk i hi)).1;omega
   have hb0:xX q t=[]:=(List.append_eq_nil_iff.1 hnil).1;have ha0:zRt q t=[]:=(List.append_eq_nil_iff.1 hnil).2;have hp0:=zYz hb0;have he0:zCc q (xX q t)=-1:=by rw[hb0];rfl
   have hmt:zGf sc q (byV q b (-1) x0) t=zBy ⟨sc,q,t,⟨byV q b (-1) x0,-1,0⟩⟩:=by unfold zGf;rw[if_neg hng,he0,if_pos (by omega)]
   rw[hmt];have hev:zBy ⟨sc,q,t,⟨[],-1,0⟩⟩=zBy ⟨sc,q,t,⟨byV q b (-1) x0,-1,0⟩⟩:=by unfold zBy;rw[zZk (sc:=sc) (en:=⟨byV q b (-1) x0,-1,0⟩) hb0 hp0 ha0]
   rw[hev];exact⟨fun h=>h.1 rfl,fun h=>⟨fun _=>h,fun i hi hn e=>by omega⟩⟩
theorem yEe {l:List Int}:zCc q l=-1∨zCc q l∈l:=by
 rw[zIv];cases hx:l.filter (zJ9 q)with
 | nil=>exact .inl rfl
 | cons y m =>
  refine .inr ?_;have hm2:(y::m).getLastD (-1)∈l.filter (zJ9 q):=by
   rw[hx,List.getLastD_cons];exact List.getLastD_mem_cons
  exact (wM.1 hm2).1
end
end
section
section
variable {sc:List Ty} {q:Qu}
theorem zXx (W:Wf sc q) {b:List (List Ev)} (hb:zCt (yQ sc q) b=true) (x0:Ev):zU3 (yQ sc q) b (byV q b (-1) x0)=zHl sc q (byV q b (-1) x0):=by
 have hm:zHl sc q (byV q b (-1) x0)=true↔∀t∈zA7 q,zT0 sc q b (byV q b (-1) x0) t:=by
  unfold zHl;rw[zCo,zJ];constructor
  ·intro h t ht
   obtain⟨r,hr,rfl⟩:=xF.1 ht;exact (zQp W hb x0 hr).2 (h r hr)
  ·intro h r hr
   exact (zQp W hb x0 hr).1 (h _ (List.mem_map_of_mem hr))
 have hd:zU3 (yQ sc q) b (byV q b (-1) x0)=true↔∀t∈zA7 q,zT0 sc q b (byV q b (-1) x0) t:=by
  unfold zU3;have hf:(yQ sc q).fixed=zOq sc q (zA7 q):=rfl;have hq:(yQ sc q).q=q:=rfl;simp only[zH,zJ,xQ];have hbl:b.length=(yQ sc q).comps.length:=by
   unfold zCt at hb;simp only[zH,decide_eq_true_eq]at hb;exact hb.1
  have hat:∀c,c<(yQ sc q).comps.length→∃i,i<q.items.length∧(itA q i).neg=false∧rk q i=c∧(yQ sc q).comps.getD c zMb=zD0 sc q (zA7 q) i:=by
   intro c hc;have hc':c<(zBl q q.items.length).length:=by rw[zCw]at hc;exact hc
   have hi:=zF hc';obtain⟨h1,h2⟩:=posI_mem.1 hi;have h3:=zF2 h1 h2;obtain⟨h4,h5⟩:=zY.1 h3;have h6:=zUj (zSg q q.items.length) h4 hc' h5;refine⟨_,h1,h2,h6,?_⟩;have h7:=zC9 (sc:=sc) h1 h2;rw[show (zBl q (zBl q q.items.length)[c]).length=c from h6]at h7
   rw[zB,h7,xB]
  have hty:∀i,i<q.items.length→(itA q i).neg=false→∀x∈b.getD (rk q i) [],x.ty∈zPy sc (itA q i):=by
   intro i hi hn x hx;have hc:=zC9 (sc:=sc) hi hn;have hlt:(zBl q i).length<(yQ sc q).comps.length:=(zY.1 hc).1;unfold zCt at hb;simp only[zH,decide_eq_true_eq,zJ,xQ]at hb;have h2:=hb.2 (rk q i) (by rw[hb.1];exact hlt)
   unfold zI4 at h2;simp only[zH,decide_eq_true_eq,zJ]at h2;have hg:(yQ sc q).comps.getD (rk q i) zMb=zD0 sc q (zA7 q) i:=by
    have hc':(yQ sc q).comps[rk q i]? = some (zD0 sc q (zA7 q) i):=hc;rw[zB,hc',xB]
   rw[hg]at h2;exact h2.2 x hx
  constructor
  ·rintro⟨h1,h2⟩ t ht
   refine⟨fun e=>h1 _ ?_,fun i hi hn e => ?_⟩
   ·rw[hf];exact xF.2 ⟨t,wM.2 ⟨ht,decide_eq_true e⟩,rfl⟩
   ·have hc:=zC9 (sc:=sc) hi hn
    have hlt:rk q i<(yQ sc q).comps.length:=(zY.1 hc).1;have h3:=h2 (rk q i) hlt;have hg:(yQ sc q).comps.getD (rk q i) zMb=zD0 sc q (zA7 q) i:=by
     have hc':(yQ sc q).comps[rk q i]? = some (zD0 sc q (zA7 q) i):=hc;rw[zB,hc',xB]
    unfold yBw at h3;simp only[zH,zJ]at h3;refine⟨fun ha x hx => ?_,fun ha => ?_⟩
    ·have h4:=h3.1 x hx
     unfold zCh at h4;rw[if_pos ⟨by omega,by omega⟩,zV,hg]at h4
     unfold zJl at h4;simp only[zH,zJ]at h4;refine h4.2 _ ?_;exact xF.2 ⟨t,wM.2 ⟨ht,by rw[ha,decide_eq_true e];rfl⟩,rfl⟩
    ·refine h3.2 _ ?_
     rw[hg];exact xF.2 ⟨t,wM.2 ⟨ht,by rw[ha,decide_eq_true e];rfl⟩,rfl⟩
  ·intro h
   refine⟨fun f hff => ?_,fun c hc => ?_⟩
   ·rw[hf]at hff
    obtain⟨t,ht,rfl⟩:=xF.1 hff;obtain⟨h1,h2⟩:=wM.1 ht;exact (h t h1).1 (by simpa using h2)
   ·obtain⟨i,hi,hn,rfl,hg⟩:=hat c hc
    unfold yBw;simp only[zH,zJ];refine⟨fun x hx => ?_,fun cd hcd => ?_⟩
    ·unfold zCh
     rw[if_pos ⟨by omega,by omega⟩,zV,hg]
     unfold zJl;simp only[zH,zJ];refine⟨decide_eq_true (hty i hi hn x hx),fun f hff => ?_⟩
     obtain⟨t,ht,rfl⟩:=xF.1 hff;obtain⟨h1,h2⟩:=wM.1 ht;simp only[zH,decide_eq_true_eq]at h2;exact ((h t h1).2 i hi hn h2.2).1 h2.1 x hx
    ·rw[hg]at hcd
     obtain⟨t,ht,rfl⟩:=xF.1 hcd;obtain⟨h1,h2⟩:=wM.1 ht;simp only[zH,Bool.not_eq_true',decide_eq_true_eq]at h2;exact ((h t h1).2 i hi hn h2.2).2 h2.1
 have h3:=hd.trans hm.symm;cases h1:zU3 (yQ sc q) b (byV q b (-1) x0)<;>cases h2:zHl sc q (byV q b (-1) x0)<;>simp_all
end
end
section
def zTk:List (FuncId×(List AV→Heap→PRes)):=[(30,zMl),(45,G31),(41,G35)]
noncomputable def yMj:Code:=yP (hdC 1 (tlC 2 (Tryz.f50.body.getD .skip)))
noncomputable def zS5:Code:=yP (hdC 1 (tlC 3 (Tryz.f50.body.getD .skip)))
noncomputable def zXq:Code:=inB (hdC 1 (tlC 1 zS5))
noncomputable def yMi:Code:=yP (hdC 1 zXq)
noncomputable def yMh:Code:=zGi (tlC 2 zXq)
theorem yMe {h:Heap} {a:AV} {l:List Cd} (e:rd yL9 h a=some l) {j:Nat} (hj:j<l.length):∃id off k ca la,a=.s id k.ver off l.length∧h id=some k∧off+(j*4+4)≤k.cells.length∧k.cells[off+j*4]? = some ca∧k.cells[off+(j*4+1)]? = some la∧k.cells[off+(j*4+2)]? = some (ii l[j].each)∧k.cells[off+(j*4+3)]? = some (bv l[j].prev)∧zMw h (.g [ca,la])=some l[j].p:=by
 rcases zEw e with ⟨h0,_⟩|⟨id,off,k,h1,h2,h3,h4⟩
 ·rw[h0]at hj;simp at hj
 ·have h5:zWu h ((k.cells.drop (off+j*4)).take 4)=some l[j]:=h4 j hj
  obtain⟨ca,la,h6,h7⟩:=zRe h5;have t0:=yG (c:=0) h6 rfl (by omega)
  have t1:=yG (c:=1) h6 rfl (by omega)
  have t2:=yG (c:=2) h6 rfl (by omega)
  have t3:=yG (c:=3) h6 rfl (by omega)
  rw[xD]at t1 t2 t3;exact⟨id,off,k,ca,la,h1,h2,by omega,t0,t1,t2,t3,h7⟩
theorem yO4 {h:Heap} {a:AV} {l:List Ev} (e:rd dEs h a=some l) {j:Nat} (hj:j<l.length):∃id off k,a=.s id k.ver off l.length∧h id=some k∧off+(j*11+11)≤k.cells.length∧k.cells[off+j*11]? = some (ii l[j].ts)∧k.cells[off+(j*11+1)]? = some (uu l[j].id)∧k.cells[off+(j*11+2)]? = some (ii l[j].ty)∧k.cells[off+(j*11+3)]? = some (ii l[j].a0)∧k.cells[off+(j*11+4)]? = some (ii l[j].a1)∧k.cells[off+(j*11+5)]? = some (ii l[j].a2)∧k.cells[off+(j*11+6)]? = some (ii l[j].a3)∧k.cells[off+(j*11+7)]? = some (ii l[j].a4)∧k.cells[off+(j*11+8)]? = some (ii l[j].a5)∧k.cells[off+(j*11+9)]? = some (ii l[j].a6)∧k.cells[off+(j*11+10)]? = some (ii l[j].a7):=by
 rcases yEc e with ⟨h0,_⟩|⟨id,off,k,h1,h2,h3,h4⟩
 ·rw[h0]at hj;simp at hj
 ·have h6:=h4 j hj
  have t0:=yG (c:=0) h6 rfl (by omega)
  have t1:=yG (c:=1) h6 rfl (by omega)
  have t2:=yG (c:=2) h6 rfl (by omega)
  have t3:=yG (c:=3) h6 rfl (by omega)
  have t4:=yG (c:=4) h6 rfl (by omega)
  have t5:=yG (c:=5) h6 rfl (by omega)
  have t6:=yG (c:=6) h6 rfl (by omega)
  have t7:=yG (c:=7) h6 rfl (by omega)
  have t8:=yG (c:=8) h6 rfl (by omega)
  have t9:=yG (c:=9) h6 rfl (by omega)
  have t10:=yG (c:=10) h6 rfl (by omega)
  rw[xD]at t1 t2 t3 t4 t5 t6 t7 t8 t9 t10;exact⟨id,off,k,h1,h2,by omega,t0,t1,t2,t3,t4,t5,t6,t7,t8,t9,t10⟩
structure I50 (H:Heap) (n:Nat) (p:Pt) (P:Pl) (ba:AV) (b:List (List Ev)) (la:AV) (L:List (List Ev)) (s:St):Prop where
 q1:s.e 1=ba
 q2:s.e 2=.p n 0 0
 q5:s.e 5=la
 b2:s.h n=some ⟨xT p P,0,true,16⟩
 pl:PlR s.h p P
 rb:rd zDd s.h ba=some b
 rl:rd zDd s.h la=some L
theorem I50.up {H:Heap} {n:Nat} {p:Pt} {P:Pl} {ba:AV} {b:List (List Ev)} {la:AV} {L:List (List Ev)} {s:St} (a:I50 H n p P ba b la L s) {e':Nat→AV} {n':Nat} (he:∀j∈[1,2,5],e' j=s.e j):I50 H n p P ba b la L ⟨e',s.h,n'⟩ :=
 ⟨(he 1 (by simp)).trans a.q1,(he 2 (by simp)).trans a.q2,(he 5 (by simp)).trans a.q5,a.b2,a.pl,a.rb,a.rl⟩
section
variable {H:Heap} {n:Nat} {p:Pt} {P:Pl} {ba:AV} {b:List (List Ev)} {la:AV} {L:List (List Ev)}
theorem ySz (hfl:P.fixed.length<big) (hpr:∀f∈P.fixed,PrOk f) (s:St) (a:I50 H n p P ba b la L s) (q6:s.e 6=ii 0) {Q:Ex→St→Prop}
  (hQ:∀s',I50 H n p P ba b la L s'→(P.fixed.all fun f=>zBe f ⟨[],-1,0⟩)=true→Q (.exit 0) s') (hR:∀s':St,s'.e 4=bv false→(P.fixed.all fun f=>zBe f ⟨[],-1,0⟩)=false→Q .ret s') :
  awp (cx S29 (pfL zTk)) (.loop yMj) Q s:=by
 refine yK (fun s=>∃j:Nat,j≤P.fixed.length∧I50 H n p P ba b la L s∧s.e 6=ii j∧((P.fixed.take j).all fun f=>zBe f ⟨[],-1,0⟩)=true) (fun s=>P.fixed.length-(s.e 6).i.toNat) ⟨0,zAz _,a,q6,rfl⟩ ?_
 rintro e' h' n' ⟨j,hj,J,q6,hall⟩;have J0:=J;obtain⟨q1,q2,q5,b2,pl,rb,rl⟩:=J;simp only[]at q1 q2 q5 b2 pl rb rl q6;obtain⟨t1,t2,t3,t4,t5⟩:=zK pl.fx;by_cases hlt:j<P.fixed.length
 ·obtain⟨id,off,k,ca,lb,hfa,hk,ho,c0,c1,hp⟩:=yF1 pl.fx hlt
  have hw:=yF (j:=j) (by omega)
  obtain⟨ca',la',ee0,p1,p2⟩:=zE4 hp;simp only[AV.g.injEq,List.cons.injEq,and_true]at ee0;obtain⟨rfl,rfl⟩:=ee0;have v1:=(zK p1).2.2.2.1;have v2:=(zK p2).2.2.2.1;have g31:G31 [.g [ca,lb],.g [.v (.slice none 0 0),.v (.int .i64 (-1)),.v (.int .i64 0)]] h'=⟨okR (P.fixed[j],⟨[],-1,0⟩),bv (zBe P.fixed[j] ⟨[],-1,0⟩)⟩:=by
   have ge:zPp h' (.g [.v (.slice none 0 0),.v (.int .i64 (-1)),.v (.int .i64 0)])=some ⟨[],-1,0⟩:=zF9 (e:=⟨[],-1,0⟩) rfl;simp only[G31,yE,deR,hp,ge]
  have hok:okR (P.fixed[j],⟨[],-1,0⟩):=⟨hpr _ (zF hlt),⟨fun l hl=>(by cases hl),fun l hl=>(by cases hl),by show Rng 0;unfold Rng;omega⟩⟩
  have w1:off+(j*2+1)≤k.cells.length:=by omega
  have w2:off+(j*2+2)≤k.cells.length:=by omega
  have hm:((P.fixed.take (j+1)).all fun f=>zBe f ⟨[],-1,0⟩)=(((P.fixed.take j).all fun f=>zBe f ⟨[],-1,0⟩)&&zBe P.fixed[j] ⟨[],-1,0⟩):=by
   rw[zZ hlt,zI8]
  rw[hall,zAq]at hm;cases hh:zBe P.fixed[j] ⟨[],-1,0⟩with
  | true =>
   rw[hh]at g31 hm;simp[evx,yMj,yP,hdC,tlC,Tryz.f50,zTk,q2,q6,b2,xT,ii,bv,hfa,hlt,hk,c0,c1,v1,v2,w1,w2,hw,g31,hok];exact⟨⟨j+1,hlt,J0.up (by simp[up]),by simp[up,ii],zJ.1 hm⟩,by omega⟩
  | false =>
   rw[hh]at g31;have hno:(P.fixed.all fun f=>zBe f ⟨[],-1,0⟩)=false:=by
    rw[zAl];exact⟨_,zF hlt,by rw[hh];simp⟩
   simp[evx,yMj,yP,hdC,tlC,Tryz.f50,zTk,q2,q6,b2,xT,ii,bv,hfa,hlt,hk,c0,c1,v1,v2,w1,w2,hw,g31,hok];exact hR _ (by simp[up,bv]) hno
 ·obtain rfl:j=P.fixed.length:=by omega
  rw[xN]at hall;simp[evx,yMj,yP,hdC,tlC,Tryz.f50,q2,q6,b2,xT,ii,t1,t2,t3];exact hQ _ (J0.up (by simp[up])) hall
theorem ySx (okt:∀c x,zGg x→okTk (P,c,x)) (hbb:b.length<big) (hbl:∀l∈b,l.length<big) (hev:∀l∈b,∀y∈l,zGg y) {c:Nat} (hc:c<b.length) (s:St) (a:I50 H n p P ba b la L s) (q7:s.e 7=ii c) (q8:s.e 8=ii 0) {Q:Ex→St→Prop}
  (hQ:∀s',I50 H n p P ba b la L s'→s'.e 7=ii c→((b.getD c []).all (zCh P c))=true→Q (.exit 4) s') (hR:∀s':St,s'.e 4=bv false→((b.getD c []).all (zCh P c))=false→Q .ret s') :
  awp (cx S29 (pfL zTk)) (.loop yMi) Q s:=by
 refine yK (fun s=>∃j:Nat,j≤(b.getD c []).length∧I50 H n p P ba b la L s∧s.e 7=ii c∧s.e 8=ii j∧(((b.getD c []).take j).all (zCh P c))=true) (fun s=>(b.getD c []).length-(s.e 8).i.toNat) ⟨0,zAz _,a,q7,q8,rfl⟩ ?_
 rintro e' h' n' ⟨j,hj,J,q7,q8,hall⟩;have J0:=J;obtain⟨q1,q2,q5,b2,pl,rb,rl⟩:=J;simp only[]at q1 q2 q5 b2 pl rb rl q7 q8;obtain⟨o1,o2,o3,o4,o5,o6,o7,o8,o9,o10⟩:=pl.is;obtain⟨bid,boff,bk,c',hba,hbk,bho,bc,brd⟩:=zEa rb hc;have bw1:boff+(c+1)≤bk.cells.length:=by omega
 have hgl:b.getD c []=b[c]:=by rw[zB,zA hc];rfl
 have hlb:(b.getD c []).length<big:=by rw[hgl];exact hbl _ (zF hc)
 have hevc:∀y∈b.getD c [],zGg y:=by rw[hgl];exact hev _ (zF hc)
 obtain⟨t1,t2,t3,t4,t5⟩:=zK brd;rw[hba]at q1;generalize b.getD c []=l at *;by_cases hlt:j<l.length
 ·have hw:=yF (j:=j) (by omega)
  have gt:zMl [.g (xT p P),ii c,ee l[j]] h'=⟨okTk (P,c,l[j]),bv (zCh P c l[j])⟩:=by
   have d1:rPl.run h' (.g (xT p P))=some P:=zG4 pl;have d2:rE.run h' (ee l[j])=some l[j]:=zNo _;have d3:rI.run h' (ii c)=some (c:Int):=rfl;simp only[zMl,yE,de3,d1,d2,d3,zT,zM]
  have hok:=okt c l[j] (hevc _ (zF hlt));have hm:((l.take (j+1)).all (zCh P c))=(((l.take j).all (zCh P c))&&zCh P c l[j]):=by
   rw[zZ hlt,zI8]
  rw[hall,zAq]at hm;obtain⟨id,off,k,rfl,hk,ho,z0,z1,z2,z3,z4,z5,z6,z7,z8,z9,z10⟩:=yO4 brd hlt;have b2':h' n=some ⟨[p.sa,p.qa,.v (.int .i64 P.q.mode),.v (.int .i64 P.q.after),p.qb,.v (.int .i64 P.q.within),.v (.string P.q.par),p.qc,p.ca,p.na,p.fa,p.ua,p.la,p.ra,.v (.bool P.lead),.v (.bool P.tail)],0,true,16⟩:=b2;have hmem:=zF hlt;generalize l[j]=x at *;simp only[ii,uu]at z0 z1 z2 z3 z4 z5 z6 z7 z8 z9 z10;simp only[xT,ee,zAk,ii,uu,ss,bv]at gt;cases hh:zCh P c x with
  | true =>
   rw[hh]at gt hm;simp[evx,yMi,zXq,zS5,inB,yP,hdC,tlC,Tryz.f50,zTk,q1,q2,q7,q8,ii,hbk,bc,bw1,hc,t1,t2,t3,hlt,b2',o1,o2,o3,o4,o5,o6,o7,o8,o9,o10,hk,ho,z0,z1,z2,z3,z4,z5,z6,z7,z8,z9,z10,zEc,zF5,gt,hok,hw,bv];exact⟨⟨j+1,hlt,J0.up (by simp[up]),by omega,zJ.1 hm⟩,by omega⟩
  | false =>
   rw[hh]at gt;have hno:(l.all (zCh P c))=false:=by
    rw[zAl];exact⟨_,hmem,by rw[hh];simp⟩
   simp[evx,yMi,zXq,zS5,inB,yP,hdC,tlC,Tryz.f50,zTk,q1,q2,q7,q8,ii,hbk,bc,bw1,hc,t1,t2,t3,hlt,b2',o1,o2,o3,o4,o5,o6,o7,o8,o9,o10,hk,ho,z0,z1,z2,z3,z4,z5,z6,z7,z8,z9,z10,zEc,zF5,gt,hok,hw,bv];exact hR _ (by simp[up,bv]) hno
 ·obtain rfl:j=l.length:=by omega
  rw[xN]at hall;simp[evx,yMi,zXq,zS5,inB,yP,hdC,tlC,Tryz.f50,q1,q7,q8,ii,hbk,bc,bw1,hc,t1,t2,t3];exact hQ _ (J0.up (by simp[up])) (by simp[up,q7,ii]) hall
theorem ySw {c:Nat} (hpr:∀cd∈(P.comps.getD c zMb).conds,PrOk cd.p) (hen:∀each,EnOk ⟨L,each,0⟩) (hcl:P.comps.length<big) (hcdl:(P.comps.getD c zMb).conds.length<big) (hc:c<P.comps.length) (s:St) (a:I50 H n p P ba b la L s) (q7:s.e 7=ii c) (q9:s.e 9=ii 0) {Q:Ex→St→Prop}
  (hQ:∀s',I50 H n p P ba b la L s'→s'.e 7=ii c→((P.comps.getD c zMb).conds.all fun cd=>zCb cd L)=true→Q (.exit 6) s') (hR:∀s':St,s'.e 4=bv false→((P.comps.getD c zMb).conds.all fun cd=>zCb cd L)=false→Q .ret s') :
  awp (cx S29 (pfL zTk)) (.loop yMh) Q s:=by
 obtain⟨cm,hcm⟩:∃cm,cm=P.comps.getD c zMb:=⟨_,rfl⟩;have hgc:P.comps[c]=cm:=by rw[hcm,zB,zA hc];rfl
 rw[←hcm]at hpr hcdl hQ hR;refine yK (fun s=>∃j:Nat,j≤cm.conds.length∧I50 H n p P ba b la L s∧s.e 7=ii c∧s.e 9=ii j∧((cm.conds.take j).all fun cd=>zCb cd L)=true) (fun s=>cm.conds.length-(s.e 9).i.toNat) ⟨0,zAz _,a,q7,q9,rfl⟩ ?_
 rintro e' h' n' ⟨j,hj,J,q7,q9,hall⟩;have J0:=J;obtain⟨q1,q2,q5,b2,pl,rb,rl⟩:=J;simp only[]at q1 q2 q5 b2 pl rb rl q7 q9;obtain⟨id,off,k,ty,ow,cn,hu,hk,ho,r1,r2,r3,t0,t1,t2,t3,t4,t5⟩:=zK7 pl.cm hc;rw[hgc]at r1 r2 r3 t0 t2 t3;obtain⟨u1,u2,u3,u4,u5⟩:=zK rl;obtain⟨v1,v2,v3,v4,v5⟩:=zK r3;have b2':h' n=some ⟨[p.sa,p.qa,.v (.int .i64 P.q.mode),.v (.int .i64 P.q.after),p.qb,.v (.int .i64 P.q.within),.v (.string P.q.par),p.qc,p.ca,p.na,p.fa,p.ua,p.la,p.ra,.v (.bool P.lead),.v (.bool P.tail)],0,true,16⟩:=b2;have w0:off+(c*6+6)≤k.cells.length:=ho;by_cases hlt:j<cm.conds.length
 ·obtain⟨id2,off2,k2,ca,lb,rfl,hk2,ho2,c0,c1,c2,c3,hp⟩:=yMe r3 hlt
  have hw:=yF (j:=j) (by omega)
  obtain⟨ca',la',ee0,p1,p2⟩:=zE4 hp;simp only[AV.g.injEq,List.cons.injEq,and_true]at ee0;obtain⟨rfl,rfl⟩:=ee0;have x1:=(zK p1).2.2.2.1;have x2:=(zK p2).2.2.2.1;have hpm:=hpr _ (zF hlt);have hm:((cm.conds.take (j+1)).all fun cd=>zCb cd L)=(((cm.conds.take j).all fun cd=>zCb cd L)&&zCb cm.conds[j] L):=by
   rw[zZ hlt,zI8]
  rw[hall,zAq]at hm;have hmem:=zF hlt;generalize cm.conds[j]=cd at *;have g35:G35 [.g [ca,lb,.v (.int .i64 cd.each),.v (.bool cd.prev)],la] h'=⟨CdOk (cd,L),bv (zCb cd L)⟩:=by
   have d:=yGk (c:=cd) p1 p2 rl;simp only[G35,yE,d]
  have hok:CdOk (cd,L):=⟨hpm,hen _⟩;simp only[ii,bv]at c2 c3;cases hh:zCb cd L with
  | true =>
   rw[hh]at g35 hm;simp[evx,yMh,zXq,zS5,zGi,inB,yP,hdC,tlC,Tryz.f50,zTk,q2,q5,q7,q9,ii,b2',hu,hk,t5,w0,hc,v1,v2,v3,hlt,hk2,ho2,c0,c1,c2,c3,x1,x2,zJ1,g35,hok,hw,bv,u3,u4,u5];exact⟨⟨j+1,hlt,J0.up (by simp[up]),by omega,zJ.1 hm⟩,by omega⟩
  | false =>
   rw[hh]at g35;have hno:(cm.conds.all fun cd=>zCb cd L)=false:=by
    rw[zAl];exact⟨_,hmem,by rw[hh];simp⟩
   simp[evx,yMh,zXq,zS5,zGi,inB,yP,hdC,tlC,Tryz.f50,zTk,q2,q5,q7,q9,ii,b2',hu,hk,t5,w0,hc,v1,v2,v3,hlt,hk2,ho2,c0,c1,c2,c3,x1,x2,zJ1,g35,hok,hw,bv,u3,u4,u5];exact hR _ (by simp[up,bv]) hno
 ·obtain rfl:j=cm.conds.length:=by omega
  rw[xN]at hall;simp[evx,yMh,zXq,zS5,zGi,inB,yP,hdC,tlC,Tryz.f50,q2,q7,q9,ii,b2',hu,hk,t5,w0,hc,v1,v2,v3];exact hQ _ (J0.up (by simp[up])) (by simp[up,q7,ii]) hall
end
end
section
structure Ok50 (P:Pl) (b L:List (List Ev)):Prop where
 fl:P.fixed.length<big
 fx:∀f∈P.fixed,PrOk f
 tk:∀c x,zGg x→okTk (P,c,x)
 bb:b.length<big
 bl:∀l∈b,l.length<big
 ev:∀l∈b,∀y∈l,zGg y
 cb:P.comps.length≤b.length
 cd:∀c,∀cd∈(P.comps.getD c zMb).conds,PrOk cd.p
 cl:∀c,(P.comps.getD c zMb).conds.length<big
 en:∀each,EnOk ⟨L,each,0⟩
section
variable {H:Heap} {n:Nat} {p:Pt} {P:Pl} {ba:AV} {b:List (List Ev)} {la:AV} {L:List (List Ev)}
theorem zN8 {f:Nat→Bool} {c N:Nat} (hc:c<N) (h:f c=false):(List.range N).all f=false:=by
 rw[zAl];exact⟨c,xQ.2 hc,by rw[h];simp⟩
theorem ySy (ok:Ok50 P b L) (s:St) (a:I50 H n p P ba b la L s) (q7:s.e 7=ii 0) {Q:Ex→St→Prop}
  (hQ:∀s',((List.range P.comps.length).all (yBw P b L))=true→Q (.exit 2) s') (hR:∀s':St,s'.e 4=bv false→((List.range P.comps.length).all (yBw P b L))=false→Q .ret s') :
  awp (cx S29 (pfL zTk)) (.loop zS5) Q s:=by
 refine yK (fun s=>∃c:Nat,c≤P.comps.length∧I50 H n p P ba b la L s∧s.e 7=ii c∧((List.range c).all (yBw P b L))=true) (fun s=>P.comps.length-(s.e 7).i.toNat) ⟨0,zAz _,a,q7,rfl⟩ ?_
 rintro e' h' n' ⟨c,hc,J,q7,hall⟩;have J0:=J;obtain⟨q1,q2,q5,b2,pl,rb,rl⟩:=J;simp only[]at q1 q2 q5 b2 pl rb rl q7;obtain⟨s1,s2,s3,s4,s5⟩:=zK pl.cm;have hbb:=ok.bb;have hcb:=ok.cb;have hcl:P.comps.length<big:=by omega
 by_cases hlt:c<P.comps.length
 ·refine zX 1 _ _ (R:=fun s=>I50 H n p P ba b la L s∧s.e 7=ii c) ?_ fun e2 h2 n2 ⟨J2,k7⟩ => ?_
  ·simp[evx,zS5,yP,hdC,tlC,Tryz.f50,q2,q7,b2,xT,ii,s1,s2,hlt]
   exact⟨J0.q1,J0.q2,J0.q5,J0.b2,J0.pl,J0.rb,J0.rl⟩
  show awp _ (.seq (.block 3 zXq) (tlC 2 zS5)) _ _;rw[zCf,zAe];refine zX 1 _ _ (R:=fun s=>I50 H n p P ba b la L s∧s.e 7=ii c∧((b.getD c []).all (zCh P c))=true) ?_ fun e3 h3 n3 ⟨J3,k3,hC⟩ => ?_
  ·show awp _ (.seq (hdC 1 (hdC 1 zXq)) (.block 4 (.loop yMi))) _ _
   refine zMe (I:=fun s=>I50 H n p P ba b la L s∧s.e 7=ii c∧s.e 8=ii 0) ?_ fun e h n' ⟨K,j1,j2⟩=>ySx ok.tk ok.bb ok.bl ok.ev (by omega) _ K j1 j2 (fun s' K' m1 m2 => ?_) fun s' m1 m2 => ?_
   ·simp[evx,zXq,zS5,inB,yP,hdC,tlC,Tryz.f50]
    exact⟨J2.up (by simp[up]),k7,by simp[up,ii]⟩
   ·rw[zBf,if_pos rfl,wL]
    exact⟨K',m1,m2⟩
   ·rw[zBw,zBx,zBw,zBx]
    exact hR s' m1 (zN8 hlt (by unfold yBw;rw[m2];rfl))
  refine zX 1 _ _ (R:=fun s=>I50 H n p P ba b la L s∧s.e 7=ii c∧s.e 9=ii 0) ?_ fun e4 h4 n4 ⟨J4,k4,k9⟩ => ?_
  ·simp[evx,zXq,zS5,inB,yP,hdC,tlC,Tryz.f50]
   exact⟨J3.up (by simp[up]),k3,by simp[up,ii]⟩
  show awp _ (.block 6 (.loop yMh)) _ _;rw[zAe];refine ySw (ok.cd c) ok.en hcl (ok.cl c) hlt _ J4 k4 k9 (fun s' K' m1 m2 => ?_) fun s' m1 m2 => ?_
  ·rw[zBf,if_pos rfl,zEd,wL]
   obtain⟨e5,h5,n5⟩:=s';have hw:=yF (j:=c) (by omega)
   simp only[]at m1;simp[evx,zS5,yP,hdC,tlC,Tryz.f50,m1,ii,hw];refine⟨⟨c+1,hlt,K'.up (by simp[up]),by simp[up,ii],?_⟩,?_⟩
   ·intro x hx
    by_cases hxc:x<c
    ·exact zJ.1 hall x (xQ.2 hxc)
    ·obtain rfl:x=c:=by omega
     unfold yBw;rw[hC,m2];rfl
   ·rw[q7];simp[ii,AV.i];omega
  ·rw[zBw,zBw,zBx]
   exact hR s' m1 (zN8 hlt (by unfold yBw;rw[m2];simp))
 ·obtain rfl:c=P.comps.length:=by omega
  simp[evx,zS5,yP,hdC,tlC,Tryz.f50,q2,q7,b2,xT,ii,s1,s2];exact hQ _ hall
end
def yIa (x:Pl×List (List Ev)):Prop:=∃sc q,Wf sc q∧SQ sc q∧x.1=yQ sc q∧zCt x.1 x.2=true∧∀l∈x.2,∀y∈l,zGg y
def evZ:Ev:=⟨0,0,0,0,0,0,0,0,0,0,0⟩
theorem yGe:zGg evZ:=by simp only[zGg,evZ,Rng];omega
def yM8:=yE (de2 rPl rEss) yIa fun x=>bv (zU3 x.1 x.2 (byV x.1.q x.2 (-1) evZ))
theorem yRi {sc:List Ty} {q:Qu} {b:List (List Ev)} (W:Wf sc q) (w:SQ sc q) (hb:zCt (yQ sc q) b=true) (hev:∀l∈b,∀y∈l,zGg y):Ok50 (yQ sc q) b (byV q b (-1) evZ):=by
 have hbl:=zMf W hb;have h1:=zPa w;have hbe:b.length=(yQ sc q).comps.length:=by
  unfold zCt at hb;simp only[zH,decide_eq_true_eq]at hb;exact hb.1
 have hpc:=@zCw sc q;have hpn:=zLm q q.items.length;have n10:=W.n1;have hcd:∀c,(yQ sc q).comps.getD c zMb=zMb∨∃i:Nat,(yQ sc q).comps.getD c zMb=zD0 sc q (zA7 q) i:=fun c=>by
  by_cases hc:c<(yQ sc q).comps.length
  ·obtain⟨i,_,_,h⟩:=zOb (zF hc)
   exact .inr ⟨i,by rw[zB,zA hc];exact h⟩
  ·exact .inl (by rw[zB,zL (by omega)];rfl)
 have hen:=yGn (q:=q) hbl hev yGe (-1);refine⟨?_,fun f hf=>yI6 w hf,fun c x hx=>zSh W w hx,by unfold big;omega,fun l hl=>by have:=hbl l hl;unfold big;omega,hev,by omega,fun c cd hcd' => ?_,fun c => ?_,fun each=>⟨hen.len,hen.ev,by show Rng 0;unfold Rng;omega⟩⟩
 ·show (zOq sc q (zA7 q)).length<big
  have h2:(zOq sc q (zA7 q)).length≤(zA7 q).length:=by unfold zOq;rw[zO];exact xY _ _
  unfold big;omega
 ·rcases hcd c with h|⟨i,h⟩
  ·rw[h]at hcd';cases hcd'
  ·rw[h]at hcd';exact yEr w hcd'
 ·rcases hcd c with h|⟨i,h⟩
  ·rw[h];show 0<big;unfold big;omega
  ·rw[h]
   show (zKj sc q (zA7 q) i).length<big;have h2:(zKj sc q (zA7 q) i).length≤(zA7 q).length:=by unfold zKj;rw[zO];exact xY _ _
   unfold big;omega
theorem P50:P0 S29 50 yM8:=by
 refine mkH 2 (S:=S29) (l:=zTk) (zS P30 (zS (P31 P29) (zS (P35 P29) yH))) Tryz.func50 rfl (by kernel_rfl) zAw zBk (fun a=>rfl) (fun args x h n e hp hn => ?_)
 obtain⟨a,ba,rfl,e1,e2⟩:=zA9 e;obtain⟨P,b⟩:=x;obtain⟨sc,q,W,w,rfl,hb,hev⟩:=hp;simp only[]at e1 e2 hb hev ⊢;obtain⟨p,rfl,pr⟩:=zDm e1;obtain⟨o1,o2,o3,o4,o5,o6,o7,o8,o9,o10⟩:=pr.is;have e2':rd zDd h ba=some b:=e2;obtain⟨t1,t2,t3,t4,t5⟩:=zK e2';have ok:=yRi W w hb hev;have hbl:=zMf W hb;have hfr:Fresh n (roH h):=zFh hn;have key:∀e:Nat→AV,e 0=.g (xT p (yQ sc q))→e 1=ba→awp (cx S29 (pfL zTk)) (Tryz.f50.body.getD .skip) (zA8 (cx S29 (pfL zTk)) Tryz.f50 fun z _ _=>z=bv (zU3 (yQ sc q) b (byV q b (-1) evZ))) ⟨e,roH h,n⟩:=fun e q0 q1=>by
  refine zX 2 _ _ (R:=fun s=>∃la,I50 h n p (yQ sc q) ba b la (byV q b (-1) evZ) s) ?_ fun e2' h2 n2 ⟨la,J⟩ => ?_
  ·have pl1:∀B,PlR (up (roH h) n B) p (yQ sc q):=fun B=>pr.sim (Heap.sim_trans (Heap.sim_ro h) (zAh hfr ((zC (zD _) _).2 (zE _ _))))
   have rb1:∀B,rd zDd (up (roH h) n B) ba=some b:=fun B=>zAb (Heap.sim_trans (Heap.sim_ro h) (zAh hfr ((zC (zD _) _).2 (zE _ _)))) e2'
   simp[evx,hdC,Tryz.f50,q0,q1,xT,ii,ss,bv,o1,o2,o3,o4,o5,o6,o7,o8,o9,o10,zEc,t3,zTk];have hf1:∀B,Fresh (n+1) (up (roH h) n B):=fun B=>(zG (by omega) _).2 (hfr.add 1)
   refine (xV (S:=[]) (by simp) (c23 evZ W (pl1 _) (hf1 _) (rb1 _) fun l hl=>by have:=hbl l hl;omega)).mono ?_
   rintro la h2 n2 ⟨a1,a2,a3,rl⟩;refine⟨la,by simp[up,q1],by simp[up],by simp[up],?_,(pl1 _).sim (zAh (hf1 _) a1),yS (hf1 _) (rb1 _) _ a1,rl⟩
   simp only[];rw[a1 n (by omega),zN];rfl
  refine zX 1 _ _ (R:=fun s=>I50 h n p (yQ sc q) ba b la (byV q b (-1) evZ) s∧((yQ sc q).fixed.all fun f=>zBe f ⟨[],-1,0⟩)=true) ?_ fun e3 h3 n3 ⟨J3,hf⟩ => ?_
  ·show awp _ (.seq (hdC 1 (hdC 1 (tlC 2 (Tryz.f50.body.getD .skip)))) (.block 0 (.loop yMj))) _ _
   refine zMe (I:=fun s=>I50 h n p (yQ sc q) ba b la (byV q b (-1) evZ) s∧s.e 6=ii 0) ?_ fun e h' n' ⟨K,j1⟩=>ySz ok.fl ok.fx _ K j1 (fun s' K' m => ?_) fun s' m1 m2 => ?_
   ·simp[evx,hdC,tlC,Tryz.f50]
    exact⟨J.up (by simp[up]),by simp[up,ii]⟩
   ·rw[zBf,if_pos rfl,wL];exact⟨K',m⟩
   ·rw[zBw,zBx,zJ4]
    have hv:zU3 (yQ sc q) b (byV q b (-1) evZ)=false:=by unfold zU3;rw[m2];rfl
    rw[hv];simp[evx,Tryz.f50,m1]
  refine zX 1 _ _ (R:=fun s=>((List.range (yQ sc q).comps.length).all (yBw (yQ sc q) b (byV q b (-1) evZ)))=true) ?_ fun e4 h4 n4 hc => ?_
  ·show awp _ (.seq (hdC 1 (hdC 1 (tlC 3 (Tryz.f50.body.getD .skip)))) (.block 2 (.loop zS5))) _ _
   refine zMe (I:=fun s=>I50 h n p (yQ sc q) ba b la (byV q b (-1) evZ) s∧s.e 7=ii 0) ?_ fun e h' n' ⟨K,j1⟩=>ySy ok _ K j1 (fun s' m => ?_) fun s' m1 m2 => ?_
   ·simp[evx,hdC,tlC,Tryz.f50]
    exact⟨J3.up (by simp[up]),by simp[up,ii]⟩
   ·rw[zBf,if_pos rfl,wL];exact m
   ·rw[zBw,zBx,zJ4]
    have hv:zU3 (yQ sc q) b (byV q b (-1) evZ)=false:=by unfold zU3;rw[m2];simp
    rw[hv];simp[evx,Tryz.f50,m1]
  have hv:zU3 (yQ sc q) b (byV q b (-1) evZ)=true:=by unfold zU3;rw[hf,hc];rfl
  simp[evx,tlC,Tryz.f50,hv,bv]
 exact key _ rfl rfl
end
section
def zIi:List (FuncId×(List AV→Heap→PRes)):=[(48,yM5),(49,G49)]
noncomputable def zMy:Code:=yP (hdC 1 (tlC 2 (Tryz.f51.body.getD .skip)))
noncomputable def zPq:Code:=inB (hdC 1 (tlC 1 zMy))
noncomputable def yMg:Code:=yP (hdC 1 (tlC 4 zPq))
noncomputable def yMf:Code:=zGi (tlC 8 zPq)
structure I51 (H:Heap) (n:Nat) (q:Qu) (sa qa qb qc la z:AV) (k:Nat) (s:St):Prop where
 q2:s.e 2=la
 q3:s.e 3=.p n 0 0
 q4:s.e 4=.p (n+1) 0 0
 q7:s.e 7=z
 q8:s.e 8=ii k
 b0:s.h n=some ⟨[sa],0,true,1⟩
 b1:s.h (n+1)=some ⟨xS q qa qb qc,0,true,7⟩
 ag:agree n H s.h
 fr:Fresh s.n s.h
 nn:n+2≤s.n
 rz:rd dIs s.h z=some (zHs q)
theorem I51.up {H:Heap} {n:Nat} {q:Qu} {sa qa qb qc la z:AV} {k:Nat} {s s':St} (a:I51 H n q sa qa qb qc la z k s) (he:∀i∈[2,3,4,7,8],s'.e i=s.e i) (ha:agree s.n s.h s'.h) (hf:Fresh s'.n s'.h) (hn:s.n≤s'.n):I51 H n q sa qa qb qc la z k s':=by
 have:=a.nn;exact⟨(he 2 (by simp)).trans a.q2,(he 3 (by simp)).trans a.q3,(he 4 (by simp)).trans a.q4,(he 7 (by simp)).trans a.q7,(he 8 (by simp)).trans a.q8,(ha _ (by omega)).trans a.b0,(ha _ (by omega)).trans a.b1,yJ a.ag ha (by omega),hf,by omega,yS a.fr a.rz _ ha⟩
structure J51 (H:Heap) (n:Nat) (q:Qu) (sa qa qb qc la z:AV) (k:Nat) (t:List Nd) (ta:AV) (m:Nat) (y1 y2 y3:AV) (s:St):Prop where
 a:I51 H n q sa qa qb qc la z k s
 q9:s.e 9=ta
 q10:s.e 10=.p m 0 0
 b10:s.h m=some ⟨[y1,y2,y3],0,true,3⟩
 rt:rd dNs s.h ta=some t
 r1:rd dIs s.h y1=some (xX q t)
 r2:rd dIs s.h y2=some (zBo q t)
 r3:rd dIs s.h y3=some (zRt q t)
theorem J51.up {H:Heap} {n:Nat} {q:Qu} {sa qa qb qc la z:AV} {k:Nat} {t:List Nd} {ta:AV} {m:Nat} {y1 y2 y3:AV} {s s':St} (a:J51 H n q sa qa qb qc la z k t ta m y1 y2 y3 s) (he:∀i∈[2,3,4,7,8,9,10],s'.e i=s.e i) (ha:agree s.n s.h s'.h) (hf:Fresh s'.n s'.h) (hn:s.n≤s'.n):J51 H n q sa qa qb qc la z k t ta m y1 y2 y3 s' :=
 ⟨a.a.up (fun i hi=>he i (by simp at hi ⊢;omega)) ha hf hn,(he 9 (by simp)).trans a.q9,(he 10 (by simp)).trans a.q10,(ha _ (xI a.b10 a.a.fr)).trans a.b10,yS a.a.fr a.rt _ ha,yS a.a.fr a.r1 _ ha,yS a.a.fr a.r2 _ ha,yS a.a.fr a.r3 _ ha⟩
section
variable {H:Heap} {n:Nat} {sc:List Ty} {q:Qu} {sa qa qb qc la z:AV} {L:List (List Ev)}
theorem ySt (W:Wf sc q) (w:SQ sc q) (e2:deQ H (.g (xS q qa qb qc))=some q) (hn:Fresh n H) {k:Nat} (hk:k<(xR q.wh).length) (e:Nat→AV) (h1:Heap) (n2:Nat) (a:I51 H n q sa qa qb qc la z k ⟨e,h1,n2⟩) {Q:Ex→St→Prop}
  (hE:0≤zPl q (xX q (zAo q.wh (xR q.wh)[k]))→∀s',I51 H n q sa qa qb qc la z k s'→Q (.exit 1) s') :
  awp (cx SP (pfL zIi)) (hdC 3 zPq) (zAs (fun s'=>¬0≤zPl q (xX q (zAo q.wh (xR q.wh)[k]))∧∃ta m y1 y2 y3,J51 H n q sa qa qb qc la z k (zAo q.wh (xR q.wh)[k]) ta m y1 y2 y3 s') Q) ⟨e,h1,n2⟩:=by
 have a0:=a;obtain⟨q2,q3,q4,q7,q8,b0,b1,ag,fr,nn,rz⟩:=a;simp only[]at q2 q3 q4 q7 q8 b0 b1 ag fr nn rz;have e1':deQ h1 (.g (xS q qa qb qc))=some q:=zAp (zAh hn ag) e2;obtain⟨a',b',c',e0,x1,x2,x3⟩:=xP e1';cases e0;have b1':h1 (n+1)=some ⟨[qa,.v (.int .i64 q.mode),.v (.int .i64 q.after),qb,.v (.int .i64 q.within),.v (.string q.par),qc],0,true,7⟩:=b1;have o1:=(zK x1).2.2.1;have o2:=(zK x2).2.2.1;have o3:=(zK x3).2.2.1;obtain⟨s1,s2,s3,s4,s5⟩:=zK x2;have hkr:k<(zHs q).length:=by unfold zHs;rw[zO];exact hk
 have hrk:(zHs q)[k]=((xR q.wh)[k]:Nat):=by simp[zHs]
 have hr:(xR q.wh)[k]∈xR q.wh:=zF hk;obtain⟨r,hrr⟩:∃r,r=(xR q.wh)[k]:=⟨_,rfl⟩;rw[←hrr]at hrk hr hE ⊢;obtain⟨ht,hrl⟩:=zF0 hr;have hw:xO q.wh:=w.q2;have hwl:q.wh.length*64≤140737488355328:=hw;have hkl:=zYp hw;rcases zKe rz with ⟨h0,_⟩|⟨id,off,bk,rfl,hbk,ho,hat⟩
 ·rw[h0]at hkr;simp at hkr
 have hc:=hat k hkr;rw[hrk]at hc;have hw1:off+(k+1)≤bk.cells.length:=by omega
 have e1q:deQ h1 (.g [qa,.v (.int .i64 q.mode),.v (.int .i64 q.after),qb,.v (.int .i64 q.within),.v (.string q.par),qc])=some q:=e1';have hmc:zAo q.wh r∈zA7 q:=by rw[zCo];exact List.mem_map_of_mem hr
 obtain⟨hss,hrg⟩:=w.conj hmc;simp[evx,hdC,tlC,yP,inB,zPq,zMy,Tryz.f51,q4,q7,q8,ii,hbk,hc,hw1,hkr,b1',zIi,s1,s2,s3,s4,o1,o2,o3];refine (xV (S:=[3]) (by simp[SP]) (c52 x2 ht hw hrl fr)).mono ?_
 rintro z h2 n3 ⟨a1,a2,a3,mm,rfl,hm,hm1,hm2⟩;have rs':rd dNs h2 (.s mm 0 0 (zAo q.wh r).length)=some (zAo q.wh r):=zBs Flat.nd hm rfl (r:=[]) (by simp)
 have eq2:=zAp (zAh fr a1) e1q;have hb1x:h2 (n+1)=_:=(a1 _ (by omega)).trans b1'
 refine⟨zD4 (zHo fr a1),?_⟩;simp[evx,hb1x];refine (xV (S:=[]) (fun _ h=>by cases h) (c49 eq2 rs' (by have:=W.n1;omega) hss a2)).mono ?_
 rintro z h3 n4 ⟨c1,c2,c3,y1,y2,y3,rfl,r1,r2,r3⟩;have hag3:agree n2 h1 h3:=yJ a1 c1 a3;have eq3:=zAp (zAh a2 c1) eq2;have rs3:=yS a2 rs' _ c1;have b1x:h3 (n+1)=_:=(hag3 _ (by omega)).trans b1'
 have p1:=(zK r1).2.2.2.1;have p2:=(zK r2).2.2.2.1;have p3:=(zK r3).2.2.2.1;have hbl:(wX wS (vars q.items) (zAo q.wh r)).length≤q.items.length:=by
  unfold wX;refine xE (xY _ _) ?_;simp[vars]
 have n10:=W.n1;have okn:yOr (q,⟨wX wS (vars q.items) (zAo q.wh r),wX zC0 (vars q.items) (zAo q.wh r),wX zDe (vars q.items) (zAo q.wh r)⟩):=⟨by simp only[];unfold big;omega,by simp only[];unfold big;omega,fun i hi=>by
  obtain⟨u1,u2,_⟩:=zGn hi;simp only[vars,zO]at u2;exact⟨u1,u2⟩⟩
 have gn:∀h',agree n4 h3 h'→yM5 [.g [qa,.v (.int .i64 q.mode),.v (.int .i64 q.after),qb,.v (.int .i64 q.within),.v (.string q.par),qc],.g [y1,y2,y3]] h'=⟨yOr (q,⟨wX wS (vars q.items) (zAo q.wh r),wX zC0 (vars q.items) (zAo q.wh r),wX zDe (vars q.items) (zAo q.wh r)⟩),ii (zPl q (xX q (zAo q.wh r)))⟩:=fun h' ha=>by
  have d:rUz.run h' (.g [y1,y2,y3])=some ⟨wX wS (vars q.items) (zAo q.wh r),wX zC0 (vars q.items) (zAo q.wh r),wX zDe (vars q.items) (zAo q.wh r)⟩:=zSs (yS c2 r1 _ ha) (yS c2 r2 _ ha) (yS c2 r3 _ ha);have d2:deQ h' _=some q:=zAp (zAh c2 ha) eq3;simp only[yM5,yE,de2,rQ,d2,d,zT,zM];rfl
 have fin:∀(e':Nat→AV) (h':Heap) (n':Nat),(∀i∈[2,3,4,7,8],e' i=e i)→agree n4 h3 h'→Fresh n' h'→n4≤n'→I51 H n q sa qa qb qc la (.s id bk.ver off (zHs q).length) k ⟨e',h',n'⟩:=fun e' h' n' k1 k4 k5 k6 =>
  a0.up k1 (yJ hag3 k4 (show n2≤n4 by omega)) k5 (show n2≤n' by omega)
 have y1':¬n+1=n4:=by omega
 simp only[ii]at gn;generalize hnv:zPl q (xX q (zAo q.wh r))=nv at *;by_cases h0:0≤nv
 ·simp[evx,b1x,gn,zC,zE,okn,h0,p1,p2,p3,y1',ii]
  exact hE h0 _ (fin _ _ _ (by simp[up]) (by simp[zC,zE]) (by simp[zG,c2.add]) (by omega))
 ·simp[evx,b1x,gn,zC,zE,okn,h0,p1,p2,p3,y1',ii]
  refine⟨by omega,.s mm 0 0 (zAo q.wh r).length,n4,y1,y2,y3,fin _ _ _ (by simp[up]) (by simp[zC,zE]) (by simp[zG,c2.add]) (by omega),by simp[up],by simp[up],by simp[up],?_,?_,?_,?_⟩
  ·exact yS c2 rs3 _ (by simp[zC,zE])
  ·exact yS c2 r1 _ (by simp[zC,zE])
  ·exact yS c2 r2 _ (by simp[zC,zE])
  ·exact yS c2 r3 _ (by simp[zC,zE])
theorem zWs (l:List Int) (i:Int):zCc q (l++[i])=if 1<(itA q i.toNat).hi then i else zCc q l:=by
 unfold zCc;rw[List.foldl_append];rfl
theorem ySv (W:Wf sc q) (e2:deQ H (.g (xS q qa qb qc))=some q) (hn:Fresh n H) {k:Nat} {t:List Nd} {ta:AV} {m:Nat} {y1 y2 y3:AV} (s:St) (a:J51 H n q sa qa qb qc la z k t ta m y1 y2 y3 s) (q11:s.e 11=ii (-1)) (q12:s.e 12=ii 0) {Q:Ex→St→Prop}
  (hQ:∀s',J51 H n q sa qa qb qc la z k t ta m y1 y2 y3 s'→s'.e 11=ii (zCc q (xX q t))→Q (.exit 2) s') :
  awp (cx SP (pfL zIi)) (.loop yMg) Q s:=by
 refine yK (fun s=>∃j:Nat,j≤(xX q t).length∧J51 H n q sa qa qb qc la z k t ta m y1 y2 y3 s∧s.e 11=ii (zCc q ((xX q t).take j))∧s.e 12=ii j) (fun s=>(xX q t).length-(s.e 12).i.toNat) ⟨0,zAz _,a,by rw[q11];rfl,q12⟩ ?_
 rintro e' h' n' ⟨j,hj,J,q11,q12⟩;have J0:=J;obtain⟨⟨q2,q3,q4,q7,q8,b0,b1,ag,fr,nn,rz⟩,q9,q10,b10,rt,r1,r2,r3⟩:=J;simp only[]at q2 q3 q4 q7 q8 b0 b1 ag fr nn rz q9 q10 b10 rt r1 r2 r3 q11 q12;have e1':deQ h' (.g (xS q qa qb qc))=some q:=zAp (zAh hn ag) e2;obtain⟨a',b',c',e0,x1,x2,x3⟩:=xP e1';cases e0;have b1':h' (n+1)=some ⟨[qa,.v (.int .i64 q.mode),.v (.int .i64 q.after),qb,.v (.int .i64 q.within),.v (.string q.par),qc],0,true,7⟩:=b1;obtain⟨s1,s2,s3,s4,s5⟩:=zK r1;have n10:=W.n1;have hbl:(xX q t).length≤q.items.length:=by
  unfold xX wX;refine xE (xY _ _) ?_;simp[vars]
 by_cases hlt:j<(xX q t).length
 ·have hmem:(xX q t)[j]∈xX q t:=zF hlt
  obtain⟨u1,u2,_⟩:=zGn (p:=wS) hmem;simp only[vars,zO]at u2;have hsn:zCc q ((xX q t).take (j+1))=if 1<(itA q (xX q t)[j].toNat).hi then (xX q t)[j]else zCc q ((xX q t).take j):=by
   rw[zZ hlt,zWs]
  rcases zKe r1 with ⟨h0,_⟩|⟨id,off,bk,rfl,hbk,ho,hat⟩
  ·rw[h0]at hlt;simp at hlt
  have hc:=hat j hlt;have hw1:off+(j+1)≤bk.cells.length:=by omega
  obtain⟨i,hi⟩:=zCi u1;rw[hi]at hc u2 hsn;rw[zV]at hsn;have hil:i<q.items.length:=by omega
  obtain⟨id2,off2,k2,ty,rfl,hk2,ho2,c0,c1,c2,c3,c4,_⟩:=zHd x1 hil;have hw2:off2+(i*5+5)≤k2.cells.length:=by omega
  have hA:(q.items.getD i it0).hi=(itA q i).hi:=rfl;rw[hA]at c4;have hw:=yF (j:=j) (by unfold big;omega)
  have fin:∀(e'':Nat→AV),(∀i∈[2,3,4,7,8,9,10],e'' i=e' i)→J51 H n q sa (.s id2 k2.ver off2 q.items.length) qb qc la z k t ta m (.s id bk.ver off (xX q t).length) y2 y3 ⟨e'',h',n'⟩:=fun e'' k1=>J0.up k1 (zE _ _) fr (zD _)
  simp only[ii]at c4;by_cases hh:1<(itA q i).hi
  ·rw[if_pos hh]at hsn
   simp[evx,hdC,tlC,yP,inB,yMg,zPq,zMy,Tryz.f51,q4,q10,q11,q12,ii,b1',b10,hbk,hc,hw1,hlt,hk2,hw2,c4,hil,hh,hw];exact⟨⟨j+1,hlt,fin _ (by simp[up]),by simp[up,hsn,ii],by simp[up,ii]⟩,by omega⟩
  ·rw[if_neg hh]at hsn
   simp[evx,hdC,tlC,yP,inB,yMg,zPq,zMy,Tryz.f51,q4,q10,q11,q12,ii,b1',b10,hbk,hc,hw1,hlt,hk2,hw2,c4,hil,hh,hw];exact⟨⟨j+1,hlt,fin _ (by simp[up]),by simp[up,hsn,q11,ii],by simp[up,ii]⟩,by omega⟩
 ·obtain rfl:j=(xX q t).length:=by omega
  rw[xN]at q11;simp[evx,hdC,tlC,yP,inB,yMg,zPq,zMy,Tryz.f51,q10,q12,ii,b10,s1,s2];exact hQ _ (J0.up (by simp[up]) (zE _ _) fr (zD _)) (by simp[up,q11])
end
end
end Go.Proofs.YtbffkkeieihpdaaGreatDoor
