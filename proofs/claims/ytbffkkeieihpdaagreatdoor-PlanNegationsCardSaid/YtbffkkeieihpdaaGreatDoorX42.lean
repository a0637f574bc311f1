import Derived.Test.YtbffkkeieihpdaaGreatDoorX41
import Derived.Test.YtbffkkeieihpdaaGreatDoorX37
import Derived.Test.YtbffkkeieihpdaaGreatDoorCards
import Derived.Test.YtbffkkeieihpdaaGreatDoorTie
import Derived.SevenTiedAt
set_option linter.unusedSimpArgs false
set_option linter.unusedVariables false
set_option linter.constructorNameAsVariable false
set_option maxRecDepth 100000
set_option maxHeartbeats 4000000
namespace Go.Proofs.YtbffkkeieihpdaaGreatDoor
open Go Go.Eng Go.RowKit Go.ChangeShapes Go.WideShapes Go.Joins
theorem opens_bind:Opens Tryz.prog 53 dEss fun l=>l.length*24≤reachBytes∧∀x∈l,x.length*88≤reachBytes∧∀y∈x,EvOk y:=Opens.sl Tryz.underlying53 (sz:=1) (by kernel_rfl) (by decide) (by kernel_rfl) opens_84
theorem law12r {H:Heap} {n:Nat} {sc:List Ty} {q:Qu} {sa qa qb qc ba:AV} {ng:Int} {x:Ev} {b:List (List Ev)} (e1:rd dTys H sa=some sc) (e2:deQ H (.g (qcells q qa qb qc))=some q) (w:SQ sc q) (hn:Fresh n H) (rb:rd dEss H ba=some b) (okb:b.length*24≤reachBytes∧∀x∈b,x.length*88≤reachBytes∧∀y∈x,EvOk y) (_:Rng ng) (hx:EvOk x) :
  awp (cz SP (pfL tbN12)) (Tryz.f12.body.getD .skip) (finQ (cz SP (pfL tbN12)) Tryz.f12 fun z _ _=>z=bv true) ⟨env0 [.g [sa],.g (qcells q qa qb qc),ba,ii ng,ee x],H,n⟩:=by
 have hr:reachBytes=140737488351232:=rfl
 refine law12 e1 e2 rb ?_ (fun l hl => ?_) (fun l hl=>(okb.2 l hl).2) hx w hn
 ·have:=okb.1;rw[hr]at this;unfold big;omega
 ·have:=(okb.2 l hl).1;rw[hr]at this;unfold big;omega
end Go.Proofs.YtbffkkeieihpdaaGreatDoor
namespace Go.Proofs.YtbffkkeieihpdaaGreatDoor
open Go Go.Eng Go.RowKit Go.ChangeShapes Go.WideShapes Go.ChangeAt
theorem lifted12 (os:Os) (started:os.Started) (H:Type) (enc:TypeId×Value→H) :
  ReturnsInHanded {} Tryz.checked os 12 .any (fun w args=>(Rows.planNegationsSpec.pre enc Tryz.prog Tryz.f12 [] false w args∧laidMetH Tryz.prog Rows.planNegationsRow.laid w)∧sizedMet enc Tryz.prog Tryz.f12 (OpenSpec.ofChange Rows.planNegationsSpec) false w args)
   (Rows.planNegationsSpec.post enc Tryz.prog Tryz.f12 false true false false):=by
 refine returnsInHanded_of_change_and (C:=Tryz.checked) (X:=fun w _=>laidMetH Tryz.prog Rows.planNegationsRow.laid w) (fun _ _ _ hh h=>h.of_heap hh) (by kernel_rfl) started (by kernel_rfl) Tryz.func12
  (ChangeSpec.witness_shaped (enc:=enc) (C:=Tryz.checked) (os:=os) (X:=fun w _=>laidMetH Tryz.prog Rows.planNegationsRow.laid w) false (World.doorLaid Tryz.prog 400 os) #[.agg #[.slice none 0 0],.agg #[.slice none 0 0,.int .i64 0,.int .i64 0,.slice none 0 0,.int .i64 0,.string ByteArray.empty,.slice none 0 0],.slice none 0 0,.int .i64 0,.agg #[.int .i64 0,.int .u64 0,.int .i64 0,.int .i64 0,.int .i64 0,.int .i64 0,.int .i64 0,.int .i64 0,.int .i64 0,.int .i64 0,.int .i64 0]] 8 rfl (World.shaped_of_RefB (by kernel_rfl) (by kernel_rfl)) (by kernel_rfl) (by kernel_rfl) (by kernel_rfl)
   (laidMetH_of_parts3 (fuel:=8) (laidMet_of_run' 8 (by kernel_rfl) (by kernel_rfl)) (by kernel_rfl) (by kernel_rfl))) ?_
 intro W base args ds gs before hval0 hW _ hsz hL _
 have hval:∀(j:Nat) t v,Tryz.f12.params[j]? = some t→args[j]? = some v→Value.okWide Tryz.prog W .any base t v:=hval0
 have hW':=hW
 obtain⟨p,q,hA0,hV,rfl,hfz,hnd⟩:=hW
 have hA:DataW.TrodAll enc Tryz.prog W 0 (fun _=>true) true Tryz.f12.params.toList args.toList ds p:=hA0
 obtain⟨args⟩:=args
 rw[Tryz.params12]at hA hval
 simp only[]at hA
 obtain⟨v0,vs0,d0,ds0,p0,q0,e0,e0_,e0__,h0,hA0⟩:=ChangeShapes.trodAll_cons hA
 obtain⟨v1,vs1,d1,ds1,p1,q1,e1,e1_,e1__,h1,hA1⟩:=ChangeShapes.trodAll_cons hA0
 obtain⟨v2,vs2,d2,ds2,p2,q2,e2,e2_,e2__,h2,hA2⟩:=ChangeShapes.trodAll_cons hA1
 obtain⟨v3,vs3,d3,ds3,p3,q3,e3,e3_,e3__,h3,hA3⟩:=ChangeShapes.trodAll_cons hA2
 obtain⟨v4,vs4,d4,ds4,p4,q4,e4,e4_,e4__,h4,hA4⟩:=ChangeShapes.trodAll_cons hA3
 obtain⟨en,en_,en__⟩:=trodAll_nil hA4
 subst en en_ en__ e4 e4_ e4__ e3 e3_ e3__ e2 e2_ e2__ e1 e1_ e1__ e0 e0_ e0__
 obtain⟨rfl,rfl⟩:=trodVars_none hV
 obtain⟨ρ0,hp0,m0,l0,x0,le0,lh0,_,hb0,vr0,dec0,ok0⟩:=open_agg opens_24 Tryz.underlying24 (hval 0 24 v0 rfl rfl) h0 (weights_of (ts:=Tryz.f12.params.toList) hsz (j:=0) rfl rfl) (fun _ _=>none) (fun _=>none) 0 (Blks.nil W)
 obtain⟨ρ1,hp1,m1,l1,x1,le1,lh1,_,hb1,vr1,dec1,ok1⟩:=open_agg opens_quF Tryz.underlying31 (hval 1 31 v1 rfl rfl) h1 (weights_of (ts:=Tryz.f12.params.toList) hsz (j:=1) rfl rfl) ρ0 hp0 m0 hb0
 obtain⟨ρ2,hp2,m2,a2,x2,le2,lh2,_,hb2,vr2,dec2,ok2⟩:=open_cell opens_bind Tryz.underlying53 (.inr (.inr (.inr ⟨_,rfl⟩))) (hval 2 53 v2 rfl rfl) h2 (weights_of (ts:=Tryz.f12.params.toList) hsz (j:=2) rfl rfl) ρ1 hp1 m1 hb1
 obtain⟨ρ3,hp3,m3,a3,x3,le3,lh3,_,hb3,vr3,dec3,ok3⟩:=open_cell opens_i Tryz.underlying3 (.inr (.inl ⟨_,rfl⟩)) (hval 3 3 v3 rfl rfl) h3 (weights_of (ts:=Tryz.f12.params.toList) hsz (j:=3) rfl rfl) ρ2 hp2 m2 hb2
 obtain⟨ρ4,hp4,m4,l4,x4,le4,lh4,_,hb4,vr4,dec4,ok4⟩:=open_agg opens_ev Tryz.underlying60 (hval 4 60 v4 rfl rfl) h4 (weights_of (ts:=Tryz.f12.params.toList) hsz (j:=4) rfl rfl) ρ3 hp3 m3 hb3
 obtain⟨sa,hsa,k0⟩:=deSc_out (show deSc hp0 (.g l0)=some x0 from dec0)
 obtain⟨qa,qb,qc,hqa,k1,k2,k3⟩:=deQ_out (show deQ hp1 (.g l1)=some x1 from dec1)
 rw[hsa]at vr0
 rw[hqa]at vr1
 have hx3:a3=ii x3:=by have:=int_flat .i64 _ _ _ dec3;simpa[ii]using this
 rw[hx3]at vr3
 have hx4:l4=ecells x4:=deEc_out dec4
 rw[hx4]at vr4
 have hc:=law_callsZ tbN12_ok Tryz.func12 rfl (k:=5) (by kernel_rfl) (args:=[.g [sa],.g (qcells x1 qa qb qc),a2,ii x3,ee x4]) rfl
  (law12r (sc:=x0) (q:=x1) (H:=roH hp4) (n:=m4) (rd_sim (roH_sim _) (rd_mono (fun i k e=>(lh4 i k (lh3 i k (lh2 i k (lh1 i k e))))) k0)) (deQ_in (q:=x1) (rd_sim (roH_sim _) (rd_mono (fun i k e=>(lh4 i k (lh3 i k (lh2 i k e)))) k1)) (rd_sim (roH_sim _) (rd_mono (fun i k e=>(lh4 i k (lh3 i k (lh2 i k e)))) k2)) (rd_sim (roH_sim _) (rd_mono (fun i k e=>(lh4 i k (lh3 i k (lh2 i k e)))) k3))) (sq_of ok0.1 ok0.2 ok1) (roH_fresh fun i hi=>(hb4.free i hi).2) (rd_sim (roH_sim _) (rd_mono (fun i k e=>(lh4 i k (lh3 i k e))) dec2)) ok2 (rng_of ok3) ok4) (ro_of2 (W:=W) (S:=SP) (pf:=pfL tbN12) hb4 fun g hg=>by
  simp only[SP,List.mem_cons,List.not_mem_nil,or_false]at hg
  rcases hg with rfl|rfl|rfl|rfl|rfl|rfl|rfl|rfl
  ·exact at0 hL (by kernel_rfl) (by simp[Rows.planNegationsRow])
  ·exact at1 hL (by kernel_rfl) (by simp[Rows.planNegationsRow])
  ·exact at2 hL (by kernel_rfl) (by simp[Rows.planNegationsRow])
  ·exact at7 hL (by kernel_rfl) (by simp[Rows.planNegationsRow])
  ·exact at3 hL (by kernel_rfl) (by simp[Rows.planNegationsRow])
  ·exact at4 hL (by kernel_rfl) (by simp[Rows.planNegationsRow])
  ·exact at5 hL (by kernel_rfl) (by simp[Rows.planNegationsRow])
  ·exact at6 hL (by kernel_rfl) (by simp[Rows.planNegationsRow])
  ) hb4.free (VRs_cons (VR.mono (fun i v b e=>(le4 i v b (le3 i v b (le2 i v b (le1 i v b e))))) _ _ vr0) (VRs_cons (VR.mono (fun i v b e=>(le4 i v b (le3 i v b (le2 i v b e)))) _ _ vr1) (VRs_cons (VR.mono (fun i v b e=>(le4 i v b (le3 i v b e))) _ _ vr2) (VRs_cons (VR.mono (fun i v b e=>(le4 i v b e)) _ _ vr3) (VRs_cons vr4 (VRs_nil _))))))
 refine hc.mono fun e W' ⟨he,hb⟩=>⟨_,he,post_true hW' rfl (by kernel_rfl) rfl rfl hb⟩
end Go.Proofs.YtbffkkeieihpdaaGreatDoor
