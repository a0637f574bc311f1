/-
  PlanPlaces: THE ROW AND ITS CARD.
-/
import Derived.Test.YtbffkkeieihpdaaGreatDoorX40
import Derived.Test.YtbffkkeieihpdaaGreatDoorCards
import Derived.Test.YtbffkkeieihpdaaGreatDoorTie
import Derived.SevenTiedAt
set_option linter.unusedSimpArgs false
set_option linter.unusedVariables false
set_option linter.constructorNameAsVariable false
namespace Go.Proofs.YtbffkkeieihpdaaGreatDoor
open Go Go.Eng Go.RowKit Go.ChangeShapes Go.WideShapes Go.ChangeAt

set_option maxRecDepth 100000 in
theorem lifted8 (os : Os) (started : os.Started) (H : Type) (enc : TypeId × Value → H) :
    ReturnsInHanded {} Tryz.checked os 8 .any (fun w args => (Rows.planPlacesSpec.pre enc Tryz.prog Tryz.f8 [] false w args ∧ laidMetH Tryz.prog Rows.planPlacesRow.laid w) ∧ sizedMet enc Tryz.prog Tryz.f8 (OpenSpec.ofChange Rows.planPlacesSpec) false w args)
      (Rows.planPlacesSpec.post enc Tryz.prog Tryz.f8 false true false false) := by
  refine returnsInHanded_of_change_and (C := Tryz.checked) (X := fun w _ => laidMetH Tryz.prog Rows.planPlacesRow.laid w) (fun _ _ _ hh h => h.of_heap hh) (by kernel_rfl) started (by kernel_rfl) Tryz.func8
    (ChangeSpec.witness_shaped (enc := enc) (C := Tryz.checked) (os := os) (X := fun w _ => laidMetH Tryz.prog Rows.planPlacesRow.laid w) false (World.doorLaid Tryz.prog 400 os) #[.agg #[.slice none 0 0], .agg #[.slice none 0 0, .int .i64 0, .int .i64 0, .slice none 0 0, .int .i64 0, .string ByteArray.empty, .slice none 0 0]] 8 rfl (World.shaped_of_RefB (by kernel_rfl) (by kernel_rfl)) (by kernel_rfl) (by kernel_rfl) (by kernel_rfl)
      (laidMetH_of_parts3 (fuel := 8) (laidMet_of_run' 8 (by kernel_rfl) (by kernel_rfl)) (by kernel_rfl) (by kernel_rfl))) ?_
  intro W base args ds gs before hval0 hW _ hsz hL _
  have hval : ∀ (j : Nat) t v, Tryz.f8.params[j]? = some t → args[j]? = some v → Value.okWide Tryz.prog W .any base t v := hval0
  have hW' := hW
  obtain ⟨p, q, hA0, hV, rfl, hfz, hnd⟩ := hW
  have hA : DataW.TrodAll enc Tryz.prog W 0 (fun _ => true) true Tryz.f8.params.toList args.toList ds p := hA0
  obtain ⟨args⟩ := args
  rw [Tryz.params8] at hA hval
  simp only [] at hA
  obtain ⟨v0, vs0, d0, ds0, p0, q0, e0, e0_, e0__, h0, hA0⟩ := ChangeShapes.trodAll_cons hA
  obtain ⟨v1, vs1, d1, ds1, p1, q1, e1, e1_, e1__, h1, hA1⟩ := ChangeShapes.trodAll_cons hA0
  obtain ⟨en, en_, en__⟩ := trodAll_nil hA1
  subst en en_ en__ e1 e1_ e1__ e0 e0_ e0__
  obtain ⟨rfl, rfl⟩ := trodVars_none hV
  obtain ⟨ρ0, hp0, m0, l0, x0, le0, lh0, _, hb0, vr0, dec0, ok0⟩ := open_agg opens_24 Tryz.underlying24 (hval 0 24 v0 rfl rfl) h0 (weights_of (ts := Tryz.f8.params.toList) hsz (j := 0) rfl rfl) (fun _ _ => none) (fun _ => none) 0 (Blks.nil W)
  obtain ⟨ρ1, hp1, m1, l1, x1, le1, lh1, _, hb1, vr1, dec1, ok1⟩ := open_agg opens_quF Tryz.underlying31 (hval 1 31 v1 rfl rfl) h1 (weights_of (ts := Tryz.f8.params.toList) hsz (j := 1) rfl rfl) ρ0 hp0 m0 hb0
  obtain ⟨sa, hsa, k0⟩ := deSc_out (show deSc hp0 (.g l0) = some x0 from dec0)
  obtain ⟨qa, qb, qc, hqa, k1, k2, k3⟩ := deQ_out (show deQ hp1 (.g l1) = some x1 from dec1)
  rw [hsa] at vr0
  rw [hqa] at vr1
  have hc := law_callsZ tbl8_ok Tryz.func8 rfl (k := 2) (by kernel_rfl) (args := [.g [sa], .g (qcells x1 qa qb qc)]) rfl
    (law8 (sc := x0) (q := x1) (H := roH hp1) (n := m1) (rd_sim (roH_sim _) (rd_mono (fun i k e => (lh1 i k e)) k0)) (deQ_in (q := x1) (rd_sim (roH_sim _) (rd_mono (Heap.le_refl _) k1)) (rd_sim (roH_sim _) (rd_mono (Heap.le_refl _) k2)) (rd_sim (roH_sim _) (rd_mono (Heap.le_refl _) k3))) (sq_of ok0.1 ok0.2 ok1) (roH_fresh fun i hi => (hb1.free i hi).2)) (ro_of2 (W := W) (S := SP) (pf := pfL tbl8) hb1 fun g hg => by
    simp only [SP, List.mem_cons, List.not_mem_nil, or_false] at hg
    rcases hg with rfl | rfl | rfl | rfl | rfl | rfl | rfl | rfl
    · exact at0 hL (by kernel_rfl) (by simp [Rows.planPlacesRow])
    · exact at1 hL (by kernel_rfl) (by simp [Rows.planPlacesRow])
    · exact at2 hL (by kernel_rfl) (by simp [Rows.planPlacesRow])
    · exact at7 hL (by kernel_rfl) (by simp [Rows.planPlacesRow])
    · exact at3 hL (by kernel_rfl) (by simp [Rows.planPlacesRow])
    · exact at4 hL (by kernel_rfl) (by simp [Rows.planPlacesRow])
    · exact at5 hL (by kernel_rfl) (by simp [Rows.planPlacesRow])
    · exact at6 hL (by kernel_rfl) (by simp [Rows.planPlacesRow])
    ) hb1.free (VRs_cons (VR.mono (fun i v b e => (le1 i v b e)) _ _ vr0) (VRs_cons vr1 (VRs_nil _)))
  refine hc.mono fun e W' ⟨he, hb⟩ => ⟨_, he, post_true hW' rfl (by kernel_rfl) rfl rfl hb⟩

theorem row8 : Rows.PlanPlacesSaid :=
  OpenClaim.holds_of_wide 8 Tryz.f8 rfl rfl rfl rfl rfl rfl rfl ⟨rfl, rfl, rfl, rfl, rfl⟩ rfl rfl rfl rfl rfl (by kernel_rfl) Tryz.func8 (by kernel_rfl)
    (of_decide_eq_true (by kernel_rfl)) (by unfold Func.isWrapper; first | (rw [if_pos (by decide +kernel)]; kernel_rfl) | (rw [if_neg (by decide +kernel)]; exact ⟨rfl, rfl⟩))
    (fun os started H enc _ => lifted8 os started H enc)

theorem planPlaces_card : Rows.PlanPlacesCardSaid :=
  Claim7.holds_tied_plain_at .later [] [.data, .data, .data, .data, .data, .data, .data, .data] true (true, "e05e32637377b3c79268a20145a1c8629d209c5c3aff5aa1ea58331ee1f0ed2f") false
    row8 (fun _ h => by cases h) (by kernel_rfl) (fun _ h => by cases h) planPlaces_row_tie rfl ⟨rfl, rfl⟩ (by kernel_rfl) rfl
    (fun f fn hf hfn => by
      obtain rfl : f = 8 := Option.some.inj ((show Tryz.prog.funcNamed Rows.planPlacesRow.func = some 8 by kernel_rfl).symm.trans hf) |>.symm
      obtain rfl : fn = Tryz.f8 := (Option.some.inj (Tryz.func8.symm.trans hfn)).symm
      exact ⟨by kernel_rfl, fun j t ht => by
        have hm : t ∈ Tryz.f8.params.toList := by simpa using Array.mem_of_getElem? ht
        have hall : (Tryz.f8.params.toList.all fun u => !Tryz.prog.wantsStandIn u) = true := by kernel_rfl
        exact (show Tryz.prog.wantsStandIn t = false by simpa using List.all_eq_true.1 hall t hm)⟩)
    (by kernel_rfl)
#print axioms planPlaces_card
end Go.Proofs.YtbffkkeieihpdaaGreatDoor
