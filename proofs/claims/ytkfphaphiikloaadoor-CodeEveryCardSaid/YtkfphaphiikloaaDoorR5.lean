/-
  CodeEvery: every condition is decided as the document says: THE ROW AND ITS CARD.
-/
import Derived.Test.YtkfphaphiikloaaDoorLq
import Derived.Test.YtkfphaphiikloaaDoorL5
import Derived.Test.YtkfphaphiikloaaDoorCq
import Derived.Test.YtkfphaphiikloaaDoorCt
import Derived.Test.YtkfphaphiikloaaDoorCards
import Derived.Test.YtkfphaphiikloaaDoorTie
import Derived.SevenTiedAt
set_option linter.unusedSimpArgs false
set_option linter.unusedVariables false
set_option linter.constructorNameAsVariable false
namespace Go.Proofs.YtkfphaphiikloaaDoor
open Go Go.Eng Go.RowKit Go.ChangeShapes Go.WideShapes Go.ChangeAt

set_option maxRecDepth 100000 in
theorem lifted5 (os : Os) (started : os.Started) (H : Type) (enc : TypeId × Value → H) :
    ReturnsInHanded {} Tryd.checked os 5 .any (fun w args => (Rows.codeEverySpec.pre enc Tryd.prog Tryd.f5 [] false w args ∧ laidMetH Tryd.prog Rows.codeEveryRow.laid w) ∧ sizedMet enc Tryd.prog Tryd.f5 (OpenSpec.ofChange Rows.codeEverySpec) false w args)
      (Rows.codeEverySpec.post enc Tryd.prog Tryd.f5 false true false false) := by
  refine returnsInHanded_of_change_and (C := Tryd.checked) (X := fun w _ => laidMetH Tryd.prog Rows.codeEveryRow.laid w) (fun _ _ _ hh h => h.of_heap hh) (by kernel_rfl) started (by kernel_rfl) Tryd.func5
    (ChangeSpec.witness_shaped (enc := enc) (C := Tryd.checked) (os := os) (X := fun w _ => laidMetH Tryd.prog Rows.codeEveryRow.laid w) false (World.doorLaid Tryd.prog 400 os) #[.agg #[.slice none 0 0, .slice none 0 0, .int .i64 0, .bool false], .slice none 0 0] 8 rfl (World.shaped_of_RefB (by kernel_rfl) (by kernel_rfl)) (by kernel_rfl) (by kernel_rfl) (by kernel_rfl)
      (laidMetH_of_parts3 (fuel := 8) (laidMet_of_run' 8 (by kernel_rfl) (by kernel_rfl)) (by kernel_rfl) (by kernel_rfl))) ?_
  intro W base args ds gs before hval0 hW _ hsz hL _
  have hval : ∀ (j : Nat) t v, Tryd.f5.params[j]? = some t → args[j]? = some v → Value.okWide Tryd.prog W .any base t v := hval0
  have hW' := hW
  obtain ⟨p, q, hA0, hV, rfl, hfz, hnd⟩ := hW
  have hA : DataW.TrodAll enc Tryd.prog W 0 (fun _ => true) true Tryd.f5.params.toList args.toList ds p := hA0
  obtain ⟨args⟩ := args
  rw [Tryd.params5] at hA hval
  simp only [] at hA
  obtain ⟨v0, vs0, d0, ds0, p0, q0, e0, e0_, e0__, h0, hA0⟩ := ChangeShapes.trodAll_cons hA
  obtain ⟨v1, vs1, d1, ds1, p1, q1, e1, e1_, e1__, h1, hA1⟩ := ChangeShapes.trodAll_cons hA0
  obtain ⟨en, en_, en__⟩ := trodAll_nil hA1
  subst en en_ en__ e1 e1_ e1__ e0 e0_ e0__
  obtain ⟨rfl, rfl⟩ := trodVars_none hV
  obtain ⟨ρ0, hp0, m0, l0, x0, le0, lh0, _, hb0, vr0, dec0, ok0⟩ := open_agg opens_64 Tryd.underlying64 (hval 0 64 v0 rfl rfl) h0 (weights_of (ts := Tryd.f5.params.toList) hsz (j := 0) rfl rfl) (fun _ _ => none) (fun _ => none) 0 (Blks.nil W)
  obtain ⟨ρ1, hp1, m1, a1, x1, le1, lh1, _, hb1, vr1, dec1, ok1⟩ := open_cell opens_47 Tryd.underlying47 (.inr (.inr (.inr ⟨_, rfl⟩))) (hval 1 47 v1 rfl rfl) h1 (weights_of (ts := Tryd.f5.params.toList) hsz (j := 1) rfl rfl) ρ0 hp0 m0 hb0
  obtain ⟨pa, pb, rfl, k1, k2⟩ := dCd_out dec0
  have hc := law_calls (tbl5_ok P29 P30) Tryd.func5 rfl (k := 2) (by kernel_rfl) (args := [.g [pa, pb, .v (.int .i64 x0.each), .v (.bool x0.prev)], a1]) rfl (law5 (c := x0) (ls := x1) (h := hp1) (n := m1) (rd_mono lh1 k1) (rd_mono lh1 k2) dec1 (w5_of ok0.1 ok0.2 ok1.1 ok1.2) (fun i hi => (hb1.free i hi).2)) (ro_of2 (W := W) (S := S29) (pf := pfL tbl5) hb1 fun g hg => by
    simp only [S29, List.mem_cons, List.not_mem_nil, or_false] at hg
    rcases hg with rfl | rfl | rfl | rfl | rfl | rfl | rfl
    · exact at0 hL (by kernel_rfl) (by simp [Rows.codeEveryRow])
    · exact at1 hL (by kernel_rfl) (by simp [Rows.codeEveryRow])
    · exact at2 hL (by kernel_rfl) (by simp [Rows.codeEveryRow])
    · exact at3 hL (by kernel_rfl) (by simp [Rows.codeEveryRow])
    · exact at4 hL (by kernel_rfl) (by simp [Rows.codeEveryRow])
    · exact at5 hL (by kernel_rfl) (by simp [Rows.codeEveryRow])
    · exact at6 hL (by kernel_rfl) (by simp [Rows.codeEveryRow])
    ) hb1.free (VRs_cons (VR.mono le1 _ _ vr0) (VRs_cons vr1 (VRs_nil _)))
  refine hc.mono fun e W' ⟨he, hb⟩ => ⟨_, he, post_true hW' rfl (by kernel_rfl) rfl rfl hb⟩

theorem row5 : Rows.CodeEverySaid :=
  OpenClaim.holds_of_wide 5 Tryd.f5 rfl rfl rfl rfl rfl rfl rfl ⟨rfl, rfl, rfl, rfl, rfl⟩ rfl rfl rfl rfl rfl (by kernel_rfl) Tryd.func5 (by kernel_rfl)
    (of_decide_eq_true (by kernel_rfl)) (by unfold Func.isWrapper; first | (rw [if_pos (by decide +kernel)]; kernel_rfl) | (rw [if_neg (by decide +kernel)]; exact ⟨rfl, rfl⟩))
    (fun os started H enc _ => lifted5 os started H enc)

theorem codeEvery_card : Rows.CodeEveryCardSaid :=
  Claim7.holds_tied_plain_at .later [] [.data, .data, .data, .data, .data, .data, .data] true (true, "7268a66df8f3d9c3319583cb0c5c8d1dc7489b957e019c3a90e18d72b597e655") false
    row5 (fun _ h => by cases h) (by kernel_rfl) (fun _ h => by cases h) codeEvery_row_tie rfl ⟨rfl, rfl⟩ (by kernel_rfl) rfl
    (fun f fn hf hfn => by
      obtain rfl : f = 5 := Option.some.inj ((show Tryd.prog.funcNamed Rows.codeEveryRow.func = some 5 by kernel_rfl).symm.trans hf) |>.symm
      obtain rfl : fn = Tryd.f5 := (Option.some.inj (Tryd.func5.symm.trans hfn)).symm
      exact ⟨by kernel_rfl, fun j t ht => by
        have hm : t ∈ Tryd.f5.params.toList := by simpa using Array.mem_of_getElem? ht
        have hall : (Tryd.f5.params.toList.all fun u => !Tryd.prog.wantsStandIn u) = true := by kernel_rfl
        exact (show Tryd.prog.wantsStandIn t = false by simpa using List.all_eq_true.1 hall t hm)⟩)
    (by kernel_rfl)
#print axioms codeEvery_card
end Go.Proofs.YtkfphaphiikloaaDoor
