/-
  NumFirm: THE ROW AND ITS CARD. Laid by a program of ours (gen_row2.py).
-/
import Derived.Test.YtnodenojdjlbnaaDoorLy
import Derived.Test.YtnodenojdjlbnaaDoorLz
import Derived.Test.YtnodenojdjlbnaaDoorL15
import Derived.Test.YtnodenojdjlbnaaDoorCards
import Derived.Test.YtnodenojdjlbnaaDoorTie
import Derived.SevenTiedAt
namespace Go.Proofs.YtnodenojdjlbnaaDoor
open Go Go.Eng Go.RowKit Go.ChangeShapes Go.WideShapes Go.ChangeAt

set_option maxRecDepth 100000 in
theorem lifted15 (os : Os) (started : os.Started) (H : Type) (enc : TypeId × Value → H) :
    ReturnsInHanded {} Tryd.checked os 15 .any (fun w args => (Rows.numFirmSpec.pre enc Tryd.prog Tryd.f15 [] false w args ∧ laidMetH Tryd.prog Rows.numFirmRow.laid w) ∧ sizedMet enc Tryd.prog Tryd.f15 (OpenSpec.ofChange Rows.numFirmSpec) false w args)
      (Rows.numFirmSpec.post enc Tryd.prog Tryd.f15 false true false false) := by
  refine returnsInHanded_of_change_and (C := Tryd.checked) (X := fun w _ => laidMetH Tryd.prog Rows.numFirmRow.laid w) (fun _ _ _ hh h => h.of_heap hh) (by kernel_rfl) started (by kernel_rfl) Tryd.func15
    (ChangeSpec.witness_shaped (enc := enc) (C := Tryd.checked) (os := os) (X := fun w _ => laidMetH Tryd.prog Rows.numFirmRow.laid w) false (World.doorLaid Tryd.prog 400 os) #[.slice none 0 0, .slice none 0 0] 8 rfl (World.shaped_of_RefB (by kernel_rfl) (by kernel_rfl)) (by kernel_rfl) (by kernel_rfl) (by kernel_rfl)
      (laidMetH_of_parts3 (fuel := 8) (laidMet_of_run' 8 (by kernel_rfl) (by kernel_rfl)) (by kernel_rfl) (by kernel_rfl))) ?_
  intro W base args ds gs before hval0 hW _ hsz hL _
  have hval : ∀ (j : Nat) t v, Tryd.f15.params[j]? = some t → args[j]? = some v → Value.okWide Tryd.prog W .any base t v := hval0
  have hW' := hW
  obtain ⟨p, q, hA0, hV, rfl, hfz, hnd⟩ := hW
  have hA : DataW.TrodAll enc Tryd.prog W 0 (fun _ => true) true Tryd.f15.params.toList args.toList ds p := hA0
  obtain ⟨args⟩ := args
  rw [Tryd.params15] at hA hval
  simp only [] at hA
  obtain ⟨v0, vs0, d0, ds0, p0, q0, e0, e0_, e0__, h0, hA0⟩ := ChangeShapes.trodAll_cons hA
  obtain ⟨v1, vs1, d1, ds1, p1, q1, e1, e1_, e1__, h1, hA1⟩ := ChangeShapes.trodAll_cons hA0
  obtain ⟨en, en_, en__⟩ := trodAll_nil hA1
  subst en en_ en__ e1 e1_ e1__ e0 e0_ e0__
  obtain ⟨rfl, rfl⟩ := trodVars_none hV
  obtain ⟨ρ0, hp0, m0, a0, x0, le0, lh0, _, hb0, vr0, dec0, w0, ok0⟩ := open41r (hval 0 41 v0 rfl rfl) h0 (weights_of (ts := Tryd.f15.params.toList) hsz (j := 0) rfl rfl) (fun _ _ => none) (fun _ => none) 0 (Blks.nil W)
  obtain ⟨ρ1, hp1, m1, a1, x1, le1, lh1, _, hb1, vr1, dec1, w1, ok1⟩ := open42r (hval 1 42 v1 rfl rfl) h1 (weights_of (ts := Tryd.f15.params.toList) hsz (j := 1) rfl rfl) ρ0 hp0 m0 hb0
  have hc := law_calls tbl15_ok Tryd.func15 rfl (k := 2) (by kernel_rfl) (args := [.s a0 0 0 x0.length, .s a1 0 0 x1.length]) rfl (law15 x0 x1 ok0 w0 ok1 w1 a0 a1 _ m1 (mono41r lh1 (dec0)) (dec1) (fun i hi => (hb1.free i hi).2)) (ro_of2 (W := W) (S := [0, 1, 2, 3, 4, 5]) (pf := pfL tbl15) hb1 fun g hg => by
    simp only [List.mem_cons, List.not_mem_nil, or_false] at hg
    rcases hg with rfl | rfl | rfl | rfl | rfl | rfl
    · exact at0 hL (by kernel_rfl) (by simp [Rows.numFirmRow])
    · exact at1 hL (by kernel_rfl) (by simp [Rows.numFirmRow])
    · exact at2 hL (by kernel_rfl) (by simp [Rows.numFirmRow])
    · exact at3 hL (by kernel_rfl) (by simp [Rows.numFirmRow])
    · exact at4 hL (by kernel_rfl) (by simp [Rows.numFirmRow])
    · exact at5 hL (by kernel_rfl) (by simp [Rows.numFirmRow])
    ) hb1.free (VRs_cons (VR.mono le1 _ _ (vr0)) (VRs_cons (vr1) (VRs_nil _)))
  refine hc.mono fun e W' ⟨he, hb⟩ => ⟨_, he, post_true hW' rfl (by kernel_rfl) rfl rfl hb⟩

theorem row15 : Rows.NumFirmSaid :=
  OpenClaim.holds_of_wide 15 Tryd.f15 rfl rfl rfl rfl rfl rfl rfl ⟨rfl, rfl, rfl, rfl, rfl⟩ rfl rfl rfl rfl rfl (by kernel_rfl) Tryd.func15 (by kernel_rfl)
    (of_decide_eq_true (by kernel_rfl)) (by unfold Func.isWrapper; first | (rw [if_pos (by decide +kernel)]; kernel_rfl) | (rw [if_neg (by decide +kernel)]; exact ⟨rfl, rfl⟩))
    (fun os started H enc _ => lifted15 os started H enc)

theorem numFirm_card : Rows.NumFirmCardSaid :=
  Claim7.holds_tied_plain_at .later [] [.data, .data, .data, .data, .data, .data] true (true, "c7512263aaf8c12bdf5cdf26ca6fca04fd4238ee3038fe2c391042777b5cebf6") false
    row15 (fun _ h => by cases h) (by kernel_rfl) (fun _ h => by cases h) numFirm_row_tie rfl ⟨rfl, rfl⟩ (by kernel_rfl) rfl
    (fun f fn hf hfn => by
      obtain rfl : f = 15 := Option.some.inj ((show Tryd.prog.funcNamed Rows.numFirmRow.func = some 15 by kernel_rfl).symm.trans hf) |>.symm
      obtain rfl : fn = Tryd.f15 := (Option.some.inj (Tryd.func15.symm.trans hfn)).symm
      exact ⟨by kernel_rfl, fun j t ht => by
        have hm : t ∈ Tryd.f15.params.toList := by simpa using Array.mem_of_getElem? ht
        have hall : (Tryd.f15.params.toList.all fun u => !Tryd.prog.wantsStandIn u) = true := by kernel_rfl
        exact (show Tryd.prog.wantsStandIn t = false by simpa using List.all_eq_true.1 hall t hm)⟩)
    (by kernel_rfl)
#print axioms numFirm_card
end Go.Proofs.YtnodenojdjlbnaaDoor
