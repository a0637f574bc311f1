/-
  NumRuns: THE ROW AND ITS CARD. Laid by a program of ours (gen_row2.py).
-/
import Derived.Test.YtnodenojdjlbnaaDoorLy
import Derived.Test.YtnodenojdjlbnaaDoorLz
import Derived.Test.YtnodenojdjlbnaaDoorL16
import Derived.Test.YtnodenojdjlbnaaDoorCards
import Derived.Test.YtnodenojdjlbnaaDoorTie
import Derived.SevenTiedAt
namespace Go.Proofs.YtnodenojdjlbnaaDoor
open Go Go.Eng Go.RowKit Go.ChangeShapes Go.WideShapes Go.ChangeAt

set_option maxRecDepth 100000 in
theorem lifted16 (os : Os) (started : os.Started) (H : Type) (enc : TypeId × Value → H) :
    ReturnsInHanded {} Tryd.checked os 16 .any (fun w args => (Rows.numRunsSpec.pre enc Tryd.prog Tryd.f16 [] false w args ∧ laidMetH Tryd.prog Rows.numRunsRow.laid w) ∧ sizedMet enc Tryd.prog Tryd.f16 (OpenSpec.ofChange Rows.numRunsSpec) false w args)
      (Rows.numRunsSpec.post enc Tryd.prog Tryd.f16 false true false false) := by
  refine returnsInHanded_of_change_and (C := Tryd.checked) (X := fun w _ => laidMetH Tryd.prog Rows.numRunsRow.laid w) (fun _ _ _ hh h => h.of_heap hh) (by kernel_rfl) started (by kernel_rfl) Tryd.func16
    (ChangeSpec.witness_shaped (enc := enc) (C := Tryd.checked) (os := os) (X := fun w _ => laidMetH Tryd.prog Rows.numRunsRow.laid w) false (World.doorLaid Tryd.prog 400 os) #[.slice none 0 0] 8 rfl (World.shaped_of_RefB (by kernel_rfl) (by kernel_rfl)) (by kernel_rfl) (by kernel_rfl) (by kernel_rfl)
      (laidMetH_of_parts3 (fuel := 8) (laidMet_of_run' 8 (by kernel_rfl) (by kernel_rfl)) (by kernel_rfl) (by kernel_rfl))) ?_
  intro W base args ds gs before hval0 hW _ hsz hL _
  have hval : ∀ (j : Nat) t v, Tryd.f16.params[j]? = some t → args[j]? = some v → Value.okWide Tryd.prog W .any base t v := hval0
  have hW' := hW
  obtain ⟨p, q, hA0, hV, rfl, hfz, hnd⟩ := hW
  have hA : DataW.TrodAll enc Tryd.prog W 0 (fun _ => true) true Tryd.f16.params.toList args.toList ds p := hA0
  obtain ⟨args⟩ := args
  rw [Tryd.params16] at hA hval
  simp only [] at hA
  obtain ⟨v0, vs0, d0, ds0, p0, q0, e0, e0_, e0__, h0, hA0⟩ := ChangeShapes.trodAll_cons hA
  obtain ⟨en, en_, en__⟩ := trodAll_nil hA0
  subst en en_ en__ e0 e0_ e0__
  obtain ⟨rfl, rfl⟩ := trodVars_none hV
  obtain ⟨ρ0, hp0, m0, a0, x0, le0, lh0, _, hb0, vr0, dec0, w0, ok0⟩ := open41r (hval 0 41 v0 rfl rfl) h0 (weights_of (ts := Tryd.f16.params.toList) hsz (j := 0) rfl rfl) (fun _ _ => none) (fun _ => none) 0 (Blks.nil W)
  have hc := law_calls tbl16_ok Tryd.func16 rfl (k := 1) (by kernel_rfl) (args := [.s a0 0 0 x0.length]) rfl (law16 x0 ok0 w0 a0 _ m0 (dec0) (fun i hi => (hb0.free i hi).2)) (ro_of2 (W := W) (S := [0, 1, 2, 3, 4, 5]) (pf := pfL tbl16) hb0 fun g hg => by
    simp only [List.mem_cons, List.not_mem_nil, or_false] at hg
    rcases hg with rfl | rfl | rfl | rfl | rfl | rfl
    · exact at0 hL (by kernel_rfl) (by simp [Rows.numRunsRow])
    · exact at1 hL (by kernel_rfl) (by simp [Rows.numRunsRow])
    · exact at2 hL (by kernel_rfl) (by simp [Rows.numRunsRow])
    · exact at3 hL (by kernel_rfl) (by simp [Rows.numRunsRow])
    · exact at4 hL (by kernel_rfl) (by simp [Rows.numRunsRow])
    · exact at5 hL (by kernel_rfl) (by simp [Rows.numRunsRow])
    ) hb0.free (VRs_cons (vr0) (VRs_nil _))
  refine hc.mono fun e W' ⟨he, hb⟩ => ⟨_, he, post_true hW' rfl (by kernel_rfl) rfl rfl hb⟩

theorem row16 : Rows.NumRunsSaid :=
  OpenClaim.holds_of_wide 16 Tryd.f16 rfl rfl rfl rfl rfl rfl rfl ⟨rfl, rfl, rfl, rfl, rfl⟩ rfl rfl rfl rfl rfl (by kernel_rfl) Tryd.func16 (by kernel_rfl)
    (of_decide_eq_true (by kernel_rfl)) (by unfold Func.isWrapper; first | (rw [if_pos (by decide +kernel)]; kernel_rfl) | (rw [if_neg (by decide +kernel)]; exact ⟨rfl, rfl⟩))
    (fun os started H enc _ => lifted16 os started H enc)

theorem numRuns_card : Rows.NumRunsCardSaid :=
  Claim7.holds_tied_plain_at .later [] [.data, .data, .data, .data, .data, .data] true (true, "c7512263aaf8c12bdf5cdf26ca6fca04fd4238ee3038fe2c391042777b5cebf6") false
    row16 (fun _ h => by cases h) (by kernel_rfl) (fun _ h => by cases h) numRuns_row_tie rfl ⟨rfl, rfl⟩ (by kernel_rfl) rfl
    (fun f fn hf hfn => by
      obtain rfl : f = 16 := Option.some.inj ((show Tryd.prog.funcNamed Rows.numRunsRow.func = some 16 by kernel_rfl).symm.trans hf) |>.symm
      obtain rfl : fn = Tryd.f16 := (Option.some.inj (Tryd.func16.symm.trans hfn)).symm
      exact ⟨by kernel_rfl, fun j t ht => by
        have hm : t ∈ Tryd.f16.params.toList := by simpa using Array.mem_of_getElem? ht
        have hall : (Tryd.f16.params.toList.all fun u => !Tryd.prog.wantsStandIn u) = true := by kernel_rfl
        exact (show Tryd.prog.wantsStandIn t = false by simpa using List.all_eq_true.1 hall t hm)⟩)
    (by kernel_rfl)
#print axioms numRuns_card
end Go.Proofs.YtnodenojdjlbnaaDoor
