/-
  NumRing: THE ROW AND ITS CARD. Laid by a program of ours (gen_row.py).
-/
import Derived.Test.YtnodenojdjlbnaaDoorLx
import Derived.Test.YtnodenojdjlbnaaDoorL13
import Derived.Test.YtnodenojdjlbnaaDoorCards
import Derived.Test.YtnodenojdjlbnaaDoorTie
import Derived.SevenTiedAt
namespace Go.Proofs.YtnodenojdjlbnaaDoor
open Go Go.Eng Go.RowKit Go.ChangeShapes Go.WideShapes Go.ChangeAt

set_option maxRecDepth 100000 in
theorem lifted13 (os : Os) (started : os.Started) (H : Type) (enc : TypeId × Value → H) :
    ReturnsInHanded {} Tryd.checked os 13 .any (fun w args => (Rows.numRingSpec.pre enc Tryd.prog Tryd.f13 [] false w args ∧ laidMetH Tryd.prog Rows.numRingRow.laid w) ∧ sizedMet enc Tryd.prog Tryd.f13 (OpenSpec.ofChange Rows.numRingSpec) false w args)
      (Rows.numRingSpec.post enc Tryd.prog Tryd.f13 false true false false) := by
  refine returnsInHanded_of_change_and (C := Tryd.checked) (X := fun w _ => laidMetH Tryd.prog Rows.numRingRow.laid w) (fun _ _ _ hh h => h.of_heap hh) (by kernel_rfl) started (by kernel_rfl) Tryd.func13
    (ChangeSpec.witness_shaped (enc := enc) (C := Tryd.checked) (os := os) (X := fun w _ => laidMetH Tryd.prog Rows.numRingRow.laid w) false (World.doorLaid Tryd.prog 400 os) #[.agg #[.bool false, .int .i64 0], .agg #[.bool false, .int .i64 0], .agg #[.bool false, .int .i64 0]] 8 rfl (World.shaped_of_RefB (by kernel_rfl) (by kernel_rfl)) (by kernel_rfl) (by kernel_rfl) (by kernel_rfl)
      (laidMetH_of_parts3 (fuel := 8) (laidMet_of_run' 8 (by kernel_rfl) (by kernel_rfl)) (by kernel_rfl) (by kernel_rfl))) ?_
  intro W base args ds gs before hval0 hW _ hsz hL _
  have hval : ∀ (j : Nat) t v, Tryd.f13.params[j]? = some t → args[j]? = some v → Value.okWide Tryd.prog W .any base t v := hval0
  have hW' := hW
  obtain ⟨p, q, hA0, hV, rfl, hfz, hnd⟩ := hW
  have hA : DataW.TrodAll enc Tryd.prog W 0 (fun _ => true) true Tryd.f13.params.toList args.toList ds p := hA0
  rw [Tryd.params13] at hA hval
  obtain ⟨v0, v1, v2, d0, d1, d2, p0, p1, p2, rfl, rfl, rfl, h0, h1, h2⟩ := trodAll_three hA
  obtain ⟨rfl, rfl⟩ := trodVars_none hV
  obtain ⟨a0, rfl, w0⟩ := open_V (hval 0 23 v0 rfl rfl) h0
  obtain ⟨a1, rfl, w1⟩ := open_V (hval 1 23 v1 rfl rfl) h1
  obtain ⟨a2, rfl, w2⟩ := open_V (hval 2 23 v2 rfl rfl) h2
  have hc := law_calls tbl13_ok Tryd.func13 rfl (k := 3) (by kernel_rfl) (args := [vv a0, vv a1, vv a2]) rfl (law13 a0 a1 a2 (rng_of w0) (rng_of w1) (rng_of w2) _ 0) (ro_of (W := W) (S := [3]) (pf := pfL tbl13) fun g hg => by
    simp only [List.mem_cons, List.not_mem_nil, or_false] at hg
    rcases hg with rfl
    · exact at3 hL (by kernel_rfl) (by simp [Rows.numRingRow])
    ) (fun j _ => ⟨fun _ => rfl, rfl⟩) (vs := [.agg #[.bool a0.k, .int .i64 a0.n], .agg #[.bool a1.k, .int .i64 a1.n], .agg #[.bool a2.k, .int .i64 a2.n]]) (by simp only [VRs]; exact ⟨_, _, rfl, VR_V _ a0, ⟨_, _, rfl, VR_V _ a1, ⟨_, _, rfl, VR_V _ a2, rfl⟩⟩⟩)
  refine hc.mono fun e W' ⟨he, hb⟩ => ⟨_, he, post_true hW' rfl (by kernel_rfl) rfl rfl hb⟩

theorem row13 : Rows.NumRingSaid :=
  OpenClaim.holds_of_wide 13 Tryd.f13 rfl rfl rfl rfl rfl rfl rfl ⟨rfl, rfl, rfl, rfl, rfl⟩ rfl rfl rfl rfl rfl (by kernel_rfl) Tryd.func13 (by kernel_rfl)
    (of_decide_eq_true (by kernel_rfl)) (by unfold Func.isWrapper; first | (rw [if_pos (by decide +kernel)]; kernel_rfl) | (rw [if_neg (by decide +kernel)]; exact ⟨rfl, rfl⟩))
    (fun os started H enc _ => lifted13 os started H enc)

theorem numRing_card : Rows.NumRingCardSaid :=
  Claim7.holds_tied_plain_at .later [] [.data] true (true, "c7512263aaf8c12bdf5cdf26ca6fca04fd4238ee3038fe2c391042777b5cebf6") false
    row13 (fun _ h => by cases h) (by kernel_rfl) (fun _ h => by cases h) numRing_row_tie rfl ⟨rfl, rfl⟩ (by kernel_rfl) rfl
    (fun f fn hf hfn => by
      obtain rfl : f = 13 := Option.some.inj ((show Tryd.prog.funcNamed Rows.numRingRow.func = some 13 by kernel_rfl).symm.trans hf) |>.symm
      obtain rfl : fn = Tryd.f13 := (Option.some.inj (Tryd.func13.symm.trans hfn)).symm
      exact ⟨by kernel_rfl, fun j t ht => by
        have hm : t ∈ Tryd.f13.params.toList := by simpa using Array.mem_of_getElem? ht
        have hall : (Tryd.f13.params.toList.all fun u => !Tryd.prog.wantsStandIn u) = true := by kernel_rfl
        exact (show Tryd.prog.wantsStandIn t = false by simpa using List.all_eq_true.1 hall t hm)⟩)
    (by kernel_rfl)
#print axioms numRing_card
end Go.Proofs.YtnodenojdjlbnaaDoor
