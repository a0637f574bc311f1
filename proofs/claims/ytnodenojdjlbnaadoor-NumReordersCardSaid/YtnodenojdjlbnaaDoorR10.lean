/-
  NumReorders: THE ROW AND ITS CARD. Laid by a program of ours (gen_row2.py).
-/
import Derived.Test.YtnodenojdjlbnaaDoorLy
import Derived.Test.YtnodenojdjlbnaaDoorMd
import Derived.Test.YtnodenojdjlbnaaDoorL10
import Derived.Test.YtnodenojdjlbnaaDoorCards
import Derived.Test.YtnodenojdjlbnaaDoorTie
import Derived.SevenTiedAt
namespace Go.Proofs.YtnodenojdjlbnaaDoor
open Go Go.Eng Go.RowKit Go.ChangeShapes Go.WideShapes Go.ChangeAt

set_option maxRecDepth 100000 in
theorem lifted10 (os : Os) (started : os.Started) (H : Type) (enc : TypeId × Value → H) :
    ReturnsInHanded {} Tryd.checked os 10 .any (fun w args => (Rows.numReordersSpec.pre enc Tryd.prog Tryd.f10 [] false w args ∧ laidMetH Tryd.prog Rows.numReordersRow.laid w) ∧ sizedMet enc Tryd.prog Tryd.f10 (OpenSpec.ofChange Rows.numReordersSpec) false w args)
      (Rows.numReordersSpec.post enc Tryd.prog Tryd.f10 false true false false) := by
  refine returnsInHanded_of_change_and (C := Tryd.checked) (X := fun w _ => laidMetH Tryd.prog Rows.numReordersRow.laid w) (fun _ _ _ hh h => h.of_heap hh) (by kernel_rfl) started (by kernel_rfl) Tryd.func10
    (ChangeSpec.witness_shaped (enc := enc) (C := Tryd.checked) (os := os) (X := fun w _ => laidMetH Tryd.prog Rows.numReordersRow.laid w) false (World.doorLaid Tryd.prog 400 os) #[.slice none 0 0, .int .i64 0, .int .i64 0] 8 rfl (World.shaped_of_RefB (by kernel_rfl) (by kernel_rfl)) (by kernel_rfl) (by kernel_rfl) (by kernel_rfl)
      (laidMetH_of_parts3 (fuel := 8) (laidMet_of_run' 8 (by kernel_rfl) (by kernel_rfl)) (by kernel_rfl) (by kernel_rfl))) ?_
  intro W base args ds gs before hval0 hW _ hsz hL _
  have hval : ∀ (j : Nat) t v, Tryd.f10.params[j]? = some t → args[j]? = some v → Value.okWide Tryd.prog W .any base t v := hval0
  have hW' := hW
  obtain ⟨p, q, hA0, hV, rfl, hfz, hnd⟩ := hW
  have hA : DataW.TrodAll enc Tryd.prog W 0 (fun _ => true) true Tryd.f10.params.toList args.toList ds p := hA0
  obtain ⟨args⟩ := args
  rw [Tryd.params10] at hA hval
  simp only [] at hA
  obtain ⟨v0, vs0, d0, ds0, p0, q0, e0, e0_, e0__, h0, hA0⟩ := ChangeShapes.trodAll_cons hA
  obtain ⟨v1, vs1, d1, ds1, p1, q1, e1, e1_, e1__, h1, hA1⟩ := ChangeShapes.trodAll_cons hA0
  obtain ⟨v2, vs2, d2, ds2, p2, q2, e2, e2_, e2__, h2, hA2⟩ := ChangeShapes.trodAll_cons hA1
  obtain ⟨en, en_, en__⟩ := trodAll_nil hA2
  subst en en_ en__ e2 e2_ e2__ e1 e1_ e1__ e0 e0_ e0__
  obtain ⟨rfl, rfl⟩ := trodVars_none hV
  obtain ⟨ρ0, hp0, m0, a0, x0, le0, lh0, _, hb0, vr0, dec0, w0, ok0⟩ := open34r (hval 0 34 v0 rfl rfl) h0 (weights_of (ts := Tryd.f10.params.toList) hsz (j := 0) rfl rfl) (fun _ _ => none) (fun _ => none) 0 (Blks.nil W)
  obtain ⟨x1, rfl, _, _, w1⟩ := open_int Tryd.underlying3 (hval 1 3 v1 rfl rfl) h1
  obtain ⟨x2, rfl, _, _, w2⟩ := open_int Tryd.underlying2 (hval 2 2 v2 rfl rfl) h2
  have hc := law_calls tbl10_ok Tryd.func10 rfl (k := 3) (by kernel_rfl) (args := [.s a0 0 0 x0.length, ii x1, ii x2]) rfl (law10 x0 x1 x2 ok0 w0 (rng_of w1) (rng_of w2) a0 _ m0 (dec0) (fun i hi => (hb0.free i hi).2)) (ro_of2 (W := W) (S := [3]) (pf := pfL tbl10) hb0 fun g hg => by
    simp only [List.mem_cons, List.not_mem_nil, or_false] at hg
    rcases hg with rfl
    · exact at3 hL (by kernel_rfl) (by simp [Rows.numReordersRow])
    ) hb0.free (VRs_cons (vr0) (VRs_cons ((VR_I _ x1)) (VRs_cons ((VR_I _ x2)) (VRs_nil _))))
  refine hc.mono fun e W' ⟨he, hb⟩ => ⟨_, he, post_true hW' rfl (by kernel_rfl) rfl rfl hb⟩

theorem row10 : Rows.NumReordersSaid :=
  OpenClaim.holds_of_wide 10 Tryd.f10 rfl rfl rfl rfl rfl rfl rfl ⟨rfl, rfl, rfl, rfl, rfl⟩ rfl rfl rfl rfl rfl (by kernel_rfl) Tryd.func10 (by kernel_rfl)
    (of_decide_eq_true (by kernel_rfl)) (by unfold Func.isWrapper; first | (rw [if_pos (by decide +kernel)]; kernel_rfl) | (rw [if_neg (by decide +kernel)]; exact ⟨rfl, rfl⟩))
    (fun os started H enc _ => lifted10 os started H enc)

theorem numReorders_card : Rows.NumReordersCardSaid :=
  Claim7.holds_tied_plain_at .later [] [.data] true (true, "c7512263aaf8c12bdf5cdf26ca6fca04fd4238ee3038fe2c391042777b5cebf6") false
    row10 (fun _ h => by cases h) (by kernel_rfl) (fun _ h => by cases h) numReorders_row_tie rfl ⟨rfl, rfl⟩ (by kernel_rfl) rfl
    (fun f fn hf hfn => by
      obtain rfl : f = 10 := Option.some.inj ((show Tryd.prog.funcNamed Rows.numReordersRow.func = some 10 by kernel_rfl).symm.trans hf) |>.symm
      obtain rfl : fn = Tryd.f10 := (Option.some.inj (Tryd.func10.symm.trans hfn)).symm
      exact ⟨by kernel_rfl, fun j t ht => by
        have hm : t ∈ Tryd.f10.params.toList := by simpa using Array.mem_of_getElem? ht
        have hall : (Tryd.f10.params.toList.all fun u => !Tryd.prog.wantsStandIn u) = true := by kernel_rfl
        exact (show Tryd.prog.wantsStandIn t = false by simpa using List.all_eq_true.1 hall t hm)⟩)
    (by kernel_rfl)
#print axioms numReorders_card
end Go.Proofs.YtnodenojdjlbnaaDoor
