/-
  PlanEarly: THE ROW AND ITS CARD, the end.
-/
import Derived.Test.YtbffkkeieihpdaaGreatDoorE39
set_option linter.unusedSimpArgs false
set_option linter.unusedVariables false
set_option linter.constructorNameAsVariable false
namespace Go.Proofs.YtbffkkeieihpdaaGreatDoor
open Go Go.Eng Go.RowKit Go.ChangeShapes Go.WideShapes Go.ChangeAt

set_option maxRecDepth 100000 in
set_option maxHeartbeats 4000000 in
theorem closed11 : joinedFacts Tryz.pinned.checked.prog 11 Tryz.f11 Rows.planEarlySpec Rows.planEarlyRow = true := by
  simp only [joinedFacts, zO]
  repeat' apply And.intro
  all_goals (as_aux_lemma => kernel_rfl)
theorem row11 : Rows.PlanEarlySaid :=
  OpenClaim.holds_of_wide 11 Tryz.f11 rfl rfl rfl rfl rfl rfl rfl ⟨rfl, rfl, rfl, rfl, rfl⟩ rfl rfl rfl rfl rfl (by kernel_rfl) Tryz.func11 closed11
    (of_decide_eq_true (by kernel_rfl)) (by unfold Func.isWrapper; first | (rw [if_pos (by decide +kernel)]; kernel_rfl) | (rw [if_neg (by decide +kernel)]; exact ⟨rfl, rfl⟩))
    (fun os started H enc _ => yBt os started H enc)

theorem planEarly_card : Rows.PlanEarlyCardSaid :=
  Claim7.holds_tied_plain_at .later [] [.data, .data, .data, .data, .data, .data, .data, .data] true (true, "e05e32637377b3c79268a20145a1c8629d209c5c3aff5aa1ea58331ee1f0ed2f") false
    row11 (fun _ h => by cases h) (by kernel_rfl) (fun _ h => by cases h) planEarly_row_tie rfl ⟨rfl, rfl⟩ (by kernel_rfl) rfl
    (fun f fn hf hfn => by
      obtain rfl : f = 11 := Option.some.inj ((show Tryz.prog.funcNamed Rows.planEarlyRow.func = some 11 by kernel_rfl).symm.trans hf) |>.symm
      obtain rfl : fn = Tryz.f11 := (Option.some.inj (Tryz.func11.symm.trans hfn)).symm
      exact ⟨by kernel_rfl, fun j t ht => by
        have hm : t ∈ Tryz.f11.params.toList := by simpa using Array.mem_of_getElem? ht
        have hall : (Tryz.f11.params.toList.all fun u => !Tryz.prog.wantsStandIn u) = true := by kernel_rfl
        exact (show Tryz.prog.wantsStandIn t = false by simpa using zR.1 hall t hm)⟩)
    (by kernel_rfl)
#print axioms planEarly_card
end Go.Proofs.YtbffkkeieihpdaaGreatDoor
