/-
  PlanWhere: THE ROW AND ITS CARD, the end.
-/
import Derived.Test.YtbffkkeieihpdaaGreatDoorX41
set_option linter.unusedSimpArgs false
set_option linter.unusedVariables false
set_option linter.constructorNameAsVariable false
namespace Go.Proofs.YtbffkkeieihpdaaGreatDoor
open Go Go.Eng Go.RowKit Go.ChangeShapes Go.WideShapes Go.ChangeAt

set_option maxRecDepth 100000 in
set_option maxHeartbeats 4000000 in
theorem closed13 : joinedFacts Tryz.pinned.checked.prog 13 Tryz.f13 Rows.planWhereSpec Rows.planWhereRow = true := by
  simp only [joinedFacts, zH]
  repeat' apply And.intro
  all_goals (as_aux_lemma => kernel_rfl)
theorem row13 : Rows.PlanWhereSaid :=
  OpenClaim.holds_of_wide 13 Tryz.f13 rfl rfl rfl rfl rfl rfl rfl ⟨rfl, rfl, rfl, rfl, rfl⟩ rfl rfl rfl rfl rfl (by kernel_rfl) Tryz.func13 closed13
    (of_decide_eq_true (by kernel_rfl)) (by unfold Func.isWrapper; first | (rw [if_pos (by decide +kernel)]; kernel_rfl) | (rw [if_neg (by decide +kernel)]; exact ⟨rfl, rfl⟩))
    (fun os started H enc _ => yDz os started H enc)

theorem planWhere_card : Rows.PlanWhereCardSaid :=
  Claim7.holds_tied_plain_at .later [] [.data, .data, .data, .data, .data, .data, .data, .data] true (true, "e05e32637377b3c79268a20145a1c8629d209c5c3aff5aa1ea58331ee1f0ed2f") false
    row13 (fun _ h => by cases h) (by kernel_rfl) (fun _ h => by cases h) planWhere_row_tie rfl ⟨rfl, rfl⟩ (by kernel_rfl) rfl
    (fun f fn hf hfn => by
      obtain rfl : f = 13 := Option.some.inj ((show Tryz.prog.funcNamed Rows.planWhereRow.func = some 13 by kernel_rfl).symm.trans hf) |>.symm
      obtain rfl : fn = Tryz.f13 := (Option.some.inj (Tryz.func13.symm.trans hfn)).symm
      exact ⟨by kernel_rfl, fun j t ht => by
        have hm : t ∈ Tryz.f13.params.toList := by simpa using Array.mem_of_getElem? ht
        have hall : (Tryz.f13.params.toList.all fun u => !Tryz.prog.wantsStandIn u) = true := by kernel_rfl
        exact (show Tryz.prog.wantsStandIn t = false by simpa using zJ.1 hall t hm)⟩)
    (by kernel_rfl)
#print axioms planWhere_card
end Go.Proofs.YtbffkkeieihpdaaGreatDoor
