/-
  THE ROWS OF THIS SEAT, WHAT THEY SHARE: conditions among the arguments.
-/
import Derived.Test.YtkfphaphiikloaaDoorLz
import Derived.Test.YtkfphaphiikloaaDoorCv
set_option linter.unusedSimpArgs false
set_option linter.unusedVariables false
set_option linter.constructorNameAsVariable false
set_option linter.unusedSimpArgs false
namespace Go.Proofs.YtkfphaphiikloaaDoor
open Go Go.Eng Go.RowKit Go.ChangeShapes Go.WideShapes Go.Joins

/-- A condition. -/
def dCd : De Cd where
  run h l := match l with
    | [a, b, .v (.int .i64 e), .v (.bool v)] => match rd dPs h a, rd dIss h b with
      | some x, some y => some ⟨⟨x, y⟩, e, v⟩
      | _, _ => none
    | _ => none
  sim {h h' l x} hh e := by
    split at e
    · split at e
      · rename_i e1 e2
        cases e
        simp only [rd_sim hh e1, rd_sim hh e2]
      · cases e
    · cases e
theorem dCd_out {h : Heap} {l : List AV} {c : Cd} (e : dCd.run h l = some c) : ∃ a b, l = [a, b, .v (.int .i64 c.each), .v (.bool c.prev)] ∧ rd dPs h a = some c.p.code ∧ rd dIss h b = some c.p.cols := by
  simp only [dCd] at e
  split at e
  · rename_i a b x v
    split at e
    · rename_i e1 e2
      cases e
      exact ⟨a, b, rfl, e1, e2⟩
    · cases e
  · cases e
theorem bool_flat : ∀ (h : Heap) (l : List AV) (x : Bool), De.bool.run h l = some x → l = [.v (.bool x)] := fun h l x e => by
  simp only [De.bool] at e
  split at e
  · cases e; rfl
  · cases e
theorem opens_4 : Opens Tryd.prog 4 De.bool fun _ => True := Opens.bool Tryd.underlying4
theorem opens_64 : Opens Tryd.prog 64 dCd fun c => PrOk0 c.p ∧ Rng c.each := by
  refine Opens.conv (Opens.struct Tryd.underlying64 (tot := 4) (by kernel_rfl) (OpensF.cons rfl (n := 2) (by kernel_rfl) (by decide) opens_40 (OpensF.cons rfl (n := 1) (by kernel_rfl) (by decide) opens_i (OpensF.one rfl (by kernel_rfl) opens_4)))) fun h l x e ok => ?_
  obtain ⟨e1, e2⟩ := pair_run e
  have hl2 := pair_flat (int_flat .i64) bool_flat h _ _ e2
  obtain ⟨a, b, ha, k1, k2⟩ := dPr_out e1
  have hl : l = [a, b, ii x.2.1, .v (.bool x.2.2)] := by rw [← List.take_append_drop 2 l, ha, hl2]; rfl
  exact ⟨⟨x.1, x.2.1, x.2.2⟩, by rw [hl]; simp only [dCd, ii, k1, k2], ok.1, rng_of ok.2.1⟩
theorem w5_of {c : Cd} {ls : List (List Ev)} (hp : PrOk0 c.p) (he : Rng c.each) (hl : ls.length * 24 ≤ reachBytes) (h2 : ∀ x ∈ ls, x.length * 88 ≤ reachBytes ∧ ∀ y ∈ x, EvOk y) : W4 c.p ⟨ls, c.each, 0⟩ :=
  w4_of hp ⟨hl, fun l h => (h2 l h).1, fun l h => (h2 l h).2, he, by unfold Rng; simp only []; omega⟩
end Go.Proofs.YtkfphaphiikloaaDoor
