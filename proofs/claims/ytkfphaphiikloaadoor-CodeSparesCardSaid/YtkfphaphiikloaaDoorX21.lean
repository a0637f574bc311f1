/-
  TREES, PART K: the document's Tree; do the operands have their kinds?
-/
import Derived.Test.YtkfphaphiikloaaDoorX20
set_option linter.unusedSimpArgs false
set_option linter.unusedVariables false
set_option linter.constructorNameAsVariable false
namespace Go.Proofs.YtkfphaphiikloaaDoor
open Go Go.Eng

theorem roH_fresh {h : Heap} {n : Nat} (hn : ∀ i, n ≤ i → h i = none) : Fresh n (roH h) := fun i hi => by simp [roH, hn i hi]
end Go.Proofs.YtkfphaphiikloaaDoor

/-
  TREES, PART L: can a tree be run? (the document's)
-/
namespace Go.Proofs.YtkfphaphiikloaaDoor
open Go Go.Eng

def kindB (t : List Nd) (x : Nd) : Bool := if x.op < 12 then true else (truthO (t.getD x.a.toNat nd0).op == wantsT x.op) && (decide (x.b < 0) || (truthO (t.getD x.b.toNat nd0).op == wantsT x.op))
theorem nodeOk_eq (vs : List ByteArray) (t : List Nd) (x : Nd) : nodeOk vs t x = ((!mentO x.op || decide (0 ≤ ixOf vs x.var)) && kindB t x) := by
  unfold nodeOk kindB mentO
  by_cases h1 : x.op < 4
  · have h2 : ¬ 4 ≤ x.op := by omega
    have h3 : x.op < 12 := by omega
    simp [h1, h2, h3]
  · by_cases h4 : x.op ≤ 11
    · have h2 : 4 ≤ x.op := by omega
      have h3 : x.op < 12 := by omega
      simp [h1, h2, h3, h4]
    · have h3 : ¬ x.op < 12 := by omega
      simp [h1, h3, h4]
/-! ### Runnable -/
end Go.Proofs.YtkfphaphiikloaaDoor
