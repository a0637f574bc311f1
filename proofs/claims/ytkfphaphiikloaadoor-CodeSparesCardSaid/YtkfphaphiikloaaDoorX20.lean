/-
  TREES, PART I: the document's own walk over a tree (begins, Tree).
-/
import Derived.Test.YtkfphaphiikloaaDoorX17
import Derived.Test.YtkfphaphiikloaaDoorX16
set_option linter.unusedSimpArgs false
set_option linter.unusedVariables false
set_option linter.constructorNameAsVariable false
namespace Go.Proofs.YtkfphaphiikloaaDoor
open Go Go.Eng

section
variable {l : List Int} {x : Nd} {i : Nat}
end
theorem wrapm1 {e : Nat} (h : e < big) : IntKind.i64.wrap (((e + 1 : Nat) : Int) - 1) = e := by
  have : ((e + 1 : Nat) : Int) - 1 = e := by omega
  rw [this]
  cases e with
  | zero => rfl
  | succ m => exact wrap_nat (by omega)
end Go.Proofs.YtkfphaphiikloaaDoor
