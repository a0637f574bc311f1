/-
  THE NUMBERS OF THIS PROGRAM: lists as they lie.
-/
import Derived.Test.YtkfphaphiikloaaDoorMc
import Derived.Test.YtkfphaphiikloaaDoorOp
set_option linter.unusedSimpArgs false
set_option linter.unusedVariables false
set_option linter.constructorNameAsVariable false
set_option linter.unusedSimpArgs false
namespace Go.Proofs.YtkfphaphiikloaaDoor
open Go Go.Eng

theorem deIs_ii : ∀ l : List Int, deIs (l.map ii) = some l
  | [] => rfl
  | n :: l => by simp [deIs, ii, deI, deIs_ii l]
theorem deIs_eq : ∀ {xs : List AV} {l : List Int}, deIs xs = some l → xs = l.map ii
  | [], l, h => by
    simp only [deIs, Option.some.injEq] at h
    subst h
    rfl
  | a :: r, l, h => by
    simp only [deIs] at h
    split at h
    · rename_i n l' e1 e2
      simp only [Option.some.injEq] at h
      subst h
      rw [deIs_eq e2]
      simp [deI_out e1, ii]
    · cases h
/-- How a list of numbers lies: its cells. -/
theorem ints_at {h : Heap} {a : AV} {l : List Int} (e : ints h a = some l) : (a = .v (.slice none 0 0) ∧ l = []) ∨
    ∃ id off k, a = .s id k.ver off l.length ∧ h id = some k ∧ off + l.length ≤ k.cells.length ∧ (k.cells.drop off).take l.length = l.map ii ∧ ∀ i (hi : i < l.length), k.cells[off + i]? = some (ii l[i]) := by
  rcases ints_cases e with h0 | ⟨id, off, k, rfl, hk, ho, hat⟩
  · exact .inl h0
  · refine .inr ⟨id, off, k, rfl, hk, ho, ?_, fun i hi => by simpa [List.getD_eq_getElem?_getD, hi] using hat i hi⟩
    simp only [ints, hk, true_and, ho, if_true] at e
    exact deIs_eq e
theorem take_ii (l : List Int) : (l.map ii).take l.length = l.map ii := List.take_of_length_le (by simp)
theorem ii_getD (l : List Int) {i : Nat} (h : i < l.length) : (l.map ii)[i]? = some (ii l[i]) := by simp [h]
theorem ints_of_sl {h : Heap} {a : AV} {l : List Int} (e : (De.sl 1 (De.int .i64)).run h [a] = some l) (hne : a ≠ .e) : ints h a = some l := by
  rcases De.sl_out e with ⟨rfl, h1 | h1⟩ | ⟨id, off, k, h1, hk, ho, hat⟩
  · simp only [List.cons.injEq, and_true] at h1
    subst h1
    rfl
  · simp only [List.cons.injEq, and_true] at h1
    exact absurd h1 hne
  · simp only [List.cons.injEq, and_true] at h1
    subst h1
    rw [Nat.mul_one] at ho
    simp only [ints, hk, true_and, ho, if_true]
    have : (k.cells.drop off).take l.length = l.map ii := by
      apply List.ext_getElem?
      intro i
      by_cases hi : i < l.length
      · have := hat i hi
        rw [Nat.mul_one] at this
        have hg : k.cells[off + i]? = some (k.cells[off + i]'(by omega)) := List.getElem?_eq_getElem _
        have ht : (k.cells.drop (off + i)).take 1 = [k.cells[off + i]'(by omega)] := by
          rw [List.drop_eq_getElem_cons (by omega)]
          rfl
        rw [ht] at this
        simp only [De.int] at this
        split at this
        · rename_i k' n' hq
          split at this
          · rename_i hkk
            simp only [List.cons.injEq, and_true] at hq
            rw [List.getElem?_take_of_lt hi, List.getElem?_drop, hg, hq]
            simp only [Option.some.injEq] at this
            simp [hi, ii, ← this, hkk]
          · cases this
        · cases this
      · rw [List.getElem?_eq_none (by simp; omega), List.getElem?_eq_none (by simp; omega)]
    rw [this, deIs_ii]

/-- A list of numbers of our own, as it grows: nil, or a row from the number n0 on, below n. -/
def OwnI (h : Heap) (n0 n : Nat) (a : AV) (l : List Int) : Prop :=
  (a = .v (.slice none 0 0) ∧ l = []) ∨ ∃ id v, a = .s id v 0 l.length ∧ h id = some ⟨l.map ii, v, true, 1⟩ ∧ n0 ≤ id ∧ id < n
theorem take_next {l : List Int} {j : Nat} (h : j < l.length) : (l.take (j + 1)).map ii = (l.take j).map ii ++ [ii l[j]] := by
  rw [List.take_add_one, List.getElem?_eq_getElem h, List.map_append]
  rfl
end Go.Proofs.YtkfphaphiikloaaDoor
