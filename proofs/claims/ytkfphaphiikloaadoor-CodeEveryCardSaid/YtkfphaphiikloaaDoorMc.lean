/-
  THE NUMBERS OF THIS PROGRAM, THE PLAIN LAWS, C: sums of lists.
-/
import Derived.Test.YtkfphaphiikloaaDoorNh
set_option linter.unusedSimpArgs false
set_option linter.unusedVariables false
set_option linter.constructorNameAsVariable false
set_option linter.unusedSimpArgs false
namespace Go.Proofs.YtkfphaphiikloaaDoor
open Go Go.Eng

def All (l : List Int) : Prop := ∀ x ∈ l, Rng x
theorem sum_take {l : List Int} {j : Nat} (h : j < l.length) : (l.take (j + 1)).sum = (l.take j).sum + l[j] := by
  rw [List.take_add_one, List.getElem?_eq_getElem h, Option.toList_some, List.sum_append, List.sum_cons, List.sum_nil, Int.add_zero]
theorem sum_bound {l : List Int} (ha : All l) : ∀ j, j ≤ l.length → -(9223372036854775808 * (j : Int)) ≤ (l.take j).sum ∧ (l.take j).sum ≤ 9223372036854775808 * (j : Int)
  | 0, _ => by simp
  | j + 1, h => by
    have ih := sum_bound ha j (by omega)
    have hx := ha l[j] (List.getElem_mem _)
    rw [sum_take (by omega)]
    unfold Rng at hx
    omega
theorem sgn_eq {x : Int} (h : Rng x) : sgn x = if x < 0 then -1 else 0 := by
  unfold sgn
  have e : (2 : Int) ^ min 63 IntKind.i64.bits = 9223372036854775808 := rfl
  rw [e, Int.fdiv_eq_ediv_of_nonneg _ (by decide)]
  unfold Rng at h
  split <;> omega
theorem sumAt_eq {l : List Int} (ha : All l) : ∀ j, j ≤ l.length → ∃ q : Int, (sumAt l j).1 * 18446744073709551616 + (sumAt l j).2 = (l.take j).sum + 340282366920938463463374607431768211456 * q
  | 0, _ => ⟨0, by simp [sumAt]⟩
  | j + 1, h => by
    obtain ⟨q, ih⟩ := sumAt_eq ha j (by omega)
    have hx := ha l[j] (List.getElem_mem _)
    have eg : l.getD j 0 = l[j] := by simp [List.getD_eq_getElem?_getD, show j < l.length by omega]
    rw [sum_take (by omega), sumAt_succ (by omega), eg]
    obtain ⟨⟨r1, r2⟩, r3, r4⟩ := sumAt_rng l j
    unfold sumStep
    simp only []
    rw [sgn_eq hx, U_def l[j]]
    generalize (sumAt l j).1 = hi at *
    generalize (sumAt l j).2 = lo at *
    generalize l[j] = x at *
    generalize (List.take j l).sum = s at *
    unfold Rng at hx
    by_cases h0 : x < 0
    · rw [if_pos h0]
      have e : U (-1) = 18446744073709551615 := rfl
      rw [e]
      have c : (lo + x % 18446744073709551616 + 0) / 18446744073709551616 = 0 ∨ (lo + x % 18446744073709551616 + 0) / 18446744073709551616 = 1 := by omega
      have m : (hi + 18446744073709551615 + (lo + x % 18446744073709551616 + 0) / 18446744073709551616) / 18446744073709551616 = 0 ∨ (hi + 18446744073709551615 + (lo + x % 18446744073709551616 + 0) / 18446744073709551616) / 18446744073709551616 = 1 := by omega
      rcases m with m | m
      · exact ⟨q + 1, by omega⟩
      · exact ⟨q, by omega⟩
    · rw [if_neg h0]
      have e : U 0 = 0 := rfl
      rw [e]
      have m : (hi + 0 + (lo + x % 18446744073709551616 + 0) / 18446744073709551616) / 18446744073709551616 = 0 ∨ (hi + 0 + (lo + x % 18446744073709551616 + 0) / 18446744073709551616) / 18446744073709551616 = 1 := by omega
      rcases m with m | m
      · exact ⟨q, by omega⟩
      · exact ⟨q - 1, by omega⟩
theorem sumL_eq {l : List Int} (ha : All l) (hl : l.length < big) : sumL l = fitV l.sum := by
  obtain ⟨q, e⟩ := sumAt_eq ha l.length (Nat.le_refl _)
  have b := sum_bound ha l.length (Nat.le_refl _)
  obtain ⟨⟨r1, r2⟩, r3, r4⟩ := sumAt_rng l l.length
  rw [List.take_length] at e b
  unfold sumL
  have hw := W_spec (sumAt l l.length).2
  rw [sgn_eq (by obtain ⟨_, _, h⟩ := hw; exact h)]
  rw [W_def, W_def]
  unfold big at hl
  generalize (sumAt l l.length).1 = hi at *
  generalize (sumAt l l.length).2 = lo at *
  generalize l.sum = s at *
  have hb : -42535295865117307932921825928971026432 < s ∧ s < 42535295865117307932921825928971026432 := by omega
  unfold fitV unk knownV
  rw [show hi % 18446744073709551616 = hi by omega, show lo % 18446744073709551616 = lo by omega]
  by_cases c1 : 9223372036854775808 ≤ hi <;> by_cases c2 : 9223372036854775808 ≤ lo <;> simp only [c1, c2, if_true, if_false]
  · rw [if_pos (show lo - 18446744073709551616 < 0 by omega)]
    by_cases c3 : hi - 18446744073709551616 = -1
    · rw [if_neg (by simpa using c3), if_pos (by omega)]
      congr 1; omega
    · rw [if_pos (by simpa using c3), if_neg (by omega)]
  · rw [if_neg (show ¬ lo < 0 by omega)]
    rw [if_pos (by simp; omega), if_neg (by omega)]
  · rw [if_pos (show lo - 18446744073709551616 < 0 by omega)]
    rw [if_pos (by simp; omega), if_neg (by omega)]
  · rw [if_neg (show ¬ lo < 0 by omega)]
    by_cases c3 : hi = 0
    · rw [if_neg (by simpa using c3), if_pos (by omega)]
      congr 1; omega
    · rw [if_pos (by simpa using c3), if_neg (by omega)]
theorem rsumAt_eq {l : List Int} (ha : All l) (hl : l.length ≤ 2147483647) : ∀ j, j ≤ l.length → (rsumAt l j).1 * 4294967296 + (rsumAt l j).2 = (l.take j).sum ∧ 0 ≤ (rsumAt l j).2 ∧ (rsumAt l j).2 < 4294967296
  | 0, _ => by simp [rsumAt]
  | j + 1, h => by
    obtain ⟨ih, r1, r2⟩ := rsumAt_eq ha hl j (by omega)
    have b := sum_bound ha j (by omega)
    have hx := ha l[j] (List.getElem_mem _)
    rw [sum_take (by omega), rsumAt_succ (by omega), widen_eq]
    generalize (rsumAt l j) = s at *
    generalize l[j] = x at *
    generalize (List.take j l).sum = t at *
    unfold Rng at hx
    unfold plusL
    simp only []
    rw [W_id (n := s.2 + x % 4294967296) (by unfold Rng; omega), W_id (n := s.1 + x / 4294967296) (by unfold Rng; omega)]
    split
    · rw [W_id (n := s.1 + x / 4294967296 + 1) (by unfold Rng; omega), W_id (n := s.2 + x % 4294967296 - 4294967296) (by unfold Rng; omega)]
      simp only []
      omega
    · simp only []
      omega
theorem rsumL_eq {l : List Int} (ha : All l) (hl : l.length ≤ 2147483647) : rsumL l = fitV l.sum := by
  obtain ⟨e, r1, r2⟩ := rsumAt_eq ha hl l.length (Nat.le_refl _)
  have b := sum_bound ha l.length (Nat.le_refl _)
  rw [List.take_length] at e b
  unfold rsumL
  rw [show rsumAt l l.length = ((rsumAt l l.length).1, (rsumAt l l.length).2) from rfl, fitL_eq (by omega) ⟨r1, r2⟩, e]
theorem fold_eq {l : List Int} (o : Int) (ha : All l) (hl : l.length ≤ 2147483647) : foldG sumL o l = foldG rsumL o l := by
  have : sumL l = rsumL l := by rw [sumL_eq ha (by unfold big; omega), rsumL_eq ha hl]
  unfold foldG
  rw [this]
end Go.Proofs.YtkfphaphiikloaaDoor
