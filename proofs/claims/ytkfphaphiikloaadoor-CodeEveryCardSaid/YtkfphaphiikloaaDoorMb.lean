/-
  THE NUMBERS OF THIS PROGRAM, THE PLAIN LAWS, B: products, and the reference's two halves.
-/
import Derived.Test.YtkfphaphiikloaaDoorMa
set_option linter.unusedSimpArgs false
set_option linter.unusedVariables false
set_option linter.constructorNameAsVariable false
set_option linter.unusedSimpArgs false
namespace Go.Proofs.YtkfphaphiikloaaDoor
open Go Go.Eng

theorem and_low (n : Int) : ((BitVec.ofInt 64 n &&& BitVec.ofInt 64 4294967295).toNat : Int) = n % 4294967296 := by
  have h : (BitVec.ofInt 64 n &&& BitVec.ofInt 64 4294967295).toNat = (n % 18446744073709551616).toNat % 4294967296 := by
    rw [BitVec.toNat_and, BitVec.toNat_ofInt, BitVec.toNat_ofInt]
    exact Nat.and_two_pow_sub_one_eq_mod _ 32
  rw [h]
  omega
theorem B_eq (n : Int) : B n = n % 4294967296 := by
  unfold B
  have : IntKind.u64.bits = 64 := rfl
  rw [this, and_low, U_id]
  omega
theorem S_eq {n : Int} : S n = n / 4294967296 := by
  unfold S
  have : (2 : Int) ^ min 32 IntKind.u64.bits = 4294967296 := rfl
  rw [this, Int.fdiv_eq_ediv_of_nonneg _ (by decide)]
theorem mul_bound {x y : Int} (hx : 0 ≤ x ∧ x ≤ 4294967295) (hy : 0 ≤ y ∧ y ≤ 4294967295) : 0 ≤ x * y ∧ x * y ≤ 18446744065119617025 := by
  refine ⟨Int.mul_nonneg hx.1 hy.1, ?_⟩
  exact Int.le_trans (Int.mul_le_mul hx.2 hy.2 hy.1 (by decide)) (by decide)
theorem mulHi_eq {x y : Int} (hx : 0 ≤ x ∧ x < 18446744073709551616) (hy : 0 ≤ y ∧ y < 18446744073709551616) : mulHi x y = x * y / 18446744073709551616 := by
  have hx0 : 0 ≤ x % 4294967296 ∧ x % 4294967296 ≤ 4294967295 := by omega
  have hy0 : 0 ≤ y % 4294967296 ∧ y % 4294967296 ≤ 4294967295 := by omega
  have hx1 : 0 ≤ x / 4294967296 ∧ x / 4294967296 ≤ 4294967295 := by omega
  have hy1 : 0 ≤ y / 4294967296 ∧ y / 4294967296 ≤ 4294967295 := by omega
  have ex : x = 4294967296 * (x / 4294967296) + x % 4294967296 := by omega
  have ey : y = 4294967296 * (y / 4294967296) + y % 4294967296 := by omega
  unfold mulHi mulT
  simp only [B_eq, S_eq]
  generalize x / 4294967296 = x1 at *
  generalize x % 4294967296 = x0 at *
  generalize y / 4294967296 = y1 at *
  generalize y % 4294967296 = y0 at *
  have e : x * y = 18446744073709551616 * (x1 * y1) + 4294967296 * (x1 * y0) + 4294967296 * (x0 * y1) + x0 * y0 := by
    rw [ex, ey]
    grind
  rw [e]
  have b00 := mul_bound hx0 hy0
  have b10 := mul_bound hx1 hy0
  have b01 := mul_bound hx0 hy1
  have b11 := mul_bound hx1 hy1
  generalize x0 * y0 = p00 at *
  generalize x1 * y0 = p10 at *
  generalize x0 * y1 = p01 at *
  generalize x1 * y1 = p11 at *
  rw [U_id (n := p10) (by omega), U_id (n := p00) (by omega), U_id (n := p01) (by omega), U_id (n := p11) (by omega), U_id (n := p10 + p00 / 4294967296) (by omega)]
  rw [U_id (n := (p10 + p00 / 4294967296) % 4294967296 + p01) (by omega), U_id (n := p11 + (p10 + p00 / 4294967296) / 4294967296) (by omega)]
  rw [U_id (by omega)]
  omega
theorem sizeU_eq {n : Int} (h : Rng n) : sizeU n = if n < 0 then -n else n := by
  unfold Rng at h
  have e : sizeU n = if n < 0 then U (0 - U n) else U n := rfl
  rw [e]
  split
  · rw [U_def, U_def]; omega
  · rw [U_def]; omega
theorem mulL_eq {a b : V} (ha : Rng a.n) (hb : Rng b.n) : mulL a b = mulV a b := by
  obtain ⟨k, m⟩ := a
  obtain ⟨k', m'⟩ := b
  simp only at ha hb
  cases k
  · simp [mulL, mulV, on2]
  cases k'
  · simp [mulL, mulV, on2]
  have h1 := sizeU_eq ha
  have h2 := sizeU_eq hb
  unfold Rng at *
  have r1 : 0 ≤ sizeU m ∧ sizeU m < 18446744073709551616 := by rw [h1]; split <;> omega
  have r2 : 0 ≤ sizeU m' ∧ sizeU m' < 18446744073709551616 := by rw [h2]; split <;> omega
  have ep : 0 ≤ sizeU m * sizeU m' := Int.mul_nonneg r1.1 r2.1
  have es : m * m' = if (decide (m < 0) != decide (m' < 0)) = true then -(sizeU m * sizeU m') else sizeU m * sizeU m' := by
    rw [h1, h2]
    by_cases q1 : m < 0 <;> by_cases q2 : m' < 0 <;> simp [q1, q2, Int.neg_mul, Int.mul_neg]
  simp only [mulL, mulV, on2, mulHi_eq r1 r2, mulNeg, Bool.and_self, if_true, unk, knownV]
  rw [es]
  clear es
  generalize sizeU m * sizeU m' = p at *
  unfold fitV
  rw [U_def p]
  obtain ⟨s, hs⟩ : ∃ s, (decide (m < 0) != decide (m' < 0)) = s := ⟨_, rfl⟩
  simp only [hs]
  cases s
  · simp only [Bool.false_and, Bool.false_eq_true, if_false, Bool.not_false, Bool.true_and, decide_eq_true_eq, bne_iff_ne, ne_eq]
    by_cases q : p / 18446744073709551616 = 0
    · rw [if_neg (by simpa using q)]
      by_cases q2 : p % 18446744073709551616 < 9223372036854775808
      · rw [if_pos q2, W_id (by unfold Rng; omega), if_pos (by omega)]
        congr 1; omega
      · rw [if_neg q2, if_neg (by omega)]
    · rw [if_pos (by simpa using q), if_neg (by omega)]
  · simp only [Bool.true_and, if_true, Bool.not_true, Bool.false_and, Bool.false_eq_true, if_false, decide_eq_true_eq, bne_iff_ne, ne_eq]
    by_cases q : p / 18446744073709551616 = 0
    · rw [if_neg (by simpa using q)]
      by_cases q2 : p % 18446744073709551616 ≤ 9223372036854775808
      · rw [if_pos q2, if_pos (by omega)]
        congr 1
        rw [W_def, U_def]
        split <;> omega
      · rw [if_neg q2, if_neg (by omega)]
    · rw [if_pos (by simpa using q), if_neg (by omega)]
theorem rmulL_eq {a b : V} (ha : Rng a.n) (hb : Rng b.n) : rmulL a b = mulV a b := by
  obtain ⟨k, m⟩ := a
  obtain ⟨k', m'⟩ := b
  simp only at ha hb
  cases k
  · simp [rmulL, mulV, on2]
  cases k'
  · simp [rmulL, mulV, on2]
  simp only [rmulL, mulV, on2, Bool.and_self, if_true]
  by_cases hz : m' = 0
  · subst hz
    simp [fitV, knownV]
  rw [if_neg hz]
  by_cases h1 : m' = -1
  · subst h1
    rw [if_pos rfl, negL_eq ha]
    simp only [negV, if_true]
    congr 1
    omega
  rw [if_neg h1]
  obtain ⟨q, e, hr⟩ := W_spec (m * m')
  have hr' := hr
  have ht : Rng ((W (m * m')).tdiv m') := tdiv_rng hr hz (fun h => h1 h.2)
  rw [W_id ht]
  obtain ⟨t1, t2, t3, t4, t5⟩ := tdiv_bounds (x := W (m * m')) hz
  by_cases hf : Rng (m * m')
  · rw [W_id hf, Int.mul_tdiv_cancel _ hz, if_neg (by simp), fitV_pos hf]
    rfl
  · rw [fitV_neg hf, if_pos]
    · rfl
    · simp only [bne_iff_ne, ne_eq]
      intro h2
      rw [h2] at t1
      rw [Int.mul_comm m' m] at t1
      have hq : q ≠ 0 := fun h => by rw [h] at e; rw [show m * m' = W (m * m') by omega] at hf; exact hf hr'
      unfold Rng at *
      generalize m * m' = p at *
      rcases Int.lt_or_gt_of_ne hz with h | h
      · have := t5 h; omega
      · have := t4 h; omega
theorem widen_eq {n : Int} : widenL n = (n / 4294967296, n % 4294967296) := by
  unfold widenL
  have h1 : (2 : Int) ^ min 32 IntKind.i64.bits = 4294967296 := rfl
  have h2 : IntKind.i64.bits = 64 := rfl
  rw [h1, h2, and_low, Int.fdiv_eq_ediv_of_nonneg _ (by decide), W_id]
  unfold Rng
  omega
theorem fitL_eq {h l : Int} (hh : -4611686018427387904 ≤ h ∧ h < 4611686018427387904) (hl : 0 ≤ l ∧ l < 4294967296) : fitL (h, l) = fitV (h * 4294967296 + l) := by
  unfold fitL fitV
  by_cases q : h < -2147483648 ∨ h ≥ 2147483648
  · rw [if_pos q, if_neg (by omega)]
    rfl
  · rw [if_neg q, if_pos (by omega), W_id (n := h * 4294967296) (by unfold Rng; omega), W_id (by unfold Rng; omega)]
    rfl
section
variable {a b : V} (ha : Rng a.n) (hb : Rng b.n)
include ha hb
theorem raddL_eq : raddL a b = addV a b := by
  unfold Rng at *
  simp only [raddL, addV, on2]
  split
  · rw [widen_eq, widen_eq]
    unfold plusL
    simp only []
    rw [W_id (n := a.n % 4294967296 + b.n % 4294967296) (by unfold Rng; omega), W_id (n := a.n / 4294967296 + b.n / 4294967296) (by unfold Rng; omega)]
    split
    · rw [W_id (n := a.n / 4294967296 + b.n / 4294967296 + 1) (by unfold Rng; omega), W_id (n := a.n % 4294967296 + b.n % 4294967296 - 4294967296) (by unfold Rng; omega), fitL_eq (by omega) (by omega)]
      congr 1; omega
    · rw [fitL_eq (by omega) (by omega)]
      congr 1; omega
  · rfl
theorem rsubL_eq : rsubL a b = subV a b := by
  unfold Rng at *
  simp only [rsubL, subV, on2]
  split
  · rw [widen_eq, widen_eq]
    unfold minusL
    simp only []
    rw [W_id (n := a.n % 4294967296 - b.n % 4294967296) (by unfold Rng; omega), W_id (n := a.n / 4294967296 - b.n / 4294967296) (by unfold Rng; omega)]
    split
    · rw [W_id (n := a.n / 4294967296 - b.n / 4294967296 - 1) (by unfold Rng; omega), W_id (n := a.n % 4294967296 - b.n % 4294967296 + 4294967296) (by unfold Rng; omega), fitL_eq (by omega) (by omega)]
      congr 1; omega
    · rw [fitL_eq (by omega) (by omega)]
      congr 1; omega
  · rfl
end
/-- Both sides answer alike, whatever is asked. -/
theorem apply_eq (o : Int) {a b : V} (ha : Rng a.n) (hb : Rng b.n) : applyL o a b = rapplyL o a b := by
  unfold applyL rapplyL
  rw [addL_eq ha hb, raddL_eq ha hb, subL_eq ha hb, rsubL_eq ha hb, mulL_eq ha hb, rmulL_eq ha hb, divL_eq ha, rdivL_eq ha, modL_eq, rmodL_eq ha hb]
end Go.Proofs.YtkfphaphiikloaaDoor
