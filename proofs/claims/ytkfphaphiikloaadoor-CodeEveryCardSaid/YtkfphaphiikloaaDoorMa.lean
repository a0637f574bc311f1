/-
  THE NUMBERS OF THIS PROGRAM, THE PLAIN LAWS, A: what sums, products and quotients come to, in plain integers.
-/
import Derived.Test.YtkfphaphiikloaaDoorNd
set_option linter.unusedSimpArgs false
set_option linter.unusedVariables false
set_option linter.constructorNameAsVariable false
set_option linter.unusedSimpArgs false
namespace Go.Proofs.YtkfphaphiikloaaDoor
open Go Go.Eng

def Rng (n : Int) : Prop := -9223372036854775808 ≤ n ∧ n < 9223372036854775808
theorem W_def (n : Int) : W n = if 9223372036854775808 ≤ n % 18446744073709551616 then n % 18446744073709551616 - 18446744073709551616 else n % 18446744073709551616 := by
  simp [W, IntKind.wrap, IntKind.bits, IntKind.signed]
theorem U_def (n : Int) : U n = n % 18446744073709551616 := by
  simp [U, IntKind.wrap, IntKind.bits, IntKind.signed]
theorem W_spec (n : Int) : ∃ q : Int, W n = n - 18446744073709551616 * q ∧ Rng (W n) := by
  unfold Rng
  rw [W_def]
  refine ⟨(n + 9223372036854775808) / 18446744073709551616, ?_⟩
  by_cases h : 9223372036854775808 ≤ n % 18446744073709551616
  · simp only [h, if_true]
    omega
  · simp only [h, if_false]
    omega
theorem U_spec (n : Int) : ∃ q : Int, U n = n - 18446744073709551616 * q ∧ 0 ≤ U n ∧ U n < 18446744073709551616 := by
  rw [U_def]
  exact ⟨n / 18446744073709551616, by omega⟩
theorem W_id {n : Int} (h : Rng n) : W n = n := by
  obtain ⟨q, e, h1⟩ := W_spec n
  unfold Rng at *
  omega
theorem U_id {n : Int} (h : 0 ≤ n ∧ n < 18446744073709551616) : U n = n := by
  obtain ⟨q, e, h1⟩ := U_spec n
  omega
/-- A number if it fits, else none. -/
def fitV (n : Int) : V := if -9223372036854775808 ≤ n ∧ n < 9223372036854775808 then ⟨true, n⟩ else ⟨false, 0⟩
theorem fitV_pos {n : Int} (h : Rng n) : fitV n = ⟨true, n⟩ := if_pos h
theorem fitV_neg {n : Int} (h : ¬ Rng n) : fitV n = ⟨false, 0⟩ := if_neg h
def on2 (f : Int → Int → V) (a b : V) : V := if a.k && b.k then f a.n b.n else unk
def addV := on2 fun x y => fitV (x + y)
def subV := on2 fun x y => fitV (x - y)
def mulV := on2 fun x y => fitV (x * y)
def divV := on2 fun x y => if y = 0 then unk else fitV (x.tdiv y)
def modV := on2 fun x y => if y = 0 then unk else knownV (x.tmod y)
def negV (a : V) : V := if a.k then fitV (0 - a.n) else unk
section
variable {a b : V} (ha : Rng a.n) (hb : Rng b.n)
include ha hb
theorem addL_eq : addL a b = addV a b := by
  obtain ⟨q, e, h1⟩ := W_spec (a.n + b.n)
  unfold Rng at *
  simp only [addL, addV, on2, fitV, unk, knownV]
  split
  · split
    · rename_i hc
      simp only [gt_iff_lt, Bool.and_eq_true, bne_iff_ne, ne_eq, decide_eq_decide] at hc
      rw [if_neg]
      omega
    · rename_i hc
      simp only [gt_iff_lt, Bool.and_eq_true, bne_iff_ne, ne_eq, decide_eq_decide] at hc
      rw [if_pos (by omega)]
      congr 1
      omega
  · rfl
theorem subL_eq : subL a b = subV a b := by
  obtain ⟨q, e, h1⟩ := W_spec (a.n - b.n)
  unfold Rng at *
  simp only [subL, subV, on2, fitV, unk, knownV]
  split
  · split
    · rename_i hc
      simp only [gt_iff_lt, Bool.and_eq_true, bne_iff_ne, ne_eq, decide_eq_decide] at hc
      rw [if_neg]
      omega
    · rename_i hc
      simp only [gt_iff_lt, Bool.and_eq_true, bne_iff_ne, ne_eq, decide_eq_decide] at hc
      rw [if_pos (by omega)]
      congr 1
      omega
  · rfl
end
theorem negL_eq {a : V} (ha : Rng a.n) : negL a = negV a := by
  unfold Rng at *
  simp only [negL, negV, unk, knownV]
  cases hk : a.k
  · simp
  · by_cases hm : a.n = -9223372036854775808
    · simp [hm, fitV]
    · have : Rng (0 - a.n) := by unfold Rng; omega
      simp only [Bool.true_and, bne_iff_ne, ne_eq, hm, not_false_eq_true, if_true]
      rw [W_id this, fitV_pos this]
theorem tdiv_bounds {x y : Int} (hy : y ≠ 0) : x = y * x.tdiv y + x.tmod y ∧ (0 ≤ x → 0 ≤ x.tmod y) ∧ (x ≤ 0 → x.tmod y ≤ 0) ∧ (0 < y → x.tmod y < y ∧ -y < x.tmod y) ∧ (y < 0 → x.tmod y < -y ∧ y < x.tmod y) := by
  refine ⟨(Int.mul_tdiv_add_tmod x y).symm, fun h => Int.tmod_nonneg y h, fun h => ?_, fun h => ?_, fun h => ?_⟩
  · have := Int.tmod_nonneg y (a := -x) (by omega)
    rw [Int.neg_tmod] at this
    omega
  · have h1 := Int.tmod_lt_of_pos x h
    have h2 := Int.tmod_lt_of_pos (-x) h
    rw [Int.neg_tmod] at h2
    omega
  · have h1 := Int.tmod_lt_of_pos x (b := -y) (by omega)
    have h2 := Int.tmod_lt_of_pos (-x) (b := -y) (by omega)
    rw [Int.tmod_neg] at h1 h2
    rw [Int.neg_tmod] at h2
    omega
/-- A quotient is no farther from nought than what is divided. -/
theorem tdiv_rng {x y : Int} (hx : Rng x) (hy : y ≠ 0) (hm : ¬ (x = -9223372036854775808 ∧ y = -1)) : Rng (x.tdiv y) := by
  have h1 : (x.tdiv y).natAbs ≤ x.natAbs := by rw [Int.natAbs_tdiv]; exact Nat.div_le_self _ _
  unfold Rng at *
  by_cases hx2 : x = -9223372036854775808
  · by_cases h2 : (x.tdiv y).natAbs = 9223372036854775808
    · rw [Int.natAbs_tdiv, hx2] at h2
      change 9223372036854775808 / y.natAbs = 9223372036854775808 at h2
      have h3 : y.natAbs = 1 := by
        have h5 : 9223372036854775808 / y.natAbs * y.natAbs ≤ 9223372036854775808 := Nat.div_mul_le_self _ _
        rw [h2] at h5
        omega
      have h4 : y = 1 := by omega
      subst h4
      rw [Int.tdiv_one]
      omega
    · omega
  · omega
theorem divL_eq {a b : V} (ha : Rng a.n) : divL a b = divV a b := by
  simp only [divL, divV, on2]
  cases hk : (a.k && b.k)
  · simp
  · by_cases hz : b.n = 0
    · simp [hz]
    · simp only [Bool.true_and, bne_iff_ne, ne_eq, hz, not_false_eq_true, if_true, if_false]
      by_cases hm : a.n = -9223372036854775808 ∧ b.n = -1
      · simp [hm.1, hm.2, fitV, unk]
      · have h1 := tdiv_rng ha hz hm
        rw [if_neg (by simpa using hm), W_id h1]
        rw [fitV_pos h1]
        rfl
theorem modL_eq {a b : V} : modL a b = modV a b := by
  simp only [modL, modV, on2]
  cases hk : (a.k && b.k)
  · simp
  · by_cases hz : b.n = 0
    · simp [hz]
    · simp only [Bool.true_and, bne_iff_ne, ne_eq, hz, not_false_eq_true, if_true, if_false]
      by_cases hm : b.n = -1
      · simp [hm, knownV]
      · simp [hm, knownV]
theorem rdivL_eq {a b : V} (ha : Rng a.n) : rdivL a b = divV a b := by
  simp only [rdivL, divV, on2]
  cases hk : (a.k && b.k)
  · simp
  · by_cases hz : b.n = 0
    · simp [hz]
    · simp only [Bool.true_and, bne_iff_ne, ne_eq, hz, not_false_eq_true, if_true, if_false]
      by_cases hm : b.n = -1
      · simp only [Bool.and_eq_true] at hk
        rw [if_pos (by simpa using hm), negL_eq ha]
        simp [negV, hk.1, hm]
      · have h1 := tdiv_rng ha hz (fun h => hm h.2)
        rw [if_neg (by simpa using hm), W_id h1]
        rw [fitV_pos h1]
        rfl
theorem rmodL_eq {a b : V} (ha : Rng a.n) (hb : Rng b.n) : rmodL a b = modV a b := by
  simp only [rmodL, modV, on2]
  cases hk : (a.k && b.k)
  · simp
  · by_cases hz : b.n = 0
    · simp [hz]
    · simp only [Bool.true_and, bne_iff_ne, ne_eq, hz, not_false_eq_true, if_true, if_false]
      by_cases hm : b.n = -1
      · simp [hm, knownV]
      · have h1 := tdiv_rng ha hz (fun h => hm h.2)
        obtain ⟨t1, t2, t3, t4, t5⟩ := tdiv_bounds (x := a.n) hz
        have h2 : Rng (b.n * a.n.tdiv b.n) := by
          unfold Rng at *
          rcases Int.lt_or_gt_of_ne hz with h | h
          · have := t5 h; omega
          · have := t4 h; omega
        rw [if_neg (by simpa using hm), W_id h1, W_id h2]
        have h3 : a.n - b.n * a.n.tdiv b.n = a.n.tmod b.n := by omega
        rw [h3, W_id]
        unfold Rng at *
        rcases Int.lt_or_gt_of_ne hz with h | h
        · have := t5 h; omega
        · have := t4 h; omega
end Go.Proofs.YtkfphaphiikloaaDoor
