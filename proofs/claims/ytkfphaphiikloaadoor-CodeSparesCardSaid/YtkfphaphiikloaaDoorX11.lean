/-
  THE NUMBERS OF THIS PROGRAM, THE PLAIN LAWS, A: what sums, products and quotients come to, in plain integers.
-/
import Derived.Test.YtkfphaphiikloaaDoorX10
set_option linter.unusedSimpArgs false
set_option linter.unusedVariables false
set_option linter.constructorNameAsVariable false
namespace Go.Proofs.YtkfphaphiikloaaDoor
open Go Go.Eng

def Rng (n : Int) : Prop := -9223372036854775808 ≤ n ∧ n < 9223372036854775808
theorem W_def (n : Int) : W n = if 9223372036854775808 ≤ n % 18446744073709551616 then n % 18446744073709551616 - 18446744073709551616 else n % 18446744073709551616 := by
  simp [W, IntKind.wrap, IntKind.bits, IntKind.signed]
theorem U_def (n : Int) : U n = n % 18446744073709551616 := by
  simp [U, IntKind.wrap, IntKind.bits, IntKind.signed]
theorem W_spec (n : Int) : ∃ q : Int, W n = n - 18446744073709551616 * q ∧ Rng (W n) := by
  unfold Rng
  rw [W_def]
  refine ⟨(n + 9223372036854775808) / 18446744073709551616, ?_⟩
  by_cases h : 9223372036854775808 ≤ n % 18446744073709551616
  · simp only [h, if_true]
    omega
  · simp only [h, if_false]
    omega
theorem U_spec (n : Int) : ∃ q : Int, U n = n - 18446744073709551616 * q ∧ 0 ≤ U n ∧ U n < 18446744073709551616 := by
  rw [U_def]
  exact ⟨n / 18446744073709551616, by omega⟩
theorem W_id {n : Int} (h : Rng n) : W n = n := by
  obtain ⟨q, e, h1⟩ := W_spec n
  unfold Rng at *
  omega
theorem U_id {n : Int} (h : 0 ≤ n ∧ n < 18446744073709551616) : U n = n := by
  obtain ⟨q, e, h1⟩ := U_spec n
  omega
/-- A number if it fits, else none. -/
def fitV (n : Int) : V := if -9223372036854775808 ≤ n ∧ n < 9223372036854775808 then ⟨true, n⟩ else ⟨false, 0⟩
theorem fitV_pos {n : Int} (h : Rng n) : fitV n = ⟨true, n⟩ := if_pos h
def on2 (f : Int → Int → V) (a b : V) : V := if a.k && b.k then f a.n b.n else unk
def addV := on2 fun x y => fitV (x + y)
def subV := on2 fun x y => fitV (x - y)
def mulV := on2 fun x y => fitV (x * y)
def divV := on2 fun x y => if y = 0 then unk else fitV (x.tdiv y)
def modV := on2 fun x y => if y = 0 then unk else knownV (x.tmod y)
def negV (a : V) : V := if a.k then fitV (0 - a.n) else unk
section
variable {a b : V} (ha : Rng a.n) (hb : Rng b.n)
include ha hb
theorem addL_eq : addL a b = addV a b := by
  obtain ⟨q, e, h1⟩ := W_spec (a.n + b.n)
  unfold Rng at *
  simp only [addL, addV, on2, fitV, unk, knownV]
  split
  · split
    · rename_i hc
      simp only [gt_iff_lt, Bool.and_eq_true, bne_iff_ne, ne_eq, decide_eq_decide] at hc
      rw [if_neg]
      omega
    · rename_i hc
      simp only [gt_iff_lt, Bool.and_eq_true, bne_iff_ne, ne_eq, decide_eq_decide] at hc
      rw [if_pos (by omega)]
      congr 1
      omega
  · rfl
theorem subL_eq : subL a b = subV a b := by
  obtain ⟨q, e, h1⟩ := W_spec (a.n - b.n)
  unfold Rng at *
  simp only [subL, subV, on2, fitV, unk, knownV]
  split
  · split
    · rename_i hc
      simp only [gt_iff_lt, Bool.and_eq_true, bne_iff_ne, ne_eq, decide_eq_decide] at hc
      rw [if_neg]
      omega
    · rename_i hc
      simp only [gt_iff_lt, Bool.and_eq_true, bne_iff_ne, ne_eq, decide_eq_decide] at hc
      rw [if_pos (by omega)]
      congr 1
      omega
  · rfl
end
theorem negL_eq {a : V} (ha : Rng a.n) : negL a = negV a := by
  unfold Rng at *
  simp only [negL, negV, unk, knownV]
  cases hk : a.k
  · simp
  · by_cases hm : a.n = -9223372036854775808
    · simp [hm, fitV]
    · have : Rng (0 - a.n) := by unfold Rng; omega
      simp only [Bool.true_and, bne_iff_ne, ne_eq, hm, not_false_eq_true, if_true]
      rw [W_id this, fitV_pos this]
theorem tdiv_bounds {x y : Int} (hy : y ≠ 0) : x = y * x.tdiv y + x.tmod y ∧ (0 ≤ x → 0 ≤ x.tmod y) ∧ (x ≤ 0 → x.tmod y ≤ 0) ∧ (0 < y → x.tmod y < y ∧ -y < x.tmod y) ∧ (y < 0 → x.tmod y < -y ∧ y < x.tmod y) := by
  refine ⟨(Int.mul_tdiv_add_tmod x y).symm, fun h => Int.tmod_nonneg y h, fun h => ?_, fun h => ?_, fun h => ?_⟩
  · have := Int.tmod_nonneg y (a := -x) (by omega)
    rw [Int.neg_tmod] at this
    omega
  · have h1 := Int.tmod_lt_of_pos x h
    have h2 := Int.tmod_lt_of_pos (-x) h
    rw [Int.neg_tmod] at h2
    omega
  · have h1 := Int.tmod_lt_of_pos x (b := -y) (by omega)
    have h2 := Int.tmod_lt_of_pos (-x) (b := -y) (by omega)
    rw [Int.tmod_neg] at h1 h2
    rw [Int.neg_tmod] at h2
    omega
/-- A quotient is no farther from nought than what is divided. -/
theorem tdiv_rng {x y : Int} (hx : Rng x) (hy : y ≠ 0) (hm : ¬ (x = -9223372036854775808 ∧ y = -1)) : Rng (x.tdiv y) := by
  have h1 : (x.tdiv y).natAbs ≤ x.natAbs := by rw [Int.natAbs_tdiv]; exact Nat.div_le_self _ _
  unfold Rng at *
  by_cases hx2 : x = -9223372036854775808
  · by_cases h2 : (x.tdiv y).natAbs = 9223372036854775808
    · rw [Int.natAbs_tdiv, hx2] at h2
      change 9223372036854775808 / y.natAbs = 9223372036854775808 at h2
      have h3 : y.natAbs = 1 := by
        have h5 : 9223372036854775808 / y.natAbs * y.natAbs ≤ 9223372036854775808 := Nat.div_mul_le_self _ _
        rw [h2] at h5
        omega
      have h4 : y = 1 := by omega
      subst h4
      rw [Int.tdiv_one]
      omega
    · omega
  · omega
theorem divL_eq {a b : V} (ha : Rng a.n) : divL a b = divV a b := by
  simp only [divL, divV, on2]
  cases hk : (a.k && b.k)
  · simp
  · by_cases hz : b.n = 0
    · simp [hz]
    · simp only [Bool.true_and, bne_iff_ne, ne_eq, hz, not_false_eq_true, if_true, if_false]
      by_cases hm : a.n = -9223372036854775808 ∧ b.n = -1
      · simp [hm.1, hm.2, fitV, unk]
      · have h1 := tdiv_rng ha hz hm
        rw [if_neg (by simpa using hm), W_id h1]
        rw [fitV_pos h1]
        rfl
theorem modL_eq {a b : V} : modL a b = modV a b := by
  simp only [modL, modV, on2]
  cases hk : (a.k && b.k)
  · simp
  · by_cases hz : b.n = 0
    · simp [hz]
    · simp only [Bool.true_and, bne_iff_ne, ne_eq, hz, not_false_eq_true, if_true, if_false]
      by_cases hm : b.n = -1
      · simp [hm, knownV]
      · simp [hm, knownV]
end Go.Proofs.YtkfphaphiikloaaDoor

/-
  THE NUMBERS OF THIS PROGRAM, PART F: sums and aggregates.
-/
namespace Go.Proofs.YtkfphaphiikloaaDoor
open Go Go.Eng

def sgn (x : Int) : Int := x.fdiv (2 ^ min 63 IntKind.i64.bits)
/-- One more number on a sum of two words. -/
def sumStep (s : Int × Int) (x : Int) : Int × Int :=
  ((s.1 + U (sgn x) + (s.2 + U x + 0) / 18446744073709551616) % 18446744073709551616, (s.2 + U x + 0) % 18446744073709551616)
def sumAt (l : List Int) (j : Nat) : Int × Int := (l.take j).foldl sumStep (0, 0)
theorem sumAt_succ {l : List Int} {j : Nat} (h : j < l.length) : sumAt l (j + 1) = sumStep (sumAt l j) (l.getD j 0) := by
  unfold sumAt
  rw [List.take_add_one, List.getElem?_eq_getElem h, List.foldl_append]
  simp [List.getD_eq_getElem?_getD, List.getElem?_eq_getElem h]
theorem sumAt_rng (l : List Int) (j : Nat) : (0 ≤ (sumAt l j).1 ∧ (sumAt l j).1 < 18446744073709551616) ∧ 0 ≤ (sumAt l j).2 ∧ (sumAt l j).2 < 18446744073709551616 := by
  have : ∀ (m : List Int) (s : Int × Int), ((0 ≤ s.1 ∧ s.1 < 18446744073709551616) ∧ 0 ≤ s.2 ∧ s.2 < 18446744073709551616) → ((0 ≤ (m.foldl sumStep s).1 ∧ (m.foldl sumStep s).1 < 18446744073709551616) ∧ 0 ≤ (m.foldl sumStep s).2 ∧ (m.foldl sumStep s).2 < 18446744073709551616) := fun m => by
    induction m with
    | nil => exact fun s h => h
    | cons x m ih => exact fun s h => ih _ (by unfold sumStep; simp only []; omega)
  exact this _ _ (by simp)
def sumL (l : List Int) : V := if W (sumAt l l.length).1 != sgn (W (sumAt l l.length).2) then unk else knownV (W (sumAt l l.length).2)
def g55 := pureL fun l => vv (sumL l)
theorem wrap_nat {j : Nat} (h : j < big) : IntKind.i64.wrap ((j : Int) + 1) = ((j + 1 : Nat) : Int) := by
  unfold big at h
  have e : IntKind.i64.wrap ((j : Int) + 1) = if 9223372036854775808 ≤ ((j : Int) + 1) % 18446744073709551616 then ((j : Int) + 1) % 18446744073709551616 - 18446744073709551616 else ((j : Int) + 1) % 18446744073709551616 := by
    simp [IntKind.wrap, IntKind.bits, IntKind.signed]
  rw [e]
  split <;> omega
theorem ro_at {h : Heap} {id : Nat} {k : Blk} (hk : h id = some k) : roH h id = some ⟨k.cells, k.ver, false, k.esz⟩ := by simp [roH, hk, Blk.ro]
theorem ne_of {h : Heap} {id n : Nat} {k : Blk} (hk : h id = some k) (hn : ∀ i, n ≤ i → h i = none) : ∀ j, ¬ id = n + j := fun j e => by
  have := hn id (by omega)
  rw [hk] at this
  cases this
def tb55 : List (FuncId × (List AV → Heap → PRes)) := [(74, g51), (159, g67)]
set_option maxRecDepth 100000 in
theorem p55 : P0 [1] 144 g55 := by
  refine mkL (S := [1]) (l := tb55) (tb_cons p51 (tb_cons p67 tb_nil)) Tryd.func144 rfl (by kernel_rfl) (fun a => rfl) (fun a l h n hi hl hn => ?_)
  have key : ∀ e : Nat → AV, e 0 = a → awp (cx [1] (pfL tb55)) (Tryd.f144.body.getD .skip) (finQ (cx [1] (pfL tb55)) Tryd.f144 fun z _ _ => z = vv (sumL l)) ⟨e, roH h, n⟩ := fun e he => by
    rcases ints_cases hi with ⟨rfl, rfl⟩ | ⟨id, off, k, rfl, hk, hoff, hat⟩
    · simp [evs, aeval, binS, cx_ti, cx_G, cx_pf, cx_tw, ti, globS, glob, ldcs, sls, slc, pfL, Tryd.f144, he]
      refine awp_loop (fun s => s.e 12 = ii 0 ∧ s.e 11 = ii 0 ∧ s.e 2 = .p n 0 0 ∧ s.e 3 = uu 0 ∧ s.e 4 = uu 0 ∧ s.h = up (roH h) n (some ⟨[.v (.bool false), .v (.int .i64 0)], 0, true, 2⟩)) (fun _ => 0) (by simp [up, ii, uu]) ?_
      rintro e' h' n' ⟨q12, q11, q2, q3, q4, hh⟩
      simp only [] at q12 q11 q2 q3 q4 hh
      subst hh
      simp [evs, aeval, binS, cx_ti, cx_G, cx_pf, cx_tw, ti, globS, glob, ldcs, sls, slc, pfL, q12, q11, q2, q3, q4, ii, uu, tb55, g51, pure1, deI, vv, knownV, sumL, sumAt, sgn, W, unk]
      decide
    · have h0 := ne_of hk hn 0
      have hro := ro_at hk
      simp only [Nat.add_zero] at h0
      simp [evs, aeval, binS, cx_ti, cx_G, cx_pf, cx_tw, ti, globS, glob, ldcs, sls, slc, pfL, Tryd.f144, he]
      refine awp_loop (fun s => ∃ j, j ≤ l.length ∧ s.e 10 = .s id k.ver off l.length ∧ s.e 12 = ii j ∧ s.e 11 = ii l.length ∧ s.e 2 = .p n 0 0 ∧ s.e 3 = uu (sumAt l j).1 ∧ s.e 4 = uu (sumAt l j).2 ∧ s.h = up (roH h) n (some ⟨[.v (.bool false), .v (.int .i64 0)], 0, true, 2⟩)) (fun s => l.length - (s.e 12).i.toNat) ⟨0, by simp [up, ii, uu, sumAt]⟩ ?_
      rintro e' h' n' ⟨j, hj, q10, q12, q11, q2, q3, q4, hh⟩
      simp only [] at q10 q12 q11 q2 q3 q4 hh
      subst hh
      by_cases hlt : j < l.length
      · have hget := hat j hlt
        have hw := wrap_nat (j := j) (by omega)
        obtain ⟨⟨r1, r2⟩, r3, r4⟩ := sumAt_rng l j
        have hs := sumAt_succ hlt
        simp [evs, aeval, binS, cx_ti, cx_G, cx_pf, cx_tw, ti, globS, glob, ldcs, sls, slc, pfL, q10, q12, q11, q2, q3, q4, ii, uu, tb55, g67, hlt, h0, hro, hget, hw]
        have eg : l.getD j 0 = l[j] := by simp [List.getD_eq_getElem?_getD, hlt]
        rw [eg] at hs
        obtain ⟨_, _, u1⟩ := U_spec l[j]
        obtain ⟨_, _, u2⟩ := U_spec (sgn l[j])
        have v1 : 0 ≤ IntKind.u64.wrap l[j] ∧ IntKind.u64.wrap l[j] < 18446744073709551616 := u1
        have v2 : 0 ≤ IntKind.u64.wrap (l[j].fdiv (2 ^ min 63 IntKind.i64.bits)) := u2.1
        refine ⟨by omega, ⟨r3, v1.1⟩, ⟨r1, v2, by omega, by omega⟩, ⟨j + 1, by omega, by omega, ?_, ?_⟩, by omega⟩
        · rw [hs]; simp [sumStep, sgn, U]
        · rw [hs]; simp [sumStep, U]
      · have hje : j = l.length := by omega
        subst hje
        simp [evs, aeval, binS, cx_ti, cx_G, cx_pf, cx_tw, ti, globS, glob, ldcs, sls, slc, pfL, q12, q11, q2, q3, q4, ii, uu, tb55, g51, pure1, deI, vv, knownV, sumL, sgn, W, unk]
        split <;> rename_i hc <;> simp [hc]
  exact key _ rfl
end Go.Proofs.YtkfphaphiikloaaDoor

/-
  THE NUMBERS OF THIS PROGRAM, THE PLAIN LAWS, B: products, and the reference's two halves.
-/
namespace Go.Proofs.YtkfphaphiikloaaDoor
open Go Go.Eng

theorem and_low (n : Int) : ((BitVec.ofInt 64 n &&& BitVec.ofInt 64 4294967295).toNat : Int) = n % 4294967296 := by
  have h : (BitVec.ofInt 64 n &&& BitVec.ofInt 64 4294967295).toNat = (n % 18446744073709551616).toNat % 4294967296 := by
    rw [BitVec.toNat_and, BitVec.toNat_ofInt, BitVec.toNat_ofInt]
    exact Nat.and_two_pow_sub_one_eq_mod _ 32
  rw [h]
  omega
theorem B_eq (n : Int) : B n = n % 4294967296 := by
  unfold B
  have : IntKind.u64.bits = 64 := rfl
  rw [this, and_low, U_id]
  omega
theorem S_eq {n : Int} : S n = n / 4294967296 := by
  unfold S
  have : (2 : Int) ^ min 32 IntKind.u64.bits = 4294967296 := rfl
  rw [this, Int.fdiv_eq_ediv_of_nonneg _ (by decide)]
theorem mul_bound {x y : Int} (hx : 0 ≤ x ∧ x ≤ 4294967295) (hy : 0 ≤ y ∧ y ≤ 4294967295) : 0 ≤ x * y ∧ x * y ≤ 18446744065119617025 := by
  refine ⟨Int.mul_nonneg hx.1 hy.1, ?_⟩
  exact Int.le_trans (Int.mul_le_mul hx.2 hy.2 hy.1 (by decide)) (by decide)
theorem mulHi_eq {x y : Int} (hx : 0 ≤ x ∧ x < 18446744073709551616) (hy : 0 ≤ y ∧ y < 18446744073709551616) : mulHi x y = x * y / 18446744073709551616 := by
  have hx0 : 0 ≤ x % 4294967296 ∧ x % 4294967296 ≤ 4294967295 := by omega
  have hy0 : 0 ≤ y % 4294967296 ∧ y % 4294967296 ≤ 4294967295 := by omega
  have hx1 : 0 ≤ x / 4294967296 ∧ x / 4294967296 ≤ 4294967295 := by omega
  have hy1 : 0 ≤ y / 4294967296 ∧ y / 4294967296 ≤ 4294967295 := by omega
  have ex : x = 4294967296 * (x / 4294967296) + x % 4294967296 := by omega
  have ey : y = 4294967296 * (y / 4294967296) + y % 4294967296 := by omega
  unfold mulHi mulT
  simp only [B_eq, S_eq]
  generalize x / 4294967296 = x1 at *
  generalize x % 4294967296 = x0 at *
  generalize y / 4294967296 = y1 at *
  generalize y % 4294967296 = y0 at *
  have e : x * y = 18446744073709551616 * (x1 * y1) + 4294967296 * (x1 * y0) + 4294967296 * (x0 * y1) + x0 * y0 := by
    rw [ex, ey]
    grind
  rw [e]
  have b00 := mul_bound hx0 hy0
  have b10 := mul_bound hx1 hy0
  have b01 := mul_bound hx0 hy1
  have b11 := mul_bound hx1 hy1
  generalize x0 * y0 = p00 at *
  generalize x1 * y0 = p10 at *
  generalize x0 * y1 = p01 at *
  generalize x1 * y1 = p11 at *
  rw [U_id (n := p10) (by omega), U_id (n := p00) (by omega), U_id (n := p01) (by omega), U_id (n := p11) (by omega), U_id (n := p10 + p00 / 4294967296) (by omega)]
  rw [U_id (n := (p10 + p00 / 4294967296) % 4294967296 + p01) (by omega), U_id (n := p11 + (p10 + p00 / 4294967296) / 4294967296) (by omega)]
  rw [U_id (by omega)]
  omega
theorem sizeU_eq {n : Int} (h : Rng n) : sizeU n = if n < 0 then -n else n := by
  unfold Rng at h
  have e : sizeU n = if n < 0 then U (0 - U n) else U n := rfl
  rw [e]
  split
  · rw [U_def, U_def]; omega
  · rw [U_def]; omega
theorem mulL_eq {a b : V} (ha : Rng a.n) (hb : Rng b.n) : mulL a b = mulV a b := by
  obtain ⟨k, m⟩ := a
  obtain ⟨k', m'⟩ := b
  simp only at ha hb
  cases k
  · simp [mulL, mulV, on2]
  cases k'
  · simp [mulL, mulV, on2]
  have h1 := sizeU_eq ha
  have h2 := sizeU_eq hb
  unfold Rng at *
  have r1 : 0 ≤ sizeU m ∧ sizeU m < 18446744073709551616 := by rw [h1]; split <;> omega
  have r2 : 0 ≤ sizeU m' ∧ sizeU m' < 18446744073709551616 := by rw [h2]; split <;> omega
  have ep : 0 ≤ sizeU m * sizeU m' := Int.mul_nonneg r1.1 r2.1
  have es : m * m' = if (decide (m < 0) != decide (m' < 0)) = true then -(sizeU m * sizeU m') else sizeU m * sizeU m' := by
    rw [h1, h2]
    by_cases q1 : m < 0 <;> by_cases q2 : m' < 0 <;> simp [q1, q2, Int.neg_mul, Int.mul_neg]
  simp only [mulL, mulV, on2, mulHi_eq r1 r2, mulNeg, Bool.and_self, if_true, unk, knownV]
  rw [es]
  clear es
  generalize sizeU m * sizeU m' = p at *
  unfold fitV
  rw [U_def p]
  obtain ⟨s, hs⟩ : ∃ s, (decide (m < 0) != decide (m' < 0)) = s := ⟨_, rfl⟩
  simp only [hs]
  cases s
  · simp only [Bool.false_and, Bool.false_eq_true, if_false, Bool.not_false, Bool.true_and, decide_eq_true_eq, bne_iff_ne, ne_eq]
    by_cases q : p / 18446744073709551616 = 0
    · rw [if_neg (by simpa using q)]
      by_cases q2 : p % 18446744073709551616 < 9223372036854775808
      · rw [if_pos q2, W_id (by unfold Rng; omega), if_pos (by omega)]
        congr 1; omega
      · rw [if_neg q2, if_neg (by omega)]
    · rw [if_pos (by simpa using q), if_neg (by omega)]
  · simp only [Bool.true_and, if_true, Bool.not_true, Bool.false_and, Bool.false_eq_true, if_false, decide_eq_true_eq, bne_iff_ne, ne_eq]
    by_cases q : p / 18446744073709551616 = 0
    · rw [if_neg (by simpa using q)]
      by_cases q2 : p % 18446744073709551616 ≤ 9223372036854775808
      · rw [if_pos q2, if_pos (by omega)]
        congr 1
        rw [W_def, U_def]
        split <;> omega
      · rw [if_neg q2, if_neg (by omega)]
    · rw [if_pos (by simpa using q), if_neg (by omega)]
section
variable {a b : V} (ha : Rng a.n) (hb : Rng b.n)
include ha hb
end
end Go.Proofs.YtkfphaphiikloaaDoor

/-
  THE NUMBERS OF THIS PROGRAM, PART G: the reference's sum and extremes.
-/
namespace Go.Proofs.YtkfphaphiikloaaDoor
open Go Go.Eng

/-- The least (the greatest) of the first so many numbers. -/
def extAt (g : Bool) (l : List Int) (j : Nat) : Int := (l.take j).foldl (fun m x => if (if g then decide (m < x) else decide (x < m)) then x else m) (l.getD 0 0)
theorem extAt_succ {g : Bool} {l : List Int} {j : Nat} (h : j < l.length) : extAt g l (j + 1) = if (if g then decide (extAt g l j < l[j]) else decide (l[j] < extAt g l j)) then l[j] else extAt g l j := by
  unfold extAt
  rw [List.take_add_one, List.getElem?_eq_getElem h, List.foldl_append]
  simp
end Go.Proofs.YtkfphaphiikloaaDoor

/-
  THE NUMBERS OF THIS PROGRAM, PART H: Fold, on both sides.
-/
namespace Go.Proofs.YtkfphaphiikloaaDoor
open Go Go.Eng

theorem ints_congr {h h' : Heap} {a : AV} {l : List Int} (hh : ∀ id ver off len, a = .s id ver off len → ∀ k, h id = some k → ∃ k', h' id = some k' ∧ k'.cells = k.cells ∧ k'.ver = k.ver) (e : ints h a = some l) : ints h' a = some l := by
  unfold ints at e ⊢
  split at e
  · split at e
    · rename_i k hk
      obtain ⟨k', q1, q2, q3⟩ := hh _ _ _ _ rfl k hk
      simp only [q1, q2, q3]
      exact e
    · cases e
  · exact e
  · cases e
/-- A new block does not turn what is read. -/
theorem ints_up {h : Heap} {n : Nat} {a : AV} {l : List Int} (e : ints h a = some l) (hn : ∀ i, n ≤ i → h i = none) (b : Option Blk) : ints (up (roH h) n b) a = some l :=
  ints_congr (fun id ver off len _ k hk => ⟨⟨k.cells, k.ver, false, k.esz⟩, by
    have := ne_of hk hn 0
    simp only [Nat.add_zero] at this
    simp [up, this, ro_at hk], rfl, rfl⟩) e
def foldG (s : List Int → V) (o : Int) (l : List Int) : V :=
  if o = 5 then knownV l.length else if o = 6 then s l else if l = [] then unk else if o = 7 then knownV (extAt false l l.length) else if o = 8 then knownV (extAt true l l.length) else
  if o = 9 then knownV (l.getD 0 0) else if o = 10 then knownV (l.getD (l.length - 1) 0) else unk
def g33 := pureAL deI (fun _ _ => True) fun o l => vv (foldG sumL o l)
theorem wrap_last {n : Nat} (h0 : 0 < n) (h : n < big) : IntKind.i64.wrap ((n : Int) - 1) = ((n - 1 : Nat) : Int) := by
  unfold big at h
  have e : IntKind.i64.wrap ((n : Int) - 1) = (n : Int) - 1 := W_id (by unfold Rng; omega)
  rw [e]
  omega
def tb33 : List (FuncId × (List AV → Heap → PRes)) := [(74, g51), (144, g55)]
set_option maxRecDepth 100000 in
set_option maxHeartbeats 1000000 in
theorem p33 : P0 [1] 125 g33 := by
  refine mkAL (S := [1]) (l := tb33) (tb_cons p51 (tb_cons p55 tb_nil)) Tryd.func125 rfl (by kernel_rfl) ii (fun x a h => deI_out h) (fun a b => rfl) (fun o a l h n hi hl _ hn => ?_)
  have hup := ints_up hi hn
  have key : ∀ e : Nat → AV, e 0 = ii o → e 1 = a → awp (cx [1] (pfL tb33)) (Tryd.f125.body.getD .skip) (finQ (cx [1] (pfL tb33)) Tryd.f125 fun z _ _ => z = vv (foldG sumL o l)) ⟨e, roH h, n⟩ := fun e he he1 => by
    rcases ints_cases hi with ⟨rfl, rfl⟩ | ⟨id, off, k, rfl, hk, hoff, hat⟩
    · by_cases h5 : o = 5
      · subst h5
        simp [evs, aeval, binS, cx_ti, cx_G, cx_pf, cx_tw, ti, globS, glob, ldcs, sls, slc, pfL, Tryd.f125, he, he1, ii, tb33, g51, pure1, deI, vv, knownV, foldG]
      by_cases h6 : o = 6
      · subst h6
        simp [evs, aeval, binS, cx_ti, cx_G, cx_pf, cx_tw, ti, globS, glob, ldcs, sls, slc, pfL, Tryd.f125, he, he1, ii, tb33, g55, pureL, hup, vv, foldG, big]
      simp [evs, aeval, binS, cx_ti, cx_G, cx_pf, cx_tw, ti, globS, glob, ldcs, sls, slc, pfL, Tryd.f125, he, he1, ii, tb33, h5, h6, vv, unk, foldG]
    · have h0 := ne_of hk hn 0
      simp only [Nat.add_zero] at h0
      have hro := ro_at hk
      by_cases h5 : o = 5
      · subst h5
        simp [evs, aeval, binS, cx_ti, cx_G, cx_pf, cx_tw, ti, globS, glob, ldcs, sls, slc, pfL, Tryd.f125, he, he1, ii, tb33, g51, pure1, deI, vv, knownV, foldG]
      by_cases h6 : o = 6
      · subst h6
        simp [evs, aeval, binS, cx_ti, cx_G, cx_pf, cx_tw, ti, globS, glob, ldcs, sls, slc, pfL, Tryd.f125, he, he1, ii, tb33, g55, pureL, hup, vv, foldG, hl]
      by_cases hz : l = []
      · subst hz
        simp [evs, aeval, binS, cx_ti, cx_G, cx_pf, cx_tw, ti, globS, glob, ldcs, sls, slc, pfL, Tryd.f125, he, he1, ii, tb33, h5, h6, vv, unk, foldG]
      have hp : 0 < l.length := List.length_pos_iff.2 hz
      have hp' : ¬ l.length = 0 := by omega
      have hget0 := hat 0 hp
      simp only [Nat.add_zero] at hget0
      have ho1 : off + 1 ≤ k.cells.length := by omega
      have hgl := hat (l.length - 1) (by omega)
      have hwl := wrap_last hp hl
      have hol : off + (l.length - 1 + 1) ≤ k.cells.length := by omega
      simp [evs, aeval, binS, cx_ti, cx_G, cx_pf, cx_tw, ti, globS, glob, ldcs, sls, slc, pfL, Tryd.f125, he, he1, ii, tb33, h5, h6, hz, hp, hro, h0, hget0, ho1]
      refine awp_loop (fun s => ∃ j, j ≤ l.length ∧ s.e 0 = ii o ∧ s.e 1 = .s id k.ver off l.length ∧ s.e 29 = .s id k.ver off l.length ∧ s.e 30 = ii l.length ∧ s.e 31 = ii j ∧ s.e 4 = .p n 0 0 ∧ s.e 5 = ii (extAt false l j) ∧ s.e 6 = ii (extAt true l j) ∧ s.h n = some ⟨[.v (.bool false), .v (.int .i64 0)], 0, true, 2⟩ ∧ s.h id = some ⟨k.cells, k.ver, false, k.esz⟩) (fun s => l.length - (s.e 31).i.toNat) ⟨0, by simp [up, ii, he, he1, hro, h0, extAt, List.getD_eq_getElem?_getD, hp]⟩ ?_
      rintro e' h' n' ⟨j, hj, q0, q1, q29, q30, q31, q4, q5, q6, hh, hh2⟩
      simp only [] at q0 q1 q29 q30 q31 q4 q5 q6 hh hh2
      by_cases hlt : j < l.length
      · have hget := hat j hlt
        have hw := wrap_nat (j := j) (by omega)
        have hs := extAt_succ (g := false) hlt
        have hs' := extAt_succ (g := true) hlt
        have eg : l.getD j 0 = l[j] := by simp [List.getD_eq_getElem?_getD, hlt]
        rw [eg] at hget
        have ho : off + (j + 1) ≤ k.cells.length := by omega
        simp at hs hs'
        simp [evs, aeval, binS, cx_ti, cx_G, cx_pf, cx_tw, ti, globS, glob, ldcs, sls, slc, pfL, q0, q1, q29, q30, q31, q4, q5, q6, hh, hh2, ii, hlt, hget, hw, ho, h0]
        exact ⟨⟨j + 1, by omega, by omega, by rw [hs], by rw [hs']⟩, by omega⟩
      · have hje : j = l.length := by omega
        subst hje
        by_cases h7 : o = 7
        · subst h7
          simp [evs, aeval, binS, cx_ti, cx_G, cx_pf, cx_tw, ti, globS, glob, ldcs, sls, slc, pfL, q0, q1, q29, q30, q31, q4, q5, q6, hh, hh2, ii, h0, tb33, g51, pure1, deI, vv, knownV, foldG, hz]
        by_cases h8 : o = 8
        · subst h8
          simp [evs, aeval, binS, cx_ti, cx_G, cx_pf, cx_tw, ti, globS, glob, ldcs, sls, slc, pfL, q0, q1, q29, q30, q31, q4, q5, q6, hh, hh2, ii, h0, tb33, g51, pure1, deI, vv, knownV, foldG, hz]
        by_cases h9 : o = 9
        · subst h9
          simp [evs, aeval, binS, cx_ti, cx_G, cx_pf, cx_tw, ti, globS, glob, ldcs, sls, slc, pfL, q0, q1, q29, q30, q31, q4, q5, q6, hh, hh2, ii, h0, tb33, g51, pure1, deI, vv, knownV, foldG, hz, hget0, ho1, hp]
        by_cases h10 : o = 10
        · subst h10
          simp [evs, aeval, binS, cx_ti, cx_G, cx_pf, cx_tw, ti, globS, glob, ldcs, sls, slc, pfL, q0, q1, q29, q30, q31, q4, q5, q6, hh, hh2, ii, h0, tb33, g51, pure1, deI, vv, knownV, foldG, hz, hgl, hwl, hol, hp]
          omega
        simp [evs, aeval, binS, cx_ti, cx_G, cx_pf, cx_tw, ti, globS, glob, ldcs, sls, slc, pfL, q0, q1, q29, q30, q31, q4, q5, q6, hh, hh2, ii, h0, tb33, h7, h8, h9, h10, vv, unk, foldG, hz, h5, h6]
  exact key _ rfl rfl
end Go.Proofs.YtkfphaphiikloaaDoor

/-
  THE NUMBERS OF THIS PROGRAM, THE PLAIN LAWS, C: sums of lists.
-/
namespace Go.Proofs.YtkfphaphiikloaaDoor
open Go Go.Eng

def All (l : List Int) : Prop := ∀ x ∈ l, Rng x
theorem sum_take {l : List Int} {j : Nat} (h : j < l.length) : (l.take (j + 1)).sum = (l.take j).sum + l[j] := by
  rw [List.take_add_one, List.getElem?_eq_getElem h, Option.toList_some, List.sum_append, List.sum_cons, List.sum_nil, Int.add_zero]
theorem sum_bound {l : List Int} (ha : All l) : ∀ j, j ≤ l.length → -(9223372036854775808 * (j : Int)) ≤ (l.take j).sum ∧ (l.take j).sum ≤ 9223372036854775808 * (j : Int)
  | 0, _ => by simp
  | j + 1, h => by
    have ih := sum_bound ha j (by omega)
    have hx := ha l[j] (List.getElem_mem _)
    rw [sum_take (by omega)]
    unfold Rng at hx
    omega
theorem sgn_eq {x : Int} (h : Rng x) : sgn x = if x < 0 then -1 else 0 := by
  unfold sgn
  have e : (2 : Int) ^ min 63 IntKind.i64.bits = 9223372036854775808 := rfl
  rw [e, Int.fdiv_eq_ediv_of_nonneg _ (by decide)]
  unfold Rng at h
  split <;> omega
theorem sumAt_eq {l : List Int} (ha : All l) : ∀ j, j ≤ l.length → ∃ q : Int, (sumAt l j).1 * 18446744073709551616 + (sumAt l j).2 = (l.take j).sum + 340282366920938463463374607431768211456 * q
  | 0, _ => ⟨0, by simp [sumAt]⟩
  | j + 1, h => by
    obtain ⟨q, ih⟩ := sumAt_eq ha j (by omega)
    have hx := ha l[j] (List.getElem_mem _)
    have eg : l.getD j 0 = l[j] := by simp [List.getD_eq_getElem?_getD, show j < l.length by omega]
    rw [sum_take (by omega), sumAt_succ (by omega), eg]
    obtain ⟨⟨r1, r2⟩, r3, r4⟩ := sumAt_rng l j
    unfold sumStep
    simp only []
    rw [sgn_eq hx, U_def l[j]]
    generalize (sumAt l j).1 = hi at *
    generalize (sumAt l j).2 = lo at *
    generalize l[j] = x at *
    generalize (List.take j l).sum = s at *
    unfold Rng at hx
    by_cases h0 : x < 0
    · rw [if_pos h0]
      have e : U (-1) = 18446744073709551615 := rfl
      rw [e]
      have c : (lo + x % 18446744073709551616 + 0) / 18446744073709551616 = 0 ∨ (lo + x % 18446744073709551616 + 0) / 18446744073709551616 = 1 := by omega
      have m : (hi + 18446744073709551615 + (lo + x % 18446744073709551616 + 0) / 18446744073709551616) / 18446744073709551616 = 0 ∨ (hi + 18446744073709551615 + (lo + x % 18446744073709551616 + 0) / 18446744073709551616) / 18446744073709551616 = 1 := by omega
      rcases m with m | m
      · exact ⟨q + 1, by omega⟩
      · exact ⟨q, by omega⟩
    · rw [if_neg h0]
      have e : U 0 = 0 := rfl
      rw [e]
      have m : (hi + 0 + (lo + x % 18446744073709551616 + 0) / 18446744073709551616) / 18446744073709551616 = 0 ∨ (hi + 0 + (lo + x % 18446744073709551616 + 0) / 18446744073709551616) / 18446744073709551616 = 1 := by omega
      rcases m with m | m
      · exact ⟨q, by omega⟩
      · exact ⟨q - 1, by omega⟩
theorem sumL_eq {l : List Int} (ha : All l) (hl : l.length < big) : sumL l = fitV l.sum := by
  obtain ⟨q, e⟩ := sumAt_eq ha l.length (Nat.le_refl _)
  have b := sum_bound ha l.length (Nat.le_refl _)
  obtain ⟨⟨r1, r2⟩, r3, r4⟩ := sumAt_rng l l.length
  rw [List.take_length] at e b
  unfold sumL
  have hw := W_spec (sumAt l l.length).2
  rw [sgn_eq (by obtain ⟨_, _, h⟩ := hw; exact h)]
  rw [W_def, W_def]
  unfold big at hl
  generalize (sumAt l l.length).1 = hi at *
  generalize (sumAt l l.length).2 = lo at *
  generalize l.sum = s at *
  have hb : -42535295865117307932921825928971026432 < s ∧ s < 42535295865117307932921825928971026432 := by omega
  unfold fitV unk knownV
  rw [show hi % 18446744073709551616 = hi by omega, show lo % 18446744073709551616 = lo by omega]
  by_cases c1 : 9223372036854775808 ≤ hi <;> by_cases c2 : 9223372036854775808 ≤ lo <;> simp only [c1, c2, if_true, if_false]
  · rw [if_pos (show lo - 18446744073709551616 < 0 by omega)]
    by_cases c3 : hi - 18446744073709551616 = -1
    · rw [if_neg (by simpa using c3), if_pos (by omega)]
      congr 1; omega
    · rw [if_pos (by simpa using c3), if_neg (by omega)]
  · rw [if_neg (show ¬ lo < 0 by omega)]
    rw [if_pos (by simp; omega), if_neg (by omega)]
  · rw [if_pos (show lo - 18446744073709551616 < 0 by omega)]
    rw [if_pos (by simp; omega), if_neg (by omega)]
  · rw [if_neg (show ¬ lo < 0 by omega)]
    by_cases c3 : hi = 0
    · rw [if_neg (by simpa using c3), if_pos (by omega)]
      congr 1; omega
    · rw [if_pos (by simpa using c3), if_neg (by omega)]
end Go.Proofs.YtkfphaphiikloaaDoor
