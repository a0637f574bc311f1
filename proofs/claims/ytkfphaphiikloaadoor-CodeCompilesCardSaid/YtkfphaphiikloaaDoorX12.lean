/-
  THE NUMBERS OF THIS PROGRAM, THE PLAIN LAWS, B: products, and the reference's two halves.
-/
import Derived.Test.YtkfphaphiikloaaDoorX11
set_option linter.unusedSimpArgs false
set_option linter.unusedVariables false
set_option linter.constructorNameAsVariable false
namespace Go.Proofs.YtkfphaphiikloaaDoor
open Go Go.Eng

theorem and_low (n : Int) : ((BitVec.ofInt 64 n &&& BitVec.ofInt 64 4294967295).toNat : Int) = n % 4294967296 := by
  have h : (BitVec.ofInt 64 n &&& BitVec.ofInt 64 4294967295).toNat = (n % 18446744073709551616).toNat % 4294967296 := by
    rw [BitVec.toNat_and, BitVec.toNat_ofInt, BitVec.toNat_ofInt]
    exact Nat.and_two_pow_sub_one_eq_mod _ 32
  rw [h]
  omega
theorem B_eq (n : Int) : B n = n % 4294967296 := by
  unfold B
  have : IntKind.u64.bits = 64 := rfl
  rw [this, and_low, U_id]
  omega
theorem S_eq {n : Int} : S n = n / 4294967296 := by
  unfold S
  have : (2 : Int) ^ min 32 IntKind.u64.bits = 4294967296 := rfl
  rw [this, Int.fdiv_eq_ediv_of_nonneg _ (by decide)]
theorem mul_bound {x y : Int} (hx : 0 ≤ x ∧ x ≤ 4294967295) (hy : 0 ≤ y ∧ y ≤ 4294967295) : 0 ≤ x * y ∧ x * y ≤ 18446744065119617025 := by
  refine ⟨Int.mul_nonneg hx.1 hy.1, ?_⟩
  exact Int.le_trans (Int.mul_le_mul hx.2 hy.2 hy.1 (by decide)) (by decide)
theorem mulHi_eq {x y : Int} (hx : 0 ≤ x ∧ x < 18446744073709551616) (hy : 0 ≤ y ∧ y < 18446744073709551616) : mulHi x y = x * y / 18446744073709551616 := by
  have hx0 : 0 ≤ x % 4294967296 ∧ x % 4294967296 ≤ 4294967295 := by omega
  have hy0 : 0 ≤ y % 4294967296 ∧ y % 4294967296 ≤ 4294967295 := by omega
  have hx1 : 0 ≤ x / 4294967296 ∧ x / 4294967296 ≤ 4294967295 := by omega
  have hy1 : 0 ≤ y / 4294967296 ∧ y / 4294967296 ≤ 4294967295 := by omega
  have ex : x = 4294967296 * (x / 4294967296) + x % 4294967296 := by omega
  have ey : y = 4294967296 * (y / 4294967296) + y % 4294967296 := by omega
  unfold mulHi mulT
  simp only [B_eq, S_eq]
  generalize x / 4294967296 = x1 at *
  generalize x % 4294967296 = x0 at *
  generalize y / 4294967296 = y1 at *
  generalize y % 4294967296 = y0 at *
  have e : x * y = 18446744073709551616 * (x1 * y1) + 4294967296 * (x1 * y0) + 4294967296 * (x0 * y1) + x0 * y0 := by
    rw [ex, ey]
    grind
  rw [e]
  have b00 := mul_bound hx0 hy0
  have b10 := mul_bound hx1 hy0
  have b01 := mul_bound hx0 hy1
  have b11 := mul_bound hx1 hy1
  generalize x0 * y0 = p00 at *
  generalize x1 * y0 = p10 at *
  generalize x0 * y1 = p01 at *
  generalize x1 * y1 = p11 at *
  rw [U_id (n := p10) (by omega), U_id (n := p00) (by omega), U_id (n := p01) (by omega), U_id (n := p11) (by omega), U_id (n := p10 + p00 / 4294967296) (by omega)]
  rw [U_id (n := (p10 + p00 / 4294967296) % 4294967296 + p01) (by omega), U_id (n := p11 + (p10 + p00 / 4294967296) / 4294967296) (by omega)]
  rw [U_id (by omega)]
  omega
theorem sizeU_eq {n : Int} (h : Rng n) : sizeU n = if n < 0 then -n else n := by
  unfold Rng at h
  have e : sizeU n = if n < 0 then U (0 - U n) else U n := rfl
  rw [e]
  split
  · rw [U_def, U_def]; omega
  · rw [U_def]; omega
theorem mulL_eq {a b : V} (ha : Rng a.n) (hb : Rng b.n) : mulL a b = mulV a b := by
  obtain ⟨k, m⟩ := a
  obtain ⟨k', m'⟩ := b
  simp only at ha hb
  cases k
  · simp [mulL, mulV, on2]
  cases k'
  · simp [mulL, mulV, on2]
  have h1 := sizeU_eq ha
  have h2 := sizeU_eq hb
  unfold Rng at *
  have r1 : 0 ≤ sizeU m ∧ sizeU m < 18446744073709551616 := by rw [h1]; split <;> omega
  have r2 : 0 ≤ sizeU m' ∧ sizeU m' < 18446744073709551616 := by rw [h2]; split <;> omega
  have ep : 0 ≤ sizeU m * sizeU m' := Int.mul_nonneg r1.1 r2.1
  have es : m * m' = if (decide (m < 0) != decide (m' < 0)) = true then -(sizeU m * sizeU m') else sizeU m * sizeU m' := by
    rw [h1, h2]
    by_cases q1 : m < 0 <;> by_cases q2 : m' < 0 <;> simp [q1, q2, Int.neg_mul, Int.mul_neg]
  simp only [mulL, mulV, on2, mulHi_eq r1 r2, mulNeg, Bool.and_self, if_true, unk, knownV]
  rw [es]
  clear es
  generalize sizeU m * sizeU m' = p at *
  unfold fitV
  rw [U_def p]
  obtain ⟨s, hs⟩ : ∃ s, (decide (m < 0) != decide (m' < 0)) = s := ⟨_, rfl⟩
  simp only [hs]
  cases s
  · simp only [Bool.false_and, Bool.false_eq_true, if_false, Bool.not_false, Bool.true_and, decide_eq_true_eq, bne_iff_ne, ne_eq]
    by_cases q : p / 18446744073709551616 = 0
    · rw [if_neg (by simpa using q)]
      by_cases q2 : p % 18446744073709551616 < 9223372036854775808
      · rw [if_pos q2, W_id (by unfold Rng; omega), if_pos (by omega)]
        congr 1; omega
      · rw [if_neg q2, if_neg (by omega)]
    · rw [if_pos (by simpa using q), if_neg (by omega)]
  · simp only [Bool.true_and, if_true, Bool.not_true, Bool.false_and, Bool.false_eq_true, if_false, decide_eq_true_eq, bne_iff_ne, ne_eq]
    by_cases q : p / 18446744073709551616 = 0
    · rw [if_neg (by simpa using q)]
      by_cases q2 : p % 18446744073709551616 ≤ 9223372036854775808
      · rw [if_pos q2, if_pos (by omega)]
        congr 1
        rw [W_def, U_def]
        split <;> omega
      · rw [if_neg q2, if_neg (by omega)]
    · rw [if_pos (by simpa using q), if_neg (by omega)]
theorem rmulL_eq {a b : V} (ha : Rng a.n) (hb : Rng b.n) : rmulL a b = mulV a b := by
  obtain ⟨k, m⟩ := a
  obtain ⟨k', m'⟩ := b
  simp only at ha hb
  cases k
  · simp [rmulL, mulV, on2]
  cases k'
  · simp [rmulL, mulV, on2]
  simp only [rmulL, mulV, on2, Bool.and_self, if_true]
  by_cases hz : m' = 0
  · subst hz
    simp [fitV, knownV]
  rw [if_neg hz]
  by_cases h1 : m' = -1
  · subst h1
    rw [if_pos rfl, negL_eq ha]
    simp only [negV, if_true]
    congr 1
    omega
  rw [if_neg h1]
  obtain ⟨q, e, hr⟩ := W_spec (m * m')
  have hr' := hr
  have ht : Rng ((W (m * m')).tdiv m') := tdiv_rng hr hz (fun h => h1 h.2)
  rw [W_id ht]
  obtain ⟨t1, t2, t3, t4, t5⟩ := tdiv_bounds (x := W (m * m')) hz
  by_cases hf : Rng (m * m')
  · rw [W_id hf, Int.mul_tdiv_cancel _ hz, if_neg (by simp), fitV_pos hf]
    rfl
  · rw [fitV_neg hf, if_pos]
    · rfl
    · simp only [bne_iff_ne, ne_eq]
      intro h2
      rw [h2] at t1
      rw [Int.mul_comm m' m] at t1
      have hq : q ≠ 0 := fun h => by rw [h] at e; rw [show m * m' = W (m * m') by omega] at hf; exact hf hr'
      unfold Rng at *
      generalize m * m' = p at *
      rcases Int.lt_or_gt_of_ne hz with h | h
      · have := t5 h; omega
      · have := t4 h; omega
theorem widen_eq {n : Int} : widenL n = (n / 4294967296, n % 4294967296) := by
  unfold widenL
  have h1 : (2 : Int) ^ min 32 IntKind.i64.bits = 4294967296 := rfl
  have h2 : IntKind.i64.bits = 64 := rfl
  rw [h1, h2, and_low, Int.fdiv_eq_ediv_of_nonneg _ (by decide), W_id]
  unfold Rng
  omega
theorem fitL_eq {h l : Int} (hh : -4611686018427387904 ≤ h ∧ h < 4611686018427387904) (hl : 0 ≤ l ∧ l < 4294967296) : fitL (h, l) = fitV (h * 4294967296 + l) := by
  unfold fitL fitV
  by_cases q : h < -2147483648 ∨ h ≥ 2147483648
  · rw [if_pos q, if_neg (by omega)]
    rfl
  · rw [if_neg q, if_pos (by omega), W_id (n := h * 4294967296) (by unfold Rng; omega), W_id (by unfold Rng; omega)]
    rfl
section
variable {a b : V} (ha : Rng a.n) (hb : Rng b.n)
include ha hb
theorem raddL_eq : raddL a b = addV a b := by
  unfold Rng at *
  simp only [raddL, addV, on2]
  split
  · rw [widen_eq, widen_eq]
    unfold plusL
    simp only []
    rw [W_id (n := a.n % 4294967296 + b.n % 4294967296) (by unfold Rng; omega), W_id (n := a.n / 4294967296 + b.n / 4294967296) (by unfold Rng; omega)]
    split
    · rw [W_id (n := a.n / 4294967296 + b.n / 4294967296 + 1) (by unfold Rng; omega), W_id (n := a.n % 4294967296 + b.n % 4294967296 - 4294967296) (by unfold Rng; omega), fitL_eq (by omega) (by omega)]
      congr 1; omega
    · rw [fitL_eq (by omega) (by omega)]
      congr 1; omega
  · rfl
theorem rsubL_eq : rsubL a b = subV a b := by
  unfold Rng at *
  simp only [rsubL, subV, on2]
  split
  · rw [widen_eq, widen_eq]
    unfold minusL
    simp only []
    rw [W_id (n := a.n % 4294967296 - b.n % 4294967296) (by unfold Rng; omega), W_id (n := a.n / 4294967296 - b.n / 4294967296) (by unfold Rng; omega)]
    split
    · rw [W_id (n := a.n / 4294967296 - b.n / 4294967296 - 1) (by unfold Rng; omega), W_id (n := a.n % 4294967296 - b.n % 4294967296 + 4294967296) (by unfold Rng; omega), fitL_eq (by omega) (by omega)]
      congr 1; omega
    · rw [fitL_eq (by omega) (by omega)]
      congr 1; omega
  · rfl
end
/-- Both sides answer alike, whatever is asked. -/
theorem apply_eq (o : Int) {a b : V} (ha : Rng a.n) (hb : Rng b.n) : applyL o a b = rapplyL o a b := by
  unfold applyL rapplyL
  rw [addL_eq ha hb, raddL_eq ha hb, subL_eq ha hb, rsubL_eq ha hb, mulL_eq ha hb, rmulL_eq ha hb, divL_eq ha, rdivL_eq ha, modL_eq, rmodL_eq ha hb]
end Go.Proofs.YtkfphaphiikloaaDoor

/-
  THE NUMBERS OF THIS PROGRAM, PART G: the reference's sum and extremes.
-/
namespace Go.Proofs.YtkfphaphiikloaaDoor
open Go Go.Eng

def rsumAt (l : List Int) (j : Nat) : Int × Int := (l.take j).foldl (fun s x => plusL s (widenL x)) (0, 0)
theorem rsumAt_succ {l : List Int} {j : Nat} (h : j < l.length) : rsumAt l (j + 1) = plusL (rsumAt l j) (widenL l[j]) := by
  unfold rsumAt
  rw [List.take_add_one, List.getElem?_eq_getElem h, List.foldl_append]
  simp
def rsumL (l : List Int) : V := fitL (rsumAt l l.length)
def g56 := pureL fun l => vv (rsumL l)
def tb56 : List (FuncId × (List AV → Heap → PRes)) := [(145, g61), (146, g62), (147, g63)]
set_option maxRecDepth 100000 in
theorem p56 : P0 [] 150 g56 := by
  refine mkL (S := []) (l := tb56) (tb_cons p61 (tb_cons p62 (tb_cons p63 tb_nil))) Tryd.func150 rfl (by kernel_rfl) (fun a => rfl) (fun a l h n hi hl hn => ?_)
  have key : ∀ e : Nat → AV, e 0 = a → awp (cx [] (pfL tb56)) (Tryd.f150.body.getD .skip) (finQ (cx [] (pfL tb56)) Tryd.f150 fun z _ _ => z = vv (rsumL l)) ⟨e, roH h, n⟩ := fun e he => by
    rcases ints_cases hi with ⟨rfl, rfl⟩ | ⟨id, off, k, rfl, hk, hoff, hat⟩
    · simp [evs, resAll, resVal, resOne, freeOp, isA, goOp, appNew, mkOp, gev, Region.binds, aop, aeval, gocall, heapOp, quietOp, ev, constAV, setd, yav, ystop, up, env0, cx_ti, cx_G, cx_pf, ti, globS, glob, pfL, lds, ldc, ldcs, sts, sth, sls, slc, wr, place, fillOk, fillC, repZ, binI, isDiv, optInt, optI, eksOk, eksEq, EK.ok, EK.eq, AV.i, AV.isI, AV.isInt, AV.str, AV.isStr, AV.ones, AV.isPtr, AV.gl, AV.isG, Value.oneCell', Tryd.f150, he]
      refine awp_loop (fun s => s.e 0 = .v (.slice none 0 0) ∧ s.e 4 = ii 0 ∧ s.e 2 = .p n 0 0 ∧ s.e 3 = .p (n + 1) 0 0 ∧ s.h n = some ⟨[.v (.bool false), .v (.int .i64 0)], 0, true, 2⟩ ∧ s.h (n + 1) = some ⟨[.v (.int .i64 0), .v (.int .i64 0)], 0, true, 2⟩) (fun _ => 0) (by simp [up, ii, he]) ?_
      rintro e' h' n' ⟨q0, q4, q2, q3, hh, hh1⟩
      simp only [] at q0 q4 q2 q3 hh hh1
      simp [evs, resAll, resVal, resOne, freeOp, isA, goOp, appNew, mkOp, gev, Region.binds, aop, aeval, gocall, heapOp, quietOp, ev, constAV, setd, yav, ystop, up, env0, cx_ti, cx_G, cx_pf, ti, globS, glob, pfL, lds, ldc, ldcs, sts, sth, sls, slc, wr, place, fillOk, fillC, repZ, binI, isDiv, optInt, optI, eksOk, eksEq, EK.ok, EK.eq, AV.i, AV.isI, AV.isInt, AV.str, AV.isStr, AV.ones, AV.isPtr, AV.gl, AV.isG, Value.oneCell', q0, q4, q2, q3, hh, hh1, ii, tb56, g61, pure1, deW, vv, rsumL, rsumAt]
    · have h0 := ne_of hk hn 0
      have h1 := ne_of hk hn 1
      have hro := ro_at hk
      simp only [Nat.add_zero] at h0
      simp [evs, resAll, resVal, resOne, freeOp, isA, goOp, appNew, mkOp, gev, Region.binds, aop, aeval, gocall, heapOp, quietOp, ev, constAV, setd, yav, ystop, up, env0, cx_ti, cx_G, cx_pf, ti, globS, glob, pfL, lds, ldc, ldcs, sts, sth, sls, slc, wr, place, fillOk, fillC, repZ, binI, isDiv, optInt, optI, eksOk, eksEq, EK.ok, EK.eq, AV.i, AV.isI, AV.isInt, AV.str, AV.isStr, AV.ones, AV.isPtr, AV.gl, AV.isG, Value.oneCell', Tryd.f150, he]
      refine awp_loop (fun s => ∃ j, j ≤ l.length ∧ s.e 0 = .s id k.ver off l.length ∧ s.e 4 = ii j ∧ s.e 2 = .p n 0 0 ∧ s.e 3 = .p (n + 1) 0 0 ∧ s.h n = some ⟨[.v (.bool false), .v (.int .i64 0)], 0, true, 2⟩ ∧ s.h (n + 1) = some ⟨[.v (.int .i64 (rsumAt l j).1), .v (.int .i64 (rsumAt l j).2)], 0, true, 2⟩ ∧ s.h id = some ⟨k.cells, k.ver, false, k.esz⟩) (fun s => l.length - (s.e 4).i.toNat) ⟨0, by simp [up, ii, he, rsumAt, h0, h1, hro]⟩ ?_
      rintro e' h' n' ⟨j, hj, q0, q4, q2, q3, hh, hh1, hh2⟩
      simp only [] at q0 q4 q2 q3 hh hh1 hh2
      by_cases hlt : j < l.length
      · have hget := hat j hlt
        have hw := wrap_nat (j := j) (by omega)
        have hs := rsumAt_succ hlt
        simp [evs, resAll, resVal, resOne, freeOp, isA, goOp, appNew, mkOp, gev, Region.binds, aop, aeval, gocall, heapOp, quietOp, ev, constAV, setd, yav, ystop, up, env0, cx_ti, cx_G, cx_pf, ti, globS, glob, pfL, lds, ldc, ldcs, sts, sth, sls, slc, wr, place, fillOk, fillC, repZ, binI, isDiv, optInt, optI, eksOk, eksEq, EK.ok, EK.eq, AV.i, AV.isI, AV.isInt, AV.str, AV.isStr, AV.ones, AV.isPtr, AV.gl, AV.isG, Value.oneCell', q0, q4, q2, q3, hh, hh1, hh2, ii, tb56, g62, g63, pure1, pure2, deW, deI, ww, hlt, h0, h1, hget, hw]
        exact ⟨by omega, ⟨j + 1, by omega, by omega, by rw [hs], by rw [hs]⟩, by omega⟩
      · have hje : j = l.length := by omega
        subst hje
        simp [evs, resAll, resVal, resOne, freeOp, isA, goOp, appNew, mkOp, gev, Region.binds, aop, aeval, gocall, heapOp, quietOp, ev, constAV, setd, yav, ystop, up, env0, cx_ti, cx_G, cx_pf, ti, globS, glob, pfL, lds, ldc, ldcs, sts, sth, sls, slc, wr, place, fillOk, fillC, repZ, binI, isDiv, optInt, optI, eksOk, eksEq, EK.ok, EK.eq, AV.i, AV.isI, AV.isInt, AV.str, AV.isStr, AV.ones, AV.isPtr, AV.gl, AV.isG, Value.oneCell', q0, q4, q2, q3, hh, hh1, hh2, ii, tb56, g61, pure1, deW, vv, rsumL]
  exact key _ rfl
/-- The least (the greatest) of the first so many numbers. -/
def extAt (g : Bool) (l : List Int) (j : Nat) : Int := (l.take j).foldl (fun m x => if (if g then decide (m < x) else decide (x < m)) then x else m) (l.getD 0 0)
theorem extAt_succ {g : Bool} {l : List Int} {j : Nat} (h : j < l.length) : extAt g l (j + 1) = if (if g then decide (extAt g l j < l[j]) else decide (l[j] < extAt g l j)) then l[j] else extAt g l j := by
  unfold extAt
  rw [List.take_add_one, List.getElem?_eq_getElem h, List.foldl_append]
  simp
theorem extAt_one {g : Bool} {l : List Int} (h : 0 < l.length) : extAt g l 1 = l.getD 0 0 := by
  rw [extAt_succ h]
  have : extAt g l 0 = l[0] := by simp [extAt, List.getD_eq_getElem?_getD, h]
  rw [this]
  have : l.getD 0 0 = l[0] := by simp [List.getD_eq_getElem?_getD, h]
  rw [this]
  cases g <;> simp
def g57 := pureLA deB (fun _ l => 0 < l.length) fun g l => ii (extAt g l l.length)
set_option maxRecDepth 100000 in
theorem p57 : P0 [] 151 g57 := by
  refine mkLA (S := []) (l := []) tb_nil Tryd.func151 rfl (by kernel_rfl) bv (fun x a h => deB_out h) (fun a b => rfl) (fun g a l h n hi hl hp hn => ?_)
  have key : ∀ e : Nat → AV, e 0 = a → e 1 = bv g → awp (cx [] (pfL [])) (Tryd.f151.body.getD .skip) (finQ (cx [] (pfL [])) Tryd.f151 fun z _ _ => z = ii (extAt g l l.length)) ⟨e, roH h, n⟩ := fun e he he1 => by
    rcases ints_cases hi with ⟨rfl, rfl⟩ | ⟨id, off, k, rfl, hk, hoff, hat⟩
    · cases hp
    · have hro := ro_at hk
      have hget0 := hat 0 hp
      simp only [Nat.add_zero] at hget0
      simp [evs, resAll, resVal, resOne, freeOp, isA, goOp, appNew, mkOp, gev, Region.binds, aop, aeval, gocall, heapOp, quietOp, ev, constAV, setd, yav, ystop, up, env0, cx_ti, cx_G, cx_pf, ti, globS, glob, pfL, lds, ldc, ldcs, sts, sth, sls, slc, wr, place, fillOk, fillC, repZ, binI, isDiv, optInt, optI, eksOk, eksEq, EK.ok, EK.eq, AV.i, AV.isI, AV.isInt, AV.str, AV.isStr, AV.ones, AV.isPtr, AV.gl, AV.isG, Value.oneCell', Tryd.f151, he, he1, hro, hp, hget0, ii]
      refine ⟨by omega, awp_loop (fun s => ∃ j, 0 < j ∧ j ≤ l.length ∧ s.e 0 = .s id k.ver off l.length ∧ s.e 1 = bv g ∧ s.e 6 = ii j ∧ s.e 5 = ii (extAt g l j) ∧ s.h id = some ⟨k.cells, k.ver, false, k.esz⟩) (fun s => l.length - (s.e 6).i.toNat) ⟨1, by simp [up, ii, he, he1, hro, extAt_one hp, List.getD_eq_getElem?_getD, hp]; omega⟩ ?_⟩
      rintro e' h' n' ⟨j, hj0, hj, q0, q1, q6, q5, hh⟩
      simp only [] at q0 q1 q6 q5 hh
      by_cases hlt : j < l.length
      · have hget := hat j hlt
        have hw := wrap_nat (j := j) (by omega)
        have hs := extAt_succ (g := g) hlt
        have eg : l.getD j 0 = l[j] := by simp [List.getD_eq_getElem?_getD, hlt]
        rw [eg] at hget
        have ho : off + (j + 1) ≤ k.cells.length := by omega
        cases g
        · by_cases hc : l[j] < extAt false l j
          · simp [hc] at hs
            simp [evs, resAll, resVal, resOne, freeOp, isA, goOp, appNew, mkOp, gev, Region.binds, aop, aeval, gocall, heapOp, quietOp, ev, constAV, setd, yav, ystop, up, env0, cx_ti, cx_G, cx_pf, ti, globS, glob, pfL, lds, ldc, ldcs, sts, sth, sls, slc, wr, place, fillOk, fillC, repZ, binI, isDiv, optInt, optI, eksOk, eksEq, EK.ok, EK.eq, AV.i, AV.isI, AV.isInt, AV.str, AV.isStr, AV.ones, AV.isPtr, AV.gl, AV.isG, Value.oneCell', q0, q1, q6, q5, hh, ii, bv, hlt, hget, hw, hc, ho]
            exact ⟨⟨j + 1, by omega, by omega, by omega, by rw [hs]⟩, by omega⟩
          · simp [hc] at hs
            simp [evs, resAll, resVal, resOne, freeOp, isA, goOp, appNew, mkOp, gev, Region.binds, aop, aeval, gocall, heapOp, quietOp, ev, constAV, setd, yav, ystop, up, env0, cx_ti, cx_G, cx_pf, ti, globS, glob, pfL, lds, ldc, ldcs, sts, sth, sls, slc, wr, place, fillOk, fillC, repZ, binI, isDiv, optInt, optI, eksOk, eksEq, EK.ok, EK.eq, AV.i, AV.isI, AV.isInt, AV.str, AV.isStr, AV.ones, AV.isPtr, AV.gl, AV.isG, Value.oneCell', q0, q1, q6, q5, hh, ii, bv, hlt, hget, hw, hc, ho]
            exact ⟨⟨j + 1, by omega, by omega, by omega, by rw [hs]⟩, by omega⟩
        · by_cases hc : extAt true l j < l[j]
          · simp [hc] at hs
            simp [evs, resAll, resVal, resOne, freeOp, isA, goOp, appNew, mkOp, gev, Region.binds, aop, aeval, gocall, heapOp, quietOp, ev, constAV, setd, yav, ystop, up, env0, cx_ti, cx_G, cx_pf, ti, globS, glob, pfL, lds, ldc, ldcs, sts, sth, sls, slc, wr, place, fillOk, fillC, repZ, binI, isDiv, optInt, optI, eksOk, eksEq, EK.ok, EK.eq, AV.i, AV.isI, AV.isInt, AV.str, AV.isStr, AV.ones, AV.isPtr, AV.gl, AV.isG, Value.oneCell', q0, q1, q6, q5, hh, ii, bv, hlt, hget, hw, hc, ho]
            exact ⟨⟨j + 1, by omega, by omega, by omega, by rw [hs]⟩, by omega⟩
          · simp [hc] at hs
            simp [evs, resAll, resVal, resOne, freeOp, isA, goOp, appNew, mkOp, gev, Region.binds, aop, aeval, gocall, heapOp, quietOp, ev, constAV, setd, yav, ystop, up, env0, cx_ti, cx_G, cx_pf, ti, globS, glob, pfL, lds, ldc, ldcs, sts, sth, sls, slc, wr, place, fillOk, fillC, repZ, binI, isDiv, optInt, optI, eksOk, eksEq, EK.ok, EK.eq, AV.i, AV.isI, AV.isInt, AV.str, AV.isStr, AV.ones, AV.isPtr, AV.gl, AV.isG, Value.oneCell', q0, q1, q6, q5, hh, ii, bv, hlt, hget, hw, hc, ho]
            exact ⟨⟨j + 1, by omega, by omega, by omega, by rw [hs]⟩, by omega⟩
      · have hje : j = l.length := by omega
        subst hje
        simp [evs, resAll, resVal, resOne, freeOp, isA, goOp, appNew, mkOp, gev, Region.binds, aop, aeval, gocall, heapOp, quietOp, ev, constAV, setd, yav, ystop, up, env0, cx_ti, cx_G, cx_pf, ti, globS, glob, pfL, lds, ldc, ldcs, sts, sth, sls, slc, wr, place, fillOk, fillC, repZ, binI, isDiv, optInt, optI, eksOk, eksEq, EK.ok, EK.eq, AV.i, AV.isI, AV.isInt, AV.str, AV.isStr, AV.ones, AV.isPtr, AV.gl, AV.isG, Value.oneCell', q0, q1, q6, q5, hh, ii]
  exact key _ rfl rfl
end Go.Proofs.YtkfphaphiikloaaDoor

/-
  THE NUMBERS OF THIS PROGRAM, PART H: Fold, on both sides.
-/
namespace Go.Proofs.YtkfphaphiikloaaDoor
open Go Go.Eng

theorem ints_congr {h h' : Heap} {a : AV} {l : List Int} (hh : ∀ id ver off len, a = .s id ver off len → ∀ k, h id = some k → ∃ k', h' id = some k' ∧ k'.cells = k.cells ∧ k'.ver = k.ver) (e : ints h a = some l) : ints h' a = some l := by
  unfold ints at e ⊢
  split at e
  · split at e
    · rename_i k hk
      obtain ⟨k', q1, q2, q3⟩ := hh _ _ _ _ rfl k hk
      simp only [q1, q2, q3]
      exact e
    · cases e
  · exact e
  · cases e
/-- A new block does not turn what is read. -/
theorem ints_up {h : Heap} {n : Nat} {a : AV} {l : List Int} (e : ints h a = some l) (hn : ∀ i, n ≤ i → h i = none) (b : Option Blk) : ints (up (roH h) n b) a = some l :=
  ints_congr (fun id ver off len _ k hk => ⟨⟨k.cells, k.ver, false, k.esz⟩, by
    have := ne_of hk hn 0
    simp only [Nat.add_zero] at this
    simp [up, this, ro_at hk], rfl, rfl⟩) e
def foldG (s : List Int → V) (o : Int) (l : List Int) : V :=
  if o = 5 then knownV l.length else if o = 6 then s l else if l = [] then unk else if o = 7 then knownV (extAt false l l.length) else if o = 8 then knownV (extAt true l l.length) else
  if o = 9 then knownV (l.getD 0 0) else if o = 10 then knownV (l.getD (l.length - 1) 0) else unk
def g33 := pureAL deI (fun _ _ => True) fun o l => vv (foldG sumL o l)
def g34 := pureAL deI (fun _ _ => True) fun o l => vv (foldG rsumL o l)
def tb34 : List (FuncId × (List AV → Heap → PRes)) := [(63, g52), (111, g53), (150, g56), (151, g57)]
theorem wrap_last {n : Nat} (h0 : 0 < n) (h : n < big) : IntKind.i64.wrap ((n : Int) - 1) = ((n - 1 : Nat) : Int) := by
  unfold big at h
  have e : IntKind.i64.wrap ((n : Int) - 1) = (n : Int) - 1 := W_id (by unfold Rng; omega)
  rw [e]
  omega
set_option maxRecDepth 100000 in
set_option maxHeartbeats 1000000 in
theorem p34 : P0 [] 137 g34 := by
  refine mkAL (S := []) (l := tb34) (tb_cons p52 (tb_cons p53 (tb_cons p56 (tb_cons p57 tb_nil)))) Tryd.func137 rfl (by kernel_rfl) ii (fun x a h => deI_out h) (fun a b => rfl) (fun o a l h n hi hl _ hn => ?_)
  have hup := ints_up hi hn
  rcases ints_cases hi with ⟨rfl, rfl⟩ | ⟨id, off, k, rfl, hk, hoff, hat⟩
  · by_cases h5 : o = 5
    · subst h5
      simp [evs, resAll, resVal, resOne, freeOp, isA, goOp, appNew, mkOp, gev, Region.binds, aop, aeval, gocall, heapOp, quietOp, ev, constAV, setd, yav, ystop, up, env0, cx_ti, cx_G, cx_pf, ti, globS, glob, pfL, lds, ldc, ldcs, sts, sth, sls, slc, wr, place, fillOk, fillC, repZ, binI, isDiv, optInt, optI, eksOk, eksEq, EK.ok, EK.eq, AV.i, AV.isI, AV.isInt, AV.str, AV.isStr, AV.ones, AV.isPtr, AV.gl, AV.isG, Value.oneCell', Tryd.f137, ii, tb34, g53, pure1, deI, vv, knownV, foldG]
    by_cases h6 : o = 6
    · subst h6
      simp [evs, resAll, resVal, resOne, freeOp, isA, goOp, appNew, mkOp, gev, Region.binds, aop, aeval, gocall, heapOp, quietOp, ev, constAV, setd, yav, ystop, up, env0, cx_ti, cx_G, cx_pf, ti, globS, glob, pfL, lds, ldc, ldcs, sts, sth, sls, slc, wr, place, fillOk, fillC, repZ, binI, isDiv, optInt, optI, eksOk, eksEq, EK.ok, EK.eq, AV.i, AV.isI, AV.isInt, AV.str, AV.isStr, AV.ones, AV.isPtr, AV.gl, AV.isG, Value.oneCell', Tryd.f137, ii, tb34, g56, pureL, hup, vv, foldG, big]
    simp [evs, resAll, resVal, resOne, freeOp, isA, goOp, appNew, mkOp, gev, Region.binds, aop, aeval, gocall, heapOp, quietOp, ev, constAV, setd, yav, ystop, up, env0, cx_ti, cx_G, cx_pf, ti, globS, glob, pfL, lds, ldc, ldcs, sts, sth, sls, slc, wr, place, fillOk, fillC, repZ, binI, isDiv, optInt, optI, eksOk, eksEq, EK.ok, EK.eq, AV.i, AV.isI, AV.isInt, AV.str, AV.isStr, AV.ones, AV.isPtr, AV.gl, AV.isG, Value.oneCell', Tryd.f137, ii, tb34, g52, h5, h6, vv, foldG]
  · have h0 := ne_of hk hn 0
    simp only [Nat.add_zero] at h0
    have hro := ro_at hk
    by_cases h5 : o = 5
    · subst h5
      simp [evs, resAll, resVal, resOne, freeOp, isA, goOp, appNew, mkOp, gev, Region.binds, aop, aeval, gocall, heapOp, quietOp, ev, constAV, setd, yav, ystop, up, env0, cx_ti, cx_G, cx_pf, ti, globS, glob, pfL, lds, ldc, ldcs, sts, sth, sls, slc, wr, place, fillOk, fillC, repZ, binI, isDiv, optInt, optI, eksOk, eksEq, EK.ok, EK.eq, AV.i, AV.isI, AV.isInt, AV.str, AV.isStr, AV.ones, AV.isPtr, AV.gl, AV.isG, Value.oneCell', Tryd.f137, ii, tb34, g53, pure1, deI, vv, knownV, foldG]
    by_cases h6 : o = 6
    · subst h6
      simp [evs, resAll, resVal, resOne, freeOp, isA, goOp, appNew, mkOp, gev, Region.binds, aop, aeval, gocall, heapOp, quietOp, ev, constAV, setd, yav, ystop, up, env0, cx_ti, cx_G, cx_pf, ti, globS, glob, pfL, lds, ldc, ldcs, sts, sth, sls, slc, wr, place, fillOk, fillC, repZ, binI, isDiv, optInt, optI, eksOk, eksEq, EK.ok, EK.eq, AV.i, AV.isI, AV.isInt, AV.str, AV.isStr, AV.ones, AV.isPtr, AV.gl, AV.isG, Value.oneCell', Tryd.f137, ii, tb34, g56, pureL, hup, vv, foldG, hl]
    by_cases hz : l = []
    · subst hz
      simp [evs, resAll, resVal, resOne, freeOp, isA, goOp, appNew, mkOp, gev, Region.binds, aop, aeval, gocall, heapOp, quietOp, ev, constAV, setd, yav, ystop, up, env0, cx_ti, cx_G, cx_pf, ti, globS, glob, pfL, lds, ldc, ldcs, sts, sth, sls, slc, wr, place, fillOk, fillC, repZ, binI, isDiv, optInt, optI, eksOk, eksEq, EK.ok, EK.eq, AV.i, AV.isI, AV.isInt, AV.str, AV.isStr, AV.ones, AV.isPtr, AV.gl, AV.isG, Value.oneCell', Tryd.f137, ii, tb34, g52, h5, h6, vv, foldG]
    have hp : 0 < l.length := List.length_pos_iff.2 hz
    have hp' : ¬ l.length = 0 := by omega
    by_cases h7 : o = 7
    · subst h7
      simp [evs, resAll, resVal, resOne, freeOp, isA, goOp, appNew, mkOp, gev, Region.binds, aop, aeval, gocall, heapOp, quietOp, ev, constAV, setd, yav, ystop, up, env0, cx_ti, cx_G, cx_pf, ti, globS, glob, pfL, lds, ldc, ldcs, sts, sth, sls, slc, wr, place, fillOk, fillC, repZ, binI, isDiv, optInt, optI, eksOk, eksEq, EK.ok, EK.eq, AV.i, AV.isI, AV.isInt, AV.str, AV.isStr, AV.ones, AV.isPtr, AV.gl, AV.isG, Value.oneCell', Tryd.f137, ii, tb34, g53, g57, pureLA, pure1, deB, deI, hup, vv, knownV, foldG, hz, hl, hp]
    by_cases h8 : o = 8
    · subst h8
      simp [evs, resAll, resVal, resOne, freeOp, isA, goOp, appNew, mkOp, gev, Region.binds, aop, aeval, gocall, heapOp, quietOp, ev, constAV, setd, yav, ystop, up, env0, cx_ti, cx_G, cx_pf, ti, globS, glob, pfL, lds, ldc, ldcs, sts, sth, sls, slc, wr, place, fillOk, fillC, repZ, binI, isDiv, optInt, optI, eksOk, eksEq, EK.ok, EK.eq, AV.i, AV.isI, AV.isInt, AV.str, AV.isStr, AV.ones, AV.isPtr, AV.gl, AV.isG, Value.oneCell', Tryd.f137, ii, tb34, g53, g57, pureLA, pure1, deB, deI, hup, vv, knownV, foldG, hz, hl, hp]
    by_cases h9 : o = 9
    · subst h9
      have hget0 := hat 0 hp
      simp only [Nat.add_zero] at hget0
      simp [evs, resAll, resVal, resOne, freeOp, isA, goOp, appNew, mkOp, gev, Region.binds, aop, aeval, gocall, heapOp, quietOp, ev, constAV, setd, yav, ystop, up, env0, cx_ti, cx_G, cx_pf, ti, globS, glob, pfL, lds, ldc, ldcs, sts, sth, sls, slc, wr, place, fillOk, fillC, repZ, binI, isDiv, optInt, optI, eksOk, eksEq, EK.ok, EK.eq, AV.i, AV.isI, AV.isInt, AV.str, AV.isStr, AV.ones, AV.isPtr, AV.gl, AV.isG, Value.oneCell', Tryd.f137, ii, tb34, g53, pure1, deI, hup, vv, knownV, foldG, hz, hl, hp, hro, h0, hget0]
      omega
    by_cases h10 : o = 10
    · subst h10
      have hget0 := hat (l.length - 1) (by omega)
      have hw := wrap_last hp hl
      simp [evs, resAll, resVal, resOne, freeOp, isA, goOp, appNew, mkOp, gev, Region.binds, aop, aeval, gocall, heapOp, quietOp, ev, constAV, setd, yav, ystop, up, env0, cx_ti, cx_G, cx_pf, ti, globS, glob, pfL, lds, ldc, ldcs, sts, sth, sls, slc, wr, place, fillOk, fillC, repZ, binI, isDiv, optInt, optI, eksOk, eksEq, EK.ok, EK.eq, AV.i, AV.isI, AV.isInt, AV.str, AV.isStr, AV.ones, AV.isPtr, AV.gl, AV.isG, Value.oneCell', Tryd.f137, ii, tb34, g53, pure1, deI, hup, vv, knownV, foldG, hz, hl, hp, hro, h0, hget0, hw]
      omega
    simp [evs, resAll, resVal, resOne, freeOp, isA, goOp, appNew, mkOp, gev, Region.binds, aop, aeval, gocall, heapOp, quietOp, ev, constAV, setd, yav, ystop, up, env0, cx_ti, cx_G, cx_pf, ti, globS, glob, pfL, lds, ldc, ldcs, sts, sth, sls, slc, wr, place, fillOk, fillC, repZ, binI, isDiv, optInt, optI, eksOk, eksEq, EK.ok, EK.eq, AV.i, AV.isI, AV.isInt, AV.str, AV.isStr, AV.ones, AV.isPtr, AV.gl, AV.isG, Value.oneCell', Tryd.f137, ii, tb34, g52, h5, h6, h7, h8, h9, h10, vv, foldG, hz]
def tb33 : List (FuncId × (List AV → Heap → PRes)) := [(74, g51), (144, g55)]
set_option maxRecDepth 100000 in
set_option maxHeartbeats 1000000 in
theorem p33 : P0 [1] 125 g33 := by
  refine mkAL (S := [1]) (l := tb33) (tb_cons p51 (tb_cons p55 tb_nil)) Tryd.func125 rfl (by kernel_rfl) ii (fun x a h => deI_out h) (fun a b => rfl) (fun o a l h n hi hl _ hn => ?_)
  have hup := ints_up hi hn
  have key : ∀ e : Nat → AV, e 0 = ii o → e 1 = a → awp (cx [1] (pfL tb33)) (Tryd.f125.body.getD .skip) (finQ (cx [1] (pfL tb33)) Tryd.f125 fun z _ _ => z = vv (foldG sumL o l)) ⟨e, roH h, n⟩ := fun e he he1 => by
    rcases ints_cases hi with ⟨rfl, rfl⟩ | ⟨id, off, k, rfl, hk, hoff, hat⟩
    · by_cases h5 : o = 5
      · subst h5
        simp [evs, resAll, resVal, resOne, freeOp, isA, goOp, appNew, mkOp, gev, Region.binds, aop, aeval, gocall, heapOp, quietOp, ev, constAV, setd, yav, ystop, up, env0, cx_ti, cx_G, cx_pf, ti, globS, glob, pfL, lds, ldc, ldcs, sts, sth, sls, slc, wr, place, fillOk, fillC, repZ, binI, isDiv, optInt, optI, eksOk, eksEq, EK.ok, EK.eq, AV.i, AV.isI, AV.isInt, AV.str, AV.isStr, AV.ones, AV.isPtr, AV.gl, AV.isG, Value.oneCell', Tryd.f125, he, he1, ii, tb33, g51, pure1, deI, vv, knownV, foldG]
      by_cases h6 : o = 6
      · subst h6
        simp [evs, resAll, resVal, resOne, freeOp, isA, goOp, appNew, mkOp, gev, Region.binds, aop, aeval, gocall, heapOp, quietOp, ev, constAV, setd, yav, ystop, up, env0, cx_ti, cx_G, cx_pf, ti, globS, glob, pfL, lds, ldc, ldcs, sts, sth, sls, slc, wr, place, fillOk, fillC, repZ, binI, isDiv, optInt, optI, eksOk, eksEq, EK.ok, EK.eq, AV.i, AV.isI, AV.isInt, AV.str, AV.isStr, AV.ones, AV.isPtr, AV.gl, AV.isG, Value.oneCell', Tryd.f125, he, he1, ii, tb33, g55, pureL, hup, vv, foldG, big]
      simp [evs, resAll, resVal, resOne, freeOp, isA, goOp, appNew, mkOp, gev, Region.binds, aop, aeval, gocall, heapOp, quietOp, ev, constAV, setd, yav, ystop, up, env0, cx_ti, cx_G, cx_pf, ti, globS, glob, pfL, lds, ldc, ldcs, sts, sth, sls, slc, wr, place, fillOk, fillC, repZ, binI, isDiv, optInt, optI, eksOk, eksEq, EK.ok, EK.eq, AV.i, AV.isI, AV.isInt, AV.str, AV.isStr, AV.ones, AV.isPtr, AV.gl, AV.isG, Value.oneCell', Tryd.f125, he, he1, ii, tb33, h5, h6, vv, unk, foldG]
    · have h0 := ne_of hk hn 0
      simp only [Nat.add_zero] at h0
      have hro := ro_at hk
      by_cases h5 : o = 5
      · subst h5
        simp [evs, resAll, resVal, resOne, freeOp, isA, goOp, appNew, mkOp, gev, Region.binds, aop, aeval, gocall, heapOp, quietOp, ev, constAV, setd, yav, ystop, up, env0, cx_ti, cx_G, cx_pf, ti, globS, glob, pfL, lds, ldc, ldcs, sts, sth, sls, slc, wr, place, fillOk, fillC, repZ, binI, isDiv, optInt, optI, eksOk, eksEq, EK.ok, EK.eq, AV.i, AV.isI, AV.isInt, AV.str, AV.isStr, AV.ones, AV.isPtr, AV.gl, AV.isG, Value.oneCell', Tryd.f125, he, he1, ii, tb33, g51, pure1, deI, vv, knownV, foldG]
      by_cases h6 : o = 6
      · subst h6
        simp [evs, resAll, resVal, resOne, freeOp, isA, goOp, appNew, mkOp, gev, Region.binds, aop, aeval, gocall, heapOp, quietOp, ev, constAV, setd, yav, ystop, up, env0, cx_ti, cx_G, cx_pf, ti, globS, glob, pfL, lds, ldc, ldcs, sts, sth, sls, slc, wr, place, fillOk, fillC, repZ, binI, isDiv, optInt, optI, eksOk, eksEq, EK.ok, EK.eq, AV.i, AV.isI, AV.isInt, AV.str, AV.isStr, AV.ones, AV.isPtr, AV.gl, AV.isG, Value.oneCell', Tryd.f125, he, he1, ii, tb33, g55, pureL, hup, vv, foldG, hl]
      by_cases hz : l = []
      · subst hz
        simp [evs, resAll, resVal, resOne, freeOp, isA, goOp, appNew, mkOp, gev, Region.binds, aop, aeval, gocall, heapOp, quietOp, ev, constAV, setd, yav, ystop, up, env0, cx_ti, cx_G, cx_pf, ti, globS, glob, pfL, lds, ldc, ldcs, sts, sth, sls, slc, wr, place, fillOk, fillC, repZ, binI, isDiv, optInt, optI, eksOk, eksEq, EK.ok, EK.eq, AV.i, AV.isI, AV.isInt, AV.str, AV.isStr, AV.ones, AV.isPtr, AV.gl, AV.isG, Value.oneCell', Tryd.f125, he, he1, ii, tb33, h5, h6, vv, unk, foldG]
      have hp : 0 < l.length := List.length_pos_iff.2 hz
      have hp' : ¬ l.length = 0 := by omega
      have hget0 := hat 0 hp
      simp only [Nat.add_zero] at hget0
      have ho1 : off + 1 ≤ k.cells.length := by omega
      have hgl := hat (l.length - 1) (by omega)
      have hwl := wrap_last hp hl
      have hol : off + (l.length - 1 + 1) ≤ k.cells.length := by omega
      simp [evs, resAll, resVal, resOne, freeOp, isA, goOp, appNew, mkOp, gev, Region.binds, aop, aeval, gocall, heapOp, quietOp, ev, constAV, setd, yav, ystop, up, env0, cx_ti, cx_G, cx_pf, ti, globS, glob, pfL, lds, ldc, ldcs, sts, sth, sls, slc, wr, place, fillOk, fillC, repZ, binI, isDiv, optInt, optI, eksOk, eksEq, EK.ok, EK.eq, AV.i, AV.isI, AV.isInt, AV.str, AV.isStr, AV.ones, AV.isPtr, AV.gl, AV.isG, Value.oneCell', Tryd.f125, he, he1, ii, tb33, h5, h6, hz, hp, hro, h0, hget0, ho1]
      refine awp_loop (fun s => ∃ j, j ≤ l.length ∧ s.e 0 = ii o ∧ s.e 1 = .s id k.ver off l.length ∧ s.e 29 = .s id k.ver off l.length ∧ s.e 30 = ii l.length ∧ s.e 31 = ii j ∧ s.e 4 = .p n 0 0 ∧ s.e 5 = ii (extAt false l j) ∧ s.e 6 = ii (extAt true l j) ∧ s.h n = some ⟨[.v (.bool false), .v (.int .i64 0)], 0, true, 2⟩ ∧ s.h id = some ⟨k.cells, k.ver, false, k.esz⟩) (fun s => l.length - (s.e 31).i.toNat) ⟨0, by simp [up, ii, he, he1, hro, h0, extAt, List.getD_eq_getElem?_getD, hp]⟩ ?_
      rintro e' h' n' ⟨j, hj, q0, q1, q29, q30, q31, q4, q5, q6, hh, hh2⟩
      simp only [] at q0 q1 q29 q30 q31 q4 q5 q6 hh hh2
      by_cases hlt : j < l.length
      · have hget := hat j hlt
        have hw := wrap_nat (j := j) (by omega)
        have hs := extAt_succ (g := false) hlt
        have hs' := extAt_succ (g := true) hlt
        have eg : l.getD j 0 = l[j] := by simp [List.getD_eq_getElem?_getD, hlt]
        rw [eg] at hget
        have ho : off + (j + 1) ≤ k.cells.length := by omega
        simp at hs hs'
        simp [evs, resAll, resVal, resOne, freeOp, isA, goOp, appNew, mkOp, gev, Region.binds, aop, aeval, gocall, heapOp, quietOp, ev, constAV, setd, yav, ystop, up, env0, cx_ti, cx_G, cx_pf, ti, globS, glob, pfL, lds, ldc, ldcs, sts, sth, sls, slc, wr, place, fillOk, fillC, repZ, binI, isDiv, optInt, optI, eksOk, eksEq, EK.ok, EK.eq, AV.i, AV.isI, AV.isInt, AV.str, AV.isStr, AV.ones, AV.isPtr, AV.gl, AV.isG, Value.oneCell', q0, q1, q29, q30, q31, q4, q5, q6, hh, hh2, ii, hlt, hget, hw, ho, h0]
        exact ⟨⟨j + 1, by omega, by omega, by rw [hs], by rw [hs']⟩, by omega⟩
      · have hje : j = l.length := by omega
        subst hje
        by_cases h7 : o = 7
        · subst h7
          simp [evs, resAll, resVal, resOne, freeOp, isA, goOp, appNew, mkOp, gev, Region.binds, aop, aeval, gocall, heapOp, quietOp, ev, constAV, setd, yav, ystop, up, env0, cx_ti, cx_G, cx_pf, ti, globS, glob, pfL, lds, ldc, ldcs, sts, sth, sls, slc, wr, place, fillOk, fillC, repZ, binI, isDiv, optInt, optI, eksOk, eksEq, EK.ok, EK.eq, AV.i, AV.isI, AV.isInt, AV.str, AV.isStr, AV.ones, AV.isPtr, AV.gl, AV.isG, Value.oneCell', q0, q1, q29, q30, q31, q4, q5, q6, hh, hh2, ii, h0, tb33, g51, pure1, deI, vv, knownV, foldG, hz]
        by_cases h8 : o = 8
        · subst h8
          simp [evs, resAll, resVal, resOne, freeOp, isA, goOp, appNew, mkOp, gev, Region.binds, aop, aeval, gocall, heapOp, quietOp, ev, constAV, setd, yav, ystop, up, env0, cx_ti, cx_G, cx_pf, ti, globS, glob, pfL, lds, ldc, ldcs, sts, sth, sls, slc, wr, place, fillOk, fillC, repZ, binI, isDiv, optInt, optI, eksOk, eksEq, EK.ok, EK.eq, AV.i, AV.isI, AV.isInt, AV.str, AV.isStr, AV.ones, AV.isPtr, AV.gl, AV.isG, Value.oneCell', q0, q1, q29, q30, q31, q4, q5, q6, hh, hh2, ii, h0, tb33, g51, pure1, deI, vv, knownV, foldG, hz]
        by_cases h9 : o = 9
        · subst h9
          simp [evs, resAll, resVal, resOne, freeOp, isA, goOp, appNew, mkOp, gev, Region.binds, aop, aeval, gocall, heapOp, quietOp, ev, constAV, setd, yav, ystop, up, env0, cx_ti, cx_G, cx_pf, ti, globS, glob, pfL, lds, ldc, ldcs, sts, sth, sls, slc, wr, place, fillOk, fillC, repZ, binI, isDiv, optInt, optI, eksOk, eksEq, EK.ok, EK.eq, AV.i, AV.isI, AV.isInt, AV.str, AV.isStr, AV.ones, AV.isPtr, AV.gl, AV.isG, Value.oneCell', q0, q1, q29, q30, q31, q4, q5, q6, hh, hh2, ii, h0, tb33, g51, pure1, deI, vv, knownV, foldG, hz, hget0, ho1, hp]
        by_cases h10 : o = 10
        · subst h10
          simp [evs, resAll, resVal, resOne, freeOp, isA, goOp, appNew, mkOp, gev, Region.binds, aop, aeval, gocall, heapOp, quietOp, ev, constAV, setd, yav, ystop, up, env0, cx_ti, cx_G, cx_pf, ti, globS, glob, pfL, lds, ldc, ldcs, sts, sth, sls, slc, wr, place, fillOk, fillC, repZ, binI, isDiv, optInt, optI, eksOk, eksEq, EK.ok, EK.eq, AV.i, AV.isI, AV.isInt, AV.str, AV.isStr, AV.ones, AV.isPtr, AV.gl, AV.isG, Value.oneCell', q0, q1, q29, q30, q31, q4, q5, q6, hh, hh2, ii, h0, tb33, g51, pure1, deI, vv, knownV, foldG, hz, hgl, hwl, hol, hp]
          omega
        simp [evs, resAll, resVal, resOne, freeOp, isA, goOp, appNew, mkOp, gev, Region.binds, aop, aeval, gocall, heapOp, quietOp, ev, constAV, setd, yav, ystop, up, env0, cx_ti, cx_G, cx_pf, ti, globS, glob, pfL, lds, ldc, ldcs, sts, sth, sls, slc, wr, place, fillOk, fillC, repZ, binI, isDiv, optInt, optI, eksOk, eksEq, EK.ok, EK.eq, AV.i, AV.isI, AV.isInt, AV.str, AV.isStr, AV.ones, AV.isPtr, AV.gl, AV.isG, Value.oneCell', q0, q1, q29, q30, q31, q4, q5, q6, hh, hh2, ii, h0, tb33, h7, h8, h9, h10, vv, unk, foldG, hz, h5, h6]
  exact key _ rfl rfl
end Go.Proofs.YtkfphaphiikloaaDoor

/-
  THE NUMBERS OF THIS PROGRAM, THE PLAIN LAWS, C: sums of lists.
-/
namespace Go.Proofs.YtkfphaphiikloaaDoor
open Go Go.Eng

def All (l : List Int) : Prop := ∀ x ∈ l, Rng x
theorem sum_take {l : List Int} {j : Nat} (h : j < l.length) : (l.take (j + 1)).sum = (l.take j).sum + l[j] := by
  rw [List.take_add_one, List.getElem?_eq_getElem h, Option.toList_some, List.sum_append, List.sum_cons, List.sum_nil, Int.add_zero]
theorem sum_bound {l : List Int} (ha : All l) : ∀ j, j ≤ l.length → -(9223372036854775808 * (j : Int)) ≤ (l.take j).sum ∧ (l.take j).sum ≤ 9223372036854775808 * (j : Int)
  | 0, _ => by simp
  | j + 1, h => by
    have ih := sum_bound ha j (by omega)
    have hx := ha l[j] (List.getElem_mem _)
    rw [sum_take (by omega)]
    unfold Rng at hx
    omega
theorem sgn_eq {x : Int} (h : Rng x) : sgn x = if x < 0 then -1 else 0 := by
  unfold sgn
  have e : (2 : Int) ^ min 63 IntKind.i64.bits = 9223372036854775808 := rfl
  rw [e, Int.fdiv_eq_ediv_of_nonneg _ (by decide)]
  unfold Rng at h
  split <;> omega
theorem sumAt_eq {l : List Int} (ha : All l) : ∀ j, j ≤ l.length → ∃ q : Int, (sumAt l j).1 * 18446744073709551616 + (sumAt l j).2 = (l.take j).sum + 340282366920938463463374607431768211456 * q
  | 0, _ => ⟨0, by simp [sumAt]⟩
  | j + 1, h => by
    obtain ⟨q, ih⟩ := sumAt_eq ha j (by omega)
    have hx := ha l[j] (List.getElem_mem _)
    have eg : l.getD j 0 = l[j] := by simp [List.getD_eq_getElem?_getD, show j < l.length by omega]
    rw [sum_take (by omega), sumAt_succ (by omega), eg]
    obtain ⟨⟨r1, r2⟩, r3, r4⟩ := sumAt_rng l j
    unfold sumStep
    simp only []
    rw [sgn_eq hx, U_def l[j]]
    generalize (sumAt l j).1 = hi at *
    generalize (sumAt l j).2 = lo at *
    generalize l[j] = x at *
    generalize (List.take j l).sum = s at *
    unfold Rng at hx
    by_cases h0 : x < 0
    · rw [if_pos h0]
      have e : U (-1) = 18446744073709551615 := rfl
      rw [e]
      have c : (lo + x % 18446744073709551616 + 0) / 18446744073709551616 = 0 ∨ (lo + x % 18446744073709551616 + 0) / 18446744073709551616 = 1 := by omega
      have m : (hi + 18446744073709551615 + (lo + x % 18446744073709551616 + 0) / 18446744073709551616) / 18446744073709551616 = 0 ∨ (hi + 18446744073709551615 + (lo + x % 18446744073709551616 + 0) / 18446744073709551616) / 18446744073709551616 = 1 := by omega
      rcases m with m | m
      · exact ⟨q + 1, by omega⟩
      · exact ⟨q, by omega⟩
    · rw [if_neg h0]
      have e : U 0 = 0 := rfl
      rw [e]
      have m : (hi + 0 + (lo + x % 18446744073709551616 + 0) / 18446744073709551616) / 18446744073709551616 = 0 ∨ (hi + 0 + (lo + x % 18446744073709551616 + 0) / 18446744073709551616) / 18446744073709551616 = 1 := by omega
      rcases m with m | m
      · exact ⟨q, by omega⟩
      · exact ⟨q - 1, by omega⟩
theorem sumL_eq {l : List Int} (ha : All l) (hl : l.length < big) : sumL l = fitV l.sum := by
  obtain ⟨q, e⟩ := sumAt_eq ha l.length (Nat.le_refl _)
  have b := sum_bound ha l.length (Nat.le_refl _)
  obtain ⟨⟨r1, r2⟩, r3, r4⟩ := sumAt_rng l l.length
  rw [List.take_length] at e b
  unfold sumL
  have hw := W_spec (sumAt l l.length).2
  rw [sgn_eq (by obtain ⟨_, _, h⟩ := hw; exact h)]
  rw [W_def, W_def]
  unfold big at hl
  generalize (sumAt l l.length).1 = hi at *
  generalize (sumAt l l.length).2 = lo at *
  generalize l.sum = s at *
  have hb : -42535295865117307932921825928971026432 < s ∧ s < 42535295865117307932921825928971026432 := by omega
  unfold fitV unk knownV
  rw [show hi % 18446744073709551616 = hi by omega, show lo % 18446744073709551616 = lo by omega]
  by_cases c1 : 9223372036854775808 ≤ hi <;> by_cases c2 : 9223372036854775808 ≤ lo <;> simp only [c1, c2, if_true, if_false]
  · rw [if_pos (show lo - 18446744073709551616 < 0 by omega)]
    by_cases c3 : hi - 18446744073709551616 = -1
    · rw [if_neg (by simpa using c3), if_pos (by omega)]
      congr 1; omega
    · rw [if_pos (by simpa using c3), if_neg (by omega)]
  · rw [if_neg (show ¬ lo < 0 by omega)]
    rw [if_pos (by simp; omega), if_neg (by omega)]
  · rw [if_pos (show lo - 18446744073709551616 < 0 by omega)]
    rw [if_pos (by simp; omega), if_neg (by omega)]
  · rw [if_neg (show ¬ lo < 0 by omega)]
    by_cases c3 : hi = 0
    · rw [if_neg (by simpa using c3), if_pos (by omega)]
      congr 1; omega
    · rw [if_pos (by simpa using c3), if_neg (by omega)]
theorem rsumAt_eq {l : List Int} (ha : All l) (hl : l.length ≤ 2147483647) : ∀ j, j ≤ l.length → (rsumAt l j).1 * 4294967296 + (rsumAt l j).2 = (l.take j).sum ∧ 0 ≤ (rsumAt l j).2 ∧ (rsumAt l j).2 < 4294967296
  | 0, _ => by simp [rsumAt]
  | j + 1, h => by
    obtain ⟨ih, r1, r2⟩ := rsumAt_eq ha hl j (by omega)
    have b := sum_bound ha j (by omega)
    have hx := ha l[j] (List.getElem_mem _)
    rw [sum_take (by omega), rsumAt_succ (by omega), widen_eq]
    generalize (rsumAt l j) = s at *
    generalize l[j] = x at *
    generalize (List.take j l).sum = t at *
    unfold Rng at hx
    unfold plusL
    simp only []
    rw [W_id (n := s.2 + x % 4294967296) (by unfold Rng; omega), W_id (n := s.1 + x / 4294967296) (by unfold Rng; omega)]
    split
    · rw [W_id (n := s.1 + x / 4294967296 + 1) (by unfold Rng; omega), W_id (n := s.2 + x % 4294967296 - 4294967296) (by unfold Rng; omega)]
      simp only []
      omega
    · simp only []
      omega
theorem rsumL_eq {l : List Int} (ha : All l) (hl : l.length ≤ 2147483647) : rsumL l = fitV l.sum := by
  obtain ⟨e, r1, r2⟩ := rsumAt_eq ha hl l.length (Nat.le_refl _)
  have b := sum_bound ha l.length (Nat.le_refl _)
  rw [List.take_length] at e b
  unfold rsumL
  rw [show rsumAt l l.length = ((rsumAt l l.length).1, (rsumAt l l.length).2) from rfl, fitL_eq (by omega) ⟨r1, r2⟩, e]
theorem fold_eq {l : List Int} (o : Int) (ha : All l) (hl : l.length ≤ 2147483647) : foldG sumL o l = foldG rsumL o l := by
  have : sumL l = rsumL l := by rw [sumL_eq ha (by unfold big; omega), rsumL_eq ha hl]
  unfold foldG
  rw [this]
end Go.Proofs.YtkfphaphiikloaaDoor
