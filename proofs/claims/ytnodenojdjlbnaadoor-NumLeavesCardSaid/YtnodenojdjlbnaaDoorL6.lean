/-
  NumLeaves: the law's own code.
-/
import Derived.Test.YtnodenojdjlbnaaDoorMb
set_option linter.unusedSimpArgs false
namespace Go.Proofs.YtnodenojdjlbnaaDoor
open Go Go.Eng
def tbl6 : List (FuncId × (List AV → Heap → PRes)) := [(25, g25), (26, g26), (27, g27)]
theorem tbl6_ok : TbOk [3] tbl6 := tb_cons p25 (tb_cons p26 (tb_cons p27 tb_nil))
def Law6 (x y : Int) : Prop := ∀ (h : Heap) (n : Nat), awp (cx [3] (pfL tbl6)) (Tryd.f6.body.getD .skip) (finQ (cx [3] (pfL tbl6)) Tryd.f6 fun z _ _ => z = bv true) ⟨env0 [ii x, ii y], h, n⟩
theorem law6_zero {x : Int} (hx : Rng x) : Law6 x 0 := by
  intro h n
  have e1 : divL ⟨true, x⟩ ⟨true, 0⟩ = ⟨false, 0⟩ := by simp [divL, unk]
  have e2 : modL ⟨true, x⟩ ⟨true, 0⟩ = ⟨false, 0⟩ := by simp [modL, unk]
  have e3 : divL ⟨true, x⟩ ⟨true, 1⟩ = ⟨true, x⟩ := by rw [divL_eq hx]; simp [divV, on2, fitV_pos hx]
  simp [awp_skip, awp_label, awp_region, awp_seq, awp_if, awp_block, awp_ret, awp_exit, thenQ, blockQ, finQ, resAll, resVal, resOne, aops, adraw, aop, aeval, gocall, heapOp, quietOp, ev, constAV, setd, yav, ystop, up, env0, cx_ti, cx_G, cx_pf, ti, globS, glob, pfL, lds, ldc, ldcs, sts, sth, sls, slc, wr, place, fillOk, fillC, repZ, binI, isDiv, optInt, optI, eksOk, eksEq, EK.ok, EK.eq, AV.i, AV.isI, AV.isInt, AV.b, AV.isB, AV.str, AV.isStr, AV.unc, AV.bb, AV.okb, AV.okg, AV.gd, AV.cells, AV.one, AV.ones, AV.slen, AV.isS, AV.isPtr, AV.gl, AV.isG, Value.oneCell', Nat.add_assoc, Tryd.f6, tbl6, g25, g26, g27, pure1, pure2, deV, deI, vv, ii, bv, knownV, e1, e2, e3]
theorem law6_top : Law6 (-9223372036854775808) (-1) := by
  intro h n
  have e1 : divL ⟨true, -9223372036854775808⟩ ⟨true, -1⟩ = ⟨false, 0⟩ := rfl
  have e2 : modL ⟨true, -9223372036854775808⟩ ⟨true, -1⟩ = ⟨true, 0⟩ := rfl
  simp [awp_skip, awp_label, awp_region, awp_seq, awp_if, awp_block, awp_ret, awp_exit, thenQ, blockQ, finQ, resAll, resVal, resOne, aops, adraw, aop, aeval, gocall, heapOp, quietOp, ev, constAV, setd, yav, ystop, up, env0, cx_ti, cx_G, cx_pf, ti, globS, glob, pfL, lds, ldc, ldcs, sts, sth, sls, slc, wr, place, fillOk, fillC, repZ, binI, isDiv, optInt, optI, eksOk, eksEq, EK.ok, EK.eq, AV.i, AV.isI, AV.isInt, AV.b, AV.isB, AV.str, AV.isStr, AV.unc, AV.bb, AV.okb, AV.okg, AV.gd, AV.cells, AV.one, AV.ones, AV.slen, AV.isS, AV.isPtr, AV.gl, AV.isG, Value.oneCell', Nat.add_assoc, Tryd.f6, tbl6, g25, g26, g27, pure1, pure2, deV, deI, vv, ii, bv, knownV, e1, e2]
set_option maxHeartbeats 1000000 in
set_option maxRecDepth 100000 in
theorem law6_rest {x y : Int} (hx : Rng x) (hy : Rng y) (hz : y ≠ 0) (hm : ¬ (x = -9223372036854775808 ∧ y = -1)) : Law6 x y := by
  intro h n
  have hq := tdiv_rng hx hz hm
  obtain ⟨t1, t2, t3, t4, t5⟩ := tdiv_bounds (x := x) hz
  have e1 : divL ⟨true, x⟩ ⟨true, y⟩ = ⟨true, x.tdiv y⟩ := by rw [divL_eq hx]; simp [divV, on2, fitV_pos hq, hz]
  have e2 : modL ⟨true, x⟩ ⟨true, y⟩ = ⟨true, x.tmod y⟩ := by rw [modL_eq]; simp [modV, on2, knownV, hz]
  have hr : Rng (x.tmod y) ∧ Rng (0 - x.tmod y) := by
    unfold Rng at *
    rcases Int.lt_or_gt_of_ne hz with h | h
    · have := t5 h; omega
    · have := t4 h; omega
  have hp : Rng (x.tdiv y * y) := by
    rw [Int.mul_comm]
    unfold Rng at *
    rcases Int.lt_or_gt_of_ne hz with h | h
    · have := t5 h; omega
    · have := t4 h; omega
  have e3 : IntKind.i64.wrap (x.tdiv y * y) = x.tdiv y * y := W_id hp
  have e4 : IntKind.i64.wrap (x.tdiv y * y + x.tmod y) = x := by
    rw [Int.mul_comm, ← t1]
    exact W_id hx
  have e5 : IntKind.i64.wrap (-x.tmod y) = -x.tmod y := W_id (by have := hr.2; unfold Rng at *; omega)
  have hs : (x.tmod y < 0 → x < 0) ∧ (0 < x.tmod y → ¬ x < 0) := by
    constructor <;> intro h0
    · by_cases hx0 : 0 ≤ x
      · have := t2 hx0; omega
      · omega
    · by_cases hx0 : x ≤ 0
      · have := t3 hx0; omega
      · omega
  have key : ¬ x.tmod y = 0 → (x.tmod y < 0 ↔ x < 0) := fun h0 => by omega
  have k1 : y < 0 → ¬ 0 < y ∧ ¬ x.tmod y ≤ y ∧ ¬ -x.tmod y ≤ y := fun hy0 => by have := t5 hy0; omega
  have k2 : 0 < y → ¬ y < 0 ∧ ¬ y ≤ x.tmod y ∧ ¬ y ≤ -x.tmod y := fun hy0 => by have := t4 hy0; omega
  clear t1 t2 t3 t4 t5 hs hq hr hp
  generalize x.tmod y = r at *
  generalize x.tdiv y = q at *
  rcases Int.lt_or_gt_of_ne hz with hy0 | hy0
  · obtain ⟨k1, k3, k4⟩ := k1 hy0
    by_cases hxm : x = -9223372036854775808
    · have hym : ¬ y = -1 := fun h2 => hm ⟨hxm, h2⟩
      subst hxm
      simp [awp_skip, awp_label, awp_region, awp_seq, awp_if, awp_block, awp_ret, awp_exit, thenQ, blockQ, finQ, resAll, resVal, resOne, aops, adraw, aop, aeval, gocall, heapOp, quietOp, ev, constAV, setd, yav, ystop, up, env0, cx_ti, cx_G, cx_pf, ti, globS, glob, pfL, lds, ldc, ldcs, sts, sth, sls, slc, wr, place, fillOk, fillC, repZ, binI, isDiv, optInt, optI, eksOk, eksEq, EK.ok, EK.eq, AV.i, AV.isI, AV.isInt, AV.b, AV.isB, AV.str, AV.isStr, AV.unc, AV.bb, AV.okb, AV.okg, AV.gd, AV.cells, AV.one, AV.ones, AV.slen, AV.isS, AV.isPtr, AV.gl, AV.isG, Value.oneCell', Nat.add_assoc, Tryd.f6, tbl6, g25, g26, g27, pure1, pure2, deV, deI, vv, ii, bv, knownV, hz, e1, e2, e3, e4, e5, hy0, k1, k3, k4, hym]
      omega
    · simp [awp_skip, awp_label, awp_region, awp_seq, awp_if, awp_block, awp_ret, awp_exit, thenQ, blockQ, finQ, resAll, resVal, resOne, aops, adraw, aop, aeval, gocall, heapOp, quietOp, ev, constAV, setd, yav, ystop, up, env0, cx_ti, cx_G, cx_pf, ti, globS, glob, pfL, lds, ldc, ldcs, sts, sth, sls, slc, wr, place, fillOk, fillC, repZ, binI, isDiv, optInt, optI, eksOk, eksEq, EK.ok, EK.eq, AV.i, AV.isI, AV.isInt, AV.b, AV.isB, AV.str, AV.isStr, AV.unc, AV.bb, AV.okb, AV.okg, AV.gd, AV.cells, AV.one, AV.ones, AV.slen, AV.isS, AV.isPtr, AV.gl, AV.isG, Value.oneCell', Nat.add_assoc, Tryd.f6, tbl6, g25, g26, g27, pure1, pure2, deV, deI, vv, ii, bv, knownV, hz, e1, e2, e3, e4, e5, hy0, k1, k3, k4, hxm]
      omega
  · obtain ⟨k1, k3, k4⟩ := k2 hy0
    by_cases hxm : x = -9223372036854775808
    · have hym : ¬ y = -1 := fun h2 => hm ⟨hxm, h2⟩
      subst hxm
      simp [awp_skip, awp_label, awp_region, awp_seq, awp_if, awp_block, awp_ret, awp_exit, thenQ, blockQ, finQ, resAll, resVal, resOne, aops, adraw, aop, aeval, gocall, heapOp, quietOp, ev, constAV, setd, yav, ystop, up, env0, cx_ti, cx_G, cx_pf, ti, globS, glob, pfL, lds, ldc, ldcs, sts, sth, sls, slc, wr, place, fillOk, fillC, repZ, binI, isDiv, optInt, optI, eksOk, eksEq, EK.ok, EK.eq, AV.i, AV.isI, AV.isInt, AV.b, AV.isB, AV.str, AV.isStr, AV.unc, AV.bb, AV.okb, AV.okg, AV.gd, AV.cells, AV.one, AV.ones, AV.slen, AV.isS, AV.isPtr, AV.gl, AV.isG, Value.oneCell', Nat.add_assoc, Tryd.f6, tbl6, g25, g26, g27, pure1, pure2, deV, deI, vv, ii, bv, knownV, hz, e1, e2, e3, e4, e5, hy0, k1, k3, k4, hym]
      omega
    · simp [awp_skip, awp_label, awp_region, awp_seq, awp_if, awp_block, awp_ret, awp_exit, thenQ, blockQ, finQ, resAll, resVal, resOne, aops, adraw, aop, aeval, gocall, heapOp, quietOp, ev, constAV, setd, yav, ystop, up, env0, cx_ti, cx_G, cx_pf, ti, globS, glob, pfL, lds, ldc, ldcs, sts, sth, sls, slc, wr, place, fillOk, fillC, repZ, binI, isDiv, optInt, optI, eksOk, eksEq, EK.ok, EK.eq, AV.i, AV.isI, AV.isInt, AV.b, AV.isB, AV.str, AV.isStr, AV.unc, AV.bb, AV.okb, AV.okg, AV.gd, AV.cells, AV.one, AV.ones, AV.slen, AV.isS, AV.isPtr, AV.gl, AV.isG, Value.oneCell', Nat.add_assoc, Tryd.f6, tbl6, g25, g26, g27, pure1, pure2, deV, deI, vv, ii, bv, knownV, hz, e1, e2, e3, e4, e5, hy0, k1, k3, k4, hxm]
      omega
theorem law6 (x y : Int) (hx : Rng x) (hy : Rng y) (h : Heap) (n : Nat) : awp (cx [3] (pfL tbl6)) (Tryd.f6.body.getD .skip) (finQ (cx [3] (pfL tbl6)) Tryd.f6 fun z _ _ => z = bv true) ⟨env0 [ii x, ii y], h, n⟩ := by
  by_cases hz : y = 0
  · subst hz
    exact law6_zero hx h n
  by_cases hm : x = -9223372036854775808 ∧ y = -1
  · rw [hm.1, hm.2]
    exact law6_top h n
  exact law6_rest hx hy hz hm h n
end Go.Proofs.YtnodenojdjlbnaaDoor
