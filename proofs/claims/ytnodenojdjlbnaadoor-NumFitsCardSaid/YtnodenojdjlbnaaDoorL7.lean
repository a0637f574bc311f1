/-
  NumFits: the law's own code.
-/
import Derived.Test.YtnodenojdjlbnaaDoorMb
set_option linter.unusedSimpArgs false
namespace Go.Proofs.YtnodenojdjlbnaaDoor
open Go Go.Eng
def tbl7 : List (FuncId × (List AV → Heap → PRes)) := [(25, g25), (30, g30), (31, g31)]
theorem tbl7_ok : TbOk [3] tbl7 := tb_cons p25 (tb_cons p30 (tb_cons p31 tb_nil))
def Law7 (x y : Int) : Prop := ∀ (h : Heap) (n : Nat), awp (cx [3] (pfL tbl7)) (Tryd.f7.body.getD .skip) (finQ (cx [3] (pfL tbl7)) Tryd.f7 fun z _ _ => z = bv true) ⟨env0 [ii x, ii y], h, n⟩
section
variable {x y : Int} (hx : Rng x) (hy : Rng y)
include hx hy
theorem add_in (h : Rng (x + y)) : addL ⟨true, x⟩ ⟨true, y⟩ = ⟨true, x + y⟩ ∧ IntKind.i64.wrap (x + y - y) = x := by
  refine ⟨by rw [addL_eq hx hy]; simp [addV, on2, fitV_pos h], ?_⟩
  rw [show x + y - y = x by omega]
  exact W_id hx
theorem add_out (h : ¬ Rng (x + y)) : addL ⟨true, x⟩ ⟨true, y⟩ = ⟨false, 0⟩ := by rw [addL_eq hx hy]; simp [addV, on2, fitV_neg h]
theorem sub_in (h : Rng (x - y)) : subL ⟨true, x⟩ ⟨true, y⟩ = ⟨true, x - y⟩ ∧ IntKind.i64.wrap (x - y + y) = x := by
  refine ⟨by rw [subL_eq hx hy]; simp [subV, on2, fitV_pos h], ?_⟩
  rw [show x - y + y = x by omega]
  exact W_id hx
theorem sub_out (h : ¬ Rng (x - y)) : subL ⟨true, x⟩ ⟨true, y⟩ = ⟨false, 0⟩ := by rw [subL_eq hx hy]; simp [subV, on2, fitV_neg h]
end

set_option maxRecDepth 100000 in
set_option maxHeartbeats 1000000 in
theorem law7_pos {x y : Int} (hx : Rng x) (hy : Rng y) (h0 : 0 < y) : Law7 x y := by
  intro h n
  have q0 : IntKind.i64.wrap (9223372036854775807 - y) = 9223372036854775807 - y := W_id (by unfold Rng at *; omega)
  have q1 : IntKind.i64.wrap (-9223372036854775808 + y) = -9223372036854775808 + y := W_id (by unfold Rng at *; omega)
  have q2 : ¬ y < 0 := by omega
  have q3 : ¬ y = -9223372036854775808 := by omega
  have q4 := h0
  have q5 : IntKind.i64.wrap x = x := W_id hx
  by_cases hs : Rng (x + y) <;> by_cases hd : Rng (x - y)
  · obtain ⟨s1, s2⟩ := add_in hx hy hs
    obtain ⟨d1, d2⟩ := sub_in hx hy hd
    have k_over : ¬ 9223372036854775807 - y < x := by unfold Rng at *; omega
    have k_under : ¬ x < -9223372036854775808 + y := by unfold Rng at *; omega
    simp [awp_skip, awp_label, awp_region, awp_seq, awp_if, awp_block, awp_ret, awp_exit, thenQ, blockQ, finQ, resAll, resVal, resOne, aops, adraw, aop, aeval, gocall, heapOp, quietOp, ev, constAV, setd, yav, ystop, up, env0, cx_ti, cx_G, cx_pf, ti, globS, glob, pfL, lds, ldc, ldcs, sts, sth, sls, slc, wr, place, fillOk, fillC, repZ, binI, isDiv, optInt, optI, eksOk, eksEq, EK.ok, EK.eq, AV.i, AV.isI, AV.isInt, AV.b, AV.isB, AV.str, AV.isStr, AV.unc, AV.bb, AV.okb, AV.okg, AV.gd, AV.cells, AV.one, AV.ones, AV.slen, AV.isS, AV.isPtr, AV.gl, AV.isG, Value.oneCell', Nat.add_assoc, Tryd.f7, tbl7, g25, g30, g31, pure1, pure2, deV, deI, vv, ii, bv, knownV, s1, d1, k_over, k_under, q0, q1, q2, q3, q4, q5]
  · obtain ⟨s1, s2⟩ := add_in hx hy hs
    have d1 := sub_out hx hy hd
    have k_over : ¬ 9223372036854775807 - y < x := by unfold Rng at *; omega
    have k_under : x < -9223372036854775808 + y := by unfold Rng at *; omega
    simp [awp_skip, awp_label, awp_region, awp_seq, awp_if, awp_block, awp_ret, awp_exit, thenQ, blockQ, finQ, resAll, resVal, resOne, aops, adraw, aop, aeval, gocall, heapOp, quietOp, ev, constAV, setd, yav, ystop, up, env0, cx_ti, cx_G, cx_pf, ti, globS, glob, pfL, lds, ldc, ldcs, sts, sth, sls, slc, wr, place, fillOk, fillC, repZ, binI, isDiv, optInt, optI, eksOk, eksEq, EK.ok, EK.eq, AV.i, AV.isI, AV.isInt, AV.b, AV.isB, AV.str, AV.isStr, AV.unc, AV.bb, AV.okb, AV.okg, AV.gd, AV.cells, AV.one, AV.ones, AV.slen, AV.isS, AV.isPtr, AV.gl, AV.isG, Value.oneCell', Nat.add_assoc, Tryd.f7, tbl7, g25, g30, g31, pure1, pure2, deV, deI, vv, ii, bv, knownV, s1, d1, k_over, k_under, q0, q1, q2, q3, q4, q5]
  · have s1 := add_out hx hy hs
    obtain ⟨d1, d2⟩ := sub_in hx hy hd
    have k_over : 9223372036854775807 - y < x := by unfold Rng at *; omega
    have k_under : ¬ x < -9223372036854775808 + y := by unfold Rng at *; omega
    simp [awp_skip, awp_label, awp_region, awp_seq, awp_if, awp_block, awp_ret, awp_exit, thenQ, blockQ, finQ, resAll, resVal, resOne, aops, adraw, aop, aeval, gocall, heapOp, quietOp, ev, constAV, setd, yav, ystop, up, env0, cx_ti, cx_G, cx_pf, ti, globS, glob, pfL, lds, ldc, ldcs, sts, sth, sls, slc, wr, place, fillOk, fillC, repZ, binI, isDiv, optInt, optI, eksOk, eksEq, EK.ok, EK.eq, AV.i, AV.isI, AV.isInt, AV.b, AV.isB, AV.str, AV.isStr, AV.unc, AV.bb, AV.okb, AV.okg, AV.gd, AV.cells, AV.one, AV.ones, AV.slen, AV.isS, AV.isPtr, AV.gl, AV.isG, Value.oneCell', Nat.add_assoc, Tryd.f7, tbl7, g25, g30, g31, pure1, pure2, deV, deI, vv, ii, bv, knownV, s1, d1, k_over, k_under, q0, q1, q2, q3, q4, q5]
  · have s1 := add_out hx hy hs
    have d1 := sub_out hx hy hd
    have k_over : 9223372036854775807 - y < x := by unfold Rng at *; omega
    have k_under : x < -9223372036854775808 + y := by unfold Rng at *; omega
    simp [awp_skip, awp_label, awp_region, awp_seq, awp_if, awp_block, awp_ret, awp_exit, thenQ, blockQ, finQ, resAll, resVal, resOne, aops, adraw, aop, aeval, gocall, heapOp, quietOp, ev, constAV, setd, yav, ystop, up, env0, cx_ti, cx_G, cx_pf, ti, globS, glob, pfL, lds, ldc, ldcs, sts, sth, sls, slc, wr, place, fillOk, fillC, repZ, binI, isDiv, optInt, optI, eksOk, eksEq, EK.ok, EK.eq, AV.i, AV.isI, AV.isInt, AV.b, AV.isB, AV.str, AV.isStr, AV.unc, AV.bb, AV.okb, AV.okg, AV.gd, AV.cells, AV.one, AV.ones, AV.slen, AV.isS, AV.isPtr, AV.gl, AV.isG, Value.oneCell', Nat.add_assoc, Tryd.f7, tbl7, g25, g30, g31, pure1, pure2, deV, deI, vv, ii, bv, knownV, s1, d1, k_over, k_under, q0, q1, q2, q3, q4, q5]
set_option maxRecDepth 100000 in
set_option maxHeartbeats 1000000 in
theorem law7_neg {x y : Int} (hx : Rng x) (hy : Rng y) (h0 : y < 0) (h1 : y ≠ -9223372036854775808) : Law7 x y := by
  intro h n
  have q0 : IntKind.i64.wrap (-9223372036854775808 - y) = -9223372036854775808 - y := W_id (by unfold Rng at *; omega)
  have q1 : IntKind.i64.wrap (9223372036854775807 + y) = 9223372036854775807 + y := W_id (by unfold Rng at *; omega)
  have q2 : ¬ 0 < y := by omega
  have q3 := h1
  have q4 := h0
  have q5 : IntKind.i64.wrap x = x := W_id hx
  by_cases hs : Rng (x + y) <;> by_cases hd : Rng (x - y)
  · obtain ⟨s1, s2⟩ := add_in hx hy hs
    obtain ⟨d1, d2⟩ := sub_in hx hy hd
    have k_over : ¬ x < -9223372036854775808 - y := by unfold Rng at *; omega
    have k_under : ¬ 9223372036854775807 + y < x := by unfold Rng at *; omega
    simp [awp_skip, awp_label, awp_region, awp_seq, awp_if, awp_block, awp_ret, awp_exit, thenQ, blockQ, finQ, resAll, resVal, resOne, aops, adraw, aop, aeval, gocall, heapOp, quietOp, ev, constAV, setd, yav, ystop, up, env0, cx_ti, cx_G, cx_pf, ti, globS, glob, pfL, lds, ldc, ldcs, sts, sth, sls, slc, wr, place, fillOk, fillC, repZ, binI, isDiv, optInt, optI, eksOk, eksEq, EK.ok, EK.eq, AV.i, AV.isI, AV.isInt, AV.b, AV.isB, AV.str, AV.isStr, AV.unc, AV.bb, AV.okb, AV.okg, AV.gd, AV.cells, AV.one, AV.ones, AV.slen, AV.isS, AV.isPtr, AV.gl, AV.isG, Value.oneCell', Nat.add_assoc, Tryd.f7, tbl7, g25, g30, g31, pure1, pure2, deV, deI, vv, ii, bv, knownV, s1, d1, k_over, k_under, q0, q1, q2, q3, q4, q5]
  · obtain ⟨s1, s2⟩ := add_in hx hy hs
    have d1 := sub_out hx hy hd
    have k_over : ¬ x < -9223372036854775808 - y := by unfold Rng at *; omega
    have k_under : 9223372036854775807 + y < x := by unfold Rng at *; omega
    simp [awp_skip, awp_label, awp_region, awp_seq, awp_if, awp_block, awp_ret, awp_exit, thenQ, blockQ, finQ, resAll, resVal, resOne, aops, adraw, aop, aeval, gocall, heapOp, quietOp, ev, constAV, setd, yav, ystop, up, env0, cx_ti, cx_G, cx_pf, ti, globS, glob, pfL, lds, ldc, ldcs, sts, sth, sls, slc, wr, place, fillOk, fillC, repZ, binI, isDiv, optInt, optI, eksOk, eksEq, EK.ok, EK.eq, AV.i, AV.isI, AV.isInt, AV.b, AV.isB, AV.str, AV.isStr, AV.unc, AV.bb, AV.okb, AV.okg, AV.gd, AV.cells, AV.one, AV.ones, AV.slen, AV.isS, AV.isPtr, AV.gl, AV.isG, Value.oneCell', Nat.add_assoc, Tryd.f7, tbl7, g25, g30, g31, pure1, pure2, deV, deI, vv, ii, bv, knownV, s1, d1, k_over, k_under, q0, q1, q2, q3, q4, q5]
  · have s1 := add_out hx hy hs
    obtain ⟨d1, d2⟩ := sub_in hx hy hd
    have k_over : x < -9223372036854775808 - y := by unfold Rng at *; omega
    have k_under : ¬ 9223372036854775807 + y < x := by unfold Rng at *; omega
    simp [awp_skip, awp_label, awp_region, awp_seq, awp_if, awp_block, awp_ret, awp_exit, thenQ, blockQ, finQ, resAll, resVal, resOne, aops, adraw, aop, aeval, gocall, heapOp, quietOp, ev, constAV, setd, yav, ystop, up, env0, cx_ti, cx_G, cx_pf, ti, globS, glob, pfL, lds, ldc, ldcs, sts, sth, sls, slc, wr, place, fillOk, fillC, repZ, binI, isDiv, optInt, optI, eksOk, eksEq, EK.ok, EK.eq, AV.i, AV.isI, AV.isInt, AV.b, AV.isB, AV.str, AV.isStr, AV.unc, AV.bb, AV.okb, AV.okg, AV.gd, AV.cells, AV.one, AV.ones, AV.slen, AV.isS, AV.isPtr, AV.gl, AV.isG, Value.oneCell', Nat.add_assoc, Tryd.f7, tbl7, g25, g30, g31, pure1, pure2, deV, deI, vv, ii, bv, knownV, s1, d1, k_over, k_under, q0, q1, q2, q3, q4, q5]
  · have s1 := add_out hx hy hs
    have d1 := sub_out hx hy hd
    have k_over : x < -9223372036854775808 - y := by unfold Rng at *; omega
    have k_under : 9223372036854775807 + y < x := by unfold Rng at *; omega
    simp [awp_skip, awp_label, awp_region, awp_seq, awp_if, awp_block, awp_ret, awp_exit, thenQ, blockQ, finQ, resAll, resVal, resOne, aops, adraw, aop, aeval, gocall, heapOp, quietOp, ev, constAV, setd, yav, ystop, up, env0, cx_ti, cx_G, cx_pf, ti, globS, glob, pfL, lds, ldc, ldcs, sts, sth, sls, slc, wr, place, fillOk, fillC, repZ, binI, isDiv, optInt, optI, eksOk, eksEq, EK.ok, EK.eq, AV.i, AV.isI, AV.isInt, AV.b, AV.isB, AV.str, AV.isStr, AV.unc, AV.bb, AV.okb, AV.okg, AV.gd, AV.cells, AV.one, AV.ones, AV.slen, AV.isS, AV.isPtr, AV.gl, AV.isG, Value.oneCell', Nat.add_assoc, Tryd.f7, tbl7, g25, g30, g31, pure1, pure2, deV, deI, vv, ii, bv, knownV, s1, d1, k_over, k_under, q0, q1, q2, q3, q4, q5]
set_option maxRecDepth 100000 in
set_option maxHeartbeats 1000000 in
theorem law7_zero {x : Int} (hx : Rng x) : Law7 x 0 := by
  intro h n
  have hy : Rng 0 := by unfold Rng; omega
  obtain ⟨s1, s2⟩ := add_in hx hy (by rw [Int.add_zero]; exact hx)
  obtain ⟨d1, d2⟩ := sub_in hx hy (by rw [Int.sub_zero]; exact hx)
  have q : IntKind.i64.wrap x = x := W_id hx
  simp [awp_skip, awp_label, awp_region, awp_seq, awp_if, awp_block, awp_ret, awp_exit, thenQ, blockQ, finQ, resAll, resVal, resOne, aops, adraw, aop, aeval, gocall, heapOp, quietOp, ev, constAV, setd, yav, ystop, up, env0, cx_ti, cx_G, cx_pf, ti, globS, glob, pfL, lds, ldc, ldcs, sts, sth, sls, slc, wr, place, fillOk, fillC, repZ, binI, isDiv, optInt, optI, eksOk, eksEq, EK.ok, EK.eq, AV.i, AV.isI, AV.isInt, AV.b, AV.isB, AV.str, AV.isStr, AV.unc, AV.bb, AV.okb, AV.okg, AV.gd, AV.cells, AV.one, AV.ones, AV.slen, AV.isS, AV.isPtr, AV.gl, AV.isG, Value.oneCell', Nat.add_assoc, Tryd.f7, tbl7, g25, g30, g31, pure1, pure2, deV, deI, vv, ii, bv, knownV, s1, d1, q]
set_option maxRecDepth 100000 in
set_option maxHeartbeats 1000000 in
theorem law7_least {x : Int} (hx : Rng x) : Law7 x (-9223372036854775808) := by
  intro h n
  have hy : Rng (-9223372036854775808) := by unfold Rng; omega
  have w1 : IntKind.i64.wrap 0 = 0 := rfl
  have w2 : IntKind.i64.wrap (-1) = -1 := rfl
  have w3 : IntKind.i64.wrap (x + -9223372036854775808 + 9223372036854775808) = x := by rw [show x + -9223372036854775808 + 9223372036854775808 = x by omega]; exact W_id hx
  have w4 : IntKind.i64.wrap (x + 9223372036854775808 + -9223372036854775808) = x := by rw [show x + 9223372036854775808 + -9223372036854775808 = x by omega]; exact W_id hx
  by_cases h0 : 0 ≤ x
  · obtain ⟨s1, s2⟩ := add_in hx hy (by unfold Rng at *; omega)
    have d1 := sub_out hx hy (by unfold Rng at *; omega)
    have k : ¬ x < 0 := by omega
    simp [awp_skip, awp_label, awp_region, awp_seq, awp_if, awp_block, awp_ret, awp_exit, thenQ, blockQ, finQ, resAll, resVal, resOne, aops, adraw, aop, aeval, gocall, heapOp, quietOp, ev, constAV, setd, yav, ystop, up, env0, cx_ti, cx_G, cx_pf, ti, globS, glob, pfL, lds, ldc, ldcs, sts, sth, sls, slc, wr, place, fillOk, fillC, repZ, binI, isDiv, optInt, optI, eksOk, eksEq, EK.ok, EK.eq, AV.i, AV.isI, AV.isInt, AV.b, AV.isB, AV.str, AV.isStr, AV.unc, AV.bb, AV.okb, AV.okg, AV.gd, AV.cells, AV.one, AV.ones, AV.slen, AV.isS, AV.isPtr, AV.gl, AV.isG, Value.oneCell', Nat.add_assoc, Tryd.f7, tbl7, g25, g30, g31, pure1, pure2, deV, deI, vv, ii, bv, knownV, s1, d1, h0, k, w1, w2, w3, w4]
  · have s1 := add_out hx hy (by unfold Rng at *; omega)
    obtain ⟨d1, d2⟩ := sub_in hx hy (by unfold Rng at *; omega)
    have k : x < 0 := by omega
    simp [awp_skip, awp_label, awp_region, awp_seq, awp_if, awp_block, awp_ret, awp_exit, thenQ, blockQ, finQ, resAll, resVal, resOne, aops, adraw, aop, aeval, gocall, heapOp, quietOp, ev, constAV, setd, yav, ystop, up, env0, cx_ti, cx_G, cx_pf, ti, globS, glob, pfL, lds, ldc, ldcs, sts, sth, sls, slc, wr, place, fillOk, fillC, repZ, binI, isDiv, optInt, optI, eksOk, eksEq, EK.ok, EK.eq, AV.i, AV.isI, AV.isInt, AV.b, AV.isB, AV.str, AV.isStr, AV.unc, AV.bb, AV.okb, AV.okg, AV.gd, AV.cells, AV.one, AV.ones, AV.slen, AV.isS, AV.isPtr, AV.gl, AV.isG, Value.oneCell', Nat.add_assoc, Tryd.f7, tbl7, g25, g30, g31, pure1, pure2, deV, deI, vv, ii, bv, knownV, s1, d1, d2, h0, k, w1, w2, w3, w4]
theorem law7 (x y : Int) (hx : Rng x) (hy : Rng y) (h : Heap) (n : Nat) : awp (cx [3] (pfL tbl7)) (Tryd.f7.body.getD .skip) (finQ (cx [3] (pfL tbl7)) Tryd.f7 fun z _ _ => z = bv true) ⟨env0 [ii x, ii y], h, n⟩ := by
  by_cases hm : y = -9223372036854775808
  · subst hm
    exact law7_least hx h n
  rcases Int.lt_trichotomy y 0 with h0 | h0 | h0
  · exact law7_neg hx hy h0 hm h n
  · subst h0
    exact law7_zero hx h n
  · exact law7_pos hx hy h0 h n
end Go.Proofs.YtnodenojdjlbnaaDoor
