/-
  NumAdds: the law's own code.
-/
import Derived.Test.YtnodenojdjlbnaaDoorMb
set_option linter.unusedSimpArgs false
namespace Go.Proofs.YtnodenojdjlbnaaDoor
open Go Go.Eng
def tbl12 : List (FuncId × (List AV → Heap → PRes)) := [(30, g30), (31, g31), (36, g36), (37, g37), (38, g38), (39, g39), (40, g40), (41, g37)]
theorem tbl12_ok : TbOk [3] tbl12 := tb_cons p30 (tb_cons p31 (tb_cons p36 (tb_cons p37 (tb_cons p38 (tb_cons p39 (tb_cons p40 (tb_cons p41 tb_nil)))))))
set_option maxRecDepth 100000 in
theorem law12 (a b : V) (ha : Rng a.n) (hb : Rng b.n) (h : Heap) (n : Nat) : awp (cx [3] (pfL tbl12)) (Tryd.f12.body.getD .skip) (finQ (cx [3] (pfL tbl12)) Tryd.f12 fun z _ _ => z = bv true) ⟨env0 [vv a, vv b], h, n⟩ := by
  have e1 : raddL a b = addL a b := (raddL_eq ha hb).trans (addL_eq ha hb).symm
  have e2 : rsubL a b = subL a b := (rsubL_eq ha hb).trans (subL_eq ha hb).symm
  have e3 : rmulL a b = mulL a b := (rmulL_eq ha hb).trans (mulL_eq ha hb).symm
  simp [awp_skip, awp_label, awp_region, awp_seq, awp_if, awp_block, awp_ret, awp_exit, thenQ, blockQ, finQ, resAll, resVal, resOne, aops, adraw, aop, aeval, gocall, heapOp, quietOp, ev, constAV, setd, yav, ystop, up, env0, cx_ti, cx_G, cx_pf, ti, globS, glob, pfL, lds, ldc, ldcs, sts, sth, sls, slc, wr, place, fillOk, fillC, repZ, binI, isDiv, optInt, optI, eksOk, eksEq, EK.ok, EK.eq, AV.i, AV.isI, AV.isInt, AV.b.eq_1, AV.b.eq_2, AV.isB.eq_1, AV.isB.eq_2, AV.str, AV.isStr, unc_same, unc_tt, unc_tf, unc_f, unc_any, unc_v, unc_gp, unc_p, unc_s, unc_g, unc_t, unc_fn, unc_okb, unc_bb, unc_isB, unc_b, AV.bb.eq_1, AV.bb.eq_2, AV.okb.eq_1, AV.okb.eq_2, AV.okg.eq_1, AV.okg.eq_2, AV.gd.eq_1, AV.gd.eq_2, AV.cells, AV.one, AV.ones, AV.slen, AV.isS, AV.isPtr, AV.gl, AV.isG, Value.oneCell', Nat.add_assoc, Tryd.f12, tbl12, g30, g31, g36, g37, g38, g39, g40, pure1, pure2, deV, vv, bv, e1, e2, e3]
end Go.Proofs.YtnodenojdjlbnaaDoor
