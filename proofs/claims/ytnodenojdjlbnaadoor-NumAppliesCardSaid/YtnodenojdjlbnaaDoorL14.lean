/-
  NumApplies: the law's own code.
-/
import Derived.Test.YtnodenojdjlbnaaDoorMb
set_option linter.unusedSimpArgs false
namespace Go.Proofs.YtnodenojdjlbnaaDoor
open Go Go.Eng
def tbl14 : List (FuncId × (List AV → Heap → PRes)) := [(32, g32), (42, g42), (43, g32), (44, g44)]
theorem tbl14_ok : TbOk [0, 1, 3, 4, 5] tbl14 := tb_cons p32 (tb_cons p42 (tb_cons p43 (tb_cons p44 tb_nil)))
set_option maxRecDepth 100000 in
theorem law14 (o : Int) (a b : V) (_ : Rng o) (ha : Rng a.n) (hb : Rng b.n) (h : Heap) (n : Nat) : awp (cx [0, 1, 3, 4, 5] (pfL tbl14)) (Tryd.f14.body.getD .skip) (finQ (cx [0, 1, 3, 4, 5] (pfL tbl14)) Tryd.f14 fun z _ _ => z = bv true) ⟨env0 [ii o, vv a, vv b], h, n⟩ := by
  have e1 : rapplyL o a b = applyL o a b := (apply_eq o ha hb).symm
  have e2 : IntKind.i64.wrap o = o := W_id (by assumption)
  simp [awp_skip, awp_label, awp_region, awp_seq, awp_if, awp_block, awp_ret, awp_exit, thenQ, blockQ, finQ, resAll, resVal, resOne, aops, adraw, aop, aeval, gocall, heapOp, quietOp, ev, constAV, setd, yav, ystop, up, env0, cx_ti, cx_G, cx_pf, ti, globS, glob, pfL, lds, ldc, ldcs, sts, sth, sls, slc, wr, place, fillOk, fillC, repZ, binI, isDiv, optInt, optI, eksOk, eksEq, EK.ok, EK.eq, AV.i, AV.isI, AV.isInt, AV.b.eq_1, AV.b.eq_2, AV.isB.eq_1, AV.isB.eq_2, AV.str, AV.isStr, unc_same, unc_tt, unc_tf, unc_f, unc_any, unc_v, unc_gp, unc_p, unc_s, unc_g, unc_t, unc_fn, unc_okb, unc_bb, unc_isB, unc_b, AV.bb.eq_1, AV.bb.eq_2, AV.okb.eq_1, AV.okb.eq_2, AV.okg.eq_1, AV.okg.eq_2, AV.gd.eq_1, AV.gd.eq_2, AV.cells, AV.one, AV.ones, AV.slen, AV.isS, AV.isPtr, AV.gl, AV.isG, Value.oneCell', Nat.add_assoc, Tryd.f14, tbl14, g32, g42, g44, pure3, deV, deI, vv, ii, bv, e1, e2]
end Go.Proofs.YtnodenojdjlbnaaDoor
