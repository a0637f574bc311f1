/-
  NumTruths: the law's own code.
-/
import Derived.Test.YtnodenojdjlbnaaDoorNd
set_option linter.unusedSimpArgs false
namespace Go.Proofs.YtnodenojdjlbnaaDoor
open Go Go.Eng
def tbl3 : List (FuncId × (List AV → Heap → PRes)) := [(17, g17), (18, g18), (19, g19), (20, g20), (21, g17), (22, g18), (23, g19), (24, g20)]
theorem tbl3_ok : TbOk [0, 1, 2] tbl3 := tb_cons p17 (tb_cons p18 (tb_cons p19 (tb_cons p20 (tb_cons p21 (tb_cons p22 (tb_cons p23 (tb_cons p24 tb_nil)))))))
theorem law3 (a b : V) (_ : -9223372036854775808 ≤ a.n ∧ a.n < 9223372036854775808) (_ : -9223372036854775808 ≤ b.n ∧ b.n < 9223372036854775808) (h : Heap) (n : Nat) : awp (cx [0, 1, 2] (pfL tbl3)) (Tryd.f3.body.getD .skip) (finQ (cx [0, 1, 2] (pfL tbl3)) Tryd.f3 fun z _ _ => z = bv true) ⟨env0 [vv a, vv b], h, n⟩ := by
  simp [awp_skip, awp_label, awp_region, awp_seq, awp_cond, awp_block, awp_ret, awp_exit, thenQ, blockQ, finQ, resAll, resVal, resOne, aops, adraw, aop, aeval, gocall, heapOp, quietOp, ev, constAV, setd, yav, ystop, up, env0, cx_ti, cx_G, cx_pf, ti, globS, glob, pfL, lds, ldc, ldcs, sts, sth, sls, slc, wr, place, fillOk, fillC, repZ, binI, isDiv, optInt, optI, eksOk, eksEq, EK.ok, EK.eq, AV.i, AV.isI, AV.isInt, AV.b, AV.isB, AV.str, AV.isStr, AV.unc, AV.bb, AV.okb, AV.okg, AV.gd, AV.cells, AV.one, AV.ones, AV.slen, AV.isS, AV.isPtr, AV.gl, AV.isG, Value.oneCell', Nat.add_assoc, Tryd.f3, tbl3, g17, g18, g19, g20, pure1, pure2, deV, vv, bv]
end Go.Proofs.YtnodenojdjlbnaaDoor
