/-
  NumDivides: the law's own code.
-/
import Derived.Test.YtnodenojdjlbnaaDoorMb
set_option linter.unusedSimpArgs false
namespace Go.Proofs.YtnodenojdjlbnaaDoor
open Go Go.Eng
def tbl5 : List (FuncId × (List AV → Heap → PRes)) := [(26, g26), (27, g27), (28, g28), (29, g29)]
theorem tbl5_ok : TbOk [3] tbl5 := tb_cons p26 (tb_cons p27 (tb_cons p28 (tb_cons p29 tb_nil)))
theorem law5 (a b : V) (ha : Rng a.n) (hb : Rng b.n) (h : Heap) (n : Nat) : awp (cx [3] (pfL tbl5)) (Tryd.f5.body.getD .skip) (finQ (cx [3] (pfL tbl5)) Tryd.f5 fun z _ _ => z = bv true) ⟨env0 [vv a, vv b], h, n⟩ := by
  have e1 : rdivL a b = divL a b := (rdivL_eq ha).trans (divL_eq ha).symm
  have e2 : rmodL a b = modL a b := (rmodL_eq ha hb).trans modL_eq.symm
  simp [awp_skip, awp_label, awp_region, awp_seq, awp_cond, awp_block, awp_ret, awp_exit, thenQ, blockQ, finQ, resAll, resVal, resOne, aops, adraw, aop, aeval, gocall, heapOp, quietOp, ev, constAV, setd, yav, ystop, up, env0, cx_ti, cx_G, cx_pf, ti, globS, glob, pfL, lds, ldc, ldcs, sts, sth, sls, slc, wr, place, fillOk, fillC, repZ, binI, isDiv, optInt, optI, eksOk, eksEq, EK.ok, EK.eq, AV.i, AV.isI, AV.isInt, AV.b, AV.isB, AV.str, AV.isStr, AV.unc, AV.bb, AV.okb, AV.okg, AV.gd, AV.cells, AV.one, AV.ones, AV.slen, AV.isS, AV.isPtr, AV.gl, AV.isG, Value.oneCell', Nat.add_assoc, Tryd.f5, tbl5, g26, g27, g28, g29, pure1, pure2, deV, vv, bv, e1, e2]
end Go.Proofs.YtnodenojdjlbnaaDoor
