/-
  THE NUMBERS OF THIS PROGRAM, PART D: the rest of what needs no list.
-/
import Derived.Test.YtkfphaphiikloaaDoorNc
set_option linter.unusedSimpArgs false
set_option linter.unusedVariables false
set_option linter.constructorNameAsVariable false
set_option linter.unusedSimpArgs false
namespace Go.Proofs.YtkfphaphiikloaaDoor
open Go Go.Eng


theorem p21 : P0 [] 134 g17 := by
  refine mk2 (S := []) (tb_cons p49 (tb_cons p50 tb_nil)) Tryd.func134 rfl (by kernel_rfl) vv (fun x a h => deV_out h) vv (fun x a h => deV_out h) (fun a b => rfl) (fun a b h n => ?_)
  rcases rank3 a with e | e | e <;> rcases rank3 b with e' | e' | e' <;> simp [awp_skip, awp_label, awp_region, awp_seq, awp_if, awp_block, awp_ret, awp_scope, awp_exit, thenQ_n, thenQ_e, thenQ_r, blockQ_n, blockQ_e, blockQ_r, finQ_n, finQ_r, finQ_e, resAll, resVal, resOne, aops_nil, aops_cons, atl_nil, atl_cons, atlAll_nil, atlAll_cons, freeOp, List.filter_cons, List.filter_nil, adraw_eq, adrawA_nil, adrawA_cons, isA, goOp, appNew, mkOp, gev, Region.binds, Heap.le_refl, aop, aeval, gocall, heapOp, quietOp, ev, constAV, setd, yav, ystop, up, env0, cx_ti, cx_G, cx_pf, ti, globS, glob, pfL, lds, ldc, ldcs, sts, sth, sls, slc, wr, place, fillOk, fillC, repZ, binI, isDiv, optInt, optI, eksOk, eksEq, EK.ok, EK.eq, AV.i, AV.isI, AV.isInt, AV.b.eq_1, AV.b.eq_2, AV.isB.eq_1, AV.isB.eq_2, AV.str, AV.isStr, unc_same, unc_tt, unc_tf, unc_f, unc_any, unc_v, unc_gp, unc_p, unc_s, unc_g, unc_e, unc_t, unc_fn, unc_okb, unc_bb, unc_isB, unc_b, AV.bb.eq_1, AV.bb.eq_2, AV.okb.eq_1, AV.okb.eq_2, AV.okg.eq_1, AV.okg.eq_2, AV.gd.eq_1, AV.gd.eq_2, AV.cells.eq_1, AV.cells.eq_2, AV.one.eq_1, AV.one.eq_2, AV.one.eq_3, AV.one.eq_4, AV.one.eq_5, AV.one.eq_6, AV.ones, AV.slen.eq_1, AV.slen.eq_2, AV.isS.eq_1, AV.isS.eq_2, AV.isS.eq_3, AV.isPtr, AV.gl, AV.isG, Value.oneCell', Nat.add_assoc, cut_of_le, nat_lt0, nat_le0, g49, g50, pure1, deV, deI, ii, vv, andV, e, e', ofRank]
theorem p22 : P0 [] 135 g18 := by
  refine mk2 (S := []) (tb_cons p49 (tb_cons p50 tb_nil)) Tryd.func135 rfl (by kernel_rfl) vv (fun x a h => deV_out h) vv (fun x a h => deV_out h) (fun a b => rfl) (fun a b h n => ?_)
  rcases rank3 a with e | e | e <;> rcases rank3 b with e' | e' | e' <;> simp [awp_skip, awp_label, awp_region, awp_seq, awp_if, awp_block, awp_ret, awp_scope, awp_exit, thenQ_n, thenQ_e, thenQ_r, blockQ_n, blockQ_e, blockQ_r, finQ_n, finQ_r, finQ_e, resAll, resVal, resOne, aops_nil, aops_cons, atl_nil, atl_cons, atlAll_nil, atlAll_cons, freeOp, List.filter_cons, List.filter_nil, adraw_eq, adrawA_nil, adrawA_cons, isA, goOp, appNew, mkOp, gev, Region.binds, Heap.le_refl, aop, aeval, gocall, heapOp, quietOp, ev, constAV, setd, yav, ystop, up, env0, cx_ti, cx_G, cx_pf, ti, globS, glob, pfL, lds, ldc, ldcs, sts, sth, sls, slc, wr, place, fillOk, fillC, repZ, binI, isDiv, optInt, optI, eksOk, eksEq, EK.ok, EK.eq, AV.i, AV.isI, AV.isInt, AV.b.eq_1, AV.b.eq_2, AV.isB.eq_1, AV.isB.eq_2, AV.str, AV.isStr, unc_same, unc_tt, unc_tf, unc_f, unc_any, unc_v, unc_gp, unc_p, unc_s, unc_g, unc_e, unc_t, unc_fn, unc_okb, unc_bb, unc_isB, unc_b, AV.bb.eq_1, AV.bb.eq_2, AV.okb.eq_1, AV.okb.eq_2, AV.okg.eq_1, AV.okg.eq_2, AV.gd.eq_1, AV.gd.eq_2, AV.cells.eq_1, AV.cells.eq_2, AV.one.eq_1, AV.one.eq_2, AV.one.eq_3, AV.one.eq_4, AV.one.eq_5, AV.one.eq_6, AV.ones, AV.slen.eq_1, AV.slen.eq_2, AV.isS.eq_1, AV.isS.eq_2, AV.isS.eq_3, AV.isPtr, AV.gl, AV.isG, Value.oneCell', Nat.add_assoc, cut_of_le, nat_lt0, nat_le0, g49, g50, pure1, deV, deI, ii, vv, orV, e, e', ofRank]
theorem p23 : P0 [] 106 g19 := by
  refine mk1 (S := []) (tb_cons p49 (tb_cons p50 tb_nil)) Tryd.func106 rfl (by kernel_rfl) vv (fun x a h => deV_out h) (fun a => rfl) (fun a h n => ?_)
  rcases rank3 a with e | e | e <;> simp [awp_skip, awp_label, awp_region, awp_seq, awp_if, awp_block, awp_ret, awp_scope, awp_exit, thenQ_n, thenQ_e, thenQ_r, blockQ_n, blockQ_e, blockQ_r, finQ_n, finQ_r, finQ_e, resAll, resVal, resOne, aops_nil, aops_cons, atl_nil, atl_cons, atlAll_nil, atlAll_cons, freeOp, List.filter_cons, List.filter_nil, adraw_eq, adrawA_nil, adrawA_cons, isA, goOp, appNew, mkOp, gev, Region.binds, Heap.le_refl, aop, aeval, gocall, heapOp, quietOp, ev, constAV, setd, yav, ystop, up, env0, cx_ti, cx_G, cx_pf, ti, globS, glob, pfL, lds, ldc, ldcs, sts, sth, sls, slc, wr, place, fillOk, fillC, repZ, binI, isDiv, optInt, optI, eksOk, eksEq, EK.ok, EK.eq, AV.i, AV.isI, AV.isInt, AV.b.eq_1, AV.b.eq_2, AV.isB.eq_1, AV.isB.eq_2, AV.str, AV.isStr, unc_same, unc_tt, unc_tf, unc_f, unc_any, unc_v, unc_gp, unc_p, unc_s, unc_g, unc_e, unc_t, unc_fn, unc_okb, unc_bb, unc_isB, unc_b, AV.bb.eq_1, AV.bb.eq_2, AV.okb.eq_1, AV.okb.eq_2, AV.okg.eq_1, AV.okg.eq_2, AV.gd.eq_1, AV.gd.eq_2, AV.cells.eq_1, AV.cells.eq_2, AV.one.eq_1, AV.one.eq_2, AV.one.eq_3, AV.one.eq_4, AV.one.eq_5, AV.one.eq_6, AV.ones, AV.slen.eq_1, AV.slen.eq_2, AV.isS.eq_1, AV.isS.eq_2, AV.isS.eq_3, AV.isPtr, AV.gl, AV.isG, Value.oneCell', Nat.add_assoc, cut_of_le, nat_lt0, nat_le0, g49, g50, pure1, deV, deI, ii, vv, notV, e, ofRank, IntKind.wrap, IntKind.bits, IntKind.signed]
theorem p24 : P0 [] 64 g20 := by
  refine mk1 (S := []) (tb_cons p49 tb_nil) Tryd.func64 rfl (by kernel_rfl) vv (fun x a h => deV_out h) (fun a => rfl) (fun a h n => ?_)
  simp [awp_skip, awp_label, awp_region, awp_seq, awp_if, awp_block, awp_ret, awp_scope, awp_exit, thenQ_n, thenQ_e, thenQ_r, blockQ_n, blockQ_e, blockQ_r, finQ_n, finQ_r, finQ_e, resAll, resVal, resOne, aops_nil, aops_cons, atl_nil, atl_cons, atlAll_nil, atlAll_cons, freeOp, List.filter_cons, List.filter_nil, adraw_eq, adrawA_nil, adrawA_cons, isA, goOp, appNew, mkOp, gev, Region.binds, Heap.le_refl, aop, aeval, gocall, heapOp, quietOp, ev, constAV, setd, yav, ystop, up, env0, cx_ti, cx_G, cx_pf, ti, globS, glob, pfL, lds, ldc, ldcs, sts, sth, sls, slc, wr, place, fillOk, fillC, repZ, binI, isDiv, optInt, optI, eksOk, eksEq, EK.ok, EK.eq, AV.i, AV.isI, AV.isInt, AV.b.eq_1, AV.b.eq_2, AV.isB.eq_1, AV.isB.eq_2, AV.str, AV.isStr, unc_same, unc_tt, unc_tf, unc_f, unc_any, unc_v, unc_gp, unc_p, unc_s, unc_g, unc_e, unc_t, unc_fn, unc_okb, unc_bb, unc_isB, unc_b, AV.bb.eq_1, AV.bb.eq_2, AV.okb.eq_1, AV.okb.eq_2, AV.okg.eq_1, AV.okg.eq_2, AV.gd.eq_1, AV.gd.eq_2, AV.cells.eq_1, AV.cells.eq_2, AV.one.eq_1, AV.one.eq_2, AV.one.eq_3, AV.one.eq_4, AV.one.eq_5, AV.one.eq_6, AV.ones, AV.slen.eq_1, AV.slen.eq_2, AV.isS.eq_1, AV.isS.eq_2, AV.isS.eq_3, AV.isPtr, AV.gl, AV.isG, Value.oneCell', Nat.add_assoc, cut_of_le, nat_lt0, nat_le0, g49, pure1, deV, ii, vv, bv, trueV]
def raddL (a b : V) : V := if a.k && b.k then fitL (plusL (widenL a.n) (widenL b.n)) else unk
def rsubL (a b : V) : V := if a.k && b.k then fitL (minusL (widenL a.n) (widenL b.n)) else unk
def rmulL (a b : V) : V := if a.k && b.k then (if b.n = 0 then knownV 0 else if b.n = -1 then negL a else if W ((W (a.n * b.n)).tdiv b.n) != a.n then unk else knownV (W (a.n * b.n))) else unk
def rdivL (a b : V) : V := if a.k && b.k && b.n != 0 then (if b.n == -1 then negL a else knownV (W (a.n.tdiv b.n))) else unk
def rmodL (a b : V) : V := if a.k && b.k && b.n != 0 then (if b.n == -1 then knownV 0 else knownV (W (a.n - W (b.n * W (a.n.tdiv b.n))))) else unk
def g38 := pure2 deV deV fun a b => vv (raddL a b)
def g39 := pure2 deV deV fun a b => vv (rsubL a b)
def g40 := pure2 deV deV fun a b => vv (rmulL a b)
def g28 := pure2 deV deV fun a b => vv (rdivL a b)
def g29 := pure2 deV deV fun a b => vv (rmodL a b)
theorem p38 : P0 [] 129 g38 := by
  refine mk2 (S := []) (tb_cons p63 (tb_cons p62 (tb_cons p61 (tb_cons p52 tb_nil)))) Tryd.func129 rfl (by kernel_rfl) vv (fun x a h => deV_out h) vv (fun x a h => deV_out h) (fun a b => rfl) (fun a b h n => ?_)
  obtain ⟨k, m⟩ := a
  obtain ⟨k', m'⟩ := b
  cases k <;> cases k' <;> simp [awp_skip, awp_label, awp_region, awp_seq, awp_if, awp_block, awp_ret, awp_scope, awp_exit, thenQ_n, thenQ_e, thenQ_r, blockQ_n, blockQ_e, blockQ_r, finQ_n, finQ_r, finQ_e, resAll, resVal, resOne, aops_nil, aops_cons, atl_nil, atl_cons, atlAll_nil, atlAll_cons, freeOp, List.filter_cons, List.filter_nil, adraw_eq, adrawA_nil, adrawA_cons, isA, goOp, appNew, mkOp, gev, Region.binds, Heap.le_refl, aop, aeval, gocall, heapOp, quietOp, ev, constAV, setd, yav, ystop, up, env0, cx_ti, cx_G, cx_pf, ti, globS, glob, pfL, lds, ldc, ldcs, sts, sth, sls, slc, wr, place, fillOk, fillC, repZ, binI, isDiv, optInt, optI, eksOk, eksEq, EK.ok, EK.eq, AV.i, AV.isI, AV.isInt, AV.b.eq_1, AV.b.eq_2, AV.isB.eq_1, AV.isB.eq_2, AV.str, AV.isStr, unc_same, unc_tt, unc_tf, unc_f, unc_any, unc_v, unc_gp, unc_p, unc_s, unc_g, unc_e, unc_t, unc_fn, unc_okb, unc_bb, unc_isB, unc_b, AV.bb.eq_1, AV.bb.eq_2, AV.okb.eq_1, AV.okb.eq_2, AV.okg.eq_1, AV.okg.eq_2, AV.gd.eq_1, AV.gd.eq_2, AV.cells.eq_1, AV.cells.eq_2, AV.one.eq_1, AV.one.eq_2, AV.one.eq_3, AV.one.eq_4, AV.one.eq_5, AV.one.eq_6, AV.ones, AV.slen.eq_1, AV.slen.eq_2, AV.isS.eq_1, AV.isS.eq_2, AV.isS.eq_3, AV.isPtr, AV.gl, AV.isG, Value.oneCell', Nat.add_assoc, cut_of_le, nat_lt0, nat_le0, g52, g61, g62, g63, pure1, pure2, deI, deW, ii, vv, ww, raddL, unk]
theorem p39 : P0 [] 130 g39 := by
  refine mk2 (S := []) (tb_cons p63 (tb_cons p64 (tb_cons p61 (tb_cons p52 tb_nil)))) Tryd.func130 rfl (by kernel_rfl) vv (fun x a h => deV_out h) vv (fun x a h => deV_out h) (fun a b => rfl) (fun a b h n => ?_)
  obtain ⟨k, m⟩ := a
  obtain ⟨k', m'⟩ := b
  cases k <;> cases k' <;> simp [awp_skip, awp_label, awp_region, awp_seq, awp_if, awp_block, awp_ret, awp_scope, awp_exit, thenQ_n, thenQ_e, thenQ_r, blockQ_n, blockQ_e, blockQ_r, finQ_n, finQ_r, finQ_e, resAll, resVal, resOne, aops_nil, aops_cons, atl_nil, atl_cons, atlAll_nil, atlAll_cons, freeOp, List.filter_cons, List.filter_nil, adraw_eq, adrawA_nil, adrawA_cons, isA, goOp, appNew, mkOp, gev, Region.binds, Heap.le_refl, aop, aeval, gocall, heapOp, quietOp, ev, constAV, setd, yav, ystop, up, env0, cx_ti, cx_G, cx_pf, ti, globS, glob, pfL, lds, ldc, ldcs, sts, sth, sls, slc, wr, place, fillOk, fillC, repZ, binI, isDiv, optInt, optI, eksOk, eksEq, EK.ok, EK.eq, AV.i, AV.isI, AV.isInt, AV.b.eq_1, AV.b.eq_2, AV.isB.eq_1, AV.isB.eq_2, AV.str, AV.isStr, unc_same, unc_tt, unc_tf, unc_f, unc_any, unc_v, unc_gp, unc_p, unc_s, unc_g, unc_e, unc_t, unc_fn, unc_okb, unc_bb, unc_isB, unc_b, AV.bb.eq_1, AV.bb.eq_2, AV.okb.eq_1, AV.okb.eq_2, AV.okg.eq_1, AV.okg.eq_2, AV.gd.eq_1, AV.gd.eq_2, AV.cells.eq_1, AV.cells.eq_2, AV.one.eq_1, AV.one.eq_2, AV.one.eq_3, AV.one.eq_4, AV.one.eq_5, AV.one.eq_6, AV.ones, AV.slen.eq_1, AV.slen.eq_2, AV.isS.eq_1, AV.isS.eq_2, AV.isS.eq_3, AV.isPtr, AV.gl, AV.isG, Value.oneCell', Nat.add_assoc, cut_of_le, nat_lt0, nat_le0, g52, g61, g64, g63, pure1, pure2, deI, deW, ii, vv, ww, rsubL, unk]
theorem p40 : P0 [] 131 g40 := by
  refine mk2 (S := []) (tb_cons p52 (tb_cons p53 (tb_cons p41 tb_nil))) Tryd.func131 rfl (by kernel_rfl) vv (fun x a h => deV_out h) vv (fun x a h => deV_out h) (fun a b => rfl) (fun a b h n => ?_)
  obtain ⟨k, m⟩ := a
  obtain ⟨k', m'⟩ := b
  cases k <;> cases k' <;> simp [awp_skip, awp_label, awp_region, awp_seq, awp_if, awp_block, awp_ret, awp_scope, awp_exit, thenQ_n, thenQ_e, thenQ_r, blockQ_n, blockQ_e, blockQ_r, finQ_n, finQ_r, finQ_e, resAll, resVal, resOne, aops_nil, aops_cons, atl_nil, atl_cons, atlAll_nil, atlAll_cons, freeOp, List.filter_cons, List.filter_nil, adraw_eq, adrawA_nil, adrawA_cons, isA, goOp, appNew, mkOp, gev, Region.binds, Heap.le_refl, aop, aeval, gocall, heapOp, quietOp, ev, constAV, setd, yav, ystop, up, env0, cx_ti, cx_G, cx_pf, ti, globS, glob, pfL, lds, ldc, ldcs, sts, sth, sls, slc, wr, place, fillOk, fillC, repZ, binI, isDiv, optInt, optI, eksOk, eksEq, EK.ok, EK.eq, AV.i, AV.isI, AV.isInt, AV.b.eq_1, AV.b.eq_2, AV.isB.eq_1, AV.isB.eq_2, AV.str, AV.isStr, unc_same, unc_tt, unc_tf, unc_f, unc_any, unc_v, unc_gp, unc_p, unc_s, unc_g, unc_e, unc_t, unc_fn, unc_okb, unc_bb, unc_isB, unc_b, AV.bb.eq_1, AV.bb.eq_2, AV.okb.eq_1, AV.okb.eq_2, AV.okg.eq_1, AV.okg.eq_2, AV.gd.eq_1, AV.gd.eq_2, AV.cells.eq_1, AV.cells.eq_2, AV.one.eq_1, AV.one.eq_2, AV.one.eq_3, AV.one.eq_4, AV.one.eq_5, AV.one.eq_6, AV.ones, AV.slen.eq_1, AV.slen.eq_2, AV.isS.eq_1, AV.isS.eq_2, AV.isS.eq_3, AV.isPtr, AV.gl, AV.isG, Value.oneCell', Nat.add_assoc, cut_of_le, nat_lt0, nat_le0, g52, g53, g37, pure1, deI, deV, ii, vv, rmulL, unk, knownV, W]
  all_goals grind
theorem p28 : P0 [] 132 g28 := by
  refine mk2 (S := []) (tb_cons p52 (tb_cons p53 (tb_cons p41 tb_nil))) Tryd.func132 rfl (by kernel_rfl) vv (fun x a h => deV_out h) vv (fun x a h => deV_out h) (fun a b => rfl) (fun a b h n => ?_)
  obtain ⟨k, m⟩ := a
  obtain ⟨k', m'⟩ := b
  cases k <;> cases k' <;> simp [awp_skip, awp_label, awp_region, awp_seq, awp_if, awp_block, awp_ret, awp_scope, awp_exit, thenQ_n, thenQ_e, thenQ_r, blockQ_n, blockQ_e, blockQ_r, finQ_n, finQ_r, finQ_e, resAll, resVal, resOne, aops_nil, aops_cons, atl_nil, atl_cons, atlAll_nil, atlAll_cons, freeOp, List.filter_cons, List.filter_nil, adraw_eq, adrawA_nil, adrawA_cons, isA, goOp, appNew, mkOp, gev, Region.binds, Heap.le_refl, aop, aeval, gocall, heapOp, quietOp, ev, constAV, setd, yav, ystop, up, env0, cx_ti, cx_G, cx_pf, ti, globS, glob, pfL, lds, ldc, ldcs, sts, sth, sls, slc, wr, place, fillOk, fillC, repZ, binI, isDiv, optInt, optI, eksOk, eksEq, EK.ok, EK.eq, AV.i, AV.isI, AV.isInt, AV.b.eq_1, AV.b.eq_2, AV.isB.eq_1, AV.isB.eq_2, AV.str, AV.isStr, unc_same, unc_tt, unc_tf, unc_f, unc_any, unc_v, unc_gp, unc_p, unc_s, unc_g, unc_e, unc_t, unc_fn, unc_okb, unc_bb, unc_isB, unc_b, AV.bb.eq_1, AV.bb.eq_2, AV.okb.eq_1, AV.okb.eq_2, AV.okg.eq_1, AV.okg.eq_2, AV.gd.eq_1, AV.gd.eq_2, AV.cells.eq_1, AV.cells.eq_2, AV.one.eq_1, AV.one.eq_2, AV.one.eq_3, AV.one.eq_4, AV.one.eq_5, AV.one.eq_6, AV.ones, AV.slen.eq_1, AV.slen.eq_2, AV.isS.eq_1, AV.isS.eq_2, AV.isS.eq_3, AV.isPtr, AV.gl, AV.isG, Value.oneCell', Nat.add_assoc, cut_of_le, nat_lt0, nat_le0, g52, g53, g37, pure1, deI, deV, ii, vv, rdivL, unk, knownV, W]
  all_goals grind
theorem p29 : P0 [] 133 g29 := by
  refine mk2 (S := []) (tb_cons p52 (tb_cons p53 tb_nil)) Tryd.func133 rfl (by kernel_rfl) vv (fun x a h => deV_out h) vv (fun x a h => deV_out h) (fun a b => rfl) (fun a b h n => ?_)
  obtain ⟨k, m⟩ := a
  obtain ⟨k', m'⟩ := b
  cases k <;> cases k' <;> simp [awp_skip, awp_label, awp_region, awp_seq, awp_if, awp_block, awp_ret, awp_scope, awp_exit, thenQ_n, thenQ_e, thenQ_r, blockQ_n, blockQ_e, blockQ_r, finQ_n, finQ_r, finQ_e, resAll, resVal, resOne, aops_nil, aops_cons, atl_nil, atl_cons, atlAll_nil, atlAll_cons, freeOp, List.filter_cons, List.filter_nil, adraw_eq, adrawA_nil, adrawA_cons, isA, goOp, appNew, mkOp, gev, Region.binds, Heap.le_refl, aop, aeval, gocall, heapOp, quietOp, ev, constAV, setd, yav, ystop, up, env0, cx_ti, cx_G, cx_pf, ti, globS, glob, pfL, lds, ldc, ldcs, sts, sth, sls, slc, wr, place, fillOk, fillC, repZ, binI, isDiv, optInt, optI, eksOk, eksEq, EK.ok, EK.eq, AV.i, AV.isI, AV.isInt, AV.b.eq_1, AV.b.eq_2, AV.isB.eq_1, AV.isB.eq_2, AV.str, AV.isStr, unc_same, unc_tt, unc_tf, unc_f, unc_any, unc_v, unc_gp, unc_p, unc_s, unc_g, unc_e, unc_t, unc_fn, unc_okb, unc_bb, unc_isB, unc_b, AV.bb.eq_1, AV.bb.eq_2, AV.okb.eq_1, AV.okb.eq_2, AV.okg.eq_1, AV.okg.eq_2, AV.gd.eq_1, AV.gd.eq_2, AV.cells.eq_1, AV.cells.eq_2, AV.one.eq_1, AV.one.eq_2, AV.one.eq_3, AV.one.eq_4, AV.one.eq_5, AV.one.eq_6, AV.ones, AV.slen.eq_1, AV.slen.eq_2, AV.isS.eq_1, AV.isS.eq_2, AV.isS.eq_3, AV.isPtr, AV.gl, AV.isG, Value.oneCell', Nat.add_assoc, cut_of_le, nat_lt0, nat_le0, g52, g53, pure1, deI, deV, ii, vv, rmodL, unk, knownV, W]
  all_goals grind
theorem p43 : P0 [] 136 g32 := by
  refine mk3 (S := []) (tb_cons p65 (tb_cons p52 tb_nil)) Tryd.func136 rfl (by kernel_rfl) ii (fun x a h => deI_out h) vv (fun x a h => deV_out h) vv (fun x a h => deV_out h) (fun o a b => rfl) (fun o a b h n => ?_)
  obtain ⟨k, m⟩ := a
  obtain ⟨k', m'⟩ := b
  cases k <;> cases k' <;> simp [awp_skip, awp_label, awp_region, awp_seq, awp_if, awp_block, awp_ret, awp_scope, awp_exit, thenQ_n, thenQ_e, thenQ_r, blockQ_n, blockQ_e, blockQ_r, finQ_n, finQ_r, finQ_e, resAll, resVal, resOne, aops_nil, aops_cons, atl_nil, atl_cons, atlAll_nil, atlAll_cons, freeOp, List.filter_cons, List.filter_nil, adraw_eq, adrawA_nil, adrawA_cons, isA, goOp, appNew, mkOp, gev, Region.binds, Heap.le_refl, aop, aeval, gocall, heapOp, quietOp, ev, constAV, setd, yav, ystop, up, env0, cx_ti, cx_G, cx_pf, ti, globS, glob, pfL, lds, ldc, ldcs, sts, sth, sls, slc, wr, place, fillOk, fillC, repZ, binI, isDiv, optInt, optI, eksOk, eksEq, EK.ok, EK.eq, AV.i, AV.isI, AV.isInt, AV.b.eq_1, AV.b.eq_2, AV.isB.eq_1, AV.isB.eq_2, AV.str, AV.isStr, unc_same, unc_tt, unc_tf, unc_f, unc_any, unc_v, unc_gp, unc_p, unc_s, unc_g, unc_e, unc_t, unc_fn, unc_okb, unc_bb, unc_isB, unc_b, AV.bb.eq_1, AV.bb.eq_2, AV.okb.eq_1, AV.okb.eq_2, AV.okg.eq_1, AV.okg.eq_2, AV.gd.eq_1, AV.gd.eq_2, AV.cells.eq_1, AV.cells.eq_2, AV.one.eq_1, AV.one.eq_2, AV.one.eq_3, AV.one.eq_4, AV.one.eq_5, AV.one.eq_6, AV.ones, AV.slen.eq_1, AV.slen.eq_2, AV.isS.eq_1, AV.isS.eq_2, AV.isS.eq_3, AV.isPtr, AV.gl, AV.isG, Value.oneCell', Nat.add_assoc, cut_of_le, nat_lt0, nat_le0, g65, g52, pure1, deB, ii, vv, cmpV, unk]
  by_cases h1 : o = 19
  · simp [h1]
  by_cases h2 : o = 20
  · simp [h2]
  by_cases h3 : o = 21
  · simp [h3]
  by_cases h4 : o = 22
  · simp [h4]
  by_cases h5 : o = 23
  · simp [h5]
  by_cases h6 : o = 24
  · simp [h6]
  simp [h1, h2, h3, h4, h5, h6]
def applyL (o : Int) (a b : V) : V := if o = 14 then addL a b else if o = 15 then subL a b else if o = 16 then mulL a b else if o = 17 then divL a b else if o = 18 then modL a b else if o = 25 then andV a b else if o = 26 then orV a b else cmpV o a b
def rapplyL (o : Int) (a b : V) : V := if o = 14 then raddL a b else if o = 15 then rsubL a b else if o = 16 then rmulL a b else if o = 17 then rdivL a b else if o = 18 then rmodL a b else if o = 25 then andV a b else if o = 26 then orV a b else cmpV o a b
def g42 := pure3 deI deV deV fun o a b => vv (applyL o a b)
def g44 := pure3 deI deV deV fun o a b => vv (rapplyL o a b)
theorem p42 : P0 [1, 3, 4, 5, 6] 47 g42 := by
  refine mk3 (S := [1, 3, 4, 5, 6]) (tb_cons p30 (tb_cons p31 (tb_cons p36 (tb_cons p26 (tb_cons p27 (tb_cons p17 (tb_cons p18 (tb_cons p32 tb_nil)))))))) Tryd.func47 rfl (by kernel_rfl) ii (fun x a h => deI_out h) vv (fun x a h => deV_out h) vv (fun x a h => deV_out h) (fun o a b => rfl) (fun o a b h n => ?_)
  simp [awp_skip, awp_label, awp_region, awp_seq, awp_if, awp_block, awp_ret, awp_scope, awp_exit, thenQ_n, thenQ_e, thenQ_r, blockQ_n, blockQ_e, blockQ_r, finQ_n, finQ_r, finQ_e, resAll, resVal, resOne, aops_nil, aops_cons, atl_nil, atl_cons, atlAll_nil, atlAll_cons, freeOp, List.filter_cons, List.filter_nil, adraw_eq, adrawA_nil, adrawA_cons, isA, goOp, appNew, mkOp, gev, Region.binds, Heap.le_refl, aop, aeval, gocall, heapOp, quietOp, ev, constAV, setd, yav, ystop, up, env0, cx_ti, cx_G, cx_pf, ti, globS, glob, pfL, lds, ldc, ldcs, sts, sth, sls, slc, wr, place, fillOk, fillC, repZ, binI, isDiv, optInt, optI, eksOk, eksEq, EK.ok, EK.eq, AV.i, AV.isI, AV.isInt, AV.b.eq_1, AV.b.eq_2, AV.isB.eq_1, AV.isB.eq_2, AV.str, AV.isStr, unc_same, unc_tt, unc_tf, unc_f, unc_any, unc_v, unc_gp, unc_p, unc_s, unc_g, unc_e, unc_t, unc_fn, unc_okb, unc_bb, unc_isB, unc_b, AV.bb.eq_1, AV.bb.eq_2, AV.okb.eq_1, AV.okb.eq_2, AV.okg.eq_1, AV.okg.eq_2, AV.gd.eq_1, AV.gd.eq_2, AV.cells.eq_1, AV.cells.eq_2, AV.one.eq_1, AV.one.eq_2, AV.one.eq_3, AV.one.eq_4, AV.one.eq_5, AV.one.eq_6, AV.ones, AV.slen.eq_1, AV.slen.eq_2, AV.isS.eq_1, AV.isS.eq_2, AV.isS.eq_3, AV.isPtr, AV.gl, AV.isG, Value.oneCell', Nat.add_assoc, cut_of_le, nat_lt0, nat_le0, g30, g31, g36, g26, g27, g17, g18, g32, pure2, pure3, deI, deV, ii, vv]
  by_cases h1 : o = 14
  · simp [h1, applyL]
  by_cases h2 : o = 15
  · simp [h2, applyL]
  by_cases h3 : o = 16
  · simp [h3, applyL]
  by_cases h4 : o = 17
  · simp [h4, applyL]
  by_cases h5 : o = 18
  · simp [h5, applyL]
  by_cases h6 : o = 25
  · simp [h6, applyL]
  by_cases h7 : o = 26
  · simp [h7, applyL]
  simp [h1, h2, h3, h4, h5, h6, h7, applyL]
theorem p44 : P0 [] 107 g44 := by
  refine mk3 (S := []) (tb_cons p38 (tb_cons p39 (tb_cons p40 (tb_cons p28 (tb_cons p29 (tb_cons p21 (tb_cons p22 (tb_cons p43 tb_nil)))))))) Tryd.func107 rfl (by kernel_rfl) ii (fun x a h => deI_out h) vv (fun x a h => deV_out h) vv (fun x a h => deV_out h) (fun o a b => rfl) (fun o a b h n => ?_)
  simp [awp_skip, awp_label, awp_region, awp_seq, awp_if, awp_block, awp_ret, awp_scope, awp_exit, thenQ_n, thenQ_e, thenQ_r, blockQ_n, blockQ_e, blockQ_r, finQ_n, finQ_r, finQ_e, resAll, resVal, resOne, aops_nil, aops_cons, atl_nil, atl_cons, atlAll_nil, atlAll_cons, freeOp, List.filter_cons, List.filter_nil, adraw_eq, adrawA_nil, adrawA_cons, isA, goOp, appNew, mkOp, gev, Region.binds, Heap.le_refl, aop, aeval, gocall, heapOp, quietOp, ev, constAV, setd, yav, ystop, up, env0, cx_ti, cx_G, cx_pf, ti, globS, glob, pfL, lds, ldc, ldcs, sts, sth, sls, slc, wr, place, fillOk, fillC, repZ, binI, isDiv, optInt, optI, eksOk, eksEq, EK.ok, EK.eq, AV.i, AV.isI, AV.isInt, AV.b.eq_1, AV.b.eq_2, AV.isB.eq_1, AV.isB.eq_2, AV.str, AV.isStr, unc_same, unc_tt, unc_tf, unc_f, unc_any, unc_v, unc_gp, unc_p, unc_s, unc_g, unc_e, unc_t, unc_fn, unc_okb, unc_bb, unc_isB, unc_b, AV.bb.eq_1, AV.bb.eq_2, AV.okb.eq_1, AV.okb.eq_2, AV.okg.eq_1, AV.okg.eq_2, AV.gd.eq_1, AV.gd.eq_2, AV.cells.eq_1, AV.cells.eq_2, AV.one.eq_1, AV.one.eq_2, AV.one.eq_3, AV.one.eq_4, AV.one.eq_5, AV.one.eq_6, AV.ones, AV.slen.eq_1, AV.slen.eq_2, AV.isS.eq_1, AV.isS.eq_2, AV.isS.eq_3, AV.isPtr, AV.gl, AV.isG, Value.oneCell', Nat.add_assoc, cut_of_le, nat_lt0, nat_le0, g38, g39, g40, g28, g29, g17, g18, g32, pure2, pure3, deI, deV, ii, vv]
  by_cases h1 : o = 14
  · simp [h1, rapplyL]
  by_cases h2 : o = 15
  · simp [h2, rapplyL]
  by_cases h3 : o = 16
  · simp [h3, rapplyL]
  by_cases h4 : o = 17
  · simp [h4, rapplyL]
  by_cases h5 : o = 18
  · simp [h5, rapplyL]
  by_cases h6 : o = 25
  · simp [h6, rapplyL]
  by_cases h7 : o = 26
  · simp [h7, rapplyL]
  simp [h1, h2, h3, h4, h5, h6, h7, rapplyL]
def placeL (i n : Int) : Int := if i.tmod n < 0 then W (i.tmod n + n) else i.tmod n
def deZ : AV → Option { n : Int // n ≠ 0 }
  | .v (.int .i64 n) => if h : n ≠ 0 then some ⟨n, h⟩ else none
  | _ => none
theorem deZ_out {x : AV} {a : { n : Int // n ≠ 0 }} (h : deZ x = some a) : x = ii a.1 := by
  unfold deZ at h
  split at h
  · split at h
    · cases h; rfl
    · cases h
  · cases h
def g25 := pure1 deI fun n => vv (knownV n)
def g58 := pure2 deI deZ fun i n => ii (placeL i n.1)
end Go.Proofs.YtkfphaphiikloaaDoor
