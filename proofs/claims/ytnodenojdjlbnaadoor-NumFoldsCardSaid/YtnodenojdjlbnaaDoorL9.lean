/-
  NumFolds: the law's own code.
-/
import Derived.Test.YtnodenojdjlbnaaDoorMd
set_option linter.unusedSimpArgs false
namespace Go.Proofs.YtnodenojdjlbnaaDoor
open Go Go.Eng
def tbl9 : List (FuncId × (List AV → Heap → PRes)) := [(33, g33), (34, g34)]
theorem tbl9_ok : TbOk [3] tbl9 := tb_cons p33 (tb_cons p34 tb_nil)
set_option maxRecDepth 100000 in
set_option maxHeartbeats 2000000 in
theorem law9 (o : Int) (l : List Int) (_ : Rng o) (hl : All l) (hr : l.length * 8 ≤ reachBytes) (a : AV) (h : Heap) (n : Nat) (hi : ints h a = some l) (hn : ∀ i, n ≤ i → h i = none) :
    awp (cx [3] (pfL tbl9)) (Tryd.f9.body.getD .skip) (finQ (cx [3] (pfL tbl9)) Tryd.f9 fun z _ _ => z = bv true) ⟨env0 [ii o, a], roH h, n⟩ := by
  unfold reachBytes at hr
  have hw : IntKind.i64.wrap o = o := W_id (by assumption)
  have hbig : l.length < big := by unfold big; omega
  by_cases hlen : l.length ≤ 2147483647
  · have hlen' : ¬ (2147483647 < (l.length : Int)) := by omega
    have hb0 : 0 < big := by unfold big; omega
    have hf := fold_eq o hl hlen
    have hf0 := fold_eq o (l := []) (by simp [All]) (by simp)
    have key : ∀ e : Nat → AV, e 0 = ii o → e 1 = a → awp (cx [3] (pfL tbl9)) (Tryd.f9.body.getD .skip) (finQ (cx [3] (pfL tbl9)) Tryd.f9 fun z _ _ => z = bv true) ⟨e, roH h, n⟩ := fun e he he1 => by
      rcases ints_at hi with ⟨rfl, rfl⟩ | ⟨id, off, k, rfl, hk, hoff, htk, hat⟩
      · simp [awp_skip, awp_label, awp_region, awp_seq, awp_if, awp_block, awp_ret, awp_exit, thenQ, blockQ, finQ, resAll, resVal, resOne, aops, atl, adraw, adrawA, isA, goOp, astep, gev, Region.binds, Heap.le_refl, aop, aeval, gocall, heapOp, quietOp, ev, constAV, setd, yav, ystop, up, env0, cx_ti, cx_G, cx_pf, ti, globS, glob, pfL, lds, ldc, ldcs, sts, sth, sls, slc, wr, place, fillOk, fillC, repZ, binI, isDiv, optInt, optI, eksOk, eksEq, EK.ok, EK.eq, AV.i, AV.isI, AV.isInt, AV.b.eq_1, AV.b.eq_2, AV.isB.eq_1, AV.isB.eq_2, AV.str, AV.isStr, unc_same, unc_tt, unc_tf, unc_f, unc_any, unc_v, unc_gp, unc_p, unc_s, unc_g, unc_e, unc_t, unc_fn, unc_okb, unc_bb, unc_isB, unc_b, AV.bb.eq_1, AV.bb.eq_2, AV.okb.eq_1, AV.okb.eq_2, AV.okg.eq_1, AV.okg.eq_2, AV.gd.eq_1, AV.gd.eq_2, AV.cells, AV.one, AV.ones, AV.slen, AV.isS, AV.isPtr, AV.gl, AV.isG, Value.oneCell', Nat.add_assoc, Tryd.f9, he, he1, ii, vv, bv, tbl9, g33, pureAL, deI, ints, hw, hb0, hbig]
        refine awp_loop (fun s => s.e 0 = ii o ∧ s.e 1 = .v (.slice none 0 0) ∧ s.e 5 = .s n 1 0 0 ∧ s.e 6 = .p (n + 2) 0 0 ∧ s.e 7 = .p (n + 4) 0 0 ∧ s.e 8 = ii 0 ∧ s.h n = some ⟨[], 1, true, 1⟩ ∧
          s.h (n + 2) = some ⟨[.v (.bool (foldG sumL o []).k), .v (.int .i64 (foldG sumL o []).n)], 0, true, 2⟩ ∧ s.h (n + 4) = some ⟨[.v (.bool (foldG sumL o []).k), .v (.int .i64 (foldG sumL o []).n)], 0, true, 2⟩) (fun _ => 0) (by simp [up, ii, he, he1, vv]) ?_
        rintro e' h' n' ⟨q0, q1, q5, q6, q7, q8, hh, hh1, hh2⟩
        simp only [] at q0 q1 q5 q6 q7 q8 hh hh1 hh2
        simp [awp_skip, awp_label, awp_region, awp_seq, awp_if, awp_block, awp_ret, awp_exit, thenQ, blockQ, finQ, resAll, resVal, resOne, aops, atl, adraw, adrawA, isA, goOp, astep, gev, Region.binds, Heap.le_refl, aop, aeval, gocall, heapOp, quietOp, ev, constAV, setd, yav, ystop, up, env0, cx_ti, cx_G, cx_pf, ti, globS, glob, pfL, lds, ldc, ldcs, sts, sth, sls, slc, wr, place, fillOk, fillC, repZ, binI, isDiv, optInt, optI, eksOk, eksEq, EK.ok, EK.eq, AV.i, AV.isI, AV.isInt, AV.b.eq_1, AV.b.eq_2, AV.isB.eq_1, AV.isB.eq_2, AV.str, AV.isStr, unc_same, unc_tt, unc_tf, unc_f, unc_any, unc_v, unc_gp, unc_p, unc_s, unc_g, unc_e, unc_t, unc_fn, unc_okb, unc_bb, unc_isB, unc_b, AV.bb.eq_1, AV.bb.eq_2, AV.okb.eq_1, AV.okb.eq_2, AV.okg.eq_1, AV.okg.eq_2, AV.gd.eq_1, AV.gd.eq_2, AV.cells, AV.one, AV.ones, AV.slen, AV.isS, AV.isPtr, AV.gl, AV.isG, Value.oneCell', Nat.add_assoc, q0, q1, q5, q6, q7, q8, hh, hh1, hh2, ii, bv, vv, tbl9, g34, pureAL, deI, ints, deIs, hw, hb0, hbig, hf0]
      · have h0 := ne_of hk hn 0
        have h3 := ne_of hk hn 4
        have h2 := ne_of hk hn 2
        simp only [Nat.add_zero] at h0
        have hro := ro_at hk
        simp [awp_skip, awp_label, awp_region, awp_seq, awp_if, awp_block, awp_ret, awp_exit, thenQ, blockQ, finQ, resAll, resVal, resOne, aops, atl, adraw, adrawA, isA, goOp, astep, gev, Region.binds, Heap.le_refl, aop, aeval, gocall, heapOp, quietOp, ev, constAV, setd, yav, ystop, up, env0, cx_ti, cx_G, cx_pf, ti, globS, glob, pfL, lds, ldc, ldcs, sts, sth, sls, slc, wr, place, fillOk, fillC, repZ, binI, isDiv, optInt, optI, eksOk, eksEq, EK.ok, EK.eq, AV.i, AV.isI, AV.isInt, AV.b.eq_1, AV.b.eq_2, AV.isB.eq_1, AV.isB.eq_2, AV.str, AV.isStr, unc_same, unc_tt, unc_tf, unc_f, unc_any, unc_v, unc_gp, unc_p, unc_s, unc_g, unc_e, unc_t, unc_fn, unc_okb, unc_bb, unc_isB, unc_b, AV.bb.eq_1, AV.bb.eq_2, AV.okb.eq_1, AV.okb.eq_2, AV.okg.eq_1, AV.okg.eq_2, AV.gd.eq_1, AV.gd.eq_2, AV.cells, AV.one, AV.ones, AV.slen, AV.isS, AV.isPtr, AV.gl, AV.isG, Value.oneCell', Nat.add_assoc, Tryd.f9, he, he1, ii, vv, bv, tbl9, g33, pureAL, deI, ints, hw, hb0, hbig, hlen', h0, h2, h3, hro, hoff, htk, deIs_ii]
        refine ⟨by omega, awp_loop (fun s => ∃ j, j ≤ l.length ∧ s.e 0 = ii o ∧ s.e 1 = .s id k.ver off l.length ∧ s.e 5 = .s n 1 0 l.length ∧ s.e 6 = .p (n + 2) 0 0 ∧ s.e 7 = .p (n + 4) 0 0 ∧ s.e 8 = ii j ∧ s.h id = some ⟨k.cells, k.ver, false, k.esz⟩ ∧ s.h n = some ⟨l.map ii, 1, true, 1⟩ ∧
          s.h (n + 2) = some ⟨[.v (.bool (foldG sumL o l).k), .v (.int .i64 (foldG sumL o l).n)], 0, true, 2⟩ ∧ s.h (n + 4) = some ⟨[.v (.bool (foldG sumL o []).k), .v (.int .i64 (foldG sumL o []).n)], 0, true, 2⟩) (fun s => l.length - (s.e 8).i.toNat) ⟨0, Nat.zero_le _, by refine ⟨?_, ?_, ?_, ?_, ?_, ?_, ?_, ?_, ?_, ?_⟩ <;> simp [up, ii, he, he1, vv, h0, h2, h3, hro, htk]⟩ ?_⟩
        rintro e' h' n' ⟨j, hj, q0, q1, q5, q6, q7, q8, hh0, hh, hh1, hh2⟩
        simp only [] at q0 q1 q5 q6 q7 q8 hh0 hh hh1 hh2
        by_cases hlt : j < l.length
        · have hget := hat j hlt
          have hw1 := wrap_nat (j := j) (by omega)
          simp [awp_skip, awp_label, awp_region, awp_seq, awp_if, awp_block, awp_ret, awp_exit, thenQ, blockQ, finQ, resAll, resVal, resOne, aops, atl, adraw, adrawA, isA, goOp, astep, gev, Region.binds, Heap.le_refl, aop, aeval, gocall, heapOp, quietOp, ev, constAV, setd, yav, ystop, up, env0, cx_ti, cx_G, cx_pf, ti, globS, glob, pfL, lds, ldc, ldcs, sts, sth, sls, slc, wr, place, fillOk, fillC, repZ, binI, isDiv, optInt, optI, eksOk, eksEq, EK.ok, EK.eq, AV.i, AV.isI, AV.isInt, AV.b.eq_1, AV.b.eq_2, AV.isB.eq_1, AV.isB.eq_2, AV.str, AV.isStr, unc_same, unc_tt, unc_tf, unc_f, unc_any, unc_v, unc_gp, unc_p, unc_s, unc_g, unc_e, unc_t, unc_fn, unc_okb, unc_bb, unc_isB, unc_b, AV.bb.eq_1, AV.bb.eq_2, AV.okb.eq_1, AV.okb.eq_2, AV.okg.eq_1, AV.okg.eq_2, AV.gd.eq_1, AV.gd.eq_2, AV.cells, AV.one, AV.ones, AV.slen, AV.isS, AV.isPtr, AV.gl, AV.isG, Value.oneCell', Nat.add_assoc, q0, q1, q5, q6, q7, q8, hh0, hh, hh1, hh2, ii, hlt, hget, hw1]
          exact ⟨by omega, by omega, ⟨j + 1, by omega, by omega⟩, by omega⟩
        · have hje : j = l.length := by omega
          subst hje
          simp [awp_skip, awp_label, awp_region, awp_seq, awp_if, awp_block, awp_ret, awp_exit, thenQ, blockQ, finQ, resAll, resVal, resOne, aops, atl, adraw, adrawA, isA, goOp, astep, gev, Region.binds, Heap.le_refl, aop, aeval, gocall, heapOp, quietOp, ev, constAV, setd, yav, ystop, up, env0, cx_ti, cx_G, cx_pf, ti, globS, glob, pfL, lds, ldc, ldcs, sts, sth, sls, slc, wr, place, fillOk, fillC, repZ, binI, isDiv, optInt, optI, eksOk, eksEq, EK.ok, EK.eq, AV.i, AV.isI, AV.isInt, AV.b.eq_1, AV.b.eq_2, AV.isB.eq_1, AV.isB.eq_2, AV.str, AV.isStr, unc_same, unc_tt, unc_tf, unc_f, unc_any, unc_v, unc_gp, unc_p, unc_s, unc_g, unc_e, unc_t, unc_fn, unc_okb, unc_bb, unc_isB, unc_b, AV.bb.eq_1, AV.bb.eq_2, AV.okb.eq_1, AV.okb.eq_2, AV.okg.eq_1, AV.okg.eq_2, AV.gd.eq_1, AV.gd.eq_2, AV.cells, AV.one, AV.ones, AV.slen, AV.isS, AV.isPtr, AV.gl, AV.isG, Value.oneCell', Nat.add_assoc, q0, q1, q5, q6, q7, q8, hh0, hh, hh1, hh2, ii, bv, vv, tbl9, g34, pureAL, deI, ints, deIs, take_ii, deIs_ii, hw, hb0, hbig, hf, hf0]
    exact key _ rfl rfl
  · have hlen' : (l.length : Int) > 2147483647 := by omega
    rcases ints_at hi with ⟨rfl, rfl⟩ | ⟨id, off, k, rfl, hk, hoff, htk, hat⟩
    · simp at hlen
    · simp [awp_skip, awp_label, awp_region, awp_seq, awp_if, awp_block, awp_ret, awp_exit, thenQ, blockQ, finQ, resAll, resVal, resOne, aops, atl, adraw, adrawA, isA, goOp, astep, gev, Region.binds, Heap.le_refl, aop, aeval, gocall, heapOp, quietOp, ev, constAV, setd, yav, ystop, up, env0, cx_ti, cx_G, cx_pf, ti, globS, glob, pfL, lds, ldc, ldcs, sts, sth, sls, slc, wr, place, fillOk, fillC, repZ, binI, isDiv, optInt, optI, eksOk, eksEq, EK.ok, EK.eq, AV.i, AV.isI, AV.isInt, AV.b.eq_1, AV.b.eq_2, AV.isB.eq_1, AV.isB.eq_2, AV.str, AV.isStr, unc_same, unc_tt, unc_tf, unc_f, unc_any, unc_v, unc_gp, unc_p, unc_s, unc_g, unc_e, unc_t, unc_fn, unc_okb, unc_bb, unc_isB, unc_b, AV.bb.eq_1, AV.bb.eq_2, AV.okb.eq_1, AV.okb.eq_2, AV.okg.eq_1, AV.okg.eq_2, AV.gd.eq_1, AV.gd.eq_2, AV.cells, AV.one, AV.ones, AV.slen, AV.isS, AV.isPtr, AV.gl, AV.isG, Value.oneCell', Nat.add_assoc, Tryd.f9, ii, hlen', bv]
end Go.Proofs.YtnodenojdjlbnaaDoor
