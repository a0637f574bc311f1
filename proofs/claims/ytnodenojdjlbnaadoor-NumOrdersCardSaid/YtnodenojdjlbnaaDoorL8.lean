/-
  NumOrders: the law's own code.
-/
import Derived.Test.YtnodenojdjlbnaaDoorMb
set_option linter.unusedSimpArgs false
namespace Go.Proofs.YtnodenojdjlbnaaDoor
open Go Go.Eng
def tbl8 : List (FuncId × (List AV → Heap → PRes)) := [(25, g25), (31, g31), (32, g32)]
theorem tbl8_ok : TbOk [3, 4, 5] tbl8 := tb_cons p25 (tb_cons p31 (tb_cons p32 tb_nil))
/-- A truth as a number. -/
def nb (p : Prop) [Decidable p] : Int := if p then 1 else 0
theorem cmp_at (x y : Int) : cmpV 19 ⟨true, x⟩ ⟨true, y⟩ = ⟨true, nb (x = y)⟩ ∧ cmpV 20 ⟨true, x⟩ ⟨true, y⟩ = ⟨true, nb (x ≠ y)⟩ ∧ cmpV 21 ⟨true, x⟩ ⟨true, y⟩ = ⟨true, nb (x < y)⟩ ∧ cmpV 22 ⟨true, x⟩ ⟨true, y⟩ = ⟨true, nb (x ≤ y)⟩ ∧ cmpV 23 ⟨true, x⟩ ⟨true, y⟩ = ⟨true, nb (y < x)⟩ ∧ cmpV 24 ⟨true, x⟩ ⟨true, y⟩ = ⟨true, nb (y ≤ x)⟩ := by
  refine ⟨?_, ?_, ?_, ?_, ?_, ?_⟩ <;> simp only [cmpV, truthV, nb] <;> simp <;> split <;> rfl
def Law8 (x y z : Int) : Prop := ∀ (h : Heap) (n : Nat), awp (cx [3, 4, 5] (pfL tbl8)) (Tryd.f8.body.getD .skip) (finQ (cx [3, 4, 5] (pfL tbl8)) Tryd.f8 fun z _ _ => z = bv true) ⟨env0 [ii x, ii y, ii z], h, n⟩
set_option maxRecDepth 100000 in
set_option maxHeartbeats 2000000 in
theorem law8 (x y z : Int) (hx : Rng x) (hy : Rng y) (_ : Rng z) (h : Heap) (n : Nat) : awp (cx [3, 4, 5] (pfL tbl8)) (Tryd.f8.body.getD .skip) (finQ (cx [3, 4, 5] (pfL tbl8)) Tryd.f8 fun z _ _ => z = bv true) ⟨env0 [ii x, ii y, ii z], h, n⟩ := by
  obtain ⟨a1, a2, a3, a4, a5, a6⟩ := cmp_at x y
  obtain ⟨b1, b2, b3, b4, b5, b6⟩ := cmp_at y x
  obtain ⟨_, _, c3, _, _, _⟩ := cmp_at y z
  obtain ⟨_, _, d3, _, _, _⟩ := cmp_at x z
  have w0 : IntKind.i64.wrap 0 = 0 := rfl
  have w1 : IntKind.i64.wrap 1 = 1 := rfl
  obtain ⟨s, hs⟩ : ∃ s, subL ⟨true, x⟩ ⟨true, y⟩ = s := ⟨_, rfl⟩
  have hd : s.k = true → s.n = x - y := by
    rw [← hs, subL_eq hx hy]
    simp only [subV, on2, Bool.and_self, if_true]
    intro hk
    by_cases hr : Rng (x - y)
    · rw [fitV_pos hr]
    · rw [fitV_neg hr] at hk; cases hk
  obtain ⟨p, hp⟩ : ∃ p, nb (y < z) = p := ⟨_, rfl⟩
  obtain ⟨q, hq⟩ : ∃ q, nb (x < z) = q := ⟨_, rfl⟩
  rw [hp] at c3
  rw [hq] at d3
  rcases Int.lt_trichotomy x y with hl | hl | hl
  · have k1 : ¬ x = y := by omega
    have k2 : x ≤ y := by omega
    have k3 : ¬ y < x := by omega
    have k4 : ¬ y ≤ x := by omega
    have k5 : p = 1 → q = 1 := by
      rw [← hp, ← hq]
      unfold nb
      split
      · intro _; rw [if_pos (by omega)]
      · intro h; cases h
    simp only [nb, hl, k1, k2, k3, k4, ne_eq, not_true_eq_false, not_false_eq_true, if_true, if_false] at a1 a2 a3 a4 a5 a6 b1 b2 b3 b4 b5 b6
    simp [awp_skip, awp_label, awp_region, awp_seq, awp_if, awp_block, awp_ret, awp_exit, thenQ, blockQ, finQ, resAll, resVal, resOne, aops, atl, adraw, adrawA, isA, goOp, astep, gev, Region.binds, Heap.le_refl, aop, aeval, gocall, heapOp, quietOp, ev, constAV, setd, yav, ystop, up, env0, cx_ti, cx_G, cx_pf, ti, globS, glob, pfL, lds, ldc, ldcs, sts, sth, sls, slc, wr, place, fillOk, fillC, repZ, binI, isDiv, optInt, optI, eksOk, eksEq, EK.ok, EK.eq, AV.i, AV.isI, AV.isInt, AV.b.eq_1, AV.b.eq_2, AV.isB.eq_1, AV.isB.eq_2, AV.str, AV.isStr, unc_same, unc_tt, unc_tf, unc_f, unc_any, unc_v, unc_gp, unc_p, unc_s, unc_g, unc_e, unc_t, unc_fn, unc_okb, unc_bb, unc_isB, unc_b, AV.bb.eq_1, AV.bb.eq_2, AV.okb.eq_1, AV.okb.eq_2, AV.okg.eq_1, AV.okg.eq_2, AV.gd.eq_1, AV.gd.eq_2, AV.cells, AV.one, AV.ones, AV.slen, AV.isS, AV.isPtr, AV.gl, AV.isG, Value.oneCell', Nat.add_assoc, Tryd.f8, tbl8, g25, g31, g32, pure1, pure2, pure3, deV, deI, vv, ii, bv, knownV, a1, a2, a3, a4, a5, a6, b1, b2, b3, b4, b5, b6, c3, d3, w0, w1, hs, hl, k1, k3, k4]
    refine ⟨k5, ?_⟩
    cases hk : s.k
    · exact .inl rfl
    · have := hd hk; exact .inr (by omega)
  · subst hl
    simp only [nb, Int.lt_irrefl, Int.le_refl, ne_eq, not_true_eq_false, not_false_eq_true, if_true, if_false] at a1 a2 a3 a4 a5 a6 b1 b2 b3 b4 b5 b6
    simp [awp_skip, awp_label, awp_region, awp_seq, awp_if, awp_block, awp_ret, awp_exit, thenQ, blockQ, finQ, resAll, resVal, resOne, aops, atl, adraw, adrawA, isA, goOp, astep, gev, Region.binds, Heap.le_refl, aop, aeval, gocall, heapOp, quietOp, ev, constAV, setd, yav, ystop, up, env0, cx_ti, cx_G, cx_pf, ti, globS, glob, pfL, lds, ldc, ldcs, sts, sth, sls, slc, wr, place, fillOk, fillC, repZ, binI, isDiv, optInt, optI, eksOk, eksEq, EK.ok, EK.eq, AV.i, AV.isI, AV.isInt, AV.b.eq_1, AV.b.eq_2, AV.isB.eq_1, AV.isB.eq_2, AV.str, AV.isStr, unc_same, unc_tt, unc_tf, unc_f, unc_any, unc_v, unc_gp, unc_p, unc_s, unc_g, unc_e, unc_t, unc_fn, unc_okb, unc_bb, unc_isB, unc_b, AV.bb.eq_1, AV.bb.eq_2, AV.okb.eq_1, AV.okb.eq_2, AV.okg.eq_1, AV.okg.eq_2, AV.gd.eq_1, AV.gd.eq_2, AV.cells, AV.one, AV.ones, AV.slen, AV.isS, AV.isPtr, AV.gl, AV.isG, Value.oneCell', Nat.add_assoc, Tryd.f8, tbl8, g25, g31, g32, pure1, pure2, pure3, deV, deI, vv, ii, bv, knownV, a1, a2, a3, a4, a5, a6, b1, b2, b3, b4, b5, b6, c3, d3, w0, w1, hs]
    cases hk : s.k
    · exact .inl rfl
    · have := hd hk; exact .inr (by omega)
  · have k1 : ¬ x = y := by omega
    have k2 : y ≤ x := by omega
    have k3 : ¬ x < y := by omega
    have k4 : ¬ x ≤ y := by omega
    simp only [nb, hl, k1, k2, k3, k4, ne_eq, not_true_eq_false, not_false_eq_true, if_true, if_false] at a1 a2 a3 a4 a5 a6 b1 b2 b3 b4 b5 b6
    simp [awp_skip, awp_label, awp_region, awp_seq, awp_if, awp_block, awp_ret, awp_exit, thenQ, blockQ, finQ, resAll, resVal, resOne, aops, atl, adraw, adrawA, isA, goOp, astep, gev, Region.binds, Heap.le_refl, aop, aeval, gocall, heapOp, quietOp, ev, constAV, setd, yav, ystop, up, env0, cx_ti, cx_G, cx_pf, ti, globS, glob, pfL, lds, ldc, ldcs, sts, sth, sls, slc, wr, place, fillOk, fillC, repZ, binI, isDiv, optInt, optI, eksOk, eksEq, EK.ok, EK.eq, AV.i, AV.isI, AV.isInt, AV.b.eq_1, AV.b.eq_2, AV.isB.eq_1, AV.isB.eq_2, AV.str, AV.isStr, unc_same, unc_tt, unc_tf, unc_f, unc_any, unc_v, unc_gp, unc_p, unc_s, unc_g, unc_e, unc_t, unc_fn, unc_okb, unc_bb, unc_isB, unc_b, AV.bb.eq_1, AV.bb.eq_2, AV.okb.eq_1, AV.okb.eq_2, AV.okg.eq_1, AV.okg.eq_2, AV.gd.eq_1, AV.gd.eq_2, AV.cells, AV.one, AV.ones, AV.slen, AV.isS, AV.isPtr, AV.gl, AV.isG, Value.oneCell', Nat.add_assoc, Tryd.f8, tbl8, g25, g31, g32, pure1, pure2, pure3, deV, deI, vv, ii, bv, knownV, a1, a2, a3, a4, a5, a6, b1, b2, b3, b4, b5, b6, c3, d3, w0, w1, hs, hl, k1, k3, k4]
    cases hk : s.k
    · exact .inl rfl
    · have := hd hk; exact .inr (by omega)
end Go.Proofs.YtnodenojdjlbnaaDoor
