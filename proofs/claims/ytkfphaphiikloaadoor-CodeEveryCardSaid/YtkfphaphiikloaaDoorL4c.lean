/-
  CodeRuns: the law's own code, its end.
-/
import Derived.Test.YtkfphaphiikloaaDoorL4b
set_option linter.unusedSimpArgs false
set_option linter.unusedVariables false
set_option linter.constructorNameAsVariable false
set_option linter.unusedSimpArgs false
namespace Go.Proofs.YtkfphaphiikloaaDoor
open Go Go.Eng

theorem flipLL_len (ll : List (List Ev)) : (flipLL ll).length = ll.length := by simp [flipLL]
theorem flipLL_mem {ll : List (List Ev)} {P : List Ev → Prop} (h : ∀ l ∈ ll, P (l.map flipE)) : ∀ l ∈ flipLL ll, P l := fun l hl => by
  simp only [flipLL, List.mem_map] at hl
  obtain ⟨m, hm, rfl⟩ := hl
  exact h m hm
theorem flip_beyond (ll : List (List Ev)) : beyondV (flipLL ll) = beyondV ll := by
  have : ∀ j, sumTo (flipLL ll) j = sumTo ll j := fun j => by
    unfold sumTo flipLL
    rw [← List.map_take, List.map_map]
    congr 2
    funext l
    simp
  unfold beyondV
  rw [this, flipLL_len]
theorem x1_rng (x : Int) : Rng (x1 x) := by
  obtain ⟨_, _, h⟩ := W_spec (((x % 2 ^ IntKind.i64.bits).toNat ^^^ 1 % 2 ^ IntKind.i64.bits : Nat) : Int)
  exact h
theorem W4.flip {p : Pr} {en : En} (w : W4 p en) : W4 p { en with ls := flipLL en.ls } :=
  ⟨w.prok, w.prsm, by simp only [flipLL_len]; exact w.lsl, flipLL_mem fun l hl => by rw [List.length_map]; exact w.len l hl, flipLL_mem fun l hl x hx => by
    obtain ⟨y, hy, rfl⟩ := List.mem_map.1 hx
    exact flip_ok (w.ev l hl y hy), w.pos⟩
theorem W4.turn {p : Pr} {en : En} (w : W4 p en) : W4 (turnP p) en := by
  have hl : (turnP p).code.length = p.code.length := by simp [turnP]
  exact ⟨⟨by rw [hl]; exact w.prok.len, fun i hi => by
    simp only [turnP, List.mem_map] at hi
    obtain ⟨j, hj, rfl⟩ := hi
    obtain ⟨k1, k2, k3, k4, k5⟩ := w.prok.ok j hj
    exact ⟨k1, k2, k3, x1_rng _, k5⟩, w.prok.col⟩, ⟨by rw [hl]; exact w.prsm.code, w.prsm.cols, w.prsm.col⟩, w.lsl, w.len, w.ev, w.pos⟩
/-- The lists, copied once more. -/
structure H4 (h : Heap) (n : Nat) (pa pb la : AV) (en0 : En) (ba lo hi mid : Nat) (p : Pr) (en : En) (s : St) : Prop where
  f : F4 h n pa pb la en0 ba lo hi mid p en s
  z : OwnL ecells 11 s.h mid s.n (s.e 15) en.ls en.ls.length
/-- A value that is known, in a cell. -/
def KR (s : St) (t lo hi : Nat) (v : V) : Prop := ∃ (m : Nat), s.e t = .p m 0 0 ∧ lo ≤ m ∧ m < hi ∧ s.h m = some ⟨[.v (.bool v.k), .v (.int .i64 v.n)], 0, true, 2⟩
section
set_option maxRecDepth 100000
set_option maxHeartbeats 4000000
variable {h : Heap} {n : Nat} {pa pb la : AV} {p : Pr} {en : En}
theorem law4i {en0 : En} {ba lo hi mid : Nat} (w : W4 p en) (hb : beyondV en.ls = false) (e : Nat → AV) (h' : Heap) (n' : Nat) (f : F4 h n pa pb la en0 ba lo hi mid p en ⟨e, h', n'⟩) {Q : Ex → St → Prop} :
    awp (cx S29 (pfL tbl4)) (hdC 1 (tlC 14 (Tryd.f4.body.getD .skip))) (thenQ (H4 h n pa pb la en0 ba lo hi mid p en) Q) ⟨e, h', n'⟩ := by
  have f0 := f
  obtain ⟨⟨q2, q3, h0, h1, ag, fr, nn⟩, l2, i2, mi, s2, v7, v9, ⟨m2, zl, q12, k12, l12, x12, o12⟩, _, _⟩ := f
  simp only [] at q2 q3 h0 h1 ag fr nn s2 q12 l12 x12 o12
  simp [awp_skip, awp_label, awp_region, awp_seq, awp_if, awp_block, awp_ret, awp_scope, awp_exit, thenQ_n, thenQ_e, thenQ_r, blockQ_n, blockQ_e, blockQ_r, finQ_n, finQ_r, finQ_e, resAll, resVal, resOne, aops_nil, aops_cons, atl_nil, atl_cons, atlAll_nil, atlAll_cons, freeOp, List.filter_cons, List.filter_nil, adraw_eq, adrawA_nil, adrawA_cons, isA, goOp, appNew, mkOp, gev, Region.binds, Heap.le_refl, aop, aeval, gocall, heapOp, quietOp, ev, constAV, setd, yav, ystop, up, env0, cx_ti, cx_G, cx_pf, ti, globS, glob, pfL, lds, ldc, ldcs_1, ldcs_2, ldcs_3, ldcs_4, ldcs_5, ldcs_7, sts, sth, sls.eq_1, slc.eq_1, wr, place, fillOk, fillC, repZ, binI, isDiv, optInt, optI, eksOk, eksEq, EK.ok, EK.eq, AV.i, AV.isI, AV.isInt, AV.b.eq_1, AV.b.eq_2, AV.isB.eq_1, AV.isB.eq_2, AV.str, AV.isStr, unc_same, unc_tt, unc_tf, unc_f, unc_any, unc_v, unc_gp, unc_p, unc_s, unc_g, unc_e, unc_t, unc_fn, unc_okb, unc_bb, unc_isB, unc_b, AV.bb.eq_1, AV.bb.eq_2, AV.okb.eq_1, AV.okb.eq_2, AV.okg.eq_1, AV.okg.eq_2, AV.gd.eq_1, AV.gd.eq_2, AV.cells.eq_1, AV.cells.eq_2, AV.one.eq_1, AV.one.eq_2, AV.one.eq_3, AV.one.eq_4, AV.one.eq_5, AV.one.eq_6, AV.ones, AV.slen.eq_1, AV.slen.eq_2, AV.isS.eq_1, AV.isS.eq_2, AV.isS.eq_3, AV.isPtr, AV.gl, AV.isG, Value.oneCell', Nat.add_assoc, cut_of_le, nat_lt0, nat_le0, hdC, tlC, Tryd.f4, q12, x12, tbl4]
  refine (acall_any (S := []) (by simp) (c28 (o12.rd Flat.ev) (beyond_len hb) w.lsl fr)).mono ?_
  rintro v h2 n2 ⟨a1, a2, a3, a4⟩
  exact ⟨f0.up (by simp [up]) (by simp [up]) (by simp [up]) (by simp [up]) (by simp [up]) (by simp [up]) a1 a2 a3, by simpa [up] using a4.lo (lo' := mid) s2⟩
theorem law4j {en0 : En} {ba lo hi mid : Nat} (w : W4 p en) (hb : beyondV en.ls = false) (e : Nat → AV) (h' : Heap) (n' : Nat) (f : H4 h n pa pb la en0 ba lo hi mid p en ⟨e, h', n'⟩) {Q : Ex → St → Prop} :
    awp (cx S29 (pfL tbl4)) (hdC 1 (tlC 15 (Tryd.f4.body.getD .skip))) (thenQ (fun s => H4 h n pa pb la en0 ba lo hi mid p en s ∧ KR s 7 (n + 2) ba (runV p en).1 ∧ s.e 8 = .v (.int .i64 (runV p en).2)) Q) ⟨e, h', n'⟩ := by
  have f0 := f
  obtain ⟨⟨⟨q2, q3, h0, h1, ag, fr, nn⟩, l2, i2, mi, s2, ⟨m7, u7, q7, k7, l7, x7⟩, ⟨m9, u9, q9, k9, l9, x9⟩, ⟨m2, zl, q12, k12, l12, x12, o12⟩, ⟨m3, w3, zb, q13, k13, l13, j13, x13, y13, o13⟩, hne79⟩, hz⟩ := f
  simp only [] at q2 q3 h0 h1 ag fr nn s2 q7 x7 q9 x9 q12 l12 x12 o12 q13 j13 x13 y13 o13 hne79 hz
  have hpr := (OwnP.of l13 y13 o13).rd
  have hen : deEn h' (.g [zl, .v (.int .i64 en.each), .v (.int .i64 en.pos)]) = some en := deEn_in (o12.rd Flat.ev)
  have g2 : deR h' [.g [.s w3 1 0 p.code.length, zb], .g [zl, .v (.int .i64 en.each), .v (.int .i64 en.pos)]] = some (p, en) := by simp only [deR, hpr, hen]
  have hok : okR (p, en) := ⟨w.prok, w.en hb⟩
  have hm79 : m9 ≠ m7 := fun e => hne79 (by rw [q7, q9, e])
  have z0 : ¬ m3 = m7 := by omega
  simp [awp_skip, awp_label, awp_region, awp_seq, awp_if, awp_block, awp_ret, awp_scope, awp_exit, thenQ_n, thenQ_e, thenQ_r, blockQ_n, blockQ_e, blockQ_r, finQ_n, finQ_r, finQ_e, resAll, resVal, resOne, aops_nil, aops_cons, atl_nil, atl_cons, atlAll_nil, atlAll_cons, freeOp, List.filter_cons, List.filter_nil, adraw_eq, adrawA_nil, adrawA_cons, isA, goOp, appNew, mkOp, gev, Region.binds, Heap.le_refl, aop, aeval, gocall, heapOp, quietOp, ev, constAV, setd, yav, ystop, up, env0, cx_ti, cx_G, cx_pf, ti, globS, glob, pfL, lds, ldc, ldcs_1, ldcs_2, ldcs_3, ldcs_4, ldcs_5, ldcs_7, sts, sth, sls.eq_1, slc.eq_1, wr, place, fillOk, fillC, repZ, binI, isDiv, optInt, optI, eksOk, eksEq, EK.ok, EK.eq, AV.i, AV.isI, AV.isInt, AV.b.eq_1, AV.b.eq_2, AV.isB.eq_1, AV.isB.eq_2, AV.str, AV.isStr, unc_same, unc_tt, unc_tf, unc_f, unc_any, unc_v, unc_gp, unc_p, unc_s, unc_g, unc_e, unc_t, unc_fn, unc_okb, unc_bb, unc_isB, unc_b, AV.bb.eq_1, AV.bb.eq_2, AV.okb.eq_1, AV.okb.eq_2, AV.okg.eq_1, AV.okg.eq_2, AV.gd.eq_1, AV.gd.eq_2, AV.cells.eq_1, AV.cells.eq_2, AV.one.eq_1, AV.one.eq_2, AV.one.eq_3, AV.one.eq_4, AV.one.eq_5, AV.one.eq_6, AV.ones, AV.slen.eq_1, AV.slen.eq_2, AV.isS.eq_1, AV.isS.eq_2, AV.isS.eq_3, AV.isPtr, AV.gl, AV.isG, Value.oneCell', Nat.add_assoc, cut_of_le, nat_lt0, nat_le0, hdC, tlC, Tryd.f4, q7, q12, q13, x7, x12, x13, tbl4, G29, pureH, g2, hok, runA, vv]
  have hfr2 : ∀ b, Fresh (n' + 1) (up h' m7 b) := fun b => (fresh_up (by omega) b).2 (fr.add 1)
  have hne : ∀ b q, q ≠ m7 → up h' m7 b q = h' q := fun b q hq => up_ne _ _ hq
  refine ⟨⟨⟨⟨by simp [up, q2], by simp [up, q3], (hne _ n (by omega)).trans h0, (hne _ (n + 1) (by omega)).trans h1, fun j hj => (hne _ j (by omega)).trans (ag j hj), hfr2 _, by simp only []; omega⟩, l2, i2, mi, by simp only []; omega, ⟨m7, (runV p en).1, by simp [up, q7], k7, l7, by simp [up]⟩, ⟨m9, u9, by simp [up, q9], k9, l9, (hne _ m9 hm79).trans x9⟩, ⟨m2, zl, by simp [up, q12], k12, l12, (hne _ m2 (by omega)).trans x12, o12.congr (fun q h1 h2 => hne _ q (by omega)) (Nat.le_refl _)⟩, ⟨m3, w3, zb, by simp [up, q13], k13, l13, by simp only []; omega, (hne _ m3 (by omega)).trans x13, (hne _ w3 (by omega)).trans y13, o13.congr (fun q h1 h2 => hne _ q (by omega)) (Nat.le_refl _)⟩, by simpa [up] using hne79⟩, ?_⟩, ⟨m7, by simp [up, q7], k7, l7, by simp [up]⟩⟩
  have : OwnL ecells 11 (up h' m7 (some ⟨[.v (.bool (runV p en).1.k), .v (.int .i64 (runV p en).1.n)], 0, true, 2⟩)) mid (n' + 1) (e 15) en.ls en.ls.length := hz.congr (fun q h1 h2 => hne _ q (by omega)) (by omega)
  simpa [Eng.up] using this
def K4 (n ba : Nat) (p : Pr) (en : En) (s : St) : Prop := KR s 7 (n + 2) ba (runV p en).1 ∧ s.e 8 = .v (.int .i64 (runV p en).2) ∧ KR s 9 (n + 2) ba (runV p en).1 ∧ s.e 10 = .v (.int .i64 (runV p en).2)
theorem law4k {en0 : En} {ba lo hi mid : Nat} (w : W4 p en) (hb : beyondV en.ls = false) (h_e : en0.each = en.each) (h_p : en0.pos = en.pos) (e : Nat → AV) (h' : Heap) (n' : Nat) (f : H4 h n pa pb la en0 ba lo hi mid p en ⟨e, h', n'⟩) (k7' : KR ⟨e, h', n'⟩ 7 (n + 2) ba (runV p en).1) (k8 : e 8 = .v (.int .i64 (runV p en).2)) {Q : Ex → St → Prop} :
    awp (cx S29 (pfL tbl4)) (hdC 1 (tlC 16 (Tryd.f4.body.getD .skip))) (thenQ (fun s => H4 h n pa pb la en0 ba lo hi mid p en s ∧ K4 n ba p en s) Q) ⟨e, h', n'⟩ := by
  have f0 := f
  obtain ⟨⟨⟨q2, q3, h0, h1, ag, fr, nn⟩, l2, i2, mi, s2, _, ⟨m9, u9, q9, k9, l9, x9⟩, ⟨m2, zl, q12, k12, l12, x12, o12⟩, ⟨m3, w3, zb, q13, k13, l13, j13, x13, y13, o13⟩, hne79⟩, hz⟩ := f
  obtain ⟨m7, q7, k7, l7, x7⟩ := k7'
  simp only [] at q2 q3 h0 h1 ag fr nn s2 q7 x7 q9 x9 q12 l12 x12 o12 q13 j13 x13 y13 o13 hne79 hz k8
  rw [h_e, h_p] at h1
  have hpr := (OwnP.of l13 y13 o13).rd
  obtain ⟨z15, q15⟩ : ∃ z, e 15 = z := ⟨_, rfl⟩
  rw [q15] at hz
  obtain ⟨v1, v2, v3, v4, v5⟩ := hz.is
  simp [awp_skip, awp_label, awp_region, awp_seq, awp_if, awp_block, awp_ret, awp_scope, awp_exit, thenQ_n, thenQ_e, thenQ_r, blockQ_n, blockQ_e, blockQ_r, finQ_n, finQ_r, finQ_e, resAll, resVal, resOne, aops_nil, aops_cons, atl_nil, atl_cons, atlAll_nil, atlAll_cons, freeOp, List.filter_cons, List.filter_nil, adraw_eq, adrawA_nil, adrawA_cons, isA, goOp, appNew, mkOp, gev, Region.binds, Heap.le_refl, aop, aeval, gocall, heapOp, quietOp, ev, constAV, setd, yav, ystop, up, env0, cx_ti, cx_G, cx_pf, ti, globS, glob, pfL, lds, ldc, ldcs_1, ldcs_2, ldcs_3, ldcs_4, ldcs_5, ldcs_7, sts, sth, sls.eq_1, slc.eq_1, wr, place, fillOk, fillC, repZ, binI, isDiv, optInt, optI, eksOk, eksEq, EK.ok, EK.eq, AV.i, AV.isI, AV.isInt, AV.b.eq_1, AV.b.eq_2, AV.isB.eq_1, AV.isB.eq_2, AV.str, AV.isStr, unc_same, unc_tt, unc_tf, unc_f, unc_any, unc_v, unc_gp, unc_p, unc_s, unc_g, unc_e, unc_t, unc_fn, unc_okb, unc_bb, unc_isB, unc_b, AV.bb.eq_1, AV.bb.eq_2, AV.okb.eq_1, AV.okb.eq_2, AV.okg.eq_1, AV.okg.eq_2, AV.gd.eq_1, AV.gd.eq_2, AV.cells.eq_1, AV.cells.eq_2, AV.one.eq_1, AV.one.eq_2, AV.one.eq_3, AV.one.eq_4, AV.one.eq_5, AV.one.eq_6, AV.ones, AV.slen.eq_1, AV.slen.eq_2, AV.isS.eq_1, AV.isS.eq_2, AV.isS.eq_3, AV.isPtr, AV.gl, AV.isG, Value.oneCell', Nat.add_assoc, cut_of_le, nat_lt0, nat_le0, hdC, tlC, Tryd.f4, q3, q9, q13, q15, h1, x9, x13, tbl4, v3, v4, v5]
  refine (acall_any (S := []) (by simp) (c25 hpr w.prsm fr)).mono ?_
  rintro v h2 n2 ⟨a1, a2, a3, a4⟩
  refine ⟨agr_le fr a1, ?_⟩
  have hen : deEn h2 (.g [z15, .v (.int .i64 en.each), .v (.int .i64 en.pos)]) = some en := deEn_in ((hz.congr (fun q h1 h2 => a1 q h2) (Nat.le_refl _)).rd Flat.ev)
  have g2 : deR h2 [v, .g [z15, .v (.int .i64 en.each), .v (.int .i64 en.pos)]] = some (p, en) := by simp only [deR, a4.rd, hen]
  have hok : okR (p, en) := ⟨w.prok, w.en hb⟩
  have hm79 : m9 ≠ m7 := fun e => hne79 (by rw [q7, q9, e])
  have hx9 : h2 m9 = some ⟨[.v (.bool u9.k), .v (.int .i64 u9.n)], 0, true, 2⟩ := (a1 m9 (by omega)).trans x9
  have hne : ∀ b q, q ≠ m9 → q < n' → up h2 m9 b q = h' q := fun b q hq hlt => (up_ne _ _ hq).trans (a1 q hlt)
  have h1' : h' (n + 1) = some ⟨[la, .v (.int .i64 en0.each), .v (.int .i64 en0.pos)], 0, true, 3⟩ := by rw [h1, h_e, h_p]
  have hfr2 : ∀ b, Fresh (n2 + 1) (up h2 m9 b) := fun b => (fresh_up (by omega) b).2 (a2.add 1)
  have fin : ∀ e2 : Nat → AV, e2 2 = e 2 → e2 3 = e 3 → e2 7 = e 7 → e2 8 = e 8 → e2 9 = e 9 → e2 12 = e 12 → e2 13 = e 13 → e2 15 = z15 → e2 10 = .v (.int .i64 (runV p en).2) →
      H4 h n pa pb la en0 ba lo hi mid p en ⟨e2, up h2 m9 (some ⟨[.v (.bool (runV p en).1.k), .v (.int .i64 (runV p en).1.n)], 0, true, 2⟩), n2 + 1⟩ ∧ K4 n ba p en ⟨e2, up h2 m9 (some ⟨[.v (.bool (runV p en).1.k), .v (.int .i64 (runV p en).1.n)], 0, true, 2⟩), n2 + 1⟩ := fun e2 y2 y3 y7 y8 y9 y12 y13' y15 y10 => by
    refine ⟨⟨⟨⟨y2.trans q2, y3.trans q3, (hne _ n (by omega) (by omega)).trans h0, (hne _ (n + 1) (by omega) (by omega)).trans h1', fun j hj => (hne _ j (by omega) (by omega)).trans (ag j hj), hfr2 _, by simp only []; omega⟩, l2, i2, mi, by simp only []; omega, ⟨m7, (runV p en).1, y7.trans q7, k7, l7, (hne _ m7 hm79.symm (by omega)).trans x7⟩, ⟨m9, (runV p en).1, y9.trans q9, k9, l9, by simp [up]⟩, ⟨m2, zl, y12.trans q12, k12, l12, (hne _ m2 (by omega) (by omega)).trans x12, o12.congr (fun q h1 h2 => hne _ q (by omega) (by omega)) (Nat.le_refl _)⟩, ⟨m3, w3, zb, y13'.trans q13, k13, l13, by simp only []; omega, (hne _ m3 (by omega) (by omega)).trans x13, (hne _ w3 (by omega) (by omega)).trans y13, o13.congr (fun q h1 h2 => hne _ q (by omega) (by omega)) (Nat.le_refl _)⟩, (show e2 7 ≠ e2 9 by rw [y7, y9]; exact hne79)⟩, ?_⟩, ⟨m7, y7.trans q7, k7, l7, (hne _ m7 hm79.symm (by omega)).trans x7⟩, y8.trans k8, ⟨m9, y9.trans q9, k9, l9, by simp [up]⟩, y10⟩
    have : OwnL ecells 11 (up h2 m9 (some ⟨[.v (.bool (runV p en).1.k), .v (.int .i64 (runV p en).1.n)], 0, true, 2⟩)) mid (n2 + 1) z15 en.ls en.ls.length := hz.congr (fun q h1 h2 => hne _ q (by omega) (by omega)) (by omega)
    simp only [y15]
    exact this
  simp [awp_skip, awp_label, awp_region, awp_seq, awp_if, awp_block, awp_ret, awp_scope, awp_exit, thenQ_n, thenQ_e, thenQ_r, blockQ_n, blockQ_e, blockQ_r, finQ_n, finQ_r, finQ_e, resAll, resVal, resOne, aops_nil, aops_cons, atl_nil, atl_cons, atlAll_nil, atlAll_cons, freeOp, List.filter_cons, List.filter_nil, adraw_eq, adrawA_nil, adrawA_cons, isA, goOp, appNew, mkOp, gev, Region.binds, Heap.le_refl, aop, aeval, gocall, heapOp, quietOp, ev, constAV, setd, yav, ystop, up, env0, cx_ti, cx_G, cx_pf, ti, globS, glob, pfL, lds, ldc, ldcs_1, ldcs_2, ldcs_3, ldcs_4, ldcs_5, ldcs_7, sts, sth, sls.eq_1, slc.eq_1, wr, place, fillOk, fillC, repZ, binI, isDiv, optInt, optI, eksOk, eksEq, EK.ok, EK.eq, AV.i, AV.isI, AV.isInt, AV.b.eq_1, AV.b.eq_2, AV.isB.eq_1, AV.isB.eq_2, AV.str, AV.isStr, unc_same, unc_tt, unc_tf, unc_f, unc_any, unc_v, unc_gp, unc_p, unc_s, unc_g, unc_e, unc_t, unc_fn, unc_okb, unc_bb, unc_isB, unc_b, AV.bb.eq_1, AV.bb.eq_2, AV.okb.eq_1, AV.okb.eq_2, AV.okg.eq_1, AV.okg.eq_2, AV.gd.eq_1, AV.gd.eq_2, AV.cells.eq_1, AV.cells.eq_2, AV.one.eq_1, AV.one.eq_2, AV.one.eq_3, AV.one.eq_4, AV.one.eq_5, AV.one.eq_6, AV.ones, AV.slen.eq_1, AV.slen.eq_2, AV.isS.eq_1, AV.isS.eq_2, AV.isS.eq_3, AV.isPtr, AV.gl, AV.isG, Value.oneCell', Nat.add_assoc, cut_of_le, nat_lt0, nat_le0, v3, v4, v5, q3, q9, q15, hx9, G29, pureH, g2, hok, runA, vv]
  exact ⟨fin _ (by simp [up]) (by simp [up]) (by simp [up]) (by simp [up]) (by simp [up]) (by simp [up]) (by simp [up]) (by simp [up, q15]) (by simp [up]), fin _ (by simp [up]) (by simp [up]) (by simp [up]) (by simp [up]) (by simp [up]) (by simp [up]) (by simp [up]) (by simp [up, q15]) (by simp [up])⟩
theorem law4l {en0 : En} {ba lo hi mid : Nat} (w : W4 p en) (hb : beyondV en.ls = false) (h_e : en0.each = en.each) (h_p : en0.pos = en.pos) (e : Nat → AV) (h' : Heap) (n' : Nat) (f : H4 h n pa pb la en0 ba lo hi mid p en ⟨e, h', n'⟩) (k7' : KR ⟨e, h', n'⟩ 7 (n + 2) ba (runV p en).1) (k8 : e 8 = .v (.int .i64 (runV p en).2)) (k9' : KR ⟨e, h', n'⟩ 9 (n + 2) ba (runV p en).1) (k10 : e 10 = .v (.int .i64 (runV p en).2)) :
    awp (cx S29 (pfL tbl4)) (tlC 17 (Tryd.f4.body.getD .skip)) (finQ (cx S29 (pfL tbl4)) Tryd.f4 fun z _ _ => z = bv true) ⟨e, h', n'⟩ := by
  obtain ⟨⟨⟨q2, q3, h0, h1, ag, fr, nn⟩, l2, i2, mi, s2, _, _, ⟨m2, zl, q12, k12, l12, x12, o12⟩, ⟨m3, w3, zb, q13, k13, l13, j13, x13, y13, o13⟩, hne79⟩, hz⟩ := f
  obtain ⟨m7, q7, k7, l7, x7⟩ := k7'
  obtain ⟨m9, q9, k9, l9, x9⟩ := k9'
  simp only [] at q2 q3 h0 h1 ag fr nn s2 q7 x7 q9 x9 q12 l12 x12 o12 q13 j13 x13 y13 o13 hne79 hz k8 k10
  rw [h_e, h_p] at h1
  have hpr := (OwnP.of l13 y13 o13).rd
  have hen : deEn h' (.g [zl, .v (.int .i64 en.each), .v (.int .i64 en.pos)]) = some en := deEn_in (o12.rd Flat.ev)
  have g1 : deR h' [.g [.s w3 1 0 p.code.length, zb], .g [zl, .v (.int .i64 en.each), .v (.int .i64 en.pos)]] = some (p, en) := by simp only [deR, hpr, hen]
  obtain ⟨z15, q15⟩ : ∃ z, e 15 = z := ⟨_, rfl⟩
  rw [q15] at hz
  obtain ⟨v1, v2, v3, v4, v5⟩ := hz.is
  have hok : okR (p, en) := ⟨w.prok, w.en hb⟩
  simp [awp_skip, awp_label, awp_region, awp_seq, awp_if, awp_block, awp_ret, awp_scope, awp_exit, thenQ_n, thenQ_e, thenQ_r, blockQ_n, blockQ_e, blockQ_r, finQ_n, finQ_r, finQ_e, resAll, resVal, resOne, aops_nil, aops_cons, atl_nil, atl_cons, atlAll_nil, atlAll_cons, freeOp, List.filter_cons, List.filter_nil, adraw_eq, adrawA_nil, adrawA_cons, isA, goOp, appNew, mkOp, gev, Region.binds, Heap.le_refl, aop, aeval, gocall, heapOp, quietOp, ev, constAV, setd, yav, ystop, up, env0, cx_ti, cx_G, cx_pf, ti, globS, glob, pfL, lds, ldc, ldcs_1, ldcs_2, ldcs_3, ldcs_4, ldcs_5, ldcs_7, sts, sth, sls.eq_1, slc.eq_1, wr, place, fillOk, fillC, repZ, binI, isDiv, optInt, optI, eksOk, eksEq, EK.ok, EK.eq, AV.i, AV.isI, AV.isInt, AV.b.eq_1, AV.b.eq_2, AV.isB.eq_1, AV.isB.eq_2, AV.str, AV.isStr, unc_same, unc_tt, unc_tf, unc_f, unc_any, unc_v, unc_gp, unc_p, unc_s, unc_g, unc_e, unc_t, unc_fn, unc_okb, unc_bb, unc_isB, unc_b, AV.bb.eq_1, AV.bb.eq_2, AV.okb.eq_1, AV.okb.eq_2, AV.okg.eq_1, AV.okg.eq_2, AV.gd.eq_1, AV.gd.eq_2, AV.cells.eq_1, AV.cells.eq_2, AV.one.eq_1, AV.one.eq_2, AV.one.eq_3, AV.one.eq_4, AV.one.eq_5, AV.one.eq_6, AV.ones, AV.slen.eq_1, AV.slen.eq_2, AV.isS.eq_1, AV.isS.eq_2, AV.isS.eq_3, AV.isPtr, AV.gl, AV.isG, Value.oneCell', Nat.add_assoc, cut_of_le, nat_lt0, nat_le0, tlC, Tryd.f4, q3, q7, q9, q12, q13, q15, k8, k10, h1, x7, x9, x12, x13, tbl4, G31, pureH, g1, hok, v3, v4, v5, bv]
  refine (acall_any (S := []) (by simp) (c25 hpr w.prsm fr)).mono ?_
  rintro v h2 n2 ⟨a1, a2, a3, a4⟩
  refine ⟨agr_le fr a1, ?_⟩
  have hen2 : deEn h2 (.g [z15, .v (.int .i64 en.each), .v (.int .i64 en.pos)]) = some en := deEn_in ((hz.congr (fun q h1 h2 => a1 q h2) (Nat.le_refl _)).rd Flat.ev)
  have g2 : deR h2 [v, .g [z15, .v (.int .i64 en.each), .v (.int .i64 en.pos)]] = some (p, en) := by simp only [deR, a4.rd, hen2]
  have hv3 : ∀ g, AV.unc g v = v := fun g => by
    obtain ⟨w', zb', rfl, _⟩ := a4
    rfl
  simp [awp_skip, awp_label, awp_region, awp_seq, awp_if, awp_block, awp_ret, awp_scope, awp_exit, thenQ_n, thenQ_e, thenQ_r, blockQ_n, blockQ_e, blockQ_r, finQ_n, finQ_r, finQ_e, resAll, resVal, resOne, aops_nil, aops_cons, atl_nil, atl_cons, atlAll_nil, atlAll_cons, freeOp, List.filter_cons, List.filter_nil, adraw_eq, adrawA_nil, adrawA_cons, isA, goOp, appNew, mkOp, gev, Region.binds, Heap.le_refl, aop, aeval, gocall, heapOp, quietOp, ev, constAV, setd, yav, ystop, up, env0, cx_ti, cx_G, cx_pf, ti, globS, glob, pfL, lds, ldc, ldcs_1, ldcs_2, ldcs_3, ldcs_4, ldcs_5, ldcs_7, sts, sth, sls.eq_1, slc.eq_1, wr, place, fillOk, fillC, repZ, binI, isDiv, optInt, optI, eksOk, eksEq, EK.ok, EK.eq, AV.i, AV.isI, AV.isInt, AV.b.eq_1, AV.b.eq_2, AV.isB.eq_1, AV.isB.eq_2, AV.str, AV.isStr, unc_same, unc_tt, unc_tf, unc_f, unc_any, unc_v, unc_gp, unc_p, unc_s, unc_g, unc_e, unc_t, unc_fn, unc_okb, unc_bb, unc_isB, unc_b, AV.bb.eq_1, AV.bb.eq_2, AV.okb.eq_1, AV.okb.eq_2, AV.okg.eq_1, AV.okg.eq_2, AV.gd.eq_1, AV.gd.eq_2, AV.cells.eq_1, AV.cells.eq_2, AV.one.eq_1, AV.one.eq_2, AV.one.eq_3, AV.one.eq_4, AV.one.eq_5, AV.one.eq_6, AV.ones, AV.slen.eq_1, AV.slen.eq_2, AV.isS.eq_1, AV.isS.eq_2, AV.isS.eq_3, AV.isPtr, AV.gl, AV.isG, Value.oneCell', Nat.add_assoc, cut_of_le, nat_lt0, nat_le0, v3, v4, v5, hv3, q15, G31, pureH, g2, hok, bv]
theorem tbl4_ok (h29 : P0 S29 29 G29) (h30 : P0 [] 30 G29) : TbOk S29 tbl4 := tb_cons P27 (tb_cons h29 (tb_cons h30 (tb_cons (P31 h29) (tb_cons (P32 h30) (tb_cons P21 (tb_cons P33 tb_nil))))))
theorem law4 (e3 : rd dPs h pa = some p.code) (e4 : rd dIss h pb = some p.cols) (e5 : rd dEss h la = some en.ls) (w : W4 p en) (hn : Fresh n h) :
    awp (cx S29 (pfL tbl4)) (Tryd.f4.body.getD .skip) (finQ (cx S29 (pfL tbl4)) Tryd.f4 fun z _ _ => z = bv true) ⟨env0 [.g [pa, pb], .g [la, .v (.int .i64 en.each), .v (.int .i64 en.pos)]], roH h, n⟩ := by
  refine awp_cut 2 _ _ (law4a e3 e4 e5 w hn _ rfl rfl) fun e1 h1 n1 ⟨b1, hb⟩ => ?_
  refine awp_cut 1 _ _ (law4b e3 e4 w hn e1 h1 n1 b1) fun e2 h2 n2 ⟨b2, c2⟩ => ?_
  refine awp_cut 1 _ _ (law4c e5 w hb hn e2 h2 n2 b2 c2) fun e3' h3 n3 ⟨b3, c3, d3⟩ => ?_
  refine awp_cut 3 _ _ (law4d e3 e4 e5 w hb hn e3' h3 n3 b3 c3 d3) fun e4' h4 n4 ⟨b4, c4, d4, k4⟩ => ?_
  refine awp_cut 1 _ _ (law4e e3 e4 e5 w hb hn e4' h4 n4 b4 c4 d4 k4) fun e5' h5 n5 ⟨b5, v7, v9, hne⟩ => ?_
  refine awp_cut 1 _ _ (law4f e5 w hb hn e5' h5 n5 b5 v7 v9 hne) fun e6' h6' n6' ⟨b6, f6'⟩ => ?_
  refine awp_cut 1 _ _ (law4f2 e3 e4 w hn e6' h6' n6' b6 f6') fun e6 h6 n6 ⟨ba, lo, hi, mid, f6⟩ => ?_
  refine awp_cut 3 _ _ (law4g w hb e6 h6 n6 f6) fun e7 h7 n7 f7 => ?_
  have w2 := w.flip
  have hb2 : beyondV (flipLL en.ls) = false := by rw [flip_beyond]; exact hb
  refine awp_cut 1 _ _ (law4h w2 e7 h7 n7 f7) fun e8 h8 n8 f8 => ?_
  have w3 := w2.turn
  refine awp_cut 1 _ _ (law4i w3 hb2 e8 h8 n8 f8) fun e9 h9 n9 f9 => ?_
  refine awp_cut 1 _ _ (law4j w3 hb2 e9 h9 n9 f9) fun e10 h10 n10 ⟨f10, k7, k8⟩ => ?_
  refine awp_cut 1 _ _ (law4k (en0 := en) w3 hb2 rfl rfl e10 h10 n10 f10 k7 k8) fun e11 h11 n11 ⟨f11, k7', k8', k9', k10'⟩ => ?_
  exact law4l (en0 := en) w3 hb2 rfl rfl e11 h11 n11 f11 k7' k8' k9' k10'
end
end Go.Proofs.YtkfphaphiikloaaDoor
