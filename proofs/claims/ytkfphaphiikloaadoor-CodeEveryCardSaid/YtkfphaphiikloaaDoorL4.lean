/-
  CodeRuns: the law's own code.
-/
import Derived.Test.YtkfphaphiikloaaDoorCi
import Derived.Test.YtkfphaphiikloaaDoorCj
import Derived.Test.YtkfphaphiikloaaDoorCo
import Derived.Test.YtkfphaphiikloaaDoorCs
set_option linter.unusedSimpArgs false
set_option linter.unusedVariables false
set_option linter.constructorNameAsVariable false
set_option linter.unusedSimpArgs false
namespace Go.Proofs.YtkfphaphiikloaaDoor
open Go Go.Eng

def tbl4 : List (FuncId × (List AV → Heap → PRes)) := [(27, G27), (29, G29), (30, G29), (31, G31), (32, G31), (21, G21), (33, G33)]
/-- Arguments of a size that a machine holds. -/
structure W4 (p : Pr) (en : En) : Prop where
  prok : PrOk p
  prsm : PrSm p
  lsl : en.ls.length * 24 ≤ 140737488355328
  len : ∀ l ∈ en.ls, l.length * 88 ≤ 140737488355328
  ev : ∀ l ∈ en.ls, ∀ x ∈ l, EvOk x
  pos : Rng en.pos
theorem W4.en {p : Pr} {en : En} (w : W4 p en) (hb : beyondV en.ls = false) : EnOk en := ⟨beyond_len hb, w.ev, w.pos⟩
theorem W4.bigs {p : Pr} {en : En} (w : W4 p en) : en.ls.length < big ∧ ∀ l ∈ en.ls, l.length < big := ⟨by have := w.lsl; unfold big; omega, fun l hl => by have := w.len l hl; unfold big; omega⟩
theorem W4.pbig {p : Pr} {en : En} (w : W4 p en) : p.code.length < big ∧ p.cols.length < big ∧ ∀ l ∈ p.cols, l.length < big := ⟨by have := w.prsm.code; unfold big; omega, by have := w.prsm.cols; unfold big; omega, w.prok.col⟩
/-- What stands through the whole law. -/
structure B4 (h : Heap) (n : Nat) (pa pb la : AV) (en : En) (s : St) : Prop where
  q2 : s.e 2 = .p n 0 0
  q3 : s.e 3 = .p (n + 1) 0 0
  h0 : s.h n = some ⟨[pa, pb], 0, true, 2⟩
  h1 : s.h (n + 1) = some ⟨[la, .v (.int .i64 en.each), .v (.int .i64 en.pos)], 0, true, 3⟩
  ag : agree n (roH h) s.h
  fr : Fresh s.n s.h
  nn : n + 2 ≤ s.n
/-- A program's copy in a cell. -/
def CP (s : St) (t lo : Nat) (p : Pr) : Prop := ∃ m za zb, s.e t = .p m 0 0 ∧ lo ≤ m ∧ m < s.n ∧ s.h m = some ⟨[za, zb], 0, true, 2⟩ ∧ OwnP s.h lo s.n (.g [za, zb]) p
/-- An environment's copy in a cell. -/
def CE (s : St) (t lo : Nat) (en : En) : Prop := ∃ m zl, s.e t = .p m 0 0 ∧ lo ≤ m ∧ m < s.n ∧ s.h m = some ⟨[zl, .v (.int .i64 en.each), .v (.int .i64 en.pos)], 0, true, 3⟩ ∧ OwnL ecells 11 s.h lo s.n zl en.ls en.ls.length
section
set_option maxRecDepth 100000
set_option maxHeartbeats 4000000
variable {h : Heap} {n : Nat} {pa pb la : AV} {p : Pr} {en : En}
theorem law4a (e3 : rd dPs h pa = some p.code) (e4 : rd dIss h pb = some p.cols) (e5 : rd dEss h la = some en.ls) (w : W4 p en) (hn : Fresh n h) (e : Nat → AV) (q0 : e 0 = .g [pa, pb]) (q1 : e 1 = .g [la, .v (.int .i64 en.each), .v (.int .i64 en.pos)]) :
    awp (cx S29 (pfL tbl4)) (hdC 2 (Tryd.f4.body.getD .skip)) (thenQ (fun s => B4 h n pa pb la en s ∧ beyondV en.ls = false) (finQ (cx S29 (pfL tbl4)) Tryd.f4 fun z _ _ => z = bv true)) ⟨e, roH h, n⟩ := by
  obtain ⟨s1, s2, s3, s4, s5⟩ := sl_is e3
  obtain ⟨t1, t2, t3, t4, t5⟩ := sl_is e4
  obtain ⟨r1, r2, r3, r4, r5⟩ := sl_is e5
  have g5 := rd_agree hn e5
  obtain ⟨w1, w2⟩ := w.bigs
  have hfr := hn.add
  cases hb : beyondV en.ls with
  | true =>
    simp [awp_skip, awp_label, awp_region, awp_seq, awp_if, awp_block, awp_ret, awp_scope, awp_exit, thenQ_n, thenQ_e, thenQ_r, blockQ_n, blockQ_e, blockQ_r, finQ_n, finQ_r, finQ_e, resAll, resVal, resOne, aops_nil, aops_cons, atl_nil, atl_cons, atlAll_nil, atlAll_cons, freeOp, List.filter_cons, List.filter_nil, adraw_eq, adrawA_nil, adrawA_cons, isA, goOp, appNew, mkOp, gev, Region.binds, Heap.le_refl, aop, aeval, gocall, heapOp, quietOp, ev, constAV, setd, yav, ystop, up, env0, cx_ti, cx_G, cx_pf, ti, globS, glob, pfL, lds, ldc, ldcs_1, ldcs_2, ldcs_3, ldcs_4, ldcs_5, ldcs_7, sts, sth, sls.eq_1, slc.eq_1, wr, place, fillOk, fillC, repZ, binI, isDiv, optInt, optI, eksOk, eksEq, EK.ok, EK.eq, AV.i, AV.isI, AV.isInt, AV.b.eq_1, AV.b.eq_2, AV.isB.eq_1, AV.isB.eq_2, AV.str, AV.isStr, unc_same, unc_tt, unc_tf, unc_f, unc_any, unc_v, unc_gp, unc_p, unc_s, unc_g, unc_e, unc_t, unc_fn, unc_okb, unc_bb, unc_isB, unc_b, AV.bb.eq_1, AV.bb.eq_2, AV.okb.eq_1, AV.okb.eq_2, AV.okg.eq_1, AV.okg.eq_2, AV.gd.eq_1, AV.gd.eq_2, AV.cells.eq_1, AV.cells.eq_2, AV.one.eq_1, AV.one.eq_2, AV.one.eq_3, AV.one.eq_4, AV.one.eq_5, AV.one.eq_6, AV.ones, AV.slen.eq_1, AV.slen.eq_2, AV.isS.eq_1, AV.isS.eq_2, AV.isS.eq_3, AV.isPtr, AV.gl, AV.isG, Value.oneCell', Nat.add_assoc, cut_of_le, nat_lt0, nat_le0, hdC, Tryd.f4, q0, q1, s4, t4, r3, r4, ii, bv, tbl4, G27, pureH, deLL, g5, agree_up, agree_refl, w1, hb]
    exact w2
  | false =>
    simp [awp_skip, awp_label, awp_region, awp_seq, awp_if, awp_block, awp_ret, awp_scope, awp_exit, thenQ_n, thenQ_e, thenQ_r, blockQ_n, blockQ_e, blockQ_r, finQ_n, finQ_r, finQ_e, resAll, resVal, resOne, aops_nil, aops_cons, atl_nil, atl_cons, atlAll_nil, atlAll_cons, freeOp, List.filter_cons, List.filter_nil, adraw_eq, adrawA_nil, adrawA_cons, isA, goOp, appNew, mkOp, gev, Region.binds, Heap.le_refl, aop, aeval, gocall, heapOp, quietOp, ev, constAV, setd, yav, ystop, up, env0, cx_ti, cx_G, cx_pf, ti, globS, glob, pfL, lds, ldc, ldcs_1, ldcs_2, ldcs_3, ldcs_4, ldcs_5, ldcs_7, sts, sth, sls.eq_1, slc.eq_1, wr, place, fillOk, fillC, repZ, binI, isDiv, optInt, optI, eksOk, eksEq, EK.ok, EK.eq, AV.i, AV.isI, AV.isInt, AV.b.eq_1, AV.b.eq_2, AV.isB.eq_1, AV.isB.eq_2, AV.str, AV.isStr, unc_same, unc_tt, unc_tf, unc_f, unc_any, unc_v, unc_gp, unc_p, unc_s, unc_g, unc_e, unc_t, unc_fn, unc_okb, unc_bb, unc_isB, unc_b, AV.bb.eq_1, AV.bb.eq_2, AV.okb.eq_1, AV.okb.eq_2, AV.okg.eq_1, AV.okg.eq_2, AV.gd.eq_1, AV.gd.eq_2, AV.cells.eq_1, AV.cells.eq_2, AV.one.eq_1, AV.one.eq_2, AV.one.eq_3, AV.one.eq_4, AV.one.eq_5, AV.one.eq_6, AV.ones, AV.slen.eq_1, AV.slen.eq_2, AV.isS.eq_1, AV.isS.eq_2, AV.isS.eq_3, AV.isPtr, AV.gl, AV.isG, Value.oneCell', Nat.add_assoc, cut_of_le, nat_lt0, nat_le0, hdC, Tryd.f4, q0, q1, s4, t4, r3, r4, ii, bv, tbl4, G27, pureH, deLL, g5, agree_up, agree_refl, w1, hb]
    exact ⟨w2, by simp [up], by simp [up], by simp [up], by simp [up], by simp [agree_up, agree_refl], by
      have h2 : Fresh n (roH h) := fun q hq => by simp [roH, hn q hq]
      simp [fresh_up, h2.add], by simp⟩
/-- The same at another state: copies stay, when more is made. -/
theorem CP.up {s s' : St} {t lo : Nat} {p : Pr} (c : CP s t lo p) (he : s'.e t = s.e t) (ha : agree s.n s.h s'.h) (hn : s.n ≤ s'.n) : CP s' t lo p := by
  obtain ⟨m, za, zb, h1, h2, h3, h4, h5⟩ := c
  exact ⟨m, za, zb, he.trans h1, h2, by omega, by rw [ha m h3]; exact h4, h5.congr (fun q _ hq => ha q hq) hn⟩
theorem CE.up {s s' : St} {t lo : Nat} {en : En} (c : CE s t lo en) (he : s'.e t = s.e t) (ha : agree s.n s.h s'.h) (hn : s.n ≤ s'.n) : CE s' t lo en := by
  obtain ⟨m, zl, h1, h2, h3, h4, h5⟩ := c
  exact ⟨m, zl, he.trans h1, h2, by omega, by rw [ha m h3]; exact h4, h5.congr (fun q _ hq => ha q hq) hn⟩
theorem B4.up {s s' : St} (b : B4 h n pa pb la en s) (he2 : s'.e 2 = s.e 2) (he3 : s'.e 3 = s.e 3) (ha : agree s.n s.h s'.h) (hf : Fresh s'.n s'.h) (hn : s.n ≤ s'.n) : B4 h n pa pb la en s' := by
  obtain ⟨q2, q3, h0, h1, ag, fr, nn⟩ := b
  exact ⟨he2.trans q2, he3.trans q3, by rw [ha n (by omega)]; exact h0, by rw [ha (n + 1) (by omega)]; exact h1, fun j hj => by rw [ha j (by omega)]; exact ag j hj, hf, by omega⟩
/-- A program's copy. -/
theorem law4b (e3 : rd dPs h pa = some p.code) (e4 : rd dIss h pb = some p.cols) (w : W4 p en) (hn : Fresh n h) (e : Nat → AV) (h' : Heap) (n' : Nat) (b : B4 h n pa pb la en ⟨e, h', n'⟩) {Q : Ex → St → Prop} :
    awp (cx S29 (pfL tbl4)) (hdC 1 (tlC 2 (Tryd.f4.body.getD .skip))) (thenQ (fun s => B4 h n pa pb la en s ∧ CP s 5 n p) Q) ⟨e, h', n'⟩ := by
  have b0 := b
  obtain ⟨q2, q3, h0, h1, ag, fr, nn⟩ := b
  simp only [] at q2 q3 h0 h1 ag fr nn
  have g3 := rd_agree hn e3 h' ag
  have g4 := rd_agree hn e4 h' ag
  simp [awp_skip, awp_label, awp_region, awp_seq, awp_if, awp_block, awp_ret, awp_scope, awp_exit, thenQ_n, thenQ_e, thenQ_r, blockQ_n, blockQ_e, blockQ_r, finQ_n, finQ_r, finQ_e, resAll, resVal, resOne, aops_nil, aops_cons, atl_nil, atl_cons, atlAll_nil, atlAll_cons, freeOp, List.filter_cons, List.filter_nil, adraw_eq, adrawA_nil, adrawA_cons, isA, goOp, appNew, mkOp, gev, Region.binds, Heap.le_refl, aop, aeval, gocall, heapOp, quietOp, ev, constAV, setd, yav, ystop, up, env0, cx_ti, cx_G, cx_pf, ti, globS, glob, pfL, lds, ldc, ldcs_1, ldcs_2, ldcs_3, ldcs_4, ldcs_5, ldcs_7, sts, sth, sls.eq_1, slc.eq_1, wr, place, fillOk, fillC, repZ, binI, isDiv, optInt, optI, eksOk, eksEq, EK.ok, EK.eq, AV.i, AV.isI, AV.isInt, AV.b.eq_1, AV.b.eq_2, AV.isB.eq_1, AV.isB.eq_2, AV.str, AV.isStr, unc_same, unc_tt, unc_tf, unc_f, unc_any, unc_v, unc_gp, unc_p, unc_s, unc_g, unc_e, unc_t, unc_fn, unc_okb, unc_bb, unc_isB, unc_b, AV.bb.eq_1, AV.bb.eq_2, AV.okb.eq_1, AV.okb.eq_2, AV.okg.eq_1, AV.okg.eq_2, AV.gd.eq_1, AV.gd.eq_2, AV.cells.eq_1, AV.cells.eq_2, AV.one.eq_1, AV.one.eq_2, AV.one.eq_3, AV.one.eq_4, AV.one.eq_5, AV.one.eq_6, AV.ones, AV.slen.eq_1, AV.slen.eq_2, AV.isS.eq_1, AV.isS.eq_2, AV.isS.eq_3, AV.isPtr, AV.gl, AV.isG, Value.oneCell', Nat.add_assoc, cut_of_le, nat_lt0, nat_le0, hdC, tlC, Tryd.f4, q2, h0, tbl4]
  refine (acall_any (S := []) (by simp) (c25 (dePr_in g3 g4) w.prsm fr)).mono ?_
  rintro v h2 n2 ⟨a1, a2, a3, a4⟩
  obtain ⟨w', zb, rfl, o2, o3, o4, o5⟩ := a4
  obtain ⟨v1, v2, v3, v4, v5⟩ := o5.is
  simp [awp_skip, awp_label, awp_region, awp_seq, awp_if, awp_block, awp_ret, awp_scope, awp_exit, thenQ_n, thenQ_e, thenQ_r, blockQ_n, blockQ_e, blockQ_r, finQ_n, finQ_r, finQ_e, resAll, resVal, resOne, aops_nil, aops_cons, atl_nil, atl_cons, atlAll_nil, atlAll_cons, freeOp, List.filter_cons, List.filter_nil, adraw_eq, adrawA_nil, adrawA_cons, isA, goOp, appNew, mkOp, gev, Region.binds, Heap.le_refl, aop, aeval, gocall, heapOp, quietOp, ev, constAV, setd, yav, ystop, up, env0, cx_ti, cx_G, cx_pf, ti, globS, glob, pfL, lds, ldc, ldcs_1, ldcs_2, ldcs_3, ldcs_4, ldcs_5, ldcs_7, sts, sth, sls.eq_1, slc.eq_1, wr, place, fillOk, fillC, repZ, binI, isDiv, optInt, optI, eksOk, eksEq, EK.ok, EK.eq, AV.i, AV.isI, AV.isInt, AV.b.eq_1, AV.b.eq_2, AV.isB.eq_1, AV.isB.eq_2, AV.str, AV.isStr, unc_same, unc_tt, unc_tf, unc_f, unc_any, unc_v, unc_gp, unc_p, unc_s, unc_g, unc_e, unc_t, unc_fn, unc_okb, unc_bb, unc_isB, unc_b, AV.bb.eq_1, AV.bb.eq_2, AV.okb.eq_1, AV.okb.eq_2, AV.okg.eq_1, AV.okg.eq_2, AV.gd.eq_1, AV.gd.eq_2, AV.cells.eq_1, AV.cells.eq_2, AV.one.eq_1, AV.one.eq_2, AV.one.eq_3, AV.one.eq_4, AV.one.eq_5, AV.one.eq_6, AV.ones, AV.slen.eq_1, AV.slen.eq_2, AV.isS.eq_1, AV.isS.eq_2, AV.isS.eq_3, AV.isPtr, AV.gl, AV.isG, Value.oneCell', Nat.add_assoc, cut_of_le, nat_lt0, nat_le0, v4]
  have hag : agree n' h' (up (up h2 n2 (some ⟨[.v (.slice none 0 0), .v (.slice none 0 0)], 0, true, 2⟩)) n2 (some ⟨[.s w' 1 0 p.code.length, zb], 0, true, 2⟩)) := by simp [agree_up, a1, a3]
  refine ⟨b0.up (by simp [up]) (by simp [up]) hag (by simp [fresh_up, a2.add]) (by simp only []; omega), n2, .s w' 1 0 p.code.length, zb, by simp [up], by omega, by simp, by simp [up], ?_⟩
  refine OwnP.congr ⟨w', zb, rfl, o2, Nat.le_trans (by omega) o3, o4, o5⟩ (fun q h1 h2 => ?_) (by simp only []; omega)
  simp only []
  rw [up_ne _ _ (by omega), up_ne _ _ (by omega)]
theorem EnvG (en : En) (a : AV) : AV.g [a, .v (.int .i64 en.each), .v (.int .i64 en.pos)] = .g [a, ii en.each, ii en.pos] := rfl
theorem law4c (e5 : rd dEss h la = some en.ls) (w : W4 p en) (hb : beyondV en.ls = false) (hn : Fresh n h) (e : Nat → AV) (h' : Heap) (n' : Nat) (b : B4 h n pa pb la en ⟨e, h', n'⟩) (c : CP ⟨e, h', n'⟩ 5 n p) {Q : Ex → St → Prop} :
    awp (cx S29 (pfL tbl4)) (hdC 1 (tlC 3 (Tryd.f4.body.getD .skip))) (thenQ (fun s => B4 h n pa pb la en s ∧ CP s 5 n p ∧ CE s 6 n en) Q) ⟨e, h', n'⟩ := by
  have b0 := b
  obtain ⟨q2, q3, h0, h1, ag, fr, nn⟩ := b
  simp only [] at q2 q3 h0 h1 ag fr nn
  obtain ⟨r1, r2, r3, r4, r5⟩ := sl_is e5
  have g5 := rd_agree hn e5 h' ag
  have fin : ∀ (e2 : Nat → AV) (h3 : Heap) (n3 m6 : Nat) (v : AV), e2 2 = e 2 → e2 3 = e 3 → e2 5 = e 5 → e2 6 = .p m6 0 0 → agree n' h' h3 → Fresh n3 h3 → n' ≤ n3 → n' ≤ m6 → m6 < n3 → h3 m6 = some ⟨[v, .v (.int .i64 en.each), .v (.int .i64 en.pos)], 0, true, 3⟩ → OwnL ecells 11 h3 n n3 v en.ls en.ls.length → B4 h n pa pb la en ⟨e2, h3, n3⟩ ∧ CP ⟨e2, h3, n3⟩ 5 n p ∧ CE ⟨e2, h3, n3⟩ 6 n en := fun e2 h3 n3 m6 v k2 k3 k5 k6 ka kf kn km kl kb ko =>
    ⟨b0.up k2 k3 ka kf kn, c.up k5 ka kn, m6, v, k6, by omega, kl, kb, ko⟩
  simp [awp_skip, awp_label, awp_region, awp_seq, awp_if, awp_block, awp_ret, awp_scope, awp_exit, thenQ_n, thenQ_e, thenQ_r, blockQ_n, blockQ_e, blockQ_r, finQ_n, finQ_r, finQ_e, resAll, resVal, resOne, aops_nil, aops_cons, atl_nil, atl_cons, atlAll_nil, atlAll_cons, freeOp, List.filter_cons, List.filter_nil, adraw_eq, adrawA_nil, adrawA_cons, isA, goOp, appNew, mkOp, gev, Region.binds, Heap.le_refl, aop, aeval, gocall, heapOp, quietOp, ev, constAV, setd, yav, ystop, up, env0, cx_ti, cx_G, cx_pf, ti, globS, glob, pfL, lds, ldc, ldcs_1, ldcs_2, ldcs_3, ldcs_4, ldcs_5, ldcs_7, sts, sth, sls.eq_1, slc.eq_1, wr, place, fillOk, fillC, repZ, binI, isDiv, optInt, optI, eksOk, eksEq, EK.ok, EK.eq, AV.i, AV.isI, AV.isInt, AV.b.eq_1, AV.b.eq_2, AV.isB.eq_1, AV.isB.eq_2, AV.str, AV.isStr, unc_same, unc_tt, unc_tf, unc_f, unc_any, unc_v, unc_gp, unc_p, unc_s, unc_g, unc_e, unc_t, unc_fn, unc_okb, unc_bb, unc_isB, unc_b, AV.bb.eq_1, AV.bb.eq_2, AV.okb.eq_1, AV.okb.eq_2, AV.okg.eq_1, AV.okg.eq_2, AV.gd.eq_1, AV.gd.eq_2, AV.cells.eq_1, AV.cells.eq_2, AV.one.eq_1, AV.one.eq_2, AV.one.eq_3, AV.one.eq_4, AV.one.eq_5, AV.one.eq_6, AV.ones, AV.slen.eq_1, AV.slen.eq_2, AV.isS.eq_1, AV.isS.eq_2, AV.isS.eq_3, AV.isPtr, AV.gl, AV.isG, Value.oneCell', Nat.add_assoc, cut_of_le, nat_lt0, nat_le0, hdC, tlC, Tryd.f4, q3, h1, tbl4]
  refine ⟨?_, ?_⟩
  · refine (acall_any (S := []) (by simp) (c28 g5 (beyond_len hb) w.lsl fr)).mono ?_
    rintro v h2 n2 ⟨a1, a2, a3, a4⟩
    obtain ⟨v1, v2, v3, v4, v5⟩ := a4.is
    refine ⟨agr_le fr a1, ?_⟩
    simp [awp_skip, awp_label, awp_region, awp_seq, awp_if, awp_block, awp_ret, awp_scope, awp_exit, thenQ_n, thenQ_e, thenQ_r, blockQ_n, blockQ_e, blockQ_r, finQ_n, finQ_r, finQ_e, resAll, resVal, resOne, aops_nil, aops_cons, atl_nil, atl_cons, atlAll_nil, atlAll_cons, freeOp, List.filter_cons, List.filter_nil, adraw_eq, adrawA_nil, adrawA_cons, isA, goOp, appNew, mkOp, gev, Region.binds, Heap.le_refl, aop, aeval, gocall, heapOp, quietOp, ev, constAV, setd, yav, ystop, up, env0, cx_ti, cx_G, cx_pf, ti, globS, glob, pfL, lds, ldc, ldcs_1, ldcs_2, ldcs_3, ldcs_4, ldcs_5, ldcs_7, sts, sth, sls.eq_1, slc.eq_1, wr, place, fillOk, fillC, repZ, binI, isDiv, optInt, optI, eksOk, eksEq, EK.ok, EK.eq, AV.i, AV.isI, AV.isInt, AV.b.eq_1, AV.b.eq_2, AV.isB.eq_1, AV.isB.eq_2, AV.str, AV.isStr, unc_same, unc_tt, unc_tf, unc_f, unc_any, unc_v, unc_gp, unc_p, unc_s, unc_g, unc_e, unc_t, unc_fn, unc_okb, unc_bb, unc_isB, unc_b, AV.bb.eq_1, AV.bb.eq_2, AV.okb.eq_1, AV.okb.eq_2, AV.okg.eq_1, AV.okg.eq_2, AV.gd.eq_1, AV.gd.eq_2, AV.cells.eq_1, AV.cells.eq_2, AV.one.eq_1, AV.one.eq_2, AV.one.eq_3, AV.one.eq_4, AV.one.eq_5, AV.one.eq_6, AV.ones, AV.slen.eq_1, AV.slen.eq_2, AV.isS.eq_1, AV.isS.eq_2, AV.isS.eq_3, AV.isPtr, AV.gl, AV.isG, Value.oneCell', Nat.add_assoc, cut_of_le, nat_lt0, nat_le0, v4, v5]
    have ho : ∀ b1 b2 : Option Blk, OwnL ecells 11 (up (up h2 n2 b1) n2 b2) n (n2 + 2) v en.ls en.ls.length := fun b1 b2 => (a4.lo (lo' := n) (by omega)).congr (fun q h1 h2 => by rw [up_ne _ _ (by omega), up_ne _ _ (by omega)]) (by omega)
    have hf2 : ∀ b1 b2 : Option Blk, Fresh (n2 + 2) (up (up h2 n2 b1) n2 b2) := fun b1 b2 => by simp [fresh_up, a2.add]
    have hg2 : ∀ b1 b2 : Option Blk, agree n' h' (up (up h2 n2 b1) n2 b2) := fun b1 b2 => by simp [agree_up, a1, a3]
    exact ⟨fin _ _ _ n2 v (by simp [up]) (by simp [up]) (by simp [up]) (by simp [up]) (hg2 _ _) (hf2 _ _) (by omega) (by omega) (by omega) (by simp [up]) (ho _ _), fin _ _ _ n2 v (by simp [up]) (by simp [up]) (by simp [up]) (by simp [up]) (hg2 _ _) (hf2 _ _) (by omega) (by omega) (by omega) (by simp [up]) (ho _ _)⟩
  · have frA : ∀ b, Fresh (n' + 1) (up h' n' b) := fun b => (fresh_up (by omega) b).2 (fr.add 1)
    have agA : ∀ b, agree n (roH h) (up h' n' b) := fun b => (agree_up (by omega) b).2 ag
    refine (acall_any (S := []) (by simp) (c28 (rd_agree hn e5 _ (agA _)) (beyond_len hb) w.lsl (frA _))).mono ?_
    rintro v h2 n2 ⟨a1, a2, a3, a4⟩
    obtain ⟨v1, v2, v3, v4, v5⟩ := a4.is
    refine ⟨agr_le (frA _) a1, ?_⟩
    have hx : h2 n' = some ⟨[.v (.slice none 0 0), .v (.int .i64 0), .v (.int .i64 0)], 0, true, 3⟩ := by rw [a1 n' (by omega), up_same]
    simp [awp_skip, awp_label, awp_region, awp_seq, awp_if, awp_block, awp_ret, awp_scope, awp_exit, thenQ_n, thenQ_e, thenQ_r, blockQ_n, blockQ_e, blockQ_r, finQ_n, finQ_r, finQ_e, resAll, resVal, resOne, aops_nil, aops_cons, atl_nil, atl_cons, atlAll_nil, atlAll_cons, freeOp, List.filter_cons, List.filter_nil, adraw_eq, adrawA_nil, adrawA_cons, isA, goOp, appNew, mkOp, gev, Region.binds, Heap.le_refl, aop, aeval, gocall, heapOp, quietOp, ev, constAV, setd, yav, ystop, up, env0, cx_ti, cx_G, cx_pf, ti, globS, glob, pfL, lds, ldc, ldcs_1, ldcs_2, ldcs_3, ldcs_4, ldcs_5, ldcs_7, sts, sth, sls.eq_1, slc.eq_1, wr, place, fillOk, fillC, repZ, binI, isDiv, optInt, optI, eksOk, eksEq, EK.ok, EK.eq, AV.i, AV.isI, AV.isInt, AV.b.eq_1, AV.b.eq_2, AV.isB.eq_1, AV.isB.eq_2, AV.str, AV.isStr, unc_same, unc_tt, unc_tf, unc_f, unc_any, unc_v, unc_gp, unc_p, unc_s, unc_g, unc_e, unc_t, unc_fn, unc_okb, unc_bb, unc_isB, unc_b, AV.bb.eq_1, AV.bb.eq_2, AV.okb.eq_1, AV.okb.eq_2, AV.okg.eq_1, AV.okg.eq_2, AV.gd.eq_1, AV.gd.eq_2, AV.cells.eq_1, AV.cells.eq_2, AV.one.eq_1, AV.one.eq_2, AV.one.eq_3, AV.one.eq_4, AV.one.eq_5, AV.one.eq_6, AV.ones, AV.slen.eq_1, AV.slen.eq_2, AV.isS.eq_1, AV.isS.eq_2, AV.isS.eq_3, AV.isPtr, AV.gl, AV.isG, Value.oneCell', Nat.add_assoc, cut_of_le, nat_lt0, nat_le0, v4, v5, hx]
    have ho : ∀ b1 : Option Blk, OwnL ecells 11 (up h2 n' b1) n (n2 + 1) v en.ls en.ls.length := fun b1 => (a4.congr (fun q h1 h2 => by rw [up_ne _ _ (by omega)]) (by omega)).lo (by omega)
    have hf2 : ∀ b1 : Option Blk, Fresh (n2 + 1) (up h2 n' b1) := fun b1 => (fresh_up (by omega) b1).2 (a2.add 1)
    have hg2 : ∀ b1 : Option Blk, agree n' h' (up h2 n' b1) := fun b1 j hj => by rw [up_ne _ _ (by omega), a1 j (by omega), up_ne _ _ (by omega)]
    exact fin _ _ _ n' v (by simp [up]) (by simp [up]) (by simp [up]) (by simp [up]) (hg2 _) (hf2 _) (by omega) (by omega) (by omega) (by simp [up]) (ho _)
/-- A value in a cell. -/
def CV (s : St) (t lo : Nat) (v : V) : Prop := ∃ m, s.e t = .p m 0 0 ∧ lo ≤ m ∧ m < s.n ∧ s.h m = some ⟨[.v (.bool v.k), .v (.int .i64 v.n)], 0, true, 2⟩
theorem CV.up {s s' : St} {t lo : Nat} {v : V} (c : CV s t lo v) (he : s'.e t = s.e t) (ha : agree s.n s.h s'.h) (hn : s.n ≤ s'.n) : CV s' t lo v := by
  obtain ⟨m, h1, h2, h3, h4⟩ := c
  exact ⟨m, he.trans h1, h2, by omega, by rw [ha m h3]; exact h4⟩
/-- The machines have run. -/
structure D4 (n : Nat) (p : Pr) (en : En) (s : St) : Prop where
  v7 : CV s 7 (n + 2) (runV p en).1
  v8 : s.e 8 = .v (.int .i64 (runV p en).2)
  v9 : CV s 9 (n + 2) (runV p en).1
  v10 : s.e 10 = .v (.int .i64 (runV p en).2)
  v11 : s.e 11 = bv (holdsV p en)
  ne : s.e 7 ≠ s.e 9
theorem law4d (e3 : rd dPs h pa = some p.code) (e4 : rd dIss h pb = some p.cols) (e5 : rd dEss h la = some en.ls) (w : W4 p en) (hb : beyondV en.ls = false) (hn : Fresh n h) (e : Nat → AV) (h' : Heap) (n' : Nat) (b : B4 h n pa pb la en ⟨e, h', n'⟩) (c : CP ⟨e, h', n'⟩ 5 n p) (d : CE ⟨e, h', n'⟩ 6 n en) {Q : Ex → St → Prop} :
    awp (cx S29 (pfL tbl4)) (hdC 3 (tlC 4 (Tryd.f4.body.getD .skip))) (thenQ (fun s => B4 h n pa pb la en s ∧ CP s 5 n p ∧ CE s 6 n en ∧ D4 n p en s) Q) ⟨e, h', n'⟩ := by
  have b0 := b
  have c0 := c
  have d0 := d
  obtain ⟨q2, q3, h0, h1, ag, fr, nn⟩ := b
  obtain ⟨m5, za, zb, q5, l5, k5, x5, o5⟩ := c
  obtain ⟨m6, zl, q6, l6, k6, x6, o6⟩ := d
  simp only [] at q2 q3 h0 h1 ag fr nn q5 k5 x5 o5 q6 k6 x6 o6
  have hag0 := agree_trans (agree_refl n' h') (agree_refl n' h') (Nat.le_refl _)
  have p1 := pr_agree hn (dePr_in e3 e4)
  have p2 := en_agree hn (deEn_in e5)
  have hpr := o5.rd
  have hen : deEn h' (.g [zl, .v (.int .i64 en.each), .v (.int .i64 en.pos)]) = some en := deEn_in (o6.rd Flat.ev)
  have g1 : ∀ h2, agree n' h' h2 → deR h2 [.g [pa, pb], .g [la, .v (.int .i64 en.each), .v (.int .i64 en.pos)]] = some (p, en) := fun h2 ha => by
    have hx : agree n (roH h) h2 := agree_trans ag ha (by omega)
    simp only [deR, p1 h2 hx, p2 h2 hx]
  have g2 : ∀ h2, agree n' h' h2 → deR h2 [.g [za, zb], .g [zl, .v (.int .i64 en.each), .v (.int .i64 en.pos)]] = some (p, en) := fun h2 ha => by
    have hs := agr_sim fr ha
    simp only [deR, dePr_sim hs hpr, deEn_sim hs hen]
  have hok : okR (p, en) := ⟨w.prok, w.en hb⟩
  have z0 : ¬ n = n' := by omega
  have z1 : ¬ n + 1 = n' := by omega
  have z2 : ¬ m5 = n' := by omega
  have z3 : ¬ m6 = n' := by omega
  have z4 : ¬ n = n' + 2 := by omega
  have z5 : ¬ n + 1 = n' + 2 := by omega
  have z6 : ¬ m5 = n' + 2 := by omega
  have z7 : ¬ m6 = n' + 2 := by omega
  have z8 : ¬ n = n' + 1 := by omega
  simp [awp_skip, awp_label, awp_region, awp_seq, awp_if, awp_block, awp_ret, awp_scope, awp_exit, thenQ_n, thenQ_e, thenQ_r, blockQ_n, blockQ_e, blockQ_r, finQ_n, finQ_r, finQ_e, resAll, resVal, resOne, aops_nil, aops_cons, atl_nil, atl_cons, atlAll_nil, atlAll_cons, freeOp, List.filter_cons, List.filter_nil, adraw_eq, adrawA_nil, adrawA_cons, isA, goOp, appNew, mkOp, gev, Region.binds, Heap.le_refl, aop, aeval, gocall, heapOp, quietOp, ev, constAV, setd, yav, ystop, up, env0, cx_ti, cx_G, cx_pf, ti, globS, glob, pfL, lds, ldc, ldcs_1, ldcs_2, ldcs_3, ldcs_4, ldcs_5, ldcs_7, sts, sth, sls.eq_1, slc.eq_1, wr, place, fillOk, fillC, repZ, binI, isDiv, optInt, optI, eksOk, eksEq, EK.ok, EK.eq, AV.i, AV.isI, AV.isInt, AV.b.eq_1, AV.b.eq_2, AV.isB.eq_1, AV.isB.eq_2, AV.str, AV.isStr, unc_same, unc_tt, unc_tf, unc_f, unc_any, unc_v, unc_gp, unc_p, unc_s, unc_g, unc_e, unc_t, unc_fn, unc_okb, unc_bb, unc_isB, unc_b, AV.bb.eq_1, AV.bb.eq_2, AV.okb.eq_1, AV.okb.eq_2, AV.okg.eq_1, AV.okg.eq_2, AV.gd.eq_1, AV.gd.eq_2, AV.cells.eq_1, AV.cells.eq_2, AV.one.eq_1, AV.one.eq_2, AV.one.eq_3, AV.one.eq_4, AV.one.eq_5, AV.one.eq_6, AV.ones, AV.slen.eq_1, AV.slen.eq_2, AV.isS.eq_1, AV.isS.eq_2, AV.isS.eq_3, AV.isPtr, AV.gl, AV.isG, Value.oneCell', Nat.add_assoc, cut_of_le, nat_lt0, nat_le0, hdC, tlC, Tryd.f4, q2, q3, q5, q6, h0, h1, x5, x6, z0, z1, z2, z3, z4, z5, z6, z7, z8, tbl4, G29, G31, pureH, g1, g2, agree_up, agree_refl, hok, runA, vv, bv]
  have hag : ∀ b1 b2 b3 b4 : Option Blk, agree n' h' (up (up (up (up h' n' b1) n' b2) (n' + 2) b3) (n' + 2) b4) := fun b1 b2 b3 b4 => by simp [agree_up, agree_refl]
  refine ⟨b0.up (by simp [up]) (by simp [up]) (hag _ _ _ _) (by simp [fresh_up, fr.add]) (by simp), c0.up (by simp [up]) (hag _ _ _ _) (by simp), d0.up (by simp [up]) (hag _ _ _ _) (by simp), ⟨n', by simp [up], by omega, by simp, by simp [up]⟩, by simp [up], ⟨n' + 2, by simp [up], by omega, by simp, by simp [up]⟩, by simp [up], by simp [up, bv], by simp [up]⟩
end
end Go.Proofs.YtkfphaphiikloaaDoor
