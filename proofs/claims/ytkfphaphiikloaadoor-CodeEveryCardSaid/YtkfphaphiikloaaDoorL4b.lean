/-
  CodeRuns: the law's own code, its second half.
-/
import Derived.Test.YtkfphaphiikloaaDoorL4
set_option linter.unusedSimpArgs false
set_option linter.unusedVariables false
set_option linter.constructorNameAsVariable false
set_option linter.unusedSimpArgs false
namespace Go.Proofs.YtkfphaphiikloaaDoor
open Go Go.Eng

/-- A value in a cell between two bounds. -/
def CR (s : St) (t lo hi : Nat) : Prop := ∃ (m : Nat) (v : V), s.e t = .p m 0 0 ∧ lo ≤ m ∧ m < hi ∧ s.h m = some ⟨[.v (.bool v.k), .v (.int .i64 v.n)], 0, true, 2⟩
/-- The environment that is turned. -/
def ME (s : St) (ba lo hi mid : Nat) (en : En) : Prop := ∃ m zl, s.e 12 = .p m 0 0 ∧ (ba ≤ m ∧ (m < lo ∨ hi ≤ m)) ∧ m < mid ∧ s.h m = some ⟨[zl, .v (.int .i64 en.each), .v (.int .i64 en.pos)], 0, true, 3⟩ ∧ OwnL ecells 11 s.h lo hi zl en.ls en.ls.length
/-- The program that is turned. -/
def MP (s : St) (lo : Nat) (p : Pr) : Prop := ∃ m w zb, s.e 13 = .p m 0 0 ∧ lo ≤ w ∧ w < m ∧ m < s.n ∧ s.h m = some ⟨[.s w 1 0 p.code.length, zb], 0, true, 2⟩ ∧ s.h w = some ⟨p.code.flatMap icells, 1, true, 5⟩ ∧ OwnL ic 1 s.h (w + 1) m zb p.cols p.cols.length
theorem CR.up {s s' : St} {t lo hi : Nat} (c : CR s t lo hi) (he : s'.e t = s.e t) (ha : agree hi s.h s'.h) : CR s' t lo hi := by
  obtain ⟨m, v, h1, h2, h3, h4⟩ := c
  exact ⟨m, v, he.trans h1, h2, h3, by rw [ha m h3]; exact h4⟩
theorem ME.up {s s' : St} {ba lo hi mid : Nat} {en : En} (c : ME s ba lo hi mid en) (he : s'.e 12 = s.e 12) (ha : agree mid s.h s'.h) (hm : hi ≤ mid) : ME s' ba lo hi mid en := by
  obtain ⟨m, zl, h1, h2, h3, h4, h5⟩ := c
  exact ⟨m, zl, he.trans h1, h2, h3, by rw [ha m h3]; exact h4, h5.congr (fun q _ hq => ha q (by omega)) (Nat.le_refl _)⟩
theorem MP.up {s s' : St} {lo : Nat} {p : Pr} (c : MP s lo p) (he : s'.e 13 = s.e 13) (ha : agree s.n s.h s'.h) (hn : s.n ≤ s'.n) : MP s' lo p := by
  obtain ⟨m, w, zb, h1, h2, h3, h4, h5, h6, h7⟩ := c
  exact ⟨m, w, zb, he.trans h1, h2, h3, by omega, by rw [ha m h4]; exact h5, by rw [ha w (by omega)]; exact h6, h7.congr (fun q _ hq => ha q (by omega)) (Nat.le_refl _)⟩
/-- The second half. -/
structure F4 (h : Heap) (n : Nat) (pa pb la : AV) (en0 : En) (ba lo hi mid : Nat) (p : Pr) (en : En) (s : St) : Prop where
  b : B4 h n pa pb la en0 s
  lo2 : n + 2 ≤ ba ∧ ba ≤ lo
  hi2 : lo ≤ hi
  mi : hi ≤ mid
  s2 : mid ≤ s.n
  v7 : CR s 7 (n + 2) ba
  v9 : CR s 9 (n + 2) ba
  me : ME s ba lo hi mid en
  mp : MP s mid p
  ne : s.e 7 ≠ s.e 9
section
set_option maxRecDepth 100000
set_option maxHeartbeats 4000000
variable {h : Heap} {n : Nat} {pa pb la : AV} {p : Pr} {en : En}
theorem law4e (e3 : rd dPs h pa = some p.code) (e4 : rd dIss h pb = some p.cols) (e5 : rd dEss h la = some en.ls) (w : W4 p en) (hb : beyondV en.ls = false) (hn : Fresh n h) (e : Nat → AV) (h' : Heap) (n' : Nat) (b : B4 h n pa pb la en ⟨e, h', n'⟩) (c : CP ⟨e, h', n'⟩ 5 n p) (d : CE ⟨e, h', n'⟩ 6 n en) (dd : D4 n p en ⟨e, h', n'⟩) {Q : Ex → St → Prop} :
    awp (cx S29 (pfL tbl4)) (hdC 1 (tlC 7 (Tryd.f4.body.getD .skip))) (thenQ (fun s => B4 h n pa pb la en s ∧ CR s 7 (n + 2) s.n ∧ CR s 9 (n + 2) s.n ∧ s.e 7 ≠ s.e 9) Q) ⟨e, h', n'⟩ := by
  have b0 := b
  obtain ⟨q2, q3, h0, h1, ag, fr, nn⟩ := b
  obtain ⟨m5, za, zb, q5, l5, k5, x5, o5⟩ := c
  obtain ⟨m6, zl, q6, l6, k6, x6, o6⟩ := d
  obtain ⟨⟨m7, q7, l7, k7, x7⟩, q8, ⟨m9, q9, l9, k9, x9⟩, q10, q11, hne79⟩ := dd
  simp only [] at q2 q3 h0 h1 ag fr nn q5 k5 x5 o5 q6 k6 x6 o6 q7 k7 x7 q8 q9 k9 x9 q10 q11 hne79
  obtain ⟨r1, r2, r3, r4, r5⟩ := sl_is e5
  obtain ⟨v1, v2, v3, v4, v5⟩ := o6.is
  have p1 := pr_agree hn (dePr_in e3 e4) h' ag
  have hpr := o5.rd
  have hl := o6.rd Flat.ev
  have hen : deEn h' (.g [zl, .v (.int .i64 en.each), .v (.int .i64 en.pos)]) = some en := deEn_in hl
  have g2 : deR h' [.g [za, zb], .g [zl, .v (.int .i64 en.each), .v (.int .i64 en.pos)]] = some (p, en) := by simp only [deR, hpr, hen]
  have g3 : de21 h' [.g [pa, pb], .g [za, zb]] = some (p, p) := by simp only [de21, hpr, p1]
  have g4 : de33 h' [la, zl] = some (en.ls, en.ls) := by
    have := rd_agree hn e5 h' ag
    have h9 : rd dEss h' zl = some en.ls := hl
    simp only [de33, this, h9]
  have hok : okR (p, en) := ⟨w.prok, w.en hb⟩
  obtain ⟨w1, w2⟩ := w.bigs
  obtain ⟨u1, u2, u3⟩ := w.pbig
  have hx1 : (∀ l ∈ en.ls, l.length < big) = True := eq_true w2
  have hx2 : (∀ l ∈ p.cols, l.length < big) = True := eq_true u3
  simp [awp_skip, awp_label, awp_region, awp_seq, awp_if, awp_block, awp_ret, awp_scope, awp_exit, thenQ_n, thenQ_e, thenQ_r, blockQ_n, blockQ_e, blockQ_r, finQ_n, finQ_r, finQ_e, resAll, resVal, resOne, aops_nil, aops_cons, atl_nil, atl_cons, atlAll_nil, atlAll_cons, freeOp, List.filter_cons, List.filter_nil, adraw_eq, adrawA_nil, adrawA_cons, isA, goOp, appNew, mkOp, gev, Region.binds, Heap.le_refl, aop, aeval, gocall, heapOp, quietOp, ev, constAV, setd, yav, ystop, up, env0, cx_ti, cx_G, cx_pf, ti, globS, glob, pfL, lds, ldc, ldcs_1, ldcs_2, ldcs_3, ldcs_4, ldcs_5, ldcs_7, sts, sth, sls.eq_1, slc.eq_1, wr, place, fillOk, fillC, repZ, binI, isDiv, optInt, optI, eksOk, eksEq, EK.ok, EK.eq, AV.i, AV.isI, AV.isInt, AV.b.eq_1, AV.b.eq_2, AV.isB.eq_1, AV.isB.eq_2, AV.str, AV.isStr, unc_same, unc_tt, unc_tf, unc_f, unc_any, unc_v, unc_gp, unc_p, unc_s, unc_g, unc_e, unc_t, unc_fn, unc_okb, unc_bb, unc_isB, unc_b, AV.bb.eq_1, AV.bb.eq_2, AV.okb.eq_1, AV.okb.eq_2, AV.okg.eq_1, AV.okg.eq_2, AV.gd.eq_1, AV.gd.eq_2, AV.cells.eq_1, AV.cells.eq_2, AV.one.eq_1, AV.one.eq_2, AV.one.eq_3, AV.one.eq_4, AV.one.eq_5, AV.one.eq_6, AV.ones, AV.slen.eq_1, AV.slen.eq_2, AV.isS.eq_1, AV.isS.eq_2, AV.isS.eq_3, AV.isPtr, AV.gl, AV.isG, Value.oneCell', Nat.add_assoc, cut_of_le, nat_lt0, nat_le0, hdC, tlC, Tryd.f4, q2, q3, q5, q6, q7, q8, q9, q10, q11, h0, h1, x5, x6, x7, x9, r3, v3, tbl4, G31, G21, G33, pureH, g2, g3, g4, hok, runA, vv, bv, w1, u1, u2]
  have hag := agree_refl n' h'
  refine ⟨u3, w2, b0.up (by simp [up]) (by simp [up]) hag fr (Nat.le_refl _), ⟨m7, (runV p en).1, by simp [up, q7], l7, k7, x7⟩, ⟨m9, (runV p en).1, by simp [up, q9], l9, k9, x9⟩, by simpa [up, q7, q9] using hne79⟩
def MF4 (n : Nat) (en : En) (s : St) : Prop := ∃ ba lo hi, n + 2 ≤ ba ∧ ba ≤ lo ∧ lo ≤ hi ∧ hi ≤ s.n ∧ CR s 7 (n + 2) ba ∧ CR s 9 (n + 2) ba ∧ s.e 7 ≠ s.e 9 ∧ ME s ba lo hi s.n en
/-- The copies that are turned. -/
theorem law4f (e5 : rd dEss h la = some en.ls) (w : W4 p en) (hb : beyondV en.ls = false) (hn : Fresh n h) (e : Nat → AV) (h' : Heap) (n' : Nat) (b : B4 h n pa pb la en ⟨e, h', n'⟩) (c7 : CR ⟨e, h', n'⟩ 7 (n + 2) n') (c9 : CR ⟨e, h', n'⟩ 9 (n + 2) n') (hne : e 7 ≠ e 9) {Q : Ex → St → Prop} :
    awp (cx S29 (pfL tbl4)) (hdC 1 (tlC 8 (Tryd.f4.body.getD .skip))) (thenQ (fun s => B4 h n pa pb la en s ∧ MF4 n en s) Q) ⟨e, h', n'⟩ := by
  have b0 := b
  obtain ⟨q2, q3, h0, h1, ag, fr, nn⟩ := b
  simp only [] at q2 q3 h0 h1 ag fr nn
  have g5 := rd_agree hn e5 h' ag
  have fin : ∀ (e2 : Nat → AV) (h3 : Heap) (n3 m lo hi : Nat) (v : AV), e2 2 = e 2 → e2 3 = e 3 → e2 7 = e 7 → e2 9 = e 9 → e2 12 = .p m 0 0 → agree n' h' h3 → Fresh n3 h3 → n' ≤ n3 → n' ≤ lo → lo ≤ hi → hi ≤ n3 → n' ≤ m → (m < lo ∨ hi ≤ m) → m < n3 → h3 m = some ⟨[v, .v (.int .i64 en.each), .v (.int .i64 en.pos)], 0, true, 3⟩ → OwnL ecells 11 h3 lo hi v en.ls en.ls.length →
      B4 h n pa pb la en ⟨e2, h3, n3⟩ ∧ MF4 n en ⟨e2, h3, n3⟩ := fun e2 h3 n3 m lo hi v k2 k3 k7 k9 k12 ka kf kn k1 k4 k5 k6 k8 k10 kb ko =>
    ⟨b0.up k2 k3 ka kf kn, n', lo, hi, nn, k1, k4, k5, c7.up k7 ka, c9.up k9 ka, (show e2 7 ≠ e2 9 by rw [k7, k9]; exact hne), m, v, k12, ⟨k6, k8⟩, k10, kb, ko⟩
  simp [awp_skip, awp_label, awp_region, awp_seq, awp_if, awp_block, awp_ret, awp_scope, awp_exit, thenQ_n, thenQ_e, thenQ_r, blockQ_n, blockQ_e, blockQ_r, finQ_n, finQ_r, finQ_e, resAll, resVal, resOne, aops_nil, aops_cons, atl_nil, atl_cons, atlAll_nil, atlAll_cons, freeOp, List.filter_cons, List.filter_nil, adraw_eq, adrawA_nil, adrawA_cons, isA, goOp, appNew, mkOp, gev, Region.binds, Heap.le_refl, aop, aeval, gocall, heapOp, quietOp, ev, constAV, setd, yav, ystop, up, env0, cx_ti, cx_G, cx_pf, ti, globS, glob, pfL, lds, ldc, ldcs_1, ldcs_2, ldcs_3, ldcs_4, ldcs_5, ldcs_7, sts, sth, sls.eq_1, slc.eq_1, wr, place, fillOk, fillC, repZ, binI, isDiv, optInt, optI, eksOk, eksEq, EK.ok, EK.eq, AV.i, AV.isI, AV.isInt, AV.b.eq_1, AV.b.eq_2, AV.isB.eq_1, AV.isB.eq_2, AV.str, AV.isStr, unc_same, unc_tt, unc_tf, unc_f, unc_any, unc_v, unc_gp, unc_p, unc_s, unc_g, unc_e, unc_t, unc_fn, unc_okb, unc_bb, unc_isB, unc_b, AV.bb.eq_1, AV.bb.eq_2, AV.okb.eq_1, AV.okb.eq_2, AV.okg.eq_1, AV.okg.eq_2, AV.gd.eq_1, AV.gd.eq_2, AV.cells.eq_1, AV.cells.eq_2, AV.one.eq_1, AV.one.eq_2, AV.one.eq_3, AV.one.eq_4, AV.one.eq_5, AV.one.eq_6, AV.ones, AV.slen.eq_1, AV.slen.eq_2, AV.isS.eq_1, AV.isS.eq_2, AV.isS.eq_3, AV.isPtr, AV.gl, AV.isG, Value.oneCell', Nat.add_assoc, cut_of_le, nat_lt0, nat_le0, hdC, tlC, Tryd.f4, q3, h1, tbl4]
  refine ⟨?_, ?_⟩
  · refine (acall_any (S := []) (by simp) (c28 g5 (beyond_len hb) w.lsl fr)).mono ?_
    rintro v h2 n2 ⟨a1, a2, a3, a4⟩
    obtain ⟨v1, v2, v3, v4, v5⟩ := a4.is
    refine ⟨agr_le fr a1, ?_⟩
    simp [awp_skip, awp_label, awp_region, awp_seq, awp_if, awp_block, awp_ret, awp_scope, awp_exit, thenQ_n, thenQ_e, thenQ_r, blockQ_n, blockQ_e, blockQ_r, finQ_n, finQ_r, finQ_e, resAll, resVal, resOne, aops_nil, aops_cons, atl_nil, atl_cons, atlAll_nil, atlAll_cons, freeOp, List.filter_cons, List.filter_nil, adraw_eq, adrawA_nil, adrawA_cons, isA, goOp, appNew, mkOp, gev, Region.binds, Heap.le_refl, aop, aeval, gocall, heapOp, quietOp, ev, constAV, setd, yav, ystop, up, env0, cx_ti, cx_G, cx_pf, ti, globS, glob, pfL, lds, ldc, ldcs_1, ldcs_2, ldcs_3, ldcs_4, ldcs_5, ldcs_7, sts, sth, sls.eq_1, slc.eq_1, wr, place, fillOk, fillC, repZ, binI, isDiv, optInt, optI, eksOk, eksEq, EK.ok, EK.eq, AV.i, AV.isI, AV.isInt, AV.b.eq_1, AV.b.eq_2, AV.isB.eq_1, AV.isB.eq_2, AV.str, AV.isStr, unc_same, unc_tt, unc_tf, unc_f, unc_any, unc_v, unc_gp, unc_p, unc_s, unc_g, unc_e, unc_t, unc_fn, unc_okb, unc_bb, unc_isB, unc_b, AV.bb.eq_1, AV.bb.eq_2, AV.okb.eq_1, AV.okb.eq_2, AV.okg.eq_1, AV.okg.eq_2, AV.gd.eq_1, AV.gd.eq_2, AV.cells.eq_1, AV.cells.eq_2, AV.one.eq_1, AV.one.eq_2, AV.one.eq_3, AV.one.eq_4, AV.one.eq_5, AV.one.eq_6, AV.ones, AV.slen.eq_1, AV.slen.eq_2, AV.isS.eq_1, AV.isS.eq_2, AV.isS.eq_3, AV.isPtr, AV.gl, AV.isG, Value.oneCell', Nat.add_assoc, cut_of_le, nat_lt0, nat_le0, v4, v5]
    have ho : ∀ b1 b2 : Option Blk, OwnL ecells 11 (up (up h2 n2 b1) n2 b2) n' n2 v en.ls en.ls.length := fun b1 b2 => a4.congr (fun q h1 h2 => by rw [up_ne _ _ (by omega), up_ne _ _ (by omega)]) (by omega)
    have hf2 : ∀ b1 b2 : Option Blk, Fresh (n2 + 2) (up (up h2 n2 b1) n2 b2) := fun b1 b2 => by simp [fresh_up, a2.add]
    have hg2 : ∀ b1 b2 : Option Blk, agree n' h' (up (up h2 n2 b1) n2 b2) := fun b1 b2 => by simp [agree_up, a1, a3]
    exact ⟨fin _ _ _ n2 n' n2 v (by simp [up]) (by simp [up]) (by simp [up]) (by simp [up]) (by simp [up]) (hg2 _ _) (hf2 _ _) (by omega) (by omega) (by omega) (by omega) (by omega) (by omega) (by omega) (by simp [up]) (ho _ _), fin _ _ _ n2 n' n2 v (by simp [up]) (by simp [up]) (by simp [up]) (by simp [up]) (by simp [up]) (hg2 _ _) (hf2 _ _) (by omega) (by omega) (by omega) (by omega) (by omega) (by omega) (by omega) (by simp [up]) (ho _ _)⟩
  · have frA : ∀ b, Fresh (n' + 1) (up h' n' b) := fun b => (fresh_up (by omega) b).2 (fr.add 1)
    have agA : ∀ b, agree n (roH h) (up h' n' b) := fun b => (agree_up (by omega) b).2 ag
    refine (acall_any (S := []) (by simp) (c28 (rd_agree hn e5 _ (agA _)) (beyond_len hb) w.lsl (frA _))).mono ?_
    rintro v h2 n2 ⟨a1, a2, a3, a4⟩
    obtain ⟨v1, v2, v3, v4, v5⟩ := a4.is
    refine ⟨agr_le (frA _) a1, ?_⟩
    have hx : h2 n' = some ⟨[.v (.slice none 0 0), .v (.int .i64 0), .v (.int .i64 0)], 0, true, 3⟩ := by rw [a1 n' (by omega), up_same]
    simp [awp_skip, awp_label, awp_region, awp_seq, awp_if, awp_block, awp_ret, awp_scope, awp_exit, thenQ_n, thenQ_e, thenQ_r, blockQ_n, blockQ_e, blockQ_r, finQ_n, finQ_r, finQ_e, resAll, resVal, resOne, aops_nil, aops_cons, atl_nil, atl_cons, atlAll_nil, atlAll_cons, freeOp, List.filter_cons, List.filter_nil, adraw_eq, adrawA_nil, adrawA_cons, isA, goOp, appNew, mkOp, gev, Region.binds, Heap.le_refl, aop, aeval, gocall, heapOp, quietOp, ev, constAV, setd, yav, ystop, up, env0, cx_ti, cx_G, cx_pf, ti, globS, glob, pfL, lds, ldc, ldcs_1, ldcs_2, ldcs_3, ldcs_4, ldcs_5, ldcs_7, sts, sth, sls.eq_1, slc.eq_1, wr, place, fillOk, fillC, repZ, binI, isDiv, optInt, optI, eksOk, eksEq, EK.ok, EK.eq, AV.i, AV.isI, AV.isInt, AV.b.eq_1, AV.b.eq_2, AV.isB.eq_1, AV.isB.eq_2, AV.str, AV.isStr, unc_same, unc_tt, unc_tf, unc_f, unc_any, unc_v, unc_gp, unc_p, unc_s, unc_g, unc_e, unc_t, unc_fn, unc_okb, unc_bb, unc_isB, unc_b, AV.bb.eq_1, AV.bb.eq_2, AV.okb.eq_1, AV.okb.eq_2, AV.okg.eq_1, AV.okg.eq_2, AV.gd.eq_1, AV.gd.eq_2, AV.cells.eq_1, AV.cells.eq_2, AV.one.eq_1, AV.one.eq_2, AV.one.eq_3, AV.one.eq_4, AV.one.eq_5, AV.one.eq_6, AV.ones, AV.slen.eq_1, AV.slen.eq_2, AV.isS.eq_1, AV.isS.eq_2, AV.isS.eq_3, AV.isPtr, AV.gl, AV.isG, Value.oneCell', Nat.add_assoc, cut_of_le, nat_lt0, nat_le0, v4, v5, hx]
    have ho : ∀ b1 : Option Blk, OwnL ecells 11 (up h2 n' b1) (n' + 1) n2 v en.ls en.ls.length := fun b1 => a4.congr (fun q h1 h2 => by rw [up_ne _ _ (by omega)]) (by omega)
    have hf2 : ∀ b1 : Option Blk, Fresh (n2 + 1) (up h2 n' b1) := fun b1 => (fresh_up (by omega) b1).2 (a2.add 1)
    have hg2 : ∀ b1 : Option Blk, agree n' h' (up h2 n' b1) := fun b1 j hj => by rw [up_ne _ _ (by omega), a1 j (by omega), up_ne _ _ (by omega)]
    exact fin _ _ _ n' (n' + 1) n2 v (by simp [up]) (by simp [up]) (by simp [up]) (by simp [up]) (by simp [up]) (hg2 _) (hf2 _) (by omega) (by omega) (by omega) (by omega) (by omega) (by omega) (by omega) (by simp [up]) (ho _)
theorem law4f2 (e3 : rd dPs h pa = some p.code) (e4 : rd dIss h pb = some p.cols) (w : W4 p en) (hn : Fresh n h) (e : Nat → AV) (h' : Heap) (n' : Nat) (b : B4 h n pa pb la en ⟨e, h', n'⟩) (f : MF4 n en ⟨e, h', n'⟩) {Q : Ex → St → Prop} :
    awp (cx S29 (pfL tbl4)) (hdC 1 (tlC 9 (Tryd.f4.body.getD .skip))) (thenQ (fun s => ∃ ba lo hi mid, F4 h n pa pb la en ba lo hi mid p en s) Q) ⟨e, h', n'⟩ := by
  obtain ⟨ba, lo, hi, i1, i2, i3, i4, c7, c9, hne, me⟩ := f
  simp only [] at i4 hne me
  have b0 := b
  obtain ⟨q2, q3, h0, h1, ag, fr, nn⟩ := b
  simp only [] at q2 q3 h0 h1 ag fr nn
  simp [awp_skip, awp_label, awp_region, awp_seq, awp_if, awp_block, awp_ret, awp_scope, awp_exit, thenQ_n, thenQ_e, thenQ_r, blockQ_n, blockQ_e, blockQ_r, finQ_n, finQ_r, finQ_e, resAll, resVal, resOne, aops_nil, aops_cons, atl_nil, atl_cons, atlAll_nil, atlAll_cons, freeOp, List.filter_cons, List.filter_nil, adraw_eq, adrawA_nil, adrawA_cons, isA, goOp, appNew, mkOp, gev, Region.binds, Heap.le_refl, aop, aeval, gocall, heapOp, quietOp, ev, constAV, setd, yav, ystop, up, env0, cx_ti, cx_G, cx_pf, ti, globS, glob, pfL, lds, ldc, ldcs_1, ldcs_2, ldcs_3, ldcs_4, ldcs_5, ldcs_7, sts, sth, sls.eq_1, slc.eq_1, wr, place, fillOk, fillC, repZ, binI, isDiv, optInt, optI, eksOk, eksEq, EK.ok, EK.eq, AV.i, AV.isI, AV.isInt, AV.b.eq_1, AV.b.eq_2, AV.isB.eq_1, AV.isB.eq_2, AV.str, AV.isStr, unc_same, unc_tt, unc_tf, unc_f, unc_any, unc_v, unc_gp, unc_p, unc_s, unc_g, unc_e, unc_t, unc_fn, unc_okb, unc_bb, unc_isB, unc_b, AV.bb.eq_1, AV.bb.eq_2, AV.okb.eq_1, AV.okb.eq_2, AV.okg.eq_1, AV.okg.eq_2, AV.gd.eq_1, AV.gd.eq_2, AV.cells.eq_1, AV.cells.eq_2, AV.one.eq_1, AV.one.eq_2, AV.one.eq_3, AV.one.eq_4, AV.one.eq_5, AV.one.eq_6, AV.ones, AV.slen.eq_1, AV.slen.eq_2, AV.isS.eq_1, AV.isS.eq_2, AV.isS.eq_3, AV.isPtr, AV.gl, AV.isG, Value.oneCell', Nat.add_assoc, cut_of_le, nat_lt0, nat_le0, hdC, tlC, Tryd.f4, q2, h0, tbl4]
  refine (acall_any (S := []) (by simp) (c25 (dePr_in (rd_agree hn e3 h' ag) (rd_agree hn e4 h' ag)) w.prsm fr)).mono ?_
  rintro v h3 n3 ⟨d1, d2, d3, d4⟩
  obtain ⟨w', zb, rfl, o2, o3, o4, o5⟩ := d4
  obtain ⟨y1, y2, y3, y4, y5⟩ := o5.is
  simp [awp_skip, awp_label, awp_region, awp_seq, awp_if, awp_block, awp_ret, awp_scope, awp_exit, thenQ_n, thenQ_e, thenQ_r, blockQ_n, blockQ_e, blockQ_r, finQ_n, finQ_r, finQ_e, resAll, resVal, resOne, aops_nil, aops_cons, atl_nil, atl_cons, atlAll_nil, atlAll_cons, freeOp, List.filter_cons, List.filter_nil, adraw_eq, adrawA_nil, adrawA_cons, isA, goOp, appNew, mkOp, gev, Region.binds, Heap.le_refl, aop, aeval, gocall, heapOp, quietOp, ev, constAV, setd, yav, ystop, up, env0, cx_ti, cx_G, cx_pf, ti, globS, glob, pfL, lds, ldc, ldcs_1, ldcs_2, ldcs_3, ldcs_4, ldcs_5, ldcs_7, sts, sth, sls.eq_1, slc.eq_1, wr, place, fillOk, fillC, repZ, binI, isDiv, optInt, optI, eksOk, eksEq, EK.ok, EK.eq, AV.i, AV.isI, AV.isInt, AV.b.eq_1, AV.b.eq_2, AV.isB.eq_1, AV.isB.eq_2, AV.str, AV.isStr, unc_same, unc_tt, unc_tf, unc_f, unc_any, unc_v, unc_gp, unc_p, unc_s, unc_g, unc_e, unc_t, unc_fn, unc_okb, unc_bb, unc_isB, unc_b, AV.bb.eq_1, AV.bb.eq_2, AV.okb.eq_1, AV.okb.eq_2, AV.okg.eq_1, AV.okg.eq_2, AV.gd.eq_1, AV.gd.eq_2, AV.cells.eq_1, AV.cells.eq_2, AV.one.eq_1, AV.one.eq_2, AV.one.eq_3, AV.one.eq_4, AV.one.eq_5, AV.one.eq_6, AV.ones, AV.slen.eq_1, AV.slen.eq_2, AV.isS.eq_1, AV.isS.eq_2, AV.isS.eq_3, AV.isPtr, AV.gl, AV.isG, Value.oneCell', Nat.add_assoc, cut_of_le, nat_lt0, nat_le0, y4]
  have hg3 : agree n' h' (up (up h3 n3 (some ⟨[.v (.slice none 0 0), .v (.slice none 0 0)], 0, true, 2⟩)) n3 (some ⟨[.s w' 1 0 p.code.length, zb], 0, true, 2⟩)) := by simp [agree_up, d1, d3]
  have hgb : agree ba h' (up (up h3 n3 (some ⟨[.v (.slice none 0 0), .v (.slice none 0 0)], 0, true, 2⟩)) n3 (some ⟨[.s w' 1 0 p.code.length, zb], 0, true, 2⟩)) := fun j hj => hg3 j (by omega)
  refine ⟨ba, lo, hi, n', b0.up (by simp [up]) (by simp [up]) hg3 (by simp [fresh_up, d2.add]) (by simp only []; omega), ⟨i1, i2⟩, i3, i4, by simp only []; omega, c7.up (by simp [up]) hgb, c9.up (by simp [up]) hgb, me.up (by simp [up]) hg3 i4, ⟨n3, w', zb, by simp [up], by omega, by omega, by simp only []; omega, by simp [up], ?_, ?_⟩, by simpa [up] using hne⟩
  · simp only []
    rw [up_ne _ _ (by omega), up_ne _ _ (by omega)]
    exact o2
  · refine o5.congr (fun q h1 h2 => ?_) (Nat.le_refl _)
    simp only []
    rw [up_ne _ _ (by omega), up_ne _ _ (by omega)]
theorem OwnP.of {h : Heap} {w m : Nat} {zb : AV} {p : Pr} (h1 : w < m) (h2 : h w = some ⟨p.code.flatMap icells, 1, true, 5⟩) (h3 : OwnL ic 1 h (w + 1) m zb p.cols p.cols.length) : OwnP h w m (.g [.s w 1 0 p.code.length, zb]) p := ⟨w, zb, rfl, h2, Nat.le_refl _, h1, h3⟩
theorem F4.up {ba lo hi mid : Nat} {en0 : En} {s s' : St} (f : F4 h n pa pb la en0 ba lo hi mid p en s) (h2 : s'.e 2 = s.e 2) (h3 : s'.e 3 = s.e 3) (h7 : s'.e 7 = s.e 7) (h9 : s'.e 9 = s.e 9) (h12 : s'.e 12 = s.e 12) (h13 : s'.e 13 = s.e 13) (ha : agree s.n s.h s'.h) (hf : Fresh s'.n s'.h) (hn : s.n ≤ s'.n) : F4 h n pa pb la en0 ba lo hi mid p en s' := by
  obtain ⟨b, l2, i2, mi, s2, v7, v9, me, mp, ne⟩ := f
  have hal : agree ba s.h s'.h := fun j hj => ha j (by omega)
  exact ⟨b.up h2 h3 ha hf hn, l2, i2, mi, by omega, v7.up h7 hal, v9.up h9 hal, me.up h12 (fun j hj => ha j (by omega)) mi, mp.up h13 ha hn, by rw [h7, h9]; exact ne⟩
/-- The machines run once more; the events are turned. -/
theorem law4g {en0 : En} {ba lo hi mid : Nat} (w : W4 p en) (hb : beyondV en.ls = false) (e : Nat → AV) (h' : Heap) (n' : Nat) (f : F4 h n pa pb la en0 ba lo hi mid p en ⟨e, h', n'⟩) {Q : Ex → St → Prop} :
    awp (cx S29 (pfL tbl4)) (hdC 3 (tlC 10 (Tryd.f4.body.getD .skip))) (thenQ (F4 h n pa pb la en0 ba lo hi mid p { en with ls := flipLL en.ls }) Q) ⟨e, h', n'⟩ := by
  have f0 := f
  obtain ⟨⟨q2, q3, h0, h1, ag, fr, nn⟩, l2, i2, mi, s2, v7, v9, ⟨m2, zl, q12, k12, l12, x12, o12⟩, ⟨m3, w3, zb, q13, k13, l13, j13, x13, y13, o13⟩, hne79⟩ := f
  simp only [] at q2 q3 h0 h1 ag fr nn s2 q12 l12 x12 o12 q13 j13 x13 y13 o13
  have hpr := (OwnP.of l13 y13 o13).rd
  have hen : deEn h' (.g [zl, .v (.int .i64 en.each), .v (.int .i64 en.pos)]) = some en := deEn_in (o12.rd Flat.ev)
  have g2 : deR h' [.g [.s w3 1 0 p.code.length, zb], .g [zl, .v (.int .i64 en.each), .v (.int .i64 en.pos)]] = some (p, en) := by simp only [deR, hpr, hen]
  have hok : okR (p, en) := ⟨w.prok, w.en hb⟩
  simp [awp_skip, awp_label, awp_region, awp_seq, awp_if, awp_block, awp_ret, awp_scope, awp_exit, thenQ_n, thenQ_e, thenQ_r, blockQ_n, blockQ_e, blockQ_r, finQ_n, finQ_r, finQ_e, resAll, resVal, resOne, aops_nil, aops_cons, atl_nil, atl_cons, atlAll_nil, atlAll_cons, freeOp, List.filter_cons, List.filter_nil, adraw_eq, adrawA_nil, adrawA_cons, isA, goOp, appNew, mkOp, gev, Region.binds, Heap.le_refl, aop, aeval, gocall, heapOp, quietOp, ev, constAV, setd, yav, ystop, up, env0, cx_ti, cx_G, cx_pf, ti, globS, glob, pfL, lds, ldc, ldcs_1, ldcs_2, ldcs_3, ldcs_4, ldcs_5, ldcs_7, sts, sth, sls.eq_1, slc.eq_1, wr, place, fillOk, fillC, repZ, binI, isDiv, optInt, optI, eksOk, eksEq, EK.ok, EK.eq, AV.i, AV.isI, AV.isInt, AV.b.eq_1, AV.b.eq_2, AV.isB.eq_1, AV.isB.eq_2, AV.str, AV.isStr, unc_same, unc_tt, unc_tf, unc_f, unc_any, unc_v, unc_gp, unc_p, unc_s, unc_g, unc_e, unc_t, unc_fn, unc_okb, unc_bb, unc_isB, unc_b, AV.bb.eq_1, AV.bb.eq_2, AV.okb.eq_1, AV.okb.eq_2, AV.okg.eq_1, AV.okg.eq_2, AV.gd.eq_1, AV.gd.eq_2, AV.cells.eq_1, AV.cells.eq_2, AV.one.eq_1, AV.one.eq_2, AV.one.eq_3, AV.one.eq_4, AV.one.eq_5, AV.one.eq_6, AV.ones, AV.slen.eq_1, AV.slen.eq_2, AV.isS.eq_1, AV.isS.eq_2, AV.isS.eq_3, AV.isPtr, AV.gl, AV.isG, Value.oneCell', Nat.add_assoc, cut_of_le, nat_lt0, nat_le0, hdC, tlC, Tryd.f4, q12, q13, x12, x13, tbl4, G29, G31, pureH, g2, hok]
  refine (acall_any (S := []) (by simp) (c34 o12 (beyond_len hb) w.lsl (by omega) fr)).mono ?_
  rintro v h2 n2 ⟨a1, a2, a3, a4⟩
  obtain ⟨⟨_, _, _, _, _, _, _⟩, _, _, _, _, ⟨m7, u7, q7, k7, l7, x7⟩, ⟨m9, u9, q9, k9, l9, x9⟩, _, _, _⟩ := f0
  simp only [] at q7 x7 q9 x9
  refine ⟨⟨by simp [up, q2], by simp [up, q3], (a1 n (by omega)).trans (h0), (a1 (n + 1) (by omega)).trans (h1), fun j hj => (a1 j (by omega)).trans (ag j hj), a2, by simp only []; omega⟩, l2, i2, mi, by simp only []; omega, ⟨m7, u7, by simp [up, q7], k7, l7, (a1 m7 (by omega)).trans (x7)⟩, ⟨m9, u9, by simp [up, q9], k9, l9, (a1 m9 (by omega)).trans (x9)⟩, ⟨m2, zl, by simp [up, q12], k12, l12, (a1 m2 (by omega)).trans (x12), a4⟩, ⟨m3, w3, zb, by simp [up, q13], k13, l13, by simp only []; omega, (a1 m3 (by omega)).trans (x13), (a1 w3 (by omega)).trans (y13), o13.congr (fun q h1 h2 => a1 q (by omega)) (Nat.le_refl _)⟩, by simpa [up] using hne79⟩
def x1 (x : Int) : Int := IntKind.i64.wrap (((x % 2 ^ IntKind.i64.bits).toNat ^^^ 1 % 2 ^ IntKind.i64.bits : Nat) : Int)
def turnI (i : Ins) : Ins := { i with n := x1 i.n }
def turnP (p : Pr) : Pr := { p with code := p.code.map turnI }
def cellsI (l : List Ins) (j : Nat) : List AV := ((l.take j).map turnI).flatMap icells ++ (l.drop j).flatMap icells
theorem cellsI_0 (l : List Ins) : cellsI l 0 = l.flatMap icells := by simp [cellsI]
theorem cellsI_all (l : List Ins) : cellsI l l.length = (l.map turnI).flatMap icells := by simp [cellsI]
theorem cellsI_at {l : List Ins} {j : Nat} (h : j < l.length) : cellsI l j = ((l.take j).map turnI).flatMap icells ++ (icells l[j] ++ (l.drop (j + 1)).flatMap icells) := by
  unfold cellsI
  rw [List.drop_eq_getElem_cons h, List.flatMap_cons]
theorem cellsI_succ {l : List Ins} {j : Nat} (h : j < l.length) : cellsI l (j + 1) = ((l.take j).map turnI).flatMap icells ++ (icells (turnI l[j]) ++ (l.drop (j + 1)).flatMap icells) := by
  unfold cellsI
  rw [List.take_add_one, List.getElem?_eq_getElem h, List.map_append, List.flatMap_append, List.append_assoc]
  simp
theorem preI_len {l : List Ins} {j : Nat} (h : j < l.length) : (((l.take j).map turnI).flatMap icells).length = j * 5 := by
  rw [flat_len Flat.ins, List.length_map, List.length_take]
  congr 1
  omega
theorem ins_get (A B : List AV) {o : Nat} (ho : A.length = o) (i : Ins) : (A ++ (icells i ++ B))[o + 3]? = some (ii i.n) := by
  subst ho
  rw [List.getElem?_append_right (by omega), show A.length + 3 - A.length = 3 by omega]
  rfl
theorem ins_set (A B : List AV) {o : Nat} (ho : A.length = o) (i : Ins) : (A ++ (icells i ++ B)).set (o + 3) (ii (x1 i.n)) = A ++ (icells (turnI i) ++ B) := by
  subst ho
  rw [List.set_append_right _ _ (by omega), show A.length + 3 - A.length = 3 by omega]
  rfl
/-- The instructions are turned. -/
theorem law4h {en0 : En} {ba lo hi mid : Nat} (w : W4 p en) (e : Nat → AV) (h' : Heap) (n' : Nat) (f : F4 h n pa pb la en0 ba lo hi mid p en ⟨e, h', n'⟩) {Q : Ex → St → Prop} :
    awp (cx S29 (pfL tbl4)) (hdC 1 (tlC 13 (Tryd.f4.body.getD .skip))) (thenQ (F4 h n pa pb la en0 ba lo hi mid (turnP p) en) Q) ⟨e, h', n'⟩ := by
  obtain ⟨⟨q2, q3, h0, h1, ag, fr, nn⟩, l2, i2, mi, s2, ⟨m7, u7, q7, k7, l7, x7⟩, ⟨m9, u9, q9, k9, l9, x9⟩, ⟨m2, zl, q12, k12, l12, x12, o12⟩, ⟨m3, w3, zb, q13, k13, l13, j13, x13, y13, o13⟩, hne79⟩ := f
  simp only [] at q2 q3 h0 h1 ag fr nn s2 q7 x7 q9 x9 q12 l12 x12 o12 q13 j13 x13 y13 o13
  obtain ⟨v1, v2, v3, v4, v5⟩ := o13.is
  simp [awp_skip, awp_label, awp_region, awp_seq, awp_if, awp_block, awp_ret, awp_scope, awp_exit, thenQ_n, thenQ_e, thenQ_r, blockQ_n, blockQ_e, blockQ_r, finQ_n, finQ_r, finQ_e, resAll, resVal, resOne, aops_nil, aops_cons, atl_nil, atl_cons, atlAll_nil, atlAll_cons, freeOp, List.filter_cons, List.filter_nil, adraw_eq, adrawA_nil, adrawA_cons, isA, goOp, appNew, mkOp, gev, Region.binds, Heap.le_refl, aop, aeval, gocall, heapOp, quietOp, ev, constAV, setd, yav, ystop, up, env0, cx_ti, cx_G, cx_pf, ti, globS, glob, pfL, lds, ldc, ldcs_1, ldcs_2, ldcs_3, ldcs_4, ldcs_5, ldcs_7, sts, sth, sls.eq_1, slc.eq_1, wr, place, fillOk, fillC, repZ, binI, isDiv, optInt, optI, eksOk, eksEq, EK.ok, EK.eq, AV.i, AV.isI, AV.isInt, AV.b.eq_1, AV.b.eq_2, AV.isB.eq_1, AV.isB.eq_2, AV.str, AV.isStr, unc_same, unc_tt, unc_tf, unc_f, unc_any, unc_v, unc_gp, unc_p, unc_s, unc_g, unc_e, unc_t, unc_fn, unc_okb, unc_bb, unc_isB, unc_b, AV.bb.eq_1, AV.bb.eq_2, AV.okb.eq_1, AV.okb.eq_2, AV.okg.eq_1, AV.okg.eq_2, AV.gd.eq_1, AV.gd.eq_2, AV.cells.eq_1, AV.cells.eq_2, AV.one.eq_1, AV.one.eq_2, AV.one.eq_3, AV.one.eq_4, AV.one.eq_5, AV.one.eq_6, AV.ones, AV.slen.eq_1, AV.slen.eq_2, AV.isS.eq_1, AV.isS.eq_2, AV.isS.eq_3, AV.isPtr, AV.gl, AV.isG, Value.oneCell', Nat.add_assoc, cut_of_le, nat_lt0, nat_le0, hdC, tlC, Tryd.f4]
  refine awp_loop (fun s => ∃ j, j ≤ p.code.length ∧ s.e 2 = e 2 ∧ s.e 3 = e 3 ∧ s.e 7 = e 7 ∧ s.e 9 = e 9 ∧ s.e 12 = e 12 ∧ s.e 13 = e 13 ∧ s.e 14 = ii j ∧ s.h = up h' w3 (some ⟨cellsI p.code j, 1, true, 5⟩) ∧ n' ≤ s.n) (fun s => p.code.length - (s.e 14).i.toNat) ⟨0, by simp [up, ii, cellsI_0, up_self y13]⟩ ?_
  rintro e1 hx n1 ⟨j, hj, e2, e3, e7, e9, e12, e13, e14, hh, hn1⟩
  simp only [] at e2 e3 e7 e9 e12 e13 e14 hh hn1
  subst hh
  rw [q13] at e13
  have z0 : ¬ m3 = w3 := by omega
  by_cases hlt : j < p.code.length
  · have hcj := cellsI_at hlt
    have hcs := cellsI_succ hlt
    have hpl := preI_len hlt
    rw [hcj]
    generalize ((p.code.take j).map turnI).flatMap icells = A at *
    generalize (p.code.drop (j + 1)).flatMap icells = B at *
    generalize p.code[j] = i1 at *
    have hget := ins_get A B hpl i1
    have hset := ins_set A B hpl i1
    have hlen : (A ++ (icells i1 ++ B)).length = j * 5 + (5 + B.length) := by simp [icells, hpl]; omega
    have hpc := w.prsm.code
    have hw := wrap_nat (j := j) (by unfold big; omega)
    have hb8 : j * 5 + (3 + 1) ≤ j * 5 + (5 + B.length) := by omega
    generalize A ++ (icells i1 ++ B) = cs at *
    have hgl2 : j * 5 + 3 < cs.length := by omega
    have hget' : cs[j * 5 + 3] = ii i1.n := (List.getElem?_eq_some_iff.1 hget).2
    simp [awp_skip, awp_label, awp_region, awp_seq, awp_if, awp_block, awp_ret, awp_scope, awp_exit, thenQ_n, thenQ_e, thenQ_r, blockQ_n, blockQ_e, blockQ_r, finQ_n, finQ_r, finQ_e, resAll, resVal, resOne, aops_nil, aops_cons, atl_nil, atl_cons, atlAll_nil, atlAll_cons, freeOp, List.filter_cons, List.filter_nil, adraw_eq, adrawA_nil, adrawA_cons, isA, goOp, appNew, mkOp, gev, Region.binds, Heap.le_refl, aop, aeval, gocall, heapOp, quietOp, ev, constAV, setd, yav, ystop, up, env0, cx_ti, cx_G, cx_pf, ti, globS, glob, pfL, lds, ldc, ldcs_1, ldcs_2, ldcs_3, ldcs_4, ldcs_5, ldcs_7, sts, sth, sls.eq_1, slc.eq_1, wr, place, fillOk, fillC, repZ, binI, isDiv, optInt, optI, eksOk, eksEq, EK.ok, EK.eq, AV.i, AV.isI, AV.isInt, AV.b.eq_1, AV.b.eq_2, AV.isB.eq_1, AV.isB.eq_2, AV.str, AV.isStr, unc_same, unc_tt, unc_tf, unc_f, unc_any, unc_v, unc_gp, unc_p, unc_s, unc_g, unc_e, unc_t, unc_fn, unc_okb, unc_bb, unc_isB, unc_b, AV.bb.eq_1, AV.bb.eq_2, AV.okb.eq_1, AV.okb.eq_2, AV.okg.eq_1, AV.okg.eq_2, AV.gd.eq_1, AV.gd.eq_2, AV.cells.eq_1, AV.cells.eq_2, AV.one.eq_1, AV.one.eq_2, AV.one.eq_3, AV.one.eq_4, AV.one.eq_5, AV.one.eq_6, AV.ones, AV.slen.eq_1, AV.slen.eq_2, AV.isS.eq_1, AV.isS.eq_2, AV.isS.eq_3, AV.isPtr, AV.gl, AV.isG, Value.oneCell', Nat.add_assoc, cut_of_le, nat_lt0, nat_le0, e13, e14, ii, hlt, x13, z0, hget, hget', hlen, hb8, hw]
    exact ⟨⟨j + 1, by omega, e2, e3, e7, e9, e12, q13.symm, by omega, by rw [up_up, hcs, ← hset]; rfl, by omega⟩, by omega⟩
  · have hje : j = p.code.length := by omega
    subst hje
    simp [awp_skip, awp_label, awp_region, awp_seq, awp_if, awp_block, awp_ret, awp_scope, awp_exit, thenQ_n, thenQ_e, thenQ_r, blockQ_n, blockQ_e, blockQ_r, finQ_n, finQ_r, finQ_e, resAll, resVal, resOne, aops_nil, aops_cons, atl_nil, atl_cons, atlAll_nil, atlAll_cons, freeOp, List.filter_cons, List.filter_nil, adraw_eq, adrawA_nil, adrawA_cons, isA, goOp, appNew, mkOp, gev, Region.binds, Heap.le_refl, aop, aeval, gocall, heapOp, quietOp, ev, constAV, setd, yav, ystop, up, env0, cx_ti, cx_G, cx_pf, ti, globS, glob, pfL, lds, ldc, ldcs_1, ldcs_2, ldcs_3, ldcs_4, ldcs_5, ldcs_7, sts, sth, sls.eq_1, slc.eq_1, wr, place, fillOk, fillC, repZ, binI, isDiv, optInt, optI, eksOk, eksEq, EK.ok, EK.eq, AV.i, AV.isI, AV.isInt, AV.b.eq_1, AV.b.eq_2, AV.isB.eq_1, AV.isB.eq_2, AV.str, AV.isStr, unc_same, unc_tt, unc_tf, unc_f, unc_any, unc_v, unc_gp, unc_p, unc_s, unc_g, unc_e, unc_t, unc_fn, unc_okb, unc_bb, unc_isB, unc_b, AV.bb.eq_1, AV.bb.eq_2, AV.okb.eq_1, AV.okb.eq_2, AV.okg.eq_1, AV.okg.eq_2, AV.gd.eq_1, AV.gd.eq_2, AV.cells.eq_1, AV.cells.eq_2, AV.one.eq_1, AV.one.eq_2, AV.one.eq_3, AV.one.eq_4, AV.one.eq_5, AV.one.eq_6, AV.ones, AV.slen.eq_1, AV.slen.eq_2, AV.isS.eq_1, AV.isS.eq_2, AV.isS.eq_3, AV.isPtr, AV.gl, AV.isG, Value.oneCell', Nat.add_assoc, cut_of_le, nat_lt0, nat_le0, e13, e14, ii, x13, z0]
    have hcl : cellsI p.code p.code.length = (turnP p).code.flatMap icells := cellsI_all p.code
    have hln : (turnP p).code.length = p.code.length := by simp [turnP]
    have hfr := (fresh_up (n := n1) (h := h') (i := w3) (by omega) (some ⟨cellsI p.code p.code.length, 1, true, 5⟩)).2 (fr.mono hn1)
    have hne : ∀ q, q ≠ w3 → up h' w3 (some ⟨cellsI p.code p.code.length, 1, true, 5⟩) q = h' q := fun q hq => up_ne _ _ hq
    refine ⟨⟨by simp [up, e2, q2], by simp [up, e3, q3], (hne n (by omega)).trans h0, (hne (n + 1) (by omega)).trans h1, fun j hj => (hne j (by omega)).trans (ag j hj), hfr, by simp only []; omega⟩, l2, i2, mi, by simp only []; omega, ⟨m7, u7, by simp [up, e7, q7], k7, l7, (hne m7 (by omega)).trans x7⟩, ⟨m9, u9, by simp [up, e9, q9], k9, l9, (hne m9 (by omega)).trans x9⟩, ⟨m2, zl, by simp [up, e12, q12], k12, l12, (hne m2 (by omega)).trans x12, o12.congr (fun q h1 h2 => hne q (by omega)) (Nat.le_refl _)⟩, ⟨m3, w3, zb, by simp [up, e13], k13, l13, by simp only []; omega, ?_, ?_, o13.congr (fun q h1 h2 => hne q (by omega)) (Nat.le_refl _)⟩, by simp only []; simp [up, e7, e9]; exact hne79⟩
    · rw [hln]; exact (hne m3 (by omega)).trans x13
    · simp only [up_same, hcl]
end
end Go.Proofs.YtkfphaphiikloaaDoor
