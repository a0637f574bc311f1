/-
  CodeEvery: the law's own code.
-/
import Derived.Test.YtkfphaphiikloaaDoorL4c
import Derived.Test.YtkfphaphiikloaaDoorCv
set_option linter.unusedSimpArgs false
set_option linter.unusedVariables false
set_option linter.constructorNameAsVariable false
set_option linter.unusedSimpArgs false
namespace Go.Proofs.YtkfphaphiikloaaDoor
open Go Go.Eng

def tbl5 : List (FuncId × (List AV → Heap → PRes)) := [(27, G27), (35, G35), (36, G35), (21, G21), (33, G33)]
theorem tbl5_ok (h29 : P0 S29 29 G29) (h30 : P0 [] 30 G29) : TbOk S29 tbl5 := tb_cons P27 (tb_cons (P35 h29) (tb_cons (P36 h30) (tb_cons P21 (tb_cons P33 tb_nil))))
/-- What stands through the law. -/
structure B5 (h : Heap) (n : Nat) (a b l : AV) (c : Cd) (s : St) : Prop where
  q1 : s.e 1 = l
  q2 : s.e 2 = .p n 0 0
  h0 : s.h n = some ⟨[a, b, .v (.int .i64 c.each), .v (.bool c.prev)], 0, true, 4⟩
  ag : agree n (roH h) s.h
  fr : Fresh s.n s.h
  nn : n + 1 ≤ s.n
/-- The condition's copy. -/
def C5 (s : St) (n hi : Nat) (c : Cd) : Prop := ∃ m za zb, s.e 5 = .p m 0 0 ∧ n + 1 ≤ m ∧ m < hi ∧ s.h m = some ⟨[za, zb, .v (.int .i64 c.each), .v (.bool c.prev)], 0, true, 4⟩ ∧ OwnP s.h (n + 1) hi (.g [za, zb]) c.p
theorem B5.up {h : Heap} {n : Nat} {a b l : AV} {c : Cd} {s s' : St} (x : B5 h n a b l c s) (h1 : s'.e 1 = s.e 1) (h2 : s'.e 2 = s.e 2) (ha : agree s.n s.h s'.h) (hf : Fresh s'.n s'.h) (hn : s.n ≤ s'.n) : B5 h n a b l c s' := by
  obtain ⟨q1, q2, h0, ag, fr, nn⟩ := x
  exact ⟨h1.trans q1, h2.trans q2, (ha n (by omega)).trans h0, fun j hj => (ha j (by omega)).trans (ag j hj), hf, by omega⟩
theorem C5.up {n hi : Nat} {c : Cd} {s s' : St} (x : C5 s n hi c) (h5 : s'.e 5 = s.e 5) (ha : agree hi s.h s'.h) : C5 s' n hi c := by
  obtain ⟨m, za, zb, k1, k2, k3, k4, k5⟩ := x
  exact ⟨m, za, zb, h5.trans k1, k2, k3, (ha m k3).trans k4, k5.congr (fun q _ hq => ha q hq) (Nat.le_refl _)⟩
section
set_option maxRecDepth 100000
set_option maxHeartbeats 4000000
variable {h : Heap} {n : Nat} {a b l : AV} {c : Cd} {ls : List (List Ev)}
theorem law5a (e1 : rd dPs h a = some c.p.code) (e2 : rd dIss h b = some c.p.cols) (e3 : rd dEss h l = some ls) (w : W4 c.p ⟨ls, c.each, 0⟩) (hn : Fresh n h) (e : Nat → AV) (q0 : e 0 = .g [a, b, .v (.int .i64 c.each), .v (.bool c.prev)]) (q1 : e 1 = l) :
    awp (cx S29 (pfL tbl5)) (hdC 2 (Tryd.f5.body.getD .skip)) (thenQ (fun s => B5 h n a b l c s ∧ beyondV ls = false) (finQ (cx S29 (pfL tbl5)) Tryd.f5 fun z _ _ => z = bv true)) ⟨e, roH h, n⟩ := by
  obtain ⟨s1, s2, s3, s4, s5⟩ := sl_is e1
  obtain ⟨t1, t2, t3, t4, t5⟩ := sl_is e2
  obtain ⟨r1, r2, r3, r4, r5⟩ := sl_is e3
  have g5 := rd_agree hn e3
  obtain ⟨w1, w2⟩ := w.bigs
  simp only [] at w1 w2
  have h2 : Fresh n (roH h) := fun q hq => by simp [roH, hn q hq]
  cases hb : beyondV ls with
  | true =>
    simp [awp_skip, awp_label, awp_region, awp_seq, awp_if, awp_block, awp_ret, awp_scope, awp_exit, thenQ_n, thenQ_e, thenQ_r, blockQ_n, blockQ_e, blockQ_r, finQ_n, finQ_r, finQ_e, resAll, resVal, resOne, aops_nil, aops_cons, atl_nil, atl_cons, atlAll_nil, atlAll_cons, freeOp, List.filter_cons, List.filter_nil, adraw_eq, adrawA_nil, adrawA_cons, isA, goOp, appNew, mkOp, gev, Region.binds, Heap.le_refl, aop, aeval, gocall, heapOp, quietOp, ev, constAV, setd, yav, ystop, up, env0, cx_ti, cx_G, cx_pf, ti, globS, glob, pfL, lds, ldc, ldcs_1, ldcs_2, ldcs_3, ldcs_4, ldcs_5, ldcs_7, sts, sth, sls.eq_1, slc.eq_1, wr, place, fillOk, fillC, repZ, binI, isDiv, optInt, optI, eksOk, eksEq, EK.ok, EK.eq, AV.i, AV.isI, AV.isInt, AV.b.eq_1, AV.b.eq_2, AV.isB.eq_1, AV.isB.eq_2, AV.str, AV.isStr, unc_same, unc_tt, unc_tf, unc_f, unc_any, unc_v, unc_gp, unc_p, unc_s, unc_g, unc_e, unc_t, unc_fn, unc_okb, unc_bb, unc_isB, unc_b, AV.bb.eq_1, AV.bb.eq_2, AV.okb.eq_1, AV.okb.eq_2, AV.okg.eq_1, AV.okg.eq_2, AV.gd.eq_1, AV.gd.eq_2, AV.cells.eq_1, AV.cells.eq_2, AV.one.eq_1, AV.one.eq_2, AV.one.eq_3, AV.one.eq_4, AV.one.eq_5, AV.one.eq_6, AV.ones, AV.slen.eq_1, AV.slen.eq_2, AV.isS.eq_1, AV.isS.eq_2, AV.isS.eq_3, AV.isPtr, AV.gl, AV.isG, Value.oneCell', Nat.add_assoc, cut_of_le, nat_lt0, nat_le0, hdC, Tryd.f5, q0, q1, s4, t4, r3, r4, bv, tbl5, G27, pureH, deLL, g5, agree_up, agree_refl, w1, hb]
    exact w2
  | false =>
    simp [awp_skip, awp_label, awp_region, awp_seq, awp_if, awp_block, awp_ret, awp_scope, awp_exit, thenQ_n, thenQ_e, thenQ_r, blockQ_n, blockQ_e, blockQ_r, finQ_n, finQ_r, finQ_e, resAll, resVal, resOne, aops_nil, aops_cons, atl_nil, atl_cons, atlAll_nil, atlAll_cons, freeOp, List.filter_cons, List.filter_nil, adraw_eq, adrawA_nil, adrawA_cons, isA, goOp, appNew, mkOp, gev, Region.binds, Heap.le_refl, aop, aeval, gocall, heapOp, quietOp, ev, constAV, setd, yav, ystop, up, env0, cx_ti, cx_G, cx_pf, ti, globS, glob, pfL, lds, ldc, ldcs_1, ldcs_2, ldcs_3, ldcs_4, ldcs_5, ldcs_7, sts, sth, sls.eq_1, slc.eq_1, wr, place, fillOk, fillC, repZ, binI, isDiv, optInt, optI, eksOk, eksEq, EK.ok, EK.eq, AV.i, AV.isI, AV.isInt, AV.b.eq_1, AV.b.eq_2, AV.isB.eq_1, AV.isB.eq_2, AV.str, AV.isStr, unc_same, unc_tt, unc_tf, unc_f, unc_any, unc_v, unc_gp, unc_p, unc_s, unc_g, unc_e, unc_t, unc_fn, unc_okb, unc_bb, unc_isB, unc_b, AV.bb.eq_1, AV.bb.eq_2, AV.okb.eq_1, AV.okb.eq_2, AV.okg.eq_1, AV.okg.eq_2, AV.gd.eq_1, AV.gd.eq_2, AV.cells.eq_1, AV.cells.eq_2, AV.one.eq_1, AV.one.eq_2, AV.one.eq_3, AV.one.eq_4, AV.one.eq_5, AV.one.eq_6, AV.ones, AV.slen.eq_1, AV.slen.eq_2, AV.isS.eq_1, AV.isS.eq_2, AV.isS.eq_3, AV.isPtr, AV.gl, AV.isG, Value.oneCell', Nat.add_assoc, cut_of_le, nat_lt0, nat_le0, hdC, Tryd.f5, q0, q1, s4, t4, r3, r4, bv, tbl5, G27, pureH, deLL, g5, agree_up, agree_refl, w1, hb]
    exact ⟨w2, by simp [up, q1], by simp [up], by simp [up], by simp [agree_up, agree_refl], by simp [fresh_up, h2.add], by simp⟩
theorem law5b (e1 : rd dPs h a = some c.p.code) (e2 : rd dIss h b = some c.p.cols) (w : W4 c.p ⟨ls, c.each, 0⟩) (hn : Fresh n h) (e : Nat → AV) (h' : Heap) (n' : Nat) (x : B5 h n a b l c ⟨e, h', n'⟩) {Q : Ex → St → Prop} :
    awp (cx S29 (pfL tbl5)) (hdC 1 (tlC 2 (Tryd.f5.body.getD .skip))) (thenQ (fun s => B5 h n a b l c s ∧ C5 s n s.n c) Q) ⟨e, h', n'⟩ := by
  have x0 := x
  obtain ⟨q1, q2, h0, ag, fr, nn⟩ := x
  simp only [] at q1 q2 h0 ag fr nn
  have fin : ∀ (e2 : Nat → AV) (h3 : Heap) (n3 m w' : Nat) (zb : AV), e2 1 = e 1 → e2 2 = e 2 → e2 5 = .p m 0 0 → agree n' h' h3 → Fresh n3 h3 → n' ≤ n3 → n' ≤ m → m < n3 → h3 m = some ⟨[.s w' 1 0 c.p.code.length, zb, .v (.int .i64 c.each), .v (.bool c.prev)], 0, true, 4⟩ → OwnP h3 (n + 1) n3 (.g [.s w' 1 0 c.p.code.length, zb]) c.p → B5 h n a b l c ⟨e2, h3, n3⟩ ∧ C5 ⟨e2, h3, n3⟩ n n3 c := fun e2 h3 n3 m w' zb k1 k2 k5 ka kf kn km kl kb ko =>
    ⟨x0.up k1 k2 ka kf kn, m, _, zb, k5, by omega, kl, kb, ko⟩
  simp [awp_skip, awp_label, awp_region, awp_seq, awp_if, awp_block, awp_ret, awp_scope, awp_exit, thenQ_n, thenQ_e, thenQ_r, blockQ_n, blockQ_e, blockQ_r, finQ_n, finQ_r, finQ_e, resAll, resVal, resOne, aops_nil, aops_cons, atl_nil, atl_cons, atlAll_nil, atlAll_cons, freeOp, List.filter_cons, List.filter_nil, adraw_eq, adrawA_nil, adrawA_cons, isA, goOp, appNew, mkOp, gev, Region.binds, Heap.le_refl, aop, aeval, gocall, heapOp, quietOp, ev, constAV, setd, yav, ystop, up, env0, cx_ti, cx_G, cx_pf, ti, globS, glob, pfL, lds, ldc, ldcs_1, ldcs_2, ldcs_3, ldcs_4, ldcs_5, ldcs_7, sts, sth, sls.eq_1, slc.eq_1, wr, place, fillOk, fillC, repZ, binI, isDiv, optInt, optI, eksOk, eksEq, EK.ok, EK.eq, AV.i, AV.isI, AV.isInt, AV.b.eq_1, AV.b.eq_2, AV.isB.eq_1, AV.isB.eq_2, AV.str, AV.isStr, unc_same, unc_tt, unc_tf, unc_f, unc_any, unc_v, unc_gp, unc_p, unc_s, unc_g, unc_e, unc_t, unc_fn, unc_okb, unc_bb, unc_isB, unc_b, AV.bb.eq_1, AV.bb.eq_2, AV.okb.eq_1, AV.okb.eq_2, AV.okg.eq_1, AV.okg.eq_2, AV.gd.eq_1, AV.gd.eq_2, AV.cells.eq_1, AV.cells.eq_2, AV.one.eq_1, AV.one.eq_2, AV.one.eq_3, AV.one.eq_4, AV.one.eq_5, AV.one.eq_6, AV.ones, AV.slen.eq_1, AV.slen.eq_2, AV.isS.eq_1, AV.isS.eq_2, AV.isS.eq_3, AV.isPtr, AV.gl, AV.isG, Value.oneCell', Nat.add_assoc, cut_of_le, nat_lt0, nat_le0, hdC, tlC, Tryd.f5, q2, h0, tbl5]
  refine ⟨?_, ?_⟩
  · refine (acall_any (S := []) (by simp) (c25 (dePr_in (rd_agree hn e1 h' ag) (rd_agree hn e2 h' ag)) w.prsm fr)).mono ?_
    rintro v h2 n2 ⟨a1, a2, a3, a4⟩
    refine ⟨agr_le fr a1, ?_⟩
    obtain ⟨w', zb, rfl, o2, o3, o4, o5⟩ := a4
    obtain ⟨v1, v2, v3, v4, v5⟩ := o5.is
    simp [awp_skip, awp_label, awp_region, awp_seq, awp_if, awp_block, awp_ret, awp_scope, awp_exit, thenQ_n, thenQ_e, thenQ_r, blockQ_n, blockQ_e, blockQ_r, finQ_n, finQ_r, finQ_e, resAll, resVal, resOne, aops_nil, aops_cons, atl_nil, atl_cons, atlAll_nil, atlAll_cons, freeOp, List.filter_cons, List.filter_nil, adraw_eq, adrawA_nil, adrawA_cons, isA, goOp, appNew, mkOp, gev, Region.binds, Heap.le_refl, aop, aeval, gocall, heapOp, quietOp, ev, constAV, setd, yav, ystop, up, env0, cx_ti, cx_G, cx_pf, ti, globS, glob, pfL, lds, ldc, ldcs_1, ldcs_2, ldcs_3, ldcs_4, ldcs_5, ldcs_7, sts, sth, sls.eq_1, slc.eq_1, wr, place, fillOk, fillC, repZ, binI, isDiv, optInt, optI, eksOk, eksEq, EK.ok, EK.eq, AV.i, AV.isI, AV.isInt, AV.b.eq_1, AV.b.eq_2, AV.isB.eq_1, AV.isB.eq_2, AV.str, AV.isStr, unc_same, unc_tt, unc_tf, unc_f, unc_any, unc_v, unc_gp, unc_p, unc_s, unc_g, unc_e, unc_t, unc_fn, unc_okb, unc_bb, unc_isB, unc_b, AV.bb.eq_1, AV.bb.eq_2, AV.okb.eq_1, AV.okb.eq_2, AV.okg.eq_1, AV.okg.eq_2, AV.gd.eq_1, AV.gd.eq_2, AV.cells.eq_1, AV.cells.eq_2, AV.one.eq_1, AV.one.eq_2, AV.one.eq_3, AV.one.eq_4, AV.one.eq_5, AV.one.eq_6, AV.ones, AV.slen.eq_1, AV.slen.eq_2, AV.isS.eq_1, AV.isS.eq_2, AV.isS.eq_3, AV.isPtr, AV.gl, AV.isG, Value.oneCell', Nat.add_assoc, cut_of_le, nat_lt0, nat_le0, v4, v5]
    have ho : ∀ b1 b2 : Option Blk, OwnP (up (up h2 n2 b1) n2 b2) (n + 1) (n2 + 2) (.g [.s w' 1 0 c.p.code.length, zb]) c.p := fun b1 b2 => OwnP.congr ⟨w', zb, rfl, o2, by omega, o4, o5⟩ (fun q h1 h2 => by rw [up_ne _ _ (by omega), up_ne _ _ (by omega)]) (by omega)
    have hf2 : ∀ b1 b2 : Option Blk, Fresh (n2 + 2) (up (up h2 n2 b1) n2 b2) := fun b1 b2 => by simp [fresh_up, a2.add]
    have hg2 : ∀ b1 b2 : Option Blk, agree n' h' (up (up h2 n2 b1) n2 b2) := fun b1 b2 => by simp [agree_up, a1, a3]
    exact ⟨fin _ _ _ n2 w' zb (by simp [up]) (by simp [up]) (by simp [up]) (hg2 _ _) (hf2 _ _) (by omega) (by omega) (by omega) (by simp [up]) (ho _ _), fin _ _ _ n2 w' zb (by simp [up]) (by simp [up]) (by simp [up]) (hg2 _ _) (hf2 _ _) (by omega) (by omega) (by omega) (by simp [up]) (ho _ _)⟩
  · have frA : ∀ b, Fresh (n' + 1) (up h' n' b) := fun b => (fresh_up (by omega) b).2 (fr.add 1)
    have agA : ∀ b, agree n (roH h) (up h' n' b) := fun b => (agree_up (by omega) b).2 ag
    refine (acall_any (S := []) (by simp) (c25 (dePr_in (rd_agree hn e1 _ (agA _)) (rd_agree hn e2 _ (agA _))) w.prsm (frA _))).mono ?_
    rintro v h2 n2 ⟨a1, a2, a3, a4⟩
    refine ⟨agr_le (frA _) a1, ?_⟩
    obtain ⟨w', zb, rfl, o2, o3, o4, o5⟩ := a4
    obtain ⟨v1, v2, v3, v4, v5⟩ := o5.is
    have hx : h2 n' = some ⟨[.v (.slice none 0 0), .v (.slice none 0 0), .v (.int .i64 0), .v (.bool false)], 0, true, 4⟩ := by rw [a1 n' (by omega), up_same]
    simp [awp_skip, awp_label, awp_region, awp_seq, awp_if, awp_block, awp_ret, awp_scope, awp_exit, thenQ_n, thenQ_e, thenQ_r, blockQ_n, blockQ_e, blockQ_r, finQ_n, finQ_r, finQ_e, resAll, resVal, resOne, aops_nil, aops_cons, atl_nil, atl_cons, atlAll_nil, atlAll_cons, freeOp, List.filter_cons, List.filter_nil, adraw_eq, adrawA_nil, adrawA_cons, isA, goOp, appNew, mkOp, gev, Region.binds, Heap.le_refl, aop, aeval, gocall, heapOp, quietOp, ev, constAV, setd, yav, ystop, up, env0, cx_ti, cx_G, cx_pf, ti, globS, glob, pfL, lds, ldc, ldcs_1, ldcs_2, ldcs_3, ldcs_4, ldcs_5, ldcs_7, sts, sth, sls.eq_1, slc.eq_1, wr, place, fillOk, fillC, repZ, binI, isDiv, optInt, optI, eksOk, eksEq, EK.ok, EK.eq, AV.i, AV.isI, AV.isInt, AV.b.eq_1, AV.b.eq_2, AV.isB.eq_1, AV.isB.eq_2, AV.str, AV.isStr, unc_same, unc_tt, unc_tf, unc_f, unc_any, unc_v, unc_gp, unc_p, unc_s, unc_g, unc_e, unc_t, unc_fn, unc_okb, unc_bb, unc_isB, unc_b, AV.bb.eq_1, AV.bb.eq_2, AV.okb.eq_1, AV.okb.eq_2, AV.okg.eq_1, AV.okg.eq_2, AV.gd.eq_1, AV.gd.eq_2, AV.cells.eq_1, AV.cells.eq_2, AV.one.eq_1, AV.one.eq_2, AV.one.eq_3, AV.one.eq_4, AV.one.eq_5, AV.one.eq_6, AV.ones, AV.slen.eq_1, AV.slen.eq_2, AV.isS.eq_1, AV.isS.eq_2, AV.isS.eq_3, AV.isPtr, AV.gl, AV.isG, Value.oneCell', Nat.add_assoc, cut_of_le, nat_lt0, nat_le0, v4, v5, hx]
    have ho : ∀ b1 : Option Blk, OwnP (up h2 n' b1) (n + 1) (n2 + 1) (.g [.s w' 1 0 c.p.code.length, zb]) c.p := fun b1 => by
      refine ⟨w', zb, rfl, ?_, by omega, by omega, o5.congr (fun q h1 h2 => up_ne _ _ (by omega)) (by omega)⟩
      rw [up_ne _ _ (by omega)]
      exact o2
    have hf2 : ∀ b1 : Option Blk, Fresh (n2 + 1) (up h2 n' b1) := fun b1 => (fresh_up (by omega) b1).2 (a2.add 1)
    have hg2 : ∀ b1 : Option Blk, agree n' h' (up h2 n' b1) := fun b1 j hj => by rw [up_ne _ _ (by omega), a1 j (by omega), up_ne _ _ (by omega)]
    exact fin _ _ _ n' w' zb (by simp [up]) (by simp [up]) (by simp [up]) (hg2 _) (hf2 _) (by omega) (by omega) (by omega) (by simp [up]) (ho _)
/-- A list of lists of one's own. -/
def L5' (s : St) (t lo hi : Nat) (ls : List (List Ev)) : Prop := OwnL ecells 11 s.h lo hi (s.e t) ls ls.length
theorem law5c (e3 : rd dEss h l = some ls) (w : W4 c.p ⟨ls, c.each, 0⟩) (hb : beyondV ls = false) (hn : Fresh n h) (e : Nat → AV) (h' : Heap) (n' : Nat) (x : B5 h n a b l c ⟨e, h', n'⟩) (y : C5 ⟨e, h', n'⟩ n n' c) {Q : Ex → St → Prop} :
    awp (cx S29 (pfL tbl5)) (hdC 1 (tlC 3 (Tryd.f5.body.getD .skip))) (thenQ (fun s => B5 h n a b l c s ∧ C5 s n n' c ∧ L5' s 6 n' s.n ls ∧ n' ≤ s.n) Q) ⟨e, h', n'⟩ := by
  have x0 := x
  obtain ⟨q1, q2, h0, ag, fr, nn⟩ := x
  simp only [] at q1 q2 h0 ag fr nn
  simp [awp_skip, awp_label, awp_region, awp_seq, awp_if, awp_block, awp_ret, awp_scope, awp_exit, thenQ_n, thenQ_e, thenQ_r, blockQ_n, blockQ_e, blockQ_r, finQ_n, finQ_r, finQ_e, resAll, resVal, resOne, aops_nil, aops_cons, atl_nil, atl_cons, atlAll_nil, atlAll_cons, freeOp, List.filter_cons, List.filter_nil, adraw_eq, adrawA_nil, adrawA_cons, isA, goOp, appNew, mkOp, gev, Region.binds, Heap.le_refl, aop, aeval, gocall, heapOp, quietOp, ev, constAV, setd, yav, ystop, up, env0, cx_ti, cx_G, cx_pf, ti, globS, glob, pfL, lds, ldc, ldcs_1, ldcs_2, ldcs_3, ldcs_4, ldcs_5, ldcs_7, sts, sth, sls.eq_1, slc.eq_1, wr, place, fillOk, fillC, repZ, binI, isDiv, optInt, optI, eksOk, eksEq, EK.ok, EK.eq, AV.i, AV.isI, AV.isInt, AV.b.eq_1, AV.b.eq_2, AV.isB.eq_1, AV.isB.eq_2, AV.str, AV.isStr, unc_same, unc_tt, unc_tf, unc_f, unc_any, unc_v, unc_gp, unc_p, unc_s, unc_g, unc_e, unc_t, unc_fn, unc_okb, unc_bb, unc_isB, unc_b, AV.bb.eq_1, AV.bb.eq_2, AV.okb.eq_1, AV.okb.eq_2, AV.okg.eq_1, AV.okg.eq_2, AV.gd.eq_1, AV.gd.eq_2, AV.cells.eq_1, AV.cells.eq_2, AV.one.eq_1, AV.one.eq_2, AV.one.eq_3, AV.one.eq_4, AV.one.eq_5, AV.one.eq_6, AV.ones, AV.slen.eq_1, AV.slen.eq_2, AV.isS.eq_1, AV.isS.eq_2, AV.isS.eq_3, AV.isPtr, AV.gl, AV.isG, Value.oneCell', Nat.add_assoc, cut_of_le, nat_lt0, nat_le0, hdC, tlC, Tryd.f5, q1, tbl5]
  refine (acall_any (S := []) (by simp) (c28 (rd_agree hn e3 h' ag) (beyond_len hb) w.lsl fr)).mono ?_
  rintro v h2 n2 ⟨a1, a2, a3, a4⟩
  exact ⟨x0.up (by simp [up, q1]) (by simp [up]) a1 a2 a3, y.up (by simp [up]) a1, by simpa [L5', up] using a4, a3⟩
theorem law5d (e1 : rd dPs h a = some c.p.code) (e2 : rd dIss h b = some c.p.cols) (e3 : rd dEss h l = some ls) (w : W4 c.p ⟨ls, c.each, 0⟩) (hb : beyondV ls = false) (hn : Fresh n h) (k : Nat) (e : Nat → AV) (h' : Heap) (n' : Nat) (hk : k ≤ n') (x : B5 h n a b l c ⟨e, h', n'⟩) (y : C5 ⟨e, h', n'⟩ n k c) (z : L5' ⟨e, h', n'⟩ 6 k n' ls) {Q : Ex → St → Prop} :
    awp (cx S29 (pfL tbl5)) (hdC 2 (tlC 4 (Tryd.f5.body.getD .skip))) (thenQ (fun s => B5 h n a b l c s ∧ C5 s n k c ∧ k ≤ s.n) Q) ⟨e, h', n'⟩ := by
  have x0 := x
  have y0 := y
  obtain ⟨q1, q2, h0, ag, fr, nn⟩ := x
  obtain ⟨m5, za, zb, q5, k5, l5, x5, o5⟩ := y
  simp only [L5'] at q1 q2 h0 ag fr nn q5 x5 o5 z
  obtain ⟨zl, q6⟩ : ∃ zl, e 6 = zl := ⟨_, rfl⟩
  rw [q6] at z
  obtain ⟨v1, v2, v3, v4, v5⟩ := z.is
  obtain ⟨r1, r2, r3, r4, r5⟩ := sl_is e3
  have hpr := o5.rd
  obtain ⟨a', b', hab, p1, p2⟩ := dePr_out hpr
  simp only [AV.g.injEq, List.cons.injEq, and_true] at hab
  obtain ⟨rfl, rfl⟩ := hab
  have hl : rd dEss h' zl = some ls := z.rd Flat.ev
  have i1 := rd_agree hn e1 h' ag
  have i2 := rd_agree hn e2 h' ag
  have i3 := rd_agree hn e3 h' ag
  have g1 : deC h' [.g [a, b, .v (.int .i64 c.each), .v (.bool c.prev)], l] = some (c, ls) := deC_in i1 i2 i3
  have g2 : deC h' [.g [za, zb, .v (.int .i64 c.each), .v (.bool c.prev)], zl] = some (c, ls) := deC_in p1 p2 hl
  have g3 : de21 h' [.g [a, b], .g [za, zb]] = some (c.p, c.p) := by simp only [de21, hpr, dePr_in i1 i2]
  have g4 : de33 h' [l, zl] = some (ls, ls) := by simp only [de33, i3, hl]
  have hok : CdOk (c, ls) := ⟨w.prok, ⟨beyond_len hb, w.ev, w.pos⟩⟩
  obtain ⟨w1, w2⟩ := w.bigs
  obtain ⟨y1, y2, y3⟩ := w.pbig
  simp only [] at w1 w2
  simp [awp_skip, awp_label, awp_region, awp_seq, awp_if, awp_block, awp_ret, awp_scope, awp_exit, thenQ_n, thenQ_e, thenQ_r, blockQ_n, blockQ_e, blockQ_r, finQ_n, finQ_r, finQ_e, resAll, resVal, resOne, aops_nil, aops_cons, atl_nil, atl_cons, atlAll_nil, atlAll_cons, freeOp, List.filter_cons, List.filter_nil, adraw_eq, adrawA_nil, adrawA_cons, isA, goOp, appNew, mkOp, gev, Region.binds, Heap.le_refl, aop, aeval, gocall, heapOp, quietOp, ev, constAV, setd, yav, ystop, up, env0, cx_ti, cx_G, cx_pf, ti, globS, glob, pfL, lds, ldc, ldcs_1, ldcs_2, ldcs_3, ldcs_4, ldcs_5, ldcs_7, sts, sth, sls.eq_1, slc.eq_1, wr, place, fillOk, fillC, repZ, binI, isDiv, optInt, optI, eksOk, eksEq, EK.ok, EK.eq, AV.i, AV.isI, AV.isInt, AV.b.eq_1, AV.b.eq_2, AV.isB.eq_1, AV.isB.eq_2, AV.str, AV.isStr, unc_same, unc_tt, unc_tf, unc_f, unc_any, unc_v, unc_gp, unc_p, unc_s, unc_g, unc_e, unc_t, unc_fn, unc_okb, unc_bb, unc_isB, unc_b, AV.bb.eq_1, AV.bb.eq_2, AV.okb.eq_1, AV.okb.eq_2, AV.okg.eq_1, AV.okg.eq_2, AV.gd.eq_1, AV.gd.eq_2, AV.cells.eq_1, AV.cells.eq_2, AV.one.eq_1, AV.one.eq_2, AV.one.eq_3, AV.one.eq_4, AV.one.eq_5, AV.one.eq_6, AV.ones, AV.slen.eq_1, AV.slen.eq_2, AV.isS.eq_1, AV.isS.eq_2, AV.isS.eq_3, AV.isPtr, AV.gl, AV.isG, Value.oneCell', Nat.add_assoc, cut_of_le, nat_lt0, nat_le0, hdC, tlC, Tryd.f5, q1, q2, q5, q6, h0, x5, r3, v3, tbl5, G35, G21, G33, pureH, g1, g2, g3, g4, hok, bv, w1, y1, y2]
  exact ⟨y3, w2, x0.up (by simp [up, q1]) (by simp [up]) (agree_refl _ _) fr (Nat.le_refl _), y0.up (by simp [up]) (agree_refl _ _), hk⟩
theorem law5e (e3 : rd dEss h l = some ls) (w : W4 c.p ⟨ls, c.each, 0⟩) (hb : beyondV ls = false) (hn : Fresh n h) (k : Nat) (e : Nat → AV) (h' : Heap) (n' : Nat) (hk : k ≤ n') (x : B5 h n a b l c ⟨e, h', n'⟩) (y : C5 ⟨e, h', n'⟩ n k c) {Q : Ex → St → Prop} :
    awp (cx S29 (pfL tbl5)) (hdC 1 (tlC 6 (Tryd.f5.body.getD .skip))) (thenQ (fun s => B5 h n a b l c s ∧ C5 s n k c ∧ ∃ hi, n' ≤ hi ∧ hi ≤ s.n ∧ L5' s 8 n' hi ls) Q) ⟨e, h', n'⟩ := by
  have x0 := x
  obtain ⟨q1, q2, h0, ag, fr, nn⟩ := x
  simp only [] at q1 q2 h0 ag fr nn
  simp [awp_skip, awp_label, awp_region, awp_seq, awp_if, awp_block, awp_ret, awp_scope, awp_exit, thenQ_n, thenQ_e, thenQ_r, blockQ_n, blockQ_e, blockQ_r, finQ_n, finQ_r, finQ_e, resAll, resVal, resOne, aops_nil, aops_cons, atl_nil, atl_cons, atlAll_nil, atlAll_cons, freeOp, List.filter_cons, List.filter_nil, adraw_eq, adrawA_nil, adrawA_cons, isA, goOp, appNew, mkOp, gev, Region.binds, Heap.le_refl, aop, aeval, gocall, heapOp, quietOp, ev, constAV, setd, yav, ystop, up, env0, cx_ti, cx_G, cx_pf, ti, globS, glob, pfL, lds, ldc, ldcs_1, ldcs_2, ldcs_3, ldcs_4, ldcs_5, ldcs_7, sts, sth, sls.eq_1, slc.eq_1, wr, place, fillOk, fillC, repZ, binI, isDiv, optInt, optI, eksOk, eksEq, EK.ok, EK.eq, AV.i, AV.isI, AV.isInt, AV.b.eq_1, AV.b.eq_2, AV.isB.eq_1, AV.isB.eq_2, AV.str, AV.isStr, unc_same, unc_tt, unc_tf, unc_f, unc_any, unc_v, unc_gp, unc_p, unc_s, unc_g, unc_e, unc_t, unc_fn, unc_okb, unc_bb, unc_isB, unc_b, AV.bb.eq_1, AV.bb.eq_2, AV.okb.eq_1, AV.okb.eq_2, AV.okg.eq_1, AV.okg.eq_2, AV.gd.eq_1, AV.gd.eq_2, AV.cells.eq_1, AV.cells.eq_2, AV.one.eq_1, AV.one.eq_2, AV.one.eq_3, AV.one.eq_4, AV.one.eq_5, AV.one.eq_6, AV.ones, AV.slen.eq_1, AV.slen.eq_2, AV.isS.eq_1, AV.isS.eq_2, AV.isS.eq_3, AV.isPtr, AV.gl, AV.isG, Value.oneCell', Nat.add_assoc, cut_of_le, nat_lt0, nat_le0, hdC, tlC, Tryd.f5, q1, tbl5]
  refine (acall_any (S := []) (by simp) (c28 (rd_agree hn e3 h' ag) (beyond_len hb) w.lsl fr)).mono ?_
  rintro v h2 n2 ⟨a1, a2, a3, a4⟩
  exact ⟨x0.up (by simp [up, q1]) (by simp [up]) a1 a2 a3, y.up (by simp [up]) (fun j hj => a1 j (by omega)), n2, a3, Nat.le_refl _, by simpa [L5', up] using a4⟩
theorem law5f (e1 : rd dPs h a = some c.p.code) (e2 : rd dIss h b = some c.p.cols) (w : W4 c.p ⟨ls, c.each, 0⟩) (hb : beyondV ls = false) (hn : Fresh n h) (k lo hi : Nat) (e : Nat → AV) (h' : Heap) (n' : Nat) (hk : k ≤ lo) (hk2 : n + 1 ≤ lo) (hi1 : lo ≤ hi) (hi2 : hi ≤ n') (x : B5 h n a b l c ⟨e, h', n'⟩) (y : C5 ⟨e, h', n'⟩ n k c) (z : L5' ⟨e, h', n'⟩ 8 lo hi ls) {Q : Ex → St → Prop} :
    awp (cx S29 (pfL tbl5)) (hdC 2 (tlC 7 (Tryd.f5.body.getD .skip))) (thenQ (fun s => B5 h n a b l c s ∧ C5 s n k c ∧ hi ≤ s.n ∧ L5' s 8 lo hi (flipLL ls)) Q) ⟨e, h', n'⟩ := by
  obtain ⟨q1, q2, h0, ag, fr, nn⟩ := x
  obtain ⟨m5, za, zb, q5, k5, l5, x5, o5⟩ := y
  simp only [L5'] at q1 q2 h0 ag fr nn q5 x5 o5 z
  obtain ⟨zl, q8⟩ : ∃ zl, e 8 = zl := ⟨_, rfl⟩
  rw [q8] at z
  obtain ⟨v1, v2, v3, v4, v5⟩ := z.is
  have g1 : deC h' [.g [a, b, .v (.int .i64 c.each), .v (.bool c.prev)], zl] = some (c, ls) := deC_in (rd_agree hn e1 h' ag) (rd_agree hn e2 h' ag) (z.rd Flat.ev)
  have hok : CdOk (c, ls) := ⟨w.prok, ⟨beyond_len hb, w.ev, w.pos⟩⟩
  simp [awp_skip, awp_label, awp_region, awp_seq, awp_if, awp_block, awp_ret, awp_scope, awp_exit, thenQ_n, thenQ_e, thenQ_r, blockQ_n, blockQ_e, blockQ_r, finQ_n, finQ_r, finQ_e, resAll, resVal, resOne, aops_nil, aops_cons, atl_nil, atl_cons, atlAll_nil, atlAll_cons, freeOp, List.filter_cons, List.filter_nil, adraw_eq, adrawA_nil, adrawA_cons, isA, goOp, appNew, mkOp, gev, Region.binds, Heap.le_refl, aop, aeval, gocall, heapOp, quietOp, ev, constAV, setd, yav, ystop, up, env0, cx_ti, cx_G, cx_pf, ti, globS, glob, pfL, lds, ldc, ldcs_1, ldcs_2, ldcs_3, ldcs_4, ldcs_5, ldcs_7, sts, sth, sls.eq_1, slc.eq_1, wr, place, fillOk, fillC, repZ, binI, isDiv, optInt, optI, eksOk, eksEq, EK.ok, EK.eq, AV.i, AV.isI, AV.isInt, AV.b.eq_1, AV.b.eq_2, AV.isB.eq_1, AV.isB.eq_2, AV.str, AV.isStr, unc_same, unc_tt, unc_tf, unc_f, unc_any, unc_v, unc_gp, unc_p, unc_s, unc_g, unc_e, unc_t, unc_fn, unc_okb, unc_bb, unc_isB, unc_b, AV.bb.eq_1, AV.bb.eq_2, AV.okb.eq_1, AV.okb.eq_2, AV.okg.eq_1, AV.okg.eq_2, AV.gd.eq_1, AV.gd.eq_2, AV.cells.eq_1, AV.cells.eq_2, AV.one.eq_1, AV.one.eq_2, AV.one.eq_3, AV.one.eq_4, AV.one.eq_5, AV.one.eq_6, AV.ones, AV.slen.eq_1, AV.slen.eq_2, AV.isS.eq_1, AV.isS.eq_2, AV.isS.eq_3, AV.isPtr, AV.gl, AV.isG, Value.oneCell', Nat.add_assoc, cut_of_le, nat_lt0, nat_le0, hdC, tlC, Tryd.f5, q1, q2, q8, h0, v3, tbl5, G35, pureH, g1, hok]
  refine (acall_any (S := []) (by simp) (c34 z (beyond_len hb) w.lsl hi2 fr)).mono ?_
  rintro v h2 n2 ⟨a1, a2, a3, a4⟩
  refine ⟨⟨by simp [up, q1], by simp [up, q2], (a1 n (by omega)).trans h0, fun j hj => (a1 j (by omega)).trans (ag j hj), a2, by simp only []; omega⟩, ⟨m5, za, zb, by simp [up, q5], k5, l5, (a1 m5 (by omega)).trans x5, o5.congr (fun q h1 h2 => a1 q (by omega)) (Nat.le_refl _)⟩, by omega, by simpa [L5', up, q8] using a4⟩
theorem law5g (e1 : rd dPs h a = some c.p.code) (e2 : rd dIss h b = some c.p.cols) (w : W4 c.p ⟨ls, c.each, 0⟩) (hb : beyondV ls = false) (hn : Fresh n h) (k lo hi : Nat) (e : Nat → AV) (h' : Heap) (n' : Nat) (hi2 : hi ≤ n') (hk : k ≤ n') (x : B5 h n a b l c ⟨e, h', n'⟩) (y : C5 ⟨e, h', n'⟩ n k c) (z : L5' ⟨e, h', n'⟩ 8 lo hi ls) :
    awp (cx S29 (pfL tbl5)) (tlC 9 (Tryd.f5.body.getD .skip)) (finQ (cx S29 (pfL tbl5)) Tryd.f5 fun z _ _ => z = bv true) ⟨e, h', n'⟩ := by
  obtain ⟨q1, q2, h0, ag, fr, nn⟩ := x
  obtain ⟨m5, za, zb, q5, k5, l5, x5, o5⟩ := y
  simp only [L5'] at q1 q2 h0 ag fr nn q5 x5 o5 z
  obtain ⟨zl, q8⟩ : ∃ zl, e 8 = zl := ⟨_, rfl⟩
  rw [q8] at z
  obtain ⟨v1, v2, v3, v4, v5⟩ := z.is
  have hl : rd dEss h' zl = some ls := z.rd Flat.ev
  have g1 : deC h' [.g [a, b, .v (.int .i64 c.each), .v (.bool c.prev)], zl] = some (c, ls) := deC_in (rd_agree hn e1 h' ag) (rd_agree hn e2 h' ag) hl
  have hok : CdOk (c, ls) := ⟨w.prok, ⟨beyond_len hb, w.ev, w.pos⟩⟩
  simp [awp_skip, awp_label, awp_region, awp_seq, awp_if, awp_block, awp_ret, awp_scope, awp_exit, thenQ_n, thenQ_e, thenQ_r, blockQ_n, blockQ_e, blockQ_r, finQ_n, finQ_r, finQ_e, resAll, resVal, resOne, aops_nil, aops_cons, atl_nil, atl_cons, atlAll_nil, atlAll_cons, freeOp, List.filter_cons, List.filter_nil, adraw_eq, adrawA_nil, adrawA_cons, isA, goOp, appNew, mkOp, gev, Region.binds, Heap.le_refl, aop, aeval, gocall, heapOp, quietOp, ev, constAV, setd, yav, ystop, up, env0, cx_ti, cx_G, cx_pf, ti, globS, glob, pfL, lds, ldc, ldcs_1, ldcs_2, ldcs_3, ldcs_4, ldcs_5, ldcs_7, sts, sth, sls.eq_1, slc.eq_1, wr, place, fillOk, fillC, repZ, binI, isDiv, optInt, optI, eksOk, eksEq, EK.ok, EK.eq, AV.i, AV.isI, AV.isInt, AV.b.eq_1, AV.b.eq_2, AV.isB.eq_1, AV.isB.eq_2, AV.str, AV.isStr, unc_same, unc_tt, unc_tf, unc_f, unc_any, unc_v, unc_gp, unc_p, unc_s, unc_g, unc_e, unc_t, unc_fn, unc_okb, unc_bb, unc_isB, unc_b, AV.bb.eq_1, AV.bb.eq_2, AV.okb.eq_1, AV.okb.eq_2, AV.okg.eq_1, AV.okg.eq_2, AV.gd.eq_1, AV.gd.eq_2, AV.cells.eq_1, AV.cells.eq_2, AV.one.eq_1, AV.one.eq_2, AV.one.eq_3, AV.one.eq_4, AV.one.eq_5, AV.one.eq_6, AV.ones, AV.slen.eq_1, AV.slen.eq_2, AV.isS.eq_1, AV.isS.eq_2, AV.isS.eq_3, AV.isPtr, AV.gl, AV.isG, Value.oneCell', Nat.add_assoc, cut_of_le, nat_lt0, nat_le0, tlC, Tryd.f5, q1, q2, q5, q8, h0, x5, v3, tbl5, G35, pureH, g1, hok]
  refine (acall_any (S := []) (by simp) (c28 hl (beyond_len hb) w.lsl fr)).mono ?_
  rintro v h2 n2 ⟨a1, a2, a3, a4⟩
  refine ⟨agr_le fr a1, ?_⟩
  obtain ⟨w1, w2, w3, w4, w5⟩ := a4.is
  have hpr := (o5.congr (fun q h1 h2 => a1 q (by omega)) (Nat.le_refl _) : OwnP h2 (n + 1) k (.g [za, zb]) c.p).rd
  obtain ⟨a', b', hab, p1, p2⟩ := dePr_out hpr
  simp only [AV.g.injEq, List.cons.injEq, and_true] at hab
  obtain ⟨rfl, rfl⟩ := hab
  have g2 : deC h2 [.g [za, zb, .v (.int .i64 c.each), .v (.bool c.prev)], v] = some (c, ls) := deC_in p1 p2 (a4.rd Flat.ev)
  simp [awp_skip, awp_label, awp_region, awp_seq, awp_if, awp_block, awp_ret, awp_scope, awp_exit, thenQ_n, thenQ_e, thenQ_r, blockQ_n, blockQ_e, blockQ_r, finQ_n, finQ_r, finQ_e, resAll, resVal, resOne, aops_nil, aops_cons, atl_nil, atl_cons, atlAll_nil, atlAll_cons, freeOp, List.filter_cons, List.filter_nil, adraw_eq, adrawA_nil, adrawA_cons, isA, goOp, appNew, mkOp, gev, Region.binds, Heap.le_refl, aop, aeval, gocall, heapOp, quietOp, ev, constAV, setd, yav, ystop, up, env0, cx_ti, cx_G, cx_pf, ti, globS, glob, pfL, lds, ldc, ldcs_1, ldcs_2, ldcs_3, ldcs_4, ldcs_5, ldcs_7, sts, sth, sls.eq_1, slc.eq_1, wr, place, fillOk, fillC, repZ, binI, isDiv, optInt, optI, eksOk, eksEq, EK.ok, EK.eq, AV.i, AV.isI, AV.isInt, AV.b.eq_1, AV.b.eq_2, AV.isB.eq_1, AV.isB.eq_2, AV.str, AV.isStr, unc_same, unc_tt, unc_tf, unc_f, unc_any, unc_v, unc_gp, unc_p, unc_s, unc_g, unc_e, unc_t, unc_fn, unc_okb, unc_bb, unc_isB, unc_b, AV.bb.eq_1, AV.bb.eq_2, AV.okb.eq_1, AV.okb.eq_2, AV.okg.eq_1, AV.okg.eq_2, AV.gd.eq_1, AV.gd.eq_2, AV.cells.eq_1, AV.cells.eq_2, AV.one.eq_1, AV.one.eq_2, AV.one.eq_3, AV.one.eq_4, AV.one.eq_5, AV.one.eq_6, AV.ones, AV.slen.eq_1, AV.slen.eq_2, AV.isS.eq_1, AV.isS.eq_2, AV.isS.eq_3, AV.isPtr, AV.gl, AV.isG, Value.oneCell', Nat.add_assoc, cut_of_le, nat_lt0, nat_le0, w3, G35, pureH, g2, hok, bv]
theorem law5 (e1 : rd dPs h a = some c.p.code) (e2 : rd dIss h b = some c.p.cols) (e3 : rd dEss h l = some ls) (w : W4 c.p ⟨ls, c.each, 0⟩) (hn : Fresh n h) :
    awp (cx S29 (pfL tbl5)) (Tryd.f5.body.getD .skip) (finQ (cx S29 (pfL tbl5)) Tryd.f5 fun z _ _ => z = bv true) ⟨env0 [.g [a, b, .v (.int .i64 c.each), .v (.bool c.prev)], l], roH h, n⟩ := by
  refine awp_cut 2 _ _ (law5a e1 e2 e3 w hn _ rfl rfl) fun x1 h1 n1 ⟨b1, hb⟩ => ?_
  refine awp_cut 1 _ _ (law5b e1 e2 w hn x1 h1 n1 b1) fun x2 h2 n2 ⟨b2, c2⟩ => ?_
  refine awp_cut 1 _ _ (law5c e3 w hb hn x2 h2 n2 b2 c2) fun x3 h3 n3 ⟨b3, c3, l3, hn3⟩ => ?_
  refine awp_cut 2 _ _ (law5d e1 e2 e3 w hb hn n2 x3 h3 n3 hn3 b3 c3 l3) fun x4 h4 n4 ⟨b4, c4, k4⟩ => ?_
  refine awp_cut 1 _ _ (law5e e3 w hb hn n2 x4 h4 n4 k4 b4 c4) fun x5 h5 n5 ⟨b5, c5, hi, i1, i2, l5⟩ => ?_
  refine awp_cut 2 _ _ (law5f e1 e2 w hb hn n2 n4 hi x5 h5 n5 k4 b4.nn i1 i2 b5 c5 l5) fun x6 h6 n6 ⟨b6, c6, i3, l6⟩ => ?_
  have w2 := w.flip
  have hb2 : beyondV (flipLL ls) = false := by rw [flip_beyond]; exact hb
  have k5 : n2 ≤ n4 := k4
  have i4 : hi ≤ n6 := i3
  exact law5g e1 e2 w2 hb2 hn n2 n4 hi x6 h6 n6 i3 (by omega) b6 c6 l6
end
end Go.Proofs.YtkfphaphiikloaaDoor
