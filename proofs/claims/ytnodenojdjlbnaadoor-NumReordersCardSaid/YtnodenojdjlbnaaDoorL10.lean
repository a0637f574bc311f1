/-
  NumReorders: the law's own code.
-/
import Derived.Test.YtnodenojdjlbnaaDoorNt
set_option linter.unusedSimpArgs false
namespace Go.Proofs.YtnodenojdjlbnaaDoor
open Go Go.Eng
def tbl10 : List (FuncId × (List AV → Heap → PRes)) := [(33, g33), (25, g25)]
theorem tbl10_ok : TbOk [3] tbl10 := tb_cons p33 (tb_cons p25 tb_nil)
structure Q10 (l : List Int) (k x : Int) (id n : Nat) (s : St) : Prop where
  q0 : s.e 0 = .s id 0 0 l.length
  q1 : s.e 1 = ii k
  q2 : s.e 2 = ii x
  hh : s.h id = some ⟨l.map ii, 0, false, 1⟩
  hn : n ≤ s.n
  hf : ∀ q, s.n ≤ q → s.h q = none
abbrev R10 (l : List Int) (k x : Int) (id n : Nat) (s : St) : Prop := Q10 l k x id n s ∧ OwnI s.h n s.n (s.e 8) (turnP l (placeL k l.length).toNat)
theorem ints_own {h : Heap} {n0 n : Nat} {a : AV} {l : List Int} (ho : OwnI h n0 n a l) : ints h a = some l := by
  rcases ho with ⟨rfl, rfl⟩ | ⟨w, u, rfl, hm, _, _⟩
  · rfl
  · simp [ints, hm, deIs_ii, take_ii]
theorem own_le {h h' : Heap} {n0 n n' : Nat} {a : AV} {l : List Int} (ho : OwnI h n0 n a l) (hh : h.le h') (hn : n ≤ n') : OwnI h' n0 n' a l := by
  rcases ho with h0 | ⟨w, u, q, hm, h1, h2⟩
  · exact .inl h0
  · exact .inr ⟨w, u, q, hh _ _ hm, h1, by omega⟩
theorem own_lo {h : Heap} {n0 n1 n : Nat} {a : AV} {l : List Int} (ho : OwnI h n1 n a l) (hn : n0 ≤ n1) : OwnI h n0 n a l := by
  rcases ho with h0 | ⟨w, u, q, hm, h1, h2⟩
  · exact .inl h0
  · exact .inr ⟨w, u, q, hm, by omega, h2⟩
theorem place0 (n : Int) : placeL 0 n = 0 := by unfold placeL; simp
theorem last_first (l : List Int) : foldG sumL 10 (turnP l 0) = foldG sumL 9 l := by
  have h1 := turn_len l 0
  by_cases hz : l = []
  · subst hz; simp [turnP, foldG]
  · have hp : 0 < l.length := List.length_pos_iff.2 hz
    have hz2 : ¬ turnP l 0 = [] := fun e => by rw [e] at h1; simp at h1; omega
    have hg : (turnP l 0).getD ((turnP l 0).length - 1) 0 = l.getD 0 0 := by
      rw [h1, List.getD_eq_getElem?_getD, turn_get hp (by omega), List.getD_eq_getElem?_getD, show (l.length - 1 - (l.length - 1) + 0) % l.length = 0 by rw [Nat.sub_self, Nat.add_zero, Nat.zero_mod]]
    simp only [foldG, hz, hz2, if_false, hg]
    simp
section
set_option maxRecDepth 100000
set_option maxHeartbeats 4000000
theorem law10a (l : List Int) (k x : Int) (hr : l.length * 8 ≤ reachBytes) (id n : Nat) (hid : id < n) (h : Heap) (hk : h id = some ⟨l.map ii, 0, false, 1⟩) (hn : ∀ q, n ≤ q → h q = none) (e : Nat → AV) (he0 : e 0 = .s id 0 0 l.length) (he1 : e 1 = ii k) (he2 : e 2 = ii x) {Q : Ex → St → Prop} :
    awp (cx [3] (pfL tbl10)) (hdC 3 (Tryd.f10.body.getD .skip)) (thenQ (Q10 l k x id n) Q) ⟨e, h, n⟩ := by
  unfold reachBytes at hr
  have hbig : l.length < big := by unfold big; omega
  have hi : deIs (List.take l.length (l.map ii)) = some l := by rw [take_ii, deIs_ii]
  have z0 : ¬ id = n := by omega
  have hc : foldG sumL 5 l = knownV l.length := by simp [foldG]
  simp [awp_skip, awp_label, awp_region, awp_seq, awp_if, awp_block, awp_ret, awp_exit, thenQ_n, thenQ_e, thenQ_r, blockQ_n, blockQ_e, blockQ_r, finQ_n, finQ_r, finQ_e, resAll, resVal, resOne, aops_nil, aops_cons, atl_nil, atl_cons, adraw_eq, adrawA_nil, adrawA_cons, isA, goOp, gev, Region.binds, Heap.le_refl, aop, aeval, gocall, heapOp, quietOp, ev, constAV, setd, yav, ystop, up, env0, cx_ti, cx_G, cx_pf, ti, globS, glob, pfL, lds, ldc, ldcs, sts, sth, sls, slc, wr, place, fillOk, fillC, repZ, binI, isDiv, optInt, optI, eksOk, eksEq, EK.ok, EK.eq, AV.i, AV.isI, AV.isInt, AV.b.eq_1, AV.b.eq_2, AV.isB.eq_1, AV.isB.eq_2, AV.str, AV.isStr, unc_same, unc_tt, unc_tf, unc_f, unc_any, unc_v, unc_gp, unc_p, unc_s, unc_g, unc_e, unc_t, unc_fn, unc_okb, unc_bb, unc_isB, unc_b, AV.bb.eq_1, AV.bb.eq_2, AV.okb.eq_1, AV.okb.eq_2, AV.okg.eq_1, AV.okg.eq_2, AV.gd.eq_1, AV.gd.eq_2, AV.cells, AV.one, AV.ones, AV.slen, AV.isS, AV.isPtr, AV.gl, AV.isG, Value.oneCell', Nat.add_assoc, hdC, Tryd.f10, he0, he1, he2, hk, ii, vv, knownV, tbl10, g33, g25, pureAL, pure1, deI, ints, hbig, hi, z0, hc]
  refine ⟨by simp [up, he0], by simp [up, he1, ii], by simp [up, he2, ii], by simp [up, z0, hk, ii], by simp, fun q hq => ?_⟩
  simp only at hq
  simp only [up]
  repeat rw [if_neg (by omega)]
  exact hn q (by omega)
theorem law10b (l : List Int) (k x : Int) (hr : l.length * 8 ≤ reachBytes) (id n : Nat) (hid : id < n) (e : Nat → AV) (h : Heap) (n1 : Nat) (hs : Q10 l k x id n ⟨e, h, n1⟩) {Q : Ex → St → Prop} :
    awp (cx [3] (pfL tbl10)) (hdC 1 (tlC 3 (Tryd.f10.body.getD .skip))) (thenQ (R10 l k x id n) Q) ⟨e, h, n1⟩ := by
  unfold reachBytes at hr
  obtain ⟨q0, q1, q2, hh, hnn, hf⟩ := hs
  simp only [] at q0 q1 q2 hh hnn hf
  simp [awp_skip, awp_label, awp_region, awp_seq, awp_if, awp_block, awp_ret, awp_exit, thenQ_n, thenQ_e, thenQ_r, blockQ_n, blockQ_e, blockQ_r, finQ_n, finQ_r, finQ_e, resAll, resVal, resOne, aops_nil, aops_cons, atl_nil, atl_cons, adraw_eq, adrawA_nil, adrawA_cons, isA, goOp, gev, Region.binds, Heap.le_refl, aop, aeval, gocall, heapOp, quietOp, ev, constAV, setd, yav, ystop, up, env0, cx_ti, cx_G, cx_pf, ti, globS, glob, pfL, lds, ldc, ldcs, sts, sth, sls, slc, wr, place, fillOk, fillC, repZ, binI, isDiv, optInt, optI, eksOk, eksEq, EK.ok, EK.eq, AV.i, AV.isI, AV.isInt, AV.b.eq_1, AV.b.eq_2, AV.isB.eq_1, AV.isB.eq_2, AV.str, AV.isStr, unc_same, unc_tt, unc_tf, unc_f, unc_any, unc_v, unc_gp, unc_p, unc_s, unc_g, unc_e, unc_t, unc_fn, unc_okb, unc_bb, unc_isB, unc_b, AV.bb.eq_1, AV.bb.eq_2, AV.okb.eq_1, AV.okb.eq_2, AV.okg.eq_1, AV.okg.eq_2, AV.gd.eq_1, AV.gd.eq_2, AV.cells, AV.one, AV.ones, AV.slen, AV.isS, AV.isPtr, AV.gl, AV.isG, Value.oneCell', Nat.add_assoc, hdC, tlC, Tryd.f10, q0, q1, q2, ii, tbl10]
  refine (acall_any (S := []) (by simp) (c35 (k := k) hh (by omega) hf)).mono ?_
  rintro v h' n' ⟨hle, hf', hnn', ho⟩
  exact ⟨⟨by simp [up, q0], by simp [up, q1, ii], by simp [up, q2, ii], hle _ _ hh, by simp; omega, hf'⟩, by simpa [up] using own_lo ho hnn⟩
theorem law10c (l : List Int) (k x : Int) (ha : All l) (hr : l.length * 8 ≤ reachBytes) (id n : Nat) (hid : id < n) (e : Nat → AV) (h : Heap) (n1 : Nat) (hs : R10 l k x id n ⟨e, h, n1⟩) {Q : Ex → St → Prop} :
    awp (cx [3] (pfL tbl10)) (hdC 1 (tlC 4 (Tryd.f10.body.getD .skip))) (thenQ (R10 l k x id n) Q) ⟨e, h, n1⟩ := by
  unfold reachBytes at hr
  obtain ⟨⟨q0, q1, q2, hh, hnn, hf⟩, ho⟩ := hs
  simp only [] at q0 q1 q2 hh hnn hf ho
  have hbig : l.length < big := by unfold big; omega
  have hi : deIs (List.take l.length (l.map ii)) = some l := by rw [take_ii, deIs_ii]
  have f6 := fold_turn 6 (by simp) (placeL k l.length).toNat ha hbig
  have f7 := fold_turn 7 (by simp) (placeL k l.length).toNat ha hbig
  have f8 := fold_turn 8 (by simp) (placeL k l.length).toNat ha hbig
  have htl := turn_len l (placeL k l.length).toNat
  have hio := ints_own ho
  obtain ⟨tt, htt⟩ : ∃ tt, tt = turnP l (placeL k l.length).toNat := ⟨_, rfl⟩
  rw [← htt] at ho hio f6 f7 f8 htl
  obtain ⟨a8, q8⟩ : ∃ a8, e 8 = a8 := ⟨_, rfl⟩
  rw [q8] at hio ho
  have hil : ints h (.s id 0 0 l.length) = some l := by simp [ints, hh, take_ii, deIs_ii]
  have htb : tt.length < big := by omega
  have hu : ∀ g, AV.unc g a8 = a8 := fun g => by
    rcases ho with ⟨rfl, _⟩ | ⟨w, u, rfl, _⟩ <;> rfl
  simp [hu, awp_skip, awp_label, awp_region, awp_seq, awp_if, awp_block, awp_ret, awp_exit, thenQ_n, thenQ_e, thenQ_r, blockQ_n, blockQ_e, blockQ_r, finQ_n, finQ_r, finQ_e, resAll, resVal, resOne, aops_nil, aops_cons, atl_nil, atl_cons, adraw_eq, adrawA_nil, adrawA_cons, isA, goOp, gev, Region.binds, Heap.le_refl, aop, aeval, gocall, heapOp, quietOp, ev, constAV, setd, yav, ystop, up, env0, cx_ti, cx_G, cx_pf, ti, globS, glob, pfL, lds, ldc, ldcs, sts, sth, sls, slc, wr, place, fillOk, fillC, repZ, binI, isDiv, optInt, optI, eksOk, eksEq, EK.ok, EK.eq, AV.i, AV.isI, AV.isInt, AV.b.eq_1, AV.b.eq_2, AV.isB.eq_1, AV.isB.eq_2, AV.str, AV.isStr, unc_same, unc_tt, unc_tf, unc_f, unc_any, unc_v, unc_gp, unc_p, unc_s, unc_g, unc_e, unc_t, unc_fn, unc_okb, unc_bb, unc_isB, unc_b, AV.bb.eq_1, AV.bb.eq_2, AV.okb.eq_1, AV.okb.eq_2, AV.okg.eq_1, AV.okg.eq_2, AV.gd.eq_1, AV.gd.eq_2, AV.cells, AV.one, AV.ones, AV.slen, AV.isS, AV.isPtr, AV.gl, AV.isG, Value.oneCell', Nat.add_assoc, hdC, tlC, Tryd.f10, q0, q1, q2, q8, ii, vv, tbl10, g33, pureAL, deI, hio, hil, hbig, htb, f6, f7, f8]
  exact ⟨⟨by simp [up, q0], by simp [up, q1, ii], by simp [up, q2, ii], hh, hnn, hf⟩, by rw [← htt]; simpa [up, q8] using ho⟩
theorem law10d (l : List Int) (k x : Int) (ha : All l) (hr : l.length * 8 ≤ reachBytes) (id n : Nat) (hid : id < n) (e : Nat → AV) (h : Heap) (n1 : Nat) (hs : R10 l k x id n ⟨e, h, n1⟩) {Q : Ex → St → Prop} :
    awp (cx [3] (pfL tbl10)) (hdC 1 (tlC 5 (Tryd.f10.body.getD .skip))) (thenQ (R10 l k x id n) Q) ⟨e, h, n1⟩ := by
  unfold reachBytes at hr
  obtain ⟨⟨q0, q1, q2, hh, hnn, hf⟩, ho⟩ := hs
  simp only [] at q0 q1 q2 hh hnn hf ho
  have hbig : l.length < big := by unfold big; omega
  simp [awp_skip, awp_label, awp_region, awp_seq, awp_if, awp_block, awp_ret, awp_exit, thenQ_n, thenQ_e, thenQ_r, blockQ_n, blockQ_e, blockQ_r, finQ_n, finQ_r, finQ_e, resAll, resVal, resOne, aops_nil, aops_cons, atl_nil, atl_cons, adraw_eq, adrawA_nil, adrawA_cons, isA, goOp, gev, Region.binds, Heap.le_refl, aop, aeval, gocall, heapOp, quietOp, ev, constAV, setd, yav, ystop, up, env0, cx_ti, cx_G, cx_pf, ti, globS, glob, pfL, lds, ldc, ldcs, sts, sth, sls, slc, wr, place, fillOk, fillC, repZ, binI, isDiv, optInt, optI, eksOk, eksEq, EK.ok, EK.eq, AV.i, AV.isI, AV.isInt, AV.b.eq_1, AV.b.eq_2, AV.isB.eq_1, AV.isB.eq_2, AV.str, AV.isStr, unc_same, unc_tt, unc_tf, unc_f, unc_any, unc_v, unc_gp, unc_p, unc_s, unc_g, unc_e, unc_t, unc_fn, unc_okb, unc_bb, unc_isB, unc_b, AV.bb.eq_1, AV.bb.eq_2, AV.okb.eq_1, AV.okb.eq_2, AV.okg.eq_1, AV.okg.eq_2, AV.gd.eq_1, AV.gd.eq_2, AV.cells, AV.one, AV.ones, AV.slen, AV.isS, AV.isPtr, AV.gl, AV.isG, Value.oneCell', Nat.add_assoc, hdC, tlC, Tryd.f10, q0, q1, q2, ii, tbl10]
  refine (acall_any (S := []) (by simp) (c35 (k := 0) hh (by omega) hf)).mono ?_
  rintro v h' n' ⟨hle, hf', hnn', ho'⟩
  rw [place0] at ho'
  have hio := ints_own ho'
  have hlf := last_first l
  have htl := turn_len l 0
  have hh' := hle _ _ hh
  have hil : ints h' (.s id 0 0 l.length) = some l := by simp [ints, hh', take_ii, deIs_ii]
  have htb : (turnP l 0).length < big := by omega
  simp only [Int.toNat_zero] at hio
  simp [awp_skip, awp_label, awp_region, awp_seq, awp_if, awp_block, awp_ret, awp_exit, thenQ_n, thenQ_e, thenQ_r, blockQ_n, blockQ_e, blockQ_r, finQ_n, finQ_r, finQ_e, resAll, resVal, resOne, aops_nil, aops_cons, atl_nil, atl_cons, adraw_eq, adrawA_nil, adrawA_cons, isA, goOp, gev, Region.binds, Heap.le_refl, aop, aeval, gocall, heapOp, quietOp, ev, constAV, setd, yav, ystop, up, env0, cx_ti, cx_G, cx_pf, ti, globS, glob, pfL, lds, ldc, ldcs, sts, sth, sls, slc, wr, place, fillOk, fillC, repZ, binI, isDiv, optInt, optI, eksOk, eksEq, EK.ok, EK.eq, AV.i, AV.isI, AV.isInt, AV.b.eq_1, AV.b.eq_2, AV.isB.eq_1, AV.isB.eq_2, AV.str, AV.isStr, unc_same, unc_tt, unc_tf, unc_f, unc_any, unc_v, unc_gp, unc_p, unc_s, unc_g, unc_e, unc_t, unc_fn, unc_okb, unc_bb, unc_isB, unc_b, AV.bb.eq_1, AV.bb.eq_2, AV.okb.eq_1, AV.okb.eq_2, AV.okg.eq_1, AV.okg.eq_2, AV.gd.eq_1, AV.gd.eq_2, AV.cells, AV.one, AV.ones, AV.slen, AV.isS, AV.isPtr, AV.gl, AV.isG, Value.oneCell', Nat.add_assoc, g33, pureAL, deI, hio, hil, hbig, htb, vv, hlf, q0, ii]
  exact ⟨⟨by simp [up, q0], by simp [up, q1, ii], by simp [up, q2, ii], hh', by simp; omega, hf'⟩, by simpa [up] using own_le ho hle hnn'⟩
theorem neg_rng {x : Int} (hx : Rng x) (h : x ≠ -9223372036854775808) : IntKind.i64.wrap (0 - x) = -x ∧ Rng (-x) := by
  unfold Rng at hx ⊢
  have : W (0 - x) = 0 - x := W_id (by unfold Rng; omega)
  refine ⟨?_, by omega⟩
  unfold W at this
  rw [this]
  omega
theorem law10e (l : List Int) (k x : Int) (ha : All l) (hx : Rng x) (hr : l.length * 8 ≤ reachBytes) (id n : Nat) (hid : id < n) (e : Nat → AV) (h : Heap) (n1 : Nat) (hs : R10 l k x id n ⟨e, h, n1⟩) :
    awp (cx [3] (pfL tbl10)) (tlC 6 (Tryd.f10.body.getD .skip)) (finQ (cx [3] (pfL tbl10)) Tryd.f10 fun z _ _ => z = bv true) ⟨e, h, n1⟩ := by
  unfold reachBytes at hr
  obtain ⟨⟨q0, q1, q2, hh, hnn, hf⟩, ho⟩ := hs
  simp only [] at q0 q1 q2 hh hnn hf ho
  by_cases hm : x = -9223372036854775808
  · subst hm
    simp [awp_skip, awp_label, awp_region, awp_seq, awp_if, awp_block, awp_ret, awp_exit, thenQ_n, thenQ_e, thenQ_r, blockQ_n, blockQ_e, blockQ_r, finQ_n, finQ_r, finQ_e, resAll, resVal, resOne, aops_nil, aops_cons, atl_nil, atl_cons, adraw_eq, adrawA_nil, adrawA_cons, isA, goOp, gev, Region.binds, Heap.le_refl, aop, aeval, gocall, heapOp, quietOp, ev, constAV, setd, yav, ystop, up, env0, cx_ti, cx_G, cx_pf, ti, globS, glob, pfL, lds, ldc, ldcs, sts, sth, sls, slc, wr, place, fillOk, fillC, repZ, binI, isDiv, optInt, optI, eksOk, eksEq, EK.ok, EK.eq, AV.i, AV.isI, AV.isInt, AV.b.eq_1, AV.b.eq_2, AV.isB.eq_1, AV.isB.eq_2, AV.str, AV.isStr, unc_same, unc_tt, unc_tf, unc_f, unc_any, unc_v, unc_gp, unc_p, unc_s, unc_g, unc_e, unc_t, unc_fn, unc_okb, unc_bb, unc_isB, unc_b, AV.bb.eq_1, AV.bb.eq_2, AV.okb.eq_1, AV.okb.eq_2, AV.okg.eq_1, AV.okg.eq_2, AV.gd.eq_1, AV.gd.eq_2, AV.cells, AV.one, AV.ones, AV.slen, AV.isS, AV.isPtr, AV.gl, AV.isG, Value.oneCell', Nat.add_assoc, tlC, Tryd.f10, q0, q1, q2, ii, bv]
  obtain ⟨hw, hnr⟩ := neg_rng hx hm
  have hw' : IntKind.i64.wrap (-x) = -x := W_id hnr
  have hbig : l.length < big := by unfold big; omega
  have htl := turn_len l (placeL k l.length).toNat
  have hsum := turn_sum l (placeL k l.length).toNat
  have hta := turn_all (placeL k l.length).toNat ha
  generalize turnP l (placeL k l.length).toNat = tt at *
  obtain ⟨wl, hwl⟩ : ∃ wl, wl = x :: (tt ++ [-x]) := ⟨_, rfl⟩
  have hwa : All wl := fun y hy => by
    rw [hwl] at hy
    simp only [List.mem_cons, List.mem_append, List.not_mem_nil, or_false] at hy
    rcases hy with rfl | hy | rfl
    · exact hx
    · exact hta _ hy
    · exact hnr
  have hwlen : wl.length = l.length + 2 := by rw [hwl]; simp [htl]
  have hws : wl.sum = l.sum := by
    rw [hwl, List.sum_cons, List.sum_append, hsum]
    simp
    omega
  have hwz : ¬ wl = [] := by rw [hwl]; simp
  have f6 : foldG sumL 6 wl = foldG sumL 6 l := by
    simp only [foldG]
    rw [sumL_eq hwa (by unfold big; omega), sumL_eq ha hbig, hws]
    simp
  have f10 : foldG sumL 10 wl = knownV (-x) := by
    have hg : wl.getD (wl.length - 1) 0 = -x := by
      rw [hwl, show (x :: (tt ++ [-x])).length - 1 = tt.length + 1 by simp]
      simp [List.getD_eq_getElem?_getD]
    simp only [foldG, hwz, if_false, hg]
    simp
  have hwb : wl.length < big := by unfold big; omega
  have hdw : deIs (wl.map ii) = some wl := deIs_ii wl
  have hmap : wl.map ii = ii x :: ((tt.map ii) ++ [ii (-x)]) := by rw [hwl]; simp
  have hil : deIs (List.take l.length (l.map ii)) = some l := by rw [take_ii, deIs_ii]
  have y0 : ¬ id = n1 := by
    intro e'
    rw [e', hf n1 (Nat.le_refl _)] at hh
    cases hh
  have hidn : id < n1 := by
    by_cases hlt : id < n1
    · exact hlt
    · rw [hf id (by omega)] at hh; cases hh
  have y2 : ¬ id = n1 + 2 := by omega
  rcases ho with ⟨q8, hnil⟩ | ⟨w, u, q8, hm8, hwg, hwl8⟩
  · subst hnil
    have hl0 : l = [] := List.eq_nil_of_length_eq_zero (by simpa using htl.symm)
    subst hl0
    simp only [List.map_nil, List.nil_append] at hmap
    rw [hmap] at hdw
    simp only [ii] at hdw
    have hdn : deIs [] = some [] := rfl
    simp [hdn, awp_skip, awp_label, awp_region, awp_seq, awp_if, awp_block, awp_ret, awp_exit, thenQ_n, thenQ_e, thenQ_r, blockQ_n, blockQ_e, blockQ_r, finQ_n, finQ_r, finQ_e, resAll, resVal, resOne, aops_nil, aops_cons, atl_nil, atl_cons, adraw_eq, adrawA_nil, adrawA_cons, isA, goOp, gev, Region.binds, Heap.le_refl, aop, aeval, gocall, heapOp, quietOp, ev, constAV, setd, yav, ystop, up, env0, cx_ti, cx_G, cx_pf, ti, globS, glob, pfL, lds, ldc, ldcs, sts, sth, sls, slc, wr, place, fillOk, fillC, repZ, binI, isDiv, optInt, optI, eksOk, eksEq, EK.ok, EK.eq, AV.i, AV.isI, AV.isInt, AV.b.eq_1, AV.b.eq_2, AV.isB.eq_1, AV.isB.eq_2, AV.str, AV.isStr, unc_same, unc_tt, unc_tf, unc_f, unc_any, unc_v, unc_gp, unc_p, unc_s, unc_g, unc_e, unc_t, unc_fn, unc_okb, unc_bb, unc_isB, unc_b, AV.bb.eq_1, AV.bb.eq_2, AV.okb.eq_1, AV.okb.eq_2, AV.okg.eq_1, AV.okg.eq_2, AV.gd.eq_1, AV.gd.eq_2, AV.cells, AV.one, AV.ones, AV.slen, AV.isS, AV.isPtr, AV.gl, AV.isG, Value.oneCell', Nat.add_assoc, tlC, Tryd.f10, q0, q1, q2, q8, hh, ii, hm, hw, hw', vv, bv, knownV, tbl10, g33, g25, pureAL, pure1, deI, ints, y0, y2, hdw, f6, f10, hwb, hbig]
    unfold big
    omega
  · rw [htl] at q8
    have yw : ¬ w = n1 := by omega
    have yw2 : ¬ w = n1 + 2 := by omega
    have htm : List.take l.length (tt.map ii) = tt.map ii := List.take_of_length_le (by simp [htl])
    have htm2 : (tt.map ii).length = l.length := by simp [htl]
    generalize tt.map ii = ct at *
    have hcl : (ii x :: (ct ++ [ii (-x)])).length = 1 + (l.length + 1) := by simp [htm2]; omega
    rw [hmap] at hdw
    have hdw2 : deIs (List.take (1 + (l.length + 1)) (ii x :: (ct ++ [ii (-x)]))) = some wl := by rw [List.take_of_length_le (by omega), hdw]
    have hle2 : 1 + (l.length + 1) ≤ l.length + 2 := by omega
    simp only [ii] at hdw2
    simp [hdw2, hle2, awp_skip, awp_label, awp_region, awp_seq, awp_if, awp_block, awp_ret, awp_exit, thenQ_n, thenQ_e, thenQ_r, blockQ_n, blockQ_e, blockQ_r, finQ_n, finQ_r, finQ_e, resAll, resVal, resOne, aops_nil, aops_cons, atl_nil, atl_cons, adraw_eq, adrawA_nil, adrawA_cons, isA, goOp, gev, Region.binds, Heap.le_refl, aop, aeval, gocall, heapOp, quietOp, ev, constAV, setd, yav, ystop, up, env0, cx_ti, cx_G, cx_pf, ti, globS, glob, pfL, lds, ldc, ldcs, sts, sth, sls, slc, wr, place, fillOk, fillC, repZ, binI, isDiv, optInt, optI, eksOk, eksEq, EK.ok, EK.eq, AV.i, AV.isI, AV.isInt, AV.b.eq_1, AV.b.eq_2, AV.isB.eq_1, AV.isB.eq_2, AV.str, AV.isStr, unc_same, unc_tt, unc_tf, unc_f, unc_any, unc_v, unc_gp, unc_p, unc_s, unc_g, unc_e, unc_t, unc_fn, unc_okb, unc_bb, unc_isB, unc_b, AV.bb.eq_1, AV.bb.eq_2, AV.okb.eq_1, AV.okb.eq_2, AV.okg.eq_1, AV.okg.eq_2, AV.gd.eq_1, AV.gd.eq_2, AV.cells, AV.one, AV.ones, AV.slen, AV.isS, AV.isPtr, AV.gl, AV.isG, Value.oneCell', Nat.add_assoc, tlC, Tryd.f10, q0, q1, q2, q8, hh, hm8, ii, hm, hw, hw', vv, bv, knownV, tbl10, g33, g25, pureAL, pure1, deI, ints, y0, y2, yw, yw2, htm, htm2, hdw, f6, f10, hwb, hbig, hil]
    exact ⟨⟨by omega, by omega⟩, by omega, by omega, by omega⟩
theorem law10 (l : List Int) (k x : Int) (ha : All l) (hr : l.length * 8 ≤ reachBytes) (_ : Rng k) (hx : Rng x) (id : Nat) (h : Heap) (n : Nat) (hk : h id = some ⟨l.map ii, 0, false, 1⟩) (hn : ∀ i, n ≤ i → h i = none) :
    awp (cx [3] (pfL tbl10)) (Tryd.f10.body.getD .skip) (finQ (cx [3] (pfL tbl10)) Tryd.f10 fun z _ _ => z = bv true) ⟨env0 [.s id 0 0 l.length, ii k, ii x], roH h, n⟩ := by
  have hid : id < n := by
    by_cases hid : id < n
    · exact hid
    · rw [hn id (by omega)] at hk; cases hk
  refine awp_cut 3 _ _ (law10a l k x hr id n hid (roH h) (ro_at hk) (fun q hq => by simp [roH, hn q hq]) _ rfl rfl rfl) fun e1 h1 n1 s1 => ?_
  refine awp_cut 1 _ _ (law10b l k x hr id n hid e1 h1 n1 s1) fun e2 h2 n2 s2 => ?_
  refine awp_cut 1 _ _ (law10c l k x ha hr id n hid e2 h2 n2 s2) fun e3 h3 n3 s3 => ?_
  refine awp_cut 1 _ _ (law10d l k x ha hr id n hid e3 h3 n3 s3) fun e4 h4 n4 s4 => ?_
  exact law10e l k x ha hx hr id n hid e4 h4 n4 s4
end
end Go.Proofs.YtnodenojdjlbnaaDoor
