/-
  NumRing: the law's own code.
-/
import Derived.Test.YtnodenojdjlbnaaDoorMb
set_option linter.unusedSimpArgs false
namespace Go.Proofs.YtnodenojdjlbnaaDoor
open Go Go.Eng
def tbl13 : List (FuncId × (List AV → Heap → PRes)) := [(30, g30), (31, g31), (36, g36), (37, g37), (25, g25)]
theorem tbl13_ok : TbOk [3] tbl13 := tb_cons p30 (tb_cons p31 (tb_cons p36 (tb_cons p37 (tb_cons p25 tb_nil))))
theorem rng_fit (n : Int) : Rng (fitV n).n := by
  by_cases h : Rng n
  · rw [fitV_pos h]; exact h
  · rw [fitV_neg h]; unfold Rng; simp
theorem rng_on2 {f : Int → Int → Int} (a b : V) : Rng (on2 (fun x y => fitV (f x y)) a b).n := by
  unfold on2
  split
  · exact rng_fit _
  · unfold Rng unk; simp
theorem on2_k {f : Int → Int → Int} {a b : V} (h : (on2 (fun x y => fitV (f x y)) a b).k = true) : a.k = true ∧ b.k = true ∧ Rng (f a.n b.n) ∧ on2 (fun x y => fitV (f x y)) a b = ⟨true, f a.n b.n⟩ := by
  unfold on2 at h ⊢
  split at h
  · rename_i hk
    simp only [Bool.and_eq_true] at hk
    by_cases hr : Rng (f a.n b.n)
    · refine ⟨hk.1, hk.2, hr, ?_⟩
      simp [hk.1, hk.2, fitV_pos hr]
    · have h' : (fitV (f a.n b.n)).k = true := h
      rw [fitV_neg hr] at h'
      cases h'
  · cases h
section
variable {a b c : V} (ha : Rng a.n) (hb : Rng b.n) (hc : Rng c.n)
include ha hb
theorem add_comm' : addL b a = addL a b := by
  rw [addL_eq hb ha, addL_eq ha hb]
  simp only [addV, on2, Int.add_comm b.n, Bool.and_comm b.k]
theorem mul_comm' : mulL b a = mulL a b := by
  rw [mulL_eq hb ha, mulL_eq ha hb]
  simp only [mulV, on2, Int.mul_comm b.n, Bool.and_comm b.k]
theorem ring_neg (h : (negL b).k = true) : subL a b = addL a (negL b) := by
  rw [negL_eq hb] at h ⊢
  have hk : b.k = true := by
    simp only [negV] at h
    split at h
    · assumption
    · cases h
  have hr : Rng (0 - b.n) := by
    simp only [negV, hk, if_true] at h
    by_cases hr : Rng (0 - b.n)
    · exact hr
    · rw [fitV_neg hr] at h; cases h
  have e : negV b = ⟨true, 0 - b.n⟩ := by simp only [negV, hk, if_true, fitV_pos hr]
  rw [e, subL_eq ha hb, addL_eq ha hr]
  simp only [subV, addV, on2, hk, show a.n + (0 - b.n) = a.n - b.n by omega]
include hc
theorem ring_add (h1 : (addL a b).k = true) (h2 : (addL b c).k = true) : addL (addL a b) c = addL a (addL b c) := by
  rw [addL_eq ha hb] at h1 ⊢
  rw [addL_eq hb hc] at h2 ⊢
  obtain ⟨q1, q2, q3, q4⟩ := on2_k (f := fun x y => x + y) h1
  obtain ⟨r1, r2, r3, r4⟩ := on2_k (f := fun x y => x + y) h2
  have e1 : addV a b = ⟨true, a.n + b.n⟩ := q4
  have e2 : addV b c = ⟨true, b.n + c.n⟩ := r4
  rw [e1, e2, addL_eq q3 hc, addL_eq ha r3]
  simp only [addV, on2, q1, r2, Int.add_assoc]
theorem ring_mul (h1 : (mulL a b).k = true) (h2 : (mulL b c).k = true) : mulL (mulL a b) c = mulL a (mulL b c) := by
  rw [mulL_eq ha hb] at h1 ⊢
  rw [mulL_eq hb hc] at h2 ⊢
  obtain ⟨q1, q2, q3, q4⟩ := on2_k (f := fun x y => x * y) h1
  obtain ⟨r1, r2, r3, r4⟩ := on2_k (f := fun x y => x * y) h2
  have e1 : mulV a b = ⟨true, a.n * b.n⟩ := q4
  have e2 : mulV b c = ⟨true, b.n * c.n⟩ := r4
  rw [e1, e2, mulL_eq q3 hc, mulL_eq ha r3]
  simp only [mulV, on2, q1, r2, Int.mul_assoc]
theorem ring_dist (h1 : (addL b c).k = true) (h2 : (mulL a b).k = true) (h3 : (mulL a c).k = true) : mulL a (addL b c) = addL (mulL a b) (mulL a c) := by
  rw [addL_eq hb hc] at h1 ⊢
  rw [mulL_eq ha hb] at h2 ⊢
  rw [mulL_eq ha hc] at h3 ⊢
  obtain ⟨q1, q2, q3, q4⟩ := on2_k (f := fun x y => x + y) h1
  obtain ⟨r1, r2, r3, r4⟩ := on2_k (f := fun x y => x * y) h2
  obtain ⟨s1, s2, s3, s4⟩ := on2_k (f := fun x y => x * y) h3
  have e1 : addV b c = ⟨true, b.n + c.n⟩ := q4
  have e2 : mulV a b = ⟨true, a.n * b.n⟩ := r4
  have e3 : mulV a c = ⟨true, a.n * c.n⟩ := s4
  rw [e1, e2, e3, mulL_eq ha q3, addL_eq r3 s3]
  simp only [mulV, addV, on2, r1, Int.mul_add]
end
theorem V_eta' (a : V) : (⟨a.k, a.n⟩ : V) = a := rfl
def Law13 (a b c : V) : Prop := ∀ (h : Heap) (n : Nat), awp (cx [3] (pfL tbl13)) (Tryd.f13.body.getD .skip) (finQ (cx [3] (pfL tbl13)) Tryd.f13 fun z _ _ => z = bv true) ⟨env0 [vv a, vv b, vv c], h, n⟩
theorem c1 : addL ⟨true, 1⟩ ⟨true, 1⟩ = ⟨true, 2⟩ := rfl
theorem c2 : mulL ⟨true, 2⟩ ⟨true, 2⟩ = ⟨true, 4⟩ := by rw [mulL_eq (by unfold Rng; decide) (by unfold Rng; decide)]; rfl
set_option maxRecDepth 100000 in
set_option maxHeartbeats 2000000 in
theorem law13_none {x : Int} {b c : V} (ha : Rng x) (hb : Rng b.n) (hc : Rng c.n) : Law13 ⟨false, x⟩ b c := by
  intro h n
  have z1 : ∀ v, addL ⟨false, x⟩ v = ⟨false, 0⟩ := fun v => rfl
  have z2 : ∀ v : V, addL v ⟨false, x⟩ = ⟨false, 0⟩ := fun v => by simp [addL, unk]
  have z3 : ∀ v, mulL ⟨false, x⟩ v = ⟨false, 0⟩ := fun v => rfl
  have z4 : ∀ v : V, mulL v ⟨false, x⟩ = ⟨false, 0⟩ := fun v => by simp [mulL, unk]
  have z5 : ∀ v, subL ⟨false, x⟩ v = ⟨false, 0⟩ := fun v => rfl
  simp [awp_skip, awp_label, awp_region, awp_seq, awp_if, awp_block, awp_ret, awp_exit, thenQ, blockQ, finQ, resAll, resVal, resOne, aops, adraw, aop, aeval, gocall, heapOp, quietOp, ev, constAV, setd, yav, ystop, up, env0, cx_ti, cx_G, cx_pf, ti, globS, glob, pfL, lds, ldc, ldcs, sts, sth, sls, slc, wr, place, fillOk, fillC, repZ, binI, isDiv, optInt, optI, eksOk, eksEq, EK.ok, EK.eq, AV.i, AV.isI, AV.isInt, AV.b.eq_1, AV.b.eq_2, AV.isB.eq_1, AV.isB.eq_2, AV.str, AV.isStr, unc_same, unc_tt, unc_tf, unc_f, unc_any, unc_v, unc_gp, unc_p, unc_s, unc_g, unc_t, unc_fn, unc_okb, unc_bb, unc_isB, unc_b, AV.bb.eq_1, AV.bb.eq_2, AV.okb.eq_1, AV.okb.eq_2, AV.okg.eq_1, AV.okg.eq_2, AV.gd.eq_1, AV.gd.eq_2, AV.cells, AV.one, AV.ones, AV.slen, AV.isS, AV.isPtr, AV.gl, AV.isG, Value.oneCell', Nat.add_assoc, Tryd.f13, tbl13, g30, g31, g36, g37, g25, pure1, pure2, deV, deI, vv, ii, bv, knownV, V_eta', c1, c2, z1, z2, z3, z4, z5]
set_option maxRecDepth 100000 in
set_option maxHeartbeats 2000000 in
theorem law13_some {x : Int} {b c : V} (ha : Rng x) (hb : Rng b.n) (hc : Rng c.n) : Law13 ⟨true, x⟩ b c := by
  intro h n
  have e1 := add_comm' (a := ⟨true, x⟩) ha hb
  have e2 := mul_comm' (a := ⟨true, x⟩) ha hb
  have f1 := ring_add (a := ⟨true, x⟩) ha hb hc
  have f2 := ring_mul (a := ⟨true, x⟩) ha hb hc
  have f3 := ring_dist (a := ⟨true, x⟩) ha hb hc
  have f4 := ring_neg (a := ⟨true, x⟩) ha hb
  have g1 : addL ⟨true, x⟩ ⟨true, 0⟩ = ⟨true, x⟩ := by
    rw [addL_eq ha (by unfold Rng; decide)]
    simp only [addV, on2, Bool.and_self, if_true, Int.add_zero, fitV_pos ha]
  have g2 : mulL ⟨true, x⟩ ⟨true, 1⟩ = ⟨true, x⟩ := by
    rw [mulL_eq ha (by unfold Rng; decide)]
    simp only [mulV, on2, Bool.and_self, if_true, Int.mul_one, fitV_pos ha]
  have g3 : subL ⟨true, x⟩ ⟨true, x⟩ = ⟨true, 0⟩ := by
    rw [subL_eq ha ha]
    simp only [subV, on2, Bool.and_self, if_true, Int.sub_self]
    rfl
  simp [awp_skip, awp_label, awp_region, awp_seq, awp_if, awp_block, awp_ret, awp_exit, thenQ, blockQ, finQ, resAll, resVal, resOne, aops, adraw, aop, aeval, gocall, heapOp, quietOp, ev, constAV, setd, yav, ystop, up, env0, cx_ti, cx_G, cx_pf, ti, globS, glob, pfL, lds, ldc, ldcs, sts, sth, sls, slc, wr, place, fillOk, fillC, repZ, binI, isDiv, optInt, optI, eksOk, eksEq, EK.ok, EK.eq, AV.i, AV.isI, AV.isInt, AV.b.eq_1, AV.b.eq_2, AV.isB.eq_1, AV.isB.eq_2, AV.str, AV.isStr, unc_same, unc_tt, unc_tf, unc_f, unc_any, unc_v, unc_gp, unc_p, unc_s, unc_g, unc_t, unc_fn, unc_okb, unc_bb, unc_isB, unc_b, AV.bb.eq_1, AV.bb.eq_2, AV.okb.eq_1, AV.okb.eq_2, AV.okg.eq_1, AV.okg.eq_2, AV.gd.eq_1, AV.gd.eq_2, AV.cells, AV.one, AV.ones, AV.slen, AV.isS, AV.isPtr, AV.gl, AV.isG, Value.oneCell', Nat.add_assoc, Tryd.f13, tbl13, g30, g31, g36, g37, g25, pure1, pure2, deV, deI, vv, ii, bv, knownV, V_eta', e1, e2, c1, c2, g1, g2, g3]
  exact ⟨fun p q => by rw [f1 p q]; exact ⟨rfl, rfl⟩, fun p q => by rw [f2 p q]; exact ⟨rfl, rfl⟩, fun p q r => by rw [f3 p q r]; exact ⟨rfl, rfl⟩, fun p => by rw [f4 p]; exact ⟨rfl, rfl⟩⟩
theorem law13 (a b c : V) (ha : Rng a.n) (hb : Rng b.n) (hc : Rng c.n) (h : Heap) (n : Nat) : awp (cx [3] (pfL tbl13)) (Tryd.f13.body.getD .skip) (finQ (cx [3] (pfL tbl13)) Tryd.f13 fun z _ _ => z = bv true) ⟨env0 [vv a, vv b, vv c], h, n⟩ := by
  obtain ⟨k, x⟩ := a
  cases k
  · exact law13_none ha hb hc h n
  · exact law13_some ha hb hc h n
end Go.Proofs.YtnodenojdjlbnaaDoor
