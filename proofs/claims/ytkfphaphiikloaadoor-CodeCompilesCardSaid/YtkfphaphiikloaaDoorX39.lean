/-
  CodeCompiles: the law's own code, the rest but one.
-/
import Derived.Test.YtkfphaphiikloaaDoorX38
set_option linter.unusedSimpArgs false
set_option linter.unusedVariables false
set_option linter.constructorNameAsVariable false
namespace Go.Proofs.YtkfphaphiikloaaDoor
open Go Go.Eng

section
set_option maxRecDepth 100000
set_option maxHeartbeats 4000000
variable {h : Heap} {n : Nat} {sa qa qb qc ta : AV} {v : V3}
theorem law3g (w : W3 v) (h6 : Heap) (k wr' p hi : Nat) (e : Nat → AV) (h' : Heap) (n' : Nat) (hpn : p ≤ n') (b : F3 v h6 k ⟨e, h', n'⟩) (c : Room3 ⟨e, h', n'⟩ k wr' p v.t.length v.t) (d : HasP ⟨e, h', n'⟩ 11 p hi (compP v.sc (vars v.q.items) v.t)) {Q : Ex → St → Prop} :
    awp (cx S3 (pfL tbl3)) (hdC 1 (tlC 7 (Tryd.f3.body.getD .skip))) (thenQ (fun s => n' ≤ s.n ∧ F3 v h6 k s ∧ Room3 s k wr' p v.t.length v.t ∧ HasP s 11 p hi (compP v.sc (vars v.q.items) v.t)) Q) ⟨e, h', n'⟩ := by
  obtain ⟨cd, e0⟩ : ∃ cd, hdC 1 (tlC 7 (Tryd.f3.body.getD .skip)) = .seq (hdC 1 (hdC 1 (tlC 7 (Tryd.f3.body.getD .skip)))) cd := ⟨_, rfl⟩
  rw [e0, awp_seq]
  refine law3g1 w h6 k wr' p hi e h' n' hpn b c d ?_
  intro e2 h2 n2 q62 he a1 a2 a3
  have hn := d.choose_spec.choose_spec.choose_spec.2.2.2.1
  simp only [] at hn
  have hc : cd = _ := (Code.seq.inj e0).2.symm
  subst hc
  simp [evs, resAll, resVal, resOne, freeOp, isA, goOp, appNew, mkOp, gev, Region.binds, aop, aeval, gocall, heapOp, quietOp, ev, constAV, setd, yav, ystop, up, env0, cx_ti, cx_G, cx_pf, ti, globS, glob, pfL, lds, ldc, ldcs_1, ldcs_2, ldcs_3, ldcs_4, ldcs_5, ldcs_7, sts, sth, sls.eq_1, slc.eq_1, wr, place, fillOk, fillC, repZ, binI, isDiv, optInt, optI, eksOk, eksEq, EK.ok, EK.eq, AV.i, AV.isI, AV.isInt, AV.str, AV.isStr, AV.ones, AV.isPtr, AV.gl, AV.isG, Value.oneCell', hdC, tlC, Tryd.f3, q62]
  have kn := b.kn
  simp only [] at kn
  exact ⟨a3, b.up (fun i hi => he i (by revert hi; simp; omega)) (fun j hj => a1 j (by omega)) a2 a3, c.up (he 10 (by simp)) (a1 _ (by have := c.2.2.2.1; omega)) (Nat.le_refl _), d.up (he 11 (by simp)) (fun q _ hq => a1 q (by omega)) a3⟩
theorem law3h (w : W3 v) (h6 : Heap) (k wr' p hi : Nat) (e : Nat → AV) (h' : Heap) (n' : Nat) (hpn : p ≤ n') (b : F3 v h6 k ⟨e, h', n'⟩) (c : Room3 ⟨e, h', n'⟩ k wr' p v.t.length v.t) (d : HasP ⟨e, h', n'⟩ 11 p hi (compP v.sc (vars v.q.items) v.t)) {Q : Ex → St → Prop} :
    awp (cx S3 (pfL tbl3)) (hdC 1 (tlC 8 (Tryd.f3.body.getD .skip))) (thenQ (fun s => n' ≤ s.n ∧ F3 v h6 k s ∧ Room3 s k wr' p v.t.length v.t ∧ HasP s 11 p hi (compP v.sc (vars v.q.items) v.t) ∧ HasT s 12 n' s.n (compP v.sc (vars v.q.items) v.t)) Q) ⟨e, h', n'⟩ := by
  have b0 := b
  have c0 := c
  have d0 := d
  have fr := b.frs
  have kn := b.kn
  have hsm := comp_sm (vs := vars v.q.items) w.tl w.sm
  have hw2 := c.2.2.2.1
  obtain ⟨m11, ca, la, q11, j1, j2, j3, b11, o11⟩ := d
  simp only [] at fr kn q11 j3 b11 o11
  simp [evs, resAll, resVal, resOne, freeOp, isA, goOp, appNew, mkOp, gev, Region.binds, aop, aeval, gocall, heapOp, quietOp, ev, constAV, setd, yav, ystop, up, env0, cx_ti, cx_G, cx_pf, ti, globS, glob, pfL, lds, ldc, ldcs_1, ldcs_2, ldcs_3, ldcs_4, ldcs_5, ldcs_7, sts, sth, sls.eq_1, slc.eq_1, wr, place, fillOk, fillC, repZ, binI, isDiv, optInt, optI, eksOk, eksEq, EK.ok, EK.eq, AV.i, AV.isI, AV.isInt, AV.str, AV.isStr, AV.ones, AV.isPtr, AV.gl, AV.isG, Value.oneCell', hdC, tlC, Tryd.f3, q11, b11, tbl3]
  refine (acall_any (S := []) (by simp) (c25 o11.rd hsm fr)).mono ?_
  rintro z h2 n2 ⟨a1, a2, a3, a4⟩
  obtain ⟨w', zb, rfl, o2, o3, o4, o5⟩ := a4
  obtain ⟨v1, v2, v3, v4, v5⟩ := o5.is
  simp [evs, resAll, resVal, resOne, freeOp, isA, goOp, appNew, mkOp, gev, Region.binds, aop, aeval, gocall, heapOp, quietOp, ev, constAV, setd, yav, ystop, up, env0, cx_ti, cx_G, cx_pf, ti, globS, glob, pfL, lds, ldc, ldcs_1, ldcs_2, ldcs_3, ldcs_4, ldcs_5, ldcs_7, sts, sth, sls.eq_1, slc.eq_1, wr, place, fillOk, fillC, repZ, binI, isDiv, optInt, optI, eksOk, eksEq, EK.ok, EK.eq, AV.i, AV.isI, AV.isInt, AV.str, AV.isStr, AV.ones, AV.isPtr, AV.gl, AV.isG, Value.oneCell', v4]
  generalize compP v.sc (vars v.q.items) v.t = P at *
  have hag : ∀ b1 b2, agree n' h' (up (up h2 n2 b1) n2 b2) := fun b1 b2 => by simp [agree_up, a1, a3]
  refine ⟨by omega, b0.up (by simp [up]) (fun j hj => hag _ _ j (by omega)) (by simp [fresh_up, a2.add]) (by first | omega | (simp only []; omega)), c0.up (by simp [up]) (hag _ _ _ (by omega)) (Nat.le_refl _), d0.up (by simp [up]) (fun q _ hq => hag _ _ q (by omega)) (by first | omega | (simp only []; omega)), n2, .s w' 1 0 P.code.length, zb, by simp [up], by omega, by simp, by simp, by simp [up], ?_⟩
  refine OwnP.congr ⟨w', zb, rfl, o2, Nat.le_trans (by omega) o3, o4, o5⟩ (fun q h1 h2 => ?_) (by first | omega | (simp only []; omega))
  simp only []
  rw [up_ne _ _ (by omega), up_ne _ _ (by omega)]
theorem law3i (w : W3 v) (h6 : Heap) (k wr' p hi lo hi' : Nat) (e : Nat → AV) (h' : Heap) (n' : Nat) (hpn : p ≤ n') (hpl : p ≤ lo) (b : F3 v h6 k ⟨e, h', n'⟩) (c : Room3 ⟨e, h', n'⟩ k wr' p v.t.length v.t) {P : Pr} (d : HasP ⟨e, h', n'⟩ 11 p hi P) (f : HasT ⟨e, h', n'⟩ 12 lo hi' P) {Q : Ex → St → Prop} :
    awp (cx S3 (pfL tbl3)) (hdC 1 (tlC 9 (Tryd.f3.body.getD .skip))) (thenQ (fun s => n' ≤ s.n ∧ F3 v h6 k s ∧ (∃ t, Room3 s k wr' p v.t.length t) ∧ HasP s 11 p hi P ∧ HasT s 12 lo hi' P) Q) ⟨e, h', n'⟩ := by
  have b0 := b
  have d0 := d
  have f0 := f
  have at2 := rd_agr b.fr6 b.at2 _ b.ag
  have fr := b.frs
  obtain ⟨q13, hw, hw1, hw2, _⟩ := c
  simp only [] at at2 fr q13 hw hw1 hw2
  obtain ⟨ta, q2⟩ : ∃ x, e 2 = x := ⟨_, rfl⟩
  rw [q2] at at2
  obtain ⟨s1, s2, s3, s4, s5⟩ := sl_is at2
  have hcl : ((v.t ++ marks 40).flatMap ncells).length = (v.t.length + 40) * 6 := by rw [flat_len Flat.nd, List.length_append, marks_len]
  have hl1 : (v.t.length : Int) ≤ (v.t.length : Int) + 40 := by omega
  have hw' : h' wr' = some ⟨v.t.flatMap ncells ++ (marks 40).flatMap ncells, 41, true, 6⟩ := by rw [hw, List.flatMap_append]
  simp [evs, resAll, resVal, resOne, freeOp, isA, goOp, appNew, mkOp, gev, Region.binds, aop, aeval, gocall, heapOp, quietOp, ev, constAV, setd, yav, ystop, up, env0, cx_ti, cx_G, cx_pf, ti, globS, glob, pfL, lds, ldc, ldcs_1, ldcs_2, ldcs_3, ldcs_4, ldcs_5, ldcs_7, sts, sth, sls.eq_1, slc.eq_1, wr, place, fillOk, fillC, repZ, binI, isDiv, optInt, optI, eksOk, eksEq, EK.ok, EK.eq, AV.i, AV.isI, AV.isInt, AV.str, AV.isStr, AV.ones, AV.isPtr, AV.gl, AV.isG, Value.oneCell', hdC, tlC, Tryd.f3, q2, q13, s1, s2, s3, tbl3, hl1]
  refine (acall_any (S := []) (by simp) (c26 hw' (by have := w.t1; unfold smallT; omega) w.t2 fr (by omega))).mono ?_
  rintro z h2 n2 ⟨a1, a2, a3, t', a4, a5, a6⟩
  try simp [evs, resAll, resVal, resOne, freeOp, isA, goOp, appNew, mkOp, gev, Region.binds, aop, aeval, gocall, heapOp, quietOp, ev, constAV, setd, yav, ystop, up, env0, cx_ti, cx_G, cx_pf, ti, globS, glob, pfL, lds, ldc, ldcs_1, ldcs_2, ldcs_3, ldcs_4, ldcs_5, ldcs_7, sts, sth, sls.eq_1, slc.eq_1, wr, place, fillOk, fillC, repZ, binI, isDiv, optInt, optI, eksOk, eksEq, EK.ok, EK.eq, AV.i, AV.isI, AV.isInt, AV.str, AV.isStr, AV.ones, AV.isPtr, AV.gl, AV.isG, Value.oneCell']
  exact ⟨a3, b0.up (by simp [up, q2]) (fun j hj => a1 j (by omega)) a2 a3, ⟨t', by simp [up, q13], by rw [List.flatMap_append]; exact a6, hw1, hw2, a4⟩, d0.up (by simp [up]) (fun m hm _ => a1 m (by omega)) a3, f0.up (by simp [up]) (fun m hm _ => a1 m (by omega)) a3⟩
theorem law3j (w : W3 v) (h6 : Heap) (k wr' p hi lo hi' : Nat) (t : List Nd) (e : Nat → AV) (h' : Heap) (n' : Nat) (hpn : p ≤ n') (b : F3 v h6 k ⟨e, h', n'⟩) (c : Room3 ⟨e, h', n'⟩ k wr' p v.t.length t) {P : Pr} (d : HasP ⟨e, h', n'⟩ 11 p hi P) (f : HasT ⟨e, h', n'⟩ 12 lo hi' P) {Q : Ex → St → Prop} :
    awp (cx S3 (pfL tbl3)) (hdC 1 (tlC 10 (Tryd.f3.body.getD .skip))) (thenQ (fun s => n' ≤ s.n ∧ F3 v h6 k s ∧ Room3 s k wr' p v.t.length t ∧ HasP s 11 p hi P ∧ HasT s 12 lo hi' P ∧ HasP s 13 n' s.n (compP v.sc (vars v.q.items) t)) Q) ⟨e, h', n'⟩ := by
  have b0 := b
  have c0 := c
  have d0 := d
  have f0 := f
  have at2 := rd_agr b.fr6 b.at2 _ b.ag
  obtain ⟨m4, a4, q4, b4, r4⟩ := b.as3.up b.fr6 b.ag
  obtain ⟨m5, a5, x5, y5, q5, b5, r5, r5', r5''⟩ := b.aq4.up b.fr6 b.ag
  have fr := b.frs
  have kn := b.kn
  obtain ⟨q13, hw, hw1, hw2, htl⟩ := c
  have dn := d.choose_spec.choose_spec.choose_spec.2.2.2.1
  have fn := f.choose_spec.choose_spec.choose_spec.2.2.2.1
  simp only [] at at2 fr kn q4 b4 r4 q5 b5 r5 r5' r5'' q13 hw hw1 hw2 dn fn
  have tsm : smallT t := by have := w.sm; unfold smallT at *; omega
  obtain ⟨ta, q2⟩ : ∃ x, e 2 = x := ⟨_, rfl⟩
  rw [q2] at at2
  obtain ⟨s1, s2, s3, s4, s5⟩ := sl_is at2
  have o4 := (sl_is r4).2.2.2.1
  have o5 := (sl_is r5).2.2.2.1
  have o5' := (sl_is r5').2.2.2.1
  have o5'' := (sl_is r5'').2.2.2.1
  have hcl : ((t ++ marks 40).flatMap ncells).length = (v.t.length + 40) * 6 := by rw [flat_len Flat.nd, List.length_append, marks_len, htl]
  have hl1 : (v.t.length : Int) ≤ (v.t.length : Int) + 40 := by omega
  have rr : rd dNs h' (.s wr' 41 0 v.t.length) = some t := by rw [← htl]; exact room_rd hw
  have gq := deQ_has (q := v.q) r5 r5' r5''
  simp [evs, resAll, resVal, resOne, freeOp, isA, goOp, appNew, mkOp, gev, Region.binds, aop, aeval, gocall, heapOp, quietOp, ev, constAV, setd, yav, ystop, up, env0, cx_ti, cx_G, cx_pf, ti, globS, glob, pfL, lds, ldc, ldcs_1, ldcs_2, ldcs_3, ldcs_4, ldcs_5, ldcs_7, sts, sth, sls.eq_1, slc.eq_1, wr, place, fillOk, fillC, repZ, binI, isDiv, optInt, optI, eksOk, eksEq, EK.ok, EK.eq, AV.i, AV.isI, AV.isInt, AV.str, AV.isStr, AV.ones, AV.isPtr, AV.gl, AV.isG, Value.oneCell', hdC, tlC, Tryd.f3, q2, q4, q5, q13, b4, b5, s1, s2, s3, o4, o5, o5', o5'', tbl3, hl1]
  have fin : ∀ (e2 : Nat → AV) (h3 : Heap) (n3 m : Nat) (ca la : AV), (∀ i ∈ [2, 3, 4, 7, 8, 9], e2 i = e i) → e2 10 = e 10 → e2 11 = e 11 → e2 12 = e 12 → e2 13 = .p m 0 0 → agree n' h' h3 → Fresh n3 h3 → n' ≤ n3 → n' ≤ m → m < n3 → h3 m = some ⟨[ca, la], 0, true, 2⟩ → OwnQ h3 n' n3 (.g [ca, la]) (compP v.sc (vars v.q.items) t) → n' ≤ n3 ∧ F3 v h6 k ⟨e2, h3, n3⟩ ∧ Room3 ⟨e2, h3, n3⟩ k wr' p v.t.length t ∧ HasP ⟨e2, h3, n3⟩ 11 p hi P ∧ HasT ⟨e2, h3, n3⟩ 12 lo hi' P ∧ HasP ⟨e2, h3, n3⟩ 13 n' n3 (compP v.sc (vars v.q.items) t) :=
    fun e2 h3 n3 m ca la k1 k10 k11 k12 k13 ka kf kn3 km km2 kb ko => ⟨kn3, b0.up k1 (fun j hj => ka j (by omega)) kf kn3, c0.up k10 (ka _ (by omega)) (Nat.le_refl _), d0.up k11 (fun q _ hq => ka q (by omega)) kn3, f0.up k12 (fun q _ hq => ka q (by omega)) kn3, m, ca, la, k13, km, km2, Nat.le_refl _, kb, ko⟩
  refine ⟨?_, ?_⟩
  · refine (acall_any (S := [7]) (by simp [S3]) (c20 r4 gq rr w.it tsm w.tl w.sc fr)).mono ?_
    rintro z h2 n2 ⟨a1, a2, a3, a4⟩
    refine ⟨keep_le (agr_le fr a1), ?_⟩
    obtain ⟨ca, la, rfl, k1, k2, k3, k4, k5, k6⟩ := a4.is
    have ho : ∀ b1 b2 : Option Blk, OwnQ (up (up h2 n2 b1) n2 b2) n' (n2 + 2) (.g [ca, la]) (compP v.sc (vars v.q.items) t) := fun b1 b2 => a4.up (fun q h1 h2 => by rw [up_ne _ _ (by omega), up_ne _ _ (by omega)]) (Nat.le_refl _) (by omega)
    have hf2 : ∀ b1 b2 : Option Blk, Fresh (n2 + 2) (up (up h2 n2 b1) n2 b2) := fun b1 b2 => by simp [fresh_up, a2.add]
    have hg2 : ∀ b1 b2 : Option Blk, agree n' h' (up (up h2 n2 b1) n2 b2) := fun b1 b2 => by simp [agree_up, a1, a3]
    simp [evs, resAll, resVal, resOne, freeOp, isA, goOp, appNew, mkOp, gev, Region.binds, aop, aeval, gocall, heapOp, quietOp, ev, constAV, setd, yav, ystop, up, env0, cx_ti, cx_G, cx_pf, ti, globS, glob, pfL, lds, ldc, ldcs_1, ldcs_2, ldcs_3, ldcs_4, ldcs_5, ldcs_7, sts, sth, sls.eq_1, slc.eq_1, wr, place, fillOk, fillC, repZ, binI, isDiv, optInt, optI, eksOk, eksEq, EK.ok, EK.eq, AV.i, AV.isI, AV.isInt, AV.str, AV.isStr, AV.ones, AV.isPtr, AV.gl, AV.isG, Value.oneCell', k1, k2, k3, k4, k5, k6]
    exact fin _ _ _ n2 ca la (by simp [up]) (by simp [up]) (by simp [up]) (by simp [up]) (by simp [up]) (hg2 _ _) (hf2 _ _) (by omega) (by omega) (by omega) (by simp [up]) (ho _ _)
  · have frA : ∀ b, Fresh (n' + 1) (up h' n' b) := fun b => (fresh_up (by omega) b).2 (fr.add 1)
    have agA : ∀ b, agree n' h' (up h' n' b) := fun b => (agree_up (by omega) b).2 (agree_refl _ _)
    refine (acall_any (S := [7]) (by simp [S3]) (c20 (rd_agr fr r4 _ (agA _)) (deQ_has (q := v.q) (rd_agr fr r5 _ (agA _)) (rd_agr fr r5' _ (agA _)) (rd_agr fr r5'' _ (agA _))) (rd_agr fr rr _ (agA _)) w.it tsm w.tl w.sc (frA _))).mono ?_
    rintro z h2 n2 ⟨a1, a2, a3, a4⟩
    refine ⟨keep_le (agr_le (frA _) a1), ?_⟩
    obtain ⟨ca, la, rfl, k1, k2, k3, k4, k5, k6⟩ := a4.is
    have hx : h2 n' = some ⟨[.v (.slice none 0 0), .v (.slice none 0 0)], 0, true, 2⟩ := by rw [a1 n' (by omega), up_same]
    have ho : ∀ b1 : Option Blk, OwnQ (up h2 n' b1) n' (n2 + 1) (.g [ca, la]) (compP v.sc (vars v.q.items) t) := fun b1 => a4.up (fun q h1 h2 => by rw [up_ne _ _ (by omega)]) (by omega) (by omega)
    have hf2 : ∀ b1 : Option Blk, Fresh (n2 + 1) (up h2 n' b1) := fun b1 => (fresh_up (by omega) b1).2 (a2.add 1)
    have hg2 : ∀ b1 : Option Blk, agree n' h' (up h2 n' b1) := fun b1 j hj => by rw [up_ne _ _ (by omega), a1 j (by omega), up_ne _ _ (by omega)]
    simp [evs, resAll, resVal, resOne, freeOp, isA, goOp, appNew, mkOp, gev, Region.binds, aop, aeval, gocall, heapOp, quietOp, ev, constAV, setd, yav, ystop, up, env0, cx_ti, cx_G, cx_pf, ti, globS, glob, pfL, lds, ldc, ldcs_1, ldcs_2, ldcs_3, ldcs_4, ldcs_5, ldcs_7, sts, sth, sls.eq_1, slc.eq_1, wr, place, fillOk, fillC, repZ, binI, isDiv, optInt, optI, eksOk, eksEq, EK.ok, EK.eq, AV.i, AV.isI, AV.isInt, AV.str, AV.isStr, AV.ones, AV.isPtr, AV.gl, AV.isG, Value.oneCell', k1, k2, k3, k4, k5, k6, hx]
    exact fin _ _ _ n' ca la (by simp [up]) (by simp [up]) (by simp [up]) (by simp [up]) (by simp [up]) (hg2 _) (hf2 _) (by omega) (by omega) (by omega) (by simp [up]) (ho _)
end
end Go.Proofs.YtkfphaphiikloaaDoor

/-
  CodeCompiles: the law's own code, its end.
-/
namespace Go.Proofs.YtkfphaphiikloaaDoor
open Go Go.Eng

section
set_option maxRecDepth 100000
set_option maxHeartbeats 4000000
variable {h : Heap} {n : Nat} {sa qa qb qc ta : AV} {v : V3}
theorem law3k (w : W3 v) (h6 : Heap) (k wr' p hi lo hi' lo2 hi2 : Nat) (t : List Nd) (e : Nat → AV) (h' : Heap) (n' : Nat) (hpn : p ≤ n') (b : F3 v h6 k ⟨e, h', n'⟩) (c : Room3 ⟨e, h', n'⟩ k wr' p v.t.length t) (d : HasP ⟨e, h', n'⟩ 11 p hi (compP v.sc (vars v.q.items) v.t)) (f : HasT ⟨e, h', n'⟩ 12 lo hi' (compP v.sc (vars v.q.items) v.t)) (g : HasP ⟨e, h', n'⟩ 13 lo2 hi2 (compP v.sc (vars v.q.items) t)) :
    awp (cx S3 (pfL tbl3)) (tlC 11 (Tryd.f3.body.getD .skip)) (finQ (cx S3 (pfL tbl3)) Tryd.f3 fun z _ _ => z = bv true) ⟨e, h', n'⟩ := by
  have at2 := rd_agr b.fr6 b.at2 _ b.ag
  obtain ⟨m7, a7, q7, b7, r7⟩ := b.bs7.up b.fr6 b.ag
  obtain ⟨m8, a8, x8, y8, q8, b8, r8, r8', r8''⟩ := b.bq8.up b.fr6 b.ag
  have fr := b.frs
  obtain ⟨q13, hw, hw1, hw2, htl⟩ := c
  obtain ⟨m11, ca, la, q11, j1, j2, j3, b11, o11⟩ := d
  obtain ⟨m12, cb, lb, q12, i1, i2, i3, b12, o12⟩ := f
  obtain ⟨m13, cc, lc, q10, g1, g2, g3, b13, o13⟩ := g
  simp only [] at at2 fr q7 b7 r7 q8 b8 r8 r8' r8'' q13 hw hw1 hw2 q11 j3 b11 o11 q12 i3 b12 o12 q10 g3 b13 o13
  obtain ⟨ta, q2⟩ : ∃ x, e 2 = x := ⟨_, rfl⟩
  rw [q2] at at2
  obtain ⟨s1, s2, s3, s4, s5⟩ := sl_is at2
  have tsm : smallT t := by have := w.sm; unfold smallT at *; omega
  have o7 := (sl_is r7).2.2.2.1
  have o8 := (sl_is r8).2.2.2.1
  have o8' := (sl_is r8').2.2.2.1
  have o8'' := (sl_is r8'').2.2.2.1
  have hcl : ((t ++ marks 40).flatMap ncells).length = (v.t.length + 40) * 6 := by rw [flat_len Flat.nd, List.length_append, marks_len, htl]
  have hl1 : (v.t.length : Int) ≤ (v.t.length : Int) + 40 := by omega
  have rr : rd dNs h' (.s wr' 41 0 v.t.length) = some t := by rw [← htl]; exact room_rd hw
  obtain ⟨ca1, la1, hz, k1, k2, k3, k4, k5, k6⟩ := o11.is
  obtain ⟨rfl, rfl⟩ : ca = ca1 ∧ la = la1 := by injection hz with hz; injection hz with h1 h2; injection h2 with h2 _; exact ⟨h1, h2⟩
  obtain ⟨cc1, lc1, hz2, kc1, kc2, kc3, kc4, kc5, kc6⟩ := o13.is
  obtain ⟨rfl, rfl⟩ : cc = cc1 ∧ lc = lc1 := by injection hz2 with hz; injection hz with h1 h2; injection h2 with h2 _; exact ⟨h1, h2⟩
  obtain ⟨db, eb, e12, r12, r12'⟩ := dePr_out o12.rd
  obtain ⟨rfl, rfl⟩ : cb = db ∧ lb = eb := by injection e12 with hz; injection hz with h1 h2; injection h2 with h2 _; exact ⟨h1, h2⟩
  obtain ⟨u1, u2, u3, u4, u5⟩ := sl_is r12
  obtain ⟨v1, v2, v3, v4, v5⟩ := sl_is r12'
  generalize hcs : (t ++ marks 40).flatMap ncells = cs at *
  simp [evq, resAll, resVal, resOne, freeOp, isA, goOp, appNew, mkOp, gev, Region.binds, aop, aeval, gocall, heapOp, quietOp, ev, constAV, setd, yav, ystop, up, env0, cx_ti, cx_G, cx_pf, ti, globS, glob, pfL, lds, ldc, ldcs_1, ldcs_2, ldcs_3, ldcs_4, ldcs_5, ldcs_7, sts, sth, sls.eq_1, slc.eq_1, wr, place, fillOk, fillC, repZ, binI, isDiv, optInt, optI, eksOk, eksEq, EK.ok, EK.eq, AV.i, AV.isI, AV.isInt, AV.str, AV.isStr, AV.ones, AV.isPtr, AV.gl, AV.isG, Value.oneCell', hdC, tlC, Tryd.f3, q2, q7, q8, q10, q11, q12, q13, b7, b8, b11, b12, b13, s1, s2, s3, o7, o8, o8', o8'', k1, k2, k3, k4, kc1, kc2, kc3, kc4, u3, u4, u5, v3, v4, v5, tbl3, hl1]
  refine atl_call (by kernel_rfl) rfl rfl rfl ?_
  refine (acall_any (S := []) (by simp) (c18 rr tsm fr)).mono ?_
  rintro z h2 n2 ⟨a1, a2, a3, w2, rfl, hw9, hw10, hw11⟩
  refine ⟨keep_le (agr_le fr a1), ?_⟩
  have rt2 : rd dNs h2 (.s w2 1 0 t.length) = some t := flat_in Flat.nd (l := t) hw9 rfl (r := []) (by simp)
  have y3 := (sl_is rt2).2.2.1
  simp [evq, resAll, resVal, resOne, freeOp, isA, goOp, appNew, mkOp, gev, Region.binds, aop, aeval, gocall, heapOp, quietOp, ev, constAV, setd, yav, ystop, up, env0, cx_ti, cx_G, cx_pf, ti, globS, glob, pfL, lds, ldc, ldcs_1, ldcs_2, ldcs_3, ldcs_4, ldcs_5, ldcs_7, sts, sth, sls.eq_1, slc.eq_1, wr, place, fillOk, fillC, repZ, binI, isDiv, optInt, optI, eksOk, eksEq, EK.ok, EK.eq, AV.i, AV.isI, AV.isInt, AV.str, AV.isStr, AV.ones, AV.isPtr, AV.gl, AV.isG, Value.oneCell', y3, tbl3]
  refine atl_call (by kernel_rfl) rfl rfl rfl ?_
  refine (acall_any (S := [7]) (by simp [S3]) (c22 (rd_agr fr r7 _ a1) (deQ_has (q := v.q) (rd_agr fr r8 _ a1) (rd_agr fr r8' _ a1) (rd_agr fr r8'' _ a1)) rt2 w.it tsm w.tl w.sc a2)).mono ?_
  rintro z3 h3 n3 ⟨c1, c2, c3, c4⟩
  refine ⟨keep_le (agr_le a2 c1), atl_quiet (by kernel_rfl) (by kernel_rfl) ?_⟩
  have ag3 : agree n' h' h3 := agree_trans a1 c1 a3
  obtain ⟨za, zb, rfl, z1, z2⟩ := dePr_out c4
  have hP : dePr h3 (.g [ca, la]) = some (compP v.sc (vars v.q.items) v.t) := (o11.up (h' := h3) (fun q _ hq => ag3 q (by omega)) (Nat.le_refl _) (Nat.le_refl _)).rd
  have hT : dePr h3 (.g [cb, lb]) = some (compP v.sc (vars v.q.items) v.t) := dePr_in (rd_agr fr r12 _ ag3) (rd_agr fr r12' _ ag3)
  have hA : dePr h3 (.g [cc, lc]) = some (compP v.sc (vars v.q.items) t) := (o13.up (h' := h3) (fun q _ hq => ag3 q (by omega)) (Nat.le_refl _) (Nat.le_refl _)).rd
  have hd1 : de21 h3 [.g [cc, lc], .g [za, zb]] = some (compP v.sc (vars v.q.items) t, compP v.sc (vars v.q.items) t) := by simp only [de21, hA, c4]
  have hd2 : de21 h3 [.g [ca, la], .g [cb, lb]] = some (compP v.sc (vars v.q.items) v.t, compP v.sc (vars v.q.items) v.t) := by simp only [de21, hP, hT]
  have hok := comp_big (vs := vars v.q.items) (t := v.t) w.tl w.sm
  have hok2 := comp_big (vs := vars v.q.items) (t := t) w.tl tsm
  have d11 := (ag3 m11 (lt_of b11 fr)).trans b11
  have d12 := (ag3 m12 (lt_of b12 fr)).trans b12
  generalize compP v.sc (vars v.q.items) v.t = P at *
  generalize compP v.sc (vars v.q.items) t = P2 at *
  simp [evq, resAll, resVal, resOne, freeOp, isA, goOp, appNew, mkOp, gev, Region.binds, aop, aeval, gocall, heapOp, quietOp, ev, constAV, setd, yav, ystop, up, env0, cx_ti, cx_G, cx_pf, ti, globS, glob, pfL, lds, ldc, ldcs_1, ldcs_2, ldcs_3, ldcs_4, ldcs_5, ldcs_7, sts, sth, sls.eq_1, slc.eq_1, wr, place, fillOk, fillC, repZ, binI, isDiv, optInt, optI, eksOk, eksEq, EK.ok, EK.eq, AV.i, AV.isI, AV.isInt, AV.str, AV.isStr, AV.ones, AV.isPtr, AV.gl, AV.isG, Value.oneCell', qseq_nil, qseq_cons, d11, d12, q2, q7, q8, q10, q11, q12, q13, k1, k2, k3, k4, kc1, kc2, kc3, kc4, u3, u4, u5, v3, v4, v5, tbl3, G21, pureH, hd1, hd2, hok, hok2, bv]
  exact ⟨hok2.2.2, hok.2.2⟩
theorem law3 (e1 : rd dTys h sa = some v.sc) (e2 : rd dIts h qa = some v.q.items) (e3 : rd dNs h qb = some v.q.wh) (e4 : rd dNss h qc = some v.q.ret) (e5 : rd dNs h ta = some v.t) (w : W3 v) (hn : Fresh n h) :
    awp (cx S3 (pfL tbl3)) (Tryd.f3.body.getD .skip) (finQ (cx S3 (pfL tbl3)) Tryd.f3 fun z _ _ => z = bv true) ⟨env0 [.g [sa], .g [qa, .v (.int .i64 v.q.mode), .v (.int .i64 v.q.after), qb, .v (.int .i64 v.q.within), .v (.string v.q.par), qc], ta], roH h, n⟩ := by
  refine awp_cut 2 _ _ (law3a e1 e2 e3 e4 e5 w hn _ rfl rfl rfl) fun x1 h1 n1 b1 => ?_
  refine awp_cut 1 _ _ (law3b w x1 h1 n1 b1) fun x2 h2 n2 ⟨b2, c2⟩ => ?_
  refine awp_cut 1 _ _ (law3c w x2 h2 n2 b2 c2) fun x3 h3 n3 ⟨b3, c3, d3⟩ => ?_
  refine awp_cut 1 _ _ (law3d w x3 h3 n3 b3 c3 d3) fun x4 h4 n4 b4 => ?_
  refine awp_cut 1 _ _ (law3e w h4 n4 x4 h4 n4 b4) fun x5 h5 n5 ⟨b5, wr', c5⟩ => ?_
  refine awp_cut 1 _ _ (law3f w h4 n4 wr' x5 h5 n5 b5 c5) fun x6 h6 n6 ⟨b6, c6, d6⟩ => ?_
  have i6 : n5 ≤ n6 := by obtain ⟨m, _, _, _, j1, j2, _⟩ := d6; simp only [] at j1 j2; omega
  refine awp_cut 1 _ _ (law3g w h4 n4 wr' n5 n6 x6 h6 n6 i6 b6 c6 d6) fun x7 h7 n7 ⟨i7, b7, c7, d7⟩ => ?_
  simp only [] at i7
  refine awp_cut 1 _ _ (law3h w h4 n4 wr' n5 n6 x7 h7 n7 (by omega) b7 c7 d7) fun x8 h8 n8 ⟨i8, b8, c8, d8, f8⟩ => ?_
  simp only [] at i8
  refine awp_cut 1 _ _ (law3i w h4 n4 wr' n5 n6 n7 n8 x8 h8 n8 (by omega) (by omega) b8 c8 d8 f8) fun x9 h9 n9 ⟨i9, b9, ⟨t', c9⟩, d9, f9⟩ => ?_
  simp only [] at i9
  refine awp_cut 1 _ _ (law3j w h4 n4 wr' n5 n6 n7 n8 t' x9 h9 n9 (by omega) b9 c9 d9 f9) fun x10 h10 n10 ⟨i10, b10, c10, d10, f10, g10⟩ => ?_
  simp only [] at i10
  exact law3k w h4 n4 wr' n5 n6 n7 n8 n9 n10 t' x10 h10 n10 (by omega) b10 c10 d10 f10 g10
end
end Go.Proofs.YtkfphaphiikloaaDoor
