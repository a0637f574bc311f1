/-
  TREES, PART U: what was handed in is what its twin is.
-/
import Derived.Test.YtkfphaphiikloaaDoorX19
import Derived.Test.YtkfphaphiikloaaDoorX20
import Derived.Test.YtkfphaphiikloaaDoorX15
set_option linter.unusedSimpArgs false
set_option linter.unusedVariables false
set_option linter.constructorNameAsVariable false
namespace Go.Proofs.YtkfphaphiikloaaDoor
open Go Go.Eng

structure Tx where
  s1 : List Ty
  s2 : List Ty
  q1 : Qu
  q2 : Qu
  t1 : List Nd
  t2 : List Nd
structure TxOk (v : Tx) : Prop where
  s : v.s2 = v.s1
  q : v.q2 = v.q1
  t : v.t2 = v.t1
  ss : smallS v.s1
  qs : v.q1.items.length < big
  ts : smallT v.t1
def de23 (h : Heap) : List AV → Option Tx
  | [a, b, c, d, e, f] => match deSc h a, deSc h b, deQ h c, deQ h d, rd dNs h e, rd dNs h f with
    | some a, some b, some c, some d, some e, some f => some ⟨a, b, c, d, e, f⟩
    | _, _, _, _, _, _ => none
  | _ => none
theorem de23_out {h : Heap} {args : List AV} {v : Tx} (e : de23 h args = some v) : ∃ a b c d x y, args = [a, b, c, d, x, y] ∧ deSc h a = some v.s1 ∧ deSc h b = some v.s2 ∧ deQ h c = some v.q1 ∧ deQ h d = some v.q2 ∧ rd dNs h x = some v.t1 ∧ rd dNs h y = some v.t2 := by
  unfold de23 at e
  split at e
  · split at e
    · rename_i e1 e2 e3 e4 e5 e6
      cases e
      exact ⟨_, _, _, _, _, _, rfl, e1, e2, e3, e4, e5, e6⟩
    · cases e
  · cases e
theorem de23_mono (h h' : Heap) (args : List AV) (v : Tx) (hh : h.le h') (e : de23 h args = some v) : de23 h' args = some v := by
  obtain ⟨a, b, c, d, x, y, rfl, e1, e2, e3, e4, e5, e6⟩ := de23_out e
  simp only [de23, deSc_sim hh.sim e1, deSc_sim hh.sim e2, deQ_sim hh.sim e3, deQ_sim hh.sim e4, rd_mono hh e5, rd_mono hh e6]
def G23 := pureH de23 TxOk fun _ => bv true
set_option maxRecDepth 100000 in
set_option maxHeartbeats 8000000 in
theorem P23 : P0 [] 23 G23 := by
  refine mkH 6 (S := []) (l := []) tb_nil Tryd.func23 rfl (by kernel_rfl) de23_mono (fun h l x e => by obtain ⟨a, b, c, d, x, y, rfl, _⟩ := de23_out e; exact Nat.le_refl _) (fun a => rfl) (fun args v h n e hp hn => ?_)
  obtain ⟨xa, xb, xc, xd, ta, tb, rfl, e1, e2, e3, e4, e5, e6⟩ := de23_out e
  obtain ⟨sc, sc2, q, q2, t, t2⟩ := v
  obtain ⟨hh1, hh2, hh3, hss, hqb, hsm⟩ := hp
  simp only [] at hh1 hh2 hh3 e1 e2 e3 e4 e5 e6 hss hqb hsm
  subst hh1; subst hh2; subst hh3
  have hbe : ∀ y : ByteArray, (y == y) = true := fun y => by rw [ba_beq]
  have hbn : ∀ y : ByteArray, (y != y) = false := fun y => by show (!(y == y)) = false; rw [hbe]; rfl
  have hp' : t2.length * 64 ≤ 140737488355328 := hsm
  obtain ⟨hs1, hs2⟩ := hss
  obtain ⟨a1, rfl, r1⟩ := deSc_out e1
  obtain ⟨a2, rfl, r2⟩ := deSc_out e2
  obtain ⟨b1, b2, b3, rfl, i1, i2, i3⟩ := deQ_out e3
  obtain ⟨c1, c2, c3, rfl, j1, j2, j3⟩ := deQ_out e4
  have o1 := (sl_is r1).2.2.2.1
  have o2 := (sl_is r2).2.2.2.1
  have o3 := (sl_is i1).2.2.2.1
  have o4 := (sl_is i2).2.2.2.1
  have o5 := (sl_is i3).2.2.2.1
  have o6 := (sl_is j1).2.2.2.1
  have o7 := (sl_is j2).2.2.2.1
  have o8 := (sl_is j3).2.2.2.1
  have l1 := (sl_is r1).2.1
  have l2 := (sl_is r2).2.1
  have l3 := (sl_is i1).2.1
  have l4 := (sl_is j1).2.1
  have l5 := (sl_is e5).2.1
  have l6 := (sl_is e6).2.1
  have m1 := (sl_is r1).1
  have m2 := (sl_is r2).1
  have m3 := (sl_is i1).1
  have m4 := (sl_is j1).1
  have m5 := (sl_is e5).1
  have m6 := (sl_is e6).1
  have n1 := (sl_is r1).2.2.1
  have n2 := (sl_is r2).2.2.1
  have n3 := (sl_is i1).2.2.1
  have n4 := (sl_is j1).2.2.1
  have n5 := (sl_is e5).2.2.1
  have n6 := (sl_is e6).2.2.1
  have key : ∀ e : Nat → AV, e 0 = .g [a1] → e 1 = .g [a2] → e 2 = .g [b1, ii q2.mode, ii q2.after, b2, ii q2.within, ss q2.par, b3] → e 3 = .g [c1, ii q2.mode, ii q2.after, c2, ii q2.within, ss q2.par, c3] → e 4 = ta → e 5 = tb → awp (cx [] (pfL [])) (Tryd.f23.body.getD .skip) (finQ (cx [] (pfL [])) Tryd.f23 fun z _ _ => z = bv true) ⟨e, roH h, n⟩ := fun e p0 p1 p2 p3 p4 p5 => by
    simp [evs, resAll, resVal, resOne, freeOp, isA, goOp, appNew, mkOp, gev, Region.binds, aop, aeval, gocall, heapOp, quietOp, ev, constAV, setd, yav, ystop, up, env0, cx_ti, cx_G, cx_pf, ti, globS, glob, pfL, lds, ldc, ldcs_1, ldcs_2, ldcs_3, ldcs_4, ldcs_5, ldcs_7, sts, sth, sls.eq_1, slc.eq_1, wr, place, fillOk, fillC, repZ, binI, isDiv, optInt, optI, eksOk, eksEq, EK.ok, EK.eq, AV.i, AV.isI, AV.isInt, AV.str, AV.isStr, AV.ones, AV.isPtr, AV.gl, AV.isG, Value.oneCell', Tryd.f23, p0, p1, p2, p3, p4, p5, ii, ss, o1, o2, o3, o4, o5, o6, o7, o8, l1, l2, l3, l4, l5, l6, m1, m2, m3, m4, m5, m6, n1, n2, n3, n4, n5, n6, bv]
    refine awp_loop (fun s => ∃ i : Nat, i ≤ sc2.length ∧ s.e 13 = ii i ∧ s.e 4 = ta ∧ s.e 5 = tb ∧ s.e 6 = .p n 0 0 ∧ s.e 7 = .p (n + 1) 0 0 ∧ s.e 8 = .p (n + 2) 0 0 ∧ s.e 9 = .p (n + 3) 0 0 ∧ agree n (roH h) s.h ∧ s.h n = some ⟨[a1], 0, true, 1⟩ ∧ s.h (n + 1) = some ⟨[a2], 0, true, 1⟩ ∧ s.h (n + 2) = some ⟨[b1, ii q2.mode, ii q2.after, b2, ii q2.within, ss q2.par, b3], 0, true, 7⟩ ∧ s.h (n + 3) = some ⟨[c1, ii q2.mode, ii q2.after, c2, ii q2.within, ss q2.par, c3], 0, true, 7⟩) (fun s => sc2.length - (s.e 13).i.toNat) ⟨0, by simp [up, p4, p5, ii, ss, agree_up, agree_refl]⟩ ?_
    rintro e' h' n' ⟨i, hi, q13, q4, q5, q6, q7, q8, q9, hag, b0, b1', b2', b3'⟩
    simp only [] at q13 q4 q5 q6 q7 q8 q9 hag b0 b1' b2' b3'
    by_cases hlt : i < sc2.length
    · rcases tys_at r1 with ⟨h0, _⟩ | ⟨id, off, k, rfl, hk, ho, hat⟩
      · rw [h0] at hlt; simp at hlt
      rcases tys_at r2 with ⟨h0, _⟩ | ⟨id2, off2, k2, rfl, hk2, ho2, hat2⟩
      · rw [h0] at hlt; simp at hlt
      obtain ⟨d0, x1, d1, dr⟩ := hat i hlt
      obtain ⟨g0, x2, g1, gr⟩ := hat2 i hlt
      have ha1 := agree_at hn hk hag
      have ha2 := agree_at hn hk2 hag
      obtain ⟨u1, u2, u3, u4, u5⟩ := sl_is dr
      obtain ⟨v1, v2, v3, v4, v5⟩ := sl_is gr
      have w1 : off + (i * 2 + 1) ≤ k.cells.length := by omega
      have w2 : off + (i * 2 + 2) ≤ k.cells.length := by omega
      have w3 : off2 + (i * 2 + 1) ≤ k2.cells.length := by omega
      have w4 : off2 + (i * 2 + 2) ≤ k2.cells.length := by omega
      have hwi := wrap_nat (j := i) (by omega)
      have hab := hs2 _ (List.getElem_mem hlt)
      generalize sc2[i] = ty at *
      simp only [ss] at d0 g0
      simp [evs, resAll, resVal, resOne, freeOp, isA, goOp, appNew, mkOp, gev, Region.binds, aop, aeval, gocall, heapOp, quietOp, ev, constAV, setd, yav, ystop, up, env0, cx_ti, cx_G, cx_pf, ti, globS, glob, pfL, lds, ldc, ldcs_1, ldcs_2, ldcs_3, ldcs_4, ldcs_5, ldcs_7, sts, sth, sls.eq_1, slc.eq_1, wr, place, fillOk, fillC, repZ, binI, isDiv, optInt, optI, eksOk, eksEq, EK.ok, EK.eq, AV.i, AV.isI, AV.isInt, AV.str, AV.isStr, AV.ones, AV.isPtr, AV.gl, AV.isG, Value.oneCell', q4, q5, q6, q7, q8, q9, ii, ss, b0, b1', b2', b3', bv, hbe, hbn, q13, hlt, ha1, ha2, d0, d1, g0, g1, w1, w2, w3, w4, u1, u2, u3, v1, v2, v3, hwi]
      refine awp_loop (fun s => ∃ j : Nat, j ≤ ty.attrs.length ∧ s.e 14 = ii j ∧ s.e 13 = ii i ∧ s.e 4 = ta ∧ s.e 5 = tb ∧ s.e 6 = .p n 0 0 ∧ s.e 7 = .p (n + 1) 0 0 ∧ s.e 8 = .p (n + 2) 0 0 ∧ s.e 9 = .p (n + 3) 0 0 ∧ agree n (roH h) s.h ∧ s.h n = some ⟨[.s id k.ver off sc2.length], 0, true, 1⟩ ∧ s.h (n + 1) = some ⟨[.s id2 k2.ver off2 sc2.length], 0, true, 1⟩ ∧ s.h (n + 2) = some ⟨[b1, ii q2.mode, ii q2.after, b2, ii q2.within, ss q2.par, b3], 0, true, 7⟩ ∧ s.h (n + 3) = some ⟨[c1, ii q2.mode, ii q2.after, c2, ii q2.within, ss q2.par, c3], 0, true, 7⟩) (fun s => ty.attrs.length - (s.e 14).i.toNat) ⟨0, by simp [up, q4, q5, q6, q7, q8, q9, q13, ii, ss, hag, b0, b1', b2', b3']⟩ ?_
      clear q4 q5 q6 q7 q8 q9 q13 hag b0 b1' b2' b3' ha1 ha2
      rintro e' h' n' ⟨j, hj, q14, q13, q4, q5, q6, q7, q8, q9, hag, b0, b1', b2', b3'⟩
      simp only [] at q14 q13 q4 q5 q6 q7 q8 q9 hag b0 b1' b2' b3'
      have ha1 := agree_at hn hk hag
      have ha2 := agree_at hn hk2 hag
      have hwj := wrap_nat (j := j) (by omega)
      by_cases hlj : j < ty.attrs.length
      · rcases ss_at dr with ⟨h0, _⟩ | ⟨id3, off3, k3, rfl, hk3, ho3, hat3⟩
        · rw [h0] at hlj; simp at hlj
        rcases ss_at gr with ⟨h0, _⟩ | ⟨id4, off4, k4, rfl, hk4, ho4, hat4⟩
        · rw [h0] at hlj; simp at hlj
        have y1 := hat3 j hlj
        have y2 := hat4 j hlj
        have ha3 := agree_at hn hk3 hag
        have ha4 := agree_at hn hk4 hag
        have w5 : off3 + (j + 1) ≤ k3.cells.length := by omega
        have w6 : off4 + (j + 1) ≤ k4.cells.length := by omega
        generalize ty.attrs[j] = sj at *
        simp only [ss] at y1 y2
        simp [evs, resAll, resVal, resOne, freeOp, isA, goOp, appNew, mkOp, gev, Region.binds, aop, aeval, gocall, heapOp, quietOp, ev, constAV, setd, yav, ystop, up, env0, cx_ti, cx_G, cx_pf, ti, globS, glob, pfL, lds, ldc, ldcs_1, ldcs_2, ldcs_3, ldcs_4, ldcs_5, ldcs_7, sts, sth, sls.eq_1, slc.eq_1, wr, place, fillOk, fillC, repZ, binI, isDiv, optInt, optI, eksOk, eksEq, EK.ok, EK.eq, AV.i, AV.isI, AV.isInt, AV.str, AV.isStr, AV.ones, AV.isPtr, AV.gl, AV.isG, Value.oneCell', q4, q5, q6, q7, q8, q9, ii, ss, b0, b1', b2', b3', bv, hbe, hbn, q13, hlt, ha1, ha2, d0, d1, g0, g1, w1, w2, w3, w4, u1, u2, u3, v1, v2, v3, hwi, q14, hlj, ha3, ha4, y1, y2, w5, w6, hwj]
        exact ⟨⟨j + 1, by omega, by omega, hag⟩, by omega⟩
      · obtain rfl : j = ty.attrs.length := by omega
        simp [evs, resAll, resVal, resOne, freeOp, isA, goOp, appNew, mkOp, gev, Region.binds, aop, aeval, gocall, heapOp, quietOp, ev, constAV, setd, yav, ystop, up, env0, cx_ti, cx_G, cx_pf, ti, globS, glob, pfL, lds, ldc, ldcs_1, ldcs_2, ldcs_3, ldcs_4, ldcs_5, ldcs_7, sts, sth, sls.eq_1, slc.eq_1, wr, place, fillOk, fillC, repZ, binI, isDiv, optInt, optI, eksOk, eksEq, EK.ok, EK.eq, AV.i, AV.isI, AV.isInt, AV.str, AV.isStr, AV.ones, AV.isPtr, AV.gl, AV.isG, Value.oneCell', q4, q5, q6, q7, q8, q9, ii, ss, b0, b1', b2', b3', bv, hbe, hbn, q13, hlt, ha1, ha2, d0, d1, g0, g1, w1, w2, w3, w4, u1, u2, u3, v1, v2, v3, hwi, q14, hwj]
        exact ⟨⟨i + 1, by omega, by omega, hag⟩, by omega⟩
    obtain rfl : i = sc2.length := by omega
    simp [evs, resAll, resVal, resOne, freeOp, isA, goOp, appNew, mkOp, gev, Region.binds, aop, aeval, gocall, heapOp, quietOp, ev, constAV, setd, yav, ystop, up, env0, cx_ti, cx_G, cx_pf, ti, globS, glob, pfL, lds, ldc, ldcs_1, ldcs_2, ldcs_3, ldcs_4, ldcs_5, ldcs_7, sts, sth, sls.eq_1, slc.eq_1, wr, place, fillOk, fillC, repZ, binI, isDiv, optInt, optI, eksOk, eksEq, EK.ok, EK.eq, AV.i, AV.isI, AV.isInt, AV.str, AV.isStr, AV.ones, AV.isPtr, AV.gl, AV.isG, Value.oneCell', q4, q5, q6, q7, q8, q9, ii, ss, b0, b1', b2', b3', bv, hbe, hbn, q13, m1, m2, m3, m4, m5, m6, n1, n2, n3, n4, n5, n6, l1, l2, l3, l4, l5, l6, o1, o2, o3, o4, o5, o6, o7, o8]
    refine awp_loop (fun s => ∃ i : Nat, i ≤ q2.items.length ∧ s.e 15 = ii i ∧ s.e 4 = ta ∧ s.e 5 = tb ∧ s.e 6 = .p n 0 0 ∧ s.e 7 = .p (n + 1) 0 0 ∧ s.e 8 = .p (n + 2) 0 0 ∧ s.e 9 = .p (n + 3) 0 0 ∧ agree n (roH h) s.h ∧ s.h n = some ⟨[a1], 0, true, 1⟩ ∧ s.h (n + 1) = some ⟨[a2], 0, true, 1⟩ ∧ s.h (n + 2) = some ⟨[b1, ii q2.mode, ii q2.after, b2, ii q2.within, ss q2.par, b3], 0, true, 7⟩ ∧ s.h (n + 3) = some ⟨[c1, ii q2.mode, ii q2.after, c2, ii q2.within, ss q2.par, c3], 0, true, 7⟩) (fun s => q2.items.length - (s.e 15).i.toNat) ⟨0, by simp [up, q4, q5, q6, q7, q8, q9, ii, ss, hag, b0, b1', b2', b3']⟩ ?_
    clear q4 q5 q6 q7 q8 q9 q13 hag b0 b1' b2' b3'
    rintro e' h' n' ⟨i, hi, q15, q4, q5, q6, q7, q8, q9, hag, b0, b1', b2', b3'⟩
    simp only [] at q15 q4 q5 q6 q7 q8 q9 hag b0 b1' b2' b3'
    by_cases hlt : i < q2.items.length
    · rcases its_at i1 with ⟨h0, _⟩ | ⟨id, off, k, rfl, hk, ho, hat⟩
      · rw [h0] at hlt; simp at hlt
      rcases its_at j1 with ⟨h0, _⟩ | ⟨id2, off2, k2, rfl, hk2, ho2, hat2⟩
      · rw [h0] at hlt; simp at hlt
      have d0 := hat i hlt
      have g0 := hat2 i hlt
      have ha1 := agree_at hn hk hag
      have ha2 := agree_at hn hk2 hag
      have w1 : off + (i * 5 + 3) ≤ k.cells.length := by omega
      have w3 : off2 + (i * 5 + 3) ≤ k2.cells.length := by omega
      have hwi := wrap_nat (j := i) (by omega)
      generalize q2.items[i].var = ty at *
      simp only [ss] at d0 g0
      simp [evs, resAll, resVal, resOne, freeOp, isA, goOp, appNew, mkOp, gev, Region.binds, aop, aeval, gocall, heapOp, quietOp, ev, constAV, setd, yav, ystop, up, env0, cx_ti, cx_G, cx_pf, ti, globS, glob, pfL, lds, ldc, ldcs_1, ldcs_2, ldcs_3, ldcs_4, ldcs_5, ldcs_7, sts, sth, sls.eq_1, slc.eq_1, wr, place, fillOk, fillC, repZ, binI, isDiv, optInt, optI, eksOk, eksEq, EK.ok, EK.eq, AV.i, AV.isI, AV.isInt, AV.str, AV.isStr, AV.ones, AV.isPtr, AV.gl, AV.isG, Value.oneCell', q4, q5, q6, q7, q8, q9, ii, ss, b0, b1', b2', b3', bv, hbe, hbn, q15, hlt, ha1, ha2, d0, g0, w1, w3, hwi]
      exact ⟨⟨i + 1, by omega, by omega, hag⟩, by omega⟩
    obtain rfl : i = q2.items.length := by omega
    simp [evs, resAll, resVal, resOne, freeOp, isA, goOp, appNew, mkOp, gev, Region.binds, aop, aeval, gocall, heapOp, quietOp, ev, constAV, setd, yav, ystop, up, env0, cx_ti, cx_G, cx_pf, ti, globS, glob, pfL, lds, ldc, ldcs_1, ldcs_2, ldcs_3, ldcs_4, ldcs_5, ldcs_7, sts, sth, sls.eq_1, slc.eq_1, wr, place, fillOk, fillC, repZ, binI, isDiv, optInt, optI, eksOk, eksEq, EK.ok, EK.eq, AV.i, AV.isI, AV.isInt, AV.str, AV.isStr, AV.ones, AV.isPtr, AV.gl, AV.isG, Value.oneCell', q4, q5, q6, q7, q8, q9, ii, ss, b0, b1', b2', b3', bv, hbe, hbn, q15, m1, m2, m3, m4, m5, m6, n1, n2, n3, n4, n5, n6, l1, l2, l3, l4, l5, l6, o1, o2, o3, o4, o5, o6, o7, o8]
    refine awp_loop (fun s => ∃ i : Nat, i ≤ t2.length ∧ s.e 16 = ii i ∧ s.e 4 = ta ∧ s.e 5 = tb ∧ s.e 6 = .p n 0 0 ∧ s.e 7 = .p (n + 1) 0 0 ∧ s.e 8 = .p (n + 2) 0 0 ∧ s.e 9 = .p (n + 3) 0 0 ∧ agree n (roH h) s.h ∧ s.h n = some ⟨[a1], 0, true, 1⟩ ∧ s.h (n + 1) = some ⟨[a2], 0, true, 1⟩ ∧ s.h (n + 2) = some ⟨[b1, ii q2.mode, ii q2.after, b2, ii q2.within, ss q2.par, b3], 0, true, 7⟩ ∧ s.h (n + 3) = some ⟨[c1, ii q2.mode, ii q2.after, c2, ii q2.within, ss q2.par, c3], 0, true, 7⟩) (fun s => t2.length - (s.e 16).i.toNat) ⟨0, by simp [up, q4, q5, q6, q7, q8, q9, ii, ss, hag, b0, b1', b2', b3']⟩ ?_
    clear q4 q5 q6 q7 q8 q9 q15 hag b0 b1' b2' b3'
    rintro e' h' n' ⟨i, hi, q16, q4, q5, q6, q7, q8, q9, hag, b0, b1', b2', b3'⟩
    simp only [] at q16 q4 q5 q6 q7 q8 q9 hag b0 b1' b2' b3'
    by_cases hlt : i < t2.length
    · rcases ns_at e5 with ⟨h0, _⟩ | ⟨id, off, k, rfl, hk, ho, hat⟩
      · rw [h0] at hlt; simp at hlt
      rcases ns_at e6 with ⟨h0, _⟩ | ⟨id2, off2, k2, rfl, hk2, ho2, hat2⟩
      · rw [h0] at hlt; simp at hlt
      have d0 := hat i hlt
      have g0 := hat2 i hlt
      have ha1 := agree_at hn hk hag
      have ha2 := agree_at hn hk2 hag
      have w1 : off + (i * 6 + 6) ≤ k.cells.length := by omega
      have w3 : off2 + (i * 6 + 6) ≤ k2.cells.length := by omega
      have hwi := wrap_nat (j := i) (by unfold big; omega)
      have hle1 : ∀ (X : Ctx) (h' : Heap), h' id = some ⟨k.cells, k.ver, false, k.esz⟩ → ldcs X h' (.p id k.ver (off + i * 6)) 0 6 = ncells t2[i] := fun X h' e => ldcs_nd e d0
      have hle2 : ∀ (X : Ctx) (h' : Heap), h' id2 = some ⟨k2.cells, k2.ver, false, k2.esz⟩ → ldcs X h' (.p id2 k2.ver (off2 + i * 6)) 0 6 = ncells t2[i] := fun X h' e => ldcs_nd e g0
      generalize t2[i] = x at *
      obtain ⟨op, num, var, attr, xa, xb⟩ := x
      simp [evs, resAll, resVal, resOne, freeOp, isA, goOp, appNew, mkOp, gev, Region.binds, aop, aeval, gocall, heapOp, quietOp, ev, constAV, setd, yav, ystop, up, env0, cx_ti, cx_G, cx_pf, ti, globS, glob, pfL, lds, ldc, ldcs_1, ldcs_2, ldcs_3, ldcs_4, ldcs_5, ldcs_7, sts, sth, sls.eq_1, slc.eq_1, wr, place, fillOk, fillC, repZ, binI, isDiv, optInt, optI, eksOk, eksEq, EK.ok, EK.eq, AV.i, AV.isI, AV.isInt, AV.str, AV.isStr, AV.ones, AV.isPtr, AV.gl, AV.isG, Value.oneCell', q4, q5, q6, q7, q8, q9, ii, ss, b0, b1', b2', b3', bv, hbe, hbn, q16, hlt, ha1, ha2, hle1, hle2, w1, w3, hwi, ncells]
      exact ⟨⟨i + 1, by omega, by omega, hag⟩, by omega⟩
    obtain rfl : i = t2.length := by omega
    simp [evs, resAll, resVal, resOne, freeOp, isA, goOp, appNew, mkOp, gev, Region.binds, aop, aeval, gocall, heapOp, quietOp, ev, constAV, setd, yav, ystop, up, env0, cx_ti, cx_G, cx_pf, ti, globS, glob, pfL, lds, ldc, ldcs_1, ldcs_2, ldcs_3, ldcs_4, ldcs_5, ldcs_7, sts, sth, sls.eq_1, slc.eq_1, wr, place, fillOk, fillC, repZ, binI, isDiv, optInt, optI, eksOk, eksEq, EK.ok, EK.eq, AV.i, AV.isI, AV.isInt, AV.str, AV.isStr, AV.ones, AV.isPtr, AV.gl, AV.isG, Value.oneCell', q4, q5, q6, q7, q8, q9, ii, ss, b0, b1', b2', b3', bv, hbe, hbn, q16, m1, m2, m3, m4, m5, m6, n1, n2, n3, n4, n5, n6, l1, l2, l3, l4, l5, l6, o1, o2, o3, o4, o5, o6, o7, o8]
  exact key _ rfl rfl rfl rfl rfl rfl
end Go.Proofs.YtkfphaphiikloaaDoor

/-
  THE PROGRAMS OF CONDITIONS, PART H: copies that share nothing: lists of events, programs.
-/
namespace Go.Proofs.YtkfphaphiikloaaDoor
open Go Go.Eng

/-- One list more. -/
theorem OwnF.snoc {α : Type} {en : α → List AV} {sz : Nat} {h h2 : Heap} {lo hi hi2 m : Nat} {f : Nat → Nat} {ll : List (List α)} {j : Nat} (o : OwnF en sz h lo hi f ll j) (hh : ∀ i, i < j → h2 (f i) = h (f i)) (h1 : lo ≤ hi) (h3 : hi ≤ m) (h4 : m < hi2)
    (hb : h2 m = some ⟨(ll.getD j []).flatMap en, 1, true, sz⟩) : OwnF en sz h2 lo hi2 (fun i => if i = j then m else f i) ll (j + 1) := by
  refine ⟨fun i hi' => ?_, fun i hi' => ?_, fun i k hi' hk' he => ?_⟩
  · split
    · omega
    · have := o.rng i (by omega); omega
  · split
    · rename_i e; subst e; exact hb
    · rw [hh i (by omega)]; exact o.blk i (by omega)
  · split at he
    · rename_i e
      split at he
      · omega
      · have := (o.rng k (by omega)).2; omega
    · split at he
      · have := (o.rng i (by omega)).2; omega
      · exact o.inj i k (by omega) (by omega) he
theorem lcells_snoc {α : Type} (f : Nat → Nat) (ll : List (List α)) (j m : Nat) : lcells (fun i => if i = j then m else f i) ll (j + 1) = lcells f ll j ++ [.s m 1 0 (ll.getD j []).length] := by
  rw [lcells_succ, lcells_congr (g := f) ll (fun i hi => by rw [if_neg (by omega)])]
  simp
def I28 (a : AV) (h : Heap) (n : Nat) (ll : List (List Ev)) (s : St) : Prop := ∃ j, j ≤ ll.length ∧ s.e 0 = a ∧ s.e 4 = ii j ∧ OwnL ecells 11 s.h n s.n (s.e 3) ll j ∧ agree n h s.h ∧ Fresh s.n s.h ∧ n ≤ s.n
set_option maxRecDepth 100000 in
set_option maxHeartbeats 4000000 in
theorem c28 {h : Heap} {n : Nat} {a : AV} {ll : List (List Ev)} (e1 : rd dEss h a = some ll) (hl : ∀ l ∈ ll, l.length ≤ 2147483647) (hb : ll.length * 24 ≤ 140737488355328) (hn : Fresh n h) :
    ACall (cx [] (pfL [])) 28 [a] h n fun z h' n' => agree n h h' ∧ Fresh n' h' ∧ n ≤ n' ∧ OwnL ecells 11 h' n n' z ll ll.length := by
  refine acall_of_awp (args := [a]) (pfL_ok tb_nil) (mixed _ _) Tryd.func28 (c := Tryd.f28.body.getD .skip) rfl (by kernel_rfl) (callable Tryd.func28 rfl rfl _ _) (show 1 ≤ Tryd.f28.ntmps by decide +kernel) ?_
  obtain ⟨s1, s2, s3, s4, s5⟩ := sl_is e1
  have key : ∀ e : Nat → AV, e 0 = a → awp (cx [] (pfL [])) (Tryd.f28.body.getD .skip) (finQ (cx [] (pfL [])) Tryd.f28 fun z h' n' => agree n h h' ∧ Fresh n' h' ∧ n ≤ n' ∧ OwnL ecells 11 h' n n' z ll ll.length) ⟨e, h, n⟩ := fun e q0 => by
    simp [evs, resAll, resVal, resOne, freeOp, isA, goOp, appNew, mkOp, gev, Region.binds, aop, aeval, gocall, heapOp, quietOp, ev, constAV, setd, yav, ystop, up, env0, cx_ti, cx_G, cx_pf, ti, globS, glob, pfL, lds, ldc, ldcs_1, ldcs_2, ldcs_3, ldcs_4, ldcs_5, ldcs_7, sts, sth, sls.eq_1, slc.eq_1, wr, place, fillOk, fillC, repZ, binI, isDiv, optInt, optI, eksOk, eksEq, EK.ok, EK.eq, AV.i, AV.isI, AV.isInt, AV.str, AV.isStr, AV.ones, AV.isPtr, AV.gl, AV.isG, Value.oneCell', Tryd.f28, q0]
    refine awp_loop (I28 a h n ll) (fun s => ll.length - (s.e 4).i.toNat) ⟨0, Nat.zero_le _, by simp [up, q0], by simp [up, ii], ⟨fun _ => 0, ⟨fun i hi => by omega, fun i hi => by omega, fun i _ hi => by omega⟩, .inl ⟨rfl, by simp [up]⟩⟩, agree_refl _ _, hn, Nat.le_refl _⟩ ?_
    rintro e' h' n' ⟨j, hj, q0, q4, ⟨f, hof, hz⟩, hag, hfr, hnn⟩
    simp only [] at q0 q4 hof hz hag hfr hnn
    by_cases hlt : j < ll.length
    · rcases sls_at e1 with ⟨h0, _⟩ | ⟨id, off, k, rfl, hk, ho, hat⟩
      · rw [h0] at hlt; simp at hlt
      obtain ⟨c, hc, hcr⟩ := hat j hlt
      obtain ⟨u1, u2, u3, u4, u5⟩ := sl_is hcr
      have hid := lt_of hk hn
      have hk' : h' id = some k := by rw [hag id hid]; exact hk
      have y0 : ¬ id = n' := by omega
      have hw := wrap_nat (j := j) (by unfold big; omega)
      have hw1 : off + (j + 1) ≤ k.cells.length := by omega
      have fa : ∀ h'', agree n h h'' → sls h'' c 0 (ll[j].length * 11) := fun h'' ha => (flat_app Flat.ev (rd_agr hn hcr h'' ha)).1
      have fb : ∀ h'', agree n h h'' → slc h'' c 0 (ll[j].length * 11) = ll[j].flatMap ecells := fun h'' ha => (flat_app Flat.ev (rd_agr hn hcr h'' ha)).2
      have hll := hl _ (List.getElem_mem hlt)
      have hg : ll.getD j [] = ll[j] := by simp [List.getD_eq_getElem?_getD, hlt]
      have b1 : ll[j].length * 88 ≤ 140737488355328 := by omega
      have b2 : ll[j].length ≤ 9223372036854775807 := by omega
      have b3 : (j + 1) * 24 ≤ 140737488355328 := by omega
      have b4 : j + 1 ≤ 9223372036854775807 := by omega
      have f0 : n ≤ n' := by omega
      have f1 : n ≤ n' + 1 := by omega
      have f2 : n ≤ n' + 2 := by omega
      have f3 : n ≤ n' + 3 := by omega
      generalize hgl : ll[j] = lj at *
      generalize hfl : lj.flatMap ecells = cl at *
      rcases hz with ⟨hj0, q3⟩ | ⟨w, u, q3, hw0, hw2, hw3, hne⟩
      · simp [evs, resAll, resVal, resOne, freeOp, isA, goOp, appNew, mkOp, gev, Region.binds, aop, aeval, gocall, heapOp, quietOp, ev, constAV, setd, yav, ystop, up, env0, cx_ti, cx_G, cx_pf, ti, globS, glob, pfL, lds, ldc, ldcs_1, ldcs_2, ldcs_3, ldcs_4, ldcs_5, ldcs_7, sts, sth, sls.eq_1, slc.eq_1, wr, place, fillOk, fillC, repZ, binI, isDiv, optInt, optI, eksOk, eksEq, EK.ok, EK.eq, AV.i, AV.isI, AV.isInt, AV.str, AV.isStr, AV.ones, AV.isPtr, AV.gl, AV.isG, Value.oneCell', q0, q3, q4, ii, hlt, hk', y0, hc, hw1, u1, u2, u3, u4, u5, fa, fb, agree_up, hag, f0, f1, f2, f3, b1, b2, b3, b4, hw]
        refine ⟨⟨j + 1, by omega, by simp [up, q0], by simp [up, ii], ⟨fun i => if i = j then n' else f i, hof.snoc (hi2 := n' + 4) (fun i hi => by omega) hnn (Nat.le_refl _) (by omega) (by rw [hg, hfl]; simp [up]), .inr ⟨n' + 3, 0, by simp [up]; omega, by simp only [up_same, lcells_snoc, hg]; rw [hj0]; rfl, by omega, by simp only []; omega, fun i hi => ?_⟩⟩, by simp [agree_up, hag, f0, f1, f2, f3], by simp [fresh_up, hfr.add], by simp only []; omega⟩, by omega⟩
        simp only []
        rw [if_pos (by omega)]
        omega
      · have yw : ¬ w = n' := by omega
        have yw1 : ¬ w = n' + 2 := by omega
        have yw2 : ¬ n' = w := by omega
        have yw3 : n ≤ w := by omega
        have yw4 : w < n' + 4 := by omega
        have hcl := lcells_len f ll j
        have hls := lcells_snoc f ll j n'
        generalize lcells f ll j = lc at *
        simp [evs, resAll, resVal, resOne, freeOp, isA, goOp, appNew, mkOp, gev, Region.binds, aop, aeval, gocall, heapOp, quietOp, ev, constAV, setd, yav, ystop, up, env0, cx_ti, cx_G, cx_pf, ti, globS, glob, pfL, lds, ldc, ldcs_1, ldcs_2, ldcs_3, ldcs_4, ldcs_5, ldcs_7, sts, sth, sls.eq_1, slc.eq_1, wr, place, fillOk, fillC, repZ, binI, isDiv, optInt, optI, eksOk, eksEq, EK.ok, EK.eq, AV.i, AV.isI, AV.isInt, AV.str, AV.isStr, AV.ones, AV.isPtr, AV.gl, AV.isG, Value.oneCell', q0, q3, q4, ii, hlt, hk', y0, hc, hw1, u1, u2, u3, u4, u5, fa, fb, agree_up, hag, f0, f1, f2, f3, b1, b2, b3, b4, hw, hw0, yw, yw1, hcl]
        refine ⟨⟨j + 1, by omega, by simp [up, q0], by simp [up, ii], ⟨fun i => if i = j then n' else f i, hof.snoc (hi2 := n' + 4) (fun i hi => ?_) hnn (Nat.le_refl _) (by omega) (by rw [hg, hfl]; simp [up, yw2]), .inr ⟨w, u + 1, by simp [up], by simp only [up_same, hls, hg], hw2, by simp only []; omega, fun i hi => ?_⟩⟩, by simp [agree_up, hag, f0, f1, f2, f3, yw3], by simp [fresh_up, hfr.add, yw4], by simp only []; omega⟩, by omega⟩
        · have r := hof.rng i hi
          have r1 := hne i hi
          have r2 : ¬ f i = n' := by omega
          have r3 : ¬ f i = n' + 2 := by omega
          simp [up, r1, r2, r3]
        · simp only []
          split
          · omega
          · exact hne i (by omega)
    · have hje : j = ll.length := by omega
      subst hje
      simp [evs, resAll, resVal, resOne, freeOp, isA, goOp, appNew, mkOp, gev, Region.binds, aop, aeval, gocall, heapOp, quietOp, ev, constAV, setd, yav, ystop, up, env0, cx_ti, cx_G, cx_pf, ti, globS, glob, pfL, lds, ldc, ldcs_1, ldcs_2, ldcs_3, ldcs_4, ldcs_5, ldcs_7, sts, sth, sls.eq_1, slc.eq_1, wr, place, fillOk, fillC, repZ, binI, isDiv, optInt, optI, eksOk, eksEq, EK.ok, EK.eq, AV.i, AV.isI, AV.isInt, AV.str, AV.isStr, AV.ones, AV.isPtr, AV.gl, AV.isG, Value.oneCell', q0, q4, ii, s1, s2, s3]
      exact ⟨hag, hfr, hnn, f, hof, hz⟩
  exact key _ rfl
end Go.Proofs.YtkfphaphiikloaaDoor
