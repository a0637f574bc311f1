/-
  THE PROGRAMS OF CONDITIONS, PART J: how many events there are; lists that are the same.
-/
import Derived.Test.YtkfphaphiikloaaDoorX15
set_option linter.unusedSimpArgs false
set_option linter.unusedVariables false
set_option linter.constructorNameAsVariable false
namespace Go.Proofs.YtkfphaphiikloaaDoor
open Go Go.Eng

def sumTo (ll : List (List Ev)) (j : Nat) : Nat := ((ll.take j).map List.length).sum
theorem sumTo_succ {ll : List (List Ev)} {j : Nat} (h : j < ll.length) : sumTo ll (j + 1) = sumTo ll j + ll[j].length := by
  unfold sumTo
  rw [List.take_add_one, List.getElem?_eq_getElem h, List.map_append, List.sum_append]
  simp only [Option.toList_some, List.map_cons, List.map_nil, List.sum_cons, List.sum_nil, Nat.add_zero]
theorem sumTo_mono (ll : List (List Ev)) : ∀ {i j : Nat}, i ≤ j → sumTo ll i ≤ sumTo ll j := fun {i j} h => by
  induction h with
  | refl => exact Nat.le_refl _
  | @step m _ ih =>
    by_cases hm : m < ll.length
    · have := sumTo_succ hm
      simp only [Nat.succ_eq_add_one]
      omega
    · have e : ll.take (m + 1) = ll.take m := by rw [List.take_of_length_le (by omega), List.take_of_length_le (by omega)]
      simp only [Nat.succ_eq_add_one, sumTo, e] at ih ⊢
      exact ih
def beyondV (ll : List (List Ev)) : Bool := decide (2147483647 < sumTo ll ll.length)
theorem beyond_len {ll : List (List Ev)} (h : beyondV ll = false) : ∀ l ∈ ll, l.length ≤ 2147483647 := fun l hl => by
  obtain ⟨i, hi, rfl⟩ := List.getElem_of_mem hl
  have h1 := sumTo_succ hi
  have h2 := sumTo_mono ll (i := i + 1) (j := ll.length) (by omega)
  have h3 : ¬ 2147483647 < sumTo ll ll.length := by simpa [beyondV] using h
  omega
def deLL (h : Heap) : List AV → Option (List (List Ev))
  | [a] => rd dEss h a
  | _ => none
theorem deLL_out {h : Heap} {args : List AV} {q : List (List Ev)} (e : deLL h args = some q) : ∃ a, args = [a] ∧ rd dEss h a = some q := by
  unfold deLL at e
  split at e
  · exact ⟨_, rfl, e⟩
  · cases e
theorem deLL_mono (h h' : Heap) (args : List AV) (q : List (List Ev)) (hh : h.le h') (e : deLL h args = some q) : deLL h' args = some q := by
  obtain ⟨a, rfl, e1⟩ := deLL_out e
  simp only [deLL, rd_mono hh e1]
def G27 := pureH deLL (fun ll => ll.length < big ∧ ∀ l ∈ ll, l.length < big) fun ll => bv (beyondV ll)
set_option maxRecDepth 100000 in
set_option maxHeartbeats 1000000 in
theorem P27 : P0 [] 27 G27 := by
  refine mkH 1 (S := []) (l := []) tb_nil Tryd.func27 rfl (by kernel_rfl) deLL_mono (fun h l x e => by obtain ⟨a, rfl, _⟩ := deLL_out e; exact Nat.le_refl _) (fun a => rfl) (fun args ll h n e hp hn => ?_)
  obtain ⟨a, rfl, e1⟩ := deLL_out e
  obtain ⟨s1, s2, s3, s4, s5⟩ := sl_is e1
  have key : ∀ e : Nat → AV, e 0 = a → awp (cx [] (pfL [])) (Tryd.f27.body.getD .skip) (finQ (cx [] (pfL [])) Tryd.f27 fun z _ _ => z = bv (beyondV ll)) ⟨e, roH h, n⟩ := fun e q0 => by
    simp [evs, resAll, resVal, resOne, freeOp, isA, goOp, appNew, mkOp, gev, Region.binds, aop, aeval, gocall, heapOp, quietOp, ev, constAV, setd, yav, ystop, up, env0, cx_ti, cx_G, cx_pf, ti, globS, glob, pfL, lds, ldc, ldcs_1, ldcs_2, ldcs_3, ldcs_4, ldcs_5, ldcs_7, sts, sth, sls.eq_1, slc.eq_1, wr, place, fillOk, fillC, repZ, binI, isDiv, optInt, optI, eksOk, eksEq, EK.ok, EK.eq, AV.i, AV.isI, AV.isInt, AV.str, AV.isStr, AV.ones, AV.isPtr, AV.gl, AV.isG, Value.oneCell', Tryd.f27, q0]
    refine awp_loop (fun s => ∃ j, j ≤ ll.length ∧ s.e 0 = a ∧ s.e 3 = ii (sumTo ll j) ∧ s.e 4 = ii j ∧ s.h = roH h ∧ sumTo ll j ≤ 2147483647) (fun s => ll.length - (s.e 4).i.toNat) ⟨0, by simp [up, q0, ii, sumTo]⟩ ?_
    rintro e' h' n' ⟨j, hj, q0, q3, q4, hh, hs⟩
    simp only [] at q0 q3 q4 hh
    subst hh
    by_cases hlt : j < ll.length
    · rcases sls_at e1 with ⟨h0, _⟩ | ⟨id, off, k, rfl, hk, ho, hat⟩
      · rw [h0] at hlt; simp at hlt
      obtain ⟨c, hc, hcr⟩ := hat j hlt
      obtain ⟨u1, u2, u3, u4, u5⟩ := sl_is hcr
      have hro := ro_at hk
      have hw := wrap_nat (j := j) (by have := hp.1; omega)
      have hw1 : off + (j + 1) ≤ k.cells.length := by omega
      have hss := sumTo_succ hlt
      have hsub : IntKind.i64.wrap (2147483647 - (sumTo ll j : Int)) = 2147483647 - sumTo ll j := W_id (by unfold Rng; omega)
      have hll := hp.2 _ (List.getElem_mem hlt)
      unfold big at hll
      have hmon := sumTo_mono ll (i := j + 1) (j := ll.length) (by omega)
      by_cases hgt : (2147483647 - (sumTo ll j : Int)) < ll[j].length
      · have hb : beyondV ll = true := by simp only [beyondV, decide_eq_true_eq]; omega
        simp [evs, resAll, resVal, resOne, freeOp, isA, goOp, appNew, mkOp, gev, Region.binds, aop, aeval, gocall, heapOp, quietOp, ev, constAV, setd, yav, ystop, up, env0, cx_ti, cx_G, cx_pf, ti, globS, glob, pfL, lds, ldc, ldcs_1, ldcs_2, ldcs_3, ldcs_4, ldcs_5, ldcs_7, sts, sth, sls.eq_1, slc.eq_1, wr, place, fillOk, fillC, repZ, binI, isDiv, optInt, optI, eksOk, eksEq, EK.ok, EK.eq, AV.i, AV.isI, AV.isInt, AV.str, AV.isStr, AV.ones, AV.isPtr, AV.gl, AV.isG, Value.oneCell', q0, q3, q4, ii, bv, hlt, hro, hc, hw1, u1, u2, u3, hsub, hgt, hb]
      · have hadd : IntKind.i64.wrap ((sumTo ll j : Int) + ll[j].length) = sumTo ll j + ll[j].length := W_id (by unfold Rng; omega)
        simp [evs, resAll, resVal, resOne, freeOp, isA, goOp, appNew, mkOp, gev, Region.binds, aop, aeval, gocall, heapOp, quietOp, ev, constAV, setd, yav, ystop, up, env0, cx_ti, cx_G, cx_pf, ti, globS, glob, pfL, lds, ldc, ldcs_1, ldcs_2, ldcs_3, ldcs_4, ldcs_5, ldcs_7, sts, sth, sls.eq_1, slc.eq_1, wr, place, fillOk, fillC, repZ, binI, isDiv, optInt, optI, eksOk, eksEq, EK.ok, EK.eq, AV.i, AV.isI, AV.isInt, AV.str, AV.isStr, AV.ones, AV.isPtr, AV.gl, AV.isG, Value.oneCell', q0, q3, q4, ii, bv, hlt, hro, hc, hw1, u1, u2, u3, hsub, hgt, hadd, hw]
        exact ⟨⟨j + 1, by omega, by omega, by omega, by omega⟩, by omega⟩
    · have hje : j = ll.length := by omega
      subst hje
      have hb : beyondV ll = false := by simp only [beyondV, decide_eq_false_iff_not]; omega
      simp [evs, resAll, resVal, resOne, freeOp, isA, goOp, appNew, mkOp, gev, Region.binds, aop, aeval, gocall, heapOp, quietOp, ev, constAV, setd, yav, ystop, up, env0, cx_ti, cx_G, cx_pf, ti, globS, glob, pfL, lds, ldc, ldcs_1, ldcs_2, ldcs_3, ldcs_4, ldcs_5, ldcs_7, sts, sth, sls.eq_1, slc.eq_1, wr, place, fillOk, fillC, repZ, binI, isDiv, optInt, optI, eksOk, eksEq, EK.ok, EK.eq, AV.i, AV.isI, AV.isInt, AV.str, AV.isStr, AV.ones, AV.isPtr, AV.gl, AV.isG, Value.oneCell', q0, q3, q4, ii, bv, s1, s2, s3, hb]
  exact key _ rfl
def de33 (h : Heap) : List AV → Option (List (List Ev) × List (List Ev))
  | [a, b] => match rd dEss h a, rd dEss h b with
    | some x, some y => some (x, y)
    | _, _ => none
  | _ => none
theorem de33_out {h : Heap} {args : List AV} {q : List (List Ev) × List (List Ev)} (e : de33 h args = some q) : ∃ a b, args = [a, b] ∧ rd dEss h a = some q.1 ∧ rd dEss h b = some q.2 := by
  unfold de33 at e
  split at e
  · split at e
    · rename_i e1 e2
      cases e
      exact ⟨_, _, rfl, e1, e2⟩
    · cases e
  · cases e
theorem de33_mono (h h' : Heap) (args : List AV) (q : List (List Ev) × List (List Ev)) (hh : h.le h') (e : de33 h args = some q) : de33 h' args = some q := by
  obtain ⟨a, b, rfl, e1, e2⟩ := de33_out e
  simp only [de33, rd_mono hh e1, rd_mono hh e2]
/-- Two lists of lists that are the same. -/
def G33 := pureH de33 (fun q => q.1 = q.2 ∧ q.1.length < big ∧ ∀ l ∈ q.1, l.length < big) fun _ => bv true
set_option maxRecDepth 100000 in
set_option maxHeartbeats 1000000 in
theorem P33 : P0 [] 33 G33 := by
  refine mkH 2 (S := []) (l := []) tb_nil Tryd.func33 rfl (by kernel_rfl) de33_mono (fun h l x e => by obtain ⟨a, b, rfl, _⟩ := de33_out e; exact Nat.le_refl _) (fun a => rfl) (fun args q h n e hp hn => ?_)
  obtain ⟨ll, l2⟩ := q
  obtain ⟨a, b, rfl, e1, e2⟩ := de33_out e
  obtain ⟨heq, hb1, hb2⟩ := hp
  simp only [] at e1 e2 heq hb1 hb2
  subst heq
  obtain ⟨s1, s2, s3, s4, s5⟩ := sl_is e1
  obtain ⟨t1, t2, t3, t4, t5⟩ := sl_is e2
  have key : ∀ e : Nat → AV, e 0 = a → e 1 = b → awp (cx [] (pfL [])) (Tryd.f33.body.getD .skip) (finQ (cx [] (pfL [])) Tryd.f33 fun z _ _ => z = bv true) ⟨e, roH h, n⟩ := fun e q0 q1 => by
    simp [evs, resAll, resVal, resOne, freeOp, isA, goOp, appNew, mkOp, gev, Region.binds, aop, aeval, gocall, heapOp, quietOp, ev, constAV, setd, yav, ystop, up, env0, cx_ti, cx_G, cx_pf, ti, globS, glob, pfL, lds, ldc, ldcs_1, ldcs_2, ldcs_3, ldcs_4, ldcs_5, ldcs_7, sts, sth, sls.eq_1, slc.eq_1, wr, place, fillOk, fillC, repZ, binI, isDiv, optInt, optI, eksOk, eksEq, EK.ok, EK.eq, AV.i, AV.isI, AV.isInt, AV.str, AV.isStr, AV.ones, AV.isPtr, AV.gl, AV.isG, Value.oneCell', Tryd.f33, q0, q1, s1, s2, s3, t1, t2, t3]
    refine awp_loop (fun s => ∃ j, j ≤ ll.length ∧ s.e 0 = a ∧ s.e 1 = b ∧ s.e 5 = ii j ∧ s.h = roH h) (fun s => ll.length - (s.e 5).i.toNat) ⟨0, by simp [up, q0, q1, ii]⟩ ?_
    rintro e' h' n' ⟨j, hj, q0, q1, q5, hh⟩
    simp only [] at q0 q1 q5 hh
    subst hh
    by_cases hlt : j < ll.length
    · rcases sls_at e1 with ⟨h0, _⟩ | ⟨id, off, k, rfl, hk, ho, hat⟩
      · rw [h0] at hlt; simp at hlt
      rcases sls_at e2 with ⟨h0, _⟩ | ⟨id2, off2, k2, rfl, hk2, ho2, hat2⟩
      · rw [h0] at hlt; simp at hlt
      obtain ⟨c, hc, hcr⟩ := hat j hlt
      obtain ⟨c2, hc2, hcr2⟩ := hat2 j hlt
      obtain ⟨u1, u2, u3, u4, u5⟩ := sl_is hcr
      obtain ⟨v1, v2, v3, v4, v5⟩ := sl_is hcr2
      have hro := ro_at hk
      have hro2 := ro_at hk2
      have hw := wrap_nat (j := j) (by omega)
      have hw1 : off + (j + 1) ≤ k.cells.length := by omega
      have hw2 : off2 + (j + 1) ≤ k2.cells.length := by omega
      have hll := hb2 _ (List.getElem_mem hlt)
      simp [evs, resAll, resVal, resOne, freeOp, isA, goOp, appNew, mkOp, gev, Region.binds, aop, aeval, gocall, heapOp, quietOp, ev, constAV, setd, yav, ystop, up, env0, cx_ti, cx_G, cx_pf, ti, globS, glob, pfL, lds, ldc, ldcs_1, ldcs_2, ldcs_3, ldcs_4, ldcs_5, ldcs_7, sts, sth, sls.eq_1, slc.eq_1, wr, place, fillOk, fillC, repZ, binI, isDiv, optInt, optI, eksOk, eksEq, EK.ok, EK.eq, AV.i, AV.isI, AV.isInt, AV.str, AV.isStr, AV.ones, AV.isPtr, AV.gl, AV.isG, Value.oneCell', q0, q1, q5, ii, hlt, hro, hro2, hc, hc2, hw1, hw2, u1, u2, u3, v1, v2, v3]
      refine awp_loop (fun s => ∃ m, m ≤ ll[j].length ∧ s.e 0 = .s id k.ver off ll.length ∧ s.e 1 = .s id2 k2.ver off2 ll.length ∧ s.e 5 = ii j ∧ s.e 6 = ii m ∧ s.h = roH h) (fun s => ll[j].length - (s.e 6).i.toNat) ⟨0, by simp [up, q0, q1, q5, ii]⟩ ?_
      rintro e2' h2' n2' ⟨m, hm, q0, q1, q5, q6, hh⟩
      simp only [] at q0 q1 q5 q6 hh
      subst hh
      by_cases hmt : m < ll[j].length
      · rcases es_at hcr with ⟨h0, _⟩ | ⟨i3, o3, k3, rfl, hk3, ho3, hat3⟩
        · rw [h0] at hmt; simp at hmt
        rcases es_at hcr2 with ⟨h0, _⟩ | ⟨i4, o4, k4, rfl, hk4, ho4, hat4⟩
        · rw [h0] at hmt; simp at hmt
        have hro3 := ro_at hk3
        have hro4 := ro_at hk4
        have hle3 : ∀ (X : Ctx) (h' : Heap), h' i3 = some ⟨k3.cells, k3.ver, false, k3.esz⟩ → ldcs X h' (.p i3 k3.ver (o3 + m * 11)) 0 11 = ecells ll[j][m] := fun X h' e => ldcs_ev e (hat3 m hmt)
        have hle4 : ∀ (X : Ctx) (h' : Heap), h' i4 = some ⟨k4.cells, k4.ver, false, k4.esz⟩ → ldcs X h' (.p i4 k4.ver (o4 + m * 11)) 0 11 = ecells ll[j][m] := fun X h' e => ldcs_ev e (hat4 m hmt)
        have hw3 : o3 + (m * 11 + 11) ≤ k3.cells.length := by omega
        have hw4 : o4 + (m * 11 + 11) ≤ k4.cells.length := by omega
        have hwm := wrap_nat (j := m) (by omega)
        simp [evs, resAll, resVal, resOne, freeOp, isA, goOp, appNew, mkOp, gev, Region.binds, aop, aeval, gocall, heapOp, quietOp, ev, constAV, setd, yav, ystop, up, env0, cx_ti, cx_G, cx_pf, ti, globS, glob, pfL, lds, ldc, ldcs_1, ldcs_2, ldcs_3, ldcs_4, ldcs_5, ldcs_7, sts, sth, sls.eq_1, slc.eq_1, wr, place, fillOk, fillC, repZ, binI, isDiv, optInt, optI, eksOk, eksEq, EK.ok, EK.eq, AV.i, AV.isI, AV.isInt, AV.str, AV.isStr, AV.ones, AV.isPtr, AV.gl, AV.isG, Value.oneCell', q0, q1, q5, q6, ii, uu, hlt, hmt, hro, hro2, hro3, hro4, hc, hc2, hw1, hw2, hw3, hw4, u1, u2, u3, v1, v2, v3, hle3, hle4, ecells, hwm]
        exact ⟨⟨m + 1, by omega, by omega⟩, by omega⟩
      · have hme : m = ll[j].length := by omega
        subst hme
        simp [evs, resAll, resVal, resOne, freeOp, isA, goOp, appNew, mkOp, gev, Region.binds, aop, aeval, gocall, heapOp, quietOp, ev, constAV, setd, yav, ystop, up, env0, cx_ti, cx_G, cx_pf, ti, globS, glob, pfL, lds, ldc, ldcs_1, ldcs_2, ldcs_3, ldcs_4, ldcs_5, ldcs_7, sts, sth, sls.eq_1, slc.eq_1, wr, place, fillOk, fillC, repZ, binI, isDiv, optInt, optI, eksOk, eksEq, EK.ok, EK.eq, AV.i, AV.isI, AV.isInt, AV.str, AV.isStr, AV.ones, AV.isPtr, AV.gl, AV.isG, Value.oneCell', q0, q1, q5, q6, ii, hlt, hro, hro2, hc, hc2, hw1, hw2, u1, u2, u3, v1, v2, v3, hw]
        exact ⟨⟨j + 1, by omega, by omega⟩, by omega⟩
    · have hje : j = ll.length := by omega
      subst hje
      simp [evs, resAll, resVal, resOne, freeOp, isA, goOp, appNew, mkOp, gev, Region.binds, aop, aeval, gocall, heapOp, quietOp, ev, constAV, setd, yav, ystop, up, env0, cx_ti, cx_G, cx_pf, ti, globS, glob, pfL, lds, ldc, ldcs_1, ldcs_2, ldcs_3, ldcs_4, ldcs_5, ldcs_7, sts, sth, sls.eq_1, slc.eq_1, wr, place, fillOk, fillC, repZ, binI, isDiv, optInt, optI, eksOk, eksEq, EK.ok, EK.eq, AV.i, AV.isI, AV.isInt, AV.str, AV.isStr, AV.ones, AV.isPtr, AV.gl, AV.isG, Value.oneCell', q0, q1, q5, ii, bv, s1, s2, s3]
  exact key _ rfl rfl
end Go.Proofs.YtkfphaphiikloaaDoor

namespace Go.Proofs.YtkfphaphiikloaaDoor
open Go Go.Eng

def de21 (h : Heap) : List AV → Option (Pr × Pr)
  | [a, b] => match dePr h a, dePr h b with
    | some x, some y => some (x, y)
    | _, _ => none
  | _ => none
theorem de21_out {h : Heap} {args : List AV} {q : Pr × Pr} (e : de21 h args = some q) : ∃ a b, args = [a, b] ∧ dePr h a = some q.1 ∧ dePr h b = some q.2 := by
  unfold de21 at e
  split at e
  · split at e
    · rename_i e1 e2
      cases e
      exact ⟨_, _, rfl, e1, e2⟩
    · cases e
  · cases e
theorem de21_mono (h h' : Heap) (args : List AV) (q : Pr × Pr) (hh : h.le h') (e : de21 h args = some q) : de21 h' args = some q := by
  obtain ⟨a, b, rfl, e1, e2⟩ := de21_out e
  simp only [de21, dePr_sim hh.sim e1, dePr_sim hh.sim e2]
/-- Two programs that are the same. -/
def G21 := pureH de21 (fun q => q.1 = q.2 ∧ q.1.code.length < big ∧ q.1.cols.length < big ∧ ∀ l ∈ q.1.cols, l.length < big) fun _ => bv true
set_option maxRecDepth 100000 in
set_option maxHeartbeats 2000000 in
theorem P21 : P0 [] 21 G21 := by
  refine mkH 2 (S := []) (l := []) tb_nil Tryd.func21 rfl (by kernel_rfl) de21_mono (fun h l x e => by obtain ⟨a, b, rfl, _⟩ := de21_out e; exact Nat.le_refl _) (fun a => rfl) (fun args q h n e hp hn => ?_)
  obtain ⟨p, p2⟩ := q
  obtain ⟨x, y, rfl, e1, e2⟩ := de21_out e
  obtain ⟨heq, hb0, hb1, hb2⟩ := hp
  simp only [] at e1 e2 heq hb0 hb1 hb2
  subst heq
  obtain ⟨a, b, rfl, e3, e4⟩ := dePr_out e1
  obtain ⟨a', b', rfl, e5, e6⟩ := dePr_out e2
  obtain ⟨s1, s2, s3, s4, s5⟩ := sl_is e3
  obtain ⟨t1, t2, t3, t4, t5⟩ := sl_is e4
  obtain ⟨p1, p2, p3, p4, p5⟩ := sl_is e5
  obtain ⟨r1, r2, r3, r4, r5⟩ := sl_is e6
  have key : ∀ e : Nat → AV, e 0 = .g [a, b] → e 1 = .g [a', b'] → awp (cx [] (pfL [])) (Tryd.f21.body.getD .skip) (finQ (cx [] (pfL [])) Tryd.f21 fun z _ _ => z = bv true) ⟨e, roH h, n⟩ := fun e q0 q1 => by
    simp [evs, resAll, resVal, resOne, freeOp, isA, goOp, appNew, mkOp, gev, Region.binds, aop, aeval, gocall, heapOp, quietOp, ev, constAV, setd, yav, ystop, up, env0, cx_ti, cx_G, cx_pf, ti, globS, glob, pfL, lds, ldc, ldcs_1, ldcs_2, ldcs_3, ldcs_4, ldcs_5, ldcs_7, sts, sth, sls.eq_1, slc.eq_1, wr, place, fillOk, fillC, repZ, binI, isDiv, optInt, optI, eksOk, eksEq, EK.ok, EK.eq, AV.i, AV.isI, AV.isInt, AV.str, AV.isStr, AV.ones, AV.isPtr, AV.gl, AV.isG, Value.oneCell', Tryd.f21, q0, q1, s1, s2, s3, s4, s5, t1, t2, t3, t4, t5, p1, p2, p3, p4, p5, r1, r2, r3, r4, r5]
    refine awp_loop (fun s => ∃ j, j ≤ p.code.length ∧ s.e 2 = .p n 0 0 ∧ s.e 3 = .p (n + 1) 0 0 ∧ s.e 5 = ii j ∧ agree n (roH h) s.h ∧ s.h n = some ⟨[a, b], 0, true, 2⟩ ∧ s.h (n + 1) = some ⟨[a', b'], 0, true, 2⟩) (fun s => p.code.length - (s.e 5).i.toNat) ⟨0, by simp [up, ii, agree_up, agree_refl]⟩ ?_
    rintro e' h' n' ⟨j, hj, q2, q3, q5, hag, hx, hy⟩
    simp only [] at q2 q3 q5 hag hx hy
    by_cases hlt : j < p.code.length
    · rcases ps_at e3 with ⟨h0, _⟩ | ⟨id, off, k, rfl, hk, ho, hat⟩
      · rw [h0] at hlt; simp at hlt
      rcases ps_at e5 with ⟨h0, _⟩ | ⟨id2, off2, k2, rfl, hk2, ho2, hat2⟩
      · rw [h0] at hlt; simp at hlt
      obtain ⟨c0, c1, c2, c3, c4⟩ := ins_at (hat j hlt)
      obtain ⟨d0, d1, d2, d3, d4⟩ := ins_at (hat2 j hlt)
      rw [Nat.add_assoc] at c1 c2 c3 c4 d1 d2 d3 d4
      have hro := agree_at hn hk hag
      have hro2 := agree_at hn hk2 hag
      have hw := wrap_nat (j := j) (by omega)
      have hw1 : off + (j * 5 + 5) ≤ k.cells.length := by omega
      have hw2 : off2 + (j * 5 + 5) ≤ k2.cells.length := by omega
      simp [evs, resAll, resVal, resOne, freeOp, isA, goOp, appNew, mkOp, gev, Region.binds, aop, aeval, gocall, heapOp, quietOp, ev, constAV, setd, yav, ystop, up, env0, cx_ti, cx_G, cx_pf, ti, globS, glob, pfL, lds, ldc, ldcs_1, ldcs_2, ldcs_3, ldcs_4, ldcs_5, ldcs_7, sts, sth, sls.eq_1, slc.eq_1, wr, place, fillOk, fillC, repZ, binI, isDiv, optInt, optI, eksOk, eksEq, EK.ok, EK.eq, AV.i, AV.isI, AV.isInt, AV.str, AV.isStr, AV.ones, AV.isPtr, AV.gl, AV.isG, Value.oneCell', q2, q3, q5, hx, hy, ii, hlt, hro, hro2, c0, c1, c2, c3, c4, d0, d1, d2, d3, d4, hw1, hw2, hw]
      exact ⟨⟨j + 1, by omega, by omega, hag⟩, by omega⟩
    · have hje : j = p.code.length := by omega
      subst hje
      simp [evs, resAll, resVal, resOne, freeOp, isA, goOp, appNew, mkOp, gev, Region.binds, aop, aeval, gocall, heapOp, quietOp, ev, constAV, setd, yav, ystop, up, env0, cx_ti, cx_G, cx_pf, ti, globS, glob, pfL, lds, ldc, ldcs_1, ldcs_2, ldcs_3, ldcs_4, ldcs_5, ldcs_7, sts, sth, sls.eq_1, slc.eq_1, wr, place, fillOk, fillC, repZ, binI, isDiv, optInt, optI, eksOk, eksEq, EK.ok, EK.eq, AV.i, AV.isI, AV.isInt, AV.str, AV.isStr, AV.ones, AV.isPtr, AV.gl, AV.isG, Value.oneCell', q2, q3, q5, hx, hy, ii, s1, s2, s3]
      refine awp_loop (fun s => ∃ j, j ≤ p.cols.length ∧ s.e 2 = .p n 0 0 ∧ s.e 3 = .p (n + 1) 0 0 ∧ s.e 6 = ii j ∧ s.h = h') (fun s => p.cols.length - (s.e 6).i.toNat) ⟨0, by simp [up, ii, q2, q3]⟩ ?_
      rintro e2' h2' n2' ⟨j, hj, q2, q3, q6, hh⟩
      simp only [] at q2 q3 q6 hh
      subst hh
      by_cases hlt : j < p.cols.length
      · rcases sls_at e4 with ⟨h0, _⟩ | ⟨id, off, k, rfl, hk, ho, hat⟩
        · rw [h0] at hlt; simp at hlt
        rcases sls_at e6 with ⟨h0, _⟩ | ⟨id2, off2, k2, rfl, hk2, ho2, hat2⟩
        · rw [h0] at hlt; simp at hlt
        obtain ⟨c, hc, hcr⟩ := hat j hlt
        obtain ⟨c2, hc2, hcr2⟩ := hat2 j hlt
        obtain ⟨u1, u2, u3, u4, u5⟩ := sl_is hcr
        obtain ⟨v1, v2, v3, v4, v5⟩ := sl_is hcr2
        have hro := agree_at hn hk hag
        have hro2 := agree_at hn hk2 hag
        have hw := wrap_nat (j := j) (by omega)
        have hw1 : off + (j + 1) ≤ k.cells.length := by omega
        have hw2 : off2 + (j + 1) ≤ k2.cells.length := by omega
        have hll := hb2 _ (List.getElem_mem hlt)
        simp [evs, resAll, resVal, resOne, freeOp, isA, goOp, appNew, mkOp, gev, Region.binds, aop, aeval, gocall, heapOp, quietOp, ev, constAV, setd, yav, ystop, up, env0, cx_ti, cx_G, cx_pf, ti, globS, glob, pfL, lds, ldc, ldcs_1, ldcs_2, ldcs_3, ldcs_4, ldcs_5, ldcs_7, sts, sth, sls.eq_1, slc.eq_1, wr, place, fillOk, fillC, repZ, binI, isDiv, optInt, optI, eksOk, eksEq, EK.ok, EK.eq, AV.i, AV.isI, AV.isInt, AV.str, AV.isStr, AV.ones, AV.isPtr, AV.gl, AV.isG, Value.oneCell', q2, q3, q6, hx, hy, ii, hlt, hro, hro2, hc, hc2, hw1, hw2, u1, u2, u3, v1, v2, v3]
        refine awp_loop (fun s => ∃ m, m ≤ p.cols[j].length ∧ s.e 2 = .p n 0 0 ∧ s.e 3 = .p (n + 1) 0 0 ∧ s.e 6 = ii j ∧ s.e 7 = ii m ∧ s.h = h2') (fun s => p.cols[j].length - (s.e 7).i.toNat) ⟨0, by simp [up, q2, q3, q6, ii]⟩ ?_
        rintro e3' h3' n3' ⟨m, hm, q2, q3, q6, q7, hh⟩
        simp only [] at q2 q3 q6 q7 hh
        subst hh
        by_cases hmt : m < p.cols[j].length
        · rcases is_at hcr with ⟨h0, _⟩ | ⟨i3, o3, k3, rfl, hk3, ho3, hat3⟩
          · rw [h0] at hmt; simp at hmt
          rcases is_at hcr2 with ⟨h0, _⟩ | ⟨i4, o4, k4, rfl, hk4, ho4, hat4⟩
          · rw [h0] at hmt; simp at hmt
          have hro3 := agree_at hn hk3 hag
          have hro4 := agree_at hn hk4 hag
          have g3 := hat3 m hmt
          have g4 := hat4 m hmt
          have hw3 : o3 + (m + 1) ≤ k3.cells.length := by omega
          have hw4 : o4 + (m + 1) ≤ k4.cells.length := by omega
          have hwm := wrap_nat (j := m) (by omega)
          simp [evs, resAll, resVal, resOne, freeOp, isA, goOp, appNew, mkOp, gev, Region.binds, aop, aeval, gocall, heapOp, quietOp, ev, constAV, setd, yav, ystop, up, env0, cx_ti, cx_G, cx_pf, ti, globS, glob, pfL, lds, ldc, ldcs_1, ldcs_2, ldcs_3, ldcs_4, ldcs_5, ldcs_7, sts, sth, sls.eq_1, slc.eq_1, wr, place, fillOk, fillC, repZ, binI, isDiv, optInt, optI, eksOk, eksEq, EK.ok, EK.eq, AV.i, AV.isI, AV.isInt, AV.str, AV.isStr, AV.ones, AV.isPtr, AV.gl, AV.isG, Value.oneCell', q2, q3, q6, q7, hx, hy, ii, hlt, hmt, hro, hro2, hro3, hro4, hc, hc2, hw1, hw2, hw3, hw4, u1, u2, u3, v1, v2, v3, g3, g4, hwm]
          exact ⟨⟨m + 1, by omega, by omega⟩, by omega⟩
        · have hme : m = p.cols[j].length := by omega
          subst hme
          simp [evs, resAll, resVal, resOne, freeOp, isA, goOp, appNew, mkOp, gev, Region.binds, aop, aeval, gocall, heapOp, quietOp, ev, constAV, setd, yav, ystop, up, env0, cx_ti, cx_G, cx_pf, ti, globS, glob, pfL, lds, ldc, ldcs_1, ldcs_2, ldcs_3, ldcs_4, ldcs_5, ldcs_7, sts, sth, sls.eq_1, slc.eq_1, wr, place, fillOk, fillC, repZ, binI, isDiv, optInt, optI, eksOk, eksEq, EK.ok, EK.eq, AV.i, AV.isI, AV.isInt, AV.str, AV.isStr, AV.ones, AV.isPtr, AV.gl, AV.isG, Value.oneCell', q2, q3, q6, q7, hx, hy, ii, hlt, hro, hro2, hc, hc2, hw1, hw2, u1, u2, u3, v1, v2, v3, hw]
          exact ⟨⟨j + 1, by omega, by omega⟩, by omega⟩
      · have hje : j = p.cols.length := by omega
        subst hje
        simp [evs, resAll, resVal, resOne, freeOp, isA, goOp, appNew, mkOp, gev, Region.binds, aop, aeval, gocall, heapOp, quietOp, ev, constAV, setd, yav, ystop, up, env0, cx_ti, cx_G, cx_pf, ti, globS, glob, pfL, lds, ldc, ldcs_1, ldcs_2, ldcs_3, ldcs_4, ldcs_5, ldcs_7, sts, sth, sls.eq_1, slc.eq_1, wr, place, fillOk, fillC, repZ, binI, isDiv, optInt, optI, eksOk, eksEq, EK.ok, EK.eq, AV.i, AV.isI, AV.isInt, AV.str, AV.isStr, AV.ones, AV.isPtr, AV.gl, AV.isG, Value.oneCell', q2, q3, q6, hx, hy, ii, bv, t1, t2, t3]
  exact key _ rfl rfl
end Go.Proofs.YtkfphaphiikloaaDoor

/-
  THE PROGRAMS OF CONDITIONS, PART O: events that are turned into other ones.
-/
namespace Go.Proofs.YtkfphaphiikloaaDoor
open Go Go.Eng

def xr (x : Int) : Int := IntKind.i64.wrap (((x % 2 ^ IntKind.i64.bits).toNat ^^^ 3 % 2 ^ IntKind.i64.bits : Nat) : Int)
/-- An event whose first k attributes are other ones. -/
def midE (k : Nat) (e : Ev) : Ev := ⟨e.ts, e.id, e.ty, if 0 < k then xr e.a0 else e.a0, if 1 < k then xr e.a1 else e.a1, if 2 < k then xr e.a2 else e.a2, if 3 < k then xr e.a3 else e.a3, if 4 < k then xr e.a4 else e.a4, if 5 < k then xr e.a5 else e.a5, if 6 < k then xr e.a6 else e.a6, if 7 < k then xr e.a7 else e.a7⟩
def flipE (e : Ev) : Ev := midE 8 e
theorem xr_rng (x : Int) : Rng (xr x) := by
  obtain ⟨_, _, h⟩ := W_spec (((x % 2 ^ IntKind.i64.bits).toNat ^^^ 3 % 2 ^ IntKind.i64.bits : Nat) : Int)
  exact h
theorem flip_ok {e : Ev} (h : EvOk e) : EvOk (flipE e) := ⟨h.1, h.2.1, xr_rng _, xr_rng _, xr_rng _, xr_rng _, xr_rng _, xr_rng _, xr_rng _, xr_rng _⟩
theorem up_up (h : Heap) (i : Nat) (a b : Option Blk) : up (up h i a) i b = up h i b := by
  funext j
  simp only [up]
  split <;> rfl
theorem up_self {h : Heap} {i : Nat} {b : Option Blk} (e : h i = b) : up h i b = h := by
  funext j
  simp only [up]
  split
  · rename_i e2; rw [e2, e]
  · rfl
theorem mid_get (A B : List AV) {o : Nat} (ho : A.length = o) (e : Ev) {k : Nat} (hk : k < 8) : (A ++ (ecells (midE k e) ++ B))[o + (3 + k)]? = some (ii (e.attr k)) := by
  have : k = 0 ∨ k = 1 ∨ k = 2 ∨ k = 3 ∨ k = 4 ∨ k = 5 ∨ k = 6 ∨ k = 7 := by omega
  subst ho
  rw [List.getElem?_append_right (by omega), show A.length + (3 + k) - A.length = 3 + k by omega]
  rcases this with rfl | rfl | rfl | rfl | rfl | rfl | rfl | rfl <;> rfl
theorem mid_set (A B : List AV) {o : Nat} (ho : A.length = o) (e : Ev) {k : Nat} (hk : k < 8) : (A ++ (ecells (midE k e) ++ B)).set (o + (3 + k)) (ii (xr (e.attr k))) = A ++ (ecells (midE (k + 1) e) ++ B) := by
  have : k = 0 ∨ k = 1 ∨ k = 2 ∨ k = 3 ∨ k = 4 ∨ k = 5 ∨ k = 6 ∨ k = 7 := by omega
  subst ho
  rw [List.set_append_right _ _ (by omega), show A.length + (3 + k) - A.length = 3 + k by omega]
  rcases this with rfl | rfl | rfl | rfl | rfl | rfl | rfl | rfl <;> rfl
/-- The cells of a list whose first j events are other ones. -/
def cellsJ (l : List Ev) (j : Nat) : List AV := ((l.take j).map flipE).flatMap ecells ++ (l.drop j).flatMap ecells
theorem cellsJ_0 (l : List Ev) : cellsJ l 0 = l.flatMap ecells := by simp [cellsJ]
theorem cellsJ_all (l : List Ev) : cellsJ l l.length = (l.map flipE).flatMap ecells := by simp [cellsJ]
theorem mid_0 (e : Ev) : midE 0 e = e := rfl
theorem cellsJ_at {l : List Ev} {j : Nat} (h : j < l.length) : cellsJ l j = ((l.take j).map flipE).flatMap ecells ++ (ecells (midE 0 l[j]) ++ (l.drop (j + 1)).flatMap ecells) := by
  unfold cellsJ
  rw [List.drop_eq_getElem_cons h, List.flatMap_cons]
  rfl
theorem cellsJ_succ {l : List Ev} {j : Nat} (h : j < l.length) : cellsJ l (j + 1) = ((l.take j).map flipE).flatMap ecells ++ (ecells (midE 8 l[j]) ++ (l.drop (j + 1)).flatMap ecells) := by
  unfold cellsJ
  rw [List.take_add_one, List.getElem?_eq_getElem h, List.map_append, List.flatMap_append, List.append_assoc]
  simp [flipE]
theorem pre_len {l : List Ev} {j : Nat} (h : j < l.length) : (((l.take j).map flipE).flatMap ecells).length = j * 11 := by
  rw [flat_len Flat.ev, List.length_map, List.length_take]
  congr 1
  omega
def flipLL (ll : List (List Ev)) : List (List Ev) := ll.map (List.map flipE)
def I34 (z : AV) (h : Heap) (n lo hi : Nat) (f : Nat → Nat) (ll : List (List Ev)) (s : St) : Prop := ∃ i, i ≤ ll.length ∧ s.e 0 = z ∧ s.e 2 = ii i ∧ (∀ q, (∀ m, m < ll.length → q ≠ f m) → s.h q = h q) ∧
  (∀ m, m < ll.length → s.h (f m) = some ⟨if m < i then ((ll.getD m []).map flipE).flatMap ecells else (ll.getD m []).flatMap ecells, 1, true, 11⟩) ∧ Fresh s.n s.h ∧ n ≤ s.n
set_option maxRecDepth 100000 in
set_option maxHeartbeats 4000000 in
theorem c34 {h : Heap} {n lo hi : Nat} {z : AV} {ll : List (List Ev)} (o : OwnL ecells 11 h lo hi z ll ll.length) (hl : ∀ l ∈ ll, l.length ≤ 2147483647) (hb : ll.length * 24 ≤ 140737488355328) (hhi : hi ≤ n) (hn : Fresh n h) :
    ACall (cx [] (pfL [])) 34 [z] h n fun _ h' n' => (∀ q, ¬ (lo ≤ q ∧ q < hi) → h' q = h q) ∧ Fresh n' h' ∧ n ≤ n' ∧ OwnL ecells 11 h' lo hi z (flipLL ll) (flipLL ll).length := by
  refine acall_of_awp (args := [z]) (pfL_ok tb_nil) (mixed _ _) Tryd.func34 (c := Tryd.f34.body.getD .skip) rfl (by kernel_rfl) (callable Tryd.func34 rfl rfl _ _) (show 1 ≤ Tryd.f34.ntmps by decide +kernel) ?_
  obtain ⟨s1, s2, s3, s4, s5⟩ := (show z.isS ∧ z.slen = ll.length ∧ (∀ g, AV.unc g z = z) ∧ z.one ∧ z.cells = [z] by
    obtain ⟨f, _, ⟨h0, rfl⟩ | ⟨w, u, rfl, _⟩⟩ := o
    · exact ⟨⟨rfl, rfl⟩, h0.symm, fun _ => rfl, rfl, rfl⟩
    · exact ⟨trivial, rfl, fun _ => rfl, trivial, rfl⟩)
  obtain ⟨f, hof, hz⟩ := o
  have key : ∀ e : Nat → AV, e 0 = z → awp (cx [] (pfL [])) (Tryd.f34.body.getD .skip) (finQ (cx [] (pfL [])) Tryd.f34 fun _ h' n' => (∀ q, ¬ (lo ≤ q ∧ q < hi) → h' q = h q) ∧ Fresh n' h' ∧ n ≤ n' ∧ OwnL ecells 11 h' lo hi z (flipLL ll) (flipLL ll).length) ⟨e, h, n⟩ := fun e q0 => by
    simp [evs, resAll, resVal, resOne, freeOp, isA, goOp, appNew, mkOp, gev, Region.binds, aop, aeval, gocall, heapOp, quietOp, ev, constAV, setd, yav, ystop, up, env0, cx_ti, cx_G, cx_pf, ti, globS, glob, pfL, lds, ldc, ldcs_1, ldcs_2, ldcs_3, ldcs_4, ldcs_5, ldcs_7, sts, sth, sls.eq_1, slc.eq_1, wr, place, fillOk, fillC, repZ, binI, isDiv, optInt, optI, eksOk, eksEq, EK.ok, EK.eq, AV.i, AV.isI, AV.isInt, AV.str, AV.isStr, AV.ones, AV.isPtr, AV.gl, AV.isG, Value.oneCell', Tryd.f34, q0]
    refine awp_loop (I34 z h n lo hi f ll) (fun s => ll.length - (s.e 2).i.toNat) ⟨0, Nat.zero_le _, by simp [up, q0], by simp [up, ii], fun _ _ => rfl, fun m hm => by simpa using hof.blk m hm, hn, Nat.le_refl _⟩ ?_
    rintro e' h' n' ⟨i, hi', q0, q2, hoth, hblk, hfr, hnn⟩
    simp only [] at q0 q2 hoth hblk hfr hnn
    by_cases hlt : i < ll.length
    · rcases hz with ⟨h0, _⟩ | ⟨w, u, rfl, hw0, hw2, hw3, hne⟩
      · rw [h0] at hlt; omega
      have hw : h' w = some ⟨lcells f ll ll.length, u, true, 1⟩ := by rw [hoth w fun m hm => (hne m hm).symm]; exact hw0
      have hlc : (lcells f ll ll.length)[i]? = some (.s (f i) 1 0 (ll.getD i []).length) := by simp [lcells, hlt]
      have hg : ll.getD i [] = ll[i] := by simp [List.getD_eq_getElem?_getD, hlt]
      have hbi := hblk i hlt
      rw [if_neg (by omega), hg] at hbi
      rw [hg] at hlc
      have hll := hl _ (List.getElem_mem hlt)
      have hlcl := lcells_len f ll ll.length
      have hwi : ¬ w = f i := (hne i hlt).symm
      have hw1 := wrap_nat (j := i) (by unfold big; omega)
      have hfi := hof.rng i hlt
      generalize lcells f ll ll.length = lc at *
      generalize hgl : ll[i] = l at *
      have hli : i < lc.length := by omega
      have hi1 : i + 1 ≤ ll.length := by omega
      have hlc' : lc[i] = .s (f i) 1 0 l.length := (List.getElem?_eq_some_iff.1 hlc).2
      simp [evs, resAll, resVal, resOne, freeOp, isA, goOp, appNew, mkOp, gev, Region.binds, aop, aeval, gocall, heapOp, quietOp, ev, constAV, setd, yav, ystop, up, env0, cx_ti, cx_G, cx_pf, ti, globS, glob, pfL, lds, ldc, ldcs_1, ldcs_2, ldcs_3, ldcs_4, ldcs_5, ldcs_7, sts, sth, sls.eq_1, slc.eq_1, wr, place, fillOk, fillC, repZ, binI, isDiv, optInt, optI, eksOk, eksEq, EK.ok, EK.eq, AV.i, AV.isI, AV.isInt, AV.str, AV.isStr, AV.ones, AV.isPtr, AV.gl, AV.isG, Value.oneCell', q0, q2, ii, hlt, hw, hlc, hlc', hlcl, hi1]
      refine awp_loop (fun s => ∃ j, j ≤ l.length ∧ s.e 0 = .s w u 0 ll.length ∧ s.e 2 = ii i ∧ s.e 3 = ii j ∧ s.h = up h' (f i) (some ⟨cellsJ l j, 1, true, 11⟩) ∧ n' ≤ s.n) (fun s => l.length - (s.e 3).i.toNat) ⟨0, by simp [up, q0, q2, ii, cellsJ_0, up_self hbi]⟩ ?_
      rintro e2 h2 n2 ⟨j, hj, q0, q2, q3, hh, hn2⟩
      simp only [] at q0 q2 q3 hh hn2
      subst hh
      by_cases hjt : j < l.length
      · have hcj := cellsJ_at hjt
        have hcs := cellsJ_succ hjt
        have hpl := pre_len hjt
        generalize ((l.take j).map flipE).flatMap ecells = A at *
        generalize (l.drop (j + 1)).flatMap ecells = B at *
        generalize l[j] = ev1 at *
        have hwj := wrap_nat (j := j) (by unfold big; omega)
        simp [evs, resAll, resVal, resOne, freeOp, isA, goOp, appNew, mkOp, gev, Region.binds, aop, aeval, gocall, heapOp, quietOp, ev, constAV, setd, yav, ystop, up, env0, cx_ti, cx_G, cx_pf, ti, globS, glob, pfL, lds, ldc, ldcs_1, ldcs_2, ldcs_3, ldcs_4, ldcs_5, ldcs_7, sts, sth, sls.eq_1, slc.eq_1, wr, place, fillOk, fillC, repZ, binI, isDiv, optInt, optI, eksOk, eksEq, EK.ok, EK.eq, AV.i, AV.isI, AV.isInt, AV.str, AV.isStr, AV.ones, AV.isPtr, AV.gl, AV.isG, Value.oneCell', q0, q2, q3, ii, hlt, hw, hlc, hlc', hlcl, hi1, hwi, hjt]
        refine awp_loop (fun s => ∃ k : Nat, k ≤ 8 ∧ s.e 0 = .s w u 0 ll.length ∧ s.e 2 = ii i ∧ s.e 3 = ii j ∧ s.e 4 = ii k ∧ s.h = up h' (f i) (some ⟨A ++ (ecells (midE k ev1) ++ B), 1, true, 11⟩) ∧ n' ≤ s.n) (fun s => 8 - (s.e 4).i.toNat) ⟨0, by simp [up, q0, q2, q3, ii, hcj, hn2]⟩ ?_
        rintro e3 h3 n3 ⟨k, hk, q0, q2, q3, q4, hh, hn3⟩
        simp only [] at q0 q2 q3 q4 hh hn3
        subst hh
        by_cases hkt : k < 8
        · have hget := mid_get A B hpl ev1 hkt
          have hset := mid_set A B hpl ev1 hkt
          have hlen : (A ++ (ecells (midE k ev1) ++ B)).length = j * 11 + (11 + B.length) := by simp [ecells, hpl]; omega
          have hwk := wrap_nat (j := k) (by unfold big; omega)
          have hb8 : j * 11 + (3 + (k + 1)) ≤ j * 11 + (11 + B.length) := by omega
          have hkI : (k : Int) < 8 := by omega
          generalize A ++ (ecells (midE k ev1) ++ B) = cs at *
          have hgl2 : j * 11 + (3 + k) < cs.length := by omega
          have hget' : cs[j * 11 + (3 + k)] = ii (ev1.attr k) := (List.getElem?_eq_some_iff.1 hget).2
          simp [evs, resAll, resVal, resOne, freeOp, isA, goOp, appNew, mkOp, gev, Region.binds, aop, aeval, gocall, heapOp, quietOp, ev, constAV, setd, yav, ystop, up, env0, cx_ti, cx_G, cx_pf, ti, globS, glob, pfL, lds, ldc, ldcs_1, ldcs_2, ldcs_3, ldcs_4, ldcs_5, ldcs_7, sts, sth, sls.eq_1, slc.eq_1, wr, place, fillOk, fillC, repZ, binI, isDiv, optInt, optI, eksOk, eksEq, EK.ok, EK.eq, AV.i, AV.isI, AV.isInt, AV.str, AV.isStr, AV.ones, AV.isPtr, AV.gl, AV.isG, Value.oneCell', q0, q2, q3, q4, ii, hlt, hw, hlc, hlc', hlcl, hi1, hwi, hjt, hkt, hkI, hget, hget', hlen, hb8, hwk]
          exact ⟨⟨k + 1, by omega, by omega, by rw [up_up, ← hset]; rfl, by omega⟩, by omega⟩
        · have hke : k = 8 := by omega
          subst hke
          simp [evs, resAll, resVal, resOne, freeOp, isA, goOp, appNew, mkOp, gev, Region.binds, aop, aeval, gocall, heapOp, quietOp, ev, constAV, setd, yav, ystop, up, env0, cx_ti, cx_G, cx_pf, ti, globS, glob, pfL, lds, ldc, ldcs_1, ldcs_2, ldcs_3, ldcs_4, ldcs_5, ldcs_7, sts, sth, sls.eq_1, slc.eq_1, wr, place, fillOk, fillC, repZ, binI, isDiv, optInt, optI, eksOk, eksEq, EK.ok, EK.eq, AV.i, AV.isI, AV.isInt, AV.str, AV.isStr, AV.ones, AV.isPtr, AV.gl, AV.isG, Value.oneCell', q0, q2, q3, q4, ii, hwj]
          exact ⟨⟨j + 1, by omega, by omega, by rw [hcs], by omega⟩, by omega⟩
      · have hje : j = l.length := by omega
        subst hje
        simp [evs, resAll, resVal, resOne, freeOp, isA, goOp, appNew, mkOp, gev, Region.binds, aop, aeval, gocall, heapOp, quietOp, ev, constAV, setd, yav, ystop, up, env0, cx_ti, cx_G, cx_pf, ti, globS, glob, pfL, lds, ldc, ldcs_1, ldcs_2, ldcs_3, ldcs_4, ldcs_5, ldcs_7, sts, sth, sls.eq_1, slc.eq_1, wr, place, fillOk, fillC, repZ, binI, isDiv, optInt, optI, eksOk, eksEq, EK.ok, EK.eq, AV.i, AV.isI, AV.isInt, AV.str, AV.isStr, AV.ones, AV.isPtr, AV.gl, AV.isG, Value.oneCell', q0, q2, q3, ii, hlt, hw, hlc, hlc', hlcl, hi1, hwi, hw1]
        refine ⟨⟨i + 1, by omega, by simp [up, q0], by simp [up, ii], fun q hq => ?_, fun m hm => ?_, ?_, by simp only []; omega⟩, by omega⟩
        · simp only []
          rw [up_ne _ _ (hq i hlt)]
          exact hoth q hq
        · simp only []
          by_cases hmi : m = i
          · subst hmi
            rw [up_same, if_pos (by omega), hg, cellsJ_all]
          · rw [up_ne _ _ (fun e => hmi (hof.inj m i hm hlt e)), hblk m hm]
            by_cases h5 : m < i
            · rw [if_pos h5, if_pos (by omega)]
            · rw [if_neg h5, if_neg (by omega)]
        · simp only []
          exact (fresh_up (by omega) _).2 (hfr.mono hn2)
    · have hie : i = ll.length := by omega
      subst hie
      simp [evs, resAll, resVal, resOne, freeOp, isA, goOp, appNew, mkOp, gev, Region.binds, aop, aeval, gocall, heapOp, quietOp, ev, constAV, setd, yav, ystop, up, env0, cx_ti, cx_G, cx_pf, ti, globS, glob, pfL, lds, ldc, ldcs_1, ldcs_2, ldcs_3, ldcs_4, ldcs_5, ldcs_7, sts, sth, sls.eq_1, slc.eq_1, wr, place, fillOk, fillC, repZ, binI, isDiv, optInt, optI, eksOk, eksEq, EK.ok, EK.eq, AV.i, AV.isI, AV.isInt, AV.str, AV.isStr, AV.ones, AV.isPtr, AV.gl, AV.isG, Value.oneCell', q0, q2, ii, s1, s2, s3]
      have hll2 : (flipLL ll).length = ll.length := by simp [flipLL]
      have hfg : ∀ m, (flipLL ll).getD m [] = (ll.getD m []).map flipE := fun m => by
        simp only [flipLL, List.getD_eq_getElem?_getD, List.getElem?_map]
        cases ll[m]? <;> rfl
      have hlc2 : ∀ j, lcells f (flipLL ll) j = lcells f ll j := fun j => by
        unfold lcells
        apply List.map_congr_left
        intro i _
        rw [hfg, List.length_map]
      refine ⟨fun q hq => hoth q fun m hm e => ?_, hfr, hnn, f, ⟨fun m hm => hof.rng m (by omega), fun m hm => ?_, fun m k hm hk => hof.inj m k (by omega) (by omega)⟩, ?_⟩
      · have := hof.rng m hm
        subst e
        have := hq this.1
        omega
      · rw [hblk m (by omega), if_pos (by omega), hfg]
      · rcases hz with ⟨h0, h1⟩ | ⟨w, u, h1, h2, h3, h4, h5⟩
        · exact .inl ⟨by rw [hll2]; exact h0, h1⟩
        · refine .inr ⟨w, u, by rw [hll2]; exact h1, ?_, h3, h4, fun m hm => h5 m (by omega)⟩
          rw [hoth w fun m hm => (h5 m hm).symm, h2, hll2, hlc2]
  exact key _ rfl
end Go.Proofs.YtkfphaphiikloaaDoor
