/-
  THE PROGRAMS OF CONDITIONS, PART J: how many events there are; lists that are the same.
-/
import Derived.Test.YtkfphaphiikloaaDoorX16
set_option linter.unusedSimpArgs false
set_option linter.unusedVariables false
set_option linter.constructorNameAsVariable false
namespace Go.Proofs.YtkfphaphiikloaaDoor
open Go Go.Eng

def sumTo (ll : List (List Ev)) (j : Nat) : Nat := ((ll.take j).map List.length).sum
theorem sumTo_succ {ll : List (List Ev)} {j : Nat} (h : j < ll.length) : sumTo ll (j + 1) = sumTo ll j + ll[j].length := by
  unfold sumTo
  rw [List.take_add_one, List.getElem?_eq_getElem h, List.map_append, List.sum_append]
  simp only [Option.toList_some, List.map_cons, List.map_nil, List.sum_cons, List.sum_nil, Nat.add_zero]
theorem sumTo_mono (ll : List (List Ev)) : ∀ {i j : Nat}, i ≤ j → sumTo ll i ≤ sumTo ll j := fun {i j} h => by
  induction h with
  | refl => exact Nat.le_refl _
  | @step m _ ih =>
    by_cases hm : m < ll.length
    · have := sumTo_succ hm
      simp only [Nat.succ_eq_add_one]
      omega
    · have e : ll.take (m + 1) = ll.take m := by rw [List.take_of_length_le (by omega), List.take_of_length_le (by omega)]
      simp only [Nat.succ_eq_add_one, sumTo, e] at ih ⊢
      exact ih
def beyondV (ll : List (List Ev)) : Bool := decide (2147483647 < sumTo ll ll.length)
theorem beyond_len {ll : List (List Ev)} (h : beyondV ll = false) : ∀ l ∈ ll, l.length ≤ 2147483647 := fun l hl => by
  obtain ⟨i, hi, rfl⟩ := List.getElem_of_mem hl
  have h1 := sumTo_succ hi
  have h2 := sumTo_mono ll (i := i + 1) (j := ll.length) (by omega)
  have h3 : ¬ 2147483647 < sumTo ll ll.length := by simpa [beyondV] using h
  omega
def deLL (h : Heap) : List AV → Option (List (List Ev))
  | [a] => rd dEss h a
  | _ => none
theorem deLL_out {h : Heap} {args : List AV} {q : List (List Ev)} (e : deLL h args = some q) : ∃ a, args = [a] ∧ rd dEss h a = some q := by
  unfold deLL at e
  split at e
  · exact ⟨_, rfl, e⟩
  · cases e
theorem deLL_mono (h h' : Heap) (args : List AV) (q : List (List Ev)) (hh : h.le h') (e : deLL h args = some q) : deLL h' args = some q := by
  obtain ⟨a, rfl, e1⟩ := deLL_out e
  simp only [deLL, rd_mono hh e1]
def G27 := pureH deLL (fun ll => ll.length < big ∧ ∀ l ∈ ll, l.length < big) fun ll => bv (beyondV ll)
set_option maxRecDepth 100000 in
set_option maxHeartbeats 1000000 in
theorem P27 : P0 [] 27 G27 := by
  refine mkH 1 (S := []) (l := []) tb_nil Tryd.func27 rfl (by kernel_rfl) deLL_mono (fun h l x e => by obtain ⟨a, rfl, _⟩ := deLL_out e; exact Nat.le_refl _) (fun a => rfl) (fun args ll h n e hp hn => ?_)
  obtain ⟨a, rfl, e1⟩ := deLL_out e
  obtain ⟨s1, s2, s3, s4, s5⟩ := sl_is e1
  have key : ∀ e : Nat → AV, e 0 = a → awp (cx [] (pfL [])) (Tryd.f27.body.getD .skip) (finQ (cx [] (pfL [])) Tryd.f27 fun z _ _ => z = bv (beyondV ll)) ⟨e, roH h, n⟩ := fun e q0 => by
    simp [evs, resAll, resVal, resOne, freeOp, isA, goOp, appNew, mkOp, gev, Region.binds, aop, aeval, gocall, heapOp, quietOp, ev, constAV, setd, yav, ystop, up, env0, cx_ti, cx_G, cx_pf, ti, globS, glob, pfL, lds, ldc, ldcs_1, ldcs_2, ldcs_3, ldcs_4, ldcs_5, ldcs_7, sts, sth, sls.eq_1, slc.eq_1, wr, place, fillOk, fillC, repZ, binI, isDiv, optInt, optI, eksOk, eksEq, EK.ok, EK.eq, AV.i, AV.isI, AV.isInt, AV.str, AV.isStr, AV.ones, AV.isPtr, AV.gl, AV.isG, Value.oneCell', Tryd.f27, q0]
    refine awp_loop (fun s => ∃ j, j ≤ ll.length ∧ s.e 0 = a ∧ s.e 3 = ii (sumTo ll j) ∧ s.e 4 = ii j ∧ s.h = roH h ∧ sumTo ll j ≤ 2147483647) (fun s => ll.length - (s.e 4).i.toNat) ⟨0, by simp [up, q0, ii, sumTo]⟩ ?_
    rintro e' h' n' ⟨j, hj, q0, q3, q4, hh, hs⟩
    simp only [] at q0 q3 q4 hh
    subst hh
    by_cases hlt : j < ll.length
    · rcases sls_at e1 with ⟨h0, _⟩ | ⟨id, off, k, rfl, hk, ho, hat⟩
      · rw [h0] at hlt; simp at hlt
      obtain ⟨c, hc, hcr⟩ := hat j hlt
      obtain ⟨u1, u2, u3, u4, u5⟩ := sl_is hcr
      have hro := ro_at hk
      have hw := wrap_nat (j := j) (by have := hp.1; omega)
      have hw1 : off + (j + 1) ≤ k.cells.length := by omega
      have hss := sumTo_succ hlt
      have hsub : IntKind.i64.wrap (2147483647 - (sumTo ll j : Int)) = 2147483647 - sumTo ll j := W_id (by unfold Rng; omega)
      have hll := hp.2 _ (List.getElem_mem hlt)
      unfold big at hll
      have hmon := sumTo_mono ll (i := j + 1) (j := ll.length) (by omega)
      by_cases hgt : (2147483647 - (sumTo ll j : Int)) < ll[j].length
      · have hb : beyondV ll = true := by simp only [beyondV, decide_eq_true_eq]; omega
        simp [evs, resAll, resVal, resOne, freeOp, isA, goOp, appNew, mkOp, gev, Region.binds, aop, aeval, gocall, heapOp, quietOp, ev, constAV, setd, yav, ystop, up, env0, cx_ti, cx_G, cx_pf, ti, globS, glob, pfL, lds, ldc, ldcs_1, ldcs_2, ldcs_3, ldcs_4, ldcs_5, ldcs_7, sts, sth, sls.eq_1, slc.eq_1, wr, place, fillOk, fillC, repZ, binI, isDiv, optInt, optI, eksOk, eksEq, EK.ok, EK.eq, AV.i, AV.isI, AV.isInt, AV.str, AV.isStr, AV.ones, AV.isPtr, AV.gl, AV.isG, Value.oneCell', q0, q3, q4, ii, bv, hlt, hro, hc, hw1, u1, u2, u3, hsub, hgt, hb]
      · have hadd : IntKind.i64.wrap ((sumTo ll j : Int) + ll[j].length) = sumTo ll j + ll[j].length := W_id (by unfold Rng; omega)
        simp [evs, resAll, resVal, resOne, freeOp, isA, goOp, appNew, mkOp, gev, Region.binds, aop, aeval, gocall, heapOp, quietOp, ev, constAV, setd, yav, ystop, up, env0, cx_ti, cx_G, cx_pf, ti, globS, glob, pfL, lds, ldc, ldcs_1, ldcs_2, ldcs_3, ldcs_4, ldcs_5, ldcs_7, sts, sth, sls.eq_1, slc.eq_1, wr, place, fillOk, fillC, repZ, binI, isDiv, optInt, optI, eksOk, eksEq, EK.ok, EK.eq, AV.i, AV.isI, AV.isInt, AV.str, AV.isStr, AV.ones, AV.isPtr, AV.gl, AV.isG, Value.oneCell', q0, q3, q4, ii, bv, hlt, hro, hc, hw1, u1, u2, u3, hsub, hgt, hadd, hw]
        exact ⟨⟨j + 1, by omega, by omega, by omega, by omega⟩, by omega⟩
    · have hje : j = ll.length := by omega
      subst hje
      have hb : beyondV ll = false := by simp only [beyondV, decide_eq_false_iff_not]; omega
      simp [evs, resAll, resVal, resOne, freeOp, isA, goOp, appNew, mkOp, gev, Region.binds, aop, aeval, gocall, heapOp, quietOp, ev, constAV, setd, yav, ystop, up, env0, cx_ti, cx_G, cx_pf, ti, globS, glob, pfL, lds, ldc, ldcs_1, ldcs_2, ldcs_3, ldcs_4, ldcs_5, ldcs_7, sts, sth, sls.eq_1, slc.eq_1, wr, place, fillOk, fillC, repZ, binI, isDiv, optInt, optI, eksOk, eksEq, EK.ok, EK.eq, AV.i, AV.isI, AV.isInt, AV.str, AV.isStr, AV.ones, AV.isPtr, AV.gl, AV.isG, Value.oneCell', q0, q3, q4, ii, bv, s1, s2, s3, hb]
  exact key _ rfl
def de33 (h : Heap) : List AV → Option (List (List Ev) × List (List Ev))
  | [a, b] => match rd dEss h a, rd dEss h b with
    | some x, some y => some (x, y)
    | _, _ => none
  | _ => none
theorem de33_out {h : Heap} {args : List AV} {q : List (List Ev) × List (List Ev)} (e : de33 h args = some q) : ∃ a b, args = [a, b] ∧ rd dEss h a = some q.1 ∧ rd dEss h b = some q.2 := by
  unfold de33 at e
  split at e
  · split at e
    · rename_i e1 e2
      cases e
      exact ⟨_, _, rfl, e1, e2⟩
    · cases e
  · cases e
theorem de33_mono (h h' : Heap) (args : List AV) (q : List (List Ev) × List (List Ev)) (hh : h.le h') (e : de33 h args = some q) : de33 h' args = some q := by
  obtain ⟨a, b, rfl, e1, e2⟩ := de33_out e
  simp only [de33, rd_mono hh e1, rd_mono hh e2]
/-- Two lists of lists that are the same. -/
def G33 := pureH de33 (fun q => q.1 = q.2 ∧ q.1.length < big ∧ ∀ l ∈ q.1, l.length < big) fun _ => bv true
set_option maxRecDepth 100000 in
set_option maxHeartbeats 1000000 in
theorem P33 : P0 [] 33 G33 := by
  refine mkH 2 (S := []) (l := []) tb_nil Tryd.func33 rfl (by kernel_rfl) de33_mono (fun h l x e => by obtain ⟨a, b, rfl, _⟩ := de33_out e; exact Nat.le_refl _) (fun a => rfl) (fun args q h n e hp hn => ?_)
  obtain ⟨ll, l2⟩ := q
  obtain ⟨a, b, rfl, e1, e2⟩ := de33_out e
  obtain ⟨heq, hb1, hb2⟩ := hp
  simp only [] at e1 e2 heq hb1 hb2
  subst heq
  obtain ⟨s1, s2, s3, s4, s5⟩ := sl_is e1
  obtain ⟨t1, t2, t3, t4, t5⟩ := sl_is e2
  have key : ∀ e : Nat → AV, e 0 = a → e 1 = b → awp (cx [] (pfL [])) (Tryd.f33.body.getD .skip) (finQ (cx [] (pfL [])) Tryd.f33 fun z _ _ => z = bv true) ⟨e, roH h, n⟩ := fun e q0 q1 => by
    simp [evs, resAll, resVal, resOne, freeOp, isA, goOp, appNew, mkOp, gev, Region.binds, aop, aeval, gocall, heapOp, quietOp, ev, constAV, setd, yav, ystop, up, env0, cx_ti, cx_G, cx_pf, ti, globS, glob, pfL, lds, ldc, ldcs_1, ldcs_2, ldcs_3, ldcs_4, ldcs_5, ldcs_7, sts, sth, sls.eq_1, slc.eq_1, wr, place, fillOk, fillC, repZ, binI, isDiv, optInt, optI, eksOk, eksEq, EK.ok, EK.eq, AV.i, AV.isI, AV.isInt, AV.str, AV.isStr, AV.ones, AV.isPtr, AV.gl, AV.isG, Value.oneCell', Tryd.f33, q0, q1, s1, s2, s3, t1, t2, t3]
    refine awp_loop (fun s => ∃ j, j ≤ ll.length ∧ s.e 0 = a ∧ s.e 1 = b ∧ s.e 5 = ii j ∧ s.h = roH h) (fun s => ll.length - (s.e 5).i.toNat) ⟨0, by simp [up, q0, q1, ii]⟩ ?_
    rintro e' h' n' ⟨j, hj, q0, q1, q5, hh⟩
    simp only [] at q0 q1 q5 hh
    subst hh
    by_cases hlt : j < ll.length
    · rcases sls_at e1 with ⟨h0, _⟩ | ⟨id, off, k, rfl, hk, ho, hat⟩
      · rw [h0] at hlt; simp at hlt
      rcases sls_at e2 with ⟨h0, _⟩ | ⟨id2, off2, k2, rfl, hk2, ho2, hat2⟩
      · rw [h0] at hlt; simp at hlt
      obtain ⟨c, hc, hcr⟩ := hat j hlt
      obtain ⟨c2, hc2, hcr2⟩ := hat2 j hlt
      obtain ⟨u1, u2, u3, u4, u5⟩ := sl_is hcr
      obtain ⟨v1, v2, v3, v4, v5⟩ := sl_is hcr2
      have hro := ro_at hk
      have hro2 := ro_at hk2
      have hw := wrap_nat (j := j) (by omega)
      have hw1 : off + (j + 1) ≤ k.cells.length := by omega
      have hw2 : off2 + (j + 1) ≤ k2.cells.length := by omega
      have hll := hb2 _ (List.getElem_mem hlt)
      simp [evs, resAll, resVal, resOne, freeOp, isA, goOp, appNew, mkOp, gev, Region.binds, aop, aeval, gocall, heapOp, quietOp, ev, constAV, setd, yav, ystop, up, env0, cx_ti, cx_G, cx_pf, ti, globS, glob, pfL, lds, ldc, ldcs_1, ldcs_2, ldcs_3, ldcs_4, ldcs_5, ldcs_7, sts, sth, sls.eq_1, slc.eq_1, wr, place, fillOk, fillC, repZ, binI, isDiv, optInt, optI, eksOk, eksEq, EK.ok, EK.eq, AV.i, AV.isI, AV.isInt, AV.str, AV.isStr, AV.ones, AV.isPtr, AV.gl, AV.isG, Value.oneCell', q0, q1, q5, ii, hlt, hro, hro2, hc, hc2, hw1, hw2, u1, u2, u3, v1, v2, v3]
      refine awp_loop (fun s => ∃ m, m ≤ ll[j].length ∧ s.e 0 = .s id k.ver off ll.length ∧ s.e 1 = .s id2 k2.ver off2 ll.length ∧ s.e 5 = ii j ∧ s.e 6 = ii m ∧ s.h = roH h) (fun s => ll[j].length - (s.e 6).i.toNat) ⟨0, by simp [up, q0, q1, q5, ii]⟩ ?_
      rintro e2' h2' n2' ⟨m, hm, q0, q1, q5, q6, hh⟩
      simp only [] at q0 q1 q5 q6 hh
      subst hh
      by_cases hmt : m < ll[j].length
      · rcases es_at hcr with ⟨h0, _⟩ | ⟨i3, o3, k3, rfl, hk3, ho3, hat3⟩
        · rw [h0] at hmt; simp at hmt
        rcases es_at hcr2 with ⟨h0, _⟩ | ⟨i4, o4, k4, rfl, hk4, ho4, hat4⟩
        · rw [h0] at hmt; simp at hmt
        have hro3 := ro_at hk3
        have hro4 := ro_at hk4
        have hle3 : ∀ (X : Ctx) (h' : Heap), h' i3 = some ⟨k3.cells, k3.ver, false, k3.esz⟩ → ldcs X h' (.p i3 k3.ver (o3 + m * 11)) 0 11 = ecells ll[j][m] := fun X h' e => ldcs_ev e (hat3 m hmt)
        have hle4 : ∀ (X : Ctx) (h' : Heap), h' i4 = some ⟨k4.cells, k4.ver, false, k4.esz⟩ → ldcs X h' (.p i4 k4.ver (o4 + m * 11)) 0 11 = ecells ll[j][m] := fun X h' e => ldcs_ev e (hat4 m hmt)
        have hw3 : o3 + (m * 11 + 11) ≤ k3.cells.length := by omega
        have hw4 : o4 + (m * 11 + 11) ≤ k4.cells.length := by omega
        have hwm := wrap_nat (j := m) (by omega)
        simp [evs, resAll, resVal, resOne, freeOp, isA, goOp, appNew, mkOp, gev, Region.binds, aop, aeval, gocall, heapOp, quietOp, ev, constAV, setd, yav, ystop, up, env0, cx_ti, cx_G, cx_pf, ti, globS, glob, pfL, lds, ldc, ldcs_1, ldcs_2, ldcs_3, ldcs_4, ldcs_5, ldcs_7, sts, sth, sls.eq_1, slc.eq_1, wr, place, fillOk, fillC, repZ, binI, isDiv, optInt, optI, eksOk, eksEq, EK.ok, EK.eq, AV.i, AV.isI, AV.isInt, AV.str, AV.isStr, AV.ones, AV.isPtr, AV.gl, AV.isG, Value.oneCell', q0, q1, q5, q6, ii, uu, hlt, hmt, hro, hro2, hro3, hro4, hc, hc2, hw1, hw2, hw3, hw4, u1, u2, u3, v1, v2, v3, hle3, hle4, ecells, hwm]
        exact ⟨⟨m + 1, by omega, by omega⟩, by omega⟩
      · have hme : m = ll[j].length := by omega
        subst hme
        simp [evs, resAll, resVal, resOne, freeOp, isA, goOp, appNew, mkOp, gev, Region.binds, aop, aeval, gocall, heapOp, quietOp, ev, constAV, setd, yav, ystop, up, env0, cx_ti, cx_G, cx_pf, ti, globS, glob, pfL, lds, ldc, ldcs_1, ldcs_2, ldcs_3, ldcs_4, ldcs_5, ldcs_7, sts, sth, sls.eq_1, slc.eq_1, wr, place, fillOk, fillC, repZ, binI, isDiv, optInt, optI, eksOk, eksEq, EK.ok, EK.eq, AV.i, AV.isI, AV.isInt, AV.str, AV.isStr, AV.ones, AV.isPtr, AV.gl, AV.isG, Value.oneCell', q0, q1, q5, q6, ii, hlt, hro, hro2, hc, hc2, hw1, hw2, u1, u2, u3, v1, v2, v3, hw]
        exact ⟨⟨j + 1, by omega, by omega⟩, by omega⟩
    · have hje : j = ll.length := by omega
      subst hje
      simp [evs, resAll, resVal, resOne, freeOp, isA, goOp, appNew, mkOp, gev, Region.binds, aop, aeval, gocall, heapOp, quietOp, ev, constAV, setd, yav, ystop, up, env0, cx_ti, cx_G, cx_pf, ti, globS, glob, pfL, lds, ldc, ldcs_1, ldcs_2, ldcs_3, ldcs_4, ldcs_5, ldcs_7, sts, sth, sls.eq_1, slc.eq_1, wr, place, fillOk, fillC, repZ, binI, isDiv, optInt, optI, eksOk, eksEq, EK.ok, EK.eq, AV.i, AV.isI, AV.isInt, AV.str, AV.isStr, AV.ones, AV.isPtr, AV.gl, AV.isG, Value.oneCell', q0, q1, q5, ii, bv, s1, s2, s3]
  exact key _ rfl rfl
end Go.Proofs.YtkfphaphiikloaaDoor

namespace Go.Proofs.YtkfphaphiikloaaDoor
open Go Go.Eng

def de21 (h : Heap) : List AV → Option (Pr × Pr)
  | [a, b] => match dePr h a, dePr h b with
    | some x, some y => some (x, y)
    | _, _ => none
  | _ => none
theorem de21_out {h : Heap} {args : List AV} {q : Pr × Pr} (e : de21 h args = some q) : ∃ a b, args = [a, b] ∧ dePr h a = some q.1 ∧ dePr h b = some q.2 := by
  unfold de21 at e
  split at e
  · split at e
    · rename_i e1 e2
      cases e
      exact ⟨_, _, rfl, e1, e2⟩
    · cases e
  · cases e
theorem de21_mono (h h' : Heap) (args : List AV) (q : Pr × Pr) (hh : h.le h') (e : de21 h args = some q) : de21 h' args = some q := by
  obtain ⟨a, b, rfl, e1, e2⟩ := de21_out e
  simp only [de21, dePr_sim hh.sim e1, dePr_sim hh.sim e2]
/-- Two programs that are the same. -/
def G21 := pureH de21 (fun q => q.1 = q.2 ∧ q.1.code.length < big ∧ q.1.cols.length < big ∧ ∀ l ∈ q.1.cols, l.length < big) fun _ => bv true
set_option maxRecDepth 100000 in
set_option maxHeartbeats 2000000 in
theorem P21 : P0 [] 21 G21 := by
  refine mkH 2 (S := []) (l := []) tb_nil Tryd.func21 rfl (by kernel_rfl) de21_mono (fun h l x e => by obtain ⟨a, b, rfl, _⟩ := de21_out e; exact Nat.le_refl _) (fun a => rfl) (fun args q h n e hp hn => ?_)
  obtain ⟨p, p2⟩ := q
  obtain ⟨x, y, rfl, e1, e2⟩ := de21_out e
  obtain ⟨heq, hb0, hb1, hb2⟩ := hp
  simp only [] at e1 e2 heq hb0 hb1 hb2
  subst heq
  obtain ⟨a, b, rfl, e3, e4⟩ := dePr_out e1
  obtain ⟨a', b', rfl, e5, e6⟩ := dePr_out e2
  obtain ⟨s1, s2, s3, s4, s5⟩ := sl_is e3
  obtain ⟨t1, t2, t3, t4, t5⟩ := sl_is e4
  obtain ⟨p1, p2, p3, p4, p5⟩ := sl_is e5
  obtain ⟨r1, r2, r3, r4, r5⟩ := sl_is e6
  have key : ∀ e : Nat → AV, e 0 = .g [a, b] → e 1 = .g [a', b'] → awp (cx [] (pfL [])) (Tryd.f21.body.getD .skip) (finQ (cx [] (pfL [])) Tryd.f21 fun z _ _ => z = bv true) ⟨e, roH h, n⟩ := fun e q0 q1 => by
    simp [evs, resAll, resVal, resOne, freeOp, isA, goOp, appNew, mkOp, gev, Region.binds, aop, aeval, gocall, heapOp, quietOp, ev, constAV, setd, yav, ystop, up, env0, cx_ti, cx_G, cx_pf, ti, globS, glob, pfL, lds, ldc, ldcs_1, ldcs_2, ldcs_3, ldcs_4, ldcs_5, ldcs_7, sts, sth, sls.eq_1, slc.eq_1, wr, place, fillOk, fillC, repZ, binI, isDiv, optInt, optI, eksOk, eksEq, EK.ok, EK.eq, AV.i, AV.isI, AV.isInt, AV.str, AV.isStr, AV.ones, AV.isPtr, AV.gl, AV.isG, Value.oneCell', Tryd.f21, q0, q1, s1, s2, s3, s4, s5, t1, t2, t3, t4, t5, p1, p2, p3, p4, p5, r1, r2, r3, r4, r5]
    refine awp_loop (fun s => ∃ j, j ≤ p.code.length ∧ s.e 2 = .p n 0 0 ∧ s.e 3 = .p (n + 1) 0 0 ∧ s.e 5 = ii j ∧ agree n (roH h) s.h ∧ s.h n = some ⟨[a, b], 0, true, 2⟩ ∧ s.h (n + 1) = some ⟨[a', b'], 0, true, 2⟩) (fun s => p.code.length - (s.e 5).i.toNat) ⟨0, by simp [up, ii, agree_up, agree_refl]⟩ ?_
    rintro e' h' n' ⟨j, hj, q2, q3, q5, hag, hx, hy⟩
    simp only [] at q2 q3 q5 hag hx hy
    by_cases hlt : j < p.code.length
    · rcases ps_at e3 with ⟨h0, _⟩ | ⟨id, off, k, rfl, hk, ho, hat⟩
      · rw [h0] at hlt; simp at hlt
      rcases ps_at e5 with ⟨h0, _⟩ | ⟨id2, off2, k2, rfl, hk2, ho2, hat2⟩
      · rw [h0] at hlt; simp at hlt
      obtain ⟨c0, c1, c2, c3, c4⟩ := ins_at (hat j hlt)
      obtain ⟨d0, d1, d2, d3, d4⟩ := ins_at (hat2 j hlt)
      rw [Nat.add_assoc] at c1 c2 c3 c4 d1 d2 d3 d4
      have hro := agree_at hn hk hag
      have hro2 := agree_at hn hk2 hag
      have hw := wrap_nat (j := j) (by omega)
      have hw1 : off + (j * 5 + 5) ≤ k.cells.length := by omega
      have hw2 : off2 + (j * 5 + 5) ≤ k2.cells.length := by omega
      simp [evs, resAll, resVal, resOne, freeOp, isA, goOp, appNew, mkOp, gev, Region.binds, aop, aeval, gocall, heapOp, quietOp, ev, constAV, setd, yav, ystop, up, env0, cx_ti, cx_G, cx_pf, ti, globS, glob, pfL, lds, ldc, ldcs_1, ldcs_2, ldcs_3, ldcs_4, ldcs_5, ldcs_7, sts, sth, sls.eq_1, slc.eq_1, wr, place, fillOk, fillC, repZ, binI, isDiv, optInt, optI, eksOk, eksEq, EK.ok, EK.eq, AV.i, AV.isI, AV.isInt, AV.str, AV.isStr, AV.ones, AV.isPtr, AV.gl, AV.isG, Value.oneCell', q2, q3, q5, hx, hy, ii, hlt, hro, hro2, c0, c1, c2, c3, c4, d0, d1, d2, d3, d4, hw1, hw2, hw]
      exact ⟨⟨j + 1, by omega, by omega, hag⟩, by omega⟩
    · have hje : j = p.code.length := by omega
      subst hje
      simp [evs, resAll, resVal, resOne, freeOp, isA, goOp, appNew, mkOp, gev, Region.binds, aop, aeval, gocall, heapOp, quietOp, ev, constAV, setd, yav, ystop, up, env0, cx_ti, cx_G, cx_pf, ti, globS, glob, pfL, lds, ldc, ldcs_1, ldcs_2, ldcs_3, ldcs_4, ldcs_5, ldcs_7, sts, sth, sls.eq_1, slc.eq_1, wr, place, fillOk, fillC, repZ, binI, isDiv, optInt, optI, eksOk, eksEq, EK.ok, EK.eq, AV.i, AV.isI, AV.isInt, AV.str, AV.isStr, AV.ones, AV.isPtr, AV.gl, AV.isG, Value.oneCell', q2, q3, q5, hx, hy, ii, s1, s2, s3]
      refine awp_loop (fun s => ∃ j, j ≤ p.cols.length ∧ s.e 2 = .p n 0 0 ∧ s.e 3 = .p (n + 1) 0 0 ∧ s.e 6 = ii j ∧ s.h = h') (fun s => p.cols.length - (s.e 6).i.toNat) ⟨0, by simp [up, ii, q2, q3]⟩ ?_
      rintro e2' h2' n2' ⟨j, hj, q2, q3, q6, hh⟩
      simp only [] at q2 q3 q6 hh
      subst hh
      by_cases hlt : j < p.cols.length
      · rcases sls_at e4 with ⟨h0, _⟩ | ⟨id, off, k, rfl, hk, ho, hat⟩
        · rw [h0] at hlt; simp at hlt
        rcases sls_at e6 with ⟨h0, _⟩ | ⟨id2, off2, k2, rfl, hk2, ho2, hat2⟩
        · rw [h0] at hlt; simp at hlt
        obtain ⟨c, hc, hcr⟩ := hat j hlt
        obtain ⟨c2, hc2, hcr2⟩ := hat2 j hlt
        obtain ⟨u1, u2, u3, u4, u5⟩ := sl_is hcr
        obtain ⟨v1, v2, v3, v4, v5⟩ := sl_is hcr2
        have hro := agree_at hn hk hag
        have hro2 := agree_at hn hk2 hag
        have hw := wrap_nat (j := j) (by omega)
        have hw1 : off + (j + 1) ≤ k.cells.length := by omega
        have hw2 : off2 + (j + 1) ≤ k2.cells.length := by omega
        have hll := hb2 _ (List.getElem_mem hlt)
        simp [evs, resAll, resVal, resOne, freeOp, isA, goOp, appNew, mkOp, gev, Region.binds, aop, aeval, gocall, heapOp, quietOp, ev, constAV, setd, yav, ystop, up, env0, cx_ti, cx_G, cx_pf, ti, globS, glob, pfL, lds, ldc, ldcs_1, ldcs_2, ldcs_3, ldcs_4, ldcs_5, ldcs_7, sts, sth, sls.eq_1, slc.eq_1, wr, place, fillOk, fillC, repZ, binI, isDiv, optInt, optI, eksOk, eksEq, EK.ok, EK.eq, AV.i, AV.isI, AV.isInt, AV.str, AV.isStr, AV.ones, AV.isPtr, AV.gl, AV.isG, Value.oneCell', q2, q3, q6, hx, hy, ii, hlt, hro, hro2, hc, hc2, hw1, hw2, u1, u2, u3, v1, v2, v3]
        refine awp_loop (fun s => ∃ m, m ≤ p.cols[j].length ∧ s.e 2 = .p n 0 0 ∧ s.e 3 = .p (n + 1) 0 0 ∧ s.e 6 = ii j ∧ s.e 7 = ii m ∧ s.h = h2') (fun s => p.cols[j].length - (s.e 7).i.toNat) ⟨0, by simp [up, q2, q3, q6, ii]⟩ ?_
        rintro e3' h3' n3' ⟨m, hm, q2, q3, q6, q7, hh⟩
        simp only [] at q2 q3 q6 q7 hh
        subst hh
        by_cases hmt : m < p.cols[j].length
        · rcases is_at hcr with ⟨h0, _⟩ | ⟨i3, o3, k3, rfl, hk3, ho3, hat3⟩
          · rw [h0] at hmt; simp at hmt
          rcases is_at hcr2 with ⟨h0, _⟩ | ⟨i4, o4, k4, rfl, hk4, ho4, hat4⟩
          · rw [h0] at hmt; simp at hmt
          have hro3 := agree_at hn hk3 hag
          have hro4 := agree_at hn hk4 hag
          have g3 := hat3 m hmt
          have g4 := hat4 m hmt
          have hw3 : o3 + (m + 1) ≤ k3.cells.length := by omega
          have hw4 : o4 + (m + 1) ≤ k4.cells.length := by omega
          have hwm := wrap_nat (j := m) (by omega)
          simp [evs, resAll, resVal, resOne, freeOp, isA, goOp, appNew, mkOp, gev, Region.binds, aop, aeval, gocall, heapOp, quietOp, ev, constAV, setd, yav, ystop, up, env0, cx_ti, cx_G, cx_pf, ti, globS, glob, pfL, lds, ldc, ldcs_1, ldcs_2, ldcs_3, ldcs_4, ldcs_5, ldcs_7, sts, sth, sls.eq_1, slc.eq_1, wr, place, fillOk, fillC, repZ, binI, isDiv, optInt, optI, eksOk, eksEq, EK.ok, EK.eq, AV.i, AV.isI, AV.isInt, AV.str, AV.isStr, AV.ones, AV.isPtr, AV.gl, AV.isG, Value.oneCell', q2, q3, q6, q7, hx, hy, ii, hlt, hmt, hro, hro2, hro3, hro4, hc, hc2, hw1, hw2, hw3, hw4, u1, u2, u3, v1, v2, v3, g3, g4, hwm]
          exact ⟨⟨m + 1, by omega, by omega⟩, by omega⟩
        · have hme : m = p.cols[j].length := by omega
          subst hme
          simp [evs, resAll, resVal, resOne, freeOp, isA, goOp, appNew, mkOp, gev, Region.binds, aop, aeval, gocall, heapOp, quietOp, ev, constAV, setd, yav, ystop, up, env0, cx_ti, cx_G, cx_pf, ti, globS, glob, pfL, lds, ldc, ldcs_1, ldcs_2, ldcs_3, ldcs_4, ldcs_5, ldcs_7, sts, sth, sls.eq_1, slc.eq_1, wr, place, fillOk, fillC, repZ, binI, isDiv, optInt, optI, eksOk, eksEq, EK.ok, EK.eq, AV.i, AV.isI, AV.isInt, AV.str, AV.isStr, AV.ones, AV.isPtr, AV.gl, AV.isG, Value.oneCell', q2, q3, q6, q7, hx, hy, ii, hlt, hro, hro2, hc, hc2, hw1, hw2, u1, u2, u3, v1, v2, v3, hw]
          exact ⟨⟨j + 1, by omega, by omega⟩, by omega⟩
      · have hje : j = p.cols.length := by omega
        subst hje
        simp [evs, resAll, resVal, resOne, freeOp, isA, goOp, appNew, mkOp, gev, Region.binds, aop, aeval, gocall, heapOp, quietOp, ev, constAV, setd, yav, ystop, up, env0, cx_ti, cx_G, cx_pf, ti, globS, glob, pfL, lds, ldc, ldcs_1, ldcs_2, ldcs_3, ldcs_4, ldcs_5, ldcs_7, sts, sth, sls.eq_1, slc.eq_1, wr, place, fillOk, fillC, repZ, binI, isDiv, optInt, optI, eksOk, eksEq, EK.ok, EK.eq, AV.i, AV.isI, AV.isInt, AV.str, AV.isStr, AV.ones, AV.isPtr, AV.gl, AV.isG, Value.oneCell', q2, q3, q6, hx, hy, ii, bv, t1, t2, t3]
  exact key _ rfl rfl
end Go.Proofs.YtkfphaphiikloaaDoor
