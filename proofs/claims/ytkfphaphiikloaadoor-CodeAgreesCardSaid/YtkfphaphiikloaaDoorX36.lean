/-
  THE PROGRAMS OF CONDITIONS, PART J: how many events there are; lists that are the same.
-/
import Derived.Test.YtkfphaphiikloaaDoorX16
import Derived.Test.YtkfphaphiikloaaDoorX35
import Derived.Test.YtkfphaphiikloaaDoorX34
set_option linter.unusedSimpArgs false
set_option linter.unusedVariables false
set_option linter.constructorNameAsVariable false
namespace Go.Proofs.YtkfphaphiikloaaDoor
open Go Go.Eng

def sumTo (ll : List (List Ev)) (j : Nat) : Nat := ((ll.take j).map List.length).sum
theorem sumTo_succ {ll : List (List Ev)} {j : Nat} (h : j < ll.length) : sumTo ll (j + 1) = sumTo ll j + ll[j].length := by
  unfold sumTo
  rw [List.take_add_one, List.getElem?_eq_getElem h, List.map_append, List.sum_append]
  simp only [Option.toList_some, List.map_cons, List.map_nil, List.sum_cons, List.sum_nil, Nat.add_zero]
theorem sumTo_mono (ll : List (List Ev)) : ∀ {i j : Nat}, i ≤ j → sumTo ll i ≤ sumTo ll j := fun {i j} h => by
  induction h with
  | refl => exact Nat.le_refl _
  | @step m _ ih =>
    by_cases hm : m < ll.length
    · have := sumTo_succ hm
      simp only [Nat.succ_eq_add_one]
      omega
    · have e : ll.take (m + 1) = ll.take m := by rw [List.take_of_length_le (by omega), List.take_of_length_le (by omega)]
      simp only [Nat.succ_eq_add_one, sumTo, e] at ih ⊢
      exact ih
def beyondV (ll : List (List Ev)) : Bool := decide (2147483647 < sumTo ll ll.length)
theorem beyond_len {ll : List (List Ev)} (h : beyondV ll = false) : ∀ l ∈ ll, l.length ≤ 2147483647 := fun l hl => by
  obtain ⟨i, hi, rfl⟩ := List.getElem_of_mem hl
  have h1 := sumTo_succ hi
  have h2 := sumTo_mono ll (i := i + 1) (j := ll.length) (by omega)
  have h3 : ¬ 2147483647 < sumTo ll ll.length := by simpa [beyondV] using h
  omega
def deLL (h : Heap) : List AV → Option (List (List Ev))
  | [a] => rd dEss h a
  | _ => none
theorem deLL_out {h : Heap} {args : List AV} {q : List (List Ev)} (e : deLL h args = some q) : ∃ a, args = [a] ∧ rd dEss h a = some q := by
  unfold deLL at e
  split at e
  · exact ⟨_, rfl, e⟩
  · cases e
theorem deLL_mono (h h' : Heap) (args : List AV) (q : List (List Ev)) (hh : h.le h') (e : deLL h args = some q) : deLL h' args = some q := by
  obtain ⟨a, rfl, e1⟩ := deLL_out e
  simp only [deLL, rd_mono hh e1]
def G27 := pureH deLL (fun ll => ll.length < big ∧ ∀ l ∈ ll, l.length < big) fun ll => bv (beyondV ll)
set_option maxRecDepth 100000 in
set_option maxHeartbeats 1000000 in
theorem P27 : P0 [] 27 G27 := by
  refine mkH 1 (S := []) (l := []) tb_nil Tryd.func27 rfl (by kernel_rfl) deLL_mono (fun h l x e => by obtain ⟨a, rfl, _⟩ := deLL_out e; exact Nat.le_refl _) (fun a => rfl) (fun args ll h n e hp hn => ?_)
  obtain ⟨a, rfl, e1⟩ := deLL_out e
  obtain ⟨s1, s2, s3, s4, s5⟩ := sl_is e1
  have key : ∀ e : Nat → AV, e 0 = a → awp (cx [] (pfL [])) (Tryd.f27.body.getD .skip) (finQ (cx [] (pfL [])) Tryd.f27 fun z _ _ => z = bv (beyondV ll)) ⟨e, roH h, n⟩ := fun e q0 => by
    simp [evs, aeval, cx_ti, cx_G, cx_pf, ti, globS, glob, ldcs_1, ldcs_2, ldcs_3, ldcs_4, ldcs_5, ldcs_7, sls.eq_1, slc.eq_1, pfL, Tryd.f27, q0]
    refine awp_loop (fun s => ∃ j, j ≤ ll.length ∧ s.e 0 = a ∧ s.e 3 = ii (sumTo ll j) ∧ s.e 4 = ii j ∧ s.h = roH h ∧ sumTo ll j ≤ 2147483647) (fun s => ll.length - (s.e 4).i.toNat) ⟨0, by simp [up, q0, ii, sumTo]⟩ ?_
    rintro e' h' n' ⟨j, hj, q0, q3, q4, hh, hs⟩
    simp only [] at q0 q3 q4 hh
    subst hh
    by_cases hlt : j < ll.length
    · rcases sls_at e1 with ⟨h0, _⟩ | ⟨id, off, k, rfl, hk, ho, hat⟩
      · rw [h0] at hlt; simp at hlt
      obtain ⟨c, hc, hcr⟩ := hat j hlt
      obtain ⟨u1, u2, u3, u4, u5⟩ := sl_is hcr
      have hro := ro_at hk
      have hw := wrap_nat (j := j) (by have := hp.1; omega)
      have hw1 : off + (j + 1) ≤ k.cells.length := by omega
      have hss := sumTo_succ hlt
      have hsub : IntKind.i64.wrap (2147483647 - (sumTo ll j : Int)) = 2147483647 - sumTo ll j := W_id (by unfold Rng; omega)
      have hll := hp.2 _ (List.getElem_mem hlt)
      unfold big at hll
      have hmon := sumTo_mono ll (i := j + 1) (j := ll.length) (by omega)
      by_cases hgt : (2147483647 - (sumTo ll j : Int)) < ll[j].length
      · have hb : beyondV ll = true := by simp only [beyondV, decide_eq_true_eq]; omega
        simp [evs, aeval, cx_ti, cx_G, cx_pf, ti, globS, glob, ldcs_1, ldcs_2, ldcs_3, ldcs_4, ldcs_5, ldcs_7, sls.eq_1, slc.eq_1, pfL, q0, q3, q4, ii, bv, hlt, hro, hc, hw1, u1, u2, u3, hsub, hgt, hb]
      · have hadd : IntKind.i64.wrap ((sumTo ll j : Int) + ll[j].length) = sumTo ll j + ll[j].length := W_id (by unfold Rng; omega)
        simp [evs, aeval, cx_ti, cx_G, cx_pf, ti, globS, glob, ldcs_1, ldcs_2, ldcs_3, ldcs_4, ldcs_5, ldcs_7, sls.eq_1, slc.eq_1, pfL, q0, q3, q4, ii, bv, hlt, hro, hc, hw1, u1, u2, u3, hsub, hgt, hadd, hw]
        exact ⟨⟨j + 1, by omega, by omega, by omega, by omega⟩, by omega⟩
    · have hje : j = ll.length := by omega
      subst hje
      have hb : beyondV ll = false := by simp only [beyondV, decide_eq_false_iff_not]; omega
      simp [evs, aeval, cx_ti, cx_G, cx_pf, ti, globS, glob, ldcs_1, ldcs_2, ldcs_3, ldcs_4, ldcs_5, ldcs_7, sls.eq_1, slc.eq_1, pfL, q0, q3, q4, ii, bv, s1, s2, s3, hb]
  exact key _ rfl
def de33 (h : Heap) : List AV → Option (List (List Ev) × List (List Ev))
  | [a, b] => match rd dEss h a, rd dEss h b with
    | some x, some y => some (x, y)
    | _, _ => none
  | _ => none
theorem de33_out {h : Heap} {args : List AV} {q : List (List Ev) × List (List Ev)} (e : de33 h args = some q) : ∃ a b, args = [a, b] ∧ rd dEss h a = some q.1 ∧ rd dEss h b = some q.2 := by
  unfold de33 at e
  split at e
  · split at e
    · rename_i e1 e2
      cases e
      exact ⟨_, _, rfl, e1, e2⟩
    · cases e
  · cases e
theorem de33_mono (h h' : Heap) (args : List AV) (q : List (List Ev) × List (List Ev)) (hh : h.le h') (e : de33 h args = some q) : de33 h' args = some q := by
  obtain ⟨a, b, rfl, e1, e2⟩ := de33_out e
  simp only [de33, rd_mono hh e1, rd_mono hh e2]
/-- Two lists of lists that are the same. -/
def G33 := pureH de33 (fun q => q.1 = q.2 ∧ q.1.length < big ∧ ∀ l ∈ q.1, l.length < big) fun _ => bv true
set_option maxRecDepth 100000 in
set_option maxHeartbeats 1000000 in
theorem P33 : P0 [] 33 G33 := by
  refine mkH 2 (S := []) (l := []) tb_nil Tryd.func33 rfl (by kernel_rfl) de33_mono (fun h l x e => by obtain ⟨a, b, rfl, _⟩ := de33_out e; exact Nat.le_refl _) (fun a => rfl) (fun args q h n e hp hn => ?_)
  obtain ⟨ll, l2⟩ := q
  obtain ⟨a, b, rfl, e1, e2⟩ := de33_out e
  obtain ⟨heq, hb1, hb2⟩ := hp
  simp only [] at e1 e2 heq hb1 hb2
  subst heq
  obtain ⟨s1, s2, s3, s4, s5⟩ := sl_is e1
  obtain ⟨t1, t2, t3, t4, t5⟩ := sl_is e2
  have key : ∀ e : Nat → AV, e 0 = a → e 1 = b → awp (cx [] (pfL [])) (Tryd.f33.body.getD .skip) (finQ (cx [] (pfL [])) Tryd.f33 fun z _ _ => z = bv true) ⟨e, roH h, n⟩ := fun e q0 q1 => by
    simp [evs, aeval, cx_ti, cx_G, cx_pf, ti, globS, glob, ldcs_1, ldcs_2, ldcs_3, ldcs_4, ldcs_5, ldcs_7, sls.eq_1, slc.eq_1, pfL, Tryd.f33, q0, q1, s1, s2, s3, t1, t2, t3]
    refine awp_loop (fun s => ∃ j, j ≤ ll.length ∧ s.e 0 = a ∧ s.e 1 = b ∧ s.e 5 = ii j ∧ s.h = roH h) (fun s => ll.length - (s.e 5).i.toNat) ⟨0, by simp [up, q0, q1, ii]⟩ ?_
    rintro e' h' n' ⟨j, hj, q0, q1, q5, hh⟩
    simp only [] at q0 q1 q5 hh
    subst hh
    by_cases hlt : j < ll.length
    · rcases sls_at e1 with ⟨h0, _⟩ | ⟨id, off, k, rfl, hk, ho, hat⟩
      · rw [h0] at hlt; simp at hlt
      rcases sls_at e2 with ⟨h0, _⟩ | ⟨id2, off2, k2, rfl, hk2, ho2, hat2⟩
      · rw [h0] at hlt; simp at hlt
      obtain ⟨c, hc, hcr⟩ := hat j hlt
      obtain ⟨c2, hc2, hcr2⟩ := hat2 j hlt
      obtain ⟨u1, u2, u3, u4, u5⟩ := sl_is hcr
      obtain ⟨v1, v2, v3, v4, v5⟩ := sl_is hcr2
      have hro := ro_at hk
      have hro2 := ro_at hk2
      have hw := wrap_nat (j := j) (by omega)
      have hw1 : off + (j + 1) ≤ k.cells.length := by omega
      have hw2 : off2 + (j + 1) ≤ k2.cells.length := by omega
      have hll := hb2 _ (List.getElem_mem hlt)
      simp [evs, aeval, cx_ti, cx_G, cx_pf, ti, globS, glob, ldcs_1, ldcs_2, ldcs_3, ldcs_4, ldcs_5, ldcs_7, sls.eq_1, slc.eq_1, pfL, q0, q1, q5, ii, hlt, hro, hro2, hc, hc2, hw1, hw2, u1, u2, u3, v1, v2, v3]
      refine awp_loop (fun s => ∃ m, m ≤ ll[j].length ∧ s.e 0 = .s id k.ver off ll.length ∧ s.e 1 = .s id2 k2.ver off2 ll.length ∧ s.e 5 = ii j ∧ s.e 6 = ii m ∧ s.h = roH h) (fun s => ll[j].length - (s.e 6).i.toNat) ⟨0, by simp [up, q0, q1, q5, ii]⟩ ?_
      rintro e2' h2' n2' ⟨m, hm, q0, q1, q5, q6, hh⟩
      simp only [] at q0 q1 q5 q6 hh
      subst hh
      by_cases hmt : m < ll[j].length
      · rcases es_at hcr with ⟨h0, _⟩ | ⟨i3, o3, k3, rfl, hk3, ho3, hat3⟩
        · rw [h0] at hmt; simp at hmt
        rcases es_at hcr2 with ⟨h0, _⟩ | ⟨i4, o4, k4, rfl, hk4, ho4, hat4⟩
        · rw [h0] at hmt; simp at hmt
        have hro3 := ro_at hk3
        have hro4 := ro_at hk4
        have hle3 : ∀ (X : Ctx) (h' : Heap), h' i3 = some ⟨k3.cells, k3.ver, false, k3.esz⟩ → ldcs X h' (.p i3 k3.ver (o3 + m * 11)) 0 11 = ecells ll[j][m] := fun X h' e => ldcs_ev e (hat3 m hmt)
        have hle4 : ∀ (X : Ctx) (h' : Heap), h' i4 = some ⟨k4.cells, k4.ver, false, k4.esz⟩ → ldcs X h' (.p i4 k4.ver (o4 + m * 11)) 0 11 = ecells ll[j][m] := fun X h' e => ldcs_ev e (hat4 m hmt)
        have hw3 : o3 + (m * 11 + 11) ≤ k3.cells.length := by omega
        have hw4 : o4 + (m * 11 + 11) ≤ k4.cells.length := by omega
        have hwm := wrap_nat (j := m) (by omega)
        simp [evs, aeval, cx_ti, cx_G, cx_pf, ti, globS, glob, ldcs_1, ldcs_2, ldcs_3, ldcs_4, ldcs_5, ldcs_7, sls.eq_1, slc.eq_1, pfL, q0, q1, q5, q6, ii, uu, hlt, hmt, hro, hro2, hro3, hro4, hc, hc2, hw1, hw2, hw3, hw4, u1, u2, u3, v1, v2, v3, hle3, hle4, ecells, hwm]
        exact ⟨⟨m + 1, by omega, by omega⟩, by omega⟩
      · have hme : m = ll[j].length := by omega
        subst hme
        simp [evs, aeval, cx_ti, cx_G, cx_pf, ti, globS, glob, ldcs_1, ldcs_2, ldcs_3, ldcs_4, ldcs_5, ldcs_7, sls.eq_1, slc.eq_1, pfL, q0, q1, q5, q6, ii, hlt, hro, hro2, hc, hc2, hw1, hw2, u1, u2, u3, v1, v2, v3, hw]
        exact ⟨⟨j + 1, by omega, by omega⟩, by omega⟩
    · have hje : j = ll.length := by omega
      subst hje
      simp [evs, aeval, cx_ti, cx_G, cx_pf, ti, globS, glob, ldcs_1, ldcs_2, ldcs_3, ldcs_4, ldcs_5, ldcs_7, sls.eq_1, slc.eq_1, pfL, q0, q1, q5, ii, bv, s1, s2, s3]
  exact key _ rfl rfl
end Go.Proofs.YtkfphaphiikloaaDoor

namespace Go.Proofs.YtkfphaphiikloaaDoor
open Go Go.Eng

def de21 (h : Heap) : List AV → Option (Pr × Pr)
  | [a, b] => match dePr h a, dePr h b with
    | some x, some y => some (x, y)
    | _, _ => none
  | _ => none
theorem de21_out {h : Heap} {args : List AV} {q : Pr × Pr} (e : de21 h args = some q) : ∃ a b, args = [a, b] ∧ dePr h a = some q.1 ∧ dePr h b = some q.2 := by
  unfold de21 at e
  split at e
  · split at e
    · rename_i e1 e2
      cases e
      exact ⟨_, _, rfl, e1, e2⟩
    · cases e
  · cases e
theorem de21_mono (h h' : Heap) (args : List AV) (q : Pr × Pr) (hh : h.le h') (e : de21 h args = some q) : de21 h' args = some q := by
  obtain ⟨a, b, rfl, e1, e2⟩ := de21_out e
  simp only [de21, dePr_sim hh.sim e1, dePr_sim hh.sim e2]
/-- Two programs that are the same. -/
def G21 := pureH de21 (fun q => q.1 = q.2 ∧ q.1.code.length < big ∧ q.1.cols.length < big ∧ ∀ l ∈ q.1.cols, l.length < big) fun _ => bv true
set_option maxRecDepth 100000 in
set_option maxHeartbeats 2000000 in
theorem P21 : P0 [] 21 G21 := by
  refine mkH 2 (S := []) (l := []) tb_nil Tryd.func21 rfl (by kernel_rfl) de21_mono (fun h l x e => by obtain ⟨a, b, rfl, _⟩ := de21_out e; exact Nat.le_refl _) (fun a => rfl) (fun args q h n e hp hn => ?_)
  obtain ⟨p, p2⟩ := q
  obtain ⟨x, y, rfl, e1, e2⟩ := de21_out e
  obtain ⟨heq, hb0, hb1, hb2⟩ := hp
  simp only [] at e1 e2 heq hb0 hb1 hb2
  subst heq
  obtain ⟨a, b, rfl, e3, e4⟩ := dePr_out e1
  obtain ⟨a', b', rfl, e5, e6⟩ := dePr_out e2
  obtain ⟨s1, s2, s3, s4, s5⟩ := sl_is e3
  obtain ⟨t1, t2, t3, t4, t5⟩ := sl_is e4
  obtain ⟨p1, p2, p3, p4, p5⟩ := sl_is e5
  obtain ⟨r1, r2, r3, r4, r5⟩ := sl_is e6
  have key : ∀ e : Nat → AV, e 0 = .g [a, b] → e 1 = .g [a', b'] → awp (cx [] (pfL [])) (Tryd.f21.body.getD .skip) (finQ (cx [] (pfL [])) Tryd.f21 fun z _ _ => z = bv true) ⟨e, roH h, n⟩ := fun e q0 q1 => by
    simp [evs, aeval, cx_ti, cx_G, cx_pf, ti, globS, glob, ldcs_1, ldcs_2, ldcs_3, ldcs_4, ldcs_5, ldcs_7, sls.eq_1, slc.eq_1, pfL, Tryd.f21, q0, q1, s1, s2, s3, s4, s5, t1, t2, t3, t4, t5, p1, p2, p3, p4, p5, r1, r2, r3, r4, r5]
    refine awp_loop (fun s => ∃ j, j ≤ p.code.length ∧ s.e 2 = .p n 0 0 ∧ s.e 3 = .p (n + 1) 0 0 ∧ s.e 5 = ii j ∧ agree n (roH h) s.h ∧ s.h n = some ⟨[a, b], 0, true, 2⟩ ∧ s.h (n + 1) = some ⟨[a', b'], 0, true, 2⟩) (fun s => p.code.length - (s.e 5).i.toNat) ⟨0, by simp [up, ii, agree_up, agree_refl]⟩ ?_
    rintro e' h' n' ⟨j, hj, q2, q3, q5, hag, hx, hy⟩
    simp only [] at q2 q3 q5 hag hx hy
    by_cases hlt : j < p.code.length
    · rcases ps_at e3 with ⟨h0, _⟩ | ⟨id, off, k, rfl, hk, ho, hat⟩
      · rw [h0] at hlt; simp at hlt
      rcases ps_at e5 with ⟨h0, _⟩ | ⟨id2, off2, k2, rfl, hk2, ho2, hat2⟩
      · rw [h0] at hlt; simp at hlt
      obtain ⟨c0, c1, c2, c3, c4⟩ := ins_at (hat j hlt)
      obtain ⟨d0, d1, d2, d3, d4⟩ := ins_at (hat2 j hlt)
      rw [Nat.add_assoc] at c1 c2 c3 c4 d1 d2 d3 d4
      have hro := agree_at hn hk hag
      have hro2 := agree_at hn hk2 hag
      have hw := wrap_nat (j := j) (by omega)
      have hw1 : off + (j * 5 + 5) ≤ k.cells.length := by omega
      have hw2 : off2 + (j * 5 + 5) ≤ k2.cells.length := by omega
      simp [evs, aeval, cx_ti, cx_G, cx_pf, ti, globS, glob, ldcs_1, ldcs_2, ldcs_3, ldcs_4, ldcs_5, ldcs_7, sls.eq_1, slc.eq_1, pfL, q2, q3, q5, hx, hy, ii, hlt, hro, hro2, c0, c1, c2, c3, c4, d0, d1, d2, d3, d4, hw1, hw2, hw]
      exact ⟨⟨j + 1, by omega, by omega, hag⟩, by omega⟩
    · have hje : j = p.code.length := by omega
      subst hje
      simp [evs, aeval, cx_ti, cx_G, cx_pf, ti, globS, glob, ldcs_1, ldcs_2, ldcs_3, ldcs_4, ldcs_5, ldcs_7, sls.eq_1, slc.eq_1, pfL, q2, q3, q5, hx, hy, ii, s1, s2, s3]
      refine awp_loop (fun s => ∃ j, j ≤ p.cols.length ∧ s.e 2 = .p n 0 0 ∧ s.e 3 = .p (n + 1) 0 0 ∧ s.e 6 = ii j ∧ s.h = h') (fun s => p.cols.length - (s.e 6).i.toNat) ⟨0, by simp [up, ii, q2, q3]⟩ ?_
      rintro e2' h2' n2' ⟨j, hj, q2, q3, q6, hh⟩
      simp only [] at q2 q3 q6 hh
      subst hh
      by_cases hlt : j < p.cols.length
      · rcases sls_at e4 with ⟨h0, _⟩ | ⟨id, off, k, rfl, hk, ho, hat⟩
        · rw [h0] at hlt; simp at hlt
        rcases sls_at e6 with ⟨h0, _⟩ | ⟨id2, off2, k2, rfl, hk2, ho2, hat2⟩
        · rw [h0] at hlt; simp at hlt
        obtain ⟨c, hc, hcr⟩ := hat j hlt
        obtain ⟨c2, hc2, hcr2⟩ := hat2 j hlt
        obtain ⟨u1, u2, u3, u4, u5⟩ := sl_is hcr
        obtain ⟨v1, v2, v3, v4, v5⟩ := sl_is hcr2
        have hro := agree_at hn hk hag
        have hro2 := agree_at hn hk2 hag
        have hw := wrap_nat (j := j) (by omega)
        have hw1 : off + (j + 1) ≤ k.cells.length := by omega
        have hw2 : off2 + (j + 1) ≤ k2.cells.length := by omega
        have hll := hb2 _ (List.getElem_mem hlt)
        simp [evs, aeval, cx_ti, cx_G, cx_pf, ti, globS, glob, ldcs_1, ldcs_2, ldcs_3, ldcs_4, ldcs_5, ldcs_7, sls.eq_1, slc.eq_1, pfL, q2, q3, q6, hx, hy, ii, hlt, hro, hro2, hc, hc2, hw1, hw2, u1, u2, u3, v1, v2, v3]
        refine awp_loop (fun s => ∃ m, m ≤ p.cols[j].length ∧ s.e 2 = .p n 0 0 ∧ s.e 3 = .p (n + 1) 0 0 ∧ s.e 6 = ii j ∧ s.e 7 = ii m ∧ s.h = h2') (fun s => p.cols[j].length - (s.e 7).i.toNat) ⟨0, by simp [up, q2, q3, q6, ii]⟩ ?_
        rintro e3' h3' n3' ⟨m, hm, q2, q3, q6, q7, hh⟩
        simp only [] at q2 q3 q6 q7 hh
        subst hh
        by_cases hmt : m < p.cols[j].length
        · rcases is_at hcr with ⟨h0, _⟩ | ⟨i3, o3, k3, rfl, hk3, ho3, hat3⟩
          · rw [h0] at hmt; simp at hmt
          rcases is_at hcr2 with ⟨h0, _⟩ | ⟨i4, o4, k4, rfl, hk4, ho4, hat4⟩
          · rw [h0] at hmt; simp at hmt
          have hro3 := agree_at hn hk3 hag
          have hro4 := agree_at hn hk4 hag
          have g3 := hat3 m hmt
          have g4 := hat4 m hmt
          have hw3 : o3 + (m + 1) ≤ k3.cells.length := by omega
          have hw4 : o4 + (m + 1) ≤ k4.cells.length := by omega
          have hwm := wrap_nat (j := m) (by omega)
          simp [evs, aeval, cx_ti, cx_G, cx_pf, ti, globS, glob, ldcs_1, ldcs_2, ldcs_3, ldcs_4, ldcs_5, ldcs_7, sls.eq_1, slc.eq_1, pfL, q2, q3, q6, q7, hx, hy, ii, hlt, hmt, hro, hro2, hro3, hro4, hc, hc2, hw1, hw2, hw3, hw4, u1, u2, u3, v1, v2, v3, g3, g4, hwm]
          exact ⟨⟨m + 1, by omega, by omega⟩, by omega⟩
        · have hme : m = p.cols[j].length := by omega
          subst hme
          simp [evs, aeval, cx_ti, cx_G, cx_pf, ti, globS, glob, ldcs_1, ldcs_2, ldcs_3, ldcs_4, ldcs_5, ldcs_7, sls.eq_1, slc.eq_1, pfL, q2, q3, q6, q7, hx, hy, ii, hlt, hro, hro2, hc, hc2, hw1, hw2, u1, u2, u3, v1, v2, v3, hw]
          exact ⟨⟨j + 1, by omega, by omega⟩, by omega⟩
      · have hje : j = p.cols.length := by omega
        subst hje
        simp [evs, aeval, cx_ti, cx_G, cx_pf, ti, globS, glob, ldcs_1, ldcs_2, ldcs_3, ldcs_4, ldcs_5, ldcs_7, sls.eq_1, slc.eq_1, pfL, q2, q3, q6, hx, hy, ii, bv, t1, t2, t3]
  exact key _ rfl rfl
end Go.Proofs.YtkfphaphiikloaaDoor

/-
  THE LAWS WITHOUT THE DOCUMENT: what they are handed, and programs in cells.
-/
namespace Go.Proofs.YtkfphaphiikloaaDoor
open Go Go.Eng

def S8 : List Nat := [0, 1, 2, 3, 4, 5, 6, 7]
/-- Arguments of a size that a machine holds. -/
structure W8 (v : Eq38) : Prop where
  s1 : v.sc.length * 40 ≤ 140737488355328
  s2 : ∀ t ∈ v.sc, t.attrs.length * 16 ≤ 140737488355328
  q1 : v.q.items.length * 64 ≤ 140737488355328
  q2 : smallT v.q.wh
  q3 : v.q.ret.length < big
  q4 : ∀ t ∈ v.q.ret, smallT t
  t1 : v.t.length * 64 ≤ 140737488355328
  t2 : ∀ x ∈ v.t, Rng x.n
  e1 : v.en.ls.length * 24 ≤ 140737488355328
  e2 : ∀ l ∈ v.en.ls, l.length * 88 ≤ 140737488355328
  e3 : ∀ l ∈ v.en.ls, ∀ x ∈ l, EvOk x
  e4 : Rng v.en.pos
theorem W8.eq {v : Eq38} (w : W8 v) (hb : beyondV v.en.ls = false) : EqOk v :=
  ⟨⟨by have := w.s1; unfold big; omega, fun t ht => by have := w.s2 t ht; unfold big; omega⟩, by have := w.q1; unfold big; omega, w.t1, w.t2, ⟨beyond_len hb, w.e3, w.e4⟩⟩
theorem W8.it {v : Eq38} (w : W8 v) : v.q.items.length < big := by have := w.q1; unfold big; omega
theorem W8.tl {v : Eq38} (w : W8 v) : v.sc.length * 8 ≤ 140737488355328 := by have := w.s1; omega
theorem W8.pr {v : Eq38} (w : W8 v) : PrOk (compP v.sc (vars v.q.items) v.t) := comp_ok (by have := w.it; simpa [vars] using this) w.t1 w.tl w.t2
theorem W8.w1 {v : Eq38} (w : W8 v) : v.en.ls.length < big := by have := w.e1; unfold big; omega
theorem W8.w2 {v : Eq38} (w : W8 v) : ∀ l ∈ v.en.ls, l.length < big := fun l hl => by have := w.e2 l hl; unfold big; omega
/-- What was handed in. -/
structure A8 (v : Eq38) (s : St) : Prop where
  at2 : rd dNs s.h (s.e 2) = some v.t
  as4 : HasS s.h (s.e 4) v.sc
  aq5 : HasQ s.h (s.e 5) v.q
  ae7 : HasE s.h (s.e 7) v.en
  frs : Fresh s.n s.h
theorem A8.up {v : Eq38} {s s' : St} (a : A8 v s) (he : ∀ i ∈ [2, 4, 5, 7], s'.e i = s.e i) (ha : agree s.n s.h s'.h) (hf : Fresh s'.n s'.h) : A8 v s' :=
  ⟨by rw [he 2 (by simp)]; exact rd_agr a.frs a.at2 _ ha, by rw [he 4 (by simp)]; exact a.as4.up a.frs ha, by rw [he 5 (by simp)]; exact a.aq5.up a.frs ha, by rw [he 7 (by simp)]; exact a.ae7.up a.frs ha, hf⟩
/-- A value in a cell. -/
def HasV (s : St) (i : Nat) (x : V) : Prop := ∃ m, s.e i = .p m 0 0 ∧ s.h m = some ⟨[.v (.bool x.k), .v (.int .i64 x.n)], 0, true, 2⟩
theorem HasV.up {s s' : St} {i n : Nat} {x : V} (a : HasV s i x) (hn : Fresh n s.h) (he : s'.e i = s.e i) (ha : agree n s.h s'.h) : HasV s' i x := by
  obtain ⟨m, h1, h2⟩ := a
  exact ⟨m, he.trans h1, by rw [ha m (lt_of h2 hn)]; exact h2⟩
end Go.Proofs.YtkfphaphiikloaaDoor

/-
  CodeAgrees: the law's own code.
-/
namespace Go.Proofs.YtkfphaphiikloaaDoor
open Go Go.Eng

def tbl8 : List (FuncId × (List AV → Heap → PRes)) := [(14, G14), (15, G15), (27, G27), (29, G29), (37, G38), (39, G39), (42, G57)]
theorem tbl8_ok : TbOk S8 tbl8 := tb_cons P14 (tb_cons P15 (tb_cons P27 (tb_cons P29 (tb_cons P37 (tb_cons P39 (tb_cons P42 tb_nil))))))
section
set_option maxRecDepth 100000
set_option maxHeartbeats 4000000
variable {h : Heap} {n : Nat} {sa qa qb qc ta la : AV} {v : Eq38}
theorem law8a (e1 : rd dTys h sa = some v.sc) (e2 : rd dIts h qa = some v.q.items) (e3 : rd dNs h qb = some v.q.wh) (e4 : rd dNss h qc = some v.q.ret) (e5 : rd dNs h ta = some v.t) (e6 : rd dEss h la = some v.en.ls) (w : W8 v) (hn : Fresh n h) (e : Nat → AV)
    (q0 : e 0 = .g [sa]) (q1 : e 1 = .g [qa, .v (.int .i64 v.q.mode), .v (.int .i64 v.q.after), qb, .v (.int .i64 v.q.within), .v (.string v.q.par), qc]) (q2 : e 2 = ta) (q3 : e 3 = .g [la, .v (.int .i64 v.en.each), .v (.int .i64 v.en.pos)]) :
    awp (cx S8 (pfL tbl8)) (hdC 2 (Tryd.f8.body.getD .skip)) (thenQ (fun s => A8 v s ∧ beyondV v.en.ls = false) (finQ (cx S8 (pfL tbl8)) Tryd.f8 fun z _ _ => z = bv true)) ⟨e, roH h, n⟩ := by
  have o1 := (sl_is e1).2.2.2.1
  have o2 := (sl_is e2).2.2.2.1
  have o3 := (sl_is e3).2.2.2.1
  have o4 := (sl_is e4).2.2.2.1
  have o5 := (sl_is e6).2.2.2.1
  obtain ⟨s1, s2, s3, s4, s5⟩ := sl_is e5
  have r3 := (sl_is e6).2.2.1
  have g6 := rd_agree hn e6
  have g5 := rd_agree hn e5
  have gq : ∀ h', agree n (roH h) h' → deQ h' (.g [qa, .v (.int .i64 v.q.mode), .v (.int .i64 v.q.after), qb, .v (.int .i64 v.q.within), .v (.string v.q.par), qc]) = some v.q := fun h' ha => deQ_has (rd_agree hn e2 h' ha) (rd_agree hn e3 h' ha) (rd_agree hn e4 h' ha)
  have w1 := w.w1
  have w2 := w.w2
  have w3 : smallT v.q.wh ∧ v.q.ret.length < big ∧ ∀ t ∈ v.q.ret, smallT t := ⟨w.q2, w.q3, w.q4⟩
  have w4 : smallT v.t := w.t1
  have fr := roH_fresh hn
  cases hq : qdeep v.q with
  | true =>
    simp [evs, aeval, cx_ti, cx_G, cx_pf, ti, globS, glob, ldcs_1, ldcs_2, ldcs_3, ldcs_4, ldcs_5, ldcs_7, sls.eq_1, slc.eq_1, pfL, hdC, Tryd.f8, q0, q1, q2, q3, o1, o2, o3, o4, o5, s3, r3, bv, tbl8, pureH, agree_up, agree_refl, G14, deQ1, gq, hq]
    exact w3
  | false =>
    cases ht : deepB v.t with
    | true =>
      simp [evs, aeval, cx_ti, cx_G, cx_pf, ti, globS, glob, ldcs_1, ldcs_2, ldcs_3, ldcs_4, ldcs_5, ldcs_7, sls.eq_1, slc.eq_1, pfL, hdC, Tryd.f8, q0, q1, q2, q3, o1, o2, o3, o4, o5, s3, r3, bv, tbl8, pureH, agree_up, agree_refl, G14, deQ1, gq, hq, G15, deT, g5, ht]
      exact ⟨w3, w4⟩
    | false =>
      cases hb : beyondV v.en.ls with
      | true =>
        simp [evs, aeval, cx_ti, cx_G, cx_pf, ti, globS, glob, ldcs_1, ldcs_2, ldcs_3, ldcs_4, ldcs_5, ldcs_7, sls.eq_1, slc.eq_1, pfL, hdC, Tryd.f8, q0, q1, q2, q3, o1, o2, o3, o4, o5, s3, r3, bv, tbl8, pureH, agree_up, agree_refl, G14, deQ1, gq, hq, G15, deT, g5, ht, G27, deLL, g6, w1, hb]
        exact ⟨w3, w4, w2⟩
      | false =>
        simp [evs, aeval, cx_ti, cx_G, cx_pf, ti, globS, glob, ldcs_1, ldcs_2, ldcs_3, ldcs_4, ldcs_5, ldcs_7, sls.eq_1, slc.eq_1, pfL, hdC, Tryd.f8, q0, q1, q2, q3, o1, o2, o3, o4, o5, s3, r3, bv, tbl8, pureH, agree_up, agree_refl, G14, deQ1, gq, hq, G15, deT, g5, ht, G27, deLL, g6, w1, hb]
        refine ⟨w3, w4, w2, ?_⟩
        have ag : ∀ b1 b2 b3 : Option Blk, agree n (roH h) (up (up (up (roH h) n b1) (n + 1) b2) (n + 2) b3) := fun b1 b2 b3 => by simp [agree_up, agree_refl]
        exact ⟨by simpa [up, q2] using g5 _ (ag _ _ _), ⟨n, sa, by simp [up], by simp [up], rd_agree hn e1 _ (ag _ _ _)⟩, ⟨n + 1, qa, qb, qc, by simp [up], by simp [up], rd_agree hn e2 _ (ag _ _ _), rd_agree hn e3 _ (ag _ _ _), rd_agree hn e4 _ (ag _ _ _)⟩, ⟨n + 2, la, by simp [up], by simp [up], g6 _ (ag _ _ _)⟩, by simp [fresh_up, fr.add]⟩
theorem law8b (e : Nat → AV) (h' : Heap) (n' : Nat) (b : A8 v ⟨e, h', n'⟩) {Q : Ex → St → Prop} :
    awp (cx S8 (pfL tbl8)) (hdC 1 (tlC 2 (Tryd.f8.body.getD .skip))) (thenQ (A8 v) Q) ⟨e, h', n'⟩ := by
  simp [evs, aeval, cx_ti, cx_G, cx_pf, ti, globS, glob, ldcs_1, ldcs_2, ldcs_3, ldcs_4, ldcs_5, ldcs_7, sls.eq_1, slc.eq_1, pfL, hdC, tlC, Tryd.f8, tbl8, G39, pureH, de39, bv]
  exact b.up (by simp [up]) (agree_refl _ _) b.frs
theorem law8c (w : W8 v) (e : Nat → AV) (h' : Heap) (n' : Nat) (b : A8 v ⟨e, h', n'⟩) {Q : Ex → St → Prop} :
    awp (cx S8 (pfL tbl8)) (hdC 1 (tlC 3 (Tryd.f8.body.getD .skip))) (thenQ (fun s => A8 v s ∧ HasP s 9 n' s.n (compP v.sc (vars v.q.items) v.t)) Q) ⟨e, h', n'⟩ := by
  have b0 := b
  obtain ⟨at2, ⟨m4, a4, q4, b4, r4⟩, ⟨m5, a5, x5, y5, q5, b5, r5, r5', r5''⟩, ⟨m7, a7, q7, b7, r7⟩, fr⟩ := b
  simp only [] at at2 q4 b4 r4 q5 b5 r5 r5' r5'' q7 b7 r7 fr
  obtain ⟨ta, q2⟩ : ∃ x, e 2 = x := ⟨_, rfl⟩
  rw [q2] at at2
  have s3 := (sl_is at2).2.2.1
  have o4 := (sl_is r4).2.2.2.1
  have o5 := (sl_is r5).2.2.2.1
  have o5' := (sl_is r5').2.2.2.1
  have o5'' := (sl_is r5'').2.2.2.1
  simp [evs, aeval, cx_ti, cx_G, cx_pf, ti, globS, glob, ldcs_1, ldcs_2, ldcs_3, ldcs_4, ldcs_5, ldcs_7, sls.eq_1, slc.eq_1, pfL, hdC, tlC, Tryd.f8, q2, q4, q5, b4, b5, s3, o4, o5, o5', o5'', tbl8]
  refine (acall_any (S := [7]) (by simp [S8]) (c20 r4 (deQ_has (q := v.q) r5 r5' r5'') at2 w.it w.t1 w.tl ⟨by have := w.s1; unfold big; omega, fun t ht => by have := w.s2 t ht; unfold big; omega⟩ fr)).mono ?_
  rintro z h2 n2 ⟨a1, a2, a3, a4⟩
  obtain ⟨ca, la, rfl, k1, k2, k3, k4, k5, k6⟩ := a4.is
  have ho : ∀ b1 b2 : Option Blk, OwnQ (up (up h2 n2 b1) n2 b2) n' (n2 + 2) (.g [ca, la]) (compP v.sc (vars v.q.items) v.t) := fun b1 b2 => a4.up (fun q h1 h2 => by rw [up_ne _ _ (by omega), up_ne _ _ (by omega)]) (Nat.le_refl _) (by omega)
  simp [evs, aeval, cx_ti, cx_G, cx_pf, ti, globS, glob, ldcs_1, ldcs_2, ldcs_3, ldcs_4, ldcs_5, ldcs_7, sls.eq_1, slc.eq_1, pfL, k1, k2, k3, k4, k5, k6]
  have hg2 : ∀ b1 b2 : Option Blk, agree n' h' (up (up h2 n2 b1) n2 b2) := fun b1 b2 => by simp [agree_up, a1, a3]
  exact ⟨b0.up (by simp [up, q2]) (hg2 _ _) (by simp [fresh_up, a2.add]), n2, ca, la, by simp [up], by omega, by simp, by simp, by simp [up], ho _ _⟩
theorem law8d (w : W8 v) (hb : beyondV v.en.ls = false) (p hi : Nat) (e : Nat → AV) (h' : Heap) (n' : Nat) (b : A8 v ⟨e, h', n'⟩) (c : HasP ⟨e, h', n'⟩ 9 p hi (compP v.sc (vars v.q.items) v.t)) {Q : Ex → St → Prop} :
    awp (cx S8 (pfL tbl8)) (hdC 1 (tlC 4 (Tryd.f8.body.getD .skip))) (thenQ (fun s => A8 v s ∧ HasP s 9 p hi (compP v.sc (vars v.q.items) v.t) ∧ HasV s 10 (evalV v.sc (vars v.q.items) v.en v.t)) Q) ⟨e, h', n'⟩ := by
  have b0 := b
  obtain ⟨at2, ⟨m4, a4, q4, b4, r4⟩, ⟨m5, a5, x5, y5, q5, b5, r5, r5', r5''⟩, ⟨m7, a7, q7, b7, r7⟩, fr⟩ := b
  simp only [] at at2 q4 b4 r4 q5 b5 r5 r5' r5'' q7 b7 r7 fr
  obtain ⟨ta, q2⟩ : ∃ x, e 2 = x := ⟨_, rfl⟩
  rw [q2] at at2
  have s3 := (sl_is at2).2.2.1
  have o4 := (sl_is r4).2.2.2.1
  have o5 := (sl_is r5).2.2.2.1
  have o5' := (sl_is r5').2.2.2.1
  have o5'' := (sl_is r5'').2.2.2.1
  have o7 := (sl_is r7).2.2.2.1
  have hok := w.eq hb
  have cn := c.choose_spec.choose_spec.choose_spec.2.2.2.1
  simp only [] at cn
  have hde : de38 h' [.g [a4], .g [a5, .v (.int .i64 v.q.mode), .v (.int .i64 v.q.after), x5, .v (.int .i64 v.q.within), .v (.string v.q.par), y5], ta, .g [a7, .v (.int .i64 v.en.each), .v (.int .i64 v.en.pos)]] = some v :=
    de38_in r4 (deQ_has r5 r5' r5'') at2 (deEn_has r7)
  generalize hev : evalV v.sc (vars v.q.items) v.en v.t = y at *
  simp [evs, aeval, cx_ti, cx_G, cx_pf, ti, globS, glob, ldcs_1, ldcs_2, ldcs_3, ldcs_4, ldcs_5, ldcs_7, sls.eq_1, slc.eq_1, pfL, hdC, tlC, Tryd.f8, q2, q4, q5, q7, b4, b5, b7, s3, o4, o5, o5', o5'', o7, tbl8, G38, pureH, hde, hok, hev, vv]
  have g : ∀ x1 x2 : Option Blk, agree n' h' (up (up h' n' x1) n' x2) := fun x1 x2 => by simp [agree_up, agree_refl]
  exact ⟨b0.up (by simp [up, q2]) (g _ _) (by simp [fresh_up, fr.add]), c.up (by simp [up]) (fun q _ hq => g _ _ q (by omega)) (by simp), n', by simp [up], by simp [up]⟩
theorem law8e (w : W8 v) (p hi : Nat) (e : Nat → AV) (h' : Heap) (n' : Nat) (b : A8 v ⟨e, h', n'⟩) (c : HasP ⟨e, h', n'⟩ 9 p hi (compP v.sc (vars v.q.items) v.t)) (d : HasV ⟨e, h', n'⟩ 10 (evalV v.sc (vars v.q.items) v.en v.t)) :
    awp (cx S8 (pfL tbl8)) (hdC 1 (tlC 5 (Tryd.f8.body.getD .skip))) (thenQ (fun s => A8 v s ∧ HasP s 9 p hi (compP v.sc (vars v.q.items) v.t) ∧ HasV s 10 (evalV v.sc (vars v.q.items) v.en v.t) ∧ runT (vars v.q.items) v.t = true) (finQ (cx S8 (pfL tbl8)) Tryd.f8 fun z _ _ => z = bv true)) ⟨e, h', n'⟩ := by
  have b0 := b
  have c0 := c
  have d0 := d
  obtain ⟨at2, ⟨m4, a4, q4, b4, r4⟩, ⟨m5, a5, x5, y5, q5, b5, r5, r5', r5''⟩, _, fr⟩ := b
  obtain ⟨m9, ca, cl, q9, j1, j2, j3, b9, o9⟩ := c
  obtain ⟨m10, q10, b10⟩ := d
  simp only [] at at2 q5 b5 r5 r5' r5'' fr q9 b9 o9 q10 b10
  obtain ⟨ta, q2⟩ : ∃ x, e 2 = x := ⟨_, rfl⟩
  rw [q2] at at2
  have s3 := (sl_is at2).2.2.1
  have o5 := (sl_is r5).2.2.2.1
  have o5' := (sl_is r5').2.2.2.1
  have o5'' := (sl_is r5'').2.2.2.1
  have hde : deQT h' [.g [a5, .v (.int .i64 v.q.mode), .v (.int .i64 v.q.after), x5, .v (.int .i64 v.q.within), .v (.string v.q.par), y5], ta] = some (v.q, v.t) := by
    simp only [deQT, deQ_has (q := v.q) r5 r5' r5'', at2]
  have hok : okQT (v.q, v.t) := ⟨w.it, w.t1⟩
  cases hr : runT (vars v.q.items) v.t with
  | true =>
    simp [evs, aeval, cx_ti, cx_G, cx_pf, ti, globS, glob, ldcs_1, ldcs_2, ldcs_3, ldcs_4, ldcs_5, ldcs_7, sls.eq_1, slc.eq_1, pfL, hdC, tlC, Tryd.f8, q2, q5, b5, s3, o5, o5', o5'', tbl8, G57, pureH, hde, hok, hr, bv]
    exact ⟨b0.up (by simp [up, q2]) (agree_refl _ _) fr, c0.up (by simp [up]) (fun _ _ _ => rfl) (Nat.le_refl _), d0.up fr (by simp [up]) (agree_refl _ _)⟩
  | false =>
    have hp : compP v.sc (vars v.q.items) v.t = ⟨[], []⟩ := by simp [compP, hr]
    have he : evalV v.sc (vars v.q.items) v.en v.t = unk := by simp [evalV, hr]
    rw [hp] at o9
    rw [he] at b10
    obtain ⟨da, db, hz, z1, z2⟩ := dePr_out o9.rd
    obtain ⟨rfl, rfl⟩ : ca = da ∧ cl = db := by injection hz with hz; injection hz with h1 h2; injection h2 with h2 _; exact ⟨h1, h2⟩
    obtain ⟨u1, u2, u3, u4, u5⟩ := sl_is z1
    obtain ⟨v1, v2, v3, v4, v5⟩ := sl_is z2
    simp only [List.length_nil] at u2 v2
    simp [evs, aeval, cx_ti, cx_G, cx_pf, ti, globS, glob, ldcs_1, ldcs_2, ldcs_3, ldcs_4, ldcs_5, ldcs_7, sls.eq_1, slc.eq_1, pfL, hdC, tlC, Tryd.f8, q2, q5, b5, s3, o5, o5', o5'', q9, b9, q10, b10, u1, u2, u3, u4, v1, v2, v3, v4, tbl8, G57, pureH, hde, hok, hr, bv, unk]
theorem law8f (w : W8 v) (hb : beyondV v.en.ls = false) (p hi : Nat) (e : Nat → AV) (h' : Heap) (n' : Nat) (b : A8 v ⟨e, h', n'⟩) (c : HasP ⟨e, h', n'⟩ 9 p hi (compP v.sc (vars v.q.items) v.t)) (d : HasV ⟨e, h', n'⟩ 10 (evalV v.sc (vars v.q.items) v.en v.t)) (hr : runT (vars v.q.items) v.t = true) :
    awp (cx S8 (pfL tbl8)) (tlC 6 (Tryd.f8.body.getD .skip)) (finQ (cx S8 (pfL tbl8)) Tryd.f8 fun z _ _ => z = bv true) ⟨e, h', n'⟩ := by
  obtain ⟨_, _, _, ⟨m7, a7, q7, b7, r7⟩, fr⟩ := b
  obtain ⟨m9, ca, cl, q9, j1, j2, j3, b9, o9⟩ := c
  obtain ⟨m10, q10, b10⟩ := d
  simp only [] at q7 b7 r7 fr j3 q9 b9 o9 q10 b10
  have o7 := (sl_is r7).2.2.2.1
  obtain ⟨da, db, hz, z1, z2⟩ := dePr_out o9.rd
  obtain ⟨rfl, rfl⟩ : ca = da ∧ cl = db := by injection hz with hz; injection hz with h1 h2; injection h2 with h2 _; exact ⟨h1, h2⟩
  obtain ⟨u1, u2, u3, u4, u5⟩ := sl_is z1
  obtain ⟨v1, v2, v3, v4, v5⟩ := sl_is z2
  have hrun := run_comp (sc := v.sc) (en := v.en) hr
  have hde : deR h' [.g [ca, cl], .g [a7, .v (.int .i64 v.en.each), .v (.int .i64 v.en.pos)]] = some (compP v.sc (vars v.q.items) v.t, v.en) := by
    simp only [deR, dePr_in z1 z2, deEn_has r7]
  have hok : okR (compP v.sc (vars v.q.items) v.t, v.en) := ⟨w.pr, (w.eq hb).en⟩
  have hlen : 0 < (compP v.sc (vars v.q.items) v.t).code.length := by
    rw [compP, if_pos hr]
    have T := tre_of (show tree1 v.t = true by simp only [runT, Bool.and_eq_true] at hr; exact hr.1)
    simp only [codeT, lay_len]
    have := pos_lt (t := v.t) (k := 0) (n := v.t.length) T.pos
    omega
  have y10 : ¬ m10 = n' := by have := lt_of b10 fr; omega
  have y9 : ¬ m9 = n' := by omega
  generalize compP v.sc (vars v.q.items) v.t = P at *
  generalize evalV v.sc (vars v.q.items) v.en v.t = y at *
  simp [evs, aeval, cx_ti, cx_G, cx_pf, ti, globS, glob, ldcs_1, ldcs_2, ldcs_3, ldcs_4, ldcs_5, ldcs_7, sls.eq_1, slc.eq_1, pfL, tlC, Tryd.f8, q7, b7, o7, q9, b9, q10, b10, u1, u2, u3, u4, v1, v2, v3, v4, tbl8, G29, pureH, hde, hok, hrun, runA, vv, hlen, y9, y10, bv]
theorem law8 (e1 : rd dTys h sa = some v.sc) (e2 : rd dIts h qa = some v.q.items) (e3 : rd dNs h qb = some v.q.wh) (e4 : rd dNss h qc = some v.q.ret) (e5 : rd dNs h ta = some v.t) (e6 : rd dEss h la = some v.en.ls) (w : W8 v) (hn : Fresh n h) :
    awp (cx S8 (pfL tbl8)) (Tryd.f8.body.getD .skip) (finQ (cx S8 (pfL tbl8)) Tryd.f8 fun z _ _ => z = bv true) ⟨env0 [.g [sa], .g [qa, .v (.int .i64 v.q.mode), .v (.int .i64 v.q.after), qb, .v (.int .i64 v.q.within), .v (.string v.q.par), qc], ta, .g [la, .v (.int .i64 v.en.each), .v (.int .i64 v.en.pos)]], roH h, n⟩ := by
  refine awp_cut 2 _ _ (law8a e1 e2 e3 e4 e5 e6 w hn _ rfl rfl rfl rfl) fun x1 h1 n1 ⟨b1, hb⟩ => ?_
  refine awp_cut 1 _ _ (law8b x1 h1 n1 b1) fun x2 h2 n2 b2 => ?_
  refine awp_cut 1 _ _ (law8c w x2 h2 n2 b2) fun x3 h3 n3 ⟨b3, c3⟩ => ?_
  refine awp_cut 1 _ _ (law8d w hb n2 n3 x3 h3 n3 b3 c3) fun x4 h4 n4 ⟨b4, c4, d4⟩ => ?_
  refine awp_cut 1 _ _ (law8e w n2 n3 x4 h4 n4 b4 c4 d4) fun x5 h5 n5 ⟨b5, c5, d5, hr⟩ => ?_
  exact law8f w hb n2 n3 x5 h5 n5 b5 c5 d5 hr
end
end Go.Proofs.YtkfphaphiikloaaDoor
