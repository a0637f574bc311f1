/-
  THE PROGRAMS OF CONDITIONS, PART J: how many events there are; lists that are the same.
-/
import Derived.Test.YtkfphaphiikloaaDoorX16
import Derived.Test.YtkfphaphiikloaaDoorX36
import Derived.Test.YtkfphaphiikloaaDoorX35
import Derived.Test.YtkfphaphiikloaaDoorX24
set_option linter.unusedSimpArgs false
set_option linter.unusedVariables false
set_option linter.constructorNameAsVariable false
namespace Go.Proofs.YtkfphaphiikloaaDoor
open Go Go.Eng

def sumTo (ll : List (List Ev)) (j : Nat) : Nat := ((ll.take j).map List.length).sum
theorem sumTo_succ {ll : List (List Ev)} {j : Nat} (h : j < ll.length) : sumTo ll (j + 1) = sumTo ll j + ll[j].length := by
  unfold sumTo
  rw [List.take_add_one, List.getElem?_eq_getElem h, List.map_append, List.sum_append]
  simp only [Option.toList_some, List.map_cons, List.map_nil, List.sum_cons, List.sum_nil, Nat.add_zero]
theorem sumTo_mono (ll : List (List Ev)) : ∀ {i j : Nat}, i ≤ j → sumTo ll i ≤ sumTo ll j := fun {i j} h => by
  induction h with
  | refl => exact Nat.le_refl _
  | @step m _ ih =>
    by_cases hm : m < ll.length
    · have := sumTo_succ hm
      simp only [Nat.succ_eq_add_one]
      omega
    · have e : ll.take (m + 1) = ll.take m := by rw [List.take_of_length_le (by omega), List.take_of_length_le (by omega)]
      simp only [Nat.succ_eq_add_one, sumTo, e] at ih ⊢
      exact ih
def beyondV (ll : List (List Ev)) : Bool := decide (2147483647 < sumTo ll ll.length)
theorem beyond_len {ll : List (List Ev)} (h : beyondV ll = false) : ∀ l ∈ ll, l.length ≤ 2147483647 := fun l hl => by
  obtain ⟨i, hi, rfl⟩ := List.getElem_of_mem hl
  have h1 := sumTo_succ hi
  have h2 := sumTo_mono ll (i := i + 1) (j := ll.length) (by omega)
  have h3 : ¬ 2147483647 < sumTo ll ll.length := by simpa [beyondV] using h
  omega
def deLL (h : Heap) : List AV → Option (List (List Ev))
  | [a] => rd dEss h a
  | _ => none
theorem deLL_out {h : Heap} {args : List AV} {q : List (List Ev)} (e : deLL h args = some q) : ∃ a, args = [a] ∧ rd dEss h a = some q := by
  unfold deLL at e
  split at e
  · exact ⟨_, rfl, e⟩
  · cases e
theorem deLL_mono (h h' : Heap) (args : List AV) (q : List (List Ev)) (hh : h.le h') (e : deLL h args = some q) : deLL h' args = some q := by
  obtain ⟨a, rfl, e1⟩ := deLL_out e
  simp only [deLL, rd_mono hh e1]
def G27 := pureH deLL (fun ll => ll.length < big ∧ ∀ l ∈ ll, l.length < big) fun ll => bv (beyondV ll)
set_option maxRecDepth 100000 in
set_option maxHeartbeats 1000000 in
theorem P27 : P0 [] 27 G27 := by
  refine mkH 1 (S := []) (l := []) tb_nil Tryd.func27 rfl (by kernel_rfl) deLL_mono (fun h l x e => by obtain ⟨a, rfl, _⟩ := deLL_out e; exact Nat.le_refl _) (fun a => rfl) (fun args ll h n e hp hn => ?_)
  obtain ⟨a, rfl, e1⟩ := deLL_out e
  obtain ⟨s1, s2, s3, s4, s5⟩ := sl_is e1
  have key : ∀ e : Nat → AV, e 0 = a → awp (cx [] (pfL [])) (Tryd.f27.body.getD .skip) (finQ (cx [] (pfL [])) Tryd.f27 fun z _ _ => z = bv (beyondV ll)) ⟨e, roH h, n⟩ := fun e q0 => by
    simp [evs, aeval, binS, cx_ti, cx_G, cx_pf, cx_tw, ti, globS, glob, ldcs_1, ldcs_2, ldcs_3, ldcs_4, ldcs_5, ldcs_7, sls.eq_1, slc.eq_1, pfL, Tryd.f27, q0]
    refine awp_loop (fun s => ∃ j, j ≤ ll.length ∧ s.e 0 = a ∧ s.e 3 = ii (sumTo ll j) ∧ s.e 4 = ii j ∧ s.h = roH h ∧ sumTo ll j ≤ 2147483647) (fun s => ll.length - (s.e 4).i.toNat) ⟨0, by simp [up, q0, ii, sumTo]⟩ ?_
    rintro e' h' n' ⟨j, hj, q0, q3, q4, hh, hs⟩
    simp only [] at q0 q3 q4 hh
    subst hh
    by_cases hlt : j < ll.length
    · rcases sls_at e1 with ⟨h0, _⟩ | ⟨id, off, k, rfl, hk, ho, hat⟩
      · rw [h0] at hlt; simp at hlt
      obtain ⟨c, hc, hcr⟩ := hat j hlt
      obtain ⟨u1, u2, u3, u4, u5⟩ := sl_is hcr
      have hro := ro_at hk
      have hw := wrap_nat (j := j) (by have := hp.1; omega)
      have hw1 : off + (j + 1) ≤ k.cells.length := by omega
      have hss := sumTo_succ hlt
      have hsub : IntKind.i64.wrap (2147483647 - (sumTo ll j : Int)) = 2147483647 - sumTo ll j := W_id (by unfold Rng; omega)
      have hll := hp.2 _ (List.getElem_mem hlt)
      unfold big at hll
      have hmon := sumTo_mono ll (i := j + 1) (j := ll.length) (by omega)
      by_cases hgt : (2147483647 - (sumTo ll j : Int)) < ll[j].length
      · have hb : beyondV ll = true := by simp only [beyondV, decide_eq_true_eq]; omega
        simp [evs, aeval, binS, cx_ti, cx_G, cx_pf, cx_tw, ti, globS, glob, ldcs_1, ldcs_2, ldcs_3, ldcs_4, ldcs_5, ldcs_7, sls.eq_1, slc.eq_1, pfL, q0, q3, q4, ii, bv, hlt, hro, hc, hw1, u1, u2, u3, hsub, hgt, hb]
      · have hadd : IntKind.i64.wrap ((sumTo ll j : Int) + ll[j].length) = sumTo ll j + ll[j].length := W_id (by unfold Rng; omega)
        simp [evs, aeval, binS, cx_ti, cx_G, cx_pf, cx_tw, ti, globS, glob, ldcs_1, ldcs_2, ldcs_3, ldcs_4, ldcs_5, ldcs_7, sls.eq_1, slc.eq_1, pfL, q0, q3, q4, ii, bv, hlt, hro, hc, hw1, u1, u2, u3, hsub, hgt, hadd, hw]
        exact ⟨⟨j + 1, by omega, by omega, by omega, by omega⟩, by omega⟩
    · have hje : j = ll.length := by omega
      subst hje
      have hb : beyondV ll = false := by simp only [beyondV, decide_eq_false_iff_not]; omega
      simp [evs, aeval, binS, cx_ti, cx_G, cx_pf, cx_tw, ti, globS, glob, ldcs_1, ldcs_2, ldcs_3, ldcs_4, ldcs_5, ldcs_7, sls.eq_1, slc.eq_1, pfL, q0, q3, q4, ii, bv, s1, s2, s3, hb]
  exact key _ rfl
def de33 (h : Heap) : List AV → Option (List (List Ev) × List (List Ev))
  | [a, b] => match rd dEss h a, rd dEss h b with
    | some x, some y => some (x, y)
    | _, _ => none
  | _ => none
theorem de33_out {h : Heap} {args : List AV} {q : List (List Ev) × List (List Ev)} (e : de33 h args = some q) : ∃ a b, args = [a, b] ∧ rd dEss h a = some q.1 ∧ rd dEss h b = some q.2 := by
  unfold de33 at e
  split at e
  · split at e
    · rename_i e1 e2
      cases e
      exact ⟨_, _, rfl, e1, e2⟩
    · cases e
  · cases e
theorem de33_mono (h h' : Heap) (args : List AV) (q : List (List Ev) × List (List Ev)) (hh : h.le h') (e : de33 h args = some q) : de33 h' args = some q := by
  obtain ⟨a, b, rfl, e1, e2⟩ := de33_out e
  simp only [de33, rd_mono hh e1, rd_mono hh e2]
/-- Two lists of lists that are the same. -/
def G33 := pureH de33 (fun q => q.1 = q.2 ∧ q.1.length < big ∧ ∀ l ∈ q.1, l.length < big) fun _ => bv true
set_option maxRecDepth 100000 in
set_option maxHeartbeats 1000000 in
theorem P33 : P0 [] 33 G33 := by
  refine mkH 2 (S := []) (l := []) tb_nil Tryd.func33 rfl (by kernel_rfl) de33_mono (fun h l x e => by obtain ⟨a, b, rfl, _⟩ := de33_out e; exact Nat.le_refl _) (fun a => rfl) (fun args q h n e hp hn => ?_)
  obtain ⟨ll, l2⟩ := q
  obtain ⟨a, b, rfl, e1, e2⟩ := de33_out e
  obtain ⟨heq, hb1, hb2⟩ := hp
  simp only [] at e1 e2 heq hb1 hb2
  subst heq
  obtain ⟨s1, s2, s3, s4, s5⟩ := sl_is e1
  obtain ⟨t1, t2, t3, t4, t5⟩ := sl_is e2
  have key : ∀ e : Nat → AV, e 0 = a → e 1 = b → awp (cx [] (pfL [])) (Tryd.f33.body.getD .skip) (finQ (cx [] (pfL [])) Tryd.f33 fun z _ _ => z = bv true) ⟨e, roH h, n⟩ := fun e q0 q1 => by
    simp [evs, aeval, binS, cx_ti, cx_G, cx_pf, cx_tw, ti, globS, glob, ldcs_1, ldcs_2, ldcs_3, ldcs_4, ldcs_5, ldcs_7, sls.eq_1, slc.eq_1, pfL, Tryd.f33, q0, q1, s1, s2, s3, t1, t2, t3]
    refine awp_loop (fun s => ∃ j, j ≤ ll.length ∧ s.e 0 = a ∧ s.e 1 = b ∧ s.e 5 = ii j ∧ s.h = roH h) (fun s => ll.length - (s.e 5).i.toNat) ⟨0, by simp [up, q0, q1, ii]⟩ ?_
    rintro e' h' n' ⟨j, hj, q0, q1, q5, hh⟩
    simp only [] at q0 q1 q5 hh
    subst hh
    by_cases hlt : j < ll.length
    · rcases sls_at e1 with ⟨h0, _⟩ | ⟨id, off, k, rfl, hk, ho, hat⟩
      · rw [h0] at hlt; simp at hlt
      rcases sls_at e2 with ⟨h0, _⟩ | ⟨id2, off2, k2, rfl, hk2, ho2, hat2⟩
      · rw [h0] at hlt; simp at hlt
      obtain ⟨c, hc, hcr⟩ := hat j hlt
      obtain ⟨c2, hc2, hcr2⟩ := hat2 j hlt
      obtain ⟨u1, u2, u3, u4, u5⟩ := sl_is hcr
      obtain ⟨v1, v2, v3, v4, v5⟩ := sl_is hcr2
      have hro := ro_at hk
      have hro2 := ro_at hk2
      have hw := wrap_nat (j := j) (by omega)
      have hw1 : off + (j + 1) ≤ k.cells.length := by omega
      have hw2 : off2 + (j + 1) ≤ k2.cells.length := by omega
      have hll := hb2 _ (List.getElem_mem hlt)
      simp [evs, aeval, binS, cx_ti, cx_G, cx_pf, cx_tw, ti, globS, glob, ldcs_1, ldcs_2, ldcs_3, ldcs_4, ldcs_5, ldcs_7, sls.eq_1, slc.eq_1, pfL, q0, q1, q5, ii, hlt, hro, hro2, hc, hc2, hw1, hw2, u1, u2, u3, v1, v2, v3]
      refine awp_loop (fun s => ∃ m, m ≤ ll[j].length ∧ s.e 0 = .s id k.ver off ll.length ∧ s.e 1 = .s id2 k2.ver off2 ll.length ∧ s.e 5 = ii j ∧ s.e 6 = ii m ∧ s.h = roH h) (fun s => ll[j].length - (s.e 6).i.toNat) ⟨0, by simp [up, q0, q1, q5, ii]⟩ ?_
      rintro e2' h2' n2' ⟨m, hm, q0, q1, q5, q6, hh⟩
      simp only [] at q0 q1 q5 q6 hh
      subst hh
      by_cases hmt : m < ll[j].length
      · rcases es_at hcr with ⟨h0, _⟩ | ⟨i3, o3, k3, rfl, hk3, ho3, hat3⟩
        · rw [h0] at hmt; simp at hmt
        rcases es_at hcr2 with ⟨h0, _⟩ | ⟨i4, o4, k4, rfl, hk4, ho4, hat4⟩
        · rw [h0] at hmt; simp at hmt
        have hro3 := ro_at hk3
        have hro4 := ro_at hk4
        have hle3 : ∀ (X : Ctx) (h' : Heap), h' i3 = some ⟨k3.cells, k3.ver, false, k3.esz⟩ → ldcs X h' (.p i3 k3.ver (o3 + m * 11)) 0 11 = ecells ll[j][m] := fun X h' e => ldcs_ev e (hat3 m hmt)
        have hle4 : ∀ (X : Ctx) (h' : Heap), h' i4 = some ⟨k4.cells, k4.ver, false, k4.esz⟩ → ldcs X h' (.p i4 k4.ver (o4 + m * 11)) 0 11 = ecells ll[j][m] := fun X h' e => ldcs_ev e (hat4 m hmt)
        have hw3 : o3 + (m * 11 + 11) ≤ k3.cells.length := by omega
        have hw4 : o4 + (m * 11 + 11) ≤ k4.cells.length := by omega
        have hwm := wrap_nat (j := m) (by omega)
        simp [evs, aeval, binS, cx_ti, cx_G, cx_pf, cx_tw, ti, globS, glob, ldcs_1, ldcs_2, ldcs_3, ldcs_4, ldcs_5, ldcs_7, sls.eq_1, slc.eq_1, pfL, q0, q1, q5, q6, ii, uu, hlt, hmt, hro, hro2, hro3, hro4, hc, hc2, hw1, hw2, hw3, hw4, u1, u2, u3, v1, v2, v3, hle3, hle4, ecells, hwm]
        exact ⟨⟨m + 1, by omega, by omega⟩, by omega⟩
      · have hme : m = ll[j].length := by omega
        subst hme
        simp [evs, aeval, binS, cx_ti, cx_G, cx_pf, cx_tw, ti, globS, glob, ldcs_1, ldcs_2, ldcs_3, ldcs_4, ldcs_5, ldcs_7, sls.eq_1, slc.eq_1, pfL, q0, q1, q5, q6, ii, hlt, hro, hro2, hc, hc2, hw1, hw2, u1, u2, u3, v1, v2, v3, hw]
        exact ⟨⟨j + 1, by omega, by omega⟩, by omega⟩
    · have hje : j = ll.length := by omega
      subst hje
      simp [evs, aeval, binS, cx_ti, cx_G, cx_pf, cx_tw, ti, globS, glob, ldcs_1, ldcs_2, ldcs_3, ldcs_4, ldcs_5, ldcs_7, sls.eq_1, slc.eq_1, pfL, q0, q1, q5, ii, bv, s1, s2, s3]
  exact key _ rfl rfl
end Go.Proofs.YtkfphaphiikloaaDoor

namespace Go.Proofs.YtkfphaphiikloaaDoor
open Go Go.Eng

def de21 (h : Heap) : List AV → Option (Pr × Pr)
  | [a, b] => match dePr h a, dePr h b with
    | some x, some y => some (x, y)
    | _, _ => none
  | _ => none
theorem de21_out {h : Heap} {args : List AV} {q : Pr × Pr} (e : de21 h args = some q) : ∃ a b, args = [a, b] ∧ dePr h a = some q.1 ∧ dePr h b = some q.2 := by
  unfold de21 at e
  split at e
  · split at e
    · rename_i e1 e2
      cases e
      exact ⟨_, _, rfl, e1, e2⟩
    · cases e
  · cases e
theorem de21_mono (h h' : Heap) (args : List AV) (q : Pr × Pr) (hh : h.le h') (e : de21 h args = some q) : de21 h' args = some q := by
  obtain ⟨a, b, rfl, e1, e2⟩ := de21_out e
  simp only [de21, dePr_sim hh.sim e1, dePr_sim hh.sim e2]
/-- Two programs that are the same. -/
def G21 := pureH de21 (fun q => q.1 = q.2 ∧ q.1.code.length < big ∧ q.1.cols.length < big ∧ ∀ l ∈ q.1.cols, l.length < big) fun _ => bv true
set_option maxRecDepth 100000 in
set_option maxHeartbeats 2000000 in
theorem P21 : P0 [] 21 G21 := by
  refine mkH 2 (S := []) (l := []) tb_nil Tryd.func21 rfl (by kernel_rfl) de21_mono (fun h l x e => by obtain ⟨a, b, rfl, _⟩ := de21_out e; exact Nat.le_refl _) (fun a => rfl) (fun args q h n e hp hn => ?_)
  obtain ⟨p, p2⟩ := q
  obtain ⟨x, y, rfl, e1, e2⟩ := de21_out e
  obtain ⟨heq, hb0, hb1, hb2⟩ := hp
  simp only [] at e1 e2 heq hb0 hb1 hb2
  subst heq
  obtain ⟨a, b, rfl, e3, e4⟩ := dePr_out e1
  obtain ⟨a', b', rfl, e5, e6⟩ := dePr_out e2
  obtain ⟨s1, s2, s3, s4, s5⟩ := sl_is e3
  obtain ⟨t1, t2, t3, t4, t5⟩ := sl_is e4
  obtain ⟨p1, p2, p3, p4, p5⟩ := sl_is e5
  obtain ⟨r1, r2, r3, r4, r5⟩ := sl_is e6
  have key : ∀ e : Nat → AV, e 0 = .g [a, b] → e 1 = .g [a', b'] → awp (cx [] (pfL [])) (Tryd.f21.body.getD .skip) (finQ (cx [] (pfL [])) Tryd.f21 fun z _ _ => z = bv true) ⟨e, roH h, n⟩ := fun e q0 q1 => by
    simp [evs, aeval, binS, cx_ti, cx_G, cx_pf, cx_tw, ti, globS, glob, ldcs_1, ldcs_2, ldcs_3, ldcs_4, ldcs_5, ldcs_7, sls.eq_1, slc.eq_1, pfL, Tryd.f21, q0, q1, s1, s2, s3, s4, s5, t1, t2, t3, t4, t5, p1, p2, p3, p4, p5, r1, r2, r3, r4, r5]
    refine awp_loop (fun s => ∃ j, j ≤ p.code.length ∧ s.e 2 = .p n 0 0 ∧ s.e 3 = .p (n + 1) 0 0 ∧ s.e 5 = ii j ∧ agree n (roH h) s.h ∧ s.h n = some ⟨[a, b], 0, true, 2⟩ ∧ s.h (n + 1) = some ⟨[a', b'], 0, true, 2⟩) (fun s => p.code.length - (s.e 5).i.toNat) ⟨0, by simp [up, ii, agree_up, agree_refl]⟩ ?_
    rintro e' h' n' ⟨j, hj, q2, q3, q5, hag, hx, hy⟩
    simp only [] at q2 q3 q5 hag hx hy
    by_cases hlt : j < p.code.length
    · rcases ps_at e3 with ⟨h0, _⟩ | ⟨id, off, k, rfl, hk, ho, hat⟩
      · rw [h0] at hlt; simp at hlt
      rcases ps_at e5 with ⟨h0, _⟩ | ⟨id2, off2, k2, rfl, hk2, ho2, hat2⟩
      · rw [h0] at hlt; simp at hlt
      obtain ⟨c0, c1, c2, c3, c4⟩ := ins_at (hat j hlt)
      obtain ⟨d0, d1, d2, d3, d4⟩ := ins_at (hat2 j hlt)
      rw [Nat.add_assoc] at c1 c2 c3 c4 d1 d2 d3 d4
      have hro := agree_at hn hk hag
      have hro2 := agree_at hn hk2 hag
      have hw := wrap_nat (j := j) (by omega)
      have hw1 : off + (j * 5 + 5) ≤ k.cells.length := by omega
      have hw2 : off2 + (j * 5 + 5) ≤ k2.cells.length := by omega
      simp [evs, aeval, binS, cx_ti, cx_G, cx_pf, cx_tw, ti, globS, glob, ldcs_1, ldcs_2, ldcs_3, ldcs_4, ldcs_5, ldcs_7, sls.eq_1, slc.eq_1, pfL, q2, q3, q5, hx, hy, ii, hlt, hro, hro2, c0, c1, c2, c3, c4, d0, d1, d2, d3, d4, hw1, hw2, hw]
      exact ⟨⟨j + 1, by omega, by omega, hag⟩, by omega⟩
    · have hje : j = p.code.length := by omega
      subst hje
      simp [evs, aeval, binS, cx_ti, cx_G, cx_pf, cx_tw, ti, globS, glob, ldcs_1, ldcs_2, ldcs_3, ldcs_4, ldcs_5, ldcs_7, sls.eq_1, slc.eq_1, pfL, q2, q3, q5, hx, hy, ii, s1, s2, s3]
      refine awp_loop (fun s => ∃ j, j ≤ p.cols.length ∧ s.e 2 = .p n 0 0 ∧ s.e 3 = .p (n + 1) 0 0 ∧ s.e 6 = ii j ∧ s.h = h') (fun s => p.cols.length - (s.e 6).i.toNat) ⟨0, by simp [up, ii, q2, q3]⟩ ?_
      rintro e2' h2' n2' ⟨j, hj, q2, q3, q6, hh⟩
      simp only [] at q2 q3 q6 hh
      subst hh
      by_cases hlt : j < p.cols.length
      · rcases sls_at e4 with ⟨h0, _⟩ | ⟨id, off, k, rfl, hk, ho, hat⟩
        · rw [h0] at hlt; simp at hlt
        rcases sls_at e6 with ⟨h0, _⟩ | ⟨id2, off2, k2, rfl, hk2, ho2, hat2⟩
        · rw [h0] at hlt; simp at hlt
        obtain ⟨c, hc, hcr⟩ := hat j hlt
        obtain ⟨c2, hc2, hcr2⟩ := hat2 j hlt
        obtain ⟨u1, u2, u3, u4, u5⟩ := sl_is hcr
        obtain ⟨v1, v2, v3, v4, v5⟩ := sl_is hcr2
        have hro := agree_at hn hk hag
        have hro2 := agree_at hn hk2 hag
        have hw := wrap_nat (j := j) (by omega)
        have hw1 : off + (j + 1) ≤ k.cells.length := by omega
        have hw2 : off2 + (j + 1) ≤ k2.cells.length := by omega
        have hll := hb2 _ (List.getElem_mem hlt)
        simp [evs, aeval, binS, cx_ti, cx_G, cx_pf, cx_tw, ti, globS, glob, ldcs_1, ldcs_2, ldcs_3, ldcs_4, ldcs_5, ldcs_7, sls.eq_1, slc.eq_1, pfL, q2, q3, q6, hx, hy, ii, hlt, hro, hro2, hc, hc2, hw1, hw2, u1, u2, u3, v1, v2, v3]
        refine awp_loop (fun s => ∃ m, m ≤ p.cols[j].length ∧ s.e 2 = .p n 0 0 ∧ s.e 3 = .p (n + 1) 0 0 ∧ s.e 6 = ii j ∧ s.e 7 = ii m ∧ s.h = h2') (fun s => p.cols[j].length - (s.e 7).i.toNat) ⟨0, by simp [up, q2, q3, q6, ii]⟩ ?_
        rintro e3' h3' n3' ⟨m, hm, q2, q3, q6, q7, hh⟩
        simp only [] at q2 q3 q6 q7 hh
        subst hh
        by_cases hmt : m < p.cols[j].length
        · rcases is_at hcr with ⟨h0, _⟩ | ⟨i3, o3, k3, rfl, hk3, ho3, hat3⟩
          · rw [h0] at hmt; simp at hmt
          rcases is_at hcr2 with ⟨h0, _⟩ | ⟨i4, o4, k4, rfl, hk4, ho4, hat4⟩
          · rw [h0] at hmt; simp at hmt
          have hro3 := agree_at hn hk3 hag
          have hro4 := agree_at hn hk4 hag
          have g3 := hat3 m hmt
          have g4 := hat4 m hmt
          have hw3 : o3 + (m + 1) ≤ k3.cells.length := by omega
          have hw4 : o4 + (m + 1) ≤ k4.cells.length := by omega
          have hwm := wrap_nat (j := m) (by omega)
          simp [evs, aeval, binS, cx_ti, cx_G, cx_pf, cx_tw, ti, globS, glob, ldcs_1, ldcs_2, ldcs_3, ldcs_4, ldcs_5, ldcs_7, sls.eq_1, slc.eq_1, pfL, q2, q3, q6, q7, hx, hy, ii, hlt, hmt, hro, hro2, hro3, hro4, hc, hc2, hw1, hw2, hw3, hw4, u1, u2, u3, v1, v2, v3, g3, g4, hwm]
          exact ⟨⟨m + 1, by omega, by omega⟩, by omega⟩
        · have hme : m = p.cols[j].length := by omega
          subst hme
          simp [evs, aeval, binS, cx_ti, cx_G, cx_pf, cx_tw, ti, globS, glob, ldcs_1, ldcs_2, ldcs_3, ldcs_4, ldcs_5, ldcs_7, sls.eq_1, slc.eq_1, pfL, q2, q3, q6, q7, hx, hy, ii, hlt, hro, hro2, hc, hc2, hw1, hw2, u1, u2, u3, v1, v2, v3, hw]
          exact ⟨⟨j + 1, by omega, by omega⟩, by omega⟩
      · have hje : j = p.cols.length := by omega
        subst hje
        simp [evs, aeval, binS, cx_ti, cx_G, cx_pf, cx_tw, ti, globS, glob, ldcs_1, ldcs_2, ldcs_3, ldcs_4, ldcs_5, ldcs_7, sls.eq_1, slc.eq_1, pfL, q2, q3, q6, hx, hy, ii, bv, t1, t2, t3]
  exact key _ rfl rfl
end Go.Proofs.YtkfphaphiikloaaDoor

/-
  THE LAWS WITHOUT THE DOCUMENT: what they are handed, and programs in cells.
-/
namespace Go.Proofs.YtkfphaphiikloaaDoor
open Go Go.Eng

def S8 : List Nat := [0, 1, 2, 3, 4, 5, 6, 7]
/-- Arguments of a size that a machine holds. -/
structure W8 (v : Eq38) : Prop where
  s1 : v.sc.length * 40 ≤ 140737488355328
  s2 : ∀ t ∈ v.sc, t.attrs.length * 16 ≤ 140737488355328
  q1 : v.q.items.length * 64 ≤ 140737488355328
  q2 : smallT v.q.wh
  q3 : v.q.ret.length < big
  q4 : ∀ t ∈ v.q.ret, smallT t
  t1 : v.t.length * 64 ≤ 140737488355328
  t2 : ∀ x ∈ v.t, Rng x.n
  e1 : v.en.ls.length * 24 ≤ 140737488355328
  e2 : ∀ l ∈ v.en.ls, l.length * 88 ≤ 140737488355328
  e3 : ∀ l ∈ v.en.ls, ∀ x ∈ l, EvOk x
  e4 : Rng v.en.pos
theorem W8.eq {v : Eq38} (w : W8 v) (hb : beyondV v.en.ls = false) : EqOk v :=
  ⟨⟨by have := w.s1; unfold big; omega, fun t ht => by have := w.s2 t ht; unfold big; omega⟩, by have := w.q1; unfold big; omega, w.t1, w.t2, ⟨beyond_len hb, w.e3, w.e4⟩⟩
theorem W8.it {v : Eq38} (w : W8 v) : v.q.items.length < big := by have := w.q1; unfold big; omega
theorem W8.tl {v : Eq38} (w : W8 v) : v.sc.length * 8 ≤ 140737488355328 := by have := w.s1; omega
theorem W8.pr {v : Eq38} (w : W8 v) : PrOk (compP v.sc (vars v.q.items) v.t) := comp_ok (by have := w.it; simpa [vars] using this) w.t1 w.tl w.t2
theorem W8.w1 {v : Eq38} (w : W8 v) : v.en.ls.length < big := by have := w.e1; unfold big; omega
theorem W8.w2 {v : Eq38} (w : W8 v) : ∀ l ∈ v.en.ls, l.length < big := fun l hl => by have := w.e2 l hl; unfold big; omega
/-- What was handed in. -/
structure A8 (v : Eq38) (s : St) : Prop where
  at2 : rd dNs s.h (s.e 2) = some v.t
  as4 : HasS s.h (s.e 4) v.sc
  aq5 : HasQ s.h (s.e 5) v.q
  ae7 : HasE s.h (s.e 7) v.en
  frs : Fresh s.n s.h
theorem A8.up {v : Eq38} {s s' : St} (a : A8 v s) (he : ∀ i ∈ [2, 4, 5, 7], s'.e i = s.e i) (ha : agree s.n s.h s'.h) (hf : Fresh s'.n s'.h) : A8 v s' :=
  ⟨by rw [he 2 (by simp)]; exact rd_agr a.frs a.at2 _ ha, by rw [he 4 (by simp)]; exact a.as4.up a.frs ha, by rw [he 5 (by simp)]; exact a.aq5.up a.frs ha, by rw [he 7 (by simp)]; exact a.ae7.up a.frs ha, hf⟩
/-- A value in a cell. -/
def HasV (s : St) (i : Nat) (x : V) : Prop := ∃ m, s.e i = .p m 0 0 ∧ s.h m = some ⟨[.v (.bool x.k), .v (.int .i64 x.n)], 0, true, 2⟩
theorem HasV.up {s s' : St} {i n : Nat} {x : V} (a : HasV s i x) (hn : Fresh n s.h) (he : s'.e i = s.e i) (ha : agree n s.h s'.h) : HasV s' i x := by
  obtain ⟨m, h1, h2⟩ := a
  exact ⟨m, he.trans h1, by rw [ha m (lt_of h2 hn)]; exact h2⟩
end Go.Proofs.YtkfphaphiikloaaDoor

/-
  CodeFrame, PART G: what the law is handed; lists of lists that stand elsewhere.
-/
namespace Go.Proofs.YtkfphaphiikloaaDoor
open Go Go.Eng

structure Eq11 where
  v : Eq38
  ot : List (List Ev)
structure W11 (v : Eq11) : Prop where
  w : W8 v.v
  o1 : v.ot.length * 24 ≤ 140737488355328
  o2 : ∀ l ∈ v.ot, l.length * 88 ≤ 140737488355328
  o3 : ∀ l ∈ v.ot, ∀ x ∈ l, EvOk x
def bareOf (v : Eq11) : List Int := usesL bareO (vars v.v.q.items) v.v.t
def aggOf (v : Eq11) : List Int := usesL aggO (vars v.v.q.items) v.v.t
theorem uses_len (p : Int → Bool) (vs : List ByteArray) (t : List Nd) : (usesL p vs t).length ≤ vs.length := by
  refine Nat.le_trans (List.length_filter_le _ _) (by simp)
theorem W11.u1 {v : Eq11} (w : W11 v) : (bareOf v).length < big := by
  have h1 := uses_len bareO (vars v.v.q.items) v.v.t
  have h2 := w.w.it
  have h3 : (vars v.v.q.items).length = v.v.q.items.length := by simp [vars]
  unfold bareOf; omega
theorem W11.u3 {v : Eq11} (w : W11 v) : (aggOf v).length < big := by
  have h1 := uses_len aggO (vars v.v.q.items) v.v.t
  have h2 := w.w.it
  have h3 : (vars v.v.q.items).length = v.v.q.items.length := by simp [vars]
  unfold aggOf; omega
/-- What was handed in. -/
structure A11 (v : Eq11) (s : St) : Prop where
  at2 : rd dNs s.h (s.e 2) = some v.v.t
  ao4 : rd dEss s.h (s.e 4) = some v.ot
  as5 : HasS s.h (s.e 5) v.v.sc
  aq6 : HasQ s.h (s.e 6) v.v.q
  ae8 : HasE s.h (s.e 8) v.v.en
  frs : Fresh s.n s.h
theorem A11.up {v : Eq11} {s s' : St} (a : A11 v s) (he : ∀ i ∈ [2, 4, 5, 6, 8], s'.e i = s.e i) (ha : agree s.n s.h s'.h) (hf : Fresh s'.n s'.h) : A11 v s' :=
  ⟨by rw [he 2 (by simp)]; exact rd_agr a.frs a.at2 _ ha, by rw [he 4 (by simp)]; exact rd_agr a.frs a.ao4 _ ha, by rw [he 5 (by simp)]; exact a.as5.up a.frs ha, by rw [he 6 (by simp)]; exact a.aq6.up a.frs ha, by rw [he 8 (by simp)]; exact a.ae8.up a.frs ha, hf⟩
/-- What the tree mentions, in a cell. -/
def HasU (v : Eq11) (s : St) : Prop := ∃ m a1 a2 a3, s.e 11 = .p m 0 0 ∧ s.h m = some ⟨[a1, a2, a3], 0, true, 3⟩ ∧ rd dIs s.h a1 = some (bareOf v) ∧ rd dIs s.h a3 = some (aggOf v)
theorem HasU.up {v : Eq11} {s s' : St} {n : Nat} (a : HasU v s) (hn : Fresh n s.h) (he : s'.e 11 = s.e 11) (ha : agree n s.h s'.h) : HasU v s' := by
  obtain ⟨m, a1, a2, a3, h1, h2, h3, h4⟩ := a
  exact ⟨m, a1, a2, a3, he.trans h1, by rw [ha m (lt_of h2 hn)]; exact h2, rd_agr hn h3 _ ha, rd_agr hn h4 _ ha⟩
/-- A list of lists in a block of its own; its lists stand in the memory hB. -/
def ELs (hB h : Heap) (nB n : Nat) (z : AV) (l : List (List Ev)) : Prop :=
  (l = [] ∧ z = .v (.slice none 0 0)) ∨ ∃ w u cs, z = .s w u 0 l.length ∧ h w = some ⟨cs, u, true, 1⟩ ∧ nB ≤ w ∧ w < n ∧ cs.length = l.length ∧ ∀ i (hi : i < l.length), ∃ c, cs[i]? = some c ∧ rd dEs hB c = some l[i]
theorem ELs.rd {hB h : Heap} {nB n : Nat} {z : AV} {l : List (List Ev)} (k : ELs hB h nB n z l) (ha : agree nB hB h) (hf : Fresh nB hB) : rd dEss h z = some l := by
  rcases k with ⟨rfl, rfl⟩ | ⟨w, u, cs, rfl, hw, _, _, hl, hat⟩
  · rfl
  · refine De.sl_in (off := 0) (k := ⟨cs, u, true, 1⟩) hw (by simp only []; omega) fun i hi => ?_
    obtain ⟨c, h1, h2⟩ := hat i hi
    have : (cs.drop (0 + i * 1)).take 1 = [c] := by
      rw [Nat.zero_add, Nat.mul_one]
      have hi2 : i < cs.length := by omega
      rw [List.getElem?_eq_getElem hi2] at h1
      rw [List.drop_eq_getElem_cons hi2, List.take_succ_cons, List.take_zero, Option.some.inj h1]
    rw [show (⟨cs, u, true, 1⟩ : Blk).cells = cs from rfl, this]
    exact rd_agr hf h2 _ ha
theorem ELs.up {hB h h' : Heap} {nB n n' : Nat} {z : AV} {l : List (List Ev)} (k : ELs hB h nB n z l) (hh : agree n h h') (hn : n ≤ n') : ELs hB h' nB n' z l := by
  rcases k with h0 | ⟨w, u, cs, h1, h2, h3, h4, h5, h6⟩
  · exact .inl h0
  · exact .inr ⟨w, u, cs, h1, by rw [hh w h4]; exact h2, h3, by omega, h5, h6⟩
/-- One list more, at its end. -/
theorem els_snoc {hB : Heap} {cs : List AV} {l : List (List Ev)} {c : AV} {x : List Ev} (h1 : cs.length = l.length) (h2 : ∀ i (hi : i < l.length), ∃ c, cs[i]? = some c ∧ rd dEs hB c = some l[i]) (h3 : Go.Proofs.YtkfphaphiikloaaDoor.rd dEs hB c = some x) :
    ∀ i (hi : i < (l ++ [x]).length), ∃ c', (cs ++ [c])[i]? = some c' ∧ rd dEs hB c' = some (l ++ [x])[i] := fun i hi => by
  by_cases h : i < l.length
  · obtain ⟨c', k1, k2⟩ := h2 i h
    exact ⟨c', by rw [List.getElem?_append_left (by omega)]; exact k1, by rw [List.getElem_append_left h]; exact k2⟩
  · have hi' : i = l.length := by simp at hi; omega
    subst hi'
    refine ⟨c, by rw [List.getElem?_append_right (by omega), h1]; simp, ?_⟩
    rw [List.getElem_append_right (Nat.le_refl _)]
    simpa using h3
/-- One list put in. -/
theorem els_set {hB : Heap} {cs : List AV} {l : List (List Ev)} {c : AV} {x : List Ev} {k : Nat} (h1 : cs.length = l.length) (hk : k < l.length) (h2 : ∀ i (hi : i < l.length), ∃ c, cs[i]? = some c ∧ rd dEs hB c = some l[i]) (h3 : Go.Proofs.YtkfphaphiikloaaDoor.rd dEs hB c = some x) :
    ∀ i (hi : i < (l.set k x).length), ∃ c', (cs.set k c)[i]? = some c' ∧ rd dEs hB c' = some (l.set k x)[i] := fun i hi => by
  have hi' : i < l.length := by simpa using hi
  by_cases h : k = i
  · subst h
    exact ⟨c, by rw [List.getElem?_set_self (by omega)], by rw [List.getElem_set_self]; exact h3⟩
  · obtain ⟨c', k1, k2⟩ := h2 i hi'
    exact ⟨c', by rw [List.getElem?_set_ne h]; exact k1, by rw [List.getElem_set_ne h]; exact k2⟩
/-- The first of a list alone. -/
theorem rd_one {h : Heap} {a : AV} {l : List Ev} (e : rd dEs h a = some l) (hl : 1 < l.length) : ∃ id ver off, a = .s id ver off l.length ∧ rd dEs h (.s id ver off 1) = some (l.take 1) := by
  rcases es_at e with ⟨h0, _⟩ | ⟨id, off, k, rfl, hk, ho, hat⟩
  · rw [h0] at hl; simp at hl
  · refine ⟨id, k.ver, off, rfl, ?_⟩
    have h1 : (l.take 1).length = 1 := by simp; omega
    have := De.sl_in (a := dEv) (sz := 11) (off := off) (xs := l.take 1) hk (by rw [h1]; omega) (fun i hi => by
      obtain rfl : i = 0 := by omega
      rw [hat 0 (by omega)]
      have : (l.take 1)[0] = l[0]'(by omega) := by simp
      rw [this]
      exact Flat.ev.inn h _)
    rw [h1] at this
    exact this
/-- What holds of all lists holds of those that stand in their places. -/
theorem frA_mem {P : List Ev → Prop} {bare agg : List Int} {each : Int} {ot ls : List (List Ev)} (h0 : P []) (h1 : ∀ l ∈ ls, P l) (h2 : ∀ l ∈ ls, P (l.take 1)) (h3 : ∀ l ∈ ot, P l) : ∀ l ∈ frA bare agg each ot ls, P l := by
  have go : ∀ i, P (ot.getD i []) := fun i => by
    rw [List.getD_eq_getElem?_getD]
    cases e : ot[i]? with
    | none => exact h0
    | some l => exact h3 l (List.mem_of_getElem? e)
  have gl : ∀ i, P (ls.getD i []) ∧ P ((ls.getD i []).take 1) := fun i => by
    rw [List.getD_eq_getElem?_getD]
    cases e : ls[i]? with
    | none => exact ⟨h0, by simpa using h0⟩
    | some l => exact ⟨h1 l (List.mem_of_getElem? e), h2 l (List.mem_of_getElem? e)⟩
  have gt : ∀ l ∈ frTo bare agg each ot ls ls.length, P l := fun l hl => by
    simp only [frTo, List.mem_map] at hl
    obtain ⟨i, _, rfl⟩ := hl
    unfold frL
    split
    · exact (gl i).1
    · split
      · exact (gl i).2
      · exact go i
  intro l hl
  unfold frA at hl
  split at hl
  · rcases List.mem_or_eq_of_mem_set hl with h | rfl
    · exact gt l h
    · exact go _
  · exact gt l hl
def en11 (v : Eq11) : En := frEn (vars v.v.q.items) v.v.t v.ot v.v.en
theorem W11.en2 {v : Eq11} (w : W11 v) (hb : beyondV v.v.en.ls = false) (hb2 : beyondV v.ot = false) : EnOk (en11 v) := by
  have k1 := beyond_len hb
  have k2 := beyond_len hb2
  refine ⟨?_, ?_, w.w.e4⟩
  · exact frA_mem (P := fun l => l.length ≤ 2147483647) (by simp) k1 (fun l hl => by have := k1 l hl; rw [List.length_take]; omega) k2
  · exact frA_mem (P := fun l => ∀ x ∈ l, EvOk x) (by simp) w.w.e3 (fun l hl x hx => w.w.e3 l hl x (List.mem_of_mem_take hx)) w.o3
theorem W11.eq2 {v : Eq11} (w : W11 v) (hb : beyondV v.v.en.ls = false) (hb2 : beyondV v.ot = false) : EqOk ⟨v.v.sc, v.v.q, v.v.t, en11 v⟩ :=
  let ⟨a, b, c, d, _⟩ := w.w.eq hb
  ⟨a, b, c, d, w.en2 hb hb2⟩
/-- The program runs alike. -/
theorem run11 (v : Eq11) : runV (compP v.v.sc (vars v.v.q.items) v.v.t) (en11 v) = runV (compP v.v.sc (vars v.v.q.items) v.v.t) v.v.en := by
  cases hr : runT (vars v.v.q.items) v.v.t with
  | true => rw [run_comp hr, run_comp hr, en11, frame_eval]
  | false =>
    have hp : compP v.v.sc (vars v.v.q.items) v.v.t = ⟨[], []⟩ := by simp [compP, hr]
    rw [hp]; rfl
theorem eval11 (v : Eq11) : evalV v.v.sc (vars v.v.q.items) (en11 v) v.v.t = evalV v.v.sc (vars v.v.q.items) v.v.en v.v.t := frame_eval
end Go.Proofs.YtkfphaphiikloaaDoor
