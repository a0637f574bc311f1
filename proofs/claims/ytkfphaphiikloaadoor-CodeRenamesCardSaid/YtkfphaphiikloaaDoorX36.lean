/-
  THE PROGRAMS OF CONDITIONS, PART J: how many events there are; lists that are the same.
-/
import Derived.Test.YtkfphaphiikloaaDoorX16
import Derived.Test.YtkfphaphiikloaaDoorX35
import Derived.Test.YtkfphaphiikloaaDoorX34
import Derived.Test.YtkfphaphiikloaaDoorX26
import Derived.Test.YtkfphaphiikloaaDoorX24
set_option linter.unusedSimpArgs false
set_option linter.unusedVariables false
set_option linter.constructorNameAsVariable false
namespace Go.Proofs.YtkfphaphiikloaaDoor
open Go Go.Eng

def sumTo (ll : List (List Ev)) (j : Nat) : Nat := ((ll.take j).map List.length).sum
theorem sumTo_succ {ll : List (List Ev)} {j : Nat} (h : j < ll.length) : sumTo ll (j + 1) = sumTo ll j + ll[j].length := by
  unfold sumTo
  rw [List.take_add_one, List.getElem?_eq_getElem h, List.map_append, List.sum_append]
  simp only [Option.toList_some, List.map_cons, List.map_nil, List.sum_cons, List.sum_nil, Nat.add_zero]
theorem sumTo_mono (ll : List (List Ev)) : ∀ {i j : Nat}, i ≤ j → sumTo ll i ≤ sumTo ll j := fun {i j} h => by
  induction h with
  | refl => exact Nat.le_refl _
  | @step m _ ih =>
    by_cases hm : m < ll.length
    · have := sumTo_succ hm
      simp only [Nat.succ_eq_add_one]
      omega
    · have e : ll.take (m + 1) = ll.take m := by rw [List.take_of_length_le (by omega), List.take_of_length_le (by omega)]
      simp only [Nat.succ_eq_add_one, sumTo, e] at ih ⊢
      exact ih
def beyondV (ll : List (List Ev)) : Bool := decide (2147483647 < sumTo ll ll.length)
theorem beyond_len {ll : List (List Ev)} (h : beyondV ll = false) : ∀ l ∈ ll, l.length ≤ 2147483647 := fun l hl => by
  obtain ⟨i, hi, rfl⟩ := List.getElem_of_mem hl
  have h1 := sumTo_succ hi
  have h2 := sumTo_mono ll (i := i + 1) (j := ll.length) (by omega)
  have h3 : ¬ 2147483647 < sumTo ll ll.length := by simpa [beyondV] using h
  omega
def deLL (h : Heap) : List AV → Option (List (List Ev))
  | [a] => rd dEss h a
  | _ => none
theorem deLL_out {h : Heap} {args : List AV} {q : List (List Ev)} (e : deLL h args = some q) : ∃ a, args = [a] ∧ rd dEss h a = some q := by
  unfold deLL at e
  split at e
  · exact ⟨_, rfl, e⟩
  · cases e
theorem deLL_mono (h h' : Heap) (args : List AV) (q : List (List Ev)) (hh : h.le h') (e : deLL h args = some q) : deLL h' args = some q := by
  obtain ⟨a, rfl, e1⟩ := deLL_out e
  simp only [deLL, rd_mono hh e1]
def G27 := pureH deLL (fun ll => ll.length < big ∧ ∀ l ∈ ll, l.length < big) fun ll => bv (beyondV ll)
set_option maxRecDepth 100000 in
set_option maxHeartbeats 1000000 in
theorem P27 : P0 [] 27 G27 := by
  refine mkH 1 (S := []) (l := []) tb_nil Tryd.func27 rfl (by kernel_rfl) deLL_mono (fun h l x e => by obtain ⟨a, rfl, _⟩ := deLL_out e; exact Nat.le_refl _) (fun a => rfl) (fun args ll h n e hp hn => ?_)
  obtain ⟨a, rfl, e1⟩ := deLL_out e
  obtain ⟨s1, s2, s3, s4, s5⟩ := sl_is e1
  have key : ∀ e : Nat → AV, e 0 = a → awp (cx [] (pfL [])) (Tryd.f27.body.getD .skip) (finQ (cx [] (pfL [])) Tryd.f27 fun z _ _ => z = bv (beyondV ll)) ⟨e, roH h, n⟩ := fun e q0 => by
    simp [evs, aeval, binS, cx_ti, cx_G, cx_pf, cx_tw, ti, globS, glob, ldcs_1, ldcs_2, ldcs_3, ldcs_4, ldcs_5, ldcs_7, sls.eq_1, slc.eq_1, pfL, Tryd.f27, q0]
    refine awp_loop (fun s => ∃ j, j ≤ ll.length ∧ s.e 0 = a ∧ s.e 3 = ii (sumTo ll j) ∧ s.e 4 = ii j ∧ s.h = roH h ∧ sumTo ll j ≤ 2147483647) (fun s => ll.length - (s.e 4).i.toNat) ⟨0, by simp [up, q0, ii, sumTo]⟩ ?_
    rintro e' h' n' ⟨j, hj, q0, q3, q4, hh, hs⟩
    simp only [] at q0 q3 q4 hh
    subst hh
    by_cases hlt : j < ll.length
    · rcases sls_at e1 with ⟨h0, _⟩ | ⟨id, off, k, rfl, hk, ho, hat⟩
      · rw [h0] at hlt; simp at hlt
      obtain ⟨c, hc, hcr⟩ := hat j hlt
      obtain ⟨u1, u2, u3, u4, u5⟩ := sl_is hcr
      have hro := ro_at hk
      have hw := wrap_nat (j := j) (by have := hp.1; omega)
      have hw1 : off + (j + 1) ≤ k.cells.length := by omega
      have hss := sumTo_succ hlt
      have hsub : IntKind.i64.wrap (2147483647 - (sumTo ll j : Int)) = 2147483647 - sumTo ll j := W_id (by unfold Rng; omega)
      have hll := hp.2 _ (List.getElem_mem hlt)
      unfold big at hll
      have hmon := sumTo_mono ll (i := j + 1) (j := ll.length) (by omega)
      by_cases hgt : (2147483647 - (sumTo ll j : Int)) < ll[j].length
      · have hb : beyondV ll = true := by simp only [beyondV, decide_eq_true_eq]; omega
        simp [evs, aeval, binS, cx_ti, cx_G, cx_pf, cx_tw, ti, globS, glob, ldcs_1, ldcs_2, ldcs_3, ldcs_4, ldcs_5, ldcs_7, sls.eq_1, slc.eq_1, pfL, q0, q3, q4, ii, bv, hlt, hro, hc, hw1, u1, u2, u3, hsub, hgt, hb]
      · have hadd : IntKind.i64.wrap ((sumTo ll j : Int) + ll[j].length) = sumTo ll j + ll[j].length := W_id (by unfold Rng; omega)
        simp [evs, aeval, binS, cx_ti, cx_G, cx_pf, cx_tw, ti, globS, glob, ldcs_1, ldcs_2, ldcs_3, ldcs_4, ldcs_5, ldcs_7, sls.eq_1, slc.eq_1, pfL, q0, q3, q4, ii, bv, hlt, hro, hc, hw1, u1, u2, u3, hsub, hgt, hadd, hw]
        exact ⟨⟨j + 1, by omega, by omega, by omega, by omega⟩, by omega⟩
    · have hje : j = ll.length := by omega
      subst hje
      have hb : beyondV ll = false := by simp only [beyondV, decide_eq_false_iff_not]; omega
      simp [evs, aeval, binS, cx_ti, cx_G, cx_pf, cx_tw, ti, globS, glob, ldcs_1, ldcs_2, ldcs_3, ldcs_4, ldcs_5, ldcs_7, sls.eq_1, slc.eq_1, pfL, q0, q3, q4, ii, bv, s1, s2, s3, hb]
  exact key _ rfl
def de33 (h : Heap) : List AV → Option (List (List Ev) × List (List Ev))
  | [a, b] => match rd dEss h a, rd dEss h b with
    | some x, some y => some (x, y)
    | _, _ => none
  | _ => none
theorem de33_out {h : Heap} {args : List AV} {q : List (List Ev) × List (List Ev)} (e : de33 h args = some q) : ∃ a b, args = [a, b] ∧ rd dEss h a = some q.1 ∧ rd dEss h b = some q.2 := by
  unfold de33 at e
  split at e
  · split at e
    · rename_i e1 e2
      cases e
      exact ⟨_, _, rfl, e1, e2⟩
    · cases e
  · cases e
theorem de33_mono (h h' : Heap) (args : List AV) (q : List (List Ev) × List (List Ev)) (hh : h.le h') (e : de33 h args = some q) : de33 h' args = some q := by
  obtain ⟨a, b, rfl, e1, e2⟩ := de33_out e
  simp only [de33, rd_mono hh e1, rd_mono hh e2]
/-- Two lists of lists that are the same. -/
def G33 := pureH de33 (fun q => q.1 = q.2 ∧ q.1.length < big ∧ ∀ l ∈ q.1, l.length < big) fun _ => bv true
set_option maxRecDepth 100000 in
set_option maxHeartbeats 1000000 in
theorem P33 : P0 [] 33 G33 := by
  refine mkH 2 (S := []) (l := []) tb_nil Tryd.func33 rfl (by kernel_rfl) de33_mono (fun h l x e => by obtain ⟨a, b, rfl, _⟩ := de33_out e; exact Nat.le_refl _) (fun a => rfl) (fun args q h n e hp hn => ?_)
  obtain ⟨ll, l2⟩ := q
  obtain ⟨a, b, rfl, e1, e2⟩ := de33_out e
  obtain ⟨heq, hb1, hb2⟩ := hp
  simp only [] at e1 e2 heq hb1 hb2
  subst heq
  obtain ⟨s1, s2, s3, s4, s5⟩ := sl_is e1
  obtain ⟨t1, t2, t3, t4, t5⟩ := sl_is e2
  have key : ∀ e : Nat → AV, e 0 = a → e 1 = b → awp (cx [] (pfL [])) (Tryd.f33.body.getD .skip) (finQ (cx [] (pfL [])) Tryd.f33 fun z _ _ => z = bv true) ⟨e, roH h, n⟩ := fun e q0 q1 => by
    simp [evs, aeval, binS, cx_ti, cx_G, cx_pf, cx_tw, ti, globS, glob, ldcs_1, ldcs_2, ldcs_3, ldcs_4, ldcs_5, ldcs_7, sls.eq_1, slc.eq_1, pfL, Tryd.f33, q0, q1, s1, s2, s3, t1, t2, t3]
    refine awp_loop (fun s => ∃ j, j ≤ ll.length ∧ s.e 0 = a ∧ s.e 1 = b ∧ s.e 5 = ii j ∧ s.h = roH h) (fun s => ll.length - (s.e 5).i.toNat) ⟨0, by simp [up, q0, q1, ii]⟩ ?_
    rintro e' h' n' ⟨j, hj, q0, q1, q5, hh⟩
    simp only [] at q0 q1 q5 hh
    subst hh
    by_cases hlt : j < ll.length
    · rcases sls_at e1 with ⟨h0, _⟩ | ⟨id, off, k, rfl, hk, ho, hat⟩
      · rw [h0] at hlt; simp at hlt
      rcases sls_at e2 with ⟨h0, _⟩ | ⟨id2, off2, k2, rfl, hk2, ho2, hat2⟩
      · rw [h0] at hlt; simp at hlt
      obtain ⟨c, hc, hcr⟩ := hat j hlt
      obtain ⟨c2, hc2, hcr2⟩ := hat2 j hlt
      obtain ⟨u1, u2, u3, u4, u5⟩ := sl_is hcr
      obtain ⟨v1, v2, v3, v4, v5⟩ := sl_is hcr2
      have hro := ro_at hk
      have hro2 := ro_at hk2
      have hw := wrap_nat (j := j) (by omega)
      have hw1 : off + (j + 1) ≤ k.cells.length := by omega
      have hw2 : off2 + (j + 1) ≤ k2.cells.length := by omega
      have hll := hb2 _ (List.getElem_mem hlt)
      simp [evs, aeval, binS, cx_ti, cx_G, cx_pf, cx_tw, ti, globS, glob, ldcs_1, ldcs_2, ldcs_3, ldcs_4, ldcs_5, ldcs_7, sls.eq_1, slc.eq_1, pfL, q0, q1, q5, ii, hlt, hro, hro2, hc, hc2, hw1, hw2, u1, u2, u3, v1, v2, v3]
      refine awp_loop (fun s => ∃ m, m ≤ ll[j].length ∧ s.e 0 = .s id k.ver off ll.length ∧ s.e 1 = .s id2 k2.ver off2 ll.length ∧ s.e 5 = ii j ∧ s.e 6 = ii m ∧ s.h = roH h) (fun s => ll[j].length - (s.e 6).i.toNat) ⟨0, by simp [up, q0, q1, q5, ii]⟩ ?_
      rintro e2' h2' n2' ⟨m, hm, q0, q1, q5, q6, hh⟩
      simp only [] at q0 q1 q5 q6 hh
      subst hh
      by_cases hmt : m < ll[j].length
      · rcases es_at hcr with ⟨h0, _⟩ | ⟨i3, o3, k3, rfl, hk3, ho3, hat3⟩
        · rw [h0] at hmt; simp at hmt
        rcases es_at hcr2 with ⟨h0, _⟩ | ⟨i4, o4, k4, rfl, hk4, ho4, hat4⟩
        · rw [h0] at hmt; simp at hmt
        have hro3 := ro_at hk3
        have hro4 := ro_at hk4
        have hle3 : ∀ (X : Ctx) (h' : Heap), h' i3 = some ⟨k3.cells, k3.ver, false, k3.esz⟩ → ldcs X h' (.p i3 k3.ver (o3 + m * 11)) 0 11 = ecells ll[j][m] := fun X h' e => ldcs_ev e (hat3 m hmt)
        have hle4 : ∀ (X : Ctx) (h' : Heap), h' i4 = some ⟨k4.cells, k4.ver, false, k4.esz⟩ → ldcs X h' (.p i4 k4.ver (o4 + m * 11)) 0 11 = ecells ll[j][m] := fun X h' e => ldcs_ev e (hat4 m hmt)
        have hw3 : o3 + (m * 11 + 11) ≤ k3.cells.length := by omega
        have hw4 : o4 + (m * 11 + 11) ≤ k4.cells.length := by omega
        have hwm := wrap_nat (j := m) (by omega)
        simp [evs, aeval, binS, cx_ti, cx_G, cx_pf, cx_tw, ti, globS, glob, ldcs_1, ldcs_2, ldcs_3, ldcs_4, ldcs_5, ldcs_7, sls.eq_1, slc.eq_1, pfL, q0, q1, q5, q6, ii, uu, hlt, hmt, hro, hro2, hro3, hro4, hc, hc2, hw1, hw2, hw3, hw4, u1, u2, u3, v1, v2, v3, hle3, hle4, ecells, hwm]
        exact ⟨⟨m + 1, by omega, by omega⟩, by omega⟩
      · have hme : m = ll[j].length := by omega
        subst hme
        simp [evs, aeval, binS, cx_ti, cx_G, cx_pf, cx_tw, ti, globS, glob, ldcs_1, ldcs_2, ldcs_3, ldcs_4, ldcs_5, ldcs_7, sls.eq_1, slc.eq_1, pfL, q0, q1, q5, q6, ii, hlt, hro, hro2, hc, hc2, hw1, hw2, u1, u2, u3, v1, v2, v3, hw]
        exact ⟨⟨j + 1, by omega, by omega⟩, by omega⟩
    · have hje : j = ll.length := by omega
      subst hje
      simp [evs, aeval, binS, cx_ti, cx_G, cx_pf, cx_tw, ti, globS, glob, ldcs_1, ldcs_2, ldcs_3, ldcs_4, ldcs_5, ldcs_7, sls.eq_1, slc.eq_1, pfL, q0, q1, q5, ii, bv, s1, s2, s3]
  exact key _ rfl rfl
end Go.Proofs.YtkfphaphiikloaaDoor

namespace Go.Proofs.YtkfphaphiikloaaDoor
open Go Go.Eng

def de21 (h : Heap) : List AV → Option (Pr × Pr)
  | [a, b] => match dePr h a, dePr h b with
    | some x, some y => some (x, y)
    | _, _ => none
  | _ => none
theorem de21_out {h : Heap} {args : List AV} {q : Pr × Pr} (e : de21 h args = some q) : ∃ a b, args = [a, b] ∧ dePr h a = some q.1 ∧ dePr h b = some q.2 := by
  unfold de21 at e
  split at e
  · split at e
    · rename_i e1 e2
      cases e
      exact ⟨_, _, rfl, e1, e2⟩
    · cases e
  · cases e
theorem de21_mono (h h' : Heap) (args : List AV) (q : Pr × Pr) (hh : h.le h') (e : de21 h args = some q) : de21 h' args = some q := by
  obtain ⟨a, b, rfl, e1, e2⟩ := de21_out e
  simp only [de21, dePr_sim hh.sim e1, dePr_sim hh.sim e2]
/-- Two programs that are the same. -/
def G21 := pureH de21 (fun q => q.1 = q.2 ∧ q.1.code.length < big ∧ q.1.cols.length < big ∧ ∀ l ∈ q.1.cols, l.length < big) fun _ => bv true
set_option maxRecDepth 100000 in
set_option maxHeartbeats 2000000 in
theorem P21 : P0 [] 21 G21 := by
  refine mkH 2 (S := []) (l := []) tb_nil Tryd.func21 rfl (by kernel_rfl) de21_mono (fun h l x e => by obtain ⟨a, b, rfl, _⟩ := de21_out e; exact Nat.le_refl _) (fun a => rfl) (fun args q h n e hp hn => ?_)
  obtain ⟨p, p2⟩ := q
  obtain ⟨x, y, rfl, e1, e2⟩ := de21_out e
  obtain ⟨heq, hb0, hb1, hb2⟩ := hp
  simp only [] at e1 e2 heq hb0 hb1 hb2
  subst heq
  obtain ⟨a, b, rfl, e3, e4⟩ := dePr_out e1
  obtain ⟨a', b', rfl, e5, e6⟩ := dePr_out e2
  obtain ⟨s1, s2, s3, s4, s5⟩ := sl_is e3
  obtain ⟨t1, t2, t3, t4, t5⟩ := sl_is e4
  obtain ⟨p1, p2, p3, p4, p5⟩ := sl_is e5
  obtain ⟨r1, r2, r3, r4, r5⟩ := sl_is e6
  have key : ∀ e : Nat → AV, e 0 = .g [a, b] → e 1 = .g [a', b'] → awp (cx [] (pfL [])) (Tryd.f21.body.getD .skip) (finQ (cx [] (pfL [])) Tryd.f21 fun z _ _ => z = bv true) ⟨e, roH h, n⟩ := fun e q0 q1 => by
    simp [evs, aeval, binS, cx_ti, cx_G, cx_pf, cx_tw, ti, globS, glob, ldcs_1, ldcs_2, ldcs_3, ldcs_4, ldcs_5, ldcs_7, sls.eq_1, slc.eq_1, pfL, Tryd.f21, q0, q1, s1, s2, s3, s4, s5, t1, t2, t3, t4, t5, p1, p2, p3, p4, p5, r1, r2, r3, r4, r5]
    refine awp_loop (fun s => ∃ j, j ≤ p.code.length ∧ s.e 2 = .p n 0 0 ∧ s.e 3 = .p (n + 1) 0 0 ∧ s.e 5 = ii j ∧ agree n (roH h) s.h ∧ s.h n = some ⟨[a, b], 0, true, 2⟩ ∧ s.h (n + 1) = some ⟨[a', b'], 0, true, 2⟩) (fun s => p.code.length - (s.e 5).i.toNat) ⟨0, by simp [up, ii, agree_up, agree_refl]⟩ ?_
    rintro e' h' n' ⟨j, hj, q2, q3, q5, hag, hx, hy⟩
    simp only [] at q2 q3 q5 hag hx hy
    by_cases hlt : j < p.code.length
    · rcases ps_at e3 with ⟨h0, _⟩ | ⟨id, off, k, rfl, hk, ho, hat⟩
      · rw [h0] at hlt; simp at hlt
      rcases ps_at e5 with ⟨h0, _⟩ | ⟨id2, off2, k2, rfl, hk2, ho2, hat2⟩
      · rw [h0] at hlt; simp at hlt
      obtain ⟨c0, c1, c2, c3, c4⟩ := ins_at (hat j hlt)
      obtain ⟨d0, d1, d2, d3, d4⟩ := ins_at (hat2 j hlt)
      rw [Nat.add_assoc] at c1 c2 c3 c4 d1 d2 d3 d4
      have hro := agree_at hn hk hag
      have hro2 := agree_at hn hk2 hag
      have hw := wrap_nat (j := j) (by omega)
      have hw1 : off + (j * 5 + 5) ≤ k.cells.length := by omega
      have hw2 : off2 + (j * 5 + 5) ≤ k2.cells.length := by omega
      simp [evs, aeval, binS, cx_ti, cx_G, cx_pf, cx_tw, ti, globS, glob, ldcs_1, ldcs_2, ldcs_3, ldcs_4, ldcs_5, ldcs_7, sls.eq_1, slc.eq_1, pfL, q2, q3, q5, hx, hy, ii, hlt, hro, hro2, c0, c1, c2, c3, c4, d0, d1, d2, d3, d4, hw1, hw2, hw]
      exact ⟨⟨j + 1, by omega, by omega, hag⟩, by omega⟩
    · have hje : j = p.code.length := by omega
      subst hje
      simp [evs, aeval, binS, cx_ti, cx_G, cx_pf, cx_tw, ti, globS, glob, ldcs_1, ldcs_2, ldcs_3, ldcs_4, ldcs_5, ldcs_7, sls.eq_1, slc.eq_1, pfL, q2, q3, q5, hx, hy, ii, s1, s2, s3]
      refine awp_loop (fun s => ∃ j, j ≤ p.cols.length ∧ s.e 2 = .p n 0 0 ∧ s.e 3 = .p (n + 1) 0 0 ∧ s.e 6 = ii j ∧ s.h = h') (fun s => p.cols.length - (s.e 6).i.toNat) ⟨0, by simp [up, ii, q2, q3]⟩ ?_
      rintro e2' h2' n2' ⟨j, hj, q2, q3, q6, hh⟩
      simp only [] at q2 q3 q6 hh
      subst hh
      by_cases hlt : j < p.cols.length
      · rcases sls_at e4 with ⟨h0, _⟩ | ⟨id, off, k, rfl, hk, ho, hat⟩
        · rw [h0] at hlt; simp at hlt
        rcases sls_at e6 with ⟨h0, _⟩ | ⟨id2, off2, k2, rfl, hk2, ho2, hat2⟩
        · rw [h0] at hlt; simp at hlt
        obtain ⟨c, hc, hcr⟩ := hat j hlt
        obtain ⟨c2, hc2, hcr2⟩ := hat2 j hlt
        obtain ⟨u1, u2, u3, u4, u5⟩ := sl_is hcr
        obtain ⟨v1, v2, v3, v4, v5⟩ := sl_is hcr2
        have hro := agree_at hn hk hag
        have hro2 := agree_at hn hk2 hag
        have hw := wrap_nat (j := j) (by omega)
        have hw1 : off + (j + 1) ≤ k.cells.length := by omega
        have hw2 : off2 + (j + 1) ≤ k2.cells.length := by omega
        have hll := hb2 _ (List.getElem_mem hlt)
        simp [evs, aeval, binS, cx_ti, cx_G, cx_pf, cx_tw, ti, globS, glob, ldcs_1, ldcs_2, ldcs_3, ldcs_4, ldcs_5, ldcs_7, sls.eq_1, slc.eq_1, pfL, q2, q3, q6, hx, hy, ii, hlt, hro, hro2, hc, hc2, hw1, hw2, u1, u2, u3, v1, v2, v3]
        refine awp_loop (fun s => ∃ m, m ≤ p.cols[j].length ∧ s.e 2 = .p n 0 0 ∧ s.e 3 = .p (n + 1) 0 0 ∧ s.e 6 = ii j ∧ s.e 7 = ii m ∧ s.h = h2') (fun s => p.cols[j].length - (s.e 7).i.toNat) ⟨0, by simp [up, q2, q3, q6, ii]⟩ ?_
        rintro e3' h3' n3' ⟨m, hm, q2, q3, q6, q7, hh⟩
        simp only [] at q2 q3 q6 q7 hh
        subst hh
        by_cases hmt : m < p.cols[j].length
        · rcases is_at hcr with ⟨h0, _⟩ | ⟨i3, o3, k3, rfl, hk3, ho3, hat3⟩
          · rw [h0] at hmt; simp at hmt
          rcases is_at hcr2 with ⟨h0, _⟩ | ⟨i4, o4, k4, rfl, hk4, ho4, hat4⟩
          · rw [h0] at hmt; simp at hmt
          have hro3 := agree_at hn hk3 hag
          have hro4 := agree_at hn hk4 hag
          have g3 := hat3 m hmt
          have g4 := hat4 m hmt
          have hw3 : o3 + (m + 1) ≤ k3.cells.length := by omega
          have hw4 : o4 + (m + 1) ≤ k4.cells.length := by omega
          have hwm := wrap_nat (j := m) (by omega)
          simp [evs, aeval, binS, cx_ti, cx_G, cx_pf, cx_tw, ti, globS, glob, ldcs_1, ldcs_2, ldcs_3, ldcs_4, ldcs_5, ldcs_7, sls.eq_1, slc.eq_1, pfL, q2, q3, q6, q7, hx, hy, ii, hlt, hmt, hro, hro2, hro3, hro4, hc, hc2, hw1, hw2, hw3, hw4, u1, u2, u3, v1, v2, v3, g3, g4, hwm]
          exact ⟨⟨m + 1, by omega, by omega⟩, by omega⟩
        · have hme : m = p.cols[j].length := by omega
          subst hme
          simp [evs, aeval, binS, cx_ti, cx_G, cx_pf, cx_tw, ti, globS, glob, ldcs_1, ldcs_2, ldcs_3, ldcs_4, ldcs_5, ldcs_7, sls.eq_1, slc.eq_1, pfL, q2, q3, q6, q7, hx, hy, ii, hlt, hro, hro2, hc, hc2, hw1, hw2, u1, u2, u3, v1, v2, v3, hw]
          exact ⟨⟨j + 1, by omega, by omega⟩, by omega⟩
      · have hje : j = p.cols.length := by omega
        subst hje
        simp [evs, aeval, binS, cx_ti, cx_G, cx_pf, cx_tw, ti, globS, glob, ldcs_1, ldcs_2, ldcs_3, ldcs_4, ldcs_5, ldcs_7, sls.eq_1, slc.eq_1, pfL, q2, q3, q6, hx, hy, ii, bv, t1, t2, t3]
  exact key _ rfl rfl
end Go.Proofs.YtkfphaphiikloaaDoor

/-
  THE LAWS WITHOUT THE DOCUMENT: what they are handed, and programs in cells.
-/
namespace Go.Proofs.YtkfphaphiikloaaDoor
open Go Go.Eng

def S8 : List Nat := [0, 1, 2, 3, 4, 5, 6, 7]
/-- Arguments of a size that a machine holds. -/
structure W8 (v : Eq38) : Prop where
  s1 : v.sc.length * 40 ≤ 140737488355328
  s2 : ∀ t ∈ v.sc, t.attrs.length * 16 ≤ 140737488355328
  q1 : v.q.items.length * 64 ≤ 140737488355328
  q2 : smallT v.q.wh
  q3 : v.q.ret.length < big
  q4 : ∀ t ∈ v.q.ret, smallT t
  t1 : v.t.length * 64 ≤ 140737488355328
  t2 : ∀ x ∈ v.t, Rng x.n
  e1 : v.en.ls.length * 24 ≤ 140737488355328
  e2 : ∀ l ∈ v.en.ls, l.length * 88 ≤ 140737488355328
  e3 : ∀ l ∈ v.en.ls, ∀ x ∈ l, EvOk x
  e4 : Rng v.en.pos
theorem W8.eq {v : Eq38} (w : W8 v) (hb : beyondV v.en.ls = false) : EqOk v :=
  ⟨⟨by have := w.s1; unfold big; omega, fun t ht => by have := w.s2 t ht; unfold big; omega⟩, by have := w.q1; unfold big; omega, w.t1, w.t2, ⟨beyond_len hb, w.e3, w.e4⟩⟩
theorem W8.it {v : Eq38} (w : W8 v) : v.q.items.length < big := by have := w.q1; unfold big; omega
theorem W8.tl {v : Eq38} (w : W8 v) : v.sc.length * 8 ≤ 140737488355328 := by have := w.s1; omega
theorem W8.pr {v : Eq38} (w : W8 v) : PrOk (compP v.sc (vars v.q.items) v.t) := comp_ok (by have := w.it; simpa [vars] using this) w.t1 w.tl w.t2
theorem W8.w1 {v : Eq38} (w : W8 v) : v.en.ls.length < big := by have := w.e1; unfold big; omega
theorem W8.w2 {v : Eq38} (w : W8 v) : ∀ l ∈ v.en.ls, l.length < big := fun l hl => by have := w.e2 l hl; unfold big; omega
/-- What was handed in. -/
structure A8 (v : Eq38) (s : St) : Prop where
  at2 : rd dNs s.h (s.e 2) = some v.t
  as4 : HasS s.h (s.e 4) v.sc
  aq5 : HasQ s.h (s.e 5) v.q
  ae7 : HasE s.h (s.e 7) v.en
  frs : Fresh s.n s.h
theorem A8.up {v : Eq38} {s s' : St} (a : A8 v s) (he : ∀ i ∈ [2, 4, 5, 7], s'.e i = s.e i) (ha : agree s.n s.h s'.h) (hf : Fresh s'.n s'.h) : A8 v s' :=
  ⟨by rw [he 2 (by simp)]; exact rd_agr a.frs a.at2 _ ha, by rw [he 4 (by simp)]; exact a.as4.up a.frs ha, by rw [he 5 (by simp)]; exact a.aq5.up a.frs ha, by rw [he 7 (by simp)]; exact a.ae7.up a.frs ha, hf⟩
/-- A value in a cell. -/
def HasV (s : St) (i : Nat) (x : V) : Prop := ∃ m, s.e i = .p m 0 0 ∧ s.h m = some ⟨[.v (.bool x.k), .v (.int .i64 x.n)], 0, true, 2⟩
theorem HasV.up {s s' : St} {i n : Nat} {x : V} (a : HasV s i x) (hn : Fresh n s.h) (he : s'.e i = s.e i) (ha : agree n s.h s'.h) : HasV s' i x := by
  obtain ⟨m, h1, h2⟩ := a
  exact ⟨m, he.trans h1, by rw [ha m (lt_of h2 hn)]; exact h2⟩
end Go.Proofs.YtkfphaphiikloaaDoor

/-
  THE LAWS WITHOUT THE DOCUMENT, PART E: trees within trees; trees that are joined: the plain law.
-/
namespace Go.Proofs.YtkfphaphiikloaaDoor
open Go Go.Eng

theorem wrap_sm {x : Int} (h1 : -1 ≤ x) (h2 : x < 4611686018427387904) : IntKind.i64.wrap x = x := W_id (n := x) (by unfold Rng; omega)
/-- What makes a list of nodes a tree. -/
theorem tree_of {t : List Nd} {lo : Nat → Nat} (T : Tre t lo) (hf : ∀ i (hi : i < t.length), fieldsB t[i] = true) : tree1 t = true := by
  have key : ∀ j, j ≤ t.length → beginTo t j = some ((List.range j).map fun i => (lo i : Int)) := by
    intro j
    induction j with
    | zero => intro _; rfl
    | succ j ih =>
      intro hj
      have hjl : j < t.length := by omega
      simp only [beginTo, ih (by omega), Option.bind_some]
      rw [getD_at hjl]
      have hfj := hf j hjl
      have hgd : ∀ i, i < j → ((List.range j).map fun i => (lo i : Int)).getD i 0 = lo i := fun i hi => by
        rw [List.getD_eq_getElem?_getD, List.getElem?_map, List.getElem?_range hi]; rfl
      have hlf := leaf_fields t[j]
      rw [List.range_succ, List.map_append, List.map_cons, List.map_nil]
      rcases T.kind j hjl with ⟨b1, b2, b3, b4, b⟩ | ⟨b0, b1, b2, b3, b⟩ | ⟨b0, b0', b1, b2, a, b3, b4, b⟩
      · have har : arity t[j].op = 0 := by unfold arity; rw [if_pos ⟨b1, b2⟩]
        rw [har, hfj, b3, b4] at hlf
        have hl : leafB t[j] = true := by rw [hlf]; rfl
        rw [beginStep, if_pos hl, b]
      · have har : arity t[j].op = 1 := by unfold arity; grind
        rw [har] at hlf
        have hl : ¬ leafB t[j] = true := by rw [hlf]; simp
        have hbf := bare_fields t[j] (by omega)
        rw [beginStep, if_neg hl, if_pos b0, if_neg (by rw [← hbf, hfj]; simp; omega), hgd (j - 1) (by omega), b]
      · have har : arity t[j].op = 2 := by unfold arity; grind
        rw [har] at hlf
        have hl : ¬ leafB t[j] = true := by rw [hlf]; simp
        have hbf := bare_fields t[j] (by omega)
        have hle := T.le (j - 1) (by omega)
        rw [beginStep, if_neg hl, if_neg (by omega), if_pos ⟨b0, b0'⟩, if_neg (by rw [← hbf, hfj, hgd (j - 1) (by omega)]; simp; omega), b3, Int.toNat_natCast, hgd a (by omega), b]
  rw [← tree_same]
  unfold tree2
  rw [key t.length (Nat.le_refl _)]
  have hp := T.pos
  simp only [Bool.and_eq_true, decide_eq_true_eq]
  refine ⟨hp, ?_⟩
  rw [List.getD_eq_getElem?_getD, List.getElem?_map, List.getElem?_range (by omega)]
  simp [T.root]
theorem tree_fields {t : List Nd} (h : tree1 t = true) (i : Nat) (hi : i < t.length) : fieldsB t[i] = true := (tree_kids h i hi).fl
/-- A node d places on. -/
def onN (d : Nat) (x : Nd) : Nd := ⟨x.op, x.n, x.var, x.attr, if 0 ≤ x.a then x.a + d else x.a, if 0 ≤ x.b then x.b + d else x.b⟩
/-- A list of nodes within another, from the place d on. -/
structure Emb (s t : List Nd) (d : Nat) : Prop where
  len : d + s.length ≤ t.length
  at' : ∀ i (hi : i < s.length) (hj : d + i < t.length), t[d + i] = onN d s[i]
theorem onN_fields (d : Nat) (x : Nd) : fieldsB (onN d x) = fieldsB x := rfl
theorem onN_item (vs : List ByteArray) (d : Nat) (x : Nd) : itemV vs (onN d x) = itemV vs x := rfl
theorem nodeV_leaf {sc : List Ty} {it : Int} {en : En} {x : Nd} (h : x.op ≤ 11) (va vb va' vb' : V) : nodeV sc it en x va vb = nodeV sc it en x va' vb' := by
  unfold nodeV
  by_cases h1 : x.op = 1
  · simp [h1]
  by_cases h2 : x.op = 2
  · simp [h2]
  by_cases h3 : x.op = 3
  · simp [h3]
  simp [h1, h2, h3, h]
theorem nodeV_un {sc : List Ty} {it : Int} {en : En} {x : Nd} (h : x.op ≤ 13) (va vb vb' : V) : nodeV sc it en x va vb = nodeV sc it en x va vb' := by
  by_cases h11 : x.op ≤ 11
  · exact nodeV_leaf h11 _ _ _ _
  unfold nodeV
  rcases (show x.op = 12 ∨ x.op = 13 by omega) with h1 | h1 <;> simp [h1]
section
variable {sc : List Ty} {vs : List ByteArray} {en : En} {s t : List Nd} {d : Nat}
/-- A node's value out of those of its operands. -/
theorem val_rec {lo : Nat → Nat} (T : Tre t lo) {i : Nat} (hi : i < t.length) : valAt sc (t.map (itemV vs)) en t i = nodeV sc (itemV vs t[i]) en t[i] (valAt sc (t.map (itemV vs)) en t t[i].a.toNat) (valAt sc (t.map (itemV vs)) en t t[i].b.toNat) := by
  have hits : (t.map (itemV vs)).getD i 0 = itemV vs t[i] := by rw [List.getD_eq_getElem?_getD, List.getElem?_map, List.getElem?_eq_getElem hi]; rfl
  rw [valAt_eq hi, hits]
  rcases T.kind i hi with ⟨b1, b2, b3, b4, b⟩ | ⟨b0, b1, b2, b3, b⟩ | ⟨b0, b0', b1, b2, a, b3, b4, b⟩
  · exact nodeV_leaf b2 _ _ _ _
  · rw [get_val (by omega) (by omega)]
    exact nodeV_un (by omega) _ _ _
  · have hle := T.le (i - 1) (by omega)
    rw [get_val (by omega) (by omega), get_val (by omega) (by omega)]
theorem nodeV_on (it : Int) (x : Nd) (va vb : V) : nodeV sc it en (onN d x) va vb = nodeV sc it en x va vb := rfl
/-- A tree within a tree has its value. -/
theorem emb_val {lo lo' : Nat → Nat} (S : Tre s lo) (T : Tre t lo') (e : Emb s t d) : ∀ i, i < s.length → valAt sc (t.map (itemV vs)) en t (d + i) = valAt sc (s.map (itemV vs)) en s i := by
  intro i
  induction i using Nat.strongRecOn with
  | _ i ih =>
    intro hi
    have hl := e.len
    have hj : d + i < t.length := by omega
    rw [val_rec T hj, val_rec S hi, e.at' i hi hj, onN_item, nodeV_on]
    rcases S.kind i hi with ⟨b1, b2, b3, b4, b⟩ | ⟨b0, b1, b2, b3, b⟩ | ⟨b0, b0', b1, b2, a, b3, b4, b⟩
    · exact nodeV_leaf b2 _ _ _ _
    · have h1 : (onN d s[i]).a.toNat = d + s[i].a.toNat := by simp only [onN]; rw [if_pos (by omega)]; omega
      rw [h1, ih s[i].a.toNat (by omega) (by omega)]
      exact nodeV_un (by omega) _ _ _
    · have hle := S.le (i - 1) (by omega)
      have h1 : (onN d s[i]).a.toNat = d + s[i].a.toNat := by simp only [onN]; rw [if_pos (by omega)]; omega
      have h2 : (onN d s[i]).b.toNat = d + s[i].b.toNat := by simp only [onN]; rw [if_pos (by omega)]; omega
      rw [h1, h2, ih s[i].a.toNat (by omega) (by omega), ih s[i].b.toNat (by omega) (by omega)]
theorem emb_ok {lo : Nat → Nat} (S : Tre s lo) (e : Emb s t d) (i : Nat) (hi : i < s.length) : nodeOk vs t (onN d s[i]) = nodeOk vs s s[i] := by
  have hl := e.len
  have hop : (onN d s[i]).op = s[i].op := rfl
  have hget : ∀ c : Nat, c < s.length → (t.getD (d + c) nd0).op = (s.getD c nd0).op := fun c hc => by
    rw [getD_at (show d + c < t.length by omega), getD_at hc, e.at' c hc (by omega)]; rfl
  unfold nodeOk
  rw [hop]
  by_cases h4 : s[i].op < 4
  · rw [if_pos h4, if_pos h4]
  rw [if_neg h4, if_neg h4]
  by_cases h11 : s[i].op ≤ 11
  · rw [if_pos h11, if_pos h11]; rfl
  rw [if_neg h11, if_neg h11]
  rcases S.kind i hi with ⟨b1, b2, b3, b4, b⟩ | ⟨b0, b1, b2, b3, b⟩ | ⟨b0, b0', b1, b2, a, b3, b4, b⟩
  · omega
  · have h1 : (onN d s[i]).a.toNat = d + s[i].a.toNat := by simp only [onN]; rw [if_pos (by omega)]; omega
    have h2 : (onN d s[i]).b = -1 := by simp only [onN]; rw [if_neg (by omega)]; exact b3
    rw [h1, h2, b3, hget _ (by omega)]
    simp [wantsT, hop]
  · have hle := S.le (i - 1) (by omega)
    have h1 : (onN d s[i]).a.toNat = d + s[i].a.toNat := by simp only [onN]; rw [if_pos (by omega)]; omega
    have h2 : (onN d s[i]).b.toNat = d + s[i].b.toNat := by simp only [onN]; rw [if_pos (by omega)]; omega
    have h3 : ¬ (onN d s[i]).b < 0 := by simp only [onN]; rw [if_pos (by omega)]; omega
    have h4 : ¬ s[i].b < 0 := by omega
    rw [h1, h2, hget _ (by omega), hget _ (by omega)]
    simp [wantsT, h3, h4]
end
theorem run_tree {vs : List ByteArray} {t : List Nd} (h : runT vs t = true) : tree1 t = true ∧ okTo vs t t.length = true := by simpa [runT] using h
theorem ok_all {vs : List ByteArray} {t : List Nd} : okTo vs t t.length = true ↔ ∀ i (hi : i < t.length), nodeOk vs t t[i] = true := by
  unfold okTo
  rw [List.take_length, List.all_eq_true]
  exact ⟨fun h i hi => h _ (List.getElem_mem hi), fun h x hx => by obtain ⟨i, hi, rfl⟩ := List.mem_iff_getElem.1 hx; exact h i hi⟩
end Go.Proofs.YtkfphaphiikloaaDoor

/-
  THE LAWS WITHOUT THE DOCUMENT, PART F: trees that are joined: the plain law.
-/
namespace Go.Proofs.YtkfphaphiikloaaDoor
open Go Go.Eng

theorem onN_zero (x : Nd) : onN 0 x = x := by
  obtain ⟨op, n, var, attr, a, b⟩ := x
  unfold onN
  simp
def opN (op : Int) (a b : Int) : Nd := ⟨op, 0, ByteArray.empty, ByteArray.empty, a, b⟩
theorem opN_fields {op : Int} (h : 12 ≤ op) (a b : Int) : fieldsB (opN op a b) = true := by
  have h0 : emB ByteArray.empty = true := by decide
  have h1 : ¬ op = 1 := by omega
  have h2 : ¬ op ≤ 11 := by omega
  simp [fieldsB, opN, h0, h1, h2]
theorem shift_on {b : List Nd} {k : Nat} (hb : tree1 b = true) (hs : k + b.length < 4611686018427387904) : b.map (shiftN k) = b.map (onN k) := by
  apply List.map_congr_left
  intro x hx
  obtain ⟨i, hi, rfl⟩ := List.mem_iff_getElem.1 hx
  unfold shiftN onN
  rcases (tre_of hb).kind i hi with ⟨b1, b2, b3, b4, b⟩ | ⟨b0, b1, b2, b3, b⟩ | ⟨b0, b0', b1, b2, a, b3, b4, b⟩
  · rw [if_neg (by omega), if_neg (by omega), if_neg (by omega), if_neg (by omega)]
  · rw [if_pos (by omega), if_neg (by omega), if_pos (by omega), if_neg (by omega), wrap_sm (by omega) (by omega)]
  · have hle := (tre_of hb).le (i - 1) (by omega)
    rw [if_pos (by omega), if_pos (by omega), if_pos (by omega), if_pos (by omega), wrap_sm (by omega) (by omega), wrap_sm (by omega) (by omega)]
theorem join_un {op : Int} {a b : List Nd} (h : op = 12 ∨ op = 13) (hs : a.length < 4611686018427387904) : joinT op a b = a ++ [opN op ((a.length : Int) - 1) (-1)] := by
  rw [joinT, if_pos h, wrap_sm (by omega) (by omega)]
  rfl
theorem join_bin {op : Int} {a b : List Nd} (h : 14 ≤ op) (hb : tree1 b = true) (hs : a.length + b.length < 4611686018427387904) : joinT op a b = a ++ b.map (onN a.length) ++ [opN op ((a.length : Int) - 1) ((a.length : Int) + b.length - 1)] := by
  have hp := tree_pos hb
  rw [joinT, if_neg (by omega), shift_on hb hs, wrap_sm (x := (a.length : Int) - 1) (by omega) (by omega), wrap_sm (x := (a.length : Int) + b.length) (by omega) (by omega), wrap_sm (by omega) (by omega)]
  rfl
theorem emb_pre (a c : List Nd) : Emb a (a ++ c) 0 := ⟨by simp, fun i hi hj => by
  rw [onN_zero, List.getElem_append_left (by omega)]
  simp⟩
theorem emb_mid (a b c : List Nd) : Emb b (a ++ b.map (onN a.length) ++ c) a.length := ⟨by simp, fun i hi hj => by
  rw [List.getElem_append_left (by simp; omega), List.getElem_append_right (by omega)]
  simp⟩
section
variable {sc : List Ty} {vs : List ByteArray} {en : En} {a b : List Nd} {op : Int}
theorem tre_un (A : Tre a (loOf a)) (ho : op = 12 ∨ op = 13) : ∃ lo, Tre (a ++ [opN op ((a.length : Int) - 1) (-1)]) lo := by
  have hp := A.pos
  refine ⟨fun i => if i < a.length then loOf a i else 0, by simp, by simp, fun i hi => ?_, fun i hi => ?_⟩
  · split
    · exact A.le i (by assumption)
    · omega
  · simp only [List.length_append, List.length_cons, List.length_nil] at hi
    by_cases hia : i < a.length
    · rw [List.getElem_append_left hia]
      rcases A.kind i hia with ⟨b1, b2, b3, b4, b⟩ | ⟨b0, b1, b2, b3, b⟩ | ⟨b0, b0', b1, b2, c, b3, b4, b⟩
      · exact .inl ⟨b1, b2, b3, b4, by simp only [hia, if_true]; exact b⟩
      · exact .inr (.inl ⟨b0, b1, b2, b3, by simp only [hia, show i - 1 < a.length by omega, if_true]; exact b⟩)
      · have hle := A.le (i - 1) (by omega)
        exact .inr (.inr ⟨b0, b0', b1, b2, c, b3, by simp only [show i - 1 < a.length by omega, if_true]; exact b4, by simp only [hia, show c < a.length by omega, if_true]; exact b⟩)
    · obtain rfl : i = a.length := by omega
      rw [List.getElem_append_right (by omega)]
      simp only [Nat.sub_self, List.getElem_cons_zero]
      refine .inr (.inl ⟨ho, by omega, by simp only [opN]; omega, rfl, ?_⟩)
      simp only [Nat.lt_irrefl, if_false, show a.length - 1 < a.length by omega, if_true]
      exact A.root.symm
theorem tre_bin (A : Tre a (loOf a)) (B : Tre b (loOf b)) (ho : 14 ≤ op) (ho' : op ≤ 26) : ∃ lo, Tre (a ++ b.map (onN a.length) ++ [opN op ((a.length : Int) - 1) ((a.length : Int) + b.length - 1)]) lo := by
  have hp := A.pos
  have hq := B.pos
  have hl : (a ++ b.map (onN a.length) ++ [opN op ((a.length : Int) - 1) ((a.length : Int) + b.length - 1)]).length = a.length + b.length + 1 := by simp; omega
  refine ⟨fun i => if i < a.length then loOf a i else if i < a.length + b.length then loOf b (i - a.length) + a.length else 0, by omega, ?_, fun i hi => ?_, fun i hi => ?_⟩
  · rw [hl]; simp only [show ¬ a.length + b.length + 1 - 1 < a.length by omega, show ¬ a.length + b.length + 1 - 1 < a.length + b.length by omega, if_false]
  · split
    · exact A.le i (by assumption)
    · split
      · have := B.le (i - a.length) (by omega); omega
      · omega
  · rw [hl] at hi
    by_cases hia : i < a.length
    · rw [List.getElem_append_left (by simp; omega), List.getElem_append_left hia]
      rcases A.kind i hia with ⟨b1, b2, b3, b4, b⟩ | ⟨b0, b1, b2, b3, b⟩ | ⟨b0, b0', b1, b2, c, b3, b4, b⟩
      · exact .inl ⟨b1, b2, b3, b4, by simp only [hia, if_true]; exact b⟩
      · exact .inr (.inl ⟨b0, b1, b2, b3, by simp only [hia, show i - 1 < a.length by omega, if_true]; exact b⟩)
      · have hle := A.le (i - 1) (by omega)
        exact .inr (.inr ⟨b0, b0', b1, b2, c, b3, by simp only [show i - 1 < a.length by omega, if_true]; exact b4, by simp only [hia, show c < a.length by omega, if_true]; exact b⟩)
    · by_cases hib : i < a.length + b.length
      · have hx : (a ++ b.map (onN a.length) ++ [opN op ((a.length : Int) - 1) ((a.length : Int) + b.length - 1)])[i]'(by omega) = onN a.length (b[i - a.length]'(by omega)) := by
          rw [List.getElem_append_left (by simp; omega), List.getElem_append_right (by omega)]
          simp
        rw [hx]
        have hi0 : ¬ i < a.length := hia
        rcases B.kind (i - a.length) (by omega) with ⟨b1, b2, b3, b4, b5⟩ | ⟨b0, b1, b2, b3, b4⟩ | ⟨b0, b0', b1, b2, c, b3, b4, b5⟩
        · exact .inl ⟨b1, b2, by simp only [onN]; rw [if_neg (by omega)]; exact b3, by simp only [onN]; rw [if_neg (by omega)]; exact b4, by simp only [hi0, hib, if_true, if_false]; omega⟩
        · refine .inr (.inl ⟨b0, by omega, by simp only [onN]; rw [if_pos (by omega)]; omega, by simp only [onN]; rw [if_neg (by omega)]; exact b3, ?_⟩)
          simp only [hi0, hib, show ¬ i - 1 < a.length by omega, show i - 1 < a.length + b.length by omega, if_true, if_false]
          rw [b4, show i - 1 - a.length = i - a.length - 1 by omega]
        · have hle := B.le (i - a.length - 1) (by omega)
          refine .inr (.inr ⟨b0, b0', by omega, by simp only [onN]; rw [if_pos (by omega)]; omega, c + a.length, by simp only [onN]; rw [if_pos (by omega)]; omega, ?_, ?_⟩)
          · simp only [show ¬ i - 1 < a.length by omega, show i - 1 < a.length + b.length by omega, if_true, if_false]
            rw [show i - 1 - a.length = i - a.length - 1 by omega, b4]; omega
          · simp only [hi0, hib, show ¬ c + a.length < a.length by omega, show c + a.length < a.length + b.length by omega, if_true, if_false]
            rw [b5, Nat.add_sub_cancel]
      · obtain rfl : i = a.length + b.length := by omega
        have hx : (a ++ b.map (onN a.length) ++ [opN op ((a.length : Int) - 1) ((a.length : Int) + b.length - 1)])[a.length + b.length]'(by omega) = opN op ((a.length : Int) - 1) ((a.length : Int) + b.length - 1) := by
          rw [List.getElem_append_right (by simp)]
          simp
        rw [hx]
        refine .inr (.inr ⟨ho, ho', by omega, by simp only [opN]; omega, a.length - 1, by simp only [opN]; omega, ?_, ?_⟩)
        · simp only [show ¬ a.length + b.length - 1 < a.length by omega, show a.length + b.length - 1 < a.length + b.length by omega, if_true, if_false]
          rw [show a.length + b.length - 1 - a.length = b.length - 1 by omega, B.root]; omega
        · simp only [show ¬ a.length + b.length < a.length by omega, show ¬ a.length + b.length < a.length + b.length by omega, show a.length - 1 < a.length by omega, if_true, if_false]
          exact A.root.symm
end
end Go.Proofs.YtkfphaphiikloaaDoor
