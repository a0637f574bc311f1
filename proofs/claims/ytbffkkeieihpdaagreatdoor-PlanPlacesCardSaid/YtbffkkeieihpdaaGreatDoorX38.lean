import Derived.Test.YtbffkkeieihpdaaGreatDoorX37
set_option linter.unusedSimpArgs false
set_option linter.unusedVariables false
set_option linter.constructorNameAsVariable false
set_option maxRecDepth 100000
set_option maxHeartbeats 4000000
namespace Go.Proofs.YtbffkkeieihpdaaGreatDoor
open Go Go.Eng
abbrev Use3 := List Int × List Int × List Int
def rUse : Rdr Use3 where
 run h a := match a with
  | .g l => de3 (rL dIs) (rL dIs) (rL dIs) h l
  | _ => none
 sim {h h' a x} hh e := by
  split at e
  ·obtain ⟨a, b, c, rfl, e1, e2, e3⟩ := de3_out e
   simp only [de3, (rL dIs).sim hh e1, (rL dIs).sim hh e2, (rL dIs).sim hh e3, Option.bind_some, Option.map_some]
  ·cases e
theorem rUse_out {h : Heap} {a : AV} {x : Use3} (e : rUse.run h a = some x) : ∃ a1 a2 a3, a = .g [a1, a2, a3] ∧ rd dIs h a1 = some x.1 ∧ rd dIs h a2 = some x.2.1 ∧ rd dIs h a3 = some x.2.2 := by
 simp only [rUse] at e
 split at e
 ·obtain ⟨a, b, c, rfl, e1, e2, e3⟩ := de3_out e
  exact ⟨a, b, c, rfl, e1, e2, e3⟩
 ·cases e
theorem is_getD {h : Heap} {a : AV} {l : List Int} (e : rd dIs h a = some l) {i : Nat} (hi : i < l.length) : ∃ id off k, a = .s id k.ver off l.length ∧ h id = some k ∧ off + l.length ≤ k.cells.length ∧ k.cells[off + i]? = some (ii (l.getD i 0)) := by
 rcases is_at e with ⟨h0, _⟩ | ⟨id, off, k, h1, h2, h3, h4⟩
 ·rw [h0] at hi; simp at hi
 ·have hg : l.getD i 0 = l[i] := by rw [List.getD_eq_getElem?_getD, List.getElem?_eq_getElem hi]; rfl
  exact ⟨id, off, k, h1, h2, h3, by rw [hg]; exact h4 i hi⟩
def touch (it : It) : Bool := it.neg || decide (1 < it.hi)
theorem mixN_succ {q : Qu} {l : List Int} {j : Nat} (hj : j < l.length) : mixN q (l.take (j + 1)) = mixN q (l.take j) + (touch (q.items.getD (l.getD j 0).toNat it0)).toNat := by
 have hg : l.getD j 0 = l[j] := by rw [List.getD_eq_getElem?_getD, List.getElem?_eq_getElem hj]; rfl
 have hm : ∀ l, mixN q l = (l.filter fun i => touch (q.items.getD i.toNat it0)).length := fun l => rfl
 rw [hm, hm, List.take_succ_eq_append_getElem hj, List.filter_append, List.length_append, hg, List.filter_cons, List.filter_nil]
 cases touch (q.items.getD l[j].toNat it0) <;> rfl
theorem mixN_le (q : Qu) (l : List Int) : mixN q l ≤ l.length := List.length_filter_le _ _
def okMix (x : Qu × Use3) : Prop := QuSm x.1 ∧ x.2.1.length < big ∧ ∀ i, i < x.2.1.length → 0 ≤ x.2.1.getD i 0 ∧ x.2.1.getD i 0 < x.1.items.length
def GMix := pureH (de2 rQ rUse) okMix fun x => bv (decide (1 < mixN x.1 x.2.1))
section
theorem P157 : P0 [] 157 GMix := by
 refine mkH 2 (S := []) (l := []) tb_nil Tryz.func157 rfl (by kernel_rfl) de2_mono de2_len (fun a => rfl) (fun args q h n e hp hn => ?_)
 obtain ⟨x, u, rfl, e1, e2⟩ := de2_out e
 obtain ⟨q, l, l2, l3⟩ := q
 obtain ⟨hq, hl, hi⟩ := hp
 replace e1 : deQ h x = some q := e1
 simp only [] at e2 hq hl hi ⊢
 obtain ⟨a1, a2, a3, rfl, f1, f2, f3⟩ := rUse_out e2
 simp only [] at f1 f2 f3
 obtain ⟨a, b, c, rfl, x2, x3, x4⟩ := deQ_out e1
 have o1 := (sl_is x2).2.2.2.1
 have o2 := (sl_is x3).2.2.2.1
 have o3 := (sl_is x4).2.2.2.1
 have p2 := (sl_is f2).2.2.2.1
 have p3 := (sl_is f3).2.2.2.1
 obtain ⟨s1, s2, s3, s4, s5⟩ := sl_is f1
 have key : ∀ e : Nat → AV, e 0 = .g [a, ii q.mode, ii q.after, b, ii q.within, ss q.par, c] → e 1 = .g [a1, a2, a3] → awp (cx [] (pfL [])) (Tryz.f157.body.getD .skip) (finQ (cx [] (pfL [])) Tryz.f157 fun z _ _ => z = bv (decide (1 < mixN q l))) ⟨e, roH h, n⟩ := fun e q0 q1 => by
  simp [evx, Tryz.f157, q0, q1, ii, ss, bv, s1, s2, s4, o1, o2, o3, p2, p3]
  refine awp_loop (fun s => ∃ (j u v : Nat), j ≤ l.length ∧ s.e 2 = .p n 0 0 ∧ s.e 5 = ii u ∧ s.e 6 = ii v ∧ s.e 10 = a1 ∧ s.e 11 = ii l.length ∧ s.e 12 = ii j ∧ agree n (roH h) s.h ∧ s.h n = some ⟨[a, ii q.mode, ii q.after, b, ii q.within, ss q.par, c], 0, true, 7⟩ ∧ u + v = mixN q (l.take j)) (fun s => l.length - (s.e 12).i.toNat) ⟨0, 0, 0, by simp [up, ii, ss, agree_up, agree_refl, mixN]⟩ ?_
  rintro e' h' n' ⟨j, u, v, hj, q2, q5, q6, q10, q11, q12, hag, hb0, huv⟩
  simp only [] at q2 q5 q6 q10 q11 q12 hag hb0
  have hle := mixN_le q (l.take j)
  rw [List.length_take] at hle
  by_cases hlt : j < l.length
  ·obtain ⟨id, off, k, rfl, hk, ho, hc⟩ := is_getD f1 hlt
   have ha' := agree_at hn hk hag
   have hw := wrap_nat (j := j) (by omega)
   have hwu := wrap_nat (j := u) (by omega)
   have hwv := wrap_nat (j := v) (by omega)
   have hw1 : off + (j + 1) ≤ k.cells.length := by omega
   obtain ⟨hi0, hi1⟩ := hi j hlt
   have hms := mixN_succ (q := q) hlt
   generalize l.getD j 0 = i at *
   obtain ⟨m, rfl⟩ : ∃ m : Nat, i = m := ⟨i.toNat, by omega⟩
   have hm : m < q.items.length := by omega
   obtain ⟨id2, off2, k2, ty, rfl, hk2, ho2, c0, c1, c2, c3, c4, e6⟩ := its_getD x2 hm
   have ha2 := agree_at hn hk2 hag
   have hw2 : off2 + (m * 5 + 5) ≤ k2.cells.length := by omega
   have hw3 : off2 + (m * 5 + 1) ≤ k2.cells.length := by omega
   simp only [Int.toNat_natCast] at hms
   obtain ⟨it, hit⟩ : ∃ it, q.items.getD m it0 = it := ⟨_, rfl⟩
   rw [hit] at hms c0 c2 c3 c4
   clear hit
   obtain ⟨ng, types, var, lo, hi⟩ := it
   have htc : touch ⟨ng, types, var, lo, hi⟩ = (ng || decide (1 < hi)) := rfl
   rw [htc] at hms
   simp only [] at c0 c1 c2 c3 c4
   simp only [ii, ss, bv] at c0 c1 c2 c3 c4 hb0 hc q5 q6
   cases ng with
   | true =>
    simp only [Bool.true_or, Bool.toNat_true] at hms
    simp [evx, q2, q5, q6, q10, q11, q12, ii, hlt, ha', hc, hw1, hb0, hm, ha2, c0, hw3, hw, hwu]
    exact ⟨⟨j + 1, by omega, u + 1, by omega, v, by omega, by omega, hag, by simp [ss], by omega⟩, by omega⟩
   | false =>
    by_cases hh : 1 < hi
    ·simp only [Bool.false_or, hh, decide_true, Bool.toNat_true] at hms
     simp [evx, q2, q5, q6, q10, q11, q12, ii, hlt, ha', hc, hw1, hb0, hm, ha2, c0, c4, hw2, hw3, hw, hwv, hh]
     exact ⟨⟨j + 1, by omega, u, by omega, v + 1, by omega, by omega, hag, by simp [ss], by omega⟩, by omega⟩
    ·simp only [Bool.false_or, hh, decide_false, Bool.toNat_false] at hms
     simp [evx, q2, q5, q6, q10, q11, q12, ii, hlt, ha', hc, hw1, hb0, hm, ha2, c0, c4, hw2, hw3, hw, hh]
     exact ⟨⟨j + 1, by omega, u, by omega, v, by omega, by omega, hag, by simp [ss], by omega⟩, by omega⟩
  ·obtain rfl : j = l.length := by omega
   rw [List.take_length] at huv hle
   have hws : IntKind.i64.wrap ((u : Int) + v) = (u : Int) + v := wrap_sm (by omega) (by unfold big at hl; omega)
   simp [evx, q5, q6, q11, q12, ii, hws]
   rw [← huv]; omega
 exact key _ rfl rfl
end
end Go.Proofs.YtbffkkeieihpdaaGreatDoor

namespace Go.Proofs.YtbffkkeieihpdaaGreatDoor
open Go Go.Eng
def prevL (q : Qu) (t : List Nd) : List Int := usesL prevO (vars q.items) t
def aggL (q : Qu) (t : List Nd) : List Int := usesL aggO (vars q.items) t
def okWh (x : Qu × Ask) : Prop := okAsk x.2 ∧ QuSm x.1 ∧ x.1.items.length ≤ 10 ∧ (x.1.wh.length = 0 ∨ tree1 x.1.wh = true) ∧ x.2.2.1 = x.1
def GWh := pureH (de2 rQ rAsk) okWh fun x => ff (whF x.2.1 x.1)
def tbWh : List (FuncId × (List AV → Heap → PRes)) := [(154, GWalk), (156, G44), (157, GMix)]
section
variable {sc : List Ty} {q : Qu} {cs : List AV} {h : Heap} {n : Nat} {a b c : AV}
structure I104 (h : Heap) (n : Nat) (a b c : AV) (q : Qu) (s : St) : Prop where
 q2 : s.e 2 = .p n 0 0
 q4 : s.e 4 = .p (n + 2) 0 0
 ag : agree n (roH h) s.h
 b0 : s.h n = some ⟨[a, ii q.mode, ii q.after, b, ii q.within, ss q.par, c], 0, true, 7⟩
 b2 : s.h (n + 2) = some ⟨[ii 0, ii 0, ii 0, ii 0], 0, true, 4⟩
 nn : n + 3 ≤ s.n
 fr : Fresh s.n s.h
theorem f104a {fv : AV} (e2 : deQ h (.g [a, ii q.mode, ii q.after, b, ii q.within, ss q.par, c]) = some q) (e3 : rAsk.run h fv = some (sc, q, cs)) (hn : ∀ i, n ≤ i → h i = none) (hak : okAsk (sc, q, cs)) (hq : QuSm q) (h0 : q.wh.length ≠ 0) (ht : tree1 q.wh = true) (s : St) (q3 : s.e 3 = .p (n + 1) 0 0) (b1 : s.h (n + 1) = some ⟨[fv], 0, true, 1⟩) (i : I104 h n a b c q s) {Q : Ex → St → Prop}
  (hQ : (wlkW sc q).2 = 0 → ∀ s, I104 h n a b c q s → Q .normal s) (hR : (wlkW sc q).2 ≠ 0 → ∀ s : St, s.e 4 = .p (n + 2) 0 0 → s.h (n + 2) = some ⟨fcells (whF sc q), 0, true, 4⟩ → Q .ret s) :
  awp (cx [3] (pfL tbWh)) (hdC 3 (tlC 2 (Tryz.f104.body.getD .skip))) (fun x s => Q x s) s := by
 obtain ⟨e', h', n'⟩ := s
 obtain ⟨q2, q4, hag, hb0, hb2, hnn, hfr⟩ := i
 simp only [] at q2 q3 q4 hag hb0 b1 hb2 hnn hfr
 obtain ⟨a', b', c', hx, x2, x3, x4⟩ := deQ_out e2
 cases hx
 obtain ⟨s1, s2, s3, s4, s5⟩ := sl_is x3
 have g3 := rd_agree hn x3 _ hag
 have gf := rAsk.agree hn e3 _ hag
 have hfn : rFn.run h' (.f (.func 155) [] [.p (n + 1) 0 0]) = some (false, sc, q, cs) := by
  simp only [rFn, rAt, rC, b1, Option.bind_some, if_true, gf, Option.map_some]
 have hwl : q.wh.length * 64 ≤ 140737488355328 := hq.wh
 obtain ⟨j, hj⟩ : ∃ j, q.wh.length = j + 1 := ⟨q.wh.length - 1, by omega⟩
 have hw1 := wrapm1 (e := j) (by unfold big; omega)
 have hpos : 0 < q.wh.length := by omega
 have hWW : wlkW sc q = if (wlk sc q q.wh false).2 = 0 ∧ truthT q.wh = false then ((q.wh.length : Int) - 1, 75) else wlk sc q q.wh false := rfl
 have hF : whF sc q = if (wlkW sc q).2 ≠ 0 then ⟨(wlkW sc q).2, 4, (wlkW sc q).1, 0⟩ else mixF q := by unfold whF; rw [if_neg h0]
 have hok : okWalk (q.wh, false, sc, q, cs) := ⟨hq.wh, ht, hak⟩
 have hqw := hq.wh
 simp only [ii, ss] at hb0 hb2
 have fin : ∀ e2, (∀ i ∈ [2, 4], e2 i = e' i) → I104 h n a b c q ⟨e2, h', n'⟩ := fun e2 he =>
  ⟨(he 2 (by simp)).trans q2, (he 4 (by simp)).trans q4, hag, by simpa [ii, ss] using hb0, by simpa [ii] using hb2, hnn, hfr⟩
 obtain ⟨⟨wi, we⟩, hwk⟩ : ∃ x, wlk sc q q.wh false = x := ⟨_, rfl⟩
 rw [hwk] at hWW
 simp only [] at hWW
 by_cases hwe : we = 0
 ·subst hwe
  cases htr : truthT q.wh with
  | true =>
   rw [htr, if_neg (by simp)] at hWW
   have hQ' := hQ (by rw [hWW])
   simp [evx, hdC, tlC, Tryz.f104, q2, q3, hb0, ii, bv, tbWh, GWalk, pureH, de2, rL, g3, hfn, hok, walkA, hwk, G44, deT, hqw, htr, hpos]
   exact hQ' _ (fin _ (by simp [up]))
  | false =>
   rw [htr, if_pos ⟨rfl, rfl⟩] at hWW
   have hR' := hR (by rw [hWW]; simp)
   rw [hWW, if_pos (by simp)] at hF
   simp [evx, hdC, tlC, Tryz.f104, q2, q3, q4, hb0, hb2, ii, bv, s1, s2, tbWh, GWalk, pureH, de2, rL, g3, hfn, hok, walkA, hwk, G44, deT, hqw, htr, hpos]
   refine hR' _ ?_ ?_
   ·simp [up, q4]
   ·simp [up, fcells, hF, ii, hj]
    simpa using hw1
 ·rw [if_neg (fun h => hwe h.1)] at hWW
  have hR' := hR (by rw [hWW]; exact hwe)
  rw [hWW, if_pos hwe] at hF
  simp [evx, hdC, tlC, Tryz.f104, q2, q3, q4, hb0, hb2, ii, tbWh, GWalk, pureH, de2, rL, g3, hfn, hok, walkA, hwk, hwe]
  refine hR' _ ?_ ?_
  ·simp [up, q4]
  ·simp [up, fcells, hF, ii]
structure J104 (h : Heap) (n : Nat) (a b c : AV) (q : Qu) (k : Nat) (s : St) : Prop extends I104 h n a b c q s where
 q40 : ∃ w u, s.e 40 = .s w u 0 (conjW q.wh).length ∧ s.h w = some ⟨(conjW q.wh).map fun x : Nat => ii x, u, true, 1⟩ ∧ n + 3 ≤ w ∧ w < s.n
 q41 : s.e 41 = ii (conjW q.wh).length
 q42 : s.e 42 = ii k
 no : ∀ i, i < k → mixE q i = 0
theorem f104b (e2 : deQ h (.g [a, ii q.mode, ii q.after, b, ii q.within, ss q.par, c]) = some q) (hn : ∀ i, n ≤ i → h i = none) (hq : QuSm q) (h10 : q.items.length ≤ 10) (ht : tree1 q.wh = true) (s : St) (k : Nat) (hk : k < (conjW q.wh).length) (i : J104 h n a b c q k s) {Q : Ex → St → Prop}
  (hQ : ∀ s, J104 h n a b c q (k + 1) s → Q .normal s) (hR : (mixF q).code ≠ 0 → ∀ s : St, s.e 4 = .p (n + 2) 0 0 → s.h (n + 2) = some ⟨fcells (mixF q), 0, true, 4⟩ → Q .ret s) :
  awp (cx [3] (pfL tbWh)) (bodyL (hdC 1 (tlC 5 (Tryz.f104.body.getD .skip)))) Q s := by
 obtain ⟨e', h', n'⟩ := s
 obtain ⟨⟨q2, q4, hag, hb0, hb2, hnn, hfr⟩, ⟨w, u, q40, hwb, hw3, hwn⟩, q41, q42, hno⟩ := i
 simp only [] at q2 q4 hag hb0 hb2 hnn hfr q40 hwb hwn q41 q42
 have g2 := q_agree hn e2
 obtain ⟨a', b', c', hx, x2, x3, x4⟩ := deQ_out e2
 cases hx
 have o1 := (sl_is x2).2.2.1
 have o2 := (sl_is x3).2.2.1
 have o3 := (sl_is x4).2.2.1
 have T := tre_of ht
 have hwl : q.wh.length * 64 ≤ 140737488355328 := hq.wh
 have hcl : (conjW q.wh).length ≤ q.wh.length := by
  have := conj_len T (q.wh.length - 1) (by have := T.pos; omega)
  unfold conjW; have := T.pos; omega
 have hkw := wrap_nat (j := k) (by unfold big; omega)
 have hmiss := fun hy => upTo_succ (p := fun i => mixE q i = 0) hno hy
 have hhit := fun hy : mixE q k ≠ 0 => fstI_at (f := mixE q) hno hy hk
 have hE : mixE q k = if 1 < mixN q (bareT q (subT q.wh ((conjW q.wh).getD k 0))) then 77 else 0 := rfl
 have hMF : mixF q = if (fstI (mixE q) (conjW q.wh).length).2 ≠ 0 then ⟨77, 4, ((conjW q.wh).getD (fstI (mixE q) (conjW q.wh).length).1.toNat 0 : Nat), 0⟩ else fl0 := rfl
 have hrl : (conjW q.wh).getD k 0 < q.wh.length := by
  have hm : (conjW q.wh).getD k 0 ∈ conjW q.wh := by rw [List.getD_eq_getElem?_getD, List.getElem?_eq_getElem hk]; exact List.getElem_mem hk
  have := (conj_all T (q.wh.length - 1) (by have := T.pos; omega)).1 _ hm
  have := T.pos; omega
 have hcs : ((conjW q.wh).map fun x : Nat => ii x)[k]? = some (ii ((conjW q.wh).getD k 0 : Nat)) := by
  rw [List.getElem?_map, List.getD_eq_getElem?_getD, List.getElem?_eq_getElem hk]; rfl
 have hcln : ((conjW q.wh).map fun x : Nat => ii x).length = (conjW q.wh).length := by simp
 generalize hcc : ((conjW q.wh).map fun x : Nat => ii x) = cells at *
 generalize hrr : (conjW q.wh).getD k 0 = r at *
 have hlt' : (k : Int) < ((conjW q.wh).length : Int) := by omega
 simp only [ii] at hcs
 have hcj : k < cells.length := by omega
 have hcg : cells[k]'hcj = .v (.int .i64 r) := by rw [List.getElem?_eq_getElem hcj] at hcs; exact Option.some.inj hcs
 have hk1 : k + 1 ≤ (conjW q.wh).length := hk
 simp only [ii, ss] at hb0 hb2 g2
 have e3' := rd_agree hn x3 _ hag
 have eq' := g2 _ hag
 simp [evx, hdC, tlC, bodyL, Tryz.f104, q2, q4, q40, q41, q42, ii, hwb, hcg, hcln, hk, hlt', hk1, hb0, tbWh]
 refine (acall_any (S := [3]) (by simp) (c52 e3' ht hq.wh hrl hfr)).mono ?_
 rintro z h2 n2 ⟨a1, a2, a3, m2, rfl, hm, hm1, hm2⟩
 have rs' : rd dNs h2 (.s m2 0 0 (subT q.wh r).length) = some (subT q.wh r) := flat_in Flat.nd hm rfl (r := []) (by simp)
 have hss : smallT (subT q.wh r) := by
  have h3 := cut_len (lo := loOf q.wh) hrl (T.le r hrl)
  unfold smallT subT; rw [h3]; exact Nat.le_trans (Nat.mul_le_mul_right 64 (by omega)) hwl
 have eq2 := deQ_sim (agr_sim hfr a1) eq'
 refine ⟨keep_le (agr_le hfr a1), ?_⟩
 refine (acall_any (S := []) (by simp) (c49 eq2 rs' (by omega) hss a2)).mono ?_
 rintro z h3 n3 ⟨c1, c2, c3, y1, y2, y3, rfl, r1, r2, r3⟩
 refine ⟨keep_le (agr_le a2 c1), ?_⟩
 have eq3 := deQ_sim (agr_sim a2 c1) eq2
 have hag3 : agree n' h' h3 := agree_trans a1 c1 a3
 have p1 := (sl_is r1).2.2.1
 have p2 := (sl_is r2).2.2.1
 have p3 := (sl_is r3).2.2.1
 have hbl : (bareT q (subT q.wh r)).length ≤ q.items.length := by
  unfold bareT usesL
  refine Nat.le_trans (List.length_filter_le _ _) ?_
  simp [vars]
 have hok : okMix (q, bareT q (subT q.wh r), prevL q (subT q.wh r), aggL q (subT q.wh r)) := by
  refine ⟨hq, by simp only []; have := hq.it; omega, fun i hi => ?_⟩
  have hmem : (bareT q (subT q.wh r)).getD i 0 ∈ bareT q (subT q.wh r) := by
   rw [List.getD_eq_getElem?_getD, List.getElem?_eq_getElem hi]; exact List.getElem_mem hi
  obtain ⟨u1, u2, _⟩ := uses_is hmem
  simp only [vars, List.length_map] at u2
  exact ⟨u1, u2⟩
 have hmx : GMix [.g [a, .v (.int .i64 q.mode), .v (.int .i64 q.after), b, .v (.int .i64 q.within), .v (.string q.par), c], .g [y1, y2, y3]] h3 = ⟨okMix (q, bareT q (subT q.wh r), prevL q (subT q.wh r), aggL q (subT q.wh r)), bv (decide (1 < mixN q (bareT q (subT q.wh r))))⟩ := by
  simp only [GMix, pureH, de2, rQ, eq3, rUse, de3, rL, bareT, r1, r2, r3, Option.bind_some, Option.map_some, prevL, aggL]
  rfl
 have z2 : n + 2 < n' := by omega
 have b0' : h3 n = _ := (hag3 n (by omega)).trans hb0
 have b2' : h3 (n + 2) = _ := (hag3 (n + 2) (by omega)).trans hb2
 have wb' : h3 w = _ := (hag3 w hwn).trans hwb
 have hag4 : agree n (roH h) h3 := agree_trans hag hag3 (by omega)
 by_cases hmix : 1 < mixN q (bareT q (subT q.wh r))
 ·rw [if_pos hmix] at hE
  have hh := hhit (by rw [hE]; decide)
  rw [hh, hE, if_pos (by simp)] at hMF
  simp only [Int.toNat_natCast, hrr] at hMF
  have hR' := hR (by rw [hMF]; simp)
  simp [evx, hmx, hok, hmix, bv, b2']
  refine hR' _ ?_ ?_
  ·simp [up, q4]
  ·simp [up, fcells, hMF, ii]
 ·rw [if_neg hmix] at hE
  have hh := hmiss hE
  simp [evx, hmx, hok, hmix, bv, hkw]
  refine hQ _ ⟨⟨by simp [up, q2], by simp [up, q4], hag4, by simpa [ii, ss] using b0', by simpa [ii] using b2', by simp only []; omega, c2⟩, ⟨w, u, by simp [up, q40], by simp only []; rw [hcc]; exact wb', hw3, by simp only []; omega⟩, by simp [up, q41, ii], by simp [up, ii], hh⟩
theorem P104 : P0 [3] 104 GWh := by
 refine mkH 2 (S := [3]) (l := tbWh) (tb_cons P154 (tb_cons P44 (tb_cons P157 tb_nil))) Tryz.func104 rfl (by kernel_rfl) de2_mono de2_len (fun a => rfl) (fun args q h n e hp hn => ?_)
 obtain ⟨x, fv, rfl, e1, e2⟩ := de2_out e
 obtain ⟨q, sc, q', cs⟩ := q
 obtain ⟨hak, hq, h10, hwt, hqq⟩ := hp
 simp only [] at e1 e2 hak hq h10 hwt hqq ⊢
 subst hqq
 replace e1 : deQ h x = some q' := e1
 obtain ⟨a, b, c, rfl, x2, x3, x4⟩ := deQ_out e1
 have o1 := (sl_is x2).2.2.2.1
 have o3 := (sl_is x4).2.2.2.1
 obtain ⟨s1, s2, s3, s4, s5⟩ := sl_is x3
 obtain ⟨p1, p2, p3, rfl, f1, f2, f3⟩ := rAsk_out e2
 have key : ∀ e : Nat → AV, e 0 = .g [a, ii q'.mode, ii q'.after, b, ii q'.within, ss q'.par, c] → e 1 = .f (.func 102) [] [p1, p2, p3] → awp (cx [3] (pfL tbWh)) (Tryz.f104.body.getD .skip) (finQ (cx [3] (pfL tbWh)) Tryz.f104 fun z _ _ => z = ff (whF sc q')) ⟨e, roH h, n⟩ := fun e q0 q1 => by
  have hret : ∀ (s : St) (f : Fl), s.e 4 = .p (n + 2) 0 0 → s.h (n + 2) = some ⟨fcells f, 0, true, 4⟩ → resAll (cx [3] (pfL tbWh)) s Tryz.f104.results.toList ∧ resVal (cx [3] (pfL tbWh)) s Tryz.f104.results.toList = ff f := fun s f h4 hb => by
   simp [evx, Tryz.f104, h4, hb, fcells, ff]
  by_cases h0 : q'.wh.length = 0
  ·have hF : whF sc q' = fl0 := by unfold whF; rw [if_pos h0]
   simp [evx, Tryz.f104, q0, q1, ii, ss, s1, s2, s4, o1, o3, h0, hF, ff, fcells, fl0]
  ·have ht := hwt.resolve_left h0
   refine awp_cut 2 _ _ (R := fun s => s.e 3 = .p (n + 1) 0 0 ∧ s.h (n + 1) = some ⟨[.f (.func 102) [] [p1, p2, p3]], 0, true, 1⟩ ∧ I104 h n a b c q' s) ?_ fun y1 h1 n1 ⟨q3, b1, i1⟩ => ?_
   ·simp [evx, hdC, Tryz.f104, q0, q1, ii, ss, s1, s2, s4, o1, o3, h0]
    exact ⟨by simp [up], by simp [up], by simp [agree_up, agree_refl], by simp [up, ii, ss], by simp [up, ii], by simp, fun i hi => by simp only [] at hi; simp only []; rw [up_ne _ _ (by omega), up_ne _ _ (by omega), up_ne _ _ (by omega)]; simp [roH, hn i (by omega)]⟩
   refine awp_cut 3 _ _ (R := fun s => (wlkW sc q').2 = 0 ∧ I104 h n a b c q' s) (f104a e1 e2 hn hak hq h0 ht _ q3 b1 i1 (fun h5 s i => ⟨h5, i⟩) fun h5 s h6 h7 => hret s _ h6 h7) fun y2 h2 n2 ⟨h5, i2⟩ => ?_
   have hF : whF sc q' = mixF q' := by unfold whF; rw [if_neg h0, if_neg (not_not_intro h5)]
   refine awp_cut 1 _ _ (R := fun s => (mixF q').code = 0 ∧ s.e 4 = .p (n + 2) 0 0 ∧ s.h (n + 2) = some ⟨[ii 0, ii 0, ii 0, ii 0], 0, true, 4⟩) ?_ fun y3 h3 n3 ⟨h6, q4, hb2⟩ => ?_
   ·show awp (cx [3] (pfL tbWh)) (.seq (hdC 1 (hdC 1 (tlC 5 (Tryz.f104.body.getD .skip)))) (.block 0 (.loop (bodyL (hdC 1 (tlC 5 (Tryz.f104.body.getD .skip))))))) _ _
    obtain ⟨q2, q4, hag, hb0, hb2, hnn, hfr⟩ := i2
    simp only [ii, ss] at q2 q4 hag hb0 hb2 hnn hfr
    have g3 := rd_agree hn x3 _ hag
    simp [evx, hdC, tlC, Tryz.f104, q2, hb0, ii, tbWh]
    refine (acall_any (S := [3]) (by simp) (c51 g3 ht hq.wh hfr)).mono ?_
    rintro z h3 n3 ⟨a1, a2, a3, w, u, rfl, hw, hw1, hw2⟩
    simp [evx]
    refine awp_loop (fun s => ∃ k, k ≤ (conjW q'.wh).length ∧ J104 h n a b c q' k s) (fun s => (conjW q'.wh).length - (s.e 42).i.toNat) ⟨0, by omega, ⟨⟨by simp [up, q2], by simp [up, q4], agree_trans hag a1 (by omega), by simp only []; rw [a1 n (by omega)]; simpa [ii, ss] using hb0, by simp only []; rw [a1 (n + 2) (by omega)]; simpa [ii] using hb2, by simp only []; omega, a2⟩, ⟨w, u, by simp [up, conjW], hw, by omega, hw2⟩, by simp [up, ii, conjW], by simp [up, ii], by omega⟩⟩ ?_
    rintro e' h' n' ⟨k, hk, j⟩
    have j42 := j.q42
    have j41 := j.q41
    simp only [] at j42 j41
    by_cases hlt : k < (conjW q'.wh).length
    ·refine f104b e1 hn hq h10 ht _ k hlt j (fun s j' => ?_) fun h7 s h8 h9 => ?_
     ·have j42' := j'.q42
      simp only [thenQ_n]
      refine ⟨⟨k + 1, by omega, j'⟩, ?_⟩
      rw [j42, j42']
      simp [ii, AV.i]; omega
     ·simp only [thenQ_r, blockQ_r, finQ_r]
      have := hret s (whF sc q') h8 (by rw [hF]; exact h9)
      exact this
    ·obtain rfl : k = (conjW q'.wh).length := by omega
     have j4 := j.q4
     have jb := j.b2
     simp only [] at j4 jb
     have hmf : (mixF q').code = 0 := by unfold mixF; rw [fstI_none j.no]; rfl
     simp [evx, bodyL, j41, j42, ii]
     exact ⟨hmf, j4, by simpa [ii] using jb⟩
   ·simp only [] at q4 hb2
    have hm : mixF q' = fl0 := (mixF_ok h6).1
    simp [evx, tlC, Tryz.f104, q4, hb2, ii, hF, hm, fl0, ff, fcells]
 exact key _ rfl rfl
end
end Go.Proofs.YtbffkkeieihpdaaGreatDoor

namespace Go.Proofs.YtbffkkeieihpdaaGreatDoor
open Go Go.Eng
def okRes (x : Qu × Ask) : Prop := okAsk x.2 ∧ QuSm x.1 ∧ (∀ i, i < x.1.ret.length → tree1 (x.1.ret.getD i []) = true) ∧ x.2.2.1 = x.1
def GRes := pureH (de2 rQ rAsk) okRes fun x => ff (retF x.2.1 x.1)
def tbRes : List (FuncId × (List AV → Heap → PRes)) := [(154, GWalk), (156, G44)]
theorem sls_getD {α : Type} {sz : Nat} {d : De α} {h : Heap} {a : AV} {l : List (List α)} (e : rd (De.sl 1 (De.sl sz d)) h a = some l) {i : Nat} (hi : i < l.length) : ∃ id off k c, a = .s id k.ver off l.length ∧ h id = some k ∧ off + l.length ≤ k.cells.length ∧ k.cells[off + i]? = some c ∧ rd (De.sl sz d) h c = some (l.getD i []) := by
 rcases sls_at e with ⟨h0, _⟩ | ⟨id, off, k, h1, h2, h3, h4⟩
 ·rw [h0] at hi; simp at hi
 ·obtain ⟨c, h5, h6⟩ := h4 i hi
  have hg : l.getD i [] = l[i] := by rw [List.getD_eq_getElem?_getD, List.getElem?_eq_getElem hi]; rfl
  exact ⟨id, off, k, c, h1, h2, h3, h5, by rw [hg]; exact h6⟩
section
theorem P106 : P0 [] 106 GRes := by
 refine mkH 2 (S := []) (l := tbRes) (tb_cons P154 (tb_cons P44 tb_nil)) Tryz.func106 rfl (by kernel_rfl) de2_mono de2_len (fun a => rfl) (fun args q h n e hp hn => ?_)
 obtain ⟨x, fv, rfl, e1, e2⟩ := de2_out e
 obtain ⟨q, sc, q', cs⟩ := q
 obtain ⟨hak, hq, hrt, hqq⟩ := hp
 simp only [] at e1 e2 hak hq hrt hqq ⊢
 subst hqq
 replace e1 : deQ h x = some q' := e1
 obtain ⟨a, b, c, rfl, x2, x3, x4⟩ := deQ_out e1
 have o1 := (sl_is x2).2.2.2.1
 have o2 := (sl_is x3).2.2.2.1
 obtain ⟨s1, s2, s3, s4, s5⟩ := sl_is x4
 have gf := rAsk.agree hn e2
 obtain ⟨p1, p2, p3, rfl, f1, f2, f3⟩ := rAsk_out e2
 have hrl := hq.rl
 have key : ∀ e : Nat → AV, e 0 = .g [a, ii q'.mode, ii q'.after, b, ii q'.within, ss q'.par, c] → e 1 = .f (.func 102) [] [p1, p2, p3] → awp (cx [] (pfL tbRes)) (Tryz.f106.body.getD .skip) (finQ (cx [] (pfL tbRes)) Tryz.f106 fun z _ _ => z = ff (retF sc q')) ⟨e, roH h, n⟩ := fun e q0 q1 => by
  by_cases h8 : 8 < q'.ret.length
  ·have hF : retF sc q' = ⟨78, 5, 8, 0⟩ := by unfold retF; rw [if_pos h8]
   have h8' : (8 : Int) < q'.ret.length := by omega
   simp [evx, Tryz.f106, q0, q1, ii, ss, s1, s2, s4, o1, o2, h8', hF, ff, fcells]
  ·have h8' : ¬ (8 : Int) < q'.ret.length := by omega
   simp [evx, Tryz.f106, q0, q1, ii, ss, s1, s2, s4, o1, o2, h8']
   refine awp_loop (fun s => ∃ j : Nat, j ≤ q'.ret.length ∧ s.e 3 = .p (n + 1) 0 0 ∧ s.e 4 = .p (n + 2) 0 0 ∧ s.e 15 = c ∧ s.e 16 = ii q'.ret.length ∧ s.e 17 = ii j ∧ agree n (roH h) s.h ∧ s.h (n + 1) = some ⟨[.f (.func 102) [] [p1, p2, p3]], 0, true, 1⟩ ∧ s.h (n + 2) = some ⟨[ii 0, ii 0, ii 0, ii 0], 0, true, 4⟩ ∧ ∀ i, i < j → retE sc q' i = 0) (fun s => q'.ret.length - (s.e 17).i.toNat) ⟨0, by simp [up, ii, agree_up, agree_refl]⟩ ?_
   rintro e' h' n' ⟨j, hj, q3, q4, q15, q16, q17, hag, b1, b2, hno⟩
   simp only [] at q3 q4 q15 q16 q17 hag b1 b2
   by_cases hlt : j < q'.ret.length
   ·obtain ⟨id, off, k, c', rfl, hk, ho, hc', hcr⟩ := sls_getD x4 hlt
    have ha' := agree_at hn hk hag
    have hw := wrap_nat (j := j) (by omega)
    have hw1 : off + (j + 1) ≤ k.cells.length := by omega
    have hsm := hq.rt j hlt
    have ht := hrt j hlt
    have hmiss := fun hy => upTo_succ (p := fun i => retE sc q' i = 0) hno hy
    have hhit := fun hy : retE sc q' j ≠ 0 => fstI_at (f := retE sc q') hno hy hlt
    have hE : retE sc q' j = (wlkR sc q' (q'.ret.getD j [])).2 := rfl
    have hRF : retF sc q' = if (fstI (retE sc q') q'.ret.length).2 ≠ 0 then ⟨(fstI (retE sc q') q'.ret.length).2, 5, (fstI (retE sc q') q'.ret.length).1, (wlkR sc q' (q'.ret.getD (fstI (retE sc q') q'.ret.length).1.toNat [])).1⟩ else fl0 := by unfold retF; rw [if_neg h8]
    have gr : rd dNs h' c' = some (q'.ret.getD j []) := rd_agree hn hcr _ hag
    have u1 := (sl_is hcr).1
    have u2 := (sl_is hcr).2.1
    have u3 := (sl_is hcr).2.2.1
    have hfn : rFn.run h' (.f (.func 158) [] [.p (n + 1) 0 0]) = some (true, sc, q', cs) := by
     simp only [rFn, rAt, rC, b1, Option.bind_some, if_true, gf _ hag, Option.map_some]
    have hWR : wlkR sc q' (q'.ret.getD j []) = if (wlk sc q' (q'.ret.getD j []) true).2 = 0 ∧ truthT (q'.ret.getD j []) = true then (((q'.ret.getD j []).length : Int) - 1, 75) else wlk sc q' (q'.ret.getD j []) true := rfl
    generalize htg : q'.ret.getD j [] = t at *
    have hpos : 0 < t.length := (tre_of ht).pos
    have hsm' : t.length * 64 ≤ 140737488355328 := hsm
    obtain ⟨m, hm⟩ : ∃ m, t.length = m + 1 := ⟨t.length - 1, by omega⟩
    have hwm := wrapm1 (e := m) (by unfold big; omega)
    have hwm' : IntKind.i64.wrap ((t.length : Int) - 1) = (t.length : Int) - 1 := by rw [hm, hwm]; omega
    have hok : okWalk (t, true, sc, q', cs) := ⟨hsm, ht, hak⟩
    obtain ⟨⟨wi, we⟩, hwk⟩ : ∃ x, wlk sc q' t true = x := ⟨_, rfl⟩
    rw [hwk] at hWR
    simp only [] at hWR
    simp only [ii] at b2
    by_cases hwe : we = 0
    ·subst hwe
     cases htr : truthT t with
     | false =>
      rw [htr, if_neg (by simp)] at hWR
      rw [hWR] at hE
      have h3 := hmiss hE
      simp [evx, q3, q4, q15, q16, q17, ii, bv, hlt, ha', hc', hw1, b1, b2, u3, tbRes, GWalk, pureH, de2, rL, gr, hfn, hok, walkA, hwk, G44, deT, hsm, hpos, htr, hw]
      exact ⟨⟨j + 1, by omega, by omega, hag, h3⟩, by omega⟩
     | true =>
      rw [htr, if_pos ⟨rfl, rfl⟩] at hWR
      rw [hWR] at hE
      have h3 := hhit (by rw [hE]; simp)
      rw [h3, if_pos (by rw [hE]; simp)] at hRF
      simp only [Int.toNat_natCast, htg, hWR] at hRF
      simp [evx, q3, q4, q15, q16, q17, ii, bv, hlt, ha', hc', hw1, b2, u1, u2, u3, tbRes, GWalk, pureH, de2, rL, gr, hfn, hok, walkA, hwk, G44, deT, hsm, hpos, htr, hRF, ff, fcells, hwm', hE]
    ·rw [if_neg (fun h => hwe h.1)] at hWR
     rw [hWR] at hE
     have h3 := hhit (by rw [hE]; exact hwe)
     rw [h3, if_pos (by rw [hE]; exact hwe)] at hRF
     simp only [Int.toNat_natCast, htg, hWR] at hRF
     simp [evx, q3, q4, q15, q16, q17, ii, hlt, ha', hc', hw1, b2, u3, tbRes, GWalk, pureH, de2, rL, gr, hfn, hok, walkA, hwk, hwe, hRF, ff, fcells, hE]
   ·obtain rfl : j = q'.ret.length := by omega
    have hF : retF sc q' = fl0 := by unfold retF; rw [if_neg h8, fstI_none hno]; rfl
    simp only [ii] at b2
    simp [evx, q4, q16, q17, ii, b2, hF, ff, fcells, fl0]
 exact key _ rfl rfl
def GChk := pureH (de2 rSc rQ) okCh fun q => ff (chk q.1 q.2)
def tbChk : List (FuncId × (List AV → Heap → PRes)) := [(99, GSch), (100, GShQ), (101, GIts), (104, GWh), (105, GPart), (106, GRes)]
variable {sc : List Ty} {q : Qu} {h : Heap} {n : Nat} {x a b c : AV}
structure I54 (h : Heap) (n : Nat) (x a b c : AV) (q : Qu) (s : St) : Prop where
 q2 : s.e 2 = .p n 0 0
 q3 : s.e 3 = .p (n + 1) 0 0
 q4 : s.e 4 = .p (n + 2) 0 0
 ag : agree n (roH h) s.h
 b0 : s.h n = some ⟨[x], 0, true, 1⟩
 b1 : s.h (n + 1) = some ⟨[a, ii q.mode, ii q.after, b, ii q.within, ss q.par, c], 0, true, 7⟩
 b2 : s.h (n + 2) = some ⟨[ii 0, ii 0, ii 0, ii 0], 0, true, 4⟩
 nn : n + 3 ≤ s.n
 fr : Fresh s.n s.h
structure J54 (h : Heap) (n : Nat) (x a b c : AV) (q : Qu) (cs : List AV) (s : St) : Prop extends I54 h n x a b c q s where
 ask : ∃ m w, s.e 8 = .f (.func 102) [] [.p n 0 0, .p (n + 1) 0 0, .p w 0 0] ∧ s.h w = some ⟨[.mv m 0], 0, true, 1⟩ ∧ s.h m = some ⟨cs, 0, true, 0⟩ ∧ n + 3 ≤ w ∧ n + 3 ≤ m ∧ w < s.n ∧ m < s.n
 isM : isM (ixM (vars q.items)) cs
theorem J54.run {cs : List AV} {s : St} (j : J54 h n x a b c q cs s) (hn : ∀ i, n ≤ i → h i = none) (e1 : deSc h (.g [x]) = some sc) (e2 : deQ h (.g [a, ii q.mode, ii q.after, b, ii q.within, ss q.par, c]) = some q) : rAsk.run s.h (s.e 8) = some (sc, q, cs) := by
 obtain ⟨m, w, k1, k2, k3, _⟩ := j.ask
 have g1 := sc_agree hn e1 _ j.ag
 have g2 := q_agree hn e2 _ j.ag
 rw [k1]
 simp only [rAsk, de3, rAt, rC, j.b0, j.b1, k2, rM, k3, if_true, Option.bind_some, rSc, rQ, g1, g2, Option.map_some]
theorem f54b (e1 : deSc h (.g [x]) = some sc) (e2 : deQ h (.g [a, ii q.mode, ii q.after, b, ii q.within, ss q.par, c]) = some q) (hn : ∀ i, n ≤ i → h i = none) (hsc : smallS sc) (hq : QuSm q) (s : St) (i : I54 h n x a b c q s) {Q : Ex → St → Prop} :
  awp (cx [3] (pfL tbChk)) (hdC 2 (tlC 4 (Tryz.f54.body.getD .skip))) (thenQ (fun s => ∃ cs, J54 h n x a b c q cs s) Q) s := by
 obtain ⟨e', h', n'⟩ := s
 obtain ⟨q2, q3, q4, hag, b0, b1, b2, hnn, hfr⟩ := i
 simp only [ii, ss] at q2 q3 q4 hag b0 b1 b2 hnn hfr
 have g2 := q_agree hn e2 _ hag
 obtain ⟨a', b', c', hx, x2, x3, x4⟩ := deQ_out e2
 cases hx
 have o1 := (sl_is x2).2.2.1
 have o2 := (sl_is x3).2.2.1
 have o3 := (sl_is x4).2.2.1
 simp [evx, hdC, tlC, Tryz.f54, q2, q3, b1, tbChk]
 simp only [ii, ss] at g2
 refine (acall_any (S := []) (by simp) (c84 g2 hq.it hfr)).mono ?_
 rintro z h2 n2 ⟨a1, a2, a3, m, cs, rfl, hm, hM, hm1, hm2⟩
 simp [evx]
 have z : ∀ i b1 b2, i < n2 → up (up h2 n2 b1) n2 b2 i = h2 i := fun i b1 b2 hi => by rw [up_ne _ _ (by omega), up_ne _ _ (by omega)]
 refine ⟨cs, ⟨⟨by simp [up, q2], by simp [up, q3], by simp [up, q4], fun i hi => ?_, ?_, ?_, ?_, ?_, ?_⟩, ⟨m, n2, by simp [up], by simp [up], ?_, by omega, by omega, show n2 < n2 + 2 by omega, show m < n2 + 2 by omega⟩, hM⟩⟩
 ·simp only []; rw [z _ _ _ (by omega), a1 i (by omega)]; exact hag i hi
 ·simp only []; rw [z _ _ _ (by omega), a1 n (by omega)]; exact b0
 ·simp only []; rw [z _ _ _ (by omega), a1 _ (by omega)]; simpa [ii, ss] using b1
 ·simp only []; rw [z _ _ _ (by omega), a1 _ (by omega)]; simpa [ii] using b2
 ·show n + 3 ≤ n2 + 2; omega
 ·show Fresh (n2 + 2) _; exact (fresh_up (by omega) _).2 ((fresh_up (by omega) _).2 (a2.add 2))
 ·simp only []; rw [z _ _ _ (by omega)]; exact hm
theorem P54 : P0 [3] 54 GChk := by
 refine mkH 2 (S := [3]) (l := tbChk) (tb_cons P99 (tb_cons P100 (tb_cons P101 (tb_cons P104 (tb_cons P105 (tb_cons P106 tb_nil)))))) Tryz.func54 rfl (by kernel_rfl) de2_mono de2_len (fun a => rfl) (fun args q h n e hp hn => ?_)
 obtain ⟨x, y, rfl, e1, e2⟩ := de2_out e
 obtain ⟨sc, q⟩ := q
 obtain ⟨hsc, hq⟩ := hp
 simp only [] at e1 e2 hsc hq ⊢
 replace e1 : deSc h x = some sc := e1
 replace e2 : deQ h y = some q := e2
 have g1 := sc_agree hn e1
 have g2 := q_agree hn e2
 obtain ⟨x, rfl, ex⟩ := deSc_out e1
 have t3 := (sl_is ex).2.2.1
 have t4 := (sl_is ex).2.2.2.1
 obtain ⟨a, b, c, rfl, x2, x3, x4⟩ := deQ_out e2
 have o1 := (sl_is x2).2.2.1
 have o2 := (sl_is x3).2.2.1
 have o3 := (sl_is x4).2.2.1
 have p1 := (sl_is x2).2.2.2.1
 have p2 := (sl_is x3).2.2.2.1
 have p3 := (sl_is x4).2.2.2.1
 have hok : okCh (sc, q) := ⟨hsc, hq⟩
 have hcd : chk sc q = if schF sc ≠ 0 then ⟨schF sc, 0, 0, 0⟩ else if shQ q = false then ⟨50, 0, 0, 0⟩ else if (itsF sc q).code ≠ 0 then itsF sc q else if (whF sc q).code ≠ 0 then whF sc q else
  if 1099511627776 < q.within then ⟨66, 2, 0, 0⟩ else if emB q.par = false ∧ partB sc q = false then ⟨67, 3, 0, 0⟩ else retF sc q := rfl
 have gq0 := g2
 simp only [ii, ss] at g2
 have hag3 : ∀ b0 b1 b2, agree n (roH h) (up (up (up (roH h) n b0) (n + 1) b1) (n + 2) b2) := fun b0 b1 b2 => by simp [agree_up, agree_refl]
 have hagf : ∀ h' b0 b1 b2, h' = up (up (up (roH h) n b0) (n + 1) b1) (n + 2) b2 → agree n (roH h) h' := fun h' b0 b1 b2 e => by rw [e]; exact hag3 _ _ _
 have key : ∀ e : Nat → AV, e 0 = .g [x] → e 1 = .g [a, ii q.mode, ii q.after, b, ii q.within, ss q.par, c] → awp (cx [3] (pfL tbChk)) (Tryz.f54.body.getD .skip) (finQ (cx [3] (pfL tbChk)) Tryz.f54 fun z _ _ => z = ff (chk sc q)) ⟨e, roH h, n⟩ := fun e q0 q1 => by
  by_cases h1 : schF sc = 0
  ·rw [if_neg (not_not_intro h1)] at hcd
   cases h2 : shQ q with
   | false =>
    rw [h2, if_pos rfl] at hcd
    simp [evx, Tryz.f54, q0, q1, ii, ss, bv, t4, p1, p2, p3, tbChk, GSch, GShQ, pureH, de1, rSc, rQ, g1, g2, hag3, hsc, hq, h1, h2, hcd, ff, fcells]
   | true =>
    rw [h2, if_neg (by simp)] at hcd
    by_cases h3 : (itsF sc q).code = 0
    ·rw [if_neg (not_not_intro h3)] at hcd
     refine awp_cut 4 _ _ (R := I54 h n x a b c q) ?_ fun y1 h1' n1 i1 => ?_
     ·simp [evx, hdC, Tryz.f54, q0, q1, ii, ss, bv, t4, p1, p2, p3, tbChk, GSch, GShQ, GIts, pureH, de1, de2, rSc, rQ, g1, g2, hag3, hsc, hq, hok, h1, h2, h3, ff, fcells]
      exact ⟨by simp [up], by simp [up], by simp [up], by simp [agree_up, agree_refl], by simp [up], by simp [up, ii, ss], by simp [up, ii], by simp, fun i hi => by simp only [] at hi; simp only []; rw [up_ne _ _ (by omega), up_ne _ _ (by omega), up_ne _ _ (by omega), up_ne _ _ (by omega), up_ne _ _ (by omega)]; simp [roH, hn i (by omega)]⟩
     refine awp_cut 2 _ _ (f54b e1 e2 hn hsc hq _ i1) fun y2 h2' n2 ⟨cs, j⟩ => ?_
     have hask := j.run hn e1 e2
     obtain ⟨⟨q2, q3, q4, hag, b0, b1, b2, hnn, hfr⟩, ⟨m, w, q8, hw, hm, hw3, hm3, hwn, hmn⟩, hM⟩ := j
     simp only [ii, ss] at q2 q3 q4 hag b0 b1 b2 hnn hfr q8 hw hm hask
     rw [q8] at hask
     have gs := g1 _ hag
     have gq := g2 _ hag
     have hak : okAsk (sc, q, cs) := ⟨hsc, hq, hM⟩
     obtain ⟨_, h10, _, _⟩ := itsF_ok h3
     have hsh := h2
     simp only [shQ, Bool.and_eq_true, Bool.or_eq_true, decide_eq_true_eq] at hsh
     have hwt : q.wh.length = 0 ∨ tree1 q.wh = true := hsh.1.1.2
     have hrt : ∀ i, i < q.ret.length → tree1 (q.ret.getD i []) = true := (all_getD []).1 hsh.2
     have hokw : okWh (q, sc, q, cs) := ⟨hak, hq, h10, hwt, rfl⟩
     have hokr : okRes (q, sc, q, cs) := ⟨hak, hq, hrt, rfl⟩
     have y0 : ¬ n = n2 := by omega
     have y1' : ¬ n + 1 = n2 := by omega
     have y2' : ¬ n + 2 = n2 := by omega
     have y3' : ¬ n2 = n + 2 := by omega
     by_cases h4 : (whF sc q).code = 0
     ·rw [if_neg (not_not_intro h4)] at hcd
      have hag2 : ∀ b1 b2, agree n (roH h) (up (up h2' n2 b1) n2 b2) := fun b1 b2 => by simp [agree_up, show n ≤ n2 by omega, hag]
      have hask2 : ∀ bb1 bb2, rAsk.run (up (up h2' n2 bb1) n2 bb2) (.f (.func 102) [] [.p n 0 0, .p (n + 1) 0 0, .p w 0 0]) = some (sc, q, cs) := fun bb1 bb2 => by
       have z : ∀ i, i < n2 → up (up h2' n2 bb1) n2 bb2 i = h2' i := fun i hi => by rw [up_ne _ _ (by omega), up_ne _ _ (by omega)]
       have gs2 := g1 _ (hag2 bb1 bb2)
       have gq2 := g2 _ (hag2 bb1 bb2)
       simp only [rAsk, de3, rAt, rC, z n (by omega), z (n + 1) (by omega), z w hwn, z m hmn, b0, b1, hw, rM, hm, if_true, Option.bind_some, rSc, rQ, gs2, gq2, Option.map_some]
      by_cases h5 : 1099511627776 < q.within
      ·rw [if_pos h5] at hcd
       simp [evx, tlC, Tryz.f54, q3, q4, q8, b1, b2, ii, tbChk, GWh, pureH, de2, rQ, gq, hask, hokw, ff, fcells, y1', y2', h4, h5, hcd]
      ·rw [if_neg h5] at hcd
       have hem2 : (q.par != ByteArray.mk #[]) = !emB q.par := rfl
       cases h6 : emB q.par with
       | true =>
        rw [h6, if_neg (by simp)] at hcd
        simp [evx, tlC, Tryz.f54, q2, q3, q4, q8, b0, b1, b2, ii, bv, tbChk, GWh, GPart, GRes, pureH, de2, rSc, rQ, gq, hask, hask2, g1, g2, hag2, hokw, hokr, hok, ff, fcells, y0, y1', y2', h4, h5, hem2, h6, hcd]
       | false =>
        cases h7 : partB sc q with
        | true =>
         rw [h7, if_neg (by simp)] at hcd
         simp [evx, tlC, Tryz.f54, q2, q3, q4, q8, b0, b1, b2, ii, bv, tbChk, GWh, GPart, GRes, pureH, de2, rSc, rQ, gq, hask, hask2, g1, g2, hag2, hokw, hokr, hok, ff, fcells, y0, y1', y2', h4, h5, hem2, h6, h7, hcd]
        | false =>
         rw [h6, h7, if_pos ⟨rfl, rfl⟩] at hcd
         simp [evx, tlC, Tryz.f54, q2, q3, q4, q8, b0, b1, b2, ii, bv, tbChk, GWh, GPart, GRes, pureH, de2, rSc, rQ, gq, hask, g1, g2, hag2, hokw, hok, ff, fcells, y0, y1', y2', h4, h5, hem2, h6, h7, hcd]
     ·rw [if_pos h4] at hcd
      simp [evx, tlC, Tryz.f54, q3, q4, q8, b1, b2, ii, tbChk, GWh, pureH, de2, rQ, gq, hask, hokw, ff, fcells, y2', h4, hcd]
    ·rw [if_pos h3] at hcd
     simp [evx, Tryz.f54, q0, q1, ii, ss, bv, t4, p1, p2, p3, tbChk, GSch, GShQ, GIts, pureH, de1, de2, rSc, rQ, g1, g2, hag3, hsc, hq, hok, h1, h2, h3, hcd, ff, fcells]
  ·rw [if_pos h1] at hcd
   simp [evx, Tryz.f54, q0, q1, ii, ss, t4, p1, p2, p3, tbChk, GSch, pureH, de1, rSc, g1, hag3, hsc, h1, hcd, ff, fcells]
 exact key _ rfl rfl
end
end Go.Proofs.YtbffkkeieihpdaaGreatDoor

namespace Go.Proofs.YtbffkkeieihpdaaGreatDoor
open Go Go.Eng
def tp17 : List (FuncId × (List AV → Heap → PRes)) := [(54, GChk)]
def nilA : AV := .v (.slice none 0 0)
def zpl : List AV := [nilA, nilA, ii 0, ii 0, nilA, ii 0, ss ByteArray.empty, nilA, nilA, nilA, nilA, nilA, nilA, nilA, bv false, bv false]
def qcells (q : Qu) (qa qb qc : AV) : List AV := [qa, ii q.mode, ii q.after, qb, ii q.within, ss q.par, qc]
def Q17 (h : Heap) (n : Nat) (sc : List Ty) (q : Qu) (z : AV) (h' : Heap) (n' : Nat) : Prop :=
 agree n h h' ∧ Fresh n' h' ∧ n ≤ n' ∧ (((chk sc q).code ≠ 0 ∧ z = .t [.g zpl, ff (chk sc q)]) ∨ ((chk sc q).code = 0 ∧ ∃ p, z = .t [.g (pcells p (planOf sc q)), ff fl0] ∧ PlR h' p (planOf sc q)))
structure A17 (h : Heap) (n : Nat) (q : Qu) (sa qa qb qc : AV) (s : St) : Prop where
 q2 : s.e 2 = .p n 0 0
 q3 : s.e 3 = .p (n + 1) 0 0
 q4 : s.e 4 = .p (n + 2) 0 0
 q5 : s.e 5 = .p (n + 3) 0 0
 b2 : s.h n = some ⟨[sa], 0, true, 1⟩
 b3 : s.h (n + 1) = some ⟨qcells q qa qb qc, 0, true, 7⟩
 b4 : s.h (n + 2) = some ⟨zpl, 0, true, 16⟩
 b5 : s.h (n + 3) = some ⟨fcells fl0, 0, true, 4⟩
 ag : agree n h s.h
 fr : Fresh s.n s.h
 nn : n + 4 ≤ s.n
theorem ldcs_16 (X : Ctx) (h : Heap) (a : AV) : ldcs X h a 0 16 = [ldc X h a 0, ldc X h a 1, ldc X h a 2, ldc X h a 3, ldc X h a 4, ldc X h a 5, ldc X h a 6, ldc X h a 7, ldc X h a 8, ldc X h a 9, ldc X h a 10, ldc X h a 11, ldc X h a 12, ldc X h a 13, ldc X h a 14, ldc X h a 15] := rfl
section
variable {h : Heap} {n : Nat} {sc : List Ty} {q : Qu} {sa qa qb qc : AV}
theorem b17a (e1 : rd dTys h sa = some sc) (e2 : deQ h (.g (qcells q qa qb qc)) = some q) (hok : okCh (sc, q)) (hn : Fresh n h) (e : Nat → AV) (q0 : e 0 = .g [sa]) (q1 : e 1 = .g (qcells q qa qb qc)) :
  awp (cz [3] (pfL tp17)) (hdC 2 (Tryz.f17.body.getD .skip)) (thenQ (fun s => A17 h n q sa qa qb qc s ∧ (chk sc q).code = 0) (finQ (cz [3] (pfL tp17)) Tryz.f17 (Q17 h n sc q))) ⟨e, h, n⟩ := by
 obtain ⟨a', b', c', e0, x1, x2, x3⟩ := deQ_out e2
 cases e0
 have o1 := (sl_is e1).2.2.2.1
 have o2 := (sl_is x1).2.2.2.1
 have o3 := (sl_is x2).2.2.2.1
 have o4 := (sl_is x3).2.2.2.1
 have g1 : ∀ h', agree n h h' → deSc h' (.g [sa]) = some sc := fun h' ha => rd_agr hn e1 h' ha
 have g2 : ∀ h', agree n h h' → deQ h' (.g [qa, .v (.int .i64 q.mode), .v (.int .i64 q.after), qb, .v (.int .i64 q.within), .v (.string q.par), qc]) = some q := fun h' ha => deQ_has (rd_agr hn x1 h' ha) (rd_agr hn x2 h' ha) (rd_agr hn x3 h' ha)
 obtain ⟨F, hF⟩ : ∃ F, F = chk sc q := ⟨_, rfl⟩
 by_cases hc : F.code = 0
 ·have hz := (wf_of (sc := sc) (q := q) (by rw [← hF]; exact hc)).1
  rw [hz] at hF
  subst hF
  simp [evz, hdC, Tryz.f17, q0, q1, qcells, ii, ss, o1, o2, o3, o4, tp17, GChk, pureH, de2, rSc, rQ, g1, g2, agree_up, agree_refl, hok, hz, ff, fcells, fl0]
  exact ⟨by simp [up], by simp [up], by simp [up], by simp [up], by simp [up], by simp [up, qcells, ii, ss], by simp [up, zpl, nilA, ii, ss, bv], by simp [up, fcells, fl0, ii], by simp [agree_up, agree_refl], by simp [fresh_up, hn.add], by simp⟩
 ·have hcc : ¬ (chk sc q).code = 0 := by rw [← hF]; exact hc
  simp [evz, hdC, Tryz.f17, q0, q1, qcells, ii, ss, o1, o2, o3, o4, tp17, GChk, pureH, de2, rSc, rQ, g1, g2, agree_up, agree_refl, hok, ← hF, ff, fcells, hc, ldcs_16]
  refine ⟨fun _ => keepL_up rfl fun t ht => ?_, last_no (by kernel_rfl), ?_, ?_, by omega, .inl ⟨hcc, ?_⟩⟩
  ·simp [ldSlots] at ht
   subst ht
   exact ⟨n + 4, 0, 0, by simp [up], by omega⟩
  ·simp [agree_up, agree_refl]
  ·simp [fresh_up, hn.add]
  ·rw [← hF]
   simp [zpl, nilA, ii, ss, bv, ff, fcells]
end
end Go.Proofs.YtbffkkeieihpdaaGreatDoor
