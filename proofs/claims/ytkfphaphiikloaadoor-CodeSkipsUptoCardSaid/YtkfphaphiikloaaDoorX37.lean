/-
  THE LAWS WITHOUT THE DOCUMENT, PART G: what a joined tree comes to: the plain law.
-/
import Derived.Test.YtkfphaphiikloaaDoorX36
set_option linter.unusedSimpArgs false
set_option linter.unusedVariables false
set_option linter.constructorNameAsVariable false
namespace Go.Proofs.YtkfphaphiikloaaDoor
open Go Go.Eng

/-- Is what a tree gives a truth? -/
def truthT (t : List Nd) : Bool := truthO (t.getD (t.length - 1) nd0).op
section
variable {sc : List Ty} {vs : List ByteArray} {en : En} {a b : List Nd} {op : Int}
theorem tree_un (ha : tree1 a = true) (ho : op = 12 ∨ op = 13) : tree1 (a ++ [opN op ((a.length : Int) - 1) (-1)]) = true := by
  obtain ⟨lo, T⟩ := tre_un (tre_of ha) ho
  refine tree_of T fun i hi => ?_
  by_cases hia : i < a.length
  · rw [List.getElem_append_left hia]; exact tree_fields ha i hia
  · rw [List.getElem_append_right (by omega)]
    simp only [List.length_append, List.length_cons, List.length_nil] at hi
    simp only [show i - a.length = 0 by omega, List.getElem_cons_zero]
    exact opN_fields (by omega) _ _
theorem tree_bin (ha : tree1 a = true) (hb : tree1 b = true) (ho : 14 ≤ op) (ho' : op ≤ 26) : tree1 (a ++ b.map (onN a.length) ++ [opN op ((a.length : Int) - 1) ((a.length : Int) + b.length - 1)]) = true := by
  obtain ⟨lo, T⟩ := tre_bin (tre_of ha) (tre_of hb) ho ho'
  refine tree_of T fun i hi => ?_
  by_cases hia : i < a.length
  · rw [List.getElem_append_left (by simp; omega), List.getElem_append_left hia]; exact tree_fields ha i hia
  · by_cases hib : i < a.length + b.length
    · rw [List.getElem_append_left (by simp; omega), List.getElem_append_right (by omega), List.getElem_map, onN_fields]
      exact tree_fields hb _ _
    · rw [List.getElem_append_right (by simp; omega)]
      simp only [List.length_append, List.length_map, List.length_cons, List.length_nil] at hi ⊢
      simp only [show i - (a.length + b.length) = 0 by omega, List.getElem_cons_zero]
      exact opN_fields (by omega) _ _
theorem root_pre (h : 0 < a.length) (c : List Nd) : (a ++ c).getD (a.length - 1) nd0 = a.getD (a.length - 1) nd0 := by
  rw [getD_at (show a.length - 1 < (a ++ c).length by simp; omega), getD_at (by omega), List.getElem_append_left (by omega)]
theorem root_mid (h : 0 < b.length) (c : List Nd) : ((a ++ b.map (onN a.length) ++ c).getD (a.length + b.length - 1) nd0).op = (b.getD (b.length - 1) nd0).op := by
  rw [getD_at (show a.length + b.length - 1 < (a ++ b.map (onN a.length) ++ c).length by simp; omega), getD_at (by omega), List.getElem_append_left (by simp; omega), List.getElem_append_right (by omega), List.getElem_map]
  simp only [onN, show a.length + b.length - 1 - a.length = b.length - 1 by omega]
theorem wants_op (x y : Int) : wantsT (opN op x y).op = wantsT op := rfl
theorem run_un (ha : runT vs a = true) (ho : op = 12 ∨ op = 13) (hs : a.length < 4611686018427387904) : runT vs (joinT op a b) = (truthT a == wantsT op) := by
  obtain ⟨h1, h2⟩ := run_tree ha
  have hp := tree_pos h1
  rw [join_un ho hs]
  have hlast : nodeOk vs (a ++ [opN op ((a.length : Int) - 1) (-1)]) (opN op ((a.length : Int) - 1) (-1)) = (truthT a == wantsT op) := by
    unfold nodeOk
    have e1 : ¬ op < 4 := by omega
    have e2 : ¬ op ≤ 11 := by omega
    have e3 : ((a.length : Int) - 1).toNat = a.length - 1 := by omega
    simp only [opN, e1, e2, if_false, e3]
    rw [root_pre hp]
    simp [truthT]
  have hl : (a ++ [opN op ((a.length : Int) - 1) (-1)]).length = a.length + 1 := by simp
  rw [runT, tree_un h1 ho, Bool.true_and, Bool.eq_iff_iff, ok_all, ← hlast]
  constructor
  · intro h
    have := h a.length (by omega)
    rw [List.getElem_append_right (by omega)] at this
    simpa using this
  · intro h i hi
    by_cases hia : i < a.length
    · have := emb_ok (vs := vs) (tre_of h1) (emb_pre a [opN op ((a.length : Int) - 1) (-1)]) i hia
      rw [onN_zero] at this
      rw [List.getElem_append_left hia, this]
      exact ok_all.1 h2 i hia
    · obtain rfl : i = a.length := by omega
      rw [List.getElem_append_right (by omega)]
      simpa using h
theorem run_bin (ha : runT vs a = true) (hb : runT vs b = true) (ho : 14 ≤ op) (ho' : op ≤ 26) (hs : a.length + b.length < 4611686018427387904) : runT vs (joinT op a b) = ((truthT a == wantsT op) && (truthT b == wantsT op)) := by
  obtain ⟨h1, h2⟩ := run_tree ha
  obtain ⟨h3, h4⟩ := run_tree hb
  have hp := tree_pos h1
  have hq := tree_pos h3
  rw [join_bin ho h3 hs]
  have hl : (a ++ b.map (onN a.length) ++ [opN op ((a.length : Int) - 1) ((a.length : Int) + b.length - 1)]).length = a.length + b.length + 1 := by simp; omega
  have hlast : nodeOk vs (a ++ b.map (onN a.length) ++ [opN op ((a.length : Int) - 1) ((a.length : Int) + b.length - 1)]) (opN op ((a.length : Int) - 1) ((a.length : Int) + b.length - 1)) = ((truthT a == wantsT op) && (truthT b == wantsT op)) := by
    have r1 := root_pre hp (b.map (onN a.length) ++ [opN op ((a.length : Int) - 1) ((a.length : Int) + b.length - 1)])
    have r2 := root_mid (a := a) hq [opN op ((a.length : Int) - 1) ((a.length : Int) + b.length - 1)]
    rw [← List.append_assoc] at r1
    unfold nodeOk
    have e1 : ¬ op < 4 := by omega
    have e2 : ¬ op ≤ 11 := by omega
    have e3 : ((a.length : Int) - 1).toNat = a.length - 1 := by omega
    have e4 : ((a.length : Int) + b.length - 1).toNat = a.length + b.length - 1 := by omega
    have e5 : ¬ ((a.length : Int) + b.length - 1) < 0 := by omega
    have f1 : (opN op ((a.length : Int) - 1) ((a.length : Int) + b.length - 1)).op = op := rfl
    have f2 : (opN op ((a.length : Int) - 1) ((a.length : Int) + b.length - 1)).a = (a.length : Int) - 1 := rfl
    have f3 : (opN op ((a.length : Int) - 1) ((a.length : Int) + b.length - 1)).b = (a.length : Int) + b.length - 1 := rfl
    rw [f1, f2, f3, e3, e4, r1, r2, if_neg e1, if_neg e2]
    simp [truthT, e5]
  rw [runT, tree_bin h1 h3 ho ho', Bool.true_and, Bool.eq_iff_iff, ok_all, ← hlast]
  constructor
  · intro h
    have := h (a.length + b.length) (by omega)
    rw [List.getElem_append_right (by simp)] at this
    simpa using this
  · intro h i hi
    by_cases hia : i < a.length
    · have := emb_ok (vs := vs) (tre_of h1) (emb_pre a (b.map (onN a.length) ++ [opN op ((a.length : Int) - 1) ((a.length : Int) + b.length - 1)])) i hia
      rw [onN_zero, ← List.append_assoc] at this
      rw [List.getElem_append_left (by simp; omega), List.getElem_append_left hia, this]
      exact ok_all.1 h2 i hia
    · by_cases hib : i < a.length + b.length
      · have := emb_ok (vs := vs) (tre_of h3) (emb_mid a b [opN op ((a.length : Int) - 1) ((a.length : Int) + b.length - 1)]) (i - a.length) (by omega)
        rw [List.getElem_append_left (by simp; omega), List.getElem_append_right (by omega), List.getElem_map, this]
        exact ok_all.1 h4 _ _
      · obtain rfl : i = a.length + b.length := by omega
        rw [List.getElem_append_right (by simp)]
        simpa using h
theorem eval_un (ha : runT vs a = true) (ho : op = 12 ∨ op = 13) (hs : a.length < 4611686018427387904) (hr : runT vs (joinT op a b) = true) : evalV sc vs en (joinT op a b) = if op = 12 then negL (evalV sc vs en a) else notV (evalV sc vs en a) := by
  obtain ⟨h1, _⟩ := run_tree ha
  have hp := tree_pos h1
  rw [evalV, if_pos hr, evalV, if_pos ha]
  rw [join_un ho hs]
  obtain ⟨lo, T⟩ := tre_un (tre_of h1) ho
  have hl : (a ++ [opN op ((a.length : Int) - 1) (-1)]).length - 1 = a.length := by simp
  rw [hl, val_rec T (by simp)]
  have hx : (a ++ [opN op ((a.length : Int) - 1) (-1)])[a.length]'(by simp) = opN op ((a.length : Int) - 1) (-1) := by
    rw [List.getElem_append_right (by omega)]; simp
  rw [hx]
  have hv := emb_val (sc := sc) (vs := vs) (en := en) (tre_of h1) T (emb_pre a [opN op ((a.length : Int) - 1) (-1)]) (a.length - 1) (by omega)
  rw [Nat.zero_add] at hv
  have e3 : (opN op ((a.length : Int) - 1) (-1)).a.toNat = a.length - 1 := by simp only [opN]; omega
  rw [e3, hv]
  unfold nodeV
  rcases ho with rfl | rfl <;> simp [opN]
theorem eval_bin (ha : runT vs a = true) (hb : runT vs b = true) (ho : 14 ≤ op) (ho' : op ≤ 26) (hs : a.length + b.length < 4611686018427387904) (hr : runT vs (joinT op a b) = true) : evalV sc vs en (joinT op a b) = applyL op (evalV sc vs en a) (evalV sc vs en b) := by
  obtain ⟨h1, _⟩ := run_tree ha
  obtain ⟨h3, _⟩ := run_tree hb
  have hp := tree_pos h1
  have hq := tree_pos h3
  rw [evalV, if_pos hr, evalV, if_pos ha, evalV, if_pos hb]
  rw [join_bin ho h3 hs]
  obtain ⟨lo, T⟩ := tre_bin (tre_of h1) (tre_of h3) ho ho'
  have hl : (a ++ b.map (onN a.length) ++ [opN op ((a.length : Int) - 1) ((a.length : Int) + b.length - 1)]).length - 1 = a.length + b.length := by simp
  rw [hl, val_rec T (by simp)]
  have hx : (a ++ b.map (onN a.length) ++ [opN op ((a.length : Int) - 1) ((a.length : Int) + b.length - 1)])[a.length + b.length]'(by simp) = opN op ((a.length : Int) - 1) ((a.length : Int) + b.length - 1) := by
    rw [List.getElem_append_right (by simp)]; simp
  rw [hx]
  have E := emb_pre a (b.map (onN a.length) ++ [opN op ((a.length : Int) - 1) ((a.length : Int) + b.length - 1)])
  rw [← List.append_assoc] at E
  have hv := emb_val (sc := sc) (vs := vs) (en := en) (tre_of h1) T E (a.length - 1) (by omega)
  rw [Nat.zero_add] at hv
  have hw := emb_val (sc := sc) (vs := vs) (en := en) (tre_of h3) T (emb_mid a b [opN op ((a.length : Int) - 1) ((a.length : Int) + b.length - 1)]) (b.length - 1) (by omega)
  have e3 : (opN op ((a.length : Int) - 1) ((a.length : Int) + b.length - 1)).a.toNat = a.length - 1 := by simp only [opN]; omega
  have e4 : (opN op ((a.length : Int) - 1) ((a.length : Int) + b.length - 1)).b.toNat = a.length + (b.length - 1) := by simp only [opN]; omega
  rw [e3, e4, hv, hw]
  unfold nodeV
  have f1 : (opN op ((a.length : Int) - 1) ((a.length : Int) + b.length - 1)).op = op := rfl
  rw [f1, if_neg (by omega), if_neg (by omega), if_neg (by omega), if_neg (by omega), if_neg (by omega), if_neg (by omega)]
end
end Go.Proofs.YtkfphaphiikloaaDoor

/-
  THE LAWS WITHOUT THE DOCUMENT, PART J: is what a tree gives a truth? (the program's)
-/
namespace Go.Proofs.YtkfphaphiikloaaDoor
open Go Go.Eng

set_option maxRecDepth 100000 in
theorem p73 : P0 [] 73 g92 := by
  refine mk1 (S := []) tb_nil Tryd.func73 rfl (by kernel_rfl) ii (fun x a h => deI_out h) (fun a => rfl) (fun o h n => ?_)
  have hc : o = 2 ∨ o = 3 ∨ o = 13 ∨ (o ≠ 2 ∧ o ≠ 3 ∧ o ≠ 13) := by omega
  rcases hc with rfl | rfl | rfl | ⟨h1, h2, h3⟩
  · simp [evs, aeval, cx_ti, cx_G, cx_pf, cx_tw, ti, globS, glob, ldcs, sls, slc, pfL, ii, bv, truthO]
  · simp [evs, aeval, cx_ti, cx_G, cx_pf, cx_tw, ti, globS, glob, ldcs, sls, slc, pfL, ii, bv, truthO]
  · simp [evs, aeval, cx_ti, cx_G, cx_pf, cx_tw, ti, globS, glob, ldcs, sls, slc, pfL, ii, bv, truthO]
  · by_cases h4 : 19 ≤ o
    · by_cases h5 : o ≤ 26
      · have ht : truthO o = true := by simp only [truthO, decide_eq_true_eq]; omega
        simp [evs, aeval, cx_ti, cx_G, cx_pf, cx_tw, ti, globS, glob, ldcs, sls, slc, pfL, ii, bv, ht, h1, h2, h3, h4, h5]
      · have ht : truthO o = false := by simp only [truthO, decide_eq_false_iff_not]; omega
        simp [evs, aeval, cx_ti, cx_G, cx_pf, cx_tw, ti, globS, glob, ldcs, sls, slc, pfL, ii, bv, ht, h1, h2, h3, h4, h5]
    · have ht : truthO o = false := by simp only [truthO, decide_eq_false_iff_not]; omega
      simp [evs, aeval, cx_ti, cx_G, cx_pf, cx_tw, ti, globS, glob, ldcs, sls, slc, pfL, ii, bv, ht, h1, h2, h3, h4]
def G44 := pureH deT smallT fun t => bv (decide (0 < t.length) && truthT t)
def tb44 : List (FuncId × (List AV → Heap → PRes)) := [(73, g92)]
set_option maxRecDepth 100000 in
set_option maxHeartbeats 2000000 in
theorem P44 : P0 [] 44 G44 := by
  refine mkH 1 (S := []) (l := tb44) (tb_cons p73 tb_nil) Tryd.func44 rfl (by kernel_rfl) deT_mono (fun h l x e => by obtain ⟨a, rfl, _⟩ := deT_out e; exact Nat.le_refl _) (fun a => rfl) (fun args t h n e hp hn => ?_)
  obtain ⟨a, rfl, e1⟩ := deT_out e
  obtain ⟨s1, s2, s3, s4, s5⟩ := sl_is e1
  by_cases h0 : t.length = 0
  · simp [evs, aeval, cx_ti, cx_G, cx_pf, cx_tw, ti, globS, glob, ldcs_1, ldcs_2, ldcs_3, ldcs_4, ldcs_5, ldcs_7, sls.eq_1, slc.eq_1, pfL, s1, s2, s3, h0, tb44, bv]
  · obtain ⟨j, he⟩ : ∃ j, t.length = j + 1 := ⟨t.length - 1, by omega⟩
    have he1 : IntKind.i64.wrap ((t.length : Int) - 1) = j := by rw [he]; exact wrapm1 (by have : t.length * 64 ≤ 140737488355328 := hp; unfold big; omega)
    have he3 : 0 < t.length := by omega
    have he4 : j < t.length := by omega
    rcases ns_at e1 with ⟨hq, _⟩ | ⟨id, off, k, rfl, hk, ho', hat⟩
    · rw [hq] at he3; simp at he3
    have hro := ro_at hk
    have h0' := ne_of hk hn 0
    simp only [Nat.add_zero] at h0'
    have hcl := cell_of (c := 0) (hat j he4) rfl (by omega)
    simp only [Nat.add_zero] at hcl
    have hw1 : off + (j * 6 + 1) ≤ k.cells.length := by omega
    have htt : truthT t = truthO t[j].op := by unfold truthT; rw [show t.length - 1 = j by omega, getD_at he4]
    generalize t[j].op = o at *
    simp only [ii] at hcl
    simp [evs, aeval, cx_ti, cx_G, cx_pf, cx_tw, ti, globS, glob, ldcs_1, ldcs_2, ldcs_3, ldcs_4, ldcs_5, ldcs_7, sls.eq_1, slc.eq_1, pfL, s1, s2, s3, he1, he3, he4, hro, h0', hcl, hw1, tb44, g92, pure1, deI, htt, bv]
end Go.Proofs.YtkfphaphiikloaaDoor

/-
  THE LAWS OF JOINED TREES: what they are handed.
-/
namespace Go.Proofs.YtkfphaphiikloaaDoor
open Go Go.Eng

structure Eq9 where
  sc : List Ty
  q : Qu
  a : List Nd
  b : List Nd
  en : En
/-- Arguments of a size that a machine holds. -/
structure W9 (v : Eq9) : Prop where
  s1 : v.sc.length * 40 ≤ 140737488355328
  s2 : ∀ t ∈ v.sc, t.attrs.length * 16 ≤ 140737488355328
  q1 : v.q.items.length * 64 ≤ 140737488355328
  q2 : smallT v.q.wh
  q3 : v.q.ret.length < big
  q4 : ∀ t ∈ v.q.ret, smallT t
  t1 : (v.a.length + v.b.length + 1) * 64 ≤ 140737488355328
  ta : ∀ x ∈ v.a, Rng x.n
  tb : ∀ x ∈ v.b, Rng x.n
  e1 : v.en.ls.length * 24 ≤ 140737488355328
  e2 : ∀ l ∈ v.en.ls, l.length * 88 ≤ 140737488355328
  e3 : ∀ l ∈ v.en.ls, ∀ x ∈ l, EvOk x
  e4 : Rng v.en.pos
theorem join_len (op : Int) (a b : List Nd) : (joinT op a b).length ≤ a.length + b.length + 1 := by
  unfold joinT
  split <;> simp <;> omega
theorem join_rng {op : Int} {a b : List Nd} (ha : ∀ x ∈ a, Rng x.n) (hb : ∀ x ∈ b, Rng x.n) : ∀ x ∈ joinT op a b, Rng x.n := by
  have r0 : Rng 0 := by unfold Rng; omega
  intro x hx
  unfold joinT at hx
  split at hx
  · simp only [List.mem_append, List.mem_singleton] at hx
    rcases hx with hx | rfl
    · exact ha x hx
    · exact r0
  · simp only [List.mem_append, List.mem_singleton, List.mem_map] at hx
    rcases hx with (hx | ⟨y, hy, rfl⟩) | rfl
    · exact ha x hx
    · exact hb y hy
    · exact r0
theorem W9.sm {v : Eq9} (w : W9 v) (op : Int) : smallT (joinT op v.a v.b) := Nat.le_trans (Nat.mul_le_mul_right 64 (join_len op v.a v.b)) w.t1
theorem W9.sa {v : Eq9} (w : W9 v) : smallT v.a := Nat.le_trans (Nat.mul_le_mul_right 64 (by omega)) w.t1
theorem W9.sb {v : Eq9} (w : W9 v) : smallT v.b := Nat.le_trans (Nat.mul_le_mul_right 64 (by omega)) w.t1
theorem W9.ab {v : Eq9} (w : W9 v) : v.a.length + v.b.length < 4611686018427387904 := by have := w.t1; omega
theorem W9.it {v : Eq9} (w : W9 v) : v.q.items.length < big := by have := w.q1; unfold big; omega
theorem W9.tl {v : Eq9} (w : W9 v) : v.sc.length * 8 ≤ 140737488355328 := by have := w.s1; omega
theorem W9.sc {v : Eq9} (w : W9 v) : smallS v.sc := ⟨by have := w.s1; unfold big; omega, fun t ht => by have := w.s2 t ht; unfold big; omega⟩
theorem W9.w1 {v : Eq9} (w : W9 v) : v.en.ls.length < big := by have := w.e1; unfold big; omega
theorem W9.w2 {v : Eq9} (w : W9 v) : ∀ l ∈ v.en.ls, l.length < big := fun l hl => by have := w.e2 l hl; unfold big; omega
theorem W9.eq {v : Eq9} (w : W9 v) (hb : beyondV v.en.ls = false) {t : List Nd} (ht : smallT t) (hr : ∀ x ∈ t, Rng x.n) : EqOk ⟨v.sc, v.q, t, v.en⟩ := ⟨w.sc, w.it, ht, hr, ⟨beyond_len hb, w.e3, w.e4⟩⟩
/-- What was handed in. -/
structure A9 (v : Eq9) (s : St) : Prop where
  at3 : rd dNs s.h (s.e 3) = some v.a
  at4 : rd dNs s.h (s.e 4) = some v.b
  as6 : HasS s.h (s.e 6) v.sc
  aq7 : HasQ s.h (s.e 7) v.q
  ae11 : HasE s.h (s.e 11) v.en
  frs : Fresh s.n s.h
theorem A9.up {v : Eq9} {s s' : St} (a : A9 v s) (he : ∀ i ∈ [3, 4, 6, 7, 11], s'.e i = s.e i) (ha : agree s.n s.h s'.h) (hf : Fresh s'.n s'.h) : A9 v s' :=
  ⟨by rw [he 3 (by simp)]; exact rd_agr a.frs a.at3 _ ha, by rw [he 4 (by simp)]; exact rd_agr a.frs a.at4 _ ha, by rw [he 6 (by simp)]; exact a.as6.up a.frs ha, by rw [he 7 (by simp)]; exact a.aq7.up a.frs ha, by rw [he 11 (by simp)]; exact a.ae11.up a.frs ha, hf⟩
end Go.Proofs.YtkfphaphiikloaaDoor

/-
  THE LAWS WITHOUT THE DOCUMENT, PART H: a program that begins as a tree's: the plain law.
-/
namespace Go.Proofs.YtkfphaphiikloaaDoor
open Go Go.Eng

section
variable {sc : List Ty} {vs : List ByteArray} {t : List Nd} {lo : Nat → Nat} {en : En}
theorem own_at2 {P : Pr} (hC : ∀ (pos : Nat) x, (codeT vs t)[pos]? = some x → P.code[pos]? = some x) {i : Nat} (hi : i < t.length) : ∃ h : posT t i < P.code.length, P.code[posT t i]'h = ownI (namesOf t) (itemV vs t[i]) t[i] := by
  have h1 : (codeT vs t)[posT t i]? = some (ownT vs t i) := lay_own hi
  obtain ⟨h2, h3⟩ := List.getElem?_eq_some_iff.1 (hC _ _ h1)
  exact ⟨h2, h3.trans (by rw [ownT, getD_at hi])⟩
/-- The subtree of a node leaves the node's value on the stack. -/
theorem run_sub2 {P : Pr} (hC : ∀ (pos : Nat) x, (codeT vs t)[pos]? = some x → P.code[pos]? = some x) (hK : ∀ (k : Nat) c, ((namesOf t).map (colOf sc))[k]? = some c → P.cols[k]? = some c) (T : Tre t lo) (hok : okTo vs t t.length = true) : ∀ (i : Nat), i < t.length → ∀ st : List V, fromV P en (posT t (lo i)) st = fromV P en (posT t i + 1) (st ++ [valAt sc (t.map (itemV vs)) en t i]) := by
  intro i
  induction i using Nat.strongRecOn with
  | _ i ih =>
    intro hi st
    obtain ⟨hlt, hown⟩ := own_at2 hC hi
    have hv := valAt_eq (sc := sc) (its := t.map (itemV vs)) (en := en) hi
    have hits : (t.map (itemV vs)).getD i 0 = itemV vs t[i] := by rw [List.getD_eq_getElem?_getD, List.getElem?_map, List.getElem?_eq_getElem hi]; rfl
    rw [hits] at hv
    have hno := node_ok hok hi
    rcases T.kind i hi with ⟨b1, b2, b3, b4, b⟩ | ⟨b0, b1, b2, b3, b⟩ | ⟨b0, b0', b1, b2, a, b3, b4, b⟩
    · rw [b]
      have key : stepV P en P.code[posT t i] (posT t i) st = some (posT t i + 1, st ++ [valAt sc (t.map (itemV vs)) en t i]) := by
        rw [hown, hv]
        unfold ownI nodeV
        by_cases o1 : t[i].op = 1
        · simp only [o1, if_true]
          exact step_push (by simp only [needsV]; omega) rfl
        by_cases o2 : t[i].op = 2
        · simp only [o2, if_true]
          exact step_push (by simp [needsV]) rfl
        by_cases o3 : t[i].op = 3
        · simp only [o3, if_true]
          exact step_push (by simp [needsV]) rfl
        rw [if_neg o1, if_neg o2, if_neg o3, if_neg o1, if_neg o2, if_neg o3, if_pos b2]
        by_cases o5 : t[i].op = 5
        · simp only [o5]
          exact step_count (by simp only [needsV]; simp) rfl
        obtain ⟨n1, n2⟩ := name_col (sc := sc) hi ⟨by omega, b2, o5⟩
        by_cases o4 : t[i].op = 4
        · simp only [o4]
          exact step_col (p := P) (by simp only [needsV]; simp) (by simp) (by simp; exact n1) (hK _ _ n2)
        by_cases o11 : t[i].op = 11
        · simp only [o11]
          exact step_col (p := P) (by simp only [needsV]; simp) (by simp) (by simp; exact n1) (hK _ _ n2)
        rw [if_neg o4, if_neg o11, if_neg o5, if_pos (by omega)]
        have hcm : codeM t[i].op = t[i].op - 1 := by unfold codeM; rw [if_neg o5, if_neg o11, if_neg o4]
        rw [hcm]
        exact step_col (p := P) (by simp only [needsV]; (repeat' split) <;> omega) (by simp only []; omega) (by simp only []; omega) (hK _ _ n2)
      exact from_some hlt key
    · have hpu := pos_un T hi (by omega) b1
      rw [b, ih (i - 1) (by omega) (by omega) st, ← hpu]
      have hva : getV (valsTo sc (t.map (itemV vs)) en t i) t[i].a = valAt sc (t.map (itemV vs)) en t (i - 1) := by
        rw [get_val (by omega) (by omega), b2, Int.toNat_natCast]
      rw [hva] at hv
      have key : stepV P en P.code[posT t i] (posT t i) (st ++ [valAt sc (t.map (itemV vs)) en t (i - 1)]) = some (posT t i + 1, st ++ [valAt sc (t.map (itemV vs)) en t i]) := by
        rw [hown, hv]
        unfold ownI nodeV
        rcases b0 with o | o
        · simp only [o]
          refine (step_neg (by simp [needsV]; omega) (by simp)).trans ?_
          rw [last_snoc, drop_snoc]
          simp
        · simp only [o]
          refine (step_not (by simp [needsV]; omega) (by simp)).trans ?_
          rw [last_snoc, drop_snoc]
          simp
      exact from_some hlt key
    · have hpu := pos_un T hi (by omega) b1
      have hle := T.le (i - 1) (by omega)
      have hva : getV (valsTo sc (t.map (itemV vs)) en t i) t[i].a = valAt sc (t.map (itemV vs)) en t a := by
        rw [get_val (by omega) (by omega), b3, Int.toNat_natCast]
      have hvb : getV (valsTo sc (t.map (itemV vs)) en t i) t[i].b = valAt sc (t.map (itemV vs)) en t (i - 1) := by
        rw [get_val (by omega) (by omega), b2, Int.toNat_natCast]
      rw [hva, hvb] at hv
      have hv' : valAt sc (t.map (itemV vs)) en t i = applyL t[i].op (valAt sc (t.map (itemV vs)) en t a) (valAt sc (t.map (itemV vs)) en t (i - 1)) := by
        rw [hv]
        unfold nodeV
        rw [if_neg (by omega), if_neg (by omega), if_neg (by omega), if_neg (by omega), if_neg (by omega), if_neg (by omega)]
      have hsk := pos_sk T hi b0 b3
      rw [b, ih a (by omega) (by omega) st]
      have two : fromV P en (posT t (lo (i - 1))) (st ++ [valAt sc (t.map (itemV vs)) en t a]) = fromV P en (posT t i + 1) (st ++ [valAt sc (t.map (itemV vs)) en t i]) := by
        rw [ih (i - 1) (by omega) (by omega), ← hpu]
        refine from_some (q := (posT t i + 1, st ++ [valAt sc (t.map (itemV vs)) en t i])) hlt ?_
        rw [hown, hv']
        have : ownI (namesOf t) (itemV vs t[i]) t[i] = ⟨t[i].op - 2, 0, 0, 0, 0⟩ := by
          unfold ownI
          rw [if_neg (by omega), if_neg (by omega), if_neg (by omega), if_neg (by omega), if_neg (by omega), if_neg (by omega), if_neg (by omega)]
        rw [this]
        refine (step_two (by simp only [needsV, List.length_append, List.length_cons, List.length_nil]; (repeat' split) <;> omega) (by simp only []; omega)).trans ?_
        rw [last_snoc, drop_snoc, last_snoc, drop_snoc, show t[i].op - 2 + 2 = t[i].op by omega]
      by_cases h25 : 25 ≤ t[i].op
      · rw [if_pos h25] at hsk
        rw [b4] at two
        rw [hsk] at two
        have hpa := par_at T hi h25 b3
        have hj : (codeT vs t)[posT t a + 1]? = some (jmpT t (fun p => posT t p + 1) a) := lay_jmp (by rw [hpa]; rfl) (by omega)
        have hje : jmpT t (fun p => posT t p + 1) a = ⟨t[i].op, 0, 0, 0, (posT t i : Int) + 1⟩ := by
          unfold jmpT
          rw [hpa]
          simp only []
          rw [getD_at hi]
          simp
        rw [hje] at hj
        obtain ⟨h2, h3⟩ : ∃ h : posT t a + 1 < P.code.length, P.code[posT t a + 1]'h = ⟨t[i].op, 0, 0, 0, (posT t i : Int) + 1⟩ := List.getElem?_eq_some_iff.1 (hC _ _ hj)
        have hlen : posT t t.length ≤ P.code.length := by
          obtain ⟨h4, _⟩ := own_at2 hC (show t.length - 1 < t.length by have := T.pos; omega)
          rw [pos_end T]; omega
        have hpl := pos_lt (t := t) hi
        have hpl2 := pos_lt (t := t) (k := a) (n := i) (by omega)
        rw [hpa] at hpl2
        simp only [Option.isSome_some, if_true] at hpl2
        have htr : isT (valAt sc (t.map (itemV vs)) en t a) := by
          rw [valAt_eq (show a < t.length by omega)]
          refine node_isT ?_
          unfold nodeOk at hno
          rw [if_neg (by omega), if_neg (by omega), b3, Int.toNat_natCast, getD_at (show a < t.length by omega)] at hno
          simp only [Bool.and_eq_true, beq_iff_eq] at hno
          rw [hno.1]
          unfold wantsT
          simp; omega
        have hjt : ¬ ((⟨t[i].op, 0, 0, 0, (posT t i : Int) + 1⟩ : Ins).to ≤ ((posT t a + 1 : Nat) : Int) ∨ (⟨t[i].op, 0, 0, 0, (posT t i : Int) + 1⟩ : Ins).to > P.code.length) := by
          simp only []
          omega
        have hne : ¬ (needsV (⟨t[i].op, 0, 0, 0, (posT t i : Int) + 1⟩ : Ins).code < 0 ∨ ((st ++ [valAt sc (t.map (itemV vs)) en t a]).length : Int) < needsV (⟨t[i].op, 0, 0, 0, (posT t i : Int) + 1⟩ : Ins).code) := by
          simp only [needsV, List.length_append, List.length_cons, List.length_nil]
          (repeat' split) <;> omega
        by_cases hd : (valAt sc (t.map (itemV vs)) en t a).k = true ∧ ((valAt sc (t.map (itemV vs)) en t a).n ≠ 0 ↔ t[i].op = 26)
        · have hst := step_jump (p := P) (e := en) hne h25 hjt (by rw [last_snoc]; exact hd)
          rw [← h3] at hst
          rw [from_some h2 hst]
          have h01 := htr hd.1
          have : valAt sc (t.map (itemV vs)) en t i = valAt sc (t.map (itemV vs)) en t a := by
            rw [hv']
            have hr3 := rank3 (valAt sc (t.map (itemV vs)) en t (i - 1))
            generalize valAt sc (t.map (itemV vs)) en t a = va at *
            generalize valAt sc (t.map (itemV vs)) en t (i - 1) = vb at *
            obtain ⟨vk, vn⟩ := va
            simp only [] at hd h01
            obtain ⟨rfl, hd2⟩ := hd
            rcases (show t[i].op = 25 ∨ t[i].op = 26 by omega) with o | o
            · rw [o] at hd2 ⊢
              have : vn = 0 := by
                rcases h01 with h | h
                · exact h
                · exact absurd (hd2.1 (by rw [h]; decide)) (by decide)
              subst this
              simp only [applyL]
              simp [andV, rankV, ofRank]
              unfold rankV at hr3
              rcases hr3 with h | h | h <;> simp [h]
            · rw [o] at hd2 ⊢
              have : vn = 1 := by
                rcases h01 with h | h
                · exact absurd h (hd2.2 rfl)
                · exact h
              subst this
              simp only [applyL]
              simp [orV, rankV, ofRank]
              unfold rankV at hr3
              rcases hr3 with h | h | h <;> simp [h]
          rw [this]
          simp only [h3]
          rw [show ((posT t i : Int) + 1).toNat = posT t i + 1 by omega]
        · have hst := step_stay (p := P) (e := en) hne h25 hjt (by rw [last_snoc]; exact hd)
          rw [← h3] at hst
          rw [from_some h2 hst]
          exact two
      · rw [if_neg h25] at hsk
        rw [b4, hsk] at two
        exact two
/-- The instructions of a tree leave its value on the stack. -/
theorem run_all {P : Pr} (hC : ∀ (pos : Nat) x, (codeT vs t)[pos]? = some x → P.code[pos]? = some x) (hK : ∀ (k : Nat) c, ((namesOf t).map (colOf sc))[k]? = some c → P.cols[k]? = some c) (h : runT vs t = true) : runV P en = fromV P en (codeT vs t).length [evalV sc vs en t] := by
  obtain ⟨h1, h2⟩ := run_tree h
  have T := tre_of h1
  have hpos := T.pos
  rw [run_from, evalV, if_pos h]
  have := run_sub2 (en := en) hC hK T h2 (t.length - 1) (by omega) []
  rw [T.root] at this
  refine this.trans ?_
  rw [List.nil_append, codeT, lay_len, pos_end T]
end
end Go.Proofs.YtkfphaphiikloaaDoor

/-
  THE LAWS WITHOUT THE DOCUMENT, PART I: the instructions of a joined tree begin with those of its left side: the plain law.
-/
namespace Go.Proofs.YtkfphaphiikloaaDoor
open Go Go.Eng

theorem lay_pre {t : List Nd} {f g : Nat → Ins} {n : Nat} : ∀ m, ∃ r, layT t f g (n + m) = layT t f g n ++ r
  | 0 => ⟨[], by simp⟩
  | m + 1 => by
    obtain ⟨r, hr⟩ := lay_pre (t := t) (f := f) (g := g) (n := n) m
    rw [← Nat.add_assoc]
    simp only [layT, hr, List.append_assoc]
    exact ⟨_, rfl⟩
theorem lay_two {t a : List Nd} {f g f' g' : Nat → Ins} : ∀ {n : Nat}, (∀ j, j < n → f j = f' j) → (∀ j, j < n → (parT t j).isSome = (parT a j).isSome) → (∀ j, j < n → (parT a j).isSome = true → g j = g' j) → layT t f g n = layT a f' g' n
  | 0, _, _, _ => rfl
  | n + 1, h1, h2, h3 => by
    simp only [layT, lay_two (n := n) (fun j hj => h1 j (by omega)) (fun j hj => h2 j (by omega)) (fun j hj => h3 j (by omega)), h1 n (by omega), h2 n (by omega)]
    split
    · rename_i e; rw [h3 n (by omega) e]
    · rfl
theorem names_pre {a c : List Nd} : ∀ {j : Nat}, j ≤ a.length → namesTo (a ++ c) j = namesTo a j
  | 0, _ => rfl
  | j + 1, h => by
    simp only [namesTo, names_pre (show j ≤ a.length by omega)]
    rw [getD_at (show j < (a ++ c).length by simp; omega), getD_at (show j < a.length by omega), List.getElem_append_left (by omega)]
theorem pos_same {t a : List Nd} : ∀ {n : Nat}, (∀ j, j < n → (parT t j).isSome = (parT a j).isSome) → posT t n = posT a n
  | 0, _ => rfl
  | n + 1, h => by simp only [posT, pos_same (n := n) (fun j hj => h j (by omega)), h n (by omega)]
section
variable {vs : List ByteArray} {a b : List Nd} {op : Int}
/-- The joined tree. -/
def jT (op : Int) (a b : List Nd) : List Nd := a ++ b.map (onN a.length) ++ [opN op ((a.length : Int) - 1) ((a.length : Int) + b.length - 1)]
theorem jT_len : (jT op a b).length = a.length + b.length + 1 := by simp [jT]; omega
theorem jT_pre (i : Nat) (hi : i < a.length) : (jT op a b)[i]'(by rw [jT_len]; omega) = a[i] := by
  simp only [jT]
  rw [List.getElem_append_left (by simp; omega), List.getElem_append_left hi]
theorem jT_mid (i : Nat) (hi : a.length ≤ i) (hib : i < a.length + b.length) : (jT op a b)[i]'(by rw [jT_len]; omega) = onN a.length (b[i - a.length]'(by omega)) := by
  simp only [jT]
  rw [List.getElem_append_left (by simp; omega), List.getElem_append_right (by omega), List.getElem_map]
theorem jT_last : (jT op a b)[a.length + b.length]'(by rw [jT_len]; omega) = opN op ((a.length : Int) - 1) ((a.length : Int) + b.length - 1) := by
  simp only [jT]
  rw [List.getElem_append_right (by simp)]
  simp
theorem jT_names : ∃ m, namesOf (jT op a b) = namesOf a ++ m := by
  obtain ⟨m, hm⟩ := names_app (jT op a b) a.length (b.length + 1)
  refine ⟨m, ?_⟩
  unfold namesOf
  rw [jT_len, show a.length + b.length + 1 = a.length + (b.length + 1) by omega, hm]
  rw [show jT op a b = a ++ (b.map (onN a.length) ++ [opN op ((a.length : Int) - 1) ((a.length : Int) + b.length - 1)]) by simp [jT], names_pre (Nat.le_refl _)]
theorem jT_own (A : Tre a (loOf a)) (j : Nat) (hj : j < a.length) : ownT vs (jT op a b) j = ownT vs a j := by
  have hjl : j < (jT op a b).length := by rw [jT_len]; omega
  have h1 : (jT op a b).getD j nd0 = a.getD j nd0 := by rw [getD_at hjl, getD_at hj, jT_pre j hj]
  have ho : 1 ≤ (a.getD j nd0).op := by
    rw [getD_at hj]
    rcases A.kind j hj with ⟨h1, h2, _⟩ | ⟨h1, _⟩ | ⟨h1, h2, _⟩ <;> omega
  have h2 := own_stable (vs := vs) hjl (by rw [h1]; exact ho)
  have h3 := own_stable (vs := vs) hj ho
  rw [h1] at h2
  rw [← h2, ← h3]
  rw [show jT op a b = a ++ (b.map (onN a.length) ++ [opN op ((a.length : Int) - 1) ((a.length : Int) + b.length - 1)]) by simp [jT], names_pre (by omega)]
theorem par_uni {t : List Nd} {lo : Nat → Nat} (T : Tre t lo) {i j : Nat} (hi : i < t.length) (ho : 25 ≤ t[i].op) (ha : t[i].a = (j : Int)) : parT t j = some i := par_at T hi ho ha
theorem jT_par (A : Tre a (loOf a)) (B : Tre b (loOf b)) {lo : Nat → Nat} (T : Tre (jT op a b) lo) (j : Nat) (hj : j < a.length - 1) : parT (jT op a b) j = parT a j := by
  cases h : parT a j with
  | some p =>
    obtain ⟨hp, h1, h2⟩ := par_is h
    have hpl : p < (jT op a b).length := by rw [jT_len]; omega
    exact par_at T hpl (by rw [jT_pre p hp]; exact h1) (by rw [jT_pre p hp]; exact h2)
  | none =>
    cases h' : parT (jT op a b) j with
    | none => rfl
    | some p =>
      obtain ⟨hp, h1, h2⟩ := par_is h'
      have hp' := hp
      rw [jT_len] at hp'
      by_cases hpa : p < a.length
      · rw [jT_pre p hpa] at h1 h2
        rw [par_at A hpa h1 h2] at h
        cases h
      · by_cases hpb : p < a.length + b.length
        · rw [jT_mid p (by omega) hpb] at h2
          simp only [onN] at h2
          rcases B.kind (p - a.length) (by omega) with ⟨b1, b2, b3, b4, b5⟩ | ⟨b0, b1, b2, b3, b4⟩ | ⟨b0, b0', b1, b2, c, b3, b4, b5⟩
          · rw [if_neg (by omega)] at h2; omega
          · rw [if_pos (by omega)] at h2; omega
          · rw [if_pos (by omega)] at h2; omega
        · obtain rfl : p = a.length + b.length := by omega
          rw [jT_last] at h2
          simp only [opN] at h2
          omega
/-- The instructions of the left side, the jump, the rest. -/
theorem jT_code (A : Tre a (loOf a)) (B : Tre b (loOf b)) {lo : Nat → Nat} (T : Tre (jT op a b) lo) (ho : 25 ≤ op) : ∃ r, codeT vs (jT op a b) = codeT vs a ++ (⟨op, 0, 0, 0, ((codeT vs (jT op a b)).length : Int)⟩ : Ins) :: r ∧ r ≠ [] := by
  have hp := A.pos
  obtain ⟨k, hk⟩ : ∃ k, a.length = k + 1 := ⟨a.length - 1, by omega⟩
  have hlastl : a.length + b.length < (jT op a b).length := by rw [jT_len]; omega
  have hpk : parT (jT op a b) k = some (a.length + b.length) := par_at T hlastl (by rw [jT_last]; exact ho) (by rw [jT_last]; simp only [opN]; omega)
  have hpa : parT a k = none := by have := par_root A; rwa [show a.length - 1 = k by omega] at this
  have hps : ∀ j, j < k → (parT (jT op a b) j).isSome = (parT a j).isSome := fun j hj => by rw [jT_par A B T j (by omega)]
  have hpos : ∀ p, p ≤ k → posT (jT op a b) p = posT a p := fun p hpk => pos_same fun j hj => hps j (by omega)
  have hl := lay_two (t := jT op a b) (a := a) (f := ownT vs (jT op a b)) (f' := ownT vs a) (g := jmpT (jT op a b) fun p => posT (jT op a b) p + 1) (g' := jmpT a fun p => posT a p + 1) (n := k) (fun j hj => jT_own A j (by omega)) hps (fun j hj hs => by
    unfold jmpT
    rw [jT_par A B T j (by omega)]
    cases h : parT a j with
    | none => rfl
    | some p =>
      obtain ⟨hpl, h1, h2⟩ := par_is h
      simp only []
      rw [hpos p (by omega), getD_at hpl, getD_at (show p < (jT op a b).length by rw [jT_len]; omega), jT_pre p hpl])
  have hca : codeT vs a = layT a (ownT vs a) (jmpT a fun p => posT a p + 1) k ++ [ownT vs a k] := by
    unfold codeT
    rw [hk]
    simp only [layT, hpa]
    simp
  have hjm : jmpT (jT op a b) (fun p => posT (jT op a b) p + 1) k = ⟨op, 0, 0, 0, ((codeT vs (jT op a b)).length : Int)⟩ := by
    unfold jmpT
    rw [hpk]
    simp only []
    rw [getD_at hlastl, jT_last, codeT, lay_len, pos_end T, jT_len, Nat.add_sub_cancel]
    simp [opN]
  obtain ⟨r, hr⟩ := lay_pre (t := jT op a b) (f := ownT vs (jT op a b)) (g := jmpT (jT op a b) fun p => posT (jT op a b) p + 1) (n := k + 1) (b.length + 1)
  have hct : codeT vs (jT op a b) = codeT vs a ++ (⟨op, 0, 0, 0, ((codeT vs (jT op a b)).length : Int)⟩ : Ins) :: r := by
    have e : codeT vs (jT op a b) = layT (jT op a b) (ownT vs (jT op a b)) (jmpT (jT op a b) fun p => posT (jT op a b) p + 1) (k + 1 + (b.length + 1)) := by
      unfold codeT; rw [jT_len, hk]; rfl
    have e2 : layT (jT op a b) (ownT vs (jT op a b)) (jmpT (jT op a b) fun p => posT (jT op a b) p + 1) (k + 1) = codeT vs a ++ [(⟨op, 0, 0, 0, ((codeT vs (jT op a b)).length : Int)⟩ : Ins)] := by
      simp only [layT, hpk, hl, hjm, jT_own A k (by omega)]
      rw [hca]
      simp
    rw [e2] at hr
    rw [hr] at e
    refine e.trans ?_
    simp
  refine ⟨r, hct, fun h0 => ?_⟩
  have h1 := congrArg List.length hr
  rw [lay_len, List.length_append, lay_len, h0] at h1
  have h2 := pos_lt (t := jT op a b) (k := k + 1) (n := k + 1 + (b.length + 1)) (by omega)
  simp only [List.length_nil] at h1
  omega
end
end Go.Proofs.YtkfphaphiikloaaDoor

/-
  THE LAWS WITHOUT THE DOCUMENT, PART K: the right side's instructions overwritten: the plain law.
-/
namespace Go.Proofs.YtkfphaphiikloaaDoor
open Go Go.Eng

theorem wr_app2 {α : Type} : ∀ (cs : List α) (a b c : List α), b.length = cs.length → wr (a ++ b ++ c) a.length cs = a ++ cs ++ c
  | [], a, b, c, h => by
    have : b = [] := List.eq_nil_of_length_eq_zero h
    subst this; rfl
  | x :: r, a, [], c, h => by simp at h
  | x :: r, a, y :: b, c, h => by
    have e : ((a ++ (y :: b) ++ c).set a.length x) = (a ++ [x]) ++ b ++ c := by
      rw [List.append_assoc, List.set_append_right _ _ (Nat.le_refl _), Nat.sub_self]
      simp
    have := wr_app2 r (a ++ [x]) b c (by simpa using h)
    rw [List.length_append] at this
    simp only [wr, e]
    rw [show a.length + [x].length = a.length + 1 by rfl] at this
    rw [this]
    simp
theorem flat_wr2 {α : Type} {sz : Nat} {d : De α} {en : α → List AV} (f : Flat sz d en) (y : α) : ∀ (l : List α) (i : Nat), i < l.length → wr (l.flatMap en) (i * sz) (en y) = (l.set i y).flatMap en := fun l i hi => by
  have h1 : l = l.take i ++ l[i] :: l.drop (i + 1) := by rw [← List.drop_eq_getElem_cons hi, List.take_append_drop]
  have hl : ((l.take i).flatMap en).length = i * sz := by rw [flat_len f, List.length_take]; congr 1; omega
  have e1 : l.flatMap en = (l.take i).flatMap en ++ en l[i] ++ (l.drop (i + 1)).flatMap en := by
    conv => lhs; rw [h1]
    rw [List.flatMap_append, List.flatMap_cons, List.append_assoc]
  have := wr_app2 (en y) ((l.take i).flatMap en) (en l[i]) ((l.drop (i + 1)).flatMap en) (by rw [f.len, f.len])
  rw [hl, ← e1] at this
  rw [this, List.set_eq_take_append_cons_drop, if_pos hi, List.flatMap_append, List.flatMap_cons, List.append_assoc]
def z99 : Ins := ⟨99, 0, 0, 0, 0⟩
/-- k places from s on, overwritten. -/
def bl (l : List Ins) (s : Nat) : Nat → List Ins
  | 0 => l
  | k + 1 => (bl l s k).set (s + k) z99
theorem bl_len (l : List Ins) (s : Nat) : ∀ k, (bl l s k).length = l.length
  | 0 => rfl
  | k + 1 => by rw [bl, List.length_set, bl_len l s k]
theorem bl_get (l : List Ins) (s : Nat) : ∀ (k i : Nat), i < l.length → (bl l s k)[i]? = if s ≤ i ∧ i < s + k then some z99 else l[i]?
  | 0, i, _ => by rw [bl, if_neg (by omega)]
  | k + 1, i, hi => by
    rw [bl, List.getElem?_set]
    by_cases e : s + k = i
    · rw [if_pos e, if_pos (by rw [bl_len]; omega), if_pos (by omega)]
    · rw [if_neg e, bl_get l s k i hi]
      by_cases h : s ≤ i ∧ i < s + k
      · rw [if_pos h, if_pos (by omega)]
      · rw [if_neg h, if_neg (by omega)]
section
variable {sc : List Ty} {vs : List ByteArray} {en : En} {a b : List Nd} {op : Int}
/-- What is left runs as the law says. -/
theorem skip_run (ha : runT vs a = true) (hb : runT vs b = true) (ho : op = 25 ∨ op = 26) (hta : truthT a = true) (htb : truthT b = true) (hs : a.length + b.length < 4611686018427387904) :
    (codeT vs a).length + 1 < (compP sc vs (joinT op a b)).code.length ∧
    runV ⟨bl (compP sc vs (joinT op a b)).code ((codeT vs a).length + 1) ((compP sc vs (joinT op a b)).code.length - ((codeT vs a).length + 1)), (compP sc vs (joinT op a b)).cols⟩ en =
      if (evalV sc vs en a).k = true ∧ ((evalV sc vs en a).n ≠ 0 ↔ op = 26) then (evalV sc vs en a, 0) else bad := by
  obtain ⟨h1, _⟩ := run_tree ha
  obtain ⟨h3, _⟩ := run_tree hb
  have hw : wantsT op = true := by rcases ho with rfl | rfl <;> rfl
  have hr : runT vs (joinT op a b) = true := by rw [run_bin ha hb (by omega) (by omega) hs, hta, htb, hw]; rfl
  have hj : joinT op a b = jT op a b := join_bin (by omega) h3 hs
  rw [compP, if_pos hr]
  simp only []
  rw [hj] at hr ⊢
  obtain ⟨h5, _⟩ := run_tree hr
  obtain ⟨r, hc, hne⟩ := jT_code (vs := vs) (tre_of h1) (tre_of h3) (tre_of h5) (show 25 ≤ op by omega)
  obtain ⟨m, hm⟩ := jT_names (a := a) (b := b) (op := op)
  obtain ⟨L, hL⟩ : ∃ L, L = (codeT vs (jT op a b)).length := ⟨_, rfl⟩
  rw [← hL] at hc ⊢
  have hrl : 0 < r.length := List.length_pos_iff.2 hne
  have hlen : L = (codeT vs a).length + 1 + r.length := by rw [hL, hc]; simp; omega
  obtain ⟨f, hf⟩ : ∃ f, f = (codeT vs a).length := ⟨_, rfl⟩
  rw [← hf] at hlen ⊢
  refine ⟨by omega, ?_⟩
  have hget : ∀ i, i < f → (bl (codeT vs (jT op a b)) (f + 1) (L - (f + 1)))[i]? = (codeT vs a)[i]? := fun i hi => by
    rw [bl_get _ _ _ _ (by omega), if_neg (by omega), hc, List.getElem?_append_left (by omega)]
  have hjmp : (bl (codeT vs (jT op a b)) (f + 1) (L - (f + 1)))[f]? = some ⟨op, 0, 0, 0, (L : Int)⟩ := by
    rw [bl_get _ _ _ _ (by omega), if_neg (by omega), hc, hf, List.getElem?_append_right (Nat.le_refl _), Nat.sub_self]
    rfl
  have hbad : (bl (codeT vs (jT op a b)) (f + 1) (L - (f + 1)))[f + 1]? = some z99 := by
    rw [bl_get _ _ _ _ (by omega), if_pos (by omega)]
  have hbl : (bl (codeT vs (jT op a b)) (f + 1) (L - (f + 1))).length = L := by rw [bl_len, hL]
  generalize hcode : bl (codeT vs (jT op a b)) (f + 1) (L - (f + 1)) = code at *
  have hall := run_all (sc := sc) (en := en) (P := ⟨code, (namesOf (jT op a b)).map (colOf sc)⟩) (fun pos x hx => by
    have hp : pos < f := by
      have := (List.getElem?_eq_some_iff.1 hx).1
      omega
    rw [← hx]
    exact hget pos hp) (fun k c hk => by
    simp only []
    rw [hm, List.map_append, List.getElem?_append_left (List.getElem?_eq_some_iff.1 hk).1]
    exact hk) ha
  rw [hall, ← hf]
  generalize evalV sc vs en a = x at *
  obtain ⟨j1, j2⟩ : ∃ h : f < code.length, code[f]'h = ⟨op, 0, 0, 0, (L : Int)⟩ := List.getElem?_eq_some_iff.1 hjmp
  obtain ⟨z1, z2⟩ : ∃ h : f + 1 < code.length, code[f + 1]'h = z99 := List.getElem?_eq_some_iff.1 hbad
  have hne2 : ¬ (needsV (⟨op, 0, 0, 0, (L : Int)⟩ : Ins).code < 0 ∨ (([x] : List V).length : Int) < needsV (⟨op, 0, 0, 0, (L : Int)⟩ : Ins).code) := by
    simp only [needsV, List.length_cons, List.length_nil]
    (repeat' split) <;> omega
  have hjt : ¬ ((⟨op, 0, 0, 0, (L : Int)⟩ : Ins).to ≤ ((f : Nat) : Int) ∨ (⟨op, 0, 0, 0, (L : Int)⟩ : Ins).to > (code.length : Int)) := by
    simp only []
    omega
  have hg : ([x] : List V).getLastD unk = x := rfl
  by_cases hd : x.k = true ∧ (x.n ≠ 0 ↔ op = 26)
  · rw [if_pos hd]
    have hst := step_jump (p := ⟨code, (namesOf (jT op a b)).map (colOf sc)⟩) (e := en) (pos := f) (st := [x]) hne2 (show 25 ≤ op by omega) hjt (by rw [hg]; exact hd)
    rw [← j2] at hst
    rw [from_some j1 hst]
    simp only [j2]
    rw [from_end (by simp only []; omega)]
    rfl
  · rw [if_neg hd]
    have hst := step_stay (p := ⟨code, (namesOf (jT op a b)).map (colOf sc)⟩) (e := en) (pos := f) (st := [x]) hne2 (show 25 ≤ op by omega) hjt (by rw [hg]; exact hd)
    rw [← j2] at hst
    rw [from_some j1 hst]
    refine from_none z1 ?_
    rw [z2]
    simp [stepV, z99, needsV]
end
end Go.Proofs.YtkfphaphiikloaaDoor
