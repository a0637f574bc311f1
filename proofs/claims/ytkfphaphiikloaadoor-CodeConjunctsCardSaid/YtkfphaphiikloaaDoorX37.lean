/-
  THE LAWS WITHOUT THE DOCUMENT, PART G: what a joined tree comes to: the plain law.
-/
import Derived.Test.YtkfphaphiikloaaDoorX36
import Derived.Test.YtkfphaphiikloaaDoorX23
import Derived.Test.YtkfphaphiikloaaDoorX19
set_option linter.unusedSimpArgs false
set_option linter.unusedVariables false
set_option linter.constructorNameAsVariable false
namespace Go.Proofs.YtkfphaphiikloaaDoor
open Go Go.Eng

/-- Is what a tree gives a truth? -/
def truthT (t : List Nd) : Bool := truthO (t.getD (t.length - 1) nd0).op
section
variable {sc : List Ty} {vs : List ByteArray} {en : En} {a b : List Nd} {op : Int}
theorem tree_un (ha : tree1 a = true) (ho : op = 12 ∨ op = 13) : tree1 (a ++ [opN op ((a.length : Int) - 1) (-1)]) = true := by
  obtain ⟨lo, T⟩ := tre_un (tre_of ha) ho
  refine tree_of T fun i hi => ?_
  by_cases hia : i < a.length
  · rw [List.getElem_append_left hia]; exact tree_fields ha i hia
  · rw [List.getElem_append_right (by omega)]
    simp only [List.length_append, List.length_cons, List.length_nil] at hi
    simp only [show i - a.length = 0 by omega, List.getElem_cons_zero]
    exact opN_fields (by omega) _ _
theorem tree_bin (ha : tree1 a = true) (hb : tree1 b = true) (ho : 14 ≤ op) (ho' : op ≤ 26) : tree1 (a ++ b.map (onN a.length) ++ [opN op ((a.length : Int) - 1) ((a.length : Int) + b.length - 1)]) = true := by
  obtain ⟨lo, T⟩ := tre_bin (tre_of ha) (tre_of hb) ho ho'
  refine tree_of T fun i hi => ?_
  by_cases hia : i < a.length
  · rw [List.getElem_append_left (by simp; omega), List.getElem_append_left hia]; exact tree_fields ha i hia
  · by_cases hib : i < a.length + b.length
    · rw [List.getElem_append_left (by simp; omega), List.getElem_append_right (by omega), List.getElem_map, onN_fields]
      exact tree_fields hb _ _
    · rw [List.getElem_append_right (by simp; omega)]
      simp only [List.length_append, List.length_map, List.length_cons, List.length_nil] at hi ⊢
      simp only [show i - (a.length + b.length) = 0 by omega, List.getElem_cons_zero]
      exact opN_fields (by omega) _ _
theorem root_pre (h : 0 < a.length) (c : List Nd) : (a ++ c).getD (a.length - 1) nd0 = a.getD (a.length - 1) nd0 := by
  rw [getD_at (show a.length - 1 < (a ++ c).length by simp; omega), getD_at (by omega), List.getElem_append_left (by omega)]
theorem root_mid (h : 0 < b.length) (c : List Nd) : ((a ++ b.map (onN a.length) ++ c).getD (a.length + b.length - 1) nd0).op = (b.getD (b.length - 1) nd0).op := by
  rw [getD_at (show a.length + b.length - 1 < (a ++ b.map (onN a.length) ++ c).length by simp; omega), getD_at (by omega), List.getElem_append_left (by simp; omega), List.getElem_append_right (by omega), List.getElem_map]
  simp only [onN, show a.length + b.length - 1 - a.length = b.length - 1 by omega]
theorem wants_op (x y : Int) : wantsT (opN op x y).op = wantsT op := rfl
theorem run_un (ha : runT vs a = true) (ho : op = 12 ∨ op = 13) (hs : a.length < 4611686018427387904) : runT vs (joinT op a b) = (truthT a == wantsT op) := by
  obtain ⟨h1, h2⟩ := run_tree ha
  have hp := tree_pos h1
  rw [join_un ho hs]
  have hlast : nodeOk vs (a ++ [opN op ((a.length : Int) - 1) (-1)]) (opN op ((a.length : Int) - 1) (-1)) = (truthT a == wantsT op) := by
    unfold nodeOk
    have e1 : ¬ op < 4 := by omega
    have e2 : ¬ op ≤ 11 := by omega
    have e3 : ((a.length : Int) - 1).toNat = a.length - 1 := by omega
    simp only [opN, e1, e2, if_false, e3]
    rw [root_pre hp]
    simp [truthT]
  have hl : (a ++ [opN op ((a.length : Int) - 1) (-1)]).length = a.length + 1 := by simp
  rw [runT, tree_un h1 ho, Bool.true_and, Bool.eq_iff_iff, ok_all, ← hlast]
  constructor
  · intro h
    have := h a.length (by omega)
    rw [List.getElem_append_right (by omega)] at this
    simpa using this
  · intro h i hi
    by_cases hia : i < a.length
    · have := emb_ok (vs := vs) (tre_of h1) (emb_pre a [opN op ((a.length : Int) - 1) (-1)]) i hia
      rw [onN_zero] at this
      rw [List.getElem_append_left hia, this]
      exact ok_all.1 h2 i hia
    · obtain rfl : i = a.length := by omega
      rw [List.getElem_append_right (by omega)]
      simpa using h
theorem run_bin (ha : runT vs a = true) (hb : runT vs b = true) (ho : 14 ≤ op) (ho' : op ≤ 26) (hs : a.length + b.length < 4611686018427387904) : runT vs (joinT op a b) = ((truthT a == wantsT op) && (truthT b == wantsT op)) := by
  obtain ⟨h1, h2⟩ := run_tree ha
  obtain ⟨h3, h4⟩ := run_tree hb
  have hp := tree_pos h1
  have hq := tree_pos h3
  rw [join_bin ho h3 hs]
  have hl : (a ++ b.map (onN a.length) ++ [opN op ((a.length : Int) - 1) ((a.length : Int) + b.length - 1)]).length = a.length + b.length + 1 := by simp; omega
  have hlast : nodeOk vs (a ++ b.map (onN a.length) ++ [opN op ((a.length : Int) - 1) ((a.length : Int) + b.length - 1)]) (opN op ((a.length : Int) - 1) ((a.length : Int) + b.length - 1)) = ((truthT a == wantsT op) && (truthT b == wantsT op)) := by
    have r1 := root_pre hp (b.map (onN a.length) ++ [opN op ((a.length : Int) - 1) ((a.length : Int) + b.length - 1)])
    have r2 := root_mid (a := a) hq [opN op ((a.length : Int) - 1) ((a.length : Int) + b.length - 1)]
    rw [← List.append_assoc] at r1
    unfold nodeOk
    have e1 : ¬ op < 4 := by omega
    have e2 : ¬ op ≤ 11 := by omega
    have e3 : ((a.length : Int) - 1).toNat = a.length - 1 := by omega
    have e4 : ((a.length : Int) + b.length - 1).toNat = a.length + b.length - 1 := by omega
    have e5 : ¬ ((a.length : Int) + b.length - 1) < 0 := by omega
    have f1 : (opN op ((a.length : Int) - 1) ((a.length : Int) + b.length - 1)).op = op := rfl
    have f2 : (opN op ((a.length : Int) - 1) ((a.length : Int) + b.length - 1)).a = (a.length : Int) - 1 := rfl
    have f3 : (opN op ((a.length : Int) - 1) ((a.length : Int) + b.length - 1)).b = (a.length : Int) + b.length - 1 := rfl
    rw [f1, f2, f3, e3, e4, r1, r2, if_neg e1, if_neg e2]
    simp [truthT, e5]
  rw [runT, tree_bin h1 h3 ho ho', Bool.true_and, Bool.eq_iff_iff, ok_all, ← hlast]
  constructor
  · intro h
    have := h (a.length + b.length) (by omega)
    rw [List.getElem_append_right (by simp)] at this
    simpa using this
  · intro h i hi
    by_cases hia : i < a.length
    · have := emb_ok (vs := vs) (tre_of h1) (emb_pre a (b.map (onN a.length) ++ [opN op ((a.length : Int) - 1) ((a.length : Int) + b.length - 1)])) i hia
      rw [onN_zero, ← List.append_assoc] at this
      rw [List.getElem_append_left (by simp; omega), List.getElem_append_left hia, this]
      exact ok_all.1 h2 i hia
    · by_cases hib : i < a.length + b.length
      · have := emb_ok (vs := vs) (tre_of h3) (emb_mid a b [opN op ((a.length : Int) - 1) ((a.length : Int) + b.length - 1)]) (i - a.length) (by omega)
        rw [List.getElem_append_left (by simp; omega), List.getElem_append_right (by omega), List.getElem_map, this]
        exact ok_all.1 h4 _ _
      · obtain rfl : i = a.length + b.length := by omega
        rw [List.getElem_append_right (by simp)]
        simpa using h
theorem eval_un (ha : runT vs a = true) (ho : op = 12 ∨ op = 13) (hs : a.length < 4611686018427387904) (hr : runT vs (joinT op a b) = true) : evalV sc vs en (joinT op a b) = if op = 12 then negL (evalV sc vs en a) else notV (evalV sc vs en a) := by
  obtain ⟨h1, _⟩ := run_tree ha
  have hp := tree_pos h1
  rw [evalV, if_pos hr, evalV, if_pos ha]
  rw [join_un ho hs]
  obtain ⟨lo, T⟩ := tre_un (tre_of h1) ho
  have hl : (a ++ [opN op ((a.length : Int) - 1) (-1)]).length - 1 = a.length := by simp
  rw [hl, val_rec T (by simp)]
  have hx : (a ++ [opN op ((a.length : Int) - 1) (-1)])[a.length]'(by simp) = opN op ((a.length : Int) - 1) (-1) := by
    rw [List.getElem_append_right (by omega)]; simp
  rw [hx]
  have hv := emb_val (sc := sc) (vs := vs) (en := en) (tre_of h1) T (emb_pre a [opN op ((a.length : Int) - 1) (-1)]) (a.length - 1) (by omega)
  rw [Nat.zero_add] at hv
  have e3 : (opN op ((a.length : Int) - 1) (-1)).a.toNat = a.length - 1 := by simp only [opN]; omega
  rw [e3, hv]
  unfold nodeV
  rcases ho with rfl | rfl <;> simp [opN]
theorem eval_bin (ha : runT vs a = true) (hb : runT vs b = true) (ho : 14 ≤ op) (ho' : op ≤ 26) (hs : a.length + b.length < 4611686018427387904) (hr : runT vs (joinT op a b) = true) : evalV sc vs en (joinT op a b) = applyL op (evalV sc vs en a) (evalV sc vs en b) := by
  obtain ⟨h1, _⟩ := run_tree ha
  obtain ⟨h3, _⟩ := run_tree hb
  have hp := tree_pos h1
  have hq := tree_pos h3
  rw [evalV, if_pos hr, evalV, if_pos ha, evalV, if_pos hb]
  rw [join_bin ho h3 hs]
  obtain ⟨lo, T⟩ := tre_bin (tre_of h1) (tre_of h3) ho ho'
  have hl : (a ++ b.map (onN a.length) ++ [opN op ((a.length : Int) - 1) ((a.length : Int) + b.length - 1)]).length - 1 = a.length + b.length := by simp
  rw [hl, val_rec T (by simp)]
  have hx : (a ++ b.map (onN a.length) ++ [opN op ((a.length : Int) - 1) ((a.length : Int) + b.length - 1)])[a.length + b.length]'(by simp) = opN op ((a.length : Int) - 1) ((a.length : Int) + b.length - 1) := by
    rw [List.getElem_append_right (by simp)]; simp
  rw [hx]
  have E := emb_pre a (b.map (onN a.length) ++ [opN op ((a.length : Int) - 1) ((a.length : Int) + b.length - 1)])
  rw [← List.append_assoc] at E
  have hv := emb_val (sc := sc) (vs := vs) (en := en) (tre_of h1) T E (a.length - 1) (by omega)
  rw [Nat.zero_add] at hv
  have hw := emb_val (sc := sc) (vs := vs) (en := en) (tre_of h3) T (emb_mid a b [opN op ((a.length : Int) - 1) ((a.length : Int) + b.length - 1)]) (b.length - 1) (by omega)
  have e3 : (opN op ((a.length : Int) - 1) ((a.length : Int) + b.length - 1)).a.toNat = a.length - 1 := by simp only [opN]; omega
  have e4 : (opN op ((a.length : Int) - 1) ((a.length : Int) + b.length - 1)).b.toNat = a.length + (b.length - 1) := by simp only [opN]; omega
  rw [e3, e4, hv, hw]
  unfold nodeV
  have f1 : (opN op ((a.length : Int) - 1) ((a.length : Int) + b.length - 1)).op = op := rfl
  rw [f1, if_neg (by omega), if_neg (by omega), if_neg (by omega), if_neg (by omega), if_neg (by omega), if_neg (by omega)]
end
end Go.Proofs.YtkfphaphiikloaaDoor

/-
  THE LAWS WITHOUT THE DOCUMENT, PART J: is what a tree gives a truth? (the program's)
-/
namespace Go.Proofs.YtkfphaphiikloaaDoor
open Go Go.Eng

set_option maxRecDepth 100000 in
theorem p73 : P0 [] 73 g92 := by
  refine mk1 (S := []) tb_nil Tryd.func73 rfl (by kernel_rfl) ii (fun x a h => deI_out h) (fun a => rfl) (fun o h n => ?_)
  have hc : o = 2 ∨ o = 3 ∨ o = 13 ∨ (o ≠ 2 ∧ o ≠ 3 ∧ o ≠ 13) := by omega
  rcases hc with rfl | rfl | rfl | ⟨h1, h2, h3⟩
  · simp [evs, aeval, cx_ti, cx_G, cx_pf, cx_tw, ti, globS, glob, ldcs, sls, slc, pfL, ii, bv, truthO]
  · simp [evs, aeval, cx_ti, cx_G, cx_pf, cx_tw, ti, globS, glob, ldcs, sls, slc, pfL, ii, bv, truthO]
  · simp [evs, aeval, cx_ti, cx_G, cx_pf, cx_tw, ti, globS, glob, ldcs, sls, slc, pfL, ii, bv, truthO]
  · by_cases h4 : 19 ≤ o
    · by_cases h5 : o ≤ 26
      · have ht : truthO o = true := by simp only [truthO, decide_eq_true_eq]; omega
        simp [evs, aeval, cx_ti, cx_G, cx_pf, cx_tw, ti, globS, glob, ldcs, sls, slc, pfL, ii, bv, ht, h1, h2, h3, h4, h5]
      · have ht : truthO o = false := by simp only [truthO, decide_eq_false_iff_not]; omega
        simp [evs, aeval, cx_ti, cx_G, cx_pf, cx_tw, ti, globS, glob, ldcs, sls, slc, pfL, ii, bv, ht, h1, h2, h3, h4, h5]
    · have ht : truthO o = false := by simp only [truthO, decide_eq_false_iff_not]; omega
      simp [evs, aeval, cx_ti, cx_G, cx_pf, cx_tw, ti, globS, glob, ldcs, sls, slc, pfL, ii, bv, ht, h1, h2, h3, h4]
def G44 := pureH deT smallT fun t => bv (decide (0 < t.length) && truthT t)
def tb44 : List (FuncId × (List AV → Heap → PRes)) := [(73, g92)]
set_option maxRecDepth 100000 in
set_option maxHeartbeats 2000000 in
theorem P44 : P0 [] 44 G44 := by
  refine mkH 1 (S := []) (l := tb44) (tb_cons p73 tb_nil) Tryd.func44 rfl (by kernel_rfl) deT_mono (fun h l x e => by obtain ⟨a, rfl, _⟩ := deT_out e; exact Nat.le_refl _) (fun a => rfl) (fun args t h n e hp hn => ?_)
  obtain ⟨a, rfl, e1⟩ := deT_out e
  obtain ⟨s1, s2, s3, s4, s5⟩ := sl_is e1
  by_cases h0 : t.length = 0
  · simp [evs, aeval, cx_ti, cx_G, cx_pf, cx_tw, ti, globS, glob, ldcs_1, ldcs_2, ldcs_3, ldcs_4, ldcs_5, ldcs_7, sls.eq_1, slc.eq_1, pfL, s1, s2, s3, h0, tb44, bv]
  · obtain ⟨j, he⟩ : ∃ j, t.length = j + 1 := ⟨t.length - 1, by omega⟩
    have he1 : IntKind.i64.wrap ((t.length : Int) - 1) = j := by rw [he]; exact wrapm1 (by have : t.length * 64 ≤ 140737488355328 := hp; unfold big; omega)
    have he3 : 0 < t.length := by omega
    have he4 : j < t.length := by omega
    rcases ns_at e1 with ⟨hq, _⟩ | ⟨id, off, k, rfl, hk, ho', hat⟩
    · rw [hq] at he3; simp at he3
    have hro := ro_at hk
    have h0' := ne_of hk hn 0
    simp only [Nat.add_zero] at h0'
    have hcl := cell_of (c := 0) (hat j he4) rfl (by omega)
    simp only [Nat.add_zero] at hcl
    have hw1 : off + (j * 6 + 1) ≤ k.cells.length := by omega
    have htt : truthT t = truthO t[j].op := by unfold truthT; rw [show t.length - 1 = j by omega, getD_at he4]
    generalize t[j].op = o at *
    simp only [ii] at hcl
    simp [evs, aeval, cx_ti, cx_G, cx_pf, cx_tw, ti, globS, glob, ldcs_1, ldcs_2, ldcs_3, ldcs_4, ldcs_5, ldcs_7, sls.eq_1, slc.eq_1, pfL, s1, s2, s3, he1, he3, he4, hro, h0', hcl, hw1, tb44, g92, pure1, deI, htt, bv]
end Go.Proofs.YtkfphaphiikloaaDoor

/-
  THE LAWS WITHOUT THE DOCUMENT, PART M: subtrees as trees of their own; conjuncts: the plain law.
-/
namespace Go.Proofs.YtkfphaphiikloaaDoor
open Go Go.Eng

/-- A node d places back. -/
def offN (d : Nat) (x : Nd) : Nd := ⟨x.op, x.n, x.var, x.attr, if 0 ≤ x.a then x.a - d else x.a, if 0 ≤ x.b then x.b - d else x.b⟩
/-- The nodes from d on, up to r. -/
def cutT (t : List Nd) (d r : Nat) : List Nd := ((t.drop d).take (r + 1 - d)).map (offN d)
def subT (t : List Nd) (r : Nat) : List Nd := cutT t (loOf t r) r
section
variable {t : List Nd} {lo : Nat → Nat} {r : Nat}
theorem cut_len (hr : r < t.length) (hd : lo r ≤ r) : (cutT t (lo r) r).length = r + 1 - lo r := by
  simp only [cutT, List.length_map, List.length_take, List.length_drop]
  omega
theorem cut_at (hr : r < t.length) (hd : lo r ≤ r) (i : Nat) (hi : i < (cutT t (lo r) r).length) : (cutT t (lo r) r)[i] = offN (lo r) (t[lo r + i]'(by rw [cut_len hr hd] at hi; omega)) := by
  simp only [cutT, List.getElem_map, List.getElem_take, List.getElem_drop]
theorem in_lo (T : Tre t lo) (hr : r < t.length) {i : Nat} (h1 : lo r ≤ i) (h2 : i ≤ r) : lo r ≤ lo i := by
  by_cases e : i = r
  · rw [e]; exact Nat.le_refl _
  · rcases lam T r i hr (by omega) with h | h
    · exact h
    · omega
/-- The nodes of a subtree point into it. -/
theorem in_kids (T : Tre t lo) (hr : r < t.length) {i : Nat} (h1 : lo r ≤ i) (h2 : i ≤ r) (hi : i < t.length) : (0 ≤ t[i].a → (lo r : Int) ≤ t[i].a) ∧ (0 ≤ t[i].b → (lo r : Int) ≤ t[i].b) := by
  have hl := in_lo T hr h1 h2
  rcases T.kind i hi with ⟨b1, b2, b3, b4, b⟩ | ⟨b0, b1, b2, b3, b⟩ | ⟨b0, b0', b1, b2, a, b3, b4, b⟩
  · omega
  · have := T.le (i - 1) (by omega)
    omega
  · have := T.le (i - 1) (by omega)
    have := T.le a (by omega)
    omega
theorem cut_emb (T : Tre t lo) (hr : r < t.length) : Emb (cutT t (lo r) r) t (lo r) := by
  have hd := T.le r hr
  refine ⟨by rw [cut_len hr hd]; omega, fun i hi hj => ?_⟩
  rw [cut_at hr hd i hi]
  have hi' := hi
  rw [cut_len hr hd] at hi'
  obtain ⟨k1, k2⟩ := in_kids T hr (i := lo r + i) (by omega) (by omega) hj
  generalize t[lo r + i] = x at *
  obtain ⟨op, n, var, attr, a, b⟩ := x
  simp only [onN, offN] at k1 k2 ⊢
  by_cases ha : 0 ≤ a
  · by_cases hb : 0 ≤ b
    · have := k1 ha; have := k2 hb
      rw [if_pos ha, if_pos hb, if_pos (by omega), if_pos (by omega)]
      congr 1 <;> omega
    · have := k1 ha
      rw [if_pos ha, if_neg hb, if_pos (by omega), if_neg hb]
      congr 1; omega
  · by_cases hb : 0 ≤ b
    · have := k2 hb
      rw [if_neg ha, if_pos hb, if_neg ha, if_pos (by omega)]
      congr 1; omega
    · rw [if_neg ha, if_neg hb, if_neg ha, if_neg hb]
theorem cut_tre (T : Tre t lo) (hr : r < t.length) : Tre (cutT t (lo r) r) (fun i => lo (lo r + i) - lo r) := by
  have hd := T.le r hr
  have hl := cut_len (lo := lo) hr hd
  refine ⟨by omega, ?_, fun i hi => ?_, fun i hi => ?_⟩
  · rw [hl, show lo r + (r + 1 - lo r - 1) = r by omega]; omega
  · rw [hl] at hi
    have := T.le (lo r + i) (by omega)
    omega
  · have hi' := hi
    rw [hl] at hi'
    have hin := in_lo T hr (i := lo r + i) (by omega) (by omega)
    have hj : lo r + i < t.length := by omega
    rw [cut_at hr hd i hi]
    rcases T.kind (lo r + i) hj with ⟨b1, b2, b3, b4, b⟩ | ⟨b0, b1, b2, b3, b⟩ | ⟨b0, b0', b1, b2, a, b3, b4, b⟩
    · exact .inl ⟨b1, b2, by simp only [offN]; rw [if_neg (by omega)]; exact b3, by simp only [offN]; rw [if_neg (by omega)]; exact b4, show lo (lo r + i) - lo r = i by omega⟩
    · have hle := T.le (lo r + i - 1) (by omega)
      have h1 : 1 ≤ i := by
        by_cases e : i = 0
        · subst e; simp only [Nat.add_zero] at *; omega
        · omega
      refine .inr (.inl ⟨b0, h1, by simp only [offN]; rw [if_pos (by omega)]; omega, by simp only [offN]; rw [if_neg (by omega)]; exact b3, ?_⟩)
      show lo (lo r + i) - lo r = lo (lo r + (i - 1)) - lo r
      rw [show lo r + (i - 1) = lo r + i - 1 by omega, b]
    · have hle := T.le (lo r + i - 1) (by omega)
      have hla := T.le a (by omega)
      have h1 : 1 ≤ i := by
        by_cases e : i = 0
        · subst e; simp only [Nat.add_zero] at *; omega
        · omega
      refine .inr (.inr ⟨b0, b0', h1, by simp only [offN]; rw [if_pos (by omega)]; omega, a - lo r, by simp only [offN]; rw [if_pos (by omega)]; omega, ?_, ?_⟩)
      · show lo (lo r + (i - 1)) - lo r = a - lo r + 1
        rw [show lo r + (i - 1) = lo r + i - 1 by omega, b4]; omega
      · show lo (lo r + i) - lo r = lo (lo r + (a - lo r)) - lo r
        rw [b, show lo r + (a - lo r) = a by omega]
end
section
variable {sc : List Ty} {vs : List ByteArray} {en : En} {t : List Nd} {r : Nat}
theorem sub_tree (h : tree1 t = true) (hr : r < t.length) : tree1 (subT t r) = true := by
  have T := tre_of h
  refine tree_of (cut_tre T hr) fun i hi => ?_
  unfold subT at hi
  have hd := T.le r hr
  simp only [subT]
  rw [cut_at hr hd i hi]
  exact tree_fields h _ _
theorem sub_run (h : runT vs t = true) (hr : r < t.length) : runT vs (subT t r) = true := by
  obtain ⟨h1, h2⟩ := run_tree h
  have T := tre_of h1
  rw [runT, sub_tree h1 hr, Bool.true_and, ok_all]
  intro i hi
  have E := cut_emb T hr
  have h3 : nodeOk vs t (onN (loOf t r) ((subT t r)[i]'hi)) = nodeOk vs (subT t r) ((subT t r)[i]'hi) := emb_ok (vs := vs) (tre_of (sub_tree h1 hr)) E i hi
  have hj : loOf t r + i < t.length := by have := E.len; unfold subT at hi; omega
  have h4 : t[loOf t r + i] = onN (loOf t r) ((subT t r)[i]'hi) := E.at' i hi hj
  rw [← h3, ← h4]
  exact ok_all.1 h2 _ hj
theorem sub_eval (h : runT vs t = true) (hr : r < t.length) : evalV sc vs en (subT t r) = valAt sc (t.map (itemV vs)) en t r := by
  obtain ⟨h1, h2⟩ := run_tree h
  have T := tre_of h1
  have hd := T.le r hr
  rw [evalV, if_pos (sub_run h hr)]
  have hl : (subT t r).length = r + 1 - loOf t r := cut_len hr hd
  have := emb_val (sc := sc) (vs := vs) (en := en) (tre_of (sub_tree h1 hr)) T (cut_emb T hr) ((subT t r).length - 1) (show (subT t r).length - 1 < (subT t r).length by omega)
  rw [← this, hl, show loOf t r + (r + 1 - loOf t r - 1) = r by omega]
end
/-- The roots of the conjuncts. -/
def conjF (t : List Nd) : Nat → Nat → List Nat
  | 0, _ => []
  | k + 1, i => if (t.getD i nd0).op ≠ 25 then [i] else conjF t k (t.getD i nd0).a.toNat ++ conjF t k (t.getD i nd0).b.toNat
def conjT (t : List Nd) (i : Nat) : List Nat := conjF t (i + 1) i
section
variable {t : List Nd} {lo : Nat → Nat} (T : Tre t lo)
include T
theorem conj_kids {i : Nat} (hi : i < t.length) (h : t[i].op = 25) : t[i].a.toNat < i ∧ t[i].b.toNat < i ∧ 0 ≤ t[i].a ∧ 0 ≤ t[i].b := by
  rcases T.kind i hi with ⟨b1, b2, b3, b4, b⟩ | ⟨b0, b1, b2, b3, b⟩ | ⟨b0, b0', b1, b2, a, b3, b4, b⟩
  · omega
  · omega
  · have := T.le (i - 1) (by omega)
    omega
theorem conj_fuel : ∀ (k m i : Nat), i < t.length → i < k → i < m → conjF t k i = conjF t m i
  | 0, _, _, _, h, _ => by omega
  | _, 0, _, _, _, h => by omega
  | k + 1, m + 1, i, hi, h1, h2 => by
    simp only [conjF]
    rw [getD_at hi]
    split
    · rfl
    · rename_i ho
      obtain ⟨k1, k2, _⟩ := conj_kids T hi (by simpa using ho)
      rw [conj_fuel k m _ (by omega) (by omega) (by omega), conj_fuel k m t[i].b.toNat (by omega) (by omega) (by omega)]
omit T in
theorem conj_one {i : Nat} (hi : i < t.length) (h : t[i].op ≠ 25) : conjT t i = [i] := by
  simp only [conjT, conjF]
  rw [getD_at hi, if_pos h]
theorem conj_two {i : Nat} (hi : i < t.length) (h : t[i].op = 25) : conjT t i = conjT t t[i].a.toNat ++ conjT t t[i].b.toNat := by
  obtain ⟨k1, k2, _⟩ := conj_kids T hi h
  simp only [conjT]
  rw [conjF, getD_at hi, if_neg (by simp [h])]
  rw [conj_fuel T i (t[i].a.toNat + 1) _ (by omega) (by omega) (by omega), conj_fuel T i (t[i].b.toNat + 1) _ (by omega) (by omega) (by omega)]
theorem conj_all : ∀ i, i < t.length → (∀ x ∈ conjT t i, x ≤ i) ∧ conjT t i ≠ [] := by
  intro i
  induction i using Nat.strongRecOn with
  | _ i ih =>
    intro hi
    by_cases h : t[i].op = 25
    · obtain ⟨k1, k2, _⟩ := conj_kids T hi h
      rw [conj_two T hi h]
      obtain ⟨a1, a2⟩ := ih _ k1 (by omega)
      obtain ⟨b1, b2⟩ := ih _ k2 (by omega)
      refine ⟨fun x hx => ?_, by simp [a2]⟩
      rcases List.mem_append.1 hx with hx | hx
      · have := a1 x hx; omega
      · have := b1 x hx; omega
    · rw [conj_one hi h]
      simp
theorem conj_len : ∀ i, i < t.length → (conjT t i).length ≤ i + 1 - lo i := by
  intro i
  induction i using Nat.strongRecOn with
  | _ i ih =>
    intro hi
    have hl := T.le i hi
    by_cases h : t[i].op = 25
    · obtain ⟨k1, k2, _⟩ := conj_kids T hi h
      rw [conj_two T hi h, List.length_append]
      have c1 := ih _ k1 (by omega)
      have c2 := ih _ k2 (by omega)
      rcases T.kind i hi with ⟨b1, b2, b3, b4, b⟩ | ⟨b0, b1, b2, b3, b⟩ | ⟨b0, b0', b1, b2, a, b3, b4, b⟩
      · omega
      · omega
      · have e1 : t[i].a.toNat = a := by omega
        have e2 : t[i].b.toNat = i - 1 := by omega
        have := T.le (i - 1) (by omega)
        have := T.le a (by omega)
        rw [e1] at c1 ⊢
        rw [e2] at c2 ⊢
        omega
    · rw [conj_one hi h]
      simp only [List.length_cons, List.length_nil]
      omega
end
theorem true_and (a b : V) : trueV (andV a b) = (trueV a && trueV b) := by
  obtain ⟨ak, an⟩ := a
  obtain ⟨bk, bn⟩ := b
  cases ak <;> cases bk <;> by_cases h1 : an = 0 <;> by_cases h2 : bn = 0 <;> simp [trueV, andV, rankV, ofRank, h1, h2]
section
variable {sc : List Ty} {vs : List ByteArray} {en : En} {t : List Nd} {lo : Nat → Nat}
/-- A truth is true just if its conjuncts are. -/
theorem conj_true (T : Tre t lo) : ∀ i, i < t.length → trueV (valAt sc (t.map (itemV vs)) en t i) = (conjT t i).all fun r => trueV (valAt sc (t.map (itemV vs)) en t r) := by
  intro i
  induction i using Nat.strongRecOn with
  | _ i ih =>
    intro hi
    by_cases h : t[i].op = 25
    · obtain ⟨k1, k2, _⟩ := conj_kids T hi h
      rw [conj_two T hi h, List.all_append, ← ih _ k1 (by omega), ← ih _ k2 (by omega), val_rec T hi]
      have : ∀ va vb, nodeV sc (itemV vs t[i]) en t[i] va vb = andV va vb := fun va vb => by
        unfold nodeV
        rw [h]
        simp [applyL]
      rw [this, true_and]
    · rw [conj_one hi h]
      simp
end
end Go.Proofs.YtkfphaphiikloaaDoor

/-
  THE LAWS WITHOUT THE DOCUMENT, PART N: how many nodes a subtree has; the subtree as a tree of its own (the program's).
-/
namespace Go.Proofs.YtkfphaphiikloaaDoor
open Go Go.Eng

def szN (t : List Nd) (i : Nat) : Nat := i + 1 - loOf t i
def G119 (m : Nat) := pureH deTI (fun q => tree1 q.1 = true ∧ smallT q.1 ∧ 0 ≤ q.2 ∧ q.2 < (m : Int) ∧ q.2 < (q.1.length : Int)) fun q => ii (szN q.1 q.2.toNat)
def tb119 (m : Nat) : List (FuncId × (List AV → Heap → PRes)) := [(119, G119 m)]
theorem p119_zero : P0 [] 119 (G119 0) := by
  have no : ∀ args h, ¬ (G119 0 args h).side := fun args h hs => by
    obtain ⟨a, _, hp, _⟩ := pureH_out deTI_mono hs
    obtain ⟨_, _, h1, h2, _⟩ := hp
    omega
  exact ⟨fun args h h' _ hs => (no _ _ hs).elim, .inl ⟨callable Tryd.func119 rfl rfl _ _, fun ρ h w args vs _ _ _ hs => (no _ _ hs).elim⟩⟩
set_option maxRecDepth 100000 in
set_option maxHeartbeats 4000000 in
theorem P119 : ∀ m, P0 [] 119 (G119 m)
  | 0 => p119_zero
  | m + 1 => by
    refine mkH 2 (S := []) (l := tb119 m) (tb_cons (P119 m) tb_nil) Tryd.func119 rfl (by kernel_rfl) deTI_mono (fun h l x e => by obtain ⟨p, rfl, _⟩ := deTI_out e; exact Nat.le_refl _) (fun a => rfl) (fun args q h n e hp hn => ?_)
    obtain ⟨t, i⟩ := q
    obtain ⟨a, rfl, e1⟩ := deTI_out e
    obtain ⟨ht, hsm, hi0, him, hil⟩ := hp
    simp only [] at e1 ht hsm hi0 him hil ⊢
    obtain ⟨j, rfl⟩ : ∃ j : Nat, i = j := ⟨i.toNat, by omega⟩
    rw [Int.toNat_natCast]
    have hlt : j < t.length := by omega
    have T := tre_of ht
    have hT := T.kind j hlt
    have hsm' : t.length * 64 ≤ 140737488355328 := hsm
    have g1 := rd_agree hn e1
    rcases ns_at e1 with ⟨h0, _⟩ | ⟨id, off, k, rfl, hk, ho', hat⟩
    · rw [h0] at hlt; simp at hlt
    have hr := hat j hlt
    have hro := ro_at hk
    have h0 := ne_of hk hn
    have h00 := ne_of hk hn 0
    simp only [Nat.add_zero] at h00
    have c4 := cell_of (c := 4) hr rfl (by omega)
    have c5 := cell_of (c := 5) hr rfl (by omega)
    rw [Nat.add_assoc] at c4 c5
    have hw5 : off + (j * 6 + 5) ≤ k.cells.length := by omega
    have hw6 : off + (j * 6 + 6) ≤ k.cells.length := by omega
    have hlo := T.le j hlt
    have hag := agree_refl n (roH h)
    rcases hT with ⟨b1, b2, b3, b4, b⟩ | ⟨b0, b1, b2, b3, b⟩ | ⟨b0, b0', b1, b2, c, b3, b4, b⟩
    · have hsz : szN t j = 1 := by unfold szN; omega
      rw [b3] at c4
      rw [b4] at c5
      simp only [ii] at c4 c5
      simp [evs, aeval, cx_ti, cx_G, cx_pf, cx_tw, ti, globS, glob, ldcs_1, ldcs_2, ldcs_3, ldcs_4, ldcs_5, ldcs_7, sls.eq_1, slc.eq_1, pfL, ii, hlt, hro, h00, c4, c5, hw5, hw6, hsz]
    · have hsz : (szN t j : Int) = 1 + (szN t (j - 1) : Int) := by
        have := T.le (j - 1) (by omega)
        unfold szN; omega
      rw [b2] at c4
      rw [b3] at c5
      simp only [ii] at c4 c5
      have k1 : j - 1 < m := by omega
      have k2 : j - 1 < t.length := by omega
      have hs2 : szN t (j - 1) ≤ t.length := by unfold szN; omega
      have hw := wrap_sm (x := 1 + (szN t (j - 1) : Int)) (by omega) (by omega)
      rw [hsz]
      generalize hz : szN t (j - 1) = z at *
      simp [evs, aeval, cx_ti, cx_G, cx_pf, cx_tw, ti, globS, glob, ldcs_1, ldcs_2, ldcs_3, ldcs_4, ldcs_5, ldcs_7, sls.eq_1, slc.eq_1, pfL, ii, hlt, hro, h00, c4, c5, hw5, hw6, tb119, G119, pureH, deTI, e1, g1, hag, ht, hsm, k1, k2, hz, hw]
      done
    · have hlb := T.le (j - 1) (by omega)
      have hla := T.le c (by omega)
      have hsz : (szN t j : Int) = 1 + (szN t c : Int) + (szN t (j - 1) : Int) := by
        unfold szN; omega
      rw [b3] at c4
      rw [b2] at c5
      simp only [ii] at c4 c5
      have k1 : j - 1 < m := by omega
      have k2 : j - 1 < t.length := by omega
      have k3 : c < m := by omega
      have k4 : c < t.length := by omega
      have hs1 : szN t c ≤ t.length := by unfold szN; omega
      have hs2 : szN t (j - 1) ≤ t.length := by unfold szN; omega
      have hw := wrap_sm (x := 1 + (szN t c : Int)) (by omega) (by omega)
      have hw' := wrap_sm (x := 1 + (szN t c : Int) + (szN t (j - 1) : Int)) (by omega) (by omega)
      rw [hsz]
      generalize hz1 : szN t (j - 1) = z1 at *
      generalize hz2 : szN t c = z2 at *
      simp [evs, aeval, cx_ti, cx_G, cx_pf, cx_tw, ti, globS, glob, ldcs_1, ldcs_2, ldcs_3, ldcs_4, ldcs_5, ldcs_7, sls.eq_1, slc.eq_1, pfL, ii, hlt, hro, h00, c4, c5, hw5, hw6, tb119, G119, pureH, deTI, e1, g1, hag, ht, hsm, k1, k2, k3, k4, hz1, hz2, hw, hw']
      done
def okTr (q : List Nd × Int) : Prop := tree1 q.1 = true ∧ smallT q.1 ∧ 0 ≤ q.2 ∧ q.2 < (q.1.length : Int)
def G119a := pureH deTI okTr fun q => ii (szN q.1 q.2.toNat)
theorem P119a : P0 [] 119 G119a := by
  refine ⟨fun args h h' hh hs => ?_, .inl ⟨callable Tryd.func119 rfl rfl _ _, fun ρ h w args vs r hmx ha hs => ?_⟩⟩
  · obtain ⟨a, e, hp, hall⟩ := pureH_out deTI_mono hs
    have e1 : G119a args h' = _ := hall h' hh
    have e2 : G119a args h = _ := hall h (fun _ _ e => e)
    rw [e1, e2]
    exact ⟨hp, rfl⟩
  · obtain ⟨a, e, hp, hall⟩ := pureH_out deTI_mono hs
    have e2 : G119a args h = _ := hall h (fun _ _ e => e)
    have e3 : G119 a.1.length args h = ⟨tree1 a.1 = true ∧ smallT a.1 ∧ 0 ≤ a.2 ∧ a.2 < (a.1.length : Int) ∧ a.2 < (a.1.length : Int), ii (szN a.1 a.2.toNat)⟩ := by simp only [G119, pureH, e]
    have hs' : (G119 a.1.length args h).side := by rw [e3]; exact ⟨hp.1, hp.2.1, hp.2.2.1, hp.2.2.2, hp.2.2.2⟩
    have hv : (G119 a.1.length args h).val = (G119a args h).val := by rw [e3, e2]
    rcases (P119 a.1.length).2 with ⟨_, k⟩ | k
    · have := k ρ h w args vs r hmx ha hs'
      rwa [hv] at this
    · obtain ⟨y, e9, _⟩ := k ρ h w args vs ha hs'
      rw [callable (S := []) Tryd.func119 rfl rfl] at e9
      cases e9
def G89 := pureH deTI okTr fun q => ii (szN q.1 q.2.toNat)
def tb89 : List (FuncId × (List AV → Heap → PRes)) := [(70, G70), (119, G119a)]
set_option maxRecDepth 100000 in
set_option maxHeartbeats 4000000 in
theorem P89 : P0 [7] 89 G89 := by
  refine mkH 2 (S := [7]) (l := tb89) (tb_cons P70 (tb_cons P119a tb_nil)) Tryd.func89 rfl (by kernel_rfl) deTI_mono (fun h l x e => by obtain ⟨p, rfl, _⟩ := deTI_out e; exact Nat.le_refl _) (fun a => rfl) (fun args q h n e hp hn => ?_)
  obtain ⟨t, i⟩ := q
  obtain ⟨a, rfl, e1⟩ := deTI_out e
  have hp' := hp
  obtain ⟨ht, hsm, hi0, hil⟩ := hp
  simp only [] at e1 ht hsm hi0 hil ⊢
  have g1 := rd_agree hn e1
  obtain ⟨s1, s2, s3, s4, s5⟩ := sl_is e1
  have hag := agree_refl n (roH h)
  have h1 : ¬ i < 0 := by omega
  have h2 : ¬ (t.length : Int) ≤ i := by omega
  simp [evs, aeval, cx_ti, cx_G, cx_pf, cx_tw, ti, globS, glob, ldcs_1, ldcs_2, ldcs_3, ldcs_4, ldcs_5, ldcs_7, sls.eq_1, slc.eq_1, pfL, ii, s1, s2, s3, h1, h2, tb89, G70, G119a, okTr, pureH, deT, deTI, g1, hag, ht, hsm, hi0, hil, bv]
end Go.Proofs.YtkfphaphiikloaaDoor

/-
  THE LAWS WITHOUT THE DOCUMENT, PART H: a program that begins as a tree's: the plain law.
-/
namespace Go.Proofs.YtkfphaphiikloaaDoor
open Go Go.Eng

section
variable {sc : List Ty} {vs : List ByteArray} {t : List Nd} {lo : Nat → Nat} {en : En}
theorem own_at2 {P : Pr} (hC : ∀ (pos : Nat) x, (codeT vs t)[pos]? = some x → P.code[pos]? = some x) {i : Nat} (hi : i < t.length) : ∃ h : posT t i < P.code.length, P.code[posT t i]'h = ownI (namesOf t) (itemV vs t[i]) t[i] := by
  have h1 : (codeT vs t)[posT t i]? = some (ownT vs t i) := lay_own hi
  obtain ⟨h2, h3⟩ := List.getElem?_eq_some_iff.1 (hC _ _ h1)
  exact ⟨h2, h3.trans (by rw [ownT, getD_at hi])⟩
/-- The subtree of a node leaves the node's value on the stack. -/
theorem run_sub2 {P : Pr} (hC : ∀ (pos : Nat) x, (codeT vs t)[pos]? = some x → P.code[pos]? = some x) (hK : ∀ (k : Nat) c, ((namesOf t).map (colOf sc))[k]? = some c → P.cols[k]? = some c) (T : Tre t lo) (hok : okTo vs t t.length = true) : ∀ (i : Nat), i < t.length → ∀ st : List V, fromV P en (posT t (lo i)) st = fromV P en (posT t i + 1) (st ++ [valAt sc (t.map (itemV vs)) en t i]) := by
  intro i
  induction i using Nat.strongRecOn with
  | _ i ih =>
    intro hi st
    obtain ⟨hlt, hown⟩ := own_at2 hC hi
    have hv := valAt_eq (sc := sc) (its := t.map (itemV vs)) (en := en) hi
    have hits : (t.map (itemV vs)).getD i 0 = itemV vs t[i] := by rw [List.getD_eq_getElem?_getD, List.getElem?_map, List.getElem?_eq_getElem hi]; rfl
    rw [hits] at hv
    have hno := node_ok hok hi
    rcases T.kind i hi with ⟨b1, b2, b3, b4, b⟩ | ⟨b0, b1, b2, b3, b⟩ | ⟨b0, b0', b1, b2, a, b3, b4, b⟩
    · rw [b]
      have key : stepV P en P.code[posT t i] (posT t i) st = some (posT t i + 1, st ++ [valAt sc (t.map (itemV vs)) en t i]) := by
        rw [hown, hv]
        unfold ownI nodeV
        by_cases o1 : t[i].op = 1
        · simp only [o1, if_true]
          exact step_push (by simp only [needsV]; omega) rfl
        by_cases o2 : t[i].op = 2
        · simp only [o2, if_true]
          exact step_push (by simp [needsV]) rfl
        by_cases o3 : t[i].op = 3
        · simp only [o3, if_true]
          exact step_push (by simp [needsV]) rfl
        rw [if_neg o1, if_neg o2, if_neg o3, if_neg o1, if_neg o2, if_neg o3, if_pos b2]
        by_cases o5 : t[i].op = 5
        · simp only [o5]
          exact step_count (by simp only [needsV]; simp) rfl
        obtain ⟨n1, n2⟩ := name_col (sc := sc) hi ⟨by omega, b2, o5⟩
        by_cases o4 : t[i].op = 4
        · simp only [o4]
          exact step_col (p := P) (by simp only [needsV]; simp) (by simp) (by simp; exact n1) (hK _ _ n2)
        by_cases o11 : t[i].op = 11
        · simp only [o11]
          exact step_col (p := P) (by simp only [needsV]; simp) (by simp) (by simp; exact n1) (hK _ _ n2)
        rw [if_neg o4, if_neg o11, if_neg o5, if_pos (by omega)]
        have hcm : codeM t[i].op = t[i].op - 1 := by unfold codeM; rw [if_neg o5, if_neg o11, if_neg o4]
        rw [hcm]
        exact step_col (p := P) (by simp only [needsV]; (repeat' split) <;> omega) (by simp only []; omega) (by simp only []; omega) (hK _ _ n2)
      exact from_some hlt key
    · have hpu := pos_un T hi (by omega) b1
      rw [b, ih (i - 1) (by omega) (by omega) st, ← hpu]
      have hva : getV (valsTo sc (t.map (itemV vs)) en t i) t[i].a = valAt sc (t.map (itemV vs)) en t (i - 1) := by
        rw [get_val (by omega) (by omega), b2, Int.toNat_natCast]
      rw [hva] at hv
      have key : stepV P en P.code[posT t i] (posT t i) (st ++ [valAt sc (t.map (itemV vs)) en t (i - 1)]) = some (posT t i + 1, st ++ [valAt sc (t.map (itemV vs)) en t i]) := by
        rw [hown, hv]
        unfold ownI nodeV
        rcases b0 with o | o
        · simp only [o]
          refine (step_neg (by simp [needsV]; omega) (by simp)).trans ?_
          rw [last_snoc, drop_snoc]
          simp
        · simp only [o]
          refine (step_not (by simp [needsV]; omega) (by simp)).trans ?_
          rw [last_snoc, drop_snoc]
          simp
      exact from_some hlt key
    · have hpu := pos_un T hi (by omega) b1
      have hle := T.le (i - 1) (by omega)
      have hva : getV (valsTo sc (t.map (itemV vs)) en t i) t[i].a = valAt sc (t.map (itemV vs)) en t a := by
        rw [get_val (by omega) (by omega), b3, Int.toNat_natCast]
      have hvb : getV (valsTo sc (t.map (itemV vs)) en t i) t[i].b = valAt sc (t.map (itemV vs)) en t (i - 1) := by
        rw [get_val (by omega) (by omega), b2, Int.toNat_natCast]
      rw [hva, hvb] at hv
      have hv' : valAt sc (t.map (itemV vs)) en t i = applyL t[i].op (valAt sc (t.map (itemV vs)) en t a) (valAt sc (t.map (itemV vs)) en t (i - 1)) := by
        rw [hv]
        unfold nodeV
        rw [if_neg (by omega), if_neg (by omega), if_neg (by omega), if_neg (by omega), if_neg (by omega), if_neg (by omega)]
      have hsk := pos_sk T hi b0 b3
      rw [b, ih a (by omega) (by omega) st]
      have two : fromV P en (posT t (lo (i - 1))) (st ++ [valAt sc (t.map (itemV vs)) en t a]) = fromV P en (posT t i + 1) (st ++ [valAt sc (t.map (itemV vs)) en t i]) := by
        rw [ih (i - 1) (by omega) (by omega), ← hpu]
        refine from_some (q := (posT t i + 1, st ++ [valAt sc (t.map (itemV vs)) en t i])) hlt ?_
        rw [hown, hv']
        have : ownI (namesOf t) (itemV vs t[i]) t[i] = ⟨t[i].op - 2, 0, 0, 0, 0⟩ := by
          unfold ownI
          rw [if_neg (by omega), if_neg (by omega), if_neg (by omega), if_neg (by omega), if_neg (by omega), if_neg (by omega), if_neg (by omega)]
        rw [this]
        refine (step_two (by simp only [needsV, List.length_append, List.length_cons, List.length_nil]; (repeat' split) <;> omega) (by simp only []; omega)).trans ?_
        rw [last_snoc, drop_snoc, last_snoc, drop_snoc, show t[i].op - 2 + 2 = t[i].op by omega]
      by_cases h25 : 25 ≤ t[i].op
      · rw [if_pos h25] at hsk
        rw [b4] at two
        rw [hsk] at two
        have hpa := par_at T hi h25 b3
        have hj : (codeT vs t)[posT t a + 1]? = some (jmpT t (fun p => posT t p + 1) a) := lay_jmp (by rw [hpa]; rfl) (by omega)
        have hje : jmpT t (fun p => posT t p + 1) a = ⟨t[i].op, 0, 0, 0, (posT t i : Int) + 1⟩ := by
          unfold jmpT
          rw [hpa]
          simp only []
          rw [getD_at hi]
          simp
        rw [hje] at hj
        obtain ⟨h2, h3⟩ : ∃ h : posT t a + 1 < P.code.length, P.code[posT t a + 1]'h = ⟨t[i].op, 0, 0, 0, (posT t i : Int) + 1⟩ := List.getElem?_eq_some_iff.1 (hC _ _ hj)
        have hlen : posT t t.length ≤ P.code.length := by
          obtain ⟨h4, _⟩ := own_at2 hC (show t.length - 1 < t.length by have := T.pos; omega)
          rw [pos_end T]; omega
        have hpl := pos_lt (t := t) hi
        have hpl2 := pos_lt (t := t) (k := a) (n := i) (by omega)
        rw [hpa] at hpl2
        simp only [Option.isSome_some, if_true] at hpl2
        have htr : isT (valAt sc (t.map (itemV vs)) en t a) := by
          rw [valAt_eq (show a < t.length by omega)]
          refine node_isT ?_
          unfold nodeOk at hno
          rw [if_neg (by omega), if_neg (by omega), b3, Int.toNat_natCast, getD_at (show a < t.length by omega)] at hno
          simp only [Bool.and_eq_true, beq_iff_eq] at hno
          rw [hno.1]
          unfold wantsT
          simp; omega
        have hjt : ¬ ((⟨t[i].op, 0, 0, 0, (posT t i : Int) + 1⟩ : Ins).to ≤ ((posT t a + 1 : Nat) : Int) ∨ (⟨t[i].op, 0, 0, 0, (posT t i : Int) + 1⟩ : Ins).to > P.code.length) := by
          simp only []
          omega
        have hne : ¬ (needsV (⟨t[i].op, 0, 0, 0, (posT t i : Int) + 1⟩ : Ins).code < 0 ∨ ((st ++ [valAt sc (t.map (itemV vs)) en t a]).length : Int) < needsV (⟨t[i].op, 0, 0, 0, (posT t i : Int) + 1⟩ : Ins).code) := by
          simp only [needsV, List.length_append, List.length_cons, List.length_nil]
          (repeat' split) <;> omega
        by_cases hd : (valAt sc (t.map (itemV vs)) en t a).k = true ∧ ((valAt sc (t.map (itemV vs)) en t a).n ≠ 0 ↔ t[i].op = 26)
        · have hst := step_jump (p := P) (e := en) hne h25 hjt (by rw [last_snoc]; exact hd)
          rw [← h3] at hst
          rw [from_some h2 hst]
          have h01 := htr hd.1
          have : valAt sc (t.map (itemV vs)) en t i = valAt sc (t.map (itemV vs)) en t a := by
            rw [hv']
            have hr3 := rank3 (valAt sc (t.map (itemV vs)) en t (i - 1))
            generalize valAt sc (t.map (itemV vs)) en t a = va at *
            generalize valAt sc (t.map (itemV vs)) en t (i - 1) = vb at *
            obtain ⟨vk, vn⟩ := va
            simp only [] at hd h01
            obtain ⟨rfl, hd2⟩ := hd
            rcases (show t[i].op = 25 ∨ t[i].op = 26 by omega) with o | o
            · rw [o] at hd2 ⊢
              have : vn = 0 := by
                rcases h01 with h | h
                · exact h
                · exact absurd (hd2.1 (by rw [h]; decide)) (by decide)
              subst this
              simp only [applyL]
              simp [andV, rankV, ofRank]
              unfold rankV at hr3
              rcases hr3 with h | h | h <;> simp [h]
            · rw [o] at hd2 ⊢
              have : vn = 1 := by
                rcases h01 with h | h
                · exact absurd h (hd2.2 rfl)
                · exact h
              subst this
              simp only [applyL]
              simp [orV, rankV, ofRank]
              unfold rankV at hr3
              rcases hr3 with h | h | h <;> simp [h]
          rw [this]
          simp only [h3]
          rw [show ((posT t i : Int) + 1).toNat = posT t i + 1 by omega]
        · have hst := step_stay (p := P) (e := en) hne h25 hjt (by rw [last_snoc]; exact hd)
          rw [← h3] at hst
          rw [from_some h2 hst]
          exact two
      · rw [if_neg h25] at hsk
        rw [b4, hsk] at two
        exact two
/-- The instructions of a tree leave its value on the stack. -/
theorem run_all {P : Pr} (hC : ∀ (pos : Nat) x, (codeT vs t)[pos]? = some x → P.code[pos]? = some x) (hK : ∀ (k : Nat) c, ((namesOf t).map (colOf sc))[k]? = some c → P.cols[k]? = some c) (h : runT vs t = true) : runV P en = fromV P en (codeT vs t).length [evalV sc vs en t] := by
  obtain ⟨h1, h2⟩ := run_tree h
  have T := tre_of h1
  have hpos := T.pos
  rw [run_from, evalV, if_pos h]
  have := run_sub2 (en := en) hC hK T h2 (t.length - 1) (by omega) []
  rw [T.root] at this
  refine this.trans ?_
  rw [List.nil_append, codeT, lay_len, pos_end T]
end
end Go.Proofs.YtkfphaphiikloaaDoor
