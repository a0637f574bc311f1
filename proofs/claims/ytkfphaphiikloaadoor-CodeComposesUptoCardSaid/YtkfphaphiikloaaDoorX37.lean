/-
  THE LAWS WITHOUT THE DOCUMENT, PART G: what a joined tree comes to: the plain law.
-/
import Derived.Test.YtkfphaphiikloaaDoorX36
set_option linter.unusedSimpArgs false
set_option linter.unusedVariables false
set_option linter.constructorNameAsVariable false
namespace Go.Proofs.YtkfphaphiikloaaDoor
open Go Go.Eng

/-- Is what a tree gives a truth? -/
def truthT (t : List Nd) : Bool := truthO (t.getD (t.length - 1) nd0).op
section
variable {sc : List Ty} {vs : List ByteArray} {en : En} {a b : List Nd} {op : Int}
theorem tree_un (ha : tree1 a = true) (ho : op = 12 ∨ op = 13) : tree1 (a ++ [opN op ((a.length : Int) - 1) (-1)]) = true := by
  obtain ⟨lo, T⟩ := tre_un (tre_of ha) ho
  refine tree_of T fun i hi => ?_
  by_cases hia : i < a.length
  · rw [List.getElem_append_left hia]; exact tree_fields ha i hia
  · rw [List.getElem_append_right (by omega)]
    simp only [List.length_append, List.length_cons, List.length_nil] at hi
    simp only [show i - a.length = 0 by omega, List.getElem_cons_zero]
    exact opN_fields (by omega) _ _
theorem tree_bin (ha : tree1 a = true) (hb : tree1 b = true) (ho : 14 ≤ op) (ho' : op ≤ 26) : tree1 (a ++ b.map (onN a.length) ++ [opN op ((a.length : Int) - 1) ((a.length : Int) + b.length - 1)]) = true := by
  obtain ⟨lo, T⟩ := tre_bin (tre_of ha) (tre_of hb) ho ho'
  refine tree_of T fun i hi => ?_
  by_cases hia : i < a.length
  · rw [List.getElem_append_left (by simp; omega), List.getElem_append_left hia]; exact tree_fields ha i hia
  · by_cases hib : i < a.length + b.length
    · rw [List.getElem_append_left (by simp; omega), List.getElem_append_right (by omega), List.getElem_map, onN_fields]
      exact tree_fields hb _ _
    · rw [List.getElem_append_right (by simp; omega)]
      simp only [List.length_append, List.length_map, List.length_cons, List.length_nil] at hi ⊢
      simp only [show i - (a.length + b.length) = 0 by omega, List.getElem_cons_zero]
      exact opN_fields (by omega) _ _
theorem root_pre (h : 0 < a.length) (c : List Nd) : (a ++ c).getD (a.length - 1) nd0 = a.getD (a.length - 1) nd0 := by
  rw [getD_at (show a.length - 1 < (a ++ c).length by simp; omega), getD_at (by omega), List.getElem_append_left (by omega)]
theorem root_mid (h : 0 < b.length) (c : List Nd) : ((a ++ b.map (onN a.length) ++ c).getD (a.length + b.length - 1) nd0).op = (b.getD (b.length - 1) nd0).op := by
  rw [getD_at (show a.length + b.length - 1 < (a ++ b.map (onN a.length) ++ c).length by simp; omega), getD_at (by omega), List.getElem_append_left (by simp; omega), List.getElem_append_right (by omega), List.getElem_map]
  simp only [onN, show a.length + b.length - 1 - a.length = b.length - 1 by omega]
theorem wants_op (x y : Int) : wantsT (opN op x y).op = wantsT op := rfl
theorem run_un (ha : runT vs a = true) (ho : op = 12 ∨ op = 13) (hs : a.length < 4611686018427387904) : runT vs (joinT op a b) = (truthT a == wantsT op) := by
  obtain ⟨h1, h2⟩ := run_tree ha
  have hp := tree_pos h1
  rw [join_un ho hs]
  have hlast : nodeOk vs (a ++ [opN op ((a.length : Int) - 1) (-1)]) (opN op ((a.length : Int) - 1) (-1)) = (truthT a == wantsT op) := by
    unfold nodeOk
    have e1 : ¬ op < 4 := by omega
    have e2 : ¬ op ≤ 11 := by omega
    have e3 : ((a.length : Int) - 1).toNat = a.length - 1 := by omega
    simp only [opN, e1, e2, if_false, e3]
    rw [root_pre hp]
    simp [truthT]
  have hl : (a ++ [opN op ((a.length : Int) - 1) (-1)]).length = a.length + 1 := by simp
  rw [runT, tree_un h1 ho, Bool.true_and, Bool.eq_iff_iff, ok_all, ← hlast]
  constructor
  · intro h
    have := h a.length (by omega)
    rw [List.getElem_append_right (by omega)] at this
    simpa using this
  · intro h i hi
    by_cases hia : i < a.length
    · have := emb_ok (vs := vs) (tre_of h1) (emb_pre a [opN op ((a.length : Int) - 1) (-1)]) i hia
      rw [onN_zero] at this
      rw [List.getElem_append_left hia, this]
      exact ok_all.1 h2 i hia
    · obtain rfl : i = a.length := by omega
      rw [List.getElem_append_right (by omega)]
      simpa using h
theorem run_bin (ha : runT vs a = true) (hb : runT vs b = true) (ho : 14 ≤ op) (ho' : op ≤ 26) (hs : a.length + b.length < 4611686018427387904) : runT vs (joinT op a b) = ((truthT a == wantsT op) && (truthT b == wantsT op)) := by
  obtain ⟨h1, h2⟩ := run_tree ha
  obtain ⟨h3, h4⟩ := run_tree hb
  have hp := tree_pos h1
  have hq := tree_pos h3
  rw [join_bin ho h3 hs]
  have hl : (a ++ b.map (onN a.length) ++ [opN op ((a.length : Int) - 1) ((a.length : Int) + b.length - 1)]).length = a.length + b.length + 1 := by simp; omega
  have hlast : nodeOk vs (a ++ b.map (onN a.length) ++ [opN op ((a.length : Int) - 1) ((a.length : Int) + b.length - 1)]) (opN op ((a.length : Int) - 1) ((a.length : Int) + b.length - 1)) = ((truthT a == wantsT op) && (truthT b == wantsT op)) := by
    have r1 := root_pre hp (b.map (onN a.length) ++ [opN op ((a.length : Int) - 1) ((a.length : Int) + b.length - 1)])
    have r2 := root_mid (a := a) hq [opN op ((a.length : Int) - 1) ((a.length : Int) + b.length - 1)]
    rw [← List.append_assoc] at r1
    unfold nodeOk
    have e1 : ¬ op < 4 := by omega
    have e2 : ¬ op ≤ 11 := by omega
    have e3 : ((a.length : Int) - 1).toNat = a.length - 1 := by omega
    have e4 : ((a.length : Int) + b.length - 1).toNat = a.length + b.length - 1 := by omega
    have e5 : ¬ ((a.length : Int) + b.length - 1) < 0 := by omega
    have f1 : (opN op ((a.length : Int) - 1) ((a.length : Int) + b.length - 1)).op = op := rfl
    have f2 : (opN op ((a.length : Int) - 1) ((a.length : Int) + b.length - 1)).a = (a.length : Int) - 1 := rfl
    have f3 : (opN op ((a.length : Int) - 1) ((a.length : Int) + b.length - 1)).b = (a.length : Int) + b.length - 1 := rfl
    rw [f1, f2, f3, e3, e4, r1, r2, if_neg e1, if_neg e2]
    simp [truthT, e5]
  rw [runT, tree_bin h1 h3 ho ho', Bool.true_and, Bool.eq_iff_iff, ok_all, ← hlast]
  constructor
  · intro h
    have := h (a.length + b.length) (by omega)
    rw [List.getElem_append_right (by simp)] at this
    simpa using this
  · intro h i hi
    by_cases hia : i < a.length
    · have := emb_ok (vs := vs) (tre_of h1) (emb_pre a (b.map (onN a.length) ++ [opN op ((a.length : Int) - 1) ((a.length : Int) + b.length - 1)])) i hia
      rw [onN_zero, ← List.append_assoc] at this
      rw [List.getElem_append_left (by simp; omega), List.getElem_append_left hia, this]
      exact ok_all.1 h2 i hia
    · by_cases hib : i < a.length + b.length
      · have := emb_ok (vs := vs) (tre_of h3) (emb_mid a b [opN op ((a.length : Int) - 1) ((a.length : Int) + b.length - 1)]) (i - a.length) (by omega)
        rw [List.getElem_append_left (by simp; omega), List.getElem_append_right (by omega), List.getElem_map, this]
        exact ok_all.1 h4 _ _
      · obtain rfl : i = a.length + b.length := by omega
        rw [List.getElem_append_right (by simp)]
        simpa using h
theorem eval_un (ha : runT vs a = true) (ho : op = 12 ∨ op = 13) (hs : a.length < 4611686018427387904) (hr : runT vs (joinT op a b) = true) : evalV sc vs en (joinT op a b) = if op = 12 then negL (evalV sc vs en a) else notV (evalV sc vs en a) := by
  obtain ⟨h1, _⟩ := run_tree ha
  have hp := tree_pos h1
  rw [evalV, if_pos hr, evalV, if_pos ha]
  rw [join_un ho hs]
  obtain ⟨lo, T⟩ := tre_un (tre_of h1) ho
  have hl : (a ++ [opN op ((a.length : Int) - 1) (-1)]).length - 1 = a.length := by simp
  rw [hl, val_rec T (by simp)]
  have hx : (a ++ [opN op ((a.length : Int) - 1) (-1)])[a.length]'(by simp) = opN op ((a.length : Int) - 1) (-1) := by
    rw [List.getElem_append_right (by omega)]; simp
  rw [hx]
  have hv := emb_val (sc := sc) (vs := vs) (en := en) (tre_of h1) T (emb_pre a [opN op ((a.length : Int) - 1) (-1)]) (a.length - 1) (by omega)
  rw [Nat.zero_add] at hv
  have e3 : (opN op ((a.length : Int) - 1) (-1)).a.toNat = a.length - 1 := by simp only [opN]; omega
  rw [e3, hv]
  unfold nodeV
  rcases ho with rfl | rfl <;> simp [opN]
theorem eval_bin (ha : runT vs a = true) (hb : runT vs b = true) (ho : 14 ≤ op) (ho' : op ≤ 26) (hs : a.length + b.length < 4611686018427387904) (hr : runT vs (joinT op a b) = true) : evalV sc vs en (joinT op a b) = applyL op (evalV sc vs en a) (evalV sc vs en b) := by
  obtain ⟨h1, _⟩ := run_tree ha
  obtain ⟨h3, _⟩ := run_tree hb
  have hp := tree_pos h1
  have hq := tree_pos h3
  rw [evalV, if_pos hr, evalV, if_pos ha, evalV, if_pos hb]
  rw [join_bin ho h3 hs]
  obtain ⟨lo, T⟩ := tre_bin (tre_of h1) (tre_of h3) ho ho'
  have hl : (a ++ b.map (onN a.length) ++ [opN op ((a.length : Int) - 1) ((a.length : Int) + b.length - 1)]).length - 1 = a.length + b.length := by simp
  rw [hl, val_rec T (by simp)]
  have hx : (a ++ b.map (onN a.length) ++ [opN op ((a.length : Int) - 1) ((a.length : Int) + b.length - 1)])[a.length + b.length]'(by simp) = opN op ((a.length : Int) - 1) ((a.length : Int) + b.length - 1) := by
    rw [List.getElem_append_right (by simp)]; simp
  rw [hx]
  have E := emb_pre a (b.map (onN a.length) ++ [opN op ((a.length : Int) - 1) ((a.length : Int) + b.length - 1)])
  rw [← List.append_assoc] at E
  have hv := emb_val (sc := sc) (vs := vs) (en := en) (tre_of h1) T E (a.length - 1) (by omega)
  rw [Nat.zero_add] at hv
  have hw := emb_val (sc := sc) (vs := vs) (en := en) (tre_of h3) T (emb_mid a b [opN op ((a.length : Int) - 1) ((a.length : Int) + b.length - 1)]) (b.length - 1) (by omega)
  have e3 : (opN op ((a.length : Int) - 1) ((a.length : Int) + b.length - 1)).a.toNat = a.length - 1 := by simp only [opN]; omega
  have e4 : (opN op ((a.length : Int) - 1) ((a.length : Int) + b.length - 1)).b.toNat = a.length + (b.length - 1) := by simp only [opN]; omega
  rw [e3, e4, hv, hw]
  unfold nodeV
  have f1 : (opN op ((a.length : Int) - 1) ((a.length : Int) + b.length - 1)).op = op := rfl
  rw [f1, if_neg (by omega), if_neg (by omega), if_neg (by omega), if_neg (by omega), if_neg (by omega), if_neg (by omega)]
end
end Go.Proofs.YtkfphaphiikloaaDoor

/-
  THE LAWS WITHOUT THE DOCUMENT, PART J: is what a tree gives a truth? (the program's)
-/
namespace Go.Proofs.YtkfphaphiikloaaDoor
open Go Go.Eng

set_option maxRecDepth 100000 in
theorem p73 : P0 [] 73 g92 := by
  refine mk1 (S := []) tb_nil Tryd.func73 rfl (by kernel_rfl) ii (fun x a h => deI_out h) (fun a => rfl) (fun o h n => ?_)
  have hc : o = 2 ∨ o = 3 ∨ o = 13 ∨ (o ≠ 2 ∧ o ≠ 3 ∧ o ≠ 13) := by omega
  rcases hc with rfl | rfl | rfl | ⟨h1, h2, h3⟩
  · simp [evs, aeval, cx_ti, cx_G, cx_pf, ti, globS, glob, ldcs, sls, slc, pfL, ii, bv, truthO]
  · simp [evs, aeval, cx_ti, cx_G, cx_pf, ti, globS, glob, ldcs, sls, slc, pfL, ii, bv, truthO]
  · simp [evs, aeval, cx_ti, cx_G, cx_pf, ti, globS, glob, ldcs, sls, slc, pfL, ii, bv, truthO]
  · by_cases h4 : 19 ≤ o
    · by_cases h5 : o ≤ 26
      · have ht : truthO o = true := by simp only [truthO, decide_eq_true_eq]; omega
        simp [evs, aeval, cx_ti, cx_G, cx_pf, ti, globS, glob, ldcs, sls, slc, pfL, ii, bv, ht, h1, h2, h3, h4, h5]
      · have ht : truthO o = false := by simp only [truthO, decide_eq_false_iff_not]; omega
        simp [evs, aeval, cx_ti, cx_G, cx_pf, ti, globS, glob, ldcs, sls, slc, pfL, ii, bv, ht, h1, h2, h3, h4, h5]
    · have ht : truthO o = false := by simp only [truthO, decide_eq_false_iff_not]; omega
      simp [evs, aeval, cx_ti, cx_G, cx_pf, ti, globS, glob, ldcs, sls, slc, pfL, ii, bv, ht, h1, h2, h3, h4]
def G44 := pureH deT smallT fun t => bv (decide (0 < t.length) && truthT t)
def tb44 : List (FuncId × (List AV → Heap → PRes)) := [(73, g92)]
set_option maxRecDepth 100000 in
set_option maxHeartbeats 2000000 in
theorem P44 : P0 [] 44 G44 := by
  refine mkH 1 (S := []) (l := tb44) (tb_cons p73 tb_nil) Tryd.func44 rfl (by kernel_rfl) deT_mono (fun h l x e => by obtain ⟨a, rfl, _⟩ := deT_out e; exact Nat.le_refl _) (fun a => rfl) (fun args t h n e hp hn => ?_)
  obtain ⟨a, rfl, e1⟩ := deT_out e
  obtain ⟨s1, s2, s3, s4, s5⟩ := sl_is e1
  by_cases h0 : t.length = 0
  · simp [evs, aeval, cx_ti, cx_G, cx_pf, ti, globS, glob, ldcs_1, ldcs_2, ldcs_3, ldcs_4, ldcs_5, ldcs_7, sls.eq_1, slc.eq_1, pfL, s1, s2, s3, h0, tb44, bv]
  · obtain ⟨j, he⟩ : ∃ j, t.length = j + 1 := ⟨t.length - 1, by omega⟩
    have he1 : IntKind.i64.wrap ((t.length : Int) - 1) = j := by rw [he]; exact wrapm1 (by have : t.length * 64 ≤ 140737488355328 := hp; unfold big; omega)
    have he3 : 0 < t.length := by omega
    have he4 : j < t.length := by omega
    rcases ns_at e1 with ⟨hq, _⟩ | ⟨id, off, k, rfl, hk, ho', hat⟩
    · rw [hq] at he3; simp at he3
    have hro := ro_at hk
    have h0' := ne_of hk hn 0
    simp only [Nat.add_zero] at h0'
    have hcl := cell_of (c := 0) (hat j he4) rfl (by omega)
    simp only [Nat.add_zero] at hcl
    have hw1 : off + (j * 6 + 1) ≤ k.cells.length := by omega
    have htt : truthT t = truthO t[j].op := by unfold truthT; rw [show t.length - 1 = j by omega, getD_at he4]
    generalize t[j].op = o at *
    simp only [ii] at hcl
    simp [evs, aeval, cx_ti, cx_G, cx_pf, ti, globS, glob, ldcs_1, ldcs_2, ldcs_3, ldcs_4, ldcs_5, ldcs_7, sls.eq_1, slc.eq_1, pfL, s1, s2, s3, he1, he3, he4, hro, h0', hcl, hw1, tb44, g92, pure1, deI, htt, bv]
end Go.Proofs.YtkfphaphiikloaaDoor

/-
  THE LAWS OF JOINED TREES: what they are handed.
-/
namespace Go.Proofs.YtkfphaphiikloaaDoor
open Go Go.Eng

structure Eq9 where
  sc : List Ty
  q : Qu
  a : List Nd
  b : List Nd
  en : En
/-- Arguments of a size that a machine holds. -/
structure W9 (v : Eq9) : Prop where
  s1 : v.sc.length * 40 ≤ 140737488355328
  s2 : ∀ t ∈ v.sc, t.attrs.length * 16 ≤ 140737488355328
  q1 : v.q.items.length * 64 ≤ 140737488355328
  q2 : smallT v.q.wh
  q3 : v.q.ret.length < big
  q4 : ∀ t ∈ v.q.ret, smallT t
  t1 : (v.a.length + v.b.length + 1) * 64 ≤ 140737488355328
  ta : ∀ x ∈ v.a, Rng x.n
  tb : ∀ x ∈ v.b, Rng x.n
  e1 : v.en.ls.length * 24 ≤ 140737488355328
  e2 : ∀ l ∈ v.en.ls, l.length * 88 ≤ 140737488355328
  e3 : ∀ l ∈ v.en.ls, ∀ x ∈ l, EvOk x
  e4 : Rng v.en.pos
theorem join_len (op : Int) (a b : List Nd) : (joinT op a b).length ≤ a.length + b.length + 1 := by
  unfold joinT
  split <;> simp <;> omega
theorem join_rng {op : Int} {a b : List Nd} (ha : ∀ x ∈ a, Rng x.n) (hb : ∀ x ∈ b, Rng x.n) : ∀ x ∈ joinT op a b, Rng x.n := by
  have r0 : Rng 0 := by unfold Rng; omega
  intro x hx
  unfold joinT at hx
  split at hx
  · simp only [List.mem_append, List.mem_singleton] at hx
    rcases hx with hx | rfl
    · exact ha x hx
    · exact r0
  · simp only [List.mem_append, List.mem_singleton, List.mem_map] at hx
    rcases hx with (hx | ⟨y, hy, rfl⟩) | rfl
    · exact ha x hx
    · exact hb y hy
    · exact r0
theorem W9.sm {v : Eq9} (w : W9 v) (op : Int) : smallT (joinT op v.a v.b) := Nat.le_trans (Nat.mul_le_mul_right 64 (join_len op v.a v.b)) w.t1
theorem W9.sa {v : Eq9} (w : W9 v) : smallT v.a := Nat.le_trans (Nat.mul_le_mul_right 64 (by omega)) w.t1
theorem W9.sb {v : Eq9} (w : W9 v) : smallT v.b := Nat.le_trans (Nat.mul_le_mul_right 64 (by omega)) w.t1
theorem W9.ab {v : Eq9} (w : W9 v) : v.a.length + v.b.length < 4611686018427387904 := by have := w.t1; omega
theorem W9.it {v : Eq9} (w : W9 v) : v.q.items.length < big := by have := w.q1; unfold big; omega
theorem W9.tl {v : Eq9} (w : W9 v) : v.sc.length * 8 ≤ 140737488355328 := by have := w.s1; omega
theorem W9.sc {v : Eq9} (w : W9 v) : smallS v.sc := ⟨by have := w.s1; unfold big; omega, fun t ht => by have := w.s2 t ht; unfold big; omega⟩
theorem W9.w1 {v : Eq9} (w : W9 v) : v.en.ls.length < big := by have := w.e1; unfold big; omega
theorem W9.w2 {v : Eq9} (w : W9 v) : ∀ l ∈ v.en.ls, l.length < big := fun l hl => by have := w.e2 l hl; unfold big; omega
theorem W9.eq {v : Eq9} (w : W9 v) (hb : beyondV v.en.ls = false) {t : List Nd} (ht : smallT t) (hr : ∀ x ∈ t, Rng x.n) : EqOk ⟨v.sc, v.q, t, v.en⟩ := ⟨w.sc, w.it, ht, hr, ⟨beyond_len hb, w.e3, w.e4⟩⟩
/-- What was handed in. -/
structure A9 (v : Eq9) (s : St) : Prop where
  at3 : rd dNs s.h (s.e 3) = some v.a
  at4 : rd dNs s.h (s.e 4) = some v.b
  as6 : HasS s.h (s.e 6) v.sc
  aq7 : HasQ s.h (s.e 7) v.q
  ae11 : HasE s.h (s.e 11) v.en
  frs : Fresh s.n s.h
theorem A9.up {v : Eq9} {s s' : St} (a : A9 v s) (he : ∀ i ∈ [3, 4, 6, 7, 11], s'.e i = s.e i) (ha : agree s.n s.h s'.h) (hf : Fresh s'.n s'.h) : A9 v s' :=
  ⟨by rw [he 3 (by simp)]; exact rd_agr a.frs a.at3 _ ha, by rw [he 4 (by simp)]; exact rd_agr a.frs a.at4 _ ha, by rw [he 6 (by simp)]; exact a.as6.up a.frs ha, by rw [he 7 (by simp)]; exact a.aq7.up a.frs ha, by rw [he 11 (by simp)]; exact a.ae11.up a.frs ha, hf⟩
end Go.Proofs.YtkfphaphiikloaaDoor

/-
  CodeComposes: the law's own code.
-/
namespace Go.Proofs.YtkfphaphiikloaaDoor
open Go Go.Eng

def tbl9 : List (FuncId × (List AV → Heap → PRes)) := [(14, G14), (15, G15), (27, G27), (37, G38), (39, G39), (42, G57), (44, G44), (45, g37), (46, g19), (47, g42)]
theorem tbl9_ok : TbOk S8 tbl9 := tb_cons P14 (tb_cons P15 (tb_cons P27 (tb_cons P37 (tb_cons P39 (tb_cons P42 (tb_cons P44 (tb_cons p37 (tb_cons p19 (tb_cons p42 tb_nil)))))))))
section
set_option maxRecDepth 100000
set_option maxHeartbeats 4000000
variable {h : Heap} {n : Nat} {sa qa qb qc ta tb la : AV} {v : Eq9} {op : Int}
theorem law9a (e1 : rd dTys h sa = some v.sc) (e2 : rd dIts h qa = some v.q.items) (e3 : rd dNs h qb = some v.q.wh) (e4 : rd dNss h qc = some v.q.ret) (e5 : rd dNs h ta = some v.a) (e5' : rd dNs h tb = some v.b) (e6 : rd dEss h la = some v.en.ls) (w : W9 v) (hn : Fresh n h) (e : Nat → AV)
    (q0 : e 0 = .g [sa]) (q1 : e 1 = .g [qa, .v (.int .i64 v.q.mode), .v (.int .i64 v.q.after), qb, .v (.int .i64 v.q.within), .v (.string v.q.par), qc]) (q2 : e 2 = ii op) (q3 : e 3 = ta) (q4 : e 4 = tb) (q5 : e 5 = .g [la, .v (.int .i64 v.en.each), .v (.int .i64 v.en.pos)]) :
    awp (cx S8 (pfL tbl9)) (hdC 2 (Tryd.f9.body.getD .skip)) (thenQ (fun s => A9 v s ∧ s.e 2 = ii op ∧ beyondV v.en.ls = false) (finQ (cx S8 (pfL tbl9)) Tryd.f9 fun z _ _ => z = bv true)) ⟨e, roH h, n⟩ := by
  have o1 := (sl_is e1).2.2.2.1
  have o2 := (sl_is e2).2.2.2.1
  have o3 := (sl_is e3).2.2.2.1
  have o4 := (sl_is e4).2.2.2.1
  have o5 := (sl_is e6).2.2.2.1
  obtain ⟨s1, s2, s3, s4, s5⟩ := sl_is e5
  obtain ⟨t1, t2, t3, t4, t5⟩ := sl_is e5'
  have r3 := (sl_is e6).2.2.1
  have g6 := rd_agree hn e6
  have g5 := rd_agree hn e5
  have g5' := rd_agree hn e5'
  have gq : ∀ h', agree n (roH h) h' → deQ h' (.g [qa, .v (.int .i64 v.q.mode), .v (.int .i64 v.q.after), qb, .v (.int .i64 v.q.within), .v (.string v.q.par), qc]) = some v.q := fun h' ha => deQ_has (rd_agree hn e2 h' ha) (rd_agree hn e3 h' ha) (rd_agree hn e4 h' ha)
  have w1 := w.w1
  have w2 := w.w2
  have w3 : smallT v.q.wh ∧ v.q.ret.length < big ∧ ∀ t ∈ v.q.ret, smallT t := ⟨w.q2, w.q3, w.q4⟩
  have w4 := w.sm op
  have fr := roH_fresh hn
  have ag : ∀ b1 b2 b3 : Option Blk, agree n (roH h) (up (up (up (roH h) n b1) (n + 1) b2) (n + 2) b3) := fun b1 b2 b3 => by simp [agree_up, agree_refl]
  have fr3 : ∀ b1 b2 b3 : Option Blk, Fresh (n + 3) (up (up (up (roH h) n b1) (n + 1) b2) (n + 2) b3) := fun b1 b2 b3 => by simp [fresh_up, fr.add]
  cases hq : qdeep v.q with
  | true =>
    simp [evs, aeval, cx_ti, cx_G, cx_pf, ti, globS, glob, ldcs_1, ldcs_2, ldcs_3, ldcs_4, ldcs_5, ldcs_7, sls.eq_1, slc.eq_1, pfL, hdC, Tryd.f9, q0, q1, q2, q3, q4, q5, ii, o1, o2, o3, o4, o5, s3, t3, r3, bv, tbl9, pureH, agree_up, agree_refl, G14, deQ1, gq, hq]
    exact w3
  | false =>
    simp [evs, aeval, cx_ti, cx_G, cx_pf, ti, globS, glob, ldcs_1, ldcs_2, ldcs_3, ldcs_4, ldcs_5, ldcs_7, sls.eq_1, slc.eq_1, pfL, hdC, Tryd.f9, q0, q1, q2, q3, q4, q5, ii, o1, o2, o3, o4, o5, s3, t3, r3, bv, tbl9, pureH, agree_up, agree_refl, G14, deQ1, gq, hq]
    refine ⟨w3, ?_⟩
    refine (acall_any (S := []) (by simp) (c43 (op := op) (g5 _ (ag _ _ _)) (g5' _ (ag _ _ _)) w.t1 (fr3 _ _ _))).mono ?_
    rintro z h2 n2 ⟨a1, a2, a3, u, rfl, hu, hu1⟩
    have gj : ∀ h', agree n2 h2 h' → rd dNs h' (.s (n + 3) u 0 (joinT op v.a v.b).length) = some (joinT op v.a v.b) := fun h' ha => flat_in Flat.nd (l := joinT op v.a v.b) (by rw [ha _ hu1]; exact hu) rfl (r := []) (by simp)
    have b2 : h2 (n + 2) = some ⟨[la, .v (.int .i64 v.en.each), .v (.int .i64 v.en.pos)], 0, true, 3⟩ := by rw [a1 (n + 2) (by omega)]; simp [up]
    have b0 : h2 n = some ⟨[sa], 0, true, 1⟩ := by rw [a1 n (by omega)]; simp [up]
    have b1 : h2 (n + 1) = some ⟨[qa, .v (.int .i64 v.q.mode), .v (.int .i64 v.q.after), qb, .v (.int .i64 v.q.within), .v (.string v.q.par), qc], 0, true, 7⟩ := by rw [a1 (n + 1) (by omega)]; simp [up]
    have ag2 : agree n (roH h) h2 := fun j hj => by rw [a1 j (by omega)]; exact ag _ _ _ j hj
    have g6' : rd dEss h2 la = some v.en.ls := g6 _ ag2
    have w4' : smallT (joinT op v.a v.b) := w4
    cases ht : deepB (joinT op v.a v.b) with
    | true =>
      simp [evs, aeval, cx_ti, cx_G, cx_pf, ti, globS, glob, ldcs_1, ldcs_2, ldcs_3, ldcs_4, ldcs_5, ldcs_7, sls.eq_1, slc.eq_1, pfL, b2, r3, bv, tbl9, pureH, agree_refl, G15, deT, gj, ht]
      exact w4'
    | false =>
      cases hb : beyondV v.en.ls with
      | true =>
        simp [evs, aeval, cx_ti, cx_G, cx_pf, ti, globS, glob, ldcs_1, ldcs_2, ldcs_3, ldcs_4, ldcs_5, ldcs_7, sls.eq_1, slc.eq_1, pfL, b2, r3, bv, tbl9, pureH, agree_refl, G15, deT, gj, ht, G27, deLL, g6', w1, hb]
        exact ⟨w4', w2⟩
      | false =>
        simp [evs, aeval, cx_ti, cx_G, cx_pf, ti, globS, glob, ldcs_1, ldcs_2, ldcs_3, ldcs_4, ldcs_5, ldcs_7, sls.eq_1, slc.eq_1, pfL, b2, r3, bv, tbl9, pureH, agree_refl, G15, deT, gj, ht, G27, deLL, g6', w1, hb]
        refine ⟨w4', w2, ?_⟩
        exact ⟨by simpa [up, q3] using g5 _ ag2, by simpa [up, q4] using g5' _ ag2, ⟨n, sa, by simp [up], b0, rd_agree hn e1 _ ag2⟩, ⟨n + 1, qa, qb, qc, by simp [up], b1, rd_agree hn e2 _ ag2, rd_agree hn e3 _ ag2, rd_agree hn e4 _ ag2⟩, ⟨n + 2, la, by simp [up], b2, g6'⟩, a2⟩
theorem law9b (e : Nat → AV) (h' : Heap) (n' : Nat) (b : A9 v ⟨e, h', n'⟩) (q2 : e 2 = ii op) {Q : Ex → St → Prop} :
    awp (cx S8 (pfL tbl9)) (hdC 1 (tlC 2 (Tryd.f9.body.getD .skip))) (thenQ (fun s => A9 v s ∧ s.e 2 = ii op) Q) ⟨e, h', n'⟩ := by
  simp [evs, aeval, cx_ti, cx_G, cx_pf, ti, globS, glob, ldcs_1, ldcs_2, ldcs_3, ldcs_4, ldcs_5, ldcs_7, sls.eq_1, slc.eq_1, pfL, hdC, tlC, Tryd.f9, tbl9, G39, pureH, de39, bv]
  exact ⟨b.up (by simp [up]) (agree_refl _ _) b.frs, by simpa [up] using q2⟩
theorem law9c (w : W9 v) (e : Nat → AV) (h' : Heap) (n' : Nat) (b : A9 v ⟨e, h', n'⟩) (q2 : e 2 = ii op) :
    awp (cx S8 (pfL tbl9)) (hdC 1 (tlC 3 (Tryd.f9.body.getD .skip))) (thenQ (fun s => A9 v s ∧ s.e 2 = ii op ∧ (12 ≤ op ∧ op ≤ 26) ∧ runT (vars v.q.items) v.a = true ∧ runT (vars v.q.items) v.b = true) (finQ (cx S8 (pfL tbl9)) Tryd.f9 fun z _ _ => z = bv true)) ⟨e, h', n'⟩ := by
  have b0 := b
  obtain ⟨at3, at4, _, ⟨m5, a5, x5, y5, q7, b5, r5, r5', r5''⟩, _, fr⟩ := b
  simp only [] at at3 at4 q7 b5 r5 r5' r5'' fr
  obtain ⟨ta, q3⟩ : ∃ x, e 3 = x := ⟨_, rfl⟩
  obtain ⟨tb, q4⟩ : ∃ x, e 4 = x := ⟨_, rfl⟩
  rw [q3] at at3
  rw [q4] at at4
  have s3 := (sl_is at3).2.2.1
  have t3 := (sl_is at4).2.2.1
  have o5 := (sl_is r5).2.2.2.1
  have o5' := (sl_is r5').2.2.2.1
  have o5'' := (sl_is r5'').2.2.2.1
  have hda : deQT h' [.g [a5, .v (.int .i64 v.q.mode), .v (.int .i64 v.q.after), x5, .v (.int .i64 v.q.within), .v (.string v.q.par), y5], ta] = some (v.q, v.a) := by
    simp only [deQT, deQ_has (q := v.q) r5 r5' r5'', at3]
  have hdb : deQT h' [.g [a5, .v (.int .i64 v.q.mode), .v (.int .i64 v.q.after), x5, .v (.int .i64 v.q.within), .v (.string v.q.par), y5], tb] = some (v.q, v.b) := by
    simp only [deQT, deQ_has (q := v.q) r5 r5' r5'', at4]
  have hoa : okQT (v.q, v.a) := ⟨w.it, w.sa⟩
  have hob : okQT (v.q, v.b) := ⟨w.it, w.sb⟩
  by_cases h1 : op < 12
  · simp [evs, aeval, cx_ti, cx_G, cx_pf, ti, globS, glob, ldcs_1, ldcs_2, ldcs_3, ldcs_4, ldcs_5, ldcs_7, sls.eq_1, slc.eq_1, pfL, hdC, tlC, Tryd.f9, q2, q3, q4, q7, ii, b5, s3, t3, o5, o5', o5'', tbl9, h1, bv]
  · by_cases h2 : 26 < op
    · simp [evs, aeval, cx_ti, cx_G, cx_pf, ti, globS, glob, ldcs_1, ldcs_2, ldcs_3, ldcs_4, ldcs_5, ldcs_7, sls.eq_1, slc.eq_1, pfL, hdC, tlC, Tryd.f9, q2, q3, q4, q7, ii, b5, s3, t3, o5, o5', o5'', tbl9, h1, h2, bv]
    · cases hra : runT (vars v.q.items) v.a with
      | false =>
        simp [evs, aeval, cx_ti, cx_G, cx_pf, ti, globS, glob, ldcs_1, ldcs_2, ldcs_3, ldcs_4, ldcs_5, ldcs_7, sls.eq_1, slc.eq_1, pfL, hdC, tlC, Tryd.f9, q2, q3, q4, q7, ii, b5, s3, t3, o5, o5', o5'', tbl9, h1, h2, G57, pureH, hda, hoa, hra, bv]
      | true =>
        cases hrb : runT (vars v.q.items) v.b with
        | false =>
          simp [evs, aeval, cx_ti, cx_G, cx_pf, ti, globS, glob, ldcs_1, ldcs_2, ldcs_3, ldcs_4, ldcs_5, ldcs_7, sls.eq_1, slc.eq_1, pfL, hdC, tlC, Tryd.f9, q2, q3, q4, q7, ii, b5, s3, t3, o5, o5', o5'', tbl9, h1, h2, G57, pureH, hda, hoa, hra, hdb, hob, hrb, bv]
        | true =>
          simp [evs, aeval, cx_ti, cx_G, cx_pf, ti, globS, glob, ldcs_1, ldcs_2, ldcs_3, ldcs_4, ldcs_5, ldcs_7, sls.eq_1, slc.eq_1, pfL, hdC, tlC, Tryd.f9, q2, q3, q4, q7, ii, b5, s3, t3, o5, o5', o5'', tbl9, h1, h2, G57, pureH, hda, hoa, hra, hdb, hob, hrb, bv]
          refine ⟨b0.up (by simp [up, q3, q4]) (agree_refl _ _) fr, ?_⟩
          omega
theorem law9d (w : W9 v) (e : Nat → AV) (h' : Heap) (n' : Nat) (b : A9 v ⟨e, h', n'⟩) (q2 : e 2 = ii op) {R : St → Prop} (hR : ∀ (e2 : Nat → AV) (h2 : Heap) (n2 : Nat), A9 v ⟨e2, h2, n2⟩ → e2 2 = ii op → rd dNs h2 (e2 13) = some (joinT op v.a v.b) → R ⟨e2, h2, n2⟩) {Q : Ex → St → Prop} :
    awp (cx S8 (pfL tbl9)) (hdC 1 (tlC 4 (Tryd.f9.body.getD .skip))) (thenQ R Q) ⟨e, h', n'⟩ := by
  have b0 := b
  obtain ⟨at3, at4, _, _, _, fr⟩ := b
  simp only [] at at3 at4 fr
  obtain ⟨ta, q3⟩ : ∃ x, e 3 = x := ⟨_, rfl⟩
  obtain ⟨tb, q4⟩ : ∃ x, e 4 = x := ⟨_, rfl⟩
  rw [q3] at at3
  rw [q4] at at4
  have s3 := (sl_is at3).2.2.1
  have t3 := (sl_is at4).2.2.1
  simp [evs, aeval, cx_ti, cx_G, cx_pf, ti, globS, glob, ldcs_1, ldcs_2, ldcs_3, ldcs_4, ldcs_5, ldcs_7, sls.eq_1, slc.eq_1, pfL, hdC, tlC, Tryd.f9, q2, q3, q4, ii, s3, t3, tbl9]
  refine (acall_any (S := []) (by simp) (c43 (op := op) at3 at4 w.t1 fr)).mono ?_
  rintro z h2 n2 ⟨a1, a2, a3, u, rfl, hu, hu1⟩
  try simp [evs, aeval, cx_ti, cx_G, cx_pf, ti, globS, glob, ldcs_1, ldcs_2, ldcs_3, ldcs_4, ldcs_5, ldcs_7, sls.eq_1, slc.eq_1, pfL]
  exact hR _ _ _ (b0.up (by simp [up, q3, q4]) a1 a2) (by simp [up, q2, ii]) (by simpa [up] using (show rd dNs h2 (.s n' u 0 (joinT op v.a v.b).length) = some (joinT op v.a v.b) from flat_in Flat.nd (l := joinT op v.a v.b) hu rfl (r := []) (by simp)))
/-- With the joined tree. -/
structure B9 (v : Eq9) (op : Int) (s : St) : Prop extends A9 v s where
  op2 : s.e 2 = ii op
  at13 : rd dNs s.h (s.e 13) = some (joinT op v.a v.b)
theorem B9.up {s s' : St} (a : B9 v op s) (he : ∀ i ∈ [2, 3, 4, 6, 7, 11, 13], s'.e i = s.e i) (ha : agree s.n s.h s'.h) (hf : Fresh s'.n s'.h) : B9 v op s' :=
  ⟨a.toA9.up (fun i hi => he i (by revert hi; simp; omega)) ha hf, by rw [he 2 (by simp)]; exact a.op2, by rw [he 13 (by simp)]; exact rd_agr a.frs a.at13 _ ha⟩
theorem law9e (w : W9 v) (hb : beyondV v.en.ls = false) (e : Nat → AV) (h' : Heap) (n' : Nat) (b : B9 v op ⟨e, h', n'⟩) {Q : Ex → St → Prop} :
    awp (cx S8 (pfL tbl9)) (hdC 1 (tlC 5 (Tryd.f9.body.getD .skip))) (thenQ (fun s => B9 v op s ∧ HasV s 14 (evalV v.sc (vars v.q.items) v.en (joinT op v.a v.b))) Q) ⟨e, h', n'⟩ := by
  have b0 := b
  obtain ⟨⟨_, _, ⟨m4, a4, q6, b4, r4⟩, ⟨m5, a5, x5, y5, q7, b5, r5, r5', r5''⟩, ⟨m7, a7, q11, b7, r7⟩, fr⟩, q2, at13⟩ := b
  simp only [] at q2 at13 q6 b4 r4 q7 b5 r5 r5' r5'' q11 b7 r7 fr
  obtain ⟨tj, q13⟩ : ∃ x, e 13 = x := ⟨_, rfl⟩
  rw [q13] at at13
  have s3 := (sl_is at13).2.2.1
  have o4 := (sl_is r4).2.2.2.1
  have o5 := (sl_is r5).2.2.2.1
  have o5' := (sl_is r5').2.2.2.1
  have o5'' := (sl_is r5'').2.2.2.1
  have o7 := (sl_is r7).2.2.2.1
  have hok := w.eq hb (w.sm op) (join_rng w.ta w.tb)
  have hde : de38 h' [.g [a4], .g [a5, .v (.int .i64 v.q.mode), .v (.int .i64 v.q.after), x5, .v (.int .i64 v.q.within), .v (.string v.q.par), y5], tj, .g [a7, .v (.int .i64 v.en.each), .v (.int .i64 v.en.pos)]] = some ⟨v.sc, v.q, joinT op v.a v.b, v.en⟩ :=
    de38_in (v := ⟨v.sc, v.q, joinT op v.a v.b, v.en⟩) r4 (deQ_has r5 r5' r5'') at13 (deEn_has r7)
  simp [evs, aeval, cx_ti, cx_G, cx_pf, ti, globS, glob, ldcs_1, ldcs_2, ldcs_3, ldcs_4, ldcs_5, ldcs_7, sls.eq_1, slc.eq_1, pfL, hdC, tlC, Tryd.f9, q6, q7, q11, q13, b4, b5, b7, s3, o4, o5, o5', o5'', o7, tbl9, G38, pureH, hde, hok, vv]
  have g : ∀ x1 x2 : Option Blk, agree n' h' (up (up h' n' x1) n' x2) := fun x1 x2 => by simp [agree_up, agree_refl]
  exact ⟨b0.up (by simp [up, q13]) (g _ _) (by simp [fresh_up, fr.add]), n', by simp [up], by simp [up]⟩
theorem law9f (w : W9 v) (hb : beyondV v.en.ls = false) (y : V) (e : Nat → AV) (h' : Heap) (n' : Nat) (b : B9 v op ⟨e, h', n'⟩) (c : HasV ⟨e, h', n'⟩ 14 y) {Q : Ex → St → Prop} :
    awp (cx S8 (pfL tbl9)) (hdC 1 (tlC 6 (Tryd.f9.body.getD .skip))) (thenQ (fun s => B9 v op s ∧ HasV s 14 y ∧ HasV s 15 (evalV v.sc (vars v.q.items) v.en v.a)) Q) ⟨e, h', n'⟩ := by
  have b0 := b
  obtain ⟨⟨at3, _, ⟨m4, a4, q6, b4, r4⟩, ⟨m5, a5, x5, y5, q7, b5, r5, r5', r5''⟩, ⟨m7, a7, q11, b7, r7⟩, fr⟩, q2, _⟩ := b
  simp only [] at q2 at3 q6 b4 r4 q7 b5 r5 r5' r5'' q11 b7 r7 fr
  obtain ⟨tj, q3⟩ : ∃ x, e 3 = x := ⟨_, rfl⟩
  rw [q3] at at3
  have s3 := (sl_is at3).2.2.1
  have o4 := (sl_is r4).2.2.2.1
  have o5 := (sl_is r5).2.2.2.1
  have o5' := (sl_is r5').2.2.2.1
  have o5'' := (sl_is r5'').2.2.2.1
  have o7 := (sl_is r7).2.2.2.1
  have hok := w.eq hb w.sa w.ta
  have hde : de38 h' [.g [a4], .g [a5, .v (.int .i64 v.q.mode), .v (.int .i64 v.q.after), x5, .v (.int .i64 v.q.within), .v (.string v.q.par), y5], tj, .g [a7, .v (.int .i64 v.en.each), .v (.int .i64 v.en.pos)]] = some ⟨v.sc, v.q, v.a, v.en⟩ :=
    de38_in (v := ⟨v.sc, v.q, v.a, v.en⟩) r4 (deQ_has r5 r5' r5'') at3 (deEn_has r7)
  simp [evs, aeval, cx_ti, cx_G, cx_pf, ti, globS, glob, ldcs_1, ldcs_2, ldcs_3, ldcs_4, ldcs_5, ldcs_7, sls.eq_1, slc.eq_1, pfL, hdC, tlC, Tryd.f9, q6, q7, q11, q3, b4, b5, b7, s3, o4, o5, o5', o5'', o7, tbl9, G38, pureH, hde, hok, vv]
  have g : ∀ x1 x2 : Option Blk, agree n' h' (up (up h' n' x1) n' x2) := fun x1 x2 => by simp [agree_up, agree_refl]
  exact ⟨b0.up (by simp [up, q3]) (g _ _) (by simp [fresh_up, fr.add]), c.up fr (by simp [up]) (g _ _), n', by simp [up], by simp [up]⟩
theorem law9g (w : W9 v) (hb : beyondV v.en.ls = false) (y x : V) (e : Nat → AV) (h' : Heap) (n' : Nat) (b : B9 v op ⟨e, h', n'⟩) (c : HasV ⟨e, h', n'⟩ 14 y) (d : HasV ⟨e, h', n'⟩ 15 x) {Q : Ex → St → Prop} :
    awp (cx S8 (pfL tbl9)) (hdC 1 (tlC 7 (Tryd.f9.body.getD .skip))) (thenQ (fun s => B9 v op s ∧ HasV s 14 y ∧ HasV s 15 x ∧ HasV s 16 (evalV v.sc (vars v.q.items) v.en v.b)) Q) ⟨e, h', n'⟩ := by
  have b0 := b
  obtain ⟨⟨_, at4, ⟨m4, a4, q6, b4, r4⟩, ⟨m5, a5, x5, y5, q7, b5, r5, r5', r5''⟩, ⟨m7, a7, q11, b7, r7⟩, fr⟩, q2, _⟩ := b
  simp only [] at q2 at4 q6 b4 r4 q7 b5 r5 r5' r5'' q11 b7 r7 fr
  obtain ⟨tj, q4⟩ : ∃ x, e 4 = x := ⟨_, rfl⟩
  rw [q4] at at4
  have s3 := (sl_is at4).2.2.1
  have o4 := (sl_is r4).2.2.2.1
  have o5 := (sl_is r5).2.2.2.1
  have o5' := (sl_is r5').2.2.2.1
  have o5'' := (sl_is r5'').2.2.2.1
  have o7 := (sl_is r7).2.2.2.1
  have hok := w.eq hb w.sb w.tb
  have hde : de38 h' [.g [a4], .g [a5, .v (.int .i64 v.q.mode), .v (.int .i64 v.q.after), x5, .v (.int .i64 v.q.within), .v (.string v.q.par), y5], tj, .g [a7, .v (.int .i64 v.en.each), .v (.int .i64 v.en.pos)]] = some ⟨v.sc, v.q, v.b, v.en⟩ :=
    de38_in (v := ⟨v.sc, v.q, v.b, v.en⟩) r4 (deQ_has r5 r5' r5'') at4 (deEn_has r7)
  simp [evs, aeval, cx_ti, cx_G, cx_pf, ti, globS, glob, ldcs_1, ldcs_2, ldcs_3, ldcs_4, ldcs_5, ldcs_7, sls.eq_1, slc.eq_1, pfL, hdC, tlC, Tryd.f9, q6, q7, q11, q4, b4, b5, b7, s3, o4, o5, o5', o5'', o7, tbl9, G38, pureH, hde, hok, vv]
  have g : ∀ x1 x2 : Option Blk, agree n' h' (up (up h' n' x1) n' x2) := fun x1 x2 => by simp [agree_up, agree_refl]
  exact ⟨b0.up (by simp [up, q4]) (g _ _) (by simp [fresh_up, fr.add]), c.up fr (by simp [up]) (g _ _), d.up fr (by simp [up]) (g _ _), n', by simp [up], by simp [up]⟩
/-- Do the kinds fit? -/
def fits9 (op : Int) (a b : List Nd) : Bool := (truthT a == wantsT op) && (decide (op < 14) || (truthT b == wantsT op))
theorem law9h (w : W9 v) (ho : 12 ≤ op ∧ op ≤ 26) (pa : 0 < v.a.length) (pb : 0 < v.b.length) (y x z : V) (e : Nat → AV) (h' : Heap) (n' : Nat) (b : B9 v op ⟨e, h', n'⟩) (c : HasV ⟨e, h', n'⟩ 14 y) (d : HasV ⟨e, h', n'⟩ 15 x) (f : HasV ⟨e, h', n'⟩ 16 z) {R : St → Prop} (hR : ∀ e2 : Nat → AV, e2 2 = ii op → HasV ⟨e2, h', n'⟩ 14 y → HasV ⟨e2, h', n'⟩ 15 x → HasV ⟨e2, h', n'⟩ 16 z → e2 17 = bv (fits9 op v.a v.b) → R ⟨e2, h', n'⟩) {Q : Ex → St → Prop} :
    awp (cx S8 (pfL tbl9)) (hdC 1 (tlC 8 (Tryd.f9.body.getD .skip))) (thenQ R Q) ⟨e, h', n'⟩ := by
  obtain ⟨⟨at3, at4, _, _, _, fr⟩, q2, _⟩ := b
  simp only [] at q2 at3 at4 fr
  obtain ⟨ta, q3⟩ : ∃ x, e 3 = x := ⟨_, rfl⟩
  obtain ⟨tb, q4⟩ : ∃ x, e 4 = x := ⟨_, rfl⟩
  rw [q3] at at3
  rw [q4] at at4
  have s3 := (sl_is at3).2.2.1
  have t3 := (sl_is at4).2.2.1
  have wa := w.sa
  have wb := w.sb
  have fin : ∀ e2 : Nat → AV, e2 2 = ii op → e2 14 = e 14 → e2 15 = e 15 → e2 16 = e 16 → e2 17 = bv (fits9 op v.a v.b) → R ⟨e2, h', n'⟩ :=
    fun e2 k2 k14 k15 k16 k17 => hR e2 k2 (c.up fr k14 (agree_refl _ _)) (d.up fr k15 (agree_refl _ _)) (f.up fr k16 (agree_refl _ _)) k17
  have hcase : op = 12 ∨ op = 13 ∨ (14 ≤ op ∧ op < 25) ∨ op = 25 ∨ op = 26 := by omega
  rcases hcase with rfl | rfl | ⟨h1, h2⟩ | rfl | rfl
  · cases hta : truthT v.a <;> cases htb : truthT v.b <;> simp [evs, aeval, cx_ti, cx_G, cx_pf, ti, globS, glob, ldcs_1, ldcs_2, ldcs_3, ldcs_4, ldcs_5, ldcs_7, sls.eq_1, slc.eq_1, pfL, hdC, tlC, Tryd.f9, q2, q3, q4, ii, s3, t3, tbl9, G44, pureH, deT, at3, at4, wa, wb, pa, pb, hta, htb, bv] <;>
      exact fin _ (by simp [up, q2]) (by simp [up]) (by simp [up]) (by simp [up]) (by simp [up, fits9, wantsT, hta, htb, bv])
  · cases hta : truthT v.a <;> cases htb : truthT v.b <;> simp [evs, aeval, cx_ti, cx_G, cx_pf, ti, globS, glob, ldcs_1, ldcs_2, ldcs_3, ldcs_4, ldcs_5, ldcs_7, sls.eq_1, slc.eq_1, pfL, hdC, tlC, Tryd.f9, q2, q3, q4, ii, s3, t3, tbl9, G44, pureH, deT, at3, at4, wa, wb, pa, pb, hta, htb, bv] <;>
      exact fin _ (by simp [up, q2]) (by simp [up]) (by simp [up]) (by simp [up]) (by simp [up, fits9, wantsT, hta, htb, bv])
  · have n1 : ¬ op = 13 := by omega
    have n2 : ¬ 25 ≤ op := by omega
    have n3 : ¬ op < 14 := by omega
    have n4 : wantsT op = false := by simp [wantsT]; omega
    cases hta : truthT v.a <;> cases htb : truthT v.b <;> simp [evs, aeval, cx_ti, cx_G, cx_pf, ti, globS, glob, ldcs_1, ldcs_2, ldcs_3, ldcs_4, ldcs_5, ldcs_7, sls.eq_1, slc.eq_1, pfL, hdC, tlC, Tryd.f9, q2, q3, q4, ii, s3, t3, tbl9, G44, pureH, deT, at3, at4, wa, wb, pa, pb, hta, htb, n1, n2, n3, bv] <;>
      exact fin _ (by simp [up, q2]) (by simp [up]) (by simp [up]) (by simp [up]) (by simp [up, fits9, n1, n3, n4, hta, htb, bv])
  · cases hta : truthT v.a <;> cases htb : truthT v.b <;> simp [evs, aeval, cx_ti, cx_G, cx_pf, ti, globS, glob, ldcs_1, ldcs_2, ldcs_3, ldcs_4, ldcs_5, ldcs_7, sls.eq_1, slc.eq_1, pfL, hdC, tlC, Tryd.f9, q2, q3, q4, ii, s3, t3, tbl9, G44, pureH, deT, at3, at4, wa, wb, pa, pb, hta, htb, bv] <;>
      exact fin _ (by simp [up, q2]) (by simp [up]) (by simp [up]) (by simp [up]) (by simp [up, fits9, wantsT, hta, htb, bv])
  · cases hta : truthT v.a <;> cases htb : truthT v.b <;> simp [evs, aeval, cx_ti, cx_G, cx_pf, ti, globS, glob, ldcs_1, ldcs_2, ldcs_3, ldcs_4, ldcs_5, ldcs_7, sls.eq_1, slc.eq_1, pfL, hdC, tlC, Tryd.f9, q2, q3, q4, ii, s3, t3, tbl9, G44, pureH, deT, at3, at4, wa, wb, pa, pb, hta, htb, bv] <;>
      exact fin _ (by simp [up, q2]) (by simp [up]) (by simp [up]) (by simp [up]) (by simp [up, fits9, wantsT, hta, htb, bv])
/-- The end: what it comes to. -/
theorem law9i (y x z : V) (fi : Bool) (ho : 12 ≤ op ∧ op ≤ 26) (hno : fi = false → y = unk) (h12 : fi = true → op = 12 → y = negL x) (h13 : fi = true → op = 13 → y = notV x) (h14 : fi = true → 14 ≤ op → y = applyL op x z) (e : Nat → AV) (h' : Heap) (n' : Nat) (q2 : e 2 = ii op) (c : HasV ⟨e, h', n'⟩ 14 y) (d : HasV ⟨e, h', n'⟩ 15 x) (f : HasV ⟨e, h', n'⟩ 16 z) (q17 : e 17 = bv fi) :
    awp (cx S8 (pfL tbl9)) (tlC 9 (Tryd.f9.body.getD .skip)) (finQ (cx S8 (pfL tbl9)) Tryd.f9 fun z _ _ => z = bv true) ⟨e, h', n'⟩ := by
  obtain ⟨m14, q14, b14⟩ := c
  obtain ⟨m15, q15, b15⟩ := d
  obtain ⟨m16, q16, b16⟩ := f
  simp only [] at q14 b14 q15 b15 q16 b16
  cases fi with
  | false =>
    obtain rfl := hno rfl
    simp [evs, aeval, cx_ti, cx_G, cx_pf, ti, globS, glob, ldcs_1, ldcs_2, ldcs_3, ldcs_4, ldcs_5, ldcs_7, sls.eq_1, slc.eq_1, pfL, tlC, Tryd.f9, q2, q14, q15, q16, q17, b14, ii, bv, unk]
  | true =>
    rcases (show op = 12 ∨ op = 13 ∨ (14 ≤ op ∧ op ≠ 12 ∧ op ≠ 13) by omega) with rfl | rfl | ⟨h1, h2, h3⟩
    · obtain rfl := h12 rfl rfl
      simp [evs, aeval, cx_ti, cx_G, cx_pf, ti, globS, glob, ldcs_1, ldcs_2, ldcs_3, ldcs_4, ldcs_5, ldcs_7, sls.eq_1, slc.eq_1, pfL, tlC, Tryd.f9, q2, q14, q15, q16, q17, b14, b15, b16, ii, bv, tbl9, g37, pure1, deV, vv]
    · obtain rfl := h13 rfl rfl
      simp [evs, aeval, cx_ti, cx_G, cx_pf, ti, globS, glob, ldcs_1, ldcs_2, ldcs_3, ldcs_4, ldcs_5, ldcs_7, sls.eq_1, slc.eq_1, pfL, tlC, Tryd.f9, q2, q14, q15, q16, q17, b14, b15, b16, ii, bv, tbl9, g19, pure1, deV, vv]
    · obtain rfl := h14 rfl h1
      simp [evs, aeval, cx_ti, cx_G, cx_pf, ti, globS, glob, ldcs_1, ldcs_2, ldcs_3, ldcs_4, ldcs_5, ldcs_7, sls.eq_1, slc.eq_1, pfL, tlC, Tryd.f9, q2, q14, q15, q16, q17, b14, b15, b16, ii, bv, h2, h3, tbl9, g42, pure3, deI, deV, vv]
theorem law9 (e1 : rd dTys h sa = some v.sc) (e2 : rd dIts h qa = some v.q.items) (e3 : rd dNs h qb = some v.q.wh) (e4 : rd dNss h qc = some v.q.ret) (e5 : rd dNs h ta = some v.a) (e5' : rd dNs h tb = some v.b) (e6 : rd dEss h la = some v.en.ls) (w : W9 v) (hn : Fresh n h) :
    awp (cx S8 (pfL tbl9)) (Tryd.f9.body.getD .skip) (finQ (cx S8 (pfL tbl9)) Tryd.f9 fun z _ _ => z = bv true) ⟨env0 [.g [sa], .g [qa, .v (.int .i64 v.q.mode), .v (.int .i64 v.q.after), qb, .v (.int .i64 v.q.within), .v (.string v.q.par), qc], ii op, ta, tb, .g [la, .v (.int .i64 v.en.each), .v (.int .i64 v.en.pos)]], roH h, n⟩ := by
  refine awp_cut 2 _ _ (law9a (op := op) e1 e2 e3 e4 e5 e5' e6 w hn _ rfl rfl rfl rfl rfl rfl) fun x1 h1 n1 ⟨b1, q1, hb⟩ => ?_
  refine awp_cut 1 _ _ (law9b x1 h1 n1 b1 q1) fun x2 h2 n2 ⟨b2, q2⟩ => ?_
  refine awp_cut 1 _ _ (law9c w x2 h2 n2 b2 q2) fun x3 h3 n3 ⟨b3, q3, ho, hra, hrb⟩ => ?_
  refine awp_cut 1 _ _ (law9d w x3 h3 n3 b3 q3 (R := fun s => A9 v s ∧ s.e 2 = ii op ∧ rd dNs s.h (s.e 13) = some (joinT op v.a v.b)) fun _ _ _ k1 k2 k3 => ⟨k1, k2, k3⟩) fun x4 h4 n4 ⟨b4, q4, j4⟩ => ?_
  refine awp_cut 1 _ _ (law9e w hb x4 h4 n4 ⟨b4, q4, j4⟩) fun x5 h5 n5 ⟨b5, c5⟩ => ?_
  refine awp_cut 1 _ _ (law9f w hb _ x5 h5 n5 b5 c5) fun x6 h6 n6 ⟨b6, c6, d6⟩ => ?_
  refine awp_cut 1 _ _ (law9g w hb _ _ x6 h6 n6 b6 c6 d6) fun x7 h7 n7 ⟨b7, c7, d7, f7⟩ => ?_
  have pa := tree_pos (run_tree hra).1
  have pb := tree_pos (run_tree hrb).1
  refine awp_cut 1 _ _ (law9h w ho pa pb _ _ _ x7 h7 n7 b7 c7 d7 f7 (R := fun s => s.e 2 = ii op ∧ HasV s 14 _ ∧ HasV s 15 _ ∧ HasV s 16 _ ∧ s.e 17 = bv (fits9 op v.a v.b)) fun _ k1 k2 k3 k4 k5 => ⟨k1, k2, k3, k4, k5⟩) fun x8 h8 n8 ⟨q8, c8, d8, f8, g8⟩ => ?_
  have hab := w.ab
  refine law9i _ _ _ (fits9 op v.a v.b) ho (fun hf => ?_) (fun hf hop => ?_) (fun hf hop => ?_) (fun hf hop => ?_) x8 h8 n8 q8 c8 d8 f8 g8
  · have hr : runT (vars v.q.items) (joinT op v.a v.b) = false := by
      by_cases h14 : op < 14
      · rw [run_un hra (by omega) (by omega), ← hf]; simp [fits9, h14]
      · rw [run_bin hra hrb (by omega) (by omega) hab, ← hf]; simp [fits9, h14]
    simp [evalV, hr]
  · have hr : runT (vars v.q.items) (joinT op v.a v.b) = true := by rw [run_un hra (by omega) (by omega), ← hf]; simp [fits9, hop]
    rw [eval_un hra (by omega) (by omega) hr, if_pos hop]
  · have hr : runT (vars v.q.items) (joinT op v.a v.b) = true := by rw [run_un hra (by omega) (by omega), ← hf]; simp [fits9, hop]
    rw [eval_un hra (by omega) (by omega) hr, if_neg (by omega)]
  · have h14 : ¬ op < 14 := by omega
    have hr : runT (vars v.q.items) (joinT op v.a v.b) = true := by rw [run_bin hra hrb hop (by omega) hab, ← hf]; simp [fits9, h14]
    rw [eval_bin hra hrb hop (by omega) hab hr]
end
end Go.Proofs.YtkfphaphiikloaaDoor
