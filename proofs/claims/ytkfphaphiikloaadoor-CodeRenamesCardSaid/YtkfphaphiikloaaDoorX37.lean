/-
  THE LAWS WITHOUT THE DOCUMENT, PART G: what a joined tree comes to: the plain law.
-/
import Derived.Test.YtkfphaphiikloaaDoorX36
import Derived.Shelf.Strconv.Itoa3
import Derived.Test.YtkfphaphiikloaaDoorX17
import Derived.Lib.ItoaMem
import Derived.Test.YtkfphaphiikloaaDoorX26
set_option linter.unusedSimpArgs false
set_option linter.unusedVariables false
set_option linter.constructorNameAsVariable false
namespace Go.Proofs.YtkfphaphiikloaaDoor
open Go Go.Eng

/-- Is what a tree gives a truth? -/
def truthT (t : List Nd) : Bool := truthO (t.getD (t.length - 1) nd0).op
section
variable {sc : List Ty} {vs : List ByteArray} {en : En} {a b : List Nd} {op : Int}
theorem tree_un (ha : tree1 a = true) (ho : op = 12 ∨ op = 13) : tree1 (a ++ [opN op ((a.length : Int) - 1) (-1)]) = true := by
  obtain ⟨lo, T⟩ := tre_un (tre_of ha) ho
  refine tree_of T fun i hi => ?_
  by_cases hia : i < a.length
  · rw [List.getElem_append_left hia]; exact tree_fields ha i hia
  · rw [List.getElem_append_right (by omega)]
    simp only [List.length_append, List.length_cons, List.length_nil] at hi
    simp only [show i - a.length = 0 by omega, List.getElem_cons_zero]
    exact opN_fields (by omega) _ _
theorem tree_bin (ha : tree1 a = true) (hb : tree1 b = true) (ho : 14 ≤ op) (ho' : op ≤ 26) : tree1 (a ++ b.map (onN a.length) ++ [opN op ((a.length : Int) - 1) ((a.length : Int) + b.length - 1)]) = true := by
  obtain ⟨lo, T⟩ := tre_bin (tre_of ha) (tre_of hb) ho ho'
  refine tree_of T fun i hi => ?_
  by_cases hia : i < a.length
  · rw [List.getElem_append_left (by simp; omega), List.getElem_append_left hia]; exact tree_fields ha i hia
  · by_cases hib : i < a.length + b.length
    · rw [List.getElem_append_left (by simp; omega), List.getElem_append_right (by omega), List.getElem_map, onN_fields]
      exact tree_fields hb _ _
    · rw [List.getElem_append_right (by simp; omega)]
      simp only [List.length_append, List.length_map, List.length_cons, List.length_nil] at hi ⊢
      simp only [show i - (a.length + b.length) = 0 by omega, List.getElem_cons_zero]
      exact opN_fields (by omega) _ _
theorem root_pre (h : 0 < a.length) (c : List Nd) : (a ++ c).getD (a.length - 1) nd0 = a.getD (a.length - 1) nd0 := by
  rw [getD_at (show a.length - 1 < (a ++ c).length by simp; omega), getD_at (by omega), List.getElem_append_left (by omega)]
theorem root_mid (h : 0 < b.length) (c : List Nd) : ((a ++ b.map (onN a.length) ++ c).getD (a.length + b.length - 1) nd0).op = (b.getD (b.length - 1) nd0).op := by
  rw [getD_at (show a.length + b.length - 1 < (a ++ b.map (onN a.length) ++ c).length by simp; omega), getD_at (by omega), List.getElem_append_left (by simp; omega), List.getElem_append_right (by omega), List.getElem_map]
  simp only [onN, show a.length + b.length - 1 - a.length = b.length - 1 by omega]
theorem wants_op (x y : Int) : wantsT (opN op x y).op = wantsT op := rfl
theorem run_un (ha : runT vs a = true) (ho : op = 12 ∨ op = 13) (hs : a.length < 4611686018427387904) : runT vs (joinT op a b) = (truthT a == wantsT op) := by
  obtain ⟨h1, h2⟩ := run_tree ha
  have hp := tree_pos h1
  rw [join_un ho hs]
  have hlast : nodeOk vs (a ++ [opN op ((a.length : Int) - 1) (-1)]) (opN op ((a.length : Int) - 1) (-1)) = (truthT a == wantsT op) := by
    unfold nodeOk
    have e1 : ¬ op < 4 := by omega
    have e2 : ¬ op ≤ 11 := by omega
    have e3 : ((a.length : Int) - 1).toNat = a.length - 1 := by omega
    simp only [opN, e1, e2, if_false, e3]
    rw [root_pre hp]
    simp [truthT]
  have hl : (a ++ [opN op ((a.length : Int) - 1) (-1)]).length = a.length + 1 := by simp
  rw [runT, tree_un h1 ho, Bool.true_and, Bool.eq_iff_iff, ok_all, ← hlast]
  constructor
  · intro h
    have := h a.length (by omega)
    rw [List.getElem_append_right (by omega)] at this
    simpa using this
  · intro h i hi
    by_cases hia : i < a.length
    · have := emb_ok (vs := vs) (tre_of h1) (emb_pre a [opN op ((a.length : Int) - 1) (-1)]) i hia
      rw [onN_zero] at this
      rw [List.getElem_append_left hia, this]
      exact ok_all.1 h2 i hia
    · obtain rfl : i = a.length := by omega
      rw [List.getElem_append_right (by omega)]
      simpa using h
theorem run_bin (ha : runT vs a = true) (hb : runT vs b = true) (ho : 14 ≤ op) (ho' : op ≤ 26) (hs : a.length + b.length < 4611686018427387904) : runT vs (joinT op a b) = ((truthT a == wantsT op) && (truthT b == wantsT op)) := by
  obtain ⟨h1, h2⟩ := run_tree ha
  obtain ⟨h3, h4⟩ := run_tree hb
  have hp := tree_pos h1
  have hq := tree_pos h3
  rw [join_bin ho h3 hs]
  have hl : (a ++ b.map (onN a.length) ++ [opN op ((a.length : Int) - 1) ((a.length : Int) + b.length - 1)]).length = a.length + b.length + 1 := by simp; omega
  have hlast : nodeOk vs (a ++ b.map (onN a.length) ++ [opN op ((a.length : Int) - 1) ((a.length : Int) + b.length - 1)]) (opN op ((a.length : Int) - 1) ((a.length : Int) + b.length - 1)) = ((truthT a == wantsT op) && (truthT b == wantsT op)) := by
    have r1 := root_pre hp (b.map (onN a.length) ++ [opN op ((a.length : Int) - 1) ((a.length : Int) + b.length - 1)])
    have r2 := root_mid (a := a) hq [opN op ((a.length : Int) - 1) ((a.length : Int) + b.length - 1)]
    rw [← List.append_assoc] at r1
    unfold nodeOk
    have e1 : ¬ op < 4 := by omega
    have e2 : ¬ op ≤ 11 := by omega
    have e3 : ((a.length : Int) - 1).toNat = a.length - 1 := by omega
    have e4 : ((a.length : Int) + b.length - 1).toNat = a.length + b.length - 1 := by omega
    have e5 : ¬ ((a.length : Int) + b.length - 1) < 0 := by omega
    have f1 : (opN op ((a.length : Int) - 1) ((a.length : Int) + b.length - 1)).op = op := rfl
    have f2 : (opN op ((a.length : Int) - 1) ((a.length : Int) + b.length - 1)).a = (a.length : Int) - 1 := rfl
    have f3 : (opN op ((a.length : Int) - 1) ((a.length : Int) + b.length - 1)).b = (a.length : Int) + b.length - 1 := rfl
    rw [f1, f2, f3, e3, e4, r1, r2, if_neg e1, if_neg e2]
    simp [truthT, e5]
  rw [runT, tree_bin h1 h3 ho ho', Bool.true_and, Bool.eq_iff_iff, ok_all, ← hlast]
  constructor
  · intro h
    have := h (a.length + b.length) (by omega)
    rw [List.getElem_append_right (by simp)] at this
    simpa using this
  · intro h i hi
    by_cases hia : i < a.length
    · have := emb_ok (vs := vs) (tre_of h1) (emb_pre a (b.map (onN a.length) ++ [opN op ((a.length : Int) - 1) ((a.length : Int) + b.length - 1)])) i hia
      rw [onN_zero, ← List.append_assoc] at this
      rw [List.getElem_append_left (by simp; omega), List.getElem_append_left hia, this]
      exact ok_all.1 h2 i hia
    · by_cases hib : i < a.length + b.length
      · have := emb_ok (vs := vs) (tre_of h3) (emb_mid a b [opN op ((a.length : Int) - 1) ((a.length : Int) + b.length - 1)]) (i - a.length) (by omega)
        rw [List.getElem_append_left (by simp; omega), List.getElem_append_right (by omega), List.getElem_map, this]
        exact ok_all.1 h4 _ _
      · obtain rfl : i = a.length + b.length := by omega
        rw [List.getElem_append_right (by simp)]
        simpa using h
theorem eval_un (ha : runT vs a = true) (ho : op = 12 ∨ op = 13) (hs : a.length < 4611686018427387904) (hr : runT vs (joinT op a b) = true) : evalV sc vs en (joinT op a b) = if op = 12 then negL (evalV sc vs en a) else notV (evalV sc vs en a) := by
  obtain ⟨h1, _⟩ := run_tree ha
  have hp := tree_pos h1
  rw [evalV, if_pos hr, evalV, if_pos ha]
  rw [join_un ho hs]
  obtain ⟨lo, T⟩ := tre_un (tre_of h1) ho
  have hl : (a ++ [opN op ((a.length : Int) - 1) (-1)]).length - 1 = a.length := by simp
  rw [hl, val_rec T (by simp)]
  have hx : (a ++ [opN op ((a.length : Int) - 1) (-1)])[a.length]'(by simp) = opN op ((a.length : Int) - 1) (-1) := by
    rw [List.getElem_append_right (by omega)]; simp
  rw [hx]
  have hv := emb_val (sc := sc) (vs := vs) (en := en) (tre_of h1) T (emb_pre a [opN op ((a.length : Int) - 1) (-1)]) (a.length - 1) (by omega)
  rw [Nat.zero_add] at hv
  have e3 : (opN op ((a.length : Int) - 1) (-1)).a.toNat = a.length - 1 := by simp only [opN]; omega
  rw [e3, hv]
  unfold nodeV
  rcases ho with rfl | rfl <;> simp [opN]
theorem eval_bin (ha : runT vs a = true) (hb : runT vs b = true) (ho : 14 ≤ op) (ho' : op ≤ 26) (hs : a.length + b.length < 4611686018427387904) (hr : runT vs (joinT op a b) = true) : evalV sc vs en (joinT op a b) = applyL op (evalV sc vs en a) (evalV sc vs en b) := by
  obtain ⟨h1, _⟩ := run_tree ha
  obtain ⟨h3, _⟩ := run_tree hb
  have hp := tree_pos h1
  have hq := tree_pos h3
  rw [evalV, if_pos hr, evalV, if_pos ha, evalV, if_pos hb]
  rw [join_bin ho h3 hs]
  obtain ⟨lo, T⟩ := tre_bin (tre_of h1) (tre_of h3) ho ho'
  have hl : (a ++ b.map (onN a.length) ++ [opN op ((a.length : Int) - 1) ((a.length : Int) + b.length - 1)]).length - 1 = a.length + b.length := by simp
  rw [hl, val_rec T (by simp)]
  have hx : (a ++ b.map (onN a.length) ++ [opN op ((a.length : Int) - 1) ((a.length : Int) + b.length - 1)])[a.length + b.length]'(by simp) = opN op ((a.length : Int) - 1) ((a.length : Int) + b.length - 1) := by
    rw [List.getElem_append_right (by simp)]; simp
  rw [hx]
  have E := emb_pre a (b.map (onN a.length) ++ [opN op ((a.length : Int) - 1) ((a.length : Int) + b.length - 1)])
  rw [← List.append_assoc] at E
  have hv := emb_val (sc := sc) (vs := vs) (en := en) (tre_of h1) T E (a.length - 1) (by omega)
  rw [Nat.zero_add] at hv
  have hw := emb_val (sc := sc) (vs := vs) (en := en) (tre_of h3) T (emb_mid a b [opN op ((a.length : Int) - 1) ((a.length : Int) + b.length - 1)]) (b.length - 1) (by omega)
  have e3 : (opN op ((a.length : Int) - 1) ((a.length : Int) + b.length - 1)).a.toNat = a.length - 1 := by simp only [opN]; omega
  have e4 : (opN op ((a.length : Int) - 1) ((a.length : Int) + b.length - 1)).b.toNat = a.length + (b.length - 1) := by simp only [opN]; omega
  rw [e3, e4, hv, hw]
  unfold nodeV
  have f1 : (opN op ((a.length : Int) - 1) ((a.length : Int) + b.length - 1)).op = op := rfl
  rw [f1, if_neg (by omega), if_neg (by omega), if_neg (by omega), if_neg (by omega), if_neg (by omega), if_neg (by omega)]
end
end Go.Proofs.YtkfphaphiikloaaDoor

/-
  THE LAWS WITHOUT THE DOCUMENT, PART J: is what a tree gives a truth? (the program's)
-/
namespace Go.Proofs.YtkfphaphiikloaaDoor
open Go Go.Eng

set_option maxRecDepth 100000 in
theorem p73 : P0 [] 73 g92 := by
  refine mk1 (S := []) tb_nil Tryd.func73 rfl (by kernel_rfl) ii (fun x a h => deI_out h) (fun a => rfl) (fun o h n => ?_)
  have hc : o = 2 ∨ o = 3 ∨ o = 13 ∨ (o ≠ 2 ∧ o ≠ 3 ∧ o ≠ 13) := by omega
  rcases hc with rfl | rfl | rfl | ⟨h1, h2, h3⟩
  · simp [evs, aeval, binS, cx_ti, cx_G, cx_pf, cx_tw, ti, globS, glob, ldcs, sls, slc, pfL, ii, bv, truthO]
  · simp [evs, aeval, binS, cx_ti, cx_G, cx_pf, cx_tw, ti, globS, glob, ldcs, sls, slc, pfL, ii, bv, truthO]
  · simp [evs, aeval, binS, cx_ti, cx_G, cx_pf, cx_tw, ti, globS, glob, ldcs, sls, slc, pfL, ii, bv, truthO]
  · by_cases h4 : 19 ≤ o
    · by_cases h5 : o ≤ 26
      · have ht : truthO o = true := by simp only [truthO, decide_eq_true_eq]; omega
        simp [evs, aeval, binS, cx_ti, cx_G, cx_pf, cx_tw, ti, globS, glob, ldcs, sls, slc, pfL, ii, bv, ht, h1, h2, h3, h4, h5]
      · have ht : truthO o = false := by simp only [truthO, decide_eq_false_iff_not]; omega
        simp [evs, aeval, binS, cx_ti, cx_G, cx_pf, cx_tw, ti, globS, glob, ldcs, sls, slc, pfL, ii, bv, ht, h1, h2, h3, h4, h5]
    · have ht : truthO o = false := by simp only [truthO, decide_eq_false_iff_not]; omega
      simp [evs, aeval, binS, cx_ti, cx_G, cx_pf, cx_tw, ti, globS, glob, ldcs, sls, slc, pfL, ii, bv, ht, h1, h2, h3, h4]
def G44 := pureH deT smallT fun t => bv (decide (0 < t.length) && truthT t)
def tb44 : List (FuncId × (List AV → Heap → PRes)) := [(73, g92)]
set_option maxRecDepth 100000 in
set_option maxHeartbeats 2000000 in
theorem P44 : P0 [] 44 G44 := by
  refine mkH 1 (S := []) (l := tb44) (tb_cons p73 tb_nil) Tryd.func44 rfl (by kernel_rfl) deT_mono (fun h l x e => by obtain ⟨a, rfl, _⟩ := deT_out e; exact Nat.le_refl _) (fun a => rfl) (fun args t h n e hp hn => ?_)
  obtain ⟨a, rfl, e1⟩ := deT_out e
  obtain ⟨s1, s2, s3, s4, s5⟩ := sl_is e1
  by_cases h0 : t.length = 0
  · simp [evs, aeval, binS, cx_ti, cx_G, cx_pf, cx_tw, ti, globS, glob, ldcs_1, ldcs_2, ldcs_3, ldcs_4, ldcs_5, ldcs_7, sls.eq_1, slc.eq_1, pfL, s1, s2, s3, h0, tb44, bv]
  · obtain ⟨j, he⟩ : ∃ j, t.length = j + 1 := ⟨t.length - 1, by omega⟩
    have he1 : IntKind.i64.wrap ((t.length : Int) - 1) = j := by rw [he]; exact wrapm1 (by have : t.length * 64 ≤ 140737488355328 := hp; unfold big; omega)
    have he3 : 0 < t.length := by omega
    have he4 : j < t.length := by omega
    rcases ns_at e1 with ⟨hq, _⟩ | ⟨id, off, k, rfl, hk, ho', hat⟩
    · rw [hq] at he3; simp at he3
    have hro := ro_at hk
    have h0' := ne_of hk hn 0
    simp only [Nat.add_zero] at h0'
    have hcl := cell_of (c := 0) (hat j he4) rfl (by omega)
    simp only [Nat.add_zero] at hcl
    have hw1 : off + (j * 6 + 1) ≤ k.cells.length := by omega
    have htt : truthT t = truthO t[j].op := by unfold truthT; rw [show t.length - 1 = j by omega, getD_at he4]
    generalize t[j].op = o at *
    simp only [ii] at hcl
    simp [evs, aeval, binS, cx_ti, cx_G, cx_pf, cx_tw, ti, globS, glob, ldcs_1, ldcs_2, ldcs_3, ldcs_4, ldcs_5, ldcs_7, sls.eq_1, slc.eq_1, pfL, s1, s2, s3, he1, he3, he4, hro, h0', hcl, hw1, tb44, g92, pure1, deI, htt, bv]
end Go.Proofs.YtkfphaphiikloaaDoor

/-
  CodeRenames, PART A: the numeral of a number: the library's strconv.Itoa, by its contract off the shelf. (The renaming and the structure: printed by tools/gen_lays.py out of what the kit's command lays at this program.)
-/
namespace Go.Proofs.YtkfphaphiikloaaDoor
open Go Go.Eng

def itoaRen : Go.Shelf.Ren :=
  {
    f := fun x =>
      match x with
      | 171 => 90
      | 243 => 120
      | 246 => 139
      | 283 => 154
      | 284 => 155
      | 285 => 156
      | 286 => 157
      | 129 => 161
      | 317 => 160
      | 318 => 162
      | 319 => 163
      | 320 => 164
      | 337 => 168
      | 338 => 169
      | n => n,
    t := fun x =>
      match x with
      | 3 => 3
      | 9 => 9
      | 2 => 2
      | 4 => 4
      | 171 => 179
      | 0 => 0
      | 53 => 117
      | 37 => 182
      | 5 => 5
      | 173 => 183
      | 212 => 187
      | 51 => 188
      | 20 => 20
      | 213 => 189
      | 46 => 167
      | 232 => 194
      | 233 => 195
      | n => n,
    g := fun x =>
      match x with
      | 17 => 8
      | 18 => 9
      | 19 => 10
      | n => n }
set_option maxRecDepth 100000 in
theorem laysItoa : LaysM.n171 Tryd.prog itoaRen where
  mixed := by kernel_rfl
  f129 := Tryd.func161.trans (congrArg some (by kernel_rfl))
  f171 := Tryd.func90.trans (congrArg some (by kernel_rfl))
  f243 := Tryd.func120.trans (congrArg some (by kernel_rfl))
  f246 := Tryd.func139.trans (congrArg some (by kernel_rfl))
  f283 := Tryd.func154.trans (congrArg some (by kernel_rfl))
  f284 := Tryd.func155.trans (congrArg some (by kernel_rfl))
  f285 := Tryd.func156.trans (congrArg some (by kernel_rfl))
  f286 := Tryd.func157.trans (congrArg some (by kernel_rfl))
  f317 := Tryd.func160.trans (congrArg some (by kernel_rfl))
  f318 := Tryd.func162.trans (congrArg some (by kernel_rfl))
  f319 := Tryd.func163.trans (congrArg some (by kernel_rfl))
  f320 := Tryd.func164.trans (congrArg some (by kernel_rfl))
  f337 := Tryd.func168.trans (congrArg some (by kernel_rfl))
  f338 := Tryd.func169.trans (congrArg some (by kernel_rfl))
  t0 := Tryd.underlying0
  a0 := Tryd.isAgg0
  z0 := Tryd.sizeOf0
  v0 := Tryd.zeroValue0
  t2 := Tryd.underlying2
  a2 := Tryd.isAgg2
  z2 := Tryd.sizeOf2
  v2 := Tryd.zeroValue2
  t3 := Tryd.underlying3
  a3 := Tryd.isAgg3
  z3 := Tryd.sizeOf3
  v3 := Tryd.zeroValue3
  t4 := Tryd.underlying4
  a4 := Tryd.isAgg4
  z4 := Tryd.sizeOf4
  v4 := Tryd.zeroValue4
  t5 := Tryd.underlying5
  a5 := Tryd.isAgg5
  z5 := Tryd.sizeOf5
  v5 := Tryd.zeroValue5
  t9 := Tryd.underlying9
  a9 := Tryd.isAgg9
  z9 := Tryd.sizeOf9
  v9 := Tryd.zeroValue9
  t20 := Tryd.underlying20
  a20 := Tryd.isAgg20
  z20 := Tryd.sizeOf20
  v20 := Tryd.zeroValue20
  t37 := Tryd.underlying182
  a37 := Tryd.isAgg182
  z37 := Tryd.sizeOf182
  v37 := Tryd.zeroValue182
  t46 := Tryd.underlying167
  a46 := Tryd.isAgg167
  z46 := Tryd.sizeOf167
  v46 := Tryd.zeroValue167
  t51 := Tryd.underlying188
  a51 := Tryd.isAgg188
  z51 := Tryd.sizeOf188
  v51 := Tryd.zeroValue188
  t53 := Tryd.underlying117
  a53 := Tryd.isAgg117
  z53 := Tryd.sizeOf117
  v53 := Tryd.zeroValue117
  t171 := Tryd.underlying179
  a171 := Tryd.isAgg179
  z171 := Tryd.sizeOf179
  v171 := Tryd.zeroValue179
  t173 := Tryd.underlying183
  a173 := Tryd.isAgg183
  z173 := Tryd.sizeOf183
  v173 := Tryd.zeroValue183
  t212 := Tryd.underlying187
  a212 := Tryd.isAgg187
  z212 := Tryd.sizeOf187
  v212 := Tryd.zeroValue187
  t213 := Tryd.underlying189
  a213 := Tryd.isAgg189
  z213 := Tryd.sizeOf189
  t232 := Tryd.underlying194
  a232 := Tryd.isAgg194
  z232 := Tryd.sizeOf194
  v232 := Tryd.zeroValue194
  t233 := Tryd.underlying195
  a233 := Tryd.isAgg195
  z233 := Tryd.sizeOf195
  v233 := Tryd.zeroValue195
  g17 := by kernel_rfl
  g18 := by kernel_rfl
  g19 := by kernel_rfl
  i0 := by kernel_rfl
  i2 := by kernel_rfl
  i3 := by kernel_rfl
  i4 := by kernel_rfl
  i5 := by kernel_rfl
  i9 := by kernel_rfl
  i20 := by kernel_rfl
  i37 := by kernel_rfl
  i46 := by kernel_rfl
  i51 := by kernel_rfl
  i53 := by kernel_rfl
  i171 := by kernel_rfl
  i173 := by kernel_rfl
  i212 := by kernel_rfl
  i232 := by kernel_rfl
  i233 := by kernel_rfl
  m17 := by kernel_rfl
  m18 := by kernel_rfl
  m19 := by kernel_rfl

/-- The numeral. -/
def itoaB (n : Int) : ByteArray := ⟨(Lib.itoa n).toArray⟩
def g90 : List AV → Heap → PRes := fun args _ => match args with
  | [.v (.int .i64 n)] => ⟨Rng n, .v (.string (itoaB n))⟩
  | _ => ⟨False, .any⟩
theorem tab8 {W : World} {arr : Array Value} {el : TypeId} {fr : Nat × Nat} (h1 : W.heap[8]? = some (.cells arr el fr)) (h2 : arr.toList = (glob 8).getD []) : Lib.TabIs Tryd.prog W "internal/strconv.uint64pow10" .u64 Lib.pow10Tab := by
  have hg : Tryd.prog.globalNamed "internal/strconv.uint64pow10" = some 8 := by kernel_rfl
  have he : (glob 8).getD [] = Lib.pow10Tab.map fun z => Value.int .u64 z := by kernel_rfl
  unfold Lib.TabIs
  simp only [World.var?, hg, Option.bind_some, h1]
  rw [← he, ← h2]
theorem p90 : P0 [8] 90 g90 := by
  refine ⟨fun args h h' hh hs => ⟨hs, rfl⟩, .inl ⟨callable Tryd.func90 rfl rfl _ _, fun ρ h w args vs r _ ha hs => ?_⟩⟩
  unfold g90 at hs ⊢
  split at hs
  · rename_i n
    simp only [VRs, VR] at ha
    obtain ⟨y, rest, rfl, rfl, rfl⟩ := ha
    obtain ⟨arr, el, fr, g1, g2⟩ := r.glob 8 ((glob 8).getD []) (by simp [cx_G, globS, glob])
    have hs' : Rng n := hs
    unfold Rng at hs'
    refine (Any.strconv_Itoa laysItoa n (by omega) (by omega) w (tab8 g1 g2)).mono fun e w' ⟨he, k, os, hw⟩ => ⟨_, he, by simp [VR, itoaB], ?_⟩
    subst hw
    refine ⟨rfl, rfl, rfl, by simp [«Sort».grow, World.drewN], fun k hk => ?_⟩
    simp only [«Sort».grow, World.drewN]
    rw [Array.getElem?_append_left hk]
  · exact hs.elim
end Go.Proofs.YtkfphaphiikloaaDoor

/-
  CodeRenames, PART B: the plain law: what variables are called does not matter.
-/
namespace Go.Proofs.YtkfphaphiikloaaDoor
open Go Go.Eng

/-! ### numerals -/
def decV (l : List UInt8) : Nat := l.foldl (fun a b => a * 10 + (b.toNat - 48)) 0
theorem dig_toNat {d : Nat} (h : d < 10) : (UInt8.ofNat (48 + d)).toNat = 48 + d := by
  rw [UInt8.toNat_ofNat']
  omega
theorem decV_digits (u : Nat) : decV (Lib.decDigits u) = u := by
  induction u using Nat.strongRecOn with
  | _ u ih =>
    rw [Lib.decDigits]
    split
    · rename_i h
      simp only [decV, List.foldl_cons, List.foldl_nil, dig_toNat h]
      omega
    · rename_i h
      have h1 := ih (u / 10) (by omega)
      unfold decV at h1 ⊢
      rw [List.foldl_append, h1]
      simp only [List.foldl_cons, List.foldl_nil, dig_toNat (show u % 10 < 10 by omega)]
      omega
theorem dig_all (u : Nat) : ∀ b ∈ Lib.decDigits u, 48 ≤ b.toNat ∧ b.toNat ≤ 57 := by
  induction u using Nat.strongRecOn with
  | _ u ih =>
    rw [Lib.decDigits]
    split
    · rename_i h
      intro b hb
      simp only [List.mem_singleton] at hb
      subst hb
      rw [dig_toNat h]; omega
    · rename_i h
      intro b hb
      rcases List.mem_append.1 hb with hb | hb
      · exact ih (u / 10) (by omega) b hb
      · simp only [List.mem_singleton] at hb
        subst hb
        rw [dig_toNat (by omega)]; omega
theorem dig_len {u : Nat} (h : u < 1000) : (Lib.decDigits u).length ≤ 3 := by
  rw [Lib.decDigits_length]
  by_cases h1 : u < 10
  · rw [Lib.nDigits_small h1]; omega
  · rw [Lib.nDigits_big h1]
    by_cases h2 : u / 10 < 10
    · rw [Lib.nDigits_small h2]; omega
    · rw [Lib.nDigits_big h2, Lib.nDigits_small (by omega)]; omega
/-- The name of an item: v and its number. -/
def numB (i : Nat) : ByteArray := ⟨(118 :: Lib.decDigits i).toArray⟩
theorem numB_list (i : Nat) : (numB i).data.toList = 118 :: Lib.decDigits i := rfl
theorem numB_inj {i j : Nat} (h : numB i = numB j) : i = j := by
  have h1 : (numB i).data.toList = (numB j).data.toList := by rw [h]
  rw [numB_list, numB_list, List.cons.injEq] at h1
  rw [← decV_digits i, ← decV_digits j, h1.2]
theorem numB_size (i : Nat) : (numB i).size = (Lib.decDigits i).length + 1 := by
  show (numB i).data.size = _
  rw [← Array.length_toList, numB_list, List.length_cons]
theorem kw_noV : (kwords.all fun k => k.data.toList.head? != some 86) = true := by decide +kernel
theorem isName_num {i : Nat} (h : i < 1000) : isNameS (numB i) = true := by
  have hs := numB_size i
  have hl := dig_len h
  have hb : byteAt (numB i) 0 = 118 := rfl
  have hw : ((numB i).data.toList.all fun b => wordB b.toNat) = true := by
    rw [numB_list, List.all_eq_true]
    intro b hb
    rcases List.mem_cons.1 hb with rfl | hb
    · rfl
    · have := dig_all i b hb
      simp only [wordB, Bool.or_eq_true, decide_eq_true_eq]
      omega
  have hk : (kwords.all fun k => upS (numB i) != k) = true := by
    rw [List.all_eq_true]
    intro k hk
    have h1 := List.all_eq_true.1 kw_noV k hk
    cases he : (upS (numB i) == k) with
    | false => simp only [bne, he, Bool.not_false]
    | true =>
      rw [ba_beq] at he
      subst he
      exact absurd h1 (by simp [upS, numB_list, upB])
  unfold isNameS
  rw [hw, hk, hb]
  have a1 : (numB i).size ≠ 0 := by omega
  have a2 : (numB i).size ≤ 16 := by omega
  simp [a1, a2]
/-! ### other names -/
def rnV (vs : List ByteArray) (z : ByteArray) : ByteArray := numB (ixOf vs z).toNat
def rnVs (vs : List ByteArray) : List ByteArray := vs.map (rnV vs)
def rnN (vs : List ByteArray) (x : Nd) : Nd := ⟨x.op, x.n, if emB x.var = true then x.var else rnV vs x.var, x.attr, x.a, x.b⟩
def rnT (vs : List ByteArray) (t : List Nd) : List Nd := t.map (rnN vs)
theorem ix_is {vs : List ByteArray} {z : ByteArray} (h : 0 ≤ ixOf vs z) : ∃ j : Nat, ixOf vs z = j ∧ ∃ hj : j < vs.length, vs.findIdx (· == z) = j ∧ vs[j] = z := by
  unfold ixOf at h ⊢
  split at h
  · rename_i hl
    refine ⟨_, if_pos hl, hl, rfl, ?_⟩
    have := List.findIdx_getElem (w := hl)
    rw [ba_beq] at this
    exact this
  · omega
theorem ix_mem {vs : List ByteArray} {i : Nat} (hi : i < vs.length) : 0 ≤ ixOf vs vs[i] := by
  have hl : vs.findIdx (· == vs[i]) < vs.length := List.findIdx_lt_length_of_exists ⟨vs[i], List.getElem_mem hi, by rw [ba_beq]⟩
  unfold ixOf
  rw [if_pos hl]
  omega
theorem rnV_inj {vs : List ByteArray} {y z : ByteArray} (hy : 0 ≤ ixOf vs y) (hz : 0 ≤ ixOf vs z) (h : rnV vs y = rnV vs z) : y = z := by
  obtain ⟨i, i1, i2, _, i3⟩ := ix_is hy
  obtain ⟨j, j1, j2, _, j3⟩ := ix_is hz
  have := numB_inj h
  rw [i1, j1] at this
  simp only [Int.toNat_natCast] at this
  subst this
  exact i3.symm.trans j3
theorem rn_ix {vs : List ByteArray} {z : ByteArray} (hz : 0 ≤ ixOf vs z) : ixOf (rnVs vs) (rnV vs z) = ixOf vs z := by
  obtain ⟨j, j1, j2, jf, j3⟩ := ix_is hz
  have hl : (rnVs vs).length = vs.length := by simp [rnVs]
  have hf : (rnVs vs).findIdx (· == rnV vs z) = j := by
    rw [List.findIdx_eq (by rw [hl]; exact j2)]
    refine ⟨by rw [ba_beq]; simp [rnVs, j3], fun i hi => ?_⟩
    have hiv : i < vs.length := by omega
    have hne : (vs[i] == z) = false := by
      have := List.not_of_lt_findIdx (p := (· == z)) (xs := vs) (i := i) (by rw [jf]; exact hi)
      simpa using this
    cases hb : ((rnVs vs)[i]'(by omega) == rnV vs z) with
    | false => rfl
    | true =>
      rw [ba_beq] at hb
      have he : (rnVs vs)[i]'(by omega) = rnV vs vs[i] := by simp [rnVs]
      rw [he] at hb
      have := rnV_inj (ix_mem hiv) hz hb
      rw [this] at hne
      rw [(show (z == z) = true by rw [ba_beq])] at hne
      cases hne
  rw [j1]
  unfold ixOf
  rw [hf, hl, if_pos j2]
theorem rnT_len (vs : List ByteArray) (t : List Nd) : (rnT vs t).length = t.length := by simp [rnT]
theorem rnN_0 (vs : List ByteArray) : rnN vs nd0 = nd0 := rfl
theorem rnT_get (vs : List ByteArray) (t : List Nd) (i : Nat) : (rnT vs t).getD i nd0 = rnN vs (t.getD i nd0) := by
  rw [List.getD_eq_getElem?_getD, rnT, List.getElem?_map, List.getD_eq_getElem?_getD]
  cases t[i]? with
  | none => rfl
  | some x => rfl
theorem par_rn (vs : List ByteArray) (t : List Nd) (j : Nat) : parT (rnT vs t) j = parT t j := by
  unfold parT
  rw [rnT_len]
  congr 1
  funext i
  rw [rnT_get]
  rfl
theorem pos_rn (vs : List ByteArray) (t : List Nd) : ∀ k, posT (rnT vs t) k = posT t k
  | 0 => rfl
  | k + 1 => by simp only [posT, pos_rn vs t k, par_rn]
theorem lay_rn (vs : List ByteArray) (t : List Nd) (f g : Nat → Ins) : ∀ k, layT (rnT vs t) f g k = layT t f g k
  | 0 => rfl
  | k + 1 => by simp only [layT, lay_rn vs t f g k, par_rn]
theorem names_rn (vs : List ByteArray) (t : List Nd) : ∀ k, namesTo (rnT vs t) k = namesTo t k
  | 0 => rfl
  | k + 1 => by
    simp only [namesTo, names_rn vs t k, rnT_get]
    rfl
theorem namesOf_rn (vs : List ByteArray) (t : List Nd) : namesOf (rnT vs t) = namesOf t := by
  unfold namesOf
  rw [rnT_len, names_rn]
section
variable {vs : List ByteArray} {t : List Nd}
/-- A node of a tree that runs: its name is an item's where it mentions one, else empty. -/
def nameOk (vs : List ByteArray) (x : Nd) : Prop := if 4 ≤ x.op ∧ x.op ≤ 11 then 0 ≤ ixOf vs x.var ∧ emB x.var = false else emB x.var = true
theorem fields_name {x : Nd} (h : fieldsB x = true) (h2 : nodeOk vs t x = true) : nameOk vs x := by
  unfold fieldsB at h
  simp only [Bool.and_eq_true] at h
  have h3 := h.1.2
  unfold nameOk
  by_cases hm : 4 ≤ x.op ∧ x.op ≤ 11
  · rw [if_pos hm] at h3 ⊢
    unfold nodeOk at h2
    rw [if_neg (by omega), if_pos hm.2] at h2
    refine ⟨by simpa using h2, ?_⟩
    cases he : emB x.var with
    | false => rfl
    | true =>
      unfold emB at he
      rw [ba_beq] at he
      rw [he] at h3
      exact absurd h3 (by decide +kernel)
  · rw [if_neg hm] at h3 ⊢
    exact h3
theorem item_rn {x : Nd} (h : nameOk vs x) : itemV (rnVs vs) (rnN vs x) = itemV vs x := by
  unfold itemV
  by_cases hm : 4 ≤ x.op ∧ x.op ≤ 11
  · unfold nameOk at h
    rw [if_pos hm] at h
    rw [if_pos hm, if_pos (show 4 ≤ (rnN vs x).op ∧ (rnN vs x).op ≤ 11 from hm)]
    have hv : (rnN vs x).var = rnV vs x.var := by unfold rnN; simp only [h.2, Bool.false_eq_true, if_false]
    rw [hv, rn_ix h.1]
  · rw [if_neg hm, if_neg (show ¬ (4 ≤ (rnN vs x).op ∧ (rnN vs x).op ≤ 11) from hm)]
theorem fields_rn {x : Nd} (hl : vs.length ≤ 1000) (h : nameOk vs x) (hf : fieldsB x = true) : fieldsB (rnN vs x) = true := by
  unfold fieldsB at hf ⊢
  unfold nameOk at h
  simp only [Bool.and_eq_true] at hf ⊢
  obtain ⟨⟨h1, h2⟩, h3⟩ := hf
  refine ⟨⟨h1, ?_⟩, h3⟩
  by_cases hm : 4 ≤ x.op ∧ x.op ≤ 11
  · rw [if_pos hm] at h
    rw [if_pos (show 4 ≤ (rnN vs x).op ∧ (rnN vs x).op ≤ 11 from hm)]
    have hv : (rnN vs x).var = rnV vs x.var := by unfold rnN; simp only [h.2, Bool.false_eq_true, if_false]
    rw [hv]
    obtain ⟨j, j1, j2, _⟩ := ix_is h.1
    unfold rnV
    rw [j1]
    exact isName_num (by simp only [Int.toNat_natCast]; omega)
  · rw [if_neg hm] at h
    rw [if_neg (show ¬ (4 ≤ (rnN vs x).op ∧ (rnN vs x).op ≤ 11) from hm)]
    have hv : (rnN vs x).var = x.var := by unfold rnN; simp only [h, if_true]
    rw [hv]; exact h
theorem step_fields {o o' : List Int} {x : Nd} {i : Nat} (h : treeStep o x i = some o') : fieldsB x = true := by
  unfold treeStep at h
  split at h
  · cases h
  · rename_i hn
    cases hf : fieldsB x with
    | true => rfl
    | false => exact absurd (.inr (.inr hf)) hn
theorem step_rn {o : List Int} {x : Nd} {i : Nat} (hl : vs.length ≤ 1000) (h : nameOk vs x) (hf : fieldsB x = true) : treeStep o (rnN vs x) i = treeStep o x i := by
  unfold treeStep
  rw [fields_rn hl h hf, hf]
  rfl
theorem open_rn (hl : vs.length ≤ 1000) (hok : ∀ x ∈ t, nodeOk vs t x = true) : ∀ j, j ≤ t.length → ∀ o, openTo t j = some o → openTo (rnT vs t) j = some o ∧ ∀ i (hi : i < j), nameOk vs (t.getD i nd0)
  | 0, _, o, h => ⟨h, fun i hi => by omega⟩
  | j + 1, hj, o, h => by
    simp only [openTo, Option.bind_eq_some_iff] at h ⊢
    obtain ⟨o', h1, h2⟩ := h
    obtain ⟨k1, k2⟩ := open_rn hl hok j (by omega) o' h1
    have hf := step_fields h2
    have hg : t.getD j nd0 = t[j]'(by omega) := getD_at (by omega)
    have hn : nameOk vs (t.getD j nd0) := fields_name hf (by rw [hg]; exact hok _ (List.getElem_mem _))
    refine ⟨⟨o', k1, by rw [rnT_get, step_rn hl hn hf]; exact h2⟩, fun i hi => ?_⟩
    by_cases e : i = j
    · subst e; exact hn
    · exact k2 i (by omega)
theorem run_all_ok (h : runT vs t = true) : ∀ x ∈ t, nodeOk vs t x = true := by
  simp only [runT, Bool.and_eq_true] at h
  have := h.2
  unfold okTo at this
  rw [List.take_length, List.all_eq_true] at this
  exact this
theorem run_names (hl : vs.length ≤ 1000) (h : runT vs t = true) : tree1 (rnT vs t) = true ∧ ∀ x ∈ t, nameOk vs x := by
  have hok := run_all_ok h
  simp only [runT, Bool.and_eq_true] at h
  have h1 := h.1
  unfold tree1 at h1 ⊢
  rw [rnT_len]
  cases ho : openTo t t.length with
  | none => rw [ho] at h1; cases h1
  | some o =>
    obtain ⟨k1, k2⟩ := open_rn hl hok t.length (Nat.le_refl _) o ho
    rw [ho] at h1
    rw [k1]
    refine ⟨h1, fun x hx => ?_⟩
    obtain ⟨i, hi, rfl⟩ := List.getElem_of_mem hx
    have := k2 i hi
    rwa [getD_at hi] at this
theorem node_rn {x : Nd} (hn : nameOk vs x) (h : nodeOk vs t x = true) : nodeOk (rnVs vs) (rnT vs t) (rnN vs x) = true := by
  unfold nodeOk at h ⊢
  by_cases h4 : x.op < 4
  · rw [if_pos (show (rnN vs x).op < 4 from h4)]
  · rw [if_neg h4] at h
    rw [if_neg (show ¬ (rnN vs x).op < 4 from h4)]
    by_cases h11 : x.op ≤ 11
    · rw [if_pos h11] at h
      rw [if_pos (show (rnN vs x).op ≤ 11 from h11)]
      have hm : 4 ≤ x.op ∧ x.op ≤ 11 := ⟨by omega, h11⟩
      unfold nameOk at hn
      rw [if_pos hm] at hn
      have hv : (rnN vs x).var = rnV vs x.var := by unfold rnN; simp only [hn.2, Bool.false_eq_true, if_false]
      rw [hv, rn_ix hn.1]
      exact h
    · rw [if_neg h11] at h
      rw [if_neg (show ¬ (rnN vs x).op ≤ 11 from h11)]
      rw [rnT_get, rnT_get]
      exact h
theorem run_rn (hl : vs.length ≤ 1000) (h : runT vs t = true) : runT (rnVs vs) (rnT vs t) = true := by
  obtain ⟨h1, h2⟩ := run_names hl h
  have hok := run_all_ok h
  simp only [runT, Bool.and_eq_true]
  refine ⟨h1, ?_⟩
  unfold okTo
  rw [List.take_length, List.all_eq_true]
  intro x hx
  simp only [rnT, List.mem_map] at hx
  obtain ⟨y, hy, rfl⟩ := hx
  exact node_rn (h2 y hy) (hok y hy)
theorem items_rn (hl : vs.length ≤ 1000) (h : runT vs t = true) (i : Nat) : itemV (rnVs vs) (rnN vs (t.getD i nd0)) = itemV vs (t.getD i nd0) := by
  obtain ⟨_, h2⟩ := run_names hl h
  by_cases hi : i < t.length
  · rw [getD_at hi]
    exact item_rn (h2 _ (List.getElem_mem hi))
  · rw [List.getD_eq_getElem?_getD, List.getElem?_eq_none (by omega)]
    rfl
theorem comp_rn {sc : List Ty} (hl : vs.length ≤ 1000) (h : runT vs t = true) : compP sc (rnVs vs) (rnT vs t) = compP sc vs t := by
  unfold compP
  rw [if_pos h, if_pos (run_rn hl h), namesOf_rn]
  congr 1
  unfold codeT
  rw [rnT_len, lay_rn]
  have e1 : ownT (rnVs vs) (rnT vs t) = ownT vs t := by
    funext j
    unfold ownT
    rw [namesOf_rn, rnT_get, items_rn hl h]
    rfl
  have e2 : jmpT (rnT vs t) (fun p => posT (rnT vs t) p + 1) = jmpT t fun p => posT t p + 1 := by
    funext j
    unfold jmpT
    rw [par_rn]
    cases parT t j with
    | none => rfl
    | some p =>
      simp only [rnT_get, pos_rn]
      rfl
  rw [e1, e2]
theorem eval_rn {sc : List Ty} {en : En} (hl : vs.length ≤ 1000) (h : runT vs t = true) : evalV sc (rnVs vs) en (rnT vs t) = evalV sc vs en t := by
  obtain ⟨_, h2⟩ := run_names hl h
  unfold evalV
  rw [if_pos h, if_pos (run_rn hl h), rnT_len]
  have hits : (rnT vs t).map (itemV (rnVs vs)) = t.map (itemV vs) := by
    unfold rnT
    rw [List.map_map]
    exact List.map_congr_left fun x hx => item_rn (h2 x hx)
  rw [hits]
  have key : ∀ j, valsTo sc (t.map (itemV vs)) en (rnT vs t) j = valsTo sc (t.map (itemV vs)) en t j := by
    intro j
    induction j with
    | zero => rfl
    | succ j ih =>
      simp only [valsTo, ih, rnT_get]
      rfl
  unfold valAt
  rw [key]
end
end Go.Proofs.YtkfphaphiikloaaDoor
