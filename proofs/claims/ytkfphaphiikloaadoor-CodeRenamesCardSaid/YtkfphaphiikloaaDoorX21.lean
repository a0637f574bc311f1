/-
  TREES, PART G: what the document calls a tree is what show.Tree does.
-/
import Derived.Test.YtkfphaphiikloaaDoorX20
set_option linter.unusedSimpArgs false
set_option linter.unusedVariables false
set_option linter.constructorNameAsVariable false
namespace Go.Proofs.YtkfphaphiikloaaDoor
open Go Go.Eng

def beginStep (l : List Int) (x : Nd) (i : Nat) : Option (List Int) :=
  if leafB x = true then some (l ++ [(i : Int)])
  else if x.op = 12 ∨ x.op = 13 then
    if bareB x = false ∨ i < 1 ∨ x.a ≠ (i : Int) - 1 ∨ x.b ≠ -1 then none else some (l ++ [l.getD (i - 1) 0])
  else if 14 ≤ x.op ∧ x.op ≤ 26 then
    if bareB x = false ∨ i < 1 ∨ x.b ≠ (i : Int) - 1 ∨ l.getD (i - 1) 0 < 1 ∨ x.a ≠ l.getD (i - 1) 0 - 1 then none else some (l ++ [l.getD x.a.toNat 0])
  else none
def beginTo (t : List Nd) : Nat → Option (List Int)
  | 0 => some []
  | j + 1 => (beginTo t j).bind fun l => beginStep l (t.getD j nd0) j
def tree2 (t : List Nd) : Bool := match beginTo t t.length with
  | some l => decide (0 < t.length) && decide (l.getD (t.length - 1) 0 = 0)
  | none => false
inductive StR (l : List Int) : Nat → List Int → Prop
  | nil : StR l 0 []
  | cons {e b : Nat} {o : List Int} : l[e]? = some (b : Int) → b ≤ e → StR l b o → StR l (e + 1) (o ++ [(e : Int)])
theorem StR.grow {l : List Int} {e : Nat} {o : List Int} (h : StR l e o) (m : List Int) : StR (l ++ m) e o := by
  induction h with
  | nil => exact .nil
  | cons h1 h2 _ ih => exact .cons (by rw [List.getElem?_append_left (by rw [List.getElem?_eq_some_iff] at h1; exact h1.1)]; exact h1) h2 ih
theorem StR.zero {l o : List Int} (h : StR l 0 o) : o = [] := by
  generalize he : 0 = e at h
  cases h with
  | nil => rfl
  | cons => omega
theorem StR.succ {l o : List Int} {e : Nat} (h : StR l (e + 1) o) : ∃ (b : Nat) (p : List Int), o = p ++ [(e : Int)] ∧ l[e]? = some (b : Int) ∧ b ≤ e ∧ StR l b p := by
  generalize he : e + 1 = e' at h
  cases h with
  | nil => omega
  | cons h1 h2 h3 =>
    obtain rfl := Nat.succ.inj he
    exact ⟨_, _, rfl, h1, h2, h3⟩
theorem leaf_fields (x : Nd) : leafB x = (decide (arity x.op = 0) && fieldsB x && decide (x.a = -1) && decide (x.b = -1)) := by
  obtain ⟨op, n, var, attr, a, b⟩ := x
  by_cases h1 : op = 1
  · subst h1
    simp [leafB, fieldsB, arity, emB]
    grind
  by_cases h2 : op = 2
  · subst h2
    simp [leafB, fieldsB, arity, emB, bareB]
    grind
  by_cases h3 : op = 3
  · subst h3
    simp [leafB, fieldsB, arity, emB, bareB]
    grind
  by_cases h5 : op = 5
  · subst h5
    simp [leafB, fieldsB, arity, emB, bareB]
    grind
  by_cases h4 : 4 ≤ op ∧ op ≤ 11
  · have h6 : 1 ≤ op ∧ op ≤ 11 := by omega
    simp [leafB, fieldsB, arity, h1, h2, h3, h4, h5, h6]
    grind
  · have h6 : ¬ (1 ≤ op ∧ op ≤ 11) := by omega
    simp only [leafB, fieldsB, arity, h1, h2, h3, h4, h5, h6]
    simp
    split <;> (try split) <;> simp
theorem bare_fields (x : Nd) (h : 12 ≤ x.op) : fieldsB x = bareB x := by
  obtain ⟨op, n, var, attr, a, b⟩ := x
  simp only [] at h
  have h1 : ¬ op = 1 := by omega
  have h2 : ¬ op ≤ 11 := by omega
  simp [fieldsB, bareB, h1, h2]
theorem step_same {l o : List Int} {j : Nat} (x : Nd) (hl : l.length = j) (hs : StR l j o) : (treeStep o x j = none ∧ beginStep l x j = none) ∨ ∃ o' l', treeStep o x j = some o' ∧ beginStep l x j = some l' ∧ l'.length = j + 1 ∧ StR l' (j + 1) o' := by
  have hlf := leaf_fields x
  have hbf := bare_fields x
  have hlast : ∀ z : Int, (l ++ [z])[j]? = some z := fun z => by rw [List.getElem?_append_right (by omega), hl, Nat.sub_self]; rfl
  rcases arity_is x.op with har | har | har | har
  · have h1 : ¬ (x.op = 12 ∨ x.op = 13) := fun h => by unfold arity at har; grind
    have h2 : ¬ (14 ≤ x.op ∧ x.op ≤ 26) := fun h => by unfold arity at har; grind
    refine .inl ⟨by simp [treeStep, har], ?_⟩
    rw [har] at hlf
    simp only [beginStep, hlf, h1, h2, if_false]
    simp
  · have h1 : ¬ (x.op = 12 ∨ x.op = 13) := fun h => by unfold arity at har; grind
    have h2 : ¬ (14 ≤ x.op ∧ x.op ≤ 26) := fun h => by unfold arity at har; grind
    have hA : opA o 0 = -1 := by simp [opA]
    have hB : opB o 0 = -1 := by simp [opB]
    rw [har] at hlf
    simp only [decide_true, Bool.true_and] at hlf
    by_cases hf : leafB x = true
    · rw [hf] at hlf
      have hlf' := hlf.symm
      simp only [Bool.and_eq_true, decide_eq_true_eq] at hlf'
      obtain ⟨⟨f1, f2⟩, f3⟩ := hlf'
      refine .inr ⟨o ++ [(j : Int)], l ++ [(j : Int)], ?_, by simp only [beginStep, hf, if_true], by simp [hl], .cons (hlast _) (Nat.le_refl _) (hs.grow _)⟩
      have h3 : ¬ ((0 : Int) > o.length) := by omega
      simp [treeStep, har, f1, f2, f3, hA, hB, h3]
    · have hf' : leafB x = false := by simpa using hf
      refine .inl ⟨?_, by simp [beginStep, hf', h1, h2]⟩
      rw [hf'] at hlf
      have hlf' := hlf.symm
      simp only [Bool.and_eq_false_iff, decide_eq_false_iff_not] at hlf'
      simp only [treeStep, har, hA, hB]
      grind
  · have h1 : x.op = 12 ∨ x.op = 13 := by unfold arity at har; grind
    have hnl : leafB x = false := by rw [hlf, har]; simp
    have hb := hbf (by omega)
    cases j with
    | zero =>
      have := hs.zero
      subst this
      exact .inl ⟨by simp [treeStep, har], by simp [beginStep, hnl, h1]⟩
    | succ e =>
      obtain ⟨b, p, rfl, hb1, hb2, hb3⟩ := hs.succ
      have hA : opA (p ++ [(e : Int)]) 1 = e := by simp [opA]
      have hB : opB (p ++ [(e : Int)]) 1 = -1 := by simp [opB]
      have hg : l.getD e 0 = b := by rw [List.getD_eq_getElem?_getD, hb1]; rfl
      have h3 : ¬ ((1 : Int) > ((p ++ [(e : Int)]).length : Nat)) := by simp; omega
      have h4 : ((e + 1 : Nat) : Int) - 1 = e := by omega
      have h5 : ¬ e + 1 < 1 := by omega
      by_cases hok : bareB x = true ∧ x.a = e ∧ x.b = -1
      · obtain ⟨k1, k2, k3⟩ := hok
        refine .inr ⟨p ++ [((e + 1 : Nat) : Int)], l ++ [(b : Int)], ?_, ?_, by simp [hl], .cons (hlast _) (by omega) (hb3.grow _)⟩
        · simp [treeStep, har, hb, k1, k2, k3, hA, hB]
          omega
        · simp only [beginStep, hnl, h1, if_true, k1, k2, k3, h4, h5, Nat.add_sub_cancel, hg]
          simp
      · refine .inl ⟨?_, ?_⟩
        · simp only [treeStep, har, hb, hA, hB, h3]
          cases hbb : bareB x <;> grind
        · simp only [beginStep, hnl, h1, if_true, h4, h5]
          cases hbb : bareB x <;> grind
  · have h1 : 14 ≤ x.op ∧ x.op ≤ 26 := by unfold arity at har; grind
    have h0 : ¬ (x.op = 12 ∨ x.op = 13) := by omega
    have hnl : leafB x = false := by rw [hlf, har]; simp
    have hb := hbf (by omega)
    cases j with
    | zero =>
      have := hs.zero
      subst this
      exact .inl ⟨by simp [treeStep, har], by simp [beginStep, hnl, h0, h1]⟩
    | succ e =>
      obtain ⟨b, p, rfl, hb1, hb2, hb3⟩ := hs.succ
      have hg : l.getD e 0 = b := by rw [List.getD_eq_getElem?_getD, hb1]; rfl
      have h4 : ((e + 1 : Nat) : Int) - 1 = e := by omega
      have h5 : ¬ e + 1 < 1 := by omega
      cases b with
      | zero =>
        have := hb3.zero
        subst this
        exact .inl ⟨by simp [treeStep, har], by simp only [beginStep, hnl, h0, h1, Nat.add_sub_cancel, hg]; simp⟩
      | succ c =>
        obtain ⟨d, q, rfl, hd1, hd2, hd3⟩ := hb3.succ
        have hA : opA (q ++ [(c : Int)] ++ [(e : Int)]) 2 = c := by simp [opA]
        have hB : opB (q ++ [(c : Int)] ++ [(e : Int)]) 2 = e := by simp [opB]
        have hgd : l.getD c 0 = d := by rw [List.getD_eq_getElem?_getD, hd1]; rfl
        have h3 : ¬ ((2 : Int) > ((q ++ [(c : Int)] ++ [(e : Int)]).length : Nat)) := by simp; omega
        have h6 : ((c + 1 : Nat) : Int) - 1 = c := by omega
        have h7 : ¬ ((c + 1 : Nat) : Int) < 1 := by omega
        by_cases hok : bareB x = true ∧ x.a = c ∧ x.b = e
        · obtain ⟨k1, k2, k3⟩ := hok
          refine .inr ⟨q ++ [((e + 1 : Nat) : Int)], l ++ [(d : Int)], ?_, ?_, by simp [hl], .cons (hlast _) (by omega) (hd3.grow _)⟩
          · have hA' : opA (q ++ [(c : Int), (e : Int)]) 2 = c := by simp [opA]
            have hB' : opB (q ++ [(c : Int), (e : Int)]) 2 = e := by simp [opB]
            simp [treeStep, har, hb, k1, k2, k3, hA', hB']
            omega
          · simp only [beginStep, hnl, h0, h1, k1, k2, k3, h4, h5, h6, h7, Nat.add_sub_cancel, hg, Int.toNat_natCast, hgd]
            simp
        · refine .inl ⟨?_, ?_⟩
          · simp only [treeStep, har, hb, hA, hB, h3]
            cases hbb : bareB x <;> grind
          · simp only [beginStep, hnl, h0, h1, h4, h5, Nat.add_sub_cancel, hg, h6, h7]
            cases hbb : bareB x <;> grind
theorem to_same (t : List Nd) : ∀ j, (openTo t j = none ∧ beginTo t j = none) ∨ ∃ o l, openTo t j = some o ∧ beginTo t j = some l ∧ l.length = j ∧ StR l j o
  | 0 => .inr ⟨[], [], rfl, rfl, rfl, .nil⟩
  | j + 1 => by
    rcases to_same t j with ⟨h1, h2⟩ | ⟨o, l, h1, h2, h3, h4⟩
    · exact .inl ⟨by simp only [openTo, h1, Option.bind_none], by simp only [beginTo, h2, Option.bind_none]⟩
    · rcases step_same (t.getD j nd0) h3 h4 with ⟨k1, k2⟩ | ⟨o', l', k1, k2, k3, k4⟩
      · exact .inl ⟨by simp only [openTo, h1, Option.bind_some, k1], by simp only [beginTo, h2, Option.bind_some, k2]⟩
      · exact .inr ⟨o', l', by simp only [openTo, h1, Option.bind_some, k1], by simp only [beginTo, h2, Option.bind_some, k2], k3, k4⟩
theorem tree_same (t : List Nd) : tree2 t = tree1 t := by
  unfold tree1 tree2
  rcases to_same t t.length with ⟨h1, h2⟩ | ⟨o, l, h1, h2, h3, h4⟩
  · rw [h1, h2]
  · rw [h1, h2]
    simp only []
    generalize t.length = e at *
    cases e with
    | zero => rw [h4.zero]; simp
    | succ e =>
      obtain ⟨b, p, rfl, hb1, hb2, hb3⟩ := h4.succ
      have hg : l.getD e 0 = b := by rw [List.getD_eq_getElem?_getD, hb1]; rfl
      rw [Nat.add_sub_cancel, hg]
      cases b with
      | zero => rw [hb3.zero]; simp
      | succ c =>
        obtain ⟨d, q, rfl, hd1, hd2, hd3⟩ := hb3.succ
        simp
        omega
/-- A node's operands stand below it. -/
structure KidOk (x : Nd) (i : Nat) : Prop where
  ar : 0 ≤ arity x.op
  fl : fieldsB x = true
  a1 : 1 ≤ arity x.op → 0 ≤ x.a ∧ x.a < i
  b2 : arity x.op = 2 → 0 ≤ x.b ∧ x.b < i
  b1 : arity x.op ≤ 1 → x.b = -1
  a0 : arity x.op = 0 → x.a = -1
theorem kid_step {o : List Int} {x : Nd} {i : Nat} {o' : List Int} (ho : ∀ y ∈ o, 0 ≤ y ∧ y < (i : Int)) (h : treeStep o x i = some o') : KidOk x i ∧ ∀ y ∈ o', 0 ≤ y ∧ y < ((i + 1 : Nat) : Int) := by
  have hm : ∀ k, k < o.length → 0 ≤ o.getD k 0 ∧ o.getD k 0 < (i : Int) := fun k hk => by
    rw [List.getD_eq_getElem?_getD, List.getElem?_eq_getElem hk]
    exact ho _ (List.getElem_mem hk)
  unfold treeStep at h
  split at h
  · cases h
  rename_i h1
  split at h
  · cases h
  rename_i h2
  cases h
  simp only [not_or, Decidable.not_not] at h1 h2
  obtain ⟨h1a, h1b, h1c⟩ := h1
  obtain ⟨h2a, h2b⟩ := h2
  refine ⟨⟨by omega, by simpa using h1c, fun h => ?_, fun h => ?_, fun h => ?_, fun h => ?_⟩, fun y hy => ?_⟩
  · rcases arity_is x.op with har | har | har | har
    · omega
    · omega
    · rw [h2a, har]
      simp only [opA, if_true]
      exact hm _ (by omega)
    · rw [h2a, har]
      simp only [opA]
      exact hm _ (by omega)
  · rw [h2b, h]
    simp only [opB, if_true]
    exact hm _ (by omega)
  · rw [h2b, opB, if_neg (by omega)]
  · rw [h2a, opA, if_neg (by omega), if_neg (by omega)]
  · rw [List.mem_append] at hy
    rcases hy with hy | hy
    · have := ho y (List.mem_of_mem_take hy); omega
    · simp at hy; omega
theorem kids_to {t : List Nd} : ∀ {j : Nat} {o : List Int}, j ≤ t.length → openTo t j = some o → (∀ y ∈ o, 0 ≤ y ∧ y < (j : Int)) ∧ ∀ i (hi : i < t.length), i < j → KidOk t[i] i
  | 0, o, _, h => by simp [openTo] at h; subst h; exact ⟨by simp, fun i _ hi => by omega⟩
  | j + 1, o, hj, h => by
    simp only [openTo, Option.bind_eq_some_iff] at h
    obtain ⟨p, h1, h2⟩ := h
    obtain ⟨i1, i2⟩ := kids_to (by omega) h1
    obtain ⟨k1, k2⟩ := kid_step i1 h2
    refine ⟨k2, fun i hi hij => ?_⟩
    by_cases e : i = j
    · subst e
      rw [List.getD_eq_getElem?_getD, List.getElem?_eq_getElem hi] at k1
      exact k1
    · exact i2 i hi (by omega)
theorem tree_kids {t : List Nd} (h : tree1 t = true) (i : Nat) (hi : i < t.length) : KidOk t[i] i := by
  unfold tree1 at h
  split at h
  · rename_i o ho
    exact (kids_to (Nat.le_refl _) ho).2 i hi hi
  · cases h
theorem tree_pos {t : List Nd} (h : tree1 t = true) : 0 < t.length := by
  cases t with
  | nil => simp [tree1, openTo] at h
  | cons => simp
end Go.Proofs.YtkfphaphiikloaaDoor

/-
  TREES, PART H: what a tree comes to: the plain law.
-/
namespace Go.Proofs.YtkfphaphiikloaaDoor
open Go Go.Eng

/-- The column of a name. -/
def colOf (sc : List Ty) (name : ByteArray) : List Int := (List.range sc.length).map fun (i : Nat) => attrOf sc (i : Int) name
theorem colOf_len (sc : List Ty) (name : ByteArray) : (colOf sc name).length = sc.length := by simp [colOf]
theorem attrOf_out {sc : List Ty} {ty : Int} {name : ByteArray} (h : ty < 0 ∨ (sc.length : Int) ≤ ty) : attrOf sc ty name = -1 := by rw [attrOf, if_pos h]
/-- To read by a name is to read by its column. -/
theorem one_col {sc : List Ty} {name : ByteArray} {l : List Ev} {j : Nat} (hj : j < l.length) : oneV l (j : Int) (colOf sc name) = valueV l[j] (attrOf sc l[j].ty name) := by
  rw [oneV_at hj]
  unfold evV placeOf
  by_cases h : l[j].ty < 0 ∨ (sc.length : Int) ≤ l[j].ty
  · rw [attrOf_out h]
    have hv : valueV l[j] (-1) = unk := by simp [valueV]
    rw [hv]
    rcases h with h | h
    · simp [h]
    · have h1 : ¬ l[j].ty < 0 := by omega
      have h2 : (colOf sc name)[l[j].ty.toNat]? = none := List.getElem?_eq_none (by rw [colOf_len]; omega)
      simp [h1, h2]
  · obtain ⟨t, ht⟩ : ∃ t : Nat, l[j].ty = t := ⟨l[j].ty.toNat, by omega⟩
    have h1 : ¬ l[j].ty < 0 := by omega
    have h2 : (colOf sc name)[t]? = some (attrOf sc t name) := by
      rw [colOf, List.getElem?_map, List.getElem?_range (by omega)]; rfl
    have h3 : ¬ (t : Int) < 0 := by omega
    simp [ht, h2, h3]
theorem one_low {l : List Ev} {i : Int} (c : List Int) (h : i < 0) : oneV l i c = unk := by unfold oneV; rw [if_pos h]
theorem one_high {l : List Ev} {i : Int} (c : List Int) (h : (l.length : Int) ≤ i) : oneV l i c = unk := by
  unfold oneV
  rw [if_neg (by omega), List.getElem?_eq_none (by omega)]

def codeM (o : Int) : Int := if o = 5 then 4 else if o = 11 then 3 else if o = 4 then 2 else o - 1
def nodeV (sc : List Ty) (it : Int) (en : En) (x : Nd) (va vb : V) : V :=
  if x.op = 1 then knownV x.n else if x.op = 2 then knownV 1 else if x.op = 3 then knownV 0
  else if x.op ≤ 11 then mentionV ⟨codeM x.op, it, 0, 0, 0⟩ (colOf sc x.attr) en
  else if x.op = 12 then negL va else if x.op = 13 then notV va else applyL x.op va vb
def getV (l : List V) (i : Int) : V := l.getD i.toNat unk
/-- The values of the first j nodes. -/
def valsTo (sc : List Ty) (its : List Int) (en : En) (t : List Nd) : Nat → List V
  | 0 => []
  | j + 1 => valsTo sc its en t j ++ [nodeV sc (its.getD j 0) en (t.getD j nd0) (getV (valsTo sc its en t j) (t.getD j nd0).a) (getV (valsTo sc its en t j) (t.getD j nd0).b)]
section
variable {sc : List Ty} {its : List Int} {en : En} {t : List Nd}
theorem vals_len : ∀ j, (valsTo sc its en t j).length = j
  | 0 => rfl
  | j + 1 => by simp only [valsTo, List.length_append, vals_len j, List.length_cons, List.length_nil]
theorem vals_get {i : Nat} : ∀ {j : Nat}, i < j → (valsTo sc its en t j).getD i unk = (valsTo sc its en t (i + 1)).getD i unk
  | 0, h => by omega
  | j + 1, h => by
    by_cases e : i = j
    · subst e; rfl
    · have hl : i < (valsTo sc its en t j).length := by rw [vals_len]; omega
      rw [← vals_get (j := j) (by omega)]
      simp only [valsTo, List.getD_eq_getElem?_getD, List.getElem?_append_left hl]
end
/-- The value of the node i. -/
def valAt (sc : List Ty) (its : List Int) (en : En) (t : List Nd) (i : Nat) : V := (valsTo sc its en t (i + 1)).getD i unk
theorem valAt_eq {sc : List Ty} {its : List Int} {en : En} {t : List Nd} {i : Nat} (hi : i < t.length) : valAt sc its en t i = nodeV sc (its.getD i 0) en t[i] (getV (valsTo sc its en t i) t[i].a) (getV (valsTo sc its en t i) t[i].b) := by
  have hg : t.getD i nd0 = t[i] := by rw [List.getD_eq_getElem?_getD, List.getElem?_eq_getElem hi]; rfl
  unfold valAt
  simp only [valsTo, hg]
  have hl := vals_len (sc := sc) (its := its) (en := en) (t := t) i
  generalize valsTo sc its en t i = l at *
  rw [List.getD_eq_getElem?_getD, List.getElem?_append_right (by omega), hl, Nat.sub_self]
  rfl
theorem get_val {sc : List Ty} {its : List Int} {en : En} {t : List Nd} {i : Nat} {a : Int} (h0 : 0 ≤ a) (h1 : a < i) : getV (valsTo sc its en t i) a = valAt sc its en t a.toNat := by
  unfold getV valAt
  exact vals_get (by omega)
/-- All is in range. -/
theorem node_rng {sc : List Ty} {it : Int} {en : En} (he : EnOk en) {x : Nd} (hx : Rng x.n) {va vb : V} (ha : Rng va.n) (hb : Rng vb.n) : Rng (nodeV sc it en x va vb).n := by
  unfold nodeV
  split
  · exact hx
  split
  · simp [knownV, Rng]
  split
  · simp [knownV, Rng]
  split
  · exact mention_rng (he.evAt _) (he.lenAt _)
  split
  · exact neg_rng ha
  split
  · exact not_rng _
  · exact apply_rng _ ha hb
theorem getV_rng {l : List V} (h : ∀ v ∈ l, Rng v.n) (i : Int) : Rng (getV l i).n := by
  unfold getV
  rw [List.getD_eq_getElem?_getD]
  cases e : l[i.toNat]? with
  | none => exact unk_rng
  | some v => exact h v (List.mem_of_getElem? e)
theorem vals_rng {sc : List Ty} {its : List Int} {en : En} (he : EnOk en) {t : List Nd} (ht : ∀ x ∈ t, Rng x.n) : ∀ j, ∀ v ∈ valsTo sc its en t j, Rng v.n
  | 0, v, h => by simp [valsTo] at h
  | j + 1, v, h => by
    have ih := vals_rng (sc := sc) (its := its) he ht j
    simp only [valsTo, List.mem_append, List.mem_cons, List.not_mem_nil, or_false] at h
    rcases h with h | h
    · exact ih v h
    · subst h
      refine node_rng he ?_ (getV_rng ih _) (getV_rng ih _)
      rw [List.getD_eq_getElem?_getD]
      cases e : t[j]? with
      | none => simp [nd0, Rng]
      | some x => exact ht x (List.mem_of_getElem? e)

/-! ### runnable -/
def wantsT (o : Int) : Bool := decide (o = 13 ∨ o = 25 ∨ o = 26)
def nodeOk (vs : List ByteArray) (t : List Nd) (x : Nd) : Bool :=
  if x.op < 4 then true
  else if x.op ≤ 11 then decide (0 ≤ ixOf vs x.var)
  else (truthO (t.getD x.a.toNat nd0).op == wantsT x.op) && (decide (x.b < 0) || (truthO (t.getD x.b.toNat nd0).op == wantsT x.op))
def okTo (vs : List ByteArray) (t : List Nd) (j : Nat) : Bool := (t.take j).all (nodeOk vs t)
def runT (vs : List ByteArray) (t : List Nd) : Bool := tree1 t && okTo vs t t.length
theorem okTo_succ {vs : List ByteArray} {t : List Nd} {j : Nat} (hj : j < t.length) : okTo vs t (j + 1) = (okTo vs t j && nodeOk vs t t[j]) := by
  unfold okTo
  rw [List.take_add_one, List.getElem?_eq_getElem hj, List.all_append, Option.toList_some]
  simp
theorem okTo_no {vs : List ByteArray} {t : List Nd} {j : Nat} (hj : j < t.length) (h : nodeOk vs t t[j] = false) : okTo vs t t.length = false := by
  unfold okTo
  rw [List.take_length, List.all_eq_false]
  exact ⟨t[j], List.getElem_mem hj, by rw [h]; simp⟩
def itemV (vs : List ByteArray) (x : Nd) : Int := if 4 ≤ x.op ∧ x.op ≤ 11 then ixOf vs x.var else 0
def evalV (sc : List Ty) (vs : List ByteArray) (en : En) (t : List Nd) : V := if runT vs t = true then valAt sc (t.map (itemV vs)) en t (t.length - 1) else unk
end Go.Proofs.YtkfphaphiikloaaDoor
