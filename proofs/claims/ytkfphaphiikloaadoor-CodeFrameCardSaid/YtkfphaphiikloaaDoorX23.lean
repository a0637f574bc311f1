/-
  COMPILING, PART G: what a program is; names, jumps.
-/
import Derived.Test.YtkfphaphiikloaaDoorX21
import Derived.Test.YtkfphaphiikloaaDoorX22
import Derived.Test.YtkfphaphiikloaaDoorX19
set_option linter.unusedSimpArgs false
set_option linter.unusedVariables false
set_option linter.constructorNameAsVariable false
namespace Go.Proofs.YtkfphaphiikloaaDoor
open Go Go.Eng

def namesTo (t : List Nd) : Nat → List ByteArray
  | 0 => []
  | k + 1 => addX (namesTo t k) (t.getD k nd0)
def namesOf (t : List Nd) : List ByteArray := namesTo t t.length
theorem ix_app {l : List ByteArray} {z : ByteArray} (m : List ByteArray) (h : l.findIdx (· == z) < l.length) : ixOf (l ++ m) z = ixOf l z ∧ (l ++ m).findIdx (· == z) < (l ++ m).length := by
  have hf : (l ++ m).findIdx (· == z) = l.findIdx (· == z) := by rw [List.findIdx_append, if_pos h]
  have h2 : l.findIdx (· == z) < (l ++ m).length := by rw [List.length_append]; omega
  unfold ixOf
  rw [hf, if_pos h, if_pos h2]
  exact ⟨rfl, h2⟩
theorem add_has (l : List ByteArray) (z : ByteArray) : (addN l z).findIdx (· == z) < (addN l z).length := by
  unfold addN
  split
  · assumption
  · exact List.findIdx_lt_length_of_exists ⟨z, by simp, by rw [ba_beq]⟩
theorem addX_app (l : List ByteArray) (x : Nd) : ∃ m, addX l x = l ++ m := by
  unfold addX addN
  split
  · split
    · exact ⟨[], by simp⟩
    · exact ⟨_, rfl⟩
  · exact ⟨[], by simp⟩
theorem names_app (t : List Nd) (k : Nat) : ∀ d, ∃ m, namesTo t (k + d) = namesTo t k ++ m
  | 0 => ⟨[], by simp⟩
  | d + 1 => by
    obtain ⟨m, h⟩ := names_app t k d
    obtain ⟨m', h'⟩ := addX_app (namesTo t (k + d)) (t.getD (k + d) nd0)
    exact ⟨m ++ m', by show namesTo t (k + d + 1) = _; rw [namesTo, h', h, List.append_assoc]⟩
/-- A node's own instruction. -/
def ownT (vs : List ByteArray) (t : List Nd) (j : Nat) : Ins := ownI (namesOf t) (itemV vs (t.getD j nd0)) (t.getD j nd0)
theorem own_stable {vs : List ByteArray} {t : List Nd} {k : Nat} (hk : k < t.length) (h1 : 1 ≤ (t.getD k nd0).op) : ownI (namesTo t (k + 1)) (itemV vs (t.getD k nd0)) (t.getD k nd0) = ownT vs t k := by
  obtain ⟨m, hm⟩ := names_app t (k + 1) (t.length - (k + 1))
  rw [show k + 1 + (t.length - (k + 1)) = t.length by omega] at hm
  unfold ownT namesOf
  rw [hm]
  generalize hx : t.getD k nd0 = x at *
  have key : 4 ≤ x.op ∧ x.op ≤ 11 ∧ x.op ≠ 5 → ixOf (namesTo t (k + 1) ++ m) x.attr = ixOf (namesTo t (k + 1)) x.attr := fun h => by
    have : namesTo t (k + 1) = addN (namesTo t k) x.attr := by rw [namesTo, hx, addX, if_pos h]
    exact (ix_app m (by rw [this]; exact add_has _ _)).1
  unfold ownI
  by_cases h4 : 4 ≤ x.op ∧ x.op ≤ 11 ∧ x.op ≠ 5
  · rw [key h4]
  · repeat' (first | rfl | split)
    all_goals (exfalso; omega)
theorem ix_bound (l : List ByteArray) (z : ByteArray) : -1 ≤ ixOf l z ∧ ixOf l z < (l.length : Int) + 1 := by
  unfold ixOf
  split <;> omega
theorem names_len (t : List Nd) : ∀ k, (namesTo t k).length ≤ k
  | 0 => Nat.le_refl _
  | k + 1 => by
    have := names_len t k
    simp only [namesTo, addX, addN]
    split
    · split
      · omega
      · simp; omega
    · omega
/-- The jump behind the node j, if there is one. -/
def jmpT (t : List Nd) (to : Nat → Nat) (j : Nat) : Ins := match parT t j with
  | some p => ⟨(t.getD p nd0).op, 0, 0, 0, to p⟩
  | none => zI
def toP (t : List Nd) (i p : Nat) : Nat := if p < i then posT t p + 1 else 0
def codeT (vs : List ByteArray) (t : List Nd) : List Ins := layT t (ownT vs t) (jmpT t fun p => posT t p + 1) t.length
def compP (sc : List Ty) (vs : List ByteArray) (t : List Nd) : Pr := if runT vs t = true then ⟨codeT vs t, (namesOf t).map (colOf sc)⟩ else ⟨[], []⟩
/-- Which jump follows each node, after k nodes. -/
def bhT (t : List Nd) (k j : Nat) : Int := match parT t j with
  | some p => if p < k then (t.getD p nd0).op else 0
  | none => 0
def bhL (t : List Nd) (k : Nat) : List Int := (List.range t.length).map (bhT t k)
/-- Where each jump stands, after i nodes. -/
def jpL (t : List Nd) (i : Nat) : List Int := (List.range t.length).map fun j => if j < i ∧ (parT t j).isSome = true then (posT t j : Int) + 1 else 0
theorem getD_at {t : List Nd} {i : Nat} (hi : i < t.length) : t.getD i nd0 = t[i] := by rw [List.getD_eq_getElem?_getD, List.getElem?_eq_getElem hi]; rfl
section
variable {t : List Nd}
theorem bhL_len (k : Nat) : (bhL t k).length = t.length := by simp [bhL]
theorem jpL_len (k : Nat) : (jpL t k).length = t.length := by simp [jpL]
theorem bhL_zero : bhL t 0 = List.replicate t.length 0 := by
  refine List.eq_replicate_iff.2 ⟨bhL_len 0, fun b hb => ?_⟩
  obtain ⟨j, _, rfl⟩ := List.mem_map.1 hb
  unfold bhT
  split
  · rw [if_neg (by omega)]
  · rfl
theorem jpL_zero : jpL t 0 = List.replicate t.length 0 := by
  refine List.eq_replicate_iff.2 ⟨jpL_len 0, fun b hb => ?_⟩
  obtain ⟨j, _, rfl⟩ := List.mem_map.1 hb
  rw [if_neg (by omega)]
theorem bh_end (j : Nat) : bhT t t.length j = match parT t j with
    | some p => (t.getD p nd0).op
    | none => 0 := by
  unfold bhT
  cases h : parT t j with
  | none => rfl
  | some p => simp only; rw [if_pos (par_is h).1]
theorem bhL_at {j : Nat} (hj : j < t.length) (k : Nat) : (bhL t k)[j]? = some (bhT t k j) := by
  rw [bhL, List.getElem?_map, List.getElem?_range hj]; rfl
theorem jpL_at {j : Nat} (hj : j < t.length) (k : Nat) : (jpL t k)[j]? = some (if j < k ∧ (parT t j).isSome = true then (posT t j : Int) + 1 else 0) := by
  rw [jpL, List.getElem?_map, List.getElem?_range hj]; rfl
theorem jpL_skip {i : Nat} (h : parT t i = none) : jpL t (i + 1) = jpL t i := by
  refine List.map_congr_left fun j _ => ?_
  by_cases e : j = i
  · subst e; rw [h]; simp
  · have : j < i + 1 ↔ j < i := by omega
    simp only [this]
theorem jpL_set {i : Nat} (hi : i < t.length) (h : (parT t i).isSome = true) : (jpL t i).set i ((posT t i : Int) + 1) = jpL t (i + 1) := by
  refine List.ext_getElem? fun j => ?_
  rw [List.getElem?_set]
  by_cases e : i = j
  · subst e
    rw [if_pos rfl, if_pos (by rw [jpL_len]; exact hi), jpL_at hi, if_pos ⟨by omega, h⟩]
  · rw [if_neg e]
    by_cases hj : j < t.length
    · rw [jpL_at hj, jpL_at hj]
      have : j < i + 1 ↔ j < i := by omega
      simp only [this]
    · rw [List.getElem?_eq_none (by rw [jpL_len]; omega), List.getElem?_eq_none (by rw [jpL_len]; omega)]
theorem bhL_skip {k : Nat} (hk : k < t.length) (h : t[k].op < 25) : bhL t (k + 1) = bhL t k := by
  refine List.map_congr_left fun j _ => ?_
  unfold bhT
  cases hp : parT t j with
  | none => rfl
  | some p =>
    obtain ⟨h1, h2, _⟩ := par_is hp
    have : p ≠ k := fun e => by subst e; omega
    have : p < k + 1 ↔ p < k := by omega
    simp only [this]
variable {lo : Nat → Nat} (T : Tre t lo)
include T
theorem bhL_set {k a : Nat} (hk : k < t.length) (h : 25 ≤ t[k].op) (ha : t[k].a = (a : Int)) : (bhL t k).set a t[k].op = bhL t (k + 1) := by
  have hpa := par_at T hk h ha
  refine List.ext_getElem? fun j => ?_
  rw [List.getElem?_set]
  by_cases e : a = j
  · subst e
    have hal : a < t.length := by
      obtain ⟨h1, h2, _⟩ := sz_bin T hk (by omega)
      omega
    rw [if_pos rfl, if_pos (by rw [bhL_len]; exact hal), bhL_at hal, bhT, hpa]
    simp only
    rw [if_pos (by omega), getD_at hk]
  · rw [if_neg e]
    by_cases hj : j < t.length
    · rw [bhL_at hj, bhL_at hj]
      unfold bhT
      cases hp : parT t j with
      | none => rfl
      | some p =>
        have : p ≠ k := fun e2 => by
          subst e2
          obtain ⟨_, _, h3⟩ := par_is hp
          omega
        have : p < k + 1 ↔ p < k := by omega
        simp only [this]
    · rw [List.getElem?_eq_none (by rw [bhL_len]; omega), List.getElem?_eq_none (by rw [bhL_len]; omega)]
/-- The program's instructions after i nodes; one node more. -/
def progT (vs : List ByteArray) (t : List Nd) (i : Nat) : List Ins := layT t (ownT vs t) (jmpT t (toP t i)) i
omit T in
theorem prog_len (vs : List ByteArray) (i : Nat) : (progT vs t i).length = posT t i := lay_len _ _ _
omit T in
/-- Behind a node that is no AND or OR. -/
theorem prog_own {vs : List ByteArray} {i : Nat} (hi : i < t.length) (h : t[i].op < 25) : progT vs t i = layT t (ownT vs t) (jmpT t (toP t (i + 1))) i := by
  refine lay_ext i (fun _ _ => rfl) fun j hj hp => ?_
  unfold jmpT
  cases hq : parT t j with
  | none => rfl
  | some p =>
    obtain ⟨h1, h2, _⟩ := par_is hq
    have : p ≠ i := fun e => by subst e; omega
    have : p < i + 1 ↔ p < i := by omega
    simp only [toP, this]
/-- Behind an AND or OR: its jump learns where to go. -/
theorem prog_set {vs : List ByteArray} {i a : Nat} (hi : i < t.length) (h : 25 ≤ t[i].op) (ha : t[i].a = (a : Int)) :
    (progT vs t i).set (posT t a + 1) ⟨t[i].op, 0, 0, 0, (posT t i : Int) + 1⟩ = layT t (ownT vs t) (jmpT t (toP t (i + 1))) i ∧ (progT vs t i)[posT t a + 1]? = some ⟨t[i].op, 0, 0, 0, 0⟩ := by
  have hpa := par_at T hi h ha
  have hai : a < i := by
    obtain ⟨h1, h2, _⟩ := sz_bin T hi (by omega)
    omega
  have hset := lay_setj (t := t) (f := ownT vs t) (g := jmpT t (toP t i)) (k := a) ⟨t[i].op, 0, 0, 0, (posT t i : Int) + 1⟩ (by rw [hpa]; rfl) hai
  refine ⟨?_, ?_⟩
  · unfold progT
    rw [hset]
    refine lay_ext i (fun _ _ => rfl) fun j hj hp => ?_
    unfold updF
    by_cases e : j = a
    · subst e
      rw [if_pos rfl, jmpT, hpa]
      simp only [toP]
      rw [if_pos (by omega), getD_at hi]
      simp
    · rw [if_neg e]
      unfold jmpT
      cases hq : parT t j with
      | none => rfl
      | some p =>
        have : p ≠ i := fun e2 => by
          subst e2
          obtain ⟨_, _, h3⟩ := par_is hq
          omega
        have : p < i + 1 ↔ p < i := by omega
        simp only [toP, this]
  · unfold progT
    have hg : ∀ (n : Nat), a < n → (layT t (ownT vs t) (jmpT t (toP t i)) n)[posT t a + 1]? = some (jmpT t (toP t i) a) := by
      intro n
      induction n with
      | zero => intro h; omega
      | succ n ih =>
        intro hn
        simp only [layT]
        by_cases e : a = n
        · subst e
          rw [List.getElem?_append_right (by rw [lay_len]; omega), lay_len, Nat.add_sub_cancel_left, hpa]
          rfl
        · have hl := pos_lt (t := t) (k := a) (n := n) (by omega)
          rw [hpa] at hl
          simp only [Option.isSome_some, if_true] at hl
          rw [List.getElem?_append_left (by rw [lay_len]; omega)]
          exact ih (by omega)
    rw [hg i hai, jmpT, hpa]
    simp only [toP]
    rw [if_neg (by omega), getD_at hi]
    rfl
/-- The own instruction, and the jump. -/
theorem prog_succ (vs : List ByteArray) (i : Nat) : progT vs t (i + 1) = layT t (ownT vs t) (jmpT t (toP t (i + 1))) i ++ ownT vs t i :: (if (parT t i).isSome = true then [⟨bhT t t.length i, 0, 0, 0, 0⟩] else []) := by
  unfold progT
  simp only [layT]
  congr 2
  cases h : parT t i with
  | none => rfl
  | some p =>
    obtain ⟨h1, h2, h3⟩ := par_is h
    simp only [Option.isSome_some, if_true]
    rw [bh_end, h, jmpT, h]
    simp only [toP]
    rw [if_neg]
    · rfl
    · obtain ⟨k1, k2, _⟩ := sz_bin T h1 (by omega)
      omega
omit T in
theorem prog_end (vs : List ByteArray) : progT vs t t.length = codeT vs t := by
  refine lay_ext _ (fun _ _ => rfl) fun j hj hp => ?_
  unfold jmpT
  cases h : parT t j with
  | none => rfl
  | some p => simp only [toP]; rw [if_pos (par_is h).1]
end
end Go.Proofs.YtkfphaphiikloaaDoor

/-
  A COMPILED PROGRAM RUNS AS ITS TREE MEANS: the plain law.
-/
namespace Go.Proofs.YtkfphaphiikloaaDoor
open Go Go.Eng

theorem lay_own {t : List Nd} {f g : Nat → Ins} {k : Nat} : ∀ {n : Nat}, k < n → (layT t f g n)[posT t k]? = some (f k)
  | 0, h => by omega
  | n + 1, h => by
    simp only [layT]
    by_cases e : k = n
    · subst e
      rw [List.getElem?_append_right (by rw [lay_len]; exact Nat.le_refl _), lay_len, Nat.sub_self]
      rfl
    · have hl := pos_lt (t := t) (k := k) (n := n) (by omega)
      rw [List.getElem?_append_left (by rw [lay_len]; omega)]
      exact lay_own (by omega)
theorem lay_jmp {t : List Nd} {f g : Nat → Ins} {k : Nat} (hp : (parT t k).isSome = true) : ∀ {n : Nat}, k < n → (layT t f g n)[posT t k + 1]? = some (g k)
  | 0, h => by omega
  | n + 1, h => by
    simp only [layT]
    by_cases e : k = n
    · subst e
      rw [List.getElem?_append_right (by rw [lay_len]; omega), lay_len, Nat.add_sub_cancel_left, if_pos hp]
      rfl
    · have hl := pos_lt (t := t) (k := k) (n := n) (by omega)
      rw [if_pos hp] at hl
      rw [List.getElem?_append_left (by rw [lay_len]; omega)]
      exact lay_jmp hp (by omega)
theorem name_col {sc : List Ty} {t : List Nd} {i : Nat} (hi : i < t.length) (h : 4 ≤ t[i].op ∧ t[i].op ≤ 11 ∧ t[i].op ≠ 5) : 0 ≤ ixOf (namesOf t) t[i].attr ∧ ((namesOf t).map (colOf sc))[(ixOf (namesOf t) t[i].attr).toNat]? = some (colOf sc t[i].attr) := by
  obtain ⟨m, hm⟩ := names_app t (i + 1) (t.length - (i + 1))
  rw [show i + 1 + (t.length - (i + 1)) = t.length by omega] at hm
  have h1 : namesTo t (i + 1) = addN (namesTo t i) t[i].attr := by rw [namesTo, getD_at hi, addX, if_pos h]
  have h2 : (namesOf t).findIdx (· == t[i].attr) < (namesOf t).length := by
    unfold namesOf
    rw [hm]
    exact (ix_app m (by rw [h1]; exact add_has _ _)).2
  have h3 : ixOf (namesOf t) t[i].attr = (((namesOf t).findIdx (· == t[i].attr) : Nat) : Int) := by unfold ixOf; rw [if_pos h2]
  have h4 := List.findIdx_getElem (w := h2)
  rw [h3, Int.toNat_natCast]
  refine ⟨by omega, ?_⟩
  rw [List.getElem?_map, List.getElem?_eq_getElem h2, Option.map_some]
  have h5 : (namesOf t)[(namesOf t).findIdx (· == t[i].attr)] = t[i].attr := by rw [← ba_beq]; exact h4
  rw [h5]
def isT (v : V) : Prop := v.k = true → v.n = 0 ∨ v.n = 1
theorem rank_isT (r : Int) : isT (ofRank r) := by
  unfold ofRank isT
  repeat' split
  all_goals simp
theorem truth_isT (b : Bool) : isT (truthV b) := by
  unfold truthV isT
  split <;> simp
theorem cmp_isT (o : Int) (a b : V) : isT (cmpV o a b) := by
  unfold cmpV
  repeat' split
  all_goals first | exact truth_isT _ | (intro h; cases h)
/-- A truth's value is 0 or 1. -/
theorem node_isT {sc : List Ty} {it : Int} {en : En} {x : Nd} {va vb : V} (h : truthO x.op = true) : isT (nodeV sc it en x va vb) := by
  unfold truthO at h
  simp only [decide_eq_true_eq] at h
  unfold nodeV
  by_cases h1 : x.op = 1
  · omega
  by_cases h2 : x.op = 2
  · rw [if_neg h1, if_pos h2]; exact fun _ => .inr rfl
  by_cases h3 : x.op = 3
  · rw [if_neg h1, if_neg h2, if_pos h3]; exact fun _ => .inl rfl
  by_cases h4 : x.op ≤ 11
  · omega
  by_cases h5 : x.op = 12
  · omega
  rw [if_neg h1, if_neg h2, if_neg h3, if_neg h4, if_neg h5]
  by_cases h6 : x.op = 13
  · rw [if_pos h6]; exact rank_isT _
  rw [if_neg h6]
  unfold applyL
  repeat' split
  all_goals first | omega | exact rank_isT _ | exact cmp_isT _ _ _
theorem last_snoc (st : List V) (v : V) : (st ++ [v]).getLastD unk = v := by simp [List.getLastD_eq_getLast?]
theorem drop_snoc (st : List V) (v : V) : (st ++ [v]).dropLast = st := by simp
section
variable {sc : List Ty} {vs : List ByteArray} {t : List Nd} {lo : Nat → Nat} {en : En}
def progP (sc : List Ty) (vs : List ByteArray) (t : List Nd) : Pr := ⟨codeT vs t, (namesOf t).map (colOf sc)⟩
theorem own_at {i : Nat} (hi : i < t.length) : ∃ h : posT t i < (progP sc vs t).code.length, (progP sc vs t).code[posT t i]'h = ownI (namesOf t) (itemV vs t[i]) t[i] := by
  have h1 : (codeT vs t)[posT t i]? = some (ownT vs t i) := lay_own hi
  obtain ⟨h2, h3⟩ := List.getElem?_eq_some_iff.1 h1
  exact ⟨h2, h3.trans (by rw [ownT, getD_at hi])⟩
theorem node_ok (h : okTo vs t t.length = true) {i : Nat} (hi : i < t.length) : nodeOk vs t t[i] = true := by
  unfold okTo at h
  rw [List.take_length, List.all_eq_true] at h
  exact h _ (List.getElem_mem hi)
/-- The subtree of a node leaves the node's value on the stack. -/
theorem run_sub (T : Tre t lo) (hok : okTo vs t t.length = true) : ∀ (i : Nat), i < t.length → ∀ st : List V, fromV (progP sc vs t) en (posT t (lo i)) st = fromV (progP sc vs t) en (posT t i + 1) (st ++ [valAt sc (t.map (itemV vs)) en t i]) := by
  intro i
  induction i using Nat.strongRecOn with
  | _ i ih =>
    intro hi st
    obtain ⟨hlt, hown⟩ := own_at (sc := sc) (vs := vs) hi
    have hv := valAt_eq (sc := sc) (its := t.map (itemV vs)) (en := en) hi
    have hits : (t.map (itemV vs)).getD i 0 = itemV vs t[i] := by rw [List.getD_eq_getElem?_getD, List.getElem?_map, List.getElem?_eq_getElem hi]; rfl
    rw [hits] at hv
    have hno := node_ok hok hi
    rcases T.kind i hi with ⟨b1, b2, b3, b4, b⟩ | ⟨b0, b1, b2, b3, b⟩ | ⟨b0, b0', b1, b2, a, b3, b4, b⟩
    · rw [b]
      have key : stepV (progP sc vs t) en (progP sc vs t).code[posT t i] (posT t i) st = some (posT t i + 1, st ++ [valAt sc (t.map (itemV vs)) en t i]) := by
        rw [hown, hv]
        unfold ownI nodeV
        by_cases o1 : t[i].op = 1
        · simp only [o1, if_true]
          exact step_push (by simp only [needsV]; omega) rfl
        by_cases o2 : t[i].op = 2
        · simp only [o2, if_true]
          exact step_push (by simp [needsV]) rfl
        by_cases o3 : t[i].op = 3
        · simp only [o3, if_true]
          exact step_push (by simp [needsV]) rfl
        rw [if_neg o1, if_neg o2, if_neg o3, if_neg o1, if_neg o2, if_neg o3, if_pos b2]
        by_cases o5 : t[i].op = 5
        · simp only [o5]
          exact step_count (by simp only [needsV]; simp) rfl
        obtain ⟨n1, n2⟩ := name_col (sc := sc) hi ⟨by omega, b2, o5⟩
        by_cases o4 : t[i].op = 4
        · simp only [o4]
          exact step_col (p := progP sc vs t) (by simp only [needsV]; simp) (by simp) (by simp; exact n1) n2
        by_cases o11 : t[i].op = 11
        · simp only [o11]
          exact step_col (p := progP sc vs t) (by simp only [needsV]; simp) (by simp) (by simp; exact n1) n2
        rw [if_neg o4, if_neg o11, if_neg o5, if_pos (by omega)]
        have hcm : codeM t[i].op = t[i].op - 1 := by unfold codeM; rw [if_neg o5, if_neg o11, if_neg o4]
        rw [hcm]
        exact step_col (p := progP sc vs t) (by simp only [needsV]; (repeat' split) <;> omega) (by simp only []; omega) (by simp only []; omega) n2
      exact from_some hlt key
    · have hpu := pos_un T hi (by omega) b1
      rw [b, ih (i - 1) (by omega) (by omega) st, ← hpu]
      have hva : getV (valsTo sc (t.map (itemV vs)) en t i) t[i].a = valAt sc (t.map (itemV vs)) en t (i - 1) := by
        rw [get_val (by omega) (by omega), b2, Int.toNat_natCast]
      rw [hva] at hv
      have key : stepV (progP sc vs t) en (progP sc vs t).code[posT t i] (posT t i) (st ++ [valAt sc (t.map (itemV vs)) en t (i - 1)]) = some (posT t i + 1, st ++ [valAt sc (t.map (itemV vs)) en t i]) := by
        rw [hown, hv]
        unfold ownI nodeV
        rcases b0 with o | o
        · simp only [o]
          refine (step_neg (by simp [needsV]; omega) (by simp)).trans ?_
          rw [last_snoc, drop_snoc]
          simp
        · simp only [o]
          refine (step_not (by simp [needsV]; omega) (by simp)).trans ?_
          rw [last_snoc, drop_snoc]
          simp
      exact from_some hlt key
    · have hpu := pos_un T hi (by omega) b1
      have hle := T.le (i - 1) (by omega)
      have hva : getV (valsTo sc (t.map (itemV vs)) en t i) t[i].a = valAt sc (t.map (itemV vs)) en t a := by
        rw [get_val (by omega) (by omega), b3, Int.toNat_natCast]
      have hvb : getV (valsTo sc (t.map (itemV vs)) en t i) t[i].b = valAt sc (t.map (itemV vs)) en t (i - 1) := by
        rw [get_val (by omega) (by omega), b2, Int.toNat_natCast]
      rw [hva, hvb] at hv
      have hv' : valAt sc (t.map (itemV vs)) en t i = applyL t[i].op (valAt sc (t.map (itemV vs)) en t a) (valAt sc (t.map (itemV vs)) en t (i - 1)) := by
        rw [hv]
        unfold nodeV
        rw [if_neg (by omega), if_neg (by omega), if_neg (by omega), if_neg (by omega), if_neg (by omega), if_neg (by omega)]
      have hsk := pos_sk T hi b0 b3
      rw [b, ih a (by omega) (by omega) st]
      have two : fromV (progP sc vs t) en (posT t (lo (i - 1))) (st ++ [valAt sc (t.map (itemV vs)) en t a]) = fromV (progP sc vs t) en (posT t i + 1) (st ++ [valAt sc (t.map (itemV vs)) en t i]) := by
        rw [ih (i - 1) (by omega) (by omega), ← hpu]
        refine from_some (q := (posT t i + 1, st ++ [valAt sc (t.map (itemV vs)) en t i])) hlt ?_
        rw [hown, hv']
        have : ownI (namesOf t) (itemV vs t[i]) t[i] = ⟨t[i].op - 2, 0, 0, 0, 0⟩ := by
          unfold ownI
          rw [if_neg (by omega), if_neg (by omega), if_neg (by omega), if_neg (by omega), if_neg (by omega), if_neg (by omega), if_neg (by omega)]
        rw [this]
        refine (step_two (by simp only [needsV, List.length_append, List.length_cons, List.length_nil]; (repeat' split) <;> omega) (by simp only []; omega)).trans ?_
        rw [last_snoc, drop_snoc, last_snoc, drop_snoc, show t[i].op - 2 + 2 = t[i].op by omega]
      by_cases h25 : 25 ≤ t[i].op
      · rw [if_pos h25] at hsk
        rw [b4] at two
        rw [hsk] at two
        have hpa := par_at T hi h25 b3
        have hj : (codeT vs t)[posT t a + 1]? = some (jmpT t (fun p => posT t p + 1) a) := lay_jmp (by rw [hpa]; rfl) (by omega)
        have hje : jmpT t (fun p => posT t p + 1) a = ⟨t[i].op, 0, 0, 0, (posT t i : Int) + 1⟩ := by
          unfold jmpT
          rw [hpa]
          simp only []
          rw [getD_at hi]
          simp
        rw [hje] at hj
        obtain ⟨h2, h3⟩ : ∃ h : posT t a + 1 < (progP sc vs t).code.length, (progP sc vs t).code[posT t a + 1]'h = ⟨t[i].op, 0, 0, 0, (posT t i : Int) + 1⟩ := List.getElem?_eq_some_iff.1 hj
        have hlen : (progP sc vs t).code.length = posT t t.length := lay_len _ _ _
        have hpl := pos_lt (t := t) hi
        have hpl2 := pos_lt (t := t) (k := a) (n := i) (by omega)
        rw [hpa] at hpl2
        simp only [Option.isSome_some, if_true] at hpl2
        have htr : isT (valAt sc (t.map (itemV vs)) en t a) := by
          rw [valAt_eq (show a < t.length by omega)]
          refine node_isT ?_
          unfold nodeOk at hno
          rw [if_neg (by omega), if_neg (by omega), b3, Int.toNat_natCast, getD_at (show a < t.length by omega)] at hno
          simp only [Bool.and_eq_true, beq_iff_eq] at hno
          rw [hno.1]
          unfold wantsT
          simp; omega
        have hjt : ¬ ((⟨t[i].op, 0, 0, 0, (posT t i : Int) + 1⟩ : Ins).to ≤ ((posT t a + 1 : Nat) : Int) ∨ (⟨t[i].op, 0, 0, 0, (posT t i : Int) + 1⟩ : Ins).to > (progP sc vs t).code.length) := by
          simp only []
          rw [hlen]
          omega
        have hne : ¬ (needsV (⟨t[i].op, 0, 0, 0, (posT t i : Int) + 1⟩ : Ins).code < 0 ∨ ((st ++ [valAt sc (t.map (itemV vs)) en t a]).length : Int) < needsV (⟨t[i].op, 0, 0, 0, (posT t i : Int) + 1⟩ : Ins).code) := by
          simp only [needsV, List.length_append, List.length_cons, List.length_nil]
          (repeat' split) <;> omega
        by_cases hd : (valAt sc (t.map (itemV vs)) en t a).k = true ∧ ((valAt sc (t.map (itemV vs)) en t a).n ≠ 0 ↔ t[i].op = 26)
        · have hst := step_jump (p := progP sc vs t) (e := en) hne h25 hjt (by rw [last_snoc]; exact hd)
          rw [← h3] at hst
          rw [from_some h2 hst]
          have h01 := htr hd.1
          have : valAt sc (t.map (itemV vs)) en t i = valAt sc (t.map (itemV vs)) en t a := by
            rw [hv']
            have hr3 := rank3 (valAt sc (t.map (itemV vs)) en t (i - 1))
            generalize valAt sc (t.map (itemV vs)) en t a = va at *
            generalize valAt sc (t.map (itemV vs)) en t (i - 1) = vb at *
            obtain ⟨vk, vn⟩ := va
            simp only [] at hd h01
            obtain ⟨rfl, hd2⟩ := hd
            rcases (show t[i].op = 25 ∨ t[i].op = 26 by omega) with o | o
            · rw [o] at hd2 ⊢
              have : vn = 0 := by
                rcases h01 with h | h
                · exact h
                · exact absurd (hd2.1 (by rw [h]; decide)) (by decide)
              subst this
              simp only [applyL]
              simp [andV, rankV, ofRank]
              unfold rankV at hr3
              rcases hr3 with h | h | h <;> simp [h]
            · rw [o] at hd2 ⊢
              have : vn = 1 := by
                rcases h01 with h | h
                · exact absurd h (hd2.2 rfl)
                · exact h
              subst this
              simp only [applyL]
              simp [orV, rankV, ofRank]
              unfold rankV at hr3
              rcases hr3 with h | h | h <;> simp [h]
          rw [this]
          simp only [h3]
          rw [show ((posT t i : Int) + 1).toNat = posT t i + 1 by omega]
        · have hst := step_stay (p := progP sc vs t) (e := en) hne h25 hjt (by rw [last_snoc]; exact hd)
          rw [← h3] at hst
          rw [from_some h2 hst]
          exact two
      · rw [if_neg h25] at hsk
        rw [b4, hsk] at two
        exact two
/-- A COMPILED PROGRAM RUNS AS ITS TREE MEANS. -/
theorem run_comp (h : runT vs t = true) : runV (compP sc vs t) en = (evalV sc vs en t, 0) := by
  have hr := h
  simp only [runT, Bool.and_eq_true] at hr
  have T := tre_of hr.1
  have hpos := T.pos
  rw [compP, if_pos h, evalV, if_pos h, run_from]
  have := run_sub (sc := sc) (vs := vs) (en := en) T hr.2 (t.length - 1) (by omega) []
  rw [T.root] at this
  refine this.trans ?_
  rw [List.nil_append, from_end]
  · rfl
  · show (codeT vs t).length ≤ _
    rw [codeT, lay_len, pos_end T]
    exact Nat.le_refl _
end
end Go.Proofs.YtkfphaphiikloaaDoor

/-
  CodeFrame, PART A: is a number in a list?
-/
namespace Go.Proofs.YtkfphaphiikloaaDoor
open Go Go.Eng

def deIsI (h : Heap) : List AV → Option (List Int × Int)
  | [a, .v (.int .i64 i)] => (rd dIs h a).map fun t => (t, i)
  | _ => none
theorem deIsI_out {h : Heap} {args : List AV} {q : List Int × Int} (e : deIsI h args = some q) : ∃ a, args = [a, ii q.2] ∧ rd dIs h a = some q.1 := by
  unfold deIsI at e
  split at e
  · simp only [Option.map_eq_some_iff] at e
    obtain ⟨t, h1, rfl⟩ := e
    exact ⟨_, rfl, h1⟩
  · cases e
theorem deIsI_mono (h h' : Heap) (args : List AV) (q : List Int × Int) (hh : h.le h') (e : deIsI h args = some q) : deIsI h' args = some q := by
  obtain ⟨a, rfl, e1⟩ := deIsI_out e
  simp only [deIsI, ii, rd_mono hh e1, Option.map_some]
def G50 := pureH deIsI (fun q => q.1.length < big) fun q => bv (decide (q.2 ∈ q.1))
set_option maxRecDepth 100000 in
set_option maxHeartbeats 2000000 in
theorem P50 : P0 [] 50 G50 := by
  refine mkH 2 (S := []) (l := []) tb_nil Tryd.func50 rfl (by kernel_rfl) deIsI_mono (fun h l x e => by obtain ⟨a, rfl, _⟩ := deIsI_out e; exact Nat.le_refl _) (fun a => rfl) (fun args q h n e hp hn => ?_)
  obtain ⟨l, x⟩ := q
  obtain ⟨a, rfl, e1⟩ := deIsI_out e
  simp only [] at e1 hp ⊢
  obtain ⟨s1, s2, s3, s4, s5⟩ := sl_is e1
  have hb : l.length < 4611686018427387904 := hp
  have key : ∀ e : Nat → AV, e 0 = a → e 1 = ii x → awp (cx [] (pfL [])) (Tryd.f50.body.getD .skip) (finQ (cx [] (pfL [])) Tryd.f50 fun z _ _ => z = bv (decide (x ∈ l))) ⟨e, roH h, n⟩ := fun e q0 q1 => by
    simp [evs, aeval, binS, cx_ti, cx_G, cx_pf, cx_tw, ti, globS, glob, ldcs_1, ldcs_2, ldcs_3, ldcs_4, ldcs_5, ldcs_7, sls.eq_1, slc.eq_1, pfL, Tryd.f50, q0, q1]
    refine awp_loop (fun s => ∃ j : Nat, j ≤ l.length ∧ s.e 0 = a ∧ s.e 1 = ii x ∧ s.e 5 = ii j ∧ s.h = roH h ∧ x ∉ l.take j) (fun s => l.length - (s.e 5).i.toNat) ⟨0, by simp [up, q0, q1, ii]⟩ ?_
    rintro e' h' n' ⟨j, hj, q0, q1, q5, hh, hnot⟩
    simp only [] at q0 q1 q5 hh
    subst hh
    by_cases hlt : j < l.length
    · have hlt' : (j : Int) < (l.length : Int) := by omega
      have hjw := wrap_nat (j := j) (by unfold big; omega)
      rcases is_at e1 with ⟨h0, _⟩ | ⟨id, off, k, rfl, hk, ho', hat⟩
      · rw [h0] at hlt; simp at hlt
      have hr := hat j hlt
      have hro := ro_at hk
      have hc := hr
      have hw1 : off + (j + 1) ≤ k.cells.length := by omega
      simp only [ii] at hc
      have htk : l.take (j + 1) = l.take j ++ [l[j]] := List.take_succ_eq_append_getElem hlt
      have hmem : l[j] ∈ l := List.getElem_mem hlt
      generalize l[j] = y at *
      by_cases hy : y = x
      · subst hy
        simp [evs, aeval, binS, cx_ti, cx_G, cx_pf, cx_tw, ti, globS, glob, ldcs_1, ldcs_2, ldcs_3, ldcs_4, ldcs_5, ldcs_7, sls.eq_1, slc.eq_1, pfL, q0, q1, q5, ii, hlt, hlt', hro, hc, hw1, hmem, bv]
        done
      · have hn2 : x ∉ l.take (j + 1) := by rw [htk]; simp [hnot]; exact fun e => hy e.symm
        simp [evs, aeval, binS, cx_ti, cx_G, cx_pf, cx_tw, ti, globS, glob, ldcs_1, ldcs_2, ldcs_3, ldcs_4, ldcs_5, ldcs_7, sls.eq_1, slc.eq_1, pfL, q0, q1, q5, ii, hlt, hlt', hro, hc, hw1, hy, bv, hjw]
        exact ⟨⟨j + 1, by omega, by omega, hn2⟩, by omega⟩
    · obtain rfl : j = l.length := by omega
      rw [List.take_length] at hnot
      simp [evs, aeval, binS, cx_ti, cx_G, cx_pf, cx_tw, ti, globS, glob, ldcs_1, ldcs_2, ldcs_3, ldcs_4, ldcs_5, ldcs_7, sls.eq_1, slc.eq_1, pfL, q0, q1, q5, ii, s1, s2, s3, bv, hnot]
  exact key _ rfl rfl
end Go.Proofs.YtkfphaphiikloaaDoor

/-
  CodeFrame, PART B: maps: what setting does to finding.
-/
namespace Go.Proofs.YtkfphaphiikloaaDoor
open Go Go.Eng

theorem ba_dec (a b : ByteArray) : (a == b) = decide (a = b) := by
  cases h : (a == b) with
  | true => rw [ba_beq] at h; simp [h]
  | false =>
    symm
    rw [decide_eq_false_iff_not]
    intro e
    rw [(show (a == b) = true by rw [ba_beq]; exact e)] at h
    cases h
theorem mset_ok (z : ByteArray) (n : Int) : ∀ l : List AV, mok l → mok (mset z (.v (.int .i64 n)) l)
  | [], _ => trivial
  | .v (.string k) :: .v (.int .i64 m) :: r, h => by
    simp only [mset]
    split
    · exact h
    · exact mset_ok z n r h
theorem mset_find (z z' : ByteArray) (v : AV) : ∀ l : List AV, mok l → mfind z' (mset z v l) = if z' = z then some v else mfind z' l
  | [], _ => by
    simp only [mset, mfind, ba_dec]
    by_cases h : z' = z <;> simp [h]
  | .v (.string k) :: .v (.int .i64 m) :: r, h => by
    have ih := mset_find z z' v r h
    simp only [mset, ba_dec]
    by_cases h1 : z = k
    · subst h1
      by_cases h2 : z' = z <;> simp [mfind, ba_dec, h2]
    · simp only [h1, decide_false, Bool.false_eq_true, if_false, mfind, ba_dec]
      by_cases h2 : z' = k
      · subst h2
        have : ¬ z' = z := fun e => h1 e.symm
        simp [this]
      · simp [h2, ih]
theorem msetI_ok (z n : Int) : ∀ l : List AV, mokI l → mokI (msetI z (.v (.int .i64 n)) l)
  | [], _ => trivial
  | .v (.int .i64 k) :: .v (.int .i64 m) :: r, h => by
    simp only [msetI]
    split
    · exact h
    · exact msetI_ok z n r h
theorem msetI_find (z z' : Int) (v : AV) : ∀ l : List AV, mokI l → mfindI z' (msetI z v l) = if z' = z then some v else mfindI z' l
  | [], _ => by
    simp only [msetI, mfindI, beq_iff_eq]
  | .v (.int .i64 k) :: .v (.int .i64 m) :: r, h => by
    have ih := msetI_find z z' v r h
    simp only [msetI, beq_iff_eq]
    by_cases h1 : z = k
    · subst h1
      by_cases h2 : z' = z <;> simp [mfindI, h2]
    · simp only [h1, if_false, mfindI, beq_iff_eq]
      by_cases h2 : z' = k
      · subst h2
        have : ¬ z' = z := fun e => h1 e.symm
        simp [this]
      · simp [h2, ih]
/-- A map's cells hold what f says. -/
def isM (f : ByteArray → Option Int) (cs : List AV) : Prop := mok cs ∧ ∀ z, mfind z cs = (f z).map fun i => ii i
theorem isM_nil : isM (fun _ => none) [] := ⟨trivial, fun _ => rfl⟩
theorem isM_set {f : ByteArray → Option Int} {cs : List AV} (h : isM f cs) (k : ByteArray) (n : Int) : isM (fun z => if z = k then some n else f z) (mset k (.v (.int .i64 n)) cs) :=
  ⟨mset_ok k n cs h.1, fun z => by rw [mset_find k z _ cs h.1]; by_cases e : z = k <;> simp [e, ii, h.2]⟩
def isI (f : Int → Int) (cs : List AV) : Prop := mokI cs ∧ ∀ z, (mfindI z cs).getD (.v (.int .i64 0)) = ii (f z)
theorem isI_nil : isI (fun _ => 0) [] := ⟨trivial, fun _ => rfl⟩
theorem isI_set {f : Int → Int} {cs : List AV} (h : isI f cs) (k n : Int) : isI (fun z => if z = k then n else f z) (msetI k (.v (.int .i64 n)) cs) :=
  ⟨msetI_ok k n cs h.1, fun z => by rw [msetI_find k z _ cs h.1]; by_cases e : z = k <;> simp [e, ii]; simpa [ii] using h.2 z⟩
end Go.Proofs.YtkfphaphiikloaaDoor

/-
  CodeFrame, PART C: the plain law: what a tree does not mention does not matter.
-/
namespace Go.Proofs.YtkfphaphiikloaaDoor
open Go Go.Eng

/-- The items that are mentioned by a node of that kind. -/
def usesN (p : Int → Bool) (vs : List ByteArray) (t : List Nd) (i : Int) : Bool := t.any fun x => p x.op && decide (ixOf vs x.var = i)
def usesL (p : Int → Bool) (vs : List ByteArray) (t : List Nd) : List Int := ((List.range vs.length).map fun i : Nat => (i : Int)).filter (usesN p vs t)
def bareO (o : Int) : Bool := decide (o = 4 ∨ o = 11)
def prevO (o : Int) : Bool := decide (o = 11)
def aggO (o : Int) : Bool := decide (5 ≤ o ∧ o ≤ 10)
theorem uses_mem {p : Int → Bool} {vs : List ByteArray} {t : List Nd} {x : Nd} (hx : x ∈ t) (hp : p x.op = true) (h0 : 0 ≤ ixOf vs x.var) : ixOf vs x.var ∈ usesL p vs t := by
  have h1 : ixOf vs x.var < (vs.length : Int) := by unfold ixOf; split <;> omega
  refine List.mem_filter.2 ⟨List.mem_map.2 ⟨(ixOf vs x.var).toNat, List.mem_range.2 (by omega), by omega⟩, ?_⟩
  exact List.any_eq_true.2 ⟨x, hx, by simp [hp]⟩
/-- The list that stands in the place of list i. -/
def frL (bare agg : List Int) (each : Int) (other : List (List Ev)) (i : Nat) (l : List Ev) : List Ev :=
  if (i : Int) ∈ agg ∨ (i : Int) = each then l else if (i : Int) ∈ bare then l.take 1 else other.getD i []
def frTo (bare agg : List Int) (each : Int) (other ls : List (List Ev)) (j : Nat) : List (List Ev) := (List.range j).map fun i => frL bare agg each other i (ls.getD i [])
def frE (bare agg : List Int) (each : Int) (other ls : List (List Ev)) : Bool := decide (0 ≤ each ∧ each < (ls.length : Int) ∧ each ∉ bare ∧ each ∉ agg ∧ each < (other.length : Int))
def frA (bare agg : List Int) (each : Int) (other ls : List (List Ev)) : List (List Ev) :=
  if frE bare agg each other ls = true then (frTo bare agg each other ls ls.length).set each.toNat (other.getD each.toNat []) else frTo bare agg each other ls ls.length
section
variable {bare agg : List Int} {each : Int} {other ls : List (List Ev)}
theorem frTo_len (j : Nat) : (frTo bare agg each other ls j).length = j := by simp [frTo]
theorem frTo_succ (j : Nat) : frTo bare agg each other ls (j + 1) = frTo bare agg each other ls j ++ [frL bare agg each other j (ls.getD j [])] := by simp [frTo, List.range_succ]
theorem frA_len : (frA bare agg each other ls).length = ls.length := by
  unfold frA; split <;> simp [frTo_len]
theorem frA_at {i : Int} (hi : 0 ≤ i) (hm : i ∈ bare ∨ i ∈ agg) : listAt (frA bare agg each other ls) i = if i < (ls.length : Int) then frL bare agg each other i.toNat (listAt ls i) else [] := by
  obtain ⟨j, rfl⟩ : ∃ j : Nat, i = j := ⟨i.toNat, by omega⟩
  have hn : ¬ ((j : Int) < 0) := by omega
  unfold listAt
  rw [if_neg hn, if_neg hn]
  simp only [Int.toNat_natCast]
  by_cases hlt : j < ls.length
  · have h1 : ((j : Int) < (ls.length : Int)) := by omega
    rw [if_pos h1]
    have hT : (frTo bare agg each other ls ls.length).getD j [] = frL bare agg each other j (ls.getD j []) := by
      simp [frTo, List.getD_eq_getElem?_getD, hlt]
    unfold frA
    split
    · rename_i he
      simp only [frE, decide_eq_true_eq] at he
      have hne : each.toNat ≠ j := fun e => by
        have : (j : Int) = each := by omega
        rw [this] at hm
        rcases hm with hm | hm
        · exact he.2.2.1 hm
        · exact he.2.2.2.1 hm
      rw [← hT, List.getD_eq_getElem?_getD, List.getElem?_set_ne hne, ← List.getD_eq_getElem?_getD]
    · exact hT
  · have h1 : ¬ ((j : Int) < (ls.length : Int)) := by omega
    rw [if_neg h1, List.getD_eq_getElem?_getD, List.getElem?_eq_none (by rw [frA_len]; omega)]
    rfl
theorem frA_agg {i : Int} (hi : 0 ≤ i) (hm : i ∈ agg) : listAt (frA bare agg each other ls) i = listAt ls i := by
  rw [frA_at hi (.inr hm)]
  split
  · unfold frL
    rw [if_pos (.inl (by rw [Int.toNat_of_nonneg hi]; exact hm))]
  · unfold listAt
    rw [if_neg (by omega), List.getD_eq_getElem?_getD, List.getElem?_eq_none (by omega)]; rfl
theorem frA_each {i : Int} (hi : 0 ≤ i) (hm : i ∈ bare) (he : i = each) : listAt (frA bare agg each other ls) i = listAt ls i := by
  rw [frA_at hi (.inl hm)]
  split
  · unfold frL
    rw [if_pos (.inr (by rw [Int.toNat_of_nonneg hi]; exact he))]
  · unfold listAt
    rw [if_neg (by omega), List.getD_eq_getElem?_getD, List.getElem?_eq_none (by omega)]; rfl
theorem one_take (l : List Ev) (c : List Int) : oneV (l.take 1) 0 c = oneV l 0 c := by
  cases l <;> rfl
theorem frA_one {i : Int} (hi : 0 ≤ i) (hm : i ∈ bare) (c : List Int) : oneV (listAt (frA bare agg each other ls) i) 0 c = oneV (listAt ls i) 0 c := by
  rw [frA_at hi (.inl hm)]
  split
  · unfold frL
    rw [Int.toNat_of_nonneg hi]
    by_cases hA : i ∈ agg ∨ i = each
    · rw [if_pos hA]
    · rw [if_neg hA, if_pos hm, one_take]
  · unfold listAt
    rw [if_neg (by omega), List.getD_eq_getElem?_getD, List.getElem?_eq_none (by omega)]; rfl
end
def frEn (vs : List ByteArray) (t : List Nd) (other : List (List Ev)) (en : En) : En :=
  ⟨frA (usesL bareO vs t) (usesL aggO vs t) en.each other en.ls, en.each, en.pos⟩
theorem frame_node {sc : List Ty} {vs : List ByteArray} {t : List Nd} {other : List (List Ev)} {en : En} {x : Nd} (h0 : 1 ≤ x.op) (hx : x ∈ t) (hok : nodeOk vs t x = true) (va vb : V) : nodeV sc (itemV vs x) (frEn vs t other en) x va vb = nodeV sc (itemV vs x) en x va vb := by
  obtain ⟨ls, each, pos⟩ := en
  show nodeV sc (itemV vs x) ⟨frA (usesL bareO vs t) (usesL aggO vs t) each other ls, each, pos⟩ x va vb = _
  unfold nodeV
  by_cases h1 : x.op = 1
  · rw [if_pos h1, if_pos h1]
  rw [if_neg h1, if_neg h1]
  by_cases h2 : x.op = 2
  · rw [if_pos h2, if_pos h2]
  rw [if_neg h2, if_neg h2]
  by_cases h3 : x.op = 3
  · rw [if_pos h3, if_pos h3]
  rw [if_neg h3, if_neg h3]
  by_cases h11 : x.op ≤ 11
  · rw [if_pos h11, if_pos h11]
    by_cases h4 : x.op < 4
    · omega
    · have hi : 0 ≤ ixOf vs x.var := by
        unfold nodeOk at hok
        rw [if_neg h4, if_pos h11] at hok
        simpa using hok
      have hit : itemV vs x = ixOf vs x.var := by unfold itemV; rw [if_pos ⟨by omega, h11⟩]
      rw [hit]
      unfold mentionV
      simp only []
      by_cases ha : x.op = 4
      · have hm := uses_mem (p := bareO) hx (by simp [bareO, ha]) hi
        have hc : codeM x.op = 2 := by simp [codeM, ha]
        rw [hc]
        simp only [show ¬ ((2 : Int) = 4) by omega, show ¬ ((2 : Int) = 3) by omega, if_false, if_true]
        by_cases he : ixOf vs x.var = each
        · rw [if_pos ⟨he, hi⟩, if_pos ⟨he, hi⟩, frA_each hi hm he]
        · rw [if_neg (fun e => he e.1), if_neg (fun e => he e.1), frA_one hi hm]
      · by_cases hb : x.op = 11
        · have hm := uses_mem (p := bareO) hx (by simp [bareO, hb]) hi
          have hc : codeM x.op = 3 := by simp [codeM, hb]
          rw [hc]
          simp only [show ¬ ((3 : Int) = 4) by omega, if_false, if_true]
          by_cases he : ixOf vs x.var = each
          · rw [frA_each hi hm he]
          · rw [if_neg (fun e => he e.1.1), if_neg (fun e => he e.1.1)]
        · have hm := uses_mem (p := aggO) hx (by simp [aggO]; omega) hi
          rw [frA_agg hi hm]
  · rw [if_neg h11, if_neg h11]
theorem op_pos {t : List Nd} {lo : Nat → Nat} (T : Tre t lo) (j : Nat) (hj : j < t.length) : 1 ≤ t[j].op := by
  rcases T.kind j hj with ⟨z1, _⟩ | ⟨z0, _⟩ | ⟨z0, _⟩ <;> omega
theorem frame_eval {sc : List Ty} {vs : List ByteArray} {t : List Nd} {other : List (List Ev)} {en : En} : evalV sc vs (frEn vs t other en) t = evalV sc vs en t := by
  unfold evalV
  split
  · rename_i hr
    simp only [runT, Bool.and_eq_true] at hr
    have hall : ∀ x ∈ t, nodeOk vs t x = true := by
      have := hr.2
      unfold okTo at this
      rw [List.take_length, List.all_eq_true] at this
      exact this
    have T := tre_of hr.1
    have key : ∀ j, j ≤ t.length → valsTo sc (t.map (itemV vs)) (frEn vs t other en) t j = valsTo sc (t.map (itemV vs)) en t j := by
      intro j
      induction j with
      | zero => intro _; rfl
      | succ j ih =>
        intro hj
        simp only [valsTo]
        rw [ih (by omega)]
        have hg : t.getD j nd0 = t[j]'(by omega) := by rw [List.getD_eq_getElem?_getD, List.getElem?_eq_getElem (by omega)]; rfl
        have hi : (t.map (itemV vs)).getD j 0 = itemV vs (t[j]'(by omega)) := by rw [List.getD_eq_getElem?_getD, List.getElem?_map, List.getElem?_eq_getElem (by omega)]; rfl
        rw [hg, hi, frame_node (op_pos T j (by omega)) (List.getElem_mem _) (hall _ (List.getElem_mem _))]
    have hp := T.pos
    unfold valAt
    rw [key _ (by omega)]
  · rfl
end Go.Proofs.YtkfphaphiikloaaDoor
