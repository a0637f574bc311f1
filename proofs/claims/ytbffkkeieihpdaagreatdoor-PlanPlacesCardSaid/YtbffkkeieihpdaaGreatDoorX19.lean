import Derived.Test.YtbffkkeieihpdaaGreatDoorX18
set_option linter.unusedSimpArgs false
set_option linter.unusedVariables false
set_option linter.constructorNameAsVariable false
set_option maxRecDepth 100000
set_option maxHeartbeats 4000000
namespace Go.Proofs.YtbffkkeieihpdaaGreatDoor
open Go Go.Eng
def namesTo (t : List Nd) : Nat → List ByteArray
 | 0 => []
 | k + 1 => addX (namesTo t k) (t.getD k nd0)
def namesOf (t : List Nd) : List ByteArray := namesTo t t.length
theorem ix_app {l : List ByteArray} {z : ByteArray} (m : List ByteArray) (h : l.findIdx (· == z) < l.length) : ixOf (l ++ m) z = ixOf l z ∧ (l ++ m).findIdx (· == z) < (l ++ m).length := by
 have hf : (l ++ m).findIdx (· == z) = l.findIdx (· == z) := by rw [List.findIdx_append, if_pos h]
 have h2 : l.findIdx (· == z) < (l ++ m).length := by rw [List.length_append]; omega
 unfold ixOf
 rw [hf, if_pos h, if_pos h2]
 exact ⟨rfl, h2⟩
theorem add_has (l : List ByteArray) (z : ByteArray) : (addN l z).findIdx (· == z) < (addN l z).length := by
 unfold addN
 split
 ·assumption
 ·exact List.findIdx_lt_length_of_exists ⟨z, by simp, by rw [ba_beq]⟩
theorem addX_app (l : List ByteArray) (x : Nd) : ∃ m, addX l x = l ++ m := by
 unfold addX addN
 split
 ·split
  ·exact ⟨[], by simp⟩
  ·exact ⟨_, rfl⟩
 ·exact ⟨[], by simp⟩
theorem names_app (t : List Nd) (k : Nat) : ∀ d, ∃ m, namesTo t (k + d) = namesTo t k ++ m
 | 0 => ⟨[], by simp⟩
 | d + 1 => by
  obtain ⟨m, h⟩ := names_app t k d
  obtain ⟨m', h'⟩ := addX_app (namesTo t (k + d)) (t.getD (k + d) nd0)
  exact ⟨m ++ m', by show namesTo t (k + d + 1) = _; rw [namesTo, h', h, List.append_assoc]⟩
def ownT (vs : List ByteArray) (t : List Nd) (j : Nat) : Ins := ownI (namesOf t) (itemV vs (t.getD j nd0)) (t.getD j nd0)
theorem own_stable {vs : List ByteArray} {t : List Nd} {k : Nat} (hk : k < t.length) (h1 : 1 ≤ (t.getD k nd0).op) : ownI (namesTo t (k + 1)) (itemV vs (t.getD k nd0)) (t.getD k nd0) = ownT vs t k := by
 obtain ⟨m, hm⟩ := names_app t (k + 1) (t.length - (k + 1))
 rw [show k + 1 + (t.length - (k + 1)) = t.length by omega] at hm
 unfold ownT namesOf
 rw [hm]
 generalize hx : t.getD k nd0 = x at *
 have key : 4 ≤ x.op ∧ x.op ≤ 11 ∧ x.op ≠ 5 → ixOf (namesTo t (k + 1) ++ m) x.attr = ixOf (namesTo t (k + 1)) x.attr := fun h => by
  have : namesTo t (k + 1) = addN (namesTo t k) x.attr := by rw [namesTo, hx, addX, if_pos h]
  exact (ix_app m (by rw [this]; exact add_has _ _)).1
 unfold ownI
 by_cases h4 : 4 ≤ x.op ∧ x.op ≤ 11 ∧ x.op ≠ 5
 ·rw [key h4]
 ·repeat' (first | rfl | split)
  all_goals (exfalso; omega)
theorem names_len (t : List Nd) : ∀ k, (namesTo t k).length ≤ k
 | 0 => Nat.le_refl _
 | k + 1 => by
  have := names_len t k
  simp only [namesTo, addX, addN]
  split
  ·split
   ·omega
   ·simp; omega
  ·omega
def jmpT (t : List Nd) (to : Nat → Nat) (j : Nat) : Ins := match parT t j with
 | some p => ⟨(t.getD p nd0).op, 0, 0, 0, to p⟩
 | none => zI
def toP (t : List Nd) (i p : Nat) : Nat := if p < i then posT t p + 1 else 0
def codeT (vs : List ByteArray) (t : List Nd) : List Ins := layT t (ownT vs t) (jmpT t fun p => posT t p + 1) t.length
def compP (sc : List Ty) (vs : List ByteArray) (t : List Nd) : Pr := if runT vs t = true then ⟨codeT vs t, (namesOf t).map (colOf sc)⟩ else ⟨[], []⟩
def bhT (t : List Nd) (k j : Nat) : Int := match parT t j with
 | some p => if p < k then (t.getD p nd0).op else 0
 | none => 0
def bhL (t : List Nd) (k : Nat) : List Int := (List.range t.length).map (bhT t k)
def jpL (t : List Nd) (i : Nat) : List Int := (List.range t.length).map fun j => if j < i ∧ (parT t j).isSome = true then (posT t j : Int) + 1 else 0
theorem getD_at {t : List Nd} {i : Nat} (hi : i < t.length) : t.getD i nd0 = t[i] := by rw [List.getD_eq_getElem?_getD, List.getElem?_eq_getElem hi]; rfl
section
variable {t : List Nd}
theorem bhL_len (k : Nat) : (bhL t k).length = t.length := by simp [bhL]
theorem jpL_len (k : Nat) : (jpL t k).length = t.length := by simp [jpL]
theorem bhL_zero : bhL t 0 = List.replicate t.length 0 := by
 refine List.eq_replicate_iff.2 ⟨bhL_len 0, fun b hb => ?_⟩
 obtain ⟨j, _, rfl⟩ := List.mem_map.1 hb
 unfold bhT
 split
 ·rw [if_neg (by omega)]
 ·rfl
theorem jpL_zero : jpL t 0 = List.replicate t.length 0 := by
 refine List.eq_replicate_iff.2 ⟨jpL_len 0, fun b hb => ?_⟩
 obtain ⟨j, _, rfl⟩ := List.mem_map.1 hb
 rw [if_neg (by omega)]
theorem bh_end (j : Nat) : bhT t t.length j = match parT t j with
  | some p => (t.getD p nd0).op
  | none => 0 := by
 unfold bhT
 cases h : parT t j with
 | none => rfl
 | some p => simp only; rw [if_pos (par_is h).1]
theorem bhL_at {j : Nat} (hj : j < t.length) (k : Nat) : (bhL t k)[j]? = some (bhT t k j) := by
 rw [bhL, List.getElem?_map, List.getElem?_range hj]; rfl
theorem jpL_at {j : Nat} (hj : j < t.length) (k : Nat) : (jpL t k)[j]? = some (if j < k ∧ (parT t j).isSome = true then (posT t j : Int) + 1 else 0) := by
 rw [jpL, List.getElem?_map, List.getElem?_range hj]; rfl
theorem jpL_skip {i : Nat} (h : parT t i = none) : jpL t (i + 1) = jpL t i := by
 refine List.map_congr_left fun j _ => ?_
 by_cases e : j = i
 ·subst e; rw [h]; simp
 ·have : j < i + 1 ↔ j < i := by omega
  simp only [this]
theorem jpL_set {i : Nat} (hi : i < t.length) (h : (parT t i).isSome = true) : (jpL t i).set i ((posT t i : Int) + 1) = jpL t (i + 1) := by
 refine List.ext_getElem? fun j => ?_
 rw [List.getElem?_set]
 by_cases e : i = j
 ·subst e
  rw [if_pos rfl, if_pos (by rw [jpL_len]; exact hi), jpL_at hi, if_pos ⟨by omega, h⟩]
 ·rw [if_neg e]
  by_cases hj : j < t.length
  ·rw [jpL_at hj, jpL_at hj]
   have : j < i + 1 ↔ j < i := by omega
   simp only [this]
  ·rw [List.getElem?_eq_none (by rw [jpL_len]; omega), List.getElem?_eq_none (by rw [jpL_len]; omega)]
theorem bhL_skip {k : Nat} (hk : k < t.length) (h : t[k].op < 25) : bhL t (k + 1) = bhL t k := by
 refine List.map_congr_left fun j _ => ?_
 unfold bhT
 cases hp : parT t j with
 | none => rfl
 | some p =>
  obtain ⟨h1, h2, _⟩ := par_is hp
  have : p ≠ k := fun e => by subst e; omega
  have : p < k + 1 ↔ p < k := by omega
  simp only [this]
variable {lo : Nat → Nat} (T : Tre t lo)
include T
theorem bhL_set {k a : Nat} (hk : k < t.length) (h : 25 ≤ t[k].op) (ha : t[k].a = (a : Int)) : (bhL t k).set a t[k].op = bhL t (k + 1) := by
 have hpa := par_at T hk h ha
 refine List.ext_getElem? fun j => ?_
 rw [List.getElem?_set]
 by_cases e : a = j
 ·subst e
  have hal : a < t.length := by
   obtain ⟨h1, h2, _⟩ := sz_bin T hk (by omega)
   omega
  rw [if_pos rfl, if_pos (by rw [bhL_len]; exact hal), bhL_at hal, bhT, hpa]
  simp only
  rw [if_pos (by omega), getD_at hk]
 ·rw [if_neg e]
  by_cases hj : j < t.length
  ·rw [bhL_at hj, bhL_at hj]
   unfold bhT
   cases hp : parT t j with
   | none => rfl
   | some p =>
    have : p ≠ k := fun e2 => by
     subst e2
     obtain ⟨_, _, h3⟩ := par_is hp
     omega
    have : p < k + 1 ↔ p < k := by omega
    simp only [this]
  ·rw [List.getElem?_eq_none (by rw [bhL_len]; omega), List.getElem?_eq_none (by rw [bhL_len]; omega)]
def progT (vs : List ByteArray) (t : List Nd) (i : Nat) : List Ins := layT t (ownT vs t) (jmpT t (toP t i)) i
omit T in
theorem prog_len (vs : List ByteArray) (i : Nat) : (progT vs t i).length = posT t i := lay_len _ _ _
omit T in
theorem prog_own {vs : List ByteArray} {i : Nat} (hi : i < t.length) (h : t[i].op < 25) : progT vs t i = layT t (ownT vs t) (jmpT t (toP t (i + 1))) i := by
 refine lay_ext i (fun _ _ => rfl) fun j hj hp => ?_
 unfold jmpT
 cases hq : parT t j with
 | none => rfl
 | some p =>
  obtain ⟨h1, h2, _⟩ := par_is hq
  have : p ≠ i := fun e => by subst e; omega
  have : p < i + 1 ↔ p < i := by omega
  simp only [toP, this]
theorem prog_set {vs : List ByteArray} {i a : Nat} (hi : i < t.length) (h : 25 ≤ t[i].op) (ha : t[i].a = (a : Int)) :
  (progT vs t i).set (posT t a + 1) ⟨t[i].op, 0, 0, 0, (posT t i : Int) + 1⟩ = layT t (ownT vs t) (jmpT t (toP t (i + 1))) i ∧ (progT vs t i)[posT t a + 1]? = some ⟨t[i].op, 0, 0, 0, 0⟩ := by
 have hpa := par_at T hi h ha
 have hai : a < i := by
  obtain ⟨h1, h2, _⟩ := sz_bin T hi (by omega)
  omega
 have hset := lay_setj (t := t) (f := ownT vs t) (g := jmpT t (toP t i)) (k := a) ⟨t[i].op, 0, 0, 0, (posT t i : Int) + 1⟩ (by rw [hpa]; rfl) hai
 refine ⟨?_, ?_⟩
 ·unfold progT
  rw [hset]
  refine lay_ext i (fun _ _ => rfl) fun j hj hp => ?_
  unfold updF
  by_cases e : j = a
  ·subst e
   rw [if_pos rfl, jmpT, hpa]
   simp only [toP]
   rw [if_pos (by omega), getD_at hi]
   simp
  ·rw [if_neg e]
   unfold jmpT
   cases hq : parT t j with
   | none => rfl
   | some p =>
    have : p ≠ i := fun e2 => by
     subst e2
     obtain ⟨_, _, h3⟩ := par_is hq
     omega
    have : p < i + 1 ↔ p < i := by omega
    simp only [toP, this]
 ·unfold progT
  have hg : ∀ (n : Nat), a < n → (layT t (ownT vs t) (jmpT t (toP t i)) n)[posT t a + 1]? = some (jmpT t (toP t i) a) := by
   intro n
   induction n with
   | zero => intro h; omega
   | succ n ih =>
    intro hn
    simp only [layT]
    by_cases e : a = n
    ·subst e
     rw [List.getElem?_append_right (by rw [lay_len]; omega), lay_len, Nat.add_sub_cancel_left, hpa]
     rfl
    ·have hl := pos_lt (t := t) (k := a) (n := n) (by omega)
     rw [hpa] at hl
     simp only [Option.isSome_some, if_true] at hl
     rw [List.getElem?_append_left (by rw [lay_len]; omega)]
     exact ih (by omega)
  rw [hg i hai, jmpT, hpa]
  simp only [toP]
  rw [if_neg (by omega), getD_at hi]
  rfl
theorem prog_succ (vs : List ByteArray) (i : Nat) : progT vs t (i + 1) = layT t (ownT vs t) (jmpT t (toP t (i + 1))) i ++ ownT vs t i :: (if (parT t i).isSome = true then [⟨bhT t t.length i, 0, 0, 0, 0⟩] else []) := by
 unfold progT
 simp only [layT]
 congr 2
 cases h : parT t i with
 | none => rfl
 | some p =>
  obtain ⟨h1, h2, h3⟩ := par_is h
  simp only [Option.isSome_some, if_true]
  rw [bh_end, h, jmpT, h]
  simp only [toP]
  rw [if_neg]
  ·rfl
  ·obtain ⟨k1, k2, _⟩ := sz_bin T h1 (by omega)
   omega
omit T in
theorem prog_end (vs : List ByteArray) : progT vs t t.length = codeT vs t := by
 refine lay_ext _ (fun _ _ => rfl) fun j hj hp => ?_
 unfold jmpT
 cases h : parT t j with
 | none => rfl
 | some p => simp only [toP]; rw [if_pos (par_is h).1]
end
end Go.Proofs.YtbffkkeieihpdaaGreatDoor
