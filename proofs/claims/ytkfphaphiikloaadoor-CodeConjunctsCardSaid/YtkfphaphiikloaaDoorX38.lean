/-
  THE LAWS WITHOUT THE DOCUMENT, PART I: the instructions of a joined tree begin with those of its left side: the plain law.
-/
import Derived.Test.YtkfphaphiikloaaDoorX37
set_option linter.unusedSimpArgs false
set_option linter.unusedVariables false
set_option linter.constructorNameAsVariable false
namespace Go.Proofs.YtkfphaphiikloaaDoor
open Go Go.Eng

theorem lay_pre {t : List Nd} {f g : Nat → Ins} {n : Nat} : ∀ m, ∃ r, layT t f g (n + m) = layT t f g n ++ r
  | 0 => ⟨[], by simp⟩
  | m + 1 => by
    obtain ⟨r, hr⟩ := lay_pre (t := t) (f := f) (g := g) (n := n) m
    rw [← Nat.add_assoc]
    simp only [layT, hr, List.append_assoc]
    exact ⟨_, rfl⟩
theorem lay_two {t a : List Nd} {f g f' g' : Nat → Ins} : ∀ {n : Nat}, (∀ j, j < n → f j = f' j) → (∀ j, j < n → (parT t j).isSome = (parT a j).isSome) → (∀ j, j < n → (parT a j).isSome = true → g j = g' j) → layT t f g n = layT a f' g' n
  | 0, _, _, _ => rfl
  | n + 1, h1, h2, h3 => by
    simp only [layT, lay_two (n := n) (fun j hj => h1 j (by omega)) (fun j hj => h2 j (by omega)) (fun j hj => h3 j (by omega)), h1 n (by omega), h2 n (by omega)]
    split
    · rename_i e; rw [h3 n (by omega) e]
    · rfl
theorem names_pre {a c : List Nd} : ∀ {j : Nat}, j ≤ a.length → namesTo (a ++ c) j = namesTo a j
  | 0, _ => rfl
  | j + 1, h => by
    simp only [namesTo, names_pre (show j ≤ a.length by omega)]
    rw [getD_at (show j < (a ++ c).length by simp; omega), getD_at (show j < a.length by omega), List.getElem_append_left (by omega)]
theorem pos_same {t a : List Nd} : ∀ {n : Nat}, (∀ j, j < n → (parT t j).isSome = (parT a j).isSome) → posT t n = posT a n
  | 0, _ => rfl
  | n + 1, h => by simp only [posT, pos_same (n := n) (fun j hj => h j (by omega)), h n (by omega)]
section
variable {vs : List ByteArray} {a b : List Nd} {op : Int}
/-- The joined tree. -/
def jT (op : Int) (a b : List Nd) : List Nd := a ++ b.map (onN a.length) ++ [opN op ((a.length : Int) - 1) ((a.length : Int) + b.length - 1)]
theorem jT_len : (jT op a b).length = a.length + b.length + 1 := by simp [jT]; omega
theorem jT_pre (i : Nat) (hi : i < a.length) : (jT op a b)[i]'(by rw [jT_len]; omega) = a[i] := by
  simp only [jT]
  rw [List.getElem_append_left (by simp; omega), List.getElem_append_left hi]
theorem jT_mid (i : Nat) (hi : a.length ≤ i) (hib : i < a.length + b.length) : (jT op a b)[i]'(by rw [jT_len]; omega) = onN a.length (b[i - a.length]'(by omega)) := by
  simp only [jT]
  rw [List.getElem_append_left (by simp; omega), List.getElem_append_right (by omega), List.getElem_map]
theorem jT_last : (jT op a b)[a.length + b.length]'(by rw [jT_len]; omega) = opN op ((a.length : Int) - 1) ((a.length : Int) + b.length - 1) := by
  simp only [jT]
  rw [List.getElem_append_right (by simp)]
  simp
theorem jT_names : ∃ m, namesOf (jT op a b) = namesOf a ++ m := by
  obtain ⟨m, hm⟩ := names_app (jT op a b) a.length (b.length + 1)
  refine ⟨m, ?_⟩
  unfold namesOf
  rw [jT_len, show a.length + b.length + 1 = a.length + (b.length + 1) by omega, hm]
  rw [show jT op a b = a ++ (b.map (onN a.length) ++ [opN op ((a.length : Int) - 1) ((a.length : Int) + b.length - 1)]) by simp [jT], names_pre (Nat.le_refl _)]
theorem jT_own (A : Tre a (loOf a)) (j : Nat) (hj : j < a.length) : ownT vs (jT op a b) j = ownT vs a j := by
  have hjl : j < (jT op a b).length := by rw [jT_len]; omega
  have h1 : (jT op a b).getD j nd0 = a.getD j nd0 := by rw [getD_at hjl, getD_at hj, jT_pre j hj]
  have ho : 1 ≤ (a.getD j nd0).op := by
    rw [getD_at hj]
    rcases A.kind j hj with ⟨h1, h2, _⟩ | ⟨h1, _⟩ | ⟨h1, h2, _⟩ <;> omega
  have h2 := own_stable (vs := vs) hjl (by rw [h1]; exact ho)
  have h3 := own_stable (vs := vs) hj ho
  rw [h1] at h2
  rw [← h2, ← h3]
  rw [show jT op a b = a ++ (b.map (onN a.length) ++ [opN op ((a.length : Int) - 1) ((a.length : Int) + b.length - 1)]) by simp [jT], names_pre (by omega)]
theorem par_uni {t : List Nd} {lo : Nat → Nat} (T : Tre t lo) {i j : Nat} (hi : i < t.length) (ho : 25 ≤ t[i].op) (ha : t[i].a = (j : Int)) : parT t j = some i := par_at T hi ho ha
theorem jT_par (A : Tre a (loOf a)) (B : Tre b (loOf b)) {lo : Nat → Nat} (T : Tre (jT op a b) lo) (j : Nat) (hj : j < a.length - 1) : parT (jT op a b) j = parT a j := by
  cases h : parT a j with
  | some p =>
    obtain ⟨hp, h1, h2⟩ := par_is h
    have hpl : p < (jT op a b).length := by rw [jT_len]; omega
    exact par_at T hpl (by rw [jT_pre p hp]; exact h1) (by rw [jT_pre p hp]; exact h2)
  | none =>
    cases h' : parT (jT op a b) j with
    | none => rfl
    | some p =>
      obtain ⟨hp, h1, h2⟩ := par_is h'
      have hp' := hp
      rw [jT_len] at hp'
      by_cases hpa : p < a.length
      · rw [jT_pre p hpa] at h1 h2
        rw [par_at A hpa h1 h2] at h
        cases h
      · by_cases hpb : p < a.length + b.length
        · rw [jT_mid p (by omega) hpb] at h2
          simp only [onN] at h2
          rcases B.kind (p - a.length) (by omega) with ⟨b1, b2, b3, b4, b5⟩ | ⟨b0, b1, b2, b3, b4⟩ | ⟨b0, b0', b1, b2, c, b3, b4, b5⟩
          · rw [if_neg (by omega)] at h2; omega
          · rw [if_pos (by omega)] at h2; omega
          · rw [if_pos (by omega)] at h2; omega
        · obtain rfl : p = a.length + b.length := by omega
          rw [jT_last] at h2
          simp only [opN] at h2
          omega
/-- The instructions of the left side, the jump, the rest. -/
theorem jT_code (A : Tre a (loOf a)) (B : Tre b (loOf b)) {lo : Nat → Nat} (T : Tre (jT op a b) lo) (ho : 25 ≤ op) : ∃ r, codeT vs (jT op a b) = codeT vs a ++ (⟨op, 0, 0, 0, ((codeT vs (jT op a b)).length : Int)⟩ : Ins) :: r ∧ r ≠ [] := by
  have hp := A.pos
  obtain ⟨k, hk⟩ : ∃ k, a.length = k + 1 := ⟨a.length - 1, by omega⟩
  have hlastl : a.length + b.length < (jT op a b).length := by rw [jT_len]; omega
  have hpk : parT (jT op a b) k = some (a.length + b.length) := par_at T hlastl (by rw [jT_last]; exact ho) (by rw [jT_last]; simp only [opN]; omega)
  have hpa : parT a k = none := by have := par_root A; rwa [show a.length - 1 = k by omega] at this
  have hps : ∀ j, j < k → (parT (jT op a b) j).isSome = (parT a j).isSome := fun j hj => by rw [jT_par A B T j (by omega)]
  have hpos : ∀ p, p ≤ k → posT (jT op a b) p = posT a p := fun p hpk => pos_same fun j hj => hps j (by omega)
  have hl := lay_two (t := jT op a b) (a := a) (f := ownT vs (jT op a b)) (f' := ownT vs a) (g := jmpT (jT op a b) fun p => posT (jT op a b) p + 1) (g' := jmpT a fun p => posT a p + 1) (n := k) (fun j hj => jT_own A j (by omega)) hps (fun j hj hs => by
    unfold jmpT
    rw [jT_par A B T j (by omega)]
    cases h : parT a j with
    | none => rfl
    | some p =>
      obtain ⟨hpl, h1, h2⟩ := par_is h
      simp only []
      rw [hpos p (by omega), getD_at hpl, getD_at (show p < (jT op a b).length by rw [jT_len]; omega), jT_pre p hpl])
  have hca : codeT vs a = layT a (ownT vs a) (jmpT a fun p => posT a p + 1) k ++ [ownT vs a k] := by
    unfold codeT
    rw [hk]
    simp only [layT, hpa]
    simp
  have hjm : jmpT (jT op a b) (fun p => posT (jT op a b) p + 1) k = ⟨op, 0, 0, 0, ((codeT vs (jT op a b)).length : Int)⟩ := by
    unfold jmpT
    rw [hpk]
    simp only []
    rw [getD_at hlastl, jT_last, codeT, lay_len, pos_end T, jT_len, Nat.add_sub_cancel]
    simp [opN]
  obtain ⟨r, hr⟩ := lay_pre (t := jT op a b) (f := ownT vs (jT op a b)) (g := jmpT (jT op a b) fun p => posT (jT op a b) p + 1) (n := k + 1) (b.length + 1)
  have hct : codeT vs (jT op a b) = codeT vs a ++ (⟨op, 0, 0, 0, ((codeT vs (jT op a b)).length : Int)⟩ : Ins) :: r := by
    have e : codeT vs (jT op a b) = layT (jT op a b) (ownT vs (jT op a b)) (jmpT (jT op a b) fun p => posT (jT op a b) p + 1) (k + 1 + (b.length + 1)) := by
      unfold codeT; rw [jT_len, hk]; rfl
    have e2 : layT (jT op a b) (ownT vs (jT op a b)) (jmpT (jT op a b) fun p => posT (jT op a b) p + 1) (k + 1) = codeT vs a ++ [(⟨op, 0, 0, 0, ((codeT vs (jT op a b)).length : Int)⟩ : Ins)] := by
      simp only [layT, hpk, hl, hjm, jT_own A k (by omega)]
      rw [hca]
      simp
    rw [e2] at hr
    rw [hr] at e
    refine e.trans ?_
    simp
  refine ⟨r, hct, fun h0 => ?_⟩
  have h1 := congrArg List.length hr
  rw [lay_len, List.length_append, lay_len, h0] at h1
  have h2 := pos_lt (t := jT op a b) (k := k + 1) (n := k + 1 + (b.length + 1)) (by omega)
  simp only [List.length_nil] at h1
  omega
end
end Go.Proofs.YtkfphaphiikloaaDoor

/-
  THE LAWS WITHOUT THE DOCUMENT, PART K: the right side's instructions overwritten: the plain law.
-/
namespace Go.Proofs.YtkfphaphiikloaaDoor
open Go Go.Eng

theorem wr_app2 {α : Type} : ∀ (cs : List α) (a b c : List α), b.length = cs.length → wr (a ++ b ++ c) a.length cs = a ++ cs ++ c
  | [], a, b, c, h => by
    have : b = [] := List.eq_nil_of_length_eq_zero h
    subst this; rfl
  | x :: r, a, [], c, h => by simp at h
  | x :: r, a, y :: b, c, h => by
    have e : ((a ++ (y :: b) ++ c).set a.length x) = (a ++ [x]) ++ b ++ c := by
      rw [List.append_assoc, List.set_append_right _ _ (Nat.le_refl _), Nat.sub_self]
      simp
    have := wr_app2 r (a ++ [x]) b c (by simpa using h)
    rw [List.length_append] at this
    simp only [wr, e]
    rw [show a.length + [x].length = a.length + 1 by rfl] at this
    rw [this]
    simp
theorem flat_wr2 {α : Type} {sz : Nat} {d : De α} {en : α → List AV} (f : Flat sz d en) (y : α) : ∀ (l : List α) (i : Nat), i < l.length → wr (l.flatMap en) (i * sz) (en y) = (l.set i y).flatMap en := fun l i hi => by
  have h1 : l = l.take i ++ l[i] :: l.drop (i + 1) := by rw [← List.drop_eq_getElem_cons hi, List.take_append_drop]
  have hl : ((l.take i).flatMap en).length = i * sz := by rw [flat_len f, List.length_take]; congr 1; omega
  have e1 : l.flatMap en = (l.take i).flatMap en ++ en l[i] ++ (l.drop (i + 1)).flatMap en := by
    conv => lhs; rw [h1]
    rw [List.flatMap_append, List.flatMap_cons, List.append_assoc]
  have := wr_app2 (en y) ((l.take i).flatMap en) (en l[i]) ((l.drop (i + 1)).flatMap en) (by rw [f.len, f.len])
  rw [hl, ← e1] at this
  rw [this, List.set_eq_take_append_cons_drop, if_pos hi, List.flatMap_append, List.flatMap_cons, List.append_assoc]
def z99 : Ins := ⟨99, 0, 0, 0, 0⟩
/-- k places from s on, overwritten. -/
def bl (l : List Ins) (s : Nat) : Nat → List Ins
  | 0 => l
  | k + 1 => (bl l s k).set (s + k) z99
theorem bl_len (l : List Ins) (s : Nat) : ∀ k, (bl l s k).length = l.length
  | 0 => rfl
  | k + 1 => by rw [bl, List.length_set, bl_len l s k]
theorem bl_get (l : List Ins) (s : Nat) : ∀ (k i : Nat), i < l.length → (bl l s k)[i]? = if s ≤ i ∧ i < s + k then some z99 else l[i]?
  | 0, i, _ => by rw [bl, if_neg (by omega)]
  | k + 1, i, hi => by
    rw [bl, List.getElem?_set]
    by_cases e : s + k = i
    · rw [if_pos e, if_pos (by rw [bl_len]; omega), if_pos (by omega)]
    · rw [if_neg e, bl_get l s k i hi]
      by_cases h : s ≤ i ∧ i < s + k
      · rw [if_pos h, if_pos (by omega)]
      · rw [if_neg h, if_neg (by omega)]
section
variable {sc : List Ty} {vs : List ByteArray} {en : En} {a b : List Nd} {op : Int}
/-- What is left runs as the law says. -/
theorem skip_run (ha : runT vs a = true) (hb : runT vs b = true) (ho : op = 25 ∨ op = 26) (hta : truthT a = true) (htb : truthT b = true) (hs : a.length + b.length < 4611686018427387904) :
    (codeT vs a).length + 1 < (compP sc vs (joinT op a b)).code.length ∧
    runV ⟨bl (compP sc vs (joinT op a b)).code ((codeT vs a).length + 1) ((compP sc vs (joinT op a b)).code.length - ((codeT vs a).length + 1)), (compP sc vs (joinT op a b)).cols⟩ en =
      if (evalV sc vs en a).k = true ∧ ((evalV sc vs en a).n ≠ 0 ↔ op = 26) then (evalV sc vs en a, 0) else bad := by
  obtain ⟨h1, _⟩ := run_tree ha
  obtain ⟨h3, _⟩ := run_tree hb
  have hw : wantsT op = true := by rcases ho with rfl | rfl <;> rfl
  have hr : runT vs (joinT op a b) = true := by rw [run_bin ha hb (by omega) (by omega) hs, hta, htb, hw]; rfl
  have hj : joinT op a b = jT op a b := join_bin (by omega) h3 hs
  rw [compP, if_pos hr]
  simp only []
  rw [hj] at hr ⊢
  obtain ⟨h5, _⟩ := run_tree hr
  obtain ⟨r, hc, hne⟩ := jT_code (vs := vs) (tre_of h1) (tre_of h3) (tre_of h5) (show 25 ≤ op by omega)
  obtain ⟨m, hm⟩ := jT_names (a := a) (b := b) (op := op)
  obtain ⟨L, hL⟩ : ∃ L, L = (codeT vs (jT op a b)).length := ⟨_, rfl⟩
  rw [← hL] at hc ⊢
  have hrl : 0 < r.length := List.length_pos_iff.2 hne
  have hlen : L = (codeT vs a).length + 1 + r.length := by rw [hL, hc]; simp; omega
  obtain ⟨f, hf⟩ : ∃ f, f = (codeT vs a).length := ⟨_, rfl⟩
  rw [← hf] at hlen ⊢
  refine ⟨by omega, ?_⟩
  have hget : ∀ i, i < f → (bl (codeT vs (jT op a b)) (f + 1) (L - (f + 1)))[i]? = (codeT vs a)[i]? := fun i hi => by
    rw [bl_get _ _ _ _ (by omega), if_neg (by omega), hc, List.getElem?_append_left (by omega)]
  have hjmp : (bl (codeT vs (jT op a b)) (f + 1) (L - (f + 1)))[f]? = some ⟨op, 0, 0, 0, (L : Int)⟩ := by
    rw [bl_get _ _ _ _ (by omega), if_neg (by omega), hc, hf, List.getElem?_append_right (Nat.le_refl _), Nat.sub_self]
    rfl
  have hbad : (bl (codeT vs (jT op a b)) (f + 1) (L - (f + 1)))[f + 1]? = some z99 := by
    rw [bl_get _ _ _ _ (by omega), if_pos (by omega)]
  have hbl : (bl (codeT vs (jT op a b)) (f + 1) (L - (f + 1))).length = L := by rw [bl_len, hL]
  generalize hcode : bl (codeT vs (jT op a b)) (f + 1) (L - (f + 1)) = code at *
  have hall := run_all (sc := sc) (en := en) (P := ⟨code, (namesOf (jT op a b)).map (colOf sc)⟩) (fun pos x hx => by
    have hp : pos < f := by
      have := (List.getElem?_eq_some_iff.1 hx).1
      omega
    rw [← hx]
    exact hget pos hp) (fun k c hk => by
    simp only []
    rw [hm, List.map_append, List.getElem?_append_left (List.getElem?_eq_some_iff.1 hk).1]
    exact hk) ha
  rw [hall, ← hf]
  generalize evalV sc vs en a = x at *
  obtain ⟨j1, j2⟩ : ∃ h : f < code.length, code[f]'h = ⟨op, 0, 0, 0, (L : Int)⟩ := List.getElem?_eq_some_iff.1 hjmp
  obtain ⟨z1, z2⟩ : ∃ h : f + 1 < code.length, code[f + 1]'h = z99 := List.getElem?_eq_some_iff.1 hbad
  have hne2 : ¬ (needsV (⟨op, 0, 0, 0, (L : Int)⟩ : Ins).code < 0 ∨ (([x] : List V).length : Int) < needsV (⟨op, 0, 0, 0, (L : Int)⟩ : Ins).code) := by
    simp only [needsV, List.length_cons, List.length_nil]
    (repeat' split) <;> omega
  have hjt : ¬ ((⟨op, 0, 0, 0, (L : Int)⟩ : Ins).to ≤ ((f : Nat) : Int) ∨ (⟨op, 0, 0, 0, (L : Int)⟩ : Ins).to > (code.length : Int)) := by
    simp only []
    omega
  have hg : ([x] : List V).getLastD unk = x := rfl
  by_cases hd : x.k = true ∧ (x.n ≠ 0 ↔ op = 26)
  · rw [if_pos hd]
    have hst := step_jump (p := ⟨code, (namesOf (jT op a b)).map (colOf sc)⟩) (e := en) (pos := f) (st := [x]) hne2 (show 25 ≤ op by omega) hjt (by rw [hg]; exact hd)
    rw [← j2] at hst
    rw [from_some j1 hst]
    simp only [j2]
    rw [from_end (by simp only []; omega)]
    rfl
  · rw [if_neg hd]
    have hst := step_stay (p := ⟨code, (namesOf (jT op a b)).map (colOf sc)⟩) (e := en) (pos := f) (st := [x]) hne2 (show 25 ≤ op by omega) hjt (by rw [hg]; exact hd)
    rw [← j2] at hst
    rw [from_some j1 hst]
    refine from_none z1 ?_
    rw [z2]
    simp [stepV, z99, needsV]
end
end Go.Proofs.YtkfphaphiikloaaDoor

/-
  THE LAWS WITHOUT THE DOCUMENT, PART O: a subtree, copied and turned into a tree of its own (the program's).
-/
namespace Go.Proofs.YtkfphaphiikloaaDoor
open Go Go.Eng

def subC (lo : Nat) (x : List Nd) (j : Nat) : List AV := ((x.take j).map (offN lo) ++ x.drop j).flatMap ncells
def tb52 : List (FuncId × (List AV → Heap → PRes)) := [(89, G89)]
theorem wr_all {α : Type} {l cs : List α} (h : l.length = cs.length) : wr l 0 cs = cs := by
  have := wr_app2 cs [] l [] (by simpa using h)
  simpa using this
theorem nth_nd {p q : List Nd} {x : Nd} {j c : Nat} {v : AV} (hp : p.length = j) (hc : (ncells x)[c]? = some v) (hc6 : c < 6) : ((p ++ x :: q).flatMap ncells)[j * 6 + c]? = some v := by
  have hl : (p.flatMap ncells).length = j * 6 := by rw [flat_len Flat.nd, hp]
  rw [List.flatMap_append, List.flatMap_cons, List.getElem?_append_right (by omega), hl, show j * 6 + c - j * 6 = c by omega, List.getElem?_append_left (by rw [show (ncells x).length = 6 from rfl]; exact hc6)]
  exact hc
theorem wr_nd {p q : List Nd} {x y : Nd} {j c : Nat} {v : AV} (hp : p.length = j) (h : (ncells x).set c v = ncells y) (hc6 : c < 6) : ((p ++ x :: q).flatMap ncells).set (j * 6 + c) v = (p ++ y :: q).flatMap ncells := by
  have hl : (p.flatMap ncells).length = j * 6 := by rw [flat_len Flat.nd, hp]
  rw [List.flatMap_append, List.flatMap_cons, List.set_append_right _ _ (by omega), hl, show j * 6 + c - j * 6 = c by omega, List.set_append_left _ _ (by rw [show (ncells x).length = 6 from rfl]; exact hc6), h, List.flatMap_append, List.flatMap_cons]
theorem kids_rng {t : List Nd} {lo : Nat → Nat} (T : Tre t lo) {i : Nat} (hi : i < t.length) : -1 ≤ t[i].a ∧ t[i].a < t.length ∧ -1 ≤ t[i].b ∧ t[i].b < t.length := by
  rcases T.kind i hi with ⟨b1, b2, b3, b4, b⟩ | ⟨b0, b1, b2, b3, b⟩ | ⟨b0, b0', b1, b2, a, b3, b4, b⟩
  · omega
  · omega
  · have := T.le (i - 1) (by omega)
    omega
theorem flat_dropn (l : List Nd) (m : Nat) : (l.flatMap ncells).drop (m * 6) = (l.drop m).flatMap ncells := by
  by_cases h : m ≤ l.length
  · have h1 : ((l.take m).flatMap ncells).length = m * 6 := by rw [flat_len Flat.nd, List.length_take, Nat.min_eq_left h]
    conv => lhs; rw [← List.take_append_drop m l, List.flatMap_append, ← h1, List.drop_left]
  · have h1 : l.drop m = [] := List.drop_eq_nil_of_le (by omega)
    rw [h1, List.drop_eq_nil_of_le (by rw [flat_len Flat.nd]; omega)]; rfl
theorem flat_taken (l : List Nd) (m : Nat) : (l.flatMap ncells).take (m * 6) = (l.take m).flatMap ncells := by
  by_cases h : m ≤ l.length
  · have h1 : ((l.take m).flatMap ncells).length = m * 6 := by rw [flat_len Flat.nd, List.length_take, Nat.min_eq_left h]
    conv => lhs; rw [← List.take_append_drop m l, List.flatMap_append, ← h1, List.take_left]
  · rw [List.take_of_length_le (l := l) (by omega), List.take_of_length_le (by rw [flat_len Flat.nd]; omega)]
set_option maxRecDepth 100000 in
set_option maxHeartbeats 4000000 in
theorem c52 {h : Heap} {n : Nat} {a : AV} {t : List Nd} {r : Nat} (e1 : rd dNs h a = some t) (ht : tree1 t = true) (hsm : smallT t) (hr : r < t.length) (hn : Fresh n h) :
    ACall (cx [7] (pfL tb52)) 52 [a, ii r] h n fun z h' n' => agree n h h' ∧ Fresh n' h' ∧ n ≤ n' ∧ ∃ w, z = .s w 0 0 (subT t r).length ∧ h' w = some ⟨(subT t r).flatMap ncells, 0, true, 6⟩ ∧ n ≤ w ∧ w < n' := by
  refine acall_of_awp (args := [a, ii r]) (pfL_ok (tb_cons P89 tb_nil)) (mixed _ _) Tryd.func52 (c := Tryd.f52.body.getD .skip) rfl (by kernel_rfl) (callable Tryd.func52 rfl rfl _ _) (show 2 ≤ Tryd.f52.ntmps by decide +kernel) ?_
  obtain ⟨s1, s2, s3, s4, s5⟩ := sl_is e1
  have T := tre_of ht
  have hlo := T.le r hr
  have b1 : t.length * 64 ≤ 140737488355328 := hsm
  have hsub : subT t r = ((t.drop (loOf t r)).take (szN t r)).map (offN (loOf t r)) := rfl
  have hsl : (subT t r).length = szN t r := cut_len hr hlo
  have hsz : szN t r = r + 1 - loOf t r := rfl
  rw [hsl, hsub]
  have g1 : ∀ h', agree n h h' → rd dNs h' a = some t := fun h' ha => rd_agr hn e1 h' ha
  have f1 : ∀ h', agree n h h' → G89 [a, ii r] h' = ⟨okTr (t, (r : Int)), ii (szN t r)⟩ := fun h' ha => by
    simp only [G89, pureH, deTI, ii, g1 h' ha, Option.map_some, Int.toNat_natCast]
  have f2 : okTr (t, (r : Int)) := ⟨ht, hsm, Int.natCast_nonneg _, by simpa using hr⟩
  have hik : ∀ i (hi : i < t.length), loOf t r ≤ i → i ≤ r → (0 ≤ t[i].a → (loOf t r : Int) ≤ t[i].a) ∧ (0 ≤ t[i].b → (loOf t r : Int) ≤ t[i].b) := fun i hi h1 h2 => in_kids T hr h1 h2 hi
  generalize hz : szN t r = z at *
  generalize loOf t r = lo at *
  rcases ns_at e1 with ⟨hq, _⟩ | ⟨id, off, k, rfl, hk, ho', hat⟩
  · rw [hq] at hr; simp at hr
  generalize hx : (t.drop lo).take z = x
  have key : ∀ e : Nat → AV, e 0 = .s id k.ver off t.length → e 1 = ii r → awp (cx [7] (pfL tb52)) (Tryd.f52.body.getD .skip) (finQ (cx [7] (pfL tb52)) Tryd.f52 fun v h' n' => agree n h h' ∧ Fresh n' h' ∧ n ≤ n' ∧ ∃ w, v = .s w 0 0 z ∧ h' w = some ⟨(x.map (offN lo)).flatMap ncells, 0, true, 6⟩ ∧ n ≤ w ∧ w < n') ⟨e, h, n⟩ := fun e q0 q1 => by
    have z1 : ¬ (z : Int) = 0 := by omega
    have w1 := wrap_sm (x := (r : Int) - (z : Int)) (by omega) (by omega)
    have w2 : IntKind.i64.wrap (lo : Int) = (lo : Int) := wrap_sm (by omega) (by omega)
    simp only [ii] at f1 f2
    have z2 : ¬ z = 0 := by omega
    have hl2 : (r : Int) - (z : Int) + 1 = (lo : Int) := by omega
    have z3 : 64 * (z : Int) ≤ 281474976710656 := by omega
    have z4 : (z : Int) ≤ 9223372036854775807 := by omega
    have z5 : (lo : Int) ≤ (t.length : Int) := by omega
    have hne : ¬ id = n := by simpa using ne_of hk hn 0
    have z6 : off + (lo * 6 + (t.length - lo) * 6) ≤ k.cells.length := by omega
    simp [evs, aeval, cx_ti, cx_G, cx_pf, cx_tw, ti, globS, glob, ldcs_1, ldcs_2, ldcs_3, ldcs_4, ldcs_5, ldcs_7, sls.eq_1, slc.eq_1, pfL, Tryd.f52, q0, q1, ii, s1, s2, s3, tb52, f1, f2, agree_refl, agree_up, hz, z1, z2, z3, z4, z5, z6, w1, w2, hl2, hne, hk, repZ_length]
    have hx1 : x.length = z := by simp only [← hx, List.length_take, List.length_drop]; omega
    have hcp : wr (repZ [Value.int IntKind.i64 0, Value.int IntKind.i64 0, Value.string ByteArray.empty, Value.string ByteArray.empty, Value.int IntKind.i64 0, Value.int IntKind.i64 0] z) 0 (List.take (min (t.length - lo) z * 6) (List.take ((t.length - lo) * 6) (List.drop (off + lo * 6) k.cells))) = x.flatMap ncells := by
      have hfl : (k.cells.drop off).take (t.length * 6) = t.flatMap ncells := by
        have := (flat_app Flat.nd e1).2
        simpa only [slc, hk, Nat.zero_add, Nat.add_zero] using this
      have hl2 : (x.flatMap ncells).length = z * 6 := by rw [flat_len Flat.nd, hx1]
      have e3 : List.take (min (t.length - lo) z * 6) (List.take ((t.length - lo) * 6) (List.drop (off + lo * 6) k.cells)) = x.flatMap ncells := by
        have hm : min (t.length - lo) z = z := by omega
        have h4 : List.take ((t.length - lo) * 6) (List.drop (off + lo * 6) k.cells) = (t.drop lo).flatMap ncells := by
          rw [← flat_dropn, ← hfl, List.drop_take, List.drop_drop, Nat.sub_mul]
        rw [hm, h4, flat_taken, hx]
      rw [e3]
      exact wr_all (by rw [repZ_length, hl2]; rfl)
    refine awp_loop (fun s => ∃ j : Nat, j ≤ z ∧ s.e 7 = .s n 0 0 z ∧ s.e 6 = ii lo ∧ s.e 26 = ii z ∧ s.e 27 = ii j ∧ s.h n = some ⟨subC lo x j, 0, true, 6⟩ ∧ agree n h s.h ∧ Fresh s.n s.h ∧ n + 1 ≤ s.n) (fun s => z - (s.e 27).i.toNat) ⟨0, by omega, by simp [up], by simp [up, ii], by simp [up, ii], by simp [up, ii], by simp [up, subC]; exact hcp, by simp [agree_up, agree_refl], by simp [fresh_up, hn.add], by simp⟩ ?_
    rintro e' h' n' ⟨j, hj, q7, q6, q26, q27, hkw, hag, hfr, hnn⟩
    simp only [] at q7 q6 q26 q27 hkw hag hfr hnn
    by_cases hlt : j < z
    · have hjx : j < x.length := by omega
      have hsp : x.drop j = x[j] :: x.drop (j + 1) := List.drop_eq_getElem_cons hjx
      have htk : (x.take (j + 1)).map (offN lo) = (x.take j).map (offN lo) ++ [offN lo x[j]] := by rw [List.take_succ_eq_append_getElem hjx, List.map_append]; rfl
      have hpl : ((x.take j).map (offN lo)).length = j := by rw [List.length_map, List.length_take]; omega
      have hxj : x[j] = t[lo + j]'(by omega) := by simp only [← hx, List.getElem_take, List.getElem_drop]
      have hin := kids_rng T (i := lo + j) (by omega)
      have hin := kids_rng T (i := lo + j) (by omega)
      have hin2 := hik (lo + j) (by omega) (by omega) (by omega)
      rw [← hxj] at hin hin2
      have hxl : ((x.take j).map (offN lo) ++ x.drop j).length = z := by rw [List.length_append, hpl, List.length_drop]; omega
      unfold subC at hkw
      rw [hsp] at hkw hxl
      have hfin : ∀ y', y' = offN lo x[j] → ((x.take j).map (offN lo) ++ y' :: x.drop (j + 1)).flatMap ncells = subC lo x (j + 1) := fun y' e => by rw [subC, e, htk, List.append_assoc]; rfl
      obtain ⟨y, hy⟩ : ∃ y, y = x[j] := ⟨_, rfl⟩
      rw [← hy] at hin hin2 hkw hfin hxl
      obtain ⟨p, hp⟩ : ∃ p, p = (x.take j).map (offN lo) := ⟨_, rfl⟩
      rw [← hp] at hpl hkw hfin hxl
      obtain ⟨g, hg⟩ : ∃ g, g = x.drop (j + 1) := ⟨_, rfl⟩
      rw [← hg] at hkw hfin hxl
      clear hsp htk hxj hp hg hy
      obtain ⟨op, ny, var, attr, ya, yb⟩ := y
      have hlt' : (j : Int) < (z : Int) := by omega
      have hjw := wrap_nat (j := j) (by unfold big; omega)
      simp only [] at hin hin2
      have n4 : ∀ u v : Int, ((p ++ (⟨op, ny, var, attr, u, v⟩ : Nd) :: g).flatMap ncells)[j * 6 + 4]? = some (ii u) := fun u v => nth_nd hpl rfl (by omega)
      have n5 : ∀ u v : Int, ((p ++ (⟨op, ny, var, attr, u, v⟩ : Nd) :: g).flatMap ncells)[j * 6 + 5]? = some (ii v) := fun u v => nth_nd hpl rfl (by omega)
      have m4 : ∀ u v w : Int, ((p ++ (⟨op, ny, var, attr, u, v⟩ : Nd) :: g).flatMap ncells).set (j * 6 + 4) (ii w) = (p ++ (⟨op, ny, var, attr, w, v⟩ : Nd) :: g).flatMap ncells := fun u v w => wr_nd hpl rfl (by omega)
      have m5 : ∀ u v w : Int, ((p ++ (⟨op, ny, var, attr, u, v⟩ : Nd) :: g).flatMap ncells).set (j * 6 + 5) (ii w) = (p ++ (⟨op, ny, var, attr, u, w⟩ : Nd) :: g).flatMap ncells := fun u v w => wr_nd hpl rfl (by omega)
      have cl : ∀ u v : Int, ((p ++ (⟨op, ny, var, attr, u, v⟩ : Nd) :: g).flatMap ncells).length = z * 6 := fun u v => by
        rw [flat_len Flat.nd, ← hxl]; simp
      have hf2 : ∀ u v : Int, u = (if 0 ≤ ya then ya - lo else ya) → v = (if 0 ≤ yb then yb - lo else yb) → (p ++ (⟨op, ny, var, attr, u, v⟩ : Nd) :: g).flatMap ncells = subC lo x (j + 1) := fun u v e1 e2 => hfin _ (by rw [e1, e2]; rfl)
      generalize hC : (fun u v : Int => (p ++ (⟨op, ny, var, attr, u, v⟩ : Nd) :: g).flatMap ncells) = C
      have hC' : ∀ u v : Int, (p ++ (⟨op, ny, var, attr, u, v⟩ : Nd) :: g).flatMap ncells = C u v := fun u v => by rw [← hC]
      simp only [hC'] at n4 n5 m4 m5 cl hf2 hkw
      clear hC hC' hfin
      simp only [ii] at n4 n5 m4 m5
      have v1 : ¬ z * 6 < j * 6 + 4 + 1 := by omega
      have v2 : ¬ z * 6 < j * 6 + 5 + 1 := by omega
      have u1 : n < n' + 1 := by omega
      have u2 : n < n' + 2 := by omega
      have v3 : j * 6 + 5 ≤ z * 6 := by omega
      have v4 : j * 6 + 6 ≤ z * 6 := by omega
      have hne' : ∀ m, ¬ n = n' + m := fun m => by omega
      by_cases ha : 0 ≤ ya
      · have wa := wrap_sm (x := ya - lo) (by have := hin2.1 ha; omega) (by omega)
        by_cases hb : 0 ≤ yb
        · have wb := wrap_sm (x := yb - lo) (by have := hin2.2 hb; omega) (by omega)
          have hX2 := hf2 (ya - lo) (yb - lo) (by rw [if_pos ha]) (by rw [if_pos hb])
          simp [evs, aeval, cx_ti, cx_G, cx_pf, cx_tw, ti, globS, glob, ldcs_1, ldcs_2, ldcs_3, ldcs_4, ldcs_5, ldcs_7, sls.eq_1, slc.eq_1, pfL, q7, q6, q26, q27, ii, hlt, hlt', hkw, n4, n5, m4, m5, cl, ha, hb, hjw, v3, v4, wa, wb]
          exact ⟨⟨j + 1, by omega, by omega, hX2, by simp [agree_up, hag], by first | exact hfr | simp [fresh_up, u1, u2, hfr.add], by omega⟩, by omega⟩
        · have hX2 := hf2 (ya - lo) yb (by rw [if_pos ha]) (by rw [if_neg hb])
          simp [evs, aeval, cx_ti, cx_G, cx_pf, cx_tw, ti, globS, glob, ldcs_1, ldcs_2, ldcs_3, ldcs_4, ldcs_5, ldcs_7, sls.eq_1, slc.eq_1, pfL, q7, q6, q26, q27, ii, hlt, hlt', hkw, n4, n5, m4, m5, cl, ha, hb, hjw, v3, v4, wa]
          exact ⟨⟨j + 1, by omega, by omega, hX2, by simp [agree_up, hag], by first | exact hfr | simp [fresh_up, u1, u2, hfr.add], by omega⟩, by omega⟩
      · by_cases hb : 0 ≤ yb
        · have wb := wrap_sm (x := yb - lo) (by have := hin2.2 hb; omega) (by omega)
          have hX2 := hf2 ya (yb - lo) (by rw [if_neg ha]) (by rw [if_pos hb])
          simp [evs, aeval, cx_ti, cx_G, cx_pf, cx_tw, ti, globS, glob, ldcs_1, ldcs_2, ldcs_3, ldcs_4, ldcs_5, ldcs_7, sls.eq_1, slc.eq_1, pfL, q7, q6, q26, q27, ii, hlt, hlt', hkw, n4, n5, m4, m5, cl, ha, hb, hjw, v3, v4, wb]
          exact ⟨⟨j + 1, by omega, by omega, hX2, by simp [agree_up, hag], by first | exact hfr | simp [fresh_up, u1, u2, hfr.add], by omega⟩, by omega⟩
        · have hX2 := hf2 ya yb (by rw [if_neg ha]) (by rw [if_neg hb])
          simp [evs, aeval, cx_ti, cx_G, cx_pf, cx_tw, ti, globS, glob, ldcs_1, ldcs_2, ldcs_3, ldcs_4, ldcs_5, ldcs_7, sls.eq_1, slc.eq_1, pfL, q7, q6, q26, q27, ii, hlt, hlt', hkw, n4, n5, m4, m5, cl, ha, hb, hjw, v3, v4]
          exact ⟨⟨j + 1, by omega, by omega, hX2, by simp [agree_up, hag], by first | exact hfr | simp [fresh_up, u1, u2, hfr.add], by omega⟩, by omega⟩
    · obtain rfl : j = z := by omega
      simp [evs, aeval, cx_ti, cx_G, cx_pf, cx_tw, ti, globS, glob, ldcs_1, ldcs_2, ldcs_3, ldcs_4, ldcs_5, ldcs_7, sls.eq_1, slc.eq_1, pfL, q7, q26, q27, ii]
      have hd : x.drop j = [] := List.drop_eq_nil_of_le (by omega)
      have htk : x.take j = x := List.take_of_length_le (by omega)
      rw [subC, hd, htk, List.append_nil] at hkw
      exact ⟨hag, hfr, by omega, hkw, by omega⟩
  exact key _ rfl rfl
end Go.Proofs.YtkfphaphiikloaaDoor

/-
  THE LAWS WITHOUT THE DOCUMENT, PART P: the roots of a tree's conjuncts (the program's).
-/
namespace Go.Proofs.YtkfphaphiikloaaDoor
open Go Go.Eng

/-- What a cell's list of roots is. -/
def OutL (q n : Nat) (h : Heap) (b : Nat) (l : List Nat) : Prop :=
  (l = [] ∧ h b = some ⟨[.v (.slice none 0 0)], 0, true, 1⟩) ∨ ∃ w u, q ≤ w ∧ w < n ∧ h b = some ⟨[.s w u 0 l.length], 0, true, 1⟩ ∧ h w = some ⟨l.map fun x : Nat => ii x, u, true, 1⟩
def post88 (q b n : Nat) (h : Heap) (l : List Nat) (h' : Heap) (n' : Nat) : Prop := (∀ id, id < q → id ≠ b → h' id = h id) ∧ OutL q n' h' b l ∧ Fresh n' h' ∧ n ≤ n'
section
variable {m q b1 b b4 : Nat} {h0 : Heap} {a : AV} {t : List Nd}
set_option maxRecDepth 100000 in
set_option maxHeartbeats 4000000 in
theorem c88 (e1 : rd dNs h0 a = some t) (hn0 : Fresh m h0) (ht : tree1 t = true) (hsm : smallT t) (k1 : m ≤ b1) (k2 : m ≤ b) (k3 : m ≤ b4) (k4 : b1 < q) (k5 : b < q) (k6 : b4 < q) (k7 : b1 ≠ b) (k8 : b4 ≠ b) :
    ∀ r, r < t.length → ∀ (h : Heap) (n : Nat) (l : List Nat), agree m h0 h → h b1 = some ⟨[a], 0, true, 1⟩ → h b4 = some ⟨[.f (.func 88) [] [.p b1 0 0, .p b 0 0, .p b4 0 0]], 0, true, 1⟩ → OutL q n h b l → Fresh n h → q ≤ n → l.length + szN t r ≤ t.length →
      ACall (cx [] (pfL [])) 88 [ii r, .p b1 0 0, .p b 0 0, .p b4 0 0] h n fun _ h' n' => post88 q b n h (l ++ conjT t r) h' n' := by
  intro r
  induction r using Nat.strongRecOn with
  | _ r ih =>
  intro hr h n l hag g1 g4 ho hn hq hlen
  have T := tre_of ht
  have e2 := rd_agr hn0 e1 h hag
  have hsm' : t.length * 64 ≤ 140737488355328 := hsm
  refine acall_of_awp (args := [ii r, .p b1 0 0, .p b 0 0, .p b4 0 0]) (pfL_ok tb_nil) (mixed _ _) Tryd.func88 (c := Tryd.f88.body.getD .skip) rfl (by kernel_rfl) (callable Tryd.func88 rfl rfl _ _) (show 4 ≤ Tryd.f88.ntmps by decide +kernel) ?_
  rcases ns_at e1 with ⟨hz, _⟩ | ⟨id, off, k, rfl, hk0, ho', hat⟩
  · rw [hz] at hr; simp at hr
  have hid : id < m := lt_of hk0 hn0
  have hk : h id = some k := by rw [hag id hid]; exact hk0
  have hrw := hat r hr
  have c0 := cell_of (c := 0) hrw rfl (by omega)
  have c4 := cell_of (c := 4) hrw rfl (by omega)
  have c5 := cell_of (c := 5) hrw rfl (by omega)
  simp only [Nat.add_zero] at c0
  rw [Nat.add_assoc] at c4 c5
  have v1 : off + (r * 6 + 1) ≤ k.cells.length := by omega
  have v5 : off + (r * 6 + 5) ≤ k.cells.length := by omega
  have v6 : off + (r * 6 + 6) ≤ k.cells.length := by omega
  have key : ∀ e : Nat → AV, e 0 = ii r → e 1 = .p b1 0 0 → e 2 = .p b 0 0 → e 3 = .p b4 0 0 → awp (cx [] (pfL [])) (Tryd.f88.body.getD .skip) (finQ (cx [] (pfL [])) Tryd.f88 fun _ h' n' => post88 q b n h (l ++ conjT t r) h' n') ⟨e, h, n⟩ := fun e q0 q1 q2 q3 => by
    have nb : ∀ j, ¬ b = n + j := fun j => by omega
    have nb0 : ¬ b = n := by omega
    by_cases hop : t[r].op = 25
    · obtain ⟨j1, j2, j3, j4⟩ := conj_kids T hr hop
      have hcj := conj_two T hr hop
      have hop' : t[r].op = 25 := hop
      obtain ⟨x, hx⟩ : ∃ x : Nat, t[r].a = x := ⟨t[r].a.toNat, by omega⟩
      obtain ⟨y, hy⟩ : ∃ y : Nat, t[r].b = y := ⟨t[r].b.toNat, by omega⟩
      have hx' : t[r].a.toNat = x := by omega
      have hy' : t[r].b.toNat = y := by omega
      have hxr : x < r := by omega
      have hyr : y < r := by omega
      have hsz : szN t r = 1 + szN t x + szN t y := by
        rcases T.kind r hr with ⟨z1, z2, z3, z4, z⟩ | ⟨z0, z1, z2, z3, z⟩ | ⟨z0, z0', z1, z2, c, z3, z4, z⟩
        · omega
        · omega
        · have hlb := T.le (r - 1) (by omega)
          have hla := T.le c (by omega)
          have e1 : x = c := by omega
          have e2 : y = r - 1 := by omega
          subst e1; subst e2
          unfold szN; omega
      have hcl := conj_len T x (by omega)
      have hcx : (conjT t x).length ≤ szN t x := hcl
      have A := ih x hxr (by omega) h n l hag g1 g4 ho hn hq (by omega)
      rw [hcj, hx', hy']
      rw [hop] at c0
      rw [hx] at c4
      rw [hy] at c5
      simp only [ii] at c0 c4 c5 A
      have nid : ∀ j, ¬ id = n + j := fun j => by omega
      simp [evs, aeval, cx_ti, cx_G, cx_pf, cx_tw, ti, globS, glob, ldcs_1, ldcs_2, ldcs_3, ldcs_4, ldcs_5, ldcs_7, sls.eq_1, slc.eq_1, pfL, Tryd.f88, q0, q1, q2, q3, ii, g1, g4, hk, c0, c4, c5, hr, v1, v5, v6]
      refine A.mono ?_
      rintro v h2 n2 ⟨f1, f2, f3, f4⟩
      have y1 : h2 b1 = some ⟨[AV.s id k.ver off t.length], 0, true, 1⟩ := by rw [f1 b1 k4 k7]; exact g1
      have y4 : h2 b4 = some ⟨[.f (.func 88) [] [.p b1 0 0, .p b 0 0, .p b4 0 0]], 0, true, 1⟩ := by rw [f1 b4 k6 k8]; exact g4
      have yk : h2 id = some k := by rw [f1 id (by omega) (by omega)]; exact hk
      have hag2 : agree m h0 h2 := fun i hi => by rw [f1 i (by omega) (by omega), hag i hi]
      refine ⟨.inr ⟨rfl, fun t ht => ?_⟩, ?_⟩
      · simp [ldSlots] at ht
        rcases ht with ht | ht | ht <;> subst ht <;> simp [keepP, Eng.up, q1, q2, q3, y1, y4, yk, g1, g4, hk]
      have B := ih y hyr (by omega) h2 n2 (l ++ conjT t x) hag2 y1 y4 f2 f3 (by omega) (by rw [List.length_append]; omega)
      simp only [ii] at B
      simp [evs, aeval, cx_ti, cx_G, cx_pf, cx_tw, ti, globS, glob, ldcs_1, ldcs_2, ldcs_3, ldcs_4, ldcs_5, ldcs_7, sls.eq_1, slc.eq_1, pfL, q0, q1, q2, q3, ii, y1, y4, yk, c0, c4, c5, hr, v1, v5, v6]
      refine B.mono ?_
      rintro v3 h3 n3 ⟨p1, p2, p3, p4⟩
      have x1 : h3 b1 = some ⟨[AV.s id k.ver off t.length], 0, true, 1⟩ := by rw [p1 b1 k4 k7]; exact y1
      have x4 : h3 b4 = some ⟨[.f (.func 88) [] [.p b1 0 0, .p b 0 0, .p b4 0 0]], 0, true, 1⟩ := by rw [p1 b4 k6 k8]; exact y4
      have xk : h3 id = some k := by rw [p1 id (by omega) (by omega)]; exact yk
      refine ⟨.inr ⟨rfl, fun t ht => ?_⟩, ?_⟩
      · simp [ldSlots] at ht
        rcases ht with ht | ht | ht <;> subst ht <;> simp [keepP, Eng.up, q1, q2, q3, y1, y4, yk, x1, x4, xk]
      rw [← List.append_assoc]
      exact ⟨fun i h1 h2' => by rw [p1 i h1 h2', f1 i h1 h2'], p2, p3, by omega⟩
    · have hcj := conj_one hr hop
      rw [hcj]
      rcases ho with ⟨rfl, hb⟩ | ⟨w, u, o1, o2, hb, hw⟩
      · simp [evs, aeval, cx_ti, cx_G, cx_pf, cx_tw, ti, globS, glob, ldcs_1, ldcs_2, ldcs_3, ldcs_4, ldcs_5, ldcs_7, sls.eq_1, slc.eq_1, pfL, Tryd.f88, q0, q1, q2, q3, ii, g1, g4, hk, c0, hr, v1, hop, hb, nb, nb0]
        exact ⟨fun i h1 h2 => by simp [Eng.up, h2, show ¬ i = n by omega, show ¬ i = n + 1 by omega], .inr ⟨n + 1, 0, by omega, by omega, by simp [Eng.up], by simp [Eng.up, ii, show ¬ n + 1 = b by omega]⟩, by simp [fresh_up, hn.add, show b < n + 3 by omega], by omega⟩
      · have nw : ∀ j, ¬ w = n + j := fun j => by omega
        have nw0 : ¬ w = n := by omega
        have nwb : ¬ w = b := by omega
        have nwb' : ¬ b = w := by omega
        have y1 : (l.length + 1) * 8 ≤ 140737488355328 := by unfold szN at hlen; have := T.le r hr; omega
        have y2 : l.length ≤ 9223372036854775806 := by omega
        simp [evs, aeval, cx_ti, cx_G, cx_pf, cx_tw, ti, globS, glob, ldcs_1, ldcs_2, ldcs_3, ldcs_4, ldcs_5, ldcs_7, sls.eq_1, slc.eq_1, pfL, Tryd.f88, q0, q1, q2, q3, ii, g1, g4, hk, c0, hr, v1, hop, hb, hw, nb, nb0, nw, nw0, nwb, nwb', y1, y2]
        exact ⟨fun i h1 h2 => by simp [Eng.up, h2, show ¬ i = n by omega, show ¬ i = w by omega], .inr ⟨w, u + 1, by omega, by omega, by simp [Eng.up], by simp [Eng.up, ii, nwb]⟩, by simp [fresh_up, hn.add, show b < n + 3 by omega, show w < n + 3 by omega], by omega⟩
  exact key _ rfl rfl rfl rfl
end
def tb51 : List (FuncId × (List AV → Heap → PRes)) := [(70, G70)]
set_option maxRecDepth 100000 in
set_option maxHeartbeats 4000000 in
theorem c51 {h : Heap} {n : Nat} {a : AV} {t : List Nd} (e1 : rd dNs h a = some t) (ht : tree1 t = true) (hsm : smallT t) (hn : Fresh n h) :
    ACall (cx [7] (pfL tb51)) 51 [a] h n fun z h' n' => agree n h h' ∧ Fresh n' h' ∧ n ≤ n' ∧ ∃ w u, z = .s w u 0 (conjT t (t.length - 1)).length ∧ h' w = some ⟨(conjT t (t.length - 1)).map fun x : Nat => ii x, u, true, 1⟩ ∧ n ≤ w ∧ w < n' := by
  refine acall_of_awp (args := [a]) (pfL_ok (tb_cons P70 tb_nil)) (mixed _ _) Tryd.func51 (c := Tryd.f51.body.getD .skip) rfl (by kernel_rfl) (callable Tryd.func51 rfl rfl _ _) (show 1 ≤ Tryd.f51.ntmps by decide +kernel) ?_
  obtain ⟨s1, s2, s3, s4, s5⟩ := sl_is e1
  have T := tre_of ht
  have hpos : 0 < t.length := T.pos
  have hsm' : t.length * 64 ≤ 140737488355328 := hsm
  obtain ⟨j, he⟩ : ∃ j, t.length = j + 1 := ⟨t.length - 1, by omega⟩
  have he1 : IntKind.i64.wrap ((t.length : Int) - 1) = j := by rw [he]; exact wrapm1 (by unfold big; omega)
  have hj : t.length - 1 = j := by omega
  rw [hj]
  have g1 : ∀ h', agree n h h' → rd dNs h' a = some t := fun h' ha => rd_agr hn e1 h' ha
  have hne := (conj_all T j (by omega)).2
  have key : ∀ e : Nat → AV, e 0 = a → awp (cx [7] (pfL tb51)) (Tryd.f51.body.getD .skip) (finQ (cx [7] (pfL tb51)) Tryd.f51 fun z h' n' => agree n h h' ∧ Fresh n' h' ∧ n ≤ n' ∧ ∃ w u, z = .s w u 0 (conjT t j).length ∧ h' w = some ⟨(conjT t j).map fun x : Nat => ii x, u, true, 1⟩ ∧ n ≤ w ∧ w < n') ⟨e, h, n⟩ := fun e q0 => by
    simp [evs, aeval, cx_ti, cx_G, cx_pf, cx_tw, ti, globS, glob, ldcs_1, ldcs_2, ldcs_3, ldcs_4, ldcs_5, ldcs_7, sls.eq_1, slc.eq_1, pfL, Tryd.f51, q0, ii, s1, s2, s3, s4, s5, tb51, G70, pureH, deT, g1, agree_up, agree_refl, hsm, ht, bv, he1]
    have K := c88 (m := n) (q := n + 3) (b1 := n) (b := n + 1) (b4 := n + 2) e1 hn ht hsm (by omega) (by omega) (by omega) (by omega) (by omega) (by omega) (by omega) (by omega) j (by omega)
    refine (acall_any (S := []) (by simp) (K _ (n + 4) [] (by simp [agree_up, agree_refl]) (by simp [Eng.up]) (by simp [Eng.up]) (.inl ⟨rfl, by simp [Eng.up]⟩) (by simp [fresh_up, hn.add]) (by omega) (by have := T.le j (by omega); unfold szN; simp only [List.length_nil]; omega))).mono ?_
    rintro v h2 n2 ⟨f1, f2, f3, f4⟩
    rw [List.nil_append] at f2
    rcases f2 with ⟨hz, _⟩ | ⟨w, u, w1, w2, hb, hw⟩
    · exact absurd hz hne
    simp only [ii] at hw
    simp [hb]
    exact ⟨fun i hi => by rw [f1 i (by omega) (by omega)]; simp [Eng.up, show ¬ i = n by omega, show ¬ i = n + 1 by omega, show ¬ i = n + 2 by omega], f3, by omega, w, u, ⟨rfl, rfl⟩, hw, by omega, w2⟩
  exact key _ rfl
end Go.Proofs.YtkfphaphiikloaaDoor
