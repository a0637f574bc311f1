/-
  THE PROGRAMS OF CONDITIONS: what they mean, in plain terms.
-/
import Derived.Test.YtkfphaphiikloaaDoorCa
set_option linter.unusedSimpArgs false
set_option linter.unusedVariables false
set_option linter.constructorNameAsVariable false
set_option linter.unusedSimpArgs false
namespace Go.Proofs.YtkfphaphiikloaaDoor
open Go Go.Eng

/-! ### values that are in range -/
theorem fitV_rng (n : Int) : Rng (fitV n).n := by
  unfold fitV Rng
  split
  · assumption
  · simp
theorem truthV_rng (b : Bool) : Rng (truthV b).n := by cases b <;> simp [truthV, Rng]

/-! ### events by columns -/
def placeOf (col : List Int) (e : Ev) : Option Int := if e.ty < 0 then none else col[e.ty.toNat]?
def oneV (l : List Ev) (i : Int) (col : List Int) : V := if i < 0 then unk else match l[i.toNat]? with
  | none => unk
  | some e => match placeOf col e with
    | none => unk
    | some p => valueV e p
def evV (col : List Int) (e : Ev) : V := match placeOf col e with
  | none => unk
  | some p => valueV e p
theorem oneV_at {l : List Ev} {j : Nat} (h : j < l.length) (col : List Int) : oneV l (j : Int) col = evV col l[j] := by
  unfold oneV evV
  rw [if_neg (by omega)]
  simp only [Int.toNat_natCast, List.getElem?_eq_getElem h]
def EvOk (e : Ev) : Prop := Rng e.ts ∧ Rng e.ty ∧ Rng e.a0 ∧ Rng e.a1 ∧ Rng e.a2 ∧ Rng e.a3 ∧ Rng e.a4 ∧ Rng e.a5 ∧ Rng e.a6 ∧ Rng e.a7
theorem attr_rng {e : Ev} (h : EvOk e) : ∀ j, Rng (e.attr j) := by
  obtain ⟨_, _, h0, h1, h2, h3, h4, h5, h6, h7⟩ := h
  intro j
  unfold Ev.attr
  split <;> assumption
theorem valueV_rng {e : Ev} (h : EvOk e) (p : Int) : Rng (valueV e p).n := by
  unfold valueV
  split
  · exact h.1
  · split
    · exact attr_rng h _
    · simp [unk, Rng]
theorem unk_rng : Rng unk.n := by simp [unk, Rng]
theorem oneV_rng {l : List Ev} (h : ∀ e ∈ l, EvOk e) (i : Int) (col : List Int) : Rng (oneV l i col).n := by
  unfold oneV
  split
  · exact unk_rng
  · split
    · exact unk_rng
    · rename_i e he
      split
      · exact unk_rng
      · exact valueV_rng (h e (List.mem_of_getElem? he)) _
theorem valueV_unk {e : Ev} {p : Int} (h : (valueV e p).k = false) : valueV e p = unk := by
  unfold valueV at h ⊢
  split
  · rename_i hc; rw [if_pos hc] at h; cases h
  · rename_i hc
    rw [if_neg hc] at h
    split
    · rename_i hd; rw [if_pos hd] at h; cases h
    · rfl
theorem oneV_unk {l : List Ev} {i : Int} {col : List Int} (h : (oneV l i col).k = false) : oneV l i col = unk := by
  unfold oneV at h ⊢
  split
  · rfl
  · rename_i hc
    rw [if_neg hc] at h
    split
    · rfl
    · rename_i e he
      simp only [he] at h
      split
      · rfl
      · rename_i p hp
        simp only [hp] at h
        exact valueV_unk h
/-- The numbers of the first j events. -/
def colN (l : List Ev) (col : List Int) (j : Nat) : List Int := (List.range j).map fun i : Nat => (oneV l (i : Int) col).n
theorem colN_succ (l : List Ev) (col : List Int) (j : Nat) : colN l col (j + 1) = colN l col j ++ [(oneV l (j : Int) col).n] := by simp [colN, List.range_succ]
theorem colN_len (l : List Ev) (col : List Int) (j : Nat) : (colN l col j).length = j := by simp [colN]
theorem colN_rng {l : List Ev} (h : ∀ e ∈ l, EvOk e) (col : List Int) (j : Nat) : All (colN l col j) := fun x hx => by
  simp only [colN, List.mem_map] at hx
  obtain ⟨i, _, rfl⟩ := hx
  exact oneV_rng h _ _
def knownTo (l : List Ev) (col : List Int) (j : Nat) : Bool := (List.range j).all fun i : Nat => (oneV l (i : Int) col).k
theorem knownTo_succ (l : List Ev) (col : List Int) (j : Nat) : knownTo l col (j + 1) = (knownTo l col j && (oneV l (j : Int) col).k) := by simp [knownTo, List.range_succ]
theorem knownTo_le {l : List Ev} {col : List Int} {j m : Nat} (hj : j ≤ m) (h : knownTo l col m = true) : knownTo l col j = true := by
  simp only [knownTo, List.all_eq_true, List.mem_range] at h ⊢
  exact fun i hi => h i (by omega)
/-- An aggregate. -/
def allV (l : List Ev) (col : List Int) (op : Int) : V := if knownTo l col l.length = true then foldG sumL op (colN l col l.length) else unk

/-! ### programs -/
structure Ins where
  code : Int
  item : Int
  col : Int
  n : Int
  to : Int
deriving DecidableEq
def icells (i : Ins) : List AV := [ii i.code, ii i.item, ii i.col, ii i.n, ii i.to]
def InsOk (i : Ins) : Prop := Rng i.code ∧ Rng i.item ∧ Rng i.col ∧ Rng i.n ∧ Rng i.to
structure Pr where
  code : List Ins
  cols : List (List Int)
deriving DecidableEq
structure En where
  ls : List (List Ev)
  each : Int
  pos : Int
deriving DecidableEq
def listAt (ls : List (List Ev)) (i : Int) : List Ev := if i < 0 then [] else ls.getD i.toNat []
def mentionV (i : Ins) (col : List Int) (e : En) : V :=
  if i.code = 4 then knownV (listAt e.ls i.item).length
  else if i.code = 3 then (if (i.item = e.each ∧ 0 ≤ i.item) ∧ 1 ≤ e.pos then oneV (listAt e.ls i.item) (e.pos - 1) col else unk)
  else if i.code = 2 then (if i.item = e.each ∧ 0 ≤ i.item then oneV (listAt e.ls i.item) e.pos col else oneV (listAt e.ls i.item) 0 col)
  else allV (listAt e.ls i.item) col (i.code + 1)
def stepV (p : Pr) (e : En) (i : Ins) (pos : Nat) (st : List V) : Option (Nat × List V) :=
  if needsV i.code < 0 ∨ (st.length : Int) < needsV i.code then none
  else if i.code = 1 then some (pos + 1, st ++ [knownV i.n])
  else if i.code = 4 then some (pos + 1, st ++ [mentionV i [] e])
  else if i.code ≤ 9 then (if i.col < 0 then none else match p.cols[i.col.toNat]? with
    | none => none
    | some c => some (pos + 1, st ++ [mentionV i c e]))
  else if i.code = 10 then some (pos + 1, st.dropLast ++ [negL (st.getLastD unk)])
  else if i.code = 11 then some (pos + 1, st.dropLast ++ [notV (st.getLastD unk)])
  else if 25 ≤ i.code then (if i.to ≤ pos ∨ i.to > p.code.length then none
    else if (st.getLastD unk).k = true ∧ ((st.getLastD unk).n ≠ 0 ↔ i.code = 26) then some (i.to.toNat, st) else some (pos + 1, st))
  else some (pos + 1, st.dropLast.dropLast ++ [applyL (i.code + 2) (st.dropLast.getLastD unk) (st.getLastD unk)])
def bad : V × Int := (unk, 70)
def endV (st : List V) : V × Int := match st with
  | [v] => (v, 0)
  | _ => bad
/-- What comes of it from there on. -/
def finF (p : Pr) (e : En) : Nat → Nat → List V → V × Int
  | 0, _, st => endV st
  | k + 1, pos, st => match p.code[pos]? with
    | none => endV st
    | some i => match stepV p e i pos st with
      | none => bad
      | some q => finF p e k q.1 q.2
def runV (p : Pr) (e : En) : V × Int := finF p e p.code.length 0 []
def holdsV (p : Pr) (e : En) : Bool := (runV p e).2 == 0 && trueV (runV p e).1
theorem step_on {p : Pr} {e : En} {i : Ins} {pos : Nat} {st : List V} {q : Nat × List V} (hp : pos < p.code.length) (h : stepV p e i pos st = some q) : pos < q.1 ∧ q.1 ≤ p.code.length ∧ q.2.length ≤ st.length + 1 := by
  unfold stepV at h
  have hd : st.dropLast.length ≤ st.length := by simp
  have hd2 : st.dropLast.dropLast.length ≤ st.length := by simp; omega
  repeat' split at h
  all_goals first | (cases h; done) | (simp only [Option.some.injEq] at h; subst h; simp only [List.length_append, List.length_cons, List.length_nil]; omega)
section
variable {p : Pr} {e : En} {i : Ins} {pos : Nat} {st : List V} (hr : ¬ (needsV i.code < 0 ∨ (st.length : Int) < needsV i.code))
include hr
theorem step_push (h : i.code = 1) : stepV p e i pos st = some (pos + 1, st ++ [knownV i.n]) := by
  simp only [stepV, if_neg hr, if_pos h]
theorem step_count (h : i.code = 4) : stepV p e i pos st = some (pos + 1, st ++ [mentionV i [] e]) := by
  simp only [stepV, if_neg hr, if_neg (show ¬ i.code = 1 by omega), if_pos h]
theorem step_cneg (h : 2 ≤ i.code ∧ i.code ≤ 9 ∧ i.code ≠ 4) (hc : i.col < 0) : stepV p e i pos st = none := by
  simp only [stepV, if_neg hr, if_neg (show ¬ i.code = 1 by omega), if_neg h.2.2, if_pos h.2.1, if_pos hc]
theorem step_cbig (h : 2 ≤ i.code ∧ i.code ≤ 9 ∧ i.code ≠ 4) (hc : (p.cols.length : Int) ≤ i.col) : stepV p e i pos st = none := by
  have : p.cols[i.col.toNat]? = none := List.getElem?_eq_none (by omega)
  simp only [stepV, if_neg hr, if_neg (show ¬ i.code = 1 by omega), if_neg h.2.2, if_pos h.2.1, if_neg (show ¬ i.col < 0 by omega), this]
theorem step_col (h : 2 ≤ i.code ∧ i.code ≤ 9 ∧ i.code ≠ 4) {c : List Int} (h0 : ¬ i.col < 0) (hc : p.cols[i.col.toNat]? = some c) : stepV p e i pos st = some (pos + 1, st ++ [mentionV i c e]) := by
  simp only [stepV, if_neg hr, if_neg (show ¬ i.code = 1 by omega), if_neg h.2.2, if_pos h.2.1, if_neg h0, hc]
theorem step_neg (h : i.code = 10) : stepV p e i pos st = some (pos + 1, st.dropLast ++ [negL (st.getLastD unk)]) := by
  simp only [stepV, if_neg hr, if_neg (show ¬ i.code = 1 by omega), if_neg (show ¬ i.code = 4 by omega), if_neg (show ¬ i.code ≤ 9 by omega), if_pos h]
theorem step_not (h : i.code = 11) : stepV p e i pos st = some (pos + 1, st.dropLast ++ [notV (st.getLastD unk)]) := by
  simp only [stepV, if_neg hr, if_neg (show ¬ i.code = 1 by omega), if_neg (show ¬ i.code = 4 by omega), if_neg (show ¬ i.code ≤ 9 by omega), if_neg (show ¬ i.code = 10 by omega), if_pos h]
theorem step_jbad (h : 25 ≤ i.code) (ht : i.to ≤ pos ∨ i.to > p.code.length) : stepV p e i pos st = none := by
  simp only [stepV, if_neg hr, if_neg (show ¬ i.code = 1 by omega), if_neg (show ¬ i.code = 4 by omega), if_neg (show ¬ i.code ≤ 9 by omega), if_neg (show ¬ i.code = 10 by omega), if_neg (show ¬ i.code = 11 by omega), if_pos h, if_pos ht]
theorem step_jump (h : 25 ≤ i.code) (ht : ¬ (i.to ≤ pos ∨ i.to > p.code.length)) (hj : (st.getLastD unk).k = true ∧ ((st.getLastD unk).n ≠ 0 ↔ i.code = 26)) : stepV p e i pos st = some (i.to.toNat, st) := by
  simp only [stepV, if_neg hr, if_neg (show ¬ i.code = 1 by omega), if_neg (show ¬ i.code = 4 by omega), if_neg (show ¬ i.code ≤ 9 by omega), if_neg (show ¬ i.code = 10 by omega), if_neg (show ¬ i.code = 11 by omega), if_pos h, if_neg ht, if_pos hj]
theorem step_stay (h : 25 ≤ i.code) (ht : ¬ (i.to ≤ pos ∨ i.to > p.code.length)) (hj : ¬ ((st.getLastD unk).k = true ∧ ((st.getLastD unk).n ≠ 0 ↔ i.code = 26))) : stepV p e i pos st = some (pos + 1, st) := by
  simp only [stepV, if_neg hr, if_neg (show ¬ i.code = 1 by omega), if_neg (show ¬ i.code = 4 by omega), if_neg (show ¬ i.code ≤ 9 by omega), if_neg (show ¬ i.code = 10 by omega), if_neg (show ¬ i.code = 11 by omega), if_pos h, if_neg ht, if_neg hj]
theorem step_two (h : 12 ≤ i.code ∧ i.code < 25) : stepV p e i pos st = some (pos + 1, st.dropLast.dropLast ++ [applyL (i.code + 2) (st.dropLast.getLastD unk) (st.getLastD unk)]) := by
  simp only [stepV, if_neg hr, if_neg (show ¬ i.code = 1 by omega), if_neg (show ¬ i.code = 4 by omega), if_neg (show ¬ i.code ≤ 9 by omega), if_neg (show ¬ i.code = 10 by omega), if_neg (show ¬ i.code = 11 by omega), if_neg (show ¬ 25 ≤ i.code by omega)]
end
theorem fin_stable (p : Pr) (e : En) : ∀ (k m pos : Nat) (st : List V), p.code.length - pos ≤ k → p.code.length - pos ≤ m → finF p e k pos st = finF p e m pos st
  | 0, 0, _, _, _, _ => rfl
  | 0, m + 1, pos, st, h, _ => by
    have : p.code[pos]? = none := List.getElem?_eq_none (by omega)
    simp only [finF, this]
  | k + 1, 0, pos, st, _, h => by
    have : p.code[pos]? = none := List.getElem?_eq_none (by omega)
    simp only [finF, this]
  | k + 1, m + 1, pos, st, h1, h2 => by
    simp only [finF]
    split
    · rfl
    · rename_i i hi
      split
      · rfl
      · rename_i q hq
        have hp : pos < p.code.length := (List.getElem?_eq_some_iff.1 hi).1
        have := step_on hp hq
        exact fin_stable p e k m q.1 q.2 (by omega) (by omega)
/-- From there on. -/
def fromV (p : Pr) (e : En) (pos : Nat) (st : List V) : V × Int := finF p e (p.code.length - pos) pos st
theorem from_none {p : Pr} {e : En} {pos : Nat} {st : List V} (h : pos < p.code.length) (hs : stepV p e p.code[pos] pos st = none) : fromV p e pos st = bad := by
  unfold fromV
  obtain ⟨k, hk⟩ : ∃ k, p.code.length - pos = k + 1 := ⟨p.code.length - pos - 1, by omega⟩
  rw [hk]
  simp only [finF, List.getElem?_eq_getElem h, hs]
theorem from_some {p : Pr} {e : En} {pos : Nat} {st : List V} {q : Nat × List V} (h : pos < p.code.length) (hs : stepV p e p.code[pos] pos st = some q) : fromV p e pos st = fromV p e q.1 q.2 := by
  unfold fromV
  obtain ⟨k, hk⟩ : ∃ k, p.code.length - pos = k + 1 := ⟨p.code.length - pos - 1, by omega⟩
  rw [hk]
  simp only [finF, List.getElem?_eq_getElem h, hs]
  have := step_on h hs
  exact fin_stable p e k _ q.1 q.2 (by omega) (by omega)
theorem from_end {p : Pr} {e : En} {pos : Nat} {st : List V} (h : p.code.length ≤ pos) : fromV p e pos st = endV st := by
  unfold fromV
  rw [show p.code.length - pos = 0 by omega]
  rfl
theorem run_from (p : Pr) (e : En) : runV p e = fromV p e 0 [] := by unfold runV fromV; rfl
end Go.Proofs.YtkfphaphiikloaaDoor

namespace Go.Proofs.YtkfphaphiikloaaDoor
open Go Go.Eng

theorem rng0 : Rng 0 := by unfold Rng; omega
theorem rank_rng (r : Int) : Rng (ofRank r).n := by
  unfold ofRank Rng
  split
  · simp only []; omega
  split
  · simp only []; omega
  · simp only []; omega
theorem cmp_rng (o : Int) (a b : V) : Rng (cmpV o a b).n := by
  unfold cmpV
  repeat' split
  all_goals first | exact truthV_rng _ | exact rng0
theorem apply_rng (o : Int) {a b : V} (ha : Rng a.n) (hb : Rng b.n) : Rng (applyL o a b).n := by
  unfold applyL
  split
  · rw [addL_eq ha hb]; unfold addV on2; split <;> first | exact fitV_rng _ | exact rng0
  split
  · rw [subL_eq ha hb]; unfold subV on2; split <;> first | exact fitV_rng _ | exact rng0
  split
  · rw [mulL_eq ha hb]; unfold mulV on2; split <;> first | exact fitV_rng _ | exact rng0
  split
  · rw [divL_eq ha]; unfold divV on2
    split
    · simp only []
      split
      · exact rng0
      · exact fitV_rng _
    · exact rng0
  split
  · rw [modL_eq]; unfold modV on2
    split
    · simp only []
      split
      · exact rng0
      · rename_i h
        obtain ⟨_, t1, t2, _, _⟩ := tdiv_bounds (x := a.n) h
        have t3 := Int.natAbs_tmod a.n b.n
        have t4 : a.n.natAbs % b.n.natAbs ≤ a.n.natAbs := Nat.mod_le _ _
        unfold Rng at ha ⊢
        simp only [knownV]
        rcases Int.le_total 0 a.n with h0 | h0
        · have := t1 h0; omega
        · have := t2 h0; omega
    · exact rng0
  split
  · exact rank_rng _
  split
  · exact rank_rng _
  · exact cmp_rng _ _ _
theorem ext_mem (g : Bool) (l : List Int) (h : 0 < l.length) : ∀ j, extAt g l j ∈ l := fun j => by
  unfold extAt
  have : ∀ (m : List Int) (x : Int), (∀ y ∈ m, y ∈ l) → x ∈ l → m.foldl (fun (m x : Int) => if (if g = true then decide (m < x) else decide (x < m)) = true then x else m) x ∈ l := fun m => by
    induction m with
    | nil => exact fun x _ hx => hx
    | cons y m ih =>
      intro x hm hx
      rw [List.foldl_cons]
      refine ih _ (fun z hz => hm z (by simp [hz])) ?_
      generalize (if g = true then decide (x < y) else decide (y < x)) = c
      cases c
      · exact hx
      · exact hm y (by simp)
  refine this _ _ (fun y hy => List.mem_of_mem_take hy) ?_
  rw [List.getD_eq_getElem?_getD, List.getElem?_eq_getElem h]
  exact List.getElem_mem h
theorem fold_rng (o : Int) {l : List Int} (ha : All l) (hl : l.length ≤ 2147483647) : Rng (foldG sumL o l).n := by
  unfold foldG
  split
  · unfold Rng knownV; simp only []; omega
  split
  · rw [sumL_eq ha (by unfold big; omega)]; exact fitV_rng _
  split
  · exact rng0
  rename_i hne
  have hp : 0 < l.length := List.length_pos_iff.2 hne
  split
  · exact ha _ (ext_mem _ _ hp _)
  split
  · exact ha _ (ext_mem _ _ hp _)
  split
  · simp only [knownV]; rw [List.getD_eq_getElem?_getD, List.getElem?_eq_getElem hp]; exact ha _ (List.getElem_mem _)
  split
  · simp only [knownV]; rw [List.getD_eq_getElem?_getD, List.getElem?_eq_getElem (by omega)]; exact ha _ (List.getElem_mem _)
  · exact rng0
theorem neg_rng {a : V} (ha : Rng a.n) : Rng (negL a).n := by
  rw [negL_eq ha]
  unfold negV
  split
  · exact fitV_rng _
  · exact rng0
theorem not_rng (a : V) : Rng (notV a).n := rank_rng _
theorem all_rng {l : List Ev} (h : ∀ e ∈ l, EvOk e) (hl : l.length ≤ 2147483647) (col : List Int) (op : Int) : Rng (allV l col op).n := by
  unfold allV
  split
  · exact fold_rng op (colN_rng h _ _) (by simp [colN]; omega)
  · exact unk_rng
theorem mention_rng {i : Ins} {col : List Int} {e : En} (h : ∀ x ∈ listAt e.ls i.item, EvOk x) (hl : (listAt e.ls i.item).length ≤ 2147483647) : Rng (mentionV i col e).n := by
  unfold mentionV
  split
  · simp only [knownV, Rng]; omega
  split
  · split
    · exact oneV_rng h _ _
    · exact unk_rng
  split
  · split <;> exact oneV_rng h _ _
  · exact all_rng h hl _ _
end Go.Proofs.YtkfphaphiikloaaDoor
