/-
  A COMPILED PROGRAM RUNS AS ITS TREE MEANS: the plain law.
-/
import Derived.Test.YtkfphaphiikloaaDoorX25
set_option linter.unusedSimpArgs false
set_option linter.unusedVariables false
set_option linter.constructorNameAsVariable false
namespace Go.Proofs.YtkfphaphiikloaaDoor
open Go Go.Eng

theorem lay_own {t : List Nd} {f g : Nat → Ins} {k : Nat} : ∀ {n : Nat}, k < n → (layT t f g n)[posT t k]? = some (f k)
  | 0, h => by omega
  | n + 1, h => by
    simp only [layT]
    by_cases e : k = n
    · subst e
      rw [List.getElem?_append_right (by rw [lay_len]; exact Nat.le_refl _), lay_len, Nat.sub_self]
      rfl
    · have hl := pos_lt (t := t) (k := k) (n := n) (by omega)
      rw [List.getElem?_append_left (by rw [lay_len]; omega)]
      exact lay_own (by omega)
theorem lay_jmp {t : List Nd} {f g : Nat → Ins} {k : Nat} (hp : (parT t k).isSome = true) : ∀ {n : Nat}, k < n → (layT t f g n)[posT t k + 1]? = some (g k)
  | 0, h => by omega
  | n + 1, h => by
    simp only [layT]
    by_cases e : k = n
    · subst e
      rw [List.getElem?_append_right (by rw [lay_len]; omega), lay_len, Nat.add_sub_cancel_left, if_pos hp]
      rfl
    · have hl := pos_lt (t := t) (k := k) (n := n) (by omega)
      rw [if_pos hp] at hl
      rw [List.getElem?_append_left (by rw [lay_len]; omega)]
      exact lay_jmp hp (by omega)
theorem name_col {sc : List Ty} {t : List Nd} {i : Nat} (hi : i < t.length) (h : 4 ≤ t[i].op ∧ t[i].op ≤ 11 ∧ t[i].op ≠ 5) : 0 ≤ ixOf (namesOf t) t[i].attr ∧ ((namesOf t).map (colOf sc))[(ixOf (namesOf t) t[i].attr).toNat]? = some (colOf sc t[i].attr) := by
  obtain ⟨m, hm⟩ := names_app t (i + 1) (t.length - (i + 1))
  rw [show i + 1 + (t.length - (i + 1)) = t.length by omega] at hm
  have h1 : namesTo t (i + 1) = addN (namesTo t i) t[i].attr := by rw [namesTo, getD_at hi, addX, if_pos h]
  have h2 : (namesOf t).findIdx (· == t[i].attr) < (namesOf t).length := by
    unfold namesOf
    rw [hm]
    exact (ix_app m (by rw [h1]; exact add_has _ _)).2
  have h3 : ixOf (namesOf t) t[i].attr = (((namesOf t).findIdx (· == t[i].attr) : Nat) : Int) := by unfold ixOf; rw [if_pos h2]
  have h4 := List.findIdx_getElem (w := h2)
  rw [h3, Int.toNat_natCast]
  refine ⟨by omega, ?_⟩
  rw [List.getElem?_map, List.getElem?_eq_getElem h2, Option.map_some]
  have h5 : (namesOf t)[(namesOf t).findIdx (· == t[i].attr)] = t[i].attr := by rw [← ba_beq]; exact h4
  rw [h5]
def isT (v : V) : Prop := v.k = true → v.n = 0 ∨ v.n = 1
theorem rank_isT (r : Int) : isT (ofRank r) := by
  unfold ofRank isT
  repeat' split
  all_goals simp
theorem truth_isT (b : Bool) : isT (truthV b) := by
  unfold truthV isT
  split <;> simp
theorem cmp_isT (o : Int) (a b : V) : isT (cmpV o a b) := by
  unfold cmpV
  repeat' split
  all_goals first | exact truth_isT _ | (intro h; cases h)
/-- A truth's value is 0 or 1. -/
theorem node_isT {sc : List Ty} {it : Int} {en : En} {x : Nd} {va vb : V} (h : truthO x.op = true) : isT (nodeV sc it en x va vb) := by
  unfold truthO at h
  simp only [decide_eq_true_eq] at h
  unfold nodeV
  by_cases h1 : x.op = 1
  · omega
  by_cases h2 : x.op = 2
  · rw [if_neg h1, if_pos h2]; exact fun _ => .inr rfl
  by_cases h3 : x.op = 3
  · rw [if_neg h1, if_neg h2, if_pos h3]; exact fun _ => .inl rfl
  by_cases h4 : x.op ≤ 11
  · omega
  by_cases h5 : x.op = 12
  · omega
  rw [if_neg h1, if_neg h2, if_neg h3, if_neg h4, if_neg h5]
  by_cases h6 : x.op = 13
  · rw [if_pos h6]; exact rank_isT _
  rw [if_neg h6]
  unfold applyL
  repeat' split
  all_goals first | omega | exact rank_isT _ | exact cmp_isT _ _ _
theorem last_snoc (st : List V) (v : V) : (st ++ [v]).getLastD unk = v := by simp [List.getLastD_eq_getLast?]
theorem drop_snoc (st : List V) (v : V) : (st ++ [v]).dropLast = st := by simp
section
variable {sc : List Ty} {vs : List ByteArray} {t : List Nd} {lo : Nat → Nat} {en : En}
def progP (sc : List Ty) (vs : List ByteArray) (t : List Nd) : Pr := ⟨codeT vs t, (namesOf t).map (colOf sc)⟩
theorem own_at {i : Nat} (hi : i < t.length) : ∃ h : posT t i < (progP sc vs t).code.length, (progP sc vs t).code[posT t i]'h = ownI (namesOf t) (itemV vs t[i]) t[i] := by
  have h1 : (codeT vs t)[posT t i]? = some (ownT vs t i) := lay_own hi
  obtain ⟨h2, h3⟩ := List.getElem?_eq_some_iff.1 h1
  exact ⟨h2, h3.trans (by rw [ownT, getD_at hi])⟩
theorem node_ok (h : okTo vs t t.length = true) {i : Nat} (hi : i < t.length) : nodeOk vs t t[i] = true := by
  unfold okTo at h
  rw [List.take_length, List.all_eq_true] at h
  exact h _ (List.getElem_mem hi)
/-- The subtree of a node leaves the node's value on the stack. -/
theorem run_sub (T : Tre t lo) (hok : okTo vs t t.length = true) : ∀ (i : Nat), i < t.length → ∀ st : List V, fromV (progP sc vs t) en (posT t (lo i)) st = fromV (progP sc vs t) en (posT t i + 1) (st ++ [valAt sc (t.map (itemV vs)) en t i]) := by
  intro i
  induction i using Nat.strongRecOn with
  | _ i ih =>
    intro hi st
    obtain ⟨hlt, hown⟩ := own_at (sc := sc) (vs := vs) hi
    have hv := valAt_eq (sc := sc) (its := t.map (itemV vs)) (en := en) hi
    have hits : (t.map (itemV vs)).getD i 0 = itemV vs t[i] := by rw [List.getD_eq_getElem?_getD, List.getElem?_map, List.getElem?_eq_getElem hi]; rfl
    rw [hits] at hv
    have hno := node_ok hok hi
    rcases T.kind i hi with ⟨b1, b2, b3, b4, b⟩ | ⟨b0, b1, b2, b3, b⟩ | ⟨b0, b0', b1, b2, a, b3, b4, b⟩
    · rw [b]
      have key : stepV (progP sc vs t) en (progP sc vs t).code[posT t i] (posT t i) st = some (posT t i + 1, st ++ [valAt sc (t.map (itemV vs)) en t i]) := by
        rw [hown, hv]
        unfold ownI nodeV
        by_cases o1 : t[i].op = 1
        · simp only [o1, if_true]
          exact step_push (by simp only [needsV]; omega) rfl
        by_cases o2 : t[i].op = 2
        · simp only [o2, if_true]
          exact step_push (by simp [needsV]) rfl
        by_cases o3 : t[i].op = 3
        · simp only [o3, if_true]
          exact step_push (by simp [needsV]) rfl
        rw [if_neg o1, if_neg o2, if_neg o3, if_neg o1, if_neg o2, if_neg o3, if_pos b2]
        by_cases o5 : t[i].op = 5
        · simp only [o5]
          exact step_count (by simp only [needsV]; simp) rfl
        obtain ⟨n1, n2⟩ := name_col (sc := sc) hi ⟨by omega, b2, o5⟩
        by_cases o4 : t[i].op = 4
        · simp only [o4]
          exact step_col (p := progP sc vs t) (by simp only [needsV]; simp) (by simp) (by simp; exact n1) n2
        by_cases o11 : t[i].op = 11
        · simp only [o11]
          exact step_col (p := progP sc vs t) (by simp only [needsV]; simp) (by simp) (by simp; exact n1) n2
        rw [if_neg o4, if_neg o11, if_neg o5, if_pos (by omega)]
        have hcm : codeM t[i].op = t[i].op - 1 := by unfold codeM; rw [if_neg o5, if_neg o11, if_neg o4]
        rw [hcm]
        exact step_col (p := progP sc vs t) (by simp only [needsV]; (repeat' split) <;> omega) (by simp only []; omega) (by simp only []; omega) n2
      exact from_some hlt key
    · have hpu := pos_un T hi (by omega) b1
      rw [b, ih (i - 1) (by omega) (by omega) st, ← hpu]
      have hva : getV (valsTo sc (t.map (itemV vs)) en t i) t[i].a = valAt sc (t.map (itemV vs)) en t (i - 1) := by
        rw [get_val (by omega) (by omega), b2, Int.toNat_natCast]
      rw [hva] at hv
      have key : stepV (progP sc vs t) en (progP sc vs t).code[posT t i] (posT t i) (st ++ [valAt sc (t.map (itemV vs)) en t (i - 1)]) = some (posT t i + 1, st ++ [valAt sc (t.map (itemV vs)) en t i]) := by
        rw [hown, hv]
        unfold ownI nodeV
        rcases b0 with o | o
        · simp only [o]
          refine (step_neg (by simp [needsV]; omega) (by simp)).trans ?_
          rw [last_snoc, drop_snoc]
          simp
        · simp only [o]
          refine (step_not (by simp [needsV]; omega) (by simp)).trans ?_
          rw [last_snoc, drop_snoc]
          simp
      exact from_some hlt key
    · have hpu := pos_un T hi (by omega) b1
      have hle := T.le (i - 1) (by omega)
      have hva : getV (valsTo sc (t.map (itemV vs)) en t i) t[i].a = valAt sc (t.map (itemV vs)) en t a := by
        rw [get_val (by omega) (by omega), b3, Int.toNat_natCast]
      have hvb : getV (valsTo sc (t.map (itemV vs)) en t i) t[i].b = valAt sc (t.map (itemV vs)) en t (i - 1) := by
        rw [get_val (by omega) (by omega), b2, Int.toNat_natCast]
      rw [hva, hvb] at hv
      have hv' : valAt sc (t.map (itemV vs)) en t i = applyL t[i].op (valAt sc (t.map (itemV vs)) en t a) (valAt sc (t.map (itemV vs)) en t (i - 1)) := by
        rw [hv]
        unfold nodeV
        rw [if_neg (by omega), if_neg (by omega), if_neg (by omega), if_neg (by omega), if_neg (by omega), if_neg (by omega)]
      have hsk := pos_sk T hi b0 b3
      rw [b, ih a (by omega) (by omega) st]
      have two : fromV (progP sc vs t) en (posT t (lo (i - 1))) (st ++ [valAt sc (t.map (itemV vs)) en t a]) = fromV (progP sc vs t) en (posT t i + 1) (st ++ [valAt sc (t.map (itemV vs)) en t i]) := by
        rw [ih (i - 1) (by omega) (by omega), ← hpu]
        refine from_some (q := (posT t i + 1, st ++ [valAt sc (t.map (itemV vs)) en t i])) hlt ?_
        rw [hown, hv']
        have : ownI (namesOf t) (itemV vs t[i]) t[i] = ⟨t[i].op - 2, 0, 0, 0, 0⟩ := by
          unfold ownI
          rw [if_neg (by omega), if_neg (by omega), if_neg (by omega), if_neg (by omega), if_neg (by omega), if_neg (by omega), if_neg (by omega)]
        rw [this]
        refine (step_two (by simp only [needsV, List.length_append, List.length_cons, List.length_nil]; (repeat' split) <;> omega) (by simp only []; omega)).trans ?_
        rw [last_snoc, drop_snoc, last_snoc, drop_snoc, show t[i].op - 2 + 2 = t[i].op by omega]
      by_cases h25 : 25 ≤ t[i].op
      · rw [if_pos h25] at hsk
        rw [b4] at two
        rw [hsk] at two
        have hpa := par_at T hi h25 b3
        have hj : (codeT vs t)[posT t a + 1]? = some (jmpT t (fun p => posT t p + 1) a) := lay_jmp (by rw [hpa]; rfl) (by omega)
        have hje : jmpT t (fun p => posT t p + 1) a = ⟨t[i].op, 0, 0, 0, (posT t i : Int) + 1⟩ := by
          unfold jmpT
          rw [hpa]
          simp only []
          rw [getD_at hi]
          simp
        rw [hje] at hj
        obtain ⟨h2, h3⟩ : ∃ h : posT t a + 1 < (progP sc vs t).code.length, (progP sc vs t).code[posT t a + 1]'h = ⟨t[i].op, 0, 0, 0, (posT t i : Int) + 1⟩ := List.getElem?_eq_some_iff.1 hj
        have hlen : (progP sc vs t).code.length = posT t t.length := lay_len _ _ _
        have hpl := pos_lt (t := t) hi
        have hpl2 := pos_lt (t := t) (k := a) (n := i) (by omega)
        rw [hpa] at hpl2
        simp only [Option.isSome_some, if_true] at hpl2
        have htr : isT (valAt sc (t.map (itemV vs)) en t a) := by
          rw [valAt_eq (show a < t.length by omega)]
          refine node_isT ?_
          unfold nodeOk at hno
          rw [if_neg (by omega), if_neg (by omega), b3, Int.toNat_natCast, getD_at (show a < t.length by omega)] at hno
          simp only [Bool.and_eq_true, beq_iff_eq] at hno
          rw [hno.1]
          unfold wantsT
          simp; omega
        have hjt : ¬ ((⟨t[i].op, 0, 0, 0, (posT t i : Int) + 1⟩ : Ins).to ≤ ((posT t a + 1 : Nat) : Int) ∨ (⟨t[i].op, 0, 0, 0, (posT t i : Int) + 1⟩ : Ins).to > (progP sc vs t).code.length) := by
          simp only []
          rw [hlen]
          omega
        have hne : ¬ (needsV (⟨t[i].op, 0, 0, 0, (posT t i : Int) + 1⟩ : Ins).code < 0 ∨ ((st ++ [valAt sc (t.map (itemV vs)) en t a]).length : Int) < needsV (⟨t[i].op, 0, 0, 0, (posT t i : Int) + 1⟩ : Ins).code) := by
          simp only [needsV, List.length_append, List.length_cons, List.length_nil]
          (repeat' split) <;> omega
        by_cases hd : (valAt sc (t.map (itemV vs)) en t a).k = true ∧ ((valAt sc (t.map (itemV vs)) en t a).n ≠ 0 ↔ t[i].op = 26)
        · have hst := step_jump (p := progP sc vs t) (e := en) hne h25 hjt (by rw [last_snoc]; exact hd)
          rw [← h3] at hst
          rw [from_some h2 hst]
          have h01 := htr hd.1
          have : valAt sc (t.map (itemV vs)) en t i = valAt sc (t.map (itemV vs)) en t a := by
            rw [hv']
            have hr3 := rank3 (valAt sc (t.map (itemV vs)) en t (i - 1))
            generalize valAt sc (t.map (itemV vs)) en t a = va at *
            generalize valAt sc (t.map (itemV vs)) en t (i - 1) = vb at *
            obtain ⟨vk, vn⟩ := va
            simp only [] at hd h01
            obtain ⟨rfl, hd2⟩ := hd
            rcases (show t[i].op = 25 ∨ t[i].op = 26 by omega) with o | o
            · rw [o] at hd2 ⊢
              have : vn = 0 := by
                rcases h01 with h | h
                · exact h
                · exact absurd (hd2.1 (by rw [h]; decide)) (by decide)
              subst this
              simp only [applyL]
              simp [andV, rankV, ofRank]
              unfold rankV at hr3
              rcases hr3 with h | h | h <;> simp [h]
            · rw [o] at hd2 ⊢
              have : vn = 1 := by
                rcases h01 with h | h
                · exact absurd h (hd2.2 rfl)
                · exact h
              subst this
              simp only [applyL]
              simp [orV, rankV, ofRank]
              unfold rankV at hr3
              rcases hr3 with h | h | h <;> simp [h]
          rw [this]
          simp only [h3]
          rw [show ((posT t i : Int) + 1).toNat = posT t i + 1 by omega]
        · have hst := step_stay (p := progP sc vs t) (e := en) hne h25 hjt (by rw [last_snoc]; exact hd)
          rw [← h3] at hst
          rw [from_some h2 hst]
          exact two
      · rw [if_neg h25] at hsk
        rw [b4, hsk] at two
        exact two
/-- A COMPILED PROGRAM RUNS AS ITS TREE MEANS. -/
theorem run_comp (h : runT vs t = true) : runV (compP sc vs t) en = (evalV sc vs en t, 0) := by
  have hr := h
  simp only [runT, Bool.and_eq_true] at hr
  have T := tre_of hr.1
  have hpos := T.pos
  rw [compP, if_pos h, evalV, if_pos h, run_from]
  have := run_sub (sc := sc) (vs := vs) (en := en) T hr.2 (t.length - 1) (by omega) []
  rw [T.root] at this
  refine this.trans ?_
  rw [List.nil_append, from_end]
  · rfl
  · show (codeT vs t).length ≤ _
    rw [codeT, lay_len, pos_end T]
    exact Nat.le_refl _
end
end Go.Proofs.YtkfphaphiikloaaDoor

/-
  THE LAWS WITHOUT THE DOCUMENT, PART C: a compiled program's fields are numbers that the machine holds; one tree, its value and its program's run.
-/
namespace Go.Proofs.YtkfphaphiikloaaDoor
open Go Go.Eng

theorem lay_mem {t : List Nd} {f g : Nat → Ins} {i : Ins} : ∀ {n : Nat}, i ∈ layT t f g n → (∃ k, k < n ∧ i = f k) ∨ ∃ k, k < n ∧ (parT t k).isSome = true ∧ i = g k
  | 0, h => by simp [layT] at h
  | n + 1, h => by
    simp only [layT, List.mem_append, List.mem_cons] at h
    rcases h with h | rfl | h
    · rcases lay_mem h with ⟨k, h1, h2⟩ | ⟨k, h1, h2⟩
      · exact .inl ⟨k, by omega, h2⟩
      · exact .inr ⟨k, by omega, h2⟩
    · exact .inl ⟨n, by omega, rfl⟩
    · split at h
      · rename_i hp
        simp only [List.mem_singleton] at h
        exact .inr ⟨n, by omega, hp, h⟩
      · simp at h
theorem ix_lt (l : List ByteArray) (z : ByteArray) : -1 ≤ ixOf l z ∧ ixOf l z < (l.length : Int) := by
  unfold ixOf
  split <;> omega
theorem rng_small {x : Int} (h1 : -1 ≤ x) (h2 : x ≤ 4611686018427387904) : Rng x := by
  unfold Rng
  omega
theorem comp_ok {sc : List Ty} {vs : List ByteArray} {t : List Nd} (hvs : vs.length < big) (hp : smallT t) (htl : sc.length * 8 ≤ 140737488355328) (hr : ∀ x ∈ t, Rng x.n) : PrOk (compP sc vs t) := by
  have hp' : t.length * 64 ≤ 140737488355328 := hp
  unfold compP
  split
  · rename_i hrun
    have T := tre_of (show tree1 t = true by simp only [runT, Bool.and_eq_true] at hrun; exact hrun.1)
    have hf := few T
    have hnl := names_len t t.length
    have hb : vs.length < 4611686018427387904 := hvs
    refine ⟨by simp only []; rw [codeT, lay_len]; omega, fun i hi => ?_, fun c hc => ?_⟩
    · rcases lay_mem hi with ⟨k, h1, rfl⟩ | ⟨k, h1, h2, rfl⟩
      · rw [ownT, getD_at h1]
        have hk := T.kind k h1
        have ho : 1 ≤ t[k].op ∧ t[k].op ≤ 26 := by
          rcases hk with ⟨h1, h2, _⟩ | ⟨h1, _⟩ | ⟨h1, h2, _⟩ <;> omega
        have hit : -1 ≤ itemV vs t[k] ∧ itemV vs t[k] ≤ 9223372036854775806 := by
          unfold itemV
          have := ix_lt vs t[k].var
          split <;> omega
        have hix := ix_lt (namesOf t) t[k].attr
        have hn2 : (namesOf t).length ≤ t.length := hnl
        have hrn := hr _ (List.getElem_mem h1)
        have hri : Rng (itemV vs t[k]) := by unfold Rng; omega
        have r0 : Rng 0 := rng_small (by omega) (by omega)
        have rc : Rng (ixOf (namesOf t) t[k].attr) := rng_small (by omega) (by omega)
        unfold ownI InsOk
        repeat' split
        all_goals refine ⟨?_, ?_, ?_, ?_, ?_⟩ <;> first | exact r0 | exact hrn | exact hri | exact rc | exact rng_small (by simp only []; omega) (by simp only []; omega)
      · unfold jmpT
        split
        · rename_i p hpp
          have hpl : p < t.length := by
            have := List.mem_of_find?_eq_some hpp
            simpa using this
          have hle := pos_lt (t := t) (k := p) (n := t.length) hpl
          have ho : 1 ≤ t[p].op ∧ t[p].op ≤ 26 := by
            rcases T.kind p hpl with ⟨h1, h2, _⟩ | ⟨h1, _⟩ | ⟨h1, h2, _⟩ <;> omega
          have r0 : Rng 0 := rng_small (by omega) (by omega)
          have hpo : posT t p + 1 ≤ posT t t.length := by split at hle <;> omega
          rw [getD_at hpl]
          refine ⟨rng_small (by simp only []; omega) (by simp only []; omega), r0, r0, r0, rng_small (by simp only []; omega) (by simp only []; omega)⟩
        · have r0 : Rng 0 := rng_small (by omega) (by omega)
          exact ⟨r0, r0, r0, r0, r0⟩
    · obtain ⟨a, _, rfl⟩ := List.mem_map.1 hc
      rw [colOf_len]
      unfold big
      omega
  · exact ⟨by simp, by simp, by simp⟩
/-! ### one tree -/
def zA : ByteArray := ⟨#[65]⟩
def za : ByteArray := ⟨#[97]⟩
def zx : ByteArray := ⟨#[120]⟩
def scW : List Ty := [⟨zA, [zx]⟩]
def qW : Qu := ⟨[⟨false, [zA], za, 1, 1⟩], 0, 0, [], 0, ByteArray.empty, []⟩
def tW : List Nd := [⟨4, 0, za, zx, -1, -1⟩, ⟨5, 0, za, ByteArray.empty, -1, -1⟩, ⟨15, 0, ByteArray.empty, ByteArray.empty, 0, 1⟩]
def enW : En := ⟨[[⟨1, 0, 0, 7, 0, 0, 0, 0, 0, 0, 0⟩]], -1, 0⟩
set_option maxRecDepth 100000 in
theorem run_W : runT (vars qW.items) tW = true := by decide +kernel
set_option maxRecDepth 100000 in
theorem eval_W : evalV scW (vars qW.items) enW tW = ⟨true, 6⟩ := by decide +kernel
theorem prog_W : runV (compP scW (vars qW.items) tW) enW = (⟨true, 6⟩, 0) := by rw [run_comp run_W, eval_W]
theorem holds_W : holdsV (compP scW (vars qW.items) tW) enW = true := by
  unfold holdsV
  rw [prog_W]
  rfl
end Go.Proofs.YtkfphaphiikloaaDoor
