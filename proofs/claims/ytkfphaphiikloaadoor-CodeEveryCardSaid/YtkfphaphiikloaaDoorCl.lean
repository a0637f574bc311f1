/-
  THE PROGRAMS OF CONDITIONS: how their data are read out of memory.
-/
import Derived.Test.YtkfphaphiikloaaDoorCm
set_option linter.unusedSimpArgs false
set_option linter.unusedVariables false
set_option linter.constructorNameAsVariable false
set_option linter.unusedSimpArgs false
namespace Go.Proofs.YtkfphaphiikloaaDoor
open Go Go.Eng

def dEv : De Ev where
  run _ l := deEc l
  sim _ e := e
theorem deEc_in (e : Ev) : deEc (ecells e) = some e := rfl
theorem deE_ee (e : Ev) : deE (.g (ecells e)) = some e := rfl
def deIc : List AV → Option Ins
  | [.v (.int .i64 a), .v (.int .i64 b), .v (.int .i64 c), .v (.int .i64 d), .v (.int .i64 e)] => some ⟨a, b, c, d, e⟩
  | _ => none
theorem deIc_out {l : List AV} {i : Ins} (h : deIc l = some i) : l = icells i := by
  unfold deIc at h
  split at h
  · cases h; rfl
  · cases h
def dIns : De Ins where
  run _ l := deIc l
  sim _ e := e
def deIns : AV → Option Ins
  | .g l => deIc l
  | _ => none
def iv (i : Ins) : AV := .g (icells i)
theorem deIns_out {x : AV} {i : Ins} (h : deIns x = some i) : x = iv i := by
  unfold deIns at h
  split at h
  · rw [deIc_out h]; rfl
  · cases h
def dEs : De (List Ev) := De.sl 11 dEv
def dIs : De (List Int) := De.sl 1 (De.int .i64)
def dPs : De (List Ins) := De.sl 5 dIns
def dEss : De (List (List Ev)) := De.sl 1 dEs
def dIss : De (List (List Int)) := De.sl 1 dIs
def rd {α : Type} (d : De α) (h : Heap) (a : AV) : Option α := d.run h [a]
theorem rd_mono {α : Type} {d : De α} {h h' : Heap} (hh : h.le h') {a : AV} {x : α} (e : rd d h a = some x) : rd d h' a = some x := d.mono hh e

theorem rd_sim {α : Type} {d : De α} {h h' : Heap} (hh : h.sim h') {a : AV} {x : α} (e : rd d h a = some x) : rd d h' a = some x := d.sim hh e
/-- What every list is like, before one looks into it. -/
theorem sl_is {α : Type} {sz : Nat} {d : De α} {h : Heap} {a : AV} {l : List α} (e : rd (De.sl sz d) h a = some l) : a.isS ∧ a.slen = l.length ∧ (∀ g, AV.unc g a = a) ∧ a.one ∧ a.cells = [a] := by
  rcases De.sl_out e with ⟨h0, h1 | h1⟩ | ⟨id, off, k, h1, h2, h3, h4⟩
  · simp only [List.cons.injEq, and_true] at h1; subst h1; subst h0; exact ⟨⟨rfl, rfl⟩, rfl, fun _ => rfl, rfl, rfl⟩
  · simp only [List.cons.injEq, and_true] at h1; subst h1; subst h0; exact ⟨trivial, rfl, fun _ => rfl, trivial, rfl⟩
  · simp only [List.cons.injEq, and_true] at h1; subst h1; exact ⟨trivial, rfl, fun _ => rfl, trivial, rfl⟩
/-- How a list lies. -/
theorem sl_at {α : Type} {sz : Nat} {d : De α} {h : Heap} {a : AV} {l : List α} (e : rd (De.sl sz d) h a = some l) : (l = [] ∧ (a = .v (.slice none 0 0) ∨ a = .e)) ∨
    ∃ id off k, a = .s id k.ver off l.length ∧ h id = some k ∧ off + l.length * sz ≤ k.cells.length ∧ ∀ i (hi : i < l.length), d.run h ((k.cells.drop (off + i * sz)).take sz) = some l[i] := by
  rcases De.sl_out e with ⟨h0, h1 | h1⟩ | ⟨id, off, k, h1, h2, h3, h4⟩
  · simp only [List.cons.injEq, and_true] at h1
    exact .inl ⟨h0, .inl h1⟩
  · simp only [List.cons.injEq, and_true] at h1
    exact .inl ⟨h0, .inr h1⟩
  · simp only [List.cons.injEq, and_true] at h1
    exact .inr ⟨id, off, k, h1, h2, h3, h4⟩
theorem cell_of {l r : List AV} {o n c : Nat} {x : AV} (h : (l.drop o).take n = r) (hc : r[c]? = some x) (hn : c < n) : l[o + c]? = some x := by
  rw [← h, List.getElem?_take_of_lt hn, List.getElem?_drop] at hc
  exact hc
theorem es_at {h : Heap} {a : AV} {l : List Ev} (e : rd dEs h a = some l) : (l = [] ∧ (a = .v (.slice none 0 0) ∨ a = .e)) ∨
    ∃ id off k, a = .s id k.ver off l.length ∧ h id = some k ∧ off + l.length * 11 ≤ k.cells.length ∧ ∀ i (hi : i < l.length), (k.cells.drop (off + i * 11)).take 11 = ecells l[i] := by
  rcases sl_at e with h0 | ⟨id, off, k, h1, h2, h3, h4⟩
  · exact .inl h0
  · exact .inr ⟨id, off, k, h1, h2, h3, fun i hi => deEc_out (h4 i hi)⟩
theorem ps_at {h : Heap} {a : AV} {l : List Ins} (e : rd dPs h a = some l) : (l = [] ∧ (a = .v (.slice none 0 0) ∨ a = .e)) ∨
    ∃ id off k, a = .s id k.ver off l.length ∧ h id = some k ∧ off + l.length * 5 ≤ k.cells.length ∧ ∀ i (hi : i < l.length), (k.cells.drop (off + i * 5)).take 5 = icells l[i] := by
  rcases sl_at e with h0 | ⟨id, off, k, h1, h2, h3, h4⟩
  · exact .inl h0
  · exact .inr ⟨id, off, k, h1, h2, h3, fun i hi => deIc_out (h4 i hi)⟩
theorem is_at {h : Heap} {a : AV} {l : List Int} (e : rd dIs h a = some l) : (l = [] ∧ (a = .v (.slice none 0 0) ∨ a = .e)) ∨
    ∃ id off k, a = .s id k.ver off l.length ∧ h id = some k ∧ off + l.length ≤ k.cells.length ∧ ∀ i (hi : i < l.length), k.cells[off + i]? = some (ii l[i]) := by
  rcases sl_at e with h0 | ⟨id, off, k, h1, h2, h3, h4⟩
  · exact .inl h0
  · rw [Nat.mul_one] at h3
    refine .inr ⟨id, off, k, h1, h2, h3, fun i hi => ?_⟩
    have := h4 i hi
    rw [Nat.mul_one] at this
    simp only [De.int] at this
    split at this
    · rename_i k' n' hq
      split at this
      · rename_i hkk
        have h5 := cell_of (c := 0) hq rfl (by omega)
        simp only [Option.some.injEq] at this
        rw [Nat.add_zero] at h5
        rw [h5, hkk, this]
        rfl
      · cases this
    · cases this
/-- A list of lists: its cells are lists. -/
theorem sls_at {α : Type} {sz : Nat} {d : De α} {h : Heap} {a : AV} {l : List (List α)} (e : rd (De.sl 1 (De.sl sz d)) h a = some l) : (l = [] ∧ (a = .v (.slice none 0 0) ∨ a = .e)) ∨
    ∃ id off k, a = .s id k.ver off l.length ∧ h id = some k ∧ off + l.length ≤ k.cells.length ∧ ∀ i (hi : i < l.length), ∃ c, k.cells[off + i]? = some c ∧ rd (De.sl sz d) h c = some l[i] := by
  rcases sl_at e with h0 | ⟨id, off, k, h1, h2, h3, h4⟩
  · exact .inl h0
  · rw [Nat.mul_one] at h3
    refine .inr ⟨id, off, k, h1, h2, h3, fun i hi => ?_⟩
    have := h4 i hi
    rw [Nat.mul_one] at this
    have hlt : off + i < k.cells.length := by omega
    refine ⟨k.cells[off + i], List.getElem?_eq_getElem hlt, ?_⟩
    have e2 : (k.cells.drop (off + i)).take 1 = [k.cells[off + i]] := by
      rw [List.take_one, List.head?_drop, List.getElem?_eq_getElem hlt]
      rfl
    rw [e2] at this
    exact this
/-- The i-th cell of a list. -/
def cellAt (h : Heap) (a : AV) (i : Nat) : AV := match a with
  | .s id _ off _ => match h id with
    | some k => k.cells.getD (off + i) .any
    | none => .any
  | _ => .any
theorem cell_sls {α : Type} {sz : Nat} {d : De α} {h : Heap} {a : AV} {l : List (List α)} (e : rd (De.sl 1 (De.sl sz d)) h a = some l) {i : Nat} (hi : i < l.length) : rd (De.sl sz d) h (cellAt h a i) = some l[i] := by
  rcases sls_at e with ⟨h0, _⟩ | ⟨id, off, k, rfl, h2, h3, h4⟩
  · subst h0; simp at hi
  · obtain ⟨c, h5, h6⟩ := h4 i hi
    simp only [cellAt, h2, List.getD_eq_getElem?_getD, h5, Option.getD_some]
    exact h6
theorem cellAt_le {α : Type} {d : De α} {h h' : Heap} (hh : h.le h') {a : AV} {l : List α} (e : rd (De.sl 1 d) h a = some l) (i : Nat) : cellAt h' a i = cellAt h a i := by
  rcases sl_at e with ⟨_, rfl | rfl⟩ | ⟨id, off, k, rfl, h2, _⟩
  · rfl
  · rfl
  · simp only [cellAt, h2, hh _ _ h2]
theorem sl_inH {α : Type} {sz : Nat} {d : De α} {h : Heap} {a : AV} {l : List α} (e : rd (De.sl sz d) h a = some l) : a.inH h := by
  rcases sl_at e with ⟨_, rfl | rfl⟩ | ⟨id, off, k, rfl, h2, _⟩
  · simp [AV.inH]
  · simp [AV.inH]
  · simp only [AV.inH]; exact ⟨k, h2, rfl⟩
def dePr (h : Heap) : AV → Option Pr
  | .g [a, b] => match rd dPs h a, rd dIss h b with
    | some x, some y => some ⟨x, y⟩
    | _, _ => none
  | _ => none
theorem dePr_out {h : Heap} {x : AV} {p : Pr} (e : dePr h x = some p) : ∃ a b, x = .g [a, b] ∧ rd dPs h a = some p.code ∧ rd dIss h b = some p.cols := by
  unfold dePr at e
  split at e
  · rename_i a b
    split at e
    · rename_i x y e1 e2
      cases e
      exact ⟨a, b, rfl, e1, e2⟩
    · cases e
  · cases e
theorem dePr_in {h : Heap} {a b : AV} {p : Pr} (h1 : rd dPs h a = some p.code) (h2 : rd dIss h b = some p.cols) : dePr h (.g [a, b]) = some p := by simp only [dePr, h1, h2]
theorem dePr_sim {h h' : Heap} (hh : h.sim h') {x : AV} {p : Pr} (e : dePr h x = some p) : dePr h' x = some p := by
  obtain ⟨a, b, rfl, e1, e2⟩ := dePr_out e
  exact dePr_in (rd_sim hh e1) (rd_sim hh e2)
def deEn (h : Heap) : AV → Option En
  | .g [a, .v (.int .i64 each), .v (.int .i64 pos)] => match rd dEss h a with
    | some x => some ⟨x, each, pos⟩
    | _ => none
  | _ => none
theorem deEn_out {h : Heap} {x : AV} {p : En} (e : deEn h x = some p) : ∃ a, x = .g [a, ii p.each, ii p.pos] ∧ rd dEss h a = some p.ls := by
  unfold deEn at e
  split at e
  · rename_i a each pos
    split at e
    · rename_i x e1
      cases e
      exact ⟨a, rfl, e1⟩
    · cases e
  · cases e
theorem deEn_in {h : Heap} {a : AV} {e : En} (h1 : rd dEss h a = some e.ls) : deEn h (.g [a, .v (.int .i64 e.each), .v (.int .i64 e.pos)]) = some e := by simp only [deEn, h1]
theorem deEn_sim {h h' : Heap} (hh : h.sim h') {x : AV} {p : En} (e : deEn h x = some p) : deEn h' x = some p := by
  obtain ⟨a, rfl, e1⟩ := deEn_out e
  exact deEn_in (rd_sim hh e1)
theorem roH_le (h : Heap) {id : Nat} {k : Blk} (e : h id = some k) : roH h id = some k.ro := by simp [roH, e]
/-- Below n all is as it was. -/
def agree (n : Nat) (h0 h : Heap) : Prop := ∀ j, j < n → h j = h0 j
theorem agree_refl (n : Nat) (h : Heap) : agree n h h := fun _ _ => rfl
theorem agree_up {n : Nat} {h0 h : Heap} {i : Nat} (hi : n ≤ i) (b : Option Blk) : agree n h0 (up h i b) ↔ agree n h0 h := by
  constructor
  · intro hh j hj
    have := hh j hj
    rwa [up_ne _ _ (by omega)] at this
  · intro hh j hj
    rw [up_ne _ _ (by omega)]
    exact hh j hj
theorem agree_sim {n : Nat} {h h' : Heap} (hn : ∀ i, n ≤ i → h i = none) (ha : agree n (roH h) h') : h.sim h' := fun i k e => by
  have hi : i < n := by
    by_cases hi : i < n
    · exact hi
    · rw [hn i (by omega)] at e; cases e
  exact ⟨k.ro, by rw [ha i hi]; exact roH_le h e, rfl, rfl⟩
theorem rd_agree {α : Type} {d : De α} {h : Heap} {n : Nat} {a : AV} {x : α} (hn : ∀ i, n ≤ i → h i = none) (e : rd d h a = some x) : ∀ h', agree n (roH h) h' → rd d h' a = some x := fun _ ha => rd_sim (agree_sim hn ha) e
theorem pr_agree {h : Heap} {n : Nat} {a : AV} {x : Pr} (hn : ∀ i, n ≤ i → h i = none) (e : dePr h a = some x) : ∀ h', agree n (roH h) h' → dePr h' a = some x := fun _ ha => dePr_sim (agree_sim hn ha) e
theorem en_agree {h : Heap} {n : Nat} {a : AV} {x : En} (hn : ∀ i, n ≤ i → h i = none) (e : deEn h a = some x) : ∀ h', agree n (roH h) h' → deEn h' a = some x := fun _ ha => deEn_sim (agree_sim hn ha) e
theorem agree_at {n id : Nat} {h h' : Heap} {k : Blk} (hn : ∀ i, n ≤ i → h i = none) (hk : h id = some k) (ha : agree n (roH h) h') : h' id = some ⟨k.cells, k.ver, false, k.esz⟩ := by
  have hi : id < n := by
    by_cases hi : id < n
    · exact hi
    · rw [hn id (by omega)] at hk; cases hk
  rw [ha id hi]
  exact ro_at hk
theorem lt_of {h : Heap} {id n : Nat} {k : Blk} (hk : h id = some k) (hn : ∀ i, n ≤ i → h i = none) : id < n := by
  by_cases hi : id < n
  · exact hi
  · rw [hn id (by omega)] at hk; cases hk
/-- A function that gives back a part of what it is handed. -/
def pureS {α : Type} (de : Heap → List AV → Option α) (f : Heap → List AV → α → AV) : List AV → Heap → PRes := fun args h => match de h args with
  | some a => ⟨True, f h args a⟩
  | none => ⟨False, .any⟩
theorem mkS {S : List Nat} {l : List (FuncId × (List AV → Heap → PRes))} {f : FuncId} {fn : Func} {c : Code} (k : Nat) (ok : TbOk S l) (hf : Tryd.prog.funcs[f]? = some fn) (hb : fn.body = some c) (hok : (!(fn.name == "runtime.NumGoroutine") && fnOk (cx S (pfL l)) fn c && decide (k ≤ fn.ntmps)) = true)
    {α : Type} {de : Heap → List AV → Option α} {g : Heap → List AV → α → AV} (hm : ∀ h h' l x, h.le h' → de h l = some x → de h' l = some x ∧ g h' l x = g h l x) (hk : ∀ h l x, de h l = some x → l.length ≤ k) (hg : ∀ h l a, de h l = some a → (g h l a).inH h)
    (h1 : ∀ args a h n, de h args = some a → (∀ i, n ≤ i → h i = none) → awp (cx S (pfL l)) c (finQ (cx S (pfL l)) fn fun z _ _ => z = g h args a) ⟨env0 args, roH h, n⟩) : P0 S f (pureS de g) := by
  have hok' := hok3 hok
  have hout : ∀ args h, (pureS de g args h).side → ∃ a, de h args = some a ∧ ∀ h', h.le h' → pureS de g args h' = ⟨True, g h args a⟩ := fun args h hs => by
    unfold pureS at hs
    split at hs
    · rename_i a e
      exact ⟨a, e, fun h' hh => by simp only [pureS, (hm _ _ _ _ hh e).1, (hm _ _ _ _ hh e).2]⟩
    · exact hs.elim
  exact pure_any (fun _ hx => hx) (pure_of_awp' (pfL_ok ok) (mixed _ _) hf hb hok'.2.1 (callable hf hok'.1 (by rw [hb]; rfl) _ _) (fun args h h' hh hs => by
      obtain ⟨a, e, hall⟩ := hout args h hs
      rw [hall h' hh, hall h (fun _ _ e => e)]
      exact ⟨trivial, rfl⟩) fun args h hs => by
    obtain ⟨a, e, hall⟩ := hout args h hs
    have hv := hall h (fun _ _ e => e)
    exact ⟨Nat.le_trans (hk _ _ _ e) hok'.2.2, by rw [hv]; exact hg h args a e, fun n hn => by rw [hv]; exact h1 args a h n e hn⟩)
/-- A list of one's own: nil, or a block that no one else has. -/
def Own (h : Heap) (lo n : Nat) (a : AV) (cnt : Nat) (cells : List AV) (esz : Nat) : Prop :=
  (cnt = 0 ∧ cells = [] ∧ a = .v (.slice none 0 0)) ∨ ∃ w u, a = .s w u 0 cnt ∧ h w = some ⟨cells, u, true, esz⟩ ∧ lo ≤ w ∧ w < n
/-- The numbers from n on are free. -/
def Fresh (n : Nat) (h : Heap) : Prop := ∀ q, n ≤ q → h q = none
theorem fresh_up {n : Nat} {h : Heap} {i : Nat} (hi : i < n) (b : Option Blk) : Fresh n (up h i b) ↔ Fresh n h := by
  constructor
  · intro hh q hq
    have := hh q hq
    rwa [up_ne _ _ (by omega)] at this
  · intro hh q hq
    rw [up_ne _ _ (by omega)]
    exact hh q hq
theorem Fresh.add {n : Nat} {h : Heap} (hf : Fresh n h) (k : Nat) : Fresh (n + k) h := fun q hq => hf q (by omega)
theorem Fresh.mono {n m : Nat} {h : Heap} (hf : Fresh n h) (hm : n ≤ m) : Fresh m h := fun q hq => hf q (by omega)
end Go.Proofs.YtkfphaphiikloaaDoor
