/-
  A compiled program in memory of its own: how it reads; in a cell.
-/
import Derived.Test.YtkfphaphiikloaaDoorX23
import Derived.Test.YtkfphaphiikloaaDoorX24
import Derived.Test.YtkfphaphiikloaaDoorX16
import Derived.Test.YtkfphaphiikloaaDoorX21
import Derived.Test.YtkfphaphiikloaaDoorX19
set_option linter.unusedSimpArgs false
set_option linter.unusedVariables false
set_option linter.constructorNameAsVariable false
namespace Go.Proofs.YtkfphaphiikloaaDoor
open Go Go.Eng

theorem is_map : ∀ l : List Int, l.map ii = l.flatMap ic
  | [] => rfl
  | a :: r => by rw [List.map_cons, List.flatMap_cons, is_map r]; rfl
theorem KC.rd {h : Heap} {G : Nat → Prop} {hi : Nat} {bad : Nat → Prop} {c : AV} {l : List Int} (k : KC h G hi bad c l) : rd dIs h c = some l := by
  rcases k with ⟨rfl, rfl⟩ | ⟨b, v, rfl, k2, _⟩
  · rfl
  · exact flat_in Flat.ic (l := l) k2 rfl (r := []) (by rw [is_map]; simp)
theorem cols_rd {h : Heap} {w u : Nat} {cs : List AV} {cols : List (List Int)} (hk : h w = some ⟨cs, u, true, 1⟩) (hl : cs.length = cols.length) (ha : ∀ i (hi' : i < cols.length), ∃ c, cs[i]? = some c ∧ rd dIs h c = some cols[i]) : rd dIss h (.s w u 0 cols.length) = some cols := by
  refine De.sl_in (off := 0) hk (by simp only []; omega) fun i hi => ?_
  obtain ⟨c, h1, h2⟩ := ha i hi
  simp only [Nat.zero_add, Nat.mul_one]
  obtain ⟨h3, h4⟩ := List.getElem?_eq_some_iff.1 h1
  rw [List.drop_eq_getElem_cons h3, h4]
  exact h2
theorem OwnQ.rd {h : Heap} {lo hi : Nat} {z : AV} {p : Pr} (o : OwnQ h lo hi z p) : dePr h z = some p := by
  obtain ⟨ca, la, rfl, o1, o2⟩ := o
  refine dePr_in ?_ ?_
  · rcases o1 with ⟨h0, rfl⟩ | ⟨w, u, rfl, k, _⟩
    · rw [h0]; rfl
    · exact flat_in Flat.ins k rfl (r := []) (by simp)
  · rcases o2 with ⟨h0, rfl⟩ | ⟨w, u, cs, rfl, k, _, _, _, hl, ha⟩
    · rw [h0]; rfl
    · exact cols_rd k hl fun i hi => by
        obtain ⟨c, h1, h2⟩ := ha i hi
        exact ⟨c, h1, h2.rd⟩
theorem OwnQ.up {h h' : Heap} {lo hi lo' hi' : Nat} {z : AV} {p : Pr} (o : OwnQ h lo hi z p) (hh : ∀ q, lo ≤ q → q < hi → h' q = h q) (h1 : lo' ≤ lo) (h2 : hi ≤ hi') : OwnQ h' lo' hi' z p := by
  obtain ⟨ca, la, rfl, o1, o2⟩ := o
  refine ⟨ca, la, rfl, ?_, ?_⟩
  · rcases o1 with h0 | ⟨w, u, k1, k2, k3, k4⟩
    · exact .inl h0
    · exact .inr ⟨w, u, k1, by rw [hh w k3 k4]; exact k2, by omega, by omega⟩
  · rcases o2 with h0 | ⟨w, u, cs, k1, k2, k3, k4, k5, k6, k7⟩
    · exact .inl h0
    · refine .inr ⟨w, u, cs, k1, by rw [hh w k3 k4]; exact k2, by omega, by omega, k5, k6, fun i hi => ?_⟩
      obtain ⟨c, j1, j2⟩ := k7 i hi
      refine ⟨c, j1, ?_⟩
      rcases j2 with j0 | ⟨b, v, d1, d2, d3, d4, d5⟩
      · exact .inl j0
      · exact .inr ⟨b, v, d1, by rw [hh b d3 d4]; exact d2, Nat.le_trans h1 d3, by omega, d5⟩
theorem OwnQ.is {h : Heap} {lo hi : Nat} {z : AV} {p : Pr} (o : OwnQ h lo hi z p) : ∃ ca la, z = .g [ca, la] ∧ ca.one ∧ la.one ∧ (∀ g, AV.unc g ca = ca) ∧ (∀ g, AV.unc g la = la) ∧ ca.cells = [ca] ∧ la.cells = [la] := by
  obtain ⟨ca, la, rfl, o1, o2⟩ := o
  refine ⟨ca, la, rfl, ?_⟩
  rcases o1 with ⟨_, rfl⟩ | ⟨w, u, rfl, _⟩ <;> rcases o2 with ⟨_, rfl⟩ | ⟨w', u', cs', rfl, _⟩ <;> exact ⟨by first | rfl | trivial, by first | rfl | trivial, fun _ => rfl, fun _ => rfl, rfl, rfl⟩
/-- A program in a cell, of one's own. -/
def HasP (s : St) (i p0 hi : Nat) (p : Pr) : Prop := ∃ m ca la, s.e i = .p m 0 0 ∧ p0 ≤ m ∧ m < hi ∧ hi ≤ s.n ∧ s.h m = some ⟨[ca, la], 0, true, 2⟩ ∧ OwnQ s.h p0 hi (.g [ca, la]) p
theorem HasP.up {s s' : St} {i p0 hi : Nat} {p : Pr} (a : HasP s i p0 hi p) (he : s'.e i = s.e i) (hh : ∀ q, p0 ≤ q → q < hi → s'.h q = s.h q) (hn : s.n ≤ s'.n) : HasP s' i p0 hi p := by
  obtain ⟨m, ca, la, h1, h2, h3, h4, h5, h6⟩ := a
  exact ⟨m, ca, la, he.trans h1, h2, h3, by omega, by rw [hh m h2 h3]; exact h5, h6.up hh (Nat.le_refl _) (Nat.le_refl _)⟩
end Go.Proofs.YtkfphaphiikloaaDoor

/-
  CodeSpares, PART I: a compiled program's memory, and what may be done to it.
-/
namespace Go.Proofs.YtkfphaphiikloaaDoor
open Go Go.Eng

/-- A program of one's own: where it lies. -/
structure PX (p : Pr) (A : Ap) (wc uc lo hi : Nat) (ca la : AV) : Prop where
  N : A.N = p.cols.length
  L : ∀ i (hi' : i < p.cols.length), A.L i = p.cols[i].length
  hla : (A.N = 0 ∧ la = .v (.slice none 0 0)) ∨ (la = .s A.wl A.ul 0 A.N ∧ lo ≤ A.wl ∧ A.wl < hi)
  nil : ∀ i, i < A.N → A.nl i = true → A.L i = 0
  rb : ∀ i, i < A.N → A.nl i = false → lo ≤ A.b i ∧ A.b i < hi
  inj : ∀ i j, i < A.N → j < A.N → A.nl i = false → A.nl j = false → A.b i = A.b j → i = j
  ne : ∀ i, i < A.N → A.nl i = false → A.b i ≠ A.wl
  hca : (p.code = [] ∧ ca = .v (.slice none 0 0)) ∨ (ca = .s wc uc 0 p.code.length ∧ lo ≤ wc ∧ wc < hi ∧ (sid la A.wl → wc ≠ A.wl) ∧ ∀ i, i < A.N → A.nl i = false → wc ≠ A.b i)
/-- What lies there: the program; behind it (where it may be) something else. -/
structure PC (p : Pr) (A : Ap) (wc uc : Nat) (ca la : AV) (h : Heap) (xc xl : Prop) (xb : Nat → Prop) : Prop where
  c : sid ca wc → ∃ r, h wc = some ⟨p.code.flatMap icells ++ r, uc, true, 5⟩ ∧ (xc ∨ r = [])
  l : sid la A.wl → ∃ r, h A.wl = some ⟨A.cs ++ r, A.ul, true, 1⟩ ∧ (xl ∨ r = [])
  b : ∀ i (hi : i < p.cols.length), A.nl i = false → ∃ r, h (A.b i) = some ⟨p.cols[i].map ii ++ r, A.u i, true, 1⟩ ∧ (xb i ∨ r = [])
theorem OwnQ.px {h : Heap} {lo hi : Nat} {ca la : AV} {p : Pr} (o : OwnQ h lo hi (.g [ca, la]) p) : ∃ A wc uc, PX p A wc uc lo hi ca la ∧ PC p A wc uc ca la h False False fun _ => False := by
  obtain ⟨ca', la', hz, o1, o2⟩ := o
  obtain ⟨rfl, rfl⟩ : ca = ca' ∧ la = la' := by injection hz with hz; injection hz with h1 h2; injection h2 with h2 _; exact ⟨h1, h2⟩
  obtain ⟨wc, uc, hc, hcc⟩ : ∃ wc uc, ((p.code = [] ∧ ca = .v (.slice none 0 0)) ∨ (ca = .s wc uc 0 p.code.length ∧ lo ≤ wc ∧ wc < hi)) ∧ (sid ca wc → h wc = some ⟨p.code.flatMap icells, uc, true, 5⟩) := by
    rcases o1 with ⟨h0, h1⟩ | ⟨w, u, k1, k2, k3, k4⟩
    · exact ⟨0, 0, .inl ⟨h0, h1⟩, fun e => by rw [h1] at e; exact e.elim⟩
    · exact ⟨w, u, .inr ⟨k1, k3, k4⟩, fun _ => k2⟩
  have hsc : ∀ b, ¬ sid ca b → ca = .s wc uc 0 p.code.length → wc ≠ b := fun b hb hca e => hb (by rw [hca]; exact e)
  rcases o2 with ⟨h0, h1⟩ | ⟨w, u, cs, k1, k2, k3, k4, k5, k6, k7⟩
  · refine ⟨⟨0, fun _ => 0, fun _ => 0, fun _ => 0, fun _ => true, 0, 0⟩, wc, uc, ⟨by rw [h0]; rfl, fun i hi => by rw [h0] at hi; simp at hi, .inl ⟨rfl, h1⟩, fun i hi => absurd hi (Nat.not_lt_zero i), fun i hi => absurd hi (Nat.not_lt_zero i), fun i _ hi => absurd hi (Nat.not_lt_zero i), fun i hi => absurd hi (Nat.not_lt_zero i), ?_⟩, ⟨fun e => ⟨[], by rw [List.append_nil]; exact hcc e, .inr rfl⟩, fun e => by rw [h1] at e; exact e.elim, fun i hi => by rw [h0] at hi; simp at hi⟩⟩
    rcases hc with hc | ⟨c1, c2, c3⟩
    · exact .inl hc
    · exact .inr ⟨c1, c2, c3, fun e => by rw [h1] at e; exact e.elim, fun i hi => absurd hi (Nat.not_lt_zero i)⟩
  · let B : Nat → Nat := fun i => match cs.getD i .any with | .s b _ _ _ => b | _ => 0
    let U : Nat → Nat := fun i => match cs.getD i .any with | .s _ u _ _ => u | _ => 0
    let NL : Nat → Bool := fun i => match cs.getD i .any with | .s _ _ _ _ => false | _ => true
    have hD : ∀ i (hi' : i < p.cols.length) c, cs[i]? = some c → cs.getD i .any = c := fun i _ c e => by rw [List.getD_eq_getElem?_getD, e]; rfl
    have key : ∀ i (hi' : i < p.cols.length), (NL i = true ∧ p.cols[i] = [] ∧ cs[i]? = some (.v (.slice none 0 0))) ∨ (NL i = false ∧ cs[i]? = some (.s (B i) (U i) 0 p.cols[i].length) ∧ h (B i) = some ⟨p.cols[i].map ii, U i, true, 1⟩ ∧ lo ≤ B i ∧ B i < hi ∧ ¬ (sid ca (B i) ∨ B i = w ∨ Ear cs i (B i))) := fun i hi' => by
      obtain ⟨c, j1, j2⟩ := k7 i hi'
      have hd := hD i hi' c j1
      rcases j2 with ⟨d1, rfl⟩ | ⟨b, v, rfl, d2, d3, d4, d5⟩
      · exact .inl ⟨by simp only [NL, hd], d1, j1⟩
      · refine .inr ⟨by simp only [NL, hd], ?_, ?_, ?_, ?_, ?_⟩
        · simp only [B, U, hd]; exact j1
        · simp only [B, U, hd]; exact d2
        · simp only [B, hd]; exact d3
        · simp only [B, hd]; exact d4
        · simp only [B, hd]; exact d5
    have hcs : (⟨p.cols.length, fun i => (p.cols.getD i []).length, B, U, NL, w, u⟩ : Ap).cs = cs := by
      refine List.ext_getElem? fun i => ?_
      by_cases hi' : i < p.cols.length
      · rw [Ap.cs_at _ hi']
        rcases key i hi' with ⟨e1, e2, e3⟩ | ⟨e1, e2, _⟩
        · rw [e3]; simp only [Ap.c, e1, if_true]
        · rw [e2]; simp only [Ap.c, e1, Bool.false_eq_true, if_false, List.getD_eq_getElem?_getD, List.getElem?_eq_getElem hi', Option.getD_some]
      · rw [List.getElem?_eq_none (by rw [Ap.cs_len]; simp only []; omega), List.getElem?_eq_none (by omega)]
    have hgd : ∀ i (hi' : i < p.cols.length), p.cols.getD i [] = p.cols[i] := fun i hi' => by rw [List.getD_eq_getElem?_getD, List.getElem?_eq_getElem hi']; rfl
    refine ⟨⟨p.cols.length, fun i => (p.cols.getD i []).length, B, U, NL, w, u⟩, wc, uc, ⟨rfl, fun i hi' => by simp only [hgd i hi'], .inr ⟨k1, k3, k4⟩, fun i hi' hn => ?_, fun i hi' hn => ?_, fun i j hi' hj' hn hm he => ?_, fun i hi' hn => ?_, ?_⟩, ⟨fun e => ⟨[], by rw [List.append_nil]; exact hcc e, .inr rfl⟩, fun e => ⟨[], by rw [List.append_nil, hcs]; exact k2, .inr rfl⟩, fun i hi' hn => ?_⟩⟩
    · rcases key i hi' with ⟨_, e2, _⟩ | ⟨e1, _⟩
      · simp only [hgd i hi', e2]; rfl
      · rw [show NL i = true from hn] at e1; cases e1
    · rcases key i hi' with ⟨e1, _⟩ | ⟨_, _, _, e4, e5, _⟩
      · rw [show NL i = false from hn] at e1; cases e1
      · exact ⟨e4, e5⟩
    · rcases key i hi' with ⟨e1, _⟩ | ⟨_, e2, _, _, _, e6⟩
      · rw [show NL i = false from hn] at e1; cases e1
      · rcases key j hj' with ⟨f1, _⟩ | ⟨_, f2, _, _, _, f6⟩
        · rw [show NL j = false from hm] at f1; cases f1
        · simp only [] at he
          rcases Nat.lt_trichotomy i j with h | h | h
          · exact absurd (.inr (.inr ⟨i, _, h, e2, he⟩)) f6
          · exact h
          · exact absurd (.inr (.inr ⟨j, _, h, f2, he.symm⟩)) e6
    · rcases key i hi' with ⟨e1, _⟩ | ⟨_, _, _, _, _, e6⟩
      · rw [show NL i = false from hn] at e1; cases e1
      · exact fun e => e6 (.inr (.inl e))
    · rcases hc with hc | ⟨c1, c2, c3⟩
      · exact .inl hc
      · refine .inr ⟨c1, c2, c3, fun _ => hsc w k5 c1, fun i hi' hn => ?_⟩
        rcases key i hi' with ⟨e1, _⟩ | ⟨_, _, _, _, _, e6⟩
        · rw [show NL i = false from hn] at e1; cases e1
        · exact hsc _ (fun e => e6 (.inl e)) c1
    · rcases key i hi' with ⟨e1, _⟩ | ⟨_, _, e3, _⟩
      · rw [show NL i = false from hn] at e1; cases e1
      · exact ⟨[], by rw [List.append_nil]; exact e3, .inr rfl⟩
theorem cols_rd_at {h : Heap} {w u o : Nat} {cs : List AV} {cols : List (List Int)} (hk : h w = some ⟨cs, u, true, 1⟩) (hl : o + cols.length ≤ cs.length) (ha : ∀ i (hi' : i < cols.length), ∃ c, cs[o + i]? = some c ∧ rd dIs h c = some cols[i]) : rd dIss h (.s w u o cols.length) = some cols := by
  refine De.sl_in (off := o) hk (by simp only []; omega) fun i hi => ?_
  obtain ⟨c, h1, h2⟩ := ha i hi
  simp only [Nat.mul_one]
  obtain ⟨h3, h4⟩ := List.getElem?_eq_some_iff.1 h1
  rw [List.drop_eq_getElem_cons h3, h4]
  exact h2
section
variable {p : Pr} {A : Ap} {wc uc lo hi : Nat} {ca la : AV} {h : Heap} {xc xl : Prop} {xb : Nat → Prop}
theorem PC.col (x : PX p A wc uc lo hi ca la) (y : PC p A wc uc ca la h xc xl xb) (i : Nat) (hi' : i < p.cols.length) : rd dIs h (A.c i) = some p.cols[i] := by
  cases hn : A.nl i with
  | true =>
    have := x.nil i (by rw [x.N]; exact hi') hn
    rw [x.L i hi'] at this
    rw [List.eq_nil_of_length_eq_zero this]
    simp only [Ap.c, hn, if_true]
    rfl
  | false =>
    obtain ⟨r, hr, _⟩ := y.b i hi' hn
    simp only [Ap.c, hn, Bool.false_eq_true, if_false]
    rw [x.L i hi']
    exact flat_in Flat.ic (l := p.cols[i]) hr rfl (r := r) (by rw [is_map])
theorem PC.rc (x : PX p A wc uc lo hi ca la) (y : PC p A wc uc ca la h xc xl xb) : rd dPs h ca = some p.code := by
  rcases x.hca with ⟨h0, rfl⟩ | ⟨rfl, _⟩
  · rw [h0]; rfl
  · obtain ⟨r, hr, _⟩ := y.c rfl
    exact flat_in Flat.ins hr rfl (r := r) rfl
theorem PC.rl (x : PX p A wc uc lo hi ca la) (y : PC p A wc uc ca la h xc xl xb) : rd dIss h la = some p.cols := by
  rcases x.hla with ⟨h0, rfl⟩ | ⟨rfl, _⟩
  · rw [x.N] at h0
    rw [List.eq_nil_of_length_eq_zero h0]; rfl
  · obtain ⟨r, hr, _⟩ := y.l rfl
    rw [x.N]
    refine cols_rd_at hr (by rw [List.length_append, Ap.cs_len, x.N]; omega) fun i hi' => ⟨A.c i, ?_, y.col x i hi'⟩
    rw [Nat.zero_add, List.getElem?_append_left (by rw [Ap.cs_len, x.N]; exact hi'), Ap.cs_at _ (by rw [x.N]; exact hi')]
theorem PC.rd (x : PX p A wc uc lo hi ca la) (y : PC p A wc uc ca la h xc xl xb) : dePr h (.g [ca, la]) = some p := dePr_in (y.rc x) (y.rl x)
theorem PC.up {h' : Heap} {xc' xl' : Prop} {xb' : Nat → Prop} (x : PX p A wc uc lo hi ca la) (y : PC p A wc uc ca la h xc xl xb) (hh : ∀ q, lo ≤ q → q < hi → h' q = h q) (h1 : xc → xc') (h2 : xl → xl') (h3 : ∀ i, xb i → xb' i) : PC p A wc uc ca la h' xc' xl' xb' := by
  refine ⟨fun e => ?_, fun e => ?_, fun i hi' hn => ?_⟩
  · obtain ⟨r, k1, k2⟩ := y.c e
    rcases x.hca with ⟨_, rfl⟩ | ⟨_, c2, c3, _⟩
    · exact e.elim
    · exact ⟨r, by rw [hh _ c2 c3]; exact k1, k2.imp h1 id⟩
  · obtain ⟨r, k1, k2⟩ := y.l e
    rcases x.hla with ⟨_, rfl⟩ | ⟨_, c2, c3⟩
    · exact e.elim
    · exact ⟨r, by rw [hh _ c2 c3]; exact k1, k2.imp h2 id⟩
  · obtain ⟨r, k1, k2⟩ := y.b i hi' hn
    obtain ⟨c2, c3⟩ := x.rb i (by rw [x.N]; exact hi') hn
    exact ⟨r, by rw [hh _ c2 c3]; exact k1, k2.imp (h3 i) id⟩
theorem PX.is (x : PX p A wc uc lo hi ca la) : (ca.isS ∧ ca.slen = p.code.length ∧ (∀ g, AV.unc g ca = ca) ∧ ca.one ∧ ca.cells = [ca]) ∧ (la.isS ∧ la.slen = A.N ∧ (∀ g, AV.unc g la = la) ∧ la.one ∧ la.cells = [la]) := by
  refine ⟨?_, ?_⟩
  · rcases x.hca with ⟨h0, rfl⟩ | ⟨rfl, _⟩
    · exact ⟨⟨rfl, rfl⟩, by rw [h0]; rfl, fun _ => rfl, rfl, rfl⟩
    · exact ⟨trivial, rfl, fun _ => rfl, trivial, rfl⟩
  · rcases x.hla with ⟨h0, rfl⟩ | ⟨rfl, _⟩
    · exact ⟨⟨rfl, rfl⟩, h0.symm, fun _ => rfl, rfl, rfl⟩
    · exact ⟨trivial, rfl, fun _ => rfl, trivial, rfl⟩
end
end Go.Proofs.YtkfphaphiikloaaDoor

/-
  THE LAWS WITHOUT THE DOCUMENT, PART A: which trees the laws' own text calls runnable.
-/
namespace Go.Proofs.YtkfphaphiikloaaDoor
open Go Go.Eng

end Go.Proofs.YtkfphaphiikloaaDoor

/-
  THE LAWS WITHOUT THE DOCUMENT, PART B: trees of one node; trees that are joined; is a tree a truth?
-/
namespace Go.Proofs.YtkfphaphiikloaaDoor
open Go Go.Eng

def leafN (x : Nd) : Nd := ⟨x.op, x.n, x.var, x.attr, -1, -1⟩
set_option maxRecDepth 100000 in
set_option maxHeartbeats 2000000 in
theorem c69 {h : Heap} {n : Nat} (x : Nd) (hn : Fresh n h) :
    ACall (cx [] (pfL [])) 69 [.g (ncells x)] h n fun z h' n' => agree n h h' ∧ Fresh n' h' ∧ n ≤ n' ∧ ∃ w, z = .s w 0 0 1 ∧ h' w = some ⟨ncells (leafN x), 0, true, 6⟩ ∧ n ≤ w ∧ w < n' := by
  refine acall_of_awp (args := [.g (ncells x)]) (pfL_ok tb_nil) (mixed _ _) Tryd.func69 (c := Tryd.f69.body.getD .skip) rfl (by kernel_rfl) (callable Tryd.func69 rfl rfl _ _) (show 1 ≤ Tryd.f69.ntmps by decide +kernel) ?_
  have key : ∀ e : Nat → AV, e 0 = .g (ncells x) → awp (cx [] (pfL [])) (Tryd.f69.body.getD .skip) (finQ (cx [] (pfL [])) Tryd.f69 fun z h' n' => agree n h h' ∧ Fresh n' h' ∧ n ≤ n' ∧ ∃ w, z = .s w 0 0 1 ∧ h' w = some ⟨ncells (leafN x), 0, true, 6⟩ ∧ n ≤ w ∧ w < n') ⟨e, h, n⟩ := fun e q0 => by
    simp [evs, aeval, binS, cx_ti, cx_G, cx_pf, cx_tw, ti, globS, glob, ldcs_1, ldcs_2, ldcs_3, ldcs_4, ldcs_5, ldcs_7, sls.eq_1, slc.eq_1, pfL, ldcs, Tryd.f69, q0, ncells, leafN, ii, ss, agree_up, agree_refl, fresh_up, hn.add]
  exact key _ rfl
/-- A node behind k others. -/
def shiftN (k : Nat) (x : Nd) : Nd := ⟨x.op, x.n, x.var, x.attr, if 0 ≤ x.a then IntKind.i64.wrap (x.a + k) else x.a, if 0 ≤ x.b then IntKind.i64.wrap (x.b + k) else x.b⟩
def joinT (op : Int) (a b : List Nd) : List Nd :=
  if op = 12 ∨ op = 13 then a ++ [⟨op, 0, ByteArray.empty, ByteArray.empty, IntKind.i64.wrap (a.length - 1), -1⟩]
  else a ++ b.map (shiftN a.length) ++ [⟨op, 0, ByteArray.empty, ByteArray.empty, IntKind.i64.wrap (a.length - 1), IntKind.i64.wrap (IntKind.i64.wrap (a.length + b.length) - 1)⟩]
theorem join_snoc {a b : List Nd} {j : Nat} (hj : j < b.length) : (a ++ (b.take j).map (shiftN a.length)).flatMap ncells ++ ncells (shiftN a.length b[j]) = (a ++ (b.take (j + 1)).map (shiftN a.length)).flatMap ncells := by
  rw [List.take_add_one, List.getElem?_eq_getElem hj, Option.toList_some, List.map_append, List.flatMap_append, List.flatMap_append, List.flatMap_append, List.append_assoc, List.map_cons, List.map_nil, List.flatMap_cons, List.flatMap_nil, List.append_nil]
theorem join_one (l : List Nd) (x : Nd) : l.flatMap ncells ++ ncells x = (l ++ [x]).flatMap ncells := by simp
set_option maxRecDepth 100000 in
set_option maxHeartbeats 4000000 in
theorem c43 {h : Heap} {n : Nat} {aa ba : AV} {op : Int} {a b : List Nd} (e1 : rd dNs h aa = some a) (e2 : rd dNs h ba = some b) (hp : (a.length + b.length + 1) * 64 ≤ 140737488355328) (hn : Fresh n h) :
    ACall (cx [] (pfL [])) 43 [ii op, aa, ba] h n fun z h' n' => agree n h h' ∧ Fresh n' h' ∧ n ≤ n' ∧ ∃ u, z = .s n u 0 (joinT op a b).length ∧ h' n = some ⟨(joinT op a b).flatMap ncells, u, true, 6⟩ ∧ n < n' := by
  have b1 : a.length * 64 ≤ 140737488355328 := by omega
  have b2 : a.length ≤ 9223372036854775807 := by omega
  have b3 : (a.length + 1) * 64 ≤ 140737488355328 := Nat.le_trans (Nat.mul_le_mul_right 64 (by omega)) hp
  have b4 : a.length + 1 ≤ 9223372036854775807 := by omega
  refine acall_of_awp (args := [ii op, aa, ba]) (pfL_ok tb_nil) (mixed _ _) Tryd.func43 (c := Tryd.f43.body.getD .skip) rfl (by kernel_rfl) (callable Tryd.func43 rfl rfl _ _) (show 3 ≤ Tryd.f43.ntmps by decide +kernel) ?_
  obtain ⟨s1, s2, s3, s4, s5⟩ := sl_is e1
  obtain ⟨t1, t2, t3, t4, t5⟩ := sl_is e2
  have fa : ∀ h'', agree n h h'' → sls h'' aa 0 (a.length * 6) := fun h'' ha => (flat_app Flat.nd (rd_agr hn e1 h'' ha)).1
  have fb : ∀ h'', agree n h h'' → slc h'' aa 0 (a.length * 6) = a.flatMap ncells := fun h'' ha => (flat_app Flat.nd (rd_agr hn e1 h'' ha)).2
  have key : ∀ e : Nat → AV, e 0 = ii op → e 1 = aa → e 2 = ba → awp (cx [] (pfL [])) (Tryd.f43.body.getD .skip) (finQ (cx [] (pfL [])) Tryd.f43 fun z h' n' => agree n h h' ∧ Fresh n' h' ∧ n ≤ n' ∧ ∃ u, z = .s n u 0 (joinT op a b).length ∧ h' n = some ⟨(joinT op a b).flatMap ncells, u, true, 6⟩ ∧ n < n') ⟨e, h, n⟩ := fun e q0 q1 q2 => by
    have hal := flat_len Flat.nd a
    by_cases h12 : op = 12 ∨ op = 13
    · have hj : joinT op a b = a ++ [⟨op, 0, ByteArray.empty, ByteArray.empty, IntKind.i64.wrap (a.length - 1), -1⟩] := by rw [joinT, if_pos h12]
      have hc : (joinT op a b).flatMap ncells = a.flatMap ncells ++ [ii op, ii 0, ss ByteArray.empty, ss ByteArray.empty, ii (IntKind.i64.wrap (a.length - 1)), ii (-1)] := by rw [hj, ← join_one]; rfl
      have hjl : (joinT op a b).length = a.length + 1 := by rw [hj]; simp
      rw [hc, hjl]
      generalize a.flatMap ncells = cl at *
      rcases h12 with rfl | rfl
      · simp [evs, aeval, binS, cx_ti, cx_G, cx_pf, cx_tw, ti, globS, glob, ldcs_1, ldcs_2, ldcs_3, ldcs_4, ldcs_5, ldcs_7, sls.eq_1, slc.eq_1, pfL, Tryd.f43, q0, q1, q2, ii, ss, s1, s2, s3, s4, s5, t1, t2, t3, fa, fb, agree_up, agree_refl, fresh_up, hn.add, b1, b2, b3, b4, hal]
        done
      · simp [evs, aeval, binS, cx_ti, cx_G, cx_pf, cx_tw, ti, globS, glob, ldcs_1, ldcs_2, ldcs_3, ldcs_4, ldcs_5, ldcs_7, sls.eq_1, slc.eq_1, pfL, Tryd.f43, q0, q1, q2, ii, ss, s1, s2, s3, s4, s5, t1, t2, t3, fa, fb, agree_up, agree_refl, fresh_up, hn.add, b1, b2, b3, b4, hal]
        done
    · have h12a : ¬ op = 12 := fun e => h12 (.inl e)
      have h12b : ¬ op = 13 := fun e => h12 (.inr e)
      have hc0 : a.flatMap ncells = (a ++ (b.take 0).map (shiftN a.length)).flatMap ncells := by simp
      simp [evs, aeval, binS, cx_ti, cx_G, cx_pf, cx_tw, ti, globS, glob, ldcs_1, ldcs_2, ldcs_3, ldcs_4, ldcs_5, ldcs_7, sls.eq_1, slc.eq_1, pfL, Tryd.f43, q0, q1, q2, ii, ss, s1, s2, s3, s4, s5, t1, t2, t3, fa, fb, agree_up, agree_refl, b1, b2, hal, h12a, h12b]
      refine awp_loop (fun s => ∃ j u : Nat, j ≤ b.length ∧ s.e 0 = ii op ∧ s.e 1 = aa ∧ s.e 2 = ba ∧ s.e 7 = .s n u 0 (a.length + j) ∧ s.e 8 = ii j ∧ agree n h s.h ∧ s.h n = some ⟨(a ++ (b.take j).map (shiftN a.length)).flatMap ncells, u, true, 6⟩ ∧ Fresh s.n s.h ∧ n + 1 ≤ s.n) (fun s => b.length - (s.e 8).i.toNat) ⟨0, 0, by omega, by simp [up, q0], by simp [up, q1], by simp [up, q2], by simp [up], by simp [up, ii], by simp [agree_up, agree_refl], by simp only [up_same, ← hc0], by simp [fresh_up, hn.add], by simp⟩ ?_
      rintro e' h' n' ⟨j, u, hj, q0, q1, q2, q7, q8, hag, hbk, hfr, hnn⟩
      simp only [] at q0 q1 q2 q7 q8 hag hbk hfr hnn
      have hlen : (a ++ (b.take j).map (shiftN a.length)).length = a.length + j := by simp; omega
      have hcl := flat_len Flat.nd (a ++ (b.take j).map (shiftN a.length))
      rw [hlen] at hcl
      have fit : ∀ m, m ≤ b.length → (a.length + (m + 1)) * 64 ≤ 140737488355328 := fun m hm => Nat.le_trans (Nat.mul_le_mul_right 64 (by omega)) hp
      have g1 := fit j hj
      have g2 : a.length + (j + 1) ≤ 9223372036854775807 := by omega
      have hc6 : (a.length + j) * 6 ≤ (a.length + j) * 6 := Nat.le_refl _
      by_cases hlt : j < b.length
      · rcases ns_at e2 with ⟨h0, _⟩ | ⟨id, off, k, rfl, hk, ho', hat⟩
        · rw [h0] at hlt; simp at hlt
        have hr := hat j hlt
        have hid := lt_of hk hn
        have hk' : h' id = some k := by rw [hag id hid]; exact hk
        have y0 : ¬ id = n' := by omega
        have y2 : ¬ n = n' := by omega
        have y4 : n ≤ n' := by omega
        have y5 : ∀ m, ¬ n = n' + m := fun m => by omega
        have y6 : ∀ m, n ≤ n' + m := fun m => by omega
        have y7 : ∀ m, 0 < m → n < n' + m := fun m h => by omega
        have hw := wrap_nat (j := j) (by unfold big; omega)
        have hle : ∀ (X : Ctx) (h' : Heap), h' id = some k → ldcs X h' (.p id k.ver (off + j * 6)) 0 6 = ncells b[j] := fun X h' e => ldcs_nd e hr
        have hw6 : off + (j * 6 + 6) ≤ k.cells.length := by omega
        have hsn := (join_snoc (a := a) hlt).trans (b := (a ++ (b.take (j + 1)).map (shiftN a.length)).flatMap ncells) (c := a.flatMap ncells ++ ((b.map (shiftN a.length)).take (j + 1)).flatMap ncells) (by rw [List.flatMap_append, List.map_take])
        generalize (a ++ (b.take j).map (shiftN a.length)).flatMap ncells = cs at *
        generalize b[j] = x at *
        obtain ⟨xo, num, var, attr, xa, xb⟩ := x
        by_cases ha : 0 ≤ xa
        · by_cases hb : 0 ≤ xb
          · simp only [shiftN, ncells, ha, hb, if_true] at hsn
            simp [evs, aeval, binS, cx_ti, cx_G, cx_pf, cx_tw, ti, globS, glob, ldcs_1, ldcs_2, ldcs_3, ldcs_4, ldcs_5, ldcs_7, sls.eq_1, slc.eq_1, pfL, ldcs, q0, q1, q2, q7, q8, ii, ss, s1, s2, s3, hlt, hk', y0, y2, y4, y5, hle, hw6, ncells, ha, hb, agree_up, hag, hbk, hcl, g1, g2, hw]
            refine ⟨⟨j + 1, hlt, u + 1, ⟨rfl, rfl⟩, by omega, ?_⟩, by omega⟩
            exact ⟨by simp [agree_up, y4, y6, hag], ⟨hsn, rfl⟩, by simp [fresh_up, hfr.add, y7], by omega⟩
          · simp only [shiftN, ncells, ha, hb, if_true, if_false] at hsn
            simp [evs, aeval, binS, cx_ti, cx_G, cx_pf, cx_tw, ti, globS, glob, ldcs_1, ldcs_2, ldcs_3, ldcs_4, ldcs_5, ldcs_7, sls.eq_1, slc.eq_1, pfL, ldcs, q0, q1, q2, q7, q8, ii, ss, s1, s2, s3, hlt, hk', y0, y2, y4, y5, hle, hw6, ncells, ha, hb, agree_up, hag, hbk, hcl, g1, g2, hw]
            refine ⟨⟨j + 1, hlt, u + 1, ⟨rfl, rfl⟩, by omega, ?_⟩, by omega⟩
            exact ⟨by simp [agree_up, y4, y6, hag], ⟨hsn, rfl⟩, by simp [fresh_up, hfr.add, y7], by omega⟩
        · by_cases hb : 0 ≤ xb
          · simp only [shiftN, ncells, ha, hb, if_true, if_false] at hsn
            simp [evs, aeval, binS, cx_ti, cx_G, cx_pf, cx_tw, ti, globS, glob, ldcs_1, ldcs_2, ldcs_3, ldcs_4, ldcs_5, ldcs_7, sls.eq_1, slc.eq_1, pfL, ldcs, q0, q1, q2, q7, q8, ii, ss, s1, s2, s3, hlt, hk', y0, y2, y4, y5, hle, hw6, ncells, ha, hb, agree_up, hag, hbk, hcl, g1, g2, hw]
            refine ⟨⟨j + 1, hlt, u + 1, ⟨rfl, rfl⟩, by omega, ?_⟩, by omega⟩
            exact ⟨by simp [agree_up, y4, y6, hag], ⟨hsn, rfl⟩, by simp [fresh_up, hfr.add, y7], by omega⟩
          · simp only [shiftN, ncells, ha, hb, if_false] at hsn
            simp [evs, aeval, binS, cx_ti, cx_G, cx_pf, cx_tw, ti, globS, glob, ldcs_1, ldcs_2, ldcs_3, ldcs_4, ldcs_5, ldcs_7, sls.eq_1, slc.eq_1, pfL, ldcs, q0, q1, q2, q7, q8, ii, ss, s1, s2, s3, hlt, hk', y0, y2, y4, y5, hle, hw6, ncells, ha, hb, agree_up, hag, hbk, hcl, g1, g2, hw]
            refine ⟨⟨j + 1, hlt, u + 1, ⟨rfl, rfl⟩, by omega, ?_⟩, by omega⟩
            exact ⟨by simp [agree_up, y4, y6, hag], ⟨hsn, rfl⟩, by simp [fresh_up, hfr.add, y7], by omega⟩
      · obtain rfl : j = b.length := by omega
        have hj' : joinT op a b = a ++ b.map (shiftN a.length) ++ [⟨op, 0, ByteArray.empty, ByteArray.empty, IntKind.i64.wrap (a.length - 1), IntKind.i64.wrap (IntKind.i64.wrap (a.length + b.length) - 1)⟩] := by rw [joinT, if_neg h12]
        have hc : (joinT op a b).flatMap ncells = (a ++ b.map (shiftN a.length)).flatMap ncells ++ [ii op, ii 0, ss ByteArray.empty, ss ByteArray.empty, ii (IntKind.i64.wrap (a.length - 1)), ii (IntKind.i64.wrap (IntKind.i64.wrap (a.length + b.length) - 1))] := by rw [hj', ← join_one]; rfl
        have hjl : (joinT op a b).length = a.length + b.length + 1 := by rw [hj']; simp; omega
        rw [hc, hjl]
        have y2 : ∀ m, ¬ n = n' + m := fun m => by omega
        have y3 : ¬ n = n' := by omega
        have y4 : ∀ m, n ≤ n' + m := fun m => by omega
        have y5 : n ≤ n' := by omega
        have y7 : ∀ m, 0 < m → n < n' + m := fun m h => by omega
        rw [List.take_length] at hbk hcl
        generalize (a ++ b.map (shiftN a.length)).flatMap ncells = cs at *
        simp [evs, aeval, binS, cx_ti, cx_G, cx_pf, cx_tw, ti, globS, glob, ldcs_1, ldcs_2, ldcs_3, ldcs_4, ldcs_5, ldcs_7, sls.eq_1, slc.eq_1, pfL, q0, q1, q2, q7, q8, ii, ss, s1, s2, s3, t1, t2, t3, hag, hbk, hcl, agree_up, fresh_up, hfr.add, g1, g2, y2, y3, y4, y5, y7]
        done
  exact key _ rfl rfl rfl
end Go.Proofs.YtkfphaphiikloaaDoor

/-
  A COMPILED PROGRAM RUNS AS ITS TREE MEANS: the plain law.
-/
namespace Go.Proofs.YtkfphaphiikloaaDoor
open Go Go.Eng

theorem lay_own {t : List Nd} {f g : Nat → Ins} {k : Nat} : ∀ {n : Nat}, k < n → (layT t f g n)[posT t k]? = some (f k)
  | 0, h => by omega
  | n + 1, h => by
    simp only [layT]
    by_cases e : k = n
    · subst e
      rw [List.getElem?_append_right (by rw [lay_len]; exact Nat.le_refl _), lay_len, Nat.sub_self]
      rfl
    · have hl := pos_lt (t := t) (k := k) (n := n) (by omega)
      rw [List.getElem?_append_left (by rw [lay_len]; omega)]
      exact lay_own (by omega)
theorem lay_jmp {t : List Nd} {f g : Nat → Ins} {k : Nat} (hp : (parT t k).isSome = true) : ∀ {n : Nat}, k < n → (layT t f g n)[posT t k + 1]? = some (g k)
  | 0, h => by omega
  | n + 1, h => by
    simp only [layT]
    by_cases e : k = n
    · subst e
      rw [List.getElem?_append_right (by rw [lay_len]; omega), lay_len, Nat.add_sub_cancel_left, if_pos hp]
      rfl
    · have hl := pos_lt (t := t) (k := k) (n := n) (by omega)
      rw [if_pos hp] at hl
      rw [List.getElem?_append_left (by rw [lay_len]; omega)]
      exact lay_jmp hp (by omega)
theorem name_col {sc : List Ty} {t : List Nd} {i : Nat} (hi : i < t.length) (h : 4 ≤ t[i].op ∧ t[i].op ≤ 11 ∧ t[i].op ≠ 5) : 0 ≤ ixOf (namesOf t) t[i].attr ∧ ((namesOf t).map (colOf sc))[(ixOf (namesOf t) t[i].attr).toNat]? = some (colOf sc t[i].attr) := by
  obtain ⟨m, hm⟩ := names_app t (i + 1) (t.length - (i + 1))
  rw [show i + 1 + (t.length - (i + 1)) = t.length by omega] at hm
  have h1 : namesTo t (i + 1) = addN (namesTo t i) t[i].attr := by rw [namesTo, getD_at hi, addX, if_pos h]
  have h2 : (namesOf t).findIdx (· == t[i].attr) < (namesOf t).length := by
    unfold namesOf
    rw [hm]
    exact (ix_app m (by rw [h1]; exact add_has _ _)).2
  have h3 : ixOf (namesOf t) t[i].attr = (((namesOf t).findIdx (· == t[i].attr) : Nat) : Int) := by unfold ixOf; rw [if_pos h2]
  have h4 := List.findIdx_getElem (w := h2)
  rw [h3, Int.toNat_natCast]
  refine ⟨by omega, ?_⟩
  rw [List.getElem?_map, List.getElem?_eq_getElem h2, Option.map_some]
  have h5 : (namesOf t)[(namesOf t).findIdx (· == t[i].attr)] = t[i].attr := by rw [← ba_beq]; exact h4
  rw [h5]
def isT (v : V) : Prop := v.k = true → v.n = 0 ∨ v.n = 1
theorem rank_isT (r : Int) : isT (ofRank r) := by
  unfold ofRank isT
  repeat' split
  all_goals simp
theorem truth_isT (b : Bool) : isT (truthV b) := by
  unfold truthV isT
  split <;> simp
theorem cmp_isT (o : Int) (a b : V) : isT (cmpV o a b) := by
  unfold cmpV
  repeat' split
  all_goals first | exact truth_isT _ | (intro h; cases h)
/-- A truth's value is 0 or 1. -/
theorem node_isT {sc : List Ty} {it : Int} {en : En} {x : Nd} {va vb : V} (h : truthO x.op = true) : isT (nodeV sc it en x va vb) := by
  unfold truthO at h
  simp only [decide_eq_true_eq] at h
  unfold nodeV
  by_cases h1 : x.op = 1
  · omega
  by_cases h2 : x.op = 2
  · rw [if_neg h1, if_pos h2]; exact fun _ => .inr rfl
  by_cases h3 : x.op = 3
  · rw [if_neg h1, if_neg h2, if_pos h3]; exact fun _ => .inl rfl
  by_cases h4 : x.op ≤ 11
  · omega
  by_cases h5 : x.op = 12
  · omega
  rw [if_neg h1, if_neg h2, if_neg h3, if_neg h4, if_neg h5]
  by_cases h6 : x.op = 13
  · rw [if_pos h6]; exact rank_isT _
  rw [if_neg h6]
  unfold applyL
  repeat' split
  all_goals first | omega | exact rank_isT _ | exact cmp_isT _ _ _
theorem last_snoc (st : List V) (v : V) : (st ++ [v]).getLastD unk = v := by simp [List.getLastD_eq_getLast?]
theorem drop_snoc (st : List V) (v : V) : (st ++ [v]).dropLast = st := by simp
section
variable {sc : List Ty} {vs : List ByteArray} {t : List Nd} {lo : Nat → Nat} {en : En}
def progP (sc : List Ty) (vs : List ByteArray) (t : List Nd) : Pr := ⟨codeT vs t, (namesOf t).map (colOf sc)⟩
theorem own_at {i : Nat} (hi : i < t.length) : ∃ h : posT t i < (progP sc vs t).code.length, (progP sc vs t).code[posT t i]'h = ownI (namesOf t) (itemV vs t[i]) t[i] := by
  have h1 : (codeT vs t)[posT t i]? = some (ownT vs t i) := lay_own hi
  obtain ⟨h2, h3⟩ := List.getElem?_eq_some_iff.1 h1
  exact ⟨h2, h3.trans (by rw [ownT, getD_at hi])⟩
theorem node_ok (h : okTo vs t t.length = true) {i : Nat} (hi : i < t.length) : nodeOk vs t t[i] = true := by
  unfold okTo at h
  rw [List.take_length, List.all_eq_true] at h
  exact h _ (List.getElem_mem hi)
/-- The subtree of a node leaves the node's value on the stack. -/
theorem run_sub (T : Tre t lo) (hok : okTo vs t t.length = true) : ∀ (i : Nat), i < t.length → ∀ st : List V, fromV (progP sc vs t) en (posT t (lo i)) st = fromV (progP sc vs t) en (posT t i + 1) (st ++ [valAt sc (t.map (itemV vs)) en t i]) := by
  intro i
  induction i using Nat.strongRecOn with
  | _ i ih =>
    intro hi st
    obtain ⟨hlt, hown⟩ := own_at (sc := sc) (vs := vs) hi
    have hv := valAt_eq (sc := sc) (its := t.map (itemV vs)) (en := en) hi
    have hits : (t.map (itemV vs)).getD i 0 = itemV vs t[i] := by rw [List.getD_eq_getElem?_getD, List.getElem?_map, List.getElem?_eq_getElem hi]; rfl
    rw [hits] at hv
    have hno := node_ok hok hi
    rcases T.kind i hi with ⟨b1, b2, b3, b4, b⟩ | ⟨b0, b1, b2, b3, b⟩ | ⟨b0, b0', b1, b2, a, b3, b4, b⟩
    · rw [b]
      have key : stepV (progP sc vs t) en (progP sc vs t).code[posT t i] (posT t i) st = some (posT t i + 1, st ++ [valAt sc (t.map (itemV vs)) en t i]) := by
        rw [hown, hv]
        unfold ownI nodeV
        by_cases o1 : t[i].op = 1
        · simp only [o1, if_true]
          exact step_push (by simp only [needsV]; omega) rfl
        by_cases o2 : t[i].op = 2
        · simp only [o2, if_true]
          exact step_push (by simp [needsV]) rfl
        by_cases o3 : t[i].op = 3
        · simp only [o3, if_true]
          exact step_push (by simp [needsV]) rfl
        rw [if_neg o1, if_neg o2, if_neg o3, if_neg o1, if_neg o2, if_neg o3, if_pos b2]
        by_cases o5 : t[i].op = 5
        · simp only [o5]
          exact step_count (by simp only [needsV]; simp) rfl
        obtain ⟨n1, n2⟩ := name_col (sc := sc) hi ⟨by omega, b2, o5⟩
        by_cases o4 : t[i].op = 4
        · simp only [o4]
          exact step_col (p := progP sc vs t) (by simp only [needsV]; simp) (by simp) (by simp; exact n1) n2
        by_cases o11 : t[i].op = 11
        · simp only [o11]
          exact step_col (p := progP sc vs t) (by simp only [needsV]; simp) (by simp) (by simp; exact n1) n2
        rw [if_neg o4, if_neg o11, if_neg o5, if_pos (by omega)]
        have hcm : codeM t[i].op = t[i].op - 1 := by unfold codeM; rw [if_neg o5, if_neg o11, if_neg o4]
        rw [hcm]
        exact step_col (p := progP sc vs t) (by simp only [needsV]; (repeat' split) <;> omega) (by simp only []; omega) (by simp only []; omega) n2
      exact from_some hlt key
    · have hpu := pos_un T hi (by omega) b1
      rw [b, ih (i - 1) (by omega) (by omega) st, ← hpu]
      have hva : getV (valsTo sc (t.map (itemV vs)) en t i) t[i].a = valAt sc (t.map (itemV vs)) en t (i - 1) := by
        rw [get_val (by omega) (by omega), b2, Int.toNat_natCast]
      rw [hva] at hv
      have key : stepV (progP sc vs t) en (progP sc vs t).code[posT t i] (posT t i) (st ++ [valAt sc (t.map (itemV vs)) en t (i - 1)]) = some (posT t i + 1, st ++ [valAt sc (t.map (itemV vs)) en t i]) := by
        rw [hown, hv]
        unfold ownI nodeV
        rcases b0 with o | o
        · simp only [o]
          refine (step_neg (by simp [needsV]; omega) (by simp)).trans ?_
          rw [last_snoc, drop_snoc]
          simp
        · simp only [o]
          refine (step_not (by simp [needsV]; omega) (by simp)).trans ?_
          rw [last_snoc, drop_snoc]
          simp
      exact from_some hlt key
    · have hpu := pos_un T hi (by omega) b1
      have hle := T.le (i - 1) (by omega)
      have hva : getV (valsTo sc (t.map (itemV vs)) en t i) t[i].a = valAt sc (t.map (itemV vs)) en t a := by
        rw [get_val (by omega) (by omega), b3, Int.toNat_natCast]
      have hvb : getV (valsTo sc (t.map (itemV vs)) en t i) t[i].b = valAt sc (t.map (itemV vs)) en t (i - 1) := by
        rw [get_val (by omega) (by omega), b2, Int.toNat_natCast]
      rw [hva, hvb] at hv
      have hv' : valAt sc (t.map (itemV vs)) en t i = applyL t[i].op (valAt sc (t.map (itemV vs)) en t a) (valAt sc (t.map (itemV vs)) en t (i - 1)) := by
        rw [hv]
        unfold nodeV
        rw [if_neg (by omega), if_neg (by omega), if_neg (by omega), if_neg (by omega), if_neg (by omega), if_neg (by omega)]
      have hsk := pos_sk T hi b0 b3
      rw [b, ih a (by omega) (by omega) st]
      have two : fromV (progP sc vs t) en (posT t (lo (i - 1))) (st ++ [valAt sc (t.map (itemV vs)) en t a]) = fromV (progP sc vs t) en (posT t i + 1) (st ++ [valAt sc (t.map (itemV vs)) en t i]) := by
        rw [ih (i - 1) (by omega) (by omega), ← hpu]
        refine from_some (q := (posT t i + 1, st ++ [valAt sc (t.map (itemV vs)) en t i])) hlt ?_
        rw [hown, hv']
        have : ownI (namesOf t) (itemV vs t[i]) t[i] = ⟨t[i].op - 2, 0, 0, 0, 0⟩ := by
          unfold ownI
          rw [if_neg (by omega), if_neg (by omega), if_neg (by omega), if_neg (by omega), if_neg (by omega), if_neg (by omega), if_neg (by omega)]
        rw [this]
        refine (step_two (by simp only [needsV, List.length_append, List.length_cons, List.length_nil]; (repeat' split) <;> omega) (by simp only []; omega)).trans ?_
        rw [last_snoc, drop_snoc, last_snoc, drop_snoc, show t[i].op - 2 + 2 = t[i].op by omega]
      by_cases h25 : 25 ≤ t[i].op
      · rw [if_pos h25] at hsk
        rw [b4] at two
        rw [hsk] at two
        have hpa := par_at T hi h25 b3
        have hj : (codeT vs t)[posT t a + 1]? = some (jmpT t (fun p => posT t p + 1) a) := lay_jmp (by rw [hpa]; rfl) (by omega)
        have hje : jmpT t (fun p => posT t p + 1) a = ⟨t[i].op, 0, 0, 0, (posT t i : Int) + 1⟩ := by
          unfold jmpT
          rw [hpa]
          simp only []
          rw [getD_at hi]
          simp
        rw [hje] at hj
        obtain ⟨h2, h3⟩ : ∃ h : posT t a + 1 < (progP sc vs t).code.length, (progP sc vs t).code[posT t a + 1]'h = ⟨t[i].op, 0, 0, 0, (posT t i : Int) + 1⟩ := List.getElem?_eq_some_iff.1 hj
        have hlen : (progP sc vs t).code.length = posT t t.length := lay_len _ _ _
        have hpl := pos_lt (t := t) hi
        have hpl2 := pos_lt (t := t) (k := a) (n := i) (by omega)
        rw [hpa] at hpl2
        simp only [Option.isSome_some, if_true] at hpl2
        have htr : isT (valAt sc (t.map (itemV vs)) en t a) := by
          rw [valAt_eq (show a < t.length by omega)]
          refine node_isT ?_
          unfold nodeOk at hno
          rw [if_neg (by omega), if_neg (by omega), b3, Int.toNat_natCast, getD_at (show a < t.length by omega)] at hno
          simp only [Bool.and_eq_true, beq_iff_eq] at hno
          rw [hno.1]
          unfold wantsT
          simp; omega
        have hjt : ¬ ((⟨t[i].op, 0, 0, 0, (posT t i : Int) + 1⟩ : Ins).to ≤ ((posT t a + 1 : Nat) : Int) ∨ (⟨t[i].op, 0, 0, 0, (posT t i : Int) + 1⟩ : Ins).to > (progP sc vs t).code.length) := by
          simp only []
          rw [hlen]
          omega
        have hne : ¬ (needsV (⟨t[i].op, 0, 0, 0, (posT t i : Int) + 1⟩ : Ins).code < 0 ∨ ((st ++ [valAt sc (t.map (itemV vs)) en t a]).length : Int) < needsV (⟨t[i].op, 0, 0, 0, (posT t i : Int) + 1⟩ : Ins).code) := by
          simp only [needsV, List.length_append, List.length_cons, List.length_nil]
          (repeat' split) <;> omega
        by_cases hd : (valAt sc (t.map (itemV vs)) en t a).k = true ∧ ((valAt sc (t.map (itemV vs)) en t a).n ≠ 0 ↔ t[i].op = 26)
        · have hst := step_jump (p := progP sc vs t) (e := en) hne h25 hjt (by rw [last_snoc]; exact hd)
          rw [← h3] at hst
          rw [from_some h2 hst]
          have h01 := htr hd.1
          have : valAt sc (t.map (itemV vs)) en t i = valAt sc (t.map (itemV vs)) en t a := by
            rw [hv']
            have hr3 := rank3 (valAt sc (t.map (itemV vs)) en t (i - 1))
            generalize valAt sc (t.map (itemV vs)) en t a = va at *
            generalize valAt sc (t.map (itemV vs)) en t (i - 1) = vb at *
            obtain ⟨vk, vn⟩ := va
            simp only [] at hd h01
            obtain ⟨rfl, hd2⟩ := hd
            rcases (show t[i].op = 25 ∨ t[i].op = 26 by omega) with o | o
            · rw [o] at hd2 ⊢
              have : vn = 0 := by
                rcases h01 with h | h
                · exact h
                · exact absurd (hd2.1 (by rw [h]; decide)) (by decide)
              subst this
              simp only [applyL]
              simp [andV, rankV, ofRank]
              unfold rankV at hr3
              rcases hr3 with h | h | h <;> simp [h]
            · rw [o] at hd2 ⊢
              have : vn = 1 := by
                rcases h01 with h | h
                · exact absurd h (hd2.2 rfl)
                · exact h
              subst this
              simp only [applyL]
              simp [orV, rankV, ofRank]
              unfold rankV at hr3
              rcases hr3 with h | h | h <;> simp [h]
          rw [this]
          simp only [h3]
          rw [show ((posT t i : Int) + 1).toNat = posT t i + 1 by omega]
        · have hst := step_stay (p := progP sc vs t) (e := en) hne h25 hjt (by rw [last_snoc]; exact hd)
          rw [← h3] at hst
          rw [from_some h2 hst]
          exact two
      · rw [if_neg h25] at hsk
        rw [b4, hsk] at two
        exact two
/-- A COMPILED PROGRAM RUNS AS ITS TREE MEANS. -/
theorem run_comp (h : runT vs t = true) : runV (compP sc vs t) en = (evalV sc vs en t, 0) := by
  have hr := h
  simp only [runT, Bool.and_eq_true] at hr
  have T := tre_of hr.1
  have hpos := T.pos
  rw [compP, if_pos h, evalV, if_pos h, run_from]
  have := run_sub (sc := sc) (vs := vs) (en := en) T hr.2 (t.length - 1) (by omega) []
  rw [T.root] at this
  refine this.trans ?_
  rw [List.nil_append, from_end]
  · rfl
  · show (codeT vs t).length ≤ _
    rw [codeT, lay_len, pos_end T]
    exact Nat.le_refl _
end
end Go.Proofs.YtkfphaphiikloaaDoor
