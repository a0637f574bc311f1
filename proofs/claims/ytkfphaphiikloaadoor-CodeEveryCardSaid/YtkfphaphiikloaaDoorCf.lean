/-
  THE PROGRAMS OF CONDITIONS, PART F: the machine's stack.
-/
import Derived.Test.YtkfphaphiikloaaDoorCe
set_option linter.unusedSimpArgs false
set_option linter.unusedVariables false
set_option linter.constructorNameAsVariable false
set_option linter.unusedSimpArgs false
namespace Go.Proofs.YtkfphaphiikloaaDoor
open Go Go.Eng

def vcells (v : V) : List AV := [.v (.bool v.k), .v (.int .i64 v.n)]
theorem vc_len (l : List V) : (l.flatMap vcells).length = l.length * 2 := by
  induction l with
  | nil => rfl
  | cons v l ih => simp only [List.flatMap_cons, List.length_append, ih, vcells, List.length_cons, List.length_nil]; omega
theorem vc_app (l : List V) (v : V) : (l ++ [v]).flatMap vcells = l.flatMap vcells ++ [.v (.bool v.k), .v (.int .i64 v.n)] := by simp [vcells]
/-- A stack: nil, or the first cells of a block of one's own. -/
def OwnS (h : Heap) (lo n : Nat) (a : AV) (st : List V) : Prop :=
  (st = [] ∧ a = .v (.slice none 0 0)) ∨ ∃ w u cs, a = .s w u 0 st.length ∧ h w = some ⟨cs, u, true, 2⟩ ∧ (∃ r, cs = st.flatMap vcells ++ r) ∧ lo ≤ w ∧ w < n
/-- What one asks of a stack with something on it. -/
theorem top_facts {h : Heap} {lo n : Nat} {a : AV} {pre : List V} {x : V} (o : OwnS h lo n a (pre ++ [x])) : ∃ w u cs, a = .s w u 0 (pre.length + 1) ∧ h w = some ⟨cs, u, true, 2⟩ ∧ lo ≤ w ∧ w < n ∧
    cs[pre.length * 2]? = some (.v (.bool x.k)) ∧ cs[pre.length * 2 + 1]? = some (.v (.int .i64 x.n)) ∧ pre.length * 2 + 2 ≤ cs.length ∧
    (∀ c d, ∃ r, (cs.set (pre.length * 2) c).set (pre.length * 2 + 1) d = pre.flatMap vcells ++ ([c, d] ++ r)) ∧ ∃ r, cs = (pre ++ [x]).flatMap vcells ++ r := by
  rcases o with ⟨h0, _⟩ | ⟨w, u, cs, h1, h2, ⟨r, rfl⟩, h3, h4⟩
  · simp at h0
  · refine ⟨w, u, _, by simpa using h1, h2, h3, h4, ?_⟩
    have hl := vc_len pre
    have e : (pre ++ [x]).flatMap vcells ++ r = pre.flatMap vcells ++ (.v (.bool x.k) :: .v (.int .i64 x.n) :: r) := by simp [vcells]
    rw [e]
    refine ⟨?_, ?_, ?_, fun c d => ⟨r, ?_⟩, r, e.symm⟩
    · rw [List.getElem?_append_right (by omega), hl]; simp
    · rw [List.getElem?_append_right (by omega), hl]; simp
    · simp only [List.length_append, List.length_cons, hl]; omega
    · rw [← hl, List.set_append_right _ _ (Nat.le_refl _), List.set_append_right _ _ (by omega)]
      simp
theorem top2_facts {h : Heap} {lo n : Nat} {a : AV} {pre : List V} {y x : V} (o : OwnS h lo n a (pre ++ [y] ++ [x])) : ∃ w u cs, a = .s w u 0 (pre.length + 1 + 1) ∧ h w = some ⟨cs, u, true, 2⟩ ∧ lo ≤ w ∧ w < n ∧
    cs[pre.length * 2]? = some (.v (.bool y.k)) ∧ cs[pre.length * 2 + 1]? = some (.v (.int .i64 y.n)) ∧ cs[(pre.length + 1) * 2]? = some (.v (.bool x.k)) ∧ cs[(pre.length + 1) * 2 + 1]? = some (.v (.int .i64 x.n)) ∧ (pre.length + 1) * 2 + 2 ≤ cs.length ∧
    ∀ c d, ∃ r, (cs.set (pre.length * 2) c).set (pre.length * 2 + 1) d = pre.flatMap vcells ++ ([c, d] ++ r) := by
  obtain ⟨w, u, cs, h1, h2, h3, h4, h5, h6, h7, _, r, hr⟩ := top_facts o
  refine ⟨w, u, cs, by simpa using h1, h2, h3, h4, ?_⟩
  have o2 : OwnS (fun _ => some ⟨cs, 0, true, 2⟩) 0 1 (.s 0 0 0 (pre ++ [y]).length) (pre ++ [y]) := .inr ⟨0, 0, cs, rfl, rfl, ⟨vcells x ++ r, by rw [hr]; simp⟩, Nat.le_refl _, by omega⟩
  obtain ⟨w', u', cs', k1, k2, _, _, k5, k6, k7, k8, _⟩ := top_facts o2
  simp only [Option.some.injEq, Blk.mk.injEq, and_true] at k2
  obtain ⟨rfl, _⟩ := k2
  simp only [List.length_append, List.length_cons, List.length_nil] at h5 h6 h7
  exact ⟨k5, k6, by simpa using h5, by simpa using h6, by simpa using h7, k8⟩
theorem snoc {st : List V} (h : 0 < st.length) : ∃ pre x, st = pre ++ [x] := ⟨st.dropLast, st.getLast (List.length_pos_iff.1 h), (List.dropLast_concat_getLast _).symm⟩
theorem snoc2 {st : List V} (h : 2 ≤ st.length) : ∃ pre y x, st = pre ++ [y] ++ [x] := by
  obtain ⟨pre, x, rfl⟩ := snoc (st := st) (by omega)
  obtain ⟨pre', y, rfl⟩ := snoc (st := pre) (by simp at h; omega)
  exact ⟨pre', y, x, rfl⟩

/-- Programs and environments in range. -/
structure PrOk (p : Pr) : Prop where
  len : p.code.length * 40 ≤ 140737488355328
  ok : ∀ i ∈ p.code, InsOk i
  col : ∀ c ∈ p.cols, c.length < big
def okR (q : Pr × En) : Prop := PrOk q.1 ∧ EnOk q.2
def deR (h : Heap) : List AV → Option (Pr × En)
  | [p, e] => match dePr h p, deEn h e with
    | some p, some e => some (p, e)
    | _, _ => none
  | _ => none
theorem deR_out {h : Heap} {args : List AV} {q : Pr × En} (e : deR h args = some q) : ∃ x y, args = [x, y] ∧ dePr h x = some q.1 ∧ deEn h y = some q.2 := by
  unfold deR at e
  split at e
  · split at e
    · rename_i e1 e2
      cases e
      exact ⟨_, _, rfl, e1, e2⟩
    · cases e
  · cases e
theorem deR_sim {h h' : Heap} {args : List AV} {q : Pr × En} (hh : h.sim h') (e : deR h args = some q) : deR h' args = some q := by
  obtain ⟨c, x, rfl, e1, e2⟩ := deR_out e
  simp only [deR, dePr_sim hh e1, deEn_sim hh e2]
theorem deR_mono (h h' : Heap) (args : List AV) (q : Pr × En) (hh : h.le h') (e : deR h args = some q) : deR h' args = some q := deR_sim hh.sim e
def runA (q : V × Int) : AV := .t [vv q.1, .v (.int .i64 q.2)]
def G29 := pureH deR okR fun q => runA (runV q.1 q.2)
/-- The cells of an instruction. -/
theorem ins_at {l : List AV} {o : Nat} {i : Ins} (h : (l.drop o).take 5 = icells i) : l[o]? = some (ii i.code) ∧ l[o + 1]? = some (ii i.item) ∧ l[o + 2]? = some (ii i.col) ∧ l[o + 3]? = some (ii i.n) ∧ l[o + 4]? = some (ii i.to) :=
  ⟨cell_of (c := 0) h rfl (by omega), cell_of (c := 1) h rfl (by omega), cell_of (c := 2) h rfl (by omega), cell_of (c := 3) h rfl (by omega), cell_of (c := 4) h rfl (by omega)⟩
theorem owns_len {h : Heap} {lo n : Nat} {a : AV} {st : List V} (o : OwnS h lo n a st) : a.isS ∧ a.slen = st.length ∧ (∀ g, AV.unc g a = a) := by
  rcases o with ⟨rfl, rfl⟩ | ⟨w, u, cs, rfl, _⟩
  · exact ⟨⟨rfl, rfl⟩, rfl, fun _ => rfl⟩
  · exact ⟨trivial, rfl, fun _ => rfl⟩
end Go.Proofs.YtkfphaphiikloaaDoor

namespace Go.Proofs.YtkfphaphiikloaaDoor
open Go Go.Eng

theorem agr_sim {n : Nat} {h h' : Heap} (hn : ∀ i, n ≤ i → h i = none) (ha : agree n h h') : h.sim h' := fun i k e => ⟨k, by rw [ha i (lt_of e hn)]; exact e, rfl, rfl⟩
theorem agr_le {n : Nat} {h h' : Heap} (hn : ∀ i, n ≤ i → h i = none) (ha : agree n h h') : h.le h' := fun i k e => by rw [ha i (lt_of e hn)]; exact e
theorem rd_agr {α : Type} {d : De α} {h : Heap} {n : Nat} {a : AV} {x : α} (hn : ∀ i, n ≤ i → h i = none) (e : rd d h a = some x) : ∀ h', agree n h h' → rd d h' a = some x := fun _ ha => rd_sim (agr_sim hn ha) e
theorem en_agr {h : Heap} {n : Nat} {a : AV} {x : En} (hn : ∀ i, n ≤ i → h i = none) (e : deEn h a = some x) : ∀ h', agree n h h' → deEn h' a = some x := fun _ ha => deEn_sim (agr_sim hn ha) e
theorem agree_trans {n m : Nat} {a b c : Heap} (h1 : agree n a b) (h2 : agree m b c) (hm : n ≤ m) : agree n a c := fun j hj => by rw [h2 j (by omega), h1 j hj]

/-- A datum's cells: reading and cells are one. -/
structure Flat {α : Type} (sz : Nat) (d : De α) (en : α → List AV) : Prop where
  out : ∀ h l x, d.run h l = some x → l = en x
  inn : ∀ h x, d.run h (en x) = some x
  len : ∀ x, (en x).length = sz
theorem Flat.ev : Flat 11 dEv ecells := ⟨fun _ _ _ e => deEc_out e, fun _ _ => rfl, fun _ => rfl⟩
theorem Flat.ins : Flat 5 dIns icells := ⟨fun _ _ _ e => deIc_out e, fun _ _ => rfl, fun _ => rfl⟩
theorem int_out (h : Heap) (l : List AV) (x : Int) (e : (De.int .i64).run h l = some x) : l = [ii x] := by
  simp only [De.int] at e
  split at e
  · split at e
    · rename_i hk
      cases e
      rw [hk]
      rfl
    · cases e
  · cases e
theorem Flat.int : Flat 1 (De.int .i64) (fun x => [ii x]) := ⟨int_out, fun _ _ => rfl, fun _ => rfl⟩
theorem flat_len {α : Type} {sz : Nat} {d : De α} {en : α → List AV} (f : Flat sz d en) (l : List α) : (l.flatMap en).length = l.length * sz := by
  induction l with
  | nil => simp
  | cons x l ih => simp only [List.flatMap_cons, List.length_append, f.len, ih, List.length_cons, Nat.succ_mul]; omega
theorem flat_drop {α : Type} {sz : Nat} {d : De α} {en : α → List AV} (f : Flat sz d en) : ∀ (l : List α) (i : Nat) (hi : i < l.length) (r : List AV), ((l.flatMap en ++ r).drop (i * sz)).take sz = en l[i]
  | [], _, h, _ => by simp at h
  | x :: l, 0, _, r => by
    rw [Nat.zero_mul, List.drop_zero, List.flatMap_cons, List.append_assoc, ← f.len x, List.take_left']
    · rfl
    · rfl
  | x :: l, i + 1, h, r => by
    have e : (i + 1) * sz = (en x).length + i * sz := by rw [f.len, Nat.succ_mul]; omega
    rw [List.flatMap_cons, List.append_assoc, e, List.drop_append, List.getElem_cons_succ]
    have : List.drop ((en x).length + i * sz) (en x) = [] := List.drop_eq_nil_of_le (by omega)
    rw [this, List.nil_append, show (en x).length + i * sz - (en x).length = i * sz by omega]
    exact flat_drop f l i (by simpa using h) r
/-- A row of them is read. -/
theorem flat_in {α : Type} {sz : Nat} {d : De α} {en : α → List AV} (f : Flat sz d en) {h : Heap} {id ver : Nat} {k : Blk} {l : List α} (hk : h id = some k) (hv : k.ver = ver) {r : List AV} (hc : k.cells = l.flatMap en ++ r) : rd (De.sl sz d) h (.s id ver 0 l.length) = some l := by
  subst hv
  refine De.sl_in hk (by rw [hc, List.length_append, flat_len f]; omega) fun i hi => ?_
  rw [Nat.zero_add, hc, flat_drop f l i hi]
  exact f.inn h _
/-- A row that is read is theirs. -/
theorem flat_at {α : Type} {sz : Nat} {d : De α} {en : α → List AV} (f : Flat sz d en) {h : Heap} {a : AV} {l : List α} (e : rd (De.sl sz d) h a = some l) : (l = [] ∧ (a = .v (.slice none 0 0) ∨ a = .e)) ∨
    ∃ id off k, a = .s id k.ver off l.length ∧ h id = some k ∧ off + l.length * sz ≤ k.cells.length ∧ (k.cells.drop off).take (l.length * sz) = l.flatMap en := by
  rcases sl_at e with h0 | ⟨id, off, k, h1, h2, h3, h4⟩
  · exact .inl h0
  · refine .inr ⟨id, off, k, h1, h2, h3, ?_⟩
    have key : ∀ (m : List α) (o : Nat), o + m.length * sz ≤ k.cells.length → (∀ i (hi : i < m.length), d.run h ((k.cells.drop (o + i * sz)).take sz) = some m[i]) → (k.cells.drop o).take (m.length * sz) = m.flatMap en := fun m => by
      induction m with
      | nil => intro o _ _; simp
      | cons x m ih =>
        intro o ho hm
        have h0 := f.out _ _ _ (hm 0 (by simp))
        simp only [Nat.zero_mul, Nat.add_zero, List.getElem_cons_zero] at h0
        rw [List.length_cons, Nat.succ_mul] at ho
        have h5 := ih (o + sz) (by omega) fun i hi => by
          have := hm (i + 1) (by simpa using hi)
          rw [Nat.succ_mul, show o + (i * sz + sz) = o + sz + i * sz by omega] at this
          simpa using this
        rw [List.flatMap_cons, ← h0, ← h5, List.length_cons, Nat.succ_mul, Nat.add_comm (m.length * sz), List.take_add, List.drop_drop]
    exact key l off h3 h4
/-- What append takes of it. -/
theorem flat_app {α : Type} {sz : Nat} {d : De α} {en : α → List AV} (f : Flat sz d en) {h : Heap} {a : AV} {l : List α} (e : rd (De.sl sz d) h a = some l) : sls h a 0 (l.length * sz) ∧ slc h a 0 (l.length * sz) = l.flatMap en := by
  rcases flat_at f e with ⟨rfl, rfl | rfl⟩ | ⟨id, off, k, rfl, h2, h3, h4⟩
  · simp [sls, slc]
  · simp [sls, slc]
  · simp only [sls, slc, h2, Nat.zero_add, Nat.add_zero, true_and]
    exact ⟨h3, h4⟩
/-- The cells of a list of lists of one's own. -/
def lcells {α : Type} (f : Nat → Nat) (ll : List (List α)) (j : Nat) : List AV := (List.range j).map fun i => .s (f i) 1 0 (ll.getD i []).length
theorem lcells_len {α : Type} (f : Nat → Nat) (ll : List (List α)) (j : Nat) : (lcells f ll j).length = j := by simp [lcells]
theorem lcells_succ {α : Type} (f : Nat → Nat) (ll : List (List α)) (j : Nat) : lcells f ll (j + 1) = lcells f ll j ++ [.s (f j) 1 0 (ll.getD j []).length] := by simp [lcells, List.range_succ]
theorem lcells_congr {α : Type} {f g : Nat → Nat} (ll : List (List α)) {j : Nat} (h : ∀ i, i < j → f i = g i) : lcells f ll j = lcells g ll j := by
  unfold lcells
  apply List.map_congr_left
  intro i hi
  rw [h i (List.mem_range.1 hi)]
/-- The first j lists lie in blocks of one's own, from lo on, below hi. -/
structure OwnF {α : Type} (en : α → List AV) (sz : Nat) (h : Heap) (lo hi : Nat) (f : Nat → Nat) (ll : List (List α)) (j : Nat) : Prop where
  rng : ∀ i, i < j → lo ≤ f i ∧ f i < hi
  blk : ∀ i, i < j → h (f i) = some ⟨(ll.getD i []).flatMap en, 1, true, sz⟩
  inj : ∀ i k, i < j → k < j → f i = f k → i = k
/-- A list of lists of one's own. -/
def OwnL {α : Type} (en : α → List AV) (sz : Nat) (h : Heap) (lo hi : Nat) (z : AV) (ll : List (List α)) (j : Nat) : Prop :=
  ∃ f, OwnF en sz h lo hi f ll j ∧ ((j = 0 ∧ z = .v (.slice none 0 0)) ∨ ∃ w u, z = .s w u 0 j ∧ h w = some ⟨lcells f ll j, u, true, 1⟩ ∧ lo ≤ w ∧ w < hi ∧ ∀ i, i < j → f i ≠ w)
theorem OwnF.congr {α : Type} {en : α → List AV} {sz : Nat} {h h' : Heap} {lo hi hi' : Nat} {f : Nat → Nat} {ll : List (List α)} {j : Nat} (o : OwnF en sz h lo hi f ll j) (hh : ∀ q, lo ≤ q → q < hi → h' q = h q) (hi2 : hi ≤ hi') : OwnF en sz h' lo hi' f ll j :=
  ⟨fun i hi => ⟨(o.rng i hi).1, by have := (o.rng i hi).2; omega⟩, fun i hi => by rw [hh _ (o.rng i hi).1 (o.rng i hi).2]; exact o.blk i hi, o.inj⟩
theorem OwnL.congr {α : Type} {en : α → List AV} {sz : Nat} {h h' : Heap} {lo hi hi' : Nat} {z : AV} {ll : List (List α)} {j : Nat} (o : OwnL en sz h lo hi z ll j) (hh : ∀ q, lo ≤ q → q < hi → h' q = h q) (hi2 : hi ≤ hi') : OwnL en sz h' lo hi' z ll j := by
  obtain ⟨f, o1, o2⟩ := o
  refine ⟨f, o1.congr hh hi2, ?_⟩
  rcases o2 with h0 | ⟨w, u, h1, h2, h3, h4, h5⟩
  · exact .inl h0
  · exact .inr ⟨w, u, h1, by rw [hh _ h3 h4]; exact h2, h3, by omega, h5⟩
theorem OwnL.lo {α : Type} {en : α → List AV} {sz : Nat} {h : Heap} {lo lo' hi : Nat} {z : AV} {ll : List (List α)} {j : Nat} (o : OwnL en sz h lo hi z ll j) (hl : lo' ≤ lo) : OwnL en sz h lo' hi z ll j := by
  obtain ⟨f, o1, o2⟩ := o
  refine ⟨f, ⟨fun i hi => ⟨by have := (o1.rng i hi).1; omega, (o1.rng i hi).2⟩, o1.blk, o1.inj⟩, ?_⟩
  rcases o2 with h0 | ⟨w, u, h1, h2, h3, h4, h5⟩
  · exact .inl h0
  · exact .inr ⟨w, u, h1, h2, by omega, h4, h5⟩
/-- It is read. -/
theorem OwnL.rd {α : Type} {d : De α} {en : α → List AV} {sz : Nat} (fl : Flat sz d en) {h : Heap} {lo hi : Nat} {z : AV} {ll : List (List α)} (o : OwnL en sz h lo hi z ll ll.length) : rd (De.sl 1 (De.sl sz d)) h z = some ll := by
  obtain ⟨f, o1, o2⟩ := o
  rcases o2 with ⟨h0, rfl⟩ | ⟨w, u, rfl, h2, h3, h4, h5⟩
  · have : ll = [] := List.eq_nil_of_length_eq_zero h0
    subst this
    rfl
  · have e1 : (⟨lcells f ll ll.length, u, true, 1⟩ : Blk).ver = u := rfl
    refine De.sl_in (k := ⟨lcells f ll ll.length, u, true, 1⟩) h2 (by simp only [lcells_len]; omega) fun i hi => ?_
    have hc : (lcells f ll ll.length)[i]? = some (.s (f i) 1 0 (ll.getD i []).length) := by simp [lcells, hi]
    have hlt : i < (lcells f ll ll.length).length := by rw [lcells_len]; exact hi
    simp only [Nat.zero_add, Nat.mul_one]
    rw [List.take_one, List.head?_drop, hc]
    have hg : ll.getD i [] = ll[i] := by simp [List.getD_eq_getElem?_getD, hi]
    have hb := o1.blk i hi
    rw [hg] at hb
    rw [hg]
    exact flat_in fl hb rfl (r := []) (by simp)
end Go.Proofs.YtkfphaphiikloaaDoor
