/-
  THE ROWS OF THIS SEAT, WHAT THEY SHARE, MORE: lists of steps and of truths among the arguments.
-/
import Derived.Test.YtnodenojdjlbnaaDoorLy
import Derived.Test.YtnodenojdjlbnaaDoorL16
set_option linter.unusedSimpArgs false
namespace Go.Proofs.YtnodenojdjlbnaaDoor
open Go Go.Eng Go.RowKit Go.ChangeShapes Go.Joins

theorem pair_flat {α β : Type} {n : Nat} {d1 : De α} {d2 : De β} {e1 : α → List AV} {e2 : β → List AV} (h1 : ∀ h l x, d1.run h l = some x → l = e1 x) (h2 : ∀ h l x, d2.run h l = some x → l = e2 x) : ∀ h l x, (De.pair n d1 d2).run h l = some x → l = e1 x.1 ++ e2 x.2 := fun h l x e => by
  simp only [De.pair] at e
  split at e
  · rename_i q1 q2
    cases e
    rw [← h1 _ _ _ q1, ← h2 _ _ _ q2, List.take_append_drop]
  · cases e
theorem map_flat {α β : Type} {f : α → β} {d : De α} {e1 : α → List AV} {e2 : β → List AV} (h1 : ∀ h l x, d.run h l = some x → l = e1 x) (hf : ∀ x, e2 (f x) = e1 x) : ∀ h l x, (d.map f).run h l = some x → l = e2 x := fun h l x e => by
  simp only [De.map, Option.map_eq_some_iff] at e
  obtain ⟨y, q1, rfl⟩ := e
  rw [hf, h1 _ _ _ q1]
theorem bool_flat : ∀ (h : Heap) (l : List AV) (x : Bool), De.bool.run h l = some x → l = [.v (.bool x)] := fun h l x e => by
  simp only [De.bool] at e
  split at e
  · cases e; rfl
  · cases e
theorem opens_b : Opens Tryd.prog 4 De.bool fun _ => True := Opens.bool Tryd.underlying4
theorem opens_i : Opens Tryd.prog 3 (De.int .i64) fun n => (Lit.int .i64 n).wf = true := Opens.int Tryd.underlying3
def dV : De V := (De.pair 1 De.bool (De.int .i64)).map fun x => ⟨x.1, x.2⟩
theorem dV_flat : ∀ h l x, dV.run h l = some x → l = vcells x := map_flat (pair_flat bool_flat (int_flat .i64)) fun _ => rfl
theorem opens_V : Opens Tryd.prog 23 dV fun v => Rng v.n :=
  Opens.map _ (fun x hx => rng_of (n := x.2) hx.2) (Opens.struct Tryd.underlying23 (tot := 2) (by kernel_rfl) (OpensF.cons rfl (n := 1) (by kernel_rfl) (by decide) opens_b (OpensF.one rfl (by kernel_rfl) opens_i64)))
def dS : De Stp := (De.pair 1 (De.int .i64) (De.pair 1 (De.int .i64) (De.pair 1 (De.int .i64) dV))).map fun x => ⟨x.1, x.2.1, x.2.2.1, x.2.2.2⟩
theorem dS_flat : ∀ h l x, dS.run h l = some x → l = scells x := map_flat (pair_flat (int_flat .i64) (pair_flat (int_flat .i64) (pair_flat (int_flat .i64) dV_flat))) fun _ => rfl
theorem opens_S : Opens Tryd.prog 45 dS StpOk :=
  Opens.map _ (fun x hx => ⟨rng_of (n := x.1) hx.1, rng_of (n := x.2.1) hx.2.1, rng_of (n := x.2.2.1) hx.2.2.1, hx.2.2.2⟩) (Opens.struct Tryd.underlying45 (tot := 5) (by kernel_rfl) (OpensF.cons rfl (n := 1) (by kernel_rfl) (by decide) opens_i (OpensF.cons rfl (n := 1) (by kernel_rfl) (by decide) opens_i (OpensF.cons rfl (n := 1) (by kernel_rfl) (by decide) opens_i (OpensF.one rfl (by kernel_rfl) opens_V)))))
theorem open41r {H : Type} {enc : TypeId × Value → H} {W : World} {base b0 : Nat} {sp : Nat → Bool} {held : Bool} {r : Reach} {v : Value} {x : DataW H} {p : List MemPlace} (hv : Value.okWide Tryd.prog W r b0 41 v) (h : DataW.Trod enc Tryd.prog W base sp held 41 v x p) (hw : ∀ n ∈ x.weights Tryd.prog 41, n ≤ reachBytes) (ρ : Ren) (hh : Heap) (m : Nat) (hb : Blks ρ hh W m) :
    ∃ (ρ' : Ren) (h' : Heap) (m' id : Nat) (l : List Stp), ρ.le ρ' ∧ hh.le h' ∧ m ≤ m' ∧ Blks ρ' h' W m' ∧ VR ρ' (.s id 0 0 l.length) v ∧ h' id = some ⟨l.flatMap scells, 0, false, 5⟩ ∧ l.length * 40 ≤ reachBytes ∧ ∀ s ∈ l, StpOk s := by
  obtain ⟨ρ', h', m', id, cells, l, q1, q2, q3, q4, q5, q6, _, _, q7, q8, q9, q10⟩ := Eng.open_row Tryd.underlying41 (sz := 5) (by_ := 40) (by kernel_rfl) (by decide) (by kernel_rfl) opens_S hv h hw ρ hh m hb
  have := chunks_flat dS_flat l cells q8 q7
  rw [this] at q6
  exact ⟨ρ', h', m', id, l, q1, q2, q3, q4, q5, q6, q9, q10⟩
theorem mono41r {h h' : Heap} (hh : h.le h') {id : Nat} {k : Blk} (e : h id = some k) : h' id = some k := hh id k e
theorem open42r {H : Type} {enc : TypeId × Value → H} {W : World} {base b0 : Nat} {sp : Nat → Bool} {held : Bool} {r : Reach} {v : Value} {x : DataW H} {p : List MemPlace} (hv : Value.okWide Tryd.prog W r b0 42 v) (h : DataW.Trod enc Tryd.prog W base sp held 42 v x p) (hw : ∀ n ∈ x.weights Tryd.prog 42, n ≤ reachBytes) (ρ : Ren) (hh : Heap) (m : Nat) (hb : Blks ρ hh W m) :
    ∃ (ρ' : Ren) (h' : Heap) (m' id : Nat) (l : List Bool), ρ.le ρ' ∧ hh.le h' ∧ m ≤ m' ∧ Blks ρ' h' W m' ∧ VR ρ' (.s id 0 0 l.length) v ∧ h' id = some ⟨l.flatMap fun b => [bv b], 0, false, 1⟩ ∧ l.length * 1 ≤ reachBytes ∧ ∀ s ∈ l, True := by
  obtain ⟨ρ', h', m', id, cells, l, q1, q2, q3, q4, q5, q6, _, _, q7, q8, q9, q10⟩ := Eng.open_row Tryd.underlying42 (sz := 1) (by_ := 1) (by kernel_rfl) (by decide) (by kernel_rfl) opens_b hv h hw ρ hh m hb
  have := chunks_flat (en := fun b => [bv b]) bool_flat l cells q8 q7
  rw [this] at q6
  exact ⟨ρ', h', m', id, l, q1, q2, q3, q4, q5, q6, q9, q10⟩
theorem mono42r {h h' : Heap} (hh : h.le h') {id : Nat} {k : Blk} (e : h id = some k) : h' id = some k := hh id k e
end Go.Proofs.YtnodenojdjlbnaaDoor
