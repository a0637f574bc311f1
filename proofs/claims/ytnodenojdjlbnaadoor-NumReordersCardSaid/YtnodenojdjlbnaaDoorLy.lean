/-
  THE ROWS OF THIS SEAT, WHAT THEY SHARE, MORE: lists among the arguments.
-/
import Derived.Test.YtnodenojdjlbnaaDoorLx
import Derived.Test.YtnodenojdjlbnaaDoorMd
set_option linter.unusedSimpArgs false
namespace Go.Proofs.YtnodenojdjlbnaaDoor
open Go Go.Eng Go.RowKit Go.ChangeShapes Go.Joins

theorem ro_of2 {S : List Nat} {pf : FuncId → Option (List AV → Heap → PRes)} {W : World} {ρ : Ren} {h : Heap} {m : Nat} (hb : Blks ρ h W m) (hg : ∀ g ∈ S, GlobAt W g) : RoRel (cx S pf) ρ h W :=
  ⟨(ro_of (S := S) (pf := pf) hg).glob, hb.blk⟩
theorem weights_of {H : Type} {P : Program} {ts us : List TypeId} {ds gs : List (DataW H)} (h : (DataW.weightsEach P (ts ++ us) (ds ++ gs)).all (· ≤ reachBytes) = true) {j : Nat} {t : TypeId} {d : DataW H} (ht : ts[j]? = some t) (hd : ds[j]? = some d) : ∀ n ∈ d.weights P t, n ≤ reachBytes := fun n hn => by
  have h1 : j < ts.length := (List.getElem?_eq_some_iff.1 ht).1
  have h2 : j < ds.length := (List.getElem?_eq_some_iff.1 hd).1
  have := List.all_eq_true.1 h n (weightsEach_mem (i := j) (by rw [List.getElem?_append_left h1]; exact ht) (by rw [List.getElem?_append_left h2]; exact hd) hn)
  simpa using this
theorem VRs_nil (ρ : Ren) : VRs ρ [] [] := by simp [VRs]
theorem VRs_cons {ρ : Ren} {a : AV} {v : Value} {l : List AV} {vs : List Value} (h : VR ρ a v) (k : VRs ρ l vs) : VRs ρ (a :: l) (v :: vs) := by simp only [VRs]; exact ⟨v, vs, rfl, h, k⟩
theorem opens_i64 : Opens Tryd.prog 2 (De.int .i64) fun n => (Lit.int .i64 n).wf = true := Opens.int Tryd.underlying2
/-- The lists that the laws of numbers take. -/
theorem open34 {H : Type} {enc : TypeId × Value → H} {W : World} {base b0 : Nat} {sp : Nat → Bool} {held : Bool} {r : Reach} {v : Value} {x : DataW H} {p : List MemPlace} (hv : Value.okWide Tryd.prog W r b0 34 v) (h : DataW.Trod enc Tryd.prog W base sp held 34 v x p) (hw : ∀ n ∈ x.weights Tryd.prog 34, n ≤ reachBytes) (ρ : Ren) (hh : Heap) (m : Nat) (hb : Blks ρ hh W m) :
    ∃ ρ' h' m' a l, ρ.le ρ' ∧ hh.le h' ∧ m ≤ m' ∧ Blks ρ' h' W m' ∧ VR ρ' a v ∧ ints h' a = some l ∧ l.length * 8 ≤ reachBytes ∧ All l := by
  obtain ⟨ρ', h', m', a, l, q1, q2, q3, q4, q5, q6, q7, q8, q9⟩ := open_list Tryd.underlying34 (sz := 1) (by_ := 8) (by kernel_rfl) (by decide) (by kernel_rfl) opens_i64 hv h hw ρ hh m hb
  exact ⟨ρ', h', m', a, l, q1, q2, q3, q4, q5, ints_of_sl q6 q7, q8, fun x hx => rng_of (q9 x hx)⟩
theorem int_flat (k : IntKind) : ∀ (h : Heap) (l : List AV) (x : Int), (De.int k).run h l = some x → l = [.v (.int k x)] := fun h l x e => by
  simp only [De.int] at e
  split at e
  · split at e
    · rename_i hk
      cases e
      rw [hk]
    · cases e
  · cases e
/-- The same, its row laid open. -/
theorem open34r {H : Type} {enc : TypeId × Value → H} {W : World} {base b0 : Nat} {sp : Nat → Bool} {held : Bool} {r : Reach} {v : Value} {x : DataW H} {p : List MemPlace} (hv : Value.okWide Tryd.prog W r b0 34 v) (h : DataW.Trod enc Tryd.prog W base sp held 34 v x p) (hw : ∀ n ∈ x.weights Tryd.prog 34, n ≤ reachBytes) (ρ : Ren) (hh : Heap) (m : Nat) (hb : Blks ρ hh W m) :
    ∃ ρ' h' m' id l, ρ.le ρ' ∧ hh.le h' ∧ m ≤ m' ∧ Blks ρ' h' W m' ∧ VR ρ' (.s id 0 0 l.length) v ∧ h' id = some ⟨l.map ii, 0, false, 1⟩ ∧ l.length * 8 ≤ reachBytes ∧ All l := by
  obtain ⟨ρ', h', m', id, cells, l, q1, q2, q3, q4, q5, q6, _, _, q7, q8, q9, q10⟩ := Eng.open_row Tryd.underlying34 (sz := 1) (by_ := 8) (by kernel_rfl) (by decide) (by kernel_rfl) opens_i64 hv h hw ρ hh m hb
  have := chunks_flat (en := fun x => [ii x]) (int_flat .i64) l cells q8 q7
  have h2 : l.flatMap (fun x => [ii x]) = l.map ii := by
    clear this q5 q6 q7 q8 q9 q10
    induction l with
    | nil => rfl
    | cons a l ih => simp [ih]
  rw [this, h2] at q6
  exact ⟨ρ', h', m', id, l, q1, q2, q3, q4, q5, q6, q9, fun x hx => rng_of (q10 x hx)⟩
theorem mono34r {h h' : Heap} (hh : h.le h') {id : Nat} {k : Blk} (e : h id = some k) : h' id = some k := hh id k e
theorem mono34 {h h' : Heap} (hh : h.le h') {a : AV} {l : List Int} (e : ints h a = some l) : ints h' a = some l := ints_mono hh e
end Go.Proofs.YtnodenojdjlbnaaDoor
