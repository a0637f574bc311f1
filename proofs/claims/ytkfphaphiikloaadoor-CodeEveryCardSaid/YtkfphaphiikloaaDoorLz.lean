/-
  THE ROWS OF THIS SEAT, WHAT THEY SHARE: programs and environments among the arguments.
-/
import Derived.Test.YtkfphaphiikloaaDoorLw
import Derived.Test.YtkfphaphiikloaaDoorL4
set_option linter.unusedSimpArgs false
set_option linter.unusedVariables false
set_option linter.constructorNameAsVariable false
set_option linter.unusedSimpArgs false
namespace Go.Proofs.YtkfphaphiikloaaDoor
open Go Go.Eng Go.RowKit Go.ChangeShapes Go.WideShapes Go.Joins

theorem ro_of2 {S : List Nat} {pf : FuncId → Option (List AV → Heap → PRes)} {W : World} {ρ : Ren} {h : Heap} {m : Nat} (hb : Blks ρ h W m) (hg : ∀ g ∈ S, GlobAt W g) : RoRel (cx S pf) ρ h W :=
  ⟨(ro_of (S := S) (pf := pf) hg).glob, hb.blk⟩
theorem weights_of {H : Type} {P : Program} {ts us : List TypeId} {ds gs : List (DataW H)} (h : (DataW.weightsEach P (ts ++ us) (ds ++ gs)).all (· ≤ reachBytes) = true) {j : Nat} {t : TypeId} {d : DataW H} (ht : ts[j]? = some t) (hd : ds[j]? = some d) : ∀ n ∈ d.weights P t, n ≤ reachBytes := fun n hn => by
  have h1 : j < ts.length := (List.getElem?_eq_some_iff.1 ht).1
  have h2 : j < ds.length := (List.getElem?_eq_some_iff.1 hd).1
  have := List.all_eq_true.1 h n (weightsEach_mem (i := j) (by rw [List.getElem?_append_left h1]; exact ht) (by rw [List.getElem?_append_left h2]; exact hd) hn)
  simpa using this
theorem VRs_nil (ρ : Ren) : VRs ρ [] [] := by simp [VRs]
theorem VRs_cons {ρ : Ren} {a : AV} {v : Value} {l : List AV} {vs : List Value} (h : VR ρ a v) (k : VRs ρ l vs) : VRs ρ (a :: l) (v :: vs) := by simp only [VRs]; exact ⟨v, vs, rfl, h, k⟩
theorem pair_flat {α β : Type} {n : Nat} {d1 : De α} {d2 : De β} {e1 : α → List AV} {e2 : β → List AV} (h1 : ∀ h l x, d1.run h l = some x → l = e1 x) (h2 : ∀ h l x, d2.run h l = some x → l = e2 x) : ∀ h l x, (De.pair n d1 d2).run h l = some x → l = e1 x.1 ++ e2 x.2 := fun h l x e => by
  simp only [De.pair] at e
  split at e
  · rename_i q1 q2
    cases e
    rw [← h1 _ _ _ q1, ← h2 _ _ _ q2, List.take_append_drop]
  · cases e
theorem int_flat (k : IntKind) : ∀ (h : Heap) (l : List AV) (x : Int), (De.int k).run h l = some x → l = [.v (.int k x)] := fun h l x e => by
  simp only [De.int] at e
  split at e
  · split at e
    · rename_i hk
      cases e
      rw [hk]
    · cases e
  · cases e
theorem fm_ii : ∀ l : List Int, l.flatMap (fun x => [ii x]) = l.map ii
  | [] => rfl
  | a :: l => by rw [List.flatMap_cons, fm_ii l]; rfl
theorem arr_flat {n : Nat} : ∀ (h : Heap) (l : List AV) (x : List Int), (De.arr n 1 (De.int .i64)).run h l = some x → l = x.map ii := fun h l x e => by
  simp only [De.arr] at e
  split at e
  · rename_i hl
    have hx := (De.chunks_iff.1 e).1
    subst hx
    rw [chunks_flat (en := fun x => [ii x]) (int_flat .i64) x l e hl]
    exact fm_ii x
  · cases e
/-- The same, read otherwise. -/
theorem Opens.conv {α β : Type} {P : Program} {t : TypeId} {d : De α} {ok : α → Prop} {d' : De β} {ok' : β → Prop} (h0 : Opens P t d ok) (hc : ∀ h l x, d.run h l = some x → ok x → ∃ y, d'.run h l = some y ∧ ok' y) : Opens P t d' ok' := fun h hw ρ hh m hb => by
  obtain ⟨ρ', h', m', l, v, e1, e2, e3, e4, e5, e6, e7, e8⟩ := h0 h hw ρ hh m hb
  obtain ⟨y, y1, y2⟩ := hc h' l v e7 e8
  exact ⟨ρ', h', m', l, y, e1, e2, e3, e4, e5, e6, y1, y2⟩
theorem opens_i : Opens Tryd.prog 3 (De.int .i64) fun n => (Lit.int .i64 n).wf = true := Opens.int Tryd.underlying3
theorem opens_i2 : Opens Tryd.prog 2 (De.int .i64) fun n => (Lit.int .i64 n).wf = true := Opens.int Tryd.underlying2
theorem opens_c : Opens Tryd.prog 60 (De.int .i64) fun n => (Lit.int .i64 n).wf = true := Opens.int Tryd.underlying60
theorem opens_u : Opens Tryd.prog 117 (De.int .u64) fun n => (Lit.int .u64 n).wf = true := Opens.int Tryd.underlying117
theorem opens_ins : Opens Tryd.prog 62 dIns InsOk := by
  refine Opens.conv (Opens.struct Tryd.underlying62 (tot := 5) (by kernel_rfl) (OpensF.cons rfl (n := 1) (by kernel_rfl) (by decide) opens_c (OpensF.cons rfl (n := 1) (by kernel_rfl) (by decide) opens_i (OpensF.cons rfl (n := 1) (by kernel_rfl) (by decide) opens_i (OpensF.cons rfl (n := 1) (by kernel_rfl) (by decide) opens_i2 (OpensF.one rfl (by kernel_rfl) opens_i)))))) fun h l x e ok => ?_
  have hl := pair_flat (int_flat .i64) (pair_flat (int_flat .i64) (pair_flat (int_flat .i64) (pair_flat (int_flat .i64) (int_flat .i64)))) h l x e
  exact ⟨⟨x.1, x.2.1, x.2.2.1, x.2.2.2.1, x.2.2.2.2⟩, by rw [hl]; rfl, rng_of ok.1, rng_of ok.2.1, rng_of ok.2.2.1, rng_of ok.2.2.2.1, rng_of ok.2.2.2.2⟩
theorem opens_ev : Opens Tryd.prog 120 dEv EvOk := by
  refine Opens.conv (Opens.struct Tryd.underlying120 (tot := 11) (by kernel_rfl) (OpensF.cons rfl (n := 1) (by kernel_rfl) (by decide) opens_i2 (OpensF.cons rfl (n := 1) (by kernel_rfl) (by decide) opens_u (OpensF.cons rfl (n := 1) (by kernel_rfl) (by decide) opens_i (OpensF.one rfl (by kernel_rfl) (Opens.arr Tryd.underlying118 (sz := 1) (by kernel_rfl) (by kernel_rfl) opens_i2)))))) fun h l x e ok => ?_
  have hl := pair_flat (int_flat .i64) (pair_flat (int_flat .u64) (pair_flat (int_flat .i64) arr_flat)) h l x e
  obtain ⟨ts, id, ty, at_⟩ := x
  obtain ⟨o1, o2, o3, o4, o5⟩ := ok
  match at_, o4, o5 with
  | [a0, a1, a2, a3, a4, a5, a6, a7], _, o5 =>
    exact ⟨⟨ts, id, ty, a0, a1, a2, a3, a4, a5, a6, a7⟩, by rw [hl]; rfl, rng_of o1, rng_of o3, rng_of (o5 a0 (by simp)), rng_of (o5 a1 (by simp)), rng_of (o5 a2 (by simp)), rng_of (o5 a3 (by simp)), rng_of (o5 a4 (by simp)), rng_of (o5 a5 (by simp)), rng_of (o5 a6 (by simp)), rng_of (o5 a7 (by simp))⟩
theorem opens_37 : Opens Tryd.prog 37 dPs fun l => l.length * 40 ≤ reachBytes ∧ ∀ x ∈ l, InsOk x := Opens.sl Tryd.underlying37 (sz := 5) (by kernel_rfl) (by decide) (by kernel_rfl) opens_ins
theorem opens_69 : Opens Tryd.prog 69 dIs fun l => l.length * 8 ≤ reachBytes ∧ ∀ x ∈ l, (Lit.int .i64 x).wf = true := Opens.sl Tryd.underlying69 (sz := 1) (by kernel_rfl) (by decide) (by kernel_rfl) opens_i
theorem opens_38 : Opens Tryd.prog 38 dIss fun l => l.length * 24 ≤ reachBytes ∧ ∀ x ∈ l, x.length * 8 ≤ reachBytes ∧ ∀ y ∈ x, (Lit.int .i64 y).wf = true := Opens.sl Tryd.underlying38 (sz := 1) (by kernel_rfl) (by decide) (by kernel_rfl) opens_69
theorem opens_84 : Opens Tryd.prog 84 dEs fun l => l.length * 88 ≤ reachBytes ∧ ∀ x ∈ l, EvOk x := Opens.sl Tryd.underlying84 (sz := 11) (by kernel_rfl) (by decide) (by kernel_rfl) opens_ev
theorem opens_47 : Opens Tryd.prog 47 dEss fun l => l.length * 24 ≤ reachBytes ∧ ∀ x ∈ l, x.length * 88 ≤ reachBytes ∧ ∀ y ∈ x, EvOk y := Opens.sl Tryd.underlying47 (sz := 1) (by kernel_rfl) (by decide) (by kernel_rfl) opens_84
/-- A program. -/
def dPr : De Pr where
  run h l := match l with
    | [a, b] => match rd dPs h a, rd dIss h b with
      | some x, some y => some ⟨x, y⟩
      | _, _ => none
    | _ => none
  sim {h h' l x} hh e := by
    split at e
    · split at e
      · rename_i e1 e2
        cases e
        simp only [rd_sim hh e1, rd_sim hh e2]
      · cases e
    · cases e
structure PrOk0 (p : Pr) : Prop where
  code : p.code.length * 40 ≤ reachBytes
  ok : ∀ i ∈ p.code, InsOk i
  cols : p.cols.length * 24 ≤ reachBytes
  col : ∀ c ∈ p.cols, c.length * 8 ≤ reachBytes
theorem pair_run {α β : Type} {n : Nat} {d1 : De α} {d2 : De β} {h : Heap} {l : List AV} {x : α × β} (e : (De.pair n d1 d2).run h l = some x) : d1.run h (l.take n) = some x.1 ∧ d2.run h (l.drop n) = some x.2 := by
  simp only [De.pair] at e
  split at e
  · rename_i q1 q2
    cases e
    exact ⟨q1, q2⟩
  · cases e
theorem sl_one {α : Type} {sz : Nat} {d : De α} {h : Heap} {l : List AV} {x : List α} (e : (De.sl sz d).run h l = some x) : ∃ a, l = [a] := by
  rcases De.sl_out e with ⟨_, h1 | h1⟩ | ⟨id, off, k, h1, _⟩ <;> exact ⟨_, h1⟩
theorem opens_40 : Opens Tryd.prog 40 dPr PrOk0 := by
  refine Opens.conv (Opens.struct Tryd.underlying40 (tot := 2) (by kernel_rfl) (OpensF.cons rfl (n := 1) (by kernel_rfl) (by decide) opens_37 (OpensF.one rfl (by kernel_rfl) opens_38))) fun h l x e ok => ?_
  obtain ⟨e1, e2⟩ := pair_run e
  obtain ⟨a, ha⟩ := sl_one e1
  obtain ⟨b, hb⟩ := sl_one e2
  have hl : l = [a, b] := by rw [← List.take_append_drop 1 l, ha, hb]; rfl
  rw [ha] at e1
  rw [hb] at e2
  have e1' : rd dPs h a = some x.1 := e1
  have e2' : rd dIss h b = some x.2 := e2
  exact ⟨⟨x.1, x.2⟩, by rw [hl]; simp only [dPr, e1', e2'], ok.1.1, ok.1.2, ok.2.1, fun c hc => (ok.2.2 c hc).1⟩
/-- An environment. -/
def dEn : De En where
  run h l := match l with
    | [a, .v (.int .i64 x), .v (.int .i64 y)] => match rd dEss h a with
      | some z => some ⟨z, x, y⟩
      | none => none
    | _ => none
  sim {h h' l x} hh e := by
    split at e
    · split at e
      · rename_i e1
        cases e
        simp only [rd_sim hh e1]
      · cases e
    · cases e
structure EnOk0 (e : En) : Prop where
  ls : e.ls.length * 24 ≤ reachBytes
  len : ∀ l ∈ e.ls, l.length * 88 ≤ reachBytes
  ev : ∀ l ∈ e.ls, ∀ x ∈ l, EvOk x
  each : Rng e.each
  pos : Rng e.pos
theorem opens_49 : Opens Tryd.prog 49 dEn EnOk0 := by
  refine Opens.conv (Opens.struct Tryd.underlying49 (tot := 3) (by kernel_rfl) (OpensF.cons rfl (n := 1) (by kernel_rfl) (by decide) opens_47 (OpensF.cons rfl (n := 1) (by kernel_rfl) (by decide) opens_i (OpensF.one rfl (by kernel_rfl) opens_i)))) fun h l x e ok => ?_
  obtain ⟨e1, e2⟩ := pair_run e
  have hl2 := pair_flat (int_flat .i64) (int_flat .i64) h _ _ e2
  obtain ⟨a, ha⟩ := sl_one e1
  have hl : l = [a, ii x.2.1, ii x.2.2] := by rw [← List.take_append_drop 1 l, ha, hl2]; rfl
  rw [ha] at e1
  have e1' : rd dEss h a = some x.1 := e1
  exact ⟨⟨x.1, x.2.1, x.2.2⟩, by rw [hl]; simp only [dEn, ii, e1'], ok.1.1, fun c hc => (ok.1.2 c hc).1, fun c hc => (ok.1.2 c hc).2, rng_of ok.2.1, rng_of ok.2.2⟩
set_option maxRecDepth 100000 in
/-- A struct among the arguments. -/
theorem open_agg {α : Type} {H : Type} {enc : TypeId × Value → H} {W : World} {base b0 : Nat} {sp : Nat → Bool} {held : Bool} {r : Reach} {v : Value} {x : DataW H} {p : List MemPlace} {t : TypeId} {fs : Array Field} {d : De α} {ok : α → Prop} (h0 : Opens Tryd.prog t d ok) (ht : Tryd.prog.underlying t = some (.struct fs)) (hv : Value.okWide Tryd.prog W r b0 t v) (h : DataW.Trod enc Tryd.prog W base sp held t v x p) (hw : ∀ n ∈ x.weights Tryd.prog t, n ≤ reachBytes) (ρ : Ren) (hh : Heap) (m : Nat) (hb : Blks ρ hh W m) :
    ∃ ρ' h' m' l y, ρ.le ρ' ∧ hh.le h' ∧ m ≤ m' ∧ Blks ρ' h' W m' ∧ VR ρ' (.g l) v ∧ d.run h' l = some y ∧ ok y := by
  obtain ⟨cs, rfl, hsz⟩ := okWide_struct ht hv
  obtain ⟨fuel, hf⟩ := h
  obtain ⟨ρ', h', m', l, y, e1, e2, e3, e4, e5, e6, e7, e8⟩ := h0 hf hw ρ hh m hb
  exact ⟨ρ', h', m', l, y, e1, e2, e3, e4, by simp only [VR]; exact ⟨cs.toList, by simp, e5⟩, e7, e8⟩
theorem dPr_out {h : Heap} {l : List AV} {p : Pr} (e : dPr.run h l = some p) : ∃ a b, l = [a, b] ∧ rd dPs h a = some p.code ∧ rd dIss h b = some p.cols := by
  simp only [dPr] at e
  split at e
  · rename_i a b
    split at e
    · rename_i e1 e2
      cases e
      exact ⟨a, b, rfl, e1, e2⟩
    · cases e
  · cases e
theorem dEn_out {h : Heap} {l : List AV} {p : En} (e : dEn.run h l = some p) : ∃ a, l = [a, .v (.int .i64 p.each), .v (.int .i64 p.pos)] ∧ rd dEss h a = some p.ls := by
  simp only [dEn] at e
  split at e
  · rename_i a x y
    split at e
    · rename_i e1
      cases e
      exact ⟨a, rfl, e1⟩
    · cases e
  · cases e
theorem w4_of {p : Pr} {e : En} (hp : PrOk0 p) (he : EnOk0 e) : W4 p e := by
  have hr : reachBytes = 140737488351232 := rfl
  have h1 := hp.code
  have h2 := hp.cols
  have h3 := he.ls
  rw [hr] at h1 h2 h3
  refine ⟨⟨by omega, hp.ok, fun c hc => ?_⟩, ⟨by omega, by omega, fun c hc => ?_⟩, by omega, fun l hl => ?_, he.ev, he.pos⟩
  · have := hp.col c hc; rw [hr] at this; unfold big; omega
  · have := hp.col c hc; rw [hr] at this; omega
  · have := he.len l hl; rw [hr] at this; omega
end Go.Proofs.YtkfphaphiikloaaDoor
