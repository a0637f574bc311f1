/-
  THE ROWS OF THIS SEAT, WHAT THEY SHARE: schemas, queries and trees among the arguments; the keywords.
-/
import Derived.Test.YtkfphaphiikloaaDoorX16
import Derived.Test.YtkfphaphiikloaaDoorX32
set_option linter.unusedSimpArgs false
set_option linter.unusedVariables false
set_option linter.constructorNameAsVariable false
namespace Go.Proofs.YtkfphaphiikloaaDoor
open Go Go.Eng Go.RowKit Go.ChangeShapes Go.WideShapes Go.Joins

/-- A row of strings. -/
theorem rd_strs {t e : TypeId} {n : Nat} (ht : Tryd.prog.underlying t = some (.array n e)) (he : Tryd.prog.underlying e = some .string) (hc : Tryd.prog.cellsOf e = 1) (ec : Tryd.prog.cellsOf t = n) (l : List ByteArray) (hl : l.length = n) : Rd t (.agg (l.map fun x => .lit (.string x.data.toList))) (l.map fun x => .string x) := fun W f cs x h ex => by
  obtain ⟨xs, m, _, rfl, hcl, hn, hel⟩ := DataW.trod_array ht h
  simp only [DataW.agg.injEq] at ex
  have hcn : cs.length = n := by rw [hcl, ec]
  apply List.ext_getElem
  · rw [hcn, List.length_map, hl]
  intro i h1 h2
  have hi : i < n := by omega
  have hx := hel i (by omega)
  have hlt : i < xs.length := by omega
  rw [List.getElem?_eq_getElem hlt] at hx
  have hxi : (xs[i]).1 = .lit (.string (l[i]'(by omega)).data.toList) := by
    have := congrArg (·[i]?) ex
    simpa [hlt, show i < l.length by omega] using this
  obtain ⟨s, q1, q2, _⟩ := DataW.trod_string he hx
  rw [q2] at hxi
  simp only [DataW.lit.injEq, Lit.string.injEq] at hxi
  have hs : s = l[i]'(by omega) := by
    have h9 := Array.toList_inj.1 hxi
    cases s
    cases hli : l[i]'(by omega)
    rw [hli] at h9
    simp only [] at h9
    rw [h9]
  rw [hc, Nat.mul_one, List.take_one, List.head?_drop, List.getElem?_eq_getElem h1] at q1
  rw [List.getElem_map, ← hs]
  simpa using q1
set_option maxRecDepth 100000 in
theorem rdKeywords : Rd 178 Rows.laid_sluice_api_Keywords ((glob 7).getD []) :=
  rd_strs (n := 27) Tryd.underlying178 Tryd.underlying9 (by kernel_rfl) (by kernel_rfl) kwords rfl
theorem at7 {laid : List (String × DataW Unit)} {W : World} (hL : laidMetH Tryd.prog laid W) (hpl : (laid.all fun x => x.2.handleName?.isNone) = true) (hm : ("sluice/api.Keywords", Rows.laid_sluice_api_Keywords) ∈ laid) : GlobAt W 7 := globAt_of hL hpl hm (by kernel_rfl) (by kernel_rfl) rdKeywords rfl

/-! ### openers -/
theorem str_flat : ∀ (h : Heap) (l : List AV) (x : ByteArray), De.str.run h l = some x → l = [ss x] := str_out
theorem bool_flat6 : ∀ (h : Heap) (l : List AV) (x : Bool), De.bool.run h l = some x → l = [.v (.bool x)] := fun h l x e => by
  simp only [De.bool] at e
  split at e
  · cases e; rfl
  · cases e
theorem tk_cons {l : List AV} {a : AV} (h : l.take 1 = [a]) : l = a :: l.drop 1 := by
  have := List.take_append_drop 1 l
  rw [h] at this
  exact this.symm
theorem opens_s : Opens Tryd.prog 9 De.str fun s => s.size ≤ maxLen := Opens.str Tryd.underlying9
theorem opens_b : Opens Tryd.prog 4 De.bool fun _ => True := Opens.bool Tryd.underlying4
theorem opens_75 : Opens Tryd.prog 75 (De.int .i64) fun n => (Lit.int .i64 n).wf = true := Opens.int Tryd.underlying75
theorem opens_26 : Opens Tryd.prog 26 (De.int .i64) fun n => (Lit.int .i64 n).wf = true := Opens.int Tryd.underlying26
theorem opens_27 : Opens Tryd.prog 27 (De.int .i64) fun n => (Lit.int .i64 n).wf = true := Opens.int Tryd.underlying27
theorem opens_nd : Opens Tryd.prog 92 dN fun x => Rng x.n := by
  refine Opens.conv (Opens.struct Tryd.underlying92 (tot := 6) (by kernel_rfl) (OpensF.cons rfl (n := 1) (by kernel_rfl) (by decide) opens_75 (OpensF.cons rfl (n := 1) (by kernel_rfl) (by decide) opens_i2 (OpensF.cons rfl (n := 1) (by kernel_rfl) (by decide) opens_s (OpensF.cons rfl (n := 1) (by kernel_rfl) (by decide) opens_s (OpensF.cons rfl (n := 1) (by kernel_rfl) (by decide) opens_i (OpensF.one rfl (by kernel_rfl) opens_i))))))) fun h l x e ok => ?_
  have hl := pair_flat (int_flat .i64) (pair_flat (int_flat .i64) (pair_flat str_flat (pair_flat str_flat (pair_flat (int_flat .i64) (int_flat .i64))))) h l x e
  exact ⟨⟨x.1, x.2.1, x.2.2.1, x.2.2.2.1, x.2.2.2.2.1, x.2.2.2.2.2⟩, by rw [hl]; rfl, rng_of ok.2.1⟩
theorem opens_28 : Opens Tryd.prog 28 dNs fun l => l.length * 64 ≤ reachBytes ∧ ∀ x ∈ l, Rng x.n := Opens.sl Tryd.underlying28 (sz := 6) (by kernel_rfl) (by decide) (by kernel_rfl) opens_nd
theorem opens_29 : Opens Tryd.prog 29 dNss fun l => l.length * 24 ≤ reachBytes ∧ ∀ x ∈ l, x.length * 64 ≤ reachBytes ∧ ∀ y ∈ x, Rng y.n := Opens.sl Tryd.underlying29 (sz := 1) (by kernel_rfl) (by decide) (by kernel_rfl) opens_28
theorem opens_93 : Opens Tryd.prog 93 dSs fun l => l.length * 16 ≤ reachBytes ∧ ∀ x ∈ l, x.size ≤ maxLen := Opens.sl Tryd.underlying93 (sz := 1) (by kernel_rfl) (by decide) (by kernel_rfl) opens_s
theorem opens_95 : Opens Tryd.prog 95 dTy fun t => t.attrs.length * 16 ≤ reachBytes := by
  refine Opens.conv (Opens.struct Tryd.underlying95 (tot := 2) (by kernel_rfl) (OpensF.cons rfl (n := 1) (by kernel_rfl) (by decide) opens_s (OpensF.one rfl (by kernel_rfl) opens_93))) fun h l x e ok => ?_
  obtain ⟨e1, e2⟩ := pair_run e
  have h1 := tk_cons (str_flat _ _ _ e1)
  obtain ⟨a, ha⟩ := sl_one e2
  rw [ha] at e2 h1
  have e2' : rd dSs h a = some x.2 := e2
  exact ⟨⟨x.1, x.2⟩, by rw [h1]; exact deTyc_in (x := ⟨x.1, x.2⟩) e2', ok.2.1⟩
theorem opens_22 : Opens Tryd.prog 22 dTys fun l => l.length * 40 ≤ reachBytes ∧ ∀ t ∈ l, t.attrs.length * 16 ≤ reachBytes := Opens.sl Tryd.underlying22 (sz := 2) (by kernel_rfl) (by decide) (by kernel_rfl) opens_95
/-- A schema. -/
def dSc : De (List Ty) where
  run h l := deSc h (.g l)
  sim hh e := deSc_sim hh e
theorem opens_24 : Opens Tryd.prog 24 dSc fun l => l.length * 40 ≤ reachBytes ∧ ∀ t ∈ l, t.attrs.length * 16 ≤ reachBytes := by
  refine Opens.conv (Opens.struct Tryd.underlying24 (tot := 1) (by kernel_rfl) (OpensF.one rfl (by kernel_rfl) opens_22)) fun h l x e ok => ?_
  obtain ⟨a, rfl⟩ := sl_one e
  exact ⟨x, e, ok⟩
theorem opens_109 : Opens Tryd.prog 109 dIt fun _ => True := by
  refine Opens.conv (Opens.struct Tryd.underlying109 (tot := 5) (by kernel_rfl) (OpensF.cons rfl (n := 1) (by kernel_rfl) (by decide) opens_b (OpensF.cons rfl (n := 1) (by kernel_rfl) (by decide) opens_93 (OpensF.cons rfl (n := 1) (by kernel_rfl) (by decide) opens_s (OpensF.cons rfl (n := 1) (by kernel_rfl) (by decide) opens_i (OpensF.one rfl (by kernel_rfl) opens_i)))))) fun h l x e ok => ?_
  obtain ⟨e1, e2⟩ := pair_run e
  obtain ⟨e3, e4⟩ := pair_run e2
  have h1 := tk_cons (bool_flat6 _ _ _ e1)
  obtain ⟨a, ha⟩ := sl_one e3
  have h2 := tk_cons ha
  have h3 := pair_flat str_flat (pair_flat (int_flat .i64) (int_flat .i64)) h _ _ e4
  rw [ha] at e3
  have e3' : rd dSs h a = some x.2.1 := e3
  refine ⟨⟨x.1, x.2.1, x.2.2.1, x.2.2.2.1, x.2.2.2.2⟩, ?_, trivial⟩
  rw [h1, h2, h3]
  exact deItc_in (x := ⟨x.1, x.2.1, x.2.2.1, x.2.2.2.1, x.2.2.2.2⟩) e3'
theorem opens_25 : Opens Tryd.prog 25 dIts fun l => l.length * 64 ≤ reachBytes ∧ ∀ x ∈ l, True := Opens.sl Tryd.underlying25 (sz := 5) (by kernel_rfl) (by decide) (by kernel_rfl) opens_109
/-- A query. -/
def dQu : De Qu where
  run h l := deQ h (.g l)
  sim hh e := deQ_sim hh e
structure QuOk0 (q : Qu) : Prop where
  items : q.items.length * 64 ≤ reachBytes
  wh : q.wh.length * 64 ≤ reachBytes
  ret : q.ret.length * 24 ≤ reachBytes
  rets : ∀ t ∈ q.ret, t.length * 64 ≤ reachBytes
theorem opens_31 : Opens Tryd.prog 31 dQu QuOk0 := by
  refine Opens.conv (Opens.struct Tryd.underlying31 (tot := 7) (by kernel_rfl) (OpensF.cons rfl (n := 1) (by kernel_rfl) (by decide) opens_25 (OpensF.cons rfl (n := 1) (by kernel_rfl) (by decide) opens_26 (OpensF.cons rfl (n := 1) (by kernel_rfl) (by decide) opens_27 (OpensF.cons rfl (n := 1) (by kernel_rfl) (by decide) opens_28 (OpensF.cons rfl (n := 1) (by kernel_rfl) (by decide) opens_i2 (OpensF.cons rfl (n := 1) (by kernel_rfl) (by decide) opens_s (OpensF.one rfl (by kernel_rfl) opens_29)))))))) fun h l x e ok => ?_
  obtain ⟨x1, x2, x3, x4, x5, x6, x7⟩ := x
  obtain ⟨o1, o2, o3, o4, o5, o6, o7⟩ := ok
  obtain ⟨e1, e⟩ := pair_run e
  obtain ⟨e2, e⟩ := pair_run e
  obtain ⟨e3, e⟩ := pair_run e
  obtain ⟨e4, e⟩ := pair_run e
  obtain ⟨e5, e⟩ := pair_run e
  obtain ⟨e6, e7⟩ := pair_run e
  obtain ⟨a, ha⟩ := sl_one e1
  obtain ⟨b, hb⟩ := sl_one e4
  obtain ⟨c, hc⟩ := sl_one e7
  have h1 := tk_cons ha
  have h2 := tk_cons (int_flat .i64 _ _ _ e2)
  have h3 := tk_cons (int_flat .i64 _ _ _ e3)
  have h4 := tk_cons hb
  have h5 := tk_cons (int_flat .i64 _ _ _ e5)
  have h6 := tk_cons (str_flat _ _ _ e6)
  rw [ha] at e1
  rw [hb] at e4
  rw [hc] at e7
  have e1' : rd dIts h a = some x1 := e1
  have e4' : rd dNs h b = some x4 := e4
  have e7' : rd dNss h c = some x7 := e7
  refine ⟨⟨x1, x2, x3, x4, x5, x6, x7⟩, ?_, o1.1, o4.1, o7.1, fun t ht => (o7.2 t ht).1⟩
  rw [h1, h2, h3, h4, h5, h6, hc]
  exact deQ_in (q := ⟨x1, x2, x3, x4, x5, x6, x7⟩) e1' e4' e7'
theorem w6_of {v : Eq38} (h1 : v.sc.length * 40 ≤ reachBytes) (h2 : ∀ t ∈ v.sc, t.attrs.length * 16 ≤ reachBytes) (h3 : QuOk0 v.q) (h4 : v.t.length * 64 ≤ reachBytes) (h5 : ∀ x ∈ v.t, Rng x.n) (h6 : EnOk0 v.en) : W6 v := by
  have hr : reachBytes = 140737488351232 := rfl
  have k1 := h3.items
  have k2 := h3.wh
  have k3 := h3.ret
  have k4 := h6.ls
  rw [hr] at h1 h4 k1 k2 k3 k4
  refine ⟨by omega, fun t ht => ?_, by omega, by unfold smallT; omega, by unfold big; omega, fun t ht => ?_, by omega, h5, by omega, fun l hl => ?_, h6.ev, h6.pos⟩
  · have := h2 t ht; rw [hr] at this; omega
  · have := h3.rets t ht; rw [hr] at this; unfold smallT; omega
  · have := h6.len l hl; rw [hr] at this; omega
end Go.Proofs.YtkfphaphiikloaaDoor
