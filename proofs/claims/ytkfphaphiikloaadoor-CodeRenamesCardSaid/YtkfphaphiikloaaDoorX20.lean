/-
  THE ROWS OF THIS SEAT, WHAT THEY SHARE: schemas, queries and trees among the arguments; the keywords.
-/
import Derived.Test.YtkfphaphiikloaaDoorX16
import Derived.Test.YtkfphaphiikloaaDoorX19
set_option linter.unusedSimpArgs false
set_option linter.unusedVariables false
set_option linter.constructorNameAsVariable false
namespace Go.Proofs.YtkfphaphiikloaaDoor
open Go Go.Eng Go.RowKit Go.ChangeShapes Go.WideShapes Go.Joins

/-- A row of strings. -/
theorem rd_strs {t e : TypeId} {n : Nat} (ht : Tryd.prog.underlying t = some (.array n e)) (he : Tryd.prog.underlying e = some .string) (hc : Tryd.prog.cellsOf e = 1) (ec : Tryd.prog.cellsOf t = n) (l : List ByteArray) (hl : l.length = n) : Rd t (.agg (l.map fun x => .lit (.string x.data.toList))) (l.map fun x => .string x) := fun W f cs x h ex => by
  obtain ⟨xs, m, _, rfl, hcl, hn, hel⟩ := DataW.trod_array ht h
  simp only [DataW.agg.injEq] at ex
  have hcn : cs.length = n := by rw [hcl, ec]
  apply List.ext_getElem
  · rw [hcn, List.length_map, hl]
  intro i h1 h2
  have hi : i < n := by omega
  have hx := hel i (by omega)
  have hlt : i < xs.length := by omega
  rw [List.getElem?_eq_getElem hlt] at hx
  have hxi : (xs[i]).1 = .lit (.string (l[i]'(by omega)).data.toList) := by
    have := congrArg (·[i]?) ex
    simpa [hlt, show i < l.length by omega] using this
  obtain ⟨s, q1, q2, _⟩ := DataW.trod_string he hx
  rw [q2] at hxi
  simp only [DataW.lit.injEq, Lit.string.injEq] at hxi
  have hs : s = l[i]'(by omega) := by
    have h9 := Array.toList_inj.1 hxi
    cases s
    cases hli : l[i]'(by omega)
    rw [hli] at h9
    simp only [] at h9
    rw [h9]
  rw [hc, Nat.mul_one, List.take_one, List.head?_drop, List.getElem?_eq_getElem h1] at q1
  rw [List.getElem_map, ← hs]
  simpa using q1
set_option maxRecDepth 100000 in
theorem rdKeywords : Rd 178 Rows.laid_sluice_api_Keywords ((glob 7).getD []) :=
  rd_strs (n := 27) Tryd.underlying178 Tryd.underlying9 (by kernel_rfl) (by kernel_rfl) kwords rfl
theorem at7 {laid : List (String × DataW Unit)} {W : World} (hL : laidMetH Tryd.prog laid W) (hpl : (laid.all fun x => x.2.handleName?.isNone) = true) (hm : ("sluice/api.Keywords", Rows.laid_sluice_api_Keywords) ∈ laid) : GlobAt W 7 := globAt_of hL hpl hm (by kernel_rfl) (by kernel_rfl) rdKeywords rfl

/-! ### openers -/
theorem str_flat : ∀ (h : Heap) (l : List AV) (x : ByteArray), De.str.run h l = some x → l = [ss x] := str_out
theorem bool_flat6 : ∀ (h : Heap) (l : List AV) (x : Bool), De.bool.run h l = some x → l = [.v (.bool x)] := fun h l x e => by
  simp only [De.bool] at e
  split at e
  · cases e; rfl
  · cases e
theorem tk_cons {l : List AV} {a : AV} (h : l.take 1 = [a]) : l = a :: l.drop 1 := by
  have := List.take_append_drop 1 l
  rw [h] at this
  exact this.symm
theorem opens_s : Opens Tryd.prog 9 De.str fun s => s.size ≤ maxLen := Opens.str Tryd.underlying9
theorem opens_b : Opens Tryd.prog 4 De.bool fun _ => True := Opens.bool Tryd.underlying4
theorem opens_75 : Opens Tryd.prog 75 (De.int .i64) fun n => (Lit.int .i64 n).wf = true := Opens.int Tryd.underlying75
theorem opens_26 : Opens Tryd.prog 26 (De.int .i64) fun n => (Lit.int .i64 n).wf = true := Opens.int Tryd.underlying26
theorem opens_27 : Opens Tryd.prog 27 (De.int .i64) fun n => (Lit.int .i64 n).wf = true := Opens.int Tryd.underlying27
theorem opens_nd : Opens Tryd.prog 92 dN fun x => Rng x.n := by
  refine Opens.conv (Opens.struct Tryd.underlying92 (tot := 6) (by kernel_rfl) (OpensF.cons rfl (n := 1) (by kernel_rfl) (by decide) opens_75 (OpensF.cons rfl (n := 1) (by kernel_rfl) (by decide) opens_i2 (OpensF.cons rfl (n := 1) (by kernel_rfl) (by decide) opens_s (OpensF.cons rfl (n := 1) (by kernel_rfl) (by decide) opens_s (OpensF.cons rfl (n := 1) (by kernel_rfl) (by decide) opens_i (OpensF.one rfl (by kernel_rfl) opens_i))))))) fun h l x e ok => ?_
  have hl := pair_flat (int_flat .i64) (pair_flat (int_flat .i64) (pair_flat str_flat (pair_flat str_flat (pair_flat (int_flat .i64) (int_flat .i64))))) h l x e
  exact ⟨⟨x.1, x.2.1, x.2.2.1, x.2.2.2.1, x.2.2.2.2.1, x.2.2.2.2.2⟩, by rw [hl]; rfl, rng_of ok.2.1⟩
theorem opens_28 : Opens Tryd.prog 28 dNs fun l => l.length * 64 ≤ reachBytes ∧ ∀ x ∈ l, Rng x.n := Opens.sl Tryd.underlying28 (sz := 6) (by kernel_rfl) (by decide) (by kernel_rfl) opens_nd
theorem opens_29 : Opens Tryd.prog 29 dNss fun l => l.length * 24 ≤ reachBytes ∧ ∀ x ∈ l, x.length * 64 ≤ reachBytes ∧ ∀ y ∈ x, Rng y.n := Opens.sl Tryd.underlying29 (sz := 1) (by kernel_rfl) (by decide) (by kernel_rfl) opens_28
theorem opens_93 : Opens Tryd.prog 93 dSs fun l => l.length * 16 ≤ reachBytes ∧ ∀ x ∈ l, x.size ≤ maxLen := Opens.sl Tryd.underlying93 (sz := 1) (by kernel_rfl) (by decide) (by kernel_rfl) opens_s
theorem opens_95 : Opens Tryd.prog 95 dTy fun t => t.attrs.length * 16 ≤ reachBytes := by
  refine Opens.conv (Opens.struct Tryd.underlying95 (tot := 2) (by kernel_rfl) (OpensF.cons rfl (n := 1) (by kernel_rfl) (by decide) opens_s (OpensF.one rfl (by kernel_rfl) opens_93))) fun h l x e ok => ?_
  obtain ⟨e1, e2⟩ := pair_run e
  have h1 := tk_cons (str_flat _ _ _ e1)
  obtain ⟨a, ha⟩ := sl_one e2
  rw [ha] at e2 h1
  have e2' : rd dSs h a = some x.2 := e2
  exact ⟨⟨x.1, x.2⟩, by rw [h1]; exact deTyc_in (x := ⟨x.1, x.2⟩) e2', ok.2.1⟩
theorem opens_22 : Opens Tryd.prog 22 dTys fun l => l.length * 40 ≤ reachBytes ∧ ∀ t ∈ l, t.attrs.length * 16 ≤ reachBytes := Opens.sl Tryd.underlying22 (sz := 2) (by kernel_rfl) (by decide) (by kernel_rfl) opens_95
/-- A schema. -/
def dSc : De (List Ty) where
  run h l := deSc h (.g l)
  sim hh e := deSc_sim hh e
theorem opens_24 : Opens Tryd.prog 24 dSc fun l => l.length * 40 ≤ reachBytes ∧ ∀ t ∈ l, t.attrs.length * 16 ≤ reachBytes := by
  refine Opens.conv (Opens.struct Tryd.underlying24 (tot := 1) (by kernel_rfl) (OpensF.one rfl (by kernel_rfl) opens_22)) fun h l x e ok => ?_
  obtain ⟨a, rfl⟩ := sl_one e
  exact ⟨x, e, ok⟩
theorem opens_109 : Opens Tryd.prog 109 dIt fun _ => True := by
  refine Opens.conv (Opens.struct Tryd.underlying109 (tot := 5) (by kernel_rfl) (OpensF.cons rfl (n := 1) (by kernel_rfl) (by decide) opens_b (OpensF.cons rfl (n := 1) (by kernel_rfl) (by decide) opens_93 (OpensF.cons rfl (n := 1) (by kernel_rfl) (by decide) opens_s (OpensF.cons rfl (n := 1) (by kernel_rfl) (by decide) opens_i (OpensF.one rfl (by kernel_rfl) opens_i)))))) fun h l x e ok => ?_
  obtain ⟨e1, e2⟩ := pair_run e
  obtain ⟨e3, e4⟩ := pair_run e2
  have h1 := tk_cons (bool_flat6 _ _ _ e1)
  obtain ⟨a, ha⟩ := sl_one e3
  have h2 := tk_cons ha
  have h3 := pair_flat str_flat (pair_flat (int_flat .i64) (int_flat .i64)) h _ _ e4
  rw [ha] at e3
  have e3' : rd dSs h a = some x.2.1 := e3
  refine ⟨⟨x.1, x.2.1, x.2.2.1, x.2.2.2.1, x.2.2.2.2⟩, ?_, trivial⟩
  rw [h1, h2, h3]
  exact deItc_in (x := ⟨x.1, x.2.1, x.2.2.1, x.2.2.2.1, x.2.2.2.2⟩) e3'
theorem opens_25 : Opens Tryd.prog 25 dIts fun l => l.length * 64 ≤ reachBytes ∧ ∀ x ∈ l, True := Opens.sl Tryd.underlying25 (sz := 5) (by kernel_rfl) (by decide) (by kernel_rfl) opens_109
/-- A query. -/
def dQu : De Qu where
  run h l := deQ h (.g l)
  sim hh e := deQ_sim hh e
structure QuOk0 (q : Qu) : Prop where
  items : q.items.length * 64 ≤ reachBytes
  wh : q.wh.length * 64 ≤ reachBytes
  ret : q.ret.length * 24 ≤ reachBytes
  rets : ∀ t ∈ q.ret, t.length * 64 ≤ reachBytes
theorem opens_31 : Opens Tryd.prog 31 dQu QuOk0 := by
  refine Opens.conv (Opens.struct Tryd.underlying31 (tot := 7) (by kernel_rfl) (OpensF.cons rfl (n := 1) (by kernel_rfl) (by decide) opens_25 (OpensF.cons rfl (n := 1) (by kernel_rfl) (by decide) opens_26 (OpensF.cons rfl (n := 1) (by kernel_rfl) (by decide) opens_27 (OpensF.cons rfl (n := 1) (by kernel_rfl) (by decide) opens_28 (OpensF.cons rfl (n := 1) (by kernel_rfl) (by decide) opens_i2 (OpensF.cons rfl (n := 1) (by kernel_rfl) (by decide) opens_s (OpensF.one rfl (by kernel_rfl) opens_29)))))))) fun h l x e ok => ?_
  obtain ⟨x1, x2, x3, x4, x5, x6, x7⟩ := x
  obtain ⟨o1, o2, o3, o4, o5, o6, o7⟩ := ok
  obtain ⟨e1, e⟩ := pair_run e
  obtain ⟨e2, e⟩ := pair_run e
  obtain ⟨e3, e⟩ := pair_run e
  obtain ⟨e4, e⟩ := pair_run e
  obtain ⟨e5, e⟩ := pair_run e
  obtain ⟨e6, e7⟩ := pair_run e
  obtain ⟨a, ha⟩ := sl_one e1
  obtain ⟨b, hb⟩ := sl_one e4
  obtain ⟨c, hc⟩ := sl_one e7
  have h1 := tk_cons ha
  have h2 := tk_cons (int_flat .i64 _ _ _ e2)
  have h3 := tk_cons (int_flat .i64 _ _ _ e3)
  have h4 := tk_cons hb
  have h5 := tk_cons (int_flat .i64 _ _ _ e5)
  have h6 := tk_cons (str_flat _ _ _ e6)
  rw [ha] at e1
  rw [hb] at e4
  rw [hc] at e7
  have e1' : rd dIts h a = some x1 := e1
  have e4' : rd dNs h b = some x4 := e4
  have e7' : rd dNss h c = some x7 := e7
  refine ⟨⟨x1, x2, x3, x4, x5, x6, x7⟩, ?_, o1.1, o4.1, o7.1, fun t ht => (o7.2 t ht).1⟩
  rw [h1, h2, h3, h4, h5, h6, hc]
  exact deQ_in (q := ⟨x1, x2, x3, x4, x5, x6, x7⟩) e1' e4' e7'
end Go.Proofs.YtkfphaphiikloaaDoor

/-
  TREES, PART E: the place of an attribute of a type, on both sides.
-/
namespace Go.Proofs.YtkfphaphiikloaaDoor
open Go Go.Eng

def deAt (h : Heap) : List AV → Option (List Ty × Int × ByteArray)
  | [x, .v (.int .i64 t), .v (.string v)] => (deSc h x).map fun l => (l, t, v)
  | _ => none
theorem deAt_out {h : Heap} {args : List AV} {q : List Ty × Int × ByteArray} (e : deAt h args = some q) : ∃ x, args = [x, ii q.2.1, ss q.2.2] ∧ deSc h x = some q.1 := by
  unfold deAt at e
  split at e
  · simp only [Option.map_eq_some_iff] at e
    obtain ⟨t, h1, rfl⟩ := e
    exact ⟨_, rfl, h1⟩
  · cases e
theorem deAt_mono (h h' : Heap) (args : List AV) (q : List Ty × Int × ByteArray) (hh : h.le h') (e : deAt h args = some q) : deAt h' args = some q := by
  obtain ⟨x, rfl, e1⟩ := deAt_out e
  simp only [deAt, ii, ss, deSc_sim hh.sim e1, Option.map_some]
def GAt := pureH deAt (fun q => smallS q.1) fun q => ii (attrOf q.1 q.2.1 q.2.2)
def tb121 : List (FuncId × (List AV → Heap → PRes)) := [(140, G140)]
set_option maxRecDepth 100000 in
set_option maxHeartbeats 1000000 in
theorem P121 : P0 [] 121 GAt := by
  refine mkH 3 (S := []) (l := tb121) (tb_cons P140 tb_nil) Tryd.func121 rfl (by kernel_rfl) deAt_mono (fun h l x e => by obtain ⟨a, rfl, _⟩ := deAt_out e; exact Nat.le_refl _) (fun a => rfl) (fun args q h n e hp hn => ?_)
  obtain ⟨x, rfl, e1⟩ := deAt_out e
  obtain ⟨a, rfl, e2⟩ := deSc_out e1
  obtain ⟨l, ty, v⟩ := q
  obtain ⟨hp1, hp2⟩ := hp
  simp only [] at e2 hp1 hp2 ⊢
  obtain ⟨s1, s2, s3, s4, s5⟩ := sl_is e2
  have hts : ByteArray.mk #[116, 115] = tsB := rfl
  by_cases h1 : ty < 0
  · have hf : attrOf l ty v = -1 := by rw [attrOf, if_pos (.inl h1)]
    simp [evs, aeval, binS, cx_ti, cx_G, cx_pf, cx_tw, ti, globS, glob, ldcs_1, ldcs_2, ldcs_3, ldcs_4, ldcs_5, ldcs_7, sls.eq_1, slc.eq_1, pfL, ii, ss, s1, s2, s3, s4, h1, hf]
  obtain ⟨j, rfl⟩ : ∃ j : Nat, ty = j := ⟨ty.toNat, by omega⟩
  by_cases hlt : j < l.length
  · rcases tys_at e2 with ⟨h0, _⟩ | ⟨id, off, k, rfl, hk, ho, hat⟩
    · rw [h0] at hlt; simp at hlt
    obtain ⟨_, c, hc, hcr⟩ := hat j hlt
    have h2 : ¬ l.length ≤ j := by omega
    have hro := ro_at hk
    have h0 := ne_of hk hn 0
    simp only [Nat.add_zero] at h0
    have u3 := (sl_is hcr).2.2.1
    have gr : ∀ h', agree n (roH h) h' → rd dSs h' c = some l[j].attrs := rd_agree hn hcr
    have hw1 : off + (j * 2 + 2) ≤ k.cells.length := by omega
    have hsm := hp2 _ (List.getElem_mem hlt)
    have hlj : l[j]? = some l[j] := List.getElem?_eq_getElem hlt
    have hff : attrOf l j v = if (v == tsB) = true then -2 else if ixOf l[j].attrs v < 8 then ixOf l[j].attrs v else -1 := by
      rw [attrOf, if_neg (by omega)]
      simp only [Int.toNat_natCast, hlj]
    generalize l[j] = t at *
    cases hv : (v == tsB) with
    | true =>
      rw [hv, if_pos rfl] at hff
      simp [evs, aeval, binS, cx_ti, cx_G, cx_pf, cx_tw, ti, globS, glob, ldcs_1, ldcs_2, ldcs_3, ldcs_4, ldcs_5, ldcs_7, sls.eq_1, slc.eq_1, pfL, ii, ss, hlt, h2, hts, hv, hff]
    | false =>
      rw [hv, if_neg (by simp)] at hff
      have hi0 : -1 ≤ ixOf t.attrs v := by unfold ixOf; split <;> omega
      obtain ⟨z, hzz⟩ : ∃ z, ixOf t.attrs v = z := ⟨_, rfl⟩
      rw [hzz] at hff hi0
      by_cases hz : 0 ≤ z
      · by_cases hz8 : z < 8
        · rw [if_pos hz8] at hff
          simp [evs, aeval, binS, cx_ti, cx_G, cx_pf, cx_tw, ti, globS, glob, ldcs_1, ldcs_2, ldcs_3, ldcs_4, ldcs_5, ldcs_7, sls.eq_1, slc.eq_1, pfL, ii, ss, hlt, h2, hts, hv, hff, h0, hro, hc, hw1, tb121, G140, pureH, dePl, gr, agree_up, agree_refl, hsm, u3, hzz, hz, hz8]
        · rw [if_neg hz8] at hff
          simp [evs, aeval, binS, cx_ti, cx_G, cx_pf, cx_tw, ti, globS, glob, ldcs_1, ldcs_2, ldcs_3, ldcs_4, ldcs_5, ldcs_7, sls.eq_1, slc.eq_1, pfL, ii, ss, hlt, h2, hts, hv, hff, h0, hro, hc, hw1, tb121, G140, pureH, dePl, gr, agree_up, agree_refl, hsm, u3, hzz, hz, hz8]
      · have : z = -1 := by omega
        subst this
        simp at hff
        simp [evs, aeval, binS, cx_ti, cx_G, cx_pf, cx_tw, ti, globS, glob, ldcs_1, ldcs_2, ldcs_3, ldcs_4, ldcs_5, ldcs_7, sls.eq_1, slc.eq_1, pfL, ii, ss, hlt, h2, hts, hv, hff, h0, hro, hc, hw1, tb121, G140, pureH, dePl, gr, agree_up, agree_refl, hsm, u3, hzz]
  · have h2 : l.length ≤ j := by omega
    have hf : attrOf l j v = -1 := by rw [attrOf, if_pos (.inr (by omega))]
    simp [evs, aeval, binS, cx_ti, cx_G, cx_pf, cx_tw, ti, globS, glob, ldcs_1, ldcs_2, ldcs_3, ldcs_4, ldcs_5, ldcs_7, sls.eq_1, slc.eq_1, pfL, ii, ss, s1, s2, s3, s4, h2, hf]
theorem fi_ge {l : List ByteArray} {v : ByteArray} {j : Nat} (hj : j ≤ l.length) (hno : ∀ i, i < j → (l.getD i ByteArray.empty == v) = false) : j ≤ l.findIdx (· == v) := by
  apply Classical.byContradiction
  intro hn
  have hlt : l.findIdx (· == v) < l.length := by omega
  have h1 := List.findIdx_getElem (w := hlt)
  have h2 := hno (l.findIdx (· == v)) (by omega)
  rw [List.getD_eq_getElem?_getD, List.getElem?_eq_getElem hlt, Option.getD_some] at h2
  rw [h2] at h1
  cases h1
set_option maxRecDepth 100000 in
set_option maxHeartbeats 1000000 in
theorem P60 : P0 [] 60 GAt := by
  refine mkH 3 (S := []) (l := []) tb_nil Tryd.func60 rfl (by kernel_rfl) deAt_mono (fun h l x e => by obtain ⟨a, rfl, _⟩ := deAt_out e; exact Nat.le_refl _) (fun a => rfl) (fun args q h n e hp hn => ?_)
  obtain ⟨x, rfl, e1⟩ := deAt_out e
  obtain ⟨a, rfl, e2⟩ := deSc_out e1
  obtain ⟨l, ty, v⟩ := q
  obtain ⟨hp1, hp2⟩ := hp
  simp only [] at e2 hp1 hp2 ⊢
  obtain ⟨s1, s2, s3, s4, s5⟩ := sl_is e2
  have hts : ByteArray.mk #[116, 115] = tsB := rfl
  by_cases h1 : ty < 0
  · have hf : attrOf l ty v = -1 := by rw [attrOf, if_pos (.inl h1)]
    simp [evs, aeval, binS, cx_ti, cx_G, cx_pf, cx_tw, ti, globS, glob, ldcs_1, ldcs_2, ldcs_3, ldcs_4, ldcs_5, ldcs_7, sls.eq_1, slc.eq_1, pfL, ii, ss, s1, s2, s3, s4, h1, hf]
  obtain ⟨j, rfl⟩ : ∃ j : Nat, ty = j := ⟨ty.toNat, by omega⟩
  by_cases hlt : j < l.length
  · rcases tys_at e2 with ⟨h0, _⟩ | ⟨id, off, k, rfl, hk, ho, hat⟩
    · rw [h0] at hlt; simp at hlt
    obtain ⟨_, c, hc, hcr⟩ := hat j hlt
    have h2 : ¬ l.length ≤ j := by omega
    have hro := ro_at hk
    have h0 := ne_of hk hn 0
    simp only [Nat.add_zero] at h0
    obtain ⟨u1, u2, u3, u4, u5⟩ := sl_is hcr
    have hw1 : off + (j * 2 + 2) ≤ k.cells.length := by omega
    have hsm := hp2 _ (List.getElem_mem hlt)
    have hlj : l[j]? = some l[j] := List.getElem?_eq_getElem hlt
    have hff : attrOf l j v = if (v == tsB) = true then -2 else if ixOf l[j].attrs v < 8 then ixOf l[j].attrs v else -1 := by
      rw [attrOf, if_neg (by omega)]
      simp only [Int.toNat_natCast, hlj]
    generalize l[j] = t at *
    have hgv : ∀ j (hj : j < t.attrs.length), t.attrs.getD j ByteArray.empty = t.attrs[j] := fun j hj => by rw [List.getD_eq_getElem?_getD, List.getElem?_eq_getElem hj]; rfl
    cases hv : (v == tsB) with
    | true =>
      rw [hv, if_pos rfl] at hff
      simp [evs, aeval, binS, cx_ti, cx_G, cx_pf, cx_tw, ti, globS, glob, ldcs_1, ldcs_2, ldcs_3, ldcs_4, ldcs_5, ldcs_7, sls.eq_1, slc.eq_1, pfL, ii, ss, hlt, h2, hts, hv, hff]
    | false =>
      rw [hv, if_neg (by simp)] at hff
      simp [evs, aeval, binS, cx_ti, cx_G, cx_pf, cx_tw, ti, globS, glob, ldcs_1, ldcs_2, ldcs_3, ldcs_4, ldcs_5, ldcs_7, sls.eq_1, slc.eq_1, pfL, ii, ss, hlt, h2, hts, hv, h0, hro, hc, hw1, u3]
      refine awp_loop (fun s => ∃ i : Nat, i ≤ t.attrs.length ∧ i ≤ 8 ∧ s.e 2 = ss v ∧ s.e 7 = c ∧ s.e 8 = ii i ∧ agree n (roH h) s.h ∧ ∀ m, m < i → (t.attrs.getD m ByteArray.empty == v) = false) (fun s => 8 - (s.e 8).i.toNat) ⟨0, by simp [up, env0, ii, ss, agree_up, agree_refl]⟩ ?_
      rintro e' h' n' ⟨i, hi, hi8, q2, q7, q8, hag, hno⟩
      simp only [] at q2 q7 q8 hag
      by_cases hil : i < t.attrs.length
      · by_cases hi9 : i < 8
        · rcases ss_at hcr with ⟨h9, _⟩ | ⟨id', off', k', rfl, hk', ho', hat'⟩
          · rw [h9] at hil; simp at hil
          have hr := hat' i hil
          have ha' := agree_at hn hk' hag
          have hw := wrap_nat (j := i) (by omega)
          have hw2 : off' + (i + 1) ≤ k'.cells.length := by omega
          have hi9' : (i : Int) < 8 := by omega
          have hgj := hgv i hil
          generalize hy0 : t.attrs[i] = y at *
          cases hy : (y == v) with
          | true =>
            have hf := fi_hit (v := v) hil hno (by rw [hgj]; exact hy)
            have hz : ixOf t.attrs v = (i : Int) := by rw [ixOf, hf, if_pos hil]
            rw [hz, if_pos hi9'] at hff
            simp [evs, aeval, binS, cx_ti, cx_G, cx_pf, cx_tw, ti, globS, glob, ldcs_1, ldcs_2, ldcs_3, ldcs_4, ldcs_5, ldcs_7, sls.eq_1, slc.eq_1, pfL, q2, q7, q8, ii, ss, hil, hi9, hi9', ha', hr, hw2, hy, hff]
          | false =>
            simp [evs, aeval, binS, cx_ti, cx_G, cx_pf, cx_tw, ti, globS, glob, ldcs_1, ldcs_2, ldcs_3, ldcs_4, ldcs_5, ldcs_7, sls.eq_1, slc.eq_1, pfL, q2, q7, q8, ii, ss, hil, hi9, hi9', ha', hr, hw2, hy, hw, hag]
            refine ⟨⟨i + 1, by omega, by omega, by omega, fun m hm => ?_⟩, by omega⟩
            by_cases e : m = i
            · subst e; rw [← List.getD_eq_getElem?_getD, hgj]; exact hy
            · have := hno m (by omega); rwa [List.getD_eq_getElem?_getD] at this
        · obtain rfl : i = 8 := by omega
          have hge : 8 ≤ t.attrs.findIdx (· == v) := fi_ge hi hno
          have hz : attrOf l j v = -1 := by
            by_cases hfl : t.attrs.findIdx (· == v) < t.attrs.length
            · have : ixOf t.attrs v = (t.attrs.findIdx (· == v) : Int) := if_pos hfl
              rw [hff, this, if_neg (by omega)]
            · have : ixOf t.attrs v = -1 := if_neg hfl
              rw [hff, this]; rfl
          simp [evs, aeval, binS, cx_ti, cx_G, cx_pf, cx_tw, ti, globS, glob, ldcs_1, ldcs_2, ldcs_3, ldcs_4, ldcs_5, ldcs_7, sls.eq_1, slc.eq_1, pfL, q2, q7, q8, ii, ss, hil, hz, u1, u2, u3]
      · obtain rfl : i = t.attrs.length := by omega
        have hf := fi_none (v := v) (l := t.attrs) hno
        have hz0 : ixOf t.attrs v = -1 := by rw [ixOf, hf, if_neg (by omega)]
        have hz : attrOf l j v = -1 := by rw [hff, hz0]; rfl
        simp [evs, aeval, binS, cx_ti, cx_G, cx_pf, cx_tw, ti, globS, glob, ldcs_1, ldcs_2, ldcs_3, ldcs_4, ldcs_5, ldcs_7, sls.eq_1, slc.eq_1, pfL, q2, q7, q8, ii, ss, hz, u1, u2, u3]
  · have h2 : l.length ≤ j := by omega
    have hf : attrOf l j v = -1 := by rw [attrOf, if_pos (.inr (by omega))]
    simp [evs, aeval, binS, cx_ti, cx_G, cx_pf, cx_tw, ti, globS, glob, ldcs_1, ldcs_2, ldcs_3, ldcs_4, ldcs_5, ldcs_7, sls.eq_1, slc.eq_1, pfL, ii, ss, s1, s2, s3, s4, h2, hf]
end Go.Proofs.YtkfphaphiikloaaDoor

/-
  TREES, PART F: is it a tree? (show.Tree)
-/
namespace Go.Proofs.YtkfphaphiikloaaDoor
open Go Go.Eng

def opA (o : List Int) (k : Int) : Int := if k = 1 then o.getD (o.length - 1) 0 else if k = 2 then o.getD (o.length - 2) 0 else -1
def opB (o : List Int) (k : Int) : Int := if k = 2 then o.getD (o.length - 1) 0 else -1
def treeStep (o : List Int) (x : Nd) (i : Nat) : Option (List Int) :=
  if arity x.op < 0 ∨ arity x.op > o.length ∨ fieldsB x = false then none
  else if x.a ≠ opA o (arity x.op) ∨ x.b ≠ opB o (arity x.op) then none
  else some (o.take (o.length - (arity x.op).toNat) ++ [(i : Int)])
def openTo (t : List Nd) : Nat → Option (List Int)
  | 0 => some []
  | j + 1 => (openTo t j).bind fun o => treeStep o (t.getD j nd0) j
def tree1 (t : List Nd) : Bool := match openTo t t.length with
  | some o => decide (o.length = 1)
  | none => false
theorem open_len {t : List Nd} : ∀ {j : Nat} {o : List Int}, openTo t j = some o → o.length ≤ j
  | 0, o, h => by simp [openTo] at h; subst h; simp
  | j + 1, o, h => by
    simp only [openTo, Option.bind_eq_some_iff] at h
    obtain ⟨p, h1, h2⟩ := h
    have := open_len h1
    unfold treeStep at h2
    split at h2
    · cases h2
    · split at h2
      · cases h2
      · cases h2
        simp; omega
theorem open_none {t : List Nd} {j : Nat} (h : openTo t j = none) : ∀ m, openTo t (j + m) = none
  | 0 => h
  | m + 1 => by
    show openTo t (j + m + 1) = none
    simp only [openTo, open_none h m, Option.bind_none]
theorem tree1_no {t : List Nd} {j : Nat} {o : List Int} (hj : j < t.length) (ho : openTo t j = some o) (hs : treeStep o (t.getD j nd0) j = none) : tree1 t = false := by
  have h1 : openTo t (j + 1) = none := by simp only [openTo, ho, Option.bind_some, hs]
  have := open_none h1 (t.length - (j + 1))
  rw [show j + 1 + (t.length - (j + 1)) = t.length by omega] at this
  simp only [tree1, this]
def G70 := pureH deT smallT fun t => bv (tree1 t)
def tb70 : List (FuncId × (List AV → Heap → PRes)) := [(114, g114), (115, g115)]
theorem arity_is (o : Int) : arity o = -1 ∨ arity o = 0 ∨ arity o = 1 ∨ arity o = 2 := by
  unfold arity; repeat' split
  all_goals simp
theorem deN_n6 (x : Nd) : deN (.g [.v (.int .i64 x.op), .v (.int .i64 x.n), .v (.string x.var), .v (.string x.attr), .v (.int .i64 x.a), .v (.int .i64 x.b)]) = some x := rfl
set_option maxRecDepth 100000 in
set_option maxHeartbeats 8000000 in
theorem P70 : P0 [7] 70 G70 := by
  refine mkH 1 (S := [7]) (l := tb70) (tb_cons p114 (tb_cons p115 tb_nil)) Tryd.func70 rfl (by kernel_rfl) deT_mono (fun h l x e => by obtain ⟨a, rfl, _⟩ := deT_out e; exact Nat.le_refl _) (fun a => rfl) (fun args t h n e hp hn => ?_)
  obtain ⟨a, rfl, e1⟩ := deT_out e
  obtain ⟨s1, s2, s3, s4, s5⟩ := sl_is e1
  have hp' : t.length * 64 ≤ 140737488355328 := hp
  have key : ∀ e : Nat → AV, e 0 = a → awp (cx [7] (pfL tb70)) (Tryd.f70.body.getD .skip) (finQ (cx [7] (pfL tb70)) Tryd.f70 fun z _ _ => z = bv (tree1 t)) ⟨e, roH h, n⟩ := fun e q0 => by
    simp [evs, aeval, binS, cx_ti, cx_G, cx_pf, cx_tw, ti, globS, glob, ldcs_1, ldcs_2, ldcs_3, ldcs_4, ldcs_5, ldcs_7, sls.eq_1, slc.eq_1, pfL, Tryd.f70, q0, s1, s2, s3]
    refine awp_loop (fun s => ∃ (j : Nat) (o : List Int), j ≤ t.length ∧ openTo t j = some o ∧ s.e 9 = a ∧ s.e 10 = ii t.length ∧ s.e 11 = ii j ∧ Own s.h n s.n (s.e 3) o.length (o.map ii) 1 ∧ agree n (roH h) s.h ∧ n ≤ s.n) (fun s => t.length - (s.e 11).i.toNat) ⟨0, [], by simp [up, q0, ii, agree_up, agree_refl, openTo, Own]⟩ ?_
    rintro e' h' n' ⟨j, o, hj, ho, q9, q10, q11, hown, hag, hnn⟩
    simp only [] at q9 q10 q11 hown hag hnn
    have hol := open_len ho
    by_cases hlt : j < t.length
    · rcases ns_at e1 with ⟨h0, _⟩ | ⟨id, off, k, rfl, hk, ho', hat⟩
      · rw [h0] at hlt; simp at hlt
      have hr := hat j hlt
      have ha' := agree_at hn hk hag
      have hle : ∀ (X : Ctx) (h' : Heap), h' id = some ⟨k.cells, k.ver, false, k.esz⟩ → ldcs X h' (.p id k.ver (off + j * 6)) 0 6 = ncells t[j] := fun X h' e => ldcs_nd e hr
      have hw6 : off + (j * 6 + 6) ≤ k.cells.length := by omega
      have hw := wrap_nat (j := j) (by unfold big; omega)
      have hg : t.getD j nd0 = t[j] := by rw [List.getD_eq_getElem?_getD, List.getElem?_eq_getElem hlt]; rfl
      have hno := tree1_no hlt ho
      have hsu : openTo t (j + 1) = treeStep o t[j] j := by simp only [openTo, ho, Option.bind_some, hg]
      rw [hg] at hno
      have hid : id < n := lt_of hk hn
      have z1 : ¬ id = n' := by omega
      have f0 : n ≤ n' := hnn
      generalize t[j] = x at *
      obtain ⟨op, num, var, attr, xa, xb⟩ := x
      have hnb : ∀ (X : Ctx) (h'' : Heap), h'' n' = some ⟨[.v (.int .i64 op), .v (.int .i64 num), .v (.string var), .v (.string attr), .v (.int .i64 xa), .v (.int .i64 xb)], 0, true, 6⟩ → ldcs X h'' (.p n' 0 0) 0 6 = [.v (.int .i64 op), .v (.int .i64 num), .v (.string var), .v (.string attr), .v (.int .i64 xa), .v (.int .i64 xb)] := fun X h'' e => by simp [ldcs, ldc, e]
      have hdn : deN (.g [.v (.int .i64 op), .v (.int .i64 num), .v (.string var), .v (.string attr), .v (.int .i64 xa), .v (.int .i64 xb)]) = some ⟨op, num, var, attr, xa, xb⟩ := rfl
      try simp only [] at hno hsu
      have hb3 : (j + 1) * 8 ≤ 140737488355328 := by omega
      have hol2 : (o.map ii).length = o.length := List.length_map ..
      have hw0 : IntKind.i64.wrap 0 = 0 := rfl
      have hwn : ∀ m : Nat, m < big → IntKind.i64.wrap (m : Int) = m := fun m hm => by
        cases m with
        | zero => rfl
        | succ m => exact wrap_nat (by omega)
      have hbg : o.length < big := by unfold big; omega
      rcases arity_is op with har | har | har | har
      · have hf := hno (by simp [treeStep, har])
        simp [evs, aeval, binS, cx_ti, cx_G, cx_pf, cx_tw, ti, globS, glob, ldcs_1, ldcs_2, ldcs_3, ldcs_4, ldcs_5, ldcs_7, sls.eq_1, slc.eq_1, pfL, q9, q10, q11, ii, ss, hlt, ha', hle, hw6, tb70, g114, g115, pure1, deI, har, hf, bv, ncells]
      · have q3s : (∀ g, AV.unc g (e' 3) = e' 3) ∧ (e' 3).isS ∧ (e' 3).slen = o.length := by
          rcases hown with ⟨h0, hnil, q3⟩ | ⟨w, u, q3, hk3, hw1, hw2⟩
          · rw [q3]; exact ⟨fun _ => rfl, ⟨rfl, rfl⟩, h0.symm⟩
          · rw [q3]; exact ⟨fun _ => rfl, trivial, rfl⟩
        obtain ⟨q3a, q3b, q3c⟩ := q3s
        cases hfl : fieldsB ⟨op, num, var, attr, xa, xb⟩ with
        | false =>
          have hf := hno (by simp [treeStep, hfl])
          simp [evs, aeval, binS, cx_ti, cx_G, cx_pf, cx_tw, ti, globS, glob, ldcs_1, ldcs_2, ldcs_3, ldcs_4, ldcs_5, ldcs_7, sls.eq_1, slc.eq_1, pfL, q9, q10, q11, ii, ss, hlt, ha', hle, hnb, hdn, hw6, tb70, g114, g115, pure1, deI, har, bv, ncells, q3a, q3b, q3c, hfl, hf]
        | true =>
          by_cases hx1 : xa = -1
          · by_cases hx2 : xb = -1
            · subst hx1; subst hx2
              have hst : treeStep o ⟨op, num, var, attr, -1, -1⟩ j = some (o ++ [(j : Int)]) := by simp [treeStep, har, hfl, opA, opB]
              rcases hown with ⟨h0, hnil, q3⟩ | ⟨w, u, q3, hk3, hw1, hw2⟩
              · have ho0 : o = [] := List.length_eq_zero_iff.1 h0
                subst ho0
                have f1 : n ≤ n' + 2 := by omega
                have f2 : n ≤ n' + 3 := by omega
                simp [evs, aeval, binS, cx_ti, cx_G, cx_pf, cx_tw, ti, globS, glob, ldcs_1, ldcs_2, ldcs_3, ldcs_4, ldcs_5, ldcs_7, sls.eq_1, slc.eq_1, pfL, q3, q9, q10, q11, ii, ss, hlt, ha', hle, hnb, hdn, hw6, tb70, g114, g115, pure1, deI, har, bv, ncells, hfl, hw0, hw, agree_up, hag, f0, f1, f2]
                exact ⟨⟨j + 1, by omega, _, by rw [hsu, hst], by omega, .inr ⟨n' + 3, 0, rfl, by rw [up_same]; rfl, by omega, by omega⟩, by omega⟩, by omega⟩
              · have y1 : ¬ w = n' := by omega
                have y2 : ¬ w = n' + 2 := by omega
                have y3 : n ≤ w := hw1
                have f1 : n ≤ n' + 2 := by omega
                have hb4 : o.length ≤ 9223372036854775806 := by omega
                have hb5 : (o.length + 1) * 8 ≤ 140737488355328 := by omega
                simp [evs, aeval, binS, cx_ti, cx_G, cx_pf, cx_tw, ti, globS, glob, ldcs_1, ldcs_2, ldcs_3, ldcs_4, ldcs_5, ldcs_7, sls.eq_1, slc.eq_1, pfL, q3, q9, q10, q11, ii, ss, hlt, ha', hle, hnb, hdn, hw6, tb70, g114, g115, pure1, deI, har, bv, ncells, hfl, hw, hwn _ hbg, hk3, y1, y2, y3, agree_up, hag, f0, f1, hb4, hb5]
                exact ⟨⟨j + 1, by omega, _, by rw [hsu, hst], by omega, .inr ⟨w, u + 1, by simp, by rw [up_same]; simp [ii], by omega, by omega⟩, by omega⟩, by omega⟩
            · subst hx1
              have hf := hno (by simp [treeStep, opB, har, hx2])
              simp [evs, aeval, binS, cx_ti, cx_G, cx_pf, cx_tw, ti, globS, glob, ldcs_1, ldcs_2, ldcs_3, ldcs_4, ldcs_5, ldcs_7, sls.eq_1, slc.eq_1, pfL, q9, q10, q11, ii, ss, hlt, ha', hle, hnb, hdn, hw6, tb70, g114, g115, pure1, deI, har, bv, ncells, q3a, q3b, q3c, hfl, hf, hx2]
          · have hf := hno (by simp [treeStep, opA, har, hx1])
            simp [evs, aeval, binS, cx_ti, cx_G, cx_pf, cx_tw, ti, globS, glob, ldcs_1, ldcs_2, ldcs_3, ldcs_4, ldcs_5, ldcs_7, sls.eq_1, slc.eq_1, pfL, q9, q10, q11, ii, ss, hlt, ha', hle, hnb, hdn, hw6, tb70, g114, g115, pure1, deI, har, bv, ncells, q3a, q3b, q3c, hfl, hf, hx1]
      · by_cases hle1 : o.length < 1
        · have ho0 : o = [] := List.length_eq_zero_iff.1 (by omega)
          subst ho0
          have hf := hno (by simp [treeStep, har])
          have q3s : (∀ g, AV.unc g (e' 3) = e' 3) ∧ (e' 3).isS ∧ (e' 3).slen = 0 := by
            rcases hown with ⟨h0, hnil, q3⟩ | ⟨w, u, q3, hk3, hw1, hw2⟩
            · rw [q3]; exact ⟨fun _ => rfl, ⟨rfl, rfl⟩, rfl⟩
            · rw [q3]; exact ⟨fun _ => rfl, trivial, rfl⟩
          obtain ⟨q3a, q3b, q3c⟩ := q3s
          simp [evs, aeval, binS, cx_ti, cx_G, cx_pf, cx_tw, ti, globS, glob, ldcs_1, ldcs_2, ldcs_3, ldcs_4, ldcs_5, ldcs_7, sls.eq_1, slc.eq_1, pfL, q9, q10, q11, ii, ss, hlt, ha', hle, hw6, tb70, g114, g115, pure1, deI, har, hf, bv, ncells, q3a, q3b, q3c]
        obtain ⟨p, y, rfl⟩ : ∃ p y, o = p ++ [y] := ⟨o.dropLast, o.getLast (by intro h; subst h; simp at hle1), (List.dropLast_concat_getLast _).symm⟩
        have hln : (p ++ [y]).length = p.length + 1 := by simp
        have hz1 : (1 : Int) ≤ (p.length : Int) + 1 := by omega
        have hz2 : (p.length : Int) < (p.length : Int) + 1 := by omega
        have hz4 : (p.length : Int) ≤ (p.length : Int) + 1 := by omega
        have hgt : ¬ (p.length : Int) + 1 < 1 := by omega
        rcases hown with ⟨h0, hnil, q3⟩ | ⟨w, u, q3, hk3, hw1, hw2⟩
        · rw [hln] at h0; omega
        have y1 : ¬ w = n' := by omega
        have y2 : ¬ w = n' + 2 := by omega
        have y3 : n ≤ w := hw1
        have f1 : n ≤ n' + 2 := by omega
        have hpb : p.length < big := by omega
        have hb4 : p.length ≤ 9223372036854775806 := by omega
        have hb5 : (p.length + 1) * 8 ≤ 140737488355328 := by omega
        have hmap : (p ++ [y]).map ii = p.map ii ++ [ii y] := by simp
        have hpl : (p.map ii).length = p.length := List.length_map ..
        have hoA : opA (p ++ [y]) 1 = y := by simp [opA]
        have hoB : opB (p ++ [y]) 1 = -1 := by simp [opB]
        rw [hln] at q3
        rw [hmap] at hk3
        have hcut : cut p.length (p.map ii ++ [ii y]) = p.map ii := by rw [cut_take, List.take_append_of_le_length (by omega), List.take_of_length_le (by omega)]
        simp only [ii] at hcut
        generalize hcp : p.map ii = cp at *
        cases hfl : fieldsB ⟨op, num, var, attr, xa, xb⟩ with
        | false =>
          have hf := hno (by simp [treeStep, hfl])
          simp [evs, aeval, binS, cx_ti, cx_G, cx_pf, cx_tw, ti, globS, glob, ldcs_1, ldcs_2, ldcs_3, ldcs_4, ldcs_5, ldcs_7, sls.eq_1, slc.eq_1, pfL, q3, q9, q10, q11, ii, ss, hlt, ha', hle, hnb, hdn, hw6, tb70, g114, g115, pure1, deI, har, bv, ncells, hfl, hf, hz1, hz2, hz4, hgt]
        | true =>
          by_cases hx1 : xa = y
          · by_cases hx2 : xb = -1
            · subst hx1; subst hx2
              have hst : treeStep (p ++ [xa]) ⟨op, num, var, attr, xa, -1⟩ j = some (p ++ [(j : Int)]) := by simp [treeStep, har, hfl, hoA, hoB]; omega
              simp [evs, aeval, binS, cx_ti, cx_G, cx_pf, cx_tw, ti, globS, glob, ldcs_1, ldcs_2, ldcs_3, ldcs_4, ldcs_5, ldcs_7, sls.eq_1, slc.eq_1, pfL, q3, q9, q10, q11, ii, ss, hlt, ha', hle, hnb, hdn, hw6, tb70, g114, g115, pure1, deI, har, bv, ncells, hfl, hw, hwn _ hpb, hk3, hpl, y1, y2, y3, agree_up, hag, f0, f1, hb4, hb5, hcut, hz1, hz2, hz4, hgt]
              exact ⟨⟨j + 1, by omega, _, by rw [hsu, hst], by omega, .inr ⟨w, u + 1, by simp, by rw [up_same, ← hcp]; simp [ii], by omega, by omega⟩, by omega⟩, by omega⟩
            · subst hx1
              have hf := hno (by simp [treeStep, har, hoA, hoB, hx2])
              simp [evs, aeval, binS, cx_ti, cx_G, cx_pf, cx_tw, ti, globS, glob, ldcs_1, ldcs_2, ldcs_3, ldcs_4, ldcs_5, ldcs_7, sls.eq_1, slc.eq_1, pfL, q3, q9, q10, q11, ii, ss, hlt, ha', hle, hnb, hdn, hw6, tb70, g114, g115, pure1, deI, har, bv, ncells, hfl, hf, hx2, hwn _ hpb, hk3, hpl, y1, hz1, hz2, hz4, hgt]
          · have hf := hno (by simp [treeStep, har, hoA, hx1])
            simp [evs, aeval, binS, cx_ti, cx_G, cx_pf, cx_tw, ti, globS, glob, ldcs_1, ldcs_2, ldcs_3, ldcs_4, ldcs_5, ldcs_7, sls.eq_1, slc.eq_1, pfL, q3, q9, q10, q11, ii, ss, hlt, ha', hle, hnb, hdn, hw6, tb70, g114, g115, pure1, deI, har, bv, ncells, hfl, hf, hx1, hwn _ hpb, hk3, hpl, y1, hz1, hz2, hz4, hgt]
      · by_cases hle1 : o.length < 2
        · have hf := hno (by simp [treeStep, har]; omega)
          have q3s : (∀ g, AV.unc g (e' 3) = e' 3) ∧ (e' 3).isS ∧ (e' 3).slen = o.length := by
            rcases hown with ⟨h0, hnil, q3⟩ | ⟨w, u, q3, hk3, hw1, hw2⟩
            · rw [q3]; exact ⟨fun _ => rfl, ⟨rfl, rfl⟩, h0.symm⟩
            · rw [q3]; exact ⟨fun _ => rfl, trivial, rfl⟩
          obtain ⟨q3a, q3b, q3c⟩ := q3s
          have hle2 : (o.length : Int) < 2 := by omega
          simp [evs, aeval, binS, cx_ti, cx_G, cx_pf, cx_tw, ti, globS, glob, ldcs_1, ldcs_2, ldcs_3, ldcs_4, ldcs_5, ldcs_7, sls.eq_1, slc.eq_1, pfL, q9, q10, q11, ii, ss, hlt, ha', hle, hw6, tb70, g114, g115, pure1, deI, har, hf, bv, ncells, q3a, q3b, q3c, hle2]
        obtain ⟨p, y, z, rfl⟩ : ∃ p y z, o = p ++ [y, z] := by
          obtain ⟨p1, z, rfl⟩ : ∃ p y, o = p ++ [y] := ⟨o.dropLast, o.getLast (by intro h; subst h; simp at hle1), (List.dropLast_concat_getLast _).symm⟩
          obtain ⟨p, y, rfl⟩ : ∃ p y, p1 = p ++ [y] := ⟨p1.dropLast, p1.getLast (by intro h; subst h; simp at hle1), (List.dropLast_concat_getLast _).symm⟩
          exact ⟨p, y, z, by simp⟩
        have hln : (p ++ [y, z]).length = p.length + 2 := by simp
        have hwq : IntKind.i64.wrap ((p.length : Int) + 2 - 1) = p.length + 1 := by
          have := hwn (p.length + 1) (by omega)
          rw [show ((p.length : Int) + 2 - 1) = ((p.length + 1 : Nat) : Int) by omega, this]; omega
        have hz1 : (2 : Int) ≤ (p.length : Int) + 2 := by omega
        have hz2 : (p.length : Int) < (p.length : Int) + 2 := by omega
        have hz4 : (p.length : Int) ≤ (p.length : Int) + 2 := by omega
        have hz3 : (0 : Int) ≤ (p.length : Int) + 1 := by omega
        have hgt : ¬ (p.length : Int) + 2 < 2 := by omega
        rcases hown with ⟨h0, hnil, q3⟩ | ⟨w, u, q3, hk3, hw1, hw2⟩
        · rw [hln] at h0; omega
        have y1 : ¬ w = n' := by omega
        have y2 : ¬ w = n' + 2 := by omega
        have y3 : n ≤ w := hw1
        have f1 : n ≤ n' + 2 := by omega
        have hpb : p.length < big := by omega
        have hb4 : p.length ≤ 9223372036854775806 := by omega
        have hb5 : (p.length + 1) * 8 ≤ 140737488355328 := by omega
        have hmap : (p ++ [y, z]).map ii = p.map ii ++ [ii y, ii z] := by simp
        have hpl : (p.map ii).length = p.length := List.length_map ..
        have hoA : opA (p ++ [y, z]) 2 = y := by simp [opA]
        have hoB : opB (p ++ [y, z]) 2 = z := by simp [opB]
        rw [hln] at q3
        rw [hmap] at hk3
        have hcut : cut p.length (p.map ii ++ [ii y, ii z]) = p.map ii := by rw [cut_take, List.take_append_of_le_length (by omega), List.take_of_length_le (by omega)]
        simp only [ii] at hcut
        generalize hcp : p.map ii = cp at *
        cases hfl : fieldsB ⟨op, num, var, attr, xa, xb⟩ with
        | false =>
          have hf := hno (by simp [treeStep, hfl])
          simp [evs, aeval, binS, cx_ti, cx_G, cx_pf, cx_tw, ti, globS, glob, ldcs_1, ldcs_2, ldcs_3, ldcs_4, ldcs_5, ldcs_7, sls.eq_1, slc.eq_1, pfL, q3, q9, q10, q11, ii, ss, hlt, ha', hle, hnb, hdn, hw6, tb70, g114, g115, pure1, deI, har, bv, ncells, hfl, hf, hwq, hgt, hz1, hz2, hz3, hz4]
        | true =>
          by_cases hx1 : xa = y
          · by_cases hx2 : xb = z
            · subst hx1; subst hx2
              have hst : treeStep (p ++ [xa, xb]) ⟨op, num, var, attr, xa, xb⟩ j = some (p ++ [(j : Int)]) := by simp [treeStep, har, hfl, hoA, hoB]; omega
              simp [evs, aeval, binS, cx_ti, cx_G, cx_pf, cx_tw, ti, globS, glob, ldcs_1, ldcs_2, ldcs_3, ldcs_4, ldcs_5, ldcs_7, sls.eq_1, slc.eq_1, pfL, q3, q9, q10, q11, ii, ss, hlt, ha', hle, hnb, hdn, hw6, tb70, g114, g115, pure1, deI, har, bv, ncells, hfl, hw, hwn _ hpb, hk3, hpl, y1, y2, y3, agree_up, hag, f0, f1, hb4, hb5, hcut, hwq, hgt, hz1, hz2, hz3, hz4]
              exact ⟨⟨j + 1, by omega, _, by rw [hsu, hst], by omega, .inr ⟨w, u + 1, by simp, by rw [up_same, ← hcp]; simp [ii], by omega, by omega⟩, by omega⟩, by omega⟩
            · subst hx1
              have hf := hno (by simp [treeStep, har, hoA, hoB, hx2])
              simp [evs, aeval, binS, cx_ti, cx_G, cx_pf, cx_tw, ti, globS, glob, ldcs_1, ldcs_2, ldcs_3, ldcs_4, ldcs_5, ldcs_7, sls.eq_1, slc.eq_1, pfL, q3, q9, q10, q11, ii, ss, hlt, ha', hle, hnb, hdn, hw6, tb70, g114, g115, pure1, deI, har, bv, ncells, hfl, hf, hx2, hwn _ hpb, hk3, hpl, y1, hwq, hgt, hz1, hz2, hz3, hz4]
          · have hf := hno (by simp [treeStep, har, hoA, hx1])
            simp [evs, aeval, binS, cx_ti, cx_G, cx_pf, cx_tw, ti, globS, glob, ldcs_1, ldcs_2, ldcs_3, ldcs_4, ldcs_5, ldcs_7, sls.eq_1, slc.eq_1, pfL, q3, q9, q10, q11, ii, ss, hlt, ha', hle, hnb, hdn, hw6, tb70, g114, g115, pure1, deI, har, bv, ncells, hfl, hf, hx1, hwn _ hpb, hk3, hpl, y1, hwq, hgt, hz1, hz2, hz3, hz4]
    · obtain rfl : j = t.length := by omega
      have hf : tree1 t = decide (o.length = 1) := by simp only [tree1, ho]
      rcases hown with ⟨h0, hnil, q3⟩ | ⟨w, u, q3, hk3, hw1, hw2⟩
      · rw [h0] at hf
        simp [evs, aeval, binS, cx_ti, cx_G, cx_pf, cx_tw, ti, globS, glob, ldcs_1, ldcs_2, ldcs_3, ldcs_4, ldcs_5, ldcs_7, sls.eq_1, slc.eq_1, pfL, q3, q9, q10, q11, ii, hf, bv]
      · have hdd : ((o.length : Int) == 1) = decide (o.length = 1) := by rw [Bool.eq_iff_iff]; simp; omega
        simp [evs, aeval, binS, cx_ti, cx_G, cx_pf, cx_tw, ti, globS, glob, ldcs_1, ldcs_2, ldcs_3, ldcs_4, ldcs_5, ldcs_7, sls.eq_1, slc.eq_1, pfL, q3, q9, q10, q11, ii, hf, bv, hdd]
  exact key _ rfl
end Go.Proofs.YtkfphaphiikloaaDoor
