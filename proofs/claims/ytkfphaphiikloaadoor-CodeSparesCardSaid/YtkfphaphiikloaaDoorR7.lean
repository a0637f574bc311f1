/-
  CodeSpares: two programs share nothing: THE ROW AND ITS CARD.
-/
import Derived.Test.YtkfphaphiikloaaDoorX16
import Derived.Test.YtkfphaphiikloaaDoorX36
import Derived.Test.YtkfphaphiikloaaDoorCards
import Derived.Test.YtkfphaphiikloaaDoorTie
import Derived.SevenTiedAt
set_option linter.unusedSimpArgs false
set_option linter.unusedVariables false
set_option linter.constructorNameAsVariable false
namespace Go.Proofs.YtkfphaphiikloaaDoor
open Go Go.Eng Go.RowKit Go.ChangeShapes Go.WideShapes Go.ChangeAt

theorem w8_of {v : Eq38} (h1 : v.sc.length * 40 ≤ reachBytes) (h2 : ∀ t ∈ v.sc, t.attrs.length * 16 ≤ reachBytes) (h3 : QuOk0 v.q) (h4 : v.t.length * 64 ≤ reachBytes) (h5 : ∀ x ∈ v.t, Rng x.n) (h6 : EnOk0 v.en) : W8 v := by
  have hr : reachBytes = 140737488351232 := rfl
  have k1 := h3.items
  have k2 := h3.wh
  have k3 := h3.ret
  have k4 := h6.ls
  rw [hr] at h1 h4 k1 k2 k3 k4
  refine ⟨by omega, fun t ht => ?_, by omega, by unfold smallT; omega, by unfold big; omega, fun t ht => ?_, by omega, h5, by omega, fun l hl => ?_, h6.ev, h6.pos⟩
  · have := h2 t ht; rw [hr] at this; omega
  · have := h3.rets t ht; rw [hr] at this; unfold smallT; omega
  · have := h6.len l hl; rw [hr] at this; omega
set_option maxRecDepth 100000 in
theorem lifted7 (os : Os) (started : os.Started) (H : Type) (enc : TypeId × Value → H) :
    ReturnsInHanded {} Tryd.checked os 7 .any (fun w args => (Rows.codeSparesSpec.pre enc Tryd.prog Tryd.f7 [] false w args ∧ laidMetH Tryd.prog Rows.codeSparesRow.laid w) ∧ sizedMet enc Tryd.prog Tryd.f7 (OpenSpec.ofChange Rows.codeSparesSpec) false w args)
      (Rows.codeSparesSpec.post enc Tryd.prog Tryd.f7 false true false false) := by
  refine returnsInHanded_of_change_and (C := Tryd.checked) (X := fun w _ => laidMetH Tryd.prog Rows.codeSparesRow.laid w) (fun _ _ _ hh h => h.of_heap hh) (by kernel_rfl) started (by kernel_rfl) Tryd.func7
    (ChangeSpec.witness_shaped (enc := enc) (C := Tryd.checked) (os := os) (X := fun w _ => laidMetH Tryd.prog Rows.codeSparesRow.laid w) false (World.doorLaid Tryd.prog 400 os) #[.agg #[.slice none 0 0], .agg #[.slice none 0 0, .int .i64 0, .int .i64 0, .slice none 0 0, .int .i64 0, .string ByteArray.empty, .slice none 0 0], .slice none 0 0, .agg #[.slice none 0 0, .int .i64 0, .int .i64 0]] 8 rfl (World.shaped_of_RefB (by kernel_rfl) (by kernel_rfl)) (by kernel_rfl) (by kernel_rfl) (by kernel_rfl)
      (laidMetH_of_parts3 (fuel := 8) (laidMet_of_run' 8 (by kernel_rfl) (by kernel_rfl)) (by kernel_rfl) (by kernel_rfl))) ?_
  intro W base args ds gs before hval0 hW _ hsz hL _
  have hval : ∀ (j : Nat) t v, Tryd.f7.params[j]? = some t → args[j]? = some v → Value.okWide Tryd.prog W .any base t v := hval0
  have hW' := hW
  obtain ⟨p, q, hA0, hV, rfl, hfz, hnd⟩ := hW
  have hA : DataW.TrodAll enc Tryd.prog W 0 (fun _ => true) true Tryd.f7.params.toList args.toList ds p := hA0
  obtain ⟨args⟩ := args
  rw [Tryd.params7] at hA hval
  simp only [] at hA
  obtain ⟨v0, vs0, d0, ds0, p0, q0, e0, e0_, e0__, h0, hA0⟩ := ChangeShapes.trodAll_cons hA
  obtain ⟨v1, vs1, d1, ds1, p1, q1, e1, e1_, e1__, h1, hA1⟩ := ChangeShapes.trodAll_cons hA0
  obtain ⟨v2, vs2, d2, ds2, p2, q2, e2, e2_, e2__, h2, hA2⟩ := ChangeShapes.trodAll_cons hA1
  obtain ⟨v3, vs3, d3, ds3, p3, q3, e3, e3_, e3__, h3, hA3⟩ := ChangeShapes.trodAll_cons hA2
  obtain ⟨en, en_, en__⟩ := trodAll_nil hA3
  subst en en_ en__ e3 e3_ e3__ e2 e2_ e2__ e1 e1_ e1__ e0 e0_ e0__
  obtain ⟨rfl, rfl⟩ := trodVars_none hV
  obtain ⟨ρ0, hp0, m0, l0, x0, le0, lh0, _, hb0, vr0, dec0, ok0⟩ := open_agg opens_24 Tryd.underlying24 (hval 0 24 v0 rfl rfl) h0 (weights_of (ts := Tryd.f7.params.toList) hsz (j := 0) rfl rfl) (fun _ _ => none) (fun _ => none) 0 (Blks.nil W)
  obtain ⟨ρ1, hp1, m1, l1, x1, le1, lh1, _, hb1, vr1, dec1, ok1⟩ := open_agg opens_31 Tryd.underlying31 (hval 1 31 v1 rfl rfl) h1 (weights_of (ts := Tryd.f7.params.toList) hsz (j := 1) rfl rfl) ρ0 hp0 m0 hb0
  obtain ⟨ρ2, hp2, m2, a2, x2, le2, lh2, _, hb2, vr2, dec2, ok2⟩ := open_cell opens_28 Tryd.underlying28 (.inr (.inr (.inr ⟨_, rfl⟩))) (hval 2 28 v2 rfl rfl) h2 (weights_of (ts := Tryd.f7.params.toList) hsz (j := 2) rfl rfl) ρ1 hp1 m1 hb1
  obtain ⟨ρ3, hp3, m3, l3, x3, le3, lh3, _, hb3, vr3, dec3, ok3⟩ := open_agg opens_49 Tryd.underlying49 (hval 3 49 v3 rfl rfl) h3 (weights_of (ts := Tryd.f7.params.toList) hsz (j := 3) rfl rfl) ρ2 hp2 m2 hb2
  obtain ⟨sa, hsa, k0⟩ := deSc_out (show deSc hp0 (.g l0) = some x0 from dec0)
  obtain ⟨qa, qb, qc, hqa, k1, k2, k3⟩ := deQ_out (show deQ hp1 (.g l1) = some x1 from dec1)
  obtain ⟨la, hla, k4⟩ := dEn_out dec3
  rw [hsa] at vr0
  rw [hqa] at vr1
  rw [hla] at vr3
  have i12 := fun i k e => lh3 i k (lh2 i k e)
  have i02 := fun i k e => i12 i k (lh1 i k e)
  have hc := law_callsZ tbl7_ok Tryd.func7 rfl (k := 4) (by kernel_rfl) (args := [.g [sa], .g [qa, .v (.int .i64 x1.mode), .v (.int .i64 x1.after), qb, .v (.int .i64 x1.within), .v (.string x1.par), qc], a2, .g [la, .v (.int .i64 x3.each), .v (.int .i64 x3.pos)]]) rfl
    (law7 (v := ⟨x0, x1, x2, x3⟩) (h := hp3) (n := m3) (rd_mono i02 k0) (rd_mono i12 k1) (rd_mono i12 k2) (rd_mono i12 k3) (rd_mono lh3 dec2) k4 (w8_of ok0.1 ok0.2 ok1 ok2.1 ok2.2 ok3) (fun i hi => (hb3.free i hi).2)) (ro_of2 (W := W) (S := S8) (pf := pfL tbl7) hb3 fun g hg => by
    simp only [S8, List.mem_cons, List.not_mem_nil, or_false] at hg
    rcases hg with rfl | rfl | rfl | rfl | rfl | rfl | rfl | rfl
    · exact at0 hL (by kernel_rfl) (by simp [Rows.codeSparesRow])
    · exact at1 hL (by kernel_rfl) (by simp [Rows.codeSparesRow])
    · exact at2 hL (by kernel_rfl) (by simp [Rows.codeSparesRow])
    · exact at3 hL (by kernel_rfl) (by simp [Rows.codeSparesRow])
    · exact at4 hL (by kernel_rfl) (by simp [Rows.codeSparesRow])
    · exact at5 hL (by kernel_rfl) (by simp [Rows.codeSparesRow])
    · exact at6 hL (by kernel_rfl) (by simp [Rows.codeSparesRow])
    · exact at7 hL (by kernel_rfl) (by simp [Rows.codeSparesRow])
    ) hb3.free (VRs_cons (VR.mono (fun i v b e => le3 i v b (le2 i v b (le1 i v b e))) _ _ vr0) (VRs_cons (VR.mono (fun i v b e => le3 i v b (le2 i v b e)) _ _ vr1) (VRs_cons (VR.mono le3 _ _ vr2) (VRs_cons vr3 (VRs_nil _)))))
  refine hc.mono fun e W' ⟨he, hb⟩ => ⟨_, he, post_true hW' rfl (by kernel_rfl) rfl rfl hb⟩

theorem row7 : Rows.CodeSparesSaid :=
  OpenClaim.holds_of_wide 7 Tryd.f7 rfl rfl rfl rfl rfl rfl rfl ⟨rfl, rfl, rfl, rfl, rfl⟩ rfl rfl rfl rfl rfl (by kernel_rfl) Tryd.func7 (by kernel_rfl)
    (of_decide_eq_true (by kernel_rfl)) (by unfold Func.isWrapper; first | (rw [if_pos (by decide +kernel)]; kernel_rfl) | (rw [if_neg (by decide +kernel)]; exact ⟨rfl, rfl⟩))
    (fun os started H enc _ => lifted7 os started H enc)

theorem codeSpares_card : Rows.CodeSparesCardSaid :=
  Claim7.holds_tied_plain_at .later [] [.data, .data, .data, .data, .data, .data, .data, .data] true (true, "7268a66df8f3d9c3319583cb0c5c8d1dc7489b957e019c3a90e18d72b597e655") false
    row7 (fun _ h => by cases h) (by kernel_rfl) (fun _ h => by cases h) codeSpares_row_tie rfl ⟨rfl, rfl⟩ (by kernel_rfl) rfl
    (fun f fn hf hfn => by
      obtain rfl : f = 7 := Option.some.inj ((show Tryd.prog.funcNamed Rows.codeSparesRow.func = some 7 by kernel_rfl).symm.trans hf) |>.symm
      obtain rfl : fn = Tryd.f7 := (Option.some.inj (Tryd.func7.symm.trans hfn)).symm
      exact ⟨by kernel_rfl, fun j t ht => by
        have hm : t ∈ Tryd.f7.params.toList := by simpa using Array.mem_of_getElem? ht
        have hall : (Tryd.f7.params.toList.all fun u => !Tryd.prog.wantsStandIn u) = true := by kernel_rfl
        exact (show Tryd.prog.wantsStandIn t = false by simpa using List.all_eq_true.1 hall t hm)⟩)
    (by kernel_rfl)
#print axioms codeSpares_card
end Go.Proofs.YtkfphaphiikloaaDoor
