/-
  CodeSkips, where what it reads is of bulk at most 1048576: where the left side decides, the right side's instructions may be anything: THE ROW AND ITS CARD.
-/
import Derived.Test.YtkfphaphiikloaaDoorX20
import Derived.Test.YtkfphaphiikloaaDoorX38
import Derived.Test.YtkfphaphiikloaaDoorCards
import Derived.Test.YtkfphaphiikloaaDoorTie
import Derived.SevenTiedAt
import Derived.JoinedCond
set_option linter.unusedSimpArgs false
set_option linter.unusedVariables false
set_option linter.constructorNameAsVariable false
namespace Go.Proofs.YtkfphaphiikloaaDoor
open Go Go.Eng Go.RowKit Go.ChangeShapes Go.WideShapes Go.ChangeAt

theorem w9_of {v : Eq9} (h1 : v.sc.length * 40 ≤ reachBytes) (h2 : ∀ t ∈ v.sc, t.attrs.length * 16 ≤ reachBytes) (h3 : QuOk0 v.q) (h4 : v.a.length ≤ 1048576) (h4' : v.b.length ≤ 1048576) (h5 : ∀ x ∈ v.a, Rng x.n) (h5' : ∀ x ∈ v.b, Rng x.n) (h6 : EnOk0 v.en) : W9 v := by
  have hr : reachBytes = 140737488351232 := rfl
  have k1 := h3.items
  have k2 := h3.wh
  have k3 := h3.ret
  have k4 := h6.ls
  rw [hr] at h1 k1 k2 k3 k4
  refine ⟨by omega, fun t ht => ?_, by omega, by unfold smallT; omega, by unfold big; omega, fun t ht => ?_, Nat.le_trans (Nat.mul_le_mul_right 64 (show v.a.length + v.b.length + 1 ≤ 2097153 by omega)) (by decide), h5, h5', by omega, fun l hl => ?_, h6.ev, h6.pos⟩
  · have := h2 t ht; rw [hr] at this; omega
  · have := h3.rets t ht; rw [hr] at this; unfold smallT; omega
  · have := h6.len l hl; rw [hr] at this; omega
def args10 : Array Value := #[.agg #[.slice none 0 0], .agg #[.slice none 0 0, .int .i64 0, .int .i64 0, .slice none 0 0, .int .i64 0, .string ByteArray.empty, .slice none 0 0], .bool false, .slice none 0 0, .slice none 0 0, .agg #[.slice none 0 0, .int .i64 0, .int .i64 0]]
theorem reads10 (os : Os) {H : Type} (enc : TypeId × Value → H) : ∃ places, DataW.whole enc Tryd.prog (((World.doorLaid Tryd.prog 400 os)).forCall (fun _ _ => 0) ⟨#[], args10, []⟩).memory Tryd.f10.params.toList Rows.codeSkipsSpec.vars false args10.toList 8 = some ([.agg [.nil], .agg [.nil, .lit (.int .i64 0), .lit (.int .i64 0), .nil, .lit (.int .i64 0), .lit (.string []), .nil], .lit (.bool false), .nil, .nil, .agg [.nil, .lit (.int .i64 0), .lit (.int .i64 0)]], [], places) := ⟨[], by kernel_rfl⟩
set_option maxRecDepth 100000 in
theorem lifted10 (os : Os) (started : os.Started) (H : Type) (enc : TypeId × Value → H) (F : Stop.Interp) :
    ReturnsInHanded {} Tryd.checked os 10 .any ((Rows.OpenSpec.upto Rows.codeSkipsSpec).preRow enc Tryd.prog Tryd.f10 Rows.codeSkipsUptoRow.domain false Rows.codeSkipsUptoRow.laid) (((Rows.OpenSpec.upto Rows.codeSkipsSpec).at F).post enc Tryd.prog Tryd.f10 false true false false) := by
  obtain ⟨places, hx⟩ := reads10 os enc
  refine returnsInHanded_of_row (C := Tryd.checked) (s := Rows.OpenSpec.upto Rows.codeSkipsSpec) (by kernel_rfl) started (by kernel_rfl) Tryd.func10
    (witness_rowS (enc := enc) (C := Tryd.checked) (os := os) false (World.doorLaid Tryd.prog 400 os) args10 rfl (World.shaped_of_RefB (by kernel_rfl) (by kernel_rfl)) (by kernel_rfl)
      (OpenSpec.preRow_of_cond 8 hx (by kernel_rfl) (fun k hk => by cases hk; kernel_rfl) (by kernel_rfl) (laidMetH_of_parts3 (fuel := 8) (laidMet_of_run' 8 (by kernel_rfl) (by kernel_rfl)) (by kernel_rfl) (by kernel_rfl)))) ?_
  intro W base args ds gs before hval0 hW _ hcond hsz hL _ _
  have hval : ∀ (j : Nat) t v, Tryd.f10.params[j]? = some t → args[j]? = some v → Value.okWide Tryd.prog W .any base t v := hval0
  have hW' := hW
  obtain ⟨p, q, hA0, hV, rfl, hfz, hnd⟩ := hW
  have hA : DataW.TrodAll enc Tryd.prog W 0 (fun _ => true) true Tryd.f10.params.toList args.toList ds p := hA0
  obtain ⟨args⟩ := args
  rw [Tryd.params10] at hA hval
  simp only [] at hA
  obtain ⟨v0, vs0, d0, ds0, p0, q0, e0, e0_, e0__, h0, hA0⟩ := ChangeShapes.trodAll_cons hA
  obtain ⟨v1, vs1, d1, ds1, p1, q1, e1, e1_, e1__, h1, hA1⟩ := ChangeShapes.trodAll_cons hA0
  obtain ⟨v2, vs2, d2, ds2, p2, q2, e2, e2_, e2__, h2, hA2⟩ := ChangeShapes.trodAll_cons hA1
  obtain ⟨v3, vs3, d3, ds3, p3, q3, e3, e3_, e3__, h3, hA3⟩ := ChangeShapes.trodAll_cons hA2
  obtain ⟨v4, vs4, d4, ds4, p4, q4, e4, e4_, e4__, h4, hA4⟩ := ChangeShapes.trodAll_cons hA3
  obtain ⟨v5, vs5, d5, ds5, p5, q5, e5, e5_, e5__, h5, hA5⟩ := ChangeShapes.trodAll_cons hA4
  obtain ⟨en, en_, en__⟩ := trodAll_nil hA5
  subst en en_ en__ e5 e5_ e5__ e4 e4_ e4__ e3 e3_ e3__ e2 e2_ e2__ e1 e1_ e1__ e0 e0_ e0__
  obtain ⟨rfl, rfl⟩ := trodVars_none hV
  have hbulk : Rows.uptoBulkAll [d0, d1, d2, d3, d4, d5] ≤ 1048576 := of_decide_eq_true (hcond _ rfl)
  obtain ⟨ρ0, hp0, m0, l0, x0, le0, lh0, _, hb0, vr0, dec0, ok0⟩ := open_agg opens_24 Tryd.underlying24 (hval 0 24 v0 rfl rfl) h0 (weights_of (ts := Tryd.f10.params.toList) hsz (j := 0) rfl rfl) (fun _ _ => none) (fun _ => none) 0 (Blks.nil W)
  obtain ⟨ρ1, hp1, m1, l1, x1, le1, lh1, _, hb1, vr1, dec1, ok1⟩ := open_agg opens_31 Tryd.underlying31 (hval 1 31 v1 rfl rfl) h1 (weights_of (ts := Tryd.f10.params.toList) hsz (j := 1) rfl rfl) ρ0 hp0 m0 hb0
  obtain ⟨x2, rfl, _, _⟩ := open_bool Tryd.underlying4 (hval 2 4 v2 rfl rfl) h2
  obtain ⟨ρ3, hp3, m3, a3, x3, le3, lh3, _, hb3, vr3, dec3, ok3⟩ := open_cell opens_28 Tryd.underlying28 (.inr (.inr (.inr ⟨_, rfl⟩))) (hval 3 28 v3 rfl rfl) h3 (weights_of (ts := Tryd.f10.params.toList) hsz (j := 3) rfl rfl) ρ1 hp1 m1 hb1
  obtain ⟨ρ4, hp4, m4, a4, x4, le4, lh4, _, hb4, vr4, dec4, ok4⟩ := open_cell opens_28 Tryd.underlying28 (.inr (.inr (.inr ⟨_, rfl⟩))) (hval 4 28 v4 rfl rfl) h4 (weights_of (ts := Tryd.f10.params.toList) hsz (j := 4) rfl rfl) ρ3 hp3 m3 hb3
  obtain ⟨ρ5, hp5, m5, l5, x5, le5, lh5, _, hb5, vr5, dec5, ok5⟩ := open_agg opens_49 Tryd.underlying49 (hval 5 49 v5 rfl rfl) h5 (weights_of (ts := Tryd.f10.params.toList) hsz (j := 5) rfl rfl) ρ4 hp4 m4 hb4
  have hn3 := nodes_bulk h3 vr3 dec3
  have hn4 := nodes_bulk h4 vr4 dec4
  have hl3 : x3.length ≤ 1048576 := Nat.le_trans (Nat.le_trans hn3 (bulk_part (by simp))) hbulk
  have hl4 : x4.length ≤ 1048576 := Nat.le_trans (Nat.le_trans hn4 (bulk_part (by simp))) hbulk
  obtain ⟨sa, hsa, k0⟩ := deSc_out (show deSc hp0 (.g l0) = some x0 from dec0)
  obtain ⟨qa, qb, qc, hqa, k1, k2, k3⟩ := deQ_out (show deQ hp1 (.g l1) = some x1 from dec1)
  obtain ⟨la, hla, k4⟩ := dEn_out dec5
  rw [hsa] at vr0
  rw [hqa] at vr1
  rw [hla] at vr5
  have i45 := fun i k e => lh5 i k (lh4 i k e)
  have i15 := fun i k e => i45 i k (lh3 i k e)
  have i05 := fun i k e => i15 i k (lh1 i k e)
  have hc := law_calls tbl10_ok Tryd.func10 rfl (k := 6) (by kernel_rfl) (args := [.g [sa], .g [qa, .v (.int .i64 x1.mode), .v (.int .i64 x1.after), qb, .v (.int .i64 x1.within), .v (.string x1.par), qc], bv x2, a3, a4, .g [la, .v (.int .i64 x5.each), .v (.int .i64 x5.pos)]]) rfl
    (law10 (o := x2) (v := ⟨x0, x1, x3, x4, x5⟩) (h := hp5) (n := m5) (rd_mono i05 k0) (rd_mono i15 k1) (rd_mono i15 k2) (rd_mono i15 k3) (rd_mono i45 dec3) (rd_mono lh5 dec4) k4 (w9_of ok0.1 ok0.2 ok1 hl3 hl4 ok3.2 ok4.2 ok5) (fun i hi => (hb5.free i hi).2)) (ro_of2 (W := W) (S := S8) (pf := pfL tbl10) hb5 fun g hg => by
    simp only [S8, List.mem_cons, List.not_mem_nil, or_false] at hg
    rcases hg with rfl | rfl | rfl | rfl | rfl | rfl | rfl | rfl
    · exact at0 hL (by kernel_rfl) (by simp [Rows.codeSkipsUptoRow])
    · exact at1 hL (by kernel_rfl) (by simp [Rows.codeSkipsUptoRow])
    · exact at2 hL (by kernel_rfl) (by simp [Rows.codeSkipsUptoRow])
    · exact at3 hL (by kernel_rfl) (by simp [Rows.codeSkipsUptoRow])
    · exact at4 hL (by kernel_rfl) (by simp [Rows.codeSkipsUptoRow])
    · exact at5 hL (by kernel_rfl) (by simp [Rows.codeSkipsUptoRow])
    · exact at6 hL (by kernel_rfl) (by simp [Rows.codeSkipsUptoRow])
    · exact at7 hL (by kernel_rfl) (by simp [Rows.codeSkipsUptoRow])
    ) hb5.free (VRs_cons (VR.mono (fun i v b e => le5 i v b (le4 i v b (le3 i v b (le1 i v b e)))) _ _ vr0) (VRs_cons (VR.mono (fun i v b e => le5 i v b (le4 i v b (le3 i v b e))) _ _ vr1) (VRs_cons (show VR ρ5 (.v (.bool x2)) (.bool x2) by simp only [VR]) (VRs_cons (VR.mono (fun i v b e => le5 i v b (le4 i v b e)) _ _ vr3) (VRs_cons (VR.mono le5 _ _ vr4) (VRs_cons vr5 (VRs_nil _)))))))
  refine hc.mono fun e W' ⟨he, hb⟩ => ⟨_, he, post_true hW' rfl (by kernel_rfl) rfl rfl hb⟩

theorem row10 : Rows.CodeSkipsUptoSaid :=
  OpenClaim.holds_of_cond 10 Tryd.f10 rfl rfl rfl rfl rfl rfl rfl ⟨rfl, rfl, rfl, rfl, rfl⟩ rfl rfl rfl rfl rfl (by kernel_rfl) Tryd.func10 (by kernel_rfl)
    (of_decide_eq_true (by kernel_rfl)) (by unfold Func.isWrapper; first | (rw [if_pos (by decide +kernel)]; kernel_rfl) | (rw [if_neg (by decide +kernel)]; exact ⟨rfl, rfl⟩))
    (fun os started H enc _ F => by rw [OpenClaim.pre_eq_preRow]; exact lifted10 os started H enc F)

theorem codeSkipsUpto_card : Rows.CodeSkipsUptoCardSaid :=
  Claim7.holds_tied_plain_at .later [] [.data, .data, .data, .data, .data, .data, .data, .data] true (true, "7268a66df8f3d9c3319583cb0c5c8d1dc7489b957e019c3a90e18d72b597e655") false
    row10 (fun _ h => by cases h) (by kernel_rfl) (fun _ h => by cases h) codeSkipsUpto_row_tie rfl ⟨rfl, rfl⟩ (by kernel_rfl) rfl
    (fun f fn hf hfn => by
      obtain rfl : f = 10 := Option.some.inj ((show Tryd.prog.funcNamed Rows.codeSkipsUptoRow.func = some 10 by kernel_rfl).symm.trans hf) |>.symm
      obtain rfl : fn = Tryd.f10 := (Option.some.inj (Tryd.func10.symm.trans hfn)).symm
      exact ⟨by kernel_rfl, fun j t ht => by
        have hm : t ∈ Tryd.f10.params.toList := by simpa using Array.mem_of_getElem? ht
        have hall : (Tryd.f10.params.toList.all fun u => !Tryd.prog.wantsStandIn u) = true := by kernel_rfl
        exact (show Tryd.prog.wantsStandIn t = false by simpa using List.all_eq_true.1 hall t hm)⟩)
    (by kernel_rfl)
#print axioms codeSkipsUpto_card
end Go.Proofs.YtkfphaphiikloaaDoor
