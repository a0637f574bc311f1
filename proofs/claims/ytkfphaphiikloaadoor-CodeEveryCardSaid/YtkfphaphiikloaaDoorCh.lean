/-
  THE PROGRAMS OF CONDITIONS, PART H: copies that share nothing: lists of events, programs.
-/
import Derived.Test.YtkfphaphiikloaaDoorCf
set_option linter.unusedSimpArgs false
set_option linter.unusedVariables false
set_option linter.constructorNameAsVariable false
set_option linter.unusedSimpArgs false
namespace Go.Proofs.YtkfphaphiikloaaDoor
open Go Go.Eng

/-- One list more. -/
theorem OwnF.snoc {α : Type} {en : α → List AV} {sz : Nat} {h h2 : Heap} {lo hi hi2 m : Nat} {f : Nat → Nat} {ll : List (List α)} {j : Nat} (o : OwnF en sz h lo hi f ll j) (hh : ∀ i, i < j → h2 (f i) = h (f i)) (h1 : lo ≤ hi) (h3 : hi ≤ m) (h4 : m < hi2)
    (hb : h2 m = some ⟨(ll.getD j []).flatMap en, 1, true, sz⟩) : OwnF en sz h2 lo hi2 (fun i => if i = j then m else f i) ll (j + 1) := by
  refine ⟨fun i hi' => ?_, fun i hi' => ?_, fun i k hi' hk' he => ?_⟩
  · split
    · omega
    · have := o.rng i (by omega); omega
  · split
    · rename_i e; subst e; exact hb
    · rw [hh i (by omega)]; exact o.blk i (by omega)
  · split at he
    · rename_i e
      split at he
      · omega
      · have := (o.rng k (by omega)).2; omega
    · split at he
      · have := (o.rng i (by omega)).2; omega
      · exact o.inj i k (by omega) (by omega) he
theorem lcells_snoc {α : Type} (f : Nat → Nat) (ll : List (List α)) (j m : Nat) : lcells (fun i => if i = j then m else f i) ll (j + 1) = lcells f ll j ++ [.s m 1 0 (ll.getD j []).length] := by
  rw [lcells_succ, lcells_congr (g := f) ll (fun i hi => by rw [if_neg (by omega)])]
  simp
def I28 (a : AV) (h : Heap) (n : Nat) (ll : List (List Ev)) (s : St) : Prop := ∃ j, j ≤ ll.length ∧ s.e 0 = a ∧ s.e 4 = ii j ∧ OwnL ecells 11 s.h n s.n (s.e 3) ll j ∧ agree n h s.h ∧ Fresh s.n s.h ∧ n ≤ s.n
set_option maxRecDepth 100000 in
set_option maxHeartbeats 4000000 in
theorem c28 {h : Heap} {n : Nat} {a : AV} {ll : List (List Ev)} (e1 : rd dEss h a = some ll) (hl : ∀ l ∈ ll, l.length ≤ 2147483647) (hb : ll.length * 24 ≤ 140737488355328) (hn : Fresh n h) :
    ACall (cx [] (pfL [])) 28 [a] h n fun z h' n' => agree n h h' ∧ Fresh n' h' ∧ n ≤ n' ∧ OwnL ecells 11 h' n n' z ll ll.length := by
  refine acall_of_awp (args := [a]) (pfL_ok tb_nil) (mixed _ _) Tryd.func28 (c := Tryd.f28.body.getD .skip) rfl (by kernel_rfl) (callable Tryd.func28 rfl rfl _ _) (show 1 ≤ Tryd.f28.ntmps by decide +kernel) ?_
  obtain ⟨s1, s2, s3, s4, s5⟩ := sl_is e1
  have key : ∀ e : Nat → AV, e 0 = a → awp (cx [] (pfL [])) (Tryd.f28.body.getD .skip) (finQ (cx [] (pfL [])) Tryd.f28 fun z h' n' => agree n h h' ∧ Fresh n' h' ∧ n ≤ n' ∧ OwnL ecells 11 h' n n' z ll ll.length) ⟨e, h, n⟩ := fun e q0 => by
    simp [awp_skip, awp_label, awp_region, awp_seq, awp_if, awp_block, awp_ret, awp_scope, awp_exit, thenQ_n, thenQ_e, thenQ_r, blockQ_n, blockQ_e, blockQ_r, finQ_n, finQ_r, finQ_e, resAll, resVal, resOne, aops_nil, aops_cons, atl_nil, atl_cons, atlAll_nil, atlAll_cons, freeOp, List.filter_cons, List.filter_nil, adraw_eq, adrawA_nil, adrawA_cons, isA, goOp, appNew, mkOp, gev, Region.binds, Heap.le_refl, aop, aeval, gocall, heapOp, quietOp, ev, constAV, setd, yav, ystop, up, env0, cx_ti, cx_G, cx_pf, ti, globS, glob, pfL, lds, ldc, ldcs_1, ldcs_2, ldcs_3, ldcs_4, ldcs_5, ldcs_7, sts, sth, sls.eq_1, slc.eq_1, wr, place, fillOk, fillC, repZ, binI, isDiv, optInt, optI, eksOk, eksEq, EK.ok, EK.eq, AV.i, AV.isI, AV.isInt, AV.b.eq_1, AV.b.eq_2, AV.isB.eq_1, AV.isB.eq_2, AV.str, AV.isStr, unc_same, unc_tt, unc_tf, unc_f, unc_any, unc_v, unc_gp, unc_p, unc_s, unc_g, unc_e, unc_t, unc_fn, unc_okb, unc_bb, unc_isB, unc_b, AV.bb.eq_1, AV.bb.eq_2, AV.okb.eq_1, AV.okb.eq_2, AV.okg.eq_1, AV.okg.eq_2, AV.gd.eq_1, AV.gd.eq_2, AV.cells.eq_1, AV.cells.eq_2, AV.one.eq_1, AV.one.eq_2, AV.one.eq_3, AV.one.eq_4, AV.one.eq_5, AV.one.eq_6, AV.ones, AV.slen.eq_1, AV.slen.eq_2, AV.isS.eq_1, AV.isS.eq_2, AV.isS.eq_3, AV.isPtr, AV.gl, AV.isG, Value.oneCell', Nat.add_assoc, cut_of_le, nat_lt0, nat_le0, Tryd.f28, q0]
    refine awp_loop (I28 a h n ll) (fun s => ll.length - (s.e 4).i.toNat) ⟨0, Nat.zero_le _, by simp [up, q0], by simp [up, ii], ⟨fun _ => 0, ⟨fun i hi => by omega, fun i hi => by omega, fun i _ hi => by omega⟩, .inl ⟨rfl, by simp [up]⟩⟩, agree_refl _ _, hn, Nat.le_refl _⟩ ?_
    rintro e' h' n' ⟨j, hj, q0, q4, ⟨f, hof, hz⟩, hag, hfr, hnn⟩
    simp only [] at q0 q4 hof hz hag hfr hnn
    by_cases hlt : j < ll.length
    · rcases sls_at e1 with ⟨h0, _⟩ | ⟨id, off, k, rfl, hk, ho, hat⟩
      · rw [h0] at hlt; simp at hlt
      obtain ⟨c, hc, hcr⟩ := hat j hlt
      obtain ⟨u1, u2, u3, u4, u5⟩ := sl_is hcr
      have hid := lt_of hk hn
      have hk' : h' id = some k := by rw [hag id hid]; exact hk
      have y0 : ¬ id = n' := by omega
      have hw := wrap_nat (j := j) (by unfold big; omega)
      have hw1 : off + (j + 1) ≤ k.cells.length := by omega
      have fa : ∀ h'', agree n h h'' → sls h'' c 0 (ll[j].length * 11) := fun h'' ha => (flat_app Flat.ev (rd_agr hn hcr h'' ha)).1
      have fb : ∀ h'', agree n h h'' → slc h'' c 0 (ll[j].length * 11) = ll[j].flatMap ecells := fun h'' ha => (flat_app Flat.ev (rd_agr hn hcr h'' ha)).2
      have hll := hl _ (List.getElem_mem hlt)
      have hg : ll.getD j [] = ll[j] := by simp [List.getD_eq_getElem?_getD, hlt]
      have b1 : ll[j].length * 88 ≤ 140737488355328 := by omega
      have b2 : ll[j].length ≤ 9223372036854775807 := by omega
      have b3 : (j + 1) * 24 ≤ 140737488355328 := by omega
      have b4 : j + 1 ≤ 9223372036854775807 := by omega
      have f0 : n ≤ n' := by omega
      have f1 : n ≤ n' + 1 := by omega
      have f2 : n ≤ n' + 2 := by omega
      have f3 : n ≤ n' + 3 := by omega
      generalize hgl : ll[j] = lj at *
      generalize hfl : lj.flatMap ecells = cl at *
      rcases hz with ⟨hj0, q3⟩ | ⟨w, u, q3, hw0, hw2, hw3, hne⟩
      · simp [awp_skip, awp_label, awp_region, awp_seq, awp_if, awp_block, awp_ret, awp_scope, awp_exit, thenQ_n, thenQ_e, thenQ_r, blockQ_n, blockQ_e, blockQ_r, finQ_n, finQ_r, finQ_e, resAll, resVal, resOne, aops_nil, aops_cons, atl_nil, atl_cons, atlAll_nil, atlAll_cons, freeOp, List.filter_cons, List.filter_nil, adraw_eq, adrawA_nil, adrawA_cons, isA, goOp, appNew, mkOp, gev, Region.binds, Heap.le_refl, aop, aeval, gocall, heapOp, quietOp, ev, constAV, setd, yav, ystop, up, env0, cx_ti, cx_G, cx_pf, ti, globS, glob, pfL, lds, ldc, ldcs_1, ldcs_2, ldcs_3, ldcs_4, ldcs_5, ldcs_7, sts, sth, sls.eq_1, slc.eq_1, wr, place, fillOk, fillC, repZ, binI, isDiv, optInt, optI, eksOk, eksEq, EK.ok, EK.eq, AV.i, AV.isI, AV.isInt, AV.b.eq_1, AV.b.eq_2, AV.isB.eq_1, AV.isB.eq_2, AV.str, AV.isStr, unc_same, unc_tt, unc_tf, unc_f, unc_any, unc_v, unc_gp, unc_p, unc_s, unc_g, unc_e, unc_t, unc_fn, unc_okb, unc_bb, unc_isB, unc_b, AV.bb.eq_1, AV.bb.eq_2, AV.okb.eq_1, AV.okb.eq_2, AV.okg.eq_1, AV.okg.eq_2, AV.gd.eq_1, AV.gd.eq_2, AV.cells.eq_1, AV.cells.eq_2, AV.one.eq_1, AV.one.eq_2, AV.one.eq_3, AV.one.eq_4, AV.one.eq_5, AV.one.eq_6, AV.ones, AV.slen.eq_1, AV.slen.eq_2, AV.isS.eq_1, AV.isS.eq_2, AV.isS.eq_3, AV.isPtr, AV.gl, AV.isG, Value.oneCell', Nat.add_assoc, cut_of_le, nat_lt0, nat_le0, q0, q3, q4, ii, hlt, hk', y0, hc, hw1, u1, u2, u3, u4, u5, fa, fb, agree_up, hag, f0, f1, f2, f3, b1, b2, b3, b4, hw]
        refine ⟨⟨j + 1, by omega, by simp [up, q0], by simp [up, ii], ⟨fun i => if i = j then n' else f i, hof.snoc (hi2 := n' + 4) (fun i hi => by omega) hnn (Nat.le_refl _) (by omega) (by rw [hg, hfl]; simp [up]), .inr ⟨n' + 3, 0, by simp [up]; omega, by simp only [up_same, lcells_snoc, hg]; rw [hj0]; rfl, by omega, by simp only []; omega, fun i hi => ?_⟩⟩, by simp [agree_up, hag, f0, f1, f2, f3], by simp [fresh_up, hfr.add], by simp only []; omega⟩, by omega⟩
        simp only []
        rw [if_pos (by omega)]
        omega
      · have yw : ¬ w = n' := by omega
        have yw1 : ¬ w = n' + 2 := by omega
        have yw2 : ¬ n' = w := by omega
        have yw3 : n ≤ w := by omega
        have yw4 : w < n' + 4 := by omega
        have hcl := lcells_len f ll j
        have hls := lcells_snoc f ll j n'
        generalize lcells f ll j = lc at *
        simp [awp_skip, awp_label, awp_region, awp_seq, awp_if, awp_block, awp_ret, awp_scope, awp_exit, thenQ_n, thenQ_e, thenQ_r, blockQ_n, blockQ_e, blockQ_r, finQ_n, finQ_r, finQ_e, resAll, resVal, resOne, aops_nil, aops_cons, atl_nil, atl_cons, atlAll_nil, atlAll_cons, freeOp, List.filter_cons, List.filter_nil, adraw_eq, adrawA_nil, adrawA_cons, isA, goOp, appNew, mkOp, gev, Region.binds, Heap.le_refl, aop, aeval, gocall, heapOp, quietOp, ev, constAV, setd, yav, ystop, up, env0, cx_ti, cx_G, cx_pf, ti, globS, glob, pfL, lds, ldc, ldcs_1, ldcs_2, ldcs_3, ldcs_4, ldcs_5, ldcs_7, sts, sth, sls.eq_1, slc.eq_1, wr, place, fillOk, fillC, repZ, binI, isDiv, optInt, optI, eksOk, eksEq, EK.ok, EK.eq, AV.i, AV.isI, AV.isInt, AV.b.eq_1, AV.b.eq_2, AV.isB.eq_1, AV.isB.eq_2, AV.str, AV.isStr, unc_same, unc_tt, unc_tf, unc_f, unc_any, unc_v, unc_gp, unc_p, unc_s, unc_g, unc_e, unc_t, unc_fn, unc_okb, unc_bb, unc_isB, unc_b, AV.bb.eq_1, AV.bb.eq_2, AV.okb.eq_1, AV.okb.eq_2, AV.okg.eq_1, AV.okg.eq_2, AV.gd.eq_1, AV.gd.eq_2, AV.cells.eq_1, AV.cells.eq_2, AV.one.eq_1, AV.one.eq_2, AV.one.eq_3, AV.one.eq_4, AV.one.eq_5, AV.one.eq_6, AV.ones, AV.slen.eq_1, AV.slen.eq_2, AV.isS.eq_1, AV.isS.eq_2, AV.isS.eq_3, AV.isPtr, AV.gl, AV.isG, Value.oneCell', Nat.add_assoc, cut_of_le, nat_lt0, nat_le0, q0, q3, q4, ii, hlt, hk', y0, hc, hw1, u1, u2, u3, u4, u5, fa, fb, agree_up, hag, f0, f1, f2, f3, b1, b2, b3, b4, hw, hw0, yw, yw1, hcl]
        refine ⟨⟨j + 1, by omega, by simp [up, q0], by simp [up, ii], ⟨fun i => if i = j then n' else f i, hof.snoc (hi2 := n' + 4) (fun i hi => ?_) hnn (Nat.le_refl _) (by omega) (by rw [hg, hfl]; simp [up, yw2]), .inr ⟨w, u + 1, by simp [up], by simp only [up_same, hls, hg], hw2, by simp only []; omega, fun i hi => ?_⟩⟩, by simp [agree_up, hag, f0, f1, f2, f3, yw3], by simp [fresh_up, hfr.add, yw4], by simp only []; omega⟩, by omega⟩
        · have r := hof.rng i hi
          have r1 := hne i hi
          have r2 : ¬ f i = n' := by omega
          have r3 : ¬ f i = n' + 2 := by omega
          simp [up, r1, r2, r3]
        · simp only []
          split
          · omega
          · exact hne i (by omega)
    · have hje : j = ll.length := by omega
      subst hje
      simp [awp_skip, awp_label, awp_region, awp_seq, awp_if, awp_block, awp_ret, awp_scope, awp_exit, thenQ_n, thenQ_e, thenQ_r, blockQ_n, blockQ_e, blockQ_r, finQ_n, finQ_r, finQ_e, resAll, resVal, resOne, aops_nil, aops_cons, atl_nil, atl_cons, atlAll_nil, atlAll_cons, freeOp, List.filter_cons, List.filter_nil, adraw_eq, adrawA_nil, adrawA_cons, isA, goOp, appNew, mkOp, gev, Region.binds, Heap.le_refl, aop, aeval, gocall, heapOp, quietOp, ev, constAV, setd, yav, ystop, up, env0, cx_ti, cx_G, cx_pf, ti, globS, glob, pfL, lds, ldc, ldcs_1, ldcs_2, ldcs_3, ldcs_4, ldcs_5, ldcs_7, sts, sth, sls.eq_1, slc.eq_1, wr, place, fillOk, fillC, repZ, binI, isDiv, optInt, optI, eksOk, eksEq, EK.ok, EK.eq, AV.i, AV.isI, AV.isInt, AV.b.eq_1, AV.b.eq_2, AV.isB.eq_1, AV.isB.eq_2, AV.str, AV.isStr, unc_same, unc_tt, unc_tf, unc_f, unc_any, unc_v, unc_gp, unc_p, unc_s, unc_g, unc_e, unc_t, unc_fn, unc_okb, unc_bb, unc_isB, unc_b, AV.bb.eq_1, AV.bb.eq_2, AV.okb.eq_1, AV.okb.eq_2, AV.okg.eq_1, AV.okg.eq_2, AV.gd.eq_1, AV.gd.eq_2, AV.cells.eq_1, AV.cells.eq_2, AV.one.eq_1, AV.one.eq_2, AV.one.eq_3, AV.one.eq_4, AV.one.eq_5, AV.one.eq_6, AV.ones, AV.slen.eq_1, AV.slen.eq_2, AV.isS.eq_1, AV.isS.eq_2, AV.isS.eq_3, AV.isPtr, AV.gl, AV.isG, Value.oneCell', Nat.add_assoc, cut_of_le, nat_lt0, nat_le0, q0, q4, ii, s1, s2, s3]
      exact ⟨hag, hfr, hnn, f, hof, hz⟩
  exact key _ rfl
end Go.Proofs.YtkfphaphiikloaaDoor
