/-
  THE PROGRAMS OF CONDITIONS, PART I: a program's copy.
-/
import Derived.Test.YtkfphaphiikloaaDoorCh
set_option linter.unusedSimpArgs false
set_option linter.unusedVariables false
set_option linter.constructorNameAsVariable false
set_option linter.unusedSimpArgs false
namespace Go.Proofs.YtkfphaphiikloaaDoor
open Go Go.Eng

def ic : Int → List AV := fun x => [ii x]
theorem Flat.ic : Flat 1 (De.int .i64) ic := Flat.int
/-- A program of one's own. -/
def OwnP (h : Heap) (lo hi : Nat) (z : AV) (p : Pr) : Prop := ∃ w zb, z = .g [.s w 1 0 p.code.length, zb] ∧ h w = some ⟨p.code.flatMap icells, 1, true, 5⟩ ∧ lo ≤ w ∧ w < hi ∧ OwnL ic 1 h (w + 1) hi zb p.cols p.cols.length
theorem OwnP.congr {h h' : Heap} {lo hi hi' : Nat} {z : AV} {p : Pr} (o : OwnP h lo hi z p) (hh : ∀ q, lo ≤ q → q < hi → h' q = h q) (hi2 : hi ≤ hi') : OwnP h' lo hi' z p := by
  obtain ⟨w, zb, o1, o2, o3, o4, o5⟩ := o
  exact ⟨w, zb, o1, by rw [hh _ o3 o4]; exact o2, o3, by omega, o5.congr (fun q h1 h2 => hh q (by omega) h2) hi2⟩
theorem OwnP.rd {h : Heap} {lo hi : Nat} {z : AV} {p : Pr} (o : OwnP h lo hi z p) : dePr h z = some p := by
  obtain ⟨w, zb, rfl, o2, o3, o4, o5⟩ := o
  exact dePr_in (flat_in Flat.ins o2 rfl (r := []) (by simp)) (o5.rd Flat.ic)
theorem OwnL.is {α : Type} {en : α → List AV} {sz : Nat} {h : Heap} {lo hi : Nat} {z : AV} {ll : List (List α)} {j : Nat} (o : OwnL en sz h lo hi z ll j) : z.isS ∧ z.slen = j ∧ (∀ g, AV.unc g z = z) ∧ z.one ∧ z.cells = [z] := by
  obtain ⟨f, _, ⟨h0, rfl⟩ | ⟨w, u, rfl, _⟩⟩ := o
  · exact ⟨⟨rfl, rfl⟩, h0.symm, fun _ => rfl, rfl, rfl⟩
  · exact ⟨trivial, rfl, fun _ => rfl, trivial, rfl⟩
def I25 (pa pb : AV) (h : Heap) (n : Nat) (p : Pr) (s : St) : Prop := ∃ j zb, j ≤ p.cols.length ∧ s.e 1 = .p n 0 0 ∧ s.e 2 = .p (n + 1) 0 0 ∧ s.e 3 = .p (n + 4) 0 0 ∧ s.e 4 = ii j ∧ OwnL ic 1 s.h (n + 5) s.n zb p.cols j ∧
  s.h n = some ⟨[pa, pb], 0, true, 2⟩ ∧ s.h (n + 1) = some ⟨[.v (.slice none 0 0), .v (.slice none 0 0)], 0, true, 2⟩ ∧ s.h (n + 2) = some ⟨p.code.flatMap icells, 1, true, 5⟩ ∧ s.h (n + 4) = some ⟨[.s (n + 2) 1 0 p.code.length, zb], 0, true, 2⟩ ∧ agree n h s.h ∧ Fresh s.n s.h ∧ n + 5 ≤ s.n
structure PrSm (p : Pr) : Prop where
  code : p.code.length * 40 ≤ 140737488355328
  cols : p.cols.length * 24 ≤ 140737488355328
  col : ∀ c ∈ p.cols, c.length * 8 ≤ 140737488355328
set_option maxRecDepth 100000 in
set_option maxHeartbeats 4000000 in
theorem c25 {h : Heap} {n : Nat} {x : AV} {p : Pr} (e1 : dePr h x = some p) (hp : PrSm p) (hn : Fresh n h) :
    ACall (cx [] (pfL [])) 25 [x] h n fun z h' n' => agree n h h' ∧ Fresh n' h' ∧ n ≤ n' ∧ OwnP h' n n' z p := by
  refine acall_of_awp (args := [x]) (pfL_ok tb_nil) (mixed _ _) Tryd.func25 (c := Tryd.f25.body.getD .skip) rfl (by kernel_rfl) (callable Tryd.func25 rfl rfl _ _) (show 1 ≤ Tryd.f25.ntmps by decide +kernel) ?_
  obtain ⟨pa, pb, rfl, e3, e4⟩ := dePr_out e1
  obtain ⟨s1, s2, s3, s4, s5⟩ := sl_is e3
  obtain ⟨t1, t2, t3, t4, t5⟩ := sl_is e4
  have key : ∀ e : Nat → AV, e 0 = .g [pa, pb] → awp (cx [] (pfL [])) (Tryd.f25.body.getD .skip) (finQ (cx [] (pfL [])) Tryd.f25 fun z h' n' => agree n h h' ∧ Fresh n' h' ∧ n ≤ n' ∧ OwnP h' n n' z p) ⟨e, h, n⟩ := fun e q0 => by
    have ga : ∀ h'', agree n h h'' → sls h'' pa 0 (p.code.length * 5) := fun h'' ha => (flat_app Flat.ins (rd_agr hn e3 h'' ha)).1
    have gb : ∀ h'', agree n h h'' → slc h'' pa 0 (p.code.length * 5) = p.code.flatMap icells := fun h'' ha => (flat_app Flat.ins (rd_agr hn e3 h'' ha)).2
    have b1 := hp.code
    have b2 : p.code.length ≤ 9223372036854775807 := by omega
    simp [awp_skip, awp_label, awp_region, awp_seq, awp_if, awp_block, awp_ret, awp_scope, awp_exit, thenQ_n, thenQ_e, thenQ_r, blockQ_n, blockQ_e, blockQ_r, finQ_n, finQ_r, finQ_e, resAll, resVal, resOne, aops_nil, aops_cons, atl_nil, atl_cons, atlAll_nil, atlAll_cons, freeOp, List.filter_cons, List.filter_nil, adraw_eq, adrawA_nil, adrawA_cons, isA, goOp, appNew, mkOp, gev, Region.binds, Heap.le_refl, aop, aeval, gocall, heapOp, quietOp, ev, constAV, setd, yav, ystop, up, env0, cx_ti, cx_G, cx_pf, ti, globS, glob, pfL, lds, ldc, ldcs_1, ldcs_2, ldcs_3, ldcs_4, ldcs_5, ldcs_7, sts, sth, sls.eq_1, slc.eq_1, wr, place, fillOk, fillC, repZ, binI, isDiv, optInt, optI, eksOk, eksEq, EK.ok, EK.eq, AV.i, AV.isI, AV.isInt, AV.b.eq_1, AV.b.eq_2, AV.isB.eq_1, AV.isB.eq_2, AV.str, AV.isStr, unc_same, unc_tt, unc_tf, unc_f, unc_any, unc_v, unc_gp, unc_p, unc_s, unc_g, unc_e, unc_t, unc_fn, unc_okb, unc_bb, unc_isB, unc_b, AV.bb.eq_1, AV.bb.eq_2, AV.okb.eq_1, AV.okb.eq_2, AV.okg.eq_1, AV.okg.eq_2, AV.gd.eq_1, AV.gd.eq_2, AV.cells.eq_1, AV.cells.eq_2, AV.one.eq_1, AV.one.eq_2, AV.one.eq_3, AV.one.eq_4, AV.one.eq_5, AV.one.eq_6, AV.ones, AV.slen.eq_1, AV.slen.eq_2, AV.isS.eq_1, AV.isS.eq_2, AV.isS.eq_3, AV.isPtr, AV.gl, AV.isG, Value.oneCell', Nat.add_assoc, cut_of_le, nat_lt0, nat_le0, Tryd.f25, q0, s1, s2, s3, s4, s5, t4, t5, ga, gb, agree_up, agree_refl, b1, b2]
    refine awp_loop (I25 pa pb h n p) (fun s => p.cols.length - (s.e 4).i.toNat) ⟨0, .v (.slice none 0 0), Nat.zero_le _, by simp [up], by simp [up], by simp [up], by simp [up, ii], ⟨fun _ => 0, ⟨fun i hi => by omega, fun i hi => by omega, fun i _ hi => by omega⟩, .inl ⟨rfl, rfl⟩⟩, by simp [up], by simp [up], by simp [up], by simp [up], by simp [agree_up, agree_refl], by simp [fresh_up, hn.add], by simp⟩ ?_
    rintro e' h' n' ⟨j, zb, hj, q1, q2, q3, q4, hol, hb0, hb1, hb2, hb4, hag, hfr, hnn⟩
    simp only [] at q1 q2 q3 q4 hol hb0 hb1 hb2 hb4 hag hfr hnn
    obtain ⟨v1, v2, v3, v4, v5⟩ := hol.is
    by_cases hlt : j < p.cols.length
    · rcases sls_at e4 with ⟨h0, _⟩ | ⟨id, off, k, rfl, hk, ho, hat⟩
      · rw [h0] at hlt; simp at hlt
      obtain ⟨c, hc, hcr⟩ := hat j hlt
      obtain ⟨u1, u2, u3, u4, u5⟩ := sl_is hcr
      have hid := lt_of hk hn
      have hk' : h' id = some k := by rw [hag id hid]; exact hk
      have y0 : ¬ id = n' := by omega
      have hcb := hp.cols
      have hw := wrap_nat (j := j) (by unfold big; omega)
      have hw1 : off + (j + 1) ≤ k.cells.length := by omega
      have fa : ∀ h'', agree n h h'' → sls h'' c 0 (p.cols[j].length) := fun h'' ha => by simpa using (flat_app Flat.ic (rd_agr hn hcr h'' ha)).1
      have fb : ∀ h'', agree n h h'' → slc h'' c 0 (p.cols[j].length) = p.cols[j].flatMap ic := fun h'' ha => by simpa using (flat_app Flat.ic (rd_agr hn hcr h'' ha)).2
      have hll := hp.col _ (List.getElem_mem hlt)
      have hg : p.cols.getD j [] = p.cols[j] := by simp [List.getD_eq_getElem?_getD, hlt]
      have b3 : (j + 1) * 24 ≤ 140737488355328 := by omega
      have b4 : j + 1 ≤ 9223372036854775807 := by omega
      have b5 : p.cols[j].length ≤ 9223372036854775807 := by omega
      have f0 : n ≤ n' := by omega
      have f1 : n ≤ n' + 1 := by omega
      have f2 : n ≤ n' + 2 := by omega
      have f3 : n ≤ n' + 3 := by omega
      have f4 : n ≤ n + 4 := by omega
      have z0 : ¬ n = n' := by omega
      have z1 : ¬ n + 4 = n' := by omega
      have z2 : ¬ n = n' + 2 := by omega
      have z3 : ¬ n = n' + 3 := by omega
      have z4 : ¬ n + 4 = n' + 2 := by omega
      have z5 : ¬ n + 4 = n' + 3 := by omega
      have z6 : ¬ n + 1 = n' := by omega
      have z7 : ¬ n + 1 = n' + 2 := by omega
      have z8 : ¬ n + 1 = n' + 3 := by omega
      have z9 : ¬ n + 2 = n' := by omega
      have x1 : ¬ n + 2 = n' + 3 := by omega
      have x2 : ¬ n' = n + 4 := by omega
      have x3 : n + 4 < n' + 5 := by omega
      have x4 : ¬ n + 2 = n' + 2 := by omega
      have x5 : ¬ n' + 3 = n + 4 := by omega
      have x6 : ¬ n' = n := by omega
      have x7 : ¬ n = n' + 1 := by omega
      have x8 : ¬ n' = n + 1 := by omega
      have x9 : ¬ n' = n + 2 := by omega
      generalize hgl : p.cols[j] = lj at *
      generalize hfl : lj.flatMap ic = cl at *
      obtain ⟨f, hof, hz⟩ := hol
      rcases hz with ⟨hj0, rfl⟩ | ⟨w, u, rfl, hw0, hw2, hw3, hne⟩
      · simp [awp_skip, awp_label, awp_region, awp_seq, awp_if, awp_block, awp_ret, awp_scope, awp_exit, thenQ_n, thenQ_e, thenQ_r, blockQ_n, blockQ_e, blockQ_r, finQ_n, finQ_r, finQ_e, resAll, resVal, resOne, aops_nil, aops_cons, atl_nil, atl_cons, atlAll_nil, atlAll_cons, freeOp, List.filter_cons, List.filter_nil, adraw_eq, adrawA_nil, adrawA_cons, isA, goOp, appNew, mkOp, gev, Region.binds, Heap.le_refl, aop, aeval, gocall, heapOp, quietOp, ev, constAV, setd, yav, ystop, up, env0, cx_ti, cx_G, cx_pf, ti, globS, glob, pfL, lds, ldc, ldcs_1, ldcs_2, ldcs_3, ldcs_4, ldcs_5, ldcs_7, sts, sth, sls.eq_1, slc.eq_1, wr, place, fillOk, fillC, repZ, binI, isDiv, optInt, optI, eksOk, eksEq, EK.ok, EK.eq, AV.i, AV.isI, AV.isInt, AV.b.eq_1, AV.b.eq_2, AV.isB.eq_1, AV.isB.eq_2, AV.str, AV.isStr, unc_same, unc_tt, unc_tf, unc_f, unc_any, unc_v, unc_gp, unc_p, unc_s, unc_g, unc_e, unc_t, unc_fn, unc_okb, unc_bb, unc_isB, unc_b, AV.bb.eq_1, AV.bb.eq_2, AV.okb.eq_1, AV.okb.eq_2, AV.okg.eq_1, AV.okg.eq_2, AV.gd.eq_1, AV.gd.eq_2, AV.cells.eq_1, AV.cells.eq_2, AV.one.eq_1, AV.one.eq_2, AV.one.eq_3, AV.one.eq_4, AV.one.eq_5, AV.one.eq_6, AV.ones, AV.slen.eq_1, AV.slen.eq_2, AV.isS.eq_1, AV.isS.eq_2, AV.isS.eq_3, AV.isPtr, AV.gl, AV.isG, Value.oneCell', Nat.add_assoc, cut_of_le, nat_lt0, nat_le0, q1, q2, q3, q4, hb0, hb4, ii, t2, hlt, hk', y0, hc, hw1, u1, u2, u3, u4, u5, fa, fb, agree_up, hag, f0, f1, f2, f3, f4, hll, b3, b4, b5, hw, z0, z1, z2, z3, z4, z5, x2, x5, x6]
        refine ⟨(le_upf (hfr _ (Nat.le_refl _)) _).2 ((le_upf (hfr _ (Nat.le_refl _)) _).2 (Heap.le_refl _)), ⟨j + 1, .s (n' + 3) 0 0 1, by omega, by simp [up, q1], by simp [up, q2], by simp [up, q3], by simp [up, ii], ⟨fun i => if i = j then n' else f i, hof.snoc (hi2 := n' + 5) (fun i hi => by omega) hnn (Nat.le_refl _) (by omega) (by rw [hg, hfl]; simp [up, x2]), .inr ⟨n' + 3, 0, by rw [hj0], ?_, by omega, by simp only []; omega, fun i hi => ?_⟩⟩, by simp [up, z0, z2, z3, x6, hb0], by simp [up, z0, z2, z6, z7, z8, x7, hb1], by simp [up, z0, z9, x1, x4, x7, hb2], by simp [up], by simp [agree_up, hag, f0, f1, f2, f3, f4], by simp [fresh_up, hfr.add, x3], by simp only []; omega⟩, by omega⟩
        · simp only [lcells_snoc, hg]
          rw [hj0]
          simp [up, x5, x8, lcells]
        · simp only []
          rw [if_pos (by omega)]
          omega
      · have yw : ¬ w = n' := by omega
        have yw1 : ¬ w = n' + 2 := by omega
        have yw2 : ¬ n' = w := by omega
        have yw3 : n ≤ w := by omega
        have yw4 : w < n' + 5 := by omega
        have yw5 : ¬ n = w := by omega
        have yw6 : ¬ n + 4 = w := by omega
        have yw7 : ¬ w = n + 4 := by omega
        have yw8 : ¬ n + 1 = w := by omega
        have yw9 : ¬ n + 2 = w := by omega
        have hcl := lcells_len f p.cols j
        have hls := lcells_snoc f p.cols j n'
        generalize lcells f p.cols j = lc at *
        simp [awp_skip, awp_label, awp_region, awp_seq, awp_if, awp_block, awp_ret, awp_scope, awp_exit, thenQ_n, thenQ_e, thenQ_r, blockQ_n, blockQ_e, blockQ_r, finQ_n, finQ_r, finQ_e, resAll, resVal, resOne, aops_nil, aops_cons, atl_nil, atl_cons, atlAll_nil, atlAll_cons, freeOp, List.filter_cons, List.filter_nil, adraw_eq, adrawA_nil, adrawA_cons, isA, goOp, appNew, mkOp, gev, Region.binds, Heap.le_refl, aop, aeval, gocall, heapOp, quietOp, ev, constAV, setd, yav, ystop, up, env0, cx_ti, cx_G, cx_pf, ti, globS, glob, pfL, lds, ldc, ldcs_1, ldcs_2, ldcs_3, ldcs_4, ldcs_5, ldcs_7, sts, sth, sls.eq_1, slc.eq_1, wr, place, fillOk, fillC, repZ, binI, isDiv, optInt, optI, eksOk, eksEq, EK.ok, EK.eq, AV.i, AV.isI, AV.isInt, AV.b.eq_1, AV.b.eq_2, AV.isB.eq_1, AV.isB.eq_2, AV.str, AV.isStr, unc_same, unc_tt, unc_tf, unc_f, unc_any, unc_v, unc_gp, unc_p, unc_s, unc_g, unc_e, unc_t, unc_fn, unc_okb, unc_bb, unc_isB, unc_b, AV.bb.eq_1, AV.bb.eq_2, AV.okb.eq_1, AV.okb.eq_2, AV.okg.eq_1, AV.okg.eq_2, AV.gd.eq_1, AV.gd.eq_2, AV.cells.eq_1, AV.cells.eq_2, AV.one.eq_1, AV.one.eq_2, AV.one.eq_3, AV.one.eq_4, AV.one.eq_5, AV.one.eq_6, AV.ones, AV.slen.eq_1, AV.slen.eq_2, AV.isS.eq_1, AV.isS.eq_2, AV.isS.eq_3, AV.isPtr, AV.gl, AV.isG, Value.oneCell', Nat.add_assoc, cut_of_le, nat_lt0, nat_le0, q1, q2, q3, q4, hb0, hb4, ii, t2, hlt, hk', y0, hc, hw1, u1, u2, u3, u4, u5, fa, fb, agree_up, hag, f0, f1, f2, f3, f4, hll, b3, b4, b5, hw, z0, z1, z2, z3, z4, z5, x2, x5, x6, hw0, yw, yw1, yw2, yw5, yw6, hcl]
        refine ⟨(le_upf (hfr _ (Nat.le_refl _)) _).2 ((le_upf (hfr _ (Nat.le_refl _)) _).2 (Heap.le_refl _)), ⟨j + 1, .s w (u + 1) 0 (j + 1), by omega, by simp [up, q1], by simp [up, q2], by simp [up, q3], by simp [up, ii], ⟨fun i => if i = j then n' else f i, hof.snoc (hi2 := n' + 5) (fun i hi => ?_) hnn (Nat.le_refl _) (by omega) (by rw [hg, hfl]; simp [up, x2, yw2]), .inr ⟨w, u + 1, rfl, by simp only [hls, hg]; simp [up, yw7], by omega, by simp only []; omega, fun i hi => ?_⟩⟩, by simp [up, z0, z2, z3, x6, hb0, yw5], by simp [up, z0, z2, z6, z7, z8, x7, hb1, yw8], by simp [up, z0, z9, x1, x4, x7, hb2, yw9], by simp [up], by simp [agree_up, hag, f0, f1, f2, f3, f4, yw3], by simp [fresh_up, hfr.add, x3, yw4], by simp only []; omega⟩, by omega⟩
        · have r := hof.rng i hi
          have r1 := hne i hi
          have r2 : ¬ f i = n' := by omega
          have r3 : ¬ f i = n' + 2 := by omega
          have r4 : ¬ f i = n + 4 := by omega
          simp [up, r1, r2, r3, r4]
        · simp only []
          split
          · omega
          · exact hne i (by omega)
    · have hje : j = p.cols.length := by omega
      subst hje
      have x1 : ¬ n + 4 = n + 1 := by omega
      simp [awp_skip, awp_label, awp_region, awp_seq, awp_if, awp_block, awp_ret, awp_scope, awp_exit, thenQ_n, thenQ_e, thenQ_r, blockQ_n, blockQ_e, blockQ_r, finQ_n, finQ_r, finQ_e, resAll, resVal, resOne, aops_nil, aops_cons, atl_nil, atl_cons, atlAll_nil, atlAll_cons, freeOp, List.filter_cons, List.filter_nil, adraw_eq, adrawA_nil, adrawA_cons, isA, goOp, appNew, mkOp, gev, Region.binds, Heap.le_refl, aop, aeval, gocall, heapOp, quietOp, ev, constAV, setd, yav, ystop, up, env0, cx_ti, cx_G, cx_pf, ti, globS, glob, pfL, lds, ldc, ldcs_1, ldcs_2, ldcs_3, ldcs_4, ldcs_5, ldcs_7, sts, sth, sls.eq_1, slc.eq_1, wr, place, fillOk, fillC, repZ, binI, isDiv, optInt, optI, eksOk, eksEq, EK.ok, EK.eq, AV.i, AV.isI, AV.isInt, AV.b.eq_1, AV.b.eq_2, AV.isB.eq_1, AV.isB.eq_2, AV.str, AV.isStr, unc_same, unc_tt, unc_tf, unc_f, unc_any, unc_v, unc_gp, unc_p, unc_s, unc_g, unc_e, unc_t, unc_fn, unc_okb, unc_bb, unc_isB, unc_b, AV.bb.eq_1, AV.bb.eq_2, AV.okb.eq_1, AV.okb.eq_2, AV.okg.eq_1, AV.okg.eq_2, AV.gd.eq_1, AV.gd.eq_2, AV.cells.eq_1, AV.cells.eq_2, AV.one.eq_1, AV.one.eq_2, AV.one.eq_3, AV.one.eq_4, AV.one.eq_5, AV.one.eq_6, AV.ones, AV.slen.eq_1, AV.slen.eq_2, AV.isS.eq_1, AV.isS.eq_2, AV.isS.eq_3, AV.isPtr, AV.gl, AV.isG, Value.oneCell', Nat.add_assoc, cut_of_le, nat_lt0, nat_le0, q1, q2, q3, q4, hb0, hb1, hb4, ii, t1, t2, t3, v4, v5]
      have w1 : n + 1 < n' + 1 := by omega
      refine ⟨by simp [agree_up, hag], by simp [fresh_up, w1, hfr.add], by omega, n + 2, zb, rfl, by simp [up, hb2], by omega, by omega, ?_⟩
      refine (hol.lo (lo' := n + 3) (by omega)).congr (fun q h1 h2 => ?_) (by omega)
      rw [up_ne _ _ (by omega)]
  exact key _ rfl
end Go.Proofs.YtkfphaphiikloaaDoor
