/-
  THE PROGRAMS OF CONDITIONS: one step of the machine, on the document's side: operators and jumps.
-/
import Derived.Test.YtkfphaphiikloaaDoorCg
set_option linter.unusedSimpArgs false
set_option linter.unusedVariables false
set_option linter.constructorNameAsVariable false
set_option linter.unusedSimpArgs false
namespace Go.Proofs.YtkfphaphiikloaaDoor
open Go Go.Eng

set_option maxRecDepth 100000 in
set_option maxHeartbeats 4000000 in
theorem c62b {h : Heap} {n : Nat} {x y sa : AV} {p : Pr} {en : En} {pos : Nat} {st : List V} (hp : dePr h x = some p) (he : deEn h y = some en) (hs : SR h sa st) (hpo : PrOk p) (heo : EnOk en) (hlt : pos < p.code.length) (hrng : ∀ v ∈ st, Rng v.n) (hlen : st.length ≤ pos) (hn : Fresh n h) (hc9 : ¬ p.code[pos].code ≤ 9) :
    ACall (cx [] (pfL tb62)) 62 [x, y, .g [ii pos, sa, bv false]] h n fun z h' n' => agree n h h' ∧ Fresh n' h' ∧ n ≤ n' ∧ stepPost z h' (stepV p en p.code[pos] pos st) := by
  refine acall_of_awp (args := [x, y, .g [ii pos, sa, bv false]]) (pfL_ok tb62_ok) (mixed _ _) Tryd.func62 (c := Tryd.f62.body.getD .skip) rfl (by kernel_rfl) (callable Tryd.func62 rfl rfl _ _) (show 3 ≤ Tryd.f62.ntmps by decide +kernel) ?_
  obtain ⟨pa, pb, rfl, e3, e4⟩ := dePr_out hp
  obtain ⟨la, rfl, e5⟩ := deEn_out he
  obtain ⟨s1, s2, s3, s4, s5⟩ := sl_is e3
  obtain ⟨t1, t2, t3, t4, t5⟩ := sl_is e4
  obtain ⟨r1, r2, r3, r4, r5⟩ := sl_is e5
  obtain ⟨o1, o2, o3, o4, o5⟩ := hs.is
  have g5 := en_agr hn he
  simp only [ii] at g5
  have hfr := fun k => hn.add k
  have hiok := hpo.ok p.code[pos] (List.getElem_mem hlt)
  have hplen := hpo.len
  rcases ps_at e3 with ⟨h0, _⟩ | ⟨id, off, k, rfl, hk, ho, hat⟩
  · rw [h0] at hlt; simp at hlt
  obtain ⟨c0, c1, c2, c3, c4⟩ := ins_at (hat pos hlt)
  have hid := lt_of hk hn
  have hx := ne_of hk hn
  have hw5 : off + (pos * 5 + 5) ≤ k.cells.length := by omega
  rw [Nat.add_assoc] at c1 c2 c3 c4
  generalize p.code[pos] = i at *
  have y0 : ¬ id = n := by omega
  have key : ∀ e : Nat → AV, e 0 = .g [.s id k.ver off p.code.length, pb] → e 1 = .g [la, ii en.each, ii en.pos] → e 2 = .g [ii pos, sa, bv false] →
      awp (cx [] (pfL tb62)) (Tryd.f62.body.getD .skip) (finQ (cx [] (pfL tb62)) Tryd.f62 fun z h' n' => agree n h h' ∧ Fresh n' h' ∧ n ≤ n' ∧ stepPost z h' (stepV p en i pos st)) ⟨e, h, n⟩ := fun e q0 q1 q2 => by
    obtain ⟨code, item, icol, iN, ito⟩ := i
    obtain ⟨hk1, hk2, hk3, hk4, hk5⟩ := hiok
    simp only [] at hk1 hk2 hk3 hk4 hk5 c0 c1 c2 c3 c4 hc9
    have hwc : IntKind.i64.wrap code = code := W_id hk1
    by_cases hr : needsV code < 0 ∨ (st.length : Int) < needsV code
    · have hbad : stepV p en ⟨code, item, icol, iN, ito⟩ pos st = none := by unfold stepV; rw [if_pos hr]
      rw [hbad]
      simp [awp_skip, awp_label, awp_region, awp_seq, awp_if, awp_block, awp_ret, awp_scope, awp_exit, thenQ_n, thenQ_e, thenQ_r, blockQ_n, blockQ_e, blockQ_r, finQ_n, finQ_r, finQ_e, resAll, resVal, resOne, aops_nil, aops_cons, atl_nil, atl_cons, atlAll_nil, atlAll_cons, freeOp, List.filter_cons, List.filter_nil, adraw_eq, adrawA_nil, adrawA_cons, isA, goOp, appNew, mkOp, gev, Region.binds, Heap.le_refl, aop, aeval, gocall, heapOp, quietOp, ev, constAV, setd, yav, ystop, up, env0, cx_ti, cx_G, cx_pf, ti, globS, glob, pfL, lds, ldc, ldcs_1, ldcs_2, ldcs_3, ldcs_4, ldcs_5, ldcs_7, sts, sth, sls, slc, wr, place, fillOk, fillC, repZ, binI, isDiv, optInt, optI, eksOk, eksEq, EK.ok, EK.eq, AV.i, AV.isI, AV.isInt, AV.b.eq_1, AV.b.eq_2, AV.isB.eq_1, AV.isB.eq_2, AV.str, AV.isStr, unc_same, unc_tt, unc_tf, unc_f, unc_any, unc_v, unc_gp, unc_p, unc_s, unc_g, unc_e, unc_t, unc_fn, unc_okb, unc_bb, unc_isB, unc_b, AV.bb.eq_1, AV.bb.eq_2, AV.okb.eq_1, AV.okb.eq_2, AV.okg.eq_1, AV.okg.eq_2, AV.gd.eq_1, AV.gd.eq_2, AV.cells.eq_1, AV.cells.eq_2, AV.one.eq_1, AV.one.eq_2, AV.one.eq_3, AV.one.eq_4, AV.one.eq_5, AV.one.eq_6, AV.ones, AV.slen.eq_1, AV.slen.eq_2, AV.isS.eq_1, AV.isS.eq_2, AV.isS.eq_3, AV.isPtr, AV.gl, AV.isG, Value.oneCell', Nat.add_assoc, cut_of_le, nat_lt0, nat_le0, Tryd.f62, q0, q1, q2, ii, bv, r4, t4, o4, hk, hx, y0, c0, c1, c2, c3, c4, hw5, hlt, tb62, g103, pure1, deI, hr, hwc, o1, o2, o3, agree_up, agree_refl, fresh_up, hfr, stepPost]
    have hcr : 1 ≤ code ∧ code ≤ 26 := by
      by_cases hx : code < 1 ∨ code > 26
      · have : needsV code = -1 := if_pos hx
        omega
      · omega
    obtain ⟨c, rfl⟩ : ∃ c : Nat, code = c := ⟨code.toNat, by omega⟩
    have hwp : IntKind.i64.wrap ((pos : Int) + 1) = ((pos + 1 : Nat) : Int) := wrap_nat (by unfold big; omega)
    have b1 : (st.length + 1) * 16 ≤ 140737488355328 := by omega
    have b0 : st.length * 16 ≤ 140737488355328 := by omega
    have b2 : st.length + 1 ≤ 9223372036854775807 := by omega
    have b3 : st.length ≤ 9223372036854775807 := by omega
    have hr2 : ¬ (needsV c < 0 ∨ (st.length : Int) < needsV c) := hr
    have hrl : ¬ needsV c < 0 := by omega
    have hrr : ¬ (st.length : Int) < needsV c := by omega
    have hne : 1 ≤ st.length := by
      have : 1 ≤ needsV c := by
        have hx : needsV c = 1 ∨ needsV c = 2 := by
          unfold needsV
          rw [if_neg (by omega), if_neg (by omega)]
          split
          · exact .inl rfl
          · exact .inr rfl
        omega
      omega
    have h9 : ¬ (c : Int) ≤ 9 := by omega
    have h1n : ¬ (c : Int) = 1 := by omega
    have h2n : ¬ (c : Int) = 2 := by omega
    have h3n : ¬ (c : Int) = 3 := by omega
    have h5 : 5 ≤ (c : Int) := by omega
    have hw0 : IntKind.i64.wrap 0 = 0 := by decide
    have hwl : IntKind.i64.wrap (st.length : Int) = st.length := W_id (by unfold Rng; omega)
    by_cases d10 : c = 10
    · subst d10
      have hnz : needsV (10 : Nat) = 1 := by decide
      have hnz1 : needsV 10 = 1 := by decide
      obtain ⟨pre, x, rfl⟩ := snoc (st := st) hne
      obtain ⟨w, k', rfl, hk', x1, x2, x3, htk, _⟩ := hs.top
      have hs1 : stepV p en ⟨(10 : Nat), item, icol, iN, ito⟩ pos (pre ++ [x]) = some (pos + 1, pre ++ [negL x]) := by
        rw [step_neg hr rfl]
        simp
      rw [hs1]
      have hwt : IntKind.i64.wrap ((pre.length : Int)) = pre.length := W_id (by unfold Rng; simp at b1; omega)
      have hwI : (pre.length : Int) < (pre.length : Int) + 1 := by omega
      have hwI2 : (pre.length : Int) ≤ (pre.length : Int) + 1 := by omega
      have hlt1 : ¬ ((pre.length : Int) + 1 < 1) := by omega
      have hvl := vc_len pre
      have bb0 : pre.length * 16 ≤ 140737488355328 := by simp at b1; omega
      have bb1 : (pre.length + 1) * 16 ≤ 140737488355328 := by simp at b1; omega
      have bb2 : pre.length ≤ 9223372036854775807 := by simp at b1; omega
      have bb3 : pre.length ≤ 9223372036854775806 := by simp at b1; omega
      have bb4 : pre.length + 1 ≤ 9223372036854775807 := by simp at b1; omega
      have hx' := ne_of hk' hn
      have y1 : ¬ w = n := by have := lt_of hk' hn; omega
      have x3' : pre.length * 2 ≤ k'.cells.length := by omega
      have x3'' : pre.length * 2 + 1 ≤ k'.cells.length := by omega
      obtain ⟨xk, xn⟩ := x
      generalize hmv : negL ⟨xk, xn⟩ = mv at *
      simp only [] at x1 x2
      simp [awp_skip, awp_label, awp_region, awp_seq, awp_if, awp_block, awp_ret, awp_scope, awp_exit, thenQ_n, thenQ_e, thenQ_r, blockQ_n, blockQ_e, blockQ_r, finQ_n, finQ_r, finQ_e, resAll, resVal, resOne, aops_nil, aops_cons, atl_nil, atl_cons, atlAll_nil, atlAll_cons, freeOp, List.filter_cons, List.filter_nil, adraw_eq, adrawA_nil, adrawA_cons, isA, goOp, appNew, mkOp, gev, Region.binds, Heap.le_refl, aop, aeval, gocall, heapOp, quietOp, ev, constAV, setd, yav, ystop, up, env0, cx_ti, cx_G, cx_pf, ti, globS, glob, pfL, lds, ldc, ldcs_1, ldcs_2, ldcs_3, ldcs_4, ldcs_5, ldcs_7, sts, sth, sls, slc, wr, place, fillOk, fillC, repZ, binI, isDiv, optInt, optI, eksOk, eksEq, EK.ok, EK.eq, AV.i, AV.isI, AV.isInt, AV.b.eq_1, AV.b.eq_2, AV.isB.eq_1, AV.isB.eq_2, AV.str, AV.isStr, unc_same, unc_tt, unc_tf, unc_f, unc_any, unc_v, unc_gp, unc_p, unc_s, unc_g, unc_e, unc_t, unc_fn, unc_okb, unc_bb, unc_isB, unc_b, AV.bb.eq_1, AV.bb.eq_2, AV.okb.eq_1, AV.okb.eq_2, AV.okg.eq_1, AV.okg.eq_2, AV.gd.eq_1, AV.gd.eq_2, AV.cells.eq_1, AV.cells.eq_2, AV.one.eq_1, AV.one.eq_2, AV.one.eq_3, AV.one.eq_4, AV.one.eq_5, AV.one.eq_6, AV.ones, AV.slen.eq_1, AV.slen.eq_2, AV.isS.eq_1, AV.isS.eq_2, AV.isS.eq_3, AV.isPtr, AV.gl, AV.isG, Value.oneCell', Nat.add_assoc, cut_of_le, nat_lt0, nat_le0, Tryd.f62, q0, q1, q2, ii, bv, r4, t4, o4, hk, hx, y0, c0, c1, c2, c3, c4, hw5, hlt, hwp, tb62, g103, g52, pure1, deI, hnz, hwc, o1, o2, o3, agree_up, agree_refl, fresh_up, hfr, stepPost, hw0, hwl, sr_s, vcells, vv, hnz1, hwt, hwI, hwI2, hlt1, hvl, bb0, bb1, bb2, bb3, bb4, hk', hx', y1, x1, x2, x3, x3', x3'', htk, g37, deV, hmv]
    by_cases d11 : c = 11
    · subst d11
      have hnz : needsV (11 : Nat) = 1 := by decide
      have hnz1 : needsV 11 = 1 := by decide
      obtain ⟨pre, x, rfl⟩ := snoc (st := st) hne
      obtain ⟨w, k', rfl, hk', x1, x2, x3, htk, _⟩ := hs.top
      have hs1 : stepV p en ⟨(11 : Nat), item, icol, iN, ito⟩ pos (pre ++ [x]) = some (pos + 1, pre ++ [notV x]) := by
        rw [step_not hr rfl]
        simp
      rw [hs1]
      have hwt : IntKind.i64.wrap ((pre.length : Int)) = pre.length := W_id (by unfold Rng; simp at b1; omega)
      have hwI : (pre.length : Int) < (pre.length : Int) + 1 := by omega
      have hwI2 : (pre.length : Int) ≤ (pre.length : Int) + 1 := by omega
      have hlt1 : ¬ ((pre.length : Int) + 1 < 1) := by omega
      have hvl := vc_len pre
      have bb0 : pre.length * 16 ≤ 140737488355328 := by simp at b1; omega
      have bb1 : (pre.length + 1) * 16 ≤ 140737488355328 := by simp at b1; omega
      have bb2 : pre.length ≤ 9223372036854775807 := by simp at b1; omega
      have bb3 : pre.length ≤ 9223372036854775806 := by simp at b1; omega
      have bb4 : pre.length + 1 ≤ 9223372036854775807 := by simp at b1; omega
      have hx' := ne_of hk' hn
      have y1 : ¬ w = n := by have := lt_of hk' hn; omega
      have x3' : pre.length * 2 ≤ k'.cells.length := by omega
      have x3'' : pre.length * 2 + 1 ≤ k'.cells.length := by omega
      obtain ⟨xk, xn⟩ := x
      generalize hmv : notV ⟨xk, xn⟩ = mv at *
      simp only [] at x1 x2
      simp [awp_skip, awp_label, awp_region, awp_seq, awp_if, awp_block, awp_ret, awp_scope, awp_exit, thenQ_n, thenQ_e, thenQ_r, blockQ_n, blockQ_e, blockQ_r, finQ_n, finQ_r, finQ_e, resAll, resVal, resOne, aops_nil, aops_cons, atl_nil, atl_cons, atlAll_nil, atlAll_cons, freeOp, List.filter_cons, List.filter_nil, adraw_eq, adrawA_nil, adrawA_cons, isA, goOp, appNew, mkOp, gev, Region.binds, Heap.le_refl, aop, aeval, gocall, heapOp, quietOp, ev, constAV, setd, yav, ystop, up, env0, cx_ti, cx_G, cx_pf, ti, globS, glob, pfL, lds, ldc, ldcs_1, ldcs_2, ldcs_3, ldcs_4, ldcs_5, ldcs_7, sts, sth, sls, slc, wr, place, fillOk, fillC, repZ, binI, isDiv, optInt, optI, eksOk, eksEq, EK.ok, EK.eq, AV.i, AV.isI, AV.isInt, AV.b.eq_1, AV.b.eq_2, AV.isB.eq_1, AV.isB.eq_2, AV.str, AV.isStr, unc_same, unc_tt, unc_tf, unc_f, unc_any, unc_v, unc_gp, unc_p, unc_s, unc_g, unc_e, unc_t, unc_fn, unc_okb, unc_bb, unc_isB, unc_b, AV.bb.eq_1, AV.bb.eq_2, AV.okb.eq_1, AV.okb.eq_2, AV.okg.eq_1, AV.okg.eq_2, AV.gd.eq_1, AV.gd.eq_2, AV.cells.eq_1, AV.cells.eq_2, AV.one.eq_1, AV.one.eq_2, AV.one.eq_3, AV.one.eq_4, AV.one.eq_5, AV.one.eq_6, AV.ones, AV.slen.eq_1, AV.slen.eq_2, AV.isS.eq_1, AV.isS.eq_2, AV.isS.eq_3, AV.isPtr, AV.gl, AV.isG, Value.oneCell', Nat.add_assoc, cut_of_le, nat_lt0, nat_le0, Tryd.f62, q0, q1, q2, ii, bv, r4, t4, o4, hk, hx, y0, c0, c1, c2, c3, c4, hw5, hlt, hwp, tb62, g103, g52, pure1, deI, hnz, hwc, o1, o2, o3, agree_up, agree_refl, fresh_up, hfr, stepPost, hw0, hwl, sr_s, vcells, vv, hnz1, hwt, hwI, hwI2, hlt1, hvl, bb0, bb1, bb2, bb3, bb4, hk', hx', y1, x1, x2, x3, x3', x3'', htk, g19, deV, hmv]
    have h10 : ¬ (c : Int) = 10 := by omega
    have h11 : ¬ (c : Int) = 11 := by omega
    by_cases d25 : 25 ≤ c
    · have hI25 : (25 : Int) ≤ (c : Int) := by omega
      have h256 : (c : Int) = 25 ∨ (c : Int) = 26 := by omega
      have hnz : needsV c = 1 := by unfold needsV; rw [if_neg (by omega), if_neg (by omega), if_pos (by omega)]
      have hnz25 : needsV 25 = 1 := by decide
      have hnz26 : needsV 26 = 1 := by decide
      obtain ⟨pre, x, rfl⟩ := snoc (st := st) hne
      have hs0 := hs
      obtain ⟨w, k', rfl, hk', x1, x2, x3, htk, _⟩ := hs.top
      obtain ⟨xk, xn⟩ := x
      simp only [] at x1 x2
      have hwt : IntKind.i64.wrap ((pre.length : Int)) = pre.length := W_id (by unfold Rng; simp at b1; omega)
      have hwI : (pre.length : Int) < (pre.length : Int) + 1 := by omega
      have hwI2 : (pre.length : Int) ≤ (pre.length : Int) + 1 := by omega
      have hlt1 : ¬ ((pre.length : Int) + 1 < 1) := by omega
      have hvl := vc_len pre
      have bb0 : pre.length * 16 ≤ 140737488355328 := by simp at b1; omega
      have bb1 : (pre.length + 1) * 16 ≤ 140737488355328 := by simp at b1; omega
      have bb2 : pre.length ≤ 9223372036854775807 := by simp at b1; omega
      have bb3 : pre.length ≤ 9223372036854775806 := by simp at b1; omega
      have bb4 : pre.length + 1 ≤ 9223372036854775807 := by simp at b1; omega
      have hx' := ne_of hk' hn
      have y1 : ¬ w = n := by have := lt_of hk' hn; omega
      have x3' : pre.length * 2 ≤ k'.cells.length := by omega
      have x3'' : pre.length * 2 + 1 ≤ k'.cells.length := by omega
      by_cases k1 : ito ≤ pos
      · rw [step_jbad hr hI25 (.inl k1)]
        simp [awp_skip, awp_label, awp_region, awp_seq, awp_if, awp_block, awp_ret, awp_scope, awp_exit, thenQ_n, thenQ_e, thenQ_r, blockQ_n, blockQ_e, blockQ_r, finQ_n, finQ_r, finQ_e, resAll, resVal, resOne, aops_nil, aops_cons, atl_nil, atl_cons, atlAll_nil, atlAll_cons, freeOp, List.filter_cons, List.filter_nil, adraw_eq, adrawA_nil, adrawA_cons, isA, goOp, appNew, mkOp, gev, Region.binds, Heap.le_refl, aop, aeval, gocall, heapOp, quietOp, ev, constAV, setd, yav, ystop, up, env0, cx_ti, cx_G, cx_pf, ti, globS, glob, pfL, lds, ldc, ldcs_1, ldcs_2, ldcs_3, ldcs_4, ldcs_5, ldcs_7, sts, sth, sls, slc, wr, place, fillOk, fillC, repZ, binI, isDiv, optInt, optI, eksOk, eksEq, EK.ok, EK.eq, AV.i, AV.isI, AV.isInt, AV.b.eq_1, AV.b.eq_2, AV.isB.eq_1, AV.isB.eq_2, AV.str, AV.isStr, unc_same, unc_tt, unc_tf, unc_f, unc_any, unc_v, unc_gp, unc_p, unc_s, unc_g, unc_e, unc_t, unc_fn, unc_okb, unc_bb, unc_isB, unc_b, AV.bb.eq_1, AV.bb.eq_2, AV.okb.eq_1, AV.okb.eq_2, AV.okg.eq_1, AV.okg.eq_2, AV.gd.eq_1, AV.gd.eq_2, AV.cells.eq_1, AV.cells.eq_2, AV.one.eq_1, AV.one.eq_2, AV.one.eq_3, AV.one.eq_4, AV.one.eq_5, AV.one.eq_6, AV.ones, AV.slen.eq_1, AV.slen.eq_2, AV.isS.eq_1, AV.isS.eq_2, AV.isS.eq_3, AV.isPtr, AV.gl, AV.isG, Value.oneCell', Nat.add_assoc, cut_of_le, nat_lt0, nat_le0, Tryd.f62, q0, q1, q2, ii, bv, r4, t4, o4, hk, hx, y0, c0, c1, c2, c3, c4, hw5, hlt, hwp, tb62, g103, g52, pure1, deI, hnz, hwc, o1, o2, o3, agree_up, agree_refl, fresh_up, hfr, stepPost, hw0, hwl, vv, hwt, hwI, hwI2, hlt1, hvl, bb0, bb1, bb2, bb3, bb4, hk', hx', y1, x1, x2, x3, x3', x3'', h1n, h9, h2n, h3n, h5, h256, k1]
      by_cases k2 : (p.code.length : Int) < ito
      · rw [step_jbad hr hI25 (.inr k2)]
        simp [awp_skip, awp_label, awp_region, awp_seq, awp_if, awp_block, awp_ret, awp_scope, awp_exit, thenQ_n, thenQ_e, thenQ_r, blockQ_n, blockQ_e, blockQ_r, finQ_n, finQ_r, finQ_e, resAll, resVal, resOne, aops_nil, aops_cons, atl_nil, atl_cons, atlAll_nil, atlAll_cons, freeOp, List.filter_cons, List.filter_nil, adraw_eq, adrawA_nil, adrawA_cons, isA, goOp, appNew, mkOp, gev, Region.binds, Heap.le_refl, aop, aeval, gocall, heapOp, quietOp, ev, constAV, setd, yav, ystop, up, env0, cx_ti, cx_G, cx_pf, ti, globS, glob, pfL, lds, ldc, ldcs_1, ldcs_2, ldcs_3, ldcs_4, ldcs_5, ldcs_7, sts, sth, sls, slc, wr, place, fillOk, fillC, repZ, binI, isDiv, optInt, optI, eksOk, eksEq, EK.ok, EK.eq, AV.i, AV.isI, AV.isInt, AV.b.eq_1, AV.b.eq_2, AV.isB.eq_1, AV.isB.eq_2, AV.str, AV.isStr, unc_same, unc_tt, unc_tf, unc_f, unc_any, unc_v, unc_gp, unc_p, unc_s, unc_g, unc_e, unc_t, unc_fn, unc_okb, unc_bb, unc_isB, unc_b, AV.bb.eq_1, AV.bb.eq_2, AV.okb.eq_1, AV.okb.eq_2, AV.okg.eq_1, AV.okg.eq_2, AV.gd.eq_1, AV.gd.eq_2, AV.cells.eq_1, AV.cells.eq_2, AV.one.eq_1, AV.one.eq_2, AV.one.eq_3, AV.one.eq_4, AV.one.eq_5, AV.one.eq_6, AV.ones, AV.slen.eq_1, AV.slen.eq_2, AV.isS.eq_1, AV.isS.eq_2, AV.isS.eq_3, AV.isPtr, AV.gl, AV.isG, Value.oneCell', Nat.add_assoc, cut_of_le, nat_lt0, nat_le0, Tryd.f62, q0, q1, q2, ii, bv, r4, t4, o4, hk, hx, y0, c0, c1, c2, c3, c4, hw5, hlt, hwp, tb62, g103, g52, pure1, deI, hnz, hwc, o1, o2, o3, agree_up, agree_refl, fresh_up, hfr, stepPost, hw0, hwl, vv, hwt, hwI, hwI2, hlt1, hvl, bb0, bb1, bb2, bb3, bb4, hk', hx', y1, x1, x2, x3, x3', x3'', h1n, h9, h2n, h3n, h5, h256, k1, k2]
      obtain ⟨tn, rfl⟩ : ∃ tn : Nat, ito = tn := ⟨ito.toNat, by omega⟩
      have k3 : pos < tn := by omega
      have k4 : tn ≤ p.code.length := by omega
      have k3' : ¬ tn ≤ pos := by omega
      have k4' : ¬ p.code.length < tn := by omega
      have kk : ¬ ((tn : Int) ≤ pos ∨ (tn : Int) > p.code.length) := by omega
      have go : ((pre ++ [⟨xk, xn⟩] : List V).getLastD unk) = ⟨xk, xn⟩ := by simp
      have c2526 : ((c : Int) = 25) = ¬ (c : Int) = 26 := by apply propext; omega
      by_cases hj : xk = true ∧ (xn ≠ 0 ↔ (c : Int) = 26)
      · have hs1 : stepV p en ⟨c, item, icol, iN, tn⟩ pos (pre ++ [⟨xk, xn⟩]) = some (tn, pre ++ [⟨xk, xn⟩]) := by
          have := step_jump (p := p) (e := en) (i := ⟨c, item, icol, iN, tn⟩) hr hI25 kk (by rw [go]; exact hj)
          simpa using this
        rw [hs1]
        obtain ⟨rfl, hj2⟩ := hj
        by_cases hx0 : xn = 0
        · have hc26' : ¬ (c : Int) = 26 := fun e => (hj2.2 e) hx0
          have hc25' : (c : Int) = 25 := by omega
          have bq1 : (xn == 0) = true := by simp [hx0]
          have bq2 : ((c : Int) == 25) = true := by simpa using hc25'
          simp [awp_skip, awp_label, awp_region, awp_seq, awp_if, awp_block, awp_ret, awp_scope, awp_exit, thenQ_n, thenQ_e, thenQ_r, blockQ_n, blockQ_e, blockQ_r, finQ_n, finQ_r, finQ_e, resAll, resVal, resOne, aops_nil, aops_cons, atl_nil, atl_cons, atlAll_nil, atlAll_cons, freeOp, List.filter_cons, List.filter_nil, adraw_eq, adrawA_nil, adrawA_cons, isA, goOp, appNew, mkOp, gev, Region.binds, Heap.le_refl, aop, aeval, gocall, heapOp, quietOp, ev, constAV, setd, yav, ystop, up, env0, cx_ti, cx_G, cx_pf, ti, globS, glob, pfL, lds, ldc, ldcs_1, ldcs_2, ldcs_3, ldcs_4, ldcs_5, ldcs_7, sts, sth, sls, slc, wr, place, fillOk, fillC, repZ, binI, isDiv, optInt, optI, eksOk, eksEq, EK.ok, EK.eq, AV.i, AV.isI, AV.isInt, AV.b.eq_1, AV.b.eq_2, AV.isB.eq_1, AV.isB.eq_2, AV.str, AV.isStr, unc_same, unc_tt, unc_tf, unc_f, unc_any, unc_v, unc_gp, unc_p, unc_s, unc_g, unc_e, unc_t, unc_fn, unc_okb, unc_bb, unc_isB, unc_b, AV.bb.eq_1, AV.bb.eq_2, AV.okb.eq_1, AV.okb.eq_2, AV.okg.eq_1, AV.okg.eq_2, AV.gd.eq_1, AV.gd.eq_2, AV.cells.eq_1, AV.cells.eq_2, AV.one.eq_1, AV.one.eq_2, AV.one.eq_3, AV.one.eq_4, AV.one.eq_5, AV.one.eq_6, AV.ones, AV.slen.eq_1, AV.slen.eq_2, AV.isS.eq_1, AV.isS.eq_2, AV.isS.eq_3, AV.isPtr, AV.gl, AV.isG, Value.oneCell', Nat.add_assoc, cut_of_le, nat_lt0, nat_le0, Tryd.f62, q0, q1, q2, ii, bv, r4, t4, o4, hk, hx, y0, c0, c1, c2, c3, c4, hw5, hlt, hwp, tb62, g103, g52, pure1, deI, hnz, hwc, o1, o2, o3, agree_up, agree_refl, fresh_up, hfr, stepPost, hw0, hwl, vv, hwt, hwI, hwI2, hlt1, hvl, bb0, bb1, bb2, bb3, bb4, hk', hx', y1, x1, x2, x3, x3', x3'', h1n, h9, h2n, h3n, h5, h256, k1, k2, k3, k4, k3', k4', hx0, hc25', bq1, bq2, hnz25, hnz26]
          rw [hx0] at hs0
          exact hs0.le (agr_le hn (by simp [agree_up, agree_refl]))
        · have hc26' : (c : Int) = 26 := hj2.1 hx0
          have hc25' : ¬ (c : Int) = 25 := by omega
          have bq1 : (xn == 0) = false := by simp [hx0]
          have bq2 : ((c : Int) == 25) = false := by simpa using hc25'
          simp [awp_skip, awp_label, awp_region, awp_seq, awp_if, awp_block, awp_ret, awp_scope, awp_exit, thenQ_n, thenQ_e, thenQ_r, blockQ_n, blockQ_e, blockQ_r, finQ_n, finQ_r, finQ_e, resAll, resVal, resOne, aops_nil, aops_cons, atl_nil, atl_cons, atlAll_nil, atlAll_cons, freeOp, List.filter_cons, List.filter_nil, adraw_eq, adrawA_nil, adrawA_cons, isA, goOp, appNew, mkOp, gev, Region.binds, Heap.le_refl, aop, aeval, gocall, heapOp, quietOp, ev, constAV, setd, yav, ystop, up, env0, cx_ti, cx_G, cx_pf, ti, globS, glob, pfL, lds, ldc, ldcs_1, ldcs_2, ldcs_3, ldcs_4, ldcs_5, ldcs_7, sts, sth, sls, slc, wr, place, fillOk, fillC, repZ, binI, isDiv, optInt, optI, eksOk, eksEq, EK.ok, EK.eq, AV.i, AV.isI, AV.isInt, AV.b.eq_1, AV.b.eq_2, AV.isB.eq_1, AV.isB.eq_2, AV.str, AV.isStr, unc_same, unc_tt, unc_tf, unc_f, unc_any, unc_v, unc_gp, unc_p, unc_s, unc_g, unc_e, unc_t, unc_fn, unc_okb, unc_bb, unc_isB, unc_b, AV.bb.eq_1, AV.bb.eq_2, AV.okb.eq_1, AV.okb.eq_2, AV.okg.eq_1, AV.okg.eq_2, AV.gd.eq_1, AV.gd.eq_2, AV.cells.eq_1, AV.cells.eq_2, AV.one.eq_1, AV.one.eq_2, AV.one.eq_3, AV.one.eq_4, AV.one.eq_5, AV.one.eq_6, AV.ones, AV.slen.eq_1, AV.slen.eq_2, AV.isS.eq_1, AV.isS.eq_2, AV.isS.eq_3, AV.isPtr, AV.gl, AV.isG, Value.oneCell', Nat.add_assoc, cut_of_le, nat_lt0, nat_le0, Tryd.f62, q0, q1, q2, ii, bv, r4, t4, o4, hk, hx, y0, c0, c1, c2, c3, c4, hw5, hlt, hwp, tb62, g103, g52, pure1, deI, hnz, hwc, o1, o2, o3, agree_up, agree_refl, fresh_up, hfr, stepPost, hw0, hwl, vv, hwt, hwI, hwI2, hlt1, hvl, bb0, bb1, bb2, bb3, bb4, hk', hx', y1, x1, x2, x3, x3', x3'', h1n, h9, h2n, h3n, h5, h256, k1, k2, k3, k4, k3', k4', hx0, hc25', hc26', bq1, bq2, hnz25, hnz26]
          exact hs0.le (agr_le hn (by simp [agree_up, agree_refl]))
      · have hs1 : stepV p en ⟨c, item, icol, iN, tn⟩ pos (pre ++ [⟨xk, xn⟩]) = some (pos + 1, pre ++ [⟨xk, xn⟩]) := by
          have := step_stay (p := p) (e := en) (i := ⟨c, item, icol, iN, tn⟩) hr hI25 kk (by rw [go]; exact hj)
          simpa using this
        rw [hs1]
        cases xk with
        | false =>
          simp [awp_skip, awp_label, awp_region, awp_seq, awp_if, awp_block, awp_ret, awp_scope, awp_exit, thenQ_n, thenQ_e, thenQ_r, blockQ_n, blockQ_e, blockQ_r, finQ_n, finQ_r, finQ_e, resAll, resVal, resOne, aops_nil, aops_cons, atl_nil, atl_cons, atlAll_nil, atlAll_cons, freeOp, List.filter_cons, List.filter_nil, adraw_eq, adrawA_nil, adrawA_cons, isA, goOp, appNew, mkOp, gev, Region.binds, Heap.le_refl, aop, aeval, gocall, heapOp, quietOp, ev, constAV, setd, yav, ystop, up, env0, cx_ti, cx_G, cx_pf, ti, globS, glob, pfL, lds, ldc, ldcs_1, ldcs_2, ldcs_3, ldcs_4, ldcs_5, ldcs_7, sts, sth, sls, slc, wr, place, fillOk, fillC, repZ, binI, isDiv, optInt, optI, eksOk, eksEq, EK.ok, EK.eq, AV.i, AV.isI, AV.isInt, AV.b.eq_1, AV.b.eq_2, AV.isB.eq_1, AV.isB.eq_2, AV.str, AV.isStr, unc_same, unc_tt, unc_tf, unc_f, unc_any, unc_v, unc_gp, unc_p, unc_s, unc_g, unc_e, unc_t, unc_fn, unc_okb, unc_bb, unc_isB, unc_b, AV.bb.eq_1, AV.bb.eq_2, AV.okb.eq_1, AV.okb.eq_2, AV.okg.eq_1, AV.okg.eq_2, AV.gd.eq_1, AV.gd.eq_2, AV.cells.eq_1, AV.cells.eq_2, AV.one.eq_1, AV.one.eq_2, AV.one.eq_3, AV.one.eq_4, AV.one.eq_5, AV.one.eq_6, AV.ones, AV.slen.eq_1, AV.slen.eq_2, AV.isS.eq_1, AV.isS.eq_2, AV.isS.eq_3, AV.isPtr, AV.gl, AV.isG, Value.oneCell', Nat.add_assoc, cut_of_le, nat_lt0, nat_le0, Tryd.f62, q0, q1, q2, ii, bv, r4, t4, o4, hk, hx, y0, c0, c1, c2, c3, c4, hw5, hlt, hwp, tb62, g103, g52, pure1, deI, hnz, hwc, o1, o2, o3, agree_up, agree_refl, fresh_up, hfr, stepPost, hw0, hwl, vv, hwt, hwI, hwI2, hlt1, hvl, bb0, bb1, bb2, bb3, bb4, hk', hx', y1, x1, x2, x3, x3', x3'', h1n, h9, h2n, h3n, h5, h256, k1, k2, k3, k4, k3', k4']
          exact hs0.le (agr_le hn (by simp [agree_up, agree_refl]))
        | true =>
          by_cases hx0 : xn = 0
          · have hc26' : (c : Int) = 26 := by
              by_cases e : (c : Int) = 26
              · exact e
              · exact absurd ⟨rfl, ⟨fun h => absurd hx0 h, fun h => absurd h e⟩⟩ hj
            have hc25' : ¬ (c : Int) = 25 := by omega
            have bq1 : (xn == 0) = true := by simp [hx0]
            have bq2 : ((c : Int) == 25) = false := by simpa using hc25'
            simp [awp_skip, awp_label, awp_region, awp_seq, awp_if, awp_block, awp_ret, awp_scope, awp_exit, thenQ_n, thenQ_e, thenQ_r, blockQ_n, blockQ_e, blockQ_r, finQ_n, finQ_r, finQ_e, resAll, resVal, resOne, aops_nil, aops_cons, atl_nil, atl_cons, atlAll_nil, atlAll_cons, freeOp, List.filter_cons, List.filter_nil, adraw_eq, adrawA_nil, adrawA_cons, isA, goOp, appNew, mkOp, gev, Region.binds, Heap.le_refl, aop, aeval, gocall, heapOp, quietOp, ev, constAV, setd, yav, ystop, up, env0, cx_ti, cx_G, cx_pf, ti, globS, glob, pfL, lds, ldc, ldcs_1, ldcs_2, ldcs_3, ldcs_4, ldcs_5, ldcs_7, sts, sth, sls, slc, wr, place, fillOk, fillC, repZ, binI, isDiv, optInt, optI, eksOk, eksEq, EK.ok, EK.eq, AV.i, AV.isI, AV.isInt, AV.b.eq_1, AV.b.eq_2, AV.isB.eq_1, AV.isB.eq_2, AV.str, AV.isStr, unc_same, unc_tt, unc_tf, unc_f, unc_any, unc_v, unc_gp, unc_p, unc_s, unc_g, unc_e, unc_t, unc_fn, unc_okb, unc_bb, unc_isB, unc_b, AV.bb.eq_1, AV.bb.eq_2, AV.okb.eq_1, AV.okb.eq_2, AV.okg.eq_1, AV.okg.eq_2, AV.gd.eq_1, AV.gd.eq_2, AV.cells.eq_1, AV.cells.eq_2, AV.one.eq_1, AV.one.eq_2, AV.one.eq_3, AV.one.eq_4, AV.one.eq_5, AV.one.eq_6, AV.ones, AV.slen.eq_1, AV.slen.eq_2, AV.isS.eq_1, AV.isS.eq_2, AV.isS.eq_3, AV.isPtr, AV.gl, AV.isG, Value.oneCell', Nat.add_assoc, cut_of_le, nat_lt0, nat_le0, Tryd.f62, q0, q1, q2, ii, bv, r4, t4, o4, hk, hx, y0, c0, c1, c2, c3, c4, hw5, hlt, hwp, tb62, g103, g52, pure1, deI, hnz, hwc, o1, o2, o3, agree_up, agree_refl, fresh_up, hfr, stepPost, hw0, hwl, vv, hwt, hwI, hwI2, hlt1, hvl, bb0, bb1, bb2, bb3, bb4, hk', hx', y1, x1, x2, x3, x3', x3'', h1n, h9, h2n, h3n, h5, h256, k1, k2, k3, k4, k3', k4', hx0, hc25', hc26', bq1, bq2, hnz25, hnz26]
            rw [hx0] at hs0
            exact hs0.le (agr_le hn (by simp [agree_up, agree_refl]))
          · have hc26' : ¬ (c : Int) = 26 := fun e => hj ⟨rfl, ⟨fun _ => e, fun _ => hx0⟩⟩
            have hc25' : (c : Int) = 25 := by omega
            have bq1 : (xn == 0) = false := by simp [hx0]
            have bq2 : ((c : Int) == 25) = true := by simpa using hc25'
            simp [awp_skip, awp_label, awp_region, awp_seq, awp_if, awp_block, awp_ret, awp_scope, awp_exit, thenQ_n, thenQ_e, thenQ_r, blockQ_n, blockQ_e, blockQ_r, finQ_n, finQ_r, finQ_e, resAll, resVal, resOne, aops_nil, aops_cons, atl_nil, atl_cons, atlAll_nil, atlAll_cons, freeOp, List.filter_cons, List.filter_nil, adraw_eq, adrawA_nil, adrawA_cons, isA, goOp, appNew, mkOp, gev, Region.binds, Heap.le_refl, aop, aeval, gocall, heapOp, quietOp, ev, constAV, setd, yav, ystop, up, env0, cx_ti, cx_G, cx_pf, ti, globS, glob, pfL, lds, ldc, ldcs_1, ldcs_2, ldcs_3, ldcs_4, ldcs_5, ldcs_7, sts, sth, sls, slc, wr, place, fillOk, fillC, repZ, binI, isDiv, optInt, optI, eksOk, eksEq, EK.ok, EK.eq, AV.i, AV.isI, AV.isInt, AV.b.eq_1, AV.b.eq_2, AV.isB.eq_1, AV.isB.eq_2, AV.str, AV.isStr, unc_same, unc_tt, unc_tf, unc_f, unc_any, unc_v, unc_gp, unc_p, unc_s, unc_g, unc_e, unc_t, unc_fn, unc_okb, unc_bb, unc_isB, unc_b, AV.bb.eq_1, AV.bb.eq_2, AV.okb.eq_1, AV.okb.eq_2, AV.okg.eq_1, AV.okg.eq_2, AV.gd.eq_1, AV.gd.eq_2, AV.cells.eq_1, AV.cells.eq_2, AV.one.eq_1, AV.one.eq_2, AV.one.eq_3, AV.one.eq_4, AV.one.eq_5, AV.one.eq_6, AV.ones, AV.slen.eq_1, AV.slen.eq_2, AV.isS.eq_1, AV.isS.eq_2, AV.isS.eq_3, AV.isPtr, AV.gl, AV.isG, Value.oneCell', Nat.add_assoc, cut_of_le, nat_lt0, nat_le0, Tryd.f62, q0, q1, q2, ii, bv, r4, t4, o4, hk, hx, y0, c0, c1, c2, c3, c4, hw5, hlt, hwp, tb62, g103, g52, pure1, deI, hnz, hwc, o1, o2, o3, agree_up, agree_refl, fresh_up, hfr, stepPost, hw0, hwl, vv, hwt, hwI, hwI2, hlt1, hvl, bb0, bb1, bb2, bb3, bb4, hk', hx', y1, x1, x2, x3, x3', x3'', h1n, h9, h2n, h3n, h5, h256, k1, k2, k3, k4, k3', k4', hx0, hc25', bq1, bq2, hnz25, hnz26]
            exact hs0.le (agr_le hn (by simp [agree_up, agree_refl]))
    have h25n : ¬ (c : Int) = 25 := by omega
    have h26n : ¬ (c : Int) = 26 := by omega
    have hnz : needsV c = 2 := by unfold needsV; rw [if_neg (by omega), if_neg (by omega), if_neg (by omega)]
    have hI2 : 12 ≤ (c : Int) ∧ (c : Int) < 25 := by omega
    obtain ⟨pre, y, x, rfl⟩ := snoc2 (st := st) (by omega)
    obtain ⟨w, k', rfl, hk', x1, x2, x4, x5, x3, htk⟩ := hs.top2
    have hs1 : stepV p en ⟨c, item, icol, iN, ito⟩ pos (pre ++ [y] ++ [x]) = some (pos + 1, pre ++ [rapplyL ((c : Int) + 2) y x]) := by
      rw [step_two hr hI2, ← apply_eq _ (hrng y (by simp)) (hrng x (by simp))]
      simp
    rw [hs1]
    have hwt : IntKind.i64.wrap ((pre.length : Int)) = pre.length := W_id (by unfold Rng; simp at b1; omega)
    have hwt2 : IntKind.i64.wrap ((pre.length : Int) + 2 - 2) = pre.length := by
      rw [show (pre.length : Int) + 2 - 2 = pre.length by omega]
      exact hwt
    have hwt1 : IntKind.i64.wrap ((pre.length : Int) + 2 - 1) = pre.length + 1 := by
      have e1 : IntKind.i64.wrap ((pre.length : Int) + 2 - 1) = pre.length + 2 - 1 := W_id (by unfold Rng; simp at b1; omega)
      rw [e1]
      omega
    have ht1 : ((pre.length : Int) + 1).toNat = pre.length + 1 := by omega
    have hl2 : ¬ ((pre.length : Int) + 2 < 2) := by omega
    have hl3 : (pre.length : Int) < pre.length + 2 := by omega
    have hl3' : (pre.length : Int) ≤ pre.length + 2 := by omega
    have hl4 : (pre.length : Int) + 1 < pre.length + 2 := by omega
    have hl5 : (0 : Int) ≤ pre.length + 1 := by omega
    have hl6 : pre.length * 2 + 2 ≤ k'.cells.length := by omega
    have hl7 : pre.length * 2 ≤ k'.cells.length := by omega
    have hvl := vc_len pre
    have bb0 : pre.length * 16 ≤ 140737488355328 := by simp at b1; omega
    have bb1 : (pre.length + 1) * 16 ≤ 140737488355328 := by simp at b1; omega
    have bb2 : pre.length ≤ 9223372036854775807 := by simp at b1; omega
    have bb3 : pre.length ≤ 9223372036854775806 := by simp at b1; omega
    have hx' := ne_of hk' hn
    have y1 : ¬ w = n := by have := lt_of hk' hn; omega
    have hwo : IntKind.i64.wrap (IntKind.i64.wrap ((c : Int) - 12) + 14) = c + 2 := by
      have e1 : IntKind.i64.wrap ((c : Int) - 12) = c - 12 := W_id (by unfold Rng; omega)
      rw [e1]
      have e2 : IntKind.i64.wrap ((c : Int) - 12 + 14) = c - 12 + 14 := W_id (by unfold Rng; omega)
      rw [e2]
      omega
    obtain ⟨xk, xn⟩ := x
    obtain ⟨yk, yn⟩ := y
    generalize hmv : rapplyL ((c : Int) + 2) ⟨yk, yn⟩ ⟨xk, xn⟩ = mv at *
    simp only [] at x1 x2 x4 x5
    simp [awp_skip, awp_label, awp_region, awp_seq, awp_if, awp_block, awp_ret, awp_scope, awp_exit, thenQ_n, thenQ_e, thenQ_r, blockQ_n, blockQ_e, blockQ_r, finQ_n, finQ_r, finQ_e, resAll, resVal, resOne, aops_nil, aops_cons, atl_nil, atl_cons, atlAll_nil, atlAll_cons, freeOp, List.filter_cons, List.filter_nil, adraw_eq, adrawA_nil, adrawA_cons, isA, goOp, appNew, mkOp, gev, Region.binds, Heap.le_refl, aop, aeval, gocall, heapOp, quietOp, ev, constAV, setd, yav, ystop, up, env0, cx_ti, cx_G, cx_pf, ti, globS, glob, pfL, lds, ldc, ldcs_1, ldcs_2, ldcs_3, ldcs_4, ldcs_5, ldcs_7, sts, sth, sls, slc, wr, place, fillOk, fillC, repZ, binI, isDiv, optInt, optI, eksOk, eksEq, EK.ok, EK.eq, AV.i, AV.isI, AV.isInt, AV.b.eq_1, AV.b.eq_2, AV.isB.eq_1, AV.isB.eq_2, AV.str, AV.isStr, unc_same, unc_tt, unc_tf, unc_f, unc_any, unc_v, unc_gp, unc_p, unc_s, unc_g, unc_e, unc_t, unc_fn, unc_okb, unc_bb, unc_isB, unc_b, AV.bb.eq_1, AV.bb.eq_2, AV.okb.eq_1, AV.okb.eq_2, AV.okg.eq_1, AV.okg.eq_2, AV.gd.eq_1, AV.gd.eq_2, AV.cells.eq_1, AV.cells.eq_2, AV.one.eq_1, AV.one.eq_2, AV.one.eq_3, AV.one.eq_4, AV.one.eq_5, AV.one.eq_6, AV.ones, AV.slen.eq_1, AV.slen.eq_2, AV.isS.eq_1, AV.isS.eq_2, AV.isS.eq_3, AV.isPtr, AV.gl, AV.isG, Value.oneCell', Nat.add_assoc, cut_of_le, nat_lt0, nat_le0, Tryd.f62, q0, q1, q2, ii, bv, r4, t4, o4, hk, hx, y0, c0, c1, c2, c3, c4, hw5, hlt, hwp, tb62, g103, g52, pure1, deI, hnz, hwc, o1, o2, o3, agree_up, agree_refl, fresh_up, hfr, stepPost, hw0, hwl, sr_s, vcells, vv, h1n, h9, h2n, h3n, h5, h10, h11, h25n, h26n, hwt, hwt1, hwt2, ht1, hl2, hl3, hl3', hl4, hl5, hl6, hl7, hvl, bb0, bb1, bb2, bb3, hk', hx', y1, x1, x2, x3, x4, x5, htk, hwo, g44, pure3, deV, hmv]
  exact key _ rfl rfl rfl
theorem c62 {h : Heap} {n : Nat} {x y sa : AV} {p : Pr} {en : En} {pos : Nat} {st : List V} (hp : dePr h x = some p) (he : deEn h y = some en) (hs : SR h sa st) (hpo : PrOk p) (heo : EnOk en) (hlt : pos < p.code.length) (hrng : ∀ v ∈ st, Rng v.n) (hlen : st.length ≤ pos) (hn : Fresh n h) :
    ACall (cx [] (pfL tb62)) 62 [x, y, .g [ii pos, sa, bv false]] h n fun z h' n' => agree n h h' ∧ Fresh n' h' ∧ n ≤ n' ∧ stepPost z h' (stepV p en p.code[pos] pos st) := by
  by_cases h9 : p.code[pos].code ≤ 9
  · exact c62a hp he hs hpo heo hlt hrng hlen hn h9
  · exact c62b hp he hs hpo heo hlt hrng hlen hn h9
end Go.Proofs.YtkfphaphiikloaaDoor
