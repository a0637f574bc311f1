/-
  THE NUMBERS OF THIS PROGRAM, PART F: sums and aggregates.
-/
import Derived.Test.YtkfphaphiikloaaDoorNe
import Derived.Test.YtkfphaphiikloaaDoorMa
set_option linter.unusedSimpArgs false
set_option linter.unusedVariables false
set_option linter.constructorNameAsVariable false
set_option linter.unusedSimpArgs false
namespace Go.Proofs.YtkfphaphiikloaaDoor
open Go Go.Eng

def sgn (x : Int) : Int := x.fdiv (2 ^ min 63 IntKind.i64.bits)
/-- One more number on a sum of two words. -/
def sumStep (s : Int × Int) (x : Int) : Int × Int :=
  ((s.1 + U (sgn x) + (s.2 + U x + 0) / 18446744073709551616) % 18446744073709551616, (s.2 + U x + 0) % 18446744073709551616)
def sumAt (l : List Int) (j : Nat) : Int × Int := (l.take j).foldl sumStep (0, 0)
theorem sumAt_succ {l : List Int} {j : Nat} (h : j < l.length) : sumAt l (j + 1) = sumStep (sumAt l j) (l.getD j 0) := by
  unfold sumAt
  rw [List.take_add_one, List.getElem?_eq_getElem h, List.foldl_append]
  simp [List.getD_eq_getElem?_getD, List.getElem?_eq_getElem h]
theorem sumAt_rng (l : List Int) (j : Nat) : (0 ≤ (sumAt l j).1 ∧ (sumAt l j).1 < 18446744073709551616) ∧ 0 ≤ (sumAt l j).2 ∧ (sumAt l j).2 < 18446744073709551616 := by
  have : ∀ (m : List Int) (s : Int × Int), ((0 ≤ s.1 ∧ s.1 < 18446744073709551616) ∧ 0 ≤ s.2 ∧ s.2 < 18446744073709551616) → ((0 ≤ (m.foldl sumStep s).1 ∧ (m.foldl sumStep s).1 < 18446744073709551616) ∧ 0 ≤ (m.foldl sumStep s).2 ∧ (m.foldl sumStep s).2 < 18446744073709551616) := fun m => by
    induction m with
    | nil => exact fun s h => h
    | cons x m ih => exact fun s h => ih _ (by unfold sumStep; simp only []; omega)
  exact this _ _ (by simp)
def sumL (l : List Int) : V := if W (sumAt l l.length).1 != sgn (W (sumAt l l.length).2) then unk else knownV (W (sumAt l l.length).2)
def g55 := pureL fun l => vv (sumL l)
theorem wrap_nat {j : Nat} (h : j < big) : IntKind.i64.wrap ((j : Int) + 1) = ((j + 1 : Nat) : Int) := by
  unfold big at h
  have e : IntKind.i64.wrap ((j : Int) + 1) = if 9223372036854775808 ≤ ((j : Int) + 1) % 18446744073709551616 then ((j : Int) + 1) % 18446744073709551616 - 18446744073709551616 else ((j : Int) + 1) % 18446744073709551616 := by
    simp [IntKind.wrap, IntKind.bits, IntKind.signed]
  rw [e]
  split <;> omega
theorem ro_at {h : Heap} {id : Nat} {k : Blk} (hk : h id = some k) : roH h id = some ⟨k.cells, k.ver, false, k.esz⟩ := by simp [roH, hk, Blk.ro]
theorem ne_of {h : Heap} {id n : Nat} {k : Blk} (hk : h id = some k) (hn : ∀ i, n ≤ i → h i = none) : ∀ j, ¬ id = n + j := fun j e => by
  have := hn id (by omega)
  rw [hk] at this
  cases this
def tb55 : List (FuncId × (List AV → Heap → PRes)) := [(74, g51), (159, g67)]
set_option maxRecDepth 100000 in
theorem p55 : P0 [1] 144 g55 := by
  refine mkL (S := [1]) (l := tb55) (tb_cons p51 (tb_cons p67 tb_nil)) Tryd.func144 rfl (by kernel_rfl) (fun a => rfl) (fun a l h n hi hl hn => ?_)
  have key : ∀ e : Nat → AV, e 0 = a → awp (cx [1] (pfL tb55)) (Tryd.f144.body.getD .skip) (finQ (cx [1] (pfL tb55)) Tryd.f144 fun z _ _ => z = vv (sumL l)) ⟨e, roH h, n⟩ := fun e he => by
    rcases ints_cases hi with ⟨rfl, rfl⟩ | ⟨id, off, k, rfl, hk, hoff, hat⟩
    · simp [awp_skip, awp_label, awp_region, awp_seq, awp_if, awp_block, awp_ret, awp_scope, awp_exit, thenQ_n, thenQ_e, thenQ_r, blockQ_n, blockQ_e, blockQ_r, finQ_n, finQ_r, finQ_e, resAll, resVal, resOne, aops_nil, aops_cons, atl_nil, atl_cons, atlAll_nil, atlAll_cons, freeOp, List.filter_cons, List.filter_nil, adraw_eq, adrawA_nil, adrawA_cons, isA, goOp, appNew, mkOp, gev, Region.binds, Heap.le_refl, aop, aeval, gocall, heapOp, quietOp, ev, constAV, setd, yav, ystop, up, env0, cx_ti, cx_G, cx_pf, ti, globS, glob, pfL, lds, ldc, ldcs, sts, sth, sls, slc, wr, place, fillOk, fillC, repZ, binI, isDiv, optInt, optI, eksOk, eksEq, EK.ok, EK.eq, AV.i, AV.isI, AV.isInt, AV.b.eq_1, AV.b.eq_2, AV.isB.eq_1, AV.isB.eq_2, AV.str, AV.isStr, unc_same, unc_tt, unc_tf, unc_f, unc_any, unc_v, unc_gp, unc_p, unc_s, unc_g, unc_e, unc_t, unc_fn, unc_okb, unc_bb, unc_isB, unc_b, AV.bb.eq_1, AV.bb.eq_2, AV.okb.eq_1, AV.okb.eq_2, AV.okg.eq_1, AV.okg.eq_2, AV.gd.eq_1, AV.gd.eq_2, AV.cells.eq_1, AV.cells.eq_2, AV.one.eq_1, AV.one.eq_2, AV.one.eq_3, AV.one.eq_4, AV.one.eq_5, AV.one.eq_6, AV.ones, AV.slen.eq_1, AV.slen.eq_2, AV.isS.eq_1, AV.isS.eq_2, AV.isS.eq_3, AV.isPtr, AV.gl, AV.isG, Value.oneCell', Nat.add_assoc, cut_of_le, nat_lt0, nat_le0, Tryd.f144, he]
      refine awp_loop (fun s => s.e 12 = ii 0 ∧ s.e 11 = ii 0 ∧ s.e 2 = .p n 0 0 ∧ s.e 3 = uu 0 ∧ s.e 4 = uu 0 ∧ s.h = up (roH h) n (some ⟨[.v (.bool false), .v (.int .i64 0)], 0, true, 2⟩)) (fun _ => 0) (by simp [up, ii, uu]) ?_
      rintro e' h' n' ⟨q12, q11, q2, q3, q4, hh⟩
      simp only [] at q12 q11 q2 q3 q4 hh
      subst hh
      simp [awp_skip, awp_label, awp_region, awp_seq, awp_if, awp_block, awp_ret, awp_scope, awp_exit, thenQ_n, thenQ_e, thenQ_r, blockQ_n, blockQ_e, blockQ_r, finQ_n, finQ_r, finQ_e, resAll, resVal, resOne, aops_nil, aops_cons, atl_nil, atl_cons, atlAll_nil, atlAll_cons, freeOp, List.filter_cons, List.filter_nil, adraw_eq, adrawA_nil, adrawA_cons, isA, goOp, appNew, mkOp, gev, Region.binds, Heap.le_refl, aop, aeval, gocall, heapOp, quietOp, ev, constAV, setd, yav, ystop, up, env0, cx_ti, cx_G, cx_pf, ti, globS, glob, pfL, lds, ldc, ldcs, sts, sth, sls, slc, wr, place, fillOk, fillC, repZ, binI, isDiv, optInt, optI, eksOk, eksEq, EK.ok, EK.eq, AV.i, AV.isI, AV.isInt, AV.b.eq_1, AV.b.eq_2, AV.isB.eq_1, AV.isB.eq_2, AV.str, AV.isStr, unc_same, unc_tt, unc_tf, unc_f, unc_any, unc_v, unc_gp, unc_p, unc_s, unc_g, unc_e, unc_t, unc_fn, unc_okb, unc_bb, unc_isB, unc_b, AV.bb.eq_1, AV.bb.eq_2, AV.okb.eq_1, AV.okb.eq_2, AV.okg.eq_1, AV.okg.eq_2, AV.gd.eq_1, AV.gd.eq_2, AV.cells.eq_1, AV.cells.eq_2, AV.one.eq_1, AV.one.eq_2, AV.one.eq_3, AV.one.eq_4, AV.one.eq_5, AV.one.eq_6, AV.ones, AV.slen.eq_1, AV.slen.eq_2, AV.isS.eq_1, AV.isS.eq_2, AV.isS.eq_3, AV.isPtr, AV.gl, AV.isG, Value.oneCell', Nat.add_assoc, cut_of_le, nat_lt0, nat_le0, q12, q11, q2, q3, q4, ii, uu, tb55, g51, pure1, deI, vv, knownV, sumL, sumAt, sgn, W, unk]
      decide
    · have h0 := ne_of hk hn 0
      have hro := ro_at hk
      simp only [Nat.add_zero] at h0
      simp [awp_skip, awp_label, awp_region, awp_seq, awp_if, awp_block, awp_ret, awp_scope, awp_exit, thenQ_n, thenQ_e, thenQ_r, blockQ_n, blockQ_e, blockQ_r, finQ_n, finQ_r, finQ_e, resAll, resVal, resOne, aops_nil, aops_cons, atl_nil, atl_cons, atlAll_nil, atlAll_cons, freeOp, List.filter_cons, List.filter_nil, adraw_eq, adrawA_nil, adrawA_cons, isA, goOp, appNew, mkOp, gev, Region.binds, Heap.le_refl, aop, aeval, gocall, heapOp, quietOp, ev, constAV, setd, yav, ystop, up, env0, cx_ti, cx_G, cx_pf, ti, globS, glob, pfL, lds, ldc, ldcs, sts, sth, sls, slc, wr, place, fillOk, fillC, repZ, binI, isDiv, optInt, optI, eksOk, eksEq, EK.ok, EK.eq, AV.i, AV.isI, AV.isInt, AV.b.eq_1, AV.b.eq_2, AV.isB.eq_1, AV.isB.eq_2, AV.str, AV.isStr, unc_same, unc_tt, unc_tf, unc_f, unc_any, unc_v, unc_gp, unc_p, unc_s, unc_g, unc_e, unc_t, unc_fn, unc_okb, unc_bb, unc_isB, unc_b, AV.bb.eq_1, AV.bb.eq_2, AV.okb.eq_1, AV.okb.eq_2, AV.okg.eq_1, AV.okg.eq_2, AV.gd.eq_1, AV.gd.eq_2, AV.cells.eq_1, AV.cells.eq_2, AV.one.eq_1, AV.one.eq_2, AV.one.eq_3, AV.one.eq_4, AV.one.eq_5, AV.one.eq_6, AV.ones, AV.slen.eq_1, AV.slen.eq_2, AV.isS.eq_1, AV.isS.eq_2, AV.isS.eq_3, AV.isPtr, AV.gl, AV.isG, Value.oneCell', Nat.add_assoc, cut_of_le, nat_lt0, nat_le0, Tryd.f144, he]
      refine awp_loop (fun s => ∃ j, j ≤ l.length ∧ s.e 10 = .s id k.ver off l.length ∧ s.e 12 = ii j ∧ s.e 11 = ii l.length ∧ s.e 2 = .p n 0 0 ∧ s.e 3 = uu (sumAt l j).1 ∧ s.e 4 = uu (sumAt l j).2 ∧ s.h = up (roH h) n (some ⟨[.v (.bool false), .v (.int .i64 0)], 0, true, 2⟩)) (fun s => l.length - (s.e 12).i.toNat) ⟨0, by simp [up, ii, uu, sumAt]⟩ ?_
      rintro e' h' n' ⟨j, hj, q10, q12, q11, q2, q3, q4, hh⟩
      simp only [] at q10 q12 q11 q2 q3 q4 hh
      subst hh
      by_cases hlt : j < l.length
      · have hget := hat j hlt
        have hw := wrap_nat (j := j) (by omega)
        obtain ⟨⟨r1, r2⟩, r3, r4⟩ := sumAt_rng l j
        have hs := sumAt_succ hlt
        simp [awp_skip, awp_label, awp_region, awp_seq, awp_if, awp_block, awp_ret, awp_scope, awp_exit, thenQ_n, thenQ_e, thenQ_r, blockQ_n, blockQ_e, blockQ_r, finQ_n, finQ_r, finQ_e, resAll, resVal, resOne, aops_nil, aops_cons, atl_nil, atl_cons, atlAll_nil, atlAll_cons, freeOp, List.filter_cons, List.filter_nil, adraw_eq, adrawA_nil, adrawA_cons, isA, goOp, appNew, mkOp, gev, Region.binds, Heap.le_refl, aop, aeval, gocall, heapOp, quietOp, ev, constAV, setd, yav, ystop, up, env0, cx_ti, cx_G, cx_pf, ti, globS, glob, pfL, lds, ldc, ldcs, sts, sth, sls, slc, wr, place, fillOk, fillC, repZ, binI, isDiv, optInt, optI, eksOk, eksEq, EK.ok, EK.eq, AV.i, AV.isI, AV.isInt, AV.b.eq_1, AV.b.eq_2, AV.isB.eq_1, AV.isB.eq_2, AV.str, AV.isStr, unc_same, unc_tt, unc_tf, unc_f, unc_any, unc_v, unc_gp, unc_p, unc_s, unc_g, unc_e, unc_t, unc_fn, unc_okb, unc_bb, unc_isB, unc_b, AV.bb.eq_1, AV.bb.eq_2, AV.okb.eq_1, AV.okb.eq_2, AV.okg.eq_1, AV.okg.eq_2, AV.gd.eq_1, AV.gd.eq_2, AV.cells.eq_1, AV.cells.eq_2, AV.one.eq_1, AV.one.eq_2, AV.one.eq_3, AV.one.eq_4, AV.one.eq_5, AV.one.eq_6, AV.ones, AV.slen.eq_1, AV.slen.eq_2, AV.isS.eq_1, AV.isS.eq_2, AV.isS.eq_3, AV.isPtr, AV.gl, AV.isG, Value.oneCell', Nat.add_assoc, cut_of_le, nat_lt0, nat_le0, q10, q12, q11, q2, q3, q4, ii, uu, tb55, g67, hlt, h0, hro, hget, hw]
        have eg : l.getD j 0 = l[j] := by simp [List.getD_eq_getElem?_getD, hlt]
        rw [eg] at hs
        obtain ⟨_, _, u1⟩ := U_spec l[j]
        obtain ⟨_, _, u2⟩ := U_spec (sgn l[j])
        have v1 : 0 ≤ IntKind.u64.wrap l[j] ∧ IntKind.u64.wrap l[j] < 18446744073709551616 := u1
        have v2 : 0 ≤ IntKind.u64.wrap (l[j].fdiv (2 ^ min 63 IntKind.i64.bits)) := u2.1
        refine ⟨by omega, ⟨r3, v1.1⟩, ⟨r1, v2, by omega, by omega⟩, ⟨j + 1, by omega, by omega, ?_, ?_⟩, by omega⟩
        · rw [hs]; simp [sumStep, sgn, U]
        · rw [hs]; simp [sumStep, U]
      · have hje : j = l.length := by omega
        subst hje
        simp [awp_skip, awp_label, awp_region, awp_seq, awp_if, awp_block, awp_ret, awp_scope, awp_exit, thenQ_n, thenQ_e, thenQ_r, blockQ_n, blockQ_e, blockQ_r, finQ_n, finQ_r, finQ_e, resAll, resVal, resOne, aops_nil, aops_cons, atl_nil, atl_cons, atlAll_nil, atlAll_cons, freeOp, List.filter_cons, List.filter_nil, adraw_eq, adrawA_nil, adrawA_cons, isA, goOp, appNew, mkOp, gev, Region.binds, Heap.le_refl, aop, aeval, gocall, heapOp, quietOp, ev, constAV, setd, yav, ystop, up, env0, cx_ti, cx_G, cx_pf, ti, globS, glob, pfL, lds, ldc, ldcs, sts, sth, sls, slc, wr, place, fillOk, fillC, repZ, binI, isDiv, optInt, optI, eksOk, eksEq, EK.ok, EK.eq, AV.i, AV.isI, AV.isInt, AV.b.eq_1, AV.b.eq_2, AV.isB.eq_1, AV.isB.eq_2, AV.str, AV.isStr, unc_same, unc_tt, unc_tf, unc_f, unc_any, unc_v, unc_gp, unc_p, unc_s, unc_g, unc_e, unc_t, unc_fn, unc_okb, unc_bb, unc_isB, unc_b, AV.bb.eq_1, AV.bb.eq_2, AV.okb.eq_1, AV.okb.eq_2, AV.okg.eq_1, AV.okg.eq_2, AV.gd.eq_1, AV.gd.eq_2, AV.cells.eq_1, AV.cells.eq_2, AV.one.eq_1, AV.one.eq_2, AV.one.eq_3, AV.one.eq_4, AV.one.eq_5, AV.one.eq_6, AV.ones, AV.slen.eq_1, AV.slen.eq_2, AV.isS.eq_1, AV.isS.eq_2, AV.isS.eq_3, AV.isPtr, AV.gl, AV.isG, Value.oneCell', Nat.add_assoc, cut_of_le, nat_lt0, nat_le0, q12, q11, q2, q3, q4, ii, uu, tb55, g51, pure1, deI, vv, knownV, sumL, sgn, W, unk]
        split <;> rename_i hc <;> simp [hc]
  exact key _ rfl
end Go.Proofs.YtkfphaphiikloaaDoor
