/-
  THE NUMBERS OF THIS PROGRAM, PART G: the reference's sum and extremes.
-/
import Derived.Test.YtkfphaphiikloaaDoorNf
import Derived.Test.YtkfphaphiikloaaDoorMb
set_option linter.unusedSimpArgs false
set_option linter.unusedVariables false
set_option linter.constructorNameAsVariable false
set_option linter.unusedSimpArgs false
namespace Go.Proofs.YtkfphaphiikloaaDoor
open Go Go.Eng

def rsumAt (l : List Int) (j : Nat) : Int × Int := (l.take j).foldl (fun s x => plusL s (widenL x)) (0, 0)
theorem rsumAt_succ {l : List Int} {j : Nat} (h : j < l.length) : rsumAt l (j + 1) = plusL (rsumAt l j) (widenL l[j]) := by
  unfold rsumAt
  rw [List.take_add_one, List.getElem?_eq_getElem h, List.foldl_append]
  simp
def rsumL (l : List Int) : V := fitL (rsumAt l l.length)
def g56 := pureL fun l => vv (rsumL l)
def tb56 : List (FuncId × (List AV → Heap → PRes)) := [(145, g61), (146, g62), (147, g63)]
set_option maxRecDepth 100000 in
theorem p56 : P0 [] 150 g56 := by
  refine mkL (S := []) (l := tb56) (tb_cons p61 (tb_cons p62 (tb_cons p63 tb_nil))) Tryd.func150 rfl (by kernel_rfl) (fun a => rfl) (fun a l h n hi hl hn => ?_)
  have key : ∀ e : Nat → AV, e 0 = a → awp (cx [] (pfL tb56)) (Tryd.f150.body.getD .skip) (finQ (cx [] (pfL tb56)) Tryd.f150 fun z _ _ => z = vv (rsumL l)) ⟨e, roH h, n⟩ := fun e he => by
    rcases ints_cases hi with ⟨rfl, rfl⟩ | ⟨id, off, k, rfl, hk, hoff, hat⟩
    · simp [awp_skip, awp_label, awp_region, awp_seq, awp_if, awp_block, awp_ret, awp_scope, awp_exit, thenQ_n, thenQ_e, thenQ_r, blockQ_n, blockQ_e, blockQ_r, finQ_n, finQ_r, finQ_e, resAll, resVal, resOne, aops_nil, aops_cons, atl_nil, atl_cons, atlAll_nil, atlAll_cons, freeOp, List.filter_cons, List.filter_nil, adraw_eq, adrawA_nil, adrawA_cons, isA, goOp, appNew, mkOp, gev, Region.binds, Heap.le_refl, aop, aeval, gocall, heapOp, quietOp, ev, constAV, setd, yav, ystop, up, env0, cx_ti, cx_G, cx_pf, ti, globS, glob, pfL, lds, ldc, ldcs, sts, sth, sls, slc, wr, place, fillOk, fillC, repZ, binI, isDiv, optInt, optI, eksOk, eksEq, EK.ok, EK.eq, AV.i, AV.isI, AV.isInt, AV.b.eq_1, AV.b.eq_2, AV.isB.eq_1, AV.isB.eq_2, AV.str, AV.isStr, unc_same, unc_tt, unc_tf, unc_f, unc_any, unc_v, unc_gp, unc_p, unc_s, unc_g, unc_e, unc_t, unc_fn, unc_okb, unc_bb, unc_isB, unc_b, AV.bb.eq_1, AV.bb.eq_2, AV.okb.eq_1, AV.okb.eq_2, AV.okg.eq_1, AV.okg.eq_2, AV.gd.eq_1, AV.gd.eq_2, AV.cells.eq_1, AV.cells.eq_2, AV.one.eq_1, AV.one.eq_2, AV.one.eq_3, AV.one.eq_4, AV.one.eq_5, AV.one.eq_6, AV.ones, AV.slen.eq_1, AV.slen.eq_2, AV.isS.eq_1, AV.isS.eq_2, AV.isS.eq_3, AV.isPtr, AV.gl, AV.isG, Value.oneCell', Nat.add_assoc, cut_of_le, nat_lt0, nat_le0, Tryd.f150, he]
      refine awp_loop (fun s => s.e 0 = .v (.slice none 0 0) ∧ s.e 4 = ii 0 ∧ s.e 2 = .p n 0 0 ∧ s.e 3 = .p (n + 1) 0 0 ∧ s.h n = some ⟨[.v (.bool false), .v (.int .i64 0)], 0, true, 2⟩ ∧ s.h (n + 1) = some ⟨[.v (.int .i64 0), .v (.int .i64 0)], 0, true, 2⟩) (fun _ => 0) (by simp [up, ii, he]) ?_
      rintro e' h' n' ⟨q0, q4, q2, q3, hh, hh1⟩
      simp only [] at q0 q4 q2 q3 hh hh1
      simp [awp_skip, awp_label, awp_region, awp_seq, awp_if, awp_block, awp_ret, awp_scope, awp_exit, thenQ_n, thenQ_e, thenQ_r, blockQ_n, blockQ_e, blockQ_r, finQ_n, finQ_r, finQ_e, resAll, resVal, resOne, aops_nil, aops_cons, atl_nil, atl_cons, atlAll_nil, atlAll_cons, freeOp, List.filter_cons, List.filter_nil, adraw_eq, adrawA_nil, adrawA_cons, isA, goOp, appNew, mkOp, gev, Region.binds, Heap.le_refl, aop, aeval, gocall, heapOp, quietOp, ev, constAV, setd, yav, ystop, up, env0, cx_ti, cx_G, cx_pf, ti, globS, glob, pfL, lds, ldc, ldcs, sts, sth, sls, slc, wr, place, fillOk, fillC, repZ, binI, isDiv, optInt, optI, eksOk, eksEq, EK.ok, EK.eq, AV.i, AV.isI, AV.isInt, AV.b.eq_1, AV.b.eq_2, AV.isB.eq_1, AV.isB.eq_2, AV.str, AV.isStr, unc_same, unc_tt, unc_tf, unc_f, unc_any, unc_v, unc_gp, unc_p, unc_s, unc_g, unc_e, unc_t, unc_fn, unc_okb, unc_bb, unc_isB, unc_b, AV.bb.eq_1, AV.bb.eq_2, AV.okb.eq_1, AV.okb.eq_2, AV.okg.eq_1, AV.okg.eq_2, AV.gd.eq_1, AV.gd.eq_2, AV.cells.eq_1, AV.cells.eq_2, AV.one.eq_1, AV.one.eq_2, AV.one.eq_3, AV.one.eq_4, AV.one.eq_5, AV.one.eq_6, AV.ones, AV.slen.eq_1, AV.slen.eq_2, AV.isS.eq_1, AV.isS.eq_2, AV.isS.eq_3, AV.isPtr, AV.gl, AV.isG, Value.oneCell', Nat.add_assoc, cut_of_le, nat_lt0, nat_le0, q0, q4, q2, q3, hh, hh1, ii, tb56, g61, pure1, deW, vv, rsumL, rsumAt]
    · have h0 := ne_of hk hn 0
      have h1 := ne_of hk hn 1
      have hro := ro_at hk
      simp only [Nat.add_zero] at h0
      simp [awp_skip, awp_label, awp_region, awp_seq, awp_if, awp_block, awp_ret, awp_scope, awp_exit, thenQ_n, thenQ_e, thenQ_r, blockQ_n, blockQ_e, blockQ_r, finQ_n, finQ_r, finQ_e, resAll, resVal, resOne, aops_nil, aops_cons, atl_nil, atl_cons, atlAll_nil, atlAll_cons, freeOp, List.filter_cons, List.filter_nil, adraw_eq, adrawA_nil, adrawA_cons, isA, goOp, appNew, mkOp, gev, Region.binds, Heap.le_refl, aop, aeval, gocall, heapOp, quietOp, ev, constAV, setd, yav, ystop, up, env0, cx_ti, cx_G, cx_pf, ti, globS, glob, pfL, lds, ldc, ldcs, sts, sth, sls, slc, wr, place, fillOk, fillC, repZ, binI, isDiv, optInt, optI, eksOk, eksEq, EK.ok, EK.eq, AV.i, AV.isI, AV.isInt, AV.b.eq_1, AV.b.eq_2, AV.isB.eq_1, AV.isB.eq_2, AV.str, AV.isStr, unc_same, unc_tt, unc_tf, unc_f, unc_any, unc_v, unc_gp, unc_p, unc_s, unc_g, unc_e, unc_t, unc_fn, unc_okb, unc_bb, unc_isB, unc_b, AV.bb.eq_1, AV.bb.eq_2, AV.okb.eq_1, AV.okb.eq_2, AV.okg.eq_1, AV.okg.eq_2, AV.gd.eq_1, AV.gd.eq_2, AV.cells.eq_1, AV.cells.eq_2, AV.one.eq_1, AV.one.eq_2, AV.one.eq_3, AV.one.eq_4, AV.one.eq_5, AV.one.eq_6, AV.ones, AV.slen.eq_1, AV.slen.eq_2, AV.isS.eq_1, AV.isS.eq_2, AV.isS.eq_3, AV.isPtr, AV.gl, AV.isG, Value.oneCell', Nat.add_assoc, cut_of_le, nat_lt0, nat_le0, Tryd.f150, he]
      refine awp_loop (fun s => ∃ j, j ≤ l.length ∧ s.e 0 = .s id k.ver off l.length ∧ s.e 4 = ii j ∧ s.e 2 = .p n 0 0 ∧ s.e 3 = .p (n + 1) 0 0 ∧ s.h n = some ⟨[.v (.bool false), .v (.int .i64 0)], 0, true, 2⟩ ∧ s.h (n + 1) = some ⟨[.v (.int .i64 (rsumAt l j).1), .v (.int .i64 (rsumAt l j).2)], 0, true, 2⟩ ∧ s.h id = some ⟨k.cells, k.ver, false, k.esz⟩) (fun s => l.length - (s.e 4).i.toNat) ⟨0, by simp [up, ii, he, rsumAt, h0, h1, hro]⟩ ?_
      rintro e' h' n' ⟨j, hj, q0, q4, q2, q3, hh, hh1, hh2⟩
      simp only [] at q0 q4 q2 q3 hh hh1 hh2
      by_cases hlt : j < l.length
      · have hget := hat j hlt
        have hw := wrap_nat (j := j) (by omega)
        have hs := rsumAt_succ hlt
        simp [awp_skip, awp_label, awp_region, awp_seq, awp_if, awp_block, awp_ret, awp_scope, awp_exit, thenQ_n, thenQ_e, thenQ_r, blockQ_n, blockQ_e, blockQ_r, finQ_n, finQ_r, finQ_e, resAll, resVal, resOne, aops_nil, aops_cons, atl_nil, atl_cons, atlAll_nil, atlAll_cons, freeOp, List.filter_cons, List.filter_nil, adraw_eq, adrawA_nil, adrawA_cons, isA, goOp, appNew, mkOp, gev, Region.binds, Heap.le_refl, aop, aeval, gocall, heapOp, quietOp, ev, constAV, setd, yav, ystop, up, env0, cx_ti, cx_G, cx_pf, ti, globS, glob, pfL, lds, ldc, ldcs, sts, sth, sls, slc, wr, place, fillOk, fillC, repZ, binI, isDiv, optInt, optI, eksOk, eksEq, EK.ok, EK.eq, AV.i, AV.isI, AV.isInt, AV.b.eq_1, AV.b.eq_2, AV.isB.eq_1, AV.isB.eq_2, AV.str, AV.isStr, unc_same, unc_tt, unc_tf, unc_f, unc_any, unc_v, unc_gp, unc_p, unc_s, unc_g, unc_e, unc_t, unc_fn, unc_okb, unc_bb, unc_isB, unc_b, AV.bb.eq_1, AV.bb.eq_2, AV.okb.eq_1, AV.okb.eq_2, AV.okg.eq_1, AV.okg.eq_2, AV.gd.eq_1, AV.gd.eq_2, AV.cells.eq_1, AV.cells.eq_2, AV.one.eq_1, AV.one.eq_2, AV.one.eq_3, AV.one.eq_4, AV.one.eq_5, AV.one.eq_6, AV.ones, AV.slen.eq_1, AV.slen.eq_2, AV.isS.eq_1, AV.isS.eq_2, AV.isS.eq_3, AV.isPtr, AV.gl, AV.isG, Value.oneCell', Nat.add_assoc, cut_of_le, nat_lt0, nat_le0, q0, q4, q2, q3, hh, hh1, hh2, ii, tb56, g62, g63, pure1, pure2, deW, deI, ww, hlt, h0, h1, hget, hw]
        exact ⟨by omega, ⟨j + 1, by omega, by omega, by rw [hs], by rw [hs]⟩, by omega⟩
      · have hje : j = l.length := by omega
        subst hje
        simp [awp_skip, awp_label, awp_region, awp_seq, awp_if, awp_block, awp_ret, awp_scope, awp_exit, thenQ_n, thenQ_e, thenQ_r, blockQ_n, blockQ_e, blockQ_r, finQ_n, finQ_r, finQ_e, resAll, resVal, resOne, aops_nil, aops_cons, atl_nil, atl_cons, atlAll_nil, atlAll_cons, freeOp, List.filter_cons, List.filter_nil, adraw_eq, adrawA_nil, adrawA_cons, isA, goOp, appNew, mkOp, gev, Region.binds, Heap.le_refl, aop, aeval, gocall, heapOp, quietOp, ev, constAV, setd, yav, ystop, up, env0, cx_ti, cx_G, cx_pf, ti, globS, glob, pfL, lds, ldc, ldcs, sts, sth, sls, slc, wr, place, fillOk, fillC, repZ, binI, isDiv, optInt, optI, eksOk, eksEq, EK.ok, EK.eq, AV.i, AV.isI, AV.isInt, AV.b.eq_1, AV.b.eq_2, AV.isB.eq_1, AV.isB.eq_2, AV.str, AV.isStr, unc_same, unc_tt, unc_tf, unc_f, unc_any, unc_v, unc_gp, unc_p, unc_s, unc_g, unc_e, unc_t, unc_fn, unc_okb, unc_bb, unc_isB, unc_b, AV.bb.eq_1, AV.bb.eq_2, AV.okb.eq_1, AV.okb.eq_2, AV.okg.eq_1, AV.okg.eq_2, AV.gd.eq_1, AV.gd.eq_2, AV.cells.eq_1, AV.cells.eq_2, AV.one.eq_1, AV.one.eq_2, AV.one.eq_3, AV.one.eq_4, AV.one.eq_5, AV.one.eq_6, AV.ones, AV.slen.eq_1, AV.slen.eq_2, AV.isS.eq_1, AV.isS.eq_2, AV.isS.eq_3, AV.isPtr, AV.gl, AV.isG, Value.oneCell', Nat.add_assoc, cut_of_le, nat_lt0, nat_le0, q0, q4, q2, q3, hh, hh1, hh2, ii, tb56, g61, pure1, deW, vv, rsumL]
  exact key _ rfl
/-- The least (the greatest) of the first so many numbers. -/
def extAt (g : Bool) (l : List Int) (j : Nat) : Int := (l.take j).foldl (fun m x => if (if g then decide (m < x) else decide (x < m)) then x else m) (l.getD 0 0)
theorem extAt_succ {g : Bool} {l : List Int} {j : Nat} (h : j < l.length) : extAt g l (j + 1) = if (if g then decide (extAt g l j < l[j]) else decide (l[j] < extAt g l j)) then l[j] else extAt g l j := by
  unfold extAt
  rw [List.take_add_one, List.getElem?_eq_getElem h, List.foldl_append]
  simp
theorem extAt_one {g : Bool} {l : List Int} (h : 0 < l.length) : extAt g l 1 = l.getD 0 0 := by
  rw [extAt_succ h]
  have : extAt g l 0 = l[0] := by simp [extAt, List.getD_eq_getElem?_getD, h]
  rw [this]
  have : l.getD 0 0 = l[0] := by simp [List.getD_eq_getElem?_getD, h]
  rw [this]
  cases g <;> simp
def g57 := pureLA deB (fun _ l => 0 < l.length) fun g l => ii (extAt g l l.length)
set_option maxRecDepth 100000 in
theorem p57 : P0 [] 151 g57 := by
  refine mkLA (S := []) (l := []) tb_nil Tryd.func151 rfl (by kernel_rfl) bv (fun x a h => deB_out h) (fun a b => rfl) (fun g a l h n hi hl hp hn => ?_)
  have key : ∀ e : Nat → AV, e 0 = a → e 1 = bv g → awp (cx [] (pfL [])) (Tryd.f151.body.getD .skip) (finQ (cx [] (pfL [])) Tryd.f151 fun z _ _ => z = ii (extAt g l l.length)) ⟨e, roH h, n⟩ := fun e he he1 => by
    rcases ints_cases hi with ⟨rfl, rfl⟩ | ⟨id, off, k, rfl, hk, hoff, hat⟩
    · cases hp
    · have hro := ro_at hk
      have hget0 := hat 0 hp
      simp only [Nat.add_zero] at hget0
      simp [awp_skip, awp_label, awp_region, awp_seq, awp_if, awp_block, awp_ret, awp_scope, awp_exit, thenQ_n, thenQ_e, thenQ_r, blockQ_n, blockQ_e, blockQ_r, finQ_n, finQ_r, finQ_e, resAll, resVal, resOne, aops_nil, aops_cons, atl_nil, atl_cons, atlAll_nil, atlAll_cons, freeOp, List.filter_cons, List.filter_nil, adraw_eq, adrawA_nil, adrawA_cons, isA, goOp, appNew, mkOp, gev, Region.binds, Heap.le_refl, aop, aeval, gocall, heapOp, quietOp, ev, constAV, setd, yav, ystop, up, env0, cx_ti, cx_G, cx_pf, ti, globS, glob, pfL, lds, ldc, ldcs, sts, sth, sls, slc, wr, place, fillOk, fillC, repZ, binI, isDiv, optInt, optI, eksOk, eksEq, EK.ok, EK.eq, AV.i, AV.isI, AV.isInt, AV.b.eq_1, AV.b.eq_2, AV.isB.eq_1, AV.isB.eq_2, AV.str, AV.isStr, unc_same, unc_tt, unc_tf, unc_f, unc_any, unc_v, unc_gp, unc_p, unc_s, unc_g, unc_e, unc_t, unc_fn, unc_okb, unc_bb, unc_isB, unc_b, AV.bb.eq_1, AV.bb.eq_2, AV.okb.eq_1, AV.okb.eq_2, AV.okg.eq_1, AV.okg.eq_2, AV.gd.eq_1, AV.gd.eq_2, AV.cells.eq_1, AV.cells.eq_2, AV.one.eq_1, AV.one.eq_2, AV.one.eq_3, AV.one.eq_4, AV.one.eq_5, AV.one.eq_6, AV.ones, AV.slen.eq_1, AV.slen.eq_2, AV.isS.eq_1, AV.isS.eq_2, AV.isS.eq_3, AV.isPtr, AV.gl, AV.isG, Value.oneCell', Nat.add_assoc, cut_of_le, nat_lt0, nat_le0, Tryd.f151, he, he1, hro, hp, hget0, ii]
      refine ⟨by omega, awp_loop (fun s => ∃ j, 0 < j ∧ j ≤ l.length ∧ s.e 0 = .s id k.ver off l.length ∧ s.e 1 = bv g ∧ s.e 6 = ii j ∧ s.e 5 = ii (extAt g l j) ∧ s.h id = some ⟨k.cells, k.ver, false, k.esz⟩) (fun s => l.length - (s.e 6).i.toNat) ⟨1, by simp [up, ii, he, he1, hro, extAt_one hp, List.getD_eq_getElem?_getD, hp]; omega⟩ ?_⟩
      rintro e' h' n' ⟨j, hj0, hj, q0, q1, q6, q5, hh⟩
      simp only [] at q0 q1 q6 q5 hh
      by_cases hlt : j < l.length
      · have hget := hat j hlt
        have hw := wrap_nat (j := j) (by omega)
        have hs := extAt_succ (g := g) hlt
        have eg : l.getD j 0 = l[j] := by simp [List.getD_eq_getElem?_getD, hlt]
        rw [eg] at hget
        have ho : off + (j + 1) ≤ k.cells.length := by omega
        cases g
        · by_cases hc : l[j] < extAt false l j
          · simp [hc] at hs
            simp [awp_skip, awp_label, awp_region, awp_seq, awp_if, awp_block, awp_ret, awp_scope, awp_exit, thenQ_n, thenQ_e, thenQ_r, blockQ_n, blockQ_e, blockQ_r, finQ_n, finQ_r, finQ_e, resAll, resVal, resOne, aops_nil, aops_cons, atl_nil, atl_cons, atlAll_nil, atlAll_cons, freeOp, List.filter_cons, List.filter_nil, adraw_eq, adrawA_nil, adrawA_cons, isA, goOp, appNew, mkOp, gev, Region.binds, Heap.le_refl, aop, aeval, gocall, heapOp, quietOp, ev, constAV, setd, yav, ystop, up, env0, cx_ti, cx_G, cx_pf, ti, globS, glob, pfL, lds, ldc, ldcs, sts, sth, sls, slc, wr, place, fillOk, fillC, repZ, binI, isDiv, optInt, optI, eksOk, eksEq, EK.ok, EK.eq, AV.i, AV.isI, AV.isInt, AV.b.eq_1, AV.b.eq_2, AV.isB.eq_1, AV.isB.eq_2, AV.str, AV.isStr, unc_same, unc_tt, unc_tf, unc_f, unc_any, unc_v, unc_gp, unc_p, unc_s, unc_g, unc_e, unc_t, unc_fn, unc_okb, unc_bb, unc_isB, unc_b, AV.bb.eq_1, AV.bb.eq_2, AV.okb.eq_1, AV.okb.eq_2, AV.okg.eq_1, AV.okg.eq_2, AV.gd.eq_1, AV.gd.eq_2, AV.cells.eq_1, AV.cells.eq_2, AV.one.eq_1, AV.one.eq_2, AV.one.eq_3, AV.one.eq_4, AV.one.eq_5, AV.one.eq_6, AV.ones, AV.slen.eq_1, AV.slen.eq_2, AV.isS.eq_1, AV.isS.eq_2, AV.isS.eq_3, AV.isPtr, AV.gl, AV.isG, Value.oneCell', Nat.add_assoc, cut_of_le, nat_lt0, nat_le0, q0, q1, q6, q5, hh, ii, bv, hlt, hget, hw, hc, ho]
            exact ⟨⟨j + 1, by omega, by omega, by omega, by rw [hs]⟩, by omega⟩
          · simp [hc] at hs
            simp [awp_skip, awp_label, awp_region, awp_seq, awp_if, awp_block, awp_ret, awp_scope, awp_exit, thenQ_n, thenQ_e, thenQ_r, blockQ_n, blockQ_e, blockQ_r, finQ_n, finQ_r, finQ_e, resAll, resVal, resOne, aops_nil, aops_cons, atl_nil, atl_cons, atlAll_nil, atlAll_cons, freeOp, List.filter_cons, List.filter_nil, adraw_eq, adrawA_nil, adrawA_cons, isA, goOp, appNew, mkOp, gev, Region.binds, Heap.le_refl, aop, aeval, gocall, heapOp, quietOp, ev, constAV, setd, yav, ystop, up, env0, cx_ti, cx_G, cx_pf, ti, globS, glob, pfL, lds, ldc, ldcs, sts, sth, sls, slc, wr, place, fillOk, fillC, repZ, binI, isDiv, optInt, optI, eksOk, eksEq, EK.ok, EK.eq, AV.i, AV.isI, AV.isInt, AV.b.eq_1, AV.b.eq_2, AV.isB.eq_1, AV.isB.eq_2, AV.str, AV.isStr, unc_same, unc_tt, unc_tf, unc_f, unc_any, unc_v, unc_gp, unc_p, unc_s, unc_g, unc_e, unc_t, unc_fn, unc_okb, unc_bb, unc_isB, unc_b, AV.bb.eq_1, AV.bb.eq_2, AV.okb.eq_1, AV.okb.eq_2, AV.okg.eq_1, AV.okg.eq_2, AV.gd.eq_1, AV.gd.eq_2, AV.cells.eq_1, AV.cells.eq_2, AV.one.eq_1, AV.one.eq_2, AV.one.eq_3, AV.one.eq_4, AV.one.eq_5, AV.one.eq_6, AV.ones, AV.slen.eq_1, AV.slen.eq_2, AV.isS.eq_1, AV.isS.eq_2, AV.isS.eq_3, AV.isPtr, AV.gl, AV.isG, Value.oneCell', Nat.add_assoc, cut_of_le, nat_lt0, nat_le0, q0, q1, q6, q5, hh, ii, bv, hlt, hget, hw, hc, ho]
            exact ⟨⟨j + 1, by omega, by omega, by omega, by rw [hs]⟩, by omega⟩
        · by_cases hc : extAt true l j < l[j]
          · simp [hc] at hs
            simp [awp_skip, awp_label, awp_region, awp_seq, awp_if, awp_block, awp_ret, awp_scope, awp_exit, thenQ_n, thenQ_e, thenQ_r, blockQ_n, blockQ_e, blockQ_r, finQ_n, finQ_r, finQ_e, resAll, resVal, resOne, aops_nil, aops_cons, atl_nil, atl_cons, atlAll_nil, atlAll_cons, freeOp, List.filter_cons, List.filter_nil, adraw_eq, adrawA_nil, adrawA_cons, isA, goOp, appNew, mkOp, gev, Region.binds, Heap.le_refl, aop, aeval, gocall, heapOp, quietOp, ev, constAV, setd, yav, ystop, up, env0, cx_ti, cx_G, cx_pf, ti, globS, glob, pfL, lds, ldc, ldcs, sts, sth, sls, slc, wr, place, fillOk, fillC, repZ, binI, isDiv, optInt, optI, eksOk, eksEq, EK.ok, EK.eq, AV.i, AV.isI, AV.isInt, AV.b.eq_1, AV.b.eq_2, AV.isB.eq_1, AV.isB.eq_2, AV.str, AV.isStr, unc_same, unc_tt, unc_tf, unc_f, unc_any, unc_v, unc_gp, unc_p, unc_s, unc_g, unc_e, unc_t, unc_fn, unc_okb, unc_bb, unc_isB, unc_b, AV.bb.eq_1, AV.bb.eq_2, AV.okb.eq_1, AV.okb.eq_2, AV.okg.eq_1, AV.okg.eq_2, AV.gd.eq_1, AV.gd.eq_2, AV.cells.eq_1, AV.cells.eq_2, AV.one.eq_1, AV.one.eq_2, AV.one.eq_3, AV.one.eq_4, AV.one.eq_5, AV.one.eq_6, AV.ones, AV.slen.eq_1, AV.slen.eq_2, AV.isS.eq_1, AV.isS.eq_2, AV.isS.eq_3, AV.isPtr, AV.gl, AV.isG, Value.oneCell', Nat.add_assoc, cut_of_le, nat_lt0, nat_le0, q0, q1, q6, q5, hh, ii, bv, hlt, hget, hw, hc, ho]
            exact ⟨⟨j + 1, by omega, by omega, by omega, by rw [hs]⟩, by omega⟩
          · simp [hc] at hs
            simp [awp_skip, awp_label, awp_region, awp_seq, awp_if, awp_block, awp_ret, awp_scope, awp_exit, thenQ_n, thenQ_e, thenQ_r, blockQ_n, blockQ_e, blockQ_r, finQ_n, finQ_r, finQ_e, resAll, resVal, resOne, aops_nil, aops_cons, atl_nil, atl_cons, atlAll_nil, atlAll_cons, freeOp, List.filter_cons, List.filter_nil, adraw_eq, adrawA_nil, adrawA_cons, isA, goOp, appNew, mkOp, gev, Region.binds, Heap.le_refl, aop, aeval, gocall, heapOp, quietOp, ev, constAV, setd, yav, ystop, up, env0, cx_ti, cx_G, cx_pf, ti, globS, glob, pfL, lds, ldc, ldcs, sts, sth, sls, slc, wr, place, fillOk, fillC, repZ, binI, isDiv, optInt, optI, eksOk, eksEq, EK.ok, EK.eq, AV.i, AV.isI, AV.isInt, AV.b.eq_1, AV.b.eq_2, AV.isB.eq_1, AV.isB.eq_2, AV.str, AV.isStr, unc_same, unc_tt, unc_tf, unc_f, unc_any, unc_v, unc_gp, unc_p, unc_s, unc_g, unc_e, unc_t, unc_fn, unc_okb, unc_bb, unc_isB, unc_b, AV.bb.eq_1, AV.bb.eq_2, AV.okb.eq_1, AV.okb.eq_2, AV.okg.eq_1, AV.okg.eq_2, AV.gd.eq_1, AV.gd.eq_2, AV.cells.eq_1, AV.cells.eq_2, AV.one.eq_1, AV.one.eq_2, AV.one.eq_3, AV.one.eq_4, AV.one.eq_5, AV.one.eq_6, AV.ones, AV.slen.eq_1, AV.slen.eq_2, AV.isS.eq_1, AV.isS.eq_2, AV.isS.eq_3, AV.isPtr, AV.gl, AV.isG, Value.oneCell', Nat.add_assoc, cut_of_le, nat_lt0, nat_le0, q0, q1, q6, q5, hh, ii, bv, hlt, hget, hw, hc, ho]
            exact ⟨⟨j + 1, by omega, by omega, by omega, by rw [hs]⟩, by omega⟩
      · have hje : j = l.length := by omega
        subst hje
        simp [awp_skip, awp_label, awp_region, awp_seq, awp_if, awp_block, awp_ret, awp_scope, awp_exit, thenQ_n, thenQ_e, thenQ_r, blockQ_n, blockQ_e, blockQ_r, finQ_n, finQ_r, finQ_e, resAll, resVal, resOne, aops_nil, aops_cons, atl_nil, atl_cons, atlAll_nil, atlAll_cons, freeOp, List.filter_cons, List.filter_nil, adraw_eq, adrawA_nil, adrawA_cons, isA, goOp, appNew, mkOp, gev, Region.binds, Heap.le_refl, aop, aeval, gocall, heapOp, quietOp, ev, constAV, setd, yav, ystop, up, env0, cx_ti, cx_G, cx_pf, ti, globS, glob, pfL, lds, ldc, ldcs, sts, sth, sls, slc, wr, place, fillOk, fillC, repZ, binI, isDiv, optInt, optI, eksOk, eksEq, EK.ok, EK.eq, AV.i, AV.isI, AV.isInt, AV.b.eq_1, AV.b.eq_2, AV.isB.eq_1, AV.isB.eq_2, AV.str, AV.isStr, unc_same, unc_tt, unc_tf, unc_f, unc_any, unc_v, unc_gp, unc_p, unc_s, unc_g, unc_e, unc_t, unc_fn, unc_okb, unc_bb, unc_isB, unc_b, AV.bb.eq_1, AV.bb.eq_2, AV.okb.eq_1, AV.okb.eq_2, AV.okg.eq_1, AV.okg.eq_2, AV.gd.eq_1, AV.gd.eq_2, AV.cells.eq_1, AV.cells.eq_2, AV.one.eq_1, AV.one.eq_2, AV.one.eq_3, AV.one.eq_4, AV.one.eq_5, AV.one.eq_6, AV.ones, AV.slen.eq_1, AV.slen.eq_2, AV.isS.eq_1, AV.isS.eq_2, AV.isS.eq_3, AV.isPtr, AV.gl, AV.isG, Value.oneCell', Nat.add_assoc, cut_of_le, nat_lt0, nat_le0, q0, q1, q6, q5, hh, ii]
  exact key _ rfl rfl
end Go.Proofs.YtkfphaphiikloaaDoor
