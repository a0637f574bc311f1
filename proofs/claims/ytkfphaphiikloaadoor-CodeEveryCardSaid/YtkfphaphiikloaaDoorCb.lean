/-
  THE PROGRAMS OF CONDITIONS, PART B: what a column says of an event of a list; the list of an item.
-/
import Derived.Test.YtkfphaphiikloaaDoorCl
import Derived.Test.YtkfphaphiikloaaDoorEngK
set_option linter.unusedSimpArgs false
set_option linter.unusedVariables false
set_option linter.constructorNameAsVariable false
set_option linter.unusedSimpArgs false
namespace Go.Proofs.YtkfphaphiikloaaDoor
open Go Go.Eng

def smallH (q : List Ev × Int × List Int) : Prop := q.1.length < big ∧ q.2.2.length < big
def de101 (h : Heap) : List AV → Option (List Ev × Int × List Int)
  | [a, .v (.int .i64 x), c] => match rd dEs h a, rd dIs h c with
    | some l, some col => some (l, x, col)
    | _, _ => none
  | _ => none
theorem de101_out {h : Heap} {args : List AV} {q : List Ev × Int × List Int} (e : de101 h args = some q) : ∃ a c, args = [a, ii q.2.1, c] ∧ rd dEs h a = some q.1 ∧ rd dIs h c = some q.2.2 := by
  unfold de101 at e
  split at e
  · split at e
    · rename_i e1 e3
      cases e
      exact ⟨_, _, rfl, e1, e3⟩
    · cases e
  · cases e
theorem de101_mono (h h' : Heap) (args : List AV) (q : List Ev × Int × List Int) (hh : h.le h') (e : de101 h args = some q) : de101 h' args = some q := by
  obtain ⟨a, c, rfl, e1, e3⟩ := de101_out e
  simp only [de101, rd_mono hh e1, rd_mono hh e3, ii]
def g101 := pureH de101 smallH fun q => vv (oneV q.1 q.2.1 q.2.2)
def de126 (h : Heap) : List AV → Option (List Ev × Int × List Int)
  | [c, a, x] => de101 h [a, x, c]
  | _ => none
theorem de126_out {h : Heap} {args : List AV} {q : List Ev × Int × List Int} (e : de126 h args = some q) : ∃ a c, args = [c, a, ii q.2.1] ∧ rd dEs h a = some q.1 ∧ rd dIs h c = some q.2.2 := by
  unfold de126 at e
  split at e
  · obtain ⟨a, c, h1, h2, h3⟩ := de101_out e
    simp only [List.cons.injEq, and_true] at h1
    obtain ⟨rfl, rfl, rfl⟩ := h1
    exact ⟨_, _, rfl, h2, h3⟩
  · cases e
theorem de126_mono (h h' : Heap) (args : List AV) (q : List Ev × Int × List Int) (hh : h.le h') (e : de126 h args = some q) : de126 h' args = some q := by
  obtain ⟨a, c, rfl, e1, e3⟩ := de126_out e
  simp only [de126, de101, rd_mono hh e1, rd_mono hh e3, ii]
def g126 := pureH de126 smallH fun q => vv (oneV q.1 q.2.1 q.2.2)
theorem ldcs_ev {X : Ctx} {h : Heap} {id ver o : Nat} {k : Blk} {e : Ev} (hk : h id = some k) (he : (k.cells.drop o).take 11 = ecells e) : ldcs X h (.p id ver o) 0 11 = ecells e := by
  have hc : ∀ c x, (ecells e)[c]? = some x → c < 11 → ldc X h (.p id ver o) c = x := fun c x hx hc => by
    simp only [ldc, hk, List.getD_eq_getElem?_getD, cell_of he hx hc, Option.getD_some]
  simp only [ldcs, ecells]
  rw [hc 0 _ rfl (by omega), hc 1 _ rfl (by omega), hc 2 _ rfl (by omega), hc 3 _ rfl (by omega), hc 4 _ rfl (by omega), hc 5 _ rfl (by omega), hc 6 _ rfl (by omega), hc 7 _ rfl (by omega), hc 8 _ rfl (by omega), hc 9 _ rfl (by omega), hc 10 _ rfl (by omega)]
def tb101 : List (FuncId × (List AV → Heap → PRes)) := [(124, g124)]
set_option maxRecDepth 100000 in
theorem p101 : P0 [] 101 g101 := by
  refine mkH 3 (S := []) (l := tb101) (tb_cons p124 tb_nil) Tryd.func101 rfl (by kernel_rfl) de101_mono (fun h l x e => by obtain ⟨a, c, rfl, _⟩ := de101_out e; exact Nat.le_refl _) (fun a => rfl) (fun args q h n e hp hn => ?_)
  obtain ⟨l, i, c'⟩ := q
  obtain ⟨a, c, rfl, e1, e3⟩ := de101_out e
  simp only [] at e1 e3 ⊢
  obtain ⟨s1, s2, s3, s4, s5⟩ := sl_is e1
  obtain ⟨t1, t2, t3, t4, t5⟩ := sl_is e3
  by_cases hi : i < 0
  · simp [awp_skip, awp_label, awp_region, awp_seq, awp_if, awp_block, awp_ret, awp_scope, awp_exit, thenQ_n, thenQ_e, thenQ_r, blockQ_n, blockQ_e, blockQ_r, finQ_n, finQ_r, finQ_e, resAll, resVal, resOne, aops_nil, aops_cons, atl_nil, atl_cons, atlAll_nil, atlAll_cons, freeOp, List.filter_cons, List.filter_nil, adraw_eq, adrawA_nil, adrawA_cons, isA, goOp, appNew, mkOp, gev, Region.binds, Heap.le_refl, aop, aeval, gocall, heapOp, quietOp, ev, constAV, setd, yav, ystop, up, env0, cx_ti, cx_G, cx_pf, ti, globS, glob, pfL, lds, ldc, ldcs_1, ldcs_2, ldcs_3, ldcs_4, ldcs_5, ldcs_7, sts, sth, sls, slc, wr, place, fillOk, fillC, repZ, binI, isDiv, optInt, optI, eksOk, eksEq, EK.ok, EK.eq, AV.i, AV.isI, AV.isInt, AV.b.eq_1, AV.b.eq_2, AV.isB.eq_1, AV.isB.eq_2, AV.str, AV.isStr, unc_same, unc_tt, unc_tf, unc_f, unc_any, unc_v, unc_gp, unc_p, unc_s, unc_g, unc_e, unc_t, unc_fn, unc_okb, unc_bb, unc_isB, unc_b, AV.bb.eq_1, AV.bb.eq_2, AV.okb.eq_1, AV.okb.eq_2, AV.okg.eq_1, AV.okg.eq_2, AV.gd.eq_1, AV.gd.eq_2, AV.cells.eq_1, AV.cells.eq_2, AV.one.eq_1, AV.one.eq_2, AV.one.eq_3, AV.one.eq_4, AV.one.eq_5, AV.one.eq_6, AV.ones, AV.slen.eq_1, AV.slen.eq_2, AV.isS.eq_1, AV.isS.eq_2, AV.isS.eq_3, AV.isPtr, AV.gl, AV.isG, Value.oneCell', Nat.add_assoc, cut_of_le, nat_lt0, nat_le0, ii, vv, oneV, unk, hi, s1, s2, s3]
  · obtain ⟨j, rfl⟩ : ∃ j : Nat, i = j := ⟨i.toNat, by omega⟩
    have hbig := hp.1
    by_cases hj : j < l.length
    · rcases es_at e1 with ⟨rfl, _⟩ | ⟨id, off, k, rfl, hk, ho, hat⟩
      · simp at hj
      have hr := hat j hj
      have c2 := cell_of (c := 2) hr rfl (by omega)
      rw [Nat.add_assoc] at c2
      have hro := ro_at hk
      have h0 := ne_of hk hn 0
      simp only [Nat.add_zero] at h0
      have hle : ∀ (X : Ctx) (h' : Heap), h' id = some ⟨k.cells, k.ver, false, k.esz⟩ → ldcs X h' (.p id k.ver (off + j * 11)) 0 11 = ecells l[j] := fun X h' e => ldcs_ev e hr
      have hw : off + (j * 11 + 11) ≤ k.cells.length := by omega
      have hw2 : off + (j * 11 + 3) ≤ k.cells.length := by omega
      have hj' : ¬ l.length ≤ j := by omega
      by_cases ht : l[j].ty < 0
      · simp [awp_skip, awp_label, awp_region, awp_seq, awp_if, awp_block, awp_ret, awp_scope, awp_exit, thenQ_n, thenQ_e, thenQ_r, blockQ_n, blockQ_e, blockQ_r, finQ_n, finQ_r, finQ_e, resAll, resVal, resOne, aops_nil, aops_cons, atl_nil, atl_cons, atlAll_nil, atlAll_cons, freeOp, List.filter_cons, List.filter_nil, adraw_eq, adrawA_nil, adrawA_cons, isA, goOp, appNew, mkOp, gev, Region.binds, Heap.le_refl, aop, aeval, gocall, heapOp, quietOp, ev, constAV, setd, yav, ystop, up, env0, cx_ti, cx_G, cx_pf, ti, globS, glob, pfL, lds, ldc, ldcs_1, ldcs_2, ldcs_3, ldcs_4, ldcs_5, ldcs_7, sts, sth, sls, slc, wr, place, fillOk, fillC, repZ, binI, isDiv, optInt, optI, eksOk, eksEq, EK.ok, EK.eq, AV.i, AV.isI, AV.isInt, AV.b.eq_1, AV.b.eq_2, AV.isB.eq_1, AV.isB.eq_2, AV.str, AV.isStr, unc_same, unc_tt, unc_tf, unc_f, unc_any, unc_v, unc_gp, unc_p, unc_s, unc_g, unc_e, unc_t, unc_fn, unc_okb, unc_bb, unc_isB, unc_b, AV.bb.eq_1, AV.bb.eq_2, AV.okb.eq_1, AV.okb.eq_2, AV.okg.eq_1, AV.okg.eq_2, AV.gd.eq_1, AV.gd.eq_2, AV.cells.eq_1, AV.cells.eq_2, AV.one.eq_1, AV.one.eq_2, AV.one.eq_3, AV.one.eq_4, AV.one.eq_5, AV.one.eq_6, AV.ones, AV.slen.eq_1, AV.slen.eq_2, AV.isS.eq_1, AV.isS.eq_2, AV.isS.eq_3, AV.isPtr, AV.gl, AV.isG, Value.oneCell', Nat.add_assoc, cut_of_le, nat_lt0, nat_le0, ii, vv, oneV, placeOf, unk, hj, hj', ht, hro, h0, c2, hw2, t1, t2, t3]
      · obtain ⟨t, htt⟩ : ∃ t : Nat, l[j].ty = t := ⟨l[j].ty.toNat, by omega⟩
        rw [htt] at c2
        by_cases hc : t < c'.length
        · rcases is_at e3 with ⟨rfl, _⟩ | ⟨id', off', k', rfl, hk', ho', hat'⟩
          · simp at hc
          have g2 := hat' t hc
          have hro' := ro_at hk'
          have h0' := ne_of hk' hn 0
          simp only [Nat.add_zero] at h0'
          have hc' : ¬ c'.length ≤ t := by omega
          have hw3 : off' + (t + 1) ≤ k'.cells.length := by omega
          simp [awp_skip, awp_label, awp_region, awp_seq, awp_if, awp_block, awp_ret, awp_scope, awp_exit, thenQ_n, thenQ_e, thenQ_r, blockQ_n, blockQ_e, blockQ_r, finQ_n, finQ_r, finQ_e, resAll, resVal, resOne, aops_nil, aops_cons, atl_nil, atl_cons, atlAll_nil, atlAll_cons, freeOp, List.filter_cons, List.filter_nil, adraw_eq, adrawA_nil, adrawA_cons, isA, goOp, appNew, mkOp, gev, Region.binds, Heap.le_refl, aop, aeval, gocall, heapOp, quietOp, ev, constAV, setd, yav, ystop, up, env0, cx_ti, cx_G, cx_pf, ti, globS, glob, pfL, lds, ldc, ldcs_1, ldcs_2, ldcs_3, ldcs_4, ldcs_5, ldcs_7, sts, sth, sls, slc, wr, place, fillOk, fillC, repZ, binI, isDiv, optInt, optI, eksOk, eksEq, EK.ok, EK.eq, AV.i, AV.isI, AV.isInt, AV.b.eq_1, AV.b.eq_2, AV.isB.eq_1, AV.isB.eq_2, AV.str, AV.isStr, unc_same, unc_tt, unc_tf, unc_f, unc_any, unc_v, unc_gp, unc_p, unc_s, unc_g, unc_e, unc_t, unc_fn, unc_okb, unc_bb, unc_isB, unc_b, AV.bb.eq_1, AV.bb.eq_2, AV.okb.eq_1, AV.okb.eq_2, AV.okg.eq_1, AV.okg.eq_2, AV.gd.eq_1, AV.gd.eq_2, AV.cells.eq_1, AV.cells.eq_2, AV.one.eq_1, AV.one.eq_2, AV.one.eq_3, AV.one.eq_4, AV.one.eq_5, AV.one.eq_6, AV.ones, AV.slen.eq_1, AV.slen.eq_2, AV.isS.eq_1, AV.isS.eq_2, AV.isS.eq_3, AV.isPtr, AV.gl, AV.isG, Value.oneCell', Nat.add_assoc, cut_of_le, nat_lt0, nat_le0, ii, vv, oneV, placeOf, unk, hj, hj', htt, hro, h0, c2, hc, hc', hro', h0', g2, hw, hw2, hw3, hle, tb101, g124, pure2, deE_ee, deI]
        · have hc' : c'.length ≤ t := by omega
          simp [awp_skip, awp_label, awp_region, awp_seq, awp_if, awp_block, awp_ret, awp_scope, awp_exit, thenQ_n, thenQ_e, thenQ_r, blockQ_n, blockQ_e, blockQ_r, finQ_n, finQ_r, finQ_e, resAll, resVal, resOne, aops_nil, aops_cons, atl_nil, atl_cons, atlAll_nil, atlAll_cons, freeOp, List.filter_cons, List.filter_nil, adraw_eq, adrawA_nil, adrawA_cons, isA, goOp, appNew, mkOp, gev, Region.binds, Heap.le_refl, aop, aeval, gocall, heapOp, quietOp, ev, constAV, setd, yav, ystop, up, env0, cx_ti, cx_G, cx_pf, ti, globS, glob, pfL, lds, ldc, ldcs_1, ldcs_2, ldcs_3, ldcs_4, ldcs_5, ldcs_7, sts, sth, sls, slc, wr, place, fillOk, fillC, repZ, binI, isDiv, optInt, optI, eksOk, eksEq, EK.ok, EK.eq, AV.i, AV.isI, AV.isInt, AV.b.eq_1, AV.b.eq_2, AV.isB.eq_1, AV.isB.eq_2, AV.str, AV.isStr, unc_same, unc_tt, unc_tf, unc_f, unc_any, unc_v, unc_gp, unc_p, unc_s, unc_g, unc_e, unc_t, unc_fn, unc_okb, unc_bb, unc_isB, unc_b, AV.bb.eq_1, AV.bb.eq_2, AV.okb.eq_1, AV.okb.eq_2, AV.okg.eq_1, AV.okg.eq_2, AV.gd.eq_1, AV.gd.eq_2, AV.cells.eq_1, AV.cells.eq_2, AV.one.eq_1, AV.one.eq_2, AV.one.eq_3, AV.one.eq_4, AV.one.eq_5, AV.one.eq_6, AV.ones, AV.slen.eq_1, AV.slen.eq_2, AV.isS.eq_1, AV.isS.eq_2, AV.isS.eq_3, AV.isPtr, AV.gl, AV.isG, Value.oneCell', Nat.add_assoc, cut_of_le, nat_lt0, nat_le0, ii, vv, oneV, placeOf, unk, hj, hj', htt, hro, h0, c2, hw2, hc', t1, t2, t3]
    · have hj' : l.length ≤ j := by omega
      simp [awp_skip, awp_label, awp_region, awp_seq, awp_if, awp_block, awp_ret, awp_scope, awp_exit, thenQ_n, thenQ_e, thenQ_r, blockQ_n, blockQ_e, blockQ_r, finQ_n, finQ_r, finQ_e, resAll, resVal, resOne, aops_nil, aops_cons, atl_nil, atl_cons, atlAll_nil, atlAll_cons, freeOp, List.filter_cons, List.filter_nil, adraw_eq, adrawA_nil, adrawA_cons, isA, goOp, appNew, mkOp, gev, Region.binds, Heap.le_refl, aop, aeval, gocall, heapOp, quietOp, ev, constAV, setd, yav, ystop, up, env0, cx_ti, cx_G, cx_pf, ti, globS, glob, pfL, lds, ldc, ldcs_1, ldcs_2, ldcs_3, ldcs_4, ldcs_5, ldcs_7, sts, sth, sls, slc, wr, place, fillOk, fillC, repZ, binI, isDiv, optInt, optI, eksOk, eksEq, EK.ok, EK.eq, AV.i, AV.isI, AV.isInt, AV.b.eq_1, AV.b.eq_2, AV.isB.eq_1, AV.isB.eq_2, AV.str, AV.isStr, unc_same, unc_tt, unc_tf, unc_f, unc_any, unc_v, unc_gp, unc_p, unc_s, unc_g, unc_e, unc_t, unc_fn, unc_okb, unc_bb, unc_isB, unc_b, AV.bb.eq_1, AV.bb.eq_2, AV.okb.eq_1, AV.okb.eq_2, AV.okg.eq_1, AV.okg.eq_2, AV.gd.eq_1, AV.gd.eq_2, AV.cells.eq_1, AV.cells.eq_2, AV.one.eq_1, AV.one.eq_2, AV.one.eq_3, AV.one.eq_4, AV.one.eq_5, AV.one.eq_6, AV.ones, AV.slen.eq_1, AV.slen.eq_2, AV.isS.eq_1, AV.isS.eq_2, AV.isS.eq_3, AV.isPtr, AV.gl, AV.isG, Value.oneCell', Nat.add_assoc, cut_of_le, nat_lt0, nat_le0, ii, vv, oneV, unk, hj', s1, s2, s3]
end Go.Proofs.YtkfphaphiikloaaDoor
