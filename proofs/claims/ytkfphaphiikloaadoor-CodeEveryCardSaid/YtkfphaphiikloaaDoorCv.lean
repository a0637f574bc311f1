/-
  THE PROGRAMS OF CONDITIONS: a condition of each element, on both sides.
-/
import Derived.Test.YtkfphaphiikloaaDoorCs
set_option linter.unusedSimpArgs false
set_option linter.unusedVariables false
set_option linter.constructorNameAsVariable false
set_option linter.unusedSimpArgs false
namespace Go.Proofs.YtkfphaphiikloaaDoor
open Go Go.Eng

structure Cd where
  p : Pr
  each : Int
  prev : Bool
def fromC (c : Cd) : Nat := if c.prev then 1 else 0
def everyTo (c : Cd) (ls : List (List Ev)) (j : Nat) : Bool := (List.range j).all fun i => decide (i < fromC c) || holdsV c.p ⟨ls, c.each, i⟩
def everyV (c : Cd) (ls : List (List Ev)) : Bool := if c.each < 0 then decide (c.each = -1) && holdsV c.p ⟨ls, -1, 0⟩ else everyTo c ls (listAt ls c.each).length
theorem everyTo_succ (c : Cd) (ls : List (List Ev)) (j : Nat) : everyTo c ls (j + 1) = (everyTo c ls j && (decide (j < fromC c) || holdsV c.p ⟨ls, c.each, j⟩)) := by simp [everyTo, List.range_succ]
theorem everyTo_from (c : Cd) (ls : List (List Ev)) {j : Nat} (h : j ≤ fromC c) : everyTo c ls j = true := by
  simp only [everyTo, List.all_eq_true, List.mem_range]
  intro i hi
  simp [show i < fromC c by omega]
theorem everyTo_no (c : Cd) (ls : List (List Ev)) {j m : Nat} (hj : j < m) (hf : fromC c ≤ j) (h : holdsV c.p ⟨ls, c.each, j⟩ = false) : everyTo c ls m = false := by
  cases hm : everyTo c ls m with
  | false => rfl
  | true =>
    simp only [everyTo, List.all_eq_true, List.mem_range] at hm
    have := hm j hj
    rw [h] at this
    simp at this
    omega
/-- A condition and lists. -/
structure CdOk (q : Cd × List (List Ev)) : Prop where
  p : PrOk q.1.p
  e : EnOk ⟨q.2, q.1.each, 0⟩
theorem CdOk.en {q : Cd × List (List Ev)} (o : CdOk q) (each : Int) {i : Nat} (hi : i ≤ 2147483647) : okR (q.1.p, ⟨q.2, each, i⟩) := ⟨o.p, o.e.len, o.e.ev, by unfold Rng; simp only []; omega⟩
def deC (h : Heap) : List AV → Option (Cd × List (List Ev))
  | [.g [a, b, .v (.int .i64 e), .v (.bool v)], l] => match rd dPs h a, rd dIss h b, rd dEss h l with
    | some x, some y, some z => some (⟨⟨x, y⟩, e, v⟩, z)
    | _, _, _ => none
  | _ => none
theorem deC_out {h : Heap} {args : List AV} {q : Cd × List (List Ev)} (e : deC h args = some q) : ∃ a b l, args = [.g [a, b, .v (.int .i64 q.1.each), .v (.bool q.1.prev)], l] ∧ rd dPs h a = some q.1.p.code ∧ rd dIss h b = some q.1.p.cols ∧ rd dEss h l = some q.2 := by
  unfold deC at e
  split at e
  · rename_i a b x v l
    split at e
    · rename_i e1 e2 e3
      cases e
      exact ⟨a, b, l, rfl, e1, e2, e3⟩
    · cases e
  · cases e
theorem deC_in {h : Heap} {a b l : AV} {c : Cd} {ls : List (List Ev)} (h1 : rd dPs h a = some c.p.code) (h2 : rd dIss h b = some c.p.cols) (h3 : rd dEss h l = some ls) : deC h [.g [a, b, .v (.int .i64 c.each), .v (.bool c.prev)], l] = some (c, ls) := by simp only [deC, h1, h2, h3]
theorem deC_mono (h h' : Heap) (args : List AV) (q : Cd × List (List Ev)) (hh : h.le h') (e : deC h args = some q) : deC h' args = some q := by
  obtain ⟨a, b, l, rfl, e1, e2, e3⟩ := deC_out e
  exact deC_in (rd_mono hh e1) (rd_mono hh e2) (rd_mono hh e3)
def G35 := pureH deC CdOk fun q => bv (everyV q.1 q.2)
def tb35 : List (FuncId × (List AV → Heap → PRes)) := [(31, G31), (65, G65)]
set_option maxRecDepth 100000 in
set_option maxHeartbeats 2000000 in
theorem P35 (h29 : P0 S29 29 G29) : P0 S29 35 G35 := by
  refine mkH 2 (S := S29) (l := tb35) (tb_cons (P31 h29) (tb_cons P65 tb_nil)) Tryd.func35 rfl (by kernel_rfl) deC_mono (fun h l x e => by obtain ⟨a, b, c, rfl, _⟩ := deC_out e; exact Nat.le_refl _) (fun a => rfl) (fun args q h n e hp hn => ?_)
  obtain ⟨⟨p, each, prev⟩, ls⟩ := q
  obtain ⟨a, b, l, rfl, e1, e2, e3⟩ := deC_out e
  simp only [] at e1 e2 e3 hp ⊢
  obtain ⟨s1, s2, s3, s4, s5⟩ := sl_is e1
  obtain ⟨t1, t2, t3, t4, t5⟩ := sl_is e2
  obtain ⟨r1, r2, r3, r4, r5⟩ := sl_is e3
  have gr : ∀ (pos : Int) h', agree n (roH h) h' → deR h' [.g [a, b], .g [l, .v (.int .i64 each), .v (.int .i64 pos)]] = some (p, ⟨ls, each, pos⟩) := fun pos h' ha => by
    simp only [deR, dePr_in (rd_agree hn e1 h' ha) (rd_agree hn e2 h' ha), deEn_in (e := ⟨ls, each, pos⟩) (rd_agree hn e3 h' ha)]
  by_cases hneg : each < 0
  · have hok := hp.en each (i := 0) (by omega)
    simp only [] at hok
    by_cases hm1 : each = -1
    · subst hm1
      have hok1 : okR (p, ⟨ls, -1, 0⟩) := hp.en (-1) (i := 0) (by omega)
      simp [awp_skip, awp_label, awp_region, awp_seq, awp_if, awp_block, awp_ret, awp_scope, awp_exit, thenQ_n, thenQ_e, thenQ_r, blockQ_n, blockQ_e, blockQ_r, finQ_n, finQ_r, finQ_e, resAll, resVal, resOne, aops_nil, aops_cons, atl_nil, atl_cons, atlAll_nil, atlAll_cons, freeOp, List.filter_cons, List.filter_nil, adraw_eq, adrawA_nil, adrawA_cons, isA, goOp, appNew, mkOp, gev, Region.binds, Heap.le_refl, aop, aeval, gocall, heapOp, quietOp, ev, constAV, setd, yav, ystop, up, env0, cx_ti, cx_G, cx_pf, ti, globS, glob, pfL, lds, ldc, ldcs_1, ldcs_2, ldcs_3, ldcs_4, ldcs_5, ldcs_7, sts, sth, sls.eq_1, slc.eq_1, wr, place, fillOk, fillC, repZ, binI, isDiv, optInt, optI, eksOk, eksEq, EK.ok, EK.eq, AV.i, AV.isI, AV.isInt, AV.b.eq_1, AV.b.eq_2, AV.isB.eq_1, AV.isB.eq_2, AV.str, AV.isStr, unc_same, unc_tt, unc_tf, unc_f, unc_any, unc_v, unc_gp, unc_p, unc_s, unc_g, unc_e, unc_t, unc_fn, unc_okb, unc_bb, unc_isB, unc_b, AV.bb.eq_1, AV.bb.eq_2, AV.okb.eq_1, AV.okb.eq_2, AV.okg.eq_1, AV.okg.eq_2, AV.gd.eq_1, AV.gd.eq_2, AV.cells.eq_1, AV.cells.eq_2, AV.one.eq_1, AV.one.eq_2, AV.one.eq_3, AV.one.eq_4, AV.one.eq_5, AV.one.eq_6, AV.ones, AV.slen.eq_1, AV.slen.eq_2, AV.isS.eq_1, AV.isS.eq_2, AV.isS.eq_3, AV.isPtr, AV.gl, AV.isG, Value.oneCell', Nat.add_assoc, cut_of_le, nat_lt0, nat_le0, bv, s4, s5, t4, t5, r4, r5, tb35, G31, pureH, gr, agree_up, agree_refl, hok1, everyV]
    · simp [awp_skip, awp_label, awp_region, awp_seq, awp_if, awp_block, awp_ret, awp_scope, awp_exit, thenQ_n, thenQ_e, thenQ_r, blockQ_n, blockQ_e, blockQ_r, finQ_n, finQ_r, finQ_e, resAll, resVal, resOne, aops_nil, aops_cons, atl_nil, atl_cons, atlAll_nil, atlAll_cons, freeOp, List.filter_cons, List.filter_nil, adraw_eq, adrawA_nil, adrawA_cons, isA, goOp, appNew, mkOp, gev, Region.binds, Heap.le_refl, aop, aeval, gocall, heapOp, quietOp, ev, constAV, setd, yav, ystop, up, env0, cx_ti, cx_G, cx_pf, ti, globS, glob, pfL, lds, ldc, ldcs_1, ldcs_2, ldcs_3, ldcs_4, ldcs_5, ldcs_7, sts, sth, sls.eq_1, slc.eq_1, wr, place, fillOk, fillC, repZ, binI, isDiv, optInt, optI, eksOk, eksEq, EK.ok, EK.eq, AV.i, AV.isI, AV.isInt, AV.b.eq_1, AV.b.eq_2, AV.isB.eq_1, AV.isB.eq_2, AV.str, AV.isStr, unc_same, unc_tt, unc_tf, unc_f, unc_any, unc_v, unc_gp, unc_p, unc_s, unc_g, unc_e, unc_t, unc_fn, unc_okb, unc_bb, unc_isB, unc_b, AV.bb.eq_1, AV.bb.eq_2, AV.okb.eq_1, AV.okb.eq_2, AV.okg.eq_1, AV.okg.eq_2, AV.gd.eq_1, AV.gd.eq_2, AV.cells.eq_1, AV.cells.eq_2, AV.one.eq_1, AV.one.eq_2, AV.one.eq_3, AV.one.eq_4, AV.one.eq_5, AV.one.eq_6, AV.ones, AV.slen.eq_1, AV.slen.eq_2, AV.isS.eq_1, AV.isS.eq_2, AV.isS.eq_3, AV.isPtr, AV.gl, AV.isG, Value.oneCell', Nat.add_assoc, cut_of_le, nat_lt0, nat_le0, bv, s4, s5, t4, t5, r4, r5, tb35, G31, pureH, gr, agree_up, agree_refl, hok, everyV, hneg, hm1]
  · have hlen := hp.e.lenAt each
    simp only [] at hlen
    have hev : everyV ⟨p, each, prev⟩ ls = everyTo ⟨p, each, prev⟩ ls (listAt ls each).length := if_neg hneg
    have hneg0 : 0 ≤ each := by omega
    -- the round, whatever the beginning
    have loop : ∀ (e : Nat → AV) (h2 : Heap) (n2 from_ : Nat), from_ = fromC ⟨p, each, prev⟩ → e 2 = .p n 0 0 → e 5 = .p (n + 1) 0 0 → agree n (roH h) h2 → h2 n = some ⟨[a, b, .v (.int .i64 each), .v (.bool prev)], 0, true, 4⟩ → h2 (n + 1) = some ⟨[l, .v (.int .i64 each), .v (.int .i64 from_)], 0, true, 3⟩ → n + 2 ≤ n2 →
        awp (cx S29 (pfL tb35)) (hdC 1 (tlC 4 (Tryd.f35.body.getD .skip))) (thenQ (fun s => everyV ⟨p, each, prev⟩ ls = true) (finQ (cx S29 (pfL tb35)) Tryd.f35 fun z _ _ => z = bv (everyV ⟨p, each, prev⟩ ls))) ⟨e, h2, n2⟩ := fun e h2 n2 from_ hfr q2 q5 hag hc0 hc1 hnn => by
      obtain ⟨cl, f1, f2, u1, u2, u3, u4, u5⟩ := li_facts (e := ⟨ls, each, from_⟩) hn e3 each
      simp only [] at f1 f2 u1 u2 u3 u4 u5
      obtain ⟨k1, k2⟩ := f1 h2 hag
      simp [awp_skip, awp_label, awp_region, awp_seq, awp_if, awp_block, awp_ret, awp_scope, awp_exit, thenQ_n, thenQ_e, thenQ_r, blockQ_n, blockQ_e, blockQ_r, finQ_n, finQ_r, finQ_e, resAll, resVal, resOne, aops_nil, aops_cons, atl_nil, atl_cons, atlAll_nil, atlAll_cons, freeOp, List.filter_cons, List.filter_nil, adraw_eq, adrawA_nil, adrawA_cons, isA, goOp, appNew, mkOp, gev, Region.binds, Heap.le_refl, aop, aeval, gocall, heapOp, quietOp, ev, constAV, setd, yav, ystop, up, env0, cx_ti, cx_G, cx_pf, ti, globS, glob, pfL, lds, ldc, ldcs_1, ldcs_2, ldcs_3, ldcs_4, ldcs_5, ldcs_7, sts, sth, sls.eq_1, slc.eq_1, wr, place, fillOk, fillC, repZ, binI, isDiv, optInt, optI, eksOk, eksEq, EK.ok, EK.eq, AV.i, AV.isI, AV.isInt, AV.b.eq_1, AV.b.eq_2, AV.isB.eq_1, AV.isB.eq_2, AV.str, AV.isStr, unc_same, unc_tt, unc_tf, unc_f, unc_any, unc_v, unc_gp, unc_p, unc_s, unc_g, unc_e, unc_t, unc_fn, unc_okb, unc_bb, unc_isB, unc_b, AV.bb.eq_1, AV.bb.eq_2, AV.okb.eq_1, AV.okb.eq_2, AV.okg.eq_1, AV.okg.eq_2, AV.gd.eq_1, AV.gd.eq_2, AV.cells.eq_1, AV.cells.eq_2, AV.one.eq_1, AV.one.eq_2, AV.one.eq_3, AV.one.eq_4, AV.one.eq_5, AV.one.eq_6, AV.ones, AV.slen.eq_1, AV.slen.eq_2, AV.isS.eq_1, AV.isS.eq_2, AV.isS.eq_3, AV.isPtr, AV.gl, AV.isG, Value.oneCell', Nat.add_assoc, cut_of_le, nat_lt0, nat_le0, hdC, tlC, Tryd.f35, q2, q5, hc0, hc1, tb35, G65, pureS, k1, k2, u1, u2, u3]
      refine awp_loop (fun s => ∃ j : Nat, from_ ≤ j ∧ (j ≤ (listAt ls each).length ∨ j = from_) ∧ s.e 2 = .p n 0 0 ∧ s.e 5 = .p (n + 1) 0 0 ∧ s.e 6 = ii (listAt ls each).length ∧ agree n (roH h) s.h ∧ s.h n = some ⟨[a, b, .v (.int .i64 each), .v (.bool prev)], 0, true, 4⟩ ∧ s.h (n + 1) = some ⟨[l, .v (.int .i64 each), .v (.int .i64 j)], 0, true, 3⟩ ∧ n + 2 ≤ s.n ∧ everyTo ⟨p, each, prev⟩ ls j = true)
        (fun s => (listAt ls each).length - (match s.h (n + 1) with | some k => (k.cells.getD 2 .any).i.toNat | none => 0)) ⟨from_, Nat.le_refl _, .inr rfl, by simp [up, q2], by simp [up, q5], by simp [up, ii], hag, hc0, hc1, hnn, everyTo_from _ _ (by omega)⟩ ?_
      rintro e3 h3 n3 ⟨j, hj1, hj2, q2, q5, q6, hag, hc0, hc1, hnn, hall⟩
      simp only [] at q2 q5 q6 hag hc0 hc1 hnn
      have z0 : ¬ n = n + 1 := by omega
      by_cases hlt : j < (listAt ls each).length
      · have hok := hp.en each (i := j) (by omega)
        simp only [] at hok
        have hw := wrap_nat (j := j) (by unfold big; omega)
        have hdj : ¬ j < fromC ⟨p, each, prev⟩ := by omega
        cases hh : holdsV p ⟨ls, each, j⟩ with
        | false =>
          have hno : everyV ⟨p, each, prev⟩ ls = false := by rw [hev]; exact everyTo_no _ _ hlt (by omega) hh
          simp [awp_skip, awp_label, awp_region, awp_seq, awp_if, awp_block, awp_ret, awp_scope, awp_exit, thenQ_n, thenQ_e, thenQ_r, blockQ_n, blockQ_e, blockQ_r, finQ_n, finQ_r, finQ_e, resAll, resVal, resOne, aops_nil, aops_cons, atl_nil, atl_cons, atlAll_nil, atlAll_cons, freeOp, List.filter_cons, List.filter_nil, adraw_eq, adrawA_nil, adrawA_cons, isA, goOp, appNew, mkOp, gev, Region.binds, Heap.le_refl, aop, aeval, gocall, heapOp, quietOp, ev, constAV, setd, yav, ystop, up, env0, cx_ti, cx_G, cx_pf, ti, globS, glob, pfL, lds, ldc, ldcs_1, ldcs_2, ldcs_3, ldcs_4, ldcs_5, ldcs_7, sts, sth, sls.eq_1, slc.eq_1, wr, place, fillOk, fillC, repZ, binI, isDiv, optInt, optI, eksOk, eksEq, EK.ok, EK.eq, AV.i, AV.isI, AV.isInt, AV.b.eq_1, AV.b.eq_2, AV.isB.eq_1, AV.isB.eq_2, AV.str, AV.isStr, unc_same, unc_tt, unc_tf, unc_f, unc_any, unc_v, unc_gp, unc_p, unc_s, unc_g, unc_e, unc_t, unc_fn, unc_okb, unc_bb, unc_isB, unc_b, AV.bb.eq_1, AV.bb.eq_2, AV.okb.eq_1, AV.okb.eq_2, AV.okg.eq_1, AV.okg.eq_2, AV.gd.eq_1, AV.gd.eq_2, AV.cells.eq_1, AV.cells.eq_2, AV.one.eq_1, AV.one.eq_2, AV.one.eq_3, AV.one.eq_4, AV.one.eq_5, AV.one.eq_6, AV.ones, AV.slen.eq_1, AV.slen.eq_2, AV.isS.eq_1, AV.isS.eq_2, AV.isS.eq_3, AV.isPtr, AV.gl, AV.isG, Value.oneCell', Nat.add_assoc, cut_of_le, nat_lt0, nat_le0, q2, q5, q6, ii, bv, hc0, hc1, hlt, tb35, G31, pureH, gr, agree_up, hag, hok, hh, hno]
        | true =>
          simp [awp_skip, awp_label, awp_region, awp_seq, awp_if, awp_block, awp_ret, awp_scope, awp_exit, thenQ_n, thenQ_e, thenQ_r, blockQ_n, blockQ_e, blockQ_r, finQ_n, finQ_r, finQ_e, resAll, resVal, resOne, aops_nil, aops_cons, atl_nil, atl_cons, atlAll_nil, atlAll_cons, freeOp, List.filter_cons, List.filter_nil, adraw_eq, adrawA_nil, adrawA_cons, isA, goOp, appNew, mkOp, gev, Region.binds, Heap.le_refl, aop, aeval, gocall, heapOp, quietOp, ev, constAV, setd, yav, ystop, up, env0, cx_ti, cx_G, cx_pf, ti, globS, glob, pfL, lds, ldc, ldcs_1, ldcs_2, ldcs_3, ldcs_4, ldcs_5, ldcs_7, sts, sth, sls.eq_1, slc.eq_1, wr, place, fillOk, fillC, repZ, binI, isDiv, optInt, optI, eksOk, eksEq, EK.ok, EK.eq, AV.i, AV.isI, AV.isInt, AV.b.eq_1, AV.b.eq_2, AV.isB.eq_1, AV.isB.eq_2, AV.str, AV.isStr, unc_same, unc_tt, unc_tf, unc_f, unc_any, unc_v, unc_gp, unc_p, unc_s, unc_g, unc_e, unc_t, unc_fn, unc_okb, unc_bb, unc_isB, unc_b, AV.bb.eq_1, AV.bb.eq_2, AV.okb.eq_1, AV.okb.eq_2, AV.okg.eq_1, AV.okg.eq_2, AV.gd.eq_1, AV.gd.eq_2, AV.cells.eq_1, AV.cells.eq_2, AV.one.eq_1, AV.one.eq_2, AV.one.eq_3, AV.one.eq_4, AV.one.eq_5, AV.one.eq_6, AV.ones, AV.slen.eq_1, AV.slen.eq_2, AV.isS.eq_1, AV.isS.eq_2, AV.isS.eq_3, AV.isPtr, AV.gl, AV.isG, Value.oneCell', Nat.add_assoc, cut_of_le, nat_lt0, nat_le0, q2, q5, q6, ii, bv, hc0, hc1, hlt, tb35, G31, pureH, gr, agree_up, hag, hok, hh, hw]
          refine ⟨⟨j + 1, by omega, .inl (by omega), by omega, by omega, ?_⟩, ?_⟩
          rotate_left
          · exact Nat.sub_lt_sub_left hlt (Nat.lt_succ_self j)
          rw [everyTo_succ, hall, hh]
          simp
      · have hfin : everyV ⟨p, each, prev⟩ ls = true := by
          rw [hev]
          rcases hj2 with h1 | h1
          · rw [show (listAt ls each).length = j by omega]; exact hall
          · exact everyTo_from _ _ (by omega)
        simp [awp_skip, awp_label, awp_region, awp_seq, awp_if, awp_block, awp_ret, awp_scope, awp_exit, thenQ_n, thenQ_e, thenQ_r, blockQ_n, blockQ_e, blockQ_r, finQ_n, finQ_r, finQ_e, resAll, resVal, resOne, aops_nil, aops_cons, atl_nil, atl_cons, atlAll_nil, atlAll_cons, freeOp, List.filter_cons, List.filter_nil, adraw_eq, adrawA_nil, adrawA_cons, isA, goOp, appNew, mkOp, gev, Region.binds, Heap.le_refl, aop, aeval, gocall, heapOp, quietOp, ev, constAV, setd, yav, ystop, up, env0, cx_ti, cx_G, cx_pf, ti, globS, glob, pfL, lds, ldc, ldcs_1, ldcs_2, ldcs_3, ldcs_4, ldcs_5, ldcs_7, sts, sth, sls.eq_1, slc.eq_1, wr, place, fillOk, fillC, repZ, binI, isDiv, optInt, optI, eksOk, eksEq, EK.ok, EK.eq, AV.i, AV.isI, AV.isInt, AV.b.eq_1, AV.b.eq_2, AV.isB.eq_1, AV.isB.eq_2, AV.str, AV.isStr, unc_same, unc_tt, unc_tf, unc_f, unc_any, unc_v, unc_gp, unc_p, unc_s, unc_g, unc_e, unc_t, unc_fn, unc_okb, unc_bb, unc_isB, unc_b, AV.bb.eq_1, AV.bb.eq_2, AV.okb.eq_1, AV.okb.eq_2, AV.okg.eq_1, AV.okg.eq_2, AV.gd.eq_1, AV.gd.eq_2, AV.cells.eq_1, AV.cells.eq_2, AV.one.eq_1, AV.one.eq_2, AV.one.eq_3, AV.one.eq_4, AV.one.eq_5, AV.one.eq_6, AV.ones, AV.slen.eq_1, AV.slen.eq_2, AV.isS.eq_1, AV.isS.eq_2, AV.isS.eq_3, AV.isPtr, AV.gl, AV.isG, Value.oneCell', Nat.add_assoc, cut_of_le, nat_lt0, nat_le0, q2, q5, q6, ii, bv, hc0, hc1, hlt, hfin]
    have fin : ∀ s, everyV ⟨p, each, prev⟩ ls = true → awp (cx S29 (pfL tb35)) (tlC 5 (Tryd.f35.body.getD .skip)) (finQ (cx S29 (pfL tb35)) Tryd.f35 fun z _ _ => z = bv (everyV ⟨p, each, prev⟩ ls)) s := fun s h => by
      simp [awp_skip, awp_label, awp_region, awp_seq, awp_if, awp_block, awp_ret, awp_scope, awp_exit, thenQ_n, thenQ_e, thenQ_r, blockQ_n, blockQ_e, blockQ_r, finQ_n, finQ_r, finQ_e, resAll, resVal, resOne, aops_nil, aops_cons, atl_nil, atl_cons, atlAll_nil, atlAll_cons, freeOp, List.filter_cons, List.filter_nil, adraw_eq, adrawA_nil, adrawA_cons, isA, goOp, appNew, mkOp, gev, Region.binds, Heap.le_refl, aop, aeval, gocall, heapOp, quietOp, ev, constAV, setd, yav, ystop, up, env0, cx_ti, cx_G, cx_pf, ti, globS, glob, pfL, lds, ldc, ldcs_1, ldcs_2, ldcs_3, ldcs_4, ldcs_5, ldcs_7, sts, sth, sls.eq_1, slc.eq_1, wr, place, fillOk, fillC, repZ, binI, isDiv, optInt, optI, eksOk, eksEq, EK.ok, EK.eq, AV.i, AV.isI, AV.isInt, AV.b.eq_1, AV.b.eq_2, AV.isB.eq_1, AV.isB.eq_2, AV.str, AV.isStr, unc_same, unc_tt, unc_tf, unc_f, unc_any, unc_v, unc_gp, unc_p, unc_s, unc_g, unc_e, unc_t, unc_fn, unc_okb, unc_bb, unc_isB, unc_b, AV.bb.eq_1, AV.bb.eq_2, AV.okb.eq_1, AV.okb.eq_2, AV.okg.eq_1, AV.okg.eq_2, AV.gd.eq_1, AV.gd.eq_2, AV.cells.eq_1, AV.cells.eq_2, AV.one.eq_1, AV.one.eq_2, AV.one.eq_3, AV.one.eq_4, AV.one.eq_5, AV.one.eq_6, AV.ones, AV.slen.eq_1, AV.slen.eq_2, AV.isS.eq_1, AV.isS.eq_2, AV.isS.eq_3, AV.isPtr, AV.gl, AV.isG, Value.oneCell', Nat.add_assoc, cut_of_le, nat_lt0, nat_le0, tlC, Tryd.f35, h, bv]
    refine awp_cut 4 _ _ (R := fun s => everyV ⟨p, each, prev⟩ ls = everyV ⟨p, each, prev⟩ ls ∧ s.e 2 = .p n 0 0 ∧ s.e 5 = .p (n + 1) 0 0 ∧ agree n (roH h) s.h ∧ s.h n = some ⟨[a, b, .v (.int .i64 each), .v (.bool prev)], 0, true, 4⟩ ∧ s.h (n + 1) = some ⟨[l, .v (.int .i64 each), .v (.int .i64 (fromC ⟨p, each, prev⟩))], 0, true, 3⟩ ∧ n + 2 ≤ s.n) ?_ fun e2 h2 n2 ⟨_, q2, q5, hag, hc0, hc1, hnn⟩ => awp_cut 1 _ _ (loop e2 h2 n2 _ rfl q2 q5 hag hc0 hc1 hnn) fun e3 h3 n3 hh => fin _ hh
    cases prev with
    | true =>
      simp [awp_skip, awp_label, awp_region, awp_seq, awp_if, awp_block, awp_ret, awp_scope, awp_exit, thenQ_n, thenQ_e, thenQ_r, blockQ_n, blockQ_e, blockQ_r, finQ_n, finQ_r, finQ_e, resAll, resVal, resOne, aops_nil, aops_cons, atl_nil, atl_cons, atlAll_nil, atlAll_cons, freeOp, List.filter_cons, List.filter_nil, adraw_eq, adrawA_nil, adrawA_cons, isA, goOp, appNew, mkOp, gev, Region.binds, Heap.le_refl, aop, aeval, gocall, heapOp, quietOp, ev, constAV, setd, yav, ystop, up, env0, cx_ti, cx_G, cx_pf, ti, globS, glob, pfL, lds, ldc, ldcs_1, ldcs_2, ldcs_3, ldcs_4, ldcs_5, ldcs_7, sts, sth, sls.eq_1, slc.eq_1, wr, place, fillOk, fillC, repZ, binI, isDiv, optInt, optI, eksOk, eksEq, EK.ok, EK.eq, AV.i, AV.isI, AV.isInt, AV.b.eq_1, AV.b.eq_2, AV.isB.eq_1, AV.isB.eq_2, AV.str, AV.isStr, unc_same, unc_tt, unc_tf, unc_f, unc_any, unc_v, unc_gp, unc_p, unc_s, unc_g, unc_e, unc_t, unc_fn, unc_okb, unc_bb, unc_isB, unc_b, AV.bb.eq_1, AV.bb.eq_2, AV.okb.eq_1, AV.okb.eq_2, AV.okg.eq_1, AV.okg.eq_2, AV.gd.eq_1, AV.gd.eq_2, AV.cells.eq_1, AV.cells.eq_2, AV.one.eq_1, AV.one.eq_2, AV.one.eq_3, AV.one.eq_4, AV.one.eq_5, AV.one.eq_6, AV.ones, AV.slen.eq_1, AV.slen.eq_2, AV.isS.eq_1, AV.isS.eq_2, AV.isS.eq_3, AV.isPtr, AV.gl, AV.isG, Value.oneCell', Nat.add_assoc, cut_of_le, nat_lt0, nat_le0, hdC, Tryd.f35, s4, s5, t4, t5, r4, r5, hneg]
      exact ⟨by simp [agree_up, agree_refl], by simp [fromC]⟩
    | false =>
      simp [awp_skip, awp_label, awp_region, awp_seq, awp_if, awp_block, awp_ret, awp_scope, awp_exit, thenQ_n, thenQ_e, thenQ_r, blockQ_n, blockQ_e, blockQ_r, finQ_n, finQ_r, finQ_e, resAll, resVal, resOne, aops_nil, aops_cons, atl_nil, atl_cons, atlAll_nil, atlAll_cons, freeOp, List.filter_cons, List.filter_nil, adraw_eq, adrawA_nil, adrawA_cons, isA, goOp, appNew, mkOp, gev, Region.binds, Heap.le_refl, aop, aeval, gocall, heapOp, quietOp, ev, constAV, setd, yav, ystop, up, env0, cx_ti, cx_G, cx_pf, ti, globS, glob, pfL, lds, ldc, ldcs_1, ldcs_2, ldcs_3, ldcs_4, ldcs_5, ldcs_7, sts, sth, sls.eq_1, slc.eq_1, wr, place, fillOk, fillC, repZ, binI, isDiv, optInt, optI, eksOk, eksEq, EK.ok, EK.eq, AV.i, AV.isI, AV.isInt, AV.b.eq_1, AV.b.eq_2, AV.isB.eq_1, AV.isB.eq_2, AV.str, AV.isStr, unc_same, unc_tt, unc_tf, unc_f, unc_any, unc_v, unc_gp, unc_p, unc_s, unc_g, unc_e, unc_t, unc_fn, unc_okb, unc_bb, unc_isB, unc_b, AV.bb.eq_1, AV.bb.eq_2, AV.okb.eq_1, AV.okb.eq_2, AV.okg.eq_1, AV.okg.eq_2, AV.gd.eq_1, AV.gd.eq_2, AV.cells.eq_1, AV.cells.eq_2, AV.one.eq_1, AV.one.eq_2, AV.one.eq_3, AV.one.eq_4, AV.one.eq_5, AV.one.eq_6, AV.ones, AV.slen.eq_1, AV.slen.eq_2, AV.isS.eq_1, AV.isS.eq_2, AV.isS.eq_3, AV.isPtr, AV.gl, AV.isG, Value.oneCell', Nat.add_assoc, cut_of_le, nat_lt0, nat_le0, hdC, Tryd.f35, s4, s5, t4, t5, r4, r5, hneg]
      exact ⟨by simp [agree_up, agree_refl], by simp [fromC]⟩
def tb36 : List (FuncId × (List AV → Heap → PRes)) := [(32, G31), (66, G65)]
set_option maxRecDepth 100000 in
set_option maxHeartbeats 2000000 in
theorem P36 (h30 : P0 [] 30 G29) : P0 [] 36 G35 := by
  refine mkH 2 (S := []) (l := tb36) (tb_cons (P32 h30) (tb_cons P66 tb_nil)) Tryd.func36 rfl (by kernel_rfl) deC_mono (fun h l x e => by obtain ⟨a, b, c, rfl, _⟩ := deC_out e; exact Nat.le_refl _) (fun a => rfl) (fun args q h n e hp hn => ?_)
  obtain ⟨⟨p, each, prev⟩, ls⟩ := q
  obtain ⟨a, b, l, rfl, e1, e2, e3⟩ := deC_out e
  simp only [] at e1 e2 e3 hp ⊢
  obtain ⟨s1, s2, s3, s4, s5⟩ := sl_is e1
  obtain ⟨t1, t2, t3, t4, t5⟩ := sl_is e2
  obtain ⟨r1, r2, r3, r4, r5⟩ := sl_is e3
  have gr : ∀ (each pos : Int) h', agree n (roH h) h' → deR h' [.g [a, b], .g [l, .v (.int .i64 each), .v (.int .i64 pos)]] = some (p, ⟨ls, each, pos⟩) := fun each pos h' ha => by
    simp only [deR, dePr_in (rd_agree hn e1 h' ha) (rd_agree hn e2 h' ha), deEn_in (e := ⟨ls, each, pos⟩) (rd_agree hn e3 h' ha)]
  by_cases hm1 : each < -1
  · have hneg : each < 0 := by omega
    have hne : ¬ each = -1 := by omega
    simp [awp_skip, awp_label, awp_region, awp_seq, awp_if, awp_block, awp_ret, awp_scope, awp_exit, thenQ_n, thenQ_e, thenQ_r, blockQ_n, blockQ_e, blockQ_r, finQ_n, finQ_r, finQ_e, resAll, resVal, resOne, aops_nil, aops_cons, atl_nil, atl_cons, atlAll_nil, atlAll_cons, freeOp, List.filter_cons, List.filter_nil, adraw_eq, adrawA_nil, adrawA_cons, isA, goOp, appNew, mkOp, gev, Region.binds, Heap.le_refl, aop, aeval, gocall, heapOp, quietOp, ev, constAV, setd, yav, ystop, up, env0, cx_ti, cx_G, cx_pf, ti, globS, glob, pfL, lds, ldc, ldcs_1, ldcs_2, ldcs_3, ldcs_4, ldcs_5, ldcs_7, sts, sth, sls.eq_1, slc.eq_1, wr, place, fillOk, fillC, repZ, binI, isDiv, optInt, optI, eksOk, eksEq, EK.ok, EK.eq, AV.i, AV.isI, AV.isInt, AV.b.eq_1, AV.b.eq_2, AV.isB.eq_1, AV.isB.eq_2, AV.str, AV.isStr, unc_same, unc_tt, unc_tf, unc_f, unc_any, unc_v, unc_gp, unc_p, unc_s, unc_g, unc_e, unc_t, unc_fn, unc_okb, unc_bb, unc_isB, unc_b, AV.bb.eq_1, AV.bb.eq_2, AV.okb.eq_1, AV.okb.eq_2, AV.okg.eq_1, AV.okg.eq_2, AV.gd.eq_1, AV.gd.eq_2, AV.cells.eq_1, AV.cells.eq_2, AV.one.eq_1, AV.one.eq_2, AV.one.eq_3, AV.one.eq_4, AV.one.eq_5, AV.one.eq_6, AV.ones, AV.slen.eq_1, AV.slen.eq_2, AV.isS.eq_1, AV.isS.eq_2, AV.isS.eq_3, AV.isPtr, AV.gl, AV.isG, Value.oneCell', Nat.add_assoc, cut_of_le, nat_lt0, nat_le0, bv, s4, s5, t4, t5, r4, r5, hm1, everyV, hneg, hne]
  by_cases hm2 : each = -1
  · subst hm2
    have hok1 : okR (p, ⟨ls, -1, 0⟩) := hp.en (-1) (i := 0) (by omega)
    simp [awp_skip, awp_label, awp_region, awp_seq, awp_if, awp_block, awp_ret, awp_scope, awp_exit, thenQ_n, thenQ_e, thenQ_r, blockQ_n, blockQ_e, blockQ_r, finQ_n, finQ_r, finQ_e, resAll, resVal, resOne, aops_nil, aops_cons, atl_nil, atl_cons, atlAll_nil, atlAll_cons, freeOp, List.filter_cons, List.filter_nil, adraw_eq, adrawA_nil, adrawA_cons, isA, goOp, appNew, mkOp, gev, Region.binds, Heap.le_refl, aop, aeval, gocall, heapOp, quietOp, ev, constAV, setd, yav, ystop, up, env0, cx_ti, cx_G, cx_pf, ti, globS, glob, pfL, lds, ldc, ldcs_1, ldcs_2, ldcs_3, ldcs_4, ldcs_5, ldcs_7, sts, sth, sls.eq_1, slc.eq_1, wr, place, fillOk, fillC, repZ, binI, isDiv, optInt, optI, eksOk, eksEq, EK.ok, EK.eq, AV.i, AV.isI, AV.isInt, AV.b.eq_1, AV.b.eq_2, AV.isB.eq_1, AV.isB.eq_2, AV.str, AV.isStr, unc_same, unc_tt, unc_tf, unc_f, unc_any, unc_v, unc_gp, unc_p, unc_s, unc_g, unc_e, unc_t, unc_fn, unc_okb, unc_bb, unc_isB, unc_b, AV.bb.eq_1, AV.bb.eq_2, AV.okb.eq_1, AV.okb.eq_2, AV.okg.eq_1, AV.okg.eq_2, AV.gd.eq_1, AV.gd.eq_2, AV.cells.eq_1, AV.cells.eq_2, AV.one.eq_1, AV.one.eq_2, AV.one.eq_3, AV.one.eq_4, AV.one.eq_5, AV.one.eq_6, AV.ones, AV.slen.eq_1, AV.slen.eq_2, AV.isS.eq_1, AV.isS.eq_2, AV.isS.eq_3, AV.isPtr, AV.gl, AV.isG, Value.oneCell', Nat.add_assoc, cut_of_le, nat_lt0, nat_le0, bv, s4, s5, t4, t5, r4, r5, tb36, G31, pureH, gr, agree_up, agree_refl, hok1, everyV]
  have hneg : ¬ each < 0 := by omega
  have hlen := hp.e.lenAt each
  simp only [] at hlen
  have hev : everyV ⟨p, each, prev⟩ ls = everyTo ⟨p, each, prev⟩ ls (listAt ls each).length := if_neg hneg
  have key : ∀ e : Nat → AV, e 0 = .g [a, b, .v (.int .i64 each), .v (.bool prev)] → e 1 = l → awp (cx [] (pfL tb36)) (Tryd.f36.body.getD .skip) (finQ (cx [] (pfL tb36)) Tryd.f36 fun z _ _ => z = bv (everyV ⟨p, each, prev⟩ ls)) ⟨e, roH h, n⟩ := fun e q0 q1 => by
    obtain ⟨cl, f1, f2, u1, u2, u3, u4, u5⟩ := li_facts (e := ⟨ls, 0, 0⟩) hn e3 each
    simp only [] at f1 f2 u1 u2 u3 u4 u5
    have f0 := fun h' ha => (f1 h' ha).1
    replace f1 := fun h' ha => (f1 h' ha).2
    have loop : ∀ (e : Nat → AV) (h2 : Heap) (n2 : Nat), e 1 = l → e 2 = .p n 0 0 → e 5 = cl → e 6 = ii (fromC ⟨p, each, prev⟩) → agree n (roH h) h2 → h2 n = some ⟨[a, b, .v (.int .i64 each), .v (.bool prev)], 0, true, 4⟩ → n + 1 ≤ n2 →
        awp (cx [] (pfL tb36)) (tlC 6 (Tryd.f36.body.getD .skip)) (finQ (cx [] (pfL tb36)) Tryd.f36 fun z _ _ => z = bv (everyV ⟨p, each, prev⟩ ls)) ⟨e, h2, n2⟩ := fun e h2 n2 q1 q2 q5 q6 hag hc0 hnn => by
      simp [awp_skip, awp_label, awp_region, awp_seq, awp_if, awp_block, awp_ret, awp_scope, awp_exit, thenQ_n, thenQ_e, thenQ_r, blockQ_n, blockQ_e, blockQ_r, finQ_n, finQ_r, finQ_e, resAll, resVal, resOne, aops_nil, aops_cons, atl_nil, atl_cons, atlAll_nil, atlAll_cons, freeOp, List.filter_cons, List.filter_nil, adraw_eq, adrawA_nil, adrawA_cons, isA, goOp, appNew, mkOp, gev, Region.binds, Heap.le_refl, aop, aeval, gocall, heapOp, quietOp, ev, constAV, setd, yav, ystop, up, env0, cx_ti, cx_G, cx_pf, ti, globS, glob, pfL, lds, ldc, ldcs_1, ldcs_2, ldcs_3, ldcs_4, ldcs_5, ldcs_7, sts, sth, sls.eq_1, slc.eq_1, wr, place, fillOk, fillC, repZ, binI, isDiv, optInt, optI, eksOk, eksEq, EK.ok, EK.eq, AV.i, AV.isI, AV.isInt, AV.b.eq_1, AV.b.eq_2, AV.isB.eq_1, AV.isB.eq_2, AV.str, AV.isStr, unc_same, unc_tt, unc_tf, unc_f, unc_any, unc_v, unc_gp, unc_p, unc_s, unc_g, unc_e, unc_t, unc_fn, unc_okb, unc_bb, unc_isB, unc_b, AV.bb.eq_1, AV.bb.eq_2, AV.okb.eq_1, AV.okb.eq_2, AV.okg.eq_1, AV.okg.eq_2, AV.gd.eq_1, AV.gd.eq_2, AV.cells.eq_1, AV.cells.eq_2, AV.one.eq_1, AV.one.eq_2, AV.one.eq_3, AV.one.eq_4, AV.one.eq_5, AV.one.eq_6, AV.ones, AV.slen.eq_1, AV.slen.eq_2, AV.isS.eq_1, AV.isS.eq_2, AV.isS.eq_3, AV.isPtr, AV.gl, AV.isG, Value.oneCell', Nat.add_assoc, cut_of_le, nat_lt0, nat_le0, tlC, Tryd.f36, q6]
      refine awp_loop (fun s => ∃ j : Nat, fromC ⟨p, each, prev⟩ ≤ j ∧ (j ≤ (listAt ls each).length ∨ j = fromC ⟨p, each, prev⟩) ∧ s.e 1 = l ∧ s.e 2 = .p n 0 0 ∧ s.e 5 = cl ∧ s.e 7 = ii j ∧ agree n (roH h) s.h ∧ s.h n = some ⟨[a, b, .v (.int .i64 each), .v (.bool prev)], 0, true, 4⟩ ∧ n + 1 ≤ s.n ∧ everyTo ⟨p, each, prev⟩ ls j = true)
        (fun s => (listAt ls each).length - (s.e 7).i.toNat) ⟨fromC ⟨p, each, prev⟩, Nat.le_refl _, .inr rfl, by simp [up, q1], by simp [up, q2], by simp [up, q5], by simp [up, ii], hag, hc0, hnn, everyTo_from _ _ (Nat.le_refl _)⟩ ?_
      rintro e3 h3 n3 ⟨j, hj1, hj2, q1, q2, q5, q7, hag, hc0, hnn, hall⟩
      simp only [] at q1 q2 q5 q7 hag hc0 hnn
      by_cases hlt : j < (listAt ls each).length
      · have hok := hp.en each (i := j) (by omega)
        simp only [] at hok
        have hw := wrap_nat (j := j) (by unfold big; omega)
        have g2 := gr each j h3 hag
        cases hh : holdsV p ⟨ls, each, j⟩ with
        | false =>
          have hno : everyV ⟨p, each, prev⟩ ls = false := by rw [hev]; exact everyTo_no _ _ hlt hj1 hh
          simp [awp_skip, awp_label, awp_region, awp_seq, awp_if, awp_block, awp_ret, awp_scope, awp_exit, thenQ_n, thenQ_e, thenQ_r, blockQ_n, blockQ_e, blockQ_r, finQ_n, finQ_r, finQ_e, resAll, resVal, resOne, aops_nil, aops_cons, atl_nil, atl_cons, atlAll_nil, atlAll_cons, freeOp, List.filter_cons, List.filter_nil, adraw_eq, adrawA_nil, adrawA_cons, isA, goOp, appNew, mkOp, gev, Region.binds, Heap.le_refl, aop, aeval, gocall, heapOp, quietOp, ev, constAV, setd, yav, ystop, up, env0, cx_ti, cx_G, cx_pf, ti, globS, glob, pfL, lds, ldc, ldcs_1, ldcs_2, ldcs_3, ldcs_4, ldcs_5, ldcs_7, sts, sth, sls.eq_1, slc.eq_1, wr, place, fillOk, fillC, repZ, binI, isDiv, optInt, optI, eksOk, eksEq, EK.ok, EK.eq, AV.i, AV.isI, AV.isInt, AV.b.eq_1, AV.b.eq_2, AV.isB.eq_1, AV.isB.eq_2, AV.str, AV.isStr, unc_same, unc_tt, unc_tf, unc_f, unc_any, unc_v, unc_gp, unc_p, unc_s, unc_g, unc_e, unc_t, unc_fn, unc_okb, unc_bb, unc_isB, unc_b, AV.bb.eq_1, AV.bb.eq_2, AV.okb.eq_1, AV.okb.eq_2, AV.okg.eq_1, AV.okg.eq_2, AV.gd.eq_1, AV.gd.eq_2, AV.cells.eq_1, AV.cells.eq_2, AV.one.eq_1, AV.one.eq_2, AV.one.eq_3, AV.one.eq_4, AV.one.eq_5, AV.one.eq_6, AV.ones, AV.slen.eq_1, AV.slen.eq_2, AV.isS.eq_1, AV.isS.eq_2, AV.isS.eq_3, AV.isPtr, AV.gl, AV.isG, Value.oneCell', Nat.add_assoc, cut_of_le, nat_lt0, nat_le0, q1, q2, q5, q7, ii, bv, hc0, hlt, u1, u2, u3, r4, r5, tb36, G31, pureH, g2, hok, hh, hno]
        | true =>
          simp [awp_skip, awp_label, awp_region, awp_seq, awp_if, awp_block, awp_ret, awp_scope, awp_exit, thenQ_n, thenQ_e, thenQ_r, blockQ_n, blockQ_e, blockQ_r, finQ_n, finQ_r, finQ_e, resAll, resVal, resOne, aops_nil, aops_cons, atl_nil, atl_cons, atlAll_nil, atlAll_cons, freeOp, List.filter_cons, List.filter_nil, adraw_eq, adrawA_nil, adrawA_cons, isA, goOp, appNew, mkOp, gev, Region.binds, Heap.le_refl, aop, aeval, gocall, heapOp, quietOp, ev, constAV, setd, yav, ystop, up, env0, cx_ti, cx_G, cx_pf, ti, globS, glob, pfL, lds, ldc, ldcs_1, ldcs_2, ldcs_3, ldcs_4, ldcs_5, ldcs_7, sts, sth, sls.eq_1, slc.eq_1, wr, place, fillOk, fillC, repZ, binI, isDiv, optInt, optI, eksOk, eksEq, EK.ok, EK.eq, AV.i, AV.isI, AV.isInt, AV.b.eq_1, AV.b.eq_2, AV.isB.eq_1, AV.isB.eq_2, AV.str, AV.isStr, unc_same, unc_tt, unc_tf, unc_f, unc_any, unc_v, unc_gp, unc_p, unc_s, unc_g, unc_e, unc_t, unc_fn, unc_okb, unc_bb, unc_isB, unc_b, AV.bb.eq_1, AV.bb.eq_2, AV.okb.eq_1, AV.okb.eq_2, AV.okg.eq_1, AV.okg.eq_2, AV.gd.eq_1, AV.gd.eq_2, AV.cells.eq_1, AV.cells.eq_2, AV.one.eq_1, AV.one.eq_2, AV.one.eq_3, AV.one.eq_4, AV.one.eq_5, AV.one.eq_6, AV.ones, AV.slen.eq_1, AV.slen.eq_2, AV.isS.eq_1, AV.isS.eq_2, AV.isS.eq_3, AV.isPtr, AV.gl, AV.isG, Value.oneCell', Nat.add_assoc, cut_of_le, nat_lt0, nat_le0, q1, q2, q5, q7, ii, bv, hc0, hlt, u1, u2, u3, r4, r5, tb36, G31, pureH, g2, hok, hh, hw]
          refine ⟨⟨j + 1, by omega, .inl (by omega), by omega, hag, by omega, ?_⟩, ?_⟩
          rotate_left
          · exact Nat.sub_lt_sub_left hlt (Nat.lt_succ_self j)
          rw [everyTo_succ, hall, hh]
          simp
      · have hfin : everyV ⟨p, each, prev⟩ ls = true := by
          rw [hev]
          rcases hj2 with h1 | h1
          · rw [show (listAt ls each).length = j by omega]; exact hall
          · exact everyTo_from _ _ (by omega)
        simp [awp_skip, awp_label, awp_region, awp_seq, awp_if, awp_block, awp_ret, awp_scope, awp_exit, thenQ_n, thenQ_e, thenQ_r, blockQ_n, blockQ_e, blockQ_r, finQ_n, finQ_r, finQ_e, resAll, resVal, resOne, aops_nil, aops_cons, atl_nil, atl_cons, atlAll_nil, atlAll_cons, freeOp, List.filter_cons, List.filter_nil, adraw_eq, adrawA_nil, adrawA_cons, isA, goOp, appNew, mkOp, gev, Region.binds, Heap.le_refl, aop, aeval, gocall, heapOp, quietOp, ev, constAV, setd, yav, ystop, up, env0, cx_ti, cx_G, cx_pf, ti, globS, glob, pfL, lds, ldc, ldcs_1, ldcs_2, ldcs_3, ldcs_4, ldcs_5, ldcs_7, sts, sth, sls.eq_1, slc.eq_1, wr, place, fillOk, fillC, repZ, binI, isDiv, optInt, optI, eksOk, eksEq, EK.ok, EK.eq, AV.i, AV.isI, AV.isInt, AV.b.eq_1, AV.b.eq_2, AV.isB.eq_1, AV.isB.eq_2, AV.str, AV.isStr, unc_same, unc_tt, unc_tf, unc_f, unc_any, unc_v, unc_gp, unc_p, unc_s, unc_g, unc_e, unc_t, unc_fn, unc_okb, unc_bb, unc_isB, unc_b, AV.bb.eq_1, AV.bb.eq_2, AV.okb.eq_1, AV.okb.eq_2, AV.okg.eq_1, AV.okg.eq_2, AV.gd.eq_1, AV.gd.eq_2, AV.cells.eq_1, AV.cells.eq_2, AV.one.eq_1, AV.one.eq_2, AV.one.eq_3, AV.one.eq_4, AV.one.eq_5, AV.one.eq_6, AV.ones, AV.slen.eq_1, AV.slen.eq_2, AV.isS.eq_1, AV.isS.eq_2, AV.isS.eq_3, AV.isPtr, AV.gl, AV.isG, Value.oneCell', Nat.add_assoc, cut_of_le, nat_lt0, nat_le0, q1, q2, q5, q7, ii, bv, hc0, hlt, u1, u2, u3, hfin]
    refine awp_cut 6 _ _ (R := fun s => everyV ⟨p, each, prev⟩ ls = everyV ⟨p, each, prev⟩ ls ∧ s.e 1 = l ∧ s.e 2 = .p n 0 0 ∧ s.e 5 = cl ∧ s.e 6 = ii (fromC ⟨p, each, prev⟩) ∧ agree n (roH h) s.h ∧ s.h n = some ⟨[a, b, .v (.int .i64 each), .v (.bool prev)], 0, true, 4⟩ ∧ n + 1 ≤ s.n) ?_ fun e2 h2 n2 ⟨_, q1, q2, q5, q6, hag, hc0, hnn⟩ => loop e2 h2 n2 q1 q2 q5 q6 hag hc0 hnn
    cases prev with
    | true =>
      simp [awp_skip, awp_label, awp_region, awp_seq, awp_if, awp_block, awp_ret, awp_scope, awp_exit, thenQ_n, thenQ_e, thenQ_r, blockQ_n, blockQ_e, blockQ_r, finQ_n, finQ_r, finQ_e, resAll, resVal, resOne, aops_nil, aops_cons, atl_nil, atl_cons, atlAll_nil, atlAll_cons, freeOp, List.filter_cons, List.filter_nil, adraw_eq, adrawA_nil, adrawA_cons, isA, goOp, appNew, mkOp, gev, Region.binds, Heap.le_refl, aop, aeval, gocall, heapOp, quietOp, ev, constAV, setd, yav, ystop, up, env0, cx_ti, cx_G, cx_pf, ti, globS, glob, pfL, lds, ldc, ldcs_1, ldcs_2, ldcs_3, ldcs_4, ldcs_5, ldcs_7, sts, sth, sls.eq_1, slc.eq_1, wr, place, fillOk, fillC, repZ, binI, isDiv, optInt, optI, eksOk, eksEq, EK.ok, EK.eq, AV.i, AV.isI, AV.isInt, AV.b.eq_1, AV.b.eq_2, AV.isB.eq_1, AV.isB.eq_2, AV.str, AV.isStr, unc_same, unc_tt, unc_tf, unc_f, unc_any, unc_v, unc_gp, unc_p, unc_s, unc_g, unc_e, unc_t, unc_fn, unc_okb, unc_bb, unc_isB, unc_b, AV.bb.eq_1, AV.bb.eq_2, AV.okb.eq_1, AV.okb.eq_2, AV.okg.eq_1, AV.okg.eq_2, AV.gd.eq_1, AV.gd.eq_2, AV.cells.eq_1, AV.cells.eq_2, AV.one.eq_1, AV.one.eq_2, AV.one.eq_3, AV.one.eq_4, AV.one.eq_5, AV.one.eq_6, AV.ones, AV.slen.eq_1, AV.slen.eq_2, AV.isS.eq_1, AV.isS.eq_2, AV.isS.eq_3, AV.isPtr, AV.gl, AV.isG, Value.oneCell', Nat.add_assoc, cut_of_le, nat_lt0, nat_le0, hdC, Tryd.f36, q0, q1, ii, s4, s5, t4, t5, r4, r5, hm1, hm2, tb36, G65, pureS, f0, f1, agree_up, agree_refl]
      simp [fromC]
    | false =>
      simp [awp_skip, awp_label, awp_region, awp_seq, awp_if, awp_block, awp_ret, awp_scope, awp_exit, thenQ_n, thenQ_e, thenQ_r, blockQ_n, blockQ_e, blockQ_r, finQ_n, finQ_r, finQ_e, resAll, resVal, resOne, aops_nil, aops_cons, atl_nil, atl_cons, atlAll_nil, atlAll_cons, freeOp, List.filter_cons, List.filter_nil, adraw_eq, adrawA_nil, adrawA_cons, isA, goOp, appNew, mkOp, gev, Region.binds, Heap.le_refl, aop, aeval, gocall, heapOp, quietOp, ev, constAV, setd, yav, ystop, up, env0, cx_ti, cx_G, cx_pf, ti, globS, glob, pfL, lds, ldc, ldcs_1, ldcs_2, ldcs_3, ldcs_4, ldcs_5, ldcs_7, sts, sth, sls.eq_1, slc.eq_1, wr, place, fillOk, fillC, repZ, binI, isDiv, optInt, optI, eksOk, eksEq, EK.ok, EK.eq, AV.i, AV.isI, AV.isInt, AV.b.eq_1, AV.b.eq_2, AV.isB.eq_1, AV.isB.eq_2, AV.str, AV.isStr, unc_same, unc_tt, unc_tf, unc_f, unc_any, unc_v, unc_gp, unc_p, unc_s, unc_g, unc_e, unc_t, unc_fn, unc_okb, unc_bb, unc_isB, unc_b, AV.bb.eq_1, AV.bb.eq_2, AV.okb.eq_1, AV.okb.eq_2, AV.okg.eq_1, AV.okg.eq_2, AV.gd.eq_1, AV.gd.eq_2, AV.cells.eq_1, AV.cells.eq_2, AV.one.eq_1, AV.one.eq_2, AV.one.eq_3, AV.one.eq_4, AV.one.eq_5, AV.one.eq_6, AV.ones, AV.slen.eq_1, AV.slen.eq_2, AV.isS.eq_1, AV.isS.eq_2, AV.isS.eq_3, AV.isPtr, AV.gl, AV.isG, Value.oneCell', Nat.add_assoc, cut_of_le, nat_lt0, nat_le0, hdC, Tryd.f36, q0, q1, ii, s4, s5, t4, t5, r4, r5, hm1, hm2, tb36, G65, pureS, f0, f1, agree_up, agree_refl]
      simp [fromC]
  exact key _ rfl rfl
end Go.Proofs.YtkfphaphiikloaaDoor
