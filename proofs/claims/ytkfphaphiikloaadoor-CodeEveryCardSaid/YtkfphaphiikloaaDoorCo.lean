/-
  THE PROGRAMS OF CONDITIONS, PART O: events that are turned into other ones.
-/
import Derived.Test.YtkfphaphiikloaaDoorCf
set_option linter.unusedSimpArgs false
set_option linter.unusedVariables false
set_option linter.constructorNameAsVariable false
set_option linter.unusedSimpArgs false
namespace Go.Proofs.YtkfphaphiikloaaDoor
open Go Go.Eng

def xr (x : Int) : Int := IntKind.i64.wrap (((x % 2 ^ IntKind.i64.bits).toNat ^^^ 3 % 2 ^ IntKind.i64.bits : Nat) : Int)
/-- An event whose first k attributes are other ones. -/
def midE (k : Nat) (e : Ev) : Ev := ⟨e.ts, e.id, e.ty, if 0 < k then xr e.a0 else e.a0, if 1 < k then xr e.a1 else e.a1, if 2 < k then xr e.a2 else e.a2, if 3 < k then xr e.a3 else e.a3, if 4 < k then xr e.a4 else e.a4, if 5 < k then xr e.a5 else e.a5, if 6 < k then xr e.a6 else e.a6, if 7 < k then xr e.a7 else e.a7⟩
def flipE (e : Ev) : Ev := midE 8 e
theorem xr_rng (x : Int) : Rng (xr x) := by
  obtain ⟨_, _, h⟩ := W_spec (((x % 2 ^ IntKind.i64.bits).toNat ^^^ 3 % 2 ^ IntKind.i64.bits : Nat) : Int)
  exact h
theorem flip_ok {e : Ev} (h : EvOk e) : EvOk (flipE e) := ⟨h.1, h.2.1, xr_rng _, xr_rng _, xr_rng _, xr_rng _, xr_rng _, xr_rng _, xr_rng _, xr_rng _⟩
theorem up_up (h : Heap) (i : Nat) (a b : Option Blk) : up (up h i a) i b = up h i b := by
  funext j
  simp only [up]
  split <;> rfl
theorem up_self {h : Heap} {i : Nat} {b : Option Blk} (e : h i = b) : up h i b = h := by
  funext j
  simp only [up]
  split
  · rename_i e2; rw [e2, e]
  · rfl
theorem mid_get (A B : List AV) {o : Nat} (ho : A.length = o) (e : Ev) {k : Nat} (hk : k < 8) : (A ++ (ecells (midE k e) ++ B))[o + (3 + k)]? = some (ii (e.attr k)) := by
  have : k = 0 ∨ k = 1 ∨ k = 2 ∨ k = 3 ∨ k = 4 ∨ k = 5 ∨ k = 6 ∨ k = 7 := by omega
  subst ho
  rw [List.getElem?_append_right (by omega), show A.length + (3 + k) - A.length = 3 + k by omega]
  rcases this with rfl | rfl | rfl | rfl | rfl | rfl | rfl | rfl <;> rfl
theorem mid_set (A B : List AV) {o : Nat} (ho : A.length = o) (e : Ev) {k : Nat} (hk : k < 8) : (A ++ (ecells (midE k e) ++ B)).set (o + (3 + k)) (ii (xr (e.attr k))) = A ++ (ecells (midE (k + 1) e) ++ B) := by
  have : k = 0 ∨ k = 1 ∨ k = 2 ∨ k = 3 ∨ k = 4 ∨ k = 5 ∨ k = 6 ∨ k = 7 := by omega
  subst ho
  rw [List.set_append_right _ _ (by omega), show A.length + (3 + k) - A.length = 3 + k by omega]
  rcases this with rfl | rfl | rfl | rfl | rfl | rfl | rfl | rfl <;> rfl
/-- The cells of a list whose first j events are other ones. -/
def cellsJ (l : List Ev) (j : Nat) : List AV := ((l.take j).map flipE).flatMap ecells ++ (l.drop j).flatMap ecells
theorem cellsJ_0 (l : List Ev) : cellsJ l 0 = l.flatMap ecells := by simp [cellsJ]
theorem cellsJ_all (l : List Ev) : cellsJ l l.length = (l.map flipE).flatMap ecells := by simp [cellsJ]
theorem mid_0 (e : Ev) : midE 0 e = e := rfl
theorem cellsJ_at {l : List Ev} {j : Nat} (h : j < l.length) : cellsJ l j = ((l.take j).map flipE).flatMap ecells ++ (ecells (midE 0 l[j]) ++ (l.drop (j + 1)).flatMap ecells) := by
  unfold cellsJ
  rw [List.drop_eq_getElem_cons h, List.flatMap_cons]
  rfl
theorem cellsJ_succ {l : List Ev} {j : Nat} (h : j < l.length) : cellsJ l (j + 1) = ((l.take j).map flipE).flatMap ecells ++ (ecells (midE 8 l[j]) ++ (l.drop (j + 1)).flatMap ecells) := by
  unfold cellsJ
  rw [List.take_add_one, List.getElem?_eq_getElem h, List.map_append, List.flatMap_append, List.append_assoc]
  simp [flipE]
theorem pre_len {l : List Ev} {j : Nat} (h : j < l.length) : (((l.take j).map flipE).flatMap ecells).length = j * 11 := by
  rw [flat_len Flat.ev, List.length_map, List.length_take]
  congr 1
  omega
def flipLL (ll : List (List Ev)) : List (List Ev) := ll.map (List.map flipE)
def I34 (z : AV) (h : Heap) (n lo hi : Nat) (f : Nat → Nat) (ll : List (List Ev)) (s : St) : Prop := ∃ i, i ≤ ll.length ∧ s.e 0 = z ∧ s.e 2 = ii i ∧ (∀ q, (∀ m, m < ll.length → q ≠ f m) → s.h q = h q) ∧
  (∀ m, m < ll.length → s.h (f m) = some ⟨if m < i then ((ll.getD m []).map flipE).flatMap ecells else (ll.getD m []).flatMap ecells, 1, true, 11⟩) ∧ Fresh s.n s.h ∧ n ≤ s.n
set_option maxRecDepth 100000 in
set_option maxHeartbeats 4000000 in
theorem c34 {h : Heap} {n lo hi : Nat} {z : AV} {ll : List (List Ev)} (o : OwnL ecells 11 h lo hi z ll ll.length) (hl : ∀ l ∈ ll, l.length ≤ 2147483647) (hb : ll.length * 24 ≤ 140737488355328) (hhi : hi ≤ n) (hn : Fresh n h) :
    ACall (cx [] (pfL [])) 34 [z] h n fun _ h' n' => (∀ q, ¬ (lo ≤ q ∧ q < hi) → h' q = h q) ∧ Fresh n' h' ∧ n ≤ n' ∧ OwnL ecells 11 h' lo hi z (flipLL ll) (flipLL ll).length := by
  refine acall_of_awp (args := [z]) (pfL_ok tb_nil) (mixed _ _) Tryd.func34 (c := Tryd.f34.body.getD .skip) rfl (by kernel_rfl) (callable Tryd.func34 rfl rfl _ _) (show 1 ≤ Tryd.f34.ntmps by decide +kernel) ?_
  obtain ⟨s1, s2, s3, s4, s5⟩ := (show z.isS ∧ z.slen = ll.length ∧ (∀ g, AV.unc g z = z) ∧ z.one ∧ z.cells = [z] by
    obtain ⟨f, _, ⟨h0, rfl⟩ | ⟨w, u, rfl, _⟩⟩ := o
    · exact ⟨⟨rfl, rfl⟩, h0.symm, fun _ => rfl, rfl, rfl⟩
    · exact ⟨trivial, rfl, fun _ => rfl, trivial, rfl⟩)
  obtain ⟨f, hof, hz⟩ := o
  have key : ∀ e : Nat → AV, e 0 = z → awp (cx [] (pfL [])) (Tryd.f34.body.getD .skip) (finQ (cx [] (pfL [])) Tryd.f34 fun _ h' n' => (∀ q, ¬ (lo ≤ q ∧ q < hi) → h' q = h q) ∧ Fresh n' h' ∧ n ≤ n' ∧ OwnL ecells 11 h' lo hi z (flipLL ll) (flipLL ll).length) ⟨e, h, n⟩ := fun e q0 => by
    simp [awp_skip, awp_label, awp_region, awp_seq, awp_if, awp_block, awp_ret, awp_scope, awp_exit, thenQ_n, thenQ_e, thenQ_r, blockQ_n, blockQ_e, blockQ_r, finQ_n, finQ_r, finQ_e, resAll, resVal, resOne, aops_nil, aops_cons, atl_nil, atl_cons, atlAll_nil, atlAll_cons, freeOp, List.filter_cons, List.filter_nil, adraw_eq, adrawA_nil, adrawA_cons, isA, goOp, appNew, mkOp, gev, Region.binds, Heap.le_refl, aop, aeval, gocall, heapOp, quietOp, ev, constAV, setd, yav, ystop, up, env0, cx_ti, cx_G, cx_pf, ti, globS, glob, pfL, lds, ldc, ldcs_1, ldcs_2, ldcs_3, ldcs_4, ldcs_5, ldcs_7, sts, sth, sls.eq_1, slc.eq_1, wr, place, fillOk, fillC, repZ, binI, isDiv, optInt, optI, eksOk, eksEq, EK.ok, EK.eq, AV.i, AV.isI, AV.isInt, AV.b.eq_1, AV.b.eq_2, AV.isB.eq_1, AV.isB.eq_2, AV.str, AV.isStr, unc_same, unc_tt, unc_tf, unc_f, unc_any, unc_v, unc_gp, unc_p, unc_s, unc_g, unc_e, unc_t, unc_fn, unc_okb, unc_bb, unc_isB, unc_b, AV.bb.eq_1, AV.bb.eq_2, AV.okb.eq_1, AV.okb.eq_2, AV.okg.eq_1, AV.okg.eq_2, AV.gd.eq_1, AV.gd.eq_2, AV.cells.eq_1, AV.cells.eq_2, AV.one.eq_1, AV.one.eq_2, AV.one.eq_3, AV.one.eq_4, AV.one.eq_5, AV.one.eq_6, AV.ones, AV.slen.eq_1, AV.slen.eq_2, AV.isS.eq_1, AV.isS.eq_2, AV.isS.eq_3, AV.isPtr, AV.gl, AV.isG, Value.oneCell', Nat.add_assoc, cut_of_le, nat_lt0, nat_le0, Tryd.f34, q0]
    refine awp_loop (I34 z h n lo hi f ll) (fun s => ll.length - (s.e 2).i.toNat) ⟨0, Nat.zero_le _, by simp [up, q0], by simp [up, ii], fun _ _ => rfl, fun m hm => by simpa using hof.blk m hm, hn, Nat.le_refl _⟩ ?_
    rintro e' h' n' ⟨i, hi', q0, q2, hoth, hblk, hfr, hnn⟩
    simp only [] at q0 q2 hoth hblk hfr hnn
    by_cases hlt : i < ll.length
    · rcases hz with ⟨h0, _⟩ | ⟨w, u, rfl, hw0, hw2, hw3, hne⟩
      · rw [h0] at hlt; omega
      have hw : h' w = some ⟨lcells f ll ll.length, u, true, 1⟩ := by rw [hoth w fun m hm => (hne m hm).symm]; exact hw0
      have hlc : (lcells f ll ll.length)[i]? = some (.s (f i) 1 0 (ll.getD i []).length) := by simp [lcells, hlt]
      have hg : ll.getD i [] = ll[i] := by simp [List.getD_eq_getElem?_getD, hlt]
      have hbi := hblk i hlt
      rw [if_neg (by omega), hg] at hbi
      rw [hg] at hlc
      have hll := hl _ (List.getElem_mem hlt)
      have hlcl := lcells_len f ll ll.length
      have hwi : ¬ w = f i := (hne i hlt).symm
      have hw1 := wrap_nat (j := i) (by unfold big; omega)
      have hfi := hof.rng i hlt
      generalize lcells f ll ll.length = lc at *
      generalize hgl : ll[i] = l at *
      have hli : i < lc.length := by omega
      have hi1 : i + 1 ≤ ll.length := by omega
      have hlc' : lc[i] = .s (f i) 1 0 l.length := (List.getElem?_eq_some_iff.1 hlc).2
      simp [awp_skip, awp_label, awp_region, awp_seq, awp_if, awp_block, awp_ret, awp_scope, awp_exit, thenQ_n, thenQ_e, thenQ_r, blockQ_n, blockQ_e, blockQ_r, finQ_n, finQ_r, finQ_e, resAll, resVal, resOne, aops_nil, aops_cons, atl_nil, atl_cons, atlAll_nil, atlAll_cons, freeOp, List.filter_cons, List.filter_nil, adraw_eq, adrawA_nil, adrawA_cons, isA, goOp, appNew, mkOp, gev, Region.binds, Heap.le_refl, aop, aeval, gocall, heapOp, quietOp, ev, constAV, setd, yav, ystop, up, env0, cx_ti, cx_G, cx_pf, ti, globS, glob, pfL, lds, ldc, ldcs_1, ldcs_2, ldcs_3, ldcs_4, ldcs_5, ldcs_7, sts, sth, sls.eq_1, slc.eq_1, wr, place, fillOk, fillC, repZ, binI, isDiv, optInt, optI, eksOk, eksEq, EK.ok, EK.eq, AV.i, AV.isI, AV.isInt, AV.b.eq_1, AV.b.eq_2, AV.isB.eq_1, AV.isB.eq_2, AV.str, AV.isStr, unc_same, unc_tt, unc_tf, unc_f, unc_any, unc_v, unc_gp, unc_p, unc_s, unc_g, unc_e, unc_t, unc_fn, unc_okb, unc_bb, unc_isB, unc_b, AV.bb.eq_1, AV.bb.eq_2, AV.okb.eq_1, AV.okb.eq_2, AV.okg.eq_1, AV.okg.eq_2, AV.gd.eq_1, AV.gd.eq_2, AV.cells.eq_1, AV.cells.eq_2, AV.one.eq_1, AV.one.eq_2, AV.one.eq_3, AV.one.eq_4, AV.one.eq_5, AV.one.eq_6, AV.ones, AV.slen.eq_1, AV.slen.eq_2, AV.isS.eq_1, AV.isS.eq_2, AV.isS.eq_3, AV.isPtr, AV.gl, AV.isG, Value.oneCell', Nat.add_assoc, cut_of_le, nat_lt0, nat_le0, q0, q2, ii, hlt, hw, hlc, hlc', hlcl, hi1]
      refine awp_loop (fun s => ∃ j, j ≤ l.length ∧ s.e 0 = .s w u 0 ll.length ∧ s.e 2 = ii i ∧ s.e 3 = ii j ∧ s.h = up h' (f i) (some ⟨cellsJ l j, 1, true, 11⟩) ∧ n' ≤ s.n) (fun s => l.length - (s.e 3).i.toNat) ⟨0, by simp [up, q0, q2, ii, cellsJ_0, up_self hbi]⟩ ?_
      rintro e2 h2 n2 ⟨j, hj, q0, q2, q3, hh, hn2⟩
      simp only [] at q0 q2 q3 hh hn2
      subst hh
      by_cases hjt : j < l.length
      · have hcj := cellsJ_at hjt
        have hcs := cellsJ_succ hjt
        have hpl := pre_len hjt
        generalize ((l.take j).map flipE).flatMap ecells = A at *
        generalize (l.drop (j + 1)).flatMap ecells = B at *
        generalize l[j] = ev1 at *
        have hwj := wrap_nat (j := j) (by unfold big; omega)
        simp [awp_skip, awp_label, awp_region, awp_seq, awp_if, awp_block, awp_ret, awp_scope, awp_exit, thenQ_n, thenQ_e, thenQ_r, blockQ_n, blockQ_e, blockQ_r, finQ_n, finQ_r, finQ_e, resAll, resVal, resOne, aops_nil, aops_cons, atl_nil, atl_cons, atlAll_nil, atlAll_cons, freeOp, List.filter_cons, List.filter_nil, adraw_eq, adrawA_nil, adrawA_cons, isA, goOp, appNew, mkOp, gev, Region.binds, Heap.le_refl, aop, aeval, gocall, heapOp, quietOp, ev, constAV, setd, yav, ystop, up, env0, cx_ti, cx_G, cx_pf, ti, globS, glob, pfL, lds, ldc, ldcs_1, ldcs_2, ldcs_3, ldcs_4, ldcs_5, ldcs_7, sts, sth, sls.eq_1, slc.eq_1, wr, place, fillOk, fillC, repZ, binI, isDiv, optInt, optI, eksOk, eksEq, EK.ok, EK.eq, AV.i, AV.isI, AV.isInt, AV.b.eq_1, AV.b.eq_2, AV.isB.eq_1, AV.isB.eq_2, AV.str, AV.isStr, unc_same, unc_tt, unc_tf, unc_f, unc_any, unc_v, unc_gp, unc_p, unc_s, unc_g, unc_e, unc_t, unc_fn, unc_okb, unc_bb, unc_isB, unc_b, AV.bb.eq_1, AV.bb.eq_2, AV.okb.eq_1, AV.okb.eq_2, AV.okg.eq_1, AV.okg.eq_2, AV.gd.eq_1, AV.gd.eq_2, AV.cells.eq_1, AV.cells.eq_2, AV.one.eq_1, AV.one.eq_2, AV.one.eq_3, AV.one.eq_4, AV.one.eq_5, AV.one.eq_6, AV.ones, AV.slen.eq_1, AV.slen.eq_2, AV.isS.eq_1, AV.isS.eq_2, AV.isS.eq_3, AV.isPtr, AV.gl, AV.isG, Value.oneCell', Nat.add_assoc, cut_of_le, nat_lt0, nat_le0, q0, q2, q3, ii, hlt, hw, hlc, hlc', hlcl, hi1, hwi, hjt]
        refine awp_loop (fun s => ∃ k : Nat, k ≤ 8 ∧ s.e 0 = .s w u 0 ll.length ∧ s.e 2 = ii i ∧ s.e 3 = ii j ∧ s.e 4 = ii k ∧ s.h = up h' (f i) (some ⟨A ++ (ecells (midE k ev1) ++ B), 1, true, 11⟩) ∧ n' ≤ s.n) (fun s => 8 - (s.e 4).i.toNat) ⟨0, by simp [up, q0, q2, q3, ii, hcj, hn2]⟩ ?_
        rintro e3 h3 n3 ⟨k, hk, q0, q2, q3, q4, hh, hn3⟩
        simp only [] at q0 q2 q3 q4 hh hn3
        subst hh
        by_cases hkt : k < 8
        · have hget := mid_get A B hpl ev1 hkt
          have hset := mid_set A B hpl ev1 hkt
          have hlen : (A ++ (ecells (midE k ev1) ++ B)).length = j * 11 + (11 + B.length) := by simp [ecells, hpl]; omega
          have hwk := wrap_nat (j := k) (by unfold big; omega)
          have hb8 : j * 11 + (3 + (k + 1)) ≤ j * 11 + (11 + B.length) := by omega
          have hkI : (k : Int) < 8 := by omega
          generalize A ++ (ecells (midE k ev1) ++ B) = cs at *
          have hgl2 : j * 11 + (3 + k) < cs.length := by omega
          have hget' : cs[j * 11 + (3 + k)] = ii (ev1.attr k) := (List.getElem?_eq_some_iff.1 hget).2
          simp [awp_skip, awp_label, awp_region, awp_seq, awp_if, awp_block, awp_ret, awp_scope, awp_exit, thenQ_n, thenQ_e, thenQ_r, blockQ_n, blockQ_e, blockQ_r, finQ_n, finQ_r, finQ_e, resAll, resVal, resOne, aops_nil, aops_cons, atl_nil, atl_cons, atlAll_nil, atlAll_cons, freeOp, List.filter_cons, List.filter_nil, adraw_eq, adrawA_nil, adrawA_cons, isA, goOp, appNew, mkOp, gev, Region.binds, Heap.le_refl, aop, aeval, gocall, heapOp, quietOp, ev, constAV, setd, yav, ystop, up, env0, cx_ti, cx_G, cx_pf, ti, globS, glob, pfL, lds, ldc, ldcs_1, ldcs_2, ldcs_3, ldcs_4, ldcs_5, ldcs_7, sts, sth, sls.eq_1, slc.eq_1, wr, place, fillOk, fillC, repZ, binI, isDiv, optInt, optI, eksOk, eksEq, EK.ok, EK.eq, AV.i, AV.isI, AV.isInt, AV.b.eq_1, AV.b.eq_2, AV.isB.eq_1, AV.isB.eq_2, AV.str, AV.isStr, unc_same, unc_tt, unc_tf, unc_f, unc_any, unc_v, unc_gp, unc_p, unc_s, unc_g, unc_e, unc_t, unc_fn, unc_okb, unc_bb, unc_isB, unc_b, AV.bb.eq_1, AV.bb.eq_2, AV.okb.eq_1, AV.okb.eq_2, AV.okg.eq_1, AV.okg.eq_2, AV.gd.eq_1, AV.gd.eq_2, AV.cells.eq_1, AV.cells.eq_2, AV.one.eq_1, AV.one.eq_2, AV.one.eq_3, AV.one.eq_4, AV.one.eq_5, AV.one.eq_6, AV.ones, AV.slen.eq_1, AV.slen.eq_2, AV.isS.eq_1, AV.isS.eq_2, AV.isS.eq_3, AV.isPtr, AV.gl, AV.isG, Value.oneCell', Nat.add_assoc, cut_of_le, nat_lt0, nat_le0, q0, q2, q3, q4, ii, hlt, hw, hlc, hlc', hlcl, hi1, hwi, hjt, hkt, hkI, hget, hget', hlen, hb8, hwk]
          exact ⟨⟨k + 1, by omega, by omega, by rw [up_up, ← hset]; rfl, by omega⟩, by omega⟩
        · have hke : k = 8 := by omega
          subst hke
          simp [awp_skip, awp_label, awp_region, awp_seq, awp_if, awp_block, awp_ret, awp_scope, awp_exit, thenQ_n, thenQ_e, thenQ_r, blockQ_n, blockQ_e, blockQ_r, finQ_n, finQ_r, finQ_e, resAll, resVal, resOne, aops_nil, aops_cons, atl_nil, atl_cons, atlAll_nil, atlAll_cons, freeOp, List.filter_cons, List.filter_nil, adraw_eq, adrawA_nil, adrawA_cons, isA, goOp, appNew, mkOp, gev, Region.binds, Heap.le_refl, aop, aeval, gocall, heapOp, quietOp, ev, constAV, setd, yav, ystop, up, env0, cx_ti, cx_G, cx_pf, ti, globS, glob, pfL, lds, ldc, ldcs_1, ldcs_2, ldcs_3, ldcs_4, ldcs_5, ldcs_7, sts, sth, sls.eq_1, slc.eq_1, wr, place, fillOk, fillC, repZ, binI, isDiv, optInt, optI, eksOk, eksEq, EK.ok, EK.eq, AV.i, AV.isI, AV.isInt, AV.b.eq_1, AV.b.eq_2, AV.isB.eq_1, AV.isB.eq_2, AV.str, AV.isStr, unc_same, unc_tt, unc_tf, unc_f, unc_any, unc_v, unc_gp, unc_p, unc_s, unc_g, unc_e, unc_t, unc_fn, unc_okb, unc_bb, unc_isB, unc_b, AV.bb.eq_1, AV.bb.eq_2, AV.okb.eq_1, AV.okb.eq_2, AV.okg.eq_1, AV.okg.eq_2, AV.gd.eq_1, AV.gd.eq_2, AV.cells.eq_1, AV.cells.eq_2, AV.one.eq_1, AV.one.eq_2, AV.one.eq_3, AV.one.eq_4, AV.one.eq_5, AV.one.eq_6, AV.ones, AV.slen.eq_1, AV.slen.eq_2, AV.isS.eq_1, AV.isS.eq_2, AV.isS.eq_3, AV.isPtr, AV.gl, AV.isG, Value.oneCell', Nat.add_assoc, cut_of_le, nat_lt0, nat_le0, q0, q2, q3, q4, ii, hwj]
          exact ⟨⟨j + 1, by omega, by omega, by rw [hcs], by omega⟩, by omega⟩
      · have hje : j = l.length := by omega
        subst hje
        simp [awp_skip, awp_label, awp_region, awp_seq, awp_if, awp_block, awp_ret, awp_scope, awp_exit, thenQ_n, thenQ_e, thenQ_r, blockQ_n, blockQ_e, blockQ_r, finQ_n, finQ_r, finQ_e, resAll, resVal, resOne, aops_nil, aops_cons, atl_nil, atl_cons, atlAll_nil, atlAll_cons, freeOp, List.filter_cons, List.filter_nil, adraw_eq, adrawA_nil, adrawA_cons, isA, goOp, appNew, mkOp, gev, Region.binds, Heap.le_refl, aop, aeval, gocall, heapOp, quietOp, ev, constAV, setd, yav, ystop, up, env0, cx_ti, cx_G, cx_pf, ti, globS, glob, pfL, lds, ldc, ldcs_1, ldcs_2, ldcs_3, ldcs_4, ldcs_5, ldcs_7, sts, sth, sls.eq_1, slc.eq_1, wr, place, fillOk, fillC, repZ, binI, isDiv, optInt, optI, eksOk, eksEq, EK.ok, EK.eq, AV.i, AV.isI, AV.isInt, AV.b.eq_1, AV.b.eq_2, AV.isB.eq_1, AV.isB.eq_2, AV.str, AV.isStr, unc_same, unc_tt, unc_tf, unc_f, unc_any, unc_v, unc_gp, unc_p, unc_s, unc_g, unc_e, unc_t, unc_fn, unc_okb, unc_bb, unc_isB, unc_b, AV.bb.eq_1, AV.bb.eq_2, AV.okb.eq_1, AV.okb.eq_2, AV.okg.eq_1, AV.okg.eq_2, AV.gd.eq_1, AV.gd.eq_2, AV.cells.eq_1, AV.cells.eq_2, AV.one.eq_1, AV.one.eq_2, AV.one.eq_3, AV.one.eq_4, AV.one.eq_5, AV.one.eq_6, AV.ones, AV.slen.eq_1, AV.slen.eq_2, AV.isS.eq_1, AV.isS.eq_2, AV.isS.eq_3, AV.isPtr, AV.gl, AV.isG, Value.oneCell', Nat.add_assoc, cut_of_le, nat_lt0, nat_le0, q0, q2, q3, ii, hlt, hw, hlc, hlc', hlcl, hi1, hwi, hw1]
        refine ⟨⟨i + 1, by omega, by simp [up, q0], by simp [up, ii], fun q hq => ?_, fun m hm => ?_, ?_, by simp only []; omega⟩, by omega⟩
        · simp only []
          rw [up_ne _ _ (hq i hlt)]
          exact hoth q hq
        · simp only []
          by_cases hmi : m = i
          · subst hmi
            rw [up_same, if_pos (by omega), hg, cellsJ_all]
          · rw [up_ne _ _ (fun e => hmi (hof.inj m i hm hlt e)), hblk m hm]
            by_cases h5 : m < i
            · rw [if_pos h5, if_pos (by omega)]
            · rw [if_neg h5, if_neg (by omega)]
        · simp only []
          exact (fresh_up (by omega) _).2 (hfr.mono hn2)
    · have hie : i = ll.length := by omega
      subst hie
      simp [awp_skip, awp_label, awp_region, awp_seq, awp_if, awp_block, awp_ret, awp_scope, awp_exit, thenQ_n, thenQ_e, thenQ_r, blockQ_n, blockQ_e, blockQ_r, finQ_n, finQ_r, finQ_e, resAll, resVal, resOne, aops_nil, aops_cons, atl_nil, atl_cons, atlAll_nil, atlAll_cons, freeOp, List.filter_cons, List.filter_nil, adraw_eq, adrawA_nil, adrawA_cons, isA, goOp, appNew, mkOp, gev, Region.binds, Heap.le_refl, aop, aeval, gocall, heapOp, quietOp, ev, constAV, setd, yav, ystop, up, env0, cx_ti, cx_G, cx_pf, ti, globS, glob, pfL, lds, ldc, ldcs_1, ldcs_2, ldcs_3, ldcs_4, ldcs_5, ldcs_7, sts, sth, sls.eq_1, slc.eq_1, wr, place, fillOk, fillC, repZ, binI, isDiv, optInt, optI, eksOk, eksEq, EK.ok, EK.eq, AV.i, AV.isI, AV.isInt, AV.b.eq_1, AV.b.eq_2, AV.isB.eq_1, AV.isB.eq_2, AV.str, AV.isStr, unc_same, unc_tt, unc_tf, unc_f, unc_any, unc_v, unc_gp, unc_p, unc_s, unc_g, unc_e, unc_t, unc_fn, unc_okb, unc_bb, unc_isB, unc_b, AV.bb.eq_1, AV.bb.eq_2, AV.okb.eq_1, AV.okb.eq_2, AV.okg.eq_1, AV.okg.eq_2, AV.gd.eq_1, AV.gd.eq_2, AV.cells.eq_1, AV.cells.eq_2, AV.one.eq_1, AV.one.eq_2, AV.one.eq_3, AV.one.eq_4, AV.one.eq_5, AV.one.eq_6, AV.ones, AV.slen.eq_1, AV.slen.eq_2, AV.isS.eq_1, AV.isS.eq_2, AV.isS.eq_3, AV.isPtr, AV.gl, AV.isG, Value.oneCell', Nat.add_assoc, cut_of_le, nat_lt0, nat_le0, q0, q2, ii, s1, s2, s3]
      have hll2 : (flipLL ll).length = ll.length := by simp [flipLL]
      have hfg : ∀ m, (flipLL ll).getD m [] = (ll.getD m []).map flipE := fun m => by
        simp only [flipLL, List.getD_eq_getElem?_getD, List.getElem?_map]
        cases ll[m]? <;> rfl
      have hlc2 : ∀ j, lcells f (flipLL ll) j = lcells f ll j := fun j => by
        unfold lcells
        apply List.map_congr_left
        intro i _
        rw [hfg, List.length_map]
      refine ⟨fun q hq => hoth q fun m hm e => ?_, hfr, hnn, f, ⟨fun m hm => hof.rng m (by omega), fun m hm => ?_, fun m k hm hk => hof.inj m k (by omega) (by omega)⟩, ?_⟩
      · have := hof.rng m hm
        subst e
        have := hq this.1
        omega
      · rw [hblk m (by omega), if_pos (by omega), hfg]
      · rcases hz with ⟨h0, h1⟩ | ⟨w, u, h1, h2, h3, h4, h5⟩
        · exact .inl ⟨by rw [hll2]; exact h0, h1⟩
        · refine .inr ⟨w, u, by rw [hll2]; exact h1, ?_, h3, h4, fun m hm => h5 m (by omega)⟩
          rw [hoth w fun m hm => (h5 m hm).symm, h2, hll2, hlc2]
  exact key _ rfl
end Go.Proofs.YtkfphaphiikloaaDoor
