/-
  NumSpares: the law's own code.
-/
import Derived.Test.YtnodenojdjlbnaaDoorMd
import Derived.Test.YtnodenojdjlbnaaDoorEngK
set_option linter.unusedSimpArgs false
namespace Go.Proofs.YtnodenojdjlbnaaDoor
open Go Go.Eng
def tbl11 : List (FuncId × (List AV → Heap → PRes)) := [(33, g33), (25, g25)]
theorem tbl11_ok : TbOk [3] tbl11 := tb_cons p33 (tb_cons p25 tb_nil)
/-- What stays as it is. -/
structure Q11 (o : Int) (l : List Int) (mark : Int) (id n : Nat) (s : St) : Prop where
  q0 : s.e 0 = ii o
  q1 : s.e 1 = .s id 0 0 l.length
  q2 : s.e 2 = ii mark
  hh : s.h id = some ⟨l.map ii, 0, false, 1⟩
  hn : n ≤ s.n
abbrev R11a (o : Int) (l : List Int) (mark : Int) (id n : Nat) (s : St) : Prop :=
  Q11 o l mark id n s ∧ ∃ r v, s.e 7 = .s r v 0 (l.length + 3) ∧ s.h r = some ⟨(l ++ [mark, mark, mark]).map ii, v, true, 1⟩ ∧ n ≤ r ∧ r < s.n
abbrev R11b (o : Int) (l : List Int) (mark : Int) (x : List Int) (id n : Nat) (s : St) : Prop :=
  Q11 o l mark id n s ∧ ∃ r v f, s.e 7 = .s r v 0 (l.length + 3) ∧ s.e 9 = .s r v 0 l.length ∧ s.e 10 = .p f 0 0 ∧ s.h r = some ⟨(x ++ [mark, mark, mark]).map ii, v, true, 1⟩ ∧
    s.h f = some ⟨[.v (.bool (foldG sumL o l).k), .v (.int .i64 (foldG sumL o l).n)], 0, true, 2⟩ ∧ n ≤ r ∧ r < s.n ∧ n ≤ f ∧ f < s.n ∧ r ≠ f
set_option maxRecDepth 100000 in
set_option maxHeartbeats 4000000 in
theorem law11a (o : Int) (l : List Int) (mark : Int) (hr : l.length * 8 ≤ reachBytes) (id n : Nat) (hid : id < n) (h : Heap) (hk : h id = some ⟨l.map ii, 0, false, 1⟩) (e : Nat → AV) (he0 : e 0 = ii o) (he1 : e 1 = .s id 0 0 l.length) (he2 : e 2 = ii mark) {Q : Ex → St → Prop} :
    awp (cx [3] (pfL tbl11)) (hdC 4 (Tryd.f11.body.getD .skip)) (thenQ (R11a o l mark id n) Q) ⟨e, h, n⟩ := by
  unfold reachBytes at hr
  simp [awp_skip, awp_label, awp_region, awp_seq, awp_if, awp_block, awp_ret, awp_exit, thenQ_n, thenQ_e, thenQ_r, blockQ_n, blockQ_e, blockQ_r, finQ_n, finQ_r, finQ_e, resAll, resVal, resOne, aops_nil, aops_cons, atl_nil, atl_cons, adraw_eq, adrawA_nil, adrawA_cons, isA, goOp, gev, Region.binds, Heap.le_refl, aop, aeval, gocall, heapOp, quietOp, ev, constAV, setd, yav, ystop, up, env0, cx_ti, cx_G, cx_pf, ti, globS, glob, pfL, lds, ldc, ldcs, sts, sth, sls, slc, wr, place, fillOk, fillC, repZ, binI, isDiv, optInt, optI, eksOk, eksEq, EK.ok, EK.eq, AV.i, AV.isI, AV.isInt, AV.b.eq_1, AV.b.eq_2, AV.isB.eq_1, AV.isB.eq_2, AV.str, AV.isStr, unc_same, unc_tt, unc_tf, unc_f, unc_any, unc_v, unc_gp, unc_p, unc_s, unc_g, unc_e, unc_t, unc_fn, unc_okb, unc_bb, unc_isB, unc_b, AV.bb.eq_1, AV.bb.eq_2, AV.okb.eq_1, AV.okb.eq_2, AV.okg.eq_1, AV.okg.eq_2, AV.gd.eq_1, AV.gd.eq_2, AV.cells, AV.one, AV.ones, AV.slen, AV.isS, AV.isPtr, AV.gl, AV.isG, Value.oneCell', Nat.add_assoc, hdC, Tryd.f11, he0, he1, he2, ii]
  refine awp_loop (fun s => ∃ j, j ≤ l.length ∧ Q11 o l mark id n s ∧ s.e 8 = ii j ∧ OwnI s.h n s.n (s.e 7) (l.take j)) (fun s => l.length - (s.e 8).i.toNat) ⟨0, Nat.zero_le _, ⟨by simp [up, ii, he0], by simp [up, he1], by simp [up, he2, ii], hk, Nat.le_refl _⟩, by simp [up, ii, OwnI]⟩ ?_
  rintro e1 h1 n1 ⟨j, hj, ⟨q0, q1, q2, hh, hnn⟩, q8, ho⟩
  simp only [] at q0 q1 q2 q8 hh ho hnn
  have z1 : ¬ id = n1 := by omega
  have z2 : ¬ id = n1 + 1 := by omega
  have hlj : (l.take j).length = j := by rw [List.length_take]; omega
  by_cases hlt : j < l.length
  · have hw1 := wrap_nat (j := j) (by unfold big; omega)
    have hget := ii_getD l hlt
    have hnx := take_next hlt
    rcases ho with ⟨q7, hnil⟩ | ⟨r, v, q7, hown, hge, hlt'⟩
    · have hj0 : j = 0 := by
        have := congrArg List.length hnil
        simp at this
        rcases this with h0 | h0
        · exact h0
        · subst h0; simp at hlt
      subst hj0
      simp [awp_skip, awp_label, awp_region, awp_seq, awp_if, awp_block, awp_ret, awp_exit, thenQ_n, thenQ_e, thenQ_r, blockQ_n, blockQ_e, blockQ_r, finQ_n, finQ_r, finQ_e, resAll, resVal, resOne, aops_nil, aops_cons, atl_nil, atl_cons, adraw_eq, adrawA_nil, adrawA_cons, isA, goOp, gev, Region.binds, Heap.le_refl, aop, aeval, gocall, heapOp, quietOp, ev, constAV, setd, yav, ystop, up, env0, cx_ti, cx_G, cx_pf, ti, globS, glob, pfL, lds, ldc, ldcs, sts, sth, sls, slc, wr, place, fillOk, fillC, repZ, binI, isDiv, optInt, optI, eksOk, eksEq, EK.ok, EK.eq, AV.i, AV.isI, AV.isInt, AV.b.eq_1, AV.b.eq_2, AV.isB.eq_1, AV.isB.eq_2, AV.str, AV.isStr, unc_same, unc_tt, unc_tf, unc_f, unc_any, unc_v, unc_gp, unc_p, unc_s, unc_g, unc_e, unc_t, unc_fn, unc_okb, unc_bb, unc_isB, unc_b, AV.bb.eq_1, AV.bb.eq_2, AV.okb.eq_1, AV.okb.eq_2, AV.okg.eq_1, AV.okg.eq_2, AV.gd.eq_1, AV.gd.eq_2, AV.cells, AV.one, AV.ones, AV.slen, AV.isS, AV.isPtr, AV.gl, AV.isG, Value.oneCell', Nat.add_assoc, q0, q1, q2, q8, q7, hh, ii, hlt, hget, hw1, z1, z2]
      refine ⟨by omega, ⟨1, by omega, ⟨by simp [up, q0, ii], by simp [up, q1], by simp [up, q2, ii], by simp [up, z1, z2, hh, ii], by simp; omega⟩, by simpa using hw1, .inr ⟨n1 + 1, 0, by simp; omega, ?_, by omega, by omega⟩⟩, ?_⟩
      · simp [up]
        simpa [ii] using hnx.symm
      · have : IntKind.i64.wrap 1 = 1 := rfl
        omega
    · have z3 : ¬ r = n1 := by omega
      have z4 : ¬ id = r := by omega
      rw [hlj] at q7
      simp [awp_skip, awp_label, awp_region, awp_seq, awp_if, awp_block, awp_ret, awp_exit, thenQ_n, thenQ_e, thenQ_r, blockQ_n, blockQ_e, blockQ_r, finQ_n, finQ_r, finQ_e, resAll, resVal, resOne, aops_nil, aops_cons, atl_nil, atl_cons, adraw_eq, adrawA_nil, adrawA_cons, isA, goOp, gev, Region.binds, Heap.le_refl, aop, aeval, gocall, heapOp, quietOp, ev, constAV, setd, yav, ystop, up, env0, cx_ti, cx_G, cx_pf, ti, globS, glob, pfL, lds, ldc, ldcs, sts, sth, sls, slc, wr, place, fillOk, fillC, repZ, binI, isDiv, optInt, optI, eksOk, eksEq, EK.ok, EK.eq, AV.i, AV.isI, AV.isInt, AV.b.eq_1, AV.b.eq_2, AV.isB.eq_1, AV.isB.eq_2, AV.str, AV.isStr, unc_same, unc_tt, unc_tf, unc_f, unc_any, unc_v, unc_gp, unc_p, unc_s, unc_g, unc_e, unc_t, unc_fn, unc_okb, unc_bb, unc_isB, unc_b, AV.bb.eq_1, AV.bb.eq_2, AV.okb.eq_1, AV.okb.eq_2, AV.okg.eq_1, AV.okg.eq_2, AV.gd.eq_1, AV.gd.eq_2, AV.cells, AV.one, AV.ones, AV.slen, AV.isS, AV.isPtr, AV.gl, AV.isG, Value.oneCell', Nat.add_assoc, q0, q1, q2, q8, q7, hh, ii, hlt, hget, hw1, z1, z2, z3, z4, hown]
      refine ⟨by omega, ⟨by omega, by omega, by omega⟩, ⟨j + 1, by omega, ⟨by simp [up, q0, ii], by simp [up, q1], by simp [up, q2, ii], by simp [up, z1, z4, hh, ii], by simp; omega⟩, by omega, .inr ⟨r, v + 1, by simp; omega, ?_, by omega, by omega⟩⟩, by omega⟩
      simp [up]
      simpa [ii] using hnx.symm
  · have hje : j = l.length := by omega
    subst hje
    rw [List.take_length] at ho
    rcases ho with ⟨q7, hnil⟩ | ⟨r, v, q7, hown, hge, hlt'⟩
    · have hl0 : l.length = 0 := by rw [hnil]; rfl
      simp [awp_skip, awp_label, awp_region, awp_seq, awp_if, awp_block, awp_ret, awp_exit, thenQ_n, thenQ_e, thenQ_r, blockQ_n, blockQ_e, blockQ_r, finQ_n, finQ_r, finQ_e, resAll, resVal, resOne, aops_nil, aops_cons, atl_nil, atl_cons, adraw_eq, adrawA_nil, adrawA_cons, isA, goOp, gev, Region.binds, Heap.le_refl, aop, aeval, gocall, heapOp, quietOp, ev, constAV, setd, yav, ystop, up, env0, cx_ti, cx_G, cx_pf, ti, globS, glob, pfL, lds, ldc, ldcs, sts, sth, sls, slc, wr, place, fillOk, fillC, repZ, binI, isDiv, optInt, optI, eksOk, eksEq, EK.ok, EK.eq, AV.i, AV.isI, AV.isInt, AV.b.eq_1, AV.b.eq_2, AV.isB.eq_1, AV.isB.eq_2, AV.str, AV.isStr, unc_same, unc_tt, unc_tf, unc_f, unc_any, unc_v, unc_gp, unc_p, unc_s, unc_g, unc_e, unc_t, unc_fn, unc_okb, unc_bb, unc_isB, unc_b, AV.bb.eq_1, AV.bb.eq_2, AV.okb.eq_1, AV.okb.eq_2, AV.okg.eq_1, AV.okg.eq_2, AV.gd.eq_1, AV.gd.eq_2, AV.cells, AV.one, AV.ones, AV.slen, AV.isS, AV.isPtr, AV.gl, AV.isG, Value.oneCell', Nat.add_assoc, q0, q1, q2, q8, q7, hh, ii, hlt, z1, z2]
      refine ⟨⟨by simp [up, q0, ii], by simp [up, q1], by simp [up, q2, ii], by simp [up, z1, z2, hh, ii], by simp; omega⟩, n1 + 1, 0, by simp [up, hl0], by simp [up, hnil, ii], by omega, by simp⟩
    · have z3 : ¬ r = n1 := by omega
      have z4 : ¬ id = r := by omega
      simp [awp_skip, awp_label, awp_region, awp_seq, awp_if, awp_block, awp_ret, awp_exit, thenQ_n, thenQ_e, thenQ_r, blockQ_n, blockQ_e, blockQ_r, finQ_n, finQ_r, finQ_e, resAll, resVal, resOne, aops_nil, aops_cons, atl_nil, atl_cons, adraw_eq, adrawA_nil, adrawA_cons, isA, goOp, gev, Region.binds, Heap.le_refl, aop, aeval, gocall, heapOp, quietOp, ev, constAV, setd, yav, ystop, up, env0, cx_ti, cx_G, cx_pf, ti, globS, glob, pfL, lds, ldc, ldcs, sts, sth, sls, slc, wr, place, fillOk, fillC, repZ, binI, isDiv, optInt, optI, eksOk, eksEq, EK.ok, EK.eq, AV.i, AV.isI, AV.isInt, AV.b.eq_1, AV.b.eq_2, AV.isB.eq_1, AV.isB.eq_2, AV.str, AV.isStr, unc_same, unc_tt, unc_tf, unc_f, unc_any, unc_v, unc_gp, unc_p, unc_s, unc_g, unc_e, unc_t, unc_fn, unc_okb, unc_bb, unc_isB, unc_b, AV.bb.eq_1, AV.bb.eq_2, AV.okb.eq_1, AV.okb.eq_2, AV.okg.eq_1, AV.okg.eq_2, AV.gd.eq_1, AV.gd.eq_2, AV.cells, AV.one, AV.ones, AV.slen, AV.isS, AV.isPtr, AV.gl, AV.isG, Value.oneCell', Nat.add_assoc, q0, q1, q2, q8, q7, hh, ii, hlt, z1, z2, z3, z4, hown]
      refine ⟨⟨by omega, by omega⟩, ⟨by simp [up, q0, ii], by simp [up, q1], by simp [up, q2, ii], by simp [up, z1, z4, hh, ii], by simp; omega⟩, r, v + 1, by simp [up], by simp [up, ii], by omega, by simp; omega⟩

set_option maxRecDepth 100000 in
set_option maxHeartbeats 4000000 in
theorem law11b (o : Int) (l : List Int) (mark : Int) (ho : Rng o) (hr : l.length * 8 ≤ reachBytes) (id n : Nat) (hid : id < n) (e1 : Nat → AV) (h1 : Heap) (n1 : Nat) (hs : R11a o l mark id n ⟨e1, h1, n1⟩) {Q : Ex → St → Prop} :
    awp (cx [3] (pfL tbl11)) (hdC 3 (tlC 4 (Tryd.f11.body.getD .skip))) (thenQ (R11b o l mark l id n) Q) ⟨e1, h1, n1⟩ := by
  unfold reachBytes at hr
  obtain ⟨⟨q0, q1, q2, hh, hnn⟩, r, v, q7, hown, hge, hlt⟩ := hs
  simp only [] at q0 q1 q2 q7 hh hnn hown hlt
  have hw : IntKind.i64.wrap o = o := W_id ho
  have hbig : l.length < big := by unfold big; omega
  have z1 : ¬ id = n1 := by omega
  have z3 : ¬ r = n1 := by omega
  have z4 : ¬ id = r := by omega
  obtain ⟨rm, hrm⟩ : ∃ rm, rm = l ++ [mark, mark, mark] := ⟨_, rfl⟩
  have hrl : rm.length = l.length + 3 := by rw [hrm]; simp
  have hft : deIs (List.take l.length (rm.map ii)) = some l := by
    rw [hrm, List.map_append, List.take_left' (by simp), deIs_ii]
  rw [← hrm] at hown
  have hg1 : ∀ j (hj : j < l.length), (rm.map ii)[j]? = some (ii l[j]) := fun j hj => by
    rw [ii_getD rm (by omega)]
    simp only [hrm]
    rw [List.getElem_append_left hj]
  have hg2 : ∀ j, j < l.length + 3 → ¬ j < l.length → (rm.map ii)[j]? = some (ii mark) := fun j h1 h2 => by
    rw [ii_getD rm (by omega)]
    simp only [hrm]
    rw [List.getElem_append_right (by omega)]
    have : j - l.length = 0 ∨ j - l.length = 1 ∨ j - l.length = 2 := by omega
    rcases this with e | e | e <;> simp [e]
  have hcl : (rm.map ii).length = l.length + 3 := by rw [List.length_map, hrl]
  have hget : ∀ j (hj : j < l.length), (l.map ii)[j]? = some (ii l[j]) := fun j hj => ii_getD l hj
  have hll : (l.map ii).length = l.length := List.length_map ..
  have hcs : rm.map ii = l.map ii ++ [ii mark, ii mark, ii mark] := by rw [hrm]; simp
  generalize rm.map ii = cs at *
  clear hrl hrm
  simp [awp_skip, awp_label, awp_region, awp_seq, awp_if, awp_block, awp_ret, awp_exit, thenQ_n, thenQ_e, thenQ_r, blockQ_n, blockQ_e, blockQ_r, finQ_n, finQ_r, finQ_e, resAll, resVal, resOne, aops_nil, aops_cons, atl_nil, atl_cons, adraw_eq, adrawA_nil, adrawA_cons, isA, goOp, gev, Region.binds, Heap.le_refl, aop, aeval, gocall, heapOp, quietOp, ev, constAV, setd, yav, ystop, up, env0, cx_ti, cx_G, cx_pf, ti, globS, glob, pfL, lds, ldc, ldcs, sts, sth, sls, slc, wr, place, fillOk, fillC, repZ, binI, isDiv, optInt, optI, eksOk, eksEq, EK.ok, EK.eq, AV.i, AV.isI, AV.isInt, AV.b.eq_1, AV.b.eq_2, AV.isB.eq_1, AV.isB.eq_2, AV.str, AV.isStr, unc_same, unc_tt, unc_tf, unc_f, unc_any, unc_v, unc_gp, unc_p, unc_s, unc_g, unc_e, unc_t, unc_fn, unc_okb, unc_bb, unc_isB, unc_b, AV.bb.eq_1, AV.bb.eq_2, AV.okb.eq_1, AV.okb.eq_2, AV.okg.eq_1, AV.okg.eq_2, AV.gd.eq_1, AV.gd.eq_2, AV.cells, AV.one, AV.ones, AV.slen, AV.isS, AV.isPtr, AV.gl, AV.isG, Value.oneCell', Nat.add_assoc, hdC, tlC, Tryd.f11, q0, q1, q2, q7, hh, hown, ii, vv, tbl11, g33, pureAL, deI, ints, hw, hbig, z1, z3, z4, hft, hcl]
  refine ⟨by omega, awp_loop (fun s => ∃ j, j ≤ l.length + 3 ∧ s.e 11 = ii j ∧ Q11 o l mark id n s ∧ s.e 7 = .s r v 0 (l.length + 3) ∧ s.e 9 = .s r v 0 l.length ∧ s.e 10 = .p n1 0 0 ∧ s.h r = some ⟨cs, v, true, 1⟩ ∧
    s.h n1 = some ⟨[.v (.bool (foldG sumL o l).k), .v (.int .i64 (foldG sumL o l).n)], 0, true, 2⟩ ∧ n1 < s.n) (fun s => l.length + 3 - (s.e 11).i.toNat) ⟨0, Nat.zero_le _, by simp [up, ii], ⟨by simp [up, q0, ii], by simp [up, q1], by simp [up, q2, ii], by simp [up, z1, hh, ii], by simp; omega⟩, by simp [up, q7], by simp [up], by simp [up], by simp [up, z3, hown, ii], by simp [up], by simp⟩ ?_⟩
  rintro e2 h2 n2 ⟨j, hj, q11, ⟨q0, q1, q2, hh, hnn⟩, q7, q9, q10, hown, hf, hfl⟩
  simp only [] at q0 q1 q2 q7 q9 q10 q11 hh hnn hown hf hfl
  by_cases hc : j < l.length + 3
  · have hw1 := wrap_nat (j := j) (by unfold big; omega)
    have hci : (j : Int) < (l.length : Int) + 3 := by omega
    by_cases hl : j < l.length
    · have k1 := hget j hl
      have k2 := hg1 j hl
      have hle : ¬ l.length ≤ j := by omega
      simp [awp_skip, awp_label, awp_region, awp_seq, awp_if, awp_block, awp_ret, awp_exit, thenQ_n, thenQ_e, thenQ_r, blockQ_n, blockQ_e, blockQ_r, finQ_n, finQ_r, finQ_e, resAll, resVal, resOne, aops_nil, aops_cons, atl_nil, atl_cons, adraw_eq, adrawA_nil, adrawA_cons, isA, goOp, gev, Region.binds, Heap.le_refl, aop, aeval, gocall, heapOp, quietOp, ev, constAV, setd, yav, ystop, up, env0, cx_ti, cx_G, cx_pf, ti, globS, glob, pfL, lds, ldc, ldcs, sts, sth, sls, slc, wr, place, fillOk, fillC, repZ, binI, isDiv, optInt, optI, eksOk, eksEq, EK.ok, EK.eq, AV.i, AV.isI, AV.isInt, AV.b.eq_1, AV.b.eq_2, AV.isB.eq_1, AV.isB.eq_2, AV.str, AV.isStr, unc_same, unc_tt, unc_tf, unc_f, unc_any, unc_v, unc_gp, unc_p, unc_s, unc_g, unc_e, unc_t, unc_fn, unc_okb, unc_bb, unc_isB, unc_b, AV.bb.eq_1, AV.bb.eq_2, AV.okb.eq_1, AV.okb.eq_2, AV.okg.eq_1, AV.okg.eq_2, AV.gd.eq_1, AV.gd.eq_2, AV.cells, AV.one, AV.ones, AV.slen, AV.isS, AV.isPtr, AV.gl, AV.isG, Value.oneCell', Nat.add_assoc, q0, q1, q2, q7, q9, q10, q11, hh, hown, ii, hci, hl, hle, k1, k2, hw1]
      refine ⟨by omega, by omega, ⟨j + 1, by omega, by omega, ⟨by simp [up, q0, ii], by simp [up, q1], by simp [up, q2, ii], by simpa [ii] using hh, hnn⟩, by simpa [ii] using hf, hfl⟩, by omega⟩
    · have k2 := hg2 j hc hl
      have hle : l.length ≤ j := by omega
      simp [awp_skip, awp_label, awp_region, awp_seq, awp_if, awp_block, awp_ret, awp_exit, thenQ_n, thenQ_e, thenQ_r, blockQ_n, blockQ_e, blockQ_r, finQ_n, finQ_r, finQ_e, resAll, resVal, resOne, aops_nil, aops_cons, atl_nil, atl_cons, adraw_eq, adrawA_nil, adrawA_cons, isA, goOp, gev, Region.binds, Heap.le_refl, aop, aeval, gocall, heapOp, quietOp, ev, constAV, setd, yav, ystop, up, env0, cx_ti, cx_G, cx_pf, ti, globS, glob, pfL, lds, ldc, ldcs, sts, sth, sls, slc, wr, place, fillOk, fillC, repZ, binI, isDiv, optInt, optI, eksOk, eksEq, EK.ok, EK.eq, AV.i, AV.isI, AV.isInt, AV.b.eq_1, AV.b.eq_2, AV.isB.eq_1, AV.isB.eq_2, AV.str, AV.isStr, unc_same, unc_tt, unc_tf, unc_f, unc_any, unc_v, unc_gp, unc_p, unc_s, unc_g, unc_e, unc_t, unc_fn, unc_okb, unc_bb, unc_isB, unc_b, AV.bb.eq_1, AV.bb.eq_2, AV.okb.eq_1, AV.okb.eq_2, AV.okg.eq_1, AV.okg.eq_2, AV.gd.eq_1, AV.gd.eq_2, AV.cells, AV.one, AV.ones, AV.slen, AV.isS, AV.isPtr, AV.gl, AV.isG, Value.oneCell', Nat.add_assoc, q0, q1, q2, q7, q9, q10, q11, hh, hown, ii, hci, hl, hle, k2, hw1]
      refine ⟨by omega, ⟨j + 1, by omega, by omega, ⟨by simp [up, q0, ii], by simp [up, q1], by simp [up, q2, ii], by simpa [ii] using hh, hnn⟩, by simpa [ii] using hf, hfl⟩, by omega⟩
  · have hci : ¬ (j : Int) < (l.length : Int) + 3 := by omega
    simp [awp_skip, awp_label, awp_region, awp_seq, awp_if, awp_block, awp_ret, awp_exit, thenQ_n, thenQ_e, thenQ_r, blockQ_n, blockQ_e, blockQ_r, finQ_n, finQ_r, finQ_e, resAll, resVal, resOne, aops_nil, aops_cons, atl_nil, atl_cons, adraw_eq, adrawA_nil, adrawA_cons, isA, goOp, gev, Region.binds, Heap.le_refl, aop, aeval, gocall, heapOp, quietOp, ev, constAV, setd, yav, ystop, up, env0, cx_ti, cx_G, cx_pf, ti, globS, glob, pfL, lds, ldc, ldcs, sts, sth, sls, slc, wr, place, fillOk, fillC, repZ, binI, isDiv, optInt, optI, eksOk, eksEq, EK.ok, EK.eq, AV.i, AV.isI, AV.isInt, AV.b.eq_1, AV.b.eq_2, AV.isB.eq_1, AV.isB.eq_2, AV.str, AV.isStr, unc_same, unc_tt, unc_tf, unc_f, unc_any, unc_v, unc_gp, unc_p, unc_s, unc_g, unc_e, unc_t, unc_fn, unc_okb, unc_bb, unc_isB, unc_b, AV.bb.eq_1, AV.bb.eq_2, AV.okb.eq_1, AV.okb.eq_2, AV.okg.eq_1, AV.okg.eq_2, AV.gd.eq_1, AV.gd.eq_2, AV.cells, AV.one, AV.ones, AV.slen, AV.isS, AV.isPtr, AV.gl, AV.isG, Value.oneCell', Nat.add_assoc, q0, q1, q2, q7, q9, q10, q11, hh, hown, ii, hci]
    refine ⟨⟨by simp [up, q0, ii], by simp [up, q1], by simp [up, q2, ii], by simpa [ii] using hh, hnn⟩, r, v, n1, by simp [up, q7], by simp [up, q9], by simp [up, q10], by simp [hown, hcs, ii], by simpa [ii] using hf, hge, by simp; omega, by omega, by simpa using hfl, by omega⟩

set_option maxRecDepth 100000 in
set_option maxHeartbeats 4000000 in
theorem law11c (o : Int) (l : List Int) (mark : Int) (hr : l.length * 8 ≤ reachBytes) (id n : Nat) (hid : id < n) (e1 : Nat → AV) (h1 : Heap) (n1 : Nat) (hs : R11b o l mark l id n ⟨e1, h1, n1⟩) {Q : Ex → St → Prop} :
    awp (cx [3] (pfL tbl11)) (hdC 1 (tlC 7 (Tryd.f11.body.getD .skip))) (thenQ (R11b o l mark (List.replicate l.length mark) id n) Q) ⟨e1, h1, n1⟩ := by
  unfold reachBytes at hr
  obtain ⟨⟨q0, q1, q2, hh, hnn⟩, r, v, f, q7, q9, q10, hown, hf, hge, hlt, hfg, hfl, hne⟩ := hs
  simp only [] at q0 q1 q2 q7 q9 q10 hh hnn hown hf hlt hfl
  simp [awp_skip, awp_label, awp_region, awp_seq, awp_if, awp_block, awp_ret, awp_exit, thenQ_n, thenQ_e, thenQ_r, blockQ_n, blockQ_e, blockQ_r, finQ_n, finQ_r, finQ_e, resAll, resVal, resOne, aops_nil, aops_cons, atl_nil, atl_cons, adraw_eq, adrawA_nil, adrawA_cons, isA, goOp, gev, Region.binds, Heap.le_refl, aop, aeval, gocall, heapOp, quietOp, ev, constAV, setd, yav, ystop, up, env0, cx_ti, cx_G, cx_pf, ti, globS, glob, pfL, lds, ldc, ldcs, sts, sth, sls, slc, wr, place, fillOk, fillC, repZ, binI, isDiv, optInt, optI, eksOk, eksEq, EK.ok, EK.eq, AV.i, AV.isI, AV.isInt, AV.b.eq_1, AV.b.eq_2, AV.isB.eq_1, AV.isB.eq_2, AV.str, AV.isStr, unc_same, unc_tt, unc_tf, unc_f, unc_any, unc_v, unc_gp, unc_p, unc_s, unc_g, unc_e, unc_t, unc_fn, unc_okb, unc_bb, unc_isB, unc_b, AV.bb.eq_1, AV.bb.eq_2, AV.okb.eq_1, AV.okb.eq_2, AV.okg.eq_1, AV.okg.eq_2, AV.gd.eq_1, AV.gd.eq_2, AV.cells, AV.one, AV.ones, AV.slen, AV.isS, AV.isPtr, AV.gl, AV.isG, Value.oneCell', Nat.add_assoc, hdC, tlC, Tryd.f11, q0, q1, q2, q7]
  refine awp_loop (fun s => ∃ j, j ≤ l.length ∧ s.e 12 = ii j ∧ Q11 o l mark id n s ∧ s.e 7 = .s r v 0 (l.length + 3) ∧ s.e 9 = .s r v 0 l.length ∧ s.e 10 = .p f 0 0 ∧ s.h r = some ⟨(List.replicate j mark ++ l.drop j ++ [mark, mark, mark]).map ii, v, true, 1⟩ ∧
    s.h f = some ⟨[.v (.bool (foldG sumL o l).k), .v (.int .i64 (foldG sumL o l).n)], 0, true, 2⟩ ∧ n1 ≤ s.n) (fun s => l.length - (s.e 12).i.toNat) ⟨0, Nat.zero_le _, by simp [up, ii], ⟨by simp [up, q0, ii], by simp [up, q1], by simp [up, q2, ii], hh, hnn⟩, by simp [up, q7], by simp [up, q9], by simp [up, q10], by simpa using hown, hf, Nat.le_refl _⟩ ?_
  rintro e2 h2 n2 ⟨j, hj, q12, ⟨q0, q1, q2, hh, hnn⟩, q7, q9, q10, hown, hf, hn12⟩
  simp only [] at q0 q1 q2 q7 q9 q10 q12 hh hnn hown hf hn12
  by_cases hc : j < l.length
  · have hw1 := wrap_nat (j := j) (by unfold big; omega)
    have hci : (j : Int) < (l.length : Int) := by omega
    have hci3 : (j : Int) < (l.length : Int) + 3 := by omega
    obtain ⟨cs, hcs⟩ : ∃ cs, cs = (List.replicate j mark ++ l.drop j ++ [mark, mark, mark]).map ii := ⟨_, rfl⟩
    rw [← hcs] at hown
    have hcl : cs.length = l.length + 3 := by rw [hcs]; simp; omega
    have hset : cs.set j (ii mark) = (List.replicate (j + 1) mark ++ l.drop (j + 1) ++ [mark, mark, mark]).map ii := by
      rw [hcs, ← List.map_set]
      congr 1
      rw [List.append_assoc, List.set_append_right _ _ (by simp), List.length_replicate, Nat.sub_self, List.drop_eq_getElem_cons hc, List.cons_append, List.set_cons_zero, List.replicate_succ', List.append_assoc, List.append_assoc]
      rfl
    simp only [ii] at hset
    simp [awp_skip, awp_label, awp_region, awp_seq, awp_if, awp_block, awp_ret, awp_exit, thenQ_n, thenQ_e, thenQ_r, blockQ_n, blockQ_e, blockQ_r, finQ_n, finQ_r, finQ_e, resAll, resVal, resOne, aops_nil, aops_cons, atl_nil, atl_cons, adraw_eq, adrawA_nil, adrawA_cons, isA, goOp, gev, Region.binds, Heap.le_refl, aop, aeval, gocall, heapOp, quietOp, ev, constAV, setd, yav, ystop, up, env0, cx_ti, cx_G, cx_pf, ti, globS, glob, pfL, lds, ldc, ldcs, sts, sth, sls, slc, wr, place, fillOk, fillC, repZ, binI, isDiv, optInt, optI, eksOk, eksEq, EK.ok, EK.eq, AV.i, AV.isI, AV.isInt, AV.b.eq_1, AV.b.eq_2, AV.isB.eq_1, AV.isB.eq_2, AV.str, AV.isStr, unc_same, unc_tt, unc_tf, unc_f, unc_any, unc_v, unc_gp, unc_p, unc_s, unc_g, unc_e, unc_t, unc_fn, unc_okb, unc_bb, unc_isB, unc_b, AV.bb.eq_1, AV.bb.eq_2, AV.okb.eq_1, AV.okb.eq_2, AV.okg.eq_1, AV.okg.eq_2, AV.gd.eq_1, AV.gd.eq_2, AV.cells, AV.one, AV.ones, AV.slen, AV.isS, AV.isPtr, AV.gl, AV.isG, Value.oneCell', Nat.add_assoc, q0, q1, q2, q7, q9, q10, q12, hh, hown, ii, hci, hci3, hc, hw1]
    have zr : ¬ id = r := by omega
    have zf : ¬ f = r := fun e => hne e.symm
    refine ⟨by omega, ⟨j + 1, by omega, by omega, ⟨by simp [up, q0, ii], by simp [up, q1], by simp [up, q2, ii], by simp [up, zr, hh, ii], by simp; omega⟩, hset.trans (by simp [ii]), by simp [zf, hf], by omega⟩, by omega⟩
  · have hje : j = l.length := by omega
    subst hje
    simp [awp_skip, awp_label, awp_region, awp_seq, awp_if, awp_block, awp_ret, awp_exit, thenQ_n, thenQ_e, thenQ_r, blockQ_n, blockQ_e, blockQ_r, finQ_n, finQ_r, finQ_e, resAll, resVal, resOne, aops_nil, aops_cons, atl_nil, atl_cons, adraw_eq, adrawA_nil, adrawA_cons, isA, goOp, gev, Region.binds, Heap.le_refl, aop, aeval, gocall, heapOp, quietOp, ev, constAV, setd, yav, ystop, up, env0, cx_ti, cx_G, cx_pf, ti, globS, glob, pfL, lds, ldc, ldcs, sts, sth, sls, slc, wr, place, fillOk, fillC, repZ, binI, isDiv, optInt, optI, eksOk, eksEq, EK.ok, EK.eq, AV.i, AV.isI, AV.isInt, AV.b.eq_1, AV.b.eq_2, AV.isB.eq_1, AV.isB.eq_2, AV.str, AV.isStr, unc_same, unc_tt, unc_tf, unc_f, unc_any, unc_v, unc_gp, unc_p, unc_s, unc_g, unc_e, unc_t, unc_fn, unc_okb, unc_bb, unc_isB, unc_b, AV.bb.eq_1, AV.bb.eq_2, AV.okb.eq_1, AV.okb.eq_2, AV.okg.eq_1, AV.okg.eq_2, AV.gd.eq_1, AV.gd.eq_2, AV.cells, AV.one, AV.ones, AV.slen, AV.isS, AV.isPtr, AV.gl, AV.isG, Value.oneCell', Nat.add_assoc, q0, q1, q2, q7, q9, q10, q12, hh, ii, hc]
    refine ⟨⟨by simp [up, q0, ii], by simp [up, q1], by simp [up, q2, ii], by simp [hh, ii], hnn⟩, r, v, f, by simp [up, q7], by simp [up, q9], by simp [up, q10], by simpa using hown, hf, hge, by simp; omega, hfg, by simp; omega, hne⟩
/-- The marks, laid anew. -/
abbrev R11d (o : Int) (l : List Int) (mark : Int) (id n : Nat) (s : St) : Prop :=
  R11b o l mark (List.replicate l.length mark) id n s ∧ OwnI s.h n s.n (s.e 13) (List.replicate l.length mark)
set_option maxRecDepth 100000 in
set_option maxHeartbeats 4000000 in
theorem law11d (o : Int) (l : List Int) (mark : Int) (hr : l.length * 8 ≤ reachBytes) (id n : Nat) (hid : id < n) (e1 : Nat → AV) (h1 : Heap) (n1 : Nat) (hs : R11b o l mark (List.replicate l.length mark) id n ⟨e1, h1, n1⟩) {Q : Ex → St → Prop} :
    awp (cx [3] (pfL tbl11)) (hdC 2 (tlC 8 (Tryd.f11.body.getD .skip))) (thenQ (R11d o l mark id n) Q) ⟨e1, h1, n1⟩ := by
  unfold reachBytes at hr
  obtain ⟨⟨q0, q1, q2, hh, hnn⟩, r, v, f, q7, q9, q10, hown, hf, hge, hlt, hfg, hfl, hne⟩ := hs
  simp only [] at q0 q1 q2 q7 q9 q10 hh hnn hown hf hlt hfl
  obtain ⟨cs, hcs⟩ : ∃ cs, cs = (List.replicate l.length mark ++ [mark, mark, mark]).map ii := ⟨_, rfl⟩
  rw [← hcs] at hown
  simp [awp_skip, awp_label, awp_region, awp_seq, awp_if, awp_block, awp_ret, awp_exit, thenQ_n, thenQ_e, thenQ_r, blockQ_n, blockQ_e, blockQ_r, finQ_n, finQ_r, finQ_e, resAll, resVal, resOne, aops_nil, aops_cons, atl_nil, atl_cons, adraw_eq, adrawA_nil, adrawA_cons, isA, goOp, gev, Region.binds, Heap.le_refl, aop, aeval, gocall, heapOp, quietOp, ev, constAV, setd, yav, ystop, up, env0, cx_ti, cx_G, cx_pf, ti, globS, glob, pfL, lds, ldc, ldcs, sts, sth, sls, slc, wr, place, fillOk, fillC, repZ, binI, isDiv, optInt, optI, eksOk, eksEq, EK.ok, EK.eq, AV.i, AV.isI, AV.isInt, AV.b.eq_1, AV.b.eq_2, AV.isB.eq_1, AV.isB.eq_2, AV.str, AV.isStr, unc_same, unc_tt, unc_tf, unc_f, unc_any, unc_v, unc_gp, unc_p, unc_s, unc_g, unc_e, unc_t, unc_fn, unc_okb, unc_bb, unc_isB, unc_b, AV.bb.eq_1, AV.bb.eq_2, AV.okb.eq_1, AV.okb.eq_2, AV.okg.eq_1, AV.okg.eq_2, AV.gd.eq_1, AV.gd.eq_2, AV.cells, AV.one, AV.ones, AV.slen, AV.isS, AV.isPtr, AV.gl, AV.isG, Value.oneCell', Nat.add_assoc, hdC, tlC, Tryd.f11, q0, q1, q2, q7]
  refine awp_loop (fun s => ∃ j, j ≤ l.length ∧ s.e 14 = ii j ∧ Q11 o l mark id n s ∧ s.e 7 = .s r v 0 (l.length + 3) ∧ s.e 9 = .s r v 0 l.length ∧ s.e 10 = .p f 0 0 ∧ s.h r = some ⟨cs, v, true, 1⟩ ∧
    s.h f = some ⟨[.v (.bool (foldG sumL o l).k), .v (.int .i64 (foldG sumL o l).n)], 0, true, 2⟩ ∧ n1 ≤ s.n ∧ OwnI s.h n1 s.n (s.e 13) (List.replicate j mark)) (fun s => l.length - (s.e 14).i.toNat) ⟨0, Nat.zero_le _, by simp [up, ii], ⟨by simp [up, q0, ii], by simp [up, q1], by simp [up, q2, ii], hh, hnn⟩, by simp [up, q7], by simp [up, q9], by simp [up, q10], hown, hf, Nat.le_refl _, by simp [up, OwnI]⟩ ?_
  rintro e2 h2 n2 ⟨j, hj, q14, ⟨q0, q1, q2, hh, hnn⟩, q7, q9, q10, hown, hf, hn12, ho⟩
  simp only [] at q0 q1 q2 q7 q9 q10 q14 hh hnn hown hf hn12 ho
  have z1 : ¬ id = n2 := by omega
  have z1' : ¬ id = n2 + 1 := by omega
  have zr : ¬ r = n2 := by omega
  have zr' : ¬ r = n2 + 1 := by omega
  have zf : ¬ f = n2 := by omega
  have zf' : ¬ f = n2 + 1 := by omega
  by_cases hc : j < l.length
  · have hw1 := wrap_nat (j := j) (by unfold big; omega)
    rcases ho with ⟨q13, hnil⟩ | ⟨w, u, q13, hm, hwg, hwl⟩
    · have hj0 : j = 0 := by simpa using hnil
      subst hj0
      simp [awp_skip, awp_label, awp_region, awp_seq, awp_if, awp_block, awp_ret, awp_exit, thenQ_n, thenQ_e, thenQ_r, blockQ_n, blockQ_e, blockQ_r, finQ_n, finQ_r, finQ_e, resAll, resVal, resOne, aops_nil, aops_cons, atl_nil, atl_cons, adraw_eq, adrawA_nil, adrawA_cons, isA, goOp, gev, Region.binds, Heap.le_refl, aop, aeval, gocall, heapOp, quietOp, ev, constAV, setd, yav, ystop, up, env0, cx_ti, cx_G, cx_pf, ti, globS, glob, pfL, lds, ldc, ldcs, sts, sth, sls, slc, wr, place, fillOk, fillC, repZ, binI, isDiv, optInt, optI, eksOk, eksEq, EK.ok, EK.eq, AV.i, AV.isI, AV.isInt, AV.b.eq_1, AV.b.eq_2, AV.isB.eq_1, AV.isB.eq_2, AV.str, AV.isStr, unc_same, unc_tt, unc_tf, unc_f, unc_any, unc_v, unc_gp, unc_p, unc_s, unc_g, unc_e, unc_t, unc_fn, unc_okb, unc_bb, unc_isB, unc_b, AV.bb.eq_1, AV.bb.eq_2, AV.okb.eq_1, AV.okb.eq_2, AV.okg.eq_1, AV.okg.eq_2, AV.gd.eq_1, AV.gd.eq_2, AV.cells, AV.one, AV.ones, AV.slen, AV.isS, AV.isPtr, AV.gl, AV.isG, Value.oneCell', Nat.add_assoc, q0, q1, q2, q7, q9, q10, q13, q14, hh, hown, ii, hc, hw1]
      refine ⟨⟨1, by omega, by simpa using hw1, ⟨by simp [up, q0, ii], by simp [up, q1], by simp [up, q2, ii], by simp [up, z1, z1', hh, ii], by simp; omega⟩, ?_, ?_, by omega, .inr ⟨n2 + 1, 0, by simp, by simp [up, ii], by omega, by omega⟩⟩, ?_⟩
      · simp [zr, zr', hown]
      · simp [zf, zf', hf]
      · have : IntKind.i64.wrap 1 = 1 := rfl
        omega
    · rw [List.length_replicate] at q13
      have zw : ¬ w = n2 := by omega
      have zi : ¬ id = w := by omega
      have zrw : ¬ r = w := by omega
      have zfw : ¬ f = w := by omega
      have hnx : (List.replicate j mark).map ii ++ [ii mark] = (List.replicate (j + 1) mark).map ii := by rw [List.replicate_succ']; simp
      simp only [ii] at hnx
      simp [awp_skip, awp_label, awp_region, awp_seq, awp_if, awp_block, awp_ret, awp_exit, thenQ_n, thenQ_e, thenQ_r, blockQ_n, blockQ_e, blockQ_r, finQ_n, finQ_r, finQ_e, resAll, resVal, resOne, aops_nil, aops_cons, atl_nil, atl_cons, adraw_eq, adrawA_nil, adrawA_cons, isA, goOp, gev, Region.binds, Heap.le_refl, aop, aeval, gocall, heapOp, quietOp, ev, constAV, setd, yav, ystop, up, env0, cx_ti, cx_G, cx_pf, ti, globS, glob, pfL, lds, ldc, ldcs, sts, sth, sls, slc, wr, place, fillOk, fillC, repZ, binI, isDiv, optInt, optI, eksOk, eksEq, EK.ok, EK.eq, AV.i, AV.isI, AV.isInt, AV.b.eq_1, AV.b.eq_2, AV.isB.eq_1, AV.isB.eq_2, AV.str, AV.isStr, unc_same, unc_tt, unc_tf, unc_f, unc_any, unc_v, unc_gp, unc_p, unc_s, unc_g, unc_e, unc_t, unc_fn, unc_okb, unc_bb, unc_isB, unc_b, AV.bb.eq_1, AV.bb.eq_2, AV.okb.eq_1, AV.okb.eq_2, AV.okg.eq_1, AV.okg.eq_2, AV.gd.eq_1, AV.gd.eq_2, AV.cells, AV.one, AV.ones, AV.slen, AV.isS, AV.isPtr, AV.gl, AV.isG, Value.oneCell', Nat.add_assoc, q0, q1, q2, q7, q9, q10, q13, q14, hh, hown, hm, ii, hc, hw1, zw]
      refine ⟨by omega, ⟨j + 1, by omega, by omega, ⟨by simp [up, q0, ii], by simp [up, q1], by simp [up, q2, ii], by simp [up, z1, zi, hh, ii], by simp; omega⟩, by simp [zrw, zr], by simp [zfw, zf, hf], by omega, .inr ⟨w, u + 1, by simp, ?_, by omega, by omega⟩⟩, by omega⟩
      simp only [up_same]
      rw [← hnx]
      simp [ii]
  · have hje : j = l.length := by omega
    subst hje
    simp [awp_skip, awp_label, awp_region, awp_seq, awp_if, awp_block, awp_ret, awp_exit, thenQ_n, thenQ_e, thenQ_r, blockQ_n, blockQ_e, blockQ_r, finQ_n, finQ_r, finQ_e, resAll, resVal, resOne, aops_nil, aops_cons, atl_nil, atl_cons, adraw_eq, adrawA_nil, adrawA_cons, isA, goOp, gev, Region.binds, Heap.le_refl, aop, aeval, gocall, heapOp, quietOp, ev, constAV, setd, yav, ystop, up, env0, cx_ti, cx_G, cx_pf, ti, globS, glob, pfL, lds, ldc, ldcs, sts, sth, sls, slc, wr, place, fillOk, fillC, repZ, binI, isDiv, optInt, optI, eksOk, eksEq, EK.ok, EK.eq, AV.i, AV.isI, AV.isInt, AV.b.eq_1, AV.b.eq_2, AV.isB.eq_1, AV.isB.eq_2, AV.str, AV.isStr, unc_same, unc_tt, unc_tf, unc_f, unc_any, unc_v, unc_gp, unc_p, unc_s, unc_g, unc_e, unc_t, unc_fn, unc_okb, unc_bb, unc_isB, unc_b, AV.bb.eq_1, AV.bb.eq_2, AV.okb.eq_1, AV.okb.eq_2, AV.okg.eq_1, AV.okg.eq_2, AV.gd.eq_1, AV.gd.eq_2, AV.cells, AV.one, AV.ones, AV.slen, AV.isS, AV.isPtr, AV.gl, AV.isG, Value.oneCell', Nat.add_assoc, q0, q1, q2, q7, q9, q10, q14, hh, ii, hc]
    refine ⟨⟨⟨by simp [up, q0, ii], by simp [up, q1], by simp [up, q2, ii], by simp [hh, ii], hnn⟩, r, v, f, by simp [up, q7], by simp [up, q9], by simp [up, q10], by simp only [hown, hcs], hf, hge, by simp; omega, hfg, by simp; omega, hne⟩, ?_⟩
    rcases ho with ⟨q13, hnil⟩ | ⟨w, u, q13, hm, hwg, hwl⟩
    · exact .inl ⟨by simp [up, q13], hnil⟩
    · exact .inr ⟨w, u, by simp [up, q13], hm, by omega, hwl⟩
theorem ext_rep (g : Bool) (mark : Int) : ∀ n, extAt g (List.replicate (n + 1) mark) (n + 1) = mark := fun n => by
  unfold extAt
  have h0 : (List.replicate (n + 1) mark).getD 0 0 = mark := by simp
  rw [h0, List.take_of_length_le (by simp)]
  have : ∀ m, (List.replicate m mark).foldl (fun (m x : Int) => if (if g = true then decide (m < x) else decide (x < m)) = true then x else m) mark = mark := fun m => by
    induction m with
    | zero => rfl
    | succ m ih =>
      rw [List.replicate_succ, List.foldl_cons]
      cases g <;> simpa using ih
  exact this _
theorem max_rep {n : Nat} (h : 0 < n) (mark : Int) : foldG sumL 8 (List.replicate n mark) = knownV mark := by
  obtain ⟨m, rfl⟩ : ∃ m, n = m + 1 := ⟨n - 1, by omega⟩
  have h1 : List.replicate (m + 1) mark ≠ [] := by simp
  simp only [foldG, h1, if_false, List.length_replicate, ext_rep]
  simp
theorem count_rep (n : Nat) (mark : Int) : foldG sumL 5 (List.replicate n mark) = knownV n := by simp [foldG]
set_option maxRecDepth 100000 in
set_option maxHeartbeats 4000000 in
theorem law11e (o : Int) (l : List Int) (mark : Int) (ho : Rng o) (hr : l.length * 8 ≤ reachBytes) (id n : Nat) (hid : id < n) (e1 : Nat → AV) (h1 : Heap) (n1 : Nat) (hs : R11d o l mark id n ⟨e1, h1, n1⟩) :
    awp (cx [3] (pfL tbl11)) (tlC 10 (Tryd.f11.body.getD .skip)) (finQ (cx [3] (pfL tbl11)) Tryd.f11 fun z _ _ => z = bv true) ⟨e1, h1, n1⟩ := by
  unfold reachBytes at hr
  obtain ⟨⟨⟨q0, q1, q2, hh, hnn⟩, r, v, f, q7, q9, q10, hown, hf, hge, hlt, hfg, hfl, hne⟩, hm⟩ := hs
  simp only [] at q0 q1 q2 q7 q9 q10 hh hnn hown hf hlt hfl hm
  have hw : IntKind.i64.wrap o = o := W_id ho
  have hbig : l.length < big := by unfold big; omega
  have hb0 : 0 < big := by unfold big; omega
  have zr : ¬ r = n1 := by omega
  have zf : ¬ f = n1 := by omega
  have zi : ¬ id = n1 := by omega
  have hcr := count_rep l.length mark
  have hdp : deIs (List.take l.length ((List.replicate l.length mark ++ [mark, mark, mark]).map ii)) = some (List.replicate l.length mark) := by
    rw [List.map_append, List.take_left' (by simp), deIs_ii]
  have hdm : deIs (List.take l.length ((List.replicate l.length mark).map ii)) = some (List.replicate l.length mark) := by
    rw [List.take_of_length_le (by simp), deIs_ii]
  have hcl : ((List.replicate l.length mark ++ [mark, mark, mark]).map ii).length = l.length + 3 := by simp
  have hml : ((List.replicate l.length mark).map ii).length = l.length := by simp
  generalize (List.replicate l.length mark ++ [mark, mark, mark]).map ii = cs at *
  have hnl : (List.replicate l.length mark).length = l.length := by simp
  obtain ⟨rep, hrep⟩ : ∃ rep, rep = List.replicate l.length mark := ⟨_, rfl⟩
  rw [← hrep] at hdp hdm hm hml hcr hnl
  rcases hm with ⟨q13, hnil⟩ | ⟨w, u, q13, hmk, hwg, hwl⟩
  · have hl0 : l = [] := by
      rw [hnil] at hnl
      exact List.eq_nil_of_length_eq_zero hnl.symm
    subst hl0
    subst hnil
    have hm0 : foldG sumL 8 [] = unk := by simp [foldG]
    simp [awp_skip, awp_label, awp_region, awp_seq, awp_if, awp_block, awp_ret, awp_exit, thenQ_n, thenQ_e, thenQ_r, blockQ_n, blockQ_e, blockQ_r, finQ_n, finQ_r, finQ_e, resAll, resVal, resOne, aops_nil, aops_cons, atl_nil, atl_cons, adraw_eq, adrawA_nil, adrawA_cons, isA, goOp, gev, Region.binds, Heap.le_refl, aop, aeval, gocall, heapOp, quietOp, ev, constAV, setd, yav, ystop, up, env0, cx_ti, cx_G, cx_pf, ti, globS, glob, pfL, lds, ldc, ldcs, sts, sth, sls, slc, wr, place, fillOk, fillC, repZ, binI, isDiv, optInt, optI, eksOk, eksEq, EK.ok, EK.eq, AV.i, AV.isI, AV.isInt, AV.b.eq_1, AV.b.eq_2, AV.isB.eq_1, AV.isB.eq_2, AV.str, AV.isStr, unc_same, unc_tt, unc_tf, unc_f, unc_any, unc_v, unc_gp, unc_p, unc_s, unc_g, unc_e, unc_t, unc_fn, unc_okb, unc_bb, unc_isB, unc_b, AV.bb.eq_1, AV.bb.eq_2, AV.okb.eq_1, AV.okb.eq_2, AV.okg.eq_1, AV.okg.eq_2, AV.gd.eq_1, AV.gd.eq_2, AV.cells, AV.one, AV.ones, AV.slen, AV.isS, AV.isPtr, AV.gl, AV.isG, Value.oneCell', Nat.add_assoc, tlC, Tryd.f11, q0, q1, q2, q7, q9, q10, q13, hh, hown, hf, ii, vv, bv, knownV, unk, tbl11, g33, g25, pureAL, pure1, deI, ints, deIs, hw, hb0, hm0, zr, zf, zi]
    simp [foldG, knownV]
  · rw [hnl] at q13
    generalize rep.map ii = cm at *
    have hrb : rep.length < big := by omega
    have hof : deIs (List.take l.length (l.map ii)) = some l := by rw [take_ii, deIs_ii]
    by_cases hl0 : l.length = 0
    · have hz : l = [] := List.eq_nil_of_length_eq_zero hl0
      have hrz : rep = [] := List.eq_nil_of_length_eq_zero (by omega)
      subst hz
      subst hrz
      have hm0 : foldG sumL 8 [] = unk := by simp [foldG]
      simp [awp_skip, awp_label, awp_region, awp_seq, awp_if, awp_block, awp_ret, awp_exit, thenQ_n, thenQ_e, thenQ_r, blockQ_n, blockQ_e, blockQ_r, finQ_n, finQ_r, finQ_e, resAll, resVal, resOne, aops_nil, aops_cons, atl_nil, atl_cons, adraw_eq, adrawA_nil, adrawA_cons, isA, goOp, gev, Region.binds, Heap.le_refl, aop, aeval, gocall, heapOp, quietOp, ev, constAV, setd, yav, ystop, up, env0, cx_ti, cx_G, cx_pf, ti, globS, glob, pfL, lds, ldc, ldcs, sts, sth, sls, slc, wr, place, fillOk, fillC, repZ, binI, isDiv, optInt, optI, eksOk, eksEq, EK.ok, EK.eq, AV.i, AV.isI, AV.isInt, AV.b.eq_1, AV.b.eq_2, AV.isB.eq_1, AV.isB.eq_2, AV.str, AV.isStr, unc_same, unc_tt, unc_tf, unc_f, unc_any, unc_v, unc_gp, unc_p, unc_s, unc_g, unc_e, unc_t, unc_fn, unc_okb, unc_bb, unc_isB, unc_b, AV.bb.eq_1, AV.bb.eq_2, AV.okb.eq_1, AV.okb.eq_2, AV.okg.eq_1, AV.okg.eq_2, AV.gd.eq_1, AV.gd.eq_2, AV.cells, AV.one, AV.ones, AV.slen, AV.isS, AV.isPtr, AV.gl, AV.isG, Value.oneCell', Nat.add_assoc, tlC, Tryd.f11, q0, q1, q2, q7, q9, q10, q13, hh, hown, hmk, hf, ii, vv, bv, knownV, unk, tbl11, g33, g25, pureAL, pure1, deI, ints, deIs, hb0, hw, hm0, zr, zf, zi]
      simp [foldG, knownV]
    · have hm0 : foldG sumL 8 rep = knownV mark := by rw [hrep]; exact max_rep (by omega) mark
      have hl0' : 0 < l.length := by omega
      have hl0'' : ¬ l = [] := fun e => hl0 (by rw [e]; rfl)
      simp [awp_skip, awp_label, awp_region, awp_seq, awp_if, awp_block, awp_ret, awp_exit, thenQ_n, thenQ_e, thenQ_r, blockQ_n, blockQ_e, blockQ_r, finQ_n, finQ_r, finQ_e, resAll, resVal, resOne, aops_nil, aops_cons, atl_nil, atl_cons, adraw_eq, adrawA_nil, adrawA_cons, isA, goOp, gev, Region.binds, Heap.le_refl, aop, aeval, gocall, heapOp, quietOp, ev, constAV, setd, yav, ystop, up, env0, cx_ti, cx_G, cx_pf, ti, globS, glob, pfL, lds, ldc, ldcs, sts, sth, sls, slc, wr, place, fillOk, fillC, repZ, binI, isDiv, optInt, optI, eksOk, eksEq, EK.ok, EK.eq, AV.i, AV.isI, AV.isInt, AV.b.eq_1, AV.b.eq_2, AV.isB.eq_1, AV.isB.eq_2, AV.str, AV.isStr, unc_same, unc_tt, unc_tf, unc_f, unc_any, unc_v, unc_gp, unc_p, unc_s, unc_g, unc_e, unc_t, unc_fn, unc_okb, unc_bb, unc_isB, unc_b, AV.bb.eq_1, AV.bb.eq_2, AV.okb.eq_1, AV.okb.eq_2, AV.okg.eq_1, AV.okg.eq_2, AV.gd.eq_1, AV.gd.eq_2, AV.cells, AV.one, AV.ones, AV.slen, AV.isS, AV.isPtr, AV.gl, AV.isG, Value.oneCell', Nat.add_assoc, tlC, Tryd.f11, q0, q1, q2, q7, q9, q10, q13, hh, hown, hmk, hf, ii, vv, bv, knownV, unk, tbl11, g33, g25, pureAL, pure1, deI, ints, hdp, hdm, hof, hrb, hbig, hcl, hml, hw, hm0, hcr, hl0, hl0', hl0'', zr, zf, zi]
set_option maxRecDepth 100000 in
theorem law11 (o : Int) (l : List Int) (mark : Int) (ho : Rng o) (_ : All l) (hr : l.length * 8 ≤ reachBytes) (_ : Rng mark) (id : Nat) (h : Heap) (n : Nat) (hk : h id = some ⟨l.map ii, 0, false, 1⟩) (hn : ∀ i, n ≤ i → h i = none) :
    awp (cx [3] (pfL tbl11)) (Tryd.f11.body.getD .skip) (finQ (cx [3] (pfL tbl11)) Tryd.f11 fun z _ _ => z = bv true) ⟨env0 [ii o, .s id 0 0 l.length, ii mark], roH h, n⟩ := by
  have hid : id < n := by
    by_cases hid : id < n
    · exact hid
    · rw [hn id (by omega)] at hk; cases hk
  refine awp_cut 4 _ _ (law11a o l mark hr id n hid (roH h) (ro_at hk) _ rfl rfl rfl) fun e1 h1 n1 s1 => ?_
  refine awp_cut 3 _ _ (law11b o l mark ho hr id n hid e1 h1 n1 s1) fun e2 h2 n2 s2 => ?_
  refine awp_cut 1 _ _ (law11c o l mark hr id n hid e2 h2 n2 s2) fun e3 h3 n3 s3 => ?_
  refine awp_cut 2 _ _ (law11d o l mark hr id n hid e3 h3 n3 s3) fun e4 h4 n4 s4 => ?_
  exact law11e o l mark ho hr id n hid e4 h4 n4 s4
end Go.Proofs.YtnodenojdjlbnaaDoor
