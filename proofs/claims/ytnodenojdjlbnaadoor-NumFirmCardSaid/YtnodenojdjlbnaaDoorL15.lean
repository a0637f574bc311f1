/-
  NumFirm: the law's own code. Its cases laid by a program of ours (gen_l15.py).
-/
import Derived.Test.YtnodenojdjlbnaaDoorNn
import Derived.Test.YtnodenojdjlbnaaDoorL16
set_option linter.unusedSimpArgs false
namespace Go.Proofs.YtnodenojdjlbnaaDoor
open Go Go.Eng
def tbl15 : List (FuncId × (List AV → Heap → PRes)) := [(25, g25), (42, g42), (45, pureVS (askedV (foldG sumL) applyL)), (46, g46)]
theorem tbl15_ok : TbOk [0, 1, 2, 3, 4, 5] tbl15 := tb_cons p25 (tb_cons p42 (tb_cons p45 (tb_cons p46 tb_nil)))
def wOf (sh : List V) (y : V) (bl : List Bool) (j : Nat) (s : Stp) : V := if s.op = 0 ∨ sh = [] then blurV y bl j else y
/-- The values that the first j steps come to, sharp and dim. -/
def firmAt (l : List Stp) (bl : List Bool) : Nat → List V × List V
  | 0 => ([], [])
  | j + 1 => match l[j]? with
    | some s => ((firmAt l bl j).1 ++ [askedV (foldG sumL) applyL (firmAt l bl j).1 (noAgg s)], (firmAt l bl j).2 ++ [wOf (firmAt l bl j).1 (askedV (foldG sumL) applyL (firmAt l bl j).2 (noAgg s)) bl j (noAgg s)])
    | none => firmAt l bl j
theorem firm_len {l : List Stp} {bl : List Bool} : ∀ j, j ≤ l.length → (firmAt l bl j).1.length = j ∧ (firmAt l bl j).2.length = j
  | 0, _ => ⟨rfl, rfl⟩
  | j + 1, h => by
    have h1 : j < l.length := by omega
    obtain ⟨i1, i2⟩ := firm_len (l := l) (bl := bl) j (by omega)
    simp only [firmAt, List.getElem?_eq_getElem h1, List.length_append, List.length_cons, List.length_nil]
    omega
theorem w_firm {sh : List V} {y x : V} {bl : List Bool} {j : Nat} {s : Stp} (h : Firm y x) : Firm (wOf sh y bl j s) x := by
  unfold wOf
  split
  · unfold blurV
    split
    · intro hk; cases hk
    · exact h
  · exact h
theorem firm_ok {l : List Stp} {bl : List Bool} : ∀ j, j ≤ l.length → FirmL (firmAt l bl j).2 (firmAt l bl j).1
  | 0, _ => ⟨rfl, fun _ hk => by simp [firmAt, unk] at hk⟩
  | j + 1, h => by
    have h1 : j < l.length := by omega
    have ih := firm_ok (l := l) (bl := bl) j (by omega)
    obtain ⟨i1, i2⟩ := firm_len (l := l) (bl := bl) j (by omega)
    simp only [firmAt, List.getElem?_eq_getElem h1]
    refine ⟨by simp [i1, i2], fun i => ?_⟩
    by_cases hi : i < j
    · have := ih.2 i
      simp only [List.getD_eq_getElem?_getD] at this ⊢
      rw [List.getElem?_append_left (by omega), List.getElem?_append_left (by omega)]
      exact this
    · by_cases hij : i = j
      · subst hij
        simp only [List.getD_eq_getElem?_getD]
        rw [List.getElem?_append_right (by omega), List.getElem?_append_right (by omega), i1, i2]
        simp only [Nat.sub_self, List.getElem?_cons_zero, Option.getD_some]
        exact w_firm (asked_firm ih)
      · intro hk
        simp only [List.getD_eq_getElem?_getD] at hk
        rw [List.getElem?_eq_none (by simp; omega)] at hk
        cases hk
theorem starts_ok : applyL 25 ⟨true, 0⟩ ⟨false, 0⟩ = ⟨true, 0⟩ ∧ applyL 14 ⟨true, 2⟩ ⟨true, 3⟩ = ⟨true, 5⟩ := by decide +kernel
abbrev I15 (l : List Stp) (bl : List Bool) (cs cb : List AV) (id idb n : Nat) (s : St) : Prop :=
  ∃ j, j ≤ l.length ∧ s.e 0 = .s id 0 0 l.length ∧ s.e 1 = .s idb 0 0 bl.length ∧ s.e 7 = ii j ∧ s.h id = some ⟨cs, 0, false, 5⟩ ∧ s.h idb = some ⟨cb, 0, false, 1⟩ ∧ n ≤ s.n ∧ (∀ q, s.n ≤ q → s.h q = none) ∧
    ((j = 0 ∧ s.e 5 = .v (.slice none 0 0) ∧ s.e 6 = .v (.slice none 0 0)) ∨ ∃ a u b w, 0 < j ∧ s.e 5 = .s a u 0 j ∧ s.e 6 = .s b w 0 j ∧ s.h a = some ⟨(firmAt l bl j).1.flatMap vcells, u, true, 2⟩ ∧ s.h b = some ⟨(firmAt l bl j).2.flatMap vcells, w, true, 2⟩ ∧ n ≤ a ∧ a < s.n ∧ n ≤ b ∧ b < s.n ∧ a ≠ b)
set_option maxRecDepth 100000 in
set_option maxHeartbeats 16000000 in
theorem law15 (l : List Stp) (bl : List Bool) (_ : ∀ s ∈ l, StpOk s) (hr : l.length * 40 ≤ reachBytes) (_ : ∀ b ∈ bl, True) (hrb : bl.length * 1 ≤ reachBytes) (id idb : Nat) (h : Heap) (n : Nat) (hk : h id = some ⟨l.flatMap scells, 0, false, 5⟩) (hkb : h idb = some ⟨bl.flatMap fun b => [bv b], 0, false, 1⟩) (hn : ∀ i, n ≤ i → h i = none) :
    awp (cx [0, 1, 2, 3, 4, 5] (pfL tbl15)) (Tryd.f15.body.getD .skip) (finQ (cx [0, 1, 2, 3, 4, 5] (pfL tbl15)) Tryd.f15 fun z _ _ => z = bv true) ⟨env0 [.s id 0 0 l.length, .s idb 0 0 bl.length], roH h, n⟩ := by
  unfold reachBytes at hr hrb
  have hro := ro_at hk
  have hrob := ro_at hkb
  have hid : id < n := by
    by_cases hid : id < n
    · exact hid
    · rw [hn id (by omega)] at hk; cases hk
  have hidb : idb < n := by
    by_cases hid : idb < n
    · exact hid
    · rw [hn idb (by omega)] at hkb; cases hkb
  obtain ⟨st1, st2⟩ := starts_ok
  have hsg := fun {i : Nat} (hi : i < l.length) => sc_get (l := l) hi
  have hsl := sc_len l
  have hdb := deBc_in bl
  have hbl : (bl.flatMap fun b => [bv b]).length = bl.length := by
    have := (deBc_get hdb).1
    exact this
  generalize l.flatMap scells = cs at *
  generalize (bl.flatMap fun b => [bv b]) = cb at *
  have hdb2 : deBc (List.take bl.length cb) = some bl := by rw [List.take_of_length_le (by omega)]; exact hdb
  have key : ∀ e : Nat → AV, e 0 = .s id 0 0 l.length → e 1 = .s idb 0 0 bl.length → awp (cx [0, 1, 2, 3, 4, 5] (pfL tbl15)) (Tryd.f15.body.getD .skip) (finQ (cx [0, 1, 2, 3, 4, 5] (pfL tbl15)) Tryd.f15 fun z _ _ => z = bv true) ⟨e, roH h, n⟩ := fun e he0 he1 => by
    simp [awp_skip, awp_label, awp_region, awp_seq, awp_if, awp_block, awp_ret, awp_exit, thenQ_n, thenQ_e, thenQ_r, blockQ_n, blockQ_e, blockQ_r, finQ_n, finQ_r, finQ_e, resAll, resVal, resOne, aops_nil, aops_cons, atl_nil, atl_cons, adraw_eq, adrawA_nil, adrawA_cons, isA, goOp, gev, Region.binds, Heap.le_refl, aop, aeval, gocall, heapOp, quietOp, ev, constAV, setd, yav, ystop, up, env0, cx_ti, cx_G, cx_pf, ti, globS, glob, pfL, lds, ldc, ldcs, sts, sth, sls, slc, wr, place, fillOk, fillC, repZ, binI, isDiv, optInt, optI, eksOk, eksEq, EK.ok, EK.eq, AV.i, AV.isI, AV.isInt, AV.b.eq_1, AV.b.eq_2, AV.isB.eq_1, AV.isB.eq_2, AV.str, AV.isStr, unc_same, unc_tt, unc_tf, unc_f, unc_any, unc_v, unc_gp, unc_p, unc_s, unc_g, unc_e, unc_t, unc_fn, unc_okb, unc_bb, unc_isB, unc_b, AV.bb.eq_1, AV.bb.eq_2, AV.okb.eq_1, AV.okb.eq_2, AV.okg.eq_1, AV.okg.eq_2, AV.gd.eq_1, AV.gd.eq_2, AV.cells, AV.one, AV.ones, AV.slen, AV.isS, AV.isPtr, AV.gl, AV.isG, Value.oneCell', Nat.add_assoc, Tryd.f15, he0, he1, ii, vv, bv, tbl15, g25, g42, pure1, pure3, deI, deV, knownV, st1, st2]
    refine awp_loop (I15 l bl cs cb id idb n) (fun s => l.length - (s.e 7).i.toNat) ⟨0, Nat.zero_le _, by simp [up, he0], by simp [up, he1], by simp [up, ii], by simp [hro], by simp [hrob], by simp, fun q hq => by simp [roH, hn q hq], by simp [up]⟩ ?_
    rintro e1 h1 n1 ⟨j, hj, q0, q1, q7, hh, hhb, hnn, hf, hab⟩
    simp only [] at q0 q1 q7 hh hhb hnn hf hab
    by_cases hc : j < l.length
    · obtain ⟨s0, s1, s2, s3, s4⟩ := hsg hc
      have hw1 := wrap_nat (j := j) (by unfold big; omega)
      have hl1 : j * 5 + 5 ≤ cs.length := by omega
      obtain ⟨hl01, hl02⟩ := firm_len (l := l) (bl := bl) j hj
      have hfm := asked_firm (t := l[j]) (firm_ok (l := l) (bl := bl) j hj)
      have hst : firmAt l bl (j + 1) = ((firmAt l bl j).1 ++ [askedV (foldG sumL) applyL (firmAt l bl j).1 (noAgg l[j])], (firmAt l bl j).2 ++ [wOf (firmAt l bl j).1 (askedV (foldG sumL) applyL (firmAt l bl j).2 (noAgg l[j])) bl j (noAgg l[j])]) := by simp only [firmAt, List.getElem?_eq_getElem hc]
      have hfr : ∀ q, h1 q ≠ none → q < n1 := fun q hq => by
        by_cases hlt : q < n1
        · exact hlt
        · exact absurd (hf q (by omega)) hq
      have y0 : id < n1 := hfr id (by rw [hh]; simp)
      have yb0 : idb < n1 := hfr idb (by rw [hhb]; simp)
      obtain ⟨⟨op, i, jj, ⟨vk, vn⟩⟩, hsj⟩ : ∃ s, l[j] = s := ⟨_, rfl⟩
      rw [hsj] at s0 s1 s2 s3 s4 hst hfm
      simp only at s0 s1 s2 s3 s4
      have hop4 : (5 ≤ op ∧ op ≤ 10) ∨ (op = 0) ∨ (5 ≤ op ∧ ¬ op ≤ 10 ∧ ¬ op = 0) ∨ (¬ 5 ≤ op ∧ ¬ op = 0) := by omega
      rcases hop4 with hop | hop | hop | hop
      · obtain ⟨c5, c10⟩ := hop
        have hno : noAgg ⟨op, i, jj, ⟨vk, vn⟩⟩ = (⟨0, i, jj, ⟨vk, vn⟩⟩ : Stp) := by simp [noAgg, c5, c10]
        rw [hno] at hst hfm
        rcases hab with ⟨rfl, q5, q6⟩ | ⟨a, u, b, w, hjp, q5, q6, ha, hb, hga, hla, hgb, hlb, hne⟩
        · have hr0 : firmAt l bl 0 = ([], []) := rfl
          rw [hr0] at hst hfm
          simp only at hst hfm
          obtain ⟨⟨xk, xn⟩, hx⟩ : ∃ x : V, askedV (foldG sumL) applyL [] ⟨0, i, jj, ⟨vk, vn⟩⟩ = x := ⟨_, rfl⟩
          rw [hx] at hst hfm
          have hwv : wOf [] ⟨xk, xn⟩ bl 0 ⟨0, i, jj, ⟨vk, vn⟩⟩ = blurV ⟨xk, xn⟩ bl 0 := by simp [wOf]
          have hfz := w_firm (sh := []) (bl := bl) (j := 0) (s := ⟨0, i, jj, ⟨vk, vn⟩⟩) hfm
          rw [hwv] at hst hfz
          obtain ⟨⟨zk, zn⟩, hz⟩ : ∃ z : V, blurV ⟨xk, xn⟩ bl 0 = z := ⟨_, rfl⟩
          rw [hz] at hst hfz
          have yi0 : ¬ id = n1 := by omega
          have yi1 : ¬ id = n1 + 1 := by omega
          have yi2 : ¬ id = n1 + 2 := by omega
          have yi3 : ¬ id = n1 + 3 := by omega
          have yi4 : ¬ id = n1 + 4 := by omega
          have yi5 : ¬ id = n1 + 5 := by omega
          have yi6 : ¬ id = n1 + 6 := by omega
          have yi7 : ¬ id = n1 + 7 := by omega
          have yi8 : ¬ id = n1 + 8 := by omega
          have yi9 : ¬ id = n1 + 9 := by omega
          have yi10 : ¬ id = n1 + 10 := by omega
          have yi11 : ¬ id = n1 + 11 := by omega
          have yj0 : ¬ idb = n1 := by omega
          have yj1 : ¬ idb = n1 + 1 := by omega
          have yj2 : ¬ idb = n1 + 2 := by omega
          have yj3 : ¬ idb = n1 + 3 := by omega
          have yj4 : ¬ idb = n1 + 4 := by omega
          have yj5 : ¬ idb = n1 + 5 := by omega
          have yj6 : ¬ idb = n1 + 6 := by omega
          have yj7 : ¬ idb = n1 + 7 := by omega
          have yj8 : ¬ idb = n1 + 8 := by omega
          have yj9 : ¬ idb = n1 + 9 := by omega
          have yj10 : ¬ idb = n1 + 10 := by omega
          have yj11 : ¬ idb = n1 + 11 := by omega
          have hn1 : (firmAt l bl (0 + 1)).1.flatMap vcells = [.v (.bool xk), .v (.int .i64 xn)] := by rw [hst]; rfl
          have hn2 : (firmAt l bl (0 + 1)).2.flatMap vcells = [.v (.bool zk), .v (.int .i64 zn)] := by rw [hst]; rfl
          cases zk with
          | false =>
            simp [awp_skip, awp_label, awp_region, awp_seq, awp_if, awp_block, awp_ret, awp_exit, thenQ_n, thenQ_e, thenQ_r, blockQ_n, blockQ_e, blockQ_r, finQ_n, finQ_r, finQ_e, resAll, resVal, resOne, aops_nil, aops_cons, atl_nil, atl_cons, adraw_eq, adrawA_nil, adrawA_cons, isA, goOp, gev, Region.binds, Heap.le_refl, aop, aeval, gocall, heapOp, quietOp, ev, constAV, setd, yav, ystop, up, env0, cx_ti, cx_G, cx_pf, ti, globS, glob, pfL, lds, ldc, ldcs, sts, sth, sls, slc, wr, place, fillOk, fillC, repZ, binI, isDiv, optInt, optI, eksOk, eksEq, EK.ok, EK.eq, AV.i, AV.isI, AV.isInt, AV.b.eq_1, AV.b.eq_2, AV.isB.eq_1, AV.isB.eq_2, AV.str, AV.isStr, unc_same, unc_tt, unc_tf, unc_f, unc_any, unc_v, unc_gp, unc_p, unc_s, unc_g, unc_e, unc_t, unc_fn, unc_okb, unc_bb, unc_isB, unc_b, AV.bb.eq_1, AV.bb.eq_2, AV.okb.eq_1, AV.okb.eq_2, AV.okg.eq_1, AV.okg.eq_2, AV.gd.eq_1, AV.gd.eq_2, AV.cells, AV.one, AV.ones, AV.slen, AV.isS, AV.isPtr, AV.gl, AV.isG, Value.oneCell', Nat.add_assoc, q5, q6, q0, q1, q7, hh, hhb, ii, hc, s0, s1, s2, s3, s4, hw1, hl1, tbl15, pureVS, vals, deS, deV, deI, vv, g46, bools, hdb2, hbl, hx, c5, c10, yi0, yi1, yi2, yi3, yi4, yi5, yi6, yi7, yi8, yi9, yi10, yi11, yj0, yj1, yj2, yj3, yj4, yj5, yj6, yj7, yj8, yj9, yj10, yj11, hz]
            have hw2 : IntKind.i64.wrap 1 = 1 := rfl
            refine ⟨⟨1, by omega, by simp [up, q0], by simp [up, q1], by simp [up, ii, hw2], by simp [up, hh, yi0, yi1, yi2, yi3, yi4, yi5, yi6, yi7, yi8, yi9, yi10, yi11, yj0, yj1, yj2, yj3, yj4, yj5, yj6, yj7, yj8, yj9, yj10, yj11], by simp [up, hhb, yi0, yi1, yi2, yi3, yi4, yi5, yi6, yi7, yi8, yi9, yi10, yi11, yj0, yj1, yj2, yj3, yj4, yj5, yj6, yj7, yj8, yj9, yj10, yj11], by simp; omega, (fun q hq => by
              simp only at hq
              simp only [up]
              repeat rw [if_neg (by omega)]
              exact hf q (by omega)), .inr ⟨n1 + 9, 0, n1 + 11, 0, by omega, by simp [up], by simp [up], ?_, ?_, by omega, by simp, by omega, by simp, by omega⟩⟩, by omega⟩
            · rw [hn1]; simp [up]
            · rw [hn2]; simp [up]
          | true =>
            have hxz := hfz rfl
            simp only [V.mk.injEq] at hxz
            obtain ⟨rfl, rfl⟩ := hxz
            simp [awp_skip, awp_label, awp_region, awp_seq, awp_if, awp_block, awp_ret, awp_exit, thenQ_n, thenQ_e, thenQ_r, blockQ_n, blockQ_e, blockQ_r, finQ_n, finQ_r, finQ_e, resAll, resVal, resOne, aops_nil, aops_cons, atl_nil, atl_cons, adraw_eq, adrawA_nil, adrawA_cons, isA, goOp, gev, Region.binds, Heap.le_refl, aop, aeval, gocall, heapOp, quietOp, ev, constAV, setd, yav, ystop, up, env0, cx_ti, cx_G, cx_pf, ti, globS, glob, pfL, lds, ldc, ldcs, sts, sth, sls, slc, wr, place, fillOk, fillC, repZ, binI, isDiv, optInt, optI, eksOk, eksEq, EK.ok, EK.eq, AV.i, AV.isI, AV.isInt, AV.b.eq_1, AV.b.eq_2, AV.isB.eq_1, AV.isB.eq_2, AV.str, AV.isStr, unc_same, unc_tt, unc_tf, unc_f, unc_any, unc_v, unc_gp, unc_p, unc_s, unc_g, unc_e, unc_t, unc_fn, unc_okb, unc_bb, unc_isB, unc_b, AV.bb.eq_1, AV.bb.eq_2, AV.okb.eq_1, AV.okb.eq_2, AV.okg.eq_1, AV.okg.eq_2, AV.gd.eq_1, AV.gd.eq_2, AV.cells, AV.one, AV.ones, AV.slen, AV.isS, AV.isPtr, AV.gl, AV.isG, Value.oneCell', Nat.add_assoc, q5, q6, q0, q1, q7, hh, hhb, ii, hc, s0, s1, s2, s3, s4, hw1, hl1, tbl15, pureVS, vals, deS, deV, deI, vv, g46, bools, hdb2, hbl, hx, c5, c10, yi0, yi1, yi2, yi3, yi4, yi5, yi6, yi7, yi8, yi9, yi10, yi11, yj0, yj1, yj2, yj3, yj4, yj5, yj6, yj7, yj8, yj9, yj10, yj11, hz]
            have hw2 : IntKind.i64.wrap 1 = 1 := rfl
            refine ⟨⟨1, by omega, by simp [up, q0], by simp [up, q1], by simp [up, ii, hw2], by simp [up, hh, yi0, yi1, yi2, yi3, yi4, yi5, yi6, yi7, yi8, yi9, yi10, yi11, yj0, yj1, yj2, yj3, yj4, yj5, yj6, yj7, yj8, yj9, yj10, yj11], by simp [up, hhb, yi0, yi1, yi2, yi3, yi4, yi5, yi6, yi7, yi8, yi9, yi10, yi11, yj0, yj1, yj2, yj3, yj4, yj5, yj6, yj7, yj8, yj9, yj10, yj11], by simp; omega, (fun q hq => by
              simp only at hq
              simp only [up]
              repeat rw [if_neg (by omega)]
              exact hf q (by omega)), .inr ⟨n1 + 9, 0, n1 + 11, 0, by omega, by simp [up], by simp [up], ?_, ?_, by omega, by simp, by omega, by simp, by omega⟩⟩, by omega⟩
            · rw [hn1]; simp [up]
            · rw [hn2]; simp [up]
        · obtain ⟨⟨xk, xn⟩, hx⟩ : ∃ x : V, askedV (foldG sumL) applyL (firmAt l bl j).1 ⟨0, i, jj, ⟨vk, vn⟩⟩ = x := ⟨_, rfl⟩
          rw [hx] at hst hfm
          obtain ⟨⟨yk, yn⟩, hy⟩ : ∃ y : V, askedV (foldG sumL) applyL (firmAt l bl j).2 ⟨0, i, jj, ⟨vk, vn⟩⟩ = y := ⟨_, rfl⟩
          rw [hy] at hst hfm
          have hwv : wOf (firmAt l bl j).1 ⟨yk, yn⟩ bl j ⟨0, i, jj, ⟨vk, vn⟩⟩ = blurV ⟨yk, yn⟩ bl (j : Int) := by simp [wOf]
          have hfz := w_firm (sh := (firmAt l bl j).1) (bl := bl) (j := j) (s := ⟨0, i, jj, ⟨vk, vn⟩⟩) hfm
          rw [hwv] at hst hfz
          obtain ⟨⟨zk, zn⟩, hz⟩ : ∃ z : V, blurV ⟨yk, yn⟩ bl (j : Int) = z := ⟨_, rfl⟩
          rw [hz] at hst hfz
          have yi0 : ¬ id = n1 := by omega
          have yi1 : ¬ id = n1 + 1 := by omega
          have yi2 : ¬ id = n1 + 2 := by omega
          have yi3 : ¬ id = n1 + 3 := by omega
          have yi4 : ¬ id = n1 + 4 := by omega
          have yi5 : ¬ id = n1 + 5 := by omega
          have yi6 : ¬ id = n1 + 6 := by omega
          have yi7 : ¬ id = n1 + 7 := by omega
          have yi8 : ¬ id = n1 + 8 := by omega
          have yi9 : ¬ id = n1 + 9 := by omega
          have yi10 : ¬ id = n1 + 10 := by omega
          have yi11 : ¬ id = n1 + 11 := by omega
          have yj0 : ¬ idb = n1 := by omega
          have yj1 : ¬ idb = n1 + 1 := by omega
          have yj2 : ¬ idb = n1 + 2 := by omega
          have yj3 : ¬ idb = n1 + 3 := by omega
          have yj4 : ¬ idb = n1 + 4 := by omega
          have yj5 : ¬ idb = n1 + 5 := by omega
          have yj6 : ¬ idb = n1 + 6 := by omega
          have yj7 : ¬ idb = n1 + 7 := by omega
          have yj8 : ¬ idb = n1 + 8 := by omega
          have yj9 : ¬ idb = n1 + 9 := by omega
          have yj10 : ¬ idb = n1 + 10 := by omega
          have yj11 : ¬ idb = n1 + 11 := by omega
          have ya0 : ¬ a = n1 := by omega
          have ya1 : ¬ a = n1 + 1 := by omega
          have ya2 : ¬ a = n1 + 2 := by omega
          have ya3 : ¬ a = n1 + 3 := by omega
          have ya4 : ¬ a = n1 + 4 := by omega
          have ya5 : ¬ a = n1 + 5 := by omega
          have ya6 : ¬ a = n1 + 6 := by omega
          have ya7 : ¬ a = n1 + 7 := by omega
          have ya8 : ¬ a = n1 + 8 := by omega
          have ya9 : ¬ a = n1 + 9 := by omega
          have ya10 : ¬ a = n1 + 10 := by omega
          have ya11 : ¬ a = n1 + 11 := by omega
          have yb0 : ¬ b = n1 := by omega
          have yb1 : ¬ b = n1 + 1 := by omega
          have yb2 : ¬ b = n1 + 2 := by omega
          have yb3 : ¬ b = n1 + 3 := by omega
          have yb4 : ¬ b = n1 + 4 := by omega
          have yb5 : ¬ b = n1 + 5 := by omega
          have yb6 : ¬ b = n1 + 6 := by omega
          have yb7 : ¬ b = n1 + 7 := by omega
          have yb8 : ¬ b = n1 + 8 := by omega
          have yb9 : ¬ b = n1 + 9 := by omega
          have yb10 : ¬ b = n1 + 10 := by omega
          have yb11 : ¬ b = n1 + 11 := by omega
          have yr3 : ¬ n1 + 3 = a := by omega
          have yr5 : ¬ n1 + 5 = a := by omega
          have yba : ¬ b = a := fun e => hne e.symm
          have yia : ¬ id = a := by omega
          have yib : ¬ id = b := by omega
          have yja : ¬ idb = a := by omega
          have yjb : ¬ idb = b := by omega
          have hlv1 := vc_len (firmAt l bl j).1
          have hlv2 := vc_len (firmAt l bl j).2
          have hdv1 : deVc (List.take (j * 2) ((firmAt l bl j).1.flatMap vcells)) = some (firmAt l bl j).1 := by rw [List.take_of_length_le (by omega), deVc_in]
          have hdv2 : deVc (List.take (j * 2) ((firmAt l bl j).2.flatMap vcells)) = some (firmAt l bl j).2 := by rw [List.take_of_length_le (by omega), deVc_in]
          have hn1 : (firmAt l bl (j + 1)).1.flatMap vcells = (firmAt l bl j).1.flatMap vcells ++ [.v (.bool xk), .v (.int .i64 xn)] := by rw [hst]; simp [vcells]
          have hn2 : (firmAt l bl (j + 1)).2.flatMap vcells = (firmAt l bl j).2.flatMap vcells ++ [.v (.bool zk), .v (.int .i64 zn)] := by rw [hst]; simp [vcells]
          generalize (firmAt l bl j).1.flatMap vcells = c1 at *
          generalize (firmAt l bl j).2.flatMap vcells = c2 at *
          rw [hl01] at hlv1
          rw [hl02] at hlv2
          have hj0 : ¬ j = 0 := by omega
          cases zk with
          | false =>
            simp [awp_skip, awp_label, awp_region, awp_seq, awp_if, awp_block, awp_ret, awp_exit, thenQ_n, thenQ_e, thenQ_r, blockQ_n, blockQ_e, blockQ_r, finQ_n, finQ_r, finQ_e, resAll, resVal, resOne, aops_nil, aops_cons, atl_nil, atl_cons, adraw_eq, adrawA_nil, adrawA_cons, isA, goOp, gev, Region.binds, Heap.le_refl, aop, aeval, gocall, heapOp, quietOp, ev, constAV, setd, yav, ystop, up, env0, cx_ti, cx_G, cx_pf, ti, globS, glob, pfL, lds, ldc, ldcs, sts, sth, sls, slc, wr, place, fillOk, fillC, repZ, binI, isDiv, optInt, optI, eksOk, eksEq, EK.ok, EK.eq, AV.i, AV.isI, AV.isInt, AV.b.eq_1, AV.b.eq_2, AV.isB.eq_1, AV.isB.eq_2, AV.str, AV.isStr, unc_same, unc_tt, unc_tf, unc_f, unc_any, unc_v, unc_gp, unc_p, unc_s, unc_g, unc_e, unc_t, unc_fn, unc_okb, unc_bb, unc_isB, unc_b, AV.bb.eq_1, AV.bb.eq_2, AV.okb.eq_1, AV.okb.eq_2, AV.okg.eq_1, AV.okg.eq_2, AV.gd.eq_1, AV.gd.eq_2, AV.cells, AV.one, AV.ones, AV.slen, AV.isS, AV.isPtr, AV.gl, AV.isG, Value.oneCell', Nat.add_assoc, q5, q6, q0, q1, q7, hh, hhb, ii, hc, s0, s1, s2, s3, s4, hw1, hl1, tbl15, pureVS, vals, deS, deV, deI, vv, g46, bools, hdb2, hbl, hx, c5, c10, yi0, yi1, yi2, yi3, yi4, yi5, yi6, yi7, yi8, yi9, yi10, yi11, yj0, yj1, yj2, yj3, yj4, yj5, yj6, yj7, yj8, yj9, yj10, yj11, ya0, ya1, ya2, ya3, ya4, ya5, ya6, ya7, ya8, ya9, ya10, ya11, yb0, yb1, yb2, yb3, yb4, yb5, yb6, yb7, yb8, yb9, yb10, yb11, yr3, yr5, yba, hne, yia, yib, yja, yjb, ha, hb, hdv1, hdv2, hlv1, hlv2, hl01, hl02, hy, hj0, hz]
            refine ⟨by omega, ⟨by omega, by omega⟩, ⟨j + 1, by omega, by simp [up, q0], by simp [up, q1], by simp [up, ii], by simp [up, hh, yi0, yi1, yi2, yi3, yi4, yi5, yi6, yi7, yi8, yi9, yi10, yi11, yj0, yj1, yj2, yj3, yj4, yj5, yj6, yj7, yj8, yj9, yj10, yj11, ya0, ya1, ya2, ya3, ya4, ya5, ya6, ya7, ya8, ya9, ya10, ya11, yb0, yb1, yb2, yb3, yb4, yb5, yb6, yb7, yb8, yb9, yb10, yb11, yr3, yr5, yba, hne, yia, yib, yja, yjb], by simp [up, hhb, yi0, yi1, yi2, yi3, yi4, yi5, yi6, yi7, yi8, yi9, yi10, yi11, yj0, yj1, yj2, yj3, yj4, yj5, yj6, yj7, yj8, yj9, yj10, yj11, ya0, ya1, ya2, ya3, ya4, ya5, ya6, ya7, ya8, ya9, ya10, ya11, yb0, yb1, yb2, yb3, yb4, yb5, yb6, yb7, yb8, yb9, yb10, yb11, yr3, yr5, yba, hne, yia, yib, yja, yjb], by simp; omega, (fun q hq => by
              simp only at hq
              simp only [up]
              repeat rw [if_neg (by omega)]
              exact hf q (by omega)), .inr ⟨a, u + 1, b, w + 1, by omega, by simp [up], by simp [up], ?_, ?_, by omega, by simp; omega, by omega, by simp; omega, hne⟩⟩, by omega⟩
            · rw [hn1]; simp [up, yi0, yi1, yi2, yi3, yi4, yi5, yi6, yi7, yi8, yi9, yi10, yi11, yj0, yj1, yj2, yj3, yj4, yj5, yj6, yj7, yj8, yj9, yj10, yj11, ya0, ya1, ya2, ya3, ya4, ya5, ya6, ya7, ya8, ya9, ya10, ya11, yb0, yb1, yb2, yb3, yb4, yb5, yb6, yb7, yb8, yb9, yb10, yb11, yr3, yr5, yba, hne, yia, yib, yja, yjb]
            · rw [hn2]; simp [up, yi0, yi1, yi2, yi3, yi4, yi5, yi6, yi7, yi8, yi9, yi10, yi11, yj0, yj1, yj2, yj3, yj4, yj5, yj6, yj7, yj8, yj9, yj10, yj11, ya0, ya1, ya2, ya3, ya4, ya5, ya6, ya7, ya8, ya9, ya10, ya11, yb0, yb1, yb2, yb3, yb4, yb5, yb6, yb7, yb8, yb9, yb10, yb11, yr3, yr5, yba, hne, yia, yib, yja, yjb]
          | true =>
            have hxz := hfz rfl
            simp only [V.mk.injEq] at hxz
            obtain ⟨rfl, rfl⟩ := hxz
            simp [awp_skip, awp_label, awp_region, awp_seq, awp_if, awp_block, awp_ret, awp_exit, thenQ_n, thenQ_e, thenQ_r, blockQ_n, blockQ_e, blockQ_r, finQ_n, finQ_r, finQ_e, resAll, resVal, resOne, aops_nil, aops_cons, atl_nil, atl_cons, adraw_eq, adrawA_nil, adrawA_cons, isA, goOp, gev, Region.binds, Heap.le_refl, aop, aeval, gocall, heapOp, quietOp, ev, constAV, setd, yav, ystop, up, env0, cx_ti, cx_G, cx_pf, ti, globS, glob, pfL, lds, ldc, ldcs, sts, sth, sls, slc, wr, place, fillOk, fillC, repZ, binI, isDiv, optInt, optI, eksOk, eksEq, EK.ok, EK.eq, AV.i, AV.isI, AV.isInt, AV.b.eq_1, AV.b.eq_2, AV.isB.eq_1, AV.isB.eq_2, AV.str, AV.isStr, unc_same, unc_tt, unc_tf, unc_f, unc_any, unc_v, unc_gp, unc_p, unc_s, unc_g, unc_e, unc_t, unc_fn, unc_okb, unc_bb, unc_isB, unc_b, AV.bb.eq_1, AV.bb.eq_2, AV.okb.eq_1, AV.okb.eq_2, AV.okg.eq_1, AV.okg.eq_2, AV.gd.eq_1, AV.gd.eq_2, AV.cells, AV.one, AV.ones, AV.slen, AV.isS, AV.isPtr, AV.gl, AV.isG, Value.oneCell', Nat.add_assoc, q5, q6, q0, q1, q7, hh, hhb, ii, hc, s0, s1, s2, s3, s4, hw1, hl1, tbl15, pureVS, vals, deS, deV, deI, vv, g46, bools, hdb2, hbl, hx, c5, c10, yi0, yi1, yi2, yi3, yi4, yi5, yi6, yi7, yi8, yi9, yi10, yi11, yj0, yj1, yj2, yj3, yj4, yj5, yj6, yj7, yj8, yj9, yj10, yj11, ya0, ya1, ya2, ya3, ya4, ya5, ya6, ya7, ya8, ya9, ya10, ya11, yb0, yb1, yb2, yb3, yb4, yb5, yb6, yb7, yb8, yb9, yb10, yb11, yr3, yr5, yba, hne, yia, yib, yja, yjb, ha, hb, hdv1, hdv2, hlv1, hlv2, hl01, hl02, hy, hj0, hz]
            refine ⟨by omega, ⟨by omega, by omega⟩, ⟨j + 1, by omega, by simp [up, q0], by simp [up, q1], by simp [up, ii], by simp [up, hh, yi0, yi1, yi2, yi3, yi4, yi5, yi6, yi7, yi8, yi9, yi10, yi11, yj0, yj1, yj2, yj3, yj4, yj5, yj6, yj7, yj8, yj9, yj10, yj11, ya0, ya1, ya2, ya3, ya4, ya5, ya6, ya7, ya8, ya9, ya10, ya11, yb0, yb1, yb2, yb3, yb4, yb5, yb6, yb7, yb8, yb9, yb10, yb11, yr3, yr5, yba, hne, yia, yib, yja, yjb], by simp [up, hhb, yi0, yi1, yi2, yi3, yi4, yi5, yi6, yi7, yi8, yi9, yi10, yi11, yj0, yj1, yj2, yj3, yj4, yj5, yj6, yj7, yj8, yj9, yj10, yj11, ya0, ya1, ya2, ya3, ya4, ya5, ya6, ya7, ya8, ya9, ya10, ya11, yb0, yb1, yb2, yb3, yb4, yb5, yb6, yb7, yb8, yb9, yb10, yb11, yr3, yr5, yba, hne, yia, yib, yja, yjb], by simp; omega, (fun q hq => by
              simp only at hq
              simp only [up]
              repeat rw [if_neg (by omega)]
              exact hf q (by omega)), .inr ⟨a, u + 1, b, w + 1, by omega, by simp [up], by simp [up], ?_, ?_, by omega, by simp; omega, by omega, by simp; omega, hne⟩⟩, by omega⟩
            · rw [hn1]; simp [up, yi0, yi1, yi2, yi3, yi4, yi5, yi6, yi7, yi8, yi9, yi10, yi11, yj0, yj1, yj2, yj3, yj4, yj5, yj6, yj7, yj8, yj9, yj10, yj11, ya0, ya1, ya2, ya3, ya4, ya5, ya6, ya7, ya8, ya9, ya10, ya11, yb0, yb1, yb2, yb3, yb4, yb5, yb6, yb7, yb8, yb9, yb10, yb11, yr3, yr5, yba, hne, yia, yib, yja, yjb]
            · rw [hn2]; simp [up, yi0, yi1, yi2, yi3, yi4, yi5, yi6, yi7, yi8, yi9, yi10, yi11, yj0, yj1, yj2, yj3, yj4, yj5, yj6, yj7, yj8, yj9, yj10, yj11, ya0, ya1, ya2, ya3, ya4, ya5, ya6, ya7, ya8, ya9, ya10, ya11, yb0, yb1, yb2, yb3, yb4, yb5, yb6, yb7, yb8, yb9, yb10, yb11, yr3, yr5, yba, hne, yia, yib, yja, yjb]
      · subst hop
        have hno : noAgg ⟨0, i, jj, ⟨vk, vn⟩⟩ = (⟨0, i, jj, ⟨vk, vn⟩⟩ : Stp) := by simp [noAgg]
        rw [hno] at hst hfm
        rcases hab with ⟨rfl, q5, q6⟩ | ⟨a, u, b, w, hjp, q5, q6, ha, hb, hga, hla, hgb, hlb, hne⟩
        · have hr0 : firmAt l bl 0 = ([], []) := rfl
          rw [hr0] at hst hfm
          simp only at hst hfm
          obtain ⟨⟨xk, xn⟩, hx⟩ : ∃ x : V, askedV (foldG sumL) applyL [] ⟨0, i, jj, ⟨vk, vn⟩⟩ = x := ⟨_, rfl⟩
          rw [hx] at hst hfm
          have hwv : wOf [] ⟨xk, xn⟩ bl 0 ⟨0, i, jj, ⟨vk, vn⟩⟩ = blurV ⟨xk, xn⟩ bl 0 := by simp [wOf]
          have hfz := w_firm (sh := []) (bl := bl) (j := 0) (s := ⟨0, i, jj, ⟨vk, vn⟩⟩) hfm
          rw [hwv] at hst hfz
          obtain ⟨⟨zk, zn⟩, hz⟩ : ∃ z : V, blurV ⟨xk, xn⟩ bl 0 = z := ⟨_, rfl⟩
          rw [hz] at hst hfz
          have yi0 : ¬ id = n1 := by omega
          have yi1 : ¬ id = n1 + 1 := by omega
          have yi2 : ¬ id = n1 + 2 := by omega
          have yi3 : ¬ id = n1 + 3 := by omega
          have yi4 : ¬ id = n1 + 4 := by omega
          have yi5 : ¬ id = n1 + 5 := by omega
          have yi6 : ¬ id = n1 + 6 := by omega
          have yi7 : ¬ id = n1 + 7 := by omega
          have yi8 : ¬ id = n1 + 8 := by omega
          have yi9 : ¬ id = n1 + 9 := by omega
          have yi10 : ¬ id = n1 + 10 := by omega
          have yj0 : ¬ idb = n1 := by omega
          have yj1 : ¬ idb = n1 + 1 := by omega
          have yj2 : ¬ idb = n1 + 2 := by omega
          have yj3 : ¬ idb = n1 + 3 := by omega
          have yj4 : ¬ idb = n1 + 4 := by omega
          have yj5 : ¬ idb = n1 + 5 := by omega
          have yj6 : ¬ idb = n1 + 6 := by omega
          have yj7 : ¬ idb = n1 + 7 := by omega
          have yj8 : ¬ idb = n1 + 8 := by omega
          have yj9 : ¬ idb = n1 + 9 := by omega
          have yj10 : ¬ idb = n1 + 10 := by omega
          have hn1 : (firmAt l bl (0 + 1)).1.flatMap vcells = [.v (.bool xk), .v (.int .i64 xn)] := by rw [hst]; rfl
          have hn2 : (firmAt l bl (0 + 1)).2.flatMap vcells = [.v (.bool zk), .v (.int .i64 zn)] := by rw [hst]; rfl
          cases zk with
          | false =>
            simp [awp_skip, awp_label, awp_region, awp_seq, awp_if, awp_block, awp_ret, awp_exit, thenQ_n, thenQ_e, thenQ_r, blockQ_n, blockQ_e, blockQ_r, finQ_n, finQ_r, finQ_e, resAll, resVal, resOne, aops_nil, aops_cons, atl_nil, atl_cons, adraw_eq, adrawA_nil, adrawA_cons, isA, goOp, gev, Region.binds, Heap.le_refl, aop, aeval, gocall, heapOp, quietOp, ev, constAV, setd, yav, ystop, up, env0, cx_ti, cx_G, cx_pf, ti, globS, glob, pfL, lds, ldc, ldcs, sts, sth, sls, slc, wr, place, fillOk, fillC, repZ, binI, isDiv, optInt, optI, eksOk, eksEq, EK.ok, EK.eq, AV.i, AV.isI, AV.isInt, AV.b.eq_1, AV.b.eq_2, AV.isB.eq_1, AV.isB.eq_2, AV.str, AV.isStr, unc_same, unc_tt, unc_tf, unc_f, unc_any, unc_v, unc_gp, unc_p, unc_s, unc_g, unc_e, unc_t, unc_fn, unc_okb, unc_bb, unc_isB, unc_b, AV.bb.eq_1, AV.bb.eq_2, AV.okb.eq_1, AV.okb.eq_2, AV.okg.eq_1, AV.okg.eq_2, AV.gd.eq_1, AV.gd.eq_2, AV.cells, AV.one, AV.ones, AV.slen, AV.isS, AV.isPtr, AV.gl, AV.isG, Value.oneCell', Nat.add_assoc, q5, q6, q0, q1, q7, hh, hhb, ii, hc, s0, s1, s2, s3, s4, hw1, hl1, tbl15, pureVS, vals, deS, deV, deI, vv, g46, bools, hdb2, hbl, hx, yi0, yi1, yi2, yi3, yi4, yi5, yi6, yi7, yi8, yi9, yi10, yj0, yj1, yj2, yj3, yj4, yj5, yj6, yj7, yj8, yj9, yj10, hz]
            have hw2 : IntKind.i64.wrap 1 = 1 := rfl
            refine ⟨⟨1, by omega, by simp [up, q0], by simp [up, q1], by simp [up, ii, hw2], by simp [up, hh, yi0, yi1, yi2, yi3, yi4, yi5, yi6, yi7, yi8, yi9, yi10, yj0, yj1, yj2, yj3, yj4, yj5, yj6, yj7, yj8, yj9, yj10], by simp [up, hhb, yi0, yi1, yi2, yi3, yi4, yi5, yi6, yi7, yi8, yi9, yi10, yj0, yj1, yj2, yj3, yj4, yj5, yj6, yj7, yj8, yj9, yj10], by simp; omega, (fun q hq => by
              simp only at hq
              simp only [up]
              repeat rw [if_neg (by omega)]
              exact hf q (by omega)), .inr ⟨n1 + 8, 0, n1 + 10, 0, by omega, by simp [up], by simp [up], ?_, ?_, by omega, by simp, by omega, by simp, by omega⟩⟩, by omega⟩
            · rw [hn1]; simp [up]
            · rw [hn2]; simp [up]
          | true =>
            have hxz := hfz rfl
            simp only [V.mk.injEq] at hxz
            obtain ⟨rfl, rfl⟩ := hxz
            simp [awp_skip, awp_label, awp_region, awp_seq, awp_if, awp_block, awp_ret, awp_exit, thenQ_n, thenQ_e, thenQ_r, blockQ_n, blockQ_e, blockQ_r, finQ_n, finQ_r, finQ_e, resAll, resVal, resOne, aops_nil, aops_cons, atl_nil, atl_cons, adraw_eq, adrawA_nil, adrawA_cons, isA, goOp, gev, Region.binds, Heap.le_refl, aop, aeval, gocall, heapOp, quietOp, ev, constAV, setd, yav, ystop, up, env0, cx_ti, cx_G, cx_pf, ti, globS, glob, pfL, lds, ldc, ldcs, sts, sth, sls, slc, wr, place, fillOk, fillC, repZ, binI, isDiv, optInt, optI, eksOk, eksEq, EK.ok, EK.eq, AV.i, AV.isI, AV.isInt, AV.b.eq_1, AV.b.eq_2, AV.isB.eq_1, AV.isB.eq_2, AV.str, AV.isStr, unc_same, unc_tt, unc_tf, unc_f, unc_any, unc_v, unc_gp, unc_p, unc_s, unc_g, unc_e, unc_t, unc_fn, unc_okb, unc_bb, unc_isB, unc_b, AV.bb.eq_1, AV.bb.eq_2, AV.okb.eq_1, AV.okb.eq_2, AV.okg.eq_1, AV.okg.eq_2, AV.gd.eq_1, AV.gd.eq_2, AV.cells, AV.one, AV.ones, AV.slen, AV.isS, AV.isPtr, AV.gl, AV.isG, Value.oneCell', Nat.add_assoc, q5, q6, q0, q1, q7, hh, hhb, ii, hc, s0, s1, s2, s3, s4, hw1, hl1, tbl15, pureVS, vals, deS, deV, deI, vv, g46, bools, hdb2, hbl, hx, yi0, yi1, yi2, yi3, yi4, yi5, yi6, yi7, yi8, yi9, yi10, yj0, yj1, yj2, yj3, yj4, yj5, yj6, yj7, yj8, yj9, yj10, hz]
            have hw2 : IntKind.i64.wrap 1 = 1 := rfl
            refine ⟨⟨1, by omega, by simp [up, q0], by simp [up, q1], by simp [up, ii, hw2], by simp [up, hh, yi0, yi1, yi2, yi3, yi4, yi5, yi6, yi7, yi8, yi9, yi10, yj0, yj1, yj2, yj3, yj4, yj5, yj6, yj7, yj8, yj9, yj10], by simp [up, hhb, yi0, yi1, yi2, yi3, yi4, yi5, yi6, yi7, yi8, yi9, yi10, yj0, yj1, yj2, yj3, yj4, yj5, yj6, yj7, yj8, yj9, yj10], by simp; omega, (fun q hq => by
              simp only at hq
              simp only [up]
              repeat rw [if_neg (by omega)]
              exact hf q (by omega)), .inr ⟨n1 + 8, 0, n1 + 10, 0, by omega, by simp [up], by simp [up], ?_, ?_, by omega, by simp, by omega, by simp, by omega⟩⟩, by omega⟩
            · rw [hn1]; simp [up]
            · rw [hn2]; simp [up]
        · obtain ⟨⟨xk, xn⟩, hx⟩ : ∃ x : V, askedV (foldG sumL) applyL (firmAt l bl j).1 ⟨0, i, jj, ⟨vk, vn⟩⟩ = x := ⟨_, rfl⟩
          rw [hx] at hst hfm
          obtain ⟨⟨yk, yn⟩, hy⟩ : ∃ y : V, askedV (foldG sumL) applyL (firmAt l bl j).2 ⟨0, i, jj, ⟨vk, vn⟩⟩ = y := ⟨_, rfl⟩
          rw [hy] at hst hfm
          have hwv : wOf (firmAt l bl j).1 ⟨yk, yn⟩ bl j ⟨0, i, jj, ⟨vk, vn⟩⟩ = blurV ⟨yk, yn⟩ bl (j : Int) := by simp [wOf]
          have hfz := w_firm (sh := (firmAt l bl j).1) (bl := bl) (j := j) (s := ⟨0, i, jj, ⟨vk, vn⟩⟩) hfm
          rw [hwv] at hst hfz
          obtain ⟨⟨zk, zn⟩, hz⟩ : ∃ z : V, blurV ⟨yk, yn⟩ bl (j : Int) = z := ⟨_, rfl⟩
          rw [hz] at hst hfz
          have yi0 : ¬ id = n1 := by omega
          have yi1 : ¬ id = n1 + 1 := by omega
          have yi2 : ¬ id = n1 + 2 := by omega
          have yi3 : ¬ id = n1 + 3 := by omega
          have yi4 : ¬ id = n1 + 4 := by omega
          have yi5 : ¬ id = n1 + 5 := by omega
          have yi6 : ¬ id = n1 + 6 := by omega
          have yi7 : ¬ id = n1 + 7 := by omega
          have yi8 : ¬ id = n1 + 8 := by omega
          have yi9 : ¬ id = n1 + 9 := by omega
          have yi10 : ¬ id = n1 + 10 := by omega
          have yj0 : ¬ idb = n1 := by omega
          have yj1 : ¬ idb = n1 + 1 := by omega
          have yj2 : ¬ idb = n1 + 2 := by omega
          have yj3 : ¬ idb = n1 + 3 := by omega
          have yj4 : ¬ idb = n1 + 4 := by omega
          have yj5 : ¬ idb = n1 + 5 := by omega
          have yj6 : ¬ idb = n1 + 6 := by omega
          have yj7 : ¬ idb = n1 + 7 := by omega
          have yj8 : ¬ idb = n1 + 8 := by omega
          have yj9 : ¬ idb = n1 + 9 := by omega
          have yj10 : ¬ idb = n1 + 10 := by omega
          have ya0 : ¬ a = n1 := by omega
          have ya1 : ¬ a = n1 + 1 := by omega
          have ya2 : ¬ a = n1 + 2 := by omega
          have ya3 : ¬ a = n1 + 3 := by omega
          have ya4 : ¬ a = n1 + 4 := by omega
          have ya5 : ¬ a = n1 + 5 := by omega
          have ya6 : ¬ a = n1 + 6 := by omega
          have ya7 : ¬ a = n1 + 7 := by omega
          have ya8 : ¬ a = n1 + 8 := by omega
          have ya9 : ¬ a = n1 + 9 := by omega
          have ya10 : ¬ a = n1 + 10 := by omega
          have yb0 : ¬ b = n1 := by omega
          have yb1 : ¬ b = n1 + 1 := by omega
          have yb2 : ¬ b = n1 + 2 := by omega
          have yb3 : ¬ b = n1 + 3 := by omega
          have yb4 : ¬ b = n1 + 4 := by omega
          have yb5 : ¬ b = n1 + 5 := by omega
          have yb6 : ¬ b = n1 + 6 := by omega
          have yb7 : ¬ b = n1 + 7 := by omega
          have yb8 : ¬ b = n1 + 8 := by omega
          have yb9 : ¬ b = n1 + 9 := by omega
          have yb10 : ¬ b = n1 + 10 := by omega
          have yr2 : ¬ n1 + 2 = a := by omega
          have yr4 : ¬ n1 + 4 = a := by omega
          have yba : ¬ b = a := fun e => hne e.symm
          have yia : ¬ id = a := by omega
          have yib : ¬ id = b := by omega
          have yja : ¬ idb = a := by omega
          have yjb : ¬ idb = b := by omega
          have hlv1 := vc_len (firmAt l bl j).1
          have hlv2 := vc_len (firmAt l bl j).2
          have hdv1 : deVc (List.take (j * 2) ((firmAt l bl j).1.flatMap vcells)) = some (firmAt l bl j).1 := by rw [List.take_of_length_le (by omega), deVc_in]
          have hdv2 : deVc (List.take (j * 2) ((firmAt l bl j).2.flatMap vcells)) = some (firmAt l bl j).2 := by rw [List.take_of_length_le (by omega), deVc_in]
          have hn1 : (firmAt l bl (j + 1)).1.flatMap vcells = (firmAt l bl j).1.flatMap vcells ++ [.v (.bool xk), .v (.int .i64 xn)] := by rw [hst]; simp [vcells]
          have hn2 : (firmAt l bl (j + 1)).2.flatMap vcells = (firmAt l bl j).2.flatMap vcells ++ [.v (.bool zk), .v (.int .i64 zn)] := by rw [hst]; simp [vcells]
          generalize (firmAt l bl j).1.flatMap vcells = c1 at *
          generalize (firmAt l bl j).2.flatMap vcells = c2 at *
          rw [hl01] at hlv1
          rw [hl02] at hlv2
          have hj0 : ¬ j = 0 := by omega
          cases zk with
          | false =>
            simp [awp_skip, awp_label, awp_region, awp_seq, awp_if, awp_block, awp_ret, awp_exit, thenQ_n, thenQ_e, thenQ_r, blockQ_n, blockQ_e, blockQ_r, finQ_n, finQ_r, finQ_e, resAll, resVal, resOne, aops_nil, aops_cons, atl_nil, atl_cons, adraw_eq, adrawA_nil, adrawA_cons, isA, goOp, gev, Region.binds, Heap.le_refl, aop, aeval, gocall, heapOp, quietOp, ev, constAV, setd, yav, ystop, up, env0, cx_ti, cx_G, cx_pf, ti, globS, glob, pfL, lds, ldc, ldcs, sts, sth, sls, slc, wr, place, fillOk, fillC, repZ, binI, isDiv, optInt, optI, eksOk, eksEq, EK.ok, EK.eq, AV.i, AV.isI, AV.isInt, AV.b.eq_1, AV.b.eq_2, AV.isB.eq_1, AV.isB.eq_2, AV.str, AV.isStr, unc_same, unc_tt, unc_tf, unc_f, unc_any, unc_v, unc_gp, unc_p, unc_s, unc_g, unc_e, unc_t, unc_fn, unc_okb, unc_bb, unc_isB, unc_b, AV.bb.eq_1, AV.bb.eq_2, AV.okb.eq_1, AV.okb.eq_2, AV.okg.eq_1, AV.okg.eq_2, AV.gd.eq_1, AV.gd.eq_2, AV.cells, AV.one, AV.ones, AV.slen, AV.isS, AV.isPtr, AV.gl, AV.isG, Value.oneCell', Nat.add_assoc, q5, q6, q0, q1, q7, hh, hhb, ii, hc, s0, s1, s2, s3, s4, hw1, hl1, tbl15, pureVS, vals, deS, deV, deI, vv, g46, bools, hdb2, hbl, hx, yi0, yi1, yi2, yi3, yi4, yi5, yi6, yi7, yi8, yi9, yi10, yj0, yj1, yj2, yj3, yj4, yj5, yj6, yj7, yj8, yj9, yj10, ya0, ya1, ya2, ya3, ya4, ya5, ya6, ya7, ya8, ya9, ya10, yb0, yb1, yb2, yb3, yb4, yb5, yb6, yb7, yb8, yb9, yb10, yr2, yr4, yba, hne, yia, yib, yja, yjb, ha, hb, hdv1, hdv2, hlv1, hlv2, hl01, hl02, hy, hj0, hz]
            refine ⟨by omega, ⟨by omega, by omega⟩, ⟨j + 1, by omega, by simp [up, q0], by simp [up, q1], by simp [up, ii], by simp [up, hh, yi0, yi1, yi2, yi3, yi4, yi5, yi6, yi7, yi8, yi9, yi10, yj0, yj1, yj2, yj3, yj4, yj5, yj6, yj7, yj8, yj9, yj10, ya0, ya1, ya2, ya3, ya4, ya5, ya6, ya7, ya8, ya9, ya10, yb0, yb1, yb2, yb3, yb4, yb5, yb6, yb7, yb8, yb9, yb10, yr2, yr4, yba, hne, yia, yib, yja, yjb], by simp [up, hhb, yi0, yi1, yi2, yi3, yi4, yi5, yi6, yi7, yi8, yi9, yi10, yj0, yj1, yj2, yj3, yj4, yj5, yj6, yj7, yj8, yj9, yj10, ya0, ya1, ya2, ya3, ya4, ya5, ya6, ya7, ya8, ya9, ya10, yb0, yb1, yb2, yb3, yb4, yb5, yb6, yb7, yb8, yb9, yb10, yr2, yr4, yba, hne, yia, yib, yja, yjb], by simp; omega, (fun q hq => by
              simp only at hq
              simp only [up]
              repeat rw [if_neg (by omega)]
              exact hf q (by omega)), .inr ⟨a, u + 1, b, w + 1, by omega, by simp [up], by simp [up], ?_, ?_, by omega, by simp; omega, by omega, by simp; omega, hne⟩⟩, by omega⟩
            · rw [hn1]; simp [up, yi0, yi1, yi2, yi3, yi4, yi5, yi6, yi7, yi8, yi9, yi10, yj0, yj1, yj2, yj3, yj4, yj5, yj6, yj7, yj8, yj9, yj10, ya0, ya1, ya2, ya3, ya4, ya5, ya6, ya7, ya8, ya9, ya10, yb0, yb1, yb2, yb3, yb4, yb5, yb6, yb7, yb8, yb9, yb10, yr2, yr4, yba, hne, yia, yib, yja, yjb]
            · rw [hn2]; simp [up, yi0, yi1, yi2, yi3, yi4, yi5, yi6, yi7, yi8, yi9, yi10, yj0, yj1, yj2, yj3, yj4, yj5, yj6, yj7, yj8, yj9, yj10, ya0, ya1, ya2, ya3, ya4, ya5, ya6, ya7, ya8, ya9, ya10, yb0, yb1, yb2, yb3, yb4, yb5, yb6, yb7, yb8, yb9, yb10, yr2, yr4, yba, hne, yia, yib, yja, yjb]
          | true =>
            have hxz := hfz rfl
            simp only [V.mk.injEq] at hxz
            obtain ⟨rfl, rfl⟩ := hxz
            simp [awp_skip, awp_label, awp_region, awp_seq, awp_if, awp_block, awp_ret, awp_exit, thenQ_n, thenQ_e, thenQ_r, blockQ_n, blockQ_e, blockQ_r, finQ_n, finQ_r, finQ_e, resAll, resVal, resOne, aops_nil, aops_cons, atl_nil, atl_cons, adraw_eq, adrawA_nil, adrawA_cons, isA, goOp, gev, Region.binds, Heap.le_refl, aop, aeval, gocall, heapOp, quietOp, ev, constAV, setd, yav, ystop, up, env0, cx_ti, cx_G, cx_pf, ti, globS, glob, pfL, lds, ldc, ldcs, sts, sth, sls, slc, wr, place, fillOk, fillC, repZ, binI, isDiv, optInt, optI, eksOk, eksEq, EK.ok, EK.eq, AV.i, AV.isI, AV.isInt, AV.b.eq_1, AV.b.eq_2, AV.isB.eq_1, AV.isB.eq_2, AV.str, AV.isStr, unc_same, unc_tt, unc_tf, unc_f, unc_any, unc_v, unc_gp, unc_p, unc_s, unc_g, unc_e, unc_t, unc_fn, unc_okb, unc_bb, unc_isB, unc_b, AV.bb.eq_1, AV.bb.eq_2, AV.okb.eq_1, AV.okb.eq_2, AV.okg.eq_1, AV.okg.eq_2, AV.gd.eq_1, AV.gd.eq_2, AV.cells, AV.one, AV.ones, AV.slen, AV.isS, AV.isPtr, AV.gl, AV.isG, Value.oneCell', Nat.add_assoc, q5, q6, q0, q1, q7, hh, hhb, ii, hc, s0, s1, s2, s3, s4, hw1, hl1, tbl15, pureVS, vals, deS, deV, deI, vv, g46, bools, hdb2, hbl, hx, yi0, yi1, yi2, yi3, yi4, yi5, yi6, yi7, yi8, yi9, yi10, yj0, yj1, yj2, yj3, yj4, yj5, yj6, yj7, yj8, yj9, yj10, ya0, ya1, ya2, ya3, ya4, ya5, ya6, ya7, ya8, ya9, ya10, yb0, yb1, yb2, yb3, yb4, yb5, yb6, yb7, yb8, yb9, yb10, yr2, yr4, yba, hne, yia, yib, yja, yjb, ha, hb, hdv1, hdv2, hlv1, hlv2, hl01, hl02, hy, hj0, hz]
            refine ⟨by omega, ⟨by omega, by omega⟩, ⟨j + 1, by omega, by simp [up, q0], by simp [up, q1], by simp [up, ii], by simp [up, hh, yi0, yi1, yi2, yi3, yi4, yi5, yi6, yi7, yi8, yi9, yi10, yj0, yj1, yj2, yj3, yj4, yj5, yj6, yj7, yj8, yj9, yj10, ya0, ya1, ya2, ya3, ya4, ya5, ya6, ya7, ya8, ya9, ya10, yb0, yb1, yb2, yb3, yb4, yb5, yb6, yb7, yb8, yb9, yb10, yr2, yr4, yba, hne, yia, yib, yja, yjb], by simp [up, hhb, yi0, yi1, yi2, yi3, yi4, yi5, yi6, yi7, yi8, yi9, yi10, yj0, yj1, yj2, yj3, yj4, yj5, yj6, yj7, yj8, yj9, yj10, ya0, ya1, ya2, ya3, ya4, ya5, ya6, ya7, ya8, ya9, ya10, yb0, yb1, yb2, yb3, yb4, yb5, yb6, yb7, yb8, yb9, yb10, yr2, yr4, yba, hne, yia, yib, yja, yjb], by simp; omega, (fun q hq => by
              simp only at hq
              simp only [up]
              repeat rw [if_neg (by omega)]
              exact hf q (by omega)), .inr ⟨a, u + 1, b, w + 1, by omega, by simp [up], by simp [up], ?_, ?_, by omega, by simp; omega, by omega, by simp; omega, hne⟩⟩, by omega⟩
            · rw [hn1]; simp [up, yi0, yi1, yi2, yi3, yi4, yi5, yi6, yi7, yi8, yi9, yi10, yj0, yj1, yj2, yj3, yj4, yj5, yj6, yj7, yj8, yj9, yj10, ya0, ya1, ya2, ya3, ya4, ya5, ya6, ya7, ya8, ya9, ya10, yb0, yb1, yb2, yb3, yb4, yb5, yb6, yb7, yb8, yb9, yb10, yr2, yr4, yba, hne, yia, yib, yja, yjb]
            · rw [hn2]; simp [up, yi0, yi1, yi2, yi3, yi4, yi5, yi6, yi7, yi8, yi9, yi10, yj0, yj1, yj2, yj3, yj4, yj5, yj6, yj7, yj8, yj9, yj10, ya0, ya1, ya2, ya3, ya4, ya5, ya6, ya7, ya8, ya9, ya10, yb0, yb1, yb2, yb3, yb4, yb5, yb6, yb7, yb8, yb9, yb10, yr2, yr4, yba, hne, yia, yib, yja, yjb]
      · obtain ⟨c5, c10, c0⟩ := hop
        have hno : noAgg ⟨op, i, jj, ⟨vk, vn⟩⟩ = (⟨op, i, jj, ⟨vk, vn⟩⟩ : Stp) := by simp [noAgg, c5, c10]
        rw [hno] at hst hfm
        rcases hab with ⟨rfl, q5, q6⟩ | ⟨a, u, b, w, hjp, q5, q6, ha, hb, hga, hla, hgb, hlb, hne⟩
        · have hr0 : firmAt l bl 0 = ([], []) := rfl
          rw [hr0] at hst hfm
          simp only at hst hfm
          obtain ⟨⟨xk, xn⟩, hx⟩ : ∃ x : V, askedV (foldG sumL) applyL [] ⟨op, i, jj, ⟨vk, vn⟩⟩ = x := ⟨_, rfl⟩
          rw [hx] at hst hfm
          have hwv : wOf [] ⟨xk, xn⟩ bl 0 ⟨op, i, jj, ⟨vk, vn⟩⟩ = blurV ⟨xk, xn⟩ bl 0 := by simp [wOf]
          have hfz := w_firm (sh := []) (bl := bl) (j := 0) (s := ⟨op, i, jj, ⟨vk, vn⟩⟩) hfm
          rw [hwv] at hst hfz
          obtain ⟨⟨zk, zn⟩, hz⟩ : ∃ z : V, blurV ⟨xk, xn⟩ bl 0 = z := ⟨_, rfl⟩
          rw [hz] at hst hfz
          have yi0 : ¬ id = n1 := by omega
          have yi1 : ¬ id = n1 + 1 := by omega
          have yi2 : ¬ id = n1 + 2 := by omega
          have yi3 : ¬ id = n1 + 3 := by omega
          have yi4 : ¬ id = n1 + 4 := by omega
          have yi5 : ¬ id = n1 + 5 := by omega
          have yi6 : ¬ id = n1 + 6 := by omega
          have yi7 : ¬ id = n1 + 7 := by omega
          have yi8 : ¬ id = n1 + 8 := by omega
          have yi9 : ¬ id = n1 + 9 := by omega
          have yi10 : ¬ id = n1 + 10 := by omega
          have yj0 : ¬ idb = n1 := by omega
          have yj1 : ¬ idb = n1 + 1 := by omega
          have yj2 : ¬ idb = n1 + 2 := by omega
          have yj3 : ¬ idb = n1 + 3 := by omega
          have yj4 : ¬ idb = n1 + 4 := by omega
          have yj5 : ¬ idb = n1 + 5 := by omega
          have yj6 : ¬ idb = n1 + 6 := by omega
          have yj7 : ¬ idb = n1 + 7 := by omega
          have yj8 : ¬ idb = n1 + 8 := by omega
          have yj9 : ¬ idb = n1 + 9 := by omega
          have yj10 : ¬ idb = n1 + 10 := by omega
          have hn1 : (firmAt l bl (0 + 1)).1.flatMap vcells = [.v (.bool xk), .v (.int .i64 xn)] := by rw [hst]; rfl
          have hn2 : (firmAt l bl (0 + 1)).2.flatMap vcells = [.v (.bool zk), .v (.int .i64 zn)] := by rw [hst]; rfl
          cases zk with
          | false =>
            simp [awp_skip, awp_label, awp_region, awp_seq, awp_if, awp_block, awp_ret, awp_exit, thenQ_n, thenQ_e, thenQ_r, blockQ_n, blockQ_e, blockQ_r, finQ_n, finQ_r, finQ_e, resAll, resVal, resOne, aops_nil, aops_cons, atl_nil, atl_cons, adraw_eq, adrawA_nil, adrawA_cons, isA, goOp, gev, Region.binds, Heap.le_refl, aop, aeval, gocall, heapOp, quietOp, ev, constAV, setd, yav, ystop, up, env0, cx_ti, cx_G, cx_pf, ti, globS, glob, pfL, lds, ldc, ldcs, sts, sth, sls, slc, wr, place, fillOk, fillC, repZ, binI, isDiv, optInt, optI, eksOk, eksEq, EK.ok, EK.eq, AV.i, AV.isI, AV.isInt, AV.b.eq_1, AV.b.eq_2, AV.isB.eq_1, AV.isB.eq_2, AV.str, AV.isStr, unc_same, unc_tt, unc_tf, unc_f, unc_any, unc_v, unc_gp, unc_p, unc_s, unc_g, unc_e, unc_t, unc_fn, unc_okb, unc_bb, unc_isB, unc_b, AV.bb.eq_1, AV.bb.eq_2, AV.okb.eq_1, AV.okb.eq_2, AV.okg.eq_1, AV.okg.eq_2, AV.gd.eq_1, AV.gd.eq_2, AV.cells, AV.one, AV.ones, AV.slen, AV.isS, AV.isPtr, AV.gl, AV.isG, Value.oneCell', Nat.add_assoc, q5, q6, q0, q1, q7, hh, hhb, ii, hc, s0, s1, s2, s3, s4, hw1, hl1, tbl15, pureVS, vals, deS, deV, deI, vv, g46, bools, hdb2, hbl, hx, c5, c10, c0, yi0, yi1, yi2, yi3, yi4, yi5, yi6, yi7, yi8, yi9, yi10, yj0, yj1, yj2, yj3, yj4, yj5, yj6, yj7, yj8, yj9, yj10, hz]
            have hw2 : IntKind.i64.wrap 1 = 1 := rfl
            refine ⟨⟨1, by omega, by simp [up, q0], by simp [up, q1], by simp [up, ii, hw2], by simp [up, hh, yi0, yi1, yi2, yi3, yi4, yi5, yi6, yi7, yi8, yi9, yi10, yj0, yj1, yj2, yj3, yj4, yj5, yj6, yj7, yj8, yj9, yj10], by simp [up, hhb, yi0, yi1, yi2, yi3, yi4, yi5, yi6, yi7, yi8, yi9, yi10, yj0, yj1, yj2, yj3, yj4, yj5, yj6, yj7, yj8, yj9, yj10], by simp; omega, (fun q hq => by
              simp only at hq
              simp only [up]
              repeat rw [if_neg (by omega)]
              exact hf q (by omega)), .inr ⟨n1 + 8, 0, n1 + 10, 0, by omega, by simp [up], by simp [up], ?_, ?_, by omega, by simp, by omega, by simp, by omega⟩⟩, by omega⟩
            · rw [hn1]; simp [up]
            · rw [hn2]; simp [up]
          | true =>
            have hxz := hfz rfl
            simp only [V.mk.injEq] at hxz
            obtain ⟨rfl, rfl⟩ := hxz
            simp [awp_skip, awp_label, awp_region, awp_seq, awp_if, awp_block, awp_ret, awp_exit, thenQ_n, thenQ_e, thenQ_r, blockQ_n, blockQ_e, blockQ_r, finQ_n, finQ_r, finQ_e, resAll, resVal, resOne, aops_nil, aops_cons, atl_nil, atl_cons, adraw_eq, adrawA_nil, adrawA_cons, isA, goOp, gev, Region.binds, Heap.le_refl, aop, aeval, gocall, heapOp, quietOp, ev, constAV, setd, yav, ystop, up, env0, cx_ti, cx_G, cx_pf, ti, globS, glob, pfL, lds, ldc, ldcs, sts, sth, sls, slc, wr, place, fillOk, fillC, repZ, binI, isDiv, optInt, optI, eksOk, eksEq, EK.ok, EK.eq, AV.i, AV.isI, AV.isInt, AV.b.eq_1, AV.b.eq_2, AV.isB.eq_1, AV.isB.eq_2, AV.str, AV.isStr, unc_same, unc_tt, unc_tf, unc_f, unc_any, unc_v, unc_gp, unc_p, unc_s, unc_g, unc_e, unc_t, unc_fn, unc_okb, unc_bb, unc_isB, unc_b, AV.bb.eq_1, AV.bb.eq_2, AV.okb.eq_1, AV.okb.eq_2, AV.okg.eq_1, AV.okg.eq_2, AV.gd.eq_1, AV.gd.eq_2, AV.cells, AV.one, AV.ones, AV.slen, AV.isS, AV.isPtr, AV.gl, AV.isG, Value.oneCell', Nat.add_assoc, q5, q6, q0, q1, q7, hh, hhb, ii, hc, s0, s1, s2, s3, s4, hw1, hl1, tbl15, pureVS, vals, deS, deV, deI, vv, g46, bools, hdb2, hbl, hx, c5, c10, c0, yi0, yi1, yi2, yi3, yi4, yi5, yi6, yi7, yi8, yi9, yi10, yj0, yj1, yj2, yj3, yj4, yj5, yj6, yj7, yj8, yj9, yj10, hz]
            have hw2 : IntKind.i64.wrap 1 = 1 := rfl
            refine ⟨⟨1, by omega, by simp [up, q0], by simp [up, q1], by simp [up, ii, hw2], by simp [up, hh, yi0, yi1, yi2, yi3, yi4, yi5, yi6, yi7, yi8, yi9, yi10, yj0, yj1, yj2, yj3, yj4, yj5, yj6, yj7, yj8, yj9, yj10], by simp [up, hhb, yi0, yi1, yi2, yi3, yi4, yi5, yi6, yi7, yi8, yi9, yi10, yj0, yj1, yj2, yj3, yj4, yj5, yj6, yj7, yj8, yj9, yj10], by simp; omega, (fun q hq => by
              simp only at hq
              simp only [up]
              repeat rw [if_neg (by omega)]
              exact hf q (by omega)), .inr ⟨n1 + 8, 0, n1 + 10, 0, by omega, by simp [up], by simp [up], ?_, ?_, by omega, by simp, by omega, by simp, by omega⟩⟩, by omega⟩
            · rw [hn1]; simp [up]
            · rw [hn2]; simp [up]
        · obtain ⟨⟨xk, xn⟩, hx⟩ : ∃ x : V, askedV (foldG sumL) applyL (firmAt l bl j).1 ⟨op, i, jj, ⟨vk, vn⟩⟩ = x := ⟨_, rfl⟩
          rw [hx] at hst hfm
          obtain ⟨⟨yk, yn⟩, hy⟩ : ∃ y : V, askedV (foldG sumL) applyL (firmAt l bl j).2 ⟨op, i, jj, ⟨vk, vn⟩⟩ = y := ⟨_, rfl⟩
          rw [hy] at hst hfm
          have hsn : ¬ (firmAt l bl j).1 = [] := fun e => by
            have : j = 0 := by rw [← hl01, e]; rfl
            omega
          have hwv : wOf (firmAt l bl j).1 ⟨yk, yn⟩ bl j ⟨op, i, jj, ⟨vk, vn⟩⟩ = ⟨yk, yn⟩ := by simp [wOf, c0, hsn]
          rw [hwv] at hst
          have hfz := hfm
          have yi0 : ¬ id = n1 := by omega
          have yi1 : ¬ id = n1 + 1 := by omega
          have yi2 : ¬ id = n1 + 2 := by omega
          have yi3 : ¬ id = n1 + 3 := by omega
          have yi4 : ¬ id = n1 + 4 := by omega
          have yi5 : ¬ id = n1 + 5 := by omega
          have yi6 : ¬ id = n1 + 6 := by omega
          have yi7 : ¬ id = n1 + 7 := by omega
          have yi8 : ¬ id = n1 + 8 := by omega
          have yi9 : ¬ id = n1 + 9 := by omega
          have yj0 : ¬ idb = n1 := by omega
          have yj1 : ¬ idb = n1 + 1 := by omega
          have yj2 : ¬ idb = n1 + 2 := by omega
          have yj3 : ¬ idb = n1 + 3 := by omega
          have yj4 : ¬ idb = n1 + 4 := by omega
          have yj5 : ¬ idb = n1 + 5 := by omega
          have yj6 : ¬ idb = n1 + 6 := by omega
          have yj7 : ¬ idb = n1 + 7 := by omega
          have yj8 : ¬ idb = n1 + 8 := by omega
          have yj9 : ¬ idb = n1 + 9 := by omega
          have ya0 : ¬ a = n1 := by omega
          have ya1 : ¬ a = n1 + 1 := by omega
          have ya2 : ¬ a = n1 + 2 := by omega
          have ya3 : ¬ a = n1 + 3 := by omega
          have ya4 : ¬ a = n1 + 4 := by omega
          have ya5 : ¬ a = n1 + 5 := by omega
          have ya6 : ¬ a = n1 + 6 := by omega
          have ya7 : ¬ a = n1 + 7 := by omega
          have ya8 : ¬ a = n1 + 8 := by omega
          have ya9 : ¬ a = n1 + 9 := by omega
          have yb0 : ¬ b = n1 := by omega
          have yb1 : ¬ b = n1 + 1 := by omega
          have yb2 : ¬ b = n1 + 2 := by omega
          have yb3 : ¬ b = n1 + 3 := by omega
          have yb4 : ¬ b = n1 + 4 := by omega
          have yb5 : ¬ b = n1 + 5 := by omega
          have yb6 : ¬ b = n1 + 6 := by omega
          have yb7 : ¬ b = n1 + 7 := by omega
          have yb8 : ¬ b = n1 + 8 := by omega
          have yb9 : ¬ b = n1 + 9 := by omega
          have yr2 : ¬ n1 + 2 = a := by omega
          have yr4 : ¬ n1 + 4 = a := by omega
          have yba : ¬ b = a := fun e => hne e.symm
          have yia : ¬ id = a := by omega
          have yib : ¬ id = b := by omega
          have yja : ¬ idb = a := by omega
          have yjb : ¬ idb = b := by omega
          have hlv1 := vc_len (firmAt l bl j).1
          have hlv2 := vc_len (firmAt l bl j).2
          have hdv1 : deVc (List.take (j * 2) ((firmAt l bl j).1.flatMap vcells)) = some (firmAt l bl j).1 := by rw [List.take_of_length_le (by omega), deVc_in]
          have hdv2 : deVc (List.take (j * 2) ((firmAt l bl j).2.flatMap vcells)) = some (firmAt l bl j).2 := by rw [List.take_of_length_le (by omega), deVc_in]
          have hn1 : (firmAt l bl (j + 1)).1.flatMap vcells = (firmAt l bl j).1.flatMap vcells ++ [.v (.bool xk), .v (.int .i64 xn)] := by rw [hst]; simp [vcells]
          have hn2 : (firmAt l bl (j + 1)).2.flatMap vcells = (firmAt l bl j).2.flatMap vcells ++ [.v (.bool yk), .v (.int .i64 yn)] := by rw [hst]; simp [vcells]
          generalize (firmAt l bl j).1.flatMap vcells = c1 at *
          generalize (firmAt l bl j).2.flatMap vcells = c2 at *
          rw [hl01] at hlv1
          rw [hl02] at hlv2
          have hj0 : ¬ j = 0 := by omega
          cases yk with
          | false =>
            simp [awp_skip, awp_label, awp_region, awp_seq, awp_if, awp_block, awp_ret, awp_exit, thenQ_n, thenQ_e, thenQ_r, blockQ_n, blockQ_e, blockQ_r, finQ_n, finQ_r, finQ_e, resAll, resVal, resOne, aops_nil, aops_cons, atl_nil, atl_cons, adraw_eq, adrawA_nil, adrawA_cons, isA, goOp, gev, Region.binds, Heap.le_refl, aop, aeval, gocall, heapOp, quietOp, ev, constAV, setd, yav, ystop, up, env0, cx_ti, cx_G, cx_pf, ti, globS, glob, pfL, lds, ldc, ldcs, sts, sth, sls, slc, wr, place, fillOk, fillC, repZ, binI, isDiv, optInt, optI, eksOk, eksEq, EK.ok, EK.eq, AV.i, AV.isI, AV.isInt, AV.b.eq_1, AV.b.eq_2, AV.isB.eq_1, AV.isB.eq_2, AV.str, AV.isStr, unc_same, unc_tt, unc_tf, unc_f, unc_any, unc_v, unc_gp, unc_p, unc_s, unc_g, unc_e, unc_t, unc_fn, unc_okb, unc_bb, unc_isB, unc_b, AV.bb.eq_1, AV.bb.eq_2, AV.okb.eq_1, AV.okb.eq_2, AV.okg.eq_1, AV.okg.eq_2, AV.gd.eq_1, AV.gd.eq_2, AV.cells, AV.one, AV.ones, AV.slen, AV.isS, AV.isPtr, AV.gl, AV.isG, Value.oneCell', Nat.add_assoc, q5, q6, q0, q1, q7, hh, hhb, ii, hc, s0, s1, s2, s3, s4, hw1, hl1, tbl15, pureVS, vals, deS, deV, deI, vv, g46, bools, hdb2, hbl, hx, c5, c10, c0, yi0, yi1, yi2, yi3, yi4, yi5, yi6, yi7, yi8, yi9, yj0, yj1, yj2, yj3, yj4, yj5, yj6, yj7, yj8, yj9, ya0, ya1, ya2, ya3, ya4, ya5, ya6, ya7, ya8, ya9, yb0, yb1, yb2, yb3, yb4, yb5, yb6, yb7, yb8, yb9, yr2, yr4, yba, hne, yia, yib, yja, yjb, ha, hb, hdv1, hdv2, hlv1, hlv2, hl01, hl02, hy, hj0]
            refine ⟨by omega, ⟨by omega, by omega⟩, ⟨j + 1, by omega, by simp [up, q0], by simp [up, q1], by simp [up, ii], by simp [up, hh, yi0, yi1, yi2, yi3, yi4, yi5, yi6, yi7, yi8, yi9, yj0, yj1, yj2, yj3, yj4, yj5, yj6, yj7, yj8, yj9, ya0, ya1, ya2, ya3, ya4, ya5, ya6, ya7, ya8, ya9, yb0, yb1, yb2, yb3, yb4, yb5, yb6, yb7, yb8, yb9, yr2, yr4, yba, hne, yia, yib, yja, yjb], by simp [up, hhb, yi0, yi1, yi2, yi3, yi4, yi5, yi6, yi7, yi8, yi9, yj0, yj1, yj2, yj3, yj4, yj5, yj6, yj7, yj8, yj9, ya0, ya1, ya2, ya3, ya4, ya5, ya6, ya7, ya8, ya9, yb0, yb1, yb2, yb3, yb4, yb5, yb6, yb7, yb8, yb9, yr2, yr4, yba, hne, yia, yib, yja, yjb], by simp; omega, (fun q hq => by
              simp only at hq
              simp only [up]
              repeat rw [if_neg (by omega)]
              exact hf q (by omega)), .inr ⟨a, u + 1, b, w + 1, by omega, by simp [up], by simp [up], ?_, ?_, by omega, by simp; omega, by omega, by simp; omega, hne⟩⟩, by omega⟩
            · rw [hn1]; simp [up, yi0, yi1, yi2, yi3, yi4, yi5, yi6, yi7, yi8, yi9, yj0, yj1, yj2, yj3, yj4, yj5, yj6, yj7, yj8, yj9, ya0, ya1, ya2, ya3, ya4, ya5, ya6, ya7, ya8, ya9, yb0, yb1, yb2, yb3, yb4, yb5, yb6, yb7, yb8, yb9, yr2, yr4, yba, hne, yia, yib, yja, yjb]
            · rw [hn2]; simp [up, yi0, yi1, yi2, yi3, yi4, yi5, yi6, yi7, yi8, yi9, yj0, yj1, yj2, yj3, yj4, yj5, yj6, yj7, yj8, yj9, ya0, ya1, ya2, ya3, ya4, ya5, ya6, ya7, ya8, ya9, yb0, yb1, yb2, yb3, yb4, yb5, yb6, yb7, yb8, yb9, yr2, yr4, yba, hne, yia, yib, yja, yjb]
          | true =>
            have hxz := hfz rfl
            simp only [V.mk.injEq] at hxz
            obtain ⟨rfl, rfl⟩ := hxz
            simp [awp_skip, awp_label, awp_region, awp_seq, awp_if, awp_block, awp_ret, awp_exit, thenQ_n, thenQ_e, thenQ_r, blockQ_n, blockQ_e, blockQ_r, finQ_n, finQ_r, finQ_e, resAll, resVal, resOne, aops_nil, aops_cons, atl_nil, atl_cons, adraw_eq, adrawA_nil, adrawA_cons, isA, goOp, gev, Region.binds, Heap.le_refl, aop, aeval, gocall, heapOp, quietOp, ev, constAV, setd, yav, ystop, up, env0, cx_ti, cx_G, cx_pf, ti, globS, glob, pfL, lds, ldc, ldcs, sts, sth, sls, slc, wr, place, fillOk, fillC, repZ, binI, isDiv, optInt, optI, eksOk, eksEq, EK.ok, EK.eq, AV.i, AV.isI, AV.isInt, AV.b.eq_1, AV.b.eq_2, AV.isB.eq_1, AV.isB.eq_2, AV.str, AV.isStr, unc_same, unc_tt, unc_tf, unc_f, unc_any, unc_v, unc_gp, unc_p, unc_s, unc_g, unc_e, unc_t, unc_fn, unc_okb, unc_bb, unc_isB, unc_b, AV.bb.eq_1, AV.bb.eq_2, AV.okb.eq_1, AV.okb.eq_2, AV.okg.eq_1, AV.okg.eq_2, AV.gd.eq_1, AV.gd.eq_2, AV.cells, AV.one, AV.ones, AV.slen, AV.isS, AV.isPtr, AV.gl, AV.isG, Value.oneCell', Nat.add_assoc, q5, q6, q0, q1, q7, hh, hhb, ii, hc, s0, s1, s2, s3, s4, hw1, hl1, tbl15, pureVS, vals, deS, deV, deI, vv, g46, bools, hdb2, hbl, hx, c5, c10, c0, yi0, yi1, yi2, yi3, yi4, yi5, yi6, yi7, yi8, yi9, yj0, yj1, yj2, yj3, yj4, yj5, yj6, yj7, yj8, yj9, ya0, ya1, ya2, ya3, ya4, ya5, ya6, ya7, ya8, ya9, yb0, yb1, yb2, yb3, yb4, yb5, yb6, yb7, yb8, yb9, yr2, yr4, yba, hne, yia, yib, yja, yjb, ha, hb, hdv1, hdv2, hlv1, hlv2, hl01, hl02, hy, hj0]
            refine ⟨by omega, ⟨by omega, by omega⟩, ⟨j + 1, by omega, by simp [up, q0], by simp [up, q1], by simp [up, ii], by simp [up, hh, yi0, yi1, yi2, yi3, yi4, yi5, yi6, yi7, yi8, yi9, yj0, yj1, yj2, yj3, yj4, yj5, yj6, yj7, yj8, yj9, ya0, ya1, ya2, ya3, ya4, ya5, ya6, ya7, ya8, ya9, yb0, yb1, yb2, yb3, yb4, yb5, yb6, yb7, yb8, yb9, yr2, yr4, yba, hne, yia, yib, yja, yjb], by simp [up, hhb, yi0, yi1, yi2, yi3, yi4, yi5, yi6, yi7, yi8, yi9, yj0, yj1, yj2, yj3, yj4, yj5, yj6, yj7, yj8, yj9, ya0, ya1, ya2, ya3, ya4, ya5, ya6, ya7, ya8, ya9, yb0, yb1, yb2, yb3, yb4, yb5, yb6, yb7, yb8, yb9, yr2, yr4, yba, hne, yia, yib, yja, yjb], by simp; omega, (fun q hq => by
              simp only at hq
              simp only [up]
              repeat rw [if_neg (by omega)]
              exact hf q (by omega)), .inr ⟨a, u + 1, b, w + 1, by omega, by simp [up], by simp [up], ?_, ?_, by omega, by simp; omega, by omega, by simp; omega, hne⟩⟩, by omega⟩
            · rw [hn1]; simp [up, yi0, yi1, yi2, yi3, yi4, yi5, yi6, yi7, yi8, yi9, yj0, yj1, yj2, yj3, yj4, yj5, yj6, yj7, yj8, yj9, ya0, ya1, ya2, ya3, ya4, ya5, ya6, ya7, ya8, ya9, yb0, yb1, yb2, yb3, yb4, yb5, yb6, yb7, yb8, yb9, yr2, yr4, yba, hne, yia, yib, yja, yjb]
            · rw [hn2]; simp [up, yi0, yi1, yi2, yi3, yi4, yi5, yi6, yi7, yi8, yi9, yj0, yj1, yj2, yj3, yj4, yj5, yj6, yj7, yj8, yj9, ya0, ya1, ya2, ya3, ya4, ya5, ya6, ya7, ya8, ya9, yb0, yb1, yb2, yb3, yb4, yb5, yb6, yb7, yb8, yb9, yr2, yr4, yba, hne, yia, yib, yja, yjb]
      · obtain ⟨c5, c0⟩ := hop
        have hno : noAgg ⟨op, i, jj, ⟨vk, vn⟩⟩ = (⟨op, i, jj, ⟨vk, vn⟩⟩ : Stp) := by simp [noAgg, c5]
        rw [hno] at hst hfm
        rcases hab with ⟨rfl, q5, q6⟩ | ⟨a, u, b, w, hjp, q5, q6, ha, hb, hga, hla, hgb, hlb, hne⟩
        · have hr0 : firmAt l bl 0 = ([], []) := rfl
          rw [hr0] at hst hfm
          simp only at hst hfm
          obtain ⟨⟨xk, xn⟩, hx⟩ : ∃ x : V, askedV (foldG sumL) applyL [] ⟨op, i, jj, ⟨vk, vn⟩⟩ = x := ⟨_, rfl⟩
          rw [hx] at hst hfm
          have hwv : wOf [] ⟨xk, xn⟩ bl 0 ⟨op, i, jj, ⟨vk, vn⟩⟩ = blurV ⟨xk, xn⟩ bl 0 := by simp [wOf]
          have hfz := w_firm (sh := []) (bl := bl) (j := 0) (s := ⟨op, i, jj, ⟨vk, vn⟩⟩) hfm
          rw [hwv] at hst hfz
          obtain ⟨⟨zk, zn⟩, hz⟩ : ∃ z : V, blurV ⟨xk, xn⟩ bl 0 = z := ⟨_, rfl⟩
          rw [hz] at hst hfz
          have yi0 : ¬ id = n1 := by omega
          have yi1 : ¬ id = n1 + 1 := by omega
          have yi2 : ¬ id = n1 + 2 := by omega
          have yi3 : ¬ id = n1 + 3 := by omega
          have yi4 : ¬ id = n1 + 4 := by omega
          have yi5 : ¬ id = n1 + 5 := by omega
          have yi6 : ¬ id = n1 + 6 := by omega
          have yi7 : ¬ id = n1 + 7 := by omega
          have yi8 : ¬ id = n1 + 8 := by omega
          have yi9 : ¬ id = n1 + 9 := by omega
          have yi10 : ¬ id = n1 + 10 := by omega
          have yj0 : ¬ idb = n1 := by omega
          have yj1 : ¬ idb = n1 + 1 := by omega
          have yj2 : ¬ idb = n1 + 2 := by omega
          have yj3 : ¬ idb = n1 + 3 := by omega
          have yj4 : ¬ idb = n1 + 4 := by omega
          have yj5 : ¬ idb = n1 + 5 := by omega
          have yj6 : ¬ idb = n1 + 6 := by omega
          have yj7 : ¬ idb = n1 + 7 := by omega
          have yj8 : ¬ idb = n1 + 8 := by omega
          have yj9 : ¬ idb = n1 + 9 := by omega
          have yj10 : ¬ idb = n1 + 10 := by omega
          have hn1 : (firmAt l bl (0 + 1)).1.flatMap vcells = [.v (.bool xk), .v (.int .i64 xn)] := by rw [hst]; rfl
          have hn2 : (firmAt l bl (0 + 1)).2.flatMap vcells = [.v (.bool zk), .v (.int .i64 zn)] := by rw [hst]; rfl
          cases zk with
          | false =>
            simp [awp_skip, awp_label, awp_region, awp_seq, awp_if, awp_block, awp_ret, awp_exit, thenQ_n, thenQ_e, thenQ_r, blockQ_n, blockQ_e, blockQ_r, finQ_n, finQ_r, finQ_e, resAll, resVal, resOne, aops_nil, aops_cons, atl_nil, atl_cons, adraw_eq, adrawA_nil, adrawA_cons, isA, goOp, gev, Region.binds, Heap.le_refl, aop, aeval, gocall, heapOp, quietOp, ev, constAV, setd, yav, ystop, up, env0, cx_ti, cx_G, cx_pf, ti, globS, glob, pfL, lds, ldc, ldcs, sts, sth, sls, slc, wr, place, fillOk, fillC, repZ, binI, isDiv, optInt, optI, eksOk, eksEq, EK.ok, EK.eq, AV.i, AV.isI, AV.isInt, AV.b.eq_1, AV.b.eq_2, AV.isB.eq_1, AV.isB.eq_2, AV.str, AV.isStr, unc_same, unc_tt, unc_tf, unc_f, unc_any, unc_v, unc_gp, unc_p, unc_s, unc_g, unc_e, unc_t, unc_fn, unc_okb, unc_bb, unc_isB, unc_b, AV.bb.eq_1, AV.bb.eq_2, AV.okb.eq_1, AV.okb.eq_2, AV.okg.eq_1, AV.okg.eq_2, AV.gd.eq_1, AV.gd.eq_2, AV.cells, AV.one, AV.ones, AV.slen, AV.isS, AV.isPtr, AV.gl, AV.isG, Value.oneCell', Nat.add_assoc, q5, q6, q0, q1, q7, hh, hhb, ii, hc, s0, s1, s2, s3, s4, hw1, hl1, tbl15, pureVS, vals, deS, deV, deI, vv, g46, bools, hdb2, hbl, hx, c5, c0, yi0, yi1, yi2, yi3, yi4, yi5, yi6, yi7, yi8, yi9, yi10, yj0, yj1, yj2, yj3, yj4, yj5, yj6, yj7, yj8, yj9, yj10, hz]
            have hw2 : IntKind.i64.wrap 1 = 1 := rfl
            refine ⟨⟨1, by omega, by simp [up, q0], by simp [up, q1], by simp [up, ii, hw2], by simp [up, hh, yi0, yi1, yi2, yi3, yi4, yi5, yi6, yi7, yi8, yi9, yi10, yj0, yj1, yj2, yj3, yj4, yj5, yj6, yj7, yj8, yj9, yj10], by simp [up, hhb, yi0, yi1, yi2, yi3, yi4, yi5, yi6, yi7, yi8, yi9, yi10, yj0, yj1, yj2, yj3, yj4, yj5, yj6, yj7, yj8, yj9, yj10], by simp; omega, (fun q hq => by
              simp only at hq
              simp only [up]
              repeat rw [if_neg (by omega)]
              exact hf q (by omega)), .inr ⟨n1 + 8, 0, n1 + 10, 0, by omega, by simp [up], by simp [up], ?_, ?_, by omega, by simp, by omega, by simp, by omega⟩⟩, by omega⟩
            · rw [hn1]; simp [up]
            · rw [hn2]; simp [up]
          | true =>
            have hxz := hfz rfl
            simp only [V.mk.injEq] at hxz
            obtain ⟨rfl, rfl⟩ := hxz
            simp [awp_skip, awp_label, awp_region, awp_seq, awp_if, awp_block, awp_ret, awp_exit, thenQ_n, thenQ_e, thenQ_r, blockQ_n, blockQ_e, blockQ_r, finQ_n, finQ_r, finQ_e, resAll, resVal, resOne, aops_nil, aops_cons, atl_nil, atl_cons, adraw_eq, adrawA_nil, adrawA_cons, isA, goOp, gev, Region.binds, Heap.le_refl, aop, aeval, gocall, heapOp, quietOp, ev, constAV, setd, yav, ystop, up, env0, cx_ti, cx_G, cx_pf, ti, globS, glob, pfL, lds, ldc, ldcs, sts, sth, sls, slc, wr, place, fillOk, fillC, repZ, binI, isDiv, optInt, optI, eksOk, eksEq, EK.ok, EK.eq, AV.i, AV.isI, AV.isInt, AV.b.eq_1, AV.b.eq_2, AV.isB.eq_1, AV.isB.eq_2, AV.str, AV.isStr, unc_same, unc_tt, unc_tf, unc_f, unc_any, unc_v, unc_gp, unc_p, unc_s, unc_g, unc_e, unc_t, unc_fn, unc_okb, unc_bb, unc_isB, unc_b, AV.bb.eq_1, AV.bb.eq_2, AV.okb.eq_1, AV.okb.eq_2, AV.okg.eq_1, AV.okg.eq_2, AV.gd.eq_1, AV.gd.eq_2, AV.cells, AV.one, AV.ones, AV.slen, AV.isS, AV.isPtr, AV.gl, AV.isG, Value.oneCell', Nat.add_assoc, q5, q6, q0, q1, q7, hh, hhb, ii, hc, s0, s1, s2, s3, s4, hw1, hl1, tbl15, pureVS, vals, deS, deV, deI, vv, g46, bools, hdb2, hbl, hx, c5, c0, yi0, yi1, yi2, yi3, yi4, yi5, yi6, yi7, yi8, yi9, yi10, yj0, yj1, yj2, yj3, yj4, yj5, yj6, yj7, yj8, yj9, yj10, hz]
            have hw2 : IntKind.i64.wrap 1 = 1 := rfl
            refine ⟨⟨1, by omega, by simp [up, q0], by simp [up, q1], by simp [up, ii, hw2], by simp [up, hh, yi0, yi1, yi2, yi3, yi4, yi5, yi6, yi7, yi8, yi9, yi10, yj0, yj1, yj2, yj3, yj4, yj5, yj6, yj7, yj8, yj9, yj10], by simp [up, hhb, yi0, yi1, yi2, yi3, yi4, yi5, yi6, yi7, yi8, yi9, yi10, yj0, yj1, yj2, yj3, yj4, yj5, yj6, yj7, yj8, yj9, yj10], by simp; omega, (fun q hq => by
              simp only at hq
              simp only [up]
              repeat rw [if_neg (by omega)]
              exact hf q (by omega)), .inr ⟨n1 + 8, 0, n1 + 10, 0, by omega, by simp [up], by simp [up], ?_, ?_, by omega, by simp, by omega, by simp, by omega⟩⟩, by omega⟩
            · rw [hn1]; simp [up]
            · rw [hn2]; simp [up]
        · obtain ⟨⟨xk, xn⟩, hx⟩ : ∃ x : V, askedV (foldG sumL) applyL (firmAt l bl j).1 ⟨op, i, jj, ⟨vk, vn⟩⟩ = x := ⟨_, rfl⟩
          rw [hx] at hst hfm
          obtain ⟨⟨yk, yn⟩, hy⟩ : ∃ y : V, askedV (foldG sumL) applyL (firmAt l bl j).2 ⟨op, i, jj, ⟨vk, vn⟩⟩ = y := ⟨_, rfl⟩
          rw [hy] at hst hfm
          have hsn : ¬ (firmAt l bl j).1 = [] := fun e => by
            have : j = 0 := by rw [← hl01, e]; rfl
            omega
          have hwv : wOf (firmAt l bl j).1 ⟨yk, yn⟩ bl j ⟨op, i, jj, ⟨vk, vn⟩⟩ = ⟨yk, yn⟩ := by simp [wOf, c0, hsn]
          rw [hwv] at hst
          have hfz := hfm
          have yi0 : ¬ id = n1 := by omega
          have yi1 : ¬ id = n1 + 1 := by omega
          have yi2 : ¬ id = n1 + 2 := by omega
          have yi3 : ¬ id = n1 + 3 := by omega
          have yi4 : ¬ id = n1 + 4 := by omega
          have yi5 : ¬ id = n1 + 5 := by omega
          have yi6 : ¬ id = n1 + 6 := by omega
          have yi7 : ¬ id = n1 + 7 := by omega
          have yi8 : ¬ id = n1 + 8 := by omega
          have yi9 : ¬ id = n1 + 9 := by omega
          have yj0 : ¬ idb = n1 := by omega
          have yj1 : ¬ idb = n1 + 1 := by omega
          have yj2 : ¬ idb = n1 + 2 := by omega
          have yj3 : ¬ idb = n1 + 3 := by omega
          have yj4 : ¬ idb = n1 + 4 := by omega
          have yj5 : ¬ idb = n1 + 5 := by omega
          have yj6 : ¬ idb = n1 + 6 := by omega
          have yj7 : ¬ idb = n1 + 7 := by omega
          have yj8 : ¬ idb = n1 + 8 := by omega
          have yj9 : ¬ idb = n1 + 9 := by omega
          have ya0 : ¬ a = n1 := by omega
          have ya1 : ¬ a = n1 + 1 := by omega
          have ya2 : ¬ a = n1 + 2 := by omega
          have ya3 : ¬ a = n1 + 3 := by omega
          have ya4 : ¬ a = n1 + 4 := by omega
          have ya5 : ¬ a = n1 + 5 := by omega
          have ya6 : ¬ a = n1 + 6 := by omega
          have ya7 : ¬ a = n1 + 7 := by omega
          have ya8 : ¬ a = n1 + 8 := by omega
          have ya9 : ¬ a = n1 + 9 := by omega
          have yb0 : ¬ b = n1 := by omega
          have yb1 : ¬ b = n1 + 1 := by omega
          have yb2 : ¬ b = n1 + 2 := by omega
          have yb3 : ¬ b = n1 + 3 := by omega
          have yb4 : ¬ b = n1 + 4 := by omega
          have yb5 : ¬ b = n1 + 5 := by omega
          have yb6 : ¬ b = n1 + 6 := by omega
          have yb7 : ¬ b = n1 + 7 := by omega
          have yb8 : ¬ b = n1 + 8 := by omega
          have yb9 : ¬ b = n1 + 9 := by omega
          have yr2 : ¬ n1 + 2 = a := by omega
          have yr4 : ¬ n1 + 4 = a := by omega
          have yba : ¬ b = a := fun e => hne e.symm
          have yia : ¬ id = a := by omega
          have yib : ¬ id = b := by omega
          have yja : ¬ idb = a := by omega
          have yjb : ¬ idb = b := by omega
          have hlv1 := vc_len (firmAt l bl j).1
          have hlv2 := vc_len (firmAt l bl j).2
          have hdv1 : deVc (List.take (j * 2) ((firmAt l bl j).1.flatMap vcells)) = some (firmAt l bl j).1 := by rw [List.take_of_length_le (by omega), deVc_in]
          have hdv2 : deVc (List.take (j * 2) ((firmAt l bl j).2.flatMap vcells)) = some (firmAt l bl j).2 := by rw [List.take_of_length_le (by omega), deVc_in]
          have hn1 : (firmAt l bl (j + 1)).1.flatMap vcells = (firmAt l bl j).1.flatMap vcells ++ [.v (.bool xk), .v (.int .i64 xn)] := by rw [hst]; simp [vcells]
          have hn2 : (firmAt l bl (j + 1)).2.flatMap vcells = (firmAt l bl j).2.flatMap vcells ++ [.v (.bool yk), .v (.int .i64 yn)] := by rw [hst]; simp [vcells]
          generalize (firmAt l bl j).1.flatMap vcells = c1 at *
          generalize (firmAt l bl j).2.flatMap vcells = c2 at *
          rw [hl01] at hlv1
          rw [hl02] at hlv2
          have hj0 : ¬ j = 0 := by omega
          cases yk with
          | false =>
            simp [awp_skip, awp_label, awp_region, awp_seq, awp_if, awp_block, awp_ret, awp_exit, thenQ_n, thenQ_e, thenQ_r, blockQ_n, blockQ_e, blockQ_r, finQ_n, finQ_r, finQ_e, resAll, resVal, resOne, aops_nil, aops_cons, atl_nil, atl_cons, adraw_eq, adrawA_nil, adrawA_cons, isA, goOp, gev, Region.binds, Heap.le_refl, aop, aeval, gocall, heapOp, quietOp, ev, constAV, setd, yav, ystop, up, env0, cx_ti, cx_G, cx_pf, ti, globS, glob, pfL, lds, ldc, ldcs, sts, sth, sls, slc, wr, place, fillOk, fillC, repZ, binI, isDiv, optInt, optI, eksOk, eksEq, EK.ok, EK.eq, AV.i, AV.isI, AV.isInt, AV.b.eq_1, AV.b.eq_2, AV.isB.eq_1, AV.isB.eq_2, AV.str, AV.isStr, unc_same, unc_tt, unc_tf, unc_f, unc_any, unc_v, unc_gp, unc_p, unc_s, unc_g, unc_e, unc_t, unc_fn, unc_okb, unc_bb, unc_isB, unc_b, AV.bb.eq_1, AV.bb.eq_2, AV.okb.eq_1, AV.okb.eq_2, AV.okg.eq_1, AV.okg.eq_2, AV.gd.eq_1, AV.gd.eq_2, AV.cells, AV.one, AV.ones, AV.slen, AV.isS, AV.isPtr, AV.gl, AV.isG, Value.oneCell', Nat.add_assoc, q5, q6, q0, q1, q7, hh, hhb, ii, hc, s0, s1, s2, s3, s4, hw1, hl1, tbl15, pureVS, vals, deS, deV, deI, vv, g46, bools, hdb2, hbl, hx, c5, c0, yi0, yi1, yi2, yi3, yi4, yi5, yi6, yi7, yi8, yi9, yj0, yj1, yj2, yj3, yj4, yj5, yj6, yj7, yj8, yj9, ya0, ya1, ya2, ya3, ya4, ya5, ya6, ya7, ya8, ya9, yb0, yb1, yb2, yb3, yb4, yb5, yb6, yb7, yb8, yb9, yr2, yr4, yba, hne, yia, yib, yja, yjb, ha, hb, hdv1, hdv2, hlv1, hlv2, hl01, hl02, hy, hj0]
            refine ⟨by omega, ⟨by omega, by omega⟩, ⟨j + 1, by omega, by simp [up, q0], by simp [up, q1], by simp [up, ii], by simp [up, hh, yi0, yi1, yi2, yi3, yi4, yi5, yi6, yi7, yi8, yi9, yj0, yj1, yj2, yj3, yj4, yj5, yj6, yj7, yj8, yj9, ya0, ya1, ya2, ya3, ya4, ya5, ya6, ya7, ya8, ya9, yb0, yb1, yb2, yb3, yb4, yb5, yb6, yb7, yb8, yb9, yr2, yr4, yba, hne, yia, yib, yja, yjb], by simp [up, hhb, yi0, yi1, yi2, yi3, yi4, yi5, yi6, yi7, yi8, yi9, yj0, yj1, yj2, yj3, yj4, yj5, yj6, yj7, yj8, yj9, ya0, ya1, ya2, ya3, ya4, ya5, ya6, ya7, ya8, ya9, yb0, yb1, yb2, yb3, yb4, yb5, yb6, yb7, yb8, yb9, yr2, yr4, yba, hne, yia, yib, yja, yjb], by simp; omega, (fun q hq => by
              simp only at hq
              simp only [up]
              repeat rw [if_neg (by omega)]
              exact hf q (by omega)), .inr ⟨a, u + 1, b, w + 1, by omega, by simp [up], by simp [up], ?_, ?_, by omega, by simp; omega, by omega, by simp; omega, hne⟩⟩, by omega⟩
            · rw [hn1]; simp [up, yi0, yi1, yi2, yi3, yi4, yi5, yi6, yi7, yi8, yi9, yj0, yj1, yj2, yj3, yj4, yj5, yj6, yj7, yj8, yj9, ya0, ya1, ya2, ya3, ya4, ya5, ya6, ya7, ya8, ya9, yb0, yb1, yb2, yb3, yb4, yb5, yb6, yb7, yb8, yb9, yr2, yr4, yba, hne, yia, yib, yja, yjb]
            · rw [hn2]; simp [up, yi0, yi1, yi2, yi3, yi4, yi5, yi6, yi7, yi8, yi9, yj0, yj1, yj2, yj3, yj4, yj5, yj6, yj7, yj8, yj9, ya0, ya1, ya2, ya3, ya4, ya5, ya6, ya7, ya8, ya9, yb0, yb1, yb2, yb3, yb4, yb5, yb6, yb7, yb8, yb9, yr2, yr4, yba, hne, yia, yib, yja, yjb]
          | true =>
            have hxz := hfz rfl
            simp only [V.mk.injEq] at hxz
            obtain ⟨rfl, rfl⟩ := hxz
            simp [awp_skip, awp_label, awp_region, awp_seq, awp_if, awp_block, awp_ret, awp_exit, thenQ_n, thenQ_e, thenQ_r, blockQ_n, blockQ_e, blockQ_r, finQ_n, finQ_r, finQ_e, resAll, resVal, resOne, aops_nil, aops_cons, atl_nil, atl_cons, adraw_eq, adrawA_nil, adrawA_cons, isA, goOp, gev, Region.binds, Heap.le_refl, aop, aeval, gocall, heapOp, quietOp, ev, constAV, setd, yav, ystop, up, env0, cx_ti, cx_G, cx_pf, ti, globS, glob, pfL, lds, ldc, ldcs, sts, sth, sls, slc, wr, place, fillOk, fillC, repZ, binI, isDiv, optInt, optI, eksOk, eksEq, EK.ok, EK.eq, AV.i, AV.isI, AV.isInt, AV.b.eq_1, AV.b.eq_2, AV.isB.eq_1, AV.isB.eq_2, AV.str, AV.isStr, unc_same, unc_tt, unc_tf, unc_f, unc_any, unc_v, unc_gp, unc_p, unc_s, unc_g, unc_e, unc_t, unc_fn, unc_okb, unc_bb, unc_isB, unc_b, AV.bb.eq_1, AV.bb.eq_2, AV.okb.eq_1, AV.okb.eq_2, AV.okg.eq_1, AV.okg.eq_2, AV.gd.eq_1, AV.gd.eq_2, AV.cells, AV.one, AV.ones, AV.slen, AV.isS, AV.isPtr, AV.gl, AV.isG, Value.oneCell', Nat.add_assoc, q5, q6, q0, q1, q7, hh, hhb, ii, hc, s0, s1, s2, s3, s4, hw1, hl1, tbl15, pureVS, vals, deS, deV, deI, vv, g46, bools, hdb2, hbl, hx, c5, c0, yi0, yi1, yi2, yi3, yi4, yi5, yi6, yi7, yi8, yi9, yj0, yj1, yj2, yj3, yj4, yj5, yj6, yj7, yj8, yj9, ya0, ya1, ya2, ya3, ya4, ya5, ya6, ya7, ya8, ya9, yb0, yb1, yb2, yb3, yb4, yb5, yb6, yb7, yb8, yb9, yr2, yr4, yba, hne, yia, yib, yja, yjb, ha, hb, hdv1, hdv2, hlv1, hlv2, hl01, hl02, hy, hj0]
            refine ⟨by omega, ⟨by omega, by omega⟩, ⟨j + 1, by omega, by simp [up, q0], by simp [up, q1], by simp [up, ii], by simp [up, hh, yi0, yi1, yi2, yi3, yi4, yi5, yi6, yi7, yi8, yi9, yj0, yj1, yj2, yj3, yj4, yj5, yj6, yj7, yj8, yj9, ya0, ya1, ya2, ya3, ya4, ya5, ya6, ya7, ya8, ya9, yb0, yb1, yb2, yb3, yb4, yb5, yb6, yb7, yb8, yb9, yr2, yr4, yba, hne, yia, yib, yja, yjb], by simp [up, hhb, yi0, yi1, yi2, yi3, yi4, yi5, yi6, yi7, yi8, yi9, yj0, yj1, yj2, yj3, yj4, yj5, yj6, yj7, yj8, yj9, ya0, ya1, ya2, ya3, ya4, ya5, ya6, ya7, ya8, ya9, yb0, yb1, yb2, yb3, yb4, yb5, yb6, yb7, yb8, yb9, yr2, yr4, yba, hne, yia, yib, yja, yjb], by simp; omega, (fun q hq => by
              simp only at hq
              simp only [up]
              repeat rw [if_neg (by omega)]
              exact hf q (by omega)), .inr ⟨a, u + 1, b, w + 1, by omega, by simp [up], by simp [up], ?_, ?_, by omega, by simp; omega, by omega, by simp; omega, hne⟩⟩, by omega⟩
            · rw [hn1]; simp [up, yi0, yi1, yi2, yi3, yi4, yi5, yi6, yi7, yi8, yi9, yj0, yj1, yj2, yj3, yj4, yj5, yj6, yj7, yj8, yj9, ya0, ya1, ya2, ya3, ya4, ya5, ya6, ya7, ya8, ya9, yb0, yb1, yb2, yb3, yb4, yb5, yb6, yb7, yb8, yb9, yr2, yr4, yba, hne, yia, yib, yja, yjb]
            · rw [hn2]; simp [up, yi0, yi1, yi2, yi3, yi4, yi5, yi6, yi7, yi8, yi9, yj0, yj1, yj2, yj3, yj4, yj5, yj6, yj7, yj8, yj9, ya0, ya1, ya2, ya3, ya4, ya5, ya6, ya7, ya8, ya9, yb0, yb1, yb2, yb3, yb4, yb5, yb6, yb7, yb8, yb9, yr2, yr4, yba, hne, yia, yib, yja, yjb]
    · simp [awp_skip, awp_label, awp_region, awp_seq, awp_if, awp_block, awp_ret, awp_exit, thenQ_n, thenQ_e, thenQ_r, blockQ_n, blockQ_e, blockQ_r, finQ_n, finQ_r, finQ_e, resAll, resVal, resOne, aops_nil, aops_cons, atl_nil, atl_cons, adraw_eq, adrawA_nil, adrawA_cons, isA, goOp, gev, Region.binds, Heap.le_refl, aop, aeval, gocall, heapOp, quietOp, ev, constAV, setd, yav, ystop, up, env0, cx_ti, cx_G, cx_pf, ti, globS, glob, pfL, lds, ldc, ldcs, sts, sth, sls, slc, wr, place, fillOk, fillC, repZ, binI, isDiv, optInt, optI, eksOk, eksEq, EK.ok, EK.eq, AV.i, AV.isI, AV.isInt, AV.b.eq_1, AV.b.eq_2, AV.isB.eq_1, AV.isB.eq_2, AV.str, AV.isStr, unc_same, unc_tt, unc_tf, unc_f, unc_any, unc_v, unc_gp, unc_p, unc_s, unc_g, unc_e, unc_t, unc_fn, unc_okb, unc_bb, unc_isB, unc_b, AV.bb.eq_1, AV.bb.eq_2, AV.okb.eq_1, AV.okb.eq_2, AV.okg.eq_1, AV.okg.eq_2, AV.gd.eq_1, AV.gd.eq_2, AV.cells, AV.one, AV.ones, AV.slen, AV.isS, AV.isPtr, AV.gl, AV.isG, Value.oneCell', Nat.add_assoc, q0, q7, ii, hc, bv]
  exact key _ rfl rfl
end Go.Proofs.YtnodenojdjlbnaaDoor
