/-
  NumRuns: the law's own code.
-/
import Derived.Test.YtnodenojdjlbnaaDoorMf
set_option linter.unusedSimpArgs false
namespace Go.Proofs.YtnodenojdjlbnaaDoor
open Go Go.Eng
def tbl16 : List (FuncId × (List AV → Heap → PRes)) := [(30, g30), (45, pureVS (askedV (foldG sumL) applyL)), (47, pureVS (askedV (foldG rsumL) rapplyL))]
theorem tbl16_ok : TbOk [0, 1, 2, 3, 4, 5] tbl16 := tb_cons p30 (tb_cons p45 (tb_cons p47 tb_nil))
def scells (s : Stp) : List AV := [ii s.op, ii s.i, ii s.j, .v (.bool s.v.k), .v (.int .i64 s.v.n)]
theorem sc_len (l : List Stp) : (l.flatMap scells).length = l.length * 5 := by
  induction l with
  | nil => rfl
  | cons v l ih => simp only [List.flatMap_cons, List.length_append, ih, scells, List.length_cons, List.length_nil]; omega
theorem sc_get : ∀ {l : List Stp} {i : Nat} (h : i < l.length), (l.flatMap scells)[i * 5]? = some (.v (.int .i64 l[i].op)) ∧ (l.flatMap scells)[i * 5 + 1]? = some (.v (.int .i64 l[i].i)) ∧ (l.flatMap scells)[i * 5 + 2]? = some (.v (.int .i64 l[i].j)) ∧ (l.flatMap scells)[i * 5 + 3]? = some (.v (.bool l[i].v.k)) ∧ (l.flatMap scells)[i * 5 + 4]? = some (.v (.int .i64 l[i].v.n))
  | [], _, h => by simp at h
  | v :: l, 0, _ => by simp [scells, ii]
  | v :: l, i + 1, h => by
    have ih := sc_get (l := l) (i := i) (by simpa using h)
    rw [show (i + 1) * 5 = i * 5 + 1 + 1 + 1 + 1 + 1 by omega]
    simp only [List.flatMap_cons, scells, List.cons_append, List.nil_append, List.getElem?_cons_succ, List.getElem_cons_succ]
    exact ih
/-- The values that the first j steps come to. -/
def resAt (l : List Stp) : Nat → List V
  | 0 => []
  | j + 1 => resAt l j ++ (match l[j]? with
    | some s => [askedV (foldG sumL) applyL (resAt l j) s]
    | none => [])
theorem res_len {l : List Stp} : ∀ j, j ≤ l.length → (resAt l j).length = j
  | 0, _ => rfl
  | j + 1, h => by
    have h1 : j < l.length := by omega
    simp only [resAt, List.getElem?_eq_getElem h1, List.length_append, List.length_cons, List.length_nil]
    rw [res_len j (by omega)]
theorem res_rng {l : List Stp} (hl : ∀ s ∈ l, Rng s.v.n) (hb : l.length ≤ 2147483647) : ∀ j, j ≤ l.length → ∀ v ∈ resAt l j, Rng v.n
  | 0, _ => by simp [resAt]
  | j + 1, h => by
    have ih := res_rng hl hb j (by omega)
    intro v hv
    simp only [resAt, List.getElem?_eq_getElem (show j < l.length by omega)] at hv
    rcases List.mem_append.1 hv with hv | hv
    · exact ih v hv
    · simp only [List.mem_singleton] at hv
      rw [hv]
      exact asked_rng ih (by rw [res_len j (by omega)]; omega) (hl _ (List.getElem_mem _))
def StpOk (s : Stp) : Prop := Rng s.op ∧ Rng s.i ∧ Rng s.j ∧ Rng s.v.n
def two : Prop := addL ⟨true, 2⟩ ⟨true, 3⟩ = ⟨true, 5⟩
theorem two_ok : two := by unfold two; decide +kernel
set_option maxRecDepth 100000 in
set_option maxHeartbeats 4000000 in
theorem law16 (l : List Stp) (hok : ∀ s ∈ l, StpOk s) (hr : l.length * 40 ≤ reachBytes) (id : Nat) (h : Heap) (n : Nat) (hk : h id = some ⟨l.flatMap scells, 0, false, 5⟩) (hn : ∀ i, n ≤ i → h i = none) :
    awp (cx [0, 1, 2, 3, 4, 5] (pfL tbl16)) (Tryd.f16.body.getD .skip) (finQ (cx [0, 1, 2, 3, 4, 5] (pfL tbl16)) Tryd.f16 fun z _ _ => z = bv true) ⟨env0 [.s id 0 0 l.length], roH h, n⟩ := by
  have hrl : ∀ s ∈ l, Rng s.v.n := fun s hs => (hok s hs).2.2.2
  unfold reachBytes at hr
  have hro := ro_at hk
  have hid : id < n := by
    by_cases hid : id < n
    · exact hid
    · rw [hn id (by omega)] at hk; cases hk
  have h25 := two_ok
  unfold two at h25
  have hsg := fun {i : Nat} (hi : i < l.length) => sc_get (l := l) hi
  have hsl := sc_len l
  generalize l.flatMap scells = cs at *
  have z0 : ¬ id = n := by omega
  have key : ∀ e : Nat → AV, e 0 = .s id 0 0 l.length → awp (cx [0, 1, 2, 3, 4, 5] (pfL tbl16)) (Tryd.f16.body.getD .skip) (finQ (cx [0, 1, 2, 3, 4, 5] (pfL tbl16)) Tryd.f16 fun z _ _ => z = bv true) ⟨e, roH h, n⟩ := fun e he0 => by
    by_cases hlen : l.length ≤ 2147483647
    · have hlen' : ¬ (2147483647 < (l.length : Int)) := by omega
      simp [awp_skip, awp_label, awp_region, awp_seq, awp_if, awp_block, awp_ret, awp_exit, thenQ_n, thenQ_e, thenQ_r, blockQ_n, blockQ_e, blockQ_r, finQ_n, finQ_r, finQ_e, resAll, resVal, resOne, aops_nil, aops_cons, atl_nil, atl_cons, adraw_eq, adrawA_nil, adrawA_cons, isA, goOp, gev, Region.binds, Heap.le_refl, aop, aeval, gocall, heapOp, quietOp, ev, constAV, setd, yav, ystop, up, env0, cx_ti, cx_G, cx_pf, ti, globS, glob, pfL, lds, ldc, ldcs, sts, sth, sls, slc, wr, place, fillOk, fillC, repZ, binI, isDiv, optInt, optI, eksOk, eksEq, EK.ok, EK.eq, AV.i, AV.isI, AV.isInt, AV.b.eq_1, AV.b.eq_2, AV.isB.eq_1, AV.isB.eq_2, AV.str, AV.isStr, unc_same, unc_tt, unc_tf, unc_f, unc_any, unc_v, unc_gp, unc_p, unc_s, unc_g, unc_e, unc_t, unc_fn, unc_okb, unc_bb, unc_isB, unc_b, AV.bb.eq_1, AV.bb.eq_2, AV.okb.eq_1, AV.okb.eq_2, AV.okg.eq_1, AV.okg.eq_2, AV.gd.eq_1, AV.gd.eq_2, AV.cells, AV.one, AV.ones, AV.slen, AV.isS, AV.isPtr, AV.gl, AV.isG, Value.oneCell', Nat.add_assoc, Tryd.f16, he0, ii, vv, bv, tbl16, g30, pure2, deV, h25, hlen', z0, hro]
      refine awp_loop (fun s => ∃ j, j ≤ l.length ∧ s.e 0 = .s id 0 0 l.length ∧ s.e 6 = ii j ∧ s.h id = some ⟨cs, 0, false, 5⟩ ∧ n ≤ s.n ∧ (∀ q, s.n ≤ q → s.h q = none) ∧
        ((j = 0 ∧ s.e 4 = .v (.slice none 0 0) ∧ s.e 5 = .v (.slice none 0 0)) ∨ ∃ a u b w, s.e 4 = .s a u 0 j ∧ s.e 5 = .s b w 0 j ∧ s.h a = some ⟨(resAt l j).flatMap vcells, u, true, 2⟩ ∧ s.h b = some ⟨(resAt l j).flatMap vcells, w, true, 2⟩ ∧ n ≤ a ∧ a < s.n ∧ n ≤ b ∧ b < s.n ∧ a ≠ b)) (fun s => l.length - (s.e 6).i.toNat) ⟨0, Nat.zero_le _, by simp [up, he0], by simp [up, ii], by simp [up, z0, hro], by simp, ?_, by simp [up]⟩ ?_
      · intro q hq
        simp only at hq
        simp only [up]
        rw [if_neg (by omega), if_neg (by omega)]
        simp [roH, hn q (by omega)]
      rintro e1 h1 n1 ⟨j, hj, q0, q6, hh, hnn, hf, hab⟩
      simp only [] at q0 q6 hh hnn hf hab
      by_cases hc : j < l.length
      · obtain ⟨s0, s1, s2, s3, s4⟩ := hsg hc
        have hw1 := wrap_nat (j := j) (by unfold big; omega)
        have hl1 : j * 5 + 5 ≤ cs.length := by omega
        have hst : resAt l (j + 1) = resAt l j ++ [askedV (foldG sumL) applyL (resAt l j) l[j]] := by simp only [resAt, List.getElem?_eq_getElem hc]
        have hrl' := res_len (l := l) j hj
        have hat := asked_told (s := l[j]) (res_rng hrl hlen j hj) (by rw [hrl']; omega)
        have hlv := vc_len (resAt l j)
        have hdv : deVc (List.take (j * 2) ((resAt l j).flatMap vcells)) = some (resAt l j) := by rw [List.take_of_length_le (by omega), deVc_in]
        have hf0 := hf n1 (Nat.le_refl _)
        have hfr : ∀ q, h1 q ≠ none → q < n1 := fun q hq => by
          by_cases hlt : q < n1
          · exact hlt
          · exact absurd (hf q (by omega)) hq
        have y0 : id < n1 := hfr id (by rw [hh]; simp)
        have y1 : ¬ id = n1 := by omega
        have y2 : ¬ id = n1 + 2 := by omega
        have y4 : ¬ id = n1 + 4 := by omega
        have y6 : ¬ id = n1 + 6 := by omega
        obtain ⟨⟨op, i, jj, ⟨vk, vn⟩⟩, hsj⟩ : ∃ s, l[j] = s := ⟨_, rfl⟩
        rw [hsj] at s0 s1 s2 s3 s4 hst hat
        simp only at s0 s1 s2 s3 s4
        obtain ⟨x, hx⟩ : ∃ x, askedV (foldG sumL) applyL (resAt l j) ⟨op, i, jj, ⟨vk, vn⟩⟩ = x := ⟨_, rfl⟩
        rw [hx] at hst hat
        have hnew : (resAt l (j + 1)).flatMap vcells = (resAt l j).flatMap vcells ++ [.v (.bool x.k), .v (.int .i64 x.n)] := by rw [hst]; simp [vcells]
        rcases hab with ⟨rfl, q4, q5⟩ | ⟨a, u, b, w, q4, q5, ha, hb, hga, hla, hgb, hlb, hne⟩
        · have hr0 : resAt l 0 = [] := rfl
          rw [hr0] at hx hat
          have y5 : ¬ id = n1 + 5 := by omega
          have y7 : ¬ id = n1 + 7 := by omega
          simp [awp_skip, awp_label, awp_region, awp_seq, awp_if, awp_block, awp_ret, awp_exit, thenQ_n, thenQ_e, thenQ_r, blockQ_n, blockQ_e, blockQ_r, finQ_n, finQ_r, finQ_e, resAll, resVal, resOne, aops_nil, aops_cons, atl_nil, atl_cons, adraw_eq, adrawA_nil, adrawA_cons, isA, goOp, gev, Region.binds, Heap.le_refl, aop, aeval, gocall, heapOp, quietOp, ev, constAV, setd, yav, ystop, up, env0, cx_ti, cx_G, cx_pf, ti, globS, glob, pfL, lds, ldc, ldcs, sts, sth, sls, slc, wr, place, fillOk, fillC, repZ, binI, isDiv, optInt, optI, eksOk, eksEq, EK.ok, EK.eq, AV.i, AV.isI, AV.isInt, AV.b.eq_1, AV.b.eq_2, AV.isB.eq_1, AV.isB.eq_2, AV.str, AV.isStr, unc_same, unc_tt, unc_tf, unc_f, unc_any, unc_v, unc_gp, unc_p, unc_s, unc_g, unc_e, unc_t, unc_fn, unc_okb, unc_bb, unc_isB, unc_b, AV.bb.eq_1, AV.bb.eq_2, AV.okb.eq_1, AV.okb.eq_2, AV.okg.eq_1, AV.okg.eq_2, AV.gd.eq_1, AV.gd.eq_2, AV.cells, AV.one, AV.ones, AV.slen, AV.isS, AV.isPtr, AV.gl, AV.isG, Value.oneCell', Nat.add_assoc, q0, q4, q5, q6, hh, ii, hc, s0, s1, s2, s3, s4, hw1, hl1, tbl16, pureVS, vals, deS, vv, y1, y2, y4, y5, y6, y7, hx, hat]
          refine ⟨⟨1, by omega, by simpa using hw1, by omega, fun q hq => ?_, ?_⟩, ?_⟩
          · repeat rw [if_neg (by omega)]
            exact hf q (by omega)
          · refine ⟨n1 + 5, 0, ⟨rfl, rfl, rfl⟩, n1 + 7, 0, ⟨rfl, rfl, rfl⟩, ?_, ?_, by omega, by omega, by omega, by omega, by omega⟩
            · rw [hnew]; simp [hr0]
            · rw [hnew]; simp [hr0]
          · have : IntKind.i64.wrap 1 = 1 := rfl
            omega
        · have ya : ¬ a = n1 := by omega
          have yb : ¬ b = n1 := by omega
          have ya2 : ¬ a = n1 + 2 := by omega
          have yb2 : ¬ b = n1 + 2 := by omega
          have ya4 : ¬ a = n1 + 4 := by omega
          have yb4 : ¬ b = n1 + 4 := by omega
          have ya6 : ¬ a = n1 + 6 := by omega
          have yb6 : ¬ b = n1 + 6 := by omega
          have ya2' : ¬ n1 + 2 = a := by omega
          have yba : ¬ b = a := fun e => hne e.symm
          have yi : ¬ id = a := by omega
          have yi' : ¬ id = b := by omega
          generalize (resAt l j).flatMap vcells = cv at *
          rw [hrl'] at hlv
          simp [awp_skip, awp_label, awp_region, awp_seq, awp_if, awp_block, awp_ret, awp_exit, thenQ_n, thenQ_e, thenQ_r, blockQ_n, blockQ_e, blockQ_r, finQ_n, finQ_r, finQ_e, resAll, resVal, resOne, aops_nil, aops_cons, atl_nil, atl_cons, adraw_eq, adrawA_nil, adrawA_cons, isA, goOp, gev, Region.binds, Heap.le_refl, aop, aeval, gocall, heapOp, quietOp, ev, constAV, setd, yav, ystop, up, env0, cx_ti, cx_G, cx_pf, ti, globS, glob, pfL, lds, ldc, ldcs, sts, sth, sls, slc, wr, place, fillOk, fillC, repZ, binI, isDiv, optInt, optI, eksOk, eksEq, EK.ok, EK.eq, AV.i, AV.isI, AV.isInt, AV.b.eq_1, AV.b.eq_2, AV.isB.eq_1, AV.isB.eq_2, AV.str, AV.isStr, unc_same, unc_tt, unc_tf, unc_f, unc_any, unc_v, unc_gp, unc_p, unc_s, unc_g, unc_e, unc_t, unc_fn, unc_okb, unc_bb, unc_isB, unc_b, AV.bb.eq_1, AV.bb.eq_2, AV.okb.eq_1, AV.okb.eq_2, AV.okg.eq_1, AV.okg.eq_2, AV.gd.eq_1, AV.gd.eq_2, AV.cells, AV.one, AV.ones, AV.slen, AV.isS, AV.isPtr, AV.gl, AV.isG, Value.oneCell', Nat.add_assoc, q0, q4, q5, q6, hh, ii, hc, s0, s1, s2, s3, s4, hw1, hl1, tbl16, pureVS, vals, deS, vv, ha, hb, ya, yb, y1, ya2, ya2', ya4, ya6, yb2, yb4, yb6, y2, y4, y6, yba, hne, yi, yi', hdv, hlv, hrl', hat, hx]
          refine ⟨by omega, ⟨by omega, by omega⟩, ⟨j + 1, by omega, by omega, by omega, fun q hq => ?_, ?_⟩, by omega⟩
          · repeat rw [if_neg (by omega)]
            exact hf q (by omega)
          · refine ⟨a, u + 1, ⟨rfl, rfl, rfl⟩, b, w + 1, ⟨rfl, rfl, rfl⟩, ?_, ?_, by omega, by omega, by omega, by omega, hne⟩
            · rw [hnew]; simp [hne, ya6]
            · rw [hnew]; simp
      · simp [awp_skip, awp_label, awp_region, awp_seq, awp_if, awp_block, awp_ret, awp_exit, thenQ_n, thenQ_e, thenQ_r, blockQ_n, blockQ_e, blockQ_r, finQ_n, finQ_r, finQ_e, resAll, resVal, resOne, aops_nil, aops_cons, atl_nil, atl_cons, adraw_eq, adrawA_nil, adrawA_cons, isA, goOp, gev, Region.binds, Heap.le_refl, aop, aeval, gocall, heapOp, quietOp, ev, constAV, setd, yav, ystop, up, env0, cx_ti, cx_G, cx_pf, ti, globS, glob, pfL, lds, ldc, ldcs, sts, sth, sls, slc, wr, place, fillOk, fillC, repZ, binI, isDiv, optInt, optI, eksOk, eksEq, EK.ok, EK.eq, AV.i, AV.isI, AV.isInt, AV.b.eq_1, AV.b.eq_2, AV.isB.eq_1, AV.isB.eq_2, AV.str, AV.isStr, unc_same, unc_tt, unc_tf, unc_f, unc_any, unc_v, unc_gp, unc_p, unc_s, unc_g, unc_e, unc_t, unc_fn, unc_okb, unc_bb, unc_isB, unc_b, AV.bb.eq_1, AV.bb.eq_2, AV.okb.eq_1, AV.okb.eq_2, AV.okg.eq_1, AV.okg.eq_2, AV.gd.eq_1, AV.gd.eq_2, AV.cells, AV.one, AV.ones, AV.slen, AV.isS, AV.isPtr, AV.gl, AV.isG, Value.oneCell', Nat.add_assoc, q0, q6, ii, hc, bv]
    · have hlen' : (2147483647 < (l.length : Int)) := by omega
      simp [awp_skip, awp_label, awp_region, awp_seq, awp_if, awp_block, awp_ret, awp_exit, thenQ_n, thenQ_e, thenQ_r, blockQ_n, blockQ_e, blockQ_r, finQ_n, finQ_r, finQ_e, resAll, resVal, resOne, aops_nil, aops_cons, atl_nil, atl_cons, adraw_eq, adrawA_nil, adrawA_cons, isA, goOp, gev, Region.binds, Heap.le_refl, aop, aeval, gocall, heapOp, quietOp, ev, constAV, setd, yav, ystop, up, env0, cx_ti, cx_G, cx_pf, ti, globS, glob, pfL, lds, ldc, ldcs, sts, sth, sls, slc, wr, place, fillOk, fillC, repZ, binI, isDiv, optInt, optI, eksOk, eksEq, EK.ok, EK.eq, AV.i, AV.isI, AV.isInt, AV.b.eq_1, AV.b.eq_2, AV.isB.eq_1, AV.isB.eq_2, AV.str, AV.isStr, unc_same, unc_tt, unc_tf, unc_f, unc_any, unc_v, unc_gp, unc_p, unc_s, unc_g, unc_e, unc_t, unc_fn, unc_okb, unc_bb, unc_isB, unc_b, AV.bb.eq_1, AV.bb.eq_2, AV.okb.eq_1, AV.okb.eq_2, AV.okg.eq_1, AV.okg.eq_2, AV.gd.eq_1, AV.gd.eq_2, AV.cells, AV.one, AV.ones, AV.slen, AV.isS, AV.isPtr, AV.gl, AV.isG, Value.oneCell', Nat.add_assoc, Tryd.f16, he0, ii, vv, bv, tbl16, g30, pure2, deV, h25, hlen', z0, hro]
  exact key _ rfl
end Go.Proofs.YtnodenojdjlbnaaDoor
