/-
  THE PROGRAMS OF CONDITIONS, PART G: one step of the machine, on the document's side.
-/
import Derived.Test.YtkfphaphiikloaaDoorCf
set_option linter.unusedSimpArgs false
set_option linter.unusedVariables false
set_option linter.constructorNameAsVariable false
set_option linter.unusedSimpArgs false
namespace Go.Proofs.YtkfphaphiikloaaDoor
open Go Go.Eng

/-- A stack that is looked at. -/
def SR (h : Heap) (a : AV) (st : List V) : Prop := (st = [] ∧ a = .v (.slice none 0 0)) ∨ ∃ w k, a = .s w k.ver 0 st.length ∧ h w = some k ∧ ∃ r, k.cells = st.flatMap vcells ++ r
theorem SR.le {h h' : Heap} {a : AV} {st : List V} (hh : h.le h') (s : SR h a st) : SR h' a st := by
  rcases s with h0 | ⟨w, k, h1, h2, h3⟩
  · exact .inl h0
  · exact .inr ⟨w, k, h1, hh _ _ h2, h3⟩
theorem sr_s (h : Heap) (id ver len : Nat) (st : List V) : SR h (.s id ver 0 len) st = (match h id with | some k => k.ver = ver ∧ len = st.length ∧ ∃ r, k.cells = st.flatMap vcells ++ r | none => False) := by
  apply propext
  constructor
  · rintro (⟨_, h0⟩ | ⟨w, k, h1, h2, h3⟩)
    · cases h0
    · simp only [AV.s.injEq] at h1
      obtain ⟨rfl, rfl, _, rfl⟩ := h1
      rw [h2]
      exact ⟨rfl, rfl, h3⟩
  · intro h0
    cases hk : h id with
    | none => rw [hk] at h0; exact h0.elim
    | some k =>
      rw [hk] at h0
      obtain ⟨rfl, rfl, h3⟩ := h0
      exact .inr ⟨id, k, rfl, hk, h3⟩
theorem SR.is {h : Heap} {a : AV} {st : List V} (s : SR h a st) : a.isS ∧ a.slen = st.length ∧ (∀ g, AV.unc g a = a) ∧ a.one ∧ a.cells = [a] := by
  rcases s with ⟨rfl, rfl⟩ | ⟨w, k, rfl, _⟩
  · exact ⟨⟨rfl, rfl⟩, rfl, fun _ => rfl, rfl, rfl⟩
  · exact ⟨trivial, rfl, fun _ => rfl, trivial, rfl⟩
theorem SR.top {h : Heap} {a : AV} {pre : List V} {x : V} (s : SR h a (pre ++ [x])) : ∃ w k, a = .s w k.ver 0 (pre.length + 1) ∧ h w = some k ∧ k.cells[pre.length * 2]? = some (.v (.bool x.k)) ∧ k.cells[pre.length * 2 + 1]? = some (.v (.int .i64 x.n)) ∧ pre.length * 2 + 2 ≤ k.cells.length ∧
    List.take (pre.length * 2) k.cells = pre.flatMap vcells ∧ List.take ((pre.length + 1) * 2) k.cells = (pre ++ [x]).flatMap vcells := by
  rcases s with ⟨h0, _⟩ | ⟨w, k, h1, h2, r, h3⟩
  · simp at h0
  · refine ⟨w, k, by simpa using h1, h2, ?_⟩
    have hl := vc_len pre
    have hl2 := vc_len (pre ++ [x])
    have e : k.cells = pre.flatMap vcells ++ (.v (.bool x.k) :: .v (.int .i64 x.n) :: r) := by rw [h3]; simp [vcells]
    refine ⟨?_, ?_, ?_, ?_, ?_⟩
    · rw [e, List.getElem?_append_right (by omega), hl]; simp
    · rw [e, List.getElem?_append_right (by omega), hl]; simp
    · rw [e]; simp only [List.length_append, List.length_cons, hl]; omega
    · rw [e, ← hl, List.take_left']; rfl
    · simp only [List.length_append, List.length_cons, List.length_nil, Nat.zero_add] at hl2
      rw [h3, ← hl2, List.take_left']; rfl
theorem SR.top2 {h : Heap} {a : AV} {pre : List V} {y x : V} (s : SR h a (pre ++ [y] ++ [x])) : ∃ w k, a = .s w k.ver 0 (pre.length + 1 + 1) ∧ h w = some k ∧ k.cells[pre.length * 2]? = some (.v (.bool y.k)) ∧ k.cells[pre.length * 2 + 1]? = some (.v (.int .i64 y.n)) ∧
    k.cells[(pre.length + 1) * 2]? = some (.v (.bool x.k)) ∧ k.cells[(pre.length + 1) * 2 + 1]? = some (.v (.int .i64 x.n)) ∧ (pre.length + 1) * 2 + 2 ≤ k.cells.length ∧ List.take (pre.length * 2) k.cells = pre.flatMap vcells := by
  obtain ⟨w, k, h1, h2, h3, h4, h5, h6, h7⟩ := s.top
  simp only [List.length_append, List.length_cons, List.length_nil, Nat.zero_add] at h1 h3 h4 h5 h6
  have s2 : SR (fun _ => some k) (.s 0 k.ver 0 (pre ++ [y]).length) (pre ++ [y]) := .inr ⟨0, k, rfl, rfl, vcells x ++ k.cells.drop ((pre.length + 1 + 1) * 2), by
    have := List.take_append_drop ((pre.length + 1 + 1) * 2) k.cells
    simp only [List.length_append, List.length_cons, List.length_nil, Nat.zero_add] at h7
    rw [h7] at this
    have e9 : (pre ++ [y] ++ [x]).flatMap vcells = (pre ++ [y]).flatMap vcells ++ vcells x := by simp
    rw [e9, List.append_assoc] at this
    exact this.symm⟩
  obtain ⟨w', k', k1, k2, k3, k4, _, k6, _⟩ := s2.top
  simp only [Option.some.injEq] at k2
  subst k2
  exact ⟨w, k, h1, h2, k3, k4, h3, h4, h5, k6⟩
def hasBlk (h : Heap) (id ver : Nat) : Prop := ∃ k, h id = some k ∧ k.ver = ver
theorem hasBlk_up (h : Heap) (i id ver : Nat) (b : Blk) : hasBlk (up h i (some b)) id ver = if id = i then b.ver = ver else hasBlk h id ver := by
  unfold hasBlk
  by_cases e : id = i
  · subst e; simp [up_same]
  · rw [up_ne _ _ e, if_neg e]
theorem rd_empty {h : Heap} {id ver : Nat} (e : hasBlk h id ver) : rd dIs h (.s id ver 0 0) = some [] := by
  obtain ⟨k, hk, e⟩ := e
  simp only [rd, dIs, De.sl, hk, e, Nat.zero_mul, Nat.zero_le, Nat.add_zero, and_self, if_true, De.chunks]
  rfl
def stepPost (z : AV) (h : Heap) : Option (Nat × List V) → Prop
  | none => z = .g [ii 0, .v (.slice none 0 0), bv true]
  | some q => ∃ a, z = .g [ii q.1, a, bv false] ∧ SR h a q.2
def tb62 : List (FuncId × (List AV → Heap → PRes)) := [(63, g52), (103, g103), (104, g104), (105, g37), (106, g19), (107, g44)]
theorem tb62_ok : TbOk [] tb62 := tb_cons p52 (tb_cons p103 (tb_cons p104 (tb_cons p41 (tb_cons p23 (tb_cons p44 tb_nil)))))
theorem new_sr {h : Heap} {id ver : Nat} {st : List V} (e : h id = some ⟨st.flatMap vcells, ver, true, 2⟩) : SR h (.s id ver 0 st.length) st := .inr ⟨id, _, rfl, e, [], by simp⟩
set_option maxRecDepth 100000 in
set_option maxHeartbeats 4000000 in
theorem c62a {h : Heap} {n : Nat} {x y sa : AV} {p : Pr} {en : En} {pos : Nat} {st : List V} (hp : dePr h x = some p) (he : deEn h y = some en) (hs : SR h sa st) (hpo : PrOk p) (heo : EnOk en) (hlt : pos < p.code.length) (hrng : ∀ v ∈ st, Rng v.n) (hlen : st.length ≤ pos) (hn : Fresh n h) (hc9 : p.code[pos].code ≤ 9) :
    ACall (cx [] (pfL tb62)) 62 [x, y, .g [ii pos, sa, bv false]] h n fun z h' n' => agree n h h' ∧ Fresh n' h' ∧ n ≤ n' ∧ stepPost z h' (stepV p en p.code[pos] pos st) := by
  refine acall_of_awp (args := [x, y, .g [ii pos, sa, bv false]]) (pfL_ok tb62_ok) (mixed _ _) Tryd.func62 (c := Tryd.f62.body.getD .skip) rfl (by kernel_rfl) (callable Tryd.func62 rfl rfl _ _) (show 3 ≤ Tryd.f62.ntmps by decide +kernel) ?_
  obtain ⟨pa, pb, rfl, e3, e4⟩ := dePr_out hp
  obtain ⟨la, rfl, e5⟩ := deEn_out he
  obtain ⟨s1, s2, s3, s4, s5⟩ := sl_is e3
  obtain ⟨t1, t2, t3, t4, t5⟩ := sl_is e4
  obtain ⟨r1, r2, r3, r4, r5⟩ := sl_is e5
  obtain ⟨o1, o2, o3, o4, o5⟩ := hs.is
  have g5 := en_agr hn he
  simp only [ii] at g5
  have hfr := fun k => hn.add k
  have hiok := hpo.ok p.code[pos] (List.getElem_mem hlt)
  have hplen := hpo.len
  rcases ps_at e3 with ⟨h0, _⟩ | ⟨id, off, k, rfl, hk, ho, hat⟩
  · rw [h0] at hlt; simp at hlt
  obtain ⟨c0, c1, c2, c3, c4⟩ := ins_at (hat pos hlt)
  have hid := lt_of hk hn
  have hx := ne_of hk hn
  have hw5 : off + (pos * 5 + 5) ≤ k.cells.length := by omega
  rw [Nat.add_assoc] at c1 c2 c3 c4
  generalize p.code[pos] = i at *
  have y0 : ¬ id = n := by omega
  have key : ∀ e : Nat → AV, e 0 = .g [.s id k.ver off p.code.length, pb] → e 1 = .g [la, ii en.each, ii en.pos] → e 2 = .g [ii pos, sa, bv false] →
      awp (cx [] (pfL tb62)) (Tryd.f62.body.getD .skip) (finQ (cx [] (pfL tb62)) Tryd.f62 fun z h' n' => agree n h h' ∧ Fresh n' h' ∧ n ≤ n' ∧ stepPost z h' (stepV p en i pos st)) ⟨e, h, n⟩ := fun e q0 q1 q2 => by
    obtain ⟨code, item, icol, iN, ito⟩ := i
    obtain ⟨hk1, hk2, hk3, hk4, hk5⟩ := hiok
    simp only [] at hk1 hk2 hk3 hk4 hk5 c0 c1 c2 c3 c4 hc9
    have hwc : IntKind.i64.wrap code = code := W_id hk1
    by_cases hr : needsV code < 0 ∨ (st.length : Int) < needsV code
    · have hbad : stepV p en ⟨code, item, icol, iN, ito⟩ pos st = none := by unfold stepV; rw [if_pos hr]
      rw [hbad]
      simp [awp_skip, awp_label, awp_region, awp_seq, awp_if, awp_block, awp_ret, awp_scope, awp_exit, thenQ_n, thenQ_e, thenQ_r, blockQ_n, blockQ_e, blockQ_r, finQ_n, finQ_r, finQ_e, resAll, resVal, resOne, aops_nil, aops_cons, atl_nil, atl_cons, atlAll_nil, atlAll_cons, freeOp, List.filter_cons, List.filter_nil, adraw_eq, adrawA_nil, adrawA_cons, isA, goOp, appNew, mkOp, gev, Region.binds, Heap.le_refl, aop, aeval, gocall, heapOp, quietOp, ev, constAV, setd, yav, ystop, up, env0, cx_ti, cx_G, cx_pf, ti, globS, glob, pfL, lds, ldc, ldcs_1, ldcs_2, ldcs_3, ldcs_4, ldcs_5, ldcs_7, sts, sth, sls, slc, wr, place, fillOk, fillC, repZ, binI, isDiv, optInt, optI, eksOk, eksEq, EK.ok, EK.eq, AV.i, AV.isI, AV.isInt, AV.b.eq_1, AV.b.eq_2, AV.isB.eq_1, AV.isB.eq_2, AV.str, AV.isStr, unc_same, unc_tt, unc_tf, unc_f, unc_any, unc_v, unc_gp, unc_p, unc_s, unc_g, unc_e, unc_t, unc_fn, unc_okb, unc_bb, unc_isB, unc_b, AV.bb.eq_1, AV.bb.eq_2, AV.okb.eq_1, AV.okb.eq_2, AV.okg.eq_1, AV.okg.eq_2, AV.gd.eq_1, AV.gd.eq_2, AV.cells.eq_1, AV.cells.eq_2, AV.one.eq_1, AV.one.eq_2, AV.one.eq_3, AV.one.eq_4, AV.one.eq_5, AV.one.eq_6, AV.ones, AV.slen.eq_1, AV.slen.eq_2, AV.isS.eq_1, AV.isS.eq_2, AV.isS.eq_3, AV.isPtr, AV.gl, AV.isG, Value.oneCell', Nat.add_assoc, cut_of_le, nat_lt0, nat_le0, Tryd.f62, q0, q1, q2, ii, bv, r4, t4, o4, hk, hx, y0, c0, c1, c2, c3, c4, hw5, hlt, tb62, g103, pure1, deI, hr, hwc, o1, o2, o3, agree_up, agree_refl, fresh_up, hfr, stepPost]
    have hcr : 1 ≤ code ∧ code ≤ 26 := by
      by_cases hx : code < 1 ∨ code > 26
      · have : needsV code = -1 := if_pos hx
        omega
      · omega
    obtain ⟨c, rfl⟩ : ∃ c : Nat, code = c := ⟨code.toNat, by omega⟩
    have hwp : IntKind.i64.wrap ((pos : Int) + 1) = ((pos + 1 : Nat) : Int) := wrap_nat (by unfold big; omega)
    have b1 : (st.length + 1) * 16 ≤ 140737488355328 := by omega
    have b0 : st.length * 16 ≤ 140737488355328 := by omega
    have b2 : st.length + 1 ≤ 9223372036854775807 := by omega
    have b3 : st.length ≤ 9223372036854775807 := by omega
    have hr2 : ¬ (needsV c < 0 ∨ (st.length : Int) < needsV c) := hr
    have hrl : ¬ needsV c < 0 := by omega
    have hrr : ¬ (st.length : Int) < needsV c := by omega
    have d9 : c ≤ 9 := by omega
    have hnz : needsV c = 0 := by unfold needsV; rw [if_neg (by omega), if_pos (by omega)]
    have hnil : ∀ h', rd dIs h' (.v (.slice none 0 0)) = some [] := fun _ => rfl
    have hok : ∀ col : List Int, col.length < big → okM (⟨c, item, icol, iN, ito⟩, col, en) := fun col hc => ⟨⟨by simp only []; omega, by simp only []; omega⟩, hc, heo⟩
    have hw0 : IntKind.i64.wrap 0 = 0 := by decide
    have hwl : IntKind.i64.wrap (st.length : Int) = st.length := W_id (by unfold Rng; omega)
    by_cases d1 : c = 1
    · subst d1
      have hok0 := hok [] (by simp [big])
      have hnz1 : needsV 1 = 0 := hnz
      simp only [Int.cast_ofNat_Int] at hok0
      rw [step_push hr rfl]
      rcases hs with ⟨rfl, rfl⟩ | ⟨w, k', rfl, hk', r, hcr'⟩
      · simp [awp_skip, awp_label, awp_region, awp_seq, awp_if, awp_block, awp_ret, awp_scope, awp_exit, thenQ_n, thenQ_e, thenQ_r, blockQ_n, blockQ_e, blockQ_r, finQ_n, finQ_r, finQ_e, resAll, resVal, resOne, aops_nil, aops_cons, atl_nil, atl_cons, atlAll_nil, atlAll_cons, freeOp, List.filter_cons, List.filter_nil, adraw_eq, adrawA_nil, adrawA_cons, isA, goOp, appNew, mkOp, gev, Region.binds, Heap.le_refl, aop, aeval, gocall, heapOp, quietOp, ev, constAV, setd, yav, ystop, up, env0, cx_ti, cx_G, cx_pf, ti, globS, glob, pfL, lds, ldc, ldcs_1, ldcs_2, ldcs_3, ldcs_4, ldcs_5, ldcs_7, sts, sth, sls, slc, wr, place, fillOk, fillC, repZ, binI, isDiv, optInt, optI, eksOk, eksEq, EK.ok, EK.eq, AV.i, AV.isI, AV.isInt, AV.b.eq_1, AV.b.eq_2, AV.isB.eq_1, AV.isB.eq_2, AV.str, AV.isStr, unc_same, unc_tt, unc_tf, unc_f, unc_any, unc_v, unc_gp, unc_p, unc_s, unc_g, unc_e, unc_t, unc_fn, unc_okb, unc_bb, unc_isB, unc_b, AV.bb.eq_1, AV.bb.eq_2, AV.okb.eq_1, AV.okb.eq_2, AV.okg.eq_1, AV.okg.eq_2, AV.gd.eq_1, AV.gd.eq_2, AV.cells.eq_1, AV.cells.eq_2, AV.one.eq_1, AV.one.eq_2, AV.one.eq_3, AV.one.eq_4, AV.one.eq_5, AV.one.eq_6, AV.ones, AV.slen.eq_1, AV.slen.eq_2, AV.isS.eq_1, AV.isS.eq_2, AV.isS.eq_3, AV.isPtr, AV.gl, AV.isG, Value.oneCell', Nat.add_assoc, cut_of_le, nat_lt0, nat_le0, Tryd.f62, q0, q1, q2, ii, bv, r4, t4, o4, hk, hx, y0, c0, c1, c2, c3, c4, hw5, hlt, hwp, tb62, g103, g52, pure1, deI, hnz, hwc, o1, o2, o3, agree_up, agree_refl, fresh_up, hfr, stepPost, hw0, hwl, sr_s, vcells, g104, pureH, de61, deIns, deIc, g5, hok0, laidV, vv, rd_empty, hasBlk_up, knownV, hnz1]
      · have hx' := ne_of hk' hn
        have y1 : ¬ w = n := by have := lt_of hk' hn; omega
        have hcl : st.length * 2 ≤ k'.cells.length := by rw [hcr', List.length_append, vc_len]; omega
        have htk : List.take (st.length * 2) k'.cells = st.flatMap vcells := by rw [hcr', ← vc_len, List.take_left']; rfl
        have hvl := vc_len st
        have hvl2 : (st.flatMap fun v => [AV.v (.bool v.k), AV.v (.int .i64 v.n)]).length = st.length * 2 := vc_len st
        simp [awp_skip, awp_label, awp_region, awp_seq, awp_if, awp_block, awp_ret, awp_scope, awp_exit, thenQ_n, thenQ_e, thenQ_r, blockQ_n, blockQ_e, blockQ_r, finQ_n, finQ_r, finQ_e, resAll, resVal, resOne, aops_nil, aops_cons, atl_nil, atl_cons, atlAll_nil, atlAll_cons, freeOp, List.filter_cons, List.filter_nil, adraw_eq, adrawA_nil, adrawA_cons, isA, goOp, appNew, mkOp, gev, Region.binds, Heap.le_refl, aop, aeval, gocall, heapOp, quietOp, ev, constAV, setd, yav, ystop, up, env0, cx_ti, cx_G, cx_pf, ti, globS, glob, pfL, lds, ldc, ldcs_1, ldcs_2, ldcs_3, ldcs_4, ldcs_5, ldcs_7, sts, sth, sls, slc, wr, place, fillOk, fillC, repZ, binI, isDiv, optInt, optI, eksOk, eksEq, EK.ok, EK.eq, AV.i, AV.isI, AV.isInt, AV.b.eq_1, AV.b.eq_2, AV.isB.eq_1, AV.isB.eq_2, AV.str, AV.isStr, unc_same, unc_tt, unc_tf, unc_f, unc_any, unc_v, unc_gp, unc_p, unc_s, unc_g, unc_e, unc_t, unc_fn, unc_okb, unc_bb, unc_isB, unc_b, AV.bb.eq_1, AV.bb.eq_2, AV.okb.eq_1, AV.okb.eq_2, AV.okg.eq_1, AV.okg.eq_2, AV.gd.eq_1, AV.gd.eq_2, AV.cells.eq_1, AV.cells.eq_2, AV.one.eq_1, AV.one.eq_2, AV.one.eq_3, AV.one.eq_4, AV.one.eq_5, AV.one.eq_6, AV.ones, AV.slen.eq_1, AV.slen.eq_2, AV.isS.eq_1, AV.isS.eq_2, AV.isS.eq_3, AV.isPtr, AV.gl, AV.isG, Value.oneCell', Nat.add_assoc, cut_of_le, nat_lt0, nat_le0, Tryd.f62, q0, q1, q2, ii, bv, r4, t4, o4, hk, hx, y0, c0, c1, c2, c3, c4, hw5, hlt, hwp, tb62, g103, g52, pure1, deI, hnz, hwc, o1, o2, o3, agree_up, agree_refl, fresh_up, hfr, stepPost, hw0, hwl, sr_s, vcells, g104, pureH, de61, deIns, deIc, g5, hok0, laidV, vv, rd_empty, hasBlk_up, knownV, hnz1, hk', hx', y1, hcl, htk, hvl, hvl2, b0, b1, b2, b3]
    have h1n : ¬ (c : Int) = 1 := by omega
    have h25 : ¬ (c : Int) = 25 := by omega
    have h26 : ¬ (c : Int) = 26 := by omega
    by_cases d4 : c = 4
    · subst d4
      have hok0 := hok [] (by simp [big])
      have hnz1 : needsV 4 = 0 := hnz
      simp only [Int.cast_ofNat_Int] at hok0
      rw [step_count hr rfl]
      generalize hm : mentionV ⟨((4 : Nat) : Int), item, icol, iN, ito⟩ [] en = mv at *
      simp only [Int.cast_ofNat_Int] at hm
      rcases hs with ⟨rfl, rfl⟩ | ⟨w, k', rfl, hk', r, hcr'⟩
      · simp [awp_skip, awp_label, awp_region, awp_seq, awp_if, awp_block, awp_ret, awp_scope, awp_exit, thenQ_n, thenQ_e, thenQ_r, blockQ_n, blockQ_e, blockQ_r, finQ_n, finQ_r, finQ_e, resAll, resVal, resOne, aops_nil, aops_cons, atl_nil, atl_cons, atlAll_nil, atlAll_cons, freeOp, List.filter_cons, List.filter_nil, adraw_eq, adrawA_nil, adrawA_cons, isA, goOp, appNew, mkOp, gev, Region.binds, Heap.le_refl, aop, aeval, gocall, heapOp, quietOp, ev, constAV, setd, yav, ystop, up, env0, cx_ti, cx_G, cx_pf, ti, globS, glob, pfL, lds, ldc, ldcs_1, ldcs_2, ldcs_3, ldcs_4, ldcs_5, ldcs_7, sts, sth, sls, slc, wr, place, fillOk, fillC, repZ, binI, isDiv, optInt, optI, eksOk, eksEq, EK.ok, EK.eq, AV.i, AV.isI, AV.isInt, AV.b.eq_1, AV.b.eq_2, AV.isB.eq_1, AV.isB.eq_2, AV.str, AV.isStr, unc_same, unc_tt, unc_tf, unc_f, unc_any, unc_v, unc_gp, unc_p, unc_s, unc_g, unc_e, unc_t, unc_fn, unc_okb, unc_bb, unc_isB, unc_b, AV.bb.eq_1, AV.bb.eq_2, AV.okb.eq_1, AV.okb.eq_2, AV.okg.eq_1, AV.okg.eq_2, AV.gd.eq_1, AV.gd.eq_2, AV.cells.eq_1, AV.cells.eq_2, AV.one.eq_1, AV.one.eq_2, AV.one.eq_3, AV.one.eq_4, AV.one.eq_5, AV.one.eq_6, AV.ones, AV.slen.eq_1, AV.slen.eq_2, AV.isS.eq_1, AV.isS.eq_2, AV.isS.eq_3, AV.isPtr, AV.gl, AV.isG, Value.oneCell', Nat.add_assoc, cut_of_le, nat_lt0, nat_le0, Tryd.f62, q0, q1, q2, ii, bv, r4, t4, o4, hk, hx, y0, c0, c1, c2, c3, c4, hw5, hlt, hwp, tb62, g103, g52, pure1, deI, hnz, hwc, o1, o2, o3, agree_up, agree_refl, fresh_up, hfr, stepPost, hw0, hwl, sr_s, vcells, g104, pureH, de61, deIns, deIc, g5, hok0, laidV, vv, rd_empty, hasBlk_up, hm, hnz1]
      · have hx' := ne_of hk' hn
        have y1 : ¬ w = n := by have := lt_of hk' hn; omega
        have hcl : st.length * 2 ≤ k'.cells.length := by rw [hcr', List.length_append, vc_len]; omega
        have htk : List.take (st.length * 2) k'.cells = st.flatMap vcells := by rw [hcr', ← vc_len, List.take_left']; rfl
        have hvl := vc_len st
        have hvl2 : (st.flatMap fun v => [AV.v (.bool v.k), AV.v (.int .i64 v.n)]).length = st.length * 2 := vc_len st
        simp [awp_skip, awp_label, awp_region, awp_seq, awp_if, awp_block, awp_ret, awp_scope, awp_exit, thenQ_n, thenQ_e, thenQ_r, blockQ_n, blockQ_e, blockQ_r, finQ_n, finQ_r, finQ_e, resAll, resVal, resOne, aops_nil, aops_cons, atl_nil, atl_cons, atlAll_nil, atlAll_cons, freeOp, List.filter_cons, List.filter_nil, adraw_eq, adrawA_nil, adrawA_cons, isA, goOp, appNew, mkOp, gev, Region.binds, Heap.le_refl, aop, aeval, gocall, heapOp, quietOp, ev, constAV, setd, yav, ystop, up, env0, cx_ti, cx_G, cx_pf, ti, globS, glob, pfL, lds, ldc, ldcs_1, ldcs_2, ldcs_3, ldcs_4, ldcs_5, ldcs_7, sts, sth, sls, slc, wr, place, fillOk, fillC, repZ, binI, isDiv, optInt, optI, eksOk, eksEq, EK.ok, EK.eq, AV.i, AV.isI, AV.isInt, AV.b.eq_1, AV.b.eq_2, AV.isB.eq_1, AV.isB.eq_2, AV.str, AV.isStr, unc_same, unc_tt, unc_tf, unc_f, unc_any, unc_v, unc_gp, unc_p, unc_s, unc_g, unc_e, unc_t, unc_fn, unc_okb, unc_bb, unc_isB, unc_b, AV.bb.eq_1, AV.bb.eq_2, AV.okb.eq_1, AV.okb.eq_2, AV.okg.eq_1, AV.okg.eq_2, AV.gd.eq_1, AV.gd.eq_2, AV.cells.eq_1, AV.cells.eq_2, AV.one.eq_1, AV.one.eq_2, AV.one.eq_3, AV.one.eq_4, AV.one.eq_5, AV.one.eq_6, AV.ones, AV.slen.eq_1, AV.slen.eq_2, AV.isS.eq_1, AV.isS.eq_2, AV.isS.eq_3, AV.isPtr, AV.gl, AV.isG, Value.oneCell', Nat.add_assoc, cut_of_le, nat_lt0, nat_le0, Tryd.f62, q0, q1, q2, ii, bv, r4, t4, o4, hk, hx, y0, c0, c1, c2, c3, c4, hw5, hlt, hwp, tb62, g103, g52, pure1, deI, hnz, hwc, o1, o2, o3, agree_up, agree_refl, fresh_up, hfr, stepPost, hw0, hwl, sr_s, vcells, g104, pureH, de61, deIns, deIc, g5, hok0, laidV, vv, rd_empty, hasBlk_up, hm, hnz1, hk', hx', y1, hcl, htk, hvl, hvl2, b0, b1, b2, b3]
    by_cases d2 : c = 2
    · subst d2
      have hnz1 : needsV 2 = 0 := hnz
      have h29 : 2 ≤ ((2 : Nat) : Int) ∧ ((2 : Nat) : Int) ≤ 9 ∧ ((2 : Nat) : Int) ≠ 4 := by decide
      by_cases k1 : icol < 0
      · rw [step_cneg hr h29 k1]
        simp [awp_skip, awp_label, awp_region, awp_seq, awp_if, awp_block, awp_ret, awp_scope, awp_exit, thenQ_n, thenQ_e, thenQ_r, blockQ_n, blockQ_e, blockQ_r, finQ_n, finQ_r, finQ_e, resAll, resVal, resOne, aops_nil, aops_cons, atl_nil, atl_cons, atlAll_nil, atlAll_cons, freeOp, List.filter_cons, List.filter_nil, adraw_eq, adrawA_nil, adrawA_cons, isA, goOp, appNew, mkOp, gev, Region.binds, Heap.le_refl, aop, aeval, gocall, heapOp, quietOp, ev, constAV, setd, yav, ystop, up, env0, cx_ti, cx_G, cx_pf, ti, globS, glob, pfL, lds, ldc, ldcs_1, ldcs_2, ldcs_3, ldcs_4, ldcs_5, ldcs_7, sts, sth, sls, slc, wr, place, fillOk, fillC, repZ, binI, isDiv, optInt, optI, eksOk, eksEq, EK.ok, EK.eq, AV.i, AV.isI, AV.isInt, AV.b.eq_1, AV.b.eq_2, AV.isB.eq_1, AV.isB.eq_2, AV.str, AV.isStr, unc_same, unc_tt, unc_tf, unc_f, unc_any, unc_v, unc_gp, unc_p, unc_s, unc_g, unc_e, unc_t, unc_fn, unc_okb, unc_bb, unc_isB, unc_b, AV.bb.eq_1, AV.bb.eq_2, AV.okb.eq_1, AV.okb.eq_2, AV.okg.eq_1, AV.okg.eq_2, AV.gd.eq_1, AV.gd.eq_2, AV.cells.eq_1, AV.cells.eq_2, AV.one.eq_1, AV.one.eq_2, AV.one.eq_3, AV.one.eq_4, AV.one.eq_5, AV.one.eq_6, AV.ones, AV.slen.eq_1, AV.slen.eq_2, AV.isS.eq_1, AV.isS.eq_2, AV.isS.eq_3, AV.isPtr, AV.gl, AV.isG, Value.oneCell', Nat.add_assoc, cut_of_le, nat_lt0, nat_le0, Tryd.f62, q0, q1, q2, ii, bv, r4, t4, o4, hk, hx, y0, c0, c1, c2, c3, c4, hw5, hlt, hwp, tb62, g103, g52, pure1, deI, hnz, hwc, o1, o2, o3, agree_up, agree_refl, fresh_up, hfr, stepPost, hw0, hwl, sr_s, vcells, hnz1, k1, rd_empty, hasBlk_up]
      by_cases k2 : (p.cols.length : Int) ≤ icol
      · rw [step_cbig hr h29 k2]
        simp [awp_skip, awp_label, awp_region, awp_seq, awp_if, awp_block, awp_ret, awp_scope, awp_exit, thenQ_n, thenQ_e, thenQ_r, blockQ_n, blockQ_e, blockQ_r, finQ_n, finQ_r, finQ_e, resAll, resVal, resOne, aops_nil, aops_cons, atl_nil, atl_cons, atlAll_nil, atlAll_cons, freeOp, List.filter_cons, List.filter_nil, adraw_eq, adrawA_nil, adrawA_cons, isA, goOp, appNew, mkOp, gev, Region.binds, Heap.le_refl, aop, aeval, gocall, heapOp, quietOp, ev, constAV, setd, yav, ystop, up, env0, cx_ti, cx_G, cx_pf, ti, globS, glob, pfL, lds, ldc, ldcs_1, ldcs_2, ldcs_3, ldcs_4, ldcs_5, ldcs_7, sts, sth, sls, slc, wr, place, fillOk, fillC, repZ, binI, isDiv, optInt, optI, eksOk, eksEq, EK.ok, EK.eq, AV.i, AV.isI, AV.isInt, AV.b.eq_1, AV.b.eq_2, AV.isB.eq_1, AV.isB.eq_2, AV.str, AV.isStr, unc_same, unc_tt, unc_tf, unc_f, unc_any, unc_v, unc_gp, unc_p, unc_s, unc_g, unc_e, unc_t, unc_fn, unc_okb, unc_bb, unc_isB, unc_b, AV.bb.eq_1, AV.bb.eq_2, AV.okb.eq_1, AV.okb.eq_2, AV.okg.eq_1, AV.okg.eq_2, AV.gd.eq_1, AV.gd.eq_2, AV.cells.eq_1, AV.cells.eq_2, AV.one.eq_1, AV.one.eq_2, AV.one.eq_3, AV.one.eq_4, AV.one.eq_5, AV.one.eq_6, AV.ones, AV.slen.eq_1, AV.slen.eq_2, AV.isS.eq_1, AV.isS.eq_2, AV.isS.eq_3, AV.isPtr, AV.gl, AV.isG, Value.oneCell', Nat.add_assoc, cut_of_le, nat_lt0, nat_le0, Tryd.f62, q0, q1, q2, ii, bv, r4, t4, o4, hk, hx, y0, c0, c1, c2, c3, c4, hw5, hlt, hwp, tb62, g103, g52, pure1, deI, hnz, hwc, o1, o2, o3, agree_up, agree_refl, fresh_up, hfr, stepPost, hw0, hwl, sr_s, vcells, hnz1, k1, k2, t1, t2, t3]
      obtain ⟨j, rfl⟩ : ∃ j : Nat, icol = j := ⟨icol.toNat, by omega⟩
      have hj : j < p.cols.length := by omega
      rcases sls_at e4 with ⟨h0, _⟩ | ⟨id2, off2, k2', rfl, hk2', ho2, hat2⟩
      · rw [h0] at hj; simp at hj
      obtain ⟨cc, hcc, hcr2⟩ := hat2 j hj
      have hx2 := ne_of hk2' hn
      have y2 : ¬ id2 = n := by have := lt_of hk2' hn; omega
      have hw6 : off2 + (j + 1) ≤ k2'.cells.length := by omega
      have g6 : ∀ h', agree n h h' → rd dIs h' cc = some p.cols[j] := rd_agr hn hcr2
      have hok0 := hok p.cols[j] (hpo.col _ (List.getElem_mem hj))
      rw [step_col hr h29 (by simp only []; omega) (show p.cols[((j : Nat) : Int).toNat]? = some p.cols[j] by simp [hj])]
      generalize hm : mentionV ⟨((2 : Nat) : Int), item, (j : Int), iN, ito⟩ p.cols[j] en = mv at *
      simp only [Int.cast_ofNat_Int] at hm hok0
      rcases hs with ⟨rfl, rfl⟩ | ⟨w, k', rfl, hk', r, hcr'⟩
      · simp [awp_skip, awp_label, awp_region, awp_seq, awp_if, awp_block, awp_ret, awp_scope, awp_exit, thenQ_n, thenQ_e, thenQ_r, blockQ_n, blockQ_e, blockQ_r, finQ_n, finQ_r, finQ_e, resAll, resVal, resOne, aops_nil, aops_cons, atl_nil, atl_cons, atlAll_nil, atlAll_cons, freeOp, List.filter_cons, List.filter_nil, adraw_eq, adrawA_nil, adrawA_cons, isA, goOp, appNew, mkOp, gev, Region.binds, Heap.le_refl, aop, aeval, gocall, heapOp, quietOp, ev, constAV, setd, yav, ystop, up, env0, cx_ti, cx_G, cx_pf, ti, globS, glob, pfL, lds, ldc, ldcs_1, ldcs_2, ldcs_3, ldcs_4, ldcs_5, ldcs_7, sts, sth, sls, slc, wr, place, fillOk, fillC, repZ, binI, isDiv, optInt, optI, eksOk, eksEq, EK.ok, EK.eq, AV.i, AV.isI, AV.isInt, AV.b.eq_1, AV.b.eq_2, AV.isB.eq_1, AV.isB.eq_2, AV.str, AV.isStr, unc_same, unc_tt, unc_tf, unc_f, unc_any, unc_v, unc_gp, unc_p, unc_s, unc_g, unc_e, unc_t, unc_fn, unc_okb, unc_bb, unc_isB, unc_b, AV.bb.eq_1, AV.bb.eq_2, AV.okb.eq_1, AV.okb.eq_2, AV.okg.eq_1, AV.okg.eq_2, AV.gd.eq_1, AV.gd.eq_2, AV.cells.eq_1, AV.cells.eq_2, AV.one.eq_1, AV.one.eq_2, AV.one.eq_3, AV.one.eq_4, AV.one.eq_5, AV.one.eq_6, AV.ones, AV.slen.eq_1, AV.slen.eq_2, AV.isS.eq_1, AV.isS.eq_2, AV.isS.eq_3, AV.isPtr, AV.gl, AV.isG, Value.oneCell', Nat.add_assoc, cut_of_le, nat_lt0, nat_le0, Tryd.f62, q0, q1, q2, ii, bv, r4, t4, o4, hk, hx, y0, c0, c1, c2, c3, c4, hw5, hlt, hwp, tb62, g103, g52, pure1, deI, hnz, hwc, o1, o2, o3, agree_up, agree_refl, fresh_up, hfr, stepPost, hw0, hwl, sr_s, vcells, g104, pureH, de61, deIns, deIc, g5, hok0, laidV, vv, rd_empty, hasBlk_up, hm, hnz1, k1, k2, t1, t2, t3, hj, hk2', hx2, y2, hw6, hcc, g6]
      · have hx' := ne_of hk' hn
        have y1 : ¬ w = n := by have := lt_of hk' hn; omega
        have hcl : st.length * 2 ≤ k'.cells.length := by rw [hcr', List.length_append, vc_len]; omega
        have htk : List.take (st.length * 2) k'.cells = st.flatMap vcells := by rw [hcr', ← vc_len, List.take_left']; rfl
        have hvl := vc_len st
        have hvl2 : (st.flatMap fun v => [AV.v (.bool v.k), AV.v (.int .i64 v.n)]).length = st.length * 2 := vc_len st
        simp [awp_skip, awp_label, awp_region, awp_seq, awp_if, awp_block, awp_ret, awp_scope, awp_exit, thenQ_n, thenQ_e, thenQ_r, blockQ_n, blockQ_e, blockQ_r, finQ_n, finQ_r, finQ_e, resAll, resVal, resOne, aops_nil, aops_cons, atl_nil, atl_cons, atlAll_nil, atlAll_cons, freeOp, List.filter_cons, List.filter_nil, adraw_eq, adrawA_nil, adrawA_cons, isA, goOp, appNew, mkOp, gev, Region.binds, Heap.le_refl, aop, aeval, gocall, heapOp, quietOp, ev, constAV, setd, yav, ystop, up, env0, cx_ti, cx_G, cx_pf, ti, globS, glob, pfL, lds, ldc, ldcs_1, ldcs_2, ldcs_3, ldcs_4, ldcs_5, ldcs_7, sts, sth, sls, slc, wr, place, fillOk, fillC, repZ, binI, isDiv, optInt, optI, eksOk, eksEq, EK.ok, EK.eq, AV.i, AV.isI, AV.isInt, AV.b.eq_1, AV.b.eq_2, AV.isB.eq_1, AV.isB.eq_2, AV.str, AV.isStr, unc_same, unc_tt, unc_tf, unc_f, unc_any, unc_v, unc_gp, unc_p, unc_s, unc_g, unc_e, unc_t, unc_fn, unc_okb, unc_bb, unc_isB, unc_b, AV.bb.eq_1, AV.bb.eq_2, AV.okb.eq_1, AV.okb.eq_2, AV.okg.eq_1, AV.okg.eq_2, AV.gd.eq_1, AV.gd.eq_2, AV.cells.eq_1, AV.cells.eq_2, AV.one.eq_1, AV.one.eq_2, AV.one.eq_3, AV.one.eq_4, AV.one.eq_5, AV.one.eq_6, AV.ones, AV.slen.eq_1, AV.slen.eq_2, AV.isS.eq_1, AV.isS.eq_2, AV.isS.eq_3, AV.isPtr, AV.gl, AV.isG, Value.oneCell', Nat.add_assoc, cut_of_le, nat_lt0, nat_le0, Tryd.f62, q0, q1, q2, ii, bv, r4, t4, o4, hk, hx, y0, c0, c1, c2, c3, c4, hw5, hlt, hwp, tb62, g103, g52, pure1, deI, hnz, hwc, o1, o2, o3, agree_up, agree_refl, fresh_up, hfr, stepPost, hw0, hwl, sr_s, vcells, g104, pureH, de61, deIns, deIc, g5, hok0, laidV, vv, rd_empty, hasBlk_up, hm, hnz1, k1, k2, t1, t2, t3, hj, hk2', hx2, y2, hw6, hcc, g6, hk', hx', y1, hcl, htk, hvl, hvl2, b0, b1, b2, b3]
    by_cases d3 : c = 3
    · subst d3
      have hnz1 : needsV 3 = 0 := hnz
      have h29 : 2 ≤ ((3 : Nat) : Int) ∧ ((3 : Nat) : Int) ≤ 9 ∧ ((3 : Nat) : Int) ≠ 4 := by decide
      by_cases k1 : icol < 0
      · rw [step_cneg hr h29 k1]
        simp [awp_skip, awp_label, awp_region, awp_seq, awp_if, awp_block, awp_ret, awp_scope, awp_exit, thenQ_n, thenQ_e, thenQ_r, blockQ_n, blockQ_e, blockQ_r, finQ_n, finQ_r, finQ_e, resAll, resVal, resOne, aops_nil, aops_cons, atl_nil, atl_cons, atlAll_nil, atlAll_cons, freeOp, List.filter_cons, List.filter_nil, adraw_eq, adrawA_nil, adrawA_cons, isA, goOp, appNew, mkOp, gev, Region.binds, Heap.le_refl, aop, aeval, gocall, heapOp, quietOp, ev, constAV, setd, yav, ystop, up, env0, cx_ti, cx_G, cx_pf, ti, globS, glob, pfL, lds, ldc, ldcs_1, ldcs_2, ldcs_3, ldcs_4, ldcs_5, ldcs_7, sts, sth, sls, slc, wr, place, fillOk, fillC, repZ, binI, isDiv, optInt, optI, eksOk, eksEq, EK.ok, EK.eq, AV.i, AV.isI, AV.isInt, AV.b.eq_1, AV.b.eq_2, AV.isB.eq_1, AV.isB.eq_2, AV.str, AV.isStr, unc_same, unc_tt, unc_tf, unc_f, unc_any, unc_v, unc_gp, unc_p, unc_s, unc_g, unc_e, unc_t, unc_fn, unc_okb, unc_bb, unc_isB, unc_b, AV.bb.eq_1, AV.bb.eq_2, AV.okb.eq_1, AV.okb.eq_2, AV.okg.eq_1, AV.okg.eq_2, AV.gd.eq_1, AV.gd.eq_2, AV.cells.eq_1, AV.cells.eq_2, AV.one.eq_1, AV.one.eq_2, AV.one.eq_3, AV.one.eq_4, AV.one.eq_5, AV.one.eq_6, AV.ones, AV.slen.eq_1, AV.slen.eq_2, AV.isS.eq_1, AV.isS.eq_2, AV.isS.eq_3, AV.isPtr, AV.gl, AV.isG, Value.oneCell', Nat.add_assoc, cut_of_le, nat_lt0, nat_le0, Tryd.f62, q0, q1, q2, ii, bv, r4, t4, o4, hk, hx, y0, c0, c1, c2, c3, c4, hw5, hlt, hwp, tb62, g103, g52, pure1, deI, hnz, hwc, o1, o2, o3, agree_up, agree_refl, fresh_up, hfr, stepPost, hw0, hwl, sr_s, vcells, hnz1, k1, rd_empty, hasBlk_up]
      by_cases k2 : (p.cols.length : Int) ≤ icol
      · rw [step_cbig hr h29 k2]
        simp [awp_skip, awp_label, awp_region, awp_seq, awp_if, awp_block, awp_ret, awp_scope, awp_exit, thenQ_n, thenQ_e, thenQ_r, blockQ_n, blockQ_e, blockQ_r, finQ_n, finQ_r, finQ_e, resAll, resVal, resOne, aops_nil, aops_cons, atl_nil, atl_cons, atlAll_nil, atlAll_cons, freeOp, List.filter_cons, List.filter_nil, adraw_eq, adrawA_nil, adrawA_cons, isA, goOp, appNew, mkOp, gev, Region.binds, Heap.le_refl, aop, aeval, gocall, heapOp, quietOp, ev, constAV, setd, yav, ystop, up, env0, cx_ti, cx_G, cx_pf, ti, globS, glob, pfL, lds, ldc, ldcs_1, ldcs_2, ldcs_3, ldcs_4, ldcs_5, ldcs_7, sts, sth, sls, slc, wr, place, fillOk, fillC, repZ, binI, isDiv, optInt, optI, eksOk, eksEq, EK.ok, EK.eq, AV.i, AV.isI, AV.isInt, AV.b.eq_1, AV.b.eq_2, AV.isB.eq_1, AV.isB.eq_2, AV.str, AV.isStr, unc_same, unc_tt, unc_tf, unc_f, unc_any, unc_v, unc_gp, unc_p, unc_s, unc_g, unc_e, unc_t, unc_fn, unc_okb, unc_bb, unc_isB, unc_b, AV.bb.eq_1, AV.bb.eq_2, AV.okb.eq_1, AV.okb.eq_2, AV.okg.eq_1, AV.okg.eq_2, AV.gd.eq_1, AV.gd.eq_2, AV.cells.eq_1, AV.cells.eq_2, AV.one.eq_1, AV.one.eq_2, AV.one.eq_3, AV.one.eq_4, AV.one.eq_5, AV.one.eq_6, AV.ones, AV.slen.eq_1, AV.slen.eq_2, AV.isS.eq_1, AV.isS.eq_2, AV.isS.eq_3, AV.isPtr, AV.gl, AV.isG, Value.oneCell', Nat.add_assoc, cut_of_le, nat_lt0, nat_le0, Tryd.f62, q0, q1, q2, ii, bv, r4, t4, o4, hk, hx, y0, c0, c1, c2, c3, c4, hw5, hlt, hwp, tb62, g103, g52, pure1, deI, hnz, hwc, o1, o2, o3, agree_up, agree_refl, fresh_up, hfr, stepPost, hw0, hwl, sr_s, vcells, hnz1, k1, k2, t1, t2, t3]
      obtain ⟨j, rfl⟩ : ∃ j : Nat, icol = j := ⟨icol.toNat, by omega⟩
      have hj : j < p.cols.length := by omega
      rcases sls_at e4 with ⟨h0, _⟩ | ⟨id2, off2, k2', rfl, hk2', ho2, hat2⟩
      · rw [h0] at hj; simp at hj
      obtain ⟨cc, hcc, hcr2⟩ := hat2 j hj
      have hx2 := ne_of hk2' hn
      have y2 : ¬ id2 = n := by have := lt_of hk2' hn; omega
      have hw6 : off2 + (j + 1) ≤ k2'.cells.length := by omega
      have g6 : ∀ h', agree n h h' → rd dIs h' cc = some p.cols[j] := rd_agr hn hcr2
      have hok0 := hok p.cols[j] (hpo.col _ (List.getElem_mem hj))
      rw [step_col hr h29 (by simp only []; omega) (show p.cols[((j : Nat) : Int).toNat]? = some p.cols[j] by simp [hj])]
      generalize hm : mentionV ⟨((3 : Nat) : Int), item, (j : Int), iN, ito⟩ p.cols[j] en = mv at *
      simp only [Int.cast_ofNat_Int] at hm hok0
      rcases hs with ⟨rfl, rfl⟩ | ⟨w, k', rfl, hk', r, hcr'⟩
      · simp [awp_skip, awp_label, awp_region, awp_seq, awp_if, awp_block, awp_ret, awp_scope, awp_exit, thenQ_n, thenQ_e, thenQ_r, blockQ_n, blockQ_e, blockQ_r, finQ_n, finQ_r, finQ_e, resAll, resVal, resOne, aops_nil, aops_cons, atl_nil, atl_cons, atlAll_nil, atlAll_cons, freeOp, List.filter_cons, List.filter_nil, adraw_eq, adrawA_nil, adrawA_cons, isA, goOp, appNew, mkOp, gev, Region.binds, Heap.le_refl, aop, aeval, gocall, heapOp, quietOp, ev, constAV, setd, yav, ystop, up, env0, cx_ti, cx_G, cx_pf, ti, globS, glob, pfL, lds, ldc, ldcs_1, ldcs_2, ldcs_3, ldcs_4, ldcs_5, ldcs_7, sts, sth, sls, slc, wr, place, fillOk, fillC, repZ, binI, isDiv, optInt, optI, eksOk, eksEq, EK.ok, EK.eq, AV.i, AV.isI, AV.isInt, AV.b.eq_1, AV.b.eq_2, AV.isB.eq_1, AV.isB.eq_2, AV.str, AV.isStr, unc_same, unc_tt, unc_tf, unc_f, unc_any, unc_v, unc_gp, unc_p, unc_s, unc_g, unc_e, unc_t, unc_fn, unc_okb, unc_bb, unc_isB, unc_b, AV.bb.eq_1, AV.bb.eq_2, AV.okb.eq_1, AV.okb.eq_2, AV.okg.eq_1, AV.okg.eq_2, AV.gd.eq_1, AV.gd.eq_2, AV.cells.eq_1, AV.cells.eq_2, AV.one.eq_1, AV.one.eq_2, AV.one.eq_3, AV.one.eq_4, AV.one.eq_5, AV.one.eq_6, AV.ones, AV.slen.eq_1, AV.slen.eq_2, AV.isS.eq_1, AV.isS.eq_2, AV.isS.eq_3, AV.isPtr, AV.gl, AV.isG, Value.oneCell', Nat.add_assoc, cut_of_le, nat_lt0, nat_le0, Tryd.f62, q0, q1, q2, ii, bv, r4, t4, o4, hk, hx, y0, c0, c1, c2, c3, c4, hw5, hlt, hwp, tb62, g103, g52, pure1, deI, hnz, hwc, o1, o2, o3, agree_up, agree_refl, fresh_up, hfr, stepPost, hw0, hwl, sr_s, vcells, g104, pureH, de61, deIns, deIc, g5, hok0, laidV, vv, rd_empty, hasBlk_up, hm, hnz1, k1, k2, t1, t2, t3, hj, hk2', hx2, y2, hw6, hcc, g6]
      · have hx' := ne_of hk' hn
        have y1 : ¬ w = n := by have := lt_of hk' hn; omega
        have hcl : st.length * 2 ≤ k'.cells.length := by rw [hcr', List.length_append, vc_len]; omega
        have htk : List.take (st.length * 2) k'.cells = st.flatMap vcells := by rw [hcr', ← vc_len, List.take_left']; rfl
        have hvl := vc_len st
        have hvl2 : (st.flatMap fun v => [AV.v (.bool v.k), AV.v (.int .i64 v.n)]).length = st.length * 2 := vc_len st
        simp [awp_skip, awp_label, awp_region, awp_seq, awp_if, awp_block, awp_ret, awp_scope, awp_exit, thenQ_n, thenQ_e, thenQ_r, blockQ_n, blockQ_e, blockQ_r, finQ_n, finQ_r, finQ_e, resAll, resVal, resOne, aops_nil, aops_cons, atl_nil, atl_cons, atlAll_nil, atlAll_cons, freeOp, List.filter_cons, List.filter_nil, adraw_eq, adrawA_nil, adrawA_cons, isA, goOp, appNew, mkOp, gev, Region.binds, Heap.le_refl, aop, aeval, gocall, heapOp, quietOp, ev, constAV, setd, yav, ystop, up, env0, cx_ti, cx_G, cx_pf, ti, globS, glob, pfL, lds, ldc, ldcs_1, ldcs_2, ldcs_3, ldcs_4, ldcs_5, ldcs_7, sts, sth, sls, slc, wr, place, fillOk, fillC, repZ, binI, isDiv, optInt, optI, eksOk, eksEq, EK.ok, EK.eq, AV.i, AV.isI, AV.isInt, AV.b.eq_1, AV.b.eq_2, AV.isB.eq_1, AV.isB.eq_2, AV.str, AV.isStr, unc_same, unc_tt, unc_tf, unc_f, unc_any, unc_v, unc_gp, unc_p, unc_s, unc_g, unc_e, unc_t, unc_fn, unc_okb, unc_bb, unc_isB, unc_b, AV.bb.eq_1, AV.bb.eq_2, AV.okb.eq_1, AV.okb.eq_2, AV.okg.eq_1, AV.okg.eq_2, AV.gd.eq_1, AV.gd.eq_2, AV.cells.eq_1, AV.cells.eq_2, AV.one.eq_1, AV.one.eq_2, AV.one.eq_3, AV.one.eq_4, AV.one.eq_5, AV.one.eq_6, AV.ones, AV.slen.eq_1, AV.slen.eq_2, AV.isS.eq_1, AV.isS.eq_2, AV.isS.eq_3, AV.isPtr, AV.gl, AV.isG, Value.oneCell', Nat.add_assoc, cut_of_le, nat_lt0, nat_le0, Tryd.f62, q0, q1, q2, ii, bv, r4, t4, o4, hk, hx, y0, c0, c1, c2, c3, c4, hw5, hlt, hwp, tb62, g103, g52, pure1, deI, hnz, hwc, o1, o2, o3, agree_up, agree_refl, fresh_up, hfr, stepPost, hw0, hwl, sr_s, vcells, g104, pureH, de61, deIns, deIc, g5, hok0, laidV, vv, rd_empty, hasBlk_up, hm, hnz1, k1, k2, t1, t2, t3, hj, hk2', hx2, y2, hw6, hcc, g6, hk', hx', y1, hcl, htk, hvl, hvl2, b0, b1, b2, b3]
    have h29 : 2 ≤ (c : Int) ∧ (c : Int) ≤ 9 ∧ (c : Int) ≠ 4 := by omega
    have h9 : (c : Int) ≤ 9 := by omega
    have h2n : ¬ (c : Int) = 2 := by omega
    have h3n : ¬ (c : Int) = 3 := by omega
    have h5 : 5 ≤ (c : Int) := by omega
    by_cases k1 : icol < 0
    · rw [step_cneg hr h29 k1]
      simp [awp_skip, awp_label, awp_region, awp_seq, awp_if, awp_block, awp_ret, awp_scope, awp_exit, thenQ_n, thenQ_e, thenQ_r, blockQ_n, blockQ_e, blockQ_r, finQ_n, finQ_r, finQ_e, resAll, resVal, resOne, aops_nil, aops_cons, atl_nil, atl_cons, atlAll_nil, atlAll_cons, freeOp, List.filter_cons, List.filter_nil, adraw_eq, adrawA_nil, adrawA_cons, isA, goOp, appNew, mkOp, gev, Region.binds, Heap.le_refl, aop, aeval, gocall, heapOp, quietOp, ev, constAV, setd, yav, ystop, up, env0, cx_ti, cx_G, cx_pf, ti, globS, glob, pfL, lds, ldc, ldcs_1, ldcs_2, ldcs_3, ldcs_4, ldcs_5, ldcs_7, sts, sth, sls, slc, wr, place, fillOk, fillC, repZ, binI, isDiv, optInt, optI, eksOk, eksEq, EK.ok, EK.eq, AV.i, AV.isI, AV.isInt, AV.b.eq_1, AV.b.eq_2, AV.isB.eq_1, AV.isB.eq_2, AV.str, AV.isStr, unc_same, unc_tt, unc_tf, unc_f, unc_any, unc_v, unc_gp, unc_p, unc_s, unc_g, unc_e, unc_t, unc_fn, unc_okb, unc_bb, unc_isB, unc_b, AV.bb.eq_1, AV.bb.eq_2, AV.okb.eq_1, AV.okb.eq_2, AV.okg.eq_1, AV.okg.eq_2, AV.gd.eq_1, AV.gd.eq_2, AV.cells.eq_1, AV.cells.eq_2, AV.one.eq_1, AV.one.eq_2, AV.one.eq_3, AV.one.eq_4, AV.one.eq_5, AV.one.eq_6, AV.ones, AV.slen.eq_1, AV.slen.eq_2, AV.isS.eq_1, AV.isS.eq_2, AV.isS.eq_3, AV.isPtr, AV.gl, AV.isG, Value.oneCell', Nat.add_assoc, cut_of_le, nat_lt0, nat_le0, Tryd.f62, q0, q1, q2, ii, bv, r4, t4, o4, hk, hx, y0, c0, c1, c2, c3, c4, hw5, hlt, hwp, tb62, g103, g52, pure1, deI, hnz, hwc, o1, o2, o3, agree_up, agree_refl, fresh_up, hfr, stepPost, hw0, hwl, sr_s, vcells, h1n, h25, h26, h9, h2n, h3n, h5, k1, rd_empty, hasBlk_up]
    by_cases k2 : (p.cols.length : Int) ≤ icol
    · rw [step_cbig hr h29 k2]
      simp [awp_skip, awp_label, awp_region, awp_seq, awp_if, awp_block, awp_ret, awp_scope, awp_exit, thenQ_n, thenQ_e, thenQ_r, blockQ_n, blockQ_e, blockQ_r, finQ_n, finQ_r, finQ_e, resAll, resVal, resOne, aops_nil, aops_cons, atl_nil, atl_cons, atlAll_nil, atlAll_cons, freeOp, List.filter_cons, List.filter_nil, adraw_eq, adrawA_nil, adrawA_cons, isA, goOp, appNew, mkOp, gev, Region.binds, Heap.le_refl, aop, aeval, gocall, heapOp, quietOp, ev, constAV, setd, yav, ystop, up, env0, cx_ti, cx_G, cx_pf, ti, globS, glob, pfL, lds, ldc, ldcs_1, ldcs_2, ldcs_3, ldcs_4, ldcs_5, ldcs_7, sts, sth, sls, slc, wr, place, fillOk, fillC, repZ, binI, isDiv, optInt, optI, eksOk, eksEq, EK.ok, EK.eq, AV.i, AV.isI, AV.isInt, AV.b.eq_1, AV.b.eq_2, AV.isB.eq_1, AV.isB.eq_2, AV.str, AV.isStr, unc_same, unc_tt, unc_tf, unc_f, unc_any, unc_v, unc_gp, unc_p, unc_s, unc_g, unc_e, unc_t, unc_fn, unc_okb, unc_bb, unc_isB, unc_b, AV.bb.eq_1, AV.bb.eq_2, AV.okb.eq_1, AV.okb.eq_2, AV.okg.eq_1, AV.okg.eq_2, AV.gd.eq_1, AV.gd.eq_2, AV.cells.eq_1, AV.cells.eq_2, AV.one.eq_1, AV.one.eq_2, AV.one.eq_3, AV.one.eq_4, AV.one.eq_5, AV.one.eq_6, AV.ones, AV.slen.eq_1, AV.slen.eq_2, AV.isS.eq_1, AV.isS.eq_2, AV.isS.eq_3, AV.isPtr, AV.gl, AV.isG, Value.oneCell', Nat.add_assoc, cut_of_le, nat_lt0, nat_le0, Tryd.f62, q0, q1, q2, ii, bv, r4, t4, o4, hk, hx, y0, c0, c1, c2, c3, c4, hw5, hlt, hwp, tb62, g103, g52, pure1, deI, hnz, hwc, o1, o2, o3, agree_up, agree_refl, fresh_up, hfr, stepPost, hw0, hwl, sr_s, vcells, h1n, h25, h26, h9, h2n, h3n, h5, k1, k2, t1, t2, t3]
    obtain ⟨j, rfl⟩ : ∃ j : Nat, icol = j := ⟨icol.toNat, by omega⟩
    have hj : j < p.cols.length := by omega
    rcases sls_at e4 with ⟨h0, _⟩ | ⟨id2, off2, k2', rfl, hk2', ho2, hat2⟩
    · rw [h0] at hj; simp at hj
    obtain ⟨cc, hcc, hcr2⟩ := hat2 j hj
    have hx2 := ne_of hk2' hn
    have y2 : ¬ id2 = n := by have := lt_of hk2' hn; omega
    have hw6 : off2 + (j + 1) ≤ k2'.cells.length := by omega
    have g6 : ∀ h', agree n h h' → rd dIs h' cc = some p.cols[j] := rd_agr hn hcr2
    have hok0 := hok p.cols[j] (hpo.col _ (List.getElem_mem hj))
    rw [step_col hr h29 (by simp only []; omega) (show p.cols[((j : Nat) : Int).toNat]? = some p.cols[j] by simp [hj])]
    generalize hm : mentionV ⟨(c : Int), item, (j : Int), iN, ito⟩ p.cols[j] en = mv at *
    rcases hs with ⟨rfl, rfl⟩ | ⟨w, k', rfl, hk', r, hcr'⟩
    · simp [awp_skip, awp_label, awp_region, awp_seq, awp_if, awp_block, awp_ret, awp_scope, awp_exit, thenQ_n, thenQ_e, thenQ_r, blockQ_n, blockQ_e, blockQ_r, finQ_n, finQ_r, finQ_e, resAll, resVal, resOne, aops_nil, aops_cons, atl_nil, atl_cons, atlAll_nil, atlAll_cons, freeOp, List.filter_cons, List.filter_nil, adraw_eq, adrawA_nil, adrawA_cons, isA, goOp, appNew, mkOp, gev, Region.binds, Heap.le_refl, aop, aeval, gocall, heapOp, quietOp, ev, constAV, setd, yav, ystop, up, env0, cx_ti, cx_G, cx_pf, ti, globS, glob, pfL, lds, ldc, ldcs_1, ldcs_2, ldcs_3, ldcs_4, ldcs_5, ldcs_7, sts, sth, sls, slc, wr, place, fillOk, fillC, repZ, binI, isDiv, optInt, optI, eksOk, eksEq, EK.ok, EK.eq, AV.i, AV.isI, AV.isInt, AV.b.eq_1, AV.b.eq_2, AV.isB.eq_1, AV.isB.eq_2, AV.str, AV.isStr, unc_same, unc_tt, unc_tf, unc_f, unc_any, unc_v, unc_gp, unc_p, unc_s, unc_g, unc_e, unc_t, unc_fn, unc_okb, unc_bb, unc_isB, unc_b, AV.bb.eq_1, AV.bb.eq_2, AV.okb.eq_1, AV.okb.eq_2, AV.okg.eq_1, AV.okg.eq_2, AV.gd.eq_1, AV.gd.eq_2, AV.cells.eq_1, AV.cells.eq_2, AV.one.eq_1, AV.one.eq_2, AV.one.eq_3, AV.one.eq_4, AV.one.eq_5, AV.one.eq_6, AV.ones, AV.slen.eq_1, AV.slen.eq_2, AV.isS.eq_1, AV.isS.eq_2, AV.isS.eq_3, AV.isPtr, AV.gl, AV.isG, Value.oneCell', Nat.add_assoc, cut_of_le, nat_lt0, nat_le0, Tryd.f62, q0, q1, q2, ii, bv, r4, t4, o4, hk, hx, y0, c0, c1, c2, c3, c4, hw5, hlt, hwp, tb62, g103, g52, pure1, deI, hnz, hwc, o1, o2, o3, agree_up, agree_refl, fresh_up, hfr, stepPost, hw0, hwl, sr_s, vcells, g104, pureH, de61, deIns, deIc, g5, hok0, laidV, vv, rd_empty, hasBlk_up, hm, h1n, h25, h26, h9, h2n, h3n, h5, k1, k2, t1, t2, t3, hj, hk2', hx2, y2, hw6, hcc, g6]
    · have hx' := ne_of hk' hn
      have y1 : ¬ w = n := by have := lt_of hk' hn; omega
      have hcl : st.length * 2 ≤ k'.cells.length := by rw [hcr', List.length_append, vc_len]; omega
      have htk : List.take (st.length * 2) k'.cells = st.flatMap vcells := by rw [hcr', ← vc_len, List.take_left']; rfl
      have hvl := vc_len st
      have hvl2 : (st.flatMap fun v => [AV.v (.bool v.k), AV.v (.int .i64 v.n)]).length = st.length * 2 := vc_len st
      simp [awp_skip, awp_label, awp_region, awp_seq, awp_if, awp_block, awp_ret, awp_scope, awp_exit, thenQ_n, thenQ_e, thenQ_r, blockQ_n, blockQ_e, blockQ_r, finQ_n, finQ_r, finQ_e, resAll, resVal, resOne, aops_nil, aops_cons, atl_nil, atl_cons, atlAll_nil, atlAll_cons, freeOp, List.filter_cons, List.filter_nil, adraw_eq, adrawA_nil, adrawA_cons, isA, goOp, appNew, mkOp, gev, Region.binds, Heap.le_refl, aop, aeval, gocall, heapOp, quietOp, ev, constAV, setd, yav, ystop, up, env0, cx_ti, cx_G, cx_pf, ti, globS, glob, pfL, lds, ldc, ldcs_1, ldcs_2, ldcs_3, ldcs_4, ldcs_5, ldcs_7, sts, sth, sls, slc, wr, place, fillOk, fillC, repZ, binI, isDiv, optInt, optI, eksOk, eksEq, EK.ok, EK.eq, AV.i, AV.isI, AV.isInt, AV.b.eq_1, AV.b.eq_2, AV.isB.eq_1, AV.isB.eq_2, AV.str, AV.isStr, unc_same, unc_tt, unc_tf, unc_f, unc_any, unc_v, unc_gp, unc_p, unc_s, unc_g, unc_e, unc_t, unc_fn, unc_okb, unc_bb, unc_isB, unc_b, AV.bb.eq_1, AV.bb.eq_2, AV.okb.eq_1, AV.okb.eq_2, AV.okg.eq_1, AV.okg.eq_2, AV.gd.eq_1, AV.gd.eq_2, AV.cells.eq_1, AV.cells.eq_2, AV.one.eq_1, AV.one.eq_2, AV.one.eq_3, AV.one.eq_4, AV.one.eq_5, AV.one.eq_6, AV.ones, AV.slen.eq_1, AV.slen.eq_2, AV.isS.eq_1, AV.isS.eq_2, AV.isS.eq_3, AV.isPtr, AV.gl, AV.isG, Value.oneCell', Nat.add_assoc, cut_of_le, nat_lt0, nat_le0, Tryd.f62, q0, q1, q2, ii, bv, r4, t4, o4, hk, hx, y0, c0, c1, c2, c3, c4, hw5, hlt, hwp, tb62, g103, g52, pure1, deI, hnz, hwc, o1, o2, o3, agree_up, agree_refl, fresh_up, hfr, stepPost, hw0, hwl, sr_s, vcells, g104, pureH, de61, deIns, deIc, g5, hok0, laidV, vv, rd_empty, hasBlk_up, hm, h1n, h25, h26, h9, h2n, h3n, h5, k1, k2, t1, t2, t3, hj, hk2', hx2, y2, hw6, hcc, g6, hk', hx', y1, hcl, htk, hvl, hvl2, b0, b1, b2, b3]
  exact key _ rfl rfl rfl
end Go.Proofs.YtkfphaphiikloaaDoor
