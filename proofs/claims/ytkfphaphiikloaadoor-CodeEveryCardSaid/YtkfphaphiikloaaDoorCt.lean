/-
  THE PROGRAMS OF CONDITIONS: the machine, on the document's side.
-/
import Derived.Test.YtkfphaphiikloaaDoorCu
import Derived.Test.YtkfphaphiikloaaDoorCs
set_option linter.unusedSimpArgs false
set_option linter.unusedVariables false
set_option linter.constructorNameAsVariable false
set_option linter.unusedSimpArgs false
namespace Go.Proofs.YtkfphaphiikloaaDoor
open Go Go.Eng

theorem step_ne {p : Pr} {e : En} {i : Ins} {pos : Nat} {st : List V} {q : Nat × List V} (h : stepV p e i pos st = some q) : q.2 ≠ [] := by
  unfold stepV at h
  split at h
  · cases h
  rename_i hr
  have hst : 25 ≤ i.code → st ≠ [] := fun h25 e => by
    subst e
    have : needsV i.code = -1 ∨ needsV i.code = 1 := by
      unfold needsV
      by_cases h1 : i.code < 1 ∨ i.code > 26
      · rw [if_pos h1]; exact .inl rfl
      · rw [if_neg h1, if_neg (by omega), if_pos (by omega)]; exact .inr rfl
    simp at hr
    omega
  repeat' split at h
  all_goals first | (cases h; done) | (simp only [Option.some.injEq] at h; subst h; first | (simp; done) | exact hst (by assumption))
theorem SR.up_ne {h : Heap} {a : AV} {st : List V} (s : SR h a st) (hne : st ≠ []) {x : Nat} {k : Blk} (hx : h x = some k) {z : Int} {r : List AV} (hk : k.cells = ii z :: r) (b : Option Blk) : SR (up h x b) a st := by
  rcases s with ⟨h0, _⟩ | ⟨w, kw, h1, h2, r', h3⟩
  · exact absurd h0 hne
  · refine .inr ⟨w, kw, h1, ?_, r', h3⟩
    rw [Eng.up_ne _ _ fun e => ?_]
    · exact h2
    · subst e
      rw [hx] at h2
      cases h2
      cases st with
      | nil => exact hne rfl
      | cons v st => rw [hk] at h3; simp [vcells, ii] at h3
theorem step_rng {p : Pr} {e : En} (hpo : PrOk p) (heo : EnOk e) {pos : Nat} (hp : pos < p.code.length) {st : List V} (hs : ∀ v ∈ st, Rng v.n) {q : Nat × List V} (h : stepV p e p.code[pos] pos st = some q) : ∀ v ∈ q.2, Rng v.n := by
  have hi := hpo.ok _ (List.getElem_mem hp)
  generalize p.code[pos] = i at *
  have hsn : ∀ (s : List V) (x : V), (∀ v ∈ s, Rng v.n) → Rng x.n → ∀ v ∈ s ++ [x], Rng v.n := fun s x h1 h2 v hv => by
    rcases List.mem_append.1 hv with hv | hv
    · exact h1 v hv
    · simp at hv; rw [hv]; exact h2
  have hd : ∀ {s : List V}, (∀ v ∈ s, Rng v.n) → ∀ v ∈ s.dropLast, Rng v.n := fun {s} h v hv => h v ((List.dropLast_sublist s).subset hv)
  have hg : ∀ {s : List V}, (∀ v ∈ s, Rng v.n) → Rng (s.getLastD unk).n := fun {s} h => by
    cases s with
    | nil => exact unk_rng
    | cons a s => 
      have : (a :: s).getLastD unk ∈ a :: s := by rw [List.getLastD_cons]; exact List.getLastD_mem_cons ..
      exact h _ this
  have hm : ∀ c, Rng (mentionV i c e).n := fun c => mention_rng (heo.evAt _) (heo.lenAt _)
  unfold stepV at h
  repeat' split at h
  all_goals first | (cases h; done) | (simp only [Option.some.injEq] at h; subst h; first | exact hs | exact hsn _ _ hs hi.2.2.2.1 | exact hsn _ _ hs (hm _) | exact hsn _ _ (hd hs) (neg_rng (hg hs)) | exact hsn _ _ (hd hs) (not_rng _) | exact hsn _ _ (hd (hd hs)) (apply_rng _ (hg (hd hs)) (hg hs)))
def I30 (h : Heap) (n : Nat) (pa pb la : AV) (p : Pr) (e : En) (s : St) : Prop := ∃ k : Nat, k ≤ p.code.length ∧ s.e 2 = .p n 0 0 ∧ s.e 3 = .p (n + 1) 0 0 ∧ s.e 4 = .p (n + 2) 0 0 ∧ s.e 6 = .p (n + 3) 0 0 ∧ s.e 7 = ii k ∧ agree n (roH h) s.h ∧ Fresh s.n s.h ∧
  s.h n = some ⟨[pa, pb], 0, true, 2⟩ ∧ s.h (n + 1) = some ⟨[la, ii e.each, ii e.pos], 0, true, 3⟩ ∧ s.h (n + 2) = some ⟨[.v (.bool false), .v (.int .i64 0)], 0, true, 2⟩ ∧ n + 4 ≤ s.n ∧
  ((∃ (pos : Nat) (a : AV) (st : List V), s.h (n + 3) = some ⟨[ii pos, a, bv false], 0, true, 3⟩ ∧ SR s.h a st ∧ pos ≤ p.code.length ∧ k ≤ pos ∧ runV p e = fromV p e pos st ∧ (∀ v ∈ st, Rng v.n) ∧ st.length ≤ pos) ∨
   (s.h (n + 3) = some ⟨[ii 0, .v (.slice none 0 0), bv true], 0, true, 3⟩ ∧ runV p e = bad))
def tb30 : List (FuncId × (List AV → Heap → PRes)) := [(63, g52)]
set_option maxRecDepth 100000 in
set_option maxHeartbeats 4000000 in
theorem P30 : P0 [] 30 G29 := by
  refine mkH 2 (S := []) (l := tb30) (tb_cons p52 tb_nil) Tryd.func30 rfl (by kernel_rfl) deR_mono (fun h l x e => by obtain ⟨a, c, rfl, _⟩ := deR_out e; exact Nat.le_refl _) (fun a => rfl) (fun args q h n e hp hn => ?_)
  obtain ⟨p, en⟩ := q
  obtain ⟨x, y, rfl, e1, e2⟩ := deR_out e
  obtain ⟨hpo, heo⟩ := hp
  obtain ⟨pa, pb, rfl, e3, e4⟩ := dePr_out e1
  obtain ⟨la, rfl, e5⟩ := deEn_out e2
  simp only [] at e1 e2 e3 e4 e5 hpo heo ⊢
  obtain ⟨s1, s2, s3, s4, s5⟩ := sl_is e3
  obtain ⟨t1, t2, t3, t4, t5⟩ := sl_is e4
  obtain ⟨r1, r2, r3, r4, r5⟩ := sl_is e5
  have g1 := pr_agree hn e1
  have g2 := en_agree hn e2
  have hfr : Fresh n (roH h) := fun q hq => by simp [roH, hn q hq]
  have key : ∀ e : Nat → AV, e 0 = .g [pa, pb] → e 1 = .g [la, ii en.each, ii en.pos] → awp (cx [] (pfL tb30)) (Tryd.f30.body.getD .skip) (finQ (cx [] (pfL tb30)) Tryd.f30 fun z _ _ => z = runA (runV p en)) ⟨e, roH h, n⟩ := fun e q0 q1 => by
    simp [awp_skip, awp_label, awp_region, awp_seq, awp_if, awp_block, awp_ret, awp_scope, awp_exit, thenQ_n, thenQ_e, thenQ_r, blockQ_n, blockQ_e, blockQ_r, finQ_n, finQ_r, finQ_e, resAll, resVal, resOne, aops_nil, aops_cons, atl_nil, atl_cons, atlAll_nil, atlAll_cons, freeOp, List.filter_cons, List.filter_nil, adraw_eq, adrawA_nil, adrawA_cons, isA, goOp, appNew, mkOp, gev, Region.binds, Heap.le_refl, aop, aeval, gocall, heapOp, quietOp, ev, constAV, setd, yav, ystop, up, env0, cx_ti, cx_G, cx_pf, ti, globS, glob, pfL, lds, ldc, ldcs_1, ldcs_2, ldcs_3, ldcs_4, ldcs_5, ldcs_7, sts, sth, sls.eq_1, slc.eq_1, wr, place, fillOk, fillC, repZ, binI, isDiv, optInt, optI, eksOk, eksEq, EK.ok, EK.eq, AV.i, AV.isI, AV.isInt, AV.b.eq_1, AV.b.eq_2, AV.isB.eq_1, AV.isB.eq_2, AV.str, AV.isStr, unc_same, unc_tt, unc_tf, unc_f, unc_any, unc_v, unc_gp, unc_p, unc_s, unc_g, unc_e, unc_t, unc_fn, unc_okb, unc_bb, unc_isB, unc_b, AV.bb.eq_1, AV.bb.eq_2, AV.okb.eq_1, AV.okb.eq_2, AV.okg.eq_1, AV.okg.eq_2, AV.gd.eq_1, AV.gd.eq_2, AV.cells.eq_1, AV.cells.eq_2, AV.one.eq_1, AV.one.eq_2, AV.one.eq_3, AV.one.eq_4, AV.one.eq_5, AV.one.eq_6, AV.ones, AV.slen.eq_1, AV.slen.eq_2, AV.isS.eq_1, AV.isS.eq_2, AV.isS.eq_3, AV.isPtr, AV.gl, AV.isG, Value.oneCell', Nat.add_assoc, cut_of_le, nat_lt0, nat_le0, Tryd.f30, q0, q1, s4, t4, r4, ii]
    refine awp_loop (I30 h n pa pb la p en) (fun s => p.code.length - (s.e 7).i.toNat) ⟨0, Nat.zero_le _, by simp [up], by simp [up], by simp [up], by simp [up], by simp [up, ii], by simp [agree_up, agree_refl], by simp [fresh_up, hfr.add], by simp [up], by simp [up, ii], by simp [up], by simp, .inl ⟨0, .v (.slice none 0 0), [], by simp [up, ii, bv], .inl ⟨rfl, rfl⟩, Nat.zero_le _, Nat.zero_le _, run_from p en, by simp, by simp⟩⟩ ?_
    rintro e' h' n' ⟨k, hk, q2, q3, q4, q6, q7, hag, hfr', hb0, hb1, hb2, hnn, hor⟩
    simp only [] at q2 q3 q4 q6 q7 hag hfr' hb0 hb1 hb2 hnn hor
    rcases hor with ⟨pos, a, st, hb3, hsr, hpos, hkp, hrun, hrng, hlen⟩ | ⟨hb3, hbad⟩
    · obtain ⟨o1, o2, o3, o4, o5⟩ := hsr.is
      by_cases hlt : pos < p.code.length
      · have hk1 : k < p.code.length := by omega
        have hw := wrap_nat (j := k) (by have := hpo.len; unfold big; omega)
        simp [awp_skip, awp_label, awp_region, awp_seq, awp_if, awp_block, awp_ret, awp_scope, awp_exit, thenQ_n, thenQ_e, thenQ_r, blockQ_n, blockQ_e, blockQ_r, finQ_n, finQ_r, finQ_e, resAll, resVal, resOne, aops_nil, aops_cons, atl_nil, atl_cons, atlAll_nil, atlAll_cons, freeOp, List.filter_cons, List.filter_nil, adraw_eq, adrawA_nil, adrawA_cons, isA, goOp, appNew, mkOp, gev, Region.binds, Heap.le_refl, aop, aeval, gocall, heapOp, quietOp, ev, constAV, setd, yav, ystop, up, env0, cx_ti, cx_G, cx_pf, ti, globS, glob, pfL, lds, ldc, ldcs_1, ldcs_2, ldcs_3, ldcs_4, ldcs_5, ldcs_7, sts, sth, sls.eq_1, slc.eq_1, wr, place, fillOk, fillC, repZ, binI, isDiv, optInt, optI, eksOk, eksEq, EK.ok, EK.eq, AV.i, AV.isI, AV.isInt, AV.b.eq_1, AV.b.eq_2, AV.isB.eq_1, AV.isB.eq_2, AV.str, AV.isStr, unc_same, unc_tt, unc_tf, unc_f, unc_any, unc_v, unc_gp, unc_p, unc_s, unc_g, unc_e, unc_t, unc_fn, unc_okb, unc_bb, unc_isB, unc_b, AV.bb.eq_1, AV.bb.eq_2, AV.okb.eq_1, AV.okb.eq_2, AV.okg.eq_1, AV.okg.eq_2, AV.gd.eq_1, AV.gd.eq_2, AV.cells.eq_1, AV.cells.eq_2, AV.one.eq_1, AV.one.eq_2, AV.one.eq_3, AV.one.eq_4, AV.one.eq_5, AV.one.eq_6, AV.ones, AV.slen.eq_1, AV.slen.eq_2, AV.isS.eq_1, AV.isS.eq_2, AV.isS.eq_3, AV.isPtr, AV.gl, AV.isG, Value.oneCell', Nat.add_assoc, cut_of_le, nat_lt0, nat_le0, q2, q3, q6, q7, hb0, hb1, hb3, ii, bv, s1, s2, s3, hlt, hk1, tb30]
        refine (acall_any (S := []) (by simp) (c62 (sa := a) (pos := pos) (st := st) (g1 h' hag) (g2 h' hag) hsr hpo heo hlt hrng hlen hfr')).mono ?_
        rintro z h2 n2 ⟨a1, a2, a3, a4⟩
        have hc0 : h2 n = some ⟨[pa, pb], 0, true, 2⟩ := (a1 n (by omega)).trans hb0
        have hc1 : h2 (n + 1) = some ⟨[la, ii en.each, ii en.pos], 0, true, 3⟩ := (a1 (n + 1) (by omega)).trans hb1
        have hc2 : h2 (n + 2) = some ⟨[.v (.bool false), .v (.int .i64 0)], 0, true, 2⟩ := (a1 (n + 2) (by omega)).trans hb2
        have hc3 : h2 (n + 3) = some ⟨[ii pos, a, bv false], 0, true, 3⟩ := (a1 (n + 3) (by omega)).trans hb3
        have hag2 : ∀ b, agree n (roH h) (up h2 (n + 3) b) := fun b => (agree_up (by omega) b).2 (agree_trans hag a1 (by omega))
        have hfr2 : ∀ b, Fresh (n2 + 1) (up h2 (n + 3) b) := fun b => (fresh_up (by omega) b).2 (a2.add 1)
        cases hs : stepV p en p.code[pos] pos st with
        | none =>
          rw [hs] at a4
          simp only [stepPost] at a4
          subst a4
          simp [awp_skip, awp_label, awp_region, awp_seq, awp_if, awp_block, awp_ret, awp_scope, awp_exit, thenQ_n, thenQ_e, thenQ_r, blockQ_n, blockQ_e, blockQ_r, finQ_n, finQ_r, finQ_e, resAll, resVal, resOne, aops_nil, aops_cons, atl_nil, atl_cons, atlAll_nil, atlAll_cons, freeOp, List.filter_cons, List.filter_nil, adraw_eq, adrawA_nil, adrawA_cons, isA, goOp, appNew, mkOp, gev, Region.binds, Heap.le_refl, aop, aeval, gocall, heapOp, quietOp, ev, constAV, setd, yav, ystop, up, env0, cx_ti, cx_G, cx_pf, ti, globS, glob, pfL, lds, ldc, ldcs_1, ldcs_2, ldcs_3, ldcs_4, ldcs_5, ldcs_7, sts, sth, sls.eq_1, slc.eq_1, wr, place, fillOk, fillC, repZ, binI, isDiv, optInt, optI, eksOk, eksEq, EK.ok, EK.eq, AV.i, AV.isI, AV.isInt, AV.b.eq_1, AV.b.eq_2, AV.isB.eq_1, AV.isB.eq_2, AV.str, AV.isStr, unc_same, unc_tt, unc_tf, unc_f, unc_any, unc_v, unc_gp, unc_p, unc_s, unc_g, unc_e, unc_t, unc_fn, unc_okb, unc_bb, unc_isB, unc_b, AV.bb.eq_1, AV.bb.eq_2, AV.okb.eq_1, AV.okb.eq_2, AV.okg.eq_1, AV.okg.eq_2, AV.gd.eq_1, AV.gd.eq_2, AV.cells.eq_1, AV.cells.eq_2, AV.one.eq_1, AV.one.eq_2, AV.one.eq_3, AV.one.eq_4, AV.one.eq_5, AV.one.eq_6, AV.ones, AV.slen.eq_1, AV.slen.eq_2, AV.isS.eq_1, AV.isS.eq_2, AV.isS.eq_3, AV.isPtr, AV.gl, AV.isG, Value.oneCell', Nat.add_assoc, cut_of_le, nat_lt0, nat_le0, q2, q6, q7, hc3, ii, bv, hw]
          refine ⟨⟨k + 1, by omega, by simp [up, q2], by simp [up, q3], by simp [up, q4], by simp [up, q6], by simp [up, ii], hag2 _, hfr2 _, by simp [up, hc0], by simp [up, hc1], by simp [up, hc2], by simp only []; omega, .inr ⟨by simp [up, ii, bv], ?_⟩⟩, by omega⟩
          rw [hrun]
          exact from_none hlt hs
        | some q =>
          rw [hs] at a4
          obtain ⟨a', rfl, hsr2⟩ := a4
          obtain ⟨u1, u2, u3, u4, u5⟩ := hsr2.is
          obtain ⟨m1, m2, m3⟩ := step_on hlt hs
          simp [awp_skip, awp_label, awp_region, awp_seq, awp_if, awp_block, awp_ret, awp_scope, awp_exit, thenQ_n, thenQ_e, thenQ_r, blockQ_n, blockQ_e, blockQ_r, finQ_n, finQ_r, finQ_e, resAll, resVal, resOne, aops_nil, aops_cons, atl_nil, atl_cons, atlAll_nil, atlAll_cons, freeOp, List.filter_cons, List.filter_nil, adraw_eq, adrawA_nil, adrawA_cons, isA, goOp, appNew, mkOp, gev, Region.binds, Heap.le_refl, aop, aeval, gocall, heapOp, quietOp, ev, constAV, setd, yav, ystop, up, env0, cx_ti, cx_G, cx_pf, ti, globS, glob, pfL, lds, ldc, ldcs_1, ldcs_2, ldcs_3, ldcs_4, ldcs_5, ldcs_7, sts, sth, sls.eq_1, slc.eq_1, wr, place, fillOk, fillC, repZ, binI, isDiv, optInt, optI, eksOk, eksEq, EK.ok, EK.eq, AV.i, AV.isI, AV.isInt, AV.b.eq_1, AV.b.eq_2, AV.isB.eq_1, AV.isB.eq_2, AV.str, AV.isStr, unc_same, unc_tt, unc_tf, unc_f, unc_any, unc_v, unc_gp, unc_p, unc_s, unc_g, unc_e, unc_t, unc_fn, unc_okb, unc_bb, unc_isB, unc_b, AV.bb.eq_1, AV.bb.eq_2, AV.okb.eq_1, AV.okb.eq_2, AV.okg.eq_1, AV.okg.eq_2, AV.gd.eq_1, AV.gd.eq_2, AV.cells.eq_1, AV.cells.eq_2, AV.one.eq_1, AV.one.eq_2, AV.one.eq_3, AV.one.eq_4, AV.one.eq_5, AV.one.eq_6, AV.ones, AV.slen.eq_1, AV.slen.eq_2, AV.isS.eq_1, AV.isS.eq_2, AV.isS.eq_3, AV.isPtr, AV.gl, AV.isG, Value.oneCell', Nat.add_assoc, cut_of_le, nat_lt0, nat_le0, q2, q6, q7, hc3, ii, bv, hw, u4]
          exact ⟨⟨k + 1, by omega, by simp [up, q2], by simp [up, q3], by simp [up, q4], by simp [up, q6], by simp [up, ii], hag2 _, hfr2 _, by simp [up, hc0], by simp [up, hc1], by simp [up, hc2], by simp only []; omega, .inl ⟨q.1, a', q.2, by simp [up, ii, bv], hsr2.up_ne (step_ne hs) hc3 rfl _, m2, by omega, hrun.trans (from_some hlt hs), step_rng hpo heo hlt hrng hs, by omega⟩⟩, by omega⟩
      · have hpe : pos = p.code.length := by omega
        rw [from_end (by omega)] at hrun
        subst hpe
        rcases hsr with ⟨rfl, rfl⟩ | ⟨w, kw, rfl, hw, r, hr⟩
        · simp [awp_skip, awp_label, awp_region, awp_seq, awp_if, awp_block, awp_ret, awp_scope, awp_exit, thenQ_n, thenQ_e, thenQ_r, blockQ_n, blockQ_e, blockQ_r, finQ_n, finQ_r, finQ_e, resAll, resVal, resOne, aops_nil, aops_cons, atl_nil, atl_cons, atlAll_nil, atlAll_cons, freeOp, List.filter_cons, List.filter_nil, adraw_eq, adrawA_nil, adrawA_cons, isA, goOp, appNew, mkOp, gev, Region.binds, Heap.le_refl, aop, aeval, gocall, heapOp, quietOp, ev, constAV, setd, yav, ystop, up, env0, cx_ti, cx_G, cx_pf, ti, globS, glob, pfL, lds, ldc, ldcs_1, ldcs_2, ldcs_3, ldcs_4, ldcs_5, ldcs_7, sts, sth, sls.eq_1, slc.eq_1, wr, place, fillOk, fillC, repZ, binI, isDiv, optInt, optI, eksOk, eksEq, EK.ok, EK.eq, AV.i, AV.isI, AV.isInt, AV.b.eq_1, AV.b.eq_2, AV.isB.eq_1, AV.isB.eq_2, AV.str, AV.isStr, unc_same, unc_tt, unc_tf, unc_f, unc_any, unc_v, unc_gp, unc_p, unc_s, unc_g, unc_e, unc_t, unc_fn, unc_okb, unc_bb, unc_isB, unc_b, AV.bb.eq_1, AV.bb.eq_2, AV.okb.eq_1, AV.okb.eq_2, AV.okg.eq_1, AV.okg.eq_2, AV.gd.eq_1, AV.gd.eq_2, AV.cells.eq_1, AV.cells.eq_2, AV.one.eq_1, AV.one.eq_2, AV.one.eq_3, AV.one.eq_4, AV.one.eq_5, AV.one.eq_6, AV.ones, AV.slen.eq_1, AV.slen.eq_2, AV.isS.eq_1, AV.isS.eq_2, AV.isS.eq_3, AV.isPtr, AV.gl, AV.isG, Value.oneCell', Nat.add_assoc, cut_of_le, nat_lt0, nat_le0, q2, q4, q6, q7, hb0, hb2, hb3, ii, bv, s1, s2, s3, tb30, g52, hrun, endV, bad, runA, vv, unk]
        · cases st with
          | nil => simp [awp_skip, awp_label, awp_region, awp_seq, awp_if, awp_block, awp_ret, awp_scope, awp_exit, thenQ_n, thenQ_e, thenQ_r, blockQ_n, blockQ_e, blockQ_r, finQ_n, finQ_r, finQ_e, resAll, resVal, resOne, aops_nil, aops_cons, atl_nil, atl_cons, atlAll_nil, atlAll_cons, freeOp, List.filter_cons, List.filter_nil, adraw_eq, adrawA_nil, adrawA_cons, isA, goOp, appNew, mkOp, gev, Region.binds, Heap.le_refl, aop, aeval, gocall, heapOp, quietOp, ev, constAV, setd, yav, ystop, up, env0, cx_ti, cx_G, cx_pf, ti, globS, glob, pfL, lds, ldc, ldcs_1, ldcs_2, ldcs_3, ldcs_4, ldcs_5, ldcs_7, sts, sth, sls.eq_1, slc.eq_1, wr, place, fillOk, fillC, repZ, binI, isDiv, optInt, optI, eksOk, eksEq, EK.ok, EK.eq, AV.i, AV.isI, AV.isInt, AV.b.eq_1, AV.b.eq_2, AV.isB.eq_1, AV.isB.eq_2, AV.str, AV.isStr, unc_same, unc_tt, unc_tf, unc_f, unc_any, unc_v, unc_gp, unc_p, unc_s, unc_g, unc_e, unc_t, unc_fn, unc_okb, unc_bb, unc_isB, unc_b, AV.bb.eq_1, AV.bb.eq_2, AV.okb.eq_1, AV.okb.eq_2, AV.okg.eq_1, AV.okg.eq_2, AV.gd.eq_1, AV.gd.eq_2, AV.cells.eq_1, AV.cells.eq_2, AV.one.eq_1, AV.one.eq_2, AV.one.eq_3, AV.one.eq_4, AV.one.eq_5, AV.one.eq_6, AV.ones, AV.slen.eq_1, AV.slen.eq_2, AV.isS.eq_1, AV.isS.eq_2, AV.isS.eq_3, AV.isPtr, AV.gl, AV.isG, Value.oneCell', Nat.add_assoc, cut_of_le, nat_lt0, nat_le0, q2, q4, q6, q7, hb0, hb2, hb3, ii, bv, s1, s2, s3, tb30, g52, hrun, endV, bad, runA, vv, unk]
          | cons v st => cases st with
            | nil =>
              have hc0 : kw.cells[0]? = some (.v (.bool v.k)) := by rw [hr]; simp [vcells]
              have hc1 : kw.cells[1]? = some (.v (.int .i64 v.n)) := by rw [hr]; simp [vcells]
              have hcl : 2 ≤ kw.cells.length := by rw [hr]; simp [vcells]
              simp [awp_skip, awp_label, awp_region, awp_seq, awp_if, awp_block, awp_ret, awp_scope, awp_exit, thenQ_n, thenQ_e, thenQ_r, blockQ_n, blockQ_e, blockQ_r, finQ_n, finQ_r, finQ_e, resAll, resVal, resOne, aops_nil, aops_cons, atl_nil, atl_cons, atlAll_nil, atlAll_cons, freeOp, List.filter_cons, List.filter_nil, adraw_eq, adrawA_nil, adrawA_cons, isA, goOp, appNew, mkOp, gev, Region.binds, Heap.le_refl, aop, aeval, gocall, heapOp, quietOp, ev, constAV, setd, yav, ystop, up, env0, cx_ti, cx_G, cx_pf, ti, globS, glob, pfL, lds, ldc, ldcs_1, ldcs_2, ldcs_3, ldcs_4, ldcs_5, ldcs_7, sts, sth, sls.eq_1, slc.eq_1, wr, place, fillOk, fillC, repZ, binI, isDiv, optInt, optI, eksOk, eksEq, EK.ok, EK.eq, AV.i, AV.isI, AV.isInt, AV.b.eq_1, AV.b.eq_2, AV.isB.eq_1, AV.isB.eq_2, AV.str, AV.isStr, unc_same, unc_tt, unc_tf, unc_f, unc_any, unc_v, unc_gp, unc_p, unc_s, unc_g, unc_e, unc_t, unc_fn, unc_okb, unc_bb, unc_isB, unc_b, AV.bb.eq_1, AV.bb.eq_2, AV.okb.eq_1, AV.okb.eq_2, AV.okg.eq_1, AV.okg.eq_2, AV.gd.eq_1, AV.gd.eq_2, AV.cells.eq_1, AV.cells.eq_2, AV.one.eq_1, AV.one.eq_2, AV.one.eq_3, AV.one.eq_4, AV.one.eq_5, AV.one.eq_6, AV.ones, AV.slen.eq_1, AV.slen.eq_2, AV.isS.eq_1, AV.isS.eq_2, AV.isS.eq_3, AV.isPtr, AV.gl, AV.isG, Value.oneCell', Nat.add_assoc, cut_of_le, nat_lt0, nat_le0, q2, q4, q6, q7, hb0, hb2, hb3, ii, bv, s1, s2, s3, tb30, g52, hrun, endV, bad, runA, vv, hw, hc0, hc1, hcl]
            | cons v2 st =>
              have hne : ¬ ((st.length : Int) + 2 = 1) := by omega
              simp [awp_skip, awp_label, awp_region, awp_seq, awp_if, awp_block, awp_ret, awp_scope, awp_exit, thenQ_n, thenQ_e, thenQ_r, blockQ_n, blockQ_e, blockQ_r, finQ_n, finQ_r, finQ_e, resAll, resVal, resOne, aops_nil, aops_cons, atl_nil, atl_cons, atlAll_nil, atlAll_cons, freeOp, List.filter_cons, List.filter_nil, adraw_eq, adrawA_nil, adrawA_cons, isA, goOp, appNew, mkOp, gev, Region.binds, Heap.le_refl, aop, aeval, gocall, heapOp, quietOp, ev, constAV, setd, yav, ystop, up, env0, cx_ti, cx_G, cx_pf, ti, globS, glob, pfL, lds, ldc, ldcs_1, ldcs_2, ldcs_3, ldcs_4, ldcs_5, ldcs_7, sts, sth, sls.eq_1, slc.eq_1, wr, place, fillOk, fillC, repZ, binI, isDiv, optInt, optI, eksOk, eksEq, EK.ok, EK.eq, AV.i, AV.isI, AV.isInt, AV.b.eq_1, AV.b.eq_2, AV.isB.eq_1, AV.isB.eq_2, AV.str, AV.isStr, unc_same, unc_tt, unc_tf, unc_f, unc_any, unc_v, unc_gp, unc_p, unc_s, unc_g, unc_e, unc_t, unc_fn, unc_okb, unc_bb, unc_isB, unc_b, AV.bb.eq_1, AV.bb.eq_2, AV.okb.eq_1, AV.okb.eq_2, AV.okg.eq_1, AV.okg.eq_2, AV.gd.eq_1, AV.gd.eq_2, AV.cells.eq_1, AV.cells.eq_2, AV.one.eq_1, AV.one.eq_2, AV.one.eq_3, AV.one.eq_4, AV.one.eq_5, AV.one.eq_6, AV.ones, AV.slen.eq_1, AV.slen.eq_2, AV.isS.eq_1, AV.isS.eq_2, AV.isS.eq_3, AV.isPtr, AV.gl, AV.isG, Value.oneCell', Nat.add_assoc, cut_of_le, nat_lt0, nat_le0, q2, q4, q6, q7, hb0, hb2, hb3, ii, bv, s1, s2, s3, tb30, g52, hrun, endV, bad, runA, vv, unk, hne]
    · simp [awp_skip, awp_label, awp_region, awp_seq, awp_if, awp_block, awp_ret, awp_scope, awp_exit, thenQ_n, thenQ_e, thenQ_r, blockQ_n, blockQ_e, blockQ_r, finQ_n, finQ_r, finQ_e, resAll, resVal, resOne, aops_nil, aops_cons, atl_nil, atl_cons, atlAll_nil, atlAll_cons, freeOp, List.filter_cons, List.filter_nil, adraw_eq, adrawA_nil, adrawA_cons, isA, goOp, appNew, mkOp, gev, Region.binds, Heap.le_refl, aop, aeval, gocall, heapOp, quietOp, ev, constAV, setd, yav, ystop, up, env0, cx_ti, cx_G, cx_pf, ti, globS, glob, pfL, lds, ldc, ldcs_1, ldcs_2, ldcs_3, ldcs_4, ldcs_5, ldcs_7, sts, sth, sls.eq_1, slc.eq_1, wr, place, fillOk, fillC, repZ, binI, isDiv, optInt, optI, eksOk, eksEq, EK.ok, EK.eq, AV.i, AV.isI, AV.isInt, AV.b.eq_1, AV.b.eq_2, AV.isB.eq_1, AV.isB.eq_2, AV.str, AV.isStr, unc_same, unc_tt, unc_tf, unc_f, unc_any, unc_v, unc_gp, unc_p, unc_s, unc_g, unc_e, unc_t, unc_fn, unc_okb, unc_bb, unc_isB, unc_b, AV.bb.eq_1, AV.bb.eq_2, AV.okb.eq_1, AV.okb.eq_2, AV.okg.eq_1, AV.okg.eq_2, AV.gd.eq_1, AV.gd.eq_2, AV.cells.eq_1, AV.cells.eq_2, AV.one.eq_1, AV.one.eq_2, AV.one.eq_3, AV.one.eq_4, AV.one.eq_5, AV.one.eq_6, AV.ones, AV.slen.eq_1, AV.slen.eq_2, AV.isS.eq_1, AV.isS.eq_2, AV.isS.eq_3, AV.isPtr, AV.gl, AV.isG, Value.oneCell', Nat.add_assoc, cut_of_le, nat_lt0, nat_le0, q2, q4, q6, q7, hb0, hb2, hb3, ii, bv, s1, s2, s3, tb30, g52, hbad, bad, runA, vv, unk]
  exact key _ rfl rfl
end Go.Proofs.YtkfphaphiikloaaDoor
