/-
  TREES, PART N: aggregates over a list, on both sides.
-/
import Derived.Test.YtkfphaphiikloaaDoorX30
set_option linter.unusedSimpArgs false
set_option linter.unusedVariables false
set_option linter.constructorNameAsVariable false
namespace Go.Proofs.YtkfphaphiikloaaDoor
open Go Go.Eng

def okF (sc : List Ty) (l : List Ev) : Prop := smallS sc ∧ l.length ≤ 2147483647 ∧ ∀ e ∈ l, EvOk e
def de110 (h : Heap) : List AV → Option (Evr × List Ev × Nd)
  | [p, a, x] => match deEvr h p, rd dEs h a, deN x with
    | some q, some l, some x => some (q, l, x)
    | _, _, _ => none
  | _ => none
theorem de110_out {h : Heap} {args : List AV} {q : Evr × List Ev × Nd} (e : de110 h args = some q) : ∃ p a, args = [p, a, nn q.2.2] ∧ deEvr h p = some q.1 ∧ rd dEs h a = some q.2.1 := by
  unfold de110 at e
  split at e
  · split at e
    · rename_i e1 e2 e3
      cases e
      exact ⟨_, _, by rw [deN_out e3], e1, e2⟩
    · cases e
  · cases e
theorem de110_mono (h h' : Heap) (args : List AV) (q : Evr × List Ev × Nd) (hh : h.le h') (e : de110 h args = some q) : de110 h' args = some q := by
  obtain ⟨p, a, rfl, e1, e2⟩ := de110_out e
  simp only [de110, deEvr_sim hh.sim e1, rd_mono hh e2, nn, deN_nn]
def G110 := pureH de110 (fun q => okF q.1.sc q.2.1) fun q => vv (allV q.2.1 (colOf q.1.sc q.2.2.attr) q.2.2.op)
def tb110 : List (FuncId × (List AV → Heap → PRes)) := [(109, G109), (125, g33)]
set_option maxRecDepth 100000 in
set_option maxHeartbeats 2000000 in
theorem P110 : P0 [1] 110 G110 := by
  refine mkH 3 (S := [1]) (l := tb110) (tb_cons P109 (tb_cons p33 tb_nil)) Tryd.func110 rfl (by kernel_rfl) de110_mono (fun h l x e => by obtain ⟨p, a, rfl, _⟩ := de110_out e; exact Nat.le_refl _) (fun a => rfl) (fun args q h n e hp hn => ?_)
  obtain ⟨v, l, ⟨op, num, var, attr, xa, xb⟩⟩ := q
  obtain ⟨p, a, rfl, e0, e1⟩ := de110_out e
  obtain ⟨hsc, hl, hev⟩ := hp
  simp only [] at e0 e1 hsc hl hev ⊢
  obtain ⟨s1, s2, s3, s4, s5⟩ := sl_is e1
  have g0 := evr_agree hn e0
  have g1 := rd_agree hn e1
  obtain ⟨id', c1, c2, c3, c4, ver', own', esz', hpp, _⟩ := deEvr_out e0
  have p1 : p.one ∧ (∀ g, AV.unc g p = p) ∧ p.cells = [p] ∧ p.isPtr := by rw [hpp]; exact ⟨trivial, fun _ => rfl, rfl, trivial⟩
  obtain ⟨p1, p2, p3, p4⟩ := p1
  generalize hc' : colOf v.sc attr = c' at *
  have key : ∀ e : Nat → AV, e 0 = p → e 1 = a → e 2 = nn ⟨op, num, var, attr, xa, xb⟩ → awp (cx [1] (pfL tb110)) (Tryd.f110.body.getD .skip) (finQ (cx [1] (pfL tb110)) Tryd.f110 fun z _ _ => z = vv (allV l c' op)) ⟨e, roH h, n⟩ := fun e q0 q1 q2 => by
    simp [evs, aeval, binS, cx_ti, cx_G, cx_pf, cx_tw, ti, globS, glob, ldcs_1, ldcs_2, ldcs_3, ldcs_4, ldcs_5, ldcs_7, sls.eq_1, slc.eq_1, pfL, Tryd.f110, q0, q1, q2, nn, ncells, ii, ss, s1, s2, s3]
    refine awp_loop (fun s => ∃ j, j ≤ l.length ∧ s.e 0 = p ∧ s.e 1 = a ∧ s.e 5 = .p n 0 0 ∧ s.e 6 = .p (n + 1) 0 0 ∧ Own s.h (n + 2) s.n (s.e 7) j ((colN l c' j).map ii) 1 ∧ s.e 10 = a ∧ s.e 11 = ii l.length ∧ s.e 12 = ii j ∧ agree n (roH h) s.h ∧ s.h n = some ⟨[ii op, ii num, ss var, ss attr, ii xa, ii xb], 0, true, 6⟩ ∧ s.h (n + 1) = some ⟨[.v (.bool false), .v (.int .i64 0)], 0, true, 2⟩ ∧ n + 2 ≤ s.n ∧ knownTo l c' j = true) (fun s => l.length - (s.e 12).i.toNat) ⟨0, by simp [up, q0, q1, q2, ii, ss, agree_up, agree_refl, colN, knownTo, Own]⟩ ?_
    rintro e' h' n' ⟨j, hj, q0, q1, q5, q6, hown, q10, q11, q12, hag, hb, hr, hnn, hkn⟩
    simp only [] at q0 q1 q5 q6 hown q10 q11 q12 hag hb hr hnn
    have f1 : n ≤ n' := by omega
    have f2 : n ≤ n' + 1 := by omega
    have f3 : n ≤ n' + 2 := by omega
    have f4 : n ≤ n' + 3 := by omega
    have z1 : ¬ n = n' := by omega
    have z2 : ¬ n = n' + 1 := by omega
    have z3 : ¬ n = n' + 2 := by omega
    have z4 : ¬ n = n' + 3 := by omega
    have w1 : ¬ n + 1 = n' := by omega
    have w2 : ¬ n + 1 = n' + 1 := by omega
    have w3 : ¬ n + 1 = n' + 2 := by omega
    have w4 : ¬ n + 1 = n' + 3 := by omega
    by_cases hlt : j < l.length
    · have hw := wrap_nat (j := j) (by unfold big; omega)
      have hsm : smallR v.sc l := ⟨hsc, by simp only [big]; omega⟩
      have hcn := colN_ints l c' j
      have hcl : ((colN l c' j).map ii).length = j := by rw [List.length_map, colN_len]
      generalize hx : oneV l (j : Int) c' = x at *
      generalize (colN l c' j).map ii = cs at *
      have hb3 : (j + 1) * 8 ≤ 140737488355328 := by omega
      have hb4 : j + 1 ≤ 9223372036854775807 := by omega
      cases hxk : x.k with
      | false =>
        have ha := all_no op hlt (by rw [hx]; exact hxk)
        have hu : x = unk := by rw [← hx]; exact oneV_unk (by rw [hx]; exact hxk)
        subst hu
        simp [evs, aeval, binS, cx_ti, cx_G, cx_pf, cx_tw, ti, globS, glob, ldcs_1, ldcs_2, ldcs_3, ldcs_4, ldcs_5, ldcs_7, sls.eq_1, slc.eq_1, pfL, q0, q1, q5, q6, q10, q11, q12, ii, ss, hlt, tb110, G109, pureH, de109, g0, g1, hag, agree_up, f1, f2, f3, hsm, hc', hx, vv, unk, z1, z2, z3, z4, w1, w2, w3, w4, hb, hr, ha, p1, p2, p3, p4]
      | true =>
        rcases hown with ⟨hj0, hnil, q7⟩ | ⟨w, u, q7, hk, hw1, hw2⟩
        · simp [evs, aeval, binS, cx_ti, cx_G, cx_pf, cx_tw, ti, globS, glob, ldcs_1, ldcs_2, ldcs_3, ldcs_4, ldcs_5, ldcs_7, sls.eq_1, slc.eq_1, pfL, q0, q1, q5, q6, q7, q10, q11, q12, ii, ss, hlt, tb110, G109, pureH, de109, g0, g1, hag, agree_up, f1, f2, f3, f4, hsm, hc', hx, vv, unk, z1, z2, z3, z4, w1, w2, w3, w4, hb, hr, hxk, hb3, hb4, hw, p1, p2, p3, p4]
          exact ⟨⟨j + 1, by omega, .inr ⟨n' + 3, 0, by rw [hj0], by rw [up_same, hcn, hnil]; rfl, by omega, by omega⟩, by omega, by rw [knownTo_succ, hkn, hx, hxk]; rfl⟩, by omega⟩
        · have y1 : ¬ w = n' := by omega
          have y2 : ¬ w = n' + 1 := by omega
          have y3 : ¬ w = n' + 2 := by omega
          have y4 : n ≤ w := by omega
          have y5 : ¬ n = w := by omega
          have y6 : ¬ n + 1 = w := by omega
          simp [evs, aeval, binS, cx_ti, cx_G, cx_pf, cx_tw, ti, globS, glob, ldcs_1, ldcs_2, ldcs_3, ldcs_4, ldcs_5, ldcs_7, sls.eq_1, slc.eq_1, pfL, q0, q1, q5, q6, q7, q10, q11, q12, ii, ss, hlt, tb110, G109, pureH, de109, g0, g1, hag, agree_up, f1, f2, f3, f4, hsm, hc', hx, vv, unk, z1, z2, z3, z4, w1, w2, w3, w4, hb, hr, hk, hxk, hcl, hb3, hb4, hw, y1, y2, y3, y4, y5, y6, p1, p2, p3, p4]
          exact ⟨⟨j + 1, by omega, .inr ⟨w, u + 1, rfl, by rw [up_same, hcn]; rfl, by omega, by omega⟩, by omega, by rw [knownTo_succ, hkn, hx, hxk]; rfl⟩, by omega⟩
    · have hje : j = l.length := by omega
      subst hje
      have hay := all_yes op hkn
      have hcl : (colN l c' l.length).length = l.length := colN_len ..
      have hlb : l.length < big := by unfold big; omega
      have hdi : deIs (List.take l.length ((colN l c' l.length).map ii)) = some (colN l c' l.length) := by
        rw [List.take_of_length_le (by rw [List.length_map, hcl]; exact Nat.le_refl _), deIs_ii]
      generalize colN l c' l.length = cn at *
      rcases hown with ⟨h0, hnil, q7⟩ | ⟨w, u, q7, hk, hw1, hw2⟩
      · have hcn0 : cn = [] := by simpa using hnil
        subst hcn0
        simp [evs, aeval, binS, cx_ti, cx_G, cx_pf, cx_tw, ti, globS, glob, ldcs_1, ldcs_2, ldcs_3, ldcs_4, ldcs_5, ldcs_7, sls.eq_1, slc.eq_1, pfL, q0, q1, q5, q6, q7, q10, q11, q12, ii, ss, tb110, g33, pureAL, deI, ints, vv, hb, hr, hag, hay, big]
      · simp [evs, aeval, binS, cx_ti, cx_G, cx_pf, cx_tw, ti, globS, glob, ldcs_1, ldcs_2, ldcs_3, ldcs_4, ldcs_5, ldcs_7, sls.eq_1, slc.eq_1, pfL, q0, q1, q5, q6, q7, q10, q11, q12, ii, ss, tb110, g33, pureAL, deI, ints, vv, hb, hr, hk, hag, hay, hcl, hlb, hdi]
  exact key _ rfl rfl rfl
/-! ### the document's -/
def de113 (h : Heap) : List AV → Option (List Ty × List Ev × Int × ByteArray)
  | [x, a, i, s] => de112 h [x, a, i, s]
  | _ => none
def G113 := pureH de112 (fun q => okF q.1 q.2.1) fun q => vv (allV q.2.1 (colOf q.1 q.2.2.2) q.2.2.1)
def tb113 : List (FuncId × (List AV → Heap → PRes)) := [(63, g52), (112, G112), (137, g34)]
set_option maxRecDepth 100000 in
set_option maxHeartbeats 2000000 in
theorem P113 : P0 [] 113 G113 := by
  refine mkH 4 (S := []) (l := tb113) (tb_cons p52 (tb_cons P112 (tb_cons p34 tb_nil))) Tryd.func113 rfl (by kernel_rfl) de112_mono (fun h l x e => by obtain ⟨p, a, rfl, _⟩ := de112_out e; exact Nat.le_refl _) (fun a => rfl) (fun args q h n e hp hn => ?_)
  obtain ⟨sc, l, op, attr⟩ := q
  obtain ⟨x, a, rfl, e0, e1⟩ := de112_out e
  obtain ⟨hsc, hl, hev⟩ := hp
  simp only [] at e0 e1 hsc hl hev ⊢
  obtain ⟨s1, s2, s3, s4, s5⟩ := sl_is e1
  have g1 := rd_agree hn e1
  have g0 := sc_agree hn e0
  obtain ⟨c1, rfl, r1⟩ := deSc_out e0
  obtain ⟨t1, t2, t3, t4, t5⟩ := sl_is r1
  generalize hc' : colOf sc attr = c' at *
  have key : ∀ e : Nat → AV, e 0 = .g [c1] → e 1 = a → e 2 = ii op → e 3 = ss attr → awp (cx [] (pfL tb113)) (Tryd.f113.body.getD .skip) (finQ (cx [] (pfL tb113)) Tryd.f113 fun z _ _ => z = vv (allV l c' op)) ⟨e, roH h, n⟩ := fun e q0 q1 q2 q3 => by
    simp [evs, aeval, binS, cx_ti, cx_G, cx_pf, cx_tw, ti, globS, glob, ldcs_1, ldcs_2, ldcs_3, ldcs_4, ldcs_5, ldcs_7, sls.eq_1, slc.eq_1, pfL, Tryd.f113, q0, q1, q2, q3, ii, ss, s1, s2, s3, t4]
    refine awp_loop (fun s => ∃ j, j ≤ l.length ∧ s.e 1 = a ∧ s.e 2 = ii op ∧ s.e 3 = ss attr ∧ s.e 4 = .p n 0 0 ∧ s.e 8 = .p (n + 1) 0 0 ∧ Own s.h (n + 2) s.n (s.e 9) j ((colN l c' j).map ii) 1 ∧ s.e 10 = ii j ∧ agree n (roH h) s.h ∧ s.h n = some ⟨[c1], 0, true, 1⟩ ∧ s.h (n + 1) = some ⟨[.v (.bool false), .v (.int .i64 0)], 0, true, 2⟩ ∧ n + 2 ≤ s.n ∧ knownTo l c' j = true) (fun s => l.length - (s.e 10).i.toNat) ⟨0, by simp [up, q0, q1, q2, q3, ii, ss, agree_up, agree_refl, colN, knownTo, Own]⟩ ?_
    rintro e' h' n' ⟨j, hj, q1, q2, q3, q4, q8, hown, q10, hag, hb, hr, hnn, hkn⟩
    simp only [] at q1 q2 q3 q4 q8 hown q10 hag hb hr hnn
    have f1 : n ≤ n' := by omega
    have f2 : n ≤ n' + 1 := by omega
    have f3 : n ≤ n' + 2 := by omega
    have f4 : n ≤ n' + 3 := by omega
    have z1 : ¬ n = n' := by omega
    have z2 : ¬ n = n' + 1 := by omega
    have z3 : ¬ n = n' + 2 := by omega
    have z4 : ¬ n = n' + 3 := by omega
    have w1 : ¬ n + 1 = n' := by omega
    have w2 : ¬ n + 1 = n' + 1 := by omega
    have w3 : ¬ n + 1 = n' + 2 := by omega
    have w4 : ¬ n + 1 = n' + 3 := by omega
    by_cases hlt : j < l.length
    · have hw := wrap_nat (j := j) (by unfold big; omega)
      have hsm : smallR sc l := ⟨hsc, by simp only [big]; omega⟩
      have hcn := colN_ints l c' j
      have hcl : ((colN l c' j).map ii).length = j := by rw [List.length_map, colN_len]
      generalize hx : oneV l (j : Int) c' = x at *
      generalize (colN l c' j).map ii = cs at *
      have hb3 : (j + 1) * 8 ≤ 140737488355328 := by omega
      have hb4 : j + 1 ≤ 9223372036854775807 := by omega
      cases hxk : x.k with
      | false =>
        have ha := all_no op hlt (by rw [hx]; exact hxk)
        have hu : x = unk := by rw [← hx]; exact oneV_unk (by rw [hx]; exact hxk)
        subst hu
        simp [evs, aeval, binS, cx_ti, cx_G, cx_pf, cx_tw, ti, globS, glob, ldcs_1, ldcs_2, ldcs_3, ldcs_4, ldcs_5, ldcs_7, sls.eq_1, slc.eq_1, pfL, q1, q2, q3, q4, q8, q10, ii, ss, s1, s2, s3, t4, hlt, tb113, g52, G112, pureH, de112, g0, g1, hag, agree_up, f1, f2, f3, hsm, hc', hx, vv, unk, z1, z2, z3, z4, w1, w2, w3, w4, hb, hr, ha]
      | true =>
        rcases hown with ⟨hj0, hnil, q9⟩ | ⟨w, u, q9, hk, hw1, hw2⟩
        · simp [evs, aeval, binS, cx_ti, cx_G, cx_pf, cx_tw, ti, globS, glob, ldcs_1, ldcs_2, ldcs_3, ldcs_4, ldcs_5, ldcs_7, sls.eq_1, slc.eq_1, pfL, q1, q2, q3, q4, q8, q9, q10, ii, ss, s1, s2, s3, t4, hlt, tb113, g52, G112, pureH, de112, g0, g1, hag, agree_up, f1, f2, f3, f4, hsm, hc', hx, vv, unk, z1, z2, z3, z4, w1, w2, w3, w4, hb, hr, hxk, hb3, hb4, hw]
          exact ⟨⟨j + 1, by omega, .inr ⟨n' + 3, 0, by rw [hj0], by rw [up_same, hcn, hnil]; rfl, by omega, by omega⟩, by omega, by rw [knownTo_succ, hkn, hx, hxk]; rfl⟩, by omega⟩
        · have y1 : ¬ w = n' := by omega
          have y2 : ¬ w = n' + 1 := by omega
          have y3 : ¬ w = n' + 2 := by omega
          have y4 : n ≤ w := by omega
          have y5 : ¬ n = w := by omega
          have y6 : ¬ n + 1 = w := by omega
          simp [evs, aeval, binS, cx_ti, cx_G, cx_pf, cx_tw, ti, globS, glob, ldcs_1, ldcs_2, ldcs_3, ldcs_4, ldcs_5, ldcs_7, sls.eq_1, slc.eq_1, pfL, q1, q2, q3, q4, q8, q9, q10, ii, ss, s1, s2, s3, t4, hlt, tb113, g52, G112, pureH, de112, g0, g1, hag, agree_up, f1, f2, f3, f4, hsm, hc', hx, vv, unk, z1, z2, z3, z4, w1, w2, w3, w4, hb, hr, hk, hxk, hcl, hb3, hb4, hw, y1, y2, y3, y4, y5, y6]
          exact ⟨⟨j + 1, by omega, .inr ⟨w, u + 1, rfl, by rw [up_same, hcn]; rfl, by omega, by omega⟩, by omega, by rw [knownTo_succ, hkn, hx, hxk]; rfl⟩, by omega⟩
    · have hje : j = l.length := by omega
      subst hje
      have hay := all_yes op hkn
      have hcl : (colN l c' l.length).length = l.length := colN_len ..
      have hlb : l.length < big := by unfold big; omega
      have hfe := fold_eq op (colN_rng hev c' l.length) (by rw [hcl]; exact hl)
      have hdi : deIs (List.take l.length ((colN l c' l.length).map ii)) = some (colN l c' l.length) := by
        rw [List.take_of_length_le (by rw [List.length_map, hcl]; exact Nat.le_refl _), deIs_ii]
      rw [hfe] at hay
      generalize colN l c' l.length = cn at *
      rcases hown with ⟨h0, hnil, q9⟩ | ⟨w, u, q9, hk, hw1, hw2⟩
      · have hcn0 : cn = [] := by simpa using hnil
        subst hcn0
        simp [evs, aeval, binS, cx_ti, cx_G, cx_pf, cx_tw, ti, globS, glob, ldcs_1, ldcs_2, ldcs_3, ldcs_4, ldcs_5, ldcs_7, sls.eq_1, slc.eq_1, pfL, q1, q2, q3, q4, q8, q9, q10, ii, ss, s1, s2, s3, t4, tb113, g34, pureAL, deI, ints, vv, hb, hr, hag, hay, big]
      · simp [evs, aeval, binS, cx_ti, cx_G, cx_pf, cx_tw, ti, globS, glob, ldcs_1, ldcs_2, ldcs_3, ldcs_4, ldcs_5, ldcs_7, sls.eq_1, slc.eq_1, pfL, q1, q2, q3, q4, q8, q9, q10, ii, ss, s1, s2, s3, t4, tb113, g34, pureAL, deI, ints, vv, hb, hr, hk, hag, hay, hcl, hlb, hdi]
  exact key _ rfl rfl rfl rfl
end Go.Proofs.YtkfphaphiikloaaDoor
