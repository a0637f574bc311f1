/-
  CodeConjuncts: the law's own code.
-/
import Derived.Test.YtkfphaphiikloaaDoorX36
import Derived.Test.YtkfphaphiikloaaDoorX37
import Derived.Test.YtkfphaphiikloaaDoorX38
set_option linter.unusedSimpArgs false
set_option linter.unusedVariables false
set_option linter.constructorNameAsVariable false
namespace Go.Proofs.YtkfphaphiikloaaDoor
open Go Go.Eng

def tbl12 : List (FuncId × (List AV → Heap → PRes)) := [(14, G14), (15, G15), (27, G27), (31, G31), (37, G38), (39, G39), (42, G57), (44, G44), (48, g20)]
theorem tbl12_ok : TbOk S8 tbl12 := tb_cons P14 (tb_cons P15 (tb_cons P27 (tb_cons (P31 P29) (tb_cons P37 (tb_cons P39 (tb_cons P42 (tb_cons P44 (tb_cons p20 tb_nil))))))))
theorem W8.sub {v : Eq38} (w : W8 v) {r : Nat} (ht : tree1 v.t = true) (hr : r < v.t.length) : W8 ⟨v.sc, v.q, subT v.t r, v.en⟩ := by
  have T := tre_of ht
  have hl : (subT v.t r).length = r + 1 - loOf v.t r := cut_len hr (T.le r hr)
  have h1 := w.t1
  refine ⟨w.s1, w.s2, w.q1, w.q2, w.q3, w.q4, by simp only [hl]; omega, fun x hx => ?_, w.e1, w.e2, w.e3, w.e4⟩
  simp only [subT, cutT, List.mem_map] at hx
  obtain ⟨y, hy, rfl⟩ := hx
  exact w.t2 y (List.mem_of_mem_drop (List.mem_of_mem_take hy))
/-- A compiled tree holds just if its value is true. -/
theorem holds_eval {sc : List Ty} {vs : List ByteArray} {en : En} {t : List Nd} (h : runT vs t = true) : holdsV (compP sc vs t) en = trueV (evalV sc vs en t) := by
  unfold holdsV
  rw [run_comp h]
  simp
theorem all_eq {α : Type} {f g : α → Bool} : ∀ {l : List α}, (∀ r ∈ l, f r = g r) → l.all f = l.all g
  | [], _ => rfl
  | x :: l, h => by rw [List.all_cons, List.all_cons, h x (by simp), all_eq fun r hr => h r (by simp [hr])]
def conjL (v : Eq38) : List Nat := conjT v.t (v.t.length - 1)
def holdR (v : Eq38) (r : Nat) : Bool := holdsV (compP v.sc (vars v.q.items) (subT v.t r)) v.en
structure B12 (v : Eq38) (s : St) : Prop where
  a : A8 v s
  e9 : s.e 9 = bv (holdsV (compP v.sc (vars v.q.items) v.t) v.en)
  e11 : ∃ w u, s.e 11 = .s w u 0 (conjL v).length ∧ s.h w = some ⟨(conjL v).map fun x : Nat => ii x, u, true, 1⟩
theorem B12.up {v : Eq38} {s s' : St} (b : B12 v s) (he : ∀ i ∈ [2, 4, 5, 7, 9, 11], s'.e i = s.e i) (ha : agree s.n s.h s'.h) (hf : Fresh s'.n s'.h) : B12 v s' := by
  obtain ⟨a, b1, w, u, b2, b3⟩ := b
  exact ⟨a.up (fun i hi => he i (by simp at hi ⊢; omega)) ha hf, (he 9 (by simp)).trans b1, w, u, (he 11 (by simp)).trans b2, by rw [ha w (lt_of b3 a.frs)]; exact b3⟩
section
set_option maxRecDepth 100000
set_option maxHeartbeats 4000000
variable {h : Heap} {n : Nat} {sa qa qb qc ta la : AV} {v : Eq38}
theorem law12a (e1 : rd dTys h sa = some v.sc) (e2 : rd dIts h qa = some v.q.items) (e3 : rd dNs h qb = some v.q.wh) (e4 : rd dNss h qc = some v.q.ret) (e5 : rd dNs h ta = some v.t) (e6 : rd dEss h la = some v.en.ls) (w : W8 v) (hn : Fresh n h) (e : Nat → AV)
    (q0 : e 0 = .g [sa]) (q1 : e 1 = .g [qa, .v (.int .i64 v.q.mode), .v (.int .i64 v.q.after), qb, .v (.int .i64 v.q.within), .v (.string v.q.par), qc]) (q2 : e 2 = ta) (q3 : e 3 = .g [la, .v (.int .i64 v.en.each), .v (.int .i64 v.en.pos)]) :
    awp (cx S8 (pfL tbl12)) (hdC 2 (Tryd.f12.body.getD .skip)) (thenQ (fun s => A8 v s ∧ beyondV v.en.ls = false) (finQ (cx S8 (pfL tbl12)) Tryd.f12 fun z _ _ => z = bv true)) ⟨e, roH h, n⟩ := by
  have o1 := (sl_is e1).2.2.2.1
  have o2 := (sl_is e2).2.2.2.1
  have o3 := (sl_is e3).2.2.2.1
  have o4 := (sl_is e4).2.2.2.1
  have o5 := (sl_is e6).2.2.2.1
  obtain ⟨s1, s2, s3, s4, s5⟩ := sl_is e5
  have r3 := (sl_is e6).2.2.1
  have g6 := rd_agree hn e6
  have g5 := rd_agree hn e5
  have gq : ∀ h', agree n (roH h) h' → deQ h' (.g [qa, .v (.int .i64 v.q.mode), .v (.int .i64 v.q.after), qb, .v (.int .i64 v.q.within), .v (.string v.q.par), qc]) = some v.q := fun h' ha => deQ_has (rd_agree hn e2 h' ha) (rd_agree hn e3 h' ha) (rd_agree hn e4 h' ha)
  have w1 := w.w1
  have w2 := w.w2
  have w3 : smallT v.q.wh ∧ v.q.ret.length < big ∧ ∀ t ∈ v.q.ret, smallT t := ⟨w.q2, w.q3, w.q4⟩
  have w4 : smallT v.t := w.t1
  have fr := roH_fresh hn
  cases hq : qdeep v.q with
  | true =>
    simp [evs, aeval, cx_ti, cx_G, cx_pf, cx_tw, ti, globS, glob, ldcs_1, ldcs_2, ldcs_3, ldcs_4, ldcs_5, ldcs_7, sls.eq_1, slc.eq_1, pfL, hdC, Tryd.f12, q0, q1, q2, q3, o1, o2, o3, o4, o5, s3, r3, bv, tbl12, pureH, agree_up, agree_refl, G14, deQ1, gq, hq]
    exact w3
  | false =>
    cases ht : deepB v.t with
    | true =>
      simp [evs, aeval, cx_ti, cx_G, cx_pf, cx_tw, ti, globS, glob, ldcs_1, ldcs_2, ldcs_3, ldcs_4, ldcs_5, ldcs_7, sls.eq_1, slc.eq_1, pfL, hdC, Tryd.f12, q0, q1, q2, q3, o1, o2, o3, o4, o5, s3, r3, bv, tbl12, pureH, agree_up, agree_refl, G14, deQ1, gq, hq, G15, deT, g5, ht]
      exact ⟨w3, w4⟩
    | false =>
      cases hb : beyondV v.en.ls with
      | true =>
        simp [evs, aeval, cx_ti, cx_G, cx_pf, cx_tw, ti, globS, glob, ldcs_1, ldcs_2, ldcs_3, ldcs_4, ldcs_5, ldcs_7, sls.eq_1, slc.eq_1, pfL, hdC, Tryd.f12, q0, q1, q2, q3, o1, o2, o3, o4, o5, s3, r3, bv, tbl12, pureH, agree_up, agree_refl, G14, deQ1, gq, hq, G15, deT, g5, ht, G27, deLL, g6, w1, hb]
        exact ⟨w3, w4, w2⟩
      | false =>
        simp [evs, aeval, cx_ti, cx_G, cx_pf, cx_tw, ti, globS, glob, ldcs_1, ldcs_2, ldcs_3, ldcs_4, ldcs_5, ldcs_7, sls.eq_1, slc.eq_1, pfL, hdC, Tryd.f12, q0, q1, q2, q3, o1, o2, o3, o4, o5, s3, r3, bv, tbl12, pureH, agree_up, agree_refl, G14, deQ1, gq, hq, G15, deT, g5, ht, G27, deLL, g6, w1, hb]
        refine ⟨w3, w4, w2, ?_⟩
        have ag : ∀ b1 b2 b3 : Option Blk, agree n (roH h) (up (up (up (roH h) n b1) (n + 1) b2) (n + 2) b3) := fun b1 b2 b3 => by simp [agree_up, agree_refl]
        exact ⟨by simpa [up, q2] using g5 _ (ag _ _ _), ⟨n, sa, by simp [up], by simp [up], rd_agree hn e1 _ (ag _ _ _)⟩, ⟨n + 1, qa, qb, qc, by simp [up], by simp [up], rd_agree hn e2 _ (ag _ _ _), rd_agree hn e3 _ (ag _ _ _), rd_agree hn e4 _ (ag _ _ _)⟩, ⟨n + 2, la, by simp [up], by simp [up], g6 _ (ag _ _ _)⟩, by simp [fresh_up, fr.add]⟩
theorem law12b (e : Nat → AV) (h' : Heap) (n' : Nat) (b : A8 v ⟨e, h', n'⟩) {Q : Ex → St → Prop} :
    awp (cx S8 (pfL tbl12)) (hdC 1 (tlC 2 (Tryd.f12.body.getD .skip))) (thenQ (A8 v) Q) ⟨e, h', n'⟩ := by
  simp [evs, aeval, cx_ti, cx_G, cx_pf, cx_tw, ti, globS, glob, ldcs_1, ldcs_2, ldcs_3, ldcs_4, ldcs_5, ldcs_7, sls.eq_1, slc.eq_1, pfL, hdC, tlC, Tryd.f12, tbl12, G39, pureH, de39, bv]
  exact b.up (by simp [up]) (agree_refl _ _) b.frs
theorem law12c (w : W8 v) (e : Nat → AV) (h' : Heap) (n' : Nat) (b : A8 v ⟨e, h', n'⟩) :
    awp (cx S8 (pfL tbl12)) (hdC 1 (tlC 3 (Tryd.f12.body.getD .skip))) (thenQ (fun s => A8 v s ∧ runT (vars v.q.items) v.t = true) (finQ (cx S8 (pfL tbl12)) Tryd.f12 fun z _ _ => z = bv true)) ⟨e, h', n'⟩ := by
  have b0 := b
  obtain ⟨at2, _, ⟨m5, a5, x5, y5, q5, b5, r5, r5', r5''⟩, _, fr⟩ := b
  simp only [] at at2 q5 b5 r5 r5' r5'' fr
  obtain ⟨ta, q2⟩ : ∃ x, e 2 = x := ⟨_, rfl⟩
  rw [q2] at at2
  have s3 := (sl_is at2).2.2.1
  have o5 := (sl_is r5).2.2.2.1
  have o5' := (sl_is r5').2.2.2.1
  have o5'' := (sl_is r5'').2.2.2.1
  have hda : deQT h' [.g [a5, .v (.int .i64 v.q.mode), .v (.int .i64 v.q.after), x5, .v (.int .i64 v.q.within), .v (.string v.q.par), y5], ta] = some (v.q, v.t) := by
    simp only [deQT, deQ_has (q := v.q) r5 r5' r5'', at2]
  have hoa : okQT (v.q, v.t) := ⟨w.it, w.t1⟩
  have wa : smallT v.t := w.t1
  cases hra : runT (vars v.q.items) v.t with
  | false =>
    simp [evs, aeval, cx_ti, cx_G, cx_pf, cx_tw, ti, globS, glob, ldcs_1, ldcs_2, ldcs_3, ldcs_4, ldcs_5, ldcs_7, sls.eq_1, slc.eq_1, pfL, hdC, tlC, Tryd.f12, q2, q5, b5, s3, o5, o5', o5'', tbl12, G57, pureH, hda, hoa, hra, bv]
  | true =>
    have pa := tree_pos (run_tree hra).1
    cases hta : truthT v.t with
    | false =>
      simp [evs, aeval, cx_ti, cx_G, cx_pf, cx_tw, ti, globS, glob, ldcs_1, ldcs_2, ldcs_3, ldcs_4, ldcs_5, ldcs_7, sls.eq_1, slc.eq_1, pfL, hdC, tlC, Tryd.f12, q2, q5, b5, s3, o5, o5', o5'', tbl12, G57, pureH, hda, hoa, hra, G44, deT, at2, wa, pa, hta, bv]
    | true =>
      simp [evs, aeval, cx_ti, cx_G, cx_pf, cx_tw, ti, globS, glob, ldcs_1, ldcs_2, ldcs_3, ldcs_4, ldcs_5, ldcs_7, sls.eq_1, slc.eq_1, pfL, hdC, tlC, Tryd.f12, q2, q5, b5, s3, o5, o5', o5'', tbl12, G57, pureH, hda, hoa, hra, G44, deT, at2, wa, pa, hta, bv]
      exact b0.up (by simp [up, q2]) (agree_refl _ _) fr
theorem law12d (w : W8 v) (hb : beyondV v.en.ls = false) (e : Nat → AV) (h' : Heap) (n' : Nat) (b : A8 v ⟨e, h', n'⟩) {Q : Ex → St → Prop} :
    awp (cx S8 (pfL tbl12)) (hdC 1 (tlC 4 (Tryd.f12.body.getD .skip))) (thenQ (fun s => A8 v s ∧ s.e 9 = bv (holdsV (compP v.sc (vars v.q.items) v.t) v.en)) Q) ⟨e, h', n'⟩ := by
  have b0 := b
  obtain ⟨at2, ⟨m4, a4, q4, b4, r4⟩, ⟨m5, a5, x5, y5, q5, b5, r5, r5', r5''⟩, ⟨m7, a7, q7, b7, r7⟩, fr⟩ := b
  simp only [] at at2 q4 b4 r4 q5 b5 r5 r5' r5'' q7 b7 r7 fr
  obtain ⟨ta, q2⟩ : ∃ x, e 2 = x := ⟨_, rfl⟩
  rw [q2] at at2
  have s3 := (sl_is at2).2.2.1
  have o4 := (sl_is r4).2.2.2.1
  have o5 := (sl_is r5).2.2.2.1
  have o5' := (sl_is r5').2.2.2.1
  have o5'' := (sl_is r5'').2.2.2.1
  have o7 := (sl_is r7).2.2.2.1
  simp [evs, aeval, cx_ti, cx_G, cx_pf, cx_tw, ti, globS, glob, ldcs_1, ldcs_2, ldcs_3, ldcs_4, ldcs_5, ldcs_7, sls.eq_1, slc.eq_1, pfL, hdC, tlC, Tryd.f12, q2, q4, q5, q7, b4, b5, b7, s3, o4, o5, o5', o5'', o7, tbl12]
  refine (acall_any (S := [7]) (by simp [S8]) (c20 r4 (deQ_has (q := v.q) r5 r5' r5'') at2 w.it w.t1 w.tl ⟨by have := w.s1; unfold big; omega, fun t ht => by have := w.s2 t ht; unfold big; omega⟩ fr)).mono ?_
  rintro z h2 n2 ⟨a1, a2, a3, a4'⟩
  refine ⟨keep_le (agr_le fr a1), ?_⟩
  have hpr := a4'.rd
  obtain ⟨ca, la, rfl, k1, k2, k3, k4, k5, k6⟩ := a4'.is
  have r7' := rd_agr fr r7 _ a1
  have hde : deR h2 [.g [ca, la], .g [a7, .v (.int .i64 v.en.each), .v (.int .i64 v.en.pos)]] = some (compP v.sc (vars v.q.items) v.t, v.en) := by
    simp only [deR, hpr, deEn_has r7']
  have hok : okR (compP v.sc (vars v.q.items) v.t, v.en) := ⟨w.pr, (w.eq hb).en⟩
  simp [evs, aeval, cx_ti, cx_G, cx_pf, cx_tw, ti, globS, glob, ldcs_1, ldcs_2, ldcs_3, ldcs_4, ldcs_5, ldcs_7, sls.eq_1, slc.eq_1, pfL, k1, k2, k3, k4, k5, k6, G31, pureH, hde, hok, bv]
  exact b0.up (by simp [up, q2]) a1 a2
theorem law12e (w : W8 v) (hr : runT (vars v.q.items) v.t = true) (e : Nat → AV) (h' : Heap) (n' : Nat) (b : A8 v ⟨e, h', n'⟩) (q9 : e 9 = bv (holdsV (compP v.sc (vars v.q.items) v.t) v.en)) {Q : Ex → St → Prop} :
    awp (cx S8 (pfL tbl12)) (hdC 2 (tlC 5 (Tryd.f12.body.getD .skip))) (thenQ (fun s => B12 v s ∧ s.e 10 = bv true) Q) ⟨e, h', n'⟩ := by
  have b0 := b
  obtain ⟨at2, _, _, _, fr⟩ := b
  simp only [] at at2 fr
  obtain ⟨ta, q2⟩ : ∃ x, e 2 = x := ⟨_, rfl⟩
  rw [q2] at at2
  have s3 := (sl_is at2).2.2.1
  simp [evs, aeval, cx_ti, cx_G, cx_pf, cx_tw, ti, globS, glob, ldcs_1, ldcs_2, ldcs_3, ldcs_4, ldcs_5, ldcs_7, sls.eq_1, slc.eq_1, pfL, hdC, tlC, Tryd.f12, q2, s3, tbl12]
  refine (acall_any (S := [7]) (by simp [S8]) (c51 at2 (run_tree hr).1 w.t1 fr)).mono ?_
  rintro z h2 n2 ⟨a1, a2, a3, m, u, rfl, hm, hm1, hm2⟩
  exact ⟨⟨b0.up (by simp [up, q2]) a1 a2, by simpa [up] using q9, m, u, by simp [up, conjL], hm⟩, by simp [up, bv]⟩
theorem law12f (w : W8 v) (hb : beyondV v.en.ls = false) (hr : runT (vars v.q.items) v.t = true) (e : Nat → AV) (h' : Heap) (n' : Nat) (b : B12 v ⟨e, h', n'⟩) (q10 : e 10 = bv true) :
    awp (cx S8 (pfL tbl12)) (hdC 1 (tlC 7 (Tryd.f12.body.getD .skip))) (thenQ (fun s => B12 v s ∧ s.e 10 = bv ((conjL v).all (holdR v))) (finQ (cx S8 (pfL tbl12)) Tryd.f12 fun z _ _ => z = bv true)) ⟨e, h', n'⟩ := by
  have ht := (run_tree hr).1
  have T := tre_of ht
  have hall := conj_all T (v.t.length - 1) (by have := T.pos; omega)
  have hlen := conj_len T (v.t.length - 1) (by have := T.pos; omega)
  have ht1 : v.t.length * 64 ≤ 140737488355328 := w.t1
  simp [evs, aeval, cx_ti, cx_G, cx_pf, cx_tw, ti, globS, glob, ldcs_1, ldcs_2, ldcs_3, ldcs_4, ldcs_5, ldcs_7, sls.eq_1, slc.eq_1, pfL, hdC, tlC, Tryd.f12]
  refine awp_loop (fun s => ∃ j, j ≤ (conjL v).length ∧ B12 v s ∧ s.e 12 = ii j ∧ s.e 10 = bv (((conjL v).take j).all (holdR v))) (fun s => (conjL v).length - (s.e 12).i.toNat) ⟨0, by omega, b.up (by simp [up]) (agree_refl _ _) b.a.frs, by simp [up, ii], by simpa [up] using q10⟩ ?_
  rintro e' h'' n'' ⟨j, hj, b, q12, q10⟩
  simp only [] at q12 q10
  have b0 := b
  obtain ⟨⟨at2, ⟨m4, a4, q4, b4, r4⟩, ⟨m5, a5, x5, y5, q5, b5, r5, r5', r5''⟩, ⟨m7, a7, q7, b7, r7⟩, fr⟩, q9, wl, ul, q11, bl⟩ := b
  simp only [] at at2 q4 b4 r4 q5 b5 r5 r5' r5'' q7 b7 r7 fr q9 q11 bl
  obtain ⟨ta, q2⟩ : ∃ x, e' 2 = x := ⟨_, rfl⟩
  rw [q2] at at2
  have s3 := (sl_is at2).2.2.1
  have hL : (conjL v).length ≤ v.t.length := by have := T.pos; unfold conjL; omega
  by_cases hlt : j < (conjL v).length
  · have hmem : (conjL v)[j] ∈ conjL v := List.getElem_mem hlt
    have hrl : (conjL v)[j] < v.t.length := by have := hall.1 _ hmem; have := T.pos; omega
    have htk : ((conjL v).take (j + 1)).all (holdR v) = (((conjL v).take j).all (holdR v) && holdR v (conjL v)[j]) := by
      rw [List.take_succ_eq_append_getElem hlt, List.all_append]; simp
    have hcs : ((conjL v).map fun x : Nat => ii x)[j]? = some (ii ((conjL v)[j] : Nat)) := by simp [hlt]
    have hcl : ((conjL v).map fun x : Nat => ii x).length = (conjL v).length := by simp
    generalize hcc : ((conjL v).map fun x : Nat => ii x) = cs at *
    generalize hrr : (conjL v)[j] = r at *
    have hlt' : (j : Int) < ((conjL v).length : Int) := by omega
    have hj1 : j + 1 ≤ (conjL v).length := hlt
    have hjw := wrap_nat (j := j) (by unfold big; omega)
    simp only [ii] at hcs
    have hcj : j < cs.length := by omega
    have hcg : cs[j]'hcj = .v (.int .i64 r) := by rw [List.getElem?_eq_getElem hcj] at hcs; exact Option.some.inj hcs
    simp [evs, aeval, cx_ti, cx_G, cx_pf, cx_tw, ti, globS, glob, ldcs_1, ldcs_2, ldcs_3, ldcs_4, ldcs_5, ldcs_7, sls.eq_1, slc.eq_1, pfL, q2, q11, q12, ii, bl, hcs, hcg, hcl, hlt, hlt', hj1, s3, tbl12]
    refine (acall_any (S := [7]) (by simp [S8]) (c52 at2 ht w.t1 hrl fr)).mono ?_
    rintro z h2 n2 ⟨a1, a2, a3, m2, rfl, hm, hm1, hm2⟩
    have hag2 : agree n'' h'' h2 := a1
    have b4' : h2 m4 = _ := (a1 m4 (lt_of b4 fr)).trans b4
    have b5' : h2 m5 = _ := (a1 m5 (lt_of b5 fr)).trans b5
    have b7' : h2 m7 = _ := (a1 m7 (lt_of b7 fr)).trans b7
    have r4' := rd_agr fr r4 _ a1
    have rq' := deQ_has (q := v.q) (rd_agr fr r5 _ a1) (rd_agr fr r5' _ a1) (rd_agr fr r5'' _ a1)
    have r7' := rd_agr fr r7 _ a1
    have rs' : rd dNs h2 (.s m2 0 0 (subT v.t r).length) = some (subT v.t r) := flat_in Flat.nd hm rfl (r := []) (by simp)
    have o4 := (sl_is r4).2.2.2.1
    have o5 := (sl_is r5).2.2.2.1
    have o5' := (sl_is r5').2.2.2.1
    have o5'' := (sl_is r5'').2.2.2.1
    have o7 := (sl_is r7).2.2.2.1
    have ws := w.sub ht hrl
    simp [evs, aeval, cx_ti, cx_G, cx_pf, cx_tw, ti, globS, glob, ldcs_1, ldcs_2, ldcs_3, ldcs_4, ldcs_5, ldcs_7, sls.eq_1, slc.eq_1, pfL, q4, q5, q7, b4', b5', b7', o4, o5, o5', o5'', o7, tbl12]
    refine (acall_any (S := [7]) (by simp [S8]) (c20 r4' rq' rs' w.it ws.t1 w.tl ⟨by have := w.s1; unfold big; omega, fun t ht => by have := w.s2 t ht; unfold big; omega⟩ a2)).mono ?_
    rintro z3 h3 n3 ⟨c1, c2, c3, c4⟩
    refine ⟨keep_le (agr_le a2 c1), ?_⟩
    have hpr := c4.rd
    obtain ⟨ca, la, rfl, k1, k2, k3, k4, k5, k6⟩ := c4.is
    have b4'' : h3 m4 = _ := (c1 m4 (by have := lt_of b4 fr; omega)).trans b4'
    have b5'' : h3 m5 = _ := (c1 m5 (by have := lt_of b5 fr; omega)).trans b5'
    have b7'' : h3 m7 = _ := (c1 m7 (by have := lt_of b7 fr; omega)).trans b7'
    have r4'' := rd_agr a2 r4' _ c1
    have rs'' := rd_agr a2 rs' _ c1
    have r7'' := rd_agr a2 r7' _ c1
    have hag3 : agree n'' h'' h3 := agree_trans a1 c1 a3
    have hde : deR h3 [.g [ca, la], .g [a7, .v (.int .i64 v.en.each), .v (.int .i64 v.en.pos)]] = some (compP v.sc (vars v.q.items) (subT v.t r), v.en) := by
      simp only [deR, hpr, deEn_has r7'']
    have hok : okR (compP v.sc (vars v.q.items) (subT v.t r), v.en) := ⟨ws.pr, (w.eq hb).en⟩
    have hde3 : de38 h3 [.g [a4], .g [a5, .v (.int .i64 v.q.mode), .v (.int .i64 v.q.after), x5, .v (.int .i64 v.q.within), .v (.string v.q.par), y5], .s m2 0 0 (subT v.t r).length, .g [a7, .v (.int .i64 v.en.each), .v (.int .i64 v.en.pos)]] = some ⟨v.sc, v.q, subT v.t r, v.en⟩ :=
      de38_in r4'' (deQ_has (q := v.q) (rd_agr fr r5 _ hag3) (rd_agr fr r5' _ hag3) (rd_agr fr r5'' _ hag3)) rs'' (deEn_has r7'')
    have hok3 : EqOk ⟨v.sc, v.q, subT v.t r, v.en⟩ := ws.eq hb
    have hhe : holdsV (compP v.sc (vars v.q.items) (subT v.t r)) v.en = trueV (evalV v.sc (vars v.q.items) v.en (subT v.t r)) := holds_eval (sub_run hr hrl)
    have hhr : holdR v r = holdsV (compP v.sc (vars v.q.items) (subT v.t r)) v.en := rfl
    rw [hhe] at hhr
    have hup : ∀ e2 : Nat → AV, (∀ i ∈ [2, 4, 5, 7, 9, 11], e2 i = e' i) → B12 v ⟨e2, h3, n3⟩ := fun e2 he => b0.up he hag3 c2
    generalize hev : evalV v.sc (vars v.q.items) v.en (subT v.t r) = y at *
    obtain ⟨yk, yn⟩ := y
    rw [hhr] at htk
    cases hA : ((conjL v).take j).all (holdR v) <;> cases hY : trueV ⟨yk, yn⟩ <;> rw [hA, hY] at htk <;> rw [hA] at q10 <;> rw [hY] at hhe
    all_goals
      simp [evs, aeval, cx_ti, cx_G, cx_pf, cx_tw, ti, globS, glob, ldcs_1, ldcs_2, ldcs_3, ldcs_4, ldcs_5, ldcs_7, sls.eq_1, slc.eq_1, pfL, k1, k2, k3, k4, k5, k6, q4, q5, q7, q10, q12, ii, b4'', b5'', b7'', o4, o5, o5', o5'', o7, tbl12, G31, pureH, hde, hok, hhe, hY, G38, hde3, hok3, hev, vv, g20, pure1, deV, bv, hjw]
      refine ⟨⟨j + 1, hj1, hup _ (by simp [up, q2]), by first | omega | simp [up, ii], by simpa using htk⟩, by omega⟩
  · obtain rfl : j = (conjL v).length := by omega
    rw [List.take_length] at q10
    simp [evs, aeval, cx_ti, cx_G, cx_pf, cx_tw, ti, globS, glob, ldcs_1, ldcs_2, ldcs_3, ldcs_4, ldcs_5, ldcs_7, sls.eq_1, slc.eq_1, pfL, q11, q12, ii]
    exact ⟨b0.up (by simp [up, q11]) (agree_refl _ _) fr, by simpa [up] using q10⟩
theorem law12g (w : W8 v) (hb : beyondV v.en.ls = false) (hr : runT (vars v.q.items) v.t = true) (e : Nat → AV) (h' : Heap) (n' : Nat) (b : B12 v ⟨e, h', n'⟩) (q10 : e 10 = bv ((conjL v).all (holdR v))) :
    awp (cx S8 (pfL tbl12)) (tlC 8 (Tryd.f12.body.getD .skip)) (finQ (cx S8 (pfL tbl12)) Tryd.f12 fun z _ _ => z = bv true) ⟨e, h', n'⟩ := by
  obtain ⟨⟨at2, ⟨m4, a4, q4, b4, r4⟩, ⟨m5, a5, x5, y5, q5, b5, r5, r5', r5''⟩, ⟨m7, a7, q7, b7, r7⟩, fr⟩, q9, wl, ul, q11, bl⟩ := b
  simp only [] at at2 q4 b4 r4 q5 b5 r5 r5' r5'' q7 b7 r7 fr q9 q11 bl
  obtain ⟨ta, q2⟩ : ∃ x, e 2 = x := ⟨_, rfl⟩
  rw [q2] at at2
  have ht := (run_tree hr).1
  have T := tre_of ht
  have hne := (conj_all T (v.t.length - 1) (by have := T.pos; omega)).2
  have hpos : 0 < (conjL v).length := List.length_pos_iff.2 hne
  have s3 := (sl_is at2).2.2.1
  have o4 := (sl_is r4).2.2.2.1
  have o5 := (sl_is r5).2.2.2.1
  have o5' := (sl_is r5').2.2.2.1
  have o5'' := (sl_is r5'').2.2.2.1
  have o7 := (sl_is r7).2.2.2.1
  have hok := w.eq hb
  have hde : de38 h' [.g [a4], .g [a5, .v (.int .i64 v.q.mode), .v (.int .i64 v.q.after), x5, .v (.int .i64 v.q.within), .v (.string v.q.par), y5], ta, .g [a7, .v (.int .i64 v.en.each), .v (.int .i64 v.en.pos)]] = some v :=
    de38_in r4 (deQ_has r5 r5' r5'') at2 (deEn_has r7)
  have hhe := holds_eval (sc := v.sc) (en := v.en) hr
  have hcj : trueV (evalV v.sc (vars v.q.items) v.en v.t) = (conjL v).all (holdR v) := by
    rw [evalV, if_pos hr, conj_true T _ (by have := T.pos; omega)]
    unfold conjL
    refine all_eq fun r hr' => ?_
    have hrl : r < v.t.length := by have := (conj_all T (v.t.length - 1) (by have := T.pos; omega)).1 r hr'; have := T.pos; omega
    rw [holdR, holds_eval (sub_run hr hrl), sub_eval hr hrl]
  rw [hhe] at q9
  rw [← hcj] at q10
  generalize hev : evalV v.sc (vars v.q.items) v.en v.t = y at *
  obtain ⟨yk, yn⟩ := y
  cases hy : trueV ⟨yk, yn⟩ with
  | true =>
    rw [hy] at q9 q10
    simp [evs, aeval, cx_ti, cx_G, cx_pf, cx_tw, ti, globS, glob, ldcs_1, ldcs_2, ldcs_3, ldcs_4, ldcs_5, ldcs_7, sls.eq_1, slc.eq_1, pfL, tlC, Tryd.f12, q2, q4, q5, q7, q9, q10, q11, b4, b5, b7, s3, o4, o5, o5', o5'', o7, tbl12, G38, pureH, hde, hok, hev, vv, g20, pure1, deV, hy, bv, hpos]
  | false =>
    rw [hy] at q9 q10
    simp [evs, aeval, cx_ti, cx_G, cx_pf, cx_tw, ti, globS, glob, ldcs_1, ldcs_2, ldcs_3, ldcs_4, ldcs_5, ldcs_7, sls.eq_1, slc.eq_1, pfL, tlC, Tryd.f12, q2, q4, q5, q7, q9, q10, q11, b4, b5, b7, s3, o4, o5, o5', o5'', o7, tbl12, G38, pureH, hde, hok, hev, vv, g20, pure1, deV, hy, bv, hpos]
theorem law12 (e1 : rd dTys h sa = some v.sc) (e2 : rd dIts h qa = some v.q.items) (e3 : rd dNs h qb = some v.q.wh) (e4 : rd dNss h qc = some v.q.ret) (e5 : rd dNs h ta = some v.t) (e6 : rd dEss h la = some v.en.ls) (w : W8 v) (hn : Fresh n h) :
    awp (cx S8 (pfL tbl12)) (Tryd.f12.body.getD .skip) (finQ (cx S8 (pfL tbl12)) Tryd.f12 fun z _ _ => z = bv true) ⟨env0 [.g [sa], .g [qa, .v (.int .i64 v.q.mode), .v (.int .i64 v.q.after), qb, .v (.int .i64 v.q.within), .v (.string v.q.par), qc], ta, .g [la, .v (.int .i64 v.en.each), .v (.int .i64 v.en.pos)]], roH h, n⟩ := by
  refine awp_cut 2 _ _ (law12a e1 e2 e3 e4 e5 e6 w hn _ rfl rfl rfl rfl) fun x1 h1 n1 ⟨b1, hb⟩ => ?_
  refine awp_cut 1 _ _ (law12b x1 h1 n1 b1) fun x2 h2 n2 b2 => ?_
  refine awp_cut 1 _ _ (law12c w x2 h2 n2 b2) fun x3 h3 n3 ⟨b3, hr⟩ => ?_
  refine awp_cut 1 _ _ (law12d w hb x3 h3 n3 b3) fun x4 h4 n4 ⟨b4, c4⟩ => ?_
  refine awp_cut 2 _ _ (law12e w hr x4 h4 n4 b4 c4) fun x5 h5 n5 ⟨b5, c5⟩ => ?_
  refine awp_cut 1 _ _ (law12f w hb hr x5 h5 n5 b5 c5) fun x6 h6 n6 ⟨b6, c6⟩ => ?_
  exact law12g w hb hr x6 h6 n6 b6 c6
end
end Go.Proofs.YtkfphaphiikloaaDoor
