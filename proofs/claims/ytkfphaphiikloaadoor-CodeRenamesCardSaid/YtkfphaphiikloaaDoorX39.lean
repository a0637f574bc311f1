/-
  CodeRenames: the law's own code.
-/
import Derived.Test.YtkfphaphiikloaaDoorX36
import Derived.Test.YtkfphaphiikloaaDoorX37
import Derived.Test.YtkfphaphiikloaaDoorX38
import Derived.Test.YtkfphaphiikloaaDoorX20
set_option linter.unusedSimpArgs false
set_option linter.unusedVariables false
set_option linter.constructorNameAsVariable false
namespace Go.Proofs.YtkfphaphiikloaaDoor
open Go Go.Eng

def S9 : List Nat := [0, 1, 2, 3, 4, 5, 6, 7, 8]
def tbl13 : List (FuncId × (List AV → Heap → PRes)) := [(14, G14), (15, G15), (21, G21), (27, G27), (37, G38), (39, G39), (42, G57)]
theorem tbl13_ok : TbOk S9 tbl13 := tb_cons P14 (tb_cons P15 (tb_cons P21 (tb_cons P27 (tb_cons P37 (tb_cons P39 (tb_cons P42 tb_nil))))))
/-- The query with other names. -/
def qR (q : Qu) : Qu := ⟨(rnVs (vars q.items)).map mkIt, 0, 0, [], 0, ByteArray.empty, []⟩
theorem qR_vars (q : Qu) : vars (qR q).items = rnVs (vars q.items) := vars_mk _
theorem qR_len (q : Qu) : (qR q).items.length = q.items.length := by simp [qR, rnVs, vars]
theorem W8.rn {v : Eq38} (w : W8 v) : W8 ⟨v.sc, qR v.q, rnT (vars v.q.items) v.t, v.en⟩ := by
  have h1 := w.t1
  have h2 := w.q1
  refine ⟨w.s1, w.s2, by rw [show (Eq38.mk v.sc (qR v.q) (rnT (vars v.q.items) v.t) v.en).q.items.length = v.q.items.length from qR_len v.q]; exact h2, by simp [qR, smallT], by simp [qR, big], fun t ht => by simp [qR] at ht, by simp only [rnT_len]; exact h1, fun x hx => ?_, w.e1, w.e2, w.e3, w.e4⟩
  simp only [rnT, List.mem_map] at hx
  obtain ⟨y, hy, rfl⟩ := hx
  exact w.t2 y hy
theorem comp_bg {tys : List Ty} {vs : List ByteArray} {t : List Nd} (h : tys.length * 8 ≤ 140737488355328) (hp : smallT t) : (compP tys vs t).code.length < big ∧ (compP tys vs t).cols.length < big ∧ ∀ l ∈ (compP tys vs t).cols, l.length < big := by
  have hp' : t.length * 64 ≤ 140737488355328 := hp
  unfold compP
  split
  · rename_i hr
    have T := tre_of (show tree1 t = true by simp only [runT, Bool.and_eq_true] at hr; exact hr.1)
    have hf := few T
    refine ⟨?_, ?_, ?_⟩
    · simp only []
      rw [codeT, lay_len]; unfold big; omega
    · simp only [List.length_map]
      have := names_len t t.length
      unfold namesOf big
      omega
    · intro c hc
      obtain ⟨a, _, rfl⟩ := List.mem_map.1 hc
      rw [colOf_len]; unfold big; omega
  · exact ⟨by simp [big], by simp [big], by simp⟩
section
set_option maxRecDepth 100000
set_option maxHeartbeats 4000000
variable {h : Heap} {n : Nat} {sa qa qb qc ta la : AV} {v : Eq38}
theorem law13a (e1 : rd dTys h sa = some v.sc) (e2 : rd dIts h qa = some v.q.items) (e3 : rd dNs h qb = some v.q.wh) (e4 : rd dNss h qc = some v.q.ret) (e5 : rd dNs h ta = some v.t) (e6 : rd dEss h la = some v.en.ls) (w : W8 v) (hn : Fresh n h) (e : Nat → AV)
    (q0 : e 0 = .g [sa]) (q1 : e 1 = .g [qa, .v (.int .i64 v.q.mode), .v (.int .i64 v.q.after), qb, .v (.int .i64 v.q.within), .v (.string v.q.par), qc]) (q2 : e 2 = ta) (q3 : e 3 = .g [la, .v (.int .i64 v.en.each), .v (.int .i64 v.en.pos)]) :
    awp (cx S9 (pfL tbl13)) (hdC 2 (Tryd.f13.body.getD .skip)) (thenQ (fun s => A8 v s ∧ beyondV v.en.ls = false) (finQ (cx S9 (pfL tbl13)) Tryd.f13 fun z _ _ => z = bv true)) ⟨e, roH h, n⟩ := by
  have o1 := (sl_is e1).2.2.2.1
  have o2 := (sl_is e2).2.2.2.1
  have o3 := (sl_is e3).2.2.2.1
  have o4 := (sl_is e4).2.2.2.1
  have o5 := (sl_is e6).2.2.2.1
  obtain ⟨s1, s2, s3, s4, s5⟩ := sl_is e5
  have r3 := (sl_is e6).2.2.1
  have g6 := rd_agree hn e6
  have g5 := rd_agree hn e5
  have gq : ∀ h', agree n (roH h) h' → deQ h' (.g [qa, .v (.int .i64 v.q.mode), .v (.int .i64 v.q.after), qb, .v (.int .i64 v.q.within), .v (.string v.q.par), qc]) = some v.q := fun h' ha => deQ_has (rd_agree hn e2 h' ha) (rd_agree hn e3 h' ha) (rd_agree hn e4 h' ha)
  have w1 := w.w1
  have w2 := w.w2
  have w3 : smallT v.q.wh ∧ v.q.ret.length < big ∧ ∀ t ∈ v.q.ret, smallT t := ⟨w.q2, w.q3, w.q4⟩
  have w4 : smallT v.t := w.t1
  have fr := roH_fresh hn
  cases hq : qdeep v.q with
  | true =>
    simp [evs, aeval, binS, cx_ti, cx_G, cx_pf, cx_tw, ti, globS, glob, ldcs_1, ldcs_2, ldcs_3, ldcs_4, ldcs_5, ldcs_7, sls.eq_1, slc.eq_1, pfL, hdC, Tryd.f13, q0, q1, q2, q3, o1, o2, o3, o4, o5, s3, r3, bv, tbl13, pureH, agree_up, agree_refl, G14, deQ1, gq, hq]
    exact w3
  | false =>
    cases ht : deepB v.t with
    | true =>
      simp [evs, aeval, binS, cx_ti, cx_G, cx_pf, cx_tw, ti, globS, glob, ldcs_1, ldcs_2, ldcs_3, ldcs_4, ldcs_5, ldcs_7, sls.eq_1, slc.eq_1, pfL, hdC, Tryd.f13, q0, q1, q2, q3, o1, o2, o3, o4, o5, s3, r3, bv, tbl13, pureH, agree_up, agree_refl, G14, deQ1, gq, hq, G15, deT, g5, ht]
      exact ⟨w3, w4⟩
    | false =>
      cases hb : beyondV v.en.ls with
      | true =>
        simp [evs, aeval, binS, cx_ti, cx_G, cx_pf, cx_tw, ti, globS, glob, ldcs_1, ldcs_2, ldcs_3, ldcs_4, ldcs_5, ldcs_7, sls.eq_1, slc.eq_1, pfL, hdC, Tryd.f13, q0, q1, q2, q3, o1, o2, o3, o4, o5, s3, r3, bv, tbl13, pureH, agree_up, agree_refl, G14, deQ1, gq, hq, G15, deT, g5, ht, G27, deLL, g6, w1, hb]
        exact ⟨w3, w4, w2⟩
      | false =>
        simp [evs, aeval, binS, cx_ti, cx_G, cx_pf, cx_tw, ti, globS, glob, ldcs_1, ldcs_2, ldcs_3, ldcs_4, ldcs_5, ldcs_7, sls.eq_1, slc.eq_1, pfL, hdC, Tryd.f13, q0, q1, q2, q3, o1, o2, o3, o4, o5, s3, r3, bv, tbl13, pureH, agree_up, agree_refl, G14, deQ1, gq, hq, G15, deT, g5, ht, G27, deLL, g6, w1, hb]
        refine ⟨w3, w4, w2, ?_⟩
        have ag : ∀ b1 b2 b3 : Option Blk, agree n (roH h) (up (up (up (roH h) n b1) (n + 1) b2) (n + 2) b3) := fun b1 b2 b3 => by simp [agree_up, agree_refl]
        exact ⟨by simpa [up, q2] using g5 _ (ag _ _ _), ⟨n, sa, by simp [up], by simp [up], rd_agree hn e1 _ (ag _ _ _)⟩, ⟨n + 1, qa, qb, qc, by simp [up], by simp [up], rd_agree hn e2 _ (ag _ _ _), rd_agree hn e3 _ (ag _ _ _), rd_agree hn e4 _ (ag _ _ _)⟩, ⟨n + 2, la, by simp [up], by simp [up], g6 _ (ag _ _ _)⟩, by simp [fresh_up, fr.add]⟩
theorem law13b (e : Nat → AV) (h' : Heap) (n' : Nat) (b : A8 v ⟨e, h', n'⟩) {Q : Ex → St → Prop} :
    awp (cx S9 (pfL tbl13)) (hdC 1 (tlC 2 (Tryd.f13.body.getD .skip))) (thenQ (A8 v) Q) ⟨e, h', n'⟩ := by
  simp [evs, aeval, binS, cx_ti, cx_G, cx_pf, cx_tw, ti, globS, glob, ldcs_1, ldcs_2, ldcs_3, ldcs_4, ldcs_5, ldcs_7, sls.eq_1, slc.eq_1, pfL, hdC, tlC, Tryd.f13, tbl13, G39, pureH, de39, bv]
  exact b.up (by simp [up]) (agree_refl _ _) b.frs
theorem law13c (w : W8 v) (e : Nat → AV) (h' : Heap) (n' : Nat) (b : A8 v ⟨e, h', n'⟩) :
    awp (cx S9 (pfL tbl13)) (hdC 1 (tlC 3 (Tryd.f13.body.getD .skip))) (thenQ (fun s => A8 v s ∧ runT (vars v.q.items) v.t = true ∧ v.q.items.length ≤ 1000) (finQ (cx S9 (pfL tbl13)) Tryd.f13 fun z _ _ => z = bv true)) ⟨e, h', n'⟩ := by
  have b0 := b
  obtain ⟨at2, _, ⟨m5, a5, x5, y5, q5, b5, r5, r5', r5''⟩, _, fr⟩ := b
  simp only [] at at2 q5 b5 r5 r5' r5'' fr
  obtain ⟨ta, q2⟩ : ∃ x, e 2 = x := ⟨_, rfl⟩
  rw [q2] at at2
  have s3 := (sl_is at2).2.2.1
  obtain ⟨p1, p2, p3, o5, p5⟩ := sl_is r5
  have o5' := (sl_is r5').2.2.2.1
  have o5'' := (sl_is r5'').2.2.2.1
  have hda : deQT h' [.g [a5, .v (.int .i64 v.q.mode), .v (.int .i64 v.q.after), x5, .v (.int .i64 v.q.within), .v (.string v.q.par), y5], ta] = some (v.q, v.t) := by
    simp only [deQT, deQ_has (q := v.q) r5 r5' r5'', at2]
  have hoa : okQT (v.q, v.t) := ⟨w.it, w.t1⟩
  cases hra : runT (vars v.q.items) v.t with
  | false =>
    simp [evs, aeval, binS, cx_ti, cx_G, cx_pf, cx_tw, ti, globS, glob, ldcs_1, ldcs_2, ldcs_3, ldcs_4, ldcs_5, ldcs_7, sls.eq_1, slc.eq_1, pfL, hdC, tlC, Tryd.f13, q2, q5, b5, s3, o5, o5', o5'', p1, p2, p3, tbl13, G57, pureH, hda, hoa, hra, bv]
  | true =>
    by_cases hl : v.q.items.length ≤ 1000
    · have hl' : ¬ (1000 : Int) < (v.q.items.length : Int) := by omega
      simp [evs, aeval, binS, cx_ti, cx_G, cx_pf, cx_tw, ti, globS, glob, ldcs_1, ldcs_2, ldcs_3, ldcs_4, ldcs_5, ldcs_7, sls.eq_1, slc.eq_1, pfL, hdC, tlC, Tryd.f13, q2, q5, b5, s3, o5, o5', o5'', p1, p2, p3, tbl13, G57, pureH, hda, hoa, hra, hl', hl, bv]
      exact b0.up (by simp [up, q2]) (agree_refl _ _) fr
    · have hl' : (1000 : Int) < (v.q.items.length : Int) := by omega
      simp [evs, aeval, binS, cx_ti, cx_G, cx_pf, cx_tw, ti, globS, glob, ldcs_1, ldcs_2, ldcs_3, ldcs_4, ldcs_5, ldcs_7, sls.eq_1, slc.eq_1, pfL, hdC, tlC, Tryd.f13, q2, q5, b5, s3, o5, o5', o5'', p1, p2, p3, tbl13, G57, pureH, hda, hoa, hra, hl', hl, bv]
theorem law13d (w : W8 v) (hr : runT (vars v.q.items) v.t = true) (hl : v.q.items.length ≤ 1000) (e : Nat → AV) (h' : Heap) (n' : Nat) (b : A8 v ⟨e, h', n'⟩) {Q : Ex → St → Prop} :
    awp (cx S9 (pfL tbl13)) (hdC 1 (tlC 4 (Tryd.f13.body.getD .skip))) (thenQ (fun s => A8 v s ∧ HasQ s.h (s.e 9) (qR v.q) ∧ rd dNs s.h (s.e 10) = some (rnT (vars v.q.items) v.t)) Q) ⟨e, h', n'⟩ := by
  have b0 := b
  obtain ⟨at2, _, ⟨m5, a5, x5, y5, q5, b5, r5, r5', r5''⟩, _, fr⟩ := b
  simp only [] at at2 q5 b5 r5 r5' r5'' fr
  obtain ⟨ta, q2⟩ : ∃ x, e 2 = x := ⟨_, rfl⟩
  rw [q2] at at2
  have s3 := (sl_is at2).2.2.1
  have o5 := (sl_is r5).2.2.2.1
  have o5' := (sl_is r5').2.2.2.1
  have o5'' := (sl_is r5'').2.2.2.1
  simp [evs, aeval, binS, cx_ti, cx_G, cx_pf, cx_tw, ti, globS, glob, ldcs_1, ldcs_2, ldcs_3, ldcs_4, ldcs_5, ldcs_7, sls.eq_1, slc.eq_1, pfL, hdC, tlC, Tryd.f13, q2, q5, b5, s3, o5, o5', o5'', tbl13]
  refine (acall_any (S := [8]) (by simp [S9]) (c53 (deQ_has (q := v.q) r5 r5' r5'') at2 hl w.t1 hr fr)).mono ?_
  rintro z h2 n2 ⟨a1, a2, a3, za, zt, rfl, k1, k2⟩
  have o1 := (sl_is k1).2.2.2.1
  obtain ⟨t1, t2, t3, t4, t5⟩ := sl_is k2
  simp [evs, aeval, binS, cx_ti, cx_G, cx_pf, cx_tw, ti, globS, glob, ldcs_1, ldcs_2, ldcs_3, ldcs_4, ldcs_5, ldcs_7, sls.eq_1, slc.eq_1, pfL, zqI, o1, t4, t5]
  have g : ∀ x1 x2 : Option Blk, agree n2 h2 (up (up h2 n2 x1) n2 x2) := fun x1 x2 => by simp [agree_up, agree_refl]
  exact ⟨b0.up (by simp [up, q2]) (agree_trans a1 (g _ _) a3) (by simp [fresh_up, a2.add]), ⟨n2, za, .v (.slice none 0 0), .v (.slice none 0 0), by simp [up], by simp [up, qR], rd_agr a2 k1 _ (g _ _), rfl, rfl⟩, rd_agr a2 k2 _ (g _ _)⟩
theorem law13e (w : W8 v) (hb : beyondV v.en.ls = false) (hr : runT (vars v.q.items) v.t = true) (hl : v.q.items.length ≤ 1000) (e : Nat → AV) (h' : Heap) (n' : Nat) (b : A8 v ⟨e, h', n'⟩) (hq : HasQ h' (e 9) (qR v.q)) (ht : rd dNs h' (e 10) = some (rnT (vars v.q.items) v.t)) :
    awp (cx S9 (pfL tbl13)) (tlC 5 (Tryd.f13.body.getD .skip)) (finQ (cx S9 (pfL tbl13)) Tryd.f13 fun z _ _ => z = bv true) ⟨e, h', n'⟩ := by
  obtain ⟨at2, ⟨m4, a4, q4, b4, r4⟩, ⟨m5, a5, x5, y5, q5, b5, r5, r5', r5''⟩, ⟨m7, a7, q7, b7, r7⟩, fr⟩ := b
  obtain ⟨m9, a9, x9, y9, q9, b9, r9, r9', r9''⟩ := hq
  simp only [] at at2 q4 b4 r4 q5 b5 r5 r5' r5'' q7 b7 r7 fr
  obtain ⟨ta, q2⟩ : ∃ x, e 2 = x := ⟨_, rfl⟩
  obtain ⟨tb, q10⟩ : ∃ x, e 10 = x := ⟨_, rfl⟩
  rw [q2] at at2
  rw [q10] at ht
  have s3 := (sl_is at2).2.2.1
  have t3 := (sl_is ht).2.2.1
  have o4 := (sl_is r4).2.2.2.1
  have o5 := (sl_is r5).2.2.2.1
  have o5' := (sl_is r5').2.2.2.1
  have o5'' := (sl_is r5'').2.2.2.1
  have o7 := (sl_is r7).2.2.2.1
  have o9 := (sl_is r9).2.2.2.1
  have o9' := (sl_is r9').2.2.2.1
  have o9'' := (sl_is r9'').2.2.2.1
  have wr := w.rn
  have hsm : smallS v.sc := ⟨by have := w.s1; unfold big; omega, fun t ht => by have := w.s2 t ht; unfold big; omega⟩
  have hvl : (vars v.q.items).length ≤ 1000 := by simpa [vars] using hl
  simp [evq, aeval, binS, cx_ti, cx_G, cx_pf, cx_tw, ti, globS, glob, ldcs_1, ldcs_2, ldcs_3, ldcs_4, ldcs_5, ldcs_7, sls.eq_1, slc.eq_1, pfL, tlC, Tryd.f13, q2, q4, q5, q7, q9, q10, b4, b5, b7, b9, s3, t3, o4, o5, o5', o5'', o7, o9, o9', o9'', tbl13]
  refine atl_call (by kernel_rfl) rfl rfl rfl ?_
  refine (acall_any (S := [7]) (by simp [S9]) (c20 r4 (deQ_has (q := v.q) r5 r5' r5'') at2 w.it w.t1 w.tl hsm fr)).mono ?_
  rintro z1 h2 n2 ⟨a1, a2, a3, p1⟩
  refine ⟨keep_le (agr_le fr a1), ?_⟩
  obtain ⟨ca, la, rfl, k1, k2, k3, k4, k5, k6⟩ := p1.is
  have r4' := rd_agr fr r4 _ a1
  have rq' := deQ_has (q := qR v.q) (rd_agr fr r9 _ a1) (rd_agr fr r9' _ a1) (rd_agr fr r9'' _ a1)
  have rt' := rd_agr fr ht _ a1
  simp [evq, aeval, binS, cx_ti, cx_G, cx_pf, cx_tw, ti, globS, glob, ldcs_1, ldcs_2, ldcs_3, ldcs_4, ldcs_5, ldcs_7, sls.eq_1, slc.eq_1, pfL, k1, k2, k3, k4, tbl13]
  refine atl_call (by kernel_rfl) rfl rfl rfl ?_
  refine (acall_any (S := [7]) (by simp [S9]) (c20 r4' rq' rt' wr.it wr.t1 w.tl hsm a2)).mono ?_
  rintro z2 h3 n3 ⟨c1, c2, c3, p2⟩
  refine ⟨keep_le (agr_le a2 c1), atl_quiet (by kernel_rfl) (by kernel_rfl) ?_⟩
  obtain ⟨cb, lb, rfl, j1, j2, j3, j4, j5, j6⟩ := p2.is
  have e1 : dePr h3 (.g [ca, la]) = some (compP v.sc (vars v.q.items) v.t) := (p1.up (h' := h3) (fun q _ hq => c1 q hq) (Nat.le_refl _) (Nat.le_refl _)).rd
  have e2 : dePr h3 (.g [cb, lb]) = some (compP v.sc (vars v.q.items) v.t) := by
    have := p2.rd
    rw [qR_vars, comp_rn hvl hr] at this
    exact this
  have hd21 : de21 h3 [.g [ca, la], .g [cb, lb]] = some (compP v.sc (vars v.q.items) v.t, compP v.sc (vars v.q.items) v.t) := by simp only [de21, e1, e2]
  have hbig := comp_bg (vs := vars v.q.items) (t := v.t) w.tl w.t1
  have ag3 : agree n' h' h3 := agree_trans a1 c1 a3
  have hde : de38 h3 [.g [a4], .g [a5, .v (.int .i64 v.q.mode), .v (.int .i64 v.q.after), x5, .v (.int .i64 v.q.within), .v (.string v.q.par), y5], ta, .g [a7, .v (.int .i64 v.en.each), .v (.int .i64 v.en.pos)]] = some v :=
    de38_in (rd_agr fr r4 _ ag3) (deQ_has (rd_agr fr r5 _ ag3) (rd_agr fr r5' _ ag3) (rd_agr fr r5'' _ ag3)) (rd_agr fr at2 _ ag3) (deEn_has (rd_agr fr r7 _ ag3))
  have hde2 : de38 h3 [.g [a4], .g [a9, .v (.int .i64 (qR v.q).mode), .v (.int .i64 (qR v.q).after), x9, .v (.int .i64 (qR v.q).within), .v (.string (qR v.q).par), y9], tb, .g [a7, .v (.int .i64 v.en.each), .v (.int .i64 v.en.pos)]] = some ⟨v.sc, qR v.q, rnT (vars v.q.items) v.t, v.en⟩ :=
    de38_in (v := ⟨v.sc, qR v.q, rnT (vars v.q.items) v.t, v.en⟩) (rd_agr fr r4 _ ag3) (deQ_has (rd_agr fr r9 _ ag3) (rd_agr fr r9' _ ag3) (rd_agr fr r9'' _ ag3)) (rd_agr fr ht _ ag3) (deEn_has (rd_agr fr r7 _ ag3))
  have hok := w.eq hb
  have hok2 := wr.eq hb
  have hev : evalV v.sc (vars (qR v.q).items) v.en (rnT (vars v.q.items) v.t) = evalV v.sc (vars v.q.items) v.en v.t := by rw [qR_vars]; exact eval_rn hvl hr
  generalize hx : evalV v.sc (vars v.q.items) v.en v.t = x at *
  generalize compP v.sc (vars v.q.items) v.t = P at *
  have d4 := (ag3 m4 (lt_of b4 fr)).trans b4
  have d5 := (ag3 m5 (lt_of b5 fr)).trans b5
  have d7 := (ag3 m7 (lt_of b7 fr)).trans b7
  have d9 := (ag3 m9 (lt_of b9 fr)).trans b9
  generalize qR v.q = qq at *
  simp [evq, aeval, binS, cx_ti, cx_G, cx_pf, cx_tw, ti, globS, glob, ldcs_1, ldcs_2, ldcs_3, ldcs_4, ldcs_5, ldcs_7, sls.eq_1, slc.eq_1, pfL, qseq_nil, qseq_cons, d4, d5, d7, d9, q2, q4, q5, q7, q9, q10, b4, b5, b7, b9, s3, t3, o4, o5, o5', o5'', o7, o9, o9', o9'', k1, k2, k3, k4, j1, j2, j3, j4, tbl13, G21, pureH, hd21, hbig, G38, hde, hde2, hok, hok2, hev, hx, vv, bv]
  exact hbig.2.2
theorem law13 (e1 : rd dTys h sa = some v.sc) (e2 : rd dIts h qa = some v.q.items) (e3 : rd dNs h qb = some v.q.wh) (e4 : rd dNss h qc = some v.q.ret) (e5 : rd dNs h ta = some v.t) (e6 : rd dEss h la = some v.en.ls) (w : W8 v) (hn : Fresh n h) :
    awp (cx S9 (pfL tbl13)) (Tryd.f13.body.getD .skip) (finQ (cx S9 (pfL tbl13)) Tryd.f13 fun z _ _ => z = bv true) ⟨env0 [.g [sa], .g [qa, .v (.int .i64 v.q.mode), .v (.int .i64 v.q.after), qb, .v (.int .i64 v.q.within), .v (.string v.q.par), qc], ta, .g [la, .v (.int .i64 v.en.each), .v (.int .i64 v.en.pos)]], roH h, n⟩ := by
  refine awp_cut 2 _ _ (law13a e1 e2 e3 e4 e5 e6 w hn _ rfl rfl rfl rfl) fun x1 h1 n1 ⟨b1, hb⟩ => ?_
  refine awp_cut 1 _ _ (law13b x1 h1 n1 b1) fun x2 h2 n2 b2 => ?_
  refine awp_cut 1 _ _ (law13c w x2 h2 n2 b2) fun x3 h3 n3 ⟨b3, hr, hl⟩ => ?_
  refine awp_cut 1 _ _ (law13d w hr hl x3 h3 n3 b3) fun x4 h4 n4 ⟨b4, q4, t4⟩ => ?_
  exact law13e w hb hr hl x4 h4 n4 b4 q4 t4
end
end Go.Proofs.YtkfphaphiikloaaDoor

/-
  THE ROW KIT, MORE: the table of powers of ten.
-/
namespace Go.Proofs.YtkfphaphiikloaaDoor
open Go Go.Eng Go.RowKit Go.ChangeShapes Go.WideShapes

set_option maxRecDepth 100000 in
theorem rdPow : Rd 187 Rows.laid_internal_strconv_uint64pow10 ((glob 8).getD []) :=
  rd_ints (n := 20) Tryd.underlying187 Tryd.underlying117 (by kernel_rfl) (by kernel_rfl) [1, 10, 100, 1000, 10000, 100000, 1000000, 10000000, 100000000, 1000000000, 10000000000, 100000000000, 1000000000000, 10000000000000, 100000000000000, 1000000000000000, 10000000000000000, 100000000000000000, 1000000000000000000, 10000000000000000000] rfl
theorem at8 {laid : List (String × DataW Unit)} {W : World} (hL : laidMetH Tryd.prog laid W) (hpl : (laid.all fun x => x.2.handleName?.isNone) = true) (hm : ("internal/strconv.uint64pow10", Rows.laid_internal_strconv_uint64pow10) ∈ laid) : GlobAt W 8 := globAt_of hL hpl hm (by kernel_rfl) (by kernel_rfl) rdPow rfl
end Go.Proofs.YtkfphaphiikloaaDoor
