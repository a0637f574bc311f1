/-
  CodeSkips: the law's own code.
-/
import Derived.Test.YtkfphaphiikloaaDoorX37
set_option linter.unusedSimpArgs false
set_option linter.unusedVariables false
set_option linter.constructorNameAsVariable false
namespace Go.Proofs.YtkfphaphiikloaaDoor
open Go Go.Eng

def tbl10 : List (FuncId × (List AV → Heap → PRes)) := [(14, G14), (15, G15), (27, G27), (29, G29), (37, G38), (39, G39), (42, G57), (44, G44), (48, g20)]
theorem tbl10_ok : TbOk S8 tbl10 := tb_cons P14 (tb_cons P15 (tb_cons P27 (tb_cons P29 (tb_cons P37 (tb_cons P39 (tb_cons P42 (tb_cons P44 (tb_cons p20 tb_nil))))))))
def opS (o : Bool) : Int := if o then 26 else 25
/-- A program in a cell apart. -/
def HasR (s : St) (i p0 : Nat) (p : Pr) : Prop := ∃ m lo hi ca la, s.e i = .p m 0 0 ∧ s.h m = some ⟨[ca, la], 0, true, 2⟩ ∧ OwnQ s.h lo hi (.g [ca, la]) p ∧ p0 ≤ m ∧ p0 ≤ lo ∧ m < s.n ∧ hi ≤ s.n ∧ ¬ (lo ≤ m ∧ m < hi)
theorem HasR.up {s s' : St} {i p0 : Nat} {p : Pr} (a : HasR s i p0 p) (he : s'.e i = s.e i) (hh : ∀ q, p0 ≤ q → q < s.n → s'.h q = s.h q) (hn : s.n ≤ s'.n) : HasR s' i p0 p := by
  obtain ⟨m, lo, hi, ca, la, h1, h2, h3, h4, h5, h6, h7, h8⟩ := a
  exact ⟨m, lo, hi, ca, la, he.trans h1, by rw [hh m h4 h6]; exact h2, h3.up (fun q k1 k2 => hh q (by omega) (by omega)) (Nat.le_refl _) (Nat.le_refl _), h4, h5, by omega, by omega, h8⟩
/-- Its code turned. -/
theorem OwnQ.turn {h h' : Heap} {lo hi w u : Nat} {ca la : AV} {p : Pr} (o : OwnQ h lo hi (.g [ca, la]) p) (hca : ca = .s w u 0 p.code.length) {code : List Ins} (hl : code.length = p.code.length) (hw : h' w = some ⟨code.flatMap icells, u, true, 5⟩) (hoth : ∀ q, q ≠ w → h' q = h q) (hne : p.code ≠ []) : OwnQ h' lo hi (.g [ca, la]) ⟨code, p.cols⟩ := by
  obtain ⟨ca', la', hz, o1, o2⟩ := o
  obtain ⟨rfl, rfl⟩ : ca = ca' ∧ la = la' := by injection hz with hz; injection hz with h1 h2; injection h2 with h2 _; exact ⟨h1, h2⟩
  refine ⟨ca, la, rfl, ?_, ?_⟩
  · rcases o1 with ⟨h0, _⟩ | ⟨w', u', k1, k2, k3, k4⟩
    · exact absurd h0 hne
    · rw [hca] at k1
      injection k1 with k5 k6 _ _
      subst k5 k6
      exact .inr ⟨w, u, by rw [hca]; simp only [hl], hw, k3, k4⟩
  · rcases o2 with h0 | ⟨w', u', cs, k1, k2, k3, k4, k5, k6, k7⟩
    · exact .inl h0
    · have hs : sid ca w := by rw [hca]; rfl
      have n1 : w' ≠ w := fun e => k5 (by rw [e]; exact hs)
      refine .inr ⟨w', u', cs, k1, by rw [hoth _ n1]; exact k2, k3, k4, k5, k6, fun i hi => ?_⟩
      obtain ⟨c, j1, j2⟩ := k7 i hi
      refine ⟨c, j1, ?_⟩
      rcases j2 with j0 | ⟨b, v, d1, d2, d3, d4, d5⟩
      · exact .inl j0
      · have n2 : b ≠ w := fun e => d5 (.inl (by rw [e]; exact hs))
        exact .inr ⟨b, v, d1, by rw [hoth _ n2]; exact d2, d3, d4, d5⟩
section
set_option maxRecDepth 100000
set_option maxHeartbeats 4000000
variable {h : Heap} {n : Nat} {sa qa qb qc ta tb la : AV} {v : Eq9} {o : Bool}
theorem law10a (e1 : rd dTys h sa = some v.sc) (e2 : rd dIts h qa = some v.q.items) (e3 : rd dNs h qb = some v.q.wh) (e4 : rd dNss h qc = some v.q.ret) (e5 : rd dNs h ta = some v.a) (e5' : rd dNs h tb = some v.b) (e6 : rd dEss h la = some v.en.ls) (w : W9 v) (hn : Fresh n h) (e : Nat → AV)
    (q0 : e 0 = .g [sa]) (q1 : e 1 = .g [qa, .v (.int .i64 v.q.mode), .v (.int .i64 v.q.after), qb, .v (.int .i64 v.q.within), .v (.string v.q.par), qc]) (q2 : e 2 = bv o) (q3 : e 3 = ta) (q4 : e 4 = tb) (q5 : e 5 = .g [la, .v (.int .i64 v.en.each), .v (.int .i64 v.en.pos)]) :
    awp (cx S8 (pfL tbl10)) (hdC 2 (Tryd.f10.body.getD .skip)) (thenQ (fun s => A9 v s ∧ s.e 2 = bv o ∧ beyondV v.en.ls = false) (finQ (cx S8 (pfL tbl10)) Tryd.f10 fun z _ _ => z = bv true)) ⟨e, roH h, n⟩ := by
  have o1 := (sl_is e1).2.2.2.1
  have o2 := (sl_is e2).2.2.2.1
  have o3 := (sl_is e3).2.2.2.1
  have o4 := (sl_is e4).2.2.2.1
  have o5 := (sl_is e6).2.2.2.1
  obtain ⟨s1, s2, s3, s4, s5⟩ := sl_is e5
  obtain ⟨t1, t2, t3, t4, t5⟩ := sl_is e5'
  have r3 := (sl_is e6).2.2.1
  have g6 := rd_agree hn e6
  have g5 := rd_agree hn e5
  have g5' := rd_agree hn e5'
  have gq : ∀ h', agree n (roH h) h' → deQ h' (.g [qa, .v (.int .i64 v.q.mode), .v (.int .i64 v.q.after), qb, .v (.int .i64 v.q.within), .v (.string v.q.par), qc]) = some v.q := fun h' ha => deQ_has (rd_agree hn e2 h' ha) (rd_agree hn e3 h' ha) (rd_agree hn e4 h' ha)
  have w1 := w.w1
  have w2 := w.w2
  have w3 : smallT v.q.wh ∧ v.q.ret.length < big ∧ ∀ t ∈ v.q.ret, smallT t := ⟨w.q2, w.q3, w.q4⟩
  have w4 := w.sm 25
  have fr := roH_fresh hn
  have ag : ∀ b1 b2 b3 : Option Blk, agree n (roH h) (up (up (up (roH h) n b1) (n + 1) b2) (n + 2) b3) := fun b1 b2 b3 => by simp [agree_up, agree_refl]
  have fr3 : ∀ b1 b2 b3 : Option Blk, Fresh (n + 3) (up (up (up (roH h) n b1) (n + 1) b2) (n + 2) b3) := fun b1 b2 b3 => by simp [fresh_up, fr.add]
  cases hq : qdeep v.q with
  | true =>
    simp [evs, aeval, cx_ti, cx_G, cx_pf, cx_tw, ti, globS, glob, ldcs_1, ldcs_2, ldcs_3, ldcs_4, ldcs_5, ldcs_7, sls.eq_1, slc.eq_1, pfL, hdC, Tryd.f10, q0, q1, q2, q3, q4, q5, ii, o1, o2, o3, o4, o5, s3, t3, r3, bv, tbl10, pureH, agree_up, agree_refl, G14, deQ1, gq, hq]
    exact w3
  | false =>
    simp [evs, aeval, cx_ti, cx_G, cx_pf, cx_tw, ti, globS, glob, ldcs_1, ldcs_2, ldcs_3, ldcs_4, ldcs_5, ldcs_7, sls.eq_1, slc.eq_1, pfL, hdC, Tryd.f10, q0, q1, q2, q3, q4, q5, ii, o1, o2, o3, o4, o5, s3, t3, r3, bv, tbl10, pureH, agree_up, agree_refl, G14, deQ1, gq, hq]
    refine ⟨w3, ?_⟩
    refine (acall_any (S := []) (by simp) (c43 (op := 25) (g5 _ (ag _ _ _)) (g5' _ (ag _ _ _)) w.t1 (fr3 _ _ _))).mono ?_
    rintro z h2 n2 ⟨a1, a2, a3, u, rfl, hu, hu1⟩
    have gj : ∀ h', agree n2 h2 h' → rd dNs h' (.s (n + 3) u 0 (joinT 25 v.a v.b).length) = some (joinT 25 v.a v.b) := fun h' ha => flat_in Flat.nd (l := joinT 25 v.a v.b) (by rw [ha _ hu1]; exact hu) rfl (r := []) (by simp)
    have b2 : h2 (n + 2) = some ⟨[la, .v (.int .i64 v.en.each), .v (.int .i64 v.en.pos)], 0, true, 3⟩ := by rw [a1 (n + 2) (by omega)]; simp [up]
    have b0 : h2 n = some ⟨[sa], 0, true, 1⟩ := by rw [a1 n (by omega)]; simp [up]
    have b1 : h2 (n + 1) = some ⟨[qa, .v (.int .i64 v.q.mode), .v (.int .i64 v.q.after), qb, .v (.int .i64 v.q.within), .v (.string v.q.par), qc], 0, true, 7⟩ := by rw [a1 (n + 1) (by omega)]; simp [up]
    have ag2 : agree n (roH h) h2 := fun j hj => by rw [a1 j (by omega)]; exact ag _ _ _ j hj
    have g6' : rd dEss h2 la = some v.en.ls := g6 _ ag2
    cases ht : deepB (joinT 25 v.a v.b) with
    | true =>
      simp [evs, aeval, cx_ti, cx_G, cx_pf, cx_tw, ti, globS, glob, ldcs_1, ldcs_2, ldcs_3, ldcs_4, ldcs_5, ldcs_7, sls.eq_1, slc.eq_1, pfL, b2, r3, bv, tbl10, pureH, agree_refl, G15, deT, gj, ht]
      exact w4
    | false =>
      cases hb : beyondV v.en.ls with
      | true =>
        simp [evs, aeval, cx_ti, cx_G, cx_pf, cx_tw, ti, globS, glob, ldcs_1, ldcs_2, ldcs_3, ldcs_4, ldcs_5, ldcs_7, sls.eq_1, slc.eq_1, pfL, b2, r3, bv, tbl10, pureH, agree_refl, G15, deT, gj, ht, G27, deLL, g6', w1, hb]
        exact ⟨w4, w2⟩
      | false =>
        simp [evs, aeval, cx_ti, cx_G, cx_pf, cx_tw, ti, globS, glob, ldcs_1, ldcs_2, ldcs_3, ldcs_4, ldcs_5, ldcs_7, sls.eq_1, slc.eq_1, pfL, b2, r3, bv, tbl10, pureH, agree_refl, G15, deT, gj, ht, G27, deLL, g6', w1, hb]
        refine ⟨w4, w2, ?_⟩
        exact ⟨by simpa [up, q3] using g5 _ ag2, by simpa [up, q4] using g5' _ ag2, ⟨n, sa, by simp [up], b0, rd_agree hn e1 _ ag2⟩, ⟨n + 1, qa, qb, qc, by simp [up], b1, rd_agree hn e2 _ ag2, rd_agree hn e3 _ ag2, rd_agree hn e4 _ ag2⟩, ⟨n + 2, la, by simp [up], b2, g6'⟩, a2⟩
theorem law10b (e : Nat → AV) (h' : Heap) (n' : Nat) (b : A9 v ⟨e, h', n'⟩) (q2 : e 2 = bv o) {Q : Ex → St → Prop} :
    awp (cx S8 (pfL tbl10)) (hdC 1 (tlC 2 (Tryd.f10.body.getD .skip))) (thenQ (fun s => A9 v s ∧ s.e 2 = bv o) Q) ⟨e, h', n'⟩ := by
  simp [evs, aeval, cx_ti, cx_G, cx_pf, cx_tw, ti, globS, glob, ldcs_1, ldcs_2, ldcs_3, ldcs_4, ldcs_5, ldcs_7, sls.eq_1, slc.eq_1, pfL, hdC, tlC, Tryd.f10, tbl10, G39, pureH, de39, bv]
  exact ⟨b.up (by simp [up]) (agree_refl _ _) b.frs, by simpa [up, bv] using q2⟩
theorem law10c (w : W9 v) (e : Nat → AV) (h' : Heap) (n' : Nat) (b : A9 v ⟨e, h', n'⟩) (q2 : e 2 = bv o) :
    awp (cx S8 (pfL tbl10)) (hdC 1 (tlC 3 (Tryd.f10.body.getD .skip))) (thenQ (fun s => A9 v s ∧ s.e 2 = bv o ∧ (runT (vars v.q.items) v.a = true ∧ runT (vars v.q.items) v.b = true) ∧ truthT v.a = true ∧ truthT v.b = true) (finQ (cx S8 (pfL tbl10)) Tryd.f10 fun z _ _ => z = bv true)) ⟨e, h', n'⟩ := by
  have b0 := b
  obtain ⟨at3, at4, _, ⟨m5, a5, x5, y5, q7, b5, r5, r5', r5''⟩, _, fr⟩ := b
  simp only [] at at3 at4 q7 b5 r5 r5' r5'' fr
  obtain ⟨ta, q3⟩ : ∃ x, e 3 = x := ⟨_, rfl⟩
  obtain ⟨tb, q4⟩ : ∃ x, e 4 = x := ⟨_, rfl⟩
  rw [q3] at at3
  rw [q4] at at4
  have s3 := (sl_is at3).2.2.1
  have t3 := (sl_is at4).2.2.1
  have o5 := (sl_is r5).2.2.2.1
  have o5' := (sl_is r5').2.2.2.1
  have o5'' := (sl_is r5'').2.2.2.1
  have hda : deQT h' [.g [a5, .v (.int .i64 v.q.mode), .v (.int .i64 v.q.after), x5, .v (.int .i64 v.q.within), .v (.string v.q.par), y5], ta] = some (v.q, v.a) := by
    simp only [deQT, deQ_has (q := v.q) r5 r5' r5'', at3]
  have hdb : deQT h' [.g [a5, .v (.int .i64 v.q.mode), .v (.int .i64 v.q.after), x5, .v (.int .i64 v.q.within), .v (.string v.q.par), y5], tb] = some (v.q, v.b) := by
    simp only [deQT, deQ_has (q := v.q) r5 r5' r5'', at4]
  have hoa : okQT (v.q, v.a) := ⟨w.it, w.sa⟩
  have hob : okQT (v.q, v.b) := ⟨w.it, w.sb⟩
  have wa := w.sa
  have wb := w.sb
  cases hra : runT (vars v.q.items) v.a with
  | false =>
    simp [evs, aeval, cx_ti, cx_G, cx_pf, cx_tw, ti, globS, glob, ldcs_1, ldcs_2, ldcs_3, ldcs_4, ldcs_5, ldcs_7, sls.eq_1, slc.eq_1, pfL, hdC, tlC, Tryd.f10, q2, q3, q4, q7, b5, s3, t3, o5, o5', o5'', tbl10, G57, pureH, hda, hoa, hra, bv]
  | true =>
    have pa := tree_pos (run_tree hra).1
    cases hrb : runT (vars v.q.items) v.b with
    | false =>
      simp [evs, aeval, cx_ti, cx_G, cx_pf, cx_tw, ti, globS, glob, ldcs_1, ldcs_2, ldcs_3, ldcs_4, ldcs_5, ldcs_7, sls.eq_1, slc.eq_1, pfL, hdC, tlC, Tryd.f10, q2, q3, q4, q7, b5, s3, t3, o5, o5', o5'', tbl10, G57, pureH, hda, hoa, hra, hdb, hob, hrb, bv]
    | true =>
      have pb := tree_pos (run_tree hrb).1
      cases hta : truthT v.a with
      | false =>
        simp [evs, aeval, cx_ti, cx_G, cx_pf, cx_tw, ti, globS, glob, ldcs_1, ldcs_2, ldcs_3, ldcs_4, ldcs_5, ldcs_7, sls.eq_1, slc.eq_1, pfL, hdC, tlC, Tryd.f10, q2, q3, q4, q7, b5, s3, t3, o5, o5', o5'', tbl10, G57, pureH, hda, hoa, hra, hdb, hob, hrb, G44, deT, at3, at4, wa, wb, pa, pb, hta, bv]
      | true =>
        cases htb : truthT v.b with
        | false =>
          simp [evs, aeval, cx_ti, cx_G, cx_pf, cx_tw, ti, globS, glob, ldcs_1, ldcs_2, ldcs_3, ldcs_4, ldcs_5, ldcs_7, sls.eq_1, slc.eq_1, pfL, hdC, tlC, Tryd.f10, q2, q3, q4, q7, b5, s3, t3, o5, o5', o5'', tbl10, G57, pureH, hda, hoa, hra, hdb, hob, hrb, G44, deT, at3, at4, wa, wb, pa, pb, hta, htb, bv]
        | true =>
          simp [evs, aeval, cx_ti, cx_G, cx_pf, cx_tw, ti, globS, glob, ldcs_1, ldcs_2, ldcs_3, ldcs_4, ldcs_5, ldcs_7, sls.eq_1, slc.eq_1, pfL, hdC, tlC, Tryd.f10, q2, q3, q4, q7, b5, s3, t3, o5, o5', o5'', tbl10, G57, pureH, hda, hoa, hra, hdb, hob, hrb, G44, deT, at3, at4, wa, wb, pa, pb, hta, htb, bv]
          exact b0.up (by simp [up, q3, q4]) (agree_refl _ _) fr
theorem law10d (e : Nat → AV) (h' : Heap) (n' : Nat) (b : A9 v ⟨e, h', n'⟩) (q2 : e 2 = bv o) {Q : Ex → St → Prop} :
    awp (cx S8 (pfL tbl10)) (hdC 2 (tlC 4 (Tryd.f10.body.getD .skip))) (thenQ (fun s => A9 v s ∧ s.e 2 = bv o ∧ s.e 13 = ii (opS o)) Q) ⟨e, h', n'⟩ := by
  have fr := b.frs
  cases o with
  | true =>
    simp [evs, aeval, cx_ti, cx_G, cx_pf, cx_tw, ti, globS, glob, ldcs_1, ldcs_2, ldcs_3, ldcs_4, ldcs_5, ldcs_7, sls.eq_1, slc.eq_1, pfL, hdC, tlC, Tryd.f10, q2, bv]
    exact ⟨b.up (by simp [up]) (agree_refl _ _) fr, by simp [ii, opS]⟩
  | false =>
    simp [evs, aeval, cx_ti, cx_G, cx_pf, cx_tw, ti, globS, glob, ldcs_1, ldcs_2, ldcs_3, ldcs_4, ldcs_5, ldcs_7, sls.eq_1, slc.eq_1, pfL, hdC, tlC, Tryd.f10, q2, bv]
    exact ⟨b.up (by simp [up]) (agree_refl _ _) fr, by simp [ii, opS]⟩
theorem law10e0 (w : W9 v) (e : Nat → AV) (h' : Heap) (n' : Nat) (b : A9 v ⟨e, h', n'⟩) (q13 : e 13 = ii (opS o)) {R : St → Prop} (hR : ∀ (e2 : Nat → AV) (h2 : Heap) (n2 m lo hi : Nat) (ca la : AV), (∀ i ∈ [2, 3, 4, 6, 7, 11], e2 i = e i) → e2 14 = .p m 0 0 → agree n' h' h2 → Fresh n2 h2 → h2 m = some ⟨[ca, la], 0, true, 2⟩ → OwnQ h2 lo hi (.g [ca, la]) (compP v.sc (vars v.q.items) (joinT (opS o) v.a v.b)) → n' ≤ m → n' ≤ lo → m < n2 → hi ≤ n2 → ¬ (lo ≤ m ∧ m < hi) → R ⟨e2, h2, n2⟩) {Q : Ex → St → Prop} :
    awp (cx S8 (pfL tbl10)) (hdC 1 (tlC 6 (Tryd.f10.body.getD .skip))) (thenQ R Q) ⟨e, h', n'⟩ := by
  obtain ⟨at3, at4, ⟨m4, a4, q6, b4, r4⟩, ⟨m5, a5, x5, y5, q7, b5, r5, r5', r5''⟩, _, fr⟩ := b
  simp only [] at at3 at4 q6 b4 r4 q7 b5 r5 r5' r5'' fr
  obtain ⟨ta, q3⟩ : ∃ x, e 3 = x := ⟨_, rfl⟩
  obtain ⟨tb, q4⟩ : ∃ x, e 4 = x := ⟨_, rfl⟩
  rw [q3] at at3
  rw [q4] at at4
  have s3 := (sl_is at3).2.2.1
  have t3 := (sl_is at4).2.2.1
  have o4 := (sl_is r4).2.2.2.1
  have o5 := (sl_is r5).2.2.2.1
  have o5' := (sl_is r5').2.2.2.1
  have o5'' := (sl_is r5'').2.2.2.1
  simp [evs, aeval, cx_ti, cx_G, cx_pf, cx_tw, ti, globS, glob, ldcs_1, ldcs_2, ldcs_3, ldcs_4, ldcs_5, ldcs_7, sls.eq_1, slc.eq_1, pfL, hdC, tlC, Tryd.f10, q3, q4, q6, q7, q13, ii, b4, b5, s3, t3, o4, o5, o5', o5'', tbl10]
  refine ⟨?_, ?_⟩
  · refine (acall_any (S := []) (by simp) (c43 (op := opS o) at3 at4 w.t1 fr)).mono ?_
    rintro z h2 n2 ⟨a1, a2, a3, u, rfl, hu, hu1⟩
    refine ⟨keep_le (agr_le fr a1), ?_⟩
    have rj : rd dNs h2 (.s n' u 0 (joinT (opS o) v.a v.b).length) = some (joinT (opS o) v.a v.b) := flat_in Flat.nd hu rfl (r := []) (by simp)
    refine ⟨?_, ?_⟩
    · refine (acall_any (S := [7]) (by simp [S8]) (c20 (rd_agr fr r4 _ a1) (deQ_has (q := v.q) (rd_agr fr r5 _ a1) (rd_agr fr r5' _ a1) (rd_agr fr r5'' _ a1)) rj w.it (w.sm _) w.tl w.sc a2)).mono ?_
      rintro z3 h3 n3 ⟨c1, c2, c3, c4⟩
      refine ⟨keep_le (agr_le a2 c1), ?_⟩
      obtain ⟨ca, la, rfl, k1, k2, k3, k4, k5, k6⟩ := c4.is
      simp [evs, aeval, cx_ti, cx_G, cx_pf, cx_tw, ti, globS, glob, ldcs_1, ldcs_2, ldcs_3, ldcs_4, ldcs_5, ldcs_7, sls.eq_1, slc.eq_1, pfL, k1, k2, k3, k4, k5, k6]
      have g := agree_trans a1 c1 a3
      refine hR _ _ _ n3 n2 n3 ca la (by simp [up]) (by simp [up]) (by simp [agree_up, g, show n' ≤ n3 by omega]) (by simp [fresh_up, c2.add]) (by simp [up]) (c4.up (fun q h1 h2 => by rw [up_ne _ _ (by omega), up_ne _ _ (by omega)]) (Nat.le_refl _) (Nat.le_refl _)) (by omega) (by omega) (by omega) (by omega) (by omega)
    · have frB : ∀ b, Fresh (n2 + 1) (up h2 n2 b) := fun b => (fresh_up (by omega) b).2 (a2.add 1)
      have agB : ∀ b, agree n2 h2 (up h2 n2 b) := fun b => (agree_up (by omega) b).2 (agree_refl _ _)
      have agC : ∀ b, agree n' h' (up h2 n2 b) := fun b => agree_trans a1 (agB b) a3
      refine (acall_any (S := [7]) (by simp [S8]) (c20 (rd_agr fr r4 _ (agC _)) (deQ_has (q := v.q) (rd_agr fr r5 _ (agC _)) (rd_agr fr r5' _ (agC _)) (rd_agr fr r5'' _ (agC _))) (rd_agr a2 rj _ (agB _)) w.it (w.sm _) w.tl w.sc (frB _))).mono ?_
      rintro z3 h3 n3 ⟨c1, c2, c3, c4⟩
      refine ⟨keep_le (agr_le (frB _) c1), ?_⟩
      obtain ⟨ca, la, rfl, k1, k2, k3, k4, k5, k6⟩ := c4.is
      have hx : h3 n2 = some ⟨[.v (.slice none 0 0), .v (.slice none 0 0)], 0, true, 2⟩ := by rw [c1 n2 (by omega), up_same]
      simp [evs, aeval, cx_ti, cx_G, cx_pf, cx_tw, ti, globS, glob, ldcs_1, ldcs_2, ldcs_3, ldcs_4, ldcs_5, ldcs_7, sls.eq_1, slc.eq_1, pfL, k1, k2, k3, k4, k5, k6, hx]
      have g : agree n' h' h3 := agree_trans (agC _) c1 (by omega)
      refine hR _ _ _ n2 (n2 + 1) n3 ca la (by simp [up]) (by simp [up]) (fun j hj => by rw [up_ne _ _ (by omega)]; exact g j hj) ((fresh_up (by omega) _).2 (c2.add 1)) (by simp [up]) (c4.up (fun q h1 h2 => by rw [up_ne _ _ (by omega)]) (Nat.le_refl _) (Nat.le_refl _)) (by omega) (by omega) (by omega) (by omega) (by omega)
  · have frA : ∀ b, Fresh (n' + 1) (up h' n' b) := fun b => (fresh_up (by omega) b).2 (fr.add 1)
    have agA : ∀ b, agree n' h' (up h' n' b) := fun b => (agree_up (by omega) b).2 (agree_refl _ _)
    refine (acall_any (S := []) (by simp) (c43 (op := opS o) (rd_agr fr at3 _ (agA _)) (rd_agr fr at4 _ (agA _)) w.t1 (frA _))).mono ?_
    rintro z h2 n2 ⟨a1, a2, a3, u, rfl, hu, hu1⟩
    refine ⟨keep_le (agr_le (frA _) a1), ?_⟩
    have rj : rd dNs h2 (.s (n' + 1) u 0 (joinT (opS o) v.a v.b).length) = some (joinT (opS o) v.a v.b) := flat_in Flat.nd hu rfl (r := []) (by simp)
    have agC : agree n' h' h2 := agree_trans (agA _) a1 (by omega)
    refine (acall_any (S := [7]) (by simp [S8]) (c20 (rd_agr fr r4 _ agC) (deQ_has (q := v.q) (rd_agr fr r5 _ agC) (rd_agr fr r5' _ agC) (rd_agr fr r5'' _ agC)) rj w.it (w.sm _) w.tl w.sc a2)).mono ?_
    rintro z3 h3 n3 ⟨c1, c2, c3, c4⟩
    refine ⟨keep_le (agr_le a2 c1), ?_⟩
    obtain ⟨ca, la, rfl, k1, k2, k3, k4, k5, k6⟩ := c4.is
    have hx : h3 n' = some ⟨[.v (.slice none 0 0), .v (.slice none 0 0)], 0, true, 2⟩ := by rw [c1 n' (by omega), a1 n' (by omega), up_same]
    simp [evs, aeval, cx_ti, cx_G, cx_pf, cx_tw, ti, globS, glob, ldcs_1, ldcs_2, ldcs_3, ldcs_4, ldcs_5, ldcs_7, sls.eq_1, slc.eq_1, pfL, k1, k2, k3, k4, k5, k6, hx]
    have g : agree n' h' h3 := agree_trans agC c1 (by omega)
    refine hR _ _ _ n' n2 n3 ca la (by simp [up]) (by simp [up]) (fun j hj => by rw [up_ne _ _ (by omega)]; exact g j hj) ((fresh_up (by omega) _).2 (c2.add 1)) (by simp [up]) (c4.up (fun q h1 h2 => by rw [up_ne _ _ (by omega)]) (Nat.le_refl _) (Nat.le_refl _)) (by omega) (by omega) (by omega) (by omega) (by omega)
/-- The program, and how long its left side's is. -/
def P10 (v : Eq9) (o : Bool) : Pr := compP v.sc (vars v.q.items) (joinT (opS o) v.a v.b)
structure B10 (v : Eq9) (o : Bool) (p : Pr) (h0 : Heap) (p0 : Nat) (s : St) : Prop where
  a : A9 v ⟨s.e, h0, p0⟩
  ag : agree p0 h0 s.h
  fr : Fresh s.n s.h
  np : p0 ≤ s.n
  o2 : s.e 2 = bv o
  pr : HasR s 14 p0 p
theorem B10.now {p : Pr} {h0 : Heap} {p0 : Nat} {s : St} (b : B10 v o p h0 p0 s) : A9 v s := b.a.up (fun _ _ => rfl) b.ag b.fr
theorem B10.up {p : Pr} {h0 : Heap} {p0 : Nat} {s s' : St} (b : B10 v o p h0 p0 s) (he : ∀ i ∈ [2, 3, 4, 6, 7, 11, 14], s'.e i = s.e i) (ha : agree s.n s.h s'.h) (hf : Fresh s'.n s'.h) (hn : s.n ≤ s'.n) : B10 v o p h0 p0 s' :=
  ⟨b.a.up (s' := ⟨s'.e, h0, p0⟩) (fun i hi => he i (by revert hi; simp; omega)) (agree_refl _ _) b.a.frs, fun j hj => (ha j (Nat.lt_of_lt_of_le hj b.np)).trans (b.ag j hj), hf, Nat.le_trans b.np hn, by rw [he 2 (by simp)]; exact b.o2, b.pr.up (he 14 (by simp)) (fun q _ hq => ha q hq) hn⟩
theorem law10e (w : W9 v) (e : Nat → AV) (h' : Heap) (n' : Nat) (b : A9 v ⟨e, h', n'⟩) (q2 : e 2 = bv o) (q13 : e 13 = ii (opS o)) {Q : Ex → St → Prop} :
    awp (cx S8 (pfL tbl10)) (hdC 1 (tlC 6 (Tryd.f10.body.getD .skip))) (thenQ (B10 v o (P10 v o) h' n') Q) ⟨e, h', n'⟩ :=
  law10e0 w e h' n' b q13 fun e2 h2 n2 m lo hi ca la k1 k2 k3 k4 k5 k6 k7 k8 k9 k10 k11 => ⟨b.up (s' := ⟨e2, h', n'⟩) (fun i hi => k1 i (by revert hi; simp; omega)) (agree_refl _ _) b.frs, k3, k4, Nat.le_of_lt (Nat.lt_of_le_of_lt k7 k9), (k1 2 (by simp)).trans q2, m, lo, hi, ca, la, k2, k5, k6, k7, k8, k9, k10, k11⟩
theorem law10f (w : W9 v) (hra : runT (vars v.q.items) v.a = true) (p : Pr) (h0 : Heap) (p0 : Nat) (e : Nat → AV) (h' : Heap) (n' : Nat) (b : B10 v o p h0 p0 ⟨e, h', n'⟩) {Q : Ex → St → Prop} :
    awp (cx S8 (pfL tbl10)) (hdC 1 (tlC 7 (Tryd.f10.body.getD .skip))) (thenQ (fun s => B10 v o p h0 p0 s ∧ s.e 15 = ii (codeT (vars v.q.items) v.a).length) Q) ⟨e, h', n'⟩ := by
  have b0 := b
  obtain ⟨at3, _, ⟨m4, a4, q6, b4, r4⟩, ⟨m5, a5, x5, y5, q7, b5, r5, r5', r5''⟩, _, fr⟩ := b.now
  simp only [] at at3 q6 b4 r4 q7 b5 r5 r5' r5'' fr
  obtain ⟨ta, q3⟩ : ∃ x, e 3 = x := ⟨_, rfl⟩
  rw [q3] at at3
  have s3 := (sl_is at3).2.2.1
  have o4 := (sl_is r4).2.2.2.1
  have o5 := (sl_is r5).2.2.2.1
  have o5' := (sl_is r5').2.2.2.1
  have o5'' := (sl_is r5'').2.2.2.1
  simp [evs, aeval, cx_ti, cx_G, cx_pf, cx_tw, ti, globS, glob, ldcs_1, ldcs_2, ldcs_3, ldcs_4, ldcs_5, ldcs_7, sls.eq_1, slc.eq_1, pfL, hdC, tlC, Tryd.f10, q3, q6, q7, b4, b5, s3, o4, o5, o5', o5'', tbl10]
  refine (acall_any (S := [7]) (by simp [S8]) (c20 r4 (deQ_has (q := v.q) r5 r5' r5'') at3 w.it w.sa w.tl w.sc fr)).mono ?_
  rintro z h2 n2 ⟨a1, a2, a3, a4'⟩
  obtain ⟨za, zb, rfl, z1, z2⟩ := dePr_out a4'.rd
  have hcl : (compP v.sc (vars v.q.items) v.a).code.length = (codeT (vars v.q.items) v.a).length := by rw [compP, if_pos hra]
  have z3 := (sl_is z1).1
  have z4 := (sl_is z1).2.1
  rw [hcl] at z4
  simp [evs, aeval, cx_ti, cx_G, cx_pf, cx_tw, ti, globS, glob, ldcs_1, ldcs_2, ldcs_3, ldcs_4, ldcs_5, ldcs_7, sls.eq_1, slc.eq_1, pfL, z3, z4, ii]
  exact b0.up (by simp [up, q3]) a1 a2 a3
theorem law10g (f : Nat) (hw : IntKind.i64.wrap ((f : Int) + 1) = ((f + 1 : Nat) : Int)) (p : Pr) (hlt : f + 1 < p.code.length) (h0 : Heap) (p0 : Nat) (e : Nat → AV) (h' : Heap) (n' : Nat) (b : B10 v o p h0 p0 ⟨e, h', n'⟩) (q15 : e 15 = ii f) {Q : Ex → St → Prop} :
    awp (cx S8 (pfL tbl10)) (hdC 1 (tlC 8 (Tryd.f10.body.getD .skip))) (thenQ (fun s => B10 v o p h0 p0 s ∧ s.e 15 = ii f) Q) ⟨e, h', n'⟩ := by
  have b0 := b
  have fr := b.fr
  obtain ⟨m, lo, hi, ca, la, q14, b14, o14, i1, i2, i3, i4, i5⟩ := b.pr
  simp only [] at q14 b14 o14 fr
  obtain ⟨za, zb, hz, z1, z2⟩ := dePr_out o14.rd
  obtain ⟨rfl, rfl⟩ : ca = za ∧ la = zb := by injection hz with hz; injection hz with h1 h2; injection h2 with h2 _; exact ⟨h1, h2⟩
  obtain ⟨u1, u2, u3, u4, u5⟩ := sl_is z1
  have hnot : ¬ (p.code.length : Int) ≤ (f : Int) + 1 := by omega
  generalize p.code.length = L at *
  simp [evs, aeval, cx_ti, cx_G, cx_pf, cx_tw, ti, globS, glob, ldcs_1, ldcs_2, ldcs_3, ldcs_4, ldcs_5, ldcs_7, sls.eq_1, slc.eq_1, pfL, hdC, tlC, Tryd.f10, q14, b14, u1, u2, u3, q15, ii, hw, hnot]
  exact b0.up (by simp [up]) (agree_refl _ _) fr (Nat.le_refl _)
theorem law10h (f : Nat) (p : Pr) (hL : p.code.length * 40 ≤ 140737488355328) (hlt : f + 1 < p.code.length) (h0 : Heap) (p0 : Nat) (e : Nat → AV) (h' : Heap) (n' : Nat) (b : B10 v o p h0 p0 ⟨e, h', n'⟩) (q15 : e 15 = ii f) {Q : Ex → St → Prop} :
    awp (cx S8 (pfL tbl10)) (hdC 1 (tlC 9 (Tryd.f10.body.getD .skip))) (thenQ (B10 v o ⟨bl p.code (f + 1) (p.code.length - (f + 1)), p.cols⟩ h0 p0) Q) ⟨e, h', n'⟩ := by
  have hw := wrap_nat (j := f) (by unfold big; omega)
  have hne : p.code ≠ [] := fun e => by rw [e] at hlt; simp at hlt
  simp [evs, aeval, cx_ti, cx_G, cx_pf, cx_tw, ti, globS, glob, ldcs_1, ldcs_2, ldcs_3, ldcs_4, ldcs_5, ldcs_7, sls.eq_1, slc.eq_1, pfL, hdC, tlC, Tryd.f10, q15, ii, hw]
  refine awp_loop (fun s => ∃ k, f + 1 + k ≤ p.code.length ∧ s.e 16 = ii ((f + 1 + k : Nat) : Int) ∧ B10 v o ⟨bl p.code (f + 1) k, p.cols⟩ h0 p0 s) (fun s => p.code.length - (s.e 16).i.toNat) ⟨0, by omega, by simp [up, ii], b.up (by simp [up]) (agree_refl _ _) b.fr (Nat.le_refl _)⟩ ?_
  clear b q15
  rintro e' h2 n2 ⟨k, hk, q16, b⟩
  have b0 := b
  have fr := b.fr
  obtain ⟨m, lo, hi, ca, la, q14, b14, o14, i1, i2, i3, i4, i5⟩ := b.pr
  simp only [] at q16 q14 b14 o14 fr i3 i4
  have hbl := bl_len p.code (f + 1) k
  have o14' := o14
  obtain ⟨ca', la', hz, o1, o2⟩ := o14
  obtain ⟨rfl, rfl⟩ : ca = ca' ∧ la = la' := by injection hz with hz; injection hz with h1 h2; injection h2 with h2 _; exact ⟨h1, h2⟩
  rcases o1 with ⟨hz0, _⟩ | ⟨w, u, rfl, hkw, hw1, hw2⟩
  · exact absurd (show (bl p.code (f + 1) k).length = 0 from congrArg List.length hz0) (by omega)
  simp only [hbl] at q14 b14
  by_cases hlt2 : f + 1 + k < p.code.length
  · have hcl := flat_len Flat.ins (bl p.code (f + 1) k)
    rw [hbl] at hcl
    have hwr := flat_wr2 Flat.ins z99 (bl p.code (f + 1) k) (f + 1 + k) (by omega)
    have hst : (bl p.code (f + 1) k).set (f + 1 + k) z99 = bl p.code (f + 1) (k + 1) := rfl
    rw [hst] at hwr
    have hw3 := wrap_nat (j := f + 1 + k) (by unfold big; omega)
    have hturn := o14'.turn (h' := up h2 w (some ⟨(bl p.code (f + 1) (k + 1)).flatMap icells, u, true, 5⟩)) rfl (code := bl p.code (f + 1) (k + 1)) (by simp only []; rw [bl_len, bl_len]) (by simp [up]) (fun q hq => up_ne _ _ hq) (fun e => by simp only [] at e; rw [e] at hbl; simp at hbl; omega)
    simp only [bl_len] at hturn
    have hlen2 := bl_len p.code (f + 1) (k + 1)
    generalize hcs1 : (bl p.code (f + 1) (k + 1)).flatMap icells = cs1 at *
    generalize hcs : (bl p.code (f + 1) k).flatMap icells = cs at *
    generalize hjj : f + 1 + k = j at *
    have hj5 : j * 5 + 5 ≤ p.code.length * 5 := by omega
    simp [wr, icells, z99, ii] at hwr
    simp [evs, aeval, cx_ti, cx_G, cx_pf, cx_tw, ti, globS, glob, ldcs_1, ldcs_2, ldcs_3, ldcs_4, ldcs_5, ldcs_7, sls.eq_1, slc.eq_1, pfL, q16, q14, b14, ii, hlt2, hkw, hcl, hj5, hw3, hwr, hbl]
    have hmw : m ≠ w := fun e => i5 (by rw [e]; exact ⟨hw1, hw2⟩)
    have hwn : w < n2 + 1 := by omega
    refine ⟨⟨k + 1, by omega, by omega, b0.a.up (s' := ⟨_, h0, p0⟩) (by simp [up]) (agree_refl _ _) b0.a.frs, fun q hq => ?_, (fresh_up hwn _).2 (fr.add 1), Nat.le_succ_of_le b0.np, ?_, m, lo, hi, _, _, ?_, ?_, hturn, i1, i2, Nat.lt_succ_of_lt i3, Nat.le_succ_of_le i4, i5⟩, by omega⟩
    · simp only []
      rw [up_ne _ _ (by omega)]
      exact b0.ag q hq
    · have := b0.o2
      simpa [up] using this
    · simp [up, q14]
    · simp only []
      rw [up_ne _ _ hmw]
      exact b14
  · obtain rfl : k = p.code.length - (f + 1) := by omega
    have hend : f + 1 + (p.code.length - (f + 1)) = p.code.length := by omega
    rw [hend] at q16
    simp [evs, aeval, cx_ti, cx_G, cx_pf, cx_tw, ti, globS, glob, ldcs_1, ldcs_2, ldcs_3, ldcs_4, ldcs_5, ldcs_7, sls.eq_1, slc.eq_1, pfL, q16, q14, b14, ii, hbl]
    exact b0.up (by simp [up]) (agree_refl _ _) fr (Nat.le_refl _)
theorem law10i (w : W9 v) (hb : beyondV v.en.ls = false) (p : Pr) (h0 : Heap) (p0 : Nat) (e : Nat → AV) (h' : Heap) (n' : Nat) (b : B10 v o p h0 p0 ⟨e, h', n'⟩) {Q : Ex → St → Prop} :
    awp (cx S8 (pfL tbl10)) (hdC 1 (tlC 10 (Tryd.f10.body.getD .skip))) (thenQ (fun s => B10 v o p h0 p0 s ∧ HasV s 17 (evalV v.sc (vars v.q.items) v.en v.a)) Q) ⟨e, h', n'⟩ := by
  have b0 := b
  obtain ⟨at3, _, ⟨m4, a4, q6, b4, r4⟩, ⟨m5, a5, x5, y5, q7, b5, r5, r5', r5''⟩, ⟨m7, a7, q11, b7, r7⟩, fr⟩ := b.now
  simp only [] at at3 q6 b4 r4 q7 b5 r5 r5' r5'' q11 b7 r7 fr
  obtain ⟨tj, q3⟩ : ∃ x, e 3 = x := ⟨_, rfl⟩
  rw [q3] at at3
  have s3 := (sl_is at3).2.2.1
  have o4 := (sl_is r4).2.2.2.1
  have o5 := (sl_is r5).2.2.2.1
  have o5' := (sl_is r5').2.2.2.1
  have o5'' := (sl_is r5'').2.2.2.1
  have o7 := (sl_is r7).2.2.2.1
  have hok := w.eq hb w.sa w.ta
  have hde : de38 h' [.g [a4], .g [a5, .v (.int .i64 v.q.mode), .v (.int .i64 v.q.after), x5, .v (.int .i64 v.q.within), .v (.string v.q.par), y5], tj, .g [a7, .v (.int .i64 v.en.each), .v (.int .i64 v.en.pos)]] = some ⟨v.sc, v.q, v.a, v.en⟩ :=
    de38_in (v := ⟨v.sc, v.q, v.a, v.en⟩) r4 (deQ_has r5 r5' r5'') at3 (deEn_has r7)
  simp [evs, aeval, cx_ti, cx_G, cx_pf, cx_tw, ti, globS, glob, ldcs_1, ldcs_2, ldcs_3, ldcs_4, ldcs_5, ldcs_7, sls.eq_1, slc.eq_1, pfL, hdC, tlC, Tryd.f10, q6, q7, q11, q3, b4, b5, b7, s3, o4, o5, o5', o5'', o7, tbl10, G38, pureH, hde, hok, vv]
  have g : ∀ x1 x2 : Option Blk, agree n' h' (up (up h' n' x1) n' x2) := fun x1 x2 => by simp [agree_up, agree_refl]
  exact ⟨b0.up (by simp [up, q3]) (g _ _) (by simp [fresh_up, fr.add]) (by simp), n', by simp [up], by simp [up]⟩
theorem law10j (w : W9 v) (hb : beyondV v.en.ls = false) (p : Pr) (hp : PrOk p) (x : V) (h0 : Heap) (p0 : Nat) (e : Nat → AV) (h' : Heap) (n' : Nat) (b : B10 v o p h0 p0 ⟨e, h', n'⟩) (c : HasV ⟨e, h', n'⟩ 17 x) {Q : Ex → St → Prop} :
    awp (cx S8 (pfL tbl10)) (hdC 1 (tlC 11 (Tryd.f10.body.getD .skip))) (thenQ (fun s => s.e 2 = bv o ∧ HasV s 17 x ∧ HasV s 18 (runV p v.en).1 ∧ s.e 19 = ii (runV p v.en).2) Q) ⟨e, h', n'⟩ := by
  obtain ⟨_, _, _, _, ⟨m7, a7, q11, b7, r7⟩, fr⟩ := b.now
  obtain ⟨m, lo, hi, ca, la, q14, b14, o14, i1, i2, i3, i4, i5⟩ := b.pr
  have q2 := b.o2
  simp only [] at q2 q11 b7 r7 fr q14 b14 o14
  have o7 := (sl_is r7).2.2.2.1
  obtain ⟨za, zb, hz, z1, z2⟩ := dePr_out o14.rd
  obtain ⟨rfl, rfl⟩ : ca = za ∧ la = zb := by injection hz with hz; injection hz with h1 h2; injection h2 with h2 _; exact ⟨h1, h2⟩
  obtain ⟨u1, u2, u3, u4, u5⟩ := sl_is z1
  obtain ⟨v1, v2, v3, v4, v5⟩ := sl_is z2
  have hde : deR h' [.g [ca, la], .g [a7, .v (.int .i64 v.en.each), .v (.int .i64 v.en.pos)]] = some (p, v.en) := by
    simp only [deR, dePr_in z1 z2, deEn_has r7]
  have hok : okR (p, v.en) := ⟨hp, ⟨beyond_len hb, w.e3, w.e4⟩⟩
  simp [evs, aeval, cx_ti, cx_G, cx_pf, cx_tw, ti, globS, glob, ldcs_1, ldcs_2, ldcs_3, ldcs_4, ldcs_5, ldcs_7, sls.eq_1, slc.eq_1, pfL, hdC, tlC, Tryd.f10, q11, b7, o7, q14, b14, u3, u4, v3, v4, tbl10, G29, pureH, hde, hok, runA, vv]
  have g : ∀ x1 x2 : Option Blk, agree n' h' (up (up h' n' x1) n' x2) := fun x1 x2 => by simp [agree_up, agree_refl]
  exact ⟨by simpa [up] using q2, c.up fr (by simp [up]) (g _ _), ⟨n', by simp [up], by simp [up]⟩, by simp [up, ii]⟩
theorem law10k (x y : V) (er : Int) (hr : (y, er) = if x.k = true ∧ (x.n ≠ 0 ↔ opS o = 26) then (x, 0) else bad) (e : Nat → AV) (h' : Heap) (n' : Nat) (q2 : e 2 = bv o) (c : HasV ⟨e, h', n'⟩ 17 x) (d : HasV ⟨e, h', n'⟩ 18 y) (q19 : e 19 = ii er) :
    awp (cx S8 (pfL tbl10)) (tlC 12 (Tryd.f10.body.getD .skip)) (finQ (cx S8 (pfL tbl10)) Tryd.f10 fun z _ _ => z = bv true) ⟨e, h', n'⟩ := by
  obtain ⟨m17, q17, b17⟩ := c
  obtain ⟨m18, q18, b18⟩ := d
  simp only [] at q17 b17 q18 b18
  obtain ⟨xk, xn⟩ := x
  simp only [] at hr b17
  cases xk with
  | false =>
    simp only [Bool.false_eq_true, false_and, if_false, bad, Prod.mk.injEq] at hr
    obtain ⟨rfl, rfl⟩ := hr
    simp [evs, aeval, cx_ti, cx_G, cx_pf, cx_tw, ti, globS, glob, ldcs_1, ldcs_2, ldcs_3, ldcs_4, ldcs_5, ldcs_7, sls.eq_1, slc.eq_1, pfL, tlC, Tryd.f10, q2, q17, b17, q18, b18, q19, ii, bv, tbl10, g20, pure1, deV, unk]
  | true =>
    by_cases h0 : xn = 0
    · cases o with
      | true =>
        simp [opS, h0, bad] at hr
        obtain ⟨rfl, rfl⟩ := hr
        simp [evs, aeval, cx_ti, cx_G, cx_pf, cx_tw, ti, globS, glob, ldcs_1, ldcs_2, ldcs_3, ldcs_4, ldcs_5, ldcs_7, sls.eq_1, slc.eq_1, pfL, tlC, Tryd.f10, q2, q17, b17, q18, b18, q19, ii, bv, tbl10, g20, pure1, deV, unk, trueV, rankV, h0]
      | false =>
        simp [opS, h0, bad] at hr
        obtain ⟨rfl, rfl⟩ := hr
        simp [evs, aeval, cx_ti, cx_G, cx_pf, cx_tw, ti, globS, glob, ldcs_1, ldcs_2, ldcs_3, ldcs_4, ldcs_5, ldcs_7, sls.eq_1, slc.eq_1, pfL, tlC, Tryd.f10, q2, q17, b17, q18, b18, q19, ii, bv, tbl10, g20, pure1, deV, unk, trueV, rankV, h0]
    · cases o with
      | true =>
        simp [opS, h0, bad] at hr
        obtain ⟨rfl, rfl⟩ := hr
        simp [evs, aeval, cx_ti, cx_G, cx_pf, cx_tw, ti, globS, glob, ldcs_1, ldcs_2, ldcs_3, ldcs_4, ldcs_5, ldcs_7, sls.eq_1, slc.eq_1, pfL, tlC, Tryd.f10, q2, q17, b17, q18, b18, q19, ii, bv, tbl10, g20, pure1, deV, unk, trueV, rankV, h0]
      | false =>
        simp [opS, h0, bad] at hr
        obtain ⟨rfl, rfl⟩ := hr
        simp [evs, aeval, cx_ti, cx_G, cx_pf, cx_tw, ti, globS, glob, ldcs_1, ldcs_2, ldcs_3, ldcs_4, ldcs_5, ldcs_7, sls.eq_1, slc.eq_1, pfL, tlC, Tryd.f10, q2, q17, b17, q18, b18, q19, ii, bv, tbl10, g20, pure1, deV, unk, trueV, rankV, h0]
theorem bl_mem {l : List Ins} {s : Nat} {x : Ins} : ∀ {k : Nat}, x ∈ bl l s k → x ∈ l ∨ x = z99
  | 0, h => .inl h
  | k + 1, h => by
    rcases List.mem_or_eq_of_mem_set h with h1 | h1
    · exact bl_mem h1
    · exact .inr h1
theorem law10 (e1 : rd dTys h sa = some v.sc) (e2 : rd dIts h qa = some v.q.items) (e3 : rd dNs h qb = some v.q.wh) (e4 : rd dNss h qc = some v.q.ret) (e5 : rd dNs h ta = some v.a) (e5' : rd dNs h tb = some v.b) (e6 : rd dEss h la = some v.en.ls) (w : W9 v) (hn : Fresh n h) :
    awp (cx S8 (pfL tbl10)) (Tryd.f10.body.getD .skip) (finQ (cx S8 (pfL tbl10)) Tryd.f10 fun z _ _ => z = bv true) ⟨env0 [.g [sa], .g [qa, .v (.int .i64 v.q.mode), .v (.int .i64 v.q.after), qb, .v (.int .i64 v.q.within), .v (.string v.q.par), qc], bv o, ta, tb, .g [la, .v (.int .i64 v.en.each), .v (.int .i64 v.en.pos)]], roH h, n⟩ := by
  refine awp_cut 2 _ _ (law10a (o := o) e1 e2 e3 e4 e5 e5' e6 w hn _ rfl rfl rfl rfl rfl rfl) fun x1 h1 n1 ⟨b1, q1, hb⟩ => ?_
  refine awp_cut 1 _ _ (law10b x1 h1 n1 b1 q1) fun x2 h2 n2 ⟨b2, q2⟩ => ?_
  refine awp_cut 1 _ _ (law10c w x2 h2 n2 b2 q2) fun x3 h3 n3 ⟨b3, q3, ⟨hra, hrb⟩, hta, htb⟩ => ?_
  refine awp_cut 2 _ _ (law10d x3 h3 n3 b3 q3) fun x4 h4 n4 ⟨b4, q4, q4'⟩ => ?_
  refine awp_cut 1 _ _ (law10e w x4 h4 n4 b4 q4 q4') fun x5 h5 n5 b5 => ?_
  refine awp_cut 1 _ _ (law10f w hra _ _ _ x5 h5 n5 b5) fun x6 h6 n6 ⟨b6, q6⟩ => ?_
  have hop : opS o = 25 ∨ opS o = 26 := by cases o <;> simp [opS]
  obtain ⟨k1, k2⟩ := skip_run (sc := v.sc) (en := v.en) hra hrb hop hta htb w.ab
  have hpk : PrOk (P10 v o) := comp_ok (sc := v.sc) (vs := vars v.q.items) (by have := w.it; simpa [vars] using this) (w.sm _) w.tl (join_rng w.ta w.tb)
  have hlen : (P10 v o).code.length * 40 ≤ 140737488355328 := hpk.len
  have hlt : (codeT (vars v.q.items) v.a).length + 1 < (P10 v o).code.length := k1
  have hr99 : InsOk z99 := by unfold InsOk z99 Rng; decide
  have hp2 : PrOk ⟨bl (P10 v o).code ((codeT (vars v.q.items) v.a).length + 1) ((P10 v o).code.length - ((codeT (vars v.q.items) v.a).length + 1)), (P10 v o).cols⟩ :=
    ⟨by simp only [bl_len]; exact hlen, fun i hi => by rcases bl_mem hi with h | rfl; exact hpk.ok i h; exact hr99, hpk.col⟩
  refine awp_cut 1 _ _ (law10g _ (wrap_nat (by unfold big; omega)) _ hlt _ _ x6 h6 n6 b6 q6) fun x7 h7 n7 ⟨b7, q7⟩ => ?_
  refine awp_cut 1 _ _ (law10h _ _ hlen hlt _ _ x7 h7 n7 b7 q7) fun x8 h8 n8 b8 => ?_
  refine awp_cut 1 _ _ (law10i w hb _ _ _ x8 h8 n8 b8) fun x9 h9 n9 ⟨b9, c9⟩ => ?_
  refine awp_cut 1 _ _ (law10j w hb _ hp2 _ _ _ x9 h9 n9 b9 c9) fun x10 h10 n10 ⟨q10, c10, d10, f10⟩ => ?_
  exact law10k _ _ _ (by rw [← k2]; rfl) x10 h10 n10 q10 c10 d10 f10
end
end Go.Proofs.YtkfphaphiikloaaDoor
