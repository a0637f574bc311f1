/-
  CodeSpares: the law's own code, begun: three programs.
-/
import Derived.Test.YtkfphaphiikloaaDoorX25
import Derived.Test.YtkfphaphiikloaaDoorX32
set_option linter.unusedSimpArgs false
set_option linter.unusedVariables false
set_option linter.constructorNameAsVariable false
namespace Go.Proofs.YtkfphaphiikloaaDoor
open Go Go.Eng

def tbl7 : List (FuncId × (List AV → Heap → PRes)) := [(14, G14), (15, G15), (21, G21), (27, G27), (29, G29), (39, G39)]
theorem tbl7_ok : TbOk S8 tbl7 := tb_cons P14 (tb_cons P15 (tb_cons P21 (tb_cons P27 (tb_cons P29 (tb_cons P39 tb_nil)))))
/-- A program in a cell: it reads as p as long as nothing turns between lo and hi. -/
def HasD (s : St) (i lo hi : Nat) (p : Pr) : Prop := ∃ m ca la, s.e i = .p m 0 0 ∧ lo ≤ m ∧ m < hi ∧ s.h m = some ⟨[ca, la], 0, true, 2⟩ ∧ ∀ h' : Heap, (∀ q, lo ≤ q → q < hi → h' q = s.h q) → dePr h' (.g [ca, la]) = some p
theorem HasD.up {s s' : St} {i lo hi lo' hi' : Nat} {p : Pr} (a : HasD s i lo hi p) (he : s'.e i = s.e i) (hh : ∀ q, lo ≤ q → q < hi → s'.h q = s.h q) (h1 : lo' ≤ lo) (h2 : hi ≤ hi') : HasD s' i lo' hi' p := by
  obtain ⟨m, ca, la, a1, a2, a3, a4, a5⟩ := a
  exact ⟨m, ca, la, he.trans a1, by omega, by omega, by rw [hh m a2 a3]; exact a4, fun h' k => a5 h' fun q k1 k2 => by rw [k q (by omega) (by omega)]; exact hh q k1 k2⟩
theorem HasP.d {s : St} {i lo hi : Nat} {p : Pr} (a : HasP s i lo hi p) : HasD s i lo hi p := by
  obtain ⟨m, ca, la, a1, a2, a3, a4, a5, a6⟩ := a
  exact ⟨m, ca, la, a1, a2, a3, a5, fun h' k => (a6.up k (Nat.le_refl _) (Nat.le_refl _)).rd⟩
/-- After the three: p (whose blocks lie from n0 to nx) in 9, the copy in 10, the other in 11. -/
structure S7 (v : Eq38) (P : Pr) (A : Ap) (wc uc n0 nx n3 m9 : Nat) (ca la : AV) (s : St) : Prop where
  px : PX P A wc uc n0 nx ca la
  e9 : s.e 9 = .p m9 0 0
  k9 : s.h m9 = some ⟨[ca, la], 0, true, 2⟩
  r9 : nx ≤ m9 ∧ m9 < n3
  k : HasD s 10 nx n3 P
  o : HasD s 11 nx n3 P
  b8 : ∃ e0 h0, A8 v ⟨e0, h0, n0⟩ ∧ (∀ i ∈ [2, 4, 5, 7], s.e i = e0 i) ∧ agree n0 h0 s.h
  nn : n0 ≤ nx ∧ n3 ≤ s.n
  fr : Fresh s.n s.h
theorem S7.a8 {v : Eq38} {P : Pr} {A : Ap} {wc uc n0 nx n3 m9 : Nat} {ca la : AV} {s : St} (a : S7 v P A wc uc n0 nx n3 m9 ca la s) : A8 v s := by
  obtain ⟨e0, h0, b1, b2, b3⟩ := a.b8
  exact b1.up b2 b3 a.fr
theorem S7.up {v : Eq38} {P : Pr} {A : Ap} {wc uc n0 nx n3 n3' m9 : Nat} {ca la : AV} {s s' : St} (a : S7 v P A wc uc n0 nx n3 m9 ca la s) (he : ∀ i ∈ [2, 4, 5, 7, 9, 10, 11], s'.e i = s.e i) (hh : ∀ q, q < n3 → (q < n0 ∨ nx ≤ q) → s'.h q = s.h q) (h1 : n3 ≤ n3') (h2 : n3' ≤ s'.n) (hf : Fresh s'.n s'.h) : S7 v P A wc uc n0 nx n3' m9 ca la s' := by
  obtain ⟨px, e9, k9, r9, k, o, ⟨e0, h0, b1, b2, b3⟩, nn, fr⟩ := a
  refine ⟨px, (he 9 (by simp)).trans e9, by rw [hh m9 r9.2 (.inr r9.1)]; exact k9, ⟨r9.1, by omega⟩, k.up (he 10 (by simp)) (fun q k1 k2 => hh q k2 (.inr k1)) (Nat.le_refl _) h1, o.up (he 11 (by simp)) (fun q k1 k2 => hh q k2 (.inr k1)) (Nat.le_refl _) h1, ⟨e0, h0, b1, fun i hi => ?_, fun q hq => ?_⟩, ⟨nn.1, h2⟩, hf⟩
  · rw [he i ?_]
    · exact b2 i hi
    · simp only [List.mem_cons, List.not_mem_nil, or_false] at hi ⊢
      omega
  · have := nn.1
    rw [hh q (by omega) (.inl hq)]; exact b3 q hq
section
set_option maxRecDepth 100000
set_option maxHeartbeats 4000000
variable {h : Heap} {n : Nat} {sa qa qb qc ta la : AV} {v : Eq38}
theorem law7a (e1 : rd dTys h sa = some v.sc) (e2 : rd dIts h qa = some v.q.items) (e3 : rd dNs h qb = some v.q.wh) (e4 : rd dNss h qc = some v.q.ret) (e5 : rd dNs h ta = some v.t) (e6 : rd dEss h la = some v.en.ls) (w : W8 v) (hn : Fresh n h) (e : Nat → AV)
    (q0 : e 0 = .g [sa]) (q1 : e 1 = .g [qa, .v (.int .i64 v.q.mode), .v (.int .i64 v.q.after), qb, .v (.int .i64 v.q.within), .v (.string v.q.par), qc]) (q2 : e 2 = ta) (q3 : e 3 = .g [la, .v (.int .i64 v.en.each), .v (.int .i64 v.en.pos)]) :
    awp (cz S8 (pfL tbl7)) (hdC 2 (Tryd.f7.body.getD .skip)) (thenQ (fun s => A8 v s ∧ beyondV v.en.ls = false) (finQ (cz S8 (pfL tbl7)) Tryd.f7 fun z _ _ => z = bv true)) ⟨e, roH h, n⟩ := by
  have o1 := (sl_is e1).2.2.2.1
  have o2 := (sl_is e2).2.2.2.1
  have o3 := (sl_is e3).2.2.2.1
  have o4 := (sl_is e4).2.2.2.1
  have o5 := (sl_is e6).2.2.2.1
  obtain ⟨s1, s2, s3, s4, s5⟩ := sl_is e5
  have r3 := (sl_is e6).2.2.1
  have g6 := rd_agree hn e6
  have g5 := rd_agree hn e5
  have gq : ∀ h', agree n (roH h) h' → deQ h' (.g [qa, .v (.int .i64 v.q.mode), .v (.int .i64 v.q.after), qb, .v (.int .i64 v.q.within), .v (.string v.q.par), qc]) = some v.q := fun h' ha => deQ_has (rd_agree hn e2 h' ha) (rd_agree hn e3 h' ha) (rd_agree hn e4 h' ha)
  have w1 := w.w1
  have w2 := w.w2
  have w3 : smallT v.q.wh ∧ v.q.ret.length < big ∧ ∀ t ∈ v.q.ret, smallT t := ⟨w.q2, w.q3, w.q4⟩
  have w4 : smallT v.t := w.t1
  have fr := roH_fresh hn
  cases hq : qdeep v.q with
  | true =>
    simp [evs, aeval, binS, cz_ti, cz_G, cz_pf, cz_tw, cz_two, two, ti, globS, glob, ldcs_1, ldcs_2, ldcs_3, ldcs_4, ldcs_5, ldcs_7, sls.eq_1, slc.eq_1, pfL, hdC, Tryd.f7, q0, q1, q2, q3, o1, o2, o3, o4, o5, s3, r3, bv, tbl7, pureH, agree_up, agree_refl, G14, deQ1, gq, hq]
    exact w3
  | false =>
    cases ht : deepB v.t with
    | true =>
      simp [evs, aeval, binS, cz_ti, cz_G, cz_pf, cz_tw, cz_two, two, ti, globS, glob, ldcs_1, ldcs_2, ldcs_3, ldcs_4, ldcs_5, ldcs_7, sls.eq_1, slc.eq_1, pfL, hdC, Tryd.f7, q0, q1, q2, q3, o1, o2, o3, o4, o5, s3, r3, bv, tbl7, pureH, agree_up, agree_refl, G14, deQ1, gq, hq, G15, deT, g5, ht]
      exact ⟨w3, w4⟩
    | false =>
      cases hb : beyondV v.en.ls with
      | true =>
        simp [evs, aeval, binS, cz_ti, cz_G, cz_pf, cz_tw, cz_two, two, ti, globS, glob, ldcs_1, ldcs_2, ldcs_3, ldcs_4, ldcs_5, ldcs_7, sls.eq_1, slc.eq_1, pfL, hdC, Tryd.f7, q0, q1, q2, q3, o1, o2, o3, o4, o5, s3, r3, bv, tbl7, pureH, agree_up, agree_refl, G14, deQ1, gq, hq, G15, deT, g5, ht, G27, deLL, g6, w1, hb]
        exact ⟨w3, w4, w2⟩
      | false =>
        simp [evs, aeval, binS, cz_ti, cz_G, cz_pf, cz_tw, cz_two, two, ti, globS, glob, ldcs_1, ldcs_2, ldcs_3, ldcs_4, ldcs_5, ldcs_7, sls.eq_1, slc.eq_1, pfL, hdC, Tryd.f7, q0, q1, q2, q3, o1, o2, o3, o4, o5, s3, r3, bv, tbl7, pureH, agree_up, agree_refl, G14, deQ1, gq, hq, G15, deT, g5, ht, G27, deLL, g6, w1, hb]
        refine ⟨w3, w4, w2, ?_⟩
        have ag : ∀ b1 b2 b3 : Option Blk, agree n (roH h) (up (up (up (roH h) n b1) (n + 1) b2) (n + 2) b3) := fun b1 b2 b3 => by simp [agree_up, agree_refl]
        exact ⟨by simpa [up, q2] using g5 _ (ag _ _ _), ⟨n, sa, by simp [up], by simp [up], rd_agree hn e1 _ (ag _ _ _)⟩, ⟨n + 1, qa, qb, qc, by simp [up], by simp [up], rd_agree hn e2 _ (ag _ _ _), rd_agree hn e3 _ (ag _ _ _), rd_agree hn e4 _ (ag _ _ _)⟩, ⟨n + 2, la, by simp [up], by simp [up], g6 _ (ag _ _ _)⟩, by simp [fresh_up, fr.add]⟩
theorem law7b (e : Nat → AV) (h' : Heap) (n' : Nat) (b : A8 v ⟨e, h', n'⟩) {Q : Ex → St → Prop} :
    awp (cz S8 (pfL tbl7)) (hdC 1 (tlC 2 (Tryd.f7.body.getD .skip))) (thenQ (A8 v) Q) ⟨e, h', n'⟩ := by
  simp [evs, aeval, binS, cz_ti, cz_G, cz_pf, cz_tw, cz_two, two, ti, globS, glob, ldcs_1, ldcs_2, ldcs_3, ldcs_4, ldcs_5, ldcs_7, sls.eq_1, slc.eq_1, pfL, hdC, tlC, Tryd.f7, tbl7, G39, pureH, de39, bv]
  exact b.up (by simp [up]) (agree_refl _ _) b.frs
def Post7c (v : Eq38) (e : Nat → AV) (h' : Heap) (n' : Nat) (s : St) : Prop := (∀ i ∈ [2, 4, 5, 7], s.e i = e i) ∧ agree n' h' s.h ∧ Fresh s.n s.h ∧ ∃ nx m9 ca la, n' ≤ nx ∧ nx ≤ m9 ∧ m9 < s.n ∧ s.e 9 = .p m9 0 0 ∧ s.h m9 = some ⟨[ca, la], 0, true, 2⟩ ∧ OwnQ s.h n' nx (.g [ca, la]) (compP v.sc (vars v.q.items) v.t)
def Post7d (l : List Nat) (i : Nat) (v : Eq38) (e : Nat → AV) (h' : Heap) (n' : Nat) (s : St) : Prop := (∀ i ∈ l, s.e i = e i) ∧ agree n' h' s.h ∧ Fresh s.n s.h ∧ n' ≤ s.n ∧ HasD s i n' s.n (compP v.sc (vars v.q.items) v.t)
theorem law7c (w : W8 v) (e : Nat → AV) (h' : Heap) (n' : Nat) (b : A8 v ⟨e, h', n'⟩) {Q : Ex → St → Prop} :
    awp (cz S8 (pfL tbl7)) (hdC 1 (tlC 3 (Tryd.f7.body.getD .skip))) (thenQ (Post7c v e h' n') Q) ⟨e, h', n'⟩ := by
  obtain ⟨at2, ⟨m4, a4, q4, b4, r4⟩, ⟨m5, a5, x5, y5, q5, b5, r5, r5', r5''⟩, ⟨m7, a7, q7, b7, r7⟩, fr⟩ := b
  simp only [] at at2 q4 b4 r4 q5 b5 r5 r5' r5'' q7 b7 r7 fr
  obtain ⟨ta, q2⟩ : ∃ x, e 2 = x := ⟨_, rfl⟩
  rw [q2] at at2
  have s3 := (sl_is at2).2.2.1
  have o4 := (sl_is r4).2.2.2.1
  have o5 := (sl_is r5).2.2.2.1
  have o5' := (sl_is r5').2.2.2.1
  have o5'' := (sl_is r5'').2.2.2.1
  simp [evs, aeval, binS, cz_ti, cz_G, cz_pf, cz_tw, cz_two, two, ti, globS, glob, ldcs_1, ldcs_2, ldcs_3, ldcs_4, ldcs_5, ldcs_7, sls.eq_1, slc.eq_1, pfL, hdC, tlC, Tryd.f7, q2, q4, q5, b4, b5, s3, o4, o5, o5', o5'', tbl7]
  refine (acall_z (S := [7]) (by simp [S8]) (c20 r4 (deQ_has (q := v.q) r5 r5' r5'') at2 w.it w.t1 w.tl ⟨by have := w.s1; unfold big; omega, fun t ht => by have := w.s2 t ht; unfold big; omega⟩ fr)).mono ?_
  rintro z h2 n2 ⟨a1, a2, a3, a4⟩
  obtain ⟨ca, la, rfl, k1, k2, k3, k4, k5, k6⟩ := a4.is
  have ho : ∀ b1 b2 : Option Blk, OwnQ (up (up h2 n2 b1) n2 b2) n' n2 (.g [ca, la]) (compP v.sc (vars v.q.items) v.t) := fun b1 b2 => a4.up (fun q h1 h2 => by rw [up_ne _ _ (by omega), up_ne _ _ (by omega)]) (Nat.le_refl _) (Nat.le_refl _)
  simp [evs, aeval, binS, cz_ti, cz_G, cz_pf, cz_tw, cz_two, two, ti, globS, glob, ldcs_1, ldcs_2, ldcs_3, ldcs_4, ldcs_5, ldcs_7, sls.eq_1, slc.eq_1, pfL, k1, k2, k3, k4, k5, k6]
  have hg2 : ∀ b1 b2 : Option Blk, agree n' h' (up (up h2 n2 b1) n2 b2) := fun b1 b2 => by simp [agree_up, a1, a3]
  exact ⟨by simp [up, q2, q4, q5, q7], hg2 _ _, by simp [fresh_up, a2.add], n2, n2, ca, la, a3, Nat.le_refl _, by simp, by simp [up], by simp [up], ho _ _⟩
theorem law7d (w : W8 v) (e : Nat → AV) (h' : Heap) (n' m9 : Nat) (ca la : AV) (fr : Fresh n' h') (q9 : e 9 = .p m9 0 0) (k9 : h' m9 = some ⟨[ca, la], 0, true, 2⟩) (o9 : dePr h' (.g [ca, la]) = some (compP v.sc (vars v.q.items) v.t)) (sm : PrSm (compP v.sc (vars v.q.items) v.t)) {Q : Ex → St → Prop} :
    awp (cz S8 (pfL tbl7)) (hdC 1 (tlC 4 (Tryd.f7.body.getD .skip))) (thenQ (Post7d [2, 4, 5, 7, 9] 10 v e h' n') Q) ⟨e, h', n'⟩ := by
  obtain ⟨a', b', hz, z1, z2⟩ := dePr_out o9
  obtain ⟨rfl, rfl⟩ : ca = a' ∧ la = b' := by injection hz with hz; injection hz with h1 h2; injection h2 with h2 _; exact ⟨h1, h2⟩
  obtain ⟨s1, s2, s3, s4, s5⟩ := sl_is z1
  obtain ⟨t1, t2, t3, t4, t5⟩ := sl_is z2
  simp [evs, aeval, binS, cz_ti, cz_G, cz_pf, cz_tw, cz_two, two, ti, globS, glob, ldcs_1, ldcs_2, ldcs_3, ldcs_4, ldcs_5, ldcs_7, sls.eq_1, slc.eq_1, pfL, hdC, tlC, Tryd.f7, q9, k9, s3, s4, s5, t3, t4, t5, tbl7]
  refine (acall_z (S := []) (by simp) (c25 o9 sm fr)).mono ?_
  rintro z h2 n2 ⟨a1, a2, a3, a4⟩
  have hrd := fun (h'' : Heap) (hh : ∀ q, n' ≤ q → q < n2 → h'' q = h2 q) => (a4.congr hh (Nat.le_refl _)).rd
  obtain ⟨w1, zb, rfl, d2, d3, d4, d5⟩ := a4
  obtain ⟨u1, u2, u3, u4, u5⟩ := d5.is
  simp [evs, aeval, binS, cz_ti, cz_G, cz_pf, cz_tw, cz_two, two, ti, globS, glob, ldcs_1, ldcs_2, ldcs_3, ldcs_4, ldcs_5, ldcs_7, sls.eq_1, slc.eq_1, pfL, u3, u4, u5]
  exact ⟨by simp [up], by simp [agree_up, a1, a3], by simp [fresh_up, a2.add], by simp only []; omega, n2, _, zb, by simp [up], a3, by simp, by simp [up], fun h'' hh => hrd h'' fun q k1 k2 => by rw [hh q k1 (by simp only []; omega)]; simp only []; rw [up_ne _ _ (by omega), up_ne _ _ (by omega)]⟩
theorem law7e (w : W8 v) (e : Nat → AV) (h' : Heap) (n' : Nat) (b : A8 v ⟨e, h', n'⟩) {Q : Ex → St → Prop} :
    awp (cz S8 (pfL tbl7)) (hdC 1 (tlC 5 (Tryd.f7.body.getD .skip))) (thenQ (Post7d [2, 4, 5, 7, 9, 10] 11 v e h' n') Q) ⟨e, h', n'⟩ := by
  obtain ⟨at2, ⟨m4, a4, q4, b4, r4⟩, ⟨m5, a5, x5, y5, q5, b5, r5, r5', r5''⟩, ⟨m7, a7, q7, b7, r7⟩, fr⟩ := b
  simp only [] at at2 q4 b4 r4 q5 b5 r5 r5' r5'' q7 b7 r7 fr
  obtain ⟨ta, q2⟩ : ∃ x, e 2 = x := ⟨_, rfl⟩
  rw [q2] at at2
  have s3 := (sl_is at2).2.2.1
  have o4 := (sl_is r4).2.2.2.1
  have o5 := (sl_is r5).2.2.2.1
  have o5' := (sl_is r5').2.2.2.1
  have o5'' := (sl_is r5'').2.2.2.1
  simp [evs, aeval, binS, cz_ti, cz_G, cz_pf, cz_tw, cz_two, two, ti, globS, glob, ldcs_1, ldcs_2, ldcs_3, ldcs_4, ldcs_5, ldcs_7, sls.eq_1, slc.eq_1, pfL, hdC, tlC, Tryd.f7, q2, q4, q5, b4, b5, s3, o4, o5, o5', o5'', tbl7]
  refine (acall_z (S := [7]) (by simp [S8]) (c20 r4 (deQ_has (q := v.q) r5 r5' r5'') at2 w.it w.t1 w.tl ⟨by have := w.s1; unfold big; omega, fun t ht => by have := w.s2 t ht; unfold big; omega⟩ fr)).mono ?_
  rintro z h2 n2 ⟨a1, a2, a3, a4⟩
  obtain ⟨ca, la, rfl, k1, k2, k3, k4, k5, k6⟩ := a4.is
  have ho : ∀ b1 b2 : Option Blk, OwnQ (up (up h2 n2 b1) n2 b2) n' (n2 + 2) (.g [ca, la]) (compP v.sc (vars v.q.items) v.t) := fun b1 b2 => a4.up (fun q h1 h2 => by rw [up_ne _ _ (by omega), up_ne _ _ (by omega)]) (Nat.le_refl _) (by omega)
  simp [evs, aeval, binS, cz_ti, cz_G, cz_pf, cz_tw, cz_two, two, ti, globS, glob, ldcs_1, ldcs_2, ldcs_3, ldcs_4, ldcs_5, ldcs_7, sls.eq_1, slc.eq_1, pfL, k1, k2, k3, k4, k5, k6]
  have hg2 : ∀ b1 b2 : Option Blk, agree n' h' (up (up h2 n2 b1) n2 b2) := fun b1 b2 => by simp [agree_up, a1, a3]
  exact ⟨by simp [up, q2, q4, q5, q7], hg2 _ _, by simp [fresh_up, a2.add], by simp only []; omega, HasP.d ⟨n2, ca, la, by simp [up], a3, by simp, by simp, by simp [up], ho _ _⟩⟩
/-- The beginning, in one. -/
theorem law7A (e1 : rd dTys h sa = some v.sc) (e2 : rd dIts h qa = some v.q.items) (e3 : rd dNs h qb = some v.q.wh) (e4 : rd dNss h qc = some v.q.ret) (e5 : rd dNs h ta = some v.t) (e6 : rd dEss h la = some v.en.ls) (w : W8 v) (sm : PrSm (compP v.sc (vars v.q.items) v.t)) (hn : Fresh n h) (e : Nat → AV)
    (q0 : e 0 = .g [sa]) (q1 : e 1 = .g [qa, .v (.int .i64 v.q.mode), .v (.int .i64 v.q.after), qb, .v (.int .i64 v.q.within), .v (.string v.q.par), qc]) (q2 : e 2 = ta) (q3 : e 3 = .g [la, .v (.int .i64 v.en.each), .v (.int .i64 v.en.pos)])
    (hx : ∀ (e : Nat → AV) (h : Heap) (n : Nat) (A : Ap) (wc uc n0 nx m9 : Nat) (ca la : AV), beyondV v.en.ls = false → S7 v (compP v.sc (vars v.q.items) v.t) A wc uc n0 nx n m9 ca la ⟨e, h, n⟩ → PC (compP v.sc (vars v.q.items) v.t) A wc uc ca la h False False (fun _ => False) → awp (cz S8 (pfL tbl7)) (tlC 6 (Tryd.f7.body.getD .skip)) (finQ (cz S8 (pfL tbl7)) Tryd.f7 fun z _ _ => z = bv true) ⟨e, h, n⟩) :
    awp (cz S8 (pfL tbl7)) (Tryd.f7.body.getD .skip) (finQ (cz S8 (pfL tbl7)) Tryd.f7 fun z _ _ => z = bv true) ⟨e, roH h, n⟩ := by
  refine awp_cut 2 _ _ (law7a e1 e2 e3 e4 e5 e6 w hn _ q0 q1 q2 q3) fun x1 h1 n1 ⟨b1, hb⟩ => ?_
  refine awp_cut 1 _ _ (law7b x1 h1 n1 b1) fun x2 h2 n2 b2 => ?_
  refine awp_cut 1 _ _ (law7c w x2 h2 n2 b2) fun x3 h3 n3 ⟨i3, g3, f3, nx, m9, ca, la', d1, d2, d3, d4, d5, d6⟩ => ?_
  simp only [] at i3 g3 f3 d3 d4 d5 d6
  refine awp_cut 1 _ _ (law7d w x3 h3 n3 m9 ca la' f3 d4 d5 d6.rd sm) fun x4 h4 n4 ⟨i4, g4, f4, l4, k4⟩ => ?_
  simp only [] at i4 g4 f4 l4
  have g24 : agree n2 h2 h4 := fun q hq => by rw [g4 q (by omega)]; exact g3 q hq
  have b4 : A8 v ⟨x4, h4, n4⟩ := b2.up (s' := ⟨x4, h4, n4⟩) (fun i hi => by
    simp only []
    rw [i4 i (by simp only [List.mem_cons, List.not_mem_nil, or_false] at hi ⊢; omega)]; exact i3 i hi) g24 f4
  refine awp_cut 1 _ _ (law7e w x4 h4 n4 b4) fun x5 h5 n5 ⟨i5, g5, f5, l5, k5⟩ => ?_
  simp only [] at i5 g5 f5 l5
  obtain ⟨A, wc, uc, px, pc⟩ := d6.px
  have g35 : ∀ q, q < n3 → h5 q = h3 q := fun q hq => by rw [g5 q (by omega), g4 q hq]
  refine hx x5 h5 n5 A wc uc n2 nx m9 ca la' hb ⟨px, ?_, by simp only []; rw [g35 m9 d3]; exact d5, ⟨d2, by omega⟩, ?_, ?_, ⟨x2, h2, b2, fun i hi => ?_, fun q hq => by simp only []; rw [g35 q (by omega)]; exact g3 q hq⟩, ⟨d1, Nat.le_refl _⟩, f5⟩ ?_
  · simp only []
    rw [i5 9 (by simp), i4 9 (by simp)]; exact d4
  · exact k4.up (i5 10 (by simp)) (fun q _ hq => g5 q hq) (by omega) (by simp only []; omega)
  · exact k5.up rfl (fun _ _ _ => rfl) (by omega) (Nat.le_refl _)
  · simp only []
    rw [i5 i (by simp only [List.mem_cons, List.not_mem_nil, or_false] at hi ⊢; omega), i4 i (by simp only [List.mem_cons, List.not_mem_nil, or_false] at hi ⊢; omega)]; exact i3 i hi
  · exact pc.up px (fun q k1 k2 => g35 q (by omega)) id id fun _ => id
end
end Go.Proofs.YtkfphaphiikloaaDoor

/-
  CodeSpares: the law's own code: the code made longer.
-/
namespace Go.Proofs.YtkfphaphiikloaaDoor
open Go Go.Eng

structure Sz7 (P : Pr) : Prop where
  code : (P.code.length + 31) * 40 ≤ 140737488355328
  cols : (3 * P.cols.length + 1) * 24 ≤ 140737488355328
  col : ∀ i (hi : i < P.cols.length), (P.cols[i].length + 31) * 8 ≤ 140737488355328
/-- The code, and one instruction behind it. -/
def Ends (P : Pr) (wc nx : Nat) (ca : AV) (s : St) : Prop := ∃ w u cs, s.e 12 = .s w u 0 (P.code.length + 1) ∧ s.h w = some ⟨cs, u, true, 5⟩ ∧ cs.length = (P.code.length + 1) * 5 ∧ cs[P.code.length * 5 + 3]? = some (ii (-1)) ∧ ((sid ca wc ∧ w = wc) ∨ nx ≤ w) ∧ w < s.n
def Post7f (v : Eq38) (P : Pr) (A : Ap) (wc uc n0 nx n3 m9 : Nat) (ca la : AV) (s : St) : Prop := S7 v P A wc uc n0 nx n3 m9 ca la s ∧ PC P A wc uc ca la s.h True False (fun _ => False) ∧ Ends P wc nx ca s ∧ s.e 13 = .v (.slice none 0 0)
section
set_option maxRecDepth 100000
set_option maxHeartbeats 4000000
variable {v : Eq38} {P : Pr} {A : Ap} {wc uc n0 nx n3 m9 : Nat} {ca la : AV}
theorem law7f (z : Sz7 P) (e : Nat → AV) (h : Heap) (n : Nat) (a : S7 v P A wc uc n0 nx n3 m9 ca la ⟨e, h, n⟩) (pc : PC P A wc uc ca la h False False (fun _ => False)) {Q : Ex → St → Prop} :
    awp (cz S8 (pfL tbl7)) (hdC 2 (tlC 6 (Tryd.f7.body.getD .skip))) (thenQ (Post7f v P A wc uc n0 nx n3 m9 ca la) Q) ⟨e, h, n⟩ := by
  have q9 := a.e9
  have k9 := a.k9
  have hn3 := a.nn.2
  have hnx := a.nn.1
  have hr9 := a.r9
  have fr := a.fr
  simp only [] at q9 k9 hn3 fr
  obtain ⟨⟨i1, i2, i3, i4, i5⟩, ⟨j1, j2, j3, j4, j5⟩⟩ := a.px.is
  have b1 := z.code
  have b2 : (P.code.length + 1) * 40 ≤ 140737488355328 := by omega
  have b3 : P.code.length ≤ 9223372036854775806 := by omega
  have y1 : ¬ m9 = n := by omega
  rcases a.px.hca with ⟨h0, hca⟩ | ⟨hca, c1, c2, c3, c4⟩
  · subst hca
    simp [evs, aeval, binS, cz_ti, cz_G, cz_pf, cz_tw, cz_two, two, ti, globS, glob, ldcs_1, ldcs_2, ldcs_3, ldcs_4, ldcs_5, ldcs_7, sls.eq_1, slc.eq_1, pfL, hdC, tlC, Tryd.f7, q9, k9, i3, i4, i5, j3, j4, j5, y1]
    have hk : ∀ q, q < n → ∀ b1 b2 : Option Blk, up (up h n b1) (n + 1) b2 q = h q := fun q hq b1 b2 => by rw [up_ne _ _ (by omega), up_ne _ _ (by omega)]
    refine ⟨a.up (by simp [up]) (fun q hq _ => hk q (by omega) _ _) (Nat.le_refl _) (by simp only []; omega) ((fresh_up (by simp only []; omega) _).2 ((fresh_up (by simp only []; omega) _).2 (fr.add 2))), pc.up a.px (fun q h1 h2 => hk q (by omega) _ _) False.elim id fun _ => id, ⟨n + 1, 0, _, by simp [up, h0], up_same _ _ _, by rw [h0]; rfl, by rw [h0]; rfl, .inr (by omega), by simp⟩, by simp [up]⟩
  · subst hca
    obtain ⟨r, hr, hr0⟩ := pc.c rfl
    have hr0 := hr0.resolve_left id
    subst hr0
    rw [List.append_nil] at hr
    have hcl : (P.code.flatMap icells).length = P.code.length * 5 := flat_len Flat.ins _
    have y2 : ¬ wc = n := by omega
    have y3 : ¬ m9 = wc := by omega
    simp [evs, aeval, binS, cz_ti, cz_G, cz_pf, cz_tw, cz_two, two, ti, globS, glob, ldcs_1, ldcs_2, ldcs_3, ldcs_4, ldcs_5, ldcs_7, sls.eq_1, slc.eq_1, pfL, hdC, tlC, Tryd.f7, q9, k9, i3, i4, i5, j3, j4, j5, y1, y2, y3, hr, hcl, b2, b3]
    have hk : ∀ q, q < n → q ≠ wc → ∀ b1 b2 : Option Blk, up (up h n b1) wc b2 q = h q := fun q hq hw b1 b2 => by rw [up_ne _ _ hw, up_ne _ _ (by omega)]
    have hk' : ∀ q, q < n → ∀ b1 b2 : Option Blk, up (up h n b1) (n + 1) b2 q = h q := fun q hq b1 b2 => by rw [up_ne _ _ (by omega), up_ne _ _ (by omega)]
    refine ⟨⟨a.up (by simp [up]) (fun q hq hq2 => hk q (by omega) (by omega) _ _) (Nat.le_refl _) (by simp only []; omega) ((fresh_up (by simp only []; omega) _).2 ((fresh_up (by simp only []; omega) _).2 (fr.add 2))), ⟨fun _ => ⟨_, up_same _ _ _, .inl trivial⟩, fun hl => ?_, fun i hi hn => ?_⟩, ⟨wc, uc, _, by simp [up], up_same _ _ _, by rw [List.length_append, hcl, Nat.succ_mul]; rfl, ?_, .inl ⟨rfl, rfl⟩, by simp only []; omega⟩, by simp [up]⟩, ⟨a.up (by simp [up]) (fun q hq hq2 => hk' q (by omega) _ _) (Nat.le_refl _) (by simp only []; omega) ((fresh_up (by simp only []; omega) _).2 ((fresh_up (by simp only []; omega) _).2 (fr.add 2))), pc.up a.px (fun q h1 h2 => hk' q (by omega) _ _) False.elim id fun _ => id, ⟨n + 1, 0, _, by simp [up], up_same _ _ _, by rw [List.length_append, hcl, Nat.succ_mul]; rfl, ?_, .inr (by omega), by simp⟩, by simp [up]⟩⟩
    · obtain ⟨r, k1, k2⟩ := pc.l hl
      have hw : A.wl < n := lt_of k1 fr
      exact ⟨r, by simp only []; rw [hk _ hw (fun e => c3 hl e.symm)]; exact k1, k2⟩
    · obtain ⟨r, k1, k2⟩ := pc.b i hi hn
      have hw : A.b i < n := lt_of k1 fr
      exact ⟨r, by simp only []; rw [hk _ hw (fun e => c4 i (by rw [a.px.N]; exact hi) hn e.symm)]; exact k1, k2⟩
    · rw [List.getElem?_append_right (by omega), hcl, Nat.add_sub_cancel_left]; rfl
    · rw [List.getElem?_append_right (by omega), hcl, Nat.add_sub_cancel_left]; rfl
end
end Go.Proofs.YtkfphaphiikloaaDoor

/-
  CodeSpares: the law's own code: the columns made longer.
-/
namespace Go.Proofs.YtkfphaphiikloaaDoor
open Go Go.Eng

def mkC (i : Nat) : Int := IntKind.i64.wrap (-100 - (i : Int))
def l1 (A : Ap) (β υ : Nat → Nat) (j : Nat) : AV := .s (β j) (υ j) 0 (A.L j + 1)
/-- The first i have been made longer by one; z is the list of them. -/
structure P3 (P : Pr) (A : Ap) (h0 : Heap) (nB i : Nat) (z : AV) (h : Heap) (nn : Nat) : Prop where
  at_ : ∀ j (hj : j < P.cols.length), A.nl j = false → ∃ r, h (A.b j) = some ⟨P.cols[j].map ii ++ r, A.u j, true, 1⟩ ∧ (j < i ∨ r = [])
  oth : ∀ q, q < nB → (∀ j, j < A.N → A.nl j = false → q ≠ A.b j) → h q = h0 q
  lg : ∃ β υ : Nat → Nat, (∀ j, j < i → ∃ es, h (β j) = some ⟨es, υ j, true, 1⟩ ∧ es.length = A.L j + 1 ∧ es[A.L j]? = some (ii (mkC j)) ∧ ((A.nl j = false ∧ β j = A.b j) ∨ (nB ≤ β j ∧ β j < nn))) ∧
    ((i = 0 ∧ z = .v (.slice none 0 0)) ∨ ∃ w uw, z = .s w uw 0 i ∧ h w = some ⟨(List.range i).map (l1 A β υ), uw, true, 1⟩ ∧ nB ≤ w ∧ w < nn ∧ ∀ j, j < i → β j ≠ w)
  fr : Fresh nn h
  bn : nB ≤ nn
section
variable {P : Pr} {A : Ap} {h0 hI : Heap} {wc uc lo hi nB nI i : Nat} {z ca la : AV}
theorem P3.next (ok : PX P A wc uc lo hi ca la) (hlo : hi ≤ nB) (p : P3 P A h0 nB i z hI nI) (hi' : i < P.cols.length) {h' : Heap} {nn' bx ux w' uw' : Nat} {es ds : List AV} (hm : nI ≤ nn') (hf : Fresh nn' h')
    (hds : (i = 0 ∧ z = .v (.slice none 0 0) ∧ ds = [] ∧ nI ≤ w') ∨ ∃ w uw, z = .s w uw 0 i ∧ hI w = some ⟨ds, uw, true, 1⟩ ∧ (nI ≤ w' ∨ w' = w))
    (hw : h' w' = some ⟨ds ++ [.s bx ux 0 (A.L i + 1)], uw', true, 1⟩) (hw1 : w' < nn')
    (hx : h' bx = some ⟨es, ux, true, 1⟩) (hx1 : es.length = A.L i + 1) (hx2 : es[A.L i]? = some (ii (mkC i))) (hx3 : (A.nl i = false ∧ bx = A.b i) ∨ (nI ≤ bx ∧ bx < nn')) (hx4 : bx ≠ w')
    (hk : ∀ q, q < nI → (A.nl i = false → q ≠ A.b i) → q ≠ w' → h' q = hI q) (hb : A.nl i = false → ∃ r, h' (A.b i) = some ⟨P.cols[i].map ii ++ r, A.u i, true, 1⟩) :
    P3 P A h0 nB (i + 1) (.s w' uw' 0 (i + 1)) h' nn' := by
  have hbn := p.bn
  obtain ⟨β, υ, l1', l2⟩ := p.lg
  have hiN : i < A.N := by rw [ok.N]; exact hi'
  have hw0 : nB ≤ w' ∧ (∀ j, j < i → β j ≠ w') ∧ ds = (List.range i).map (l1 A β υ) ∧ (nI ≤ w' ∨ w' < nI) := by
    rcases hds with ⟨h1, rfl, rfl, h3⟩ | ⟨w, uw, rfl, h2, h3⟩
    · refine ⟨by omega, fun j hj => by omega, by rw [h1]; rfl, .inl h3⟩
    · rcases l2 with ⟨_, h4⟩ | ⟨w2, uw2, h4, h5, h6, h7, h8⟩
      · cases h4
      · injection h4 with h9 h10 _ _
        subst h9 h10
        rw [h2] at h5
        simp only [Option.some.injEq, Blk.mk.injEq, and_true] at h5
        rcases h3 with h3 | rfl
        · refine ⟨by omega, fun j hj => ?_, h5, .inl h3⟩
          obtain ⟨_, _, _, _, e3⟩ := l1' j hj
          rcases e3 with ⟨e3, e4⟩ | ⟨_, e4⟩
          · have := (ok.rb j (by omega) e3).2; omega
          · omega
        · exact ⟨h6, h8, h5, .inr h7⟩
  obtain ⟨hw2, hw3, rfl, hw4⟩ := hw0
  have hβ : ∀ j, j < i → β j < nI ∧ (A.nl i = false → β j ≠ A.b i) := fun j hj => by
    obtain ⟨_, _, _, _, e3⟩ := l1' j hj
    rcases e3 with ⟨e3, e4⟩ | ⟨e3, e4⟩
    · have := (ok.rb j (by omega) e3).2
      exact ⟨by omega, fun hn e => by have := ok.inj j i (by omega) hiN e3 hn (by rw [← e4, e]); omega⟩
    · exact ⟨e4, fun hn e => by have := (ok.rb i hiN hn).2; omega⟩
  have hbw : ∀ j, j < A.N → A.nl j = false → A.b j ≠ w' := fun j hj hn => by have := (ok.rb j hj hn).2; omega
  refine ⟨fun j hj hn => ?_, fun q hq ho => ?_, ⟨fun j => if j = i then bx else β j, fun j => if j = i then ux else υ j, fun j hj => ?_, .inr ⟨w', uw', rfl, ?_, hw2, hw1, fun j hj => ?_⟩⟩, hf, by omega⟩
  · have hjN : j < A.N := by rw [ok.N]; exact hj
    have hjb := (ok.rb j hjN hn).2
    by_cases e : j = i
    · subst e
      obtain ⟨r, hr⟩ := hb hn
      exact ⟨r, hr, .inl (by omega)⟩
    · obtain ⟨r, c1, c2⟩ := p.at_ j hj hn
      exact ⟨r, by rw [hk _ (by omega) (fun hn2 e2 => e (ok.inj j i hjN hiN hn hn2 e2)) (hbw j hjN hn)]; exact c1, c2.imp (fun h => by omega) id⟩
  · rw [hk q (by omega) (fun hn => ho i hiN hn) (by omega)]
    exact p.oth q hq ho
  · by_cases e : j = i
    · subst e
      simp only [if_true]
      exact ⟨es, hx, hx1, hx2, hx3.imp id fun h => ⟨by omega, h.2⟩⟩
    · simp only [e, if_false]
      obtain ⟨es', e1, e2, e4, e3⟩ := l1' j (by omega)
      exact ⟨es', by rw [hk _ (hβ j (by omega)).1 (hβ j (by omega)).2 (hw3 j (by omega))]; exact e1, e2, e4, e3.imp id fun h => ⟨h.1, by omega⟩⟩
  · rw [hw, List.range_succ, List.map_append]
    have e1 : (List.range i).map (l1 A (fun j => if j = i then bx else β j) fun j => if j = i then ux else υ j) = (List.range i).map (l1 A β υ) := List.map_congr_left fun j hj => by
      have : j < i := List.mem_range.1 hj
      simp only [l1, show ¬ j = i by omega, if_false]
    rw [e1]
    simp [l1]
  · by_cases e : j = i
    · simp only [e, if_true]; exact hx4
    · simp only [e, if_false]
      exact hw3 j (by omega)
end
/-- Variables that are as they were. -/
def Ke (l : List Nat) (e e' : Nat → AV) : Prop := ∀ j ∈ l, e' j = e j
theorem Ke.up {l : List Nat} {e e' e'' : Nat → AV} (k : Ke l e e') (h : ∀ j ∈ l, e'' j = e' j) : Ke l e e'' := fun j hj => (h j hj).trans (k j hj)
/-- The columns made longer, all of them. -/
def Cols7 (A : Ap) (la : AV) (s : St) : Prop := ∃ β υ : Nat → Nat, (∀ j, j < A.N → ∃ es, s.h (β j) = some ⟨es, υ j, true, 1⟩ ∧ es.length = A.L j + 1 ∧ es[A.L j]? = some (ii (mkC j)) ∧ β j ≠ A.wl ∧ β j < s.n) ∧
    ((A.N = 0 ∧ s.e 13 = .v (.slice none 0 0)) ∨ ∃ w uw, s.e 13 = .s w uw 0 A.N ∧ s.h w = some ⟨(List.range A.N).map (l1 A β υ), uw, true, 1⟩ ∧ (sid la A.wl → w ≠ A.wl) ∧ w < s.n)
def Post7g (v : Eq38) (P : Pr) (A : Ap) (wc uc n0 nx n3 m9 : Nat) (ca la : AV) (s : St) : Prop := S7 v P A wc uc n0 nx n3 m9 ca la s ∧ PC P A wc uc ca la s.h True False (fun _ => True) ∧ Ends P wc nx ca s ∧ Cols7 A la s
section
set_option maxRecDepth 100000
set_option maxHeartbeats 4000000
variable {v : Eq38} {P : Pr} {A : Ap} {wc uc n0 nx n3 m9 : Nat} {ca la : AV}
theorem law7g (z : Sz7 P) (e : Nat → AV) (h : Heap) (n : Nat) (a : Post7f v P A wc uc n0 nx n3 m9 ca la ⟨e, h, n⟩) {Q : Ex → St → Prop} :
    awp (cz S8 (pfL tbl7)) (hdC 1 (tlC 8 (Tryd.f7.body.getD .skip))) (thenQ (Post7g v P A wc uc n0 nx n3 m9 ca la) Q) ⟨e, h, n⟩ := by
  obtain ⟨a, pc, en, q13⟩ := a
  have q9 := a.e9
  have k9 := a.k9
  have hn3 := a.nn.2
  have hnx := a.nn.1
  have hr9 := a.r9
  have fr := a.fr
  have px := a.px
  simp only [] at q9 k9 hn3 fr q13 pc
  obtain ⟨⟨i1, i2, i3, i4, i5⟩, ⟨j1, j2, j3, j4, j5⟩⟩ := a.px.is
  have hbz := z.cols
  have hN := px.N
  have start : P3 P A h n 0 (.v (.slice none 0 0)) h n := ⟨fun j hj hn => by
    obtain ⟨r, k1, k2⟩ := pc.b j hj hn
    exact ⟨r, k1, .inr (k2.resolve_left id)⟩, fun _ _ _ => rfl, ⟨fun _ => 0, fun _ => 0, fun j hj => by omega, .inl ⟨rfl, rfl⟩⟩, fr, Nat.le_refl _⟩
  have hm9 : ∀ j, j < A.N → A.nl j = false → m9 ≠ A.b j := fun j hj hn => by have := (px.rb j hj hn).2; omega
  simp [evs, aeval, binS, cz_ti, cz_G, cz_pf, cz_tw, cz_two, two, ti, globS, glob, ldcs_1, ldcs_2, ldcs_3, ldcs_4, ldcs_5, ldcs_7, sls.eq_1, slc.eq_1, pfL, hdC, tlC, Tryd.f7]
  refine awp_loop (fun s => ∃ i : Nat, i ≤ A.N ∧ Ke [2, 4, 5, 7, 9, 10, 11, 12] e s.e ∧ s.e 14 = ii i ∧ P3 P A h n i (s.e 13) s.h s.n) (fun s => A.N - (s.e 14).i.toNat) ⟨0, by omega, fun j hj => by simp at hj; rcases hj with rfl | rfl | rfl | rfl | rfl | rfl | rfl | rfl <;> simp [up], by simp [up, ii], by simpa [up, q13] using start⟩ ?_
  rintro e' hI nI ⟨i, hi, he, q14, p⟩
  simp only [] at he q14 p
  have q9' : e' 9 = .p m9 0 0 := (he 9 (by simp)).trans q9
  have k9' : hI m9 = some ⟨[ca, la], 0, true, 2⟩ := by rw [p.oth m9 (by omega) hm9]; exact k9
  have hiw := wrap_nat (j := i) (by unfold big; omega)
  by_cases hlt : i < A.N
  · have hlt' : (i : Int) < (A.N : Int) := by omega
    have hic : i < P.cols.length := by omega
    have hla := px.hla.resolve_left fun h => by omega
    obtain ⟨hla, hl1, hl2⟩ := hla
    have hsl : sid la A.wl := by rw [hla]; rfl
    obtain ⟨r, hr, hr0⟩ := pc.l hsl
    have hr0 := hr0.resolve_left id
    subst hr0
    rw [List.append_nil] at hr
    have hrI : hI A.wl = some ⟨A.cs, A.ul, true, 1⟩ := by rw [p.oth A.wl (by omega) (fun j hj hn e => px.ne j hj hn e.symm)]; exact hr
    have hcs := A.cs_at hlt
    have hcl := A.cs_len
    have hcg : A.cs[i]'(by rw [hcl]; exact hlt) = A.c i := by simp [Ap.cs]
    have hi1 : i + 1 ≤ A.N := hlt
    obtain ⟨zz, q5⟩ : ∃ z, e' 13 = z := ⟨_, rfl⟩
    rw [q5] at p
    have px' := px
    have hcol := z.col i hic
    rw [← px.L i hic] at hcol
    have frI := p.fr
    have hbn := p.bn
    have hnI : n ≤ nI := p.bn
    subst hla
    obtain ⟨β, υ, l1', l2⟩ := p.lg
    have b1 : (i + 1) * 24 ≤ 140737488355328 := by omega
    have b2 : i ≤ 9223372036854775806 := by omega
    have b3 : (A.L i + 1) * 8 ≤ 140737488355328 := by omega
    have b4 : A.L i ≤ 9223372036854775806 := by omega
    have hwl : ((List.range i).map (l1 A β υ)).length = i := by simp
    have hxx : mkC i = IntKind.i64.wrap (-100 - (i : Int)) := rfl
    generalize hmk : IntKind.i64.wrap (-100 - (i : Int)) = mk at *
    cases hn : A.nl i with
    | true =>
      have hL := px.nil i hlt hn
      have hci : A.c i = .v (.slice none 0 0) := by simp [Ap.c, hn]
      rw [hci] at hcs hcg
      rcases l2 with ⟨hi0, rfl⟩ | ⟨w, uw, rfl, w2, w3, w4, w5⟩
      · simp [evs, aeval, binS, cz_ti, cz_G, cz_pf, cz_tw, cz_two, two, ti, globS, glob, ldcs_1, ldcs_2, ldcs_3, ldcs_4, ldcs_5, ldcs_7, sls.eq_1, slc.eq_1, pfL, q9', k9', q5, q14, ii, hlt, hlt', hrI, hcs, hcg, hcl, hi1, i3, i4, i5, j3, j4, j5, hmk, hiw]
        have e1 : AV.s (nI + 3) 0 0 1 = AV.s (nI + 3) 0 0 (i + 1) := by rw [hi0]
        rw [e1]
        exact ⟨⟨i + 1, by omega, he.up (by simp [up]), by simp, p.next px' (by omega) hic (bx := nI + 1) (ux := 0) (es := [.v (.int .i64 mk)]) (ds := []) (by omega) (by simp [fresh_up, frI.add]) (.inl ⟨hi0, rfl, rfl, by omega⟩) (by rw [up_same, hL]; rfl) (by omega) (by rw [up_ne _ _ (by omega), up_ne _ _ (by omega), up_same]) (by rw [hL]; rfl) (by rw [hL, hxx]; rfl) (.inr ⟨by omega, by omega⟩) (by omega) (fun q h1 _ _ => by rw [up_ne _ _ (by omega), up_ne _ _ (by omega), up_ne _ _ (by omega), up_ne _ _ (by omega)]) (fun h => by rw [hn] at h; cases h)⟩, by omega⟩
      · have y1 : ¬ w = nI := by omega
        have y2 : ¬ w = nI + 1 := by omega
        have y3 : w < nI + 4 := by omega
        have y4 : ¬ w = nI + 2 := by omega
        generalize hds : (List.range i).map (l1 A β υ) = ds at *
        simp [evs, aeval, binS, cz_ti, cz_G, cz_pf, cz_tw, cz_two, two, ti, globS, glob, ldcs_1, ldcs_2, ldcs_3, ldcs_4, ldcs_5, ldcs_7, sls.eq_1, slc.eq_1, pfL, q9', k9', q5, q14, ii, hlt, hlt', hrI, hcs, hcg, hcl, hi1, i3, i4, i5, j3, j4, j5, hmk, hiw, w2, hwl, b1, b2, y1, y2, y4]
        refine ⟨⟨⟨i + 1, by omega, he.up (by simp [up]), by simp, p.next px' (by omega) hic (bx := nI + 1) (ux := 0) (es := [.v (.int .i64 mk)]) (ds := ds) (by omega) (by simp [fresh_up, frI.add, y3]) (.inr ⟨w, uw, rfl, w2, .inr rfl⟩) (by rw [up_same, hL]) (by omega) (by rw [up_ne _ _ (by omega), up_ne _ _ (by omega), up_same]) (by rw [hL]; rfl) (by rw [hL, hxx]; rfl) (.inr ⟨by omega, by omega⟩) (by omega) (fun q h1 _ hq => by rw [up_ne _ _ hq, up_ne _ _ (by omega), up_ne _ _ (by omega), up_ne _ _ (by omega)]) (fun h => by rw [hn] at h; cases h)⟩, by omega⟩, ⟨i + 1, by omega, he.up (by simp [up]), by simp, p.next px' (by omega) hic (bx := nI + 1) (ux := 0) (es := [.v (.int .i64 mk)]) (ds := ds) (by omega) (by simp [fresh_up, frI.add]) (.inr ⟨w, uw, rfl, w2, .inl (by omega)⟩) (by rw [up_same, hL]) (by omega) (by rw [up_ne _ _ (by omega), up_ne _ _ (by omega), up_same]) (by rw [hL]; rfl) (by rw [hL, hxx]; rfl) (.inr ⟨by omega, by omega⟩) (by omega) (fun q h1 _ _ => by rw [up_ne _ _ (by omega), up_ne _ _ (by omega), up_ne _ _ (by omega), up_ne _ _ (by omega)]) (fun h => by rw [hn] at h; cases h)⟩, by omega⟩
    | false =>
      have hci : A.c i = .s (A.b i) (A.u i) 0 (A.L i) := by simp [Ap.c, hn]
      rw [hci] at hcs hcg
      obtain ⟨rb, hb, hb0⟩ := p.at_ i hic hn
      have hb0 := hb0.resolve_left (by omega)
      subst hb0
      rw [List.append_nil] at hb
      have hbl : (P.cols[i].map ii).length = A.L i := by rw [List.length_map, px'.L i hic]
      have hbr := (px'.rb i hlt hn).2
      have x1 : ¬ A.b i = nI := by omega
      have x2 : A.b i < nI + 4 := by omega
      have x3 : ¬ A.b i = nI + 1 := by omega
      have x4 : ¬ A.b i = nI + 2 := by omega
      have x5 : ¬ A.b i = nI + 3 := by omega
      have hge : ∀ a : AV, (P.cols[i].map ii ++ [a])[A.L i]? = some a := fun a => by rw [List.getElem?_append_right (by omega), hbl, Nat.sub_self]; rfl
      generalize hbs : P.cols[i].map ii = bs at *
      have hx5 : ¬ m9 = A.b i := hm9 i hlt hn
      have hx6 : ¬ A.wl = A.b i := fun e => px'.ne i hlt hn e.symm
      rcases l2 with ⟨hi0, rfl⟩ | ⟨w, uw, rfl, w2, w3, w4, w5⟩
      · simp [evs, aeval, binS, cz_ti, cz_G, cz_pf, cz_tw, cz_two, two, ti, globS, glob, ldcs_1, ldcs_2, ldcs_3, ldcs_4, ldcs_5, ldcs_7, sls.eq_1, slc.eq_1, pfL, q9', k9', q5, q14, ii, hlt, hlt', hrI, hcs, hcg, hcl, hi1, i3, i4, i5, j3, j4, j5, hmk, hiw, hb, hbl, b3, b4, x1, x3, x4, x5, hx5, hx6]
        have e1 : AV.s (nI + 3) 0 0 1 = AV.s (nI + 3) 0 0 (i + 1) := by rw [hi0]
        rw [e1]
        refine ⟨⟨⟨i + 1, by omega, he.up (by simp [up]), by simp, p.next px' (by omega) hic (bx := A.b i) (ux := A.u i) (es := bs ++ [.v (.int .i64 mk)]) (ds := []) (by omega) (by simp [fresh_up, frI.add, x2]) (.inl ⟨hi0, rfl, rfl, by omega⟩) (by rw [up_same]; rfl) (by omega) (by rw [up_ne _ _ (by omega), up_ne _ _ (by omega), up_same]) (by rw [List.length_append, hbl]; rfl) (by rw [hge, hxx]; rfl) (.inl ⟨hn, rfl⟩) (by omega) (fun q h1 h2 _ => by rw [up_ne _ _ (by omega), up_ne _ _ (by omega), up_ne _ _ (h2 hn), up_ne _ _ (by omega)]) (fun _ => ⟨[.v (.int .i64 mk)], by rw [up_ne _ _ (by omega), up_ne _ _ (by omega), up_same, hbs]⟩)⟩, by omega⟩, ⟨i + 1, by omega, he.up (by simp [up]), by simp, p.next px' (by omega) hic (bx := nI + 1) (ux := 0) (es := bs ++ [.v (.int .i64 mk)]) (ds := []) (by omega) (by simp [fresh_up, frI.add, x2]) (.inl ⟨hi0, rfl, rfl, by omega⟩) (by rw [up_same]; rfl) (by omega) (by rw [up_ne _ _ (by omega), up_ne _ _ (by omega), up_same]) (by rw [List.length_append, hbl]; rfl) (by rw [hge, hxx]; rfl) (.inr ⟨by omega, by omega⟩) (by omega) (fun q h1 h2 _ => by rw [up_ne _ _ (by omega), up_ne _ _ (by omega), up_ne _ _ (by omega), up_ne _ _ (by omega)]) (fun _ => ⟨[], by rw [up_ne _ _ (by omega), up_ne _ _ (by omega), up_ne _ _ (by omega), up_ne _ _ (by omega), List.append_nil, hbs]; exact hb⟩)⟩, by omega⟩
      · have y1 : ¬ w = nI := by omega
        have y2 : ¬ w = nI + 1 := by omega
        have y3 : w < nI + 4 := by omega
        have y4 : ¬ w = nI + 2 := by omega
        have y5 : ¬ w = A.b i := by omega
        generalize hds : (List.range i).map (l1 A β υ) = ds at *
        simp [evs, aeval, binS, cz_ti, cz_G, cz_pf, cz_tw, cz_two, two, ti, globS, glob, ldcs_1, ldcs_2, ldcs_3, ldcs_4, ldcs_5, ldcs_7, sls.eq_1, slc.eq_1, pfL, q9', k9', q5, q14, ii, hlt, hlt', hrI, hcs, hcg, hcl, hi1, i3, i4, i5, j3, j4, j5, hmk, hiw, hb, hbl, b3, b4, x1, x3, x4, x5, hx5, hx6, w2, hwl, b1, b2, y1, y2, y4, y5]
        refine ⟨⟨⟨⟨i + 1, by omega, he.up (by simp [up]), by simp, p.next px' (by omega) hic (bx := A.b i) (ux := A.u i) (es := bs ++ [.v (.int .i64 mk)]) (ds := ds) (by omega) (by simp [fresh_up, frI.add, x2, y3]) (.inr ⟨w, uw, rfl, w2, .inr rfl⟩) (up_same _ _ _) (by omega) (by rw [up_ne _ _ (by omega), up_ne _ _ (by omega), up_same]) (by rw [List.length_append, hbl]; rfl) (by rw [hge, hxx]; rfl) (.inl ⟨hn, rfl⟩) (by omega) (fun q h1 h2 hq => by rw [up_ne _ _ hq, up_ne _ _ (by omega), up_ne _ _ (h2 hn), up_ne _ _ (by omega)]) (fun _ => ⟨[.v (.int .i64 mk)], by rw [up_ne _ _ (by omega), up_ne _ _ (by omega), up_same, hbs]⟩)⟩, by omega⟩, ⟨i + 1, by omega, he.up (by simp [up]), by simp, p.next px' (by omega) hic (bx := A.b i) (ux := A.u i) (es := bs ++ [.v (.int .i64 mk)]) (ds := ds) (by omega) (by simp [fresh_up, frI.add, x2, y3]) (.inr ⟨w, uw, rfl, w2, .inl (by omega)⟩) (up_same _ _ _) (by omega) (by rw [up_ne _ _ (by omega), up_ne _ _ (by omega), up_same]) (by rw [List.length_append, hbl]; rfl) (by rw [hge, hxx]; rfl) (.inl ⟨hn, rfl⟩) (by omega) (fun q h1 h2 _ => by rw [up_ne _ _ (by omega), up_ne _ _ (by omega), up_ne _ _ (h2 hn), up_ne _ _ (by omega)]) (fun _ => ⟨[.v (.int .i64 mk)], by rw [up_ne _ _ (by omega), up_ne _ _ (by omega), up_same, hbs]⟩)⟩, by omega⟩, ⟨⟨i + 1, by omega, he.up (by simp [up]), by simp, p.next px' (by omega) hic (bx := nI + 1) (ux := 0) (es := bs ++ [.v (.int .i64 mk)]) (ds := ds) (by omega) (by simp [fresh_up, frI.add, x2, y3]) (.inr ⟨w, uw, rfl, w2, .inr rfl⟩) (up_same _ _ _) (by omega) (by rw [up_ne _ _ (by omega), up_ne _ _ (by omega), up_same]) (by rw [List.length_append, hbl]; rfl) (by rw [hge, hxx]; rfl) (.inr ⟨by omega, by omega⟩) (by omega) (fun q h1 h2 hq => by rw [up_ne _ _ hq, up_ne _ _ (by omega), up_ne _ _ (by omega), up_ne _ _ (by omega)]) (fun _ => ⟨[], by rw [up_ne _ _ (by omega), up_ne _ _ (by omega), up_ne _ _ (by omega), up_ne _ _ (by omega), List.append_nil, hbs]; exact hb⟩)⟩, by omega⟩, ⟨i + 1, by omega, he.up (by simp [up]), by simp, p.next px' (by omega) hic (bx := nI + 1) (ux := 0) (es := bs ++ [.v (.int .i64 mk)]) (ds := ds) (by omega) (by simp [fresh_up, frI.add, x2, y3]) (.inr ⟨w, uw, rfl, w2, .inl (by omega)⟩) (up_same _ _ _) (by omega) (by rw [up_ne _ _ (by omega), up_ne _ _ (by omega), up_same]) (by rw [List.length_append, hbl]; rfl) (by rw [hge, hxx]; rfl) (.inr ⟨by omega, by omega⟩) (by omega) (fun q h1 h2 _ => by rw [up_ne _ _ (by omega), up_ne _ _ (by omega), up_ne _ _ (by omega), up_ne _ _ (by omega)]) (fun _ => ⟨[], by rw [up_ne _ _ (by omega), up_ne _ _ (by omega), up_ne _ _ (by omega), up_ne _ _ (by omega), List.append_nil, hbs]; exact hb⟩)⟩, by omega⟩
  · obtain rfl : i = A.N := by omega
    simp [evs, aeval, binS, cz_ti, cz_G, cz_pf, cz_tw, cz_two, two, ti, globS, glob, ldcs_1, ldcs_2, ldcs_3, ldcs_4, ldcs_5, ldcs_7, sls.eq_1, slc.eq_1, pfL, q9', k9', q14, ii, j1, j2, j3, i3, i4, i5, j4, j5]
    have hkp : ∀ q, q < n → (∀ j, j < A.N → A.nl j = false → q ≠ A.b j) → hI q = h q := p.oth
    have hbn := p.bn
    obtain ⟨w, u, cs, n1, n2, n4, n5, n6, n7⟩ := en
    simp only [] at n1 n2 n7
    obtain ⟨β, υ, l1', l2⟩ := p.lg
    have heE : ∀ j ∈ [2, 4, 5, 7, 9, 10, 11, 12], up (up (up (up (up e' 57 (AV.v (Value.int IntKind.i64 A.N))) 58 (AV.p m9 0 1)) 59 la) 60 (AV.v (Value.int IntKind.i64 A.N))) 61 (AV.v (Value.bool false)) j = e j := he.up (by simp [up])
    refine ⟨a.up (fun j hj => heE j (by simp only [List.mem_cons, List.not_mem_nil, or_false] at hj ⊢; omega)) (fun q hq hq2 => hkp q (by omega) fun j hj hn => by have := px.rb j hj hn; omega) (Nat.le_refl _) (by simp only []; omega) p.fr, ⟨fun hs => ?_, fun hs => ?_, fun j hj hn => ?_⟩, ⟨w, u, cs, (heE 12 (by simp)).trans n1, ?_, n4, n5, n6, by simp only []; omega⟩, ⟨β, υ, fun j hj => ?_, ?_⟩⟩
    · obtain ⟨r, k1, k2⟩ := pc.c hs
      refine ⟨r, ?_, k2⟩
      rcases px.hca with ⟨_, rfl⟩ | ⟨_, c2, c3, _, c5⟩
      · exact hs.elim
      · simp only []
        rw [hkp wc (by omega) c5]; exact k1
    · obtain ⟨r, k1, k2⟩ := pc.l hs
      refine ⟨r, ?_, k2⟩
      simp only []
      rw [hkp A.wl (lt_of k1 fr) (fun j hj hn e => px.ne j hj hn e.symm)]; exact k1
    · obtain ⟨r, k1, _⟩ := p.at_ j hj hn
      exact ⟨r, k1, .inl trivial⟩
    · simp only []
      rw [hkp w n7 ?_]
      · exact n2
      · intro j hj hn
        have := px.rb j hj hn
        rcases n6 with ⟨n6, rfl⟩ | n6
        · rcases px.hca with ⟨_, rfl⟩ | ⟨_, _, _, _, c5⟩
          · exact n6.elim
          · exact c5 j hj hn
        · omega
    · obtain ⟨es, k1, k2, k3, k4⟩ := l1' j hj
      refine ⟨es, k1, k2, k3, ?_⟩
      rcases k4 with ⟨k4, k5⟩ | ⟨k4, k5⟩
      · have := px.rb j hj k4
        exact ⟨by rw [k5]; exact px.ne j hj k4, by simp only []; omega⟩
      · refine ⟨?_, k5⟩
        rcases px.hla with ⟨h0, _⟩ | ⟨_, _, h1⟩ <;> omega
    · have e13 : up (up (up (up (up e' 57 (AV.v (Value.int IntKind.i64 A.N))) 58 (AV.p m9 0 1)) 59 la) 60 (AV.v (Value.int IntKind.i64 A.N))) 61 (AV.v (Value.bool false)) 13 = e' 13 := by simp [up]
      rcases l2 with ⟨h0, h1⟩ | ⟨w, uw, h1, h2, h3, h4, h5⟩
      · exact .inl ⟨h0, e13.trans h1⟩
      · refine .inr ⟨w, uw, e13.trans h1, h2, ?_, h4⟩
        rcases px.hla with ⟨_, h6⟩ | ⟨_, _, h6⟩
        · intro hs; rw [h6] at hs; exact hs.elim
        · intro _; omega
end
end Go.Proofs.YtkfphaphiikloaaDoor
