/-
  CodeSpares: the law's own code: the list of columns made longer; a run; what came of it.
-/
import Derived.Test.YtkfphaphiikloaaDoorX33
set_option linter.unusedSimpArgs false
set_option linter.unusedVariables false
set_option linter.constructorNameAsVariable false
namespace Go.Proofs.YtkfphaphiikloaaDoor
open Go Go.Eng

/-- The columns, and one behind them. -/
def Rows7 (A : Ap) (s : St) : Prop := ∃ w u cs m, s.e 15 = .s w u 0 (A.N + 1) ∧ s.h w = some ⟨cs, u, true, 1⟩ ∧ cs.length = A.N + 1 ∧ cs[A.N]? = some (.s m 0 0 1) ∧ w < s.n
/-- Nothing that was there has turned. -/
theorem Ends.keep {P : Pr} {wc nx : Nat} {ca : AV} {s s' : St} (a : Ends P wc nx ca s) (he : s'.e 12 = s.e 12) (hh : ∀ q, q < s.n → s'.h q = s.h q) (hn : s.n ≤ s'.n) : Ends P wc nx ca s' := by
  obtain ⟨w, u, cs, a1, a2, a3, a4, a5, a6⟩ := a
  exact ⟨w, u, cs, he.trans a1, by rw [hh w a6]; exact a2, a3, a4, a5, by omega⟩
theorem Cols7.keep {A : Ap} {la : AV} {s s' : St} (a : Cols7 A la s) (he : s'.e 13 = s.e 13) (hh : ∀ q, q < s.n → (sid la A.wl → q ≠ A.wl) → s'.h q = s.h q) (hn : s.n ≤ s'.n) : Cols7 A la s' := by
  obtain ⟨β, υ, a1, a2⟩ := a
  refine ⟨β, υ, fun j hj => ?_, a2.imp (fun h => ⟨h.1, he.trans h.2⟩) fun ⟨w, uw, b1, b2, b3, b4⟩ => ⟨w, uw, he.trans b1, by rw [hh w b4 b3]; exact b2, b3, by omega⟩⟩
  obtain ⟨es, k1, k2, k3, k4, k5⟩ := a1 j hj
  exact ⟨es, by rw [hh _ k5 (fun _ => k4)]; exact k1, k2, k3, k4, by omega⟩
theorem Rows7.keep {A : Ap} {s s' : St} (a : Rows7 A s) (he : s'.e 15 = s.e 15) (hh : ∀ q, q < s.n → s'.h q = s.h q) (hn : s.n ≤ s'.n) : Rows7 A s' := by
  obtain ⟨w, u, cs, m, a1, a2, a3, a4, a5⟩ := a
  exact ⟨w, u, cs, m, he.trans a1, by rw [hh w a5]; exact a2, a3, a4, by omega⟩
/-- A value, and a place, before nP. -/
def Val7 (s : St) (i j nx nP : Nat) (y : V × Int) : Prop := ∃ m, s.e i = .p m 0 0 ∧ nx ≤ m ∧ m < nP ∧ s.h m = some ⟨[.v (.bool y.1.k), .v (.int .i64 y.1.n)], 0, true, 2⟩ ∧ s.e j = ii y.2
theorem Val7.up {s s' : St} {i j nx nP : Nat} {y : V × Int} (a : Val7 s i j nx nP y) (h1 : s'.e i = s.e i) (h2 : s'.e j = s.e j) (hh : ∀ q, nx ≤ q → q < nP → s'.h q = s.h q) : Val7 s' i j nx nP y := by
  obtain ⟨m, a1, a2, a3, a4, a5⟩ := a
  exact ⟨m, h1.trans a1, a2, a3, by rw [hh m a2 a3]; exact a4, h2.trans a5⟩
def Post7h (v : Eq38) (P : Pr) (A : Ap) (wc uc n0 nx n3 m9 : Nat) (ca la : AV) (s : St) : Prop := S7 v P A wc uc n0 nx n3 m9 ca la s ∧ PC P A wc uc ca la s.h True True (fun _ => True) ∧ Ends P wc nx ca s ∧ Cols7 A la s ∧ Rows7 A s
def Post7i (v : Eq38) (P : Pr) (A : Ap) (wc uc n0 nx n3 m9 : Nat) (ca la : AV) (s : St) : Prop := Post7h v P A wc uc n0 nx n3 m9 ca la s ∧ Val7 s 16 17 nx n3 (runV P v.en)
def Post7I (v : Eq38) (P : Pr) (A : Ap) (wc uc n0 nx n3 m9 : Nat) (ca la : AV) (s : St) : Prop := ∃ n3', n3 ≤ n3' ∧ Post7i v P A wc uc n0 nx n3' m9 ca la s
section
set_option maxRecDepth 100000
set_option maxHeartbeats 4000000
variable {v : Eq38} {P : Pr} {A : Ap} {wc uc n0 nx n3 m9 : Nat} {ca la : AV}
theorem law7h (z : Sz7 P) (e : Nat → AV) (h : Heap) (n : Nat) (a : Post7g v P A wc uc n0 nx n3 m9 ca la ⟨e, h, n⟩) {Q : Ex → St → Prop} :
    awp (cz S8 (pfL tbl7)) (hdC 1 (tlC 9 (Tryd.f7.body.getD .skip))) (thenQ (Post7h v P A wc uc n0 nx n3 m9 ca la) Q) ⟨e, h, n⟩ := by
  obtain ⟨a, pc, en, co⟩ := a
  have q9 := a.e9
  have k9 := a.k9
  have hn3 := a.nn.2
  have hnx := a.nn.1
  have hr9 := a.r9
  have fr := a.fr
  simp only [] at q9 k9 hn3 fr pc
  have hN := a.px.N
  obtain ⟨⟨i1, i2, i3, i4, i5⟩, ⟨j1, j2, j3, j4, j5⟩⟩ := a.px.is
  have b1 := z.cols
  have b2 : (A.N + 1) * 24 ≤ 140737488355328 := by omega
  have b3 : A.N ≤ 9223372036854775806 := by omega
  have y1 : ¬ m9 = n := by omega
  have y4 : ¬ m9 = n + 1 := by omega
  rcases a.px.hla with ⟨h0, hla⟩ | ⟨hla, c1, c2⟩
  · subst hla
    simp [evs, aeval, binS, cz_ti, cz_G, cz_pf, cz_tw, cz_two, two, ti, globS, glob, ldcs_1, ldcs_2, ldcs_3, ldcs_4, ldcs_5, ldcs_7, sls.eq_1, slc.eq_1, pfL, hdC, tlC, Tryd.f7, q9, k9, i3, i4, i5, j3, j4, j5, y1, y4]
    have hk : ∀ q, q < n → ∀ b1 b2 b3 : Option Blk, up (up (up h n b1) (n + 1) b2) (n + 2) b3 q = h q := fun q hq b1 b2 b3 => by rw [up_ne _ _ (by omega), up_ne _ _ (by omega), up_ne _ _ (by omega)]
    exact ⟨a.up (by simp [up]) (fun q hq _ => hk q (by omega) _ _ _) (Nat.le_refl _) (by simp only []; omega) (by simp [fresh_up, fr.add]), pc.up a.px (fun q h1 h2 => hk q (by omega) _ _ _) id False.elim fun _ => id, en.keep (by simp [up]) (fun q hq => hk q hq _ _ _) (by simp), co.keep (by simp [up]) (fun q hq _ => hk q hq _ _ _) (by simp), ⟨n + 2, 0, _, n, by simp [up, h0], up_same _ _ _, by rw [h0]; rfl, by rw [h0]; rfl, by simp⟩⟩
  · subst hla
    obtain ⟨r, hr, hr0⟩ := pc.l rfl
    have hr0 := hr0.resolve_left id
    subst hr0
    rw [List.append_nil] at hr
    have hcl := A.cs_len
    have y2 : ¬ A.wl = n := by omega
    have y5 : ¬ A.wl = n + 1 := by omega
    have y3 : ¬ m9 = A.wl := by omega
    simp [evs, aeval, binS, cz_ti, cz_G, cz_pf, cz_tw, cz_two, two, ti, globS, glob, ldcs_1, ldcs_2, ldcs_3, ldcs_4, ldcs_5, ldcs_7, sls.eq_1, slc.eq_1, pfL, hdC, tlC, Tryd.f7, q9, k9, i3, i4, i5, j3, j4, j5, y1, y2, y3, y4, y5, hr, hcl, b2, b3]
    have hk : ∀ q, q < n → q ≠ A.wl → ∀ b1 b2 b3 : Option Blk, up (up (up h n b1) (n + 1) b2) A.wl b3 q = h q := fun q hq hw b1 b2 b3 => by rw [up_ne _ _ hw, up_ne _ _ (by omega), up_ne _ _ (by omega)]
    have hk' : ∀ q, q < n → ∀ b1 b2 b3 : Option Blk, up (up (up h n b1) (n + 1) b2) (n + 2) b3 q = h q := fun q hq b1 b2 b3 => by rw [up_ne _ _ (by omega), up_ne _ _ (by omega), up_ne _ _ (by omega)]
    obtain ⟨w, u, cs, n1, n2, n4, n5, n6, n7⟩ := en
    simp only [] at n1 n2 n7
    have hww : w ≠ A.wl := by
      rcases n6 with ⟨n6, rfl⟩ | n6
      · rcases a.px.hca with ⟨_, rfl⟩ | ⟨_, _, _, c4, _⟩
        · exact n6.elim
        · exact c4 rfl
      · omega
    refine ⟨⟨a.up (by simp [up]) (fun q hq hq2 => hk q (by omega) (by omega) _ _ _) (Nat.le_refl _) (by simp only []; omega) (by simp [fresh_up, fr.add, show A.wl < n + 3 by omega]), ⟨fun hs => ?_, fun _ => ⟨_, up_same _ _ _, .inl trivial⟩, fun i hi hn => ?_⟩, ⟨w, u, cs, by simp [up, n1], by simp only []; rw [hk w n7 hww]; exact n2, n4, n5, n6, by simp only []; omega⟩, co.keep (by simp [up]) (fun q hq hq2 => hk q hq (hq2 rfl) _ _ _) (by simp), ⟨A.wl, A.ul, _, n, by simp [up], up_same _ _ _, by rw [List.length_append, hcl]; rfl, by rw [List.getElem?_append_right (by omega), hcl, Nat.sub_self]; rfl, by simp only []; omega⟩⟩, ⟨a.up (by simp [up]) (fun q hq _ => hk' q (by omega) _ _ _) (Nat.le_refl _) (by simp only []; omega) (by simp [fresh_up, fr.add]), pc.up a.px (fun q h1 h2 => hk' q (by omega) _ _ _) id False.elim fun _ => id, ⟨w, u, cs, by simp [up, n1], by simp only []; rw [hk' w n7]; exact n2, n4, n5, n6, by simp only []; omega⟩, co.keep (by simp [up]) (fun q hq _ => hk' q hq _ _ _) (by simp), ⟨n + 2, 0, _, n, by simp [up], up_same _ _ _, by rw [List.length_append, hcl]; rfl, by rw [List.getElem?_append_right (by omega), hcl, Nat.sub_self]; rfl, by simp⟩⟩⟩
    · obtain ⟨r, k1, k2⟩ := pc.c hs
      refine ⟨r, ?_, k2⟩
      rcases a.px.hca with ⟨_, rfl⟩ | ⟨_, _, _, c4, _⟩
      · exact hs.elim
      · simp only []
        rw [hk _ (lt_of k1 fr) (c4 rfl)]; exact k1
    · obtain ⟨r, k1, k2⟩ := pc.b i hi hn
      exact ⟨r, by simp only []; rw [hk _ (lt_of k1 fr) (a.px.ne i (by omega) hn)]; exact k1, k2⟩
theorem law7i (hpr : PrOk P) (heq : EqOk v) (e : Nat → AV) (h : Heap) (n : Nat) (a : Post7h v P A wc uc n0 nx n3 m9 ca la ⟨e, h, n⟩) {Q : Ex → St → Prop} :
    awp (cz S8 (pfL tbl7)) (hdC 1 (tlC 10 (Tryd.f7.body.getD .skip))) (thenQ (Post7I v P A wc uc n0 nx n3 m9 ca la) Q) ⟨e, h, n⟩ := by
  obtain ⟨a, pc, en, co, ro⟩ := a
  obtain ⟨_, _, _, ⟨m7, a7, q7, b7, r7⟩, fr⟩ := a.a8
  obtain ⟨m11, cb, lb, q11, d1, d2, k11, d3⟩ := a.o
  have hn3 := a.nn.2
  have hnx := a.nn.1
  simp only [] at q7 b7 r7 fr q11 k11 d3 hn3 pc
  have o7 := (sl_is r7).2.2.2.1
  obtain ⟨da, db, hz, z1, z2⟩ := dePr_out (d3 h (fun _ _ _ => rfl))
  obtain ⟨rfl, rfl⟩ : cb = da ∧ lb = db := by injection hz with hz; injection hz with h1 h2; injection h2 with h2 _; exact ⟨h1, h2⟩
  obtain ⟨u1, u2, u3, u4, u5⟩ := sl_is z1
  obtain ⟨v1, v2, v3, v4, v5⟩ := sl_is z2
  have hde : deR h [.g [cb, lb], .g [a7, .v (.int .i64 v.en.each), .v (.int .i64 v.en.pos)]] = some (P, v.en) := by
    simp only [deR, dePr_in z1 z2, deEn_has r7]
  have hok : okR (P, v.en) := ⟨hpr, heq.en⟩
  generalize hrv : runV P v.en = y at *
  have fin : ∀ s : St, (∀ i ∈ [2, 4, 5, 7, 9, 10, 11, 12, 13, 15], s.e i = e i) → (∀ q, q < n → s.h q = h q) → n + 2 ≤ s.n → Fresh s.n s.h → s.e 16 = .p n 0 0 → s.h n = some ⟨[.v (.bool y.1.k), .v (.int .i64 y.1.n)], 0, true, 2⟩ → s.e 17 = ii y.2 → Post7I v P A wc uc n0 nx n3 m9 ca la s := fun s he hh hn hf h16 h16' h17 => by
    refine ⟨n + 1, by omega, ⟨a.up (fun i hi => he i (by simp only [List.mem_cons, List.not_mem_nil, or_false] at hi ⊢; omega)) (fun q hq _ => hh q (by omega)) (by omega) (by omega) hf, pc.up a.px (fun q _ hq => hh q (by omega)) id id fun _ => id, en.keep (he 12 (by simp)) hh (by simp only []; omega), co.keep (he 13 (by simp)) (fun q hq _ => hh q hq) (by simp only []; omega), ro.keep (he 15 (by simp)) hh (by simp only []; omega)⟩, ⟨n, h16, by omega, by omega, by rw [hrv]; exact h16', by rw [hrv]; exact h17⟩⟩
  simp [evs, aeval, binS, cz_ti, cz_G, cz_pf, cz_tw, cz_two, two, ti, globS, glob, ldcs_1, ldcs_2, ldcs_3, ldcs_4, ldcs_5, ldcs_7, sls.eq_1, slc.eq_1, pfL, hdC, tlC, Tryd.f7, q7, b7, o7, q11, k11, u1, u2, u3, u4, v1, v2, v3, v4, tbl7, G29, pureH, hde, hok, hrv, runA, vv]
  exact fin _ (by simp [up]) (fun q hq => by simp only []; rw [up_ne _ _ (by omega), up_ne _ _ (by omega)]) (by simp) (by simp [fresh_up, fr.add]) (by simp [up]) (by simp [up]) (by simp [up, ii])
end
end Go.Proofs.YtkfphaphiikloaaDoor

/-
  CodeSpares: the law's own code: what came of the appends.
-/
namespace Go.Proofs.YtkfphaphiikloaaDoor
open Go Go.Eng

def Post7j (v : Eq38) (P : Pr) (A : Ap) (wc uc n0 nx n3 m9 : Nat) (ca la : AV) (s : St) : Prop := S7 v P A wc uc n0 nx n3 m9 ca la s ∧ PC P A wc uc ca la s.h True True (fun _ => True) ∧ Cols7 A la s ∧ Val7 s 16 17 nx n3 (runV P v.en)
def Post7k (v : Eq38) (P : Pr) (A : Ap) (wc uc n0 nx n3 m9 : Nat) (ca la : AV) (s : St) : Prop := S7 v P A wc uc n0 nx n3 m9 ca la s ∧ PC P A wc uc ca la s.h True True (fun _ => True) ∧ Val7 s 16 17 nx n3 (runV P v.en)
theorem dePr_one {h : Heap} {ca la : AV} {P : Pr} (o : dePr h (.g [ca, la]) = some P) : (ca.isS ∧ ca.slen = P.code.length ∧ (∀ g, AV.unc g ca = ca) ∧ ca.one ∧ ca.cells = [ca]) ∧ (la.isS ∧ la.slen = P.cols.length ∧ (∀ g, AV.unc g la = la) ∧ la.one ∧ la.cells = [la]) := by
  obtain ⟨a', b', hz, z1, z2⟩ := dePr_out o
  obtain ⟨rfl, rfl⟩ : ca = a' ∧ la = b' := by injection hz with hz; injection hz with h1 h2; injection h2 with h2 _; exact ⟨h1, h2⟩
  exact ⟨sl_is z1, sl_is z2⟩
theorem Sz7.g21 {P : Pr} (z : Sz7 P) : P.code.length < big ∧ P.cols.length < big ∧ ∀ l ∈ P.cols, l.length < big := by
  have h1 := z.code
  have h2 := z.cols
  unfold big
  refine ⟨by omega, by omega, fun l hl => ?_⟩
  obtain ⟨i, hi, rfl⟩ := List.getElem_of_mem hl
  have := z.col i hi
  omega
section
set_option maxRecDepth 100000
set_option maxHeartbeats 4000000
variable {v : Eq38} {P : Pr} {A : Ap} {wc uc n0 nx n3 m9 : Nat} {ca la : AV}
theorem law7j (z : Sz7 P) (e : Nat → AV) (h : Heap) (n : Nat) (a : Post7i v P A wc uc n0 nx n3 m9 ca la ⟨e, h, n⟩) :
    awp (cz S8 (pfL tbl7)) (hdC 1 (tlC 11 (Tryd.f7.body.getD .skip))) (thenQ (Post7j v P A wc uc n0 nx n3 m9 ca la) (finQ (cz S8 (pfL tbl7)) Tryd.f7 fun z _ _ => z = bv true)) ⟨e, h, n⟩ := by
  obtain ⟨⟨a, pc, en, co, ro⟩, va⟩ := a
  have q9 := a.e9
  have k9 := a.k9
  have fr := a.fr
  obtain ⟨m10, cb, lb, q10, d1, d2, k10, d3⟩ := a.k
  obtain ⟨m11, cc, lc, q11, x1, x2, k11, x3⟩ := a.o
  simp only [] at q9 k9 fr q10 k10 d3 q11 k11 x3 pc
  have r9 := pc.rd a.px
  have r10 := d3 h (fun _ _ _ => rfl)
  have r11 := x3 h (fun _ _ _ => rfl)
  obtain ⟨⟨i1, i2, i3, i4, i5⟩, ⟨j1, j2, j3, j4, j5⟩⟩ := a.px.is
  obtain ⟨⟨u1, u2, u3, u4, u5⟩, ⟨v1, v2, v3, v4, v5⟩⟩ := dePr_one r10
  obtain ⟨⟨w1, w2, w3, w4, w5⟩, ⟨y1, y2, y3, y4, y5⟩⟩ := dePr_one r11
  have hg := z.g21
  have g1 : de21 h [.g [ca, la], .g [cb, lb]] = some (P, P) := by simp only [de21, r9, r10]
  have g2 : de21 h [.g [cc, lc], .g [cb, lb]] = some (P, P) := by simp only [de21, r11, r10]
  obtain ⟨we, ue, cs, p1, p2, p3, p4, _, _⟩ := en
  obtain ⟨wr, ur, rs, mr, s1, s2, s3, s4, _⟩ := ro
  simp only [] at p1 p2 s1 s2
  have b1 := z.code
  have b2 := z.cols
  have hN := a.px.N
  have c1 : IntKind.i64.wrap (P.code.length : Int) = P.code.length := W_id (by unfold Rng; omega)
  have c2 : IntKind.i64.wrap (A.N : Int) = A.N := W_id (by unfold Rng; omega)
  have c3 : (P.code.length : Int) + 1 - 1 = P.code.length := by omega
  have c4 : (A.N : Int) + 1 - 1 = A.N := by omega
  have c5 : P.code.length * 5 + 5 ≤ cs.length := by omega
  have c6 : A.N + 1 ≤ rs.length := by omega
  obtain ⟨_, p5⟩ := List.getElem?_eq_some_iff.1 p4
  obtain ⟨_, s5⟩ := List.getElem?_eq_some_iff.1 s4
  simp only [ii] at p4 p5
  have fin : ∀ e' : Nat → AV, (∀ i ∈ [2, 4, 5, 7, 9, 10, 11, 13, 16, 17], e' i = e i) → Post7j v P A wc uc n0 nx n3 m9 ca la ⟨e', h, n⟩ := fun e' he =>
    ⟨a.up (fun i hi => he i (by simp only [List.mem_cons, List.not_mem_nil, or_false] at hi ⊢; omega)) (fun _ _ _ => rfl) (Nat.le_refl _) a.nn.2 fr, pc, co.keep (he 13 (by simp)) (fun _ _ _ => rfl) (Nat.le_refl _), va.up (he 16 (by simp)) (he 17 (by simp)) (fun _ _ _ => rfl)⟩
  simp [evs, aeval, binS, cz_ti, cz_G, cz_pf, cz_tw, cz_two, two, ti, globS, glob, ldcs_1, ldcs_2, ldcs_3, ldcs_4, ldcs_5, ldcs_7, sls.eq_1, slc.eq_1, pfL, hdC, tlC, Tryd.f7, q9, k9, q10, k10, q11, k11, i3, i4, i5, j3, j4, j5, u3, u4, u5, v3, v4, v5, w3, w4, w5, y3, y4, y5, tbl7, G21, pureH, g1, g2, hg, bv, p1, p2, p3, p4, p5, s1, s2, s3, s4, s5, c1, c2, c3, c4, c5, c6]
  exact ⟨hg.2.2, by omega, by omega, by omega, fin _ (by simp [up])⟩
theorem law7k (z : Sz7 P) (e : Nat → AV) (h : Heap) (n : Nat) (a : Post7j v P A wc uc n0 nx n3 m9 ca la ⟨e, h, n⟩) :
    awp (cz S8 (pfL tbl7)) (hdC 1 (tlC 12 (Tryd.f7.body.getD .skip))) (thenQ (Post7k v P A wc uc n0 nx n3 m9 ca la) (finQ (cz S8 (pfL tbl7)) Tryd.f7 fun z _ _ => z = bv true)) ⟨e, h, n⟩ := by
  obtain ⟨a, pc, ⟨β, υ, l1', l2⟩, va⟩ := a
  have fr := a.fr
  have hbz := z.cols
  have hN := a.px.N
  simp only [] at fr l1' l2
  have hs13 : (e 13).isS ∧ (e 13).slen = A.N ∧ ∀ g, AV.unc g (e 13) = e 13 := by
    rcases l2 with ⟨h0, h1⟩ | ⟨w, uw, h1, _⟩
    · rw [h1]; exact ⟨⟨rfl, rfl⟩, h0.symm, fun _ => rfl⟩
    · rw [h1]; exact ⟨trivial, rfl, fun _ => rfl⟩
  have fin : ∀ e' : Nat → AV, Ke [2, 4, 5, 7, 9, 10, 11, 13, 16, 17] e e' → Post7k v P A wc uc n0 nx n3 m9 ca la ⟨e', h, n⟩ := fun e' he =>
    ⟨a.up (fun i hi => he i (by simp only [List.mem_cons, List.not_mem_nil, or_false] at hi ⊢; omega)) (fun _ _ _ => rfl) (Nat.le_refl _) a.nn.2 fr, pc, va.up (he 16 (by simp)) (he 17 (by simp)) (fun _ _ _ => rfl)⟩
  simp [evs, aeval, binS, cz_ti, cz_G, cz_pf, cz_tw, cz_two, two, ti, globS, glob, ldcs_1, ldcs_2, ldcs_3, ldcs_4, ldcs_5, ldcs_7, sls.eq_1, slc.eq_1, pfL, hdC, tlC, Tryd.f7]
  refine awp_loop (fun s => ∃ i : Nat, i ≤ A.N ∧ Ke [2, 4, 5, 7, 9, 10, 11, 13, 16, 17] e s.e ∧ s.e 18 = ii i ∧ s.h = h ∧ s.n = n) (fun s => A.N - (s.e 18).i.toNat) ⟨0, by omega, fun j hj => by simp at hj; rcases hj with rfl | rfl | rfl | rfl | rfl | rfl | rfl | rfl | rfl | rfl <;> simp [up], by simp [up, ii], rfl, rfl⟩ ?_
  rintro e' h' n' ⟨i, hi, he, q18, hh, hnn⟩
  simp only [] at he q18 hh hnn
  subst hh hnn
  have hiw := wrap_nat (j := i) (by unfold big; omega)
  have q13 := he 13 (by simp)
  obtain ⟨s1, s2, s3⟩ := hs13
  by_cases hlt : i < A.N
  · have hlt' : (i : Int) < (A.N : Int) := by omega
    have hi1 : i + 1 ≤ A.N := hlt
    obtain ⟨w, uw, h1, h2, _, _⟩ := l2.resolve_left (fun h => by omega)
    obtain ⟨es, k1, k2, k3, _, _⟩ := l1' i hlt
    have hds : ((List.range A.N).map (l1 A β υ)).length = A.N := by simp
    have hdg : ((List.range A.N).map (l1 A β υ))[i]'(by rw [hds]; exact hlt) = .s (β i) (υ i) 0 (A.L i + 1) := by simp [l1]
    have hdq : ((List.range A.N).map (l1 A β υ))[i]? = some (.s (β i) (υ i) 0 (A.L i + 1)) := by rw [List.getElem?_eq_getElem (by rw [hds]; exact hlt), hdg]
    have hcol := z.col i (by omega)
    rw [← a.px.L i (by omega)] at hcol
    have c1 : IntKind.i64.wrap (A.L i : Int) = A.L i := W_id (by unfold Rng; omega)
    have c2 : (A.L i : Int) + 1 - 1 = A.L i := by omega
    have c3 : (A.L i : Int) < (A.L i : Int) + 1 := by omega
    have c4 : A.L i + 1 ≤ es.length := by omega
    obtain ⟨_, k4⟩ := List.getElem?_eq_some_iff.1 k3
    simp only [ii, mkC] at k3 k4
    rw [h1] at q13
    generalize (List.range A.N).map (l1 A β υ) = ds at *
    generalize hmk : IntKind.i64.wrap (-100 - (i : Int)) = mk at *
    simp [evs, aeval, binS, cz_ti, cz_G, cz_pf, cz_tw, cz_two, two, ti, globS, glob, ldcs_1, ldcs_2, ldcs_3, ldcs_4, ldcs_5, ldcs_7, sls.eq_1, slc.eq_1, pfL, q13, q18, ii, hlt, hlt', hi1, h2, hds, hdg, hdq, k1, k2, k3, k4, c1, c2, c3, c4, hmk, hiw]
    exact ⟨⟨i + 1, by omega, he.up (by simp [up]), by simp⟩, by omega⟩
  · obtain rfl : i = A.N := by omega
    simp [evs, aeval, binS, cz_ti, cz_G, cz_pf, cz_tw, cz_two, two, ti, globS, glob, ldcs_1, ldcs_2, ldcs_3, ldcs_4, ldcs_5, ldcs_7, sls.eq_1, slc.eq_1, pfL, q13, q18, ii, s1, s2, s3]
    exact fin _ (he.up (by simp [up]))
end
end Go.Proofs.YtkfphaphiikloaaDoor

/-
  CodeSpares: the law's own code: the columns written over; the rest is as it was.
-/
namespace Go.Proofs.YtkfphaphiikloaaDoor
open Go Go.Eng

noncomputable def l7L : Code := bodyL (hdC 1 (tlC 13 (Tryd.f7.body.getD .skip)))
noncomputable def l7B : Code := inB (hdC 1 (tlC 1 l7L))
/-- From the i-th on the columns are as they were. -/
structure Q7 (P : Pr) (A : Ap) (e : Nat → AV) (h : Heap) (n i : Nat) (s : St) : Prop where
  ke : Ke [2, 4, 5, 7, 9, 10, 11, 16, 17] e s.e
  oth : ∀ q, q < n → (∀ j, j < A.N → A.nl j = false → q ≠ A.b j) → s.h q = h q
  at_ : ∀ j (hj : j < P.cols.length), A.nl j = false → ∃ cs, s.h (A.b j) = some ⟨cs, A.u j, true, 1⟩ ∧ A.L j ≤ cs.length ∧ (i ≤ j → ∃ r, cs = P.cols[j].map ii ++ r)
  fr : Fresh s.n s.h
  nn : n ≤ s.n
theorem Q7.wk {P : Pr} {A : Ap} {e : Nat → AV} {h : Heap} {n i i' : Nat} {s s' : St} (a : Q7 P A e h n i s) (hi : i ≤ i') (he : ∀ j ∈ [2, 4, 5, 7, 9, 10, 11, 16, 17], s'.e j = s.e j) (hh : ∀ q, q < s.n → s'.h q = s.h q) (hf : Fresh s'.n s'.h) (hn : s.n ≤ s'.n) : Q7 P A e h n i' s' := by
  obtain ⟨a1, a2, a3, a4, a5⟩ := a
  refine ⟨a1.up he, fun q hq ho => by rw [hh q (by omega)]; exact a2 q hq ho, fun j hj hn => ?_, hf, by omega⟩
  obtain ⟨cs, k1, k2, k3⟩ := a3 j hj hn
  exact ⟨cs, by rw [hh _ (lt_of k1 a4)]; exact k1, k2, fun h => k3 (by omega)⟩
section
set_option maxRecDepth 100000
set_option maxHeartbeats 4000000
variable {v : Eq38} {P : Pr} {A : Ap} {wc uc n0 nx n3 m9 : Nat} {ca la : AV}
/-- One column, written over. -/
theorem law7m (z : Sz7 P) (e0 : Nat → AV) (h0 : Heap) (n i : Nat) (px : PX P A wc uc n0 nx ca la) (hnx : nx ≤ n) (hr9 : nx ≤ m9 ∧ m9 < n) (k9 : h0 m9 = some ⟨[ca, la], 0, true, 2⟩) (q9 : e0 9 = .p m9 0 0) (hl : sid la A.wl → ∃ r, h0 A.wl = some ⟨A.cs ++ r, A.ul, true, 1⟩) (hlt : i < A.N) (e : Nat → AV) (h : Heap) (n' : Nat) (q19 : e 19 = ii i) (a : Q7 P A e0 h0 n i ⟨e, h, n'⟩) {Q : Ex → St → Prop} :
    awp (cz S8 (pfL tbl7)) (hdC 1 l7B) (thenQ (fun s => s.e 19 = ii i ∧ Q7 P A e0 h0 n (i + 1) s) Q) ⟨e, h, n'⟩ := by
  have hN := px.N
  have hic : i < P.cols.length := by omega
  have hcol := z.col i hic
  rw [← px.L i hic] at hcol
  have hla := px.hla.resolve_left fun h => by omega
  obtain ⟨hla, hl1, hl2⟩ := hla
  obtain ⟨r, hr⟩ := hl (by rw [hla]; rfl)
  have hcs : (A.cs ++ r)[i]? = some (A.c i) := by rw [List.getElem?_append_left (by rw [A.cs_len]; exact hlt)]; exact A.cs_at hlt
  have hcl : A.N ≤ (A.cs ++ r).length := by rw [List.length_append, A.cs_len]; omega
  obtain ⟨_, hcg⟩ := List.getElem?_eq_some_iff.1 hcs
  have hi1 : i + 1 ≤ (A.cs ++ r).length := by omega
  have hlt' : (i : Int) < (A.N : Int) := by omega
  have hm9 : ∀ j, j < A.N → A.nl j = false → m9 ≠ A.b j := fun j hj hn => by have := (px.rb j hj hn).2; omega
  have hil : i < (A.cs ++ r).length := by omega
  generalize A.cs ++ r = ds at *
  have px' := px
  subst hla
  simp [evs, aeval, binS, cz_ti, cz_G, cz_pf, cz_tw, cz_two, two, ti, globS, glob, ldcs_1, ldcs_2, ldcs_3, ldcs_4, ldcs_5, ldcs_7, sls.eq_1, slc.eq_1, pfL, hdC, tlC, l7B, l7L, inB, bodyL, Tryd.f7]
  refine awp_loop (fun s => ∃ k : Nat, k ≤ A.L i ∧ s.e 19 = ii i ∧ s.e 20 = ii k ∧ Q7 P A e0 h0 n (i + 1) s) (fun s => A.L i - (s.e 20).i.toNat) ⟨0, by omega, by simp [up, q19], by simp [up, ii], a.wk (by omega) (by simp [up]) (fun _ _ => rfl) a.fr (Nat.le_refl _)⟩ ?_
  rintro e1 h1 n1 ⟨k, hk, q19', q20, b⟩
  simp only [] at q19' q20
  have k9' : h1 m9 = some ⟨[ca, .s A.wl A.ul 0 A.N], 0, true, 2⟩ := (b.oth m9 hr9.2 hm9).trans k9
  have hr' : h1 A.wl = some ⟨ds, A.ul, true, 1⟩ := (b.oth A.wl (by omega) (fun j hj hn e => px'.ne j hj hn e.symm)).trans hr
  have q9' : e1 9 = .p m9 0 0 := (b.ke 9 (by simp)).trans q9
  have fr1 := b.fr
  have hkw := wrap_nat (j := k) (by unfold big; omega)
  simp only [] at fr1
  cases hn : A.nl i with
  | true =>
    have hL := px'.nil i hlt hn
    have hci : A.c i = .v (.slice none 0 0) := by simp [Ap.c, hn]
    rw [hci] at hcs hcg
    obtain rfl : k = 0 := by omega
    simp [evs, aeval, binS, cz_ti, cz_G, cz_pf, cz_tw, cz_two, two, ti, globS, glob, ldcs_1, ldcs_2, ldcs_3, ldcs_4, ldcs_5, ldcs_7, sls.eq_1, slc.eq_1, pfL, q9', k9', q19', q20, hr', hcs, hcg, hcl, hil, hlt', hi1, ii, hlt]
    exact b.wk (Nat.le_refl _) (by simp [up]) (fun _ _ => rfl) b.fr (Nat.le_refl _)
  | false =>
    have hci : A.c i = .s (A.b i) (A.u i) 0 (A.L i) := by simp [Ap.c, hn]
    rw [hci] at hcs hcg
    obtain ⟨cs, c1, c2, c3⟩ := b.at_ i hic hn
    simp only [] at c1
    have x1 : ¬ m9 = A.b i := hm9 i hlt hn
    have x2 : ¬ A.wl = A.b i := fun e => px'.ne i hlt hn e.symm
    by_cases hlk : k < A.L i
    · have hlk' : (k : Int) < (A.L i : Int) := by omega
      have hk1 : k + 1 ≤ cs.length := by omega
      have hk2 : k + 1 ≤ A.L i := hlk
      have hbn : A.b i < n1 := lt_of c1 fr1
      simp [evs, aeval, binS, cz_ti, cz_G, cz_pf, cz_tw, cz_two, two, ti, globS, glob, ldcs_1, ldcs_2, ldcs_3, ldcs_4, ldcs_5, ldcs_7, sls.eq_1, slc.eq_1, pfL, q9', k9', q19', q20, hr', hcs, hcg, hcl, hil, hlt', hi1, ii, hlt, hlk', hlk, hk1, hk2, c1, x1, x2, hkw]
      have hsx := up_same h1 (A.b i) (some (⟨cs.set k (.v (.int .i64 55)), A.u i, true, 1⟩ : Blk))
      refine ⟨⟨k + 1, by omega, by omega, b.ke.up (by simp [up]), fun q hq ho => ?_, fun j hj hnj => ?_, ?_, ?_⟩, by omega⟩
      · simp only []
        rw [up_ne _ _ (ho i hlt hn)]
        exact b.oth q hq ho
      · by_cases ej : j = i
        · subst ej
          exact ⟨_, hsx, by rw [List.length_set]; exact c2, fun h => by omega⟩
        · obtain ⟨cs', d1, d2, d3⟩ := b.at_ j hj hnj
          exact ⟨cs', by simp only []; rw [up_ne _ _ (fun e => ej (px'.inj j i (by omega) hlt hnj hn e))]; exact d1, d2, d3⟩
      · exact (fresh_up (by simp only []; omega) _).2 (fr1.add 1)
      · have := b.nn
        simp only [] at this ⊢
        omega
    · obtain rfl : k = A.L i := by omega
      simp [evs, aeval, binS, cz_ti, cz_G, cz_pf, cz_tw, cz_two, two, ti, globS, glob, ldcs_1, ldcs_2, ldcs_3, ldcs_4, ldcs_5, ldcs_7, sls.eq_1, slc.eq_1, pfL, q9', k9', q19', q20, hr', hcs, hcg, hcl, hil, hlt', hi1, ii, hlt]
      exact b.wk (Nat.le_refl _) (by simp [up]) (fun _ _ => rfl) b.fr (Nat.le_refl _)
theorem Q7.rest {e0 : Nat → AV} {h0 : Heap} {n i : Nat} {s : St} (px : PX P A wc uc n0 nx ca la) (hnx : nx ≤ n) (hl : sid la A.wl → ∃ r, h0 A.wl = some ⟨A.cs ++ r, A.ul, true, 1⟩) (hlt : i < A.N) (a : Q7 P A e0 h0 n (i + 1) s) : la = .s A.wl A.ul 0 A.N ∧ rd dIss s.h (.s A.wl A.ul (i + 1) (A.N - (i + 1))) = some (P.cols.drop (i + 1)) := by
  have hN := px.N
  have hla := px.hla.resolve_left fun h => by omega
  obtain ⟨hla, hl1, hl2⟩ := hla
  obtain ⟨r, hr⟩ := hl (by rw [hla]; rfl)
  have hr' : s.h A.wl = some ⟨A.cs ++ r, A.ul, true, 1⟩ := (a.oth A.wl (by omega) (fun j hj hn e => px.ne j hj hn e.symm)).trans hr
  refine ⟨hla, ?_⟩
  have hlen : (P.cols.drop (i + 1)).length = A.N - (i + 1) := by rw [List.length_drop, hN]
  rw [← hlen]
  refine cols_rd_at hr' (by rw [hlen, List.length_append, A.cs_len]; omega) fun j hj => ⟨A.c (i + 1 + j), ?_, ?_⟩
  · rw [List.getElem?_append_left (by rw [A.cs_len]; omega)]
    exact A.cs_at (by omega)
  · rw [List.getElem_drop]
    have hjc : i + 1 + j < P.cols.length := by omega
    cases hn : A.nl (i + 1 + j) with
    | true =>
      have := px.nil _ (by omega) hn
      rw [px.L _ hjc] at this
      rw [List.eq_nil_of_length_eq_zero this]
      simp only [Ap.c, hn, if_true]
      rfl
    | false =>
      obtain ⟨cs, c1, c2, c3⟩ := a.at_ _ hjc hn
      obtain ⟨r, rfl⟩ := c3 (by omega)
      simp only [Ap.c, hn, Bool.false_eq_true, if_false]
      rw [px.L _ hjc]
      exact flat_in Flat.ic (l := P.cols[i + 1 + j]) c1 rfl (r := r) (by rw [is_map])
/-- A list of lists without its first ones. -/
theorem rd_drop {h : Heap} {lb : AV} {cols : List (List Int)} {i : Nat} (e : rd dIss h lb = some cols) (hi : i < cols.length) : ∃ id ver off, lb = .s id ver off cols.length ∧ rd dIss h (.s id ver (off + (i + 1)) (cols.length - (i + 1))) = some (cols.drop (i + 1)) := by
  rcases sls_at e with ⟨h0, _⟩ | ⟨id, off, k, rfl, h2, h3, h4⟩
  · rw [h0] at hi; simp at hi
  · refine ⟨id, k.ver, off, rfl, ?_⟩
    have hlen : (cols.drop (i + 1)).length = cols.length - (i + 1) := by rw [List.length_drop]
    rw [← hlen]
    refine De.sl_in (off := off + (i + 1)) h2 (by rw [hlen]; omega) fun j hj => ?_
    obtain ⟨c, h5, h6⟩ := h4 (i + 1 + j) (by omega)
    simp only [Nat.mul_one]
    rw [← Nat.add_assoc, ← Nat.add_assoc] at h5
    rw [← Nat.add_assoc]
    obtain ⟨h7, h8⟩ := List.getElem?_eq_some_iff.1 h5
    rw [List.drop_eq_getElem_cons h7, h8, List.getElem_drop]
    exact h6
/-- The rest of the program. -/
def Rest7 (P : Pr) (cb lr : AV) (i nl : Nat) (s : St) : Prop := ∃ m, s.e 21 = .p m 0 0 ∧ nl ≤ m ∧ m < s.n ∧ s.h m = some ⟨[cb, lr], 0, true, 2⟩
end
end Go.Proofs.YtkfphaphiikloaaDoor

/-
  CodeSpares: the law's own code: the rest of the program is as it was.
-/
namespace Go.Proofs.YtkfphaphiikloaaDoor
open Go Go.Eng

def Post7n (P : Pr) (A : Ap) (cb : AV) (e0 : Nat → AV) (h0 : Heap) (n i : Nat) (s : St) : Prop := s.e 19 = ii i ∧ Q7 P A e0 h0 n (i + 1) s ∧ Rest7 P cb (.s A.wl A.ul (i + 1) (A.N - (i + 1))) i n s
def Post7l (v : Eq38) (P : Pr) (A : Ap) (wc uc n0 nx n3 m9 : Nat) (ca la : AV) (s : St) : Prop := S7 v P A wc uc n0 nx n3 m9 ca la s ∧ (sid ca wc → ∃ cs, s.h wc = some ⟨cs, uc, true, 5⟩ ∧ P.code.length * 5 ≤ cs.length) ∧ Val7 s 16 17 nx n3 (runV P v.en)
section
set_option maxRecDepth 100000
set_option maxHeartbeats 4000000
variable {v : Eq38} {P : Pr} {A : Ap} {wc uc n0 nx n3 m9 m10 : Nat} {ca la cb lb : AV}
theorem law7n (z : Sz7 P) (e0 : Nat → AV) (h0 : Heap) (n i : Nat) (px : PX P A wc uc n0 nx ca la) (hnx : nx ≤ n) (hr9 : nx ≤ m9 ∧ m9 < n) (k9 : h0 m9 = some ⟨[ca, la], 0, true, 2⟩) (q9 : e0 9 = .p m9 0 0) (hr10 : nx ≤ m10 ∧ m10 < n) (k10 : h0 m10 = some ⟨[cb, lb], 0, true, 2⟩) (q10 : e0 10 = .p m10 0 0) (hcb : (∀ g, AV.unc g cb = cb) ∧ cb.one ∧ cb.cells = [cb]) (hla : la = .s A.wl A.ul 0 A.N) (hlt : i < A.N) (e : Nat → AV) (h : Heap) (n' : Nat) (q19 : e 19 = ii i) (a : Q7 P A e0 h0 n (i + 1) ⟨e, h, n'⟩) {Q : Ex → St → Prop} :
    awp (cz S8 (pfL tbl7)) (hdC 1 (tlC 1 l7B)) (thenQ (Post7n P A cb e0 h0 n i) Q) ⟨e, h, n'⟩ := by
  have hN := px.N
  have hbz := z.cols
  have hm9 : ∀ j, j < A.N → A.nl j = false → m9 ≠ A.b j := fun j hj hn => by have := (px.rb j hj hn).2; omega
  have hm10 : ∀ j, j < A.N → A.nl j = false → m10 ≠ A.b j := fun j hj hn => by have := (px.rb j hj hn).2; omega
  have k9' : h m9 = some ⟨[ca, la], 0, true, 2⟩ := (a.oth m9 hr9.2 hm9).trans k9
  have k10' : h m10 = some ⟨[cb, lb], 0, true, 2⟩ := (a.oth m10 hr10.2 hm10).trans k10
  have q9' : e 9 = .p m9 0 0 := (a.ke 9 (by simp)).trans q9
  have q10' : e 10 = .p m10 0 0 := (a.ke 10 (by simp)).trans q10
  have fr := a.fr
  have hnn := a.nn
  simp only [] at fr hnn
  have hiw := wrap_nat (j := i) (by unfold big; omega)
  obtain ⟨c1, c2, c3⟩ := hcb
  have y1 : (0 : Int) ≤ (i : Int) + 1 := by omega
  have y2 : (i : Int) + 1 ≤ (A.N : Int) := by omega
  have y3 : ((i : Int) + 1).toNat = i + 1 := by omega
  subst hla
  simp [evs, aeval, binS, cz_ti, cz_G, cz_pf, cz_tw, cz_two, two, ti, globS, glob, ldcs_1, ldcs_2, ldcs_3, ldcs_4, ldcs_5, ldcs_7, sls.eq_1, slc.eq_1, pfL, hdC, tlC, l7B, l7L, inB, bodyL, Tryd.f7, q9', k9', q10', k10', q19, ii, c1, c2, c3, hiw, y1, y2, y3]
  exact ⟨by simp [up, q19, ii], a.wk (Nat.le_refl _) (by simp [up]) (fun q hq => by simp only [] at hq ⊢; rw [up_ne _ _ (by omega), up_ne _ _ (by omega)]) (by simp [fresh_up, fr.add]) (by simp), n', by simp [up], hnn, by simp, by simp [up]⟩
theorem law7o (z : Sz7 P) (e0 : Nat → AV) (h0 : Heap) (n i : Nat) (px : PX P A wc uc n0 nx ca la) (hnx : nx ≤ n) (hl : sid la A.wl → ∃ r, h0 A.wl = some ⟨A.cs ++ r, A.ul, true, 1⟩) (hr10 : nx ≤ m10 ∧ m10 < n) (k10 : h0 m10 = some ⟨[cb, lb], 0, true, 2⟩) (q10 : e0 10 = .p m10 0 0) (d3 : ∀ h' : Heap, (∀ q, nx ≤ q → q < n → h' q = h0 q) → dePr h' (.g [cb, lb]) = some P) (hlt : i < A.N) (e : Nat → AV) (h : Heap) (n' : Nat) (a : Post7n P A cb e0 h0 n i ⟨e, h, n'⟩) :
    awp (cz S8 (pfL tbl7)) (tlC 2 l7B) (thenQ (fun s => s.e 19 = ii i ∧ Q7 P A e0 h0 n (i + 1) s) (finQ (cz S8 (pfL tbl7)) Tryd.f7 fun z _ _ => z = bv true)) ⟨e, h, n'⟩ := by
  obtain ⟨q19, a, m, q21, hm1, hm2, k21⟩ := a
  have hN := px.N
  have hbz := z.cols
  have hm10 : ∀ j, j < A.N → A.nl j = false → m10 ≠ A.b j := fun j hj hn => by have := (px.rb j hj hn).2; omega
  have k10' : h m10 = some ⟨[cb, lb], 0, true, 2⟩ := (a.oth m10 hr10.2 hm10).trans k10
  have q10' : e 10 = .p m10 0 0 := (a.ke 10 (by simp)).trans q10
  have hrd := d3 h fun q h1 h2 => a.oth q h2 fun j hj hn => by have := (px.rb j hj hn).2; omega
  obtain ⟨⟨u1, u2, u3, u4, u5⟩, ⟨v1, v2, v3, v4, v5⟩⟩ := dePr_one hrd
  obtain ⟨da, db, hz, z1, z2⟩ := dePr_out hrd
  obtain ⟨rfl, rfl⟩ : cb = da ∧ lb = db := by injection hz with hz; injection hz with h1 h2; injection h2 with h2 _; exact ⟨h1, h2⟩
  obtain ⟨id, ver, off, hlb, z3⟩ := rd_drop (i := i) z2 (by omega)
  obtain ⟨hla, z4⟩ := a.rest px hnx hl hlt
  simp only [] at q19 q21 k21 hm2 z4
  have hde : de21 h [.g [cb, .s A.wl A.ul (i + 1) (A.N - (i + 1))], .g [cb, .s id ver (off + (i + 1)) (A.N - (i + 1))]] = some (⟨P.code, P.cols.drop (i + 1)⟩, ⟨P.code, P.cols.drop (i + 1)⟩) := by
    rw [← hN] at z3
    simp only [de21, dePr_in (p := ⟨P.code, P.cols.drop (i + 1)⟩) z1 z4, dePr_in (p := ⟨P.code, P.cols.drop (i + 1)⟩) z1 z3]
  have hg := z.g21
  have hg2 : ∀ l ∈ P.cols.drop (i + 1), l.length < big := fun l hl => hg.2.2 l (List.mem_of_mem_drop hl)
  have hg3 : P.cols.length - (i + 1) < big := by have := hg.2.1; omega
  have hiw := wrap_nat (j := i) (by unfold big; omega)
  have y1 : (0 : Int) ≤ (i : Int) + 1 := by omega
  have y2 : (i : Int) + 1 ≤ (A.N : Int) := by omega
  have y3 : ((i : Int) + 1).toNat = i + 1 := by omega
  rw [← hN] at hlb
  subst hlb
  simp [evs, aeval, binS, cz_ti, cz_G, cz_pf, cz_tw, cz_two, two, ti, globS, glob, ldcs_1, ldcs_2, ldcs_3, ldcs_4, ldcs_5, ldcs_7, sls.eq_1, slc.eq_1, pfL, hdC, tlC, l7B, l7L, inB, bodyL, Tryd.f7, q10', k10', q19, q21, k21, ii, u3, u4, u5, hiw, y1, y2, y3, tbl7, G21, pureH, hde, hg.1, hg3, bv]
  exact ⟨hg2, a.wk (Nat.le_refl _) (by simp [up]) (fun _ _ => rfl) a.fr (Nat.le_refl _)⟩
theorem law7l (z : Sz7 P) (e : Nat → AV) (h : Heap) (n : Nat) (a : Post7k v P A wc uc n0 nx n3 m9 ca la ⟨e, h, n⟩) :
    awp (cz S8 (pfL tbl7)) (hdC 1 (tlC 13 (Tryd.f7.body.getD .skip))) (thenQ (Post7l v P A wc uc n0 nx n3 m9 ca la) (finQ (cz S8 (pfL tbl7)) Tryd.f7 fun z _ _ => z = bv true)) ⟨e, h, n⟩ := by
  obtain ⟨a, pc, va⟩ := a
  have q9 := a.e9
  have k9 := a.k9
  have fr := a.fr
  have hn3 := a.nn.2
  have hnx := a.nn.1
  have hr9 := a.r9
  have px := a.px
  have hN := px.N
  have hbz := z.cols
  obtain ⟨m10, cb, lb, q10, d1, d2, k10, d3⟩ := a.k
  simp only [] at q9 k9 fr hn3 q10 k10 d3 pc
  have d4 : ∀ h' : Heap, (∀ q, nx ≤ q → q < n → h' q = h q) → dePr h' (.g [cb, lb]) = some P := fun h' hh => d3 h' fun q h1 h2 => hh q h1 (by omega)
  obtain ⟨⟨u1, u2, u3, u4, u5⟩, _⟩ := dePr_one (d3 h (fun _ _ _ => rfl))
  have hl : sid la A.wl → ∃ r, h A.wl = some ⟨A.cs ++ r, A.ul, true, 1⟩ := fun e => let ⟨r, k1, _⟩ := pc.l e; ⟨r, k1⟩
  obtain ⟨_, ⟨j1, j2, j3, j4, j5⟩⟩ := px.is
  have hm9 : ∀ j, j < A.N → A.nl j = false → m9 ≠ A.b j := fun j hj hn => by have := (px.rb j hj hn).2; omega
  have start : ∀ e' : Nat → AV, (∀ j ∈ [2, 4, 5, 7, 9, 10, 11, 16, 17], e' j = e j) → Q7 P A e h n 0 ⟨e', h, n⟩ := fun e' he => ⟨he, fun _ _ _ => rfl, fun j hj hn => by
    obtain ⟨r, k1, _⟩ := pc.b j hj hn
    exact ⟨_, k1, by rw [List.length_append, List.length_map, px.L j hj]; omega, fun _ => ⟨r, rfl⟩⟩, fr, Nat.le_refl _⟩
  have fin : ∀ s : St, Q7 P A e h n A.N s → Post7l v P A wc uc n0 nx n3 m9 ca la s := fun s b => by
    have hold : ∀ q, q < n3 → (q < n0 ∨ nx ≤ q) → s.h q = h q := fun q hq hq2 => b.oth q (by omega) fun j hj hn => by have := px.rb j hj hn; omega
    refine ⟨a.up (fun i hi => b.ke i (by simp only [List.mem_cons, List.not_mem_nil, or_false] at hi ⊢; omega)) hold (Nat.le_refl _) (by have := b.nn; omega) b.fr, fun hs => ?_, va.up (b.ke 16 (by simp)) (b.ke 17 (by simp)) fun q h1 h2 => hold q h2 (.inr h1)⟩
    obtain ⟨r, k1, _⟩ := pc.c hs
    rcases px.hca with ⟨_, rfl⟩ | ⟨_, c2, c3, _, c5⟩
    · exact hs.elim
    · exact ⟨_, (b.oth wc (by omega) c5).trans k1, by rw [List.length_append, flat_len Flat.ins]; omega⟩
  have e0 : hdC 1 (tlC 13 (Tryd.f7.body.getD .skip)) = .seq (hdC 1 (hdC 1 (tlC 13 (Tryd.f7.body.getD .skip)))) (.block 4 (.loop l7L)) := rfl
  rw [e0]
  simp [evs, aeval, binS, cz_ti, cz_G, cz_pf, cz_tw, cz_two, two, ti, globS, glob, ldcs_1, ldcs_2, ldcs_3, ldcs_4, ldcs_5, ldcs_7, sls.eq_1, slc.eq_1, pfL, hdC, tlC, Tryd.f7]
  refine awp_loop (fun s => ∃ i : Nat, i ≤ A.N ∧ s.e 19 = ii i ∧ Q7 P A e h n i s) (fun s => A.N - (s.e 19).i.toNat) ⟨0, by omega, by simp [up, ii], start _ (by simp [up])⟩ ?_
  rintro e1 h1 n1 ⟨i, hi, q19, b⟩
  simp only [] at q19
  have q9' : e1 9 = .p m9 0 0 := (b.ke 9 (by simp)).trans q9
  have k9' : h1 m9 = some ⟨[ca, la], 0, true, 2⟩ := (b.oth m9 (by omega) hm9).trans k9
  have hiw := wrap_nat (j := i) (by unfold big; omega)
  by_cases hlt : i < A.N
  · have hlt' : (i : Int) < (A.N : Int) := by omega
    have hla := (px.hla.resolve_left fun h => by omega).1
    refine awp_cut 1 _ _ (R := fun s => s.e 19 = ii i ∧ Q7 P A e h n i s) ?_ fun e2 h2 n2 ⟨q19', b2⟩ => ?_
    · simp [evs, aeval, binS, cz_ti, cz_G, cz_pf, cz_tw, cz_two, two, ti, globS, glob, ldcs_1, ldcs_2, ldcs_3, ldcs_4, ldcs_5, ldcs_7, sls.eq_1, slc.eq_1, pfL, hdC, tlC, l7L, bodyL, Tryd.f7, q9', k9', q19, ii, hlt, hlt', j1, j2, j3]
      exact b.wk (Nat.le_refl _) (by simp [up]) (fun _ _ => rfl) b.fr (Nat.le_refl _)
    refine awp_cut 1 _ _ (R := fun s => s.e 19 = ii i ∧ Q7 P A e h n (i + 1) s) ?_ fun e3 h3 n3 ⟨q19'', b3⟩ => ?_
    · have e1' : hdC 1 (tlC 1 l7L) = .block 5 l7B := rfl
      rw [e1', awp_block]
      refine awp_cut 1 _ _ (law7m z e h n i px (by omega) (by omega) k9 q9 hl hlt e2 h2 n2 q19' b2) fun e4 h4 n4 ⟨q4, b4⟩ => ?_
      refine awp_cut 1 _ _ (law7n z e h n i px (by omega) (by omega) k9 q9 (by omega) k10 q10 ⟨u3, u4, u5⟩ hla hlt e4 h4 n4 q4 b4) fun e5 h5 n5 b5 => ?_
      refine awp_mono _ (fun x s hx => ?_) (law7o z e h n i px (by omega) hl (by omega) k10 q10 d4 hlt e5 h5 n5 b5)
      cases x with
      | normal => exact hx
      | exit id => exact hx.elim
      | ret => exact hx
    · simp only [] at q19''
      simp [evs, aeval, binS, cz_ti, cz_G, cz_pf, cz_tw, cz_two, two, ti, globS, glob, ldcs_1, ldcs_2, ldcs_3, ldcs_4, ldcs_5, ldcs_7, sls.eq_1, slc.eq_1, pfL, hdC, tlC, l7L, bodyL, Tryd.f7, q19, q19'', ii, hiw]
      exact ⟨⟨i + 1, by omega, by simp, b3.wk (Nat.le_refl _) (by simp [up]) (fun _ _ => rfl) b3.fr (Nat.le_refl _)⟩, by omega⟩
  · obtain rfl : i = A.N := by omega
    simp [evs, aeval, binS, cz_ti, cz_G, cz_pf, cz_tw, cz_two, two, ti, globS, glob, ldcs_1, ldcs_2, ldcs_3, ldcs_4, ldcs_5, ldcs_7, sls.eq_1, slc.eq_1, pfL, hdC, tlC, l7L, bodyL, Tryd.f7, q9', k9', q19, ii, j1, j2, j3]
    exact fin _ (b.wk (Nat.le_refl _) (by simp [up]) (fun _ _ => rfl) b.fr (Nat.le_refl _))
end
end Go.Proofs.YtkfphaphiikloaaDoor

/-
  CodeSpares: the law's own code: the code written over.
-/
namespace Go.Proofs.YtkfphaphiikloaaDoor
open Go Go.Eng

def Post7p (v : Eq38) (P : Pr) (A : Ap) (wc uc n0 nx n3 m9 : Nat) (ca la : AV) (s : St) : Prop := S7 v P A wc uc n0 nx n3 m9 ca la s ∧ Val7 s 16 17 nx n3 (runV P v.en)
section
set_option maxRecDepth 100000
set_option maxHeartbeats 4000000
variable {v : Eq38} {P : Pr} {A : Ap} {wc uc n0 nx n3 m9 : Nat} {ca la : AV}
theorem law7p (z : Sz7 P) (e : Nat → AV) (h : Heap) (n : Nat) (a : Post7l v P A wc uc n0 nx n3 m9 ca la ⟨e, h, n⟩) {Q : Ex → St → Prop} :
    awp (cz S8 (pfL tbl7)) (hdC 1 (tlC 14 (Tryd.f7.body.getD .skip))) (thenQ (Post7p v P A wc uc n0 nx n3 m9 ca la) Q) ⟨e, h, n⟩ := by
  obtain ⟨a, hc, va⟩ := a
  have q9 := a.e9
  have k9 := a.k9
  have fr := a.fr
  have hn3 := a.nn.2
  have hnx := a.nn.1
  have hr9 := a.r9
  have px := a.px
  have hbz := z.code
  simp only [] at q9 k9 fr hn3 hc
  obtain ⟨⟨i1, i2, i3, i4, i5⟩, _⟩ := px.is
  have fin : ∀ (e' : Nat → AV) (h' : Heap) (n' : Nat), Ke [2, 4, 5, 7, 9, 10, 11, 16, 17] e e' → (∀ q, q < n → (sid ca wc → q ≠ wc) → h' q = h q) → Fresh n' h' → n ≤ n' → Post7p v P A wc uc n0 nx n3 m9 ca la ⟨e', h', n'⟩ := fun e' h' n' he hh hf hn => by
    have hold : ∀ q, q < n3 → (q < n0 ∨ nx ≤ q) → h' q = h q := fun q hq hq2 => hh q (by omega) fun hs => by
      rcases px.hca with ⟨_, rfl⟩ | ⟨_, c2, c3, _, c5⟩
      · exact hs.elim
      · omega
    exact ⟨a.up (fun i hi => he i (by simp only [List.mem_cons, List.not_mem_nil, or_false] at hi ⊢; omega)) hold (Nat.le_refl _) (by simp only []; omega) hf, va.up (he 16 (by simp)) (he 17 (by simp)) fun q h1 h2 => hold q h2 (.inr h1)⟩
  simp [evs, aeval, binS, cz_ti, cz_G, cz_pf, cz_tw, cz_two, two, ti, globS, glob, ldcs_1, ldcs_2, ldcs_3, ldcs_4, ldcs_5, ldcs_7, sls.eq_1, slc.eq_1, pfL, hdC, tlC, Tryd.f7]
  refine awp_loop (fun s => ∃ i : Nat, i ≤ P.code.length ∧ Ke [2, 4, 5, 7, 9, 10, 11, 16, 17] e s.e ∧ s.e 22 = ii i ∧ (∀ q, q < n → (sid ca wc → q ≠ wc) → s.h q = h q) ∧ (sid ca wc → ∃ cs, s.h wc = some ⟨cs, uc, true, 5⟩ ∧ P.code.length * 5 ≤ cs.length) ∧ Fresh s.n s.h ∧ n ≤ s.n) (fun s => P.code.length - (s.e 22).i.toNat) ⟨0, by omega, fun j hj => by simp at hj; rcases hj with rfl | rfl | rfl | rfl | rfl | rfl | rfl | rfl | rfl <;> simp [up], by simp [up, ii], fun _ _ _ => rfl, hc, fr, Nat.le_refl _⟩ ?_
  rintro e1 h1 n1 ⟨i, hi, he, q22, hh, hc1, fr1, hnn⟩
  simp only [] at he q22 hh hc1 fr1 hnn
  have hm9 : sid ca wc → m9 ≠ wc := fun hs => by
    rcases px.hca with ⟨_, rfl⟩ | ⟨_, c2, c3, _, c5⟩
    · exact hs.elim
    · omega
  have q9' : e1 9 = .p m9 0 0 := (he 9 (by simp)).trans q9
  have k9' : h1 m9 = some ⟨[ca, la], 0, true, 2⟩ := (hh m9 (by omega) hm9).trans k9
  have hiw := wrap_nat (j := i) (by unfold big; omega)
  by_cases hlt : i < P.code.length
  · have hlt' : (i : Int) < (P.code.length : Int) := by omega
    obtain ⟨hca, c2, c3, _, _⟩ := px.hca.resolve_left fun h => by rw [h.1] at hlt; simp at hlt
    subst hca
    obtain ⟨cs, k1, k2⟩ := hc1 rfl
    have y1 : i * 5 + 5 ≤ cs.length := by omega
    have y2 : ¬ m9 = wc := hm9 rfl
    simp [evs, aeval, binS, cz_ti, cz_G, cz_pf, cz_tw, cz_two, two, ti, globS, glob, ldcs_1, ldcs_2, ldcs_3, ldcs_4, ldcs_5, ldcs_7, sls.eq_1, slc.eq_1, pfL, q9', k9', q22, ii, hlt, hlt', k1, y1, y2, hiw]
    exact ⟨⟨i + 1, by omega, he.up (by simp [up]), by omega, fun q hq hq2 => by rw [if_neg (hq2 rfl)]; exact hh q hq hq2, fun _ => k2, (fresh_up (by omega) _).2 (fr1.add 1), by omega⟩, by omega⟩
  · obtain rfl : i = P.code.length := by omega
    simp [evs, aeval, binS, cz_ti, cz_G, cz_pf, cz_tw, cz_two, two, ti, globS, glob, ldcs_1, ldcs_2, ldcs_3, ldcs_4, ldcs_5, ldcs_7, sls.eq_1, slc.eq_1, pfL, q9', k9', q22, ii, i1, i2, i3]
    exact fin _ _ _ (he.up (by simp [up])) hh fr1 hnn
/-- Two lists are begun. -/
theorem law7q (e : Nat → AV) (h : Heap) (n : Nat) (a : Post7p v P A wc uc n0 nx n3 m9 ca la ⟨e, h, n⟩) {Q : Ex → St → Prop} :
    awp (cz S8 (pfL tbl7)) (hdC 2 (tlC 15 (Tryd.f7.body.getD .skip))) (thenQ (fun s => Post7p v P A wc uc n0 nx n3 m9 ca la s ∧ s.e 23 = .v (.slice none 0 0) ∧ s.e 24 = .v (.slice none 0 0)) Q) ⟨e, h, n⟩ := by
  simp [evs, aeval, binS, cz_ti, cz_G, cz_pf, cz_tw, cz_two, two, ti, globS, glob, ldcs_1, ldcs_2, ldcs_3, ldcs_4, ldcs_5, ldcs_7, sls.eq_1, slc.eq_1, pfL, hdC, tlC, Tryd.f7]
  exact ⟨a.1.up (by simp [up]) (fun _ _ _ => rfl) (Nat.le_refl _) a.1.nn.2 a.1.fr, a.2.up (by simp [up]) (by simp [up]) (fun _ _ _ => rfl)⟩
end
end Go.Proofs.YtkfphaphiikloaaDoor
