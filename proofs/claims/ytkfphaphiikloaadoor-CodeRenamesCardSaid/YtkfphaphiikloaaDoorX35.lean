/-
  THE PROGRAMS OF CONDITIONS, PART I: a program's copy.
-/
import Derived.Test.YtkfphaphiikloaaDoorX34
import Derived.Test.YtkfphaphiikloaaDoorX28
import Derived.Test.YtkfphaphiikloaaDoorX19
import Derived.Test.YtkfphaphiikloaaDoorX24
import Derived.Test.YtkfphaphiikloaaDoorX26
import Derived.Test.YtkfphaphiikloaaDoorX30
import Derived.Test.YtkfphaphiikloaaDoorX33
set_option linter.unusedSimpArgs false
set_option linter.unusedVariables false
set_option linter.constructorNameAsVariable false
namespace Go.Proofs.YtkfphaphiikloaaDoor
open Go Go.Eng

def ic : Int → List AV := fun x => [ii x]
theorem Flat.ic : Flat 1 (De.int .i64) ic := Flat.int
/-- A program of one's own. -/
def OwnP (h : Heap) (lo hi : Nat) (z : AV) (p : Pr) : Prop := ∃ w zb, z = .g [.s w 1 0 p.code.length, zb] ∧ h w = some ⟨p.code.flatMap icells, 1, true, 5⟩ ∧ lo ≤ w ∧ w < hi ∧ OwnL ic 1 h (w + 1) hi zb p.cols p.cols.length
theorem OwnP.congr {h h' : Heap} {lo hi hi' : Nat} {z : AV} {p : Pr} (o : OwnP h lo hi z p) (hh : ∀ q, lo ≤ q → q < hi → h' q = h q) (hi2 : hi ≤ hi') : OwnP h' lo hi' z p := by
  obtain ⟨w, zb, o1, o2, o3, o4, o5⟩ := o
  exact ⟨w, zb, o1, by rw [hh _ o3 o4]; exact o2, o3, by omega, o5.congr (fun q h1 h2 => hh q (by omega) h2) hi2⟩
theorem OwnP.rd {h : Heap} {lo hi : Nat} {z : AV} {p : Pr} (o : OwnP h lo hi z p) : dePr h z = some p := by
  obtain ⟨w, zb, rfl, o2, o3, o4, o5⟩ := o
  exact dePr_in (flat_in Flat.ins o2 rfl (r := []) (by simp)) (o5.rd Flat.ic)
theorem OwnL.is {α : Type} {en : α → List AV} {sz : Nat} {h : Heap} {lo hi : Nat} {z : AV} {ll : List (List α)} {j : Nat} (o : OwnL en sz h lo hi z ll j) : z.isS ∧ z.slen = j ∧ (∀ g, AV.unc g z = z) ∧ z.one ∧ z.cells = [z] := by
  obtain ⟨f, _, ⟨h0, rfl⟩ | ⟨w, u, rfl, _⟩⟩ := o
  · exact ⟨⟨rfl, rfl⟩, h0.symm, fun _ => rfl, rfl, rfl⟩
  · exact ⟨trivial, rfl, fun _ => rfl, trivial, rfl⟩
def I25 (pa pb : AV) (h : Heap) (n : Nat) (p : Pr) (s : St) : Prop := ∃ j zb, j ≤ p.cols.length ∧ s.e 1 = .p n 0 0 ∧ s.e 2 = .p (n + 1) 0 0 ∧ s.e 3 = .p (n + 4) 0 0 ∧ s.e 4 = ii j ∧ OwnL ic 1 s.h (n + 5) s.n zb p.cols j ∧
  s.h n = some ⟨[pa, pb], 0, true, 2⟩ ∧ s.h (n + 1) = some ⟨[.v (.slice none 0 0), .v (.slice none 0 0)], 0, true, 2⟩ ∧ s.h (n + 2) = some ⟨p.code.flatMap icells, 1, true, 5⟩ ∧ s.h (n + 4) = some ⟨[.s (n + 2) 1 0 p.code.length, zb], 0, true, 2⟩ ∧ agree n h s.h ∧ Fresh s.n s.h ∧ n + 5 ≤ s.n
structure PrSm (p : Pr) : Prop where
  code : p.code.length * 40 ≤ 140737488355328
  cols : p.cols.length * 24 ≤ 140737488355328
  col : ∀ c ∈ p.cols, c.length * 8 ≤ 140737488355328
set_option maxRecDepth 100000 in
set_option maxHeartbeats 4000000 in
theorem c25 {h : Heap} {n : Nat} {x : AV} {p : Pr} (e1 : dePr h x = some p) (hp : PrSm p) (hn : Fresh n h) :
    ACall (cx [] (pfL [])) 25 [x] h n fun z h' n' => agree n h h' ∧ Fresh n' h' ∧ n ≤ n' ∧ OwnP h' n n' z p := by
  refine acall_of_awp (args := [x]) (pfL_ok tb_nil) (mixed _ _) Tryd.func25 (c := Tryd.f25.body.getD .skip) rfl (by kernel_rfl) (callable Tryd.func25 rfl rfl _ _) (show 1 ≤ Tryd.f25.ntmps by decide +kernel) ?_
  obtain ⟨pa, pb, rfl, e3, e4⟩ := dePr_out e1
  obtain ⟨s1, s2, s3, s4, s5⟩ := sl_is e3
  obtain ⟨t1, t2, t3, t4, t5⟩ := sl_is e4
  have key : ∀ e : Nat → AV, e 0 = .g [pa, pb] → awp (cx [] (pfL [])) (Tryd.f25.body.getD .skip) (finQ (cx [] (pfL [])) Tryd.f25 fun z h' n' => agree n h h' ∧ Fresh n' h' ∧ n ≤ n' ∧ OwnP h' n n' z p) ⟨e, h, n⟩ := fun e q0 => by
    have ga : ∀ h'', agree n h h'' → sls h'' pa 0 (p.code.length * 5) := fun h'' ha => (flat_app Flat.ins (rd_agr hn e3 h'' ha)).1
    have gb : ∀ h'', agree n h h'' → slc h'' pa 0 (p.code.length * 5) = p.code.flatMap icells := fun h'' ha => (flat_app Flat.ins (rd_agr hn e3 h'' ha)).2
    have b1 := hp.code
    have b2 : p.code.length ≤ 9223372036854775807 := by omega
    simp [evs, aeval, binS, cx_ti, cx_G, cx_pf, cx_tw, ti, globS, glob, ldcs_1, ldcs_2, ldcs_3, ldcs_4, ldcs_5, ldcs_7, sls.eq_1, slc.eq_1, pfL, Tryd.f25, q0, s1, s2, s3, s4, s5, t4, t5, ga, gb, agree_up, agree_refl, b1, b2]
    refine awp_loop (I25 pa pb h n p) (fun s => p.cols.length - (s.e 4).i.toNat) ⟨0, .v (.slice none 0 0), Nat.zero_le _, by simp [up], by simp [up], by simp [up], by simp [up, ii], ⟨fun _ => 0, ⟨fun i hi => by omega, fun i hi => by omega, fun i _ hi => by omega⟩, .inl ⟨rfl, rfl⟩⟩, by simp [up], by simp [up], by simp [up], by simp [up], by simp [agree_up, agree_refl], by simp [fresh_up, hn.add], by simp⟩ ?_
    rintro e' h' n' ⟨j, zb, hj, q1, q2, q3, q4, hol, hb0, hb1, hb2, hb4, hag, hfr, hnn⟩
    simp only [] at q1 q2 q3 q4 hol hb0 hb1 hb2 hb4 hag hfr hnn
    obtain ⟨v1, v2, v3, v4, v5⟩ := hol.is
    by_cases hlt : j < p.cols.length
    · rcases sls_at e4 with ⟨h0, _⟩ | ⟨id, off, k, rfl, hk, ho, hat⟩
      · rw [h0] at hlt; simp at hlt
      obtain ⟨c, hc, hcr⟩ := hat j hlt
      obtain ⟨u1, u2, u3, u4, u5⟩ := sl_is hcr
      have hid := lt_of hk hn
      have hk' : h' id = some k := by rw [hag id hid]; exact hk
      have y0 : ¬ id = n' := by omega
      have hcb := hp.cols
      have hw := wrap_nat (j := j) (by unfold big; omega)
      have hw1 : off + (j + 1) ≤ k.cells.length := by omega
      have fa : ∀ h'', agree n h h'' → sls h'' c 0 (p.cols[j].length) := fun h'' ha => by simpa using (flat_app Flat.ic (rd_agr hn hcr h'' ha)).1
      have fb : ∀ h'', agree n h h'' → slc h'' c 0 (p.cols[j].length) = p.cols[j].flatMap ic := fun h'' ha => by simpa using (flat_app Flat.ic (rd_agr hn hcr h'' ha)).2
      have hll := hp.col _ (List.getElem_mem hlt)
      have hg : p.cols.getD j [] = p.cols[j] := by simp [List.getD_eq_getElem?_getD, hlt]
      have b3 : (j + 1) * 24 ≤ 140737488355328 := by omega
      have b4 : j + 1 ≤ 9223372036854775807 := by omega
      have b5 : p.cols[j].length ≤ 9223372036854775807 := by omega
      have f0 : n ≤ n' := by omega
      have f1 : n ≤ n' + 1 := by omega
      have f2 : n ≤ n' + 2 := by omega
      have f3 : n ≤ n' + 3 := by omega
      have f4 : n ≤ n + 4 := by omega
      have z0 : ¬ n = n' := by omega
      have z1 : ¬ n + 4 = n' := by omega
      have z2 : ¬ n = n' + 2 := by omega
      have z3 : ¬ n = n' + 3 := by omega
      have z4 : ¬ n + 4 = n' + 2 := by omega
      have z5 : ¬ n + 4 = n' + 3 := by omega
      have z6 : ¬ n + 1 = n' := by omega
      have z7 : ¬ n + 1 = n' + 2 := by omega
      have z8 : ¬ n + 1 = n' + 3 := by omega
      have z9 : ¬ n + 2 = n' := by omega
      have x1 : ¬ n + 2 = n' + 3 := by omega
      have x2 : ¬ n' = n + 4 := by omega
      have x3 : n + 4 < n' + 5 := by omega
      have x4 : ¬ n + 2 = n' + 2 := by omega
      have x5 : ¬ n' + 3 = n + 4 := by omega
      have x6 : ¬ n' = n := by omega
      have x7 : ¬ n = n' + 1 := by omega
      have x8 : ¬ n' = n + 1 := by omega
      have x9 : ¬ n' = n + 2 := by omega
      generalize hgl : p.cols[j] = lj at *
      generalize hfl : lj.flatMap ic = cl at *
      obtain ⟨f, hof, hz⟩ := hol
      rcases hz with ⟨hj0, rfl⟩ | ⟨w, u, rfl, hw0, hw2, hw3, hne⟩
      · simp [evs, aeval, binS, cx_ti, cx_G, cx_pf, cx_tw, ti, globS, glob, ldcs_1, ldcs_2, ldcs_3, ldcs_4, ldcs_5, ldcs_7, sls.eq_1, slc.eq_1, pfL, q1, q2, q3, q4, hb0, hb4, ii, t2, hlt, hk', y0, hc, hw1, u1, u2, u3, u4, u5, fa, fb, agree_up, hag, f0, f1, f2, f3, f4, hll, b3, b4, b5, hw, z0, z1, z2, z3, z4, z5, x2, x5, x6]
        refine ⟨(le_upf (hfr _ (Nat.le_refl _)) _).2 ((le_upf (hfr _ (Nat.le_refl _)) _).2 (Heap.le_refl _)), ⟨j + 1, .s (n' + 3) 0 0 1, by omega, by simp [up, q1], by simp [up, q2], by simp [up, q3], by simp [up, ii], ⟨fun i => if i = j then n' else f i, hof.snoc (hi2 := n' + 5) (fun i hi => by omega) hnn (Nat.le_refl _) (by omega) (by rw [hg, hfl]; simp [up, x2]), .inr ⟨n' + 3, 0, by rw [hj0], ?_, by omega, by simp only []; omega, fun i hi => ?_⟩⟩, by simp [up, z0, z2, z3, x6, hb0], by simp [up, z0, z2, z6, z7, z8, x7, hb1], by simp [up, z0, z9, x1, x4, x7, hb2], by simp [up], by simp [agree_up, hag, f0, f1, f2, f3, f4], by simp [fresh_up, hfr.add, x3], by simp only []; omega⟩, by omega⟩
        · simp only [lcells_snoc, hg]
          rw [hj0]
          simp [up, x5, x8, lcells]
        · simp only []
          rw [if_pos (by omega)]
          omega
      · have yw : ¬ w = n' := by omega
        have yw1 : ¬ w = n' + 2 := by omega
        have yw2 : ¬ n' = w := by omega
        have yw3 : n ≤ w := by omega
        have yw4 : w < n' + 5 := by omega
        have yw5 : ¬ n = w := by omega
        have yw6 : ¬ n + 4 = w := by omega
        have yw7 : ¬ w = n + 4 := by omega
        have yw8 : ¬ n + 1 = w := by omega
        have yw9 : ¬ n + 2 = w := by omega
        have hcl := lcells_len f p.cols j
        have hls := lcells_snoc f p.cols j n'
        generalize lcells f p.cols j = lc at *
        simp [evs, aeval, binS, cx_ti, cx_G, cx_pf, cx_tw, ti, globS, glob, ldcs_1, ldcs_2, ldcs_3, ldcs_4, ldcs_5, ldcs_7, sls.eq_1, slc.eq_1, pfL, q1, q2, q3, q4, hb0, hb4, ii, t2, hlt, hk', y0, hc, hw1, u1, u2, u3, u4, u5, fa, fb, agree_up, hag, f0, f1, f2, f3, f4, hll, b3, b4, b5, hw, z0, z1, z2, z3, z4, z5, x2, x5, x6, hw0, yw, yw1, yw2, yw5, yw6, hcl]
        refine ⟨(le_upf (hfr _ (Nat.le_refl _)) _).2 ((le_upf (hfr _ (Nat.le_refl _)) _).2 (Heap.le_refl _)), ⟨j + 1, .s w (u + 1) 0 (j + 1), by omega, by simp [up, q1], by simp [up, q2], by simp [up, q3], by simp [up, ii], ⟨fun i => if i = j then n' else f i, hof.snoc (hi2 := n' + 5) (fun i hi => ?_) hnn (Nat.le_refl _) (by omega) (by rw [hg, hfl]; simp [up, x2, yw2]), .inr ⟨w, u + 1, rfl, by simp only [hls, hg]; simp [up, yw7], by omega, by simp only []; omega, fun i hi => ?_⟩⟩, by simp [up, z0, z2, z3, x6, hb0, yw5], by simp [up, z0, z2, z6, z7, z8, x7, hb1, yw8], by simp [up, z0, z9, x1, x4, x7, hb2, yw9], by simp [up], by simp [agree_up, hag, f0, f1, f2, f3, f4, yw3], by simp [fresh_up, hfr.add, x3, yw4], by simp only []; omega⟩, by omega⟩
        · have r := hof.rng i hi
          have r1 := hne i hi
          have r2 : ¬ f i = n' := by omega
          have r3 : ¬ f i = n' + 2 := by omega
          have r4 : ¬ f i = n + 4 := by omega
          simp [up, r1, r2, r3, r4]
        · simp only []
          split
          · omega
          · exact hne i (by omega)
    · have hje : j = p.cols.length := by omega
      subst hje
      have x1 : ¬ n + 4 = n + 1 := by omega
      simp [evs, aeval, binS, cx_ti, cx_G, cx_pf, cx_tw, ti, globS, glob, ldcs_1, ldcs_2, ldcs_3, ldcs_4, ldcs_5, ldcs_7, sls.eq_1, slc.eq_1, pfL, q1, q2, q3, q4, hb0, hb1, hb4, ii, t1, t2, t3, v4, v5]
      have w1 : n + 1 < n' + 1 := by omega
      refine ⟨by simp [agree_up, hag], by simp [fresh_up, w1, hfr.add], by omega, n + 2, zb, rfl, by simp [up, hb2], by omega, by omega, ?_⟩
      refine (hol.lo (lo' := n + 3) (by omega)).congr (fun q h1 h2 => ?_) (by omega)
      rw [up_ne _ _ (by omega)]
  exact key _ rfl
end Go.Proofs.YtkfphaphiikloaaDoor

/-
  A compiled program in memory of its own: how it reads; in a cell.
-/
namespace Go.Proofs.YtkfphaphiikloaaDoor
open Go Go.Eng

theorem is_map : ∀ l : List Int, l.map ii = l.flatMap ic
  | [] => rfl
  | a :: r => by rw [List.map_cons, List.flatMap_cons, is_map r]; rfl
theorem KC.rd {h : Heap} {G : Nat → Prop} {hi : Nat} {bad : Nat → Prop} {c : AV} {l : List Int} (k : KC h G hi bad c l) : rd dIs h c = some l := by
  rcases k with ⟨rfl, rfl⟩ | ⟨b, v, rfl, k2, _⟩
  · rfl
  · exact flat_in Flat.ic (l := l) k2 rfl (r := []) (by rw [is_map]; simp)
theorem cols_rd {h : Heap} {w u : Nat} {cs : List AV} {cols : List (List Int)} (hk : h w = some ⟨cs, u, true, 1⟩) (hl : cs.length = cols.length) (ha : ∀ i (hi' : i < cols.length), ∃ c, cs[i]? = some c ∧ rd dIs h c = some cols[i]) : rd dIss h (.s w u 0 cols.length) = some cols := by
  refine De.sl_in (off := 0) hk (by simp only []; omega) fun i hi => ?_
  obtain ⟨c, h1, h2⟩ := ha i hi
  simp only [Nat.zero_add, Nat.mul_one]
  obtain ⟨h3, h4⟩ := List.getElem?_eq_some_iff.1 h1
  rw [List.drop_eq_getElem_cons h3, h4]
  exact h2
theorem OwnQ.rd {h : Heap} {lo hi : Nat} {z : AV} {p : Pr} (o : OwnQ h lo hi z p) : dePr h z = some p := by
  obtain ⟨ca, la, rfl, o1, o2⟩ := o
  refine dePr_in ?_ ?_
  · rcases o1 with ⟨h0, rfl⟩ | ⟨w, u, rfl, k, _⟩
    · rw [h0]; rfl
    · exact flat_in Flat.ins k rfl (r := []) (by simp)
  · rcases o2 with ⟨h0, rfl⟩ | ⟨w, u, cs, rfl, k, _, _, _, hl, ha⟩
    · rw [h0]; rfl
    · exact cols_rd k hl fun i hi => by
        obtain ⟨c, h1, h2⟩ := ha i hi
        exact ⟨c, h1, h2.rd⟩
theorem OwnQ.up {h h' : Heap} {lo hi lo' hi' : Nat} {z : AV} {p : Pr} (o : OwnQ h lo hi z p) (hh : ∀ q, lo ≤ q → q < hi → h' q = h q) (h1 : lo' ≤ lo) (h2 : hi ≤ hi') : OwnQ h' lo' hi' z p := by
  obtain ⟨ca, la, rfl, o1, o2⟩ := o
  refine ⟨ca, la, rfl, ?_, ?_⟩
  · rcases o1 with h0 | ⟨w, u, k1, k2, k3, k4⟩
    · exact .inl h0
    · exact .inr ⟨w, u, k1, by rw [hh w k3 k4]; exact k2, by omega, by omega⟩
  · rcases o2 with h0 | ⟨w, u, cs, k1, k2, k3, k4, k5, k6, k7⟩
    · exact .inl h0
    · refine .inr ⟨w, u, cs, k1, by rw [hh w k3 k4]; exact k2, by omega, by omega, k5, k6, fun i hi => ?_⟩
      obtain ⟨c, j1, j2⟩ := k7 i hi
      refine ⟨c, j1, ?_⟩
      rcases j2 with j0 | ⟨b, v, d1, d2, d3, d4, d5⟩
      · exact .inl j0
      · exact .inr ⟨b, v, d1, by rw [hh b d3 d4]; exact d2, Nat.le_trans h1 d3, by omega, d5⟩
theorem OwnQ.is {h : Heap} {lo hi : Nat} {z : AV} {p : Pr} (o : OwnQ h lo hi z p) : ∃ ca la, z = .g [ca, la] ∧ ca.one ∧ la.one ∧ (∀ g, AV.unc g ca = ca) ∧ (∀ g, AV.unc g la = la) ∧ ca.cells = [ca] ∧ la.cells = [la] := by
  obtain ⟨ca, la, rfl, o1, o2⟩ := o
  refine ⟨ca, la, rfl, ?_⟩
  rcases o1 with ⟨_, rfl⟩ | ⟨w, u, rfl, _⟩ <;> rcases o2 with ⟨_, rfl⟩ | ⟨w', u', cs', rfl, _⟩ <;> exact ⟨by first | rfl | trivial, by first | rfl | trivial, fun _ => rfl, fun _ => rfl, rfl, rfl⟩
/-- A program in a cell, of one's own. -/
def HasP (s : St) (i p0 hi : Nat) (p : Pr) : Prop := ∃ m ca la, s.e i = .p m 0 0 ∧ p0 ≤ m ∧ m < hi ∧ hi ≤ s.n ∧ s.h m = some ⟨[ca, la], 0, true, 2⟩ ∧ OwnQ s.h p0 hi (.g [ca, la]) p
theorem HasP.up {s s' : St} {i p0 hi : Nat} {p : Pr} (a : HasP s i p0 hi p) (he : s'.e i = s.e i) (hh : ∀ q, p0 ≤ q → q < hi → s'.h q = s.h q) (hn : s.n ≤ s'.n) : HasP s' i p0 hi p := by
  obtain ⟨m, ca, la, h1, h2, h3, h4, h5, h6⟩ := a
  exact ⟨m, ca, la, he.trans h1, h2, h3, by omega, by rw [hh m h2 h3]; exact h5, h6.up hh (Nat.le_refl _) (Nat.le_refl _)⟩
end Go.Proofs.YtkfphaphiikloaaDoor

/-
  THE LAWS WITHOUT THE DOCUMENT, PART D: the program is awake.
-/
namespace Go.Proofs.YtkfphaphiikloaaDoor
open Go Go.Eng

theorem one_in {α : Type} {sz : Nat} {d : De α} {h : Heap} {id : Nat} {k : Blk} {x : α} (hk : h id = some k) (hl : k.cells.length = sz) (hx : d.run h k.cells = some x) : rd (De.sl sz d) h (.s id k.ver 0 1) = some [x] := by
  refine De.sl_in (xs := [x]) (off := 0) hk (by simp; omega) (fun i hi => ?_)
  obtain rfl : i = 0 := by simp at hi; omega
  simp only [Nat.zero_mul, Nat.add_zero, List.drop_zero, List.getElem_cons_zero]
  rw [List.take_of_length_le (by omega)]
  exact hx
def S39 : List Nat := [0, 1, 2, 3, 4, 5, 6, 7]
def tb39 : List (FuncId × (List AV → Heap → PRes)) := [(29, G29), (31, G31), (37, G38)]
theorem tb39_ok : TbOk S39 tb39 := tb_cons P29 (tb_cons (P31 P29) (tb_cons P37 tb_nil))
def de39 (_ : Heap) : List AV → Option Unit
  | [] => some ()
  | _ => none
def G39 := pureH de39 (fun _ => True) fun _ => bv true
/-- What has been laid. -/
structure A39 (s : St) : Prop where
  a1 : HasS s.h (s.e 1) scW
  a2 : HasQ s.h (s.e 2) qW
  fr : Fresh s.n s.h
section
set_option maxRecDepth 100000
set_option maxHeartbeats 4000000
variable {h : Heap} {n : Nat}
theorem c39a (hn : Fresh n h) (e : Nat → AV) {Q : Ex → St → Prop} : awp (cx S39 (pfL tb39)) (hdC 3 (Tryd.f39.body.getD .skip)) (thenQ A39 Q) ⟨e, h, n⟩ := by
  simp [evs, aeval, binS, cx_ti, cx_G, cx_pf, cx_tw, ti, globS, glob, ldcs_1, ldcs_2, ldcs_3, ldcs_4, ldcs_5, ldcs_7, sls.eq_1, slc.eq_1, pfL, hdC, Tryd.f39]
  refine ⟨⟨n + 2, .s (n + 1) 0 0 1, by simp [up], by simp [up], ?_⟩, ⟨n + 6, .s (n + 5) 0 0 1, .v (.slice none 0 0), .v (.slice none 0 0), by simp [up], by simp [up]; exact ⟨rfl, rfl, rfl, rfl⟩, ?_, rfl, rfl⟩, by simp [fresh_up, hn.add]⟩
  · refine one_in (k := ⟨[ss zA, .s n 0 0 1], 0, true, 2⟩) (by simp [up]; rfl) rfl ?_
    refine deTyc_in (x := ⟨zA, [zx]⟩) ?_
    exact one_in (k := ⟨[ss zx], 0, true, 1⟩) (by simp [up]; rfl) rfl rfl
  · refine one_in (k := ⟨[bv false, .s (n + 4) 0 0 1, ss za, ii 1, ii 1], 0, true, 5⟩) (by simp [up]; exact ⟨rfl, rfl, rfl⟩) rfl ?_
    refine deItc_in (x := ⟨false, [zA], za, 1, 1⟩) ?_
    exact one_in (k := ⟨[ss zA], 0, true, 1⟩) (by simp [up]; rfl) rfl rfl
theorem join_W : joinT 15 [leafN ⟨4, 0, za, zx, 0, 0⟩] [leafN ⟨5, 0, za, ByteArray.empty, 0, 0⟩] = tW := by rfl
/-- With the tree. -/
structure B39 (s : St) : Prop extends A39 s where
  a3 : rd dNs s.h (s.e 3) = some tW
theorem c39b (e : Nat → AV) (h : Heap) (n : Nat) (a : A39 ⟨e, h, n⟩) {Q : Ex → St → Prop} : awp (cx S39 (pfL tb39)) (hdC 1 (tlC 3 (Tryd.f39.body.getD .skip))) (thenQ B39 Q) ⟨e, h, n⟩ := by
  obtain ⟨b1, b2, fr⟩ := a
  simp only [] at b1 b2 fr
  simp [evs, aeval, binS, cx_ti, cx_G, cx_pf, cx_tw, ti, globS, glob, ldcs_1, ldcs_2, ldcs_3, ldcs_4, ldcs_5, ldcs_7, sls.eq_1, slc.eq_1, pfL, hdC, tlC, Tryd.f39, tb39]
  refine (acall_any (S := []) (by simp) (c69 ⟨4, 0, za, zx, 0, 0⟩ fr)).mono ?_
  rintro z h2 n2 ⟨a1, a2, a3, w, rfl, hw, hw1, hw2⟩
  refine (acall_any (S := []) (by simp) (c69 ⟨5, 0, za, ByteArray.empty, 0, 0⟩ a2)).mono ?_
  rintro z h3 n3 ⟨d1, d2, d3, w', rfl, hv, hv1, hv2⟩
  have r1 : rd dNs h3 (.s w 0 0 1) = some [leafN ⟨4, 0, za, zx, 0, 0⟩] := one_in (k := ⟨ncells (leafN ⟨4, 0, za, zx, 0, 0⟩), 0, true, 6⟩) (by rw [d1 w hw2]; exact hw) rfl rfl
  have r2 : rd dNs h3 (.s w' 0 0 1) = some [leafN ⟨5, 0, za, ByteArray.empty, 0, 0⟩] := one_in (k := ⟨ncells (leafN ⟨5, 0, za, ByteArray.empty, 0, 0⟩), 0, true, 6⟩) hv rfl rfl
  refine (acall_any (S := []) (by simp) (c43 (op := 15) r1 r2 (by decide) d2)).mono ?_
  rintro z h4 n4 ⟨f1, f2, f3, u, rfl, hu, hu1⟩
  rw [join_W] at hu ⊢
  have g := agree_trans (agree_trans a1 d1 a3) f1 (Nat.le_trans a3 d3)
  exact ⟨⟨by simpa [up] using b1.up fr g, by simpa [up] using b2.up fr g, f2⟩, by simpa [up] using (show rd dNs h4 (.s n3 u 0 tW.length) = some tW from flat_in Flat.nd (l := tW) hu rfl (r := []) (by simp))⟩
/-- With the environment. -/
structure C39 (s : St) : Prop extends B39 s where
  a4 : HasE s.h (s.e 4) enW
theorem c39c (e : Nat → AV) (h : Heap) (n : Nat) (a : B39 ⟨e, h, n⟩) {Q : Ex → St → Prop} : awp (cx S39 (pfL tb39)) (hdC 1 (tlC 4 (Tryd.f39.body.getD .skip))) (thenQ C39 Q) ⟨e, h, n⟩ := by
  obtain ⟨⟨b1, b2, fr⟩, b3⟩ := a
  simp only [] at b1 b2 b3 fr
  simp [evs, aeval, binS, cx_ti, cx_G, cx_pf, cx_tw, ti, globS, glob, ldcs_1, ldcs_2, ldcs_3, ldcs_4, ldcs_5, ldcs_7, sls.eq_1, slc.eq_1, pfL, hdC, tlC, Tryd.f39, tb39]
  have g : ∀ x1 x2 x3 x4 : Option Blk, agree n h (up (up (up (up h n x1) (n + 1) x2) (n + 2) x3) (n + 2) x4) := fun x1 x2 x3 x4 => by simp [agree_up, agree_refl]
  refine ⟨⟨⟨by simpa [up] using b1.up fr (g _ _ _ _), by simpa [up] using b2.up fr (g _ _ _ _), by simp [fresh_up, fr.add]⟩, by simpa [up] using rd_agr fr b3 _ (g _ _ _ _)⟩, n + 2, .s (n + 1) 0 0 1, by simp [up], by simp [up]; exact ⟨rfl, rfl⟩, ?_⟩
  refine one_in (k := ⟨[.s n 0 0 1], 0, true, 1⟩) (by simp [up]) rfl ?_
  exact one_in (k := ⟨ecells ⟨1, 0, 0, 7, 0, 0, 0, 0, 0, 0, 0⟩, 0, true, 11⟩) (by simp [up]; rfl) rfl rfl
/-- A known six in a cell. -/
def Six (s : St) (i : Nat) : Prop := ∃ m, s.e i = .p m 0 0 ∧ s.h m = some ⟨[.v (.bool true), .v (.int .i64 6)], 0, true, 2⟩
theorem Six.up {s s' : St} {i n : Nat} (a : Six s i) (hn : Fresh n s.h) (he : s'.e i = s.e i) (ha : agree n s.h s'.h) : Six s' i := by
  obtain ⟨m, h1, h2⟩ := a
  exact ⟨m, he.trans h1, by rw [ha m (lt_of h2 hn)]; exact h2⟩
theorem C39.up {s s' : St} (a : C39 s) (he : ∀ i ∈ [1, 2, 3, 4], s'.e i = s.e i) (ha : agree s.n s.h s'.h) (hf : Fresh s'.n s'.h) : C39 s' := by
  obtain ⟨⟨⟨b1, b2, fr⟩, b3⟩, b4⟩ := a
  exact ⟨⟨⟨by rw [he 1 (by simp)]; exact b1.up fr ha, by rw [he 2 (by simp)]; exact b2.up fr ha, hf⟩, by rw [he 3 (by simp)]; exact rd_agr fr b3 _ ha⟩, by rw [he 4 (by simp)]; exact b4.up fr ha⟩
theorem eq_W : EqOk ⟨scW, qW, tW, enW⟩ := by
  refine ⟨⟨by decide +kernel, by decide +kernel⟩, by decide +kernel, by unfold smallT; decide +kernel, by unfold Rng; decide +kernel, by decide +kernel, by unfold EvOk Rng; decide +kernel, by unfold Rng; decide +kernel⟩
theorem pr_W : PrOk (compP scW (vars qW.items) tW) := comp_ok (by decide +kernel) (by unfold smallT; decide +kernel) (by decide +kernel) (by unfold Rng; decide +kernel)
theorem c39d (e : Nat → AV) (h : Heap) (n : Nat) (a : C39 ⟨e, h, n⟩) {Q : Ex → St → Prop} : awp (cx S39 (pfL tb39)) (hdC 1 (tlC 5 (Tryd.f39.body.getD .skip))) (thenQ (fun s => C39 s ∧ Six s 5) Q) ⟨e, h, n⟩ := by
  have a0 := a
  obtain ⟨⟨⟨⟨m1, s1, q1, k1, r1⟩, ⟨m2, x2, y2, z2, q2, k2, r2, r2', r2''⟩, fr⟩, r3⟩, ⟨m4, s4, q4, k4, r4⟩⟩ := a
  simp only [] at q1 k1 r1 q2 k2 r2 r2' r2'' fr r3 q4 k4 r4
  obtain ⟨ta, q3⟩ : ∃ x, e 3 = x := ⟨_, rfl⟩
  rw [q3] at r3
  have o1 := (sl_is r1).2.2.2.1
  have o2 := (sl_is r2).2.2.2.1
  have o2' := (sl_is r2').2.2.2.1
  have o2'' := (sl_is r2'').2.2.2.1
  have o4 := (sl_is r4).2.2.2.1
  obtain ⟨u1, u2, u3, u4, u5⟩ := sl_is r3
  have hd : de38 h [.g [s1], .g [x2, .v (.int .i64 qW.mode), .v (.int .i64 qW.after), y2, .v (.int .i64 qW.within), .v (.string qW.par), z2], ta, .g [s4, .v (.int .i64 enW.each), .v (.int .i64 enW.pos)]] = some ⟨scW, qW, tW, enW⟩ :=
    de38_in (v := ⟨scW, qW, tW, enW⟩) r1 (deQ_has r2 r2' r2'') r3 (deEn_in (e := enW) r4)
  simp [evs, aeval, binS, cx_ti, cx_G, cx_pf, cx_tw, ti, globS, glob, ldcs_1, ldcs_2, ldcs_3, ldcs_4, ldcs_5, ldcs_7, sls.eq_1, slc.eq_1, pfL, hdC, tlC, Tryd.f39, tb39, q1, q2, q3, q4, k1, k2, k4, o1, o2, o2', o2'', o4, u3, G38, pureH, hd, eq_W, eval_W, vv]
  have g : ∀ x1 x2 : Option Blk, agree n h (up (up h n x1) n x2) := fun x1 x2 => by simp [agree_up, agree_refl]
  exact ⟨a0.up (by simp [up]) (g _ _) (by simp [fresh_up, fr.add]), n, by simp [up], by simp [up]⟩
theorem c39e0 (e : Nat → AV) (h : Heap) (n : Nat) (a : C39 ⟨e, h, n⟩) (b : Six ⟨e, h, n⟩ 5) {R : St → Prop} (hR : ∀ (e2 : Nat → AV) (h2 : Heap) (n2 m : Nat), (∀ i ∈ [1, 2, 3, 4, 5], e2 i = e i) → e2 6 = .p m 0 0 → e2 7 = ii 0 → agree n h h2 → Fresh n2 h2 → h2 m = some ⟨[.v (.bool true), .v (.int .i64 6)], 0, true, 2⟩ → R ⟨e2, h2, n2⟩) {Q : Ex → St → Prop} : awp (cx S39 (pfL tb39)) (hdC 1 (tlC 6 (Tryd.f39.body.getD .skip))) (thenQ R Q) ⟨e, h, n⟩ := by
  obtain ⟨⟨⟨⟨m1, s1, q1, k1, r1⟩, ⟨m2, x2, y2, z2, q2, k2, r2, r2', r2''⟩, fr⟩, r3⟩, ⟨m4, s4, q4, k4, r4⟩⟩ := a
  simp only [] at q1 k1 r1 q2 k2 r2 r2' r2'' fr r3 q4 k4 r4
  obtain ⟨ta, q3⟩ : ∃ x, e 3 = x := ⟨_, rfl⟩
  rw [q3] at r3
  have o1 := (sl_is r1).2.2.2.1
  have o2 := (sl_is r2).2.2.2.1
  have o2' := (sl_is r2').2.2.2.1
  have o2'' := (sl_is r2'').2.2.2.1
  have o4 := (sl_is r4).2.2.2.1
  obtain ⟨u1, u2, u3, u4, u5⟩ := sl_is r3
  have okr : okR (compP scW (vars qW.items) tW, enW) := ⟨pr_W, eq_W.en⟩
  simp [evs, aeval, binS, cx_ti, cx_G, cx_pf, cx_tw, ti, globS, glob, ldcs_1, ldcs_2, ldcs_3, ldcs_4, ldcs_5, ldcs_7, sls.eq_1, slc.eq_1, pfL, hdC, tlC, Tryd.f39, tb39, q1, q2, q3, q4, k1, k2, k4, o1, o2, o2', o2'', o4, u3]
  refine ⟨?_, ?_⟩
  · refine (acall_any (S := [7]) (by simp [S39]) (c20 (qx := .g [x2, .v (.int .i64 qW.mode), .v (.int .i64 qW.after), y2, .v (.int .i64 qW.within), .v (.string qW.par), z2]) r1 (deQ_has r2 r2' r2'') r3 (by decide +kernel) (by unfold smallT; decide +kernel) (by decide +kernel) ⟨by decide +kernel, by decide +kernel⟩ fr)).mono ?_
    rintro z h2 n2 ⟨a1, a2, a3, a4⟩
    refine ⟨keep_le (agr_le fr a1), ?_⟩
    obtain ⟨ca, la, rfl, v1, v2, v3, v4, v5, v6⟩ := a4.is
    have hd : ∀ h', agree n2 h2 h' → deR h' [.g [ca, la], .g [s4, .v (.int .i64 enW.each), .v (.int .i64 enW.pos)]] = some (compP scW (vars qW.items) tW, enW) := fun h' ha => by
      have x1 : dePr h' (.g [ca, la]) = some (compP scW (vars qW.items) tW) := (a4.up (h' := h') (fun q _ hq => ha q hq) (Nat.le_refl _) (Nat.le_refl _)).rd
      have x2 : deEn h' (.g [s4, .v (.int .i64 enW.each), .v (.int .i64 enW.pos)]) = some enW := deEn_in (e := enW) (rd_agr fr r4 _ (fun j hj => by rw [ha j (by omega), a1 j hj]))
      simp only [deR, x1, x2]
    simp [evs, aeval, binS, cx_ti, cx_G, cx_pf, cx_tw, ti, globS, glob, ldcs_1, ldcs_2, ldcs_3, ldcs_4, ldcs_5, ldcs_7, sls.eq_1, slc.eq_1, pfL, v1, v2, v3, v4, v5, v6, G29, pureH, hd, agree_up, agree_refl, okr, prog_W, runA, vv]
    repeat' apply And.intro
    all_goals exact hR _ _ _ n2 (by simp [up, q1, q2, q3, q4]) (by simp [up]) (by simp [up, ii]) (by simp [agree_up, a1, a3]) (by simp [fresh_up, a2.add]) (by simp [up])
  · have frA : ∀ b, Fresh (n + 1) (up h n b) := fun b => (fresh_up (by omega) b).2 (fr.add 1)
    have agA : ∀ b, agree n h (up h n b) := fun b => (agree_up (by omega) b).2 (agree_refl _ _)
    refine (acall_any (S := [7]) (by simp [S39]) (c20 (qx := .g [x2, .v (.int .i64 qW.mode), .v (.int .i64 qW.after), y2, .v (.int .i64 qW.within), .v (.string qW.par), z2]) (rd_agr fr r1 _ (agA _)) (deQ_has (rd_agr fr r2 _ (agA _)) (rd_agr fr r2' _ (agA _)) (rd_agr fr r2'' _ (agA _))) (rd_agr fr r3 _ (agA _)) (by decide +kernel) (by unfold smallT; decide +kernel) (by decide +kernel) ⟨by decide +kernel, by decide +kernel⟩ (frA _))).mono ?_
    rintro z h2 n2 ⟨a1, a2, a3, a4⟩
    refine ⟨keep_le (agr_le (frA _) a1), ?_⟩
    obtain ⟨ca, la, rfl, v1, v2, v3, v4, v5, v6⟩ := a4.is
    have hx : h2 n = some ⟨[.v (.bool false), .v (.int .i64 0)], 0, true, 2⟩ := by rw [a1 n (by omega), up_same]
    have hag : agree n h h2 := fun j hj => by rw [a1 j (by omega), up_ne _ _ (by omega)]
    have hd : deR h2 [.g [ca, la], .g [s4, .v (.int .i64 enW.each), .v (.int .i64 enW.pos)]] = some (compP scW (vars qW.items) tW, enW) := by
      have x2 : deEn h2 (.g [s4, .v (.int .i64 enW.each), .v (.int .i64 enW.pos)]) = some enW := deEn_in (e := enW) (rd_agr fr r4 _ hag)
      simp only [deR, a4.rd, x2]
    simp [evs, aeval, binS, cx_ti, cx_G, cx_pf, cx_tw, ti, globS, glob, ldcs_1, ldcs_2, ldcs_3, ldcs_4, ldcs_5, ldcs_7, sls.eq_1, slc.eq_1, pfL, v1, v2, v3, v4, v5, v6, G29, pureH, hd, agree_up, agree_refl, okr, prog_W, runA, vv, hx]
    repeat' apply And.intro
    all_goals exact hR _ _ _ n (by simp [up, q1, q2, q3, q4]) (by simp [up]) (by simp [up, ii]) (fun j hj => by rw [up_ne _ _ (by omega)]; exact hag j hj) ((fresh_up (by omega) _).2 (a2.add 1)) (by simp [up])
theorem c39e (e : Nat → AV) (h : Heap) (n : Nat) (a : C39 ⟨e, h, n⟩) (b : Six ⟨e, h, n⟩ 5) {Q : Ex → St → Prop} : awp (cx S39 (pfL tb39)) (hdC 1 (tlC 6 (Tryd.f39.body.getD .skip))) (thenQ (fun s => C39 s ∧ Six s 5 ∧ Six s 6 ∧ s.e 7 = ii 0) Q) ⟨e, h, n⟩ :=
  c39e0 e h n a b fun e2 h2 n2 m k1 k2 k3 k4 k5 k6 => ⟨a.up (fun i hi => k1 i (by revert hi; simp; omega)) k4 k5, b.up a.fr (k1 5 (by simp)) k4, ⟨m, k2, k6⟩, k3⟩
theorem c39f (e : Nat → AV) (h : Heap) (n : Nat) (a : C39 ⟨e, h, n⟩) (b : Six ⟨e, h, n⟩ 5) (c : Six ⟨e, h, n⟩ 6) (d : e 7 = ii 0) {Q : Ex → St → Prop} : awp (cx S39 (pfL tb39)) (hdC 1 (tlC 7 (Tryd.f39.body.getD .skip))) (thenQ (fun s => C39 s ∧ Six s 5 ∧ Six s 6 ∧ s.e 7 = ii 0 ∧ Six s 8) Q) ⟨e, h, n⟩ := by
  have fr := a.fr
  simp only [] at fr
  simp [evs, aeval, binS, cx_ti, cx_G, cx_pf, cx_tw, ti, globS, glob, ldcs_1, ldcs_2, ldcs_3, ldcs_4, ldcs_5, ldcs_7, sls.eq_1, slc.eq_1, pfL, hdC, tlC, Tryd.f39, tb39]
  have g : ∀ x1 x2 : Option Blk, agree n h (up (up h n x1) n x2) := fun x1 x2 => by simp [agree_up, agree_refl]
  exact ⟨a.up (by simp [up]) (g _ _) (by simp [fresh_up, fr.add]), b.up fr (by simp [up]) (g _ _), c.up fr (by simp [up]) (g _ _), by simpa [up] using d, n, by simp [up], by simp [up]⟩
theorem c39g (e : Nat → AV) (h : Heap) (n : Nat) (a : C39 ⟨e, h, n⟩) (b : Six ⟨e, h, n⟩ 5) (c : Six ⟨e, h, n⟩ 6) (d : e 7 = ii 0) (f : Six ⟨e, h, n⟩ 8) : awp (cx S39 (pfL tb39)) (tlC 8 (Tryd.f39.body.getD .skip)) (finQ (cx S39 (pfL tb39)) Tryd.f39 fun z _ _ => z = bv true) ⟨e, h, n⟩ := by
  obtain ⟨⟨⟨⟨m1, s1, q1, k1, r1⟩, ⟨m2, x2, y2, z2, q2, k2, r2, r2', r2''⟩, fr⟩, r3⟩, ⟨m4, s4, q4, k4, r4⟩⟩ := a
  obtain ⟨m5, q5, k5⟩ := b
  obtain ⟨m6, q6, k6⟩ := c
  obtain ⟨m8, q8, k8⟩ := f
  simp only [] at q1 k1 r1 q2 k2 r2 r2' r2'' fr r3 q4 k4 r4 q5 k5 q6 k6 q8 k8
  obtain ⟨ta, q3⟩ : ∃ x, e 3 = x := ⟨_, rfl⟩
  rw [q3] at r3
  have o1 := (sl_is r1).2.2.2.1
  have o2 := (sl_is r2).2.2.2.1
  have o2' := (sl_is r2').2.2.2.1
  have o2'' := (sl_is r2'').2.2.2.1
  have o4 := (sl_is r4).2.2.2.1
  obtain ⟨u1, u2, u3, u4, u5⟩ := sl_is r3
  have okr : okR (compP scW (vars qW.items) tW, enW) := ⟨pr_W, eq_W.en⟩
  simp [evs, aeval, binS, cx_ti, cx_G, cx_pf, cx_tw, ti, globS, glob, ldcs_1, ldcs_2, ldcs_3, ldcs_4, ldcs_5, ldcs_7, sls.eq_1, slc.eq_1, pfL, tlC, Tryd.f39, tb39, q1, q2, q3, q4, q5, q6, q8, d, ii, k1, k2, k4, k5, k6, k8, o1, o2, o2', o2'', o4, u3]
  refine (acall_any (S := [7]) (by simp [S39]) (c20 (qx := .g [x2, .v (.int .i64 qW.mode), .v (.int .i64 qW.after), y2, .v (.int .i64 qW.within), .v (.string qW.par), z2]) r1 (deQ_has r2 r2' r2'') r3 (by decide +kernel) (by unfold smallT; decide +kernel) (by decide +kernel) ⟨by decide +kernel, by decide +kernel⟩ fr)).mono ?_
  rintro z h2 n2 ⟨a1, a2, a3, a4⟩
  refine ⟨keep_le (agr_le fr a1), ?_⟩
  obtain ⟨ca, la, rfl, v1, v2, v3, v4, v5, v6⟩ := a4.is
  have hd : deR h2 [.g [ca, la], .g [s4, .v (.int .i64 enW.each), .v (.int .i64 enW.pos)]] = some (compP scW (vars qW.items) tW, enW) := by
    have x2 : deEn h2 (.g [s4, .v (.int .i64 enW.each), .v (.int .i64 enW.pos)]) = some enW := deEn_in (e := enW) (rd_agr fr r4 _ a1)
    simp only [deR, a4.rd, x2]
  simp [evs, aeval, binS, cx_ti, cx_G, cx_pf, cx_tw, ti, globS, glob, ldcs_1, ldcs_2, ldcs_3, ldcs_4, ldcs_5, ldcs_7, sls.eq_1, slc.eq_1, pfL, v1, v2, v3, v4, v5, v6, G31, pureH, hd, okr, holds_W, bv]
end
theorem P39 : P0 S39 39 G39 := by
  refine mkH 0 (S := S39) (l := tb39) tb39_ok Tryd.func39 rfl (by kernel_rfl) (fun h h' l x hh e => e) (fun h l x e => by cases l with | nil => exact Nat.le_refl _ | cons => simp [de39] at e) (fun a => rfl) (fun args q h n e hp hn => ?_)
  have fr := roH_fresh hn
  refine awp_cut 3 _ _ (c39a fr _) fun x1 h1 n1 b1 => ?_
  refine awp_cut 1 _ _ (c39b x1 h1 n1 b1) fun x2 h2 n2 b2 => ?_
  refine awp_cut 1 _ _ (c39c x2 h2 n2 b2) fun x3 h3 n3 b3 => ?_
  refine awp_cut 1 _ _ (c39d x3 h3 n3 b3) fun x4 h4 n4 ⟨b4, c4⟩ => ?_
  refine awp_cut 1 _ _ (c39e x4 h4 n4 b4 c4) fun x5 h5 n5 ⟨b5, c5, d5, f5⟩ => ?_
  refine awp_cut 1 _ _ (c39f x5 h5 n5 b5 c5 d5 f5) fun x6 h6 n6 ⟨b6, c6, d6, f6, g6⟩ => ?_
  exact c39g x6 h6 n6 b6 c6 d6 f6 g6
end Go.Proofs.YtkfphaphiikloaaDoor
