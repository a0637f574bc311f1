/-
  CodeFrame: the law's own code.
-/
import Derived.Test.YtkfphaphiikloaaDoorX37
set_option linter.unusedSimpArgs false
set_option linter.unusedVariables false
set_option linter.constructorNameAsVariable false
namespace Go.Proofs.YtkfphaphiikloaaDoor
open Go Go.Eng

def tbl11 : List (FuncId × (List AV → Heap → PRes)) := [(14, G14), (15, G15), (27, G27), (29, G29), (37, G38), (39, G39), (50, G50)]
theorem tbl11_ok : TbOk S8 tbl11 := tb_cons P14 (tb_cons P15 (tb_cons P27 (tb_cons P29 (tb_cons P37 (tb_cons P39 (tb_cons P50 tb_nil))))))
section
set_option maxRecDepth 100000
set_option maxHeartbeats 4000000
variable {h : Heap} {n : Nat} {sa qa qb qc ta la oa : AV} {v : Eq11}
theorem law11a (e1 : rd dTys h sa = some v.v.sc) (e2 : rd dIts h qa = some v.v.q.items) (e3 : rd dNs h qb = some v.v.q.wh) (e4 : rd dNss h qc = some v.v.q.ret) (e5 : rd dNs h ta = some v.v.t) (e6 : rd dEss h la = some v.v.en.ls) (e7 : rd dEss h oa = some v.ot) (w : W11 v) (hn : Fresh n h) (e : Nat → AV)
    (q0 : e 0 = .g [sa]) (q1 : e 1 = .g [qa, .v (.int .i64 v.v.q.mode), .v (.int .i64 v.v.q.after), qb, .v (.int .i64 v.v.q.within), .v (.string v.v.q.par), qc]) (q2 : e 2 = ta) (q3 : e 3 = .g [la, .v (.int .i64 v.v.en.each), .v (.int .i64 v.v.en.pos)]) (q4 : e 4 = oa) :
    awp (cx S8 (pfL tbl11)) (hdC 2 (Tryd.f11.body.getD .skip)) (thenQ (fun s => A11 v s ∧ beyondV v.v.en.ls = false ∧ beyondV v.ot = false) (finQ (cx S8 (pfL tbl11)) Tryd.f11 fun z _ _ => z = bv true)) ⟨e, roH h, n⟩ := by
  have o1 := (sl_is e1).2.2.2.1
  have o2 := (sl_is e2).2.2.2.1
  have o3 := (sl_is e3).2.2.2.1
  have o4 := (sl_is e4).2.2.2.1
  have o5 := (sl_is e6).2.2.2.1
  obtain ⟨s1, s2, s3, s4, s5⟩ := sl_is e5
  have r3 := (sl_is e6).2.2.1
  have r4 := (sl_is e7).2.2.1
  have g6 := rd_agree hn e6
  have g7 := rd_agree hn e7
  have g5 := rd_agree hn e5
  have gq : ∀ h', agree n (roH h) h' → deQ h' (.g [qa, .v (.int .i64 v.v.q.mode), .v (.int .i64 v.v.q.after), qb, .v (.int .i64 v.v.q.within), .v (.string v.v.q.par), qc]) = some v.v.q := fun h' ha => deQ_has (rd_agree hn e2 h' ha) (rd_agree hn e3 h' ha) (rd_agree hn e4 h' ha)
  have w1 := w.w.w1
  have w2 := w.w.w2
  have w3 : smallT v.v.q.wh ∧ v.v.q.ret.length < big ∧ ∀ t ∈ v.v.q.ret, smallT t := ⟨w.w.q2, w.w.q3, w.w.q4⟩
  have w4 : smallT v.v.t := w.w.t1
  have w5 : v.ot.length < big := by have := w.o1; unfold big; omega
  have w6 : ∀ l ∈ v.ot, l.length < big := fun l hl => by have := w.o2 l hl; unfold big; omega
  have fr := roH_fresh hn
  cases hq : qdeep v.v.q with
  | true =>
    simp [evs, aeval, binS, cx_ti, cx_G, cx_pf, cx_tw, ti, globS, glob, ldcs_1, ldcs_2, ldcs_3, ldcs_4, ldcs_5, ldcs_7, sls.eq_1, slc.eq_1, pfL, hdC, Tryd.f11, q0, q1, q2, q3, q4, o1, o2, o3, o4, o5, s3, r3, r4, bv, tbl11, pureH, agree_up, agree_refl, G14, deQ1, gq, hq]
    exact w3
  | false =>
    cases ht : deepB v.v.t with
    | true =>
      simp [evs, aeval, binS, cx_ti, cx_G, cx_pf, cx_tw, ti, globS, glob, ldcs_1, ldcs_2, ldcs_3, ldcs_4, ldcs_5, ldcs_7, sls.eq_1, slc.eq_1, pfL, hdC, Tryd.f11, q0, q1, q2, q3, q4, o1, o2, o3, o4, o5, s3, r3, r4, bv, tbl11, pureH, agree_up, agree_refl, G14, deQ1, gq, hq, G15, deT, g5, ht]
      exact ⟨w3, w4⟩
    | false =>
      cases hb : beyondV v.v.en.ls with
      | true =>
        simp [evs, aeval, binS, cx_ti, cx_G, cx_pf, cx_tw, ti, globS, glob, ldcs_1, ldcs_2, ldcs_3, ldcs_4, ldcs_5, ldcs_7, sls.eq_1, slc.eq_1, pfL, hdC, Tryd.f11, q0, q1, q2, q3, q4, o1, o2, o3, o4, o5, s3, r3, r4, bv, tbl11, pureH, agree_up, agree_refl, G14, deQ1, gq, hq, G15, deT, g5, ht, G27, deLL, g6, w1, hb]
        exact ⟨w3, w4, w2⟩
      | false =>
        cases hb2 : beyondV v.ot with
        | true =>
          simp [evs, aeval, binS, cx_ti, cx_G, cx_pf, cx_tw, ti, globS, glob, ldcs_1, ldcs_2, ldcs_3, ldcs_4, ldcs_5, ldcs_7, sls.eq_1, slc.eq_1, pfL, hdC, Tryd.f11, q0, q1, q2, q3, q4, o1, o2, o3, o4, o5, s3, r3, r4, bv, tbl11, pureH, agree_up, agree_refl, G14, deQ1, gq, hq, G15, deT, g5, ht, G27, deLL, g6, g7, w1, w5, hb, hb2]
          exact ⟨w3, w4, w2, w6⟩
        | false =>
          simp [evs, aeval, binS, cx_ti, cx_G, cx_pf, cx_tw, ti, globS, glob, ldcs_1, ldcs_2, ldcs_3, ldcs_4, ldcs_5, ldcs_7, sls.eq_1, slc.eq_1, pfL, hdC, Tryd.f11, q0, q1, q2, q3, q4, o1, o2, o3, o4, o5, s3, r3, r4, bv, tbl11, pureH, agree_up, agree_refl, G14, deQ1, gq, hq, G15, deT, g5, ht, G27, deLL, g6, g7, w1, w5, hb, hb2]
          refine ⟨w3, w4, w2, w6, ?_⟩
          have ag : ∀ b1 b2 b3 : Option Blk, agree n (roH h) (up (up (up (roH h) n b1) (n + 1) b2) (n + 2) b3) := fun b1 b2 b3 => by simp [agree_up, agree_refl]
          exact ⟨by simpa [up, q2] using g5 _ (ag _ _ _), by simpa [up, q4] using g7 _ (ag _ _ _), ⟨n, sa, by simp [up], by simp [up], rd_agree hn e1 _ (ag _ _ _)⟩, ⟨n + 1, qa, qb, qc, by simp [up], by simp [up], rd_agree hn e2 _ (ag _ _ _), rd_agree hn e3 _ (ag _ _ _), rd_agree hn e4 _ (ag _ _ _)⟩, ⟨n + 2, la, by simp [up], by simp [up], g6 _ (ag _ _ _)⟩, by simp [fresh_up, fr.add]⟩
theorem law11b (e : Nat → AV) (h' : Heap) (n' : Nat) (b : A11 v ⟨e, h', n'⟩) {Q : Ex → St → Prop} :
    awp (cx S8 (pfL tbl11)) (hdC 1 (tlC 2 (Tryd.f11.body.getD .skip))) (thenQ (A11 v) Q) ⟨e, h', n'⟩ := by
  simp [evs, aeval, binS, cx_ti, cx_G, cx_pf, cx_tw, ti, globS, glob, ldcs_1, ldcs_2, ldcs_3, ldcs_4, ldcs_5, ldcs_7, sls.eq_1, slc.eq_1, pfL, hdC, tlC, Tryd.f11, tbl11, G39, pureH, de39, bv]
  exact b.up (by simp [up]) (agree_refl _ _) b.frs
theorem law11c (w : W11 v) (e : Nat → AV) (h' : Heap) (n' : Nat) (b : A11 v ⟨e, h', n'⟩) {Q : Ex → St → Prop} :
    awp (cx S8 (pfL tbl11)) (hdC 1 (tlC 3 (Tryd.f11.body.getD .skip))) (thenQ (fun s => A11 v s ∧ HasU v s) Q) ⟨e, h', n'⟩ := by
  have b0 := b
  obtain ⟨at2, _, _, ⟨m6, a6, x6, y6, q6, b6, r6, r6', r6''⟩, _, fr⟩ := b
  simp only [] at at2 q6 b6 r6 r6' r6'' fr
  obtain ⟨ta, q2⟩ : ∃ x, e 2 = x := ⟨_, rfl⟩
  rw [q2] at at2
  have s3 := (sl_is at2).2.2.1
  simp [evs, aeval, binS, cx_ti, cx_G, cx_pf, cx_tw, ti, globS, glob, ldcs_1, ldcs_2, ldcs_3, ldcs_4, ldcs_5, ldcs_7, sls.eq_1, slc.eq_1, pfL, hdC, tlC, Tryd.f11, q2, q6, b6, s3, tbl11]
  refine (acall_any (S := []) (by simp) (c49 (deQ_has (q := v.v.q) r6 r6' r6'') at2 w.w.q1 w.w.t1 fr)).mono ?_
  rintro z h2 n2 ⟨a1, a2, a3, u1, u2, u3, rfl, k1, k2, k3⟩
  have o1 := (sl_is k1).2.2.2.1
  have o2 := (sl_is k2).2.2.2.1
  have o3 := (sl_is k3).2.2.2.1
  simp [evs, aeval, binS, cx_ti, cx_G, cx_pf, cx_tw, ti, globS, glob, ldcs_1, ldcs_2, ldcs_3, ldcs_4, ldcs_5, ldcs_7, sls.eq_1, slc.eq_1, pfL, o1, o2, o3]
  have g : ∀ x1 x2 : Option Blk, agree n2 h2 (up (up h2 n2 x1) n2 x2) := fun x1 x2 => by simp [agree_up, agree_refl]
  exact ⟨b0.up (by simp [up, q2]) (agree_trans a1 (g _ _) a3) (by simp [fresh_up, a2.add]), n2, u1, u2, u3, by simp [up], by simp [up], rd_agr a2 k1 _ (g _ _), rd_agr a2 k3 _ (g _ _)⟩
/-- The list that stands in the place of another is chosen. -/
noncomputable def l11L : Code := bodyL (hdC 1 (tlC 5 (Tryd.f11.body.getD .skip)))
noncomputable def l11B : Code := inB (hdC 1 (tlC 1 l11L))
def keep11 (e : Nat → AV) (e' : Nat → AV) : Prop := ∀ i ∈ [2, 4, 5, 6, 8, 11, 12, 13], e' i = e i
theorem keep11.mk {e e' : Nat → AV} (h2 : e' 2 = e 2) (h4 : e' 4 = e 4) (h5 : e' 5 = e 5) (h6 : e' 6 = e 6) (h8 : e' 8 = e 8) (h11 : e' 11 = e 11) (h12 : e' 12 = e 12) (h13 : e' 13 = e 13) : keep11 e e' := fun i hi => by
  simp only [List.mem_cons, List.not_mem_nil, or_false] at hi
  rcases hi with rfl | rfl | rfl | rfl | rfl | rfl | rfl | rfl <;> assumption
theorem l11ch (w : W11 v) (hb : beyondV v.v.en.ls = false) (e : Nat → AV) (hB : Heap) (nB : Nat) (h' : Heap) (n' : Nat) (b : A11 v ⟨e, hB, nB⟩) (u : HasU v ⟨e, hB, nB⟩) (hag : agree nB hB h') {j : Nat} (hj : j < v.v.en.ls.length) (q13 : e 13 = ii j) {Q : Ex → St → Prop} :
    awp (cx S8 (pfL tbl11)) (hdC 2 l11B) (thenQ (fun s => s.h = h' ∧ s.n = n' ∧ keep11 e s.e ∧ rd dEs hB (s.e 14) = some (frL (bareOf v) (aggOf v) v.v.en.each v.ot j (v.v.en.ls.getD j []))) Q) ⟨e, h', n'⟩ := by
  obtain ⟨_, ao4, _, _, ⟨m8, a8, q8, b8, r8⟩, fr⟩ := b
  obtain ⟨mu, a1, a2, a3, q11, bu, u1, u3⟩ := u
  simp only [] at ao4 q8 b8 r8 fr q11 bu u1 u3
  replace b8 := (hag m8 (lt_of b8 fr)).trans b8
  replace bu := (hag mu (lt_of bu fr)).trans bu
  replace u1 := rd_agr fr u1 _ hag
  replace u3 := rd_agr fr u3 _ hag
  obtain ⟨oa, q4⟩ : ∃ x, e 4 = x := ⟨_, rfl⟩
  rw [q4] at ao4
  have hg : v.v.en.ls.getD j [] = v.v.en.ls[j] := by simp [List.getD_eq_getElem?_getD, hj]
  rw [hg]
  have w1 := w.w.w1
  have w5 : v.ot.length < big := by have := w.o1; unfold big; omega
  have y1 := w.u1
  have y3 := w.u3
  have hlj := beyond_len hb _ (List.getElem_mem hj)
  have hin1 : deIsI h' [a1, .v (.int .i64 (j : Int))] = some (bareOf v, (j : Int)) := by simp only [deIsI, u1, Option.map_some]
  have hin3 : deIsI h' [a3, .v (.int .i64 (j : Int))] = some (aggOf v, (j : Int)) := by simp only [deIsI, u3, Option.map_some]
  have c1 := (sl_is u1).2.2.1
  have c3 := (sl_is u3).2.2.1
  rcases sls_at r8 with ⟨h0, _⟩ | ⟨id, off, k, rfl, hk, ho, hat⟩
  · rw [h0] at hj; simp at hj
  obtain ⟨c, hc, hcr⟩ := hat j hj
  replace hk := (hag id (lt_of hk fr)).trans hk
  obtain ⟨t1, t2, t3, t4, t5⟩ := sl_is hcr
  have hw1 : off + (j + 1) ≤ k.cells.length := by omega
  generalize hlg : v.v.en.ls[j] = lj at *
  have hj' : (j : Int) < (v.v.en.ls.length : Int) := by omega
  by_cases hA : (j : Int) ∈ aggOf v
  · have hr : frL (bareOf v) (aggOf v) v.v.en.each v.ot j lj = lj := if_pos (.inl hA)
    simp [evs, aeval, binS, cx_ti, cx_G, cx_pf, cx_tw, ti, globS, glob, ldcs_1, ldcs_2, ldcs_3, ldcs_4, ldcs_5, ldcs_7, sls.eq_1, slc.eq_1, pfL, hdC, tlC, l11B, l11L, inB, bodyL, Tryd.f11, q8, q11, q13, b8, bu, ii, bv, hk, hc, hw1, hj, hj', t3, c3, tbl11, G50, pureH, hin3, y3, hA]
    exact ⟨keep11.mk (by simp [up]) (by simp [up]) (by simp [up]) (by simp [up]) (by simp [up]) (by simp [up]) (by simp [up]) (by simp [up]), by rw [hr]; exact hcr⟩
  · by_cases hE : (j : Int) = v.v.en.each
    · have hr : frL (bareOf v) (aggOf v) v.v.en.each v.ot j lj = lj := if_pos (.inr hE)
      have hE' : v.v.en.each = (j : Int) := hE.symm
      rw [hE'] at hr
      simp [evs, aeval, binS, cx_ti, cx_G, cx_pf, cx_tw, ti, globS, glob, ldcs_1, ldcs_2, ldcs_3, ldcs_4, ldcs_5, ldcs_7, sls.eq_1, slc.eq_1, pfL, hdC, tlC, l11B, l11L, inB, bodyL, Tryd.f11, q8, q11, q13, b8, bu, ii, bv, hk, hc, hw1, hj, hj', t3, c3, tbl11, G50, pureH, hin3, y3, hA, hE']
      exact ⟨keep11.mk (by simp [up]) (by simp [up]) (by simp [up]) (by simp [up]) (by simp [up]) (by simp [up]) (by simp [up]) (by simp [up]), by rw [hr]; exact hcr⟩
    · by_cases hB : (j : Int) ∈ bareOf v
      · have hr : frL (bareOf v) (aggOf v) v.v.en.each v.ot j lj = lj.take 1 := by
          unfold frL
          rw [if_neg (fun h => by rcases h with h | h; exact hA h; exact hE h), if_pos hB]
        by_cases hL : 1 < lj.length
        · obtain ⟨id2, ver2, off2, rfl, hone⟩ := rd_one hcr hL
          have hL' : 1 ≤ lj.length := by omega
          have hLi : (1 : Int) < (lj.length : Int) := by omega
          simp [evs, aeval, binS, cx_ti, cx_G, cx_pf, cx_tw, ti, globS, glob, ldcs_1, ldcs_2, ldcs_3, ldcs_4, ldcs_5, ldcs_7, sls.eq_1, slc.eq_1, pfL, hdC, tlC, l11B, l11L, inB, bodyL, Tryd.f11, q8, q11, q13, b8, bu, ii, bv, hk, hc, hw1, hj, hj', c1, c3, tbl11, G50, pureH, hin1, hin3, y1, y3, hA, hE, hB, hL, hL', hLi]
          exact ⟨by omega, keep11.mk (by simp [up]) (by simp [up]) (by simp [up]) (by simp [up]) (by simp [up]) (by simp [up]) (by simp [up]) (by simp [up]), by rw [hr]; exact hone⟩
        · have hr2 : lj.take 1 = lj := List.take_of_length_le (by omega)
          have hLi : ¬ (1 : Int) < (lj.length : Int) := by omega
          simp [evs, aeval, binS, cx_ti, cx_G, cx_pf, cx_tw, ti, globS, glob, ldcs_1, ldcs_2, ldcs_3, ldcs_4, ldcs_5, ldcs_7, sls.eq_1, slc.eq_1, pfL, hdC, tlC, l11B, l11L, inB, bodyL, Tryd.f11, q8, q11, q13, b8, bu, ii, bv, hk, hc, hw1, hj, hj', t1, t2, t3, c1, c3, tbl11, G50, pureH, hin1, hin3, y1, y3, hA, hE, hB, hL, hLi]
          exact ⟨keep11.mk (by simp [up]) (by simp [up]) (by simp [up]) (by simp [up]) (by simp [up]) (by simp [up]) (by simp [up]) (by simp [up]), by rw [hr, hr2]; exact hcr⟩
      · have hr : frL (bareOf v) (aggOf v) v.v.en.each v.ot j lj = v.ot.getD j [] := by
          unfold frL
          rw [if_neg (fun h => by rcases h with h | h; exact hA h; exact hE h), if_neg hB]
        obtain ⟨z1, z2, z3, z4, z5⟩ := sl_is ao4
        by_cases hO : j < v.ot.length
        · have hO' : (j : Int) < (v.ot.length : Int) := by omega
          rcases sls_at ao4 with ⟨h0, _⟩ | ⟨id2, off2, k2, rfl, hk2, ho2, hat2⟩
          · rw [h0] at hO; simp at hO
          obtain ⟨c2, hc2, hcr2⟩ := hat2 j hO
          replace hk2 := (hag id2 (lt_of hk2 fr)).trans hk2
          have hw2 : off2 + (j + 1) ≤ k2.cells.length := by omega
          have hg2 : v.ot.getD j [] = v.ot[j] := by simp [List.getD_eq_getElem?_getD, hO]
          simp [evs, aeval, binS, cx_ti, cx_G, cx_pf, cx_tw, ti, globS, glob, ldcs_1, ldcs_2, ldcs_3, ldcs_4, ldcs_5, ldcs_7, sls.eq_1, slc.eq_1, pfL, hdC, tlC, l11B, l11L, inB, bodyL, Tryd.f11, q4, q8, q11, q13, b8, bu, ii, bv, hk, hc, hw1, hj, hj', t3, c1, c3, tbl11, G50, pureH, hin1, hin3, y1, y3, hA, hE, hB, hO, hO', hk2, hc2, hw2]
          exact ⟨keep11.mk (by simp [up]) (by simp [up, q4]) (by simp [up]) (by simp [up]) (by simp [up]) (by simp [up]) (by simp [up]) (by simp [up]), by rw [hr, hg2]; exact hcr2⟩
        · have hg2 : v.ot.getD j [] = [] := by rw [List.getD_eq_getElem?_getD, List.getElem?_eq_none (by omega)]; rfl
          simp [evs, aeval, binS, cx_ti, cx_G, cx_pf, cx_tw, ti, globS, glob, ldcs_1, ldcs_2, ldcs_3, ldcs_4, ldcs_5, ldcs_7, sls.eq_1, slc.eq_1, pfL, hdC, tlC, l11B, l11L, inB, bodyL, Tryd.f11, q4, q8, q11, q13, b8, bu, ii, bv, hk, hc, hw1, hj, hj', t3, c1, c3, z1, z2, z3, tbl11, G50, pureH, hin1, hin3, y1, y3, hA, hE, hB, hO]
          exact ⟨keep11.mk (by simp [up]) (by simp [up, q4]) (by simp [up]) (by simp [up]) (by simp [up]) (by simp [up]) (by simp [up]) (by simp [up]), by rw [hr, hg2]; rfl⟩
/-- How far the loop has come. -/
structure D11 (v : Eq11) (hB : Heap) (nB j i : Nat) (s : St) : Prop where
  aB : A11 v ⟨s.e, hB, nB⟩
  uB : HasU v ⟨s.e, hB, nB⟩
  ls : ELs hB s.h nB s.n (s.e 12) (frTo (bareOf v) (aggOf v) v.v.en.each v.ot v.v.en.ls j)
  ag : agree nB hB s.h
  e13 : s.e 13 = ii i
  nn : nB ≤ s.n
  fr : Fresh s.n s.h
theorem D11.a {hB : Heap} {nB j i : Nat} {s : St} (d : D11 v hB nB j i s) : A11 v s := d.aB.up (fun _ _ => rfl) d.ag d.fr
theorem D11.u {hB : Heap} {nB j i : Nat} {s : St} (d : D11 v hB nB j i s) : HasU v s := d.uB.up (s := ⟨s.e, hB, nB⟩) d.aB.frs rfl d.ag
theorem D11.keep {hB : Heap} {nB j j' i i' : Nat} {s s' : St} (d : D11 v hB nB j i s) (he : ∀ i ∈ [2, 4, 5, 6, 8, 11], s'.e i = s.e i) (hl : ELs hB s'.h nB s'.n (s'.e 12) (frTo (bareOf v) (aggOf v) v.v.en.each v.ot v.v.en.ls j')) (h13 : s'.e 13 = ii i') (ha : agree nB hB s'.h) (hn : s.n ≤ s'.n) (hf : Fresh s'.n s'.h) : D11 v hB nB j' i' s' := by
  obtain ⟨aB, uB, ls, ag, e13, nn, fr⟩ := d
  exact ⟨aB.up (s' := ⟨s'.e, hB, nB⟩) (fun i hi => he i (by simp at hi ⊢; omega)) (agree_refl _ _) aB.frs, uB.up (s' := ⟨s'.e, hB, nB⟩) aB.frs (he 11 (by simp)) (agree_refl _ _), hl, ha, h13, by omega, hf⟩
theorem law11d (w : W11 v) (hb : beyondV v.v.en.ls = false) (e : Nat → AV) (h' : Heap) (n' : Nat) (b : A11 v ⟨e, h', n'⟩) (u : HasU v ⟨e, h', n'⟩) {Q : Ex → St → Prop} :
    awp (cx S8 (pfL tbl11)) (hdC 2 (tlC 4 (Tryd.f11.body.getD .skip))) (thenQ (D11 v h' n' v.v.en.ls.length v.v.en.ls.length) Q) ⟨e, h', n'⟩ := by
  have fr := b.frs
  simp only [] at fr
  have e0 : hdC 2 (tlC 4 (Tryd.f11.body.getD .skip)) = .seq (hdC 1 (tlC 4 (Tryd.f11.body.getD .skip))) (.seq (hdC 1 (hdC 1 (tlC 5 (Tryd.f11.body.getD .skip)))) (.block 0 (.loop l11L))) := rfl
  rw [e0]
  simp [evs, aeval, binS, cx_ti, cx_G, cx_pf, cx_tw, ti, globS, glob, ldcs_1, ldcs_2, ldcs_3, ldcs_4, ldcs_5, ldcs_7, sls.eq_1, slc.eq_1, pfL, hdC, tlC, Tryd.f11]
  refine awp_loop (fun s => ∃ j : Nat, j ≤ v.v.en.ls.length ∧ D11 v h' n' j j s) (fun s => v.v.en.ls.length - (s.e 13).i.toNat) ⟨0, by omega, b.up (by simp [up]) (agree_refl _ _) fr, u.up fr (by simp [up]) (agree_refl _ _), .inl ⟨rfl, by simp [up]⟩, agree_refl _ _, by simp [up, ii], by simp, fr⟩ ?_
  rintro e2 h2 n2 ⟨j, hj, d⟩
  have d0 := d
  have a := d.a
  obtain ⟨_, _, ls, ag, e13, nn, fr2⟩ := d
  obtain ⟨_, _, _, _, ⟨m8, a8, q8, b8, r8⟩, _⟩ := a
  simp only [] at q8 b8 r8 fr2 e13 ls ag nn
  obtain ⟨s1, s2, s3, s4, s5⟩ := sl_is r8
  have hw := wrap_nat (j := j) (by have := w.w.w1; omega)
  by_cases hlt : j < v.v.en.ls.length
  · have hlt' : (j : Int) < (v.v.en.ls.length : Int) := by omega
    refine awp_cut 1 _ _ (R := fun s => D11 v h' n' j j s) ?_ fun e3 h3 n3 a3 => ?_
    · simp [evs, aeval, binS, cx_ti, cx_G, cx_pf, cx_tw, ti, globS, glob, ldcs_1, ldcs_2, ldcs_3, ldcs_4, ldcs_5, ldcs_7, sls.eq_1, slc.eq_1, pfL, hdC, tlC, l11L, bodyL, Tryd.f11, q8, b8, e13, ii, s1, s2, s3, hlt, hlt']
      exact d0.keep (by simp [up]) (by simpa [up] using ls) (by simp [up, e13, ii]) ag (Nat.le_refl _) fr2
    refine awp_cut 1 _ _ (R := fun s => D11 v h' n' (j + 1) j s) ?_ fun e4 h4 n4 a4 => ?_
    · have e1' : hdC 1 (tlC 1 l11L) = .block 1 l11B := rfl
      rw [e1', awp_block]
      refine awp_cut 2 _ _ (l11ch w hb e3 h' n' h3 n3 a3.aB a3.uB a3.ag hlt a3.e13) fun e4 h4 n4 ⟨x1, x2, hk, hc⟩ => ?_
      simp only [] at x1 x2 hk hc
      subst x1 x2
      have k2 := hk 2 (by simp)
      have k4 := hk 4 (by simp)
      have k5 := hk 5 (by simp)
      have k6 := hk 6 (by simp)
      have k8 := hk 8 (by simp)
      have k11 := hk 11 (by simp)
      have k12 := hk 12 (by simp)
      have k13 := (hk 13 (by simp)).trans a3.e13
      have bls := a3.ls
      have bag := a3.ag
      have bnn := a3.nn
      have bfr := a3.fr
      simp only [] at bls bag bnn bfr
      rw [← k12] at bls
      obtain ⟨c, q14⟩ : ∃ x, e4 14 = x := ⟨_, rfl⟩
      obtain ⟨z, q12⟩ : ∃ x, e4 12 = x := ⟨_, rfl⟩
      rw [q14] at hc
      rw [q12] at bls
      obtain ⟨t1, t2, t3, t4, t5⟩ := sl_is hc
      have hsn := frTo_succ (bare := bareOf v) (agg := aggOf v) (each := v.v.en.each) (other := v.ot) (ls := v.v.en.ls) j
      have hln := frTo_len (bare := bareOf v) (agg := aggOf v) (each := v.v.en.each) (other := v.ot) (ls := v.v.en.ls) j
      have b1 : (j + 1) * 24 ≤ 140737488355328 := by have := w.w.e1; omega
      have b2 : j + 1 ≤ 9223372036854775807 := by omega
      generalize frTo (bareOf v) (aggOf v) v.v.en.each v.ot v.v.en.ls j = l at *
      rcases bls with ⟨rfl, rfl⟩ | ⟨wl, ul, cs, rfl, hw1, hw2, hw3, hcl, hat⟩
      · simp only [List.length_nil] at hln
        subst hln
        simp [evs, aeval, binS, cx_ti, cx_G, cx_pf, cx_tw, ti, globS, glob, ldcs_1, ldcs_2, ldcs_3, ldcs_4, ldcs_5, ldcs_7, sls.eq_1, slc.eq_1, pfL, hdC, tlC, l11B, l11L, inB, bodyL, Tryd.f11, q12, q14, t4, t5]
        refine a3.keep (by simp [up, k2, k4, k5, k6, k8, k11]) ?_ (by simp [up, k13, ii]) (agree_trans bag (show agree n4 h4 (up (up h4 n4 _) (n4 + 1) _) by simp [agree_up, agree_refl]) bnn) (by simp) (by simp [fresh_up, bfr.add])
        rw [hsn]
        refine .inr ⟨n4 + 1, 0, [c], by simp [up], by simp [up], by omega, by simp, by simp, fun i hi => ?_⟩
        obtain rfl : i = 0 := by simp at hi; omega
        exact ⟨c, rfl, by simpa using hc⟩
      · have z1 : ¬ wl = n4 := by omega
        have z2 : wl < n4 + 2 := by omega
        have b3 : cs.length = j := by omega
        simp [evs, aeval, binS, cx_ti, cx_G, cx_pf, cx_tw, ti, globS, glob, ldcs_1, ldcs_2, ldcs_3, ldcs_4, ldcs_5, ldcs_7, sls.eq_1, slc.eq_1, pfL, hdC, tlC, l11B, l11L, inB, bodyL, Tryd.f11, q12, q14, t4, t5, hln, hw1, z1, b1, b2, b3]
        refine a3.keep (by simp [up, k2, k4, k5, k6, k8, k11]) ?_ (by simp [up, k13, ii]) (fun i hi => ?_) (by simp) (show Fresh (n4 + 2) (up (up h4 n4 _) wl _) from (fresh_up (by omega) _).2 ((fresh_up (by omega) _).2 (bfr.add 2)))
        · rw [hsn]
          refine .inr ⟨wl, ul + 1, cs ++ [c], by simp [up, hln], by simp only []; rw [up_same], hw2, by simp only []; omega, by simp [hcl], els_snoc hcl hat hc⟩
        · simp only []
          rw [up_ne _ _ (by omega), up_ne _ _ (by omega)]
          exact bag i hi
    · have q13 := a4.e13
      have bls := a4.ls
      simp only [] at q13 bls
      simp [evs, aeval, binS, cx_ti, cx_G, cx_pf, cx_tw, ti, globS, glob, ldcs_1, ldcs_2, ldcs_3, ldcs_4, ldcs_5, ldcs_7, sls.eq_1, slc.eq_1, pfL, hdC, tlC, l11L, bodyL, Tryd.f11, q13, e13, ii, hw]
      exact ⟨⟨j + 1, by omega, a4.keep (by simp [up]) (by simpa [up] using bls) (by simp [up, ii]) a4.ag (Nat.le_refl _) a4.fr⟩, by omega⟩
  · obtain rfl : j = v.v.en.ls.length := by omega
    simp [evs, aeval, binS, cx_ti, cx_G, cx_pf, cx_tw, ti, globS, glob, ldcs_1, ldcs_2, ldcs_3, ldcs_4, ldcs_5, ldcs_7, sls.eq_1, slc.eq_1, pfL, hdC, tlC, l11L, bodyL, Tryd.f11, q8, b8, e13, ii, s1, s2, s3]
    exact d0.keep (by simp [up]) (by simpa [up] using ls) (by simp [up, e13, ii]) ag (Nat.le_refl _) fr2
/-- The list of the one that is gone through, put in. -/
theorem law11e (w : W11 v) (hB : Heap) (nB i0 : Nat) (e : Nat → AV) (h' : Heap) (n' : Nat) (d : D11 v hB nB v.v.en.ls.length i0 ⟨e, h', n'⟩) {Q : Ex → St → Prop} :
    awp (cx S8 (pfL tbl11)) (hdC 1 (tlC 6 (Tryd.f11.body.getD .skip))) (thenQ (fun s => A11 v s ∧ rd dEss s.h (s.e 12) = some (frA (bareOf v) (aggOf v) v.v.en.each v.ot v.v.en.ls)) Q) ⟨e, h', n'⟩ := by
  have b0 := d.a
  have bO := d.aB.ao4
  have hf := d.aB.frs
  have ls := d.ls
  have ag := d.ag
  obtain ⟨_, ao4, _, _, ⟨m8, a8, q8, b8, r8⟩, fr⟩ := d.a
  obtain ⟨mu, a1, a2, a3, q11, bu, u1, u3⟩ := d.u
  simp only [] at ao4 q8 b8 r8 fr q11 bu u1 u3 bO hf ls ag
  obtain ⟨oa, q4⟩ : ∃ x, e 4 = x := ⟨_, rfl⟩
  obtain ⟨z, q12⟩ : ∃ x, e 12 = x := ⟨_, rfl⟩
  rw [q4] at ao4 bO
  rw [q12] at ls
  have y1 := w.u1
  have y3 := w.u3
  have hin1 : ∀ i : Int, deIsI h' [a1, .v (.int .i64 i)] = some (bareOf v, i) := fun i => by simp only [deIsI, u1, Option.map_some]
  have hin3 : ∀ i : Int, deIsI h' [a3, .v (.int .i64 i)] = some (aggOf v, i) := fun i => by simp only [deIsI, u3, Option.map_some]
  have c1 := (sl_is u1).2.2.1
  have c3 := (sl_is u3).2.2.1
  have hl12 := ls.rd ag hf
  obtain ⟨p1, p2, p3, p4, p5⟩ := sl_is hl12
  obtain ⟨o1, o2, o3, o4, o5⟩ := sl_is ao4
  rw [frTo_len] at p2
  have fin : frE (bareOf v) (aggOf v) v.v.en.each v.ot v.v.en.ls = false → rd dEss h' z = some (frA (bareOf v) (aggOf v) v.v.en.each v.ot v.v.en.ls) := fun hE => by
    rw [frA, hE]
    exact hl12
  by_cases d1 : 0 ≤ v.v.en.each
  · by_cases d2 : v.v.en.each < (v.v.en.ls.length : Int)
    · by_cases d3 : v.v.en.each ∈ bareOf v
      · have hE : frE (bareOf v) (aggOf v) v.v.en.each v.ot v.v.en.ls = false := by simp [frE, d3]
        simp [evs, aeval, binS, cx_ti, cx_G, cx_pf, cx_tw, ti, globS, glob, ldcs_1, ldcs_2, ldcs_3, ldcs_4, ldcs_5, ldcs_7, sls.eq_1, slc.eq_1, pfL, hdC, tlC, Tryd.f11, q4, q8, q11, q12, b8, bu, ii, bv, p1, p2, p3, o1, o2, o3, c1, c3, tbl11, G50, pureH, hin1, hin3, y1, y3, d1, d2, d3]
        exact ⟨b0.up (by simp [up, q4]) (agree_refl _ _) fr, fin hE⟩
      · by_cases d4 : v.v.en.each ∈ aggOf v
        · have hE : frE (bareOf v) (aggOf v) v.v.en.each v.ot v.v.en.ls = false := by simp [frE, d4]
          simp [evs, aeval, binS, cx_ti, cx_G, cx_pf, cx_tw, ti, globS, glob, ldcs_1, ldcs_2, ldcs_3, ldcs_4, ldcs_5, ldcs_7, sls.eq_1, slc.eq_1, pfL, hdC, tlC, Tryd.f11, q4, q8, q11, q12, b8, bu, ii, bv, p1, p2, p3, o1, o2, o3, c1, c3, tbl11, G50, pureH, hin1, hin3, y1, y3, d1, d2, d3, d4]
          exact ⟨b0.up (by simp [up, q4]) (agree_refl _ _) fr, fin hE⟩
        · by_cases d5 : v.v.en.each < (v.ot.length : Int)
          · have hE : frE (bareOf v) (aggOf v) v.v.en.each v.ot v.v.en.ls = true := by simp [frE, d1, d2, d3, d4, d5]
            obtain ⟨m, hm⟩ : ∃ m : Nat, v.v.en.each = m := ⟨v.v.en.each.toNat, by omega⟩
            have hm1 : m < v.v.en.ls.length := by omega
            have hm2 : m < v.ot.length := by omega
            rcases sls_at bO with ⟨h0, _⟩ | ⟨id2, off2, k2, rfl, hk2, ho2, hat2⟩
            · rw [h0] at hm2; simp at hm2
            obtain ⟨c2, hc2, hcr2⟩ := hat2 m hm2
            have hk2' : h' id2 = some k2 := (ag id2 (lt_of hk2 hf)).trans hk2
            have hid2 : id2 < nB := lt_of hk2 hf
            have hw2 : off2 + (m + 1) ≤ k2.cells.length := by omega
            have hg2 : v.ot.getD m [] = v.ot[m] := by simp [List.getD_eq_getElem?_getD, hm2]
            obtain ⟨t1, t2, t3, t4, t5⟩ := sl_is hcr2
            have hfA : frA (bareOf v) (aggOf v) v.v.en.each v.ot v.v.en.ls = (frTo (bareOf v) (aggOf v) v.v.en.each v.ot v.v.en.ls v.v.en.ls.length).set m v.ot[m] := by
              rw [frA, hE, if_pos rfl, hm]
              simp only [Int.toNat_natCast]
              rw [hg2]
            rw [hfA]
            have hln := frTo_len (bare := bareOf v) (agg := aggOf v) (each := v.v.en.each) (other := v.ot) (ls := v.v.en.ls) v.v.en.ls.length
            rw [hm] at b8 d2 d3 d4 d5 hln ls hl12 ⊢
            generalize frTo (bareOf v) (aggOf v) (m : Int) v.ot v.v.en.ls v.v.en.ls.length = l at *
            rcases ls with ⟨rfl, rfl⟩ | ⟨wl, ul, cs, rfl, hw1, hw3, hw4, hcl, hat⟩
            · simp only [List.length_nil] at hln; omega
            have z1 : ¬ wl = id2 := by omega
            have z2 : ¬ id2 = wl := by omega
            have hcm : m < cs.length := by omega
            simp [evs, aeval, binS, cx_ti, cx_G, cx_pf, cx_tw, ti, globS, glob, ldcs_1, ldcs_2, ldcs_3, ldcs_4, ldcs_5, ldcs_7, sls.eq_1, slc.eq_1, pfL, hdC, tlC, Tryd.f11, q4, q8, q11, q12, b8, bu, ii, bv, hln, o1, o2, o3, c1, c3, tbl11, G50, pureH, hin1, hin3, y1, y3, d2, d3, d4, d5, hk2', hc2, hw2, hw1, z1, z2, hm1, hm2, t4, t5, hcm, p3]
            refine ⟨by omega, d.aB.up (by simp [up, q4]) (fun i hi => ?_) (show Fresh (n' + 1) (up h' wl _) from (fresh_up (by omega) _).2 (fr.add 1)), ?_⟩
            · have hi' : i < nB := hi
              simp only []
              rw [up_ne _ _ (by omega)]
              exact ag i hi
            · have hE2 : ELs hB (up h' wl (some ⟨cs.set m c2, ul, true, 1⟩)) nB (n' + 1) (.s wl ul 0 v.v.en.ls.length) (l.set m v.ot[m]) := .inr ⟨wl, ul, cs.set m c2, by rw [List.length_set, hln], up_same _ _ _, hw3, by omega, by rw [List.length_set, List.length_set, hcl], els_set hcl (by omega) hat hcr2⟩
              exact hE2.rd (fun i hi => by rw [up_ne _ _ (by omega)]; exact ag i hi) hf
          · have hE : frE (bareOf v) (aggOf v) v.v.en.each v.ot v.v.en.ls = false := by simp [frE, d5]
            simp [evs, aeval, binS, cx_ti, cx_G, cx_pf, cx_tw, ti, globS, glob, ldcs_1, ldcs_2, ldcs_3, ldcs_4, ldcs_5, ldcs_7, sls.eq_1, slc.eq_1, pfL, hdC, tlC, Tryd.f11, q4, q8, q11, q12, b8, bu, ii, bv, p1, p2, p3, o1, o2, o3, c1, c3, tbl11, G50, pureH, hin1, hin3, y1, y3, d1, d2, d3, d4, d5]
            exact ⟨b0.up (by simp [up, q4]) (agree_refl _ _) fr, fin hE⟩
    · have hE : frE (bareOf v) (aggOf v) v.v.en.each v.ot v.v.en.ls = false := by simp [frE, d2]
      simp [evs, aeval, binS, cx_ti, cx_G, cx_pf, cx_tw, ti, globS, glob, ldcs_1, ldcs_2, ldcs_3, ldcs_4, ldcs_5, ldcs_7, sls.eq_1, slc.eq_1, pfL, hdC, tlC, Tryd.f11, q4, q8, q11, q12, b8, bu, ii, bv, p1, p2, p3, o1, o2, o3, c1, c3, tbl11, d1, d2]
      exact ⟨b0.up (by simp [up, q4]) (agree_refl _ _) fr, fin hE⟩
  · have hE : frE (bareOf v) (aggOf v) v.v.en.each v.ot v.v.en.ls = false := by simp [frE, d1]
    simp [evs, aeval, binS, cx_ti, cx_G, cx_pf, cx_tw, ti, globS, glob, ldcs_1, ldcs_2, ldcs_3, ldcs_4, ldcs_5, ldcs_7, sls.eq_1, slc.eq_1, pfL, hdC, tlC, Tryd.f11, q4, q8, q11, q12, b8, bu, ii, bv, p1, p2, p3, o1, o2, o3, c1, c3, tbl11, d1]
    exact ⟨b0.up (by simp [up, q4]) (agree_refl _ _) fr, fin hE⟩
theorem law11f (e : Nat → AV) (h' : Heap) (n' : Nat) (b : A11 v ⟨e, h', n'⟩) (r : rd dEss h' (e 12) = some (frA (bareOf v) (aggOf v) v.v.en.each v.ot v.v.en.ls)) {Q : Ex → St → Prop} :
    awp (cx S8 (pfL tbl11)) (hdC 1 (tlC 7 (Tryd.f11.body.getD .skip))) (thenQ (fun s => A11 v s ∧ HasE s.h (s.e 15) (en11 v)) Q) ⟨e, h', n'⟩ := by
  have b0 := b
  obtain ⟨_, _, _, _, ⟨m8, a8, q8, b8, r8⟩, fr⟩ := b
  simp only [] at q8 b8 r8 fr
  obtain ⟨z, q12⟩ : ∃ x, e 12 = x := ⟨_, rfl⟩
  rw [q12] at r
  obtain ⟨o1, o2, o3, o4, o5⟩ := sl_is r
  simp [evs, aeval, binS, cx_ti, cx_G, cx_pf, cx_tw, ti, globS, glob, ldcs_1, ldcs_2, ldcs_3, ldcs_4, ldcs_5, ldcs_7, sls.eq_1, slc.eq_1, pfL, hdC, tlC, Tryd.f11, q8, q12, b8, o4, o5]
  have g : ∀ x1 x2 : Option Blk, agree n' h' (up (up h' n' x1) n' x2) := fun x1 x2 => by simp [agree_up, agree_refl]
  exact ⟨b0.up (by simp [up]) (g _ _) (by simp [fresh_up, fr.add]), n', z, by simp [up], by simp [up, en11, frEn], rd_agr fr r _ (g _ _)⟩
theorem law11g (w : W11 v) (e : Nat → AV) (h' : Heap) (n' : Nat) (b : A11 v ⟨e, h', n'⟩) (r : HasE h' (e 15) (en11 v)) {Q : Ex → St → Prop} :
    awp (cx S8 (pfL tbl11)) (hdC 1 (tlC 8 (Tryd.f11.body.getD .skip))) (thenQ (fun s => A11 v s ∧ HasE s.h (s.e 15) (en11 v) ∧ HasP s 16 n' s.n (compP v.v.sc (vars v.v.q.items) v.v.t)) Q) ⟨e, h', n'⟩ := by
  have b0 := b
  obtain ⟨at2, _, ⟨m4, a4, q4, b4, r4⟩, ⟨m5, a5, x5, y5, q5, b5, r5, r5', r5''⟩, _, fr⟩ := b
  simp only [] at at2 q4 b4 r4 q5 b5 r5 r5' r5'' fr
  obtain ⟨ta, q2⟩ : ∃ x, e 2 = x := ⟨_, rfl⟩
  rw [q2] at at2
  have s3 := (sl_is at2).2.2.1
  have o4 := (sl_is r4).2.2.2.1
  have o5 := (sl_is r5).2.2.2.1
  have o5' := (sl_is r5').2.2.2.1
  have o5'' := (sl_is r5'').2.2.2.1
  simp [evs, aeval, binS, cx_ti, cx_G, cx_pf, cx_tw, ti, globS, glob, ldcs_1, ldcs_2, ldcs_3, ldcs_4, ldcs_5, ldcs_7, sls.eq_1, slc.eq_1, pfL, hdC, tlC, Tryd.f11, q2, q4, q5, b4, b5, s3, o4, o5, o5', o5'', tbl11]
  refine (acall_any (S := [7]) (by simp [S8]) (c20 r4 (deQ_has (q := v.v.q) r5 r5' r5'') at2 w.w.it w.w.t1 w.w.tl ⟨by have := w.w.s1; unfold big; omega, fun t ht => by have := w.w.s2 t ht; unfold big; omega⟩ fr)).mono ?_
  rintro z h2 n2 ⟨a1, a2, a3, a4⟩
  obtain ⟨ca, la, rfl, k1, k2, k3, k4, k5, k6⟩ := a4.is
  have ho : ∀ b1 b2 : Option Blk, OwnQ (up (up h2 n2 b1) n2 b2) n' (n2 + 2) (.g [ca, la]) (compP v.v.sc (vars v.v.q.items) v.v.t) := fun b1 b2 => a4.up (fun q h1 h2 => by rw [up_ne _ _ (by omega), up_ne _ _ (by omega)]) (Nat.le_refl _) (by omega)
  simp [evs, aeval, binS, cx_ti, cx_G, cx_pf, cx_tw, ti, globS, glob, ldcs_1, ldcs_2, ldcs_3, ldcs_4, ldcs_5, ldcs_7, sls.eq_1, slc.eq_1, pfL, k1, k2, k3, k4, k5, k6]
  have hg2 : ∀ b1 b2 : Option Blk, agree n' h' (up (up h2 n2 b1) n2 b2) := fun b1 b2 => by simp [agree_up, a1, a3]
  exact ⟨b0.up (by simp [up, q2]) (hg2 _ _) (by simp [fresh_up, a2.add]), by simpa [up] using r.up fr (hg2 _ _), n2, ca, la, by simp [up], by omega, by simp, by simp, by simp [up], ho _ _⟩
/-- The program's answer, and its own. -/
def P11 (v : Eq11) : Pr := compP v.v.sc (vars v.v.q.items) v.v.t
theorem law11h (w : W11 v) (hb : beyondV v.v.en.ls = false) (p hi : Nat) (e : Nat → AV) (h' : Heap) (n' : Nat) (b : A11 v ⟨e, h', n'⟩) (r : HasE h' (e 15) (en11 v)) (c : HasP ⟨e, h', n'⟩ 16 p hi (P11 v)) {Q : Ex → St → Prop} :
    awp (cx S8 (pfL tbl11)) (hdC 1 (tlC 9 (Tryd.f11.body.getD .skip))) (thenQ (fun s => A11 v s ∧ HasE s.h (s.e 15) (en11 v) ∧ HasP s 16 p hi (P11 v) ∧ HasV s 17 (runV (P11 v) v.v.en).1 ∧ s.e 18 = ii (runV (P11 v) v.v.en).2) Q) ⟨e, h', n'⟩ := by
  have b0 := b
  have c0 := c
  obtain ⟨_, _, _, _, ⟨m7, a7, q7, b7, r7⟩, fr⟩ := b
  obtain ⟨m9, ca, cl, q9, j1, j2, j3, b9, o9⟩ := c
  simp only [] at q7 b7 r7 fr j3 q9 b9 o9
  have o7 := (sl_is r7).2.2.2.1
  obtain ⟨da, db, hz, z1, z2⟩ := dePr_out o9.rd
  obtain ⟨rfl, rfl⟩ : ca = da ∧ cl = db := by injection hz with hz; injection hz with h1 h2; injection h2 with h2 _; exact ⟨h1, h2⟩
  obtain ⟨u1, u2, u3, u4, u5⟩ := sl_is z1
  obtain ⟨v1, v2, v3, v4, v5⟩ := sl_is z2
  have hde : deR h' [.g [ca, cl], .g [a7, .v (.int .i64 v.v.en.each), .v (.int .i64 v.v.en.pos)]] = some (P11 v, v.v.en) := by
    simp only [deR, dePr_in z1 z2, deEn_has r7]
  have hok : okR (P11 v, v.v.en) := ⟨w.w.pr, (w.w.eq hb).en⟩
  generalize hrv : runV (P11 v) v.v.en = y at *
  simp [evs, aeval, binS, cx_ti, cx_G, cx_pf, cx_tw, ti, globS, glob, ldcs_1, ldcs_2, ldcs_3, ldcs_4, ldcs_5, ldcs_7, sls.eq_1, slc.eq_1, pfL, hdC, tlC, Tryd.f11, q7, b7, o7, q9, b9, u1, u2, u3, u4, v1, v2, v3, v4, tbl11, G29, pureH, hde, hok, hrv, runA, vv]
  have g : ∀ x1 x2 : Option Blk, agree n' h' (up (up h' n' x1) n' x2) := fun x1 x2 => by simp [agree_up, agree_refl]
  exact ⟨b0.up (by simp [up]) (g _ _) (by simp [fresh_up, fr.add]), by simpa [up] using r.up fr (g _ _), c0.up (by simp [up]) (fun q _ hq => g _ _ q (by simp only [] at *; omega)) (by simp), ⟨n', by simp [up], by simp [up]⟩, by simp [up, ii]⟩
theorem law11i (w : W11 v) (hb : beyondV v.v.en.ls = false) (hb2 : beyondV v.ot = false) (p hi : Nat) (y : V × Int) (e : Nat → AV) (h' : Heap) (n' : Nat) (b : A11 v ⟨e, h', n'⟩) (r : HasE h' (e 15) (en11 v)) (c : HasP ⟨e, h', n'⟩ 16 p hi (P11 v)) (d : HasV ⟨e, h', n'⟩ 17 y.1) (q18 : e 18 = ii y.2) {Q : Ex → St → Prop} :
    awp (cx S8 (pfL tbl11)) (hdC 1 (tlC 10 (Tryd.f11.body.getD .skip))) (thenQ (fun s => A11 v s ∧ HasE s.h (s.e 15) (en11 v) ∧ HasV s 17 y.1 ∧ s.e 18 = ii y.2 ∧ HasV s 19 (runV (P11 v) v.v.en).1 ∧ s.e 20 = ii (runV (P11 v) v.v.en).2) Q) ⟨e, h', n'⟩ := by
  have b0 := b
  have r0 := r
  obtain ⟨_, _, _, _, _, fr⟩ := b
  obtain ⟨m7, a7, q7, b7, r7⟩ := r
  obtain ⟨m9, ca, cl, q9, j1, j2, j3, b9, o9⟩ := c
  simp only [] at q7 b7 r7 fr j3 q9 b9 o9
  have o7 := (sl_is r7).2.2.2.1
  obtain ⟨da, db, hz, z1, z2⟩ := dePr_out o9.rd
  obtain ⟨rfl, rfl⟩ : ca = da ∧ cl = db := by injection hz with hz; injection hz with h1 h2; injection h2 with h2 _; exact ⟨h1, h2⟩
  obtain ⟨u1, u2, u3, u4, u5⟩ := sl_is z1
  obtain ⟨v1, v2, v3, v4, v5⟩ := sl_is z2
  have hde : deR h' [.g [ca, cl], .g [a7, .v (.int .i64 (en11 v).each), .v (.int .i64 (en11 v).pos)]] = some (P11 v, en11 v) := by
    simp only [deR, dePr_in z1 z2, deEn_has r7]
  have hok : okR (P11 v, en11 v) := ⟨w.w.pr, w.en2 hb hb2⟩
  have hre : runV (P11 v) (en11 v) = runV (P11 v) v.v.en := run11 v
  generalize hrv : runV (P11 v) v.v.en = y2 at *
  generalize en11 v = en2 at *
  simp [evs, aeval, binS, cx_ti, cx_G, cx_pf, cx_tw, ti, globS, glob, ldcs_1, ldcs_2, ldcs_3, ldcs_4, ldcs_5, ldcs_7, sls.eq_1, slc.eq_1, pfL, hdC, tlC, Tryd.f11, q7, b7, o7, q9, b9, u1, u2, u3, u4, v1, v2, v3, v4, tbl11, G29, pureH, hde, hok, hre, runA, vv]
  have g : ∀ x1 x2 : Option Blk, agree n' h' (up (up h' n' x1) n' x2) := fun x1 x2 => by simp [agree_up, agree_refl]
  exact ⟨b0.up (by simp [up]) (g _ _) (by simp [fresh_up, fr.add]), by simpa [up, q7] using r0.up fr (g _ _), d.up fr (by simp [up]) (g _ _), by simpa [up] using q18, ⟨n', by simp [up], by simp [up]⟩, by simp [up, ii]⟩
theorem law11j (w : W11 v) (hb : beyondV v.v.en.ls = false) (hb2 : beyondV v.ot = false) (y : V × Int) (e : Nat → AV) (h' : Heap) (n' : Nat) (b : A11 v ⟨e, h', n'⟩) (r : HasE h' (e 15) (en11 v)) (d : HasV ⟨e, h', n'⟩ 17 y.1) (q18 : e 18 = ii y.2) (d2 : HasV ⟨e, h', n'⟩ 19 y.1) (q20 : e 20 = ii y.2) :
    awp (cx S8 (pfL tbl11)) (tlC 11 (Tryd.f11.body.getD .skip)) (finQ (cx S8 (pfL tbl11)) Tryd.f11 fun z _ _ => z = bv true) ⟨e, h', n'⟩ := by
  obtain ⟨at2, _, ⟨m4, a4, q4, b4, r4⟩, ⟨m5, a5, x5, y5, q5, b5, r5, r5', r5''⟩, ⟨m7, a7, q7, b7, r7⟩, fr⟩ := b
  obtain ⟨m8, a8, q8, b8, r8⟩ := r
  obtain ⟨m17, q17, b17⟩ := d
  obtain ⟨m19, q19, b19⟩ := d2
  simp only [] at at2 q4 b4 r4 q5 b5 r5 r5' r5'' q7 b7 r7 fr q8 b8 r8 q17 b17 q19 b19
  obtain ⟨ta, q2⟩ : ∃ x, e 2 = x := ⟨_, rfl⟩
  rw [q2] at at2
  have s3 := (sl_is at2).2.2.1
  have o4 := (sl_is r4).2.2.2.1
  have o5 := (sl_is r5).2.2.2.1
  have o5' := (sl_is r5').2.2.2.1
  have o5'' := (sl_is r5'').2.2.2.1
  have o7 := (sl_is r7).2.2.2.1
  have o8 := (sl_is r8).2.2.2.1
  have hde : de38 h' [.g [a4], .g [a5, .v (.int .i64 v.v.q.mode), .v (.int .i64 v.v.q.after), x5, .v (.int .i64 v.v.q.within), .v (.string v.v.q.par), y5], ta, .g [a7, .v (.int .i64 v.v.en.each), .v (.int .i64 v.v.en.pos)]] = some v.v :=
    de38_in r4 (deQ_has r5 r5' r5'') at2 (deEn_has r7)
  have hde2 : de38 h' [.g [a4], .g [a5, .v (.int .i64 v.v.q.mode), .v (.int .i64 v.v.q.after), x5, .v (.int .i64 v.v.q.within), .v (.string v.v.q.par), y5], ta, .g [a8, .v (.int .i64 (en11 v).each), .v (.int .i64 (en11 v).pos)]] = some ⟨v.v.sc, v.v.q, v.v.t, en11 v⟩ :=
    de38_in (v := ⟨v.v.sc, v.v.q, v.v.t, en11 v⟩) r4 (deQ_has r5 r5' r5'') at2 (deEn_has r8)
  have hok := w.w.eq hb
  have hok2 := w.eq2 hb hb2
  have hev := eval11 v
  obtain ⟨y1, y2⟩ := y
  obtain ⟨k, nn⟩ := y1
  generalize en11 v = en2 at *
  generalize hx : evalV v.v.sc (vars v.v.q.items) v.v.en v.v.t = x at *
  simp only [ii] at q18 q20
  simp only [] at b17 b19
  simp [evs, aeval, binS, cx_ti, cx_G, cx_pf, cx_tw, ti, globS, glob, ldcs_1, ldcs_2, ldcs_3, ldcs_4, ldcs_5, ldcs_7, sls.eq_1, slc.eq_1, pfL, tlC, Tryd.f11, q2, q4, q5, q7, q8, q17, q18, q19, q20, b4, b5, b7, b8, b17, b19, s3, o4, o5, o5', o5'', o7, o8, tbl11, G38, pureH, hde, hde2, hok, hok2, hev, hx, vv, bv, ii]
theorem law11 (e1 : rd dTys h sa = some v.v.sc) (e2 : rd dIts h qa = some v.v.q.items) (e3 : rd dNs h qb = some v.v.q.wh) (e4 : rd dNss h qc = some v.v.q.ret) (e5 : rd dNs h ta = some v.v.t) (e6 : rd dEss h la = some v.v.en.ls) (e7 : rd dEss h oa = some v.ot) (w : W11 v) (hn : Fresh n h) :
    awp (cx S8 (pfL tbl11)) (Tryd.f11.body.getD .skip) (finQ (cx S8 (pfL tbl11)) Tryd.f11 fun z _ _ => z = bv true) ⟨env0 [.g [sa], .g [qa, .v (.int .i64 v.v.q.mode), .v (.int .i64 v.v.q.after), qb, .v (.int .i64 v.v.q.within), .v (.string v.v.q.par), qc], ta, .g [la, .v (.int .i64 v.v.en.each), .v (.int .i64 v.v.en.pos)], oa], roH h, n⟩ := by
  refine awp_cut 2 _ _ (law11a e1 e2 e3 e4 e5 e6 e7 w hn _ rfl rfl rfl rfl rfl) fun x1 h1 n1 ⟨b1, hb, hb2⟩ => ?_
  refine awp_cut 1 _ _ (law11b x1 h1 n1 b1) fun x2 h2 n2 b2 => ?_
  refine awp_cut 1 _ _ (law11c w x2 h2 n2 b2) fun x3 h3 n3 ⟨b3, u3⟩ => ?_
  refine awp_cut 2 _ _ (law11d w hb x3 h3 n3 b3 u3) fun x4 h4 n4 d4 => ?_
  refine awp_cut 1 _ _ (law11e w h3 n3 _ x4 h4 n4 d4) fun x5 h5 n5 ⟨b5, r5⟩ => ?_
  refine awp_cut 1 _ _ (law11f x5 h5 n5 b5 r5) fun x6 h6 n6 ⟨b6, r6⟩ => ?_
  refine awp_cut 1 _ _ (law11g w x6 h6 n6 b6 r6) fun x7 h7 n7 ⟨b7, r7, c7⟩ => ?_
  refine awp_cut 1 _ _ (law11h w hb n6 n7 x7 h7 n7 b7 r7 c7) fun x8 h8 n8 ⟨b8, r8, c8, d8, q8⟩ => ?_
  refine awp_cut 1 _ _ (law11i w hb hb2 n6 n7 _ x8 h8 n8 b8 r8 c8 d8 q8) fun x9 h9 n9 ⟨b9, r9, d9, q9, d9', q9'⟩ => ?_
  exact law11j w hb hb2 _ x9 h9 n9 b9 r9 d9 q9 d9' q9'
end
end Go.Proofs.YtkfphaphiikloaaDoor
