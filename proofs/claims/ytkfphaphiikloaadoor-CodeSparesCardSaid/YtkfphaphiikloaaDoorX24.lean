/-
  CodeSpares, PART E: columns, all looked at; do they share nothing? (the law's own)
-/
import Derived.Test.YtkfphaphiikloaaDoorX23
import Derived.Test.YtkfphaphiikloaaDoorX14
set_option linter.unusedSimpArgs false
set_option linter.unusedVariables false
set_option linter.constructorNameAsVariable false
namespace Go.Proofs.YtkfphaphiikloaaDoor
open Go Go.Eng

theorem row1 {es : List AV} {m : Nat} {v : AV} (h : row 1 es m = [v]) : ∃ hm : m < es.length, es[m] = v := by
  unfold row at h
  rw [Nat.mul_one] at h
  by_cases hm : m < es.length
  · rw [List.drop_eq_getElem_cons hm, List.take_succ_cons, List.take_zero] at h
    exact ⟨hm, List.cons.inj h |>.1⟩
  · rw [List.drop_eq_nil_of_le (by omega), List.take_nil] at h
    cases h
section
set_option maxRecDepth 100000
set_option maxHeartbeats 4000000
variable {A : Ap} {h0 : Heap} {n nB : Nat} {la z : AV}
theorem c40c (ok : A.Ok n la) (hN : (A.N + 1) * 24 ≤ 140737488355328) (hLb : ∀ i, i < A.N → (A.L i + 31) * 8 ≤ 140737488355328) (e : Nat → AV) (h' : Heap) (n' : Nat) (p : P2 A 1 enI h0 n nB A.N z h' n') (q0 : e 0 = la) (q5 : e 5 = z) :
    awp (cz [] (pfL [])) (tlC 4 (Tryd.f40.body.getD .skip)) (finQ (cz [] (pfL [])) Tryd.f40 fun y h2 n2 => y = bv true ∧ h2 = h' ∧ n2 = n') ⟨e, h', n'⟩ := by
  obtain ⟨s1, s2, s3, s4, s5⟩ := Ap.isS ok
  simp [evs, aeval, binS, cz_ti, cz_G, cz_pf, cz_tw, cz_two, two, ti, globS, glob, ldcs_1, ldcs_2, ldcs_3, ldcs_4, ldcs_5, ldcs_7, sls.eq_1, slc.eq_1, pfL, tlC, Tryd.f40]
  refine awp_loop (fun s => ∃ i : Nat, i ≤ A.N ∧ s.e 0 = la ∧ s.e 5 = z ∧ s.e 9 = ii i ∧ s.h = h' ∧ s.n = n') (fun s => A.N - (s.e 9).i.toNat) ⟨0, by omega, by simp [up, q0], by simp [up, q5], by simp [up, ii], rfl, rfl⟩ ?_
  rintro e1 h1 n1 ⟨i, hi, q0, q5, q9, hh, hnn⟩
  simp only [] at q0 q5 q9 hh hnn
  subst hh hnn
  have hiw := wrap_nat (j := i) (by unfold big; omega)
  by_cases hlt : i < A.N
  · have hlt' : (i : Int) < (A.N : Int) := by omega
    obtain ⟨r, hr⟩ := p.hl (by omega)
    have hcs := A.cs_at hlt
    have hcl := A.cs_len
    have hcg : A.cs[i]'(by rw [hcl]; exact hlt) = A.c i := by simp [Ap.cs]
    have hi1 : i + 1 ≤ A.N := hlt
    have hla : la = .s A.wl A.ul 0 A.N := ok.la.resolve_left fun h => by omega
    obtain ⟨t1, t2, t3, t4, t5⟩ := A.c_is ok hlt
    obtain ⟨β, υ, l1, l2⟩ := p.lg
    obtain ⟨w, uw, hz, w2, w3, w4, w5⟩ := l2.resolve_left fun h => by omega
    obtain ⟨es, e1', e2', e3'⟩ := l1 i hlt
    have hel := e2'.len
    have hel1 : es.length = A.L i + 30 := by rw [hel, Nat.mul_one]
    have hds : ((List.range A.N).map (lx A β υ)).length = A.N := by simp
    have hdg : ((List.range A.N).map (lx A β υ))[i]'(by rw [hds]; exact hlt) = .s (β i) (υ i) 0 (A.L i + 30) := by simp [lx]
    have hdq : ((List.range A.N).map (lx A β υ))[i]? = some (.s (β i) (υ i) 0 (A.L i + 30)) := by rw [List.getElem?_eq_getElem (by rw [hds]; exact hlt), hdg]
    generalize (List.range A.N).map (lx A β υ) = ds at *
    have ok' := ok
    subst hla
    subst hz
    simp [evs, aeval, binS, cz_ti, cz_G, cz_pf, cz_tw, cz_two, two, ti, globS, glob, ldcs_1, ldcs_2, ldcs_3, ldcs_4, ldcs_5, ldcs_7, sls.eq_1, slc.eq_1, pfL, q0, q5, q9, ii, hlt, hlt']
    refine awp_loop (fun s => ∃ k : Nat, k ≤ A.L i + 30 ∧ s.e 0 = .s A.wl A.ul 0 A.N ∧ s.e 5 = .s w uw 0 A.N ∧ s.e 9 = ii i ∧ s.e 10 = ii k ∧ s.h = h1 ∧ s.n = n1) (fun s => A.L i + 30 - (s.e 10).i.toNat) ⟨0, by omega, by simp [up, q0], by simp [up, q5], by simp [up, q9, ii], by simp [up, ii], rfl, rfl⟩ ?_
    rintro e2 h2 n2 ⟨k, hk, q0', q5', q9', q10', hh, hnn⟩
    simp only [] at q0' q5' q9' q10' hh hnn
    subst hh hnn
    have hkw := wrap_nat (j := k) (by have := hLb i hlt; unfold big; omega)
    by_cases hlk : k < A.L i + 30
    · have hlk' : (k : Int) < (A.L i : Int) + 30 := by omega
      have hk1 : k + 1 ≤ A.L i + 30 := hlk
      by_cases hkL : k < A.L i
      · have hkL' : (k : Int) < (A.L i : Int) := by omega
        have hkL1 : k + 1 ≤ A.L i := hkL
        have hnl : A.nl i = false := by
          cases hb : A.nl i with
          | false => rfl
          | true => have := ok.nil i hlt hb; omega
        have hci : A.c i = .s (A.b i) (A.u i) 0 (A.L i) := by simp [Ap.c, hnl]
        rw [hci] at hcs hcg
        obtain ⟨cs, g1, g2, g3, g4⟩ := p.at_ i hlt hnl
        have g2' := g4
        obtain ⟨a1, a2⟩ := row1 (g3 k hkL)
        obtain ⟨a3, a4⟩ := row1 (e2'.old k hkL)
        have a5 : cs[k]? = some (ii (mkA i)) := by rw [List.getElem?_eq_getElem a1, a2]
        have a6 : es[k]? = some (ii (mkA i)) := by rw [List.getElem?_eq_getElem a3, a4]
        have a7 : k + 1 ≤ cs.length := a1
        simp only [ii, mkA] at a2 a4 a5 a6
        simp [evs, aeval, binS, cz_ti, cz_G, cz_pf, cz_tw, cz_two, two, ti, globS, glob, ldcs_1, ldcs_2, ldcs_3, ldcs_4, ldcs_5, ldcs_7, sls.eq_1, slc.eq_1, pfL, q0', q5', q9', q10', ii, hr, hcs, hcg, hcl, hi1, w2, hds, hdg, hdq, hlt, hlt', hlk, hlk', hk1, hkL, hkL', hkL1, g1, e1', hel1, a1, a2, a3, a4, a5, a6, a7, hkw]
        rw [if_neg (fun h => by have := h.1; omega)]
        exact ⟨⟨k + 1, by omega, by omega⟩, by omega⟩
      · have hkL' : ¬ (k : Int) < (A.L i : Int) := by omega
        have hkL2 : (A.L i : Int) ≤ (k : Int) := by omega
        have hkL3 : A.L i ≤ k := by omega
        obtain ⟨a3, a4⟩ := row1 (e2'.new k (by omega) hlk)
        have a6 : es[k]? = some (ii (mkB i)) := by rw [List.getElem?_eq_getElem a3, a4]
        simp only [ii, mkB] at a4 a6
        simp [evs, aeval, binS, cz_ti, cz_G, cz_pf, cz_tw, cz_two, two, ti, globS, glob, ldcs_1, ldcs_2, ldcs_3, ldcs_4, ldcs_5, ldcs_7, sls.eq_1, slc.eq_1, pfL, q0', q5', q9', q10', ii, hr, hcs, hcg, hcl, hi1, w2, hds, hdg, hdq, hlt, hlt', hlk, hlk', hk1, hkL, hkL', hkL2, hkL3, t1, t2, t3, e1', hel1, a3, a4, a6, hkw]
        exact ⟨⟨k + 1, by omega, by omega⟩, by omega⟩
    · obtain rfl : k = A.L i + 30 := by omega
      simp [evs, aeval, binS, cz_ti, cz_G, cz_pf, cz_tw, cz_two, two, ti, globS, glob, ldcs_1, ldcs_2, ldcs_3, ldcs_4, ldcs_5, ldcs_7, sls.eq_1, slc.eq_1, pfL, q0', q5', q9', q10', ii, hi1, w2, hds, hdg, hdq, hlt, hlt', hiw]
      exact ⟨⟨i + 1, by omega, by omega⟩, by omega⟩
  · obtain rfl : i = A.N := by omega
    simp [evs, aeval, binS, cz_ti, cz_G, cz_pf, cz_tw, cz_two, two, ti, globS, glob, ldcs_1, ldcs_2, ldcs_3, ldcs_4, ldcs_5, ldcs_7, sls.eq_1, slc.eq_1, pfL, q0, q9, ii, s1, s2, s3, bv]
/-- Do columns share nothing? -/
theorem c40 (ok : A.Ok n la) (hN : (A.N + 1) * 24 ≤ 140737488355328) (hLb : ∀ i, i < A.N → (A.L i + 31) * 8 ≤ 140737488355328) (hl : 0 < A.N → ∃ r, h0 A.wl = some ⟨A.cs, A.ul, r, 1⟩) (hat : ∀ j, j < A.N → A.nl j = false → ∃ cs, h0 (A.b j) = some ⟨cs, A.u j, true, 1⟩ ∧ cs.length = A.L j) (hn : Fresh n h0) :
    ACall (cz [] (pfL [])) 40 [la] h0 n fun y h' n' => y = bv true ∧ (∀ q, q < n → (∀ j, j < A.N → A.nl j = false → q ≠ A.b j) → h' q = h0 q) ∧ Fresh n' h' ∧ n ≤ n' := by
  refine acall_of_awp (args := [la]) (pfZ_ok tb_nil) (mixed_z _ _) Tryd.func40 (c := Tryd.f40.body.getD .skip) rfl (by kernel_rfl) (callable Tryd.func40 rfl rfl [] (pfL [])) (show 1 ≤ Tryd.f40.ntmps by decide +kernel) ?_
  have w0 : W1 A 1 enI h0 n 0 0 h0 := ⟨hl, fun j hj hn => by
    obtain ⟨cs, c1, c2⟩ := hat j hj hn
    exact ⟨cs, c1, by omega, fun m hm ho => by omega⟩, fun _ _ _ => rfl⟩
  refine awp_cut 2 _ _ (c40a ok (by unfold big; omega) (fun i hi => by have := hLb i hi; unfold big; omega) w0 hn _ rfl) fun y1 h1 n1 ⟨q0, w1, f1, nn1⟩ => ?_
  simp only [] at q0 w1 f1 nn1
  refine awp_cut 2 _ _ (c40b ok hN hLb w1 f1 nn1 y1 q0) fun y2 h2 n2 ⟨q0', p2⟩ => ?_
  simp only [] at q0' p2
  refine awp_mono _ (fun x s hx => ?_) (c40c ok hN hLb y2 h2 n2 p2 q0' rfl)
  have key : ∀ x, finQ (cz [] (pfL [])) Tryd.f40 (fun y h3 n3 => y = bv true ∧ h3 = h2 ∧ n3 = n2) x s → finQ (cz [] (pfL [])) Tryd.f40 (fun y h' n' => y = bv true ∧ (∀ q, q < n → (∀ j, j < A.N → A.nl j = false → q ≠ A.b j) → h' q = h0 q) ∧ Fresh n' h' ∧ n ≤ n') x s := fun x hx => by
    cases x with
    | normal =>
      rw [finQ_n] at hx ⊢
      obtain ⟨k1, k2, k3, k4⟩ := hx
      exact ⟨k1, k2, by rw [k3]; exact p2.oth, by rw [k3, k4]; exact p2.fr, by have := p2.nb; have := p2.bn; omega⟩
    | exit id => rw [finQ_e] at hx; exact hx.elim
    | ret =>
      rw [finQ_r] at hx ⊢
      obtain ⟨k1, k2, k3, k4⟩ := hx
      exact ⟨k1, k2, by rw [k3]; exact p2.oth, by rw [k3, k4]; exact p2.fr, by have := p2.nb; have := p2.bn; omega⟩
  exact key x hx
end
end Go.Proofs.YtkfphaphiikloaaDoor

/-
  CodeSpares, PART F: codes, all written over (the law's own).
-/
namespace Go.Proofs.YtkfphaphiikloaaDoor
open Go Go.Eng

def enS (m : Int) : List AV := [ii 0, ii 0, ii 0, ii m, ii 0]
theorem enS_len (m : Int) : (enS m).length = 5 := rfl
theorem row_wr {sz k m : Nat} {cs v : List AV} (hv : v.length = sz) (hk : (k + 1) * sz ≤ cs.length) (hm : (m + 1) * sz ≤ cs.length) : row sz (wr cs (k * sz) v) m = if m = k then v else row sz cs m := by
  have h1 : (k + 1) * sz = k * sz + sz := Nat.succ_mul _ _
  have h2 : (m + 1) * sz = m * sz + sz := Nat.succ_mul _ _
  refine List.ext_getElem? fun j => ?_
  unfold row
  rw [List.getElem?_take]
  by_cases hj : j < sz
  · rw [if_pos hj, List.getElem?_drop, wr_get _ _ _ _ (by omega)]
    by_cases e : m = k
    · subst e
      rw [if_pos rfl, if_pos ⟨by omega, by omega⟩]
      congr 1; omega
    · rw [if_neg e, List.getElem?_take, if_pos hj, List.getElem?_drop, if_neg]
      rcases Nat.lt_or_gt_of_ne e with h | h
      · have := Nat.mul_le_mul_right sz (show m + 1 ≤ k from h); omega
      · have := Nat.mul_le_mul_right sz (show k + 1 ≤ m from h); omega
  · rw [if_neg hj]
    split
    · rw [List.getElem?_eq_none (by omega)]
    · rw [List.getElem?_take, if_neg hj]
/-- One element more. -/
theorem W1.stepw {A : Ap} {sz : Nat} {en : Int → List AV} {h0 : Heap} {n i k : Nat} {la : AV} {h : Heap} (hen : ∀ m, (en m).length = sz) (ok : A.Ok n la) (w : W1 A sz en h0 n i k h) (hi : i < A.N) (hn : A.nl i = false) (hk : k < A.L i) {cs : List AV} (hc : h (A.b i) = some ⟨cs, A.u i, true, sz⟩) :
    W1 A sz en h0 n i (k + 1) (up h (A.b i) (some ⟨wr cs (k * sz) (en (mkA i)), A.u i, true, sz⟩)) := by
  have hne := ok.ne i hi hn
  refine ⟨fun h0' => ?_, fun j hj hnj => ?_, fun q hq hqj => ?_⟩
  · obtain ⟨r, hr⟩ := w.hl h0'
    exact ⟨r, by rw [up_ne _ _ (fun e => hne e.symm)]; exact hr⟩
  · by_cases e : j = i
    · subst e
      obtain ⟨cs', c1, c2, c3⟩ := w.at_ j hj hnj
      rw [hc] at c1
      simp only [Option.some.injEq, Blk.mk.injEq, and_true] at c1
      subst c1
      refine ⟨_, up_same _ _ _, by rw [wr_length]; exact c2, fun m hm ho => ?_⟩
      have e1 := row_wr (m := m) (hen (mkA j)) (cs := cs) (k := k) (by rw [c2]; exact Nat.mul_le_mul_right sz hk) (by rw [c2]; exact Nat.mul_le_mul_right sz hm)
      unfold row at e1
      rw [e1]
      split
      · rfl
      · rename_i e2
        exact c3 m hm (ho.elim (fun ho => absurd ho (by omega)) fun ho => .inr ⟨rfl, by omega⟩)
    · have hbe : A.b j ≠ A.b i := fun hb => e (ok.inj j i hj hi hnj hn hb)
      obtain ⟨cs', c1, c2, c3⟩ := w.at_ j hj hnj
      exact ⟨cs', by rw [up_ne _ _ hbe]; exact c1, c2, fun m hm ho => c3 m hm (ho.elim .inl fun ho => absurd ho.1 e)⟩
  · rw [up_ne _ _ (hqj i hi hn)]
    exact w.oth q hq hqj
section
set_option maxRecDepth 100000
set_option maxHeartbeats 4000000
variable {A : Ap} {h0 : Heap} {n : Nat} {la : AV}
theorem c41a (ok : A.Ok n la) (hN : A.N < big) (hLb : ∀ i, i < A.N → A.L i < big) (hw : W1 A 5 enS h0 n 0 0 h0) (hn : Fresh n h0) (e : Nat → AV) (q0 : e 0 = la) {Q : Ex → St → Prop} :
    awp (cz [] (pfL [])) (hdC 2 (Tryd.f41.body.getD .skip)) (thenQ (fun s => s.e 0 = la ∧ W1 A 5 enS h0 n A.N 0 s.h ∧ Fresh s.n s.h ∧ n ≤ s.n) Q) ⟨e, h0, n⟩ := by
  obtain ⟨s1, s2, s3, s4, s5⟩ := Ap.isS ok
  simp [evs, aeval, binS, cz_ti, cz_G, cz_pf, cz_tw, cz_two, two, ti, globS, glob, ldcs_1, ldcs_2, ldcs_3, ldcs_4, ldcs_5, ldcs_7, sls.eq_1, slc.eq_1, pfL, hdC, Tryd.f41]
  refine awp_loop (fun s => ∃ i : Nat, i ≤ A.N ∧ s.e 0 = la ∧ s.e 3 = ii i ∧ W1 A 5 enS h0 n i 0 s.h ∧ Fresh s.n s.h ∧ n ≤ s.n) (fun s => A.N - (s.e 3).i.toNat) ⟨0, by omega, by simp [up, q0], by simp [up, ii], hw, hn, by simp⟩ ?_
  rintro e' h' n' ⟨i, hi, q0, q3, w, fr, nn⟩
  simp only [] at q0 q3 w fr nn
  have hiw := wrap_nat (j := i) (by omega)
  by_cases hlt : i < A.N
  · have hlt' : (i : Int) < (A.N : Int) := by omega
    simp [evs, aeval, binS, cz_ti, cz_G, cz_pf, cz_tw, cz_two, two, ti, globS, glob, ldcs_1, ldcs_2, ldcs_3, ldcs_4, ldcs_5, ldcs_7, sls.eq_1, slc.eq_1, pfL, q0, q3, ii, s1, s2, s3, hlt, hlt']
    have hla : la = .s A.wl A.ul 0 A.N := ok.la.resolve_left fun h => by omega
    refine awp_loop (fun s => ∃ k : Nat, k ≤ A.L i ∧ s.e 0 = la ∧ s.e 3 = ii i ∧ s.e 4 = ii k ∧ W1 A 5 enS h0 n i k s.h ∧ Fresh s.n s.h ∧ n ≤ s.n) (fun s => A.L i - (s.e 4).i.toNat) ⟨0, by omega, by simp [up, q0], by simp [up, q3, ii], by simp [up, ii], w, fr, nn⟩ ?_
    rintro e2 h2 n2 ⟨k, hk, q0', q3', q4', w2, fr2, nn2⟩
    simp only [] at q0' q3' q4' w2 fr2 nn2
    obtain ⟨r, hr⟩ := w2.hl (by omega)
    have hcs := A.cs_at hlt
    have hcl := A.cs_len
    have hcg : A.cs[i]'(by rw [hcl]; exact hlt) = A.c i := by simp [Ap.cs]
    have hi1 : i + 1 ≤ A.N := hlt
    have hkw := wrap_nat (j := k) (by have := hLb i hlt; omega)
    obtain ⟨t1, t2, t3, t4, t5⟩ := A.c_is ok hlt
    subst hla
    by_cases hlk : k < A.L i
    · have hlk' : (k : Int) < (A.L i : Int) := by omega
      have hnl : A.nl i = false := by
        cases hb : A.nl i with
        | false => rfl
        | true => have := ok.nil i hlt hb; omega
      have hci : A.c i = .s (A.b i) (A.u i) 0 (A.L i) := by simp [Ap.c, hnl]
      rw [hci] at hcs hcg
      obtain ⟨cs, g1, g2, g3⟩ := w2.at_ i hlt hnl
      have hk1 : k + 1 ≤ A.L i := hlk
      have hst := w2.stepw enS_len ok hlt hnl hlk g1
      have g3' : k * 5 + 5 ≤ A.L i * 5 := by omega
      have hne : ¬ A.wl = A.b i := fun e => ok.ne i hlt hnl e.symm
      have hbl := ok.lt i hlt hnl
      simp [evs, aeval, binS, cz_ti, cz_G, cz_pf, cz_tw, cz_two, two, ti, globS, glob, ldcs_1, ldcs_2, ldcs_3, ldcs_4, ldcs_5, ldcs_7, sls.eq_1, slc.eq_1, pfL, q0', q3', q4', ii, hr, hcs, hcg, hcl, hlt, hlt', hi1, hlk, hlk', hk1, g1, g2, g3', hkw]
      exact ⟨⟨k + 1, by omega, by omega, hst, (fresh_up (by omega) _).2 (fr2.add 1), by omega⟩, by omega⟩
    · obtain rfl : k = A.L i := by omega
      simp [evs, aeval, binS, cz_ti, cz_G, cz_pf, cz_tw, cz_two, two, ti, globS, glob, ldcs_1, ldcs_2, ldcs_3, ldcs_4, ldcs_5, ldcs_7, sls.eq_1, slc.eq_1, pfL, q0', q3', q4', ii, hr, hcs, hcg, hcl, hlt, hlt', hi1, t1, t2, t3, hiw]
      exact ⟨⟨i + 1, by omega, by omega, w2.next, fr2, nn2⟩, by omega⟩
  · obtain rfl : i = A.N := by omega
    simp [evs, aeval, binS, cz_ti, cz_G, cz_pf, cz_tw, cz_two, two, ti, globS, glob, ldcs_1, ldcs_2, ldcs_3, ldcs_4, ldcs_5, ldcs_7, sls.eq_1, slc.eq_1, pfL, q0, q3, ii, s1, s2, s3]
    exact ⟨w, fr, nn⟩
end
end Go.Proofs.YtkfphaphiikloaaDoor

/-
  CodeSpares, PART G: codes, all made longer (the law's own).
-/
namespace Go.Proofs.YtkfphaphiikloaaDoor
open Go Go.Eng

section
set_option maxRecDepth 100000
set_option maxHeartbeats 4000000
variable {A : Ap} {h0 hB : Heap} {n nB : Nat} {la : AV}
theorem c41b (ok : A.Ok n la) (hN : (A.N + 1) * 24 ≤ 140737488355328) (hLb : ∀ i, i < A.N → (A.L i + 31) * 40 ≤ 140737488355328) (hw : W1 A 5 enS h0 n A.N 0 hB) (hn : Fresh nB hB) (hnb : n ≤ nB) (e : Nat → AV) (q0 : e 0 = la) {Q : Ex → St → Prop} :
    awp (cz [] (pfL [])) (hdC 2 (tlC 2 (Tryd.f41.body.getD .skip))) (thenQ (fun s => s.e 0 = la ∧ P2 A 5 enS h0 n nB A.N (s.e 5) s.h s.n) Q) ⟨e, hB, nB⟩ := by
  obtain ⟨s1, s2, s3, s4, s5⟩ := Ap.isS ok
  simp [evs, aeval, binS, cz_ti, cz_G, cz_pf, cz_tw, cz_two, two, ti, globS, glob, ldcs_1, ldcs_2, ldcs_3, ldcs_4, ldcs_5, ldcs_7, sls.eq_1, slc.eq_1, pfL, hdC, tlC, Tryd.f41]
  refine awp_loop (fun s => ∃ i : Nat, i ≤ A.N ∧ s.e 0 = la ∧ s.e 6 = ii i ∧ P2 A 5 enS h0 n nB i (s.e 5) s.h s.n) (fun s => A.N - (s.e 6).i.toNat) ⟨0, by omega, by simp [up, q0], by simp [up, ii], by simpa [up] using P2.start hw hn hnb⟩ ?_
  rintro e' hI nI ⟨i, hi, q0, q6, p⟩
  simp only [] at q0 q6 p
  have hiw := wrap_nat (j := i) (by unfold big; omega)
  by_cases hlt : i < A.N
  · have hlt' : (i : Int) < (A.N : Int) := by omega
    obtain ⟨r, hr⟩ := p.hl (by omega)
    have hcs := A.cs_at hlt
    have hcl := A.cs_len
    have hcg : A.cs[i]'(by rw [hcl]; exact hlt) = A.c i := by simp [Ap.cs]
    have hi1 : i + 1 ≤ A.N := hlt
    have hla : la = .s A.wl A.ul 0 A.N := ok.la.resolve_left fun h => by omega
    have hbI : A.nl i = false → A.b i < nI := fun h => by have := ok.lt i hlt h; have := p.nb; have := p.bn; omega
    obtain ⟨z, q5⟩ : ∃ z, e' 5 = z := ⟨_, rfl⟩
    rw [q5] at p
    have ok' := ok
    subst hla
    simp [evs, aeval, binS, cz_ti, cz_G, cz_pf, cz_tw, cz_two, two, ti, globS, glob, ldcs_1, ldcs_2, ldcs_3, ldcs_4, ldcs_5, ldcs_7, sls.eq_1, slc.eq_1, pfL, q0, q5, q6, ii, hlt, hlt', hr, hcs, hcg, hcl, hi1]
    refine awp_loop (fun s => ∃ k : Nat, k ≤ 30 ∧ s.e 0 = .s A.wl A.ul 0 A.N ∧ s.e 5 = z ∧ s.e 6 = ii i ∧ s.e 8 = ii k ∧ X2 A 5 enS nI i hI k (s.e 7) s.h s.n) (fun s => 30 - (s.e 8).i.toNat) ⟨0, by omega, by simp [up, q0], by simp [up, q5], by simp [up, q6, ii], by simp [up, ii], by simpa [up] using X2.start ok p hlt⟩ ?_
    rintro e2 h2 n2 ⟨k, hk, q0', q5', q6', q8', x2⟩
    simp only [] at q0' q5' q6' q8' x2
    have hkw := wrap_nat (j := k) (by unfold big; omega)
    have hLi := hLb i hlt
    obtain ⟨x, q7⟩ : ∃ x, e2 7 = x := ⟨_, rfl⟩
    rw [q7] at x2
    have fr2 := x2.fr
    by_cases hlk : k < 30
    · have hlk' : (k : Int) < 30 := by omega
      have x20 := x2
      rcases x2.x with ⟨_, _, rfl⟩ | ⟨bx, ux, es, rfl, hb, hg, hbr⟩
      · simp [evs, aeval, binS, cz_ti, cz_G, cz_pf, cz_tw, cz_two, two, ti, globS, glob, ldcs_1, ldcs_2, ldcs_3, ldcs_4, ldcs_5, ldcs_7, sls.eq_1, slc.eq_1, pfL, q0', q5', q6', q7, q8', ii, hlk', hkw]
        exact ⟨⟨k + 1, by omega, by omega, X2.new enS_len ok' hlt x20 (fun q hq => by rw [up_ne _ _ (by omega), up_ne _ _ (by omega)]) (up_same _ _ _) (by omega) (by omega) ((fresh_up (by omega) _).2 ((fresh_up (by omega) _).2 (fr2.add 2)))⟩, by omega⟩
      · have hel := hg.len
        have b1 : (A.L i + (k + 1)) * 40 ≤ 140737488355328 := by omega
        have b2 : A.L i + k ≤ 9223372036854775806 := by omega
        have hbn : bx < n2 := lt_of hb fr2
        have y1 : ¬ bx = n2 := by omega
        simp [evs, aeval, binS, cz_ti, cz_G, cz_pf, cz_tw, cz_two, two, ti, globS, glob, ldcs_1, ldcs_2, ldcs_3, ldcs_4, ldcs_5, ldcs_7, sls.eq_1, slc.eq_1, pfL, q0', q5', q6', q7, q8', ii, hlk', hkw, hb, hel, b1, b2, y1]
        refine ⟨by omega, ⟨⟨k + 1, by omega, by omega, X2.here enS_len ok' hlt hbI x20 hb (fun q hq hq2 => by rw [up_ne _ _ hq2, up_ne _ _ (by omega)]) (up_same _ _ _) (by omega) ((fresh_up (by omega) _).2 ((fresh_up (by omega) _).2 (fr2.add 2)))⟩, by omega⟩, ⟨k + 1, by omega, by omega, X2.away enS_len hbI x20 hb (fun q hq => by rw [up_ne _ _ (by omega), up_ne _ _ (by omega)]) (up_same _ _ _) (by omega) (by omega) ((fresh_up (by omega) _).2 ((fresh_up (by omega) _).2 (fr2.add 2)))⟩, by omega⟩
    · obtain rfl : k = 30 := by omega
      obtain ⟨bx, ux, es, rfl, hb, hg, hbr⟩ : ∃ bx ux es, x = .s bx ux 0 (A.L i + 30) ∧ h2 bx = some ⟨es, ux, true, 5⟩ ∧ good A 5 enS i 30 es ∧ ((A.nl i = false ∧ bx = A.b i) ∨ (nI ≤ bx ∧ bx < n2)) := by
        rcases x2.x with ⟨h1, _⟩ | h1
        · cases h1
        · exact h1
      have hnn := x2.nn
      rcases Classical.em (i = 0 ∧ z = .v (.slice none 0 0)) with ⟨h00, rfl⟩ | hzn
      · simp [evs, aeval, binS, cz_ti, cz_G, cz_pf, cz_tw, cz_two, two, ti, globS, glob, ldcs_1, ldcs_2, ldcs_3, ldcs_4, ldcs_5, ldcs_7, sls.eq_1, slc.eq_1, pfL, q0', q5', q6', q7, q8', ii, hiw]
        have e1 : AV.s (n2 + 1) 0 0 1 = AV.s (n2 + 1) 0 0 (i + 1) := by rw [h00]
        rw [e1]
        have hpb := p.nb
        have hpn := p.bn
        refine ⟨⟨i + 1, by omega, by omega, P2.next ok' p hlt x2 (by omega) ((fresh_up (by omega) _).2 ((fresh_up (by omega) _).2 (fr2.add 2))) fun β υ hβ hz => ⟨by rw [up_same, h00]; rfl, by omega, by omega, fun q hq hq2 => by rw [up_ne _ _ (by omega), up_ne _ _ (by omega)], .inl (by omega)⟩⟩, by omega⟩
      · obtain ⟨β, υ, l1, l2⟩ := p.lg
        obtain ⟨w, uw, rfl, w2, w3, w4, w5⟩ := l2.resolve_left hzn
        have hww : A.nl i = true ∨ w ≠ A.b i := by
          cases hn : A.nl i with
          | true => exact .inl rfl
          | false => exact .inr fun e => by have := ok'.lt i hlt hn; omega
        have hw2 : h2 w = _ := (x2.ag w w4 hww).trans w2
        have hwl : ((List.range i).map (lx A β υ)).length = i := by simp
        have b1 : (i + 1) * 24 ≤ 140737488355328 := by omega
        have b2 : i ≤ 9223372036854775806 := by omega
        have y1 : ¬ w = n2 := by omega
        generalize hds : (List.range i).map (lx A β υ) = ds at *
        simp [evs, aeval, binS, cz_ti, cz_G, cz_pf, cz_tw, cz_two, two, ti, globS, glob, ldcs_1, ldcs_2, ldcs_3, ldcs_4, ldcs_5, ldcs_7, sls.eq_1, slc.eq_1, pfL, q0', q5', q6', q7, q8', ii, hiw, hw2, hwl, b1, b2, y1]
        have hpb := p.nb
        have hpn := p.bn
        have hsame : ∀ β' υ' : Nat → Nat, ((i = 0 ∧ AV.s w uw 0 i = .v (.slice none 0 0)) ∨ ∃ w' uw', AV.s w uw 0 i = .s w' uw' 0 i ∧ h2 w' = some ⟨(List.range i).map (lx A β' υ'), uw', true, 1⟩ ∧ nB ≤ w' ∧ w' < nI ∧ ∀ j, j < i → β' j ≠ w') → (List.range i).map (lx A β' υ') = ds ∧ ∀ j, j < i → β' j ≠ w := fun β' υ' hz => by
          rcases hz with ⟨_, h1⟩ | ⟨w', uw', h1, h2', _, _, h5⟩
          · cases h1
          · injection h1 with h6 h7 _ _
            subst h6 h7
            rw [hw2] at h2'
            simp only [Option.some.injEq, Blk.mk.injEq, and_true] at h2'
            exact ⟨h2'.symm, h5⟩
        refine ⟨⟨⟨i + 1, by omega, by omega, P2.next ok' p hlt x2 (by omega) ((fresh_up (by omega) _).2 ((fresh_up (by omega) _).2 (fr2.add 2))) fun β' υ' hβ hz => ?_⟩, by omega⟩, ⟨i + 1, by omega, by omega, P2.next ok' p hlt x2 (by omega) ((fresh_up (by omega) _).2 ((fresh_up (by omega) _).2 (fr2.add 2))) fun β' υ' hβ hz => ?_⟩, by omega⟩
        · obtain ⟨k1, k2⟩ := hsame β' υ' hz
          exact ⟨by rw [up_same, k1], by omega, by omega, fun q hq hq2 => by rw [up_ne _ _ hq2, up_ne _ _ (by omega)], .inr ⟨w4, k2⟩⟩
        · obtain ⟨k1, k2⟩ := hsame β' υ' hz
          exact ⟨by rw [up_same, k1], by omega, by omega, fun q hq hq2 => by rw [up_ne _ _ (by omega), up_ne _ _ (by omega)], .inl (by omega)⟩
  · obtain rfl : i = A.N := by omega
    simp [evs, aeval, binS, cz_ti, cz_G, cz_pf, cz_tw, cz_two, two, ti, globS, glob, ldcs_1, ldcs_2, ldcs_3, ldcs_4, ldcs_5, ldcs_7, sls.eq_1, slc.eq_1, pfL, q0, q6, ii, s1, s2, s3]
    exact p
end
end Go.Proofs.YtkfphaphiikloaaDoor

/-
  CodeSpares, PART H: codes, all looked at (the law's own).
-/
namespace Go.Proofs.YtkfphaphiikloaaDoor
open Go Go.Eng

theorem row5 {es : List AV} {m : Nat} {a0 a1 a2 a3 a4 : AV} (h : row 5 es m = [a0, a1, a2, a3, a4]) : m * 5 + 5 ≤ es.length ∧ es[m * 5]? = some a0 ∧ es[m * 5 + 1]? = some a1 ∧ es[m * 5 + 2]? = some a2 ∧ es[m * 5 + 3]? = some a3 ∧ es[m * 5 + 4]? = some a4 := by
  have hl : (row 5 es m).length = 5 := by rw [h]; rfl
  have key : ∀ j, j < 5 → es[m * 5 + j]? = (row 5 es m)[j]? := fun j hj => by
    unfold row
    rw [List.getElem?_take, if_pos hj, List.getElem?_drop]
  unfold row at hl
  rw [List.length_take, List.length_drop] at hl
  exact ⟨by omega, by rw [show m * 5 = m * 5 + 0 from rfl, key 0 (by omega), h]; rfl, by rw [key 1 (by omega), h]; rfl, by rw [key 2 (by omega), h]; rfl, by rw [key 3 (by omega), h]; rfl, by rw [key 4 (by omega), h]; rfl⟩
theorem ge_of {es : List AV} {i : Nat} {v : AV} (h : es[i]? = some v) : ∃ hi : i < es.length, es[i] = v := List.getElem?_eq_some_iff.1 h
section
set_option maxRecDepth 100000
set_option maxHeartbeats 4000000
variable {A : Ap} {h0 : Heap} {n nB : Nat} {la z : AV}
theorem c41c (ok : A.Ok n la) (hN : (A.N + 1) * 24 ≤ 140737488355328) (hLb : ∀ i, i < A.N → (A.L i + 31) * 40 ≤ 140737488355328) (e : Nat → AV) (h' : Heap) (n' : Nat) (p : P2 A 5 enS h0 n nB A.N z h' n') (q0 : e 0 = la) (q5 : e 5 = z) :
    awp (cz [] (pfL [])) (tlC 4 (Tryd.f41.body.getD .skip)) (finQ (cz [] (pfL [])) Tryd.f41 fun y h2 n2 => y = bv true ∧ h2 = h' ∧ n2 = n') ⟨e, h', n'⟩ := by
  obtain ⟨s1, s2, s3, s4, s5⟩ := Ap.isS ok
  simp [evs, aeval, binS, cz_ti, cz_G, cz_pf, cz_tw, cz_two, two, ti, globS, glob, ldcs_1, ldcs_2, ldcs_3, ldcs_4, ldcs_5, ldcs_7, sls.eq_1, slc.eq_1, pfL, tlC, Tryd.f41]
  refine awp_loop (fun s => ∃ i : Nat, i ≤ A.N ∧ s.e 0 = la ∧ s.e 5 = z ∧ s.e 9 = ii i ∧ s.h = h' ∧ s.n = n') (fun s => A.N - (s.e 9).i.toNat) ⟨0, by omega, by simp [up, q0], by simp [up, q5], by simp [up, ii], rfl, rfl⟩ ?_
  rintro e1 h1 n1 ⟨i, hi, q0, q5, q9, hh, hnn⟩
  simp only [] at q0 q5 q9 hh hnn
  subst hh hnn
  have hiw := wrap_nat (j := i) (by unfold big; omega)
  by_cases hlt : i < A.N
  · have hlt' : (i : Int) < (A.N : Int) := by omega
    obtain ⟨r, hr⟩ := p.hl (by omega)
    have hcs := A.cs_at hlt
    have hcl := A.cs_len
    have hcg : A.cs[i]'(by rw [hcl]; exact hlt) = A.c i := by simp [Ap.cs]
    have hi1 : i + 1 ≤ A.N := hlt
    have hla : la = .s A.wl A.ul 0 A.N := ok.la.resolve_left fun h => by omega
    obtain ⟨t1, t2, t3, t4, t5⟩ := A.c_is ok hlt
    obtain ⟨β, υ, l1, l2⟩ := p.lg
    obtain ⟨w, uw, hz, w2, w3, w4, w5⟩ := l2.resolve_left fun h => by omega
    obtain ⟨es, e1', e2', e3'⟩ := l1 i hlt
    have hel := e2'.len
    have hel1 : es.length = (A.L i + 30) * 5 := hel
    have hds : ((List.range A.N).map (lx A β υ)).length = A.N := by simp
    have hdg : ((List.range A.N).map (lx A β υ))[i]'(by rw [hds]; exact hlt) = .s (β i) (υ i) 0 (A.L i + 30) := by simp [lx]
    have hdq : ((List.range A.N).map (lx A β υ))[i]? = some (.s (β i) (υ i) 0 (A.L i + 30)) := by rw [List.getElem?_eq_getElem (by rw [hds]; exact hlt), hdg]
    generalize (List.range A.N).map (lx A β υ) = ds at *
    have ok' := ok
    subst hla
    subst hz
    simp [evs, aeval, binS, cz_ti, cz_G, cz_pf, cz_tw, cz_two, two, ti, globS, glob, ldcs_1, ldcs_2, ldcs_3, ldcs_4, ldcs_5, ldcs_7, sls.eq_1, slc.eq_1, pfL, q0, q5, q9, ii, hlt, hlt']
    refine awp_loop (fun s => ∃ k : Nat, k ≤ A.L i + 30 ∧ s.e 0 = .s A.wl A.ul 0 A.N ∧ s.e 5 = .s w uw 0 A.N ∧ s.e 9 = ii i ∧ s.e 10 = ii k ∧ s.h = h1 ∧ s.n = n1) (fun s => A.L i + 30 - (s.e 10).i.toNat) ⟨0, by omega, by simp [up, q0], by simp [up, q5], by simp [up, q9, ii], by simp [up, ii], rfl, rfl⟩ ?_
    rintro e2 h2 n2 ⟨k, hk, q0', q5', q9', q10', hh, hnn⟩
    simp only [] at q0' q5' q9' q10' hh hnn
    subst hh hnn
    have hkw := wrap_nat (j := k) (by have := hLb i hlt; unfold big; omega)
    by_cases hlk : k < A.L i + 30
    · have hlk' : (k : Int) < (A.L i : Int) + 30 := by omega
      have hk1 : k + 1 ≤ A.L i + 30 := hlk
      by_cases hkL : k < A.L i
      · have hkL' : (k : Int) < (A.L i : Int) := by omega
        have hkL1 : k + 1 ≤ A.L i := hkL
        have hnl : A.nl i = false := by
          cases hb : A.nl i with
          | false => rfl
          | true => have := ok.nil i hlt hb; omega
        have hci : A.c i = .s (A.b i) (A.u i) 0 (A.L i) := by simp [Ap.c, hnl]
        rw [hci] at hcs hcg
        obtain ⟨cs, g1, g2, g3, g4⟩ := p.at_ i hlt hnl
        have g2' := g4
        obtain ⟨x0, x1, x2, x3, x4, x5⟩ := row5 (g3 k hkL)
        obtain ⟨y0, y1, y2, y3, y4, y5⟩ := row5 (e2'.old k hkL)
        rw [hel1] at y0
        obtain ⟨_, x6⟩ := ge_of x1
        obtain ⟨_, y6⟩ := ge_of y1
        simp only [ii, mkA] at x6 y6 x1 x2 x3 x4 x5 y1 y2 y3 y4 y5
        simp [evs, aeval, binS, cz_ti, cz_G, cz_pf, cz_tw, cz_two, two, ti, globS, glob, ldcs_1, ldcs_2, ldcs_3, ldcs_4, ldcs_5, ldcs_7, sls.eq_1, slc.eq_1, pfL, q0', q5', q9', q10', ii, hr, hcs, hcg, hcl, hi1, w2, hds, hdg, hdq, hlt, hlt', hlk, hlk', hk1, hkL, hkL', hkL1, g1, e1', hel1, x0, x1, x2, x3, x4, x5, x6, y0, y1, y2, y3, y4, y5, y6, hkw]
        rw [if_neg (fun h => by have := h.1; omega)]
        exact ⟨⟨k + 1, by omega, by omega⟩, by omega⟩
      · have hkL' : ¬ (k : Int) < (A.L i : Int) := by omega
        have hkL2 : (A.L i : Int) ≤ (k : Int) := by omega
        have hkL3 : A.L i ≤ k := by omega
        obtain ⟨y0, y1, y2, y3, y4, y5⟩ := row5 (e2'.new k (by omega) hlk)
        rw [hel1] at y0
        obtain ⟨_, y6⟩ := ge_of y1
        simp only [ii, mkB] at y6 y1 y2 y3 y4 y5
        simp [evs, aeval, binS, cz_ti, cz_G, cz_pf, cz_tw, cz_two, two, ti, globS, glob, ldcs_1, ldcs_2, ldcs_3, ldcs_4, ldcs_5, ldcs_7, sls.eq_1, slc.eq_1, pfL, q0', q5', q9', q10', ii, hr, hcs, hcg, hcl, hi1, w2, hds, hdg, hdq, hlt, hlt', hlk, hlk', hk1, hkL, hkL', hkL2, hkL3, t1, t2, t3, e1', hel1, y0, y1, y2, y3, y4, y5, y6, hkw]
        exact ⟨⟨k + 1, by omega, by omega⟩, by omega⟩
    · obtain rfl : k = A.L i + 30 := by omega
      simp [evs, aeval, binS, cz_ti, cz_G, cz_pf, cz_tw, cz_two, two, ti, globS, glob, ldcs_1, ldcs_2, ldcs_3, ldcs_4, ldcs_5, ldcs_7, sls.eq_1, slc.eq_1, pfL, q0', q5', q9', q10', ii, hi1, w2, hds, hdg, hdq, hlt, hlt', hiw]
      exact ⟨⟨i + 1, by omega, by omega⟩, by omega⟩
  · obtain rfl : i = A.N := by omega
    simp [evs, aeval, binS, cz_ti, cz_G, cz_pf, cz_tw, cz_two, two, ti, globS, glob, ldcs_1, ldcs_2, ldcs_3, ldcs_4, ldcs_5, ldcs_7, sls.eq_1, slc.eq_1, pfL, q0, q9, ii, s1, s2, s3, bv]
/-- Do columns share nothing? -/
theorem c41 (ok : A.Ok n la) (hN : (A.N + 1) * 24 ≤ 140737488355328) (hLb : ∀ i, i < A.N → (A.L i + 31) * 40 ≤ 140737488355328) (hl : 0 < A.N → ∃ r, h0 A.wl = some ⟨A.cs, A.ul, r, 1⟩) (hat : ∀ j, j < A.N → A.nl j = false → ∃ cs, h0 (A.b j) = some ⟨cs, A.u j, true, 5⟩ ∧ cs.length = A.L j * 5) (hn : Fresh n h0) :
    ACall (cz [] (pfL [])) 41 [la] h0 n fun y h' n' => y = bv true ∧ (∀ q, q < n → (∀ j, j < A.N → A.nl j = false → q ≠ A.b j) → h' q = h0 q) ∧ Fresh n' h' ∧ n ≤ n' := by
  refine acall_of_awp (args := [la]) (pfZ_ok tb_nil) (mixed_z _ _) Tryd.func41 (c := Tryd.f41.body.getD .skip) rfl (by kernel_rfl) (callable Tryd.func41 rfl rfl [] (pfL [])) (show 1 ≤ Tryd.f41.ntmps by decide +kernel) ?_
  have w0 : W1 A 5 enS h0 n 0 0 h0 := ⟨hl, fun j hj hn => by
    obtain ⟨cs, c1, c2⟩ := hat j hj hn
    exact ⟨cs, c1, by omega, fun m hm ho => by omega⟩, fun _ _ _ => rfl⟩
  refine awp_cut 2 _ _ (c41a ok (by unfold big; omega) (fun i hi => by have := hLb i hi; unfold big; omega) w0 hn _ rfl) fun y1 h1 n1 ⟨q0, w1, f1, nn1⟩ => ?_
  simp only [] at q0 w1 f1 nn1
  refine awp_cut 2 _ _ (c41b ok hN hLb w1 f1 nn1 y1 q0) fun y2 h2 n2 ⟨q0', p2⟩ => ?_
  simp only [] at q0' p2
  refine awp_mono _ (fun x s hx => ?_) (c41c ok hN hLb y2 h2 n2 p2 q0' rfl)
  have key : ∀ x, finQ (cz [] (pfL [])) Tryd.f41 (fun y h3 n3 => y = bv true ∧ h3 = h2 ∧ n3 = n2) x s → finQ (cz [] (pfL [])) Tryd.f41 (fun y h' n' => y = bv true ∧ (∀ q, q < n → (∀ j, j < A.N → A.nl j = false → q ≠ A.b j) → h' q = h0 q) ∧ Fresh n' h' ∧ n ≤ n') x s := fun x hx => by
    cases x with
    | normal =>
      rw [finQ_n] at hx ⊢
      obtain ⟨k1, k2, k3, k4⟩ := hx
      exact ⟨k1, k2, by rw [k3]; exact p2.oth, by rw [k3, k4]; exact p2.fr, by have := p2.nb; have := p2.bn; omega⟩
    | exit id => rw [finQ_e] at hx; exact hx.elim
    | ret =>
      rw [finQ_r] at hx ⊢
      obtain ⟨k1, k2, k3, k4⟩ := hx
      exact ⟨k1, k2, by rw [k3]; exact p2.oth, by rw [k3, k4]; exact p2.fr, by have := p2.nb; have := p2.bn; omega⟩
  exact key x hx
end
end Go.Proofs.YtkfphaphiikloaaDoor

/-
  THE PROGRAMS OF CONDITIONS, PART H: copies that share nothing: lists of events, programs.
-/
namespace Go.Proofs.YtkfphaphiikloaaDoor
open Go Go.Eng

/-- One list more. -/
theorem OwnF.snoc {α : Type} {en : α → List AV} {sz : Nat} {h h2 : Heap} {lo hi hi2 m : Nat} {f : Nat → Nat} {ll : List (List α)} {j : Nat} (o : OwnF en sz h lo hi f ll j) (hh : ∀ i, i < j → h2 (f i) = h (f i)) (h1 : lo ≤ hi) (h3 : hi ≤ m) (h4 : m < hi2)
    (hb : h2 m = some ⟨(ll.getD j []).flatMap en, 1, true, sz⟩) : OwnF en sz h2 lo hi2 (fun i => if i = j then m else f i) ll (j + 1) := by
  refine ⟨fun i hi' => ?_, fun i hi' => ?_, fun i k hi' hk' he => ?_⟩
  · split
    · omega
    · have := o.rng i (by omega); omega
  · split
    · rename_i e; subst e; exact hb
    · rw [hh i (by omega)]; exact o.blk i (by omega)
  · split at he
    · rename_i e
      split at he
      · omega
      · have := (o.rng k (by omega)).2; omega
    · split at he
      · have := (o.rng i (by omega)).2; omega
      · exact o.inj i k (by omega) (by omega) he
theorem lcells_snoc {α : Type} (f : Nat → Nat) (ll : List (List α)) (j m : Nat) : lcells (fun i => if i = j then m else f i) ll (j + 1) = lcells f ll j ++ [.s m 1 0 (ll.getD j []).length] := by
  rw [lcells_succ, lcells_congr (g := f) ll (fun i hi => by rw [if_neg (by omega)])]
  simp
end Go.Proofs.YtkfphaphiikloaaDoor

/-
  THE PROGRAMS OF CONDITIONS, PART I: a program's copy.
-/
namespace Go.Proofs.YtkfphaphiikloaaDoor
open Go Go.Eng

def ic : Int → List AV := fun x => [ii x]
theorem Flat.ic : Flat 1 (De.int .i64) ic := Flat.int
/-- A program of one's own. -/
def OwnP (h : Heap) (lo hi : Nat) (z : AV) (p : Pr) : Prop := ∃ w zb, z = .g [.s w 1 0 p.code.length, zb] ∧ h w = some ⟨p.code.flatMap icells, 1, true, 5⟩ ∧ lo ≤ w ∧ w < hi ∧ OwnL ic 1 h (w + 1) hi zb p.cols p.cols.length
theorem OwnP.congr {h h' : Heap} {lo hi hi' : Nat} {z : AV} {p : Pr} (o : OwnP h lo hi z p) (hh : ∀ q, lo ≤ q → q < hi → h' q = h q) (hi2 : hi ≤ hi') : OwnP h' lo hi' z p := by
  obtain ⟨w, zb, o1, o2, o3, o4, o5⟩ := o
  exact ⟨w, zb, o1, by rw [hh _ o3 o4]; exact o2, o3, by omega, o5.congr (fun q h1 h2 => hh q (by omega) h2) hi2⟩
theorem OwnP.rd {h : Heap} {lo hi : Nat} {z : AV} {p : Pr} (o : OwnP h lo hi z p) : dePr h z = some p := by
  obtain ⟨w, zb, rfl, o2, o3, o4, o5⟩ := o
  exact dePr_in (flat_in Flat.ins o2 rfl (r := []) (by simp)) (o5.rd Flat.ic)
theorem OwnL.is {α : Type} {en : α → List AV} {sz : Nat} {h : Heap} {lo hi : Nat} {z : AV} {ll : List (List α)} {j : Nat} (o : OwnL en sz h lo hi z ll j) : z.isS ∧ z.slen = j ∧ (∀ g, AV.unc g z = z) ∧ z.one ∧ z.cells = [z] := by
  obtain ⟨f, _, ⟨h0, rfl⟩ | ⟨w, u, rfl, _⟩⟩ := o
  · exact ⟨⟨rfl, rfl⟩, h0.symm, fun _ => rfl, rfl, rfl⟩
  · exact ⟨trivial, rfl, fun _ => rfl, trivial, rfl⟩
def I25 (pa pb : AV) (h : Heap) (n : Nat) (p : Pr) (s : St) : Prop := ∃ j zb, j ≤ p.cols.length ∧ s.e 1 = .p n 0 0 ∧ s.e 2 = .p (n + 1) 0 0 ∧ s.e 3 = .p (n + 4) 0 0 ∧ s.e 4 = ii j ∧ OwnL ic 1 s.h (n + 5) s.n zb p.cols j ∧
  s.h n = some ⟨[pa, pb], 0, true, 2⟩ ∧ s.h (n + 1) = some ⟨[.v (.slice none 0 0), .v (.slice none 0 0)], 0, true, 2⟩ ∧ s.h (n + 2) = some ⟨p.code.flatMap icells, 1, true, 5⟩ ∧ s.h (n + 4) = some ⟨[.s (n + 2) 1 0 p.code.length, zb], 0, true, 2⟩ ∧ agree n h s.h ∧ Fresh s.n s.h ∧ n + 5 ≤ s.n
structure PrSm (p : Pr) : Prop where
  code : p.code.length * 40 ≤ 140737488355328
  cols : p.cols.length * 24 ≤ 140737488355328
  col : ∀ c ∈ p.cols, c.length * 8 ≤ 140737488355328
set_option maxRecDepth 100000 in
set_option maxHeartbeats 4000000 in
theorem c25 {h : Heap} {n : Nat} {x : AV} {p : Pr} (e1 : dePr h x = some p) (hp : PrSm p) (hn : Fresh n h) :
    ACall (cx [] (pfL [])) 25 [x] h n fun z h' n' => agree n h h' ∧ Fresh n' h' ∧ n ≤ n' ∧ OwnP h' n n' z p := by
  refine acall_of_awp (args := [x]) (pfL_ok tb_nil) (mixed _ _) Tryd.func25 (c := Tryd.f25.body.getD .skip) rfl (by kernel_rfl) (callable Tryd.func25 rfl rfl _ _) (show 1 ≤ Tryd.f25.ntmps by decide +kernel) ?_
  obtain ⟨pa, pb, rfl, e3, e4⟩ := dePr_out e1
  obtain ⟨s1, s2, s3, s4, s5⟩ := sl_is e3
  obtain ⟨t1, t2, t3, t4, t5⟩ := sl_is e4
  have key : ∀ e : Nat → AV, e 0 = .g [pa, pb] → awp (cx [] (pfL [])) (Tryd.f25.body.getD .skip) (finQ (cx [] (pfL [])) Tryd.f25 fun z h' n' => agree n h h' ∧ Fresh n' h' ∧ n ≤ n' ∧ OwnP h' n n' z p) ⟨e, h, n⟩ := fun e q0 => by
    have ga : ∀ h'', agree n h h'' → sls h'' pa 0 (p.code.length * 5) := fun h'' ha => (flat_app Flat.ins (rd_agr hn e3 h'' ha)).1
    have gb : ∀ h'', agree n h h'' → slc h'' pa 0 (p.code.length * 5) = p.code.flatMap icells := fun h'' ha => (flat_app Flat.ins (rd_agr hn e3 h'' ha)).2
    have b1 := hp.code
    have b2 : p.code.length ≤ 9223372036854775807 := by omega
    simp [evs, aeval, binS, cx_ti, cx_G, cx_pf, cx_tw, ti, globS, glob, ldcs_1, ldcs_2, ldcs_3, ldcs_4, ldcs_5, ldcs_7, sls.eq_1, slc.eq_1, pfL, Tryd.f25, q0, s1, s2, s3, s4, s5, t4, t5, ga, gb, agree_up, agree_refl, b1, b2]
    refine awp_loop (I25 pa pb h n p) (fun s => p.cols.length - (s.e 4).i.toNat) ⟨0, .v (.slice none 0 0), Nat.zero_le _, by simp [up], by simp [up], by simp [up], by simp [up, ii], ⟨fun _ => 0, ⟨fun i hi => by omega, fun i hi => by omega, fun i _ hi => by omega⟩, .inl ⟨rfl, rfl⟩⟩, by simp [up], by simp [up], by simp [up], by simp [up], by simp [agree_up, agree_refl], by simp [fresh_up, hn.add], by simp⟩ ?_
    rintro e' h' n' ⟨j, zb, hj, q1, q2, q3, q4, hol, hb0, hb1, hb2, hb4, hag, hfr, hnn⟩
    simp only [] at q1 q2 q3 q4 hol hb0 hb1 hb2 hb4 hag hfr hnn
    obtain ⟨v1, v2, v3, v4, v5⟩ := hol.is
    by_cases hlt : j < p.cols.length
    · rcases sls_at e4 with ⟨h0, _⟩ | ⟨id, off, k, rfl, hk, ho, hat⟩
      · rw [h0] at hlt; simp at hlt
      obtain ⟨c, hc, hcr⟩ := hat j hlt
      obtain ⟨u1, u2, u3, u4, u5⟩ := sl_is hcr
      have hid := lt_of hk hn
      have hk' : h' id = some k := by rw [hag id hid]; exact hk
      have y0 : ¬ id = n' := by omega
      have hcb := hp.cols
      have hw := wrap_nat (j := j) (by unfold big; omega)
      have hw1 : off + (j + 1) ≤ k.cells.length := by omega
      have fa : ∀ h'', agree n h h'' → sls h'' c 0 (p.cols[j].length) := fun h'' ha => by simpa using (flat_app Flat.ic (rd_agr hn hcr h'' ha)).1
      have fb : ∀ h'', agree n h h'' → slc h'' c 0 (p.cols[j].length) = p.cols[j].flatMap ic := fun h'' ha => by simpa using (flat_app Flat.ic (rd_agr hn hcr h'' ha)).2
      have hll := hp.col _ (List.getElem_mem hlt)
      have hg : p.cols.getD j [] = p.cols[j] := by simp [List.getD_eq_getElem?_getD, hlt]
      have b3 : (j + 1) * 24 ≤ 140737488355328 := by omega
      have b4 : j + 1 ≤ 9223372036854775807 := by omega
      have b5 : p.cols[j].length ≤ 9223372036854775807 := by omega
      have f0 : n ≤ n' := by omega
      have f1 : n ≤ n' + 1 := by omega
      have f2 : n ≤ n' + 2 := by omega
      have f3 : n ≤ n' + 3 := by omega
      have f4 : n ≤ n + 4 := by omega
      have z0 : ¬ n = n' := by omega
      have z1 : ¬ n + 4 = n' := by omega
      have z2 : ¬ n = n' + 2 := by omega
      have z3 : ¬ n = n' + 3 := by omega
      have z4 : ¬ n + 4 = n' + 2 := by omega
      have z5 : ¬ n + 4 = n' + 3 := by omega
      have z6 : ¬ n + 1 = n' := by omega
      have z7 : ¬ n + 1 = n' + 2 := by omega
      have z8 : ¬ n + 1 = n' + 3 := by omega
      have z9 : ¬ n + 2 = n' := by omega
      have x1 : ¬ n + 2 = n' + 3 := by omega
      have x2 : ¬ n' = n + 4 := by omega
      have x3 : n + 4 < n' + 5 := by omega
      have x4 : ¬ n + 2 = n' + 2 := by omega
      have x5 : ¬ n' + 3 = n + 4 := by omega
      have x6 : ¬ n' = n := by omega
      have x7 : ¬ n = n' + 1 := by omega
      have x8 : ¬ n' = n + 1 := by omega
      have x9 : ¬ n' = n + 2 := by omega
      generalize hgl : p.cols[j] = lj at *
      generalize hfl : lj.flatMap ic = cl at *
      obtain ⟨f, hof, hz⟩ := hol
      rcases hz with ⟨hj0, rfl⟩ | ⟨w, u, rfl, hw0, hw2, hw3, hne⟩
      · simp [evs, aeval, binS, cx_ti, cx_G, cx_pf, cx_tw, ti, globS, glob, ldcs_1, ldcs_2, ldcs_3, ldcs_4, ldcs_5, ldcs_7, sls.eq_1, slc.eq_1, pfL, q1, q2, q3, q4, hb0, hb4, ii, t2, hlt, hk', y0, hc, hw1, u1, u2, u3, u4, u5, fa, fb, agree_up, hag, f0, f1, f2, f3, f4, hll, b3, b4, b5, hw, z0, z1, z2, z3, z4, z5, x2, x5, x6]
        refine ⟨(le_upf (hfr _ (Nat.le_refl _)) _).2 ((le_upf (hfr _ (Nat.le_refl _)) _).2 (Heap.le_refl _)), ⟨j + 1, .s (n' + 3) 0 0 1, by omega, by simp [up, q1], by simp [up, q2], by simp [up, q3], by simp [up, ii], ⟨fun i => if i = j then n' else f i, hof.snoc (hi2 := n' + 5) (fun i hi => by omega) hnn (Nat.le_refl _) (by omega) (by rw [hg, hfl]; simp [up, x2]), .inr ⟨n' + 3, 0, by rw [hj0], ?_, by omega, by simp only []; omega, fun i hi => ?_⟩⟩, by simp [up, z0, z2, z3, x6, hb0], by simp [up, z0, z2, z6, z7, z8, x7, hb1], by simp [up, z0, z9, x1, x4, x7, hb2], by simp [up], by simp [agree_up, hag, f0, f1, f2, f3, f4], by simp [fresh_up, hfr.add, x3], by simp only []; omega⟩, by omega⟩
        · simp only [lcells_snoc, hg]
          rw [hj0]
          simp [up, x5, x8, lcells]
        · simp only []
          rw [if_pos (by omega)]
          omega
      · have yw : ¬ w = n' := by omega
        have yw1 : ¬ w = n' + 2 := by omega
        have yw2 : ¬ n' = w := by omega
        have yw3 : n ≤ w := by omega
        have yw4 : w < n' + 5 := by omega
        have yw5 : ¬ n = w := by omega
        have yw6 : ¬ n + 4 = w := by omega
        have yw7 : ¬ w = n + 4 := by omega
        have yw8 : ¬ n + 1 = w := by omega
        have yw9 : ¬ n + 2 = w := by omega
        have hcl := lcells_len f p.cols j
        have hls := lcells_snoc f p.cols j n'
        generalize lcells f p.cols j = lc at *
        simp [evs, aeval, binS, cx_ti, cx_G, cx_pf, cx_tw, ti, globS, glob, ldcs_1, ldcs_2, ldcs_3, ldcs_4, ldcs_5, ldcs_7, sls.eq_1, slc.eq_1, pfL, q1, q2, q3, q4, hb0, hb4, ii, t2, hlt, hk', y0, hc, hw1, u1, u2, u3, u4, u5, fa, fb, agree_up, hag, f0, f1, f2, f3, f4, hll, b3, b4, b5, hw, z0, z1, z2, z3, z4, z5, x2, x5, x6, hw0, yw, yw1, yw2, yw5, yw6, hcl]
        refine ⟨(le_upf (hfr _ (Nat.le_refl _)) _).2 ((le_upf (hfr _ (Nat.le_refl _)) _).2 (Heap.le_refl _)), ⟨j + 1, .s w (u + 1) 0 (j + 1), by omega, by simp [up, q1], by simp [up, q2], by simp [up, q3], by simp [up, ii], ⟨fun i => if i = j then n' else f i, hof.snoc (hi2 := n' + 5) (fun i hi => ?_) hnn (Nat.le_refl _) (by omega) (by rw [hg, hfl]; simp [up, x2, yw2]), .inr ⟨w, u + 1, rfl, by simp only [hls, hg]; simp [up, yw7], by omega, by simp only []; omega, fun i hi => ?_⟩⟩, by simp [up, z0, z2, z3, x6, hb0, yw5], by simp [up, z0, z2, z6, z7, z8, x7, hb1, yw8], by simp [up, z0, z9, x1, x4, x7, hb2, yw9], by simp [up], by simp [agree_up, hag, f0, f1, f2, f3, f4, yw3], by simp [fresh_up, hfr.add, x3, yw4], by simp only []; omega⟩, by omega⟩
        · have r := hof.rng i hi
          have r1 := hne i hi
          have r2 : ¬ f i = n' := by omega
          have r3 : ¬ f i = n' + 2 := by omega
          have r4 : ¬ f i = n + 4 := by omega
          simp [up, r1, r2, r3, r4]
        · simp only []
          split
          · omega
          · exact hne i (by omega)
    · have hje : j = p.cols.length := by omega
      subst hje
      have x1 : ¬ n + 4 = n + 1 := by omega
      simp [evs, aeval, binS, cx_ti, cx_G, cx_pf, cx_tw, ti, globS, glob, ldcs_1, ldcs_2, ldcs_3, ldcs_4, ldcs_5, ldcs_7, sls.eq_1, slc.eq_1, pfL, q1, q2, q3, q4, hb0, hb1, hb4, ii, t1, t2, t3, v4, v5]
      have w1 : n + 1 < n' + 1 := by omega
      refine ⟨by simp [agree_up, hag], by simp [fresh_up, w1, hfr.add], by omega, n + 2, zb, rfl, by simp [up, hb2], by omega, by omega, ?_⟩
      refine (hol.lo (lo' := n + 3) (by omega)).congr (fun q h1 h2 => ?_) (by omega)
      rw [up_ne _ _ (by omega)]
  exact key _ rfl
end Go.Proofs.YtkfphaphiikloaaDoor
