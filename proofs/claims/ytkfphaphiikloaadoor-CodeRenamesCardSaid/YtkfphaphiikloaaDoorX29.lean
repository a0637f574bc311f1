/-
  TREES, PART T: a tree that is turned into another one.
-/
import Derived.Test.YtkfphaphiikloaaDoorX19
set_option linter.unusedSimpArgs false
set_option linter.unusedVariables false
set_option linter.constructorNameAsVariable false
namespace Go.Proofs.YtkfphaphiikloaaDoor
open Go Go.Eng

theorem flat_set {α : Type} {sz : Nat} {d : De α} {en : α → List AV} (f : Flat sz d en) (r : List AV) {c : Nat} (hc : c < sz) (v : AV) (y : α) : ∀ (l : List α) (i : Nat) (hi : i < l.length), (en l[i]).set c v = en y → (l.flatMap en ++ r).set (i * sz + c) v = (l.set i y).flatMap en ++ r
  | [], _, h, _ => by simp at h
  | x :: l, 0, _, e => by
    simp only [List.getElem_cons_zero] at e
    rw [List.flatMap_cons, List.append_assoc, Nat.zero_mul, Nat.zero_add, List.set_append_left _ _ (by rw [f.len]; exact hc), e, List.set_cons_zero, List.flatMap_cons, List.append_assoc]
  | x :: l, i + 1, h, e => by
    simp only [List.getElem_cons_succ] at e
    rw [List.flatMap_cons, List.append_assoc, List.set_append_right _ _ (by rw [f.len, Nat.succ_mul]; omega), f.len, Nat.succ_mul, show i * sz + sz + c - sz = i * sz + c by omega, flat_set f r hc v y l i (by simpa using h) e, List.set_cons_succ, List.flatMap_cons, List.append_assoc]
theorem flat_get {t : List Nd} {i : Nat} (hi : i < t.length) (r : List AV) : (t.flatMap ncells ++ r)[i * 6]? = some (ii t[i].op) ∧ (t.flatMap ncells ++ r)[i * 6 + 1]? = some (ii t[i].n) ∧ (t.flatMap ncells ++ r)[i * 6 + 3]? = some (ss t[i].attr) := by
  have h := flat_drop Flat.nd t i hi r
  exact ⟨cell_of (c := 0) h rfl (by omega), cell_of (c := 1) h rfl (by omega), cell_of (c := 3) h rfl (by omega)⟩
def IJ (z : AV) (w u n : Nat) (h : Heap) (rest : List AV) (len i : Nat) (s : St) : Prop := ∃ t' : List Nd, t'.length = len ∧ (∀ x ∈ t', Rng x.n) ∧ s.e 0 = z ∧ s.e 2 = ii i ∧ s.h w = some ⟨t'.flatMap ncells ++ rest, u, true, 6⟩ ∧ (∀ q, q ≠ w → s.h q = h q) ∧ Fresh s.n s.h ∧ n ≤ s.n
def IK (z : AV) (w u n : Nat) (h : Heap) (rest : List AV) (len i : Nat) (s : St) : Prop := ∃ k, i < k ∧ k ≤ len ∧ s.e 3 = ii k ∧ IJ z w u n h rest len i s
theorem set_rng {t : List Nd} (h : ∀ x ∈ t, Rng x.n) {i : Nat} {y : Nd} (hy : Rng y.n) : ∀ x ∈ t.set i y, Rng x.n := fun x hx => by
  rcases List.mem_or_eq_of_mem_set hx with h1 | rfl
  · exact h x h1
  · exact hy
theorem wrap_rng (x : Int) : Rng (IntKind.i64.wrap x) := by
  obtain ⟨_, _, h⟩ := W_spec x
  exact h
set_option maxRecDepth 100000 in
set_option maxHeartbeats 8000000 in
theorem c26 {h : Heap} {n w u : Nat} {t : List Nd} {rest : List AV} (hw : h w = some ⟨t.flatMap ncells ++ rest, u, true, 6⟩) (hp : smallT t) (hr : ∀ x ∈ t, Rng x.n) (hn : Fresh n h) (hwn : w < n) :
    ACall (cx [] (pfL [])) 26 [.s w u 0 t.length] h n fun _ h' n' => (∀ q, q ≠ w → h' q = h q) ∧ Fresh n' h' ∧ n ≤ n' ∧ ∃ t' : List Nd, t'.length = t.length ∧ (∀ x ∈ t', Rng x.n) ∧ h' w = some ⟨t'.flatMap ncells ++ rest, u, true, 6⟩ := by
  refine acall_of_awp (args := [.s w u 0 t.length]) (pfL_ok tb_nil) (mixed _ _) Tryd.func26 (c := Tryd.f26.body.getD .skip) rfl (by kernel_rfl) (callable Tryd.func26 rfl rfl _ _) (show 1 ≤ Tryd.f26.ntmps by decide +kernel) ?_
  have hp' : t.length * 64 ≤ 140737488355328 := hp
  have key : ∀ e : Nat → AV, e 0 = .s w u 0 t.length → awp (cx [] (pfL [])) (Tryd.f26.body.getD .skip) (finQ (cx [] (pfL [])) Tryd.f26 fun _ h' n' => (∀ q, q ≠ w → h' q = h q) ∧ Fresh n' h' ∧ n ≤ n' ∧ ∃ t' : List Nd, t'.length = t.length ∧ (∀ x ∈ t', Rng x.n) ∧ h' w = some ⟨t'.flatMap ncells ++ rest, u, true, 6⟩) ⟨e, h, n⟩ := fun e q0 => by
    simp [evs, aeval, binS, cx_ti, cx_G, cx_pf, cx_tw, ti, globS, glob, ldcs_1, ldcs_2, ldcs_3, ldcs_4, ldcs_5, ldcs_7, sls.eq_1, slc.eq_1, pfL, Tryd.f26, q0]
    refine awp_loop (fun s => ∃ i, i ≤ t.length ∧ IJ (.s w u 0 t.length) w u n h rest t.length i s) (fun s => t.length - (s.e 2).i.toNat) ⟨0, Nat.zero_le _, t, rfl, hr, by simp [up, q0], by simp [up, ii], hw, fun _ _ => rfl, hn, Nat.le_refl _⟩ ?_
    rintro e' h' n' ⟨i, hi, t', htl, htr, q0, q2, hk, hoth, hfr, hnn⟩
    simp only [] at q0 q2 hk hoth hfr hnn
    by_cases hlt : i < t.length
    · have hwi := wrap_nat (j := i) (by unfold big; omega)
      have hi' : i < t'.length := by omega
      obtain ⟨c0, c1, c3⟩ := flat_get hi' rest
      have hcl : (t'.flatMap ncells ++ rest).length = t.length * 6 + rest.length := by rw [List.length_append, flat_len Flat.nd, htl]
      have hst1 : ∀ v, (t'.flatMap ncells ++ rest).set (i * 6 + 1) (.v (.int .i64 v)) = (t'.set i ⟨t'[i].op, v, t'[i].var, t'[i].attr, t'[i].a, t'[i].b⟩).flatMap ncells ++ rest := fun v => flat_set Flat.nd rest (by omega) _ _ t' i hi' rfl
      have hst0 : ∀ v, (t'.flatMap ncells ++ rest).set (i * 6) (.v (.int .i64 v)) = (t'.set i ⟨v, t'[i].n, t'[i].var, t'[i].attr, t'[i].a, t'[i].b⟩).flatMap ncells ++ rest := fun v => flat_set Flat.nd rest (c := 0) (by omega) _ _ t' i hi' rfl
      have hri := htr _ (List.getElem_mem hi')
      have w1 : i * 6 + 1 ≤ t.length * 6 + rest.length := by omega
      have w2 : i * 6 + 2 ≤ t.length * 6 + rest.length := by omega
      have step : ∀ (e'' : Nat → AV) (h'' : Heap) (n'' : Nat) (t'' : List Nd), t''.length = t.length → (∀ x ∈ t'', Rng x.n) → e'' 0 = .s w u 0 t.length → e'' 2 = ii i → e'' 3 = ii (i + 1 : Nat) → h'' w = some ⟨t''.flatMap ncells ++ rest, u, true, 6⟩ → (∀ q, q ≠ w → h'' q = h q) → Fresh n'' h'' → n ≤ n'' → IK (.s w u 0 t.length) w u n h rest t.length i ⟨e'', h'', n''⟩ := fun e'' h'' n'' t'' a1 a2 a3 a4 a5 a6 a7 a8 a9 => ⟨i + 1, by omega, by omega, a5, t'', a1, a2, a3, a4, a6, a7, a8, a9⟩
      generalize t'[i].op = op at *
      generalize t'[i].n = num at *
      generalize t'[i].attr = attr at *
      generalize hcs : t'.flatMap ncells ++ rest = cs at *
      by_cases o1 : op = 1
      · subst o1
        simp [evs, aeval, binS, cx_ti, cx_G, cx_pf, cx_tw, ti, globS, glob, ldcs_1, ldcs_2, ldcs_3, ldcs_4, ldcs_5, ldcs_7, sls.eq_1, slc.eq_1, pfL, q0, q2, ii, ss, hlt, hk, hcl, c0, c1, c3, w1, w2, hwi]
        refine awp_loop (IK (.s w u 0 t.length) w u n h rest t.length i) (fun s => t.length - (s.e 3).i.toNat) (step _ _ _ _ (by rw [List.length_set]; exact htl) (set_rng htr (wrap_rng _)) (by simp [up, q0]) (by simp [up, q2, ii]) (by simp [up, ii]) ((up_same _ _ _).trans (congrArg (fun c => some (Blk.mk c u true 6)) (hst1 _))) (fun q hq => (up_ne _ _ hq).trans (hoth q hq)) ((fresh_up (by omega) _).2 (hfr.add 1)) (by omega)) ?_
        clear hk hcs hoth hfr hnn q0 q2 htl htr hst0 hst1 c0 c1 c3 hcl step
        rintro e9 h9 n9 ⟨k, hik, hkl, q3, t9, htl, htr, q0, q2, hk, hoth, hfr, hnn⟩
        simp only [] at q0 q2 q3 hk hoth hfr hnn
        have hi9 : i < t9.length := by omega
        obtain ⟨_, _, c3⟩ := flat_get hi9 rest
        have hcl : (t9.flatMap ncells ++ rest).length = t.length * 6 + rest.length := by rw [List.length_append, flat_len Flat.nd, htl]
        have hem : ByteArray.mk #[] = ByteArray.empty := rfl
        have hne : ∀ y z : ByteArray, (y != z) = !(y == z) := fun _ _ => rfl
        have w4 : i * 6 + 4 ≤ t.length * 6 + rest.length := by omega
        have hd1 : ∃ b, b = true := ⟨true, rfl⟩
        by_cases hkt : k < t.length
        · have hk9 : k < t9.length := by omega
          have hwk := wrap_nat (j := k) (by unfold big; omega)
          obtain ⟨_, _, d3⟩ := flat_get hk9 rest
          have w5 : k * 6 + 4 ≤ t.length * 6 + rest.length := by omega
          have hst3 : (t9.flatMap ncells ++ rest).set (i * 6 + 3) (.v (.string t9[k].attr)) = (t9.set i ⟨t9[i].op, t9[i].n, t9[i].var, t9[k].attr, t9[i].a, t9[i].b⟩).flatMap ncells ++ rest := flat_set Flat.nd rest (by omega) _ _ t9 i hi9 rfl
          have hrs := set_rng htr (i := i) (y := ⟨t9[i].op, t9[i].n, t9[i].var, t9[k].attr, t9[i].a, t9[i].b⟩) (htr t9[i] (List.getElem_mem hi9))
          have nxt : ∀ (e'' : Nat → AV) (h'' : Heap) (n'' : Nat) (t'' : List Nd), t''.length = t.length → (∀ x ∈ t'', Rng x.n) → e'' 0 = .s w u 0 t.length → e'' 2 = ii i → e'' 3 = ii (k + 1 : Nat) → h'' w = some ⟨t''.flatMap ncells ++ rest, u, true, 6⟩ → (∀ q, q ≠ w → h'' q = h q) → Fresh n'' h'' → n ≤ n'' → IK (.s w u 0 t.length) w u n h rest t.length i ⟨e'', h'', n''⟩ := fun e'' h'' n'' t'' a1 a2 a3 a4 a5 a6 a7 a8 a9 => ⟨k + 1, by omega, by omega, a5, t'', a1, a2, a3, a4, a6, a7, a8, a9⟩
          generalize hai : t9[i].attr = ai at *
          generalize hak : t9[k].attr = ak at *
          generalize hcs : t9.flatMap ncells ++ rest = cs at *
          cases h1 : (ai == ByteArray.empty)
          · cases h2 : (ak == ByteArray.empty)
            · cases h3 : (ak == ai)
              · simp [evs, aeval, binS, cx_ti, cx_G, cx_pf, cx_tw, ti, globS, glob, ldcs_1, ldcs_2, ldcs_3, ldcs_4, ldcs_5, ldcs_7, sls.eq_1, slc.eq_1, pfL, q0, q2, q3, ii, ss, hlt, hkt, hk, hcl, c3, d3, w4, w5, hwk, hem, hne, h1, h2, h3]
                exact ⟨nxt _ _ _ _ (by rw [List.length_set]; exact htl) hrs (by simp [up, q0]) (by simp [up, q2, ii]) (by simp [up, ii]) ((up_same _ _ _).trans (congrArg (fun c => some (Blk.mk c u true 6)) hst3)) (fun q hq => (up_ne _ _ hq).trans (hoth q hq)) ((fresh_up (by omega) _).2 (hfr.add 1)) (by omega), by omega⟩
              · simp [evs, aeval, binS, cx_ti, cx_G, cx_pf, cx_tw, ti, globS, glob, ldcs_1, ldcs_2, ldcs_3, ldcs_4, ldcs_5, ldcs_7, sls.eq_1, slc.eq_1, pfL, q0, q2, q3, ii, ss, hlt, hkt, hk, hcl, c3, d3, w4, w5, hwk, hem, hne, h1, h2, h3]
                exact ⟨nxt _ _ _ t9 htl htr (by simp [up, q0]) (by simp [up, q2, ii]) (by simp [up, ii]) (by rw [hcs]; exact hk) hoth hfr hnn, by omega⟩
            · simp [evs, aeval, binS, cx_ti, cx_G, cx_pf, cx_tw, ti, globS, glob, ldcs_1, ldcs_2, ldcs_3, ldcs_4, ldcs_5, ldcs_7, sls.eq_1, slc.eq_1, pfL, q0, q2, q3, ii, ss, hlt, hkt, hk, hcl, c3, d3, w4, w5, hwk, hem, hne, h1, h2]
              exact ⟨nxt _ _ _ t9 htl htr (by simp [up, q0]) (by simp [up, q2, ii]) (by simp [up, ii]) (by rw [hcs]; exact hk) hoth hfr hnn, by omega⟩
          · simp [evs, aeval, binS, cx_ti, cx_G, cx_pf, cx_tw, ti, globS, glob, ldcs_1, ldcs_2, ldcs_3, ldcs_4, ldcs_5, ldcs_7, sls.eq_1, slc.eq_1, pfL, q0, q2, q3, ii, ss, hlt, hkt, hk, hcl, c3, d3, w4, w5, hwk, hem, hne, h1, hwi]
            exact ⟨⟨i + 1, by omega, t9, htl, htr, by simp [up, q0], by simp [up, ii], by rw [hcs]; exact hk, hoth, hfr, hnn⟩, by omega⟩
        · obtain rfl : k = t.length := by omega
          generalize hcs : t9.flatMap ncells ++ rest = cs at *
          generalize t9[i].attr = ai at *
          simp [evs, aeval, binS, cx_ti, cx_G, cx_pf, cx_tw, ti, globS, glob, ldcs_1, ldcs_2, ldcs_3, ldcs_4, ldcs_5, ldcs_7, sls.eq_1, slc.eq_1, pfL, q0, q2, q3, ii, ss, hlt, hk, hcl, c3, w4, hem, hne, hwi]
          exact ⟨⟨i + 1, by omega, t9, htl, htr, by simp [up, q0], by simp [up, ii], by rw [hcs]; exact hk, hoth, hfr, hnn⟩, by omega⟩
      by_cases o2 : op = 2
      · subst o2
        simp [evs, aeval, binS, cx_ti, cx_G, cx_pf, cx_tw, ti, globS, glob, ldcs_1, ldcs_2, ldcs_3, ldcs_4, ldcs_5, ldcs_7, sls.eq_1, slc.eq_1, pfL, q0, q2, ii, ss, hlt, hk, hcl, c0, c1, c3, w1, w2, hwi]
        refine awp_loop (IK (.s w u 0 t.length) w u n h rest t.length i) (fun s => t.length - (s.e 3).i.toNat) (step _ _ _ _ (by rw [List.length_set]; exact htl) (set_rng htr hri) (by simp [up, q0]) (by simp [up, q2, ii]) (by simp [up, ii]) ((up_same _ _ _).trans (congrArg (fun c => some (Blk.mk c u true 6)) (hst0 _))) (fun q hq => (up_ne _ _ hq).trans (hoth q hq)) ((fresh_up (by omega) _).2 (hfr.add 1)) (by omega)) ?_
        clear hk hcs hoth hfr hnn q0 q2 htl htr hst0 hst1 c0 c1 c3 hcl step
        rintro e9 h9 n9 ⟨k, hik, hkl, q3, t9, htl, htr, q0, q2, hk, hoth, hfr, hnn⟩
        simp only [] at q0 q2 q3 hk hoth hfr hnn
        have hi9 : i < t9.length := by omega
        obtain ⟨_, _, c3⟩ := flat_get hi9 rest
        have hcl : (t9.flatMap ncells ++ rest).length = t.length * 6 + rest.length := by rw [List.length_append, flat_len Flat.nd, htl]
        have hem : ByteArray.mk #[] = ByteArray.empty := rfl
        have hne : ∀ y z : ByteArray, (y != z) = !(y == z) := fun _ _ => rfl
        have w4 : i * 6 + 4 ≤ t.length * 6 + rest.length := by omega
        have hd1 : ∃ b, b = true := ⟨true, rfl⟩
        by_cases hkt : k < t.length
        · have hk9 : k < t9.length := by omega
          have hwk := wrap_nat (j := k) (by unfold big; omega)
          obtain ⟨_, _, d3⟩ := flat_get hk9 rest
          have w5 : k * 6 + 4 ≤ t.length * 6 + rest.length := by omega
          have hst3 : (t9.flatMap ncells ++ rest).set (i * 6 + 3) (.v (.string t9[k].attr)) = (t9.set i ⟨t9[i].op, t9[i].n, t9[i].var, t9[k].attr, t9[i].a, t9[i].b⟩).flatMap ncells ++ rest := flat_set Flat.nd rest (by omega) _ _ t9 i hi9 rfl
          have hrs := set_rng htr (i := i) (y := ⟨t9[i].op, t9[i].n, t9[i].var, t9[k].attr, t9[i].a, t9[i].b⟩) (htr t9[i] (List.getElem_mem hi9))
          have nxt : ∀ (e'' : Nat → AV) (h'' : Heap) (n'' : Nat) (t'' : List Nd), t''.length = t.length → (∀ x ∈ t'', Rng x.n) → e'' 0 = .s w u 0 t.length → e'' 2 = ii i → e'' 3 = ii (k + 1 : Nat) → h'' w = some ⟨t''.flatMap ncells ++ rest, u, true, 6⟩ → (∀ q, q ≠ w → h'' q = h q) → Fresh n'' h'' → n ≤ n'' → IK (.s w u 0 t.length) w u n h rest t.length i ⟨e'', h'', n''⟩ := fun e'' h'' n'' t'' a1 a2 a3 a4 a5 a6 a7 a8 a9 => ⟨k + 1, by omega, by omega, a5, t'', a1, a2, a3, a4, a6, a7, a8, a9⟩
          generalize hai : t9[i].attr = ai at *
          generalize hak : t9[k].attr = ak at *
          generalize hcs : t9.flatMap ncells ++ rest = cs at *
          cases h1 : (ai == ByteArray.empty)
          · cases h2 : (ak == ByteArray.empty)
            · cases h3 : (ak == ai)
              · simp [evs, aeval, binS, cx_ti, cx_G, cx_pf, cx_tw, ti, globS, glob, ldcs_1, ldcs_2, ldcs_3, ldcs_4, ldcs_5, ldcs_7, sls.eq_1, slc.eq_1, pfL, q0, q2, q3, ii, ss, hlt, hkt, hk, hcl, c3, d3, w4, w5, hwk, hem, hne, h1, h2, h3]
                exact ⟨nxt _ _ _ _ (by rw [List.length_set]; exact htl) hrs (by simp [up, q0]) (by simp [up, q2, ii]) (by simp [up, ii]) ((up_same _ _ _).trans (congrArg (fun c => some (Blk.mk c u true 6)) hst3)) (fun q hq => (up_ne _ _ hq).trans (hoth q hq)) ((fresh_up (by omega) _).2 (hfr.add 1)) (by omega), by omega⟩
              · simp [evs, aeval, binS, cx_ti, cx_G, cx_pf, cx_tw, ti, globS, glob, ldcs_1, ldcs_2, ldcs_3, ldcs_4, ldcs_5, ldcs_7, sls.eq_1, slc.eq_1, pfL, q0, q2, q3, ii, ss, hlt, hkt, hk, hcl, c3, d3, w4, w5, hwk, hem, hne, h1, h2, h3]
                exact ⟨nxt _ _ _ t9 htl htr (by simp [up, q0]) (by simp [up, q2, ii]) (by simp [up, ii]) (by rw [hcs]; exact hk) hoth hfr hnn, by omega⟩
            · simp [evs, aeval, binS, cx_ti, cx_G, cx_pf, cx_tw, ti, globS, glob, ldcs_1, ldcs_2, ldcs_3, ldcs_4, ldcs_5, ldcs_7, sls.eq_1, slc.eq_1, pfL, q0, q2, q3, ii, ss, hlt, hkt, hk, hcl, c3, d3, w4, w5, hwk, hem, hne, h1, h2]
              exact ⟨nxt _ _ _ t9 htl htr (by simp [up, q0]) (by simp [up, q2, ii]) (by simp [up, ii]) (by rw [hcs]; exact hk) hoth hfr hnn, by omega⟩
          · simp [evs, aeval, binS, cx_ti, cx_G, cx_pf, cx_tw, ti, globS, glob, ldcs_1, ldcs_2, ldcs_3, ldcs_4, ldcs_5, ldcs_7, sls.eq_1, slc.eq_1, pfL, q0, q2, q3, ii, ss, hlt, hkt, hk, hcl, c3, d3, w4, w5, hwk, hem, hne, h1, hwi]
            exact ⟨⟨i + 1, by omega, t9, htl, htr, by simp [up, q0], by simp [up, ii], by rw [hcs]; exact hk, hoth, hfr, hnn⟩, by omega⟩
        · obtain rfl : k = t.length := by omega
          generalize hcs : t9.flatMap ncells ++ rest = cs at *
          generalize t9[i].attr = ai at *
          simp [evs, aeval, binS, cx_ti, cx_G, cx_pf, cx_tw, ti, globS, glob, ldcs_1, ldcs_2, ldcs_3, ldcs_4, ldcs_5, ldcs_7, sls.eq_1, slc.eq_1, pfL, q0, q2, q3, ii, ss, hlt, hk, hcl, c3, w4, hem, hne, hwi]
          exact ⟨⟨i + 1, by omega, t9, htl, htr, by simp [up, q0], by simp [up, ii], by rw [hcs]; exact hk, hoth, hfr, hnn⟩, by omega⟩
      by_cases o3 : op = 3
      · subst o3
        simp [evs, aeval, binS, cx_ti, cx_G, cx_pf, cx_tw, ti, globS, glob, ldcs_1, ldcs_2, ldcs_3, ldcs_4, ldcs_5, ldcs_7, sls.eq_1, slc.eq_1, pfL, q0, q2, ii, ss, hlt, hk, hcl, c0, c1, c3, w1, w2, hwi]
        refine awp_loop (IK (.s w u 0 t.length) w u n h rest t.length i) (fun s => t.length - (s.e 3).i.toNat) (step _ _ _ _ (by rw [List.length_set]; exact htl) (set_rng htr hri) (by simp [up, q0]) (by simp [up, q2, ii]) (by simp [up, ii]) ((up_same _ _ _).trans (congrArg (fun c => some (Blk.mk c u true 6)) (hst0 _))) (fun q hq => (up_ne _ _ hq).trans (hoth q hq)) ((fresh_up (by omega) _).2 (hfr.add 1)) (by omega)) ?_
        clear hk hcs hoth hfr hnn q0 q2 htl htr hst0 hst1 c0 c1 c3 hcl step
        rintro e9 h9 n9 ⟨k, hik, hkl, q3, t9, htl, htr, q0, q2, hk, hoth, hfr, hnn⟩
        simp only [] at q0 q2 q3 hk hoth hfr hnn
        have hi9 : i < t9.length := by omega
        obtain ⟨_, _, c3⟩ := flat_get hi9 rest
        have hcl : (t9.flatMap ncells ++ rest).length = t.length * 6 + rest.length := by rw [List.length_append, flat_len Flat.nd, htl]
        have hem : ByteArray.mk #[] = ByteArray.empty := rfl
        have hne : ∀ y z : ByteArray, (y != z) = !(y == z) := fun _ _ => rfl
        have w4 : i * 6 + 4 ≤ t.length * 6 + rest.length := by omega
        have hd1 : ∃ b, b = true := ⟨true, rfl⟩
        by_cases hkt : k < t.length
        · have hk9 : k < t9.length := by omega
          have hwk := wrap_nat (j := k) (by unfold big; omega)
          obtain ⟨_, _, d3⟩ := flat_get hk9 rest
          have w5 : k * 6 + 4 ≤ t.length * 6 + rest.length := by omega
          have hst3 : (t9.flatMap ncells ++ rest).set (i * 6 + 3) (.v (.string t9[k].attr)) = (t9.set i ⟨t9[i].op, t9[i].n, t9[i].var, t9[k].attr, t9[i].a, t9[i].b⟩).flatMap ncells ++ rest := flat_set Flat.nd rest (by omega) _ _ t9 i hi9 rfl
          have hrs := set_rng htr (i := i) (y := ⟨t9[i].op, t9[i].n, t9[i].var, t9[k].attr, t9[i].a, t9[i].b⟩) (htr t9[i] (List.getElem_mem hi9))
          have nxt : ∀ (e'' : Nat → AV) (h'' : Heap) (n'' : Nat) (t'' : List Nd), t''.length = t.length → (∀ x ∈ t'', Rng x.n) → e'' 0 = .s w u 0 t.length → e'' 2 = ii i → e'' 3 = ii (k + 1 : Nat) → h'' w = some ⟨t''.flatMap ncells ++ rest, u, true, 6⟩ → (∀ q, q ≠ w → h'' q = h q) → Fresh n'' h'' → n ≤ n'' → IK (.s w u 0 t.length) w u n h rest t.length i ⟨e'', h'', n''⟩ := fun e'' h'' n'' t'' a1 a2 a3 a4 a5 a6 a7 a8 a9 => ⟨k + 1, by omega, by omega, a5, t'', a1, a2, a3, a4, a6, a7, a8, a9⟩
          generalize hai : t9[i].attr = ai at *
          generalize hak : t9[k].attr = ak at *
          generalize hcs : t9.flatMap ncells ++ rest = cs at *
          cases h1 : (ai == ByteArray.empty)
          · cases h2 : (ak == ByteArray.empty)
            · cases h3 : (ak == ai)
              · simp [evs, aeval, binS, cx_ti, cx_G, cx_pf, cx_tw, ti, globS, glob, ldcs_1, ldcs_2, ldcs_3, ldcs_4, ldcs_5, ldcs_7, sls.eq_1, slc.eq_1, pfL, q0, q2, q3, ii, ss, hlt, hkt, hk, hcl, c3, d3, w4, w5, hwk, hem, hne, h1, h2, h3]
                exact ⟨nxt _ _ _ _ (by rw [List.length_set]; exact htl) hrs (by simp [up, q0]) (by simp [up, q2, ii]) (by simp [up, ii]) ((up_same _ _ _).trans (congrArg (fun c => some (Blk.mk c u true 6)) hst3)) (fun q hq => (up_ne _ _ hq).trans (hoth q hq)) ((fresh_up (by omega) _).2 (hfr.add 1)) (by omega), by omega⟩
              · simp [evs, aeval, binS, cx_ti, cx_G, cx_pf, cx_tw, ti, globS, glob, ldcs_1, ldcs_2, ldcs_3, ldcs_4, ldcs_5, ldcs_7, sls.eq_1, slc.eq_1, pfL, q0, q2, q3, ii, ss, hlt, hkt, hk, hcl, c3, d3, w4, w5, hwk, hem, hne, h1, h2, h3]
                exact ⟨nxt _ _ _ t9 htl htr (by simp [up, q0]) (by simp [up, q2, ii]) (by simp [up, ii]) (by rw [hcs]; exact hk) hoth hfr hnn, by omega⟩
            · simp [evs, aeval, binS, cx_ti, cx_G, cx_pf, cx_tw, ti, globS, glob, ldcs_1, ldcs_2, ldcs_3, ldcs_4, ldcs_5, ldcs_7, sls.eq_1, slc.eq_1, pfL, q0, q2, q3, ii, ss, hlt, hkt, hk, hcl, c3, d3, w4, w5, hwk, hem, hne, h1, h2]
              exact ⟨nxt _ _ _ t9 htl htr (by simp [up, q0]) (by simp [up, q2, ii]) (by simp [up, ii]) (by rw [hcs]; exact hk) hoth hfr hnn, by omega⟩
          · simp [evs, aeval, binS, cx_ti, cx_G, cx_pf, cx_tw, ti, globS, glob, ldcs_1, ldcs_2, ldcs_3, ldcs_4, ldcs_5, ldcs_7, sls.eq_1, slc.eq_1, pfL, q0, q2, q3, ii, ss, hlt, hkt, hk, hcl, c3, d3, w4, w5, hwk, hem, hne, h1, hwi]
            exact ⟨⟨i + 1, by omega, t9, htl, htr, by simp [up, q0], by simp [up, ii], by rw [hcs]; exact hk, hoth, hfr, hnn⟩, by omega⟩
        · obtain rfl : k = t.length := by omega
          generalize hcs : t9.flatMap ncells ++ rest = cs at *
          generalize t9[i].attr = ai at *
          simp [evs, aeval, binS, cx_ti, cx_G, cx_pf, cx_tw, ti, globS, glob, ldcs_1, ldcs_2, ldcs_3, ldcs_4, ldcs_5, ldcs_7, sls.eq_1, slc.eq_1, pfL, q0, q2, q3, ii, ss, hlt, hk, hcl, c3, w4, hem, hne, hwi]
          exact ⟨⟨i + 1, by omega, t9, htl, htr, by simp [up, q0], by simp [up, ii], by rw [hcs]; exact hk, hoth, hfr, hnn⟩, by omega⟩
      simp [evs, aeval, binS, cx_ti, cx_G, cx_pf, cx_tw, ti, globS, glob, ldcs_1, ldcs_2, ldcs_3, ldcs_4, ldcs_5, ldcs_7, sls.eq_1, slc.eq_1, pfL, q0, q2, ii, ss, hlt, hk, hcl, c0, c1, c3, w1, w2, hwi, o1, o2, o3]
      refine awp_loop (IK (.s w u 0 t.length) w u n h rest t.length i) (fun s => t.length - (s.e 3).i.toNat) (step _ _ _ t' htl htr (by simp [up, q0]) (by simp [up, q2, ii]) (by simp [up, ii]) (by rw [hcs]; exact hk) hoth hfr hnn) ?_
      clear hk hcs hoth hfr hnn q0 q2 htl htr hst0 hst1 c0 c1 c3 hcl step
      rintro e9 h9 n9 ⟨k, hik, hkl, q3, t9, htl, htr, q0, q2, hk, hoth, hfr, hnn⟩
      simp only [] at q0 q2 q3 hk hoth hfr hnn
      have hi9 : i < t9.length := by omega
      obtain ⟨_, _, c3⟩ := flat_get hi9 rest
      have hcl : (t9.flatMap ncells ++ rest).length = t.length * 6 + rest.length := by rw [List.length_append, flat_len Flat.nd, htl]
      have hem : ByteArray.mk #[] = ByteArray.empty := rfl
      have hne : ∀ y z : ByteArray, (y != z) = !(y == z) := fun _ _ => rfl
      have w4 : i * 6 + 4 ≤ t.length * 6 + rest.length := by omega
      have hd1 : ∃ b, b = true := ⟨true, rfl⟩
      by_cases hkt : k < t.length
      · have hk9 : k < t9.length := by omega
        have hwk := wrap_nat (j := k) (by unfold big; omega)
        obtain ⟨_, _, d3⟩ := flat_get hk9 rest
        have w5 : k * 6 + 4 ≤ t.length * 6 + rest.length := by omega
        have hst3 : (t9.flatMap ncells ++ rest).set (i * 6 + 3) (.v (.string t9[k].attr)) = (t9.set i ⟨t9[i].op, t9[i].n, t9[i].var, t9[k].attr, t9[i].a, t9[i].b⟩).flatMap ncells ++ rest := flat_set Flat.nd rest (by omega) _ _ t9 i hi9 rfl
        have hrs := set_rng htr (i := i) (y := ⟨t9[i].op, t9[i].n, t9[i].var, t9[k].attr, t9[i].a, t9[i].b⟩) (htr t9[i] (List.getElem_mem hi9))
        have nxt : ∀ (e'' : Nat → AV) (h'' : Heap) (n'' : Nat) (t'' : List Nd), t''.length = t.length → (∀ x ∈ t'', Rng x.n) → e'' 0 = .s w u 0 t.length → e'' 2 = ii i → e'' 3 = ii (k + 1 : Nat) → h'' w = some ⟨t''.flatMap ncells ++ rest, u, true, 6⟩ → (∀ q, q ≠ w → h'' q = h q) → Fresh n'' h'' → n ≤ n'' → IK (.s w u 0 t.length) w u n h rest t.length i ⟨e'', h'', n''⟩ := fun e'' h'' n'' t'' a1 a2 a3 a4 a5 a6 a7 a8 a9 => ⟨k + 1, by omega, by omega, a5, t'', a1, a2, a3, a4, a6, a7, a8, a9⟩
        generalize hai : t9[i].attr = ai at *
        generalize hak : t9[k].attr = ak at *
        generalize hcs : t9.flatMap ncells ++ rest = cs at *
        cases h1 : (ai == ByteArray.empty)
        · cases h2 : (ak == ByteArray.empty)
          · cases h3 : (ak == ai)
            · simp [evs, aeval, binS, cx_ti, cx_G, cx_pf, cx_tw, ti, globS, glob, ldcs_1, ldcs_2, ldcs_3, ldcs_4, ldcs_5, ldcs_7, sls.eq_1, slc.eq_1, pfL, q0, q2, q3, ii, ss, hlt, hkt, hk, hcl, c3, d3, w4, w5, hwk, hem, hne, h1, h2, h3]
              exact ⟨nxt _ _ _ _ (by rw [List.length_set]; exact htl) hrs (by simp [up, q0]) (by simp [up, q2, ii]) (by simp [up, ii]) ((up_same _ _ _).trans (congrArg (fun c => some (Blk.mk c u true 6)) hst3)) (fun q hq => (up_ne _ _ hq).trans (hoth q hq)) ((fresh_up (by omega) _).2 (hfr.add 1)) (by omega), by omega⟩
            · simp [evs, aeval, binS, cx_ti, cx_G, cx_pf, cx_tw, ti, globS, glob, ldcs_1, ldcs_2, ldcs_3, ldcs_4, ldcs_5, ldcs_7, sls.eq_1, slc.eq_1, pfL, q0, q2, q3, ii, ss, hlt, hkt, hk, hcl, c3, d3, w4, w5, hwk, hem, hne, h1, h2, h3]
              exact ⟨nxt _ _ _ t9 htl htr (by simp [up, q0]) (by simp [up, q2, ii]) (by simp [up, ii]) (by rw [hcs]; exact hk) hoth hfr hnn, by omega⟩
          · simp [evs, aeval, binS, cx_ti, cx_G, cx_pf, cx_tw, ti, globS, glob, ldcs_1, ldcs_2, ldcs_3, ldcs_4, ldcs_5, ldcs_7, sls.eq_1, slc.eq_1, pfL, q0, q2, q3, ii, ss, hlt, hkt, hk, hcl, c3, d3, w4, w5, hwk, hem, hne, h1, h2]
            exact ⟨nxt _ _ _ t9 htl htr (by simp [up, q0]) (by simp [up, q2, ii]) (by simp [up, ii]) (by rw [hcs]; exact hk) hoth hfr hnn, by omega⟩
        · simp [evs, aeval, binS, cx_ti, cx_G, cx_pf, cx_tw, ti, globS, glob, ldcs_1, ldcs_2, ldcs_3, ldcs_4, ldcs_5, ldcs_7, sls.eq_1, slc.eq_1, pfL, q0, q2, q3, ii, ss, hlt, hkt, hk, hcl, c3, d3, w4, w5, hwk, hem, hne, h1, hwi]
          exact ⟨⟨i + 1, by omega, t9, htl, htr, by simp [up, q0], by simp [up, ii], by rw [hcs]; exact hk, hoth, hfr, hnn⟩, by omega⟩
      · obtain rfl : k = t.length := by omega
        generalize hcs : t9.flatMap ncells ++ rest = cs at *
        generalize t9[i].attr = ai at *
        simp [evs, aeval, binS, cx_ti, cx_G, cx_pf, cx_tw, ti, globS, glob, ldcs_1, ldcs_2, ldcs_3, ldcs_4, ldcs_5, ldcs_7, sls.eq_1, slc.eq_1, pfL, q0, q2, q3, ii, ss, hlt, hk, hcl, c3, w4, hem, hne, hwi]
        exact ⟨⟨i + 1, by omega, t9, htl, htr, by simp [up, q0], by simp [up, ii], by rw [hcs]; exact hk, hoth, hfr, hnn⟩, by omega⟩
    · obtain rfl : i = t.length := by omega
      simp [evs, aeval, binS, cx_ti, cx_G, cx_pf, cx_tw, ti, globS, glob, ldcs_1, ldcs_2, ldcs_3, ldcs_4, ldcs_5, ldcs_7, sls.eq_1, slc.eq_1, pfL, q0, q2, ii]
      exact ⟨hoth, hfr, hnn, t', htl, htr, hk⟩
  exact key _ rfl
end Go.Proofs.YtkfphaphiikloaaDoor
