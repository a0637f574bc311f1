/-
  CodeRenames, PART C: the query and the tree with other names (the law's own).
-/
import Derived.Test.YtkfphaphiikloaaDoorX37
import Derived.Test.YtkfphaphiikloaaDoorX19
import Derived.Test.YtkfphaphiikloaaDoorX23
import Derived.Test.YtkfphaphiikloaaDoorX08
set_option linter.unusedSimpArgs false
set_option linter.unusedVariables false
set_option linter.constructorNameAsVariable false
namespace Go.Proofs.YtkfphaphiikloaaDoor
open Go Go.Eng

theorem num_is (j : Nat) : (⟨#[118]⟩ : ByteArray) ++ itoaB (j : Int) = numB j := by
  apply ByteArray.ext
  simp only [ByteArray.data_append, itoaB, numB, Lib.itoa_nonneg]
  apply Array.ext'
  simp
theorem itoa_sz (j : Nat) (h : j < 1000) : (itoaB (j : Int)).size ≤ 3 := by
  have := dig_len h
  show (itoaB (j : Int)).data.size ≤ 3
  simp only [itoaB, Lib.itoa_nonneg]
  simpa using this
def itz (z : ByteArray) : List AV := [bv false, .v (.slice none 0 0), ss z, ii 0, ii 0]
def mkIt (z : ByteArray) : It := ⟨false, [], z, 0, 0⟩
theorem fm_drop {α : Type} {sz : Nat} {en : α → List AV} (hen : ∀ x, (en x).length = sz) : ∀ (l : List α) (i : Nat) (hi : i < l.length), ((l.flatMap en).drop (i * sz)).take sz = en l[i]
  | [], i, h => by simp at h
  | x :: l, 0, h => by
    simp only [List.flatMap_cons, Nat.zero_mul, List.drop_zero, List.getElem_cons_zero]
    rw [← hen x, List.take_left]
  | x :: l, i + 1, h => by
    have ih := fm_drop hen l i (by simpa using h)
    simp only [List.flatMap_cons, List.getElem_cons_succ]
    rw [Nat.succ_mul, Nat.add_comm, ← List.drop_drop, ← hen x, List.drop_left, hen x]
    exact ih
theorem fm_len {α : Type} {sz : Nat} {en : α → List AV} (hen : ∀ x, (en x).length = sz) (l : List α) : (l.flatMap en).length = l.length * sz := by
  induction l with
  | nil => simp
  | cons x l ih => rw [List.flatMap_cons, List.length_append, hen, ih, List.length_cons, Nat.succ_mul, Nat.add_comm]
theorem its_in {h : Heap} {w u : Nat} {l : List ByteArray} (hw : h w = some ⟨l.flatMap itz, u, true, 5⟩) : rd dIts h (.s w u 0 l.length) = some (l.map mkIt) := by
  have hlen := fm_len (sz := 5) (en := itz) (fun _ => rfl) l
  have := De.sl_in (a := dIt) (sz := 5) (off := 0) (xs := l.map mkIt) hw (by simp only [List.length_map, hlen]; omega) (fun i hi => by
    have hi' : i < l.length := by simpa using hi
    rw [Nat.zero_add, fm_drop (sz := 5) (en := itz) (fun _ => rfl) l i hi', List.getElem_map]
    exact deItc_in (h := h) (ty := .v (.slice none 0 0)) (x := mkIt l[i]) rfl)
  rw [List.length_map] at this
  exact this
theorem vars_mk (l : List ByteArray) : vars (l.map mkIt) = l := by
  unfold vars
  rw [List.map_map]
  exact (List.map_congr_left (fun _ _ => rfl)).trans (List.map_id l)
def tb53 : List (FuncId × (List AV → Heap → PRes)) := [(71, G96), (90, g90)]
theorem tb53_ok : TbOk [8] tb53 := tb_cons P71 (tb_cons p90 tb_nil)
def zq : List AV := [.v (.slice none 0 0), .v (.int .i64 0), .v (.int .i64 0), .v (.slice none 0 0), .v (.int .i64 0), .v (.string ByteArray.empty), .v (.slice none 0 0)]
def zqI (z : AV) : List AV := [z, .v (.int .i64 0), .v (.int .i64 0), .v (.slice none 0 0), .v (.int .i64 0), .v (.string ByteArray.empty), .v (.slice none 0 0)]
/-- A list of items of one's own. -/
def OwnZ (h : Heap) (z : AV) (l : List ByteArray) (lo hi : Nat) : Prop :=
  (l = [] ∧ z = .v (.slice none 0 0)) ∨ ∃ w u, z = .s w u 0 l.length ∧ h w = some ⟨l.flatMap itz, u, true, 5⟩ ∧ lo ≤ w ∧ w < hi
def OwnN (h : Heap) (z : AV) (l : List Nd) (lo hi : Nat) : Prop :=
  (l = [] ∧ z = .v (.slice none 0 0)) ∨ ∃ w u, z = .s w u 0 l.length ∧ h w = some ⟨l.flatMap ncells, u, true, 6⟩ ∧ lo ≤ w ∧ w < hi
theorem OwnZ.up {h h' : Heap} {z : AV} {l : List ByteArray} {lo hi : Nat} (k : OwnZ h z l lo hi) (hh : ∀ q, lo ≤ q → q < hi → h' q = h q) : OwnZ h' z l lo hi := by
  rcases k with h0 | ⟨w, u, h1, h2, h3, h4⟩
  · exact .inl h0
  · exact .inr ⟨w, u, h1, by rw [hh w h3 h4]; exact h2, h3, h4⟩
theorem OwnN.up {h h' : Heap} {z : AV} {l : List Nd} {lo hi : Nat} (k : OwnN h z l lo hi) (hh : ∀ q, lo ≤ q → q < hi → h' q = h q) : OwnN h' z l lo hi := by
  rcases k with h0 | ⟨w, u, h1, h2, h3, h4⟩
  · exact .inl h0
  · exact .inr ⟨w, u, h1, by rw [hh w h3 h4]; exact h2, h3, h4⟩
theorem OwnZ.rd {h : Heap} {z : AV} {l : List ByteArray} {lo hi : Nat} (k : OwnZ h z l lo hi) : rd dIts h z = some (l.map mkIt) := by
  rcases k with ⟨rfl, rfl⟩ | ⟨w, u, rfl, hw, _⟩
  · rfl
  · exact its_in hw
theorem OwnN.rd {h : Heap} {z : AV} {l : List Nd} {lo hi : Nat} (k : OwnN h z l lo hi) : rd dNs h z = some l := by
  rcases k with ⟨rfl, rfl⟩ | ⟨w, u, rfl, hw, _⟩
  · rfl
  · exact flat_in Flat.nd hw rfl (r := []) (by simp)
theorem ldcs_6 (X : Ctx) (h : Heap) (a : AV) : ldcs X h a 0 6 = [ldc X h a 0, ldc X h a 1, ldc X h a 2, ldc X h a 3, ldc X h a 4, ldc X h a 5] := rfl
theorem rng_ix (vs : List ByteArray) (z : ByteArray) (h : vs.length ≤ 1000) : Rng (ixOf vs z) := by
  have : -1 ≤ ixOf vs z ∧ ixOf vs z < (vs.length : Int) + 1 := by unfold ixOf; split <;> omega
  unfold Rng; omega
structure A53 (h0 : Heap) (n : Nat) (qc : List AV) (ta : AV) (s : St) : Prop where
  q1 : s.e 1 = ta
  q2 : s.e 2 = .p n 0 0
  q4 : s.e 4 = .p (n + 1) 0 0
  q6 : s.e 6 = .p (n + 2) 0 0
  hq : s.h n = some ⟨qc, 0, true, 7⟩
  hz : s.h (n + 1) = some ⟨zq, 0, true, 7⟩
  ag : agree n h0 s.h
  fr : Fresh s.n s.h
  nn : n + 3 ≤ s.n
section
set_option maxRecDepth 100000
set_option maxHeartbeats 4000000
variable {h : Heap} {n : Nat} {qx ta : AV} {q : Qu} {t : List Nd}
theorem c53a {a b c : AV} (x2 : rd dIts h a = some q.items) (x3 : rd dNs h b = some q.wh) (x4 : rd dNss h c = some q.ret) (hl : q.items.length ≤ 1000) (hn : Fresh n h) (e : Nat → AV) (q0 : e 0 = .g [a, ii q.mode, ii q.after, b, ii q.within, ss q.par, c]) (q1 : e 1 = ta) {Q : Ex → St → Prop} :
    awp (cx [8] (pfL tb53)) (hdC 3 (Tryd.f53.body.getD .skip)) (thenQ (fun s => A53 h n [a, ii q.mode, ii q.after, b, ii q.within, ss q.par, c] ta s ∧ ∃ z, s.h (n + 2) = some ⟨zqI z, 0, true, 7⟩ ∧ OwnZ s.h z (rnVs (vars q.items)) (n + 3) s.n) Q) ⟨e, h, n⟩ := by
  obtain ⟨s1, s2, s3, s4, s5⟩ := sl_is x2
  have o2 := (sl_is x3).2.2.2.1
  have o3 := (sl_is x4).2.2.2.1
  have hvl : (vars q.items).length = q.items.length := by simp [vars]
  have hgq : ∀ h', agree n h h' → ∀ v : ByteArray, deQS h' [.g [a, .v (.int .i64 q.mode), .v (.int .i64 q.after), b, .v (.int .i64 q.within), .v (.string q.par), c], .v (.string v)] = some (q, v) := fun h' ha v => deQS_in (deQ_sim (agr_sim hn ha) (deQ_in x2 x3 x4))
  have hbg : q.items.length < big := by unfold big; omega
  simp [evs, aeval, binS, cx_ti, cx_G, cx_pf, cx_tw, ti, globS, glob, ldcs_1, ldcs_2, ldcs_3, ldcs_4, ldcs_5, ldcs_7, sls.eq_1, slc.eq_1, pfL, hdC, Tryd.f53, q0, q1, ii, ss, s1, s2, s3, s4, o2, o3]
  refine awp_loop (fun s => ∃ j : Nat, j ≤ q.items.length ∧ A53 h n [a, ii q.mode, ii q.after, b, ii q.within, ss q.par, c] ta s ∧ s.e 7 = ii j ∧ ∃ z, s.h (n + 2) = some ⟨zqI z, 0, true, 7⟩ ∧ OwnZ s.h z ((rnVs (vars q.items)).take j) (n + 3) s.n) (fun s => q.items.length - (s.e 7).i.toNat)
    ⟨0, by omega, ⟨by simp [up, q1], by simp [up], by simp [up], by simp [up], by simp [up, ii, ss], by simp [up, zq], by simp [agree_up, agree_refl], by simp [fresh_up, hn.add], by simp⟩, by simp [up, ii], .v (.slice none 0 0), by simp [up, zqI], .inl ⟨rfl, rfl⟩⟩ ?_
  rintro e' h' n' ⟨j, hj, ⟨q1, q2, q4, q6, hq, hz, hag, hfr, hnn⟩, q7, z, hzI, hown⟩
  simp only [] at q1 q2 q4 q6 hq hz hag hfr hnn q7 hzI hown
  simp only [ii, ss] at hq
  simp only [zqI] at hzI
  have hjw := wrap_nat (j := j) (by unfold big; omega)
  by_cases hlt : j < q.items.length
  · rcases its_at x2 with ⟨h0, _⟩ | ⟨id, off, k, rfl, hk, ho, hat⟩
    · rw [h0] at hlt; simp at hlt
    have hid : id < n := lt_of hk hn
    have hk' : h' id = some k := by rw [hag id hid]; exact hk
    have hc := hat j hlt
    have hw3 : off + (j * 5 + 3) ≤ k.cells.length := by omega
    have hlt' : (j : Int) < (q.items.length : Int) := by omega
    have hvg : (vars q.items)[j]'(by omega) = q.items[j].var := by simp [vars]
    have hix : 0 ≤ ixOf (vars q.items) q.items[j].var := by rw [← hvg]; exact ix_mem (by omega)
    obtain ⟨i, i1, i2, _⟩ := ix_is hix
    have hnm : rnV (vars q.items) q.items[j].var = numB i := by unfold rnV; rw [i1]; rfl
    have htk : (rnVs (vars q.items)).take (j + 1) = (rnVs (vars q.items)).take j ++ [numB i] := by
      rw [List.take_succ_eq_append_getElem (by simp [rnVs]; omega)]
      simp only [rnVs, List.getElem_map, hvg, hnm]
    have htl : ((rnVs (vars q.items)).take j).length = j := by rw [List.length_take, rnVs, List.length_map]; omega
    have hdq := hgq h' hag q.items[j].var
    have hrg := rng_ix (vars q.items) q.items[j].var (by omega)
    have hnum := num_is i
    have hsz := itoa_sz i (by omega)
    have hs1 : (⟨#[118]⟩ : ByteArray).size = 1 := rfl
    have hsz2 : 1 + (itoaB (i : Int)).size ≤ 9223372036854775807 := by omega
    rw [i1] at hrg
    simp only [ss] at hc
    generalize q.items[j].var = v at *
    generalize (rnVs (vars q.items)).take j = l at *
    have b1 : (j + 1) * 64 ≤ 140737488355328 := by omega
    have b2 : j ≤ 9223372036854775806 := by omega
    have y1 : ¬ n + 2 = n' := by omega
    have y2 : ¬ n + 2 = n' + 1 := by omega
    have y3 : ¬ n = n' := by omega
    have hcl := fm_len (sz := 5) (en := itz) (fun _ => rfl) l
    rcases hown with ⟨rfl, rfl⟩ | ⟨w, u, rfl, hw, hw1, hw2⟩
    · simp only [List.length_nil] at htl
      simp [evs, aeval, binS, cx_ti, cx_G, cx_pf, cx_tw, ti, globS, glob, ldcs_1, ldcs_2, ldcs_3, ldcs_4, ldcs_5, ldcs_7, sls.eq_1, slc.eq_1, pfL, q1, q2, q4, q6, q7, ii, ss, bv, hlt, hlt', hq, hzI, hk', hc, hw3, s1, s2, s3, tb53, G96, g90, pureH, hdq, hbg, i1, hrg, hs1, hsz2, hnum, y1, y2, y3, hjw]
      refine ⟨⟨j + 1, by omega, ⟨by simp [up, q1], by simp [up, q2], by simp [up, q4], by simp [up, q6], ?_, ?_, fun x hx => ?_, ?_, by simp only []; omega⟩, by omega, .s (n' + 1) 0 0 1, rfl, ?_⟩, by omega⟩
      · simp only []
        rw [up_ne _ _ (by omega), up_ne _ _ (by omega), up_ne _ _ (by omega)]; exact hq
      · simp only []
        rw [up_ne _ _ (by omega), up_ne _ _ (by omega), up_ne _ _ (by omega)]; exact hz
      · simp only []
        rw [up_ne _ _ (by omega), up_ne _ _ (by omega), up_ne _ _ (by omega)]; exact hag x hx
      · show Fresh (n' + 3) (up (up (up h' n' _) (n' + 1) _) (n + 2) _)
        exact (fresh_up (by omega) _).2 ((fresh_up (by omega) _).2 ((fresh_up (by omega) _).2 (hfr.add 3)))
      · rw [htk]
        exact .inr ⟨n' + 1, 0, rfl, by rw [up_ne _ _ (by omega), up_same]; rfl, by omega, by omega⟩
    · skip
      have z1 : ¬ w = n' := by omega
      have z2 : ¬ w = n + 2 := by omega
      have z3 : ¬ n + 2 = w := by omega
      simp [evs, aeval, binS, cx_ti, cx_G, cx_pf, cx_tw, ti, globS, glob, ldcs_1, ldcs_2, ldcs_3, ldcs_4, ldcs_5, ldcs_7, sls.eq_1, slc.eq_1, pfL, q1, q2, q4, q6, q7, ii, ss, bv, hlt, hlt', hq, hzI, hk', hc, hw3, s1, s2, s3, tb53, G96, g90, pureH, hdq, hbg, i1, hrg, hs1, hsz2, hnum, y1, y2, y3, z1, z2, z3, hw, hcl, htl, b1, b2, hjw]
      refine ⟨⟨j + 1, by omega, ⟨by simp [up, q1], by simp [up, q2], by simp [up, q4], by simp [up, q6], ?_, ?_, fun x hx => ?_, ?_, by simp only []; omega⟩, by omega, .s w (u + 1) 0 (j + 1), rfl, ?_⟩, by omega⟩
      · simp only []
        rw [up_ne _ _ (by omega), up_ne _ _ (by omega), up_ne _ _ (by omega)]; exact hq
      · simp only []
        rw [up_ne _ _ (by omega), up_ne _ _ (by omega), up_ne _ _ (by omega)]; exact hz
      · simp only []
        rw [up_ne _ _ (by omega), up_ne _ _ (by omega), up_ne _ _ (by omega)]; exact hag x hx
      · show Fresh (n' + 3) (up (up (up h' n' _) w _) (n + 2) _)
        exact (fresh_up (by omega) _).2 ((fresh_up (by omega) _).2 ((fresh_up (by omega) _).2 (hfr.add 3)))
      · rw [htk]
        refine .inr ⟨w, u + 1, by simp [htl], ?_, by omega, by omega⟩
        rw [up_ne _ _ (by omega), up_same]
        simp [itz, bv, ss, ii]
  · obtain rfl : j = q.items.length := by omega
    have hall : (rnVs (vars q.items)).take q.items.length = rnVs (vars q.items) := List.take_of_length_le (by simp [rnVs, hvl])
    rw [hall] at hown
    simp [evs, aeval, binS, cx_ti, cx_G, cx_pf, cx_tw, ti, globS, glob, ldcs_1, ldcs_2, ldcs_3, ldcs_4, ldcs_5, ldcs_7, sls.eq_1, slc.eq_1, pfL, q2, q7, ii, hq, s1, s2, s3]
    exact ⟨⟨by simp [up, q1], by simp [up, q2], by simp [up, q4], by simp [up, q6], hq, hz, hag, hfr, hnn⟩, z, hzI, hown⟩
theorem c53b (e3 : rd dNs h ta = some t) (hp : smallT t) (hl : q.items.length ≤ 1000) (hr : runT (vars q.items) t = true) (hn : Fresh n h) {a b c : AV} (x2 : rd dIts h a = some q.items) (x3 : rd dNs h b = some q.wh) (x4 : rd dNss h c = some q.ret) (e : Nat → AV) (hB : Heap) (nB : Nat) (k : A53 h n [a, ii q.mode, ii q.after, b, ii q.within, ss q.par, c] ta ⟨e, hB, nB⟩) {Q : Ex → St → Prop} :
    awp (cx [8] (pfL tb53)) (hdC 2 (tlC 3 (Tryd.f53.body.getD .skip))) (thenQ (fun s => s.e 4 = .p (n + 1) 0 0 ∧ s.e 6 = .p (n + 2) 0 0 ∧ agree nB hB s.h ∧ Fresh s.n s.h ∧ nB ≤ s.n ∧ OwnN s.h (s.e 8) (rnT (vars q.items) t) nB s.n) Q) ⟨e, hB, nB⟩ := by
  obtain ⟨q1, q2, q4, q6, hq, hz, hag0, hfr0, hnn0⟩ := k
  simp only [] at q1 q2 q4 q6 hq hz hag0 hfr0 hnn0
  have hvl : (vars q.items).length = q.items.length := by simp [vars]
  have hbg : q.items.length < big := by unfold big; omega
  have hp' : t.length * 64 ≤ 140737488355328 := hp
  obtain ⟨hn1, hnames⟩ := run_names (vs := vars q.items) (by omega) hr
  have hgq : ∀ h', agree n h h' → ∀ v : ByteArray, deQS h' [.g [a, .v (.int .i64 q.mode), .v (.int .i64 q.after), b, .v (.int .i64 q.within), .v (.string q.par), c], .v (.string v)] = some (q, v) := fun h' ha v => deQS_in (deQ_sim (agr_sim hn ha) (deQ_in x2 x3 x4))
  obtain ⟨s1, s2, s3, s4, s5⟩ := sl_is e3
  have o1 := (sl_is x2).2.2.2.1
  have o2 := (sl_is x3).2.2.2.1
  have o3 := (sl_is x4).2.2.2.1
  simp [evs, aeval, binS, cx_ti, cx_G, cx_pf, cx_tw, ti, globS, glob, ldcs_1, ldcs_2, ldcs_3, ldcs_4, ldcs_5, ldcs_7, sls.eq_1, slc.eq_1, pfL, hdC, tlC, Tryd.f53]
  refine awp_loop (fun s => ∃ j : Nat, j ≤ t.length ∧ s.e 1 = ta ∧ s.e 2 = .p n 0 0 ∧ s.e 4 = .p (n + 1) 0 0 ∧ s.e 6 = .p (n + 2) 0 0 ∧ s.e 9 = ii j ∧ agree nB hB s.h ∧ Fresh s.n s.h ∧ nB ≤ s.n ∧ OwnN s.h (s.e 8) ((rnT (vars q.items) t).take j) nB s.n) (fun s => t.length - (s.e 9).i.toNat)
    ⟨0, by omega, by simp [up, q1], by simp [up, q2], by simp [up, q4], by simp [up, q6], by simp [up, ii], by simp [agree_refl], hfr0, by simp, .inl ⟨rfl, by simp [up]⟩⟩ ?_
  rintro e' h' n' ⟨j, hj, q1, q2, q4, q6, q9, hagB, hfr, hnn, hown⟩
  simp only [] at q1 q2 q4 q6 q9 hagB hfr hnn hown
  have hag : agree n h h' := agree_trans hag0 hagB (by omega)
  have hq' : h' n = _ := (hagB n (by omega)).trans hq
  simp only [ii, ss] at hq'
  have hjw := wrap_nat (j := j) (by unfold big; omega)
  by_cases hlt : j < t.length
  · rcases ns_at e3 with ⟨h0, _⟩ | ⟨id, off, k, rfl, hk, ho, hat⟩
    · rw [h0] at hlt; simp at hlt
    have hid : id < n := lt_of hk hn
    have hk' : h' id = some k := by rw [hag id hid]; exact hk
    have hrw := hat j hlt
    have d0 := cell_of (c := 0) hrw rfl (by omega)
    have d1 := cell_of (c := 1) hrw rfl (by omega)
    have d2 := cell_of (c := 2) hrw rfl (by omega)
    have d3 := cell_of (c := 3) hrw rfl (by omega)
    have d4 := cell_of (c := 4) hrw rfl (by omega)
    have d5 := cell_of (c := 5) hrw rfl (by omega)
    simp only [Nat.add_zero] at d0
    rw [Nat.add_assoc] at d1 d2 d3 d4 d5
    have hw6 : off + (j * 6 + 6) ≤ k.cells.length := by omega
    have hlt' : (j : Int) < (t.length : Int) := by omega
    have htk : (rnT (vars q.items) t).take (j + 1) = (rnT (vars q.items) t).take j ++ [rnN (vars q.items) t[j]] := by
      rw [List.take_succ_eq_append_getElem (by rw [rnT_len]; exact hlt)]
      simp only [rnT, List.getElem_map]
    have htl : ((rnT (vars q.items) t).take j).length = j := by rw [List.length_take, rnT_len]; omega
    have hnm := hnames t[j] (List.getElem_mem hlt)
    have b1 : (j + 1) * 64 ≤ 140737488355328 := by omega
    have b2 : j ≤ 9223372036854775806 := by omega
    have y0 : ¬ id = n' := by omega
    have y1 : ¬ n = n' := by omega
    have hcl := fm_len (sz := 6) (en := ncells) (fun _ => rfl) ((rnT (vars q.items) t).take j)
    generalize t[j] = x at *
    generalize hgl : (rnT (vars q.items) t).take j = l at *
    obtain ⟨z, q8⟩ : ∃ z, e' 8 = z := ⟨_, rfl⟩
    rw [q8] at hown
    obtain ⟨op, nn, var, attr, xa, xb⟩ := x
    simp only [ii, ss] at d0 d1 d2 d3 d4 d5
    cases he : emB var with
    | true =>
      have hve : (var == (⟨#[]⟩ : ByteArray)) = true := he
      have hrn : rnN (vars q.items) ⟨op, nn, var, attr, xa, xb⟩ = ⟨op, nn, var, attr, xa, xb⟩ := by simp [rnN, he]
      rw [hrn] at htk
      rcases hown with ⟨rfl, rfl⟩ | ⟨w, u, rfl, hw, hw1, hw2⟩
      · simp only [List.length_nil] at htl
        simp [evs, aeval, binS, cx_ti, cx_G, cx_pf, cx_tw, ti, globS, glob, ldcs_1, ldcs_2, ldcs_3, ldcs_4, ldcs_5, ldcs_7, sls.eq_1, slc.eq_1, pfL, ldcs_6, q1, q2, q4, q6, q8, q9, ii, ss, bv, hlt, hlt', hq', hk', d0, d1, d2, d3, d4, d5, hw6, y0, y1, hve, bne, hjw, tb53]
        refine ⟨⟨j + 1, by omega, by omega, fun x hx => ?_, ?_, by omega, ?_⟩, by omega⟩
        · rw [up_ne _ _ (by omega), up_ne _ _ (by omega), up_ne _ _ (by omega), up_ne _ _ (by omega)]; exact hagB x hx
        · exact (fresh_up (by omega) _).2 ((fresh_up (by omega) _).2 ((fresh_up (by omega) _).2 ((fresh_up (by omega) _).2 (hfr.add 4))))
        · rw [htk]
          exact .inr ⟨n' + 3, 0, rfl, by rw [up_same]; rfl, by omega, by omega⟩
      · have z1 : ¬ w = n' := by omega
        have z2 : ¬ w = n' + 1 := by omega
        have z3 : ¬ w = n' + 2 := by omega
        simp [evs, aeval, binS, cx_ti, cx_G, cx_pf, cx_tw, ti, globS, glob, ldcs_1, ldcs_2, ldcs_3, ldcs_4, ldcs_5, ldcs_7, sls.eq_1, slc.eq_1, pfL, ldcs_6, q1, q2, q4, q6, q8, q9, ii, ss, bv, hlt, hlt', hq', hk', d0, d1, d2, d3, d4, d5, hw6, y0, y1, hve, bne, hjw, tb53, z1, z2, z3, hw, hcl, htl, b1, b2]
        refine ⟨⟨j + 1, by omega, by omega, fun x hx => ?_, ?_, by omega, ?_⟩, by omega⟩
        · rw [up_ne _ _ (by omega), up_ne _ _ (by omega), up_ne _ _ (by omega), up_ne _ _ (by omega)]; exact hagB x hx
        · exact (fresh_up (by omega) _).2 ((fresh_up (by omega) _).2 ((fresh_up (by omega) _).2 ((fresh_up (by omega) _).2 (hfr.add 4))))
        · rw [htk]
          refine .inr ⟨w, u + 1, by simp [htl], ?_, by omega, by omega⟩
          rw [up_same]
          simp [ncells, ss, ii]
    | false =>
      have hve : (var == (⟨#[]⟩ : ByteArray)) = false := he
      unfold nameOk at hnm
      have hm : 4 ≤ op ∧ op ≤ 11 := by
        by_cases hm : 4 ≤ op ∧ op ≤ 11
        · exact hm
        · rw [if_neg hm] at hnm
          simp only [] at hnm
          rw [he] at hnm; cases hnm
      rw [if_pos hm] at hnm
      have hix : 0 ≤ ixOf (vars q.items) var := hnm.1
      obtain ⟨i, i1, i2, _⟩ := ix_is hix
      have hnmv : rnV (vars q.items) var = numB i := by unfold rnV; rw [i1]; rfl
      have hrn : rnN (vars q.items) ⟨op, nn, var, attr, xa, xb⟩ = ⟨op, nn, numB i, attr, xa, xb⟩ := by simp [rnN, he, hnmv]
      rw [hrn] at htk
      have hrg := rng_ix (vars q.items) var (by omega)
      have hnum := num_is i
      have hsz := itoa_sz i (by omega)
      have hs1 : (⟨#[118]⟩ : ByteArray).size = 1 := rfl
      have hsz2 : 1 + (itoaB (i : Int)).size ≤ 9223372036854775807 := by omega
      rw [i1] at hrg
      have hdq : ∀ b1 b2 : Option Blk, deQS (up (up h' n' b1) n' b2) [.g [a, .v (.int .i64 q.mode), .v (.int .i64 q.after), b, .v (.int .i64 q.within), .v (.string q.par), c], .v (.string var)] = some (q, var) := fun b1 b2 => hgq _ (fun i hi => by rw [up_ne _ _ (by omega), up_ne _ _ (by omega), hag i hi]) var
      rcases hown with ⟨rfl, rfl⟩ | ⟨w, u, rfl, hw, hw1, hw2⟩
      · simp only [List.length_nil] at htl
        simp [evs, aeval, binS, cx_ti, cx_G, cx_pf, cx_tw, ti, globS, glob, ldcs_1, ldcs_2, ldcs_3, ldcs_4, ldcs_5, ldcs_7, sls.eq_1, slc.eq_1, pfL, ldcs_6, q1, q2, q4, q6, q8, q9, ii, ss, bv, hlt, hlt', hq', hk', d0, d1, d2, d3, d4, d5, hw6, y0, y1, hve, bne, hjw, tb53, o1, o2, o3, G96, g90, pureH, hdq, hbg, i1, hrg, hs1, hsz2, hnum]
        refine ⟨⟨j + 1, by omega, by omega, fun x hx => ?_, ?_, by omega, ?_⟩, by omega⟩
        · rw [up_ne _ _ (by omega), up_ne _ _ (by omega), up_ne _ _ (by omega), up_ne _ _ (by omega), up_ne _ _ (by omega)]; exact hagB x hx
        · exact (fresh_up (by omega) _).2 ((fresh_up (by omega) _).2 ((fresh_up (by omega) _).2 ((fresh_up (by omega) _).2 ((fresh_up (by omega) _).2 (hfr.add 5)))))
        · rw [htk]
          exact .inr ⟨n' + 4, 0, rfl, by rw [up_same]; rfl, by omega, by omega⟩
      · have z1 : ¬ w = n' := by omega
        have z2 : ¬ w = n' + 1 := by omega
        have z3 : ¬ w = n' + 2 := by omega
        have z4 : ¬ w = n' + 3 := by omega
        simp [evs, aeval, binS, cx_ti, cx_G, cx_pf, cx_tw, ti, globS, glob, ldcs_1, ldcs_2, ldcs_3, ldcs_4, ldcs_5, ldcs_7, sls.eq_1, slc.eq_1, pfL, ldcs_6, q1, q2, q4, q6, q8, q9, ii, ss, bv, hlt, hlt', hq', hk', d0, d1, d2, d3, d4, d5, hw6, y0, y1, hve, bne, hjw, tb53, o1, o2, o3, G96, g90, pureH, hdq, hbg, i1, hrg, hs1, hsz2, hnum, z1, z2, z3, z4, hw, hcl, htl, b1, b2]
        refine ⟨⟨j + 1, by omega, by omega, fun x hx => ?_, ?_, by omega, ?_⟩, by omega⟩
        · rw [up_ne _ _ (by omega), up_ne _ _ (by omega), up_ne _ _ (by omega), up_ne _ _ (by omega), up_ne _ _ (by omega)]; exact hagB x hx
        · exact (fresh_up (by omega) _).2 ((fresh_up (by omega) _).2 ((fresh_up (by omega) _).2 ((fresh_up (by omega) _).2 ((fresh_up (by omega) _).2 (hfr.add 5)))))
        · rw [htk]
          refine .inr ⟨w, u + 1, by simp [htl], ?_, by omega, by omega⟩
          rw [up_same]
          simp [ncells, ss, ii]
  · obtain rfl : j = t.length := by omega
    have hall : (rnT (vars q.items) t).take t.length = rnT (vars q.items) t := List.take_of_length_le (by rw [rnT_len]; omega)
    rw [hall] at hown
    simp [evs, aeval, binS, cx_ti, cx_G, cx_pf, cx_tw, ti, globS, glob, ldcs_1, ldcs_2, ldcs_3, ldcs_4, ldcs_5, ldcs_7, sls.eq_1, slc.eq_1, pfL, q1, q9, ii, s1, s2, s3]
    exact ⟨by simp [up, q4], by simp [up, q6], hagB, hfr, hnn, by simpa [up] using hown⟩
def post53 (h : Heap) (n : Nat) (q : Qu) (t : List Nd) (z : AV) (h' : Heap) (n' : Nat) : Prop :=
  agree n h h' ∧ Fresh n' h' ∧ n ≤ n' ∧ ∃ za zt, z = .t [.g (zqI za), zt] ∧ rd dIts h' za = some ((rnVs (vars q.items)).map mkIt) ∧ rd dNs h' zt = some (rnT (vars q.items) t)
theorem c53 (e2 : deQ h qx = some q) (e3 : rd dNs h ta = some t) (hl : q.items.length ≤ 1000) (hp : smallT t) (hr : runT (vars q.items) t = true) (hn : Fresh n h) :
    ACall (cx [8] (pfL tb53)) 53 [qx, ta] h n (post53 h n q t) := by
  refine acall_of_awp (args := [qx, ta]) (pfL_ok tb53_ok) (mixed _ _) Tryd.func53 (c := Tryd.f53.body.getD .skip) rfl (by kernel_rfl) (callable Tryd.func53 rfl rfl _ _) (show 2 ≤ Tryd.f53.ntmps by decide +kernel) ?_
  obtain ⟨a, b, c, rfl, x2, x3, x4⟩ := deQ_out e2
  refine awp_cut 3 _ _ (c53a (ta := ta) x2 x3 x4 hl hn _ rfl rfl) fun y1 h1 n1 ⟨k1, z, hz, ho⟩ => ?_
  simp only [] at hz ho
  have hn1 := k1.nn
  have hf1 := k1.fr
  have hz1 := k1.hz
  have hag1 := k1.ag
  simp only [] at hn1 hf1 hz1 hag1
  refine awp_cut 2 _ _ (c53b e3 hp hl hr hn x2 x3 x4 y1 h1 n1 k1) fun y2 h2 n2 ⟨q4, q6, ag, fr, nn, hN⟩ => ?_
  simp only [] at q4 q6 ag fr nn hN
  have g1 : h2 (n + 1) = _ := (ag _ (by omega)).trans hz1
  have g2 : h2 (n + 2) = _ := (ag _ (by omega)).trans hz
  have rz := ho.rd
  have oz := (sl_is rz).2.2.2.1
  obtain ⟨zt, q8⟩ : ∃ z, y2 8 = z := ⟨_, rfl⟩
  rw [q8] at hN
  obtain ⟨t1, t2, t3, t4, t5⟩ := sl_is hN.rd
  simp only [zq] at g1
  simp only [zqI] at g2
  simp [evs, aeval, binS, cx_ti, cx_G, cx_pf, cx_tw, ti, globS, glob, ldcs_1, ldcs_2, ldcs_3, ldcs_4, ldcs_5, ldcs_7, sls.eq_1, slc.eq_1, pfL, tlC, Tryd.f53, q4, q6, q8, g1, g2, oz, t3, t4]
  refine ⟨fun i hi => ?_, (fresh_up (by omega) _).2 (fr.add 1), by omega, z, zt, rfl, (ho.up fun i y1 y2 => ?_).rd, (hN.up fun i y1 y2 => ?_).rd⟩
  · rw [up_ne _ _ (by omega), ag i (by omega)]; exact hag1 i hi
  · rw [up_ne _ _ (by omega), ag i y2]
  · rw [up_ne _ _ (by omega)]
end
end Go.Proofs.YtkfphaphiikloaaDoor

/-
  OUR OWN TOOL, PART M: the rest of a region that draws, where it only looks: done in the order of the text.
-/
namespace Go.Eng
open Go Go.RowKit

theorem evq : type_of% (
  And.intro (And.intro (And.intro (And.intro (And.intro (And.intro (And.intro @awp_skip @awp_label)
  (And.intro (@awp_region)
  (And.intro @awp_seq @awp_if)))
  (And.intro (And.intro (@awp_block)
  (And.intro @awp_ret @awp_scope))
  (And.intro (@awp_exit)
  (And.intro @thenQ_n @thenQ_e))))
  (And.intro (And.intro (And.intro (@thenQ_r)
  (And.intro @blockQ_n @blockQ_e))
  (And.intro (@blockQ_r)
  (And.intro @finQ_n @finQ_r)))
  (And.intro (And.intro (@finQ_e)
  (And.intro @aops_nil @aops_cons))
  (And.intro (@atl_nil)
  (And.intro @List.filter_cons.{0} @List.filter_nil.{0})))))
  (And.intro (And.intro (And.intro (And.intro (@adraw_eq)
  (And.intro @adrawA_nil @adrawA_cons))
  (And.intro (@Heap.le_refl)
  (And.intro @keepL_refl @AV.b.eq_1)))
  (And.intro (And.intro (@AV.b.eq_2)
  (And.intro @AV.isB.eq_1 @AV.isB.eq_2))
  (And.intro (@unc_same)
  (And.intro @unc_tt @unc_tf))))
  (And.intro (And.intro (And.intro (@unc_f)
  (And.intro @unc_any @unc_v))
  (And.intro (@unc_gp)
  (And.intro @unc_p @unc_s)))
  (And.intro (And.intro (@unc_g)
  (And.intro @unc_e @unc_m))
  (And.intro (@unc_t)
  (And.intro @unc_fn @unc_okb))))))
  (And.intro (And.intro (And.intro (And.intro (And.intro @unc_bb @unc_isB)
  (And.intro (@unc_b)
  (And.intro @AV.bb.eq_1 @AV.bb.eq_2)))
  (And.intro (And.intro (@AV.okb.eq_1)
  (And.intro @AV.okb.eq_2 @AV.okg.eq_1))
  (And.intro (@AV.okg.eq_2)
  (And.intro @AV.gd.eq_1 @AV.gd.eq_2))))
  (And.intro (And.intro (And.intro (@AV.cells.eq_1)
  (And.intro @AV.cells.eq_2 @AV.one.eq_1))
  (And.intro (@AV.one.eq_2)
  (And.intro @AV.one.eq_3 @AV.one.eq_4)))
  (And.intro (And.intro (@AV.one.eq_5)
  (And.intro @AV.one.eq_6 @AV.one.eq_7))
  (And.intro (@AV.slen.eq_1)
  (And.intro @AV.slen.eq_2 @AV.isS.eq_1)))))
  (And.intro (And.intro (And.intro (And.intro (@AV.isS.eq_2)
  (And.intro @AV.isS.eq_3 @Nat.add_assoc))
  (And.intro (@cut_of_le)
  (And.intro @nat_lt0 @nat_le0)))
  (And.intro (And.intro (@resAll.eq_1)
  (And.intro @resAll.eq_2 @resVal.eq_1))
  (And.intro (@resVal.eq_2)
  (And.intro @resOne.eq_1 @resOne.eq_2))))
  (And.intro (And.intro (And.intro (@freeOp.eq_1)
  (And.intro @isA.eq_1 @goOp.eq_1))
  (And.intro (@appNew.eq_1)
  (And.intro @mkOp.eq_1 @mkOp.eq_2)))
  (And.intro (And.intro (@mkOp.eq_3)
  (And.intro @gev.eq_1 @Region.binds.eq_1))
  (And.intro (@aop.eq_1)
  (And.intro @gocall.eq_1 @heapOp.eq_1)))))))
  (And.intro (And.intro (And.intro (And.intro (And.intro (And.intro @heapOp.eq_2 @heapOp.eq_3)
  (And.intro (@heapOp.eq_4)
  (And.intro @heapOp.eq_5 @heapOp.eq_6)))
  (And.intro (And.intro (@heapOp.eq_7)
  (And.intro @heapOp.eq_8 @heapOp.eq_9))
  (And.intro (@quietOp.eq_1)
  (And.intro @ev.eq_1 @ev.eq_2))))
  (And.intro (And.intro (And.intro (@ev.eq_3)
  (And.intro @ev.eq_4 @constAV.eq_1))
  (And.intro (@constAV.eq_2)
  (And.intro @setd.eq_1 @setd.eq_2)))
  (And.intro (And.intro (@yav.eq_1)
  (And.intro @ystop.eq_1 @up.eq_1))
  (And.intro (@env0.eq_1)
  (And.intro @lds.eq_1 @lds.eq_2)))))
  (And.intro (And.intro (And.intro (And.intro (@lds.eq_3)
  (And.intro @ldc.eq_1 @ldc.eq_2))
  (And.intro (@ldc.eq_3)
  (And.intro @sts.eq_1 @sts.eq_2)))
  (And.intro (And.intro (@sth.eq_1)
  (And.intro @sth.eq_2 @wr.eq_1))
  (And.intro (@wr.eq_2)
  (And.intro @place.eq_1 @fillOk.eq_1))))
  (And.intro (And.intro (And.intro (@fillOk.eq_2)
  (And.intro @fillC.eq_1 @fillC.eq_2))
  (And.intro (@repZ.eq_1)
  (And.intro @repZ.eq_2 @binI.eq_1)))
  (And.intro (And.intro (@binI.eq_2)
  (And.intro @binI.eq_3 @binI.eq_4))
  (And.intro (@binI.eq_5)
  (And.intro @binI.eq_6 @binI.eq_7))))))
  (And.intro (And.intro (And.intro (And.intro (And.intro (@binI.eq_8)
  (And.intro @binI.eq_9 @binI.eq_10))
  (And.intro (@binI.eq_11)
  (And.intro @binI.eq_12 @binI.eq_13)))
  (And.intro (And.intro (@binI.eq_14)
  (And.intro @binI.eq_15 @isDiv.eq_1))
  (And.intro (@isDiv.eq_2)
  (And.intro @isDiv.eq_3 @optInt.eq_1))))
  (And.intro (And.intro (And.intro (@optInt.eq_2)
  (And.intro @optI.eq_1 @optI.eq_2))
  (And.intro (@eksOk.eq_1)
  (And.intro @eksOk.eq_2 @eksOk.eq_3)))
  (And.intro (And.intro (@eksEq.eq_1)
  (And.intro @eksEq.eq_2 @EK.ok.eq_1))
  (And.intro (@EK.ok.eq_2)
  (And.intro @EK.ok.eq_3 @EK.eq.eq_1)))))
  (And.intro (And.intro (And.intro (And.intro (@EK.eq.eq_2)
  (And.intro @EK.eq.eq_3 @AV.i.eq_1))
  (And.intro (@AV.i.eq_2)
  (And.intro @AV.isI.eq_1 @AV.isI.eq_2)))
  (And.intro (And.intro (@AV.isInt.eq_1)
  (And.intro @AV.isInt.eq_2 @AV.str.eq_1))
  (And.intro (@AV.str.eq_2)
  (And.intro @AV.isStr.eq_1 @AV.isStr.eq_2))))
  (And.intro (And.intro (And.intro (@AV.ones.eq_1)
  (And.intro @AV.ones.eq_2 @AV.isPtr.eq_1))
  (And.intro (@AV.isPtr.eq_2)
  (And.intro @AV.isPtr.eq_3 @AV.gl.eq_1)))
  (And.intro (And.intro (@AV.gl.eq_2)
  (And.intro @AV.isG.eq_1 @AV.isG.eq_2))
  (And.intro (@Value.oneCell'.eq_1)
  (And.intro @Value.oneCell'.eq_2 @Value.oneCell'.eq_3)))))))) :=
  And.intro (And.intro (And.intro (And.intro (And.intro (And.intro (And.intro @awp_skip @awp_label)
  (And.intro (@awp_region)
  (And.intro @awp_seq @awp_if)))
  (And.intro (And.intro (@awp_block)
  (And.intro @awp_ret @awp_scope))
  (And.intro (@awp_exit)
  (And.intro @thenQ_n @thenQ_e))))
  (And.intro (And.intro (And.intro (@thenQ_r)
  (And.intro @blockQ_n @blockQ_e))
  (And.intro (@blockQ_r)
  (And.intro @finQ_n @finQ_r)))
  (And.intro (And.intro (@finQ_e)
  (And.intro @aops_nil @aops_cons))
  (And.intro (@atl_nil)
  (And.intro @List.filter_cons.{0} @List.filter_nil.{0})))))
  (And.intro (And.intro (And.intro (And.intro (@adraw_eq)
  (And.intro @adrawA_nil @adrawA_cons))
  (And.intro (@Heap.le_refl)
  (And.intro @keepL_refl @AV.b.eq_1)))
  (And.intro (And.intro (@AV.b.eq_2)
  (And.intro @AV.isB.eq_1 @AV.isB.eq_2))
  (And.intro (@unc_same)
  (And.intro @unc_tt @unc_tf))))
  (And.intro (And.intro (And.intro (@unc_f)
  (And.intro @unc_any @unc_v))
  (And.intro (@unc_gp)
  (And.intro @unc_p @unc_s)))
  (And.intro (And.intro (@unc_g)
  (And.intro @unc_e @unc_m))
  (And.intro (@unc_t)
  (And.intro @unc_fn @unc_okb))))))
  (And.intro (And.intro (And.intro (And.intro (And.intro @unc_bb @unc_isB)
  (And.intro (@unc_b)
  (And.intro @AV.bb.eq_1 @AV.bb.eq_2)))
  (And.intro (And.intro (@AV.okb.eq_1)
  (And.intro @AV.okb.eq_2 @AV.okg.eq_1))
  (And.intro (@AV.okg.eq_2)
  (And.intro @AV.gd.eq_1 @AV.gd.eq_2))))
  (And.intro (And.intro (And.intro (@AV.cells.eq_1)
  (And.intro @AV.cells.eq_2 @AV.one.eq_1))
  (And.intro (@AV.one.eq_2)
  (And.intro @AV.one.eq_3 @AV.one.eq_4)))
  (And.intro (And.intro (@AV.one.eq_5)
  (And.intro @AV.one.eq_6 @AV.one.eq_7))
  (And.intro (@AV.slen.eq_1)
  (And.intro @AV.slen.eq_2 @AV.isS.eq_1)))))
  (And.intro (And.intro (And.intro (And.intro (@AV.isS.eq_2)
  (And.intro @AV.isS.eq_3 @Nat.add_assoc))
  (And.intro (@cut_of_le)
  (And.intro @nat_lt0 @nat_le0)))
  (And.intro (And.intro (@resAll.eq_1)
  (And.intro @resAll.eq_2 @resVal.eq_1))
  (And.intro (@resVal.eq_2)
  (And.intro @resOne.eq_1 @resOne.eq_2))))
  (And.intro (And.intro (And.intro (@freeOp.eq_1)
  (And.intro @isA.eq_1 @goOp.eq_1))
  (And.intro (@appNew.eq_1)
  (And.intro @mkOp.eq_1 @mkOp.eq_2)))
  (And.intro (And.intro (@mkOp.eq_3)
  (And.intro @gev.eq_1 @Region.binds.eq_1))
  (And.intro (@aop.eq_1)
  (And.intro @gocall.eq_1 @heapOp.eq_1)))))))
  (And.intro (And.intro (And.intro (And.intro (And.intro (And.intro @heapOp.eq_2 @heapOp.eq_3)
  (And.intro (@heapOp.eq_4)
  (And.intro @heapOp.eq_5 @heapOp.eq_6)))
  (And.intro (And.intro (@heapOp.eq_7)
  (And.intro @heapOp.eq_8 @heapOp.eq_9))
  (And.intro (@quietOp.eq_1)
  (And.intro @ev.eq_1 @ev.eq_2))))
  (And.intro (And.intro (And.intro (@ev.eq_3)
  (And.intro @ev.eq_4 @constAV.eq_1))
  (And.intro (@constAV.eq_2)
  (And.intro @setd.eq_1 @setd.eq_2)))
  (And.intro (And.intro (@yav.eq_1)
  (And.intro @ystop.eq_1 @up.eq_1))
  (And.intro (@env0.eq_1)
  (And.intro @lds.eq_1 @lds.eq_2)))))
  (And.intro (And.intro (And.intro (And.intro (@lds.eq_3)
  (And.intro @ldc.eq_1 @ldc.eq_2))
  (And.intro (@ldc.eq_3)
  (And.intro @sts.eq_1 @sts.eq_2)))
  (And.intro (And.intro (@sth.eq_1)
  (And.intro @sth.eq_2 @wr.eq_1))
  (And.intro (@wr.eq_2)
  (And.intro @place.eq_1 @fillOk.eq_1))))
  (And.intro (And.intro (And.intro (@fillOk.eq_2)
  (And.intro @fillC.eq_1 @fillC.eq_2))
  (And.intro (@repZ.eq_1)
  (And.intro @repZ.eq_2 @binI.eq_1)))
  (And.intro (And.intro (@binI.eq_2)
  (And.intro @binI.eq_3 @binI.eq_4))
  (And.intro (@binI.eq_5)
  (And.intro @binI.eq_6 @binI.eq_7))))))
  (And.intro (And.intro (And.intro (And.intro (And.intro (@binI.eq_8)
  (And.intro @binI.eq_9 @binI.eq_10))
  (And.intro (@binI.eq_11)
  (And.intro @binI.eq_12 @binI.eq_13)))
  (And.intro (And.intro (@binI.eq_14)
  (And.intro @binI.eq_15 @isDiv.eq_1))
  (And.intro (@isDiv.eq_2)
  (And.intro @isDiv.eq_3 @optInt.eq_1))))
  (And.intro (And.intro (And.intro (@optInt.eq_2)
  (And.intro @optI.eq_1 @optI.eq_2))
  (And.intro (@eksOk.eq_1)
  (And.intro @eksOk.eq_2 @eksOk.eq_3)))
  (And.intro (And.intro (@eksEq.eq_1)
  (And.intro @eksEq.eq_2 @EK.ok.eq_1))
  (And.intro (@EK.ok.eq_2)
  (And.intro @EK.ok.eq_3 @EK.eq.eq_1)))))
  (And.intro (And.intro (And.intro (And.intro (@EK.eq.eq_2)
  (And.intro @EK.eq.eq_3 @AV.i.eq_1))
  (And.intro (@AV.i.eq_2)
  (And.intro @AV.isI.eq_1 @AV.isI.eq_2)))
  (And.intro (And.intro (@AV.isInt.eq_1)
  (And.intro @AV.isInt.eq_2 @AV.str.eq_1))
  (And.intro (@AV.str.eq_2)
  (And.intro @AV.isStr.eq_1 @AV.isStr.eq_2))))
  (And.intro (And.intro (And.intro (@AV.ones.eq_1)
  (And.intro @AV.ones.eq_2 @AV.isPtr.eq_1))
  (And.intro (@AV.isPtr.eq_2)
  (And.intro @AV.isPtr.eq_3 @AV.gl.eq_1)))
  (And.intro (And.intro (@AV.gl.eq_2)
  (And.intro @AV.isG.eq_1 @AV.isG.eq_2))
  (And.intro (@Value.oneCell'.eq_1)
  (And.intro @Value.oneCell'.eq_2 @Value.oneCell'.eq_3)))))))
section
variable {X : Ctx} {ops : Array Oper} {K : St → Prop}
theorem quiet_two {o : Oper} {e : Nat → AV} {h : Heap} {i : Nat} (hq : quietOp X o = true) : twoO X ops o e h i = none := by
  cases ht : twoO X ops o e h i with
  | none => rfl
  | some q =>
    unfold twoO at ht
    split at ht
    · cases hg : o.guard with
      | some q => simp [hg] at ht
      | none =>
        simp only [hg] at ht
        have := two_heap ht
        rw [quiet_heap hq] at this
        cases this
    · cases ht
theorem quiet_gocall {o : Oper} (hq : quietOp X o = true) (e : Nat → AV) : gocall X ops o e = none := by
  unfold quietOp at hq
  unfold gocall
  cases ho : o.op <;> simp only [ho] at hq ⊢
  rename_i c
  cases hc : c.callee <;> simp only [hc] at hq ⊢
  rename_i fo
  cases fo <;> simp only at hq <;> try (cases hq)
  simp [ev, hq]
theorem quiet_new {o : Oper} (hq : quietOp X o = true) : appNew ops o = false := by
  unfold quietOp at hq
  unfold appNew
  cases ho : o.op <;> simp only [ho] at hq ⊢
  rename_i c
  cases hc : c.callee <;> simp only [hc] at hq ⊢
  rename_i b
  cases b <;> simp only at hq ⊢ <;> cases hq
/-- One behind the other. -/
def qseq (X : Ctx) (ops : Array Oper) (K : St → Prop) : List (Nat × Oper) → St → Prop
  | [], s => K s
  | p :: r, s => (aop X ops p.2 s.e s.h s.n s.h).side ∧ qseq X ops K r ⟨setd s.e p.2.dst (aop X ops p.2 s.e s.h s.n s.h).val, s.h, s.n⟩
theorem qseq_nil (s : St) : qseq X ops K [] s = K s := propext ⟨id, id⟩
theorem qseq_cons (p : Nat × Oper) (r : List (Nat × Oper)) (s : St) : qseq X ops K (p :: r) s = ((aop X ops p.2 s.e s.h s.n s.h).side ∧ qseq X ops K r ⟨setd s.e p.2.dst (aop X ops p.2 s.e s.h s.n s.h).val, s.h, s.n⟩) := propext ⟨id, id⟩
def ind2 (ops : Array Oper) (p q : Nat × Oper) : Bool := (match q.2.dst with | some t => !(looks ops p.2).contains t | none => true) && (match p.2.dst with | some t => !(looks ops q.2).contains t | none => true) && (p.2.dst == none || p.2.dst != q.2.dst)
def pairOk (ops : Array Oper) (q p : Nat × Oper) : Bool := p.1 != q.1 && ((p.2.after.toList.any fun e => Region.binds .any e && e.on == q.1) || ind2 ops p q)
def qok (X : Ctx) (ops : Array Oper) : List (Nat × Oper) → Bool
  | [] => true
  | q :: r => quietOp X q.2 && r.all (pairOk ops q) && qok X ops r
theorem qok_is : ∀ {l : List (Nat × Oper)}, qok X ops l = true → (∀ p ∈ l, quietOp X p.2 = true) ∧ l.Pairwise fun q p => pairOk ops q p = true
  | [], _ => ⟨fun _ h => (by cases h), .nil⟩
  | q :: r, h => by
    simp only [qok, Bool.and_eq_true] at h
    obtain ⟨h1, h2⟩ := qok_is h.2
    refine ⟨fun p hp => ?_, .cons (fun p hp => List.all_eq_true.1 h.1.2 p hp) h2⟩
    rcases List.mem_cons.1 hp with rfl | hp
    · exact h.1.1
    · exact h1 p hp
theorem setd_ne {e : Nat → AV} {d : Option Tmp} {v : AV} {t : Tmp} (h : d ≠ some t) : setd e d v t = e t := by
  cases d with
  | none => rfl
  | some d => exact up_ne _ _ fun hh => h (by rw [hh])
theorem setd_comm {e : Nat → AV} {d d' : Option Tmp} {v v' : AV} (h : d = none ∨ d ≠ d') : setd (setd e d v) d' v' = setd (setd e d' v') d v := by
  cases d with
  | none => rfl
  | some a =>
    cases d' with
    | none => rfl
    | some b =>
      have hab : a ≠ b := fun hh => by
        rcases h with h | h
        · cases h
        · exact h (by rw [hh])
      funext t
      simp only [setd]
      by_cases h1 : t = b
      · subst h1
        rw [up_same, up_ne _ _ (Ne.symm hab), up_same]
      · rw [up_ne _ _ h1]
        by_cases h2 : t = a
        · subst h2
          rw [up_same, up_same]
        · rw [up_ne _ _ h2, up_ne _ _ h2, up_ne _ _ h1]
theorem qseq_swap {p q : Nat × Oper} {r : List (Nat × Oper)} {s : St} (i : ind2 ops p q = true) (h : qseq X ops K (q :: p :: r) s) : qseq X ops K (p :: q :: r) s := by
  simp only [ind2, Bool.and_eq_true] at i
  obtain ⟨⟨i1, i2⟩, i3⟩ := i
  have e1 : ∀ v, aop X ops p.2 (setd s.e q.2.dst v) s.h s.n s.h = aop X ops p.2 s.e s.h s.n s.h := fun v => aop_congr fun t ht => setd_ne fun hd => by
    rw [hd] at i1
    simp [ht] at i1
  have e2 : ∀ v, aop X ops q.2 (setd s.e p.2.dst v) s.h s.n s.h = aop X ops q.2 s.e s.h s.n s.h := fun v => aop_congr fun t ht => setd_ne fun hd => by
    rw [hd] at i2
    simp [ht] at i2
  have hd : p.2.dst = none ∨ p.2.dst ≠ q.2.dst := by simpa using i3
  simp only [qseq, e1] at h
  simp only [qseq, e2]
  refine ⟨h.2.1, h.1, ?_⟩
  rw [setd_comm hd]
  exact h.2.2
theorem qseq_move {p : Nat × Oper} {post : List (Nat × Oper)} : ∀ (pre : List (Nat × Oper)) {s : St}, (∀ q ∈ pre, ind2 ops p q = true) → qseq X ops K (pre ++ p :: post) s → qseq X ops K (p :: (pre ++ post)) s
  | [], s, _, h => h
  | q :: pre, s, hi, h => by
    refine qseq_swap (hi q (by simp)) ?_
    simp only [List.cons_append, qseq] at h
    have := qseq_move pre (fun q hq => hi q (by simp [hq])) h.2
    exact ⟨h.1, this⟩
/-- What is left of a region, where it only looks. -/
theorem atl_q {h0 : Heap} : ∀ (f : Nat) {rem : List (Nat × Oper)} {s : St}, rem.length ≤ f → (∀ p ∈ rem, quietOp X p.2 = true) → (rem.Pairwise fun q p => pairOk ops q p = true) → qseq X ops K rem s → atl X ops h0 K f rem s
  | 0, rem, s, _, _, _, h => fun hr => by subst hr; exact h
  | f + 1, rem, s, hl, h1, h2, h => by
    refine ⟨fun hr => (by subst hr; exact h), fun p hp hfree => ?_⟩
    obtain ⟨pre, post, rfl⟩ := List.append_of_mem hp
    have hq := h1 p (by simp)
    obtain ⟨w1, w2, w3⟩ := List.pairwise_append.1 h2
    have hmv := qseq_move pre (fun q hqm => by
      have hpo := w3 q hqm p (by simp)
      simp only [pairOk, Bool.and_eq_true, Bool.or_eq_true] at hpo
      rcases hpo.2 with he | he
      · obtain ⟨ed, hed, hb⟩ := List.any_eq_true.1 he
        simp only [Bool.and_eq_true, beq_iff_eq] at hb
        have := List.all_eq_true.1 hfree ed hed
        rw [hb.1] at this
        simp only [Bool.not_true, Bool.false_or] at this
        have := List.all_eq_true.1 this q (by simp [hqm])
        rw [hb.2] at this
        simp at this
      · exact he) h
    simp only [qseq] at hmv
    have hfl : (pre ++ p :: post).filter (fun q => q.1 != p.1) = pre ++ post := by
      rw [List.filter_append, List.filter_cons_of_neg (by simp)]
      congr 1
      · refine List.filter_eq_self.2 fun q hqm => ?_
        have hpo := w3 q hqm p (by simp)
        simp only [pairOk, Bool.and_eq_true] at hpo
        have := hpo.1
        simp only [bne_iff_ne, ne_eq] at this ⊢
        exact fun hh => this hh.symm
      · refine List.filter_eq_self.2 fun q hqm => ?_
        have hpo := List.rel_of_pairwise_cons w2 hqm
        simp only [pairOk, Bool.and_eq_true] at hpo
        exact hpo.1
    unfold astep
    rw [quiet_gocall hq, quiet_two hq, aop_quiet hq, quiet_heap hq]
    refine ⟨hmv.1, fun _ => keep_le (Heap.le_refl _), fun hn => (by rw [quiet_new hq] at hn; cases hn), ?_⟩
    rw [hfl]
    refine atl_q f (by simp at hl ⊢; omega) (fun q hqm => h1 q (by rcases List.mem_append.1 hqm with h | h <;> simp [h])) ?_ hmv.2
    exact List.pairwise_append.2 ⟨w1, (List.pairwise_cons.1 w2).2, fun a ha b hb => w3 a ha b (by simp [hb])⟩
theorem atl_quiet {h0 : Heap} {f : Nat} {rem : List (Nat × Oper)} {s : St} (hl : decide (rem.length ≤ f) = true) (hk : qok X ops rem = true) (h : qseq X ops K rem s) : atl X ops h0 K f rem s :=
  atl_q f (by simpa using hl) (qok_is hk).1 (qok_is hk).2 h
/-- A call comes first. -/
theorem atl_call {h0 : Heap} {f : Nat} {p : Nat × Oper} {r : List (Nat × Oper)} {s : St} {g : FuncId} {ags : List AV} (hr : (r.all fun q => !freeOp q.2 (p :: r)) = true) (hg : p.2.guard = none) (hn : appNew ops p.2 = false) (hc : gocall X ops p.2 s.e = some (g, ags))
    (h : ACall X g ags s.h s.n fun v h n => keepL X ops s.e s.h h ∧ atl X ops h0 K f (r.filter fun q => q.1 != p.1) ⟨setd s.e p.2.dst v, h, n⟩) : atl X ops h0 K (f + 1) (p :: r) s := by
  refine ⟨fun hr => (by cases hr), fun q hq hfree => ?_⟩
  rcases List.mem_cons.1 hq with rfl | hq
  · unfold astep
    rw [hc]
    simp only [hg]
    refine h.mono fun v h n hv => ⟨fun _ => hv.1, fun hh => (by rw [hn] at hh; cases hh), ?_⟩
    rw [List.filter_cons_of_neg (by simp)]
    exact hv.2
  · have := List.all_eq_true.1 hr q hq
    rw [hfree] at this
    cases this
end
end Go.Eng
