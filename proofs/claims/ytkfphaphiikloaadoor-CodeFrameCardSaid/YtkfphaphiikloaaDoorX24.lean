/-
  CodeFrame, PART D: the first item of each variable, as a map (the program's).
-/
import Derived.Test.YtkfphaphiikloaaDoorX23
set_option linter.unusedSimpArgs false
set_option linter.unusedVariables false
set_option linter.constructorNameAsVariable false
namespace Go.Proofs.YtkfphaphiikloaaDoor
open Go Go.Eng

/-- Where a name stands first. -/
def ixM (vs : List ByteArray) (z : ByteArray) : Option Int := if 0 ≤ ixOf vs z then some (ixOf vs z) else none
theorem ixM_nil : ixM [] = fun _ => none := by funext z; simp [ixM, ixOf]
theorem ixM_add (l : List ByteArray) (x z : ByteArray) : ixM (l ++ [x]) z = if (ixM l z).isSome = true then ixM l z else if z = x then some (l.length : Int) else none := by
  have hl : (l ++ [x]).length = l.length + 1 := by simp
  unfold ixM ixOf
  rw [List.findIdx_append, hl]
  by_cases h : l.findIdx (· == z) < l.length
  · have h2 : l.findIdx (· == z) < l.length + 1 := by omega
    simp only [h, h2, if_true]
    simp
  · have hn : ¬ ((0 : Int) ≤ -1) := by omega
    simp only [h, if_false, hn]
    by_cases hx : z = x
    · subst hx
      have hb : (z == z) = true := by rw [ba_beq]
      have h0 : [z].findIdx (· == z) = 0 := by simp [List.findIdx_cons, hb]
      have h3 : 0 + l.length < l.length + 1 := by omega
      simp only [h0, h3, if_true]
      simp
    · have hb : (x == z) = false := by
        cases hb : (x == z) with
        | false => rfl
        | true => rw [ba_beq] at hb; exact absurd hb.symm hx
      have h0 : [x].findIdx (· == z) = 1 := by simp [List.findIdx_cons, hb]
      have h3 : ¬ 1 + l.length < l.length + 1 := by omega
      simp only [h0, h3, if_false, hn, hx]
      simp
theorem ixM_old {l : List ByteArray} {x : ByteArray} (h : (ixM l x).isSome = true) : ixM (l ++ [x]) = ixM l := by
  funext z
  rw [ixM_add]
  split
  · rfl
  · rename_i hz
    rw [if_neg (fun e => hz (by rw [e]; exact h))]
    cases e : ixM l z with
    | none => rfl
    | some i => rw [e] at hz; exact absurd rfl hz
theorem ixM_new {l : List ByteArray} {x : ByteArray} (h : ixM l x = none) : ixM (l ++ [x]) = fun z => if z = x then some (l.length : Int) else ixM l z := by
  funext z
  rw [ixM_add]
  by_cases hz : z = x
  · subst hz; simp [h]
  · simp only [hz, if_false]
    cases e : ixM l z <;> simp
theorem its_row {h : Heap} {a : AV} {l : List It} (e : rd dIts h a = some l) : (l = [] ∧ (a = .v (.slice none 0 0) ∨ a = .e)) ∨
    ∃ id off k, a = .s id k.ver off l.length ∧ h id = some k ∧ off + l.length * 5 ≤ k.cells.length ∧ ∀ i (hi : i < l.length), ∃ ty, (k.cells.drop (off + i * 5)).take 5 = [bv l[i].neg, ty, ss l[i].var, ii l[i].lo, ii l[i].hi] ∧ ty.one := by
  rcases sl_at e with h0 | ⟨id, off, k, h1, h2, h3, h4⟩
  · exact .inl h0
  · refine .inr ⟨id, off, k, h1, h2, h3, fun i hi => ?_⟩
    obtain ⟨ty, h5, h6⟩ := deItc_out (h4 i hi)
    exact ⟨ty, h5, (sl_is h6).2.2.2.1⟩
set_option maxRecDepth 100000 in
set_option maxHeartbeats 4000000 in
theorem c84 {h : Heap} {n : Nat} {qx : AV} {q : Qu} (e2 : deQ h qx = some q) (hq : q.items.length < big) (hn : Fresh n h) :
    ACall (cx [] (pfL [])) 84 [qx] h n fun z h' n' => agree n h h' ∧ Fresh n' h' ∧ n ≤ n' ∧ ∃ m cs, z = .mv m 0 ∧ h' m = some ⟨cs, 0, true, 0⟩ ∧ isM (ixM (vars q.items)) cs ∧ n ≤ m ∧ m < n' := by
  refine acall_of_awp (args := [qx]) (pfL_ok tb_nil) (mixed _ _) Tryd.func84 (c := Tryd.f84.body.getD .skip) rfl (by kernel_rfl) (callable Tryd.func84 rfl rfl _ _) (show 1 ≤ Tryd.f84.ntmps by decide +kernel) ?_
  obtain ⟨a, b, c, rfl, x2, x3, x4⟩ := deQ_out e2
  obtain ⟨s1, s2, s3, s4, s5⟩ := sl_is x2
  have o2 := (sl_is x3).2.2.2.1
  have o3 := (sl_is x4).2.2.2.1
  have hl : (vars q.items).length = q.items.length := by simp [vars]
  have key : ∀ e : Nat → AV, e 0 = .g [a, ii q.mode, ii q.after, b, ii q.within, ss q.par, c] → awp (cx [] (pfL [])) (Tryd.f84.body.getD .skip) (finQ (cx [] (pfL [])) Tryd.f84 fun z h' n' => agree n h h' ∧ Fresh n' h' ∧ n ≤ n' ∧ ∃ m cs, z = .mv m 0 ∧ h' m = some ⟨cs, 0, true, 0⟩ ∧ isM (ixM (vars q.items)) cs ∧ n ≤ m ∧ m < n') ⟨e, h, n⟩ := fun e q0 => by
    simp [evs, aeval, binS, cx_ti, cx_G, cx_pf, cx_tw, ti, globS, glob, ldcs_1, ldcs_2, ldcs_3, ldcs_4, ldcs_5, ldcs_7, sls.eq_1, slc.eq_1, pfL, Tryd.f84, q0, ii, ss, s1, s2, s3, s4, o2, o3]
    refine awp_loop (fun s => ∃ (j : Nat) (cs : List AV), j ≤ q.items.length ∧ s.e 3 = .mv (n + 1) 0 ∧ s.e 13 = a ∧ s.e 14 = ii q.items.length ∧ s.e 15 = ii j ∧ s.h (n + 1) = some ⟨cs, 0, true, 0⟩ ∧ isM (ixM ((vars q.items).take j)) cs ∧ agree n h s.h ∧ Fresh s.n s.h ∧ n + 2 ≤ s.n) (fun s => q.items.length - (s.e 15).i.toNat) ⟨0, [], by omega, by simp [up], by simp [up], by simp [up, ii], by simp [up, ii], by simp [up], by simpa [ixM_nil] using isM_nil, by simp [agree_up, agree_refl], by simp [fresh_up, hn.add], by simp⟩ ?_
    rintro e' h' n' ⟨j, cs, hj, q3, q13, q14, q15, hm, hM, hag, hfr, hnn⟩
    simp only [] at q3 q13 q14 q15 hm hag hfr hnn
    have hok := hM.1
    by_cases hlt : j < q.items.length
    · rcases its_row x2 with ⟨h0, _⟩ | ⟨id, off, k, rfl, hk, ho, hat⟩
      · rw [h0] at hlt; simp at hlt
      have hid : id < n := lt_of hk hn
      have hk' : h' id = some k := by rw [hag id hid]; exact hk
      obtain ⟨ty, hr, hone⟩ := hat j hlt
      have c0 := cell_of (c := 0) hr rfl (by omega)
      have c1 := cell_of (c := 1) hr rfl (by omega)
      have c2 := cell_of (c := 2) hr rfl (by omega)
      have c3 := cell_of (c := 3) hr rfl (by omega)
      have c4 := cell_of (c := 4) hr rfl (by omega)
      simp only [Nat.add_zero] at c0
      rw [Nat.add_assoc] at c1 c2 c3 c4
      have hw5 : off + (j * 5 + 5) ≤ k.cells.length := by omega
      have hlt' : (j : Int) < (q.items.length : Int) := by omega
      have hjw := wrap_nat (j := j) (by omega)
      have htk : (vars q.items).take (j + 1) = (vars q.items).take j ++ [q.items[j].var] := by
        rw [List.take_succ_eq_append_getElem (by rw [hl]; exact hlt)]
        simp [vars]
      have htl : ((vars q.items).take j).length = j := by rw [List.length_take, hl]; omega
      have hf := hM.2 q.items[j].var
      generalize q.items[j].var = v at *
      generalize q.items[j].neg = ng at *
      generalize q.items[j].lo = lo at *
      generalize q.items[j].hi = hi at *
      have z1 : ¬ id = n' := by omega
      have z2 : ¬ n + 1 = n' := by omega
      have z3 : n + 1 < n' := by omega
      simp only [ii, bv, ss] at c0 c1 c2 c3 c4
      have hag3 : ∀ b1 b2 : Option Blk, agree n h (up (up h' n' b1) n' b2) := fun b1 b2 q hq => by rw [up_ne _ _ (by omega), up_ne _ _ (by omega), hag q hq]
      cases hx : ixM ((vars q.items).take j) v with
      | some i =>
        rw [hx] at hf
        simp only [Option.map_some, ii] at hf
        have hnew := ixM_old (l := (vars q.items).take j) (x := v) (by rw [hx]; rfl)
        simp [evs, aeval, binS, cx_ti, cx_G, cx_pf, cx_tw, ti, globS, glob, ldcs_1, ldcs_2, ldcs_3, ldcs_4, ldcs_5, ldcs_7, sls.eq_1, slc.eq_1, pfL, q3, q13, q14, q15, ii, bv, ss, hlt, hlt', hk', hm, hok, hf, c0, c1, c2, c3, c4, hw5, hone, z1, z2, hjw]
        exact ⟨⟨j + 1, by omega, by omega, by rw [htk, hnew]; exact hM, hag3 _ _, by simp [fresh_up, hfr.add], by omega⟩, by omega⟩
      | none =>
        rw [hx] at hf
        simp only [Option.map_none] at hf
        have hnew := ixM_new (l := (vars q.items).take j) (x := v) hx
        simp [evs, aeval, binS, cx_ti, cx_G, cx_pf, cx_tw, ti, globS, glob, ldcs_1, ldcs_2, ldcs_3, ldcs_4, ldcs_5, ldcs_7, sls.eq_1, slc.eq_1, pfL, q3, q13, q14, q15, ii, bv, ss, hlt, hlt', hk', hm, hok, hf, c0, c1, c2, c3, c4, hw5, hone, z1, z2, hjw]
        refine ⟨⟨j + 1, by omega, by omega, by rw [htk, hnew, htl]; exact isM_set hM v j, ?_, ?_, by omega⟩, by omega⟩
        · exact fun q hq => by rw [up_ne _ _ (by omega)]; exact hag3 _ _ q hq
        · exact (fresh_up (by omega) _).2 ((fresh_up (by omega) _).2 ((fresh_up (by omega) _).2 (hfr.add 3)))
    · obtain rfl : j = q.items.length := by omega
      rw [List.take_of_length_le (by omega)] at hM
      simp [evs, aeval, binS, cx_ti, cx_G, cx_pf, cx_tw, ti, globS, glob, ldcs_1, ldcs_2, ldcs_3, ldcs_4, ldcs_5, ldcs_7, sls.eq_1, slc.eq_1, pfL, q3, q13, q14, q15, ii]
      exact ⟨hag, hfr, by omega, _, hm, hM, by omega⟩
  exact key _ rfl
end Go.Proofs.YtkfphaphiikloaaDoor

/-
  CodeFrame, PART E: the items that a map counts (the program's closure).
-/
namespace Go.Proofs.YtkfphaphiikloaaDoor
open Go Go.Eng

theorem map_flat (l : List Int) : l.map ii = l.flatMap fun x => [ii x] := by
  induction l with
  | nil => rfl
  | cons x l ih => simp [ih]
/-- A list of numbers in a block of its own, or none. -/
def ISl (h : Heap) (z : AV) (l : List Int) (lo hi : Nat) : Prop :=
  (l = [] ∧ z = .v (.slice none 0 0)) ∨ ∃ w u, z = .s w u 0 l.length ∧ h w = some ⟨l.map ii, u, true, 1⟩ ∧ lo ≤ w ∧ w < hi
theorem ISl.rd {h : Heap} {z : AV} {l : List Int} {lo hi : Nat} (k : ISl h z l lo hi) : rd dIs h z = some l := by
  rcases k with ⟨rfl, rfl⟩ | ⟨w, u, rfl, hw, _⟩
  · rfl
  · exact flat_in Flat.int (l := l) hw rfl (r := []) (by simp [map_flat])
theorem ISl.up {h h' : Heap} {z : AV} {l : List Int} {lo hi : Nat} (k : ISl h z l lo hi) (hh : ∀ q, lo ≤ q → q < hi → h' q = h q) : ISl h' z l lo hi := by
  rcases k with h0 | ⟨w, u, h1, h2, h3, h4⟩
  · exact .inl h0
  · exact .inr ⟨w, u, h1, by rw [hh w h3 h4]; exact h2, h3, h4⟩
def posTo (f : Int → Int) (j : Nat) : List Int := ((List.range j).map fun i : Nat => (i : Int)).filter fun i => decide (0 < f i)
theorem posTo_succ (f : Int → Int) (j : Nat) : posTo f (j + 1) = posTo f j ++ if 0 < f (j : Int) then [(j : Int)] else [] := by
  simp only [posTo, List.range_succ, List.map_append, List.filter_append, List.map_cons, List.map_nil]
  congr 1
  by_cases h : 0 < f (j : Int) <;> simp [h]
theorem posTo_len (f : Int → Int) (j : Nat) : (posTo f j).length ≤ j := by
  refine Nat.le_trans (List.length_filter_le _ _) (by simp)
set_option maxRecDepth 100000 in
set_option maxHeartbeats 4000000 in
theorem c87 {h : Heap} {n m b : Nat} {cs : List AV} {f : Int → Int} {a x3 x6 : AV} {q : Qu} (hm : h m = some ⟨cs, 0, true, 0⟩) (hI : isI f cs) (hb : h b = some ⟨[a, ii q.mode, ii q.after, x3, ii q.within, ss q.par, x6], 0, true, 7⟩)
    (e2 : rd dIts h a = some q.items) (hq : q.items.length * 64 ≤ 140737488355328) (hn : Fresh n h) :
    ACall (cx [] (pfL [])) 87 [.mv m 0, .p b 0 0] h n fun z h' n' => agree n h h' ∧ Fresh n' h' ∧ n ≤ n' ∧ ISl h' z (posTo f q.items.length) n n' := by
  refine acall_of_awp (args := [.mv m 0, .p b 0 0]) (pfL_ok tb_nil) (mixed _ _) Tryd.func87 (c := Tryd.f87.body.getD .skip) rfl (by kernel_rfl) (callable Tryd.func87 rfl rfl _ _) (show 2 ≤ Tryd.f87.ntmps by decide +kernel) ?_
  obtain ⟨s1, s2, s3, s4, s5⟩ := sl_is e2
  have hmn : m < n := lt_of hm hn
  have hbn : b < n := lt_of hb hn
  have hok := hI.1
  have key : ∀ e : Nat → AV, e 0 = .mv m 0 → e 1 = .p b 0 0 → awp (cx [] (pfL [])) (Tryd.f87.body.getD .skip) (finQ (cx [] (pfL [])) Tryd.f87 fun z h' n' => agree n h h' ∧ Fresh n' h' ∧ n ≤ n' ∧ ISl h' z (posTo f q.items.length) n n') ⟨e, h, n⟩ := fun e q0 q1 => by
    simp [evs, aeval, binS, cx_ti, cx_G, cx_pf, cx_tw, ti, globS, glob, ldcs_1, ldcs_2, ldcs_3, ldcs_4, ldcs_5, ldcs_7, sls.eq_1, slc.eq_1, pfL, Tryd.f87, q0, q1, hb, s1, s2, s3]
    refine awp_loop (fun s => ∃ j : Nat, j ≤ q.items.length ∧ s.e 0 = .mv m 0 ∧ s.e 8 = ii q.items.length ∧ s.e 9 = ii j ∧ ISl s.h (s.e 4) (posTo f j) n s.n ∧ agree n h s.h ∧ Fresh s.n s.h ∧ n ≤ s.n) (fun s => q.items.length - (s.e 9).i.toNat) ⟨0, by omega, by simp [up, q0], by simp [up, ii], by simp [up, ii], .inl ⟨rfl, by simp [up]⟩, by simp [agree_refl], hn, by simp⟩ ?_
    rintro e' h' n' ⟨j, hj, q0, q8, q9, hl, hag, hfr, hnn⟩
    simp only [] at q0 q8 q9 hl hag hfr hnn
    by_cases hlt : j < q.items.length
    · have hm' : h' m = some ⟨cs, 0, true, 0⟩ := by rw [hag m hmn]; exact hm
      have hlt' : (j : Int) < (q.items.length : Int) := by omega
      have hjw := wrap_nat (j := j) (by unfold big; omega)
      have hf := hI.2 (j : Int)
      have hps := posTo_succ f j
      have hpl := posTo_len f j
      simp only [ii] at hf
      by_cases hp : 0 < f (j : Int)
      · rw [if_pos hp] at hps
        generalize posTo f j = l at *
        obtain ⟨z4, q4⟩ : ∃ x, e' 4 = x := ⟨_, rfl⟩
        rw [q4] at hl
        have b1 : (l.length + 1) * 8 ≤ 140737488355328 := by omega
        have b2 : l.length ≤ 9223372036854775806 := by omega
        rcases hl with ⟨rfl, rfl⟩ | ⟨w, u, rfl, hw, hw1, hw2⟩
        · simp [evs, aeval, binS, cx_ti, cx_G, cx_pf, cx_tw, ti, globS, glob, ldcs_1, ldcs_2, ldcs_3, ldcs_4, ldcs_5, ldcs_7, sls.eq_1, slc.eq_1, pfL, q0, q4, q8, q9, ii, hlt, hlt', hm', hok, hf, hp, hjw]
          refine ⟨⟨j + 1, by omega, by omega, .inr ⟨n' + 1, 0, by simp [up, hps], ?_, by omega, by omega⟩, ?_, ?_, by omega⟩, by omega⟩
          · simp [hps, ii, up_same]
          · exact fun q hq => by rw [up_ne _ _ (by omega), up_ne _ _ (by omega), hag q hq]
          · simp [fresh_up, hfr.add]
        · have z1 : ¬ w = n' := by omega
          have z2 : w < n' + 2 := by omega
          simp [evs, aeval, binS, cx_ti, cx_G, cx_pf, cx_tw, ti, globS, glob, ldcs_1, ldcs_2, ldcs_3, ldcs_4, ldcs_5, ldcs_7, sls.eq_1, slc.eq_1, pfL, q0, q4, q8, q9, ii, hlt, hlt', hm', hok, hf, hp, hjw, hw, z1, b1, b2]
          refine ⟨⟨j + 1, by omega, by omega, .inr ⟨w, u + 1, by simp [up, hps], ?_, by omega, by omega⟩, ?_, ?_, by omega⟩, by omega⟩
          · simp [hps, ii, up_same]
          · exact fun q hq => by rw [up_ne _ _ (by omega), up_ne _ _ (by omega), hag q hq]
          · simp [fresh_up, hfr.add, z2]
      · rw [if_neg hp, List.append_nil] at hps
        simp [evs, aeval, binS, cx_ti, cx_G, cx_pf, cx_tw, ti, globS, glob, ldcs_1, ldcs_2, ldcs_3, ldcs_4, ldcs_5, ldcs_7, sls.eq_1, slc.eq_1, pfL, q0, q8, q9, ii, hlt, hlt', hm', hok, hf, hp, hjw]
        exact ⟨⟨j + 1, by omega, by omega, by rw [hps]; exact hl, hag, hfr, hnn⟩, by omega⟩
    · obtain rfl : j = q.items.length := by omega
      obtain ⟨z4, q4⟩ : ∃ x, e' 4 = x := ⟨_, rfl⟩
      rw [q4] at hl
      simp [evs, aeval, binS, cx_ti, cx_G, cx_pf, cx_tw, ti, globS, glob, ldcs_1, ldcs_2, ldcs_3, ldcs_4, ldcs_5, ldcs_7, sls.eq_1, slc.eq_1, pfL, q0, q4, q8, q9, ii]
      exact ⟨hag, hfr, hnn, hl⟩
  exact key _ rfl rfl
end Go.Proofs.YtkfphaphiikloaaDoor

/-
  CodeFrame, PART F: what a tree mentions (the program's).
-/
namespace Go.Proofs.YtkfphaphiikloaaDoor
open Go Go.Eng

def g85 := pure1 deI fun o => bv (bareO o)
def g86 := pure1 deI fun o => bv (aggO o)
set_option maxRecDepth 100000 in
theorem p85 : P0 [] 85 g85 := by
  refine mk1 (S := []) tb_nil Tryd.func85 rfl (by kernel_rfl) ii (fun x a h => deI_out h) (fun a => rfl) (fun o h n => ?_)
  have hc : o = 4 ∨ o = 11 ∨ (o ≠ 4 ∧ o ≠ 11) := by omega
  rcases hc with rfl | rfl | ⟨h1, h2⟩
  · simp [evs, aeval, binS, cx_ti, cx_G, cx_pf, cx_tw, ti, globS, glob, ldcs, sls, slc, pfL, ii, bv, bareO]
  · simp [evs, aeval, binS, cx_ti, cx_G, cx_pf, cx_tw, ti, globS, glob, ldcs, sls, slc, pfL, ii, bv, bareO]
  · simp [evs, aeval, binS, cx_ti, cx_G, cx_pf, cx_tw, ti, globS, glob, ldcs, sls, slc, pfL, ii, bv, bareO, h1, h2]
set_option maxRecDepth 100000 in
theorem p86 : P0 [] 86 g86 := by
  refine mk1 (S := []) tb_nil Tryd.func86 rfl (by kernel_rfl) ii (fun x a h => deI_out h) (fun a => rfl) (fun o h n => ?_)
  by_cases h1 : 5 ≤ o
  · by_cases h2 : o ≤ 10 <;> simp [evs, aeval, binS, cx_ti, cx_G, cx_pf, cx_tw, ti, globS, glob, ldcs, sls, slc, pfL, ii, bv, aggO, h1, h2]
  · simp [evs, aeval, binS, cx_ti, cx_G, cx_pf, cx_tw, ti, globS, glob, ldcs, sls, slc, pfL, ii, bv, aggO, h1]
/-- How many nodes of a kind mention an item. -/
def cntU (p : Int → Bool) (vs : List ByteArray) (t : List Nd) (i : Int) : Int := ((t.filter fun x => p x.op && decide (ixM vs x.var = some i)).length : Nat)
theorem cntU_nil (p : Int → Bool) (vs : List ByteArray) : cntU p vs [] = fun _ => 0 := rfl
theorem cntU_add (p : Int → Bool) (vs : List ByteArray) (t : List Nd) (x : Nd) (i : Int) : cntU p vs (t ++ [x]) i = cntU p vs t i + if p x.op = true ∧ ixM vs x.var = some i then 1 else 0 := by
  unfold cntU
  rw [List.filter_append, List.length_append]
  by_cases h1 : p x.op = true <;> by_cases h2 : ixM vs x.var = some i <;> simp [h1, h2]
theorem cntU_no {p : Int → Bool} {vs : List ByteArray} {t : List Nd} {x : Nd} (h : p x.op = false ∨ ixM vs x.var = none) : cntU p vs (t ++ [x]) = cntU p vs t := by
  funext i
  rw [cntU_add, if_neg (fun e => by rcases h with h | h <;> simp [h] at e), Int.add_zero]
theorem cntU_yes {p : Int → Bool} {vs : List ByteArray} {t : List Nd} {x : Nd} {i : Int} (h : p x.op = true) (h2 : ixM vs x.var = some i) : cntU p vs (t ++ [x]) = fun z => if z = i then cntU p vs t i + 1 else cntU p vs t z := by
  funext z
  rw [cntU_add]
  by_cases hz : z = i
  · subst hz; rw [if_pos ⟨h, h2⟩, if_pos rfl]
  · rw [if_neg (fun e => hz (by rw [h2] at e; exact (Option.some.inj e.2).symm)), if_neg hz, Int.add_zero]
theorem cntU_bd (p : Int → Bool) (vs : List ByteArray) (t : List Nd) (i : Int) : 0 ≤ cntU p vs t i ∧ cntU p vs t i ≤ t.length := by
  unfold cntU
  have := List.length_filter_le (fun x : Nd => p x.op && decide (ixM vs x.var = some i)) t
  omega
theorem posTo_uses (p : Int → Bool) (vs : List ByteArray) (t : List Nd) : posTo (cntU p vs t) vs.length = usesL p vs t := by
  unfold posTo usesL
  refine List.filter_congr fun i hi => ?_
  obtain ⟨j, _, rfl⟩ := List.mem_map.1 hi
  have key : ∀ x : Nd, (ixM vs x.var = some (j : Int)) ↔ ixOf vs x.var = (j : Int) := fun x => by
    unfold ixM
    constructor
    · intro h
      split at h
      · exact Option.some.inj h
      · cases h
    · intro h
      rw [if_pos (by omega), h]
  unfold cntU usesN
  simp only [key]
  rw [Bool.eq_iff_iff, decide_eq_true_eq, List.any_eq_true]
  constructor
  · intro h
    have h' : 0 < (t.filter fun x => p x.op && decide (ixOf vs x.var = (j : Int))).length := by omega
    obtain ⟨x, hx⟩ := List.exists_mem_of_length_pos h'
    exact ⟨x, (List.mem_filter.1 hx).1, (List.mem_filter.1 hx).2⟩
  · rintro ⟨x, hx, hp⟩
    have := List.length_pos_of_mem (List.mem_filter (p := fun x => p x.op && decide (ixOf vs x.var = (j : Int))).2 ⟨hx, hp⟩)
    omega
def tb49 : List (FuncId × (List AV → Heap → PRes)) := [(85, g85), (86, g86)]
/-- What Uses holds when j nodes have been counted. -/
structure A49 (h0 : Heap) (n : Nat) (qc : List AV) (ta : AV) (q : Qu) (t : List Nd) (j : Nat) (s : St) : Prop where
  q2 : s.e 2 = .p n 0 0
  q4 : s.e 4 = .p (n + 1) 0 0
  hq : s.h n = some ⟨qc, 0, true, 7⟩
  hz : s.h (n + 1) = some ⟨[.v (.slice none 0 0), .v (.slice none 0 0), .v (.slice none 0 0)], 0, true, 3⟩
  ag : agree n h0 s.h
  fr : Fresh s.n s.h
  m : ∃ m cs, s.e 5 = .mv m 0 ∧ s.h m = some ⟨cs, 0, true, 0⟩ ∧ isM (ixM (vars q.items)) cs ∧ n + 2 ≤ m ∧ ∃ b c1 c2 c3, m < b ∧ b + 2 < s.n ∧ s.e 6 = .mv b 0 ∧ s.e 7 = .mv (b + 1) 0 ∧ s.e 8 = .mv (b + 2) 0 ∧
    s.h b = some ⟨c1, 0, true, 0⟩ ∧ isI (cntU bareO (vars q.items) (t.take j)) c1 ∧ s.h (b + 1) = some ⟨c2, 0, true, 0⟩ ∧ isI (cntU prevO (vars q.items) (t.take j)) c2 ∧ s.h (b + 2) = some ⟨c3, 0, true, 0⟩ ∧ isI (cntU aggO (vars q.items) (t.take j)) c3
section
set_option maxRecDepth 100000
set_option maxHeartbeats 4000000
variable {h : Heap} {n : Nat} {qx ta : AV} {q : Qu} {t : List Nd}
theorem c49a {a b c : AV} (x2 : rd dIts h a = some q.items) (x3 : rd dNs h b = some q.wh) (x4 : rd dNss h c = some q.ret) (e3 : rd dNs h ta = some t) (hq : q.items.length < big) (hn : Fresh n h) (e : Nat → AV) (q0 : e 0 = .g [a, ii q.mode, ii q.after, b, ii q.within, ss q.par, c]) (q1 : e 1 = ta) {Q : Ex → St → Prop} :
    awp (cx [] (pfL tb49)) (hdC 3 (Tryd.f49.body.getD .skip)) (thenQ (fun s => A49 h n [a, ii q.mode, ii q.after, b, ii q.within, ss q.par, c] ta q t 0 s ∧ s.e 1 = ta) Q) ⟨e, h, n⟩ := by
  obtain ⟨s1, s2, s3, s4, s5⟩ := sl_is e3
  have o1 := (sl_is x2).2.2.2.1
  have o2 := (sl_is x3).2.2.2.1
  have o3 := (sl_is x4).2.2.2.1
  simp [evs, aeval, binS, cx_ti, cx_G, cx_pf, cx_tw, ti, globS, glob, ldcs_1, ldcs_2, ldcs_3, ldcs_4, ldcs_5, ldcs_7, sls.eq_1, slc.eq_1, pfL, hdC, Tryd.f49, q0, q1, ii, ss, o1, o2, o3, s1, s2, s3, tb49]
  have hag : ∀ b1 b2 : Option Blk, agree n h (up (up h n b1) (n + 1) b2) := fun b1 b2 => by simp [agree_up, agree_refl]
  have hfr : ∀ b1 b2 : Option Blk, Fresh (n + 2) (up (up h n b1) (n + 1) b2) := fun b1 b2 => by simp [fresh_up, hn.add]
  have hdq : ∀ h', agree n h h' → deQ h' (.g [a, .v (.int .i64 q.mode), .v (.int .i64 q.after), b, .v (.int .i64 q.within), .v (.string q.par), c]) = some q := fun h' ha => deQ_sim (agr_sim hn ha) (deQ_in x2 x3 x4)
  refine (acall_any (S := []) (by simp) (c84 (hdq _ (hag _ _)) hq (hfr _ _))).mono ?_
  rintro z h2 n2 ⟨a1, a2, a3, m, cs, rfl, hm, hM, m1, m2⟩
  have z1 : ¬ n = n2 := by omega
  have k0 : h2 n = some ⟨[a, ii q.mode, ii q.after, b, ii q.within, ss q.par, c], 0, true, 7⟩ := by rw [a1 n (by omega)]; simp [up, ii, ss]
  have k1 : h2 (n + 1) = some ⟨[.v (.slice none 0 0), .v (.slice none 0 0), .v (.slice none 0 0)], 0, true, 3⟩ := by rw [a1 (n + 1) (by omega)]; simp [up]
  have hup : ∀ (b1 b2 b3 : Option Blk) (i : Nat), i < n2 → up (up (up h2 n2 b1) (n2 + 1) b2) (n2 + 2) b3 i = h2 i := fun b1 b2 b3 i hi => by rw [up_ne _ _ (by omega), up_ne _ _ (by omega), up_ne _ _ (by omega)]
  refine ⟨by simp [up], by simp [up], (hup _ _ _ _ (by omega)).trans k0, (hup _ _ _ _ (by omega)).trans k1, ?_, by simp [fresh_up, a2.add], m, cs, by simp [up], (hup _ _ _ _ m2).trans hm, hM, m1, n2, [], [], [], m2, by simp, by simp [up], by simp [up], by simp [up], by simp [up], isI_nil, by simp [up], isI_nil, by simp [up], isI_nil⟩
  exact fun i hi => (hup _ _ _ i (by omega)).trans (by rw [a1 i (by omega)]; exact hag _ _ i hi)
theorem wrap_cnt (p : Int → Bool) (vs : List ByteArray) (t : List Nd) (i : Int) (h : t.length < big) : IntKind.i64.wrap (cntU p vs t i + 1) = cntU p vs t i + 1 := by
  obtain ⟨h1, h2⟩ := cntU_bd p vs t i
  obtain ⟨c, hc⟩ : ∃ c : Nat, cntU p vs t i = c := ⟨(cntU p vs t i).toNat, by omega⟩
  rw [hc]
  exact wrap_nat (by omega)
theorem c49b {qc : List AV} (e3 : rd dNs h ta = some t) (hp : smallT t) (hn : Fresh n h) (e : Nat → AV) (h1 : Heap) (n1 : Nat) (a : A49 h n qc ta q t 0 ⟨e, h1, n1⟩) (q1 : e 1 = ta) {Q : Ex → St → Prop} :
    awp (cx [] (pfL tb49)) (hdC 1 (tlC 3 (Tryd.f49.body.getD .skip))) (thenQ (A49 h n qc ta q t t.length) Q) ⟨e, h1, n1⟩ := by
  have hp' : t.length * 64 ≤ 140737488355328 := hp
  obtain ⟨s1, s2, s3, s4, s5⟩ := sl_is e3
  simp [evs, aeval, binS, cx_ti, cx_G, cx_pf, cx_tw, ti, globS, glob, ldcs_1, ldcs_2, ldcs_3, ldcs_4, ldcs_5, ldcs_7, sls.eq_1, slc.eq_1, pfL, hdC, tlC, Tryd.f49, q1, s1, s2, s3]
  refine awp_loop (fun s => ∃ j : Nat, j ≤ t.length ∧ A49 h n qc ta q t j s ∧ s.e 19 = ta ∧ s.e 20 = ii t.length ∧ s.e 21 = ii j) (fun s => t.length - (s.e 21).i.toNat) ⟨0, by omega, ?_, by simp [up, q1], by simp [up, ii], by simp [up, ii]⟩ ?_
  · obtain ⟨x1, x2, x3, x4, xa, xf, m, cs, x5, x6, x7, x8, b, c1, c2, c3, x9, x10, x11, x12, x13, x14⟩ := a
    exact ⟨by simpa [up] using x1, by simpa [up] using x2, x3, x4, xa, xf, m, cs, by simpa [up] using x5, x6, x7, x8, b, c1, c2, c3, x9, x10, by simpa [up] using x11, by simpa [up] using x12, by simpa [up] using x13, x14⟩
  rintro e' h' n' ⟨j, hj, ⟨q2, q4, hq, hz, hag, hfr, m, cs, q5, hm, hM, hm2, b, c1, c2, c3, hb0, hb3, q6, q7, q8, k1, I1, k2, I2, k3, I3⟩, q19, q20, q21⟩
  simp only [] at q2 q4 hq hz q5 hm q6 q7 q8 k1 k2 k3 hag hfr q19 q20 q21 hb3
  by_cases hlt : j < t.length
  · rcases ns_at e3 with ⟨h0, _⟩ | ⟨id, off, k, rfl, hk, ho, hat⟩
    · rw [h0] at hlt; simp at hlt
    have hid : id < n := lt_of hk hn
    have hk' : h' id = some k := by rw [hag id hid]; exact hk
    have hr := hat j hlt
    have d0 := cell_of (c := 0) hr rfl (by omega)
    have d1 := cell_of (c := 1) hr rfl (by omega)
    have d2 := cell_of (c := 2) hr rfl (by omega)
    have d3 := cell_of (c := 3) hr rfl (by omega)
    have d4 := cell_of (c := 4) hr rfl (by omega)
    have d5 := cell_of (c := 5) hr rfl (by omega)
    simp only [Nat.add_zero] at d0
    rw [Nat.add_assoc] at d1 d2 d3 d4 d5
    have hw6 : off + (j * 6 + 6) ≤ k.cells.length := by omega
    have hld : ∀ X : Ctx, ldcs X h' (.p id k.ver (off + j * 6)) 0 6 = ncells t[j] := fun X => ldcs_nd hk' hr
    have hlt' : (j : Int) < (t.length : Int) := by omega
    have hjw := wrap_nat (j := j) (by unfold big; omega)
    have htk : t.take (j + 1) = t.take j ++ [t[j]] := List.take_succ_eq_append_getElem hlt
    have htl : (t.take j).length < big := by rw [List.length_take]; unfold big; omega
    have hf := hM.2 t[j].var
    have hok := hM.1
    have ok1 := I1.1
    have ok2 := I2.1
    have ok3 := I3.1
    generalize t[j] = x at *
    obtain ⟨op, nn, var, attr, xa, xb⟩ := x
    simp only [] at hf
    simp only [ncells, ii, ss] at hld
    simp only [ii, ss] at d0 d1 d2 d3 d4 d5
    have z0 : ¬ id = n' := by omega
    have z1 : ¬ m = n' := by omega
    have z2 : ¬ b = n' := by omega
    have z3 : ¬ b + 1 = n' := by omega
    have z4 : ¬ b + 2 = n' := by omega
    have z5 : ¬ n' = b := by omega
    have z6 : ¬ n' = b + 1 := by omega
    have z7 : ¬ n' = b + 2 := by omega
    have fin : ∀ (h2 : Heap) (n2 : Nat) (c1' c2' c3' : List AV), n' ≤ n2 → (∀ i, i < n' → i ≠ b → i ≠ b + 1 → i ≠ b + 2 → h2 i = h' i) → h2 b = some ⟨c1', 0, true, 0⟩ → h2 (b + 1) = some ⟨c2', 0, true, 0⟩ → h2 (b + 2) = some ⟨c3', 0, true, 0⟩ →
        isI (cntU bareO (vars q.items) (t.take (j + 1))) c1' → isI (cntU prevO (vars q.items) (t.take (j + 1))) c2' → isI (cntU aggO (vars q.items) (t.take (j + 1))) c3' → Fresh n2 h2 → ∀ e2 : Nat → AV, (∀ i ∈ [2, 4, 5, 6, 7, 8], e2 i = e' i) →
        A49 h n qc (.s id k.ver off t.length) q t (j + 1) ⟨e2, h2, n2⟩ := fun h2 n2 c1' c2' c3' hn2 hh g1 g2 g3 i1 i2 i3 hf2 e2 he => by
      have he' : e2 2 = e' 2 ∧ e2 4 = e' 4 ∧ e2 5 = e' 5 ∧ e2 6 = e' 6 ∧ e2 7 = e' 7 ∧ e2 8 = e' 8 := ⟨he 2 (by simp), he 4 (by simp), he 5 (by simp), he 6 (by simp), he 7 (by simp), he 8 (by simp)⟩
      obtain ⟨w2, w4, w5, w6, w7, w8⟩ := he'
      exact ⟨w2.trans q2, w4.trans q4, (hh n (by omega) (by omega) (by omega) (by omega)).trans hq, (hh (n + 1) (by omega) (by omega) (by omega) (by omega)).trans hz, fun i hi => (hh i (by omega) (by omega) (by omega) (by omega)).trans (hag i hi), hf2, m, cs, w5.trans q5, (hh m (by omega) (by omega) (by omega) (by omega)).trans hm, hM, hm2, b, c1', c2', c3', hb0, by simp only []; omega, w6.trans q6, w7.trans q7, w8.trans q8, g1, i1, g2, i2, g3, i3⟩
    cases hx : ixM (vars q.items) var with
    | none =>
      rw [hx] at hf
      simp only [Option.map_none] at hf
      have e1 := cntU_no (p := bareO) (vs := vars q.items) (t := t.take j) (x := ⟨op, nn, var, attr, xa, xb⟩) (.inr hx)
      have e2 := cntU_no (p := prevO) (vs := vars q.items) (t := t.take j) (x := ⟨op, nn, var, attr, xa, xb⟩) (.inr hx)
      have e3 := cntU_no (p := aggO) (vs := vars q.items) (t := t.take j) (x := ⟨op, nn, var, attr, xa, xb⟩) (.inr hx)
      rw [← htk] at e1 e2 e3
      simp [evs, aeval, binS, cx_ti, cx_G, cx_pf, cx_tw, ti, globS, glob, ldcs_1, ldcs_2, ldcs_3, ldcs_4, ldcs_5, ldcs_7, sls.eq_1, slc.eq_1, pfL, q5, q19, q20, q21, ii, bv, ss, hlt, hlt', hk', hld, hm, hok, hf, d0, d1, d2, d3, d4, d5, hw6, z0, z1, hjw]
      refine ⟨⟨j + 1, by omega, fin _ _ c1 c2 c3 (by omega) (fun i hi _ _ _ => ?_) ?_ ?_ ?_ (by rw [e1]; exact I1) (by rw [e2]; exact I2) (by rw [e3]; exact I3) (by simp [fresh_up, hfr.add]) _ (by simp [up]), by omega⟩, by omega⟩
      · rw [up_ne _ _ (by omega), up_ne _ _ (by omega)]
      · rw [up_ne _ _ (by omega), up_ne _ _ (by omega)]; exact k1
      · rw [up_ne _ _ (by omega), up_ne _ _ (by omega)]; exact k2
      · rw [up_ne _ _ (by omega), up_ne _ _ (by omega)]; exact k3
    | some i =>
      rw [hx] at hf
      simp only [Option.map_some, ii] at hf
      have f1 := I1.2 i
      have f2 := I2.2 i
      have f3 := I3.2 i
      simp only [ii] at f1 f2 f3
      have u1 := wrap_cnt bareO (vars q.items) (t.take j) i htl
      have u2 := wrap_cnt prevO (vars q.items) (t.take j) i htl
      have u3 := wrap_cnt aggO (vars q.items) (t.take j) i htl
      have y1 := fun hb : bareO op = true => cntU_yes (p := bareO) (vs := vars q.items) (t := t.take j) (x := ⟨op, nn, var, attr, xa, xb⟩) hb hx
      have y2 := fun hb : prevO op = true => cntU_yes (p := prevO) (vs := vars q.items) (t := t.take j) (x := ⟨op, nn, var, attr, xa, xb⟩) hb hx
      have y3 := fun hb : aggO op = true => cntU_yes (p := aggO) (vs := vars q.items) (t := t.take j) (x := ⟨op, nn, var, attr, xa, xb⟩) hb hx
      have g1 := fun hb : bareO op = false => cntU_no (p := bareO) (vs := vars q.items) (t := t.take j) (x := ⟨op, nn, var, attr, xa, xb⟩) (.inl hb)
      have g2 := fun hb : prevO op = false => cntU_no (p := prevO) (vs := vars q.items) (t := t.take j) (x := ⟨op, nn, var, attr, xa, xb⟩) (.inl hb)
      have g3 := fun hb : aggO op = false => cntU_no (p := aggO) (vs := vars q.items) (t := t.take j) (x := ⟨op, nn, var, attr, xa, xb⟩) (.inl hb)
      rw [← htk] at y1 y2 y3 g1 g2 g3
      have hc : op = 4 ∨ op = 11 ∨ (5 ≤ op ∧ op ≤ 10) ∨ (op ≠ 4 ∧ op ≠ 11 ∧ ¬ (5 ≤ op ∧ op ≤ 10)) := by omega
      rcases hc with rfl | rfl | ⟨r1, r2⟩ | ⟨r1, r2, r3⟩
      · have p1 : bareO 4 = true := rfl
        have p2 : prevO 4 = false := rfl
        have p3 : aggO 4 = false := rfl
        simp [evs, aeval, binS, cx_ti, cx_G, cx_pf, cx_tw, ti, globS, glob, ldcs_1, ldcs_2, ldcs_3, ldcs_4, ldcs_5, ldcs_7, sls.eq_1, slc.eq_1, pfL, q5, q6, q19, q20, q21, ii, bv, ss, hlt, hlt', hk', hld, hm, hok, ok1, hf, f1, k1, d0, d1, d2, d3, d4, d5, hw6, z0, z1, z2, z5, hjw, u1, tb49, g85, g86, pure1, deI, p1, p3]
        refine ⟨⟨j + 1, by omega, fin _ _ (msetI i (ii (cntU bareO (vars q.items) (t.take j) i + 1)) c1) c2 c3 (by omega) (fun i hi z1 z2 z3 => ?_) ?_ ?_ ?_ (by rw [y1 p1]; exact isI_set I1 _ _) (by rw [g2 p2]; exact I2) (by rw [g3 p3]; exact I3) ((fresh_up (by omega) _).2 ((fresh_up (by omega) _).2 ((fresh_up (by omega) _).2 (hfr.add 3)))) _ (by simp [up]), by omega⟩, by omega⟩
        · rw [up_ne _ _ z1, up_ne _ _ (by omega), up_ne _ _ (by omega)]
        · rw [up_same]; rfl
        · rw [up_ne _ _ (by omega), up_ne _ _ (by omega), up_ne _ _ (by omega)]; exact k2
        · rw [up_ne _ _ (by omega), up_ne _ _ (by omega), up_ne _ _ (by omega)]; exact k3
      · have p1 : bareO 11 = true := rfl
        have p2 : prevO 11 = true := rfl
        have p3 : aggO 11 = false := rfl
        simp [evs, aeval, binS, cx_ti, cx_G, cx_pf, cx_tw, ti, globS, glob, ldcs_1, ldcs_2, ldcs_3, ldcs_4, ldcs_5, ldcs_7, sls.eq_1, slc.eq_1, pfL, q5, q6, q7, q19, q20, q21, ii, bv, ss, hlt, hlt', hk', hld, hm, hok, ok1, ok2, hf, f1, f2, k1, k2, d0, d1, d2, d3, d4, d5, hw6, z0, z1, z2, z3, z5, z6, hjw, u1, u2, tb49, g85, g86, pure1, deI, p1, p3]
        refine ⟨⟨j + 1, by omega, fin _ _ (msetI i (ii (cntU bareO (vars q.items) (t.take j) i + 1)) c1) (msetI i (ii (cntU prevO (vars q.items) (t.take j) i + 1)) c2) c3 (by omega) (fun i hi z1 z2 z3 => ?_) ?_ ?_ ?_ (by rw [y1 p1]; exact isI_set I1 _ _) (by rw [y2 p2]; exact isI_set I2 _ _) (by rw [g3 p3]; exact I3) ((fresh_up (by omega) _).2 ((fresh_up (by omega) _).2 ((fresh_up (by omega) _).2 ((fresh_up (by omega) _).2 (hfr.add 4))))) _ (by simp [up]), by omega⟩, by omega⟩
        · rw [up_ne _ _ z2, up_ne _ _ z1, up_ne _ _ (by omega), up_ne _ _ (by omega)]
        · rw [up_ne _ _ (by omega), up_same]; rfl
        · rw [up_same]; rfl
        · rw [up_ne _ _ (by omega), up_ne _ _ (by omega), up_ne _ _ (by omega), up_ne _ _ (by omega)]; exact k3
      · have p1 : bareO op = false := by simp [bareO]; omega
        have p2 : prevO op = false := by simp [prevO]; omega
        have p3 : aggO op = true := by simp [aggO]; omega
        have r4 : ¬ op = 11 := by omega
        simp [evs, aeval, binS, cx_ti, cx_G, cx_pf, cx_tw, ti, globS, glob, ldcs_1, ldcs_2, ldcs_3, ldcs_4, ldcs_5, ldcs_7, sls.eq_1, slc.eq_1, pfL, q5, q8, q19, q20, q21, ii, bv, ss, hlt, hlt', hk', hld, hm, hok, ok3, hf, f3, k3, d0, d1, d2, d3, d4, d5, hw6, z0, z1, z4, z7, hjw, u3, tb49, g85, g86, pure1, deI, p1, p3, r4]
        refine ⟨⟨j + 1, by omega, fin _ _ c1 c2 (msetI i (ii (cntU aggO (vars q.items) (t.take j) i + 1)) c3) (by omega) (fun i hi z1 z2 z3 => ?_) ?_ ?_ ?_ (by rw [g1 p1]; exact I1) (by rw [g2 p2]; exact I2) (by rw [y3 p3]; exact isI_set I3 _ _) ((fresh_up (by omega) _).2 ((fresh_up (by omega) _).2 ((fresh_up (by omega) _).2 (hfr.add 3)))) _ (by simp [up]), by omega⟩, by omega⟩
        · rw [up_ne _ _ z3, up_ne _ _ (by omega), up_ne _ _ (by omega)]
        · rw [up_ne _ _ (by omega), up_ne _ _ (by omega), up_ne _ _ (by omega)]; exact k1
        · rw [up_ne _ _ (by omega), up_ne _ _ (by omega), up_ne _ _ (by omega)]; exact k2
        · rw [up_same]; rfl
      · have p1 : bareO op = false := by simp [bareO]; omega
        have p2 : prevO op = false := by simp [prevO]; omega
        have p3 : aggO op = false := by simp [aggO]; omega
        simp [evs, aeval, binS, cx_ti, cx_G, cx_pf, cx_tw, ti, globS, glob, ldcs_1, ldcs_2, ldcs_3, ldcs_4, ldcs_5, ldcs_7, sls.eq_1, slc.eq_1, pfL, q5, q19, q20, q21, ii, bv, ss, hlt, hlt', hk', hld, hm, hok, hf, d0, d1, d2, d3, d4, d5, hw6, z0, z1, hjw, tb49, g85, g86, pure1, deI, p1, p3, r2]
        refine ⟨⟨j + 1, by omega, fin _ _ c1 c2 c3 (by omega) (fun i hi _ _ _ => ?_) ?_ ?_ ?_ (by rw [g1 p1]; exact I1) (by rw [g2 p2]; exact I2) (by rw [g3 p3]; exact I3) (by simp [fresh_up, hfr.add]) _ (by simp [up]), by omega⟩, by omega⟩
        · rw [up_ne _ _ (by omega), up_ne _ _ (by omega)]
        · rw [up_ne _ _ (by omega), up_ne _ _ (by omega)]; exact k1
        · rw [up_ne _ _ (by omega), up_ne _ _ (by omega)]; exact k2
        · rw [up_ne _ _ (by omega), up_ne _ _ (by omega)]; exact k3
  · obtain rfl : j = t.length := by omega
    simp [evs, aeval, binS, cx_ti, cx_G, cx_pf, cx_tw, ti, globS, glob, ldcs_1, ldcs_2, ldcs_3, ldcs_4, ldcs_5, ldcs_7, sls.eq_1, slc.eq_1, pfL, q20, q21, ii]
    exact ⟨q2, q4, hq, hz, hag, hfr, m, cs, q5, hm, hM, hm2, b, c1, c2, c3, hb0, hb3, q6, q7, q8, k1, I1, k2, I2, k3, I3⟩
/-- What Uses answers. -/
def post49 (h : Heap) (n : Nat) (q : Qu) (t : List Nd) (z : AV) (h' : Heap) (n' : Nat) : Prop :=
  agree n h h' ∧ Fresh n' h' ∧ n ≤ n' ∧ ∃ a1 a2 a3, z = .g [a1, a2, a3] ∧ rd dIs h' a1 = some (usesL bareO (vars q.items) t) ∧ rd dIs h' a2 = some (usesL prevO (vars q.items) t) ∧ rd dIs h' a3 = some (usesL aggO (vars q.items) t)
theorem c49c {a x3 x6 : AV} (e2 : rd dIts h a = some q.items) (hp : q.items.length * 64 ≤ 140737488355328) (hn : Fresh n h) (e : Nat → AV) (h1 : Heap) (n1 : Nat) (k : A49 h n [a, ii q.mode, ii q.after, x3, ii q.within, ss q.par, x6] ta q t t.length ⟨e, h1, n1⟩) :
    awp (cx [] (pfL tb49)) (tlC 4 (Tryd.f49.body.getD .skip)) (finQ (cx [] (pfL tb49)) Tryd.f49 (post49 h n q t)) ⟨e, h1, n1⟩ := by
  obtain ⟨q2, q4, hq, hz, hag, hfr, m, cs, q5, hm, hM, hm2, b, c1, c2, c3, hb0, hb3, q6, q7, q8, k1, I1, k2, I2, k3, I3⟩ := k
  simp only [] at q2 q4 hq hz q5 hm q6 q7 q8 k1 k2 k3 hag hfr hb3
  have hvl : q.items.length = (vars q.items).length := by simp [vars]
  rw [List.take_length] at I1 I2 I3
  simp [evs, aeval, binS, cx_ti, cx_G, cx_pf, cx_tw, ti, globS, glob, ldcs_1, ldcs_2, ldcs_3, ldcs_4, ldcs_5, ldcs_7, sls.eq_1, slc.eq_1, pfL, tlC, Tryd.f49, q2, q6, tb49]
  refine (acall_any (S := []) (by simp) (c87 k1 I1 hq (rd_agr hn e2 _ hag) hp hfr)).mono ?_
  rintro z1 h2 n2 ⟨a1, a2, a3, l1⟩
  rw [hvl, posTo_uses] at l1
  simp [evs, aeval, binS, cx_ti, cx_G, cx_pf, cx_tw, ti, globS, glob, ldcs_1, ldcs_2, ldcs_3, ldcs_4, ldcs_5, ldcs_7, sls.eq_1, slc.eq_1, pfL, q2, q7, tb49]
  have hq2 := (a1 n (by omega)).trans hq
  have e22 := rd_agr hn e2 _ (agree_trans hag a1 (by omega))
  refine (acall_any (S := []) (by simp) (c87 ((a1 _ (by omega)).trans k2) I2 hq2 e22 hp a2)).mono ?_
  rintro z2 h3 n3 ⟨d1, d2, d3, l2⟩
  rw [hvl, posTo_uses] at l2
  simp [evs, aeval, binS, cx_ti, cx_G, cx_pf, cx_tw, ti, globS, glob, ldcs_1, ldcs_2, ldcs_3, ldcs_4, ldcs_5, ldcs_7, sls.eq_1, slc.eq_1, pfL, q2, q8, tb49]
  have hq3 := (d1 n (by omega)).trans hq2
  have e23 := rd_agr hn e2 _ (agree_trans hag (agree_trans a1 d1 (by omega)) (by omega))
  refine (acall_any (S := []) (by simp) (c87 ((d1 _ (by omega)).trans ((a1 _ (by omega)).trans k3)) I3 hq3 e23 hp d2)).mono ?_
  rintro z3 h4 n4 ⟨g1, g2, g3, l3⟩
  rw [hvl, posTo_uses] at l3
  have r1 := rd_agr a2 l1.rd _ (agree_trans d1 g1 (by omega))
  have r2 := rd_agr d2 l2.rd _ g1
  have r3 := l3.rd
  have hz4 : h4 (n + 1) = _ := (g1 _ (by omega)).trans ((d1 _ (by omega)).trans ((a1 _ (by omega)).trans hz))
  have o1 := (sl_is r1).2.2.2.1
  have o2 := (sl_is r2).2.2.2.1
  have o3 := (sl_is r3).2.2.2.1
  have p1 := (sl_is r1).2.2.2.2
  have p2 := (sl_is r2).2.2.2.2
  have p3 := (sl_is r3).2.2.2.2
  simp [evs, aeval, binS, cx_ti, cx_G, cx_pf, cx_tw, ti, globS, glob, ldcs_1, ldcs_2, ldcs_3, ldcs_4, ldcs_5, ldcs_7, sls.eq_1, slc.eq_1, pfL, q4, hz4, o1, o2, o3, p1, p2, p3]
  have hag4 : agree n h h4 := agree_trans hag (agree_trans a1 (agree_trans d1 g1 (by omega)) (by omega)) (by omega)
  have up1 : ∀ b1 : Option Blk, agree n h (up h4 (n + 1) b1) := fun b1 i hi => by rw [up_ne _ _ (by omega)]; exact hag4 i hi
  refine ⟨up1 _, (fresh_up (by omega) _).2 (g2.add 1), by omega, z1, z2, z3, rfl, (l1.up fun i y1 y2 => ?_).rd, (l2.up fun i y1 y2 => ?_).rd, (l3.up fun i y1 y2 => ?_).rd⟩
  · rw [up_ne _ _ (by omega), g1 i (by omega), d1 i y2]
  · rw [up_ne _ _ (by omega), g1 i y2]
  · rw [up_ne _ _ (by omega)]
theorem c49 (e2 : deQ h qx = some q) (e3 : rd dNs h ta = some t) (hq : q.items.length * 64 ≤ 140737488355328) (hp : smallT t) (hn : Fresh n h) :
    ACall (cx [] (pfL tb49)) 49 [qx, ta] h n (post49 h n q t) := by
  refine acall_of_awp (args := [qx, ta]) (pfL_ok (tb_cons p85 (tb_cons p86 tb_nil))) (mixed _ _) Tryd.func49 (c := Tryd.f49.body.getD .skip) rfl (by kernel_rfl) (callable Tryd.func49 rfl rfl _ _) (show 2 ≤ Tryd.f49.ntmps by decide +kernel) ?_
  obtain ⟨a, b, c, rfl, x2, x3, x4⟩ := deQ_out e2
  refine awp_cut 3 _ _ (c49a x2 x3 x4 e3 (by unfold big; omega) hn _ rfl rfl) fun y1 h1 n1 ⟨b1, q1⟩ => ?_
  refine awp_cut 1 _ _ (c49b e3 hp hn y1 h1 n1 b1 q1) fun y2 h2 n2 b2 => ?_
  exact c49c x2 hq hn y2 h2 n2 b2
end
end Go.Proofs.YtkfphaphiikloaaDoor
