/-
  THE NUMBERS OF THIS PROGRAM, PART G: the reference's sum and extremes.
-/
import Derived.Test.YtkfphaphiikloaaDoorX11
set_option linter.unusedSimpArgs false
set_option linter.unusedVariables false
set_option linter.constructorNameAsVariable false
namespace Go.Proofs.YtkfphaphiikloaaDoor
open Go Go.Eng

def rsumAt (l : List Int) (j : Nat) : Int × Int := (l.take j).foldl (fun s x => plusL s (widenL x)) (0, 0)
theorem rsumAt_succ {l : List Int} {j : Nat} (h : j < l.length) : rsumAt l (j + 1) = plusL (rsumAt l j) (widenL l[j]) := by
  unfold rsumAt
  rw [List.take_add_one, List.getElem?_eq_getElem h, List.foldl_append]
  simp
def rsumL (l : List Int) : V := fitL (rsumAt l l.length)
def g56 := pureL fun l => vv (rsumL l)
def tb56 : List (FuncId × (List AV → Heap → PRes)) := [(145, g61), (146, g62), (147, g63)]
set_option maxRecDepth 100000 in
theorem p56 : P0 [] 150 g56 := by
  refine mkL (S := []) (l := tb56) (tb_cons p61 (tb_cons p62 (tb_cons p63 tb_nil))) Tryd.func150 rfl (by kernel_rfl) (fun a => rfl) (fun a l h n hi hl hn => ?_)
  have key : ∀ e : Nat → AV, e 0 = a → awp (cx [] (pfL tb56)) (Tryd.f150.body.getD .skip) (finQ (cx [] (pfL tb56)) Tryd.f150 fun z _ _ => z = vv (rsumL l)) ⟨e, roH h, n⟩ := fun e he => by
    rcases ints_cases hi with ⟨rfl, rfl⟩ | ⟨id, off, k, rfl, hk, hoff, hat⟩
    · simp [evs, aeval, binS, cx_ti, cx_G, cx_pf, cx_tw, ti, globS, glob, ldcs, sls, slc, pfL, Tryd.f150, he]
      refine awp_loop (fun s => s.e 0 = .v (.slice none 0 0) ∧ s.e 4 = ii 0 ∧ s.e 2 = .p n 0 0 ∧ s.e 3 = .p (n + 1) 0 0 ∧ s.h n = some ⟨[.v (.bool false), .v (.int .i64 0)], 0, true, 2⟩ ∧ s.h (n + 1) = some ⟨[.v (.int .i64 0), .v (.int .i64 0)], 0, true, 2⟩) (fun _ => 0) (by simp [up, ii, he]) ?_
      rintro e' h' n' ⟨q0, q4, q2, q3, hh, hh1⟩
      simp only [] at q0 q4 q2 q3 hh hh1
      simp [evs, aeval, binS, cx_ti, cx_G, cx_pf, cx_tw, ti, globS, glob, ldcs, sls, slc, pfL, q0, q4, q2, q3, hh, hh1, ii, tb56, g61, pure1, deW, vv, rsumL, rsumAt]
    · have h0 := ne_of hk hn 0
      have h1 := ne_of hk hn 1
      have hro := ro_at hk
      simp only [Nat.add_zero] at h0
      simp [evs, aeval, binS, cx_ti, cx_G, cx_pf, cx_tw, ti, globS, glob, ldcs, sls, slc, pfL, Tryd.f150, he]
      refine awp_loop (fun s => ∃ j, j ≤ l.length ∧ s.e 0 = .s id k.ver off l.length ∧ s.e 4 = ii j ∧ s.e 2 = .p n 0 0 ∧ s.e 3 = .p (n + 1) 0 0 ∧ s.h n = some ⟨[.v (.bool false), .v (.int .i64 0)], 0, true, 2⟩ ∧ s.h (n + 1) = some ⟨[.v (.int .i64 (rsumAt l j).1), .v (.int .i64 (rsumAt l j).2)], 0, true, 2⟩ ∧ s.h id = some ⟨k.cells, k.ver, false, k.esz⟩) (fun s => l.length - (s.e 4).i.toNat) ⟨0, by simp [up, ii, he, rsumAt, h0, h1, hro]⟩ ?_
      rintro e' h' n' ⟨j, hj, q0, q4, q2, q3, hh, hh1, hh2⟩
      simp only [] at q0 q4 q2 q3 hh hh1 hh2
      by_cases hlt : j < l.length
      · have hget := hat j hlt
        have hw := wrap_nat (j := j) (by omega)
        have hs := rsumAt_succ hlt
        simp [evs, aeval, binS, cx_ti, cx_G, cx_pf, cx_tw, ti, globS, glob, ldcs, sls, slc, pfL, q0, q4, q2, q3, hh, hh1, hh2, ii, tb56, g62, g63, pure1, pure2, deW, deI, ww, hlt, h0, h1, hget, hw]
        exact ⟨by omega, ⟨j + 1, by omega, by omega, by rw [hs], by rw [hs]⟩, by omega⟩
      · have hje : j = l.length := by omega
        subst hje
        simp [evs, aeval, binS, cx_ti, cx_G, cx_pf, cx_tw, ti, globS, glob, ldcs, sls, slc, pfL, q0, q4, q2, q3, hh, hh1, hh2, ii, tb56, g61, pure1, deW, vv, rsumL]
  exact key _ rfl
/-- The least (the greatest) of the first so many numbers. -/
def extAt (g : Bool) (l : List Int) (j : Nat) : Int := (l.take j).foldl (fun m x => if (if g then decide (m < x) else decide (x < m)) then x else m) (l.getD 0 0)
theorem extAt_succ {g : Bool} {l : List Int} {j : Nat} (h : j < l.length) : extAt g l (j + 1) = if (if g then decide (extAt g l j < l[j]) else decide (l[j] < extAt g l j)) then l[j] else extAt g l j := by
  unfold extAt
  rw [List.take_add_one, List.getElem?_eq_getElem h, List.foldl_append]
  simp
theorem extAt_one {g : Bool} {l : List Int} (h : 0 < l.length) : extAt g l 1 = l.getD 0 0 := by
  rw [extAt_succ h]
  have : extAt g l 0 = l[0] := by simp [extAt, List.getD_eq_getElem?_getD, h]
  rw [this]
  have : l.getD 0 0 = l[0] := by simp [List.getD_eq_getElem?_getD, h]
  rw [this]
  cases g <;> simp
def g57 := pureLA deB (fun _ l => 0 < l.length) fun g l => ii (extAt g l l.length)
set_option maxRecDepth 100000 in
theorem p57 : P0 [] 151 g57 := by
  refine mkLA (S := []) (l := []) tb_nil Tryd.func151 rfl (by kernel_rfl) bv (fun x a h => deB_out h) (fun a b => rfl) (fun g a l h n hi hl hp hn => ?_)
  have key : ∀ e : Nat → AV, e 0 = a → e 1 = bv g → awp (cx [] (pfL [])) (Tryd.f151.body.getD .skip) (finQ (cx [] (pfL [])) Tryd.f151 fun z _ _ => z = ii (extAt g l l.length)) ⟨e, roH h, n⟩ := fun e he he1 => by
    rcases ints_cases hi with ⟨rfl, rfl⟩ | ⟨id, off, k, rfl, hk, hoff, hat⟩
    · cases hp
    · have hro := ro_at hk
      have hget0 := hat 0 hp
      simp only [Nat.add_zero] at hget0
      simp [evs, aeval, binS, cx_ti, cx_G, cx_pf, cx_tw, ti, globS, glob, ldcs, sls, slc, pfL, Tryd.f151, he, he1, hro, hp, hget0, ii]
      refine ⟨by omega, awp_loop (fun s => ∃ j, 0 < j ∧ j ≤ l.length ∧ s.e 0 = .s id k.ver off l.length ∧ s.e 1 = bv g ∧ s.e 6 = ii j ∧ s.e 5 = ii (extAt g l j) ∧ s.h id = some ⟨k.cells, k.ver, false, k.esz⟩) (fun s => l.length - (s.e 6).i.toNat) ⟨1, by simp [up, ii, he, he1, hro, extAt_one hp, List.getD_eq_getElem?_getD, hp]; omega⟩ ?_⟩
      rintro e' h' n' ⟨j, hj0, hj, q0, q1, q6, q5, hh⟩
      simp only [] at q0 q1 q6 q5 hh
      by_cases hlt : j < l.length
      · have hget := hat j hlt
        have hw := wrap_nat (j := j) (by omega)
        have hs := extAt_succ (g := g) hlt
        have eg : l.getD j 0 = l[j] := by simp [List.getD_eq_getElem?_getD, hlt]
        rw [eg] at hget
        have ho : off + (j + 1) ≤ k.cells.length := by omega
        cases g
        · by_cases hc : l[j] < extAt false l j
          · simp [hc] at hs
            simp [evs, aeval, binS, cx_ti, cx_G, cx_pf, cx_tw, ti, globS, glob, ldcs, sls, slc, pfL, q0, q1, q6, q5, hh, ii, bv, hlt, hget, hw, hc, ho]
            exact ⟨⟨j + 1, by omega, by omega, by omega, by rw [hs]⟩, by omega⟩
          · simp [hc] at hs
            simp [evs, aeval, binS, cx_ti, cx_G, cx_pf, cx_tw, ti, globS, glob, ldcs, sls, slc, pfL, q0, q1, q6, q5, hh, ii, bv, hlt, hget, hw, hc, ho]
            exact ⟨⟨j + 1, by omega, by omega, by omega, by rw [hs]⟩, by omega⟩
        · by_cases hc : extAt true l j < l[j]
          · simp [hc] at hs
            simp [evs, aeval, binS, cx_ti, cx_G, cx_pf, cx_tw, ti, globS, glob, ldcs, sls, slc, pfL, q0, q1, q6, q5, hh, ii, bv, hlt, hget, hw, hc, ho]
            exact ⟨⟨j + 1, by omega, by omega, by omega, by rw [hs]⟩, by omega⟩
          · simp [hc] at hs
            simp [evs, aeval, binS, cx_ti, cx_G, cx_pf, cx_tw, ti, globS, glob, ldcs, sls, slc, pfL, q0, q1, q6, q5, hh, ii, bv, hlt, hget, hw, hc, ho]
            exact ⟨⟨j + 1, by omega, by omega, by omega, by rw [hs]⟩, by omega⟩
      · have hje : j = l.length := by omega
        subst hje
        simp [evs, aeval, binS, cx_ti, cx_G, cx_pf, cx_tw, ti, globS, glob, ldcs, sls, slc, pfL, q0, q1, q6, q5, hh, ii]
  exact key _ rfl rfl
end Go.Proofs.YtkfphaphiikloaaDoor

/-
  THE NUMBERS OF THIS PROGRAM, PART H: Fold, on both sides.
-/
namespace Go.Proofs.YtkfphaphiikloaaDoor
open Go Go.Eng

theorem ints_congr {h h' : Heap} {a : AV} {l : List Int} (hh : ∀ id ver off len, a = .s id ver off len → ∀ k, h id = some k → ∃ k', h' id = some k' ∧ k'.cells = k.cells ∧ k'.ver = k.ver) (e : ints h a = some l) : ints h' a = some l := by
  unfold ints at e ⊢
  split at e
  · split at e
    · rename_i k hk
      obtain ⟨k', q1, q2, q3⟩ := hh _ _ _ _ rfl k hk
      simp only [q1, q2, q3]
      exact e
    · cases e
  · exact e
  · cases e
/-- A new block does not turn what is read. -/
theorem ints_up {h : Heap} {n : Nat} {a : AV} {l : List Int} (e : ints h a = some l) (hn : ∀ i, n ≤ i → h i = none) (b : Option Blk) : ints (up (roH h) n b) a = some l :=
  ints_congr (fun id ver off len _ k hk => ⟨⟨k.cells, k.ver, false, k.esz⟩, by
    have := ne_of hk hn 0
    simp only [Nat.add_zero] at this
    simp [up, this, ro_at hk], rfl, rfl⟩) e
def foldG (s : List Int → V) (o : Int) (l : List Int) : V :=
  if o = 5 then knownV l.length else if o = 6 then s l else if l = [] then unk else if o = 7 then knownV (extAt false l l.length) else if o = 8 then knownV (extAt true l l.length) else
  if o = 9 then knownV (l.getD 0 0) else if o = 10 then knownV (l.getD (l.length - 1) 0) else unk
def g33 := pureAL deI (fun _ _ => True) fun o l => vv (foldG sumL o l)
def g34 := pureAL deI (fun _ _ => True) fun o l => vv (foldG rsumL o l)
def tb34 : List (FuncId × (List AV → Heap → PRes)) := [(63, g52), (111, g53), (150, g56), (151, g57)]
theorem wrap_last {n : Nat} (h0 : 0 < n) (h : n < big) : IntKind.i64.wrap ((n : Int) - 1) = ((n - 1 : Nat) : Int) := by
  unfold big at h
  have e : IntKind.i64.wrap ((n : Int) - 1) = (n : Int) - 1 := W_id (by unfold Rng; omega)
  rw [e]
  omega
set_option maxRecDepth 100000 in
set_option maxHeartbeats 1000000 in
theorem p34 : P0 [] 137 g34 := by
  refine mkAL (S := []) (l := tb34) (tb_cons p52 (tb_cons p53 (tb_cons p56 (tb_cons p57 tb_nil)))) Tryd.func137 rfl (by kernel_rfl) ii (fun x a h => deI_out h) (fun a b => rfl) (fun o a l h n hi hl _ hn => ?_)
  have hup := ints_up hi hn
  rcases ints_cases hi with ⟨rfl, rfl⟩ | ⟨id, off, k, rfl, hk, hoff, hat⟩
  · by_cases h5 : o = 5
    · subst h5
      simp [evs, aeval, binS, cx_ti, cx_G, cx_pf, cx_tw, ti, globS, glob, ldcs, sls, slc, pfL, Tryd.f137, ii, tb34, g53, pure1, deI, vv, knownV, foldG]
    by_cases h6 : o = 6
    · subst h6
      simp [evs, aeval, binS, cx_ti, cx_G, cx_pf, cx_tw, ti, globS, glob, ldcs, sls, slc, pfL, Tryd.f137, ii, tb34, g56, pureL, hup, vv, foldG, big]
    simp [evs, aeval, binS, cx_ti, cx_G, cx_pf, cx_tw, ti, globS, glob, ldcs, sls, slc, pfL, Tryd.f137, ii, tb34, g52, h5, h6, vv, foldG]
  · have h0 := ne_of hk hn 0
    simp only [Nat.add_zero] at h0
    have hro := ro_at hk
    by_cases h5 : o = 5
    · subst h5
      simp [evs, aeval, binS, cx_ti, cx_G, cx_pf, cx_tw, ti, globS, glob, ldcs, sls, slc, pfL, Tryd.f137, ii, tb34, g53, pure1, deI, vv, knownV, foldG]
    by_cases h6 : o = 6
    · subst h6
      simp [evs, aeval, binS, cx_ti, cx_G, cx_pf, cx_tw, ti, globS, glob, ldcs, sls, slc, pfL, Tryd.f137, ii, tb34, g56, pureL, hup, vv, foldG, hl]
    by_cases hz : l = []
    · subst hz
      simp [evs, aeval, binS, cx_ti, cx_G, cx_pf, cx_tw, ti, globS, glob, ldcs, sls, slc, pfL, Tryd.f137, ii, tb34, g52, h5, h6, vv, foldG]
    have hp : 0 < l.length := List.length_pos_iff.2 hz
    have hp' : ¬ l.length = 0 := by omega
    by_cases h7 : o = 7
    · subst h7
      simp [evs, aeval, binS, cx_ti, cx_G, cx_pf, cx_tw, ti, globS, glob, ldcs, sls, slc, pfL, Tryd.f137, ii, tb34, g53, g57, pureLA, pure1, deB, deI, hup, vv, knownV, foldG, hz, hl, hp]
    by_cases h8 : o = 8
    · subst h8
      simp [evs, aeval, binS, cx_ti, cx_G, cx_pf, cx_tw, ti, globS, glob, ldcs, sls, slc, pfL, Tryd.f137, ii, tb34, g53, g57, pureLA, pure1, deB, deI, hup, vv, knownV, foldG, hz, hl, hp]
    by_cases h9 : o = 9
    · subst h9
      have hget0 := hat 0 hp
      simp only [Nat.add_zero] at hget0
      simp [evs, aeval, binS, cx_ti, cx_G, cx_pf, cx_tw, ti, globS, glob, ldcs, sls, slc, pfL, Tryd.f137, ii, tb34, g53, pure1, deI, hup, vv, knownV, foldG, hz, hl, hp, hro, h0, hget0]
      omega
    by_cases h10 : o = 10
    · subst h10
      have hget0 := hat (l.length - 1) (by omega)
      have hw := wrap_last hp hl
      simp [evs, aeval, binS, cx_ti, cx_G, cx_pf, cx_tw, ti, globS, glob, ldcs, sls, slc, pfL, Tryd.f137, ii, tb34, g53, pure1, deI, hup, vv, knownV, foldG, hz, hl, hp, hro, h0, hget0, hw]
      omega
    simp [evs, aeval, binS, cx_ti, cx_G, cx_pf, cx_tw, ti, globS, glob, ldcs, sls, slc, pfL, Tryd.f137, ii, tb34, g52, h5, h6, h7, h8, h9, h10, vv, foldG, hz]
def tb33 : List (FuncId × (List AV → Heap → PRes)) := [(74, g51), (144, g55)]
set_option maxRecDepth 100000 in
set_option maxHeartbeats 1000000 in
theorem p33 : P0 [1] 125 g33 := by
  refine mkAL (S := [1]) (l := tb33) (tb_cons p51 (tb_cons p55 tb_nil)) Tryd.func125 rfl (by kernel_rfl) ii (fun x a h => deI_out h) (fun a b => rfl) (fun o a l h n hi hl _ hn => ?_)
  have hup := ints_up hi hn
  have key : ∀ e : Nat → AV, e 0 = ii o → e 1 = a → awp (cx [1] (pfL tb33)) (Tryd.f125.body.getD .skip) (finQ (cx [1] (pfL tb33)) Tryd.f125 fun z _ _ => z = vv (foldG sumL o l)) ⟨e, roH h, n⟩ := fun e he he1 => by
    rcases ints_cases hi with ⟨rfl, rfl⟩ | ⟨id, off, k, rfl, hk, hoff, hat⟩
    · by_cases h5 : o = 5
      · subst h5
        simp [evs, aeval, binS, cx_ti, cx_G, cx_pf, cx_tw, ti, globS, glob, ldcs, sls, slc, pfL, Tryd.f125, he, he1, ii, tb33, g51, pure1, deI, vv, knownV, foldG]
      by_cases h6 : o = 6
      · subst h6
        simp [evs, aeval, binS, cx_ti, cx_G, cx_pf, cx_tw, ti, globS, glob, ldcs, sls, slc, pfL, Tryd.f125, he, he1, ii, tb33, g55, pureL, hup, vv, foldG, big]
      simp [evs, aeval, binS, cx_ti, cx_G, cx_pf, cx_tw, ti, globS, glob, ldcs, sls, slc, pfL, Tryd.f125, he, he1, ii, tb33, h5, h6, vv, unk, foldG]
    · have h0 := ne_of hk hn 0
      simp only [Nat.add_zero] at h0
      have hro := ro_at hk
      by_cases h5 : o = 5
      · subst h5
        simp [evs, aeval, binS, cx_ti, cx_G, cx_pf, cx_tw, ti, globS, glob, ldcs, sls, slc, pfL, Tryd.f125, he, he1, ii, tb33, g51, pure1, deI, vv, knownV, foldG]
      by_cases h6 : o = 6
      · subst h6
        simp [evs, aeval, binS, cx_ti, cx_G, cx_pf, cx_tw, ti, globS, glob, ldcs, sls, slc, pfL, Tryd.f125, he, he1, ii, tb33, g55, pureL, hup, vv, foldG, hl]
      by_cases hz : l = []
      · subst hz
        simp [evs, aeval, binS, cx_ti, cx_G, cx_pf, cx_tw, ti, globS, glob, ldcs, sls, slc, pfL, Tryd.f125, he, he1, ii, tb33, h5, h6, vv, unk, foldG]
      have hp : 0 < l.length := List.length_pos_iff.2 hz
      have hp' : ¬ l.length = 0 := by omega
      have hget0 := hat 0 hp
      simp only [Nat.add_zero] at hget0
      have ho1 : off + 1 ≤ k.cells.length := by omega
      have hgl := hat (l.length - 1) (by omega)
      have hwl := wrap_last hp hl
      have hol : off + (l.length - 1 + 1) ≤ k.cells.length := by omega
      simp [evs, aeval, binS, cx_ti, cx_G, cx_pf, cx_tw, ti, globS, glob, ldcs, sls, slc, pfL, Tryd.f125, he, he1, ii, tb33, h5, h6, hz, hp, hro, h0, hget0, ho1]
      refine awp_loop (fun s => ∃ j, j ≤ l.length ∧ s.e 0 = ii o ∧ s.e 1 = .s id k.ver off l.length ∧ s.e 29 = .s id k.ver off l.length ∧ s.e 30 = ii l.length ∧ s.e 31 = ii j ∧ s.e 4 = .p n 0 0 ∧ s.e 5 = ii (extAt false l j) ∧ s.e 6 = ii (extAt true l j) ∧ s.h n = some ⟨[.v (.bool false), .v (.int .i64 0)], 0, true, 2⟩ ∧ s.h id = some ⟨k.cells, k.ver, false, k.esz⟩) (fun s => l.length - (s.e 31).i.toNat) ⟨0, by simp [up, ii, he, he1, hro, h0, extAt, List.getD_eq_getElem?_getD, hp]⟩ ?_
      rintro e' h' n' ⟨j, hj, q0, q1, q29, q30, q31, q4, q5, q6, hh, hh2⟩
      simp only [] at q0 q1 q29 q30 q31 q4 q5 q6 hh hh2
      by_cases hlt : j < l.length
      · have hget := hat j hlt
        have hw := wrap_nat (j := j) (by omega)
        have hs := extAt_succ (g := false) hlt
        have hs' := extAt_succ (g := true) hlt
        have eg : l.getD j 0 = l[j] := by simp [List.getD_eq_getElem?_getD, hlt]
        rw [eg] at hget
        have ho : off + (j + 1) ≤ k.cells.length := by omega
        simp at hs hs'
        simp [evs, aeval, binS, cx_ti, cx_G, cx_pf, cx_tw, ti, globS, glob, ldcs, sls, slc, pfL, q0, q1, q29, q30, q31, q4, q5, q6, hh, hh2, ii, hlt, hget, hw, ho, h0]
        exact ⟨⟨j + 1, by omega, by omega, by rw [hs], by rw [hs']⟩, by omega⟩
      · have hje : j = l.length := by omega
        subst hje
        by_cases h7 : o = 7
        · subst h7
          simp [evs, aeval, binS, cx_ti, cx_G, cx_pf, cx_tw, ti, globS, glob, ldcs, sls, slc, pfL, q0, q1, q29, q30, q31, q4, q5, q6, hh, hh2, ii, h0, tb33, g51, pure1, deI, vv, knownV, foldG, hz]
        by_cases h8 : o = 8
        · subst h8
          simp [evs, aeval, binS, cx_ti, cx_G, cx_pf, cx_tw, ti, globS, glob, ldcs, sls, slc, pfL, q0, q1, q29, q30, q31, q4, q5, q6, hh, hh2, ii, h0, tb33, g51, pure1, deI, vv, knownV, foldG, hz]
        by_cases h9 : o = 9
        · subst h9
          simp [evs, aeval, binS, cx_ti, cx_G, cx_pf, cx_tw, ti, globS, glob, ldcs, sls, slc, pfL, q0, q1, q29, q30, q31, q4, q5, q6, hh, hh2, ii, h0, tb33, g51, pure1, deI, vv, knownV, foldG, hz, hget0, ho1, hp]
        by_cases h10 : o = 10
        · subst h10
          simp [evs, aeval, binS, cx_ti, cx_G, cx_pf, cx_tw, ti, globS, glob, ldcs, sls, slc, pfL, q0, q1, q29, q30, q31, q4, q5, q6, hh, hh2, ii, h0, tb33, g51, pure1, deI, vv, knownV, foldG, hz, hgl, hwl, hol, hp]
          omega
        simp [evs, aeval, binS, cx_ti, cx_G, cx_pf, cx_tw, ti, globS, glob, ldcs, sls, slc, pfL, q0, q1, q29, q30, q31, q4, q5, q6, hh, hh2, ii, h0, tb33, h7, h8, h9, h10, vv, unk, foldG, hz, h5, h6]
  exact key _ rfl rfl
end Go.Proofs.YtkfphaphiikloaaDoor

/-
  THE NUMBERS OF THIS PROGRAM, THE PLAIN LAWS, C: sums of lists.
-/
namespace Go.Proofs.YtkfphaphiikloaaDoor
open Go Go.Eng

def All (l : List Int) : Prop := ∀ x ∈ l, Rng x
theorem sum_take {l : List Int} {j : Nat} (h : j < l.length) : (l.take (j + 1)).sum = (l.take j).sum + l[j] := by
  rw [List.take_add_one, List.getElem?_eq_getElem h, Option.toList_some, List.sum_append, List.sum_cons, List.sum_nil, Int.add_zero]
theorem sum_bound {l : List Int} (ha : All l) : ∀ j, j ≤ l.length → -(9223372036854775808 * (j : Int)) ≤ (l.take j).sum ∧ (l.take j).sum ≤ 9223372036854775808 * (j : Int)
  | 0, _ => by simp
  | j + 1, h => by
    have ih := sum_bound ha j (by omega)
    have hx := ha l[j] (List.getElem_mem _)
    rw [sum_take (by omega)]
    unfold Rng at hx
    omega
theorem sgn_eq {x : Int} (h : Rng x) : sgn x = if x < 0 then -1 else 0 := by
  unfold sgn
  have e : (2 : Int) ^ min 63 IntKind.i64.bits = 9223372036854775808 := rfl
  rw [e, Int.fdiv_eq_ediv_of_nonneg _ (by decide)]
  unfold Rng at h
  split <;> omega
theorem sumAt_eq {l : List Int} (ha : All l) : ∀ j, j ≤ l.length → ∃ q : Int, (sumAt l j).1 * 18446744073709551616 + (sumAt l j).2 = (l.take j).sum + 340282366920938463463374607431768211456 * q
  | 0, _ => ⟨0, by simp [sumAt]⟩
  | j + 1, h => by
    obtain ⟨q, ih⟩ := sumAt_eq ha j (by omega)
    have hx := ha l[j] (List.getElem_mem _)
    have eg : l.getD j 0 = l[j] := by simp [List.getD_eq_getElem?_getD, show j < l.length by omega]
    rw [sum_take (by omega), sumAt_succ (by omega), eg]
    obtain ⟨⟨r1, r2⟩, r3, r4⟩ := sumAt_rng l j
    unfold sumStep
    simp only []
    rw [sgn_eq hx, U_def l[j]]
    generalize (sumAt l j).1 = hi at *
    generalize (sumAt l j).2 = lo at *
    generalize l[j] = x at *
    generalize (List.take j l).sum = s at *
    unfold Rng at hx
    by_cases h0 : x < 0
    · rw [if_pos h0]
      have e : U (-1) = 18446744073709551615 := rfl
      rw [e]
      have c : (lo + x % 18446744073709551616 + 0) / 18446744073709551616 = 0 ∨ (lo + x % 18446744073709551616 + 0) / 18446744073709551616 = 1 := by omega
      have m : (hi + 18446744073709551615 + (lo + x % 18446744073709551616 + 0) / 18446744073709551616) / 18446744073709551616 = 0 ∨ (hi + 18446744073709551615 + (lo + x % 18446744073709551616 + 0) / 18446744073709551616) / 18446744073709551616 = 1 := by omega
      rcases m with m | m
      · exact ⟨q + 1, by omega⟩
      · exact ⟨q, by omega⟩
    · rw [if_neg h0]
      have e : U 0 = 0 := rfl
      rw [e]
      have m : (hi + 0 + (lo + x % 18446744073709551616 + 0) / 18446744073709551616) / 18446744073709551616 = 0 ∨ (hi + 0 + (lo + x % 18446744073709551616 + 0) / 18446744073709551616) / 18446744073709551616 = 1 := by omega
      rcases m with m | m
      · exact ⟨q, by omega⟩
      · exact ⟨q - 1, by omega⟩
theorem sumL_eq {l : List Int} (ha : All l) (hl : l.length < big) : sumL l = fitV l.sum := by
  obtain ⟨q, e⟩ := sumAt_eq ha l.length (Nat.le_refl _)
  have b := sum_bound ha l.length (Nat.le_refl _)
  obtain ⟨⟨r1, r2⟩, r3, r4⟩ := sumAt_rng l l.length
  rw [List.take_length] at e b
  unfold sumL
  have hw := W_spec (sumAt l l.length).2
  rw [sgn_eq (by obtain ⟨_, _, h⟩ := hw; exact h)]
  rw [W_def, W_def]
  unfold big at hl
  generalize (sumAt l l.length).1 = hi at *
  generalize (sumAt l l.length).2 = lo at *
  generalize l.sum = s at *
  have hb : -42535295865117307932921825928971026432 < s ∧ s < 42535295865117307932921825928971026432 := by omega
  unfold fitV unk knownV
  rw [show hi % 18446744073709551616 = hi by omega, show lo % 18446744073709551616 = lo by omega]
  by_cases c1 : 9223372036854775808 ≤ hi <;> by_cases c2 : 9223372036854775808 ≤ lo <;> simp only [c1, c2, if_true, if_false]
  · rw [if_pos (show lo - 18446744073709551616 < 0 by omega)]
    by_cases c3 : hi - 18446744073709551616 = -1
    · rw [if_neg (by simpa using c3), if_pos (by omega)]
      congr 1; omega
    · rw [if_pos (by simpa using c3), if_neg (by omega)]
  · rw [if_neg (show ¬ lo < 0 by omega)]
    rw [if_pos (by simp; omega), if_neg (by omega)]
  · rw [if_pos (show lo - 18446744073709551616 < 0 by omega)]
    rw [if_pos (by simp; omega), if_neg (by omega)]
  · rw [if_neg (show ¬ lo < 0 by omega)]
    by_cases c3 : hi = 0
    · rw [if_neg (by simpa using c3), if_pos (by omega)]
      congr 1; omega
    · rw [if_pos (by simpa using c3), if_neg (by omega)]
theorem rsumAt_eq {l : List Int} (ha : All l) (hl : l.length ≤ 2147483647) : ∀ j, j ≤ l.length → (rsumAt l j).1 * 4294967296 + (rsumAt l j).2 = (l.take j).sum ∧ 0 ≤ (rsumAt l j).2 ∧ (rsumAt l j).2 < 4294967296
  | 0, _ => by simp [rsumAt]
  | j + 1, h => by
    obtain ⟨ih, r1, r2⟩ := rsumAt_eq ha hl j (by omega)
    have b := sum_bound ha j (by omega)
    have hx := ha l[j] (List.getElem_mem _)
    rw [sum_take (by omega), rsumAt_succ (by omega), widen_eq]
    generalize (rsumAt l j) = s at *
    generalize l[j] = x at *
    generalize (List.take j l).sum = t at *
    unfold Rng at hx
    unfold plusL
    simp only []
    rw [W_id (n := s.2 + x % 4294967296) (by unfold Rng; omega), W_id (n := s.1 + x / 4294967296) (by unfold Rng; omega)]
    split
    · rw [W_id (n := s.1 + x / 4294967296 + 1) (by unfold Rng; omega), W_id (n := s.2 + x % 4294967296 - 4294967296) (by unfold Rng; omega)]
      simp only []
      omega
    · simp only []
      omega
theorem rsumL_eq {l : List Int} (ha : All l) (hl : l.length ≤ 2147483647) : rsumL l = fitV l.sum := by
  obtain ⟨e, r1, r2⟩ := rsumAt_eq ha hl l.length (Nat.le_refl _)
  have b := sum_bound ha l.length (Nat.le_refl _)
  rw [List.take_length] at e b
  unfold rsumL
  rw [show rsumAt l l.length = ((rsumAt l l.length).1, (rsumAt l l.length).2) from rfl, fitL_eq (by omega) ⟨r1, r2⟩, e]
theorem fold_eq {l : List Int} (o : Int) (ha : All l) (hl : l.length ≤ 2147483647) : foldG sumL o l = foldG rsumL o l := by
  have : sumL l = rsumL l := by rw [sumL_eq ha (by unfold big; omega), rsumL_eq ha hl]
  unfold foldG
  rw [this]
end Go.Proofs.YtkfphaphiikloaaDoor
