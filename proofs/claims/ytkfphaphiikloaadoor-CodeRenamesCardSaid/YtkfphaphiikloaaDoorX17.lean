/-
  TEXTS: names on both sides: the document's IsName; the two are one.
-/
import Derived.Test.YtkfphaphiikloaaDoorX16
import Derived.Test.YtkfphaphiikloaaDoorX13
import Derived.Test.YtkfphaphiikloaaDoorX15
set_option linter.unusedSimpArgs false
set_option linter.unusedVariables false
set_option linter.constructorNameAsVariable false
namespace Go.Proofs.YtkfphaphiikloaaDoor
open Go Go.Eng

def deS : AV → Option ByteArray
  | .v (.string s) => some s
  | _ => none
def ss (s : ByteArray) : AV := .v (.string s)
theorem deS_out {x : AV} {a : ByteArray} (h : deS x = some a) : x = ss a := by
  unfold deS at h
  split at h
  · cases h; rfl
  · cases h
def de8 : AV → Option Int
  | .v (.int .u8 n) => some n
  | _ => none
def bb8 (n : Int) : AV := .v (.int .u8 n)
theorem de8_out {x : AV} {a : Int} (h : de8 x = some a) : x = bb8 a := by
  unfold de8 at h
  split at h
  · cases h; rfl
  · cases h
def g138 := pure1 deS fun s => bv (isNameS s)
theorem p138 : P0 [7] 138 g138 := by
  refine ⟨fun args h h' hh hs => ?_, .inl ⟨callable Tryd.func138 rfl rfl _ _, fun ρ h w args vs r _ ha hs => ?_⟩⟩
  · have := pure1_h deS (fun s => bv (isNameS s)) args h h'
    refine ⟨?_, ?_⟩
    · show (pure1 _ _ args h').side
      rw [← this]; exact hs
    · show (pure1 _ _ args h').val = (pure1 _ _ args h).val
      rw [this]
  · obtain ⟨x, s, rfl, hx, hv⟩ := pure1_out hs
    obtain rfl := deS_out hx
    simp only [VRs, VR, ss] at ha
    obtain ⟨y, rest, rfl, rfl, rfl⟩ := ha
    have hk : KwAt w := r.glob 7 _ (by simp [cx_G, globS, glob])
    refine (isName_walk s w hk).mono fun e w' ⟨he, hb⟩ => ⟨_, he, ?_, hb⟩
    rw [show (g138 [ss s] h).val = bv (isNameS s) from hv]
    simp [VR, bv]
def letterB (c : Int) : Bool := decide (65 ≤ c ∧ c ≤ 90) || decide (97 ≤ c ∧ c ≤ 122)
def digitB (c : Int) : Bool := decide (48 ≤ c ∧ c ≤ 57)
def g170 := pure1 de8 fun c => bv (letterB c)
def g166 := pure1 de8 fun c => bv (digitB c)
def g165 := pure1 de8 fun c => bv (wordB c)
set_option maxRecDepth 100000 in
theorem p170 : P0 [] 170 g170 := by
  refine mk1 (S := []) tb_nil Tryd.func170 rfl (by kernel_rfl) bb8 (fun x a h => de8_out h) (fun a => rfl) (fun c h n => ?_)
  simp [evs, aeval, binS, cx_ti, cx_G, cx_pf, cx_tw, ti, globS, glob, ldcs, sls, slc, pfL, bb8, bv, letterB]
  grind
set_option maxRecDepth 100000 in
theorem p166 : P0 [] 166 g166 := by
  refine mk1 (S := []) tb_nil Tryd.func166 rfl (by kernel_rfl) bb8 (fun x a h => de8_out h) (fun a => rfl) (fun c h n => ?_)
  simp [evs, aeval, binS, cx_ti, cx_G, cx_pf, cx_tw, ti, globS, glob, ldcs, sls, slc, pfL, bb8, bv, digitB]
def tb165 : List (FuncId × (List AV → Heap → PRes)) := [(170, g170), (166, g166)]
set_option maxRecDepth 100000 in
theorem p165 : P0 [] 165 g165 := by
  refine mk1 (S := []) (l := tb165) (tb_cons p170 (tb_cons p166 tb_nil)) Tryd.func165 rfl (by kernel_rfl) bb8 (fun x a h => de8_out h) (fun a => rfl) (fun c h n => ?_)
  simp [evs, aeval, binS, cx_ti, cx_G, cx_pf, cx_tw, ti, globS, glob, ldcs, sls, slc, pfL, bb8, bv, tb165, g170, g166, pure1, de8]
  simp [wordB, letterB, digitB]
  grind
def al1 (x y : Int) : Bool := if letterB x && letterB y then x.tmod 32 == y.tmod 32 else x == y
def alTo (a b : ByteArray) (n : Nat) : Bool := (List.range n).all fun i => al1 (byteAt a i) (byteAt b i)
def alikeS (a b : ByteArray) : Bool := decide (a.size = b.size) && alTo a b a.size
theorem alTo_succ (a b : ByteArray) (n : Nat) : alTo a b (n + 1) = (alTo a b n && al1 (byteAt a n) (byteAt b n)) := by
  simp [alTo, List.range_succ]
def de167 (_ : Heap) : List AV → Option (ByteArray × ByteArray)
  | [.v (.string a), .v (.string b)] => some (a, b)
  | _ => none
theorem de167_out {h : Heap} {args : List AV} {q : ByteArray × ByteArray} (e : de167 h args = some q) : args = [ss q.1, ss q.2] := by
  unfold de167 at e
  split at e
  · cases e; rfl
  · cases e
def g167 := pureH de167 (fun q => q.1.size < big) fun q => bv (alikeS q.1 q.2)
def tb167 : List (FuncId × (List AV → Heap → PRes)) := [(170, g170)]
set_option maxRecDepth 100000 in
theorem p167 : P0 [] 167 g167 := by
  refine mkH 2 (S := []) (l := tb167) (tb_cons p170 tb_nil) Tryd.func167 rfl (by kernel_rfl) (fun h h' l x _ e => e) (fun h l x e => by rw [de167_out e]; exact Nat.le_refl _) (fun a => rfl) (fun args q h n e hp hn => ?_)
  obtain ⟨a, b⟩ := q
  rw [de167_out e]
  simp only [] at hp ⊢
  by_cases hsz : a.size = b.size
  · simp [evs, aeval, binS, cx_ti, cx_G, cx_pf, cx_tw, ti, globS, glob, ldcs, sls, slc, pfL, ss, bv, tb167, hsz]
    refine awp_loop (fun s => ∃ j : Nat, j ≤ a.size ∧ s.e 0 = ss a ∧ s.e 1 = ss b ∧ s.e 5 = ii j ∧ alTo a b j = true) (fun s => a.size - (s.e 5).i.toNat) ⟨0, by omega, by simp [up, env0, ss], by simp [up, env0, ss], by simp [up, ii], by simp [alTo]⟩ ?_
    intro e h n
    rintro ⟨j, hj, q0, q1, q5, hno⟩
    simp only [] at q0 q1 q5
    by_cases hlt : j < a.size
    · have hlt' : j < b.size := by omega
      have hw := wrap_nat (j := j) (by omega)
      have hs := alTo_succ a b j
      rw [hno, Bool.true_and] at hs
      have hf : al1 (byteAt a j) (byteAt b j) = false → alikeS a b = false := fun h => by
        simp only [alikeS, hsz, decide_true, Bool.true_and, alTo, List.all_eq_false]
        exact ⟨j, by simp; omega, by simp [h]⟩
      by_cases hl1 : letterB (byteAt a j) = true
      · by_cases hl2 : letterB (byteAt b j) = true
        · by_cases hm : ((byteAt a j : Int)).tmod 32 = ((byteAt b j : Int)).tmod 32
          · have hal : al1 (byteAt a j) (byteAt b j) = true := by simp [al1, hl1, hl2, hm]
            simp [evs, aeval, binS, cx_ti, cx_G, cx_pf, cx_tw, ti, globS, glob, ldcs, sls, slc, pfL, q0, q1, q5, ii, ss, hlt, hlt', tb167, g170, pure1, de8, bv, hl1, hl2, hm, hw]
            exact ⟨⟨j + 1, by omega, by omega, by rw [hs, hal]⟩, by omega⟩
          · have hal : al1 (byteAt a j) (byteAt b j) = false := by simp [al1, hl1, hl2, hm]
            simp [evs, aeval, binS, cx_ti, cx_G, cx_pf, cx_tw, ti, globS, glob, ldcs, sls, slc, pfL, q0, q1, q5, ii, ss, hlt, hlt', tb167, g170, pure1, de8, bv, hl1, hl2, hm, hw, hf hal]
        · rw [Bool.not_eq_true] at hl2
          by_cases hm : (byteAt a j : Int) = byteAt b j
          · have hal : al1 (byteAt a j) (byteAt b j) = true := by simp [al1, hl2, hm]
            simp [evs, aeval, binS, cx_ti, cx_G, cx_pf, cx_tw, ti, globS, glob, ldcs, sls, slc, pfL, q0, q1, q5, ii, ss, hlt, hlt', tb167, g170, pure1, de8, bv, hl1, hl2, Int.ofNat_inj.1 hm, hw]
            exact ⟨⟨j + 1, by omega, by omega, by rw [hs, hal]⟩, by omega⟩
          · have hal : al1 (byteAt a j) (byteAt b j) = false := by simp [al1, hl2]; omega
            have hm' : ¬ byteAt a j = byteAt b j := by omega
            simp [evs, aeval, binS, cx_ti, cx_G, cx_pf, cx_tw, ti, globS, glob, ldcs, sls, slc, pfL, q0, q1, q5, ii, ss, hlt, hlt', tb167, g170, pure1, de8, bv, hl1, hl2, hm, hm', hw, hf hal]
      · rw [Bool.not_eq_true] at hl1
        by_cases hm : (byteAt a j : Int) = byteAt b j
        · have hal : al1 (byteAt a j) (byteAt b j) = true := by simp [al1, hl1, hm]
          have hl2 : letterB (byteAt b j) = false := by rw [← hm]; exact hl1
          simp [evs, aeval, binS, cx_ti, cx_G, cx_pf, cx_tw, ti, globS, glob, ldcs, sls, slc, pfL, q0, q1, q5, ii, ss, hlt, hlt', tb167, g170, pure1, de8, bv, hl1, hl2, Int.ofNat_inj.1 hm, hw]
          exact ⟨⟨j + 1, by omega, by omega, by rw [hs, hal]⟩, by omega⟩
        · have hal : al1 (byteAt a j) (byteAt b j) = false := by simp [al1, hl1]; omega
          have hm' : ¬ byteAt a j = byteAt b j := by omega
          simp [evs, aeval, binS, cx_ti, cx_G, cx_pf, cx_tw, ti, globS, glob, ldcs, sls, slc, pfL, q0, q1, q5, ii, ss, hlt, hlt', tb167, g170, pure1, de8, bv, hl1, hm, hm', hw, hf hal]
    · obtain rfl : j = a.size := by omega
      have hal : alikeS a b = true := by simp only [alikeS, hsz, decide_true, Bool.true_and]; rw [← hsz]; exact hno
      simp [evs, aeval, binS, cx_ti, cx_G, cx_pf, cx_tw, ti, globS, glob, ldcs, sls, slc, pfL, q0, q1, q5, ii, ss, bv, hal]
  · have h1 : alikeS a b = false := by simp [alikeS, hsz]
    have h2 : ¬ (a.size : Int) = b.size := by omega
    simp [evs, aeval, binS, cx_ti, cx_G, cx_pf, cx_tw, ti, globS, glob, ldcs, sls, slc, pfL, ss, bv, tb167, h1, h2]
/-- The document's names. -/
def wordTo (s : ByteArray) (n : Nat) : Bool := (List.range n).all fun i => wordB (byteAt s i)
def noAl (s : ByteArray) (n : Nat) : Bool := (kwords.take n).all fun k => !(alikeS s k)
def isName2 (s : ByteArray) : Bool := decide (1 ≤ s.size) && decide (s.size ≤ 16) && wordTo s s.size && !(digitB (byteAt s 0)) && noAl s 27
theorem wordTo_succ (s : ByteArray) (n : Nat) : wordTo s (n + 1) = (wordTo s n && wordB (byteAt s n)) := by
  simp [wordTo, List.range_succ]
theorem noAl_succ (s : ByteArray) (j : Nat) (hj : j < 27) : noAl s (j + 1) = (noAl s j && !(alikeS s (kwords.getD j ByteArray.empty))) := by
  have hj' : j < kwords.length := hj
  unfold noAl
  rw [List.take_add_one, List.getElem?_eq_getElem hj', List.all_append, List.getD_eq_getElem?_getD, List.getElem?_eq_getElem hj']
  simp
theorem noAl_hit (s : ByteArray) (j : Nat) (hj : j < 27) (hk : alikeS s (kwords.getD j ByteArray.empty) = true) : noAl s 27 = false := by
  have hl : j < kwords.length := hj
  unfold noAl
  rw [List.all_eq_false]
  refine ⟨kwords[j], ?_, ?_⟩
  · show kwords[j] ∈ kwords
    exact List.getElem_mem hl
  · rw [List.getD_eq_getElem?_getD, List.getElem?_eq_getElem hl, Option.getD_some] at hk
    simp [hk]
def g158 := pure1 deS fun s => bv (isName2 s)
def tb158 : List (FuncId × (List AV → Heap → PRes)) := [(165, g165), (166, g166), (167, g167)]
set_option maxRecDepth 100000 in
theorem p158 : P0 [7] 158 g158 := by
  refine mk1 (S := [7]) (l := tb158) (tb_cons p165 (tb_cons p166 (tb_cons p167 tb_nil))) Tryd.func158 rfl (by kernel_rfl) ss (fun x a h => deS_out h) (fun a => rfl) (fun s h n => ?_)
  by_cases h1 : s.size = 0
  · have hf : isName2 s = false := by simp [isName2, h1]
    simp [evs, aeval, binS, cx_ti, cx_G, cx_pf, cx_tw, ti, globS, glob, ldcs, sls, slc, pfL, ss, bv, hf, h1]
  have z1 : ¬ (s.size : Int) < 1 := by omega
  by_cases h2 : (16 : Int) < s.size
  · have hf : isName2 s = false := by
      have : ¬ s.size ≤ 16 := by omega
      simp [isName2, this]
    simp [evs, aeval, binS, cx_ti, cx_G, cx_pf, cx_tw, ti, globS, glob, ldcs, sls, slc, pfL, ss, bv, hf, z1, h2]
  simp [evs, aeval, binS, cx_ti, cx_G, cx_pf, cx_tw, ti, globS, glob, ldcs, sls, slc, pfL, ss, bv, z1, h2]
  refine awp_loop (fun s' => ∃ j : Nat, j ≤ s.size ∧ s'.e 0 = ss s ∧ s'.e 3 = ii j ∧ wordTo s j = true) (fun s' => s.size - (s'.e 3).i.toNat) ⟨0, by omega, by simp [up, env0, ss], by simp [up, ii], by simp [wordTo]⟩ ?_
  intro e h n
  rintro ⟨j, hj, q0, q3, hno⟩
  simp only [] at q0 q3
  by_cases hlt : j < s.size
  · have hw := wrap_nat (j := j) (by unfold big; omega)
    have hs := wordTo_succ s j
    rw [hno, Bool.true_and] at hs
    by_cases hwd : wordB (byteAt s j) = true
    · simp [evs, aeval, binS, cx_ti, cx_G, cx_pf, cx_tw, ti, globS, glob, ldcs, sls, slc, pfL, q0, q3, ii, ss, hlt, tb158, g165, pure1, de8, bv, hwd, hw]
      exact ⟨⟨j + 1, by omega, by omega, by rw [hs, hwd]⟩, by omega⟩
    · rw [Bool.not_eq_true] at hwd
      have hf : isName2 s = false := by
        have : wordTo s s.size = false := by
          simp only [wordTo, List.all_eq_false]
          exact ⟨j, by simp; omega, by simp [hwd]⟩
        simp [isName2, this]
      simp [evs, aeval, binS, cx_ti, cx_G, cx_pf, cx_tw, ti, globS, glob, ldcs, sls, slc, pfL, q0, q3, ii, ss, hlt, tb158, g165, pure1, de8, bv, hwd, hw, hf]
  · obtain rfl : j = s.size := by omega
    have h0 : 0 < s.size := by omega
    by_cases hdg : digitB (byteAt s 0) = true
    · have hf : isName2 s = false := by simp [isName2, hdg]
      simp [evs, aeval, binS, cx_ti, cx_G, cx_pf, cx_tw, ti, globS, glob, ldcs, sls, slc, pfL, q0, q3, ii, ss, tb158, g166, pure1, de8, bv, hdg, hf, h0]
    rw [Bool.not_eq_true] at hdg
    simp [evs, aeval, binS, cx_ti, cx_G, cx_pf, cx_tw, ti, globS, glob, ldcs, sls, slc, pfL, q0, q3, ii, ss, tb158, g166, pure1, de8, bv, hdg, h0]
    refine awp_loop (fun s' => ∃ j : Nat, j ≤ 27 ∧ s'.e 0 = ss s ∧ s'.e 4 = ii j ∧ noAl s j = true) (fun s' => 27 - (s'.e 4).i.toNat) ⟨0, by omega, by simp [up, q0], by simp [up, ii], by simp [noAl]⟩ ?_
    intro e h n
    rintro ⟨j, hj, q0, q4, hno2⟩
    simp only [] at q0 q4
    by_cases hlt : j < 27
    · have hw := wrap_nat (j := j) (by unfold big; omega)
      have hl : j < kwords.length := hlt
      have hlt' : (j : Int) < 27 := by omega
      have hke : kwords.getD j ByteArray.empty = kwords[j] := by rw [List.getD_eq_getElem?_getD, List.getElem?_eq_getElem hl]; rfl
      have hg : (kwords.map Value.string)[j]? = some (Value.string kwords[j]) := by rw [List.getElem?_map, List.getElem?_eq_getElem hl]; rfl
      have hb : s.size < big := by unfold big; omega
      have hs := noAl_succ s j hlt
      rw [hno2, Bool.true_and, hke] at hs
      cases hal : alikeS s kwords[j] with
      | true =>
        have hf : isName2 s = false := by
          have := noAl_hit s j hlt (by rw [hke]; exact hal)
          simp [isName2, this]
        simp [evs, aeval, binS, cx_ti, cx_G, cx_pf, cx_tw, ti, globS, glob, ldcs, sls, slc, pfL, q0, q4, ii, ss, hlt', hl, hg, tb158, g167, pureH, de167, bv, hal, hf, hb]
        exact hl
      | false =>
        rw [hal] at hs
        simp [evs, aeval, binS, cx_ti, cx_G, cx_pf, cx_tw, ti, globS, glob, ldcs, sls, slc, pfL, q0, q4, ii, ss, hlt', hl, hg, tb158, g167, pureH, de167, bv, hal, hb, hw]
        exact ⟨hl, ⟨j + 1, by omega, by omega, by simpa using hs⟩, by omega⟩
    · obtain rfl : j = 27 := by omega
      have hf : isName2 s = true := by
        have z3 : s.size ≤ 16 := by omega
        have z4 : 1 ≤ s.size := h0
        simp [isName2, z3, z4, hno, hdg, hno2]
      simp [evs, aeval, binS, cx_ti, cx_G, cx_pf, cx_tw, ti, globS, glob, ldcs, sls, slc, pfL, q0, q4, ii, ss, bv, hf]
/-! ### the two are one -/
theorem ba_beq (a b : ByteArray) : ((a == b) = true) = (a = b) := by
  refine propext ⟨fun h => ?_, fun h => ?_⟩
  · obtain ⟨x⟩ := a
    obtain ⟨y⟩ := b
    have : (x == y) = true := h
    rw [eq_of_beq this]
  · subst h
    obtain ⟨x⟩ := a
    show (x == x) = true
    exact beq_self_eq_true x
theorem kw_upper : ∀ k ∈ kwords, ∀ i, i < k.size → 65 ≤ byteAt k i ∧ byteAt k i ≤ 90 := by
  have : (kwords.all fun k => (List.range k.size).all fun i => decide (65 ≤ byteAt k i ∧ byteAt k i ≤ 90)) = true := by kernel_rfl
  intro k hk i hi
  rw [List.all_eq_true] at this
  have := this k hk
  rw [List.all_eq_true] at this
  exact of_decide_eq_true (this i (by simpa using hi))
theorem byteAt_lt (s : ByteArray) (i : Nat) : byteAt s i < 256 := (s.data.toList.getD i 0).toNat_lt
theorem al1_up {x y : Nat} (hw : wordB x = true) (hy : 65 ≤ y ∧ y ≤ 90) : (al1 x y = true) ↔ (if 97 ≤ x ∧ x ≤ 122 then x - 32 else x) = y := by
  have h1 : letterB (y : Int) = true := by simp [letterB]; omega
  unfold al1
  rw [h1, Bool.and_true]
  simp only [wordB, Bool.or_eq_true, decide_eq_true_eq] at hw
  by_cases hl : letterB (x : Int) = true
  · rw [if_pos hl]
    simp only [letterB, Bool.or_eq_true, decide_eq_true_eq] at hl
    rw [beq_iff_eq]
    have e1 : (x : Int).tmod 32 = ((x % 32 : Nat) : Int) := by rw [Int.tmod_eq_emod_of_nonneg (by omega)]; omega
    have e2 : (y : Int).tmod 32 = ((y % 32 : Nat) : Int) := by rw [Int.tmod_eq_emod_of_nonneg (by omega)]; omega
    rw [e1, e2]
    split <;> omega
  · rw [if_neg hl, beq_iff_eq]
    simp only [letterB, Bool.or_eq_true, decide_eq_true_eq] at hl
    rw [if_neg (by omega)]
    omega
theorem upS_byte (s : ByteArray) (i : Nat) (hi : i < s.size) : byteAt (upS s) i = if 97 ≤ byteAt s i ∧ byteAt s i ≤ 122 then byteAt s i - 32 else byteAt s i := by
  have hl : i < s.data.toList.length := by simpa using hi
  have e : (upS s).data.toList = s.data.toList.map upB := by simp [upS]
  unfold byteAt
  rw [e, List.getD_eq_getElem?_getD, List.getD_eq_getElem?_getD, List.getElem?_map, List.getElem?_eq_getElem hl]
  simp only [Option.map_some, Option.getD_some, upB]
  split
  · rw [UInt8.toNat_ofNat_of_lt']
    have := (s.data.toList[i]).toNat_lt
    have e : UInt8.size = 256 := rfl
    omega
  · rfl
theorem upS_size (s : ByteArray) : (upS s).size = s.size := by
  show (upS s).data.size = s.data.size
  simp [upS]
theorem ba_ext {a b : ByteArray} (hs : a.size = b.size) (h : ∀ i, i < a.size → byteAt a i = byteAt b i) : a = b := by
  obtain ⟨⟨x⟩⟩ := a
  obtain ⟨⟨y⟩⟩ := b
  have : x = y := by
    refine List.ext_getElem hs fun i h1 h2 => ?_
    have := h i h1
    simp only [byteAt, List.getD_eq_getElem?_getD, List.getElem?_eq_getElem h1, List.getElem?_eq_getElem h2, Option.getD_some] at this
    exact UInt8.toNat_inj.1 this
  rw [this]
theorem alike_up {s k : ByteArray} (hw : ∀ i, i < s.size → wordB (byteAt s i) = true) (hk : ∀ i, i < k.size → 65 ≤ byteAt k i ∧ byteAt k i ≤ 90) : alikeS s k = (upS s == k) := by
  rw [Bool.eq_iff_iff, ba_beq]
  simp only [alikeS, Bool.and_eq_true, decide_eq_true_eq, alTo, List.all_eq_true, List.mem_range]
  constructor
  · rintro ⟨h1, h2⟩
    refine ba_ext (by rw [upS_size]; exact h1) fun i hi => ?_
    rw [upS_size] at hi
    rw [upS_byte s i hi]
    exact (al1_up (hw i hi) (hk i (by omega))).1 (h2 i hi)
  · intro e
    have h1 : s.size = k.size := by rw [← e, upS_size]
    refine ⟨h1, fun i hi => (al1_up (hw i hi) (hk i (by omega))).2 ?_⟩
    rw [← upS_byte s i hi, e]
theorem isName_same (s : ByteArray) : isName2 s = isNameS s := by
  by_cases h0 : s.size = 0
  · simp [isName2, isNameS, h0]
  have h1 : 1 ≤ s.size := by omega
  by_cases hw : ∀ i, i < s.size → wordB (byteAt s i) = true
  · have e1 : wordTo s s.size = true := by simp only [wordTo, List.all_eq_true, List.mem_range]; exact hw
    have e2 := all_word s hw
    have e3 : noAl s 27 = kwords.all fun k => upS s != k := by
      show (kwords.all fun k => !(alikeS s k)) = _
      rw [Bool.eq_iff_iff, List.all_eq_true, List.all_eq_true]
      constructor
      · intro h k hk
        have := h k hk
        rw [alike_up hw (kw_upper k hk)] at this
        exact this
      · intro h k hk
        have := h k hk
        rw [alike_up hw (kw_upper k hk)]
        exact this
    have e4 : digitB (byteAt s 0) = decide (48 ≤ byteAt s 0 ∧ byteAt s 0 ≤ 57) := by
      rw [Bool.eq_iff_iff]; simp [digitB]; omega
    simp only [isName2, isNameS, e1, e2, e3, e4]
    simp [h0, h1]
  · have : ∃ i, i < s.size ∧ wordB (byteAt s i) = false := by
      apply Classical.byContradiction
      intro hn
      exact hw fun i hi => by
        cases h : wordB (byteAt s i) with
        | true => rfl
        | false => exact absurd ⟨i, hi, h⟩ hn
    obtain ⟨i, hi, hb⟩ := this
    have e1 : wordTo s s.size = false := by
      simp only [wordTo, List.all_eq_false]
      exact ⟨i, by simpa using hi, by simp [hb]⟩
    have e2 := not_word s i hi hb
    simp [isName2, isNameS, e1, e2]
end Go.Proofs.YtkfphaphiikloaaDoor

/-
  TREES, PART A: operators and nodes, on both sides.
-/
namespace Go.Proofs.YtkfphaphiikloaaDoor
open Go Go.Eng

def arity (o : Int) : Int := if 1 ≤ o ∧ o ≤ 11 then 0 else if o = 12 ∨ o = 13 then 1 else if 14 ≤ o ∧ o ≤ 26 then 2 else -1
def truthO (o : Int) : Bool := decide (o = 2 ∨ o = 3 ∨ o = 13 ∨ o = 25 ∨ o = 26 ∨ (19 ≤ o ∧ o ≤ 24))
def mentO (o : Int) : Bool := decide (4 ≤ o ∧ o ≤ 11)
def g142 := pure1 deI fun o => bv (decide (o = 12 ∨ o = 13))
def g143 := pure1 deI fun o => bv (decide (14 ≤ o ∧ o ≤ 26))
def g114 := pure1 deI fun o => ii (arity o)
def g92 := pure1 deI fun o => bv (truthO o)
def g95 := pure1 deI fun o => bv (mentO o)
set_option maxRecDepth 100000 in
theorem p142 : P0 [] 142 g142 := by
  refine mk1 (S := []) tb_nil Tryd.func142 rfl (by kernel_rfl) ii (fun x a h => deI_out h) (fun a => rfl) (fun o h n => ?_)
  simp [evs, aeval, binS, cx_ti, cx_G, cx_pf, cx_tw, ti, globS, glob, ldcs, sls, slc, pfL, ii, bv]
  try grind
set_option maxRecDepth 100000 in
theorem p143 : P0 [] 143 g143 := by
  refine mk1 (S := []) tb_nil Tryd.func143 rfl (by kernel_rfl) ii (fun x a h => deI_out h) (fun a => rfl) (fun o h n => ?_)
  simp [evs, aeval, binS, cx_ti, cx_G, cx_pf, cx_tw, ti, globS, glob, ldcs, sls, slc, pfL, ii, bv]
  try grind
set_option maxRecDepth 100000 in
theorem p114 : P0 [] 114 g114 := by
  refine mk1 (S := []) tb_nil Tryd.func114 rfl (by kernel_rfl) ii (fun x a h => deI_out h) (fun a => rfl) (fun o h n => ?_)
  simp [evs, aeval, binS, cx_ti, cx_G, cx_pf, cx_tw, ti, globS, glob, ldcs, sls, slc, pfL, ii, arity]
  try grind
set_option maxRecDepth 100000 in
theorem p92 : P0 [] 92 g92 := by
  refine mk1 (S := []) tb_nil Tryd.func92 rfl (by kernel_rfl) ii (fun x a h => deI_out h) (fun a => rfl) (fun o h n => ?_)
  have hc : o = 2 ∨ o = 3 ∨ o = 13 ∨ o = 25 ∨ o = 26 ∨ o = 19 ∨ o = 20 ∨ o = 21 ∨ o = 22 ∨ o = 23 ∨ o = 24 ∨ truthO o = false ∧ o ≠ 2 ∧ o ≠ 3 ∧ o ≠ 13 ∧ o ≠ 25 ∧ o ≠ 26 ∧ o ≠ 19 ∧ o ≠ 20 ∧ o ≠ 21 ∧ o ≠ 22 ∧ o ≠ 23 ∧ o ≠ 24 := by
    simp only [truthO, decide_eq_false_iff_not]
    omega
  rcases hc with rfl | rfl | rfl | rfl | rfl | rfl | rfl | rfl | rfl | rfl | rfl | ⟨ht, h1, h2, h3, h4, h5, h6, h7, h8, h9, h10, h11⟩
  all_goals first | (simp [evs, aeval, binS, cx_ti, cx_G, cx_pf, cx_tw, ti, globS, glob, ldcs, sls, slc, pfL, ii, bv, truthO]; done) | simp [evs, aeval, binS, cx_ti, cx_G, cx_pf, cx_tw, ti, globS, glob, ldcs, sls, slc, pfL, ii, bv, ht, h1, h2, h3, h4, h5, h6, h7, h8, h9, h10, h11]
set_option maxRecDepth 100000 in
theorem p123 : P0 [] 123 g92 := by
  refine mk1 (S := []) tb_nil Tryd.func123 rfl (by kernel_rfl) ii (fun x a h => deI_out h) (fun a => rfl) (fun o h n => ?_)
  simp [evs, aeval, binS, cx_ti, cx_G, cx_pf, cx_tw, ti, globS, glob, ldcs, sls, slc, pfL, ii, bv, truthO]
  try grind
set_option maxRecDepth 100000 in
theorem p95 : P0 [] 95 g95 := by
  refine mk1 (S := []) tb_nil Tryd.func95 rfl (by kernel_rfl) ii (fun x a h => deI_out h) (fun a => rfl) (fun o h n => ?_)
  simp [evs, aeval, binS, cx_ti, cx_G, cx_pf, cx_tw, ti, globS, glob, ldcs, sls, slc, pfL, ii, bv, mentO]
  try grind
theorem g158_eq : g158 = g138 := by
  unfold g158 g138
  congr 1
  funext s
  rw [isName_same]
theorem p158' : P0 [7] 158 g138 := g158_eq ▸ p158

/-! ### nodes -/
structure Nd where
  op : Int
  n : Int
  var : ByteArray
  attr : ByteArray
  a : Int
  b : Int
def ncells (x : Nd) : List AV := [ii x.op, ii x.n, ss x.var, ss x.attr, ii x.a, ii x.b]
def deNc : List AV → Option Nd
  | [.v (.int .i64 op), .v (.int .i64 n), .v (.string var), .v (.string attr), .v (.int .i64 a), .v (.int .i64 b)] => some ⟨op, n, var, attr, a, b⟩
  | _ => none
theorem deNc_out {l : List AV} {x : Nd} (h : deNc l = some x) : l = ncells x := by
  unfold deNc at h
  split at h
  · cases h; rfl
  · cases h
def deN : AV → Option Nd
  | .g l => deNc l
  | _ => none
def nn (x : Nd) : AV := .g (ncells x)
theorem deN_out {x : AV} {e : Nd} (h : deN x = some e) : x = nn e := by
  unfold deN at h
  split at h
  · rw [deNc_out h]; rfl
  · cases h
theorem deN_nn (x : Nd) : deN (.g (ncells x)) = some x := rfl
def emB (s : ByteArray) : Bool := s == ByteArray.empty
def bareB (x : Nd) : Bool := decide (x.n = 0) && emB x.var && emB x.attr
def leafB (x : Nd) : Bool := decide (x.a = -1) && decide (x.b = -1) &&
  (if x.op = 1 then decide (0 ≤ x.n) && emB x.var && emB x.attr
   else if x.op = 2 ∨ x.op = 3 then bareB x
   else if x.op = 5 then decide (x.n = 0) && isNameS x.var && emB x.attr
   else if 4 ≤ x.op ∧ x.op ≤ 11 then decide (x.n = 0) && isNameS x.var && isNameS x.attr else false)
def fieldsB (x : Nd) : Bool :=
  (if x.op = 1 then decide (0 ≤ x.n) else decide (x.n = 0)) &&
  (if 4 ≤ x.op ∧ x.op ≤ 11 then isNameS x.var else emB x.var) &&
  (if 4 ≤ x.op ∧ x.op ≤ 11 ∧ x.op ≠ 5 then isNameS x.attr else emB x.attr)
def g141 := pure1 deN fun x => bv (leafB x)
def g115 := pure1 deN fun x => bv (fieldsB x)
def tb141 : List (FuncId × (List AV → Heap → PRes)) := [(158, g138)]
def tb115 : List (FuncId × (List AV → Heap → PRes)) := [(138, g138)]
set_option maxHeartbeats 4000000 in
set_option maxRecDepth 100000 in
theorem p141 : P0 [7] 141 g141 := by
  refine mk1 (S := [7]) (l := tb141) (tb_cons p158' tb_nil) Tryd.func141 rfl (by kernel_rfl) nn (fun x a h => deN_out h) (fun a => rfl) (fun x h n => ?_)
  obtain ⟨op, num, var, attr, a, b⟩ := x
  have h0 : ByteArray.mk #[] = ByteArray.empty := rfl
  by_cases ha : a = -1
  · by_cases hb : b = -1
    · subst ha; subst hb
      have hc : op = 1 ∨ op = 2 ∨ op = 3 ∨ op = 5 ∨ op = 4 ∨ op = 6 ∨ op = 7 ∨ op = 8 ∨ op = 9 ∨ op = 10 ∨ op = 11 ∨ op ≠ 1 ∧ op ≠ 2 ∧ op ≠ 3 ∧ op ≠ 5 ∧ op ≠ 4 ∧ op ≠ 6 ∧ op ≠ 7 ∧ op ≠ 8 ∧ op ≠ 9 ∧ op ≠ 10 ∧ op ≠ 11 ∧ ¬ (4 ≤ op ∧ op ≤ 11) := by omega
      rcases hc with rfl | rfl | rfl | rfl | rfl | rfl | rfl | rfl | rfl | rfl | rfl | ⟨h1, h2, h3, h4, h5, h6, h7, h8, h9, h10, h11, h12⟩
      all_goals first
        | (simp [evs, aeval, binS, cx_ti, cx_G, cx_pf, cx_tw, ti, globS, glob, ldcs, sls, slc, pfL, nn, ncells, ii, ss, bv, tb141, g138, pure1, deS, leafB, bareB, emB, h0]; done)
        | (simp [evs, aeval, binS, cx_ti, cx_G, cx_pf, cx_tw, ti, globS, glob, ldcs, sls, slc, pfL, nn, ncells, ii, ss, bv, tb141, g138, pure1, deS, leafB, bareB, emB, h0, h1, h2, h3, h4, h5, h6, h7, h8, h9, h10, h11, h12]; done)
        | (simp [evs, aeval, binS, cx_ti, cx_G, cx_pf, cx_tw, ti, globS, glob, ldcs, sls, slc, pfL, nn, ncells, ii, ss, bv, tb141, g138, pure1, deS, leafB, bareB, emB, h0]; grind)
    · subst ha
      have hl : leafB ⟨op, num, var, attr, -1, b⟩ = false := by simp [leafB, hb]
      simp [evs, aeval, binS, cx_ti, cx_G, cx_pf, cx_tw, ti, globS, glob, ldcs, sls, slc, pfL, nn, ncells, ii, ss, bv, hl, hb]
  · have hl : leafB ⟨op, num, var, attr, a, b⟩ = false := by simp [leafB, ha]
    simp [evs, aeval, binS, cx_ti, cx_G, cx_pf, cx_tw, ti, globS, glob, ldcs, sls, slc, pfL, nn, ncells, ii, ss, bv, hl, ha]
set_option maxHeartbeats 1000000 in
set_option maxRecDepth 100000 in
theorem p115 : P0 [7] 115 g115 := by
  refine mk1 (S := [7]) (l := tb115) (tb_cons p138 tb_nil) Tryd.func115 rfl (by kernel_rfl) nn (fun x a h => deN_out h) (fun a => rfl) (fun x h n => ?_)
  obtain ⟨op, num, var, attr, a, b⟩ := x
  have h0 : ByteArray.mk #[] = ByteArray.empty := rfl
  have hne : ∀ z : ByteArray, (z != ByteArray.empty) = !(z == ByteArray.empty) := fun _ => rfl
  by_cases ho : op = 1
  · subst ho
    simp [evs, aeval, binS, cx_ti, cx_G, cx_pf, cx_tw, ti, globS, glob, ldcs, sls, slc, pfL, nn, ncells, ii, ss, bv, tb115, g138, pure1, deS, fieldsB, emB, h0, hne]
    cases (var == ByteArray.empty) <;> cases (attr == ByteArray.empty) <;> simp
    all_goals omega
  by_cases h5 : op = 5
  · subst h5
    simp [evs, aeval, binS, cx_ti, cx_G, cx_pf, cx_tw, ti, globS, glob, ldcs, sls, slc, pfL, nn, ncells, ii, ss, bv, tb115, g138, pure1, deS, fieldsB, emB, h0, hne]
    cases isNameS var <;> cases (attr == ByteArray.empty) <;> simp
  by_cases hm : 4 ≤ op ∧ op ≤ 11
  · have hm1 := hm.1
    have hm2 := hm.2
    have h6 : (op != 5) = true := by simpa using h5
    simp [evs, aeval, binS, cx_ti, cx_G, cx_pf, cx_tw, ti, globS, glob, ldcs, sls, slc, pfL, nn, ncells, ii, ss, bv, tb115, g138, pure1, deS, fieldsB, emB, h0, hne, ho, h5, hm1, hm2, h6]
    cases isNameS var <;> cases isNameS attr <;> simp
  · by_cases hlo : 4 ≤ op
    · have hhi : ¬ op ≤ 11 := fun h => hm ⟨hlo, h⟩
      simp [evs, aeval, binS, cx_ti, cx_G, cx_pf, cx_tw, ti, globS, glob, ldcs, sls, slc, pfL, nn, ncells, ii, ss, bv, tb115, g138, pure1, deS, fieldsB, emB, h0, hne, ho, h5, hlo, hhi]
      cases (var == ByteArray.empty) <;> cases (attr == ByteArray.empty) <;> simp
    · simp [evs, aeval, binS, cx_ti, cx_G, cx_pf, cx_tw, ti, globS, glob, ldcs, sls, slc, pfL, nn, ncells, ii, ss, bv, tb115, g138, pure1, deS, fieldsB, emB, h0, hne, ho, h5, hlo]
      cases (var == ByteArray.empty) <;> cases (attr == ByteArray.empty) <;> simp
end Go.Proofs.YtkfphaphiikloaaDoor
