import Derived.Test.YtbffkkeieihpdaaGreatDoorX14
import Derived.Test.YtbffkkeieihpdaaGreatDoorX12
import Derived.Laws.RangeAny
import Derived.Test.YtbffkkeieihpdaaGreatDoorX13
set_option linter.unusedSimpArgs false
set_option linter.unusedVariables false
set_option linter.constructorNameAsVariable false
set_option maxRecDepth 100000
set_option maxHeartbeats 4000000
namespace Go.Proofs.YtbffkkeieihpdaaGreatDoor
open Go Go.Eng Go.RowKit
def wordB (c : Int) : Bool := decide (65 ≤ c ∧ c ≤ 90) || decide (97 ≤ c ∧ c ≤ 122) || decide (48 ≤ c ∧ c ≤ 57) || decide (c = 95)
theorem word_walk (c : Int) (w : World) : Calls Tryz.prog 197 #[.int .i32 c] w fun e w' => e = .returned (.bool (wordB c)) ∧ w' = w := by
 go_enter Tryz.func197, Tryz.ntmps197
 go_wp2
 all_goals
  go_ret
  refine ⟨?_, rfl⟩
  refine congrArg (fun b => Ending.returned (Value.bool b)) (?_ : (_ : Bool) = wordB c)
  rw [Bool.eq_iff_iff]
  simp [wordB]
  try omega
def isNameS (s : ByteArray) : Bool := decide (s.size ≠ 0) && decide (s.size ≤ 16) && !(decide (48 ≤ byteAt s 0 ∧ byteAt s 0 ≤ 57)) && s.data.toList.all (fun b => wordB b.toNat) && kwords.all fun k => upS s != k
theorem byteAt_get (s : ByteArray) (j : Nat) (h : j < s.size) : byteAt s j = (s[j]'h).toNat := by
 have hl : j < s.data.toList.length := by simpa using h
 rw [byteAt, List.getD_eq_getElem?_getD, List.getElem?_eq_getElem hl]
 simp
 rfl
theorem all_word (s : ByteArray) (h : ∀ j, j < s.size → wordB (byteAt s j) = true) : (s.data.toList.all fun b => wordB b.toNat) = true := by
 rw [List.all_eq_true]
 intro b hb
 obtain ⟨j, hj, rfl⟩ := List.mem_iff_getElem.1 hb
 have := h j (by simpa using hj)
 rw [byteAt, List.getD_eq_getElem?_getD, List.getElem?_eq_getElem hj] at this
 simpa using this
theorem not_word (s : ByteArray) (j : Nat) (hj : j < s.size) (h : wordB (byteAt s j) = false) : (s.data.toList.all fun b => wordB b.toNat) = false := by
 rw [List.all_eq_false]
 have hl : j < s.data.toList.length := by simpa using hj
 refine ⟨_, List.getElem_mem hl, ?_⟩
 rw [byteAt, List.getD_eq_getElem?_getD, List.getElem?_eq_getElem hl] at h
 simpa using h
theorem word_high (c : Int) (h : 128 ≤ c) : wordB c = false := by
 simp [wordB]; omega
noncomputable def tail138 : Code := tlC 4 (Tryz.f149.body.getD .skip)
def noKw (u : ByteArray) (n : Nat) : Bool := (kwords.take n).all fun k => u != k
theorem noKw_succ (u : ByteArray) (j : Nat) (hj : j < 27) : noKw u (j + 1) = (noKw u j && (u != kwords.getD j ByteArray.empty)) := by
 have hj' : j < kwords.length := hj
 unfold noKw
 rw [List.take_add_one, List.getElem?_eq_getElem hj', List.all_append, List.getD_eq_getElem?_getD, List.getElem?_eq_getElem hj']
 simp
theorem noKw_hit (u : ByteArray) (j : Nat) (hj : j < 27) (hk : (u != kwords.getD j ByteArray.empty) = false) : noKw u 27 = false := by
 have hl : j < kwords.length := hj
 unfold noKw
 rw [List.all_eq_false]
 refine ⟨kwords[j], ?_, ?_⟩
 ·show kwords[j] ∈ kwords
  exact List.getElem_mem hl
 ·rw [List.getD_eq_getElem?_getD, List.getElem?_eq_getElem hl, Option.getD_some] at hk
  simp [hk]
theorem noKw_all (u : ByteArray) : noKw u 27 = kwords.all fun k => u != k := rfl
theorem tail_awp (u : ByteArray) (e : Nat → AV) (he : e 5 = .v (.string u)) (h : Heap) (n : Nat) : awp (cx [3] (pfL [])) tail138 (fun x s => x = .ret ∧ s.e 2 = bv (noKw u 27)) ⟨e, h, n⟩ := by
 simp [evv, tail138, tlC, Tryz.f149]
 refine ⟨by decide, ?_⟩
 refine awp_loop (fun s => ∃ j : Nat, j ≤ 27 ∧ s.e 5 = .v (.string u) ∧ s.e 35 = AV.g (kwords.map fun k => AV.v (Value.string k)) ∧ s.e 36 = ii j ∧ noKw u j = true) (fun s => 27 - (s.e 36).i.toNat) ⟨0, by omega, by simp [up, he], rfl, by simp [up, ii], by simp [noKw]⟩ ?_
 intro e h n
 rintro ⟨j, hj, q5, q35, q36, hno⟩
 simp only [] at q5 q35 q36
 by_cases hlt : j < 27
 ·have hl : j < kwords.length := hlt
  have hw := wrap_nat (j := j) (by unfold big; omega)
  have hke : kwords.getD j ByteArray.empty = kwords[j] := by rw [List.getD_eq_getElem?_getD, List.getElem?_eq_getElem hl]; rfl
  have hg : (kwords.map fun k => AV.v (Value.string k))[j]? = some (AV.v (Value.string (kwords.getD j ByteArray.empty))) := by
   rw [List.getElem?_map, List.getElem?_eq_getElem hl, List.getD_eq_getElem?_getD, List.getElem?_eq_getElem hl]
   rfl
  have hlt' : (j : Int) < 27 := by omega
  rw [hke] at hg
  by_cases hk : (u == kwords[j]) = true
  ·have hf : noKw u 27 = false := noKw_hit u j hlt (by rw [hke, bne, hk]; rfl)
   simp [evv, q5, q35, q36, ii, hlt', hl, hk, hf, bv]
  ·rw [Bool.not_eq_true] at hk
   have hs := noKw_succ u j hlt
   rw [hno, hke, bne, hk] at hs
   simp [evv, q5, q35, q36, ii, hlt', hl, hk, bv, hw]
   exact ⟨⟨j + 1, by omega, rfl, hs⟩, by omega⟩
 ·obtain rfl : j = 27 := by omega
  simp [evv, q36, ii, hno, bv]
def KwAt (w : World) : Prop := ∃ arr el fr, w.heap[3]? = some (.cells arr el fr) ∧ arr.toList = kwords.map Value.string
theorem KwAt.below {w w' : World} (h : KwAt w) (hb : Below w.heap.size w w') : KwAt w' := by
 obtain ⟨arr, el, fr, h1, h2⟩ := h
 refine ⟨arr, el, fr, ?_, h2⟩
 rw [hb.block _ ?_]
 ·exact h1
 ·apply Classical.byContradiction
  intro hlt
  rw [Array.getElem?_eq_none (by omega)] at h1; cases h1
theorem tail_wp (u : ByteArray) (w : World) (hk : KwAt w) (a : Act) (hsz : a.tmps.size = 43) (hd : a.defers = []) (h5 : a.tmps.getD 5 undef = .string u) (Qc : Exit → Act → World → Prop)
  (hQ : ∀ a' w', a'.defers = [] → a'.tmps.getD 2 undef = .bool (noKw u 27) → Below w.heap.size w w' → Qc .ret a' w') : tail138.wp Tryz.prog Qc a w := by
 have r : RoRel (cx [3] (pfL [])) (fun _ _ => none) (fun _ => none) w := by
  refine ⟨fun g cs hg => ?_, fun _ _ h => by cases h⟩
  simp only [cx_G, globS] at hg
  split at hg
  ·rename_i hm
   simp only [List.mem_cons, List.not_mem_nil, or_false] at hm
   subst hm
   simp only [glob, Option.some.injEq] at hg
   subst hg
   exact hk
  ·cases hg
 have r2 := r.rel (m := 0) fun j _ => ⟨fun _ => rfl, rfl⟩
 refine awp_sound (X := cx [3] (pfL [])) (K := (· < w.heap.size)) (w0 := w) (sz := 43) (ρ := fun _ _ => none) (pfL_ok tb_nil) (mixed _ _) tail138 (by kernel_rfl) (fun x s => x = .ret ∧ s.e 2 = bv (noKw u 27)) Qc (fun x s a' w' ρ' _ hq hr he => ?_) ⟨fun t => if t = 5 then .v (.string u) else .any, _, 0⟩ a w _ (tail_awp u _ (by simp) _ _) (Ren.le_refl _) r2 ⟨hsz, hd, fun t ht => ?_⟩
 ·obtain ⟨rfl, h2⟩ := hq
  refine hQ a' w' he.2.1 ?_ hr.gone
  have := he.2.2 2 (by omega)
  rw [h2] at this
  simpa [bv, VR] using this
 ·by_cases e : t = 5
  ·subst e
   simp [VR, h5]
  ·simp [e, VR]
theorem isName_walk (s : ByteArray) (w : World) (hk : KwAt w) :
  Calls Tryz.prog 149 #[.string s] w fun e w' => e = .returned (.bool (isNameS s)) ∧ Below w.heap.size w w' := by
 by_cases h1 : s.size = 0
 ·have hE : s.toList.isEmpty = true := by
   rw [ByteArray.toList_eq, List.isEmpty_iff, ← List.length_eq_zero_iff]
   simpa using h1
  go_enter Tryz.func149, Tryz.ntmps149
  go_wp2
  go_ret
  exact ⟨by simp [isNameS, h1], Below.refl _ _⟩
 have hE : s.toList.isEmpty = false := by
  rw [ByteArray.toList_eq, List.isEmpty_eq_false_iff]
  intro e
  apply h1
  have : s.data.toList.length = 0 := by rw [e]; rfl
  simpa using this
 by_cases h2 : 16 < (s.size : Int)
 ·go_enter Tryz.func149, Tryz.ntmps149
  go_wp2
  go_ret
  have : ¬ s.size ≤ 16 := by omega
  exact ⟨by simp [isNameS, this], Below.refl _ _⟩
 have h0 : 0 < s.size := by omega
 have hb0 : s[0]? = some (s[0]'h0) := by simp [h0]
 have hb1 := byteAt_get s 0 h0
 have h2' : s.size ≤ 16 := by omega
 by_cases h3 : (48 : Int) ≤ (s[0]'h0).toNat ∧ ((s[0]'h0).toNat : Int) ≤ 57
 ·obtain ⟨h3, h4⟩ := h3
  go_enter Tryz.func149, Tryz.ntmps149
  go_wp2
  go_ret
  have e : decide (48 ≤ byteAt s 0 ∧ byteAt s 0 ≤ 57) = true := by rw [hb1]; simp; omega
  exact ⟨by simp only [isNameS, e]; simp, Below.refl _ _⟩
 have hd : decide (48 ≤ byteAt s 0 ∧ byteAt s 0 ≤ 57) = false := by rw [hb1]; simp; omega
 have hsp : ((s[0]'h0).toNat : Int) < 48 ∨ (48 : Int) ≤ (s[0]'h0).toNat ∧ (57 : Int) < (s[0]'h0).toNat := by omega
 go_enter Tryz.func149, Tryz.ntmps149
 rcases hsp with h5 | ⟨h5, h6⟩
 all_goals
  go_wp2_with (go_at_call 197; refine (word_walk _ _).mono ?_; rintro e w' ⟨rfl, rfl⟩)
  go_loopw [4] (fun _ wr => ∃ pos : Nat, wr = w.iter s pos ∧ ∀ j, j < pos → j < s.size → wordB (byteAt s j) = true) (fun _ wr => s.size - wr.iterPos w.heap.size)
  case atStart => exact ⟨0, rfl, fun j hj => by omega⟩
  case round =>
   obtain ⟨pos, rfl, hw⟩ := hrel
   by_cases hp : pos < s.size
   ·have hnx : ∀ ty, (Instr.next (.pointer (some ⟨w.heap.size, 0, none⟩)) true ty).run Tryz.prog (w.iter s pos) = _ := fun ty => run_next_any w s pos ty hp
    by_cases hword : wordB ((Utf8.decode s pos).1 : Int) = true
    ·go_wp2_with (go_at_call 197; refine (word_walk _ _).mono ?_; rintro e w' ⟨rfl, rfl⟩)
     have hdec : byteAt s pos < 128 ∧ Utf8.decode s pos = (byteAt s pos, 1) := by
      rw [byteAt_get s pos hp]
      by_cases ha : (s[pos]'hp).toNat < 128
      ·exact ⟨ha, decode_ascii s pos hp ha⟩
      ·have := (decode_high s pos hp (by omega)).1
       rw [word_high _ (by omega)] at hword
       cases hword
     refine ⟨⟨pos + 1, by rw [hdec.2], fun j hj hjs => ?_⟩, ?_⟩
     ·by_cases e : j = pos
      ·subst e
       rw [hdec.2] at hword
       exact hword
      ·exact hw j (by omega) hjs
     ·simp [hdec.2]; omega
    ·have hnw : wordB (byteAt s pos) = false := by
      rw [byteAt_get s pos hp]
      by_cases ha : (s[pos]'hp).toNat < 128
      ·rw [decode_ascii s pos hp ha] at hword
       simpa using hword
      ·exact word_high _ (by omega)
     go_wp2_with (go_at_call 197; refine (word_walk _ _).mono ?_; rintro e w' ⟨rfl, rfl⟩)
     go_ret
     exact ⟨by simp [isNameS, not_word s pos hp hnw], (Below.refl _ w).alloc (Nat.le_refl _) _⟩
   ·have hnx : ∀ ty, (Instr.next (.pointer (some ⟨w.heap.size, 0, none⟩)) true ty).run Tryz.prog (w.iter s pos) = _ := fun ty => run_next_end w s pos ty hp
    have hall := all_word s fun j hj => hw j (by omega) hj
    have hb0 : Below w.heap.size w (w.iter s pos) := (Below.refl _ w).alloc (Nat.le_refl _) _
    generalize w.iter s pos = w1 at hnx hb0
    go_wp2_with (first
     | (go_at_call 197; refine (word_walk _ _).mono ?_; rintro e w' ⟨rfl, rfl⟩)
     | (go_at_call 198; refine (upper_walk s _ (by omega)).mono ?_))
    rintro e w2 ⟨rfl, hb⟩
    have hb1 : Below w.heap.size w w2 := hb0.trans (hb.mono hb0.size)
    rename_i K3 a3 K2 a2 K a
    show K _ w2
    have HA : Hid (∀ (a : Act) (w : World), Code.wp Tryz.prog _ _ a w → K2 a w) := a2
    clear a2 a3 hnx
    apply a
    clear a
    go_wp2
    refine HA _ _ ?_
    refine tail_wp (upS s) w2 (hk.below hb1) _ rfl rfl rfl _ fun a' w' hd' hr' hb' => ?_
    refine bodyPost_ret (v := .bool (isNameS s)) ?_ hd' ⟨rfl, hb1.trans (hb'.mono hb1.size)⟩
    have e : isNameS s = noKw (upS s) 27 := by
     simp only [isNameS, hd, hall, noKw_all]
     simp [h1, h2']
    rw [e, ← hr']
    exact results_tmp rfl _ _ _
end Go.Proofs.YtbffkkeieihpdaaGreatDoor

namespace Go.Proofs.YtbffkkeieihpdaaGreatDoor
open Go Go.Eng
def deS : AV → Option ByteArray
 | .v (.string s) => some s
 | _ => none
def ss (s : ByteArray) : AV := .v (.string s)
theorem deS_out {x : AV} {a : ByteArray} (h : deS x = some a) : x = ss a := by
 unfold deS at h
 split at h
 ·cases h; rfl
 ·cases h
def g138 := pure1 deS fun s => bv (isNameS s)
theorem p138 : P0 [3] 149 g138 := by
 refine ⟨fun args h h' hh hs => ?_, .inl ⟨callable Tryz.func149 rfl rfl _ _, fun ρ h w args vs r _ ha hs => ?_⟩⟩
 ·have := pure1_h deS (fun s => bv (isNameS s)) args h h'
  refine ⟨?_, ?_⟩
  ·show (pure1 _ _ args h').side
   rw [← this]; exact hs
  ·show (pure1 _ _ args h').val = (pure1 _ _ args h).val
   rw [this]
 ·obtain ⟨x, s, rfl, hx, hv⟩ := pure1_out hs
  obtain rfl := deS_out hx
  simp only [VRs, VR, ss] at ha
  obtain ⟨y, rest, rfl, rfl, rfl⟩ := ha
  have hk : KwAt w := r.glob 3 _ (by simp [cx_G, globS, glob])
  refine (isName_walk s w hk).mono fun e w' ⟨he, hb⟩ => ⟨_, he, ?_, hb⟩
  rw [show (g138 [ss s] h).val = bv (isNameS s) from hv]
  simp [VR, bv]
theorem ba_beq (a b : ByteArray) : ((a == b) = true) = (a = b) := by
 refine propext ⟨fun h => ?_, fun h => ?_⟩
 ·obtain ⟨x⟩ := a
  obtain ⟨y⟩ := b
  have : (x == y) = true := h
  rw [eq_of_beq this]
 ·subst h
  obtain ⟨x⟩ := a
  show (x == x) = true
  exact beq_self_eq_true x
end Go.Proofs.YtbffkkeieihpdaaGreatDoor

namespace Go.Proofs.YtbffkkeieihpdaaGreatDoor
open Go Go.Eng
def arity (o : Int) : Int := if 1 ≤ o ∧ o ≤ 11 then 0 else if o = 12 ∨ o = 13 then 1 else if 14 ≤ o ∧ o ≤ 26 then 2 else -1
def truthO (o : Int) : Bool := decide (o = 2 ∨ o = 3 ∨ o = 13 ∨ o = 25 ∨ o = 26 ∨ (19 ≤ o ∧ o ≤ 24))
def mentO (o : Int) : Bool := decide (4 ≤ o ∧ o ≤ 11)
def g114 := pure1 deI fun o => ii (arity o)
def g92 := pure1 deI fun o => bv (truthO o)
theorem p114 : P0 [] 139 g114 := by
 refine mk1 (S := []) tb_nil Tryz.func139 rfl (by kernel_rfl) ii (fun x a h => deI_out h) (fun a => rfl) (fun o h n => ?_)
 simp [evv, ii, arity]
 try grind
theorem p92 : P0 [] 163 g92 := by
 refine mk1 (S := []) tb_nil Tryz.func163 rfl (by kernel_rfl) ii (fun x a h => deI_out h) (fun a => rfl) (fun o h n => ?_)
 have hc : o = 2 ∨ o = 3 ∨ o = 13 ∨ o = 25 ∨ o = 26 ∨ o = 19 ∨ o = 20 ∨ o = 21 ∨ o = 22 ∨ o = 23 ∨ o = 24 ∨ truthO o = false ∧ o ≠ 2 ∧ o ≠ 3 ∧ o ≠ 13 ∧ o ≠ 25 ∧ o ≠ 26 ∧ o ≠ 19 ∧ o ≠ 20 ∧ o ≠ 21 ∧ o ≠ 22 ∧ o ≠ 23 ∧ o ≠ 24 := by
  simp only [truthO, decide_eq_false_iff_not]
  omega
 rcases hc with rfl | rfl | rfl | rfl | rfl | rfl | rfl | rfl | rfl | rfl | rfl | ⟨ht, h1, h2, h3, h4, h5, h6, h7, h8, h9, h10, h11⟩
 all_goals first | (simp [evv, ii, bv, truthO]; done) | simp [evv, ii, bv, ht, h1, h2, h3, h4, h5, h6, h7, h8, h9, h10, h11]
structure Nd where
 op : Int
 n : Int
 var : ByteArray
 attr : ByteArray
 a : Int
 b : Int
def ncells (x : Nd) : List AV := [ii x.op, ii x.n, ss x.var, ss x.attr, ii x.a, ii x.b]
def deNc : List AV → Option Nd
 | [.v (.int .i64 op), .v (.int .i64 n), .v (.string var), .v (.string attr), .v (.int .i64 a), .v (.int .i64 b)] => some ⟨op, n, var, attr, a, b⟩
 | _ => none
theorem deNc_out {l : List AV} {x : Nd} (h : deNc l = some x) : l = ncells x := by
 unfold deNc at h
 split at h
 ·cases h; rfl
 ·cases h
def deN : AV → Option Nd
 | .g l => deNc l
 | _ => none
def nn (x : Nd) : AV := .g (ncells x)
theorem deN_out {x : AV} {e : Nd} (h : deN x = some e) : x = nn e := by
 unfold deN at h
 split at h
 ·rw [deNc_out h]; rfl
 ·cases h
def emB (s : ByteArray) : Bool := s == ByteArray.empty
def bareB (x : Nd) : Bool := decide (x.n = 0) && emB x.var && emB x.attr
def leafB (x : Nd) : Bool := decide (x.a = -1) && decide (x.b = -1) &&
 (if x.op = 1 then decide (0 ≤ x.n) && emB x.var && emB x.attr
  else if x.op = 2 ∨ x.op = 3 then bareB x
  else if x.op = 5 then decide (x.n = 0) && isNameS x.var && emB x.attr
  else if 4 ≤ x.op ∧ x.op ≤ 11 then decide (x.n = 0) && isNameS x.var && isNameS x.attr else false)
def fieldsB (x : Nd) : Bool :=
 (if x.op = 1 then decide (0 ≤ x.n) else decide (x.n = 0)) &&
 (if 4 ≤ x.op ∧ x.op ≤ 11 then isNameS x.var else emB x.var) &&
 (if 4 ≤ x.op ∧ x.op ≤ 11 ∧ x.op ≠ 5 then isNameS x.attr else emB x.attr)
def g115 := pure1 deN fun x => bv (fieldsB x)
def tb115 : List (FuncId × (List AV → Heap → PRes)) := [(149, g138)]
theorem p115 : P0 [3] 140 g115 := by
 refine mk1 (S := [3]) (l := tb115) (tb_cons p138 tb_nil) Tryz.func140 rfl (by kernel_rfl) nn (fun x a h => deN_out h) (fun a => rfl) (fun x h n => ?_)
 obtain ⟨op, num, var, attr, a, b⟩ := x
 have h0 : ByteArray.mk #[] = ByteArray.empty := rfl
 have hne : ∀ z : ByteArray, (z != ByteArray.empty) = !(z == ByteArray.empty) := fun _ => rfl
 by_cases ho : op = 1
 ·subst ho
  simp [evv, nn, ncells, ii, ss, bv, tb115, g138, pure1, deS, fieldsB, emB, h0, hne]
  cases (var == ByteArray.empty) <;> cases (attr == ByteArray.empty) <;> simp
  all_goals omega
 by_cases h5 : op = 5
 ·subst h5
  simp [evv, nn, ncells, ii, ss, bv, tb115, g138, pure1, deS, fieldsB, emB, h0, hne]
  cases isNameS var <;> cases (attr == ByteArray.empty) <;> simp
 by_cases hm : 4 ≤ op ∧ op ≤ 11
 ·have hm1 := hm.1
  have hm2 := hm.2
  have h6 : (op != 5) = true := by simpa using h5
  simp [evv, nn, ncells, ii, ss, bv, tb115, g138, pure1, deS, fieldsB, h0, hne, ho, h5, hm1, hm2, h6]
  cases isNameS var <;> cases isNameS attr <;> simp
 ·by_cases hlo : 4 ≤ op
  ·have hhi : ¬ op ≤ 11 := fun h => hm ⟨hlo, h⟩
   simp [evv, nn, ncells, ii, ss, bv, tb115, g138, pure1, deS, fieldsB, emB, h0, hne, ho, h5, hlo, hhi]
   cases (var == ByteArray.empty) <;> cases (attr == ByteArray.empty) <;> simp
  ·simp [evv, nn, ncells, ii, ss, bv, tb115, g138, pure1, deS, fieldsB, emB, h0, hne, ho, h5, hlo]
   cases (var == ByteArray.empty) <;> cases (attr == ByteArray.empty) <;> simp
end Go.Proofs.YtbffkkeieihpdaaGreatDoor

namespace Go.Proofs.YtbffkkeieihpdaaGreatDoor
open Go Go.Eng
def dN : De Nd where
 run _ l := deNc l
 sim _ e := e
def dNs : De (List Nd) := De.sl 6 dN
theorem ns_at {h : Heap} {a : AV} {l : List Nd} (e : rd dNs h a = some l) : (l = [] ∧ (a = .v (.slice none 0 0) ∨ a = .e)) ∨
  ∃ id off k, a = .s id k.ver off l.length ∧ h id = some k ∧ off + l.length * 6 ≤ k.cells.length ∧ ∀ i (hi : i < l.length), (k.cells.drop (off + i * 6)).take 6 = ncells l[i] := by
 rcases sl_at e with h0 | ⟨id, off, k, h1, h2, h3, h4⟩
 ·exact .inl h0
 ·exact .inr ⟨id, off, k, h1, h2, h3, fun i hi => deNc_out (h4 i hi)⟩
theorem ldcs_nd {X : Ctx} {h : Heap} {id ver o : Nat} {k : Blk} {x : Nd} (hk : h id = some k) (he : (k.cells.drop o).take 6 = ncells x) : ldcs X h (.p id ver o) 0 6 = ncells x := by
 have hc : ∀ c y, (ncells x)[c]? = some y → c < 6 → ldc X h (.p id ver o) c = y := fun c y hy hc => by
  simp only [ldc, hk, List.getD_eq_getElem?_getD, cell_of he hy hc, Option.getD_some]
 simp only [ldcs, ncells]
 rw [hc 0 _ rfl (by omega), hc 1 _ rfl (by omega), hc 2 _ rfl (by omega), hc 3 _ rfl (by omega), hc 4 _ rfl (by omega), hc 5 _ rfl (by omega)]
def nd0 : Nd := ⟨0, 0, ByteArray.empty, ByteArray.empty, 0, 0⟩
def depA (d : List Int) (a : Int) (i : Nat) : Int := if 0 ≤ a ∧ a < i then d.getD a.toNat 0 else 0
def depN (d : List Int) (x : Nd) (i : Nat) : Int := if (0 ≤ x.b ∧ x.b < i) ∧ depA d x.a i < d.getD x.b.toNat 0 then d.getD x.b.toNat 0 else depA d x.a i
def deps (t : List Nd) : Nat → List Int
 | 0 => []
 | j + 1 => deps t j ++ [depN (deps t j) (t.getD j nd0) j + 1]
def deepTo (t : List Nd) (j : Nat) : Bool := (List.range j).any fun i => decide (65536 ≤ depN (deps t i) (t.getD i nd0) i)
def deepB (t : List Nd) : Bool := deepTo t t.length
theorem deps_len (t : List Nd) : ∀ j, (deps t j).length = j
 | 0 => rfl
 | j + 1 => by simp [deps, deps_len t j]
theorem deepTo_succ (t : List Nd) (j : Nat) : deepTo t (j + 1) = (deepTo t j || decide (65536 ≤ depN (deps t j) (t.getD j nd0) j)) := by
 simp [deepTo, List.range_succ]
theorem deep_hit {t : List Nd} {j : Nat} (hj : j < t.length) (h : 65536 ≤ depN (deps t j) (t.getD j nd0) j) : deepB t = true := by
 simp only [deepB, deepTo, List.any_eq_true, List.mem_range]
 exact ⟨j, hj, decide_eq_true h⟩
theorem deps_bound {t : List Nd} : ∀ {j : Nat}, deepTo t j = false → ∀ x ∈ deps t j, 0 ≤ x ∧ x ≤ 65536
 | 0, _, x, hx => by simp [deps] at hx
 | j + 1, h, x, hx => by
  rw [deepTo_succ, Bool.or_eq_false_iff] at h
  have ih := deps_bound h.1
  simp only [deps, List.mem_append, List.mem_singleton] at hx
  rcases hx with hx | rfl
  ·exact ih x hx
  ·have h2 := of_decide_eq_false h.2
   have key : ∀ i : Nat, 0 ≤ (deps t j).getD i 0 := fun i => by
    rw [List.getD_eq_getElem?_getD]
    cases e : (deps t j)[i]? with
    | none => simp
    | some y => exact (ih y (List.mem_of_getElem? e)).1
   have : 0 ≤ depN (deps t j) (t.getD j nd0) j := by
    unfold depN depA
    repeat' split
    all_goals first | exact key _ | exact Int.le_refl _
   omega
def deT (h : Heap) : List AV → Option (List Nd)
 | [a] => rd dNs h a
 | _ => none
theorem deT_out {h : Heap} {args : List AV} {q : List Nd} (e : deT h args = some q) : ∃ a, args = [a] ∧ rd dNs h a = some q := by
 unfold deT at e
 split at e
 ·exact ⟨_, rfl, e⟩
 ·cases e
theorem deT_mono (h h' : Heap) (args : List AV) (q : List Nd) (hh : h.le h') (e : deT h args = some q) : deT h' args = some q := by
 obtain ⟨a, rfl, e1⟩ := deT_out e
 simp only [deT, rd_mono hh e1]
def smallT (t : List Nd) : Prop := t.length * 64 ≤ 140737488355328
def G15 := pureH deT smallT fun t => bv (deepB t)
theorem P15 : P0 [] 52 G15 := by
 refine mkH 1 (S := []) (l := []) tb_nil Tryz.func52 rfl (by kernel_rfl) deT_mono (fun h l x e => by obtain ⟨a, rfl, _⟩ := deT_out e; exact Nat.le_refl _) (fun a => rfl) (fun args t h n e hp hn => ?_)
 obtain ⟨a, rfl, e1⟩ := deT_out e
 obtain ⟨s1, s2, s3, s4, s5⟩ := sl_is e1
 have hp' : t.length * 64 ≤ 140737488355328 := hp
 have key : ∀ e : Nat → AV, e 0 = a → awp (cx [] (pfL [])) (Tryz.f52.body.getD .skip) (finQ (cx [] (pfL [])) Tryz.f52 fun z _ _ => z = bv (deepB t)) ⟨e, roH h, n⟩ := fun e q0 => by
  simp [evx, Tryz.f52]
  refine awp_loop (fun s => ∃ j, j ≤ t.length ∧ s.e 0 = a ∧ Own s.h n s.n (s.e 3) j ((deps t j).map ii) 1 ∧ s.e 4 = ii j ∧ agree n (roH h) s.h ∧ n ≤ s.n ∧ deepTo t j = false) (fun s => t.length - (s.e 4).i.toNat) ⟨0, by simp [up, q0, ii, agree_refl, deps, deepTo, Own]⟩ ?_
  rintro e' h' n' ⟨j, hj, q0, hown, q4, hag, hnn, hdp⟩
  simp only [] at q0 hown q4 hag hnn
  by_cases hlt : j < t.length
  ·rcases ns_at e1 with ⟨h0, _⟩ | ⟨id, off, k, rfl, hk, ho, hat⟩
   ·rw [h0] at hlt; simp at hlt
   have hr := hat j hlt
   have ha' := agree_at hn hk hag
   have c4 := cell_of (c := 4) hr rfl (by omega)
   have c5 := cell_of (c := 5) hr rfl (by omega)
   rw [Nat.add_assoc] at c4 c5
   have w4 : off + (j * 6 + 5) ≤ k.cells.length := by omega
   have w5 : off + (j * 6 + 6) ≤ k.cells.length := by omega
   have hw := wrap_nat (j := j) (by unfold big; omega)
   have hg : t.getD j nd0 = t[j] := by rw [List.getD_eq_getElem?_getD, List.getElem?_eq_getElem hlt]; rfl
   have hdl := deps_len t j
   have hds : deps t (j + 1) = deps t j ++ [depN (deps t j) t[j] j + 1] := by rw [deps, hg]
   have hbd := deps_bound hdp
   have hsu := deepTo_succ t j
   rw [hdp, Bool.false_or, hg] at hsu
   have hhit := fun h => deep_hit (t := t) hlt (by rw [hg]; exact h)
   generalize t[j] = x at *
   generalize deps t j = d at *
   have hid : id < n := lt_of hk hn
   have hb3 : (j + 1) * 8 ≤ 140737488355328 := by omega
   have hb4 : j + 1 ≤ 9223372036854775807 := by omega
   obtain ⟨op, num, var, attr, xa, xb⟩ := x
   simp only [] at c4 c5
   have hget : ∀ p : Nat, p < j → d[p]? = some (d.getD p 0) := fun p hp => by
    rw [List.getD_eq_getElem?_getD, List.getElem?_eq_getElem (by omega)]; rfl
   have hbd2 : ∀ p : Nat, p < j → 0 ≤ d.getD p 0 ∧ d.getD p 0 ≤ 65536 := fun p hp => hbd _ (List.mem_of_getElem? (hget p hp))
   have hwm : ∀ m : Int, 0 ≤ m → m ≤ 65536 → IntKind.i64.wrap (m + 1) = m + 1 := fun m h0 h1 => by
    obtain ⟨k, rfl⟩ : ∃ k : Nat, m = k := ⟨m.toNat, by omega⟩
    rw [wrap_nat (by unfold big; omega)]; omega
   -- what the two operands come to
   obtain ⟨mA, hmA, hmA1, hmA2⟩ : ∃ mA : Int, depA d xa j = mA ∧ 0 ≤ mA ∧ mA ≤ 65536 := by
    refine ⟨_, rfl, ?_⟩
    unfold depA
    split
    ·rename_i hA; exact hbd2 _ (by omega)
    ·omega
   have hcl : (d.map ii).length = j := by rw [List.length_map, hdl]
   have hcx : ∀ (p : Nat) (hx : p < (d.map ii).length), (d.map ii)[p] = AV.v (.int .i64 (d.getD p 0)) := fun p hx => by
    have hp : p < d.length := by simpa using hx
    rw [List.getElem_map, List.getD_eq_getElem?_getD, List.getElem?_eq_getElem hp]; rfl
   generalize hcs : d.map ii = cs at *
   by_cases hA : 0 ≤ xa ∧ xa < j
   ·obtain ⟨p, rfl⟩ : ∃ p : Nat, xa = p := ⟨xa.toNat, by omega⟩
    have hpj : p < j := by omega
    have gp := hcx p
    have hpj' : p + 1 ≤ j := hpj
    have hA' : d.getD p 0 = mA := by rw [← hmA, depA, if_pos hA]; simp
    rw [hA'] at gp
    have hA1 : True := trivial
    rcases hown with ⟨hj0, _⟩ | ⟨w, u, q3, hk3, hw1, hw2⟩
    ·omega
    have y4 : n ≤ w := by omega
    have y5 : ¬ w = n' := by omega
    by_cases hB : 0 ≤ xb ∧ xb < j
    ·obtain ⟨q, rfl⟩ : ∃ q : Nat, xb = q := ⟨xb.toNat, by omega⟩
     have hqj : q < j := by omega
     have gq := hcx q
     have hqj' : q + 1 ≤ j := hqj
     have hq2 := hbd2 q hqj
     generalize hB' : d.getD q 0 = mB at *
     by_cases hlt2 : mA < mB
     ·have hN : depN d ⟨op, num, var, attr, p, q⟩ j = mB := by simp only [depN, hmA, Int.toNat_natCast, hB', if_pos (And.intro hB hlt2)]
      by_cases hdeep : 65536 ≤ mB
      ·have hf := hhit (by rw [hN]; exact hdeep)
       simp [evx, q0, q3, q4, ii, hlt, ha', c4, c5, w4, w5, hk3, hcl, hpj, hpj', gp, hqj, hqj', gq, hlt2, hdeep, hf, bv]
      ·simp [evx, q0, q3, q4, ii, hlt, ha', c4, c5, w4, w5, hk3, hcl, hpj, hpj', gp, hqj, hqj', gq, hlt2, hdeep, hwm mB hq2.1 hq2.2, hb3, hb4, hw, y5, agree_up, hag, hnn, y4]
       exact ⟨⟨j + 1, by omega, .inr ⟨w, u + 1, rfl, by rw [up_same, hds, hN, List.map_append, hcs]; rfl, by omega, by omega⟩, by omega, by omega, by rw [hsu, hN]; simp; omega⟩, by omega⟩
     ·have hN : depN d ⟨op, num, var, attr, p, q⟩ j = mA := by simp only [depN, hmA, Int.toNat_natCast, hB', if_neg (fun hx : _ ∧ _ => hlt2 hx.2)]
      by_cases hdeep : 65536 ≤ mA
      ·have hf := hhit (by rw [hN]; exact hdeep)
       simp [evx, q0, q3, q4, ii, hlt, ha', c4, c5, w4, w5, hk3, hcl, hpj, hpj', gp, hqj, hqj', gq, hlt2, hdeep, hf, bv]
      ·simp [evx, q0, q3, q4, ii, hlt, ha', c4, c5, w4, w5, hk3, hcl, hpj, hpj', gp, hqj, hqj', gq, hlt2, hdeep, hwm mA hmA1 hmA2, hb3, hb4, hw, y5, agree_up, hag, hnn, y4]
       exact ⟨⟨j + 1, by omega, .inr ⟨w, u + 1, rfl, by rw [up_same, hds, hN, List.map_append, hcs]; rfl, by omega, by omega⟩, by omega, by omega, by rw [hsu, hN]; simp; omega⟩, by omega⟩
    ·have hN : depN d ⟨op, num, var, attr, p, xb⟩ j = mA := by simp only [depN, hmA, if_neg (fun hx : _ ∧ _ => hB hx.1)]
     have hB1 : 0 ≤ xb → ¬ xb < j := fun h1 h2 => hB ⟨h1, h2⟩
     by_cases hB0 : 0 ≤ xb
     ·have hB2 := hB1 hB0
      by_cases hdeep : 65536 ≤ mA
      ·have hf := hhit (by rw [hN]; exact hdeep)
       simp [evx, q0, q3, q4, ii, hlt, ha', c4, c5, w4, w5, hk3, hcl, hpj, hpj', gp, hB0, hB2, hdeep, hf, bv]
      ·simp [evx, q0, q3, q4, ii, hlt, ha', c4, c5, w4, w5, hk3, hcl, hpj, hpj', gp, hB0, hB2, hdeep, hwm mA hmA1 hmA2, hb3, hb4, hw, y5, agree_up, hag, hnn, y4]
       exact ⟨⟨j + 1, by omega, .inr ⟨w, u + 1, rfl, by rw [up_same, hds, hN, List.map_append, hcs]; rfl, by omega, by omega⟩, by omega, by omega, by rw [hsu, hN]; simp; omega⟩, by omega⟩
     ·have hB2 := hB0
      by_cases hdeep : 65536 ≤ mA
      ·have hf := hhit (by rw [hN]; exact hdeep)
       simp [evx, q0, q3, q4, ii, hlt, ha', c4, c5, w4, w5, hk3, hcl, hpj, hpj', gp, hB0, hdeep, hf, bv]
      ·simp [evx, q0, q3, q4, ii, hlt, ha', c4, c5, w4, w5, hk3, hcl, hpj, hpj', gp, hB0, hdeep, hwm mA hmA1 hmA2, hb3, hb4, hw, y5, agree_up, hag, hnn, y4]
       exact ⟨⟨j + 1, by omega, .inr ⟨w, u + 1, rfl, by rw [up_same, hds, hN, List.map_append, hcs]; rfl, by omega, by omega⟩, by omega, by omega, by rw [hsu, hN]; simp; omega⟩, by omega⟩
   ·have hA' : mA = 0 := by rw [← hmA, depA, if_neg hA]
    subst hA'
    have hw01 : IntKind.i64.wrap 1 = 1 := hwm 0 (by omega) (by omega)
    have hA0 : 0 ≤ xa → ¬ xa < j := fun h1 h2 => hA ⟨h1, h2⟩
    by_cases hA2 : 0 ≤ xa
    ·have hA1 := hA0 hA2
     by_cases hB : 0 ≤ xb ∧ xb < j
     ·obtain ⟨q, rfl⟩ : ∃ q : Nat, xb = q := ⟨xb.toNat, by omega⟩
      rcases hown with ⟨hj0, _⟩ | ⟨w, u, q3, hk3, hw1, hw2⟩
      ·omega
      have y4 : n ≤ w := by omega
      have y5 : ¬ w = n' := by omega
      have hqj : q < j := by omega
      have gq := hcx q
      have hqj' : q + 1 ≤ j := hqj
      have hq2 := hbd2 q hqj
      generalize hB' : d.getD q 0 = mB at *
      by_cases hlt2 : 0 < mB
      ·have hN : depN d ⟨op, num, var, attr, xa, q⟩ j = mB := by simp only [depN, hmA, Int.toNat_natCast, hB', if_pos (And.intro hB hlt2)]
       by_cases hdeep : 65536 ≤ mB
       ·have hf := hhit (by rw [hN]; exact hdeep)
        simp [evx, q0, q3, q4, ii, hlt, ha', c4, c5, w4, w5, hk3, hcl, hA1, hqj, hqj', gq, hlt2, hdeep, hf, bv]
       ·simp [evx, q0, q3, q4, ii, hlt, ha', c4, c5, w4, w5, hk3, hcl, hA1, hqj, hqj', gq, hlt2, hdeep, hwm mB hq2.1 hq2.2, hb3, hb4, hw, y5, agree_up, hag, hnn, y4]
        exact ⟨⟨j + 1, by omega, .inr ⟨w, u + 1, rfl, by rw [up_same, hds, hN, List.map_append, hcs]; rfl, by omega, by omega⟩, by omega, by omega, by rw [hsu, hN]; simp; omega⟩, by omega⟩
      ·have hN : depN d ⟨op, num, var, attr, xa, q⟩ j = 0 := by simp only [depN, hmA, Int.toNat_natCast, hB', if_neg (fun hx : _ ∧ _ => hlt2 hx.2)]
       simp [evx, q0, q3, q4, ii, hlt, ha', c4, c5, w4, w5, hk3, hcl, hA1, hqj, hqj', gq, hlt2, hw01, hb3, hb4, hw, y5, agree_up, hag, hnn, y4]
       exact ⟨⟨j + 1, by omega, .inr ⟨w, u + 1, rfl, by rw [up_same, hds, hN, List.map_append, hcs]; rfl, by omega, by omega⟩, by omega, by omega, by rw [hsu, hN]; rfl⟩, by omega⟩
     ·have hN : depN d ⟨op, num, var, attr, xa, xb⟩ j = 0 := by simp only [depN, hmA, if_neg (fun hx : _ ∧ _ => hB hx.1)]
      have hB1 : 0 ≤ xb → ¬ xb < j := fun h1 h2 => hB ⟨h1, h2⟩
      by_cases hB0 : 0 ≤ xb
      ·have hB2 := hB1 hB0
       rcases hown with ⟨hj0, hnil, q3⟩ | ⟨w, u, q3, hk3, hw1, hw2⟩
       ·have nn1 : n ≤ n' + 1 := by omega
        have hb3 : j * 8 + 8 ≤ 140737488355328 := by omega
        simp [evx, q0, q3, q4, ii, hlt, ha', c4, c5, w4, w5, hA1, hB0, hB2, hw01, hw, agree_up, hag, hnn, nn1]
        exact ⟨⟨j + 1, by omega, .inr ⟨n' + 1, 0, by rw [hj0], by rw [up_same, hds, hN, List.map_append, hcs, hnil]; rfl, by omega, by omega⟩, by omega, by omega, by rw [hsu, hN]; rfl⟩, by omega⟩
       ·have y4 : n ≤ w := by omega
        have y5 : ¬ w = n' := by omega
        simp [evx, q0, q3, q4, ii, hlt, ha', c4, c5, w4, w5, hk3, hcl, hA1, hB0, hB2, hw01, hb3, hb4, hw, y5, agree_up, hag, hnn, y4]
        exact ⟨⟨j + 1, by omega, .inr ⟨w, u + 1, rfl, by rw [up_same, hds, hN, List.map_append, hcs]; rfl, by omega, by omega⟩, by omega, by omega, by rw [hsu, hN]; rfl⟩, by omega⟩
      ·have hB2 := hB0
       rcases hown with ⟨hj0, hnil, q3⟩ | ⟨w, u, q3, hk3, hw1, hw2⟩
       ·have nn1 : n ≤ n' + 1 := by omega
        have hb3 : j * 8 + 8 ≤ 140737488355328 := by omega
        simp [evx, q0, q3, q4, ii, hlt, ha', c4, c5, w4, w5, hA1, hB0, hw01, hw, agree_up, hag, hnn, nn1]
        exact ⟨⟨j + 1, by omega, .inr ⟨n' + 1, 0, by rw [hj0], by rw [up_same, hds, hN, List.map_append, hcs, hnil]; rfl, by omega, by omega⟩, by omega, by omega, by rw [hsu, hN]; rfl⟩, by omega⟩
       ·have y4 : n ≤ w := by omega
        have y5 : ¬ w = n' := by omega
        simp [evx, q0, q3, q4, ii, hlt, ha', c4, c5, w4, w5, hk3, hcl, hA1, hB0, hw01, hb3, hb4, hw, y5, agree_up, hag, hnn, y4]
        exact ⟨⟨j + 1, by omega, .inr ⟨w, u + 1, rfl, by rw [up_same, hds, hN, List.map_append, hcs]; rfl, by omega, by omega⟩, by omega, by omega, by rw [hsu, hN]; rfl⟩, by omega⟩
    ·have hA1 := hA2
     by_cases hB : 0 ≤ xb ∧ xb < j
     ·obtain ⟨q, rfl⟩ : ∃ q : Nat, xb = q := ⟨xb.toNat, by omega⟩
      rcases hown with ⟨hj0, _⟩ | ⟨w, u, q3, hk3, hw1, hw2⟩
      ·omega
      have y4 : n ≤ w := by omega
      have y5 : ¬ w = n' := by omega
      have hqj : q < j := by omega
      have gq := hcx q
      have hqj' : q + 1 ≤ j := hqj
      have hq2 := hbd2 q hqj
      generalize hB' : d.getD q 0 = mB at *
      by_cases hlt2 : 0 < mB
      ·have hN : depN d ⟨op, num, var, attr, xa, q⟩ j = mB := by simp only [depN, hmA, Int.toNat_natCast, hB', if_pos (And.intro hB hlt2)]
       by_cases hdeep : 65536 ≤ mB
       ·have hf := hhit (by rw [hN]; exact hdeep)
        simp [evx, q0, q3, q4, ii, hlt, ha', c4, c5, w4, w5, hk3, hcl, hA1, hqj, hqj', gq, hlt2, hdeep, hf, bv]
       ·simp [evx, q0, q3, q4, ii, hlt, ha', c4, c5, w4, w5, hk3, hcl, hA1, hqj, hqj', gq, hlt2, hdeep, hwm mB hq2.1 hq2.2, hb3, hb4, hw, y5, agree_up, hag, hnn, y4]
        exact ⟨⟨j + 1, by omega, .inr ⟨w, u + 1, rfl, by rw [up_same, hds, hN, List.map_append, hcs]; rfl, by omega, by omega⟩, by omega, by omega, by rw [hsu, hN]; simp; omega⟩, by omega⟩
      ·have hN : depN d ⟨op, num, var, attr, xa, q⟩ j = 0 := by simp only [depN, hmA, Int.toNat_natCast, hB', if_neg (fun hx : _ ∧ _ => hlt2 hx.2)]
       simp [evx, q0, q3, q4, ii, hlt, ha', c4, c5, w4, w5, hk3, hcl, hA1, hqj, hqj', gq, hlt2, hw01, hb3, hb4, hw, y5, agree_up, hag, hnn, y4]
       exact ⟨⟨j + 1, by omega, .inr ⟨w, u + 1, rfl, by rw [up_same, hds, hN, List.map_append, hcs]; rfl, by omega, by omega⟩, by omega, by omega, by rw [hsu, hN]; rfl⟩, by omega⟩
     ·have hN : depN d ⟨op, num, var, attr, xa, xb⟩ j = 0 := by simp only [depN, hmA, if_neg (fun hx : _ ∧ _ => hB hx.1)]
      have hB1 : 0 ≤ xb → ¬ xb < j := fun h1 h2 => hB ⟨h1, h2⟩
      by_cases hB0 : 0 ≤ xb
      ·have hB2 := hB1 hB0
       rcases hown with ⟨hj0, hnil, q3⟩ | ⟨w, u, q3, hk3, hw1, hw2⟩
       ·have nn1 : n ≤ n' + 1 := by omega
        have hb3 : j * 8 + 8 ≤ 140737488355328 := by omega
        simp [evx, q0, q3, q4, ii, hlt, ha', c4, c5, w4, w5, hA1, hB0, hB2, hw01, hw, agree_up, hag, hnn, nn1]
        exact ⟨⟨j + 1, by omega, .inr ⟨n' + 1, 0, by rw [hj0], by rw [up_same, hds, hN, List.map_append, hcs, hnil]; rfl, by omega, by omega⟩, by omega, by omega, by rw [hsu, hN]; rfl⟩, by omega⟩
       ·have y4 : n ≤ w := by omega
        have y5 : ¬ w = n' := by omega
        simp [evx, q0, q3, q4, ii, hlt, ha', c4, c5, w4, w5, hk3, hcl, hA1, hB0, hB2, hw01, hb3, hb4, hw, y5, agree_up, hag, hnn, y4]
        exact ⟨⟨j + 1, by omega, .inr ⟨w, u + 1, rfl, by rw [up_same, hds, hN, List.map_append, hcs]; rfl, by omega, by omega⟩, by omega, by omega, by rw [hsu, hN]; rfl⟩, by omega⟩
      ·have hB2 := hB0
       rcases hown with ⟨hj0, hnil, q3⟩ | ⟨w, u, q3, hk3, hw1, hw2⟩
       ·have nn1 : n ≤ n' + 1 := by omega
        have hb3 : j * 8 + 8 ≤ 140737488355328 := by omega
        simp [evx, q0, q3, q4, ii, hlt, ha', c4, c5, w4, w5, hA1, hB0, hw01, hw, agree_up, hag, hnn, nn1]
        exact ⟨⟨j + 1, by omega, .inr ⟨n' + 1, 0, by rw [hj0], by rw [up_same, hds, hN, List.map_append, hcs, hnil]; rfl, by omega, by omega⟩, by omega, by omega, by rw [hsu, hN]; rfl⟩, by omega⟩
       ·have y4 : n ≤ w := by omega
        have y5 : ¬ w = n' := by omega
        simp [evx, q0, q3, q4, ii, hlt, ha', c4, c5, w4, w5, hk3, hcl, hA1, hB0, hw01, hb3, hb4, hw, y5, agree_up, hag, hnn, y4]
        exact ⟨⟨j + 1, by omega, .inr ⟨w, u + 1, rfl, by rw [up_same, hds, hN, List.map_append, hcs]; rfl, by omega, by omega⟩, by omega, by omega, by rw [hsu, hN]; rfl⟩, by omega⟩
  ·obtain rfl : j = t.length := by omega
   have hf : deepB t = false := hdp
   simp [evx, q0, q4, ii, s1, s2, hf, bv]
 exact key _ rfl
end Go.Proofs.YtbffkkeieihpdaaGreatDoor

namespace Go.Proofs.YtbffkkeieihpdaaGreatDoor
open Go Go.Eng
structure It where
 neg : Bool
 types : List ByteArray
 var : ByteArray
 lo : Int
 hi : Int
def dSs : De (List ByteArray) := De.sl 1 De.str
def deItc (h : Heap) : List AV → Option It
 | [.v (.bool neg), ty, .v (.string var), .v (.int .i64 lo), .v (.int .i64 hi)] => (rd dSs h ty).map fun tys => ⟨neg, tys, var, lo, hi⟩
 | _ => none
theorem deItc_out {h : Heap} {l : List AV} {x : It} (e : deItc h l = some x) : ∃ ty, l = [bv x.neg, ty, ss x.var, ii x.lo, ii x.hi] ∧ rd dSs h ty = some x.types := by
 unfold deItc at e
 split at e
 ·simp only [Option.map_eq_some_iff] at e
  obtain ⟨t, h1, rfl⟩ := e
  exact ⟨_, rfl, h1⟩
 ·cases e
theorem deItc_in {h : Heap} {ty : AV} {x : It} (e : rd dSs h ty = some x.types) : deItc h [bv x.neg, ty, ss x.var, ii x.lo, ii x.hi] = some x := by
 simp only [deItc, bv, ss, ii, e, Option.map_some]
def dIt : De It where
 run h l := deItc h l
 sim {h h' l x} hh e := by
  obtain ⟨ty, rfl, h1⟩ := deItc_out e
  exact deItc_in (rd_sim hh h1)
def dIts : De (List It) := De.sl 5 dIt
theorem its_at {h : Heap} {a : AV} {l : List It} (e : rd dIts h a = some l) : (l = [] ∧ (a = .v (.slice none 0 0) ∨ a = .e)) ∨
  ∃ id off k, a = .s id k.ver off l.length ∧ h id = some k ∧ off + l.length * 5 ≤ k.cells.length ∧ ∀ i (hi : i < l.length), k.cells[off + (i * 5 + 2)]? = some (ss l[i].var) := by
 rcases sl_at e with h0 | ⟨id, off, k, h1, h2, h3, h4⟩
 ·exact .inl h0
 ·refine .inr ⟨id, off, k, h1, h2, h3, fun i hi => ?_⟩
  obtain ⟨ty, h5, _⟩ := deItc_out (h4 i hi)
  have := cell_of (c := 2) h5 rfl (by omega)
  rwa [Nat.add_assoc] at this
def dNss : De (List (List Nd)) := De.sl 1 dNs
structure Qu where
 items : List It
 mode : Int
 after : Int
 wh : List Nd
 within : Int
 par : ByteArray
 ret : List (List Nd)
def deQ (h : Heap) : AV → Option Qu
 | .g [a, .v (.int .i64 m), .v (.int .i64 f), b, .v (.int .i64 w), .v (.string p), c] => match rd dIts h a, rd dNs h b, rd dNss h c with
  | some x, some y, some z => some ⟨x, m, f, y, w, p, z⟩
  | _, _, _ => none
 | _ => none
theorem deQ_out {h : Heap} {x : AV} {q : Qu} (e : deQ h x = some q) : ∃ a b c, x = .g [a, ii q.mode, ii q.after, b, ii q.within, ss q.par, c] ∧ rd dIts h a = some q.items ∧ rd dNs h b = some q.wh ∧ rd dNss h c = some q.ret := by
 unfold deQ at e
 split at e
 ·split at e
  ·rename_i e1 e2 e3
   cases e
   exact ⟨_, _, _, rfl, e1, e2, e3⟩
  ·cases e
 ·cases e
theorem deQ_in {h : Heap} {a b c : AV} {q : Qu} (h1 : rd dIts h a = some q.items) (h2 : rd dNs h b = some q.wh) (h3 : rd dNss h c = some q.ret) : deQ h (.g [a, ii q.mode, ii q.after, b, ii q.within, ss q.par, c]) = some q := by
 simp only [deQ, ii, ss, h1, h2, h3]
theorem deQ_sim {h h' : Heap} (hh : h.sim h') {x : AV} {q : Qu} (e : deQ h x = some q) : deQ h' x = some q := by
 obtain ⟨a, b, c, rfl, e1, e2, e3⟩ := deQ_out e
 exact deQ_in (rd_sim hh e1) (rd_sim hh e2) (rd_sim hh e3)
theorem q_agree {h : Heap} {n : Nat} {a : AV} {x : Qu} (hn : ∀ i, n ≤ i → h i = none) (e : deQ h a = some x) : ∀ h', agree n (roH h) h' → deQ h' a = some x := fun _ ha => deQ_sim (agree_sim hn ha) e
theorem fi_hit {l : List ByteArray} {v : ByteArray} {j : Nat} (hj : j < l.length) (hno : ∀ i, i < j → (l.getD i ByteArray.empty == v) = false) (hh : (l.getD j ByteArray.empty == v) = true) : l.findIdx (· == v) = j := by
 rw [List.findIdx_eq hj]
 have hg : ∀ i (hi : i < l.length), l.getD i ByteArray.empty = l[i] := fun i hi => by rw [List.getD_eq_getElem?_getD, List.getElem?_eq_getElem hi]; rfl
 refine ⟨by rw [hg j hj] at hh; exact hh, fun i hi => ?_⟩
 have := hno i hi
 rw [hg i (by omega)] at this
 exact this
theorem fi_none {l : List ByteArray} {v : ByteArray} (hno : ∀ i, i < l.length → (l.getD i ByteArray.empty == v) = false) : l.findIdx (· == v) = l.length := by
 rw [List.findIdx_eq_length]
 intro x hx
 obtain ⟨i, hi, rfl⟩ := List.mem_iff_getElem.1 hx
 have := hno i hi
 rw [List.getD_eq_getElem?_getD, List.getElem?_eq_getElem hi] at this
 exact this
def vars (l : List It) : List ByteArray := l.map (·.var)
def ixOf (l : List ByteArray) (v : ByteArray) : Int := if l.findIdx (· == v) < l.length then l.findIdx (· == v) else -1
def deQS (h : Heap) : List AV → Option (Qu × ByteArray)
 | [x, .v (.string v)] => (deQ h x).map fun q => (q, v)
 | _ => none
theorem deQS_out {h : Heap} {args : List AV} {q : Qu × ByteArray} (e : deQS h args = some q) : ∃ x, args = [x, ss q.2] ∧ deQ h x = some q.1 := by
 unfold deQS at e
 split at e
 ·simp only [Option.map_eq_some_iff] at e
  obtain ⟨t, h1, rfl⟩ := e
  exact ⟨_, rfl, h1⟩
 ·cases e
theorem deQS_in {h : Heap} {x : AV} {q : Qu} {v : ByteArray} (e : deQ h x = some q) : deQS h [x, .v (.string v)] = some (q, v) := by simp only [deQS, e, Option.map_some]
theorem deQS_mono (h h' : Heap) (args : List AV) (q : Qu × ByteArray) (hh : h.le h') (e : deQS h args = some q) : deQS h' args = some q := by
 obtain ⟨x, rfl, e1⟩ := deQS_out e
 exact deQS_in (deQ_sim hh.sim e1)
def G91 := pureH deQS (fun q => q.1.items.length < big) fun q => .t [ii (if ixOf (vars q.1.items) q.2 < 0 then 0 else ixOf (vars q.1.items) q.2), bv (decide (0 ≤ ixOf (vars q.1.items) q.2))]
theorem P91 : P0 [] 162 G91 := by
 refine mkH 2 (S := []) (l := []) tb_nil Tryz.func162 rfl (by kernel_rfl) deQS_mono (fun h l x e => by obtain ⟨a, rfl, _⟩ := deQS_out e; exact Nat.le_refl _) (fun a => rfl) (fun args q h n e hp hn => ?_)
 obtain ⟨x, rfl, e1⟩ := deQS_out e
 obtain ⟨a, b, c, rfl, e2, e3, e4⟩ := deQ_out e1
 obtain ⟨q, v⟩ := q
 simp only [] at e2 e3 e4 hp ⊢
 obtain ⟨s1, s2, s3, s4, s5⟩ := sl_is e2
 have hl : (vars q.items).length = q.items.length := by simp [vars]
 have o2 := (sl_is e3).2.2.2.1
 have o3 := (sl_is e4).2.2.2.1
 have hgv : ∀ j (hj : j < q.items.length), (vars q.items).getD j ByteArray.empty = q.items[j].var := fun j hj => by rw [List.getD_eq_getElem?_getD, vars, List.getElem?_map, List.getElem?_eq_getElem hj]; rfl
 have key : ∀ e : Nat → AV, e 0 = .g [a, ii q.mode, ii q.after, b, ii q.within, ss q.par, c] → e 1 = ss v → awp (cx [] (pfL [])) (Tryz.f162.body.getD .skip) (finQ (cx [] (pfL [])) Tryz.f162 fun z _ _ => z = .t [ii (if ixOf (vars q.items) v < 0 then 0 else ixOf (vars q.items) v), bv (decide (0 ≤ ixOf (vars q.items) v))]) ⟨e, roH h, n⟩ := fun e q0 q1 => by
  simp [evx, Tryz.f162, q0, ii, ss, s1, s2, s4, o2, o3]
  refine awp_loop (fun s => ∃ j : Nat, j ≤ q.items.length ∧ s.e 1 = ss v ∧ s.e 2 = .p n 0 0 ∧ s.e 9 = ii q.items.length ∧ s.e 10 = ii j ∧ agree n (roH h) s.h ∧ s.h n = some ⟨[a, ii q.mode, ii q.after, b, ii q.within, ss q.par, c], 0, true, 7⟩ ∧ ∀ i, i < j → ((vars q.items).getD i ByteArray.empty == v) = false) (fun s => q.items.length - (s.e 10).i.toNat) ⟨0, by simp [up, q1, ii, ss, agree_up, agree_refl]⟩ ?_
  rintro e' h' n' ⟨j, hj, q1, q2, q9, q10, hag, hbk, hno⟩
  simp only [] at q1 q2 q9 q10 hag hbk
  by_cases hlt : j < q.items.length
  ·rcases its_at e2 with ⟨h0, _⟩ | ⟨id, off, k, rfl, hk, ho, hat⟩
   ·rw [h0] at hlt; simp at hlt
   have hr := hat j hlt
   have ha' := agree_at hn hk hag
   have hw := wrap_nat (j := j) (by omega)
   have hw1 : off + (j * 5 + 3) ≤ k.cells.length := by omega
   have hgj := hgv j hlt
   generalize q.items[j].var = y at *
   cases hy : (y == v) with
   | true =>
    have hf := fi_hit (v := v) (by rw [hl]; exact hlt) hno (by rw [hgj]; exact hy)
    have h1 : ixOf (vars q.items) v = (j : Int) := by rw [ixOf, hf, if_pos (by rw [hl]; exact hlt)]
    have h2 : ¬ (j : Int) < 0 := by omega
    simp [evx, q1, q2, q9, q10, ii, ss, hlt, hbk, ha', hr, hw1, hy, h1, h2, bv]
   | false =>
    simp [evx, q1, q2, q9, q10, ii, ss, hlt, hbk, ha', hr, hw1, hy, hw, hag]
    refine ⟨⟨j + 1, by omega, by omega, fun i hi => ?_⟩, by omega⟩
    by_cases e : i = j
    ·subst e; rw [← List.getD_eq_getElem?_getD, hgj]; exact hy
    ·have := hno i (by omega); rwa [List.getD_eq_getElem?_getD] at this
  ·obtain rfl : j = q.items.length := by omega
   have hf := fi_none (v := v) (l := vars q.items) (by rw [hl]; exact hno)
   have h1 : ixOf (vars q.items) v = -1 := by rw [ixOf, hf, if_neg (by omega)]
   simp [evx, q9, q10, ii, h1, bv]
 exact key _ rfl rfl
end Go.Proofs.YtbffkkeieihpdaaGreatDoor
