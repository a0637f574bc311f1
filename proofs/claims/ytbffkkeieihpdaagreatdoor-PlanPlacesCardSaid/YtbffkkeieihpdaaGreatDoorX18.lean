import Derived.Test.YtbffkkeieihpdaaGreatDoorX17
import Derived.Test.YtbffkkeieihpdaaGreatDoorX16
import Derived.Test.YtbffkkeieihpdaaGreatDoorX15
set_option linter.unusedSimpArgs false
set_option linter.unusedVariables false
set_option linter.constructorNameAsVariable false
set_option maxRecDepth 100000
set_option maxHeartbeats 4000000
namespace Go.Proofs.YtbffkkeieihpdaaGreatDoor
open Go Go.Eng
def parT (t : List Nd) (j : Nat) : Option Nat := (List.range t.length).find? fun i => decide (25 ≤ (t.getD i nd0).op) && decide ((t.getD i nd0).a = (j : Int))
def posT (t : List Nd) : Nat → Nat
 | 0 => 0
 | k + 1 => posT t k + 1 + if (parT t k).isSome = true then 1 else 0
def layT (t : List Nd) (f g : Nat → Ins) : Nat → List Ins
 | 0 => []
 | k + 1 => layT t f g k ++ f k :: if (parT t k).isSome = true then [g k] else []
def zI : Ins := ⟨0, 0, 0, 0, 0⟩
section
variable {t : List Nd}
theorem lay_len (f g : Nat → Ins) : ∀ n, (layT t f g n).length = posT t n
 | 0 => rfl
 | n + 1 => by
  simp only [layT, posT, List.length_append, lay_len f g n, List.length_cons]
  split <;> simp
theorem lay_ext {f f' g g' : Nat → Ins} : ∀ n, (∀ j, j < n → f j = f' j) → (∀ j, j < n → (parT t j).isSome = true → g j = g' j) → layT t f g n = layT t f' g' n
 | 0, _, _ => rfl
 | n + 1, h1, h2 => by
  simp only [layT, lay_ext n (fun j hj => h1 j (by omega)) (fun j hj => h2 j (by omega)), h1 n (by omega)]
  split
  ·rename_i h; rw [h2 n (by omega) h]
  ·rfl
theorem pos_lt {k : Nat} : ∀ {n : Nat}, k < n → posT t k + 1 + (if (parT t k).isSome = true then 1 else 0) ≤ posT t n
 | 0, h => by omega
 | n + 1, h => by
  by_cases e : k = n
  ·subst e; exact Nat.le_refl _
  ·have := pos_lt (k := k) (n := n) (by omega)
   simp only [posT]
   omega
def updF (f : Nat → Ins) (k : Nat) (x : Ins) : Nat → Ins := fun j => if j = k then x else f j
theorem lay_setj {f g : Nat → Ins} {k : Nat} (x : Ins) (hp : (parT t k).isSome = true) : ∀ {n : Nat}, k < n → (layT t f g n).set (posT t k + 1) x = layT t f (updF g k x) n
 | 0, h => by omega
 | n + 1, h => by
  simp only [layT]
  by_cases e : k = n
  ·subst e
   rw [List.set_append_right _ _ (by rw [lay_len]; omega), lay_len, Nat.add_sub_cancel_left, if_pos hp, if_pos hp, List.set_cons_succ, List.set_cons_zero]
   rw [lay_ext (f' := f) (g' := updF g k x) k (fun _ _ => rfl) (fun j hj _ => by simp only [updF]; rw [if_neg (by omega)])]
   simp [updF]
  ·have hl := pos_lt (t := t) (k := k) (n := n) (by omega)
   rw [if_pos hp] at hl
   rw [List.set_append_left _ _ (by rw [lay_len]; omega), lay_setj x hp (by omega)]
   have : updF g k x n = g n := by simp only [updF]; rw [if_neg (fun h => e h.symm)]
   rw [this]
theorem par_is {i j : Nat} (h : parT t j = some i) : ∃ hi : i < t.length, 25 ≤ t[i].op ∧ t[i].a = (j : Int) := by
 unfold parT at h
 have h1 := List.mem_of_find?_eq_some h
 have h2 := List.find?_some h
 have hi : i < t.length := by simpa using h1
 have hg : t.getD i nd0 = t[i] := by rw [List.getD_eq_getElem?_getD, List.getElem?_eq_getElem hi]; rfl
 rw [hg] at h2
 simp only [Bool.and_eq_true, decide_eq_true_eq] at h2
 exact ⟨hi, h2⟩
variable {lo : Nat → Nat} (T : Tre t lo)
include T
theorem par_at {i j : Nat} (hi : i < t.length) (ho : 25 ≤ t[i].op) (ha : t[i].a = (j : Int)) : parT t j = some i := by
 have hg : t.getD i nd0 = t[i] := by rw [List.getD_eq_getElem?_getD, List.getElem?_eq_getElem hi]; rfl
 cases h : parT t j with
 | none =>
  unfold parT at h
  rw [List.find?_eq_none] at h
  have := h i (List.mem_range.2 hi)
  rw [hg, ha] at this
  simp [ho] at this
 | some k =>
  obtain ⟨hk, h1, h2⟩ := par_is h
  rw [par_one T hi hk (by omega) (by omega) ha h2]
theorem par_nl {i : Nat} (hi : i < t.length) (ho : 12 ≤ t[i].op) : parT t (i - 1) = none := by
 cases h : parT t (i - 1) with
 | none => rfl
 | some k =>
  obtain ⟨hk, h1, h2⟩ := par_is h
  exact (last_nl T hi hk ho (by omega) h2).elim
theorem par_na {i a : Nat} (hi : i < t.length) (ho : 14 ≤ t[i].op) (h25 : t[i].op < 25) (ha : t[i].a = (a : Int)) : parT t a = none := by
 cases h : parT t a with
 | none => rfl
 | some k =>
  obtain ⟨hk, h1, h2⟩ := par_is h
  have := par_one T hi hk ho (by omega) ha h2
  subst this
  omega
theorem par_root : parT t (t.length - 1) = none := by
 cases h : parT t (t.length - 1) with
 | none => rfl
 | some k =>
  obtain ⟨hk, h1, h2⟩ := par_is h
  have := T.pos
  rcases T.kind k hk with ⟨_, _, _⟩ | ⟨_, _⟩ | ⟨_, _, c1, c2, a2, c3, c4, c5⟩
  ·omega
  ·omega
  ·have := T.le (k - 1) (by omega)
   omega
theorem pos_end : posT t t.length = posT t (t.length - 1) + 1 := by
 have := T.pos
 obtain ⟨m, hm⟩ : ∃ m, t.length = m + 1 := ⟨t.length - 1, by omega⟩
 have hr := par_root T
 rw [hm, Nat.add_sub_cancel] at hr ⊢
 simp [posT, hr]
theorem pos_un {i : Nat} (hi : i < t.length) (ho : 12 ≤ t[i].op) (h1 : 1 ≤ i) : posT t i = posT t (i - 1) + 1 := by
 obtain ⟨m, rfl⟩ : ∃ m, i = m + 1 := ⟨i - 1, by omega⟩
 have hr := par_nl T hi ho
 rw [Nat.add_sub_cancel] at hr ⊢
 simp [posT, hr]
theorem pos_sk {i a : Nat} (hi : i < t.length) (ho : 14 ≤ t[i].op) (ha : t[i].a = (a : Int)) : posT t (a + 1) = posT t a + if 25 ≤ t[i].op then 2 else 1 := by
 by_cases h : 25 ≤ t[i].op
 ·have := par_at T hi h ha
  simp [posT, this, h]
 ·have := par_na T hi ho (by omega) ha
  simp [posT, this, h]
theorem few_to : ∀ (k i : Nat), i = k → i < t.length → 2 * (posT t i - posT t (lo i)) ≤ 3 * (i - lo i) ∧ posT t (lo i) ≤ posT t i := by
 intro k
 induction k using Nat.strongRecOn with
 | _ k ih =>
  rintro i rfl hi
  rcases T.kind i hi with ⟨_, _, _, _, b⟩ | ⟨b0, b1, _, _, b⟩ | ⟨b0, _, b1, _, a, b2, b3, b⟩
  ·rw [b]; omega
  ·have h1 := pos_un T hi (by omega) b1
   obtain ⟨h2, h3⟩ := ih (i - 1) (by omega) _ rfl (by omega)
   have := T.le (i - 1) (by omega)
   rw [b]; omega
  ·have h1 := pos_un T hi (by omega) b1
   have h4 := pos_sk T hi b0 b2
   have hle := T.le (i - 1) (by omega)
   have hla := T.le a (by omega)
   obtain ⟨h2, h3⟩ := ih (i - 1) (by omega) _ rfl (by omega)
   obtain ⟨h5, h6⟩ := ih a (by omega) _ rfl (by omega)
   rw [b3] at h2 h3
   rw [b]
   split at h4 <;> omega
theorem few : 2 * posT t t.length ≤ 3 * t.length := by
 have h1 := pos_end T
 have := T.pos
 obtain ⟨h2, h3⟩ := few_to T _ _ rfl (show t.length - 1 < t.length by omega)
 rw [T.root] at h2
 simp only [posT] at h2
 omega
end
def szT (t : List Nd) (lo : Nat → Nat) (i : Nat) : Int := (posT t i : Int) - posT t (lo i) + 1
section
variable {t : List Nd} {lo : Nat → Nat} (T : Tre t lo)
include T
theorem sz_bin {i : Nat} (hi : i < t.length) (ho : 14 ≤ t[i].op) : 0 ≤ t[i].a ∧ t[i].a < i ∧ 0 ≤ t[i].b ∧ t[i].b < i ∧ t[i].a ≠ t[i].b ∧
  szT t lo i = szT t lo t[i].a.toNat + szT t lo t[i].b.toNat + (if 25 ≤ t[i].op then 2 else 1) ∧ posT t (lo t[i].a.toNat) = posT t (lo i) ∧
  (posT t (lo t[i].b.toNat) : Int) = posT t t[i].a.toNat + (if 25 ≤ t[i].op then 2 else 1) ∧ (posT t (lo i) : Int) + szT t lo t[i].a.toNat = posT t t[i].a.toNat + 1 := by
 rcases T.kind i hi with ⟨_, b0, _⟩ | ⟨b0, b1, b2, _, b⟩ | ⟨b0, _, b1, b2, a, b3, b4, b⟩
 ·omega
 ·omega
 ·have h1 := pos_un T hi (by omega) b1
  have h2 := pos_sk T hi ho b3
  have hle := T.le (i - 1) (by omega)
  have e : t[i].b.toNat = i - 1 := by omega
  have e2 : t[i].a.toNat = a := by omega
  rw [e, e2, b4]
  unfold szT
  rw [b, b4]
  refine ⟨by omega, by omega, by omega, by omega, by omega, ?_, rfl, ?_, by omega⟩
  ·split at h2 <;> (rename_i h; simp only [h, if_true, if_false] <;> omega)
  ·split at h2 <;> (rename_i h; simp only [h, if_true, if_false] <;> omega)
theorem tree_op {i : Nat} (hi : i < t.length) : 1 ≤ t[i].op ∧ t[i].op ≤ 26 := by
 rcases T.kind i hi with ⟨_, b0, _⟩ | ⟨b0, _⟩ | ⟨b0, _⟩ <;> omega
end
end Go.Proofs.YtbffkkeieihpdaaGreatDoor

namespace Go.Proofs.YtbffkkeieihpdaaGreatDoor
open Go Go.Eng
def sid : AV → Nat → Prop
 | .s id _ _ _, b => id = b
 | _, _ => False
def Ear (cs : List AV) (i b : Nat) : Prop := ∃ j c, j < i ∧ cs[j]? = some c ∧ sid c b
def mpc (names : List ByteArray) : List AV := names.zipIdx.flatMap fun p => [ss p.1, ii p.2]
def KC (h : Heap) (G : Nat → Prop) (hi : Nat) (bad : Nat → Prop) (c : AV) (l : List Int) : Prop :=
 (l = [] ∧ c = .v (.slice none 0 0)) ∨ ∃ b v, c = .s b v 0 l.length ∧ h b = some ⟨l.map ii, v, true, 1⟩ ∧ G b ∧ b < hi ∧ ¬ bad b
theorem KC.up {h h' : Heap} {G : Nat → Prop} {hi hi' : Nat} {bad bad' : Nat → Prop} {c : AV} {l : List Int} (k : KC h G hi bad c l) (hh : ∀ q, G q → q < hi → ¬ bad q → h' q = h q) (hb : ∀ q, G q → q < hi → bad' q → bad q) (hi2 : hi ≤ hi') : KC h' G hi' bad' c l := by
 rcases k with h0 | ⟨b, v, k1, k2, k3, k4, k5⟩
 ·exact .inl h0
 ·exact .inr ⟨b, v, k1, by rw [hh b k3 k4 k5]; exact k2, k3, by omega, fun hx => k5 (hb b k3 k4 hx)⟩
def keepG (G : Nat → Prop) (n : Nat) (h h' : Heap) : Prop := ∀ q, q < n → ¬ G q → h' q = h q
structure CS (h : Heap) (G : Nat → Prop) (hi m : Nat) (tys : List Ty) (sa ca la : AV) (mm : Nat) (code : List Ins) (names : List ByteArray) : Prop where
 hm : h m = some ⟨[sa, ca, la, .mv mm 0], 0, true, 4⟩
 m1 : G m ∧ m < hi
 sch : rd dTys h sa = some tys
 hc : (code = [] ∧ ca = .v (.slice none 0 0)) ∨ ∃ w u, ca = .s w u 0 code.length ∧ h w = some ⟨code.flatMap icells, u, true, 5⟩ ∧ G w ∧ w < hi ∧ w ≠ m ∧ w ≠ mm
 hl : (names = [] ∧ la = .v (.slice none 0 0)) ∨ ∃ w u cs, la = .s w u 0 names.length ∧ h w = some ⟨cs, u, true, 1⟩ ∧ G w ∧ w < hi ∧ w ≠ m ∧ w ≠ mm ∧ ¬ sid ca w ∧ cs.length = names.length ∧
  ∀ i (hi' : i < names.length), ∃ c, cs[i]? = some c ∧ KC h G hi (fun b => b = m ∨ b = mm ∨ sid ca b ∨ b = w ∨ Ear cs i b) c (colOf tys names[i])
 mp : h mm = some ⟨mpc names, 0, true, 0⟩
 mm1 : G mm ∧ mm < hi ∧ mm ≠ m
theorem CS.lay {h h' : Heap} {G : Nat → Prop} {n n' m mm : Nat} {tys : List Ty} {sa ca ca' la : AV} {code code' : List Ins} {names : List ByteArray} (c : CS h G n m tys sa ca la mm code names) (hm : h' m = some ⟨[sa, ca', la, .mv mm 0], 0, true, 4⟩) (hsc : rd dTys h' sa = some tys)
  (hoth : ∀ q, G q → q < n → q ≠ m → ¬ sid ca q → h' q = h q) (hn : n ≤ n') (hsid : ∀ q, sid ca' q → sid ca q ∨ n ≤ q) (hc : (code' = [] ∧ ca' = .v (.slice none 0 0)) ∨ ∃ w u, ca' = .s w u 0 code'.length ∧ h' w = some ⟨code'.flatMap icells, u, true, 5⟩ ∧ G w ∧ w < n' ∧ w ≠ m ∧ w ≠ mm) :
  CS h' G n' m tys sa ca' la mm code' names := by
 obtain ⟨x1, x2, x3, x4, x5, x6, x7⟩ := c
 have hmm : ¬ sid ca mm := by
  rcases x4 with ⟨_, rfl⟩ | ⟨w, u, rfl, _, _, _, _, k⟩
  ·exact id
  ·exact fun e => k e
 refine ⟨hm, ⟨x2.1, by omega⟩, hsc, hc, ?_, by rw [hoth mm x7.1 x7.2.1 x7.2.2 hmm]; exact x6, ⟨x7.1, by omega, x7.2.2⟩⟩
 rcases x5 with h0 | ⟨w, u, cs, k1, k2, k3, k4, k5, k6, k7, k8, k9⟩
 ·exact .inl h0
 ·have hw : ∀ q, q < n → sid ca' q → sid ca q := fun q hq hs => (hsid q hs).resolve_right (by omega)
  refine .inr ⟨w, u, cs, k1, by rw [hoth w k3 k4 k5 k7]; exact k2, k3, by omega, k5, k6, fun hs => k7 (hw w k4 hs), k8, fun i hi' => ?_⟩
  obtain ⟨cc, j1, j2⟩ := k9 i hi'
  refine ⟨cc, j1, j2.up (fun q h1 h2 h3 => hoth q h1 h2 (fun e => h3 (.inl e)) (fun e => h3 (.inr (.inr (.inl e))))) (fun q _ hq hx => ?_) hn⟩
  rcases hx with hx | hx | hx | hx | hx
  ·exact .inl hx
  ·exact .inr (.inl hx)
  ·exact .inr (.inr (.inl (hw q hq hx)))
  ·exact .inr (.inr (.inr (.inl hx)))
  ·exact .inr (.inr (.inr (.inr hx)))
theorem c56 {h : Heap} {G : Nat → Prop} {n m mm : Nat} {tys : List Ty} {sa ca la : AV} {code : List Ins} {names : List ByteArray} (c : CS h G n m tys sa ca la mm code names) (i : Ins) (hlen : (code.length + 1) * 40 ≤ 140737488355328) (hG : ∀ q, n ≤ q → G q) (hsc : ∀ h', keepG G n h h' → rd dTys h' sa = some tys) (hn : Fresh n h) :
  ACall (cx [] (pfL [])) 121 [.p m 0 0, iv i] h n fun _ h' n' => keepG G n h h' ∧ Fresh n' h' ∧ n ≤ n' ∧ ∃ ca', CS h' G n' m tys sa ca' la mm (code ++ [i]) names := by
 refine acall_of_awp (args := [.p m 0 0, iv i]) (pfL_ok tb_nil) (mixed _ _) Tryz.func121 (c := Tryz.f121.body.getD .skip) rfl (by kernel_rfl) (callable Tryz.func121 rfl rfl _ _) (show 2 ≤ Tryz.f121.ntmps by decide +kernel) ?_
 obtain ⟨code9, item, icol, iN, ito⟩ := i
 have key : ∀ e : Nat → AV, e 0 = .p m 0 0 → e 1 = iv ⟨code9, item, icol, iN, ito⟩ → awp (cx [] (pfL [])) (Tryz.f121.body.getD .skip) (finQ (cx [] (pfL [])) Tryz.f121 fun _ h' n' => keepG G n h h' ∧ Fresh n' h' ∧ n ≤ n' ∧ ∃ ca', CS h' G n' m tys sa ca' la mm (code ++ [⟨code9, item, icol, iN, ito⟩]) names) ⟨e, h, n⟩ := fun e q0 q1 => by
  have c0 := c
  obtain ⟨hm, m1, hsc0, hc, hl, mp, mm1⟩ := c
  have z1 : ¬ m = n := by omega
  have z2 : ¬ m = n + 1 := by omega
  have z3 : ¬ m = n + 2 := by omega
  have z4 : m < n + 4 := by omega
  have b1 : code.length ≤ 9223372036854775806 := by omega
  have hci : code.flatMap icells ++ icells ⟨code9, item, icol, iN, ito⟩ = (code ++ [(⟨code9, item, icol, iN, ito⟩ : Ins)]).flatMap icells := by simp
  rcases hc with ⟨rfl, rfl⟩ | ⟨w, u, rfl, hw, hw1, hw2, hw3, hw4⟩
  ·have hagH : ∀ b1 b2 b3 b4 : Option Blk, keepG G n h (up (up (up (up h n b1) (n + 1) b2) (n + 2) b3) m b4) := fun b1 b2 b3 b4 q hq hg => by rw [up_ne _ _ (fun e => hg (by rw [e]; exact m1.1)), up_ne _ _ (by omega), up_ne _ _ (by omega), up_ne _ _ (by omega)]
   simp [evx, Tryz.f121, q0, q1, iv, icells, ii, hm, z1, z2, z3, z4, fresh_up, hn.add]
   refine ⟨hagH _ _ _ _, .s (n + 2) 0 0 1, c0.lay (by simp [up]) (hsc _ (hagH _ _ _ _)) (fun q h1 h2 h3 h4 => ?_) (by omega) (fun q hq => .inr (by simp only [sid] at hq; omega)) (.inr ⟨n + 2, 0, rfl, by rw [up_ne _ _ (by omega), up_same]; rfl, hG _ (by omega), by omega, by omega, by omega⟩)⟩
   rw [up_ne _ _ h3, up_ne _ _ (by omega), up_ne _ _ (by omega), up_ne _ _ (by omega)]
  ·have y1 : ¬ w = n := by omega
   have y2 : ¬ w = n + 1 := by omega
   have y3 : ¬ m = w := fun e => hw3 e.symm
   have y4 : w < n + 4 := by omega
   have hcl : (code.flatMap icells).length = code.length * 5 := flat_len Flat.ins code
   generalize code.flatMap icells = cs at *
   have hagH : ∀ b1 b2 b3 b4 : Option Blk, keepG G n h (up (up (up (up h n b1) (n + 1) b2) w b3) m b4) := fun b1 b2 b3 b4 q hq hg => by rw [up_ne _ _ (fun e => hg (by rw [e]; exact m1.1)), up_ne _ _ (fun e => hg (by rw [e]; exact hw1)), up_ne _ _ (by omega), up_ne _ _ (by omega)]
   simp [evx, Tryz.f121, q0, q1, iv, icells, ii, hm, z1, z2, z4, hw, y1, y2, y3, y4, hcl, hlen, b1, fresh_up, hn.add]
   refine ⟨hagH _ _ _ _, .s w (u + 1) 0 (code.length + 1), c0.lay (by simp [up]) (hsc _ (hagH _ _ _ _)) (fun q h1 h2 h3 h4 => ?_) (by omega) (fun q hq => .inl hq) (.inr ⟨w, u + 1, by simp, by rw [up_ne _ _ hw3, up_same, ← hci]; rfl, hw1, by omega, hw3, hw4⟩)⟩
   simp only [sid] at h4
   rw [up_ne _ _ h3, up_ne _ _ (fun e => h4 e.symm), up_ne _ _ (by omega), up_ne _ _ (by omega)]
 exact key _ rfl rfl
end Go.Proofs.YtbffkkeieihpdaaGreatDoor

namespace Go.Proofs.YtbffkkeieihpdaaGreatDoor
open Go Go.Eng
def mpcK (k : Nat) (names : List ByteArray) : List AV := (names.zipIdx k).flatMap fun p => [ss p.1, ii p.2]
theorem mpcK_cons (k : Nat) (s : ByteArray) (r : List ByteArray) : mpcK k (s :: r) = .v (.string s) :: .v (.int .i64 (k : Int)) :: mpcK (k + 1) r := by simp [mpcK, ss, ii]
theorem mpc_ok : ∀ (names : List ByteArray) (k : Nat), mok (mpcK k names)
 | [], _ => trivial
 | s :: r, k => by rw [mpcK_cons]; exact mpc_ok r (k + 1)
theorem mpc_find (z : ByteArray) : ∀ (names : List ByteArray) (k : Nat), (names.findIdx (· == z) < names.length → mfind z (mpcK k names) = some (.v (.int .i64 ((k + names.findIdx (· == z) : Nat) : Int)))) ∧ (¬ names.findIdx (· == z) < names.length → mfind z (mpcK k names) = none ∧ ∀ n, mset z n (mpcK k names) = mpcK k names ++ [.v (.string z), n])
 | [], k => ⟨fun h => by simp at h, fun _ => ⟨rfl, fun _ => rfl⟩⟩
 | s :: r, k => by
  rw [mpcK_cons]
  have hsym : (z == s) = (s == z) := by
   cases h1 : (z == s) with
   | true => rw [ba_beq] at h1; subst h1; symm; rw [ba_beq]
   | false =>
    cases h2 : (s == z) with
    | true => rw [ba_beq] at h2; subst h2; rw [show (s == s) = true by rw [ba_beq]] at h1; cases h1
    | false => rfl
  obtain ⟨i1, i2⟩ := mpc_find z r (k + 1)
  cases h : (s == z) with
  | true =>
   refine ⟨fun _ => ?_, fun hn => ?_⟩
   ·simp [mfind, hsym, h, List.findIdx_cons]
   ·simp [List.findIdx_cons, h] at hn
  | false =>
   have hf : (s :: r).findIdx (· == z) = r.findIdx (· == z) + 1 := by simp [List.findIdx_cons, h]
   rw [hf]
   refine ⟨fun hl => ?_, fun hn => ?_⟩
   ·have := i1 (by simpa using hl)
    simp only [mfind, hsym, h, Bool.false_eq_true, if_false, this]
    congr 3
    omega
   ·obtain ⟨j1, j2⟩ := i2 (by simpa using hn)
    refine ⟨by simp only [mfind, hsym, h, Bool.false_eq_true, if_false, j1], fun n => ?_⟩
    simp only [mset, hsym, h, Bool.false_eq_true, if_false, j2]
    rfl
theorem mpc_snoc (names : List ByteArray) (z : ByteArray) : mpc names ++ [.v (.string z), .v (.int .i64 (names.length : Int))] = mpc (names ++ [z]) := by
 simp [mpc, List.zipIdx_append, ss, ii]
theorem CS.addcol {h h' : Heap} {G : Nat → Prop} {n n' m mm w u : Nat} {tys : List Ty} {sa ca la x : AV} {code : List Ins} {names : List ByteArray} {name : ByteArray} {cs : List AV} (c : CS h G n m tys sa ca la mm code names) (hm : h' m = some ⟨[sa, ca, .s w u 0 (names.length + 1), .mv mm 0], 0, true, 4⟩) (hsc : rd dTys h' sa = some tys)
  (hoth : ∀ q, G q → q < n → q ≠ m → q ≠ mm → ¬ sid la q → h' q = h q) (hn : n ≤ n') (hmm : h' mm = some ⟨mpc (names ++ [name]), 0, true, 0⟩)
  (hw : h' w = some ⟨cs ++ [x], u, true, 1⟩) (hcs : (la = .v (.slice none 0 0) ∧ cs = []) ∨ ∃ u0, la = .s w u0 0 names.length ∧ h w = some ⟨cs, u0, true, 1⟩) (hwn : (la = .v (.slice none 0 0) ∧ n ≤ w) ∨ ¬ la = .v (.slice none 0 0)) (hw1 : G w) (hw2 : w < n') (hw3 : w ≠ m) (hw4 : w ≠ mm) (hG : ∀ q, n ≤ q → G q) (hk : KC h' (fun q => n ≤ q) n' (fun b => b = w) x (colOf tys name)) :
  CS h' G n' m tys sa ca (.s w u 0 (names.length + 1)) mm code (names ++ [name]) := by
 obtain ⟨x1, x2, x3, x4, x5, x6, x7⟩ := c
 have hnw : ¬ sid ca w := by
  rcases x5 with ⟨_, k0⟩ | ⟨w0, u0, cs0, k1, k2, k3, k4, k5, k6, k7, _⟩
  ·rcases hwn with ⟨_, hnw⟩ | hx
   ·rcases x4 with ⟨_, rfl⟩ | ⟨wc, uc, rfl, _, _, j, _⟩
    ·exact id
    ·intro e; simp only [sid] at e; omega
   ·exact absurd k0 hx
  ·rcases hcs with ⟨e, _⟩ | ⟨u9, e, _⟩
   ·rw [k1] at e; cases e
   ·rw [k1] at e
    simp only [AV.s.injEq] at e
    obtain ⟨rfl, _⟩ := e
    exact k7
 refine ⟨hm, ⟨x2.1, by omega⟩, hsc, ?_, .inr ⟨w, u, cs ++ [x], by simp, hw, hw1, hw2, hw3, hw4, hnw, ?_⟩, hmm, ⟨x7.1, by omega, x7.2.2⟩⟩
 ·rcases x4 with h0 | ⟨wc, uc, k1, k2, k3, k4, k5, k6⟩
  ·exact .inl h0
  ·refine .inr ⟨wc, uc, k1, ?_, k3, by omega, k5, k6⟩
   rw [hoth wc k3 k4 k5 k6]
   ·exact k2
   ·rcases x5 with ⟨_, rfl⟩ | ⟨w0, u0, cs0, j1, _, _, _, _, _, j7, _⟩
    ·exact id
    ·rw [j1]
     intro e
     simp only [sid] at e
     subst e
     rw [k1] at j7
     exact j7 rfl
 ·have hlen : cs.length = names.length := by
   rcases x5 with ⟨rfl, k0⟩ | ⟨w0, u0, cs0, k1, k2, _, _, _, _, _, k8, _⟩
   ·rcases hcs with ⟨_, rfl⟩ | ⟨u9, e, _⟩
    ·rfl
    ·rw [k0] at e; cases e
   ·rcases hcs with ⟨e, _⟩ | ⟨u9, e, e2⟩
    ·rw [k1] at e; cases e
    ·rw [k1] at e
     simp only [AV.s.injEq] at e
     obtain ⟨rfl, rfl, _⟩ := e
     rw [k2] at e2
     cases e2
     exact k8
  refine ⟨by simp [hlen], fun i hi => ?_⟩
  have hi' : i < names.length + 1 := by simpa using hi
  by_cases e : i = names.length
  ·subst e
   refine ⟨x, by rw [List.getElem?_append_right (by omega), hlen, Nat.sub_self]; rfl, ?_⟩
   simp only [List.getElem_append_right (Nat.le_refl _), Nat.sub_self, List.getElem_cons_zero]
   rcases hk with h0 | ⟨b, v, k1, k2, k3, k4, k5⟩
   ·exact .inl h0
   ·refine .inr ⟨b, v, k1, k2, hG b k3, k4, fun hx => ?_⟩
    rcases hx with hx | hx | hx | hx | ⟨j, cc, hj, hcc, hsd⟩
    ·have := x2.2; omega
    ·have := x7.2.1; omega
    ·rcases x4 with ⟨_, rfl⟩ | ⟨wc, uc, rfl, _, _, j, _⟩
     ·exact hx
     ·simp only [sid] at hx; omega
    ·exact k5 hx
    ·rw [List.getElem?_append_left (by omega)] at hcc
     rcases x5 with ⟨rfl, _⟩ | ⟨w0, u0, cs0, e1, e2, _, _, _, _, _, k8, k9⟩
     ·simp at hj
     ·rcases hcs with ⟨e3, _⟩ | ⟨u9, e3, e4⟩
      ·rw [e1] at e3; cases e3
      ·rw [e1] at e3
       simp only [AV.s.injEq] at e3
       obtain ⟨rfl, rfl, _⟩ := e3
       rw [e2] at e4
       cases e4
       obtain ⟨cc', j1, j2⟩ := k9 j hj
       rw [hcc] at j1
       cases j1
       rcases j2 with ⟨_, rfl⟩ | ⟨b', v', rfl, _, _, j3, _⟩
       ·exact hsd
       ·simp only [sid] at hsd
        omega
  ·have hlt : i < names.length := by omega
   rcases x5 with ⟨rfl, _⟩ | ⟨w0, u0, cs0, k1, k2, k3, k4, k5, k6, k7, k8, k9⟩
   ·simp at hlt
   ·rcases hcs with ⟨e1, _⟩ | ⟨u9, e1, e2⟩
    ·rw [k1] at e1; cases e1
    ·rw [k1] at e1
     simp only [AV.s.injEq] at e1
     obtain ⟨rfl, rfl, _⟩ := e1
     rw [k2] at e2
     cases e2
     obtain ⟨cc, j1, j2⟩ := k9 i hlt
     refine ⟨cc, by rw [List.getElem?_append_left (by omega)]; exact j1, ?_⟩
     rw [List.getElem_append_left hlt]
     refine j2.up (fun q h1 h2 h3 => hoth q h1 h2 (fun e => h3 (.inl e)) (fun e => h3 (.inr (.inl e))) (by rw [k1]; intro e; simp only [sid] at e; exact h3 (.inr (.inr (.inr (.inl e.symm)))))) (fun q _ _ hx => ?_) hn
     rcases hx with hx | hx | hx | hx | ⟨j, c', hj, hc', hsd⟩
     ·exact .inl hx
     ·exact .inr (.inl hx)
     ·exact .inr (.inr (.inl hx))
     ·exact .inr (.inr (.inr (.inl hx)))
     ·rw [List.getElem?_append_left (by omega)] at hc'
      exact .inr (.inr (.inr (.inr ⟨j, c', hj, hc', hsd⟩)))
end Go.Proofs.YtbffkkeieihpdaaGreatDoor

namespace Go.Proofs.YtbffkkeieihpdaaGreatDoor
open Go Go.Eng
def addN (names : List ByteArray) (z : ByteArray) : List ByteArray := if names.findIdx (· == z) < names.length then names else names ++ [z]
theorem ix_add (names : List ByteArray) (z : ByteArray) : ixOf (addN names z) z = if names.findIdx (· == z) < names.length then (names.findIdx (· == z) : Int) else (names.length : Int) := by
 unfold addN
 split
 ·rename_i h
  rw [ixOf, if_pos h]
 ·rename_i h
  have hall : ∀ i (hi : i < names.length), (names[i] == z) = false := fun i hi => by
   cases hz : (names[i] == z) with
   | false => rfl
   | true => exact absurd (List.findIdx_lt_length_of_exists ⟨names[i], List.getElem_mem hi, hz⟩) h
  have hf : (names ++ [z]).findIdx (· == z) = names.length := by
   refine (List.findIdx_eq (by simp)).2 ⟨?_, fun j hj => ?_⟩
   ·rw [List.getElem_append_right (Nat.le_refl _)]
    simp only [Nat.sub_self, List.getElem_cons_zero]
    rw [ba_beq]
   ·rw [List.getElem_append_left hj]
    exact hall j hj
  rw [ixOf, hf, if_pos (by simp)]
theorem colOf_take {tys : List Ty} {name : ByteArray} {j : Nat} (hj : j < tys.length) : (colOf tys name).take (j + 1) = (colOf tys name).take j ++ [attrOf tys (j : Int) name] := by
 rw [List.take_add_one]
 congr 1
 simp [colOf, hj]
def tb93 : List (FuncId × (List AV → Heap → PRes)) := [(116, GAt)]
theorem tb93_ok : TbOk [] tb93 := tb_cons P121 tb_nil
theorem la_is {h : Heap} {G : Nat → Prop} {hi m mm : Nat} {tys : List Ty} {sa ca la : AV} {code : List Ins} {names : List ByteArray} (c : CS h G hi m tys sa ca la mm code names) : la.isS ∧ la.slen = names.length ∧ (∀ g, AV.unc g la = la) ∧ la.one ∧ la.cells = [la] := by
 rcases c.hl with ⟨rfl, rfl⟩ | ⟨w, u, cs, rfl, _⟩
 ·exact ⟨⟨rfl, rfl⟩, rfl, fun _ => rfl, rfl, rfl⟩
 ·exact ⟨trivial, rfl, fun _ => rfl, trivial, rfl⟩
theorem ca_is {h : Heap} {G : Nat → Prop} {hi m mm : Nat} {tys : List Ty} {sa ca la : AV} {code : List Ins} {names : List ByteArray} (c : CS h G hi m tys sa ca la mm code names) : ca.isS ∧ ca.slen = code.length ∧ (∀ g, AV.unc g ca = ca) ∧ ca.one ∧ ca.cells = [ca] := by
 rcases c.hc with ⟨rfl, rfl⟩ | ⟨w, u, rfl, _⟩
 ·exact ⟨⟨rfl, rfl⟩, rfl, fun _ => rfl, rfl, rfl⟩
 ·exact ⟨trivial, rfl, fun _ => rfl, trivial, rfl⟩
theorem c93 {h : Heap} {G : Nat → Prop} {n m mm : Nat} {tys : List Ty} {sa ca la : AV} {code : List Ins} {names : List ByteArray} (c : CS h G n m tys sa ca la mm code names) (name : ByteArray) (hlen : (names.length + 1) * 24 ≤ 140737488355328) (htl : tys.length * 8 ≤ 140737488355328) (hst : smallS tys) (hG : ∀ q, n ≤ q → G q) (hsc : ∀ h', keepG G n h h' → rd dTys h' sa = some tys) (hn : Fresh n h) :
  ACall (cx [] (pfL tb93)) 164 [.p m 0 0, ss name] h n fun z h' n' => keepG G n h h' ∧ Fresh n' h' ∧ n ≤ n' ∧ z = ii (ixOf (addN names name) name) ∧ ∃ la', CS h' G n' m tys sa ca la' mm code (addN names name) := by
 refine acall_of_awp (args := [.p m 0 0, ss name]) (pfL_ok tb93_ok) (mixed _ _) Tryz.func164 (c := Tryz.f164.body.getD .skip) rfl (by kernel_rfl) (callable Tryz.func164 rfl rfl _ _) (show 2 ≤ Tryz.f164.ntmps by decide +kernel) ?_
 have hix := ix_add names name
 obtain ⟨mf1, mf2⟩ := mpc_find name names 0
 have hmp0 : mpcK 0 names = mpc names := rfl
 have hmk : mok (mpc names) := mpc_ok names 0
 rw [hmp0] at mf1 mf2
 simp only [Nat.zero_add] at mf1
 obtain ⟨l1, l2, l3, l4, l5⟩ := la_is c
 obtain ⟨k1, k2, k3, k4, k5⟩ := ca_is c
 have t4 := (sl_is c.sch).2.2.2.1
 have t2 := (sl_is c.sch).2.1
 have t1 := (sl_is c.sch).1
 have t3 := (sl_is c.sch).2.2.1
 have key : ∀ e : Nat → AV, e 0 = .p m 0 0 → e 1 = ss name → awp (cx [] (pfL tb93)) (Tryz.f164.body.getD .skip) (finQ (cx [] (pfL tb93)) Tryz.f164 fun z h' n' => keepG G n h h' ∧ Fresh n' h' ∧ n ≤ n' ∧ z = ii (ixOf (addN names name) name) ∧ ∃ la', CS h' G n' m tys sa ca la' mm code (addN names name)) ⟨e, h, n⟩ := fun e q0 q1 => by
  have c0 := c
  obtain ⟨hm, m1, hsc0, hc, hl, mp, mm1⟩ := c
  by_cases hf : names.findIdx (· == name) < names.length
  ·have hmf := mf1 hf
   have ha : addN names name = names := if_pos hf
   rw [if_pos hf, ha] at hix
   simp [evx, Tryz.f164, q0, q1, ii, ss, hm, mp, hmk, hmf, ha, hix]
   exact ⟨fun _ _ _ => rfl, hn, la, c0⟩
  ·obtain ⟨hmf, hms⟩ := mf2 hf
   have ha : addN names name = names ++ [name] := if_neg hf
   rw [if_neg hf] at hix
   rw [ha] at hix ⊢
   have gsc : ∀ h'', agree n h h'' → deSc h'' (.g [sa]) = some tys := fun h'' hag => hsc h'' (fun j hj _ => hag j hj)
   simp [evx, Tryz.f164, q0, q1, ii, ss, hm, mp, hmk, hmf, t1, t2]
   refine awp_loop (fun s => ∃ j, j ≤ tys.length ∧ s.e 0 = .p m 0 0 ∧ s.e 1 = ss name ∧ s.e 26 = ii tys.length ∧ s.e 27 = ii j ∧ Own s.h n s.n (s.e 7) j (((colOf tys name).take j).map ii) 1 ∧ agree n h s.h ∧ Fresh s.n s.h ∧ n ≤ s.n) (fun s => tys.length - (s.e 27).i.toNat) ⟨0, by simp [up, q0, q1, ii, ss, agree_refl, Own, hn]⟩ ?_
   rintro e' h' n' ⟨j, hj, q0, q1, q26, q27, hown, hag, hfr, hnn⟩
   simp only [] at q0 q1 q26 q27 hown hag hfr hnn
   have hm' : h' m = some ⟨[sa, ca, la, .mv mm 0], 0, true, 4⟩ := by rw [hag m m1.2]; exact hm
   have hmp' : h' mm = some ⟨mpc names, 0, true, 0⟩ := by rw [hag mm mm1.2.1]; exact mp
   by_cases hlt : j < tys.length
   ·have hw := wrap_nat (j := j) (by unfold big; omega)
    have hct := colOf_take (name := name) hlt
    have hcl : (((colOf tys name).take j).map ii).length = j := by rw [List.length_map, List.length_take, colOf_len]; omega
    have hb3 : (j + 1) * 8 ≤ 140737488355328 := by omega
    have hb4 : j ≤ 9223372036854775806 := by omega
    have hb5 : j + 1 ≤ 9223372036854775807 := by omega
    have y0 : ¬ m = n' := by omega
    have f0 : n ≤ n' + 1 := by omega
    have hct2 : ((colOf tys name).map ii).take (j + 1) = ((colOf tys name).take j).map ii ++ [ii (attrOf tys (j : Int) name)] := by rw [← List.map_take, hct, List.map_append]; rfl
    generalize hat : attrOf tys (j : Int) name = at9 at *
    generalize (colOf tys name).take j = tk at *
    rcases hown with ⟨hj0, hnil, q7⟩ | ⟨w, u, q7, hk3, hw1, hw2⟩
    ·simp [evx, q0, q1, q7, q26, q27, ii, ss, hlt, hm', tb93, GAt, pureH, deAt, gsc, hag, hst, hat, hw, agree_up, hnn, f0, fresh_up, hfr.add]
     exact ⟨⟨j + 1, by omega, by omega, .inr ⟨n' + 1, 0, by rw [hj0], by rw [up_same, hct2, hnil]; rfl, by omega, by omega⟩, by omega⟩, by omega⟩
    ·have z1 : ¬ w = n' := by omega
     have z2 : w < n' + 2 := by omega
     simp [evx, q0, q1, q7, q26, q27, ii, ss, hlt, hm', tb93, GAt, pureH, deAt, gsc, hag, hst, hat, hw, hb3, hb5, hk3, hcl, z1, z2, hw1, agree_up, hnn, fresh_up, hfr.add]
     exact ⟨⟨j + 1, by omega, by omega, .inr ⟨w, u + 1, rfl, by rw [up_same, hct2]; rfl, by omega, by omega⟩, by omega⟩, by omega⟩
   ·obtain rfl : j = tys.length := by omega
    have htk : (colOf tys name).take tys.length = colOf tys name := List.take_of_length_le (by rw [colOf_len]; exact Nat.le_refl _)
    rw [htk] at hown
    have hsn := mpc_snoc names name
    have hms1 := hms (.v (.int .i64 (names.length : Int)))
    rw [hsn] at hms1
    have y0 : ¬ m = n' := by omega
    have y1 : ¬ mm = n' := by omega
    have y2 : ¬ m = mm := fun e => mm1.2.2 e.symm
    have y3 : ¬ mm = m := mm1.2.2
    have y4 : ¬ m = n' + 1 := by omega
    have y5 : ¬ m = n' + 2 := by omega
    have hb6 : names.length ≤ 9223372036854775806 := by omega
    have s7 : (e' 7).one ∧ (∀ g, AV.unc g (e' 7) = e' 7) ∧ (e' 7).cells = [e' 7] := by
     rcases hown with ⟨_, _, q7⟩ | ⟨w, u, q7, _⟩
     ·rw [q7]; exact ⟨rfl, fun _ => rfl, rfl⟩
     ·rw [q7]; exact ⟨trivial, fun _ => rfl, rfl⟩
    obtain ⟨r1, r2, r3⟩ := s7
    obtain ⟨z7, q7⟩ : ∃ z, e' 7 = z := ⟨_, rfl⟩
    rw [q7] at hown r1 r2 r3
    have kc : ∀ (H : Heap) (w : Nat) (hi : Nat), (∀ q, n ≤ q → q < n' → q ≠ w → H q = h' q) → n' ≤ hi → (w < n ∨ n' ≤ w) → KC H (fun q => n ≤ q) hi (fun b => b = w) z7 (colOf tys name) := fun H w hi hH hhi hw9 => by
     rcases hown with ⟨d0, dnil, d1⟩ | ⟨b, v, d1, d2, d3, d4⟩
     ·exact .inl ⟨by simpa using dnil, d1⟩
     ·exact .inr ⟨b, v, by rw [d1, colOf_len], by rw [hH b d3 d4 (by omega)]; exact d2, d3, by omega, by omega⟩
    rcases hl with ⟨h0, rfl⟩ | ⟨w, u, cs, rfl, x2, x3, x4, x5, x6, x7, x8, x9⟩
    ·subst h0
     have hms2 : mset name (.v (.int .i64 0)) (mpc []) = mpc ([] ++ [name]) := by simpa using hms1
     have f3 : mm < n' + 4 := by omega
     have f4 : m < n' + 4 := by omega
     have f5 : n ≤ n' + 4 := by omega
     have hH : ∀ b1 b2 b3 b4 : Option Blk, ∀ q, q ≠ mm → q ≠ n' + 1 → q ≠ n' + 2 → q ≠ m → up (up (up (up h' mm b1) (n' + 1) b2) (n' + 2) b3) m b4 q = h' q := fun b1 b2 b3 b4 q w1 w2 w3 w4 => by rw [up_ne _ _ w4, up_ne _ _ w3, up_ne _ _ w2, up_ne _ _ w1]
     have hagH : ∀ b1 b2 b3 b4 : Option Blk, keepG G n h (up (up (up (up h' mm b1) (n' + 1) b2) (n' + 2) b3) m b4) := fun b1 b2 b3 b4 q hq hg => by rw [hH _ _ _ _ q (fun e => hg (by rw [e]; exact mm1.1)) (by omega) (by omega) (fun e => hg (by rw [e]; exact m1.1))]; exact hag q hq
     simp [evx, q0, q1, q7, q26, q27, ii, ss, hm', hmp', hmk, y2, y4, y5, r1, r3, hms2, fresh_up, hfr.add, f3, f4, f5]
     refine ⟨hagH _ _ _ _, by simpa using hix.symm, .s (n' + 2) 0 0 1, CS.addcol (cs := []) (x := z7) c0 (by simp [up]) (hsc _ (hagH _ _ _ _)) (fun q p1 p2 p3 p4 _ => ?_) f5 ?_ ?_ (.inl ⟨rfl, rfl⟩) (.inl ⟨rfl, by omega⟩) (hG _ (by omega)) (by omega) (by have := m1.2; omega) (by have := mm1.2.1; omega) hG (kc _ _ _ (fun q p1 p2 p3 => ?_) (by omega) (.inr (by omega)))⟩
     ·rw [hH _ _ _ _ q p4 (by omega) (by omega) p3]; exact hag q p2
     ·rw [up_ne _ _ mm1.2.2, up_ne _ _ (by omega), up_ne _ _ (by omega), up_same]; rfl
     ·rw [up_ne _ _ (by omega), up_same]; rfl
     ·rw [hH _ _ _ _ q (by omega) (by omega) p3 (by omega)]
    ·have x10 : ¬ w = mm := x6
     have hw' : h' w = some ⟨cs, u, true, 1⟩ := by rw [hag w x4]; exact x2
     have x11 : ¬ w = n' + 1 := by omega
     have x12 : ¬ m = w := fun e => x5 e.symm
     have f3 : mm < n' + 4 := by omega
     have f4 : m < n' + 4 := by omega
     have f5 : n ≤ n' + 4 := by omega
     have f6 : w < n' + 4 := by omega
     have hH : ∀ b1 b2 b3 b4 : Option Blk, ∀ q, q ≠ mm → q ≠ n' + 1 → q ≠ w → q ≠ m → up (up (up (up h' mm b1) (n' + 1) b2) w b3) m b4 q = h' q := fun b1 b2 b3 b4 q w1 w2 w3 w4 => by rw [up_ne _ _ w4, up_ne _ _ w3, up_ne _ _ w2, up_ne _ _ w1]
     have hagH : ∀ b1 b2 b3 b4 : Option Blk, keepG G n h (up (up (up (up h' mm b1) (n' + 1) b2) w b3) m b4) := fun b1 b2 b3 b4 q hq hg => by rw [hH _ _ _ _ q (fun e => hg (by rw [e]; exact mm1.1)) (by omega) (fun e => hg (by rw [e]; exact x3)) (fun e => hg (by rw [e]; exact m1.1))]; exact hag q hq
     simp [evx, q0, q1, q7, q26, q27, ii, ss, hm', hmp', hmk, y2, y4, r1, r3, hb6, hw', x10, x11, x12, x8, hlen, hms1, fresh_up, hfr.add, f3, f4, f5, f6]
     refine ⟨hagH _ _ _ _, hix.symm, .s w (u + 1) 0 (names.length + 1), CS.addcol (cs := cs) (x := z7) c0 (by simp [up]) (hsc _ (hagH _ _ _ _)) (fun q p1 p2 p3 p4 p5 => ?_) f5 ?_ ?_ (.inr ⟨u, rfl, x2⟩) (.inr (by simp)) x3 (by omega) x5 x6 hG (kc _ _ _ (fun q p1 p2 p3 => ?_) (by omega) (.inl x4))⟩
     ·rw [hH _ _ _ _ q p4 (by omega) (fun e => p5 (by simp only [sid]; exact e.symm)) p3]; exact hag q p2
     ·rw [up_ne _ _ mm1.2.2, up_ne _ _ (fun e => x6 e.symm), up_ne _ _ (by omega), up_same]
     ·rw [up_ne _ _ x5, up_same]
     ·rw [hH _ _ _ _ q (by omega) (by omega) p3 (by omega)]
 exact key _ rfl rfl
end Go.Proofs.YtbffkkeieihpdaaGreatDoor

namespace Go.Proofs.YtbffkkeieihpdaaGreatDoor
open Go Go.Eng
theorem CS.up {h h' : Heap} {G : Nat → Prop} {n n' m mm : Nat} {tys : List Ty} {sa ca la : AV} {code : List Ins} {names : List ByteArray} (c : CS h G n m tys sa ca la mm code names) (hf : Fresh n h) (ha : agree n h h') (hn : n ≤ n') : CS h' G n' m tys sa ca la mm code names := by
 obtain ⟨x1, x2, x3, x4, x5, x6, x7⟩ := c
 refine ⟨by rw [ha m x2.2]; exact x1, ⟨x2.1, by omega⟩, rd_agr hf x3 _ ha, ?_, ?_, by rw [ha mm x7.2.1]; exact x6, ⟨x7.1, by omega, x7.2.2⟩⟩
 ·rcases x4 with h0 | ⟨w, u, k1, k2, k3, k4, k5⟩
  ·exact .inl h0
  ·exact .inr ⟨w, u, k1, by rw [ha w k4]; exact k2, k3, by omega, k5⟩
 ·rcases x5 with h0 | ⟨w, u, cs, k1, k2, k3, k4, k5, k6, k7, k8, k9⟩
  ·exact .inl h0
  ·refine .inr ⟨w, u, cs, k1, by rw [ha w k4]; exact k2, k3, by omega, k5, k6, k7, k8, fun i hi => ?_⟩
   obtain ⟨cc, j1, j2⟩ := k9 i hi
   exact ⟨cc, j1, j2.up (fun q _ hq _ => ha q hq) (fun _ _ _ hx => hx) hn⟩
theorem KC.wk {h : Heap} {G G' : Nat → Prop} {hi : Nat} {bad : Nat → Prop} {c : AV} {l : List Int} (k : KC h G hi bad c l) (hg : ∀ q, G q → q < hi → G' q) : KC h G' hi bad c l := by
 rcases k with h0 | ⟨b, v, k1, k2, k3, k4, k5⟩
 ·exact .inl h0
 ·exact .inr ⟨b, v, k1, k2, hg b k3 k4, k4, k5⟩
theorem CS.wk {h : Heap} {G G' : Nat → Prop} {n m mm : Nat} {tys : List Ty} {sa ca la : AV} {code : List Ins} {names : List ByteArray} (c : CS h G n m tys sa ca la mm code names) (hg : ∀ q, G q → q < n → G' q) : CS h G' n m tys sa ca la mm code names := by
 obtain ⟨x1, x2, x3, x4, x5, x6, x7⟩ := c
 refine ⟨x1, ⟨hg _ x2.1 x2.2, x2.2⟩, x3, ?_, ?_, x6, ⟨hg _ x7.1 x7.2.1, x7.2⟩⟩
 ·rcases x4 with h0 | ⟨w, u, k1, k2, k3, k4, k5⟩
  ·exact .inl h0
  ·exact .inr ⟨w, u, k1, k2, hg w k3 k4, k4, k5⟩
 ·rcases x5 with h0 | ⟨w, u, cs, k1, k2, k3, k4, k5, k6, k7, k8, k9⟩
  ·exact .inl h0
  ·refine .inr ⟨w, u, cs, k1, k2, hg w k3 k4, k4, k5, k6, k7, k8, fun i hi => ?_⟩
   obtain ⟨cc, j1, j2⟩ := k9 i hi
   exact ⟨cc, j1, j2.wk hg⟩
def ownI (names : List ByteArray) (it : Int) (x : Nd) : Ins :=
 if x.op = 1 then ⟨1, 0, 0, x.n, 0⟩ else if x.op = 2 then ⟨1, 0, 0, 1, 0⟩ else if x.op = 3 then ⟨1, 0, 0, 0, 0⟩
 else if x.op = 4 then ⟨2, it, ixOf names x.attr, 0, 0⟩ else if x.op = 11 then ⟨3, it, ixOf names x.attr, 0, 0⟩ else if x.op = 5 then ⟨4, it, 0, 0, 0⟩
 else if x.op < 11 then ⟨x.op - 1, it, ixOf names x.attr, 0, 0⟩ else ⟨x.op - 2, 0, 0, 0, 0⟩
def addX (names : List ByteArray) (x : Nd) : List ByteArray := if 4 ≤ x.op ∧ x.op ≤ 11 ∧ x.op ≠ 5 then addN names x.attr else names
theorem c55 {h : Heap} {G : Nat → Prop} {n m mm : Nat} {tys : List Ty} {sa ca la : AV} {code : List Ins} {names : List ByteArray} (c : CS h G n m tys sa ca la mm code names) (x : Nd) (it : Int) (hop : 1 ≤ x.op ∧ x.op ≤ 26) (hcl : (code.length + 1) * 40 ≤ 140737488355328) (hlen : (names.length + 1) * 24 ≤ 140737488355328) (htl : tys.length * 8 ≤ 140737488355328) (hst : smallS tys)
  (hG : ∀ q, n ≤ q → G q) (hsc : ∀ h', keepG G n h h' → rd dTys h' sa = some tys) (hn : Fresh n h) :
  ACall (cx [] (pfL [])) 120 [.p m 0 0, nn x, ii it] h n fun _ h' n' => keepG G n h h' ∧ Fresh n' h' ∧ n ≤ n' ∧ ∃ ca' la', CS h' G n' m tys sa ca' la' mm (code ++ [ownI (addX names x) it x]) (addX names x) := by
 refine acall_of_awp (args := [.p m 0 0, nn x, ii it]) (pfL_ok tb_nil) (mixed _ _) Tryz.func120 (c := Tryz.f120.body.getD .skip) rfl (by kernel_rfl) (callable Tryz.func120 rfl rfl _ _) (show 3 ≤ Tryz.f120.ntmps by decide +kernel) ?_
 obtain ⟨op, num, var, attr, xa, xb⟩ := x
 simp only [] at hop
 obtain ⟨hop1, hop2⟩ := hop
 have hkeep : ∀ (b : Option Blk) (h2 : Heap) (n2 : Nat), n + 1 ≤ n2 → keepG G (n + 1) (Eng.up h n b) h2 → keepG G n h h2 := fun b h2 n2 _ k q hq hg => by rw [k q (by omega) hg, up_ne _ _ (by omega)]
 have L1 : ∀ (b : Option Blk) (I : Ins), ACall (cx [] (pfL [])) 121 [.p m 0 0, iv I] (Eng.up h n b) (n + 1) fun _ h' n' => keepG G n h h' ∧ Fresh n' h' ∧ n ≤ n' ∧ ∃ ca' la', CS h' G n' m tys sa ca' la' mm (code ++ [I]) names := fun b I =>
  (c56 (c.up hn (by simp [agree_up, agree_refl]) (Nat.le_succ n)) I hcl (fun q hq => hG q (by omega)) (fun h' k => hsc h' (hkeep b h' (n + 1) (Nat.le_refl _) k)) ((fresh_up (by omega) _).2 (hn.add 1))).mono fun v h2 n2 ⟨a1, a2, a3, ca', a4⟩ => ⟨hkeep b h2 n2 a3 a1, a2, by omega, ca', la, a4⟩
 have hkeep' : ∀ (b : Option Blk) (h2 : Heap) (n2 : Nat), n + 1 ≤ n2 → keepG (fun q => G q ∧ q ≠ n) (n + 1) (Eng.up h n b) h2 → keepG G n h h2 ∧ h2 n = b := fun b h2 n2 _ k => ⟨fun q hq hg => by rw [k q (by omega) (fun hx => hg hx.1), up_ne _ _ (by omega)], by rw [k n (by omega) (fun hx => hx.2 rfl), up_same]⟩
 have L2 : ∀ (b : Option Blk), ACall (cx [] (pfL tb93)) 164 [.p m 0 0, ss attr] (Eng.up h n b) (n + 1) fun z h' n' => keepG G n h h' ∧ h' n = b ∧ Fresh n' h' ∧ n + 1 ≤ n' ∧ z = ii (ixOf (addN names attr) attr) ∧ ∃ la', CS h' (fun q => G q ∧ q ≠ n) n' m tys sa ca la' mm code (addN names attr) := fun b =>
  (c93 ((c.wk (G' := fun q => G q ∧ q ≠ n) (fun q hq hl => ⟨hq, by omega⟩)).up hn (by simp [agree_up, agree_refl]) (Nat.le_succ n)) attr hlen htl hst (fun q hq => ⟨hG q (by omega), by omega⟩) (fun h' k => hsc h' (hkeep' b h' (n + 1) (Nat.le_refl _) k).1) ((fresh_up (by omega) _).2 (hn.add 1))).mono fun v h2 n2 ⟨a1, a2, a3, a4, la', a5⟩ => ⟨(hkeep' b h2 n2 a3 a1).1, (hkeep' b h2 n2 a3 a1).2, a2, a3, a4, la', a5⟩
 have L3 : ∀ (h2 : Heap) (n2 : Nat) (la' : AV) (names' : List ByteArray) (I : Ins), keepG G n h h2 → Fresh n2 h2 → n + 1 ≤ n2 → CS h2 (fun q => G q ∧ q ≠ n) n2 m tys sa ca la' mm code names' → ACall (cx [] (pfL [])) 121 [.p m 0 0, iv I] h2 n2 fun _ h' n' => h' n = h2 n ∧ keepG G n h h' ∧ Fresh n' h' ∧ n ≤ n' ∧ ∃ ca' la', CS h' G n' m tys sa ca' la' mm (code ++ [I]) names' := fun h2 n2 la' names' I k1 k2 k3 k4 =>
  (c56 k4 I hcl (fun q hq => ⟨hG q (by omega), by omega⟩) (fun h' k => hsc h' (fun q hq hg => by rw [k q (by omega) (fun hx => hg hx.1)]; exact k1 q hq hg)) k2).mono fun v h3 n3 ⟨a1, a2, a3, ca', a4⟩ => ⟨a1 n (by omega) (fun hx => hx.2 rfl), fun q hq hg => by rw [a1 q (by omega) (fun hx => hg hx.1)]; exact k1 q hq hg, a2, by omega, ca', la', a4.wk fun q hq _ => hq.1⟩
 have key : ∀ e : Nat → AV, e 0 = .p m 0 0 → e 1 = nn ⟨op, num, var, attr, xa, xb⟩ → e 2 = ii it → awp (cx [] (pfL [])) (Tryz.f120.body.getD .skip) (finQ (cx [] (pfL [])) Tryz.f120 fun _ h' n' => keepG G n h h' ∧ Fresh n' h' ∧ n ≤ n' ∧ ∃ ca' la', CS h' G n' m tys sa ca' la' mm (code ++ [ownI (addX names ⟨op, num, var, attr, xa, xb⟩) it ⟨op, num, var, attr, xa, xb⟩]) (addX names ⟨op, num, var, attr, xa, xb⟩)) ⟨e, h, n⟩ := fun e q0 q1 q2 => by
  by_cases o1 : op = 1
  ·subst o1
   simp [evx, Tryz.f120, q0, q1, nn, ncells, ii, ss]
   refine (acall_any (S := []) (by simp) (L1 _ ⟨1, 0, 0, num, 0⟩)).mono ?_
   rintro v h2 n2 ⟨a1, a2, a3, ca', la', a4⟩
   exact ⟨a1, a2, a3, ca', la', a4⟩
  by_cases o2 : op = 2
  ·subst o2
   simp [evx, Tryz.f120, q0, q1, nn, ncells, ii, ss]
   refine (acall_any (S := []) (by simp) (L1 _ ⟨1, 0, 0, 1, 0⟩)).mono ?_
   rintro v h2 n2 ⟨a1, a2, a3, ca', la', a4⟩
   exact ⟨a1, a2, a3, ca', la', a4⟩
  by_cases o3 : op = 3
  ·subst o3
   simp [evx, Tryz.f120, q0, q1, nn, ncells, ii, ss]
   refine (acall_any (S := []) (by simp) (L1 _ ⟨1, 0, 0, 0, 0⟩)).mono ?_
   rintro v h2 n2 ⟨a1, a2, a3, ca', la', a4⟩
   exact ⟨a1, a2, a3, ca', la', a4⟩
  by_cases o4 : op = 4
  ·subst o4
   have hax : addX names ⟨4, num, var, attr, xa, xb⟩ = addN names attr := by simp [addX]
   rw [hax]
   simp [evx, Tryz.f120, q0, q1, q2, nn, ncells, ii, ss]
   refine (acall_any (S := []) (by simp) (L2 _)).mono ?_
   rintro v h2 n2 ⟨a1, a0, a2, a3, rfl, la', a4⟩
   simp [evx, ii]
   refine (acall_any (S := []) (by simp) (L3 h2 n2 la' _ ⟨2, it, ixOf (addN names attr) attr, 0, 0⟩ a1 a2 a3 a4)).mono ?_
   rintro v h3 n3 ⟨b0, b1, b2, b3, ca', la'', b4⟩
   exact ⟨b1, b2, b3, ca', la'', b4⟩
  by_cases o11 : op = 11
  ·subst o11
   have hax : addX names ⟨11, num, var, attr, xa, xb⟩ = addN names attr := by simp [addX]
   rw [hax]
   simp [evx, Tryz.f120, q0, q1, q2, nn, ncells, ii, ss]
   refine (acall_any (S := []) (by simp) (L2 _)).mono ?_
   rintro v h2 n2 ⟨a1, a0, a2, a3, rfl, la', a4⟩
   simp [evx, ii]
   refine (acall_any (S := []) (by simp) (L3 h2 n2 la' _ ⟨3, it, ixOf (addN names attr) attr, 0, 0⟩ a1 a2 a3 a4)).mono ?_
   rintro v h3 n3 ⟨b0, b1, b2, b3, ca', la'', b4⟩
   exact ⟨b1, b2, b3, ca', la'', b4⟩
  by_cases o5 : op = 5
  ·subst o5
   have hax : addX names ⟨5, num, var, attr, xa, xb⟩ = names := by simp [addX]
   rw [hax]
   simp [evx, Tryz.f120, q0, q1, q2, nn, ncells, ii, ss]
   refine (acall_any (S := []) (by simp) (L1 _ ⟨4, it, 0, 0, 0⟩)).mono ?_
   rintro v h2 n2 ⟨a1, a2, a3, ca', la', a4⟩
   exact ⟨a1, a2, a3, ca', la', a4⟩
  by_cases o10 : op < 11
  ·have hax : addX names ⟨op, num, var, attr, xa, xb⟩ = addN names attr := by
    unfold addX
    rw [if_pos ⟨by simp only []; omega, by simp only []; omega, o5⟩]
   have how : ownI (addN names attr) it ⟨op, num, var, attr, xa, xb⟩ = ⟨op - 1, it, ixOf (addN names attr) attr, 0, 0⟩ := by
    unfold ownI
    rw [if_neg o1, if_neg o2, if_neg o3, if_neg o4, if_neg o11, if_neg o5, if_pos o10]
   rw [hax, how]
   have w1 : IntKind.i64.wrap (op - 6) = op - 6 := W_id (by unfold Rng; omega)
   have w2 : IntKind.i64.wrap (5 + (op - 6)) = op - 1 := (W_id (by unfold Rng; omega)).trans (by omega)
   simp [evx, Tryz.f120, q0, q1, q2, nn, ncells, ii, ss, o1, o2, o3, o4, o11, o5, o10, w1, w2]
   refine (acall_any (S := []) (by simp) (L2 _)).mono ?_
   rintro v h2 n2 ⟨a1, a0, a2, a3, rfl, la', a4⟩
   simp [evx, ii]
   refine ⟨.inr ⟨rfl, fun t ht => ?_⟩, ?_⟩
   ·simp [ldSlots] at ht
    rcases ht with ht | ht <;> subst ht <;> simp [keepP, Eng.up, a0]
   refine (acall_any (S := []) (by simp) (L3 h2 n2 la' _ ⟨op - 1, it, ixOf (addN names attr) attr, 0, 0⟩ a1 a2 a3 a4)).mono ?_
   rintro v h3 n3 ⟨b0, b1, b2, b3, ca', la'', b4⟩
   refine ⟨.inr ⟨rfl, fun t ht => ?_⟩, ?_⟩
   ·simp [ldSlots] at ht
    rcases ht with ht | ht <;> subst ht <;> simp [keepP, Eng.up, b0, a0]
   exact ⟨b1, b2, b3, ca', la'', b4⟩
  ·have hax : addX names ⟨op, num, var, attr, xa, xb⟩ = names := by
    unfold addX
    rw [if_neg]
    simp only []
    omega
   have how : ownI names it ⟨op, num, var, attr, xa, xb⟩ = ⟨op - 2, 0, 0, 0, 0⟩ := by
    unfold ownI
    rw [if_neg o1, if_neg o2, if_neg o3, if_neg o4, if_neg o11, if_neg o5, if_neg o10]
   rw [hax, how]
   have w1 : IntKind.i64.wrap (op - 12) = op - 12 := W_id (by unfold Rng; omega)
   have w2 : IntKind.i64.wrap (10 + (op - 12)) = op - 2 := (W_id (by unfold Rng; omega)).trans (by omega)
   simp [evx, Tryz.f120, q0, q1, nn, ncells, ii, ss, o1, o2, o3, o4, o11, o5, o10, w1, w2]
   refine (acall_any (S := []) (by simp) (L1 _ ⟨op - 2, 0, 0, 0, 0⟩)).mono ?_
   rintro v h2 n2 ⟨a1, a2, a3, ca', la', a4⟩
   exact ⟨a1, a2, a3, ca', la', a4⟩
 exact key _ rfl rfl rfl
end Go.Proofs.YtbffkkeieihpdaaGreatDoor
