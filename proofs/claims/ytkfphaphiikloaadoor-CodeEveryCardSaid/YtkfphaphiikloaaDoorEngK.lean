/-
  OUR OWN TOOL, PART L: a walk that is cut into pieces; contracts of calls, weakened.
-/
import Derived.Test.YtkfphaphiikloaaDoorEngJ
set_option linter.unusedSimpArgs false
set_option linter.unusedVariables false
set_option linter.constructorNameAsVariable false
set_option linter.unusedSimpArgs false
namespace Go.Eng
open Go Go.RowKit

theorem ldcs_1 (X : Ctx) (h : Heap) (a : AV) : ldcs X h a 0 1 = [ldc X h a 0] := rfl
theorem ldcs_2 (X : Ctx) (h : Heap) (a : AV) : ldcs X h a 0 2 = [ldc X h a 0, ldc X h a 1] := rfl
theorem ldcs_3 (X : Ctx) (h : Heap) (a : AV) : ldcs X h a 0 3 = [ldc X h a 0, ldc X h a 1, ldc X h a 2] := rfl
theorem ldcs_4 (X : Ctx) (h : Heap) (a : AV) : ldcs X h a 0 4 = [ldc X h a 0, ldc X h a 1, ldc X h a 2, ldc X h a 3] := rfl
theorem ldcs_5 (X : Ctx) (h : Heap) (a : AV) : ldcs X h a 0 5 = [ldc X h a 0, ldc X h a 1, ldc X h a 2, ldc X h a 3, ldc X h a 4] := rfl
theorem ldcs_7 (X : Ctx) (h : Heap) (a : AV) : ldcs X h a 0 7 = [ldc X h a 0, ldc X h a 1, ldc X h a 2, ldc X h a 3, ldc X h a 4, ldc X h a 5, ldc X h a 6] := rfl
theorem le_upf {h0 h : Heap} {i : Nat} (hi : h0 i = none) (b : Option Blk) : h0.le (up h i b) ↔ h0.le h := by
  constructor
  · intro hh j k hj
    have e : j ≠ i := fun e => by rw [e, hi] at hj; cases hj
    have := hh j k hj
    rwa [up_ne _ _ e] at this
  · intro hh j k hj
    have e : j ≠ i := fun e => by rw [e, hi] at hj; cases hj
    rw [up_ne _ _ e]
    exact hh j k hj
theorem nat_lt0 (n : Nat) : ((n : Int) < 0) = False := by simp
theorem nat_le0 (n : Nat) : ((0 : Int) ≤ (n : Int)) = True := by simp
theorem ACall.mono {X : Ctx} {f : FuncId} {args : List AV} {h : Heap} {n : Nat} {Q Q' : AV → Heap → Nat → Prop} (k : ACall X f args h n Q) (hq : ∀ v h n, Q v h n → Q' v h n) : ACall X f args h n Q' :=
  ⟨k.1, fun K w0 ρ w vs r hv => (k.2 K w0 ρ w vs r hv).mono fun _ _ ⟨y, h1, ρ2, z, h', n', h2, h3, h4, h5⟩ => ⟨y, h1, ρ2, z, h', n', h2, h3, h4, hq _ _ _ h5⟩⟩
theorem astep_mono {X : Ctx} {ops : Array Oper} {o : Oper} {s : St} {K K' : AV → Heap → Nat → Prop} (hq : ∀ v h n, K v h n → K' v h n) (k : astep X ops o s K) : astep X ops o s K' := by
  unfold astep at k ⊢
  split
  · rename_i f as e
    simp only [e] at k
    split
    · rename_i e2
      simp only [e2] at k
      exact k.mono hq
    · rename_i j want e2
      simp only [e2] at k
      exact ⟨k.1, fun h => (k.2.1 h).mono fun v h n => hq _ h n, fun h => hq _ _ _ (k.2.2 h)⟩
  · rename_i e
    simp only [e] at k
    exact ⟨k.1, hq _ _ _ k.2⟩
theorem aops_mono {X : Ctx} {ops : Array Oper} {K K' : St → Prop} (hq : ∀ s, K s → K' s) : ∀ (l : List Oper) (s : St), aops X ops K l s → aops X ops K' l s
  | [], s, k => hq s k
  | _ :: r, _, k => astep_mono (fun _ _ _ h => aops_mono hq r _ h) k
theorem atl_mono {X : Ctx} {ops : Array Oper} {h0 : Heap} {K K' : St → Prop} (hq : ∀ s, K s → K' s) : ∀ (f : Nat) (rem : List (Nat × Oper)) (s : St), atl X ops h0 K f rem s → atl X ops h0 K' f rem s
  | 0, _, s, k => fun e => hq s (k e)
  | f + 1, _, s, k => ⟨fun e => hq s (k.1 e), fun p hp hf => astep_mono (fun _ _ _ h => ⟨h.1, h.2.1, atl_mono hq f _ _ h.2.2⟩) (k.2 p hp hf)⟩
theorem adrawA_mono {X : Ctx} {ops : Array Oper} {K K' : St → Prop} (hq : ∀ s, K s → K' s) : ∀ (l : List Oper) (acc : List Bool) (tl : List (Nat × Oper)) (s : St), adrawA X ops K l acc tl s → adrawA X ops K' l acc tl s
  | [], _, tl, s, k => atl_mono hq _ tl s k
  | o :: r, acc, tl, s, k => by
    simp only [adrawA] at k ⊢
    split
    · rename_i e
      rw [if_pos e] at k
      exact ⟨k.1, adrawA_mono hq r _ _ _ k.2⟩
    · rename_i e
      rw [if_neg e] at k
      exact adrawA_mono hq r _ _ _ k
theorem awp_mono {X : Ctx} : ∀ (c : Code) {Q Q' : Ex → St → Prop} {s : St}, (∀ x s, Q x s → Q' x s) → awp X c Q s → awp X c Q' s
  | .skip, _, _, _, hq, k => hq _ _ k
  | .label _, _, _, _, hq, k => hq _ _ k
  | .ret, _, _, _, hq, k => hq _ _ k
  | .exit _, _, _, _, hq, k => hq _ _ k
  | .region _ ops draw, Q, Q', s, hq, k => by
    simp only [awp] at k ⊢
    split
    · rename_i e
      rw [if_pos e] at k
      exact adrawA_mono (fun s => hq _ s) _ _ _ _ k
    · rename_i e
      rw [if_neg e] at k
      exact aops_mono (fun s => hq _ s) _ _ k
  | .seq a b, Q, Q', s, hq, k => awp_mono a (fun x s h => by
      cases x with
      | normal => exact awp_mono b hq h
      | exit id => exact hq _ _ h
      | ret => exact hq _ _ h) k
  | .cond c a b, _, _, _, hq, k => ⟨k.1, fun h => awp_mono a hq (k.2.1 h), fun h => awp_mono b hq (k.2.2 h)⟩
  | .block id c, _, _, _, hq, k => awp_mono c (fun x s h => by
      cases x with
      | normal => exact hq _ _ h
      | exit j =>
        simp only [blockQ] at h ⊢
        split
        · rename_i e; rw [if_pos e] at h; exact hq _ _ h
        · rename_i e; rw [if_neg e] at h; exact hq _ _ h
      | ret => exact hq _ _ h) k
  | .loop c, _, _, _, hq, k => by
    obtain ⟨I, μ, h0, hr⟩ := k
    exact ⟨I, μ, h0, fun s' hs => awp_mono c (fun x s h => by
      cases x with
      | normal => exact h
      | exit id => exact hq _ _ h
      | ret => exact hq _ _ h) (hr s' hs)⟩
  | .goto _, _, _, _, _, k => k.elim
  | .scope c, Q, Q', s, hq, k => awp_mono c hq (show awp X c Q s from k)
  | .refuse _, _, _, _, _, k => k.elim
  | .rangeFunc _ _ _ _, _, _, _, _, k => k.elim

/-- The first k pieces of a text, and the rest. -/
def hdC : Nat → Code → Code
  | 0, _ => .skip
  | 1, .seq a _ => a
  | k + 2, .seq a b => .seq a (hdC (k + 1) b)
  | _, c => c
def tlC : Nat → Code → Code
  | 0, c => c
  | k + 1, .seq _ b => tlC k b
  | _, _ => .skip
theorem awp_cut {X : Ctx} {R : St → Prop} {Q : Ex → St → Prop} : ∀ (k : Nat) (c : Code) (s : St), awp X (hdC k c) (thenQ R Q) s → (∀ e h n, R ⟨e, h, n⟩ → awp X (tlC k c) Q ⟨e, h, n⟩) → awp X c Q s
  | 0, c, s, h1, h2 => h2 s.e s.h s.n h1
  | k + 1, c, s, h1, h2 => by
    by_cases hs : ∃ a b, c = .seq a b
    · obtain ⟨a, b, rfl⟩ := hs
      cases k with
      | zero =>
        exact awp_mono a (fun x s h => by
          cases x with
          | normal => exact h2 s.e s.h s.n h
          | exit id => exact h
          | ret => exact h) h1
      | succ k =>
        exact awp_mono a (fun x s h => by
          cases x with
          | normal => exact awp_cut (k + 1) b s h h2
          | exit id => exact h
          | ret => exact h) h1
    · have e1 : hdC (k + 1) c = c := by
        cases k <;> cases c <;> first | rfl | exact absurd ⟨_, _, rfl⟩ hs
      have e2 : tlC (k + 1) c = .skip := by
        cases c <;> first | rfl | exact absurd ⟨_, _, rfl⟩ hs
      rw [e1] at h1
      rw [e2] at h2
      exact awp_mono c (fun x s h => by
        cases x with
        | normal => exact h2 s.e s.h s.n h
        | exit id => exact h
        | ret => exact h) h1
end Go.Eng
