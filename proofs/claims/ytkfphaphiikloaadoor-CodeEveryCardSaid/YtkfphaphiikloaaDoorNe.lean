/-
  THE NUMBERS OF THIS PROGRAM, PART E: functions that read a list.
-/
import Derived.Test.YtkfphaphiikloaaDoorNd
import Derived.Laws.Externs
set_option linter.unusedSimpArgs false
set_option linter.unusedVariables false
set_option linter.constructorNameAsVariable false
set_option linter.unusedSimpArgs false
namespace Go.Proofs.YtkfphaphiikloaaDoor
open Go Go.Eng

def deIs : List AV → Option (List Int)
  | [] => some []
  | a :: r => match deI a, deIs r with
    | some n, some l => some (n :: l)
    | _, _ => none
/-- The numbers of a list. -/
def ints (h : Heap) : AV → Option (List Int)
  | .s id ver off len => match h id with
    | some k => if k.ver = ver ∧ off + len ≤ k.cells.length then deIs ((k.cells.drop off).take len) else none
    | none => none
  | .v (.slice none n m) => if n = 0 ∧ m = 0 then some [] else none
  | _ => none
theorem deIs_out : ∀ {xs : List AV} {l : List Int}, deIs xs = some l → l.length = xs.length ∧ ∀ i, i < l.length → xs[i]? = some (ii (l.getD i 0))
  | [], l, h => by
    simp only [deIs, Option.some.injEq] at h
    subst h
    exact ⟨rfl, fun i hi => absurd hi (Nat.not_lt_zero i)⟩
  | a :: r, l, h => by
    simp only [deIs] at h
    split at h
    · rename_i n l' e1 e2
      simp only [Option.some.injEq] at h
      subst h
      obtain ⟨q1, q2⟩ := deIs_out e2
      refine ⟨by simp [q1], fun i hi => ?_⟩
      cases i with
      | zero => simp [deI_out e1, ii]
      | succ i => simpa using q2 i (by simpa using hi)
    · cases h
theorem ints_cases {h : Heap} {a : AV} {l : List Int} (e : ints h a = some l) : (a = .v (.slice none 0 0) ∧ l = []) ∨
    ∃ id off k, a = .s id k.ver off l.length ∧ h id = some k ∧ off + l.length ≤ k.cells.length ∧ ∀ i, i < l.length → k.cells[off + i]? = some (ii (l.getD i 0)) := by
  unfold ints at e
  split at e
  · rename_i id ver off len
    split at e
    · rename_i k hk
      split at e
      · rename_i hc
        obtain ⟨q1, q2⟩ := deIs_out e
        have hl : l.length = len := by rw [q1, List.length_take, List.length_drop]; omega
        refine .inr ⟨id, off, k, by rw [hc.1, hl], hk, by omega, fun i hi => ?_⟩
        have := q2 i hi
        rw [List.getElem?_take, if_pos (by omega), List.getElem?_drop] at this
        exact this
      · cases e
    · cases e
  · split at e
    · rename_i hc
      cases e
      rw [hc.1, hc.2]
      exact .inl ⟨rfl, rfl⟩
    · cases e
  · cases e
theorem ints_mono {h h' : Heap} (hh : ∀ i k, h i = some k → h' i = some k) {a : AV} {l : List Int} (e : ints h a = some l) : ints h' a = some l := by
  unfold ints at e ⊢
  split at e
  · split at e
    · rename_i hk
      simp only [hh _ _ hk]
      exact e
    · cases e
  · exact e
  · cases e
def big : Nat := 4611686018427387904
section
variable {α : Type}
/-- Of a list of numbers, and of something else. -/
def pureL (f : List Int → AV) : List AV → Heap → PRes
  | [x], h => match ints h x with
    | some l => ⟨l.length < big, f l⟩
    | none => ⟨False, .any⟩
  | _, _ => ⟨False, .any⟩
def pureAL (da : AV → Option α) (p : α → List Int → Prop) (f : α → List Int → AV) : List AV → Heap → PRes
  | [y, x], h => match da y, ints h x with
    | some a, some l => ⟨l.length < big ∧ p a l, f a l⟩
    | _, _ => ⟨False, .any⟩
  | _, _ => ⟨False, .any⟩
def pureLA (da : AV → Option α) (p : α → List Int → Prop) (f : α → List Int → AV) : List AV → Heap → PRes
  | [x, y], h => match da y, ints h x with
    | some a, some l => ⟨l.length < big ∧ p a l, f a l⟩
    | _, _ => ⟨False, .any⟩
  | _, _ => ⟨False, .any⟩
theorem pureL_out {f : List Int → AV} {args : List AV} {h : Heap} (hs : (pureL f args h).side) : ∃ x l, args = [x] ∧ ints h x = some l ∧ l.length < big ∧ ∀ h', (∀ i k, h i = some k → h' i = some k) → pureL f args h' = ⟨l.length < big, f l⟩ := by
  unfold pureL at hs
  split at hs
  · split at hs
    · rename_i e
      refine ⟨_, _, rfl, e, hs, fun h' hh => ?_⟩
      simp only [pureL, ints_mono hh e]
    · exact hs.elim
  · exact hs.elim
theorem pureAL_out {da : AV → Option α} {p : α → List Int → Prop} {f : α → List Int → AV} {args : List AV} {h : Heap} (hs : (pureAL da p f args h).side) : ∃ y a x l, args = [y, x] ∧ da y = some a ∧ ints h x = some l ∧ l.length < big ∧ p a l ∧ ∀ h', (∀ i k, h i = some k → h' i = some k) → pureAL da p f args h' = ⟨l.length < big ∧ p a l, f a l⟩ := by
  unfold pureAL at hs
  split at hs
  · split at hs
    · rename_i e1 e2
      refine ⟨_, _, _, _, rfl, e1, e2, hs.1, hs.2, fun h' hh => ?_⟩
      simp only [pureAL, e1, ints_mono hh e2]
    · exact hs.elim
  · exact hs.elim
theorem pureLA_out {da : AV → Option α} {p : α → List Int → Prop} {f : α → List Int → AV} {args : List AV} {h : Heap} (hs : (pureLA da p f args h).side) : ∃ x y a l, args = [x, y] ∧ da y = some a ∧ ints h x = some l ∧ l.length < big ∧ p a l ∧ ∀ h', (∀ i k, h i = some k → h' i = some k) → pureLA da p f args h' = ⟨l.length < big ∧ p a l, f a l⟩ := by
  unfold pureLA at hs
  split at hs
  · split at hs
    · rename_i e1 e2
      refine ⟨_, _, _, _, rfl, e1, e2, hs.1, hs.2, fun h' hh => ?_⟩
      simp only [pureLA, e1, ints_mono hh e2]
    · exact hs.elim
  · exact hs.elim
end
section
variable {α : Type} {S : List Nat} {l : List (FuncId × (List AV → Heap → PRes))} {f : FuncId} {fn : Func} {c : Code}
theorem mkL (ok : TbOk S l) (hf : Tryd.prog.funcs[f]? = some fn) (hb : fn.body = some c) (hok : (!(fn.name == "runtime.NumGoroutine") && fnOk (cx S (pfL l)) fn c && decide (1 ≤ fn.ntmps)) = true) {g : List Int → AV} (hg : ∀ a, (g a).free = true)
    (h1 : ∀ a l' h n, ints h a = some l' → l'.length < big → (∀ i, n ≤ i → h i = none) → awp (cx S (pfL l)) c (finQ (cx S (pfL l)) fn fun z _ _ => z = g l') ⟨env0 [a], roH h, n⟩) : P0 S f (pureL g) := by
  have hok' := hok3 hok
  exact pure_any (fun _ hx => hx) (pure_of_awp (pfL_ok ok) (mixed _ _) hf hb hok'.2.1 (callable hf hok'.1 (by rw [hb]; rfl) _ _) (fun args h h' hh hs => by
      obtain ⟨x, l', rfl, e, hl, hall⟩ := pureL_out hs
      rw [hall h' hh, hall h (fun _ _ e => e)]
      exact ⟨hl, rfl⟩) fun args h hs => by
    obtain ⟨x, l', rfl, e, hl, hall⟩ := pureL_out hs
    have ev := hall h (fun _ _ e => e)
    exact ⟨hok'.2.2, by rw [ev]; exact hg l', fun n hn => by rw [ev]; exact h1 x l' h n e hl hn⟩)
theorem mkAL (ok : TbOk S l) (hf : Tryd.prog.funcs[f]? = some fn) (hb : fn.body = some c) (hok : (!(fn.name == "runtime.NumGoroutine") && fnOk (cx S (pfL l)) fn c && decide (2 ≤ fn.ntmps)) = true) {da : AV → Option α} (en : α → AV) (hd : ∀ x a, da x = some a → x = en a) {p : α → List Int → Prop} {g : α → List Int → AV} (hg : ∀ a b, (g a b).free = true)
    (h1 : ∀ o a l' h n, ints h a = some l' → l'.length < big → p o l' → (∀ i, n ≤ i → h i = none) → awp (cx S (pfL l)) c (finQ (cx S (pfL l)) fn fun z _ _ => z = g o l') ⟨env0 [en o, a], roH h, n⟩) : P0 S f (pureAL da p g) := by
  have hok' := hok3 hok
  exact pure_any (fun _ hx => hx) (pure_of_awp (pfL_ok ok) (mixed _ _) hf hb hok'.2.1 (callable hf hok'.1 (by rw [hb]; rfl) _ _) (fun args h h' hh hs => by
      obtain ⟨y, o, x, l', rfl, e0, e, hl, hp, hall⟩ := pureAL_out hs
      rw [hall h' hh, hall h (fun _ _ e => e)]
      exact ⟨⟨hl, hp⟩, rfl⟩) fun args h hs => by
    obtain ⟨y, o, x, l', rfl, e0, e, hl, hp, hall⟩ := pureAL_out hs
    have ev := hall h (fun _ _ e => e)
    obtain rfl := hd y o e0
    exact ⟨hok'.2.2, by rw [ev]; exact hg o l', fun n hn => by rw [ev]; exact h1 o x l' h n e hl hp hn⟩)
theorem mkLA (ok : TbOk S l) (hf : Tryd.prog.funcs[f]? = some fn) (hb : fn.body = some c) (hok : (!(fn.name == "runtime.NumGoroutine") && fnOk (cx S (pfL l)) fn c && decide (2 ≤ fn.ntmps)) = true) {da : AV → Option α} (en : α → AV) (hd : ∀ x a, da x = some a → x = en a) {p : α → List Int → Prop} {g : α → List Int → AV} (hg : ∀ a b, (g a b).free = true)
    (h1 : ∀ o a l' h n, ints h a = some l' → l'.length < big → p o l' → (∀ i, n ≤ i → h i = none) → awp (cx S (pfL l)) c (finQ (cx S (pfL l)) fn fun z _ _ => z = g o l') ⟨env0 [a, en o], roH h, n⟩) : P0 S f (pureLA da p g) := by
  have hok' := hok3 hok
  exact pure_any (fun _ hx => hx) (pure_of_awp (pfL_ok ok) (mixed _ _) hf hb hok'.2.1 (callable hf hok'.1 (by rw [hb]; rfl) _ _) (fun args h h' hh hs => by
      obtain ⟨x, y, o, l', rfl, e0, e, hl, hp, hall⟩ := pureLA_out hs
      rw [hall h' hh, hall h (fun _ _ e => e)]
      exact ⟨⟨hl, hp⟩, rfl⟩) fun args h hs => by
    obtain ⟨x, y, o, l', rfl, e0, e, hl, hp, hall⟩ := pureLA_out hs
    have ev := hall h (fun _ _ e => e)
    obtain rfl := hd y o e0
    exact ⟨hok'.2.2, by rw [ev]; exact hg o l', fun n hn => by rw [ev]; exact h1 o x l' h n e hl hp hn⟩)
end

/-! ### the sum with carry, which the model stands in for -/
def g67 : List AV → Heap → PRes := fun args _ => match args with
  | [.v (.int .u64 x), .v (.int .u64 y), .v (.int .u64 c)] => ⟨0 ≤ x ∧ 0 ≤ y ∧ 0 ≤ c ∧ c ≤ 1, .t [uu ((x + y + c) % 18446744073709551616), uu ((x + y + c) / 18446744073709551616)]⟩
  | _ => ⟨False, .any⟩
theorem p67 : P0 [] 159 g67 := by
  refine ⟨fun args h h' _ hs => ⟨hs, rfl⟩, .inr fun ρ h w args vs hv hs => ?_⟩
  unfold g67 at hs ⊢
  split at hs
  · rename_i x y c
    simp only [VRs, VR] at hv
    obtain ⟨_, _, rfl, rfl, _, _, rfl, rfl, _, _, rfl, rfl, rfl⟩ := hv
    obtain ⟨h1, h2, h3, h4⟩ := hs
    refine ⟨.tuple #[.int .u64 ((x + y + c) % 18446744073709551616), .int .u64 ((x + y + c) / 18446744073709551616)], ?_, ?_⟩
    · rw [cx_P, run_callFunc_extern Tryd.func159 (by kernel_rfl) (by kernel_rfl) (by kernel_rfl) (e := add64Entry) (by kernel_rfl), run_add64 x y c h1 h2 h3 h4]
      rfl
    · simp only [VR, uu]
      exact ⟨[_, _], rfl, by simp [VRs, VR]⟩
  · exact hs.elim
end Go.Proofs.YtkfphaphiikloaaDoor
