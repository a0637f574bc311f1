/-
  THE NUMBERS OF THIS PROGRAM, PART D: the rest of what needs no list.
-/
import Derived.Test.YtkfphaphiikloaaDoorX10
import Derived.Laws.Externs
set_option linter.unusedSimpArgs false
set_option linter.unusedVariables false
set_option linter.constructorNameAsVariable false
namespace Go.Proofs.YtkfphaphiikloaaDoor
open Go Go.Eng


theorem p21 : P0 [] 134 g17 := by
  refine mk2 (S := []) (tb_cons p49 (tb_cons p50 tb_nil)) Tryd.func134 rfl (by kernel_rfl) vv (fun x a h => deV_out h) vv (fun x a h => deV_out h) (fun a b => rfl) (fun a b h n => ?_)
  rcases rank3 a with e | e | e <;> rcases rank3 b with e' | e' | e' <;> simp [evs, aeval, binS, cx_ti, cx_G, cx_pf, cx_tw, ti, globS, glob, ldcs, sls, slc, pfL, g49, g50, pure1, deV, deI, ii, vv, andV, e, e', ofRank]
theorem p22 : P0 [] 135 g18 := by
  refine mk2 (S := []) (tb_cons p49 (tb_cons p50 tb_nil)) Tryd.func135 rfl (by kernel_rfl) vv (fun x a h => deV_out h) vv (fun x a h => deV_out h) (fun a b => rfl) (fun a b h n => ?_)
  rcases rank3 a with e | e | e <;> rcases rank3 b with e' | e' | e' <;> simp [evs, aeval, binS, cx_ti, cx_G, cx_pf, cx_tw, ti, globS, glob, ldcs, sls, slc, pfL, g49, g50, pure1, deV, deI, ii, vv, orV, e, e', ofRank]
theorem p23 : P0 [] 106 g19 := by
  refine mk1 (S := []) (tb_cons p49 (tb_cons p50 tb_nil)) Tryd.func106 rfl (by kernel_rfl) vv (fun x a h => deV_out h) (fun a => rfl) (fun a h n => ?_)
  rcases rank3 a with e | e | e <;> simp [evs, aeval, binS, cx_ti, cx_G, cx_pf, cx_tw, ti, globS, glob, ldcs, sls, slc, pfL, g49, g50, pure1, deV, deI, ii, vv, notV, e, ofRank, IntKind.wrap, IntKind.bits, IntKind.signed]
theorem p24 : P0 [] 64 g20 := by
  refine mk1 (S := []) (tb_cons p49 tb_nil) Tryd.func64 rfl (by kernel_rfl) vv (fun x a h => deV_out h) (fun a => rfl) (fun a h n => ?_)
  simp [evs, aeval, binS, cx_ti, cx_G, cx_pf, cx_tw, ti, globS, glob, ldcs, sls, slc, pfL, g49, pure1, deV, ii, vv, bv, trueV]
def raddL (a b : V) : V := if a.k && b.k then fitL (plusL (widenL a.n) (widenL b.n)) else unk
def rsubL (a b : V) : V := if a.k && b.k then fitL (minusL (widenL a.n) (widenL b.n)) else unk
def rmulL (a b : V) : V := if a.k && b.k then (if b.n = 0 then knownV 0 else if b.n = -1 then negL a else if W ((W (a.n * b.n)).tdiv b.n) != a.n then unk else knownV (W (a.n * b.n))) else unk
def rdivL (a b : V) : V := if a.k && b.k && b.n != 0 then (if b.n == -1 then negL a else knownV (W (a.n.tdiv b.n))) else unk
def rmodL (a b : V) : V := if a.k && b.k && b.n != 0 then (if b.n == -1 then knownV 0 else knownV (W (a.n - W (b.n * W (a.n.tdiv b.n))))) else unk
def g38 := pure2 deV deV fun a b => vv (raddL a b)
def g39 := pure2 deV deV fun a b => vv (rsubL a b)
def g40 := pure2 deV deV fun a b => vv (rmulL a b)
def g28 := pure2 deV deV fun a b => vv (rdivL a b)
def g29 := pure2 deV deV fun a b => vv (rmodL a b)
theorem p38 : P0 [] 129 g38 := by
  refine mk2 (S := []) (tb_cons p63 (tb_cons p62 (tb_cons p61 (tb_cons p52 tb_nil)))) Tryd.func129 rfl (by kernel_rfl) vv (fun x a h => deV_out h) vv (fun x a h => deV_out h) (fun a b => rfl) (fun a b h n => ?_)
  obtain ⟨k, m⟩ := a
  obtain ⟨k', m'⟩ := b
  cases k <;> cases k' <;> simp [evs, aeval, binS, cx_ti, cx_G, cx_pf, cx_tw, ti, globS, glob, ldcs, sls, slc, pfL, g52, g61, g62, g63, pure1, pure2, deI, deW, ii, vv, ww, raddL, unk]
theorem p39 : P0 [] 130 g39 := by
  refine mk2 (S := []) (tb_cons p63 (tb_cons p64 (tb_cons p61 (tb_cons p52 tb_nil)))) Tryd.func130 rfl (by kernel_rfl) vv (fun x a h => deV_out h) vv (fun x a h => deV_out h) (fun a b => rfl) (fun a b h n => ?_)
  obtain ⟨k, m⟩ := a
  obtain ⟨k', m'⟩ := b
  cases k <;> cases k' <;> simp [evs, aeval, binS, cx_ti, cx_G, cx_pf, cx_tw, ti, globS, glob, ldcs, sls, slc, pfL, g52, g61, g64, g63, pure1, pure2, deI, deW, ii, vv, ww, rsubL, unk]
theorem p40 : P0 [] 131 g40 := by
  refine mk2 (S := []) (tb_cons p52 (tb_cons p53 (tb_cons p41 tb_nil))) Tryd.func131 rfl (by kernel_rfl) vv (fun x a h => deV_out h) vv (fun x a h => deV_out h) (fun a b => rfl) (fun a b h n => ?_)
  obtain ⟨k, m⟩ := a
  obtain ⟨k', m'⟩ := b
  cases k <;> cases k' <;> simp [evs, aeval, binS, cx_ti, cx_G, cx_pf, cx_tw, ti, globS, glob, ldcs, sls, slc, pfL, g52, g53, g37, pure1, deI, deV, ii, vv, rmulL, unk, knownV, W]
  all_goals grind
theorem p28 : P0 [] 132 g28 := by
  refine mk2 (S := []) (tb_cons p52 (tb_cons p53 (tb_cons p41 tb_nil))) Tryd.func132 rfl (by kernel_rfl) vv (fun x a h => deV_out h) vv (fun x a h => deV_out h) (fun a b => rfl) (fun a b h n => ?_)
  obtain ⟨k, m⟩ := a
  obtain ⟨k', m'⟩ := b
  cases k <;> cases k' <;> simp [evs, aeval, binS, cx_ti, cx_G, cx_pf, cx_tw, ti, globS, glob, ldcs, sls, slc, pfL, g52, g53, g37, pure1, deI, deV, ii, vv, rdivL, unk, knownV, W]
  all_goals grind
theorem p29 : P0 [] 133 g29 := by
  refine mk2 (S := []) (tb_cons p52 (tb_cons p53 tb_nil)) Tryd.func133 rfl (by kernel_rfl) vv (fun x a h => deV_out h) vv (fun x a h => deV_out h) (fun a b => rfl) (fun a b h n => ?_)
  obtain ⟨k, m⟩ := a
  obtain ⟨k', m'⟩ := b
  cases k <;> cases k' <;> simp [evs, aeval, binS, cx_ti, cx_G, cx_pf, cx_tw, ti, globS, glob, ldcs, sls, slc, pfL, g52, g53, pure1, deI, deV, ii, vv, rmodL, unk, knownV, W]
  all_goals grind
theorem p43 : P0 [] 136 g32 := by
  refine mk3 (S := []) (tb_cons p65 (tb_cons p52 tb_nil)) Tryd.func136 rfl (by kernel_rfl) ii (fun x a h => deI_out h) vv (fun x a h => deV_out h) vv (fun x a h => deV_out h) (fun o a b => rfl) (fun o a b h n => ?_)
  obtain ⟨k, m⟩ := a
  obtain ⟨k', m'⟩ := b
  cases k <;> cases k' <;> simp [evs, aeval, binS, cx_ti, cx_G, cx_pf, cx_tw, ti, globS, glob, ldcs, sls, slc, pfL, g65, g52, pure1, deB, ii, vv, cmpV, unk]
  by_cases h1 : o = 19
  · simp [h1]
  by_cases h2 : o = 20
  · simp [h2]
  by_cases h3 : o = 21
  · simp [h3]
  by_cases h4 : o = 22
  · simp [h4]
  by_cases h5 : o = 23
  · simp [h5]
  by_cases h6 : o = 24
  · simp [h6]
  simp [h1, h2, h3, h4, h5, h6]
def applyL (o : Int) (a b : V) : V := if o = 14 then addL a b else if o = 15 then subL a b else if o = 16 then mulL a b else if o = 17 then divL a b else if o = 18 then modL a b else if o = 25 then andV a b else if o = 26 then orV a b else cmpV o a b
def rapplyL (o : Int) (a b : V) : V := if o = 14 then raddL a b else if o = 15 then rsubL a b else if o = 16 then rmulL a b else if o = 17 then rdivL a b else if o = 18 then rmodL a b else if o = 25 then andV a b else if o = 26 then orV a b else cmpV o a b
def g42 := pure3 deI deV deV fun o a b => vv (applyL o a b)
def g44 := pure3 deI deV deV fun o a b => vv (rapplyL o a b)
theorem p42 : P0 [1, 3, 4, 5, 6] 47 g42 := by
  refine mk3 (S := [1, 3, 4, 5, 6]) (tb_cons p30 (tb_cons p31 (tb_cons p36 (tb_cons p26 (tb_cons p27 (tb_cons p17 (tb_cons p18 (tb_cons p32 tb_nil)))))))) Tryd.func47 rfl (by kernel_rfl) ii (fun x a h => deI_out h) vv (fun x a h => deV_out h) vv (fun x a h => deV_out h) (fun o a b => rfl) (fun o a b h n => ?_)
  simp [evs, aeval, binS, cx_ti, cx_G, cx_pf, cx_tw, ti, globS, glob, ldcs, sls, slc, pfL, g30, g31, g36, g26, g27, g17, g18, g32, pure2, pure3, deI, deV, ii, vv]
  by_cases h1 : o = 14
  · simp [h1, applyL]
  by_cases h2 : o = 15
  · simp [h2, applyL]
  by_cases h3 : o = 16
  · simp [h3, applyL]
  by_cases h4 : o = 17
  · simp [h4, applyL]
  by_cases h5 : o = 18
  · simp [h5, applyL]
  by_cases h6 : o = 25
  · simp [h6, applyL]
  by_cases h7 : o = 26
  · simp [h7, applyL]
  simp [h1, h2, h3, h4, h5, h6, h7, applyL]
theorem p44 : P0 [] 107 g44 := by
  refine mk3 (S := []) (tb_cons p38 (tb_cons p39 (tb_cons p40 (tb_cons p28 (tb_cons p29 (tb_cons p21 (tb_cons p22 (tb_cons p43 tb_nil)))))))) Tryd.func107 rfl (by kernel_rfl) ii (fun x a h => deI_out h) vv (fun x a h => deV_out h) vv (fun x a h => deV_out h) (fun o a b => rfl) (fun o a b h n => ?_)
  simp [evs, aeval, binS, cx_ti, cx_G, cx_pf, cx_tw, ti, globS, glob, ldcs, sls, slc, pfL, g38, g39, g40, g28, g29, g17, g18, g32, pure2, pure3, deI, deV, ii, vv]
  by_cases h1 : o = 14
  · simp [h1, rapplyL]
  by_cases h2 : o = 15
  · simp [h2, rapplyL]
  by_cases h3 : o = 16
  · simp [h3, rapplyL]
  by_cases h4 : o = 17
  · simp [h4, rapplyL]
  by_cases h5 : o = 18
  · simp [h5, rapplyL]
  by_cases h6 : o = 25
  · simp [h6, rapplyL]
  by_cases h7 : o = 26
  · simp [h7, rapplyL]
  simp [h1, h2, h3, h4, h5, h6, h7, rapplyL]
def placeL (i n : Int) : Int := if i.tmod n < 0 then W (i.tmod n + n) else i.tmod n
def deZ : AV → Option { n : Int // n ≠ 0 }
  | .v (.int .i64 n) => if h : n ≠ 0 then some ⟨n, h⟩ else none
  | _ => none
theorem deZ_out {x : AV} {a : { n : Int // n ≠ 0 }} (h : deZ x = some a) : x = ii a.1 := by
  unfold deZ at h
  split at h
  · split at h
    · cases h; rfl
    · cases h
  · cases h
def g25 := pure1 deI fun n => vv (knownV n)
def g58 := pure2 deI deZ fun i n => ii (placeL i n.1)
end Go.Proofs.YtkfphaphiikloaaDoor

/-
  THE NUMBERS OF THIS PROGRAM, PART E: functions that read a list.
-/
namespace Go.Proofs.YtkfphaphiikloaaDoor
open Go Go.Eng

def deIs : List AV → Option (List Int)
  | [] => some []
  | a :: r => match deI a, deIs r with
    | some n, some l => some (n :: l)
    | _, _ => none
/-- The numbers of a list. -/
def ints (h : Heap) : AV → Option (List Int)
  | .s id ver off len => match h id with
    | some k => if k.ver = ver ∧ off + len ≤ k.cells.length then deIs ((k.cells.drop off).take len) else none
    | none => none
  | .v (.slice none n m) => if n = 0 ∧ m = 0 then some [] else none
  | _ => none
theorem deIs_out : ∀ {xs : List AV} {l : List Int}, deIs xs = some l → l.length = xs.length ∧ ∀ i, i < l.length → xs[i]? = some (ii (l.getD i 0))
  | [], l, h => by
    simp only [deIs, Option.some.injEq] at h
    subst h
    exact ⟨rfl, fun i hi => absurd hi (Nat.not_lt_zero i)⟩
  | a :: r, l, h => by
    simp only [deIs] at h
    split at h
    · rename_i n l' e1 e2
      simp only [Option.some.injEq] at h
      subst h
      obtain ⟨q1, q2⟩ := deIs_out e2
      refine ⟨by simp [q1], fun i hi => ?_⟩
      cases i with
      | zero => simp [deI_out e1, ii]
      | succ i => simpa using q2 i (by simpa using hi)
    · cases h
theorem ints_cases {h : Heap} {a : AV} {l : List Int} (e : ints h a = some l) : (a = .v (.slice none 0 0) ∧ l = []) ∨
    ∃ id off k, a = .s id k.ver off l.length ∧ h id = some k ∧ off + l.length ≤ k.cells.length ∧ ∀ i, i < l.length → k.cells[off + i]? = some (ii (l.getD i 0)) := by
  unfold ints at e
  split at e
  · rename_i id ver off len
    split at e
    · rename_i k hk
      split at e
      · rename_i hc
        obtain ⟨q1, q2⟩ := deIs_out e
        have hl : l.length = len := by rw [q1, List.length_take, List.length_drop]; omega
        refine .inr ⟨id, off, k, by rw [hc.1, hl], hk, by omega, fun i hi => ?_⟩
        have := q2 i hi
        rw [List.getElem?_take, if_pos (by omega), List.getElem?_drop] at this
        exact this
      · cases e
    · cases e
  · split at e
    · rename_i hc
      cases e
      rw [hc.1, hc.2]
      exact .inl ⟨rfl, rfl⟩
    · cases e
  · cases e
theorem ints_mono {h h' : Heap} (hh : ∀ i k, h i = some k → h' i = some k) {a : AV} {l : List Int} (e : ints h a = some l) : ints h' a = some l := by
  unfold ints at e ⊢
  split at e
  · split at e
    · rename_i hk
      simp only [hh _ _ hk]
      exact e
    · cases e
  · exact e
  · cases e
def big : Nat := 4611686018427387904
section
variable {α : Type}
/-- Of a list of numbers, and of something else. -/
def pureL (f : List Int → AV) : List AV → Heap → PRes
  | [x], h => match ints h x with
    | some l => ⟨l.length < big, f l⟩
    | none => ⟨False, .any⟩
  | _, _ => ⟨False, .any⟩
def pureAL (da : AV → Option α) (p : α → List Int → Prop) (f : α → List Int → AV) : List AV → Heap → PRes
  | [y, x], h => match da y, ints h x with
    | some a, some l => ⟨l.length < big ∧ p a l, f a l⟩
    | _, _ => ⟨False, .any⟩
  | _, _ => ⟨False, .any⟩
def pureLA (da : AV → Option α) (p : α → List Int → Prop) (f : α → List Int → AV) : List AV → Heap → PRes
  | [x, y], h => match da y, ints h x with
    | some a, some l => ⟨l.length < big ∧ p a l, f a l⟩
    | _, _ => ⟨False, .any⟩
  | _, _ => ⟨False, .any⟩
theorem pureL_out {f : List Int → AV} {args : List AV} {h : Heap} (hs : (pureL f args h).side) : ∃ x l, args = [x] ∧ ints h x = some l ∧ l.length < big ∧ ∀ h', (∀ i k, h i = some k → h' i = some k) → pureL f args h' = ⟨l.length < big, f l⟩ := by
  unfold pureL at hs
  split at hs
  · split at hs
    · rename_i e
      refine ⟨_, _, rfl, e, hs, fun h' hh => ?_⟩
      simp only [pureL, ints_mono hh e]
    · exact hs.elim
  · exact hs.elim
theorem pureAL_out {da : AV → Option α} {p : α → List Int → Prop} {f : α → List Int → AV} {args : List AV} {h : Heap} (hs : (pureAL da p f args h).side) : ∃ y a x l, args = [y, x] ∧ da y = some a ∧ ints h x = some l ∧ l.length < big ∧ p a l ∧ ∀ h', (∀ i k, h i = some k → h' i = some k) → pureAL da p f args h' = ⟨l.length < big ∧ p a l, f a l⟩ := by
  unfold pureAL at hs
  split at hs
  · split at hs
    · rename_i e1 e2
      refine ⟨_, _, _, _, rfl, e1, e2, hs.1, hs.2, fun h' hh => ?_⟩
      simp only [pureAL, e1, ints_mono hh e2]
    · exact hs.elim
  · exact hs.elim
theorem pureLA_out {da : AV → Option α} {p : α → List Int → Prop} {f : α → List Int → AV} {args : List AV} {h : Heap} (hs : (pureLA da p f args h).side) : ∃ x y a l, args = [x, y] ∧ da y = some a ∧ ints h x = some l ∧ l.length < big ∧ p a l ∧ ∀ h', (∀ i k, h i = some k → h' i = some k) → pureLA da p f args h' = ⟨l.length < big ∧ p a l, f a l⟩ := by
  unfold pureLA at hs
  split at hs
  · split at hs
    · rename_i e1 e2
      refine ⟨_, _, _, _, rfl, e1, e2, hs.1, hs.2, fun h' hh => ?_⟩
      simp only [pureLA, e1, ints_mono hh e2]
    · exact hs.elim
  · exact hs.elim
end
section
variable {α : Type} {S : List Nat} {l : List (FuncId × (List AV → Heap → PRes))} {f : FuncId} {fn : Func} {c : Code}
theorem mkL (ok : TbOk S l) (hf : Tryd.prog.funcs[f]? = some fn) (hb : fn.body = some c) (hok : (!(fn.name == "runtime.NumGoroutine") && fnOk (cx S (pfL l)) fn c && decide (1 ≤ fn.ntmps)) = true) {g : List Int → AV} (hg : ∀ a, (g a).free = true)
    (h1 : ∀ a l' h n, ints h a = some l' → l'.length < big → (∀ i, n ≤ i → h i = none) → awp (cx S (pfL l)) c (finQ (cx S (pfL l)) fn fun z _ _ => z = g l') ⟨env0 [a], roH h, n⟩) : P0 S f (pureL g) := by
  have hok' := hok3 hok
  exact pure_any (fun _ hx => hx) (pure_of_awp (pfL_ok ok) (mixed _ _) hf hb hok'.2.1 (callable hf hok'.1 (by rw [hb]; rfl) _ _) (fun args h h' hh hs => by
      obtain ⟨x, l', rfl, e, hl, hall⟩ := pureL_out hs
      rw [hall h' hh, hall h (fun _ _ e => e)]
      exact ⟨hl, rfl⟩) fun args h hs => by
    obtain ⟨x, l', rfl, e, hl, hall⟩ := pureL_out hs
    have ev := hall h (fun _ _ e => e)
    exact ⟨hok'.2.2, by rw [ev]; exact hg l', fun n hn => by rw [ev]; exact h1 x l' h n e hl hn⟩)
theorem mkAL (ok : TbOk S l) (hf : Tryd.prog.funcs[f]? = some fn) (hb : fn.body = some c) (hok : (!(fn.name == "runtime.NumGoroutine") && fnOk (cx S (pfL l)) fn c && decide (2 ≤ fn.ntmps)) = true) {da : AV → Option α} (en : α → AV) (hd : ∀ x a, da x = some a → x = en a) {p : α → List Int → Prop} {g : α → List Int → AV} (hg : ∀ a b, (g a b).free = true)
    (h1 : ∀ o a l' h n, ints h a = some l' → l'.length < big → p o l' → (∀ i, n ≤ i → h i = none) → awp (cx S (pfL l)) c (finQ (cx S (pfL l)) fn fun z _ _ => z = g o l') ⟨env0 [en o, a], roH h, n⟩) : P0 S f (pureAL da p g) := by
  have hok' := hok3 hok
  exact pure_any (fun _ hx => hx) (pure_of_awp (pfL_ok ok) (mixed _ _) hf hb hok'.2.1 (callable hf hok'.1 (by rw [hb]; rfl) _ _) (fun args h h' hh hs => by
      obtain ⟨y, o, x, l', rfl, e0, e, hl, hp, hall⟩ := pureAL_out hs
      rw [hall h' hh, hall h (fun _ _ e => e)]
      exact ⟨⟨hl, hp⟩, rfl⟩) fun args h hs => by
    obtain ⟨y, o, x, l', rfl, e0, e, hl, hp, hall⟩ := pureAL_out hs
    have ev := hall h (fun _ _ e => e)
    obtain rfl := hd y o e0
    exact ⟨hok'.2.2, by rw [ev]; exact hg o l', fun n hn => by rw [ev]; exact h1 o x l' h n e hl hp hn⟩)
theorem mkLA (ok : TbOk S l) (hf : Tryd.prog.funcs[f]? = some fn) (hb : fn.body = some c) (hok : (!(fn.name == "runtime.NumGoroutine") && fnOk (cx S (pfL l)) fn c && decide (2 ≤ fn.ntmps)) = true) {da : AV → Option α} (en : α → AV) (hd : ∀ x a, da x = some a → x = en a) {p : α → List Int → Prop} {g : α → List Int → AV} (hg : ∀ a b, (g a b).free = true)
    (h1 : ∀ o a l' h n, ints h a = some l' → l'.length < big → p o l' → (∀ i, n ≤ i → h i = none) → awp (cx S (pfL l)) c (finQ (cx S (pfL l)) fn fun z _ _ => z = g o l') ⟨env0 [a, en o], roH h, n⟩) : P0 S f (pureLA da p g) := by
  have hok' := hok3 hok
  exact pure_any (fun _ hx => hx) (pure_of_awp (pfL_ok ok) (mixed _ _) hf hb hok'.2.1 (callable hf hok'.1 (by rw [hb]; rfl) _ _) (fun args h h' hh hs => by
      obtain ⟨x, y, o, l', rfl, e0, e, hl, hp, hall⟩ := pureLA_out hs
      rw [hall h' hh, hall h (fun _ _ e => e)]
      exact ⟨⟨hl, hp⟩, rfl⟩) fun args h hs => by
    obtain ⟨x, y, o, l', rfl, e0, e, hl, hp, hall⟩ := pureLA_out hs
    have ev := hall h (fun _ _ e => e)
    obtain rfl := hd y o e0
    exact ⟨hok'.2.2, by rw [ev]; exact hg o l', fun n hn => by rw [ev]; exact h1 o x l' h n e hl hp hn⟩)
end

/-! ### the sum with carry, which the model stands in for -/
def g67 : List AV → Heap → PRes := fun args _ => match args with
  | [.v (.int .u64 x), .v (.int .u64 y), .v (.int .u64 c)] => ⟨0 ≤ x ∧ 0 ≤ y ∧ 0 ≤ c ∧ c ≤ 1, .t [uu ((x + y + c) % 18446744073709551616), uu ((x + y + c) / 18446744073709551616)]⟩
  | _ => ⟨False, .any⟩
theorem p67 : P0 [] 159 g67 := by
  refine ⟨fun args h h' _ hs => ⟨hs, rfl⟩, .inr fun ρ h w args vs hv hs => ?_⟩
  unfold g67 at hs ⊢
  split at hs
  · rename_i x y c
    simp only [VRs, VR] at hv
    obtain ⟨_, _, rfl, rfl, _, _, rfl, rfl, _, _, rfl, rfl, rfl⟩ := hv
    obtain ⟨h1, h2, h3, h4⟩ := hs
    refine ⟨.tuple #[.int .u64 ((x + y + c) % 18446744073709551616), .int .u64 ((x + y + c) / 18446744073709551616)], ?_, ?_⟩
    · rw [cx_P, run_callFunc_extern Tryd.func159 (by kernel_rfl) (by kernel_rfl) (by kernel_rfl) (e := add64Entry) (by kernel_rfl), run_add64 x y c h1 h2 h3 h4]
      rfl
    · simp only [VR, uu]
      exact ⟨[_, _], rfl, by simp [VRs, VR]⟩
  · exact hs.elim
end Go.Proofs.YtkfphaphiikloaaDoor

/-
  THE NUMBERS OF THIS PROGRAM, THE PLAIN LAWS, A: what sums, products and quotients come to, in plain integers.
-/
namespace Go.Proofs.YtkfphaphiikloaaDoor
open Go Go.Eng

def Rng (n : Int) : Prop := -9223372036854775808 ≤ n ∧ n < 9223372036854775808
theorem W_def (n : Int) : W n = if 9223372036854775808 ≤ n % 18446744073709551616 then n % 18446744073709551616 - 18446744073709551616 else n % 18446744073709551616 := by
  simp [W, IntKind.wrap, IntKind.bits, IntKind.signed]
theorem U_def (n : Int) : U n = n % 18446744073709551616 := by
  simp [U, IntKind.wrap, IntKind.bits, IntKind.signed]
theorem W_spec (n : Int) : ∃ q : Int, W n = n - 18446744073709551616 * q ∧ Rng (W n) := by
  unfold Rng
  rw [W_def]
  refine ⟨(n + 9223372036854775808) / 18446744073709551616, ?_⟩
  by_cases h : 9223372036854775808 ≤ n % 18446744073709551616
  · simp only [h, if_true]
    omega
  · simp only [h, if_false]
    omega
theorem U_spec (n : Int) : ∃ q : Int, U n = n - 18446744073709551616 * q ∧ 0 ≤ U n ∧ U n < 18446744073709551616 := by
  rw [U_def]
  exact ⟨n / 18446744073709551616, by omega⟩
theorem W_id {n : Int} (h : Rng n) : W n = n := by
  obtain ⟨q, e, h1⟩ := W_spec n
  unfold Rng at *
  omega
theorem U_id {n : Int} (h : 0 ≤ n ∧ n < 18446744073709551616) : U n = n := by
  obtain ⟨q, e, h1⟩ := U_spec n
  omega
/-- A number if it fits, else none. -/
def fitV (n : Int) : V := if -9223372036854775808 ≤ n ∧ n < 9223372036854775808 then ⟨true, n⟩ else ⟨false, 0⟩
theorem fitV_pos {n : Int} (h : Rng n) : fitV n = ⟨true, n⟩ := if_pos h
theorem fitV_neg {n : Int} (h : ¬ Rng n) : fitV n = ⟨false, 0⟩ := if_neg h
def on2 (f : Int → Int → V) (a b : V) : V := if a.k && b.k then f a.n b.n else unk
def addV := on2 fun x y => fitV (x + y)
def subV := on2 fun x y => fitV (x - y)
def mulV := on2 fun x y => fitV (x * y)
def divV := on2 fun x y => if y = 0 then unk else fitV (x.tdiv y)
def modV := on2 fun x y => if y = 0 then unk else knownV (x.tmod y)
def negV (a : V) : V := if a.k then fitV (0 - a.n) else unk
section
variable {a b : V} (ha : Rng a.n) (hb : Rng b.n)
include ha hb
theorem addL_eq : addL a b = addV a b := by
  obtain ⟨q, e, h1⟩ := W_spec (a.n + b.n)
  unfold Rng at *
  simp only [addL, addV, on2, fitV, unk, knownV]
  split
  · split
    · rename_i hc
      simp only [gt_iff_lt, Bool.and_eq_true, bne_iff_ne, ne_eq, decide_eq_decide] at hc
      rw [if_neg]
      omega
    · rename_i hc
      simp only [gt_iff_lt, Bool.and_eq_true, bne_iff_ne, ne_eq, decide_eq_decide] at hc
      rw [if_pos (by omega)]
      congr 1
      omega
  · rfl
theorem subL_eq : subL a b = subV a b := by
  obtain ⟨q, e, h1⟩ := W_spec (a.n - b.n)
  unfold Rng at *
  simp only [subL, subV, on2, fitV, unk, knownV]
  split
  · split
    · rename_i hc
      simp only [gt_iff_lt, Bool.and_eq_true, bne_iff_ne, ne_eq, decide_eq_decide] at hc
      rw [if_neg]
      omega
    · rename_i hc
      simp only [gt_iff_lt, Bool.and_eq_true, bne_iff_ne, ne_eq, decide_eq_decide] at hc
      rw [if_pos (by omega)]
      congr 1
      omega
  · rfl
end
theorem negL_eq {a : V} (ha : Rng a.n) : negL a = negV a := by
  unfold Rng at *
  simp only [negL, negV, unk, knownV]
  cases hk : a.k
  · simp
  · by_cases hm : a.n = -9223372036854775808
    · simp [hm, fitV]
    · have : Rng (0 - a.n) := by unfold Rng; omega
      simp only [Bool.true_and, bne_iff_ne, ne_eq, hm, not_false_eq_true, if_true]
      rw [W_id this, fitV_pos this]
theorem tdiv_bounds {x y : Int} (hy : y ≠ 0) : x = y * x.tdiv y + x.tmod y ∧ (0 ≤ x → 0 ≤ x.tmod y) ∧ (x ≤ 0 → x.tmod y ≤ 0) ∧ (0 < y → x.tmod y < y ∧ -y < x.tmod y) ∧ (y < 0 → x.tmod y < -y ∧ y < x.tmod y) := by
  refine ⟨(Int.mul_tdiv_add_tmod x y).symm, fun h => Int.tmod_nonneg y h, fun h => ?_, fun h => ?_, fun h => ?_⟩
  · have := Int.tmod_nonneg y (a := -x) (by omega)
    rw [Int.neg_tmod] at this
    omega
  · have h1 := Int.tmod_lt_of_pos x h
    have h2 := Int.tmod_lt_of_pos (-x) h
    rw [Int.neg_tmod] at h2
    omega
  · have h1 := Int.tmod_lt_of_pos x (b := -y) (by omega)
    have h2 := Int.tmod_lt_of_pos (-x) (b := -y) (by omega)
    rw [Int.tmod_neg] at h1 h2
    rw [Int.neg_tmod] at h2
    omega
/-- A quotient is no farther from nought than what is divided. -/
theorem tdiv_rng {x y : Int} (hx : Rng x) (hy : y ≠ 0) (hm : ¬ (x = -9223372036854775808 ∧ y = -1)) : Rng (x.tdiv y) := by
  have h1 : (x.tdiv y).natAbs ≤ x.natAbs := by rw [Int.natAbs_tdiv]; exact Nat.div_le_self _ _
  unfold Rng at *
  by_cases hx2 : x = -9223372036854775808
  · by_cases h2 : (x.tdiv y).natAbs = 9223372036854775808
    · rw [Int.natAbs_tdiv, hx2] at h2
      change 9223372036854775808 / y.natAbs = 9223372036854775808 at h2
      have h3 : y.natAbs = 1 := by
        have h5 : 9223372036854775808 / y.natAbs * y.natAbs ≤ 9223372036854775808 := Nat.div_mul_le_self _ _
        rw [h2] at h5
        omega
      have h4 : y = 1 := by omega
      subst h4
      rw [Int.tdiv_one]
      omega
    · omega
  · omega
theorem divL_eq {a b : V} (ha : Rng a.n) : divL a b = divV a b := by
  simp only [divL, divV, on2]
  cases hk : (a.k && b.k)
  · simp
  · by_cases hz : b.n = 0
    · simp [hz]
    · simp only [Bool.true_and, bne_iff_ne, ne_eq, hz, not_false_eq_true, if_true, if_false]
      by_cases hm : a.n = -9223372036854775808 ∧ b.n = -1
      · simp [hm.1, hm.2, fitV, unk]
      · have h1 := tdiv_rng ha hz hm
        rw [if_neg (by simpa using hm), W_id h1]
        rw [fitV_pos h1]
        rfl
theorem modL_eq {a b : V} : modL a b = modV a b := by
  simp only [modL, modV, on2]
  cases hk : (a.k && b.k)
  · simp
  · by_cases hz : b.n = 0
    · simp [hz]
    · simp only [Bool.true_and, bne_iff_ne, ne_eq, hz, not_false_eq_true, if_true, if_false]
      by_cases hm : b.n = -1
      · simp [hm, knownV]
      · simp [hm, knownV]
theorem rdivL_eq {a b : V} (ha : Rng a.n) : rdivL a b = divV a b := by
  simp only [rdivL, divV, on2]
  cases hk : (a.k && b.k)
  · simp
  · by_cases hz : b.n = 0
    · simp [hz]
    · simp only [Bool.true_and, bne_iff_ne, ne_eq, hz, not_false_eq_true, if_true, if_false]
      by_cases hm : b.n = -1
      · simp only [Bool.and_eq_true] at hk
        rw [if_pos (by simpa using hm), negL_eq ha]
        simp [negV, hk.1, hm]
      · have h1 := tdiv_rng ha hz (fun h => hm h.2)
        rw [if_neg (by simpa using hm), W_id h1]
        rw [fitV_pos h1]
        rfl
theorem rmodL_eq {a b : V} (ha : Rng a.n) (hb : Rng b.n) : rmodL a b = modV a b := by
  simp only [rmodL, modV, on2]
  cases hk : (a.k && b.k)
  · simp
  · by_cases hz : b.n = 0
    · simp [hz]
    · simp only [Bool.true_and, bne_iff_ne, ne_eq, hz, not_false_eq_true, if_true, if_false]
      by_cases hm : b.n = -1
      · simp [hm, knownV]
      · have h1 := tdiv_rng ha hz (fun h => hm h.2)
        obtain ⟨t1, t2, t3, t4, t5⟩ := tdiv_bounds (x := a.n) hz
        have h2 : Rng (b.n * a.n.tdiv b.n) := by
          unfold Rng at *
          rcases Int.lt_or_gt_of_ne hz with h | h
          · have := t5 h; omega
          · have := t4 h; omega
        rw [if_neg (by simpa using hm), W_id h1, W_id h2]
        have h3 : a.n - b.n * a.n.tdiv b.n = a.n.tmod b.n := by omega
        rw [h3, W_id]
        unfold Rng at *
        rcases Int.lt_or_gt_of_ne hz with h | h
        · have := t5 h; omega
        · have := t4 h; omega
end Go.Proofs.YtkfphaphiikloaaDoor

/-
  THE NUMBERS OF THIS PROGRAM, PART F: sums and aggregates.
-/
namespace Go.Proofs.YtkfphaphiikloaaDoor
open Go Go.Eng

def sgn (x : Int) : Int := x.fdiv (2 ^ min 63 IntKind.i64.bits)
/-- One more number on a sum of two words. -/
def sumStep (s : Int × Int) (x : Int) : Int × Int :=
  ((s.1 + U (sgn x) + (s.2 + U x + 0) / 18446744073709551616) % 18446744073709551616, (s.2 + U x + 0) % 18446744073709551616)
def sumAt (l : List Int) (j : Nat) : Int × Int := (l.take j).foldl sumStep (0, 0)
theorem sumAt_succ {l : List Int} {j : Nat} (h : j < l.length) : sumAt l (j + 1) = sumStep (sumAt l j) (l.getD j 0) := by
  unfold sumAt
  rw [List.take_add_one, List.getElem?_eq_getElem h, List.foldl_append]
  simp [List.getD_eq_getElem?_getD, List.getElem?_eq_getElem h]
theorem sumAt_rng (l : List Int) (j : Nat) : (0 ≤ (sumAt l j).1 ∧ (sumAt l j).1 < 18446744073709551616) ∧ 0 ≤ (sumAt l j).2 ∧ (sumAt l j).2 < 18446744073709551616 := by
  have : ∀ (m : List Int) (s : Int × Int), ((0 ≤ s.1 ∧ s.1 < 18446744073709551616) ∧ 0 ≤ s.2 ∧ s.2 < 18446744073709551616) → ((0 ≤ (m.foldl sumStep s).1 ∧ (m.foldl sumStep s).1 < 18446744073709551616) ∧ 0 ≤ (m.foldl sumStep s).2 ∧ (m.foldl sumStep s).2 < 18446744073709551616) := fun m => by
    induction m with
    | nil => exact fun s h => h
    | cons x m ih => exact fun s h => ih _ (by unfold sumStep; simp only []; omega)
  exact this _ _ (by simp)
def sumL (l : List Int) : V := if W (sumAt l l.length).1 != sgn (W (sumAt l l.length).2) then unk else knownV (W (sumAt l l.length).2)
def g55 := pureL fun l => vv (sumL l)
theorem wrap_nat {j : Nat} (h : j < big) : IntKind.i64.wrap ((j : Int) + 1) = ((j + 1 : Nat) : Int) := by
  unfold big at h
  have e : IntKind.i64.wrap ((j : Int) + 1) = if 9223372036854775808 ≤ ((j : Int) + 1) % 18446744073709551616 then ((j : Int) + 1) % 18446744073709551616 - 18446744073709551616 else ((j : Int) + 1) % 18446744073709551616 := by
    simp [IntKind.wrap, IntKind.bits, IntKind.signed]
  rw [e]
  split <;> omega
theorem ro_at {h : Heap} {id : Nat} {k : Blk} (hk : h id = some k) : roH h id = some ⟨k.cells, k.ver, false, k.esz⟩ := by simp [roH, hk, Blk.ro]
theorem ne_of {h : Heap} {id n : Nat} {k : Blk} (hk : h id = some k) (hn : ∀ i, n ≤ i → h i = none) : ∀ j, ¬ id = n + j := fun j e => by
  have := hn id (by omega)
  rw [hk] at this
  cases this
def tb55 : List (FuncId × (List AV → Heap → PRes)) := [(74, g51), (159, g67)]
set_option maxRecDepth 100000 in
theorem p55 : P0 [1] 144 g55 := by
  refine mkL (S := [1]) (l := tb55) (tb_cons p51 (tb_cons p67 tb_nil)) Tryd.func144 rfl (by kernel_rfl) (fun a => rfl) (fun a l h n hi hl hn => ?_)
  have key : ∀ e : Nat → AV, e 0 = a → awp (cx [1] (pfL tb55)) (Tryd.f144.body.getD .skip) (finQ (cx [1] (pfL tb55)) Tryd.f144 fun z _ _ => z = vv (sumL l)) ⟨e, roH h, n⟩ := fun e he => by
    rcases ints_cases hi with ⟨rfl, rfl⟩ | ⟨id, off, k, rfl, hk, hoff, hat⟩
    · simp [evs, aeval, binS, cx_ti, cx_G, cx_pf, cx_tw, ti, globS, glob, ldcs, sls, slc, pfL, Tryd.f144, he]
      refine awp_loop (fun s => s.e 12 = ii 0 ∧ s.e 11 = ii 0 ∧ s.e 2 = .p n 0 0 ∧ s.e 3 = uu 0 ∧ s.e 4 = uu 0 ∧ s.h = up (roH h) n (some ⟨[.v (.bool false), .v (.int .i64 0)], 0, true, 2⟩)) (fun _ => 0) (by simp [up, ii, uu]) ?_
      rintro e' h' n' ⟨q12, q11, q2, q3, q4, hh⟩
      simp only [] at q12 q11 q2 q3 q4 hh
      subst hh
      simp [evs, aeval, binS, cx_ti, cx_G, cx_pf, cx_tw, ti, globS, glob, ldcs, sls, slc, pfL, q12, q11, q2, q3, q4, ii, uu, tb55, g51, pure1, deI, vv, knownV, sumL, sumAt, sgn, W, unk]
      decide
    · have h0 := ne_of hk hn 0
      have hro := ro_at hk
      simp only [Nat.add_zero] at h0
      simp [evs, aeval, binS, cx_ti, cx_G, cx_pf, cx_tw, ti, globS, glob, ldcs, sls, slc, pfL, Tryd.f144, he]
      refine awp_loop (fun s => ∃ j, j ≤ l.length ∧ s.e 10 = .s id k.ver off l.length ∧ s.e 12 = ii j ∧ s.e 11 = ii l.length ∧ s.e 2 = .p n 0 0 ∧ s.e 3 = uu (sumAt l j).1 ∧ s.e 4 = uu (sumAt l j).2 ∧ s.h = up (roH h) n (some ⟨[.v (.bool false), .v (.int .i64 0)], 0, true, 2⟩)) (fun s => l.length - (s.e 12).i.toNat) ⟨0, by simp [up, ii, uu, sumAt]⟩ ?_
      rintro e' h' n' ⟨j, hj, q10, q12, q11, q2, q3, q4, hh⟩
      simp only [] at q10 q12 q11 q2 q3 q4 hh
      subst hh
      by_cases hlt : j < l.length
      · have hget := hat j hlt
        have hw := wrap_nat (j := j) (by omega)
        obtain ⟨⟨r1, r2⟩, r3, r4⟩ := sumAt_rng l j
        have hs := sumAt_succ hlt
        simp [evs, aeval, binS, cx_ti, cx_G, cx_pf, cx_tw, ti, globS, glob, ldcs, sls, slc, pfL, q10, q12, q11, q2, q3, q4, ii, uu, tb55, g67, hlt, h0, hro, hget, hw]
        have eg : l.getD j 0 = l[j] := by simp [List.getD_eq_getElem?_getD, hlt]
        rw [eg] at hs
        obtain ⟨_, _, u1⟩ := U_spec l[j]
        obtain ⟨_, _, u2⟩ := U_spec (sgn l[j])
        have v1 : 0 ≤ IntKind.u64.wrap l[j] ∧ IntKind.u64.wrap l[j] < 18446744073709551616 := u1
        have v2 : 0 ≤ IntKind.u64.wrap (l[j].fdiv (2 ^ min 63 IntKind.i64.bits)) := u2.1
        refine ⟨by omega, ⟨r3, v1.1⟩, ⟨r1, v2, by omega, by omega⟩, ⟨j + 1, by omega, by omega, ?_, ?_⟩, by omega⟩
        · rw [hs]; simp [sumStep, sgn, U]
        · rw [hs]; simp [sumStep, U]
      · have hje : j = l.length := by omega
        subst hje
        simp [evs, aeval, binS, cx_ti, cx_G, cx_pf, cx_tw, ti, globS, glob, ldcs, sls, slc, pfL, q12, q11, q2, q3, q4, ii, uu, tb55, g51, pure1, deI, vv, knownV, sumL, sgn, W, unk]
        split <;> rename_i hc <;> simp [hc]
  exact key _ rfl
end Go.Proofs.YtkfphaphiikloaaDoor

/-
  THE NUMBERS OF THIS PROGRAM, THE PLAIN LAWS, B: products, and the reference's two halves.
-/
namespace Go.Proofs.YtkfphaphiikloaaDoor
open Go Go.Eng

theorem and_low (n : Int) : ((BitVec.ofInt 64 n &&& BitVec.ofInt 64 4294967295).toNat : Int) = n % 4294967296 := by
  have h : (BitVec.ofInt 64 n &&& BitVec.ofInt 64 4294967295).toNat = (n % 18446744073709551616).toNat % 4294967296 := by
    rw [BitVec.toNat_and, BitVec.toNat_ofInt, BitVec.toNat_ofInt]
    exact Nat.and_two_pow_sub_one_eq_mod _ 32
  rw [h]
  omega
theorem B_eq (n : Int) : B n = n % 4294967296 := by
  unfold B
  have : IntKind.u64.bits = 64 := rfl
  rw [this, and_low, U_id]
  omega
theorem S_eq {n : Int} : S n = n / 4294967296 := by
  unfold S
  have : (2 : Int) ^ min 32 IntKind.u64.bits = 4294967296 := rfl
  rw [this, Int.fdiv_eq_ediv_of_nonneg _ (by decide)]
theorem mul_bound {x y : Int} (hx : 0 ≤ x ∧ x ≤ 4294967295) (hy : 0 ≤ y ∧ y ≤ 4294967295) : 0 ≤ x * y ∧ x * y ≤ 18446744065119617025 := by
  refine ⟨Int.mul_nonneg hx.1 hy.1, ?_⟩
  exact Int.le_trans (Int.mul_le_mul hx.2 hy.2 hy.1 (by decide)) (by decide)
theorem mulHi_eq {x y : Int} (hx : 0 ≤ x ∧ x < 18446744073709551616) (hy : 0 ≤ y ∧ y < 18446744073709551616) : mulHi x y = x * y / 18446744073709551616 := by
  have hx0 : 0 ≤ x % 4294967296 ∧ x % 4294967296 ≤ 4294967295 := by omega
  have hy0 : 0 ≤ y % 4294967296 ∧ y % 4294967296 ≤ 4294967295 := by omega
  have hx1 : 0 ≤ x / 4294967296 ∧ x / 4294967296 ≤ 4294967295 := by omega
  have hy1 : 0 ≤ y / 4294967296 ∧ y / 4294967296 ≤ 4294967295 := by omega
  have ex : x = 4294967296 * (x / 4294967296) + x % 4294967296 := by omega
  have ey : y = 4294967296 * (y / 4294967296) + y % 4294967296 := by omega
  unfold mulHi mulT
  simp only [B_eq, S_eq]
  generalize x / 4294967296 = x1 at *
  generalize x % 4294967296 = x0 at *
  generalize y / 4294967296 = y1 at *
  generalize y % 4294967296 = y0 at *
  have e : x * y = 18446744073709551616 * (x1 * y1) + 4294967296 * (x1 * y0) + 4294967296 * (x0 * y1) + x0 * y0 := by
    rw [ex, ey]
    grind
  rw [e]
  have b00 := mul_bound hx0 hy0
  have b10 := mul_bound hx1 hy0
  have b01 := mul_bound hx0 hy1
  have b11 := mul_bound hx1 hy1
  generalize x0 * y0 = p00 at *
  generalize x1 * y0 = p10 at *
  generalize x0 * y1 = p01 at *
  generalize x1 * y1 = p11 at *
  rw [U_id (n := p10) (by omega), U_id (n := p00) (by omega), U_id (n := p01) (by omega), U_id (n := p11) (by omega), U_id (n := p10 + p00 / 4294967296) (by omega)]
  rw [U_id (n := (p10 + p00 / 4294967296) % 4294967296 + p01) (by omega), U_id (n := p11 + (p10 + p00 / 4294967296) / 4294967296) (by omega)]
  rw [U_id (by omega)]
  omega
theorem sizeU_eq {n : Int} (h : Rng n) : sizeU n = if n < 0 then -n else n := by
  unfold Rng at h
  have e : sizeU n = if n < 0 then U (0 - U n) else U n := rfl
  rw [e]
  split
  · rw [U_def, U_def]; omega
  · rw [U_def]; omega
theorem mulL_eq {a b : V} (ha : Rng a.n) (hb : Rng b.n) : mulL a b = mulV a b := by
  obtain ⟨k, m⟩ := a
  obtain ⟨k', m'⟩ := b
  simp only at ha hb
  cases k
  · simp [mulL, mulV, on2]
  cases k'
  · simp [mulL, mulV, on2]
  have h1 := sizeU_eq ha
  have h2 := sizeU_eq hb
  unfold Rng at *
  have r1 : 0 ≤ sizeU m ∧ sizeU m < 18446744073709551616 := by rw [h1]; split <;> omega
  have r2 : 0 ≤ sizeU m' ∧ sizeU m' < 18446744073709551616 := by rw [h2]; split <;> omega
  have ep : 0 ≤ sizeU m * sizeU m' := Int.mul_nonneg r1.1 r2.1
  have es : m * m' = if (decide (m < 0) != decide (m' < 0)) = true then -(sizeU m * sizeU m') else sizeU m * sizeU m' := by
    rw [h1, h2]
    by_cases q1 : m < 0 <;> by_cases q2 : m' < 0 <;> simp [q1, q2, Int.neg_mul, Int.mul_neg]
  simp only [mulL, mulV, on2, mulHi_eq r1 r2, mulNeg, Bool.and_self, if_true, unk, knownV]
  rw [es]
  clear es
  generalize sizeU m * sizeU m' = p at *
  unfold fitV
  rw [U_def p]
  obtain ⟨s, hs⟩ : ∃ s, (decide (m < 0) != decide (m' < 0)) = s := ⟨_, rfl⟩
  simp only [hs]
  cases s
  · simp only [Bool.false_and, Bool.false_eq_true, if_false, Bool.not_false, Bool.true_and, decide_eq_true_eq, bne_iff_ne, ne_eq]
    by_cases q : p / 18446744073709551616 = 0
    · rw [if_neg (by simpa using q)]
      by_cases q2 : p % 18446744073709551616 < 9223372036854775808
      · rw [if_pos q2, W_id (by unfold Rng; omega), if_pos (by omega)]
        congr 1; omega
      · rw [if_neg q2, if_neg (by omega)]
    · rw [if_pos (by simpa using q), if_neg (by omega)]
  · simp only [Bool.true_and, if_true, Bool.not_true, Bool.false_and, Bool.false_eq_true, if_false, decide_eq_true_eq, bne_iff_ne, ne_eq]
    by_cases q : p / 18446744073709551616 = 0
    · rw [if_neg (by simpa using q)]
      by_cases q2 : p % 18446744073709551616 ≤ 9223372036854775808
      · rw [if_pos q2, if_pos (by omega)]
        congr 1
        rw [W_def, U_def]
        split <;> omega
      · rw [if_neg q2, if_neg (by omega)]
    · rw [if_pos (by simpa using q), if_neg (by omega)]
theorem rmulL_eq {a b : V} (ha : Rng a.n) (hb : Rng b.n) : rmulL a b = mulV a b := by
  obtain ⟨k, m⟩ := a
  obtain ⟨k', m'⟩ := b
  simp only at ha hb
  cases k
  · simp [rmulL, mulV, on2]
  cases k'
  · simp [rmulL, mulV, on2]
  simp only [rmulL, mulV, on2, Bool.and_self, if_true]
  by_cases hz : m' = 0
  · subst hz
    simp [fitV, knownV]
  rw [if_neg hz]
  by_cases h1 : m' = -1
  · subst h1
    rw [if_pos rfl, negL_eq ha]
    simp only [negV, if_true]
    congr 1
    omega
  rw [if_neg h1]
  obtain ⟨q, e, hr⟩ := W_spec (m * m')
  have hr' := hr
  have ht : Rng ((W (m * m')).tdiv m') := tdiv_rng hr hz (fun h => h1 h.2)
  rw [W_id ht]
  obtain ⟨t1, t2, t3, t4, t5⟩ := tdiv_bounds (x := W (m * m')) hz
  by_cases hf : Rng (m * m')
  · rw [W_id hf, Int.mul_tdiv_cancel _ hz, if_neg (by simp), fitV_pos hf]
    rfl
  · rw [fitV_neg hf, if_pos]
    · rfl
    · simp only [bne_iff_ne, ne_eq]
      intro h2
      rw [h2] at t1
      rw [Int.mul_comm m' m] at t1
      have hq : q ≠ 0 := fun h => by rw [h] at e; rw [show m * m' = W (m * m') by omega] at hf; exact hf hr'
      unfold Rng at *
      generalize m * m' = p at *
      rcases Int.lt_or_gt_of_ne hz with h | h
      · have := t5 h; omega
      · have := t4 h; omega
theorem widen_eq {n : Int} : widenL n = (n / 4294967296, n % 4294967296) := by
  unfold widenL
  have h1 : (2 : Int) ^ min 32 IntKind.i64.bits = 4294967296 := rfl
  have h2 : IntKind.i64.bits = 64 := rfl
  rw [h1, h2, and_low, Int.fdiv_eq_ediv_of_nonneg _ (by decide), W_id]
  unfold Rng
  omega
theorem fitL_eq {h l : Int} (hh : -4611686018427387904 ≤ h ∧ h < 4611686018427387904) (hl : 0 ≤ l ∧ l < 4294967296) : fitL (h, l) = fitV (h * 4294967296 + l) := by
  unfold fitL fitV
  by_cases q : h < -2147483648 ∨ h ≥ 2147483648
  · rw [if_pos q, if_neg (by omega)]
    rfl
  · rw [if_neg q, if_pos (by omega), W_id (n := h * 4294967296) (by unfold Rng; omega), W_id (by unfold Rng; omega)]
    rfl
section
variable {a b : V} (ha : Rng a.n) (hb : Rng b.n)
include ha hb
theorem raddL_eq : raddL a b = addV a b := by
  unfold Rng at *
  simp only [raddL, addV, on2]
  split
  · rw [widen_eq, widen_eq]
    unfold plusL
    simp only []
    rw [W_id (n := a.n % 4294967296 + b.n % 4294967296) (by unfold Rng; omega), W_id (n := a.n / 4294967296 + b.n / 4294967296) (by unfold Rng; omega)]
    split
    · rw [W_id (n := a.n / 4294967296 + b.n / 4294967296 + 1) (by unfold Rng; omega), W_id (n := a.n % 4294967296 + b.n % 4294967296 - 4294967296) (by unfold Rng; omega), fitL_eq (by omega) (by omega)]
      congr 1; omega
    · rw [fitL_eq (by omega) (by omega)]
      congr 1; omega
  · rfl
theorem rsubL_eq : rsubL a b = subV a b := by
  unfold Rng at *
  simp only [rsubL, subV, on2]
  split
  · rw [widen_eq, widen_eq]
    unfold minusL
    simp only []
    rw [W_id (n := a.n % 4294967296 - b.n % 4294967296) (by unfold Rng; omega), W_id (n := a.n / 4294967296 - b.n / 4294967296) (by unfold Rng; omega)]
    split
    · rw [W_id (n := a.n / 4294967296 - b.n / 4294967296 - 1) (by unfold Rng; omega), W_id (n := a.n % 4294967296 - b.n % 4294967296 + 4294967296) (by unfold Rng; omega), fitL_eq (by omega) (by omega)]
      congr 1; omega
    · rw [fitL_eq (by omega) (by omega)]
      congr 1; omega
  · rfl
end
/-- Both sides answer alike, whatever is asked. -/
theorem apply_eq (o : Int) {a b : V} (ha : Rng a.n) (hb : Rng b.n) : applyL o a b = rapplyL o a b := by
  unfold applyL rapplyL
  rw [addL_eq ha hb, raddL_eq ha hb, subL_eq ha hb, rsubL_eq ha hb, mulL_eq ha hb, rmulL_eq ha hb, divL_eq ha, rdivL_eq ha, modL_eq, rmodL_eq ha hb]
end Go.Proofs.YtkfphaphiikloaaDoor
