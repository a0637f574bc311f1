/-
  CodeSpares, PART J: lists that grow by the columns of programs.
-/
import Derived.Test.YtkfphaphiikloaaDoorX25
import Derived.Test.YtkfphaphiikloaaDoorX34
set_option linter.unusedSimpArgs false
set_option linter.unusedVariables false
set_option linter.constructorNameAsVariable false
namespace Go.Proofs.YtkfphaphiikloaaDoor
open Go Go.Eng

/-- The blocks of lists. -/
structure FamB (A : Ap) (sz lo hi : Nat) (h : Heap) : Prop where
  nil : ∀ i, i < A.N → A.nl i = true → A.L i = 0
  at_ : ∀ i, i < A.N → A.nl i = false → lo ≤ A.b i ∧ A.b i < hi ∧ ∃ cs, h (A.b i) = some ⟨cs, A.u i, true, sz⟩ ∧ cs.length = A.L i * sz
  inj : ∀ i j, i < A.N → j < A.N → A.nl i = false → A.nl j = false → A.b i = A.b j → i = j
/-- And the list of them. -/
structure Fam (A : Ap) (sz lo hi : Nat) (lv : AV) (h : Heap) : Prop where
  b : FamB A sz lo hi h
  hl : (A.N = 0 ∧ lv = .v (.slice none 0 0)) ∨ (lv = .s A.wl A.ul 0 A.N ∧ lo ≤ A.wl ∧ A.wl < hi ∧ h A.wl = some ⟨A.cs, A.ul, true, 1⟩)
  ne : ∀ i, i < A.N → A.nl i = false → A.b i ≠ A.wl
/-- The blocks that they have. -/
def Ap.U (A : Ap) (lv : AV) (q : Nat) : Prop := (sid lv A.wl ∧ q = A.wl) ∨ ∃ j, j < A.N ∧ A.nl j = false ∧ q = A.b j
def Ap.app (A M : Ap) (w u : Nat) : Ap := ⟨A.N + M.N, fun j => if j < A.N then A.L j else M.L (j - A.N), fun j => if j < A.N then A.b j else M.b (j - A.N), fun j => if j < A.N then A.u j else M.u (j - A.N), fun j => if j < A.N then A.nl j else M.nl (j - A.N), w, u⟩
theorem Ap.app_c (A M : Ap) (w u j : Nat) : (A.app M w u).c j = if j < A.N then A.c j else M.c (j - A.N) := by
  unfold Ap.c Ap.app
  by_cases h : j < A.N
  · simp only [h, if_true]
  · simp only [h, if_false]
theorem Ap.app_cs (A M : Ap) (w u : Nat) : (A.app M w u).cs = A.cs ++ M.cs := by
  refine List.ext_getElem? fun i => ?_
  by_cases h1 : i < A.N
  · rw [Ap.cs_at _ (show i < (A.app M w u).N by simp only [Ap.app]; omega), Ap.app_c, if_pos h1, List.getElem?_append_left (by rw [A.cs_len]; exact h1), A.cs_at h1]
  · by_cases h2 : i < A.N + M.N
    · rw [Ap.cs_at _ (show i < (A.app M w u).N by simp only [Ap.app]; omega), Ap.app_c, if_neg h1, List.getElem?_append_right (by rw [A.cs_len]; omega), A.cs_len, M.cs_at (by omega)]
    · rw [List.getElem?_eq_none (by rw [Ap.cs_len]; simp only [Ap.app]; omega), List.getElem?_eq_none (by rw [List.length_append, A.cs_len, M.cs_len]; omega)]
theorem Fam.ok {A : Ap} {sz lo hi n : Nat} {lv : AV} {h : Heap} (f : Fam A sz lo hi lv h) (hn : hi ≤ n) : A.Ok n lv := by
  refine ⟨f.hl.imp id fun h => h.1, f.b.nil, fun i hi hn => by have := (f.b.at_ i hi hn).2.1; omega, f.b.inj, f.ne, fun h0 => ?_⟩
  rcases f.hl with ⟨h1, _⟩ | ⟨_, _, h1, _⟩ <;> omega
theorem Fam.U_lt {A : Ap} {sz lo hi : Nat} {lv : AV} {h : Heap} (f : Fam A sz lo hi lv h) {q : Nat} (hq : A.U lv q) : lo ≤ q ∧ q < hi := by
  rcases hq with ⟨h1, rfl⟩ | ⟨j, h1, h2, rfl⟩
  · rcases f.hl with ⟨_, rfl⟩ | ⟨_, h2, h3, _⟩
    · exact h1.elim
    · exact ⟨h2, h3⟩
  · have := f.b.at_ j h1 h2; exact ⟨this.1, this.2.1⟩
theorem Fam.up {A : Ap} {sz lo hi hi' : Nat} {lv : AV} {h h' : Heap} (f : Fam A sz lo hi lv h) (hh : ∀ q, A.U lv q → h' q = h q) (hn : hi ≤ hi') : Fam A sz lo hi' lv h' := by
  refine ⟨⟨f.b.nil, fun i hi hn => ?_, f.b.inj⟩, f.hl.imp id fun ⟨h1, h2, h3, h4⟩ => ⟨h1, h2, by omega, by rw [hh _ (.inl ⟨by rw [h1]; rfl, rfl⟩)]; exact h4⟩, f.ne⟩
  obtain ⟨h1, h2, cs, h3, h4⟩ := f.b.at_ i hi hn
  exact ⟨h1, by omega, cs, by rw [hh _ (.inr ⟨i, hi, hn, rfl⟩)]; exact h3, h4⟩
theorem Fam.at' {A : Ap} {sz lo hi : Nat} {lv lv' : AV} {h : Heap} (f : Fam A sz lo hi lv h) (hv : lv' = lv) : Fam A sz lo hi lv' h := hv ▸ f
/-- Some more. -/
theorem Fam.app {A M : Ap} {sz lo hi lo' hi' hi'' : Nat} {lv : AV} {h h' : Heap} (f : Fam A sz lo hi lv h) (g : FamB M sz lo' hi' h) (h1 : hi ≤ lo') (h2 : lo ≤ lo') {w u : Nat} (hw : h' w = some ⟨A.cs ++ M.cs, u, true, 1⟩) (hw1 : lv = .s w u 0 A.N ∨ hi' ≤ w) (hw2 : w < hi'') (h3 : hi' ≤ hi'') (h4 : lo' ≤ hi') (hk : ∀ q, q < hi' → q ≠ w → h' q = h q) (hA : lv = .s w u 0 A.N → w = A.wl) :
    Fam (A.app M w u) sz lo hi'' (.s w u 0 (A.N + M.N)) h' := by
  have hw3 : lo ≤ w ∧ (w < hi ∨ hi' ≤ w) := by
    rcases hw1 with e | e
    · have := hA e
      rcases f.hl with ⟨_, e2⟩ | ⟨_, k1, k2, _⟩
      · rw [e2] at e; cases e
      · omega
    · exact ⟨by omega, .inr e⟩
  have hAb : ∀ j, j < A.N → A.nl j = false → A.b j ≠ w := fun j hj hn => by
    rcases hw1 with e | e
    · rw [hA e]; exact f.ne j hj hn
    · have := (f.b.at_ j hj hn).2.1; omega
  have hMb : ∀ j, j < M.N → M.nl j = false → M.b j ≠ w := fun j hj hn => by
    have k1 := (g.at_ j hj hn).1
    have k2 := (g.at_ j hj hn).2.1
    omega
  refine ⟨⟨fun i hi' hn => ?_, fun i hi' hn => ?_, fun i j hi' hj' hn hm he => ?_⟩, .inr ⟨rfl, hw3.1, hw2, by rw [Ap.app_cs]; exact hw⟩, fun i hi' hn => ?_⟩
  · simp only [Ap.app] at hi' hn ⊢
    by_cases e : i < A.N
    · simp only [e, if_true] at hn ⊢; exact f.b.nil i e hn
    · simp only [e, if_false] at hn ⊢; exact g.nil _ (by omega) hn
  · simp only [Ap.app] at hi' hn ⊢
    by_cases e : i < A.N
    · simp only [e, if_true] at hn ⊢
      obtain ⟨k1, k2, cs, k3, k4⟩ := f.b.at_ i e hn
      exact ⟨k1, by omega, cs, by rw [hk _ (by omega) (hAb i e hn)]; exact k3, k4⟩
    · simp only [e, if_false] at hn ⊢
      obtain ⟨k1, k2, cs, k3, k4⟩ := g.at_ (i - A.N) (by omega) hn
      exact ⟨by omega, by omega, cs, by rw [hk _ (by omega) (hMb _ (by omega) hn)]; exact k3, k4⟩
  · simp only [Ap.app] at hi' hj' hn hm he
    by_cases e : i < A.N
    · by_cases e2 : j < A.N
      · simp only [e, e2, if_true] at hn hm he
        exact f.b.inj i j e e2 hn hm he
      · simp only [e, e2, if_true, if_false] at hn hm he
        have k1 := (f.b.at_ i e hn).2.1
        have k2 := (g.at_ (j - A.N) (by omega) hm).1
        omega
    · by_cases e2 : j < A.N
      · simp only [e, e2, if_true, if_false] at hn hm he
        have k1 := (f.b.at_ j e2 hm).2.1
        have k2 := (g.at_ (i - A.N) (by omega) hn).1
        omega
      · simp only [e, e2, if_false] at hn hm he
        have := g.inj (i - A.N) (j - A.N) (by omega) (by omega) hn hm he
        omega
  · simp only [Ap.app] at hi' hn ⊢
    by_cases e : i < A.N
    · simp only [e, if_true] at hn ⊢; exact hAb i e hn
    · simp only [e, if_false] at hn ⊢; exact hMb _ (by omega) hn
theorem Ap.app_U {A M : Ap} {lv : AV} {w u q : Nat} (hA : lv = .s w u 0 A.N → w = A.wl) (hq : (A.app M w u).U (.s w u 0 (A.N + M.N)) q) : (q = w ∨ A.U lv q) ∨ ∃ j, j < M.N ∧ M.nl j = false ∧ q = M.b j := by
  rcases hq with ⟨_, rfl⟩ | ⟨j, h1, h2, rfl⟩
  · exact .inl (.inl rfl)
  · simp only [Ap.app] at h1 h2 ⊢
    by_cases e : j < A.N
    · simp only [e, if_true] at h2 ⊢; exact .inl (.inr (.inr ⟨j, e, h2, rfl⟩))
    · simp only [e, if_false] at h2 ⊢; exact .inr ⟨j - A.N, by omega, h2, rfl⟩
/-- A program's columns, and its code, as such lists. -/
theorem PX.fam {p : Pr} {A : Ap} {wc uc lo hi : Nat} {ca la : AV} {h : Heap} (x : PX p A wc uc lo hi ca la) (y : PC p A wc uc ca la h False False fun _ => False) : FamB A 1 lo hi h := by
  refine ⟨x.nil, fun i hi' hn => ?_, x.inj⟩
  obtain ⟨r, k1, k2⟩ := y.b i (by rw [← x.N]; exact hi') hn
  have k2 := k2.resolve_left id
  subst k2
  rw [List.append_nil] at k1
  exact ⟨(x.rb i hi' hn).1, (x.rb i hi' hn).2, _, k1, by rw [List.length_map, Nat.mul_one, x.L i (by rw [← x.N]; exact hi')]⟩
def oneA (p : Pr) (wc uc : Nat) (ca : AV) : Ap := ⟨1, fun _ => p.code.length, fun _ => wc, fun _ => uc, fun _ => match ca with | .s _ _ _ _ => false | _ => true, 0, 0⟩
theorem PX.one {p : Pr} {A : Ap} {wc uc lo hi : Nat} {ca la : AV} {h : Heap} (x : PX p A wc uc lo hi ca la) (y : sid ca wc → ∃ cs, h wc = some ⟨cs, uc, true, 5⟩ ∧ cs.length = p.code.length * 5) : FamB (oneA p wc uc ca) 5 lo hi h ∧ (oneA p wc uc ca).cs = [ca] := by
  rcases x.hca with ⟨h0, rfl⟩ | ⟨rfl, h1, h2, h3, h4⟩
  · refine ⟨⟨fun i _ _ => by simp only [oneA, h0]; rfl, fun i _ hn => by simp [oneA] at hn, fun i j hi hj _ _ _ => by simp only [oneA] at hi hj; omega⟩, ?_⟩
    simp [oneA, Ap.cs, Ap.c]
  · obtain ⟨cs, k1, k2⟩ := y rfl
    refine ⟨⟨fun i _ hn => by simp [oneA] at hn, fun i _ _ => ⟨h1, h2, cs, k1, k2⟩, fun i j hi hj _ _ _ => by simp only [oneA] at hi hj; omega⟩, ?_⟩
    simp [oneA, Ap.cs, Ap.c]
end Go.Proofs.YtkfphaphiikloaaDoor

/-
  CodeSpares: the law's own code: three times more: one more program.
-/
namespace Go.Proofs.YtkfphaphiikloaaDoor
open Go Go.Eng

structure I7 (v : Eq38) (P : Pr) (A : Ap) (wc uc n0 nx n3 m9 : Nat) (ca la : AV) (i : Nat) (AC AK : Ap) (s : St) : Prop where
  s7 : S7 v P A wc uc n0 nx n3 m9 ca la s
  va : Val7 s 16 17 nx n3 (runV P v.en)
  e25 : s.e 25 = ii i
  fc : Fam AC 1 n3 s.n (s.e 23) s.h
  fk : Fam AK 5 n3 s.n (s.e 24) s.h
  nc : AC.N = i * P.cols.length
  nk : AK.N = i
  lc : ∀ j, j < AC.N → (AC.L j + 31) * 8 ≤ 140737488355328
  lk : ∀ j, j < AK.N → AK.L j = P.code.length
  dj : ∀ q, AC.U (s.e 23) q → AK.U (s.e 24) q → False
structure J7 (v : Eq38) (P : Pr) (A : Ap) (wc uc n0 nx n3 m9 : Nat) (ca la : AV) (i : Nat) (AC AK AM : Ap) (wd ud n1 n2 m26 : Nat) (cam lam : AV) (s : St) : Prop where
  s7 : S7 v P A wc uc n0 nx n3 m9 ca la s
  va : Val7 s 16 17 nx n3 (runV P v.en)
  e25 : s.e 25 = ii i
  fc : Fam AC 1 n3 n1 (s.e 23) s.h
  fk : Fam AK 5 n3 n1 (s.e 24) s.h
  nc : AC.N = i * P.cols.length
  nk : AK.N = i
  lc : ∀ j, j < AC.N → (AC.L j + 31) * 8 ≤ 140737488355328
  lk : ∀ j, j < AK.N → AK.L j = P.code.length
  dj : ∀ q, AC.U (s.e 23) q → AK.U (s.e 24) q → False
  ln : n3 ≤ n1 ∧ n1 ≤ n2
  e26 : s.e 26 = .p m26 0 0
  k26 : s.h m26 = some ⟨[cam, lam], 0, true, 2⟩
  r26 : n2 ≤ m26 ∧ m26 < s.n
  px : PX P AM wd ud n1 n2 cam lam
  pc : PC P AM wd ud cam lam s.h False False fun _ => False
structure K7 (v : Eq38) (P : Pr) (A : Ap) (wc uc n0 nx n3 m9 : Nat) (ca la : AV) (i : Nat) (AC AK AM : Ap) (wd ud n1 n2 m26 : Nat) (cam lam : AV) (s : St) : Prop where
  s7 : S7 v P A wc uc n0 nx n3 m9 ca la s
  va : Val7 s 16 17 nx n3 (runV P v.en)
  e25 : s.e 25 = ii i
  fc : Fam AC 1 n3 s.n (s.e 23) s.h
  fk : Fam AK 5 n3 n1 (s.e 24) s.h
  nc : AC.N = (i + 1) * P.cols.length
  nk : AK.N = i
  lc : ∀ j, j < AC.N → (AC.L j + 31) * 8 ≤ 140737488355328
  lk : ∀ j, j < AK.N → AK.L j = P.code.length
  dj : ∀ q, AC.U (s.e 23) q → AK.U (s.e 24) q → False
  ln : n3 ≤ n1 ∧ n1 ≤ n2
  e26 : s.e 26 = .p m26 0 0
  k26 : s.h m26 = some ⟨[cam, lam], 0, true, 2⟩
  r26 : n2 ≤ m26 ∧ m26 < s.n
  px : PX P AM wd ud n1 n2 cam lam
  cd : sid cam wd → ∃ cs, s.h wd = some ⟨cs, ud, true, 5⟩ ∧ cs.length = P.code.length * 5
  dk : ∀ q, AC.U (s.e 23) q → sid cam wd → q ≠ wd
def I7x (v : Eq38) (P : Pr) (A : Ap) (wc uc n0 nx n3 m9 : Nat) (ca la : AV) (i : Nat) (s : St) : Prop := ∃ AC AK, I7 v P A wc uc n0 nx n3 m9 ca la i AC AK s
def J7x (v : Eq38) (P : Pr) (A : Ap) (wc uc n0 nx n3 m9 : Nat) (ca la : AV) (i : Nat) (s : St) : Prop := ∃ AC AK AM wd ud n1 n2 m26 cam lam, J7 v P A wc uc n0 nx n3 m9 ca la i AC AK AM wd ud n1 n2 m26 cam lam s
def K7x (v : Eq38) (P : Pr) (A : Ap) (wc uc n0 nx n3 m9 : Nat) (ca la : AV) (i : Nat) (s : St) : Prop := ∃ AC AK AM wd ud n1 n2 m26 cam lam, K7 v P A wc uc n0 nx n3 m9 ca la i AC AK AM wd ud n1 n2 m26 cam lam s
noncomputable def l7M : Code := bodyL (hdC 1 (tlC 17 (Tryd.f7.body.getD .skip)))
noncomputable def l7C : Code := inB (hdC 1 (tlC 1 l7M))
section
set_option maxRecDepth 100000
set_option maxHeartbeats 4000000
variable {v : Eq38} {A : Ap} {wc uc n0 nx n3 m9 i : Nat} {ca la : AV}
/-- One program more. -/
theorem law7r (w : W8 v) (e : Nat → AV) (h' : Heap) (n' : Nat) (a : I7x v (compP v.sc (vars v.q.items) v.t) A wc uc n0 nx n3 m9 ca la i ⟨e, h', n'⟩) {Q : Ex → St → Prop} :
    awp (cz S8 (pfL tbl7)) (hdC 1 l7C) (thenQ (J7x v (compP v.sc (vars v.q.items) v.t) A wc uc n0 nx n3 m9 ca la i) Q) ⟨e, h', n'⟩ := by
  obtain ⟨AC, AK, a⟩ := a
  obtain ⟨at2, ⟨m4, a4, q4, b4, r4⟩, ⟨m5, a5, x5, y5, q5, b5, r5, r5', r5''⟩, ⟨m7, a7, q7, b7, r7⟩, fr⟩ := a.s7.a8
  simp only [] at at2 q4 b4 r4 q5 b5 r5 r5' r5'' q7 b7 r7 fr
  obtain ⟨ta, q2⟩ : ∃ x, e 2 = x := ⟨_, rfl⟩
  rw [q2] at at2
  have s3 := (sl_is at2).2.2.1
  have o4 := (sl_is r4).2.2.2.1
  have o5 := (sl_is r5).2.2.2.1
  have o5' := (sl_is r5').2.2.2.1
  have o5'' := (sl_is r5'').2.2.2.1
  have hn3 := a.s7.nn.2
  simp only [] at hn3
  simp [evs, aeval, binS, cz_ti, cz_G, cz_pf, cz_tw, cz_two, two, ti, globS, glob, ldcs_1, ldcs_2, ldcs_3, ldcs_4, ldcs_5, ldcs_7, sls.eq_1, slc.eq_1, pfL, hdC, tlC, l7C, l7M, inB, bodyL, Tryd.f7, q2, q4, q5, b4, b5, s3, o4, o5, o5', o5'', tbl7]
  refine (acall_z (S := [7]) (by simp [S8]) (c20 r4 (deQ_has (q := v.q) r5 r5' r5'') at2 w.it w.t1 w.tl ⟨by have := w.s1; unfold big; omega, fun t ht => by have := w.s2 t ht; unfold big; omega⟩ fr)).mono ?_
  rintro z h2 n2 ⟨a1, a2, a3, a4⟩
  obtain ⟨cam, lam, rfl, k1, k2, k3, k4, k5, k6⟩ := a4.is
  have hh : ∀ (b1 b2 : Option Blk) (q : Nat), q < n2 → up (up h2 n2 b1) n2 b2 q = h2 q := fun b1 b2 q hq => by rw [up_ne _ _ (by omega), up_ne _ _ (by omega)]
  have ho : ∀ b1 b2 : Option Blk, OwnQ (up (up h2 n2 b1) n2 b2) n' n2 (.g [cam, lam]) (compP v.sc (vars v.q.items) v.t) := fun b1 b2 => a4.up (fun q h1 h2 => hh _ _ q h2) (Nat.le_refl _) (Nat.le_refl _)
  have hg2 : ∀ b1 b2 : Option Blk, agree n' h' (up (up h2 n2 b1) n2 b2) := fun b1 b2 => by simp [agree_up, a1, a3]
  simp [evs, aeval, binS, cz_ti, cz_G, cz_pf, cz_tw, cz_two, two, ti, globS, glob, ldcs_1, ldcs_2, ldcs_3, ldcs_4, ldcs_5, ldcs_7, sls.eq_1, slc.eq_1, pfL, k1, k2, k3, k4, k5, k6]
  obtain ⟨AM, wd, ud, px, pc⟩ := (ho (some ⟨[.v (.slice none 0 0), .v (.slice none 0 0)], 0, true, 2⟩) (some ⟨[cam, lam], 0, true, 2⟩)).px
  exact ⟨AC, AK, AM, wd, ud, n', n2, n2, cam, lam, a.s7.up (by simp [up, q2, q4, q5, q7]) (fun q hq _ => hg2 _ _ q (by omega)) (Nat.le_refl _) (by simp only []; omega) (by simp [fresh_up, a2.add]), a.va.up (by simp [up]) (by simp [up]) (fun q _ hq => hg2 _ _ q (by omega)), by simpa [up] using a.e25, (a.fc.up (fun q hq => hg2 _ _ q (a.fc.U_lt hq).2) (Nat.le_refl _)).at' (by simp [up]), (a.fk.up (fun q hq => hg2 _ _ q (a.fk.U_lt hq).2) (Nat.le_refl _)).at' (by simp [up]), a.nc, a.nk, a.lc, a.lk, by simpa [up] using a.dj, ⟨hn3, a3⟩, by simp [up], by simp [up], ⟨Nat.le_refl _, by simp⟩, px, pc⟩
end
end Go.Proofs.YtkfphaphiikloaaDoor

/-
  CodeSpares: the law's own code: three times more: its columns and its code put behind the others'.
-/
namespace Go.Proofs.YtkfphaphiikloaaDoor
open Go Go.Eng

theorem PX.sl {p : Pr} {A : Ap} {wc uc lo hi : Nat} {ca la : AV} {h : Heap} (x : PX p A wc uc lo hi ca la) (y : PC p A wc uc ca la h False False fun _ => False) : sls h la 0 A.N ∧ slc h la 0 A.N = A.cs := by
  rcases x.hla with ⟨h0, rfl⟩ | ⟨rfl, _⟩
  · rw [h0]
    exact ⟨⟨rfl, rfl⟩, by simp [slc, Ap.cs, h0]⟩
  · obtain ⟨r, k1, k2⟩ := y.l rfl
    have k2 := k2.resolve_left id
    subst k2
    rw [List.append_nil] at k1
    simp [sls, slc, k1, A.cs_len]
    rw [List.take_of_length_le (by rw [A.cs_len]; exact Nat.le_refl _)]
section
set_option maxRecDepth 100000
set_option maxHeartbeats 4000000
variable {v : Eq38} {P : Pr} {A : Ap} {wc uc n0 nx n3 m9 i : Nat} {ca la : AV}
theorem law7s (z : Sz7 P) (e : Nat → AV) (h : Heap) (n : Nat) (a : J7x v P A wc uc n0 nx n3 m9 ca la i ⟨e, h, n⟩) :
    awp (cz S8 (pfL tbl7)) (hdC 1 (tlC 1 l7C)) (thenQ (J7x v P A wc uc n0 nx n3 m9 ca la i) (finQ (cz S8 (pfL tbl7)) Tryd.f7 fun z _ _ => z = bv true)) ⟨e, h, n⟩ := by
  obtain ⟨AC, AK, AM, wd, ud, n1, n2, m26, cam, lam, a⟩ := a
  have q26 := a.e26
  have k26 := a.k26
  have r26 := a.pc.rd a.px
  obtain ⟨m10, cb, lb, q10, d1, d2, k10, d3⟩ := a.s7.k
  simp only [] at q26 k26 r26 q10 k10 d3
  have r10 := d3 h (fun _ _ _ => rfl)
  obtain ⟨⟨i1, i2, i3, i4, i5⟩, ⟨j1, j2, j3, j4, j5⟩⟩ := a.px.is
  obtain ⟨⟨u1, u2, u3, u4, u5⟩, ⟨v1, v2, v3, v4, v5⟩⟩ := dePr_one r10
  have hg := z.g21
  have g1 : de21 h [.g [cam, lam], .g [cb, lb]] = some (P, P) := by simp only [de21, r26, r10]
  simp [evs, aeval, binS, cz_ti, cz_G, cz_pf, cz_tw, cz_two, two, ti, globS, glob, ldcs_1, ldcs_2, ldcs_3, ldcs_4, ldcs_5, ldcs_7, sls.eq_1, slc.eq_1, pfL, hdC, tlC, l7C, l7M, inB, bodyL, Tryd.f7, q26, k26, q10, k10, i3, i4, i5, j3, j4, j5, u3, u4, u5, v3, v4, v5, tbl7, G21, pureH, g1, hg.1, hg.2.1, bv]
  exact ⟨hg.2.2, AC, AK, AM, wd, ud, n1, n2, m26, cam, lam, a.s7.up (by simp [up]) (fun _ _ _ => rfl) (Nat.le_refl _) a.s7.nn.2 a.s7.fr, a.va.up (by simp [up]) (by simp [up]) (fun _ _ _ => rfl), by simpa [up] using a.e25, a.fc.at' (by simp [up]), a.fk.at' (by simp [up]), a.nc, a.nk, a.lc, a.lk, by simpa [up] using a.dj, a.ln, by simpa [up] using a.e26, k26, a.r26, a.px, a.pc⟩
theorem law7t (z : Sz7 P) (hi3 : i < 3) (e : Nat → AV) (h : Heap) (n : Nat) (a : J7x v P A wc uc n0 nx n3 m9 ca la i ⟨e, h, n⟩) {Q : Ex → St → Prop} :
    awp (cz S8 (pfL tbl7)) (hdC 1 (tlC 2 l7C)) (thenQ (K7x v P A wc uc n0 nx n3 m9 ca la i) Q) ⟨e, h, n⟩ := by
  obtain ⟨AC, AK, AM, wd, ud, n1, n2, m26, cam, lam, a⟩ := a
  have q26 := a.e26
  have k26 := a.k26
  have fr := a.s7.fr
  have hr := a.r26
  have hln := a.ln
  simp only [] at q26 k26 fr hr
  obtain ⟨⟨i1, i2, i3, i4, i5⟩, ⟨j1, j2, j3, j4, j5⟩⟩ := a.px.is
  obtain ⟨ga, gb⟩ := a.px.sl a.pc
  simp only [] at ga gb
  have hN := a.px.N
  have hnc := a.nc
  have hbz := z.cols
  have hm3 : (i + 1) * P.cols.length ≤ 3 * P.cols.length := Nat.mul_le_mul_right _ (by omega)
  rw [Nat.succ_mul] at hm3
  have b1 : (AC.N + AM.N) * 24 ≤ 140737488355328 := by omega
  have b2 : AC.N + AM.N ≤ 9223372036854775807 := by omega
  have b3 : AM.N * 24 ≤ 140737488355328 := by omega
  have b4 : AM.N ≤ 9223372036854775807 := by omega
  -- what is there when the list has been put at w'
  have fin : ∀ (e' : Nat → AV) (h' : Heap) (w u : Nat), (∀ j ∈ [2, 4, 5, 7, 9, 10, 11, 16, 17, 24, 25, 26], e' j = e j) → e' 23 = .s w u 0 (AC.N + AM.N) → h' w = some ⟨AC.cs ++ AM.cs, u, true, 1⟩ → (e 23 = .s w u 0 AC.N ∧ w = AC.wl ∨ n ≤ w ∧ AC.N = 0 ∧ e 23 = .v (.slice none 0 0) ∨ n ≤ w ∧ ∃ w0 u0, e 23 = .s w0 u0 0 AC.N) → (∀ q, q < n → q ≠ w → h' q = h q) → w < n + 1 → Fresh (n + 1) h' → K7x v P A wc uc n0 nx n3 m9 ca la i ⟨e', h', n + 1⟩ := fun e' h' w u he h23 hw hw1 hk hw2 hf => by
    have hU := fun q => a.fc.U_lt (q := q)
    have hUk := fun q => a.fk.U_lt (q := q)
    have hwU : (AC.U (e 23) w) ∨ n ≤ w := by
      rcases hw1 with ⟨h1, h2⟩ | ⟨h1, _⟩ | ⟨h1, _⟩
      · exact .inl (.inl ⟨by rw [h1]; exact h2, h2⟩)
      · exact .inr h1
      · exact .inr h1
    have hwlo : n3 ≤ w ∧ (w < n1 ∨ n ≤ w) := by
      rcases hwU with h1 | h1
      · have := hU w h1; omega
      · omega
    have hA : e 23 = .s w u 0 AC.N → w = AC.wl := fun e1 => by
      rcases a.fc.hl with ⟨_, e2⟩ | ⟨e2, _⟩
      · rw [show e 23 = _ from e2] at e1; cases e1
      · rw [show e 23 = _ from e2] at e1; injection e1 with e3 _ _ _; exact e3.symm
    have hold : ∀ q, q < n3 → h' q = h q := fun q hq => hk q (by omega) (by omega)
    have hMw : ∀ j, j < AM.N → AM.nl j = false → AM.b j ≠ w := fun j hj hn => by have := a.px.rb j hj hn; omega
    have hfam := a.fc.app (a.px.fam a.pc) (Nat.le_refl _) (by omega) hw (hi'' := n + 1) (by
      rcases hw1 with ⟨h1, h2⟩ | ⟨h1, _⟩ | ⟨h1, _⟩
      · exact .inl h1
      · exact .inr (by omega)
      · exact .inr (by omega)) hw2 (by omega) hln.2 (fun q hq hq2 => hk q (by omega) hq2) hA
    have hsub : ∀ q, (AC.app AM w u).U (.s w u 0 (AC.N + AM.N)) q → (q = w ∨ AC.U (e 23) q) ∨ ∃ j, j < AM.N ∧ AM.nl j = false ∧ q = AM.b j := fun q hq => Ap.app_U hA hq
    refine ⟨AC.app AM w u, AK, AM, wd, ud, n1, n2, m26, cam, lam, ⟨a.s7.up (fun j hj => he j (by simp only [List.mem_cons, List.not_mem_nil, or_false] at hj ⊢; omega)) (fun q hq _ => hold q hq) (Nat.le_refl _) (by simp only []; omega) hf, a.va.up (he 16 (by simp)) (he 17 (by simp)) (fun q _ hq => hold q hq), (he 25 (by simp)).trans a.e25, ?_, ?_, ?_, a.nk, ?_, a.lk, ?_, a.ln, (he 26 (by simp)).trans a.e26, ?_, ⟨hr.1, by simp only []; omega⟩, a.px, ?_, ?_⟩⟩
    · simp only []
      rw [h23]; exact hfam
    · refine (a.fk.up (fun q hq => ?_) (Nat.le_refl _)).at' (he 24 (by simp))
      have := hUk q hq
      simp only []
      refine hk q (by omega) fun e1 => ?_
      rcases hwU with h1 | h1
      · exact a.dj q (by rw [e1]; exact h1) hq
      · omega
    · simp only [Ap.app]
      rw [a.nc, hN, Nat.succ_mul]
    · intro j hj
      simp only [Ap.app] at hj ⊢
      by_cases ej : j < AC.N
      · simp only [ej, if_true]; exact a.lc j ej
      · simp only [ej, if_false]
        rw [a.px.L _ (by omega)]
        exact z.col _ (by omega)
    · intro q hq hq2
      simp only [] at hq hq2
      rw [h23] at hq
      rw [he 24 (by simp)] at hq2
      have h5 := hUk q hq2
      rcases hsub q hq with (h1 | h1) | ⟨j, h1, h2, h3⟩
      · rcases hwU with h4 | h4
        · exact a.dj q (by rw [h1]; exact h4) hq2
        · omega
      · exact a.dj q h1 hq2
      · have := a.px.rb j h1 h2; omega
    · simp only []
      rw [hk m26 hr.2 (by omega)]; exact k26
    · intro hs
      obtain ⟨r, k1, k2⟩ := a.pc.c hs
      have k2 := k2.resolve_left id
      subst k2
      rw [List.append_nil] at k1
      rcases a.px.hca with ⟨_, rfl⟩ | ⟨_, c2, c3, _, c5⟩
      · exact hs.elim
      · exact ⟨_, by simp only []; rw [hk wd (by omega) (by omega)]; exact k1, flat_len Flat.ins _⟩
    · intro q hq hs
      simp only [] at hq
      rw [h23] at hq
      rcases a.px.hca with ⟨_, rfl⟩ | ⟨_, c2, c3, _, c5⟩
      · exact hs.elim
      · rcases hsub q hq with (h1 | h1) | ⟨j, h1, h2, h3⟩
        · omega
        · have := hU q h1; omega
        · rw [h3]; exact fun e => c5 j h1 h2 e.symm
  rcases a.fc.hl with ⟨h0, h23⟩ | ⟨h23, c1, c2, c3⟩
  · simp only [] at h23
    simp [evs, aeval, binS, cz_ti, cz_G, cz_pf, cz_tw, cz_two, two, ti, globS, glob, ldcs_1, ldcs_2, ldcs_3, ldcs_4, ldcs_5, ldcs_7, sls.eq_1, slc.eq_1, pfL, hdC, tlC, l7C, l7M, inB, bodyL, Tryd.f7, q26, k26, h23, i3, i4, i5, j1, j2, j3, j4, j5, ga, gb, b3, b4]
    exact fin _ _ n 0 (by simp [up]) (by simp [up, h0]) (by rw [up_same]; simp [Ap.cs, h0]) (.inr (.inl ⟨Nat.le_refl _, h0, h23⟩)) (fun q hq _ => up_ne _ _ (by omega)) (by omega) ((fresh_up (by omega) _).2 (fr.add 1))
  · simp only [] at h23 c3
    have hcl := AC.cs_len
    have y1 : ¬ AC.wl = n := by omega
    have y2 : ¬ m26 = AC.wl := by omega
    simp [evs, aeval, binS, cz_ti, cz_G, cz_pf, cz_tw, cz_two, two, ti, globS, glob, ldcs_1, ldcs_2, ldcs_3, ldcs_4, ldcs_5, ldcs_7, sls.eq_1, slc.eq_1, pfL, hdC, tlC, l7C, l7M, inB, bodyL, Tryd.f7, q26, k26, h23, i3, i4, i5, j1, j2, j3, j4, j5, ga, gb, b1, b2, c3, hcl, y1, y2]
    exact ⟨fin _ _ AC.wl AC.ul (by simp [up]) (by simp [up]) (up_same _ _ _) (.inl ⟨h23, rfl⟩) (fun q hq hq2 => up_ne _ _ hq2) (by omega) ((fresh_up (by omega) _).2 (fr.add 1)), fin _ _ n 0 (by simp [up]) (by simp [up]) (up_same _ _ _) (.inr (.inr ⟨Nat.le_refl _, _, _, h23⟩)) (fun q hq _ => up_ne _ _ (by omega)) (by omega) ((fresh_up (by omega) _).2 (fr.add 1))⟩
end
end Go.Proofs.YtkfphaphiikloaaDoor

/-
  CodeSpares: the law's own code: three times more: the code; the loop.
-/
namespace Go.Proofs.YtkfphaphiikloaaDoor
open Go Go.Eng

def Post7u (v : Eq38) (P : Pr) (A : Ap) (wc uc n0 nx n3 m9 : Nat) (ca la : AV) (i : Nat) (s : St) : Prop := s.e 25 = ii i ∧ ∀ s' : St, (∀ j ∈ [2, 4, 5, 7, 9, 10, 11, 16, 17, 23, 24], s'.e j = s.e j) → s'.e 25 = ii (i + 1 : Nat) → s'.h = s.h → s'.n = s.n → I7x v P A wc uc n0 nx n3 m9 ca la (i + 1) s'
section
set_option maxRecDepth 100000
set_option maxHeartbeats 4000000
variable {v : Eq38} {P : Pr} {A : Ap} {wc uc n0 nx n3 m9 i : Nat} {ca la : AV}
theorem law7u (z : Sz7 P) (hi3 : i < 3) (e : Nat → AV) (h : Heap) (n : Nat) (a : K7x v P A wc uc n0 nx n3 m9 ca la i ⟨e, h, n⟩) {Q : Ex → St → Prop} :
    awp (cz S8 (pfL tbl7)) (tlC 3 l7C) (thenQ (Post7u v P A wc uc n0 nx n3 m9 ca la i) Q) ⟨e, h, n⟩ := by
  obtain ⟨AC, AK, AM, wd, ud, n1, n2, m26, cam, lam, a⟩ := a
  have q26 := a.e26
  have k26 := a.k26
  have fr := a.s7.fr
  have hr := a.r26
  have hln := a.ln
  have hnk := a.nk
  simp only [] at q26 k26 fr hr
  obtain ⟨⟨i1, i2, i3, i4, i5⟩, ⟨j1, j2, j3, j4, j5⟩⟩ := a.px.is
  obtain ⟨hone, hocs⟩ := a.px.one a.cd
  simp only [] at hone
  have b1 : (AK.N + 1) * 24 ≤ 140737488355328 := by omega
  have b2 : AK.N ≤ 9223372036854775806 := by omega
  have hos : ∀ j, (oneA P wd ud cam).nl j = false → sid cam wd ∧ (oneA P wd ud cam).b j = wd := fun j hj => by
    rcases a.px.hca with ⟨_, rfl⟩ | ⟨rfl, _⟩
    · simp [oneA] at hj
    · exact ⟨rfl, rfl⟩
  have fin : ∀ (s : St) (w u : Nat), (∀ j ∈ [2, 4, 5, 7, 9, 10, 11, 16, 17, 23], s.e j = e j) → s.e 25 = ii (i + 1 : Nat) → s.n = n + 2 → s.e 24 = .s w u 0 (AK.N + 1) → s.h w = some ⟨AK.cs ++ [cam], u, true, 1⟩ → (e 24 = .s w u 0 AK.N ∧ w = AK.wl ∨ n + 1 = w) → (∀ q, q < n → q ≠ w → s.h q = h q) → Fresh (n + 2) s.h → I7x v P A wc uc n0 nx n3 m9 ca la (i + 1) s := fun s w u he h25 hsn h24 hw hw1 hk hf => by
    have hU := fun q => a.fc.U_lt (q := q)
    have hUk := fun q => a.fk.U_lt (q := q)
    have hwU : (AK.U (e 24) w ∧ n3 ≤ w ∧ w < n1) ∨ w = n + 1 := by
      rcases hw1 with ⟨h1, h2⟩ | h1
      · have hu : AK.U (e 24) w := .inl ⟨by rw [h1]; exact h2, h2⟩
        exact .inl ⟨hu, hUk w hu⟩
      · exact .inr h1.symm
    have hA : e 24 = .s w u 0 AK.N → w = AK.wl := fun e1 => by
      rcases a.fk.hl with ⟨_, e2⟩ | ⟨e2, _⟩
      · rw [show e 24 = _ from e2] at e1; cases e1
      · rw [show e 24 = _ from e2] at e1; injection e1 with e3 _ _ _; exact e3.symm
    have hold : ∀ q, q < n3 → s.h q = h q := fun q hq => hk q (by omega) (by omega)
    have hfam := a.fk.app hone (Nat.le_refl _) (by omega) (by rw [hocs]; exact hw) (hi'' := n + 2) (by
      rcases hw1 with ⟨h1, h2⟩ | h1
      · exact .inl h1
      · exact .inr (by omega)) (by omega) (by omega) hln.2 (fun q hq hq2 => hk q (by omega) hq2) hA
    have hsub : ∀ q, (AK.app (oneA P wd ud cam) w u).U (.s w u 0 (AK.N + 1)) q → (q = w ∨ AK.U (e 24) q) ∨ ∃ j, j < 1 ∧ (oneA P wd ud cam).nl j = false ∧ q = (oneA P wd ud cam).b j := fun q hq => Ap.app_U (M := oneA P wd ud cam) hA hq
    have hCw : ∀ q, AC.U (e 23) q → q ≠ w := fun q hq e1 => by
      rcases hwU with ⟨h4, _⟩ | h4
      · exact a.dj q hq (by rw [e1]; exact h4)
      · have := (hU q hq).2; simp only [] at this; omega
    refine ⟨AC, AK.app (oneA P wd ud cam) w u, ⟨a.s7.up (fun j hj => he j (by simp only [List.mem_cons, List.not_mem_nil, or_false] at hj ⊢; omega)) (fun q hq _ => hold q hq) (Nat.le_refl _) (by omega) (by rw [hsn]; exact hf), a.va.up (he 16 (by simp)) (he 17 (by simp)) (fun q _ hq => hold q hq), h25, ?_, ?_, a.nc, ?_, a.lc, ?_, ?_⟩⟩
    · exact (a.fc.up (fun q hq => by have := (hU q hq).2; simp only [] at this; exact hk q this (hCw q hq)) (by rw [hsn]; simp only []; omega)).at' (he 23 (by simp))
    · rw [h24, hsn]; exact hfam
    · simp only [Ap.app, oneA]; rw [a.nk]
    · intro j hj
      simp only [Ap.app] at hj ⊢
      by_cases ej : j < AK.N
      · simp only [ej, if_true]; exact a.lk j ej
      · simp only [ej, if_false]; rfl
    · intro q hq hq2
      rw [he 23 (by simp)] at hq
      rw [h24] at hq2
      rcases hsub q hq2 with (h1 | h1) | ⟨j, h1, h2, h3⟩
      · exact hCw q hq h1
      · exact a.dj q hq h1
      · exact a.dk q hq (hos j h2).1 (h3.trans (hos j h2).2)
  have g0 : ∀ (e' : Nat → AV) (s' : St), (∀ j ∈ [2, 4, 5, 7, 9, 10, 11, 16, 17, 23, 24], s'.e j = e' j) → (∀ j ∈ [2, 4, 5, 7, 9, 10, 11, 16, 17, 23], e' j = e j) → ∀ j ∈ [2, 4, 5, 7, 9, 10, 11, 16, 17, 23], s'.e j = e j := fun e' s' g1 g2 j hj => (g1 j (by simp only [List.mem_cons, List.not_mem_nil, or_false] at hj ⊢; omega)).trans (g2 j hj)
  have h25 := a.e25
  simp only [] at h25
  have hk1 : ∀ (b1 b2 : Option Blk) (w : Nat) (q : Nat), q < n → q ≠ w → up (up h n b1) w b2 q = h q := fun b1 b2 w q hq hq2 => by rw [up_ne _ _ hq2, up_ne _ _ (by omega)]
  rcases a.fk.hl with ⟨h0, h24⟩ | ⟨h24, c1, c2, c3⟩
  · simp only [] at h24
    simp [evs, aeval, binS, cz_ti, cz_G, cz_pf, cz_tw, cz_two, two, ti, globS, glob, ldcs_1, ldcs_2, ldcs_3, ldcs_4, ldcs_5, ldcs_7, sls.eq_1, slc.eq_1, pfL, hdC, tlC, l7C, l7M, inB, bodyL, Tryd.f7, q26, k26, h24, h25, ii, i3, i4, i5, j1, j2, j3, j4, j5]
    refine ⟨by simp [up, h25, ii], fun s' g1 g2 g3 g4 => fin s' (n + 1) 0 (g0 _ s' g1 (by simp [up])) g2 g4 ((g1 24 (by simp)).trans (by simp [up, h0])) (by rw [g3]; simp only []; rw [up_same]; simp [Ap.cs, h0]) (.inr rfl) (fun q hq hq2 => by rw [g3]; exact hk1 _ _ _ q hq hq2) (by rw [g3]; simp [fresh_up, fr.add])⟩
  · simp only [] at h24 c3
    have hcl := AK.cs_len
    have y1 : ¬ AK.wl = n := by omega
    have y2 : ¬ m26 = AK.wl := by omega
    have y3 : ¬ m26 = n := by omega
    simp [evs, aeval, binS, cz_ti, cz_G, cz_pf, cz_tw, cz_two, two, ti, globS, glob, ldcs_1, ldcs_2, ldcs_3, ldcs_4, ldcs_5, ldcs_7, sls.eq_1, slc.eq_1, pfL, hdC, tlC, l7C, l7M, inB, bodyL, Tryd.f7, q26, k26, h24, h25, ii, i3, i4, i5, j1, j2, j3, j4, j5, b1, b2, c3, hcl, y1, y2, y3]
    refine ⟨⟨by simp [up, h25, ii], fun s' g1 g2 g3 g4 => fin s' AK.wl AK.ul (g0 _ s' g1 (by simp [up])) g2 g4 ((g1 24 (by simp)).trans (by simp [up])) (by rw [g3]; exact up_same _ _ _) (.inl ⟨h24, rfl⟩) (fun q hq hq2 => by rw [g3]; exact hk1 _ _ _ q hq hq2) (by rw [g3]; simp [fresh_up, fr.add, show AK.wl < n + 2 by omega])⟩, ⟨by simp [up, h25, ii], fun s' g1 g2 g3 g4 => fin s' (n + 1) 0 (g0 _ s' g1 (by simp [up])) g2 g4 ((g1 24 (by simp)).trans (by simp [up])) (by rw [g3]; exact up_same _ _ _) (.inr rfl) (fun q hq hq2 => by rw [g3]; exact hk1 _ _ _ q hq hq2) (by rw [g3]; simp [fresh_up, fr.add])⟩⟩
end
end Go.Proofs.YtkfphaphiikloaaDoor

/-
  CodeSpares: the law's own code: three times more: the loop; they share nothing.
-/
namespace Go.Proofs.YtkfphaphiikloaaDoor
open Go Go.Eng

section
set_option maxRecDepth 100000
set_option maxHeartbeats 4000000
variable {v : Eq38} {P : Pr} {A : Ap} {wc uc n0 nx n3 m9 i : Nat} {ca la : AV}
theorem I7.e {AC AK : Ap} {s s' : St} (a : I7 v P A wc uc n0 nx n3 m9 ca la i AC AK s) (he : ∀ j ∈ [2, 4, 5, 7, 9, 10, 11, 16, 17, 23, 24, 25], s'.e j = s.e j) (hh : s'.h = s.h) (hn : s'.n = s.n) : I7 v P A wc uc n0 nx n3 m9 ca la i AC AK s' := by
  obtain ⟨e', h', n'⟩ := s'
  simp only [] at hh hn he
  subst hh hn
  exact ⟨a.s7.up (fun j hj => he j (by simp only [List.mem_cons, List.not_mem_nil, or_false] at hj ⊢; omega)) (fun _ _ _ => rfl) (Nat.le_refl _) a.s7.nn.2 a.s7.fr, a.va.up (he 16 (by simp)) (he 17 (by simp)) (fun _ _ _ => rfl), (he 25 (by simp)).trans a.e25, a.fc.at' (he 23 (by simp)), a.fk.at' (he 24 (by simp)), a.nc, a.nk, a.lc, a.lk, by
    simp only []
    rw [he 23 (by simp), he 24 (by simp)]; exact a.dj⟩
theorem law7v (w : W8 v) (z : Sz7 (compP v.sc (vars v.q.items) v.t)) (e : Nat → AV) (h : Heap) (n : Nat) (a : Post7p v (compP v.sc (vars v.q.items) v.t) A wc uc n0 nx n3 m9 ca la ⟨e, h, n⟩) (h23 : e 23 = .v (.slice none 0 0)) (h24 : e 24 = .v (.slice none 0 0)) :
    awp (cz S8 (pfL tbl7)) (hdC 1 (tlC 17 (Tryd.f7.body.getD .skip))) (thenQ (I7x v (compP v.sc (vars v.q.items) v.t) A wc uc n0 nx n3 m9 ca la 3) (finQ (cz S8 (pfL tbl7)) Tryd.f7 fun z _ _ => z = bv true)) ⟨e, h, n⟩ := by
  have e0 : hdC 1 (tlC 17 (Tryd.f7.body.getD .skip)) = .seq (hdC 1 (hdC 1 (tlC 17 (Tryd.f7.body.getD .skip)))) (.block 10 (.loop l7M)) := rfl
  rw [e0]
  generalize hP : compP v.sc (vars v.q.items) v.t = P at *
  let Z : Ap := ⟨0, fun _ => 0, fun _ => 0, fun _ => 0, fun _ => true, 0, 0⟩
  have start : ∀ e' : Nat → AV, (∀ j ∈ [2, 4, 5, 7, 9, 10, 11, 16, 17, 23, 24], e' j = e j) → e' 25 = ii 0 → I7x v P A wc uc n0 nx n3 m9 ca la 0 ⟨e', h, n⟩ := fun e' he h25 => by
    have hz : ∀ lv sz, lv = .v (.slice none 0 0) → Fam Z sz n3 n lv h := fun lv sz hl => ⟨⟨fun i hi => absurd hi (Nat.not_lt_zero i), fun i hi => absurd hi (Nat.not_lt_zero i), fun i j hi => absurd hi (Nat.not_lt_zero i)⟩, .inl ⟨rfl, hl⟩, fun i hi => absurd hi (Nat.not_lt_zero i)⟩
    exact ⟨Z, Z, a.1.up (fun j hj => he j (by simp only [List.mem_cons, List.not_mem_nil, or_false] at hj ⊢; omega)) (fun _ _ _ => rfl) (Nat.le_refl _) a.1.nn.2 a.1.fr, a.2.up (he 16 (by simp)) (he 17 (by simp)) (fun _ _ _ => rfl), h25, hz _ _ ((he 23 (by simp)).trans h23), hz _ _ ((he 24 (by simp)).trans h24), by simp [Z], rfl, fun j hj => absurd hj (Nat.not_lt_zero j), fun j hj => absurd hj (Nat.not_lt_zero j), fun q hq _ => by
      rcases hq with ⟨h1, _⟩ | ⟨j, h1, _⟩
      · simp only [] at h1
        rw [he 23 (by simp), h23] at h1; exact h1
      · exact absurd h1 (Nat.not_lt_zero j)⟩
  simp [evs, aeval, binS, cz_ti, cz_G, cz_pf, cz_tw, cz_two, two, ti, globS, glob, ldcs_1, ldcs_2, ldcs_3, ldcs_4, ldcs_5, ldcs_7, sls.eq_1, slc.eq_1, pfL, hdC, tlC, Tryd.f7]
  refine awp_loop (fun s => ∃ i : Nat, i ≤ 3 ∧ s.e 25 = ii i ∧ I7x v P A wc uc n0 nx n3 m9 ca la i s) (fun s => 3 - (s.e 25).i.toNat) ⟨0, by omega, by simp [up, ii], start _ (by simp [up]) (by simp [up, ii])⟩ ?_
  rintro e1 h1 n1 ⟨i, hi, q25, b⟩
  simp only [] at q25
  have hiw := wrap_nat (j := i) (by unfold big; omega)
  by_cases hlt : i < 3
  · have hlt' : (i : Int) < 3 := by omega
    refine awp_cut 1 _ _ (R := fun s => I7x v P A wc uc n0 nx n3 m9 ca la i s) ?_ fun e2 h2 n2 b2 => ?_
    · simp [evs, aeval, binS, cz_ti, cz_G, cz_pf, cz_tw, cz_two, two, ti, globS, glob, ldcs_1, ldcs_2, ldcs_3, ldcs_4, ldcs_5, ldcs_7, sls.eq_1, slc.eq_1, pfL, hdC, tlC, l7M, bodyL, Tryd.f7, q25, ii, hlt']
      obtain ⟨AC, AK, b⟩ := b
      exact ⟨AC, AK, b.e (by simp [up]) rfl rfl⟩
    refine awp_cut 1 _ _ (R := Post7u v P A wc uc n0 nx n3 m9 ca la i) ?_ fun e3 h3 n3' ⟨q25', b3⟩ => ?_
    · have e1' : hdC 1 (tlC 1 l7M) = .block 11 l7C := rfl
      rw [e1', awp_block]
      subst hP
      refine awp_cut 1 _ _ (law7r w e2 h2 n2 b2) fun e4 h4 n4 b4 => ?_
      refine awp_cut 1 _ _ (R := J7x v (compP v.sc (vars v.q.items) v.t) A wc uc n0 nx n3 m9 ca la i) ?_ fun e5 h5 n5 b5 => ?_
      rotate_left
      · refine awp_cut 1 _ _ (law7t z hlt e5 h5 n5 b5) fun e6 h6 n6 b6 => ?_
        refine awp_mono _ (fun x s hx => ?_) (law7u z hlt e6 h6 n6 b6 (Q := fun _ _ => False))
        cases x with
        | normal => exact hx
        | exit id => exact hx.elim
        | ret => exact hx.elim
      · refine awp_mono _ (fun x s hx => ?_) (law7s z e4 h4 n4 b4)
        cases x with
        | normal => exact hx
        | exit id => exact hx.elim
        | ret => exact hx
    · simp only [] at q25'
      simp [evs, aeval, binS, cz_ti, cz_G, cz_pf, cz_tw, cz_two, two, ti, globS, glob, ldcs_1, ldcs_2, ldcs_3, ldcs_4, ldcs_5, ldcs_7, sls.eq_1, slc.eq_1, pfL, hdC, tlC, l7M, bodyL, Tryd.f7, q25, q25', ii, hiw]
      exact ⟨⟨i + 1, by omega, by simp, b3 _ (by simp [up]) (by simp [up, ii]) rfl rfl⟩, by omega⟩
  · obtain rfl : i = 3 := by omega
    simp [evs, aeval, binS, cz_ti, cz_G, cz_pf, cz_tw, cz_two, two, ti, globS, glob, ldcs_1, ldcs_2, ldcs_3, ldcs_4, ldcs_5, ldcs_7, sls.eq_1, slc.eq_1, pfL, hdC, tlC, l7M, bodyL, Tryd.f7, q25, ii]
    obtain ⟨AC, AK, b⟩ := b
    exact ⟨AC, AK, b.e (by simp [up]) rfl rfl⟩
/-- What is left at the end. -/
def Post7w (v : Eq38) (P : Pr) (A : Ap) (wc uc n0 nx n3 m9 : Nat) (ca la : AV) (s : St) : Prop := S7 v P A wc uc n0 nx n3 m9 ca la s ∧ Val7 s 16 17 nx n3 (runV P v.en)
theorem law7w (z : Sz7 P) (e : Nat → AV) (h : Heap) (n : Nat) (a : I7x v P A wc uc n0 nx n3 m9 ca la 3 ⟨e, h, n⟩) :
    awp (cz S8 (pfL tbl7)) (hdC 1 (tlC 18 (Tryd.f7.body.getD .skip))) (thenQ (Post7w v P A wc uc n0 nx n3 m9 ca la) (finQ (cz S8 (pfL tbl7)) Tryd.f7 fun z _ _ => z = bv true)) ⟨e, h, n⟩ := by
  obtain ⟨AC, AK, a⟩ := a
  obtain ⟨la23, h23⟩ : ∃ x, e 23 = x := ⟨_, rfl⟩
  obtain ⟨la24, h24⟩ : ∃ x, e 24 = x := ⟨_, rfl⟩
  have fc := a.fc
  have fk := a.fk
  have dj := a.dj
  have fr := a.s7.fr
  have hn3 := a.s7.nn.2
  simp only [] at fc fk dj fr hn3
  rw [h23] at fc dj
  rw [h24] at fk dj
  have ok := fc.ok (Nat.le_refl n)
  obtain ⟨s1, s2, s3, s4, s5⟩ := Ap.isS ok
  obtain ⟨t1, t2, t3, t4, t5⟩ := Ap.isS (fk.ok (Nat.le_refl n))
  have hnc := a.nc
  have hnk := a.nk
  have hbz := z.cols
  have hbc := z.code
  simp [evs, aeval, binS, cz_ti, cz_G, cz_pf, cz_tw, cz_two, two, ti, globS, glob, ldcs_1, ldcs_2, ldcs_3, ldcs_4, ldcs_5, ldcs_7, sls.eq_1, slc.eq_1, pfL, hdC, tlC, Tryd.f7, h23, h24, s3, t3, tbl7]
  refine (acall_zz (S := []) (by simp) (c40 ok (by omega) (fun i hi => a.lc i hi) (fun h0 => ?_) (fun j hj hn => ?_) fr)).mono ?_
  · rcases fc.hl with ⟨h1, _⟩ | ⟨_, _, _, h1⟩
    · omega
    · exact ⟨true, h1⟩
  · obtain ⟨_, _, cs, k1, k2⟩ := fc.b.at_ j hj hn
    exact ⟨cs, k1, by rw [k2, Nat.mul_one]⟩
  rintro y h2 n2 ⟨rfl, k1, k2, k3⟩
  simp [evs, aeval, binS, cz_ti, cz_G, cz_pf, cz_tw, cz_two, two, ti, globS, glob, ldcs_1, ldcs_2, ldcs_3, ldcs_4, ldcs_5, ldcs_7, sls.eq_1, slc.eq_1, pfL, bv]
  have fk' : Fam AK 5 n3 n la24 h2 := fk.up (fun q hq => k1 q (fk.U_lt hq).2 fun j hj hn e => dj q (.inr ⟨j, hj, hn, e⟩) hq) (Nat.le_refl n)
  refine (acall_zz (S := []) (by simp) (c41 (fk'.ok k3) (by omega) (fun i hi => by rw [a.lk i hi]; exact z.code) (fun h0 => ?_) (fun j hj hn => ?_) k2)).mono ?_
  · rcases fk'.hl with ⟨h1, _⟩ | ⟨_, _, _, h1⟩
    · omega
    · exact ⟨true, h1⟩
  · obtain ⟨_, _, cs, g1, g2⟩ := fk'.b.at_ j hj hn
    exact ⟨cs, g1, g2⟩
  rintro y h3 n3' ⟨rfl, g1, g2, g3⟩
  simp [evs, aeval, binS, cz_ti, cz_G, cz_pf, cz_tw, cz_two, two, ti, globS, glob, ldcs_1, ldcs_2, ldcs_3, ldcs_4, ldcs_5, ldcs_7, sls.eq_1, slc.eq_1, pfL, bv]
  have hold : ∀ q, q < n3 → h3 q = h q := fun q hq => by
    rw [g1 q (by omega) (fun j hj hn e => by have := (fk.b.at_ j hj hn).1; omega), k1 q (by omega) (fun j hj hn e => by have := (fc.b.at_ j hj hn).1; omega)]
  exact ⟨a.s7.up (by simp [up]) (fun q hq _ => hold q hq) (Nat.le_refl _) (by simp only []; omega) g2, a.va.up (by simp [up]) (by simp [up]) (fun q _ hq => hold q hq)⟩
end
end Go.Proofs.YtkfphaphiikloaaDoor

/-
  CodeSpares: the law's own code: the end.
-/
namespace Go.Proofs.YtkfphaphiikloaaDoor
open Go Go.Eng

def Post7x (v : Eq38) (P : Pr) (A : Ap) (wc uc n0 nx n3 m9 : Nat) (ca la : AV) (s : St) : Prop := ∃ n3', S7 v P A wc uc n0 nx n3' m9 ca la s ∧ Val7 s 16 17 nx n3' (runV P v.en) ∧ Val7 s 27 28 nx n3' (runV P v.en)
section
set_option maxRecDepth 100000
set_option maxHeartbeats 4000000
variable {v : Eq38} {A : Ap} {wc uc n0 nx n3 m9 : Nat} {ca la : AV}
theorem law7x {P : Pr} (hpr : PrOk P) (heq : EqOk v) (e : Nat → AV) (h : Heap) (n : Nat) (a : Post7w v P A wc uc n0 nx n3 m9 ca la ⟨e, h, n⟩) {Q : Ex → St → Prop} :
    awp (cz S8 (pfL tbl7)) (hdC 1 (tlC 19 (Tryd.f7.body.getD .skip))) (thenQ (Post7x v P A wc uc n0 nx n3 m9 ca la) Q) ⟨e, h, n⟩ := by
  obtain ⟨a, va⟩ := a
  obtain ⟨_, _, _, ⟨m7, a7, q7, b7, r7⟩, fr⟩ := a.a8
  obtain ⟨m11, cb, lb, q11, d1, d2, k11, d3⟩ := a.o
  have hn3 := a.nn.2
  have hnx := a.nn.1
  simp only [] at q7 b7 r7 fr q11 k11 d3 hn3
  have o7 := (sl_is r7).2.2.2.1
  obtain ⟨da, db, hz, z1, z2⟩ := dePr_out (d3 h (fun _ _ _ => rfl))
  obtain ⟨rfl, rfl⟩ : cb = da ∧ lb = db := by injection hz with hz; injection hz with h1 h2; injection h2 with h2 _; exact ⟨h1, h2⟩
  obtain ⟨u1, u2, u3, u4, u5⟩ := sl_is z1
  obtain ⟨v1, v2, v3, v4, v5⟩ := sl_is z2
  have hde : deR h [.g [cb, lb], .g [a7, .v (.int .i64 v.en.each), .v (.int .i64 v.en.pos)]] = some (P, v.en) := by
    simp only [deR, dePr_in z1 z2, deEn_has r7]
  have hok : okR (P, v.en) := ⟨hpr, heq.en⟩
  have hr9 := a.r9
  generalize hrv : runV P v.en = y at *
  have fin : ∀ s : St, (∀ i ∈ [2, 4, 5, 7, 9, 10, 11, 16, 17], s.e i = e i) → (∀ q, q < n → s.h q = h q) → n + 2 ≤ s.n → Fresh s.n s.h → s.e 27 = .p n 0 0 → s.h n = some ⟨[.v (.bool y.1.k), .v (.int .i64 y.1.n)], 0, true, 2⟩ → s.e 28 = ii y.2 → Post7x v P A wc uc n0 nx n3 m9 ca la s := fun s he hh hn hf h16 h16' h17 => by
    obtain ⟨m, p1, p2, p3, p4, p5⟩ := va
    refine ⟨n + 1, a.up (fun i hi => he i (by simp only [List.mem_cons, List.not_mem_nil, or_false] at hi ⊢; omega)) (fun q hq _ => hh q (by omega)) (by omega) (by omega) hf, ⟨m, (he 16 (by simp)).trans p1, p2, by omega, by rw [hh m (by omega), hrv]; exact p4, by rw [hrv]; exact (he 17 (by simp)).trans p5⟩, ⟨n, h16, by omega, by omega, by rw [hrv]; exact h16', by rw [hrv]; exact h17⟩⟩
  simp [evs, aeval, binS, cz_ti, cz_G, cz_pf, cz_tw, cz_two, two, ti, globS, glob, ldcs_1, ldcs_2, ldcs_3, ldcs_4, ldcs_5, ldcs_7, sls.eq_1, slc.eq_1, pfL, hdC, tlC, Tryd.f7, q7, b7, o7, q11, k11, u1, u2, u3, u4, v1, v2, v3, v4, tbl7, G29, pureH, hde, hok, hrv, runA, vv]
  exact fin _ (by simp [up]) (fun q hq => by simp only []; rw [up_ne _ _ (by omega), up_ne _ _ (by omega)]) (by simp) (by simp [fresh_up, fr.add]) (by simp [up]) (by simp [up]) (by simp [up, ii])
theorem law7y (w : W8 v) (z : Sz7 (compP v.sc (vars v.q.items) v.t)) (e : Nat → AV) (h : Heap) (n : Nat) (a : Post7x v (compP v.sc (vars v.q.items) v.t) A wc uc n0 nx n3 m9 ca la ⟨e, h, n⟩) :
    awp (cz S8 (pfL tbl7)) (tlC 20 (Tryd.f7.body.getD .skip)) (finQ (cz S8 (pfL tbl7)) Tryd.f7 fun z _ _ => z = bv true) ⟨e, h, n⟩ := by
  obtain ⟨n3', a, ⟨m16, q16, b1, b2, k16, q17⟩, ⟨m27, q27, b3, b4, k27, q28⟩⟩ := a
  obtain ⟨at2, ⟨m4, a4, q4, b4', r4⟩, ⟨m5, a5, x5, y5, q5, b5, r5, r5', r5''⟩, _, fr⟩ := a.a8
  obtain ⟨m10, cb, lb, q10, d1, d2, k10, d3⟩ := a.k
  obtain ⟨m11, cc, lc, q11, x1, x2, k11, x3⟩ := a.o
  simp only [] at at2 q4 b4' r4 q5 b5 r5 r5' r5'' fr q10 k10 d3 q11 k11 x3 q16 k16 q17 q27 k27 q28
  obtain ⟨ta, q2⟩ : ∃ x, e 2 = x := ⟨_, rfl⟩
  rw [q2] at at2
  have s3 := (sl_is at2).2.2.1
  have o4 := (sl_is r4).2.2.2.1
  have o5 := (sl_is r5).2.2.2.1
  have o5' := (sl_is r5').2.2.2.1
  have o5'' := (sl_is r5'').2.2.2.1
  have r10 := d3 h (fun _ _ _ => rfl)
  have r11 := x3 h (fun _ _ _ => rfl)
  obtain ⟨⟨u1, u2, u3, u4, u5⟩, ⟨v1, v2, v3, v4, v5⟩⟩ := dePr_one r10
  obtain ⟨⟨w1, w2, w3, w4, w5⟩, ⟨y1, y2, y3, y4, y5'⟩⟩ := dePr_one r11
  have hg := z.g21
  have g2 : de21 h [.g [cc, lc], .g [cb, lb]] = some (compP v.sc (vars v.q.items) v.t, compP v.sc (vars v.q.items) v.t) := by simp only [de21, r11, r10]
  generalize runV (compP v.sc (vars v.q.items) v.t) v.en = y at *
  simp [evs, aeval, binS, cz_ti, cz_G, cz_pf, cz_tw, cz_two, two, ti, globS, glob, ldcs_1, ldcs_2, ldcs_3, ldcs_4, ldcs_5, ldcs_7, sls.eq_1, slc.eq_1, pfL, tlC, Tryd.f7, q2, q4, q5, b4', b5, s3, o4, o5, o5', o5'', q10, k10, q11, k11, q16, k16, q17, q27, k27, q28, ii, u3, u4, u5, v3, v4, v5, w3, w4, w5, y3, y4, y5', tbl7, G21, pureH, g2, hg.1, hg.2.1, bv]
  refine ⟨hg.2.2, (acall_z (S := [7]) (by simp [S8]) (c20 r4 (deQ_has (q := v.q) r5 r5' r5'') at2 w.it w.t1 w.tl ⟨by have := w.s1; unfold big; omega, fun t ht => by have := w.s2 t ht; unfold big; omega⟩ fr)).mono ?_⟩
  rintro z1 h2 n2 ⟨a1, a2, a3, p1⟩
  refine ⟨keep_le (agr_le fr a1), ?_⟩
  have hn3 := a.nn.2
  simp only [] at hn3
  obtain ⟨ce, le, rfl, c1, c2, c3, c4, c5, c6⟩ := p1.is
  have k10' : h2 m10 = some ⟨[cb, lb], 0, true, 2⟩ := (a1 m10 (by omega)).trans k10
  have r10' := d3 h2 (fun q _ hq => a1 q (by omega))
  have g3 : de21 h2 [.g [ce, le], .g [cb, lb]] = some (compP v.sc (vars v.q.items) v.t, compP v.sc (vars v.q.items) v.t) := by simp only [de21, p1.rd, r10']
  simp [evs, aeval, binS, cz_ti, cz_G, cz_pf, cz_tw, cz_two, two, ti, globS, glob, ldcs_1, ldcs_2, ldcs_3, ldcs_4, ldcs_5, ldcs_7, sls.eq_1, slc.eq_1, pfL, c1, c2, c3, c4, c5, c6, q10, k10', u3, u4, u5, v3, v4, v5, G21, pureH, g3, hg.1, hg.2.1]
  exact hg.2.2
end
end Go.Proofs.YtkfphaphiikloaaDoor
