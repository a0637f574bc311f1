/-
  COMPILING, PART H: Compile: the beginning.
-/
import Derived.Test.YtkfphaphiikloaaDoorX19
import Derived.Test.YtkfphaphiikloaaDoorX22
import Derived.Test.YtkfphaphiikloaaDoorX16
set_option linter.unusedSimpArgs false
set_option linter.unusedVariables false
set_option linter.constructorNameAsVariable false
namespace Go.Proofs.YtkfphaphiikloaaDoor
open Go Go.Eng

def bodyL : Code → Code
  | .seq _ (.block _ (.loop c)) => c
  | _ => .skip
def inB : Code → Code
  | .block _ c => c
  | c => c
theorem repZ_rep : ∀ n, repZ [Value.int .i64 0] n = (List.replicate n (0 : Int)).map ii
  | 0 => rfl
  | n + 1 => by
    show (.v (.int .i64 0) : AV) :: repZ [Value.int .i64 0] n = _
    rw [repZ_rep n]; rfl
/-- What stands when the instructions are to be laid: the program's tree, its items. -/
structure A20 (h0 : Heap) (n : Nat) (sa ta : AV) (t : List Nd) (its : List Int) (wi : Nat) (s : St) : Prop where
  q2 : s.e 2 = ta
  q3 : s.e 3 = .p n 0 0
  q6 : s.e 6 = .p (n + 2) 0 0
  q7 : s.e 7 = .s wi 0 0 t.length
  k3 : s.h n = some ⟨[sa], 0, true, 1⟩
  k6 : s.h (n + 2) = some ⟨[.v (.slice none 0 0), .v (.slice none 0 0)], 0, true, 2⟩
  ki : s.h wi = some ⟨its.map ii, 0, true, 1⟩
  w1 : n + 3 ≤ wi
  w2 : wi < s.n
  ag : agree n h0 s.h
  fr : Fresh s.n s.h
/-- A program of its own: nothing of it stood before. -/
def OwnQ (h : Heap) (lo hi : Nat) (z : AV) (p : Pr) : Prop := ∃ ca la, z = .g [ca, la] ∧
  ((p.code = [] ∧ ca = .v (.slice none 0 0)) ∨ ∃ w u, ca = .s w u 0 p.code.length ∧ h w = some ⟨p.code.flatMap icells, u, true, 5⟩ ∧ lo ≤ w ∧ w < hi) ∧
  ((p.cols = [] ∧ la = .v (.slice none 0 0)) ∨ ∃ w u cs, la = .s w u 0 p.cols.length ∧ h w = some ⟨cs, u, true, 1⟩ ∧ lo ≤ w ∧ w < hi ∧ ¬ sid ca w ∧ cs.length = p.cols.length ∧
    ∀ i (hi' : i < p.cols.length), ∃ c, cs[i]? = some c ∧ KC h (fun q => lo ≤ q) hi (fun b => sid ca b ∨ b = w ∨ Ear cs i b) c p.cols[i])
section
set_option maxRecDepth 100000
set_option maxHeartbeats 4000000
variable {h : Heap} {n : Nat} {sa qx ta : AV} {tys : List Ty} {q : Qu} {t : List Nd}
theorem c20a (e1 : rd dTys h sa = some tys) (e2 : deQ h qx = some q) (e5 : rd dNs h ta = some t) (hq : q.items.length < big) (hp : smallT t) (hn : Fresh n h) (e : Nat → AV) (q0 : e 0 = .g [sa]) (q1 : e 1 = qx) (q2 : e 2 = ta) {Q : Ex → St → Prop} :
    awp (cx [7] (pfL [])) (hdC 2 (Tryd.f20.body.getD .skip)) (thenQ (fun s => (runT (vars q.items) t = true ∧ s.e 8 = bv true ∧ ∃ wi, A20 h n sa ta t (t.map (itemV (vars q.items))) wi s) ∨ (runT (vars q.items) t = false ∧ s.e 8 = bv false ∧ s.e 6 = .p (n + 2) 0 0 ∧ s.h (n + 2) = some ⟨[.v (.slice none 0 0), .v (.slice none 0 0)], 0, true, 2⟩ ∧ agree n h s.h ∧ Fresh s.n s.h ∧ n + 3 ≤ s.n)) Q) ⟨e, h, n⟩ := by
  obtain ⟨a, b, c, rfl, x2, x3, x4⟩ := deQ_out e2
  obtain ⟨s1, s2, s3, s4, s5⟩ := sl_is e5
  have o0 := (sl_is e1).2.2.2.1
  have o1 := (sl_is x2).2.2.2.1
  have o2 := (sl_is x3).2.2.2.1
  have o3 := (sl_is x4).2.2.2.1
  have hag : ∀ b1 b2 b3 : Option Blk, agree n h (up (up (up h n b1) (n + 1) b2) (n + 2) b3) := fun b1 b2 b3 => by simp [agree_up, agree_refl]
  have hfr : ∀ b1 b2 b3 : Option Blk, Fresh (n + 3) (up (up (up h n b1) (n + 1) b2) (n + 2) b3) := fun b1 b2 b3 => by simp [fresh_up, hn.add]
  have gq : ∀ h', agree n h h' → deQ h' (.g [a, ii q.mode, ii q.after, b, ii q.within, ss q.par, c]) = some q := fun h' ha => deQ_sim (agr_sim hn ha) e2
  have g5 := rd_agr hn e5
  simp only [ii, ss] at gq
  simp [evs, aeval, binS, cx_ti, cx_G, cx_pf, cx_tw, ti, globS, glob, ldcs_1, ldcs_2, ldcs_3, ldcs_4, ldcs_5, ldcs_7, sls.eq_1, slc.eq_1, pfL, hdC, Tryd.f20, q0, q1, q2, ii, ss, s1, s2, s3, o0, o1, o2, o3]
  refine (acall_any (S := [7]) (by simp) (c54 (gq _ (hag _ _ _)) (g5 _ (hag _ _ _)) hq hp (hfr _ _ _))).mono ?_
  rintro z h2 n2 ⟨a1, a2, a3, a4⟩
  have b1 : ∀ j, j < n → h2 j = h j := fun j hj => by rw [a1 j (by omega)]; exact hag _ _ _ j hj
  unfold runPost at a4
  cases hr : runT (vars q.items) t with
  | true =>
    rw [hr, if_pos rfl] at a4
    obtain ⟨w, rfl, k1, k2, k3⟩ := a4
    simp [evs, aeval, binS, cx_ti, cx_G, cx_pf, cx_tw, ti, globS, glob, ldcs_1, ldcs_2, ldcs_3, ldcs_4, ldcs_5, ldcs_7, sls.eq_1, slc.eq_1, pfL, bv]
    exact ⟨w, by simp [up, q2], by simp [up], by simp [up], by simp [up], by simp only []; rw [a1 n (by omega)]; simp [up], by simp only []; rw [a1 (n + 2) (by omega)]; simp [up], k1, k2, k3, b1, a2⟩
  | false =>
    rw [hr] at a4
    simp only [Bool.false_eq_true, if_false] at a4
    subst a4
    simp [evs, aeval, binS, cx_ti, cx_G, cx_pf, cx_tw, ti, globS, glob, ldcs_1, ldcs_2, ldcs_3, ldcs_4, ldcs_5, ldcs_7, sls.eq_1, slc.eq_1, pfL, bv]
    exact ⟨by rw [a1 (n + 2) (by omega)]; simp [up], b1, a2, a3⟩
theorem c20b1 {wi : Nat} {its : List Int} (s : St) (hb : s.e 8 = bv true) (a : A20 h n sa ta t its wi s) {Q : Ex → St → Prop} :
    awp (cx [7] (pfL [])) (hdC 1 (tlC 2 (Tryd.f20.body.getD .skip))) (thenQ (A20 h n sa ta t its wi) Q) s := by
  obtain ⟨e, h1, n1⟩ := s
  have a0 := a
  simp only [bv] at hb
  simp [evs, aeval, binS, cx_ti, cx_G, cx_pf, cx_tw, ti, globS, glob, ldcs_1, ldcs_2, ldcs_3, ldcs_4, ldcs_5, ldcs_7, sls.eq_1, slc.eq_1, pfL, hdC, tlC, Tryd.f20, hb]
  obtain ⟨x1, x2, x3, x4, x5, x6, x7, x8, x9, x10, x11⟩ := a0
  exact ⟨by simpa [up] using x1, by simpa [up] using x2, by simpa [up] using x3, by simpa [up] using x4, x5, x6, x7, x8, x9, x10, x11⟩
theorem c20b2 (s : St) (hb : s.e 8 = bv false) (h6 : s.e 6 = .p (n + 2) 0 0) (hk : s.h (n + 2) = some ⟨[.v (.slice none 0 0), .v (.slice none 0 0)], 0, true, 2⟩) (ha : agree n h s.h) (hf : Fresh s.n s.h) (hnn : n + 3 ≤ s.n) {R : St → Prop} :
    awp (cx [7] (pfL [])) (hdC 1 (tlC 2 (Tryd.f20.body.getD .skip))) (thenQ R (finQ (cx [7] (pfL [])) Tryd.f20 fun z h' n' => agree n h h' ∧ Fresh n' h' ∧ n ≤ n' ∧ OwnQ h' n n' z ⟨[], []⟩)) s := by
  obtain ⟨e, h1, n1⟩ := s
  simp only [bv] at hb h6 hk ha hf hnn
  have y0 : n + 2 < n1 + 1 := by omega
  simp [evs, aeval, binS, cx_ti, cx_G, cx_pf, cx_tw, ti, globS, glob, ldcs_1, ldcs_2, ldcs_3, ldcs_4, ldcs_5, ldcs_7, sls.eq_1, slc.eq_1, pfL, hdC, tlC, Tryd.f20, hb, h6, hk, agree_up, ha, fresh_up, hf.add, y0]
  exact ⟨by omega, _, _, rfl, .inl ⟨rfl, rfl⟩, .inl ⟨rfl, rfl⟩⟩
/-- The compiler is there, and the list of jumps. -/
structure C20 (h0 : Heap) (n : Nat) (sa ta : AV) (t : List Nd) (its : List Int) (tys : List Ty) (wi m mm wb : Nat) (k : Nat) (s : St) : Prop where
  q2 : s.e 2 = ta
  q6 : s.e 6 = .p (n + 2) 0 0
  q7 : s.e 7 = .s wi 0 0 t.length
  q9 : s.e 9 = .p m 0 0
  q10 : s.e 10 = .s wb 0 0 t.length
  k6 : s.h (n + 2) = some ⟨[.v (.slice none 0 0), .v (.slice none 0 0)], 0, true, 2⟩
  ki : s.h wi = some ⟨its.map ii, 0, true, 1⟩
  km : s.h m = some ⟨[sa, .v (.slice none 0 0), .v (.slice none 0 0), .mv mm 0], 0, true, 4⟩
  kmm : s.h mm = some ⟨[], 0, true, 0⟩
  kb : s.h wb = some ⟨(bhL t k).map ii, 0, true, 1⟩
  wo : n + 3 ≤ wi ∧ wi < mm ∧ mm < m ∧ m < wb ∧ wb < s.n
  ag : agree n h0 s.h
  fr : Fresh s.n s.h
theorem c20c {wi : Nat} {its : List Int} (e5 : rd dNs h ta = some t) (hp : smallT t) (e1 : rd dTys h sa = some tys) (s : St) (a : A20 h n sa ta t its wi s) {Q : Ex → St → Prop} :
    awp (cx [7] (pfL [])) (hdC 2 (tlC 3 (Tryd.f20.body.getD .skip))) (thenQ (fun s' => ∃ m mm wb, C20 h n sa ta t its tys wi m mm wb 0 s') Q) s := by
  obtain ⟨e, h1, n1⟩ := s
  obtain ⟨x1, x2, x3, x4, x5, x6, x7, x8, x9, x10, x11⟩ := a
  simp only [] at x1 x2 x3 x4 x5 x6 x7 x8 x9 x10 x11
  obtain ⟨s1, s2, s3, s4, s5⟩ := sl_is e5
  have o0 := (sl_is e1).2.2.2.1
  have hp' : t.length * 64 ≤ 140737488355328 := hp
  have hb1 : (t.length : Int) * 8 ≤ 281474976710656 := by omega
  simp [evs, aeval, binS, cx_ti, cx_G, cx_pf, cx_tw, ti, globS, glob, ldcs_1, ldcs_2, ldcs_3, ldcs_4, ldcs_5, ldcs_7, sls.eq_1, slc.eq_1, pfL, hdC, tlC, Tryd.f20, x1, x2, x5, s1, s2, s3, o0, hb1]
  have hz : repZ [Value.int .i64 0] t.length = (bhL t 0).map ii := by rw [bhL_zero, repZ_rep]
  have y1 : n + 2 < n1 := by omega
  refine ⟨⟨by omega, by omega⟩, n1 + 1, n1, n1 + 2, by simpa [up] using x1, by simpa [up] using x3, by simpa [up] using x4, by simp [up], by simp [up], ?_, ?_, by simp [up], by simp [up], by simp [up, hz], ⟨x8, x9, by omega, by omega, by simp⟩, ?_, ?_⟩
  · simp only []
    rw [up_ne _ _ (by omega), up_ne _ _ (by omega), up_ne _ _ (by omega)]; exact x6
  · simp only []
    rw [up_ne _ _ (by omega), up_ne _ _ (by omega), up_ne _ _ (by omega)]; exact x7
  · simp only []
    exact (agree_up (by omega) _).2 ((agree_up (by omega) _).2 ((agree_up (by omega) _).2 x10))
  · exact (fresh_up (by simp) _).2 ((fresh_up (by simp) _).2 ((fresh_up (by simp) _).2 (x11.add 3)))
end
end Go.Proofs.YtkfphaphiikloaaDoor

/-
  CodeSpares, PART A: lists that share nothing: the setting; all written over.
-/
namespace Go.Proofs.YtkfphaphiikloaaDoor
open Go Go.Eng

/-- Lists: how many, how long each is, where each lies (or nowhere). -/
structure Ap where
  N : Nat
  L : Nat → Nat
  b : Nat → Nat
  u : Nat → Nat
  nl : Nat → Bool
  wl : Nat
  ul : Nat
def Ap.c (A : Ap) (i : Nat) : AV := if A.nl i = true then .v (.slice none 0 0) else .s (A.b i) (A.u i) 0 (A.L i)
def Ap.cs (A : Ap) : List AV := (List.range A.N).map A.c
structure Ap.Ok (A : Ap) (n : Nat) (la : AV) : Prop where
  la : (A.N = 0 ∧ la = .v (.slice none 0 0)) ∨ la = .s A.wl A.ul 0 A.N
  nil : ∀ i, i < A.N → A.nl i = true → A.L i = 0
  lt : ∀ i, i < A.N → A.nl i = false → A.b i < n
  inj : ∀ i j, i < A.N → j < A.N → A.nl i = false → A.nl j = false → A.b i = A.b j → i = j
  ne : ∀ i, i < A.N → A.nl i = false → A.b i ≠ A.wl
  wn : 0 < A.N → A.wl < n
theorem Ap.cs_at (A : Ap) {i : Nat} (h : i < A.N) : A.cs[i]? = some (A.c i) := by simp [Ap.cs, h]
theorem Ap.cs_len (A : Ap) : A.cs.length = A.N := by simp [Ap.cs]
theorem Ap.isS {A : Ap} {n : Nat} {la : AV} (k : A.Ok n la) : la.isS ∧ la.slen = A.N ∧ (∀ g, AV.unc g la = la) ∧ la.one ∧ la.cells = [la] := by
  rcases k.la with ⟨h0, rfl⟩ | rfl
  · exact ⟨⟨rfl, rfl⟩, h0.symm, fun _ => rfl, rfl, rfl⟩
  · exact ⟨trivial, rfl, fun _ => rfl, trivial, rfl⟩
theorem Ap.c_is (A : Ap) {n : Nat} {la : AV} (k : A.Ok n la) {i : Nat} (hi : i < A.N) : (A.c i).isS ∧ (A.c i).slen = A.L i ∧ (∀ g, AV.unc g (A.c i) = A.c i) ∧ (A.c i).one ∧ (A.c i).cells = [A.c i] := by
  unfold Ap.c
  split
  · rename_i h
    exact ⟨⟨rfl, rfl⟩, (k.nil i hi h).symm, fun _ => rfl, rfl, rfl⟩
  · exact ⟨trivial, rfl, fun _ => rfl, trivial, rfl⟩
def mkA (i : Nat) : Int := IntKind.i64.wrap (1000 + (i : Int))
def mkB (i : Nat) : Int := IntKind.i64.wrap (500000 + (i : Int))
/-- What has been written: all lists before the i-th, and of that one the first k. -/
structure W1 (A : Ap) (sz : Nat) (en : Int → List AV) (h0 : Heap) (n : Nat) (i k : Nat) (h : Heap) : Prop where
  hl : 0 < A.N → ∃ r, h A.wl = some ⟨A.cs, A.ul, r, 1⟩
  at_ : ∀ j, j < A.N → A.nl j = false → ∃ cs, h (A.b j) = some ⟨cs, A.u j, true, sz⟩ ∧ cs.length = A.L j * sz ∧ ∀ m, m < A.L j → (j < i ∨ (j = i ∧ m < k)) → (cs.drop (m * sz)).take sz = en (mkA j)
  oth : ∀ q, q < n → (∀ j, j < A.N → A.nl j = false → q ≠ A.b j) → h q = h0 q
theorem W1.next {A : Ap} {sz : Nat} {en : Int → List AV} {h0 : Heap} {n i : Nat} {h : Heap} (w : W1 A sz en h0 n i (A.L i) h) : W1 A sz en h0 n (i + 1) 0 h := by
  refine ⟨w.hl, fun j hj hn => ?_, w.oth⟩
  obtain ⟨cs, c1, c2, c3⟩ := w.at_ j hj hn
  refine ⟨cs, c1, c2, fun m hm ho => ?_⟩
  by_cases e : j = i
  · subst e; exact c3 m hm (.inr ⟨rfl, hm⟩)
  · exact c3 m hm (.inl (by omega))
theorem W1.nil {A : Ap} {sz : Nat} {en : Int → List AV} {h0 : Heap} {n i : Nat} {h : Heap} (w : W1 A sz en h0 n i 0 h) (hL : A.L i = 0) : W1 A sz en h0 n (i + 1) 0 h := by
  have : W1 A sz en h0 n i (A.L i) h := by rw [hL]; exact w
  exact this.next
/-- One element more. -/
theorem W1.step {A : Ap} {en : Int → List AV} {h0 : Heap} {n i k : Nat} {la : AV} {h : Heap} (ok : A.Ok n la) (w : W1 A 1 en h0 n i k h) (hi : i < A.N) (hn : A.nl i = false) (hk : k < A.L i) {cs : List AV} (hc : h (A.b i) = some ⟨cs, A.u i, true, 1⟩) {v : AV} (hv : en (mkA i) = [v]) :
    W1 A 1 en h0 n i (k + 1) (up h (A.b i) (some ⟨cs.set k v, A.u i, true, 1⟩)) := by
  have hne := ok.ne i hi hn
  refine ⟨fun h0' => ?_, fun j hj hnj => ?_, fun q hq hqj => ?_⟩
  · obtain ⟨r, hr⟩ := w.hl h0'
    exact ⟨r, by rw [up_ne _ _ (fun e => hne e.symm)]; exact hr⟩
  · by_cases e : j = i
    · subst e
      obtain ⟨cs', c1, c2, c3⟩ := w.at_ j hj hnj
      rw [hc] at c1
      simp only [Option.some.injEq, Blk.mk.injEq, and_true] at c1
      subst c1
      refine ⟨cs.set k v, up_same _ _ _, by rw [List.length_set]; exact c2, fun m hm ho => ?_⟩
      simp only [Nat.mul_one] at c2 c3 ⊢
      have hkl : k < cs.length := by omega
      have hml : m < (cs.set k v).length := by rw [List.length_set]; omega
      rw [List.drop_eq_getElem_cons hml, List.take_succ_cons, List.take_zero, hv]
      by_cases e2 : k = m
      · subst e2; rw [List.getElem_set_self]
      · rw [List.getElem_set_ne e2]
        have := c3 m hm (ho.elim (fun ho => absurd ho (by omega)) fun ho => .inr ⟨trivial, by omega⟩)
        rw [List.drop_eq_getElem_cons (by omega), List.take_succ_cons, List.take_zero, hv] at this
        exact this
    · have hbe : A.b j ≠ A.b i := fun hb => e (ok.inj j i hj hi hnj hn hb)
      obtain ⟨cs', c1, c2, c3⟩ := w.at_ j hj hnj
      exact ⟨cs', by rw [up_ne _ _ hbe]; exact c1, c2, fun m hm ho => c3 m hm (ho.elim .inl fun ho => absurd ho.1 e)⟩
  · rw [up_ne _ _ (hqj i hi hn)]
    exact w.oth q hq hqj
end Go.Proofs.YtkfphaphiikloaaDoor

/-
  CodeSpares, PART B: columns, all written over (the law's own).
-/
namespace Go.Proofs.YtkfphaphiikloaaDoor
open Go Go.Eng

def enI (m : Int) : List AV := [ii m]
section
set_option maxRecDepth 100000
set_option maxHeartbeats 4000000
variable {A : Ap} {h0 : Heap} {n : Nat} {la : AV}
theorem c40a (ok : A.Ok n la) (hN : A.N < big) (hLb : ∀ i, i < A.N → A.L i < big) (hw : W1 A 1 enI h0 n 0 0 h0) (hn : Fresh n h0) (e : Nat → AV) (q0 : e 0 = la) {Q : Ex → St → Prop} :
    awp (cz [] (pfL [])) (hdC 2 (Tryd.f40.body.getD .skip)) (thenQ (fun s => s.e 0 = la ∧ W1 A 1 enI h0 n A.N 0 s.h ∧ Fresh s.n s.h ∧ n ≤ s.n) Q) ⟨e, h0, n⟩ := by
  obtain ⟨s1, s2, s3, s4, s5⟩ := Ap.isS ok
  simp [evs, aeval, binS, cz_ti, cz_G, cz_pf, cz_tw, cz_two, two, ti, globS, glob, ldcs_1, ldcs_2, ldcs_3, ldcs_4, ldcs_5, ldcs_7, sls.eq_1, slc.eq_1, pfL, hdC, Tryd.f40]
  refine awp_loop (fun s => ∃ i : Nat, i ≤ A.N ∧ s.e 0 = la ∧ s.e 3 = ii i ∧ W1 A 1 enI h0 n i 0 s.h ∧ Fresh s.n s.h ∧ n ≤ s.n) (fun s => A.N - (s.e 3).i.toNat) ⟨0, by omega, by simp [up, q0], by simp [up, ii], hw, hn, by simp⟩ ?_
  rintro e' h' n' ⟨i, hi, q0, q3, w, fr, nn⟩
  simp only [] at q0 q3 w fr nn
  have hiw := wrap_nat (j := i) (by omega)
  by_cases hlt : i < A.N
  · have hlt' : (i : Int) < (A.N : Int) := by omega
    simp [evs, aeval, binS, cz_ti, cz_G, cz_pf, cz_tw, cz_two, two, ti, globS, glob, ldcs_1, ldcs_2, ldcs_3, ldcs_4, ldcs_5, ldcs_7, sls.eq_1, slc.eq_1, pfL, q0, q3, ii, s1, s2, s3, hlt, hlt']
    have hla : la = .s A.wl A.ul 0 A.N := ok.la.resolve_left fun h => by omega
    refine awp_loop (fun s => ∃ k : Nat, k ≤ A.L i ∧ s.e 0 = la ∧ s.e 3 = ii i ∧ s.e 4 = ii k ∧ W1 A 1 enI h0 n i k s.h ∧ Fresh s.n s.h ∧ n ≤ s.n) (fun s => A.L i - (s.e 4).i.toNat) ⟨0, by omega, by simp [up, q0], by simp [up, q3, ii], by simp [up, ii], w, fr, nn⟩ ?_
    rintro e2 h2 n2 ⟨k, hk, q0', q3', q4', w2, fr2, nn2⟩
    simp only [] at q0' q3' q4' w2 fr2 nn2
    obtain ⟨r, hr⟩ := w2.hl (by omega)
    have hcs := A.cs_at hlt
    have hcl := A.cs_len
    have hcg : A.cs[i]'(by rw [hcl]; exact hlt) = A.c i := by simp [Ap.cs]
    have hi1 : i + 1 ≤ A.N := hlt
    have hkw := wrap_nat (j := k) (by have := hLb i hlt; omega)
    obtain ⟨t1, t2, t3, t4, t5⟩ := A.c_is ok hlt
    subst hla
    by_cases hlk : k < A.L i
    · have hlk' : (k : Int) < (A.L i : Int) := by omega
      have hnl : A.nl i = false := by
        cases hb : A.nl i with
        | false => rfl
        | true => have := ok.nil i hlt hb; omega
      have hci : A.c i = .s (A.b i) (A.u i) 0 (A.L i) := by simp [Ap.c, hnl]
      rw [hci] at hcs hcg
      obtain ⟨cs, g1, g2, g3⟩ := w2.at_ i hlt hnl
      simp only [Nat.mul_one] at g2
      have hk1 : k + 1 ≤ A.L i := hlk
      have hst := w2.step ok hlt hnl hlk g1 (v := ii (mkA i)) rfl
      have hne : ¬ A.wl = A.b i := fun e => ok.ne i hlt hnl e.symm
      have hbl := ok.lt i hlt hnl
      simp [evs, aeval, binS, cz_ti, cz_G, cz_pf, cz_tw, cz_two, two, ti, globS, glob, ldcs_1, ldcs_2, ldcs_3, ldcs_4, ldcs_5, ldcs_7, sls.eq_1, slc.eq_1, pfL, q0', q3', q4', ii, hr, hcs, hcg, hcl, hlt, hlt', hi1, hlk, hlk', hk1, g1, g2, hkw]
      exact ⟨⟨k + 1, by omega, by omega, hst, (fresh_up (by omega) _).2 (fr2.add 1), by omega⟩, by omega⟩
    · obtain rfl : k = A.L i := by omega
      simp [evs, aeval, binS, cz_ti, cz_G, cz_pf, cz_tw, cz_two, two, ti, globS, glob, ldcs_1, ldcs_2, ldcs_3, ldcs_4, ldcs_5, ldcs_7, sls.eq_1, slc.eq_1, pfL, q0', q3', q4', ii, hr, hcs, hcg, hcl, hlt, hlt', hi1, t1, t2, t3, hiw]
      exact ⟨⟨i + 1, by omega, by omega, w2.next, fr2, nn2⟩, by omega⟩
  · obtain rfl : i = A.N := by omega
    simp [evs, aeval, binS, cz_ti, cz_G, cz_pf, cz_tw, cz_two, two, ti, globS, glob, ldcs_1, ldcs_2, ldcs_3, ldcs_4, ldcs_5, ldcs_7, sls.eq_1, slc.eq_1, pfL, q0, q3, ii, s1, s2, s3]
    exact ⟨w, fr, nn⟩
end
end Go.Proofs.YtkfphaphiikloaaDoor

/-
  CodeSpares, PART C: lists that share nothing, all made longer: what holds.
-/
namespace Go.Proofs.YtkfphaphiikloaaDoor
open Go Go.Eng

def row (sz : Nat) (es : List AV) (m : Nat) : List AV := (es.drop (m * sz)).take sz
theorem row_lt {sz c m : Nat} {es v : List AV} (hl : es.length = c * sz) (hm : m < c) : row sz (es ++ v) m = row sz es m := by
  have h1 : (m + 1) * sz ≤ c * sz := Nat.mul_le_mul_right sz hm
  rw [Nat.succ_mul] at h1
  unfold row
  rw [List.drop_append_of_le_length (by omega), List.take_append_of_le_length (by rw [List.length_drop]; omega)]
theorem row_eq {sz c : Nat} {es v : List AV} (hl : es.length = c * sz) (hv : v.length = sz) : row sz (es ++ v) c = v := by
  unfold row
  rw [← hl, List.drop_left, ← hv, List.take_length]
/-- A list made longer by k. -/
structure good (A : Ap) (sz : Nat) (en : Int → List AV) (j k : Nat) (es : List AV) : Prop where
  len : es.length = (A.L j + k) * sz
  old : ∀ m, m < A.L j → row sz es m = en (mkA j)
  new : ∀ m, A.L j ≤ m → m < A.L j + k → row sz es m = en (mkB j)
theorem good.app {A : Ap} {sz : Nat} {en : Int → List AV} {j k : Nat} {es : List AV} (g : good A sz en j k es) (hen : ∀ m, (en m).length = sz) : good A sz en j (k + 1) (es ++ en (mkB j)) := by
  refine ⟨by rw [List.length_append, g.len, hen, ← Nat.add_assoc, Nat.succ_mul], fun m hm => ?_, fun m h1 h2 => ?_⟩
  · rw [row_lt g.len (by omega)]; exact g.old m hm
  · by_cases h3 : m < A.L j + k
    · rw [row_lt g.len h3]; exact g.new m h1 h3
    · obtain rfl : m = A.L j + k := by omega
      exact row_eq g.len (hen _)
def lx (A : Ap) (β υ : Nat → Nat) (j : Nat) : AV := .s (β j) (υ j) 0 (A.L j + 30)
/-- The first i have been made longer; z is the list of them. -/
structure P2 (A : Ap) (sz : Nat) (en : Int → List AV) (h0 : Heap) (n nB i : Nat) (z : AV) (h : Heap) (nn : Nat) : Prop where
  hl : 0 < A.N → ∃ r, h A.wl = some ⟨A.cs, A.ul, r, 1⟩
  at_ : ∀ j, j < A.N → A.nl j = false → ∃ cs, h (A.b j) = some ⟨cs, A.u j, true, sz⟩ ∧ A.L j * sz ≤ cs.length ∧ (∀ m, m < A.L j → row sz cs m = en (mkA j)) ∧ (i ≤ j → cs.length = A.L j * sz)
  oth : ∀ q, q < n → (∀ j, j < A.N → A.nl j = false → q ≠ A.b j) → h q = h0 q
  lg : ∃ β υ : Nat → Nat, (∀ j, j < i → ∃ es, h (β j) = some ⟨es, υ j, true, sz⟩ ∧ good A sz en j 30 es ∧ ((A.nl j = false ∧ β j = A.b j) ∨ (nB ≤ β j ∧ β j < nn))) ∧
    ((i = 0 ∧ z = .v (.slice none 0 0)) ∨ ∃ w uw, z = .s w uw 0 i ∧ h w = some ⟨(List.range i).map (lx A β υ), uw, true, 1⟩ ∧ nB ≤ w ∧ w < nn ∧ ∀ j, j < i → β j ≠ w)
  fr : Fresh nn h
  nb : n ≤ nB
  bn : nB ≤ nn
/-- Of the i-th, k places have been added; x is what it has become. -/
structure X2 (A : Ap) (sz : Nat) (en : Int → List AV) (nI i : Nat) (hI : Heap) (k : Nat) (x : AV) (h : Heap) (nn : Nat) : Prop where
  ag : ∀ q, q < nI → (A.nl i = true ∨ q ≠ A.b i) → h q = hI q
  at_ : A.nl i = false → ∃ cs, h (A.b i) = some ⟨cs, A.u i, true, sz⟩ ∧ A.L i * sz ≤ cs.length ∧ ∀ m, m < A.L i → row sz cs m = en (mkA i)
  x : (k = 0 ∧ A.nl i = true ∧ x = .v (.slice none 0 0)) ∨ ∃ bx ux es, x = .s bx ux 0 (A.L i + k) ∧ h bx = some ⟨es, ux, true, sz⟩ ∧ good A sz en i k es ∧ ((A.nl i = false ∧ bx = A.b i) ∨ (nI ≤ bx ∧ bx < nn))
  fr : Fresh nn h
  nn : nI ≤ nn
section
variable {A : Ap} {sz : Nat} {en : Int → List AV} {h0 hI : Heap} {n nB nI i : Nat} {z la : AV}
theorem P2.start (w : W1 A sz en h0 n A.N 0 hI) (hf : Fresh nB hI) (hn : n ≤ nB) : P2 A sz en h0 n nB 0 (.v (.slice none 0 0)) hI nB := by
  refine ⟨w.hl, fun j hj hnj => ?_, w.oth, ⟨fun _ => 0, fun _ => 0, fun j hj => by omega, .inl ⟨rfl, rfl⟩⟩, hf, hn, Nat.le_refl _⟩
  obtain ⟨cs, c1, c2, c3⟩ := w.at_ j hj hnj
  exact ⟨cs, c1, by omega, fun m hm => c3 m hm (.inl hj), fun _ => c2⟩
theorem X2.start (ok : A.Ok n la) (p : P2 A sz en h0 n nB i z hI nI) (hi : i < A.N) : X2 A sz en nI i hI 0 (A.c i) hI nI := by
  refine ⟨fun _ _ _ => rfl, fun hn => ?_, ?_, p.fr, Nat.le_refl _⟩
  · obtain ⟨cs, c1, c2, c3, _⟩ := p.at_ i hi hn
    exact ⟨cs, c1, c2, c3⟩
  · cases hn : A.nl i with
    | true => exact .inl ⟨rfl, rfl, by simp [Ap.c, hn]⟩
    | false =>
      obtain ⟨cs, c1, c2, c3, c4⟩ := p.at_ i hi hn
      exact .inr ⟨A.b i, A.u i, cs, by simp [Ap.c, hn], c1, ⟨by rw [c4 (Nat.le_refl _), Nat.add_zero], c3, fun m h1 h2 => by omega⟩, .inl ⟨rfl, rfl⟩⟩
/-- One place more: of a list that was nowhere. -/
theorem X2.new (hen : ∀ m, (en m).length = sz) {k : Nat} {h : Heap} {nn nn' m : Nat} (ok : A.Ok n la) (hi : i < A.N) (p : X2 A sz en nI i hI k (.v (.slice none 0 0)) h nn) {h' : Heap} (hk : ∀ q, q < nn → h' q = h q) (hm : h' m = some ⟨en (mkB i), 0, true, sz⟩) (m1 : nn ≤ m) (m2 : m < nn') (hf : Fresh nn' h') : X2 A sz en nI i hI (k + 1) (.s m 0 0 1) h' nn' := by
  have hnn := p.nn
  have hkk : k = 0 ∧ A.nl i = true := by
    rcases p.x with ⟨h1, h2, _⟩ | ⟨_, _, _, h1, _⟩
    · exact ⟨h1, h2⟩
    · cases h1
  obtain ⟨rfl, hnl⟩ := hkk
  have hL := ok.nil i hi hnl
  refine ⟨fun q hq ho => by rw [hk q (by omega)]; exact p.ag q hq ho, (fun e => by rw [hnl] at e; cases e), .inr ⟨m, 0, en (mkB i), by rw [hL], hm, ⟨by rw [hL, hen]; omega, fun m hm => by omega, fun q h1 h2 => ?_⟩, .inr ⟨by omega, m2⟩⟩, hf, by omega⟩
  obtain rfl : q = 0 := by omega
  unfold row
  rw [Nat.zero_mul, List.drop_zero, ← hen (mkB i), List.take_length]
/-- One place more, where the list stands. -/
theorem X2.here (hen : ∀ m, (en m).length = sz) {k : Nat} {h : Heap} {nn nn' bx ux : Nat} {es : List AV} (ok : A.Ok n la) (hi : i < A.N) (hbI : A.nl i = false → A.b i < nI) (p : X2 A sz en nI i hI k (.s bx ux 0 (A.L i + k)) h nn) (he : h bx = some ⟨es, ux, true, sz⟩) {h' : Heap} (hk : ∀ q, q < nn → q ≠ bx → h' q = h q) (hm : h' bx = some ⟨es ++ en (mkB i), ux, true, sz⟩) (m2 : nn ≤ nn') (hf : Fresh nn' h') : X2 A sz en nI i hI (k + 1) (.s bx ux 0 (A.L i + k + 1)) h' nn' := by
  have hnn := p.nn
  obtain ⟨g, hb⟩ : good A sz en i k es ∧ ((A.nl i = false ∧ bx = A.b i) ∨ (nI ≤ bx ∧ bx < nn)) := by
    rcases p.x with ⟨_, _, h1⟩ | ⟨b', u', es', h1, h2, h3, h4⟩
    · cases h1
    · injection h1 with h5 h6 _ _
      subst h5 h6
      rw [he] at h2
      simp only [Option.some.injEq, Blk.mk.injEq, and_true] at h2
      subst h2
      exact ⟨h3, h4⟩
  refine ⟨fun q hq ho => ?_, fun hn => ?_, .inr ⟨bx, ux, es ++ en (mkB i), by rw [Nat.add_assoc], hm, g.app hen, hb.imp id fun h => ⟨h.1, by omega⟩⟩, hf, by omega⟩
  · have hq2 : q ≠ bx := by
      rcases hb with ⟨h1, h2⟩ | h1
      · rw [h2]
        rcases ho with ho | ho
        · rw [h1] at ho; cases ho
        · exact ho
      · omega
    rw [hk q (by omega) hq2]
    exact p.ag q hq ho
  · obtain ⟨cs, c1, c2, c3⟩ := p.at_ hn
    by_cases e : A.b i = bx
    · subst e
      rw [he] at c1
      simp only [Option.some.injEq, Blk.mk.injEq, and_true] at c1
      obtain ⟨rfl, _⟩ := c1
      have hu : ux = A.u i := by
        obtain ⟨cs', c1', _⟩ := p.at_ hn
        rw [he] at c1'
        simp only [Option.some.injEq, Blk.mk.injEq, and_true] at c1'
        exact c1'.2
      exact ⟨_, by rw [← hu]; exact hm, by rw [List.length_append]; omega, fun m hm => (g.app hen).old m hm⟩
    · exact ⟨cs, by rw [hk _ (by have := hbI hn; omega) e]; exact c1, c2, c3⟩
/-- One place more, moved. -/
theorem X2.away (hen : ∀ m, (en m).length = sz) {k : Nat} {h : Heap} {nn nn' bx ux m : Nat} {es : List AV} (hbI : A.nl i = false → A.b i < nI) (p : X2 A sz en nI i hI k (.s bx ux 0 (A.L i + k)) h nn) (he : h bx = some ⟨es, ux, true, sz⟩) {h' : Heap} (hk : ∀ q, q < nn → h' q = h q) (hm : h' m = some ⟨es ++ en (mkB i), 0, true, sz⟩) (m1 : nn ≤ m) (m2 : m < nn') (hf : Fresh nn' h') : X2 A sz en nI i hI (k + 1) (.s m 0 0 (A.L i + k + 1)) h' nn' := by
  have hnn := p.nn
  have g : good A sz en i k es := by
    rcases p.x with ⟨_, _, h1⟩ | ⟨b', u', es', h1, h2, h3, h4⟩
    · cases h1
    · injection h1 with h5 h6 _ _
      subst h5 h6
      rw [he] at h2
      simp only [Option.some.injEq, Blk.mk.injEq, and_true] at h2
      subst h2
      exact h3
  refine ⟨fun q hq ho => by rw [hk q (by omega)]; exact p.ag q hq ho, fun hn => ?_, .inr ⟨m, 0, _, by rw [Nat.add_assoc], hm, g.app hen, .inr ⟨by omega, m2⟩⟩, hf, by omega⟩
  obtain ⟨cs, c1, c2, c3⟩ := p.at_ hn
  exact ⟨cs, by rw [hk _ (by have := hbI hn; omega)]; exact c1, c2, c3⟩
/-- One list more is there: it is put behind the others. -/
theorem P2.next (ok : A.Ok n la) (p : P2 A sz en h0 n nB i z hI nI) (hi : i < A.N) {x : AV} {h h' : Heap} {nn nn' w' uw' : Nat} (q : X2 A sz en nI i hI 30 x h nn) (hm : nn ≤ nn') (hf : Fresh nn' h')
    (hz : ∀ β υ : Nat → Nat, (∀ j, j < i → β j < nI) → ((i = 0 ∧ z = .v (.slice none 0 0)) ∨ ∃ w uw, z = .s w uw 0 i ∧ h w = some ⟨(List.range i).map (lx A β υ), uw, true, 1⟩ ∧ nB ≤ w ∧ w < nI ∧ ∀ j, j < i → β j ≠ w) →
      h' w' = some ⟨(List.range i).map (lx A β υ) ++ [x], uw', true, 1⟩ ∧ nB ≤ w' ∧ w' < nn' ∧ (∀ q, q < nn → q ≠ w' → h' q = h q) ∧ (nn ≤ w' ∨ (w' < nI ∧ ∀ j, j < i → β j ≠ w'))) :
    P2 A sz en h0 n nB (i + 1) (.s w' uw' 0 (i + 1)) h' nn' := by
  have hnb := p.nb
  have hbn := p.bn
  have hqn := q.nn
  obtain ⟨β, υ, l1, l2⟩ := p.lg
  have hnB : A.nl i = false → A.b i < nB := fun e => by have := ok.lt i hi e; omega
  have hβ : ∀ j, j < i → β j < nI ∧ (A.nl i = true ∨ β j ≠ A.b i) := fun j hj => by
    obtain ⟨es, e1, e2, e3⟩ := l1 j hj
    rcases e3 with ⟨e3, e4⟩ | ⟨e3, e4⟩
    · have := ok.lt j (by omega) e3
      refine ⟨by omega, ?_⟩
      cases hn : A.nl i with
      | true => exact .inl rfl
      | false =>
        refine .inr fun e => ?_
        have := ok.inj j i (by omega) hi e3 hn (by rw [← e4, e])
        omega
    · refine ⟨e4, ?_⟩
      cases hn : A.nl i with
      | true => exact .inl rfl
      | false => exact .inr fun e => by have := hnB hn; omega
  have l2' : (i = 0 ∧ z = .v (.slice none 0 0)) ∨ ∃ w uw, z = .s w uw 0 i ∧ h w = some ⟨(List.range i).map (lx A β υ), uw, true, 1⟩ ∧ nB ≤ w ∧ w < nI ∧ ∀ j, j < i → β j ≠ w := by
    rcases l2 with h0 | ⟨w, uw, w1, w2, w3, w4, w5⟩
    · exact .inl h0
    · refine .inr ⟨w, uw, w1, ?_, w3, w4, w5⟩
      rw [q.ag w w4 ?_]
      · exact w2
      · cases hn : A.nl i with
        | true => exact .inl rfl
        | false => exact .inr fun e => by have := hnB hn; omega
  obtain ⟨z1, z2, z3, z4, z5⟩ := hz β υ (fun j hj => (hβ j hj).1) l2'
  obtain ⟨bx, ux, es, rfl, x2, x3, x4⟩ : ∃ bx ux es, x = .s bx ux 0 (A.L i + 30) ∧ h bx = some ⟨es, ux, true, sz⟩ ∧ good A sz en i 30 es ∧ ((A.nl i = false ∧ bx = A.b i) ∨ (nI ≤ bx ∧ bx < nn)) := by
    rcases q.x with ⟨h1, _⟩ | h1
    · cases h1
    · exact h1
  have hbx : bx ≠ w' := by
    rcases x4 with ⟨x5, x6⟩ | x5
    · have := hnB x5; omega
    · rcases z5 with z5 | z5 <;> omega
  have hold : ∀ q', q' < nI → (A.nl i = true ∨ q' ≠ A.b i) → q' ≠ w' → h' q' = hI q' := fun q' h1 h2 h3 => by rw [z4 q' (by omega) h3]; exact q.ag q' h1 h2
  have hbw : ∀ j, j < A.N → A.nl j = false → A.b j ≠ w' := fun j hj hn => by have := ok.lt j hj hn; omega
  have hji : ∀ j, j < A.N → A.nl j = false → j ≠ i → (A.nl i = true ∨ A.b j ≠ A.b i) := fun j hj hn hne => by
    cases hn2 : A.nl i with
    | true => exact .inl rfl
    | false => exact .inr fun e => hne (ok.inj j i hj hi hn hn2 e)
  refine ⟨fun hN => ?_, fun j hj hn => ?_, fun q' hq ho => ?_, ⟨fun j => if j = i then bx else β j, fun j => if j = i then ux else υ j, fun j hj => ?_, .inr ⟨w', uw', rfl, ?_, z2, z3, fun j hj => ?_⟩⟩, hf, hnb, by omega⟩
  · obtain ⟨r, hr⟩ := p.hl hN
    have hwn := ok.wn hN
    refine ⟨r, ?_⟩
    rw [hold A.wl (by omega) ?_ (by omega)]
    · exact hr
    · cases hn : A.nl i with
      | true => exact .inl rfl
      | false => exact .inr fun e => ok.ne i hi hn e.symm
  · have hjb := ok.lt j hj hn
    by_cases e : j = i
    · subst e
      obtain ⟨cs, c1, c2, c3⟩ := q.at_ hn
      exact ⟨cs, by rw [z4 _ (by omega) (hbw j hj hn)]; exact c1, c2, c3, fun h => by omega⟩
    · obtain ⟨cs, c1, c2, c3, c4⟩ := p.at_ j hj hn
      exact ⟨cs, by rw [hold _ (by omega) (hji j hj hn e) (hbw j hj hn)]; exact c1, c2, c3, fun h => c4 (by omega)⟩
  · rw [hold q' (by omega) ?_ (by omega)]
    · exact p.oth q' hq ho
    · cases hn : A.nl i with
      | true => exact .inl rfl
      | false => exact .inr (ho i hi hn)
  · by_cases e : j = i
    · subst e
      simp only [if_true]
      exact ⟨es, by rw [z4 bx ?_ hbx]; exact x2; rcases x4 with ⟨x5, x6⟩ | x5; have := hnB x5; omega; omega, x3, x4.imp id fun h => ⟨by omega, by omega⟩⟩
    · simp only [e, if_false]
      obtain ⟨es', e1, e2, e3⟩ := l1 j (by omega)
      have hbj : β j ≠ w' := by
        rcases z5 with z5 | z5
        · have := (hβ j (by omega)).1; omega
        · exact z5.2 j (by omega)
      exact ⟨es', by rw [hold _ (hβ j (by omega)).1 (hβ j (by omega)).2 hbj]; exact e1, e2, e3.imp id fun h => ⟨h.1, by omega⟩⟩
  · rw [z1, List.range_succ, List.map_append]
    have e1 : (List.range i).map (lx A (fun j => if j = i then bx else β j) fun j => if j = i then ux else υ j) = (List.range i).map (lx A β υ) := List.map_congr_left fun j hj => by
      have : j < i := List.mem_range.1 hj
      simp only [lx, show ¬ j = i by omega, if_false]
    rw [e1]
    simp [lx]
  · by_cases e : j = i
    · simp only [e, if_true]; exact hbx
    · simp only [e, if_false]
      rcases z5 with z5 | z5
      · have := (hβ j (by omega)).1; omega
      · exact z5.2 j (by omega)
end
end Go.Proofs.YtkfphaphiikloaaDoor

/-
  CodeSpares, PART D: columns, all made longer (the law's own).
-/
namespace Go.Proofs.YtkfphaphiikloaaDoor
open Go Go.Eng

theorem enI_len (m : Int) : (enI m).length = 1 := rfl
section
set_option maxRecDepth 100000
set_option maxHeartbeats 4000000
variable {A : Ap} {h0 hB : Heap} {n nB : Nat} {la : AV}
theorem c40b (ok : A.Ok n la) (hN : (A.N + 1) * 24 ≤ 140737488355328) (hLb : ∀ i, i < A.N → (A.L i + 31) * 8 ≤ 140737488355328) (hw : W1 A 1 enI h0 n A.N 0 hB) (hn : Fresh nB hB) (hnb : n ≤ nB) (e : Nat → AV) (q0 : e 0 = la) {Q : Ex → St → Prop} :
    awp (cz [] (pfL [])) (hdC 2 (tlC 2 (Tryd.f40.body.getD .skip))) (thenQ (fun s => s.e 0 = la ∧ P2 A 1 enI h0 n nB A.N (s.e 5) s.h s.n) Q) ⟨e, hB, nB⟩ := by
  obtain ⟨s1, s2, s3, s4, s5⟩ := Ap.isS ok
  simp [evs, aeval, binS, cz_ti, cz_G, cz_pf, cz_tw, cz_two, two, ti, globS, glob, ldcs_1, ldcs_2, ldcs_3, ldcs_4, ldcs_5, ldcs_7, sls.eq_1, slc.eq_1, pfL, hdC, tlC, Tryd.f40]
  refine awp_loop (fun s => ∃ i : Nat, i ≤ A.N ∧ s.e 0 = la ∧ s.e 6 = ii i ∧ P2 A 1 enI h0 n nB i (s.e 5) s.h s.n) (fun s => A.N - (s.e 6).i.toNat) ⟨0, by omega, by simp [up, q0], by simp [up, ii], by simpa [up] using P2.start hw hn hnb⟩ ?_
  rintro e' hI nI ⟨i, hi, q0, q6, p⟩
  simp only [] at q0 q6 p
  have hiw := wrap_nat (j := i) (by unfold big; omega)
  by_cases hlt : i < A.N
  · have hlt' : (i : Int) < (A.N : Int) := by omega
    obtain ⟨r, hr⟩ := p.hl (by omega)
    have hcs := A.cs_at hlt
    have hcl := A.cs_len
    have hcg : A.cs[i]'(by rw [hcl]; exact hlt) = A.c i := by simp [Ap.cs]
    have hi1 : i + 1 ≤ A.N := hlt
    have hla : la = .s A.wl A.ul 0 A.N := ok.la.resolve_left fun h => by omega
    have hbI : A.nl i = false → A.b i < nI := fun h => by have := ok.lt i hlt h; have := p.nb; have := p.bn; omega
    obtain ⟨z, q5⟩ : ∃ z, e' 5 = z := ⟨_, rfl⟩
    rw [q5] at p
    have ok' := ok
    subst hla
    simp [evs, aeval, binS, cz_ti, cz_G, cz_pf, cz_tw, cz_two, two, ti, globS, glob, ldcs_1, ldcs_2, ldcs_3, ldcs_4, ldcs_5, ldcs_7, sls.eq_1, slc.eq_1, pfL, q0, q5, q6, ii, hlt, hlt', hr, hcs, hcg, hcl, hi1]
    refine awp_loop (fun s => ∃ k : Nat, k ≤ 30 ∧ s.e 0 = .s A.wl A.ul 0 A.N ∧ s.e 5 = z ∧ s.e 6 = ii i ∧ s.e 8 = ii k ∧ X2 A 1 enI nI i hI k (s.e 7) s.h s.n) (fun s => 30 - (s.e 8).i.toNat) ⟨0, by omega, by simp [up, q0], by simp [up, q5], by simp [up, q6, ii], by simp [up, ii], by simpa [up] using X2.start ok p hlt⟩ ?_
    rintro e2 h2 n2 ⟨k, hk, q0', q5', q6', q8', x2⟩
    simp only [] at q0' q5' q6' q8' x2
    have hkw := wrap_nat (j := k) (by unfold big; omega)
    have hLi := hLb i hlt
    obtain ⟨x, q7⟩ : ∃ x, e2 7 = x := ⟨_, rfl⟩
    rw [q7] at x2
    have fr2 := x2.fr
    by_cases hlk : k < 30
    · have hlk' : (k : Int) < 30 := by omega
      have x20 := x2
      rcases x2.x with ⟨_, _, rfl⟩ | ⟨bx, ux, es, rfl, hb, hg, hbr⟩
      · simp [evs, aeval, binS, cz_ti, cz_G, cz_pf, cz_tw, cz_two, two, ti, globS, glob, ldcs_1, ldcs_2, ldcs_3, ldcs_4, ldcs_5, ldcs_7, sls.eq_1, slc.eq_1, pfL, q0', q5', q6', q7, q8', ii, hlk', hkw]
        exact ⟨⟨k + 1, by omega, by omega, X2.new enI_len ok' hlt x20 (fun q hq => by rw [up_ne _ _ (by omega), up_ne _ _ (by omega)]) (up_same _ _ _) (by omega) (by omega) ((fresh_up (by omega) _).2 ((fresh_up (by omega) _).2 (fr2.add 2)))⟩, by omega⟩
      · have hel := hg.len
        rw [Nat.mul_one] at hel
        have b1 : (A.L i + (k + 1)) * 8 ≤ 140737488355328 := by omega
        have b2 : A.L i + k ≤ 9223372036854775806 := by omega
        have hbn : bx < n2 := lt_of hb fr2
        have y1 : ¬ bx = n2 := by omega
        simp [evs, aeval, binS, cz_ti, cz_G, cz_pf, cz_tw, cz_two, two, ti, globS, glob, ldcs_1, ldcs_2, ldcs_3, ldcs_4, ldcs_5, ldcs_7, sls.eq_1, slc.eq_1, pfL, q0', q5', q6', q7, q8', ii, hlk', hkw, hb, hel, b1, b2, y1]
        refine ⟨by omega, ⟨⟨k + 1, by omega, by omega, X2.here enI_len ok' hlt hbI x20 hb (fun q hq hq2 => by rw [up_ne _ _ hq2, up_ne _ _ (by omega)]) (up_same _ _ _) (by omega) ((fresh_up (by omega) _).2 ((fresh_up (by omega) _).2 (fr2.add 2)))⟩, by omega⟩, ⟨k + 1, by omega, by omega, X2.away enI_len hbI x20 hb (fun q hq => by rw [up_ne _ _ (by omega), up_ne _ _ (by omega)]) (up_same _ _ _) (by omega) (by omega) ((fresh_up (by omega) _).2 ((fresh_up (by omega) _).2 (fr2.add 2)))⟩, by omega⟩
    · obtain rfl : k = 30 := by omega
      obtain ⟨bx, ux, es, rfl, hb, hg, hbr⟩ : ∃ bx ux es, x = .s bx ux 0 (A.L i + 30) ∧ h2 bx = some ⟨es, ux, true, 1⟩ ∧ good A 1 enI i 30 es ∧ ((A.nl i = false ∧ bx = A.b i) ∨ (nI ≤ bx ∧ bx < n2)) := by
        rcases x2.x with ⟨h1, _⟩ | h1
        · cases h1
        · exact h1
      have hnn := x2.nn
      rcases Classical.em (i = 0 ∧ z = .v (.slice none 0 0)) with ⟨h00, rfl⟩ | hzn
      · simp [evs, aeval, binS, cz_ti, cz_G, cz_pf, cz_tw, cz_two, two, ti, globS, glob, ldcs_1, ldcs_2, ldcs_3, ldcs_4, ldcs_5, ldcs_7, sls.eq_1, slc.eq_1, pfL, q0', q5', q6', q7, q8', ii, hiw]
        have e1 : AV.s (n2 + 1) 0 0 1 = AV.s (n2 + 1) 0 0 (i + 1) := by rw [h00]
        rw [e1]
        have hpb := p.nb
        have hpn := p.bn
        refine ⟨⟨i + 1, by omega, by omega, P2.next ok' p hlt x2 (by omega) ((fresh_up (by omega) _).2 ((fresh_up (by omega) _).2 (fr2.add 2))) fun β υ hβ hz => ⟨by rw [up_same, h00]; rfl, by omega, by omega, fun q hq hq2 => by rw [up_ne _ _ (by omega), up_ne _ _ (by omega)], .inl (by omega)⟩⟩, by omega⟩
      · obtain ⟨β, υ, l1, l2⟩ := p.lg
        obtain ⟨w, uw, rfl, w2, w3, w4, w5⟩ := l2.resolve_left hzn
        have hww : A.nl i = true ∨ w ≠ A.b i := by
          cases hn : A.nl i with
          | true => exact .inl rfl
          | false => exact .inr fun e => by have := ok'.lt i hlt hn; omega
        have hw2 : h2 w = _ := (x2.ag w w4 hww).trans w2
        have hwl : ((List.range i).map (lx A β υ)).length = i := by simp
        have b1 : (i + 1) * 24 ≤ 140737488355328 := by omega
        have b2 : i ≤ 9223372036854775806 := by omega
        have y1 : ¬ w = n2 := by omega
        generalize hds : (List.range i).map (lx A β υ) = ds at *
        simp [evs, aeval, binS, cz_ti, cz_G, cz_pf, cz_tw, cz_two, two, ti, globS, glob, ldcs_1, ldcs_2, ldcs_3, ldcs_4, ldcs_5, ldcs_7, sls.eq_1, slc.eq_1, pfL, q0', q5', q6', q7, q8', ii, hiw, hw2, hwl, b1, b2, y1]
        have hpb := p.nb
        have hpn := p.bn
        have hsame : ∀ β' υ' : Nat → Nat, ((i = 0 ∧ AV.s w uw 0 i = .v (.slice none 0 0)) ∨ ∃ w' uw', AV.s w uw 0 i = .s w' uw' 0 i ∧ h2 w' = some ⟨(List.range i).map (lx A β' υ'), uw', true, 1⟩ ∧ nB ≤ w' ∧ w' < nI ∧ ∀ j, j < i → β' j ≠ w') → (List.range i).map (lx A β' υ') = ds ∧ ∀ j, j < i → β' j ≠ w := fun β' υ' hz => by
          rcases hz with ⟨_, h1⟩ | ⟨w', uw', h1, h2', _, _, h5⟩
          · cases h1
          · injection h1 with h6 h7 _ _
            subst h6 h7
            rw [hw2] at h2'
            simp only [Option.some.injEq, Blk.mk.injEq, and_true] at h2'
            exact ⟨h2'.symm, h5⟩
        refine ⟨⟨⟨i + 1, by omega, by omega, P2.next ok' p hlt x2 (by omega) ((fresh_up (by omega) _).2 ((fresh_up (by omega) _).2 (fr2.add 2))) fun β' υ' hβ hz => ?_⟩, by omega⟩, ⟨i + 1, by omega, by omega, P2.next ok' p hlt x2 (by omega) ((fresh_up (by omega) _).2 ((fresh_up (by omega) _).2 (fr2.add 2))) fun β' υ' hβ hz => ?_⟩, by omega⟩
        · obtain ⟨k1, k2⟩ := hsame β' υ' hz
          exact ⟨by rw [up_same, k1], by omega, by omega, fun q hq hq2 => by rw [up_ne _ _ hq2, up_ne _ _ (by omega)], .inr ⟨w4, k2⟩⟩
        · obtain ⟨k1, k2⟩ := hsame β' υ' hz
          exact ⟨by rw [up_same, k1], by omega, by omega, fun q hq hq2 => by rw [up_ne _ _ (by omega), up_ne _ _ (by omega)], .inl (by omega)⟩
  · obtain rfl : i = A.N := by omega
    simp [evs, aeval, binS, cz_ti, cz_G, cz_pf, cz_tw, cz_two, two, ti, globS, glob, ldcs_1, ldcs_2, ldcs_3, ldcs_4, ldcs_5, ldcs_7, sls.eq_1, slc.eq_1, pfL, q0, q6, ii, s1, s2, s3]
    exact p
end
end Go.Proofs.YtkfphaphiikloaaDoor
