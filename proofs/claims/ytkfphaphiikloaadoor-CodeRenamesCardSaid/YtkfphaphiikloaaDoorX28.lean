/-
  COMPILING, PART H: Compile: the beginning.
-/
import Derived.Test.YtkfphaphiikloaaDoorX25
import Derived.Test.YtkfphaphiikloaaDoorX27
set_option linter.unusedSimpArgs false
set_option linter.unusedVariables false
set_option linter.constructorNameAsVariable false
namespace Go.Proofs.YtkfphaphiikloaaDoor
open Go Go.Eng

def bodyL : Code → Code
  | .seq _ (.block _ (.loop c)) => c
  | _ => .skip
def inB : Code → Code
  | .block _ c => c
  | c => c
theorem repZ_rep : ∀ n, repZ [Value.int .i64 0] n = (List.replicate n (0 : Int)).map ii
  | 0 => rfl
  | n + 1 => by
    show (.v (.int .i64 0) : AV) :: repZ [Value.int .i64 0] n = _
    rw [repZ_rep n]; rfl
/-- What stands when the instructions are to be laid: the program's tree, its items. -/
structure A20 (h0 : Heap) (n : Nat) (sa ta : AV) (t : List Nd) (its : List Int) (wi : Nat) (s : St) : Prop where
  q2 : s.e 2 = ta
  q3 : s.e 3 = .p n 0 0
  q6 : s.e 6 = .p (n + 2) 0 0
  q7 : s.e 7 = .s wi 0 0 t.length
  k3 : s.h n = some ⟨[sa], 0, true, 1⟩
  k6 : s.h (n + 2) = some ⟨[.v (.slice none 0 0), .v (.slice none 0 0)], 0, true, 2⟩
  ki : s.h wi = some ⟨its.map ii, 0, true, 1⟩
  w1 : n + 3 ≤ wi
  w2 : wi < s.n
  ag : agree n h0 s.h
  fr : Fresh s.n s.h
/-- A program of its own: nothing of it stood before. -/
def OwnQ (h : Heap) (lo hi : Nat) (z : AV) (p : Pr) : Prop := ∃ ca la, z = .g [ca, la] ∧
  ((p.code = [] ∧ ca = .v (.slice none 0 0)) ∨ ∃ w u, ca = .s w u 0 p.code.length ∧ h w = some ⟨p.code.flatMap icells, u, true, 5⟩ ∧ lo ≤ w ∧ w < hi) ∧
  ((p.cols = [] ∧ la = .v (.slice none 0 0)) ∨ ∃ w u cs, la = .s w u 0 p.cols.length ∧ h w = some ⟨cs, u, true, 1⟩ ∧ lo ≤ w ∧ w < hi ∧ ¬ sid ca w ∧ cs.length = p.cols.length ∧
    ∀ i (hi' : i < p.cols.length), ∃ c, cs[i]? = some c ∧ KC h (fun q => lo ≤ q) hi (fun b => sid ca b ∨ b = w ∨ Ear cs i b) c p.cols[i])
section
set_option maxRecDepth 100000
set_option maxHeartbeats 4000000
variable {h : Heap} {n : Nat} {sa qx ta : AV} {tys : List Ty} {q : Qu} {t : List Nd}
theorem c20a (e1 : rd dTys h sa = some tys) (e2 : deQ h qx = some q) (e5 : rd dNs h ta = some t) (hq : q.items.length < big) (hp : smallT t) (hn : Fresh n h) (e : Nat → AV) (q0 : e 0 = .g [sa]) (q1 : e 1 = qx) (q2 : e 2 = ta) {Q : Ex → St → Prop} :
    awp (cx [7] (pfL [])) (hdC 2 (Tryd.f20.body.getD .skip)) (thenQ (fun s => (runT (vars q.items) t = true ∧ s.e 8 = bv true ∧ ∃ wi, A20 h n sa ta t (t.map (itemV (vars q.items))) wi s) ∨ (runT (vars q.items) t = false ∧ s.e 8 = bv false ∧ s.e 6 = .p (n + 2) 0 0 ∧ s.h (n + 2) = some ⟨[.v (.slice none 0 0), .v (.slice none 0 0)], 0, true, 2⟩ ∧ agree n h s.h ∧ Fresh s.n s.h ∧ n + 3 ≤ s.n)) Q) ⟨e, h, n⟩ := by
  obtain ⟨a, b, c, rfl, x2, x3, x4⟩ := deQ_out e2
  obtain ⟨s1, s2, s3, s4, s5⟩ := sl_is e5
  have o0 := (sl_is e1).2.2.2.1
  have o1 := (sl_is x2).2.2.2.1
  have o2 := (sl_is x3).2.2.2.1
  have o3 := (sl_is x4).2.2.2.1
  have hag : ∀ b1 b2 b3 : Option Blk, agree n h (up (up (up h n b1) (n + 1) b2) (n + 2) b3) := fun b1 b2 b3 => by simp [agree_up, agree_refl]
  have hfr : ∀ b1 b2 b3 : Option Blk, Fresh (n + 3) (up (up (up h n b1) (n + 1) b2) (n + 2) b3) := fun b1 b2 b3 => by simp [fresh_up, hn.add]
  have gq : ∀ h', agree n h h' → deQ h' (.g [a, ii q.mode, ii q.after, b, ii q.within, ss q.par, c]) = some q := fun h' ha => deQ_sim (agr_sim hn ha) e2
  have g5 := rd_agr hn e5
  simp only [ii, ss] at gq
  simp [evs, aeval, binS, cx_ti, cx_G, cx_pf, cx_tw, ti, globS, glob, ldcs_1, ldcs_2, ldcs_3, ldcs_4, ldcs_5, ldcs_7, sls.eq_1, slc.eq_1, pfL, hdC, Tryd.f20, q0, q1, q2, ii, ss, s1, s2, s3, o0, o1, o2, o3]
  refine (acall_any (S := [7]) (by simp) (c54 (gq _ (hag _ _ _)) (g5 _ (hag _ _ _)) hq hp (hfr _ _ _))).mono ?_
  rintro z h2 n2 ⟨a1, a2, a3, a4⟩
  have b1 : ∀ j, j < n → h2 j = h j := fun j hj => by rw [a1 j (by omega)]; exact hag _ _ _ j hj
  unfold runPost at a4
  cases hr : runT (vars q.items) t with
  | true =>
    rw [hr, if_pos rfl] at a4
    obtain ⟨w, rfl, k1, k2, k3⟩ := a4
    simp [evs, aeval, binS, cx_ti, cx_G, cx_pf, cx_tw, ti, globS, glob, ldcs_1, ldcs_2, ldcs_3, ldcs_4, ldcs_5, ldcs_7, sls.eq_1, slc.eq_1, pfL, bv]
    exact ⟨w, by simp [up, q2], by simp [up], by simp [up], by simp [up], by simp only []; rw [a1 n (by omega)]; simp [up], by simp only []; rw [a1 (n + 2) (by omega)]; simp [up], k1, k2, k3, b1, a2⟩
  | false =>
    rw [hr] at a4
    simp only [Bool.false_eq_true, if_false] at a4
    subst a4
    simp [evs, aeval, binS, cx_ti, cx_G, cx_pf, cx_tw, ti, globS, glob, ldcs_1, ldcs_2, ldcs_3, ldcs_4, ldcs_5, ldcs_7, sls.eq_1, slc.eq_1, pfL, bv]
    exact ⟨by rw [a1 (n + 2) (by omega)]; simp [up], b1, a2, a3⟩
theorem c20b1 {wi : Nat} {its : List Int} (s : St) (hb : s.e 8 = bv true) (a : A20 h n sa ta t its wi s) {Q : Ex → St → Prop} :
    awp (cx [7] (pfL [])) (hdC 1 (tlC 2 (Tryd.f20.body.getD .skip))) (thenQ (A20 h n sa ta t its wi) Q) s := by
  obtain ⟨e, h1, n1⟩ := s
  have a0 := a
  simp only [bv] at hb
  simp [evs, aeval, binS, cx_ti, cx_G, cx_pf, cx_tw, ti, globS, glob, ldcs_1, ldcs_2, ldcs_3, ldcs_4, ldcs_5, ldcs_7, sls.eq_1, slc.eq_1, pfL, hdC, tlC, Tryd.f20, hb]
  obtain ⟨x1, x2, x3, x4, x5, x6, x7, x8, x9, x10, x11⟩ := a0
  exact ⟨by simpa [up] using x1, by simpa [up] using x2, by simpa [up] using x3, by simpa [up] using x4, x5, x6, x7, x8, x9, x10, x11⟩
theorem c20b2 (s : St) (hb : s.e 8 = bv false) (h6 : s.e 6 = .p (n + 2) 0 0) (hk : s.h (n + 2) = some ⟨[.v (.slice none 0 0), .v (.slice none 0 0)], 0, true, 2⟩) (ha : agree n h s.h) (hf : Fresh s.n s.h) (hnn : n + 3 ≤ s.n) {R : St → Prop} :
    awp (cx [7] (pfL [])) (hdC 1 (tlC 2 (Tryd.f20.body.getD .skip))) (thenQ R (finQ (cx [7] (pfL [])) Tryd.f20 fun z h' n' => agree n h h' ∧ Fresh n' h' ∧ n ≤ n' ∧ OwnQ h' n n' z ⟨[], []⟩)) s := by
  obtain ⟨e, h1, n1⟩ := s
  simp only [bv] at hb h6 hk ha hf hnn
  have y0 : n + 2 < n1 + 1 := by omega
  simp [evs, aeval, binS, cx_ti, cx_G, cx_pf, cx_tw, ti, globS, glob, ldcs_1, ldcs_2, ldcs_3, ldcs_4, ldcs_5, ldcs_7, sls.eq_1, slc.eq_1, pfL, hdC, tlC, Tryd.f20, hb, h6, hk, agree_up, ha, fresh_up, hf.add, y0]
  exact ⟨by omega, _, _, rfl, .inl ⟨rfl, rfl⟩, .inl ⟨rfl, rfl⟩⟩
/-- The compiler is there, and the list of jumps. -/
structure C20 (h0 : Heap) (n : Nat) (sa ta : AV) (t : List Nd) (its : List Int) (tys : List Ty) (wi m mm wb : Nat) (k : Nat) (s : St) : Prop where
  q2 : s.e 2 = ta
  q6 : s.e 6 = .p (n + 2) 0 0
  q7 : s.e 7 = .s wi 0 0 t.length
  q9 : s.e 9 = .p m 0 0
  q10 : s.e 10 = .s wb 0 0 t.length
  k6 : s.h (n + 2) = some ⟨[.v (.slice none 0 0), .v (.slice none 0 0)], 0, true, 2⟩
  ki : s.h wi = some ⟨its.map ii, 0, true, 1⟩
  km : s.h m = some ⟨[sa, .v (.slice none 0 0), .v (.slice none 0 0), .mv mm 0], 0, true, 4⟩
  kmm : s.h mm = some ⟨[], 0, true, 0⟩
  kb : s.h wb = some ⟨(bhL t k).map ii, 0, true, 1⟩
  wo : n + 3 ≤ wi ∧ wi < mm ∧ mm < m ∧ m < wb ∧ wb < s.n
  ag : agree n h0 s.h
  fr : Fresh s.n s.h
theorem c20c {wi : Nat} {its : List Int} (e5 : rd dNs h ta = some t) (hp : smallT t) (e1 : rd dTys h sa = some tys) (s : St) (a : A20 h n sa ta t its wi s) {Q : Ex → St → Prop} :
    awp (cx [7] (pfL [])) (hdC 2 (tlC 3 (Tryd.f20.body.getD .skip))) (thenQ (fun s' => ∃ m mm wb, C20 h n sa ta t its tys wi m mm wb 0 s') Q) s := by
  obtain ⟨e, h1, n1⟩ := s
  obtain ⟨x1, x2, x3, x4, x5, x6, x7, x8, x9, x10, x11⟩ := a
  simp only [] at x1 x2 x3 x4 x5 x6 x7 x8 x9 x10 x11
  obtain ⟨s1, s2, s3, s4, s5⟩ := sl_is e5
  have o0 := (sl_is e1).2.2.2.1
  have hp' : t.length * 64 ≤ 140737488355328 := hp
  have hb1 : (t.length : Int) * 8 ≤ 281474976710656 := by omega
  simp [evs, aeval, binS, cx_ti, cx_G, cx_pf, cx_tw, ti, globS, glob, ldcs_1, ldcs_2, ldcs_3, ldcs_4, ldcs_5, ldcs_7, sls.eq_1, slc.eq_1, pfL, hdC, tlC, Tryd.f20, x1, x2, x5, s1, s2, s3, o0, hb1]
  have hz : repZ [Value.int .i64 0] t.length = (bhL t 0).map ii := by rw [bhL_zero, repZ_rep]
  have y1 : n + 2 < n1 := by omega
  refine ⟨⟨by omega, by omega⟩, n1 + 1, n1, n1 + 2, by simpa [up] using x1, by simpa [up] using x3, by simpa [up] using x4, by simp [up], by simp [up], ?_, ?_, by simp [up], by simp [up], by simp [up, hz], ⟨x8, x9, by omega, by omega, by simp⟩, ?_, ?_⟩
  · simp only []
    rw [up_ne _ _ (by omega), up_ne _ _ (by omega), up_ne _ _ (by omega)]; exact x6
  · simp only []
    rw [up_ne _ _ (by omega), up_ne _ _ (by omega), up_ne _ _ (by omega)]; exact x7
  · simp only []
    exact (agree_up (by omega) _).2 ((agree_up (by omega) _).2 ((agree_up (by omega) _).2 x10))
  · exact (fresh_up (by simp) _).2 ((fresh_up (by simp) _).2 ((fresh_up (by simp) _).2 (x11.add 3)))
end
end Go.Proofs.YtkfphaphiikloaaDoor

/-
  COMPILING, PART I: Compile: which jump follows each node.
-/
namespace Go.Proofs.YtkfphaphiikloaaDoor
open Go Go.Eng

theorem C20.up {h0 : Heap} {n : Nat} {sa ta : AV} {t : List Nd} {its : List Int} {tys : List Ty} {wi m mm wb k k' : Nat} {s s' : St} (a : C20 h0 n sa ta t its tys wi m mm wb k s) (he : ∀ i ∈ [2, 6, 7, 9, 10], s'.e i = s.e i) (hh : ∀ q, q < s.n → q ≠ wb → s'.h q = s.h q) (hb : s'.h wb = some ⟨(bhL t k').map ii, 0, true, 1⟩) (hf : Fresh s'.n s'.h) (hn : s.n ≤ s'.n) : C20 h0 n sa ta t its tys wi m mm wb k' s' := by
  obtain ⟨x1, x2, x3, x4, x5, x6, x7, x8, x9, x10, x11, x12, x13⟩ := a
  exact ⟨by rw [he 2 (by simp)]; exact x1, by rw [he 6 (by simp)]; exact x2, by rw [he 7 (by simp)]; exact x3, by rw [he 9 (by simp)]; exact x4, by rw [he 10 (by simp)]; exact x5, by rw [hh _ (by omega) (by omega)]; exact x6, by rw [hh _ (by omega) (by omega)]; exact x7, by rw [hh _ (by omega) (by omega)]; exact x8, by rw [hh _ (by omega) (by omega)]; exact x9, hb, by omega, fun q hq => by rw [hh q (by omega) (by omega)]; exact x12 q hq, hf⟩
section
set_option maxRecDepth 100000
set_option maxHeartbeats 4000000
variable {h : Heap} {n : Nat} {sa ta : AV} {tys : List Ty} {t : List Nd}
theorem c20d {wi m mm wb : Nat} {its : List Int} {lo : Nat → Nat} (T : Tre t lo) (e5 : rd dNs h ta = some t) (hp : smallT t) (hn : Fresh n h) (s : St) (a : C20 h n sa ta t its tys wi m mm wb 0 s) {Q : Ex → St → Prop} :
    awp (cx [7] (pfL [])) (hdC 1 (tlC 5 (Tryd.f20.body.getD .skip))) (thenQ (C20 h n sa ta t its tys wi m mm wb t.length) Q) s := by
  obtain ⟨e, h1, n1⟩ := s
  have a0 := a
  have x1 := a.q2
  simp only [] at x1
  obtain ⟨s1, s2, s3, s4, s5⟩ := sl_is e5
  have hp' : t.length * 64 ≤ 140737488355328 := hp
  simp [evs, aeval, binS, cx_ti, cx_G, cx_pf, cx_tw, ti, globS, glob, ldcs_1, ldcs_2, ldcs_3, ldcs_4, ldcs_5, ldcs_7, sls.eq_1, slc.eq_1, pfL, hdC, tlC, Tryd.f20, x1, s1, s2, s3]
  refine awp_loop (fun s => ∃ j, j ≤ t.length ∧ s.e 32 = ta ∧ s.e 33 = ii t.length ∧ s.e 34 = ii j ∧ C20 h n sa ta t its tys wi m mm wb j s) (fun s => t.length - (s.e 34).i.toNat) ⟨0, by omega, by simp [up], by simp [up, ii], by simp [up, ii], a0.up (by simp [up, x1]) (fun _ _ _ => rfl) a0.kb a0.fr (Nat.le_refl _)⟩ ?_
  rintro e' h' n' ⟨j, hj, q32, q33, q34, a⟩
  simp only [] at q32 q33 q34
  by_cases hlt : j < t.length
  · rcases ns_at e5 with ⟨h0, _⟩ | ⟨id, off, k, rfl, hk, ho, hat⟩
    · rw [h0] at hlt; simp at hlt
    have hr := hat j hlt
    have hid : id < n := lt_of hk hn
    have hk' : h' id = some k := (a.ag id hid).trans hk
    have hle : ∀ (X : Ctx), ldcs X h' (.p id k.ver (off + j * 6)) 0 6 = ncells t[j] := fun X => ldcs_nd hk' hr
    have hw6 : off + (j * 6 + 6) ≤ k.cells.length := by omega
    have hw := wrap_nat (j := j) (by unfold big; omega)
    have hbn := sz_bin T hlt
    have hsk := bhL_skip hlt
    have hset : ∀ a : Nat, 25 ≤ t[j].op → t[j].a = (a : Int) → (bhL t j).set a t[j].op = bhL t (j + 1) := fun a h9 h8 => bhL_set T hlt h9 h8
    have hop := tree_op T hlt
    have kb := a.kb
    have q10 := a.q10
    have wo := a.wo
    simp only [] at kb q10 wo
    generalize t[j] = x at *
    obtain ⟨op, num, var, attr, xa, xb⟩ := x
    simp only [ncells, ii, ss] at hle
    simp only [] at hbn hsk hset hop
    have y0 : ¬ id = n' := by omega
    by_cases o25 : op = 25
    · subst o25
      obtain ⟨b1, b2, _⟩ := hbn (by omega)
      obtain ⟨c, rfl⟩ : ∃ c : Nat, xa = c := ⟨xa.toNat, by omega⟩
      have hcl2 : c < t.length := by omega
      have hs1 := hset c (by omega) rfl
      have hbl := bhL_len (t := t) j
      have kbm : ((bhL t (j + 1)).map ii) = ((bhL t j).map ii).set c (ii 25) := by rw [← hs1, List.map_set]
      have hcl3 : ((bhL t j).map ii).length = t.length := by rw [List.length_map, hbl]
      have hca : c + 1 ≤ t.length := hcl2
      have y1 : ¬ wb = n' := by omega
      generalize hcs : (bhL t j).map ii = cs at *
      simp [evs, aeval, binS, cx_ti, cx_G, cx_pf, cx_tw, ti, globS, glob, ldcs_1, ldcs_2, ldcs_3, ldcs_4, ldcs_5, ldcs_7, sls.eq_1, slc.eq_1, pfL, q32, q33, q34, q10, kb, ii, ss, hlt, hk', hle, hw6, hw, y0, y1, hcl2, hcl3, hca]
      refine ⟨⟨j + 1, by omega, by omega, a.up (by simp [up]) (fun q h1 h2 => ?_) ?_ ?_ (by simp)⟩, by omega⟩
      · simp only []
        simp only [] at h1
        simp only [up_ne _ _ h2, up_ne _ _ (show q ≠ n' by omega)]
      · rw [kbm]; simp [up, ii]
      · have hf := a.fr
        simp only [] at hf ⊢
        exact (fresh_up (by omega) _).2 ((fresh_up (by omega) _).2 ((fresh_up (by omega) _).2 (hf.add _)))
    · by_cases o26 : op = 26
      · subst o26
        obtain ⟨b1, b2, _⟩ := hbn (by omega)
        obtain ⟨c, rfl⟩ : ∃ c : Nat, xa = c := ⟨xa.toNat, by omega⟩
        have hcl2 : c < t.length := by omega
        have hs1 := hset c (by omega) rfl
        have hbl := bhL_len (t := t) j
        have kbm : ((bhL t (j + 1)).map ii) = ((bhL t j).map ii).set c (ii 26) := by rw [← hs1, List.map_set]
        have hcl3 : ((bhL t j).map ii).length = t.length := by rw [List.length_map, hbl]
        have hca : c + 1 ≤ t.length := hcl2
        have y1 : ¬ wb = n' := by omega
        generalize hcs : (bhL t j).map ii = cs at *
        simp [evs, aeval, binS, cx_ti, cx_G, cx_pf, cx_tw, ti, globS, glob, ldcs_1, ldcs_2, ldcs_3, ldcs_4, ldcs_5, ldcs_7, sls.eq_1, slc.eq_1, pfL, q32, q33, q34, q10, kb, ii, ss, hlt, hk', hle, hw6, hw, y0, y1, hcl2, hcl3, hca]
        refine ⟨⟨j + 1, by omega, by omega, a.up (by simp [up]) (fun q h1 h2 => ?_) ?_ ?_ (by simp)⟩, by omega⟩
        · simp only []
          simp only [] at h1
          simp only [up_ne _ _ h2, up_ne _ _ (show q ≠ n' by omega)]
        · rw [kbm]; simp [up, ii]
        · have hf := a.fr
          simp only [] at hf ⊢
          exact (fresh_up (by omega) _).2 ((fresh_up (by omega) _).2 ((fresh_up (by omega) _).2 (hf.add _)))
      · simp [evs, aeval, binS, cx_ti, cx_G, cx_pf, cx_tw, ti, globS, glob, ldcs_1, ldcs_2, ldcs_3, ldcs_4, ldcs_5, ldcs_7, sls.eq_1, slc.eq_1, pfL, q32, q33, q34, ii, ss, hlt, hk', hle, hw6, hw, y0, o25, o26]
        have hkk := hsk (by omega)
        refine ⟨⟨j + 1, by omega, by omega, a.up (by simp [up]) (fun q h1 h2 => ?_) ?_ ?_ (by simp)⟩, by omega⟩
        · simp only [] at h1 ⊢
          simp only [up_ne _ _ (show q ≠ n' by omega)]
        · rw [hkk]
          simp only [up_ne _ _ (show wb ≠ n' by omega)]
          exact kb
        · have hf := a.fr
          simp only [] at hf ⊢
          exact (fresh_up (by omega) _).2 ((fresh_up (by omega) _).2 (hf.add _))
  · obtain rfl : j = t.length := by omega
    simp [evs, aeval, binS, cx_ti, cx_G, cx_pf, cx_tw, ti, globS, glob, ldcs_1, ldcs_2, ldcs_3, ldcs_4, ldcs_5, ldcs_7, sls.eq_1, slc.eq_1, pfL, q32, q33, q34, ii]
    exact a.up (by simp [up]) (fun _ _ _ => rfl) a.kb a.fr (Nat.le_refl _)
end
/-- The memory that the compiler may turn. -/
def G20 (n wi wb wj : Nat) : Nat → Prop := fun q => n + 3 ≤ q ∧ q ≠ wi ∧ q ≠ wb ∧ q ≠ wj
/-- Instructions are laid. -/
structure D20 (h0 : Heap) (n : Nat) (sa ta : AV) (t : List Nd) (its : List Int) (tys : List Ty) (wi m mm wb wj : Nat) (i : Nat) (code : List Ins) (names : List ByteArray) (s : St) : Prop where
  q2 : s.e 2 = ta
  q6 : s.e 6 = .p (n + 2) 0 0
  q7 : s.e 7 = .s wi 0 0 t.length
  q9 : s.e 9 = .p m 0 0
  q10 : s.e 10 = .s wb 0 0 t.length
  q13 : s.e 13 = .s wj 0 0 t.length
  k6 : s.h (n + 2) = some ⟨[.v (.slice none 0 0), .v (.slice none 0 0)], 0, true, 2⟩
  ki : s.h wi = some ⟨its.map ii, 0, true, 1⟩
  kb : s.h wb = some ⟨(bhL t t.length).map ii, 0, true, 1⟩
  kj : s.h wj = some ⟨(jpL t i).map ii, 0, true, 1⟩
  cs : ∃ ca la, CS s.h (G20 n wi wb wj) s.n m tys sa ca la mm code names
  wo : n + 3 ≤ wi ∧ wi < mm ∧ mm < m ∧ m < wb ∧ wb < wj ∧ wj < s.n
  ag : agree n h0 s.h
  fr : Fresh s.n s.h
section
set_option maxRecDepth 100000
set_option maxHeartbeats 4000000
variable {h : Heap} {n : Nat} {sa ta : AV} {tys : List Ty} {t : List Nd}
theorem c20e {wi m mm wb : Nat} {its : List Int} (e5 : rd dNs h ta = some t) (e1 : rd dTys h sa = some tys) (hp : smallT t) (hn : Fresh n h) (s : St) (a : C20 h n sa ta t its tys wi m mm wb t.length s) {Q : Ex → St → Prop} :
    awp (cx [7] (pfL [])) (hdC 1 (tlC 6 (Tryd.f20.body.getD .skip))) (thenQ (fun s' => ∃ wj, D20 h n sa ta t its tys wi m mm wb wj 0 [] [] s') Q) s := by
  obtain ⟨e, h1, n1⟩ := s
  have a0 := a
  obtain ⟨x1, x2, x3, x4, x5, x6, x7, x8, x9, x10, x11, x12, x13⟩ := a
  simp only [] at x1 x2 x3 x4 x5 x6 x7 x8 x9 x10 x11 x12 x13
  obtain ⟨s1, s2, s3, s4, s5⟩ := sl_is e5
  have hp' : t.length * 64 ≤ 140737488355328 := hp
  have hz : repZ [Value.int .i64 0] t.length = (jpL t 0).map ii := by rw [jpL_zero, repZ_rep]
  simp [evs, aeval, binS, cx_ti, cx_G, cx_pf, cx_tw, ti, globS, glob, ldcs_1, ldcs_2, ldcs_3, ldcs_4, ldcs_5, ldcs_7, sls.eq_1, slc.eq_1, pfL, hdC, tlC, Tryd.f20, x1, s1, s2, s3]
  have hh : ∀ q, q < n1 → ∀ b : Option Blk, up h1 n1 b q = h1 q := fun q hq b => up_ne _ _ (by omega)
  have hs : rd dTys (up h1 n1 (some ⟨repZ [Value.int .i64 0] t.length, 0, true, 1⟩)) sa = some tys := rd_agr hn e1 _ ((agree_up (by omega) _).2 x12)
  refine ⟨⟨by omega, by omega⟩, n1, by simpa [up] using x1, by simpa [up] using x2, by simpa [up] using x3, by simpa [up] using x4, by simpa [up] using x5, by simp [up], ?_, ?_, ?_, ?_, ⟨.v (.slice none 0 0), .v (.slice none 0 0), ?_, ⟨⟨by omega, by omega, by omega, by omega⟩, by simp only []; omega⟩, hs, .inl ⟨rfl, rfl⟩, .inl ⟨rfl, rfl⟩, ?_, ⟨by omega, by omega, by omega, by omega⟩, by simp only []; omega, by omega⟩, ?_, ?_, ?_⟩
  · simp only []; rw [hh _ (by omega)]; exact x6
  · simp only []; rw [hh _ (by omega)]; exact x7
  · simp only []; rw [hh _ (by omega)]; exact x10
  · simp only []; rw [up_same, hz]
  · simp only []; rw [hh _ (by omega)]; exact x8
  · simp only []; rw [hh _ (by omega)]; exact x9
  · simp only []; omega
  · exact (agree_up (by omega) _).2 x12
  · exact (fresh_up (by simp) _).2 (x13.add 1)
end
end Go.Proofs.YtkfphaphiikloaaDoor
