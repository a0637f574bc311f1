/-
  THE LAWS WITHOUT THE DOCUMENT, PART D: the program is awake.
-/
import Derived.Test.YtkfphaphiikloaaDoorX25
import Derived.Test.YtkfphaphiikloaaDoorX26
import Derived.Test.YtkfphaphiikloaaDoorX28
import Derived.Test.YtkfphaphiikloaaDoorX30
import Derived.Test.YtkfphaphiikloaaDoorX16
import Derived.Test.YtkfphaphiikloaaDoorX31
import Derived.Test.YtkfphaphiikloaaDoorX14
import Derived.Test.YtkfphaphiikloaaDoorX24
set_option linter.unusedSimpArgs false
set_option linter.unusedVariables false
set_option linter.constructorNameAsVariable false
namespace Go.Proofs.YtkfphaphiikloaaDoor
open Go Go.Eng

theorem one_in {α : Type} {sz : Nat} {d : De α} {h : Heap} {id : Nat} {k : Blk} {x : α} (hk : h id = some k) (hl : k.cells.length = sz) (hx : d.run h k.cells = some x) : rd (De.sl sz d) h (.s id k.ver 0 1) = some [x] := by
  refine De.sl_in (xs := [x]) (off := 0) hk (by simp; omega) (fun i hi => ?_)
  obtain rfl : i = 0 := by simp at hi; omega
  simp only [Nat.zero_mul, Nat.add_zero, List.drop_zero, List.getElem_cons_zero]
  rw [List.take_of_length_le (by omega)]
  exact hx
def S39 : List Nat := [0, 1, 2, 3, 4, 5, 6, 7]
def tb39 : List (FuncId × (List AV → Heap → PRes)) := [(29, G29), (31, G31), (37, G38)]
theorem tb39_ok : TbOk S39 tb39 := tb_cons P29 (tb_cons (P31 P29) (tb_cons P37 tb_nil))
def de39 (_ : Heap) : List AV → Option Unit
  | [] => some ()
  | _ => none
def G39 := pureH de39 (fun _ => True) fun _ => bv true
/-- What has been laid. -/
structure A39 (s : St) : Prop where
  a1 : HasS s.h (s.e 1) scW
  a2 : HasQ s.h (s.e 2) qW
  fr : Fresh s.n s.h
section
set_option maxRecDepth 100000
set_option maxHeartbeats 4000000
variable {h : Heap} {n : Nat}
theorem c39a (hn : Fresh n h) (e : Nat → AV) {Q : Ex → St → Prop} : awp (cx S39 (pfL tb39)) (hdC 3 (Tryd.f39.body.getD .skip)) (thenQ A39 Q) ⟨e, h, n⟩ := by
  simp [evs, aeval, binS, cx_ti, cx_G, cx_pf, cx_tw, ti, globS, glob, ldcs_1, ldcs_2, ldcs_3, ldcs_4, ldcs_5, ldcs_7, sls.eq_1, slc.eq_1, pfL, hdC, Tryd.f39]
  refine ⟨⟨n + 2, .s (n + 1) 0 0 1, by simp [up], by simp [up], ?_⟩, ⟨n + 6, .s (n + 5) 0 0 1, .v (.slice none 0 0), .v (.slice none 0 0), by simp [up], by simp [up]; exact ⟨rfl, rfl, rfl, rfl⟩, ?_, rfl, rfl⟩, by simp [fresh_up, hn.add]⟩
  · refine one_in (k := ⟨[ss zA, .s n 0 0 1], 0, true, 2⟩) (by simp [up]; rfl) rfl ?_
    refine deTyc_in (x := ⟨zA, [zx]⟩) ?_
    exact one_in (k := ⟨[ss zx], 0, true, 1⟩) (by simp [up]; rfl) rfl rfl
  · refine one_in (k := ⟨[bv false, .s (n + 4) 0 0 1, ss za, ii 1, ii 1], 0, true, 5⟩) (by simp [up]; exact ⟨rfl, rfl, rfl⟩) rfl ?_
    refine deItc_in (x := ⟨false, [zA], za, 1, 1⟩) ?_
    exact one_in (k := ⟨[ss zA], 0, true, 1⟩) (by simp [up]; rfl) rfl rfl
theorem join_W : joinT 15 [leafN ⟨4, 0, za, zx, 0, 0⟩] [leafN ⟨5, 0, za, ByteArray.empty, 0, 0⟩] = tW := by rfl
/-- With the tree. -/
structure B39 (s : St) : Prop extends A39 s where
  a3 : rd dNs s.h (s.e 3) = some tW
theorem c39b (e : Nat → AV) (h : Heap) (n : Nat) (a : A39 ⟨e, h, n⟩) {Q : Ex → St → Prop} : awp (cx S39 (pfL tb39)) (hdC 1 (tlC 3 (Tryd.f39.body.getD .skip))) (thenQ B39 Q) ⟨e, h, n⟩ := by
  obtain ⟨b1, b2, fr⟩ := a
  simp only [] at b1 b2 fr
  simp [evs, aeval, binS, cx_ti, cx_G, cx_pf, cx_tw, ti, globS, glob, ldcs_1, ldcs_2, ldcs_3, ldcs_4, ldcs_5, ldcs_7, sls.eq_1, slc.eq_1, pfL, hdC, tlC, Tryd.f39, tb39]
  refine (acall_any (S := []) (by simp) (c69 ⟨4, 0, za, zx, 0, 0⟩ fr)).mono ?_
  rintro z h2 n2 ⟨a1, a2, a3, w, rfl, hw, hw1, hw2⟩
  refine (acall_any (S := []) (by simp) (c69 ⟨5, 0, za, ByteArray.empty, 0, 0⟩ a2)).mono ?_
  rintro z h3 n3 ⟨d1, d2, d3, w', rfl, hv, hv1, hv2⟩
  have r1 : rd dNs h3 (.s w 0 0 1) = some [leafN ⟨4, 0, za, zx, 0, 0⟩] := one_in (k := ⟨ncells (leafN ⟨4, 0, za, zx, 0, 0⟩), 0, true, 6⟩) (by rw [d1 w hw2]; exact hw) rfl rfl
  have r2 : rd dNs h3 (.s w' 0 0 1) = some [leafN ⟨5, 0, za, ByteArray.empty, 0, 0⟩] := one_in (k := ⟨ncells (leafN ⟨5, 0, za, ByteArray.empty, 0, 0⟩), 0, true, 6⟩) hv rfl rfl
  refine (acall_any (S := []) (by simp) (c43 (op := 15) r1 r2 (by decide) d2)).mono ?_
  rintro z h4 n4 ⟨f1, f2, f3, u, rfl, hu, hu1⟩
  rw [join_W] at hu ⊢
  have g := agree_trans (agree_trans a1 d1 a3) f1 (Nat.le_trans a3 d3)
  exact ⟨⟨by simpa [up] using b1.up fr g, by simpa [up] using b2.up fr g, f2⟩, by simpa [up] using (show rd dNs h4 (.s n3 u 0 tW.length) = some tW from flat_in Flat.nd (l := tW) hu rfl (r := []) (by simp))⟩
/-- With the environment. -/
structure C39 (s : St) : Prop extends B39 s where
  a4 : HasE s.h (s.e 4) enW
theorem c39c (e : Nat → AV) (h : Heap) (n : Nat) (a : B39 ⟨e, h, n⟩) {Q : Ex → St → Prop} : awp (cx S39 (pfL tb39)) (hdC 1 (tlC 4 (Tryd.f39.body.getD .skip))) (thenQ C39 Q) ⟨e, h, n⟩ := by
  obtain ⟨⟨b1, b2, fr⟩, b3⟩ := a
  simp only [] at b1 b2 b3 fr
  simp [evs, aeval, binS, cx_ti, cx_G, cx_pf, cx_tw, ti, globS, glob, ldcs_1, ldcs_2, ldcs_3, ldcs_4, ldcs_5, ldcs_7, sls.eq_1, slc.eq_1, pfL, hdC, tlC, Tryd.f39, tb39]
  have g : ∀ x1 x2 x3 x4 : Option Blk, agree n h (up (up (up (up h n x1) (n + 1) x2) (n + 2) x3) (n + 2) x4) := fun x1 x2 x3 x4 => by simp [agree_up, agree_refl]
  refine ⟨⟨⟨by simpa [up] using b1.up fr (g _ _ _ _), by simpa [up] using b2.up fr (g _ _ _ _), by simp [fresh_up, fr.add]⟩, by simpa [up] using rd_agr fr b3 _ (g _ _ _ _)⟩, n + 2, .s (n + 1) 0 0 1, by simp [up], by simp [up]; exact ⟨rfl, rfl⟩, ?_⟩
  refine one_in (k := ⟨[.s n 0 0 1], 0, true, 1⟩) (by simp [up]) rfl ?_
  exact one_in (k := ⟨ecells ⟨1, 0, 0, 7, 0, 0, 0, 0, 0, 0, 0⟩, 0, true, 11⟩) (by simp [up]; rfl) rfl rfl
/-- A known six in a cell. -/
def Six (s : St) (i : Nat) : Prop := ∃ m, s.e i = .p m 0 0 ∧ s.h m = some ⟨[.v (.bool true), .v (.int .i64 6)], 0, true, 2⟩
theorem Six.up {s s' : St} {i n : Nat} (a : Six s i) (hn : Fresh n s.h) (he : s'.e i = s.e i) (ha : agree n s.h s'.h) : Six s' i := by
  obtain ⟨m, h1, h2⟩ := a
  exact ⟨m, he.trans h1, by rw [ha m (lt_of h2 hn)]; exact h2⟩
theorem C39.up {s s' : St} (a : C39 s) (he : ∀ i ∈ [1, 2, 3, 4], s'.e i = s.e i) (ha : agree s.n s.h s'.h) (hf : Fresh s'.n s'.h) : C39 s' := by
  obtain ⟨⟨⟨b1, b2, fr⟩, b3⟩, b4⟩ := a
  exact ⟨⟨⟨by rw [he 1 (by simp)]; exact b1.up fr ha, by rw [he 2 (by simp)]; exact b2.up fr ha, hf⟩, by rw [he 3 (by simp)]; exact rd_agr fr b3 _ ha⟩, by rw [he 4 (by simp)]; exact b4.up fr ha⟩
theorem eq_W : EqOk ⟨scW, qW, tW, enW⟩ := by
  refine ⟨⟨by decide +kernel, by decide +kernel⟩, by decide +kernel, by unfold smallT; decide +kernel, by unfold Rng; decide +kernel, by decide +kernel, by unfold EvOk Rng; decide +kernel, by unfold Rng; decide +kernel⟩
theorem pr_W : PrOk (compP scW (vars qW.items) tW) := comp_ok (by decide +kernel) (by unfold smallT; decide +kernel) (by decide +kernel) (by unfold Rng; decide +kernel)
theorem c39d (e : Nat → AV) (h : Heap) (n : Nat) (a : C39 ⟨e, h, n⟩) {Q : Ex → St → Prop} : awp (cx S39 (pfL tb39)) (hdC 1 (tlC 5 (Tryd.f39.body.getD .skip))) (thenQ (fun s => C39 s ∧ Six s 5) Q) ⟨e, h, n⟩ := by
  have a0 := a
  obtain ⟨⟨⟨⟨m1, s1, q1, k1, r1⟩, ⟨m2, x2, y2, z2, q2, k2, r2, r2', r2''⟩, fr⟩, r3⟩, ⟨m4, s4, q4, k4, r4⟩⟩ := a
  simp only [] at q1 k1 r1 q2 k2 r2 r2' r2'' fr r3 q4 k4 r4
  obtain ⟨ta, q3⟩ : ∃ x, e 3 = x := ⟨_, rfl⟩
  rw [q3] at r3
  have o1 := (sl_is r1).2.2.2.1
  have o2 := (sl_is r2).2.2.2.1
  have o2' := (sl_is r2').2.2.2.1
  have o2'' := (sl_is r2'').2.2.2.1
  have o4 := (sl_is r4).2.2.2.1
  obtain ⟨u1, u2, u3, u4, u5⟩ := sl_is r3
  have hd : de38 h [.g [s1], .g [x2, .v (.int .i64 qW.mode), .v (.int .i64 qW.after), y2, .v (.int .i64 qW.within), .v (.string qW.par), z2], ta, .g [s4, .v (.int .i64 enW.each), .v (.int .i64 enW.pos)]] = some ⟨scW, qW, tW, enW⟩ :=
    de38_in (v := ⟨scW, qW, tW, enW⟩) r1 (deQ_has r2 r2' r2'') r3 (deEn_in (e := enW) r4)
  simp [evs, aeval, binS, cx_ti, cx_G, cx_pf, cx_tw, ti, globS, glob, ldcs_1, ldcs_2, ldcs_3, ldcs_4, ldcs_5, ldcs_7, sls.eq_1, slc.eq_1, pfL, hdC, tlC, Tryd.f39, tb39, q1, q2, q3, q4, k1, k2, k4, o1, o2, o2', o2'', o4, u3, G38, pureH, hd, eq_W, eval_W, vv]
  have g : ∀ x1 x2 : Option Blk, agree n h (up (up h n x1) n x2) := fun x1 x2 => by simp [agree_up, agree_refl]
  exact ⟨a0.up (by simp [up]) (g _ _) (by simp [fresh_up, fr.add]), n, by simp [up], by simp [up]⟩
theorem c39e0 (e : Nat → AV) (h : Heap) (n : Nat) (a : C39 ⟨e, h, n⟩) (b : Six ⟨e, h, n⟩ 5) {R : St → Prop} (hR : ∀ (e2 : Nat → AV) (h2 : Heap) (n2 m : Nat), (∀ i ∈ [1, 2, 3, 4, 5], e2 i = e i) → e2 6 = .p m 0 0 → e2 7 = ii 0 → agree n h h2 → Fresh n2 h2 → h2 m = some ⟨[.v (.bool true), .v (.int .i64 6)], 0, true, 2⟩ → R ⟨e2, h2, n2⟩) {Q : Ex → St → Prop} : awp (cx S39 (pfL tb39)) (hdC 1 (tlC 6 (Tryd.f39.body.getD .skip))) (thenQ R Q) ⟨e, h, n⟩ := by
  obtain ⟨⟨⟨⟨m1, s1, q1, k1, r1⟩, ⟨m2, x2, y2, z2, q2, k2, r2, r2', r2''⟩, fr⟩, r3⟩, ⟨m4, s4, q4, k4, r4⟩⟩ := a
  simp only [] at q1 k1 r1 q2 k2 r2 r2' r2'' fr r3 q4 k4 r4
  obtain ⟨ta, q3⟩ : ∃ x, e 3 = x := ⟨_, rfl⟩
  rw [q3] at r3
  have o1 := (sl_is r1).2.2.2.1
  have o2 := (sl_is r2).2.2.2.1
  have o2' := (sl_is r2').2.2.2.1
  have o2'' := (sl_is r2'').2.2.2.1
  have o4 := (sl_is r4).2.2.2.1
  obtain ⟨u1, u2, u3, u4, u5⟩ := sl_is r3
  have okr : okR (compP scW (vars qW.items) tW, enW) := ⟨pr_W, eq_W.en⟩
  simp [evs, aeval, binS, cx_ti, cx_G, cx_pf, cx_tw, ti, globS, glob, ldcs_1, ldcs_2, ldcs_3, ldcs_4, ldcs_5, ldcs_7, sls.eq_1, slc.eq_1, pfL, hdC, tlC, Tryd.f39, tb39, q1, q2, q3, q4, k1, k2, k4, o1, o2, o2', o2'', o4, u3]
  refine ⟨?_, ?_⟩
  · refine (acall_any (S := [7]) (by simp [S39]) (c20 (qx := .g [x2, .v (.int .i64 qW.mode), .v (.int .i64 qW.after), y2, .v (.int .i64 qW.within), .v (.string qW.par), z2]) r1 (deQ_has r2 r2' r2'') r3 (by decide +kernel) (by unfold smallT; decide +kernel) (by decide +kernel) ⟨by decide +kernel, by decide +kernel⟩ fr)).mono ?_
    rintro z h2 n2 ⟨a1, a2, a3, a4⟩
    refine ⟨keep_le (agr_le fr a1), ?_⟩
    obtain ⟨ca, la, rfl, v1, v2, v3, v4, v5, v6⟩ := a4.is
    have hd : ∀ h', agree n2 h2 h' → deR h' [.g [ca, la], .g [s4, .v (.int .i64 enW.each), .v (.int .i64 enW.pos)]] = some (compP scW (vars qW.items) tW, enW) := fun h' ha => by
      have x1 : dePr h' (.g [ca, la]) = some (compP scW (vars qW.items) tW) := (a4.up (h' := h') (fun q _ hq => ha q hq) (Nat.le_refl _) (Nat.le_refl _)).rd
      have x2 : deEn h' (.g [s4, .v (.int .i64 enW.each), .v (.int .i64 enW.pos)]) = some enW := deEn_in (e := enW) (rd_agr fr r4 _ (fun j hj => by rw [ha j (by omega), a1 j hj]))
      simp only [deR, x1, x2]
    simp [evs, aeval, binS, cx_ti, cx_G, cx_pf, cx_tw, ti, globS, glob, ldcs_1, ldcs_2, ldcs_3, ldcs_4, ldcs_5, ldcs_7, sls.eq_1, slc.eq_1, pfL, v1, v2, v3, v4, v5, v6, G29, pureH, hd, agree_up, agree_refl, okr, prog_W, runA, vv]
    repeat' apply And.intro
    all_goals exact hR _ _ _ n2 (by simp [up, q1, q2, q3, q4]) (by simp [up]) (by simp [up, ii]) (by simp [agree_up, a1, a3]) (by simp [fresh_up, a2.add]) (by simp [up])
  · have frA : ∀ b, Fresh (n + 1) (up h n b) := fun b => (fresh_up (by omega) b).2 (fr.add 1)
    have agA : ∀ b, agree n h (up h n b) := fun b => (agree_up (by omega) b).2 (agree_refl _ _)
    refine (acall_any (S := [7]) (by simp [S39]) (c20 (qx := .g [x2, .v (.int .i64 qW.mode), .v (.int .i64 qW.after), y2, .v (.int .i64 qW.within), .v (.string qW.par), z2]) (rd_agr fr r1 _ (agA _)) (deQ_has (rd_agr fr r2 _ (agA _)) (rd_agr fr r2' _ (agA _)) (rd_agr fr r2'' _ (agA _))) (rd_agr fr r3 _ (agA _)) (by decide +kernel) (by unfold smallT; decide +kernel) (by decide +kernel) ⟨by decide +kernel, by decide +kernel⟩ (frA _))).mono ?_
    rintro z h2 n2 ⟨a1, a2, a3, a4⟩
    refine ⟨keep_le (agr_le (frA _) a1), ?_⟩
    obtain ⟨ca, la, rfl, v1, v2, v3, v4, v5, v6⟩ := a4.is
    have hx : h2 n = some ⟨[.v (.bool false), .v (.int .i64 0)], 0, true, 2⟩ := by rw [a1 n (by omega), up_same]
    have hag : agree n h h2 := fun j hj => by rw [a1 j (by omega), up_ne _ _ (by omega)]
    have hd : deR h2 [.g [ca, la], .g [s4, .v (.int .i64 enW.each), .v (.int .i64 enW.pos)]] = some (compP scW (vars qW.items) tW, enW) := by
      have x2 : deEn h2 (.g [s4, .v (.int .i64 enW.each), .v (.int .i64 enW.pos)]) = some enW := deEn_in (e := enW) (rd_agr fr r4 _ hag)
      simp only [deR, a4.rd, x2]
    simp [evs, aeval, binS, cx_ti, cx_G, cx_pf, cx_tw, ti, globS, glob, ldcs_1, ldcs_2, ldcs_3, ldcs_4, ldcs_5, ldcs_7, sls.eq_1, slc.eq_1, pfL, v1, v2, v3, v4, v5, v6, G29, pureH, hd, agree_up, agree_refl, okr, prog_W, runA, vv, hx]
    repeat' apply And.intro
    all_goals exact hR _ _ _ n (by simp [up, q1, q2, q3, q4]) (by simp [up]) (by simp [up, ii]) (fun j hj => by rw [up_ne _ _ (by omega)]; exact hag j hj) ((fresh_up (by omega) _).2 (a2.add 1)) (by simp [up])
theorem c39e (e : Nat → AV) (h : Heap) (n : Nat) (a : C39 ⟨e, h, n⟩) (b : Six ⟨e, h, n⟩ 5) {Q : Ex → St → Prop} : awp (cx S39 (pfL tb39)) (hdC 1 (tlC 6 (Tryd.f39.body.getD .skip))) (thenQ (fun s => C39 s ∧ Six s 5 ∧ Six s 6 ∧ s.e 7 = ii 0) Q) ⟨e, h, n⟩ :=
  c39e0 e h n a b fun e2 h2 n2 m k1 k2 k3 k4 k5 k6 => ⟨a.up (fun i hi => k1 i (by revert hi; simp; omega)) k4 k5, b.up a.fr (k1 5 (by simp)) k4, ⟨m, k2, k6⟩, k3⟩
theorem c39f (e : Nat → AV) (h : Heap) (n : Nat) (a : C39 ⟨e, h, n⟩) (b : Six ⟨e, h, n⟩ 5) (c : Six ⟨e, h, n⟩ 6) (d : e 7 = ii 0) {Q : Ex → St → Prop} : awp (cx S39 (pfL tb39)) (hdC 1 (tlC 7 (Tryd.f39.body.getD .skip))) (thenQ (fun s => C39 s ∧ Six s 5 ∧ Six s 6 ∧ s.e 7 = ii 0 ∧ Six s 8) Q) ⟨e, h, n⟩ := by
  have fr := a.fr
  simp only [] at fr
  simp [evs, aeval, binS, cx_ti, cx_G, cx_pf, cx_tw, ti, globS, glob, ldcs_1, ldcs_2, ldcs_3, ldcs_4, ldcs_5, ldcs_7, sls.eq_1, slc.eq_1, pfL, hdC, tlC, Tryd.f39, tb39]
  have g : ∀ x1 x2 : Option Blk, agree n h (up (up h n x1) n x2) := fun x1 x2 => by simp [agree_up, agree_refl]
  exact ⟨a.up (by simp [up]) (g _ _) (by simp [fresh_up, fr.add]), b.up fr (by simp [up]) (g _ _), c.up fr (by simp [up]) (g _ _), by simpa [up] using d, n, by simp [up], by simp [up]⟩
theorem c39g (e : Nat → AV) (h : Heap) (n : Nat) (a : C39 ⟨e, h, n⟩) (b : Six ⟨e, h, n⟩ 5) (c : Six ⟨e, h, n⟩ 6) (d : e 7 = ii 0) (f : Six ⟨e, h, n⟩ 8) : awp (cx S39 (pfL tb39)) (tlC 8 (Tryd.f39.body.getD .skip)) (finQ (cx S39 (pfL tb39)) Tryd.f39 fun z _ _ => z = bv true) ⟨e, h, n⟩ := by
  obtain ⟨⟨⟨⟨m1, s1, q1, k1, r1⟩, ⟨m2, x2, y2, z2, q2, k2, r2, r2', r2''⟩, fr⟩, r3⟩, ⟨m4, s4, q4, k4, r4⟩⟩ := a
  obtain ⟨m5, q5, k5⟩ := b
  obtain ⟨m6, q6, k6⟩ := c
  obtain ⟨m8, q8, k8⟩ := f
  simp only [] at q1 k1 r1 q2 k2 r2 r2' r2'' fr r3 q4 k4 r4 q5 k5 q6 k6 q8 k8
  obtain ⟨ta, q3⟩ : ∃ x, e 3 = x := ⟨_, rfl⟩
  rw [q3] at r3
  have o1 := (sl_is r1).2.2.2.1
  have o2 := (sl_is r2).2.2.2.1
  have o2' := (sl_is r2').2.2.2.1
  have o2'' := (sl_is r2'').2.2.2.1
  have o4 := (sl_is r4).2.2.2.1
  obtain ⟨u1, u2, u3, u4, u5⟩ := sl_is r3
  have okr : okR (compP scW (vars qW.items) tW, enW) := ⟨pr_W, eq_W.en⟩
  simp [evs, aeval, binS, cx_ti, cx_G, cx_pf, cx_tw, ti, globS, glob, ldcs_1, ldcs_2, ldcs_3, ldcs_4, ldcs_5, ldcs_7, sls.eq_1, slc.eq_1, pfL, tlC, Tryd.f39, tb39, q1, q2, q3, q4, q5, q6, q8, d, ii, k1, k2, k4, k5, k6, k8, o1, o2, o2', o2'', o4, u3]
  refine (acall_any (S := [7]) (by simp [S39]) (c20 (qx := .g [x2, .v (.int .i64 qW.mode), .v (.int .i64 qW.after), y2, .v (.int .i64 qW.within), .v (.string qW.par), z2]) r1 (deQ_has r2 r2' r2'') r3 (by decide +kernel) (by unfold smallT; decide +kernel) (by decide +kernel) ⟨by decide +kernel, by decide +kernel⟩ fr)).mono ?_
  rintro z h2 n2 ⟨a1, a2, a3, a4⟩
  refine ⟨keep_le (agr_le fr a1), ?_⟩
  obtain ⟨ca, la, rfl, v1, v2, v3, v4, v5, v6⟩ := a4.is
  have hd : deR h2 [.g [ca, la], .g [s4, .v (.int .i64 enW.each), .v (.int .i64 enW.pos)]] = some (compP scW (vars qW.items) tW, enW) := by
    have x2 : deEn h2 (.g [s4, .v (.int .i64 enW.each), .v (.int .i64 enW.pos)]) = some enW := deEn_in (e := enW) (rd_agr fr r4 _ a1)
    simp only [deR, a4.rd, x2]
  simp [evs, aeval, binS, cx_ti, cx_G, cx_pf, cx_tw, ti, globS, glob, ldcs_1, ldcs_2, ldcs_3, ldcs_4, ldcs_5, ldcs_7, sls.eq_1, slc.eq_1, pfL, v1, v2, v3, v4, v5, v6, G31, pureH, hd, okr, holds_W, bv]
end
theorem P39 : P0 S39 39 G39 := by
  refine mkH 0 (S := S39) (l := tb39) tb39_ok Tryd.func39 rfl (by kernel_rfl) (fun h h' l x hh e => e) (fun h l x e => by cases l with | nil => exact Nat.le_refl _ | cons => simp [de39] at e) (fun a => rfl) (fun args q h n e hp hn => ?_)
  have fr := roH_fresh hn
  refine awp_cut 3 _ _ (c39a fr _) fun x1 h1 n1 b1 => ?_
  refine awp_cut 1 _ _ (c39b x1 h1 n1 b1) fun x2 h2 n2 b2 => ?_
  refine awp_cut 1 _ _ (c39c x2 h2 n2 b2) fun x3 h3 n3 b3 => ?_
  refine awp_cut 1 _ _ (c39d x3 h3 n3 b3) fun x4 h4 n4 ⟨b4, c4⟩ => ?_
  refine awp_cut 1 _ _ (c39e x4 h4 n4 b4 c4) fun x5 h5 n5 ⟨b5, c5, d5, f5⟩ => ?_
  refine awp_cut 1 _ _ (c39f x5 h5 n5 b5 c5 d5 f5) fun x6 h6 n6 ⟨b6, c6, d6, f6, g6⟩ => ?_
  exact c39g x6 h6 n6 b6 c6 d6 f6 g6
end Go.Proofs.YtkfphaphiikloaaDoor

/-
  THE PROGRAMS OF CONDITIONS, PART J: how many events there are; lists that are the same.
-/
namespace Go.Proofs.YtkfphaphiikloaaDoor
open Go Go.Eng

def sumTo (ll : List (List Ev)) (j : Nat) : Nat := ((ll.take j).map List.length).sum
theorem sumTo_succ {ll : List (List Ev)} {j : Nat} (h : j < ll.length) : sumTo ll (j + 1) = sumTo ll j + ll[j].length := by
  unfold sumTo
  rw [List.take_add_one, List.getElem?_eq_getElem h, List.map_append, List.sum_append]
  simp only [Option.toList_some, List.map_cons, List.map_nil, List.sum_cons, List.sum_nil, Nat.add_zero]
theorem sumTo_mono (ll : List (List Ev)) : ∀ {i j : Nat}, i ≤ j → sumTo ll i ≤ sumTo ll j := fun {i j} h => by
  induction h with
  | refl => exact Nat.le_refl _
  | @step m _ ih =>
    by_cases hm : m < ll.length
    · have := sumTo_succ hm
      simp only [Nat.succ_eq_add_one]
      omega
    · have e : ll.take (m + 1) = ll.take m := by rw [List.take_of_length_le (by omega), List.take_of_length_le (by omega)]
      simp only [Nat.succ_eq_add_one, sumTo, e] at ih ⊢
      exact ih
def beyondV (ll : List (List Ev)) : Bool := decide (2147483647 < sumTo ll ll.length)
theorem beyond_len {ll : List (List Ev)} (h : beyondV ll = false) : ∀ l ∈ ll, l.length ≤ 2147483647 := fun l hl => by
  obtain ⟨i, hi, rfl⟩ := List.getElem_of_mem hl
  have h1 := sumTo_succ hi
  have h2 := sumTo_mono ll (i := i + 1) (j := ll.length) (by omega)
  have h3 : ¬ 2147483647 < sumTo ll ll.length := by simpa [beyondV] using h
  omega
def deLL (h : Heap) : List AV → Option (List (List Ev))
  | [a] => rd dEss h a
  | _ => none
theorem deLL_out {h : Heap} {args : List AV} {q : List (List Ev)} (e : deLL h args = some q) : ∃ a, args = [a] ∧ rd dEss h a = some q := by
  unfold deLL at e
  split at e
  · exact ⟨_, rfl, e⟩
  · cases e
theorem deLL_mono (h h' : Heap) (args : List AV) (q : List (List Ev)) (hh : h.le h') (e : deLL h args = some q) : deLL h' args = some q := by
  obtain ⟨a, rfl, e1⟩ := deLL_out e
  simp only [deLL, rd_mono hh e1]
def G27 := pureH deLL (fun ll => ll.length < big ∧ ∀ l ∈ ll, l.length < big) fun ll => bv (beyondV ll)
set_option maxRecDepth 100000 in
set_option maxHeartbeats 1000000 in
theorem P27 : P0 [] 27 G27 := by
  refine mkH 1 (S := []) (l := []) tb_nil Tryd.func27 rfl (by kernel_rfl) deLL_mono (fun h l x e => by obtain ⟨a, rfl, _⟩ := deLL_out e; exact Nat.le_refl _) (fun a => rfl) (fun args ll h n e hp hn => ?_)
  obtain ⟨a, rfl, e1⟩ := deLL_out e
  obtain ⟨s1, s2, s3, s4, s5⟩ := sl_is e1
  have key : ∀ e : Nat → AV, e 0 = a → awp (cx [] (pfL [])) (Tryd.f27.body.getD .skip) (finQ (cx [] (pfL [])) Tryd.f27 fun z _ _ => z = bv (beyondV ll)) ⟨e, roH h, n⟩ := fun e q0 => by
    simp [evs, aeval, binS, cx_ti, cx_G, cx_pf, cx_tw, ti, globS, glob, ldcs_1, ldcs_2, ldcs_3, ldcs_4, ldcs_5, ldcs_7, sls.eq_1, slc.eq_1, pfL, Tryd.f27, q0]
    refine awp_loop (fun s => ∃ j, j ≤ ll.length ∧ s.e 0 = a ∧ s.e 3 = ii (sumTo ll j) ∧ s.e 4 = ii j ∧ s.h = roH h ∧ sumTo ll j ≤ 2147483647) (fun s => ll.length - (s.e 4).i.toNat) ⟨0, by simp [up, q0, ii, sumTo]⟩ ?_
    rintro e' h' n' ⟨j, hj, q0, q3, q4, hh, hs⟩
    simp only [] at q0 q3 q4 hh
    subst hh
    by_cases hlt : j < ll.length
    · rcases sls_at e1 with ⟨h0, _⟩ | ⟨id, off, k, rfl, hk, ho, hat⟩
      · rw [h0] at hlt; simp at hlt
      obtain ⟨c, hc, hcr⟩ := hat j hlt
      obtain ⟨u1, u2, u3, u4, u5⟩ := sl_is hcr
      have hro := ro_at hk
      have hw := wrap_nat (j := j) (by have := hp.1; omega)
      have hw1 : off + (j + 1) ≤ k.cells.length := by omega
      have hss := sumTo_succ hlt
      have hsub : IntKind.i64.wrap (2147483647 - (sumTo ll j : Int)) = 2147483647 - sumTo ll j := W_id (by unfold Rng; omega)
      have hll := hp.2 _ (List.getElem_mem hlt)
      unfold big at hll
      have hmon := sumTo_mono ll (i := j + 1) (j := ll.length) (by omega)
      by_cases hgt : (2147483647 - (sumTo ll j : Int)) < ll[j].length
      · have hb : beyondV ll = true := by simp only [beyondV, decide_eq_true_eq]; omega
        simp [evs, aeval, binS, cx_ti, cx_G, cx_pf, cx_tw, ti, globS, glob, ldcs_1, ldcs_2, ldcs_3, ldcs_4, ldcs_5, ldcs_7, sls.eq_1, slc.eq_1, pfL, q0, q3, q4, ii, bv, hlt, hro, hc, hw1, u1, u2, u3, hsub, hgt, hb]
      · have hadd : IntKind.i64.wrap ((sumTo ll j : Int) + ll[j].length) = sumTo ll j + ll[j].length := W_id (by unfold Rng; omega)
        simp [evs, aeval, binS, cx_ti, cx_G, cx_pf, cx_tw, ti, globS, glob, ldcs_1, ldcs_2, ldcs_3, ldcs_4, ldcs_5, ldcs_7, sls.eq_1, slc.eq_1, pfL, q0, q3, q4, ii, bv, hlt, hro, hc, hw1, u1, u2, u3, hsub, hgt, hadd, hw]
        exact ⟨⟨j + 1, by omega, by omega, by omega, by omega⟩, by omega⟩
    · have hje : j = ll.length := by omega
      subst hje
      have hb : beyondV ll = false := by simp only [beyondV, decide_eq_false_iff_not]; omega
      simp [evs, aeval, binS, cx_ti, cx_G, cx_pf, cx_tw, ti, globS, glob, ldcs_1, ldcs_2, ldcs_3, ldcs_4, ldcs_5, ldcs_7, sls.eq_1, slc.eq_1, pfL, q0, q3, q4, ii, bv, s1, s2, s3, hb]
  exact key _ rfl
end Go.Proofs.YtkfphaphiikloaaDoor

namespace Go.Proofs.YtkfphaphiikloaaDoor
open Go Go.Eng

def de21 (h : Heap) : List AV → Option (Pr × Pr)
  | [a, b] => match dePr h a, dePr h b with
    | some x, some y => some (x, y)
    | _, _ => none
  | _ => none
theorem de21_out {h : Heap} {args : List AV} {q : Pr × Pr} (e : de21 h args = some q) : ∃ a b, args = [a, b] ∧ dePr h a = some q.1 ∧ dePr h b = some q.2 := by
  unfold de21 at e
  split at e
  · split at e
    · rename_i e1 e2
      cases e
      exact ⟨_, _, rfl, e1, e2⟩
    · cases e
  · cases e
theorem de21_mono (h h' : Heap) (args : List AV) (q : Pr × Pr) (hh : h.le h') (e : de21 h args = some q) : de21 h' args = some q := by
  obtain ⟨a, b, rfl, e1, e2⟩ := de21_out e
  simp only [de21, dePr_sim hh.sim e1, dePr_sim hh.sim e2]
/-- Two programs that are the same. -/
def G21 := pureH de21 (fun q => q.1 = q.2 ∧ q.1.code.length < big ∧ q.1.cols.length < big ∧ ∀ l ∈ q.1.cols, l.length < big) fun _ => bv true
set_option maxRecDepth 100000 in
set_option maxHeartbeats 2000000 in
theorem P21 : P0 [] 21 G21 := by
  refine mkH 2 (S := []) (l := []) tb_nil Tryd.func21 rfl (by kernel_rfl) de21_mono (fun h l x e => by obtain ⟨a, b, rfl, _⟩ := de21_out e; exact Nat.le_refl _) (fun a => rfl) (fun args q h n e hp hn => ?_)
  obtain ⟨p, p2⟩ := q
  obtain ⟨x, y, rfl, e1, e2⟩ := de21_out e
  obtain ⟨heq, hb0, hb1, hb2⟩ := hp
  simp only [] at e1 e2 heq hb0 hb1 hb2
  subst heq
  obtain ⟨a, b, rfl, e3, e4⟩ := dePr_out e1
  obtain ⟨a', b', rfl, e5, e6⟩ := dePr_out e2
  obtain ⟨s1, s2, s3, s4, s5⟩ := sl_is e3
  obtain ⟨t1, t2, t3, t4, t5⟩ := sl_is e4
  obtain ⟨p1, p2, p3, p4, p5⟩ := sl_is e5
  obtain ⟨r1, r2, r3, r4, r5⟩ := sl_is e6
  have key : ∀ e : Nat → AV, e 0 = .g [a, b] → e 1 = .g [a', b'] → awp (cx [] (pfL [])) (Tryd.f21.body.getD .skip) (finQ (cx [] (pfL [])) Tryd.f21 fun z _ _ => z = bv true) ⟨e, roH h, n⟩ := fun e q0 q1 => by
    simp [evs, aeval, binS, cx_ti, cx_G, cx_pf, cx_tw, ti, globS, glob, ldcs_1, ldcs_2, ldcs_3, ldcs_4, ldcs_5, ldcs_7, sls.eq_1, slc.eq_1, pfL, Tryd.f21, q0, q1, s1, s2, s3, s4, s5, t1, t2, t3, t4, t5, p1, p2, p3, p4, p5, r1, r2, r3, r4, r5]
    refine awp_loop (fun s => ∃ j, j ≤ p.code.length ∧ s.e 2 = .p n 0 0 ∧ s.e 3 = .p (n + 1) 0 0 ∧ s.e 5 = ii j ∧ agree n (roH h) s.h ∧ s.h n = some ⟨[a, b], 0, true, 2⟩ ∧ s.h (n + 1) = some ⟨[a', b'], 0, true, 2⟩) (fun s => p.code.length - (s.e 5).i.toNat) ⟨0, by simp [up, ii, agree_up, agree_refl]⟩ ?_
    rintro e' h' n' ⟨j, hj, q2, q3, q5, hag, hx, hy⟩
    simp only [] at q2 q3 q5 hag hx hy
    by_cases hlt : j < p.code.length
    · rcases ps_at e3 with ⟨h0, _⟩ | ⟨id, off, k, rfl, hk, ho, hat⟩
      · rw [h0] at hlt; simp at hlt
      rcases ps_at e5 with ⟨h0, _⟩ | ⟨id2, off2, k2, rfl, hk2, ho2, hat2⟩
      · rw [h0] at hlt; simp at hlt
      obtain ⟨c0, c1, c2, c3, c4⟩ := ins_at (hat j hlt)
      obtain ⟨d0, d1, d2, d3, d4⟩ := ins_at (hat2 j hlt)
      rw [Nat.add_assoc] at c1 c2 c3 c4 d1 d2 d3 d4
      have hro := agree_at hn hk hag
      have hro2 := agree_at hn hk2 hag
      have hw := wrap_nat (j := j) (by omega)
      have hw1 : off + (j * 5 + 5) ≤ k.cells.length := by omega
      have hw2 : off2 + (j * 5 + 5) ≤ k2.cells.length := by omega
      simp [evs, aeval, binS, cx_ti, cx_G, cx_pf, cx_tw, ti, globS, glob, ldcs_1, ldcs_2, ldcs_3, ldcs_4, ldcs_5, ldcs_7, sls.eq_1, slc.eq_1, pfL, q2, q3, q5, hx, hy, ii, hlt, hro, hro2, c0, c1, c2, c3, c4, d0, d1, d2, d3, d4, hw1, hw2, hw]
      exact ⟨⟨j + 1, by omega, by omega, hag⟩, by omega⟩
    · have hje : j = p.code.length := by omega
      subst hje
      simp [evs, aeval, binS, cx_ti, cx_G, cx_pf, cx_tw, ti, globS, glob, ldcs_1, ldcs_2, ldcs_3, ldcs_4, ldcs_5, ldcs_7, sls.eq_1, slc.eq_1, pfL, q2, q3, q5, hx, hy, ii, s1, s2, s3]
      refine awp_loop (fun s => ∃ j, j ≤ p.cols.length ∧ s.e 2 = .p n 0 0 ∧ s.e 3 = .p (n + 1) 0 0 ∧ s.e 6 = ii j ∧ s.h = h') (fun s => p.cols.length - (s.e 6).i.toNat) ⟨0, by simp [up, ii, q2, q3]⟩ ?_
      rintro e2' h2' n2' ⟨j, hj, q2, q3, q6, hh⟩
      simp only [] at q2 q3 q6 hh
      subst hh
      by_cases hlt : j < p.cols.length
      · rcases sls_at e4 with ⟨h0, _⟩ | ⟨id, off, k, rfl, hk, ho, hat⟩
        · rw [h0] at hlt; simp at hlt
        rcases sls_at e6 with ⟨h0, _⟩ | ⟨id2, off2, k2, rfl, hk2, ho2, hat2⟩
        · rw [h0] at hlt; simp at hlt
        obtain ⟨c, hc, hcr⟩ := hat j hlt
        obtain ⟨c2, hc2, hcr2⟩ := hat2 j hlt
        obtain ⟨u1, u2, u3, u4, u5⟩ := sl_is hcr
        obtain ⟨v1, v2, v3, v4, v5⟩ := sl_is hcr2
        have hro := agree_at hn hk hag
        have hro2 := agree_at hn hk2 hag
        have hw := wrap_nat (j := j) (by omega)
        have hw1 : off + (j + 1) ≤ k.cells.length := by omega
        have hw2 : off2 + (j + 1) ≤ k2.cells.length := by omega
        have hll := hb2 _ (List.getElem_mem hlt)
        simp [evs, aeval, binS, cx_ti, cx_G, cx_pf, cx_tw, ti, globS, glob, ldcs_1, ldcs_2, ldcs_3, ldcs_4, ldcs_5, ldcs_7, sls.eq_1, slc.eq_1, pfL, q2, q3, q6, hx, hy, ii, hlt, hro, hro2, hc, hc2, hw1, hw2, u1, u2, u3, v1, v2, v3]
        refine awp_loop (fun s => ∃ m, m ≤ p.cols[j].length ∧ s.e 2 = .p n 0 0 ∧ s.e 3 = .p (n + 1) 0 0 ∧ s.e 6 = ii j ∧ s.e 7 = ii m ∧ s.h = h2') (fun s => p.cols[j].length - (s.e 7).i.toNat) ⟨0, by simp [up, q2, q3, q6, ii]⟩ ?_
        rintro e3' h3' n3' ⟨m, hm, q2, q3, q6, q7, hh⟩
        simp only [] at q2 q3 q6 q7 hh
        subst hh
        by_cases hmt : m < p.cols[j].length
        · rcases is_at hcr with ⟨h0, _⟩ | ⟨i3, o3, k3, rfl, hk3, ho3, hat3⟩
          · rw [h0] at hmt; simp at hmt
          rcases is_at hcr2 with ⟨h0, _⟩ | ⟨i4, o4, k4, rfl, hk4, ho4, hat4⟩
          · rw [h0] at hmt; simp at hmt
          have hro3 := agree_at hn hk3 hag
          have hro4 := agree_at hn hk4 hag
          have g3 := hat3 m hmt
          have g4 := hat4 m hmt
          have hw3 : o3 + (m + 1) ≤ k3.cells.length := by omega
          have hw4 : o4 + (m + 1) ≤ k4.cells.length := by omega
          have hwm := wrap_nat (j := m) (by omega)
          simp [evs, aeval, binS, cx_ti, cx_G, cx_pf, cx_tw, ti, globS, glob, ldcs_1, ldcs_2, ldcs_3, ldcs_4, ldcs_5, ldcs_7, sls.eq_1, slc.eq_1, pfL, q2, q3, q6, q7, hx, hy, ii, hlt, hmt, hro, hro2, hro3, hro4, hc, hc2, hw1, hw2, hw3, hw4, u1, u2, u3, v1, v2, v3, g3, g4, hwm]
          exact ⟨⟨m + 1, by omega, by omega⟩, by omega⟩
        · have hme : m = p.cols[j].length := by omega
          subst hme
          simp [evs, aeval, binS, cx_ti, cx_G, cx_pf, cx_tw, ti, globS, glob, ldcs_1, ldcs_2, ldcs_3, ldcs_4, ldcs_5, ldcs_7, sls.eq_1, slc.eq_1, pfL, q2, q3, q6, q7, hx, hy, ii, hlt, hro, hro2, hc, hc2, hw1, hw2, u1, u2, u3, v1, v2, v3, hw]
          exact ⟨⟨j + 1, by omega, by omega⟩, by omega⟩
      · have hje : j = p.cols.length := by omega
        subst hje
        simp [evs, aeval, binS, cx_ti, cx_G, cx_pf, cx_tw, ti, globS, glob, ldcs_1, ldcs_2, ldcs_3, ldcs_4, ldcs_5, ldcs_7, sls.eq_1, slc.eq_1, pfL, q2, q3, q6, hx, hy, ii, bv, t1, t2, t3]
  exact key _ rfl rfl
end Go.Proofs.YtkfphaphiikloaaDoor

/-
  THE LAWS WITHOUT THE DOCUMENT: what they are handed, and programs in cells.
-/
namespace Go.Proofs.YtkfphaphiikloaaDoor
open Go Go.Eng

def S8 : List Nat := [0, 1, 2, 3, 4, 5, 6, 7]
/-- Arguments of a size that a machine holds. -/
structure W8 (v : Eq38) : Prop where
  s1 : v.sc.length * 40 ≤ 140737488355328
  s2 : ∀ t ∈ v.sc, t.attrs.length * 16 ≤ 140737488355328
  q1 : v.q.items.length * 64 ≤ 140737488355328
  q2 : smallT v.q.wh
  q3 : v.q.ret.length < big
  q4 : ∀ t ∈ v.q.ret, smallT t
  t1 : v.t.length * 64 ≤ 140737488355328
  t2 : ∀ x ∈ v.t, Rng x.n
  e1 : v.en.ls.length * 24 ≤ 140737488355328
  e2 : ∀ l ∈ v.en.ls, l.length * 88 ≤ 140737488355328
  e3 : ∀ l ∈ v.en.ls, ∀ x ∈ l, EvOk x
  e4 : Rng v.en.pos
theorem W8.eq {v : Eq38} (w : W8 v) (hb : beyondV v.en.ls = false) : EqOk v :=
  ⟨⟨by have := w.s1; unfold big; omega, fun t ht => by have := w.s2 t ht; unfold big; omega⟩, by have := w.q1; unfold big; omega, w.t1, w.t2, ⟨beyond_len hb, w.e3, w.e4⟩⟩
theorem W8.it {v : Eq38} (w : W8 v) : v.q.items.length < big := by have := w.q1; unfold big; omega
theorem W8.tl {v : Eq38} (w : W8 v) : v.sc.length * 8 ≤ 140737488355328 := by have := w.s1; omega
theorem W8.pr {v : Eq38} (w : W8 v) : PrOk (compP v.sc (vars v.q.items) v.t) := comp_ok (by have := w.it; simpa [vars] using this) w.t1 w.tl w.t2
theorem W8.w1 {v : Eq38} (w : W8 v) : v.en.ls.length < big := by have := w.e1; unfold big; omega
theorem W8.w2 {v : Eq38} (w : W8 v) : ∀ l ∈ v.en.ls, l.length < big := fun l hl => by have := w.e2 l hl; unfold big; omega
/-- What was handed in. -/
structure A8 (v : Eq38) (s : St) : Prop where
  at2 : rd dNs s.h (s.e 2) = some v.t
  as4 : HasS s.h (s.e 4) v.sc
  aq5 : HasQ s.h (s.e 5) v.q
  ae7 : HasE s.h (s.e 7) v.en
  frs : Fresh s.n s.h
theorem A8.up {v : Eq38} {s s' : St} (a : A8 v s) (he : ∀ i ∈ [2, 4, 5, 7], s'.e i = s.e i) (ha : agree s.n s.h s'.h) (hf : Fresh s'.n s'.h) : A8 v s' :=
  ⟨by rw [he 2 (by simp)]; exact rd_agr a.frs a.at2 _ ha, by rw [he 4 (by simp)]; exact a.as4.up a.frs ha, by rw [he 5 (by simp)]; exact a.aq5.up a.frs ha, by rw [he 7 (by simp)]; exact a.ae7.up a.frs ha, hf⟩
/-- A value in a cell. -/
def HasV (s : St) (i : Nat) (x : V) : Prop := ∃ m, s.e i = .p m 0 0 ∧ s.h m = some ⟨[.v (.bool x.k), .v (.int .i64 x.n)], 0, true, 2⟩
theorem HasV.up {s s' : St} {i n : Nat} {x : V} (a : HasV s i x) (hn : Fresh n s.h) (he : s'.e i = s.e i) (ha : agree n s.h s'.h) : HasV s' i x := by
  obtain ⟨m, h1, h2⟩ := a
  exact ⟨m, he.trans h1, by rw [ha m (lt_of h2 hn)]; exact h2⟩
end Go.Proofs.YtkfphaphiikloaaDoor
