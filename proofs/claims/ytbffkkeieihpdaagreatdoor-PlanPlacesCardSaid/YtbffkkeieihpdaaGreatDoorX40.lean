import Derived.Test.YtbffkkeieihpdaaGreatDoorX16
import Derived.Test.YtbffkkeieihpdaaGreatDoorX39
import Derived.Test.YtbffkkeieihpdaaGreatDoorX36
set_option linter.unusedSimpArgs false
set_option linter.unusedVariables false
set_option linter.constructorNameAsVariable false
set_option maxRecDepth 100000
set_option maxHeartbeats 4000000
namespace Go.Proofs.YtbffkkeieihpdaaGreatDoor
open Go Go.Eng Go.RowKit Go.ChangeShapes Go.WideShapes Go.Joins
theorem opens_itF : Opens Tryz.prog 71 dIt fun it => it.types.length * 16 ≤ reachBytes := by
 refine Opens.conv (Opens.struct Tryz.underlying71 (tot := 5) (by kernel_rfl) (OpensF.cons rfl (n := 1) (by kernel_rfl) (by decide) opens_b (OpensF.cons rfl (n := 1) (by kernel_rfl) (by decide) opens_93 (OpensF.cons rfl (n := 1) (by kernel_rfl) (by decide) opens_s (OpensF.cons rfl (n := 1) (by kernel_rfl) (by decide) opens_i (OpensF.one rfl (by kernel_rfl) opens_i)))))) fun h l x e ok => ?_
 obtain ⟨e1, e2⟩ := pair_run e
 obtain ⟨e3, e4⟩ := pair_run e2
 have h1 := tk_cons (bool_flat6 _ _ _ e1)
 obtain ⟨a, ha⟩ := sl_one e3
 have h2 := tk_cons ha
 have h3 := pair_flat str_flat (pair_flat (int_flat .i64) (int_flat .i64)) h _ _ e4
 rw [ha] at e3
 have e3' : rd dSs h a = some x.2.1 := e3
 refine ⟨⟨x.1, x.2.1, x.2.2.1, x.2.2.2.1, x.2.2.2.2⟩, ?_, ok.2.1.1⟩
 rw [h1, h2, h3]
 exact deItc_in (x := ⟨x.1, x.2.1, x.2.2.1, x.2.2.2.1, x.2.2.2.2⟩) e3'
theorem opens_25F : Opens Tryz.prog 25 dIts fun l => l.length * 64 ≤ reachBytes ∧ ∀ x ∈ l, x.types.length * 16 ≤ reachBytes := Opens.sl Tryz.underlying25 (sz := 5) (by kernel_rfl) (by decide) (by kernel_rfl) opens_itF
structure QuOkF (q : Qu) : Prop where
 items : q.items.length * 64 ≤ reachBytes
 its : ∀ it ∈ q.items, it.types.length * 16 ≤ reachBytes
 wh : q.wh.length * 64 ≤ reachBytes
 whr : ∀ x ∈ q.wh, Rng x.n
 ret : q.ret.length * 24 ≤ reachBytes
 rets : ∀ t ∈ q.ret, t.length * 64 ≤ reachBytes
 retr : ∀ t ∈ q.ret, ∀ x ∈ t, Rng x.n
theorem opens_quF : Opens Tryz.prog 31 dQu QuOkF := by
 refine Opens.conv (Opens.struct Tryz.underlying31 (tot := 7) (by kernel_rfl) (OpensF.cons rfl (n := 1) (by kernel_rfl) (by decide) opens_25F (OpensF.cons rfl (n := 1) (by kernel_rfl) (by decide) opens_26 (OpensF.cons rfl (n := 1) (by kernel_rfl) (by decide) opens_27 (OpensF.cons rfl (n := 1) (by kernel_rfl) (by decide) opens_28 (OpensF.cons rfl (n := 1) (by kernel_rfl) (by decide) opens_i2 (OpensF.cons rfl (n := 1) (by kernel_rfl) (by decide) opens_s (OpensF.one rfl (by kernel_rfl) opens_29)))))))) fun h l x e ok => ?_
 obtain ⟨x1, x2, x3, x4, x5, x6, x7⟩ := x
 obtain ⟨o1, o2, o3, o4, o5, o6, o7⟩ := ok
 obtain ⟨e1, e⟩ := pair_run e
 obtain ⟨e2, e⟩ := pair_run e
 obtain ⟨e3, e⟩ := pair_run e
 obtain ⟨e4, e⟩ := pair_run e
 obtain ⟨e5, e⟩ := pair_run e
 obtain ⟨e6, e7⟩ := pair_run e
 obtain ⟨a, ha⟩ := sl_one e1
 obtain ⟨b, hb⟩ := sl_one e4
 obtain ⟨c, hc⟩ := sl_one e7
 have h1 := tk_cons ha
 have h2 := tk_cons (int_flat .i64 _ _ _ e2)
 have h3 := tk_cons (int_flat .i64 _ _ _ e3)
 have h4 := tk_cons hb
 have h5 := tk_cons (int_flat .i64 _ _ _ e5)
 have h6 := tk_cons (str_flat _ _ _ e6)
 rw [ha] at e1
 rw [hb] at e4
 rw [hc] at e7
 have e1' : rd dIts h a = some x1 := e1
 have e4' : rd dNs h b = some x4 := e4
 have e7' : rd dNss h c = some x7 := e7
 refine ⟨⟨x1, x2, x3, x4, x5, x6, x7⟩, ?_, o1.1, o1.2, o4.1, o4.2, o7.1, fun t ht => (o7.2 t ht).1, fun t ht => (o7.2 t ht).2⟩
 rw [h1, h2, h3, h4, h5, h6, hc]
 exact deQ_in (q := ⟨x1, x2, x3, x4, x5, x6, x7⟩) e1' e4' e7'
theorem sq_of {sc : List Ty} {q : Qu} (h1 : sc.length * 40 ≤ reachBytes) (h2 : ∀ t ∈ sc, t.attrs.length * 16 ≤ reachBytes) (h3 : QuOkF q) : SQ sc q := by
 have hr : reachBytes = 140737488351232 := rfl
 have k1 := h3.items
 have k2 := h3.wh
 have k3 := h3.ret
 rw [hr] at h1 k1 k2 k3
 refine ⟨by omega, fun t ht => ?_, by omega, fun t ht => ?_, by unfold smallT; omega, h3.whr, by omega, fun t ht => ?_, h3.retr⟩
 ·have := h2 t ht; rw [hr] at this; omega
 ·have := h3.its t ht; rw [hr] at this; omega
 ·have := h3.rets t ht; rw [hr] at this; unfold smallT; omega
theorem roH_sim (h : Heap) : h.sim (roH h) := fun i k e => ⟨k.ro, by simp [roH, e], rfl, rfl⟩
end Go.Proofs.YtbffkkeieihpdaaGreatDoor

namespace Go.Proofs.YtbffkkeieihpdaaGreatDoor
open Go Go.Eng
section
variable {h : Heap} {n : Nat}
structure B34 (h : Heap) (n : Nat) (p : Pt) (s : St) : Prop where
 m3 : ∃ m, s.e 3 = .p m 0 0 ∧ s.h m = some ⟨pcells p (planOf sc0 q0), 0, true, 16⟩
 m4 : ∃ m, s.e 4 = .p m 0 0 ∧ s.h m = some ⟨fcells fl0, 0, true, 4⟩
 pl : PlR s.h p (planOf sc0 q0)
 ag : agree n h s.h
 fr : Fresh s.n s.h
 nn : n ≤ s.n
theorem b34b (e : Nat → AV) (h1 : Heap) (n2 : Nat) {sa qa qb qc : AV} (a : A34 h n sa qa qb qc ⟨e, h1, n2⟩) {Q} : awp (cz SP (pfL tbSt)) (hdC 1 (tlC 4 (Tryz.f34.body.getD .skip))) (thenQ (fun s => ∃ p, B34 h n p s) Q) ⟨e, h1, n2⟩ := by
 obtain ⟨⟨m1, r1, b1⟩, ⟨m2, r2, b2⟩, e1, e2, ag, fr, nn⟩ := a
 simp only [] at r1 b1 r2 b2 e1 e2 ag fr nn
 have hb2 : h1 m2 = some ⟨[qa, .v (.int .i64 q0.mode), .v (.int .i64 q0.after), qb, .v (.int .i64 q0.within), .v (.string q0.par), qc], 0, true, 7⟩ := b2
 simp [evz, hdC, tlC, Tryz.f34, tbSt, r1, b1, r2, hb2]
 refine (acall_zz (S := [3]) (by simp [SP]) (c17 e1 e2 sq0.ok fr)).mono ?_
 rintro z h2 n3 ⟨a1, a2, a3, hz⟩
 rcases hz with ⟨hz, _⟩ | ⟨_, p, rfl, pl⟩
 ·exact absurd chk0 hz
 obtain ⟨o1, o2, o3, o4, o5, o6, o7, o8, o9, o10⟩ := pl.is
 have fin : ∀ (e' : Nat → AV) (h' : Heap) (n' : Nat) (m3 m4 : Nat), e' 3 = .p m3 0 0 → e' 4 = .p m4 0 0 → h' m3 = some ⟨pcells p (planOf sc0 q0), 0, true, 16⟩ → h' m4 = some ⟨fcells fl0, 0, true, 4⟩ → agree n3 h2 h' → Fresh n' h' → n3 ≤ n' → ∃ p, B34 h n p ⟨e', h', n'⟩ := fun e' h' n' m3 m4 k1 k2 k3 k4 k5 k6 k7 =>
  ⟨p, ⟨m3, k1, k3⟩, ⟨m4, k2, k4⟩, pl.sim (agr_sim a2 k5), agree_trans ag (agree_trans a1 k5 a3) nn, k6, Nat.le_trans nn (Nat.le_trans a3 k7)⟩
 simp only [pcells, ff, fcells, fl0, ii, ss, bv] at fin ⊢
 generalize planOf sc0 q0 = P at *
 simp [evz, o1, o2, o3, o4, o5, o6, o7, o8, o9, o10]
 exact fin _ _ _ n3 (n3 + 1) (by simp [up]) (by simp [up]) (by simp [up]) (by simp [up]) (by simp [agree_up, agree_refl]) (by simp [fresh_up, a2.add]) (by omega)
theorem b34c (e : Nat → AV) (h1 : Heap) (n2 : Nat) {p : Pt} (a : B34 h n p ⟨e, h1, n2⟩) : awp (cz SP (pfL tbSt)) (tlC 5 (Tryz.f34.body.getD .skip)) (finQ (cz SP (pfL tbSt)) Tryz.f34 fun z h' n' => agree n h h' ∧ Fresh n' h' ∧ n ≤ n' ∧ z = bv true) ⟨e, h1, n2⟩ := by
 obtain ⟨⟨m3, r3, b3⟩, ⟨m4, r4, b4⟩, pl, ag, fr, nn⟩ := a
 simp only [] at r3 b3 r4 b4 pl ag fr nn
 have hP := plan_tk wf0 sq0 (c := 0) (x := evq0) (by simp [EvOk, Rng, evq0])
 have hP1 := plan_tk wf0 sq0 (c := 0) (x := evq1) (by simp [EvOk, Rng, evq1])
 have hP2 := plan_gd wf0 sq0 (c := 0) (x := evq2) (by simp [EvOk, Rng, evq2])
 have v0 := pl0_0
 have v1 := pl0_1
 have v2 := pl0_2
 have v3 := pl0_3
 have l1 := pl0_c
 have l2 := pl0_n
 have l3 := pl0_u
 have l4 := pl0_t
 have l5 := pl0_l
 generalize planOf sc0 q0 = P at *
 obtain ⟨o1, o2, o3, o4, o5, o6, o7, o8, o9, o10⟩ := pl.is
 obtain ⟨s1, s2, s3, s4, s5⟩ := sl_is pl.cm
 obtain ⟨t1, t2, t3, t4, t5⟩ := sl_is pl.ng
 obtain ⟨u1, u2, u3, u4, u5⟩ := sl_is pl.us
 rw [l1] at s2
 rw [l2] at t2
 rw [l3] at u2
 have gp : ∀ h', agree n2 h1 h' → rPl.run h' (.g (pcells p P)) = some P := fun h' ha => dePlan_in (pl.sim (agr_sim fr ha))
 have gt : ∀ h', agree n2 h1 h' → ∀ x : Ev, GTakes [.g (pcells p P), ii 0, ee x] h' = ⟨okTk (P, 0, x), bv (takesV P 0 x)⟩ := fun h' ha x => by
  have k1 := gp h' ha
  have k2 : rI.run h' (ii 0) = some 0 := rfl
  have k3 : rE.run h' (ee x) = some x := deE_ee x
  simp only [GTakes, pureH, de3, k1, k2, k3, Option.bind_some, Option.map_some]
 have gg : ∀ h', agree n2 h1 h' → ∀ x : Ev, GGuards [.g (pcells p P), ii 0, ee x] h' = ⟨okGd (P, 0, x), bv (guardsV P 0 x)⟩ := fun h' ha x => by
  have k1 := gp h' ha
  have k2 : rI.run h' (ii 0) = some 0 := rfl
  have k3 : rE.run h' (ee x) = some x := deE_ee x
  simp only [GGuards, pureH, de3, k1, k2, k3, Option.bind_some, Option.map_some]
 have gi : ∀ h', agree n2 h1 h' → ∀ x : Ev, GIn [.g (pcells p P), ee x] h' = ⟨P.used.length < big, bv (inStrV P x.ty)⟩ := fun h' ha x => by
  have k1 := gp h' ha
  have k3 : rE.run h' (ee x) = some x := deE_ee x
  simp only [GIn, pureH, de2, k1, k3, Option.bind_some, Option.map_some]
 have g0 := fun h' ha => gt h' ha evq0
 have g1 := fun h' ha => gt h' ha evq1
 have g2 := fun h' ha => gg h' ha evq2
 have g3 := fun h' ha => gi h' ha evq2
 rw [v0] at g0
 rw [v1] at g1
 rw [v2] at g2
 have v3' : inStrV P evq2.ty = true := v3
 rw [v3'] at g3
 simp only [pcells, ee, ecells, evq0, evq1, evq2, ii, ss, bv, uu] at g0 g1 g2 g3 b3
 simp only [fcells, fl0, ii] at b4
 have hb : P.used.length < big := by rw [l3]; unfold big; omega
 have nm3 : ¬ m3 = n2 := by have := lt_of b3 fr; omega
 rw [l4, l5] at g0 g1 g2 g3 b3
 simp [evz, tlC, Tryz.f34, tbSt, r3, b3, r4, b4, s1, s2, t1, t2, u1, u2, g0, g1, g2, g3, ldcs_11q, ldcs_16q, agree_up, agree_refl, nm3, bv]
 exact ⟨hP, hP1, hP2, hb, (agree_up nn _).2 ((agree_up nn _).2 ((agree_up nn _).2 ag)), (fresh_up (by omega) _).2 ((fresh_up (by omega) _).2 ((fresh_up (by omega) _).2 (fr.add 3))), by omega⟩
theorem c34 (hn : Fresh n h) : ACall (cz SP (pfL tbSt)) 34 [] h n fun z h' n' => agree n h h' ∧ Fresh n' h' ∧ n ≤ n' ∧ z = bv true := by
 refine acall_of_awp (args := []) (pfZ_ok (tb_cons P78 (tb_cons P30 (tb_cons P32 (tb_cons P26 tb_nil))))) (mixed_z _ _) Tryz.func34 (c := Tryz.f34.body.getD .skip) rfl (by kernel_rfl) (callable Tryz.func34 rfl rfl [] (pfL [])) (show 0 ≤ Tryz.f34.ntmps by decide +kernel) ?_
 refine awp_cut 4 _ _ (b34a hn (env0 [])) fun e1 h1 n1 ⟨sa, qa, qb, qc, A⟩ => ?_
 refine awp_cut 1 _ _ (b34b e1 h1 n1 A) fun e2 h2 n2 ⟨p, B⟩ => ?_
 exact b34c e2 h2 n2 B
end
end Go.Proofs.YtbffkkeieihpdaaGreatDoor

namespace Go.Proofs.YtbffkkeieihpdaaGreatDoor
open Go Go.Eng
section
variable {sc : List Ty} {q : Qu} {t : List Nd}
theorem home_rng (q : Qu) (t : List Nd) : -1 ≤ homeT q t ∧ homeT q t < (q.items.length : Int) := by
 cases h : (mentL q t).find? (ngQ q) with
 | some i =>
  rw [home_neg h]
  obtain ⟨h1, h2⟩ := ment_lt (List.mem_of_find?_eq_some h)
  omega
 | none =>
  rw [home_pos h]
  split
  ·rename_i hl
   have hm : (posI q q.items.length)[lsL q (mentL q t)] ∈ posI q q.items.length := List.getElem_mem hl
   have := (posI_mem.1 hm).1
   rw [List.getD_eq_getElem?_getD, List.getElem?_eq_getElem hl, Option.getD_some]
   omega
  ·omega
def cntP (q : Qu) (l : List (List Nd)) (i : Nat) : Nat := (l.filter fun t => decide (homeT q t < (i : Int))).length
theorem filt_split {α : Type} (f : α → Int) (a : α → Bool) (i : Nat) : ∀ l : List α, (l.filter fun t => decide (f t < ((i + 1 : Nat) : Int))).length = (l.filter fun t => decide (f t < (i : Int))).length + (l.filter fun t => a t && decide (f t = (i : Int))).length + (l.filter fun t => !a t && decide (f t = (i : Int))).length
 | [] => rfl
 | x :: l => by
  have ih := filt_split f a i l
  rw [List.filter_cons, List.filter_cons, List.filter_cons, List.filter_cons]
  by_cases h1 : f x < (i : Int)
  ·have h2 : f x < ((i + 1 : Nat) : Int) := by omega
   have h3 : ¬ f x = (i : Int) := by omega
   simp only [h1, h2, h3, decide_true, decide_false, if_true, Bool.and_false, Bool.false_eq_true, if_false, List.length_cons]
   omega
  ·by_cases h3 : f x = (i : Int)
   ·have h2 : f x < ((i + 1 : Nat) : Int) := by omega
    cases ha : a x <;> simp only [h3, decide_true, decide_false, if_true, Bool.and_true, Bool.not_true, Bool.not_false, Bool.false_eq_true, if_false, List.length_cons, show ((i : Int) < ((i + 1 : Nat) : Int)) by omega, show ¬ ((i : Int) < (i : Int)) by omega] <;> omega
   ·have h2 : ¬ f x < ((i + 1 : Nat) : Int) := by omega
    simp only [h1, h2, h3, decide_false, Bool.and_false, Bool.false_eq_true, if_false]
    omega
theorem cnt_succ (l : List (List Nd)) (i : Nat) : cntP q l (i + 1) = cntP q l i + (ownL sc q l i).length + (restL sc q l i).length := by
 simp only [ownL, restL, List.length_map]
 exact filt_split (homeT q) (aloneT q) i l
theorem cond_rest (l : List (List Nd)) (i : Int) : (condL sc q l i).length = (restL sc q l i).length := by simp only [condL, restL, List.length_map]
theorem cnt_zero (l : List (List Nd)) : cntP q l 0 = (fixL sc q l).length := by
 simp only [cntP, fixL, List.length_map]
 congr 1
 apply List.filter_congr
 intro t _
 have := (home_rng q t).1
 have h : (homeT q t < ((0 : Nat) : Int)) ↔ homeT q t = -1 := by omega
 simp only [h]
theorem cnt_all (l : List (List Nd)) : cntP q l q.items.length = l.length := by
 simp only [cntP]
 congr 1
 rw [List.filter_eq_self]
 intro t _
 exact decide_eq_true (home_rng q t).2
theorem cnt_le (l : List (List Nd)) (i : Nat) : cntP q l i ≤ l.length := List.length_filter_le _ _
theorem plan_comps_at {i : Nat} (hi : i < q.items.length) (hn : (itA q i).neg = false) : (planOf sc q).comps[(posI q i).length]? = some (cmpOf sc q (conjs q) i) := by
 show (cmpsOf sc q (conjs q) q.items.length)[(posI q i).length]? = _
 rw [cmpsOf, List.getElem?_map]
 have := posI_get hi hn
 rw [show (posI q i).length = rk q i from rfl, this]; rfl
theorem plan_negs_at {i : Nat} (hi : i < q.items.length) (hn : (itA q i).neg = true) : (planOf sc q).negs[(negI q i).length]? = some (ngOf sc q (conjs q) i) := by
 show (ngsOf sc q (conjs q) q.items.length)[(negI q i).length]? = _
 rw [ngsOf, List.getElem?_map]
 have := negI_get hi hn
 rw [show (negI q i).length = rn q i from rfl, this]; rfl
theorem plan_comps_len : (planOf sc q).comps.length = (posI q q.items.length).length := by show (cmpsOf sc q (conjs q) q.items.length).length = _; rw [cmpsOf, List.length_map]
theorem plan_negs_len : (planOf sc q).negs.length = (negI q q.items.length).length := by show (ngsOf sc q (conjs q) q.items.length).length = _; rw [ngsOf, List.length_map]
end
end Go.Proofs.YtbffkkeieihpdaaGreatDoor

namespace Go.Proofs.YtbffkkeieihpdaaGreatDoor
open Go Go.Eng
def tbl8 : List (FuncId × (List AV → Heap → PRes)) := [(14, G14)]
theorem tbl8_ok : TbOk SP tbl8 := tb_cons P14 tb_nil
structure AP (H : Heap) (n : Nat) (q : Qu) (sa qa qb qc : AV) (s : St) : Prop where
 q2 : s.e 2 = .p n 0 0
 q3 : s.e 3 = .p (n + 1) 0 0
 b2 : s.h n = some ⟨[sa], 0, true, 1⟩
 b3 : s.h (n + 1) = some ⟨qcells q qa qb qc, 0, true, 7⟩
 ag : agree n H s.h
 fr : Fresh s.n s.h
 nn : n + 2 ≤ s.n
theorem AP.up {H : Heap} {n : Nat} {q : Qu} {sa qa qb qc : AV} {s s' : St} (a : AP H n q sa qa qb qc s) (he : ∀ i ∈ [2, 3], s'.e i = s.e i) (ha : agree s.n s.h s'.h) (hf : Fresh s'.n s'.h) (hn : s.n ≤ s'.n) : AP H n q sa qa qb qc s' := by
 have := a.nn
 exact ⟨(he 2 (by simp)).trans a.q2, (he 3 (by simp)).trans a.q3, (ha _ (by omega)).trans a.b2, (ha _ (by omega)).trans a.b3, agree_trans a.ag ha (by omega), hf, by omega⟩
structure BP (H : Heap) (n : Nat) (sc : List Ty) (q : Qu) (sa qa qb qc : AV) (k m : Nat) (p : Pt) (s : St) : Prop where
 a : AP H n q sa qa qb qc s
 q5 : s.e k = .p m 0 0
 b5 : s.h m = some ⟨pcells p (planOf sc q), 0, true, 16⟩
 pl : PlR s.h p (planOf sc q)
theorem BP.up {H : Heap} {n : Nat} {sc : List Ty} {q : Qu} {sa qa qb qc : AV} {k m : Nat} {p : Pt} {s s' : St} (a : BP H n sc q sa qa qb qc k m p s) (he : ∀ i ∈ [2, 3, k], s'.e i = s.e i) (ha : agree s.n s.h s'.h) (hf : Fresh s'.n s'.h) (hn : s.n ≤ s'.n) : BP H n sc q sa qa qb qc k m p s' :=
 ⟨a.a.up (fun i hi => he i (by simp at hi ⊢; omega)) ha hf hn, (he k (by simp)).trans a.q5, (ha _ (lt_of a.b5 a.a.fr)).trans a.b5, a.pl.sim (agr_sim a.a.fr ha)⟩
section
variable {H : Heap} {n : Nat} {sc : List Ty} {q : Qu} {sa qa qb qc : AV}
theorem law8a (e1 : rd dTys H sa = some sc) (e2 : deQ H (.g (qcells q qa qb qc)) = some q) (w : SQ sc q) (hn : Fresh n H) (e : Nat → AV) (q0 : e 0 = .g [sa]) (q1 : e 1 = .g (qcells q qa qb qc)) :
  awp (cz SP (pfL tbl8)) (hdC 3 (Tryz.f8.body.getD .skip)) (thenQ (AP H n q sa qa qb qc) (finQ (cz SP (pfL tbl8)) Tryz.f8 fun z _ _ => z = bv true)) ⟨e, H, n⟩ := by
 obtain ⟨a', b', c', e0, x1, x2, x3⟩ := deQ_out e2
 cases e0
 have o1 := (sl_is e1).2.2.2.1
 have o2 := (sl_is x1).2.2.2.1
 have o3 := (sl_is x2).2.2.2.1
 have o4 := (sl_is x3).2.2.2.1
 have w3 : smallT q.wh ∧ q.ret.length < big ∧ ∀ t ∈ q.ret, smallT t := ⟨w.q2, by have := w.q3; unfold big; omega, w.q4⟩
 have gq : ∀ h', agree n H h' → G14 [.g [qa, .v (.int .i64 q.mode), .v (.int .i64 q.after), qb, .v (.int .i64 q.within), .v (.string q.par), qc]] h' = ⟨smallT q.wh ∧ q.ret.length < big ∧ ∀ t ∈ q.ret, smallT t, bv (qdeep q)⟩ := fun h' ha => by
  simp only [G14, pureH, deQ1, deQ_has (rd_agr hn x1 h' ha) (rd_agr hn x2 h' ha) (rd_agr hn x3 h' ha)]
 simp [evz, hdC, Tryz.f8, q0, q1, qcells, ii, ss, o1, o2, o3, o4, tbl8]
 refine (acall_zz (S := SP) (fun _ h => h) (c34 ((fresh_up (by omega) _).2 ((fresh_up (by omega) _).2 (hn.add 2))))).mono ?_
 rintro z h2 n2 ⟨a1, a2, a3, rfl⟩
 have ag : agree n H h2 := fun i hi => by rw [a1 i (by omega), up_ne _ _ (by omega), up_ne _ _ (by omega)]
 have b3 : h2 (n + 1) = _ := (a1 (n + 1) (by omega)).trans (up_same _ _ _)
 have b2 : h2 n = _ := ((a1 n (by omega)).trans (up_ne _ _ (by omega))).trans (up_same _ _ _)
 cases hq : qdeep q with
 | true =>
  rw [hq] at gq
  simp [evz, bv, b3, gq, ag]
  exact w3
 | false =>
  rw [hq] at gq
  simp [evz, bv, b3, gq, ag]
  exact ⟨w3, by simp [up], by simp [up], b2, b3, ag, a2, by omega⟩
end
end Go.Proofs.YtbffkkeieihpdaaGreatDoor

namespace Go.Proofs.YtbffkkeieihpdaaGreatDoor
open Go Go.Eng
noncomputable def l8L : Code := bodyL (hdC 1 (tlC 8 (Tryz.f8.body.getD .skip)))
structure CP (H : Heap) (n : Nat) (sc : List Ty) (q : Qu) (sa qa qb qc : AV) (m : Nat) (p : Pt) (i : Nat) (s : St) : Prop where
 b : BP H n sc q sa qa qb qc 5 m p s
 q7 : s.e 7 = ii (cntP q (conjs q) i)
 q8 : s.e 8 = ii (posI q i).length
 q9 : s.e 9 = ii (negI q i).length
 q10 : s.e 10 = ii i
section
variable {H : Heap} {n : Nat} {sc : List Ty} {q : Qu} {sa qa qb qc : AV}
theorem law8b (e1 : rd dTys H sa = some sc) (e2 : deQ H (.g (qcells q qa qb qc)) = some q) (w : SQ sc q) (hn : Fresh n H) (e : Nat → AV) (h1 : Heap) (n2 : Nat) (a : AP H n q sa qa qb qc ⟨e, h1, n2⟩) :
  awp (cz SP (pfL tbl8)) (hdC 2 (tlC 3 (Tryz.f8.body.getD .skip))) (thenQ (fun s => Wf sc q ∧ ∃ m p, BP H n sc q sa qa qb qc 5 m p s) (finQ (cz SP (pfL tbl8)) Tryz.f8 fun z _ _ => z = bv true)) ⟨e, h1, n2⟩ := by
 have a0 := a
 obtain ⟨q2, q3, b2, b3, ag, fr, nn⟩ := a
 simp only [] at q2 q3 b2 b3 ag fr nn
 obtain ⟨a', b', c', e0, x1, x2, x3⟩ := deQ_out e2
 cases e0
 have hb3 : h1 (n + 1) = some ⟨[qa, .v (.int .i64 q.mode), .v (.int .i64 q.after), qb, .v (.int .i64 q.within), .v (.string q.par), qc], 0, true, 7⟩ := b3
 simp [evz, hdC, tlC, Tryz.f8, tbl8, q2, q3, b2, hb3]
 refine (acall_zz (S := [3]) (by simp [SP]) (c17 (rd_agr hn e1 _ ag) (deQ_in (q := q) (rd_agr hn x1 _ ag) (rd_agr hn x2 _ ag) (rd_agr hn x3 _ ag)) w.ok fr)).mono ?_
 rintro z h2 n3 ⟨a1, a2, a3, hz⟩
 rcases hz with ⟨hz, rfl⟩ | ⟨hz, p, rfl, pl⟩
 ·generalize chk sc q = F at *
  obtain ⟨c, pt, ix, sb⟩ := F
  simp only [] at hz
  simp [evz, zpl, nilA, ff, fcells, ii, ss, bv, hz]
 ·obtain ⟨hz0, W⟩ := wf_of hz
  obtain ⟨o1, o2, o3, o4, o5, o6, o7, o8, o9, o10⟩ := pl.is
  have fin : ∀ (e' : Nat → AV) (h' : Heap) (n' : Nat), (∀ i ∈ [2, 3], e' i = e i) → e' 5 = .p n3 0 0 → h' n3 = some ⟨pcells p (planOf sc q), 0, true, 16⟩ → agree n3 h2 h' → Fresh n' h' → n3 ≤ n' → ∃ m p, BP H n sc q sa qa qb qc 5 m p ⟨e', h', n'⟩ := fun e' h' n' k1 k2 k3 k4 k5 k6 =>
   ⟨n3, p, a0.up k1 (agree_trans a1 k4 a3) k5 (Nat.le_trans a3 k6), k2, k3, pl.sim (agr_sim a2 k4)⟩
  simp only [pcells, ff, fcells, fl0, ii, ss, bv] at fin ⊢
  generalize planOf sc q = P at *
  simp [evz, o1, o2, o3, o4, o5, o6, o7, o8, o9, o10]
  exact ⟨W, fin _ _ _ (by simp [up]) (by simp [up]) (by simp [up]) (by simp [agree_up, agree_refl]) (by simp [fresh_up, a2.add]) (by omega)⟩
theorem law8c (e : Nat → AV) (h1 : Heap) (n2 : Nat) {m : Nat} {p : Pt} (a : BP H n sc q sa qa qb qc 5 m p ⟨e, h1, n2⟩) {Q} :
  awp (cz SP (pfL tbl8)) (hdC 3 (tlC 5 (Tryz.f8.body.getD .skip))) (thenQ (fun s => BP H n sc q sa qa qb qc 5 m p s ∧ s.e 7 = ii (cntP q (conjs q) 0) ∧ s.e 8 = ii 0 ∧ s.e 9 = ii 0) Q) ⟨e, h1, n2⟩ := by
 have a0 := a
 obtain ⟨a1, q5, b5, pl⟩ := a
 simp only [] at q5 b5 pl
 obtain ⟨s1, s2, s3, s4, s5⟩ := sl_is pl.fx
 have hc : cntP q (conjs q) 0 = (planOf sc q).fixed.length := cnt_zero (sc := sc) (conjs q)
 rw [hc]
 simp [evz, hdC, tlC, Tryz.f8, q5, b5, pcells, s1, s2, ii]
 exact a0.up (by simp [up]) (agree_refl _ _) a1.fr (Nat.le_refl _)
theorem law8n (W : Wf sc q) (w : SQ sc q) (e2 : deQ H (.g (qcells q qa qb qc)) = some q) (hn : Fresh n H) {i : Nat} (hi : i < q.items.length) (hng : (itA q i).neg = true) (e : Nat → AV) (h1 : Heap) (n2 : Nat) {m : Nat} {p : Pt} (a : CP H n sc q sa qa qb qc m p i ⟨e, h1, n2⟩) {Q}
  (hQ : ∀ s', CP H n sc q sa qa qb qc m p (i + 1) s' → Q .normal s') :
  awp (cz SP (pfL tbl8)) (tlC 1 l8L) Q ⟨e, h1, n2⟩ := by
 have a0 := a
 obtain ⟨⟨⟨q2, q3, b2, b3, ag, fr, nn⟩, q5, b5, pl⟩, q7, q8, q9, q10⟩ := a
 simp only [] at q2 q3 b2 b3 ag fr nn q5 b5 pl q7 q8 q9 q10
 obtain ⟨a', b', c', e0, x1, x2, x3⟩ := deQ_out e2
 cases e0
 have hb3 : h1 (n + 1) = some ⟨[qa, .v (.int .i64 q.mode), .v (.int .i64 q.after), qb, .v (.int .i64 q.within), .v (.string q.par), qc], 0, true, 7⟩ := b3
 obtain ⟨id, off, k, ty, y1, y2, y3, y4, y5, y6, y7, y8, y9⟩ := its_cell x1 hi
 have y2' : h1 id = some k := (ag _ (lt_of y2 hn)).trans y2
 have hA := itA_at hi
 rw [← hA] at y5
 have hat := plan_negs_at (sc := sc) hi hng
 obtain ⟨hj, hjv⟩ := List.getElem?_eq_some_iff.1 hat
 obtain ⟨gid, goff, gk, gty, gow, gcn, g1, g2, g3, g4, g5, g6, t0, t1, t2, t3, t4, t5⟩ := ng_cell pl.ng hj
 rw [hjv] at g4 g5 g6 t0 t2 t3
 simp only [ngOf] at g4 g5 g6 t0 t2 t3
 obtain ⟨s1, s2, s3, s4, s5⟩ := sl_is g5
 obtain ⟨u1, u2, u3, u4, u5⟩ := sl_is g6
 have hll := conjs_le w
 have hcs := cnt_succ (sc := sc) (q := q) (conjs q) i
 have hcl := cnt_le (q := q) (conjs q) (i + 1)
 have hin := W.n1
 have hpn := posneg q i
 have hps : (posI q (i + 1)).length = (posI q i).length := by rw [posI_succ, if_pos hng]
 have hns : (negI q (i + 1)).length = (negI q i).length + 1 := by rw [negI_succ, if_pos hng]; simp
 have fin : ∀ (e' : Nat → AV), (∀ i ∈ [2, 3, 5], e' i = e i) → e' 7 = ii (cntP q (conjs q) (i + 1)) → e' 8 = ii (posI q (i + 1)).length → e' 9 = ii (negI q (i + 1)).length → e' 10 = ii (i + 1 : Nat) → CP H n sc q sa qa qb qc m p (i + 1) ⟨e', h1, n2⟩ := fun e' k1 k2 k3 k4 k5 => ⟨a0.b.up k1 (agree_refl _ _) fr (Nat.le_refl _), k2, k3, k4, k5⟩
 rw [hcs, hps, hns] at fin
 rw [hcs] at hcl
 have hrk : rk q i = (posI q i).length := rfl
 rw [hrk] at t2 t3
 generalize cntP q (conjs q) i = cn at *
 generalize (ownL sc q (conjs q) i).length = ol at *
 generalize (restL sc q (conjs q) i).length = rl at *
 generalize (posI q i).length = pi at *
 generalize (negI q i).length = ni at *
 have w1 : IntKind.i64.wrap ((cn : Int) + (ol : Int)) = ((cn + ol : Nat) : Int) := by rw [wrap_sm (by omega) (by omega)]; omega
 have w2 : IntKind.i64.wrap (((cn + ol : Nat) : Int) + (rl : Int)) = ((cn + ol + rl : Nat) : Int) := by rw [wrap_sm (by omega) (by omega)]; omega
 have w3 : IntKind.i64.wrap ((pi : Int) - 1) = (pi : Int) - 1 := wrap_sm (by omega) (by omega)
 have w4 := wrap_nat (j := ni) (by unfold big; omega)
 have w5 := wrap_nat (j := i) (by unfold big; omega)
 have hj' : ¬ (planOf sc q).negs.length ≤ ni := by omega
 have hlt : off + (i * 5 + 1) ≤ k.cells.length := by omega
 have gl1 : goff + (ni * 6 + 1) ≤ gk.cells.length := by omega
 have gl2 : goff + (ni * 6 + 3) ≤ gk.cells.length := by omega
 have gl3 : goff + (ni * 6 + 4) ≤ gk.cells.length := by omega
 have gl4 : goff + (ni * 6 + 5) ≤ gk.cells.length := by omega
 generalize planOf sc q = P at *
 have w2' : IntKind.i64.wrap ((cn : Int) + (ol : Int) + (rl : Int)) = ((cn + ol + rl : Nat) : Int) := by rw [wrap_sm (by omega) (by omega)]; omega
 simp [evz, tlC, l8L, bodyL, hdC, Tryz.f8, q3, q5, q7, q8, q9, q10, hb3, b5, pcells, ii, ss, bv, y1, y2', hlt, y5, hi, hng, g1, g2, g3, gl1, gl2, gl3, gl4, t0, t2, t3, t4, t5, hj, hj', s1, s2, u1, u2, w1, w2', w3, w4, w5]
 exact hQ _ (fin _ (by simp [up]) (by simp [up, ii]; omega) (by simp [up, q8, ii]) (by simp [up, ii]) (by simp [up, ii]))
end
end Go.Proofs.YtbffkkeieihpdaaGreatDoor

namespace Go.Proofs.YtbffkkeieihpdaaGreatDoor
open Go Go.Eng
section
variable {H : Heap} {n : Nat} {sc : List Ty} {q : Qu} {sa qa qb qc : AV}
theorem law8p (W : Wf sc q) (w : SQ sc q) (e2 : deQ H (.g (qcells q qa qb qc)) = some q) (hn : Fresh n H) {i : Nat} (hi : i < q.items.length) (hng : (itA q i).neg = false) (e : Nat → AV) (h1 : Heap) (n2 : Nat) {m : Nat} {p : Pt} (a : CP H n sc q sa qa qb qc m p i ⟨e, h1, n2⟩) {Q}
  (hQ : ∀ s', CP H n sc q sa qa qb qc m p (i + 1) s' → Q .normal s') :
  awp (cz SP (pfL tbl8)) (tlC 1 l8L) Q ⟨e, h1, n2⟩ := by
 have a0 := a
 obtain ⟨⟨⟨q2, q3, b2, b3, ag, fr, nn⟩, q5, b5, pl⟩, q7, q8, q9, q10⟩ := a
 simp only [] at q2 q3 b2 b3 ag fr nn q5 b5 pl q7 q8 q9 q10
 obtain ⟨a', b', c', e0, x1, x2, x3⟩ := deQ_out e2
 cases e0
 have hb3 : h1 (n + 1) = some ⟨[qa, .v (.int .i64 q.mode), .v (.int .i64 q.after), qb, .v (.int .i64 q.within), .v (.string q.par), qc], 0, true, 7⟩ := b3
 obtain ⟨id, off, k, ty, y1, y2, y3, y4, y5, y6, y7, y8, y9⟩ := its_cell x1 hi
 have y2' : h1 id = some k := (ag _ (lt_of y2 hn)).trans y2
 have hA := itA_at hi
 rw [← hA] at y5
 have hat := plan_comps_at (sc := sc) hi hng
 obtain ⟨hj, hjv⟩ := List.getElem?_eq_some_iff.1 hat
 obtain ⟨gid, goff, gk, gty, gow, gcn, g1, g2, g3, g4, g5, g6, t0, t1, t2, t3, t4, t5⟩ := cmp_cell pl.cm hj
 rw [hjv] at g4 g5 g6 t0 t2 t3
 simp only [cmpOf] at g4 g5 g6 t0 t2 t3
 obtain ⟨s1, s2, s3, s4, s5⟩ := sl_is g5
 obtain ⟨u1, u2, u3, u4, u5⟩ := sl_is g6
 have hll := conjs_le w
 have hcs := cnt_succ (sc := sc) (q := q) (conjs q) i
 have hcl := cnt_le (q := q) (conjs q) (i + 1)
 have hin := W.n1
 have hpn := posneg q i
 have hps : (posI q (i + 1)).length = (posI q i).length + 1 := by rw [posI_succ, if_neg (by simp [hng])]; simp
 have hns : (negI q (i + 1)).length = (negI q i).length := by rw [negI_succ, if_neg (by simp [hng])]
 have fin : ∀ (e' : Nat → AV), (∀ i ∈ [2, 3, 5], e' i = e i) → e' 7 = ii (cntP q (conjs q) (i + 1)) → e' 8 = ii (posI q (i + 1)).length → e' 9 = ii (negI q (i + 1)).length → e' 10 = ii (i + 1 : Nat) → CP H n sc q sa qa qb qc m p (i + 1) ⟨e', h1, n2⟩ := fun e' k1 k2 k3 k4 k5 => ⟨a0.b.up k1 (agree_refl _ _) fr (Nat.le_refl _), k2, k3, k4, k5⟩
 rw [hcs, hps, hns] at fin
 rw [hcs] at hcl
 rw [cond_rest] at u2
 generalize cntP q (conjs q) i = cn at *
 generalize (ownL sc q (conjs q) i).length = ol at *
 generalize (restL sc q (conjs q) i).length = rl at *
 generalize (posI q i).length = pi at *
 generalize (negI q i).length = ni at *
 have w1 : IntKind.i64.wrap ((cn : Int) + (ol : Int)) = ((cn + ol : Nat) : Int) := by rw [wrap_sm (by omega) (by omega)]; omega
 have w2 : IntKind.i64.wrap (((cn + ol : Nat) : Int) + (rl : Int)) = ((cn + ol + rl : Nat) : Int) := by rw [wrap_sm (by omega) (by omega)]; omega
 have w3 : IntKind.i64.wrap ((pi : Int) - 1) = (pi : Int) - 1 := wrap_sm (by omega) (by omega)
 have w4 := wrap_nat (j := pi) (by unfold big; omega)
 have w5 := wrap_nat (j := i) (by unfold big; omega)
 have hj' : ¬ (planOf sc q).comps.length ≤ pi := by omega
 have hlt : off + (i * 5 + 1) ≤ k.cells.length := by omega
 have gl1 : goff + (pi * 6 + 1) ≤ gk.cells.length := by omega
 have gl2 : goff + (pi * 6 + 3) ≤ gk.cells.length := by omega
 have gl3 : goff + (pi * 6 + 4) ≤ gk.cells.length := by omega
 have gl4 : goff + (pi * 6 + 5) ≤ gk.cells.length := by omega
 generalize planOf sc q = P at *
 have w2' : IntKind.i64.wrap ((cn : Int) + (ol : Int) + (rl : Int)) = ((cn + ol + rl : Nat) : Int) := by rw [wrap_sm (by omega) (by omega)]; omega
 simp [evz, tlC, l8L, bodyL, hdC, Tryz.f8, q3, q5, q7, q8, q10, hb3, b5, pcells, ii, ss, bv, y1, y2', hlt, y5, hi, hng, g1, g2, g3, gl1, gl4, t0, t4, t5, hj, hj', s1, s2, u1, u2, w1, w2', w4, w5]
 exact hQ _ (fin _ (by simp [up]) (by simp [up, ii]; omega) (by simp [up, ii]) (by simp [up, q9, ii]) (by simp [up, ii]))
end
end Go.Proofs.YtbffkkeieihpdaaGreatDoor

namespace Go.Proofs.YtbffkkeieihpdaaGreatDoor
open Go Go.Eng
section
variable {H : Heap} {n : Nat} {sc : List Ty} {q : Qu} {sa qa qb qc : AV}
theorem law8l (W : Wf sc q) (w : SQ sc q) (e2 : deQ H (.g (qcells q qa qb qc)) = some q) (hn : Fresh n H) (e : Nat → AV) (h1 : Heap) (n2 : Nat) {m : Nat} {p : Pt} (a : CP H n sc q sa qa qb qc m p 0 ⟨e, h1, n2⟩) {Q : Ex → St → Prop}
  (hQ : ∀ s', CP H n sc q sa qa qb qc m p q.items.length s' → Q (.exit 0) s') :
  awp (cz SP (pfL tbl8)) (.loop l8L) Q ⟨e, h1, n2⟩ := by
 refine awp_loop (fun s => ∃ i, i ≤ q.items.length ∧ CP H n sc q sa qa qb qc m p i s) (fun s => q.items.length - (s.e 10).i.toNat) ⟨0, Nat.zero_le _, a⟩ ?_
 rintro e' h' n' ⟨i, hi, J⟩
 obtain ⟨a', b', c', e0, x1, x2, x3⟩ := deQ_out e2
 cases e0
 have J0 := J
 obtain ⟨⟨⟨q2, q3, b2, b3, ag, fr, nn⟩, q5, b5, pl⟩, q7, q8, q9, q10⟩ := J
 simp only [] at q3 b3 ag fr q7 q8 q9 q10
 have hb3 : h' (n + 1) = some ⟨[qa, .v (.int .i64 q.mode), .v (.int .i64 q.after), qb, .v (.int .i64 q.within), .v (.string q.par), qc], 0, true, 7⟩ := b3
 obtain ⟨s1, s2, s3, s4, s5⟩ := sl_is x1
 by_cases hlt : i < q.items.length
 ·refine awp_cut 1 _ _ (R := fun s => CP H n sc q sa qa qb qc m p i s) ?_ fun e2' h2 n3 J2 => ?_
  ·simp [evz, hdC, l8L, bodyL, tlC, Tryz.f8, q3, q10, hb3, s1, s2, ii, hlt]
   exact ⟨J0.b.up (by simp [up]) (agree_refl _ _) fr (Nat.le_refl _), by simp [up, q7], by simp [up, q8], by simp [up, q9], by simp [up, q10]⟩
  ·have fin : ∀ s', CP H n sc q sa qa qb qc m p (i + 1) s' → thenQ (fun s'' => (∃ i, i ≤ q.items.length ∧ CP H n sc q sa qa qb qc m p i s'') ∧ q.items.length - (s''.e 10).i.toNat < q.items.length - (e' 10).i.toNat) Q .normal s' := fun s' J' => by
    rw [thenQ_n]
    refine ⟨⟨i + 1, hlt, J'⟩, ?_⟩
    rw [q10, J'.q10]
    simp [ii, AV.i]
    omega
   cases hng : (itA q i).neg with
   | true => exact law8n W w e2 hn hlt hng e2' h2 n3 J2 fin
   | false => exact law8p W w e2 hn hlt hng e2' h2 n3 J2 fin
 ·obtain rfl : i = q.items.length := by omega
  simp [evz, hdC, l8L, bodyL, tlC, Tryz.f8, q3, q10, hb3, s1, s2, ii]
  exact hQ _ ⟨J0.b.up (by simp [up]) (agree_refl _ _) fr (Nat.le_refl _), by simp [up, q7], by simp [up, q8], by simp [up, q9], by simp [up, q10]⟩
theorem law8z (w : SQ sc q) (e1 : rd dTys H sa = some sc) (e2 : deQ H (.g (qcells q qa qb qc)) = some q) (hn : Fresh n H) (e : Nat → AV) (h1 : Heap) (n2 : Nat) {m : Nat} {p : Pt} (a : CP H n sc q sa qa qb qc m p q.items.length ⟨e, h1, n2⟩) :
  awp (cz SP (pfL tbl8)) (tlC 9 (Tryz.f8.body.getD .skip)) (finQ (cz SP (pfL tbl8)) Tryz.f8 fun z _ _ => z = bv true) ⟨e, h1, n2⟩ := by
 obtain ⟨⟨⟨q2, q3, b2, b3, ag, fr, nn⟩, q5, b5, pl⟩, q7, q8, q9, q10⟩ := a
 simp only [] at q2 q3 b2 b3 ag fr nn q5 b5 pl q7 q8 q9 q10
 obtain ⟨a', b', c', e0, x1, x2, x3⟩ := deQ_out e2
 cases e0
 have hb3 : h1 (n + 1) = some ⟨[qa, .v (.int .i64 q.mode), .v (.int .i64 q.after), qb, .v (.int .i64 q.within), .v (.string q.par), qc], 0, true, 7⟩ := b3
 obtain ⟨s1, s2, s3, s4, s5⟩ := sl_is x2
 obtain ⟨t1, t2, t3, t4, t5⟩ := sl_is x3
 obtain ⟨u1, u2, u3, u4, u5⟩ := sl_is e1
 obtain ⟨a1, a2, a3, a4, a5⟩ := sl_is pl.cm
 obtain ⟨c1, c2, c3, c4, c5⟩ := sl_is pl.ng
 obtain ⟨d1, d2, d3, d4, d5⟩ := sl_is pl.rt
 obtain ⟨f1, f2, f3, f4, f5⟩ := sl_is pl.us
 obtain ⟨g1, g2, g3, g4, g5⟩ := sl_is pl.cl
 rw [plan_comps_len] at a2
 rw [plan_negs_len] at c2
 have hr : (planOf sc q).ret.length = q.ret.length := by show (q.ret.map _).length = _; rw [List.length_map]
 have hu : (planOf sc q).used.length = sc.length := by show ((List.range sc.length).map _).length = _; simp
 have hcl : (planOf sc q).cols.length = sc.length := by show ((List.range sc.length).map _).length = _; simp
 rw [hr] at d2
 rw [hu] at f2
 rw [hcl] at g2
 rw [cnt_all, conjs_roots, List.length_map] at q7
 generalize planOf sc q = P at *
 simp [evz, tlC, Tryz.f8, tbl8, q2, q3, q5, q7, q8, q9, b2, hb3, b5, pcells, ii, ss, bv, a1, a2, c1, c2]
 refine (acall_z (S := [3]) (by simp [SP]) (c35 (rd_agr hn x2 _ ag) w.q2 fr)).mono ?_
 rintro z h2 n3 ⟨k1, k2, k3, k4⟩
 obtain ⟨z1, z2, z3, z4, z5⟩ := sl_is k4
 rw [List.length_map] at z2
 have hb3' : h2 (n + 1) = _ := (k1 _ (by omega)).trans hb3
 have hb2' : h2 n = _ := (k1 _ (by omega)).trans b2
 have hb5' : h2 m = _ := (k1 _ (lt_of b5 fr)).trans b5
 simp only [pcells, ii, ss, bv] at hb5'
 simp [hb3', hb2', hb5', z1, z2, t1, t2, u1, u2, d1, d2, f1, f2, g1, g2]
theorem law8 (e1 : rd dTys H sa = some sc) (e2 : deQ H (.g (qcells q qa qb qc)) = some q) (w : SQ sc q) (hn : Fresh n H) :
  awp (cz SP (pfL tbl8)) (Tryz.f8.body.getD .skip) (finQ (cz SP (pfL tbl8)) Tryz.f8 fun z _ _ => z = bv true) ⟨env0 [.g [sa], .g (qcells q qa qb qc)], H, n⟩ := by
 refine awp_cut 3 _ _ (law8a e1 e2 w hn _ rfl rfl) fun e3 h3 n3 A => ?_
 refine awp_cut 2 _ _ (law8b e1 e2 w hn e3 h3 n3 A) fun e4 h4 n4 ⟨W, m, p, B⟩ => ?_
 refine awp_cut 3 _ _ (law8c e4 h4 n4 B) fun e5 h5 n5 ⟨B5, k7, k8, k9⟩ => ?_
 refine awp_cut 1 _ _ (R := fun s => CP H n sc q sa qa qb qc m p q.items.length s) ?_ fun e6 h6 n6 C => law8z w e1 e2 hn e6 h6 n6 C
 simp only [] at k7 k8 k9
 show awp _ (.seq (hdC 1 (hdC 1 (tlC 8 (Tryz.f8.body.getD .skip)))) (.block 0 (.loop l8L))) _ _
 rw [awp_seq]
 refine awp_mono _ (fun x s hxx => ?_) (show awp (cz SP (pfL tbl8)) (hdC 1 (hdC 1 (tlC 8 (Tryz.f8.body.getD .skip)))) (thenQ (fun s => CP H n sc q sa qa qb qc m p 0 s) fun _ _ => False) ⟨e5, h5, n5⟩ from ?_)
 ·cases x with
  | normal =>
   obtain ⟨e7, h7, n7⟩ := s
   rw [thenQ_n] at hxx
   rw [thenQ_n, awp_block]
   refine law8l W w e2 hn e7 h7 n7 hxx fun s' C => ?_
   rw [blockQ_e, if_pos rfl, thenQ_n]
   exact C
  | exit i => exact (by simp [thenQ_e] at hxx : False).elim
  | ret => exact (by simp [thenQ_r] at hxx : False).elim
 ·simp [evz, hdC, tlC, Tryz.f8]
  exact ⟨B5.up (by simp [up]) (agree_refl _ _) B5.a.fr (Nat.le_refl _), by simp [up, k7], by simp [up, k8, posI, ii], by simp [up, k9, negI, ii], by simp [up, ii]⟩
end
end Go.Proofs.YtbffkkeieihpdaaGreatDoor
