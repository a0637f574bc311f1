import Derived.Test.YtbffkkeieihpdaaGreatDoorX35
import Derived.Test.YtbffkkeieihpdaaGreatDoorX30
import Derived.Test.YtbffkkeieihpdaaGreatDoorX24
import Derived.Test.YtbffkkeieihpdaaGreatDoorX21
import Derived.Test.YtbffkkeieihpdaaGreatDoorX16
set_option linter.unusedSimpArgs false
set_option linter.unusedVariables false
set_option linter.constructorNameAsVariable false
set_option maxRecDepth 100000
set_option maxHeartbeats 4000000
namespace Go.Proofs.YtbffkkeieihpdaaGreatDoor
open Go Go.Eng
section
variable {hB : Heap} {n1 bid mid : Nat} {T : Nat → Nat} {p : Pt} {P : Pl} {f : ByteArray → Option (Bool × Nat)}
theorem b59z {t : List Nd} {h : Heap} {n : Nat} (b : BI hB n1 bid mid T h n p P f) {y : Y59} {k : Nat} (hk : k < P.comps.length) (hl : P.comps[k].conds.length ≤ 1099511627776) (hal : aloneT P.q t = false) (e : Nat → AV) (h1 : Heap) (n2 : Nat) (a : S59 bid P h n t y ⟨e, h1, n2⟩) (q7 : e 7 = bv (aloneT P.q t)) (q8 : e 8 = ii k) (q9 : e 9 = ii (eachT P.q t)) {Q}
  (hQ : ∀ s', (∃ T' p', BI hB n1 bid mid T' s'.h s'.n p' { P with comps := P.comps.set k { P.comps[k] with conds := P.comps[k].conds ++ [⟨compP P.sc (vars P.q.items) t, eachT P.q t, decide (0 < (prevT P.q t).length)⟩] } } f ∧ Mv (fun _ => True) T h n T' s'.h s'.n) → Q .normal s') :
  awp (cz [3] (pfL tp59)) (tlC 6 (Tryz.f59.body.getD .skip)) Q ⟨e, h1, n2⟩ := by
 obtain ⟨bi, V0⟩ := a.bi b
 have a0 := a
 have hpr := a.M.rd b.s
 obtain ⟨q0, q4, ag, fr, nn, ⟨q5, b5, ow, o1, o2, o3, o4, o5, o6⟩, ⟨q6, b6, ⟨om1, om2⟩, r1, r2, r3, nz⟩⟩ := a
 simp only [] at q0 q4 ag fr nn q5 b5 ow o2 bi V0 hpr q6 b6 r2 om2
 generalize hpp : compP P.sc (vars P.q.items) t = pr at *
 obtain ⟨lb, lm, nbm⟩ := bi.low
 have hbb := bi.bb
 obtain ⟨ca', la', e0, k1, k2, k3, k4, k5, k6⟩ := ow.is
 simp only [AV.g.injEq, List.cons.injEq, and_true] at e0
 obtain ⟨rfl, rfl⟩ := e0
 obtain ⟨hid, hver, ccs, hca, hT, hh, hcl, hR⟩ := bi.cm.row (by omega)
 obtain ⟨ty, owl, cnl, hrow, e2, e3, e4⟩ := hR k hk
 have hc4 := cell_of (c := 5) hrow rfl (by omega)
 have hb5 : k * 6 + 6 ≤ ccs.length := by omega
 have hb4 : k * 6 + 5 < ccs.length := by omega
 have hc4' : ∀ hx, ccs[k * 6 + 5]'hx = cnl := fun hx => by rw [List.getElem?_eq_getElem hx] at hc4; exact Option.some.inj hc4
 have hkn : ¬ (k : Int) = (P.comps.length : Int) := by omega
 obtain ⟨cs, gl, gR⟩ := e4
 have lh := lt_of hh bi.s.fr
 have x4 : ¬ bid = n2 + 1 := by omega
 have x5 : ¬ bid = n2 := by omega
 have x6 : ¬ hid = n2 + 1 := by omega
 have x7 : ¬ hid = n2 := by omega
 have hm5 : T y.m5 = 0 := b.s.tn _ o1
 have w1 : ¬ bid = y.m5 := fun e => by rw [← e, bi.s.tb] at hm5; cases hm5
 have w2 : ¬ y.m5 = n2 := by omega
 have w3 : ¬ y.m5 = n2 + 1 := by omega
 obtain ⟨t1, t2, t3, t4, t5⟩ := sl_is r2
 have t2' : y.a2.slen = (prevT P.q t).length := t2
 have hm6 : T y.m6 = 0 := b.s.tn _ om1
 have u1 : ¬ y.m6 = n2 := by omega
 have u2 : ¬ y.m6 = n2 + 1 := by omega
 have u3 : ¬ y.m6 = hid := fun e => by rw [e, hT] at hm6; cases hm6
 have hcd : ∀ hh : Heap, (still T h1).sim hh → dCdg.run hh [y.ca, y.la, ii (eachT P.q t), bv (decide (0 < (prevT P.q t).length))] = some ⟨pr, eachT P.q t, decide (0 < (prevT P.q t).length)⟩ := fun hh hs => deCdc_in (x := ⟨pr, eachT P.q t, decide (0 < (prevT P.q t).length)⟩) (dePr_sim hs hpr)
 have hdec : (decide ((0 : Int) < ((prevT P.q t).length : Int))) = decide (0 < (prevT P.q t).length) := by simp
 have w4 : ¬ hid = y.m5 := fun e => by rw [← e, hT] at hm5; cases hm5
 have w5 : ¬ hid = bid := fun e => by rw [e, bi.s.tb] at hT; cases hT
 have w6 : ¬ bid = hid := fun e => w5 e.symm
 rw [hal] at q7
 rcases gl.at with ⟨ga, g0, rfl⟩ | ⟨id, ver, ga, gT, gh⟩
 ·simp [evz, tlC, Tryz.f59, q4, q5, q6, q7, q8, q9, b5, b6, t1, t2', hbb, bcells, ii, ss, bv, hca, hh, hc4', hb4, hb5, hk, hkn, ga, x6, x7, k1, k2, tp59]
  have V := Mv.thr_new (n' := n2 + 3) (k := 17 + 4 * k) bi.s.tn bi.s.fr hT (by omega) lh ⟨[y.ca, y.la, ii (eachT P.q t), bv (decide (0 < (prevT P.q t).length))], 0, true, 4⟩ ⟨[y.ca, y.la, ii (eachT P.q t), bv (decide (0 < (prevT P.q t).length))], 0, true, 4⟩ ⟨ccs.set (k * 6 + 5) (.s (n2 + 1) 0 0 1), hver, true, 6⟩ (by omega)
  refine ⟨fun _ => keepL_up rfl fun t ht => ?_, last_no (by kernel_rfl), hQ _ ⟨fun i => if i = n2 + 1 then 17 + 4 * k else T i, p, bi.cmcond hk hca hT hh hcl hR V (up_same _ _ _) ?_, V0.trans V (fun _ _ => trivial) fun _ _ => trivial⟩⟩
  ·simp [ldSlots] at ht
   rcases ht with rfl | rfl | rfl | rfl | rfl
   ·exact ⟨bid, 0, _, by simp [up]; rfl, by omega⟩
   ·exact ⟨bid, 0, _, by simp [up]; rfl, by omega⟩
   ·exact ⟨hid, hver, _, by simp [up]; rfl, by omega⟩
   ·exact ⟨y.m5, 0, 0, by simp [up, q5], by omega⟩
   ·exact ⟨y.m6, 0, 1, by simp [up], by omega⟩
  ·have hne : P.comps[k].conds = [] := List.length_eq_zero_iff.1 g0
   rw [hne]
   exact LR.app (xs := []) (cs := []) (ns := [y.ca, y.la, ii (eachT P.q t), bv (decide (0 < (prevT P.q t).length))]) (by simp) (by rfl) (if_pos rfl) (by simp only []; rw [up_ne _ _ (Ne.symm x6), up_same]; rfl) (fun i hi => by simp at hi) (hcd _ (V.still bi.s.fr).sim)
 ·have y1 : ¬ id = n2 := by have := lt_of gh bi.s.fr; omega
  have y2 : ¬ id = n2 + 1 := by have := lt_of gh bi.s.fr; omega
  have y3 : ¬ id = hid := fun e => by rw [e, hT] at gT; omega
  have y4 : ¬ hid = id := fun e => y3 e.symm
  have y5 : ¬ y.m5 = id := fun e => by rw [← e, hm5] at gT; omega
  have y7 : ¬ y.m6 = id := fun e => by rw [← e, hm6] at gT; omega
  have y6 : ¬ bid = id := fun e => by rw [← e, bi.s.tb] at gT; omega
  have hcl2 := gl.1
  simp [evz, tlC, Tryz.f59, q4, q5, q6, q7, q8, q9, b5, b6, t1, t2', hbb, bcells, ii, ss, bv, hca, hh, hc4', hb4, hb5, hk, hkn, ga, gh, x6, x7, k1, k2, tp59, y1, y4, hcl2]
  have V1 := Mv.thr_old (n' := n2 + 3) (k := 17 + 4 * k) bi.s.tn bi.s.fr hT (by omega) lh (by omega) gT (lt_of gh bi.s.fr) ⟨[y.ca, y.la, ii (eachT P.q t), bv (decide (0 < (prevT P.q t).length))], 0, true, 4⟩ ⟨cs ++ [y.ca, y.la, ii (eachT P.q t), bv (decide (0 < (prevT P.q t).length))], ver, true, 4⟩ ⟨ccs.set (k * 6 + 5) (.s id ver 0 (P.comps[k].conds.length + 1)), hver, true, 6⟩ (by omega)
  have V2 := Mv.thr_new (n' := n2 + 3) (k := 17 + 4 * k) bi.s.tn bi.s.fr hT (by omega) lh ⟨[y.ca, y.la, ii (eachT P.q t), bv (decide (0 < (prevT P.q t).length))], 0, true, 4⟩ ⟨cs ++ [y.ca, y.la, ii (eachT P.q t), bv (decide (0 < (prevT P.q t).length))], 0, true, 4⟩ ⟨ccs.set (k * 6 + 5) (.s (n2 + 1) 0 0 (P.comps[k].conds.length + 1)), hver, true, 6⟩ (by omega)
  refine ⟨⟨by omega, by omega⟩, ⟨fun _ => keepL_up rfl fun t ht => ?_, last_no (by kernel_rfl), hQ _ ⟨T, p, bi.cmcond hk hca hT hh hcl hR V1 (up_same _ _ _) ?_, V0.trans V1 (fun _ _ => trivial) fun _ _ => trivial⟩⟩, fun _ => keepL_up rfl fun t ht => ?_, last_no (by kernel_rfl), hQ _ ⟨fun i => if i = n2 + 1 then 17 + 4 * k else T i, p, bi.cmcond hk hca hT hh hcl hR V2 (up_same _ _ _) ?_, V0.trans V2 (fun _ _ => trivial) fun _ _ => trivial⟩⟩
  ·simp [ldSlots] at ht
   rcases ht with rfl | rfl | rfl | rfl | rfl
   ·exact ⟨bid, 0, _, by simp [up]; rfl, by omega⟩
   ·exact ⟨bid, 0, _, by simp [up]; rfl, by omega⟩
   ·exact ⟨hid, hver, _, by simp [up]; rfl, by omega⟩
   ·exact ⟨y.m5, 0, 0, by simp [up, q5], by omega⟩
   ·exact ⟨y.m6, 0, 1, by simp [up], by omega⟩
  ·exact LR.app (cs := cs) (ns := [y.ca, y.la, ii (eachT P.q t), bv (decide (0 < (prevT P.q t).length))]) gl.1 (by rfl) gT (by simp only []; rw [up_ne _ _ y3, up_same]; rfl) (fun i hi => dCdg.mono (V1.still bi.s.fr) (gR i hi)) (hcd _ (V1.still bi.s.fr).sim)
  ·simp [ldSlots] at ht
   rcases ht with rfl | rfl | rfl | rfl | rfl
   ·exact ⟨bid, 0, _, by simp [up]; rfl, by omega⟩
   ·exact ⟨bid, 0, _, by simp [up]; rfl, by omega⟩
   ·exact ⟨hid, hver, _, by simp [up]; rfl, by omega⟩
   ·exact ⟨y.m5, 0, 0, by simp [up, q5], by omega⟩
   ·exact ⟨y.m6, 0, 1, by simp [up], by omega⟩
  ·exact LR.app (cs := cs) (ns := [y.ca, y.la, ii (eachT P.q t), bv (decide (0 < (prevT P.q t).length))]) gl.1 (by rfl) (if_pos rfl) (by simp only []; rw [up_ne _ _ (Ne.symm x6), up_same]; rfl) (fun i hi => dCdg.mono (V2.still bi.s.fr) (gR i hi)) (hcd _ (V2.still bi.s.fr).sim)
end
end Go.Proofs.YtbffkkeieihpdaaGreatDoor

namespace Go.Proofs.YtbffkkeieihpdaaGreatDoor
open Go Go.Eng
section
variable {hB : Heap} {n1 bid mid : Nat} {T : Nat → Nat} {p : Pt} {P : Pl} {f : ByteArray → Option (Bool × Nat)}
theorem b59n {t : List Nd} {h : Heap} {n : Nat} (b : BI hB n1 bid mid T h n p P f) {y : Y59} {k : Nat} (hk : k < P.negs.length) (hl : P.negs[k].own.length ≤ 1099511627776) (hal : aloneT P.q t = true) (e : Nat → AV) (h1 : Heap) (n2 : Nat) (a : S59 bid P h n t y ⟨e, h1, n2⟩) (q7 : e 7 = bv (aloneT P.q t)) {it : It} {i : Int} {w : Bool × Nat} {m12 m13 : Nat} {ty : AV} (hw : w.1 = true) (hw2 : w.2 = k) (r : R59 it i w m12 m13 ty ⟨e, h1, n2⟩) {Q}
  (hQ : ∀ s', (∃ T' p', BI hB n1 bid mid T' s'.h s'.n p' { P with negs := P.negs.set k { P.negs[k] with own := P.negs[k].own ++ [compP P.sc (vars P.q.items) t] } } f ∧ Mv (fun _ => True) T h n T' s'.h s'.n) → Q .ret s') :
  awp (cz [3] (pfL tp59)) (tlC 3 c59B) Q ⟨e, h1, n2⟩ := by
 obtain ⟨bi, V0⟩ := a.bi b
 have a0 := a
 have hpr := a.M.rd b.s
 obtain ⟨q0, q4, ag, fr, nn, ⟨q5, b5, ow, o1, o2, o3, o4, o5, o6⟩, U⟩ := a
 simp only [] at q0 q4 ag fr nn q5 b5 ow o2 bi V0 hpr
 generalize hpp : compP P.sc (vars P.q.items) t = pr at *
 obtain ⟨lb, lm, nbm⟩ := bi.low
 have hbb := bi.bb
 obtain ⟨ca', la', e0, k1, k2, k3, k4, k5, k6⟩ := ow.is
 simp only [AV.g.injEq, List.cons.injEq, and_true] at e0
 obtain ⟨rfl, rfl⟩ := e0
 obtain ⟨hid, hver, ccs, hca, hT, hh, hcl, hR⟩ := bi.ng.row (by omega)
 obtain ⟨ty, owl, cnl, hrow, e2, e3, e4⟩ := hR k hk
 have hc4 := cell_of (c := 4) hrow rfl (by omega)
 have hb5 : k * 6 + 5 ≤ ccs.length := by omega
 have hb4 : k * 6 + 4 < ccs.length := by omega
 have hc4' : ∀ hx, ccs[k * 6 + 4]'hx = owl := fun hx => by rw [List.getElem?_eq_getElem hx] at hc4; exact Option.some.inj hc4
 obtain ⟨_, _, _, q13, b13⟩ := r
 simp only [] at q13 b13
 rw [hw, hw2] at b13
 have hca2 := hca
 obtain ⟨cs, gl, gR⟩ := e3
 have lh := lt_of hh bi.s.fr
 have x4 : ¬ bid = n2 + 1 := by omega
 have x5 : ¬ bid = n2 := by omega
 have x6 : ¬ hid = n2 + 1 := by omega
 have x7 : ¬ hid = n2 := by omega
 have hm5 : T y.m5 = 0 := b.s.tn _ o1
 have w1 : ¬ bid = y.m5 := fun e => by rw [← e, bi.s.tb] at hm5; cases hm5
 have w2 : ¬ y.m5 = n2 := by omega
 have w3 : ¬ y.m5 = n2 + 1 := by omega
 have w4 : ¬ hid = y.m5 := fun e => by rw [← e, hT] at hm5; cases hm5
 have w5 : ¬ hid = bid := fun e => by rw [e, bi.s.tb] at hT; omega
 have w6 : ¬ bid = hid := fun e => w5 e.symm
 rw [hal] at q7
 rcases gl.at with ⟨ga, g0, rfl⟩ | ⟨id, ver, ga, gT, gh⟩
 ·simp [evz, c59B, c59L, inB, bodyL, hdC, tlC, Tryz.f59, q4, q5, q7, q13, b13, b5, hbb, bcells, ii, ss, bv, hca, hh, hc4', hb4, hb5, hk, ga, x6, x7, k1, k2, tp59]
  have V := Mv.thr_new (n' := n2 + 3) (k := 18 + 4 * k) bi.s.tn bi.s.fr hT (by omega) lh ⟨[y.ca, y.la], 0, true, 2⟩ ⟨[y.ca, y.la], 0, true, 2⟩ ⟨ccs.set (k * 6 + 4) (.s (n2 + 1) 0 0 1), hver, true, 6⟩ (by omega)
  refine ⟨fun _ => keepL_up rfl fun t ht => ?_, last_no (by kernel_rfl), hQ _ ⟨fun i => if i = n2 + 1 then 18 + 4 * k else T i, p, bi.ngown hk hca hT hh hcl hR V (up_same _ _ _) ?_, V0.trans V (fun _ _ => trivial) fun _ _ => trivial⟩⟩
  ·simp [ldSlots] at ht
   rcases ht with rfl | rfl
   ·exact ⟨hid, hver, _, by simp [up]; rfl, by omega⟩
   ·exact ⟨y.m5, 0, 0, by simp [up, q5], by omega⟩
  ·have hne : P.negs[k].own = [] := List.length_eq_zero_iff.1 g0
   rw [hne]
   exact LR.app (xs := []) (cs := []) (ns := [y.ca, y.la]) (by simp) (by rfl) (if_pos rfl) (by simp only []; rw [up_ne _ _ (Ne.symm x6), up_same]; rfl) (fun i hi => by simp at hi) (dPrg.mono (V.still bi.s.fr) hpr)
 ·have y1 : ¬ id = n2 := by have := lt_of gh bi.s.fr; omega
  have y2 : ¬ id = n2 + 1 := by have := lt_of gh bi.s.fr; omega
  have y3 : ¬ id = hid := fun e => by rw [e, hT] at gT; omega
  have y4 : ¬ hid = id := fun e => y3 e.symm
  have y5 : ¬ y.m5 = id := fun e => by rw [← e, hm5] at gT; omega
  have y6 : ¬ bid = id := fun e => by rw [← e, bi.s.tb] at gT; omega
  have hcl2 := gl.1
  simp [evz, c59B, c59L, inB, bodyL, hdC, tlC, Tryz.f59, q4, q5, q7, q13, b13, b5, hbb, bcells, ii, ss, bv, hca, hh, hc4', hb4, hb5, hk, ga, gh, x6, x7, k1, k2, tp59, y1, y4, hcl2]
  have V1 := Mv.thr_old (n' := n2 + 3) (k := 18 + 4 * k) bi.s.tn bi.s.fr hT (by omega) lh (by omega) gT (lt_of gh bi.s.fr) ⟨[y.ca, y.la], 0, true, 2⟩ ⟨cs ++ [y.ca, y.la], ver, true, 2⟩ ⟨ccs.set (k * 6 + 4) (.s id ver 0 (P.negs[k].own.length + 1)), hver, true, 6⟩ (by omega)
  have V2 := Mv.thr_new (n' := n2 + 3) (k := 18 + 4 * k) bi.s.tn bi.s.fr hT (by omega) lh ⟨[y.ca, y.la], 0, true, 2⟩ ⟨cs ++ [y.ca, y.la], 0, true, 2⟩ ⟨ccs.set (k * 6 + 4) (.s (n2 + 1) 0 0 (P.negs[k].own.length + 1)), hver, true, 6⟩ (by omega)
  refine ⟨⟨by omega, by omega⟩, ⟨fun _ => keepL_up rfl fun t ht => ?_, last_no (by kernel_rfl), hQ _ ⟨T, p, bi.ngown hk hca hT hh hcl hR V1 (up_same _ _ _) ?_, V0.trans V1 (fun _ _ => trivial) fun _ _ => trivial⟩⟩, fun _ => keepL_up rfl fun t ht => ?_, last_no (by kernel_rfl), hQ _ ⟨fun i => if i = n2 + 1 then 18 + 4 * k else T i, p, bi.ngown hk hca hT hh hcl hR V2 (up_same _ _ _) ?_, V0.trans V2 (fun _ _ => trivial) fun _ _ => trivial⟩⟩
  ·simp [ldSlots] at ht
   rcases ht with rfl | rfl
   ·exact ⟨hid, hver, _, by simp [up]; rfl, by omega⟩
   ·exact ⟨y.m5, 0, 0, by simp [up, q5], by omega⟩
  ·exact LR.app (cs := cs) (ns := [y.ca, y.la]) gl.1 (by rfl) gT (by simp only []; rw [up_ne _ _ y3, up_same]) (fun i hi => dPrg.mono (V1.still bi.s.fr) (gR i hi)) (dPrg.mono (V1.still bi.s.fr) hpr)
  ·simp [ldSlots] at ht
   rcases ht with rfl | rfl
   ·exact ⟨hid, hver, _, by simp [up]; rfl, by omega⟩
   ·exact ⟨y.m5, 0, 0, by simp [up, q5], by omega⟩
  ·exact LR.app (cs := cs) (ns := [y.ca, y.la]) gl.1 (by rfl) (if_pos rfl) (by simp only []; rw [up_ne _ _ (Ne.symm x6), up_same]) (fun i hi => dPrg.mono (V2.still bi.s.fr) (gR i hi)) (dPrg.mono (V2.still bi.s.fr) hpr)
end
end Go.Proofs.YtbffkkeieihpdaaGreatDoor

namespace Go.Proofs.YtbffkkeieihpdaaGreatDoor
open Go Go.Eng
section
variable {hB : Heap} {n1 bid mid : Nat} {T : Nat → Nat} {p : Pt} {P : Pl} {f : ByteArray → Option (Bool × Nat)}
theorem b59r {t : List Nd} {h : Heap} {n : Nat} (b : BI hB n1 bid mid T h n p P f) {y : Y59} {k : Nat} (hk : k < P.negs.length) (hl : P.negs[k].rest.length ≤ 1099511627776) (hal : aloneT P.q t = false) (e : Nat → AV) (h1 : Heap) (n2 : Nat) (a : S59 bid P h n t y ⟨e, h1, n2⟩) (q7 : e 7 = bv (aloneT P.q t)) {it : It} {i : Int} {w : Bool × Nat} {m12 m13 : Nat} {ty : AV} (hw : w.1 = true) (hw2 : w.2 = k) (r : R59 it i w m12 m13 ty ⟨e, h1, n2⟩) {Q}
  (hQ : ∀ s', (∃ T' p', BI hB n1 bid mid T' s'.h s'.n p' { P with negs := P.negs.set k { P.negs[k] with rest := P.negs[k].rest ++ [compP P.sc (vars P.q.items) t] } } f ∧ Mv (fun _ => True) T h n T' s'.h s'.n) → Q .ret s') :
  awp (cz [3] (pfL tp59)) (tlC 3 c59B) Q ⟨e, h1, n2⟩ := by
 obtain ⟨bi, V0⟩ := a.bi b
 have a0 := a
 have hpr := a.M.rd b.s
 obtain ⟨q0, q4, ag, fr, nn, ⟨q5, b5, ow, o1, o2, o3, o4, o5, o6⟩, U⟩ := a
 simp only [] at q0 q4 ag fr nn q5 b5 ow o2 bi V0 hpr
 generalize hpp : compP P.sc (vars P.q.items) t = pr at *
 obtain ⟨lb, lm, nbm⟩ := bi.low
 have hbb := bi.bb
 obtain ⟨ca', la', e0, k1, k2, k3, k4, k5, k6⟩ := ow.is
 simp only [AV.g.injEq, List.cons.injEq, and_true] at e0
 obtain ⟨rfl, rfl⟩ := e0
 obtain ⟨hid, hver, ccs, hca, hT, hh, hcl, hR⟩ := bi.ng.row (by omega)
 obtain ⟨ty, owl, cnl, hrow, e2, e3, e4⟩ := hR k hk
 have hc4 := cell_of (c := 5) hrow rfl (by omega)
 have hb5 : k * 6 + 6 ≤ ccs.length := by omega
 have hb4 : k * 6 + 5 < ccs.length := by omega
 have hc4' : ∀ hx, ccs[k * 6 + 5]'hx = cnl := fun hx => by rw [List.getElem?_eq_getElem hx] at hc4; exact Option.some.inj hc4
 obtain ⟨_, _, _, q13, b13⟩ := r
 simp only [] at q13 b13
 rw [hw, hw2] at b13
 have hca2 := hca
 obtain ⟨cs, gl, gR⟩ := e4
 have lh := lt_of hh bi.s.fr
 have x4 : ¬ bid = n2 + 1 := by omega
 have x5 : ¬ bid = n2 := by omega
 have x6 : ¬ hid = n2 + 1 := by omega
 have x7 : ¬ hid = n2 := by omega
 have hm5 : T y.m5 = 0 := b.s.tn _ o1
 have w1 : ¬ bid = y.m5 := fun e => by rw [← e, bi.s.tb] at hm5; cases hm5
 have w2 : ¬ y.m5 = n2 := by omega
 have w3 : ¬ y.m5 = n2 + 1 := by omega
 have w4 : ¬ hid = y.m5 := fun e => by rw [← e, hT] at hm5; cases hm5
 have w5 : ¬ hid = bid := fun e => by rw [e, bi.s.tb] at hT; omega
 have w6 : ¬ bid = hid := fun e => w5 e.symm
 rw [hal] at q7
 rcases gl.at with ⟨ga, g0, rfl⟩ | ⟨id, ver, ga, gT, gh⟩
 ·simp [evz, c59B, c59L, inB, bodyL, hdC, tlC, Tryz.f59, q4, q5, q7, q13, b13, b5, hbb, bcells, ii, ss, bv, hca, hh, hc4', hb4, hb5, hk, ga, x6, x7, k1, k2, tp59]
  have V := Mv.thr_new (n' := n2 + 3) (k := 19 + 4 * k) bi.s.tn bi.s.fr hT (by omega) lh ⟨[y.ca, y.la], 0, true, 2⟩ ⟨[y.ca, y.la], 0, true, 2⟩ ⟨ccs.set (k * 6 + 5) (.s (n2 + 1) 0 0 1), hver, true, 6⟩ (by omega)
  refine ⟨fun _ => keepL_up rfl fun t ht => ?_, last_no (by kernel_rfl), hQ _ ⟨fun i => if i = n2 + 1 then 19 + 4 * k else T i, p, bi.ngrest hk hca hT hh hcl hR V (up_same _ _ _) ?_, V0.trans V (fun _ _ => trivial) fun _ _ => trivial⟩⟩
  ·simp [ldSlots] at ht
   rcases ht with rfl | rfl
   ·exact ⟨hid, hver, _, by simp [up]; rfl, by omega⟩
   ·exact ⟨y.m5, 0, 0, by simp [up, q5], by omega⟩
  ·have hne : P.negs[k].rest = [] := List.length_eq_zero_iff.1 g0
   rw [hne]
   exact LR.app (xs := []) (cs := []) (ns := [y.ca, y.la]) (by simp) (by rfl) (if_pos rfl) (by simp only []; rw [up_ne _ _ (Ne.symm x6), up_same]; rfl) (fun i hi => by simp at hi) (dPrg.mono (V.still bi.s.fr) hpr)
 ·have y1 : ¬ id = n2 := by have := lt_of gh bi.s.fr; omega
  have y2 : ¬ id = n2 + 1 := by have := lt_of gh bi.s.fr; omega
  have y3 : ¬ id = hid := fun e => by rw [e, hT] at gT; omega
  have y4 : ¬ hid = id := fun e => y3 e.symm
  have y5 : ¬ y.m5 = id := fun e => by rw [← e, hm5] at gT; omega
  have y6 : ¬ bid = id := fun e => by rw [← e, bi.s.tb] at gT; omega
  have hcl2 := gl.1
  simp [evz, c59B, c59L, inB, bodyL, hdC, tlC, Tryz.f59, q4, q5, q7, q13, b13, b5, hbb, bcells, ii, ss, bv, hca, hh, hc4', hb4, hb5, hk, ga, gh, x6, x7, k1, k2, tp59, y1, y4, hcl2]
  have V1 := Mv.thr_old (n' := n2 + 3) (k := 19 + 4 * k) bi.s.tn bi.s.fr hT (by omega) lh (by omega) gT (lt_of gh bi.s.fr) ⟨[y.ca, y.la], 0, true, 2⟩ ⟨cs ++ [y.ca, y.la], ver, true, 2⟩ ⟨ccs.set (k * 6 + 5) (.s id ver 0 (P.negs[k].rest.length + 1)), hver, true, 6⟩ (by omega)
  have V2 := Mv.thr_new (n' := n2 + 3) (k := 19 + 4 * k) bi.s.tn bi.s.fr hT (by omega) lh ⟨[y.ca, y.la], 0, true, 2⟩ ⟨cs ++ [y.ca, y.la], 0, true, 2⟩ ⟨ccs.set (k * 6 + 5) (.s (n2 + 1) 0 0 (P.negs[k].rest.length + 1)), hver, true, 6⟩ (by omega)
  refine ⟨⟨by omega, by omega⟩, ⟨fun _ => keepL_up rfl fun t ht => ?_, last_no (by kernel_rfl), hQ _ ⟨T, p, bi.ngrest hk hca hT hh hcl hR V1 (up_same _ _ _) ?_, V0.trans V1 (fun _ _ => trivial) fun _ _ => trivial⟩⟩, fun _ => keepL_up rfl fun t ht => ?_, last_no (by kernel_rfl), hQ _ ⟨fun i => if i = n2 + 1 then 19 + 4 * k else T i, p, bi.ngrest hk hca hT hh hcl hR V2 (up_same _ _ _) ?_, V0.trans V2 (fun _ _ => trivial) fun _ _ => trivial⟩⟩
  ·simp [ldSlots] at ht
   rcases ht with rfl | rfl
   ·exact ⟨hid, hver, _, by simp [up]; rfl, by omega⟩
   ·exact ⟨y.m5, 0, 0, by simp [up, q5], by omega⟩
  ·exact LR.app (cs := cs) (ns := [y.ca, y.la]) gl.1 (by rfl) gT (by simp only []; rw [up_ne _ _ y3, up_same]) (fun i hi => dPrg.mono (V1.still bi.s.fr) (gR i hi)) (dPrg.mono (V1.still bi.s.fr) hpr)
  ·simp [ldSlots] at ht
   rcases ht with rfl | rfl
   ·exact ⟨hid, hver, _, by simp [up]; rfl, by omega⟩
   ·exact ⟨y.m5, 0, 0, by simp [up, q5], by omega⟩
  ·exact LR.app (cs := cs) (ns := [y.ca, y.la]) gl.1 (by rfl) (if_pos rfl) (by simp only []; rw [up_ne _ _ (Ne.symm x6), up_same]) (fun i hi => dPrg.mono (V2.still bi.s.fr) (gR i hi)) (dPrg.mono (V2.still bi.s.fr) hpr)
end
end Go.Proofs.YtbffkkeieihpdaaGreatDoor

namespace Go.Proofs.YtbffkkeieihpdaaGreatDoor
open Go Go.Eng
theorem find_none {α : Type} {p : α → Bool} {l : List α} (h : ∀ x ∈ l, p x = false) : l.find? p = none := List.find?_eq_none.2 fun x hx => by rw [h x hx]; simp
theorem find_at {α : Type} {p : α → Bool} {l : List α} {j : Nat} (hj : j < l.length) (h : ∀ x ∈ l.take j, p x = false) (hp : p l[j] = true) : l.find? p = some l[j] := by
 have e : l = l.take j ++ l[j] :: l.drop (j + 1) := by rw [List.getElem_cons_drop, List.take_append_drop]
 have h1 : (l.take j ++ l[j] :: l.drop (j + 1)).find? p = some l[j] := by
  rw [List.find?_append, find_none h, Option.none_or, List.find?_cons_of_pos hp]
 rw [← e] at h1
 exact h1
def E59 (hB : Heap) (n1 bid mid : Nat) (sc : List Ty) (q : Qu) (l : List (List Nd)) (T : Nat → Nat) (h : Heap) (n : Nat) (h' : Heap) (n' : Nat) : Prop :=
 ∃ T' p', BI hB n1 bid mid T' h' n' p' (plC sc q l) (slF q q.items.length) ∧ Mv (fun _ => True) T h n T' h' n'
section
variable {hB : Heap} {n1 bid mid : Nat} {sc : List Ty} {q : Qu} {l : List (List Nd)} {t : List Nd} {T : Nat → Nat} {p : Pt} {h : Heap} {n : Nat}
theorem plC_comps_len : (plC sc q l).comps.length = (posI q q.items.length).length := by simp [plC, cmpsOf]
theorem ownL_len (i : Int) : (ownL sc q l i).length ≤ l.length := by simp only [ownL, List.length_map]; exact List.length_filter_le _ _
theorem restL_len (i : Int) : (restL sc q l i).length ≤ l.length := by simp only [restL, List.length_map]; exact List.length_filter_le _ _
theorem condL_len (i : Int) : (condL sc q l i).length ≤ l.length := by simp only [condL, List.length_map]; exact List.length_filter_le _ _
theorem fixL_len : (fixL sc q l).length ≤ l.length := by simp only [fixL, List.length_map]; exact List.length_filter_le _ _
theorem comp_own_len {k : Nat} (hk : k < (plC sc q l).comps.length) : (plC sc q l).comps[k].own.length ≤ l.length := by
 simp only [plC, cmpsOf, List.getElem_map, cmpOf]; exact ownL_len _
theorem comp_cond_len {k : Nat} (hk : k < (plC sc q l).comps.length) : (plC sc q l).comps[k].conds.length ≤ l.length := by
 simp only [plC, cmpsOf, List.getElem_map, cmpOf]; exact condL_len _
theorem neg_own_len {k : Nat} (hk : k < (plC sc q l).negs.length) : (plC sc q l).negs[k].own.length ≤ l.length := by
 simp only [plC, ngsOf, List.getElem_map, ngOf]; exact ownL_len _
theorem neg_rest_len {k : Nat} (hk : k < (plC sc q l).negs.length) : (plC sc q l).negs[k].rest.length ≤ l.length := by
 simp only [plC, ngsOf, List.getElem_map, ngOf]; exact restL_len _
theorem b59s (b : BI hB n1 bid mid T h n p (plC sc q l) (slF q q.items.length)) (hll : l.length ≤ 1099511627776) {y : Y59} {id ver j : Nat} (e : Nat → AV) (h1 : Heap) (n2 : Nat) (a : K59 bid (plC sc q l) h n t y id ver j j ⟨e, h1, n2⟩) (hj : j = (mentL q t).length) {Q}
  (hQ : ∀ s', E59 hB n1 bid mid sc q (l ++ [t]) T h n s'.h s'.n → Q .normal s') :
  awp (cz [3] (pfL tp59)) (tlC 6 (Tryz.f59.body.getD .skip)) Q ⟨e, h1, n2⟩ := by
 obtain ⟨a0, q7, q8, q9, _, _, _, _, ps⟩ := a
 replace q7 : e 7 = bv (aloneT q t) := q7
 replace q8 : e 8 = ii (lsL q ((mentL q t).take j)) := q8
 replace q9 : e 9 = ii (chL q t ((mentL q t).take j)) := q9
 replace ps : ∀ i ∈ (mentL q t).take j, ngQ q i = false := ps
 have hno : (mentL q t).find? (ngQ q) = none := find_none fun x hx => ps x (by rw [hj]; rw [List.take_length]; exact hx)
 rw [hj, List.take_length] at q8 q9
 have hle := lsL_le (q := q) (mentL q t)
 by_cases hlt : lsL q (mentL q t) < (posI q q.items.length).length
 ·have hk : lsL q (mentL q t) < (plC sc q l).comps.length := by rw [plC_comps_len]; exact hlt
  have hp := plC_pos (sc := sc) (l := l) hno hlt _ (List.getElem?_eq_getElem hk)
  cases hal : aloneT q t with
  | true =>
   rw [hal, if_pos rfl] at hp
   exact b59y b hk (Nat.le_trans (comp_own_len hk) hll) hal e h1 n2 a0 q7 q8 fun s' ⟨T', p', b', V⟩ => hQ s' ⟨T', p', by rw [hp]; exact b', V⟩
  | false =>
   rw [hal, if_neg (by simp)] at hp
   exact b59z b hk (Nat.le_trans (comp_cond_len hk) hll) hal e h1 n2 a0 q7 q8 q9 fun s' ⟨T', p', b', V⟩ => hQ s' ⟨T', p', by rw [hp]; exact b', V⟩
 ·have hp := plC_fix (sc := sc) (l := l) hno hlt
  exact b59x b (Nat.le_trans fixL_len hll) e h1 n2 a0 (by rw [q8, plC_comps_len]; congr 2; congr 1; omega) fun s' ⟨T', p', b', V⟩ => hQ s' ⟨T', p', by rw [hp]; exact b', V⟩
theorem b59l (hx : ∀ i, i < q.items.length → ixOf (vars q.items) (itA q i).var = i) (hq : q.items.length < big) (hlb : (usesL bareO (vars q.items) t).length ≤ 1099511627776) (hla : (usesL aggO (vars q.items) t).length ≤ 1099511627776) (hll : l.length ≤ 1099511627776)
  (b : BI hB n1 bid mid T h n p (plC sc q l) (slF q q.items.length)) {y : Y59} {id ver : Nat} (e : Nat → AV) (h1 : Heap) (n2 : Nat) (a : K59 bid (plC sc q l) h n t y id ver 0 0 ⟨e, h1, n2⟩) {Q}
  (hN : ∀ e' h' n', K59 bid (plC sc q l) h n t y id ver (mentL q t).length (mentL q t).length ⟨e', h', n'⟩ → Q (.exit 0) ⟨e', h', n'⟩)
  (hQ : ∀ s', E59 hB n1 bid mid sc q (l ++ [t]) T h n s'.h s'.n → Q .ret s') :
  awp (cz [3] (pfL tp59)) (.loop c59L) Q ⟨e, h1, n2⟩ := by
 refine awp_loop (fun s => ∃ j, j ≤ (mentL q t).length ∧ K59 bid (plC sc q l) h n t y id ver j j s) (fun s => (mentL q t).length - (s.e 62).i.toNat) ⟨0, Nat.zero_le _, a⟩ ?_
 rintro e' h' n' ⟨j, hj, J⟩
 have hml : (mentL q t).length < big := by
  have : mentL q t = usesL bareO (vars q.items) t ++ usesL aggO (vars q.items) t := rfl
  rw [this, List.length_append]; unfold big; omega
 have J0 := J
 have q61 := J.q61
 have q62 := J.q62
 replace q61 : e' 61 = ii (mentL q t).length := q61
 simp only [] at q62
 by_cases hlt : j < (mentL q t).length
 ·refine awp_cut 2 _ _ (R := fun s => K59 bid (plC sc q l) h n t y id ver j j s ∧ s.e 62 = ii j) ?_ fun e2 h2 n2' ⟨J2, z62⟩ => ?_
  ·simp [evz, hdC, tlC, c59L, bodyL, Tryz.f59, q61, q62, ii, hlt]
   exact J0.up (by simp [up]) (agree_refl _ _) J0.a.fr (Nat.le_refl _)
  ·show awp _ (.seq (.block 1 c59B) (tlC 3 c59L)) _ _
   rw [awp_seq, awp_block]
   obtain ⟨hi0, hi⟩ := ment_lt (List.getElem_mem hlt)
   have hsl := slF_at hx hi (Nat.le_refl q.items.length)
   refine awp_cut 3 _ _ (b59e (P := plC sc q l) b hlt hsl e2 h2 n2' J2) fun e3 h3 n3 ⟨J3, m12, m13, ty, R⟩ => ?_
   cases hng : (itA q (mentL q t)[j].toNat).neg with
   | true =>
    have hfd := find_at (p := ngQ q) hlt J.ps hng
    obtain ⟨hk, hp⟩ := plC_neg (sc := sc) (l := l) hfd
    have hp := hp _ (List.getElem?_eq_getElem hk)
    cases hal : aloneT q t with
    | true =>
     rw [hal, if_pos rfl] at hp
     refine b59n (P := plC sc q l) b hk (Nat.le_trans (neg_own_len hk) hll) hal e3 h3 n3 J3.a J3.q7 hng (by simp only [hng, if_true]) R fun s' ⟨T', p', b', V⟩ => ?_
     exact hQ s' ⟨T', p', by rw [hp]; exact b', V⟩
    | false =>
     rw [hal, if_neg (by simp)] at hp
     refine b59r (P := plC sc q l) b hk (Nat.le_trans (neg_rest_len hk) hll) hal e3 h3 n3 J3.a J3.q7 hng (by simp only [hng, if_true]) R fun s' ⟨T', p', b', V⟩ => ?_
     exact hQ s' ⟨T', p', by rw [hp]; exact b', V⟩
   | false =>
    refine awp_mono _ (fun x s hx => ?_) (b59f (P := plC sc q l) (Q := fun _ _ => False) (show (usesL bareO (vars q.items) t).length < big by unfold big; omega) hlt hng (by simp only [hng, Bool.false_eq_true, if_false]; rfl) hng e3 h3 n3 J3 R)
    cases x with
    | normal =>
     obtain ⟨e4, h4, n4⟩ := s
     rw [thenQ_n] at hx
     rw [blockQ_n, thenQ_n]
     have hx0 := hx
     have z := hx.q62
     simp only [] at z
     have hw := wrap_nat (j := j) (by unfold big at hml ⊢; omega)
     simp [evz, hdC, tlC, c59L, bodyL, Tryz.f59, z, ii, hw]
     refine ⟨⟨j + 1, hlt, ⟨hx0.a.up (by simp [up]) (agree_refl _ _) hx0.a.fr (Nat.le_refl _), by simpa [up] using hx0.q7, by simpa [up] using hx0.q8, by simpa [up] using hx0.q9, by simpa [up] using hx0.q60, hx0.b60, by simpa [up] using hx0.q61, by simp [up, ii], hx0.ps⟩⟩, ?_⟩
     rw [q62]
     simp [ii, AV.i]
     omega
    | exit i => exact (by simp [thenQ_e] at hx : False).elim
    | ret => exact (by simp [thenQ_r] at hx : False).elim
 ·obtain rfl : j = (mentL q t).length := by omega
  simp [evz, hdC, tlC, c59L, bodyL, Tryz.f59, q61, q62, ii]
  exact hN _ _ _ (J0.up (by simp [up]) (agree_refl _ _) J0.a.fr (Nat.le_refl _))
end
end Go.Proofs.YtbffkkeieihpdaaGreatDoor

namespace Go.Proofs.YtbffkkeieihpdaaGreatDoor
open Go Go.Eng
theorem usesL_len (p : Int → Bool) (vs : List ByteArray) (t : List Nd) : (usesL p vs t).length ≤ vs.length := by
 unfold usesL
 refine Nat.le_trans (List.length_filter_le _ _) ?_
 simp
section
variable {hB : Heap} {n1 bid mid : Nat} {sc : List Ty} {q : Qu} {l : List (List Nd)} {t : List Nd} {T : Nat → Nat} {p : Pt} {h : Heap} {n : Nat}
theorem b59 (hx : ∀ i, i < q.items.length → ixOf (vars q.items) (itA q i).var = i) (hq10 : q.items.length ≤ 10) (hll : l.length ≤ 1099511627776) (hpt : smallT t) (htl : sc.length * 8 ≤ 140737488355328) (hst : smallS sc)
  (b : BI hB n1 bid mid T h n p (plC sc q l) (slF q q.items.length)) {ta : AV} (et : rd dNs (still T h) ta = some t) :
  ACall (cz [3] (pfL tp59)) 59 [.p bid 0 0, ta] h n fun _ h' n' => E59 hB n1 bid mid sc q (l ++ [t]) T h n h' n' := by
 refine acall_of_awp (args := [.p bid 0 0, ta]) (pfZ_ok (tb_cons P118 tb_nil)) (mixed_z _ _) Tryz.func59 (c := Tryz.f59.body.getD .skip) rfl (by kernel_rfl) (callable Tryz.func59 rfl rfl [] (pfL [])) (show 2 ≤ Tryz.f59.ntmps by decide +kernel) ?_
 have hq : q.items.length * 64 ≤ 140737488355328 := by omega
 have hvl : (vars q.items).length = q.items.length := by simp [vars]
 have hub := usesL_len bareO (vars q.items) t
 have hua := usesL_len aggO (vars q.items) t
 refine awp_cut 2 _ _ (b59a (P := plC sc q l) hq hpt htl hst b et (env0 [.p bid 0 0, ta]) rfl rfl) fun e1 h1 n2 ⟨q0, q1, q4, ag, fr, nn, m5, lo, hi, ca, la, M⟩ => ?_
 simp only [] at q0 q1 q4 ag fr nn
 have V : Mv (fun _ => False) T h n T h1 n2 := Mv.of_agree b.s.tn nn ag fr
 refine awp_cut 1 _ _ (b59b (P := plC sc q l) hq hpt (b.mv V) (rd_agr b.s.fr (rd_mono (still_le _ _) et) _ ag) e1 q1 q4) fun e2 h2 n3 ⟨he, ag2, fr2, nn2, m6, a1, a2, a3, U⟩ => ?_
 simp only [] at he ag2 fr2 nn2
 have S : S59 bid (plC sc q l) h n t ⟨m5, lo, hi, ca, la, m6, a1, a2, a3⟩ ⟨e2, h2, n3⟩ := by
  refine ⟨(he 0 (by simp)).trans q0, (he 4 (by simp)).trans q4, agree_trans ag ag2 nn, fr2, Nat.le_trans nn nn2, M.up (he 5 (by simp)) ag2 nn2, ?_⟩
  obtain ⟨u1, u2, ⟨u3, u4⟩, u5, u6, u7, u8⟩ := U
  exact ⟨u1, u2, ⟨Nat.le_trans nn u3, u4⟩, u5, u6, u7, u8⟩
 refine awp_cut 2 _ _ (b59c (P := plC sc q l) b e2 h2 n3 S) fun e3 h3 n4 ⟨S3, q7, q8, q9⟩ => ?_
 refine awp_cut 1 _ _ (R := fun s => ∃ y id ver, K59 bid (plC sc q l) h n t y id ver (mentL q t).length (mentL q t).length s) ?_ fun e4 h4 n5 ⟨y, id, ver, K⟩ => ?_
 ·show awp _ (.seq (hdC 1 (hdC 1 (tlC 5 (Tryz.f59.body.getD .skip)))) (.block 0 (.loop c59L))) _ _
  rw [awp_seq]
  have k1 : (usesL bareO (vars q.items) t).length ≤ 1099511627776 := by omega
  have k2 : (usesL aggO (vars q.items) t).length ≤ 1099511627776 := by omega
  refine awp_mono _ (fun x s hxx => ?_) (b59d (P := plC sc q l) (Q := fun _ _ => False) k1 k2 plC_comps_len e3 h3 n4 S3 q7 q8 q9)
  cases x with
  | normal =>
   obtain ⟨e5, h5, n6⟩ := s
   rw [thenQ_n] at hxx
   obtain ⟨id, ver, K⟩ := hxx
   rw [thenQ_n, awp_block]
   refine b59l hx (by unfold big; omega) k1 k2 hll b e5 h5 n6 K (fun e' h' n' K' => ?_) fun s' hE => ?_
   ·rw [blockQ_e, if_pos rfl, thenQ_n]
    exact ⟨_, id, ver, K'⟩
   ·rw [blockQ_r, thenQ_r, finQ_r]
    exact ⟨trivial, hE⟩
  | exit i => exact (by simp [thenQ_e] at hxx : False).elim
  | ret => exact (by simp [thenQ_r] at hxx : False).elim
 ·refine b59s b hll e4 h4 n5 K rfl fun s' hE => ?_
  rw [finQ_n]
  exact ⟨trivial, hE⟩
end
end Go.Proofs.YtbffkkeieihpdaaGreatDoor

namespace Go.Proofs.YtbffkkeieihpdaaGreatDoor
open Go Go.Eng
def szN (t : List Nd) (i : Nat) : Nat := i + 1 - loOf t i
def G119 (m : Nat) := pureH deTI (fun q => tree1 q.1 = true ∧ smallT q.1 ∧ 0 ≤ q.2 ∧ q.2 < (m : Int) ∧ q.2 < (q.1.length : Int)) fun q => ii (szN q.1 q.2.toNat)
def tb119 (m : Nat) : List (FuncId × (List AV → Heap → PRes)) := [(147, G119 m)]
theorem p119_zero : P0 [] 147 (G119 0) := by
 have no : ∀ args h, ¬ (G119 0 args h).side := fun args h hs => by
  obtain ⟨a, _, hp, _⟩ := pureH_out deTI_mono hs
  obtain ⟨_, _, h1, h2, _⟩ := hp
  omega
 exact ⟨fun args h h' _ hs => (no _ _ hs).elim, .inl ⟨callable Tryz.func147 rfl rfl _ _, fun ρ h w args vs _ _ _ hs => (no _ _ hs).elim⟩⟩
theorem P119 : ∀ m, P0 [] 147 (G119 m)
 | 0 => p119_zero
 | m + 1 => by
  refine mkH 2 (S := []) (l := tb119 m) (tb_cons (P119 m) tb_nil) Tryz.func147 rfl (by kernel_rfl) deTI_mono (fun h l x e => by obtain ⟨p, rfl, _⟩ := deTI_out e; exact Nat.le_refl _) (fun a => rfl) (fun args q h n e hp hn => ?_)
  obtain ⟨t, i⟩ := q
  obtain ⟨a, rfl, e1⟩ := deTI_out e
  obtain ⟨ht, hsm, hi0, him, hil⟩ := hp
  simp only [] at e1 ht hsm hi0 him hil ⊢
  obtain ⟨j, rfl⟩ : ∃ j : Nat, i = j := ⟨i.toNat, by omega⟩
  rw [Int.toNat_natCast]
  have hlt : j < t.length := by omega
  have T := tre_of ht
  have hT := T.kind j hlt
  have hsm' : t.length * 64 ≤ 140737488355328 := hsm
  have g1 := rd_agree hn e1
  rcases ns_at e1 with ⟨h0, _⟩ | ⟨id, off, k, rfl, hk, ho', hat⟩
  ·rw [h0] at hlt; simp at hlt
  have hr := hat j hlt
  have hro := ro_at hk
  have h0 := ne_of hk hn
  have h00 := ne_of hk hn 0
  simp only [Nat.add_zero] at h00
  have c4 := cell_of (c := 4) hr rfl (by omega)
  have c5 := cell_of (c := 5) hr rfl (by omega)
  rw [Nat.add_assoc] at c4 c5
  have hw5 : off + (j * 6 + 5) ≤ k.cells.length := by omega
  have hw6 : off + (j * 6 + 6) ≤ k.cells.length := by omega
  have hlo := T.le j hlt
  have hag := agree_refl n (roH h)
  rcases hT with ⟨b1, b2, b3, b4, b⟩ | ⟨b0, b1, b2, b3, b⟩ | ⟨b0, b0', b1, b2, c, b3, b4, b⟩
  ·have hsz : szN t j = 1 := by unfold szN; omega
   rw [b3] at c4
   rw [b4] at c5
   simp only [ii] at c4 c5
   simp [evx, ii, hlt, hro, c4, c5, hw5, hw6, hsz]
  ·have hsz : (szN t j : Int) = 1 + (szN t (j - 1) : Int) := by
    have := T.le (j - 1) (by omega)
    unfold szN; omega
   rw [b2] at c4
   rw [b3] at c5
   simp only [ii] at c4 c5
   have k1 : j - 1 < m := by omega
   have k2 : j - 1 < t.length := by omega
   have hs2 : szN t (j - 1) ≤ t.length := by unfold szN; omega
   have hw := wrap_sm (x := 1 + (szN t (j - 1) : Int)) (by omega) (by omega)
   rw [hsz]
   generalize hz : szN t (j - 1) = z at *
   simp [evx, ii, hlt, hro, c4, c5, hw5, hw6, tb119, G119, pureH, deTI, g1, hag, ht, hsm, k1, k2, hz, hw]
   done
  ·have hlb := T.le (j - 1) (by omega)
   have hla := T.le c (by omega)
   have hsz : (szN t j : Int) = 1 + (szN t c : Int) + (szN t (j - 1) : Int) := by
    unfold szN; omega
   rw [b3] at c4
   rw [b2] at c5
   simp only [ii] at c4 c5
   have k1 : j - 1 < m := by omega
   have k2 : j - 1 < t.length := by omega
   have k3 : c < m := by omega
   have k4 : c < t.length := by omega
   have hs1 : szN t c ≤ t.length := by unfold szN; omega
   have hs2 : szN t (j - 1) ≤ t.length := by unfold szN; omega
   have hw := wrap_sm (x := 1 + (szN t c : Int)) (by omega) (by omega)
   have hw' := wrap_sm (x := 1 + (szN t c : Int) + (szN t (j - 1) : Int)) (by omega) (by omega)
   rw [hsz]
   generalize hz1 : szN t (j - 1) = z1 at *
   generalize hz2 : szN t c = z2 at *
   simp [evx, ii, hlt, hro, c4, c5, hw5, hw6, tb119, G119, pureH, deTI, g1, hag, ht, hsm, k1, k2, k3, k4, hz1, hz2, hw, hw']
   done
def okTr (q : List Nd × Int) : Prop := tree1 q.1 = true ∧ smallT q.1 ∧ 0 ≤ q.2 ∧ q.2 < (q.1.length : Int)
def G119a := pureH deTI okTr fun q => ii (szN q.1 q.2.toNat)
theorem P119a : P0 [] 147 G119a := by
 refine ⟨fun args h h' hh hs => ?_, .inl ⟨callable Tryz.func147 rfl rfl _ _, fun ρ h w args vs r hmx ha hs => ?_⟩⟩
 ·obtain ⟨a, e, hp, hall⟩ := pureH_out deTI_mono hs
  have e1 : G119a args h' = _ := hall h' hh
  have e2 : G119a args h = _ := hall h (fun _ _ e => e)
  rw [e1, e2]
  exact ⟨hp, rfl⟩
 ·obtain ⟨a, e, hp, hall⟩ := pureH_out deTI_mono hs
  have e2 : G119a args h = _ := hall h (fun _ _ e => e)
  have e3 : G119 a.1.length args h = ⟨tree1 a.1 = true ∧ smallT a.1 ∧ 0 ≤ a.2 ∧ a.2 < (a.1.length : Int) ∧ a.2 < (a.1.length : Int), ii (szN a.1 a.2.toNat)⟩ := by simp only [G119, pureH, e]
  have hs' : (G119 a.1.length args h).side := by rw [e3]; exact ⟨hp.1, hp.2.1, hp.2.2.1, hp.2.2.2, hp.2.2.2⟩
  have hv : (G119 a.1.length args h).val = (G119a args h).val := by rw [e3, e2]
  rcases (P119 a.1.length).2 with ⟨_, k⟩ | k
  ·have := k ρ h w args vs r hmx ha hs'
   rwa [hv] at this
  ·obtain ⟨y, e9, _⟩ := k ρ h w args vs ha hs'
   rw [callable (S := []) Tryz.func147 rfl rfl] at e9
   cases e9
def G89 := pureH deTI okTr fun q => ii (szN q.1 q.2.toNat)
def tb89 : List (FuncId × (List AV → Heap → PRes)) := [(79, G70), (147, G119a)]
theorem P89 : P0 [3] 93 G89 := by
 refine mkH 2 (S := [3]) (l := tb89) (tb_cons P70 (tb_cons P119a tb_nil)) Tryz.func93 rfl (by kernel_rfl) deTI_mono (fun h l x e => by obtain ⟨p, rfl, _⟩ := deTI_out e; exact Nat.le_refl _) (fun a => rfl) (fun args q h n e hp hn => ?_)
 obtain ⟨t, i⟩ := q
 obtain ⟨a, rfl, e1⟩ := deTI_out e
 have hp' := hp
 obtain ⟨ht, hsm, hi0, hil⟩ := hp
 simp only [] at e1 ht hsm hi0 hil ⊢
 have g1 := rd_agree hn e1
 obtain ⟨s1, s2, s3, s4, s5⟩ := sl_is e1
 have hag := agree_refl n (roH h)
 have h1 : ¬ i < 0 := by omega
 have h2 : ¬ (t.length : Int) ≤ i := by omega
 simp [evx, ii, s1, s2, s3, h1, h2, tb89, G70, G119a, okTr, pureH, deT, deTI, g1, hag, ht, hsm, hi0, hil, bv]
end Go.Proofs.YtbffkkeieihpdaaGreatDoor

namespace Go.Proofs.YtbffkkeieihpdaaGreatDoor
open Go Go.Eng
section
variable {sc : List Ty} {vs : List ByteArray} {t : List Nd} {lo : Nat → Nat} {en : En}
end
end Go.Proofs.YtbffkkeieihpdaaGreatDoor

namespace Go.Proofs.YtbffkkeieihpdaaGreatDoor
open Go Go.Eng
section
variable {vs : List ByteArray} {a b : List Nd} {op : Int}
end
end Go.Proofs.YtbffkkeieihpdaaGreatDoor

namespace Go.Proofs.YtbffkkeieihpdaaGreatDoor
open Go Go.Eng
theorem wr_app2 {α : Type} : ∀ (cs : List α) (a b c : List α), b.length = cs.length → wr (a ++ b ++ c) a.length cs = a ++ cs ++ c
 | [], a, b, c, h => by
  have : b = [] := List.eq_nil_of_length_eq_zero h
  subst this; rfl
 | x :: r, a, [], c, h => by simp at h
 | x :: r, a, y :: b, c, h => by
  have e : ((a ++ (y :: b) ++ c).set a.length x) = (a ++ [x]) ++ b ++ c := by
   rw [List.append_assoc, List.set_append_right _ _ (Nat.le_refl _), Nat.sub_self]
   simp
  have := wr_app2 r (a ++ [x]) b c (by simpa using h)
  rw [List.length_append] at this
  simp only [wr, e]
  rw [show a.length + [x].length = a.length + 1 by rfl] at this
  rw [this]
  simp
section
variable {sc : List Ty} {vs : List ByteArray} {en : En} {a b : List Nd} {op : Int}
end
end Go.Proofs.YtbffkkeieihpdaaGreatDoor
