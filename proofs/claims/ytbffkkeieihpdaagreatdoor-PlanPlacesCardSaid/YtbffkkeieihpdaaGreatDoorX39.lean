import Derived.Test.YtbffkkeieihpdaaGreatDoorX38
import Derived.Test.YtbffkkeieihpdaaGreatDoorX37
import Derived.Test.YtbffkkeieihpdaaGreatDoorX32
set_option linter.unusedSimpArgs false
set_option linter.unusedVariables false
set_option linter.constructorNameAsVariable false
set_option maxRecDepth 100000
set_option maxHeartbeats 4000000
namespace Go.Proofs.YtbffkkeieihpdaaGreatDoor
open Go Go.Eng
structure B17 (h : Heap) (n : Nat) (q : Qu) (sa qa qb qc : AV) (hB : Heap) (n1 bid mid : Nat) (e : Nat → AV) : Prop where
 q2 : e 2 = .p n 0 0
 q3 : e 3 = .p (n + 1) 0 0
 q4 : e 4 = .p (n + 2) 0 0
 q5 : e 5 = .p (n + 3) 0 0
 q7 : e 7 = .p bid 0 0
 b2 : hB n = some ⟨[sa], 0, true, 1⟩
 b3 : hB (n + 1) = some ⟨qcells q qa qb qc, 0, true, 7⟩
 b4 : hB (n + 2) = some ⟨zpl, 0, true, 16⟩
 b5 : hB (n + 3) = some ⟨fcells fl0, 0, true, 4⟩
 ag : agree n h hB
 n1 : n + 4 ≤ n1
 bi : n + 4 ≤ bid
 mi : n + 4 ≤ mid
theorem B17.up {h : Heap} {n : Nat} {q : Qu} {sa qa qb qc : AV} {hB : Heap} {n1 bid mid : Nat} {e e' : Nat → AV} (a : B17 h n q sa qa qb qc hB n1 bid mid e) (he : ∀ i ∈ [2, 3, 4, 5, 7], e' i = e i) : B17 h n q sa qa qb qc hB n1 bid mid e' :=
 ⟨(he 2 (by simp)).trans a.q2, (he 3 (by simp)).trans a.q3, (he 4 (by simp)).trans a.q4, (he 5 (by simp)).trans a.q5, (he 7 (by simp)).trans a.q7, a.b2, a.b3, a.b4, a.b5, a.ag, a.n1, a.bi, a.mi⟩
def tg0 (n1 bid mid : Nat) (i : Nat) : Nat := if i = bid then 7 else if i = mid then 8 else if i < n1 then 9 else 0
section
variable {h : Heap} {n : Nat} {sc : List Ty} {q : Qu} {sa qa qb qc : AV}
theorem b17b (W : Wf sc q) (hwh : smallT q.wh) (hrt : ∀ t ∈ q.ret, smallT t) (e1 : rd dTys h sa = some sc) (e2 : deQ h (.g (qcells q qa qb qc)) = some q) (hn : Fresh n h) (e : Nat → AV) (h1 : Heap) (n2 : Nat) (a : A17 h n q sa qa qb qc ⟨e, h1, n2⟩) {Q} :
  awp (cz [3] (pfL tp17)) (hdC 2 (tlC 2 (Tryz.f17.body.getD .skip))) (thenQ (fun s => ∃ hB n1 bid mid T p, B17 h n q sa qa qb qc hB n1 bid mid s.e ∧ BI hB n1 bid mid T s.h s.n p (plI sc q 0) (slF q 0)) Q) ⟨e, h1, n2⟩ := by
 obtain ⟨w1, w2, w3, w4, w5⟩ := W.short
 obtain ⟨q2, q3, q4, q5, b2, b3, b4, b5, ag, fr, nn⟩ := a
 simp only [] at q2 q3 q4 q5 b2 b3 b4 b5 ag fr nn
 obtain ⟨a', b', c', e0, x1, x2, x3⟩ := deQ_out e2
 cases e0
 have o1 := (sl_is e1).2.2.2.1
 have o2 := (sl_is x1).2.2.2.1
 have o3 := (sl_is x2).2.2.2.1
 have o4 := (sl_is x3).2.2.2.1
 have z1 : ¬ n = n2 := by omega
 have z2 : ¬ n = n2 + 1 := by omega
 have z3 : ¬ n + 1 = n2 := by omega
 have z4 : ¬ n = n2 := by omega
 have hb3 : h1 (n + 1) = some ⟨[qa, .v (.int .i64 q.mode), .v (.int .i64 q.after), qb, .v (.int .i64 q.within), .v (.string q.par), qc], 0, true, 7⟩ := b3
 refine awp_cut 1 _ _ (R := fun s => B17 h n q sa qa qb qc s.h (n2 + 2) (n2 + 1) n2 s.e ∧ s.h = up (up h1 n2 (some ⟨[], 0, true, 0⟩)) (n2 + 1) (some ⟨zpl ++ [.mv n2 0], 0, true, 17⟩) ∧ s.n = n2 + 2) ?_ fun e3 h3 n3 ⟨B, hh, hnn⟩ => ?_
 ·simp [evz, hdC, tlC, Tryz.f17, zpl, nilA, ii, ss, bv]
  have g : ∀ b1 b2 : Option Blk, ∀ i, i < n2 → up (up h1 n2 b1) (n2 + 1) b2 i = h1 i := fun b1 b2 i hi => by rw [up_ne _ _ (by omega), up_ne _ _ (by omega)]
  exact ⟨by simp [up, q2], by simp [up, q3], by simp [up, q4], by simp [up, q5], by simp [up], (g _ _ _ (by omega)).trans b2, (g _ _ _ (by omega)).trans b3, (g _ _ _ (by omega)).trans b4, (g _ _ _ (by omega)).trans b5, (agree_up (by omega) _).2 ((agree_up (by omega) _).2 ag), by omega, by omega, by omega⟩
 ·simp only [] at B hh hnn
  obtain ⟨q2, q3, q4, q5, q7, c2, c3, c4, c5, ag3, _, _, _⟩ := B
  have fr3 : Fresh n3 h3 := by rw [hnn, hh]; exact (fresh_up (by omega) _).2 ((fresh_up (by omega) _).2 (fr.add 2))
  have g1 : ∀ h', agree n h h' → deSc h' (.g [sa]) = some sc := fun h' ha => rd_agr hn e1 h' ha
  have g2 : ∀ h', agree n h h' → deQ h' (.g [qa, .v (.int .i64 q.mode), .v (.int .i64 q.after), qb, .v (.int .i64 q.within), .v (.string q.par), qc]) = some q := fun h' ha => deQ_has (rd_agr hn x1 h' ha) (rd_agr hn x2 h' ha) (rd_agr hn x3 h' ha)
  have hbid : h3 (n2 + 1) = some ⟨zpl ++ [.mv n2 0], 0, true, 17⟩ := by rw [hh, up_same]
  have hmid : h3 n2 = some ⟨[], 0, true, 0⟩ := by rw [hh, up_ne _ _ (by omega), up_same]
  have c3' : h3 (n + 1) = some ⟨[qa, .v (.int .i64 q.mode), .v (.int .i64 q.after), qb, .v (.int .i64 q.within), .v (.string q.par), qc], 0, true, 7⟩ := c3
  simp [evz, hdC, tlC, Tryz.f17, q2, q3, q7, c2, c3']
  refine (acall_z (S := []) (fun _ h => by cases h) (b55 (g1 _ ag3) (by omega) (fun t ht => by have := w3 t ht; omega) fr3)).mono ?_
  rintro v h4 n4 ⟨a1, a2, a3, v1⟩
  obtain ⟨sa', rfl, v2⟩ := deSc_out v1
  refine ⟨keep_le (agr_le fr3 a1), ?_⟩
  have ag4 := agree_trans ag3 a1 (by omega)
  refine (acall_z (S := []) (fun _ h => by cases h) (b56 (g2 _ ag4) (by have := W.n1; omega) (by unfold smallT at hwh; omega) (by have := W.r1; omega) (fun t ht => by have := w5 t ht; omega) (fun t ht => by have := hrt t ht; unfold smallT at this; omega) a2)).mono ?_
  rintro v h5 n5 ⟨d1, d2, d3, v3⟩
  refine ⟨keep_le (agr_le a2 d1), ?_⟩
  obtain ⟨qa', qb', qc', rfl, y1, y2, y3⟩ := deQ_out v3
  have s1 := sl_is v2
  have s2 := sl_is y1
  have s3 := sl_is y2
  have s4 := sl_is y3
  have hbid5 : h5 (n2 + 1) = some ⟨zpl ++ [.mv n2 0], 0, true, 17⟩ := ((d1 _ (by omega)).trans (a1 _ (by omega))).trans hbid
  simp [evz, hbid5, zpl, nilA, ii, ss, bv, s1, s2, s3, s4]
  refine ⟨fun _ => keepL_up rfl fun t ht => ?_, last_no (by kernel_rfl), h3, n3, n2 + 1, n2, ?_, tg0 n3 (n2 + 1) n2, ⟨sa', qa', qb', qc', nilA, nilA, nilA, nilA, nilA, nilA⟩, ?_⟩
  ·simp [ldSlots] at ht
   rcases ht with rfl | rfl
   ·exact ⟨n, 0, 0, by simp [up, q2], by omega⟩
   ·exact ⟨n + 1, 0, 0, by simp [up, q3], by omega⟩
  ·exact ⟨by simp [up, q2], by simp [up, q3], by simp [up, q4], by simp [up, q5], by simp [up, q7], c2, c3, c4, c5, ag3, by omega, by omega, by omega⟩
  ·rw [upup]
   generalize hB2 : (⟨[sa', qa', .v (.int .i64 q.mode), .v (.int .i64 q.after), qb', .v (.int .i64 q.within), .v (.string q.par), qc', .v (.slice none 0 0), .v (.slice none 0 0), .v (.slice none 0 0), .v (.slice none 0 0), .v (.slice none 0 0), .v (.slice none 0 0), .v (.bool false), .v (.bool false), .mv n2 0], 0, true, 17⟩ : Blk) = B2
   have hk : ∀ i, i ≠ n2 + 1 → up h5 (n2 + 1) (some B2) i = h5 i := fun i hi => up_ne _ _ hi
   have ht : ∀ i, n3 ≤ i → tg0 n3 (n2 + 1) n2 i = 0 := fun i hi => by simp only [tg0]; rw [if_neg (by omega), if_neg (by omega), if_neg (by omega)]
   have hst : ∀ hi, (wtn n3 hi (up h5 (n2 + 1) (some B2))).le (still (tg0 n3 (n2 + 1) n2) (up h5 (n2 + 1) (some B2))) := fun hi => still_wtn fun i h1 h2 => ht i h1
   refine ⟨⟨?_, ?_, if_pos rfl, by simp [tg0], by omega, by omega, fun i h1 h2 h3 => by simp only [tg0]; rw [if_neg h2, if_neg h3, if_pos h1], fun i h1 h2 h3 => ?_, by omega, ?_, fun i hi => ht i (by omega)⟩, ?_, ⟨[], ?_, isSl_nil⟩, LR.nil _ _ _ _ _, LR.nil _ _ _ _ _, LR.nil _ _ _ _ _, LR.nil _ _ _ _ _, LR.nil _ _ _ _ _, LR.nil _ _ _ _ _⟩
   ·exact rd_mono (hst n4) (wtn_rd v2 (Nat.le_refl _) (Nat.le_refl _) fun i h1 h2 => (hk i (by omega)).trans (d1 i h2))
   ·refine deQ_in (q := q) ?_ ?_ ?_
    ·exact rd_mono (hst n5) (wtn_rd y1 (by omega) (Nat.le_refl _) fun i h1 h2 => hk i (by omega))
    ·exact rd_mono (hst n5) (wtn_rd y2 (by omega) (Nat.le_refl _) fun i h1 h2 => hk i (by omega))
    ·exact rd_mono (hst n5) (wtn_rd y3 (by omega) (Nat.le_refl _) fun i h1 h2 => hk i (by omega))
   ·rw [hk i h2, d1 i (by omega), a1 i h1]
   ·exact (fresh_up (by omega) _).2 (d2.add 2)
   ·rw [up_same, ← hB2]; rfl
   ·rw [hk _ (by omega), d1 _ (by omega), a1 _ (by omega)]; exact hmid
end
end Go.Proofs.YtbffkkeieihpdaaGreatDoor

namespace Go.Proofs.YtbffkkeieihpdaaGreatDoor
open Go Go.Eng
theorem BI.low2 {hB : Heap} {n1 bid mid : Nat} {T : Nat → Nat} {h0 : Heap} {n0 : Nat} {h : Heap} {n : Nat} {q : Qu} {sa qa qb qc : AV} {p : Pt} {P : Pl} {f : ByteArray → Option (Bool × Nat)} {e : Nat → AV} (b : BI hB n1 bid mid T h n p P f) (a : B17 h0 n0 q sa qa qb qc hB n1 bid mid e) : (∀ i, i < n0 + 4 → h i = hB i) ∧ agree n0 h0 h := by
 have k : ∀ i, i < n0 + 4 → h i = hB i := fun i hi => b.s.kp i (by have := a.n1; omega) (by have := a.bi; omega) (by have := a.mi; omega)
 exact ⟨k, fun i hi => (k i (by omega)).trans (a.ag i hi)⟩
noncomputable def c17L : Code := bodyL (hdC 1 (tlC 6 (Tryz.f17.body.getD .skip)))
structure C17 (h : Heap) (n : Nat) (sc : List Ty) (q : Qu) (sa qa qb qc : AV) (hB : Heap) (n1 bid mid : Nat) (T : Nat → Nat) (p : Pt) (j : Nat) (z : AV) (s : St) : Prop where
 b : B17 h n q sa qa qb qc hB n1 bid mid s.e
 q41 : s.e 41 = z
 z41 : rd dIs (still T s.h) z = some ((rootsQ q.wh).map fun x : Nat => (x : Int))
 q42 : s.e 42 = ii (rootsQ q.wh).length
 q43 : s.e 43 = ii j
 bi : BI hB n1 bid mid T s.h s.n p (plC sc q ((conjs q).take j)) (slF q q.items.length)
section
variable {h : Heap} {n : Nat} {sc : List Ty} {q : Qu} {sa qa qb qc : AV} {hB : Heap} {n1 bid mid : Nat}
theorem b17c (W : Wf sc q) (e : Nat → AV) (h1 : Heap) (n2 : Nat) (a : B17 h n q sa qa qb qc hB n1 bid mid e) {T : Nat → Nat} {p : Pt} (b : BI hB n1 bid mid T h1 n2 p (plI sc q 0) (slF q 0)) {Q} :
  awp (cz [3] (pfL tp17)) (hdC 2 (tlC 4 (Tryz.f17.body.getD .skip))) (thenQ (fun s => B17 h n q sa qa qb qc hB n1 bid mid s.e ∧ ∃ T p, BI hB n1 bid mid T s.h s.n p (plT sc q sc.length) (slF q q.items.length)) Q) ⟨e, h1, n2⟩ := by
 obtain ⟨w1, w2, w3, w4, w5⟩ := W.short
 have w6 := W.n1
 have q7 := a.q7
 simp [evz, hdC, tlC, Tryz.f17, q7]
 refine (acall_z (S := []) (fun _ h => by cases h) (b57 (by unfold big; omega) w4 (by omega) (fun t ht => by have := w5 t ht; omega) b)).mono ?_
 rintro v h2 n3 ⟨T2, p2, b2⟩
 refine (acall_z (S := []) (fun _ h => by cases h) (b58 ⟨by unfold big; omega, fun t ht => by have := w3 t ht; unfold big; omega⟩ (by omega) ⟨by unfold big; omega, fun t ht => by have := w5 t ht; unfold big; omega⟩ b2)).mono ?_
 rintro v h3 n4 ⟨T3, p3, b3⟩
 exact ⟨a.up (by simp [up]), T3, p3, b3⟩
theorem b17d (hwh : smallT q.wh) (e3 : rd dNs h qb = some q.wh) (hn : Fresh n h) (e : Nat → AV) (h1 : Heap) (n2 : Nat) (a : B17 h n q sa qa qb qc hB n1 bid mid e) {T : Nat → Nat} {p : Pt} (b : BI hB n1 bid mid T h1 n2 p (plT sc q sc.length) (slF q q.items.length)) {Q} :
  awp (cz [3] (pfL tp17)) (hdC 1 (hdC 1 (tlC 6 (Tryz.f17.body.getD .skip)))) (thenQ (fun s => ∃ T p z, C17 h n sc q sa qa qb qc hB n1 bid mid T p 0 z s) Q) ⟨e, h1, n2⟩ := by
 obtain ⟨lo, ag⟩ := b.low2 a
 have q3 := a.q3
 have hb3 : h1 (n + 1) = some ⟨[qa, .v (.int .i64 q.mode), .v (.int .i64 q.after), qb, .v (.int .i64 q.within), .v (.string q.par), qc], 0, true, 7⟩ := (lo _ (by omega)).trans a.b3
 obtain ⟨t1, t2, t3, t4, t5⟩ := sl_is e3
 simp [evz, hdC, tlC, Tryz.f17, q3, hb3]
 refine (acall_z (S := [3]) (fun _ h => h) (c35 (rd_agr hn e3 _ ag) hwh b.s.fr)).mono ?_
 rintro z h2 n3 ⟨a1, a2, a3, a4⟩
 obtain ⟨s1, s2, s3, s4, s5⟩ := sl_is a4
 rw [List.length_map] at s2
 simp [s1, s2]
 have V : Mv (fun _ => False) T h1 n2 T h2 n3 := Mv.of_agree b.s.tn a3 a1 a2
 refine ⟨T, p, z, ⟨a.up (by simp [up]), by simp [up], rd_mono (still_wtn fun i h1 h2 => b.s.tn i h1) a4, by simp [up, ii], by simp [up, ii], ?_⟩⟩
 rw [List.take_zero, plC_nil]
 exact b.mv V
end
end Go.Proofs.YtbffkkeieihpdaaGreatDoor

namespace Go.Proofs.YtbffkkeieihpdaaGreatDoor
open Go Go.Eng
theorem B17.e7 {h : Heap} {n : Nat} {q : Qu} {sa qa qb qc : AV} {hB : Heap} {n1 bid mid : Nat} {e : Nat → AV} (a : B17 h n q sa qa qb qc hB n1 bid mid e) : e 7 = .p bid 0 0 := a.q7
section
variable {h : Heap} {n : Nat} {sc : List Ty} {q : Qu} {sa qa qb qc : AV} {hB : Heap} {n1 bid mid : Nat}
theorem b17e (W : Wf sc q) (hwh : smallT q.wh) (e3 : rd dNs h qb = some q.wh) (hn : Fresh n h) {T : Nat → Nat} {p : Pt} {j : Nat} {z : AV} (hj : j < (rootsQ q.wh).length) (e : Nat → AV) (h1 : Heap) (n2 : Nat) (a : C17 h n sc q sa qa qb qc hB n1 bid mid T p j z ⟨e, h1, n2⟩) {Q}
  (hQ : ∀ s', (∃ T' p', C17 h n sc q sa qa qb qc hB n1 bid mid T' p' (j + 1) z s') → Q .normal s') :
  awp (cz [3] (pfL tp17)) c17L Q ⟨e, h1, n2⟩ := by
 obtain ⟨w1, w2, w3, w4, w5⟩ := W.short
 obtain ⟨B, q41, z41, q42, q43, bi⟩ := a
 simp only [] at B q41 z41 q42 q43 bi
 obtain ⟨lo, ag⟩ := bi.low2 B
 have q3 := B.q3
 have q7 := B.q7
 have hb3 : h1 (n + 1) = some ⟨[qa, .v (.int .i64 q.mode), .v (.int .i64 q.after), qb, .v (.int .i64 q.within), .v (.string q.par), qc], 0, true, 7⟩ := (lo _ (by omega)).trans B.b3
 have fr := bi.s.fr
 obtain ⟨hi1, hi2⟩ := roots_lt (List.getElem_mem hj)
 have hcj : (conjs q).take (j + 1) = (conjs q).take j ++ [subT q.wh (rootsQ q.wh)[j]] := by
  have hjc : j < (conjs q).length := by rw [conjs_roots, List.length_map]; exact hj
  rw [List.take_succ_eq_append_getElem hjc]
  congr 2
  simp only [conjs_roots, List.getElem_map]
 have hsub := sub_small hi1 hi2 hwh
 have hrl := roots_len hwh
 have hll : ((conjs q).take j).length ≤ 1099511627776 := by rw [List.length_take]; omega
 rcases is_at z41 with ⟨h0, _⟩ | ⟨id, off, k, rfl, hk, ho, hat⟩
 ·rw [List.map_eq_nil_iff] at h0; rw [h0] at hj; simp at hj
 rw [List.length_map] at ho
 have hr := hat j (by rw [List.length_map]; exact hj)
 simp only [List.getElem_map] at hr
 have hk' : h1 id = some k := still_le _ _ _ _ hk
 have hw1 : off + (j + 1) ≤ k.cells.length := by omega
 have hw2 : off + j < k.cells.length := by omega
 have hr' : ∀ hx, k.cells[off + j]'hx = ii (rootsQ q.wh)[j] := fun hx => by rw [List.getElem?_eq_getElem hx] at hr; exact Option.some.inj hr
 have hw := wrap_nat (j := j) (by unfold big; omega)
 rw [List.length_map] at q41
 generalize hrr : (rootsQ q.wh)[j] = r at *
 simp [evz, c17L, bodyL, hdC, tlC, Tryz.f17, q3, q7, q41, q42, q43, hb3, hk', hr', hw1, hw2, hj, ii]
 refine (acall_z (S := [3]) (fun _ h => h) (c52 (rd_agr hn e3 _ ag) hi1 hwh hi2 fr)).mono ?_
 rintro v h2 n3 ⟨a1, a2, a3, w, rfl, a4, a5, a6⟩
 have V : Mv (fun _ => False) T h1 n2 T h2 n3 := Mv.of_agree bi.s.tn a3 a1 a2
 have et : rd dNs (still T h2) (.s w 0 0 (subT q.wh r).length) = some (subT q.wh r) := flat_in Flat.nd (l := subT q.wh r) (by rw [still_at (bi.s.tn w a5)]; exact a4) rfl (r := []) (by rw [List.append_nil])
 have hx : ∀ i, i < q.items.length → ixOf (vars q.items) (itA q i).var = i := fun i hi => W.ix hi
 refine (acall_zz (S := [3]) (fun _ h => h) (b59 hx W.n1 hll hsub (by omega) ⟨by unfold big; omega, fun t ht => by have := w3 t ht; unfold big; omega⟩ (bi.mv V) et)).mono ?_
 rintro v h3 n4 ⟨T', p', b', V'⟩
 rw [← hcj] at b'
 simp [hw]
 refine hQ _ ⟨T', p', B.up (by simp [up]), by simp only [List.length_map]; simp [up, q41], rd_mono (Heap.le_trans (V.still fr) (V'.still a2)) z41, by simp [up, q42], by simp [up, ii], b'⟩
end
end Go.Proofs.YtbffkkeieihpdaaGreatDoor

namespace Go.Proofs.YtbffkkeieihpdaaGreatDoor
open Go Go.Eng
noncomputable def c17M : Code := bodyL (hdC 1 (tlC 7 (Tryz.f17.body.getD .skip)))
def plR (sc : List Ty) (q : Qu) (j : Nat) : Pl := { plC sc q (conjs q) with ret := (q.ret.take j).map (compP sc (vars q.items)) }
structure D17 (h : Heap) (n : Nat) (sc : List Ty) (q : Qu) (sa qa qb qc : AV) (hB : Heap) (n1 bid mid : Nat) (T : Nat → Nat) (p : Pt) (j : Nat) (s : St) : Prop where
 b : B17 h n q sa qa qb qc hB n1 bid mid s.e
 q55 : s.e 55 = qc
 q56 : s.e 56 = ii q.ret.length
 q57 : s.e 57 = ii j
 bi : BI hB n1 bid mid T s.h s.n p (plR sc q j) (slF q q.items.length)
section
variable {h : Heap} {n : Nat} {sc : List Ty} {q : Qu} {sa qa qb qc : AV} {hB : Heap} {n1 bid mid : Nat}
theorem b17f (W : Wf sc q) (hrt : ∀ t ∈ q.ret, smallT t) (e1 : rd dTys h sa = some sc) (e2 : deQ h (.g (qcells q qa qb qc)) = some q) (hn : Fresh n h) {T : Nat → Nat} {p : Pt} {j : Nat} (hj : j < q.ret.length) (e : Nat → AV) (h1 : Heap) (n2 : Nat) (a : D17 h n sc q sa qa qb qc hB n1 bid mid T p j ⟨e, h1, n2⟩) {Q}
  (hQ : ∀ s', (∃ T' p', D17 h n sc q sa qa qb qc hB n1 bid mid T' p' (j + 1) s') → Q .normal s') :
  awp (cz [3] (pfL tp17)) c17M Q ⟨e, h1, n2⟩ := by
 obtain ⟨w1, w2, w3, w4, w5⟩ := W.short
 have w6 := W.r1
 obtain ⟨B, q55, q56, q57, bi⟩ := a
 simp only [] at B q55 q56 q57 bi
 obtain ⟨lo, ag⟩ := bi.low2 B
 obtain ⟨lb, lm, nbm⟩ := bi.low
 obtain ⟨a', b', c', e0, x1, x2, x3⟩ := deQ_out e2
 cases e0
 have o1 := (sl_is e1).2.2.2.1
 have o2 := (sl_is x1).2.2.2.1
 have o3 := (sl_is x2).2.2.2.1
 have o4 := (sl_is x3).2.2.2.1
 have q2 := B.q2
 have q3 := B.q3
 have q7 := B.q7
 have fr := bi.s.fr
 have hbb := bi.bb
 have hb2 : h1 n = some ⟨[sa], 0, true, 1⟩ := (lo _ (by omega)).trans B.b2
 have hb3 : h1 (n + 1) = some ⟨[qa, .v (.int .i64 q.mode), .v (.int .i64 q.after), qb, .v (.int .i64 q.within), .v (.string q.par), qc], 0, true, 7⟩ := (lo _ (by omega)).trans B.b3
 obtain ⟨id, off, k, c', rfl, hk, ho, hc', hcr⟩ := sls_getD x3 hj
 have hk' : h1 id = some k := (ag id (lt_of hk hn)).trans hk
 have hw1 : off + (j + 1) ≤ k.cells.length := by omega
 have hw := wrap_nat (j := j) (by unfold big; omega)
 have htm : q.ret.getD j [] ∈ q.ret := by rw [List.getD_eq_getElem?_getD, List.getElem?_eq_getElem hj]; exact List.getElem_mem hj
 have hsm := hrt _ htm
 have hpl : plR sc q (j + 1) = { plR sc q j with ret := (plR sc q j).ret ++ [compP sc (vars q.items) (q.ret.getD j [])] } := by
  simp only [plR]
  rw [List.take_succ_eq_append_getElem hj, List.map_append, List.getD_eq_getElem?_getD, List.getElem?_eq_getElem hj]; rfl
 generalize q.ret.getD j [] = t at *
 have k60 : ∀ (h2 : Heap) (n3 : Nat), agree n2 h1 h2 → Fresh n3 h2 → n2 ≤ n3 → ACall (cz [3] (pfL tp17)) 60 [.g [sa], .g [qa, .v (.int .i64 q.mode), .v (.int .i64 q.after), qb, .v (.int .i64 q.within), .v (.string q.par), .s id k.ver off q.ret.length], c'] h2 n3 fun z h' n' => agree n3 h2 h' ∧ Fresh n' h' ∧ n3 ≤ n' ∧ OwnQ h' n3 n' z (compP sc (vars q.items) t) := fun h2 n3 a1 a2 a3 =>
  have ag2 := agree_trans ag a1 (by have := B.n1; have := bi.s.nn; omega)
  acall_z (fun _ h => h) (c20 (rd_agr hn e1 _ ag2) (deQ_has (rd_agr hn x1 _ ag2) (rd_agr hn x2 _ ag2) (rd_agr hn x3 _ ag2)) (rd_agr hn hcr _ ag2) (by have := W.n1; unfold big; omega) hsm (by omega) ⟨by unfold big; omega, fun t ht => by have := w3 t ht; unfold big; omega⟩ a2)
 generalize hpp : compP sc (vars q.items) t = pr at *
 simp [evz, c17M, bodyL, hdC, tlC, Tryz.f17, tp17, q2, q3, q7, q55, q56, q57, hb2, hb3, hbb, bcells, hk', hc', hw1, hj, ii, ss]
 refine (k60 _ _ (agree_refl _ _) fr (Nat.le_refl _)).mono ?_
 rintro v h2 n3 ⟨a1, a2, a3, ow⟩
 refine ⟨keep_le (agr_le fr a1), ?_⟩
 have V0 : Mv (fun _ => False) T h1 n2 T h2 n3 := Mv.of_agree bi.s.tn a3 a1 a2
 have bi2 := bi.mv V0
 have hpr : dePr (still T h2) v = some pr := (ow.up (h' := still T h2) (fun i h1 h2 => still_at (bi.s.tn i h1)) (Nat.le_refl _) (Nat.le_refl _)).rd
 obtain ⟨ca, la, rfl, k1, k2, k3, k4, k5, k6⟩ := ow.is
 have hbb2 := bi2.bb
 obtain ⟨cs, gl, gR⟩ := bi2.rt
 have nb1 := B.bi
 have x4 : ¬ bid = n3 + 1 := by omega
 have x5 : ¬ bid = n3 := by omega
 have hrl : (plR sc q j).ret.length = j := by simp [plR]; omega
 have fin : ∀ (e' : Nat → AV) (h' : Heap) (n' : Nat) T' p', (∀ i ∈ [2, 3, 4, 5, 7, 55, 56], e' i = e i) → e' 57 = ii (j + 1 : Nat) → BI hB n1 bid mid T' h' n' p' (plR sc q (j + 1)) (slF q q.items.length) → Q .normal ⟨e', h', n'⟩ := fun e' h' n' T' p' he k57 b' =>
  hQ _ ⟨T', p', B.up (fun i hi => he i (by simp at hi ⊢; omega)), (he 55 (by simp)).trans q55, (he 56 (by simp)).trans q56, k57, b'⟩
 rw [hpl] at fin
 rcases gl.at with ⟨ga, g0, rfl⟩ | ⟨rid, ver, ga, gT, gh⟩
 ·simp [evz, ga, hbb2, bcells, ii, ss, bv, x4, x5, k1, k2, hw]
  have V := Mv.three_nil (n' := n3 + 3) bi2.s (k := 6) (by omega) ⟨[ca, la], 0, true, 2⟩ ⟨[ca, la], 0, true, 2⟩ ⟨bcells { p with ra := .s (n3 + 1) 0 0 1 } (plR sc q j) mid, 0, true, 17⟩ (by omega)
  refine ⟨fun _ => keepL_up rfl fun t ht => ?_, last_no (by kernel_rfl), fin _ _ _ _ _ (by simp [up]) (by simp [up, ii]) (bi2.rtapp V (.s (n3 + 1) 0 0 1) _ (up_same _ _ _) ?_)⟩
  ·simp [ldSlots] at ht
   rcases ht with rfl | rfl | rfl
   ·exact ⟨bid, 0, _, by simp [up]; rfl, by omega⟩
   ·exact ⟨n, 0, 0, by simp [up, q2], by omega⟩
   ·exact ⟨n + 1, 0, 0, by simp [up, q3], by omega⟩
  ·have hne : (plR sc q j).ret = [] := List.length_eq_zero_iff.1 g0
   rw [hne]
   exact LR.app (xs := []) (cs := []) (ns := [ca, la]) (by simp) (by rfl) (if_pos rfl) (by rw [up_ne _ _ (Ne.symm x4), up_same]; rfl) (fun i hi => by simp at hi) (dPrg.mono (V.still bi2.s.fr) hpr)
 ·have y1 : ¬ rid = n3 := by have := lt_of gh bi2.s.fr; omega
  have y3 : ¬ rid = bid := fun e => by rw [e, bi2.s.tb] at gT; cases gT
  have y4 : ¬ bid = rid := fun e => y3 e.symm
  have y5 : ¬ n = rid := fun e => by rw [← e, bi.s.low n (by have := B.n1; omega) (by omega) (by have := B.mi; omega)] at gT; cases gT
  have y6 : ¬ n + 1 = rid := fun e => by rw [← e, bi.s.low (n + 1) (by have := B.n1; omega) (by omega) (by have := B.mi; omega)] at gT; cases gT
  have hcl := gl.1
  rw [hrl] at ga hcl
  simp [evz, ga, gh, hbb2, bcells, ii, ss, bv, x4, x5, k1, k2, hw, y1, y4, hcl]
  have V1 := Mv.three (n' := n3 + 3) bi2.s (k := 6) (by omega) gT (lt_of gh bi2.s.fr) ⟨[ca, la], 0, true, 2⟩ ⟨cs ++ [ca, la], ver, true, 2⟩ ⟨bcells { p with ra := .s rid ver 0 (j + 1) } (plR sc q j) mid, 0, true, 17⟩ (by omega)
  have V2 := Mv.three_nil (n' := n3 + 3) bi2.s (k := 6) (by omega) ⟨[ca, la], 0, true, 2⟩ ⟨cs ++ [ca, la], 0, true, 2⟩ ⟨bcells { p with ra := .s (n3 + 1) 0 0 (j + 1) } (plR sc q j) mid, 0, true, 17⟩ (by omega)
  refine ⟨⟨by omega, by omega⟩, ⟨fun _ => keepL_up rfl fun t ht => ?_, last_no (by kernel_rfl), fin _ _ _ _ _ (by simp [up]) (by simp [up, ii]) (bi2.rtapp V1 (.s rid ver 0 (j + 1)) _ (up_same _ _ _) ?_)⟩, fun _ => keepL_up rfl fun t ht => ?_, last_no (by kernel_rfl), fin _ _ _ _ _ (by simp [up]) (by simp [up, ii]) (bi2.rtapp V2 (.s (n3 + 1) 0 0 (j + 1)) _ (up_same _ _ _) ?_)⟩
  ·simp [ldSlots] at ht
   rcases ht with rfl | rfl | rfl
   ·exact ⟨bid, 0, _, by simp [up]; rfl, by omega⟩
   ·exact ⟨n, 0, 0, by simp [up, q2], by omega⟩
   ·exact ⟨n + 1, 0, 0, by simp [up, q3], by omega⟩
  ·have := LR.app (T' := T) (k := 6) (h' := up (up (up h2 n3 (some ⟨[ca, la], 0, true, 2⟩)) rid (some ⟨cs ++ [ca, la], ver, true, 2⟩)) bid (some ⟨bcells { p with ra := .s rid ver 0 (j + 1) } (plR sc q j) mid, 0, true, 17⟩)) (R' := fun _ l x => dPrg.run (still T (up (up (up h2 n3 (some ⟨[ca, la], 0, true, 2⟩)) rid (some ⟨cs ++ [ca, la], ver, true, 2⟩)) bid (some ⟨bcells { p with ra := .s rid ver 0 (j + 1) } (plR sc q j) mid, 0, true, 17⟩))) l = some x) (x := pr) (cs := cs) (ns := [ca, la]) gl.1 (by rfl) gT (by rw [up_ne _ _ y3, up_same]) (fun i hi => dPrg.mono (V1.still bi2.s.fr) (gR i hi)) (dPrg.mono (V1.still bi2.s.fr) hpr)
   rw [hrl] at this
   exact this
  ·simp [ldSlots] at ht
   rcases ht with rfl | rfl | rfl
   ·exact ⟨bid, 0, _, by simp [up]; rfl, by omega⟩
   ·exact ⟨n, 0, 0, by simp [up, q2], by omega⟩
   ·exact ⟨n + 1, 0, 0, by simp [up, q3], by omega⟩
  ·have := LR.app (T' := fun i => if i = n3 + 1 then 6 else T i) (k := 6) (h' := up (up (up h2 n3 (some ⟨[ca, la], 0, true, 2⟩)) (n3 + 1) (some ⟨cs ++ [ca, la], 0, true, 2⟩)) bid (some ⟨bcells { p with ra := .s (n3 + 1) 0 0 (j + 1) } (plR sc q j) mid, 0, true, 17⟩)) (R' := fun _ l x => dPrg.run (still (fun i => if i = n3 + 1 then 6 else T i) (up (up (up h2 n3 (some ⟨[ca, la], 0, true, 2⟩)) (n3 + 1) (some ⟨cs ++ [ca, la], 0, true, 2⟩)) bid (some ⟨bcells { p with ra := .s (n3 + 1) 0 0 (j + 1) } (plR sc q j) mid, 0, true, 17⟩))) l = some x) (x := pr) (cs := cs) (ns := [ca, la]) gl.1 (by rfl) (if_pos rfl) (by rw [up_ne _ _ (Ne.symm x4), up_same]) (fun i hi => dPrg.mono (V2.still bi2.s.fr) (gR i hi)) (dPrg.mono (V2.still bi2.s.fr) hpr)
   rw [hrl] at this
   exact this
end
end Go.Proofs.YtbffkkeieihpdaaGreatDoor

namespace Go.Proofs.YtbffkkeieihpdaaGreatDoor
open Go Go.Eng
section
variable {h : Heap} {n : Nat} {sc : List Ty} {q : Qu} {sa qa qb qc : AV} {hB : Heap} {n1 bid mid : Nat}
theorem conjs_len (q : Qu) : (conjs q).length = (rootsQ q.wh).length := by rw [conjs_roots, List.length_map]
theorem b17g (W : Wf sc q) (hwh : smallT q.wh) (e3 : rd dNs h qb = some q.wh) (hn : Fresh n h) {T : Nat → Nat} {p : Pt} {z : AV} (e : Nat → AV) (h1 : Heap) (n2 : Nat) (a : C17 h n sc q sa qa qb qc hB n1 bid mid T p 0 z ⟨e, h1, n2⟩) {Q : Ex → St → Prop}
  (hQ : ∀ s', (∃ T' p', C17 h n sc q sa qa qb qc hB n1 bid mid T' p' (rootsQ q.wh).length z s') → Q (.exit 0) s') :
  awp (cz [3] (pfL tp17)) (.loop c17L) Q ⟨e, h1, n2⟩ := by
 refine awp_loop (fun s => ∃ j T p, j ≤ (rootsQ q.wh).length ∧ C17 h n sc q sa qa qb qc hB n1 bid mid T p j z s) (fun s => (rootsQ q.wh).length - (s.e 43).i.toNat) ⟨0, T, p, Nat.zero_le _, a⟩ ?_
 rintro e' h' n' ⟨j, T', p', hj, J⟩
 by_cases hlt : j < (rootsQ q.wh).length
 ·have k1 := J.q43
  simp only [] at k1
  refine b17e W hwh e3 hn hlt _ _ _ J fun s' ⟨T'', p'', J'⟩ => ?_
  rw [thenQ_n]
  refine ⟨⟨j + 1, T'', p'', hlt, J'⟩, ?_⟩
  show (rootsQ q.wh).length - (s'.e 43).i.toNat < (rootsQ q.wh).length - (e' 43).i.toNat
  rw [k1, J'.q43]
  simp [ii, AV.i]
  omega
 ·obtain rfl : j = (rootsQ q.wh).length := by omega
  have q42 := J.q42
  have q43 := J.q43
  simp only [] at q42 q43
  obtain ⟨B, r41, r41', r42, r43, bi⟩ := J
  simp [evz, hdC, tlC, c17L, bodyL, Tryz.f17, q42, q43, ii]
  exact hQ _ ⟨T', p', B.up (by simp [up]), by simpa [up] using r41, r41', by simpa [up] using r42, by simpa [up] using r43, bi⟩
theorem b17h (W : Wf sc q) (hrt : ∀ t ∈ q.ret, smallT t) (e1 : rd dTys h sa = some sc) (e2 : deQ h (.g (qcells q qa qb qc)) = some q) (hn : Fresh n h) {T : Nat → Nat} {p : Pt} (e : Nat → AV) (h1 : Heap) (n2 : Nat) (a : D17 h n sc q sa qa qb qc hB n1 bid mid T p 0 ⟨e, h1, n2⟩) {Q : Ex → St → Prop}
  (hQ : ∀ s', (∃ T' p', D17 h n sc q sa qa qb qc hB n1 bid mid T' p' q.ret.length s') → Q (.exit 2) s') :
  awp (cz [3] (pfL tp17)) (.loop c17M) Q ⟨e, h1, n2⟩ := by
 refine awp_loop (fun s => ∃ j T p, j ≤ q.ret.length ∧ D17 h n sc q sa qa qb qc hB n1 bid mid T p j s) (fun s => q.ret.length - (s.e 57).i.toNat) ⟨0, T, p, Nat.zero_le _, a⟩ ?_
 rintro e' h' n' ⟨j, T', p', hj, J⟩
 by_cases hlt : j < q.ret.length
 ·have k1 := J.q57
  simp only [] at k1
  refine b17f W hrt e1 e2 hn hlt _ _ _ J fun s' ⟨T'', p'', J'⟩ => ?_
  rw [thenQ_n]
  refine ⟨⟨j + 1, T'', p'', hlt, J'⟩, ?_⟩
  show q.ret.length - (s'.e 57).i.toNat < q.ret.length - (e' 57).i.toNat
  rw [k1, J'.q57]
  simp [ii, AV.i]
  omega
 ·obtain rfl : j = q.ret.length := by omega
  have q56 := J.q56
  have q57 := J.q57
  simp only [] at q56 q57
  obtain ⟨B, r1, r2, r3, bi⟩ := J
  simp [evz, hdC, tlC, c17M, bodyL, Tryz.f17, q56, q57, ii]
  exact hQ _ ⟨T', p', B.up (by simp [up]), by simpa [up] using r1, by simpa [up] using r2, by simpa [up] using r3, bi⟩
theorem b17i (hc : chk sc q = fl0) (e : Nat → AV) (h1 : Heap) (n2 : Nat) {T : Nat → Nat} {p : Pt} (a : D17 h n sc q sa qa qb qc hB n1 bid mid T p q.ret.length ⟨e, h1, n2⟩) :
  awp (cz [3] (pfL tp17)) (tlC 8 (Tryz.f17.body.getD .skip)) (finQ (cz [3] (pfL tp17)) Tryz.f17 (Q17 h n sc q)) ⟨e, h1, n2⟩ := by
 obtain ⟨B, _, _, _, bi⟩ := a
 simp only [] at B bi
 obtain ⟨lo, ag⟩ := bi.low2 B
 obtain ⟨lb, lm, nbm⟩ := bi.low
 have q4 := B.q4
 have q5 := B.q5
 have q7 := B.q7
 have nb1 := B.bi
 have nb2 := B.mi
 have nb3 := B.n1
 have nb4 := bi.s.nn
 have hb4 := (lo _ (by omega)).trans B.b4
 have hb5 := (lo _ (by omega)).trans B.b5
 have hbb := bi.bb
 have hP : plR sc q q.ret.length = planOf sc q := by simp only [plR, List.take_length]; rfl
 rw [hP] at hbb bi
 have z1 : ¬ bid = n + 2 := by omega
 have z2 : ¬ bid = n + 3 := by omega
 obtain ⟨a', b', c', e0, x1, x2, x3⟩ := deQ_out bi.s.qu
 cases e0
 have s1 := sl_is bi.s.sch
 have s2 := sl_is x1
 have s3 := sl_is x2
 have s4 := sl_is x3
 have s5 := bi.cm.isS
 have s6 := bi.ng.isS
 have s7 := bi.fx.isS
 have s8 := bi.us.isS
 have s9 := bi.cl.isS
 have s10 := bi.rt.isS
 have t2 : T (n + 2) = 9 := bi.s.low _ (by omega) (by omega) (by omega)
 have t3 : T (n + 3) = 9 := bi.s.low _ (by omega) (by omega) (by omega)
 simp [evz, tlC, Tryz.f17, q4, q5, q7, hb4, hb5, hbb, bcells, zpl, nilA, fcells, fl0, ii, ss, bv, s1, s2, s3, s4, s5, s6, s7, s8, s9, s10, ldcs_16]
 refine ⟨(agree_up (by omega) _).2 ((agree_up (by omega) _).2 ag), (fresh_up (by omega) _).2 ((fresh_up (by omega) _).2 (bi.s.fr.add 2)), by omega, .inr ⟨by rw [hc]; rfl, p, by simp [pcells, ff, fcells, fl0, ii, ss, bv], bi.plr fun id hid => ?_⟩⟩
 rw [up_ne _ _ (fun e => hid (by rw [e]; exact t3)), up_ne _ _ (fun e => hid (by rw [e]; exact t2))]
theorem c17 (e1 : rd dTys h sa = some sc) (e2 : deQ h (.g (qcells q qa qb qc)) = some q) (hok : okCh (sc, q)) (hn : Fresh n h) :
  ACall (cz [3] (pfL tp17)) 17 [.g [sa], .g (qcells q qa qb qc)] h n (Q17 h n sc q) := by
 refine acall_of_awp (args := [.g [sa], .g (qcells q qa qb qc)]) (pfZ_ok (tb_cons P54 tb_nil)) (mixed_z _ _) Tryz.func17 (c := Tryz.f17.body.getD .skip) rfl (by kernel_rfl) (callable Tryz.func17 rfl rfl [] (pfL [])) (show 2 ≤ Tryz.f17.ntmps by decide +kernel) ?_
 obtain ⟨a', b', c', e0, x1, x2, x3⟩ := deQ_out e2
 cases e0
 have hwh := hok.2.wh
 have hrt : ∀ t ∈ q.ret, smallT t := fun t ht => by
  obtain ⟨i, hi, rfl⟩ := List.mem_iff_getElem.1 ht
  have := hok.2.rt i hi
  rwa [List.getD_eq_getElem?_getD, List.getElem?_eq_getElem hi] at this
 refine awp_cut 2 _ _ (b17a e1 e2 hok hn (env0 [.g [sa], .g (qcells q qa qb qc)]) rfl rfl) fun e3 h3 n3 ⟨A, hc⟩ => ?_
 obtain ⟨hc0, W⟩ := wf_of hc
 refine awp_cut 2 _ _ (b17b W hwh hrt e1 e2 hn e3 h3 n3 A) fun e4 h4 n4 ⟨hB, n1, bid, mid, T, p, B, bi⟩ => ?_
 refine awp_cut 2 _ _ (b17c W e4 h4 n4 B bi) fun e5 h5 n5 ⟨B5, T5, p5, bi5⟩ => ?_
 refine awp_cut 1 _ _ (R := fun s => ∃ T p, B17 h n q sa qa qb qc hB n1 bid mid s.e ∧ BI hB n1 bid mid T s.h s.n p (plR sc q 0) (slF q q.items.length)) ?_ fun e6 h6 n6 ⟨T6, p6, B6, bi6⟩ => ?_
 ·show awp _ (.seq (hdC 1 (hdC 1 (tlC 6 (Tryz.f17.body.getD .skip)))) (.block 0 (.loop c17L))) _ _
  rw [awp_seq]
  refine awp_mono _ (fun x s hxx => ?_) (b17d (Q := fun _ _ => False) hwh x2 hn e5 h5 n5 B5 bi5)
  cases x with
  | normal =>
   obtain ⟨e7, h7, n7⟩ := s
   rw [thenQ_n] at hxx
   obtain ⟨T7, p7, z7, C7⟩ := hxx
   rw [thenQ_n, awp_block]
   refine b17g W hwh x2 hn e7 h7 n7 C7 fun s' ⟨T8, p8, C8⟩ => ?_
   rw [blockQ_e, if_pos rfl, thenQ_n]
   refine ⟨T8, p8, C8.b, ?_⟩
   have := C8.bi
   rw [← conjs_len, List.take_length] at this
   exact this
  | exit i => exact (by simp [thenQ_e] at hxx : False).elim
  | ret => exact (by simp [thenQ_r] at hxx : False).elim
 ·simp only [] at B6 bi6
  refine awp_cut 1 _ _ (R := fun s => ∃ T p, D17 h n sc q sa qa qb qc hB n1 bid mid T p q.ret.length s) ?_ fun e8 h8 n8 ⟨T8, p8, D8⟩ => b17i hc0 e8 h8 n8 D8
  show awp _ (.seq (hdC 1 (hdC 1 (tlC 7 (Tryz.f17.body.getD .skip)))) (.block 2 (.loop c17M))) _ _
  obtain ⟨lo, ag⟩ := bi6.low2 B6
  have q3 := B6.q3
  have hb3 : h6 (n + 1) = some ⟨[qa, .v (.int .i64 q.mode), .v (.int .i64 q.after), qb, .v (.int .i64 q.within), .v (.string q.par), qc], 0, true, 7⟩ := (lo _ (by omega)).trans B6.b3
  obtain ⟨t1, t2, t3, t4, t5⟩ := sl_is x3
  simp [evz, hdC, tlC, Tryz.f17, q3, hb3, t1, t2]
  refine b17h W hrt e1 e2 hn _ _ _ (⟨B6.up (by simp [up]), by simp [up], by simp [up, ii], by simp [up, ii], bi6⟩ : D17 h n sc q sa qa qb qc hB n1 bid mid T6 p6 0 _) fun s' ⟨T9, p9, D9⟩ => ?_
  rw [blockQ_e, if_pos rfl, thenQ_n]
  exact ⟨T9, p9, D9⟩
end
end Go.Proofs.YtbffkkeieihpdaaGreatDoor

namespace Go.Proofs.YtbffkkeieihpdaaGreatDoor
open Go Go.Eng
def stA : ByteArray := ⟨#[65]⟩
def stB : ByteArray := ⟨#[66]⟩
def sta : ByteArray := ⟨#[97]⟩
def stx : ByteArray := ⟨#[120]⟩
def stn : ByteArray := ⟨#[110]⟩
def sc0 : List Ty := [⟨stA, [stx]⟩, ⟨stB, []⟩]
def wh0 : List Nd := [⟨4, 0, sta, stx, -1, -1⟩, ⟨1, 1, ⟨#[]⟩, ⟨#[]⟩, -1, -1⟩, ⟨19, 0, ⟨#[]⟩, ⟨#[]⟩, 0, 1⟩]
def q0 : Qu := ⟨[⟨false, [stA], sta, 1, 1⟩, ⟨true, [stB], stn, 1, 1⟩], 0, 0, wh0, 3, ⟨#[]⟩, []⟩
def evq0 : Ev := ⟨0, 0, 0, 0, 0, 0, 0, 0, 0, 0, 0⟩
def evq1 : Ev := ⟨0, 0, 0, 1, 0, 0, 0, 0, 0, 0, 0⟩
def evq2 : Ev := ⟨0, 0, 1, 1, 0, 0, 0, 0, 0, 0, 0⟩
theorem chk0 : (chk sc0 q0).code = 0 := by kernel_rfl
theorem pl0_c : (planOf sc0 q0).comps.length = 1 := by kernel_rfl
theorem pl0_n : (planOf sc0 q0).negs.length = 1 := by kernel_rfl
theorem pl0_u : (planOf sc0 q0).used.length = 2 := by kernel_rfl
theorem pl0_t : (planOf sc0 q0).tail = true := by kernel_rfl
theorem pl0_l : (planOf sc0 q0).lead = false := by kernel_rfl
theorem pl0_0 : takesV (planOf sc0 q0) 0 evq0 = false := by kernel_rfl
theorem pl0_1 : takesV (planOf sc0 q0) 0 evq1 = true := by kernel_rfl
theorem pl0_2 : guardsV (planOf sc0 q0) 0 evq2 = true := by kernel_rfl
theorem pl0_3 : inStrV (planOf sc0 q0) 1 = true := by kernel_rfl
end Go.Proofs.YtbffkkeieihpdaaGreatDoor

namespace Go.Proofs.YtbffkkeieihpdaaGreatDoor
open Go Go.Eng
def G78 := pureH (de4 rI rS rS rI) (fun _ => True) fun q => nn ⟨q.1, q.2.2.2, q.2.1, q.2.2.1, -1, -1⟩
theorem P78 : P0 [] 78 G78 := by
 refine mkH 4 (S := []) (l := []) tb_nil Tryz.func78 rfl (by kernel_rfl) de4_mono de4_len (fun a => rfl) (fun args q h n e hp hn => ?_)
 obtain ⟨a, b, c, d, rfl, e1, e2, e3, e4⟩ := de4_out e
 obtain ⟨o, v, z, k⟩ := q
 simp only [] at e1 e2 e3 e4 hp ⊢
 have := deI_out e1; subst this
 have := deS_out e2; subst this
 have := deS_out e3; subst this
 have := deI_out e4; subst this
 have key : ∀ e : Nat → AV, e 0 = ii o → e 1 = ss v → e 2 = ss z → e 3 = ii k → awp (cx [] (pfL [])) (Tryz.f78.body.getD .skip) (finQ (cx [] (pfL [])) Tryz.f78 fun y _ _ => y = nn ⟨o, k, v, z, -1, -1⟩) ⟨e, roH h, n⟩ := fun e q0 q1 q2 q3 => by
  simp [evx, Tryz.f78, q0, q1, q2, q3, ii, ss, nn, ncells, ldcs_6]
 exact key _ rfl rfl rfl rfl
def tbSt : List (FuncId × (List AV → Heap → PRes)) := [(78, G78), (30, GTakes), (32, GGuards), (26, GIn)]
def SP : List Nat := [0, 1, 2, 3, 4, 5, 6, 7]
theorem st_sc {H : Heap} {b0 b1 : Nat} (h0 : H b0 = some ⟨[ss stx], 0, true, 1⟩) (h1 : H b1 = some ⟨[ss stA, .s b0 0 0 1, ss stB, .v (.slice none 0 0)], 0, true, 2⟩) : rd dTys H (.s b1 0 0 2) = some sc0 := by
 have r : rd dSs H (.s b0 0 0 1) = some [stx] := flat_in Flat.str (l := [stx]) h0 rfl (r := []) rfl
 refine De.sl_in (xs := sc0) (off := 0) h1 (Nat.le_refl 4) fun i hi => ?_
 match i, hi with
 | 0, _ => exact deTyc_in (x := ⟨stA, [stx]⟩) r
 | 1, _ => exact deTyc_in (x := ⟨stB, []⟩) (show rd dSs H (.v (.slice none 0 0)) = some [] from rfl)
 | i + 2, hi => exact absurd hi (by simp [sc0])
theorem st_it {H : Heap} {b0 b1 b2 : Nat} (h0 : H b0 = some ⟨[ss stA], 0, true, 1⟩) (h1 : H b1 = some ⟨[ss stB], 0, true, 1⟩) (h2 : H b2 = some ⟨[bv false, .s b0 0 0 1, ss sta, ii 1, ii 1, bv true, .s b1 0 0 1, ss stn, ii 1, ii 1], 0, true, 5⟩) : rd dIts H (.s b2 0 0 2) = some q0.items := by
 have r0 : rd dSs H (.s b0 0 0 1) = some [stA] := flat_in Flat.str (l := [stA]) h0 rfl (r := []) rfl
 have r1 : rd dSs H (.s b1 0 0 1) = some [stB] := flat_in Flat.str (l := [stB]) h1 rfl (r := []) rfl
 refine De.sl_in (xs := q0.items) (off := 0) h2 (Nat.le_refl 10) fun i hi => ?_
 match i, hi with
 | 0, _ => exact deItc_in (x := ⟨false, [stA], sta, 1, 1⟩) r0
 | 1, _ => exact deItc_in (x := ⟨true, [stB], stn, 1, 1⟩) r1
 | i + 2, hi => exact absurd hi (by simp [q0])
theorem st_wh {H : Heap} {b : Nat} (h0 : H b = some ⟨wh0.flatMap ncells, 0, true, 6⟩) : rd dNs H (.s b 0 0 3) = some q0.wh := flat_in Flat.nd (l := wh0) h0 rfl (r := []) (by rw [List.append_nil])
section
variable {h : Heap} {n : Nat}
structure A34 (h : Heap) (n : Nat) (sa qa qb qc : AV) (s : St) : Prop where
 m1 : ∃ m, s.e 1 = .p m 0 0 ∧ s.h m = some ⟨[sa], 0, true, 1⟩
 m2 : ∃ m, s.e 2 = .p m 0 0 ∧ s.h m = some ⟨qcells q0 qa qb qc, 0, true, 7⟩
 e1 : rd dTys s.h sa = some sc0
 e2 : deQ s.h (.g (qcells q0 qa qb qc)) = some q0
 ag : agree n h s.h
 fr : Fresh s.n s.h
 nn : n ≤ s.n
theorem g78 (h : Heap) (o k : Int) (v z : ByteArray) : G78 [.v (.int .i64 o), .v (.string v), .v (.string z), .v (.int .i64 k)] h = ⟨True, .g [.v (.int .i64 o), .v (.int .i64 k), .v (.string v), .v (.string z), .v (.int .i64 (-1)), .v (.int .i64 (-1))]⟩ := rfl
theorem b34a (hn : Fresh n h) (e : Nat → AV) {Q} : awp (cz SP (pfL tbSt)) (hdC 4 (Tryz.f34.body.getD .skip)) (thenQ (fun s => ∃ sa qa qb qc, A34 h n sa qa qb qc s) Q) ⟨e, h, n⟩ := by
 simp [evz, hdC, Tryz.f34, tbSt, g78]
 refine ⟨.s (n + 1) 0 0 2, .s (n + 6) 0 0 2, .s (n + 9) 0 0 3, nilA, ⟨n + 2, by simp [up], by simp [up]⟩, ⟨n + 7, by simp [up], by simp [up, qcells, q0, ii, ss, nilA]; rfl⟩, st_sc (b0 := n) (by simp [up]; rfl) (by simp [up, ss, stA, stB]), ?_, by simp [agree_up, agree_refl], by simp [fresh_up, hn.add], by simp⟩
 exact deQ_in (q := q0) (st_it (b0 := n + 4) (b1 := n + 5) (by simp [up]; rfl) (by simp [up]; rfl) (by simp [up, ss, ii, bv, sta, stn])) (st_wh (by simp [up]; rfl)) rfl
end
end Go.Proofs.YtbffkkeieihpdaaGreatDoor

namespace Go.Proofs.YtbffkkeieihpdaaGreatDoor
open Go Go.Eng
structure SQ (sc : List Ty) (q : Qu) : Prop where
 s1 : sc.length * 40 ≤ 140737488355328
 s2 : ∀ t ∈ sc, t.attrs.length * 16 ≤ 140737488355328
 q1 : q.items.length * 64 ≤ 140737488355328
 qt : ∀ it ∈ q.items, it.types.length * 16 ≤ 140737488355328
 q2 : smallT q.wh
 r2 : ∀ x ∈ q.wh, Rng x.n
 q3 : q.ret.length * 24 ≤ 140737488355328
 q4 : ∀ t ∈ q.ret, smallT t
 r4 : ∀ t ∈ q.ret, ∀ x ∈ t, Rng x.n
section
variable {sc : List Ty} {q : Qu}
theorem SQ.ok (w : SQ sc q) : okCh (sc, q) := by
 have a1 := w.s1
 have a2 := w.q1
 have a3 := w.q3
 refine ⟨⟨show sc.length < _ by unfold big; omega, fun t ht => by have := w.s2 t ht; unfold big; omega⟩, show q.items.length < _ by unfold big; omega, fun i hi => ?_, w.q2, show q.ret.length < _ by unfold big; omega, fun i hi => ?_⟩
 ·rw [List.getD_eq_getElem?_getD, List.getElem?_eq_getElem hi, Option.getD_some]
  have := w.qt _ (List.getElem_mem hi)
  unfold big; omega
 ·rw [List.getD_eq_getElem?_getD, List.getElem?_eq_getElem hi, Option.getD_some]
  exact w.q4 _ (List.getElem_mem hi)
theorem SQ.tl (w : SQ sc q) : sc.length * 8 ≤ 140737488355328 := by have := w.s1; omega
theorem SQ.vs (w : SQ sc q) : (vars q.items).length < big := by have := w.q1; simp only [vars, List.length_map]; unfold big; omega
theorem conj_is {t : List Nd} (h : t ∈ conjs q) : ∃ r, t = subT q.wh r ∧ r ∈ rootsQ q.wh := by
 rw [conjs_roots] at h
 obtain ⟨r, h1, rfl⟩ := List.mem_map.1 h
 exact ⟨r, rfl, h1⟩
theorem SQ.conj (w : SQ sc q) {t : List Nd} (h : t ∈ conjs q) : smallT t ∧ (∀ x ∈ t, Rng x.n) := by
 obtain ⟨r, rfl, h1⟩ := conj_is h
 obtain ⟨h2, h3⟩ := roots_lt h1
 refine ⟨sub_small h2 h3 w.q2, fun x hx => ?_⟩
 simp only [subT, cutT, List.mem_map] at hx
 obtain ⟨y, hy, rfl⟩ := hx
 exact w.r2 y (List.mem_of_mem_drop (List.mem_of_mem_take hy))
theorem SQ.comp (w : SQ sc q) {t : List Nd} (h : t ∈ conjs q) : PrOk (compP sc (vars q.items) t) := comp_ok w.vs (w.conj h).1 w.tl (w.conj h).2
theorem conjs_le (w : SQ sc q) : (conjs q).length ≤ 1099511627776 := by rw [conjs_roots, List.length_map]; exact roots_len w.q2
theorem tys_len (W : Wf sc q) {i : Nat} (hi : i < q.items.length) : (tysOf sc (itA q i)).length ≤ 16 := by
 rw [tysOf, List.length_map]
 exact W.short.2.2.2.2 _ (by rw [itA_at hi]; exact List.getElem_mem hi)
theorem ownL_ok (w : SQ sc q) {i : Int} {f : Pr} (hf : f ∈ ownL sc q (conjs q) i) : PrOk f := by
 simp only [ownL, List.mem_map, List.mem_filter] at hf
 obtain ⟨t, ⟨ht, _⟩, rfl⟩ := hf
 exact w.comp ht
theorem plan_cm {k : Cmp} (hk : k ∈ (planOf sc q).comps) : ∃ i, i < q.items.length ∧ (itA q i).neg = false ∧ k = cmpOf sc q (conjs q) i := by
 have hk : k ∈ cmpsOf sc q (conjs q) q.items.length := hk
 rw [cmpsOf, List.mem_map] at hk
 obtain ⟨i, hi, rfl⟩ := hk
 obtain ⟨h1, h2⟩ := posI_mem.1 hi
 exact ⟨i, h1, h2, rfl⟩
theorem plan_ng {k : Ng} (hk : k ∈ (planOf sc q).negs) : ∃ i, i < q.items.length ∧ (itA q i).neg = true ∧ k = ngOf sc q (conjs q) i := by
 have hk : k ∈ ngsOf sc q (conjs q) q.items.length := hk
 rw [ngsOf, List.mem_map] at hk
 obtain ⟨i, hi, rfl⟩ := hk
 obtain ⟨h1, h2⟩ := negI_mem.1 hi
 exact ⟨i, h1, h2, rfl⟩
theorem plan_tk (W : Wf sc q) (w : SQ sc q) {c : Int} {x : Ev} (hx : EvOk x) : okTk (planOf sc q, c, x) := by
 have h1 := W.n1
 have h2 := posneg q q.items.length
 have h3 := conjs_le w
 refine ⟨by show q.items.length ≤ _; omega, by show (cmpsOf sc q (conjs q) q.items.length).length < _; rw [cmpsOf, List.length_map]; unfold big; omega, fun k hk => ?_, hx⟩
 obtain ⟨i, hi, _, rfl⟩ := plan_cm hk
 exact ⟨by have := tys_len W hi; show (tysOf sc (itA q i)).length < _; unfold big; omega, by have := @ownL_len sc q (conjs q) i; show (ownL sc q (conjs q) i).length < _; unfold big; omega, fun f hf => ownL_ok w hf⟩
theorem plan_gd (W : Wf sc q) (w : SQ sc q) {c : Int} {x : Ev} (hx : EvOk x) : okGd (planOf sc q, c, x) := by
 have h1 := W.n1
 have h2 := posneg q q.items.length
 have h3 := conjs_le w
 refine ⟨by show q.items.length ≤ _; omega, by show (ngsOf sc q (conjs q) q.items.length).length < _; rw [ngsOf, List.length_map]; unfold big; omega, fun k hk => ?_, hx⟩
 obtain ⟨i, hi, _, rfl⟩ := plan_ng hk
 exact ⟨by have := tys_len W hi; show (tysOf sc (itA q i)).length < _; unfold big; omega, by have := @ownL_len sc q (conjs q) i; show (ownL sc q (conjs q) i).length < _; unfold big; omega, fun f hf => ownL_ok w hf⟩
end
theorem sq0 : SQ sc0 q0 := by
 refine ⟨by decide, ?_, by decide, ?_, by unfold smallT; decide, ?_, by decide, ?_, ?_⟩
 ·intro t ht
  simp only [sc0, List.mem_cons, List.not_mem_nil, or_false] at ht
  rcases ht with rfl | rfl <;> simp
 ·intro t ht
  simp only [q0, List.mem_cons, List.not_mem_nil, or_false] at ht
  rcases ht with rfl | rfl <;> simp
 ·intro t ht
  simp only [q0, wh0, List.mem_cons, List.not_mem_nil, or_false] at ht
  rcases ht with rfl | rfl | rfl <;> simp [Rng]
 ·intro t ht; simp [q0] at ht
 ·intro t ht; simp [q0] at ht
theorem wf0 : Wf sc0 q0 := (wf_of chk0).2
end Go.Proofs.YtbffkkeieihpdaaGreatDoor
