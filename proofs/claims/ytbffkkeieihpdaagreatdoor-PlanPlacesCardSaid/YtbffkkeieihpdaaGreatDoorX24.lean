import Derived.Test.YtbffkkeieihpdaaGreatDoorX23
import Derived.Test.YtbffkkeieihpdaaGreatDoorX19
import Derived.Test.YtbffkkeieihpdaaGreatDoorX21
import Derived.Test.YtbffkkeieihpdaaGreatDoorX16
set_option linter.unusedSimpArgs false
set_option linter.unusedVariables false
set_option linter.constructorNameAsVariable false
set_option maxRecDepth 100000
set_option maxHeartbeats 4000000
namespace Go.Proofs.YtbffkkeieihpdaaGreatDoor
open Go Go.Eng
structure OwnPk (sz len : Nat) (cs0 : List AV) (hA : Heap) (nA : Nat) (z : AV) (hB : Heap) (nB : Nat) : Prop where
 ag : agree nA hA hB
 fr : Fresh nB hB
 nn : nA ≤ nB
 cz : z.cells = [z]
 one : z.one
 un : ∀ g, AV.unc g z = z
 sS : z.isS
 sl : z.slen = len
 row : (len = 0 ∧ z = .v (.slice none 0 0)) ∨ (0 < len ∧ z = .s nA 0 0 len ∧ nA < nB ∧ hB nA = some ⟨cs0, 0, true, sz⟩)
theorem OwnR.pk {α : Type} {sz : Nat} {d : De α} {l : List α} {a z : AV} {h hA hB : Heap} {n nA nB : Nat} (o : OwnR sz a l.length hA nA z hB nB) (e : rd (De.sl sz d) h a = some l) (hn : Fresh n h) (ha : agree n h hA) (hf : Fresh nA hA) : OwnPk sz l.length (slc h a 0 (l.length * sz)) hA nA z hB nB := by
 obtain ⟨o1, o2, o3⟩ := o.fr hf
 have hs : slc hA a 0 (l.length * sz) = slc h a 0 (l.length * sz) := by
  obtain ⟨cs, c1, _⟩ := rd_copy hn e
  rw [(c1 _ (agree_refl _ _)).2, (c1 _ ha).2]
 rcases o with ⟨h0, rfl, rfl, rfl⟩ | ⟨h0, rfl, rfl, rfl⟩
 ·exact ⟨o1, o2, o3, rfl, rfl, fun _ => rfl, ⟨rfl, rfl⟩, h0.symm, .inl ⟨h0, rfl⟩⟩
 ·exact ⟨o1, o2, o3, rfl, trivial, fun _ => rfl, trivial, rfl, .inr ⟨h0, rfl, by omega, by rw [up_same, hs]⟩⟩
def zq : List AV := [.v (.slice none 0 0), ii 0, ii 0, .v (.slice none 0 0), ii 0, ss ByteArray.empty, .v (.slice none 0 0)]
structure D56 (h : Heap) (n : Nat) (q : Qu) (za zb zc : AV) (wa wc lb hb lo i k : Nat) (ca cc : List AV) (s : St) : Prop where
 q1 : s.e 1 = .p n 0 0
 q2 : s.e 2 = .p (n + 1) 0 0
 b1 : s.h n = some ⟨[za, ii q.mode, ii q.after, zb, ii q.within, ss q.par, zc], 0, true, 7⟩
 b2 : s.h (n + 1) = some ⟨zq, 0, true, 7⟩
 ra : (q.items.length = 0 ∧ za = .v (.slice none 0 0)) ∨ (0 < q.items.length ∧ za = .s wa 0 0 q.items.length ∧ s.h wa = some ⟨ca, 0, true, 5⟩ ∧ RowI h q.items lo i ca s.h s.n ∧ n + 2 ≤ wa ∧ wa < lo ∧ (wa < lb ∨ hb ≤ wa))
 rb : rd dNs (wtn lb hb s.h) zb = some q.wh
 rc : (q.ret.length = 0 ∧ zc = .v (.slice none 0 0)) ∨ (0 < q.ret.length ∧ zc = .s wc 0 0 q.ret.length ∧ s.h wc = some ⟨cc, 0, true, 1⟩ ∧ RowR h q.ret lo k cc s.h s.n ∧ n + 2 ≤ wc ∧ wc < lo ∧ (wc < lb ∨ hb ≤ wc))
 ag : agree n h s.h
 fr : Fresh s.n s.h
 ord : n + 2 ≤ lb ∧ lb ≤ hb ∧ hb ≤ lo ∧ lo ≤ s.n ∧ wa ≠ wc
theorem d56_mk {h hA hB hC hD : Heap} {n nA nB nC nD : Nat} {q : Qu} {a b c za zb zc : AV} {s : St} (x2 : rd dIts h a = some q.items) (x3 : rd dNs h b = some q.wh) (x4 : rd dNss h c = some q.ret)
  (oa : OwnPk 5 q.items.length (slc h a 0 (q.items.length * 5)) hA nA za hB nB) (ob : OwnPk 6 q.wh.length (slc h b 0 (q.wh.length * 6)) hB nB zb hC nC) (oc : OwnPk 1 q.ret.length (slc h c 0 q.ret.length) hC nC zc hD nD)
  (hn : n + 2 = nA) (hag : agree n h hA) (hb2 : hA (n + 1) = some ⟨zq, 0, true, 7⟩) (q1 : s.e 1 = .p n 0 0) (q2 : s.e 2 = .p (n + 1) 0 0) (he : ∀ i, i ≠ n → s.h i = hD i) (b1 : s.h n = some ⟨[za, ii q.mode, ii q.after, zb, ii q.within, ss q.par, zc], 0, true, 7⟩) (hs : nD ≤ s.n) : ∃ wa wc lb hb lo ca cc, D56 h n q za zb zc wa wc lb hb lo 0 0 ca cc s := by
 have ha := oa.nn
 have hb := ob.nn
 have hc := oc.nn
 have aBD : agree nB hB hD := agree_trans ob.ag oc.ag hb
 have aAD : agree nA hA hD := agree_trans oa.ag aBD ha
 have wb : rd dNs (wtn nB nC s.h) zb = some q.wh := by
  rcases ob.row with ⟨h0, rfl⟩ | ⟨h0, rfl, h1, h2⟩
  ·rw [List.length_eq_zero_iff.1 h0]; rfl
  ·refine flat_in Flat.nd (k := ⟨slc h b 0 (q.wh.length * 6), 0, true, 6⟩) ?_ rfl (r := []) (by simp [(flat_app Flat.nd x3).2])
   rw [wtn_at (Nat.le_refl _) h1, he _ (by omega), oc.ag _ h1]; exact h2
 refine ⟨if 0 < q.items.length then nA else n, if 0 < q.ret.length then nC else n + 1, nB, nC, nD, slc h a 0 (q.items.length * 5), slc h c 0 q.ret.length, q1, q2, b1, ?_, ?_, wb, ?_, ?_, ?_, ?_⟩
 ·rw [he _ (by omega), aAD _ (by omega)]; exact hb2
 ·rcases oa.row with h0 | ⟨h0, h1, h2, h3⟩
  ·exact .inl h0
  ·rw [if_pos h0]
   exact .inr ⟨h0, h1, by rw [he _ (by omega), aBD _ h2]; exact h3, rowI_0 x2, by omega, by omega, by omega⟩
 ·rcases oc.row with h0 | ⟨h0, h1, h2, h3⟩
  ·exact .inl h0
  ·rw [if_pos h0]
   exact .inr ⟨h0, h1, by rw [he _ (by omega)]; exact h3, rowR_0 x4, by omega, by omega, by omega⟩
 ·intro i hi
  rw [he _ (by omega), aAD _ (by omega)]; exact hag i hi
 ·intro i hi
  rw [he _ (by omega)]; exact oc.fr i (by omega)
 ·refine ⟨by omega, hb, hc, hs, ?_⟩
  rcases oa.row with ⟨h0, _⟩ | ⟨h0, h1, h2, h3⟩
  ·rw [if_neg (by omega)]
   split <;> omega
  ·rw [if_pos h0]
   split <;> omega
theorem b56a {h : Heap} {n : Nat} {a b c : AV} {q : Qu} (x2 : rd dIts h a = some q.items) (x3 : rd dNs h b = some q.wh) (x4 : rd dNss h c = some q.ret) (hl1 : q.items.length ≤ 2199023255552) (hl2 : q.wh.length ≤ 2199023255552) (hl3 : q.ret.length ≤ 2199023255552) (hn : Fresh n h) {Q} (e : Nat → AV) (q0 : e 0 = .g [a, ii q.mode, ii q.after, b, ii q.within, ss q.par, c]) :
  awp (cx [] (pfL [])) (hdC 2 (Tryz.f56.body.getD .skip)) (thenQ (fun s => ∃ za zb zc wa wc lb hb lo ca cc, D56 h n q za zb zc wa wc lb hb lo 0 0 ca cc s) Q) ⟨e, h, n⟩ := by
 obtain ⟨s1, s2, s3, s4, s5⟩ := sl_is x2
 obtain ⟨t1, t2, t3, t4, t5⟩ := sl_is x3
 obtain ⟨u1, u2, u3, u4, u5⟩ := sl_is x4
 simp [evx, hdC, Tryz.f56, q0, ii, ss, s4, t4, u4]
 generalize hg1 : up (up h n (some ⟨[a, .v (.int .i64 q.mode), .v (.int .i64 q.after), b, .v (.int .i64 q.within), .v (.string q.par), c], 0, true, 7⟩)) (n + 1) (some ⟨[.v (.slice none 0 0), .v (.int .i64 0), .v (.int .i64 0), .v (.slice none 0 0), .v (.int .i64 0), .v (.string ByteArray.empty), .v (.slice none 0 0)], 0, true, 7⟩) = hA
 have hag : agree n h hA := by rw [← hg1]; exact (agree_up (by omega) _).2 ((agree_up (by omega) _).2 (agree_refl _ _))
 have hfA : Fresh (n + 2) hA := by rw [← hg1]; exact (fresh_up (by omega) _).2 ((fresh_up (by omega) _).2 (hn.add 2))
 have hbA : hA n = some ⟨[a, .v (.int .i64 q.mode), .v (.int .i64 q.after), b, .v (.int .i64 q.within), .v (.string q.par), c], 0, true, 7⟩ := by rw [← hg1, up_ne _ _ (by omega), up_same]
 have hb2 : hA (n + 1) = some ⟨zq, 0, true, 7⟩ := by rw [← hg1, up_same]; rfl
 refine (c109 (rd_agr hn x2 _ hag) hl1 hfA).mono ?_
 intro za hB nB o
 have oa := o.pk x2 hn hag hfA
 have agB := agree_trans hag oa.ag (by omega)
 have hbB := (oa.ag n (by omega)).trans hbA
 have nnB := oa.nn
 refine ⟨keep_le (fun i k e => by rw [oa.ag i (lt_of e hfA)]; exact e), ?_⟩
 simp [evx, oa.cz, oa.one]
 have k110 : ∀ Q : AV → Heap → Nat → Prop, (∀ zb hC nC, OwnPk 6 q.wh.length (slc h b 0 (q.wh.length * 6)) hB nB zb hC nC → Heap.le hB hC → hC n = hB n → Q zb hC nC) → ACall (cx [] fun x => none) 110 [b] hB nB Q := fun Q k =>
  (c110 (rd_agr hn x3 _ agB) hl2 oa.fr).mono fun zb hC nC o => by
   have ob := o.pk x3 hn agB oa.fr
   exact k zb hC nC ob (fun i k e => by rw [ob.ag i (lt_of e oa.fr)]; exact e) (ob.ag n (by omega))
 have k111 : ∀ (zb : AV) (hC : Heap) (nC : Nat), OwnPk 6 q.wh.length (slc h b 0 (q.wh.length * 6)) hB nB zb hC nC → ∀ Q : AV → Heap → Nat → Prop, (∀ zc hD nD, OwnPk 1 q.ret.length (slc h c 0 q.ret.length) hC nC zc hD nD → Heap.le hC hD → hD n = hC n → Q zc hD nD) → ACall (cx [] fun x => none) 111 [c] hC nC Q := fun zb hC nC ob Q k => by
  have agC := agree_trans agB ob.ag (by omega)
  refine (c111 (rd_agr hn x4 _ agC) hl3 ob.fr).mono fun zc hD nD o => ?_
  have oc := o.pk x4 hn agC ob.fr
  rw [Nat.mul_one] at oc
  have := ob.nn
  exact k zc hD nD oc (fun i k e => by rw [oc.ag i (lt_of e ob.fr)]; exact e) (oc.ag n (by omega))
 have fin : ∀ (zb : AV) (hC : Heap) (nC : Nat), OwnPk 6 q.wh.length (slc h b 0 (q.wh.length * 6)) hB nB zb hC nC → ∀ (zc : AV) (hD : Heap) (nD : Nat), OwnPk 1 q.ret.length (slc h c 0 q.ret.length) hC nC zc hD nD → ∀ s : St, s.e 1 = .p n 0 0 → s.e 2 = .p (n + 1) 0 0 → (∀ i, i ≠ n → s.h i = hD i) → s.h n = some ⟨[za, ii q.mode, ii q.after, zb, ii q.within, ss q.par, zc], 0, true, 7⟩ → nD ≤ s.n → ∃ za zb zc wa wc lb hb lo ca cc, D56 h n q za zb zc wa wc lb hb lo 0 0 ca cc s := fun zb hC nC ob zc hD nD oc s e1 e2 e3 e4 e5 =>
  ⟨za, zb, zc, d56_mk x2 x3 x4 oa ob oc rfl hag hb2 e1 e2 e3 e4 e5⟩
 refine ⟨k110 _ fun zb hC nC ob lC gC => ?_, ?_⟩
 ·refine ⟨.inl lC, ?_, ?_⟩
  ·refine k111 zb hC nC ob _ fun zc hD nD oc lD gD => ?_
   rw [gC, hbB] at gD
   refine ⟨.inl lD, ?_⟩
   simp [evx, ob.cz, ob.one, oc.cz, oc.one, gD]
   exact fin zb hC nC ob zc hD nD oc _ (by simp [up]) (by simp [up]) (fun i hi => by simp [up, hi]) (by simp [up, ii, ss]) (by simp only []; omega)
  ·refine k111 zb hC nC ob _ fun zc hD nD oc lD gD => ?_
   rw [gC, hbB] at gD
   refine ⟨.inl lD, ?_⟩
   simp [evx, ob.cz, ob.one, oc.cz, oc.one, gD]
   exact fin zb hC nC ob zc hD nD oc _ (by simp [up]) (by simp [up]) (fun i hi => by simp [up, hi]) (by simp [up, ii, ss]) (by simp only []; omega)
 ·refine k110 _ fun zb hC nC ob lC gC => ?_
  refine ⟨.inl lC, ?_⟩
  refine k111 zb hC nC ob _ fun zc hD nD oc lD gD => ?_
  rw [gC, hbB] at gD
  refine ⟨.inl lD, ?_⟩
  simp [evx, ob.cz, ob.one, oc.cz, oc.one, gD]
  exact fin zb hC nC ob zc hD nD oc _ (by simp [up]) (by simp [up]) (fun i hi => by simp [up, hi]) (by simp [up, ii, ss]) (by simp only []; omega)
end Go.Proofs.YtbffkkeieihpdaaGreatDoor

namespace Go.Proofs.YtbffkkeieihpdaaGreatDoor
open Go Go.Eng
theorem RowR.zero {h0 h h' : Heap} {l : List (List Nd)} {lo n n' : Nat} {cs : List AV} (r : RowR h0 l lo 0 cs h n) : RowR h0 l lo 0 cs h' n' := ⟨r.1, fun i hi => by
 obtain ⟨u, u1, u2⟩ := r.2 i hi
 refine ⟨u, u1, ?_⟩
 rw [if_neg (by omega)] at u2 ⊢
 exact u2⟩
theorem RowI.full {h0 h h' : Heap} {l : List It} {lo n n' : Nat} {cs : List AV} (r : RowI h0 l lo l.length cs h n) (hn : n ≤ n') (ha : ∀ i, lo ≤ i → i < n → h' i = h i) : RowI h0 l lo l.length cs h' n' := ⟨r.1, fun i hi => by
 obtain ⟨u, u0, u1, u2⟩ := r.2 i hi
 refine ⟨u, u0, u1, ?_⟩
 rw [if_pos hi] at u2 ⊢
 exact wtn_rd u2 (Nat.le_refl _) hn ha⟩
section
variable {h : Heap} {n : Nat} {q : Qu} {za zb zc : AV} {wa wc lb hb lo : Nat}
theorem b56b (hl : q.items.length ≤ 2199023255552) (hla : ∀ t ∈ q.items, t.types.length ≤ 2199023255552) (hn : Fresh n h) {cc : List AV} (ca : List AV) (s : St) {Q} (D : D56 h n q za zb zc wa wc lb hb lo 0 0 ca cc s) :
  awp (cx [] (pfL [])) (hdC 1 (tlC 2 (Tryz.f56.body.getD .skip))) (thenQ (fun s => ∃ ca, D56 h n q za zb zc wa wc lb hb lo q.items.length 0 ca cc s) Q) s := by
 obtain ⟨e, h1, n1⟩ := s
 show awp (cx [] (pfL [])) (.seq (hdC 1 (hdC 1 (tlC 2 (Tryz.f56.body.getD .skip)))) (.block 0 (.loop (bodyL (hdC 1 (tlC 2 (Tryz.f56.body.getD .skip))))))) _ _
 obtain ⟨q1, q2, b1, b2, ra, rb, rc, ag, fr, ord⟩ := D
 simp only [] at q1 q2 b1 b2 ra rb rc ag fr ord
 have hz : za.isS ∧ za.slen = q.items.length ∧ (∀ g, AV.unc g za = za) ∧ za.cells = [za] := by
  rcases ra with ⟨r1, rfl⟩ | ⟨r1, rfl, _⟩
  ·exact ⟨⟨rfl, rfl⟩, by rw [r1]; rfl, fun _ => rfl, rfl⟩
  ·exact ⟨trivial, rfl, fun _ => rfl, rfl⟩
 obtain ⟨t1, t2, t3, t4⟩ := hz
 simp [evx, hdC, tlC, bodyL, Tryz.f56, q1, b1, t1, t2]
 refine awp_loop (fun s => ∃ j ca, j ≤ q.items.length ∧ s.e 19 = ii q.items.length ∧ s.e 20 = ii j ∧ D56 h n q za zb zc wa wc lb hb lo j 0 ca cc s) (fun s => q.items.length - (s.e 20).i.toNat) ⟨0, ca, by omega, by simp [up, ii], by simp [up, ii], ⟨by simp [up, q1], by simp [up, q2], b1, b2, ra, rb, rc, ag, fr, ord⟩⟩ ?_
 clear ra rb rc
 rintro e' h' n' ⟨j, cs, hj, q19, q20, D⟩
 simp only [] at q19 q20
 obtain ⟨q1, q2, b1, b2, ra, rb, rc, ag, fr, ord⟩ := D
 simp only [] at q1 q2 b1 b2 ra rb rc ag fr ord
 by_cases hlt : j < q.items.length
 ·obtain ⟨r1, rfl, r2, r3, r4, r5, r6⟩ := ra.resolve_left (by omega)
  obtain ⟨c, c1, c2, c3⟩ := r3.2 j hlt
  rw [if_neg (by omega)] at c3
  have c3' := rd_agr hn c3 _ ag
  have hcl := r3.1
  have hbd : j * 5 + 1 < cs.length := by omega
  have c4 : ∀ hb : j * 5 + 1 < cs.length, cs[j * 5 + 1]'hb = c := fun hb => by rw [List.getElem?_eq_getElem hb] at c2; exact Option.some.inj c2
  have hw := wrap_nat (j := j) (by unfold big; omega)
  have hb2 : j * 5 + 2 ≤ cs.length := by omega
  have hla' := hla _ (List.getElem_mem hlt)
  simp [evx, q19, q20, q1, b1, ii, ss, hlt, r2, c4, hbd, hb2]
  refine (c108 c3' hla' fr).mono ?_
  intro v h3 n3 o
  obtain ⟨o1, o2, o3⟩ := o.fr fr
  have hle : Heap.le h' h3 := fun i k e => by rw [o1 i (lt_of e fr)]; exact e
  have ov := o.flat Flat.str c3'
  have hv : v.cells = [v] ∧ v.one := by
   rcases o with ⟨_, rfl, _⟩ | ⟨_, rfl, _⟩
   ·exact ⟨rfl, rfl⟩
   ·exact ⟨rfl, trivial⟩
  have g1 := (o1 wa (by omega)).trans r2
  have g2 := (o1 n (by omega)).trans b1
  refine ⟨.inl hle, ?_⟩
  simp [evx, g1, hv.1, hv.2, hb2, hw]
  have a1 : ∀ b, agree n h (up h3 wa b) := fun b => (agree_up (by omega) _).2 (agree_trans ag o1 (by omega))
  have a2 : ∀ b, Fresh (n3 + 1) (up h3 wa b) := fun b => (fresh_up (by omega) _).2 (o2.add 1)
  have a3 : ∀ b i, i ≠ wa → i < n' → up h3 wa b i = h' i := fun b i h1 h2 => by rw [up_ne _ _ h1]; exact o1 _ h2
  refine ⟨⟨j + 1, hlt, by simp, cs.set (j * 5 + 1) v, ⟨by simp [up, q1], by simp [up, q2], ?_, ?_, .inr ⟨r1, rfl, by simp [up], r3.step hlt (by simp only []; omega) (fun i h1 h2 => ?_) (wtn_rd ov (by omega) (by simp only []; omega) fun i h1 h2 => ?_), r4, r5, r6⟩, ?_, ?_, a1 _, a2 _, by simp only []; omega⟩⟩, by omega⟩
  ·simp only []
   rw [a3 _ _ (by omega) (by omega)]; exact b1
  ·simp only []
   rw [a3 _ _ (by omega) (by omega)]; exact b2
  ·simp only []
   exact a3 _ _ (by omega) h2
  ·simp only []
   rw [up_ne _ _ (by omega)]
  ·exact wtn_rd rb (Nat.le_refl _) (Nat.le_refl _) fun i h1 h2 => a3 _ _ (by omega) (by omega)
  ·refine rc.imp id fun ⟨y1, y2, y3, y4, y5, y6, y7⟩ => ⟨y1, y2, ?_, y4.zero, y5, y6, y7⟩
   simp only []
   rw [a3 _ _ (by omega) (by omega)]; exact y3
 ·obtain rfl : j = q.items.length := by omega
  simp [evx, q19, q20, ii]
  exact ⟨cs, ⟨by simp [up, q1], by simp [up, q2], b1, b2, ra, rb, rc, ag, fr, ord⟩⟩
theorem b56c (hl : q.ret.length ≤ 2199023255552) (hla : ∀ t ∈ q.ret, t.length ≤ 2199023255552) (hn : Fresh n h) {ca : List AV} (cc : List AV) (s : St) {Q} (D : D56 h n q za zb zc wa wc lb hb lo q.items.length 0 ca cc s) :
  awp (cx [] (pfL [])) (hdC 1 (tlC 3 (Tryz.f56.body.getD .skip))) (thenQ (fun s => ∃ cc, D56 h n q za zb zc wa wc lb hb lo q.items.length q.ret.length ca cc s) Q) s := by
 obtain ⟨e, h1, n1⟩ := s
 show awp (cx [] (pfL [])) (.seq (hdC 1 (hdC 1 (tlC 3 (Tryz.f56.body.getD .skip)))) (.block 2 (.loop (bodyL (hdC 1 (tlC 3 (Tryz.f56.body.getD .skip))))))) _ _
 obtain ⟨q1, q2, b1, b2, ra, rb, rc, ag, fr, ord⟩ := D
 simp only [] at q1 q2 b1 b2 ra rb rc ag fr ord
 have hz : zc.isS ∧ zc.slen = q.ret.length ∧ (∀ g, AV.unc g zc = zc) ∧ zc.cells = [zc] := by
  rcases rc with ⟨r1, rfl⟩ | ⟨r1, rfl, _⟩
  ·exact ⟨⟨rfl, rfl⟩, by rw [r1]; rfl, fun _ => rfl, rfl⟩
  ·exact ⟨trivial, rfl, fun _ => rfl, rfl⟩
 obtain ⟨t1, t2, t3, t4⟩ := hz
 simp [evx, hdC, tlC, bodyL, Tryz.f56, q1, b1, t1, t2]
 refine awp_loop (fun s => ∃ j cc, j ≤ q.ret.length ∧ s.e 38 = ii q.ret.length ∧ s.e 39 = ii j ∧ D56 h n q za zb zc wa wc lb hb lo q.items.length j ca cc s) (fun s => q.ret.length - (s.e 39).i.toNat) ⟨0, cc, by omega, by simp [up, ii], by simp [up, ii], ⟨by simp [up, q1], by simp [up, q2], b1, b2, ra, rb, rc, ag, fr, ord⟩⟩ ?_
 clear ra rb rc
 rintro e' h' n' ⟨j, cs, hj, q38, q39, D⟩
 simp only [] at q38 q39
 obtain ⟨q1, q2, b1, b2, ra, rb, rc, ag, fr, ord⟩ := D
 simp only [] at q1 q2 b1 b2 ra rb rc ag fr ord
 by_cases hlt : j < q.ret.length
 ·obtain ⟨r1, rfl, r2, r3, r4, r5, r6⟩ := rc.resolve_left (by omega)
  obtain ⟨c, c2, c3⟩ := r3.2 j hlt
  rw [if_neg (by omega)] at c3
  have c3' := rd_agr hn c3 _ ag
  have hcl := r3.1
  have hbd : j < cs.length := by omega
  have c4 : ∀ hb : j < cs.length, cs[j]'hb = c := fun hb => by rw [List.getElem?_eq_getElem hb] at c2; exact Option.some.inj c2
  have hw := wrap_nat (j := j) (by unfold big; omega)
  have hb2 : j + 1 ≤ cs.length := by omega
  have hla' := hla _ (List.getElem_mem hlt)
  simp [evx, q38, q39, q1, b1, ii, ss, hlt, r2, c4, hbd, hb2]
  refine (c110 c3' hla' fr).mono ?_
  intro v h3 n3 o
  obtain ⟨o1, o2, o3⟩ := o.fr fr
  have hle : Heap.le h' h3 := fun i k e => by rw [o1 i (lt_of e fr)]; exact e
  have ov := o.flat Flat.nd c3'
  have hv : v.cells = [v] ∧ v.one := by
   rcases o with ⟨_, rfl, _⟩ | ⟨_, rfl, _⟩
   ·exact ⟨rfl, rfl⟩
   ·exact ⟨rfl, trivial⟩
  have g1 := (o1 wc (by omega)).trans r2
  have g2 := (o1 n (by omega)).trans b1
  refine ⟨.inl hle, ?_⟩
  simp [evx, g1, hv.1, hv.2, hb2, hw]
  have a1 : ∀ b, agree n h (up h3 wc b) := fun b => (agree_up (by omega) _).2 (agree_trans ag o1 (by omega))
  have a2 : ∀ b, Fresh (n3 + 1) (up h3 wc b) := fun b => (fresh_up (by omega) _).2 (o2.add 1)
  have a3 : ∀ b i, i ≠ wc → i < n' → up h3 wc b i = h' i := fun b i h1 h2 => by rw [up_ne _ _ h1]; exact o1 _ h2
  refine ⟨⟨j + 1, hlt, by simp, cs.set j v, ⟨by simp [up, q1], by simp [up, q2], ?_, ?_, ?_, ?_, .inr ⟨r1, rfl, by simp [up], r3.step hlt (by simp only []; omega) (fun i h1 h2 => ?_) (wtn_rd ov (by omega) (by simp only []; omega) fun i h1 h2 => ?_), r4, r5, r6⟩, a1 _, a2 _, by simp only []; omega⟩⟩, by omega⟩
  ·simp only []
   rw [a3 _ _ (by omega) (by omega)]; exact b1
  ·simp only []
   rw [a3 _ _ (by omega) (by omega)]; exact b2
  ·refine ra.imp id fun ⟨y1, y2, y3, y4, y5, y6, y7⟩ => ⟨y1, y2, ?_, y4.full (by simp only []; omega) fun i h1 h2 => a3 _ _ (by omega) h2, y5, y6, y7⟩
   simp only []
   rw [a3 _ _ (by omega) (by omega)]; exact y3
  ·exact wtn_rd rb (Nat.le_refl _) (Nat.le_refl _) fun i h1 h2 => a3 _ _ (by omega) (by omega)
  ·simp only []
   exact a3 _ _ (by omega) h2
  ·simp only []
   rw [up_ne _ _ (by omega)]
 ·obtain rfl : j = q.ret.length := by omega
  simp [evx, q38, q39, ii]
  exact ⟨cs, ⟨by simp [up, q1], by simp [up, q2], b1, b2, ra, rb, rc, ag, fr, ord⟩⟩
theorem b56 {x : AV} (e1 : deQ h x = some q) (hl1 : q.items.length ≤ 2199023255552) (hl2 : q.wh.length ≤ 2199023255552) (hl3 : q.ret.length ≤ 2199023255552) (hla : ∀ t ∈ q.items, t.types.length ≤ 2199023255552) (hlr : ∀ t ∈ q.ret, t.length ≤ 2199023255552) (hn : Fresh n h) :
  ACall (cx [] (pfL [])) 56 [x] h n fun z h' n' => agree n h h' ∧ Fresh n' h' ∧ n ≤ n' ∧ deQ (wtn n n' h') z = some q := by
 refine acall_of_awp (args := [x]) (pfL_ok tb_nil) (mixed _ _) Tryz.func56 (c := Tryz.f56.body.getD .skip) rfl (by kernel_rfl) (callable Tryz.func56 rfl rfl _ _) (show 1 ≤ Tryz.f56.ntmps by decide +kernel) ?_
 obtain ⟨a, b, c, rfl, x2, x3, x4⟩ := deQ_out e1
 refine awp_cut 2 _ _ (b56a x2 x3 x4 hl1 hl2 hl3 hn _ rfl) fun y1 h1 n1 ⟨za, zb, zc, wa, wc, lb, hb, lo, ca, cc, D⟩ => ?_
 refine awp_cut 1 _ _ (b56b hl1 hla hn _ _ D) fun y2 h2 n2 ⟨ca2, D2⟩ => ?_
 refine awp_cut 1 _ _ (b56c hl3 hlr hn _ _ D2) fun y3 h3 n3 ⟨cc2, D3⟩ => ?_
 obtain ⟨q1, q2, b1, b2, ra, rb, rc, ag, fr, ord⟩ := D3
 simp only [] at q1 q2 b1 b2 ra rb rc ag fr ord
 have hza : za.cells = [za] ∧ za.one ∧ ∀ g, AV.unc g za = za := by
  rcases ra with ⟨r1, rfl⟩ | ⟨r1, rfl, _⟩
  ·exact ⟨rfl, rfl, fun _ => rfl⟩
  ·exact ⟨rfl, trivial, fun _ => rfl⟩
 have hzc : zc.cells = [zc] ∧ zc.one ∧ ∀ g, AV.unc g zc = zc := by
  rcases rc with ⟨r1, rfl⟩ | ⟨r1, rfl, _⟩
  ·exact ⟨rfl, rfl, fun _ => rfl⟩
  ·exact ⟨rfl, trivial, fun _ => rfl⟩
 obtain ⟨t1, t2, t3, t4, t5⟩ := sl_is rb
 simp [evx, tlC, Tryz.f56, q1, q2, b1, b2, ii, ss, zq, hza.2, hzc.2, t4]
 refine ⟨(agree_up (by omega) _).2 ag, (fresh_up (by omega) _).2 (fr.add 1), by omega, ?_⟩
 generalize some (⟨[za, .v (.int .i64 q.mode), .v (.int .i64 q.after), zb, .v (.int .i64 q.within), .v (.string q.par), zc], 0, true, 7⟩ : Blk) = B
 have g : ∀ i, i ≠ n + 1 → up h3 (n + 1) B i = h3 i := fun i hi => up_ne _ _ hi
 refine deQ_in ?_ (wtn_rd rb (by omega) (by omega) fun i h1 h2 => g i (by omega)) ?_
 ·rcases ra with ⟨r1, rfl⟩ | ⟨r1, rfl, r2, r3, r4, r5, r6⟩
  ·rw [List.length_eq_zero_iff.1 r1]; rfl
  ·exact (r3.full (Nat.le_refl _) (fun i h1 h2 => g i (by omega))).fin (by omega) (by omega) (by omega) (by omega) (by rw [g _ (by omega)]; exact r2)
 ·rcases rc with ⟨r1, rfl⟩ | ⟨r1, rfl, r2, r3, r4, r5, r6⟩
  ·rw [List.length_eq_zero_iff.1 r1]; rfl
  ·refine RowR.fin (h0 := h) (lo := lo) (n := n3) ⟨r3.1, fun i hi => ?_⟩ (by omega) (by omega) (by omega) (by omega) (by rw [g _ (by omega)]; exact r2)
   rw [wtn_up _ (.inl (by omega))]
   exact r3.2 i hi
end
end Go.Proofs.YtbffkkeieihpdaaGreatDoor

namespace Go.Proofs.YtbffkkeieihpdaaGreatDoor
open Go Go.Eng
section
variable {sc : List Ty} {vs : List ByteArray} {t : List Nd} {lo : Nat → Nat} {en : En}
end
end Go.Proofs.YtbffkkeieihpdaaGreatDoor

namespace Go.Proofs.YtbffkkeieihpdaaGreatDoor
open Go Go.Eng
def usesN (p : Int → Bool) (vs : List ByteArray) (t : List Nd) (i : Int) : Bool := t.any fun x => p x.op && decide (ixOf vs x.var = i)
def usesL (p : Int → Bool) (vs : List ByteArray) (t : List Nd) : List Int := ((List.range vs.length).map fun i : Nat => (i : Int)).filter (usesN p vs t)
def bareO (o : Int) : Bool := decide (o = 4 ∨ o = 11)
def prevO (o : Int) : Bool := decide (o = 11)
def aggO (o : Int) : Bool := decide (5 ≤ o ∧ o ≤ 10)
section
variable {bare agg : List Int} {each : Int} {other ls : List (List Ev)}
end
end Go.Proofs.YtbffkkeieihpdaaGreatDoor

namespace Go.Proofs.YtbffkkeieihpdaaGreatDoor
open Go Go.Eng
theorem wrap_sm {x : Int} (h1 : -1 ≤ x) (h2 : x < 4611686018427387904) : IntKind.i64.wrap x = x := W_id (n := x) (by unfold Rng; omega)
section
variable {sc : List Ty} {vs : List ByteArray} {en : En} {s t : List Nd} {d : Nat}
end
end Go.Proofs.YtbffkkeieihpdaaGreatDoor

namespace Go.Proofs.YtbffkkeieihpdaaGreatDoor
open Go Go.Eng
def offN (d : Nat) (x : Nd) : Nd := ⟨x.op, x.n, x.var, x.attr, if 0 ≤ x.a then x.a - d else x.a, if 0 ≤ x.b then x.b - d else x.b⟩
def cutT (t : List Nd) (d r : Nat) : List Nd := ((t.drop d).take (r + 1 - d)).map (offN d)
def subT (t : List Nd) (r : Nat) : List Nd := cutT t (loOf t r) r
section
variable {t : List Nd} {lo : Nat → Nat} {r : Nat}
theorem cut_len (hr : r < t.length) (hd : lo r ≤ r) : (cutT t (lo r) r).length = r + 1 - lo r := by
 simp only [cutT, List.length_map, List.length_take, List.length_drop]
 omega
theorem in_lo (T : Tre t lo) (hr : r < t.length) {i : Nat} (h1 : lo r ≤ i) (h2 : i ≤ r) : lo r ≤ lo i := by
 by_cases e : i = r
 ·rw [e]; exact Nat.le_refl _
 ·rcases lam T r i hr (by omega) with h | h
  ·exact h
  ·omega
theorem in_kids (T : Tre t lo) (hr : r < t.length) {i : Nat} (h1 : lo r ≤ i) (h2 : i ≤ r) (hi : i < t.length) : (0 ≤ t[i].a → (lo r : Int) ≤ t[i].a) ∧ (0 ≤ t[i].b → (lo r : Int) ≤ t[i].b) := by
 have hl := in_lo T hr h1 h2
 rcases T.kind i hi with ⟨b1, b2, b3, b4, b⟩ | ⟨b0, b1, b2, b3, b⟩ | ⟨b0, b0', b1, b2, a, b3, b4, b⟩
 ·omega
 ·have := T.le (i - 1) (by omega)
  omega
 ·have := T.le (i - 1) (by omega)
  have := T.le a (by omega)
  omega
end
section
variable {sc : List Ty} {vs : List ByteArray} {en : En} {t : List Nd} {r : Nat}
end
def conjF (t : List Nd) : Nat → Nat → List Nat
 | 0, _ => []
 | k + 1, i => if (t.getD i nd0).op ≠ 25 then [i] else conjF t k (t.getD i nd0).a.toNat ++ conjF t k (t.getD i nd0).b.toNat
def conjT (t : List Nd) (i : Nat) : List Nat := conjF t (i + 1) i
section
variable {t : List Nd} {lo : Nat → Nat} (T : Tre t lo)
include T
theorem conj_kids {i : Nat} (hi : i < t.length) (h : t[i].op = 25) : t[i].a.toNat < i ∧ t[i].b.toNat < i ∧ 0 ≤ t[i].a ∧ 0 ≤ t[i].b := by
 rcases T.kind i hi with ⟨b1, b2, b3, b4, b⟩ | ⟨b0, b1, b2, b3, b⟩ | ⟨b0, b0', b1, b2, a, b3, b4, b⟩
 ·omega
 ·omega
 ·have := T.le (i - 1) (by omega)
  omega
theorem conj_fuel : ∀ (k m i : Nat), i < t.length → i < k → i < m → conjF t k i = conjF t m i
 | 0, _, _, _, h, _ => by omega
 | _, 0, _, _, _, h => by omega
 | k + 1, m + 1, i, hi, h1, h2 => by
  simp only [conjF]
  rw [getD_at hi]
  split
  ·rfl
  ·rename_i ho
   obtain ⟨k1, k2, _⟩ := conj_kids T hi (by simpa using ho)
   rw [conj_fuel k m _ (by omega) (by omega) (by omega), conj_fuel k m t[i].b.toNat (by omega) (by omega) (by omega)]
omit T in
theorem conj_one {i : Nat} (hi : i < t.length) (h : t[i].op ≠ 25) : conjT t i = [i] := by
 simp only [conjT, conjF]
 rw [getD_at hi, if_pos h]
theorem conj_two {i : Nat} (hi : i < t.length) (h : t[i].op = 25) : conjT t i = conjT t t[i].a.toNat ++ conjT t t[i].b.toNat := by
 obtain ⟨k1, k2, _⟩ := conj_kids T hi h
 simp only [conjT]
 rw [conjF, getD_at hi, if_neg (by simp [h])]
 rw [conj_fuel T i (t[i].a.toNat + 1) _ (by omega) (by omega) (by omega), conj_fuel T i (t[i].b.toNat + 1) _ (by omega) (by omega) (by omega)]
theorem conj_all : ∀ i, i < t.length → (∀ x ∈ conjT t i, x ≤ i) ∧ conjT t i ≠ [] := by
 intro i
 induction i using Nat.strongRecOn with
 | _ i ih =>
  intro hi
  by_cases h : t[i].op = 25
  ·obtain ⟨k1, k2, _⟩ := conj_kids T hi h
   rw [conj_two T hi h]
   obtain ⟨a1, a2⟩ := ih _ k1 (by omega)
   obtain ⟨b1, b2⟩ := ih _ k2 (by omega)
   refine ⟨fun x hx => ?_, by simp [a2]⟩
   rcases List.mem_append.1 hx with hx | hx
   ·have := a1 x hx; omega
   ·have := b1 x hx; omega
  ·rw [conj_one hi h]
   simp
theorem conj_len : ∀ i, i < t.length → (conjT t i).length ≤ i + 1 - lo i := by
 intro i
 induction i using Nat.strongRecOn with
 | _ i ih =>
  intro hi
  have hl := T.le i hi
  by_cases h : t[i].op = 25
  ·obtain ⟨k1, k2, _⟩ := conj_kids T hi h
   rw [conj_two T hi h, List.length_append]
   have c1 := ih _ k1 (by omega)
   have c2 := ih _ k2 (by omega)
   rcases T.kind i hi with ⟨b1, b2, b3, b4, b⟩ | ⟨b0, b1, b2, b3, b⟩ | ⟨b0, b0', b1, b2, a, b3, b4, b⟩
   ·omega
   ·omega
   ·have e1 : t[i].a.toNat = a := by omega
    have e2 : t[i].b.toNat = i - 1 := by omega
    have := T.le (i - 1) (by omega)
    have := T.le a (by omega)
    rw [e1] at c1 ⊢
    rw [e2] at c2 ⊢
    omega
  ·rw [conj_one hi h]
   simp only [List.length_cons, List.length_nil]
   omega
end
theorem true_and (a b : V) : trueV (andV a b) = (trueV a && trueV b) := by
 obtain ⟨ak, an⟩ := a
 obtain ⟨bk, bn⟩ := b
 cases ak <;> cases bk <;> by_cases h1 : an = 0 <;> by_cases h2 : bn = 0 <;> simp [trueV, andV, rankV, ofRank, h1, h2]
section
variable {sc : List Ty} {vs : List ByteArray} {en : En} {t : List Nd} {lo : Nat → Nat}
end
end Go.Proofs.YtbffkkeieihpdaaGreatDoor

namespace Go.Proofs.YtbffkkeieihpdaaGreatDoor
open Go Go.Eng
end Go.Proofs.YtbffkkeieihpdaaGreatDoor

namespace Go.Proofs.YtbffkkeieihpdaaGreatDoor
open Go Go.Eng
end Go.Proofs.YtbffkkeieihpdaaGreatDoor

namespace Go.Proofs.YtbffkkeieihpdaaGreatDoor
open Go Go.Eng
section
variable {sc : List Ty} {vs : List ByteArray} {en : En} {a b : List Nd} {op : Int}
end
end Go.Proofs.YtbffkkeieihpdaaGreatDoor

namespace Go.Proofs.YtbffkkeieihpdaaGreatDoor
open Go Go.Eng
def truthT (t : List Nd) : Bool := truthO (t.getD (t.length - 1) nd0).op
section
variable {sc : List Ty} {vs : List ByteArray} {en : En} {a b : List Nd} {op : Int}
end
end Go.Proofs.YtbffkkeieihpdaaGreatDoor

namespace Go.Proofs.YtbffkkeieihpdaaGreatDoor
open Go Go.Eng
theorem p73 : P0 [] 200 g92 := by
 refine mk1 (S := []) tb_nil Tryz.func200 rfl (by kernel_rfl) ii (fun x a h => deI_out h) (fun a => rfl) (fun o h n => ?_)
 have hc : o = 2 ∨ o = 3 ∨ o = 13 ∨ (o ≠ 2 ∧ o ≠ 3 ∧ o ≠ 13) := by omega
 rcases hc with rfl | rfl | rfl | ⟨h1, h2, h3⟩
 ·simp [evv, ii, bv, truthO]
 ·simp [evv, ii, bv, truthO]
 ·simp [evv, ii, bv, truthO]
 ·by_cases h4 : 19 ≤ o
  ·by_cases h5 : o ≤ 26
   ·have ht : truthO o = true := by simp only [truthO, decide_eq_true_eq]; omega
    simp [evv, ii, bv, ht, h1, h2, h3, h4, h5]
   ·have ht : truthO o = false := by simp only [truthO, decide_eq_false_iff_not]; omega
    simp [evv, ii, bv, ht, h1, h2, h3, h4, h5]
  ·have ht : truthO o = false := by simp only [truthO, decide_eq_false_iff_not]; omega
   simp [evv, ii, bv, ht, h1, h2, h3, h4]
def G44 := pureH deT smallT fun t => bv (decide (0 < t.length) && truthT t)
def tb44 : List (FuncId × (List AV → Heap → PRes)) := [(200, g92)]
theorem P44 : P0 [] 156 G44 := by
 refine mkH 1 (S := []) (l := tb44) (tb_cons p73 tb_nil) Tryz.func156 rfl (by kernel_rfl) deT_mono (fun h l x e => by obtain ⟨a, rfl, _⟩ := deT_out e; exact Nat.le_refl _) (fun a => rfl) (fun args t h n e hp hn => ?_)
 obtain ⟨a, rfl, e1⟩ := deT_out e
 obtain ⟨s1, s2, s3, s4, s5⟩ := sl_is e1
 by_cases h0 : t.length = 0
 ·simp [evx, s1, s2, s3, h0, tb44, bv]
 ·obtain ⟨j, he⟩ : ∃ j, t.length = j + 1 := ⟨t.length - 1, by omega⟩
  have he1 : IntKind.i64.wrap ((t.length : Int) - 1) = j := by rw [he]; exact wrapm1 (by have : t.length * 64 ≤ 140737488355328 := hp; unfold big; omega)
  have he3 : 0 < t.length := by omega
  have he4 : j < t.length := by omega
  rcases ns_at e1 with ⟨hq, _⟩ | ⟨id, off, k, rfl, hk, ho', hat⟩
  ·rw [hq] at he3; simp at he3
  have hro := ro_at hk
  have h0' := ne_of hk hn 0
  simp only [Nat.add_zero] at h0'
  have hcl := cell_of (c := 0) (hat j he4) rfl (by omega)
  simp only [Nat.add_zero] at hcl
  have hw1 : off + (j * 6 + 1) ≤ k.cells.length := by omega
  have htt : truthT t = truthO t[j].op := by unfold truthT; rw [show t.length - 1 = j by omega, getD_at he4]
  generalize t[j].op = o at *
  simp only [ii] at hcl
  simp [evx, s1, s2, s3, he1, he3, he4, hro, hcl, hw1, tb44, g92, pure1, deI, htt, bv]
end Go.Proofs.YtbffkkeieihpdaaGreatDoor

namespace Go.Proofs.YtbffkkeieihpdaaGreatDoor
open Go Go.Eng
def fstI (f : Nat → Int) : Nat → Int × Int
 | 0 => (0, 0)
 | n + 1 => if (fstI f n).2 ≠ 0 then fstI f n else if f n ≠ 0 then ((n : Int), f n) else (0, 0)
theorem fstI_none {f : Nat → Int} : ∀ {n : Nat}, (∀ i, i < n → f i = 0) → fstI f n = (0, 0)
 | 0, _ => rfl
 | n + 1, h => by
  have h1 := fstI_none (n := n) fun i hi => h i (by omega)
  simp [fstI, h1, h n (by omega)]
theorem fstI_at {f : Nat → Int} {j : Nat} (h0 : ∀ i, i < j → f i = 0) (hj : f j ≠ 0) : ∀ {n : Nat}, j < n → fstI f n = ((j : Int), f j)
 | 0, h => by omega
 | n + 1, h => by
  by_cases e : j = n
  ·subst e
   simp [fstI, fstI_none h0, hj]
  ·have h1 := fstI_at h0 hj (n := n) (by omega)
   simp [fstI, h1, hj]
theorem fstI_ok {f : Nat → Int} : ∀ {n : Nat}, (fstI f n).2 = 0 → ∀ i, i < n → f i = 0
 | 0, _, i, hi => by omega
 | n + 1, h, i, hi => by
  by_cases h1 : (fstI f n).2 = 0
  ·by_cases h2 : f n = 0
   ·by_cases e : i = n
    ·rw [e]; exact h2
    ·exact fstI_ok h1 i (by omega)
   ·simp [fstI, h1, h2] at h
  ·simp [fstI, h1] at h
structure Fl where
 code : Int
 part : Int
 index : Int
 sub : Int
deriving DecidableEq
def fl0 : Fl := ⟨0, 0, 0, 0⟩
def fcells (f : Fl) : List AV := [ii f.code, ii f.part, ii f.index, ii f.sub]
def ff (f : Fl) : AV := .g (fcells f)
def typeOf (sc : List Ty) (z : ByteArray) : Int := ixOf (sc.map (·.name)) z
def ty0 : Ty := ⟨ByteArray.empty, []⟩
def attE (t : Ty) (j : Nat) : Int :=
 if isNameS (t.attrs.getD j ByteArray.empty) = false ∨ (t.attrs.getD j ByteArray.empty == tsB) = true then 22 else if ixOf t.attrs (t.attrs.getD j ByteArray.empty) ≠ j then 25 else 0
def schE (sc : List Ty) (i : Nat) : Int :=
 if isNameS (sc.getD i ty0).name = false then 22 else if typeOf sc (sc.getD i ty0).name ≠ i then 25 else if 8 < (sc.getD i ty0).attrs.length then 24 else (fstI (attE (sc.getD i ty0)) (sc.getD i ty0).attrs.length).2
def schF (sc : List Ty) : Int := if sc.length = 0 ∨ 16 < sc.length then 23 else (fstI (schE sc) sc.length).2
def it0 : It := ⟨false, [], ByteArray.empty, 0, 0⟩
def shIt (it : It) : Bool := decide (it.types.length ≠ 0) && isNameS it.var && decide (0 ≤ it.lo) && decide (0 ≤ it.hi) && it.types.all isNameS && (!it.neg || (decide (it.lo = 1) && decide (it.hi = 1)))
def shQ (q : Qu) : Bool := decide (q.items.length ≠ 0) && decide (0 ≤ q.mode ∧ q.mode ≤ 2) && decide (0 ≤ q.after ∧ q.after ≤ 3) && decide (0 ≤ q.within) && q.items.all shIt && (decide (q.wh.length = 0) || tree1 q.wh) && (emB q.par || isNameS q.par) && q.ret.all tree1
def dupTo (l : List ByteArray) (j : Nat) : Bool := (List.range j).any fun i => (l.take i).any fun z => z == l.getD i ByteArray.empty
def itemE (sc : List Ty) (it : It) : Int :=
 if it.types.any (fun z => decide (typeOf sc z < 0)) = true then 61 else if dupTo it.types it.types.length = true then 62 else if it.lo < 1 ∨ it.hi < it.lo ∨ 4 < it.hi then 63 else 0
def itE (sc : List Ty) (q : Qu) (i : Nat) : Int :=
 if itemE sc (q.items.getD i it0) ≠ 0 then itemE sc (q.items.getD i it0) else if ixOf (vars q.items) (q.items.getD i it0).var < i then 64 else 0
def itsF (sc : List Ty) (q : Qu) : Fl :=
 if 10 < q.items.length then ⟨60, 1, 10, 0⟩ else if (fstI (itE sc q) q.items.length).2 ≠ 0 then ⟨(fstI (itE sc q) q.items.length).2, 1, (fstI (itE sc q) q.items.length).1, 0⟩ else if q.items.all (·.neg) = true then ⟨65, 1, 0, 0⟩ else fl0
def hasA (sc : List Ty) (it : It) (z : ByteArray) : Bool := it.types.all fun y => decide (attrOf sc (typeOf sc y) z ≠ -1)
def repIt (it : It) : Bool := !it.neg && decide (1 < it.hi)
def mentE (sc : List Ty) (q : Qu) (res : Bool) (x : Nd) : Int :=
 if bareO x.op = false ∧ aggO x.op = false then 0 else if ixOf (vars q.items) x.var < 0 then 68 else
  if x.op ≠ 5 ∧ hasA sc (q.items.getD (ixOf (vars q.items) x.var).toNat it0) x.attr = false then 69 else
  if (aggO x.op = true ∧ (q.items.getD (ixOf (vars q.items) x.var).toNat it0).neg = true) ∨ (x.op = 11 ∧ repIt (q.items.getD (ixOf (vars q.items) x.var).toNat it0) = false) then 76 else
  if res = true ∧ bareO x.op = true ∧ ((q.items.getD (ixOf (vars q.items) x.var).toNat it0).neg = true ∨ repIt (q.items.getD (ixOf (vars q.items) x.var).toNat it0) = true) then 76 else 0
def kidB (t : List Nd) (x : Nd) (k : Int) : Bool := decide (k < 0) || (truthO (t.getD k.toNat nd0).op == wantsT x.op)
def kinB (t : List Nd) (x : Nd) : Bool := kidB t x x.a && kidB t x x.b
def nodE (sc : List Ty) (q : Qu) (t : List Nd) (res : Bool) (i : Nat) : Int :=
 if mentE sc q res (t.getD i nd0) ≠ 0 then mentE sc q res (t.getD i nd0) else if kinB t (t.getD i nd0) = true then 0 else 75
def wlk (sc : List Ty) (q : Qu) (t : List Nd) (res : Bool) : Int × Int := fstI (nodE sc q t res) t.length
def wlkW (sc : List Ty) (q : Qu) : Int × Int := if (wlk sc q q.wh false).2 = 0 ∧ truthT q.wh = false then ((q.wh.length : Int) - 1, 75) else wlk sc q q.wh false
def wlkR (sc : List Ty) (q : Qu) (t : List Nd) : Int × Int := if (wlk sc q t true).2 = 0 ∧ truthT t = true then ((t.length : Int) - 1, 75) else wlk sc q t true
def mixN (q : Qu) (l : List Int) : Nat := (l.filter fun i => (q.items.getD i.toNat it0).neg || decide (1 < (q.items.getD i.toNat it0).hi)).length
def conjW (t : List Nd) : List Nat := conjT t (t.length - 1)
def bareT (q : Qu) (t : List Nd) : List Int := usesL bareO (vars q.items) t
def mixE (q : Qu) (k : Nat) : Int := if 1 < mixN q (bareT q (subT q.wh ((conjW q.wh).getD k 0))) then 77 else 0
def mixF (q : Qu) : Fl := if (fstI (mixE q) (conjW q.wh).length).2 ≠ 0 then ⟨77, 4, ((conjW q.wh).getD (fstI (mixE q) (conjW q.wh).length).1.toNat 0 : Nat), 0⟩ else fl0
def whF (sc : List Ty) (q : Qu) : Fl :=
 if q.wh.length = 0 then fl0 else if (wlkW sc q).2 ≠ 0 then ⟨(wlkW sc q).2, 4, (wlkW sc q).1, 0⟩ else mixF q
def retE (sc : List Ty) (q : Qu) (k : Nat) : Int := (wlkR sc q (q.ret.getD k [])).2
def retF (sc : List Ty) (q : Qu) : Fl :=
 if 8 < q.ret.length then ⟨78, 5, 8, 0⟩ else if (fstI (retE sc q) q.ret.length).2 ≠ 0 then ⟨(fstI (retE sc q) q.ret.length).2, 5, (fstI (retE sc q) q.ret.length).1, (wlkR sc q (q.ret.getD (fstI (retE sc q) q.ret.length).1.toNat [])).1⟩ else fl0
def partB (sc : List Ty) (q : Qu) : Bool := !(q.par == tsB) && q.items.all fun it => hasA sc it q.par
def chk (sc : List Ty) (q : Qu) : Fl :=
 if schF sc ≠ 0 then ⟨schF sc, 0, 0, 0⟩ else if shQ q = false then ⟨50, 0, 0, 0⟩ else if (itsF sc q).code ≠ 0 then itsF sc q else if (whF sc q).code ≠ 0 then whF sc q else
  if 1099511627776 < q.within then ⟨66, 2, 0, 0⟩ else if emB q.par = false ∧ partB sc q = false then ⟨67, 3, 0, 0⟩ else retF sc q
end Go.Proofs.YtbffkkeieihpdaaGreatDoor
