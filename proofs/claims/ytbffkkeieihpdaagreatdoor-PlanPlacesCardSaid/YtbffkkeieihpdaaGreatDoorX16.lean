import Derived.Test.YtbffkkeieihpdaaGreatDoorX15
import Derived.Test.YtbffkkeieihpdaaGreatDoorX14
import Derived.Test.YtbffkkeieihpdaaGreatDoorX11
set_option linter.unusedSimpArgs false
set_option linter.unusedVariables false
set_option linter.constructorNameAsVariable false
set_option maxRecDepth 100000
set_option maxHeartbeats 4000000
namespace Go.Proofs.YtbffkkeieihpdaaGreatDoor
open Go Go.Eng
def deQ1 (h : Heap) : List AV → Option Qu
 | [x] => deQ h x
 | _ => none
theorem deQ1_out {h : Heap} {args : List AV} {q : Qu} (e : deQ1 h args = some q) : ∃ x, args = [x] ∧ deQ h x = some q := by
 unfold deQ1 at e
 split at e
 ·exact ⟨_, rfl, e⟩
 ·cases e
theorem deQ1_mono (h h' : Heap) (args : List AV) (q : Qu) (hh : h.le h') (e : deQ1 h args = some q) : deQ1 h' args = some q := by
 obtain ⟨x, rfl, e1⟩ := deQ1_out e
 exact deQ_sim hh.sim e1
def qdeepTo (q : Qu) (j : Nat) : Bool := deepB q.wh || (q.ret.take j).any deepB
def qdeep (q : Qu) : Bool := qdeepTo q q.ret.length
theorem qdeep_succ {q : Qu} {j : Nat} (hj : j < q.ret.length) : qdeepTo q (j + 1) = (qdeepTo q j || deepB q.ret[j]) := by
 unfold qdeepTo
 rw [List.take_add_one, List.getElem?_eq_getElem hj, List.any_append, Option.toList_some]
 simp [Bool.or_assoc]
def G14 := pureH deQ1 (fun q => smallT q.wh ∧ q.ret.length < big ∧ ∀ t ∈ q.ret, smallT t) fun q => bv (qdeep q)
def tb14 : List (FuncId × (List AV → Heap → PRes)) := [(52, G15)]
theorem P14 : P0 [] 14 G14 := by
 refine mkH 1 (S := []) (l := tb14) (tb_cons P15 tb_nil) Tryz.func14 rfl (by kernel_rfl) deQ1_mono (fun h l x e => by obtain ⟨a, rfl, _⟩ := deQ1_out e; exact Nat.le_refl _) (fun a => rfl) (fun args q h n e hp hn => ?_)
 obtain ⟨x, rfl, e1⟩ := deQ1_out e
 obtain ⟨a, b, c, rfl, e2, e3, e4⟩ := deQ_out e1
 obtain ⟨hsw, hrb, hsr⟩ := hp
 obtain ⟨s1, s2, s3, s4, s5⟩ := sl_is e4
 have o1 := (sl_is e2).2.2.2.1
 have o2 := (sl_is e3).2.2.2.1
 have g3 := rd_agree hn e3
 have key : ∀ e : Nat → AV, e 0 = .g [a, ii q.mode, ii q.after, b, ii q.within, ss q.par, c] → awp (cx [] (pfL tb14)) (Tryz.f14.body.getD .skip) (finQ (cx [] (pfL tb14)) Tryz.f14 fun z _ _ => z = bv (qdeep q)) ⟨e, roH h, n⟩ := fun e q0 => by
  simp [evx, Tryz.f14, q0, ii, ss, s4, o1, o2, tb14, G15, pureH, deT, g3, agree_up, agree_refl, hsw]
  refine awp_loop (fun s => ∃ j : Nat, j ≤ q.ret.length ∧ s.e 1 = .p n 0 0 ∧ s.e 3 = bv (qdeepTo q j) ∧ s.e 4 = ii j ∧ agree n (roH h) s.h ∧ s.h n = some ⟨[a, ii q.mode, ii q.after, b, ii q.within, ss q.par, c], 0, true, 7⟩) (fun s => q.ret.length - (s.e 4).i.toNat) ⟨0, by simp [up, ii, ss, agree_up, agree_refl, qdeepTo]⟩ ?_
  rintro e' h' n' ⟨j, hj, q1, q3, q4, hag, hbk⟩
  simp only [] at q1 q3 q4 hag hbk
  by_cases hlt : j < q.ret.length
  ·rcases sls_at e4 with ⟨h0, _⟩ | ⟨id, off, k, rfl, hk, ho, hat⟩
   ·rw [h0] at hlt; simp at hlt
   obtain ⟨c', hc, hcr⟩ := hat j hlt
   have u3 := (sl_is hcr).2.2.1
   have gr : ∀ h', agree n (roH h) h' → rd dNs h' c' = some q.ret[j] := rd_agree hn hcr
   have ha' := agree_at hn hk hag
   have hw := wrap_nat (j := j) (by omega)
   have hw1 : off + (j + 1) ≤ k.cells.length := by omega
   have hsu := qdeep_succ hlt
   have hsm := hsr _ (List.getElem_mem hlt)
   generalize q.ret[j] = t at *
   generalize hqd : qdeepTo q j = d at *
   cases d <;> simp [evx, q1, q3, q4, ii, bv, hlt, hbk, ha', hc, hw1, pureH, deT, gr, hag, hsm, hw]
   ·exact ⟨⟨j + 1, by omega, by rw [hsu]; rfl, by omega⟩, by omega⟩
   ·exact ⟨⟨j + 1, by omega, by rw [hsu]; rfl, by omega⟩, by omega⟩
  ·obtain rfl : j = q.ret.length := by omega
   simp [evx, q1, q3, q4, ii, hbk, s1, s2, qdeep, bv]
 exact key _ rfl
structure Ty where
 name : ByteArray
 attrs : List ByteArray
def deTyc (h : Heap) : List AV → Option Ty
 | [.v (.string n), a] => (rd dSs h a).map fun l => ⟨n, l⟩
 | _ => none
theorem deTyc_out {h : Heap} {l : List AV} {x : Ty} (e : deTyc h l = some x) : ∃ a, l = [ss x.name, a] ∧ rd dSs h a = some x.attrs := by
 unfold deTyc at e
 split at e
 ·simp only [Option.map_eq_some_iff] at e
  obtain ⟨t, h1, rfl⟩ := e
  exact ⟨_, rfl, h1⟩
 ·cases e
theorem deTyc_in {h : Heap} {a : AV} {x : Ty} (e : rd dSs h a = some x.attrs) : deTyc h [ss x.name, a] = some x := by
 simp only [deTyc, ss, e, Option.map_some]
def dTy : De Ty where
 run h l := deTyc h l
 sim {h h' l x} hh e := by
  obtain ⟨ty, rfl, h1⟩ := deTyc_out e
  exact deTyc_in (rd_sim hh h1)
def dTys : De (List Ty) := De.sl 2 dTy
theorem tys_at {h : Heap} {a : AV} {l : List Ty} (e : rd dTys h a = some l) : (l = [] ∧ (a = .v (.slice none 0 0) ∨ a = .e)) ∨
  ∃ id off k, a = .s id k.ver off l.length ∧ h id = some k ∧ off + l.length * 2 ≤ k.cells.length ∧ ∀ i (hi : i < l.length), k.cells[off + i * 2]? = some (ss l[i].name) ∧ ∃ c, k.cells[off + (i * 2 + 1)]? = some c ∧ rd dSs h c = some l[i].attrs := by
 rcases sl_at e with h0 | ⟨id, off, k, h1, h2, h3, h4⟩
 ·exact .inl h0
 ·refine .inr ⟨id, off, k, h1, h2, h3, fun i hi => ?_⟩
  obtain ⟨c, h5, h6⟩ := deTyc_out (h4 i hi)
  have t0 := cell_of (c := 0) h5 rfl (by omega)
  have t1 := cell_of (c := 1) h5 rfl (by omega)
  rw [Nat.add_assoc] at t1
  exact ⟨t0, c, t1, h6⟩
theorem ss_at {h : Heap} {a : AV} {l : List ByteArray} (e : rd dSs h a = some l) : (l = [] ∧ (a = .v (.slice none 0 0) ∨ a = .e)) ∨
  ∃ id off k, a = .s id k.ver off l.length ∧ h id = some k ∧ off + l.length ≤ k.cells.length ∧ ∀ i (hi : i < l.length), k.cells[off + i]? = some (ss l[i]) := by
 rcases sl_at e with h0 | ⟨id, off, k, h1, h2, h3, h4⟩
 ·exact .inl h0
 ·rw [Nat.mul_one] at h3
  refine .inr ⟨id, off, k, h1, h2, h3, fun i hi => ?_⟩
  have := h4 i hi
  rw [Nat.mul_one] at this
  simp only [De.str] at this
  split at this
  ·rename_i z hq
   have h5 := cell_of (c := 0) hq rfl (by omega)
   simp only [Option.some.injEq] at this
   rw [Nat.add_zero] at h5
   rw [h5, this]
   rfl
  ·cases this
def deSc (h : Heap) : AV → Option (List Ty)
 | .g [a] => rd dTys h a
 | _ => none
theorem deSc_out {h : Heap} {x : AV} {q : List Ty} (e : deSc h x = some q) : ∃ a, x = .g [a] ∧ rd dTys h a = some q := by
 unfold deSc at e
 split at e
 ·exact ⟨_, rfl, e⟩
 ·cases e
theorem deSc_sim {h h' : Heap} (hh : h.sim h') {x : AV} {q : List Ty} (e : deSc h x = some q) : deSc h' x = some q := by
 obtain ⟨a, rfl, e1⟩ := deSc_out e
 exact rd_sim hh e1
theorem sc_agree {h : Heap} {n : Nat} {a : AV} {x : List Ty} (hn : ∀ i, n ≤ i → h i = none) (e : deSc h a = some x) : ∀ h', agree n (roH h) h' → deSc h' a = some x := fun _ ha => deSc_sim (agree_sim hn ha) e
def smallS (l : List Ty) : Prop := l.length < big ∧ ∀ t ∈ l, t.attrs.length < big
def tsB : ByteArray := ⟨#[116, 115]⟩
def attrOf (l : List Ty) (ty : Int) (name : ByteArray) : Int :=
 if ty < 0 ∨ (l.length : Int) ≤ ty then -1 else if (name == tsB) = true then -2 else
  match l[ty.toNat]? with
  | some t => if ixOf t.attrs name < 8 then ixOf t.attrs name else -1
  | none => -1
def dePl (h : Heap) : List AV → Option (List ByteArray × ByteArray)
 | [a, .v (.string v)] => (rd dSs h a).map fun l => (l, v)
 | _ => none
theorem dePl_out {h : Heap} {args : List AV} {q : List ByteArray × ByteArray} (e : dePl h args = some q) : ∃ a, args = [a, ss q.2] ∧ rd dSs h a = some q.1 := by
 unfold dePl at e
 split at e
 ·simp only [Option.map_eq_some_iff] at e
  obtain ⟨t, h1, rfl⟩ := e
  exact ⟨_, rfl, h1⟩
 ·cases e
theorem dePl_mono (h h' : Heap) (args : List AV) (q : List ByteArray × ByteArray) (hh : h.le h') (e : dePl h args = some q) : dePl h' args = some q := by
 obtain ⟨x, rfl, e1⟩ := dePl_out e
 simp only [dePl, ss, rd_mono hh e1, Option.map_some]
def G140 := pureH dePl (fun q => q.1.length < big) fun q => ii (ixOf q.1 q.2)
theorem P140 : P0 [] 150 G140 := by
 refine mkH 2 (S := []) (l := []) tb_nil Tryz.func150 rfl (by kernel_rfl) dePl_mono (fun h l x e => by obtain ⟨a, rfl, _⟩ := dePl_out e; exact Nat.le_refl _) (fun a => rfl) (fun args q h n e hp hn => ?_)
 obtain ⟨a, rfl, e2⟩ := dePl_out e
 obtain ⟨l, v⟩ := q
 simp only [] at e2 hp ⊢
 obtain ⟨s1, s2, s3, s4, s5⟩ := sl_is e2
 have hgv : ∀ j (hj : j < l.length), l.getD j ByteArray.empty = l[j] := fun j hj => by rw [List.getD_eq_getElem?_getD, List.getElem?_eq_getElem hj]; rfl
 have key : ∀ e : Nat → AV, e 0 = a → e 1 = ss v → awp (cx [] (pfL [])) (Tryz.f150.body.getD .skip) (finQ (cx [] (pfL [])) Tryz.f150 fun z _ _ => z = ii (ixOf l v)) ⟨e, roH h, n⟩ := fun e q0 q1 => by
  simp [evx, Tryz.f150, q0, ii, s1, s2]
  refine awp_loop (fun s => ∃ j : Nat, j ≤ l.length ∧ s.e 1 = ss v ∧ s.e 7 = a ∧ s.e 8 = ii l.length ∧ s.e 9 = ii j ∧ s.h = roH h ∧ ∀ i, i < j → (l.getD i ByteArray.empty == v) = false) (fun s => l.length - (s.e 9).i.toNat) ⟨0, by simp [up, q1, ii, ss]⟩ ?_
  rintro e' h' n' ⟨j, hj, q1, q7, q8, q9, hh, hno⟩
  simp only [] at q1 q7 q8 q9 hh
  subst hh
  by_cases hlt : j < l.length
  ·rcases ss_at e2 with ⟨h0, _⟩ | ⟨id, off, k, rfl, hk, ho, hat⟩
   ·rw [h0] at hlt; simp at hlt
   have hr := hat j hlt
   have ha' := ro_at hk
   have hw := wrap_nat (j := j) (by omega)
   have hw1 : off + (j + 1) ≤ k.cells.length := by omega
   have hgj := hgv j hlt
   generalize l[j] = y at *
   cases hy : (y == v) with
   | true =>
    have hf := fi_hit (v := v) hlt hno (by rw [hgj]; exact hy)
    have h1 : ixOf l v = (j : Int) := by rw [ixOf, hf, if_pos hlt]
    simp [evx, q1, q7, q8, q9, ii, ss, hlt, ha', hr, hw1, hy, h1]
   | false =>
    simp [evx, q1, q7, q8, q9, ii, ss, hlt, ha', hr, hw1, hy, hw]
    refine ⟨⟨j + 1, by omega, by omega, fun i hi => ?_⟩, by omega⟩
    by_cases e : i = j
    ·subst e; rw [← List.getD_eq_getElem?_getD, hgj]; exact hy
    ·have := hno i (by omega); rwa [List.getD_eq_getElem?_getD] at this
  ·obtain rfl : j = l.length := by omega
   have hf := fi_none (v := v) (l := l) hno
   have h1 : ixOf l v = -1 := by rw [ixOf, hf, if_neg (by omega)]
   simp [evx, q8, q9, ii, h1]
 exact key _ rfl rfl
end Go.Proofs.YtbffkkeieihpdaaGreatDoor

namespace Go.Proofs.YtbffkkeieihpdaaGreatDoor
open Go Go.Eng
theorem acall_any {S S' : List Nat} {pf pf' : FuncId → Option (List AV → Heap → PRes)} (hs : ∀ x ∈ S, x ∈ S') {f : FuncId} {args : List AV} {h : Heap} {n : Nat} {Q : AV → Heap → Nat → Prop} (k : ACall (cx S pf) f args h n Q) : ACall (cx S' pf') f args h n Q := by
 refine ⟨k.1, fun K w0 ρ w vs r hv => ?_⟩
 have hsub : ∀ g cs, globS S g = some cs → globS S' g = some cs := fun g cs hg => by
  simp only [globS] at hg ⊢
  by_cases hm : g ∈ S
  ·rw [if_pos hm] at hg; rw [if_pos (hs g hm)]; exact hg
  ·rw [if_neg hm] at hg; cases hg
 have r0 : Rel (cx S pf) K w0 ρ (n ≤ ·) h w := ⟨r.os, r.tape, r.output, r.size, r.keep, r.kold, fun g cs hg => r.glob g cs (hsub g cs hg), r.blk, r.apart, r.mine, r.free, r.vers⟩
 refine (k.2 K w0 ρ w vs r0 hv).mono fun e w' ⟨y, h1, ρ2, z, h', n', h2, h3, r2, h5⟩ => ⟨y, h1, ρ2, z, h', n', h2, h3, ⟨r2.os, r2.tape, r2.output, r2.size, r2.keep, r2.kold, fun g cs hg => ?_, r2.blk, r2.apart, r2.mine, r2.free, r2.vers⟩, h5⟩
 obtain ⟨g1, arr, el, fr, g2, g3⟩ := r.glob g cs hg
 exact ⟨g1, arr, el, fr, by rw [r2.keep g g1, ← r.keep g g1]; exact g2, g3⟩
def S29 : List Nat := [0, 1, 2, 4, 5, 6, 7]
def G31 := pureH deR okR fun q => bv (holdsV q.1 q.2)
def tb31 : List (FuncId × (List AV → Heap → PRes)) := [(91, G29), (92, g20)]
theorem P31 (h0 : P0 S29 91 G29) : P0 S29 45 G31 := by
 refine mkH 2 (S := S29) (l := tb31) (tb_cons h0 (tb_cons p20 tb_nil)) Tryz.func45 rfl (by kernel_rfl) deR_mono (fun h l x e => by obtain ⟨a, c, rfl, _⟩ := deR_out e; exact Nat.le_refl _) (fun a => rfl) (fun args q h n e hp hn => ?_)
 obtain ⟨p, en⟩ := q
 obtain ⟨x, y, rfl, e1, e2⟩ := deR_out e
 obtain ⟨pa, pb, rfl, e3, e4⟩ := dePr_out e1
 obtain ⟨la, rfl, e5⟩ := deEn_out e2
 simp only [] at e1 e2 e3 e4 e5 hp ⊢
 obtain ⟨s1, s2, s3, s4, s5⟩ := sl_is e3
 obtain ⟨t1, t2, t3, t4, t5⟩ := sl_is e4
 obtain ⟨r1, r2, r3, r4, r5⟩ := sl_is e5
 have g1 := pr_agree hn e1
 have g2 := en_agree hn e2
 simp only [ii] at g2
 obtain ⟨rv, hrv⟩ : ∃ rv, rv = runV p en := ⟨_, rfl⟩
 have hv : holdsV p en = (rv.2 == 0 && trueV rv.1) := by rw [hrv]; rfl
 obtain ⟨⟨vk, vn⟩, er⟩ := rv
 by_cases hz : er = 0
 ·subst hz
  simp [evx, ii, s4, t4, r4, tb31, G29, pureH, deR, g1, g2, agree_up, agree_refl, hp, ← hrv, runA, vv, bv, hv, g20, pure1, deV]
 ·simp [evx, ii, s4, t4, r4, tb31, G29, pureH, deR, g1, g2, agree_up, agree_refl, hp, ← hrv, runA, vv, bv, hv, hz, g20, pure1, deV]
end Go.Proofs.YtbffkkeieihpdaaGreatDoor

namespace Go.Proofs.YtbffkkeieihpdaaGreatDoor
open Go Go.Eng
theorem rd_copy {α : Type} {sz : Nat} {d : De α} {h : Heap} {n : Nat} {a : AV} {l : List α} (hn : Fresh n h) (e : rd (De.sl sz d) h a = some l) : ∃ cs, (∀ h', agree n h h' → sls h' a 0 (l.length * sz) ∧ slc h' a 0 (l.length * sz) = cs) ∧ cs.length = l.length * sz ∧
  ∀ h' w u own r, agree n h h' → h' w = some ⟨cs ++ r, u, own, sz⟩ → rd (De.sl sz d) h' (.s w u 0 l.length) = some l := by
 rcases sl_at e with ⟨rfl, rfl | rfl⟩ | ⟨id, off, k, rfl, hk, ho, hat⟩
 ·refine ⟨[], fun h' _ => ⟨by simp [sls], rfl⟩, by simp, fun h' w u own r ha hw => ?_⟩
  exact De.sl_in (xs := []) (off := 0) (k := ⟨[] ++ r, u, own, sz⟩) hw (by simp) (fun i hi => by simp at hi)
 ·refine ⟨[], fun h' _ => ⟨by simp [sls], rfl⟩, by simp, fun h' w u own r ha hw => ?_⟩
  exact De.sl_in (xs := []) (off := 0) (k := ⟨[] ++ r, u, own, sz⟩) hw (by simp) (fun i hi => by simp at hi)
 ·have hid := lt_of hk hn
  have hlen : ((k.cells.drop off).take (l.length * sz)).length = l.length * sz := by rw [List.length_take, List.length_drop]; omega
  refine ⟨(k.cells.drop off).take (l.length * sz), fun h' ha => ?_, hlen, fun h' w u own r ha hw => ?_⟩
  ·simp only [sls, slc, ha id hid, hk, Nat.zero_add, Nat.add_zero, true_and, and_true]
   exact ho
  ·refine De.sl_in (off := 0) (k := ⟨(k.cells.drop off).take (l.length * sz) ++ r, u, own, sz⟩) hw (by simp only [List.length_append, hlen]; omega) (fun i hi => ?_)
   have h1 := hat i hi
   have hm : i * sz + sz ≤ l.length * sz := by rw [← Nat.succ_mul]; exact Nat.mul_le_mul_right _ hi
   have h2 : (List.drop (0 + i * sz) ((k.cells.drop off).take (l.length * sz) ++ r)).take sz = (k.cells.drop (off + i * sz)).take sz := by
    rw [Nat.zero_add, List.drop_append_of_le_length (by omega), List.take_append_of_le_length (by rw [List.length_drop]; omega), List.drop_take, List.take_take, List.drop_drop, Nat.min_eq_left (by omega)]
   rw [h2]
   exact d.sim (agr_sim hn ha) h1
theorem Flat.nd : Flat 6 dN ncells := ⟨fun _ _ _ e => deNc_out e, fun _ _ => rfl, fun _ => rfl⟩
end Go.Proofs.YtbffkkeieihpdaaGreatDoor

namespace Go.Proofs.YtbffkkeieihpdaaGreatDoor
open Go Go.Eng
def scell (x : ByteArray) : List AV := [ss x]
theorem str_out (h : Heap) (l : List AV) (x : ByteArray) (e : De.str.run h l = some x) : l = scell x := by
 simp only [De.str] at e
 split at e
 ·cases e; rfl
 ·cases e
theorem Flat.str : Flat 1 De.str scell := ⟨str_out, fun _ _ => rfl, fun _ => rfl⟩
theorem two_cells {l : List AV} {o : Nat} {x y : AV} (h1 : l[o]? = some x) (h2 : l[o + 1]? = some y) : (l.drop o).take 2 = [x, y] := by
 obtain ⟨k1, rfl⟩ := List.getElem?_eq_some_iff.1 h1
 obtain ⟨k2, rfl⟩ := List.getElem?_eq_some_iff.1 h2
 rw [List.drop_eq_getElem_cons k1, List.drop_eq_getElem_cons k2]
 rfl
def OwnT (h : Heap) (lo hi : Nat) (z : AV) (sc : List Ty) (j : Nat) : Prop :=
 (j = 0 ∧ z = .v (.slice none 0 0)) ∨ ∃ w u cs, z = .s w u 0 j ∧ h w = some ⟨cs, u, true, 2⟩ ∧ lo ≤ w ∧ w < hi ∧ cs.length = j * 2 ∧
  ∀ i (hi' : i < sc.length), i < j → ∃ b, cs[i * 2]? = some (ss sc[i].name) ∧ cs[i * 2 + 1]? = some (.s b 1 0 sc[i].attrs.length) ∧ h b = some ⟨sc[i].attrs.flatMap scell, 1, true, 1⟩ ∧ lo ≤ b ∧ b < hi ∧ b ≠ w
theorem OwnT.rd {h : Heap} {lo hi : Nat} {z : AV} {sc : List Ty} (o : OwnT h lo hi z sc sc.length) : rd dTys h z = some sc := by
 rcases o with ⟨h0, rfl⟩ | ⟨w, u, cs, rfl, hk, _, _, hl, hat⟩
 ·have : sc = [] := List.eq_nil_of_length_eq_zero h0
  subst this
  rfl
 ·refine De.sl_in (off := 0) (k := ⟨cs, u, true, 2⟩) hk (by simp only [hl]; omega) (fun i hi => ?_)
  obtain ⟨b, h1, h2, h3, _⟩ := hat i hi hi
  simp only [Nat.zero_add]
  rw [two_cells h1 h2]
  exact deTyc_in (flat_in Flat.str h3 rfl (r := []) (by simp))
theorem OwnT.congr {h h' : Heap} {lo hi : Nat} {z : AV} {sc : List Ty} {j : Nat} (o : OwnT h lo hi z sc j) (hh : ∀ q, lo ≤ q → q < hi → h' q = h q) : OwnT h' lo hi z sc j := by
 rcases o with h0 | ⟨w, u, cs, h1, h2, h3, h4, h5, h6⟩
 ·exact .inl h0
 ·refine .inr ⟨w, u, cs, h1, by rw [hh _ h3 h4]; exact h2, h3, h4, h5, fun i hi' hij => ?_⟩
  obtain ⟨b, k1, k2, k3, k4, k5, k6⟩ := h6 i hi' hij
  exact ⟨b, k1, k2, by rw [hh _ k4 k5]; exact k3, k4, k5, k6⟩
theorem OwnT.snoc {h h2 : Heap} {lo hi hi2 w w0 u b : Nat} {cs : List AV} {sc : List Ty} {j : Nat} (hj : j < sc.length) (hcl : cs.length = j * 2)
  (hold : ∀ i (hi' : i < sc.length), i < j → ∃ b, cs[i * 2]? = some (ss sc[i].name) ∧ cs[i * 2 + 1]? = some (.s b 1 0 sc[i].attrs.length) ∧ h b = some ⟨sc[i].attrs.flatMap scell, 1, true, 1⟩ ∧ lo ≤ b ∧ b < hi ∧ b ≠ w0)
  (hh : ∀ q, lo ≤ q → q < hi → q ≠ w0 → h2 q = h q) (hhi : hi ≤ hi2) (hne : w = w0 ∨ hi ≤ w) (hk : h2 w = some ⟨cs ++ [ss sc[j].name, .s b 1 0 sc[j].attrs.length], u, true, 2⟩) (hb : h2 b = some ⟨sc[j].attrs.flatMap scell, 1, true, 1⟩)
  (hb0 : lo ≤ b) (hb2 : b < hi2) (hbw : b ≠ w) (hw1 : lo ≤ w) (hw2 : w < hi2) : OwnT h2 lo hi2 (.s w u 0 (j + 1)) sc (j + 1) := by
 refine .inr ⟨w, u, _, rfl, hk, hw1, hw2, by simp only [List.length_append, hcl, List.length_cons, List.length_nil]; omega, fun i hi' hij => ?_⟩
 by_cases e : i = j
 ·subst e
  exact ⟨b, by rw [List.getElem?_append_right (by omega), hcl, Nat.sub_self]; rfl, by rw [List.getElem?_append_right (by omega), hcl, show i * 2 + 1 - i * 2 = 1 by omega]; rfl, hb, hb0, hb2, hbw⟩
 ·obtain ⟨b', k1, k2, k3, k4, k5, k6⟩ := hold i hi' (by omega)
  refine ⟨b', by rw [List.getElem?_append_left (by omega)]; exact k1, by rw [List.getElem?_append_left (by omega)]; exact k2, by rw [hh _ k4 k5 k6]; exact k3, k4, by omega, ?_⟩
  rcases hne with rfl | h9
  ·exact k6
  ·omega
end Go.Proofs.YtbffkkeieihpdaaGreatDoor

namespace Go.Proofs.YtbffkkeieihpdaaGreatDoor
open Go Go.Eng
def HasS (h : Heap) (x : AV) (sc : List Ty) : Prop := ∃ m a, x = .p m 0 0 ∧ h m = some ⟨[a], 0, true, 1⟩ ∧ rd dTys h a = some sc
def HasQ (h : Heap) (x : AV) (q : Qu) : Prop := ∃ m a b c, x = .p m 0 0 ∧ h m = some ⟨[a, .v (.int .i64 q.mode), .v (.int .i64 q.after), b, .v (.int .i64 q.within), .v (.string q.par), c], 0, true, 7⟩ ∧ rd dIts h a = some q.items ∧ rd dNs h b = some q.wh ∧ rd dNss h c = some q.ret
def HasE (h : Heap) (x : AV) (en : En) : Prop := ∃ m a, x = .p m 0 0 ∧ h m = some ⟨[a, .v (.int .i64 en.each), .v (.int .i64 en.pos)], 0, true, 3⟩ ∧ rd dEss h a = some en.ls
theorem HasS.up {h h' : Heap} {n : Nat} {x : AV} {sc : List Ty} (a : HasS h x sc) (hn : Fresh n h) (ha : agree n h h') : HasS h' x sc := by
 obtain ⟨m, b, rfl, h1, h2⟩ := a
 exact ⟨m, b, rfl, by rw [ha m (lt_of h1 hn)]; exact h1, rd_agr hn h2 _ ha⟩
theorem HasQ.up {h h' : Heap} {n : Nat} {x : AV} {q : Qu} (a : HasQ h x q) (hn : Fresh n h) (ha : agree n h h') : HasQ h' x q := by
 obtain ⟨m, b, c, d, rfl, h1, h2, h3, h4⟩ := a
 exact ⟨m, b, c, d, rfl, by rw [ha m (lt_of h1 hn)]; exact h1, rd_agr hn h2 _ ha, rd_agr hn h3 _ ha, rd_agr hn h4 _ ha⟩
theorem HasE.up {h h' : Heap} {n : Nat} {x : AV} {en : En} (a : HasE h x en) (hn : Fresh n h) (ha : agree n h h') : HasE h' x en := by
 obtain ⟨m, b, rfl, h1, h2⟩ := a
 exact ⟨m, b, rfl, by rw [ha m (lt_of h1 hn)]; exact h1, rd_agr hn h2 _ ha⟩
theorem deQ_has {h : Heap} {a b c : AV} {q : Qu} (h1 : rd dIts h a = some q.items) (h2 : rd dNs h b = some q.wh) (h3 : rd dNss h c = some q.ret) : deQ h (.g [a, .v (.int .i64 q.mode), .v (.int .i64 q.after), b, .v (.int .i64 q.within), .v (.string q.par), c]) = some q := deQ_in h1 h2 h3
end Go.Proofs.YtbffkkeieihpdaaGreatDoor

namespace Go.Proofs.YtbffkkeieihpdaaGreatDoor
open Go Go.Eng Go.RowKit Go.ChangeShapes Go.WideShapes Go.Joins
theorem rd_strs {t e : TypeId} {n : Nat} (ht : Tryz.prog.underlying t = some (.array n e)) (he : Tryz.prog.underlying e = some .string) (hc : Tryz.prog.cellsOf e = 1) (ec : Tryz.prog.cellsOf t = n) (l : List ByteArray) (hl : l.length = n) : Rd t (.agg (l.map fun x => .lit (.string x.data.toList))) (l.map fun x => .string x) := fun W f cs x h ex => by
 obtain ⟨xs, m, _, rfl, hcl, hn, hel⟩ := DataW.trod_array ht h
 simp only [DataW.agg.injEq] at ex
 have hcn : cs.length = n := by rw [hcl, ec]
 apply List.ext_getElem
 ·rw [hcn, List.length_map, hl]
 intro i h1 h2
 have hi : i < n := by omega
 have hx := hel i (by omega)
 have hlt : i < xs.length := by omega
 rw [List.getElem?_eq_getElem hlt] at hx
 have hxi : (xs[i]).1 = .lit (.string (l[i]'(by omega)).data.toList) := by
  have := congrArg (·[i]?) ex
  simpa [hlt, show i < l.length by omega] using this
 obtain ⟨s, q1, q2, _⟩ := DataW.trod_string he hx
 rw [q2] at hxi
 simp only [DataW.lit.injEq, Lit.string.injEq] at hxi
 have hs : s = l[i]'(by omega) := by
  have h9 := Array.toList_inj.1 hxi
  cases s
  cases hli : l[i]'(by omega)
  rw [hli] at h9
  simp only [] at h9
  rw [h9]
 rw [hc, Nat.mul_one, List.take_one, List.head?_drop, List.getElem?_eq_getElem h1] at q1
 rw [List.getElem_map, ← hs]
 simpa using q1
theorem rdKeywords : Rd 241 Rows.laid_sluice_api_Keywords ((glob 3).getD []) :=
 rd_strs (n := 27) Tryz.underlying241 Tryz.underlying9 (by kernel_rfl) (by kernel_rfl) kwords rfl
theorem at7 {laid : List (String × DataW Unit)} {W : World} (hL : laidMetH Tryz.prog laid W) (hpl : (laid.all fun x => x.2.handleName?.isNone) = true) (hm : ("sluice/api.Keywords", Rows.laid_sluice_api_Keywords) ∈ laid) : GlobAt W 3 := globAt_of hL hpl hm (by kernel_rfl) (by kernel_rfl) rdKeywords rfl
theorem str_flat : ∀ (h : Heap) (l : List AV) (x : ByteArray), De.str.run h l = some x → l = [ss x] := str_out
theorem bool_flat6 : ∀ (h : Heap) (l : List AV) (x : Bool), De.bool.run h l = some x → l = [.v (.bool x)] := fun h l x e => by
 simp only [De.bool] at e
 split at e
 ·cases e; rfl
 ·cases e
theorem tk_cons {l : List AV} {a : AV} (h : l.take 1 = [a]) : l = a :: l.drop 1 := by
 have := List.take_append_drop 1 l
 rw [h] at this
 exact this.symm
theorem opens_s : Opens Tryz.prog 9 De.str fun s => s.size ≤ maxLen := Opens.str Tryz.underlying9
theorem opens_b : Opens Tryz.prog 4 De.bool fun _ => True := Opens.bool Tryz.underlying4
theorem opens_75 : Opens Tryz.prog 79 (De.int .i64) fun n => (Lit.int .i64 n).wf = true := Opens.int Tryz.underlying79
theorem opens_26 : Opens Tryz.prog 26 (De.int .i64) fun n => (Lit.int .i64 n).wf = true := Opens.int Tryz.underlying26
theorem opens_27 : Opens Tryz.prog 27 (De.int .i64) fun n => (Lit.int .i64 n).wf = true := Opens.int Tryz.underlying27
theorem opens_nd : Opens Tryz.prog 81 dN fun x => Rng x.n := by
 refine Opens.conv (Opens.struct Tryz.underlying81 (tot := 6) (by kernel_rfl) (OpensF.cons rfl (n := 1) (by kernel_rfl) (by decide) opens_75 (OpensF.cons rfl (n := 1) (by kernel_rfl) (by decide) opens_i2 (OpensF.cons rfl (n := 1) (by kernel_rfl) (by decide) opens_s (OpensF.cons rfl (n := 1) (by kernel_rfl) (by decide) opens_s (OpensF.cons rfl (n := 1) (by kernel_rfl) (by decide) opens_i (OpensF.one rfl (by kernel_rfl) opens_i))))))) fun h l x e ok => ?_
 have hl := pair_flat (int_flat .i64) (pair_flat (int_flat .i64) (pair_flat str_flat (pair_flat str_flat (pair_flat (int_flat .i64) (int_flat .i64))))) h l x e
 exact ⟨⟨x.1, x.2.1, x.2.2.1, x.2.2.2.1, x.2.2.2.2.1, x.2.2.2.2.2⟩, by rw [hl]; rfl, rng_of ok.2.1⟩
theorem opens_28 : Opens Tryz.prog 28 dNs fun l => l.length * 64 ≤ reachBytes ∧ ∀ x ∈ l, Rng x.n := Opens.sl Tryz.underlying28 (sz := 6) (by kernel_rfl) (by decide) (by kernel_rfl) opens_nd
theorem opens_29 : Opens Tryz.prog 29 dNss fun l => l.length * 24 ≤ reachBytes ∧ ∀ x ∈ l, x.length * 64 ≤ reachBytes ∧ ∀ y ∈ x, Rng y.n := Opens.sl Tryz.underlying29 (sz := 1) (by kernel_rfl) (by decide) (by kernel_rfl) opens_28
theorem opens_93 : Opens Tryz.prog 69 dSs fun l => l.length * 16 ≤ reachBytes ∧ ∀ x ∈ l, x.size ≤ maxLen := Opens.sl Tryz.underlying69 (sz := 1) (by kernel_rfl) (by decide) (by kernel_rfl) opens_s
theorem opens_95 : Opens Tryz.prog 85 dTy fun t => t.attrs.length * 16 ≤ reachBytes := by
 refine Opens.conv (Opens.struct Tryz.underlying85 (tot := 2) (by kernel_rfl) (OpensF.cons rfl (n := 1) (by kernel_rfl) (by decide) opens_s (OpensF.one rfl (by kernel_rfl) opens_93))) fun h l x e ok => ?_
 obtain ⟨e1, e2⟩ := pair_run e
 have h1 := tk_cons (str_flat _ _ _ e1)
 obtain ⟨a, ha⟩ := sl_one e2
 rw [ha] at e2 h1
 have e2' : rd dSs h a = some x.2 := e2
 exact ⟨⟨x.1, x.2⟩, by rw [h1]; exact deTyc_in (x := ⟨x.1, x.2⟩) e2', ok.2.1⟩
theorem opens_22 : Opens Tryz.prog 22 dTys fun l => l.length * 40 ≤ reachBytes ∧ ∀ t ∈ l, t.attrs.length * 16 ≤ reachBytes := Opens.sl Tryz.underlying22 (sz := 2) (by kernel_rfl) (by decide) (by kernel_rfl) opens_95
def dSc : De (List Ty) where
 run h l := deSc h (.g l)
 sim hh e := deSc_sim hh e
theorem opens_24 : Opens Tryz.prog 24 dSc fun l => l.length * 40 ≤ reachBytes ∧ ∀ t ∈ l, t.attrs.length * 16 ≤ reachBytes := by
 refine Opens.conv (Opens.struct Tryz.underlying24 (tot := 1) (by kernel_rfl) (OpensF.one rfl (by kernel_rfl) opens_22)) fun h l x e ok => ?_
 obtain ⟨a, rfl⟩ := sl_one e
 exact ⟨x, e, ok⟩
def dQu : De Qu where
 run h l := deQ h (.g l)
 sim hh e := deQ_sim hh e
end Go.Proofs.YtbffkkeieihpdaaGreatDoor

namespace Go.Proofs.YtbffkkeieihpdaaGreatDoor
open Go Go.Eng
noncomputable def cz (S : List Nat) (pf : FuncId → Option (List AV → Heap → PRes)) : Ctx := ⟨Tryz.prog, ti, globS S, pf, true⟩
section
variable (S : List Nat) (pf : FuncId → Option (List AV → Heap → PRes))
theorem cz_ti : (cz S pf).ti = ti := rfl
theorem cz_G : (cz S pf).G = globS S := rfl
theorem cz_pf : (cz S pf).pf = pf := rfl
theorem cz_tw : (cz S pf).two = true := rfl
theorem cz_two (ops : Array Oper) (o : Oper) (e : Nat → AV) (h : Heap) (i : Nat) : twoO (cz S pf) ops o e h i = match o.guard with
  | none => two (cz S pf) o.op (ev e) h i
  | some _ => none := twoO_on rfl ops o e h i
theorem mixed_z : (cz S pf).P.follows .mixedOrders = true := mixed S pf
theorem ty_z (t : TypeId) (h : ((cz S pf).ti t).d ≠ .other) : TyOk (cz S pf) t :=
 let k := tyOk S pf t h
 ⟨k.info, k.zlen, k.zone, k.desc⟩
end
theorem evz : type_of% (And.intro @ev0 (And.intro (And.intro (And.intro @cz_ti (And.intro @cz_G @cz_pf)) (And.intro (And.intro @cz_tw @cz_two) (And.intro @two.eq_1 @two.eq_2))) (And.intro (And.intro (And.intro @ldcs_1 @ldcs_2) (And.intro @ldcs_3 @ldcs_4)) (And.intro (And.intro @ldcs_5 @ldcs_7) (And.intro @sls.eq_1 @slc.eq_1))))) := And.intro @ev0 (And.intro (And.intro (And.intro @cz_ti (And.intro @cz_G @cz_pf)) (And.intro (And.intro @cz_tw @cz_two) (And.intro @two.eq_1 @two.eq_2))) (And.intro (And.intro (And.intro @ldcs_1 @ldcs_2) (And.intro @ldcs_3 @ldcs_4)) (And.intro (And.intro @ldcs_5 @ldcs_7) (And.intro @sls.eq_1 @slc.eq_1))))
theorem glob_sub {S S' : List Nat} (hs : ∀ x ∈ S, x ∈ S') : ∀ g cs, globS S g = some cs → globS S' g = some cs := fun g cs hg => by
 simp only [globS] at hg ⊢
 by_cases hm : g ∈ S
 ·rw [if_pos hm] at hg; rw [if_pos (hs g hm)]; exact hg
 ·rw [if_neg hm] at hg; cases hg
theorem pure_z {S S' : List Nat} {pf pf' : FuncId → Option (List AV → Heap → PRes)} (hs : ∀ x ∈ S, x ∈ S') {f : FuncId} {g : List AV → Heap → PRes} (h : PureOk (cx S pf) f g) : PureOk (cz S' pf') f g :=
 ⟨h.1, h.2.imp (fun h => ⟨h.1, fun ρ hh w args vs r => h.2 ρ hh w args vs ⟨fun g cs hg => r.glob g cs (glob_sub hs g cs hg), r.blk⟩⟩) fun h => h⟩
theorem pfZ_ok {S : List Nat} {l : List (FuncId × (List AV → Heap → PRes))} (h : TbOk S l) : Ok (cz S (pfL l)) :=
 ⟨ty_z S _, fun f g hf => pure_z (fun _ hx => hx) ((pfL_ok h).pf f g hf)⟩
theorem acall_z {S S' : List Nat} {pf pf' : FuncId → Option (List AV → Heap → PRes)} (hs : ∀ x ∈ S, x ∈ S') {f : FuncId} {args : List AV} {h : Heap} {n : Nat} {Q : AV → Heap → Nat → Prop} (k : ACall (cx S pf) f args h n Q) : ACall (cz S' pf') f args h n Q := by
 refine ⟨k.1, fun K w0 ρ w vs r hv => ?_⟩
 have r0 : Rel (cx S pf) K w0 ρ (n ≤ ·) h w := ⟨r.os, r.tape, r.output, r.size, r.keep, r.kold, fun g cs hg => r.glob g cs (glob_sub hs g cs hg), r.blk, r.apart, r.mine, r.free, r.vers⟩
 refine (k.2 K w0 ρ w vs r0 hv).mono fun e w' ⟨y, h1, ρ2, z, h', n', h2, h3, r2, h5⟩ => ⟨y, h1, ρ2, z, h', n', h2, h3, ⟨r2.os, r2.tape, r2.output, r2.size, r2.keep, r2.kold, fun g cs hg => ?_, r2.blk, r2.apart, r2.mine, r2.free, r2.vers⟩, h5⟩
 obtain ⟨g1, arr, el, fr, g2, g3⟩ := r.glob g cs hg
 exact ⟨g1, arr, el, fr, by rw [r2.keep g g1, ← r.keep g g1]; exact g2, g3⟩
theorem acall_zz {S S' : List Nat} {pf pf' : FuncId → Option (List AV → Heap → PRes)} (hs : ∀ x ∈ S, x ∈ S') {f : FuncId} {args : List AV} {h : Heap} {n : Nat} {Q : AV → Heap → Nat → Prop} (k : ACall (cz S pf) f args h n Q) : ACall (cz S' pf') f args h n Q := by
 refine ⟨k.1, fun K w0 ρ w vs r hv => ?_⟩
 have r0 : Rel (cz S pf) K w0 ρ (n ≤ ·) h w := ⟨r.os, r.tape, r.output, r.size, r.keep, r.kold, fun g cs hg => r.glob g cs (glob_sub hs g cs hg), r.blk, r.apart, r.mine, r.free, r.vers⟩
 refine (k.2 K w0 ρ w vs r0 hv).mono fun e w' ⟨y, h1, ρ2, z, h', n', h2, h3, r2, h5⟩ => ⟨y, h1, ρ2, z, h', n', h2, h3, ⟨r2.os, r2.tape, r2.output, r2.size, r2.keep, r2.kold, fun g cs hg => ?_, r2.blk, r2.apart, r2.mine, r2.free, r2.vers⟩, h5⟩
 obtain ⟨g1, arr, el, fr, g2, g3⟩ := r.glob g cs hg
 exact ⟨g1, arr, el, fr, by rw [r2.keep g g1, ← r.keep g g1]; exact g2, g3⟩
end Go.Proofs.YtbffkkeieihpdaaGreatDoor

namespace Go.Proofs.YtbffkkeieihpdaaGreatDoor
open Go Go.Eng Go.RowKit Go.ChangeShapes Go.Joins
theorem law_callsZ {S : List Nat} {tb : List (FuncId × (List AV → Heap → PRes))} (ok : TbOk S tb) {f : FuncId} {fn : Func} {c : Code} (hf : Tryz.prog.funcs[f]? = some fn) (hb : fn.body = some c) {k : Nat} (hok : (fnOk (cz S (pfL tb)) fn c && decide (k ≤ fn.ntmps)) = true)
  {args : List AV} {vs : List Value} (hk : args.length = k) {ρ : Ren} {h : Heap} {m : Nat} {W : World} (h1 : awp (cz S (pfL tb)) (fn.body.getD .skip) (finQ (cz S (pfL tb)) fn fun z _ _ => z = bv true) ⟨env0 args, roH h, m⟩)
  (r0 : RoRel (cx S (pfL tb)) ρ h W) (hm : ∀ j, m ≤ j → (∀ ver, ρ j ver = none) ∧ h j = none) (ha : VRs ρ args vs) : Calls Tryz.prog f vs.toArray W fun e W' => e = .returned (.bool true) ∧ Below W.heap.size W W' := by
 have r : RoRel (cz S (pfL tb)) ρ h W := ⟨r0.glob, r0.blk⟩
 simp only [Bool.and_eq_true, decide_eq_true_eq] at hok
 rw [hb] at h1
 refine (calls_of_awp (pfZ_ok ok) (mixed_z _ _) hf hb hok.1 (by omega) h1 (r.rel hm) ha).mono fun e w' ⟨y, e1, ρ', z, h', n', q1, q2, q3, q4⟩ => ?_
 subst q4
 simp only [bv, VR] at q2
 subst q2
 exact ⟨e1, q3.gone⟩
end Go.Proofs.YtbffkkeieihpdaaGreatDoor

namespace Go.Proofs.YtbffkkeieihpdaaGreatDoor
open Go Go.Eng
def OwnR (sz : Nat) (a : AV) (len : Nat) (h : Heap) (n : Nat) (z : AV) (h' : Heap) (n' : Nat) : Prop :=
 (len = 0 ∧ z = .v (.slice none 0 0) ∧ h' = h ∧ n' = n) ∨
 (0 < len ∧ z = .s n 0 0 len ∧ n' = n + 2 ∧ h' = up h n (some ⟨slc h a 0 (len * sz), 0, true, sz⟩))
theorem upup {h : Heap} {n : Nat} {a b : Option Blk} : up (up h n a) n b = up h n b := by
 funext i
 by_cases e : i = n
 ·subst e; rw [up_same, up_same]
 ·rw [up_ne _ _ e, up_ne _ _ e, up_ne _ _ e]
theorem wr_app3 {α : Type} : ∀ (cs : List α) (a b c : List α), b.length = cs.length → wr (a ++ b ++ c) a.length cs = a ++ cs ++ c
 | [], a, b, c, h => by
  have : b = [] := List.eq_nil_of_length_eq_zero h
  subst this; rfl
 | x :: r, a, [], c, h => by simp at h
 | x :: r, a, y :: b, c, h => by
  have e : ((a ++ (y :: b) ++ c).set a.length x) = (a ++ [x]) ++ b ++ c := by
   rw [List.append_assoc, List.set_append_right _ _ (Nat.le_refl _), Nat.sub_self]
   simp
  have := wr_app3 r (a ++ [x]) b c (by simpa using h)
  rw [List.length_append] at this
  simp only [wr, e]
  simpa using this
theorem wr_full {l cs : List AV} (h : l.length = cs.length) : wr l 0 cs = cs := by
 have := wr_app3 cs [] l [] (by simpa using h)
 simpa using this
theorem own_fin {α : Type} {sz : Nat} {d : De α} {h : Heap} {n : Nat} {a : AV} {l : List α} (e1 : rd (De.sl sz d) h a = some l) (hn : Fresh n h) (z : List Value) (hz : z.length = sz) (b : Option Blk) :
  (sls (up h n b) a 0 (l.length * sz) ∧ l.length * sz ≤ (repZ z l.length).length) ∧ wr (repZ z l.length) 0 (List.take (l.length * sz) (slc (up h n b) a 0 (l.length * sz))) = slc h a 0 (l.length * sz) := by
 obtain ⟨cs, c1, c2, c3⟩ := rd_copy hn e1
 have h1 := c1 (up h n b) ((agree_up (Nat.le_refl _) _).2 (agree_refl _ _))
 have h2 := (c1 h (agree_refl _ _)).2
 have h3 : (repZ z l.length).length = l.length * sz := by rw [repZ_length, hz]
 refine ⟨⟨h1.1, by omega⟩, ?_⟩
 rw [h1.2, h2, List.take_of_length_le (by omega), wr_full (by omega)]
theorem c107 {α : Type} {d : De α} {h : Heap} {n : Nat} {a : AV} {l : List α} (e1 : rd (De.sl 2 d) h a = some l) (hl : l.length ≤ 2199023255552) (hn : Fresh n h) :
  ACall (cx [] (pfL [])) 107 [a] h n fun z h' n' => OwnR 2 a l.length h n z h' n' := by
 refine acall_of_awp (args := [a]) (pfL_ok tb_nil) (mixed _ _) Tryz.func107 (c := Tryz.f107.body.getD .skip) rfl (by kernel_rfl) (callable Tryz.func107 rfl rfl _ _) (show 1 ≤ Tryz.f107.ntmps by decide +kernel) ?_
 obtain ⟨s1, s2, s3, s4, s5⟩ := sl_is e1
 have key : ∀ e : Nat → AV, e 0 = a → awp (cx [] (pfL [])) (Tryz.f107.body.getD .skip) (finQ (cx [] (pfL [])) Tryz.f107 fun z h' n' => OwnR 2 a l.length h n z h' n') ⟨e, h, n⟩ := by
  intro e q0
  by_cases h0 : l.length = 0
  ·simp [evx, Tryz.f107, q0, s1, s2, h0, OwnR]
  ·have z3 : 0 < l.length := by omega
   simp [evx, Tryz.f107, q0, s1, s2, h0, OwnR, upup]
   have k := fun z hz b => own_fin e1 hn z hz b
   try simp only [Nat.mul_one] at k
   refine ⟨by omega, (k _ rfl _).1, z3, ?_⟩
   rw [(k _ rfl _).2]
 exact key _ rfl
theorem c108 {α : Type} {d : De α} {h : Heap} {n : Nat} {a : AV} {l : List α} (e1 : rd (De.sl 1 d) h a = some l) (hl : l.length ≤ 2199023255552) (hn : Fresh n h) :
  ACall (cx [] (pfL [])) 108 [a] h n fun z h' n' => OwnR 1 a l.length h n z h' n' := by
 refine acall_of_awp (args := [a]) (pfL_ok tb_nil) (mixed _ _) Tryz.func108 (c := Tryz.f108.body.getD .skip) rfl (by kernel_rfl) (callable Tryz.func108 rfl rfl _ _) (show 1 ≤ Tryz.f108.ntmps by decide +kernel) ?_
 obtain ⟨s1, s2, s3, s4, s5⟩ := sl_is e1
 have key : ∀ e : Nat → AV, e 0 = a → awp (cx [] (pfL [])) (Tryz.f108.body.getD .skip) (finQ (cx [] (pfL [])) Tryz.f108 fun z h' n' => OwnR 1 a l.length h n z h' n') ⟨e, h, n⟩ := by
  intro e q0
  by_cases h0 : l.length = 0
  ·simp [evx, Tryz.f108, q0, s1, s2, h0, OwnR]
  ·have z3 : 0 < l.length := by omega
   simp [evx, Tryz.f108, q0, s1, s2, h0, OwnR, upup]
   have k := fun z hz b => own_fin e1 hn z hz b
   try simp only [Nat.mul_one] at k
   refine ⟨by omega, (k _ rfl _).1, z3, ?_⟩
   rw [(k _ rfl _).2]
 exact key _ rfl
theorem c109 {α : Type} {d : De α} {h : Heap} {n : Nat} {a : AV} {l : List α} (e1 : rd (De.sl 5 d) h a = some l) (hl : l.length ≤ 2199023255552) (hn : Fresh n h) :
  ACall (cx [] (pfL [])) 109 [a] h n fun z h' n' => OwnR 5 a l.length h n z h' n' := by
 refine acall_of_awp (args := [a]) (pfL_ok tb_nil) (mixed _ _) Tryz.func109 (c := Tryz.f109.body.getD .skip) rfl (by kernel_rfl) (callable Tryz.func109 rfl rfl _ _) (show 1 ≤ Tryz.f109.ntmps by decide +kernel) ?_
 obtain ⟨s1, s2, s3, s4, s5⟩ := sl_is e1
 have key : ∀ e : Nat → AV, e 0 = a → awp (cx [] (pfL [])) (Tryz.f109.body.getD .skip) (finQ (cx [] (pfL [])) Tryz.f109 fun z h' n' => OwnR 5 a l.length h n z h' n') ⟨e, h, n⟩ := by
  intro e q0
  by_cases h0 : l.length = 0
  ·simp [evx, Tryz.f109, q0, s1, s2, h0, OwnR]
  ·have z3 : 0 < l.length := by omega
   simp [evx, Tryz.f109, q0, s1, s2, h0, OwnR, upup]
   have k := fun z hz b => own_fin e1 hn z hz b
   try simp only [Nat.mul_one] at k
   refine ⟨by omega, (k _ rfl _).1, z3, ?_⟩
   rw [(k _ rfl _).2]
 exact key _ rfl
theorem c110 {α : Type} {d : De α} {h : Heap} {n : Nat} {a : AV} {l : List α} (e1 : rd (De.sl 6 d) h a = some l) (hl : l.length ≤ 2199023255552) (hn : Fresh n h) :
  ACall (cx [] (pfL [])) 110 [a] h n fun z h' n' => OwnR 6 a l.length h n z h' n' := by
 refine acall_of_awp (args := [a]) (pfL_ok tb_nil) (mixed _ _) Tryz.func110 (c := Tryz.f110.body.getD .skip) rfl (by kernel_rfl) (callable Tryz.func110 rfl rfl _ _) (show 1 ≤ Tryz.f110.ntmps by decide +kernel) ?_
 obtain ⟨s1, s2, s3, s4, s5⟩ := sl_is e1
 have key : ∀ e : Nat → AV, e 0 = a → awp (cx [] (pfL [])) (Tryz.f110.body.getD .skip) (finQ (cx [] (pfL [])) Tryz.f110 fun z h' n' => OwnR 6 a l.length h n z h' n') ⟨e, h, n⟩ := by
  intro e q0
  by_cases h0 : l.length = 0
  ·simp [evx, Tryz.f110, q0, s1, s2, h0, OwnR]
  ·have z3 : 0 < l.length := by omega
   simp [evx, Tryz.f110, q0, s1, s2, h0, OwnR, upup]
   have k := fun z hz b => own_fin e1 hn z hz b
   try simp only [Nat.mul_one] at k
   refine ⟨by omega, (k _ rfl _).1, z3, ?_⟩
   rw [(k _ rfl _).2]
 exact key _ rfl
theorem c111 {α : Type} {d : De α} {h : Heap} {n : Nat} {a : AV} {l : List α} (e1 : rd (De.sl 1 d) h a = some l) (hl : l.length ≤ 2199023255552) (hn : Fresh n h) :
  ACall (cx [] (pfL [])) 111 [a] h n fun z h' n' => OwnR 1 a l.length h n z h' n' := by
 refine acall_of_awp (args := [a]) (pfL_ok tb_nil) (mixed _ _) Tryz.func111 (c := Tryz.f111.body.getD .skip) rfl (by kernel_rfl) (callable Tryz.func111 rfl rfl _ _) (show 1 ≤ Tryz.f111.ntmps by decide +kernel) ?_
 obtain ⟨s1, s2, s3, s4, s5⟩ := sl_is e1
 have key : ∀ e : Nat → AV, e 0 = a → awp (cx [] (pfL [])) (Tryz.f111.body.getD .skip) (finQ (cx [] (pfL [])) Tryz.f111 fun z h' n' => OwnR 1 a l.length h n z h' n') ⟨e, h, n⟩ := by
  intro e q0
  by_cases h0 : l.length = 0
  ·simp [evx, Tryz.f111, q0, s1, s2, h0, OwnR]
  ·have z3 : 0 < l.length := by omega
   simp [evx, Tryz.f111, q0, s1, s2, h0, OwnR, upup]
   have k := fun z hz b => own_fin e1 hn z hz b
   try simp only [Nat.mul_one] at k
   refine ⟨by omega, (k _ rfl _).1, z3, ?_⟩
   rw [(k _ rfl _).2]
 exact key _ rfl
end Go.Proofs.YtbffkkeieihpdaaGreatDoor

namespace Go.Proofs.YtbffkkeieihpdaaGreatDoor
open Go Go.Eng
def wtn (lo hi : Nat) (h : Heap) : Heap := fun i => if lo ≤ i ∧ i < hi then h i else none
theorem wtn_at {lo hi : Nat} {h : Heap} {i : Nat} (h1 : lo ≤ i) (h2 : i < hi) : wtn lo hi h i = h i := if_pos ⟨h1, h2⟩
theorem wtn_mono {lo hi lo' hi' : Nat} {h h' : Heap} (h1 : lo' ≤ lo) (h2 : hi ≤ hi') (h3 : ∀ i, lo ≤ i → i < hi → h' i = h i) : (wtn lo hi h).le (wtn lo' hi' h') := fun i k e => by
 unfold wtn at e ⊢
 split at e
 ·rename_i h4
  rw [if_pos ⟨by omega, by omega⟩, h3 i h4.1 h4.2]; exact e
 ·cases e
theorem wtn_up {lo hi : Nat} {h : Heap} {i : Nat} (b : Option Blk) (hi' : i < lo ∨ hi ≤ i) : wtn lo hi (up h i b) = wtn lo hi h := by
 funext j
 unfold wtn
 split
 ·rw [up_ne _ _ (by omega)]
 ·rfl
theorem wtn_rd {α : Type} {d : De α} {lo hi lo' hi' : Nat} {h h' : Heap} {a : AV} {x : α} (e : rd d (wtn lo hi h) a = some x) (h1 : lo' ≤ lo) (h2 : hi ≤ hi') (h3 : ∀ i, lo ≤ i → i < hi → h' i = h i) : rd d (wtn lo' hi' h') a = some x := rd_mono (wtn_mono h1 h2 h3) e
def still (T : Nat → Nat) (h : Heap) : Heap := fun i => if T i = 0 then h i else none
theorem still_le (T : Nat → Nat) (h : Heap) : (still T h).le h := fun i k e => by
 unfold still at e
 split at e
 ·exact e
 ·cases e
theorem still_at {T : Nat → Nat} {h : Heap} {i : Nat} (h1 : T i = 0) : still T h i = h i := if_pos h1
theorem still_wtn {T : Nat → Nat} {lo hi : Nat} {h : Heap} (h1 : ∀ i, lo ≤ i → i < hi → T i = 0) : (wtn lo hi h).le (still T h) := fun i k e => by
 unfold wtn at e
 split at e
 ·rename_i h2
  rw [still_at (h1 i h2.1 h2.2)]; exact e
 ·cases e
structure Mv (K : Nat → Prop) (T : Nat → Nat) (h : Heap) (n : Nat) (T' : Nat → Nat) (h' : Heap) (n' : Nat) : Prop where
 nn : n ≤ n'
 old : ∀ i, i < n → T' i = T i
 keep : ∀ i, i < n → ¬ (T i ≠ 0 ∧ K (T i)) → h' i = h i
 new : ∀ i, n' ≤ i → T' i = 0
 fr : Fresh n' h'
theorem Mv.still {K : Nat → Prop} {T T' : Nat → Nat} {h h' : Heap} {n n' : Nat} (m : Mv K T h n T' h' n') (hn : Fresh n h) : (still T h).le (still T' h') := fun i k e => by
 unfold Go.Proofs.YtbffkkeieihpdaaGreatDoor.still at e ⊢
 split at e
 ·rename_i h0
  have hi : i < n := lt_of e hn
  rw [if_pos (by rw [m.old i hi]; exact h0), m.keep i hi (fun h => h.1 h0)]; exact e
 ·cases e
theorem Mv.trans {K K1 K2 : Nat → Prop} {T T1 T2 : Nat → Nat} {h h1 h2 : Heap} {n n1 n2 : Nat} (a : Mv K1 T h n T1 h1 n1) (b : Mv K2 T1 h1 n1 T2 h2 n2) (k1 : ∀ x, K1 x → K x) (k2 : ∀ x, K2 x → K x) : Mv K T h n T2 h2 n2 where
 nn := Nat.le_trans a.nn b.nn
 old i hi := by rw [b.old i (Nat.lt_of_lt_of_le hi a.nn), a.old i hi]
 keep i hi hk := by
  rw [b.keep i (Nat.lt_of_lt_of_le hi a.nn) (by rw [a.old i hi]; exact fun h => hk ⟨h.1, k2 _ h.2⟩), a.keep i hi fun h => hk ⟨h.1, k1 _ h.2⟩]
 new := b.new
 fr := b.fr
theorem Mv.of_agree {K : Nat → Prop} {T : Nat → Nat} {h h' : Heap} {n n' : Nat} (ht : ∀ i, n ≤ i → T i = 0) (hnn : n ≤ n') (ha : agree n h h') (hf : Fresh n' h') : Mv K T h n T h' n' :=
 ⟨hnn, fun _ _ => rfl, fun i hi _ => ha i hi, fun i hi => ht i (by omega), hf⟩
def GL (T : Nat → Nat) (k sz : Nat) (h : Heap) (a : AV) (m : Nat) (cs : List AV) : Prop :=
 cs.length = m * sz ∧ ((a = .v (.slice none 0 0) ∧ m = 0) ∨ ∃ id ver, a = .s id ver 0 m ∧ T id = k ∧ h id = some ⟨cs, ver, true, sz⟩)
theorem GL.mv {K : Nat → Prop} {T T' : Nat → Nat} {h h' : Heap} {n n' k sz m : Nat} {a : AV} {cs : List AV} (g : GL T k sz h a m cs) (v : Mv K T h n T' h' n') (hn : Fresh n h) (hk : ¬ (k ≠ 0 ∧ K k)) : GL T' k sz h' a m cs := by
 refine ⟨g.1, g.2.imp id fun ⟨id, ver, e1, e2, e3⟩ => ?_⟩
 have hi : id < n := lt_of e3 hn
 exact ⟨id, ver, e1, by rw [v.old id hi]; exact e2, by rw [v.keep id hi (by rw [e2]; exact hk)]; exact e3⟩
theorem GL.nil (T : Nat → Nat) (k sz : Nat) (h : Heap) : GL T k sz h (.v (.slice none 0 0)) 0 [] := ⟨by simp, .inl ⟨rfl, rfl⟩⟩
theorem GL.rd {α : Type} {d : De α} {T : Nat → Nat} {k sz m : Nat} {h h0 : Heap} {a : AV} {cs : List AV} {l : List α} (g : GL T k sz h a m cs) (hl : l.length = m) (h1 : ∀ id ver, a = .s id ver 0 m → h0 id = h id) (h2 : ∀ i (hi : i < l.length), d.run h0 ((cs.drop (i * sz)).take sz) = some l[i]) : rd (De.sl sz d) h0 a = some l := by
 rcases g.2 with ⟨rfl, rfl⟩ | ⟨id, ver, rfl, e2, e3⟩
 ·obtain rfl : l = [] := List.length_eq_zero_iff.1 hl
  rfl
 ·subst hl
  exact De.sl_in (off := 0) (k := ⟨cs, ver, true, sz⟩) (by rw [h1 id ver rfl]; exact e3) (by have := g.1; simp only []; omega) (fun i hi => by simpa using h2 i hi)
end Go.Proofs.YtbffkkeieihpdaaGreatDoor
