/-
  TREES, PART D: how deep a query's trees are; the place of an attribute, on both sides.
-/
import Derived.Test.YtkfphaphiikloaaDoorX18
import Derived.Test.YtkfphaphiikloaaDoorX16
set_option linter.unusedSimpArgs false
set_option linter.unusedVariables false
set_option linter.constructorNameAsVariable false
namespace Go.Proofs.YtkfphaphiikloaaDoor
open Go Go.Eng

def deQ1 (h : Heap) : List AV → Option Qu
  | [x] => deQ h x
  | _ => none
theorem deQ1_out {h : Heap} {args : List AV} {q : Qu} (e : deQ1 h args = some q) : ∃ x, args = [x] ∧ deQ h x = some q := by
  unfold deQ1 at e
  split at e
  · exact ⟨_, rfl, e⟩
  · cases e
theorem deQ1_mono (h h' : Heap) (args : List AV) (q : Qu) (hh : h.le h') (e : deQ1 h args = some q) : deQ1 h' args = some q := by
  obtain ⟨x, rfl, e1⟩ := deQ1_out e
  exact deQ_sim hh.sim e1
def qdeepTo (q : Qu) (j : Nat) : Bool := deepB q.wh || (q.ret.take j).any deepB
def qdeep (q : Qu) : Bool := qdeepTo q q.ret.length
theorem qdeep_succ {q : Qu} {j : Nat} (hj : j < q.ret.length) : qdeepTo q (j + 1) = (qdeepTo q j || deepB q.ret[j]) := by
  unfold qdeepTo
  rw [List.take_add_one, List.getElem?_eq_getElem hj, List.any_append, Option.toList_some]
  simp [Bool.or_assoc]
def G14 := pureH deQ1 (fun q => smallT q.wh ∧ q.ret.length < big ∧ ∀ t ∈ q.ret, smallT t) fun q => bv (qdeep q)
def tb14 : List (FuncId × (List AV → Heap → PRes)) := [(15, G15)]
set_option maxRecDepth 100000 in
set_option maxHeartbeats 1000000 in
theorem P14 : P0 [] 14 G14 := by
  refine mkH 1 (S := []) (l := tb14) (tb_cons P15 tb_nil) Tryd.func14 rfl (by kernel_rfl) deQ1_mono (fun h l x e => by obtain ⟨a, rfl, _⟩ := deQ1_out e; exact Nat.le_refl _) (fun a => rfl) (fun args q h n e hp hn => ?_)
  obtain ⟨x, rfl, e1⟩ := deQ1_out e
  obtain ⟨a, b, c, rfl, e2, e3, e4⟩ := deQ_out e1
  obtain ⟨hsw, hrb, hsr⟩ := hp
  obtain ⟨s1, s2, s3, s4, s5⟩ := sl_is e4
  have o1 := (sl_is e2).2.2.2.1
  have o2 := (sl_is e3).2.2.2.1
  have g3 := rd_agree hn e3
  have key : ∀ e : Nat → AV, e 0 = .g [a, ii q.mode, ii q.after, b, ii q.within, ss q.par, c] → awp (cx [] (pfL tb14)) (Tryd.f14.body.getD .skip) (finQ (cx [] (pfL tb14)) Tryd.f14 fun z _ _ => z = bv (qdeep q)) ⟨e, roH h, n⟩ := fun e q0 => by
    simp [evs, aeval, binS, cx_ti, cx_G, cx_pf, cx_tw, ti, globS, glob, ldcs_1, ldcs_2, ldcs_3, ldcs_4, ldcs_5, ldcs_7, sls.eq_1, slc.eq_1, pfL, Tryd.f14, q0, ii, ss, s1, s2, s3, s4, o1, o2, tb14, G15, pureH, deT, g3, agree_up, agree_refl, hsw]
    refine awp_loop (fun s => ∃ j : Nat, j ≤ q.ret.length ∧ s.e 1 = .p n 0 0 ∧ s.e 3 = bv (qdeepTo q j) ∧ s.e 4 = ii j ∧ agree n (roH h) s.h ∧ s.h n = some ⟨[a, ii q.mode, ii q.after, b, ii q.within, ss q.par, c], 0, true, 7⟩) (fun s => q.ret.length - (s.e 4).i.toNat) ⟨0, by simp [up, ii, ss, agree_up, agree_refl, qdeepTo]⟩ ?_
    rintro e' h' n' ⟨j, hj, q1, q3, q4, hag, hbk⟩
    simp only [] at q1 q3 q4 hag hbk
    by_cases hlt : j < q.ret.length
    · rcases sls_at e4 with ⟨h0, _⟩ | ⟨id, off, k, rfl, hk, ho, hat⟩
      · rw [h0] at hlt; simp at hlt
      obtain ⟨c', hc, hcr⟩ := hat j hlt
      have u3 := (sl_is hcr).2.2.1
      have gr : ∀ h', agree n (roH h) h' → rd dNs h' c' = some q.ret[j] := rd_agree hn hcr
      have ha' := agree_at hn hk hag
      have hw := wrap_nat (j := j) (by omega)
      have hw1 : off + (j + 1) ≤ k.cells.length := by omega
      have hsu := qdeep_succ hlt
      have hsm := hsr _ (List.getElem_mem hlt)
      generalize q.ret[j] = t at *
      generalize hqd : qdeepTo q j = d at *
      cases d <;> simp [evs, aeval, binS, cx_ti, cx_G, cx_pf, cx_tw, ti, globS, glob, ldcs_1, ldcs_2, ldcs_3, ldcs_4, ldcs_5, ldcs_7, sls.eq_1, slc.eq_1, pfL, q1, q3, q4, ii, bv, hlt, hbk, ha', hc, hw1, tb14, G15, pureH, deT, gr, hag, hsm, hw, u3]
      · exact ⟨⟨j + 1, by omega, by rw [hsu]; rfl, by omega⟩, by omega⟩
      · exact ⟨⟨j + 1, by omega, by rw [hsu]; rfl, by omega⟩, by omega⟩
    · obtain rfl : j = q.ret.length := by omega
      simp [evs, aeval, binS, cx_ti, cx_G, cx_pf, cx_tw, ti, globS, glob, ldcs_1, ldcs_2, ldcs_3, ldcs_4, ldcs_5, ldcs_7, sls.eq_1, slc.eq_1, pfL, q1, q3, q4, ii, hbk, s1, s2, s3, qdeep, bv]
  exact key _ rfl

/-! ### schemas -/
structure Ty where
  name : ByteArray
  attrs : List ByteArray
def deTyc (h : Heap) : List AV → Option Ty
  | [.v (.string n), a] => (rd dSs h a).map fun l => ⟨n, l⟩
  | _ => none
theorem deTyc_out {h : Heap} {l : List AV} {x : Ty} (e : deTyc h l = some x) : ∃ a, l = [ss x.name, a] ∧ rd dSs h a = some x.attrs := by
  unfold deTyc at e
  split at e
  · simp only [Option.map_eq_some_iff] at e
    obtain ⟨t, h1, rfl⟩ := e
    exact ⟨_, rfl, h1⟩
  · cases e
theorem deTyc_in {h : Heap} {a : AV} {x : Ty} (e : rd dSs h a = some x.attrs) : deTyc h [ss x.name, a] = some x := by
  simp only [deTyc, ss, e, Option.map_some]
def dTy : De Ty where
  run h l := deTyc h l
  sim {h h' l x} hh e := by
    obtain ⟨ty, rfl, h1⟩ := deTyc_out e
    exact deTyc_in (rd_sim hh h1)
def dTys : De (List Ty) := De.sl 2 dTy
theorem tys_at {h : Heap} {a : AV} {l : List Ty} (e : rd dTys h a = some l) : (l = [] ∧ (a = .v (.slice none 0 0) ∨ a = .e)) ∨
    ∃ id off k, a = .s id k.ver off l.length ∧ h id = some k ∧ off + l.length * 2 ≤ k.cells.length ∧ ∀ i (hi : i < l.length), k.cells[off + i * 2]? = some (ss l[i].name) ∧ ∃ c, k.cells[off + (i * 2 + 1)]? = some c ∧ rd dSs h c = some l[i].attrs := by
  rcases sl_at e with h0 | ⟨id, off, k, h1, h2, h3, h4⟩
  · exact .inl h0
  · refine .inr ⟨id, off, k, h1, h2, h3, fun i hi => ?_⟩
    obtain ⟨c, h5, h6⟩ := deTyc_out (h4 i hi)
    have t0 := cell_of (c := 0) h5 rfl (by omega)
    have t1 := cell_of (c := 1) h5 rfl (by omega)
    rw [Nat.add_assoc] at t1
    exact ⟨t0, c, t1, h6⟩
theorem ss_at {h : Heap} {a : AV} {l : List ByteArray} (e : rd dSs h a = some l) : (l = [] ∧ (a = .v (.slice none 0 0) ∨ a = .e)) ∨
    ∃ id off k, a = .s id k.ver off l.length ∧ h id = some k ∧ off + l.length ≤ k.cells.length ∧ ∀ i (hi : i < l.length), k.cells[off + i]? = some (ss l[i]) := by
  rcases sl_at e with h0 | ⟨id, off, k, h1, h2, h3, h4⟩
  · exact .inl h0
  · rw [Nat.mul_one] at h3
    refine .inr ⟨id, off, k, h1, h2, h3, fun i hi => ?_⟩
    have := h4 i hi
    rw [Nat.mul_one] at this
    simp only [De.str] at this
    split at this
    · rename_i z hq
      have h5 := cell_of (c := 0) hq rfl (by omega)
      simp only [Option.some.injEq] at this
      rw [Nat.add_zero] at h5
      rw [h5, this]
      rfl
    · cases this
def deSc (h : Heap) : AV → Option (List Ty)
  | .g [a] => rd dTys h a
  | _ => none
theorem deSc_out {h : Heap} {x : AV} {q : List Ty} (e : deSc h x = some q) : ∃ a, x = .g [a] ∧ rd dTys h a = some q := by
  unfold deSc at e
  split at e
  · exact ⟨_, rfl, e⟩
  · cases e
theorem deSc_sim {h h' : Heap} (hh : h.sim h') {x : AV} {q : List Ty} (e : deSc h x = some q) : deSc h' x = some q := by
  obtain ⟨a, rfl, e1⟩ := deSc_out e
  exact rd_sim hh e1
theorem sc_agree {h : Heap} {n : Nat} {a : AV} {x : List Ty} (hn : ∀ i, n ≤ i → h i = none) (e : deSc h a = some x) : ∀ h', agree n (roH h) h' → deSc h' a = some x := fun _ ha => deSc_sim (agree_sim hn ha) e
def smallS (l : List Ty) : Prop := l.length < big ∧ ∀ t ∈ l, t.attrs.length < big
def tsB : ByteArray := ⟨#[116, 115]⟩
/-- The place of an attribute. -/
def attrOf (l : List Ty) (ty : Int) (name : ByteArray) : Int :=
  if ty < 0 ∨ (l.length : Int) ≤ ty then -1 else if (name == tsB) = true then -2 else
    match l[ty.toNat]? with
    | some t => if ixOf t.attrs name < 8 then ixOf t.attrs name else -1
    | none => -1
def dePl (h : Heap) : List AV → Option (List ByteArray × ByteArray)
  | [a, .v (.string v)] => (rd dSs h a).map fun l => (l, v)
  | _ => none
theorem dePl_out {h : Heap} {args : List AV} {q : List ByteArray × ByteArray} (e : dePl h args = some q) : ∃ a, args = [a, ss q.2] ∧ rd dSs h a = some q.1 := by
  unfold dePl at e
  split at e
  · simp only [Option.map_eq_some_iff] at e
    obtain ⟨t, h1, rfl⟩ := e
    exact ⟨_, rfl, h1⟩
  · cases e
theorem dePl_mono (h h' : Heap) (args : List AV) (q : List ByteArray × ByteArray) (hh : h.le h') (e : dePl h args = some q) : dePl h' args = some q := by
  obtain ⟨x, rfl, e1⟩ := dePl_out e
  simp only [dePl, ss, rd_mono hh e1, Option.map_some]
def G140 := pureH dePl (fun q => q.1.length < big) fun q => ii (ixOf q.1 q.2)
set_option maxRecDepth 100000 in
set_option maxHeartbeats 1000000 in
theorem P140 : P0 [] 140 G140 := by
  refine mkH 2 (S := []) (l := []) tb_nil Tryd.func140 rfl (by kernel_rfl) dePl_mono (fun h l x e => by obtain ⟨a, rfl, _⟩ := dePl_out e; exact Nat.le_refl _) (fun a => rfl) (fun args q h n e hp hn => ?_)
  obtain ⟨a, rfl, e2⟩ := dePl_out e
  obtain ⟨l, v⟩ := q
  simp only [] at e2 hp ⊢
  obtain ⟨s1, s2, s3, s4, s5⟩ := sl_is e2
  have hgv : ∀ j (hj : j < l.length), l.getD j ByteArray.empty = l[j] := fun j hj => by rw [List.getD_eq_getElem?_getD, List.getElem?_eq_getElem hj]; rfl
  have key : ∀ e : Nat → AV, e 0 = a → e 1 = ss v → awp (cx [] (pfL [])) (Tryd.f140.body.getD .skip) (finQ (cx [] (pfL [])) Tryd.f140 fun z _ _ => z = ii (ixOf l v)) ⟨e, roH h, n⟩ := fun e q0 q1 => by
    simp [evs, aeval, binS, cx_ti, cx_G, cx_pf, cx_tw, ti, globS, glob, ldcs_1, ldcs_2, ldcs_3, ldcs_4, ldcs_5, ldcs_7, sls.eq_1, slc.eq_1, pfL, Tryd.f140, q0, q1, ii, ss, s1, s2, s3]
    refine awp_loop (fun s => ∃ j : Nat, j ≤ l.length ∧ s.e 1 = ss v ∧ s.e 7 = a ∧ s.e 8 = ii l.length ∧ s.e 9 = ii j ∧ s.h = roH h ∧ ∀ i, i < j → (l.getD i ByteArray.empty == v) = false) (fun s => l.length - (s.e 9).i.toNat) ⟨0, by simp [up, q0, q1, ii, ss]⟩ ?_
    rintro e' h' n' ⟨j, hj, q1, q7, q8, q9, hh, hno⟩
    simp only [] at q1 q7 q8 q9 hh
    subst hh
    by_cases hlt : j < l.length
    · rcases ss_at e2 with ⟨h0, _⟩ | ⟨id, off, k, rfl, hk, ho, hat⟩
      · rw [h0] at hlt; simp at hlt
      have hr := hat j hlt
      have ha' := ro_at hk
      have hw := wrap_nat (j := j) (by omega)
      have hw1 : off + (j + 1) ≤ k.cells.length := by omega
      have hgj := hgv j hlt
      generalize l[j] = y at *
      cases hy : (y == v) with
      | true =>
        have hf := fi_hit (v := v) hlt hno (by rw [hgj]; exact hy)
        have h1 : ixOf l v = (j : Int) := by rw [ixOf, hf, if_pos hlt]
        simp [evs, aeval, binS, cx_ti, cx_G, cx_pf, cx_tw, ti, globS, glob, ldcs_1, ldcs_2, ldcs_3, ldcs_4, ldcs_5, ldcs_7, sls.eq_1, slc.eq_1, pfL, q1, q7, q8, q9, ii, ss, hlt, ha', hr, hw1, hy, h1]
      | false =>
        simp [evs, aeval, binS, cx_ti, cx_G, cx_pf, cx_tw, ti, globS, glob, ldcs_1, ldcs_2, ldcs_3, ldcs_4, ldcs_5, ldcs_7, sls.eq_1, slc.eq_1, pfL, q1, q7, q8, q9, ii, ss, hlt, ha', hr, hw1, hy, hw]
        refine ⟨⟨j + 1, by omega, by omega, fun i hi => ?_⟩, by omega⟩
        by_cases e : i = j
        · subst e; rw [← List.getD_eq_getElem?_getD, hgj]; exact hy
        · have := hno i (by omega); rwa [List.getD_eq_getElem?_getD] at this
    · obtain rfl : j = l.length := by omega
      have hf := fi_none (v := v) (l := l) hno
      have h1 : ixOf l v = -1 := by rw [ixOf, hf, if_neg (by omega)]
      simp [evs, aeval, binS, cx_ti, cx_G, cx_pf, cx_tw, ti, globS, glob, ldcs_1, ldcs_2, ldcs_3, ldcs_4, ldcs_5, ldcs_7, sls.eq_1, slc.eq_1, pfL, q1, q7, q8, q9, ii, h1]
  exact key _ rfl rfl
end Go.Proofs.YtkfphaphiikloaaDoor

/-
  THE PROGRAMS OF CONDITIONS: does a program hold, on both sides.
-/
namespace Go.Proofs.YtkfphaphiikloaaDoor
open Go Go.Eng

theorem acall_any {S S' : List Nat} {pf pf' : FuncId → Option (List AV → Heap → PRes)} (hs : ∀ x ∈ S, x ∈ S') {f : FuncId} {args : List AV} {h : Heap} {n : Nat} {Q : AV → Heap → Nat → Prop} (k : ACall (cx S pf) f args h n Q) : ACall (cx S' pf') f args h n Q := by
  refine ⟨k.1, fun K w0 ρ w vs r hv => ?_⟩
  have hsub : ∀ g cs, globS S g = some cs → globS S' g = some cs := fun g cs hg => by
    simp only [globS] at hg ⊢
    by_cases hm : g ∈ S
    · rw [if_pos hm] at hg; rw [if_pos (hs g hm)]; exact hg
    · rw [if_neg hm] at hg; cases hg
  have r0 : Rel (cx S pf) K w0 ρ (n ≤ ·) h w := ⟨r.os, r.tape, r.output, r.size, r.keep, r.kold, fun g cs hg => r.glob g cs (hsub g cs hg), r.blk, r.apart, r.mine, r.free, r.vers⟩
  refine (k.2 K w0 ρ w vs r0 hv).mono fun e w' ⟨y, h1, ρ2, z, h', n', h2, h3, r2, h5⟩ => ⟨y, h1, ρ2, z, h', n', h2, h3, ⟨r2.os, r2.tape, r2.output, r2.size, r2.keep, r2.kold, fun g cs hg => ?_, r2.blk, r2.apart, r2.mine, r2.free, r2.vers⟩, h5⟩
  obtain ⟨g1, arr, el, fr, g2, g3⟩ := r.glob g cs hg
  exact ⟨g1, arr, el, fr, by rw [r2.keep g g1, ← r.keep g g1]; exact g2, g3⟩

def S29 : List Nat := [0, 1, 2, 3, 4, 5, 6]
def G31 := pureH deR okR fun q => bv (holdsV q.1 q.2)
def tb31 : List (FuncId × (List AV → Heap → PRes)) := [(29, G29), (48, g20)]
set_option maxRecDepth 100000 in
set_option maxHeartbeats 1000000 in
theorem P31 (h0 : P0 S29 29 G29) : P0 S29 31 G31 := by
  refine mkH 2 (S := S29) (l := tb31) (tb_cons h0 (tb_cons p20 tb_nil)) Tryd.func31 rfl (by kernel_rfl) deR_mono (fun h l x e => by obtain ⟨a, c, rfl, _⟩ := deR_out e; exact Nat.le_refl _) (fun a => rfl) (fun args q h n e hp hn => ?_)
  obtain ⟨p, en⟩ := q
  obtain ⟨x, y, rfl, e1, e2⟩ := deR_out e
  obtain ⟨pa, pb, rfl, e3, e4⟩ := dePr_out e1
  obtain ⟨la, rfl, e5⟩ := deEn_out e2
  simp only [] at e1 e2 e3 e4 e5 hp ⊢
  obtain ⟨s1, s2, s3, s4, s5⟩ := sl_is e3
  obtain ⟨t1, t2, t3, t4, t5⟩ := sl_is e4
  obtain ⟨r1, r2, r3, r4, r5⟩ := sl_is e5
  have g1 := pr_agree hn e1
  have g2 := en_agree hn e2
  simp only [ii] at g2
  obtain ⟨rv, hrv⟩ : ∃ rv, rv = runV p en := ⟨_, rfl⟩
  have hv : holdsV p en = (rv.2 == 0 && trueV rv.1) := by rw [hrv]; rfl
  obtain ⟨⟨vk, vn⟩, er⟩ := rv
  by_cases hz : er = 0
  · subst hz
    simp [evs, aeval, binS, cx_ti, cx_G, cx_pf, cx_tw, ti, globS, glob, ldcs_1, ldcs_2, ldcs_3, ldcs_4, ldcs_5, ldcs_7, sls.eq_1, slc.eq_1, pfL, ii, s4, t4, r4, tb31, G29, pureH, deR, g1, g2, agree_up, agree_refl, hp, ← hrv, runA, vv, bv, hv, g20, pure1, deV]
  · simp [evs, aeval, binS, cx_ti, cx_G, cx_pf, cx_tw, ti, globS, glob, ldcs_1, ldcs_2, ldcs_3, ldcs_4, ldcs_5, ldcs_7, sls.eq_1, slc.eq_1, pfL, ii, s4, t4, r4, tb31, G29, pureH, deR, g1, g2, agree_up, agree_refl, hp, ← hrv, runA, vv, bv, hv, hz, g20, pure1, deV]
def tb32 : List (FuncId × (List AV → Heap → PRes)) := [(30, G29), (64, g20)]
set_option maxRecDepth 100000 in
set_option maxHeartbeats 1000000 in
theorem P32 (h0 : P0 [] 30 G29) : P0 [] 32 G31 := by
  refine mkH 2 (S := []) (l := tb32) (tb_cons h0 (tb_cons p24 tb_nil)) Tryd.func32 rfl (by kernel_rfl) deR_mono (fun h l x e => by obtain ⟨a, c, rfl, _⟩ := deR_out e; exact Nat.le_refl _) (fun a => rfl) (fun args q h n e hp hn => ?_)
  obtain ⟨p, en⟩ := q
  obtain ⟨x, y, rfl, e1, e2⟩ := deR_out e
  obtain ⟨pa, pb, rfl, e3, e4⟩ := dePr_out e1
  obtain ⟨la, rfl, e5⟩ := deEn_out e2
  simp only [] at e1 e2 e3 e4 e5 hp ⊢
  obtain ⟨s1, s2, s3, s4, s5⟩ := sl_is e3
  obtain ⟨t1, t2, t3, t4, t5⟩ := sl_is e4
  obtain ⟨r1, r2, r3, r4, r5⟩ := sl_is e5
  have g1 := pr_agree hn e1
  have g2 := en_agree hn e2
  simp only [ii] at g2
  obtain ⟨rv, hrv⟩ : ∃ rv, rv = runV p en := ⟨_, rfl⟩
  have hv : holdsV p en = (rv.2 == 0 && trueV rv.1) := by rw [hrv]; rfl
  obtain ⟨⟨vk, vn⟩, er⟩ := rv
  by_cases hz : er = 0
  · subst hz
    simp [evs, aeval, binS, cx_ti, cx_G, cx_pf, cx_tw, ti, globS, glob, ldcs_1, ldcs_2, ldcs_3, ldcs_4, ldcs_5, ldcs_7, sls.eq_1, slc.eq_1, pfL, ii, s4, t4, r4, tb32, G29, pureH, deR, g1, g2, agree_up, agree_refl, hp, ← hrv, runA, vv, bv, hv, g20, pure1, deV]
  · simp [evs, aeval, binS, cx_ti, cx_G, cx_pf, cx_tw, ti, globS, glob, ldcs_1, ldcs_2, ldcs_3, ldcs_4, ldcs_5, ldcs_7, sls.eq_1, slc.eq_1, pfL, ii, s4, t4, r4, tb32, G29, pureH, deR, g1, g2, agree_up, agree_refl, hp, ← hrv, runA, vv, bv, hv, hz, g20, pure1, deV]
end Go.Proofs.YtkfphaphiikloaaDoor

/-
  TREES, PART R: copies that share nothing: nodes, queries, trees with room.
-/
namespace Go.Proofs.YtkfphaphiikloaaDoor
open Go Go.Eng

/-- A row's copy reads as the row. -/
theorem rd_copy {α : Type} {sz : Nat} {d : De α} {h : Heap} {n : Nat} {a : AV} {l : List α} (hn : Fresh n h) (e : rd (De.sl sz d) h a = some l) : ∃ cs, (∀ h', agree n h h' → sls h' a 0 (l.length * sz) ∧ slc h' a 0 (l.length * sz) = cs) ∧ cs.length = l.length * sz ∧
    ∀ h' w u own r, agree n h h' → h' w = some ⟨cs ++ r, u, own, sz⟩ → rd (De.sl sz d) h' (.s w u 0 l.length) = some l := by
  rcases sl_at e with ⟨rfl, rfl | rfl⟩ | ⟨id, off, k, rfl, hk, ho, hat⟩
  · refine ⟨[], fun h' _ => ⟨by simp [sls], rfl⟩, by simp, fun h' w u own r ha hw => ?_⟩
    exact De.sl_in (xs := []) (off := 0) (k := ⟨[] ++ r, u, own, sz⟩) hw (by simp) (fun i hi => by simp at hi)
  · refine ⟨[], fun h' _ => ⟨by simp [sls], rfl⟩, by simp, fun h' w u own r ha hw => ?_⟩
    exact De.sl_in (xs := []) (off := 0) (k := ⟨[] ++ r, u, own, sz⟩) hw (by simp) (fun i hi => by simp at hi)
  · have hid := lt_of hk hn
    have hlen : ((k.cells.drop off).take (l.length * sz)).length = l.length * sz := by rw [List.length_take, List.length_drop]; omega
    refine ⟨(k.cells.drop off).take (l.length * sz), fun h' ha => ?_, hlen, fun h' w u own r ha hw => ?_⟩
    · simp only [sls, slc, ha id hid, hk, Nat.zero_add, Nat.add_zero, true_and, and_true]
      exact ho
    · refine De.sl_in (off := 0) (k := ⟨(k.cells.drop off).take (l.length * sz) ++ r, u, own, sz⟩) hw (by simp only [List.length_append, hlen]; omega) (fun i hi => ?_)
      have h1 := hat i hi
      have hm : i * sz + sz ≤ l.length * sz := by rw [← Nat.succ_mul]; exact Nat.mul_le_mul_right _ hi
      have h2 : (List.drop (0 + i * sz) ((k.cells.drop off).take (l.length * sz) ++ r)).take sz = (k.cells.drop (off + i * sz)).take sz := by
        rw [Nat.zero_add, List.drop_append_of_le_length (by omega), List.take_append_of_le_length (by rw [List.length_drop]; omega), List.drop_take, List.take_take, List.drop_drop, Nat.min_eq_left (by omega)]
      rw [h2]
      exact d.sim (agr_sim hn ha) h1
theorem Flat.nd : Flat 6 dN ncells := ⟨fun _ _ _ e => deNc_out e, fun _ _ => rfl, fun _ => rfl⟩
set_option maxRecDepth 100000 in
set_option maxHeartbeats 2000000 in
theorem c18 {h : Heap} {n : Nat} {a : AV} {t : List Nd} (e1 : rd dNs h a = some t) (hp : smallT t) (hn : Fresh n h) :
    ACall (cx [] (pfL [])) 18 [a] h n fun z h' n' => agree n h h' ∧ Fresh n' h' ∧ n ≤ n' ∧ ∃ w, z = .s w 1 0 t.length ∧ h' w = some ⟨t.flatMap ncells, 1, true, 6⟩ ∧ n ≤ w ∧ w < n' := by
  refine acall_of_awp (args := [a]) (pfL_ok tb_nil) (mixed _ _) Tryd.func18 (c := Tryd.f18.body.getD .skip) rfl (by kernel_rfl) (callable Tryd.func18 rfl rfl _ _) (show 1 ≤ Tryd.f18.ntmps by decide +kernel) ?_
  obtain ⟨s1, s2, s3, s4, s5⟩ := sl_is e1
  have fa : ∀ h'', agree n h h'' → sls h'' a 0 (t.length * 6) := fun h'' ha => (flat_app Flat.nd (rd_agr hn e1 h'' ha)).1
  have fb : ∀ h'', agree n h h'' → slc h'' a 0 (t.length * 6) = t.flatMap ncells := fun h'' ha => (flat_app Flat.nd (rd_agr hn e1 h'' ha)).2
  have b1 : t.length * 64 ≤ 140737488355328 := hp
  have b2 : t.length ≤ 9223372036854775807 := by omega
  generalize t.flatMap ncells = cl at *
  have key : ∀ e : Nat → AV, e 0 = a → awp (cx [] (pfL [])) (Tryd.f18.body.getD .skip) (finQ (cx [] (pfL [])) Tryd.f18 fun z h' n' => agree n h h' ∧ Fresh n' h' ∧ n ≤ n' ∧ ∃ w, z = .s w 1 0 t.length ∧ h' w = some ⟨cl, 1, true, 6⟩ ∧ n ≤ w ∧ w < n') ⟨e, h, n⟩ := fun e q0 => by
    simp [evs, aeval, binS, cx_ti, cx_G, cx_pf, cx_tw, ti, globS, glob, ldcs_1, ldcs_2, ldcs_3, ldcs_4, ldcs_5, ldcs_7, sls.eq_1, slc.eq_1, pfL, Tryd.f18, q0, s1, s2, s3, s4, s5, fa, fb, agree_up, agree_refl, b1, b2, fresh_up, hn.add]
  exact key _ rfl
set_option maxRecDepth 100000 in
set_option maxHeartbeats 2000000 in
theorem c17 {h : Heap} {n : Nat} {x : AV} {q : Qu} (e1 : deQ h x = some q) (hp : q.items.length * 64 ≤ 140737488355328) (hn : Fresh n h) :
    ACall (cx [] (pfL [])) 17 [x] h n fun z h' n' => agree n h h' ∧ Fresh n' h' ∧ n ≤ n' ∧ deQ h' z = some q := by
  refine acall_of_awp (args := [x]) (pfL_ok tb_nil) (mixed _ _) Tryd.func17 (c := Tryd.f17.body.getD .skip) rfl (by kernel_rfl) (callable Tryd.func17 rfl rfl _ _) (show 1 ≤ Tryd.f17.ntmps by decide +kernel) ?_
  obtain ⟨a, b, c, rfl, e5, e6, e7⟩ := deQ_out e1
  obtain ⟨s1, s2, s3, s4, s5⟩ := sl_is e5
  have t3 := (sl_is e6).2.2.2.1
  have t4 := (sl_is e7).2.2.2.1
  obtain ⟨cl, f1, f2, f3⟩ := rd_copy hn e5
  have fa : ∀ h'', agree n h h'' → sls h'' a 0 (q.items.length * 5) := fun h'' ha => (f1 h'' ha).1
  have fb : ∀ h'', agree n h h'' → slc h'' a 0 (q.items.length * 5) = cl := fun h'' ha => (f1 h'' ha).2
  have b2 : q.items.length ≤ 9223372036854775807 := by omega
  have key : ∀ e : Nat → AV, e 0 = .g [a, ii q.mode, ii q.after, b, ii q.within, ss q.par, c] → awp (cx [] (pfL [])) (Tryd.f17.body.getD .skip) (finQ (cx [] (pfL [])) Tryd.f17 fun z h' n' => agree n h h' ∧ Fresh n' h' ∧ n ≤ n' ∧ deQ h' z = some q) ⟨e, h, n⟩ := fun e q0 => by
    simp [evs, aeval, binS, cx_ti, cx_G, cx_pf, cx_tw, ti, globS, glob, ldcs_1, ldcs_2, ldcs_3, ldcs_4, ldcs_5, ldcs_7, sls.eq_1, slc.eq_1, pfL, Tryd.f17, q0, ii, ss, s1, s2, s3, s4, s5, t3, t4, fa, fb, agree_up, agree_refl, hp, b2, fresh_up, hn.add]
    refine deQ_in (f3 _ _ _ true [] ?_ ?_) (rd_agr hn e6 _ ?_) (rd_agr hn e7 _ ?_)
    · simp [agree_up, agree_refl]
    · simp [up]
    · simp [agree_up, agree_refl]
    · simp [agree_up, agree_refl]
  exact key _ rfl

/-! ### a tree with room -/
def mark (i : Nat) : Nd := ⟨0, 61, ByteArray.empty, ByteArray.empty, (i : Int), 0⟩
def marks (m : Nat) : List Nd := (List.range m).map mark
theorem marks_len (m : Nat) : (marks m).length = m := by simp [marks]
theorem marks_succ (t : List Nd) (m : Nat) : (t ++ marks (m + 1)).flatMap ncells = (t ++ marks m).flatMap ncells ++ [ii 0, ii 61, ss ByteArray.empty, ss ByteArray.empty, ii m, ii 0] := by
  simp only [marks, List.range_succ, List.map_append, List.flatMap_append, List.append_assoc]
  rfl
set_option maxRecDepth 100000 in
set_option maxHeartbeats 2000000 in
theorem c19 {h : Heap} {n : Nat} {a : AV} {t : List Nd} (e1 : rd dNs h a = some t) (hp : (t.length + 40) * 64 ≤ 140737488355328) (hn : Fresh n h) :
    ACall (cx [] (pfL [])) 19 [a] h n fun z h' n' => agree n h h' ∧ Fresh n' h' ∧ n ≤ n' ∧ ∃ w, z = .s w 41 0 (t.length + 40) ∧ h' w = some ⟨(t ++ marks 40).flatMap ncells, 41, true, 6⟩ ∧ n ≤ w ∧ w < n' := by
  refine acall_of_awp (args := [a]) (pfL_ok tb_nil) (mixed _ _) Tryd.func19 (c := Tryd.f19.body.getD .skip) rfl (by kernel_rfl) (callable Tryd.func19 rfl rfl _ _) (show 1 ≤ Tryd.f19.ntmps by decide +kernel) ?_
  have key : ∀ e : Nat → AV, e 0 = a → awp (cx [] (pfL [])) (Tryd.f19.body.getD .skip) (finQ (cx [] (pfL [])) Tryd.f19 fun z h' n' => agree n h h' ∧ Fresh n' h' ∧ n ≤ n' ∧ ∃ w, z = .s w 41 0 (t.length + 40) ∧ h' w = some ⟨(t ++ marks 40).flatMap ncells, 41, true, 6⟩ ∧ n ≤ w ∧ w < n') ⟨e, h, n⟩ := fun e q0 => by
    simp [evs, aeval, binS, cx_ti, cx_G, cx_pf, cx_tw, ti, globS, glob, ldcs_1, ldcs_2, ldcs_3, ldcs_4, ldcs_5, ldcs_7, sls.eq_1, slc.eq_1, pfL, Tryd.f19, q0]
    refine (acall_any (S := []) (by simp) (c18 e1 (show t.length * 64 ≤ 140737488355328 by omega) hn)).mono ?_
    rintro v h2 n2 ⟨a1, a2, a3, w, rfl, hw, hw1, hw2⟩
    refine awp_loop (fun s => ∃ i, i ≤ 40 ∧ s.e 3 = .s w (i + 1) 0 (t.length + i) ∧ s.e 4 = ii i ∧ s.h w = some ⟨(t ++ marks i).flatMap ncells, i + 1, true, 6⟩ ∧ agree n h s.h ∧ Fresh s.n s.h ∧ n ≤ s.n ∧ w < s.n) (fun s => 40 - (s.e 4).i.toNat) ⟨0, by omega, by simp [up], by simp [up, ii], by simpa [marks] using hw, a1, a2, a3, hw2⟩ ?_
    rintro e' h' n' ⟨i, hi, q3, q4, hk, hag, hfr, hnn, hwn⟩
    simp only [] at q3 q4 hk hag hfr hnn hwn
    by_cases hlt : i < 40
    · have hlt' : (i : Int) < 40 := by omega
      have z1 : ¬ w = n' := by omega
      have z2 : w < n' + 2 := by omega
      have b1 : (t.length + (i + 1)) * 64 ≤ 140737488355328 := Nat.le_trans (Nat.mul_le_mul_right _ (by omega)) hp
      have b2 : t.length + (i + 1) ≤ 9223372036854775807 := by clear hk hw q3; omega
      have f1 : n ≤ n' + 1 := by omega
      have f2 : n ≤ n' + 2 := by omega
      have hw' := wrap_nat (j := i) (by unfold big; omega)
      have hcl : ((t ++ marks i).flatMap ncells).length = (t.length + i) * 6 := by rw [flat_len Flat.nd, List.length_append, marks_len]
      have hms := marks_succ t i
      generalize (t ++ marks i).flatMap ncells = cl at *
      simp [evs, aeval, binS, cx_ti, cx_G, cx_pf, cx_tw, ti, globS, glob, ldcs_1, ldcs_2, ldcs_3, ldcs_4, ldcs_5, ldcs_7, sls.eq_1, slc.eq_1, pfL, q3, q4, ii, hlt, hlt', hk, z1, z2, hcl, b1, b2, hw', agree_up, hag, f1, f2, hw1, hnn, fresh_up, hfr.add]
      exact ⟨⟨i + 1, by omega, rfl, by omega, by rw [← List.flatMap_append, hms]; rfl, rfl⟩, by omega⟩
    · obtain rfl : i = 40 := by omega
      simp [evs, aeval, binS, cx_ti, cx_G, cx_pf, cx_tw, ti, globS, glob, ldcs_1, ldcs_2, ldcs_3, ldcs_4, ldcs_5, ldcs_7, sls.eq_1, slc.eq_1, pfL, q3, q4, ii]
      exact ⟨hag, hfr, hnn, by rw [hk, List.flatMap_append], hw1, hwn⟩
  exact key _ rfl
def G24 := pureH deT (fun t => t = marks 40) fun _ => bv true
set_option maxRecDepth 100000 in
set_option maxHeartbeats 2000000 in
theorem P24 : P0 [] 24 G24 := by
  refine mkH 1 (S := []) (l := []) tb_nil Tryd.func24 rfl (by kernel_rfl) deT_mono (fun h l x e => by obtain ⟨a, rfl, _⟩ := deT_out e; exact Nat.le_refl _) (fun a => rfl) (fun args t h n e hp hn => ?_)
  subst hp
  obtain ⟨a, rfl, e1⟩ := deT_out e
  obtain ⟨s1, s2, s3, s4, s5⟩ := sl_is e1
  rw [marks_len] at s2
  have key : ∀ e : Nat → AV, e 0 = a → awp (cx [] (pfL [])) (Tryd.f24.body.getD .skip) (finQ (cx [] (pfL [])) Tryd.f24 fun z _ _ => z = bv true) ⟨e, roH h, n⟩ := fun e q0 => by
    simp [evs, aeval, binS, cx_ti, cx_G, cx_pf, cx_tw, ti, globS, glob, ldcs_1, ldcs_2, ldcs_3, ldcs_4, ldcs_5, ldcs_7, sls.eq_1, slc.eq_1, pfL, Tryd.f24, q0]
    refine awp_loop (fun s => ∃ j : Nat, j ≤ 40 ∧ s.e 0 = a ∧ s.e 3 = ii j ∧ s.h = roH h) (fun s => 40 - (s.e 3).i.toNat) ⟨0, by simp [up, q0, ii]⟩ ?_
    rintro e' h' n' ⟨j, hj, q0, q3, hh⟩
    simp only [] at q0 q3 hh
    subst hh
    by_cases hlt : j < 40
    · rcases ns_at e1 with ⟨h0, _⟩ | ⟨id, off, k, rfl, hk, ho', hat⟩
      · exact absurd (congrArg List.length h0) (by rw [marks_len]; simp)
      have hr := hat j (by rw [marks_len]; exact hlt)
      rw [marks_len] at ho'
      have hle : ∀ (X : Ctx) (h' : Heap), h' id = some ⟨k.cells, k.ver, false, k.esz⟩ → ldcs X h' (.p id k.ver (off + j * 6)) 0 6 = ncells (mark j) := fun X h' e => by
        rw [ldcs_nd e hr]; simp [marks]
      have hro := ro_at hk
      have hw6 : off + (j * 6 + 6) ≤ k.cells.length := by omega
      have hw := wrap_nat (j := j) (by unfold big; omega)
      have hlt' : (j : Int) < 40 := by omega
      have hbe : (ByteArray.empty == ByteArray.empty) = true := by decide
      simp [evs, aeval, binS, cx_ti, cx_G, cx_pf, cx_tw, ti, globS, glob, ldcs_1, ldcs_2, ldcs_3, ldcs_4, ldcs_5, ldcs_7, sls.eq_1, slc.eq_1, pfL, q0, q3, ii, ss, hlt, hlt', hro, hle, hw6, ncells, mark, marks_len, hw, hbe]
      exact ⟨⟨j + 1, by omega, by omega⟩, by omega⟩
    · obtain rfl : j = 40 := by omega
      simp [evs, aeval, binS, cx_ti, cx_G, cx_pf, cx_tw, ti, globS, glob, ldcs_1, ldcs_2, ldcs_3, ldcs_4, ldcs_5, ldcs_7, sls.eq_1, slc.eq_1, pfL, q0, q3, ii, s1, s2, s3, bv]
  exact key _ rfl
end Go.Proofs.YtkfphaphiikloaaDoor

/-
  TREES, PART S: a schema's copy that shares nothing.
-/
namespace Go.Proofs.YtkfphaphiikloaaDoor
open Go Go.Eng

def scell (x : ByteArray) : List AV := [ss x]
theorem str_out (h : Heap) (l : List AV) (x : ByteArray) (e : De.str.run h l = some x) : l = scell x := by
  simp only [De.str] at e
  split at e
  · cases e; rfl
  · cases e
theorem Flat.str : Flat 1 De.str scell := ⟨str_out, fun _ _ => rfl, fun _ => rfl⟩
theorem two_cells {l : List AV} {o : Nat} {x y : AV} (h1 : l[o]? = some x) (h2 : l[o + 1]? = some y) : (l.drop o).take 2 = [x, y] := by
  obtain ⟨k1, rfl⟩ := List.getElem?_eq_some_iff.1 h1
  obtain ⟨k2, rfl⟩ := List.getElem?_eq_some_iff.1 h2
  rw [List.drop_eq_getElem_cons k1, List.drop_eq_getElem_cons k2]
  rfl
/-- The first j types lie in blocks of one's own. -/
def OwnT (h : Heap) (lo hi : Nat) (z : AV) (sc : List Ty) (j : Nat) : Prop :=
  (j = 0 ∧ z = .v (.slice none 0 0)) ∨ ∃ w u cs, z = .s w u 0 j ∧ h w = some ⟨cs, u, true, 2⟩ ∧ lo ≤ w ∧ w < hi ∧ cs.length = j * 2 ∧
    ∀ i (hi' : i < sc.length), i < j → ∃ b, cs[i * 2]? = some (ss sc[i].name) ∧ cs[i * 2 + 1]? = some (.s b 1 0 sc[i].attrs.length) ∧ h b = some ⟨sc[i].attrs.flatMap scell, 1, true, 1⟩ ∧ lo ≤ b ∧ b < hi ∧ b ≠ w
theorem OwnT.rd {h : Heap} {lo hi : Nat} {z : AV} {sc : List Ty} (o : OwnT h lo hi z sc sc.length) : rd dTys h z = some sc := by
  rcases o with ⟨h0, rfl⟩ | ⟨w, u, cs, rfl, hk, _, _, hl, hat⟩
  · have : sc = [] := List.eq_nil_of_length_eq_zero h0
    subst this
    rfl
  · refine De.sl_in (off := 0) (k := ⟨cs, u, true, 2⟩) hk (by simp only [hl]; omega) (fun i hi => ?_)
    obtain ⟨b, h1, h2, h3, _⟩ := hat i hi hi
    simp only [Nat.zero_add]
    rw [two_cells h1 h2]
    exact deTyc_in (flat_in Flat.str h3 rfl (r := []) (by simp))
theorem OwnT.congr {h h' : Heap} {lo hi : Nat} {z : AV} {sc : List Ty} {j : Nat} (o : OwnT h lo hi z sc j) (hh : ∀ q, lo ≤ q → q < hi → h' q = h q) : OwnT h' lo hi z sc j := by
  rcases o with h0 | ⟨w, u, cs, h1, h2, h3, h4, h5, h6⟩
  · exact .inl h0
  · refine .inr ⟨w, u, cs, h1, by rw [hh _ h3 h4]; exact h2, h3, h4, h5, fun i hi' hij => ?_⟩
    obtain ⟨b, k1, k2, k3, k4, k5, k6⟩ := h6 i hi' hij
    exact ⟨b, k1, k2, by rw [hh _ k4 k5]; exact k3, k4, k5, k6⟩
theorem OwnT.snoc {h h2 : Heap} {lo hi hi2 w w0 u b : Nat} {cs : List AV} {sc : List Ty} {j : Nat} (hj : j < sc.length) (hcl : cs.length = j * 2)
    (hold : ∀ i (hi' : i < sc.length), i < j → ∃ b, cs[i * 2]? = some (ss sc[i].name) ∧ cs[i * 2 + 1]? = some (.s b 1 0 sc[i].attrs.length) ∧ h b = some ⟨sc[i].attrs.flatMap scell, 1, true, 1⟩ ∧ lo ≤ b ∧ b < hi ∧ b ≠ w0)
    (hh : ∀ q, lo ≤ q → q < hi → q ≠ w0 → h2 q = h q) (hhi : hi ≤ hi2) (hne : w = w0 ∨ hi ≤ w) (hk : h2 w = some ⟨cs ++ [ss sc[j].name, .s b 1 0 sc[j].attrs.length], u, true, 2⟩) (hb : h2 b = some ⟨sc[j].attrs.flatMap scell, 1, true, 1⟩)
    (hb0 : lo ≤ b) (hb2 : b < hi2) (hbw : b ≠ w) (hw1 : lo ≤ w) (hw2 : w < hi2) : OwnT h2 lo hi2 (.s w u 0 (j + 1)) sc (j + 1) := by
  refine .inr ⟨w, u, _, rfl, hk, hw1, hw2, by simp only [List.length_append, hcl, List.length_cons, List.length_nil]; omega, fun i hi' hij => ?_⟩
  by_cases e : i = j
  · subst e
    exact ⟨b, by rw [List.getElem?_append_right (by omega), hcl, Nat.sub_self]; rfl, by rw [List.getElem?_append_right (by omega), hcl, show i * 2 + 1 - i * 2 = 1 by omega]; rfl, hb, hb0, hb2, hbw⟩
  · obtain ⟨b', k1, k2, k3, k4, k5, k6⟩ := hold i hi' (by omega)
    refine ⟨b', by rw [List.getElem?_append_left (by omega)]; exact k1, by rw [List.getElem?_append_left (by omega)]; exact k2, by rw [hh _ k4 k5 k6]; exact k3, k4, by omega, ?_⟩
    rcases hne with rfl | h9
    · exact k6
    · omega
set_option maxRecDepth 100000 in
set_option maxHeartbeats 4000000 in
theorem c16 {h : Heap} {n : Nat} {x : AV} {sc : List Ty} (e1 : deSc h x = some sc) (hb : sc.length * 40 ≤ 140737488355328) (ha : ∀ t ∈ sc, t.attrs.length * 16 ≤ 140737488355328) (hn : Fresh n h) :
    ACall (cx [] (pfL [])) 16 [x] h n fun z h' n' => agree n h h' ∧ Fresh n' h' ∧ n ≤ n' ∧ deSc h' z = some sc := by
  refine acall_of_awp (args := [x]) (pfL_ok tb_nil) (mixed _ _) Tryd.func16 (c := Tryd.f16.body.getD .skip) rfl (by kernel_rfl) (callable Tryd.func16 rfl rfl _ _) (show 1 ≤ Tryd.f16.ntmps by decide +kernel) ?_
  obtain ⟨a, rfl, e2⟩ := deSc_out e1
  obtain ⟨s1, s2, s3, s4, s5⟩ := sl_is e2
  have key : ∀ e : Nat → AV, e 0 = .g [a] → awp (cx [] (pfL [])) (Tryd.f16.body.getD .skip) (finQ (cx [] (pfL [])) Tryd.f16 fun z h' n' => agree n h h' ∧ Fresh n' h' ∧ n ≤ n' ∧ deSc h' z = some sc) ⟨e, h, n⟩ := fun e q0 => by
    simp [evs, aeval, binS, cx_ti, cx_G, cx_pf, cx_tw, ti, globS, glob, ldcs_1, ldcs_2, ldcs_3, ldcs_4, ldcs_5, ldcs_7, sls.eq_1, slc.eq_1, pfL, Tryd.f16, q0, s4]
    refine awp_loop (fun s => ∃ j z, j ≤ sc.length ∧ s.e 1 = .p n 0 0 ∧ s.e 2 = .p (n + 1) 0 0 ∧ s.e 3 = .p (n + 2) 0 0 ∧ s.e 4 = ii j ∧ s.h n = some ⟨[a], 0, true, 1⟩ ∧ s.h (n + 1) = some ⟨[.v (.slice none 0 0)], 0, true, 1⟩ ∧ s.h (n + 2) = some ⟨[z], 0, true, 1⟩ ∧ OwnT s.h (n + 3) s.n z sc j ∧ agree n h s.h ∧ Fresh s.n s.h ∧ n + 3 ≤ s.n) (fun s => sc.length - (s.e 4).i.toNat) ⟨0, .v (.slice none 0 0), by omega, by simp [up], by simp [up], by simp [up], by simp [up, ii], by simp [up], by simp [up], by simp [up], .inl ⟨rfl, rfl⟩, by simp [agree_up, agree_refl], by simp [fresh_up, hn.add], by simp⟩ ?_
    rintro e' h' n' ⟨j, z, hj, q1, q2, q3, q4, b0, b1, b2, hown, hag, hfr, hnn⟩
    simp only [] at q1 q2 q3 q4 b0 b1 b2 hown hag hfr hnn
    by_cases hlt : j < sc.length
    · rcases tys_at e2 with ⟨h0, _⟩ | ⟨id, off, k, rfl, hk, ho, hat⟩
      · rw [h0] at hlt; simp at hlt
      obtain ⟨hc0, c, hc1, hcr⟩ := hat j hlt
      obtain ⟨u1, u2, u3, u4, u5⟩ := sl_is hcr
      have hid := lt_of hk hn
      have hk' : h' id = some k := by rw [hag id hid]; exact hk
      have y0 : ¬ id = n' := by omega
      have hw := wrap_nat (j := j) (by unfold big; omega)
      have hw1 : off + (j * 2 + 2) ≤ k.cells.length := by omega
      have fa : ∀ h'', agree n h h'' → sls h'' c 0 (sc[j].attrs.length) := fun h'' ha => by have := (flat_app Flat.str (rd_agr hn hcr h'' ha)).1; rwa [Nat.mul_one] at this
      have fb : ∀ h'', agree n h h'' → slc h'' c 0 (sc[j].attrs.length) = sc[j].attrs.flatMap scell := fun h'' ha => by have := (flat_app Flat.str (rd_agr hn hcr h'' ha)).2; rwa [Nat.mul_one] at this
      have hal := ha _ (List.getElem_mem hlt)
      have b5 : sc[j].attrs.length ≤ 9223372036854775807 := by omega
      have b6 : (j + 1) * 40 ≤ 140737488355328 := by omega
      have b7 : j ≤ 9223372036854775806 := by omega
      have f0 : n ≤ n' := by omega
      have f1 : n ≤ n' + 1 := by omega
      have f2 : n ≤ n' + 2 := by omega
      have f5 : n ≤ n' + 5 := by omega
      have f6 : n ≤ n' + 6 := by omega
      have y1 : ¬ n = n' := by omega
      have y2 : ¬ n + 1 = n' := by omega
      have y3 : ¬ n + 2 = n' := by omega
      have x1 : ¬ n = n' + 1 := by omega
      have x2 : ¬ n = n' + 2 := by omega
      have x3 : ¬ n = n' + 3 := by omega
      have x4 : ¬ n = n' + 4 := by omega
      have x5 : ¬ n = n' + 5 := by omega
      have x6 : ¬ n = n' + 6 := by omega
      have x7 : n + 2 < n' + 8 := by omega
      have hlast : ∀ hx : j < sc.length, sc[j]'hx = sc[j] := fun _ => rfl
      generalize hty : sc[j] = ty at *
      generalize hfl : ty.attrs.flatMap scell = cl at *
      rcases hown with ⟨hj0, rfl⟩ | ⟨w, u, cs, rfl, hw0, hw2, hw3, hcl, hcs⟩
      · simp [evs, aeval, binS, cx_ti, cx_G, cx_pf, cx_tw, ti, globS, glob, ldcs_1, ldcs_2, ldcs_3, ldcs_4, ldcs_5, ldcs_7, sls.eq_1, slc.eq_1, pfL, q1, q2, q3, q4, ii, ss, hlt, b0, b1, b2, hk', y0, y1, y2, y3, x1, x2, x3, x4, x5, x6, x7, hc0, hc1, hw1, u1, u2, u3, u4, u5, fa, fb, agree_up, hag, f0, f1, f2, f5, f6, hal, b5, b6, b7, hw, fresh_up, hfr.add]
        refine ⟨⟨j + 1, by omega, by omega, ?_⟩, by omega⟩
        subst hj0
        refine OwnT.snoc (h := h') (lo := n + 3) (hi := n') (w0 := n' + 6) (cs := []) (b := n' + 2) hlt rfl (fun i _ h9 => by omega) (fun q h1 h2 h3 => ?_) (by omega) (.inl rfl) ?_ ?_ (by omega) (by omega) (by omega) (by omega) (by omega)
        · have r1 : ¬ q = n' := by omega
          have r2 : ¬ q = n' + 2 := by omega
          have r3 : ¬ q = n' + 5 := by omega
          have r4 : ¬ q = n' + 6 := by omega
          have r5 : ¬ q = n + 2 := by omega
          simp [up, r1, r2, r3, r4, r5]
        · have r1 : ¬ n' + 6 = n + 2 := by omega
          rw [up_ne _ _ r1, up_same, hty]
          rfl
        · have r1 : ¬ n' + 2 = n + 2 := by omega
          rw [hty, hfl]
          simp [up]; omega
      · have z1 : ¬ w = n' := by omega
        have z2 : ¬ w = n' + 2 := by omega
        have z3 : ¬ w = n' + 5 := by omega
        have z4 : n ≤ w := by omega
        have z5 : ¬ n = w := by omega
        have z6 : ¬ n + 1 = w := by omega
        have z7 : ¬ n + 2 = w := by omega
        have z8 : w < n' + 8 := by omega
        simp [evs, aeval, binS, cx_ti, cx_G, cx_pf, cx_tw, ti, globS, glob, ldcs_1, ldcs_2, ldcs_3, ldcs_4, ldcs_5, ldcs_7, sls.eq_1, slc.eq_1, pfL, q1, q2, q3, q4, ii, ss, hlt, b0, b1, b2, hk', y0, y1, y2, y3, x1, x2, x3, x4, x5, x6, x7, z1, z2, z3, z4, z5, z6, z7, z8, hw0, hcl, hc0, hc1, hw1, u1, u2, u3, u4, u5, fa, fb, agree_up, hag, f0, f1, f2, f5, f6, hal, b5, b6, b7, hw, fresh_up, hfr.add]
        refine ⟨⟨j + 1, by omega, by omega, ?_⟩, by omega⟩
        refine OwnT.snoc (h := h') (lo := n + 3) (hi := n') (w0 := w) (cs := cs) (b := n' + 2) hlt hcl hcs (fun q h1 h2 h3 => ?_) (by omega) (.inl rfl) ?_ ?_ (by omega) (by omega) (by omega) (by omega) (by omega)
        · have r1 : ¬ q = n' := by omega
          have r2 : ¬ q = n' + 2 := by omega
          have r3 : ¬ q = n' + 5 := by omega
          have r5 : ¬ q = n + 2 := by omega
          simp [up, r1, r2, r3, h3, r5]
        · have r1 : ¬ w = n + 2 := by omega
          rw [up_ne _ _ r1, up_same, hty]
          rfl
        · have r1 : ¬ n' + 2 = n + 2 := by omega
          have r2 : ¬ n' + 2 = w := by omega
          rw [hty, hfl]
          simp [up, r2]; omega
    · have hje : j = sc.length := by omega
      subst hje
      have hrd := hown.rd
      obtain ⟨z1, z2, z3, z4, z5⟩ := sl_is hrd
      simp [evs, aeval, binS, cx_ti, cx_G, cx_pf, cx_tw, ti, globS, glob, ldcs_1, ldcs_2, ldcs_3, ldcs_4, ldcs_5, ldcs_7, sls.eq_1, slc.eq_1, pfL, q1, q2, q3, q4, ii, s1, s2, s3, b0, b1, b2, z4, z5, agree_up, hag]
      exact ⟨(fresh_up (by omega) _).2 (hfr.add 1), by omega, OwnT.rd (lo := n + 3) (hi := n') (hown.congr (fun q h1 h2 => up_ne _ _ (by omega)))⟩
  exact key _ rfl
end Go.Proofs.YtkfphaphiikloaaDoor

/-
  A schema, a query, an environment in a cell; a tree with room behind it.
-/
namespace Go.Proofs.YtkfphaphiikloaaDoor
open Go Go.Eng

/-- A schema, a query, an environment in a cell. -/
def HasS (h : Heap) (x : AV) (sc : List Ty) : Prop := ∃ m a, x = .p m 0 0 ∧ h m = some ⟨[a], 0, true, 1⟩ ∧ rd dTys h a = some sc
def HasQ (h : Heap) (x : AV) (q : Qu) : Prop := ∃ m a b c, x = .p m 0 0 ∧ h m = some ⟨[a, .v (.int .i64 q.mode), .v (.int .i64 q.after), b, .v (.int .i64 q.within), .v (.string q.par), c], 0, true, 7⟩ ∧ rd dIts h a = some q.items ∧ rd dNs h b = some q.wh ∧ rd dNss h c = some q.ret
def HasE (h : Heap) (x : AV) (en : En) : Prop := ∃ m a, x = .p m 0 0 ∧ h m = some ⟨[a, .v (.int .i64 en.each), .v (.int .i64 en.pos)], 0, true, 3⟩ ∧ rd dEss h a = some en.ls
theorem HasS.up {h h' : Heap} {n : Nat} {x : AV} {sc : List Ty} (a : HasS h x sc) (hn : Fresh n h) (ha : agree n h h') : HasS h' x sc := by
  obtain ⟨m, b, rfl, h1, h2⟩ := a
  exact ⟨m, b, rfl, by rw [ha m (lt_of h1 hn)]; exact h1, rd_agr hn h2 _ ha⟩
theorem HasQ.up {h h' : Heap} {n : Nat} {x : AV} {q : Qu} (a : HasQ h x q) (hn : Fresh n h) (ha : agree n h h') : HasQ h' x q := by
  obtain ⟨m, b, c, d, rfl, h1, h2, h3, h4⟩ := a
  exact ⟨m, b, c, d, rfl, by rw [ha m (lt_of h1 hn)]; exact h1, rd_agr hn h2 _ ha, rd_agr hn h3 _ ha, rd_agr hn h4 _ ha⟩
theorem HasE.up {h h' : Heap} {n : Nat} {x : AV} {en : En} (a : HasE h x en) (hn : Fresh n h) (ha : agree n h h') : HasE h' x en := by
  obtain ⟨m, b, rfl, h1, h2⟩ := a
  exact ⟨m, b, rfl, by rw [ha m (lt_of h1 hn)]; exact h1, rd_agr hn h2 _ ha⟩
theorem room_rd {h : Heap} {w : Nat} {t : List Nd} (hw : h w = some ⟨(t ++ marks 40).flatMap ncells, 41, true, 6⟩) : rd dNs h (.s w 41 0 t.length) = some t :=
  flat_in Flat.nd hw rfl (r := (marks 40).flatMap ncells) (by simp only [List.flatMap_append])
theorem room_tail {h : Heap} {w : Nat} {t : List Nd} (hw : h w = some ⟨(t ++ marks 40).flatMap ncells, 41, true, 6⟩) : rd dNs h (.s w 41 (t.length * 6) 40) = some (marks 40) := by
  have hl := flat_len Flat.nd t
  have hm := marks_len 40
  have : rd (De.sl 6 dN) h (.s w 41 (t.length * 6) (marks 40).length) = some (marks 40) := by
    refine De.sl_in (off := t.length * 6) (k := ⟨(t ++ marks 40).flatMap ncells, 41, true, 6⟩) hw (by simp only [flat_len Flat.nd, List.length_append, hm]; omega) (fun i hi => ?_)
    have := flat_drop Flat.nd (marks 40) i hi []
    rw [List.append_nil] at this
    simp only [List.flatMap_append]
    rw [List.drop_append, List.drop_eq_nil_of_le (by omega), List.nil_append, hl, show t.length * 6 + i * 6 - t.length * 6 = i * 6 by omega, this]
    rfl
  rwa [hm] at this
theorem deEn_has {h : Heap} {a : AV} {en : En} (e : rd dEss h a = some en.ls) : deEn h (.g [a, .v (.int .i64 en.each), .v (.int .i64 en.pos)]) = some en := deEn_in e
theorem deQ_has {h : Heap} {a b c : AV} {q : Qu} (h1 : rd dIts h a = some q.items) (h2 : rd dNs h b = some q.wh) (h3 : rd dNss h c = some q.ret) : deQ h (.g [a, .v (.int .i64 q.mode), .v (.int .i64 q.after), b, .v (.int .i64 q.within), .v (.string q.par), c]) = some q := deQ_in h1 h2 h3
end Go.Proofs.YtkfphaphiikloaaDoor
