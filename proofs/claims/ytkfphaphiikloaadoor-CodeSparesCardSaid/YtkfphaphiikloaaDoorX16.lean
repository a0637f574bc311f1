/-
  TREES, PART C: queries; the item of a variable, on both sides; how deep a query's trees are.
-/
import Derived.Test.YtkfphaphiikloaaDoorX15
import Derived.Test.YtkfphaphiikloaaDoorX14
set_option linter.unusedSimpArgs false
set_option linter.unusedVariables false
set_option linter.constructorNameAsVariable false
namespace Go.Proofs.YtkfphaphiikloaaDoor
open Go Go.Eng

structure It where
  neg : Bool
  types : List ByteArray
  var : ByteArray
  lo : Int
  hi : Int
def dSs : De (List ByteArray) := De.sl 1 De.str
def deItc (h : Heap) : List AV → Option It
  | [.v (.bool neg), ty, .v (.string var), .v (.int .i64 lo), .v (.int .i64 hi)] => (rd dSs h ty).map fun tys => ⟨neg, tys, var, lo, hi⟩
  | _ => none
theorem deItc_out {h : Heap} {l : List AV} {x : It} (e : deItc h l = some x) : ∃ ty, l = [bv x.neg, ty, ss x.var, ii x.lo, ii x.hi] ∧ rd dSs h ty = some x.types := by
  unfold deItc at e
  split at e
  · simp only [Option.map_eq_some_iff] at e
    obtain ⟨t, h1, rfl⟩ := e
    exact ⟨_, rfl, h1⟩
  · cases e
theorem deItc_in {h : Heap} {ty : AV} {x : It} (e : rd dSs h ty = some x.types) : deItc h [bv x.neg, ty, ss x.var, ii x.lo, ii x.hi] = some x := by
  simp only [deItc, bv, ss, ii, e, Option.map_some]
def dIt : De It where
  run h l := deItc h l
  sim {h h' l x} hh e := by
    obtain ⟨ty, rfl, h1⟩ := deItc_out e
    exact deItc_in (rd_sim hh h1)
def dIts : De (List It) := De.sl 5 dIt
theorem its_at {h : Heap} {a : AV} {l : List It} (e : rd dIts h a = some l) : (l = [] ∧ (a = .v (.slice none 0 0) ∨ a = .e)) ∨
    ∃ id off k, a = .s id k.ver off l.length ∧ h id = some k ∧ off + l.length * 5 ≤ k.cells.length ∧ ∀ i (hi : i < l.length), k.cells[off + (i * 5 + 2)]? = some (ss l[i].var) := by
  rcases sl_at e with h0 | ⟨id, off, k, h1, h2, h3, h4⟩
  · exact .inl h0
  · refine .inr ⟨id, off, k, h1, h2, h3, fun i hi => ?_⟩
    obtain ⟨ty, h5, _⟩ := deItc_out (h4 i hi)
    have := cell_of (c := 2) h5 rfl (by omega)
    rwa [Nat.add_assoc] at this
def dNss : De (List (List Nd)) := De.sl 1 dNs
structure Qu where
  items : List It
  mode : Int
  after : Int
  wh : List Nd
  within : Int
  par : ByteArray
  ret : List (List Nd)
def deQ (h : Heap) : AV → Option Qu
  | .g [a, .v (.int .i64 m), .v (.int .i64 f), b, .v (.int .i64 w), .v (.string p), c] => match rd dIts h a, rd dNs h b, rd dNss h c with
    | some x, some y, some z => some ⟨x, m, f, y, w, p, z⟩
    | _, _, _ => none
  | _ => none
theorem deQ_out {h : Heap} {x : AV} {q : Qu} (e : deQ h x = some q) : ∃ a b c, x = .g [a, ii q.mode, ii q.after, b, ii q.within, ss q.par, c] ∧ rd dIts h a = some q.items ∧ rd dNs h b = some q.wh ∧ rd dNss h c = some q.ret := by
  unfold deQ at e
  split at e
  · split at e
    · rename_i e1 e2 e3
      cases e
      exact ⟨_, _, _, rfl, e1, e2, e3⟩
    · cases e
  · cases e
theorem deQ_in {h : Heap} {a b c : AV} {q : Qu} (h1 : rd dIts h a = some q.items) (h2 : rd dNs h b = some q.wh) (h3 : rd dNss h c = some q.ret) : deQ h (.g [a, ii q.mode, ii q.after, b, ii q.within, ss q.par, c]) = some q := by
  simp only [deQ, ii, ss, h1, h2, h3]
theorem deQ_sim {h h' : Heap} (hh : h.sim h') {x : AV} {q : Qu} (e : deQ h x = some q) : deQ h' x = some q := by
  obtain ⟨a, b, c, rfl, e1, e2, e3⟩ := deQ_out e
  exact deQ_in (rd_sim hh e1) (rd_sim hh e2) (rd_sim hh e3)
theorem q_agree {h : Heap} {n : Nat} {a : AV} {x : Qu} (hn : ∀ i, n ≤ i → h i = none) (e : deQ h a = some x) : ∀ h', agree n (roH h) h' → deQ h' a = some x := fun _ ha => deQ_sim (agree_sim hn ha) e

/-! ### the first of a name -/
theorem fi_hit {l : List ByteArray} {v : ByteArray} {j : Nat} (hj : j < l.length) (hno : ∀ i, i < j → (l.getD i ByteArray.empty == v) = false) (hh : (l.getD j ByteArray.empty == v) = true) : l.findIdx (· == v) = j := by
  rw [List.findIdx_eq hj]
  have hg : ∀ i (hi : i < l.length), l.getD i ByteArray.empty = l[i] := fun i hi => by rw [List.getD_eq_getElem?_getD, List.getElem?_eq_getElem hi]; rfl
  refine ⟨by rw [hg j hj] at hh; exact hh, fun i hi => ?_⟩
  have := hno i hi
  rw [hg i (by omega)] at this
  exact this
theorem fi_none {l : List ByteArray} {v : ByteArray} (hno : ∀ i, i < l.length → (l.getD i ByteArray.empty == v) = false) : l.findIdx (· == v) = l.length := by
  rw [List.findIdx_eq_length]
  intro x hx
  obtain ⟨i, hi, rfl⟩ := List.mem_iff_getElem.1 hx
  have := hno i hi
  rw [List.getD_eq_getElem?_getD, List.getElem?_eq_getElem hi] at this
  exact this
def vars (l : List It) : List ByteArray := l.map (·.var)
def ixOf (l : List ByteArray) (v : ByteArray) : Int := if l.findIdx (· == v) < l.length then l.findIdx (· == v) else -1
def deQS (h : Heap) : List AV → Option (Qu × ByteArray)
  | [x, .v (.string v)] => (deQ h x).map fun q => (q, v)
  | _ => none
theorem deQS_out {h : Heap} {args : List AV} {q : Qu × ByteArray} (e : deQS h args = some q) : ∃ x, args = [x, ss q.2] ∧ deQ h x = some q.1 := by
  unfold deQS at e
  split at e
  · simp only [Option.map_eq_some_iff] at e
    obtain ⟨t, h1, rfl⟩ := e
    exact ⟨_, rfl, h1⟩
  · cases e
theorem deQS_in {h : Heap} {x : AV} {q : Qu} {v : ByteArray} (e : deQ h x = some q) : deQS h [x, .v (.string v)] = some (q, v) := by simp only [deQS, e, Option.map_some]
theorem deQS_mono (h h' : Heap) (args : List AV) (q : Qu × ByteArray) (hh : h.le h') (e : deQS h args = some q) : deQS h' args = some q := by
  obtain ⟨x, rfl, e1⟩ := deQS_out e
  exact deQS_in (deQ_sim hh.sim e1)
def G91 := pureH deQS (fun q => q.1.items.length < big) fun q => .t [ii (if ixOf (vars q.1.items) q.2 < 0 then 0 else ixOf (vars q.1.items) q.2), bv (decide (0 ≤ ixOf (vars q.1.items) q.2))]
set_option maxRecDepth 100000 in
set_option maxHeartbeats 1000000 in
theorem P91 : P0 [] 91 G91 := by
  refine mkH 2 (S := []) (l := []) tb_nil Tryd.func91 rfl (by kernel_rfl) deQS_mono (fun h l x e => by obtain ⟨a, rfl, _⟩ := deQS_out e; exact Nat.le_refl _) (fun a => rfl) (fun args q h n e hp hn => ?_)
  obtain ⟨x, rfl, e1⟩ := deQS_out e
  obtain ⟨a, b, c, rfl, e2, e3, e4⟩ := deQ_out e1
  obtain ⟨q, v⟩ := q
  simp only [] at e2 e3 e4 hp ⊢
  obtain ⟨s1, s2, s3, s4, s5⟩ := sl_is e2
  have hl : (vars q.items).length = q.items.length := by simp [vars]
  have o2 := (sl_is e3).2.2.2.1
  have o3 := (sl_is e4).2.2.2.1
  have hgv : ∀ j (hj : j < q.items.length), (vars q.items).getD j ByteArray.empty = q.items[j].var := fun j hj => by rw [List.getD_eq_getElem?_getD, vars, List.getElem?_map, List.getElem?_eq_getElem hj]; rfl
  have key : ∀ e : Nat → AV, e 0 = .g [a, ii q.mode, ii q.after, b, ii q.within, ss q.par, c] → e 1 = ss v → awp (cx [] (pfL [])) (Tryd.f91.body.getD .skip) (finQ (cx [] (pfL [])) Tryd.f91 fun z _ _ => z = .t [ii (if ixOf (vars q.items) v < 0 then 0 else ixOf (vars q.items) v), bv (decide (0 ≤ ixOf (vars q.items) v))]) ⟨e, roH h, n⟩ := fun e q0 q1 => by
    simp [evs, aeval, binS, cx_ti, cx_G, cx_pf, cx_tw, ti, globS, glob, ldcs_1, ldcs_2, ldcs_3, ldcs_4, ldcs_5, ldcs_7, sls.eq_1, slc.eq_1, pfL, Tryd.f91, q0, q1, ii, ss, s1, s2, s3, s4, o2, o3]
    refine awp_loop (fun s => ∃ j : Nat, j ≤ q.items.length ∧ s.e 1 = ss v ∧ s.e 2 = .p n 0 0 ∧ s.e 9 = ii q.items.length ∧ s.e 10 = ii j ∧ agree n (roH h) s.h ∧ s.h n = some ⟨[a, ii q.mode, ii q.after, b, ii q.within, ss q.par, c], 0, true, 7⟩ ∧ ∀ i, i < j → ((vars q.items).getD i ByteArray.empty == v) = false) (fun s => q.items.length - (s.e 10).i.toNat) ⟨0, by simp [up, q1, ii, ss, agree_up, agree_refl]⟩ ?_
    rintro e' h' n' ⟨j, hj, q1, q2, q9, q10, hag, hbk, hno⟩
    simp only [] at q1 q2 q9 q10 hag hbk
    by_cases hlt : j < q.items.length
    · rcases its_at e2 with ⟨h0, _⟩ | ⟨id, off, k, rfl, hk, ho, hat⟩
      · rw [h0] at hlt; simp at hlt
      have hr := hat j hlt
      have ha' := agree_at hn hk hag
      have hw := wrap_nat (j := j) (by omega)
      have hw1 : off + (j * 5 + 3) ≤ k.cells.length := by omega
      have hgj := hgv j hlt
      generalize q.items[j].var = y at *
      cases hy : (y == v) with
      | true =>
        have hf := fi_hit (v := v) (by rw [hl]; exact hlt) hno (by rw [hgj]; exact hy)
        have h1 : ixOf (vars q.items) v = (j : Int) := by rw [ixOf, hf, if_pos (by rw [hl]; exact hlt)]
        have h2 : ¬ (j : Int) < 0 := by omega
        simp [evs, aeval, binS, cx_ti, cx_G, cx_pf, cx_tw, ti, globS, glob, ldcs_1, ldcs_2, ldcs_3, ldcs_4, ldcs_5, ldcs_7, sls.eq_1, slc.eq_1, pfL, q1, q2, q9, q10, ii, ss, hlt, hbk, ha', hr, hw1, hy, h1, h2, bv]
      | false =>
        simp [evs, aeval, binS, cx_ti, cx_G, cx_pf, cx_tw, ti, globS, glob, ldcs_1, ldcs_2, ldcs_3, ldcs_4, ldcs_5, ldcs_7, sls.eq_1, slc.eq_1, pfL, q1, q2, q9, q10, ii, ss, hlt, hbk, ha', hr, hw1, hy, hw, hag]
        refine ⟨⟨j + 1, by omega, by omega, fun i hi => ?_⟩, by omega⟩
        by_cases e : i = j
        · subst e; rw [← List.getD_eq_getElem?_getD, hgj]; exact hy
        · have := hno i (by omega); rwa [List.getD_eq_getElem?_getD] at this
    · obtain rfl : j = q.items.length := by omega
      have hf := fi_none (v := v) (l := vars q.items) (by rw [hl]; exact hno)
      have h1 : ixOf (vars q.items) v = -1 := by rw [ixOf, hf, if_neg (by omega)]
      simp [evs, aeval, binS, cx_ti, cx_G, cx_pf, cx_tw, ti, globS, glob, ldcs_1, ldcs_2, ldcs_3, ldcs_4, ldcs_5, ldcs_7, sls.eq_1, slc.eq_1, pfL, q1, q2, q9, q10, ii, h1, bv]
  exact key _ rfl rfl
end Go.Proofs.YtkfphaphiikloaaDoor

/-
  TREES, PART D: how deep a query's trees are; the place of an attribute, on both sides.
-/
namespace Go.Proofs.YtkfphaphiikloaaDoor
open Go Go.Eng

def deQ1 (h : Heap) : List AV → Option Qu
  | [x] => deQ h x
  | _ => none
theorem deQ1_out {h : Heap} {args : List AV} {q : Qu} (e : deQ1 h args = some q) : ∃ x, args = [x] ∧ deQ h x = some q := by
  unfold deQ1 at e
  split at e
  · exact ⟨_, rfl, e⟩
  · cases e
theorem deQ1_mono (h h' : Heap) (args : List AV) (q : Qu) (hh : h.le h') (e : deQ1 h args = some q) : deQ1 h' args = some q := by
  obtain ⟨x, rfl, e1⟩ := deQ1_out e
  exact deQ_sim hh.sim e1
def qdeepTo (q : Qu) (j : Nat) : Bool := deepB q.wh || (q.ret.take j).any deepB
def qdeep (q : Qu) : Bool := qdeepTo q q.ret.length
theorem qdeep_succ {q : Qu} {j : Nat} (hj : j < q.ret.length) : qdeepTo q (j + 1) = (qdeepTo q j || deepB q.ret[j]) := by
  unfold qdeepTo
  rw [List.take_add_one, List.getElem?_eq_getElem hj, List.any_append, Option.toList_some]
  simp [Bool.or_assoc]
def G14 := pureH deQ1 (fun q => smallT q.wh ∧ q.ret.length < big ∧ ∀ t ∈ q.ret, smallT t) fun q => bv (qdeep q)
def tb14 : List (FuncId × (List AV → Heap → PRes)) := [(15, G15)]
set_option maxRecDepth 100000 in
set_option maxHeartbeats 1000000 in
theorem P14 : P0 [] 14 G14 := by
  refine mkH 1 (S := []) (l := tb14) (tb_cons P15 tb_nil) Tryd.func14 rfl (by kernel_rfl) deQ1_mono (fun h l x e => by obtain ⟨a, rfl, _⟩ := deQ1_out e; exact Nat.le_refl _) (fun a => rfl) (fun args q h n e hp hn => ?_)
  obtain ⟨x, rfl, e1⟩ := deQ1_out e
  obtain ⟨a, b, c, rfl, e2, e3, e4⟩ := deQ_out e1
  obtain ⟨hsw, hrb, hsr⟩ := hp
  obtain ⟨s1, s2, s3, s4, s5⟩ := sl_is e4
  have o1 := (sl_is e2).2.2.2.1
  have o2 := (sl_is e3).2.2.2.1
  have g3 := rd_agree hn e3
  have key : ∀ e : Nat → AV, e 0 = .g [a, ii q.mode, ii q.after, b, ii q.within, ss q.par, c] → awp (cx [] (pfL tb14)) (Tryd.f14.body.getD .skip) (finQ (cx [] (pfL tb14)) Tryd.f14 fun z _ _ => z = bv (qdeep q)) ⟨e, roH h, n⟩ := fun e q0 => by
    simp [evs, aeval, binS, cx_ti, cx_G, cx_pf, cx_tw, ti, globS, glob, ldcs_1, ldcs_2, ldcs_3, ldcs_4, ldcs_5, ldcs_7, sls.eq_1, slc.eq_1, pfL, Tryd.f14, q0, ii, ss, s1, s2, s3, s4, o1, o2, tb14, G15, pureH, deT, g3, agree_up, agree_refl, hsw]
    refine awp_loop (fun s => ∃ j : Nat, j ≤ q.ret.length ∧ s.e 1 = .p n 0 0 ∧ s.e 3 = bv (qdeepTo q j) ∧ s.e 4 = ii j ∧ agree n (roH h) s.h ∧ s.h n = some ⟨[a, ii q.mode, ii q.after, b, ii q.within, ss q.par, c], 0, true, 7⟩) (fun s => q.ret.length - (s.e 4).i.toNat) ⟨0, by simp [up, ii, ss, agree_up, agree_refl, qdeepTo]⟩ ?_
    rintro e' h' n' ⟨j, hj, q1, q3, q4, hag, hbk⟩
    simp only [] at q1 q3 q4 hag hbk
    by_cases hlt : j < q.ret.length
    · rcases sls_at e4 with ⟨h0, _⟩ | ⟨id, off, k, rfl, hk, ho, hat⟩
      · rw [h0] at hlt; simp at hlt
      obtain ⟨c', hc, hcr⟩ := hat j hlt
      have u3 := (sl_is hcr).2.2.1
      have gr : ∀ h', agree n (roH h) h' → rd dNs h' c' = some q.ret[j] := rd_agree hn hcr
      have ha' := agree_at hn hk hag
      have hw := wrap_nat (j := j) (by omega)
      have hw1 : off + (j + 1) ≤ k.cells.length := by omega
      have hsu := qdeep_succ hlt
      have hsm := hsr _ (List.getElem_mem hlt)
      generalize q.ret[j] = t at *
      generalize hqd : qdeepTo q j = d at *
      cases d <;> simp [evs, aeval, binS, cx_ti, cx_G, cx_pf, cx_tw, ti, globS, glob, ldcs_1, ldcs_2, ldcs_3, ldcs_4, ldcs_5, ldcs_7, sls.eq_1, slc.eq_1, pfL, q1, q3, q4, ii, bv, hlt, hbk, ha', hc, hw1, tb14, G15, pureH, deT, gr, hag, hsm, hw, u3]
      · exact ⟨⟨j + 1, by omega, by rw [hsu]; rfl, by omega⟩, by omega⟩
      · exact ⟨⟨j + 1, by omega, by rw [hsu]; rfl, by omega⟩, by omega⟩
    · obtain rfl : j = q.ret.length := by omega
      simp [evs, aeval, binS, cx_ti, cx_G, cx_pf, cx_tw, ti, globS, glob, ldcs_1, ldcs_2, ldcs_3, ldcs_4, ldcs_5, ldcs_7, sls.eq_1, slc.eq_1, pfL, q1, q3, q4, ii, hbk, s1, s2, s3, qdeep, bv]
  exact key _ rfl

/-! ### schemas -/
structure Ty where
  name : ByteArray
  attrs : List ByteArray
def deTyc (h : Heap) : List AV → Option Ty
  | [.v (.string n), a] => (rd dSs h a).map fun l => ⟨n, l⟩
  | _ => none
theorem deTyc_out {h : Heap} {l : List AV} {x : Ty} (e : deTyc h l = some x) : ∃ a, l = [ss x.name, a] ∧ rd dSs h a = some x.attrs := by
  unfold deTyc at e
  split at e
  · simp only [Option.map_eq_some_iff] at e
    obtain ⟨t, h1, rfl⟩ := e
    exact ⟨_, rfl, h1⟩
  · cases e
theorem deTyc_in {h : Heap} {a : AV} {x : Ty} (e : rd dSs h a = some x.attrs) : deTyc h [ss x.name, a] = some x := by
  simp only [deTyc, ss, e, Option.map_some]
def dTy : De Ty where
  run h l := deTyc h l
  sim {h h' l x} hh e := by
    obtain ⟨ty, rfl, h1⟩ := deTyc_out e
    exact deTyc_in (rd_sim hh h1)
def dTys : De (List Ty) := De.sl 2 dTy
theorem tys_at {h : Heap} {a : AV} {l : List Ty} (e : rd dTys h a = some l) : (l = [] ∧ (a = .v (.slice none 0 0) ∨ a = .e)) ∨
    ∃ id off k, a = .s id k.ver off l.length ∧ h id = some k ∧ off + l.length * 2 ≤ k.cells.length ∧ ∀ i (hi : i < l.length), k.cells[off + i * 2]? = some (ss l[i].name) ∧ ∃ c, k.cells[off + (i * 2 + 1)]? = some c ∧ rd dSs h c = some l[i].attrs := by
  rcases sl_at e with h0 | ⟨id, off, k, h1, h2, h3, h4⟩
  · exact .inl h0
  · refine .inr ⟨id, off, k, h1, h2, h3, fun i hi => ?_⟩
    obtain ⟨c, h5, h6⟩ := deTyc_out (h4 i hi)
    have t0 := cell_of (c := 0) h5 rfl (by omega)
    have t1 := cell_of (c := 1) h5 rfl (by omega)
    rw [Nat.add_assoc] at t1
    exact ⟨t0, c, t1, h6⟩
theorem ss_at {h : Heap} {a : AV} {l : List ByteArray} (e : rd dSs h a = some l) : (l = [] ∧ (a = .v (.slice none 0 0) ∨ a = .e)) ∨
    ∃ id off k, a = .s id k.ver off l.length ∧ h id = some k ∧ off + l.length ≤ k.cells.length ∧ ∀ i (hi : i < l.length), k.cells[off + i]? = some (ss l[i]) := by
  rcases sl_at e with h0 | ⟨id, off, k, h1, h2, h3, h4⟩
  · exact .inl h0
  · rw [Nat.mul_one] at h3
    refine .inr ⟨id, off, k, h1, h2, h3, fun i hi => ?_⟩
    have := h4 i hi
    rw [Nat.mul_one] at this
    simp only [De.str] at this
    split at this
    · rename_i z hq
      have h5 := cell_of (c := 0) hq rfl (by omega)
      simp only [Option.some.injEq] at this
      rw [Nat.add_zero] at h5
      rw [h5, this]
      rfl
    · cases this
def deSc (h : Heap) : AV → Option (List Ty)
  | .g [a] => rd dTys h a
  | _ => none
theorem deSc_out {h : Heap} {x : AV} {q : List Ty} (e : deSc h x = some q) : ∃ a, x = .g [a] ∧ rd dTys h a = some q := by
  unfold deSc at e
  split at e
  · exact ⟨_, rfl, e⟩
  · cases e
theorem deSc_sim {h h' : Heap} (hh : h.sim h') {x : AV} {q : List Ty} (e : deSc h x = some q) : deSc h' x = some q := by
  obtain ⟨a, rfl, e1⟩ := deSc_out e
  exact rd_sim hh e1
def smallS (l : List Ty) : Prop := l.length < big ∧ ∀ t ∈ l, t.attrs.length < big
def tsB : ByteArray := ⟨#[116, 115]⟩
/-- The place of an attribute. -/
def attrOf (l : List Ty) (ty : Int) (name : ByteArray) : Int :=
  if ty < 0 ∨ (l.length : Int) ≤ ty then -1 else if (name == tsB) = true then -2 else
    match l[ty.toNat]? with
    | some t => if ixOf t.attrs name < 8 then ixOf t.attrs name else -1
    | none => -1
def dePl (h : Heap) : List AV → Option (List ByteArray × ByteArray)
  | [a, .v (.string v)] => (rd dSs h a).map fun l => (l, v)
  | _ => none
theorem dePl_out {h : Heap} {args : List AV} {q : List ByteArray × ByteArray} (e : dePl h args = some q) : ∃ a, args = [a, ss q.2] ∧ rd dSs h a = some q.1 := by
  unfold dePl at e
  split at e
  · simp only [Option.map_eq_some_iff] at e
    obtain ⟨t, h1, rfl⟩ := e
    exact ⟨_, rfl, h1⟩
  · cases e
theorem dePl_mono (h h' : Heap) (args : List AV) (q : List ByteArray × ByteArray) (hh : h.le h') (e : dePl h args = some q) : dePl h' args = some q := by
  obtain ⟨x, rfl, e1⟩ := dePl_out e
  simp only [dePl, ss, rd_mono hh e1, Option.map_some]
def G140 := pureH dePl (fun q => q.1.length < big) fun q => ii (ixOf q.1 q.2)
set_option maxRecDepth 100000 in
set_option maxHeartbeats 1000000 in
theorem P140 : P0 [] 140 G140 := by
  refine mkH 2 (S := []) (l := []) tb_nil Tryd.func140 rfl (by kernel_rfl) dePl_mono (fun h l x e => by obtain ⟨a, rfl, _⟩ := dePl_out e; exact Nat.le_refl _) (fun a => rfl) (fun args q h n e hp hn => ?_)
  obtain ⟨a, rfl, e2⟩ := dePl_out e
  obtain ⟨l, v⟩ := q
  simp only [] at e2 hp ⊢
  obtain ⟨s1, s2, s3, s4, s5⟩ := sl_is e2
  have hgv : ∀ j (hj : j < l.length), l.getD j ByteArray.empty = l[j] := fun j hj => by rw [List.getD_eq_getElem?_getD, List.getElem?_eq_getElem hj]; rfl
  have key : ∀ e : Nat → AV, e 0 = a → e 1 = ss v → awp (cx [] (pfL [])) (Tryd.f140.body.getD .skip) (finQ (cx [] (pfL [])) Tryd.f140 fun z _ _ => z = ii (ixOf l v)) ⟨e, roH h, n⟩ := fun e q0 q1 => by
    simp [evs, aeval, binS, cx_ti, cx_G, cx_pf, cx_tw, ti, globS, glob, ldcs_1, ldcs_2, ldcs_3, ldcs_4, ldcs_5, ldcs_7, sls.eq_1, slc.eq_1, pfL, Tryd.f140, q0, q1, ii, ss, s1, s2, s3]
    refine awp_loop (fun s => ∃ j : Nat, j ≤ l.length ∧ s.e 1 = ss v ∧ s.e 7 = a ∧ s.e 8 = ii l.length ∧ s.e 9 = ii j ∧ s.h = roH h ∧ ∀ i, i < j → (l.getD i ByteArray.empty == v) = false) (fun s => l.length - (s.e 9).i.toNat) ⟨0, by simp [up, q0, q1, ii, ss]⟩ ?_
    rintro e' h' n' ⟨j, hj, q1, q7, q8, q9, hh, hno⟩
    simp only [] at q1 q7 q8 q9 hh
    subst hh
    by_cases hlt : j < l.length
    · rcases ss_at e2 with ⟨h0, _⟩ | ⟨id, off, k, rfl, hk, ho, hat⟩
      · rw [h0] at hlt; simp at hlt
      have hr := hat j hlt
      have ha' := ro_at hk
      have hw := wrap_nat (j := j) (by omega)
      have hw1 : off + (j + 1) ≤ k.cells.length := by omega
      have hgj := hgv j hlt
      generalize l[j] = y at *
      cases hy : (y == v) with
      | true =>
        have hf := fi_hit (v := v) hlt hno (by rw [hgj]; exact hy)
        have h1 : ixOf l v = (j : Int) := by rw [ixOf, hf, if_pos hlt]
        simp [evs, aeval, binS, cx_ti, cx_G, cx_pf, cx_tw, ti, globS, glob, ldcs_1, ldcs_2, ldcs_3, ldcs_4, ldcs_5, ldcs_7, sls.eq_1, slc.eq_1, pfL, q1, q7, q8, q9, ii, ss, hlt, ha', hr, hw1, hy, h1]
      | false =>
        simp [evs, aeval, binS, cx_ti, cx_G, cx_pf, cx_tw, ti, globS, glob, ldcs_1, ldcs_2, ldcs_3, ldcs_4, ldcs_5, ldcs_7, sls.eq_1, slc.eq_1, pfL, q1, q7, q8, q9, ii, ss, hlt, ha', hr, hw1, hy, hw]
        refine ⟨⟨j + 1, by omega, by omega, fun i hi => ?_⟩, by omega⟩
        by_cases e : i = j
        · subst e; rw [← List.getD_eq_getElem?_getD, hgj]; exact hy
        · have := hno i (by omega); rwa [List.getD_eq_getElem?_getD] at this
    · obtain rfl : j = l.length := by omega
      have hf := fi_none (v := v) (l := l) hno
      have h1 : ixOf l v = -1 := by rw [ixOf, hf, if_neg (by omega)]
      simp [evs, aeval, binS, cx_ti, cx_G, cx_pf, cx_tw, ti, globS, glob, ldcs_1, ldcs_2, ldcs_3, ldcs_4, ldcs_5, ldcs_7, sls.eq_1, slc.eq_1, pfL, q1, q7, q8, q9, ii, h1]
  exact key _ rfl rfl
end Go.Proofs.YtkfphaphiikloaaDoor

/-
  THE PROGRAMS OF CONDITIONS: does a program hold, on both sides.
-/
namespace Go.Proofs.YtkfphaphiikloaaDoor
open Go Go.Eng

theorem acall_any {S S' : List Nat} {pf pf' : FuncId → Option (List AV → Heap → PRes)} (hs : ∀ x ∈ S, x ∈ S') {f : FuncId} {args : List AV} {h : Heap} {n : Nat} {Q : AV → Heap → Nat → Prop} (k : ACall (cx S pf) f args h n Q) : ACall (cx S' pf') f args h n Q := by
  refine ⟨k.1, fun K w0 ρ w vs r hv => ?_⟩
  have hsub : ∀ g cs, globS S g = some cs → globS S' g = some cs := fun g cs hg => by
    simp only [globS] at hg ⊢
    by_cases hm : g ∈ S
    · rw [if_pos hm] at hg; rw [if_pos (hs g hm)]; exact hg
    · rw [if_neg hm] at hg; cases hg
  have r0 : Rel (cx S pf) K w0 ρ (n ≤ ·) h w := ⟨r.os, r.tape, r.output, r.size, r.keep, r.kold, fun g cs hg => r.glob g cs (hsub g cs hg), r.blk, r.apart, r.mine, r.free, r.vers⟩
  refine (k.2 K w0 ρ w vs r0 hv).mono fun e w' ⟨y, h1, ρ2, z, h', n', h2, h3, r2, h5⟩ => ⟨y, h1, ρ2, z, h', n', h2, h3, ⟨r2.os, r2.tape, r2.output, r2.size, r2.keep, r2.kold, fun g cs hg => ?_, r2.blk, r2.apart, r2.mine, r2.free, r2.vers⟩, h5⟩
  obtain ⟨g1, arr, el, fr, g2, g3⟩ := r.glob g cs hg
  exact ⟨g1, arr, el, fr, by rw [r2.keep g g1, ← r.keep g g1]; exact g2, g3⟩

def S29 : List Nat := [0, 1, 2, 3, 4, 5, 6]
def G31 := pureH deR okR fun q => bv (holdsV q.1 q.2)
def tb31 : List (FuncId × (List AV → Heap → PRes)) := [(29, G29), (48, g20)]
set_option maxRecDepth 100000 in
set_option maxHeartbeats 1000000 in
theorem P31 (h0 : P0 S29 29 G29) : P0 S29 31 G31 := by
  refine mkH 2 (S := S29) (l := tb31) (tb_cons h0 (tb_cons p20 tb_nil)) Tryd.func31 rfl (by kernel_rfl) deR_mono (fun h l x e => by obtain ⟨a, c, rfl, _⟩ := deR_out e; exact Nat.le_refl _) (fun a => rfl) (fun args q h n e hp hn => ?_)
  obtain ⟨p, en⟩ := q
  obtain ⟨x, y, rfl, e1, e2⟩ := deR_out e
  obtain ⟨pa, pb, rfl, e3, e4⟩ := dePr_out e1
  obtain ⟨la, rfl, e5⟩ := deEn_out e2
  simp only [] at e1 e2 e3 e4 e5 hp ⊢
  obtain ⟨s1, s2, s3, s4, s5⟩ := sl_is e3
  obtain ⟨t1, t2, t3, t4, t5⟩ := sl_is e4
  obtain ⟨r1, r2, r3, r4, r5⟩ := sl_is e5
  have g1 := pr_agree hn e1
  have g2 := en_agree hn e2
  simp only [ii] at g2
  obtain ⟨rv, hrv⟩ : ∃ rv, rv = runV p en := ⟨_, rfl⟩
  have hv : holdsV p en = (rv.2 == 0 && trueV rv.1) := by rw [hrv]; rfl
  obtain ⟨⟨vk, vn⟩, er⟩ := rv
  by_cases hz : er = 0
  · subst hz
    simp [evs, aeval, binS, cx_ti, cx_G, cx_pf, cx_tw, ti, globS, glob, ldcs_1, ldcs_2, ldcs_3, ldcs_4, ldcs_5, ldcs_7, sls.eq_1, slc.eq_1, pfL, ii, s4, t4, r4, tb31, G29, pureH, deR, g1, g2, agree_up, agree_refl, hp, ← hrv, runA, vv, bv, hv, g20, pure1, deV]
  · simp [evs, aeval, binS, cx_ti, cx_G, cx_pf, cx_tw, ti, globS, glob, ldcs_1, ldcs_2, ldcs_3, ldcs_4, ldcs_5, ldcs_7, sls.eq_1, slc.eq_1, pfL, ii, s4, t4, r4, tb31, G29, pureH, deR, g1, g2, agree_up, agree_refl, hp, ← hrv, runA, vv, bv, hv, hz, g20, pure1, deV]
end Go.Proofs.YtkfphaphiikloaaDoor

/-
  TREES, PART R: copies that share nothing: nodes, queries, trees with room.
-/
namespace Go.Proofs.YtkfphaphiikloaaDoor
open Go Go.Eng

theorem Flat.nd : Flat 6 dN ncells := ⟨fun _ _ _ e => deNc_out e, fun _ _ => rfl, fun _ => rfl⟩
/-! ### a tree with room -/
end Go.Proofs.YtkfphaphiikloaaDoor

/-
  TREES, PART S: a schema's copy that shares nothing.
-/
namespace Go.Proofs.YtkfphaphiikloaaDoor
open Go Go.Eng

def scell (x : ByteArray) : List AV := [ss x]
theorem str_out (h : Heap) (l : List AV) (x : ByteArray) (e : De.str.run h l = some x) : l = scell x := by
  simp only [De.str] at e
  split at e
  · cases e; rfl
  · cases e
theorem Flat.str : Flat 1 De.str scell := ⟨str_out, fun _ _ => rfl, fun _ => rfl⟩
theorem two_cells {l : List AV} {o : Nat} {x y : AV} (h1 : l[o]? = some x) (h2 : l[o + 1]? = some y) : (l.drop o).take 2 = [x, y] := by
  obtain ⟨k1, rfl⟩ := List.getElem?_eq_some_iff.1 h1
  obtain ⟨k2, rfl⟩ := List.getElem?_eq_some_iff.1 h2
  rw [List.drop_eq_getElem_cons k1, List.drop_eq_getElem_cons k2]
  rfl
/-- The first j types lie in blocks of one's own. -/
def OwnT (h : Heap) (lo hi : Nat) (z : AV) (sc : List Ty) (j : Nat) : Prop :=
  (j = 0 ∧ z = .v (.slice none 0 0)) ∨ ∃ w u cs, z = .s w u 0 j ∧ h w = some ⟨cs, u, true, 2⟩ ∧ lo ≤ w ∧ w < hi ∧ cs.length = j * 2 ∧
    ∀ i (hi' : i < sc.length), i < j → ∃ b, cs[i * 2]? = some (ss sc[i].name) ∧ cs[i * 2 + 1]? = some (.s b 1 0 sc[i].attrs.length) ∧ h b = some ⟨sc[i].attrs.flatMap scell, 1, true, 1⟩ ∧ lo ≤ b ∧ b < hi ∧ b ≠ w
theorem OwnT.rd {h : Heap} {lo hi : Nat} {z : AV} {sc : List Ty} (o : OwnT h lo hi z sc sc.length) : rd dTys h z = some sc := by
  rcases o with ⟨h0, rfl⟩ | ⟨w, u, cs, rfl, hk, _, _, hl, hat⟩
  · have : sc = [] := List.eq_nil_of_length_eq_zero h0
    subst this
    rfl
  · refine De.sl_in (off := 0) (k := ⟨cs, u, true, 2⟩) hk (by simp only [hl]; omega) (fun i hi => ?_)
    obtain ⟨b, h1, h2, h3, _⟩ := hat i hi hi
    simp only [Nat.zero_add]
    rw [two_cells h1 h2]
    exact deTyc_in (flat_in Flat.str h3 rfl (r := []) (by simp))
theorem OwnT.congr {h h' : Heap} {lo hi : Nat} {z : AV} {sc : List Ty} {j : Nat} (o : OwnT h lo hi z sc j) (hh : ∀ q, lo ≤ q → q < hi → h' q = h q) : OwnT h' lo hi z sc j := by
  rcases o with h0 | ⟨w, u, cs, h1, h2, h3, h4, h5, h6⟩
  · exact .inl h0
  · refine .inr ⟨w, u, cs, h1, by rw [hh _ h3 h4]; exact h2, h3, h4, h5, fun i hi' hij => ?_⟩
    obtain ⟨b, k1, k2, k3, k4, k5, k6⟩ := h6 i hi' hij
    exact ⟨b, k1, k2, by rw [hh _ k4 k5]; exact k3, k4, k5, k6⟩
theorem OwnT.snoc {h h2 : Heap} {lo hi hi2 w w0 u b : Nat} {cs : List AV} {sc : List Ty} {j : Nat} (hj : j < sc.length) (hcl : cs.length = j * 2)
    (hold : ∀ i (hi' : i < sc.length), i < j → ∃ b, cs[i * 2]? = some (ss sc[i].name) ∧ cs[i * 2 + 1]? = some (.s b 1 0 sc[i].attrs.length) ∧ h b = some ⟨sc[i].attrs.flatMap scell, 1, true, 1⟩ ∧ lo ≤ b ∧ b < hi ∧ b ≠ w0)
    (hh : ∀ q, lo ≤ q → q < hi → q ≠ w0 → h2 q = h q) (hhi : hi ≤ hi2) (hne : w = w0 ∨ hi ≤ w) (hk : h2 w = some ⟨cs ++ [ss sc[j].name, .s b 1 0 sc[j].attrs.length], u, true, 2⟩) (hb : h2 b = some ⟨sc[j].attrs.flatMap scell, 1, true, 1⟩)
    (hb0 : lo ≤ b) (hb2 : b < hi2) (hbw : b ≠ w) (hw1 : lo ≤ w) (hw2 : w < hi2) : OwnT h2 lo hi2 (.s w u 0 (j + 1)) sc (j + 1) := by
  refine .inr ⟨w, u, _, rfl, hk, hw1, hw2, by simp only [List.length_append, hcl, List.length_cons, List.length_nil]; omega, fun i hi' hij => ?_⟩
  by_cases e : i = j
  · subst e
    exact ⟨b, by rw [List.getElem?_append_right (by omega), hcl, Nat.sub_self]; rfl, by rw [List.getElem?_append_right (by omega), hcl, show i * 2 + 1 - i * 2 = 1 by omega]; rfl, hb, hb0, hb2, hbw⟩
  · obtain ⟨b', k1, k2, k3, k4, k5, k6⟩ := hold i hi' (by omega)
    refine ⟨b', by rw [List.getElem?_append_left (by omega)]; exact k1, by rw [List.getElem?_append_left (by omega)]; exact k2, by rw [hh _ k4 k5 k6]; exact k3, k4, by omega, ?_⟩
    rcases hne with rfl | h9
    · exact k6
    · omega
end Go.Proofs.YtkfphaphiikloaaDoor

/-
  A schema, a query, an environment in a cell; a tree with room behind it.
-/
namespace Go.Proofs.YtkfphaphiikloaaDoor
open Go Go.Eng

/-- A schema, a query, an environment in a cell. -/
def HasS (h : Heap) (x : AV) (sc : List Ty) : Prop := ∃ m a, x = .p m 0 0 ∧ h m = some ⟨[a], 0, true, 1⟩ ∧ rd dTys h a = some sc
def HasQ (h : Heap) (x : AV) (q : Qu) : Prop := ∃ m a b c, x = .p m 0 0 ∧ h m = some ⟨[a, .v (.int .i64 q.mode), .v (.int .i64 q.after), b, .v (.int .i64 q.within), .v (.string q.par), c], 0, true, 7⟩ ∧ rd dIts h a = some q.items ∧ rd dNs h b = some q.wh ∧ rd dNss h c = some q.ret
def HasE (h : Heap) (x : AV) (en : En) : Prop := ∃ m a, x = .p m 0 0 ∧ h m = some ⟨[a, .v (.int .i64 en.each), .v (.int .i64 en.pos)], 0, true, 3⟩ ∧ rd dEss h a = some en.ls
theorem HasS.up {h h' : Heap} {n : Nat} {x : AV} {sc : List Ty} (a : HasS h x sc) (hn : Fresh n h) (ha : agree n h h') : HasS h' x sc := by
  obtain ⟨m, b, rfl, h1, h2⟩ := a
  exact ⟨m, b, rfl, by rw [ha m (lt_of h1 hn)]; exact h1, rd_agr hn h2 _ ha⟩
theorem HasQ.up {h h' : Heap} {n : Nat} {x : AV} {q : Qu} (a : HasQ h x q) (hn : Fresh n h) (ha : agree n h h') : HasQ h' x q := by
  obtain ⟨m, b, c, d, rfl, h1, h2, h3, h4⟩ := a
  exact ⟨m, b, c, d, rfl, by rw [ha m (lt_of h1 hn)]; exact h1, rd_agr hn h2 _ ha, rd_agr hn h3 _ ha, rd_agr hn h4 _ ha⟩
theorem HasE.up {h h' : Heap} {n : Nat} {x : AV} {en : En} (a : HasE h x en) (hn : Fresh n h) (ha : agree n h h') : HasE h' x en := by
  obtain ⟨m, b, rfl, h1, h2⟩ := a
  exact ⟨m, b, rfl, by rw [ha m (lt_of h1 hn)]; exact h1, rd_agr hn h2 _ ha⟩
theorem deEn_has {h : Heap} {a : AV} {en : En} (e : rd dEss h a = some en.ls) : deEn h (.g [a, .v (.int .i64 en.each), .v (.int .i64 en.pos)]) = some en := deEn_in e
theorem deQ_has {h : Heap} {a b c : AV} {q : Qu} (h1 : rd dIts h a = some q.items) (h2 : rd dNs h b = some q.wh) (h3 : rd dNss h c = some q.ret) : deQ h (.g [a, .v (.int .i64 q.mode), .v (.int .i64 q.after), b, .v (.int .i64 q.within), .v (.string q.par), c]) = some q := deQ_in h1 h2 h3
end Go.Proofs.YtkfphaphiikloaaDoor

/-
  THE ROWS OF THIS SEAT, WHAT THEY SHARE: schemas, queries and trees among the arguments; the keywords.
-/
namespace Go.Proofs.YtkfphaphiikloaaDoor
open Go Go.Eng Go.RowKit Go.ChangeShapes Go.WideShapes Go.Joins

/-- A row of strings. -/
theorem rd_strs {t e : TypeId} {n : Nat} (ht : Tryd.prog.underlying t = some (.array n e)) (he : Tryd.prog.underlying e = some .string) (hc : Tryd.prog.cellsOf e = 1) (ec : Tryd.prog.cellsOf t = n) (l : List ByteArray) (hl : l.length = n) : Rd t (.agg (l.map fun x => .lit (.string x.data.toList))) (l.map fun x => .string x) := fun W f cs x h ex => by
  obtain ⟨xs, m, _, rfl, hcl, hn, hel⟩ := DataW.trod_array ht h
  simp only [DataW.agg.injEq] at ex
  have hcn : cs.length = n := by rw [hcl, ec]
  apply List.ext_getElem
  · rw [hcn, List.length_map, hl]
  intro i h1 h2
  have hi : i < n := by omega
  have hx := hel i (by omega)
  have hlt : i < xs.length := by omega
  rw [List.getElem?_eq_getElem hlt] at hx
  have hxi : (xs[i]).1 = .lit (.string (l[i]'(by omega)).data.toList) := by
    have := congrArg (·[i]?) ex
    simpa [hlt, show i < l.length by omega] using this
  obtain ⟨s, q1, q2, _⟩ := DataW.trod_string he hx
  rw [q2] at hxi
  simp only [DataW.lit.injEq, Lit.string.injEq] at hxi
  have hs : s = l[i]'(by omega) := by
    have h9 := Array.toList_inj.1 hxi
    cases s
    cases hli : l[i]'(by omega)
    rw [hli] at h9
    simp only [] at h9
    rw [h9]
  rw [hc, Nat.mul_one, List.take_one, List.head?_drop, List.getElem?_eq_getElem h1] at q1
  rw [List.getElem_map, ← hs]
  simpa using q1
set_option maxRecDepth 100000 in
theorem rdKeywords : Rd 178 Rows.laid_sluice_api_Keywords ((glob 7).getD []) :=
  rd_strs (n := 27) Tryd.underlying178 Tryd.underlying9 (by kernel_rfl) (by kernel_rfl) kwords rfl
theorem at7 {laid : List (String × DataW Unit)} {W : World} (hL : laidMetH Tryd.prog laid W) (hpl : (laid.all fun x => x.2.handleName?.isNone) = true) (hm : ("sluice/api.Keywords", Rows.laid_sluice_api_Keywords) ∈ laid) : GlobAt W 7 := globAt_of hL hpl hm (by kernel_rfl) (by kernel_rfl) rdKeywords rfl

/-! ### openers -/
theorem str_flat : ∀ (h : Heap) (l : List AV) (x : ByteArray), De.str.run h l = some x → l = [ss x] := str_out
theorem bool_flat6 : ∀ (h : Heap) (l : List AV) (x : Bool), De.bool.run h l = some x → l = [.v (.bool x)] := fun h l x e => by
  simp only [De.bool] at e
  split at e
  · cases e; rfl
  · cases e
theorem tk_cons {l : List AV} {a : AV} (h : l.take 1 = [a]) : l = a :: l.drop 1 := by
  have := List.take_append_drop 1 l
  rw [h] at this
  exact this.symm
theorem opens_s : Opens Tryd.prog 9 De.str fun s => s.size ≤ maxLen := Opens.str Tryd.underlying9
theorem opens_b : Opens Tryd.prog 4 De.bool fun _ => True := Opens.bool Tryd.underlying4
theorem opens_75 : Opens Tryd.prog 75 (De.int .i64) fun n => (Lit.int .i64 n).wf = true := Opens.int Tryd.underlying75
theorem opens_26 : Opens Tryd.prog 26 (De.int .i64) fun n => (Lit.int .i64 n).wf = true := Opens.int Tryd.underlying26
theorem opens_27 : Opens Tryd.prog 27 (De.int .i64) fun n => (Lit.int .i64 n).wf = true := Opens.int Tryd.underlying27
theorem opens_nd : Opens Tryd.prog 92 dN fun x => Rng x.n := by
  refine Opens.conv (Opens.struct Tryd.underlying92 (tot := 6) (by kernel_rfl) (OpensF.cons rfl (n := 1) (by kernel_rfl) (by decide) opens_75 (OpensF.cons rfl (n := 1) (by kernel_rfl) (by decide) opens_i2 (OpensF.cons rfl (n := 1) (by kernel_rfl) (by decide) opens_s (OpensF.cons rfl (n := 1) (by kernel_rfl) (by decide) opens_s (OpensF.cons rfl (n := 1) (by kernel_rfl) (by decide) opens_i (OpensF.one rfl (by kernel_rfl) opens_i))))))) fun h l x e ok => ?_
  have hl := pair_flat (int_flat .i64) (pair_flat (int_flat .i64) (pair_flat str_flat (pair_flat str_flat (pair_flat (int_flat .i64) (int_flat .i64))))) h l x e
  exact ⟨⟨x.1, x.2.1, x.2.2.1, x.2.2.2.1, x.2.2.2.2.1, x.2.2.2.2.2⟩, by rw [hl]; rfl, rng_of ok.2.1⟩
theorem opens_28 : Opens Tryd.prog 28 dNs fun l => l.length * 64 ≤ reachBytes ∧ ∀ x ∈ l, Rng x.n := Opens.sl Tryd.underlying28 (sz := 6) (by kernel_rfl) (by decide) (by kernel_rfl) opens_nd
theorem opens_29 : Opens Tryd.prog 29 dNss fun l => l.length * 24 ≤ reachBytes ∧ ∀ x ∈ l, x.length * 64 ≤ reachBytes ∧ ∀ y ∈ x, Rng y.n := Opens.sl Tryd.underlying29 (sz := 1) (by kernel_rfl) (by decide) (by kernel_rfl) opens_28
theorem opens_93 : Opens Tryd.prog 93 dSs fun l => l.length * 16 ≤ reachBytes ∧ ∀ x ∈ l, x.size ≤ maxLen := Opens.sl Tryd.underlying93 (sz := 1) (by kernel_rfl) (by decide) (by kernel_rfl) opens_s
theorem opens_95 : Opens Tryd.prog 95 dTy fun t => t.attrs.length * 16 ≤ reachBytes := by
  refine Opens.conv (Opens.struct Tryd.underlying95 (tot := 2) (by kernel_rfl) (OpensF.cons rfl (n := 1) (by kernel_rfl) (by decide) opens_s (OpensF.one rfl (by kernel_rfl) opens_93))) fun h l x e ok => ?_
  obtain ⟨e1, e2⟩ := pair_run e
  have h1 := tk_cons (str_flat _ _ _ e1)
  obtain ⟨a, ha⟩ := sl_one e2
  rw [ha] at e2 h1
  have e2' : rd dSs h a = some x.2 := e2
  exact ⟨⟨x.1, x.2⟩, by rw [h1]; exact deTyc_in (x := ⟨x.1, x.2⟩) e2', ok.2.1⟩
theorem opens_22 : Opens Tryd.prog 22 dTys fun l => l.length * 40 ≤ reachBytes ∧ ∀ t ∈ l, t.attrs.length * 16 ≤ reachBytes := Opens.sl Tryd.underlying22 (sz := 2) (by kernel_rfl) (by decide) (by kernel_rfl) opens_95
/-- A schema. -/
def dSc : De (List Ty) where
  run h l := deSc h (.g l)
  sim hh e := deSc_sim hh e
theorem opens_24 : Opens Tryd.prog 24 dSc fun l => l.length * 40 ≤ reachBytes ∧ ∀ t ∈ l, t.attrs.length * 16 ≤ reachBytes := by
  refine Opens.conv (Opens.struct Tryd.underlying24 (tot := 1) (by kernel_rfl) (OpensF.one rfl (by kernel_rfl) opens_22)) fun h l x e ok => ?_
  obtain ⟨a, rfl⟩ := sl_one e
  exact ⟨x, e, ok⟩
theorem opens_109 : Opens Tryd.prog 109 dIt fun _ => True := by
  refine Opens.conv (Opens.struct Tryd.underlying109 (tot := 5) (by kernel_rfl) (OpensF.cons rfl (n := 1) (by kernel_rfl) (by decide) opens_b (OpensF.cons rfl (n := 1) (by kernel_rfl) (by decide) opens_93 (OpensF.cons rfl (n := 1) (by kernel_rfl) (by decide) opens_s (OpensF.cons rfl (n := 1) (by kernel_rfl) (by decide) opens_i (OpensF.one rfl (by kernel_rfl) opens_i)))))) fun h l x e ok => ?_
  obtain ⟨e1, e2⟩ := pair_run e
  obtain ⟨e3, e4⟩ := pair_run e2
  have h1 := tk_cons (bool_flat6 _ _ _ e1)
  obtain ⟨a, ha⟩ := sl_one e3
  have h2 := tk_cons ha
  have h3 := pair_flat str_flat (pair_flat (int_flat .i64) (int_flat .i64)) h _ _ e4
  rw [ha] at e3
  have e3' : rd dSs h a = some x.2.1 := e3
  refine ⟨⟨x.1, x.2.1, x.2.2.1, x.2.2.2.1, x.2.2.2.2⟩, ?_, trivial⟩
  rw [h1, h2, h3]
  exact deItc_in (x := ⟨x.1, x.2.1, x.2.2.1, x.2.2.2.1, x.2.2.2.2⟩) e3'
theorem opens_25 : Opens Tryd.prog 25 dIts fun l => l.length * 64 ≤ reachBytes ∧ ∀ x ∈ l, True := Opens.sl Tryd.underlying25 (sz := 5) (by kernel_rfl) (by decide) (by kernel_rfl) opens_109
/-- A query. -/
def dQu : De Qu where
  run h l := deQ h (.g l)
  sim hh e := deQ_sim hh e
structure QuOk0 (q : Qu) : Prop where
  items : q.items.length * 64 ≤ reachBytes
  wh : q.wh.length * 64 ≤ reachBytes
  ret : q.ret.length * 24 ≤ reachBytes
  rets : ∀ t ∈ q.ret, t.length * 64 ≤ reachBytes
theorem opens_31 : Opens Tryd.prog 31 dQu QuOk0 := by
  refine Opens.conv (Opens.struct Tryd.underlying31 (tot := 7) (by kernel_rfl) (OpensF.cons rfl (n := 1) (by kernel_rfl) (by decide) opens_25 (OpensF.cons rfl (n := 1) (by kernel_rfl) (by decide) opens_26 (OpensF.cons rfl (n := 1) (by kernel_rfl) (by decide) opens_27 (OpensF.cons rfl (n := 1) (by kernel_rfl) (by decide) opens_28 (OpensF.cons rfl (n := 1) (by kernel_rfl) (by decide) opens_i2 (OpensF.cons rfl (n := 1) (by kernel_rfl) (by decide) opens_s (OpensF.one rfl (by kernel_rfl) opens_29)))))))) fun h l x e ok => ?_
  obtain ⟨x1, x2, x3, x4, x5, x6, x7⟩ := x
  obtain ⟨o1, o2, o3, o4, o5, o6, o7⟩ := ok
  obtain ⟨e1, e⟩ := pair_run e
  obtain ⟨e2, e⟩ := pair_run e
  obtain ⟨e3, e⟩ := pair_run e
  obtain ⟨e4, e⟩ := pair_run e
  obtain ⟨e5, e⟩ := pair_run e
  obtain ⟨e6, e7⟩ := pair_run e
  obtain ⟨a, ha⟩ := sl_one e1
  obtain ⟨b, hb⟩ := sl_one e4
  obtain ⟨c, hc⟩ := sl_one e7
  have h1 := tk_cons ha
  have h2 := tk_cons (int_flat .i64 _ _ _ e2)
  have h3 := tk_cons (int_flat .i64 _ _ _ e3)
  have h4 := tk_cons hb
  have h5 := tk_cons (int_flat .i64 _ _ _ e5)
  have h6 := tk_cons (str_flat _ _ _ e6)
  rw [ha] at e1
  rw [hb] at e4
  rw [hc] at e7
  have e1' : rd dIts h a = some x1 := e1
  have e4' : rd dNs h b = some x4 := e4
  have e7' : rd dNss h c = some x7 := e7
  refine ⟨⟨x1, x2, x3, x4, x5, x6, x7⟩, ?_, o1.1, o4.1, o7.1, fun t ht => (o7.2 t ht).1⟩
  rw [h1, h2, h3, h4, h5, h6, hc]
  exact deQ_in (q := ⟨x1, x2, x3, x4, x5, x6, x7⟩) e1' e4' e7'
end Go.Proofs.YtkfphaphiikloaaDoor

/-
  CONTEXTS IN WHICH BOTH OUTCOMES OF AN APPEND ARE ASKED FOR: in its place, and moved.
-/
namespace Go.Proofs.YtkfphaphiikloaaDoor
open Go Go.Eng

noncomputable def cz (S : List Nat) (pf : FuncId → Option (List AV → Heap → PRes)) : Ctx := ⟨Tryd.prog, ti, globS S, pf, true⟩
section
variable (S : List Nat) (pf : FuncId → Option (List AV → Heap → PRes))
theorem cz_ti : (cz S pf).ti = ti := rfl
theorem cz_G : (cz S pf).G = globS S := rfl
theorem cz_pf : (cz S pf).pf = pf := rfl
theorem cz_tw : (cz S pf).two = true := rfl
theorem cz_two (ops : Array Oper) (o : Oper) (e : Nat → AV) (h : Heap) (i : Nat) : twoO (cz S pf) ops o e h i = match o.guard with
    | none => two (cz S pf) o.op (ev e) h i
    | some _ => none := twoO_on rfl ops o e h i
theorem mixed_z : (cz S pf).P.follows .mixedOrders = true := mixed S pf
theorem ty_z (t : TypeId) (h : ((cz S pf).ti t).d ≠ .other) : TyOk (cz S pf) t :=
  let k := tyOk S pf t h
  ⟨k.info, k.zlen, k.zone, k.desc⟩
end
theorem glob_sub {S S' : List Nat} (hs : ∀ x ∈ S, x ∈ S') : ∀ g cs, globS S g = some cs → globS S' g = some cs := fun g cs hg => by
  simp only [globS] at hg ⊢
  by_cases hm : g ∈ S
  · rw [if_pos hm] at hg; rw [if_pos (hs g hm)]; exact hg
  · rw [if_neg hm] at hg; cases hg
theorem pure_z {S S' : List Nat} {pf pf' : FuncId → Option (List AV → Heap → PRes)} (hs : ∀ x ∈ S, x ∈ S') {f : FuncId} {g : List AV → Heap → PRes} (h : PureOk (cx S pf) f g) : PureOk (cz S' pf') f g :=
  ⟨h.1, h.2.imp (fun h => ⟨h.1, fun ρ hh w args vs r => h.2 ρ hh w args vs ⟨fun g cs hg => r.glob g cs (glob_sub hs g cs hg), r.blk⟩⟩) fun h => h⟩
theorem pfZ_ok {S : List Nat} {l : List (FuncId × (List AV → Heap → PRes))} (h : TbOk S l) : Ok (cz S (pfL l)) :=
  ⟨ty_z S _, fun f g hf => pure_z (fun _ hx => hx) ((pfL_ok h).pf f g hf)⟩
theorem acall_z {S S' : List Nat} {pf pf' : FuncId → Option (List AV → Heap → PRes)} (hs : ∀ x ∈ S, x ∈ S') {f : FuncId} {args : List AV} {h : Heap} {n : Nat} {Q : AV → Heap → Nat → Prop} (k : ACall (cx S pf) f args h n Q) : ACall (cz S' pf') f args h n Q := by
  refine ⟨k.1, fun K w0 ρ w vs r hv => ?_⟩
  have r0 : Rel (cx S pf) K w0 ρ (n ≤ ·) h w := ⟨r.os, r.tape, r.output, r.size, r.keep, r.kold, fun g cs hg => r.glob g cs (glob_sub hs g cs hg), r.blk, r.apart, r.mine, r.free, r.vers⟩
  refine (k.2 K w0 ρ w vs r0 hv).mono fun e w' ⟨y, h1, ρ2, z, h', n', h2, h3, r2, h5⟩ => ⟨y, h1, ρ2, z, h', n', h2, h3, ⟨r2.os, r2.tape, r2.output, r2.size, r2.keep, r2.kold, fun g cs hg => ?_, r2.blk, r2.apart, r2.mine, r2.free, r2.vers⟩, h5⟩
  obtain ⟨g1, arr, el, fr, g2, g3⟩ := r.glob g cs hg
  exact ⟨g1, arr, el, fr, by rw [r2.keep g g1, ← r.keep g g1]; exact g2, g3⟩
theorem acall_zz {S S' : List Nat} {pf pf' : FuncId → Option (List AV → Heap → PRes)} (hs : ∀ x ∈ S, x ∈ S') {f : FuncId} {args : List AV} {h : Heap} {n : Nat} {Q : AV → Heap → Nat → Prop} (k : ACall (cz S pf) f args h n Q) : ACall (cz S' pf') f args h n Q := by
  refine ⟨k.1, fun K w0 ρ w vs r hv => ?_⟩
  have r0 : Rel (cz S pf) K w0 ρ (n ≤ ·) h w := ⟨r.os, r.tape, r.output, r.size, r.keep, r.kold, fun g cs hg => r.glob g cs (glob_sub hs g cs hg), r.blk, r.apart, r.mine, r.free, r.vers⟩
  refine (k.2 K w0 ρ w vs r0 hv).mono fun e w' ⟨y, h1, ρ2, z, h', n', h2, h3, r2, h5⟩ => ⟨y, h1, ρ2, z, h', n', h2, h3, ⟨r2.os, r2.tape, r2.output, r2.size, r2.keep, r2.kold, fun g cs hg => ?_, r2.blk, r2.apart, r2.mine, r2.free, r2.vers⟩, h5⟩
  obtain ⟨g1, arr, el, fr, g2, g3⟩ := r.glob g cs hg
  exact ⟨g1, arr, el, fr, by rw [r2.keep g g1, ← r.keep g g1]; exact g2, g3⟩
end Go.Proofs.YtkfphaphiikloaaDoor
