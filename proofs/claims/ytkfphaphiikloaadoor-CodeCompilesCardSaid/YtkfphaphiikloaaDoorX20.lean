/-
  TREES, PART C: queries; the item of a variable, on both sides; how deep a query's trees are.
-/
import Derived.Test.YtkfphaphiikloaaDoorX19
import Derived.Test.YtkfphaphiikloaaDoorX16
set_option linter.unusedSimpArgs false
set_option linter.unusedVariables false
set_option linter.constructorNameAsVariable false
namespace Go.Proofs.YtkfphaphiikloaaDoor
open Go Go.Eng

structure It where
  neg : Bool
  types : List ByteArray
  var : ByteArray
  lo : Int
  hi : Int
def dSs : De (List ByteArray) := De.sl 1 De.str
def deItc (h : Heap) : List AV → Option It
  | [.v (.bool neg), ty, .v (.string var), .v (.int .i64 lo), .v (.int .i64 hi)] => (rd dSs h ty).map fun tys => ⟨neg, tys, var, lo, hi⟩
  | _ => none
theorem deItc_out {h : Heap} {l : List AV} {x : It} (e : deItc h l = some x) : ∃ ty, l = [bv x.neg, ty, ss x.var, ii x.lo, ii x.hi] ∧ rd dSs h ty = some x.types := by
  unfold deItc at e
  split at e
  · simp only [Option.map_eq_some_iff] at e
    obtain ⟨t, h1, rfl⟩ := e
    exact ⟨_, rfl, h1⟩
  · cases e
theorem deItc_in {h : Heap} {ty : AV} {x : It} (e : rd dSs h ty = some x.types) : deItc h [bv x.neg, ty, ss x.var, ii x.lo, ii x.hi] = some x := by
  simp only [deItc, bv, ss, ii, e, Option.map_some]
def dIt : De It where
  run h l := deItc h l
  sim {h h' l x} hh e := by
    obtain ⟨ty, rfl, h1⟩ := deItc_out e
    exact deItc_in (rd_sim hh h1)
def dIts : De (List It) := De.sl 5 dIt
theorem its_at {h : Heap} {a : AV} {l : List It} (e : rd dIts h a = some l) : (l = [] ∧ (a = .v (.slice none 0 0) ∨ a = .e)) ∨
    ∃ id off k, a = .s id k.ver off l.length ∧ h id = some k ∧ off + l.length * 5 ≤ k.cells.length ∧ ∀ i (hi : i < l.length), k.cells[off + (i * 5 + 2)]? = some (ss l[i].var) := by
  rcases sl_at e with h0 | ⟨id, off, k, h1, h2, h3, h4⟩
  · exact .inl h0
  · refine .inr ⟨id, off, k, h1, h2, h3, fun i hi => ?_⟩
    obtain ⟨ty, h5, _⟩ := deItc_out (h4 i hi)
    have := cell_of (c := 2) h5 rfl (by omega)
    rwa [Nat.add_assoc] at this
def dNss : De (List (List Nd)) := De.sl 1 dNs
structure Qu where
  items : List It
  mode : Int
  after : Int
  wh : List Nd
  within : Int
  par : ByteArray
  ret : List (List Nd)
def deQ (h : Heap) : AV → Option Qu
  | .g [a, .v (.int .i64 m), .v (.int .i64 f), b, .v (.int .i64 w), .v (.string p), c] => match rd dIts h a, rd dNs h b, rd dNss h c with
    | some x, some y, some z => some ⟨x, m, f, y, w, p, z⟩
    | _, _, _ => none
  | _ => none
theorem deQ_out {h : Heap} {x : AV} {q : Qu} (e : deQ h x = some q) : ∃ a b c, x = .g [a, ii q.mode, ii q.after, b, ii q.within, ss q.par, c] ∧ rd dIts h a = some q.items ∧ rd dNs h b = some q.wh ∧ rd dNss h c = some q.ret := by
  unfold deQ at e
  split at e
  · split at e
    · rename_i e1 e2 e3
      cases e
      exact ⟨_, _, _, rfl, e1, e2, e3⟩
    · cases e
  · cases e
theorem deQ_in {h : Heap} {a b c : AV} {q : Qu} (h1 : rd dIts h a = some q.items) (h2 : rd dNs h b = some q.wh) (h3 : rd dNss h c = some q.ret) : deQ h (.g [a, ii q.mode, ii q.after, b, ii q.within, ss q.par, c]) = some q := by
  simp only [deQ, ii, ss, h1, h2, h3]
theorem deQ_sim {h h' : Heap} (hh : h.sim h') {x : AV} {q : Qu} (e : deQ h x = some q) : deQ h' x = some q := by
  obtain ⟨a, b, c, rfl, e1, e2, e3⟩ := deQ_out e
  exact deQ_in (rd_sim hh e1) (rd_sim hh e2) (rd_sim hh e3)
theorem q_agree {h : Heap} {n : Nat} {a : AV} {x : Qu} (hn : ∀ i, n ≤ i → h i = none) (e : deQ h a = some x) : ∀ h', agree n (roH h) h' → deQ h' a = some x := fun _ ha => deQ_sim (agree_sim hn ha) e

/-! ### the first of a name -/
theorem fi_hit {l : List ByteArray} {v : ByteArray} {j : Nat} (hj : j < l.length) (hno : ∀ i, i < j → (l.getD i ByteArray.empty == v) = false) (hh : (l.getD j ByteArray.empty == v) = true) : l.findIdx (· == v) = j := by
  rw [List.findIdx_eq hj]
  have hg : ∀ i (hi : i < l.length), l.getD i ByteArray.empty = l[i] := fun i hi => by rw [List.getD_eq_getElem?_getD, List.getElem?_eq_getElem hi]; rfl
  refine ⟨by rw [hg j hj] at hh; exact hh, fun i hi => ?_⟩
  have := hno i hi
  rw [hg i (by omega)] at this
  exact this
theorem fi_none {l : List ByteArray} {v : ByteArray} (hno : ∀ i, i < l.length → (l.getD i ByteArray.empty == v) = false) : l.findIdx (· == v) = l.length := by
  rw [List.findIdx_eq_length]
  intro x hx
  obtain ⟨i, hi, rfl⟩ := List.mem_iff_getElem.1 hx
  have := hno i hi
  rw [List.getD_eq_getElem?_getD, List.getElem?_eq_getElem hi] at this
  exact this
def vars (l : List It) : List ByteArray := l.map (·.var)
def ixOf (l : List ByteArray) (v : ByteArray) : Int := if l.findIdx (· == v) < l.length then l.findIdx (· == v) else -1
def deQS (h : Heap) : List AV → Option (Qu × ByteArray)
  | [x, .v (.string v)] => (deQ h x).map fun q => (q, v)
  | _ => none
theorem deQS_out {h : Heap} {args : List AV} {q : Qu × ByteArray} (e : deQS h args = some q) : ∃ x, args = [x, ss q.2] ∧ deQ h x = some q.1 := by
  unfold deQS at e
  split at e
  · simp only [Option.map_eq_some_iff] at e
    obtain ⟨t, h1, rfl⟩ := e
    exact ⟨_, rfl, h1⟩
  · cases e
theorem deQS_in {h : Heap} {x : AV} {q : Qu} {v : ByteArray} (e : deQ h x = some q) : deQS h [x, .v (.string v)] = some (q, v) := by simp only [deQS, e, Option.map_some]
theorem deQS_mono (h h' : Heap) (args : List AV) (q : Qu × ByteArray) (hh : h.le h') (e : deQS h args = some q) : deQS h' args = some q := by
  obtain ⟨x, rfl, e1⟩ := deQS_out e
  exact deQS_in (deQ_sim hh.sim e1)
def G91 := pureH deQS (fun q => q.1.items.length < big) fun q => .t [ii (if ixOf (vars q.1.items) q.2 < 0 then 0 else ixOf (vars q.1.items) q.2), bv (decide (0 ≤ ixOf (vars q.1.items) q.2))]
def G96 := pureH deQS (fun q => q.1.items.length < big) fun q => ii (ixOf (vars q.1.items) q.2)
set_option maxRecDepth 100000 in
set_option maxHeartbeats 1000000 in
theorem P91 : P0 [] 91 G91 := by
  refine mkH 2 (S := []) (l := []) tb_nil Tryd.func91 rfl (by kernel_rfl) deQS_mono (fun h l x e => by obtain ⟨a, rfl, _⟩ := deQS_out e; exact Nat.le_refl _) (fun a => rfl) (fun args q h n e hp hn => ?_)
  obtain ⟨x, rfl, e1⟩ := deQS_out e
  obtain ⟨a, b, c, rfl, e2, e3, e4⟩ := deQ_out e1
  obtain ⟨q, v⟩ := q
  simp only [] at e2 e3 e4 hp ⊢
  obtain ⟨s1, s2, s3, s4, s5⟩ := sl_is e2
  have hl : (vars q.items).length = q.items.length := by simp [vars]
  have o2 := (sl_is e3).2.2.2.1
  have o3 := (sl_is e4).2.2.2.1
  have hgv : ∀ j (hj : j < q.items.length), (vars q.items).getD j ByteArray.empty = q.items[j].var := fun j hj => by rw [List.getD_eq_getElem?_getD, vars, List.getElem?_map, List.getElem?_eq_getElem hj]; rfl
  have key : ∀ e : Nat → AV, e 0 = .g [a, ii q.mode, ii q.after, b, ii q.within, ss q.par, c] → e 1 = ss v → awp (cx [] (pfL [])) (Tryd.f91.body.getD .skip) (finQ (cx [] (pfL [])) Tryd.f91 fun z _ _ => z = .t [ii (if ixOf (vars q.items) v < 0 then 0 else ixOf (vars q.items) v), bv (decide (0 ≤ ixOf (vars q.items) v))]) ⟨e, roH h, n⟩ := fun e q0 q1 => by
    simp [evs, resAll, resVal, resOne, freeOp, isA, goOp, appNew, mkOp, gev, Region.binds, aop, aeval, gocall, heapOp, quietOp, ev, constAV, setd, yav, ystop, up, env0, cx_ti, cx_G, cx_pf, ti, globS, glob, pfL, lds, ldc, ldcs_1, ldcs_2, ldcs_3, ldcs_4, ldcs_5, ldcs_7, sts, sth, sls.eq_1, slc.eq_1, wr, place, fillOk, fillC, repZ, binI, isDiv, optInt, optI, eksOk, eksEq, EK.ok, EK.eq, AV.i, AV.isI, AV.isInt, AV.str, AV.isStr, AV.ones, AV.isPtr, AV.gl, AV.isG, Value.oneCell', Tryd.f91, q0, q1, ii, ss, s1, s2, s3, s4, o2, o3]
    refine awp_loop (fun s => ∃ j : Nat, j ≤ q.items.length ∧ s.e 1 = ss v ∧ s.e 2 = .p n 0 0 ∧ s.e 9 = ii q.items.length ∧ s.e 10 = ii j ∧ agree n (roH h) s.h ∧ s.h n = some ⟨[a, ii q.mode, ii q.after, b, ii q.within, ss q.par, c], 0, true, 7⟩ ∧ ∀ i, i < j → ((vars q.items).getD i ByteArray.empty == v) = false) (fun s => q.items.length - (s.e 10).i.toNat) ⟨0, by simp [up, q1, ii, ss, agree_up, agree_refl]⟩ ?_
    rintro e' h' n' ⟨j, hj, q1, q2, q9, q10, hag, hbk, hno⟩
    simp only [] at q1 q2 q9 q10 hag hbk
    by_cases hlt : j < q.items.length
    · rcases its_at e2 with ⟨h0, _⟩ | ⟨id, off, k, rfl, hk, ho, hat⟩
      · rw [h0] at hlt; simp at hlt
      have hr := hat j hlt
      have ha' := agree_at hn hk hag
      have hw := wrap_nat (j := j) (by omega)
      have hw1 : off + (j * 5 + 3) ≤ k.cells.length := by omega
      have hgj := hgv j hlt
      generalize q.items[j].var = y at *
      cases hy : (y == v) with
      | true =>
        have hf := fi_hit (v := v) (by rw [hl]; exact hlt) hno (by rw [hgj]; exact hy)
        have h1 : ixOf (vars q.items) v = (j : Int) := by rw [ixOf, hf, if_pos (by rw [hl]; exact hlt)]
        have h2 : ¬ (j : Int) < 0 := by omega
        simp [evs, resAll, resVal, resOne, freeOp, isA, goOp, appNew, mkOp, gev, Region.binds, aop, aeval, gocall, heapOp, quietOp, ev, constAV, setd, yav, ystop, up, env0, cx_ti, cx_G, cx_pf, ti, globS, glob, pfL, lds, ldc, ldcs_1, ldcs_2, ldcs_3, ldcs_4, ldcs_5, ldcs_7, sts, sth, sls.eq_1, slc.eq_1, wr, place, fillOk, fillC, repZ, binI, isDiv, optInt, optI, eksOk, eksEq, EK.ok, EK.eq, AV.i, AV.isI, AV.isInt, AV.str, AV.isStr, AV.ones, AV.isPtr, AV.gl, AV.isG, Value.oneCell', q1, q2, q9, q10, ii, ss, hlt, hbk, ha', hr, hw1, hy, h1, h2, bv]
      | false =>
        simp [evs, resAll, resVal, resOne, freeOp, isA, goOp, appNew, mkOp, gev, Region.binds, aop, aeval, gocall, heapOp, quietOp, ev, constAV, setd, yav, ystop, up, env0, cx_ti, cx_G, cx_pf, ti, globS, glob, pfL, lds, ldc, ldcs_1, ldcs_2, ldcs_3, ldcs_4, ldcs_5, ldcs_7, sts, sth, sls.eq_1, slc.eq_1, wr, place, fillOk, fillC, repZ, binI, isDiv, optInt, optI, eksOk, eksEq, EK.ok, EK.eq, AV.i, AV.isI, AV.isInt, AV.str, AV.isStr, AV.ones, AV.isPtr, AV.gl, AV.isG, Value.oneCell', q1, q2, q9, q10, ii, ss, hlt, hbk, ha', hr, hw1, hy, hw, hag]
        refine ⟨⟨j + 1, by omega, by omega, fun i hi => ?_⟩, by omega⟩
        by_cases e : i = j
        · subst e; rw [← List.getD_eq_getElem?_getD, hgj]; exact hy
        · have := hno i (by omega); rwa [List.getD_eq_getElem?_getD] at this
    · obtain rfl : j = q.items.length := by omega
      have hf := fi_none (v := v) (l := vars q.items) (by rw [hl]; exact hno)
      have h1 : ixOf (vars q.items) v = -1 := by rw [ixOf, hf, if_neg (by omega)]
      simp [evs, resAll, resVal, resOne, freeOp, isA, goOp, appNew, mkOp, gev, Region.binds, aop, aeval, gocall, heapOp, quietOp, ev, constAV, setd, yav, ystop, up, env0, cx_ti, cx_G, cx_pf, ti, globS, glob, pfL, lds, ldc, ldcs_1, ldcs_2, ldcs_3, ldcs_4, ldcs_5, ldcs_7, sts, sth, sls.eq_1, slc.eq_1, wr, place, fillOk, fillC, repZ, binI, isDiv, optInt, optI, eksOk, eksEq, EK.ok, EK.eq, AV.i, AV.isI, AV.isInt, AV.str, AV.isStr, AV.ones, AV.isPtr, AV.gl, AV.isG, Value.oneCell', q1, q2, q9, q10, ii, h1, bv]
  exact key _ rfl rfl
set_option maxRecDepth 100000 in
set_option maxHeartbeats 1000000 in
theorem P96 : P0 [] 96 G96 := by
  refine mkH 2 (S := []) (l := []) tb_nil Tryd.func96 rfl (by kernel_rfl) deQS_mono (fun h l x e => by obtain ⟨a, rfl, _⟩ := deQS_out e; exact Nat.le_refl _) (fun a => rfl) (fun args q h n e hp hn => ?_)
  obtain ⟨x, rfl, e1⟩ := deQS_out e
  obtain ⟨a, b, c, rfl, e2, e3, e4⟩ := deQ_out e1
  obtain ⟨q, v⟩ := q
  simp only [] at e2 e3 e4 hp ⊢
  obtain ⟨s1, s2, s3, s4, s5⟩ := sl_is e2
  have hl : (vars q.items).length = q.items.length := by simp [vars]
  have o2 := (sl_is e3).2.2.2.1
  have o3 := (sl_is e4).2.2.2.1
  have hgv : ∀ j (hj : j < q.items.length), (vars q.items).getD j ByteArray.empty = q.items[j].var := fun j hj => by rw [List.getD_eq_getElem?_getD, vars, List.getElem?_map, List.getElem?_eq_getElem hj]; rfl
  have key : ∀ e : Nat → AV, e 0 = .g [a, ii q.mode, ii q.after, b, ii q.within, ss q.par, c] → e 1 = ss v → awp (cx [] (pfL [])) (Tryd.f96.body.getD .skip) (finQ (cx [] (pfL [])) Tryd.f96 fun z _ _ => z = ii (ixOf (vars q.items) v)) ⟨e, roH h, n⟩ := fun e q0 q1 => by
    simp [evs, resAll, resVal, resOne, freeOp, isA, goOp, appNew, mkOp, gev, Region.binds, aop, aeval, gocall, heapOp, quietOp, ev, constAV, setd, yav, ystop, up, env0, cx_ti, cx_G, cx_pf, ti, globS, glob, pfL, lds, ldc, ldcs_1, ldcs_2, ldcs_3, ldcs_4, ldcs_5, ldcs_7, sts, sth, sls.eq_1, slc.eq_1, wr, place, fillOk, fillC, repZ, binI, isDiv, optInt, optI, eksOk, eksEq, EK.ok, EK.eq, AV.i, AV.isI, AV.isInt, AV.str, AV.isStr, AV.ones, AV.isPtr, AV.gl, AV.isG, Value.oneCell', Tryd.f96, q0, q1, ii, ss, s1, s2, s3, s4, o2, o3]
    refine awp_loop (fun s => ∃ j : Nat, j ≤ q.items.length ∧ s.e 1 = ss v ∧ s.e 2 = .p n 0 0 ∧ s.e 5 = ii j ∧ agree n (roH h) s.h ∧ s.h n = some ⟨[a, ii q.mode, ii q.after, b, ii q.within, ss q.par, c], 0, true, 7⟩ ∧ ∀ i, i < j → ((vars q.items).getD i ByteArray.empty == v) = false) (fun s => q.items.length - (s.e 5).i.toNat) ⟨0, by simp [up, q1, ii, ss, agree_up, agree_refl]⟩ ?_
    rintro e' h' n' ⟨j, hj, q1, q2, q10, hag, hbk, hno⟩
    simp only [] at q1 q2 q10 hag hbk
    by_cases hlt : j < q.items.length
    · rcases its_at e2 with ⟨h0, _⟩ | ⟨id, off, k, rfl, hk, ho, hat⟩
      · rw [h0] at hlt; simp at hlt
      have hr := hat j hlt
      have ha' := agree_at hn hk hag
      have hw := wrap_nat (j := j) (by omega)
      have hw1 : off + (j * 5 + 3) ≤ k.cells.length := by omega
      have hgj := hgv j hlt
      generalize q.items[j].var = y at *
      cases hy : (y == v) with
      | true =>
        have hf := fi_hit (v := v) (by rw [hl]; exact hlt) hno (by rw [hgj]; exact hy)
        have h1 : ixOf (vars q.items) v = (j : Int) := by rw [ixOf, hf, if_pos (by rw [hl]; exact hlt)]
        simp [evs, resAll, resVal, resOne, freeOp, isA, goOp, appNew, mkOp, gev, Region.binds, aop, aeval, gocall, heapOp, quietOp, ev, constAV, setd, yav, ystop, up, env0, cx_ti, cx_G, cx_pf, ti, globS, glob, pfL, lds, ldc, ldcs_1, ldcs_2, ldcs_3, ldcs_4, ldcs_5, ldcs_7, sts, sth, sls.eq_1, slc.eq_1, wr, place, fillOk, fillC, repZ, binI, isDiv, optInt, optI, eksOk, eksEq, EK.ok, EK.eq, AV.i, AV.isI, AV.isInt, AV.str, AV.isStr, AV.ones, AV.isPtr, AV.gl, AV.isG, Value.oneCell', q1, q2, q10, ii, ss, hlt, hbk, ha', hr, hw1, hy, h1, bv]
      | false =>
        simp [evs, resAll, resVal, resOne, freeOp, isA, goOp, appNew, mkOp, gev, Region.binds, aop, aeval, gocall, heapOp, quietOp, ev, constAV, setd, yav, ystop, up, env0, cx_ti, cx_G, cx_pf, ti, globS, glob, pfL, lds, ldc, ldcs_1, ldcs_2, ldcs_3, ldcs_4, ldcs_5, ldcs_7, sts, sth, sls.eq_1, slc.eq_1, wr, place, fillOk, fillC, repZ, binI, isDiv, optInt, optI, eksOk, eksEq, EK.ok, EK.eq, AV.i, AV.isI, AV.isInt, AV.str, AV.isStr, AV.ones, AV.isPtr, AV.gl, AV.isG, Value.oneCell', q1, q2, q10, ii, ss, hlt, hbk, ha', hr, hw1, hy, hw, hag]
        refine ⟨⟨j + 1, by omega, by omega, fun i hi => ?_⟩, by omega⟩
        by_cases e : i = j
        · subst e; rw [← List.getD_eq_getElem?_getD, hgj]; exact hy
        · have := hno i (by omega); rwa [List.getD_eq_getElem?_getD] at this
    · obtain rfl : j = q.items.length := by omega
      have hf := fi_none (v := v) (l := vars q.items) (by rw [hl]; exact hno)
      have h1 : ixOf (vars q.items) v = -1 := by rw [ixOf, hf, if_neg (by omega)]
      simp [evs, resAll, resVal, resOne, freeOp, isA, goOp, appNew, mkOp, gev, Region.binds, aop, aeval, gocall, heapOp, quietOp, ev, constAV, setd, yav, ystop, up, env0, cx_ti, cx_G, cx_pf, ti, globS, glob, pfL, lds, ldc, ldcs_1, ldcs_2, ldcs_3, ldcs_4, ldcs_5, ldcs_7, sts, sth, sls.eq_1, slc.eq_1, wr, place, fillOk, fillC, repZ, binI, isDiv, optInt, optI, eksOk, eksEq, EK.ok, EK.eq, AV.i, AV.isI, AV.isInt, AV.str, AV.isStr, AV.ones, AV.isPtr, AV.gl, AV.isG, Value.oneCell', q1, q2, q10, ii, h1, bv, hbk, s1, s2, s3]
  exact key _ rfl rfl
end Go.Proofs.YtkfphaphiikloaaDoor

/-
  TREES, PART D: how deep a query's trees are; the place of an attribute, on both sides.
-/
namespace Go.Proofs.YtkfphaphiikloaaDoor
open Go Go.Eng

def deQ1 (h : Heap) : List AV → Option Qu
  | [x] => deQ h x
  | _ => none
theorem deQ1_out {h : Heap} {args : List AV} {q : Qu} (e : deQ1 h args = some q) : ∃ x, args = [x] ∧ deQ h x = some q := by
  unfold deQ1 at e
  split at e
  · exact ⟨_, rfl, e⟩
  · cases e
theorem deQ1_mono (h h' : Heap) (args : List AV) (q : Qu) (hh : h.le h') (e : deQ1 h args = some q) : deQ1 h' args = some q := by
  obtain ⟨x, rfl, e1⟩ := deQ1_out e
  exact deQ_sim hh.sim e1
def qdeepTo (q : Qu) (j : Nat) : Bool := deepB q.wh || (q.ret.take j).any deepB
def qdeep (q : Qu) : Bool := qdeepTo q q.ret.length
theorem qdeep_succ {q : Qu} {j : Nat} (hj : j < q.ret.length) : qdeepTo q (j + 1) = (qdeepTo q j || deepB q.ret[j]) := by
  unfold qdeepTo
  rw [List.take_add_one, List.getElem?_eq_getElem hj, List.any_append, Option.toList_some]
  simp [Bool.or_assoc]
def G14 := pureH deQ1 (fun q => smallT q.wh ∧ q.ret.length < big ∧ ∀ t ∈ q.ret, smallT t) fun q => bv (qdeep q)
def tb14 : List (FuncId × (List AV → Heap → PRes)) := [(15, G15)]
set_option maxRecDepth 100000 in
set_option maxHeartbeats 1000000 in
theorem P14 : P0 [] 14 G14 := by
  refine mkH 1 (S := []) (l := tb14) (tb_cons P15 tb_nil) Tryd.func14 rfl (by kernel_rfl) deQ1_mono (fun h l x e => by obtain ⟨a, rfl, _⟩ := deQ1_out e; exact Nat.le_refl _) (fun a => rfl) (fun args q h n e hp hn => ?_)
  obtain ⟨x, rfl, e1⟩ := deQ1_out e
  obtain ⟨a, b, c, rfl, e2, e3, e4⟩ := deQ_out e1
  obtain ⟨hsw, hrb, hsr⟩ := hp
  obtain ⟨s1, s2, s3, s4, s5⟩ := sl_is e4
  have o1 := (sl_is e2).2.2.2.1
  have o2 := (sl_is e3).2.2.2.1
  have g3 := rd_agree hn e3
  have key : ∀ e : Nat → AV, e 0 = .g [a, ii q.mode, ii q.after, b, ii q.within, ss q.par, c] → awp (cx [] (pfL tb14)) (Tryd.f14.body.getD .skip) (finQ (cx [] (pfL tb14)) Tryd.f14 fun z _ _ => z = bv (qdeep q)) ⟨e, roH h, n⟩ := fun e q0 => by
    simp [evs, resAll, resVal, resOne, freeOp, isA, goOp, appNew, mkOp, gev, Region.binds, aop, aeval, gocall, heapOp, quietOp, ev, constAV, setd, yav, ystop, up, env0, cx_ti, cx_G, cx_pf, ti, globS, glob, pfL, lds, ldc, ldcs_1, ldcs_2, ldcs_3, ldcs_4, ldcs_5, ldcs_7, sts, sth, sls.eq_1, slc.eq_1, wr, place, fillOk, fillC, repZ, binI, isDiv, optInt, optI, eksOk, eksEq, EK.ok, EK.eq, AV.i, AV.isI, AV.isInt, AV.str, AV.isStr, AV.ones, AV.isPtr, AV.gl, AV.isG, Value.oneCell', Tryd.f14, q0, ii, ss, s1, s2, s3, s4, o1, o2, tb14, G15, pureH, deT, g3, agree_up, agree_refl, hsw]
    refine awp_loop (fun s => ∃ j : Nat, j ≤ q.ret.length ∧ s.e 1 = .p n 0 0 ∧ s.e 3 = bv (qdeepTo q j) ∧ s.e 4 = ii j ∧ agree n (roH h) s.h ∧ s.h n = some ⟨[a, ii q.mode, ii q.after, b, ii q.within, ss q.par, c], 0, true, 7⟩) (fun s => q.ret.length - (s.e 4).i.toNat) ⟨0, by simp [up, ii, ss, agree_up, agree_refl, qdeepTo]⟩ ?_
    rintro e' h' n' ⟨j, hj, q1, q3, q4, hag, hbk⟩
    simp only [] at q1 q3 q4 hag hbk
    by_cases hlt : j < q.ret.length
    · rcases sls_at e4 with ⟨h0, _⟩ | ⟨id, off, k, rfl, hk, ho, hat⟩
      · rw [h0] at hlt; simp at hlt
      obtain ⟨c', hc, hcr⟩ := hat j hlt
      have u3 := (sl_is hcr).2.2.1
      have gr : ∀ h', agree n (roH h) h' → rd dNs h' c' = some q.ret[j] := rd_agree hn hcr
      have ha' := agree_at hn hk hag
      have hw := wrap_nat (j := j) (by omega)
      have hw1 : off + (j + 1) ≤ k.cells.length := by omega
      have hsu := qdeep_succ hlt
      have hsm := hsr _ (List.getElem_mem hlt)
      generalize q.ret[j] = t at *
      generalize hqd : qdeepTo q j = d at *
      cases d <;> simp [evs, resAll, resVal, resOne, freeOp, isA, goOp, appNew, mkOp, gev, Region.binds, aop, aeval, gocall, heapOp, quietOp, ev, constAV, setd, yav, ystop, up, env0, cx_ti, cx_G, cx_pf, ti, globS, glob, pfL, lds, ldc, ldcs_1, ldcs_2, ldcs_3, ldcs_4, ldcs_5, ldcs_7, sts, sth, sls.eq_1, slc.eq_1, wr, place, fillOk, fillC, repZ, binI, isDiv, optInt, optI, eksOk, eksEq, EK.ok, EK.eq, AV.i, AV.isI, AV.isInt, AV.str, AV.isStr, AV.ones, AV.isPtr, AV.gl, AV.isG, Value.oneCell', q1, q3, q4, ii, bv, hlt, hbk, ha', hc, hw1, tb14, G15, pureH, deT, gr, hag, hsm, hw, u3]
      · exact ⟨⟨j + 1, by omega, by rw [hsu]; rfl, by omega⟩, by omega⟩
      · exact ⟨⟨j + 1, by omega, by rw [hsu]; rfl, by omega⟩, by omega⟩
    · obtain rfl : j = q.ret.length := by omega
      simp [evs, resAll, resVal, resOne, freeOp, isA, goOp, appNew, mkOp, gev, Region.binds, aop, aeval, gocall, heapOp, quietOp, ev, constAV, setd, yav, ystop, up, env0, cx_ti, cx_G, cx_pf, ti, globS, glob, pfL, lds, ldc, ldcs_1, ldcs_2, ldcs_3, ldcs_4, ldcs_5, ldcs_7, sts, sth, sls.eq_1, slc.eq_1, wr, place, fillOk, fillC, repZ, binI, isDiv, optInt, optI, eksOk, eksEq, EK.ok, EK.eq, AV.i, AV.isI, AV.isInt, AV.str, AV.isStr, AV.ones, AV.isPtr, AV.gl, AV.isG, Value.oneCell', q1, q3, q4, ii, hbk, s1, s2, s3, qdeep, bv]
  exact key _ rfl

/-! ### schemas -/
structure Ty where
  name : ByteArray
  attrs : List ByteArray
def deTyc (h : Heap) : List AV → Option Ty
  | [.v (.string n), a] => (rd dSs h a).map fun l => ⟨n, l⟩
  | _ => none
theorem deTyc_out {h : Heap} {l : List AV} {x : Ty} (e : deTyc h l = some x) : ∃ a, l = [ss x.name, a] ∧ rd dSs h a = some x.attrs := by
  unfold deTyc at e
  split at e
  · simp only [Option.map_eq_some_iff] at e
    obtain ⟨t, h1, rfl⟩ := e
    exact ⟨_, rfl, h1⟩
  · cases e
theorem deTyc_in {h : Heap} {a : AV} {x : Ty} (e : rd dSs h a = some x.attrs) : deTyc h [ss x.name, a] = some x := by
  simp only [deTyc, ss, e, Option.map_some]
def dTy : De Ty where
  run h l := deTyc h l
  sim {h h' l x} hh e := by
    obtain ⟨ty, rfl, h1⟩ := deTyc_out e
    exact deTyc_in (rd_sim hh h1)
def dTys : De (List Ty) := De.sl 2 dTy
theorem tys_at {h : Heap} {a : AV} {l : List Ty} (e : rd dTys h a = some l) : (l = [] ∧ (a = .v (.slice none 0 0) ∨ a = .e)) ∨
    ∃ id off k, a = .s id k.ver off l.length ∧ h id = some k ∧ off + l.length * 2 ≤ k.cells.length ∧ ∀ i (hi : i < l.length), k.cells[off + i * 2]? = some (ss l[i].name) ∧ ∃ c, k.cells[off + (i * 2 + 1)]? = some c ∧ rd dSs h c = some l[i].attrs := by
  rcases sl_at e with h0 | ⟨id, off, k, h1, h2, h3, h4⟩
  · exact .inl h0
  · refine .inr ⟨id, off, k, h1, h2, h3, fun i hi => ?_⟩
    obtain ⟨c, h5, h6⟩ := deTyc_out (h4 i hi)
    have t0 := cell_of (c := 0) h5 rfl (by omega)
    have t1 := cell_of (c := 1) h5 rfl (by omega)
    rw [Nat.add_assoc] at t1
    exact ⟨t0, c, t1, h6⟩
theorem ss_at {h : Heap} {a : AV} {l : List ByteArray} (e : rd dSs h a = some l) : (l = [] ∧ (a = .v (.slice none 0 0) ∨ a = .e)) ∨
    ∃ id off k, a = .s id k.ver off l.length ∧ h id = some k ∧ off + l.length ≤ k.cells.length ∧ ∀ i (hi : i < l.length), k.cells[off + i]? = some (ss l[i]) := by
  rcases sl_at e with h0 | ⟨id, off, k, h1, h2, h3, h4⟩
  · exact .inl h0
  · rw [Nat.mul_one] at h3
    refine .inr ⟨id, off, k, h1, h2, h3, fun i hi => ?_⟩
    have := h4 i hi
    rw [Nat.mul_one] at this
    simp only [De.str] at this
    split at this
    · rename_i z hq
      have h5 := cell_of (c := 0) hq rfl (by omega)
      simp only [Option.some.injEq] at this
      rw [Nat.add_zero] at h5
      rw [h5, this]
      rfl
    · cases this
def deSc (h : Heap) : AV → Option (List Ty)
  | .g [a] => rd dTys h a
  | _ => none
theorem deSc_out {h : Heap} {x : AV} {q : List Ty} (e : deSc h x = some q) : ∃ a, x = .g [a] ∧ rd dTys h a = some q := by
  unfold deSc at e
  split at e
  · exact ⟨_, rfl, e⟩
  · cases e
theorem deSc_sim {h h' : Heap} (hh : h.sim h') {x : AV} {q : List Ty} (e : deSc h x = some q) : deSc h' x = some q := by
  obtain ⟨a, rfl, e1⟩ := deSc_out e
  exact rd_sim hh e1
theorem sc_agree {h : Heap} {n : Nat} {a : AV} {x : List Ty} (hn : ∀ i, n ≤ i → h i = none) (e : deSc h a = some x) : ∀ h', agree n (roH h) h' → deSc h' a = some x := fun _ ha => deSc_sim (agree_sim hn ha) e
def smallS (l : List Ty) : Prop := l.length < big ∧ ∀ t ∈ l, t.attrs.length < big
def tsB : ByteArray := ⟨#[116, 115]⟩
/-- The place of an attribute. -/
def attrOf (l : List Ty) (ty : Int) (name : ByteArray) : Int :=
  if ty < 0 ∨ (l.length : Int) ≤ ty then -1 else if (name == tsB) = true then -2 else
    match l[ty.toNat]? with
    | some t => if ixOf t.attrs name < 8 then ixOf t.attrs name else -1
    | none => -1
def dePl (h : Heap) : List AV → Option (List ByteArray × ByteArray)
  | [a, .v (.string v)] => (rd dSs h a).map fun l => (l, v)
  | _ => none
theorem dePl_out {h : Heap} {args : List AV} {q : List ByteArray × ByteArray} (e : dePl h args = some q) : ∃ a, args = [a, ss q.2] ∧ rd dSs h a = some q.1 := by
  unfold dePl at e
  split at e
  · simp only [Option.map_eq_some_iff] at e
    obtain ⟨t, h1, rfl⟩ := e
    exact ⟨_, rfl, h1⟩
  · cases e
theorem dePl_mono (h h' : Heap) (args : List AV) (q : List ByteArray × ByteArray) (hh : h.le h') (e : dePl h args = some q) : dePl h' args = some q := by
  obtain ⟨x, rfl, e1⟩ := dePl_out e
  simp only [dePl, ss, rd_mono hh e1, Option.map_some]
def G140 := pureH dePl (fun q => q.1.length < big) fun q => ii (ixOf q.1 q.2)
set_option maxRecDepth 100000 in
set_option maxHeartbeats 1000000 in
theorem P140 : P0 [] 140 G140 := by
  refine mkH 2 (S := []) (l := []) tb_nil Tryd.func140 rfl (by kernel_rfl) dePl_mono (fun h l x e => by obtain ⟨a, rfl, _⟩ := dePl_out e; exact Nat.le_refl _) (fun a => rfl) (fun args q h n e hp hn => ?_)
  obtain ⟨a, rfl, e2⟩ := dePl_out e
  obtain ⟨l, v⟩ := q
  simp only [] at e2 hp ⊢
  obtain ⟨s1, s2, s3, s4, s5⟩ := sl_is e2
  have hgv : ∀ j (hj : j < l.length), l.getD j ByteArray.empty = l[j] := fun j hj => by rw [List.getD_eq_getElem?_getD, List.getElem?_eq_getElem hj]; rfl
  have key : ∀ e : Nat → AV, e 0 = a → e 1 = ss v → awp (cx [] (pfL [])) (Tryd.f140.body.getD .skip) (finQ (cx [] (pfL [])) Tryd.f140 fun z _ _ => z = ii (ixOf l v)) ⟨e, roH h, n⟩ := fun e q0 q1 => by
    simp [evs, resAll, resVal, resOne, freeOp, isA, goOp, appNew, mkOp, gev, Region.binds, aop, aeval, gocall, heapOp, quietOp, ev, constAV, setd, yav, ystop, up, env0, cx_ti, cx_G, cx_pf, ti, globS, glob, pfL, lds, ldc, ldcs_1, ldcs_2, ldcs_3, ldcs_4, ldcs_5, ldcs_7, sts, sth, sls.eq_1, slc.eq_1, wr, place, fillOk, fillC, repZ, binI, isDiv, optInt, optI, eksOk, eksEq, EK.ok, EK.eq, AV.i, AV.isI, AV.isInt, AV.str, AV.isStr, AV.ones, AV.isPtr, AV.gl, AV.isG, Value.oneCell', Tryd.f140, q0, q1, ii, ss, s1, s2, s3]
    refine awp_loop (fun s => ∃ j : Nat, j ≤ l.length ∧ s.e 1 = ss v ∧ s.e 7 = a ∧ s.e 8 = ii l.length ∧ s.e 9 = ii j ∧ s.h = roH h ∧ ∀ i, i < j → (l.getD i ByteArray.empty == v) = false) (fun s => l.length - (s.e 9).i.toNat) ⟨0, by simp [up, q0, q1, ii, ss]⟩ ?_
    rintro e' h' n' ⟨j, hj, q1, q7, q8, q9, hh, hno⟩
    simp only [] at q1 q7 q8 q9 hh
    subst hh
    by_cases hlt : j < l.length
    · rcases ss_at e2 with ⟨h0, _⟩ | ⟨id, off, k, rfl, hk, ho, hat⟩
      · rw [h0] at hlt; simp at hlt
      have hr := hat j hlt
      have ha' := ro_at hk
      have hw := wrap_nat (j := j) (by omega)
      have hw1 : off + (j + 1) ≤ k.cells.length := by omega
      have hgj := hgv j hlt
      generalize l[j] = y at *
      cases hy : (y == v) with
      | true =>
        have hf := fi_hit (v := v) hlt hno (by rw [hgj]; exact hy)
        have h1 : ixOf l v = (j : Int) := by rw [ixOf, hf, if_pos hlt]
        simp [evs, resAll, resVal, resOne, freeOp, isA, goOp, appNew, mkOp, gev, Region.binds, aop, aeval, gocall, heapOp, quietOp, ev, constAV, setd, yav, ystop, up, env0, cx_ti, cx_G, cx_pf, ti, globS, glob, pfL, lds, ldc, ldcs_1, ldcs_2, ldcs_3, ldcs_4, ldcs_5, ldcs_7, sts, sth, sls.eq_1, slc.eq_1, wr, place, fillOk, fillC, repZ, binI, isDiv, optInt, optI, eksOk, eksEq, EK.ok, EK.eq, AV.i, AV.isI, AV.isInt, AV.str, AV.isStr, AV.ones, AV.isPtr, AV.gl, AV.isG, Value.oneCell', q1, q7, q8, q9, ii, ss, hlt, ha', hr, hw1, hy, h1]
      | false =>
        simp [evs, resAll, resVal, resOne, freeOp, isA, goOp, appNew, mkOp, gev, Region.binds, aop, aeval, gocall, heapOp, quietOp, ev, constAV, setd, yav, ystop, up, env0, cx_ti, cx_G, cx_pf, ti, globS, glob, pfL, lds, ldc, ldcs_1, ldcs_2, ldcs_3, ldcs_4, ldcs_5, ldcs_7, sts, sth, sls.eq_1, slc.eq_1, wr, place, fillOk, fillC, repZ, binI, isDiv, optInt, optI, eksOk, eksEq, EK.ok, EK.eq, AV.i, AV.isI, AV.isInt, AV.str, AV.isStr, AV.ones, AV.isPtr, AV.gl, AV.isG, Value.oneCell', q1, q7, q8, q9, ii, ss, hlt, ha', hr, hw1, hy, hw]
        refine ⟨⟨j + 1, by omega, by omega, fun i hi => ?_⟩, by omega⟩
        by_cases e : i = j
        · subst e; rw [← List.getD_eq_getElem?_getD, hgj]; exact hy
        · have := hno i (by omega); rwa [List.getD_eq_getElem?_getD] at this
    · obtain rfl : j = l.length := by omega
      have hf := fi_none (v := v) (l := l) hno
      have h1 : ixOf l v = -1 := by rw [ixOf, hf, if_neg (by omega)]
      simp [evs, resAll, resVal, resOne, freeOp, isA, goOp, appNew, mkOp, gev, Region.binds, aop, aeval, gocall, heapOp, quietOp, ev, constAV, setd, yav, ystop, up, env0, cx_ti, cx_G, cx_pf, ti, globS, glob, pfL, lds, ldc, ldcs_1, ldcs_2, ldcs_3, ldcs_4, ldcs_5, ldcs_7, sts, sth, sls.eq_1, slc.eq_1, wr, place, fillOk, fillC, repZ, binI, isDiv, optInt, optI, eksOk, eksEq, EK.ok, EK.eq, AV.i, AV.isI, AV.isInt, AV.str, AV.isStr, AV.ones, AV.isPtr, AV.gl, AV.isG, Value.oneCell', q1, q7, q8, q9, ii, h1]
  exact key _ rfl rfl
end Go.Proofs.YtkfphaphiikloaaDoor

/-
  THE PROGRAMS OF CONDITIONS: does a program hold, on both sides.
-/
namespace Go.Proofs.YtkfphaphiikloaaDoor
open Go Go.Eng

theorem acall_any {S S' : List Nat} {pf pf' : FuncId → Option (List AV → Heap → PRes)} (hs : ∀ x ∈ S, x ∈ S') {f : FuncId} {args : List AV} {h : Heap} {n : Nat} {Q : AV → Heap → Nat → Prop} (k : ACall (cx S pf) f args h n Q) : ACall (cx S' pf') f args h n Q := by
  refine ⟨k.1, fun K w0 ρ w vs r hv => ?_⟩
  have hsub : ∀ g cs, globS S g = some cs → globS S' g = some cs := fun g cs hg => by
    simp only [globS] at hg ⊢
    by_cases hm : g ∈ S
    · rw [if_pos hm] at hg; rw [if_pos (hs g hm)]; exact hg
    · rw [if_neg hm] at hg; cases hg
  have r0 : Rel (cx S pf) K w0 ρ (n ≤ ·) h w := ⟨r.os, r.tape, r.output, r.size, r.keep, r.kold, fun g cs hg => r.glob g cs (hsub g cs hg), r.blk, r.apart, r.mine, r.free, r.vers⟩
  refine (k.2 K w0 ρ w vs r0 hv).mono fun e w' ⟨y, h1, ρ2, z, h', n', h2, h3, r2, h5⟩ => ⟨y, h1, ρ2, z, h', n', h2, h3, ⟨r2.os, r2.tape, r2.output, r2.size, r2.keep, r2.kold, fun g cs hg => ?_, r2.blk, r2.apart, r2.mine, r2.free, r2.vers⟩, h5⟩
  obtain ⟨g1, arr, el, fr, g2, g3⟩ := r.glob g cs hg
  exact ⟨g1, arr, el, fr, by rw [r2.keep g g1, ← r.keep g g1]; exact g2, g3⟩

def S29 : List Nat := [0, 1, 2, 3, 4, 5, 6]
def G31 := pureH deR okR fun q => bv (holdsV q.1 q.2)
def tb31 : List (FuncId × (List AV → Heap → PRes)) := [(29, G29), (48, g20)]
set_option maxRecDepth 100000 in
set_option maxHeartbeats 1000000 in
theorem P31 (h0 : P0 S29 29 G29) : P0 S29 31 G31 := by
  refine mkH 2 (S := S29) (l := tb31) (tb_cons h0 (tb_cons p20 tb_nil)) Tryd.func31 rfl (by kernel_rfl) deR_mono (fun h l x e => by obtain ⟨a, c, rfl, _⟩ := deR_out e; exact Nat.le_refl _) (fun a => rfl) (fun args q h n e hp hn => ?_)
  obtain ⟨p, en⟩ := q
  obtain ⟨x, y, rfl, e1, e2⟩ := deR_out e
  obtain ⟨pa, pb, rfl, e3, e4⟩ := dePr_out e1
  obtain ⟨la, rfl, e5⟩ := deEn_out e2
  simp only [] at e1 e2 e3 e4 e5 hp ⊢
  obtain ⟨s1, s2, s3, s4, s5⟩ := sl_is e3
  obtain ⟨t1, t2, t3, t4, t5⟩ := sl_is e4
  obtain ⟨r1, r2, r3, r4, r5⟩ := sl_is e5
  have g1 := pr_agree hn e1
  have g2 := en_agree hn e2
  simp only [ii] at g2
  obtain ⟨rv, hrv⟩ : ∃ rv, rv = runV p en := ⟨_, rfl⟩
  have hv : holdsV p en = (rv.2 == 0 && trueV rv.1) := by rw [hrv]; rfl
  obtain ⟨⟨vk, vn⟩, er⟩ := rv
  by_cases hz : er = 0
  · subst hz
    simp [evs, resAll, resVal, resOne, freeOp, isA, goOp, appNew, mkOp, gev, Region.binds, aop, aeval, gocall, heapOp, quietOp, ev, constAV, setd, yav, ystop, up, env0, cx_ti, cx_G, cx_pf, ti, globS, glob, pfL, lds, ldc, ldcs_1, ldcs_2, ldcs_3, ldcs_4, ldcs_5, ldcs_7, sts, sth, sls.eq_1, slc.eq_1, wr, place, fillOk, fillC, repZ, binI, isDiv, optInt, optI, eksOk, eksEq, EK.ok, EK.eq, AV.i, AV.isI, AV.isInt, AV.str, AV.isStr, AV.ones, AV.isPtr, AV.gl, AV.isG, Value.oneCell', ii, s4, t4, r4, tb31, G29, pureH, deR, g1, g2, agree_up, agree_refl, hp, ← hrv, runA, vv, bv, hv, g20, pure1, deV]
  · simp [evs, resAll, resVal, resOne, freeOp, isA, goOp, appNew, mkOp, gev, Region.binds, aop, aeval, gocall, heapOp, quietOp, ev, constAV, setd, yav, ystop, up, env0, cx_ti, cx_G, cx_pf, ti, globS, glob, pfL, lds, ldc, ldcs_1, ldcs_2, ldcs_3, ldcs_4, ldcs_5, ldcs_7, sts, sth, sls.eq_1, slc.eq_1, wr, place, fillOk, fillC, repZ, binI, isDiv, optInt, optI, eksOk, eksEq, EK.ok, EK.eq, AV.i, AV.isI, AV.isInt, AV.str, AV.isStr, AV.ones, AV.isPtr, AV.gl, AV.isG, Value.oneCell', ii, s4, t4, r4, tb31, G29, pureH, deR, g1, g2, agree_up, agree_refl, hp, ← hrv, runA, vv, bv, hv, hz, g20, pure1, deV]
def tb32 : List (FuncId × (List AV → Heap → PRes)) := [(30, G29), (64, g20)]
set_option maxRecDepth 100000 in
set_option maxHeartbeats 1000000 in
theorem P32 (h0 : P0 [] 30 G29) : P0 [] 32 G31 := by
  refine mkH 2 (S := []) (l := tb32) (tb_cons h0 (tb_cons p24 tb_nil)) Tryd.func32 rfl (by kernel_rfl) deR_mono (fun h l x e => by obtain ⟨a, c, rfl, _⟩ := deR_out e; exact Nat.le_refl _) (fun a => rfl) (fun args q h n e hp hn => ?_)
  obtain ⟨p, en⟩ := q
  obtain ⟨x, y, rfl, e1, e2⟩ := deR_out e
  obtain ⟨pa, pb, rfl, e3, e4⟩ := dePr_out e1
  obtain ⟨la, rfl, e5⟩ := deEn_out e2
  simp only [] at e1 e2 e3 e4 e5 hp ⊢
  obtain ⟨s1, s2, s3, s4, s5⟩ := sl_is e3
  obtain ⟨t1, t2, t3, t4, t5⟩ := sl_is e4
  obtain ⟨r1, r2, r3, r4, r5⟩ := sl_is e5
  have g1 := pr_agree hn e1
  have g2 := en_agree hn e2
  simp only [ii] at g2
  obtain ⟨rv, hrv⟩ : ∃ rv, rv = runV p en := ⟨_, rfl⟩
  have hv : holdsV p en = (rv.2 == 0 && trueV rv.1) := by rw [hrv]; rfl
  obtain ⟨⟨vk, vn⟩, er⟩ := rv
  by_cases hz : er = 0
  · subst hz
    simp [evs, resAll, resVal, resOne, freeOp, isA, goOp, appNew, mkOp, gev, Region.binds, aop, aeval, gocall, heapOp, quietOp, ev, constAV, setd, yav, ystop, up, env0, cx_ti, cx_G, cx_pf, ti, globS, glob, pfL, lds, ldc, ldcs_1, ldcs_2, ldcs_3, ldcs_4, ldcs_5, ldcs_7, sts, sth, sls.eq_1, slc.eq_1, wr, place, fillOk, fillC, repZ, binI, isDiv, optInt, optI, eksOk, eksEq, EK.ok, EK.eq, AV.i, AV.isI, AV.isInt, AV.str, AV.isStr, AV.ones, AV.isPtr, AV.gl, AV.isG, Value.oneCell', ii, s4, t4, r4, tb32, G29, pureH, deR, g1, g2, agree_up, agree_refl, hp, ← hrv, runA, vv, bv, hv, g20, pure1, deV]
  · simp [evs, resAll, resVal, resOne, freeOp, isA, goOp, appNew, mkOp, gev, Region.binds, aop, aeval, gocall, heapOp, quietOp, ev, constAV, setd, yav, ystop, up, env0, cx_ti, cx_G, cx_pf, ti, globS, glob, pfL, lds, ldc, ldcs_1, ldcs_2, ldcs_3, ldcs_4, ldcs_5, ldcs_7, sts, sth, sls.eq_1, slc.eq_1, wr, place, fillOk, fillC, repZ, binI, isDiv, optInt, optI, eksOk, eksEq, EK.ok, EK.eq, AV.i, AV.isI, AV.isInt, AV.str, AV.isStr, AV.ones, AV.isPtr, AV.gl, AV.isG, Value.oneCell', ii, s4, t4, r4, tb32, G29, pureH, deR, g1, g2, agree_up, agree_refl, hp, ← hrv, runA, vv, bv, hv, hz, g20, pure1, deV]
end Go.Proofs.YtkfphaphiikloaaDoor
