/-
  CodeCompiles: the law's own code.
-/
import Derived.Test.YtkfphaphiikloaaDoorX37
import Derived.Test.YtkfphaphiikloaaDoorX35
import Derived.Test.YtkfphaphiikloaaDoorX38
import Derived.Test.YtkfphaphiikloaaDoorX21
set_option linter.unusedSimpArgs false
set_option linter.unusedVariables false
set_option linter.constructorNameAsVariable false
namespace Go.Proofs.YtkfphaphiikloaaDoor
open Go Go.Eng

def S3 : List Nat := [7]
def tbl3 : List (FuncId × (List AV → Heap → PRes)) := [(14, G14), (15, G15), (21, G21), (23, G23), (24, G24)]
theorem tbl3_ok : TbOk S3 tbl3 := tb_cons P14 (tb_cons P15 (tb_cons P21 (tb_cons P23 (tb_cons P24 tb_nil))))
structure V3 where
  sc : List Ty
  q : Qu
  t : List Nd
/-- Arguments of a size that a machine holds. -/
structure W3 (v : V3) : Prop where
  s1 : v.sc.length * 40 ≤ 140737488355328
  s2 : ∀ t ∈ v.sc, t.attrs.length * 16 ≤ 140737488355328
  q1 : v.q.items.length * 64 ≤ 140737488355328
  q2 : smallT v.q.wh
  q3 : v.q.ret.length < big
  q4 : ∀ t ∈ v.q.ret, smallT t
  t1 : (v.t.length + 40) * 64 ≤ 140737488355328
  t2 : ∀ x ∈ v.t, Rng x.n
theorem W3.sm {v : V3} (w : W3 v) : smallT v.t := by have := w.t1; unfold smallT; omega
theorem W3.sc {v : V3} (w : W3 v) : smallS v.sc := ⟨by have := w.s1; unfold big; omega, fun t ht => by have := w.s2 t ht; unfold big; omega⟩
theorem W3.it {v : V3} (w : W3 v) : v.q.items.length < big := by have := w.q1; unfold big; omega
theorem W3.tl {v : V3} (w : W3 v) : v.sc.length * 8 ≤ 140737488355328 := by have := w.s1; omega
theorem comp_sm {tys : List Ty} {vs : List ByteArray} {t : List Nd} (h : tys.length * 8 ≤ 140737488355328) (hp : smallT t) : PrSm (compP tys vs t) := by
  have hp' : t.length * 64 ≤ 140737488355328 := hp
  unfold compP
  split
  · rename_i hr
    have T := tre_of (show tree1 t = true by simp only [runT, Bool.and_eq_true] at hr; exact hr.1)
    have hf := few T
    refine ⟨?_, ?_, ?_⟩
    · simp only []
      rw [codeT, lay_len]; omega
    · simp only [List.length_map]
      have := names_len t t.length
      unfold namesOf
      omega
    · intro c hc
      obtain ⟨a, _, rfl⟩ := List.mem_map.1 hc
      rw [colOf_len]; exact h
  · exact ⟨by simp, by simp, by simp⟩
theorem comp_big {tys : List Ty} {vs : List ByteArray} {t : List Nd} (h : tys.length * 8 ≤ 140737488355328) (hp : smallT t) : (compP tys vs t).code.length < big ∧ (compP tys vs t).cols.length < big ∧ ∀ l ∈ (compP tys vs t).cols, l.length < big := by
  obtain ⟨h1, h2, h3⟩ := comp_sm (vs := vs) h hp
  exact ⟨by unfold big; omega, by unfold big; omega, fun l hl => by have := h3 l hl; unfold big; omega⟩
theorem OwnQ.up {h h' : Heap} {lo hi lo' hi' : Nat} {z : AV} {p : Pr} (o : OwnQ h lo hi z p) (hh : ∀ q, lo ≤ q → q < hi → h' q = h q) (h1 : lo' ≤ lo) (h2 : hi ≤ hi') : OwnQ h' lo' hi' z p := by
  obtain ⟨ca, la, rfl, o1, o2⟩ := o
  refine ⟨ca, la, rfl, ?_, ?_⟩
  · rcases o1 with h0 | ⟨w, u, k1, k2, k3, k4⟩
    · exact .inl h0
    · exact .inr ⟨w, u, k1, by rw [hh w k3 k4]; exact k2, by omega, by omega⟩
  · rcases o2 with h0 | ⟨w, u, cs, k1, k2, k3, k4, k5, k6, k7⟩
    · exact .inl h0
    · refine .inr ⟨w, u, cs, k1, by rw [hh w k3 k4]; exact k2, by omega, by omega, k5, k6, fun i hi => ?_⟩
      obtain ⟨c, j1, j2⟩ := k7 i hi
      refine ⟨c, j1, ?_⟩
      rcases j2 with j0 | ⟨b, v, d1, d2, d3, d4, d5⟩
      · exact .inl j0
      · exact .inr ⟨b, v, d1, by rw [hh b d3 d4]; exact d2, Nat.le_trans h1 d3, by omega, d5⟩
theorem OwnQ.is {h : Heap} {lo hi : Nat} {z : AV} {p : Pr} (o : OwnQ h lo hi z p) : ∃ ca la, z = .g [ca, la] ∧ ca.one ∧ la.one ∧ (∀ g, AV.unc g ca = ca) ∧ (∀ g, AV.unc g la = la) ∧ ca.cells = [ca] ∧ la.cells = [la] := by
  obtain ⟨ca, la, rfl, o1, o2⟩ := o
  refine ⟨ca, la, rfl, ?_⟩
  rcases o1 with ⟨_, rfl⟩ | ⟨w, u, rfl, _⟩ <;> rcases o2 with ⟨_, rfl⟩ | ⟨w', u', cs', rfl, _⟩ <;> exact ⟨by first | rfl | trivial, by first | rfl | trivial, fun _ => rfl, fun _ => rfl, rfl, rfl⟩
/-- A program in a cell, of one's own. -/
def HasP (s : St) (i p0 hi : Nat) (p : Pr) : Prop := ∃ m ca la, s.e i = .p m 0 0 ∧ p0 ≤ m ∧ m < hi ∧ hi ≤ s.n ∧ s.h m = some ⟨[ca, la], 0, true, 2⟩ ∧ OwnQ s.h p0 hi (.g [ca, la]) p
theorem HasP.up {s s' : St} {i p0 hi : Nat} {p : Pr} (a : HasP s i p0 hi p) (he : s'.e i = s.e i) (hh : ∀ q, p0 ≤ q → q < hi → s'.h q = s.h q) (hn : s.n ≤ s'.n) : HasP s' i p0 hi p := by
  obtain ⟨m, ca, la, h1, h2, h3, h4, h5, h6⟩ := a
  exact ⟨m, ca, la, he.trans h1, h2, h3, by omega, by rw [hh m h2 h3]; exact h5, h6.up hh (Nat.le_refl _) (Nat.le_refl _)⟩
/-- Its copy. -/
def HasT (s : St) (i p0 hi : Nat) (p : Pr) : Prop := ∃ m ca la, s.e i = .p m 0 0 ∧ p0 ≤ m ∧ m < hi ∧ hi ≤ s.n ∧ s.h m = some ⟨[ca, la], 0, true, 2⟩ ∧ OwnP s.h p0 hi (.g [ca, la]) p
theorem HasT.up {s s' : St} {i p0 hi : Nat} {p : Pr} (a : HasT s i p0 hi p) (he : s'.e i = s.e i) (hh : ∀ q, p0 ≤ q → q < hi → s'.h q = s.h q) (hn : s.n ≤ s'.n) : HasT s' i p0 hi p := by
  obtain ⟨m, ca, la, h1, h2, h3, h4, h5, h6⟩ := a
  exact ⟨m, ca, la, he.trans h1, h2, h3, by omega, by rw [hh m h2 h3]; exact h5, h6.congr hh (Nat.le_refl _)⟩
/-- What was handed in. -/
structure A3 (v : V3) (s : St) : Prop where
  at2 : rd dNs s.h (s.e 2) = some v.t
  as3 : HasS s.h (s.e 3) v.sc
  aq4 : HasQ s.h (s.e 4) v.q
  frs : Fresh s.n s.h
theorem A3.up {v : V3} {s s' : St} (a : A3 v s) (h2 : s'.e 2 = s.e 2) (h3 : s'.e 3 = s.e 3) (h4 : s'.e 4 = s.e 4) (ha : agree s.n s.h s'.h) (hf : Fresh s'.n s'.h) : A3 v s' :=
  ⟨by rw [h2]; exact rd_agr a.frs a.at2 _ ha, by rw [h3]; exact a.as3.up a.frs ha, by rw [h4]; exact a.aq4.up a.frs ha, hf⟩
/-- And its copies, from a state on. -/
structure F3 (v : V3) (h6 : Heap) (k : Nat) (s : St) : Prop where
  at2 : rd dNs h6 (s.e 2) = some v.t
  as3 : HasS h6 (s.e 3) v.sc
  aq4 : HasQ h6 (s.e 4) v.q
  bs7 : HasS h6 (s.e 7) v.sc
  bq8 : HasQ h6 (s.e 8) v.q
  bt9 : rd dNs h6 (s.e 9) = some v.t
  fr6 : Fresh k h6
  ag : agree k h6 s.h
  frs : Fresh s.n s.h
  kn : k ≤ s.n
theorem F3.up {v : V3} {h6 : Heap} {k : Nat} {s s' : St} (a : F3 v h6 k s) (he : ∀ i ∈ [2, 3, 4, 7, 8, 9], s'.e i = s.e i) (ha : agree k s.h s'.h) (hf : Fresh s'.n s'.h) (hn : s.n ≤ s'.n) : F3 v h6 k s' := by
  obtain ⟨a1, a2, a3, a4, a5, a6, a9, a10, a11, a12⟩ := a
  exact ⟨by rw [he 2 (by simp)]; exact a1, by rw [he 3 (by simp)]; exact a2, by rw [he 4 (by simp)]; exact a3, by rw [he 7 (by simp)]; exact a4, by rw [he 8 (by simp)]; exact a5, by rw [he 9 (by simp)]; exact a6, a9, fun j hj => (ha j hj).trans (a10 j hj), hf, by omega⟩
/-- A tree with room. -/
def Room3 (s : St) (k w p : Nat) (len : Nat) (t : List Nd) : Prop := s.e 10 = .s w 41 0 (len + 40) ∧ s.h w = some ⟨(t ++ marks 40).flatMap ncells, 41, true, 6⟩ ∧ k ≤ w ∧ w < p ∧ t.length = len
theorem Room3.up {s s' : St} {k w p p' len : Nat} {t : List Nd} (r : Room3 s k w p len t) (he : s'.e 10 = s.e 10) (hh : s'.h w = s.h w) (hp : p ≤ p') : Room3 s' k w p' len t := by
  obtain ⟨a, b, c, d, f⟩ := r
  exact ⟨he.trans a, hh.trans b, c, by omega, f⟩
section
set_option maxRecDepth 100000
set_option maxHeartbeats 4000000
variable {h : Heap} {n : Nat} {sa qa qb qc ta : AV} {v : V3}
theorem law3a (e1 : rd dTys h sa = some v.sc) (e2 : rd dIts h qa = some v.q.items) (e3 : rd dNs h qb = some v.q.wh) (e4 : rd dNss h qc = some v.q.ret) (e5 : rd dNs h ta = some v.t) (w : W3 v) (hn : Fresh n h) (e : Nat → AV)
    (q0 : e 0 = .g [sa]) (q1 : e 1 = .g [qa, .v (.int .i64 v.q.mode), .v (.int .i64 v.q.after), qb, .v (.int .i64 v.q.within), .v (.string v.q.par), qc]) (q2 : e 2 = ta) :
    awp (cx S3 (pfL tbl3)) (hdC 2 (Tryd.f3.body.getD .skip)) (thenQ (A3 v) (finQ (cx S3 (pfL tbl3)) Tryd.f3 fun z _ _ => z = bv true)) ⟨e, roH h, n⟩ := by
  have o1 := (sl_is e1).2.2.2.1
  have o2 := (sl_is e2).2.2.2.1
  have o3 := (sl_is e3).2.2.2.1
  have o4 := (sl_is e4).2.2.2.1
  obtain ⟨s1, s2, s3, s4, s5⟩ := sl_is e5
  have g5 := rd_agree hn e5
  have gq : ∀ h', agree n (roH h) h' → deQ h' (.g [qa, .v (.int .i64 v.q.mode), .v (.int .i64 v.q.after), qb, .v (.int .i64 v.q.within), .v (.string v.q.par), qc]) = some v.q := fun h' ha => deQ_has (rd_agree hn e2 h' ha) (rd_agree hn e3 h' ha) (rd_agree hn e4 h' ha)
  have w3 : smallT v.q.wh ∧ v.q.ret.length < big ∧ ∀ t ∈ v.q.ret, smallT t := ⟨w.q2, w.q3, w.q4⟩
  have w4 := w.sm
  have fr := roH_fresh hn
  cases hq : qdeep v.q with
  | true =>
    simp [evs, resAll, resVal, resOne, freeOp, isA, goOp, appNew, mkOp, gev, Region.binds, aop, aeval, gocall, heapOp, quietOp, ev, constAV, setd, yav, ystop, up, env0, cx_ti, cx_G, cx_pf, ti, globS, glob, pfL, lds, ldc, ldcs_1, ldcs_2, ldcs_3, ldcs_4, ldcs_5, ldcs_7, sts, sth, sls.eq_1, slc.eq_1, wr, place, fillOk, fillC, repZ, binI, isDiv, optInt, optI, eksOk, eksEq, EK.ok, EK.eq, AV.i, AV.isI, AV.isInt, AV.str, AV.isStr, AV.ones, AV.isPtr, AV.gl, AV.isG, Value.oneCell', hdC, Tryd.f3, q0, q1, q2, o1, o2, o3, o4, s3, bv, tbl3, pureH, agree_up, agree_refl, G14, deQ1, gq, hq]
    exact w3
  | false =>
    cases ht : deepB v.t with
    | true =>
      simp [evs, resAll, resVal, resOne, freeOp, isA, goOp, appNew, mkOp, gev, Region.binds, aop, aeval, gocall, heapOp, quietOp, ev, constAV, setd, yav, ystop, up, env0, cx_ti, cx_G, cx_pf, ti, globS, glob, pfL, lds, ldc, ldcs_1, ldcs_2, ldcs_3, ldcs_4, ldcs_5, ldcs_7, sts, sth, sls.eq_1, slc.eq_1, wr, place, fillOk, fillC, repZ, binI, isDiv, optInt, optI, eksOk, eksEq, EK.ok, EK.eq, AV.i, AV.isI, AV.isInt, AV.str, AV.isStr, AV.ones, AV.isPtr, AV.gl, AV.isG, Value.oneCell', hdC, Tryd.f3, q0, q1, q2, o1, o2, o3, o4, s3, bv, tbl3, pureH, agree_up, agree_refl, G14, deQ1, gq, hq, G15, deT, g5, ht]
      exact ⟨w3, w4⟩
    | false =>
      simp [evs, resAll, resVal, resOne, freeOp, isA, goOp, appNew, mkOp, gev, Region.binds, aop, aeval, gocall, heapOp, quietOp, ev, constAV, setd, yav, ystop, up, env0, cx_ti, cx_G, cx_pf, ti, globS, glob, pfL, lds, ldc, ldcs_1, ldcs_2, ldcs_3, ldcs_4, ldcs_5, ldcs_7, sts, sth, sls.eq_1, slc.eq_1, wr, place, fillOk, fillC, repZ, binI, isDiv, optInt, optI, eksOk, eksEq, EK.ok, EK.eq, AV.i, AV.isI, AV.isInt, AV.str, AV.isStr, AV.ones, AV.isPtr, AV.gl, AV.isG, Value.oneCell', hdC, Tryd.f3, q0, q1, q2, o1, o2, o3, o4, s3, bv, tbl3, pureH, agree_up, agree_refl, G14, deQ1, gq, hq, G15, deT, g5, ht]
      refine ⟨w3, w4, ?_⟩
      have ag : ∀ b1 b2 : Option Blk, agree n (roH h) (up (up (roH h) n b1) (n + 1) b2) := fun b1 b2 => by simp [agree_up, agree_refl]
      exact ⟨by simpa [up, q2] using g5 _ (ag _ _), ⟨n, sa, by simp [up], by simp [up], rd_agree hn e1 _ (ag _ _)⟩, ⟨n + 1, qa, qb, qc, by simp [up], by simp [up], rd_agree hn e2 _ (ag _ _), rd_agree hn e3 _ (ag _ _), rd_agree hn e4 _ (ag _ _)⟩, by simp [fresh_up, fr.add]⟩
theorem law3b (w : W3 v) (e : Nat → AV) (h' : Heap) (n' : Nat) (b : A3 v ⟨e, h', n'⟩) {Q : Ex → St → Prop} :
    awp (cx S3 (pfL tbl3)) (hdC 1 (tlC 2 (Tryd.f3.body.getD .skip))) (thenQ (fun s => A3 v s ∧ HasS s.h (s.e 7) v.sc) Q) ⟨e, h', n'⟩ := by
  have b0 := b
  obtain ⟨_, ⟨m, a, q4, b4, r4⟩, _, fr⟩ := b
  simp only [] at q4 b4 r4 fr
  have o4 := (sl_is r4).2.2.2.1
  simp [evs, resAll, resVal, resOne, freeOp, isA, goOp, appNew, mkOp, gev, Region.binds, aop, aeval, gocall, heapOp, quietOp, ev, constAV, setd, yav, ystop, up, env0, cx_ti, cx_G, cx_pf, ti, globS, glob, pfL, lds, ldc, ldcs_1, ldcs_2, ldcs_3, ldcs_4, ldcs_5, ldcs_7, sts, sth, sls.eq_1, slc.eq_1, wr, place, fillOk, fillC, repZ, binI, isDiv, optInt, optI, eksOk, eksEq, EK.ok, EK.eq, AV.i, AV.isI, AV.isInt, AV.str, AV.isStr, AV.ones, AV.isPtr, AV.gl, AV.isG, Value.oneCell', hdC, tlC, Tryd.f3, q4, b4, o4, tbl3]
  refine (acall_any (S := []) (by simp) (c16 (x := .g [a]) r4 w.s1 w.s2 fr)).mono ?_
  rintro z h2 n2 ⟨a1, a2, a3, a4⟩
  obtain ⟨zs, rfl, r9⟩ := deSc_out a4
  obtain ⟨v1, v2, v3, v4, v5⟩ := sl_is r9
  have ag2 : ∀ b1 b2 : Option Blk, agree n2 h2 (up (up h2 n2 b1) n2 b2) := fun b1 b2 => by simp [agree_up, agree_refl]
  simp [evs, resAll, resVal, resOne, freeOp, isA, goOp, appNew, mkOp, gev, Region.binds, aop, aeval, gocall, heapOp, quietOp, ev, constAV, setd, yav, ystop, up, env0, cx_ti, cx_G, cx_pf, ti, globS, glob, pfL, lds, ldc, ldcs_1, ldcs_2, ldcs_3, ldcs_4, ldcs_5, ldcs_7, sts, sth, sls.eq_1, slc.eq_1, wr, place, fillOk, fillC, repZ, binI, isDiv, optInt, optI, eksOk, eksEq, EK.ok, EK.eq, AV.i, AV.isI, AV.isInt, AV.str, AV.isStr, AV.ones, AV.isPtr, AV.gl, AV.isG, Value.oneCell', v4, v5]
  exact ⟨b0.up (by simp [up]) (by simp [up]) (by simp [up]) (by simp [agree_up, a1, a3]) (by simp [fresh_up, a2.add]), n2, zs, by simp [up], by simp [up], rd_agr a2 r9 _ (ag2 _ _)⟩
theorem law3c (w : W3 v) (e : Nat → AV) (h' : Heap) (n' : Nat) (b : A3 v ⟨e, h', n'⟩) (c : HasS h' (e 7) v.sc) {Q : Ex → St → Prop} :
    awp (cx S3 (pfL tbl3)) (hdC 1 (tlC 3 (Tryd.f3.body.getD .skip))) (thenQ (fun s => A3 v s ∧ HasS s.h (s.e 7) v.sc ∧ HasQ s.h (s.e 8) v.q) Q) ⟨e, h', n'⟩ := by
  have b0 := b
  obtain ⟨_, _, ⟨m, qa, qb, qc, q5, b5, r1, r2, r3⟩, fr⟩ := b
  simp only [] at q5 b5 r1 r2 r3 fr
  have o1 := (sl_is r1).2.2.2.1
  have o2 := (sl_is r2).2.2.2.1
  have o3 := (sl_is r3).2.2.2.1
  simp [evs, resAll, resVal, resOne, freeOp, isA, goOp, appNew, mkOp, gev, Region.binds, aop, aeval, gocall, heapOp, quietOp, ev, constAV, setd, yav, ystop, up, env0, cx_ti, cx_G, cx_pf, ti, globS, glob, pfL, lds, ldc, ldcs_1, ldcs_2, ldcs_3, ldcs_4, ldcs_5, ldcs_7, sts, sth, sls.eq_1, slc.eq_1, wr, place, fillOk, fillC, repZ, binI, isDiv, optInt, optI, eksOk, eksEq, EK.ok, EK.eq, AV.i, AV.isI, AV.isInt, AV.str, AV.isStr, AV.ones, AV.isPtr, AV.gl, AV.isG, Value.oneCell', hdC, tlC, Tryd.f3, q5, b5, o1, o2, o3, tbl3]
  refine (acall_any (S := []) (by simp) (c17 (deQ_has r1 r2 r3) w.q1 fr)).mono ?_
  rintro z h2 n2 ⟨a1, a2, a3, a4⟩
  obtain ⟨za, zb, zc, rfl, z1, z2, z3⟩ := deQ_out a4
  have y1 := (sl_is z1).2.2.2.1
  have y2 := (sl_is z2).2.2.2.1
  have y3 := (sl_is z3).2.2.2.1
  have ag2 : ∀ b1 b2 : Option Blk, agree n2 h2 (up (up h2 n2 b1) n2 b2) := fun b1 b2 => by simp [agree_up, agree_refl]
  simp [evs, resAll, resVal, resOne, freeOp, isA, goOp, appNew, mkOp, gev, Region.binds, aop, aeval, gocall, heapOp, quietOp, ev, constAV, setd, yav, ystop, up, env0, cx_ti, cx_G, cx_pf, ti, globS, glob, pfL, lds, ldc, ldcs_1, ldcs_2, ldcs_3, ldcs_4, ldcs_5, ldcs_7, sts, sth, sls.eq_1, slc.eq_1, wr, place, fillOk, fillC, repZ, binI, isDiv, optInt, optI, eksOk, eksEq, EK.ok, EK.eq, AV.i, AV.isI, AV.isInt, AV.str, AV.isStr, AV.ones, AV.isPtr, AV.gl, AV.isG, Value.oneCell', ii, ss, y1, y2, y3]
  have ag3 : ∀ b1 b2 : Option Blk, agree n' h' (up (up h2 n2 b1) n2 b2) := fun b1 b2 => by simp [agree_up, a1, a3]
  exact ⟨b0.up (by simp [up]) (by simp [up]) (by simp [up]) (ag3 _ _) (by simp [fresh_up, a2.add]), by simpa [up] using c.up fr (ag3 _ _), n2, za, zb, zc, by simp [up], by simp [up], rd_agr a2 z1 _ (ag2 _ _), rd_agr a2 z2 _ (ag2 _ _), rd_agr a2 z3 _ (ag2 _ _)⟩
theorem law3d (w : W3 v) (e : Nat → AV) (h' : Heap) (n' : Nat) (b : A3 v ⟨e, h', n'⟩) (c : HasS h' (e 7) v.sc) (d : HasQ h' (e 8) v.q) {Q : Ex → St → Prop} :
    awp (cx S3 (pfL tbl3)) (hdC 1 (tlC 4 (Tryd.f3.body.getD .skip))) (thenQ (fun s => F3 v s.h s.n s) Q) ⟨e, h', n'⟩ := by
  have b0 := b
  obtain ⟨at2, _, _, fr⟩ := b
  simp only [] at at2 fr
  obtain ⟨ta, q2⟩ : ∃ x, e 2 = x := ⟨_, rfl⟩
  rw [q2] at at2
  obtain ⟨s1, s2, s3, s4, s5⟩ := sl_is at2
  simp [evs, resAll, resVal, resOne, freeOp, isA, goOp, appNew, mkOp, gev, Region.binds, aop, aeval, gocall, heapOp, quietOp, ev, constAV, setd, yav, ystop, up, env0, cx_ti, cx_G, cx_pf, ti, globS, glob, pfL, lds, ldc, ldcs_1, ldcs_2, ldcs_3, ldcs_4, ldcs_5, ldcs_7, sts, sth, sls.eq_1, slc.eq_1, wr, place, fillOk, fillC, repZ, binI, isDiv, optInt, optI, eksOk, eksEq, EK.ok, EK.eq, AV.i, AV.isI, AV.isInt, AV.str, AV.isStr, AV.ones, AV.isPtr, AV.gl, AV.isG, Value.oneCell', hdC, tlC, Tryd.f3, q2, s3, tbl3]
  refine (acall_any (S := []) (by simp) (c18 at2 w.sm fr)).mono ?_
  rintro z h2 n2 ⟨a1, a2, a3, w', rfl, hw, hw1, hw2⟩
  try simp [evs, resAll, resVal, resOne, freeOp, isA, goOp, appNew, mkOp, gev, Region.binds, aop, aeval, gocall, heapOp, quietOp, ev, constAV, setd, yav, ystop, up, env0, cx_ti, cx_G, cx_pf, ti, globS, glob, pfL, lds, ldc, ldcs_1, ldcs_2, ldcs_3, ldcs_4, ldcs_5, ldcs_7, sts, sth, sls.eq_1, slc.eq_1, wr, place, fillOk, fillC, repZ, binI, isDiv, optInt, optI, eksOk, eksEq, EK.ok, EK.eq, AV.i, AV.isI, AV.isInt, AV.str, AV.isStr, AV.ones, AV.isPtr, AV.gl, AV.isG, Value.oneCell']
  have b1 : A3 v ⟨up (up (up e 24 ta) 25 (.s w' 1 0 v.t.length)) 9 (.s w' 1 0 v.t.length), h2, n2⟩ := b0.up (by simp [up, q2]) (by simp [up]) (by simp [up]) a1 a2
  exact ⟨b1.at2, b1.as3, b1.aq4, by simpa [up] using c.up fr a1, by simpa [up] using d.up fr a1, by simpa [up] using (show rd dNs h2 (.s w' 1 0 v.t.length) = some v.t from flat_in Flat.nd (l := v.t) hw rfl (r := []) (by simp)), a2, agree_refl _ _, a2, Nat.le_refl _⟩
theorem law3e (w : W3 v) (h6 : Heap) (k : Nat) (e : Nat → AV) (h' : Heap) (n' : Nat) (b : F3 v h6 k ⟨e, h', n'⟩) {Q : Ex → St → Prop} :
    awp (cx S3 (pfL tbl3)) (hdC 1 (tlC 5 (Tryd.f3.body.getD .skip))) (thenQ (fun s => F3 v h6 k s ∧ ∃ w, Room3 s k w s.n v.t.length v.t) Q) ⟨e, h', n'⟩ := by
  have b0 := b
  have at2 := rd_agr b.fr6 b.at2 _ b.ag
  have fr := b.frs
  have kn := b.kn
  simp only [] at at2 fr kn
  obtain ⟨ta, q2⟩ : ∃ x, e 2 = x := ⟨_, rfl⟩
  rw [q2] at at2
  obtain ⟨s1, s2, s3, s4, s5⟩ := sl_is at2
  simp [evs, resAll, resVal, resOne, freeOp, isA, goOp, appNew, mkOp, gev, Region.binds, aop, aeval, gocall, heapOp, quietOp, ev, constAV, setd, yav, ystop, up, env0, cx_ti, cx_G, cx_pf, ti, globS, glob, pfL, lds, ldc, ldcs_1, ldcs_2, ldcs_3, ldcs_4, ldcs_5, ldcs_7, sts, sth, sls.eq_1, slc.eq_1, wr, place, fillOk, fillC, repZ, binI, isDiv, optInt, optI, eksOk, eksEq, EK.ok, EK.eq, AV.i, AV.isI, AV.isInt, AV.str, AV.isStr, AV.ones, AV.isPtr, AV.gl, AV.isG, Value.oneCell', hdC, tlC, Tryd.f3, q2, s3, tbl3]
  refine (acall_any (S := []) (by simp) (c19 at2 w.t1 fr)).mono ?_
  rintro z h2 n2 ⟨a1, a2, a3, w', rfl, hw, hw1, hw2⟩
  try simp [evs, resAll, resVal, resOne, freeOp, isA, goOp, appNew, mkOp, gev, Region.binds, aop, aeval, gocall, heapOp, quietOp, ev, constAV, setd, yav, ystop, up, env0, cx_ti, cx_G, cx_pf, ti, globS, glob, pfL, lds, ldc, ldcs_1, ldcs_2, ldcs_3, ldcs_4, ldcs_5, ldcs_7, sts, sth, sls.eq_1, slc.eq_1, wr, place, fillOk, fillC, repZ, binI, isDiv, optInt, optI, eksOk, eksEq, EK.ok, EK.eq, AV.i, AV.isI, AV.isInt, AV.str, AV.isStr, AV.ones, AV.isPtr, AV.gl, AV.isG, Value.oneCell']
  exact ⟨b0.up (by simp [up, q2]) (fun j hj => a1 j (by omega)) a2 a3, w', by simp [up], hw, by omega, hw2, rfl⟩
theorem law3f (w : W3 v) (h6 : Heap) (k wr' : Nat) (e : Nat → AV) (h' : Heap) (n' : Nat) (b : F3 v h6 k ⟨e, h', n'⟩) (c : Room3 ⟨e, h', n'⟩ k wr' n' v.t.length v.t) {Q : Ex → St → Prop} :
    awp (cx S3 (pfL tbl3)) (hdC 1 (tlC 6 (Tryd.f3.body.getD .skip))) (thenQ (fun s => F3 v h6 k s ∧ Room3 s k wr' n' v.t.length v.t ∧ HasP s 11 n' s.n (compP v.sc (vars v.q.items) v.t)) Q) ⟨e, h', n'⟩ := by
  have b0 := b
  have c0 := c
  have at2 := rd_agr b.fr6 b.at2 _ b.ag
  obtain ⟨m4, a4, q4, b4, r4⟩ := b.as3.up b.fr6 b.ag
  obtain ⟨m5, a5, x5, y5, q5, b5, r5, r5', r5''⟩ := b.aq4.up b.fr6 b.ag
  have fr := b.frs
  have kn := b.kn
  obtain ⟨q13, hw, hw1, hw2, _⟩ := c
  simp only [] at at2 fr kn q4 b4 r4 q5 b5 r5 r5' r5'' q13 hw hw1 hw2
  obtain ⟨ta, q2⟩ : ∃ x, e 2 = x := ⟨_, rfl⟩
  rw [q2] at at2
  obtain ⟨s1, s2, s3, s4, s5⟩ := sl_is at2
  have o4 := (sl_is r4).2.2.2.1
  have o5 := (sl_is r5).2.2.2.1
  have o5' := (sl_is r5').2.2.2.1
  have o5'' := (sl_is r5'').2.2.2.1
  have hcl : ((v.t ++ marks 40).flatMap ncells).length = (v.t.length + 40) * 6 := by rw [flat_len Flat.nd, List.length_append, marks_len]
  have hl1 : (v.t.length : Int) ≤ (v.t.length : Int) + 40 := by omega
  have rr := room_rd hw
  have gq := deQ_has (q := v.q) r5 r5' r5''
  simp [evs, resAll, resVal, resOne, freeOp, isA, goOp, appNew, mkOp, gev, Region.binds, aop, aeval, gocall, heapOp, quietOp, ev, constAV, setd, yav, ystop, up, env0, cx_ti, cx_G, cx_pf, ti, globS, glob, pfL, lds, ldc, ldcs_1, ldcs_2, ldcs_3, ldcs_4, ldcs_5, ldcs_7, sts, sth, sls.eq_1, slc.eq_1, wr, place, fillOk, fillC, repZ, binI, isDiv, optInt, optI, eksOk, eksEq, EK.ok, EK.eq, AV.i, AV.isI, AV.isInt, AV.str, AV.isStr, AV.ones, AV.isPtr, AV.gl, AV.isG, Value.oneCell', hdC, tlC, Tryd.f3, q2, q4, q5, q13, b4, b5, s1, s2, s3, o4, o5, o5', o5'', tbl3, hl1]
  have fin : ∀ (e2 : Nat → AV) (h3 : Heap) (n3 m : Nat) (ca la : AV), (∀ i ∈ [2, 3, 4, 7, 8, 9], e2 i = e i) → e2 10 = e 10 → e2 11 = .p m 0 0 → agree n' h' h3 → Fresh n3 h3 → n' ≤ n3 → n' ≤ m → m < n3 → h3 m = some ⟨[ca, la], 0, true, 2⟩ → OwnQ h3 n' n3 (.g [ca, la]) (compP v.sc (vars v.q.items) v.t) → F3 v h6 k ⟨e2, h3, n3⟩ ∧ Room3 ⟨e2, h3, n3⟩ k wr' n' v.t.length v.t ∧ HasP ⟨e2, h3, n3⟩ 11 n' n3 (compP v.sc (vars v.q.items) v.t) :=
    fun e2 h3 n3 m ca la k1 k10 k11 ka kf kn3 km km2 kb ko => ⟨b0.up k1 (fun j hj => ka j (by omega)) kf kn3, c0.up k10 (ka _ (by omega)) (Nat.le_refl _), m, ca, la, k11, km, km2, Nat.le_refl _, kb, ko⟩
  refine ⟨?_, ?_⟩
  · refine (acall_any (S := [7]) (by simp [S3]) (c20 r4 gq rr w.it w.sm w.tl w.sc fr)).mono ?_
    rintro z h2 n2 ⟨a1, a2, a3, a4⟩
    refine ⟨keep_le (agr_le fr a1), ?_⟩
    obtain ⟨ca, la, rfl, k1, k2, k3, k4, k5, k6⟩ := a4.is
    have ho : ∀ b1 b2 : Option Blk, OwnQ (up (up h2 n2 b1) n2 b2) n' (n2 + 2) (.g [ca, la]) (compP v.sc (vars v.q.items) v.t) := fun b1 b2 => a4.up (fun q h1 h2 => by rw [up_ne _ _ (by omega), up_ne _ _ (by omega)]) (Nat.le_refl _) (by omega)
    have hf2 : ∀ b1 b2 : Option Blk, Fresh (n2 + 2) (up (up h2 n2 b1) n2 b2) := fun b1 b2 => by simp [fresh_up, a2.add]
    have hg2 : ∀ b1 b2 : Option Blk, agree n' h' (up (up h2 n2 b1) n2 b2) := fun b1 b2 => by simp [agree_up, a1, a3]
    simp [evs, resAll, resVal, resOne, freeOp, isA, goOp, appNew, mkOp, gev, Region.binds, aop, aeval, gocall, heapOp, quietOp, ev, constAV, setd, yav, ystop, up, env0, cx_ti, cx_G, cx_pf, ti, globS, glob, pfL, lds, ldc, ldcs_1, ldcs_2, ldcs_3, ldcs_4, ldcs_5, ldcs_7, sts, sth, sls.eq_1, slc.eq_1, wr, place, fillOk, fillC, repZ, binI, isDiv, optInt, optI, eksOk, eksEq, EK.ok, EK.eq, AV.i, AV.isI, AV.isInt, AV.str, AV.isStr, AV.ones, AV.isPtr, AV.gl, AV.isG, Value.oneCell', k1, k2, k3, k4, k5, k6]
    exact fin _ _ _ n2 ca la (by simp [up]) (by simp [up]) (by simp [up]) (hg2 _ _) (hf2 _ _) (by omega) (by omega) (by omega) (by simp [up]) (ho _ _)
  · have frA : ∀ b, Fresh (n' + 1) (up h' n' b) := fun b => (fresh_up (by omega) b).2 (fr.add 1)
    have agA : ∀ b, agree n' h' (up h' n' b) := fun b => (agree_up (by omega) b).2 (agree_refl _ _)
    refine (acall_any (S := [7]) (by simp [S3]) (c20 (rd_agr fr r4 _ (agA _)) (deQ_has (q := v.q) (rd_agr fr r5 _ (agA _)) (rd_agr fr r5' _ (agA _)) (rd_agr fr r5'' _ (agA _))) (rd_agr fr rr _ (agA _)) w.it w.sm w.tl w.sc (frA _))).mono ?_
    rintro z h2 n2 ⟨a1, a2, a3, a4⟩
    refine ⟨keep_le (agr_le (frA _) a1), ?_⟩
    obtain ⟨ca, la, rfl, k1, k2, k3, k4, k5, k6⟩ := a4.is
    have hx : h2 n' = some ⟨[.v (.slice none 0 0), .v (.slice none 0 0)], 0, true, 2⟩ := by rw [a1 n' (by omega), up_same]
    have ho : ∀ b1 : Option Blk, OwnQ (up h2 n' b1) n' (n2 + 1) (.g [ca, la]) (compP v.sc (vars v.q.items) v.t) := fun b1 => a4.up (fun q h1 h2 => by rw [up_ne _ _ (by omega)]) (by omega) (by omega)
    have hf2 : ∀ b1 : Option Blk, Fresh (n2 + 1) (up h2 n' b1) := fun b1 => (fresh_up (by omega) b1).2 (a2.add 1)
    have hg2 : ∀ b1 : Option Blk, agree n' h' (up h2 n' b1) := fun b1 j hj => by rw [up_ne _ _ (by omega), a1 j (by omega), up_ne _ _ (by omega)]
    simp [evs, resAll, resVal, resOne, freeOp, isA, goOp, appNew, mkOp, gev, Region.binds, aop, aeval, gocall, heapOp, quietOp, ev, constAV, setd, yav, ystop, up, env0, cx_ti, cx_G, cx_pf, ti, globS, glob, pfL, lds, ldc, ldcs_1, ldcs_2, ldcs_3, ldcs_4, ldcs_5, ldcs_7, sts, sth, sls.eq_1, slc.eq_1, wr, place, fillOk, fillC, repZ, binI, isDiv, optInt, optI, eksOk, eksEq, EK.ok, EK.eq, AV.i, AV.isI, AV.isInt, AV.str, AV.isStr, AV.ones, AV.isPtr, AV.gl, AV.isG, Value.oneCell', k1, k2, k3, k4, k5, k6, hx]
    exact fin _ _ _ n' ca la (by simp [up]) (by simp [up]) (by simp [up]) (hg2 _) (hf2 _) (by omega) (by omega) (by omega) (by simp [up]) (ho _)
end
end Go.Proofs.YtkfphaphiikloaaDoor
