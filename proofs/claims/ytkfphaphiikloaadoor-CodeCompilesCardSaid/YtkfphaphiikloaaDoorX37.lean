/-
  COMPILING, PART U: the document's side: Compile.
-/
import Derived.Test.YtkfphaphiikloaaDoorX34
import Derived.Test.YtkfphaphiikloaaDoorX36
import Derived.Test.YtkfphaphiikloaaDoorX20
import Derived.Test.YtkfphaphiikloaaDoorX22
set_option linter.unusedSimpArgs false
set_option linter.unusedVariables false
set_option linter.constructorNameAsVariable false
namespace Go.Proofs.YtkfphaphiikloaaDoor
open Go Go.Eng

section
set_option maxRecDepth 100000
set_option maxHeartbeats 4000000
variable {h8 : Heap} {k8 n : Nat} {sa la : AV} {m wo : Nat} {code : List Ins} {tys : List Ty} {names : List ByteArray} {cols : List (List Int)} {i : Nat}
/-- A column is laid behind the others. -/
theorem c22j {col : List Int} (hcb : cols.length + 1 ≤ 2199023255552) (s0 s : St) (q10 : s.e 10 = ii i) (a : B22 h8 k8 n sa la m wo code cols s0) (he : ∀ i ∈ [3, 6, 8, 9], s.e i = s0.e i) (hh : ∀ q, q < s0.n → s.h q = s0.h q) (hn : s0.n ≤ s.n) (hf : Fresh s.n s.h) (ho : Own s.h s0.n s.n (s.e 11) col.length (col.map ii) 1) {Q : Ex → St → Prop} :
    awp (cx [7] (pfL tb22)) (tlC 2 c22B) (thenQ (fun s' => s'.e 10 = ii i ∧ B22 h8 k8 n sa la m wo code (cols ++ [col]) s') Q) s := by
  obtain ⟨e, h1, n1⟩ := s
  obtain ⟨e0, h0, n0⟩ := s0
  obtain ⟨x1, x2, x3, x4, x5, x6, ⟨zl, x7, x8⟩, x9, x10, x11, x12⟩ := a
  simp only [] at q10 he hh hn hf ho x1 x2 x3 x4 x5 x6 x7 x8 x9 x10 x11 x12
  have z9 := (he 9 (by simp)).trans x4
  have z7 := (hh m (by omega)).trans x7
  have y0 : ¬ m = n1 := by omega
  have y1 : ¬ m = n1 + 1 := by omega
  obtain ⟨c, hc⟩ : ∃ c, e 11 = c := ⟨_, rfl⟩
  rw [hc] at ho
  obtain ⟨r1, r2, r3, r4, r5⟩ := own_is ho
  have key : ∀ (e2 : Nat → AV) (h2 : Heap) (zl2 : AV), (∀ i ∈ [3, 6, 8, 9], e2 i = e i) → (∀ q, q < m → h2 q = h1 q) → h2 m = some ⟨[.s wo 0 0 code.length, zl2], 0, true, 2⟩ → CL h2 (m + 1) (n1 + 3) zl2 (cols ++ [col]) → Fresh (n1 + 3) h2 → B22 h8 k8 n sa la m wo code (cols ++ [col]) ⟨e2, h2, n1 + 3⟩ := fun e2 h2 zl2 k1 k2 k3 k4 k5 => by
    refine ⟨?_, ?_, ?_, ?_, ?_, ?_, ⟨zl2, k3, k4⟩, ?_, ?_, ?_, k5⟩
    · exact (k1 3 (by simp)).trans ((he 3 (by simp)).trans x1)
    · exact (k1 6 (by simp)).trans ((he 6 (by simp)).trans x2)
    · exact (k1 8 (by simp)).trans ((he 8 (by simp)).trans x3)
    · exact (k1 9 (by simp)).trans z9
    · exact (k2 _ (by omega)).trans ((hh _ (by omega)).trans x5)
    · exact (k2 _ (by omega)).trans ((hh _ (by omega)).trans x6)
    · exact (k2 _ (by omega)).trans ((hh _ (by omega)).trans x9)
    · simp only []; omega
    · exact fun q hq => (k2 _ (by omega)).trans ((hh _ (by omega)).trans (x11 q hq))
  have e1 : tlC 2 c22B = tlC 2 c22B := rfl
  rcases x8 with ⟨rfl, rfl⟩ | ⟨w, u, cs, k1, k2, k3, k4, k5, k6⟩
  · simp [evs, resAll, resVal, resOne, freeOp, isA, goOp, appNew, mkOp, gev, Region.binds, aop, aeval, gocall, heapOp, quietOp, ev, constAV, setd, yav, ystop, up, env0, cx_ti, cx_G, cx_pf, ti, globS, glob, pfL, lds, ldc, ldcs_1, ldcs_2, ldcs_3, ldcs_4, ldcs_5, ldcs_7, sts, sth, sls.eq_1, slc.eq_1, wr, place, fillOk, fillC, repZ, binI, isDiv, optInt, optI, eksOk, eksEq, EK.ok, EK.eq, AV.i, AV.isI, AV.isInt, AV.str, AV.isStr, AV.ones, AV.isPtr, AV.gl, AV.isG, Value.oneCell', hdC, tlC, c22B, c22L, inB, bodyL, Tryd.f22, z9, z7, hc, r4, r5, y0, y1]
    refine ⟨q10, key _ _ (.s (n1 + 1) 0 0 1) (by simp [up]) (fun q hq => by rw [up_ne _ _ (by omega), up_ne _ _ (by omega), up_ne _ _ (by omega)]) (up_same _ _ _) (.inr ⟨n1 + 1, 0, [c], rfl, ?_, by omega, by omega, rfl, fun i hi' => ?_⟩) ((fresh_up (by omega) _).2 ((fresh_up (by omega) _).2 ((fresh_up (by omega) _).2 (hf.add 3))))⟩
    · rw [up_ne _ _ (by omega), up_same]
    · simp only [List.nil_append, List.length_cons, List.length_nil] at hi'
      obtain rfl : i = 0 := by omega
      exact ⟨c, rfl, own_kc ho (fun q k1 k2 => by rw [up_ne _ _ (by omega), up_ne _ _ (by omega), up_ne _ _ (by omega)]) (by omega) (by omega) (by omega)⟩
  · subst k1
    have w1 := (hh w (by omega)).trans k2
    have y2 : ¬ w = n1 := by omega
    have y3 : ¬ w = m := by omega
    have y4 : ¬ m = w := by omega
    have b1 : (cols.length + 1) * 24 ≤ 140737488355328 := by omega
    have b2 : cols.length + 1 ≤ 9223372036854775807 := by omega
    simp [evs, resAll, resVal, resOne, freeOp, isA, goOp, appNew, mkOp, gev, Region.binds, aop, aeval, gocall, heapOp, quietOp, ev, constAV, setd, yav, ystop, up, env0, cx_ti, cx_G, cx_pf, ti, globS, glob, pfL, lds, ldc, ldcs_1, ldcs_2, ldcs_3, ldcs_4, ldcs_5, ldcs_7, sts, sth, sls.eq_1, slc.eq_1, wr, place, fillOk, fillC, repZ, binI, isDiv, optInt, optI, eksOk, eksEq, EK.ok, EK.eq, AV.i, AV.isI, AV.isInt, AV.str, AV.isStr, AV.ones, AV.isPtr, AV.gl, AV.isG, Value.oneCell', hdC, tlC, c22B, c22L, inB, bodyL, Tryd.f22, z9, z7, hc, r4, r5, y0, y1, w1, y2, y3, y4, b1, b2, k5]
    refine ⟨q10, key _ _ (.s w (u + 1) 0 (cols.length + 1)) (by simp [up]) (fun q hq => by rw [up_ne _ _ (by omega), up_ne _ _ (by omega), up_ne _ _ (by omega)]) (up_same _ _ _) (.inr ⟨w, u + 1, cs ++ [c], by simp, ?_, k3, by omega, by simp [k5], fun i hi' => ?_⟩) ((fresh_up (by omega) _).2 ((fresh_up (by omega) _).2 ((fresh_up (by omega) _).2 (hf.add 3))))⟩
    · rw [up_ne _ _ (by omega), up_same]
    · simp only [List.length_append, List.length_cons, List.length_nil] at hi'
      by_cases hic : i < cols.length
      · obtain ⟨cc, j1, j2⟩ := k6 i hic
        refine ⟨cc, by rw [List.getElem?_append_left (by omega)]; exact j1, ?_⟩
        rw [List.getElem_append_left hic]
        exact j2.up (fun q g1 g2 hb => by rw [up_ne _ _ (by omega), up_ne _ _ hb, up_ne _ _ (by omega)]; exact hh q g2) (fun _ _ _ hx => hx) (by omega)
      · obtain rfl : i = cols.length := by omega
        refine ⟨c, by rw [← k5]; simp, ?_⟩
        rw [List.getElem_append_right (Nat.le_refl _)]
        simp only [Nat.sub_self, List.getElem_cons_zero]
        exact own_kc ho (fun q k1 k2 => by rw [up_ne _ _ (by omega), up_ne _ _ (by omega), up_ne _ _ (by omega)]) (by omega) (by omega) (by omega)
/-- The columns of all names. -/
theorem c22l (hf8 : Fresh k8 h8) (gl : rd dSs h8 la = some names) (e1 : rd dTys h8 sa = some tys) (hst : smallS tys) (htl : tys.length * 8 ≤ 140737488355328) (hnl : names.length ≤ 2199023255552) (s : St) (a : B22 h8 k8 n sa la m wo code [] s) {Q : Ex → St → Prop} :
    awp (cx [7] (pfL tb22)) (hdC 1 (tlC 5 (Tryd.f22.body.getD .skip))) (thenQ (B22 h8 k8 n sa la m wo code (names.map (colOf tys))) Q) s := by
  obtain ⟨e, h1, n1⟩ := s
  have a0 := a
  have x3 := a.q8
  simp only [] at x3
  obtain ⟨s1, s2, s3, s4, s5⟩ := sl_is gl
  have e0 : hdC 1 (tlC 5 (Tryd.f22.body.getD .skip)) = .seq (hdC 1 (hdC 1 (tlC 5 (Tryd.f22.body.getD .skip)))) (.block 0 (.loop c22L)) := rfl
  rw [e0]
  simp [evs, resAll, resVal, resOne, freeOp, isA, goOp, appNew, mkOp, gev, Region.binds, aop, aeval, gocall, heapOp, quietOp, ev, constAV, setd, yav, ystop, up, env0, cx_ti, cx_G, cx_pf, ti, globS, glob, pfL, lds, ldc, ldcs_1, ldcs_2, ldcs_3, ldcs_4, ldcs_5, ldcs_7, sts, sth, sls.eq_1, slc.eq_1, wr, place, fillOk, fillC, repZ, binI, isDiv, optInt, optI, eksOk, eksEq, EK.ok, EK.eq, AV.i, AV.isI, AV.isInt, AV.str, AV.isStr, AV.ones, AV.isPtr, AV.gl, AV.isG, Value.oneCell', hdC, tlC, Tryd.f22]
  refine awp_loop (fun s => ∃ i, i ≤ names.length ∧ s.e 10 = ii i ∧ B22 h8 k8 n sa la m wo code ((names.map (colOf tys)).take i) s) (fun s => names.length - (s.e 10).i.toNat) ⟨0, by omega, by simp [up, ii], a0.up (by simp [up]) (fun _ _ => rfl) (Nat.le_refl _) a0.fr⟩ ?_
  rintro e' h' n' ⟨i, hi, q10, a⟩
  have q8 := a.q8
  simp only [] at q10 q8
  by_cases hlt : i < names.length
  · have hw := wrap_nat (j := i) (by unfold big; omega)
    have hta : (names.map (colOf tys)).take (i + 1) = (names.map (colOf tys)).take i ++ [colOf tys names[i]] := by rw [List.take_add_one, List.getElem?_map, List.getElem?_eq_getElem hlt]; rfl
    refine awp_cut 1 _ _ (R := fun s => s.e 10 = ii i ∧ B22 h8 k8 n sa la m wo code ((names.map (colOf tys)).take i) s) ?_ fun e2 h2 n2 ⟨k10, a2⟩ => ?_
    · simp [evs, resAll, resVal, resOne, freeOp, isA, goOp, appNew, mkOp, gev, Region.binds, aop, aeval, gocall, heapOp, quietOp, ev, constAV, setd, yav, ystop, up, env0, cx_ti, cx_G, cx_pf, ti, globS, glob, pfL, lds, ldc, ldcs_1, ldcs_2, ldcs_3, ldcs_4, ldcs_5, ldcs_7, sts, sth, sls.eq_1, slc.eq_1, wr, place, fillOk, fillC, repZ, binI, isDiv, optInt, optI, eksOk, eksEq, EK.ok, EK.eq, AV.i, AV.isI, AV.isInt, AV.str, AV.isStr, AV.ones, AV.isPtr, AV.gl, AV.isG, Value.oneCell', hdC, tlC, c22L, bodyL, Tryd.f22, q10, q8, ii, s1, s2, s3, hlt]
      exact a.up (by simp [up]) (fun _ _ => rfl) (Nat.le_refl _) a.fr
    refine awp_cut 1 _ _ (R := fun s => s.e 10 = ii i ∧ B22 h8 k8 n sa la m wo code ((names.map (colOf tys)).take (i + 1)) s) ?_ fun e3 h3 n3 ⟨k10', a3⟩ => ?_
    · have e1' : hdC 1 (tlC 1 c22L) = .block 1 c22B := rfl
      rw [e1', awp_block]
      refine awp_cut 1 _ _ (R := fun s => s.e 10 = ii i ∧ s.e 11 = .v (.slice none 0 0) ∧ B22 h8 k8 n sa la m wo code ((names.map (colOf tys)).take i) s) ?_ fun e4 h4 n4 ⟨m10, m11, a4⟩ => ?_
      · simp only [] at k10
        simp [evs, resAll, resVal, resOne, freeOp, isA, goOp, appNew, mkOp, gev, Region.binds, aop, aeval, gocall, heapOp, quietOp, ev, constAV, setd, yav, ystop, up, env0, cx_ti, cx_G, cx_pf, ti, globS, glob, pfL, lds, ldc, ldcs_1, ldcs_2, ldcs_3, ldcs_4, ldcs_5, ldcs_7, sts, sth, sls.eq_1, slc.eq_1, wr, place, fillOk, fillC, repZ, binI, isDiv, optInt, optI, eksOk, eksEq, EK.ok, EK.eq, AV.i, AV.isI, AV.isInt, AV.str, AV.isStr, AV.ones, AV.isPtr, AV.gl, AV.isG, Value.oneCell', hdC, tlC, c22B, c22L, inB, bodyL, Tryd.f22, k10, ii]
        exact a2.up (by simp [up]) (fun _ _ => rfl) (Nat.le_refl _) a2.fr
      refine awp_cut 1 _ _ (c22i hf8 gl e1 hst htl hlt (by unfold big; omega) _ m10 m11 a4) fun e5 h5 n5 ⟨p10, pe, ph, pn, pf, po⟩ => ?_
      have L := c22j (col := colOf tys names[i]) (by rw [List.length_take, List.length_map]; omega) ⟨e4, h4, n4⟩ ⟨e5, h5, n5⟩ p10 a4 pe ph pn pf (by rw [colOf_len]; exact po) (Q := fun _ _ => False)
      rw [← hta] at L
      refine awp_mono _ (fun x s hx => ?_) L
      cases x with
      | normal => exact hx
      | exit id => exact hx.elim
      | ret => exact hx.elim
    · simp only [] at k10'
      simp [evs, resAll, resVal, resOne, freeOp, isA, goOp, appNew, mkOp, gev, Region.binds, aop, aeval, gocall, heapOp, quietOp, ev, constAV, setd, yav, ystop, up, env0, cx_ti, cx_G, cx_pf, ti, globS, glob, pfL, lds, ldc, ldcs_1, ldcs_2, ldcs_3, ldcs_4, ldcs_5, ldcs_7, sts, sth, sls.eq_1, slc.eq_1, wr, place, fillOk, fillC, repZ, binI, isDiv, optInt, optI, eksOk, eksEq, EK.ok, EK.eq, AV.i, AV.isI, AV.isInt, AV.str, AV.isStr, AV.ones, AV.isPtr, AV.gl, AV.isG, Value.oneCell', hdC, tlC, c22L, bodyL, Tryd.f22, k10', q10, ii, hw]
      exact ⟨⟨i + 1, by omega, by simp [up, ii], a3.up (by simp [up]) (fun _ _ => rfl) (Nat.le_refl _) a3.fr⟩, by omega⟩
  · obtain rfl : i = names.length := by omega
    rw [List.take_of_length_le (by simp)] at a
    simp [evs, resAll, resVal, resOne, freeOp, isA, goOp, appNew, mkOp, gev, Region.binds, aop, aeval, gocall, heapOp, quietOp, ev, constAV, setd, yav, ystop, up, env0, cx_ti, cx_G, cx_pf, ti, globS, glob, pfL, lds, ldc, ldcs_1, ldcs_2, ldcs_3, ldcs_4, ldcs_5, ldcs_7, sts, sth, sls.eq_1, slc.eq_1, wr, place, fillOk, fillC, repZ, binI, isDiv, optInt, optI, eksOk, eksEq, EK.ok, EK.eq, AV.i, AV.isI, AV.isInt, AV.str, AV.isStr, AV.ones, AV.isPtr, AV.gl, AV.isG, Value.oneCell', hdC, tlC, c22L, bodyL, Tryd.f22, q10, q8, ii, s1, s2, s3]
    exact a.up (by simp [up]) (fun _ _ => rfl) (Nat.le_refl _) a.fr
end
/-- The beginning: what is handed in, and whether it is runnable. -/
structure A22 (h0 : Heap) (n : Nat) (sa ta : AV) (qc : List AV) (s : St) : Prop where
  q2 : s.e 2 = ta
  q3 : s.e 3 = .p n 0 0
  q4 : s.e 4 = .p (n + 1) 0 0
  q6 : s.e 6 = .p (n + 2) 0 0
  k3 : s.h n = some ⟨[sa], 0, true, 1⟩
  k4 : s.h (n + 1) = some ⟨qc, 0, true, 7⟩
  k6 : s.h (n + 2) = some ⟨[.v (.slice none 0 0), .v (.slice none 0 0)], 0, true, 2⟩
  w : n + 3 ≤ s.n
  ag : agree n h0 s.h
  fr : Fresh s.n s.h
section
set_option maxRecDepth 100000
set_option maxHeartbeats 4000000
variable {h : Heap} {n : Nat} {sa qa qb qd ta : AV} {tys : List Ty} {q : Qu} {t : List Nd}
theorem c22a (e1 : rd dTys h sa = some tys) (e2 : ∀ h', agree n h h' → deQ h' (.g [qa, ii q.mode, ii q.after, qb, ii q.within, ss q.par, qd]) = some q) (o1 : qa.one) (o2 : qb.one) (o3 : qd.one) (e5 : rd dNs h ta = some t) (hq : q.items.length < big) (hp : smallT t) (hn : Fresh n h) (e : Nat → AV) (q0 : e 0 = .g [sa]) (q1 : e 1 = .g [qa, ii q.mode, ii q.after, qb, ii q.within, ss q.par, qd]) (q2 : e 2 = ta) {Q : Ex → St → Prop} :
    awp (cx [7] (pfL tb22)) (hdC 2 (Tryd.f22.body.getD .skip)) (thenQ (fun s => s.e 7 = bv (runT (vars q.items) t) ∧ A22 h n sa ta [qa, ii q.mode, ii q.after, qb, ii q.within, ss q.par, qd] s) Q) ⟨e, h, n⟩ := by
  obtain ⟨s1, s2, s3, s4, s5⟩ := sl_is e5
  have o0 := (sl_is e1).2.2.2.1
  have hag : ∀ b1 b2 b3 : Option Blk, agree n h (up (up (up h n b1) (n + 1) b2) (n + 2) b3) := fun b1 b2 b3 => by simp [agree_up, agree_refl]
  have hfr : ∀ b1 b2 b3 : Option Blk, Fresh (n + 3) (up (up (up h n b1) (n + 1) b2) (n + 2) b3) := fun b1 b2 b3 => by simp [fresh_up, hn.add]
  have g5 := rd_agr hn e5
  have hd : ∀ h', agree n h h' → deQT h' [.g [qa, ii q.mode, ii q.after, qb, ii q.within, ss q.par, qd], ta] = some (q, t) := fun h' ha => by simp only [deQT, e2 h' ha, g5 h' ha]
  have hd1 := hd _ (hag (some ⟨[sa], 0, true, 1⟩) (some ⟨[qa, ii q.mode, ii q.after, qb, ii q.within, ss q.par, qd], 0, true, 7⟩) (some ⟨[.v (.slice none 0 0), .v (.slice none 0 0)], 0, true, 2⟩))
  simp only [ii, ss] at hd1
  have hok : okQT (q, t) := ⟨hq, hp⟩
  simp [evs, resAll, resVal, resOne, freeOp, isA, goOp, appNew, mkOp, gev, Region.binds, aop, aeval, gocall, heapOp, quietOp, ev, constAV, setd, yav, ystop, up, env0, cx_ti, cx_G, cx_pf, ti, globS, glob, pfL, lds, ldc, ldcs_1, ldcs_2, ldcs_3, ldcs_4, ldcs_5, ldcs_7, sts, sth, sls.eq_1, slc.eq_1, wr, place, fillOk, fillC, repZ, binI, isDiv, optInt, optI, eksOk, eksEq, EK.ok, EK.eq, AV.i, AV.isI, AV.isInt, AV.str, AV.isStr, AV.ones, AV.isPtr, AV.gl, AV.isG, Value.oneCell', hdC, Tryd.f22, q0, q1, q2, ii, ss, s1, s2, s3, o0, o1, o2, o3, tb22, G57, pureH, hd1, hok, bv]
  exact ⟨by simp [up, q2], by simp [up], by simp [up], by simp [up], by simp [up], by simp [up], by simp [up], by simp, hag _ _ _, hfr _ _ _⟩
theorem own_names {h : Heap} {lo n : Nat} {a : AV} {l : List ByteArray} (o : Own h lo n a l.length (l.map ss) 1) : rd dSs h a = some l := by
  rcases o with ⟨h0, _, rfl⟩ | ⟨w, u, rfl, k, _⟩
  · obtain rfl : l = [] := List.eq_nil_of_length_eq_zero h0
    rfl
  · exact flat_in Flat.str (l := l) k rfl (r := []) (by simp [names_flat])
/-- Not runnable: nothing. -/
theorem c22b1 (s : St) {qc : List AV} (q7 : s.e 7 = bv true) (a : A22 h n sa ta qc s) {Q : Ex → St → Prop} :
    awp (cx [7] (pfL tb22)) (hdC 1 (tlC 2 (Tryd.f22.body.getD .skip))) (thenQ (A22 h n sa ta qc) Q) s := by
  obtain ⟨e, h1, n1⟩ := s
  obtain ⟨x1, x2, x3, x4, x5, x6, x7, x8, x9, x10⟩ := a
  simp only [] at q7 x1 x2 x3 x4 x5 x6 x7 x8 x9 x10
  simp only [bv] at q7
  simp [evs, resAll, resVal, resOne, freeOp, isA, goOp, appNew, mkOp, gev, Region.binds, aop, aeval, gocall, heapOp, quietOp, ev, constAV, setd, yav, ystop, up, env0, cx_ti, cx_G, cx_pf, ti, globS, glob, pfL, lds, ldc, ldcs_1, ldcs_2, ldcs_3, ldcs_4, ldcs_5, ldcs_7, sts, sth, sls.eq_1, slc.eq_1, wr, place, fillOk, fillC, repZ, binI, isDiv, optInt, optI, eksOk, eksEq, EK.ok, EK.eq, AV.i, AV.isI, AV.isInt, AV.str, AV.isStr, AV.ones, AV.isPtr, AV.gl, AV.isG, Value.oneCell', hdC, tlC, Tryd.f22, q7]
  exact ⟨by simp [up, x1], by simp [up, x2], by simp [up, x3], by simp [up, x4], x5, x6, x7, x8, x9, x10⟩
theorem c22b2 (s : St) {qc : List AV} (q7 : s.e 7 = bv false) (a : A22 h n sa ta qc s) {R : St → Prop} :
    awp (cx [7] (pfL tb22)) (hdC 1 (tlC 2 (Tryd.f22.body.getD .skip))) (thenQ R (finQ (cx [7] (pfL tb22)) Tryd.f22 fun z h' n' => agree n h h' ∧ Fresh n' h' ∧ n ≤ n' ∧ dePr h' z = some ⟨[], []⟩)) s := by
  obtain ⟨e, h1, n1⟩ := s
  obtain ⟨x1, x2, x3, x4, x5, x6, x7, x8, x9, x10⟩ := a
  simp only [] at q7 x1 x2 x3 x4 x5 x6 x7 x8 x9 x10
  simp only [bv] at q7
  have y0 : n + 2 < n1 + 1 := by omega
  simp [evs, resAll, resVal, resOne, freeOp, isA, goOp, appNew, mkOp, gev, Region.binds, aop, aeval, gocall, heapOp, quietOp, ev, constAV, setd, yav, ystop, up, env0, cx_ti, cx_G, cx_pf, ti, globS, glob, pfL, lds, ldc, ldcs_1, ldcs_2, ldcs_3, ldcs_4, ldcs_5, ldcs_7, sts, sth, sls.eq_1, slc.eq_1, wr, place, fillOk, fillC, repZ, binI, isDiv, optInt, optI, eksOk, eksEq, EK.ok, EK.eq, AV.i, AV.isI, AV.isInt, AV.str, AV.isStr, AV.ones, AV.isPtr, AV.gl, AV.isG, Value.oneCell', hdC, tlC, Tryd.f22, q7, x4, x7, agree_up, x9, fresh_up, x10.add, y0]
  exact ⟨by omega, rfl⟩
/-- The names. -/
theorem c22c (e5 : rd dNs h ta = some t) (hp : smallT t) (hn : Fresh n h) (s : St) {qc : List AV} (a : A22 h n sa ta qc s) {Q : Ex → St → Prop} :
    awp (cx [7] (pfL tb22)) (hdC 1 (tlC 3 (Tryd.f22.body.getD .skip))) (thenQ (fun s => rd dSs s.h (s.e 8) = some (namesOf t) ∧ A22 h n sa ta qc s) Q) s := by
  obtain ⟨e, h1, n1⟩ := s
  obtain ⟨x1, x2, x3, x4, x5, x6, x7, x8, x9, x10⟩ := a
  simp only [] at x1 x2 x3 x4 x5 x6 x7 x8 x9 x10
  have g5 := rd_agr hn e5 _ x9
  obtain ⟨s1, s2, s3, s4, s5⟩ := sl_is e5
  simp [evs, resAll, resVal, resOne, freeOp, isA, goOp, appNew, mkOp, gev, Region.binds, aop, aeval, gocall, heapOp, quietOp, ev, constAV, setd, yav, ystop, up, env0, cx_ti, cx_G, cx_pf, ti, globS, glob, pfL, lds, ldc, ldcs_1, ldcs_2, ldcs_3, ldcs_4, ldcs_5, ldcs_7, sts, sth, sls.eq_1, slc.eq_1, wr, place, fillOk, fillC, repZ, binI, isDiv, optInt, optI, eksOk, eksEq, EK.ok, EK.eq, AV.i, AV.isI, AV.isInt, AV.str, AV.isStr, AV.ones, AV.isPtr, AV.gl, AV.isG, Value.oneCell', hdC, tlC, Tryd.f22, x1, s3]
  refine (acall_any (S := []) (by simp) (c58 g5 hp x10)).mono ?_
  rintro z h2 n2 ⟨a1, a2, a3, a4⟩
  obtain ⟨r1, r2, r3, r4, r5⟩ := own_is a4
  try simp [evs, resAll, resVal, resOne, freeOp, isA, goOp, appNew, mkOp, gev, Region.binds, aop, aeval, gocall, heapOp, quietOp, ev, constAV, setd, yav, ystop, up, env0, cx_ti, cx_G, cx_pf, ti, globS, glob, pfL, lds, ldc, ldcs_1, ldcs_2, ldcs_3, ldcs_4, ldcs_5, ldcs_7, sts, sth, sls.eq_1, slc.eq_1, wr, place, fillOk, fillC, repZ, binI, isDiv, optInt, optI, eksOk, eksEq, EK.ok, EK.eq, AV.i, AV.isI, AV.isInt, AV.str, AV.isStr, AV.ones, AV.isPtr, AV.gl, AV.isG, Value.oneCell', r3, r4, r5]
  exact ⟨own_names a4, by simp [up, x1], by simp [up, x2], by simp [up, x3], by simp [up, x4], by simp only []; rw [a1 _ (by omega)]; exact x5, by simp only []; rw [a1 _ (by omega)]; exact x6, by simp only []; rw [a1 _ (by omega)]; exact x7, by simp only []; omega, fun j hj => (a1 j (by omega)).trans (x9 j hj), a2⟩
/-- The instructions. -/
theorem c22d {lo : Nat → Nat} (T : Tre t lo) (e2 : ∀ h', agree n h h' → deQ h' (.g [qa, ii q.mode, ii q.after, qb, ii q.within, ss q.par, qd]) = some q) (o1 : qa.one) (o2 : qb.one) (o3 : qd.one) (e5 : rd dNs h ta = some t) (hq : q.items.length < big) (hp : smallT t) (hn : Fresh n h) (s : St) (a : A22 h n sa ta [qa, ii q.mode, ii q.after, qb, ii q.within, ss q.par, qd] s) (gl : rd dSs s.h (s.e 8) = some (namesOf t)) {Q : Ex → St → Prop} :
    awp (cx [7] (pfL tb22)) (hdC 1 (tlC 4 (Tryd.f22.body.getD .skip))) (thenQ (fun s' => ∃ m wo, B22 s.h s.n n sa (s.e 8) m wo (codeT (vars q.items) t) [] s') Q) s := by
  obtain ⟨e, h1, n1⟩ := s
  obtain ⟨x1, x2, x3, x4, x5, x6, x7, x8, x9, x10⟩ := a
  simp only [] at x1 x2 x3 x4 x5 x6 x7 x8 x9 x10 gl
  have g5 := rd_agr hn e5 _ x9
  have gq := e2 _ x9
  obtain ⟨s1, s2, s3, s4, s5⟩ := sl_is e5
  obtain ⟨la, hla⟩ : ∃ la, e 8 = la := ⟨_, rfl⟩
  rw [hla] at gl
  obtain ⟨l1, l2, l3, l4, l5⟩ := sl_is gl
  have L := c59 T hp g5 x10 rfl hq gq gl
  have hcl : (codeT (vars q.items) t).length = posT t t.length := lay_len _ _ _
  simp only [ii, ss] at L
  simp [evs, resAll, resVal, resOne, freeOp, isA, goOp, appNew, mkOp, gev, Region.binds, aop, aeval, gocall, heapOp, quietOp, ev, constAV, setd, yav, ystop, up, env0, cx_ti, cx_G, cx_pf, ti, globS, glob, pfL, lds, ldc, ldcs_1, ldcs_2, ldcs_3, ldcs_4, ldcs_5, ldcs_7, sts, sth, sls.eq_1, slc.eq_1, wr, place, fillOk, fillC, repZ, binI, isDiv, optInt, optI, eksOk, eksEq, EK.ok, EK.eq, AV.i, AV.isI, AV.isInt, AV.str, AV.isStr, AV.ones, AV.isPtr, AV.gl, AV.isG, Value.oneCell', hdC, tlC, Tryd.f22, x1, x3, x6, hla, ii, ss, s3, l3, o1, o2, o3]
  refine (acall_any (S := []) (by simp) L).mono ?_
  rintro z h2 n2 ⟨a1, a2, w, rfl, a4, a5, a6⟩
  simp [evs, resAll, resVal, resOne, freeOp, isA, goOp, appNew, mkOp, gev, Region.binds, aop, aeval, gocall, heapOp, quietOp, ev, constAV, setd, yav, ystop, up, env0, cx_ti, cx_G, cx_pf, ti, globS, glob, pfL, lds, ldc, ldcs_1, ldcs_2, ldcs_3, ldcs_4, ldcs_5, ldcs_7, sts, sth, sls.eq_1, slc.eq_1, wr, place, fillOk, fillC, repZ, binI, isDiv, optInt, optI, eksOk, eksEq, EK.ok, EK.eq, AV.i, AV.isI, AV.isInt, AV.str, AV.isStr, AV.ones, AV.isPtr, AV.gl, AV.isG, Value.oneCell']
  have y0 : ¬ w = n2 := by omega
  have hag : ∀ b b' : Option Blk, agree n1 h1 (up (up h2 n2 b) n2 b') := fun b b' => (agree_up (by omega) _).2 ((agree_up (by omega) _).2 a1)
  refine ⟨n2, w, by simp [up, x2], by simp [up, x4], by simp [up, hla], by simp [up], ?_, ?_, ⟨.v (.slice none 0 0), by simp [up, hcl], .inl ⟨rfl, rfl⟩⟩, ?_, ⟨by omega, a5, a6, by simp⟩, ?_, ?_⟩
  · exact (hag _ _ _ (by omega)).trans x5
  · exact (hag _ _ _ (by omega)).trans x7
  · simp only []; rw [up_ne _ _ y0, up_ne _ _ y0]; exact a4
  · exact hag _ _
  · exact (fresh_up (by simp) _).2 ((fresh_up (by simp) _).2 (a2.add 2))
/-- THE DOCUMENT'S COMPILE. -/
theorem c22 {qx : AV} (e1 : rd dTys h sa = some tys) (e2 : deQ h qx = some q) (e5 : rd dNs h ta = some t) (hq : q.items.length < big) (hp : smallT t) (htl : tys.length * 8 ≤ 140737488355328) (hst : smallS tys) (hn : Fresh n h) :
    ACall (cx [7] (pfL tb22)) 22 [.g [sa], qx, ta] h n fun z h' n' => agree n h h' ∧ Fresh n' h' ∧ n ≤ n' ∧ dePr h' z = some (compP tys (vars q.items) t) := by
  refine acall_of_awp (args := [.g [sa], qx, ta]) (pfL_ok tb22_ok) (mixed _ _) Tryd.func22 (c := Tryd.f22.body.getD .skip) rfl (by kernel_rfl) (callable Tryd.func22 rfl rfl _ _) (show 3 ≤ Tryd.f22.ntmps by decide +kernel) ?_
  obtain ⟨qa, qb, qd, rfl, y1, y2, y3⟩ := deQ_out e2
  have o1 := (sl_is y1).2.2.2.1
  have o2 := (sl_is y2).2.2.2.1
  have o3 := (sl_is y3).2.2.2.1
  have hp' : t.length * 64 ≤ 140737488355328 := hp
  have gq : ∀ h', agree n h h' → deQ h' (.g [qa, ii q.mode, ii q.after, qb, ii q.within, ss q.par, qd]) = some q := fun h' ha => deQ_in (rd_agr hn y1 _ ha) (rd_agr hn y2 _ ha) (rd_agr hn y3 _ ha)
  refine awp_cut 2 _ _ (c22a e1 gq o1 o2 o3 e5 hq hp hn _ rfl rfl rfl) fun e3 h3 n3 ⟨b3, a3⟩ => ?_
  cases hr : runT (vars q.items) t with
  | false =>
    have hcp : compP tys (vars q.items) t = ⟨[], []⟩ := by rw [compP, if_neg (by rw [hr]; exact Bool.false_ne_true)]
    rw [hr] at b3
    rw [hcp]
    exact awp_cut 1 _ _ (c22b2 _ b3 a3) (R := fun _ => False) fun _ _ _ hf => hf.elim
  | true =>
  rw [hr] at b3
  refine awp_cut 1 _ _ (c22b1 _ b3 a3) fun e4 h4 n4 a4 => ?_
  have hcp : compP tys (vars q.items) t = ⟨codeT (vars q.items) t, (namesOf t).map (colOf tys)⟩ := by rw [compP, if_pos hr]
  have T := tre_of (show tree1 t = true by simp only [runT, Bool.and_eq_true] at hr; exact hr.1)
  refine awp_cut 1 _ _ (c22c e5 hp hn _ a4) fun e5' h5 n5 ⟨gl, a5⟩ => ?_
  refine awp_cut 1 _ _ (c22d T gq o1 o2 o3 e5 hq hp hn _ a5 gl) fun e6 h6 n6 ⟨m, wo, a6⟩ => ?_
  have hnl : (namesOf t).length ≤ 2199023255552 := by have := names_len t t.length; unfold namesOf; omega
  refine awp_cut 1 _ _ (c22l a5.fr gl (rd_agr hn e1 _ a5.ag) hst htl hnl _ a6) fun e7 h7 n7 a7 => ?_
  obtain ⟨x1, x2, x3, x4, x5, x6, ⟨zl, x7, x8⟩, x9, x10, x11, x12⟩ := a7
  have ag5 := a5.ag
  have w5 := a5.w
  simp only [] at x1 x2 x3 x4 x5 x6 x7 x8 x9 x10 x11 x12 ag5 w5
  obtain ⟨k1, k2, k3, k4, k5⟩ := x8.is
  have y0 : ¬ m = n + 2 := by omega
  simp [evs, resAll, resVal, resOne, freeOp, isA, goOp, appNew, mkOp, gev, Region.binds, aop, aeval, gocall, heapOp, quietOp, ev, constAV, setd, yav, ystop, up, env0, cx_ti, cx_G, cx_pf, ti, globS, glob, pfL, lds, ldc, ldcs_1, ldcs_2, ldcs_3, ldcs_4, ldcs_5, ldcs_7, sts, sth, sls.eq_1, slc.eq_1, wr, place, fillOk, fillC, repZ, binI, isDiv, optInt, optI, eksOk, eksEq, EK.ok, EK.eq, AV.i, AV.isI, AV.isInt, AV.str, AV.isStr, AV.ones, AV.isPtr, AV.gl, AV.isG, Value.oneCell', tlC, Tryd.f22, x2, x4, x6, x7, y0, k3, k4, k5]
  have hag : ∀ b : Option Blk, agree n h (up h7 (n + 2) b) := fun b => (agree_up (by omega) _).2 fun q hq => (x11 q (by omega)).trans (ag5 q hq)
  refine ⟨hag _, (fresh_up (by omega) _).2 (x12.add 1), by omega, ?_⟩
  rw [hcp]
  refine dePr_in ?_ ?_
  · exact flat_in Flat.ins (l := codeT (vars q.items) t) (by rw [up_ne _ _ (by omega)]; exact x9) rfl (r := []) (by simp)
  · have := (x8.up (h' := up h7 (n + 2) (some ⟨[.s wo 0 0 (codeT (vars q.items) t).length, zl], 0, true, 2⟩)) (fun q h1 h2 => up_ne _ _ (by omega)) (Nat.le_refl _)).rd
    exact this
end
end Go.Proofs.YtkfphaphiikloaaDoor

/-
  TREES, PART U: what was handed in is what its twin is.
-/
namespace Go.Proofs.YtkfphaphiikloaaDoor
open Go Go.Eng

structure Tx where
  s1 : List Ty
  s2 : List Ty
  q1 : Qu
  q2 : Qu
  t1 : List Nd
  t2 : List Nd
structure TxOk (v : Tx) : Prop where
  s : v.s2 = v.s1
  q : v.q2 = v.q1
  t : v.t2 = v.t1
  ss : smallS v.s1
  qs : v.q1.items.length < big
  ts : smallT v.t1
def de23 (h : Heap) : List AV → Option Tx
  | [a, b, c, d, e, f] => match deSc h a, deSc h b, deQ h c, deQ h d, rd dNs h e, rd dNs h f with
    | some a, some b, some c, some d, some e, some f => some ⟨a, b, c, d, e, f⟩
    | _, _, _, _, _, _ => none
  | _ => none
theorem de23_out {h : Heap} {args : List AV} {v : Tx} (e : de23 h args = some v) : ∃ a b c d x y, args = [a, b, c, d, x, y] ∧ deSc h a = some v.s1 ∧ deSc h b = some v.s2 ∧ deQ h c = some v.q1 ∧ deQ h d = some v.q2 ∧ rd dNs h x = some v.t1 ∧ rd dNs h y = some v.t2 := by
  unfold de23 at e
  split at e
  · split at e
    · rename_i e1 e2 e3 e4 e5 e6
      cases e
      exact ⟨_, _, _, _, _, _, rfl, e1, e2, e3, e4, e5, e6⟩
    · cases e
  · cases e
theorem de23_mono (h h' : Heap) (args : List AV) (v : Tx) (hh : h.le h') (e : de23 h args = some v) : de23 h' args = some v := by
  obtain ⟨a, b, c, d, x, y, rfl, e1, e2, e3, e4, e5, e6⟩ := de23_out e
  simp only [de23, deSc_sim hh.sim e1, deSc_sim hh.sim e2, deQ_sim hh.sim e3, deQ_sim hh.sim e4, rd_mono hh e5, rd_mono hh e6]
def G23 := pureH de23 TxOk fun _ => bv true
set_option maxRecDepth 100000 in
set_option maxHeartbeats 8000000 in
theorem P23 : P0 [] 23 G23 := by
  refine mkH 6 (S := []) (l := []) tb_nil Tryd.func23 rfl (by kernel_rfl) de23_mono (fun h l x e => by obtain ⟨a, b, c, d, x, y, rfl, _⟩ := de23_out e; exact Nat.le_refl _) (fun a => rfl) (fun args v h n e hp hn => ?_)
  obtain ⟨xa, xb, xc, xd, ta, tb, rfl, e1, e2, e3, e4, e5, e6⟩ := de23_out e
  obtain ⟨sc, sc2, q, q2, t, t2⟩ := v
  obtain ⟨hh1, hh2, hh3, hss, hqb, hsm⟩ := hp
  simp only [] at hh1 hh2 hh3 e1 e2 e3 e4 e5 e6 hss hqb hsm
  subst hh1; subst hh2; subst hh3
  have hbe : ∀ y : ByteArray, (y == y) = true := fun y => by rw [ba_beq]
  have hbn : ∀ y : ByteArray, (y != y) = false := fun y => by show (!(y == y)) = false; rw [hbe]; rfl
  have hp' : t2.length * 64 ≤ 140737488355328 := hsm
  obtain ⟨hs1, hs2⟩ := hss
  obtain ⟨a1, rfl, r1⟩ := deSc_out e1
  obtain ⟨a2, rfl, r2⟩ := deSc_out e2
  obtain ⟨b1, b2, b3, rfl, i1, i2, i3⟩ := deQ_out e3
  obtain ⟨c1, c2, c3, rfl, j1, j2, j3⟩ := deQ_out e4
  have o1 := (sl_is r1).2.2.2.1
  have o2 := (sl_is r2).2.2.2.1
  have o3 := (sl_is i1).2.2.2.1
  have o4 := (sl_is i2).2.2.2.1
  have o5 := (sl_is i3).2.2.2.1
  have o6 := (sl_is j1).2.2.2.1
  have o7 := (sl_is j2).2.2.2.1
  have o8 := (sl_is j3).2.2.2.1
  have l1 := (sl_is r1).2.1
  have l2 := (sl_is r2).2.1
  have l3 := (sl_is i1).2.1
  have l4 := (sl_is j1).2.1
  have l5 := (sl_is e5).2.1
  have l6 := (sl_is e6).2.1
  have m1 := (sl_is r1).1
  have m2 := (sl_is r2).1
  have m3 := (sl_is i1).1
  have m4 := (sl_is j1).1
  have m5 := (sl_is e5).1
  have m6 := (sl_is e6).1
  have n1 := (sl_is r1).2.2.1
  have n2 := (sl_is r2).2.2.1
  have n3 := (sl_is i1).2.2.1
  have n4 := (sl_is j1).2.2.1
  have n5 := (sl_is e5).2.2.1
  have n6 := (sl_is e6).2.2.1
  have key : ∀ e : Nat → AV, e 0 = .g [a1] → e 1 = .g [a2] → e 2 = .g [b1, ii q2.mode, ii q2.after, b2, ii q2.within, ss q2.par, b3] → e 3 = .g [c1, ii q2.mode, ii q2.after, c2, ii q2.within, ss q2.par, c3] → e 4 = ta → e 5 = tb → awp (cx [] (pfL [])) (Tryd.f23.body.getD .skip) (finQ (cx [] (pfL [])) Tryd.f23 fun z _ _ => z = bv true) ⟨e, roH h, n⟩ := fun e p0 p1 p2 p3 p4 p5 => by
    simp [evs, resAll, resVal, resOne, freeOp, isA, goOp, appNew, mkOp, gev, Region.binds, aop, aeval, gocall, heapOp, quietOp, ev, constAV, setd, yav, ystop, up, env0, cx_ti, cx_G, cx_pf, ti, globS, glob, pfL, lds, ldc, ldcs_1, ldcs_2, ldcs_3, ldcs_4, ldcs_5, ldcs_7, sts, sth, sls.eq_1, slc.eq_1, wr, place, fillOk, fillC, repZ, binI, isDiv, optInt, optI, eksOk, eksEq, EK.ok, EK.eq, AV.i, AV.isI, AV.isInt, AV.str, AV.isStr, AV.ones, AV.isPtr, AV.gl, AV.isG, Value.oneCell', Tryd.f23, p0, p1, p2, p3, p4, p5, ii, ss, o1, o2, o3, o4, o5, o6, o7, o8, l1, l2, l3, l4, l5, l6, m1, m2, m3, m4, m5, m6, n1, n2, n3, n4, n5, n6, bv]
    refine awp_loop (fun s => ∃ i : Nat, i ≤ sc2.length ∧ s.e 13 = ii i ∧ s.e 4 = ta ∧ s.e 5 = tb ∧ s.e 6 = .p n 0 0 ∧ s.e 7 = .p (n + 1) 0 0 ∧ s.e 8 = .p (n + 2) 0 0 ∧ s.e 9 = .p (n + 3) 0 0 ∧ agree n (roH h) s.h ∧ s.h n = some ⟨[a1], 0, true, 1⟩ ∧ s.h (n + 1) = some ⟨[a2], 0, true, 1⟩ ∧ s.h (n + 2) = some ⟨[b1, ii q2.mode, ii q2.after, b2, ii q2.within, ss q2.par, b3], 0, true, 7⟩ ∧ s.h (n + 3) = some ⟨[c1, ii q2.mode, ii q2.after, c2, ii q2.within, ss q2.par, c3], 0, true, 7⟩) (fun s => sc2.length - (s.e 13).i.toNat) ⟨0, by simp [up, p4, p5, ii, ss, agree_up, agree_refl]⟩ ?_
    rintro e' h' n' ⟨i, hi, q13, q4, q5, q6, q7, q8, q9, hag, b0, b1', b2', b3'⟩
    simp only [] at q13 q4 q5 q6 q7 q8 q9 hag b0 b1' b2' b3'
    by_cases hlt : i < sc2.length
    · rcases tys_at r1 with ⟨h0, _⟩ | ⟨id, off, k, rfl, hk, ho, hat⟩
      · rw [h0] at hlt; simp at hlt
      rcases tys_at r2 with ⟨h0, _⟩ | ⟨id2, off2, k2, rfl, hk2, ho2, hat2⟩
      · rw [h0] at hlt; simp at hlt
      obtain ⟨d0, x1, d1, dr⟩ := hat i hlt
      obtain ⟨g0, x2, g1, gr⟩ := hat2 i hlt
      have ha1 := agree_at hn hk hag
      have ha2 := agree_at hn hk2 hag
      obtain ⟨u1, u2, u3, u4, u5⟩ := sl_is dr
      obtain ⟨v1, v2, v3, v4, v5⟩ := sl_is gr
      have w1 : off + (i * 2 + 1) ≤ k.cells.length := by omega
      have w2 : off + (i * 2 + 2) ≤ k.cells.length := by omega
      have w3 : off2 + (i * 2 + 1) ≤ k2.cells.length := by omega
      have w4 : off2 + (i * 2 + 2) ≤ k2.cells.length := by omega
      have hwi := wrap_nat (j := i) (by omega)
      have hab := hs2 _ (List.getElem_mem hlt)
      generalize sc2[i] = ty at *
      simp only [ss] at d0 g0
      simp [evs, resAll, resVal, resOne, freeOp, isA, goOp, appNew, mkOp, gev, Region.binds, aop, aeval, gocall, heapOp, quietOp, ev, constAV, setd, yav, ystop, up, env0, cx_ti, cx_G, cx_pf, ti, globS, glob, pfL, lds, ldc, ldcs_1, ldcs_2, ldcs_3, ldcs_4, ldcs_5, ldcs_7, sts, sth, sls.eq_1, slc.eq_1, wr, place, fillOk, fillC, repZ, binI, isDiv, optInt, optI, eksOk, eksEq, EK.ok, EK.eq, AV.i, AV.isI, AV.isInt, AV.str, AV.isStr, AV.ones, AV.isPtr, AV.gl, AV.isG, Value.oneCell', q4, q5, q6, q7, q8, q9, ii, ss, b0, b1', b2', b3', bv, hbe, hbn, q13, hlt, ha1, ha2, d0, d1, g0, g1, w1, w2, w3, w4, u1, u2, u3, v1, v2, v3, hwi]
      refine awp_loop (fun s => ∃ j : Nat, j ≤ ty.attrs.length ∧ s.e 14 = ii j ∧ s.e 13 = ii i ∧ s.e 4 = ta ∧ s.e 5 = tb ∧ s.e 6 = .p n 0 0 ∧ s.e 7 = .p (n + 1) 0 0 ∧ s.e 8 = .p (n + 2) 0 0 ∧ s.e 9 = .p (n + 3) 0 0 ∧ agree n (roH h) s.h ∧ s.h n = some ⟨[.s id k.ver off sc2.length], 0, true, 1⟩ ∧ s.h (n + 1) = some ⟨[.s id2 k2.ver off2 sc2.length], 0, true, 1⟩ ∧ s.h (n + 2) = some ⟨[b1, ii q2.mode, ii q2.after, b2, ii q2.within, ss q2.par, b3], 0, true, 7⟩ ∧ s.h (n + 3) = some ⟨[c1, ii q2.mode, ii q2.after, c2, ii q2.within, ss q2.par, c3], 0, true, 7⟩) (fun s => ty.attrs.length - (s.e 14).i.toNat) ⟨0, by simp [up, q4, q5, q6, q7, q8, q9, q13, ii, ss, hag, b0, b1', b2', b3']⟩ ?_
      clear q4 q5 q6 q7 q8 q9 q13 hag b0 b1' b2' b3' ha1 ha2
      rintro e' h' n' ⟨j, hj, q14, q13, q4, q5, q6, q7, q8, q9, hag, b0, b1', b2', b3'⟩
      simp only [] at q14 q13 q4 q5 q6 q7 q8 q9 hag b0 b1' b2' b3'
      have ha1 := agree_at hn hk hag
      have ha2 := agree_at hn hk2 hag
      have hwj := wrap_nat (j := j) (by omega)
      by_cases hlj : j < ty.attrs.length
      · rcases ss_at dr with ⟨h0, _⟩ | ⟨id3, off3, k3, rfl, hk3, ho3, hat3⟩
        · rw [h0] at hlj; simp at hlj
        rcases ss_at gr with ⟨h0, _⟩ | ⟨id4, off4, k4, rfl, hk4, ho4, hat4⟩
        · rw [h0] at hlj; simp at hlj
        have y1 := hat3 j hlj
        have y2 := hat4 j hlj
        have ha3 := agree_at hn hk3 hag
        have ha4 := agree_at hn hk4 hag
        have w5 : off3 + (j + 1) ≤ k3.cells.length := by omega
        have w6 : off4 + (j + 1) ≤ k4.cells.length := by omega
        generalize ty.attrs[j] = sj at *
        simp only [ss] at y1 y2
        simp [evs, resAll, resVal, resOne, freeOp, isA, goOp, appNew, mkOp, gev, Region.binds, aop, aeval, gocall, heapOp, quietOp, ev, constAV, setd, yav, ystop, up, env0, cx_ti, cx_G, cx_pf, ti, globS, glob, pfL, lds, ldc, ldcs_1, ldcs_2, ldcs_3, ldcs_4, ldcs_5, ldcs_7, sts, sth, sls.eq_1, slc.eq_1, wr, place, fillOk, fillC, repZ, binI, isDiv, optInt, optI, eksOk, eksEq, EK.ok, EK.eq, AV.i, AV.isI, AV.isInt, AV.str, AV.isStr, AV.ones, AV.isPtr, AV.gl, AV.isG, Value.oneCell', q4, q5, q6, q7, q8, q9, ii, ss, b0, b1', b2', b3', bv, hbe, hbn, q13, hlt, ha1, ha2, d0, d1, g0, g1, w1, w2, w3, w4, u1, u2, u3, v1, v2, v3, hwi, q14, hlj, ha3, ha4, y1, y2, w5, w6, hwj]
        exact ⟨⟨j + 1, by omega, by omega, hag⟩, by omega⟩
      · obtain rfl : j = ty.attrs.length := by omega
        simp [evs, resAll, resVal, resOne, freeOp, isA, goOp, appNew, mkOp, gev, Region.binds, aop, aeval, gocall, heapOp, quietOp, ev, constAV, setd, yav, ystop, up, env0, cx_ti, cx_G, cx_pf, ti, globS, glob, pfL, lds, ldc, ldcs_1, ldcs_2, ldcs_3, ldcs_4, ldcs_5, ldcs_7, sts, sth, sls.eq_1, slc.eq_1, wr, place, fillOk, fillC, repZ, binI, isDiv, optInt, optI, eksOk, eksEq, EK.ok, EK.eq, AV.i, AV.isI, AV.isInt, AV.str, AV.isStr, AV.ones, AV.isPtr, AV.gl, AV.isG, Value.oneCell', q4, q5, q6, q7, q8, q9, ii, ss, b0, b1', b2', b3', bv, hbe, hbn, q13, hlt, ha1, ha2, d0, d1, g0, g1, w1, w2, w3, w4, u1, u2, u3, v1, v2, v3, hwi, q14, hwj]
        exact ⟨⟨i + 1, by omega, by omega, hag⟩, by omega⟩
    obtain rfl : i = sc2.length := by omega
    simp [evs, resAll, resVal, resOne, freeOp, isA, goOp, appNew, mkOp, gev, Region.binds, aop, aeval, gocall, heapOp, quietOp, ev, constAV, setd, yav, ystop, up, env0, cx_ti, cx_G, cx_pf, ti, globS, glob, pfL, lds, ldc, ldcs_1, ldcs_2, ldcs_3, ldcs_4, ldcs_5, ldcs_7, sts, sth, sls.eq_1, slc.eq_1, wr, place, fillOk, fillC, repZ, binI, isDiv, optInt, optI, eksOk, eksEq, EK.ok, EK.eq, AV.i, AV.isI, AV.isInt, AV.str, AV.isStr, AV.ones, AV.isPtr, AV.gl, AV.isG, Value.oneCell', q4, q5, q6, q7, q8, q9, ii, ss, b0, b1', b2', b3', bv, hbe, hbn, q13, m1, m2, m3, m4, m5, m6, n1, n2, n3, n4, n5, n6, l1, l2, l3, l4, l5, l6, o1, o2, o3, o4, o5, o6, o7, o8]
    refine awp_loop (fun s => ∃ i : Nat, i ≤ q2.items.length ∧ s.e 15 = ii i ∧ s.e 4 = ta ∧ s.e 5 = tb ∧ s.e 6 = .p n 0 0 ∧ s.e 7 = .p (n + 1) 0 0 ∧ s.e 8 = .p (n + 2) 0 0 ∧ s.e 9 = .p (n + 3) 0 0 ∧ agree n (roH h) s.h ∧ s.h n = some ⟨[a1], 0, true, 1⟩ ∧ s.h (n + 1) = some ⟨[a2], 0, true, 1⟩ ∧ s.h (n + 2) = some ⟨[b1, ii q2.mode, ii q2.after, b2, ii q2.within, ss q2.par, b3], 0, true, 7⟩ ∧ s.h (n + 3) = some ⟨[c1, ii q2.mode, ii q2.after, c2, ii q2.within, ss q2.par, c3], 0, true, 7⟩) (fun s => q2.items.length - (s.e 15).i.toNat) ⟨0, by simp [up, q4, q5, q6, q7, q8, q9, ii, ss, hag, b0, b1', b2', b3']⟩ ?_
    clear q4 q5 q6 q7 q8 q9 q13 hag b0 b1' b2' b3'
    rintro e' h' n' ⟨i, hi, q15, q4, q5, q6, q7, q8, q9, hag, b0, b1', b2', b3'⟩
    simp only [] at q15 q4 q5 q6 q7 q8 q9 hag b0 b1' b2' b3'
    by_cases hlt : i < q2.items.length
    · rcases its_at i1 with ⟨h0, _⟩ | ⟨id, off, k, rfl, hk, ho, hat⟩
      · rw [h0] at hlt; simp at hlt
      rcases its_at j1 with ⟨h0, _⟩ | ⟨id2, off2, k2, rfl, hk2, ho2, hat2⟩
      · rw [h0] at hlt; simp at hlt
      have d0 := hat i hlt
      have g0 := hat2 i hlt
      have ha1 := agree_at hn hk hag
      have ha2 := agree_at hn hk2 hag
      have w1 : off + (i * 5 + 3) ≤ k.cells.length := by omega
      have w3 : off2 + (i * 5 + 3) ≤ k2.cells.length := by omega
      have hwi := wrap_nat (j := i) (by omega)
      generalize q2.items[i].var = ty at *
      simp only [ss] at d0 g0
      simp [evs, resAll, resVal, resOne, freeOp, isA, goOp, appNew, mkOp, gev, Region.binds, aop, aeval, gocall, heapOp, quietOp, ev, constAV, setd, yav, ystop, up, env0, cx_ti, cx_G, cx_pf, ti, globS, glob, pfL, lds, ldc, ldcs_1, ldcs_2, ldcs_3, ldcs_4, ldcs_5, ldcs_7, sts, sth, sls.eq_1, slc.eq_1, wr, place, fillOk, fillC, repZ, binI, isDiv, optInt, optI, eksOk, eksEq, EK.ok, EK.eq, AV.i, AV.isI, AV.isInt, AV.str, AV.isStr, AV.ones, AV.isPtr, AV.gl, AV.isG, Value.oneCell', q4, q5, q6, q7, q8, q9, ii, ss, b0, b1', b2', b3', bv, hbe, hbn, q15, hlt, ha1, ha2, d0, g0, w1, w3, hwi]
      exact ⟨⟨i + 1, by omega, by omega, hag⟩, by omega⟩
    obtain rfl : i = q2.items.length := by omega
    simp [evs, resAll, resVal, resOne, freeOp, isA, goOp, appNew, mkOp, gev, Region.binds, aop, aeval, gocall, heapOp, quietOp, ev, constAV, setd, yav, ystop, up, env0, cx_ti, cx_G, cx_pf, ti, globS, glob, pfL, lds, ldc, ldcs_1, ldcs_2, ldcs_3, ldcs_4, ldcs_5, ldcs_7, sts, sth, sls.eq_1, slc.eq_1, wr, place, fillOk, fillC, repZ, binI, isDiv, optInt, optI, eksOk, eksEq, EK.ok, EK.eq, AV.i, AV.isI, AV.isInt, AV.str, AV.isStr, AV.ones, AV.isPtr, AV.gl, AV.isG, Value.oneCell', q4, q5, q6, q7, q8, q9, ii, ss, b0, b1', b2', b3', bv, hbe, hbn, q15, m1, m2, m3, m4, m5, m6, n1, n2, n3, n4, n5, n6, l1, l2, l3, l4, l5, l6, o1, o2, o3, o4, o5, o6, o7, o8]
    refine awp_loop (fun s => ∃ i : Nat, i ≤ t2.length ∧ s.e 16 = ii i ∧ s.e 4 = ta ∧ s.e 5 = tb ∧ s.e 6 = .p n 0 0 ∧ s.e 7 = .p (n + 1) 0 0 ∧ s.e 8 = .p (n + 2) 0 0 ∧ s.e 9 = .p (n + 3) 0 0 ∧ agree n (roH h) s.h ∧ s.h n = some ⟨[a1], 0, true, 1⟩ ∧ s.h (n + 1) = some ⟨[a2], 0, true, 1⟩ ∧ s.h (n + 2) = some ⟨[b1, ii q2.mode, ii q2.after, b2, ii q2.within, ss q2.par, b3], 0, true, 7⟩ ∧ s.h (n + 3) = some ⟨[c1, ii q2.mode, ii q2.after, c2, ii q2.within, ss q2.par, c3], 0, true, 7⟩) (fun s => t2.length - (s.e 16).i.toNat) ⟨0, by simp [up, q4, q5, q6, q7, q8, q9, ii, ss, hag, b0, b1', b2', b3']⟩ ?_
    clear q4 q5 q6 q7 q8 q9 q15 hag b0 b1' b2' b3'
    rintro e' h' n' ⟨i, hi, q16, q4, q5, q6, q7, q8, q9, hag, b0, b1', b2', b3'⟩
    simp only [] at q16 q4 q5 q6 q7 q8 q9 hag b0 b1' b2' b3'
    by_cases hlt : i < t2.length
    · rcases ns_at e5 with ⟨h0, _⟩ | ⟨id, off, k, rfl, hk, ho, hat⟩
      · rw [h0] at hlt; simp at hlt
      rcases ns_at e6 with ⟨h0, _⟩ | ⟨id2, off2, k2, rfl, hk2, ho2, hat2⟩
      · rw [h0] at hlt; simp at hlt
      have d0 := hat i hlt
      have g0 := hat2 i hlt
      have ha1 := agree_at hn hk hag
      have ha2 := agree_at hn hk2 hag
      have w1 : off + (i * 6 + 6) ≤ k.cells.length := by omega
      have w3 : off2 + (i * 6 + 6) ≤ k2.cells.length := by omega
      have hwi := wrap_nat (j := i) (by unfold big; omega)
      have hle1 : ∀ (X : Ctx) (h' : Heap), h' id = some ⟨k.cells, k.ver, false, k.esz⟩ → ldcs X h' (.p id k.ver (off + i * 6)) 0 6 = ncells t2[i] := fun X h' e => ldcs_nd e d0
      have hle2 : ∀ (X : Ctx) (h' : Heap), h' id2 = some ⟨k2.cells, k2.ver, false, k2.esz⟩ → ldcs X h' (.p id2 k2.ver (off2 + i * 6)) 0 6 = ncells t2[i] := fun X h' e => ldcs_nd e g0
      generalize t2[i] = x at *
      obtain ⟨op, num, var, attr, xa, xb⟩ := x
      simp [evs, resAll, resVal, resOne, freeOp, isA, goOp, appNew, mkOp, gev, Region.binds, aop, aeval, gocall, heapOp, quietOp, ev, constAV, setd, yav, ystop, up, env0, cx_ti, cx_G, cx_pf, ti, globS, glob, pfL, lds, ldc, ldcs_1, ldcs_2, ldcs_3, ldcs_4, ldcs_5, ldcs_7, sts, sth, sls.eq_1, slc.eq_1, wr, place, fillOk, fillC, repZ, binI, isDiv, optInt, optI, eksOk, eksEq, EK.ok, EK.eq, AV.i, AV.isI, AV.isInt, AV.str, AV.isStr, AV.ones, AV.isPtr, AV.gl, AV.isG, Value.oneCell', q4, q5, q6, q7, q8, q9, ii, ss, b0, b1', b2', b3', bv, hbe, hbn, q16, hlt, ha1, ha2, hle1, hle2, w1, w3, hwi, ncells]
      exact ⟨⟨i + 1, by omega, by omega, hag⟩, by omega⟩
    obtain rfl : i = t2.length := by omega
    simp [evs, resAll, resVal, resOne, freeOp, isA, goOp, appNew, mkOp, gev, Region.binds, aop, aeval, gocall, heapOp, quietOp, ev, constAV, setd, yav, ystop, up, env0, cx_ti, cx_G, cx_pf, ti, globS, glob, pfL, lds, ldc, ldcs_1, ldcs_2, ldcs_3, ldcs_4, ldcs_5, ldcs_7, sts, sth, sls.eq_1, slc.eq_1, wr, place, fillOk, fillC, repZ, binI, isDiv, optInt, optI, eksOk, eksEq, EK.ok, EK.eq, AV.i, AV.isI, AV.isInt, AV.str, AV.isStr, AV.ones, AV.isPtr, AV.gl, AV.isG, Value.oneCell', q4, q5, q6, q7, q8, q9, ii, ss, b0, b1', b2', b3', bv, hbe, hbn, q16, m1, m2, m3, m4, m5, m6, n1, n2, n3, n4, n5, n6, l1, l2, l3, l4, l5, l6, o1, o2, o3, o4, o5, o6, o7, o8]
  exact key _ rfl rfl rfl rfl rfl rfl
end Go.Proofs.YtkfphaphiikloaaDoor
