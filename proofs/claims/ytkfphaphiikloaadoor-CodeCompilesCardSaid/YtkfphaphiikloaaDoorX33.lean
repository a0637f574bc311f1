/-
  COMPILING, PART S: the document's side: the instructions of a tree.
-/
import Derived.Test.YtkfphaphiikloaaDoorX32
import Derived.Test.YtkfphaphiikloaaDoorX16
set_option linter.unusedSimpArgs false
set_option linter.unusedVariables false
set_option linter.constructorNameAsVariable false
namespace Go.Proofs.YtkfphaphiikloaaDoor
open Go Go.Eng

/-- What stands when the sizes are known. -/
structure A59 (h0 : Heap) (n : Nat) (qc : List AV) (la ta : AV) (t : List Nd) (lo : Nat → Nat) (ws us : Nat) (s : St) : Prop where
  q1 : s.e 1 = la
  q2 : s.e 2 = ta
  q3 : s.e 3 = .p n 0 0
  q7 : s.e 7 = .s ws us 0 t.length
  k3 : s.h n = some ⟨qc, 0, true, 7⟩
  ks : s.h ws = some ⟨(szL t lo t.length).map ii, us, true, 1⟩
  w : n < ws ∧ ws < s.n
  ag : agree n h0 s.h
  fr : Fresh s.n s.h
section
set_option maxRecDepth 100000
set_option maxHeartbeats 4000000
variable {h : Heap} {n : Nat} {qc : List AV} {la ta qx : AV} {vs : List ByteArray} {t : List Nd} {lo : Nat → Nat} {q : Qu} {ws us wo wb i : Nat}
theorem c59p (T : Tre t lo) (hp : smallT t) (e5 : rd dNs h ta = some t) (hn : Fresh n h) {qa qb qd : AV} (o1 : qa.one) (o2 : qb.one) (o3 : qd.one) (e : Nat → AV) (q0 : e 0 = .g [qa, ii q.mode, ii q.after, qb, ii q.within, ss q.par, qd]) (q1 : e 1 = la) (q2 : e 2 = ta) {Q : Ex → St → Prop} :
    awp (cx [] (pfL tb59)) (hdC 2 (Tryd.f59.body.getD .skip)) (thenQ (fun s => ∃ ws us, A59 h n [qa, ii q.mode, ii q.after, qb, ii q.within, ss q.par, qd] la ta t lo ws us s) Q) ⟨e, h, n⟩ := by
  obtain ⟨s1, s2, s3, s4, s5⟩ := sl_is e5
  have hfr : ∀ b, Fresh (n + 1) (up h n b) := fun b => (fresh_up (by omega) _).2 (hn.add 1)
  have hag : ∀ b, agree n h (up h n b) := fun b => (agree_up (Nat.le_refl _) _).2 (agree_refl _ _)
  simp [evs, resAll, resVal, resOne, freeOp, isA, goOp, appNew, mkOp, gev, Region.binds, aop, aeval, gocall, heapOp, quietOp, ev, constAV, setd, yav, ystop, up, env0, cx_ti, cx_G, cx_pf, ti, globS, glob, pfL, lds, ldc, ldcs_1, ldcs_2, ldcs_3, ldcs_4, ldcs_5, ldcs_7, sts, sth, sls.eq_1, slc.eq_1, wr, place, fillOk, fillC, repZ, binI, isDiv, optInt, optI, eksOk, eksEq, EK.ok, EK.eq, AV.i, AV.isI, AV.isInt, AV.str, AV.isStr, AV.ones, AV.isPtr, AV.gl, AV.isG, Value.oneCell', hdC, Tryd.f59, q0, q1, q2, ii, ss, o1, o2, o3, s3]
  refine (acall_any (S := []) (by simp) (c99 T hp (rd_agr hn e5 _ (hag _)) (hfr _))).mono ?_
  rintro z h2 n2 ⟨a1, a2, a3, a4⟩
  have hpos := T.pos
  rcases a4 with ⟨z0, _⟩ | ⟨w, u, rfl, z2, z3, z4⟩
  · omega
  try simp [evs, resAll, resVal, resOne, freeOp, isA, goOp, appNew, mkOp, gev, Region.binds, aop, aeval, gocall, heapOp, quietOp, ev, constAV, setd, yav, ystop, up, env0, cx_ti, cx_G, cx_pf, ti, globS, glob, pfL, lds, ldc, ldcs_1, ldcs_2, ldcs_3, ldcs_4, ldcs_5, ldcs_7, sts, sth, sls.eq_1, slc.eq_1, wr, place, fillOk, fillC, repZ, binI, isDiv, optInt, optI, eksOk, eksEq, EK.ok, EK.eq, AV.i, AV.isI, AV.isInt, AV.str, AV.isStr, AV.ones, AV.isPtr, AV.gl, AV.isG, Value.oneCell']
  exact ⟨w, u, by simp [up, q1], by simp [up, q2], by simp [up], by simp [up], by simp only []; rw [a1 n (by omega), up_same], z2, ⟨by omega, z4⟩, fun j hj => (a1 j (by omega)).trans (hag _ j hj), a2⟩
theorem base_zero {bl : List Int} (T : Tre t lo) (hb : bl = List.replicate t.length 0) : BaseOk t lo t.length bl := by
  subst hb
  refine ⟨by simp, fun j hj h => ?_⟩
  rcases h with rfl | ⟨p, hp, h1, _⟩
  · rw [T.root]
    simp [hj, posT]
  · omega
theorem c59q (T : Tre t lo) (hp : smallT t) (e5 : rd dNs h ta = some t) (hn : Fresh n h) (s : St) (a : A59 h n qc la ta t lo ws us s) {Q : Ex → St → Prop} :
    awp (cx [] (pfL tb59)) (hdC 2 (tlC 2 (Tryd.f59.body.getD .skip))) (thenQ (fun s' => ∃ wo wb, M59 h n qc la ta vs t lo ws us wo wb t.length s') Q) s := by
  obtain ⟨e, h1, n1⟩ := s
  obtain ⟨x1, x2, x3, x7, x8, x9, x10, x11, x12⟩ := a
  simp only [] at x1 x2 x3 x7 x8 x9 x10 x11 x12
  obtain ⟨s1, s2, s3, s4, s5⟩ := sl_is e5
  have hp' : t.length * 64 ≤ 140737488355328 := hp
  have hpos := T.pos
  have hfew := few T
  obtain ⟨m, hm⟩ : ∃ m, t.length = m + 1 := ⟨t.length - 1, by omega⟩
  have hmt : m < t.length := by omega
  have w1 : ((t.length : Int) - 1) = (m : Int) := by omega
  have hsl : ((szL t lo t.length).map ii).length = t.length := by rw [List.length_map, szL_len]
  have hms : m < ((szL t lo t.length).map ii).length := by omega
  have hse := sz_end T
  rw [hm, Nat.add_sub_cancel, ← hm] at hse
  have hsg : ((szL t lo t.length).map ii)[m]'hms = .v (.int .i64 (posT t t.length)) := by
    rw [List.getElem_map]
    simp [szL, hse]; rfl
  have y0 : ¬ ws = n1 := by omega
  have y1 : ¬ ws = n1 + 1 := by omega
  have hm1 : m + 1 ≤ t.length := hmt
  have b1 : posT t t.length * 40 ≤ 140737488355328 := by omega
  have b2 : posT t t.length ≤ 9223372036854775807 := by omega
  have b3 : t.length * 8 ≤ 140737488355328 := by omega
  have b4 : t.length ≤ 9223372036854775807 := by omega
  have w0 : IntKind.i64.wrap (m : Int) = (m : Int) := W_id (by unfold Rng; omega)
  have r1 := repZ5 (posT t t.length)
  have r2 := repZ_rep t.length
  generalize hss : (szL t lo t.length).map ii = ss' at *
  simp [evs, resAll, resVal, resOne, freeOp, isA, goOp, appNew, mkOp, gev, Region.binds, aop, aeval, gocall, heapOp, quietOp, ev, constAV, setd, yav, ystop, up, env0, cx_ti, cx_G, cx_pf, ti, globS, glob, pfL, lds, ldc, ldcs_1, ldcs_2, ldcs_3, ldcs_4, ldcs_5, ldcs_7, sts, sth, sls.eq_1, slc.eq_1, wr, place, fillOk, fillC, repZ, binI, isDiv, optInt, optI, eksOk, eksEq, EK.ok, EK.eq, AV.i, AV.isI, AV.isInt, AV.str, AV.isStr, AV.ones, AV.isPtr, AV.gl, AV.isG, Value.oneCell', hdC, tlC, Tryd.f59, x1, x2, x3, x7, x9, ii, s1, s2, s3, w1, w0, hmt, hm1, hsl, hsg, y0, y1, b1, b2, b3, b4]
  refine ⟨⟨by omega, by omega⟩, ⟨by omega, by omega⟩, n1, n1 + 1, by simpa [up] using x1, by simpa [up] using x2, by simpa [up] using x3, by simpa [up] using x7, by simp [up], by simp [up], ?_, ?_, ?_, ⟨List.replicate t.length 0, base_zero T rfl, ?_⟩, ⟨by omega, by omega, by omega, by simp⟩, ?_, ?_⟩
  · simp only []; rw [up_ne _ _ (by omega), up_ne _ _ (by omega)]; exact x8
  · simp only []; rw [up_ne _ _ (by omega), up_ne _ _ (by omega), hss]; exact x9
  · simp only []; rw [up_ne _ _ (by omega), up_same, r1, ref_zero]
  · simp only []; rw [up_same, r2]
  · exact (agree_up (by omega) _).2 ((agree_up (by omega) _).2 x11)
  · exact (fresh_up (by simp) _).2 ((fresh_up (by simp) _).2 (x12.add 2))
/-- The loop from the root down to the first node. -/
theorem c59l (T : Tre t lo) (hp : smallT t) (e5 : rd dNs h ta = some t) (hn : Fresh n h) (hvs : vs = vars q.items) (hq : q.items.length < big) (gq : ∀ h', agree n h h' → deQ h' (.g qc) = some q) (hql : qc.length = 7) (gl : rd dSs h la = some (namesOf t)) (s : St) (a : M59 h n qc la ta vs t lo ws us wo wb t.length s) {Q : Ex → St → Prop} :
    awp (cx [] (pfL tb59)) (hdC 1 (tlC 4 (Tryd.f59.body.getD .skip))) (thenQ (M59 h n qc la ta vs t lo ws us wo wb 0) Q) s := by
  obtain ⟨e, h1, n1⟩ := s
  have a0 := a
  have x2 := a.q2
  simp only [] at x2
  obtain ⟨s1, s2, s3, s4, s5⟩ := sl_is e5
  have hp' : t.length * 64 ≤ 140737488355328 := hp
  have hpos := T.pos
  have w0 : IntKind.i64.wrap ((t.length : Int) - 1) = (t.length : Int) - 1 := W_id (by unfold Rng; omega)
  have e0 : hdC 1 (tlC 4 (Tryd.f59.body.getD .skip)) = .seq (hdC 1 (hdC 1 (tlC 4 (Tryd.f59.body.getD .skip)))) (.block 0 (.loop c59L)) := rfl
  rw [e0]
  simp [evs, resAll, resVal, resOne, freeOp, isA, goOp, appNew, mkOp, gev, Region.binds, aop, aeval, gocall, heapOp, quietOp, ev, constAV, setd, yav, ystop, up, env0, cx_ti, cx_G, cx_pf, ti, globS, glob, pfL, lds, ldc, ldcs_1, ldcs_2, ldcs_3, ldcs_4, ldcs_5, ldcs_7, sts, sth, sls.eq_1, slc.eq_1, wr, place, fillOk, fillC, repZ, binI, isDiv, optInt, optI, eksOk, eksEq, EK.ok, EK.eq, AV.i, AV.isI, AV.isInt, AV.str, AV.isStr, AV.ones, AV.isPtr, AV.gl, AV.isG, Value.oneCell', hdC, tlC, Tryd.f59, x2, s1, s2, s3, w0]
  refine awp_loop (fun s => ∃ k : Nat, k ≤ t.length ∧ s.e 10 = ii ((k : Int) - 1) ∧ M59 h n qc la ta vs t lo ws us wo wb k s) (fun s => ((s.e 10).i + 1).toNat) ⟨t.length, by omega, by simp [up, ii], a0.same (by simp [up])⟩ ?_
  rintro e' h' n' ⟨k, hk, q10, a⟩
  simp only [] at q10
  rcases k with _ | i
  · simp [evs, resAll, resVal, resOne, freeOp, isA, goOp, appNew, mkOp, gev, Region.binds, aop, aeval, gocall, heapOp, quietOp, ev, constAV, setd, yav, ystop, up, env0, cx_ti, cx_G, cx_pf, ti, globS, glob, pfL, lds, ldc, ldcs_1, ldcs_2, ldcs_3, ldcs_4, ldcs_5, ldcs_7, sts, sth, sls.eq_1, slc.eq_1, wr, place, fillOk, fillC, repZ, binI, isDiv, optInt, optI, eksOk, eksEq, EK.ok, EK.eq, AV.i, AV.isI, AV.isInt, AV.str, AV.isStr, AV.ones, AV.isPtr, AV.gl, AV.isG, Value.oneCell', hdC, tlC, c59L, bodyL, Tryd.f59, q10, ii]
    exact a.same (by simp [up])
  · have q10' : e' 10 = ii i := by rw [q10]; congr 1; omega
    have hw : IntKind.i64.wrap ((i : Int) - 1) = (i : Int) - 1 := W_id (by unfold Rng; omega)
    have hi : i < t.length := by omega
    refine awp_cut 1 _ _ (R := fun s => s.e 10 = ii i ∧ M59 h n qc la ta vs t lo ws us wo wb (i + 1) s) ?_ fun e2 h2 n2 ⟨k10, a2⟩ => ?_
    · simp [evs, resAll, resVal, resOne, freeOp, isA, goOp, appNew, mkOp, gev, Region.binds, aop, aeval, gocall, heapOp, quietOp, ev, constAV, setd, yav, ystop, up, env0, cx_ti, cx_G, cx_pf, ti, globS, glob, pfL, lds, ldc, ldcs_1, ldcs_2, ldcs_3, ldcs_4, ldcs_5, ldcs_7, sts, sth, sls.eq_1, slc.eq_1, wr, place, fillOk, fillC, repZ, binI, isDiv, optInt, optI, eksOk, eksEq, EK.ok, EK.eq, AV.i, AV.isI, AV.isInt, AV.str, AV.isStr, AV.ones, AV.isPtr, AV.gl, AV.isG, Value.oneCell', hdC, tlC, c59L, bodyL, Tryd.f59, q10', ii]
      exact a.same (by simp [up])
    refine awp_cut 1 _ _ (R := fun s => s.e 10 = ii i ∧ M59 h n qc la ta vs t lo ws us wo wb i s) ?_ fun e3 h3 n3 ⟨k10', a3⟩ => ?_
    · have e1' : hdC 1 (tlC 1 c59L) = .block 1 c59B := rfl
      rw [e1', awp_block]
      refine awp_cut 2 _ _ (c59a T hp e5 hn hi _ k10 a2) fun e4 h4 n4 ⟨m10, m11, m12, a4⟩ => ?_
      have fini : ∀ c, awp (cx [] (pfL tb59)) c (thenQ (fun s' => s'.e 10 = ii i ∧ M59 h n qc la ta vs t lo ws us wo wb i s') fun _ _ => False) ⟨e4, h4, n4⟩ → awp (cx [] (pfL tb59)) c (thenQ (fun s' => s'.e 10 = ii i ∧ M59 h n qc la ta vs t lo ws us wo wb i s') Q) ⟨e4, h4, n4⟩ := fun c hc => awp_mono _ (fun x s hx => by
        cases x with
        | normal => exact hx
        | exit id => exact hx.elim
        | ret => exact hx.elim) hc
      have hop := tree_op T hi
      by_cases o3 : t[i].op ≤ 3
      · exact fini _ (c59b1 T hp e5 hn hi o3 _ m10 m11 m12 a4)
      by_cases o11 : t[i].op ≤ 11
      · exact fini _ (c59b2 T hp e5 hn hvs hq gq hql gl hi ⟨by omega, o11⟩ _ m10 m11 m12 a4)
      by_cases o13 : t[i].op ≤ 13
      · exact fini _ (c59b3 T hp e5 hn hi (by omega) _ m10 m11 m12 a4)
      by_cases o24 : t[i].op < 25
      · exact fini _ (c59b4 T hp e5 hn hi ⟨by omega, o24⟩ _ m10 m11 m12 a4)
      · exact fini _ (c59b5 T hp e5 hn hi (by omega) _ m10 m11 m12 a4)
    · simp only [] at k10'
      simp [evs, resAll, resVal, resOne, freeOp, isA, goOp, appNew, mkOp, gev, Region.binds, aop, aeval, gocall, heapOp, quietOp, ev, constAV, setd, yav, ystop, up, env0, cx_ti, cx_G, cx_pf, ti, globS, glob, pfL, lds, ldc, ldcs_1, ldcs_2, ldcs_3, ldcs_4, ldcs_5, ldcs_7, sts, sth, sls.eq_1, slc.eq_1, wr, place, fillOk, fillC, repZ, binI, isDiv, optInt, optI, eksOk, eksEq, EK.ok, EK.eq, AV.i, AV.isI, AV.isInt, AV.str, AV.isStr, AV.ones, AV.isPtr, AV.gl, AV.isG, Value.oneCell', hdC, tlC, c59L, bodyL, Tryd.f59, k10', q10', ii, hw]
      exact ⟨⟨i, by omega, by simp [up, ii], a3.same (by simp [up])⟩, by omega⟩
/-- THE INSTRUCTIONS OF A TREE, as the document lays them down. -/
theorem c59 (T : Tre t lo) (hp : smallT t) (e5 : rd dNs h ta = some t) (hn : Fresh n h) (hvs : vs = vars q.items) (hq : q.items.length < big) (e2 : deQ h qx = some q) (gl : rd dSs h la = some (namesOf t)) :
    ACall (cx [] (pfL tb59)) 59 [qx, la, ta] h n fun z h' n' => agree n h h' ∧ Fresh n' h' ∧ ∃ w, z = .s w 0 0 (posT t t.length) ∧ h' w = some ⟨(codeT vs t).flatMap icells, 0, true, 5⟩ ∧ n ≤ w ∧ w < n' := by
  refine acall_of_awp (args := [qx, la, ta]) (pfL_ok tb59_ok) (mixed _ _) Tryd.func59 (c := Tryd.f59.body.getD .skip) rfl (by kernel_rfl) (callable Tryd.func59 rfl rfl _ _) (show 3 ≤ Tryd.f59.ntmps by decide +kernel) ?_
  obtain ⟨qa, qb, qd, rfl, y1, y2, y3⟩ := deQ_out e2
  have o1 := (sl_is y1).2.2.2.1
  have o2 := (sl_is y2).2.2.2.1
  have o3 := (sl_is y3).2.2.2.1
  have gq : ∀ h', agree n h h' → deQ h' (.g [qa, ii q.mode, ii q.after, qb, ii q.within, ss q.par, qd]) = some q := fun h' ha => deQ_in (rd_agr hn y1 _ ha) (rd_agr hn y2 _ ha) (rd_agr hn y3 _ ha)
  refine awp_cut 2 _ _ (c59p T hp e5 hn o1 o2 o3 _ rfl rfl rfl) fun e3 h3 n3 ⟨ws, us, a3⟩ => ?_
  refine awp_cut 2 _ _ (c59q (vs := vs) T hp e5 hn _ a3) fun e4 h4 n4 ⟨wo, wb, a4⟩ => ?_
  refine awp_cut 1 _ _ (c59l T hp e5 hn hvs hq gq rfl gl _ a4) fun e5' h5 n5 a5 => ?_
  obtain ⟨x1, x2, x3, x4, x5, x6, x7, x8, x9, _, x11, x12, x13⟩ := a5
  simp only [] at x1 x2 x3 x4 x5 x6 x7 x8 x9 x11 x12 x13
  rw [ref_end] at x9
  simp [evs, resAll, resVal, resOne, freeOp, isA, goOp, appNew, mkOp, gev, Region.binds, aop, aeval, gocall, heapOp, quietOp, ev, constAV, setd, yav, ystop, up, env0, cx_ti, cx_G, cx_pf, ti, globS, glob, pfL, lds, ldc, ldcs_1, ldcs_2, ldcs_3, ldcs_4, ldcs_5, ldcs_7, sts, sth, sls.eq_1, slc.eq_1, wr, place, fillOk, fillC, repZ, binI, isDiv, optInt, optI, eksOk, eksEq, EK.ok, EK.eq, AV.i, AV.isI, AV.isInt, AV.str, AV.isStr, AV.ones, AV.isPtr, AV.gl, AV.isG, Value.oneCell', hdC, tlC, Tryd.f59, x5]
  exact ⟨x12, x13, x9, by omega, by omega⟩
end
end Go.Proofs.YtkfphaphiikloaaDoor

/-
  THE PROGRAMS OF CONDITIONS, PART H: copies that share nothing: lists of events, programs.
-/
namespace Go.Proofs.YtkfphaphiikloaaDoor
open Go Go.Eng

/-- One list more. -/
theorem OwnF.snoc {α : Type} {en : α → List AV} {sz : Nat} {h h2 : Heap} {lo hi hi2 m : Nat} {f : Nat → Nat} {ll : List (List α)} {j : Nat} (o : OwnF en sz h lo hi f ll j) (hh : ∀ i, i < j → h2 (f i) = h (f i)) (h1 : lo ≤ hi) (h3 : hi ≤ m) (h4 : m < hi2)
    (hb : h2 m = some ⟨(ll.getD j []).flatMap en, 1, true, sz⟩) : OwnF en sz h2 lo hi2 (fun i => if i = j then m else f i) ll (j + 1) := by
  refine ⟨fun i hi' => ?_, fun i hi' => ?_, fun i k hi' hk' he => ?_⟩
  · split
    · omega
    · have := o.rng i (by omega); omega
  · split
    · rename_i e; subst e; exact hb
    · rw [hh i (by omega)]; exact o.blk i (by omega)
  · split at he
    · rename_i e
      split at he
      · omega
      · have := (o.rng k (by omega)).2; omega
    · split at he
      · have := (o.rng i (by omega)).2; omega
      · exact o.inj i k (by omega) (by omega) he
theorem lcells_snoc {α : Type} (f : Nat → Nat) (ll : List (List α)) (j m : Nat) : lcells (fun i => if i = j then m else f i) ll (j + 1) = lcells f ll j ++ [.s m 1 0 (ll.getD j []).length] := by
  rw [lcells_succ, lcells_congr (g := f) ll (fun i hi => by rw [if_neg (by omega)])]
  simp
def I28 (a : AV) (h : Heap) (n : Nat) (ll : List (List Ev)) (s : St) : Prop := ∃ j, j ≤ ll.length ∧ s.e 0 = a ∧ s.e 4 = ii j ∧ OwnL ecells 11 s.h n s.n (s.e 3) ll j ∧ agree n h s.h ∧ Fresh s.n s.h ∧ n ≤ s.n
set_option maxRecDepth 100000 in
set_option maxHeartbeats 4000000 in
theorem c28 {h : Heap} {n : Nat} {a : AV} {ll : List (List Ev)} (e1 : rd dEss h a = some ll) (hl : ∀ l ∈ ll, l.length ≤ 2147483647) (hb : ll.length * 24 ≤ 140737488355328) (hn : Fresh n h) :
    ACall (cx [] (pfL [])) 28 [a] h n fun z h' n' => agree n h h' ∧ Fresh n' h' ∧ n ≤ n' ∧ OwnL ecells 11 h' n n' z ll ll.length := by
  refine acall_of_awp (args := [a]) (pfL_ok tb_nil) (mixed _ _) Tryd.func28 (c := Tryd.f28.body.getD .skip) rfl (by kernel_rfl) (callable Tryd.func28 rfl rfl _ _) (show 1 ≤ Tryd.f28.ntmps by decide +kernel) ?_
  obtain ⟨s1, s2, s3, s4, s5⟩ := sl_is e1
  have key : ∀ e : Nat → AV, e 0 = a → awp (cx [] (pfL [])) (Tryd.f28.body.getD .skip) (finQ (cx [] (pfL [])) Tryd.f28 fun z h' n' => agree n h h' ∧ Fresh n' h' ∧ n ≤ n' ∧ OwnL ecells 11 h' n n' z ll ll.length) ⟨e, h, n⟩ := fun e q0 => by
    simp [evs, resAll, resVal, resOne, freeOp, isA, goOp, appNew, mkOp, gev, Region.binds, aop, aeval, gocall, heapOp, quietOp, ev, constAV, setd, yav, ystop, up, env0, cx_ti, cx_G, cx_pf, ti, globS, glob, pfL, lds, ldc, ldcs_1, ldcs_2, ldcs_3, ldcs_4, ldcs_5, ldcs_7, sts, sth, sls.eq_1, slc.eq_1, wr, place, fillOk, fillC, repZ, binI, isDiv, optInt, optI, eksOk, eksEq, EK.ok, EK.eq, AV.i, AV.isI, AV.isInt, AV.str, AV.isStr, AV.ones, AV.isPtr, AV.gl, AV.isG, Value.oneCell', Tryd.f28, q0]
    refine awp_loop (I28 a h n ll) (fun s => ll.length - (s.e 4).i.toNat) ⟨0, Nat.zero_le _, by simp [up, q0], by simp [up, ii], ⟨fun _ => 0, ⟨fun i hi => by omega, fun i hi => by omega, fun i _ hi => by omega⟩, .inl ⟨rfl, by simp [up]⟩⟩, agree_refl _ _, hn, Nat.le_refl _⟩ ?_
    rintro e' h' n' ⟨j, hj, q0, q4, ⟨f, hof, hz⟩, hag, hfr, hnn⟩
    simp only [] at q0 q4 hof hz hag hfr hnn
    by_cases hlt : j < ll.length
    · rcases sls_at e1 with ⟨h0, _⟩ | ⟨id, off, k, rfl, hk, ho, hat⟩
      · rw [h0] at hlt; simp at hlt
      obtain ⟨c, hc, hcr⟩ := hat j hlt
      obtain ⟨u1, u2, u3, u4, u5⟩ := sl_is hcr
      have hid := lt_of hk hn
      have hk' : h' id = some k := by rw [hag id hid]; exact hk
      have y0 : ¬ id = n' := by omega
      have hw := wrap_nat (j := j) (by unfold big; omega)
      have hw1 : off + (j + 1) ≤ k.cells.length := by omega
      have fa : ∀ h'', agree n h h'' → sls h'' c 0 (ll[j].length * 11) := fun h'' ha => (flat_app Flat.ev (rd_agr hn hcr h'' ha)).1
      have fb : ∀ h'', agree n h h'' → slc h'' c 0 (ll[j].length * 11) = ll[j].flatMap ecells := fun h'' ha => (flat_app Flat.ev (rd_agr hn hcr h'' ha)).2
      have hll := hl _ (List.getElem_mem hlt)
      have hg : ll.getD j [] = ll[j] := by simp [List.getD_eq_getElem?_getD, hlt]
      have b1 : ll[j].length * 88 ≤ 140737488355328 := by omega
      have b2 : ll[j].length ≤ 9223372036854775807 := by omega
      have b3 : (j + 1) * 24 ≤ 140737488355328 := by omega
      have b4 : j + 1 ≤ 9223372036854775807 := by omega
      have f0 : n ≤ n' := by omega
      have f1 : n ≤ n' + 1 := by omega
      have f2 : n ≤ n' + 2 := by omega
      have f3 : n ≤ n' + 3 := by omega
      generalize hgl : ll[j] = lj at *
      generalize hfl : lj.flatMap ecells = cl at *
      rcases hz with ⟨hj0, q3⟩ | ⟨w, u, q3, hw0, hw2, hw3, hne⟩
      · simp [evs, resAll, resVal, resOne, freeOp, isA, goOp, appNew, mkOp, gev, Region.binds, aop, aeval, gocall, heapOp, quietOp, ev, constAV, setd, yav, ystop, up, env0, cx_ti, cx_G, cx_pf, ti, globS, glob, pfL, lds, ldc, ldcs_1, ldcs_2, ldcs_3, ldcs_4, ldcs_5, ldcs_7, sts, sth, sls.eq_1, slc.eq_1, wr, place, fillOk, fillC, repZ, binI, isDiv, optInt, optI, eksOk, eksEq, EK.ok, EK.eq, AV.i, AV.isI, AV.isInt, AV.str, AV.isStr, AV.ones, AV.isPtr, AV.gl, AV.isG, Value.oneCell', q0, q3, q4, ii, hlt, hk', y0, hc, hw1, u1, u2, u3, u4, u5, fa, fb, agree_up, hag, f0, f1, f2, f3, b1, b2, b3, b4, hw]
        refine ⟨⟨j + 1, by omega, by simp [up, q0], by simp [up, ii], ⟨fun i => if i = j then n' else f i, hof.snoc (hi2 := n' + 4) (fun i hi => by omega) hnn (Nat.le_refl _) (by omega) (by rw [hg, hfl]; simp [up]), .inr ⟨n' + 3, 0, by simp [up]; omega, by simp only [up_same, lcells_snoc, hg]; rw [hj0]; rfl, by omega, by simp only []; omega, fun i hi => ?_⟩⟩, by simp [agree_up, hag, f0, f1, f2, f3], by simp [fresh_up, hfr.add], by simp only []; omega⟩, by omega⟩
        simp only []
        rw [if_pos (by omega)]
        omega
      · have yw : ¬ w = n' := by omega
        have yw1 : ¬ w = n' + 2 := by omega
        have yw2 : ¬ n' = w := by omega
        have yw3 : n ≤ w := by omega
        have yw4 : w < n' + 4 := by omega
        have hcl := lcells_len f ll j
        have hls := lcells_snoc f ll j n'
        generalize lcells f ll j = lc at *
        simp [evs, resAll, resVal, resOne, freeOp, isA, goOp, appNew, mkOp, gev, Region.binds, aop, aeval, gocall, heapOp, quietOp, ev, constAV, setd, yav, ystop, up, env0, cx_ti, cx_G, cx_pf, ti, globS, glob, pfL, lds, ldc, ldcs_1, ldcs_2, ldcs_3, ldcs_4, ldcs_5, ldcs_7, sts, sth, sls.eq_1, slc.eq_1, wr, place, fillOk, fillC, repZ, binI, isDiv, optInt, optI, eksOk, eksEq, EK.ok, EK.eq, AV.i, AV.isI, AV.isInt, AV.str, AV.isStr, AV.ones, AV.isPtr, AV.gl, AV.isG, Value.oneCell', q0, q3, q4, ii, hlt, hk', y0, hc, hw1, u1, u2, u3, u4, u5, fa, fb, agree_up, hag, f0, f1, f2, f3, b1, b2, b3, b4, hw, hw0, yw, yw1, hcl]
        refine ⟨⟨j + 1, by omega, by simp [up, q0], by simp [up, ii], ⟨fun i => if i = j then n' else f i, hof.snoc (hi2 := n' + 4) (fun i hi => ?_) hnn (Nat.le_refl _) (by omega) (by rw [hg, hfl]; simp [up, yw2]), .inr ⟨w, u + 1, by simp [up], by simp only [up_same, hls, hg], hw2, by simp only []; omega, fun i hi => ?_⟩⟩, by simp [agree_up, hag, f0, f1, f2, f3, yw3], by simp [fresh_up, hfr.add, yw4], by simp only []; omega⟩, by omega⟩
        · have r := hof.rng i hi
          have r1 := hne i hi
          have r2 : ¬ f i = n' := by omega
          have r3 : ¬ f i = n' + 2 := by omega
          simp [up, r1, r2, r3]
        · simp only []
          split
          · omega
          · exact hne i (by omega)
    · have hje : j = ll.length := by omega
      subst hje
      simp [evs, resAll, resVal, resOne, freeOp, isA, goOp, appNew, mkOp, gev, Region.binds, aop, aeval, gocall, heapOp, quietOp, ev, constAV, setd, yav, ystop, up, env0, cx_ti, cx_G, cx_pf, ti, globS, glob, pfL, lds, ldc, ldcs_1, ldcs_2, ldcs_3, ldcs_4, ldcs_5, ldcs_7, sts, sth, sls.eq_1, slc.eq_1, wr, place, fillOk, fillC, repZ, binI, isDiv, optInt, optI, eksOk, eksEq, EK.ok, EK.eq, AV.i, AV.isI, AV.isInt, AV.str, AV.isStr, AV.ones, AV.isPtr, AV.gl, AV.isG, Value.oneCell', q0, q4, ii, s1, s2, s3]
      exact ⟨hag, hfr, hnn, f, hof, hz⟩
  exact key _ rfl
end Go.Proofs.YtkfphaphiikloaaDoor

/-
  THE PROGRAMS OF CONDITIONS, PART I: a program's copy.
-/
namespace Go.Proofs.YtkfphaphiikloaaDoor
open Go Go.Eng

def ic : Int → List AV := fun x => [ii x]
theorem Flat.ic : Flat 1 (De.int .i64) ic := Flat.int
/-- A program of one's own. -/
def OwnP (h : Heap) (lo hi : Nat) (z : AV) (p : Pr) : Prop := ∃ w zb, z = .g [.s w 1 0 p.code.length, zb] ∧ h w = some ⟨p.code.flatMap icells, 1, true, 5⟩ ∧ lo ≤ w ∧ w < hi ∧ OwnL ic 1 h (w + 1) hi zb p.cols p.cols.length
theorem OwnP.congr {h h' : Heap} {lo hi hi' : Nat} {z : AV} {p : Pr} (o : OwnP h lo hi z p) (hh : ∀ q, lo ≤ q → q < hi → h' q = h q) (hi2 : hi ≤ hi') : OwnP h' lo hi' z p := by
  obtain ⟨w, zb, o1, o2, o3, o4, o5⟩ := o
  exact ⟨w, zb, o1, by rw [hh _ o3 o4]; exact o2, o3, by omega, o5.congr (fun q h1 h2 => hh q (by omega) h2) hi2⟩
theorem OwnP.rd {h : Heap} {lo hi : Nat} {z : AV} {p : Pr} (o : OwnP h lo hi z p) : dePr h z = some p := by
  obtain ⟨w, zb, rfl, o2, o3, o4, o5⟩ := o
  exact dePr_in (flat_in Flat.ins o2 rfl (r := []) (by simp)) (o5.rd Flat.ic)
theorem OwnL.is {α : Type} {en : α → List AV} {sz : Nat} {h : Heap} {lo hi : Nat} {z : AV} {ll : List (List α)} {j : Nat} (o : OwnL en sz h lo hi z ll j) : z.isS ∧ z.slen = j ∧ (∀ g, AV.unc g z = z) ∧ z.one ∧ z.cells = [z] := by
  obtain ⟨f, _, ⟨h0, rfl⟩ | ⟨w, u, rfl, _⟩⟩ := o
  · exact ⟨⟨rfl, rfl⟩, h0.symm, fun _ => rfl, rfl, rfl⟩
  · exact ⟨trivial, rfl, fun _ => rfl, trivial, rfl⟩
def I25 (pa pb : AV) (h : Heap) (n : Nat) (p : Pr) (s : St) : Prop := ∃ j zb, j ≤ p.cols.length ∧ s.e 1 = .p n 0 0 ∧ s.e 2 = .p (n + 1) 0 0 ∧ s.e 3 = .p (n + 4) 0 0 ∧ s.e 4 = ii j ∧ OwnL ic 1 s.h (n + 5) s.n zb p.cols j ∧
  s.h n = some ⟨[pa, pb], 0, true, 2⟩ ∧ s.h (n + 1) = some ⟨[.v (.slice none 0 0), .v (.slice none 0 0)], 0, true, 2⟩ ∧ s.h (n + 2) = some ⟨p.code.flatMap icells, 1, true, 5⟩ ∧ s.h (n + 4) = some ⟨[.s (n + 2) 1 0 p.code.length, zb], 0, true, 2⟩ ∧ agree n h s.h ∧ Fresh s.n s.h ∧ n + 5 ≤ s.n
structure PrSm (p : Pr) : Prop where
  code : p.code.length * 40 ≤ 140737488355328
  cols : p.cols.length * 24 ≤ 140737488355328
  col : ∀ c ∈ p.cols, c.length * 8 ≤ 140737488355328
set_option maxRecDepth 100000 in
set_option maxHeartbeats 4000000 in
theorem c25 {h : Heap} {n : Nat} {x : AV} {p : Pr} (e1 : dePr h x = some p) (hp : PrSm p) (hn : Fresh n h) :
    ACall (cx [] (pfL [])) 25 [x] h n fun z h' n' => agree n h h' ∧ Fresh n' h' ∧ n ≤ n' ∧ OwnP h' n n' z p := by
  refine acall_of_awp (args := [x]) (pfL_ok tb_nil) (mixed _ _) Tryd.func25 (c := Tryd.f25.body.getD .skip) rfl (by kernel_rfl) (callable Tryd.func25 rfl rfl _ _) (show 1 ≤ Tryd.f25.ntmps by decide +kernel) ?_
  obtain ⟨pa, pb, rfl, e3, e4⟩ := dePr_out e1
  obtain ⟨s1, s2, s3, s4, s5⟩ := sl_is e3
  obtain ⟨t1, t2, t3, t4, t5⟩ := sl_is e4
  have key : ∀ e : Nat → AV, e 0 = .g [pa, pb] → awp (cx [] (pfL [])) (Tryd.f25.body.getD .skip) (finQ (cx [] (pfL [])) Tryd.f25 fun z h' n' => agree n h h' ∧ Fresh n' h' ∧ n ≤ n' ∧ OwnP h' n n' z p) ⟨e, h, n⟩ := fun e q0 => by
    have ga : ∀ h'', agree n h h'' → sls h'' pa 0 (p.code.length * 5) := fun h'' ha => (flat_app Flat.ins (rd_agr hn e3 h'' ha)).1
    have gb : ∀ h'', agree n h h'' → slc h'' pa 0 (p.code.length * 5) = p.code.flatMap icells := fun h'' ha => (flat_app Flat.ins (rd_agr hn e3 h'' ha)).2
    have b1 := hp.code
    have b2 : p.code.length ≤ 9223372036854775807 := by omega
    simp [evs, resAll, resVal, resOne, freeOp, isA, goOp, appNew, mkOp, gev, Region.binds, aop, aeval, gocall, heapOp, quietOp, ev, constAV, setd, yav, ystop, up, env0, cx_ti, cx_G, cx_pf, ti, globS, glob, pfL, lds, ldc, ldcs_1, ldcs_2, ldcs_3, ldcs_4, ldcs_5, ldcs_7, sts, sth, sls.eq_1, slc.eq_1, wr, place, fillOk, fillC, repZ, binI, isDiv, optInt, optI, eksOk, eksEq, EK.ok, EK.eq, AV.i, AV.isI, AV.isInt, AV.str, AV.isStr, AV.ones, AV.isPtr, AV.gl, AV.isG, Value.oneCell', Tryd.f25, q0, s1, s2, s3, s4, s5, t4, t5, ga, gb, agree_up, agree_refl, b1, b2]
    refine awp_loop (I25 pa pb h n p) (fun s => p.cols.length - (s.e 4).i.toNat) ⟨0, .v (.slice none 0 0), Nat.zero_le _, by simp [up], by simp [up], by simp [up], by simp [up, ii], ⟨fun _ => 0, ⟨fun i hi => by omega, fun i hi => by omega, fun i _ hi => by omega⟩, .inl ⟨rfl, rfl⟩⟩, by simp [up], by simp [up], by simp [up], by simp [up], by simp [agree_up, agree_refl], by simp [fresh_up, hn.add], by simp⟩ ?_
    rintro e' h' n' ⟨j, zb, hj, q1, q2, q3, q4, hol, hb0, hb1, hb2, hb4, hag, hfr, hnn⟩
    simp only [] at q1 q2 q3 q4 hol hb0 hb1 hb2 hb4 hag hfr hnn
    obtain ⟨v1, v2, v3, v4, v5⟩ := hol.is
    by_cases hlt : j < p.cols.length
    · rcases sls_at e4 with ⟨h0, _⟩ | ⟨id, off, k, rfl, hk, ho, hat⟩
      · rw [h0] at hlt; simp at hlt
      obtain ⟨c, hc, hcr⟩ := hat j hlt
      obtain ⟨u1, u2, u3, u4, u5⟩ := sl_is hcr
      have hid := lt_of hk hn
      have hk' : h' id = some k := by rw [hag id hid]; exact hk
      have y0 : ¬ id = n' := by omega
      have hcb := hp.cols
      have hw := wrap_nat (j := j) (by unfold big; omega)
      have hw1 : off + (j + 1) ≤ k.cells.length := by omega
      have fa : ∀ h'', agree n h h'' → sls h'' c 0 (p.cols[j].length) := fun h'' ha => by simpa using (flat_app Flat.ic (rd_agr hn hcr h'' ha)).1
      have fb : ∀ h'', agree n h h'' → slc h'' c 0 (p.cols[j].length) = p.cols[j].flatMap ic := fun h'' ha => by simpa using (flat_app Flat.ic (rd_agr hn hcr h'' ha)).2
      have hll := hp.col _ (List.getElem_mem hlt)
      have hg : p.cols.getD j [] = p.cols[j] := by simp [List.getD_eq_getElem?_getD, hlt]
      have b3 : (j + 1) * 24 ≤ 140737488355328 := by omega
      have b4 : j + 1 ≤ 9223372036854775807 := by omega
      have b5 : p.cols[j].length ≤ 9223372036854775807 := by omega
      have f0 : n ≤ n' := by omega
      have f1 : n ≤ n' + 1 := by omega
      have f2 : n ≤ n' + 2 := by omega
      have f3 : n ≤ n' + 3 := by omega
      have f4 : n ≤ n + 4 := by omega
      have z0 : ¬ n = n' := by omega
      have z1 : ¬ n + 4 = n' := by omega
      have z2 : ¬ n = n' + 2 := by omega
      have z3 : ¬ n = n' + 3 := by omega
      have z4 : ¬ n + 4 = n' + 2 := by omega
      have z5 : ¬ n + 4 = n' + 3 := by omega
      have z6 : ¬ n + 1 = n' := by omega
      have z7 : ¬ n + 1 = n' + 2 := by omega
      have z8 : ¬ n + 1 = n' + 3 := by omega
      have z9 : ¬ n + 2 = n' := by omega
      have x1 : ¬ n + 2 = n' + 3 := by omega
      have x2 : ¬ n' = n + 4 := by omega
      have x3 : n + 4 < n' + 5 := by omega
      have x4 : ¬ n + 2 = n' + 2 := by omega
      have x5 : ¬ n' + 3 = n + 4 := by omega
      have x6 : ¬ n' = n := by omega
      have x7 : ¬ n = n' + 1 := by omega
      have x8 : ¬ n' = n + 1 := by omega
      have x9 : ¬ n' = n + 2 := by omega
      generalize hgl : p.cols[j] = lj at *
      generalize hfl : lj.flatMap ic = cl at *
      obtain ⟨f, hof, hz⟩ := hol
      rcases hz with ⟨hj0, rfl⟩ | ⟨w, u, rfl, hw0, hw2, hw3, hne⟩
      · simp [evs, resAll, resVal, resOne, freeOp, isA, goOp, appNew, mkOp, gev, Region.binds, aop, aeval, gocall, heapOp, quietOp, ev, constAV, setd, yav, ystop, up, env0, cx_ti, cx_G, cx_pf, ti, globS, glob, pfL, lds, ldc, ldcs_1, ldcs_2, ldcs_3, ldcs_4, ldcs_5, ldcs_7, sts, sth, sls.eq_1, slc.eq_1, wr, place, fillOk, fillC, repZ, binI, isDiv, optInt, optI, eksOk, eksEq, EK.ok, EK.eq, AV.i, AV.isI, AV.isInt, AV.str, AV.isStr, AV.ones, AV.isPtr, AV.gl, AV.isG, Value.oneCell', q1, q2, q3, q4, hb0, hb4, ii, t2, hlt, hk', y0, hc, hw1, u1, u2, u3, u4, u5, fa, fb, agree_up, hag, f0, f1, f2, f3, f4, hll, b3, b4, b5, hw, z0, z1, z2, z3, z4, z5, x2, x5, x6]
        refine ⟨(le_upf (hfr _ (Nat.le_refl _)) _).2 ((le_upf (hfr _ (Nat.le_refl _)) _).2 (Heap.le_refl _)), ⟨j + 1, .s (n' + 3) 0 0 1, by omega, by simp [up, q1], by simp [up, q2], by simp [up, q3], by simp [up, ii], ⟨fun i => if i = j then n' else f i, hof.snoc (hi2 := n' + 5) (fun i hi => by omega) hnn (Nat.le_refl _) (by omega) (by rw [hg, hfl]; simp [up, x2]), .inr ⟨n' + 3, 0, by rw [hj0], ?_, by omega, by simp only []; omega, fun i hi => ?_⟩⟩, by simp [up, z0, z2, z3, x6, hb0], by simp [up, z0, z2, z6, z7, z8, x7, hb1], by simp [up, z0, z9, x1, x4, x7, hb2], by simp [up], by simp [agree_up, hag, f0, f1, f2, f3, f4], by simp [fresh_up, hfr.add, x3], by simp only []; omega⟩, by omega⟩
        · simp only [lcells_snoc, hg]
          rw [hj0]
          simp [up, x5, x8, lcells]
        · simp only []
          rw [if_pos (by omega)]
          omega
      · have yw : ¬ w = n' := by omega
        have yw1 : ¬ w = n' + 2 := by omega
        have yw2 : ¬ n' = w := by omega
        have yw3 : n ≤ w := by omega
        have yw4 : w < n' + 5 := by omega
        have yw5 : ¬ n = w := by omega
        have yw6 : ¬ n + 4 = w := by omega
        have yw7 : ¬ w = n + 4 := by omega
        have yw8 : ¬ n + 1 = w := by omega
        have yw9 : ¬ n + 2 = w := by omega
        have hcl := lcells_len f p.cols j
        have hls := lcells_snoc f p.cols j n'
        generalize lcells f p.cols j = lc at *
        simp [evs, resAll, resVal, resOne, freeOp, isA, goOp, appNew, mkOp, gev, Region.binds, aop, aeval, gocall, heapOp, quietOp, ev, constAV, setd, yav, ystop, up, env0, cx_ti, cx_G, cx_pf, ti, globS, glob, pfL, lds, ldc, ldcs_1, ldcs_2, ldcs_3, ldcs_4, ldcs_5, ldcs_7, sts, sth, sls.eq_1, slc.eq_1, wr, place, fillOk, fillC, repZ, binI, isDiv, optInt, optI, eksOk, eksEq, EK.ok, EK.eq, AV.i, AV.isI, AV.isInt, AV.str, AV.isStr, AV.ones, AV.isPtr, AV.gl, AV.isG, Value.oneCell', q1, q2, q3, q4, hb0, hb4, ii, t2, hlt, hk', y0, hc, hw1, u1, u2, u3, u4, u5, fa, fb, agree_up, hag, f0, f1, f2, f3, f4, hll, b3, b4, b5, hw, z0, z1, z2, z3, z4, z5, x2, x5, x6, hw0, yw, yw1, yw2, yw5, yw6, hcl]
        refine ⟨(le_upf (hfr _ (Nat.le_refl _)) _).2 ((le_upf (hfr _ (Nat.le_refl _)) _).2 (Heap.le_refl _)), ⟨j + 1, .s w (u + 1) 0 (j + 1), by omega, by simp [up, q1], by simp [up, q2], by simp [up, q3], by simp [up, ii], ⟨fun i => if i = j then n' else f i, hof.snoc (hi2 := n' + 5) (fun i hi => ?_) hnn (Nat.le_refl _) (by omega) (by rw [hg, hfl]; simp [up, x2, yw2]), .inr ⟨w, u + 1, rfl, by simp only [hls, hg]; simp [up, yw7], by omega, by simp only []; omega, fun i hi => ?_⟩⟩, by simp [up, z0, z2, z3, x6, hb0, yw5], by simp [up, z0, z2, z6, z7, z8, x7, hb1, yw8], by simp [up, z0, z9, x1, x4, x7, hb2, yw9], by simp [up], by simp [agree_up, hag, f0, f1, f2, f3, f4, yw3], by simp [fresh_up, hfr.add, x3, yw4], by simp only []; omega⟩, by omega⟩
        · have r := hof.rng i hi
          have r1 := hne i hi
          have r2 : ¬ f i = n' := by omega
          have r3 : ¬ f i = n' + 2 := by omega
          have r4 : ¬ f i = n + 4 := by omega
          simp [up, r1, r2, r3, r4]
        · simp only []
          split
          · omega
          · exact hne i (by omega)
    · have hje : j = p.cols.length := by omega
      subst hje
      have x1 : ¬ n + 4 = n + 1 := by omega
      simp [evs, resAll, resVal, resOne, freeOp, isA, goOp, appNew, mkOp, gev, Region.binds, aop, aeval, gocall, heapOp, quietOp, ev, constAV, setd, yav, ystop, up, env0, cx_ti, cx_G, cx_pf, ti, globS, glob, pfL, lds, ldc, ldcs_1, ldcs_2, ldcs_3, ldcs_4, ldcs_5, ldcs_7, sts, sth, sls.eq_1, slc.eq_1, wr, place, fillOk, fillC, repZ, binI, isDiv, optInt, optI, eksOk, eksEq, EK.ok, EK.eq, AV.i, AV.isI, AV.isInt, AV.str, AV.isStr, AV.ones, AV.isPtr, AV.gl, AV.isG, Value.oneCell', q1, q2, q3, q4, hb0, hb1, hb4, ii, t1, t2, t3, v4, v5]
      have w1 : n + 1 < n' + 1 := by omega
      refine ⟨by simp [agree_up, hag], by simp [fresh_up, w1, hfr.add], by omega, n + 2, zb, rfl, by simp [up, hb2], by omega, by omega, ?_⟩
      refine (hol.lo (lo' := n + 3) (by omega)).congr (fun q h1 h2 => ?_) (by omega)
      rw [up_ne _ _ (by omega)]
  exact key _ rfl
end Go.Proofs.YtkfphaphiikloaaDoor
