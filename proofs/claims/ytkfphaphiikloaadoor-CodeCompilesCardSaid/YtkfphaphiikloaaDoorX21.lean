/-
  TREES, PART R: copies that share nothing: nodes, queries, trees with room.
-/
import Derived.Test.YtkfphaphiikloaaDoorX19
import Derived.Test.YtkfphaphiikloaaDoorX20
import Derived.Test.YtkfphaphiikloaaDoorX17
set_option linter.unusedSimpArgs false
set_option linter.unusedVariables false
set_option linter.constructorNameAsVariable false
namespace Go.Proofs.YtkfphaphiikloaaDoor
open Go Go.Eng

/-- A row's copy reads as the row. -/
theorem rd_copy {α : Type} {sz : Nat} {d : De α} {h : Heap} {n : Nat} {a : AV} {l : List α} (hn : Fresh n h) (e : rd (De.sl sz d) h a = some l) : ∃ cs, (∀ h', agree n h h' → sls h' a 0 (l.length * sz) ∧ slc h' a 0 (l.length * sz) = cs) ∧ cs.length = l.length * sz ∧
    ∀ h' w u own r, agree n h h' → h' w = some ⟨cs ++ r, u, own, sz⟩ → rd (De.sl sz d) h' (.s w u 0 l.length) = some l := by
  rcases sl_at e with ⟨rfl, rfl | rfl⟩ | ⟨id, off, k, rfl, hk, ho, hat⟩
  · refine ⟨[], fun h' _ => ⟨by simp [sls], rfl⟩, by simp, fun h' w u own r ha hw => ?_⟩
    exact De.sl_in (xs := []) (off := 0) (k := ⟨[] ++ r, u, own, sz⟩) hw (by simp) (fun i hi => by simp at hi)
  · refine ⟨[], fun h' _ => ⟨by simp [sls], rfl⟩, by simp, fun h' w u own r ha hw => ?_⟩
    exact De.sl_in (xs := []) (off := 0) (k := ⟨[] ++ r, u, own, sz⟩) hw (by simp) (fun i hi => by simp at hi)
  · have hid := lt_of hk hn
    have hlen : ((k.cells.drop off).take (l.length * sz)).length = l.length * sz := by rw [List.length_take, List.length_drop]; omega
    refine ⟨(k.cells.drop off).take (l.length * sz), fun h' ha => ?_, hlen, fun h' w u own r ha hw => ?_⟩
    · simp only [sls, slc, ha id hid, hk, Nat.zero_add, Nat.add_zero, true_and, and_true]
      exact ho
    · refine De.sl_in (off := 0) (k := ⟨(k.cells.drop off).take (l.length * sz) ++ r, u, own, sz⟩) hw (by simp only [List.length_append, hlen]; omega) (fun i hi => ?_)
      have h1 := hat i hi
      have hm : i * sz + sz ≤ l.length * sz := by rw [← Nat.succ_mul]; exact Nat.mul_le_mul_right _ hi
      have h2 : (List.drop (0 + i * sz) ((k.cells.drop off).take (l.length * sz) ++ r)).take sz = (k.cells.drop (off + i * sz)).take sz := by
        rw [Nat.zero_add, List.drop_append_of_le_length (by omega), List.take_append_of_le_length (by rw [List.length_drop]; omega), List.drop_take, List.take_take, List.drop_drop, Nat.min_eq_left (by omega)]
      rw [h2]
      exact d.sim (agr_sim hn ha) h1
theorem Flat.nd : Flat 6 dN ncells := ⟨fun _ _ _ e => deNc_out e, fun _ _ => rfl, fun _ => rfl⟩
set_option maxRecDepth 100000 in
set_option maxHeartbeats 2000000 in
theorem c18 {h : Heap} {n : Nat} {a : AV} {t : List Nd} (e1 : rd dNs h a = some t) (hp : smallT t) (hn : Fresh n h) :
    ACall (cx [] (pfL [])) 18 [a] h n fun z h' n' => agree n h h' ∧ Fresh n' h' ∧ n ≤ n' ∧ ∃ w, z = .s w 1 0 t.length ∧ h' w = some ⟨t.flatMap ncells, 1, true, 6⟩ ∧ n ≤ w ∧ w < n' := by
  refine acall_of_awp (args := [a]) (pfL_ok tb_nil) (mixed _ _) Tryd.func18 (c := Tryd.f18.body.getD .skip) rfl (by kernel_rfl) (callable Tryd.func18 rfl rfl _ _) (show 1 ≤ Tryd.f18.ntmps by decide +kernel) ?_
  obtain ⟨s1, s2, s3, s4, s5⟩ := sl_is e1
  have fa : ∀ h'', agree n h h'' → sls h'' a 0 (t.length * 6) := fun h'' ha => (flat_app Flat.nd (rd_agr hn e1 h'' ha)).1
  have fb : ∀ h'', agree n h h'' → slc h'' a 0 (t.length * 6) = t.flatMap ncells := fun h'' ha => (flat_app Flat.nd (rd_agr hn e1 h'' ha)).2
  have b1 : t.length * 64 ≤ 140737488355328 := hp
  have b2 : t.length ≤ 9223372036854775807 := by omega
  generalize t.flatMap ncells = cl at *
  have key : ∀ e : Nat → AV, e 0 = a → awp (cx [] (pfL [])) (Tryd.f18.body.getD .skip) (finQ (cx [] (pfL [])) Tryd.f18 fun z h' n' => agree n h h' ∧ Fresh n' h' ∧ n ≤ n' ∧ ∃ w, z = .s w 1 0 t.length ∧ h' w = some ⟨cl, 1, true, 6⟩ ∧ n ≤ w ∧ w < n') ⟨e, h, n⟩ := fun e q0 => by
    simp [evs, resAll, resVal, resOne, freeOp, isA, goOp, appNew, mkOp, gev, Region.binds, aop, aeval, gocall, heapOp, quietOp, ev, constAV, setd, yav, ystop, up, env0, cx_ti, cx_G, cx_pf, ti, globS, glob, pfL, lds, ldc, ldcs_1, ldcs_2, ldcs_3, ldcs_4, ldcs_5, ldcs_7, sts, sth, sls.eq_1, slc.eq_1, wr, place, fillOk, fillC, repZ, binI, isDiv, optInt, optI, eksOk, eksEq, EK.ok, EK.eq, AV.i, AV.isI, AV.isInt, AV.str, AV.isStr, AV.ones, AV.isPtr, AV.gl, AV.isG, Value.oneCell', Tryd.f18, q0, s1, s2, s3, s4, s5, fa, fb, agree_up, agree_refl, b1, b2, fresh_up, hn.add]
  exact key _ rfl
set_option maxRecDepth 100000 in
set_option maxHeartbeats 2000000 in
theorem c17 {h : Heap} {n : Nat} {x : AV} {q : Qu} (e1 : deQ h x = some q) (hp : q.items.length * 64 ≤ 140737488355328) (hn : Fresh n h) :
    ACall (cx [] (pfL [])) 17 [x] h n fun z h' n' => agree n h h' ∧ Fresh n' h' ∧ n ≤ n' ∧ deQ h' z = some q := by
  refine acall_of_awp (args := [x]) (pfL_ok tb_nil) (mixed _ _) Tryd.func17 (c := Tryd.f17.body.getD .skip) rfl (by kernel_rfl) (callable Tryd.func17 rfl rfl _ _) (show 1 ≤ Tryd.f17.ntmps by decide +kernel) ?_
  obtain ⟨a, b, c, rfl, e5, e6, e7⟩ := deQ_out e1
  obtain ⟨s1, s2, s3, s4, s5⟩ := sl_is e5
  have t3 := (sl_is e6).2.2.2.1
  have t4 := (sl_is e7).2.2.2.1
  obtain ⟨cl, f1, f2, f3⟩ := rd_copy hn e5
  have fa : ∀ h'', agree n h h'' → sls h'' a 0 (q.items.length * 5) := fun h'' ha => (f1 h'' ha).1
  have fb : ∀ h'', agree n h h'' → slc h'' a 0 (q.items.length * 5) = cl := fun h'' ha => (f1 h'' ha).2
  have b2 : q.items.length ≤ 9223372036854775807 := by omega
  have key : ∀ e : Nat → AV, e 0 = .g [a, ii q.mode, ii q.after, b, ii q.within, ss q.par, c] → awp (cx [] (pfL [])) (Tryd.f17.body.getD .skip) (finQ (cx [] (pfL [])) Tryd.f17 fun z h' n' => agree n h h' ∧ Fresh n' h' ∧ n ≤ n' ∧ deQ h' z = some q) ⟨e, h, n⟩ := fun e q0 => by
    simp [evs, resAll, resVal, resOne, freeOp, isA, goOp, appNew, mkOp, gev, Region.binds, aop, aeval, gocall, heapOp, quietOp, ev, constAV, setd, yav, ystop, up, env0, cx_ti, cx_G, cx_pf, ti, globS, glob, pfL, lds, ldc, ldcs_1, ldcs_2, ldcs_3, ldcs_4, ldcs_5, ldcs_7, sts, sth, sls.eq_1, slc.eq_1, wr, place, fillOk, fillC, repZ, binI, isDiv, optInt, optI, eksOk, eksEq, EK.ok, EK.eq, AV.i, AV.isI, AV.isInt, AV.str, AV.isStr, AV.ones, AV.isPtr, AV.gl, AV.isG, Value.oneCell', Tryd.f17, q0, ii, ss, s1, s2, s3, s4, s5, t3, t4, fa, fb, agree_up, agree_refl, hp, b2, fresh_up, hn.add]
    refine deQ_in (f3 _ _ _ true [] ?_ ?_) (rd_agr hn e6 _ ?_) (rd_agr hn e7 _ ?_)
    · simp [agree_up, agree_refl]
    · simp [up]
    · simp [agree_up, agree_refl]
    · simp [agree_up, agree_refl]
  exact key _ rfl

/-! ### a tree with room -/
def mark (i : Nat) : Nd := ⟨0, 61, ByteArray.empty, ByteArray.empty, (i : Int), 0⟩
def marks (m : Nat) : List Nd := (List.range m).map mark
theorem marks_len (m : Nat) : (marks m).length = m := by simp [marks]
theorem marks_succ (t : List Nd) (m : Nat) : (t ++ marks (m + 1)).flatMap ncells = (t ++ marks m).flatMap ncells ++ [ii 0, ii 61, ss ByteArray.empty, ss ByteArray.empty, ii m, ii 0] := by
  simp only [marks, List.range_succ, List.map_append, List.flatMap_append, List.append_assoc]
  rfl
set_option maxRecDepth 100000 in
set_option maxHeartbeats 2000000 in
theorem c19 {h : Heap} {n : Nat} {a : AV} {t : List Nd} (e1 : rd dNs h a = some t) (hp : (t.length + 40) * 64 ≤ 140737488355328) (hn : Fresh n h) :
    ACall (cx [] (pfL [])) 19 [a] h n fun z h' n' => agree n h h' ∧ Fresh n' h' ∧ n ≤ n' ∧ ∃ w, z = .s w 41 0 (t.length + 40) ∧ h' w = some ⟨(t ++ marks 40).flatMap ncells, 41, true, 6⟩ ∧ n ≤ w ∧ w < n' := by
  refine acall_of_awp (args := [a]) (pfL_ok tb_nil) (mixed _ _) Tryd.func19 (c := Tryd.f19.body.getD .skip) rfl (by kernel_rfl) (callable Tryd.func19 rfl rfl _ _) (show 1 ≤ Tryd.f19.ntmps by decide +kernel) ?_
  have key : ∀ e : Nat → AV, e 0 = a → awp (cx [] (pfL [])) (Tryd.f19.body.getD .skip) (finQ (cx [] (pfL [])) Tryd.f19 fun z h' n' => agree n h h' ∧ Fresh n' h' ∧ n ≤ n' ∧ ∃ w, z = .s w 41 0 (t.length + 40) ∧ h' w = some ⟨(t ++ marks 40).flatMap ncells, 41, true, 6⟩ ∧ n ≤ w ∧ w < n') ⟨e, h, n⟩ := fun e q0 => by
    simp [evs, resAll, resVal, resOne, freeOp, isA, goOp, appNew, mkOp, gev, Region.binds, aop, aeval, gocall, heapOp, quietOp, ev, constAV, setd, yav, ystop, up, env0, cx_ti, cx_G, cx_pf, ti, globS, glob, pfL, lds, ldc, ldcs_1, ldcs_2, ldcs_3, ldcs_4, ldcs_5, ldcs_7, sts, sth, sls.eq_1, slc.eq_1, wr, place, fillOk, fillC, repZ, binI, isDiv, optInt, optI, eksOk, eksEq, EK.ok, EK.eq, AV.i, AV.isI, AV.isInt, AV.str, AV.isStr, AV.ones, AV.isPtr, AV.gl, AV.isG, Value.oneCell', Tryd.f19, q0]
    refine (acall_any (S := []) (by simp) (c18 e1 (show t.length * 64 ≤ 140737488355328 by omega) hn)).mono ?_
    rintro v h2 n2 ⟨a1, a2, a3, w, rfl, hw, hw1, hw2⟩
    refine awp_loop (fun s => ∃ i, i ≤ 40 ∧ s.e 3 = .s w (i + 1) 0 (t.length + i) ∧ s.e 4 = ii i ∧ s.h w = some ⟨(t ++ marks i).flatMap ncells, i + 1, true, 6⟩ ∧ agree n h s.h ∧ Fresh s.n s.h ∧ n ≤ s.n ∧ w < s.n) (fun s => 40 - (s.e 4).i.toNat) ⟨0, by omega, by simp [up], by simp [up, ii], by simpa [marks] using hw, a1, a2, a3, hw2⟩ ?_
    rintro e' h' n' ⟨i, hi, q3, q4, hk, hag, hfr, hnn, hwn⟩
    simp only [] at q3 q4 hk hag hfr hnn hwn
    by_cases hlt : i < 40
    · have hlt' : (i : Int) < 40 := by omega
      have z1 : ¬ w = n' := by omega
      have z2 : w < n' + 2 := by omega
      have b1 : (t.length + (i + 1)) * 64 ≤ 140737488355328 := Nat.le_trans (Nat.mul_le_mul_right _ (by omega)) hp
      have b2 : t.length + (i + 1) ≤ 9223372036854775807 := by clear hk hw q3; omega
      have f1 : n ≤ n' + 1 := by omega
      have f2 : n ≤ n' + 2 := by omega
      have hw' := wrap_nat (j := i) (by unfold big; omega)
      have hcl : ((t ++ marks i).flatMap ncells).length = (t.length + i) * 6 := by rw [flat_len Flat.nd, List.length_append, marks_len]
      have hms := marks_succ t i
      generalize (t ++ marks i).flatMap ncells = cl at *
      simp [evs, resAll, resVal, resOne, freeOp, isA, goOp, appNew, mkOp, gev, Region.binds, aop, aeval, gocall, heapOp, quietOp, ev, constAV, setd, yav, ystop, up, env0, cx_ti, cx_G, cx_pf, ti, globS, glob, pfL, lds, ldc, ldcs_1, ldcs_2, ldcs_3, ldcs_4, ldcs_5, ldcs_7, sts, sth, sls.eq_1, slc.eq_1, wr, place, fillOk, fillC, repZ, binI, isDiv, optInt, optI, eksOk, eksEq, EK.ok, EK.eq, AV.i, AV.isI, AV.isInt, AV.str, AV.isStr, AV.ones, AV.isPtr, AV.gl, AV.isG, Value.oneCell', q3, q4, ii, hlt, hlt', hk, z1, z2, hcl, b1, b2, hw', agree_up, hag, f1, f2, hw1, hnn, fresh_up, hfr.add]
      exact ⟨⟨i + 1, by omega, rfl, by omega, by rw [← List.flatMap_append, hms]; rfl, rfl⟩, by omega⟩
    · obtain rfl : i = 40 := by omega
      simp [evs, resAll, resVal, resOne, freeOp, isA, goOp, appNew, mkOp, gev, Region.binds, aop, aeval, gocall, heapOp, quietOp, ev, constAV, setd, yav, ystop, up, env0, cx_ti, cx_G, cx_pf, ti, globS, glob, pfL, lds, ldc, ldcs_1, ldcs_2, ldcs_3, ldcs_4, ldcs_5, ldcs_7, sts, sth, sls.eq_1, slc.eq_1, wr, place, fillOk, fillC, repZ, binI, isDiv, optInt, optI, eksOk, eksEq, EK.ok, EK.eq, AV.i, AV.isI, AV.isInt, AV.str, AV.isStr, AV.ones, AV.isPtr, AV.gl, AV.isG, Value.oneCell', q3, q4, ii]
      exact ⟨hag, hfr, hnn, by rw [hk, List.flatMap_append], hw1, hwn⟩
  exact key _ rfl
def G24 := pureH deT (fun t => t = marks 40) fun _ => bv true
set_option maxRecDepth 100000 in
set_option maxHeartbeats 2000000 in
theorem P24 : P0 [] 24 G24 := by
  refine mkH 1 (S := []) (l := []) tb_nil Tryd.func24 rfl (by kernel_rfl) deT_mono (fun h l x e => by obtain ⟨a, rfl, _⟩ := deT_out e; exact Nat.le_refl _) (fun a => rfl) (fun args t h n e hp hn => ?_)
  subst hp
  obtain ⟨a, rfl, e1⟩ := deT_out e
  obtain ⟨s1, s2, s3, s4, s5⟩ := sl_is e1
  rw [marks_len] at s2
  have key : ∀ e : Nat → AV, e 0 = a → awp (cx [] (pfL [])) (Tryd.f24.body.getD .skip) (finQ (cx [] (pfL [])) Tryd.f24 fun z _ _ => z = bv true) ⟨e, roH h, n⟩ := fun e q0 => by
    simp [evs, resAll, resVal, resOne, freeOp, isA, goOp, appNew, mkOp, gev, Region.binds, aop, aeval, gocall, heapOp, quietOp, ev, constAV, setd, yav, ystop, up, env0, cx_ti, cx_G, cx_pf, ti, globS, glob, pfL, lds, ldc, ldcs_1, ldcs_2, ldcs_3, ldcs_4, ldcs_5, ldcs_7, sts, sth, sls.eq_1, slc.eq_1, wr, place, fillOk, fillC, repZ, binI, isDiv, optInt, optI, eksOk, eksEq, EK.ok, EK.eq, AV.i, AV.isI, AV.isInt, AV.str, AV.isStr, AV.ones, AV.isPtr, AV.gl, AV.isG, Value.oneCell', Tryd.f24, q0]
    refine awp_loop (fun s => ∃ j : Nat, j ≤ 40 ∧ s.e 0 = a ∧ s.e 3 = ii j ∧ s.h = roH h) (fun s => 40 - (s.e 3).i.toNat) ⟨0, by simp [up, q0, ii]⟩ ?_
    rintro e' h' n' ⟨j, hj, q0, q3, hh⟩
    simp only [] at q0 q3 hh
    subst hh
    by_cases hlt : j < 40
    · rcases ns_at e1 with ⟨h0, _⟩ | ⟨id, off, k, rfl, hk, ho', hat⟩
      · exact absurd (congrArg List.length h0) (by rw [marks_len]; simp)
      have hr := hat j (by rw [marks_len]; exact hlt)
      rw [marks_len] at ho'
      have hle : ∀ (X : Ctx) (h' : Heap), h' id = some ⟨k.cells, k.ver, false, k.esz⟩ → ldcs X h' (.p id k.ver (off + j * 6)) 0 6 = ncells (mark j) := fun X h' e => by
        rw [ldcs_nd e hr]; simp [marks]
      have hro := ro_at hk
      have hw6 : off + (j * 6 + 6) ≤ k.cells.length := by omega
      have hw := wrap_nat (j := j) (by unfold big; omega)
      have hlt' : (j : Int) < 40 := by omega
      have hbe : (ByteArray.empty == ByteArray.empty) = true := by decide
      simp [evs, resAll, resVal, resOne, freeOp, isA, goOp, appNew, mkOp, gev, Region.binds, aop, aeval, gocall, heapOp, quietOp, ev, constAV, setd, yav, ystop, up, env0, cx_ti, cx_G, cx_pf, ti, globS, glob, pfL, lds, ldc, ldcs_1, ldcs_2, ldcs_3, ldcs_4, ldcs_5, ldcs_7, sts, sth, sls.eq_1, slc.eq_1, wr, place, fillOk, fillC, repZ, binI, isDiv, optInt, optI, eksOk, eksEq, EK.ok, EK.eq, AV.i, AV.isI, AV.isInt, AV.str, AV.isStr, AV.ones, AV.isPtr, AV.gl, AV.isG, Value.oneCell', q0, q3, ii, ss, hlt, hlt', hro, hle, hw6, ncells, mark, marks_len, hw, hbe]
      exact ⟨⟨j + 1, by omega, by omega⟩, by omega⟩
    · obtain rfl : j = 40 := by omega
      simp [evs, resAll, resVal, resOne, freeOp, isA, goOp, appNew, mkOp, gev, Region.binds, aop, aeval, gocall, heapOp, quietOp, ev, constAV, setd, yav, ystop, up, env0, cx_ti, cx_G, cx_pf, ti, globS, glob, pfL, lds, ldc, ldcs_1, ldcs_2, ldcs_3, ldcs_4, ldcs_5, ldcs_7, sts, sth, sls.eq_1, slc.eq_1, wr, place, fillOk, fillC, repZ, binI, isDiv, optInt, optI, eksOk, eksEq, EK.ok, EK.eq, AV.i, AV.isI, AV.isInt, AV.str, AV.isStr, AV.ones, AV.isPtr, AV.gl, AV.isG, Value.oneCell', q0, q3, ii, s1, s2, s3, bv]
  exact key _ rfl
end Go.Proofs.YtkfphaphiikloaaDoor

/-
  TREES, PART S: a schema's copy that shares nothing.
-/
namespace Go.Proofs.YtkfphaphiikloaaDoor
open Go Go.Eng

def scell (x : ByteArray) : List AV := [ss x]
theorem str_out (h : Heap) (l : List AV) (x : ByteArray) (e : De.str.run h l = some x) : l = scell x := by
  simp only [De.str] at e
  split at e
  · cases e; rfl
  · cases e
theorem Flat.str : Flat 1 De.str scell := ⟨str_out, fun _ _ => rfl, fun _ => rfl⟩
theorem two_cells {l : List AV} {o : Nat} {x y : AV} (h1 : l[o]? = some x) (h2 : l[o + 1]? = some y) : (l.drop o).take 2 = [x, y] := by
  obtain ⟨k1, rfl⟩ := List.getElem?_eq_some_iff.1 h1
  obtain ⟨k2, rfl⟩ := List.getElem?_eq_some_iff.1 h2
  rw [List.drop_eq_getElem_cons k1, List.drop_eq_getElem_cons k2]
  rfl
/-- The first j types lie in blocks of one's own. -/
def OwnT (h : Heap) (lo hi : Nat) (z : AV) (sc : List Ty) (j : Nat) : Prop :=
  (j = 0 ∧ z = .v (.slice none 0 0)) ∨ ∃ w u cs, z = .s w u 0 j ∧ h w = some ⟨cs, u, true, 2⟩ ∧ lo ≤ w ∧ w < hi ∧ cs.length = j * 2 ∧
    ∀ i (hi' : i < sc.length), i < j → ∃ b, cs[i * 2]? = some (ss sc[i].name) ∧ cs[i * 2 + 1]? = some (.s b 1 0 sc[i].attrs.length) ∧ h b = some ⟨sc[i].attrs.flatMap scell, 1, true, 1⟩ ∧ lo ≤ b ∧ b < hi ∧ b ≠ w
theorem OwnT.rd {h : Heap} {lo hi : Nat} {z : AV} {sc : List Ty} (o : OwnT h lo hi z sc sc.length) : rd dTys h z = some sc := by
  rcases o with ⟨h0, rfl⟩ | ⟨w, u, cs, rfl, hk, _, _, hl, hat⟩
  · have : sc = [] := List.eq_nil_of_length_eq_zero h0
    subst this
    rfl
  · refine De.sl_in (off := 0) (k := ⟨cs, u, true, 2⟩) hk (by simp only [hl]; omega) (fun i hi => ?_)
    obtain ⟨b, h1, h2, h3, _⟩ := hat i hi hi
    simp only [Nat.zero_add]
    rw [two_cells h1 h2]
    exact deTyc_in (flat_in Flat.str h3 rfl (r := []) (by simp))
theorem OwnT.congr {h h' : Heap} {lo hi : Nat} {z : AV} {sc : List Ty} {j : Nat} (o : OwnT h lo hi z sc j) (hh : ∀ q, lo ≤ q → q < hi → h' q = h q) : OwnT h' lo hi z sc j := by
  rcases o with h0 | ⟨w, u, cs, h1, h2, h3, h4, h5, h6⟩
  · exact .inl h0
  · refine .inr ⟨w, u, cs, h1, by rw [hh _ h3 h4]; exact h2, h3, h4, h5, fun i hi' hij => ?_⟩
    obtain ⟨b, k1, k2, k3, k4, k5, k6⟩ := h6 i hi' hij
    exact ⟨b, k1, k2, by rw [hh _ k4 k5]; exact k3, k4, k5, k6⟩
theorem OwnT.snoc {h h2 : Heap} {lo hi hi2 w w0 u b : Nat} {cs : List AV} {sc : List Ty} {j : Nat} (hj : j < sc.length) (hcl : cs.length = j * 2)
    (hold : ∀ i (hi' : i < sc.length), i < j → ∃ b, cs[i * 2]? = some (ss sc[i].name) ∧ cs[i * 2 + 1]? = some (.s b 1 0 sc[i].attrs.length) ∧ h b = some ⟨sc[i].attrs.flatMap scell, 1, true, 1⟩ ∧ lo ≤ b ∧ b < hi ∧ b ≠ w0)
    (hh : ∀ q, lo ≤ q → q < hi → q ≠ w0 → h2 q = h q) (hhi : hi ≤ hi2) (hne : w = w0 ∨ hi ≤ w) (hk : h2 w = some ⟨cs ++ [ss sc[j].name, .s b 1 0 sc[j].attrs.length], u, true, 2⟩) (hb : h2 b = some ⟨sc[j].attrs.flatMap scell, 1, true, 1⟩)
    (hb0 : lo ≤ b) (hb2 : b < hi2) (hbw : b ≠ w) (hw1 : lo ≤ w) (hw2 : w < hi2) : OwnT h2 lo hi2 (.s w u 0 (j + 1)) sc (j + 1) := by
  refine .inr ⟨w, u, _, rfl, hk, hw1, hw2, by simp only [List.length_append, hcl, List.length_cons, List.length_nil]; omega, fun i hi' hij => ?_⟩
  by_cases e : i = j
  · subst e
    exact ⟨b, by rw [List.getElem?_append_right (by omega), hcl, Nat.sub_self]; rfl, by rw [List.getElem?_append_right (by omega), hcl, show i * 2 + 1 - i * 2 = 1 by omega]; rfl, hb, hb0, hb2, hbw⟩
  · obtain ⟨b', k1, k2, k3, k4, k5, k6⟩ := hold i hi' (by omega)
    refine ⟨b', by rw [List.getElem?_append_left (by omega)]; exact k1, by rw [List.getElem?_append_left (by omega)]; exact k2, by rw [hh _ k4 k5 k6]; exact k3, k4, by omega, ?_⟩
    rcases hne with rfl | h9
    · exact k6
    · omega
set_option maxRecDepth 100000 in
set_option maxHeartbeats 4000000 in
theorem c16 {h : Heap} {n : Nat} {x : AV} {sc : List Ty} (e1 : deSc h x = some sc) (hb : sc.length * 40 ≤ 140737488355328) (ha : ∀ t ∈ sc, t.attrs.length * 16 ≤ 140737488355328) (hn : Fresh n h) :
    ACall (cx [] (pfL [])) 16 [x] h n fun z h' n' => agree n h h' ∧ Fresh n' h' ∧ n ≤ n' ∧ deSc h' z = some sc := by
  refine acall_of_awp (args := [x]) (pfL_ok tb_nil) (mixed _ _) Tryd.func16 (c := Tryd.f16.body.getD .skip) rfl (by kernel_rfl) (callable Tryd.func16 rfl rfl _ _) (show 1 ≤ Tryd.f16.ntmps by decide +kernel) ?_
  obtain ⟨a, rfl, e2⟩ := deSc_out e1
  obtain ⟨s1, s2, s3, s4, s5⟩ := sl_is e2
  have key : ∀ e : Nat → AV, e 0 = .g [a] → awp (cx [] (pfL [])) (Tryd.f16.body.getD .skip) (finQ (cx [] (pfL [])) Tryd.f16 fun z h' n' => agree n h h' ∧ Fresh n' h' ∧ n ≤ n' ∧ deSc h' z = some sc) ⟨e, h, n⟩ := fun e q0 => by
    simp [evs, resAll, resVal, resOne, freeOp, isA, goOp, appNew, mkOp, gev, Region.binds, aop, aeval, gocall, heapOp, quietOp, ev, constAV, setd, yav, ystop, up, env0, cx_ti, cx_G, cx_pf, ti, globS, glob, pfL, lds, ldc, ldcs_1, ldcs_2, ldcs_3, ldcs_4, ldcs_5, ldcs_7, sts, sth, sls.eq_1, slc.eq_1, wr, place, fillOk, fillC, repZ, binI, isDiv, optInt, optI, eksOk, eksEq, EK.ok, EK.eq, AV.i, AV.isI, AV.isInt, AV.str, AV.isStr, AV.ones, AV.isPtr, AV.gl, AV.isG, Value.oneCell', Tryd.f16, q0, s4]
    refine awp_loop (fun s => ∃ j z, j ≤ sc.length ∧ s.e 1 = .p n 0 0 ∧ s.e 2 = .p (n + 1) 0 0 ∧ s.e 3 = .p (n + 2) 0 0 ∧ s.e 4 = ii j ∧ s.h n = some ⟨[a], 0, true, 1⟩ ∧ s.h (n + 1) = some ⟨[.v (.slice none 0 0)], 0, true, 1⟩ ∧ s.h (n + 2) = some ⟨[z], 0, true, 1⟩ ∧ OwnT s.h (n + 3) s.n z sc j ∧ agree n h s.h ∧ Fresh s.n s.h ∧ n + 3 ≤ s.n) (fun s => sc.length - (s.e 4).i.toNat) ⟨0, .v (.slice none 0 0), by omega, by simp [up], by simp [up], by simp [up], by simp [up, ii], by simp [up], by simp [up], by simp [up], .inl ⟨rfl, rfl⟩, by simp [agree_up, agree_refl], by simp [fresh_up, hn.add], by simp⟩ ?_
    rintro e' h' n' ⟨j, z, hj, q1, q2, q3, q4, b0, b1, b2, hown, hag, hfr, hnn⟩
    simp only [] at q1 q2 q3 q4 b0 b1 b2 hown hag hfr hnn
    by_cases hlt : j < sc.length
    · rcases tys_at e2 with ⟨h0, _⟩ | ⟨id, off, k, rfl, hk, ho, hat⟩
      · rw [h0] at hlt; simp at hlt
      obtain ⟨hc0, c, hc1, hcr⟩ := hat j hlt
      obtain ⟨u1, u2, u3, u4, u5⟩ := sl_is hcr
      have hid := lt_of hk hn
      have hk' : h' id = some k := by rw [hag id hid]; exact hk
      have y0 : ¬ id = n' := by omega
      have hw := wrap_nat (j := j) (by unfold big; omega)
      have hw1 : off + (j * 2 + 2) ≤ k.cells.length := by omega
      have fa : ∀ h'', agree n h h'' → sls h'' c 0 (sc[j].attrs.length) := fun h'' ha => by have := (flat_app Flat.str (rd_agr hn hcr h'' ha)).1; rwa [Nat.mul_one] at this
      have fb : ∀ h'', agree n h h'' → slc h'' c 0 (sc[j].attrs.length) = sc[j].attrs.flatMap scell := fun h'' ha => by have := (flat_app Flat.str (rd_agr hn hcr h'' ha)).2; rwa [Nat.mul_one] at this
      have hal := ha _ (List.getElem_mem hlt)
      have b5 : sc[j].attrs.length ≤ 9223372036854775807 := by omega
      have b6 : (j + 1) * 40 ≤ 140737488355328 := by omega
      have b7 : j ≤ 9223372036854775806 := by omega
      have f0 : n ≤ n' := by omega
      have f1 : n ≤ n' + 1 := by omega
      have f2 : n ≤ n' + 2 := by omega
      have f5 : n ≤ n' + 5 := by omega
      have f6 : n ≤ n' + 6 := by omega
      have y1 : ¬ n = n' := by omega
      have y2 : ¬ n + 1 = n' := by omega
      have y3 : ¬ n + 2 = n' := by omega
      have x1 : ¬ n = n' + 1 := by omega
      have x2 : ¬ n = n' + 2 := by omega
      have x3 : ¬ n = n' + 3 := by omega
      have x4 : ¬ n = n' + 4 := by omega
      have x5 : ¬ n = n' + 5 := by omega
      have x6 : ¬ n = n' + 6 := by omega
      have x7 : n + 2 < n' + 8 := by omega
      have hlast : ∀ hx : j < sc.length, sc[j]'hx = sc[j] := fun _ => rfl
      generalize hty : sc[j] = ty at *
      generalize hfl : ty.attrs.flatMap scell = cl at *
      rcases hown with ⟨hj0, rfl⟩ | ⟨w, u, cs, rfl, hw0, hw2, hw3, hcl, hcs⟩
      · simp [evs, resAll, resVal, resOne, freeOp, isA, goOp, appNew, mkOp, gev, Region.binds, aop, aeval, gocall, heapOp, quietOp, ev, constAV, setd, yav, ystop, up, env0, cx_ti, cx_G, cx_pf, ti, globS, glob, pfL, lds, ldc, ldcs_1, ldcs_2, ldcs_3, ldcs_4, ldcs_5, ldcs_7, sts, sth, sls.eq_1, slc.eq_1, wr, place, fillOk, fillC, repZ, binI, isDiv, optInt, optI, eksOk, eksEq, EK.ok, EK.eq, AV.i, AV.isI, AV.isInt, AV.str, AV.isStr, AV.ones, AV.isPtr, AV.gl, AV.isG, Value.oneCell', q1, q2, q3, q4, ii, ss, hlt, b0, b1, b2, hk', y0, y1, y2, y3, x1, x2, x3, x4, x5, x6, x7, hc0, hc1, hw1, u1, u2, u3, u4, u5, fa, fb, agree_up, hag, f0, f1, f2, f5, f6, hal, b5, b6, b7, hw, fresh_up, hfr.add]
        refine ⟨⟨j + 1, by omega, by omega, ?_⟩, by omega⟩
        subst hj0
        refine OwnT.snoc (h := h') (lo := n + 3) (hi := n') (w0 := n' + 6) (cs := []) (b := n' + 2) hlt rfl (fun i _ h9 => by omega) (fun q h1 h2 h3 => ?_) (by omega) (.inl rfl) ?_ ?_ (by omega) (by omega) (by omega) (by omega) (by omega)
        · have r1 : ¬ q = n' := by omega
          have r2 : ¬ q = n' + 2 := by omega
          have r3 : ¬ q = n' + 5 := by omega
          have r4 : ¬ q = n' + 6 := by omega
          have r5 : ¬ q = n + 2 := by omega
          simp [up, r1, r2, r3, r4, r5]
        · have r1 : ¬ n' + 6 = n + 2 := by omega
          rw [up_ne _ _ r1, up_same, hty]
          rfl
        · have r1 : ¬ n' + 2 = n + 2 := by omega
          rw [hty, hfl]
          simp [up]; omega
      · have z1 : ¬ w = n' := by omega
        have z2 : ¬ w = n' + 2 := by omega
        have z3 : ¬ w = n' + 5 := by omega
        have z4 : n ≤ w := by omega
        have z5 : ¬ n = w := by omega
        have z6 : ¬ n + 1 = w := by omega
        have z7 : ¬ n + 2 = w := by omega
        have z8 : w < n' + 8 := by omega
        simp [evs, resAll, resVal, resOne, freeOp, isA, goOp, appNew, mkOp, gev, Region.binds, aop, aeval, gocall, heapOp, quietOp, ev, constAV, setd, yav, ystop, up, env0, cx_ti, cx_G, cx_pf, ti, globS, glob, pfL, lds, ldc, ldcs_1, ldcs_2, ldcs_3, ldcs_4, ldcs_5, ldcs_7, sts, sth, sls.eq_1, slc.eq_1, wr, place, fillOk, fillC, repZ, binI, isDiv, optInt, optI, eksOk, eksEq, EK.ok, EK.eq, AV.i, AV.isI, AV.isInt, AV.str, AV.isStr, AV.ones, AV.isPtr, AV.gl, AV.isG, Value.oneCell', q1, q2, q3, q4, ii, ss, hlt, b0, b1, b2, hk', y0, y1, y2, y3, x1, x2, x3, x4, x5, x6, x7, z1, z2, z3, z4, z5, z6, z7, z8, hw0, hcl, hc0, hc1, hw1, u1, u2, u3, u4, u5, fa, fb, agree_up, hag, f0, f1, f2, f5, f6, hal, b5, b6, b7, hw, fresh_up, hfr.add]
        refine ⟨⟨j + 1, by omega, by omega, ?_⟩, by omega⟩
        refine OwnT.snoc (h := h') (lo := n + 3) (hi := n') (w0 := w) (cs := cs) (b := n' + 2) hlt hcl hcs (fun q h1 h2 h3 => ?_) (by omega) (.inl rfl) ?_ ?_ (by omega) (by omega) (by omega) (by omega) (by omega)
        · have r1 : ¬ q = n' := by omega
          have r2 : ¬ q = n' + 2 := by omega
          have r3 : ¬ q = n' + 5 := by omega
          have r5 : ¬ q = n + 2 := by omega
          simp [up, r1, r2, r3, h3, r5]
        · have r1 : ¬ w = n + 2 := by omega
          rw [up_ne _ _ r1, up_same, hty]
          rfl
        · have r1 : ¬ n' + 2 = n + 2 := by omega
          have r2 : ¬ n' + 2 = w := by omega
          rw [hty, hfl]
          simp [up, r2]; omega
    · have hje : j = sc.length := by omega
      subst hje
      have hrd := hown.rd
      obtain ⟨z1, z2, z3, z4, z5⟩ := sl_is hrd
      simp [evs, resAll, resVal, resOne, freeOp, isA, goOp, appNew, mkOp, gev, Region.binds, aop, aeval, gocall, heapOp, quietOp, ev, constAV, setd, yav, ystop, up, env0, cx_ti, cx_G, cx_pf, ti, globS, glob, pfL, lds, ldc, ldcs_1, ldcs_2, ldcs_3, ldcs_4, ldcs_5, ldcs_7, sts, sth, sls.eq_1, slc.eq_1, wr, place, fillOk, fillC, repZ, binI, isDiv, optInt, optI, eksOk, eksEq, EK.ok, EK.eq, AV.i, AV.isI, AV.isInt, AV.str, AV.isStr, AV.ones, AV.isPtr, AV.gl, AV.isG, Value.oneCell', q1, q2, q3, q4, ii, s1, s2, s3, b0, b1, b2, z4, z5, agree_up, hag]
      exact ⟨(fresh_up (by omega) _).2 (hfr.add 1), by omega, OwnT.rd (lo := n + 3) (hi := n') (hown.congr (fun q h1 h2 => up_ne _ _ (by omega)))⟩
  exact key _ rfl
end Go.Proofs.YtkfphaphiikloaaDoor

/-
  A schema, a query, an environment in a cell; a tree with room behind it.
-/
namespace Go.Proofs.YtkfphaphiikloaaDoor
open Go Go.Eng

/-- A schema, a query, an environment in a cell. -/
def HasS (h : Heap) (x : AV) (sc : List Ty) : Prop := ∃ m a, x = .p m 0 0 ∧ h m = some ⟨[a], 0, true, 1⟩ ∧ rd dTys h a = some sc
def HasQ (h : Heap) (x : AV) (q : Qu) : Prop := ∃ m a b c, x = .p m 0 0 ∧ h m = some ⟨[a, .v (.int .i64 q.mode), .v (.int .i64 q.after), b, .v (.int .i64 q.within), .v (.string q.par), c], 0, true, 7⟩ ∧ rd dIts h a = some q.items ∧ rd dNs h b = some q.wh ∧ rd dNss h c = some q.ret
def HasE (h : Heap) (x : AV) (en : En) : Prop := ∃ m a, x = .p m 0 0 ∧ h m = some ⟨[a, .v (.int .i64 en.each), .v (.int .i64 en.pos)], 0, true, 3⟩ ∧ rd dEss h a = some en.ls
theorem HasS.up {h h' : Heap} {n : Nat} {x : AV} {sc : List Ty} (a : HasS h x sc) (hn : Fresh n h) (ha : agree n h h') : HasS h' x sc := by
  obtain ⟨m, b, rfl, h1, h2⟩ := a
  exact ⟨m, b, rfl, by rw [ha m (lt_of h1 hn)]; exact h1, rd_agr hn h2 _ ha⟩
theorem HasQ.up {h h' : Heap} {n : Nat} {x : AV} {q : Qu} (a : HasQ h x q) (hn : Fresh n h) (ha : agree n h h') : HasQ h' x q := by
  obtain ⟨m, b, c, d, rfl, h1, h2, h3, h4⟩ := a
  exact ⟨m, b, c, d, rfl, by rw [ha m (lt_of h1 hn)]; exact h1, rd_agr hn h2 _ ha, rd_agr hn h3 _ ha, rd_agr hn h4 _ ha⟩
theorem HasE.up {h h' : Heap} {n : Nat} {x : AV} {en : En} (a : HasE h x en) (hn : Fresh n h) (ha : agree n h h') : HasE h' x en := by
  obtain ⟨m, b, rfl, h1, h2⟩ := a
  exact ⟨m, b, rfl, by rw [ha m (lt_of h1 hn)]; exact h1, rd_agr hn h2 _ ha⟩
theorem room_rd {h : Heap} {w : Nat} {t : List Nd} (hw : h w = some ⟨(t ++ marks 40).flatMap ncells, 41, true, 6⟩) : rd dNs h (.s w 41 0 t.length) = some t :=
  flat_in Flat.nd hw rfl (r := (marks 40).flatMap ncells) (by simp only [List.flatMap_append])
theorem room_tail {h : Heap} {w : Nat} {t : List Nd} (hw : h w = some ⟨(t ++ marks 40).flatMap ncells, 41, true, 6⟩) : rd dNs h (.s w 41 (t.length * 6) 40) = some (marks 40) := by
  have hl := flat_len Flat.nd t
  have hm := marks_len 40
  have : rd (De.sl 6 dN) h (.s w 41 (t.length * 6) (marks 40).length) = some (marks 40) := by
    refine De.sl_in (off := t.length * 6) (k := ⟨(t ++ marks 40).flatMap ncells, 41, true, 6⟩) hw (by simp only [flat_len Flat.nd, List.length_append, hm]; omega) (fun i hi => ?_)
    have := flat_drop Flat.nd (marks 40) i hi []
    rw [List.append_nil] at this
    simp only [List.flatMap_append]
    rw [List.drop_append, List.drop_eq_nil_of_le (by omega), List.nil_append, hl, show t.length * 6 + i * 6 - t.length * 6 = i * 6 by omega, this]
    rfl
  rwa [hm] at this
theorem deEn_has {h : Heap} {a : AV} {en : En} (e : rd dEss h a = some en.ls) : deEn h (.g [a, .v (.int .i64 en.each), .v (.int .i64 en.pos)]) = some en := deEn_in e
theorem deQ_has {h : Heap} {a b c : AV} {q : Qu} (h1 : rd dIts h a = some q.items) (h2 : rd dNs h b = some q.wh) (h3 : rd dNss h c = some q.ret) : deQ h (.g [a, .v (.int .i64 q.mode), .v (.int .i64 q.after), b, .v (.int .i64 q.within), .v (.string q.par), c]) = some q := deQ_in h1 h2 h3
end Go.Proofs.YtkfphaphiikloaaDoor

/-
  THE ROWS OF THIS SEAT, WHAT THEY SHARE: schemas, queries and trees among the arguments; the keywords.
-/
namespace Go.Proofs.YtkfphaphiikloaaDoor
open Go Go.Eng Go.RowKit Go.ChangeShapes Go.WideShapes Go.Joins

/-- A row of strings. -/
theorem rd_strs {t e : TypeId} {n : Nat} (ht : Tryd.prog.underlying t = some (.array n e)) (he : Tryd.prog.underlying e = some .string) (hc : Tryd.prog.cellsOf e = 1) (ec : Tryd.prog.cellsOf t = n) (l : List ByteArray) (hl : l.length = n) : Rd t (.agg (l.map fun x => .lit (.string x.data.toList))) (l.map fun x => .string x) := fun W f cs x h ex => by
  obtain ⟨xs, m, _, rfl, hcl, hn, hel⟩ := DataW.trod_array ht h
  simp only [DataW.agg.injEq] at ex
  have hcn : cs.length = n := by rw [hcl, ec]
  apply List.ext_getElem
  · rw [hcn, List.length_map, hl]
  intro i h1 h2
  have hi : i < n := by omega
  have hx := hel i (by omega)
  have hlt : i < xs.length := by omega
  rw [List.getElem?_eq_getElem hlt] at hx
  have hxi : (xs[i]).1 = .lit (.string (l[i]'(by omega)).data.toList) := by
    have := congrArg (·[i]?) ex
    simpa [hlt, show i < l.length by omega] using this
  obtain ⟨s, q1, q2, _⟩ := DataW.trod_string he hx
  rw [q2] at hxi
  simp only [DataW.lit.injEq, Lit.string.injEq] at hxi
  have hs : s = l[i]'(by omega) := by
    have h9 := Array.toList_inj.1 hxi
    cases s
    cases hli : l[i]'(by omega)
    rw [hli] at h9
    simp only [] at h9
    rw [h9]
  rw [hc, Nat.mul_one, List.take_one, List.head?_drop, List.getElem?_eq_getElem h1] at q1
  rw [List.getElem_map, ← hs]
  simpa using q1
set_option maxRecDepth 100000 in
theorem rdKeywords : Rd 178 Rows.laid_sluice_api_Keywords ((glob 7).getD []) :=
  rd_strs (n := 27) Tryd.underlying178 Tryd.underlying9 (by kernel_rfl) (by kernel_rfl) kwords rfl
theorem at7 {laid : List (String × DataW Unit)} {W : World} (hL : laidMetH Tryd.prog laid W) (hpl : (laid.all fun x => x.2.handleName?.isNone) = true) (hm : ("sluice/api.Keywords", Rows.laid_sluice_api_Keywords) ∈ laid) : GlobAt W 7 := globAt_of hL hpl hm (by kernel_rfl) (by kernel_rfl) rdKeywords rfl

/-! ### openers -/
theorem str_flat : ∀ (h : Heap) (l : List AV) (x : ByteArray), De.str.run h l = some x → l = [ss x] := str_out
theorem bool_flat6 : ∀ (h : Heap) (l : List AV) (x : Bool), De.bool.run h l = some x → l = [.v (.bool x)] := fun h l x e => by
  simp only [De.bool] at e
  split at e
  · cases e; rfl
  · cases e
theorem tk_cons {l : List AV} {a : AV} (h : l.take 1 = [a]) : l = a :: l.drop 1 := by
  have := List.take_append_drop 1 l
  rw [h] at this
  exact this.symm
theorem opens_s : Opens Tryd.prog 9 De.str fun s => s.size ≤ maxLen := Opens.str Tryd.underlying9
theorem opens_b : Opens Tryd.prog 4 De.bool fun _ => True := Opens.bool Tryd.underlying4
theorem opens_75 : Opens Tryd.prog 75 (De.int .i64) fun n => (Lit.int .i64 n).wf = true := Opens.int Tryd.underlying75
theorem opens_26 : Opens Tryd.prog 26 (De.int .i64) fun n => (Lit.int .i64 n).wf = true := Opens.int Tryd.underlying26
theorem opens_27 : Opens Tryd.prog 27 (De.int .i64) fun n => (Lit.int .i64 n).wf = true := Opens.int Tryd.underlying27
theorem opens_nd : Opens Tryd.prog 92 dN fun x => Rng x.n := by
  refine Opens.conv (Opens.struct Tryd.underlying92 (tot := 6) (by kernel_rfl) (OpensF.cons rfl (n := 1) (by kernel_rfl) (by decide) opens_75 (OpensF.cons rfl (n := 1) (by kernel_rfl) (by decide) opens_i2 (OpensF.cons rfl (n := 1) (by kernel_rfl) (by decide) opens_s (OpensF.cons rfl (n := 1) (by kernel_rfl) (by decide) opens_s (OpensF.cons rfl (n := 1) (by kernel_rfl) (by decide) opens_i (OpensF.one rfl (by kernel_rfl) opens_i))))))) fun h l x e ok => ?_
  have hl := pair_flat (int_flat .i64) (pair_flat (int_flat .i64) (pair_flat str_flat (pair_flat str_flat (pair_flat (int_flat .i64) (int_flat .i64))))) h l x e
  exact ⟨⟨x.1, x.2.1, x.2.2.1, x.2.2.2.1, x.2.2.2.2.1, x.2.2.2.2.2⟩, by rw [hl]; rfl, rng_of ok.2.1⟩
theorem opens_28 : Opens Tryd.prog 28 dNs fun l => l.length * 64 ≤ reachBytes ∧ ∀ x ∈ l, Rng x.n := Opens.sl Tryd.underlying28 (sz := 6) (by kernel_rfl) (by decide) (by kernel_rfl) opens_nd
theorem opens_29 : Opens Tryd.prog 29 dNss fun l => l.length * 24 ≤ reachBytes ∧ ∀ x ∈ l, x.length * 64 ≤ reachBytes ∧ ∀ y ∈ x, Rng y.n := Opens.sl Tryd.underlying29 (sz := 1) (by kernel_rfl) (by decide) (by kernel_rfl) opens_28
theorem opens_93 : Opens Tryd.prog 93 dSs fun l => l.length * 16 ≤ reachBytes ∧ ∀ x ∈ l, x.size ≤ maxLen := Opens.sl Tryd.underlying93 (sz := 1) (by kernel_rfl) (by decide) (by kernel_rfl) opens_s
theorem opens_95 : Opens Tryd.prog 95 dTy fun t => t.attrs.length * 16 ≤ reachBytes := by
  refine Opens.conv (Opens.struct Tryd.underlying95 (tot := 2) (by kernel_rfl) (OpensF.cons rfl (n := 1) (by kernel_rfl) (by decide) opens_s (OpensF.one rfl (by kernel_rfl) opens_93))) fun h l x e ok => ?_
  obtain ⟨e1, e2⟩ := pair_run e
  have h1 := tk_cons (str_flat _ _ _ e1)
  obtain ⟨a, ha⟩ := sl_one e2
  rw [ha] at e2 h1
  have e2' : rd dSs h a = some x.2 := e2
  exact ⟨⟨x.1, x.2⟩, by rw [h1]; exact deTyc_in (x := ⟨x.1, x.2⟩) e2', ok.2.1⟩
theorem opens_22 : Opens Tryd.prog 22 dTys fun l => l.length * 40 ≤ reachBytes ∧ ∀ t ∈ l, t.attrs.length * 16 ≤ reachBytes := Opens.sl Tryd.underlying22 (sz := 2) (by kernel_rfl) (by decide) (by kernel_rfl) opens_95
/-- A schema. -/
def dSc : De (List Ty) where
  run h l := deSc h (.g l)
  sim hh e := deSc_sim hh e
theorem opens_24 : Opens Tryd.prog 24 dSc fun l => l.length * 40 ≤ reachBytes ∧ ∀ t ∈ l, t.attrs.length * 16 ≤ reachBytes := by
  refine Opens.conv (Opens.struct Tryd.underlying24 (tot := 1) (by kernel_rfl) (OpensF.one rfl (by kernel_rfl) opens_22)) fun h l x e ok => ?_
  obtain ⟨a, rfl⟩ := sl_one e
  exact ⟨x, e, ok⟩
theorem opens_109 : Opens Tryd.prog 109 dIt fun _ => True := by
  refine Opens.conv (Opens.struct Tryd.underlying109 (tot := 5) (by kernel_rfl) (OpensF.cons rfl (n := 1) (by kernel_rfl) (by decide) opens_b (OpensF.cons rfl (n := 1) (by kernel_rfl) (by decide) opens_93 (OpensF.cons rfl (n := 1) (by kernel_rfl) (by decide) opens_s (OpensF.cons rfl (n := 1) (by kernel_rfl) (by decide) opens_i (OpensF.one rfl (by kernel_rfl) opens_i)))))) fun h l x e ok => ?_
  obtain ⟨e1, e2⟩ := pair_run e
  obtain ⟨e3, e4⟩ := pair_run e2
  have h1 := tk_cons (bool_flat6 _ _ _ e1)
  obtain ⟨a, ha⟩ := sl_one e3
  have h2 := tk_cons ha
  have h3 := pair_flat str_flat (pair_flat (int_flat .i64) (int_flat .i64)) h _ _ e4
  rw [ha] at e3
  have e3' : rd dSs h a = some x.2.1 := e3
  refine ⟨⟨x.1, x.2.1, x.2.2.1, x.2.2.2.1, x.2.2.2.2⟩, ?_, trivial⟩
  rw [h1, h2, h3]
  exact deItc_in (x := ⟨x.1, x.2.1, x.2.2.1, x.2.2.2.1, x.2.2.2.2⟩) e3'
theorem opens_25 : Opens Tryd.prog 25 dIts fun l => l.length * 64 ≤ reachBytes ∧ ∀ x ∈ l, True := Opens.sl Tryd.underlying25 (sz := 5) (by kernel_rfl) (by decide) (by kernel_rfl) opens_109
/-- A query. -/
def dQu : De Qu where
  run h l := deQ h (.g l)
  sim hh e := deQ_sim hh e
structure QuOk0 (q : Qu) : Prop where
  items : q.items.length * 64 ≤ reachBytes
  wh : q.wh.length * 64 ≤ reachBytes
  ret : q.ret.length * 24 ≤ reachBytes
  rets : ∀ t ∈ q.ret, t.length * 64 ≤ reachBytes
theorem opens_31 : Opens Tryd.prog 31 dQu QuOk0 := by
  refine Opens.conv (Opens.struct Tryd.underlying31 (tot := 7) (by kernel_rfl) (OpensF.cons rfl (n := 1) (by kernel_rfl) (by decide) opens_25 (OpensF.cons rfl (n := 1) (by kernel_rfl) (by decide) opens_26 (OpensF.cons rfl (n := 1) (by kernel_rfl) (by decide) opens_27 (OpensF.cons rfl (n := 1) (by kernel_rfl) (by decide) opens_28 (OpensF.cons rfl (n := 1) (by kernel_rfl) (by decide) opens_i2 (OpensF.cons rfl (n := 1) (by kernel_rfl) (by decide) opens_s (OpensF.one rfl (by kernel_rfl) opens_29)))))))) fun h l x e ok => ?_
  obtain ⟨x1, x2, x3, x4, x5, x6, x7⟩ := x
  obtain ⟨o1, o2, o3, o4, o5, o6, o7⟩ := ok
  obtain ⟨e1, e⟩ := pair_run e
  obtain ⟨e2, e⟩ := pair_run e
  obtain ⟨e3, e⟩ := pair_run e
  obtain ⟨e4, e⟩ := pair_run e
  obtain ⟨e5, e⟩ := pair_run e
  obtain ⟨e6, e7⟩ := pair_run e
  obtain ⟨a, ha⟩ := sl_one e1
  obtain ⟨b, hb⟩ := sl_one e4
  obtain ⟨c, hc⟩ := sl_one e7
  have h1 := tk_cons ha
  have h2 := tk_cons (int_flat .i64 _ _ _ e2)
  have h3 := tk_cons (int_flat .i64 _ _ _ e3)
  have h4 := tk_cons hb
  have h5 := tk_cons (int_flat .i64 _ _ _ e5)
  have h6 := tk_cons (str_flat _ _ _ e6)
  rw [ha] at e1
  rw [hb] at e4
  rw [hc] at e7
  have e1' : rd dIts h a = some x1 := e1
  have e4' : rd dNs h b = some x4 := e4
  have e7' : rd dNss h c = some x7 := e7
  refine ⟨⟨x1, x2, x3, x4, x5, x6, x7⟩, ?_, o1.1, o4.1, o7.1, fun t ht => (o7.2 t ht).1⟩
  rw [h1, h2, h3, h4, h5, h6, hc]
  exact deQ_in (q := ⟨x1, x2, x3, x4, x5, x6, x7⟩) e1' e4' e7'
end Go.Proofs.YtkfphaphiikloaaDoor
