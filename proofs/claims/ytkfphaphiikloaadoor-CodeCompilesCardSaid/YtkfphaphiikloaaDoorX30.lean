/-
  COMPILING, PART H: Compile: the beginning.
-/
import Derived.Test.YtkfphaphiikloaaDoorX25
import Derived.Test.YtkfphaphiikloaaDoorX29
import Derived.Test.YtkfphaphiikloaaDoorX27
set_option linter.unusedSimpArgs false
set_option linter.unusedVariables false
set_option linter.constructorNameAsVariable false
namespace Go.Proofs.YtkfphaphiikloaaDoor
open Go Go.Eng

def bodyL : Code → Code
  | .seq _ (.block _ (.loop c)) => c
  | _ => .skip
def inB : Code → Code
  | .block _ c => c
  | c => c
theorem repZ_rep : ∀ n, repZ [Value.int .i64 0] n = (List.replicate n (0 : Int)).map ii
  | 0 => rfl
  | n + 1 => by
    show (.v (.int .i64 0) : AV) :: repZ [Value.int .i64 0] n = _
    rw [repZ_rep n]; rfl
/-- What stands when the instructions are to be laid: the program's tree, its items. -/
structure A20 (h0 : Heap) (n : Nat) (sa ta : AV) (t : List Nd) (its : List Int) (wi : Nat) (s : St) : Prop where
  q2 : s.e 2 = ta
  q3 : s.e 3 = .p n 0 0
  q6 : s.e 6 = .p (n + 2) 0 0
  q7 : s.e 7 = .s wi 0 0 t.length
  k3 : s.h n = some ⟨[sa], 0, true, 1⟩
  k6 : s.h (n + 2) = some ⟨[.v (.slice none 0 0), .v (.slice none 0 0)], 0, true, 2⟩
  ki : s.h wi = some ⟨its.map ii, 0, true, 1⟩
  w1 : n + 3 ≤ wi
  w2 : wi < s.n
  ag : agree n h0 s.h
  fr : Fresh s.n s.h
/-- A program of its own: nothing of it stood before. -/
def OwnQ (h : Heap) (lo hi : Nat) (z : AV) (p : Pr) : Prop := ∃ ca la, z = .g [ca, la] ∧
  ((p.code = [] ∧ ca = .v (.slice none 0 0)) ∨ ∃ w u, ca = .s w u 0 p.code.length ∧ h w = some ⟨p.code.flatMap icells, u, true, 5⟩ ∧ lo ≤ w ∧ w < hi) ∧
  ((p.cols = [] ∧ la = .v (.slice none 0 0)) ∨ ∃ w u cs, la = .s w u 0 p.cols.length ∧ h w = some ⟨cs, u, true, 1⟩ ∧ lo ≤ w ∧ w < hi ∧ ¬ sid ca w ∧ cs.length = p.cols.length ∧
    ∀ i (hi' : i < p.cols.length), ∃ c, cs[i]? = some c ∧ KC h (fun q => lo ≤ q) hi (fun b => sid ca b ∨ b = w) c p.cols[i])
section
set_option maxRecDepth 100000
set_option maxHeartbeats 4000000
variable {h : Heap} {n : Nat} {sa qx ta : AV} {tys : List Ty} {q : Qu} {t : List Nd}
theorem c20a (e1 : rd dTys h sa = some tys) (e2 : deQ h qx = some q) (e5 : rd dNs h ta = some t) (hq : q.items.length < big) (hp : smallT t) (hn : Fresh n h) (e : Nat → AV) (q0 : e 0 = .g [sa]) (q1 : e 1 = qx) (q2 : e 2 = ta) {Q : Ex → St → Prop} :
    awp (cx [7] (pfL [])) (hdC 2 (Tryd.f20.body.getD .skip)) (thenQ (fun s => (runT (vars q.items) t = true ∧ s.e 8 = bv true ∧ ∃ wi, A20 h n sa ta t (t.map (itemV (vars q.items))) wi s) ∨ (runT (vars q.items) t = false ∧ s.e 8 = bv false ∧ s.e 6 = .p (n + 2) 0 0 ∧ s.h (n + 2) = some ⟨[.v (.slice none 0 0), .v (.slice none 0 0)], 0, true, 2⟩ ∧ agree n h s.h ∧ Fresh s.n s.h ∧ n + 3 ≤ s.n)) Q) ⟨e, h, n⟩ := by
  obtain ⟨a, b, c, rfl, x2, x3, x4⟩ := deQ_out e2
  obtain ⟨s1, s2, s3, s4, s5⟩ := sl_is e5
  have o0 := (sl_is e1).2.2.2.1
  have o1 := (sl_is x2).2.2.2.1
  have o2 := (sl_is x3).2.2.2.1
  have o3 := (sl_is x4).2.2.2.1
  have hag : ∀ b1 b2 b3 : Option Blk, agree n h (up (up (up h n b1) (n + 1) b2) (n + 2) b3) := fun b1 b2 b3 => by simp [agree_up, agree_refl]
  have hfr : ∀ b1 b2 b3 : Option Blk, Fresh (n + 3) (up (up (up h n b1) (n + 1) b2) (n + 2) b3) := fun b1 b2 b3 => by simp [fresh_up, hn.add]
  have gq : ∀ h', agree n h h' → deQ h' (.g [a, ii q.mode, ii q.after, b, ii q.within, ss q.par, c]) = some q := fun h' ha => deQ_sim (agr_sim hn ha) e2
  have g5 := rd_agr hn e5
  simp only [ii, ss] at gq
  simp [evs, resAll, resVal, resOne, freeOp, isA, goOp, appNew, mkOp, gev, Region.binds, aop, aeval, gocall, heapOp, quietOp, ev, constAV, setd, yav, ystop, up, env0, cx_ti, cx_G, cx_pf, ti, globS, glob, pfL, lds, ldc, ldcs_1, ldcs_2, ldcs_3, ldcs_4, ldcs_5, ldcs_7, sts, sth, sls.eq_1, slc.eq_1, wr, place, fillOk, fillC, repZ, binI, isDiv, optInt, optI, eksOk, eksEq, EK.ok, EK.eq, AV.i, AV.isI, AV.isInt, AV.str, AV.isStr, AV.ones, AV.isPtr, AV.gl, AV.isG, Value.oneCell', hdC, Tryd.f20, q0, q1, q2, ii, ss, s1, s2, s3, o0, o1, o2, o3]
  refine (acall_any (S := [7]) (by simp) (c54 (gq _ (hag _ _ _)) (g5 _ (hag _ _ _)) hq hp (hfr _ _ _))).mono ?_
  rintro z h2 n2 ⟨a1, a2, a3, a4⟩
  have b1 : ∀ j, j < n → h2 j = h j := fun j hj => by rw [a1 j (by omega)]; exact hag _ _ _ j hj
  unfold runPost at a4
  cases hr : runT (vars q.items) t with
  | true =>
    rw [hr, if_pos rfl] at a4
    obtain ⟨w, rfl, k1, k2, k3⟩ := a4
    simp [evs, resAll, resVal, resOne, freeOp, isA, goOp, appNew, mkOp, gev, Region.binds, aop, aeval, gocall, heapOp, quietOp, ev, constAV, setd, yav, ystop, up, env0, cx_ti, cx_G, cx_pf, ti, globS, glob, pfL, lds, ldc, ldcs_1, ldcs_2, ldcs_3, ldcs_4, ldcs_5, ldcs_7, sts, sth, sls.eq_1, slc.eq_1, wr, place, fillOk, fillC, repZ, binI, isDiv, optInt, optI, eksOk, eksEq, EK.ok, EK.eq, AV.i, AV.isI, AV.isInt, AV.str, AV.isStr, AV.ones, AV.isPtr, AV.gl, AV.isG, Value.oneCell', bv]
    exact ⟨w, by simp [up, q2], by simp [up], by simp [up], by simp [up], by simp only []; rw [a1 n (by omega)]; simp [up], by simp only []; rw [a1 (n + 2) (by omega)]; simp [up], k1, k2, k3, b1, a2⟩
  | false =>
    rw [hr] at a4
    simp only [Bool.false_eq_true, if_false] at a4
    subst a4
    simp [evs, resAll, resVal, resOne, freeOp, isA, goOp, appNew, mkOp, gev, Region.binds, aop, aeval, gocall, heapOp, quietOp, ev, constAV, setd, yav, ystop, up, env0, cx_ti, cx_G, cx_pf, ti, globS, glob, pfL, lds, ldc, ldcs_1, ldcs_2, ldcs_3, ldcs_4, ldcs_5, ldcs_7, sts, sth, sls.eq_1, slc.eq_1, wr, place, fillOk, fillC, repZ, binI, isDiv, optInt, optI, eksOk, eksEq, EK.ok, EK.eq, AV.i, AV.isI, AV.isInt, AV.str, AV.isStr, AV.ones, AV.isPtr, AV.gl, AV.isG, Value.oneCell', bv]
    exact ⟨by rw [a1 (n + 2) (by omega)]; simp [up], b1, a2, a3⟩
theorem c20b1 {wi : Nat} {its : List Int} (s : St) (hb : s.e 8 = bv true) (a : A20 h n sa ta t its wi s) {Q : Ex → St → Prop} :
    awp (cx [7] (pfL [])) (hdC 1 (tlC 2 (Tryd.f20.body.getD .skip))) (thenQ (A20 h n sa ta t its wi) Q) s := by
  obtain ⟨e, h1, n1⟩ := s
  have a0 := a
  simp only [bv] at hb
  simp [evs, resAll, resVal, resOne, freeOp, isA, goOp, appNew, mkOp, gev, Region.binds, aop, aeval, gocall, heapOp, quietOp, ev, constAV, setd, yav, ystop, up, env0, cx_ti, cx_G, cx_pf, ti, globS, glob, pfL, lds, ldc, ldcs_1, ldcs_2, ldcs_3, ldcs_4, ldcs_5, ldcs_7, sts, sth, sls.eq_1, slc.eq_1, wr, place, fillOk, fillC, repZ, binI, isDiv, optInt, optI, eksOk, eksEq, EK.ok, EK.eq, AV.i, AV.isI, AV.isInt, AV.str, AV.isStr, AV.ones, AV.isPtr, AV.gl, AV.isG, Value.oneCell', hdC, tlC, Tryd.f20, hb]
  obtain ⟨x1, x2, x3, x4, x5, x6, x7, x8, x9, x10, x11⟩ := a0
  exact ⟨by simpa [up] using x1, by simpa [up] using x2, by simpa [up] using x3, by simpa [up] using x4, x5, x6, x7, x8, x9, x10, x11⟩
theorem c20b2 (s : St) (hb : s.e 8 = bv false) (h6 : s.e 6 = .p (n + 2) 0 0) (hk : s.h (n + 2) = some ⟨[.v (.slice none 0 0), .v (.slice none 0 0)], 0, true, 2⟩) (ha : agree n h s.h) (hf : Fresh s.n s.h) (hnn : n + 3 ≤ s.n) {R : St → Prop} :
    awp (cx [7] (pfL [])) (hdC 1 (tlC 2 (Tryd.f20.body.getD .skip))) (thenQ R (finQ (cx [7] (pfL [])) Tryd.f20 fun z h' n' => agree n h h' ∧ Fresh n' h' ∧ n ≤ n' ∧ OwnQ h' n n' z ⟨[], []⟩)) s := by
  obtain ⟨e, h1, n1⟩ := s
  simp only [bv] at hb h6 hk ha hf hnn
  have y0 : n + 2 < n1 + 1 := by omega
  simp [evs, resAll, resVal, resOne, freeOp, isA, goOp, appNew, mkOp, gev, Region.binds, aop, aeval, gocall, heapOp, quietOp, ev, constAV, setd, yav, ystop, up, env0, cx_ti, cx_G, cx_pf, ti, globS, glob, pfL, lds, ldc, ldcs_1, ldcs_2, ldcs_3, ldcs_4, ldcs_5, ldcs_7, sts, sth, sls.eq_1, slc.eq_1, wr, place, fillOk, fillC, repZ, binI, isDiv, optInt, optI, eksOk, eksEq, EK.ok, EK.eq, AV.i, AV.isI, AV.isInt, AV.str, AV.isStr, AV.ones, AV.isPtr, AV.gl, AV.isG, Value.oneCell', hdC, tlC, Tryd.f20, hb, h6, hk, agree_up, ha, fresh_up, hf.add, y0]
  exact ⟨by omega, _, _, rfl, .inl ⟨rfl, rfl⟩, .inl ⟨rfl, rfl⟩⟩
/-- The compiler is there, and the list of jumps. -/
structure C20 (h0 : Heap) (n : Nat) (sa ta : AV) (t : List Nd) (its : List Int) (tys : List Ty) (wi m mm wb : Nat) (k : Nat) (s : St) : Prop where
  q2 : s.e 2 = ta
  q6 : s.e 6 = .p (n + 2) 0 0
  q7 : s.e 7 = .s wi 0 0 t.length
  q9 : s.e 9 = .p m 0 0
  q10 : s.e 10 = .s wb 0 0 t.length
  k6 : s.h (n + 2) = some ⟨[.v (.slice none 0 0), .v (.slice none 0 0)], 0, true, 2⟩
  ki : s.h wi = some ⟨its.map ii, 0, true, 1⟩
  km : s.h m = some ⟨[sa, .v (.slice none 0 0), .v (.slice none 0 0), .mv mm 0], 0, true, 4⟩
  kmm : s.h mm = some ⟨[], 0, true, 0⟩
  kb : s.h wb = some ⟨(bhL t k).map ii, 0, true, 1⟩
  wo : n + 3 ≤ wi ∧ wi < mm ∧ mm < m ∧ m < wb ∧ wb < s.n
  ag : agree n h0 s.h
  fr : Fresh s.n s.h
theorem c20c {wi : Nat} {its : List Int} (e5 : rd dNs h ta = some t) (hp : smallT t) (e1 : rd dTys h sa = some tys) (s : St) (a : A20 h n sa ta t its wi s) {Q : Ex → St → Prop} :
    awp (cx [7] (pfL [])) (hdC 2 (tlC 3 (Tryd.f20.body.getD .skip))) (thenQ (fun s' => ∃ m mm wb, C20 h n sa ta t its tys wi m mm wb 0 s') Q) s := by
  obtain ⟨e, h1, n1⟩ := s
  obtain ⟨x1, x2, x3, x4, x5, x6, x7, x8, x9, x10, x11⟩ := a
  simp only [] at x1 x2 x3 x4 x5 x6 x7 x8 x9 x10 x11
  obtain ⟨s1, s2, s3, s4, s5⟩ := sl_is e5
  have o0 := (sl_is e1).2.2.2.1
  have hp' : t.length * 64 ≤ 140737488355328 := hp
  have hb1 : (t.length : Int) * 8 ≤ 281474976710656 := by omega
  simp [evs, resAll, resVal, resOne, freeOp, isA, goOp, appNew, mkOp, gev, Region.binds, aop, aeval, gocall, heapOp, quietOp, ev, constAV, setd, yav, ystop, up, env0, cx_ti, cx_G, cx_pf, ti, globS, glob, pfL, lds, ldc, ldcs_1, ldcs_2, ldcs_3, ldcs_4, ldcs_5, ldcs_7, sts, sth, sls.eq_1, slc.eq_1, wr, place, fillOk, fillC, repZ, binI, isDiv, optInt, optI, eksOk, eksEq, EK.ok, EK.eq, AV.i, AV.isI, AV.isInt, AV.str, AV.isStr, AV.ones, AV.isPtr, AV.gl, AV.isG, Value.oneCell', hdC, tlC, Tryd.f20, x1, x2, x5, s1, s2, s3, o0, hb1]
  have hz : repZ [Value.int .i64 0] t.length = (bhL t 0).map ii := by rw [bhL_zero, repZ_rep]
  have y1 : n + 2 < n1 := by omega
  refine ⟨⟨by omega, by omega⟩, n1 + 1, n1, n1 + 2, by simpa [up] using x1, by simpa [up] using x3, by simpa [up] using x4, by simp [up], by simp [up], ?_, ?_, by simp [up], by simp [up], by simp [up, hz], ⟨x8, x9, by omega, by omega, by simp⟩, ?_, ?_⟩
  · simp only []
    rw [up_ne _ _ (by omega), up_ne _ _ (by omega), up_ne _ _ (by omega)]; exact x6
  · simp only []
    rw [up_ne _ _ (by omega), up_ne _ _ (by omega), up_ne _ _ (by omega)]; exact x7
  · simp only []
    exact (agree_up (by omega) _).2 ((agree_up (by omega) _).2 ((agree_up (by omega) _).2 x10))
  · exact (fresh_up (by simp) _).2 ((fresh_up (by simp) _).2 ((fresh_up (by simp) _).2 (x11.add 3)))
end
end Go.Proofs.YtkfphaphiikloaaDoor

/-
  COMPILING, PART N: the document's side: sizes.
-/
namespace Go.Proofs.YtkfphaphiikloaaDoor
open Go Go.Eng

noncomputable def c99L : Code := bodyL (hdC 1 (tlC 2 (Tryd.f99.body.getD .skip)))
noncomputable def c99B : Code := inB (hdC 1 (tlC 1 c99L))
def szL (t : List Nd) (lo : Nat → Nat) (i : Nat) : List Int := (List.range i).map (szT t lo)
theorem szL_len {t : List Nd} {lo : Nat → Nat} (i : Nat) : (szL t lo i).length = i := by simp [szL]
theorem szL_succ {t : List Nd} {lo : Nat → Nat} (i : Nat) : szL t lo (i + 1) = szL t lo i ++ [szT t lo i] := by simp [szL, List.range_succ]
def tb99 : List (FuncId × (List AV → Heap → PRes)) := [(95, g95)]
theorem tb99_ok : TbOk [] tb99 := tb_cons p95 tb_nil
section
set_option maxRecDepth 100000
set_option maxHeartbeats 4000000
variable {h : Heap} {n : Nat} {ta : AV} {t : List Nd} {lo : Nat → Nat} {i : Nat}
theorem sz_le (T : Tre t lo) (hp : smallT t) {i : Nat} (hi : i < t.length) : 1 ≤ szT t lo i ∧ szT t lo i ≤ 6597069766656 := by
  have h1 := sz_pos T hi
  have h2 := few T
  have h3 := pos_lt (t := t) hi
  have hp' : t.length * 64 ≤ 140737488355328 := hp
  refine ⟨h1, ?_⟩
  unfold szT
  omega
theorem c99a (T : Tre t lo) (hp : smallT t) (e5 : rd dNs h ta = some t) (hn : Fresh n h) (hi : i < t.length) (s : St) (q0 : s.e 0 = ta) (q4 : s.e 4 = ii i) (hag : agree n h s.h) {a : AV} (q3 : s.e 3 = a) (hown : Own s.h n s.n a i ((szL t lo i).map ii) 1) {Q : Ex → St → Prop} :
    awp (cx [] (pfL tb99)) (hdC 3 c99B) (thenQ (fun s' => s'.e 0 = ta ∧ s'.e 4 = ii i ∧ s'.e 3 = a ∧ s'.e 6 = ii (szT t lo i) ∧ s'.h = s.h ∧ s'.n = s.n) Q) s := by
  obtain ⟨e, h1, n1⟩ := s
  simp only [] at q0 q4 q3 hag hown
  have hp' : t.length * 64 ≤ 140737488355328 := hp
  rcases ns_at e5 with ⟨h0, _⟩ | ⟨id, off, k, rfl, hk, ho, hat⟩
  · rw [h0] at hi; simp at hi
  have hr := hat i hi
  have hid : id < n := lt_of hk hn
  have hk' : h1 id = some k := (hag id hid).trans hk
  have hc0 : k.cells[off + i * 6]? = some (.v (.int .i64 t[i].op)) := cell_of (c := 0) hr rfl (by omega)
  have hc4 : k.cells[off + (i * 6 + 4)]? = some (.v (.int .i64 t[i].a)) := by rw [← Nat.add_assoc]; exact cell_of (c := 4) hr rfl (by omega)
  have hc5 : k.cells[off + (i * 6 + 5)]? = some (.v (.int .i64 t[i].b)) := by rw [← Nat.add_assoc]; exact cell_of (c := 5) hr rfl (by omega)
  have hw0 : off + (i * 6 + 1) ≤ k.cells.length := by omega
  have hw6 : off + (i * 6 + 6) ≤ k.cells.length := by omega
  have hw5 : off + (i * 6 + 5) ≤ k.cells.length := by omega
  have hop := tree_op T hi
  have hlf := sz_leaf T hi
  have hun := sz_un T hi
  have hbi := sz_bin T hi
  have hsl := fun {j : Nat} (hj : j < t.length) => sz_le T hp hj
  have hgt : ∀ j, j < i → ((szL t lo i).map ii)[j]? = some (.v (.int .i64 (szT t lo j))) := fun j hj => by
    rw [List.getElem?_map, szL, List.getElem?_map, List.getElem?_range hj]; rfl
  have hcl : ((szL t lo i).map ii).length = i := by rw [List.length_map, szL_len]
  have ci : (i : Int) * 1 = i := by omega
  have hme : mentO t[i].op = decide (4 ≤ t[i].op ∧ t[i].op ≤ 11) := rfl
  generalize t[i] = x at *
  obtain ⟨op, num, var, attr, xa, xb⟩ := x
  simp only [] at hc0 hc4 hc5 hop hlf hun hbi hme
  generalize hcs : (szL t lo i).map ii = cs at *
  by_cases h11 : op ≤ 11
  · have hz := hlf h11
    by_cases h4 : 4 ≤ op
    · have hm : mentO op = true := by rw [hme]; simp [h4, h11]
      have o1 : ¬ op = 1 := by omega
      have o2 : ¬ op = 2 := by omega
      have o3 : ¬ op = 3 := by omega
      simp [evs, resAll, resVal, resOne, freeOp, isA, goOp, appNew, mkOp, gev, Region.binds, aop, aeval, gocall, heapOp, quietOp, ev, constAV, setd, yav, ystop, up, env0, cx_ti, cx_G, cx_pf, ti, globS, glob, pfL, lds, ldc, ldcs_1, ldcs_2, ldcs_3, ldcs_4, ldcs_5, ldcs_7, sts, sth, sls.eq_1, slc.eq_1, wr, place, fillOk, fillC, repZ, binI, isDiv, optInt, optI, eksOk, eksEq, EK.ok, EK.eq, AV.i, AV.isI, AV.isInt, AV.str, AV.isStr, AV.ones, AV.isPtr, AV.gl, AV.isG, Value.oneCell', hdC, tlC, c99B, c99L, inB, bodyL, Tryd.f99, q0, q4, q3, ii, hi, hk', hc0, hw0, hw6, tb99, g95, pure1, deI, hm, bv, o1, o2, o3, hz]
    · rcases (show op = 1 ∨ op = 2 ∨ op = 3 by omega) with rfl | rfl | rfl
      all_goals simp [evs, resAll, resVal, resOne, freeOp, isA, goOp, appNew, mkOp, gev, Region.binds, aop, aeval, gocall, heapOp, quietOp, ev, constAV, setd, yav, ystop, up, env0, cx_ti, cx_G, cx_pf, ti, globS, glob, pfL, lds, ldc, ldcs_1, ldcs_2, ldcs_3, ldcs_4, ldcs_5, ldcs_7, sts, sth, sls.eq_1, slc.eq_1, wr, place, fillOk, fillC, repZ, binI, isDiv, optInt, optI, eksOk, eksEq, EK.ok, EK.eq, AV.i, AV.isI, AV.isInt, AV.str, AV.isStr, AV.ones, AV.isPtr, AV.gl, AV.isG, Value.oneCell', hdC, tlC, c99B, c99L, inB, bodyL, Tryd.f99, q0, q4, q3, ii, hi, hk', hc0, hw0, hw6, tb99, g95, pure1, deI, bv, hz]
  have hm : mentO op = false := by rw [hme]; simp; omega
  have o1 : ¬ op = 1 := by omega
  have o2 : ¬ op = 2 := by omega
  have o3 : ¬ op = 3 := by omega
  have hz0 : 0 < i := by
    by_cases h12 : op = 12 ∨ op = 13
    · have := hun h12; omega
    · have := hbi (by omega); omega
  obtain ⟨w, u, rfl, hw, hw1, hw2⟩ := hown.resolve_left (fun e => by omega)
  by_cases h12 : op = 12 ∨ op = 13
  · obtain ⟨k1, k2, k3, _⟩ := hun h12
    obtain ⟨c, rfl⟩ : ∃ c : Nat, xa = c := ⟨xa.toNat, by omega⟩
    simp only [Int.toNat_natCast] at k3
    have hc : c < i := by omega
    have hg := hgt c hc
    have hb := hsl (j := c) (by omega)
    have w1 : IntKind.i64.wrap (szT t lo c + 1) = szT t lo c + 1 := W_id (by unfold Rng; omega)
    have hc1 : c + 1 ≤ i := hc
    have hg' : cs[c]'(by omega) = .v (.int .i64 (szT t lo c)) := by rw [List.getElem?_eq_getElem (by omega)] at hg; exact Option.some.inj hg
    simp [evs, resAll, resVal, resOne, freeOp, isA, goOp, appNew, mkOp, gev, Region.binds, aop, aeval, gocall, heapOp, quietOp, ev, constAV, setd, yav, ystop, up, env0, cx_ti, cx_G, cx_pf, ti, globS, glob, pfL, lds, ldc, ldcs_1, ldcs_2, ldcs_3, ldcs_4, ldcs_5, ldcs_7, sts, sth, sls.eq_1, slc.eq_1, wr, place, fillOk, fillC, repZ, binI, isDiv, optInt, optI, eksOk, eksEq, EK.ok, EK.eq, AV.i, AV.isI, AV.isInt, AV.str, AV.isStr, AV.ones, AV.isPtr, AV.gl, AV.isG, Value.oneCell', hdC, tlC, c99B, c99L, inB, bodyL, Tryd.f99, q0, q4, q3, ii, hi, hk', hc0, hc4, hw0, hw5, hw6, tb99, g95, pure1, deI, hm, bv, o1, o2, o3, h12, hw, hg', hcl, hc, hc1, w1, k3]
  · obtain ⟨k1, k2, k3, k4, k5, k6, _⟩ := hbi (by omega)
    obtain ⟨c, rfl⟩ : ∃ c : Nat, xa = c := ⟨xa.toNat, by omega⟩
    obtain ⟨d, rfl⟩ : ∃ d : Nat, xb = d := ⟨xb.toNat, by omega⟩
    simp only [Int.toNat_natCast] at k6
    have hc : c < i := by omega
    have hd : d < i := by omega
    have hg := hgt c hc
    have hgd := hgt d hd
    have hb := hsl (j := c) (by omega)
    have hbd := hsl (j := d) (by omega)
    have w1 : IntKind.i64.wrap (szT t lo c + szT t lo d) = szT t lo c + szT t lo d := W_id (by unfold Rng; omega)
    have w2 : IntKind.i64.wrap (szT t lo c + szT t lo d + 1) = szT t lo c + szT t lo d + 1 := W_id (by unfold Rng; omega)
    have w3 : IntKind.i64.wrap (szT t lo c + szT t lo d + 2) = szT t lo c + szT t lo d + 2 := W_id (by unfold Rng; omega)
    have hc1 : c + 1 ≤ i := hc
    have hg' : cs[c]'(by omega) = .v (.int .i64 (szT t lo c)) := by rw [List.getElem?_eq_getElem (by omega)] at hg; exact Option.some.inj hg
    have hd1 : d + 1 ≤ i := hd
    have hgd' : cs[d]'(by omega) = .v (.int .i64 (szT t lo d)) := by rw [List.getElem?_eq_getElem (by omega)] at hgd; exact Option.some.inj hgd
    have o12 : ¬ op = 12 := by omega
    have o13 : ¬ op = 13 := by omega
    by_cases h25 : 25 ≤ op
    · rw [if_pos h25] at k6
      rcases (show op = 25 ∨ op = 26 by omega) with rfl | rfl
      all_goals simp [evs, resAll, resVal, resOne, freeOp, isA, goOp, appNew, mkOp, gev, Region.binds, aop, aeval, gocall, heapOp, quietOp, ev, constAV, setd, yav, ystop, up, env0, cx_ti, cx_G, cx_pf, ti, globS, glob, pfL, lds, ldc, ldcs_1, ldcs_2, ldcs_3, ldcs_4, ldcs_5, ldcs_7, sts, sth, sls.eq_1, slc.eq_1, wr, place, fillOk, fillC, repZ, binI, isDiv, optInt, optI, eksOk, eksEq, EK.ok, EK.eq, AV.i, AV.isI, AV.isInt, AV.str, AV.isStr, AV.ones, AV.isPtr, AV.gl, AV.isG, Value.oneCell', hdC, tlC, c99B, c99L, inB, bodyL, Tryd.f99, q0, q4, q3, ii, hi, hk', hc0, hc4, hc5, hw0, hw5, hw6, tb99, g95, pure1, deI, hm, bv, hw, hg', hgd', hcl, hc, hd, hc1, hd1, w1, w2, w3, k6]
    · rw [if_neg h25] at k6
      have o25 : ¬ op = 25 := by omega
      have o26 : ¬ op = 26 := by omega
      simp [evs, resAll, resVal, resOne, freeOp, isA, goOp, appNew, mkOp, gev, Region.binds, aop, aeval, gocall, heapOp, quietOp, ev, constAV, setd, yav, ystop, up, env0, cx_ti, cx_G, cx_pf, ti, globS, glob, pfL, lds, ldc, ldcs_1, ldcs_2, ldcs_3, ldcs_4, ldcs_5, ldcs_7, sts, sth, sls.eq_1, slc.eq_1, wr, place, fillOk, fillC, repZ, binI, isDiv, optInt, optI, eksOk, eksEq, EK.ok, EK.eq, AV.i, AV.isI, AV.isInt, AV.str, AV.isStr, AV.ones, AV.isPtr, AV.gl, AV.isG, Value.oneCell', hdC, tlC, c99B, c99L, inB, bodyL, Tryd.f99, q0, q4, q3, ii, hi, hk', hc0, hc4, hc5, hw0, hw5, hw6, tb99, g95, pure1, deI, hm, bv, o1, o2, o3, o12, o13, o25, o26, hw, hg', hgd', hcl, hc, hd, hc1, hd1, w1, w2, w3, k6]
/-- The list of sizes. -/
theorem c99 (T : Tre t lo) (hp : smallT t) (e5 : rd dNs h ta = some t) (hn : Fresh n h) :
    ACall (cx [] (pfL tb99)) 99 [ta] h n fun z h' n' => agree n h h' ∧ Fresh n' h' ∧ n ≤ n' ∧ Own h' n n' z t.length ((szL t lo t.length).map ii) 1 := by
  refine acall_of_awp (args := [ta]) (pfL_ok tb99_ok) (mixed _ _) Tryd.func99 (c := Tryd.f99.body.getD .skip) rfl (by kernel_rfl) (callable Tryd.func99 rfl rfl _ _) (show 1 ≤ Tryd.f99.ntmps by decide +kernel) ?_
  have hp' : t.length * 64 ≤ 140737488355328 := hp
  obtain ⟨s1, s2, s3, s4, s5⟩ := sl_is e5
  have key : ∀ e : Nat → AV, e 0 = ta → awp (cx [] (pfL tb99)) (Tryd.f99.body.getD .skip) (finQ (cx [] (pfL tb99)) Tryd.f99 fun z h' n' => agree n h h' ∧ Fresh n' h' ∧ n ≤ n' ∧ Own h' n n' z t.length ((szL t lo t.length).map ii) 1) ⟨e, h, n⟩ := fun e q0 => by
    have e0 : Tryd.f99.body.getD .skip = .seq (hdC 1 (Tryd.f99.body.getD .skip)) (.seq (hdC 1 (tlC 1 (Tryd.f99.body.getD .skip))) (.seq (.seq (hdC 1 (hdC 1 (tlC 2 (Tryd.f99.body.getD .skip)))) (.block 0 (.loop c99L))) (tlC 3 (Tryd.f99.body.getD .skip)))) := rfl
    rw [e0]
    simp [evs, resAll, resVal, resOne, freeOp, isA, goOp, appNew, mkOp, gev, Region.binds, aop, aeval, gocall, heapOp, quietOp, ev, constAV, setd, yav, ystop, up, env0, cx_ti, cx_G, cx_pf, ti, globS, glob, pfL, lds, ldc, ldcs_1, ldcs_2, ldcs_3, ldcs_4, ldcs_5, ldcs_7, sts, sth, sls.eq_1, slc.eq_1, wr, place, fillOk, fillC, repZ, binI, isDiv, optInt, optI, eksOk, eksEq, EK.ok, EK.eq, AV.i, AV.isI, AV.isInt, AV.str, AV.isStr, AV.ones, AV.isPtr, AV.gl, AV.isG, Value.oneCell', hdC, tlC, Tryd.f99, q0, s1, s2, s3, ii]
    refine awp_loop (fun s => ∃ j, j ≤ t.length ∧ s.e 0 = ta ∧ s.e 4 = ii j ∧ Own s.h n s.n (s.e 3) j ((szL t lo j).map ii) 1 ∧ agree n h s.h ∧ Fresh s.n s.h ∧ n ≤ s.n) (fun s => t.length - (s.e 4).i.toNat) ⟨0, by simp [up, q0, ii, agree_refl, Own, hn, szL]⟩ ?_
    rintro e' h' n' ⟨j, hj, q0, q4, hown, hag, hfr, hnn⟩
    simp only [] at q0 q4 hown hag hfr hnn
    by_cases hlt : j < t.length
    · have hw := wrap_nat (j := j) (by unfold big; omega)
      obtain ⟨a, q3⟩ : ∃ a, e' 3 = a := ⟨_, rfl⟩
      rw [q3] at hown
      refine awp_cut 1 _ _ (R := fun s => s.e 0 = ta ∧ s.e 4 = ii j ∧ s.e 3 = a ∧ s.h = h' ∧ s.n = n') ?_ fun e2 h2 n2 ⟨k0, k4, k3, kh, kn⟩ => ?_
      · simp [evs, resAll, resVal, resOne, freeOp, isA, goOp, appNew, mkOp, gev, Region.binds, aop, aeval, gocall, heapOp, quietOp, ev, constAV, setd, yav, ystop, up, env0, cx_ti, cx_G, cx_pf, ti, globS, glob, pfL, lds, ldc, ldcs_1, ldcs_2, ldcs_3, ldcs_4, ldcs_5, ldcs_7, sts, sth, sls.eq_1, slc.eq_1, wr, place, fillOk, fillC, repZ, binI, isDiv, optInt, optI, eksOk, eksEq, EK.ok, EK.eq, AV.i, AV.isI, AV.isInt, AV.str, AV.isStr, AV.ones, AV.isPtr, AV.gl, AV.isG, Value.oneCell', hdC, tlC, c99L, bodyL, Tryd.f99, q0, q4, q3, ii, s1, s2, s3, hlt]
      simp only [] at k0 k4 k3 kh kn
      subst kh kn
      refine awp_cut 1 _ _ (R := fun s => s.e 0 = ta ∧ s.e 4 = ii j ∧ Own s.h n s.n (s.e 3) (j + 1) ((szL t lo (j + 1)).map ii) 1 ∧ agree n h s.h ∧ Fresh s.n s.h ∧ n ≤ s.n) ?_ fun e3 h3 n3 ⟨k0, k4, k3, k5, k6, k7⟩ => ?_
      · have e1' : hdC 1 (tlC 1 c99L) = .block 1 c99B := rfl
        rw [e1', awp_block]
        refine awp_cut 3 _ _ (c99a T hp e5 hn hlt ⟨e2, h2, n2⟩ k0 k4 hag k3 hown) fun e4 h4 n4 ⟨m0, m4, m3, m6, mh, mn⟩ => ?_
        simp only [] at m0 m4 m3 m6 mh mn
        subst mh mn
        have hss := szL_succ (t := t) (lo := lo) j
        have hsl : (szL t lo j).length = j := szL_len j
        rcases hown with ⟨z0, z1, z2⟩ | ⟨w, u, z1, z2, z3, z4⟩
        · subst z2
          have hn0 : szL t lo j = [] := List.eq_nil_of_length_eq_zero (by rw [hsl]; exact z0)
          simp [evs, resAll, resVal, resOne, freeOp, isA, goOp, appNew, mkOp, gev, Region.binds, aop, aeval, gocall, heapOp, quietOp, ev, constAV, setd, yav, ystop, up, env0, cx_ti, cx_G, cx_pf, ti, globS, glob, pfL, lds, ldc, ldcs_1, ldcs_2, ldcs_3, ldcs_4, ldcs_5, ldcs_7, sts, sth, sls.eq_1, slc.eq_1, wr, place, fillOk, fillC, repZ, binI, isDiv, optInt, optI, eksOk, eksEq, EK.ok, EK.eq, AV.i, AV.isI, AV.isInt, AV.str, AV.isStr, AV.ones, AV.isPtr, AV.gl, AV.isG, Value.oneCell', hdC, tlC, c99B, c99L, inB, bodyL, Tryd.f99, m0, m4, m3, m6, ii]
          have hag2 : ∀ b1 b2 : Option Blk, agree n h (up (up h4 n4 b1) (n4 + 1) b2) := fun b1 b2 => (agree_up (by omega) _).2 ((agree_up (by omega) _).2 hag)
          have hfr2 : ∀ b1 b2 : Option Blk, Fresh (n4 + 2) (up (up h4 n4 b1) (n4 + 1) b2) := fun b1 b2 => (fresh_up (by omega) _).2 ((fresh_up (by omega) _).2 (hfr.add 2))
          exact ⟨.inr ⟨n4 + 1, 0, by rw [z0], by rw [up_same, hss, hn0]; rfl, by omega, by omega⟩, hag2 _ _, hfr2 _ _, by omega⟩
        · subst z1
          have y1 : ¬ w = n4 := by omega
          have hb16 : (j + 1) * 8 ≤ 140737488355328 := by omega
          have hb17 : j ≤ 9223372036854775806 := by omega
          have hcl : ((szL t lo j).map ii).length = j := by rw [List.length_map, hsl]
          generalize hnj : (szL t lo j).map ii = cells at *
          simp [evs, resAll, resVal, resOne, freeOp, isA, goOp, appNew, mkOp, gev, Region.binds, aop, aeval, gocall, heapOp, quietOp, ev, constAV, setd, yav, ystop, up, env0, cx_ti, cx_G, cx_pf, ti, globS, glob, pfL, lds, ldc, ldcs_1, ldcs_2, ldcs_3, ldcs_4, ldcs_5, ldcs_7, sts, sth, sls.eq_1, slc.eq_1, wr, place, fillOk, fillC, repZ, binI, isDiv, optInt, optI, eksOk, eksEq, EK.ok, EK.eq, AV.i, AV.isI, AV.isInt, AV.str, AV.isStr, AV.ones, AV.isPtr, AV.gl, AV.isG, Value.oneCell', hdC, tlC, c99B, c99L, inB, bodyL, Tryd.f99, m0, m4, m3, m6, ii, z2, y1, hb16, hb17, hcl]
          have hag2 : ∀ b1 b2 : Option Blk, agree n h (up (up h4 n4 b1) w b2) := fun b1 b2 => (agree_up (by omega) _).2 ((agree_up (by omega) _).2 hag)
          have hfr2 : ∀ b1 b2 : Option Blk, Fresh (n4 + 2) (up (up h4 n4 b1) w b2) := fun b1 b2 => (fresh_up (by omega) _).2 ((fresh_up (by omega) _).2 (hfr.add 2))
          exact ⟨.inr ⟨w, u + 1, rfl, by rw [up_same, hss, List.map_append, hnj]; rfl, by omega, by omega⟩, hag2 _ _, hfr2 _ _, by omega⟩
      · simp only [] at k0 k4 k3 k5 k6 k7
        simp [evs, resAll, resVal, resOne, freeOp, isA, goOp, appNew, mkOp, gev, Region.binds, aop, aeval, gocall, heapOp, quietOp, ev, constAV, setd, yav, ystop, up, env0, cx_ti, cx_G, cx_pf, ti, globS, glob, pfL, lds, ldc, ldcs_1, ldcs_2, ldcs_3, ldcs_4, ldcs_5, ldcs_7, sts, sth, sls.eq_1, slc.eq_1, wr, place, fillOk, fillC, repZ, binI, isDiv, optInt, optI, eksOk, eksEq, EK.ok, EK.eq, AV.i, AV.isI, AV.isInt, AV.str, AV.isStr, AV.ones, AV.isPtr, AV.gl, AV.isG, Value.oneCell', hdC, tlC, c99L, bodyL, Tryd.f99, k4, q4, ii, hw]
        exact ⟨⟨j + 1, by omega, k0, by omega, k3, k5, k6, k7⟩, by omega⟩
    · obtain rfl : j = t.length := by omega
      simp [evs, resAll, resVal, resOne, freeOp, isA, goOp, appNew, mkOp, gev, Region.binds, aop, aeval, gocall, heapOp, quietOp, ev, constAV, setd, yav, ystop, up, env0, cx_ti, cx_G, cx_pf, ti, globS, glob, pfL, lds, ldc, ldcs_1, ldcs_2, ldcs_3, ldcs_4, ldcs_5, ldcs_7, sts, sth, sls.eq_1, slc.eq_1, wr, place, fillOk, fillC, repZ, binI, isDiv, optInt, optI, eksOk, eksEq, EK.ok, EK.eq, AV.i, AV.isI, AV.isInt, AV.str, AV.isStr, AV.ones, AV.isPtr, AV.gl, AV.isG, Value.oneCell', hdC, tlC, c99L, bodyL, Tryd.f99, q0, q4, ii, s1, s2, s3]
      exact ⟨hag, hfr, hnn, hown⟩
  exact key _ rfl
end
end Go.Proofs.YtkfphaphiikloaaDoor

/-
  COMPILING, PART O: the document's side: instructions set down from the root.
-/
namespace Go.Proofs.YtkfphaphiikloaaDoor
open Go Go.Eng

def fR (vs : List ByteArray) (t : List Nd) (k j : Nat) : Ins := if k ≤ j then ownT vs t j else zI
def gR (t : List Nd) (k j : Nat) : Ins := match parT t j with
  | some p => if k ≤ p then ⟨(t.getD p nd0).op, 0, 0, 0, (posT t p : Int) + 1⟩ else zI
  | none => zI
/-- What is set down when the nodes from k on are done. -/
def refT (vs : List ByteArray) (t : List Nd) (k : Nat) : List Ins := layT t (fR vs t k) (gR t k) t.length
section
variable {vs : List ByteArray} {t : List Nd}
theorem ref_len (k : Nat) : (refT vs t k).length = posT t t.length := lay_len _ _ _
theorem ref_zero : refT vs t t.length = List.replicate (posT t t.length) zI := by
  rw [← lay_rep]
  refine lay_ext _ (fun j hj => by unfold fR; rw [if_neg (by omega)]) fun j hj hp => ?_
  unfold gR
  cases h : parT t j with
  | none => rfl
  | some p => simp only; rw [if_neg (by have := (par_is h).1; omega)]
theorem ref_end : refT vs t 0 = codeT vs t := by
  refine lay_ext _ (fun j hj => by unfold fR; rw [if_pos (by omega)]) fun j hj hp => ?_
  unfold gR jmpT
  cases h : parT t j with
  | none => rfl
  | some p => simp
theorem ref_own {i : Nat} (hi : i < t.length) (h : t[i].op < 25) : (refT vs t (i + 1)).set (posT t i) (ownT vs t i) = refT vs t i := by
  unfold refT
  rw [lay_set _ hi]
  refine lay_ext _ (fun j hj => ?_) fun j hj hp => ?_
  · unfold updF fR
    by_cases e : j = i
    · subst e; rw [if_pos rfl, if_pos (Nat.le_refl _)]
    · rw [if_neg e]
      have : i + 1 ≤ j ↔ i ≤ j := by omega
      simp only [this]
  · unfold gR
    cases hq : parT t j with
    | none => rfl
    | some p =>
      obtain ⟨h1, h2, _⟩ := par_is hq
      have : p ≠ i := fun e => by subst e; omega
      have : i + 1 ≤ p ↔ i ≤ p := by omega
      simp only [this]
theorem ref_jump {lo : Nat → Nat} (T : Tre t lo) {i a : Nat} (hi : i < t.length) (h : 25 ≤ t[i].op) (ha : t[i].a = (a : Int)) : ((refT vs t (i + 1)).set (posT t a + 1) ⟨t[i].op, 0, 0, 0, (posT t i : Int) + 1⟩).set (posT t i) (ownT vs t i) = refT vs t i := by
  have hpa := par_at T hi h ha
  have hal : a < t.length := by
    obtain ⟨h1, h2, _⟩ := sz_bin T hi (by omega)
    omega
  unfold refT
  rw [lay_setj _ (by rw [hpa]; rfl) hal, lay_set _ hi]
  refine lay_ext _ (fun j hj => ?_) fun j hj hp => ?_
  · unfold updF fR
    by_cases e : j = i
    · subst e; rw [if_pos rfl, if_pos (Nat.le_refl _)]
    · rw [if_neg e]
      have : i + 1 ≤ j ↔ i ≤ j := by omega
      simp only [this]
  · unfold updF
    by_cases e : j = a
    · subst e
      rw [if_pos rfl, gR, hpa]
      simp only
      rw [if_pos (Nat.le_refl _), getD_at hi]
    · rw [if_neg e]
      unfold gR
      cases hq : parT t j with
      | none => rfl
      | some p =>
        have : p ≠ i := fun e2 => by
          subst e2
          obtain ⟨_, _, h3⟩ := par_is hq
          omega
        have : i + 1 ≤ p ↔ i ≤ p := by omega
        simp only [this]
end
theorem wr_app {α : Type} : ∀ (cs : List α) (a b c : List α), b.length = cs.length → wr (a ++ b ++ c) a.length cs = a ++ cs ++ c
  | [], a, b, c, h => by
    have : b = [] := List.eq_nil_of_length_eq_zero h
    subst this; rfl
  | x :: r, a, [], c, h => by simp at h
  | x :: r, a, y :: b, c, h => by
    have e : ((a ++ (y :: b) ++ c).set a.length x) = (a ++ [x]) ++ b ++ c := by
      rw [List.append_assoc, List.set_append_right _ _ (Nat.le_refl _), Nat.sub_self]
      simp
    have := wr_app r (a ++ [x]) b c (by simpa using h)
    rw [List.length_append] at this
    simp only [wr, e]
    rw [show a.length + [x].length = a.length + 1 by rfl] at this
    rw [this]
    simp
theorem flat_wr {α : Type} {sz : Nat} {d : De α} {en : α → List AV} (f : Flat sz d en) (y : α) : ∀ (l : List α) (i : Nat), i < l.length → wr (l.flatMap en) (i * sz) (en y) = (l.set i y).flatMap en := fun l i hi => by
  have h1 : l = l.take i ++ l[i] :: l.drop (i + 1) := by rw [← List.drop_eq_getElem_cons hi, List.take_append_drop]
  have hl : ((l.take i).flatMap en).length = i * sz := by rw [flat_len f, List.length_take]; congr 1; omega
  have e1 : l.flatMap en = (l.take i).flatMap en ++ en l[i] ++ (l.drop (i + 1)).flatMap en := by
    conv => lhs; rw [h1]
    rw [List.flatMap_append, List.flatMap_cons, List.append_assoc]
  have := wr_app (en y) ((l.take i).flatMap en) (en l[i]) ((l.drop (i + 1)).flatMap en) (by rw [f.len, f.len])
  rw [hl, ← e1] at this
  rw [this, List.set_eq_take_append_cons_drop, if_pos hi, List.flatMap_append, List.flatMap_cons, List.append_assoc]
theorem repZ5 : ∀ n, repZ [Value.int .i64 0, Value.int .i64 0, Value.int .i64 0, Value.int .i64 0, Value.int .i64 0] n = (List.replicate n zI).flatMap icells
  | 0 => rfl
  | n + 1 => by
    show [.v (.int .i64 0), .v (.int .i64 0), .v (.int .i64 0), .v (.int .i64 0), .v (.int .i64 0)] ++ repZ [Value.int .i64 0, Value.int .i64 0, Value.int .i64 0, Value.int .i64 0, Value.int .i64 0] n = _
    rw [repZ5 n, List.replicate_succ, List.flatMap_cons]
    rfl
end Go.Proofs.YtkfphaphiikloaaDoor

/-
  COMPILING, PART P: the document's side: the walk from the root.
-/
namespace Go.Proofs.YtkfphaphiikloaaDoor
open Go Go.Eng

noncomputable def c59L : Code := bodyL (hdC 1 (tlC 4 (Tryd.f59.body.getD .skip)))
noncomputable def c59B : Code := inB (hdC 1 (tlC 1 c59L))
def tb59 : List (FuncId × (List AV → Heap → PRes)) := [(95, g95), (100, G100)]
theorem tb59_ok : TbOk [] tb59 := tb_cons p95 (tb_cons P100 tb_nil)
/-- What the bases say when the nodes from k on are done. -/
def BaseOk (t : List Nd) (lo : Nat → Nat) (k : Nat) (bl : List Int) : Prop := bl.length = t.length ∧ ∀ j, j < t.length → (j = t.length - 1 ∨ ∃ p, ∃ hp : p < t.length, k ≤ p ∧ (t[p].a = (j : Int) ∨ t[p].b = (j : Int))) → bl[j]? = some (posT t (lo j) : Int)
structure M59 (h0 : Heap) (n : Nat) (qc : List AV) (la ta : AV) (vs : List ByteArray) (t : List Nd) (lo : Nat → Nat) (ws us wo wb k : Nat) (s : St) : Prop where
  q1 : s.e 1 = la
  q2 : s.e 2 = ta
  q3 : s.e 3 = .p n 0 0
  q7 : s.e 7 = .s ws us 0 t.length
  q8 : s.e 8 = .s wo 0 0 (posT t t.length)
  q9 : s.e 9 = .s wb 0 0 t.length
  k3 : s.h n = some ⟨qc, 0, true, 7⟩
  ks : s.h ws = some ⟨(szL t lo t.length).map ii, us, true, 1⟩
  ko : s.h wo = some ⟨(refT vs t k).flatMap icells, 0, true, 5⟩
  kb : ∃ bl, BaseOk t lo k bl ∧ s.h wb = some ⟨bl.map ii, 0, true, 1⟩
  w : n < ws ∧ ws < wo ∧ wo < wb ∧ wb < s.n
  ag : agree n h0 s.h
  fr : Fresh s.n s.h
theorem M59.up {h0 : Heap} {n : Nat} {qc : List AV} {la ta : AV} {vs : List ByteArray} {t : List Nd} {lo : Nat → Nat} {ws us wo wb k k' : Nat} {s s' : St} (a : M59 h0 n qc la ta vs t lo ws us wo wb k s) (he : ∀ i ∈ [1, 2, 3, 7, 8, 9], s'.e i = s.e i) (hh : ∀ q, q < s.n → q ≠ wo → q ≠ wb → s'.h q = s.h q) (ho : s'.h wo = some ⟨(refT vs t k').flatMap icells, 0, true, 5⟩) (hb : ∃ bl, BaseOk t lo k' bl ∧ s'.h wb = some ⟨bl.map ii, 0, true, 1⟩) (hn : s.n ≤ s'.n) (hf : Fresh s'.n s'.h) : M59 h0 n qc la ta vs t lo ws us wo wb k' s' := by
  obtain ⟨x1, x2, x3, x4, x5, x6, x7, x8, x9, x10, x11, x12, x13⟩ := a
  exact ⟨by rw [he 1 (by simp)]; exact x1, by rw [he 2 (by simp)]; exact x2, by rw [he 3 (by simp)]; exact x3, by rw [he 7 (by simp)]; exact x4, by rw [he 8 (by simp)]; exact x5, by rw [he 9 (by simp)]; exact x6, by rw [hh _ (by omega) (by omega) (by omega)]; exact x7, by rw [hh _ (by omega) (by omega) (by omega)]; exact x8, ho, hb, by omega, fun q hq => by rw [hh q (by omega) (by omega) (by omega)]; exact x12 q hq, hf⟩
theorem M59.same {h0 : Heap} {n : Nat} {qc : List AV} {la ta : AV} {vs : List ByteArray} {t : List Nd} {lo : Nat → Nat} {ws us wo wb k : Nat} {s : St} {e' : Nat → AV} (a : M59 h0 n qc la ta vs t lo ws us wo wb k s) (he : ∀ i ∈ [1, 2, 3, 7, 8, 9], e' i = s.e i) : M59 h0 n qc la ta vs t lo ws us wo wb k ⟨e', s.h, s.n⟩ :=
  a.up he (fun _ _ _ _ => rfl) a.ko a.kb (Nat.le_refl _) a.fr
section
variable {t : List Nd} {lo : Nat → Nat}
theorem base_at (T : Tre t lo) {i : Nat} (hi : i < t.length) {bl : List Int} (b : BaseOk t lo (i + 1) bl) : bl[i]? = some (posT t (lo i) : Int) := by
  by_cases e : i = t.length - 1
  · exact b.2 i hi (.inl e)
  · obtain ⟨p, hp, h1, h2⟩ := has_par T (j := i) (by omega)
    exact b.2 i hi (.inr ⟨p, hp, h1, h2⟩)
theorem base_leaf (T : Tre t lo) {i : Nat} (hi : i < t.length) (ho : t[i].op ≤ 11) {bl : List Int} (b : BaseOk t lo (i + 1) bl) : BaseOk t lo i bl := by
  refine ⟨b.1, fun j hj h => b.2 j hj ?_⟩
  rcases h with h | ⟨p, hp, h1, h2⟩
  · exact .inl h
  · refine .inr ⟨p, hp, ?_, h2⟩
    by_cases e : p = i
    · subst e
      rcases T.kind p hp with ⟨_, _, h3, h4, _⟩ | ⟨_, _⟩ | ⟨_, _⟩ <;> omega
    · omega
theorem base_un (T : Tre t lo) {i c : Nat} (hi : i < t.length) (ho : t[i].op = 12 ∨ t[i].op = 13) (hc : t[i].a = (c : Int)) {bl : List Int} (b : BaseOk t lo (i + 1) bl) : BaseOk t lo i (bl.set c (posT t (lo i) : Int)) := by
  obtain ⟨k1, k2, _, k4⟩ := sz_un T hi ho
  rw [hc, Int.toNat_natCast] at k4
  refine ⟨by rw [List.length_set]; exact b.1, fun j hj h => ?_⟩
  rw [List.getElem?_set]
  by_cases e : c = j
  · subst e
    rw [if_pos rfl, if_pos (by rw [b.1]; exact hj), k4]
  · rw [if_neg e]
    refine b.2 j hj ?_
    rcases h with h | ⟨p, hp, h1, h2⟩
    · exact .inl h
    · refine .inr ⟨p, hp, ?_, h2⟩
      by_cases e2 : p = i
      · subst e2
        rcases T.kind p hp with ⟨_, h0, _⟩ | ⟨_, _, _, h4, _⟩ | ⟨h0, _⟩ <;> omega
      · omega
theorem base_bin (T : Tre t lo) {i c d : Nat} (hi : i < t.length) (ho : 14 ≤ t[i].op) (hc : t[i].a = (c : Int)) (hd : t[i].b = (d : Int)) {bl : List Int} (b : BaseOk t lo (i + 1) bl) : BaseOk t lo i ((bl.set c (posT t (lo i) : Int)).set d ((posT t c : Int) + if 25 ≤ t[i].op then 2 else 1)) := by
  obtain ⟨k1, k2, k3, k4, k5, _, k7, k8, _⟩ := sz_bin T hi ho
  rw [hc, Int.toNat_natCast] at k7 k8
  rw [hd, Int.toNat_natCast] at k8
  refine ⟨by rw [List.length_set, List.length_set]; exact b.1, fun j hj h => ?_⟩
  rw [List.getElem?_set]
  by_cases e : d = j
  · subst e
    rw [if_pos rfl, if_pos (by rw [List.length_set, b.1]; exact hj), ← k8]
  · rw [if_neg e, List.getElem?_set]
    by_cases e2 : c = j
    · subst e2
      rw [if_pos rfl, if_pos (by rw [b.1]; exact hj), k7]
    · rw [if_neg e2]
      refine b.2 j hj ?_
      rcases h with h | ⟨p, hp, h1, h2⟩
      · exact .inl h
      · refine .inr ⟨p, hp, ?_, h2⟩
        by_cases e3 : p = i
        · subst e3; omega
        · omega
end
section
set_option maxRecDepth 100000
set_option maxHeartbeats 4000000
variable {h : Heap} {n : Nat} {qc : List AV} {la ta : AV} {vs : List ByteArray} {t : List Nd} {lo : Nat → Nat} {ws us wo wb i : Nat}
/-- The operator, and where the own instruction stands. -/
theorem c59a (T : Tre t lo) (hp : smallT t) (e5 : rd dNs h ta = some t) (hn : Fresh n h) (hi : i < t.length) (s : St) (q10 : s.e 10 = ii i) (a : M59 h n qc la ta vs t lo ws us wo wb (i + 1) s) {Q : Ex → St → Prop} :
    awp (cx [] (pfL tb59)) (hdC 2 c59B) (thenQ (fun s' => s'.e 10 = ii i ∧ s'.e 11 = ii t[i].op ∧ s'.e 12 = ii (posT t i) ∧ M59 h n qc la ta vs t lo ws us wo wb (i + 1) s') Q) s := by
  obtain ⟨e, h1, n1⟩ := s
  have a0 := a
  obtain ⟨x1, x2, x3, x4, x5, x6, x7, x8, x9, ⟨bl, b1, b2⟩, x11, x12, x13⟩ := a
  simp only [] at q10 x1 x2 x3 x4 x5 x6 x7 x8 x9 b2 x11 x12 x13
  have hp' : t.length * 64 ≤ 140737488355328 := hp
  rcases ns_at e5 with ⟨h0, _⟩ | ⟨id, off, k, rfl, hk, ho, hat⟩
  · rw [h0] at hi; simp at hi
  have hr := hat i hi
  have hid : id < n := lt_of hk hn
  have hk' : h1 id = some k := (x12 id hid).trans hk
  have hc0 : k.cells[off + i * 6]? = some (.v (.int .i64 t[i].op)) := cell_of (c := 0) hr rfl (by omega)
  have hw0 : off + (i * 6 + 1) ≤ k.cells.length := by omega
  have hw6 : off + (i * 6 + 6) ≤ k.cells.length := by omega
  have hba := base_at T hi b1
  have hbl : (bl.map ii).length = t.length := by rw [List.length_map]; exact b1.1
  have hib : i < (bl.map ii).length := by omega
  have hbg : (bl.map ii)[i]'hib = .v (.int .i64 (posT t (lo i))) := by
    rw [List.getElem_map]
    rw [List.getElem?_eq_getElem (by rw [b1.1]; exact hi)] at hba
    rw [Option.some.inj hba]; rfl
  have hsl : ((szL t lo t.length).map ii).length = t.length := by rw [List.length_map, szL_len]
  have his : i < ((szL t lo t.length).map ii).length := by omega
  have hsg : ((szL t lo t.length).map ii)[i]'his = .v (.int .i64 (szT t lo i)) := by
    rw [List.getElem_map]
    simp [szL]; rfl
  have hi1 : i + 1 ≤ t.length := hi
  have hsz := sz_le T hp hi
  have hpl := pos_lt (t := t) hi
  have hfew := few T
  have hfl := (few_to T i i rfl hi).2
  have w1 : IntKind.i64.wrap ((posT t (lo i) : Int) + szT t lo i) = (posT t i : Int) + 1 := (W_id (by unfold Rng; omega)).trans (by unfold szT; omega)
  generalize hbs : bl.map ii = bs at *
  generalize hss : (szL t lo t.length).map ii = ss' at *
  simp [evs, resAll, resVal, resOne, freeOp, isA, goOp, appNew, mkOp, gev, Region.binds, aop, aeval, gocall, heapOp, quietOp, ev, constAV, setd, yav, ystop, up, env0, cx_ti, cx_G, cx_pf, ti, globS, glob, pfL, lds, ldc, ldcs_1, ldcs_2, ldcs_3, ldcs_4, ldcs_5, ldcs_7, sts, sth, sls.eq_1, slc.eq_1, wr, place, fillOk, fillC, repZ, binI, isDiv, optInt, optI, eksOk, eksEq, EK.ok, EK.eq, AV.i, AV.isI, AV.isInt, AV.str, AV.isStr, AV.ones, AV.isPtr, AV.gl, AV.isG, Value.oneCell', hdC, tlC, c59B, c59L, inB, bodyL, Tryd.f59, q10, x2, x4, x6, x8, b2, ii, hi, hi1, hk', hc0, hw0, hw6, hbl, hbg, hsl, hsg, w1]
  exact ⟨W_id (by unfold Rng; omega), a0.up (by simp [up]) (fun _ _ _ _ => rfl) a0.ko a0.kb (Nat.le_refl _) a0.fr⟩
end
end Go.Proofs.YtkfphaphiikloaaDoor
