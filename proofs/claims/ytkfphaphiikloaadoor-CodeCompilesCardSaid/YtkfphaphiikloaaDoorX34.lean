/-
  COMPILING, PART T: the document's side: the columns of a list of names.
-/
import Derived.Test.YtkfphaphiikloaaDoorX33
import Derived.Test.YtkfphaphiikloaaDoorX30
set_option linter.unusedSimpArgs false
set_option linter.unusedVariables false
set_option linter.constructorNameAsVariable false
namespace Go.Proofs.YtkfphaphiikloaaDoor
open Go Go.Eng

theorem is_map : ∀ l : List Int, l.map ii = l.flatMap ic
  | [] => rfl
  | a :: r => by rw [List.map_cons, List.flatMap_cons, is_map r]; rfl
theorem KC.rd {h : Heap} {G : Nat → Prop} {hi : Nat} {bad : Nat → Prop} {c : AV} {l : List Int} (k : KC h G hi bad c l) : rd dIs h c = some l := by
  rcases k with ⟨rfl, rfl⟩ | ⟨b, v, rfl, k2, _⟩
  · rfl
  · exact flat_in Flat.ic (l := l) k2 rfl (r := []) (by rw [is_map]; simp)
theorem cols_rd {h : Heap} {w u : Nat} {cs : List AV} {cols : List (List Int)} (hk : h w = some ⟨cs, u, true, 1⟩) (hl : cs.length = cols.length) (ha : ∀ i (hi' : i < cols.length), ∃ c, cs[i]? = some c ∧ rd dIs h c = some cols[i]) : rd dIss h (.s w u 0 cols.length) = some cols := by
  refine De.sl_in (off := 0) hk (by simp only []; omega) fun i hi => ?_
  obtain ⟨c, h1, h2⟩ := ha i hi
  simp only [Nat.zero_add, Nat.mul_one]
  obtain ⟨h3, h4⟩ := List.getElem?_eq_some_iff.1 h1
  rw [List.drop_eq_getElem_cons h3, h4]
  exact h2
theorem OwnQ.rd {h : Heap} {lo hi : Nat} {z : AV} {p : Pr} (o : OwnQ h lo hi z p) : dePr h z = some p := by
  obtain ⟨ca, la, rfl, o1, o2⟩ := o
  refine dePr_in ?_ ?_
  · rcases o1 with ⟨h0, rfl⟩ | ⟨w, u, rfl, k, _⟩
    · rw [h0]; rfl
    · exact flat_in Flat.ins k rfl (r := []) (by simp)
  · rcases o2 with ⟨h0, rfl⟩ | ⟨w, u, cs, rfl, k, _, _, _, hl, ha⟩
    · rw [h0]; rfl
    · exact cols_rd k hl fun i hi => by
        obtain ⟨c, h1, h2⟩ := ha i hi
        exact ⟨c, h1, h2.rd⟩
/-- Columns of their own. -/
def CL (h : Heap) (lo hi : Nat) (z : AV) (cols : List (List Int)) : Prop := (cols = [] ∧ z = .v (.slice none 0 0)) ∨ ∃ w u cs, z = .s w u 0 cols.length ∧ h w = some ⟨cs, u, true, 1⟩ ∧ lo ≤ w ∧ w < hi ∧ cs.length = cols.length ∧ ∀ i (hi' : i < cols.length), ∃ c, cs[i]? = some c ∧ KC h (fun q => lo ≤ q) hi (fun b => b = w) c cols[i]
theorem CL.up {h h' : Heap} {lo hi hi' : Nat} {z : AV} {cols : List (List Int)} (o : CL h lo hi z cols) (hh : ∀ q, lo ≤ q → q < hi → h' q = h q) (h2 : hi ≤ hi') : CL h' lo hi' z cols := by
  rcases o with h0 | ⟨w, u, cs, k1, k2, k3, k4, k5, k6⟩
  · exact .inl h0
  · refine .inr ⟨w, u, cs, k1, by rw [hh w k3 k4]; exact k2, k3, by omega, k5, fun i hi => ?_⟩
    obtain ⟨c, j1, j2⟩ := k6 i hi
    exact ⟨c, j1, j2.up (fun q g1 g2 _ => hh q g1 g2) (fun _ _ _ hx => hx) h2⟩
theorem CL.rd {h : Heap} {lo hi : Nat} {z : AV} {cols : List (List Int)} (o : CL h lo hi z cols) : rd dIss h z = some cols := by
  rcases o with ⟨rfl, rfl⟩ | ⟨w, u, cs, rfl, k2, _, _, k5, k6⟩
  · rfl
  · exact cols_rd k2 k5 fun i hi => by
      obtain ⟨c, h1, h2⟩ := k6 i hi
      exact ⟨c, h1, h2.rd⟩
theorem CL.is {h : Heap} {lo hi : Nat} {z : AV} {cols : List (List Int)} (o : CL h lo hi z cols) : z.isS ∧ z.slen = cols.length ∧ (∀ g, AV.unc g z = z) ∧ z.one ∧ z.cells = [z] := by
  rcases o with ⟨rfl, rfl⟩ | ⟨w, u, cs, rfl, _⟩
  · exact ⟨⟨rfl, rfl⟩, rfl, fun _ => rfl, rfl, rfl⟩
  · exact ⟨trivial, rfl, fun _ => rfl, trivial, rfl⟩
/-- A column of one's own is a column that is well. -/
theorem own_kc {h h' : Heap} {p hi hi' lo w : Nat} {c : AV} {l : List Int} (o : Own h p hi c l.length (l.map ii) 1) (hh : ∀ q, p ≤ q → q < hi → h' q = h q) (h1 : lo ≤ p) (h2 : hi ≤ hi') (h3 : w < p ∨ hi ≤ w) : KC h' (fun q => lo ≤ q) hi' (fun b => b = w) c l := by
  rcases o with ⟨z0, _, rfl⟩ | ⟨b, v, k1, k2, k3, k4⟩
  · exact .inl ⟨List.eq_nil_of_length_eq_zero z0, rfl⟩
  · exact .inr ⟨b, v, k1, by rw [hh b k3 k4]; exact k2, by omega, by omega, by omega⟩

noncomputable def c22L : Code := bodyL (hdC 1 (tlC 5 (Tryd.f22.body.getD .skip)))
noncomputable def c22B : Code := inB (hdC 1 (tlC 1 c22L))
noncomputable def c22M : Code := bodyL (hdC 1 (tlC 1 c22B))
def tb22 : List (FuncId × (List AV → Heap → PRes)) := [(57, G57), (60, GAt)]
theorem tb22_ok : TbOk [7] tb22 := tb_cons P57 (tb_cons P60 tb_nil)
def colTo (tys : List Ty) (name : ByteArray) (j : Nat) : List Int := (List.range j).map fun (i : Nat) => attrOf tys (i : Int) name
theorem colTo_len (tys : List Ty) (name : ByteArray) (j : Nat) : (colTo tys name j).length = j := by simp [colTo]
theorem colTo_succ (tys : List Ty) (name : ByteArray) (j : Nat) : colTo tys name (j + 1) = colTo tys name j ++ [attrOf tys (j : Int) name] := by simp [colTo, List.range_succ]
theorem colTo_end (tys : List Ty) (name : ByteArray) : colTo tys name tys.length = colOf tys name := rfl
/-- While the columns are made. -/
structure B22 (h8 : Heap) (k8 n : Nat) (sa la : AV) (m wo : Nat) (code : List Ins) (cols : List (List Int)) (s : St) : Prop where
  q3 : s.e 3 = .p n 0 0
  q6 : s.e 6 = .p (n + 2) 0 0
  q8 : s.e 8 = la
  q9 : s.e 9 = .p m 0 0
  k3 : s.h n = some ⟨[sa], 0, true, 1⟩
  k6 : s.h (n + 2) = some ⟨[.v (.slice none 0 0), .v (.slice none 0 0)], 0, true, 2⟩
  km : ∃ zl, s.h m = some ⟨[.s wo 0 0 code.length, zl], 0, true, 2⟩ ∧ CL s.h (m + 1) s.n zl cols
  ko : s.h wo = some ⟨code.flatMap icells, 0, true, 5⟩
  w : n + 3 ≤ k8 ∧ k8 ≤ wo ∧ wo < m ∧ m < s.n
  ag : agree k8 h8 s.h
  fr : Fresh s.n s.h
theorem B22.up {h8 : Heap} {k8 n : Nat} {sa la : AV} {m wo : Nat} {code : List Ins} {cols : List (List Int)} {s s' : St} (a : B22 h8 k8 n sa la m wo code cols s) (he : ∀ i ∈ [3, 6, 8, 9], s'.e i = s.e i) (hh : ∀ q, q < s.n → s'.h q = s.h q) (hn : s.n ≤ s'.n) (hf : Fresh s'.n s'.h) : B22 h8 k8 n sa la m wo code cols s' := by
  obtain ⟨x1, x2, x3, x4, x5, x6, ⟨zl, x7, x8⟩, x9, x10, x11, x12⟩ := a
  exact ⟨by rw [he 3 (by simp)]; exact x1, by rw [he 6 (by simp)]; exact x2, by rw [he 8 (by simp)]; exact x3, by rw [he 9 (by simp)]; exact x4, by rw [hh _ (by omega)]; exact x5, by rw [hh _ (by omega)]; exact x6, ⟨zl, by rw [hh _ (by omega)]; exact x7, x8.up (fun q _ h2 => hh q h2) hn⟩, by rw [hh _ (by omega)]; exact x9, by omega, fun q hq => by rw [hh q (by omega)]; exact x11 q hq, hf⟩
section
set_option maxRecDepth 100000
set_option maxHeartbeats 4000000
variable {h8 : Heap} {k8 n : Nat} {sa la : AV} {m wo : Nat} {code : List Ins} {tys : List Ty} {names : List ByteArray} {cols : List (List Int)} {i : Nat}
/-- One column. -/
theorem c22i (hf8 : Fresh k8 h8) (gl : rd dSs h8 la = some names) (e1 : rd dTys h8 sa = some tys) (hst : smallS tys) (htl : tys.length * 8 ≤ 140737488355328) (hi : i < names.length) (hnl : names.length < big) (s : St) (q10 : s.e 10 = ii i) (q11 : s.e 11 = .v (.slice none 0 0)) (a : B22 h8 k8 n sa la m wo code cols s) {Q : Ex → St → Prop} :
    awp (cx [7] (pfL tb22)) (hdC 1 (tlC 1 c22B)) (thenQ (fun s' => s'.e 10 = ii i ∧ (∀ i ∈ [3, 6, 8, 9], s'.e i = s.e i) ∧ (∀ q, q < s.n → s'.h q = s.h q) ∧ s.n ≤ s'.n ∧ Fresh s'.n s'.h ∧ Own s'.h s.n s'.n (s'.e 11) tys.length ((colOf tys names[i]).map ii) 1) Q) s := by
  obtain ⟨e, h1, n1⟩ := s
  have a0 := a
  obtain ⟨x1, x2, x3, x4, x5, x6, _, x9, x10, x11, x12⟩ := a
  simp only [] at q10 q11 x1 x2 x3 x4 x5 x6 x9 x10 x11 x12
  obtain ⟨s1, s2, s3, s4, s5⟩ := sl_is e1
  have e0 : hdC 1 (tlC 1 c22B) = .seq (hdC 1 (hdC 1 (tlC 1 c22B))) (.block 2 (.loop c22M)) := rfl
  rw [e0]
  simp [evs, resAll, resVal, resOne, freeOp, isA, goOp, appNew, mkOp, gev, Region.binds, aop, aeval, gocall, heapOp, quietOp, ev, constAV, setd, yav, ystop, up, env0, cx_ti, cx_G, cx_pf, ti, globS, glob, pfL, lds, ldc, ldcs_1, ldcs_2, ldcs_3, ldcs_4, ldcs_5, ldcs_7, sts, sth, sls.eq_1, slc.eq_1, wr, place, fillOk, fillC, repZ, binI, isDiv, optInt, optI, eksOk, eksEq, EK.ok, EK.eq, AV.i, AV.isI, AV.isInt, AV.str, AV.isStr, AV.ones, AV.isPtr, AV.gl, AV.isG, Value.oneCell', hdC, tlC, c22B, c22L, inB, bodyL, Tryd.f22]
  refine awp_loop (fun s => ∃ j, j ≤ tys.length ∧ s.e 10 = ii i ∧ s.e 12 = ii j ∧ (∀ i ∈ [3, 6, 8, 9], s.e i = e i) ∧ Fresh s.n s.h ∧ n1 ≤ s.n ∧ (∀ q, q < n1 → s.h q = h1 q) ∧ Own s.h n1 s.n (s.e 11) j ((colTo tys names[i] j).map ii) 1) (fun s => tys.length - (s.e 12).i.toNat) ⟨0, by omega, by simp [up, q10], by simp [up, ii], by simp [up], x12, Nat.le_refl _, fun _ _ => rfl, .inl ⟨rfl, rfl, by simp [up, q11]⟩⟩ ?_
  rintro e' h' n' ⟨j, hj, q10, q12, he, hfr, hnn, hsame, hown⟩
  simp only [] at q10 q12 he hfr hnn hsame hown
  have z3 := (he 3 (by simp)).trans x1
  have z8 := (he 8 (by simp)).trans x3
  have z5 := (hsame n (by omega)).trans x5
  by_cases hlt : j < tys.length
  · rcases ss_at gl with ⟨h0, _⟩ | ⟨id, off, k, rfl, hk, ho, hat⟩
    · rw [h0] at hi; simp at hi
    have hr := hat i hi
    have hid : id < k8 := lt_of hk hf8
    have hk' : h' id = some k := (hsame id (by omega)).trans ((x11 id hid).trans hk)
    have hw1 : off + (i + 1) ≤ k.cells.length := by omega
    have gsc : ∀ h'', agree k8 h8 h'' → deSc h'' (.g [sa]) = some tys := fun h'' ha => rd_agr hf8 e1 h'' ha
    have gsc1 := gsc h' fun q hq => (hsame q (by omega)).trans (x11 q hq)
    have hsu := colTo_succ tys names[i] j
    have hsl := colTo_len tys names[i] j
    have hw := wrap_nat (j := j) (by unfold big; omega)
    obtain ⟨z, q11'⟩ : ∃ z, e' 11 = z := ⟨_, rfl⟩
    rw [q11'] at hown
    generalize names[i] = nm at *
    generalize hat : attrOf tys (j : Int) nm = pl at *
    rcases hown with ⟨z0, z1, z2⟩ | ⟨w, u, v1, v2, v3, v4⟩
    · subst z2
      have hn0 : colTo tys nm j = [] := List.eq_nil_of_length_eq_zero (by rw [hsl]; exact z0)
      simp [evs, resAll, resVal, resOne, freeOp, isA, goOp, appNew, mkOp, gev, Region.binds, aop, aeval, gocall, heapOp, quietOp, ev, constAV, setd, yav, ystop, up, env0, cx_ti, cx_G, cx_pf, ti, globS, glob, pfL, lds, ldc, ldcs_1, ldcs_2, ldcs_3, ldcs_4, ldcs_5, ldcs_7, sts, sth, sls.eq_1, slc.eq_1, wr, place, fillOk, fillC, repZ, binI, isDiv, optInt, optI, eksOk, eksEq, EK.ok, EK.eq, AV.i, AV.isI, AV.isInt, AV.str, AV.isStr, AV.ones, AV.isPtr, AV.gl, AV.isG, Value.oneCell', hdC, tlC, c22M, c22B, c22L, inB, bodyL, Tryd.f22, q10, q12, q11', z3, z8, z5, ii, ss, s1, s2, s3, s4, hlt, hi, hk', hr, hw1, tb22, GAt, pureH, deAt, gsc1, hst, hat, hw]
      refine ⟨⟨j + 1, hlt, by simp, ⟨x1.symm, he 6 (by simp), x3.symm, he 9 (by simp)⟩, (fresh_up (by omega) _).2 ((fresh_up (by omega) _).2 (hfr.add 2)), by omega, fun q hq => ?_, .inr ⟨n' + 1, 0, by rw [z0], ?_, by omega, by omega⟩⟩, by omega⟩
      · rw [if_neg (by omega), if_neg (by omega)]; exact hsame q hq
      · rw [up_same, hsu, hn0]; rfl
    · subst v1
      have y1 : ¬ w = n' := by omega
      have hb16 : (j + 1) * 8 ≤ 140737488355328 := by omega
      have hb17 : j ≤ 9223372036854775806 := by omega
      have hcl : ((colTo tys nm j).map ii).length = j := by rw [List.length_map, hsl]
      generalize hnj : (colTo tys nm j).map ii = cells at *
      simp [evs, resAll, resVal, resOne, freeOp, isA, goOp, appNew, mkOp, gev, Region.binds, aop, aeval, gocall, heapOp, quietOp, ev, constAV, setd, yav, ystop, up, env0, cx_ti, cx_G, cx_pf, ti, globS, glob, pfL, lds, ldc, ldcs_1, ldcs_2, ldcs_3, ldcs_4, ldcs_5, ldcs_7, sts, sth, sls.eq_1, slc.eq_1, wr, place, fillOk, fillC, repZ, binI, isDiv, optInt, optI, eksOk, eksEq, EK.ok, EK.eq, AV.i, AV.isI, AV.isInt, AV.str, AV.isStr, AV.ones, AV.isPtr, AV.gl, AV.isG, Value.oneCell', hdC, tlC, c22M, c22B, c22L, inB, bodyL, Tryd.f22, q10, q12, q11', z3, z8, z5, ii, ss, s1, s2, s3, s4, hlt, hi, hk', hr, hw1, tb22, GAt, pureH, deAt, gsc1, hst, hat, hw, v2, y1, hb16, hb17, hcl]
      refine ⟨⟨j + 1, hlt, by simp, ⟨x1.symm, he 6 (by simp), x3.symm, he 9 (by simp)⟩, (fresh_up (by omega) _).2 ((fresh_up (by omega) _).2 (hfr.add 2)), by omega, fun q hq => ?_, .inr ⟨w, u + 1, rfl, ?_, by omega, by omega⟩⟩, by omega⟩
      · rw [if_neg (by omega), if_neg (by omega)]; exact hsame q hq
      · rw [up_same, hsu, List.map_append, hnj]; rfl
  · obtain rfl : j = tys.length := by omega
    rw [colTo_end] at hown
    simp [evs, resAll, resVal, resOne, freeOp, isA, goOp, appNew, mkOp, gev, Region.binds, aop, aeval, gocall, heapOp, quietOp, ev, constAV, setd, yav, ystop, up, env0, cx_ti, cx_G, cx_pf, ti, globS, glob, pfL, lds, ldc, ldcs_1, ldcs_2, ldcs_3, ldcs_4, ldcs_5, ldcs_7, sts, sth, sls.eq_1, slc.eq_1, wr, place, fillOk, fillC, repZ, binI, isDiv, optInt, optI, eksOk, eksEq, EK.ok, EK.eq, AV.i, AV.isI, AV.isInt, AV.str, AV.isStr, AV.ones, AV.isPtr, AV.gl, AV.isG, Value.oneCell', hdC, tlC, c22M, c22B, c22L, inB, bodyL, Tryd.f22, q10, q12, z3, z5, ii, s1, s2, s3]
    exact ⟨⟨x1.symm, he 6 (by simp), he 8 (by simp), he 9 (by simp)⟩, hsame, hnn, hfr, hown⟩
end
end Go.Proofs.YtkfphaphiikloaaDoor

/-
  COMPILING, PART I: Compile: which jump follows each node.
-/
namespace Go.Proofs.YtkfphaphiikloaaDoor
open Go Go.Eng

theorem C20.up {h0 : Heap} {n : Nat} {sa ta : AV} {t : List Nd} {its : List Int} {tys : List Ty} {wi m mm wb k k' : Nat} {s s' : St} (a : C20 h0 n sa ta t its tys wi m mm wb k s) (he : ∀ i ∈ [2, 6, 7, 9, 10], s'.e i = s.e i) (hh : ∀ q, q < s.n → q ≠ wb → s'.h q = s.h q) (hb : s'.h wb = some ⟨(bhL t k').map ii, 0, true, 1⟩) (hf : Fresh s'.n s'.h) (hn : s.n ≤ s'.n) : C20 h0 n sa ta t its tys wi m mm wb k' s' := by
  obtain ⟨x1, x2, x3, x4, x5, x6, x7, x8, x9, x10, x11, x12, x13⟩ := a
  exact ⟨by rw [he 2 (by simp)]; exact x1, by rw [he 6 (by simp)]; exact x2, by rw [he 7 (by simp)]; exact x3, by rw [he 9 (by simp)]; exact x4, by rw [he 10 (by simp)]; exact x5, by rw [hh _ (by omega) (by omega)]; exact x6, by rw [hh _ (by omega) (by omega)]; exact x7, by rw [hh _ (by omega) (by omega)]; exact x8, by rw [hh _ (by omega) (by omega)]; exact x9, hb, by omega, fun q hq => by rw [hh q (by omega) (by omega)]; exact x12 q hq, hf⟩
section
set_option maxRecDepth 100000
set_option maxHeartbeats 4000000
variable {h : Heap} {n : Nat} {sa ta : AV} {tys : List Ty} {t : List Nd}
theorem c20d {wi m mm wb : Nat} {its : List Int} {lo : Nat → Nat} (T : Tre t lo) (e5 : rd dNs h ta = some t) (hp : smallT t) (hn : Fresh n h) (s : St) (a : C20 h n sa ta t its tys wi m mm wb 0 s) {Q : Ex → St → Prop} :
    awp (cx [7] (pfL [])) (hdC 1 (tlC 5 (Tryd.f20.body.getD .skip))) (thenQ (C20 h n sa ta t its tys wi m mm wb t.length) Q) s := by
  obtain ⟨e, h1, n1⟩ := s
  have a0 := a
  have x1 := a.q2
  simp only [] at x1
  obtain ⟨s1, s2, s3, s4, s5⟩ := sl_is e5
  have hp' : t.length * 64 ≤ 140737488355328 := hp
  simp [evs, resAll, resVal, resOne, freeOp, isA, goOp, appNew, mkOp, gev, Region.binds, aop, aeval, gocall, heapOp, quietOp, ev, constAV, setd, yav, ystop, up, env0, cx_ti, cx_G, cx_pf, ti, globS, glob, pfL, lds, ldc, ldcs_1, ldcs_2, ldcs_3, ldcs_4, ldcs_5, ldcs_7, sts, sth, sls.eq_1, slc.eq_1, wr, place, fillOk, fillC, repZ, binI, isDiv, optInt, optI, eksOk, eksEq, EK.ok, EK.eq, AV.i, AV.isI, AV.isInt, AV.str, AV.isStr, AV.ones, AV.isPtr, AV.gl, AV.isG, Value.oneCell', hdC, tlC, Tryd.f20, x1, s1, s2, s3]
  refine awp_loop (fun s => ∃ j, j ≤ t.length ∧ s.e 32 = ta ∧ s.e 33 = ii t.length ∧ s.e 34 = ii j ∧ C20 h n sa ta t its tys wi m mm wb j s) (fun s => t.length - (s.e 34).i.toNat) ⟨0, by omega, by simp [up], by simp [up, ii], by simp [up, ii], a0.up (by simp [up, x1]) (fun _ _ _ => rfl) a0.kb a0.fr (Nat.le_refl _)⟩ ?_
  rintro e' h' n' ⟨j, hj, q32, q33, q34, a⟩
  simp only [] at q32 q33 q34
  by_cases hlt : j < t.length
  · rcases ns_at e5 with ⟨h0, _⟩ | ⟨id, off, k, rfl, hk, ho, hat⟩
    · rw [h0] at hlt; simp at hlt
    have hr := hat j hlt
    have hid : id < n := lt_of hk hn
    have hk' : h' id = some k := (a.ag id hid).trans hk
    have hle : ∀ (X : Ctx), ldcs X h' (.p id k.ver (off + j * 6)) 0 6 = ncells t[j] := fun X => ldcs_nd hk' hr
    have hw6 : off + (j * 6 + 6) ≤ k.cells.length := by omega
    have hw := wrap_nat (j := j) (by unfold big; omega)
    have hbn := sz_bin T hlt
    have hsk := bhL_skip hlt
    have hset : ∀ a : Nat, 25 ≤ t[j].op → t[j].a = (a : Int) → (bhL t j).set a t[j].op = bhL t (j + 1) := fun a h9 h8 => bhL_set T hlt h9 h8
    have hop := tree_op T hlt
    have kb := a.kb
    have q10 := a.q10
    have wo := a.wo
    simp only [] at kb q10 wo
    generalize t[j] = x at *
    obtain ⟨op, num, var, attr, xa, xb⟩ := x
    simp only [ncells, ii, ss] at hle
    simp only [] at hbn hsk hset hop
    have y0 : ¬ id = n' := by omega
    by_cases o25 : op = 25
    · subst o25
      obtain ⟨b1, b2, _⟩ := hbn (by omega)
      obtain ⟨c, rfl⟩ : ∃ c : Nat, xa = c := ⟨xa.toNat, by omega⟩
      have hcl2 : c < t.length := by omega
      have hs1 := hset c (by omega) rfl
      have hbl := bhL_len (t := t) j
      have kbm : ((bhL t (j + 1)).map ii) = ((bhL t j).map ii).set c (ii 25) := by rw [← hs1, List.map_set]
      have hcl3 : ((bhL t j).map ii).length = t.length := by rw [List.length_map, hbl]
      have hca : c + 1 ≤ t.length := hcl2
      have y1 : ¬ wb = n' := by omega
      generalize hcs : (bhL t j).map ii = cs at *
      simp [evs, resAll, resVal, resOne, freeOp, isA, goOp, appNew, mkOp, gev, Region.binds, aop, aeval, gocall, heapOp, quietOp, ev, constAV, setd, yav, ystop, up, env0, cx_ti, cx_G, cx_pf, ti, globS, glob, pfL, lds, ldc, ldcs_1, ldcs_2, ldcs_3, ldcs_4, ldcs_5, ldcs_7, sts, sth, sls.eq_1, slc.eq_1, wr, place, fillOk, fillC, repZ, binI, isDiv, optInt, optI, eksOk, eksEq, EK.ok, EK.eq, AV.i, AV.isI, AV.isInt, AV.str, AV.isStr, AV.ones, AV.isPtr, AV.gl, AV.isG, Value.oneCell', q32, q33, q34, q10, kb, ii, ss, hlt, hk', hle, hw6, hw, y0, y1, hcl2, hcl3, hca]
      refine ⟨⟨j + 1, by omega, by omega, a.up (by simp [up]) (fun q h1 h2 => ?_) ?_ ?_ (by simp)⟩, by omega⟩
      · simp only []
        simp only [] at h1
        simp only [up_ne _ _ h2, up_ne _ _ (show q ≠ n' by omega)]
      · rw [kbm]; simp [up, ii]
      · have hf := a.fr
        simp only [] at hf ⊢
        exact (fresh_up (by omega) _).2 ((fresh_up (by omega) _).2 ((fresh_up (by omega) _).2 (hf.add _)))
    · by_cases o26 : op = 26
      · subst o26
        obtain ⟨b1, b2, _⟩ := hbn (by omega)
        obtain ⟨c, rfl⟩ : ∃ c : Nat, xa = c := ⟨xa.toNat, by omega⟩
        have hcl2 : c < t.length := by omega
        have hs1 := hset c (by omega) rfl
        have hbl := bhL_len (t := t) j
        have kbm : ((bhL t (j + 1)).map ii) = ((bhL t j).map ii).set c (ii 26) := by rw [← hs1, List.map_set]
        have hcl3 : ((bhL t j).map ii).length = t.length := by rw [List.length_map, hbl]
        have hca : c + 1 ≤ t.length := hcl2
        have y1 : ¬ wb = n' := by omega
        generalize hcs : (bhL t j).map ii = cs at *
        simp [evs, resAll, resVal, resOne, freeOp, isA, goOp, appNew, mkOp, gev, Region.binds, aop, aeval, gocall, heapOp, quietOp, ev, constAV, setd, yav, ystop, up, env0, cx_ti, cx_G, cx_pf, ti, globS, glob, pfL, lds, ldc, ldcs_1, ldcs_2, ldcs_3, ldcs_4, ldcs_5, ldcs_7, sts, sth, sls.eq_1, slc.eq_1, wr, place, fillOk, fillC, repZ, binI, isDiv, optInt, optI, eksOk, eksEq, EK.ok, EK.eq, AV.i, AV.isI, AV.isInt, AV.str, AV.isStr, AV.ones, AV.isPtr, AV.gl, AV.isG, Value.oneCell', q32, q33, q34, q10, kb, ii, ss, hlt, hk', hle, hw6, hw, y0, y1, hcl2, hcl3, hca]
        refine ⟨⟨j + 1, by omega, by omega, a.up (by simp [up]) (fun q h1 h2 => ?_) ?_ ?_ (by simp)⟩, by omega⟩
        · simp only []
          simp only [] at h1
          simp only [up_ne _ _ h2, up_ne _ _ (show q ≠ n' by omega)]
        · rw [kbm]; simp [up, ii]
        · have hf := a.fr
          simp only [] at hf ⊢
          exact (fresh_up (by omega) _).2 ((fresh_up (by omega) _).2 ((fresh_up (by omega) _).2 (hf.add _)))
      · simp [evs, resAll, resVal, resOne, freeOp, isA, goOp, appNew, mkOp, gev, Region.binds, aop, aeval, gocall, heapOp, quietOp, ev, constAV, setd, yav, ystop, up, env0, cx_ti, cx_G, cx_pf, ti, globS, glob, pfL, lds, ldc, ldcs_1, ldcs_2, ldcs_3, ldcs_4, ldcs_5, ldcs_7, sts, sth, sls.eq_1, slc.eq_1, wr, place, fillOk, fillC, repZ, binI, isDiv, optInt, optI, eksOk, eksEq, EK.ok, EK.eq, AV.i, AV.isI, AV.isInt, AV.str, AV.isStr, AV.ones, AV.isPtr, AV.gl, AV.isG, Value.oneCell', q32, q33, q34, ii, ss, hlt, hk', hle, hw6, hw, y0, o25, o26]
        have hkk := hsk (by omega)
        refine ⟨⟨j + 1, by omega, by omega, a.up (by simp [up]) (fun q h1 h2 => ?_) ?_ ?_ (by simp)⟩, by omega⟩
        · simp only [] at h1 ⊢
          simp only [up_ne _ _ (show q ≠ n' by omega)]
        · rw [hkk]
          simp only [up_ne _ _ (show wb ≠ n' by omega)]
          exact kb
        · have hf := a.fr
          simp only [] at hf ⊢
          exact (fresh_up (by omega) _).2 ((fresh_up (by omega) _).2 (hf.add _))
  · obtain rfl : j = t.length := by omega
    simp [evs, resAll, resVal, resOne, freeOp, isA, goOp, appNew, mkOp, gev, Region.binds, aop, aeval, gocall, heapOp, quietOp, ev, constAV, setd, yav, ystop, up, env0, cx_ti, cx_G, cx_pf, ti, globS, glob, pfL, lds, ldc, ldcs_1, ldcs_2, ldcs_3, ldcs_4, ldcs_5, ldcs_7, sts, sth, sls.eq_1, slc.eq_1, wr, place, fillOk, fillC, repZ, binI, isDiv, optInt, optI, eksOk, eksEq, EK.ok, EK.eq, AV.i, AV.isI, AV.isInt, AV.str, AV.isStr, AV.ones, AV.isPtr, AV.gl, AV.isG, Value.oneCell', q32, q33, q34, ii]
    exact a.up (by simp [up]) (fun _ _ _ => rfl) a.kb a.fr (Nat.le_refl _)
end
/-- The memory that the compiler may turn. -/
def G20 (n wi wb wj : Nat) : Nat → Prop := fun q => n + 3 ≤ q ∧ q ≠ wi ∧ q ≠ wb ∧ q ≠ wj
/-- Instructions are laid. -/
structure D20 (h0 : Heap) (n : Nat) (sa ta : AV) (t : List Nd) (its : List Int) (tys : List Ty) (wi m mm wb wj : Nat) (i : Nat) (code : List Ins) (names : List ByteArray) (s : St) : Prop where
  q2 : s.e 2 = ta
  q6 : s.e 6 = .p (n + 2) 0 0
  q7 : s.e 7 = .s wi 0 0 t.length
  q9 : s.e 9 = .p m 0 0
  q10 : s.e 10 = .s wb 0 0 t.length
  q13 : s.e 13 = .s wj 0 0 t.length
  k6 : s.h (n + 2) = some ⟨[.v (.slice none 0 0), .v (.slice none 0 0)], 0, true, 2⟩
  ki : s.h wi = some ⟨its.map ii, 0, true, 1⟩
  kb : s.h wb = some ⟨(bhL t t.length).map ii, 0, true, 1⟩
  kj : s.h wj = some ⟨(jpL t i).map ii, 0, true, 1⟩
  cs : ∃ ca la, CS s.h (G20 n wi wb wj) s.n m tys sa ca la mm code names
  wo : n + 3 ≤ wi ∧ wi < mm ∧ mm < m ∧ m < wb ∧ wb < wj ∧ wj < s.n
  ag : agree n h0 s.h
  fr : Fresh s.n s.h
section
set_option maxRecDepth 100000
set_option maxHeartbeats 4000000
variable {h : Heap} {n : Nat} {sa ta : AV} {tys : List Ty} {t : List Nd}
theorem c20e {wi m mm wb : Nat} {its : List Int} (e5 : rd dNs h ta = some t) (e1 : rd dTys h sa = some tys) (hp : smallT t) (hn : Fresh n h) (s : St) (a : C20 h n sa ta t its tys wi m mm wb t.length s) {Q : Ex → St → Prop} :
    awp (cx [7] (pfL [])) (hdC 1 (tlC 6 (Tryd.f20.body.getD .skip))) (thenQ (fun s' => ∃ wj, D20 h n sa ta t its tys wi m mm wb wj 0 [] [] s') Q) s := by
  obtain ⟨e, h1, n1⟩ := s
  have a0 := a
  obtain ⟨x1, x2, x3, x4, x5, x6, x7, x8, x9, x10, x11, x12, x13⟩ := a
  simp only [] at x1 x2 x3 x4 x5 x6 x7 x8 x9 x10 x11 x12 x13
  obtain ⟨s1, s2, s3, s4, s5⟩ := sl_is e5
  have hp' : t.length * 64 ≤ 140737488355328 := hp
  have hz : repZ [Value.int .i64 0] t.length = (jpL t 0).map ii := by rw [jpL_zero, repZ_rep]
  simp [evs, resAll, resVal, resOne, freeOp, isA, goOp, appNew, mkOp, gev, Region.binds, aop, aeval, gocall, heapOp, quietOp, ev, constAV, setd, yav, ystop, up, env0, cx_ti, cx_G, cx_pf, ti, globS, glob, pfL, lds, ldc, ldcs_1, ldcs_2, ldcs_3, ldcs_4, ldcs_5, ldcs_7, sts, sth, sls.eq_1, slc.eq_1, wr, place, fillOk, fillC, repZ, binI, isDiv, optInt, optI, eksOk, eksEq, EK.ok, EK.eq, AV.i, AV.isI, AV.isInt, AV.str, AV.isStr, AV.ones, AV.isPtr, AV.gl, AV.isG, Value.oneCell', hdC, tlC, Tryd.f20, x1, s1, s2, s3]
  have hh : ∀ q, q < n1 → ∀ b : Option Blk, up h1 n1 b q = h1 q := fun q hq b => up_ne _ _ (by omega)
  have hs : rd dTys (up h1 n1 (some ⟨repZ [Value.int .i64 0] t.length, 0, true, 1⟩)) sa = some tys := rd_agr hn e1 _ ((agree_up (by omega) _).2 x12)
  refine ⟨⟨by omega, by omega⟩, n1, by simpa [up] using x1, by simpa [up] using x2, by simpa [up] using x3, by simpa [up] using x4, by simpa [up] using x5, by simp [up], ?_, ?_, ?_, ?_, ⟨.v (.slice none 0 0), .v (.slice none 0 0), ?_, ⟨⟨by omega, by omega, by omega, by omega⟩, by simp only []; omega⟩, hs, .inl ⟨rfl, rfl⟩, .inl ⟨rfl, rfl⟩, ?_, ⟨by omega, by omega, by omega, by omega⟩, by simp only []; omega, by omega⟩, ?_, ?_, ?_⟩
  · simp only []; rw [hh _ (by omega)]; exact x6
  · simp only []; rw [hh _ (by omega)]; exact x7
  · simp only []; rw [hh _ (by omega)]; exact x10
  · simp only []; rw [up_same, hz]
  · simp only []; rw [hh _ (by omega)]; exact x8
  · simp only []; rw [hh _ (by omega)]; exact x9
  · simp only []; omega
  · exact (agree_up (by omega) _).2 x12
  · exact (fresh_up (by simp) _).2 (x13.add 1)
end
end Go.Proofs.YtkfphaphiikloaaDoor
