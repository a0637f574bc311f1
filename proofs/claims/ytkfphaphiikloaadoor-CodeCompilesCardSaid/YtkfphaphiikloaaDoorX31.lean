/-
  COMPILING, PART Q: the document's side: one node more.
-/
import Derived.Test.YtkfphaphiikloaaDoorX30
set_option linter.unusedSimpArgs false
set_option linter.unusedVariables false
set_option linter.constructorNameAsVariable false
namespace Go.Proofs.YtkfphaphiikloaaDoor
open Go Go.Eng

section
set_option maxRecDepth 100000
set_option maxHeartbeats 4000000
variable {h : Heap} {n : Nat} {qc : List AV} {la ta : AV} {vs : List ByteArray} {t : List Nd} {lo : Nat → Nat} {ws us wo wb i : Nat}
/-- Behind a leaf that mentions nothing. -/
theorem c59b1 (T : Tre t lo) (hp : smallT t) (e5 : rd dNs h ta = some t) (hn : Fresh n h) (hi : i < t.length) (ho : t[i].op ≤ 3) (s : St) (q10 : s.e 10 = ii i) (q11 : s.e 11 = ii t[i].op) (q12 : s.e 12 = ii (posT t i)) (a : M59 h n qc la ta vs t lo ws us wo wb (i + 1) s) {Q : Ex → St → Prop} :
    awp (cx [] (pfL tb59)) (tlC 2 c59B) (thenQ (fun s' => s'.e 10 = ii i ∧ M59 h n qc la ta vs t lo ws us wo wb i s') Q) s := by
  obtain ⟨e, h1, n1⟩ := s
  have a0 := a
  obtain ⟨x1, x2, x3, x4, x5, x6, x7, x8, x9, ⟨bl, b1, b2⟩, x11, x12, x13⟩ := a
  simp only [] at q10 q11 q12 x1 x2 x3 x4 x5 x6 x7 x8 x9 b2 x11 x12 x13
  have hp' : t.length * 64 ≤ 140737488355328 := hp
  rcases ns_at e5 with ⟨h0, _⟩ | ⟨id, off, k, rfl, hk, hoo, hat⟩
  · rw [h0] at hi; simp at hi
  have hr := hat i hi
  have hid : id < n := lt_of hk hn
  have hk' : h1 id = some k := (x12 id hid).trans hk
  have hw6 : off + (i * 6 + 6) ≤ k.cells.length := by omega
  have hw5 : off + (i * 6 + 5) ≤ k.cells.length := by omega
  have hw2 : off + (i * 6 + 2) ≤ k.cells.length := by omega
  have hi1 : i + 1 ≤ t.length := hi
  have hpl := pos_lt (t := t) hi
  have hfew := few T
  have hop := tree_op T hi
  have hgd := getD_at hi
  have hcl : ((refT vs t (i + 1)).flatMap icells).length = posT t t.length * 5 := by rw [flat_len Flat.ins, ref_len]
  have hown : ownT vs t i = ownI (namesOf t) (itemV vs t[i]) t[i] := by rw [ownT, hgd]
  have hpo : posT t i + 1 ≤ posT t t.length := by omega
  have hpo5 : posT t i * 5 + 5 ≤ posT t t.length * 5 := by omega
  have e0 : tlC 2 c59B = .block 2 (inB (tlC 2 c59B)) := rfl
  have yob : ¬ wo = wb := by omega
  have ybo : ¬ wb = wo := by omega
  have yso : ¬ ws = wo := by omega
  have ysb : ¬ ws = wb := by omega
  have yio : ¬ id = wo := by omega
  have yib : ¬ id = wb := by omega
  have yno : ¬ n = wo := by omega
  have ynb : ¬ n = wb := by omega
  have hb' : BaseOk t lo i bl := base_leaf T hi (by omega) b1
  have fin : ∀ (e2 : Nat → AV) (c : List AV), c = (refT vs t i).flatMap icells → (∀ j ∈ [1, 2, 3, 7, 8, 9], e2 j = e j) → M59 h n qc la (.s id k.ver off t.length) vs t lo ws us wo wb i ⟨e2, up h1 wo (some ⟨c, 0, true, 5⟩), n1 + 1⟩ := fun e2 c hc he =>
    a0.up he (fun q _ h1 _ => up_ne _ _ h1) (by simp only []; rw [up_same, hc]) ⟨bl, hb', by simp only []; rw [up_ne _ _ (by omega)]; exact b2⟩ (by simp only []; omega) ((fresh_up (by simp only []; omega) _).2 (x13.add 1))
  have hwr := flat_wr Flat.ins (ownT vs t i) (refT vs t (i + 1)) (posT t i) (by rw [ref_len]; omega)
  rw [ref_own hi (by omega)] at hwr
  have hc1 : k.cells[off + (i * 6 + 1)]? = some (.v (.int .i64 t[i].n)) := by rw [← Nat.add_assoc]; exact cell_of (c := 1) hr rfl (by omega)
  generalize hxx : t[i] = x at *
  obtain ⟨op, num, var, attr, xa, xb⟩ := x
  simp only [] at hop ho q11 hc1 hown
  generalize hcs : (refT vs t (i + 1)).flatMap icells = cells at *
  rw [e0, awp_block]
  rcases (show op = 1 ∨ op = 2 ∨ op = 3 by omega) with rfl | rfl | rfl
  · simp [ownI] at hown
    simp [hown, wr, icells, ii] at hwr
    simp [evs, resAll, resVal, resOne, freeOp, isA, goOp, appNew, mkOp, gev, Region.binds, aop, aeval, gocall, heapOp, quietOp, ev, constAV, setd, yav, ystop, up, env0, cx_ti, cx_G, cx_pf, ti, globS, glob, pfL, lds, ldc, ldcs_1, ldcs_2, ldcs_3, ldcs_4, ldcs_5, ldcs_7, sts, sth, sls.eq_1, slc.eq_1, wr, place, fillOk, fillC, repZ, binI, isDiv, optInt, optI, eksOk, eksEq, EK.ok, EK.eq, AV.i, AV.isI, AV.isInt, AV.str, AV.isStr, AV.ones, AV.isPtr, AV.gl, AV.isG, Value.oneCell', hdC, tlC, c59B, c59L, inB, bodyL, Tryd.f59, q10, q11, q12, x2, x5, x9, ii, hi, hi1, hk', hc1, hw2, hw6, hcl, hpo, hpo5]
    exact ⟨hpo, fin _ _ hwr (by simp [up])⟩
  · simp [ownI] at hown
    simp [hown, wr, icells, ii] at hwr
    simp [evs, resAll, resVal, resOne, freeOp, isA, goOp, appNew, mkOp, gev, Region.binds, aop, aeval, gocall, heapOp, quietOp, ev, constAV, setd, yav, ystop, up, env0, cx_ti, cx_G, cx_pf, ti, globS, glob, pfL, lds, ldc, ldcs_1, ldcs_2, ldcs_3, ldcs_4, ldcs_5, ldcs_7, sts, sth, sls.eq_1, slc.eq_1, wr, place, fillOk, fillC, repZ, binI, isDiv, optInt, optI, eksOk, eksEq, EK.ok, EK.eq, AV.i, AV.isI, AV.isInt, AV.str, AV.isStr, AV.ones, AV.isPtr, AV.gl, AV.isG, Value.oneCell', hdC, tlC, c59B, c59L, inB, bodyL, Tryd.f59, q10, q11, q12, x2, x5, x9, ii, hi, hi1, hk', hc1, hw2, hw6, hcl, hpo, hpo5]
    exact ⟨hpo, fin _ _ hwr (by simp [up])⟩
  · simp [ownI] at hown
    simp [hown, wr, icells, ii] at hwr
    simp [evs, resAll, resVal, resOne, freeOp, isA, goOp, appNew, mkOp, gev, Region.binds, aop, aeval, gocall, heapOp, quietOp, ev, constAV, setd, yav, ystop, up, env0, cx_ti, cx_G, cx_pf, ti, globS, glob, pfL, lds, ldc, ldcs_1, ldcs_2, ldcs_3, ldcs_4, ldcs_5, ldcs_7, sts, sth, sls.eq_1, slc.eq_1, wr, place, fillOk, fillC, repZ, binI, isDiv, optInt, optI, eksOk, eksEq, EK.ok, EK.eq, AV.i, AV.isI, AV.isInt, AV.str, AV.isStr, AV.ones, AV.isPtr, AV.gl, AV.isG, Value.oneCell', hdC, tlC, c59B, c59L, inB, bodyL, Tryd.f59, q10, q11, q12, x2, x5, x9, ii, hi, hi1, hk', hc1, hw2, hw6, hcl, hpo, hpo5]
    exact ⟨hpo, fin _ _ hwr (by simp [up])⟩
/-- Behind a leaf that mentions an item. -/
theorem c59b2 (T : Tre t lo) (hp : smallT t) (e5 : rd dNs h ta = some t) (hn : Fresh n h) {q : Qu} (hvs : vs = vars q.items) (hq : q.items.length < big) (gq : ∀ h', agree n h h' → deQ h' (.g qc) = some q) (hql : qc.length = 7) (gl : rd dSs h la = some (namesOf t)) (hi : i < t.length) (ho : 4 ≤ t[i].op ∧ t[i].op ≤ 11) (s : St) (q10 : s.e 10 = ii i) (q11 : s.e 11 = ii t[i].op) (q12 : s.e 12 = ii (posT t i)) (a : M59 h n qc la ta vs t lo ws us wo wb (i + 1) s) {Q : Ex → St → Prop} :
    awp (cx [] (pfL tb59)) (tlC 2 c59B) (thenQ (fun s' => s'.e 10 = ii i ∧ M59 h n qc la ta vs t lo ws us wo wb i s') Q) s := by
  obtain ⟨e, h1, n1⟩ := s
  have a0 := a
  obtain ⟨x1, x2, x3, x4, x5, x6, x7, x8, x9, ⟨bl, b1, b2⟩, x11, x12, x13⟩ := a
  simp only [] at q10 q11 q12 x1 x2 x3 x4 x5 x6 x7 x8 x9 b2 x11 x12 x13
  have hp' : t.length * 64 ≤ 140737488355328 := hp
  rcases ns_at e5 with ⟨h0, _⟩ | ⟨id, off, k, rfl, hk, hoo, hat⟩
  · rw [h0] at hi; simp at hi
  have hr := hat i hi
  have hid : id < n := lt_of hk hn
  have hk' : h1 id = some k := (x12 id hid).trans hk
  have hw6 : off + (i * 6 + 6) ≤ k.cells.length := by omega
  have hw5 : off + (i * 6 + 5) ≤ k.cells.length := by omega
  have hw2 : off + (i * 6 + 2) ≤ k.cells.length := by omega
  have hi1 : i + 1 ≤ t.length := hi
  have hpl := pos_lt (t := t) hi
  have hfew := few T
  have hop := tree_op T hi
  have hgd := getD_at hi
  have hcl : ((refT vs t (i + 1)).flatMap icells).length = posT t t.length * 5 := by rw [flat_len Flat.ins, ref_len]
  have hown : ownT vs t i = ownI (namesOf t) (itemV vs t[i]) t[i] := by rw [ownT, hgd]
  have hpo : posT t i + 1 ≤ posT t t.length := by omega
  have hpo5 : posT t i * 5 + 5 ≤ posT t t.length * 5 := by omega
  have e0 : tlC 2 c59B = .block 2 (inB (tlC 2 c59B)) := rfl
  have yob : ¬ wo = wb := by omega
  have ybo : ¬ wb = wo := by omega
  have yso : ¬ ws = wo := by omega
  have ysb : ¬ ws = wb := by omega
  have yio : ¬ id = wo := by omega
  have yib : ¬ id = wb := by omega
  have yno : ¬ n = wo := by omega
  have ynb : ¬ n = wb := by omega
  have hb' : BaseOk t lo i bl := base_leaf T hi (by omega) b1
  have fin : ∀ (e2 : Nat → AV) (c : List AV), c = (refT vs t i).flatMap icells → (∀ j ∈ [1, 2, 3, 7, 8, 9], e2 j = e j) → M59 h n qc la (.s id k.ver off t.length) vs t lo ws us wo wb i ⟨e2, up h1 wo (some ⟨c, 0, true, 5⟩), n1 + 1⟩ := fun e2 c hc he =>
    a0.up he (fun q _ h1 _ => up_ne _ _ h1) (by simp only []; rw [up_same, hc]) ⟨bl, hb', by simp only []; rw [up_ne _ _ (by omega)]; exact b2⟩ (by simp only []; omega) ((fresh_up (by simp only []; omega) _).2 (x13.add 1))
  have hwr := flat_wr Flat.ins (ownT vs t i) (refT vs t (i + 1)) (posT t i) (by rw [ref_len]; omega)
  rw [ref_own hi (by omega)] at hwr
  have hme := ment_own hvs (t := t) (j := i) (by rw [hgd]; exact ho.1) (by rw [hgd]; exact ho.2)
  rw [hgd] at hme
  have hok : ok100 ⟨q, namesOf t, t[i]⟩ := ⟨hq, (show (namesOf t).length < big by have := names_len t t.length; unfold namesOf big; omega), ho.1, ho.2⟩
  have hg : ∀ h', agree n h h' → de100 h' [.g qc, la, nn t[i]] = some ⟨q, namesOf t, t[i]⟩ := fun h' ha => de100_in (v := ⟨q, namesOf t, t[i]⟩) (gq h' ha) (rd_agr hn gl h' ha)
  have hle : ∀ (X : Ctx), ldcs X h1 (.p id k.ver (off + i * 6)) 0 6 = ncells t[i] := fun X => ldcs_nd hk' hr
  have hmt : mentO t[i].op = true := by unfold mentO; simp; omega
  generalize hxx : t[i] = x at *
  obtain ⟨op, num, var, attr, xa, xb⟩ := x
  simp only [ncells, ii, ss] at hle
  simp only [nn, ncells, ii, ss] at hg
  simp only [] at hop ho q11 hmt
  obtain ⟨c0, c1, c2, c3, c4, c5, c6, rfl⟩ : ∃ c0 c1 c2 c3 c4 c5 c6, qc = [c0, c1, c2, c3, c4, c5, c6] := by
    rcases qc with _ | ⟨c0, _ | ⟨c1, _ | ⟨c2, _ | ⟨c3, _ | ⟨c4, _ | ⟨c5, _ | ⟨c6, _ | ⟨c7, r⟩⟩⟩⟩⟩⟩⟩⟩ <;> simp at hql
    exact ⟨c0, c1, c2, c3, c4, c5, c6, rfl⟩
  have hg1 := hg h1 x12
  have o1 : ¬ op = 1 := by omega
  have o2 : ¬ op = 2 := by omega
  have o3 : ¬ op = 3 := by omega
  simp [hme, wr, icells, ii] at hwr
  generalize hcs : (refT vs t (i + 1)).flatMap icells = cells at *
  rw [e0, awp_block]
  simp [evs, resAll, resVal, resOne, freeOp, isA, goOp, appNew, mkOp, gev, Region.binds, aop, aeval, gocall, heapOp, quietOp, ev, constAV, setd, yav, ystop, up, env0, cx_ti, cx_G, cx_pf, ti, globS, glob, pfL, lds, ldc, ldcs_1, ldcs_2, ldcs_3, ldcs_4, ldcs_5, ldcs_7, sts, sth, sls.eq_1, slc.eq_1, wr, place, fillOk, fillC, repZ, binI, isDiv, optInt, optI, eksOk, eksEq, EK.ok, EK.eq, AV.i, AV.isI, AV.isInt, AV.str, AV.isStr, AV.ones, AV.isPtr, AV.gl, AV.isG, Value.oneCell', hdC, tlC, c59B, c59L, inB, bodyL, Tryd.f59, q10, q11, q12, x1, x2, x3, x5, x7, x9, ii, hi, hi1, hk', hle, hw6, hcl, hpo, hpo5, tb59, g95, pure1, deI, bv, hmt, o1, o2, o3, G100, pureH, hg1, hok, iv, icells]
  exact ⟨hpo, fin _ _ hwr (by simp [up])⟩
end
end Go.Proofs.YtkfphaphiikloaaDoor
