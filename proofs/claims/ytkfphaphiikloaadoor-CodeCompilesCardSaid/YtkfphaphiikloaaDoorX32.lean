/-
  COMPILING, PART R: the document's side: an operator.
-/
import Derived.Test.YtkfphaphiikloaaDoorX31
set_option linter.unusedSimpArgs false
set_option linter.unusedVariables false
set_option linter.constructorNameAsVariable false
namespace Go.Proofs.YtkfphaphiikloaaDoor
open Go Go.Eng

section
set_option maxRecDepth 100000
set_option maxHeartbeats 4000000
variable {h : Heap} {n : Nat} {qc : List AV} {la ta : AV} {vs : List ByteArray} {t : List Nd} {lo : Nat → Nat} {ws us wo wb i : Nat}
/-- Behind an operator over one side. -/
theorem c59b3 (T : Tre t lo) (hp : smallT t) (e5 : rd dNs h ta = some t) (hn : Fresh n h) (hi : i < t.length) (ho : t[i].op = 12 ∨ t[i].op = 13) (s : St) (q10 : s.e 10 = ii i) (q11 : s.e 11 = ii t[i].op) (q12 : s.e 12 = ii (posT t i)) (a : M59 h n qc la ta vs t lo ws us wo wb (i + 1) s) {Q : Ex → St → Prop} :
    awp (cx [] (pfL tb59)) (tlC 2 c59B) (thenQ (fun s' => s'.e 10 = ii i ∧ M59 h n qc la ta vs t lo ws us wo wb i s') Q) s := by
  obtain ⟨e, h1, n1⟩ := s
  have a0 := a
  obtain ⟨x1, x2, x3, x4, x5, x6, x7, x8, x9, ⟨bl, b1, b2⟩, x11, x12, x13⟩ := a
  simp only [] at q10 q11 q12 x1 x2 x3 x4 x5 x6 x7 x8 x9 b2 x11 x12 x13
  have hp' : t.length * 64 ≤ 140737488355328 := hp
  rcases ns_at e5 with ⟨h0, _⟩ | ⟨id, off, k, rfl, hk, hoo, hat⟩
  · rw [h0] at hi; simp at hi
  have hr := hat i hi
  have hid : id < n := lt_of hk hn
  have hk' : h1 id = some k := (x12 id hid).trans hk
  have hw6 : off + (i * 6 + 6) ≤ k.cells.length := by omega
  have hw5 : off + (i * 6 + 5) ≤ k.cells.length := by omega
  have hw2 : off + (i * 6 + 2) ≤ k.cells.length := by omega
  have hi1 : i + 1 ≤ t.length := hi
  have hpl := pos_lt (t := t) hi
  have hfew := few T
  have hop := tree_op T hi
  have hgd := getD_at hi
  have hcl : ((refT vs t (i + 1)).flatMap icells).length = posT t t.length * 5 := by rw [flat_len Flat.ins, ref_len]
  have hown : ownT vs t i = ownI (namesOf t) (itemV vs t[i]) t[i] := by rw [ownT, hgd]
  have hpo : posT t i + 1 ≤ posT t t.length := by omega
  have hpo5 : posT t i * 5 + 5 ≤ posT t t.length * 5 := by omega
  have e0 : tlC 2 c59B = .block 2 (inB (tlC 2 c59B)) := rfl
  have yob : ¬ wo = wb := by omega
  have ybo : ¬ wb = wo := by omega
  have yso : ¬ ws = wo := by omega
  have ysb : ¬ ws = wb := by omega
  have yio : ¬ id = wo := by omega
  have yib : ¬ id = wb := by omega
  have yno : ¬ n = wo := by omega
  have ynb : ¬ n = wb := by omega
  have hba := base_at T hi b1
  have hbl : (bl.map ii).length = t.length := by rw [List.length_map]; exact b1.1
  have hib : i < (bl.map ii).length := by omega
  have hbg : (bl.map ii)[i]'hib = .v (.int .i64 (posT t (lo i))) := by
    rw [List.getElem_map]
    rw [List.getElem?_eq_getElem (by rw [b1.1]; exact hi)] at hba
    rw [Option.some.inj hba]; rfl
  have fin : ∀ (e2 : Nat → AV) (h2 : Heap) (n2 : Nat) (bl2 : List Int), BaseOk t lo i bl2 → h2 wo = some ⟨(refT vs t i).flatMap icells, 0, true, 5⟩ → h2 wb = some ⟨bl2.map ii, 0, true, 1⟩ → (∀ q, q ≠ wo → q ≠ wb → h2 q = h1 q) → n1 ≤ n2 → Fresh n2 h2 → (∀ j ∈ [1, 2, 3, 7, 8, 9], e2 j = e j) → M59 h n qc la (.s id k.ver off t.length) vs t lo ws us wo wb i ⟨e2, h2, n2⟩ := fun e2 h2 n2 bl2 k1 k2 k3 k4 k5 k6 he =>
    a0.up he (fun q _ z1 z2 => k4 q z1 z2) k2 ⟨bl2, k1, k3⟩ k5 k6
  have hwr := flat_wr Flat.ins (ownT vs t i) (refT vs t (i + 1)) (posT t i) (by rw [ref_len]; omega)
  rw [ref_own hi (by omega)] at hwr
  obtain ⟨k1, k2, _, _⟩ := sz_un T hi ho
  obtain ⟨c, hc⟩ : ∃ c : Nat, t[i].a = (c : Int) := ⟨t[i].a.toNat, by omega⟩
  have hci : c < i := by omega
  have hct : c < t.length := by omega
  have hb' := base_un T hi ho hc b1
  have hc4 : k.cells[off + (i * 6 + 4)]? = some (.v (.int .i64 t[i].a)) := by rw [← Nat.add_assoc]; exact cell_of (c := 4) hr rfl (by omega)
  rw [hc] at hc4
  have hc1 : c + 1 ≤ t.length := hct
  have hbs : (bl.map ii).set c (.v (.int .i64 (posT t (lo i)))) = (bl.set c (posT t (lo i) : Int)).map ii := by rw [List.map_set]; rfl
  have hn2 : Fresh (n1 + 2) h1 := x13.add 2
  have hmt : mentO t[i].op = false := by unfold mentO; simp; omega
  generalize hxx : t[i] = x at *
  obtain ⟨op, num, var, attr, xa, xb⟩ := x
  simp only [] at hop ho q11 hmt hown
  have w1 : IntKind.i64.wrap (op - 12) = op - 12 := W_id (by unfold Rng; omega)
  have w2 : IntKind.i64.wrap (op - 12 + 10) = op - 2 := (W_id (by unfold Rng; omega)).trans (by omega)
  have v0 : IntKind.i64.wrap (IntKind.i64.wrap 0 + 10) = 10 := by decide
  have v1 : IntKind.i64.wrap (IntKind.i64.wrap 1 + 10) = 11 := by decide
  have hlet : ∀ q, q ≠ wo → q ≠ wb → ∀ b1 b2, up (up h1 wb b1) wo b2 q = h1 q := fun q z1 z2 b1 b2 => by rw [up_ne _ _ z1, up_ne _ _ z2]
  generalize hcs : (refT vs t (i + 1)).flatMap icells = cells at *
  generalize hcs2 : (refT vs t i).flatMap icells = cells2 at *
  generalize hbm : bl.map ii = bm at *
  rw [e0, awp_block]
  rcases ho with rfl | rfl
  · simp [ownI] at hown
    simp [hown, wr, icells, ii] at hwr
    simp [evs, resAll, resVal, resOne, freeOp, isA, goOp, appNew, mkOp, gev, Region.binds, aop, aeval, gocall, heapOp, quietOp, ev, constAV, setd, yav, ystop, up, env0, cx_ti, cx_G, cx_pf, ti, globS, glob, pfL, lds, ldc, ldcs_1, ldcs_2, ldcs_3, ldcs_4, ldcs_5, ldcs_7, sts, sth, sls.eq_1, slc.eq_1, wr, place, fillOk, fillC, repZ, binI, isDiv, optInt, optI, eksOk, eksEq, EK.ok, EK.eq, AV.i, AV.isI, AV.isInt, AV.str, AV.isStr, AV.ones, AV.isPtr, AV.gl, AV.isG, Value.oneCell', hdC, tlC, c59B, c59L, inB, bodyL, Tryd.f59, q10, q11, q12, x2, x5, x6, x9, b2, ii, hi, hi1, hk', hc4, hw5, hw6, hct, hc1, hcl, hpo, hpo5, tb59, g95, pure1, deI, bv, hmt, w1, w2, hbl, hbg, yob, ybo, yio, yib, v0, v1]
    refine ⟨hpo, fin _ _ _ _ hb' ?_ ?_ (fun q z1 z2 => hlet q z1 z2 _ _) (by omega) ((fresh_up (by omega) _).2 ((fresh_up (by omega) _).2 hn2)) (by simp [up])⟩
    · exact (up_same _ _ _).trans (congrArg (fun c => some (⟨c, 0, true, 5⟩ : Blk)) hwr)
    · refine (up_ne _ _ ybo).trans ((up_same _ _ _).trans ?_)
      rw [← hbm, List.map_set]; rfl
  · simp [ownI] at hown
    simp [hown, wr, icells, ii] at hwr
    simp [evs, resAll, resVal, resOne, freeOp, isA, goOp, appNew, mkOp, gev, Region.binds, aop, aeval, gocall, heapOp, quietOp, ev, constAV, setd, yav, ystop, up, env0, cx_ti, cx_G, cx_pf, ti, globS, glob, pfL, lds, ldc, ldcs_1, ldcs_2, ldcs_3, ldcs_4, ldcs_5, ldcs_7, sts, sth, sls.eq_1, slc.eq_1, wr, place, fillOk, fillC, repZ, binI, isDiv, optInt, optI, eksOk, eksEq, EK.ok, EK.eq, AV.i, AV.isI, AV.isInt, AV.str, AV.isStr, AV.ones, AV.isPtr, AV.gl, AV.isG, Value.oneCell', hdC, tlC, c59B, c59L, inB, bodyL, Tryd.f59, q10, q11, q12, x2, x5, x6, x9, b2, ii, hi, hi1, hk', hc4, hw5, hw6, hct, hc1, hcl, hpo, hpo5, tb59, g95, pure1, deI, bv, hmt, w1, w2, hbl, hbg, yob, ybo, yio, yib, v0, v1]
    refine ⟨hpo, fin _ _ _ _ hb' ?_ ?_ (fun q z1 z2 => hlet q z1 z2 _ _) (by omega) ((fresh_up (by omega) _).2 ((fresh_up (by omega) _).2 hn2)) (by simp [up])⟩
    · exact (up_same _ _ _).trans (congrArg (fun c => some (⟨c, 0, true, 5⟩ : Blk)) hwr)
    · refine (up_ne _ _ ybo).trans ((up_same _ _ _).trans ?_)
      rw [← hbm, List.map_set]; rfl
/-- Behind an operator over two sides that is no AND or OR. -/
theorem c59b4 (T : Tre t lo) (hp : smallT t) (e5 : rd dNs h ta = some t) (hn : Fresh n h) (hi : i < t.length) (ho : 14 ≤ t[i].op ∧ t[i].op < 25) (s : St) (q10 : s.e 10 = ii i) (q11 : s.e 11 = ii t[i].op) (q12 : s.e 12 = ii (posT t i)) (a : M59 h n qc la ta vs t lo ws us wo wb (i + 1) s) {Q : Ex → St → Prop} :
    awp (cx [] (pfL tb59)) (tlC 2 c59B) (thenQ (fun s' => s'.e 10 = ii i ∧ M59 h n qc la ta vs t lo ws us wo wb i s') Q) s := by
  obtain ⟨e, h1, n1⟩ := s
  have a0 := a
  obtain ⟨x1, x2, x3, x4, x5, x6, x7, x8, x9, ⟨bl, b1, b2⟩, x11, x12, x13⟩ := a
  simp only [] at q10 q11 q12 x1 x2 x3 x4 x5 x6 x7 x8 x9 b2 x11 x12 x13
  have hp' : t.length * 64 ≤ 140737488355328 := hp
  rcases ns_at e5 with ⟨h0, _⟩ | ⟨id, off, k, rfl, hk, hoo, hat⟩
  · rw [h0] at hi; simp at hi
  have hr := hat i hi
  have hid : id < n := lt_of hk hn
  have hk' : h1 id = some k := (x12 id hid).trans hk
  have hw6 : off + (i * 6 + 6) ≤ k.cells.length := by omega
  have hw5 : off + (i * 6 + 5) ≤ k.cells.length := by omega
  have hw2 : off + (i * 6 + 2) ≤ k.cells.length := by omega
  have hi1 : i + 1 ≤ t.length := hi
  have hpl := pos_lt (t := t) hi
  have hfew := few T
  have hop := tree_op T hi
  have hgd := getD_at hi
  have hcl : ((refT vs t (i + 1)).flatMap icells).length = posT t t.length * 5 := by rw [flat_len Flat.ins, ref_len]
  have hown : ownT vs t i = ownI (namesOf t) (itemV vs t[i]) t[i] := by rw [ownT, hgd]
  have hpo : posT t i + 1 ≤ posT t t.length := by omega
  have hpo5 : posT t i * 5 + 5 ≤ posT t t.length * 5 := by omega
  have e0 : tlC 2 c59B = .block 2 (inB (tlC 2 c59B)) := rfl
  have yob : ¬ wo = wb := by omega
  have ybo : ¬ wb = wo := by omega
  have yso : ¬ ws = wo := by omega
  have ysb : ¬ ws = wb := by omega
  have yio : ¬ id = wo := by omega
  have yib : ¬ id = wb := by omega
  have yno : ¬ n = wo := by omega
  have ynb : ¬ n = wb := by omega
  have hba := base_at T hi b1
  have hbl : (bl.map ii).length = t.length := by rw [List.length_map]; exact b1.1
  have hib : i < (bl.map ii).length := by omega
  have hbg : (bl.map ii)[i]'hib = .v (.int .i64 (posT t (lo i))) := by
    rw [List.getElem_map]
    rw [List.getElem?_eq_getElem (by rw [b1.1]; exact hi)] at hba
    rw [Option.some.inj hba]; rfl
  have fin : ∀ (e2 : Nat → AV) (h2 : Heap) (n2 : Nat) (bl2 : List Int), BaseOk t lo i bl2 → h2 wo = some ⟨(refT vs t i).flatMap icells, 0, true, 5⟩ → h2 wb = some ⟨bl2.map ii, 0, true, 1⟩ → (∀ q, q ≠ wo → q ≠ wb → h2 q = h1 q) → n1 ≤ n2 → Fresh n2 h2 → (∀ j ∈ [1, 2, 3, 7, 8, 9], e2 j = e j) → M59 h n qc la (.s id k.ver off t.length) vs t lo ws us wo wb i ⟨e2, h2, n2⟩ := fun e2 h2 n2 bl2 k1 k2 k3 k4 k5 k6 he =>
    a0.up he (fun q _ z1 z2 => k4 q z1 z2) k2 ⟨bl2, k1, k3⟩ k5 k6
  obtain ⟨k1, k2, k3, k4, k5, _, k7, k8, k9⟩ := sz_bin T hi (by omega)
  obtain ⟨c, hc⟩ : ∃ c : Nat, t[i].a = (c : Int) := ⟨t[i].a.toNat, by omega⟩
  obtain ⟨d, hd⟩ : ∃ d : Nat, t[i].b = (d : Int) := ⟨t[i].b.toNat, by omega⟩
  have hci : c < i := by omega
  have hct : c < t.length := by omega
  have hdt : d < t.length := by omega
  have hcne : ¬ c = i := by omega
  have hb' := base_bin T hi (by omega) hc hd b1
  rw [hc, Int.toNat_natCast] at k9
  have hc4 : k.cells[off + (i * 6 + 4)]? = some (.v (.int .i64 t[i].a)) := by rw [← Nat.add_assoc]; exact cell_of (c := 4) hr rfl (by omega)
  rw [hc] at hc4
  have hc5 : k.cells[off + (i * 6 + 5)]? = some (.v (.int .i64 t[i].b)) := by rw [← Nat.add_assoc]; exact cell_of (c := 5) hr rfl (by omega)
  rw [hd] at hc5
  have hc1 : c + 1 ≤ t.length := hct
  have hd1 : d + 1 ≤ t.length := hdt
  have hsl : ((szL t lo t.length).map ii).length = t.length := by rw [List.length_map, szL_len]
  have hcs' : c < ((szL t lo t.length).map ii).length := by omega
  have hsg : ((szL t lo t.length).map ii)[c]'hcs' = .v (.int .i64 (szT t lo c)) := by
    rw [List.getElem_map]
    simp [szL]; rfl
  have hszc := sz_le T hp hct
  have hplc := pos_lt (t := t) hct
  have hpci := pos_lt (t := t) hci
  have w3 : IntKind.i64.wrap ((posT t (lo i) : Int) + szT t lo c) = (posT t c : Int) + 1 := by rw [k9]; exact W_id (by unfold Rng; omega)
  have hwr := flat_wr Flat.ins (ownT vs t i) (refT vs t (i + 1)) (posT t i) (by rw [ref_len]; omega)
  rw [ref_own hi (by omega)] at hwr
  rw [if_neg (by omega)] at hb'
  have hmt : mentO t[i].op = false := by unfold mentO; simp; omega
  have hn4 : Fresh (n1 + 4) h1 := x13.add 4
  have hn3 : Fresh (n1 + 3) h1 := x13.add 3
  have hbs : ((bl.map ii).set c (.v (.int .i64 (posT t (lo i))))).set d (.v (.int .i64 ((posT t c : Int) + 1))) = ((bl.set c (posT t (lo i) : Int)).set d ((posT t c : Int) + 1)).map ii := by rw [List.map_set, List.map_set]; rfl
  generalize hxx : t[i] = x at *
  obtain ⟨op, num, var, attr, xa, xb⟩ := x
  simp only [] at hop ho q11 hmt hown 
  have o1 : ¬ op = 1 := by omega
  have o2 : ¬ op = 2 := by omega
  have o3 : ¬ op = 3 := by omega
  have o12 : ¬ op = 12 := by omega
  have o13 : ¬ op = 13 := by omega
  have w1 : IntKind.i64.wrap (op - 14) = op - 14 := W_id (by unfold Rng; omega)
  have w2 : IntKind.i64.wrap (op - 14 + 12) = op - 2 := (W_id (by unfold Rng; omega)).trans (by omega)
  have hown' : ownT vs t i = ⟨op - 2, 0, 0, 0, 0⟩ := by
    rw [hown]
    unfold ownI
    simp only []
    rw [if_neg o1, if_neg o2, if_neg o3, if_neg (by omega), if_neg (by omega), if_neg (by omega), if_neg (by omega)]
  generalize hcs : (refT vs t (i + 1)).flatMap icells = cells at *
  generalize hcs2 : (refT vs t i).flatMap icells = cells2 at *
  generalize hbm : bl.map ii = bm at *
  generalize hsm : (szL t lo t.length).map ii = sm at *
  rw [e0, awp_block]
  simp [hown', wr, icells, ii] at hwr
  have o25 : ¬ op = 25 := by omega
  have o26 : ¬ op = 26 := by omega
  simp [evs, resAll, resVal, resOne, freeOp, isA, goOp, appNew, mkOp, gev, Region.binds, aop, aeval, gocall, heapOp, quietOp, ev, constAV, setd, yav, ystop, up, env0, cx_ti, cx_G, cx_pf, ti, globS, glob, pfL, lds, ldc, ldcs_1, ldcs_2, ldcs_3, ldcs_4, ldcs_5, ldcs_7, sts, sth, sls.eq_1, slc.eq_1, wr, place, fillOk, fillC, repZ, binI, isDiv, optInt, optI, eksOk, eksEq, EK.ok, EK.eq, AV.i, AV.isI, AV.isInt, AV.str, AV.isStr, AV.ones, AV.isPtr, AV.gl, AV.isG, Value.oneCell', hdC, tlC, c59B, c59L, inB, bodyL, Tryd.f59, q10, q11, q12, x2, x4, x5, x6, x8, x9, b2, ii, hi, hi1, hk', hc4, hc5, hw5, hw6, hct, hc1, hdt, hd1, hcl, hpo, hpo5, tb59, g95, pure1, deI, bv, hmt, w1, w2, hbl, hbg, hsl, hsg, yob, ybo, yio, yib, yso, ysb, hcne, w3, o1, o2, o3, o12, o13, o25, o26, hbs, hwr]
  refine ⟨hpo, fin _ _ _ _ hb' (up_same _ _ _) ?_ (fun q z1 z2 => ?_) (by omega) ?_ (by simp [up])⟩
  · refine (up_ne _ _ ybo).trans ((up_same _ _ _).trans ?_)
    rw [List.map_set, List.map_set]; rfl
  · rw [up_ne _ _ z1, up_ne _ _ z2, up_ne _ _ z2]
  · exact (fresh_up (by omega) _).2 ((fresh_up (by omega) _).2 ((fresh_up (by omega) _).2 hn3))
/-- Behind an AND or OR. -/
theorem c59b5 (T : Tre t lo) (hp : smallT t) (e5 : rd dNs h ta = some t) (hn : Fresh n h) (hi : i < t.length) (ho : 25 ≤ t[i].op) (s : St) (q10 : s.e 10 = ii i) (q11 : s.e 11 = ii t[i].op) (q12 : s.e 12 = ii (posT t i)) (a : M59 h n qc la ta vs t lo ws us wo wb (i + 1) s) {Q : Ex → St → Prop} :
    awp (cx [] (pfL tb59)) (tlC 2 c59B) (thenQ (fun s' => s'.e 10 = ii i ∧ M59 h n qc la ta vs t lo ws us wo wb i s') Q) s := by
  obtain ⟨e, h1, n1⟩ := s
  have a0 := a
  obtain ⟨x1, x2, x3, x4, x5, x6, x7, x8, x9, ⟨bl, b1, b2⟩, x11, x12, x13⟩ := a
  simp only [] at q10 q11 q12 x1 x2 x3 x4 x5 x6 x7 x8 x9 b2 x11 x12 x13
  have hp' : t.length * 64 ≤ 140737488355328 := hp
  rcases ns_at e5 with ⟨h0, _⟩ | ⟨id, off, k, rfl, hk, hoo, hat⟩
  · rw [h0] at hi; simp at hi
  have hr := hat i hi
  have hid : id < n := lt_of hk hn
  have hk' : h1 id = some k := (x12 id hid).trans hk
  have hw6 : off + (i * 6 + 6) ≤ k.cells.length := by omega
  have hw5 : off + (i * 6 + 5) ≤ k.cells.length := by omega
  have hw2 : off + (i * 6 + 2) ≤ k.cells.length := by omega
  have hi1 : i + 1 ≤ t.length := hi
  have hpl := pos_lt (t := t) hi
  have hfew := few T
  have hop := tree_op T hi
  have hgd := getD_at hi
  have hcl : ((refT vs t (i + 1)).flatMap icells).length = posT t t.length * 5 := by rw [flat_len Flat.ins, ref_len]
  have hown : ownT vs t i = ownI (namesOf t) (itemV vs t[i]) t[i] := by rw [ownT, hgd]
  have hpo : posT t i + 1 ≤ posT t t.length := by omega
  have hpo5 : posT t i * 5 + 5 ≤ posT t t.length * 5 := by omega
  have e0 : tlC 2 c59B = .block 2 (inB (tlC 2 c59B)) := rfl
  have yob : ¬ wo = wb := by omega
  have ybo : ¬ wb = wo := by omega
  have yso : ¬ ws = wo := by omega
  have ysb : ¬ ws = wb := by omega
  have yio : ¬ id = wo := by omega
  have yib : ¬ id = wb := by omega
  have yno : ¬ n = wo := by omega
  have ynb : ¬ n = wb := by omega
  have hba := base_at T hi b1
  have hbl : (bl.map ii).length = t.length := by rw [List.length_map]; exact b1.1
  have hib : i < (bl.map ii).length := by omega
  have hbg : (bl.map ii)[i]'hib = .v (.int .i64 (posT t (lo i))) := by
    rw [List.getElem_map]
    rw [List.getElem?_eq_getElem (by rw [b1.1]; exact hi)] at hba
    rw [Option.some.inj hba]; rfl
  have fin : ∀ (e2 : Nat → AV) (h2 : Heap) (n2 : Nat) (bl2 : List Int), BaseOk t lo i bl2 → h2 wo = some ⟨(refT vs t i).flatMap icells, 0, true, 5⟩ → h2 wb = some ⟨bl2.map ii, 0, true, 1⟩ → (∀ q, q ≠ wo → q ≠ wb → h2 q = h1 q) → n1 ≤ n2 → Fresh n2 h2 → (∀ j ∈ [1, 2, 3, 7, 8, 9], e2 j = e j) → M59 h n qc la (.s id k.ver off t.length) vs t lo ws us wo wb i ⟨e2, h2, n2⟩ := fun e2 h2 n2 bl2 k1 k2 k3 k4 k5 k6 he =>
    a0.up he (fun q _ z1 z2 => k4 q z1 z2) k2 ⟨bl2, k1, k3⟩ k5 k6
  obtain ⟨k1, k2, k3, k4, k5, _, k7, k8, k9⟩ := sz_bin T hi (by omega)
  obtain ⟨c, hc⟩ : ∃ c : Nat, t[i].a = (c : Int) := ⟨t[i].a.toNat, by omega⟩
  obtain ⟨d, hd⟩ : ∃ d : Nat, t[i].b = (d : Int) := ⟨t[i].b.toNat, by omega⟩
  have hci : c < i := by omega
  have hct : c < t.length := by omega
  have hdt : d < t.length := by omega
  have hcne : ¬ c = i := by omega
  have hb' := base_bin T hi (by omega) hc hd b1
  rw [hc, Int.toNat_natCast] at k9
  have hc4 : k.cells[off + (i * 6 + 4)]? = some (.v (.int .i64 t[i].a)) := by rw [← Nat.add_assoc]; exact cell_of (c := 4) hr rfl (by omega)
  rw [hc] at hc4
  have hc5 : k.cells[off + (i * 6 + 5)]? = some (.v (.int .i64 t[i].b)) := by rw [← Nat.add_assoc]; exact cell_of (c := 5) hr rfl (by omega)
  rw [hd] at hc5
  have hc1 : c + 1 ≤ t.length := hct
  have hd1 : d + 1 ≤ t.length := hdt
  have hsl : ((szL t lo t.length).map ii).length = t.length := by rw [List.length_map, szL_len]
  have hcs' : c < ((szL t lo t.length).map ii).length := by omega
  have hsg : ((szL t lo t.length).map ii)[c]'hcs' = .v (.int .i64 (szT t lo c)) := by
    rw [List.getElem_map]
    simp [szL]; rfl
  have hszc := sz_le T hp hct
  have hplc := pos_lt (t := t) hct
  have hpci := pos_lt (t := t) hci
  have w3 : IntKind.i64.wrap ((posT t (lo i) : Int) + szT t lo c) = (posT t c : Int) + 1 := by rw [k9]; exact W_id (by unfold Rng; omega)
  have hpa := par_at T hi ho hc
  rw [hpa] at hpci hplc
  simp only [Option.isSome_some, if_true] at hpci hplc
  rw [if_pos ho] at hb'
  have hwr1 := flat_wr Flat.ins ⟨t[i].op, 0, 0, 0, (posT t i : Int) + 1⟩ (refT vs t (i + 1)) (posT t c + 1) (by rw [ref_len]; omega)
  have hwr := flat_wr Flat.ins (ownT vs t i) ((refT vs t (i + 1)).set (posT t c + 1) ⟨t[i].op, 0, 0, 0, (posT t i : Int) + 1⟩) (posT t i) (by rw [List.length_set, ref_len]; omega)
  rw [ref_jump T hi ho hc] at hwr
  have hcl1 : (((refT vs t (i + 1)).set (posT t c + 1) ⟨t[i].op, 0, 0, 0, (posT t i : Int) + 1⟩).flatMap icells).length = posT t t.length * 5 := by rw [flat_len Flat.ins, List.length_set, ref_len]
  have w4 : IntKind.i64.wrap ((posT t c : Int) + 1 + 1) = (posT t c : Int) + 2 := (W_id (by unfold Rng; omega)).trans (by omega)
  have w5 : IntKind.i64.wrap ((posT t i : Int) + 1) = (posT t i : Int) + 1 := W_id (by unfold Rng; omega)
  have hpc2 : posT t c + 1 + 1 ≤ posT t t.length := by omega
  have hpc5 : (posT t c + 1) * 5 + 5 ≤ posT t t.length * 5 := by omega
  have hmt : mentO t[i].op = false := by unfold mentO; simp; omega
  have hn4 : Fresh (n1 + 4) h1 := x13.add 4
  have hn3 : Fresh (n1 + 3) h1 := x13.add 3
  have hbs : ((bl.map ii).set c (.v (.int .i64 (posT t (lo i))))).set d (.v (.int .i64 ((posT t c : Int) + 2))) = ((bl.set c (posT t (lo i) : Int)).set d ((posT t c : Int) + 2)).map ii := by rw [List.map_set, List.map_set]; rfl
  generalize hxx : t[i] = x at *
  obtain ⟨op, num, var, attr, xa, xb⟩ := x
  simp only [] at hop ho q11 hmt hown hwr1 hwr hcl1
  have o1 : ¬ op = 1 := by omega
  have o2 : ¬ op = 2 := by omega
  have o3 : ¬ op = 3 := by omega
  have o12 : ¬ op = 12 := by omega
  have o13 : ¬ op = 13 := by omega
  have w1 : IntKind.i64.wrap (op - 14) = op - 14 := W_id (by unfold Rng; omega)
  have w2 : IntKind.i64.wrap (op - 14 + 12) = op - 2 := (W_id (by unfold Rng; omega)).trans (by omega)
  have hown' : ownT vs t i = ⟨op - 2, 0, 0, 0, 0⟩ := by
    rw [hown]
    unfold ownI
    simp only []
    rw [if_neg o1, if_neg o2, if_neg o3, if_neg (by omega), if_neg (by omega), if_neg (by omega), if_neg (by omega)]
  generalize hcs3 : ((refT vs t (i + 1)).set (posT t c + 1) ⟨op, 0, 0, 0, (posT t i : Int) + 1⟩).flatMap icells = cells3 at *
  generalize hcs : (refT vs t (i + 1)).flatMap icells = cells at *
  generalize hcs2 : (refT vs t i).flatMap icells = cells2 at *
  generalize hbm : bl.map ii = bm at *
  generalize hsm : (szL t lo t.length).map ii = sm at *
  have w6 : IntKind.i64.wrap (op - 25) = op - 25 := W_id (by unfold Rng; omega)
  have w7 : IntKind.i64.wrap (op - 25 + 25) = op := (W_id (by unfold Rng; omega)).trans (by omega)
  rw [e0, awp_block]
  simp [hown', wr, icells, ii] at hwr
  simp [wr, icells, ii] at hwr1
  rw [← hwr1] at hwr
  have v0 : IntKind.i64.wrap (IntKind.i64.wrap 0 + 25) = 25 := by decide
  have v1 : IntKind.i64.wrap (IntKind.i64.wrap 1 + 25) = 26 := by decide
  have v2 : IntKind.i64.wrap (IntKind.i64.wrap 11 + 12) = 23 := by decide
  have v3 : IntKind.i64.wrap (IntKind.i64.wrap 12 + 12) = 24 := by decide
  rcases (show op = 25 ∨ op = 26 by omega) with rfl | rfl
  · simp [evs, resAll, resVal, resOne, freeOp, isA, goOp, appNew, mkOp, gev, Region.binds, aop, aeval, gocall, heapOp, quietOp, ev, constAV, setd, yav, ystop, up, env0, cx_ti, cx_G, cx_pf, ti, globS, glob, pfL, lds, ldc, ldcs_1, ldcs_2, ldcs_3, ldcs_4, ldcs_5, ldcs_7, sts, sth, sls.eq_1, slc.eq_1, wr, place, fillOk, fillC, repZ, binI, isDiv, optInt, optI, eksOk, eksEq, EK.ok, EK.eq, AV.i, AV.isI, AV.isInt, AV.str, AV.isStr, AV.ones, AV.isPtr, AV.gl, AV.isG, Value.oneCell', hdC, tlC, c59B, c59L, inB, bodyL, Tryd.f59, q10, q11, q12, x2, x4, x5, x6, x8, x9, b2, ii, hi, hi1, hk', hc4, hc5, hw5, hw6, hct, hc1, hdt, hd1, hcl, hcl1, hpo, hpo5, tb59, g95, pure1, deI, bv, hmt, hbl, hbg, hsl, hsg, yob, ybo, yio, yib, yso, ysb, hcne, w3, w4, w5, hpc2, hpc5, v0, v1, v2, v3]
    refine ⟨⟨by omega, by omega⟩, hpo, fin _ _ _ _ hb' ?_ ?_ (fun q z1 z2 => ?_) (by omega) ?_ (by simp [up])⟩
    · exact (up_same _ _ _).trans (congrArg (fun c => some (⟨c, 0, true, 5⟩ : Blk)) hwr)
    · refine (up_ne _ _ ybo).trans ((up_same _ _ _).trans ?_)
      rw [List.map_set, List.map_set, hbm]; rfl
    · rw [up_ne _ _ z1, up_ne _ _ z2, up_ne _ _ z1, up_ne _ _ z2]
    · exact (fresh_up (by omega) _).2 ((fresh_up (by omega) _).2 ((fresh_up (by omega) _).2 ((fresh_up (by omega) _).2 hn4)))
  · simp [evs, resAll, resVal, resOne, freeOp, isA, goOp, appNew, mkOp, gev, Region.binds, aop, aeval, gocall, heapOp, quietOp, ev, constAV, setd, yav, ystop, up, env0, cx_ti, cx_G, cx_pf, ti, globS, glob, pfL, lds, ldc, ldcs_1, ldcs_2, ldcs_3, ldcs_4, ldcs_5, ldcs_7, sts, sth, sls.eq_1, slc.eq_1, wr, place, fillOk, fillC, repZ, binI, isDiv, optInt, optI, eksOk, eksEq, EK.ok, EK.eq, AV.i, AV.isI, AV.isInt, AV.str, AV.isStr, AV.ones, AV.isPtr, AV.gl, AV.isG, Value.oneCell', hdC, tlC, c59B, c59L, inB, bodyL, Tryd.f59, q10, q11, q12, x2, x4, x5, x6, x8, x9, b2, ii, hi, hi1, hk', hc4, hc5, hw5, hw6, hct, hc1, hdt, hd1, hcl, hcl1, hpo, hpo5, tb59, g95, pure1, deI, bv, hmt, hbl, hbg, hsl, hsg, yob, ybo, yio, yib, yso, ysb, hcne, w3, w4, w5, hpc2, hpc5, v0, v1, v2, v3]
    refine ⟨⟨by omega, by omega⟩, hpo, fin _ _ _ _ hb' ?_ ?_ (fun q z1 z2 => ?_) (by omega) ?_ (by simp [up])⟩
    · exact (up_same _ _ _).trans (congrArg (fun c => some (⟨c, 0, true, 5⟩ : Blk)) hwr)
    · refine (up_ne _ _ ybo).trans ((up_same _ _ _).trans ?_)
      rw [List.map_set, List.map_set, hbm]; rfl
    · rw [up_ne _ _ z1, up_ne _ _ z2, up_ne _ _ z1, up_ne _ _ z2]
    · exact (fresh_up (by omega) _).2 ((fresh_up (by omega) _).2 ((fresh_up (by omega) _).2 ((fresh_up (by omega) _).2 hn4)))
end
end Go.Proofs.YtkfphaphiikloaaDoor
