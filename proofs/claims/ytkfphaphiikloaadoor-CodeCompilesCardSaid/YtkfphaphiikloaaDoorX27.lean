/-
  TREES, PART K: the document's Tree; do the operands have their kinds?
-/
import Derived.Test.YtkfphaphiikloaaDoorX26
import Derived.Test.YtkfphaphiikloaaDoorX25
import Derived.Test.YtkfphaphiikloaaDoorX21
import Derived.Test.YtkfphaphiikloaaDoorX22
set_option linter.unusedSimpArgs false
set_option linter.unusedVariables false
set_option linter.constructorNameAsVariable false
namespace Go.Proofs.YtkfphaphiikloaaDoor
open Go Go.Eng

theorem roH_fresh {h : Heap} {n : Nat} (hn : ∀ i, n ≤ i → h i = none) : Fresh n (roH h) := fun i hi => by simp [roH, hn i hi]
theorem own_is {h : Heap} {lo n : Nat} {a : AV} {cnt : Nat} {cells : List AV} {esz : Nat} (o : Own h lo n a cnt cells esz) : a.isS ∧ a.slen = cnt ∧ (∀ g, AV.unc g a = a) ∧ a.one ∧ a.cells = [a] := by
  rcases o with ⟨h0, _, rfl⟩ | ⟨w, u, rfl, _⟩
  · exact ⟨⟨rfl, rfl⟩, h0.symm, fun _ => rfl, rfl, rfl⟩
  · exact ⟨trivial, rfl, fun _ => rfl, trivial, rfl⟩
set_option maxRecDepth 100000 in
set_option maxHeartbeats 2000000 in
theorem P94 : P0 [7] 94 G70 := by
  refine mkH 1 (S := [7]) (l := []) tb_nil Tryd.func94 rfl (by kernel_rfl) deT_mono (fun h l x e => by obtain ⟨a, rfl, _⟩ := deT_out e; exact Nat.le_refl _) (fun a => rfl) (fun args t h n e hp hn => ?_)
  obtain ⟨a, rfl, e1⟩ := deT_out e
  obtain ⟨s1, s2, s3, s4, s5⟩ := sl_is e1
  rw [← tree_same]
  simp [evs, resAll, resVal, resOne, freeOp, isA, goOp, appNew, mkOp, gev, Region.binds, aop, aeval, gocall, heapOp, quietOp, ev, constAV, setd, yav, ystop, up, env0, cx_ti, cx_G, cx_pf, ti, globS, glob, pfL, lds, ldc, ldcs_1, ldcs_2, ldcs_3, ldcs_4, ldcs_5, ldcs_7, sts, sth, sls.eq_1, slc.eq_1, wr, place, fillOk, fillC, repZ, binI, isDiv, optInt, optI, eksOk, eksEq, EK.ok, EK.eq, AV.i, AV.isI, AV.isInt, AV.str, AV.isStr, AV.ones, AV.isPtr, AV.gl, AV.isG, Value.oneCell', s1, s2, s3]
  refine (acall_any (S := [7]) (by simp) (c122 (rd_agree hn e1 _ (agree_refl _ _)) hp (roH_fresh hn))).mono ?_
  rintro v h2 n2 ⟨a1, a2, a3, a4⟩
  unfold begPost at a4
  cases hb : beginTo t t.length with
  | none =>
    rw [hb] at a4
    subst a4
    have ht : tree2 t = false := by simp only [tree2, hb]
    simp [evs, resAll, resVal, resOne, freeOp, isA, goOp, appNew, mkOp, gev, Region.binds, aop, aeval, gocall, heapOp, quietOp, ev, constAV, setd, yav, ystop, up, env0, cx_ti, cx_G, cx_pf, ti, globS, glob, pfL, lds, ldc, ldcs_1, ldcs_2, ldcs_3, ldcs_4, ldcs_5, ldcs_7, sts, sth, sls.eq_1, slc.eq_1, wr, place, fillOk, fillC, repZ, binI, isDiv, optInt, optI, eksOk, eksEq, EK.ok, EK.eq, AV.i, AV.isI, AV.isInt, AV.str, AV.isStr, AV.ones, AV.isPtr, AV.gl, AV.isG, Value.oneCell', ht, bv]
  | some l =>
    rw [hb] at a4
    obtain ⟨y, rfl, hown⟩ := a4
    obtain ⟨u1, u2, u3, u4, u5⟩ := own_is hown
    have hll := begin_len hb
    have ht : tree2 t = (decide (0 < t.length) && decide (l.getD (t.length - 1) 0 = 0)) := by simp only [tree2, hb]
    rcases hown with ⟨h0, hnil, rfl⟩ | ⟨w, u, rfl, hk3, hw1, hw2⟩
    · simp [evs, resAll, resVal, resOne, freeOp, isA, goOp, appNew, mkOp, gev, Region.binds, aop, aeval, gocall, heapOp, quietOp, ev, constAV, setd, yav, ystop, up, env0, cx_ti, cx_G, cx_pf, ti, globS, glob, pfL, lds, ldc, ldcs_1, ldcs_2, ldcs_3, ldcs_4, ldcs_5, ldcs_7, sts, sth, sls.eq_1, slc.eq_1, wr, place, fillOk, fillC, repZ, binI, isDiv, optInt, optI, eksOk, eksEq, EK.ok, EK.eq, AV.i, AV.isI, AV.isInt, AV.str, AV.isStr, AV.ones, AV.isPtr, AV.gl, AV.isG, Value.oneCell', ht, bv, h0]
    · by_cases hp0 : t.length = 0
      · simp [evs, resAll, resVal, resOne, freeOp, isA, goOp, appNew, mkOp, gev, Region.binds, aop, aeval, gocall, heapOp, quietOp, ev, constAV, setd, yav, ystop, up, env0, cx_ti, cx_G, cx_pf, ti, globS, glob, pfL, lds, ldc, ldcs_1, ldcs_2, ldcs_3, ldcs_4, ldcs_5, ldcs_7, sts, sth, sls.eq_1, slc.eq_1, wr, place, fillOk, fillC, repZ, binI, isDiv, optInt, optI, eksOk, eksEq, EK.ok, EK.eq, AV.i, AV.isI, AV.isInt, AV.str, AV.isStr, AV.ones, AV.isPtr, AV.gl, AV.isG, Value.oneCell', ht, bv, hp0]
      · obtain ⟨e, he⟩ : ∃ e, t.length = e + 1 := ⟨t.length - 1, by omega⟩
        have he1 : IntKind.i64.wrap ((t.length : Int) - 1) = e := by rw [he]; exact wrapm1 (by have : t.length * 64 ≤ 140737488355328 := hp; unfold big; omega)
        have he2 : t.length - 1 = e := by omega
        have he3 : 0 < t.length := by omega
        have he4 : e < t.length := by omega
        have he5 : e + 1 ≤ t.length := by omega
        have hce : (l.map ii)[e]? = some (ii (l.getD e 0)) := by rw [List.getElem?_map, List.getD_eq_getElem?_getD, List.getElem?_eq_getElem (show e < l.length by omega)]; rfl
        have hcl : (l.map ii).length = t.length := by rw [List.length_map, hll]
        rw [he2] at ht
        generalize l.getD e 0 = d at *
        simp only [ii] at hce
        generalize hcs : l.map ii = cs at *
        have hce' : ∀ hx, cs[e]'hx = .v (.int .i64 d) := fun hx => by rw [List.getElem?_eq_getElem hx] at hce; exact Option.some.inj hce
        simp [evs, resAll, resVal, resOne, freeOp, isA, goOp, appNew, mkOp, gev, Region.binds, aop, aeval, gocall, heapOp, quietOp, ev, constAV, setd, yav, ystop, up, env0, cx_ti, cx_G, cx_pf, ti, globS, glob, pfL, lds, ldc, ldcs_1, ldcs_2, ldcs_3, ldcs_4, ldcs_5, ldcs_7, sts, sth, sls.eq_1, slc.eq_1, wr, place, fillOk, fillC, repZ, binI, isDiv, optInt, optI, eksOk, eksEq, EK.ok, EK.eq, AV.i, AV.isI, AV.isInt, AV.str, AV.isStr, AV.ones, AV.isPtr, AV.gl, AV.isG, Value.oneCell', ht, bv, he1, he3, he4, he5, hk3, hce, hce', hcl]
        rw [Bool.eq_iff_iff]; simp
end Go.Proofs.YtkfphaphiikloaaDoor

/-
  COMPILING, PART L: the document's side: columns, names.
-/
namespace Go.Proofs.YtkfphaphiikloaaDoor
open Go Go.Eng

set_option maxRecDepth 100000 in
set_option maxHeartbeats 1000000 in
theorem P98 : P0 [] 98 G140 := by
  refine mkH 2 (S := []) (l := []) tb_nil Tryd.func98 rfl (by kernel_rfl) dePl_mono (fun h l x e => by obtain ⟨a, rfl, _⟩ := dePl_out e; exact Nat.le_refl _) (fun a => rfl) (fun args q h n e hp hn => ?_)
  obtain ⟨a, rfl, e2⟩ := dePl_out e
  obtain ⟨l, v⟩ := q
  simp only [] at e2 hp ⊢
  obtain ⟨s1, s2, s3, s4, s5⟩ := sl_is e2
  have hgv : ∀ j (hj : j < l.length), l.getD j ByteArray.empty = l[j] := fun j hj => by rw [List.getD_eq_getElem?_getD, List.getElem?_eq_getElem hj]; rfl
  have key : ∀ e : Nat → AV, e 0 = a → e 1 = ss v → awp (cx [] (pfL [])) (Tryd.f98.body.getD .skip) (finQ (cx [] (pfL [])) Tryd.f98 fun z _ _ => z = ii (ixOf l v)) ⟨e, roH h, n⟩ := fun e q0 q1 => by
    simp [evs, resAll, resVal, resOne, freeOp, isA, goOp, appNew, mkOp, gev, Region.binds, aop, aeval, gocall, heapOp, quietOp, ev, constAV, setd, yav, ystop, up, env0, cx_ti, cx_G, cx_pf, ti, globS, glob, pfL, lds, ldc, ldcs_1, ldcs_2, ldcs_3, ldcs_4, ldcs_5, ldcs_7, sts, sth, sls.eq_1, slc.eq_1, wr, place, fillOk, fillC, repZ, binI, isDiv, optInt, optI, eksOk, eksEq, EK.ok, EK.eq, AV.i, AV.isI, AV.isInt, AV.str, AV.isStr, AV.ones, AV.isPtr, AV.gl, AV.isG, Value.oneCell', Tryd.f98, q0, q1, ii, ss, s1, s2, s3]
    refine awp_loop (fun s => ∃ j : Nat, j ≤ l.length ∧ s.e 0 = a ∧ s.e 1 = ss v ∧ s.e 5 = ii j ∧ s.h = roH h ∧ ∀ i, i < j → (l.getD i ByteArray.empty == v) = false) (fun s => l.length - (s.e 5).i.toNat) ⟨0, by simp [up, q0, q1, ii, ss]⟩ ?_
    rintro e' h' n' ⟨j, hj, q0, q1, q5, hh, hno⟩
    simp only [] at q0 q1 q5 hh
    subst hh
    by_cases hlt : j < l.length
    · rcases ss_at e2 with ⟨h0, _⟩ | ⟨id, off, k, rfl, hk, ho, hat⟩
      · rw [h0] at hlt; simp at hlt
      have hr := hat j hlt
      have ha' := ro_at hk
      have hw := wrap_nat (j := j) (by omega)
      have hw1 : off + (j + 1) ≤ k.cells.length := by omega
      have hgj := hgv j hlt
      generalize l[j] = y at *
      cases hy : (y == v) with
      | true =>
        have hf := fi_hit (v := v) hlt hno (by rw [hgj]; exact hy)
        have h1 : ixOf l v = (j : Int) := by rw [ixOf, hf, if_pos hlt]
        simp [evs, resAll, resVal, resOne, freeOp, isA, goOp, appNew, mkOp, gev, Region.binds, aop, aeval, gocall, heapOp, quietOp, ev, constAV, setd, yav, ystop, up, env0, cx_ti, cx_G, cx_pf, ti, globS, glob, pfL, lds, ldc, ldcs_1, ldcs_2, ldcs_3, ldcs_4, ldcs_5, ldcs_7, sts, sth, sls.eq_1, slc.eq_1, wr, place, fillOk, fillC, repZ, binI, isDiv, optInt, optI, eksOk, eksEq, EK.ok, EK.eq, AV.i, AV.isI, AV.isInt, AV.str, AV.isStr, AV.ones, AV.isPtr, AV.gl, AV.isG, Value.oneCell', q0, q1, q5, ii, ss, hlt, ha', hr, hw1, hy, h1]
      | false =>
        simp [evs, resAll, resVal, resOne, freeOp, isA, goOp, appNew, mkOp, gev, Region.binds, aop, aeval, gocall, heapOp, quietOp, ev, constAV, setd, yav, ystop, up, env0, cx_ti, cx_G, cx_pf, ti, globS, glob, pfL, lds, ldc, ldcs_1, ldcs_2, ldcs_3, ldcs_4, ldcs_5, ldcs_7, sts, sth, sls.eq_1, slc.eq_1, wr, place, fillOk, fillC, repZ, binI, isDiv, optInt, optI, eksOk, eksEq, EK.ok, EK.eq, AV.i, AV.isI, AV.isInt, AV.str, AV.isStr, AV.ones, AV.isPtr, AV.gl, AV.isG, Value.oneCell', q0, q1, q5, ii, ss, hlt, ha', hr, hw1, hy, hw]
        refine ⟨⟨j + 1, by omega, by omega, fun i hi => ?_⟩, by omega⟩
        by_cases e : i = j
        · subst e; rw [← List.getD_eq_getElem?_getD, hgj]; exact hy
        · have := hno i (by omega); rwa [List.getD_eq_getElem?_getD] at this
    · obtain rfl : j = l.length := by omega
      have hf := fi_none (v := v) (l := l) hno
      have h1 : ixOf l v = -1 := by rw [ixOf, hf, if_neg (by omega)]
      simp [evs, resAll, resVal, resOne, freeOp, isA, goOp, appNew, mkOp, gev, Region.binds, aop, aeval, gocall, heapOp, quietOp, ev, constAV, setd, yav, ystop, up, env0, cx_ti, cx_G, cx_pf, ti, globS, glob, pfL, lds, ldc, ldcs_1, ldcs_2, ldcs_3, ldcs_4, ldcs_5, ldcs_7, sts, sth, sls.eq_1, slc.eq_1, wr, place, fillOk, fillC, repZ, binI, isDiv, optInt, optI, eksOk, eksEq, EK.ok, EK.eq, AV.i, AV.isI, AV.isInt, AV.str, AV.isStr, AV.ones, AV.isPtr, AV.gl, AV.isG, Value.oneCell', q0, q1, q5, ii, s1, s2, s3, h1]
  exact key _ rfl rfl
/-- The names, as the document gathers them. -/
theorem addX_doc (l : List ByteArray) (x : Nd) : addX l x = if mentO x.op = true ∧ x.op ≠ 5 ∧ ixOf l x.attr < 0 then l ++ [x.attr] else l := by
  have hix : ixOf l x.attr < 0 ↔ ¬ l.findIdx (· == x.attr) < l.length := by
    unfold ixOf
    split <;> omega
  unfold addX addN mentO
  by_cases h1 : 4 ≤ x.op ∧ x.op ≤ 11 ∧ x.op ≠ 5
  · rw [if_pos h1]
    by_cases h2 : l.findIdx (· == x.attr) < l.length
    · rw [if_pos h2, if_neg (by rw [hix]; simp [h2])]
    · rw [if_neg h2, if_pos]
      exact ⟨by simp; omega, h1.2.2, hix.2 h2⟩
  · rw [if_neg h1, if_neg]
    simp only [decide_eq_true_eq]
    omega
theorem names_flat : ∀ l : List ByteArray, l.map ss = l.flatMap scell
  | [] => rfl
  | a :: r => by rw [List.map_cons, List.flatMap_cons, names_flat r]; rfl
def tb58 : List (FuncId × (List AV → Heap → PRes)) := [(95, g95), (98, G140)]
theorem tb58_ok : TbOk [] tb58 := tb_cons p95 (tb_cons P98 tb_nil)
set_option maxRecDepth 100000 in
set_option maxHeartbeats 4000000 in
theorem c58 {h : Heap} {n : Nat} {ta : AV} {t : List Nd} (e5 : rd dNs h ta = some t) (hp : smallT t) (hn : Fresh n h) :
    ACall (cx [] (pfL tb58)) 58 [ta] h n fun z h' n' => agree n h h' ∧ Fresh n' h' ∧ n ≤ n' ∧ Own h' n n' z (namesOf t).length ((namesOf t).map ss) 1 := by
  refine acall_of_awp (args := [ta]) (pfL_ok tb58_ok) (mixed _ _) Tryd.func58 (c := Tryd.f58.body.getD .skip) rfl (by kernel_rfl) (callable Tryd.func58 rfl rfl _ _) (show 1 ≤ Tryd.f58.ntmps by decide +kernel) ?_
  have hp' : t.length * 64 ≤ 140737488355328 := hp
  obtain ⟨s1, s2, s3, s4, s5⟩ := sl_is e5
  have key : ∀ e : Nat → AV, e 0 = ta → awp (cx [] (pfL tb58)) (Tryd.f58.body.getD .skip) (finQ (cx [] (pfL tb58)) Tryd.f58 fun z h' n' => agree n h h' ∧ Fresh n' h' ∧ n ≤ n' ∧ Own h' n n' z (namesOf t).length ((namesOf t).map ss) 1) ⟨e, h, n⟩ := fun e q0 => by
    simp [evs, resAll, resVal, resOne, freeOp, isA, goOp, appNew, mkOp, gev, Region.binds, aop, aeval, gocall, heapOp, quietOp, ev, constAV, setd, yav, ystop, up, env0, cx_ti, cx_G, cx_pf, ti, globS, glob, pfL, lds, ldc, ldcs_1, ldcs_2, ldcs_3, ldcs_4, ldcs_5, ldcs_7, sts, sth, sls.eq_1, slc.eq_1, wr, place, fillOk, fillC, repZ, binI, isDiv, optInt, optI, eksOk, eksEq, EK.ok, EK.eq, AV.i, AV.isI, AV.isInt, AV.str, AV.isStr, AV.ones, AV.isPtr, AV.gl, AV.isG, Value.oneCell', Tryd.f58, q0, s1, s2, s3, ii]
    refine awp_loop (fun s => ∃ j, j ≤ t.length ∧ s.e 0 = ta ∧ s.e 4 = ii j ∧ Own s.h n s.n (s.e 3) (namesTo t j).length ((namesTo t j).map ss) 1 ∧ agree n h s.h ∧ Fresh s.n s.h ∧ n ≤ s.n) (fun s => t.length - (s.e 4).i.toNat) ⟨0, by simp [up, q0, ii, agree_refl, Own, hn, namesTo]⟩ ?_
    rintro e' h' n' ⟨j, hj, q0, q4, hown, hag, hfr, hnn⟩
    simp only [] at q0 q4 hown hag hfr hnn
    by_cases hlt : j < t.length
    · rcases ns_at e5 with ⟨h0, _⟩ | ⟨id, off, k, rfl, hk, ho, hat⟩
      · rw [h0] at hlt; simp at hlt
      have hr := hat j hlt
      have hid : id < n := lt_of hk hn
      have hk' : h' id = some k := (hag id hid).trans hk
      have hw6 : off + (j * 6 + 6) ≤ k.cells.length := by omega
      have hw := wrap_nat (j := j) (by unfold big; omega)
      have hsu : namesTo t (j + 1) = addX (namesTo t j) t[j] := by rw [namesTo, getD_at hlt]
      have hdoc := addX_doc (namesTo t j) t[j]
      have hnl := names_len t j
      have hc0 : k.cells[off + j * 6]? = some (.v (.int .i64 t[j].op)) := cell_of (c := 0) hr rfl (by omega)
      have hc3 : k.cells[off + (j * 6 + 3)]? = some (.v (.string t[j].attr)) := by rw [← Nat.add_assoc]; exact cell_of (c := 3) hr rfl (by omega)
      have hw0 : off + (j * 6 + 1) ≤ k.cells.length := by omega
      have hw4 : off + (j * 6 + 4) ≤ k.cells.length := by omega
      have hsm : (namesTo t j).length < big := by unfold big; omega
      have hrd : rd dSs h' (e' 3) = some (namesTo t j) := by
        rcases hown with ⟨z0, z1, z2⟩ | ⟨w, u, z1, z2, z3, z4⟩
        · rw [z2, List.eq_nil_of_length_eq_zero z0]; rfl
        · rw [z1]
          exact flat_in Flat.str (l := namesTo t j) z2 rfl (r := []) (by rw [names_flat]; simp)
      obtain ⟨z, q3⟩ : ∃ z, e' 3 = z := ⟨_, rfl⟩
      rw [q3] at hown hrd
      obtain ⟨r1, r2, r3, r4, r5⟩ := own_is hown
      generalize t[j] = x at *
      obtain ⟨op, num, var, attr, xa, xb⟩ := x
      simp only [] at hc0 hc3 hdoc
      cases hm : mentO op with
      | false =>
        rw [hm] at hdoc
        simp only [Bool.false_eq_true, false_and, if_false] at hdoc
        simp [evs, resAll, resVal, resOne, freeOp, isA, goOp, appNew, mkOp, gev, Region.binds, aop, aeval, gocall, heapOp, quietOp, ev, constAV, setd, yav, ystop, up, env0, cx_ti, cx_G, cx_pf, ti, globS, glob, pfL, lds, ldc, ldcs_1, ldcs_2, ldcs_3, ldcs_4, ldcs_5, ldcs_7, sts, sth, sls.eq_1, slc.eq_1, wr, place, fillOk, fillC, repZ, binI, isDiv, optInt, optI, eksOk, eksEq, EK.ok, EK.eq, AV.i, AV.isI, AV.isInt, AV.str, AV.isStr, AV.ones, AV.isPtr, AV.gl, AV.isG, Value.oneCell', q0, q4, ii, hlt, hk', hw6, hw, hc0, hw0, tb58, g95, pure1, deI, hm, bv]
        exact ⟨⟨j + 1, by omega, by omega, by rw [hsu, hdoc, q3]; exact hown, hag, hfr, hnn⟩, by omega⟩
      | true =>
        rw [hm] at hdoc
        by_cases h5 : op = 5
        · rw [if_neg (by simp [h5])] at hdoc
          simp [evs, resAll, resVal, resOne, freeOp, isA, goOp, appNew, mkOp, gev, Region.binds, aop, aeval, gocall, heapOp, quietOp, ev, constAV, setd, yav, ystop, up, env0, cx_ti, cx_G, cx_pf, ti, globS, glob, pfL, lds, ldc, ldcs_1, ldcs_2, ldcs_3, ldcs_4, ldcs_5, ldcs_7, sts, sth, sls.eq_1, slc.eq_1, wr, place, fillOk, fillC, repZ, binI, isDiv, optInt, optI, eksOk, eksEq, EK.ok, EK.eq, AV.i, AV.isI, AV.isInt, AV.str, AV.isStr, AV.ones, AV.isPtr, AV.gl, AV.isG, Value.oneCell', q0, q4, ii, hlt, hk', hw6, hw, hc0, hw0, tb58, g95, pure1, deI, hm, bv, h5]
          exact ⟨⟨j + 1, by omega, by omega, by rw [hsu, hdoc, q3]; exact hown, hag, hfr, hnn⟩, by omega⟩
        · by_cases hx : ixOf (namesTo t j) attr < 0
          · rw [if_pos ⟨rfl, h5, hx⟩] at hdoc
            rcases hown with ⟨z0, z1, z2⟩ | ⟨w, u, z1, z2, z3, z4⟩
            · subst z2
              simp [evs, resAll, resVal, resOne, freeOp, isA, goOp, appNew, mkOp, gev, Region.binds, aop, aeval, gocall, heapOp, quietOp, ev, constAV, setd, yav, ystop, up, env0, cx_ti, cx_G, cx_pf, ti, globS, glob, pfL, lds, ldc, ldcs_1, ldcs_2, ldcs_3, ldcs_4, ldcs_5, ldcs_7, sts, sth, sls.eq_1, slc.eq_1, wr, place, fillOk, fillC, repZ, binI, isDiv, optInt, optI, eksOk, eksEq, EK.ok, EK.eq, AV.i, AV.isI, AV.isInt, AV.str, AV.isStr, AV.ones, AV.isPtr, AV.gl, AV.isG, Value.oneCell', q0, q3, q4, ii, ss, hlt, hk', hw6, hw, hc0, hc3, hw0, hw4, tb58, g95, pure1, deI, hm, bv, h5, G140, pureH, dePl, hrd, hsm, hx]
              have hn0 : namesTo t j = [] := List.eq_nil_of_length_eq_zero z0
              have hag2 : ∀ b1 b2 : Option Blk, agree n h (up (up h' n' b1) (n' + 1) b2) := fun b1 b2 => (agree_up (by omega) _).2 ((agree_up (by omega) _).2 hag)
              have hfr2 : ∀ b1 b2 : Option Blk, Fresh (n' + 2) (up (up h' n' b1) (n' + 1) b2) := fun b1 b2 => (fresh_up (by omega) _).2 ((fresh_up (by omega) _).2 (hfr.add 2))
              exact ⟨⟨j + 1, by omega, by omega, by rw [hsu, hdoc, hn0]; exact .inr ⟨n' + 1, 0, rfl, by rw [up_same]; rfl, by omega, by omega⟩, hag2 _ _, hfr2 _ _, by omega⟩, by omega⟩
            · subst z1
              have y1 : ¬ w = n' := by omega
              have hb16 : ((namesTo t j).length + 1) * 16 ≤ 140737488355328 := by omega
              have hb17 : (namesTo t j).length ≤ 9223372036854775806 := by omega
              have hcl : ((namesTo t j).map ss).length = (namesTo t j).length := List.length_map _
              generalize hnj : (namesTo t j).map ss = cells at *
              simp [evs, resAll, resVal, resOne, freeOp, isA, goOp, appNew, mkOp, gev, Region.binds, aop, aeval, gocall, heapOp, quietOp, ev, constAV, setd, yav, ystop, up, env0, cx_ti, cx_G, cx_pf, ti, globS, glob, pfL, lds, ldc, ldcs_1, ldcs_2, ldcs_3, ldcs_4, ldcs_5, ldcs_7, sts, sth, sls.eq_1, slc.eq_1, wr, place, fillOk, fillC, repZ, binI, isDiv, optInt, optI, eksOk, eksEq, EK.ok, EK.eq, AV.i, AV.isI, AV.isInt, AV.str, AV.isStr, AV.ones, AV.isPtr, AV.gl, AV.isG, Value.oneCell', q0, q3, q4, ii, ss, hlt, hk', hw6, hw, hc0, hc3, hw0, hw4, tb58, g95, pure1, deI, hm, bv, h5, G140, pureH, dePl, hrd, hsm, hx, z2, y1, hb16, hb17, hcl]
              have hag2 : ∀ b1 b2 : Option Blk, agree n h (up (up h' n' b1) w b2) := fun b1 b2 => (agree_up (by omega) _).2 ((agree_up (by omega) _).2 hag)
              have hfr2 : ∀ b1 b2 : Option Blk, Fresh (n' + 2) (up (up h' n' b1) w b2) := fun b1 b2 => (fresh_up (by omega) _).2 ((fresh_up (by omega) _).2 (hfr.add 2))
              exact ⟨⟨j + 1, by omega, by omega, by rw [hsu, hdoc]; exact .inr ⟨w, u + 1, by simp, by rw [up_same, List.map_append, hnj]; rfl, by omega, by omega⟩, hag2 _ _, hfr2 _ _, by omega⟩, by omega⟩
          · rw [if_neg (fun hh => hx hh.2.2)] at hdoc
            simp [evs, resAll, resVal, resOne, freeOp, isA, goOp, appNew, mkOp, gev, Region.binds, aop, aeval, gocall, heapOp, quietOp, ev, constAV, setd, yav, ystop, up, env0, cx_ti, cx_G, cx_pf, ti, globS, glob, pfL, lds, ldc, ldcs_1, ldcs_2, ldcs_3, ldcs_4, ldcs_5, ldcs_7, sts, sth, sls.eq_1, slc.eq_1, wr, place, fillOk, fillC, repZ, binI, isDiv, optInt, optI, eksOk, eksEq, EK.ok, EK.eq, AV.i, AV.isI, AV.isInt, AV.str, AV.isStr, AV.ones, AV.isPtr, AV.gl, AV.isG, Value.oneCell', q0, q3, q4, ii, ss, hlt, hk', hw6, hw, hc0, hc3, hw0, hw4, tb58, g95, pure1, deI, hm, bv, h5, G140, pureH, dePl, hrd, hsm, hx, r1, r2, r3, r4, r5]
            exact ⟨⟨j + 1, by omega, by omega, by rw [hsu, hdoc]; exact hown, hag, hfr, hnn⟩, by omega⟩
    · obtain rfl : j = t.length := by omega
      simp [evs, resAll, resVal, resOne, freeOp, isA, goOp, appNew, mkOp, gev, Region.binds, aop, aeval, gocall, heapOp, quietOp, ev, constAV, setd, yav, ystop, up, env0, cx_ti, cx_G, cx_pf, ti, globS, glob, pfL, lds, ldc, ldcs_1, ldcs_2, ldcs_3, ldcs_4, ldcs_5, ldcs_7, sts, sth, sls.eq_1, slc.eq_1, wr, place, fillOk, fillC, repZ, binI, isDiv, optInt, optI, eksOk, eksEq, EK.ok, EK.eq, AV.i, AV.isI, AV.isInt, AV.str, AV.isStr, AV.ones, AV.isPtr, AV.gl, AV.isG, Value.oneCell', q0, q4, ii, s1, s2, s3]
      exact ⟨hag, hfr, hnn, hown⟩
  exact key _ rfl
end Go.Proofs.YtkfphaphiikloaaDoor

/-
  COMPILING, PART M: the document's side: instructions that mention an item; sizes.
-/
namespace Go.Proofs.YtkfphaphiikloaaDoor
open Go Go.Eng

structure Men where
  q : Qu
  l : List ByteArray
  x : Nd
def mentI (v : Men) : Ins := if v.x.op = 5 then ⟨4, ixOf (vars v.q.items) v.x.var, 0, 0, 0⟩ else if v.x.op = 4 then ⟨2, ixOf (vars v.q.items) v.x.var, ixOf v.l v.x.attr, 0, 0⟩ else if v.x.op = 11 then ⟨3, ixOf (vars v.q.items) v.x.var, ixOf v.l v.x.attr, 0, 0⟩ else ⟨v.x.op - 1, ixOf (vars v.q.items) v.x.var, ixOf v.l v.x.attr, 0, 0⟩
theorem ment_own {vs : List ByteArray} {t : List Nd} {q : Qu} {j : Nat} (hvs : vs = vars q.items) (h4 : 4 ≤ (t.getD j nd0).op) (h11 : (t.getD j nd0).op ≤ 11) : ownT vs t j = mentI ⟨q, namesOf t, t.getD j nd0⟩ := by
  subst hvs
  unfold ownT ownI mentI itemV
  simp only []
  generalize t.getD j nd0 = x at *
  have hit : (if 4 ≤ x.op ∧ x.op ≤ 11 then ixOf (vars q.items) x.var else 0) = ixOf (vars q.items) x.var := if_pos ⟨h4, h11⟩
  rw [hit]
  repeat' (first | rfl | (exfalso; omega) | split)
def de100 (h : Heap) : List AV → Option Men
  | [x, a, b] => match deQ h x, rd dSs h a, deN b with
    | some q, some l, some y => some ⟨q, l, y⟩
    | _, _, _ => none
  | _ => none
theorem de100_out {h : Heap} {args : List AV} {v : Men} (e : de100 h args = some v) : ∃ x a, args = [x, a, nn v.x] ∧ deQ h x = some v.q ∧ rd dSs h a = some v.l := by
  unfold de100 at e
  split at e
  · split at e
    · rename_i e1 e2 e3
      cases e
      exact ⟨_, _, by rw [deN_out e3], e1, e2⟩
    · cases e
  · cases e
theorem de100_in {h : Heap} {x a : AV} {v : Men} (e1 : deQ h x = some v.q) (e2 : rd dSs h a = some v.l) : de100 h [x, a, nn v.x] = some v := by
  simp only [de100, e1, e2, nn, deN_nn]
theorem de100_mono (h h' : Heap) (args : List AV) (v : Men) (hh : h.le h') (e : de100 h args = some v) : de100 h' args = some v := by
  obtain ⟨x, a, rfl, e1, e2⟩ := de100_out e
  exact de100_in (deQ_sim (hh.sim) e1) (rd_mono hh e2)
def ok100 (v : Men) : Prop := v.q.items.length < big ∧ v.l.length < big ∧ 4 ≤ v.x.op ∧ v.x.op ≤ 11
def G100 := pureH de100 ok100 fun v => iv (mentI v)
def tb100 : List (FuncId × (List AV → Heap → PRes)) := [(96, G96), (98, G140)]
set_option maxRecDepth 100000 in
set_option maxHeartbeats 1000000 in
theorem P100 : P0 [] 100 G100 := by
  refine mkH 3 (S := []) (l := tb100) (tb_cons P96 (tb_cons P98 tb_nil)) Tryd.func100 rfl (by kernel_rfl) de100_mono (fun h l x e => by obtain ⟨_, _, rfl, _⟩ := de100_out e; exact Nat.le_refl _) (fun a => rfl) (fun args v h n e hp hn => ?_)
  obtain ⟨x, a, rfl, e1, e2⟩ := de100_out e
  obtain ⟨hp1, hp2, hp3, hp4⟩ := hp
  obtain ⟨qa, qb, qc, rfl, y1, y2, y3⟩ := deQ_out e1
  have o1 := (sl_is y1).2.2.2.1
  have o2 := (sl_is y2).2.2.2.1
  have o3 := (sl_is y3).2.2.2.1
  have gq := q_agree hn e1
  have gl := rd_agree hn e2
  obtain ⟨q, l, ⟨op, num, var, attr, xa, xb⟩⟩ := v
  simp only [] at hp1 hp2 hp3 hp4 gq gl e1 e2
  simp only [ii, ss] at gq
  have key : ∀ e : Nat → AV, e 0 = .g [qa, ii q.mode, ii q.after, qb, ii q.within, ss q.par, qc] → e 1 = a → e 2 = nn ⟨op, num, var, attr, xa, xb⟩ → awp (cx [] (pfL tb100)) (Tryd.f100.body.getD .skip) (finQ (cx [] (pfL tb100)) Tryd.f100 fun z _ _ => z = iv (mentI ⟨q, l, ⟨op, num, var, attr, xa, xb⟩⟩)) ⟨e, roH h, n⟩ := fun e q0 q1 q2 => by
    by_cases h5 : op = 5
    · subst h5
      simp [evs, resAll, resVal, resOne, freeOp, isA, goOp, appNew, mkOp, gev, Region.binds, aop, aeval, gocall, heapOp, quietOp, ev, constAV, setd, yav, ystop, up, env0, cx_ti, cx_G, cx_pf, ti, globS, glob, pfL, lds, ldc, ldcs_1, ldcs_2, ldcs_3, ldcs_4, ldcs_5, ldcs_7, sts, sth, sls.eq_1, slc.eq_1, wr, place, fillOk, fillC, repZ, binI, isDiv, optInt, optI, eksOk, eksEq, EK.ok, EK.eq, AV.i, AV.isI, AV.isInt, AV.str, AV.isStr, AV.ones, AV.isPtr, AV.gl, AV.isG, Value.oneCell', Tryd.f100, q0, q1, q2, nn, ncells, ii, ss, o1, o2, o3, tb100, G96, pureH, deQS, gq, agree_up, agree_refl, hp1, mentI, iv, icells]
    by_cases h4 : op = 4
    · subst h4
      simp [evs, resAll, resVal, resOne, freeOp, isA, goOp, appNew, mkOp, gev, Region.binds, aop, aeval, gocall, heapOp, quietOp, ev, constAV, setd, yav, ystop, up, env0, cx_ti, cx_G, cx_pf, ti, globS, glob, pfL, lds, ldc, ldcs_1, ldcs_2, ldcs_3, ldcs_4, ldcs_5, ldcs_7, sts, sth, sls.eq_1, slc.eq_1, wr, place, fillOk, fillC, repZ, binI, isDiv, optInt, optI, eksOk, eksEq, EK.ok, EK.eq, AV.i, AV.isI, AV.isInt, AV.str, AV.isStr, AV.ones, AV.isPtr, AV.gl, AV.isG, Value.oneCell', Tryd.f100, q0, q1, q2, nn, ncells, ii, ss, o1, o2, o3, tb100, G96, pureH, deQS, gq, agree_up, agree_refl, hp1, mentI, iv, icells, G140, dePl, gl, hp2]
    by_cases h11 : op = 11
    · subst h11
      simp [evs, resAll, resVal, resOne, freeOp, isA, goOp, appNew, mkOp, gev, Region.binds, aop, aeval, gocall, heapOp, quietOp, ev, constAV, setd, yav, ystop, up, env0, cx_ti, cx_G, cx_pf, ti, globS, glob, pfL, lds, ldc, ldcs_1, ldcs_2, ldcs_3, ldcs_4, ldcs_5, ldcs_7, sts, sth, sls.eq_1, slc.eq_1, wr, place, fillOk, fillC, repZ, binI, isDiv, optInt, optI, eksOk, eksEq, EK.ok, EK.eq, AV.i, AV.isI, AV.isInt, AV.str, AV.isStr, AV.ones, AV.isPtr, AV.gl, AV.isG, Value.oneCell', Tryd.f100, q0, q1, q2, nn, ncells, ii, ss, o1, o2, o3, tb100, G96, pureH, deQS, gq, agree_up, agree_refl, hp1, mentI, iv, icells, G140, dePl, gl, hp2]
    · have w1 : IntKind.i64.wrap (op - 6) = op - 6 := W_id (by unfold Rng; omega)
      have w2 : IntKind.i64.wrap (op - 6 + 5) = op - 1 := (W_id (by unfold Rng; omega)).trans (by omega)
      simp [evs, resAll, resVal, resOne, freeOp, isA, goOp, appNew, mkOp, gev, Region.binds, aop, aeval, gocall, heapOp, quietOp, ev, constAV, setd, yav, ystop, up, env0, cx_ti, cx_G, cx_pf, ti, globS, glob, pfL, lds, ldc, ldcs_1, ldcs_2, ldcs_3, ldcs_4, ldcs_5, ldcs_7, sts, sth, sls.eq_1, slc.eq_1, wr, place, fillOk, fillC, repZ, binI, isDiv, optInt, optI, eksOk, eksEq, EK.ok, EK.eq, AV.i, AV.isI, AV.isInt, AV.str, AV.isStr, AV.ones, AV.isPtr, AV.gl, AV.isG, Value.oneCell', Tryd.f100, q0, q1, q2, nn, ncells, ii, ss, o1, o2, o3, tb100, G96, pureH, deQS, gq, agree_up, agree_refl, hp1, mentI, iv, icells, G140, dePl, gl, hp2, h5, h4, h11, w1, w2]
  exact key _ rfl rfl rfl
end Go.Proofs.YtkfphaphiikloaaDoor
