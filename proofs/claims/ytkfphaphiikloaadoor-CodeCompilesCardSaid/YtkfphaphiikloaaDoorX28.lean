/-
  TREES, PART L: can a tree be run? (the document's)
-/
import Derived.Test.YtkfphaphiikloaaDoorX27
set_option linter.unusedSimpArgs false
set_option linter.unusedVariables false
set_option linter.constructorNameAsVariable false
namespace Go.Proofs.YtkfphaphiikloaaDoor
open Go Go.Eng

def kindB (t : List Nd) (x : Nd) : Bool := if x.op < 12 then true else (truthO (t.getD x.a.toNat nd0).op == wantsT x.op) && (decide (x.b < 0) || (truthO (t.getD x.b.toNat nd0).op == wantsT x.op))
theorem nodeOk_eq (vs : List ByteArray) (t : List Nd) (x : Nd) : nodeOk vs t x = ((!mentO x.op || decide (0 ≤ ixOf vs x.var)) && kindB t x) := by
  unfold nodeOk kindB mentO
  by_cases h1 : x.op < 4
  · have h2 : ¬ 4 ≤ x.op := by omega
    have h3 : x.op < 12 := by omega
    simp [h1, h2, h3]
  · by_cases h4 : x.op ≤ 11
    · have h2 : 4 ≤ x.op := by omega
      have h3 : x.op < 12 := by omega
      simp [h1, h2, h3, h4]
    · have h3 : ¬ x.op < 12 := by omega
      simp [h1, h3, h4]
/-- A tree and a place. -/
def deTI (h : Heap) : List AV → Option (List Nd × Int)
  | [a, .v (.int .i64 i)] => (rd dNs h a).map fun t => (t, i)
  | _ => none
theorem deTI_out {h : Heap} {args : List AV} {q : List Nd × Int} (e : deTI h args = some q) : ∃ a, args = [a, ii q.2] ∧ rd dNs h a = some q.1 := by
  unfold deTI at e
  split at e
  · simp only [Option.map_eq_some_iff] at e
    obtain ⟨t, h1, rfl⟩ := e
    exact ⟨_, rfl, h1⟩
  · cases e
theorem deTI_mono (h h' : Heap) (args : List AV) (q : List Nd × Int) (hh : h.le h') (e : deTI h args = some q) : deTI h' args = some q := by
  obtain ⟨a, rfl, e1⟩ := deTI_out e
  simp only [deTI, ii, rd_mono hh e1, Option.map_some]
def okTI (q : List Nd × Int) : Prop := tree1 q.1 = true ∧ 0 ≤ q.2 ∧ q.2 < q.1.length
def G97 := pureH deTI okTI fun q => bv (kindB q.1 (q.1.getD q.2.toNat nd0))
def tb97 : List (FuncId × (List AV → Heap → PRes)) := [(123, g92)]
set_option maxRecDepth 100000 in
set_option maxHeartbeats 2000000 in
theorem P97 : P0 [] 97 G97 := by
  refine mkH 2 (S := []) (l := tb97) (tb_cons p123 tb_nil) Tryd.func97 rfl (by kernel_rfl) deTI_mono (fun h l x e => by obtain ⟨a, rfl, _⟩ := deTI_out e; exact Nat.le_refl _) (fun a => rfl) (fun args q h n e hp hn => ?_)
  obtain ⟨a, rfl, e1⟩ := deTI_out e
  obtain ⟨t, i⟩ := q
  obtain ⟨hp1, hp2, hp3⟩ := hp
  simp only [] at e1 hp1 hp2 hp3 ⊢
  obtain ⟨j, rfl⟩ : ∃ j : Nat, i = j := ⟨i.toNat, by omega⟩
  have hlt : j < t.length := by omega
  have hko := tree_kids hp1 j hlt
  rcases ns_at e1 with ⟨h0, _⟩ | ⟨id, off, k, rfl, hk, ho', hat⟩
  · rw [h0] at hlt; simp at hlt
  have hr := hat j hlt
  have hro := ro_at hk
  have h0 := ne_of hk hn 0
  simp only [Nat.add_zero] at h0
  have hle : ∀ (X : Ctx) (h' : Heap), h' id = some ⟨k.cells, k.ver, false, k.esz⟩ → ldcs X h' (.p id k.ver (off + j * 6)) 0 6 = ncells t[j] := fun X h' e => ldcs_nd e hr
  have hw6 : off + (j * 6 + 6) ≤ k.cells.length := by omega
  have hA : ∀ c, c < t.length → k.cells[off + c * 6]? = some (ii (t.getD c nd0).op) ∧ off + (c * 6 + 1) ≤ k.cells.length := fun c hc => by
    have := cell_of (c := 0) (hat c hc) rfl (by omega)
    rw [List.getD_eq_getElem?_getD, List.getElem?_eq_getElem hc]
    exact ⟨this, by omega⟩
  have hg : t.getD j nd0 = t[j] := by rw [List.getD_eq_getElem?_getD, List.getElem?_eq_getElem hlt]; rfl
  rw [Int.toNat_natCast, hg]
  generalize t[j] = x at *
  obtain ⟨op, num, var, attr, xa, xb⟩ := x
  obtain ⟨k1, _, k2, k3, k4, _⟩ := hko
  simp only [] at k1 k2 k3 k4
  by_cases h12 : op < 12
  · have hkb : kindB t ⟨op, num, var, attr, xa, xb⟩ = true := by simp [kindB, h12]
    have n1 : ¬ op = 12 := by omega
    have n2 : ¬ op = 13 := by omega
    have n3 : ¬ 14 ≤ op := by omega
    have n4 : ¬ op = 25 := by omega
    have n5 : ¬ op = 26 := by omega
    simp [evs, resAll, resVal, resOne, freeOp, isA, goOp, appNew, mkOp, gev, Region.binds, aop, aeval, gocall, heapOp, quietOp, ev, constAV, setd, yav, ystop, up, env0, cx_ti, cx_G, cx_pf, ti, globS, glob, pfL, lds, ldc, ldcs_1, ldcs_2, ldcs_3, ldcs_4, ldcs_5, ldcs_7, sts, sth, sls.eq_1, slc.eq_1, wr, place, fillOk, fillC, repZ, binI, isDiv, optInt, optI, eksOk, eksEq, EK.ok, EK.eq, AV.i, AV.isI, AV.isInt, AV.str, AV.isStr, AV.ones, AV.isPtr, AV.gl, AV.isG, Value.oneCell', ii, ss, hlt, hro, h0, hle, hw6, ncells, n1, n2, n3, n4, n5, hkb, bv]
  have har : 1 ≤ arity op := by unfold arity at k1 ⊢; grind
  obtain ⟨c, rfl⟩ : ∃ c : Nat, xa = c := ⟨xa.toNat, by have := (k2 har).1; omega⟩
  have hcl : c < t.length := by have := (k2 har).2; omega
  obtain ⟨hcA, hwA⟩ := hA c hcl
  generalize hoa : (t.getD c nd0).op = oa at *
  have hoa' := hoa
  rw [List.getD_eq_getElem?_getD] at hoa'
  by_cases h14 : op < 14
  · have hb : xb = -1 := k4 (by unfold arity; grind)
    subst hb
    rcases (show op = 12 ∨ op = 13 by omega) with rfl | rfl
    · have hkb : kindB t ⟨12, num, var, attr, (c : Int), -1⟩ = !truthO oa := by simp [kindB, wantsT, hoa']
      simp [evs, resAll, resVal, resOne, freeOp, isA, goOp, appNew, mkOp, gev, Region.binds, aop, aeval, gocall, heapOp, quietOp, ev, constAV, setd, yav, ystop, up, env0, cx_ti, cx_G, cx_pf, ti, globS, glob, pfL, lds, ldc, ldcs_1, ldcs_2, ldcs_3, ldcs_4, ldcs_5, ldcs_7, sts, sth, sls.eq_1, slc.eq_1, wr, place, fillOk, fillC, repZ, binI, isDiv, optInt, optI, eksOk, eksEq, EK.ok, EK.eq, AV.i, AV.isI, AV.isInt, AV.str, AV.isStr, AV.ones, AV.isPtr, AV.gl, AV.isG, Value.oneCell', ii, ss, hlt, hro, h0, hle, hw6, ncells, hcl, hcA, hwA, tb97, g92, pure1, deI, hkb, bv]
    · have hkb : kindB t ⟨13, num, var, attr, (c : Int), -1⟩ = truthO oa := by simp [kindB, wantsT, hoa']
      simp [evs, resAll, resVal, resOne, freeOp, isA, goOp, appNew, mkOp, gev, Region.binds, aop, aeval, gocall, heapOp, quietOp, ev, constAV, setd, yav, ystop, up, env0, cx_ti, cx_G, cx_pf, ti, globS, glob, pfL, lds, ldc, ldcs_1, ldcs_2, ldcs_3, ldcs_4, ldcs_5, ldcs_7, sts, sth, sls.eq_1, slc.eq_1, wr, place, fillOk, fillC, repZ, binI, isDiv, optInt, optI, eksOk, eksEq, EK.ok, EK.eq, AV.i, AV.isI, AV.isInt, AV.str, AV.isStr, AV.ones, AV.isPtr, AV.gl, AV.isG, Value.oneCell', ii, ss, hlt, hro, h0, hle, hw6, ncells, hcl, hcA, hwA, tb97, g92, pure1, deI, hkb, bv]
  have har2 : arity op = 2 := by unfold arity at k1 ⊢; grind
  obtain ⟨d, rfl⟩ : ∃ d : Nat, xb = d := ⟨xb.toNat, by have := (k3 har2).1; omega⟩
  have hdl : d < t.length := by have := (k3 har2).2; omega
  obtain ⟨hdA, hwD⟩ := hA d hdl
  generalize hob : (t.getD d nd0).op = ob at *
  have hob' := hob
  rw [List.getD_eq_getElem?_getD] at hob'
  have n1 : ¬ op = 12 := by omega
  have n2 : ¬ op = 13 := by omega
  have n3 : 14 ≤ op := by omega
  have n7 : op ≤ 26 := by unfold arity at har2; grind
  have n8 : ¬ (d : Int) < 0 := by omega
  by_cases h24 : op ≤ 24
  · have hkb : kindB t ⟨op, num, var, attr, (c : Int), (d : Int)⟩ = (!truthO oa && !truthO ob) := by
      have : wantsT op = false := by simp [wantsT]; omega
      simp [kindB, this, hoa', hob', h12, n8]
    cases hta : truthO oa <;> cases htb : truthO ob <;> simp [evs, resAll, resVal, resOne, freeOp, isA, goOp, appNew, mkOp, gev, Region.binds, aop, aeval, gocall, heapOp, quietOp, ev, constAV, setd, yav, ystop, up, env0, cx_ti, cx_G, cx_pf, ti, globS, glob, pfL, lds, ldc, ldcs_1, ldcs_2, ldcs_3, ldcs_4, ldcs_5, ldcs_7, sts, sth, sls.eq_1, slc.eq_1, wr, place, fillOk, fillC, repZ, binI, isDiv, optInt, optI, eksOk, eksEq, EK.ok, EK.eq, AV.i, AV.isI, AV.isInt, AV.str, AV.isStr, AV.ones, AV.isPtr, AV.gl, AV.isG, Value.oneCell', ii, ss, hlt, hro, h0, hle, hw6, ncells, hcl, hcA, hwA, hdl, hdA, hwD, tb97, g92, pure1, deI, hkb, bv, n1, n2, n3, h24, hta, htb]
  · rcases (show op = 25 ∨ op = 26 by omega) with rfl | rfl
    all_goals
      have hkb : ∀ o : Int, o = 25 ∨ o = 26 → kindB t ⟨o, num, var, attr, (c : Int), (d : Int)⟩ = (truthO oa && truthO ob) := fun o ho => by
        rcases ho with rfl | rfl <;> simp [kindB, wantsT, hoa', hob', n8]
      cases hta : truthO oa <;> cases htb : truthO ob <;> simp [evs, resAll, resVal, resOne, freeOp, isA, goOp, appNew, mkOp, gev, Region.binds, aop, aeval, gocall, heapOp, quietOp, ev, constAV, setd, yav, ystop, up, env0, cx_ti, cx_G, cx_pf, ti, globS, glob, pfL, lds, ldc, ldcs_1, ldcs_2, ldcs_3, ldcs_4, ldcs_5, ldcs_7, sts, sth, sls.eq_1, slc.eq_1, wr, place, fillOk, fillC, repZ, binI, isDiv, optInt, optI, eksOk, eksEq, EK.ok, EK.eq, AV.i, AV.isI, AV.isInt, AV.str, AV.isStr, AV.ones, AV.isPtr, AV.gl, AV.isG, Value.oneCell', ii, ss, hlt, hro, h0, hle, hw6, ncells, hcl, hcA, hwA, hdl, hdA, hwD, tb97, g92, pure1, deI, hkb, bv, hta, htb]
/-! ### Runnable -/
def deQT (h : Heap) : List AV → Option (Qu × List Nd)
  | [x, a] => match deQ h x, rd dNs h a with
    | some q, some t => some (q, t)
    | _, _ => none
  | _ => none
theorem deQT_out {h : Heap} {args : List AV} {q : Qu × List Nd} (e : deQT h args = some q) : ∃ x a, args = [x, a] ∧ deQ h x = some q.1 ∧ rd dNs h a = some q.2 := by
  unfold deQT at e
  split at e
  · split at e
    · rename_i e1 e2
      cases e
      exact ⟨_, _, rfl, e1, e2⟩
    · cases e
  · cases e
theorem deQT_mono (h h' : Heap) (args : List AV) (q : Qu × List Nd) (hh : h.le h') (e : deQT h args = some q) : deQT h' args = some q := by
  obtain ⟨x, a, rfl, e1, e2⟩ := deQT_out e
  simp only [deQT, deQ_sim hh.sim e1, rd_mono hh e2]
def okQT (q : Qu × List Nd) : Prop := q.1.items.length < big ∧ smallT q.2
def G57 := pureH deQT okQT fun q => bv (runT (vars q.1.items) q.2)
def tb57 : List (FuncId × (List AV → Heap → PRes)) := [(94, G70), (95, g95), (96, G96), (97, G97)]
set_option maxRecDepth 100000 in
set_option maxHeartbeats 2000000 in
theorem P57 : P0 [7] 57 G57 := by
  refine mkH 2 (S := [7]) (l := tb57) (tb_cons P94 (tb_cons p95 (tb_cons P96 (tb_cons P97 tb_nil)))) Tryd.func57 rfl (by kernel_rfl) deQT_mono (fun h l x e => by obtain ⟨x, a, rfl, _⟩ := deQT_out e; exact Nat.le_refl _) (fun a => rfl) (fun args q h n e hp hn => ?_)
  obtain ⟨x, ta, rfl, e1, e5⟩ := deQT_out e
  obtain ⟨a, b, c, rfl, e2, e3, e4⟩ := deQ_out e1
  obtain ⟨q, t⟩ := q
  obtain ⟨hp1, hp2⟩ := hp
  have hp' : t.length * 64 ≤ 140737488355328 := hp2
  simp only [] at e1 e2 e3 e4 e5 hp1 hp2 hp' ⊢
  obtain ⟨s1, s2, s3, s4, s5⟩ := sl_is e5
  have o1 := (sl_is e2).2.2.2.1
  have o2 := (sl_is e3).2.2.2.1
  have o3 := (sl_is e4).2.2.2.1
  have g5 := rd_agree hn e5
  have gq := q_agree hn e1
  simp only [ii, ss] at gq
  have key : ∀ e : Nat → AV, e 0 = .g [a, ii q.mode, ii q.after, b, ii q.within, ss q.par, c] → e 1 = ta → awp (cx [7] (pfL tb57)) (Tryd.f57.body.getD .skip) (finQ (cx [7] (pfL tb57)) Tryd.f57 fun z _ _ => z = bv (runT (vars q.items) t)) ⟨e, roH h, n⟩ := fun e q0 q1 => by
    cases ht : tree1 t with
    | false =>
      have hf : runT (vars q.items) t = false := by simp [runT, ht]
      simp [evs, resAll, resVal, resOne, freeOp, isA, goOp, appNew, mkOp, gev, Region.binds, aop, aeval, gocall, heapOp, quietOp, ev, constAV, setd, yav, ystop, up, env0, cx_ti, cx_G, cx_pf, ti, globS, glob, pfL, lds, ldc, ldcs_1, ldcs_2, ldcs_3, ldcs_4, ldcs_5, ldcs_7, sts, sth, sls.eq_1, slc.eq_1, wr, place, fillOk, fillC, repZ, binI, isDiv, optInt, optI, eksOk, eksEq, EK.ok, EK.eq, AV.i, AV.isI, AV.isInt, AV.str, AV.isStr, AV.ones, AV.isPtr, AV.gl, AV.isG, Value.oneCell', Tryd.f57, q0, q1, ii, ss, s1, s2, s3, o1, o2, o3, tb57, G70, pureH, deT, g5, agree_up, agree_refl, hp2, ht, hf, bv]
    | true =>
      have hrt : runT (vars q.items) t = okTo (vars q.items) t t.length := by simp [runT, ht]
      simp [evs, resAll, resVal, resOne, freeOp, isA, goOp, appNew, mkOp, gev, Region.binds, aop, aeval, gocall, heapOp, quietOp, ev, constAV, setd, yav, ystop, up, env0, cx_ti, cx_G, cx_pf, ti, globS, glob, pfL, lds, ldc, ldcs_1, ldcs_2, ldcs_3, ldcs_4, ldcs_5, ldcs_7, sts, sth, sls.eq_1, slc.eq_1, wr, place, fillOk, fillC, repZ, binI, isDiv, optInt, optI, eksOk, eksEq, EK.ok, EK.eq, AV.i, AV.isI, AV.isInt, AV.str, AV.isStr, AV.ones, AV.isPtr, AV.gl, AV.isG, Value.oneCell', Tryd.f57, q0, q1, ii, ss, s1, s2, s3, o1, o2, o3, tb57, G70, pureH, deT, g5, agree_up, agree_refl, hp2, ht, bv]
      refine awp_loop (fun s => ∃ j : Nat, j ≤ t.length ∧ okTo (vars q.items) t j = true ∧ s.e 1 = ta ∧ s.e 2 = .p n 0 0 ∧ s.e 6 = ii j ∧ agree n (roH h) s.h ∧ s.h n = some ⟨[a, ii q.mode, ii q.after, b, ii q.within, ss q.par, c], 0, true, 7⟩) (fun s => t.length - (s.e 6).i.toNat) ⟨0, by simp [up, q0, q1, ii, ss, agree_up, agree_refl, okTo]⟩ ?_
      rintro e' h' n' ⟨j, hj, hok, q1, q2, q6, hag, hbk⟩
      simp only [] at q1 q2 q6 hag hbk
      by_cases hlt : j < t.length
      · rcases ns_at e5 with ⟨h0, _⟩ | ⟨id, off, k, rfl, hk, ho', hat⟩
        · rw [h0] at hlt; simp at hlt
        have hr := hat j hlt
        have c0 := cell_of (c := 0) hr rfl (by omega)
        have c2 := cell_of (c := 2) hr rfl (by omega)
        rw [Nat.add_assoc] at c2
        simp only [Nat.add_zero] at c0
        have ha' := agree_at hn hk hag
        have hw := wrap_nat (j := j) (by unfold big; omega)
        have hw1 : off + (j * 6 + 1) ≤ k.cells.length := by omega
        have hw3 : off + (j * 6 + 3) ≤ k.cells.length := by omega
        have hsu := okTo_succ (vs := vars q.items) hlt
        have hno := okTo_no (vs := vars q.items) hlt
        have hoe := nodeOk_eq (vars q.items) t t[j]
        have hti : okTI (t, (j : Int)) := ⟨ht, by simp, by simpa using hlt⟩
        have hg : t.getD j nd0 = t[j] := by rw [List.getD_eq_getElem?_getD, List.getElem?_eq_getElem hlt]; rfl
        have hg' : t[j]?.getD nd0 = t[j] := by rw [List.getElem?_eq_getElem hlt]; rfl
        rw [← hrt] at hno
        generalize hgx : t[j] = x at *
        obtain ⟨op, num, var, attr, xa, xb⟩ := x
        simp only [] at c0 c2 hoe
        generalize hix : ixOf (vars q.items) var = ix at *
        cases hm : mentO op with
        | true =>
          by_cases hneg : ix < 0
          · have hng : ¬ 0 ≤ ix := by omega
            have hf := hno (by rw [hoe, hm]; simp [hng])
            simp [evs, resAll, resVal, resOne, freeOp, isA, goOp, appNew, mkOp, gev, Region.binds, aop, aeval, gocall, heapOp, quietOp, ev, constAV, setd, yav, ystop, up, env0, cx_ti, cx_G, cx_pf, ti, globS, glob, pfL, lds, ldc, ldcs_1, ldcs_2, ldcs_3, ldcs_4, ldcs_5, ldcs_7, sts, sth, sls.eq_1, slc.eq_1, wr, place, fillOk, fillC, repZ, binI, isDiv, optInt, optI, eksOk, eksEq, EK.ok, EK.eq, AV.i, AV.isI, AV.isInt, AV.str, AV.isStr, AV.ones, AV.isPtr, AV.gl, AV.isG, Value.oneCell', q1, q2, q6, ii, ss, hlt, ha', c0, c2, hw1, hw3, hbk, tb57, g95, pure1, deI, hm, G96, pureH, deQS, gq, hag, hp1, hix, hneg, hf, bv]
          · have hng : 0 ≤ ix := by omega
            cases hkb : kindB t ⟨op, num, var, attr, xa, xb⟩ with
            | false =>
              have hf := hno (by rw [hoe, hkb]; simp)
              simp [evs, resAll, resVal, resOne, freeOp, isA, goOp, appNew, mkOp, gev, Region.binds, aop, aeval, gocall, heapOp, quietOp, ev, constAV, setd, yav, ystop, up, env0, cx_ti, cx_G, cx_pf, ti, globS, glob, pfL, lds, ldc, ldcs_1, ldcs_2, ldcs_3, ldcs_4, ldcs_5, ldcs_7, sts, sth, sls.eq_1, slc.eq_1, wr, place, fillOk, fillC, repZ, binI, isDiv, optInt, optI, eksOk, eksEq, EK.ok, EK.eq, AV.i, AV.isI, AV.isInt, AV.str, AV.isStr, AV.ones, AV.isPtr, AV.gl, AV.isG, Value.oneCell', q1, q2, q6, ii, ss, hlt, ha', c0, c2, hw1, hw3, hbk, tb57, g95, pure1, deI, hm, G96, pureH, deQS, gq, hag, hp1, hix, hneg, G97, deTI, g5, hti, hg, hg', hgx, hkb, hf, bv]
            | true =>
              have hs1 : okTo (vars q.items) t (j + 1) = true := by rw [hsu, hok, hoe, hkb, hm]; simp [hng]
              simp [evs, resAll, resVal, resOne, freeOp, isA, goOp, appNew, mkOp, gev, Region.binds, aop, aeval, gocall, heapOp, quietOp, ev, constAV, setd, yav, ystop, up, env0, cx_ti, cx_G, cx_pf, ti, globS, glob, pfL, lds, ldc, ldcs_1, ldcs_2, ldcs_3, ldcs_4, ldcs_5, ldcs_7, sts, sth, sls.eq_1, slc.eq_1, wr, place, fillOk, fillC, repZ, binI, isDiv, optInt, optI, eksOk, eksEq, EK.ok, EK.eq, AV.i, AV.isI, AV.isInt, AV.str, AV.isStr, AV.ones, AV.isPtr, AV.gl, AV.isG, Value.oneCell', q1, q2, q6, ii, ss, hlt, ha', c0, c2, hw1, hw3, hbk, tb57, g95, pure1, deI, hm, G96, pureH, deQS, gq, hag, hp1, hix, hneg, G97, deTI, g5, hti, hg, hg', hgx, hkb, bv, hw]
              exact ⟨⟨j + 1, by omega, hs1, by omega⟩, by omega⟩
        | false =>
          cases hkb : kindB t ⟨op, num, var, attr, xa, xb⟩ with
          | false =>
            have hf := hno (by rw [hoe, hkb]; simp)
            simp [evs, resAll, resVal, resOne, freeOp, isA, goOp, appNew, mkOp, gev, Region.binds, aop, aeval, gocall, heapOp, quietOp, ev, constAV, setd, yav, ystop, up, env0, cx_ti, cx_G, cx_pf, ti, globS, glob, pfL, lds, ldc, ldcs_1, ldcs_2, ldcs_3, ldcs_4, ldcs_5, ldcs_7, sts, sth, sls.eq_1, slc.eq_1, wr, place, fillOk, fillC, repZ, binI, isDiv, optInt, optI, eksOk, eksEq, EK.ok, EK.eq, AV.i, AV.isI, AV.isInt, AV.str, AV.isStr, AV.ones, AV.isPtr, AV.gl, AV.isG, Value.oneCell', q1, q2, q6, ii, ss, hlt, ha', c0, c2, hw1, hw3, hbk, tb57, g95, pure1, deI, hm, G97, pureH, deTI, g5, hag, hti, hg, hg', hgx, hkb, hf, bv]
          | true =>
            have hs1 : okTo (vars q.items) t (j + 1) = true := by rw [hsu, hok, hoe, hkb, hm]; simp
            simp [evs, resAll, resVal, resOne, freeOp, isA, goOp, appNew, mkOp, gev, Region.binds, aop, aeval, gocall, heapOp, quietOp, ev, constAV, setd, yav, ystop, up, env0, cx_ti, cx_G, cx_pf, ti, globS, glob, pfL, lds, ldc, ldcs_1, ldcs_2, ldcs_3, ldcs_4, ldcs_5, ldcs_7, sts, sth, sls.eq_1, slc.eq_1, wr, place, fillOk, fillC, repZ, binI, isDiv, optInt, optI, eksOk, eksEq, EK.ok, EK.eq, AV.i, AV.isI, AV.isInt, AV.str, AV.isStr, AV.ones, AV.isPtr, AV.gl, AV.isG, Value.oneCell', q1, q2, q6, ii, ss, hlt, ha', c0, c2, hw1, hw3, hbk, tb57, g95, pure1, deI, hm, G97, pureH, deTI, g5, hag, hti, hg, hg', hgx, hkb, bv, hw]
            exact ⟨⟨j + 1, by omega, hs1, by omega⟩, by omega⟩
      · obtain rfl : j = t.length := by omega
        simp [evs, resAll, resVal, resOne, freeOp, isA, goOp, appNew, mkOp, gev, Region.binds, aop, aeval, gocall, heapOp, quietOp, ev, constAV, setd, yav, ystop, up, env0, cx_ti, cx_G, cx_pf, ti, globS, glob, pfL, lds, ldc, ldcs_1, ldcs_2, ldcs_3, ldcs_4, ldcs_5, ldcs_7, sts, sth, sls.eq_1, slc.eq_1, wr, place, fillOk, fillC, repZ, binI, isDiv, optInt, optI, eksOk, eksEq, EK.ok, EK.eq, AV.i, AV.isI, AV.isInt, AV.str, AV.isStr, AV.ones, AV.isPtr, AV.gl, AV.isG, Value.oneCell', q1, q2, q6, ii, s1, s2, s3, hrt, hok, bv]
  exact key _ rfl rfl
end Go.Proofs.YtkfphaphiikloaaDoor
