/-
  THE PROGRAMS OF CONDITIONS, PART E: what an instruction that names an item lays down, on both sides.
-/
import Derived.Test.YtkfphaphiikloaaDoorX15
set_option linter.unusedSimpArgs false
set_option linter.unusedVariables false
set_option linter.constructorNameAsVariable false
namespace Go.Proofs.YtkfphaphiikloaaDoor
open Go Go.Eng

/-- Environments in range. -/
structure EnOk (e : En) : Prop where
  len : ∀ l ∈ e.ls, l.length ≤ 2147483647
  ev : ∀ l ∈ e.ls, ∀ x ∈ l, EvOk x
  pos : Rng e.pos
theorem listAt_mem {ls : List (List Ev)} {P : List Ev → Prop} (h0 : P []) (h : ∀ l ∈ ls, P l) (i : Int) : P (listAt ls i) := by
  unfold listAt
  split
  · exact h0
  · rw [List.getD_eq_getElem?_getD]
    cases e : ls[i.toNat]? with
    | none => exact h0
    | some l => exact h l (List.mem_of_getElem? e)
theorem EnOk.lenAt {e : En} (h : EnOk e) (i : Int) : (listAt e.ls i).length ≤ 2147483647 := listAt_mem (P := fun l => l.length ≤ 2147483647) (by simp) h.len i
theorem EnOk.evAt {e : En} (h : EnOk e) (i : Int) : ∀ x ∈ listAt e.ls i, EvOk x := listAt_mem (P := fun l => ∀ x ∈ l, EvOk x) (by simp) h.ev i
def okM (q : Ins × List Int × En) : Prop := (1 ≤ q.1.code ∧ q.1.code ≤ 9) ∧ q.2.1.length < big ∧ EnOk q.2.2
def de61 (h : Heap) : List AV → Option (Ins × List Int × En)
  | [i, c, e] => match deIns i, rd dIs h c, deEn h e with
    | some i, some c, some e => some (i, c, e)
    | _, _, _ => none
  | _ => none
theorem de61_out {h : Heap} {args : List AV} {q : Ins × List Int × En} (e : de61 h args = some q) : ∃ c x, args = [iv q.1, c, x] ∧ rd dIs h c = some q.2.1 ∧ deEn h x = some q.2.2 := by
  unfold de61 at e
  split at e
  · split at e
    · rename_i e1 e2 e3
      cases e
      exact ⟨_, _, by rw [deIns_out e1], e2, e3⟩
    · cases e
  · cases e
theorem deIns_in (i : Ins) : deIns (.g (icells i)) = some i := rfl
theorem de61_mono (h h' : Heap) (args : List AV) (q : Ins × List Int × En) (hh : h.le h') (e : de61 h args = some q) : de61 h' args = some q := by
  obtain ⟨c, x, rfl, e1, e2⟩ := de61_out e
  simp only [de61, iv, deIns_in, rd_mono hh e1, deEn_sim hh.sim e2]
def g61m := pureH de61 okM fun q => vv (mentionV q.1 q.2.1 q.2.2)
def laidV (i : Ins) (c : List Int) (e : En) : V := if i.code = 1 then knownV i.n else mentionV i c e
def g104 := pureH de61 okM fun q => vv (laidV q.1 q.2.1 q.2.2)
/-- The list of an item, and all that one asks of it. -/
theorem li_facts {h : Heap} {n : Nat} (hn : ∀ i, n ≤ i → h i = none) {a : AV} {e : En} (e1 : rd dEss h a = some e.ls) (item : Int) : ∃ c, (∀ h', agree n (roH h) h' → deLI h' [.g [a, .v (.int .i64 e.each), .v (.int .i64 e.pos)], .v (.int .i64 item)] = some (e, item) ∧ fLI h' [.g [a, .v (.int .i64 e.each), .v (.int .i64 e.pos)], .v (.int .i64 item)] (e, item) = c) ∧
    (∀ h', agree n (roH h) h' → rd dEs h' c = some (listAt e.ls item)) ∧ c.isS ∧ c.slen = (listAt e.ls item).length ∧ (∀ g, AV.unc g c = c) ∧ c.one ∧ c.cells = [c] := by
  have hq : deLI h [.g [a, .v (.int .i64 e.each), .v (.int .i64 e.pos)], .v (.int .i64 item)] = some (e, item) := by simp only [deLI, deEn_in e1, Option.map_some]
  have hr := fLI_rd hq
  have hat : ∀ h', agree n (roH h) h' → ∀ i, cellAt h' a i = cellAt h a i := fun h' ha i => by
    rcases sl_at e1 with ⟨_, rfl | rfl⟩ | ⟨id, off, k, rfl, h2, _⟩
    · rfl
    · rfl
    · simp only [cellAt, h2, agree_at hn h2 ha]
  refine ⟨_, fun h' ha => ⟨?_, ?_⟩, fun h' ha => rd_agree hn hr h' ha, sl_is hr⟩
  · simp only [deLI, deEn_in (rd_agree hn e1 h' ha), Option.map_some]
  · simp only [fLI]
    rw [hat h' ha]
def tb61 : List (FuncId × (List AV → Heap → PRes)) := [(65, G65), (101, g101), (102, g102)]
set_option maxRecDepth 100000 in
set_option maxHeartbeats 1000000 in
theorem p61m : P0 [1] 61 g61m := by
  refine mkH 3 (S := [1]) (l := tb61) (tb_cons P65 (tb_cons p101 (tb_cons p102 tb_nil))) Tryd.func61 rfl (by kernel_rfl) de61_mono (fun h l x e => by obtain ⟨a, c, rfl, _⟩ := de61_out e; exact Nat.le_refl _) (fun a => rfl) (fun args q h n e hp hn => ?_)
  obtain ⟨⟨code, item, icol, iN, ito⟩, col, ⟨ls, each, pos⟩⟩ := q
  obtain ⟨c, x, rfl, e1, e2⟩ := de61_out e
  obtain ⟨hcode, hc, hen⟩ := hp
  obtain ⟨a, rfl, e3⟩ := deEn_out e2
  simp only [] at e1 e2 e3 hcode hc hen ⊢
  obtain ⟨s1, s2, s3, s4, s5⟩ := sl_is e3
  obtain ⟨t1, t2, t3, t4, t5⟩ := sl_is e1
  obtain ⟨cl, f1, f2, u1, u2, u3, u4, u5⟩ := li_facts (e := ⟨ls, each, pos⟩) hn e3 item
  simp only [] at f1 f2 u1 u2 u3 u4 u5
  have f0 := fun h' ha => (f1 h' ha).1
  replace f1 := fun h' ha => (f1 h' ha).2
  have hlen := hen.lenAt item
  have hev := hen.evAt item
  have hpos := hen.pos
  simp only [] at hlen hev hpos
  have hsm : ∀ i : Int, smallH (listAt ls item, i, col) := fun i => ⟨by simp only [big]; omega, hc⟩
  have hok : okL (listAt ls item, col, code + 1) := ⟨hlen, hc, hev⟩
  have g1 := rd_agree hn e1
  have v1 : n ≤ n + 1 := by omega
  have v2 : n ≤ n + 2 := by omega
  have v3 : n ≤ n + 3 := by omega
  have hw1 : IntKind.i64.wrap (6 + IntKind.i64.wrap (code - 5)) = code + 1 := by
    have h1 : IntKind.i64.wrap (code - 5) = code - 5 := W_id (by unfold Rng; omega)
    rw [h1]
    have h2 : IntKind.i64.wrap (6 + (code - 5)) = 6 + (code - 5) := W_id (by unfold Rng; omega)
    rw [h2]
    omega
  unfold Rng at hpos
  by_cases c4 : code = 4
  · subst c4
    simp [evs, resAll, resVal, resOne, freeOp, isA, goOp, appNew, mkOp, gev, Region.binds, aop, aeval, gocall, heapOp, quietOp, ev, constAV, setd, yav, ystop, up, env0, cx_ti, cx_G, cx_pf, ti, globS, glob, pfL, lds, ldc, ldcs_1, ldcs_2, ldcs_3, ldcs_4, ldcs_5, ldcs_7, sts, sth, sls, slc, wr, place, fillOk, fillC, repZ, binI, isDiv, optInt, optI, eksOk, eksEq, EK.ok, EK.eq, AV.i, AV.isI, AV.isInt, AV.str, AV.isStr, AV.ones, AV.isPtr, AV.gl, AV.isG, Value.oneCell', iv, icells, ii, vv, mentionV, knownV, tb61, G65, pureS, f0, f1, agree_up, agree_refl, v1, v2, v3, s3, s4, s5, u1, u2, u3, u4, u5]
  by_cases c3 : code = 3
  · subst c3
    by_cases ht : item = each ∧ 0 ≤ item
    · obtain ⟨rfl, ht2⟩ := ht
      by_cases hp1 : 1 ≤ pos
      · have hw2 : IntKind.i64.wrap (pos - 1) = pos - 1 := W_id (by unfold Rng; omega)
        have hp2 : ¬ pos < 1 := by omega
        simp [evs, resAll, resVal, resOne, freeOp, isA, goOp, appNew, mkOp, gev, Region.binds, aop, aeval, gocall, heapOp, quietOp, ev, constAV, setd, yav, ystop, up, env0, cx_ti, cx_G, cx_pf, ti, globS, glob, pfL, lds, ldc, ldcs_1, ldcs_2, ldcs_3, ldcs_4, ldcs_5, ldcs_7, sts, sth, sls, slc, wr, place, fillOk, fillC, repZ, binI, isDiv, optInt, optI, eksOk, eksEq, EK.ok, EK.eq, AV.i, AV.isI, AV.isInt, AV.str, AV.isStr, AV.ones, AV.isPtr, AV.gl, AV.isG, Value.oneCell', iv, icells, ii, vv, mentionV, knownV, tb61, G65, pureS, f0, f1, agree_up, agree_refl, v1, v2, v3, s3, s4, s5, u1, u2, u3, u4, u5, ht2, hp1, hp2, hw2, t3, g101, pureH, de101, f2, g1, hsm]
      · have hp2 : pos < 1 := by omega
        simp [evs, resAll, resVal, resOne, freeOp, isA, goOp, appNew, mkOp, gev, Region.binds, aop, aeval, gocall, heapOp, quietOp, ev, constAV, setd, yav, ystop, up, env0, cx_ti, cx_G, cx_pf, ti, globS, glob, pfL, lds, ldc, ldcs_1, ldcs_2, ldcs_3, ldcs_4, ldcs_5, ldcs_7, sts, sth, sls, slc, wr, place, fillOk, fillC, repZ, binI, isDiv, optInt, optI, eksOk, eksEq, EK.ok, EK.eq, AV.i, AV.isI, AV.isInt, AV.str, AV.isStr, AV.ones, AV.isPtr, AV.gl, AV.isG, Value.oneCell', iv, icells, ii, vv, mentionV, unk, tb61, G65, pureS, f0, f1, agree_up, agree_refl, v1, v2, v3, s3, s4, s5, u1, u2, u3, u4, u5, ht2, hp1, hp2, t3, g101, pureH, de101, f2, g1, hsm]
    · by_cases ht3 : item = each
      · have ht2 : ¬ 0 ≤ item := fun h => ht ⟨ht3, h⟩
        subst ht3
        simp [evs, resAll, resVal, resOne, freeOp, isA, goOp, appNew, mkOp, gev, Region.binds, aop, aeval, gocall, heapOp, quietOp, ev, constAV, setd, yav, ystop, up, env0, cx_ti, cx_G, cx_pf, ti, globS, glob, pfL, lds, ldc, ldcs_1, ldcs_2, ldcs_3, ldcs_4, ldcs_5, ldcs_7, sts, sth, sls, slc, wr, place, fillOk, fillC, repZ, binI, isDiv, optInt, optI, eksOk, eksEq, EK.ok, EK.eq, AV.i, AV.isI, AV.isInt, AV.str, AV.isStr, AV.ones, AV.isPtr, AV.gl, AV.isG, Value.oneCell', iv, icells, ii, vv, mentionV, unk, tb61, G65, pureS, f0, f1, agree_up, agree_refl, v1, v2, v3, s3, s4, s5, u1, u2, u3, u4, u5, ht2, t3, g101, pureH, de101, f2, g1, hsm]
      · simp [evs, resAll, resVal, resOne, freeOp, isA, goOp, appNew, mkOp, gev, Region.binds, aop, aeval, gocall, heapOp, quietOp, ev, constAV, setd, yav, ystop, up, env0, cx_ti, cx_G, cx_pf, ti, globS, glob, pfL, lds, ldc, ldcs_1, ldcs_2, ldcs_3, ldcs_4, ldcs_5, ldcs_7, sts, sth, sls, slc, wr, place, fillOk, fillC, repZ, binI, isDiv, optInt, optI, eksOk, eksEq, EK.ok, EK.eq, AV.i, AV.isI, AV.isInt, AV.str, AV.isStr, AV.ones, AV.isPtr, AV.gl, AV.isG, Value.oneCell', iv, icells, ii, vv, mentionV, unk, tb61, G65, pureS, f0, f1, agree_up, agree_refl, v1, v2, v3, s3, s4, s5, u1, u2, u3, u4, u5, ht3, t3, g101, pureH, de101, f2, g1, hsm]
  by_cases c2 : code = 2
  · subst c2
    by_cases ht : item = each ∧ 0 ≤ item
    · obtain ⟨rfl, ht2⟩ := ht
      simp [evs, resAll, resVal, resOne, freeOp, isA, goOp, appNew, mkOp, gev, Region.binds, aop, aeval, gocall, heapOp, quietOp, ev, constAV, setd, yav, ystop, up, env0, cx_ti, cx_G, cx_pf, ti, globS, glob, pfL, lds, ldc, ldcs_1, ldcs_2, ldcs_3, ldcs_4, ldcs_5, ldcs_7, sts, sth, sls, slc, wr, place, fillOk, fillC, repZ, binI, isDiv, optInt, optI, eksOk, eksEq, EK.ok, EK.eq, AV.i, AV.isI, AV.isInt, AV.str, AV.isStr, AV.ones, AV.isPtr, AV.gl, AV.isG, Value.oneCell', iv, icells, ii, vv, mentionV, knownV, tb61, G65, pureS, f0, f1, agree_up, agree_refl, v1, v2, v3, s3, s4, s5, u1, u2, u3, u4, u5, ht2, t3, g101, pureH, de101, f2, g1, hsm]
    · by_cases ht3 : item = each
      · have ht2 : ¬ 0 ≤ item := fun h => ht ⟨ht3, h⟩
        subst ht3
        simp [evs, resAll, resVal, resOne, freeOp, isA, goOp, appNew, mkOp, gev, Region.binds, aop, aeval, gocall, heapOp, quietOp, ev, constAV, setd, yav, ystop, up, env0, cx_ti, cx_G, cx_pf, ti, globS, glob, pfL, lds, ldc, ldcs_1, ldcs_2, ldcs_3, ldcs_4, ldcs_5, ldcs_7, sts, sth, sls, slc, wr, place, fillOk, fillC, repZ, binI, isDiv, optInt, optI, eksOk, eksEq, EK.ok, EK.eq, AV.i, AV.isI, AV.isInt, AV.str, AV.isStr, AV.ones, AV.isPtr, AV.gl, AV.isG, Value.oneCell', iv, icells, ii, vv, mentionV, unk, tb61, G65, pureS, f0, f1, agree_up, agree_refl, v1, v2, v3, s3, s4, s5, u1, u2, u3, u4, u5, ht2, t3, g101, pureH, de101, f2, g1, hsm]
      · simp [evs, resAll, resVal, resOne, freeOp, isA, goOp, appNew, mkOp, gev, Region.binds, aop, aeval, gocall, heapOp, quietOp, ev, constAV, setd, yav, ystop, up, env0, cx_ti, cx_G, cx_pf, ti, globS, glob, pfL, lds, ldc, ldcs_1, ldcs_2, ldcs_3, ldcs_4, ldcs_5, ldcs_7, sts, sth, sls, slc, wr, place, fillOk, fillC, repZ, binI, isDiv, optInt, optI, eksOk, eksEq, EK.ok, EK.eq, AV.i, AV.isI, AV.isInt, AV.str, AV.isStr, AV.ones, AV.isPtr, AV.gl, AV.isG, Value.oneCell', iv, icells, ii, vv, mentionV, unk, tb61, G65, pureS, f0, f1, agree_up, agree_refl, v1, v2, v3, s3, s4, s5, u1, u2, u3, u4, u5, ht3, t3, g101, pureH, de101, f2, g1, hsm]
  simp [evs, resAll, resVal, resOne, freeOp, isA, goOp, appNew, mkOp, gev, Region.binds, aop, aeval, gocall, heapOp, quietOp, ev, constAV, setd, yav, ystop, up, env0, cx_ti, cx_G, cx_pf, ti, globS, glob, pfL, lds, ldc, ldcs_1, ldcs_2, ldcs_3, ldcs_4, ldcs_5, ldcs_7, sts, sth, sls, slc, wr, place, fillOk, fillC, repZ, binI, isDiv, optInt, optI, eksOk, eksEq, EK.ok, EK.eq, AV.i, AV.isI, AV.isInt, AV.str, AV.isStr, AV.ones, AV.isPtr, AV.gl, AV.isG, Value.oneCell', iv, icells, ii, vv, mentionV, tb61, G65, pureS, f0, f1, agree_up, agree_refl, v1, v2, v3, s3, s4, s5, u1, u2, u3, u4, u5, c4, c3, c2, hw1, t3, g102, pureH, de102, f2, g1, hok]
  try (by_cases ht : item = each <;> simp [ht])
def tb104 : List (FuncId × (List AV → Heap → PRes)) := [(63, g52), (66, G65), (111, g53), (126, g126), (127, g127)]
set_option maxRecDepth 100000 in
set_option maxHeartbeats 1000000 in
theorem p104 : P0 [] 104 g104 := by
  refine mkH 3 (S := []) (l := tb104) (tb_cons p52 (tb_cons P66 (tb_cons p53 (tb_cons p126 (tb_cons p127 tb_nil))))) Tryd.func104 rfl (by kernel_rfl) de61_mono (fun h l x e => by obtain ⟨a, c, rfl, _⟩ := de61_out e; exact Nat.le_refl _) (fun a => rfl) (fun args q h n e hp hn => ?_)
  obtain ⟨⟨code, item, icol, iN, ito⟩, col, ⟨ls, each, pos⟩⟩ := q
  obtain ⟨c, x, rfl, e1, e2⟩ := de61_out e
  obtain ⟨hcode, hc, hen⟩ := hp
  obtain ⟨a, rfl, e3⟩ := deEn_out e2
  simp only [] at e1 e2 e3 hcode hc hen ⊢
  obtain ⟨s1, s2, s3, s4, s5⟩ := sl_is e3
  obtain ⟨t1, t2, t3, t4, t5⟩ := sl_is e1
  obtain ⟨cl, f1, f2, u1, u2, u3, u4, u5⟩ := li_facts (e := ⟨ls, each, pos⟩) hn e3 item
  simp only [] at f1 f2 u1 u2 u3 u4 u5
  have f0 := fun h' ha => (f1 h' ha).1
  replace f1 := fun h' ha => (f1 h' ha).2
  have hlen := hen.lenAt item
  have hev := hen.evAt item
  have hpos := hen.pos
  simp only [] at hlen hev hpos
  have hsm : ∀ i : Int, smallH (listAt ls item, i, col) := fun i => ⟨by simp only [big]; omega, hc⟩
  have hok : okL (listAt ls item, col, code + 1) := ⟨hlen, hc, hev⟩
  have g1 := rd_agree hn e1
  have v1 : n ≤ n + 1 := by omega
  have v2 : n ≤ n + 2 := by omega
  have v3 : n ≤ n + 3 := by omega
  have hw0 : IntKind.i64.wrap code = code := W_id (by unfold Rng; omega)
  have hw1 : IntKind.i64.wrap (IntKind.i64.wrap (code - 5) + 6) = code + 1 := by
    have h1 : IntKind.i64.wrap (code - 5) = code - 5 := W_id (by unfold Rng; omega)
    rw [h1]
    have h2 : IntKind.i64.wrap (code - 5 + 6) = code - 5 + 6 := W_id (by unfold Rng; omega)
    rw [h2]
    omega
  unfold Rng at hpos
  by_cases c1 : code = 1
  · subst c1
    simp [evs, resAll, resVal, resOne, freeOp, isA, goOp, appNew, mkOp, gev, Region.binds, aop, aeval, gocall, heapOp, quietOp, ev, constAV, setd, yav, ystop, up, env0, cx_ti, cx_G, cx_pf, ti, globS, glob, pfL, lds, ldc, ldcs_1, ldcs_2, ldcs_3, ldcs_4, ldcs_5, ldcs_7, sts, sth, sls, slc, wr, place, fillOk, fillC, repZ, binI, isDiv, optInt, optI, eksOk, eksEq, EK.ok, EK.eq, AV.i, AV.isI, AV.isInt, AV.str, AV.isStr, AV.ones, AV.isPtr, AV.gl, AV.isG, Value.oneCell', iv, icells, ii, vv, laidV, knownV, tb104, G65, pureS, f0, f1, agree_up, agree_refl, v1, v2, v3, s3, s4, s5, u1, u2, u3, u4, u5, g53, pure1, deI]
  by_cases c4 : code = 4
  · subst c4
    simp [evs, resAll, resVal, resOne, freeOp, isA, goOp, appNew, mkOp, gev, Region.binds, aop, aeval, gocall, heapOp, quietOp, ev, constAV, setd, yav, ystop, up, env0, cx_ti, cx_G, cx_pf, ti, globS, glob, pfL, lds, ldc, ldcs_1, ldcs_2, ldcs_3, ldcs_4, ldcs_5, ldcs_7, sts, sth, sls, slc, wr, place, fillOk, fillC, repZ, binI, isDiv, optInt, optI, eksOk, eksEq, EK.ok, EK.eq, AV.i, AV.isI, AV.isInt, AV.str, AV.isStr, AV.ones, AV.isPtr, AV.gl, AV.isG, Value.oneCell', iv, icells, ii, vv, laidV, mentionV, knownV, tb104, G65, pureS, f0, f1, agree_up, agree_refl, v1, v2, v3, s3, s4, s5, u1, u2, u3, u4, u5, g53, pure1, deI]
  by_cases c3 : code = 3
  · subst c3
    by_cases ht : item = each ∧ 0 ≤ item
    · obtain ⟨rfl, ht2⟩ := ht
      by_cases hp1 : 1 ≤ pos
      · have hw2 : IntKind.i64.wrap (pos - 1) = pos - 1 := W_id (by unfold Rng; omega)
        simp [evs, resAll, resVal, resOne, freeOp, isA, goOp, appNew, mkOp, gev, Region.binds, aop, aeval, gocall, heapOp, quietOp, ev, constAV, setd, yav, ystop, up, env0, cx_ti, cx_G, cx_pf, ti, globS, glob, pfL, lds, ldc, ldcs_1, ldcs_2, ldcs_3, ldcs_4, ldcs_5, ldcs_7, sts, sth, sls, slc, wr, place, fillOk, fillC, repZ, binI, isDiv, optInt, optI, eksOk, eksEq, EK.ok, EK.eq, AV.i, AV.isI, AV.isInt, AV.str, AV.isStr, AV.ones, AV.isPtr, AV.gl, AV.isG, Value.oneCell', iv, icells, ii, vv, laidV, mentionV, knownV, tb104, G65, pureS, f0, f1, agree_up, agree_refl, v1, v2, v3, s3, s4, s5, u1, u2, u3, u4, u5, ht2, hp1, hw2, t3, g126, pureH, de126, de101, f2, g1, hsm]
      · have hone : oneV (listAt ls item) (IntKind.i64.wrap (pos - 1)) col = unk := by
          by_cases hmin : pos = -9223372036854775808
          · subst hmin
            have : IntKind.i64.wrap (-9223372036854775808 - 1) = 9223372036854775807 := by decide
            rw [this]
            unfold oneV
            rw [if_neg (by omega)]
            have : (listAt ls item)[(9223372036854775807 : Int).toNat]? = none := List.getElem?_eq_none (by omega)
            rw [this]
          · have hw2 : IntKind.i64.wrap (pos - 1) = pos - 1 := W_id (by unfold Rng; omega)
            rw [hw2]
            unfold oneV
            rw [if_pos (by omega)]
        simp [evs, resAll, resVal, resOne, freeOp, isA, goOp, appNew, mkOp, gev, Region.binds, aop, aeval, gocall, heapOp, quietOp, ev, constAV, setd, yav, ystop, up, env0, cx_ti, cx_G, cx_pf, ti, globS, glob, pfL, lds, ldc, ldcs_1, ldcs_2, ldcs_3, ldcs_4, ldcs_5, ldcs_7, sts, sth, sls, slc, wr, place, fillOk, fillC, repZ, binI, isDiv, optInt, optI, eksOk, eksEq, EK.ok, EK.eq, AV.i, AV.isI, AV.isInt, AV.str, AV.isStr, AV.ones, AV.isPtr, AV.gl, AV.isG, Value.oneCell', iv, icells, ii, vv, laidV, mentionV, unk, tb104, G65, pureS, f0, f1, agree_up, agree_refl, v1, v2, v3, s3, s4, s5, u1, u2, u3, u4, u5, ht2, hp1, t3, g126, pureH, de126, de101, f2, g1, hsm, hone]
    · by_cases ht3 : item = each
      · have ht2 : ¬ 0 ≤ item := fun h => ht ⟨ht3, h⟩
        subst ht3
        simp [evs, resAll, resVal, resOne, freeOp, isA, goOp, appNew, mkOp, gev, Region.binds, aop, aeval, gocall, heapOp, quietOp, ev, constAV, setd, yav, ystop, up, env0, cx_ti, cx_G, cx_pf, ti, globS, glob, pfL, lds, ldc, ldcs_1, ldcs_2, ldcs_3, ldcs_4, ldcs_5, ldcs_7, sts, sth, sls, slc, wr, place, fillOk, fillC, repZ, binI, isDiv, optInt, optI, eksOk, eksEq, EK.ok, EK.eq, AV.i, AV.isI, AV.isInt, AV.str, AV.isStr, AV.ones, AV.isPtr, AV.gl, AV.isG, Value.oneCell', iv, icells, ii, vv, laidV, mentionV, unk, tb104, g52, G65, pureS, f0, f1, agree_up, agree_refl, v1, v2, v3, s3, s4, s5, u1, u2, u3, u4, u5, ht2, t3]
      · simp [evs, resAll, resVal, resOne, freeOp, isA, goOp, appNew, mkOp, gev, Region.binds, aop, aeval, gocall, heapOp, quietOp, ev, constAV, setd, yav, ystop, up, env0, cx_ti, cx_G, cx_pf, ti, globS, glob, pfL, lds, ldc, ldcs_1, ldcs_2, ldcs_3, ldcs_4, ldcs_5, ldcs_7, sts, sth, sls, slc, wr, place, fillOk, fillC, repZ, binI, isDiv, optInt, optI, eksOk, eksEq, EK.ok, EK.eq, AV.i, AV.isI, AV.isInt, AV.str, AV.isStr, AV.ones, AV.isPtr, AV.gl, AV.isG, Value.oneCell', iv, icells, ii, vv, laidV, mentionV, unk, tb104, g52, G65, pureS, f0, f1, agree_up, agree_refl, v1, v2, v3, s3, s4, s5, u1, u2, u3, u4, u5, ht3, t3]
  by_cases c2 : code = 2
  · subst c2
    by_cases ht : item = each ∧ 0 ≤ item
    · obtain ⟨rfl, ht2⟩ := ht
      simp [evs, resAll, resVal, resOne, freeOp, isA, goOp, appNew, mkOp, gev, Region.binds, aop, aeval, gocall, heapOp, quietOp, ev, constAV, setd, yav, ystop, up, env0, cx_ti, cx_G, cx_pf, ti, globS, glob, pfL, lds, ldc, ldcs_1, ldcs_2, ldcs_3, ldcs_4, ldcs_5, ldcs_7, sts, sth, sls, slc, wr, place, fillOk, fillC, repZ, binI, isDiv, optInt, optI, eksOk, eksEq, EK.ok, EK.eq, AV.i, AV.isI, AV.isInt, AV.str, AV.isStr, AV.ones, AV.isPtr, AV.gl, AV.isG, Value.oneCell', iv, icells, ii, vv, laidV, mentionV, knownV, tb104, G65, pureS, f0, f1, agree_up, agree_refl, v1, v2, v3, s3, s4, s5, u1, u2, u3, u4, u5, ht2, t3, g126, pureH, de126, de101, f2, g1, hsm]
    · by_cases ht3 : item = each
      · have ht2 : ¬ 0 ≤ item := fun h => ht ⟨ht3, h⟩
        subst ht3
        simp [evs, resAll, resVal, resOne, freeOp, isA, goOp, appNew, mkOp, gev, Region.binds, aop, aeval, gocall, heapOp, quietOp, ev, constAV, setd, yav, ystop, up, env0, cx_ti, cx_G, cx_pf, ti, globS, glob, pfL, lds, ldc, ldcs_1, ldcs_2, ldcs_3, ldcs_4, ldcs_5, ldcs_7, sts, sth, sls, slc, wr, place, fillOk, fillC, repZ, binI, isDiv, optInt, optI, eksOk, eksEq, EK.ok, EK.eq, AV.i, AV.isI, AV.isInt, AV.str, AV.isStr, AV.ones, AV.isPtr, AV.gl, AV.isG, Value.oneCell', iv, icells, ii, vv, laidV, mentionV, unk, tb104, G65, pureS, f0, f1, agree_up, agree_refl, v1, v2, v3, s3, s4, s5, u1, u2, u3, u4, u5, ht2, t3, g126, pureH, de126, de101, f2, g1, hsm]
      · simp [evs, resAll, resVal, resOne, freeOp, isA, goOp, appNew, mkOp, gev, Region.binds, aop, aeval, gocall, heapOp, quietOp, ev, constAV, setd, yav, ystop, up, env0, cx_ti, cx_G, cx_pf, ti, globS, glob, pfL, lds, ldc, ldcs_1, ldcs_2, ldcs_3, ldcs_4, ldcs_5, ldcs_7, sts, sth, sls, slc, wr, place, fillOk, fillC, repZ, binI, isDiv, optInt, optI, eksOk, eksEq, EK.ok, EK.eq, AV.i, AV.isI, AV.isInt, AV.str, AV.isStr, AV.ones, AV.isPtr, AV.gl, AV.isG, Value.oneCell', iv, icells, ii, vv, laidV, mentionV, unk, tb104, G65, pureS, f0, f1, agree_up, agree_refl, v1, v2, v3, s3, s4, s5, u1, u2, u3, u4, u5, ht3, t3, g126, pureH, de126, de101, f2, g1, hsm]
  simp [evs, resAll, resVal, resOne, freeOp, isA, goOp, appNew, mkOp, gev, Region.binds, aop, aeval, gocall, heapOp, quietOp, ev, constAV, setd, yav, ystop, up, env0, cx_ti, cx_G, cx_pf, ti, globS, glob, pfL, lds, ldc, ldcs_1, ldcs_2, ldcs_3, ldcs_4, ldcs_5, ldcs_7, sts, sth, sls, slc, wr, place, fillOk, fillC, repZ, binI, isDiv, optInt, optI, eksOk, eksEq, EK.ok, EK.eq, AV.i, AV.isI, AV.isInt, AV.str, AV.isStr, AV.ones, AV.isPtr, AV.gl, AV.isG, Value.oneCell', iv, icells, ii, vv, laidV, mentionV, tb104, G65, pureS, f0, f1, agree_up, agree_refl, v1, v2, v3, s3, s4, s5, u1, u2, u3, u4, u5, c1, c4, c3, c2, hw0, hw1, t3, g127, pureH, de127, de102, f2, g1, hok]
  try (by_cases ht : item = each <;> simp [ht])
end Go.Proofs.YtkfphaphiikloaaDoor

/-
  THE PROGRAMS OF CONDITIONS, PART F: the machine's stack.
-/
namespace Go.Proofs.YtkfphaphiikloaaDoor
open Go Go.Eng

def vcells (v : V) : List AV := [.v (.bool v.k), .v (.int .i64 v.n)]
theorem vc_len (l : List V) : (l.flatMap vcells).length = l.length * 2 := by
  induction l with
  | nil => rfl
  | cons v l ih => simp only [List.flatMap_cons, List.length_append, ih, vcells, List.length_cons, List.length_nil]; omega
theorem vc_app (l : List V) (v : V) : (l ++ [v]).flatMap vcells = l.flatMap vcells ++ [.v (.bool v.k), .v (.int .i64 v.n)] := by simp [vcells]
/-- A stack: nil, or the first cells of a block of one's own. -/
def OwnS (h : Heap) (lo n : Nat) (a : AV) (st : List V) : Prop :=
  (st = [] ∧ a = .v (.slice none 0 0)) ∨ ∃ w u cs, a = .s w u 0 st.length ∧ h w = some ⟨cs, u, true, 2⟩ ∧ (∃ r, cs = st.flatMap vcells ++ r) ∧ lo ≤ w ∧ w < n
/-- What one asks of a stack with something on it. -/
theorem top_facts {h : Heap} {lo n : Nat} {a : AV} {pre : List V} {x : V} (o : OwnS h lo n a (pre ++ [x])) : ∃ w u cs, a = .s w u 0 (pre.length + 1) ∧ h w = some ⟨cs, u, true, 2⟩ ∧ lo ≤ w ∧ w < n ∧
    cs[pre.length * 2]? = some (.v (.bool x.k)) ∧ cs[pre.length * 2 + 1]? = some (.v (.int .i64 x.n)) ∧ pre.length * 2 + 2 ≤ cs.length ∧
    (∀ c d, ∃ r, (cs.set (pre.length * 2) c).set (pre.length * 2 + 1) d = pre.flatMap vcells ++ ([c, d] ++ r)) ∧ ∃ r, cs = (pre ++ [x]).flatMap vcells ++ r := by
  rcases o with ⟨h0, _⟩ | ⟨w, u, cs, h1, h2, ⟨r, rfl⟩, h3, h4⟩
  · simp at h0
  · refine ⟨w, u, _, by simpa using h1, h2, h3, h4, ?_⟩
    have hl := vc_len pre
    have e : (pre ++ [x]).flatMap vcells ++ r = pre.flatMap vcells ++ (.v (.bool x.k) :: .v (.int .i64 x.n) :: r) := by simp [vcells]
    rw [e]
    refine ⟨?_, ?_, ?_, fun c d => ⟨r, ?_⟩, r, e.symm⟩
    · rw [List.getElem?_append_right (by omega), hl]; simp
    · rw [List.getElem?_append_right (by omega), hl]; simp
    · simp only [List.length_append, List.length_cons, hl]; omega
    · rw [← hl, List.set_append_right _ _ (Nat.le_refl _), List.set_append_right _ _ (by omega)]
      simp
theorem top2_facts {h : Heap} {lo n : Nat} {a : AV} {pre : List V} {y x : V} (o : OwnS h lo n a (pre ++ [y] ++ [x])) : ∃ w u cs, a = .s w u 0 (pre.length + 1 + 1) ∧ h w = some ⟨cs, u, true, 2⟩ ∧ lo ≤ w ∧ w < n ∧
    cs[pre.length * 2]? = some (.v (.bool y.k)) ∧ cs[pre.length * 2 + 1]? = some (.v (.int .i64 y.n)) ∧ cs[(pre.length + 1) * 2]? = some (.v (.bool x.k)) ∧ cs[(pre.length + 1) * 2 + 1]? = some (.v (.int .i64 x.n)) ∧ (pre.length + 1) * 2 + 2 ≤ cs.length ∧
    ∀ c d, ∃ r, (cs.set (pre.length * 2) c).set (pre.length * 2 + 1) d = pre.flatMap vcells ++ ([c, d] ++ r) := by
  obtain ⟨w, u, cs, h1, h2, h3, h4, h5, h6, h7, _, r, hr⟩ := top_facts o
  refine ⟨w, u, cs, by simpa using h1, h2, h3, h4, ?_⟩
  have o2 : OwnS (fun _ => some ⟨cs, 0, true, 2⟩) 0 1 (.s 0 0 0 (pre ++ [y]).length) (pre ++ [y]) := .inr ⟨0, 0, cs, rfl, rfl, ⟨vcells x ++ r, by rw [hr]; simp⟩, Nat.le_refl _, by omega⟩
  obtain ⟨w', u', cs', k1, k2, _, _, k5, k6, k7, k8, _⟩ := top_facts o2
  simp only [Option.some.injEq, Blk.mk.injEq, and_true] at k2
  obtain ⟨rfl, _⟩ := k2
  simp only [List.length_append, List.length_cons, List.length_nil] at h5 h6 h7
  exact ⟨k5, k6, by simpa using h5, by simpa using h6, by simpa using h7, k8⟩
theorem snoc {st : List V} (h : 0 < st.length) : ∃ pre x, st = pre ++ [x] := ⟨st.dropLast, st.getLast (List.length_pos_iff.1 h), (List.dropLast_concat_getLast _).symm⟩
theorem snoc2 {st : List V} (h : 2 ≤ st.length) : ∃ pre y x, st = pre ++ [y] ++ [x] := by
  obtain ⟨pre, x, rfl⟩ := snoc (st := st) (by omega)
  obtain ⟨pre', y, rfl⟩ := snoc (st := pre) (by simp at h; omega)
  exact ⟨pre', y, x, rfl⟩

/-- Programs and environments in range. -/
structure PrOk (p : Pr) : Prop where
  len : p.code.length * 40 ≤ 140737488355328
  ok : ∀ i ∈ p.code, InsOk i
  col : ∀ c ∈ p.cols, c.length < big
def okR (q : Pr × En) : Prop := PrOk q.1 ∧ EnOk q.2
def deR (h : Heap) : List AV → Option (Pr × En)
  | [p, e] => match dePr h p, deEn h e with
    | some p, some e => some (p, e)
    | _, _ => none
  | _ => none
theorem deR_out {h : Heap} {args : List AV} {q : Pr × En} (e : deR h args = some q) : ∃ x y, args = [x, y] ∧ dePr h x = some q.1 ∧ deEn h y = some q.2 := by
  unfold deR at e
  split at e
  · split at e
    · rename_i e1 e2
      cases e
      exact ⟨_, _, rfl, e1, e2⟩
    · cases e
  · cases e
theorem deR_sim {h h' : Heap} {args : List AV} {q : Pr × En} (hh : h.sim h') (e : deR h args = some q) : deR h' args = some q := by
  obtain ⟨c, x, rfl, e1, e2⟩ := deR_out e
  simp only [deR, dePr_sim hh e1, deEn_sim hh e2]
theorem deR_mono (h h' : Heap) (args : List AV) (q : Pr × En) (hh : h.le h') (e : deR h args = some q) : deR h' args = some q := deR_sim hh.sim e
def runA (q : V × Int) : AV := .t [vv q.1, .v (.int .i64 q.2)]
def G29 := pureH deR okR fun q => runA (runV q.1 q.2)
/-- The cells of an instruction. -/
theorem ins_at {l : List AV} {o : Nat} {i : Ins} (h : (l.drop o).take 5 = icells i) : l[o]? = some (ii i.code) ∧ l[o + 1]? = some (ii i.item) ∧ l[o + 2]? = some (ii i.col) ∧ l[o + 3]? = some (ii i.n) ∧ l[o + 4]? = some (ii i.to) :=
  ⟨cell_of (c := 0) h rfl (by omega), cell_of (c := 1) h rfl (by omega), cell_of (c := 2) h rfl (by omega), cell_of (c := 3) h rfl (by omega), cell_of (c := 4) h rfl (by omega)⟩
theorem owns_len {h : Heap} {lo n : Nat} {a : AV} {st : List V} (o : OwnS h lo n a st) : a.isS ∧ a.slen = st.length ∧ (∀ g, AV.unc g a = a) := by
  rcases o with ⟨rfl, rfl⟩ | ⟨w, u, cs, rfl, _⟩
  · exact ⟨⟨rfl, rfl⟩, rfl, fun _ => rfl⟩
  · exact ⟨trivial, rfl, fun _ => rfl⟩
end Go.Proofs.YtkfphaphiikloaaDoor

namespace Go.Proofs.YtkfphaphiikloaaDoor
open Go Go.Eng

theorem agr_sim {n : Nat} {h h' : Heap} (hn : ∀ i, n ≤ i → h i = none) (ha : agree n h h') : h.sim h' := fun i k e => ⟨k, by rw [ha i (lt_of e hn)]; exact e, rfl, rfl⟩
theorem agr_le {n : Nat} {h h' : Heap} (hn : ∀ i, n ≤ i → h i = none) (ha : agree n h h') : h.le h' := fun i k e => by rw [ha i (lt_of e hn)]; exact e
theorem rd_agr {α : Type} {d : De α} {h : Heap} {n : Nat} {a : AV} {x : α} (hn : ∀ i, n ≤ i → h i = none) (e : rd d h a = some x) : ∀ h', agree n h h' → rd d h' a = some x := fun _ ha => rd_sim (agr_sim hn ha) e
theorem en_agr {h : Heap} {n : Nat} {a : AV} {x : En} (hn : ∀ i, n ≤ i → h i = none) (e : deEn h a = some x) : ∀ h', agree n h h' → deEn h' a = some x := fun _ ha => deEn_sim (agr_sim hn ha) e
theorem agree_trans {n m : Nat} {a b c : Heap} (h1 : agree n a b) (h2 : agree m b c) (hm : n ≤ m) : agree n a c := fun j hj => by rw [h2 j (by omega), h1 j hj]

/-- A datum's cells: reading and cells are one. -/
structure Flat {α : Type} (sz : Nat) (d : De α) (en : α → List AV) : Prop where
  out : ∀ h l x, d.run h l = some x → l = en x
  inn : ∀ h x, d.run h (en x) = some x
  len : ∀ x, (en x).length = sz
theorem Flat.ev : Flat 11 dEv ecells := ⟨fun _ _ _ e => deEc_out e, fun _ _ => rfl, fun _ => rfl⟩
theorem Flat.ins : Flat 5 dIns icells := ⟨fun _ _ _ e => deIc_out e, fun _ _ => rfl, fun _ => rfl⟩
theorem int_out (h : Heap) (l : List AV) (x : Int) (e : (De.int .i64).run h l = some x) : l = [ii x] := by
  simp only [De.int] at e
  split at e
  · split at e
    · rename_i hk
      cases e
      rw [hk]
      rfl
    · cases e
  · cases e
theorem Flat.int : Flat 1 (De.int .i64) (fun x => [ii x]) := ⟨int_out, fun _ _ => rfl, fun _ => rfl⟩
theorem flat_len {α : Type} {sz : Nat} {d : De α} {en : α → List AV} (f : Flat sz d en) (l : List α) : (l.flatMap en).length = l.length * sz := by
  induction l with
  | nil => simp
  | cons x l ih => simp only [List.flatMap_cons, List.length_append, f.len, ih, List.length_cons, Nat.succ_mul]; omega
theorem flat_drop {α : Type} {sz : Nat} {d : De α} {en : α → List AV} (f : Flat sz d en) : ∀ (l : List α) (i : Nat) (hi : i < l.length) (r : List AV), ((l.flatMap en ++ r).drop (i * sz)).take sz = en l[i]
  | [], _, h, _ => by simp at h
  | x :: l, 0, _, r => by
    rw [Nat.zero_mul, List.drop_zero, List.flatMap_cons, List.append_assoc, ← f.len x, List.take_left']
    · rfl
    · rfl
  | x :: l, i + 1, h, r => by
    have e : (i + 1) * sz = (en x).length + i * sz := by rw [f.len, Nat.succ_mul]; omega
    rw [List.flatMap_cons, List.append_assoc, e, List.drop_append, List.getElem_cons_succ]
    have : List.drop ((en x).length + i * sz) (en x) = [] := List.drop_eq_nil_of_le (by omega)
    rw [this, List.nil_append, show (en x).length + i * sz - (en x).length = i * sz by omega]
    exact flat_drop f l i (by simpa using h) r
/-- A row of them is read. -/
theorem flat_in {α : Type} {sz : Nat} {d : De α} {en : α → List AV} (f : Flat sz d en) {h : Heap} {id ver : Nat} {k : Blk} {l : List α} (hk : h id = some k) (hv : k.ver = ver) {r : List AV} (hc : k.cells = l.flatMap en ++ r) : rd (De.sl sz d) h (.s id ver 0 l.length) = some l := by
  subst hv
  refine De.sl_in hk (by rw [hc, List.length_append, flat_len f]; omega) fun i hi => ?_
  rw [Nat.zero_add, hc, flat_drop f l i hi]
  exact f.inn h _
/-- A row that is read is theirs. -/
theorem flat_at {α : Type} {sz : Nat} {d : De α} {en : α → List AV} (f : Flat sz d en) {h : Heap} {a : AV} {l : List α} (e : rd (De.sl sz d) h a = some l) : (l = [] ∧ (a = .v (.slice none 0 0) ∨ a = .e)) ∨
    ∃ id off k, a = .s id k.ver off l.length ∧ h id = some k ∧ off + l.length * sz ≤ k.cells.length ∧ (k.cells.drop off).take (l.length * sz) = l.flatMap en := by
  rcases sl_at e with h0 | ⟨id, off, k, h1, h2, h3, h4⟩
  · exact .inl h0
  · refine .inr ⟨id, off, k, h1, h2, h3, ?_⟩
    have key : ∀ (m : List α) (o : Nat), o + m.length * sz ≤ k.cells.length → (∀ i (hi : i < m.length), d.run h ((k.cells.drop (o + i * sz)).take sz) = some m[i]) → (k.cells.drop o).take (m.length * sz) = m.flatMap en := fun m => by
      induction m with
      | nil => intro o _ _; simp
      | cons x m ih =>
        intro o ho hm
        have h0 := f.out _ _ _ (hm 0 (by simp))
        simp only [Nat.zero_mul, Nat.add_zero, List.getElem_cons_zero] at h0
        rw [List.length_cons, Nat.succ_mul] at ho
        have h5 := ih (o + sz) (by omega) fun i hi => by
          have := hm (i + 1) (by simpa using hi)
          rw [Nat.succ_mul, show o + (i * sz + sz) = o + sz + i * sz by omega] at this
          simpa using this
        rw [List.flatMap_cons, ← h0, ← h5, List.length_cons, Nat.succ_mul, Nat.add_comm (m.length * sz), List.take_add, List.drop_drop]
    exact key l off h3 h4
/-- What append takes of it. -/
theorem flat_app {α : Type} {sz : Nat} {d : De α} {en : α → List AV} (f : Flat sz d en) {h : Heap} {a : AV} {l : List α} (e : rd (De.sl sz d) h a = some l) : sls h a 0 (l.length * sz) ∧ slc h a 0 (l.length * sz) = l.flatMap en := by
  rcases flat_at f e with ⟨rfl, rfl | rfl⟩ | ⟨id, off, k, rfl, h2, h3, h4⟩
  · simp [sls, slc]
  · simp [sls, slc]
  · simp only [sls, slc, h2, Nat.zero_add, Nat.add_zero, true_and]
    exact ⟨h3, h4⟩
/-- The cells of a list of lists of one's own. -/
def lcells {α : Type} (f : Nat → Nat) (ll : List (List α)) (j : Nat) : List AV := (List.range j).map fun i => .s (f i) 1 0 (ll.getD i []).length
theorem lcells_len {α : Type} (f : Nat → Nat) (ll : List (List α)) (j : Nat) : (lcells f ll j).length = j := by simp [lcells]
theorem lcells_succ {α : Type} (f : Nat → Nat) (ll : List (List α)) (j : Nat) : lcells f ll (j + 1) = lcells f ll j ++ [.s (f j) 1 0 (ll.getD j []).length] := by simp [lcells, List.range_succ]
theorem lcells_congr {α : Type} {f g : Nat → Nat} (ll : List (List α)) {j : Nat} (h : ∀ i, i < j → f i = g i) : lcells f ll j = lcells g ll j := by
  unfold lcells
  apply List.map_congr_left
  intro i hi
  rw [h i (List.mem_range.1 hi)]
/-- The first j lists lie in blocks of one's own, from lo on, below hi. -/
structure OwnF {α : Type} (en : α → List AV) (sz : Nat) (h : Heap) (lo hi : Nat) (f : Nat → Nat) (ll : List (List α)) (j : Nat) : Prop where
  rng : ∀ i, i < j → lo ≤ f i ∧ f i < hi
  blk : ∀ i, i < j → h (f i) = some ⟨(ll.getD i []).flatMap en, 1, true, sz⟩
  inj : ∀ i k, i < j → k < j → f i = f k → i = k
/-- A list of lists of one's own. -/
def OwnL {α : Type} (en : α → List AV) (sz : Nat) (h : Heap) (lo hi : Nat) (z : AV) (ll : List (List α)) (j : Nat) : Prop :=
  ∃ f, OwnF en sz h lo hi f ll j ∧ ((j = 0 ∧ z = .v (.slice none 0 0)) ∨ ∃ w u, z = .s w u 0 j ∧ h w = some ⟨lcells f ll j, u, true, 1⟩ ∧ lo ≤ w ∧ w < hi ∧ ∀ i, i < j → f i ≠ w)
theorem OwnF.congr {α : Type} {en : α → List AV} {sz : Nat} {h h' : Heap} {lo hi hi' : Nat} {f : Nat → Nat} {ll : List (List α)} {j : Nat} (o : OwnF en sz h lo hi f ll j) (hh : ∀ q, lo ≤ q → q < hi → h' q = h q) (hi2 : hi ≤ hi') : OwnF en sz h' lo hi' f ll j :=
  ⟨fun i hi => ⟨(o.rng i hi).1, by have := (o.rng i hi).2; omega⟩, fun i hi => by rw [hh _ (o.rng i hi).1 (o.rng i hi).2]; exact o.blk i hi, o.inj⟩
theorem OwnL.congr {α : Type} {en : α → List AV} {sz : Nat} {h h' : Heap} {lo hi hi' : Nat} {z : AV} {ll : List (List α)} {j : Nat} (o : OwnL en sz h lo hi z ll j) (hh : ∀ q, lo ≤ q → q < hi → h' q = h q) (hi2 : hi ≤ hi') : OwnL en sz h' lo hi' z ll j := by
  obtain ⟨f, o1, o2⟩ := o
  refine ⟨f, o1.congr hh hi2, ?_⟩
  rcases o2 with h0 | ⟨w, u, h1, h2, h3, h4, h5⟩
  · exact .inl h0
  · exact .inr ⟨w, u, h1, by rw [hh _ h3 h4]; exact h2, h3, by omega, h5⟩
theorem OwnL.lo {α : Type} {en : α → List AV} {sz : Nat} {h : Heap} {lo lo' hi : Nat} {z : AV} {ll : List (List α)} {j : Nat} (o : OwnL en sz h lo hi z ll j) (hl : lo' ≤ lo) : OwnL en sz h lo' hi z ll j := by
  obtain ⟨f, o1, o2⟩ := o
  refine ⟨f, ⟨fun i hi => ⟨by have := (o1.rng i hi).1; omega, (o1.rng i hi).2⟩, o1.blk, o1.inj⟩, ?_⟩
  rcases o2 with h0 | ⟨w, u, h1, h2, h3, h4, h5⟩
  · exact .inl h0
  · exact .inr ⟨w, u, h1, h2, by omega, h4, h5⟩
/-- It is read. -/
theorem OwnL.rd {α : Type} {d : De α} {en : α → List AV} {sz : Nat} (fl : Flat sz d en) {h : Heap} {lo hi : Nat} {z : AV} {ll : List (List α)} (o : OwnL en sz h lo hi z ll ll.length) : rd (De.sl 1 (De.sl sz d)) h z = some ll := by
  obtain ⟨f, o1, o2⟩ := o
  rcases o2 with ⟨h0, rfl⟩ | ⟨w, u, rfl, h2, h3, h4, h5⟩
  · have : ll = [] := List.eq_nil_of_length_eq_zero h0
    subst this
    rfl
  · have e1 : (⟨lcells f ll ll.length, u, true, 1⟩ : Blk).ver = u := rfl
    refine De.sl_in (k := ⟨lcells f ll ll.length, u, true, 1⟩) h2 (by simp only [lcells_len]; omega) fun i hi => ?_
    have hc : (lcells f ll ll.length)[i]? = some (.s (f i) 1 0 (ll.getD i []).length) := by simp [lcells, hi]
    have hlt : i < (lcells f ll ll.length).length := by rw [lcells_len]; exact hi
    simp only [Nat.zero_add, Nat.mul_one]
    rw [List.take_one, List.head?_drop, hc]
    have hg : ll.getD i [] = ll[i] := by simp [List.getD_eq_getElem?_getD, hi]
    have hb := o1.blk i hi
    rw [hg] at hb
    rw [hg]
    exact flat_in fl hb rfl (r := []) (by simp)
end Go.Proofs.YtkfphaphiikloaaDoor
