/-
  TREES, PART J: an attribute of an event of a list, on both sides.
-/
import Derived.Test.YtkfphaphiikloaaDoorX20
set_option linter.unusedSimpArgs false
set_option linter.unusedVariables false
set_option linter.constructorNameAsVariable false
namespace Go.Proofs.YtkfphaphiikloaaDoor
open Go Go.Eng

/-- What an evaluator holds. -/
structure Evr where
  sc : List Ty
  t : List Nd
  its : List Int
  en : En
def deEvc (h : Heap) : List AV → Option Evr
  | [a, b, c, d, .v (.int .i64 each), .v (.int .i64 pos)] => match rd dTys h a, rd dNs h b, rd dIs h c, rd dEss h d with
    | some x, some y, some z, some w => some ⟨x, y, z, ⟨w, each, pos⟩⟩
    | _, _, _, _ => none
  | _ => none
theorem deEvc_out {h : Heap} {l : List AV} {q : Evr} (e : deEvc h l = some q) : ∃ a b c d, l = [a, b, c, d, ii q.en.each, ii q.en.pos] ∧ rd dTys h a = some q.sc ∧ rd dNs h b = some q.t ∧ rd dIs h c = some q.its ∧ rd dEss h d = some q.en.ls := by
  unfold deEvc at e
  split at e
  · split at e
    · rename_i e1 e2 e3 e4
      cases e
      exact ⟨_, _, _, _, rfl, e1, e2, e3, e4⟩
    · cases e
  · cases e
theorem deEvc_in {h : Heap} {a b c d : AV} {q : Evr} (h1 : rd dTys h a = some q.sc) (h2 : rd dNs h b = some q.t) (h3 : rd dIs h c = some q.its) (h4 : rd dEss h d = some q.en.ls) : deEvc h [a, b, c, d, .v (.int .i64 q.en.each), .v (.int .i64 q.en.pos)] = some q := by
  simp only [deEvc, h1, h2, h3, h4]
def deEvr (h : Heap) : AV → Option Evr
  | .p id v 0 => match h id with
    | some k => if k.ver = v then deEvc h k.cells else none
    | none => none
  | _ => none
theorem deEvr_out {h : Heap} {x : AV} {q : Evr} (e : deEvr h x = some q) : ∃ id a b c d ver own esz, x = .p id ver 0 ∧ h id = some ⟨[a, b, c, d, .v (.int .i64 q.en.each), .v (.int .i64 q.en.pos)], ver, own, esz⟩ ∧ rd dTys h a = some q.sc ∧ rd dNs h b = some q.t ∧ rd dIs h c = some q.its ∧ rd dEss h d = some q.en.ls := by
  unfold deEvr at e
  split at e
  · split at e
    · rename_i k hk
      split at e
      · rename_i hv
        obtain ⟨a, b, c, d, h1, h2, h3, h4, h5⟩ := deEvc_out e
        obtain ⟨cells, ver, own, esz⟩ := k
        simp only [] at h1 hv
        subst h1; subst hv
        exact ⟨_, a, b, c, d, _, own, esz, rfl, hk, h2, h3, h4, h5⟩
      · cases e
    · cases e
  · cases e
theorem deEvr_in {h : Heap} {id ver : Nat} {own : Bool} {esz : Nat} {a b c d : AV} {q : Evr} (hk : h id = some ⟨[a, b, c, d, .v (.int .i64 q.en.each), .v (.int .i64 q.en.pos)], ver, own, esz⟩) (h1 : rd dTys h a = some q.sc) (h2 : rd dNs h b = some q.t) (h3 : rd dIs h c = some q.its) (h4 : rd dEss h d = some q.en.ls) : deEvr h (.p id ver 0) = some q := by
  simp only [deEvr, hk, if_true, deEvc_in h1 h2 h3 h4]
theorem deEvr_sim {h h' : Heap} (hh : h.sim h') {x : AV} {q : Evr} (e : deEvr h x = some q) : deEvr h' x = some q := by
  obtain ⟨id, a, b, c, d, ver, own, esz, rfl, hk, r1, r2, r3, r4⟩ := deEvr_out e
  obtain ⟨⟨cells, ver', own', esz'⟩, hk', h1, h2⟩ := hh _ _ hk
  simp only [] at h1 h2
  subst h1; subst h2
  exact deEvr_in hk' (rd_sim hh r1) (rd_sim hh r2) (rd_sim hh r3) (rd_sim hh r4)
theorem evr_agree {h : Heap} {n : Nat} {a : AV} {x : Evr} (hn : ∀ i, n ≤ i → h i = none) (e : deEvr h a = some x) : ∀ h', agree n (roH h) h' → deEvr h' a = some x := fun _ ha => deEvr_sim (agree_sim hn ha) e
def smallR (sc : List Ty) (l : List Ev) : Prop := smallS sc ∧ l.length < big
def de109 (h : Heap) : List AV → Option (Evr × List Ev × Int × ByteArray)
  | [p, a, .v (.int .i64 x), .v (.string s)] => match deEvr h p, rd dEs h a with
    | some q, some l => some (q, l, x, s)
    | _, _ => none
  | _ => none
theorem de109_out {h : Heap} {args : List AV} {q : Evr × List Ev × Int × ByteArray} (e : de109 h args = some q) : ∃ p a, args = [p, a, ii q.2.2.1, ss q.2.2.2] ∧ deEvr h p = some q.1 ∧ rd dEs h a = some q.2.1 := by
  unfold de109 at e
  split at e
  · split at e
    · rename_i e1 e2
      cases e
      exact ⟨_, _, rfl, e1, e2⟩
    · cases e
  · cases e
theorem de109_mono (h h' : Heap) (args : List AV) (q : Evr × List Ev × Int × ByteArray) (hh : h.le h') (e : de109 h args = some q) : de109 h' args = some q := by
  obtain ⟨p, a, rfl, e1, e2⟩ := de109_out e
  simp only [de109, ii, ss, deEvr_sim hh.sim e1, rd_mono hh e2]
def G109 := pureH de109 (fun q => smallR q.1.sc q.2.1) fun q => vv (oneV q.2.1 q.2.2.1 (colOf q.1.sc q.2.2.2))
def tb109 : List (FuncId × (List AV → Heap → PRes)) := [(121, GAt), (124, g124)]
set_option maxRecDepth 100000 in
set_option maxHeartbeats 1000000 in
theorem P109 : P0 [] 109 G109 := by
  refine mkH 4 (S := []) (l := tb109) (tb_cons P121 (tb_cons p124 tb_nil)) Tryd.func109 rfl (by kernel_rfl) de109_mono (fun h l x e => by obtain ⟨p, a, rfl, _⟩ := de109_out e; exact Nat.le_refl _) (fun a => rfl) (fun args q h n e hp hn => ?_)
  obtain ⟨q, l, i, attr⟩ := q
  obtain ⟨p, a, rfl, e1, e2⟩ := de109_out e
  simp only [] at e1 e2 ⊢
  obtain ⟨hp1, hp2⟩ := hp
  simp only [] at hp1 hp2
  obtain ⟨id', c1, c2, c3, c4, ver', own', esz', rfl, hk', r1, r2, r3, r4⟩ := deEvr_out e1
  obtain ⟨s1, s2, s3, s4, s5⟩ := sl_is e2
  obtain ⟨t1, t2, t3, t4, t5⟩ := sl_is r1
  by_cases hi : i < 0
  · simp [evs, resAll, resVal, resOne, freeOp, isA, goOp, appNew, mkOp, gev, Region.binds, aop, aeval, gocall, heapOp, quietOp, ev, constAV, setd, yav, ystop, up, env0, cx_ti, cx_G, cx_pf, ti, globS, glob, pfL, lds, ldc, ldcs_1, ldcs_2, ldcs_3, ldcs_4, ldcs_5, ldcs_7, sts, sth, sls, slc, wr, place, fillOk, fillC, repZ, binI, isDiv, optInt, optI, eksOk, eksEq, EK.ok, EK.eq, AV.i, AV.isI, AV.isInt, AV.str, AV.isStr, AV.ones, AV.isPtr, AV.gl, AV.isG, Value.oneCell', ii, vv, one_low _ hi, unk, hi, s1, s2, s3]
  obtain ⟨j, rfl⟩ : ∃ j : Nat, i = j := ⟨i.toNat, by omega⟩
  by_cases hj : j < l.length
  · rcases es_at e2 with ⟨h0, _⟩ | ⟨id, off, k, rfl, hk, ho, hat⟩
    · rw [h0] at hj; simp at hj
    have hr := hat j hj
    have hro := ro_at hk
    have h0 := ne_of hk hn 0
    have hro' := ro_at hk'
    have h0' := ne_of hk' hn 0
    simp only [Nat.add_zero] at h0 h0' hro'
    have hle : ∀ (X : Ctx) (h' : Heap), h' id = some ⟨k.cells, k.ver, false, k.esz⟩ → ldcs X h' (.p id k.ver (off + j * 11)) 0 11 = ecells l[j] := fun X h' e => ldcs_ev e hr
    have hw : off + (j * 11 + 11) ≤ k.cells.length := by omega
    have hw2 : off + (j * 11 + 3) ≤ k.cells.length := by omega
    have hty := cell_of (c := 2) hr rfl (by omega)
    rw [Nat.add_assoc] at hty
    have hj' : ¬ l.length ≤ j := by omega
    have gsc : ∀ h', agree n (roH h) h' → deSc h' (.g [c1]) = some q.sc := fun h' ha => rd_agree hn r1 h' ha
    have hv := one_col (sc := q.sc) (name := attr) hj
    rw [hv]
    generalize l[j] = ev1 at *
    simp [evs, resAll, resVal, resOne, freeOp, isA, goOp, appNew, mkOp, gev, Region.binds, aop, aeval, gocall, heapOp, quietOp, ev, constAV, setd, yav, ystop, up, env0, cx_ti, cx_G, cx_pf, ti, globS, glob, pfL, lds, ldc, ldcs_1, ldcs_2, ldcs_3, ldcs_4, ldcs_5, ldcs_7, sts, sth, sls, slc, wr, place, fillOk, fillC, repZ, binI, isDiv, optInt, optI, eksOk, eksEq, EK.ok, EK.eq, AV.i, AV.isI, AV.isInt, AV.str, AV.isStr, AV.ones, AV.isPtr, AV.gl, AV.isG, Value.oneCell', ii, ss, vv, hj, hj', hro, h0, hro', h0', hle, hw, hw2, hty, tb109, GAt, pureH, deAt, gsc, agree_up, agree_refl, hp1, g124, pure2, deE_ee, deI]
  · have hj' : l.length ≤ j := by omega
    simp [evs, resAll, resVal, resOne, freeOp, isA, goOp, appNew, mkOp, gev, Region.binds, aop, aeval, gocall, heapOp, quietOp, ev, constAV, setd, yav, ystop, up, env0, cx_ti, cx_G, cx_pf, ti, globS, glob, pfL, lds, ldc, ldcs_1, ldcs_2, ldcs_3, ldcs_4, ldcs_5, ldcs_7, sts, sth, sls, slc, wr, place, fillOk, fillC, repZ, binI, isDiv, optInt, optI, eksOk, eksEq, EK.ok, EK.eq, AV.i, AV.isI, AV.isInt, AV.str, AV.isStr, AV.ones, AV.isPtr, AV.gl, AV.isG, Value.oneCell', ii, vv, one_high _ (show (l.length : Int) ≤ (j : Int) by omega), unk, hj', s1, s2, s3]
/-! ### the document's -/
def de112 (h : Heap) : List AV → Option (List Ty × List Ev × Int × ByteArray)
  | [x, a, .v (.int .i64 i), .v (.string s)] => match deSc h x, rd dEs h a with
    | some q, some l => some (q, l, i, s)
    | _, _ => none
  | _ => none
theorem de112_out {h : Heap} {args : List AV} {q : List Ty × List Ev × Int × ByteArray} (e : de112 h args = some q) : ∃ p a, args = [p, a, ii q.2.2.1, ss q.2.2.2] ∧ deSc h p = some q.1 ∧ rd dEs h a = some q.2.1 := by
  unfold de112 at e
  split at e
  · split at e
    · rename_i e1 e2
      cases e
      exact ⟨_, _, rfl, e1, e2⟩
    · cases e
  · cases e
theorem de112_mono (h h' : Heap) (args : List AV) (q : List Ty × List Ev × Int × ByteArray) (hh : h.le h') (e : de112 h args = some q) : de112 h' args = some q := by
  obtain ⟨p, a, rfl, e1, e2⟩ := de112_out e
  simp only [de112, ii, ss, deSc_sim hh.sim e1, rd_mono hh e2]
def G112 := pureH de112 (fun q => smallR q.1 q.2.1) fun q => vv (oneV q.2.1 q.2.2.1 (colOf q.1 q.2.2.2))
def tb112 : List (FuncId × (List AV → Heap → PRes)) := [(60, GAt), (63, g52), (111, g53)]
set_option maxRecDepth 100000 in
set_option maxHeartbeats 1000000 in
theorem P112 : P0 [] 112 G112 := by
  refine mkH 4 (S := []) (l := tb112) (tb_cons P60 (tb_cons p52 (tb_cons p53 tb_nil))) Tryd.func112 rfl (by kernel_rfl) de112_mono (fun h l x e => by obtain ⟨p, a, rfl, _⟩ := de112_out e; exact Nat.le_refl _) (fun a => rfl) (fun args q h n e hp hn => ?_)
  obtain ⟨sc, l, i, attr⟩ := q
  obtain ⟨x, a, rfl, e1, e2⟩ := de112_out e
  simp only [] at e1 e2 ⊢
  obtain ⟨hp1, hp2⟩ := hp
  simp only [] at hp1 hp2
  obtain ⟨c1, rfl, r1⟩ := deSc_out e1
  obtain ⟨s1, s2, s3, s4, s5⟩ := sl_is e2
  obtain ⟨t1, t2, t3, t4, t5⟩ := sl_is r1
  by_cases hi : i < 0
  · simp [evs, resAll, resVal, resOne, freeOp, isA, goOp, appNew, mkOp, gev, Region.binds, aop, aeval, gocall, heapOp, quietOp, ev, constAV, setd, yav, ystop, up, env0, cx_ti, cx_G, cx_pf, ti, globS, glob, pfL, lds, ldc, ldcs_1, ldcs_2, ldcs_3, ldcs_4, ldcs_5, ldcs_7, sts, sth, sls, slc, wr, place, fillOk, fillC, repZ, binI, isDiv, optInt, optI, eksOk, eksEq, EK.ok, EK.eq, AV.i, AV.isI, AV.isInt, AV.str, AV.isStr, AV.ones, AV.isPtr, AV.gl, AV.isG, Value.oneCell', ii, vv, one_low _ hi, unk, hi, s1, s2, s3, t4, tb112, g52]
  obtain ⟨j, rfl⟩ : ∃ j : Nat, i = j := ⟨i.toNat, by omega⟩
  by_cases hj : j < l.length
  · rcases es_at e2 with ⟨h0, _⟩ | ⟨id, off, k, rfl, hk, ho, hat⟩
    · rw [h0] at hj; simp at hj
    have hr := hat j hj
    have hro := ro_at hk
    have h0 := ne_of hk hn
    have h00 := ne_of hk hn 0
    simp only [Nat.add_zero] at h00
    have hle : ∀ (X : Ctx) (h' : Heap), h' id = some ⟨k.cells, k.ver, false, k.esz⟩ → ldcs X h' (.p id k.ver (off + j * 11)) 0 11 = ecells l[j] := fun X h' e => ldcs_ev e hr
    have hw : off + (j * 11 + 11) ≤ k.cells.length := by omega
    have hj' : ¬ l.length ≤ j := by omega
    have gsc : ∀ h', agree n (roH h) h' → deSc h' (.g [c1]) = some sc := fun h' ha => rd_agree hn r1 h' ha
    have hv := one_col (sc := sc) (name := attr) hj
    rw [hv]
    have v1 : n ≤ n + 1 := by omega
    have v2 : n ≤ n + 2 := by omega
    have v3 : n ≤ n + 3 := by omega
    generalize l[j] = ev1 at *
    generalize hpl : attrOf sc ev1.ty attr = pl at *
    by_cases h1 : pl = -2
    · subst h1
      simp [evs, resAll, resVal, resOne, freeOp, isA, goOp, appNew, mkOp, gev, Region.binds, aop, aeval, gocall, heapOp, quietOp, ev, constAV, setd, yav, ystop, up, env0, cx_ti, cx_G, cx_pf, ti, globS, glob, pfL, lds, ldc, ldcs_1, ldcs_2, ldcs_3, ldcs_4, ldcs_5, ldcs_7, sts, sth, sls, slc, wr, place, fillOk, fillC, repZ, binI, isDiv, optInt, optI, eksOk, eksEq, EK.ok, EK.eq, AV.i, AV.isI, AV.isInt, AV.str, AV.isStr, AV.ones, AV.isPtr, AV.gl, AV.isG, Value.oneCell', ii, uu, ss, vv, hj, hj', hro, h0, h00, hle, hw, ecells, t4, tb112, GAt, pureH, deAt, gsc, agree_up, agree_refl, v1, v2, v3, hp1, hpl, g52, g53, pure1, deI, valueV, knownV]
    · by_cases h2 : 0 ≤ pl ∧ pl < 8
      · have : pl = 0 ∨ pl = 1 ∨ pl = 2 ∨ pl = 3 ∨ pl = 4 ∨ pl = 5 ∨ pl = 6 ∨ pl = 7 := by omega
        rcases this with rfl | rfl | rfl | rfl | rfl | rfl | rfl | rfl <;> simp [evs, resAll, resVal, resOne, freeOp, isA, goOp, appNew, mkOp, gev, Region.binds, aop, aeval, gocall, heapOp, quietOp, ev, constAV, setd, yav, ystop, up, env0, cx_ti, cx_G, cx_pf, ti, globS, glob, pfL, lds, ldc, ldcs_1, ldcs_2, ldcs_3, ldcs_4, ldcs_5, ldcs_7, sts, sth, sls, slc, wr, place, fillOk, fillC, repZ, binI, isDiv, optInt, optI, eksOk, eksEq, EK.ok, EK.eq, AV.i, AV.isI, AV.isInt, AV.str, AV.isStr, AV.ones, AV.isPtr, AV.gl, AV.isG, Value.oneCell', ii, uu, ss, vv, hj, hj', hro, h0, h00, hle, hw, ecells, t4, tb112, GAt, pureH, deAt, gsc, agree_up, agree_refl, v1, v2, v3, hp1, hpl, g52, g53, pure1, deI, valueV, knownV, Ev.attr]
      · by_cases h3 : 0 ≤ pl
        · have h4 : ¬ pl < 8 := fun h => h2 ⟨h3, h⟩
          simp [evs, resAll, resVal, resOne, freeOp, isA, goOp, appNew, mkOp, gev, Region.binds, aop, aeval, gocall, heapOp, quietOp, ev, constAV, setd, yav, ystop, up, env0, cx_ti, cx_G, cx_pf, ti, globS, glob, pfL, lds, ldc, ldcs_1, ldcs_2, ldcs_3, ldcs_4, ldcs_5, ldcs_7, sts, sth, sls, slc, wr, place, fillOk, fillC, repZ, binI, isDiv, optInt, optI, eksOk, eksEq, EK.ok, EK.eq, AV.i, AV.isI, AV.isInt, AV.str, AV.isStr, AV.ones, AV.isPtr, AV.gl, AV.isG, Value.oneCell', ii, uu, ss, vv, hj, hj', hro, h0, h00, hle, hw, ecells, t4, tb112, GAt, pureH, deAt, gsc, agree_up, agree_refl, v1, v2, v3, hp1, hpl, g52, g53, pure1, deI, valueV, unk, h1, h3, h4]
        · simp [evs, resAll, resVal, resOne, freeOp, isA, goOp, appNew, mkOp, gev, Region.binds, aop, aeval, gocall, heapOp, quietOp, ev, constAV, setd, yav, ystop, up, env0, cx_ti, cx_G, cx_pf, ti, globS, glob, pfL, lds, ldc, ldcs_1, ldcs_2, ldcs_3, ldcs_4, ldcs_5, ldcs_7, sts, sth, sls, slc, wr, place, fillOk, fillC, repZ, binI, isDiv, optInt, optI, eksOk, eksEq, EK.ok, EK.eq, AV.i, AV.isI, AV.isInt, AV.str, AV.isStr, AV.ones, AV.isPtr, AV.gl, AV.isG, Value.oneCell', ii, uu, ss, vv, hj, hj', hro, h0, h00, hle, hw, ecells, t4, tb112, GAt, pureH, deAt, gsc, agree_up, agree_refl, v1, v2, v3, hp1, hpl, g52, g53, pure1, deI, valueV, unk, h1, h3]
  · have hj' : l.length ≤ j := by omega
    simp [evs, resAll, resVal, resOne, freeOp, isA, goOp, appNew, mkOp, gev, Region.binds, aop, aeval, gocall, heapOp, quietOp, ev, constAV, setd, yav, ystop, up, env0, cx_ti, cx_G, cx_pf, ti, globS, glob, pfL, lds, ldc, ldcs_1, ldcs_2, ldcs_3, ldcs_4, ldcs_5, ldcs_7, sts, sth, sls, slc, wr, place, fillOk, fillC, repZ, binI, isDiv, optInt, optI, eksOk, eksEq, EK.ok, EK.eq, AV.i, AV.isI, AV.isInt, AV.str, AV.isStr, AV.ones, AV.isPtr, AV.gl, AV.isG, Value.oneCell', ii, vv, one_high _ (show (l.length : Int) ≤ (j : Int) by omega), unk, hj', s1, s2, s3, t4, tb112, g52]
end Go.Proofs.YtkfphaphiikloaaDoor

/-
  TREES, PART N: aggregates over a list, on both sides.
-/
namespace Go.Proofs.YtkfphaphiikloaaDoor
open Go Go.Eng

def okF (sc : List Ty) (l : List Ev) : Prop := smallS sc ∧ l.length ≤ 2147483647 ∧ ∀ e ∈ l, EvOk e
def de110 (h : Heap) : List AV → Option (Evr × List Ev × Nd)
  | [p, a, x] => match deEvr h p, rd dEs h a, deN x with
    | some q, some l, some x => some (q, l, x)
    | _, _, _ => none
  | _ => none
theorem de110_out {h : Heap} {args : List AV} {q : Evr × List Ev × Nd} (e : de110 h args = some q) : ∃ p a, args = [p, a, nn q.2.2] ∧ deEvr h p = some q.1 ∧ rd dEs h a = some q.2.1 := by
  unfold de110 at e
  split at e
  · split at e
    · rename_i e1 e2 e3
      cases e
      exact ⟨_, _, by rw [deN_out e3], e1, e2⟩
    · cases e
  · cases e
theorem de110_mono (h h' : Heap) (args : List AV) (q : Evr × List Ev × Nd) (hh : h.le h') (e : de110 h args = some q) : de110 h' args = some q := by
  obtain ⟨p, a, rfl, e1, e2⟩ := de110_out e
  simp only [de110, deEvr_sim hh.sim e1, rd_mono hh e2, nn, deN_nn]
def G110 := pureH de110 (fun q => okF q.1.sc q.2.1) fun q => vv (allV q.2.1 (colOf q.1.sc q.2.2.attr) q.2.2.op)
def tb110 : List (FuncId × (List AV → Heap → PRes)) := [(109, G109), (125, g33)]
set_option maxRecDepth 100000 in
set_option maxHeartbeats 2000000 in
theorem P110 : P0 [1] 110 G110 := by
  refine mkH 3 (S := [1]) (l := tb110) (tb_cons P109 (tb_cons p33 tb_nil)) Tryd.func110 rfl (by kernel_rfl) de110_mono (fun h l x e => by obtain ⟨p, a, rfl, _⟩ := de110_out e; exact Nat.le_refl _) (fun a => rfl) (fun args q h n e hp hn => ?_)
  obtain ⟨v, l, ⟨op, num, var, attr, xa, xb⟩⟩ := q
  obtain ⟨p, a, rfl, e0, e1⟩ := de110_out e
  obtain ⟨hsc, hl, hev⟩ := hp
  simp only [] at e0 e1 hsc hl hev ⊢
  obtain ⟨s1, s2, s3, s4, s5⟩ := sl_is e1
  have g0 := evr_agree hn e0
  have g1 := rd_agree hn e1
  obtain ⟨id', c1, c2, c3, c4, ver', own', esz', hpp, _⟩ := deEvr_out e0
  have p1 : p.one ∧ (∀ g, AV.unc g p = p) ∧ p.cells = [p] ∧ p.isPtr := by rw [hpp]; exact ⟨trivial, fun _ => rfl, rfl, trivial⟩
  obtain ⟨p1, p2, p3, p4⟩ := p1
  generalize hc' : colOf v.sc attr = c' at *
  have key : ∀ e : Nat → AV, e 0 = p → e 1 = a → e 2 = nn ⟨op, num, var, attr, xa, xb⟩ → awp (cx [1] (pfL tb110)) (Tryd.f110.body.getD .skip) (finQ (cx [1] (pfL tb110)) Tryd.f110 fun z _ _ => z = vv (allV l c' op)) ⟨e, roH h, n⟩ := fun e q0 q1 q2 => by
    simp [evs, resAll, resVal, resOne, freeOp, isA, goOp, appNew, mkOp, gev, Region.binds, aop, aeval, gocall, heapOp, quietOp, ev, constAV, setd, yav, ystop, up, env0, cx_ti, cx_G, cx_pf, ti, globS, glob, pfL, lds, ldc, ldcs_1, ldcs_2, ldcs_3, ldcs_4, ldcs_5, ldcs_7, sts, sth, sls.eq_1, slc.eq_1, wr, place, fillOk, fillC, repZ, binI, isDiv, optInt, optI, eksOk, eksEq, EK.ok, EK.eq, AV.i, AV.isI, AV.isInt, AV.str, AV.isStr, AV.ones, AV.isPtr, AV.gl, AV.isG, Value.oneCell', Tryd.f110, q0, q1, q2, nn, ncells, ii, ss, s1, s2, s3]
    refine awp_loop (fun s => ∃ j, j ≤ l.length ∧ s.e 0 = p ∧ s.e 1 = a ∧ s.e 5 = .p n 0 0 ∧ s.e 6 = .p (n + 1) 0 0 ∧ Own s.h (n + 2) s.n (s.e 7) j ((colN l c' j).map ii) 1 ∧ s.e 10 = a ∧ s.e 11 = ii l.length ∧ s.e 12 = ii j ∧ agree n (roH h) s.h ∧ s.h n = some ⟨[ii op, ii num, ss var, ss attr, ii xa, ii xb], 0, true, 6⟩ ∧ s.h (n + 1) = some ⟨[.v (.bool false), .v (.int .i64 0)], 0, true, 2⟩ ∧ n + 2 ≤ s.n ∧ knownTo l c' j = true) (fun s => l.length - (s.e 12).i.toNat) ⟨0, by simp [up, q0, q1, q2, ii, ss, agree_up, agree_refl, colN, knownTo, Own]⟩ ?_
    rintro e' h' n' ⟨j, hj, q0, q1, q5, q6, hown, q10, q11, q12, hag, hb, hr, hnn, hkn⟩
    simp only [] at q0 q1 q5 q6 hown q10 q11 q12 hag hb hr hnn
    have f1 : n ≤ n' := by omega
    have f2 : n ≤ n' + 1 := by omega
    have f3 : n ≤ n' + 2 := by omega
    have f4 : n ≤ n' + 3 := by omega
    have z1 : ¬ n = n' := by omega
    have z2 : ¬ n = n' + 1 := by omega
    have z3 : ¬ n = n' + 2 := by omega
    have z4 : ¬ n = n' + 3 := by omega
    have w1 : ¬ n + 1 = n' := by omega
    have w2 : ¬ n + 1 = n' + 1 := by omega
    have w3 : ¬ n + 1 = n' + 2 := by omega
    have w4 : ¬ n + 1 = n' + 3 := by omega
    by_cases hlt : j < l.length
    · have hw := wrap_nat (j := j) (by unfold big; omega)
      have hsm : smallR v.sc l := ⟨hsc, by simp only [big]; omega⟩
      have hcn := colN_ints l c' j
      have hcl : ((colN l c' j).map ii).length = j := by rw [List.length_map, colN_len]
      generalize hx : oneV l (j : Int) c' = x at *
      generalize (colN l c' j).map ii = cs at *
      have hb3 : (j + 1) * 8 ≤ 140737488355328 := by omega
      have hb4 : j + 1 ≤ 9223372036854775807 := by omega
      cases hxk : x.k with
      | false =>
        have ha := all_no op hlt (by rw [hx]; exact hxk)
        have hu : x = unk := by rw [← hx]; exact oneV_unk (by rw [hx]; exact hxk)
        subst hu
        simp [evs, resAll, resVal, resOne, freeOp, isA, goOp, appNew, mkOp, gev, Region.binds, aop, aeval, gocall, heapOp, quietOp, ev, constAV, setd, yav, ystop, up, env0, cx_ti, cx_G, cx_pf, ti, globS, glob, pfL, lds, ldc, ldcs_1, ldcs_2, ldcs_3, ldcs_4, ldcs_5, ldcs_7, sts, sth, sls.eq_1, slc.eq_1, wr, place, fillOk, fillC, repZ, binI, isDiv, optInt, optI, eksOk, eksEq, EK.ok, EK.eq, AV.i, AV.isI, AV.isInt, AV.str, AV.isStr, AV.ones, AV.isPtr, AV.gl, AV.isG, Value.oneCell', q0, q1, q5, q6, q10, q11, q12, ii, ss, hlt, tb110, G109, pureH, de109, g0, g1, hag, agree_up, f1, f2, f3, hsm, hc', hx, vv, unk, z1, z2, z3, z4, w1, w2, w3, w4, hb, hr, ha, p1, p2, p3, p4]
      | true =>
        rcases hown with ⟨hj0, hnil, q7⟩ | ⟨w, u, q7, hk, hw1, hw2⟩
        · simp [evs, resAll, resVal, resOne, freeOp, isA, goOp, appNew, mkOp, gev, Region.binds, aop, aeval, gocall, heapOp, quietOp, ev, constAV, setd, yav, ystop, up, env0, cx_ti, cx_G, cx_pf, ti, globS, glob, pfL, lds, ldc, ldcs_1, ldcs_2, ldcs_3, ldcs_4, ldcs_5, ldcs_7, sts, sth, sls.eq_1, slc.eq_1, wr, place, fillOk, fillC, repZ, binI, isDiv, optInt, optI, eksOk, eksEq, EK.ok, EK.eq, AV.i, AV.isI, AV.isInt, AV.str, AV.isStr, AV.ones, AV.isPtr, AV.gl, AV.isG, Value.oneCell', q0, q1, q5, q6, q7, q10, q11, q12, ii, ss, hlt, tb110, G109, pureH, de109, g0, g1, hag, agree_up, f1, f2, f3, f4, hsm, hc', hx, vv, unk, z1, z2, z3, z4, w1, w2, w3, w4, hb, hr, hxk, hb3, hb4, hw, p1, p2, p3, p4]
          exact ⟨⟨j + 1, by omega, .inr ⟨n' + 3, 0, by rw [hj0], by rw [up_same, hcn, hnil]; rfl, by omega, by omega⟩, by omega, by rw [knownTo_succ, hkn, hx, hxk]; rfl⟩, by omega⟩
        · have y1 : ¬ w = n' := by omega
          have y2 : ¬ w = n' + 1 := by omega
          have y3 : ¬ w = n' + 2 := by omega
          have y4 : n ≤ w := by omega
          have y5 : ¬ n = w := by omega
          have y6 : ¬ n + 1 = w := by omega
          simp [evs, resAll, resVal, resOne, freeOp, isA, goOp, appNew, mkOp, gev, Region.binds, aop, aeval, gocall, heapOp, quietOp, ev, constAV, setd, yav, ystop, up, env0, cx_ti, cx_G, cx_pf, ti, globS, glob, pfL, lds, ldc, ldcs_1, ldcs_2, ldcs_3, ldcs_4, ldcs_5, ldcs_7, sts, sth, sls.eq_1, slc.eq_1, wr, place, fillOk, fillC, repZ, binI, isDiv, optInt, optI, eksOk, eksEq, EK.ok, EK.eq, AV.i, AV.isI, AV.isInt, AV.str, AV.isStr, AV.ones, AV.isPtr, AV.gl, AV.isG, Value.oneCell', q0, q1, q5, q6, q7, q10, q11, q12, ii, ss, hlt, tb110, G109, pureH, de109, g0, g1, hag, agree_up, f1, f2, f3, f4, hsm, hc', hx, vv, unk, z1, z2, z3, z4, w1, w2, w3, w4, hb, hr, hk, hxk, hcl, hb3, hb4, hw, y1, y2, y3, y4, y5, y6, p1, p2, p3, p4]
          exact ⟨⟨j + 1, by omega, .inr ⟨w, u + 1, rfl, by rw [up_same, hcn]; rfl, by omega, by omega⟩, by omega, by rw [knownTo_succ, hkn, hx, hxk]; rfl⟩, by omega⟩
    · have hje : j = l.length := by omega
      subst hje
      have hay := all_yes op hkn
      have hcl : (colN l c' l.length).length = l.length := colN_len ..
      have hlb : l.length < big := by unfold big; omega
      have hdi : deIs (List.take l.length ((colN l c' l.length).map ii)) = some (colN l c' l.length) := by
        rw [List.take_of_length_le (by rw [List.length_map, hcl]; exact Nat.le_refl _), deIs_ii]
      generalize colN l c' l.length = cn at *
      rcases hown with ⟨h0, hnil, q7⟩ | ⟨w, u, q7, hk, hw1, hw2⟩
      · have hcn0 : cn = [] := by simpa using hnil
        subst hcn0
        simp [evs, resAll, resVal, resOne, freeOp, isA, goOp, appNew, mkOp, gev, Region.binds, aop, aeval, gocall, heapOp, quietOp, ev, constAV, setd, yav, ystop, up, env0, cx_ti, cx_G, cx_pf, ti, globS, glob, pfL, lds, ldc, ldcs_1, ldcs_2, ldcs_3, ldcs_4, ldcs_5, ldcs_7, sts, sth, sls.eq_1, slc.eq_1, wr, place, fillOk, fillC, repZ, binI, isDiv, optInt, optI, eksOk, eksEq, EK.ok, EK.eq, AV.i, AV.isI, AV.isInt, AV.str, AV.isStr, AV.ones, AV.isPtr, AV.gl, AV.isG, Value.oneCell', q0, q1, q5, q6, q7, q10, q11, q12, ii, ss, tb110, g33, pureAL, deI, ints, vv, hb, hr, hag, hay, big]
      · simp [evs, resAll, resVal, resOne, freeOp, isA, goOp, appNew, mkOp, gev, Region.binds, aop, aeval, gocall, heapOp, quietOp, ev, constAV, setd, yav, ystop, up, env0, cx_ti, cx_G, cx_pf, ti, globS, glob, pfL, lds, ldc, ldcs_1, ldcs_2, ldcs_3, ldcs_4, ldcs_5, ldcs_7, sts, sth, sls.eq_1, slc.eq_1, wr, place, fillOk, fillC, repZ, binI, isDiv, optInt, optI, eksOk, eksEq, EK.ok, EK.eq, AV.i, AV.isI, AV.isInt, AV.str, AV.isStr, AV.ones, AV.isPtr, AV.gl, AV.isG, Value.oneCell', q0, q1, q5, q6, q7, q10, q11, q12, ii, ss, tb110, g33, pureAL, deI, ints, vv, hb, hr, hk, hag, hay, hcl, hlb, hdi]
  exact key _ rfl rfl rfl
/-! ### the document's -/
def de113 (h : Heap) : List AV → Option (List Ty × List Ev × Int × ByteArray)
  | [x, a, i, s] => de112 h [x, a, i, s]
  | _ => none
def G113 := pureH de112 (fun q => okF q.1 q.2.1) fun q => vv (allV q.2.1 (colOf q.1 q.2.2.2) q.2.2.1)
def tb113 : List (FuncId × (List AV → Heap → PRes)) := [(63, g52), (112, G112), (137, g34)]
set_option maxRecDepth 100000 in
set_option maxHeartbeats 2000000 in
theorem P113 : P0 [] 113 G113 := by
  refine mkH 4 (S := []) (l := tb113) (tb_cons p52 (tb_cons P112 (tb_cons p34 tb_nil))) Tryd.func113 rfl (by kernel_rfl) de112_mono (fun h l x e => by obtain ⟨p, a, rfl, _⟩ := de112_out e; exact Nat.le_refl _) (fun a => rfl) (fun args q h n e hp hn => ?_)
  obtain ⟨sc, l, op, attr⟩ := q
  obtain ⟨x, a, rfl, e0, e1⟩ := de112_out e
  obtain ⟨hsc, hl, hev⟩ := hp
  simp only [] at e0 e1 hsc hl hev ⊢
  obtain ⟨s1, s2, s3, s4, s5⟩ := sl_is e1
  have g1 := rd_agree hn e1
  have g0 := sc_agree hn e0
  obtain ⟨c1, rfl, r1⟩ := deSc_out e0
  obtain ⟨t1, t2, t3, t4, t5⟩ := sl_is r1
  generalize hc' : colOf sc attr = c' at *
  have key : ∀ e : Nat → AV, e 0 = .g [c1] → e 1 = a → e 2 = ii op → e 3 = ss attr → awp (cx [] (pfL tb113)) (Tryd.f113.body.getD .skip) (finQ (cx [] (pfL tb113)) Tryd.f113 fun z _ _ => z = vv (allV l c' op)) ⟨e, roH h, n⟩ := fun e q0 q1 q2 q3 => by
    simp [evs, resAll, resVal, resOne, freeOp, isA, goOp, appNew, mkOp, gev, Region.binds, aop, aeval, gocall, heapOp, quietOp, ev, constAV, setd, yav, ystop, up, env0, cx_ti, cx_G, cx_pf, ti, globS, glob, pfL, lds, ldc, ldcs_1, ldcs_2, ldcs_3, ldcs_4, ldcs_5, ldcs_7, sts, sth, sls.eq_1, slc.eq_1, wr, place, fillOk, fillC, repZ, binI, isDiv, optInt, optI, eksOk, eksEq, EK.ok, EK.eq, AV.i, AV.isI, AV.isInt, AV.str, AV.isStr, AV.ones, AV.isPtr, AV.gl, AV.isG, Value.oneCell', Tryd.f113, q0, q1, q2, q3, ii, ss, s1, s2, s3, t4]
    refine awp_loop (fun s => ∃ j, j ≤ l.length ∧ s.e 1 = a ∧ s.e 2 = ii op ∧ s.e 3 = ss attr ∧ s.e 4 = .p n 0 0 ∧ s.e 8 = .p (n + 1) 0 0 ∧ Own s.h (n + 2) s.n (s.e 9) j ((colN l c' j).map ii) 1 ∧ s.e 10 = ii j ∧ agree n (roH h) s.h ∧ s.h n = some ⟨[c1], 0, true, 1⟩ ∧ s.h (n + 1) = some ⟨[.v (.bool false), .v (.int .i64 0)], 0, true, 2⟩ ∧ n + 2 ≤ s.n ∧ knownTo l c' j = true) (fun s => l.length - (s.e 10).i.toNat) ⟨0, by simp [up, q0, q1, q2, q3, ii, ss, agree_up, agree_refl, colN, knownTo, Own]⟩ ?_
    rintro e' h' n' ⟨j, hj, q1, q2, q3, q4, q8, hown, q10, hag, hb, hr, hnn, hkn⟩
    simp only [] at q1 q2 q3 q4 q8 hown q10 hag hb hr hnn
    have f1 : n ≤ n' := by omega
    have f2 : n ≤ n' + 1 := by omega
    have f3 : n ≤ n' + 2 := by omega
    have f4 : n ≤ n' + 3 := by omega
    have z1 : ¬ n = n' := by omega
    have z2 : ¬ n = n' + 1 := by omega
    have z3 : ¬ n = n' + 2 := by omega
    have z4 : ¬ n = n' + 3 := by omega
    have w1 : ¬ n + 1 = n' := by omega
    have w2 : ¬ n + 1 = n' + 1 := by omega
    have w3 : ¬ n + 1 = n' + 2 := by omega
    have w4 : ¬ n + 1 = n' + 3 := by omega
    by_cases hlt : j < l.length
    · have hw := wrap_nat (j := j) (by unfold big; omega)
      have hsm : smallR sc l := ⟨hsc, by simp only [big]; omega⟩
      have hcn := colN_ints l c' j
      have hcl : ((colN l c' j).map ii).length = j := by rw [List.length_map, colN_len]
      generalize hx : oneV l (j : Int) c' = x at *
      generalize (colN l c' j).map ii = cs at *
      have hb3 : (j + 1) * 8 ≤ 140737488355328 := by omega
      have hb4 : j + 1 ≤ 9223372036854775807 := by omega
      cases hxk : x.k with
      | false =>
        have ha := all_no op hlt (by rw [hx]; exact hxk)
        have hu : x = unk := by rw [← hx]; exact oneV_unk (by rw [hx]; exact hxk)
        subst hu
        simp [evs, resAll, resVal, resOne, freeOp, isA, goOp, appNew, mkOp, gev, Region.binds, aop, aeval, gocall, heapOp, quietOp, ev, constAV, setd, yav, ystop, up, env0, cx_ti, cx_G, cx_pf, ti, globS, glob, pfL, lds, ldc, ldcs_1, ldcs_2, ldcs_3, ldcs_4, ldcs_5, ldcs_7, sts, sth, sls.eq_1, slc.eq_1, wr, place, fillOk, fillC, repZ, binI, isDiv, optInt, optI, eksOk, eksEq, EK.ok, EK.eq, AV.i, AV.isI, AV.isInt, AV.str, AV.isStr, AV.ones, AV.isPtr, AV.gl, AV.isG, Value.oneCell', q1, q2, q3, q4, q8, q10, ii, ss, s1, s2, s3, t4, hlt, tb113, g52, G112, pureH, de112, g0, g1, hag, agree_up, f1, f2, f3, hsm, hc', hx, vv, unk, z1, z2, z3, z4, w1, w2, w3, w4, hb, hr, ha]
      | true =>
        rcases hown with ⟨hj0, hnil, q9⟩ | ⟨w, u, q9, hk, hw1, hw2⟩
        · simp [evs, resAll, resVal, resOne, freeOp, isA, goOp, appNew, mkOp, gev, Region.binds, aop, aeval, gocall, heapOp, quietOp, ev, constAV, setd, yav, ystop, up, env0, cx_ti, cx_G, cx_pf, ti, globS, glob, pfL, lds, ldc, ldcs_1, ldcs_2, ldcs_3, ldcs_4, ldcs_5, ldcs_7, sts, sth, sls.eq_1, slc.eq_1, wr, place, fillOk, fillC, repZ, binI, isDiv, optInt, optI, eksOk, eksEq, EK.ok, EK.eq, AV.i, AV.isI, AV.isInt, AV.str, AV.isStr, AV.ones, AV.isPtr, AV.gl, AV.isG, Value.oneCell', q1, q2, q3, q4, q8, q9, q10, ii, ss, s1, s2, s3, t4, hlt, tb113, g52, G112, pureH, de112, g0, g1, hag, agree_up, f1, f2, f3, f4, hsm, hc', hx, vv, unk, z1, z2, z3, z4, w1, w2, w3, w4, hb, hr, hxk, hb3, hb4, hw]
          exact ⟨⟨j + 1, by omega, .inr ⟨n' + 3, 0, by rw [hj0], by rw [up_same, hcn, hnil]; rfl, by omega, by omega⟩, by omega, by rw [knownTo_succ, hkn, hx, hxk]; rfl⟩, by omega⟩
        · have y1 : ¬ w = n' := by omega
          have y2 : ¬ w = n' + 1 := by omega
          have y3 : ¬ w = n' + 2 := by omega
          have y4 : n ≤ w := by omega
          have y5 : ¬ n = w := by omega
          have y6 : ¬ n + 1 = w := by omega
          simp [evs, resAll, resVal, resOne, freeOp, isA, goOp, appNew, mkOp, gev, Region.binds, aop, aeval, gocall, heapOp, quietOp, ev, constAV, setd, yav, ystop, up, env0, cx_ti, cx_G, cx_pf, ti, globS, glob, pfL, lds, ldc, ldcs_1, ldcs_2, ldcs_3, ldcs_4, ldcs_5, ldcs_7, sts, sth, sls.eq_1, slc.eq_1, wr, place, fillOk, fillC, repZ, binI, isDiv, optInt, optI, eksOk, eksEq, EK.ok, EK.eq, AV.i, AV.isI, AV.isInt, AV.str, AV.isStr, AV.ones, AV.isPtr, AV.gl, AV.isG, Value.oneCell', q1, q2, q3, q4, q8, q9, q10, ii, ss, s1, s2, s3, t4, hlt, tb113, g52, G112, pureH, de112, g0, g1, hag, agree_up, f1, f2, f3, f4, hsm, hc', hx, vv, unk, z1, z2, z3, z4, w1, w2, w3, w4, hb, hr, hk, hxk, hcl, hb3, hb4, hw, y1, y2, y3, y4, y5, y6]
          exact ⟨⟨j + 1, by omega, .inr ⟨w, u + 1, rfl, by rw [up_same, hcn]; rfl, by omega, by omega⟩, by omega, by rw [knownTo_succ, hkn, hx, hxk]; rfl⟩, by omega⟩
    · have hje : j = l.length := by omega
      subst hje
      have hay := all_yes op hkn
      have hcl : (colN l c' l.length).length = l.length := colN_len ..
      have hlb : l.length < big := by unfold big; omega
      have hfe := fold_eq op (colN_rng hev c' l.length) (by rw [hcl]; exact hl)
      have hdi : deIs (List.take l.length ((colN l c' l.length).map ii)) = some (colN l c' l.length) := by
        rw [List.take_of_length_le (by rw [List.length_map, hcl]; exact Nat.le_refl _), deIs_ii]
      rw [hfe] at hay
      generalize colN l c' l.length = cn at *
      rcases hown with ⟨h0, hnil, q9⟩ | ⟨w, u, q9, hk, hw1, hw2⟩
      · have hcn0 : cn = [] := by simpa using hnil
        subst hcn0
        simp [evs, resAll, resVal, resOne, freeOp, isA, goOp, appNew, mkOp, gev, Region.binds, aop, aeval, gocall, heapOp, quietOp, ev, constAV, setd, yav, ystop, up, env0, cx_ti, cx_G, cx_pf, ti, globS, glob, pfL, lds, ldc, ldcs_1, ldcs_2, ldcs_3, ldcs_4, ldcs_5, ldcs_7, sts, sth, sls.eq_1, slc.eq_1, wr, place, fillOk, fillC, repZ, binI, isDiv, optInt, optI, eksOk, eksEq, EK.ok, EK.eq, AV.i, AV.isI, AV.isInt, AV.str, AV.isStr, AV.ones, AV.isPtr, AV.gl, AV.isG, Value.oneCell', q1, q2, q3, q4, q8, q9, q10, ii, ss, s1, s2, s3, t4, tb113, g34, pureAL, deI, ints, vv, hb, hr, hag, hay, big]
      · simp [evs, resAll, resVal, resOne, freeOp, isA, goOp, appNew, mkOp, gev, Region.binds, aop, aeval, gocall, heapOp, quietOp, ev, constAV, setd, yav, ystop, up, env0, cx_ti, cx_G, cx_pf, ti, globS, glob, pfL, lds, ldc, ldcs_1, ldcs_2, ldcs_3, ldcs_4, ldcs_5, ldcs_7, sts, sth, sls.eq_1, slc.eq_1, wr, place, fillOk, fillC, repZ, binI, isDiv, optInt, optI, eksOk, eksEq, EK.ok, EK.eq, AV.i, AV.isI, AV.isInt, AV.str, AV.isStr, AV.ones, AV.isPtr, AV.gl, AV.isG, Value.oneCell', q1, q2, q3, q4, q8, q9, q10, ii, ss, s1, s2, s3, t4, tb113, g34, pureAL, deI, ints, vv, hb, hr, hk, hag, hay, hcl, hlb, hdi]
  exact key _ rfl rfl rfl rfl
end Go.Proofs.YtkfphaphiikloaaDoor
