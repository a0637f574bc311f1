/-
  THE PROGRAMS OF CONDITIONS, PART A: events; functions that only compute.
-/
import Derived.Test.YtkfphaphiikloaaDoorMd
set_option linter.unusedSimpArgs false
set_option linter.unusedVariables false
set_option linter.constructorNameAsVariable false
set_option linter.unusedSimpArgs false
namespace Go.Proofs.YtkfphaphiikloaaDoor
open Go Go.Eng

/-- Of what is read out of the arguments in one go. -/
def pureH {α : Type} (de : Heap → List AV → Option α) (p : α → Prop) (f : α → AV) : List AV → Heap → PRes := fun args h => match de h args with
  | some a => ⟨p a, f a⟩
  | none => ⟨False, .any⟩
theorem pureH_out {α : Type} {de : Heap → List AV → Option α} {p : α → Prop} {f : α → AV} (hm : ∀ h h' l x, h.le h' → de h l = some x → de h' l = some x) {args : List AV} {h : Heap} (hs : (pureH de p f args h).side) :
    ∃ a, de h args = some a ∧ p a ∧ ∀ h', h.le h' → pureH de p f args h' = ⟨p a, f a⟩ := by
  unfold pureH at hs
  split at hs
  · rename_i a e
    exact ⟨a, e, hs, fun h' hh => by simp only [pureH, hm _ _ _ _ hh e]⟩
  · exact hs.elim
theorem mkH {S : List Nat} {l : List (FuncId × (List AV → Heap → PRes))} {f : FuncId} {fn : Func} {c : Code} (k : Nat) (ok : TbOk S l) (hf : Tryd.prog.funcs[f]? = some fn) (hb : fn.body = some c) (hok : (!(fn.name == "runtime.NumGoroutine") && fnOk (cx S (pfL l)) fn c && decide (k ≤ fn.ntmps)) = true)
    {α : Type} {de : Heap → List AV → Option α} {p : α → Prop} {g : α → AV} (hm : ∀ h h' l x, h.le h' → de h l = some x → de h' l = some x) (hk : ∀ h l x, de h l = some x → l.length ≤ k) (hg : ∀ a, (g a).free = true)
    (h1 : ∀ args a h n, de h args = some a → p a → (∀ i, n ≤ i → h i = none) → awp (cx S (pfL l)) c (finQ (cx S (pfL l)) fn fun z _ _ => z = g a) ⟨env0 args, roH h, n⟩) : P0 S f (pureH de p g) := by
  have hok' := hok3 hok
  exact pure_any (fun _ hx => hx) (pure_of_awp (pfL_ok ok) (mixed _ _) hf hb hok'.2.1 (callable hf hok'.1 (by rw [hb]; rfl) _ _) (fun args h h' hh hs => by
      obtain ⟨a, e, hp, hall⟩ := pureH_out hm hs
      rw [hall h' hh, hall h (fun _ _ e => e)]
      exact ⟨hp, rfl⟩) fun args h hs => by
    obtain ⟨a, e, hp, hall⟩ := pureH_out hm hs
    have ev := hall h (fun _ _ e => e)
    exact ⟨Nat.le_trans (hk _ _ _ e) hok'.2.2, by rw [ev]; exact hg a, fun n hn => by rw [ev]; exact h1 args a h n e hp hn⟩)

/-- An event. -/
structure Ev where
  ts : Int
  id : Int
  ty : Int
  a0 : Int
  a1 : Int
  a2 : Int
  a3 : Int
  a4 : Int
  a5 : Int
  a6 : Int
  a7 : Int
deriving DecidableEq
def Ev.attr (e : Ev) : Nat → Int
  | 0 => e.a0
  | 1 => e.a1
  | 2 => e.a2
  | 3 => e.a3
  | 4 => e.a4
  | 5 => e.a5
  | 6 => e.a6
  | _ => e.a7
def ecells (e : Ev) : List AV := [ii e.ts, uu e.id, ii e.ty, ii e.a0, ii e.a1, ii e.a2, ii e.a3, ii e.a4, ii e.a5, ii e.a6, ii e.a7]
def deEc : List AV → Option Ev
  | [.v (.int .i64 ts), .v (.int .u64 id), .v (.int .i64 ty), .v (.int .i64 a0), .v (.int .i64 a1), .v (.int .i64 a2), .v (.int .i64 a3), .v (.int .i64 a4), .v (.int .i64 a5), .v (.int .i64 a6), .v (.int .i64 a7)] => some ⟨ts, id, ty, a0, a1, a2, a3, a4, a5, a6, a7⟩
  | _ => none
theorem deEc_out {l : List AV} {e : Ev} (h : deEc l = some e) : l = ecells e := by
  unfold deEc at h
  split at h
  · cases h; rfl
  · cases h
def deE : AV → Option Ev
  | .g l => deEc l
  | _ => none
def ee (e : Ev) : AV := .g (ecells e)
theorem deE_out {x : AV} {e : Ev} (h : deE x = some e) : x = ee e := by
  unfold deE at h
  split at h
  · rw [deEc_out h]; rfl
  · cases h
/-- What an event has in a column. -/
def valueV (e : Ev) (p : Int) : V := if p = -2 then knownV e.ts else if 0 ≤ p ∧ p < 8 then knownV (e.attr p.toNat) else unk
def needsV (c : Int) : Int := if c < 1 ∨ c > 26 then -1 else if c < 10 then 0 else if c = 10 ∨ c = 11 ∨ c ≥ 25 then 1 else 2
def g124 := pure2 deE deI fun e p => vv (valueV e p)
def g103 := pure1 deI fun c => ii (needsV c)
set_option maxRecDepth 100000 in
theorem p103 : P0 [] 103 g103 := by
  refine mk1 (S := []) tb_nil Tryd.func103 rfl (by kernel_rfl) ii (fun x a h => deI_out h) (fun a => rfl) (fun a h n => ?_)
  simp [awp_skip, awp_label, awp_region, awp_seq, awp_if, awp_block, awp_ret, awp_scope, awp_exit, thenQ_n, thenQ_e, thenQ_r, blockQ_n, blockQ_e, blockQ_r, finQ_n, finQ_r, finQ_e, resAll, resVal, resOne, aops_nil, aops_cons, atl_nil, atl_cons, atlAll_nil, atlAll_cons, freeOp, List.filter_cons, List.filter_nil, adraw_eq, adrawA_nil, adrawA_cons, isA, goOp, appNew, mkOp, gev, Region.binds, Heap.le_refl, aop, aeval, gocall, heapOp, quietOp, ev, constAV, setd, yav, ystop, up, env0, cx_ti, cx_G, cx_pf, ti, globS, glob, pfL, lds, ldc, ldcs, sts, sth, sls, slc, wr, place, fillOk, fillC, repZ, binI, isDiv, optInt, optI, eksOk, eksEq, EK.ok, EK.eq, AV.i, AV.isI, AV.isInt, AV.b.eq_1, AV.b.eq_2, AV.isB.eq_1, AV.isB.eq_2, AV.str, AV.isStr, unc_same, unc_tt, unc_tf, unc_f, unc_any, unc_v, unc_gp, unc_p, unc_s, unc_g, unc_e, unc_t, unc_fn, unc_okb, unc_bb, unc_isB, unc_b, AV.bb.eq_1, AV.bb.eq_2, AV.okb.eq_1, AV.okb.eq_2, AV.okg.eq_1, AV.okg.eq_2, AV.gd.eq_1, AV.gd.eq_2, AV.cells.eq_1, AV.cells.eq_2, AV.one.eq_1, AV.one.eq_2, AV.one.eq_3, AV.one.eq_4, AV.one.eq_5, AV.one.eq_6, AV.ones, AV.slen.eq_1, AV.slen.eq_2, AV.isS.eq_1, AV.isS.eq_2, AV.isS.eq_3, AV.isPtr, AV.gl, AV.isG, Value.oneCell', Nat.add_assoc, cut_of_le, nat_lt0, nat_le0, ii, needsV]
  grind
set_option maxRecDepth 100000 in
theorem p124 : P0 [] 124 g124 := by
  refine mk2 (S := []) tb_nil Tryd.func124 rfl (by kernel_rfl) ee (fun x a h => deE_out h) ii (fun x a h => deI_out h) (fun a b => rfl) (fun e p h n => ?_)
  by_cases h1 : p = -2
  · subst h1
    simp [awp_skip, awp_label, awp_region, awp_seq, awp_if, awp_block, awp_ret, awp_scope, awp_exit, thenQ_n, thenQ_e, thenQ_r, blockQ_n, blockQ_e, blockQ_r, finQ_n, finQ_r, finQ_e, resAll, resVal, resOne, aops_nil, aops_cons, atl_nil, atl_cons, atlAll_nil, atlAll_cons, freeOp, List.filter_cons, List.filter_nil, adraw_eq, adrawA_nil, adrawA_cons, isA, goOp, appNew, mkOp, gev, Region.binds, Heap.le_refl, aop, aeval, gocall, heapOp, quietOp, ev, constAV, setd, yav, ystop, up, env0, cx_ti, cx_G, cx_pf, ti, globS, glob, pfL, lds, ldc, ldcs, sts, sth, sls, slc, wr, place, fillOk, fillC, repZ, binI, isDiv, optInt, optI, eksOk, eksEq, EK.ok, EK.eq, AV.i, AV.isI, AV.isInt, AV.b.eq_1, AV.b.eq_2, AV.isB.eq_1, AV.isB.eq_2, AV.str, AV.isStr, unc_same, unc_tt, unc_tf, unc_f, unc_any, unc_v, unc_gp, unc_p, unc_s, unc_g, unc_e, unc_t, unc_fn, unc_okb, unc_bb, unc_isB, unc_b, AV.bb.eq_1, AV.bb.eq_2, AV.okb.eq_1, AV.okb.eq_2, AV.okg.eq_1, AV.okg.eq_2, AV.gd.eq_1, AV.gd.eq_2, AV.cells.eq_1, AV.cells.eq_2, AV.one.eq_1, AV.one.eq_2, AV.one.eq_3, AV.one.eq_4, AV.one.eq_5, AV.one.eq_6, AV.ones, AV.slen.eq_1, AV.slen.eq_2, AV.isS.eq_1, AV.isS.eq_2, AV.isS.eq_3, AV.isPtr, AV.gl, AV.isG, Value.oneCell', Nat.add_assoc, cut_of_le, nat_lt0, nat_le0, ee, ecells, ii, uu, vv, valueV, knownV]
  · by_cases h2 : 0 ≤ p ∧ p < 8
    · have : p = 0 ∨ p = 1 ∨ p = 2 ∨ p = 3 ∨ p = 4 ∨ p = 5 ∨ p = 6 ∨ p = 7 := by omega
      rcases this with rfl | rfl | rfl | rfl | rfl | rfl | rfl | rfl <;> simp [awp_skip, awp_label, awp_region, awp_seq, awp_if, awp_block, awp_ret, awp_scope, awp_exit, thenQ_n, thenQ_e, thenQ_r, blockQ_n, blockQ_e, blockQ_r, finQ_n, finQ_r, finQ_e, resAll, resVal, resOne, aops_nil, aops_cons, atl_nil, atl_cons, atlAll_nil, atlAll_cons, freeOp, List.filter_cons, List.filter_nil, adraw_eq, adrawA_nil, adrawA_cons, isA, goOp, appNew, mkOp, gev, Region.binds, Heap.le_refl, aop, aeval, gocall, heapOp, quietOp, ev, constAV, setd, yav, ystop, up, env0, cx_ti, cx_G, cx_pf, ti, globS, glob, pfL, lds, ldc, ldcs, sts, sth, sls, slc, wr, place, fillOk, fillC, repZ, binI, isDiv, optInt, optI, eksOk, eksEq, EK.ok, EK.eq, AV.i, AV.isI, AV.isInt, AV.b.eq_1, AV.b.eq_2, AV.isB.eq_1, AV.isB.eq_2, AV.str, AV.isStr, unc_same, unc_tt, unc_tf, unc_f, unc_any, unc_v, unc_gp, unc_p, unc_s, unc_g, unc_e, unc_t, unc_fn, unc_okb, unc_bb, unc_isB, unc_b, AV.bb.eq_1, AV.bb.eq_2, AV.okb.eq_1, AV.okb.eq_2, AV.okg.eq_1, AV.okg.eq_2, AV.gd.eq_1, AV.gd.eq_2, AV.cells.eq_1, AV.cells.eq_2, AV.one.eq_1, AV.one.eq_2, AV.one.eq_3, AV.one.eq_4, AV.one.eq_5, AV.one.eq_6, AV.ones, AV.slen.eq_1, AV.slen.eq_2, AV.isS.eq_1, AV.isS.eq_2, AV.isS.eq_3, AV.isPtr, AV.gl, AV.isG, Value.oneCell', Nat.add_assoc, cut_of_le, nat_lt0, nat_le0, ee, ecells, ii, uu, vv, valueV, knownV, Ev.attr]
    · by_cases h3 : 0 ≤ p
      · have h4 : ¬ p < 8 := fun h => h2 ⟨h3, h⟩
        simp [awp_skip, awp_label, awp_region, awp_seq, awp_if, awp_block, awp_ret, awp_scope, awp_exit, thenQ_n, thenQ_e, thenQ_r, blockQ_n, blockQ_e, blockQ_r, finQ_n, finQ_r, finQ_e, resAll, resVal, resOne, aops_nil, aops_cons, atl_nil, atl_cons, atlAll_nil, atlAll_cons, freeOp, List.filter_cons, List.filter_nil, adraw_eq, adrawA_nil, adrawA_cons, isA, goOp, appNew, mkOp, gev, Region.binds, Heap.le_refl, aop, aeval, gocall, heapOp, quietOp, ev, constAV, setd, yav, ystop, up, env0, cx_ti, cx_G, cx_pf, ti, globS, glob, pfL, lds, ldc, ldcs, sts, sth, sls, slc, wr, place, fillOk, fillC, repZ, binI, isDiv, optInt, optI, eksOk, eksEq, EK.ok, EK.eq, AV.i, AV.isI, AV.isInt, AV.b.eq_1, AV.b.eq_2, AV.isB.eq_1, AV.isB.eq_2, AV.str, AV.isStr, unc_same, unc_tt, unc_tf, unc_f, unc_any, unc_v, unc_gp, unc_p, unc_s, unc_g, unc_e, unc_t, unc_fn, unc_okb, unc_bb, unc_isB, unc_b, AV.bb.eq_1, AV.bb.eq_2, AV.okb.eq_1, AV.okb.eq_2, AV.okg.eq_1, AV.okg.eq_2, AV.gd.eq_1, AV.gd.eq_2, AV.cells.eq_1, AV.cells.eq_2, AV.one.eq_1, AV.one.eq_2, AV.one.eq_3, AV.one.eq_4, AV.one.eq_5, AV.one.eq_6, AV.ones, AV.slen.eq_1, AV.slen.eq_2, AV.isS.eq_1, AV.isS.eq_2, AV.isS.eq_3, AV.isPtr, AV.gl, AV.isG, Value.oneCell', Nat.add_assoc, cut_of_le, nat_lt0, nat_le0, ee, ecells, ii, uu, vv, valueV, unk, h1, h3, h4]
      · simp [awp_skip, awp_label, awp_region, awp_seq, awp_if, awp_block, awp_ret, awp_scope, awp_exit, thenQ_n, thenQ_e, thenQ_r, blockQ_n, blockQ_e, blockQ_r, finQ_n, finQ_r, finQ_e, resAll, resVal, resOne, aops_nil, aops_cons, atl_nil, atl_cons, atlAll_nil, atlAll_cons, freeOp, List.filter_cons, List.filter_nil, adraw_eq, adrawA_nil, adrawA_cons, isA, goOp, appNew, mkOp, gev, Region.binds, Heap.le_refl, aop, aeval, gocall, heapOp, quietOp, ev, constAV, setd, yav, ystop, up, env0, cx_ti, cx_G, cx_pf, ti, globS, glob, pfL, lds, ldc, ldcs, sts, sth, sls, slc, wr, place, fillOk, fillC, repZ, binI, isDiv, optInt, optI, eksOk, eksEq, EK.ok, EK.eq, AV.i, AV.isI, AV.isInt, AV.b.eq_1, AV.b.eq_2, AV.isB.eq_1, AV.isB.eq_2, AV.str, AV.isStr, unc_same, unc_tt, unc_tf, unc_f, unc_any, unc_v, unc_gp, unc_p, unc_s, unc_g, unc_e, unc_t, unc_fn, unc_okb, unc_bb, unc_isB, unc_b, AV.bb.eq_1, AV.bb.eq_2, AV.okb.eq_1, AV.okb.eq_2, AV.okg.eq_1, AV.okg.eq_2, AV.gd.eq_1, AV.gd.eq_2, AV.cells.eq_1, AV.cells.eq_2, AV.one.eq_1, AV.one.eq_2, AV.one.eq_3, AV.one.eq_4, AV.one.eq_5, AV.one.eq_6, AV.ones, AV.slen.eq_1, AV.slen.eq_2, AV.isS.eq_1, AV.isS.eq_2, AV.isS.eq_3, AV.isPtr, AV.gl, AV.isG, Value.oneCell', Nat.add_assoc, cut_of_le, nat_lt0, nat_le0, ee, ecells, ii, uu, vv, valueV, unk, h1, h3]
end Go.Proofs.YtkfphaphiikloaaDoor
