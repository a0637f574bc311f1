/-
  THE NUMBERS OF THIS PROGRAM, PART A: a number that may be unknown; the first functions.
-/
import Derived.Test.YtkfphaphiikloaaDoorCtx
set_option linter.unusedSimpArgs false
set_option linter.unusedVariables false
set_option linter.constructorNameAsVariable false
set_option linter.unusedSimpArgs false
namespace Go.Proofs.YtkfphaphiikloaaDoor
open Go Go.Eng

/-- A number, or none. -/
structure V where
  k : Bool
  n : Int
deriving DecidableEq
def vv (a : V) : AV := .g [.v (.bool a.k), .v (.int .i64 a.n)]
def ii (n : Int) : AV := .v (.int .i64 n)
def uu (n : Int) : AV := .v (.int .u64 n)
def bv (b : Bool) : AV := .v (.bool b)
def deV : AV → Option V
  | .g [.v (.bool k), .v (.int .i64 n)] => some ⟨k, n⟩
  | _ => none
def deI : AV → Option Int
  | .v (.int .i64 n) => some n
  | _ => none
def deU : AV → Option Int
  | .v (.int .u64 n) => some n
  | _ => none
def deB : AV → Option Bool
  | .v (.bool b) => some b
  | _ => none
section
variable {α β γ δ : Type}
def pure1 (da : AV → Option α) (f : α → AV) : List AV → Heap → PRes
  | [x], _ => match da x with
    | some a => ⟨True, f a⟩
    | none => ⟨False, .any⟩
  | _, _ => ⟨False, .any⟩
def pure2 (da : AV → Option α) (db : AV → Option β) (f : α → β → AV) : List AV → Heap → PRes
  | [x, y], _ => match da x, db y with
    | some a, some b => ⟨True, f a b⟩
    | _, _ => ⟨False, .any⟩
  | _, _ => ⟨False, .any⟩
def pure3 (da : AV → Option α) (db : AV → Option β) (dc : AV → Option γ) (f : α → β → γ → AV) : List AV → Heap → PRes
  | [x, y, z], _ => match da x, db y, dc z with
    | some a, some b, some c => ⟨True, f a b c⟩
    | _, _, _ => ⟨False, .any⟩
  | _, _ => ⟨False, .any⟩
theorem pure1_out {da : AV → Option α} {f : α → AV} {args : List AV} {h : Heap} (hs : (pure1 da f args h).side) : ∃ x a, args = [x] ∧ da x = some a ∧ (pure1 da f args h).val = f a := by
  unfold pure1 at hs ⊢
  split at hs
  · split at hs
    · rename_i e
      exact ⟨_, _, rfl, e, by simp [e]⟩
    · exact hs.elim
  · exact hs.elim
theorem pure2_out {da : AV → Option α} {db : AV → Option β} {f : α → β → AV} {args : List AV} {h : Heap} (hs : (pure2 da db f args h).side) : ∃ x a y b, args = [x, y] ∧ da x = some a ∧ db y = some b ∧ (pure2 da db f args h).val = f a b := by
  unfold pure2 at hs ⊢
  split at hs
  · split at hs
    · rename_i e1 e2
      exact ⟨_, _, _, _, rfl, e1, e2, by simp [e1, e2]⟩
    · exact hs.elim
  · exact hs.elim
theorem pure3_out {da : AV → Option α} {db : AV → Option β} {dc : AV → Option γ} {f : α → β → γ → AV} {args : List AV} {h : Heap} (hs : (pure3 da db dc f args h).side) : ∃ x a y b z c, args = [x, y, z] ∧ da x = some a ∧ db y = some b ∧ dc z = some c ∧ (pure3 da db dc f args h).val = f a b c := by
  unfold pure3 at hs ⊢
  split at hs
  · split at hs
    · rename_i e1 e2 e3
      exact ⟨_, _, _, _, _, _, rfl, e1, e2, e3, by simp [e1, e2, e3]⟩
    · exact hs.elim
  · exact hs.elim
theorem pure1_h (da : AV → Option α) (f : α → AV) (args : List AV) (h h' : Heap) : pure1 da f args h = pure1 da f args h' := by unfold pure1; split <;> simp_all
theorem pure2_h (da : AV → Option α) (db : AV → Option β) (f : α → β → AV) (args : List AV) (h h' : Heap) : pure2 da db f args h = pure2 da db f args h' := by unfold pure2; split <;> simp_all
theorem pure3_h (da : AV → Option α) (db : AV → Option β) (dc : AV → Option γ) (f : α → β → γ → AV) (args : List AV) (h h' : Heap) : pure3 da db dc f args h = pure3 da db dc f args h' := by unfold pure3; split <;> simp_all
end
theorem deV_out {x : AV} {a : V} (h : deV x = some a) : x = .g [.v (.bool a.k), .v (.int .i64 a.n)] := by
  unfold deV at h
  split at h
  · cases h; rfl
  · cases h
theorem deI_out {x : AV} {a : Int} (h : deI x = some a) : x = .v (.int .i64 a) := by
  unfold deI at h
  split at h
  · cases h; rfl
  · cases h
theorem deU_out {x : AV} {a : Int} (h : deU x = some a) : x = .v (.int .u64 a) := by
  unfold deU at h
  split at h
  · cases h; rfl
  · cases h
theorem deB_out {x : AV} {a : Bool} (h : deB x = some a) : x = .v (.bool a) := by
  unfold deB at h
  split at h
  · cases h; rfl
  · cases h

theorem hok3 {a b : Bool} {p : Prop} [Decidable p] (h : (!a && b && decide p) = true) : a = false ∧ b = true ∧ p := by cases a <;> cases b <;> simp_all
section
variable {α β γ : Type} {S : List Nat} {l : List (FuncId × (List AV → Heap → PRes))} {f : FuncId} {fn : Func} {c : Code}
theorem mk1 (ok : TbOk S l) (hf : Tryd.prog.funcs[f]? = some fn) (hb : fn.body = some c) (hok : (!(fn.name == "runtime.NumGoroutine") && fnOk (cx S (pfL l)) fn c && decide (1 ≤ fn.ntmps)) = true) {da : AV → Option α} (en : α → AV) (hd : ∀ x a, da x = some a → x = en a) {g : α → AV} (hg : ∀ a, (g a).free = true)
    (h1 : ∀ a h n, awp (cx S (pfL l)) c (finQ (cx S (pfL l)) fn fun z _ _ => z = g a) ⟨env0 [en a], h, n⟩) : P0 S f (pure1 da g) :=
  have hok' := hok3 hok
  pure_any (fun _ hx => hx) (pure_of_awp (pfL_ok ok) (mixed _ _) hf hb hok'.2.1 (callable hf hok'.1 (by rw [hb]; rfl) _ _) (fun args h h' _ hs => by rw [pure1_h da g args h' h]; exact ⟨hs, rfl⟩) fun args h hs => by
    obtain ⟨x, a, rfl, e, ev⟩ := pure1_out hs
    obtain rfl := hd x a e
    exact ⟨hok'.2.2, by rw [ev]; exact hg a, fun n _ => by rw [ev]; exact h1 a _ n⟩)
theorem mk2 (ok : TbOk S l) (hf : Tryd.prog.funcs[f]? = some fn) (hb : fn.body = some c) (hok : (!(fn.name == "runtime.NumGoroutine") && fnOk (cx S (pfL l)) fn c && decide (2 ≤ fn.ntmps)) = true) {da : AV → Option α} (en : α → AV) (hd : ∀ x a, da x = some a → x = en a) {db : AV → Option β} (eb : β → AV) (hdb : ∀ x a, db x = some a → x = eb a) {g : α → β → AV} (hg : ∀ a b, (g a b).free = true)
    (h1 : ∀ a b h n, awp (cx S (pfL l)) c (finQ (cx S (pfL l)) fn fun z _ _ => z = g a b) ⟨env0 [en a, eb b], h, n⟩) : P0 S f (pure2 da db g) :=
  have hok' := hok3 hok
  pure_any (fun _ hx => hx) (pure_of_awp (pfL_ok ok) (mixed _ _) hf hb hok'.2.1 (callable hf hok'.1 (by rw [hb]; rfl) _ _) (fun args h h' _ hs => by rw [pure2_h da db g args h' h]; exact ⟨hs, rfl⟩) fun args h hs => by
    obtain ⟨x, a, y, b, rfl, e, e', ev⟩ := pure2_out hs
    obtain rfl := hd x a e
    obtain rfl := hdb y b e'
    exact ⟨hok'.2.2, by rw [ev]; exact hg a b, fun n _ => by rw [ev]; exact h1 a b _ n⟩)
theorem mk3 (ok : TbOk S l) (hf : Tryd.prog.funcs[f]? = some fn) (hb : fn.body = some c) (hok : (!(fn.name == "runtime.NumGoroutine") && fnOk (cx S (pfL l)) fn c && decide (3 ≤ fn.ntmps)) = true) {da : AV → Option α} (en : α → AV) (hd : ∀ x a, da x = some a → x = en a) {db : AV → Option β} (eb : β → AV) (hdb : ∀ x a, db x = some a → x = eb a) {dc : AV → Option γ} (ec : γ → AV) (hdc : ∀ x a, dc x = some a → x = ec a) {g : α → β → γ → AV} (hg : ∀ a b c, (g a b c).free = true)
    (h1 : ∀ a b d h n, awp (cx S (pfL l)) c (finQ (cx S (pfL l)) fn fun z _ _ => z = g a b d) ⟨env0 [en a, eb b, ec d], h, n⟩) : P0 S f (pure3 da db dc g) :=
  have hok' := hok3 hok
  pure_any (fun _ hx => hx) (pure_of_awp (pfL_ok ok) (mixed _ _) hf hb hok'.2.1 (callable hf hok'.1 (by rw [hb]; rfl) _ _) (fun args h h' _ hs => by rw [pure3_h da db dc g args h' h]; exact ⟨hs, rfl⟩) fun args h hs => by
    obtain ⟨x, a, y, b, z, d, rfl, e, e', e'', ev⟩ := pure3_out hs
    obtain rfl := hd x a e
    obtain rfl := hdb y b e'
    obtain rfl := hdc z d e''
    exact ⟨hok'.2.2, by rw [ev]; exact hg a b d, fun n _ => by rw [ev]; exact h1 a b d _ n⟩)
end

/-! ### the functions -/
abbrev PF := FuncId → Option (List AV → Heap → PRes)
def rankV (a : V) : Int := if a.k = false then 1 else if a.n = 0 then 0 else 2
def ofRank (r : Int) : V := if r = 0 then ⟨true, 0⟩ else if r = 2 then ⟨true, 1⟩ else ⟨false, 0⟩
def unk : V := ⟨false, 0⟩
def knownV (n : Int) : V := ⟨true, n⟩
def truthV (b : Bool) : V := if b then ⟨true, 1⟩ else ⟨true, 0⟩
theorem rank3 (a : V) : rankV a = 0 ∨ rankV a = 1 ∨ rankV a = 2 := by unfold rankV; split <;> (try split) <;> simp
def g48 := pure1 deV fun a => ii (rankV a)
def g51 := pure1 deI fun n => vv (knownV n)
def g54 := pure1 deB fun b => vv (truthV b)
def sizeU (n : Int) : Int := if n < 0 then IntKind.u64.wrap (0 - IntKind.u64.wrap n) else IntKind.u64.wrap n
def g60 := pure1 deI fun n => uu (sizeU n)
theorem p48 : P0 [] 75 g48 := by
  refine mk1 (S := []) tb_nil Tryd.func75 rfl (by kernel_rfl) vv (fun x a h => deV_out h) (fun a => rfl) (fun a h n => ?_)
  obtain ⟨k, m⟩ := a
  simp [awp_skip, awp_label, awp_region, awp_seq, awp_if, awp_block, awp_ret, awp_scope, awp_exit, thenQ_n, thenQ_e, thenQ_r, blockQ_n, blockQ_e, blockQ_r, finQ_n, finQ_r, finQ_e, resAll, resVal, resOne, aops_nil, aops_cons, atl_nil, atl_cons, atlAll_nil, atlAll_cons, freeOp, List.filter_cons, List.filter_nil, adraw_eq, adrawA_nil, adrawA_cons, isA, goOp, appNew, mkOp, gev, Region.binds, Heap.le_refl, aop, aeval, gocall, heapOp, quietOp, ev, constAV, setd, yav, ystop, up, env0, cx_ti, cx_G, cx_pf, ti, globS, glob, pfL, lds, ldc, ldcs, sts, sth, sls, slc, wr, place, fillOk, fillC, repZ, binI, isDiv, optInt, optI, eksOk, eksEq, EK.ok, EK.eq, AV.i, AV.isI, AV.isInt, AV.b.eq_1, AV.b.eq_2, AV.isB.eq_1, AV.isB.eq_2, AV.str, AV.isStr, unc_same, unc_tt, unc_tf, unc_f, unc_any, unc_v, unc_gp, unc_p, unc_s, unc_g, unc_e, unc_t, unc_fn, unc_okb, unc_bb, unc_isB, unc_b, AV.bb.eq_1, AV.bb.eq_2, AV.okb.eq_1, AV.okb.eq_2, AV.okg.eq_1, AV.okg.eq_2, AV.gd.eq_1, AV.gd.eq_2, AV.cells.eq_1, AV.cells.eq_2, AV.one.eq_1, AV.one.eq_2, AV.one.eq_3, AV.one.eq_4, AV.one.eq_5, AV.one.eq_6, AV.ones, AV.slen.eq_1, AV.slen.eq_2, AV.isS.eq_1, AV.isS.eq_2, AV.isS.eq_3, AV.isPtr, AV.gl, AV.isG, Value.oneCell', Nat.add_assoc, cut_of_le, nat_lt0, nat_le0, vv]
  cases k <;> simp [ii, rankV]
theorem p51 : P0 [] 74 g51 := by
  refine mk1 (S := []) tb_nil Tryd.func74 rfl (by kernel_rfl) ii (fun x a h => deI_out h) (fun a => rfl) (fun a h n => ?_)
  simp [awp_skip, awp_label, awp_region, awp_seq, awp_if, awp_block, awp_ret, awp_scope, awp_exit, thenQ_n, thenQ_e, thenQ_r, blockQ_n, blockQ_e, blockQ_r, finQ_n, finQ_r, finQ_e, resAll, resVal, resOne, aops_nil, aops_cons, atl_nil, atl_cons, atlAll_nil, atlAll_cons, freeOp, List.filter_cons, List.filter_nil, adraw_eq, adrawA_nil, adrawA_cons, isA, goOp, appNew, mkOp, gev, Region.binds, Heap.le_refl, aop, aeval, gocall, heapOp, quietOp, ev, constAV, setd, yav, ystop, up, env0, cx_ti, cx_G, cx_pf, ti, globS, glob, pfL, lds, ldc, ldcs, sts, sth, sls, slc, wr, place, fillOk, fillC, repZ, binI, isDiv, optInt, optI, eksOk, eksEq, EK.ok, EK.eq, AV.i, AV.isI, AV.isInt, AV.b.eq_1, AV.b.eq_2, AV.isB.eq_1, AV.isB.eq_2, AV.str, AV.isStr, unc_same, unc_tt, unc_tf, unc_f, unc_any, unc_v, unc_gp, unc_p, unc_s, unc_g, unc_e, unc_t, unc_fn, unc_okb, unc_bb, unc_isB, unc_b, AV.bb.eq_1, AV.bb.eq_2, AV.okb.eq_1, AV.okb.eq_2, AV.okg.eq_1, AV.okg.eq_2, AV.gd.eq_1, AV.gd.eq_2, AV.cells.eq_1, AV.cells.eq_2, AV.one.eq_1, AV.one.eq_2, AV.one.eq_3, AV.one.eq_4, AV.one.eq_5, AV.one.eq_6, AV.ones, AV.slen.eq_1, AV.slen.eq_2, AV.isS.eq_1, AV.isS.eq_2, AV.isS.eq_3, AV.isPtr, AV.gl, AV.isG, Value.oneCell', Nat.add_assoc, cut_of_le, nat_lt0, nat_le0, vv, ii, knownV]
theorem p54 : P0 [5, 6] 118 g54 := by
  refine mk1 (S := [5, 6]) tb_nil Tryd.func118 rfl (by kernel_rfl) bv (fun x a h => deB_out h) (fun a => by cases a <;> rfl) (fun a h n => ?_)
  cases a <;> simp [awp_skip, awp_label, awp_region, awp_seq, awp_if, awp_block, awp_ret, awp_scope, awp_exit, thenQ_n, thenQ_e, thenQ_r, blockQ_n, blockQ_e, blockQ_r, finQ_n, finQ_r, finQ_e, resAll, resVal, resOne, aops_nil, aops_cons, atl_nil, atl_cons, atlAll_nil, atlAll_cons, freeOp, List.filter_cons, List.filter_nil, adraw_eq, adrawA_nil, adrawA_cons, isA, goOp, appNew, mkOp, gev, Region.binds, Heap.le_refl, aop, aeval, gocall, heapOp, quietOp, ev, constAV, setd, yav, ystop, up, env0, cx_ti, cx_G, cx_pf, ti, globS, glob, pfL, lds, ldc, ldcs, sts, sth, sls, slc, wr, place, fillOk, fillC, repZ, binI, isDiv, optInt, optI, eksOk, eksEq, EK.ok, EK.eq, AV.i, AV.isI, AV.isInt, AV.b.eq_1, AV.b.eq_2, AV.isB.eq_1, AV.isB.eq_2, AV.str, AV.isStr, unc_same, unc_tt, unc_tf, unc_f, unc_any, unc_v, unc_gp, unc_p, unc_s, unc_g, unc_e, unc_t, unc_fn, unc_okb, unc_bb, unc_isB, unc_b, AV.bb.eq_1, AV.bb.eq_2, AV.okb.eq_1, AV.okb.eq_2, AV.okg.eq_1, AV.okg.eq_2, AV.gd.eq_1, AV.gd.eq_2, AV.cells.eq_1, AV.cells.eq_2, AV.one.eq_1, AV.one.eq_2, AV.one.eq_3, AV.one.eq_4, AV.one.eq_5, AV.one.eq_6, AV.ones, AV.slen.eq_1, AV.slen.eq_2, AV.isS.eq_1, AV.isS.eq_2, AV.isS.eq_3, AV.isPtr, AV.gl, AV.isG, Value.oneCell', Nat.add_assoc, cut_of_le, nat_lt0, nat_le0, vv, bv, truthV]
theorem p60 : P0 [] 117 g60 := by
  refine mk1 (S := []) tb_nil Tryd.func117 rfl (by kernel_rfl) ii (fun x a h => deI_out h) (fun a => rfl) (fun a h n => ?_)
  simp [awp_skip, awp_label, awp_region, awp_seq, awp_if, awp_block, awp_ret, awp_scope, awp_exit, thenQ_n, thenQ_e, thenQ_r, blockQ_n, blockQ_e, blockQ_r, finQ_n, finQ_r, finQ_e, resAll, resVal, resOne, aops_nil, aops_cons, atl_nil, atl_cons, atlAll_nil, atlAll_cons, freeOp, List.filter_cons, List.filter_nil, adraw_eq, adrawA_nil, adrawA_cons, isA, goOp, appNew, mkOp, gev, Region.binds, Heap.le_refl, aop, aeval, gocall, heapOp, quietOp, ev, constAV, setd, yav, ystop, up, env0, cx_ti, cx_G, cx_pf, ti, globS, glob, pfL, lds, ldc, ldcs, sts, sth, sls, slc, wr, place, fillOk, fillC, repZ, binI, isDiv, optInt, optI, eksOk, eksEq, EK.ok, EK.eq, AV.i, AV.isI, AV.isInt, AV.b.eq_1, AV.b.eq_2, AV.isB.eq_1, AV.isB.eq_2, AV.str, AV.isStr, unc_same, unc_tt, unc_tf, unc_f, unc_any, unc_v, unc_gp, unc_p, unc_s, unc_g, unc_e, unc_t, unc_fn, unc_okb, unc_bb, unc_isB, unc_b, AV.bb.eq_1, AV.bb.eq_2, AV.okb.eq_1, AV.okb.eq_2, AV.okg.eq_1, AV.okg.eq_2, AV.gd.eq_1, AV.gd.eq_2, AV.cells.eq_1, AV.cells.eq_2, AV.one.eq_1, AV.one.eq_2, AV.one.eq_3, AV.one.eq_4, AV.one.eq_5, AV.one.eq_6, AV.ones, AV.slen.eq_1, AV.slen.eq_2, AV.isS.eq_1, AV.isS.eq_2, AV.isS.eq_3, AV.isPtr, AV.gl, AV.isG, Value.oneCell', Nat.add_assoc, cut_of_le, nat_lt0, nat_le0, uu, ii, sizeU]
  split <;> intro _ <;> omega
/-! #### the reference's -/
def g49 := pure1 deV fun a => ii (rankV a)
def g50 := pure1 deI fun n => vv (ofRank n)
def g52 : List AV → Heap → PRes := fun l _ => match l with
  | [] => ⟨True, vv unk⟩
  | _ => ⟨False, .any⟩
def g53 := pure1 deI fun n => vv (knownV n)
def g65 := pure1 deB fun b => vv (truthV b)
theorem p49 : P0 [] 108 g49 := by
  refine mk1 (S := []) tb_nil Tryd.func108 rfl (by kernel_rfl) vv (fun x a h => deV_out h) (fun a => rfl) (fun a h n => ?_)
  obtain ⟨k, m⟩ := a
  simp [awp_skip, awp_label, awp_region, awp_seq, awp_if, awp_block, awp_ret, awp_scope, awp_exit, thenQ_n, thenQ_e, thenQ_r, blockQ_n, blockQ_e, blockQ_r, finQ_n, finQ_r, finQ_e, resAll, resVal, resOne, aops_nil, aops_cons, atl_nil, atl_cons, atlAll_nil, atlAll_cons, freeOp, List.filter_cons, List.filter_nil, adraw_eq, adrawA_nil, adrawA_cons, isA, goOp, appNew, mkOp, gev, Region.binds, Heap.le_refl, aop, aeval, gocall, heapOp, quietOp, ev, constAV, setd, yav, ystop, up, env0, cx_ti, cx_G, cx_pf, ti, globS, glob, pfL, lds, ldc, ldcs, sts, sth, sls, slc, wr, place, fillOk, fillC, repZ, binI, isDiv, optInt, optI, eksOk, eksEq, EK.ok, EK.eq, AV.i, AV.isI, AV.isInt, AV.b.eq_1, AV.b.eq_2, AV.isB.eq_1, AV.isB.eq_2, AV.str, AV.isStr, unc_same, unc_tt, unc_tf, unc_f, unc_any, unc_v, unc_gp, unc_p, unc_s, unc_g, unc_e, unc_t, unc_fn, unc_okb, unc_bb, unc_isB, unc_b, AV.bb.eq_1, AV.bb.eq_2, AV.okb.eq_1, AV.okb.eq_2, AV.okg.eq_1, AV.okg.eq_2, AV.gd.eq_1, AV.gd.eq_2, AV.cells.eq_1, AV.cells.eq_2, AV.one.eq_1, AV.one.eq_2, AV.one.eq_3, AV.one.eq_4, AV.one.eq_5, AV.one.eq_6, AV.ones, AV.slen.eq_1, AV.slen.eq_2, AV.isS.eq_1, AV.isS.eq_2, AV.isS.eq_3, AV.isPtr, AV.gl, AV.isG, Value.oneCell', Nat.add_assoc, cut_of_le, nat_lt0, nat_le0, vv]
  cases k <;> simp [ii, rankV]
theorem p52 : P0 [] 63 g52 := by
  have hok : (!(Tryd.f63.name == "runtime.NumGoroutine") && (fnOk (cx [] (pfL [])) Tryd.f63 (Tryd.f63.body.getD .skip)) && decide (0 ≤ Tryd.f63.ntmps)) = true := by kernel_rfl
  have hok' := hok3 hok
  refine pure_any (fun _ hx => hx) (pure_of_awp (pfL_ok tb_nil) (mixed _ _) Tryd.func63 rfl hok'.2.1 (callable Tryd.func63 hok'.1 rfl _ _) (fun args h h' _ hs => ⟨hs, rfl⟩) fun args h hs => ?_)
  unfold g52 at hs ⊢
  split at hs
  · refine ⟨Nat.zero_le _, rfl, fun n _ => ?_⟩
    simp [awp_skip, awp_label, awp_region, awp_seq, awp_if, awp_block, awp_ret, awp_scope, awp_exit, thenQ_n, thenQ_e, thenQ_r, blockQ_n, blockQ_e, blockQ_r, finQ_n, finQ_r, finQ_e, resAll, resVal, resOne, aops_nil, aops_cons, atl_nil, atl_cons, atlAll_nil, atlAll_cons, freeOp, List.filter_cons, List.filter_nil, adraw_eq, adrawA_nil, adrawA_cons, isA, goOp, appNew, mkOp, gev, Region.binds, Heap.le_refl, aop, aeval, gocall, heapOp, quietOp, ev, constAV, setd, yav, ystop, up, env0, cx_ti, cx_G, cx_pf, ti, globS, glob, pfL, lds, ldc, ldcs, sts, sth, sls, slc, wr, place, fillOk, fillC, repZ, binI, isDiv, optInt, optI, eksOk, eksEq, EK.ok, EK.eq, AV.i, AV.isI, AV.isInt, AV.b.eq_1, AV.b.eq_2, AV.isB.eq_1, AV.isB.eq_2, AV.str, AV.isStr, unc_same, unc_tt, unc_tf, unc_f, unc_any, unc_v, unc_gp, unc_p, unc_s, unc_g, unc_e, unc_t, unc_fn, unc_okb, unc_bb, unc_isB, unc_b, AV.bb.eq_1, AV.bb.eq_2, AV.okb.eq_1, AV.okb.eq_2, AV.okg.eq_1, AV.okg.eq_2, AV.gd.eq_1, AV.gd.eq_2, AV.cells.eq_1, AV.cells.eq_2, AV.one.eq_1, AV.one.eq_2, AV.one.eq_3, AV.one.eq_4, AV.one.eq_5, AV.one.eq_6, AV.ones, AV.slen.eq_1, AV.slen.eq_2, AV.isS.eq_1, AV.isS.eq_2, AV.isS.eq_3, AV.isPtr, AV.gl, AV.isG, Value.oneCell', Nat.add_assoc, cut_of_le, nat_lt0, nat_le0, vv, unk]
  · exact hs.elim
theorem p53 : P0 [] 111 g53 := by
  refine mk1 (S := []) tb_nil Tryd.func111 rfl (by kernel_rfl) ii (fun x a h => deI_out h) (fun a => rfl) (fun a h n => ?_)
  simp [awp_skip, awp_label, awp_region, awp_seq, awp_if, awp_block, awp_ret, awp_scope, awp_exit, thenQ_n, thenQ_e, thenQ_r, blockQ_n, blockQ_e, blockQ_r, finQ_n, finQ_r, finQ_e, resAll, resVal, resOne, aops_nil, aops_cons, atl_nil, atl_cons, atlAll_nil, atlAll_cons, freeOp, List.filter_cons, List.filter_nil, adraw_eq, adrawA_nil, adrawA_cons, isA, goOp, appNew, mkOp, gev, Region.binds, Heap.le_refl, aop, aeval, gocall, heapOp, quietOp, ev, constAV, setd, yav, ystop, up, env0, cx_ti, cx_G, cx_pf, ti, globS, glob, pfL, lds, ldc, ldcs, sts, sth, sls, slc, wr, place, fillOk, fillC, repZ, binI, isDiv, optInt, optI, eksOk, eksEq, EK.ok, EK.eq, AV.i, AV.isI, AV.isInt, AV.b.eq_1, AV.b.eq_2, AV.isB.eq_1, AV.isB.eq_2, AV.str, AV.isStr, unc_same, unc_tt, unc_tf, unc_f, unc_any, unc_v, unc_gp, unc_p, unc_s, unc_g, unc_e, unc_t, unc_fn, unc_okb, unc_bb, unc_isB, unc_b, AV.bb.eq_1, AV.bb.eq_2, AV.okb.eq_1, AV.okb.eq_2, AV.okg.eq_1, AV.okg.eq_2, AV.gd.eq_1, AV.gd.eq_2, AV.cells.eq_1, AV.cells.eq_2, AV.one.eq_1, AV.one.eq_2, AV.one.eq_3, AV.one.eq_4, AV.one.eq_5, AV.one.eq_6, AV.ones, AV.slen.eq_1, AV.slen.eq_2, AV.isS.eq_1, AV.isS.eq_2, AV.isS.eq_3, AV.isPtr, AV.gl, AV.isG, Value.oneCell', Nat.add_assoc, cut_of_le, nat_lt0, nat_le0, vv, ii, knownV]
end Go.Proofs.YtkfphaphiikloaaDoor
