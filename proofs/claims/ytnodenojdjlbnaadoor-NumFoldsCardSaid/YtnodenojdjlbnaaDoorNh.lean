/-
  THE NUMBERS OF THIS PROGRAM, PART H: Fold, on both sides.
-/
import Derived.Test.YtnodenojdjlbnaaDoorNg
set_option linter.unusedSimpArgs false
namespace Go.Proofs.YtnodenojdjlbnaaDoor
open Go Go.Eng

theorem ints_congr {h h' : Heap} {a : AV} {l : List Int} (hh : ∀ id ver off len, a = .s id ver off len → ∀ k, h id = some k → ∃ k', h' id = some k' ∧ k'.cells = k.cells ∧ k'.ver = k.ver) (e : ints h a = some l) : ints h' a = some l := by
  unfold ints at e ⊢
  split at e
  · split at e
    · rename_i k hk
      obtain ⟨k', q1, q2, q3⟩ := hh _ _ _ _ rfl k hk
      simp only [q1, q2, q3]
      exact e
    · cases e
  · exact e
  · cases e
/-- A new block does not turn what is read. -/
theorem ints_up {h : Heap} {n : Nat} {a : AV} {l : List Int} (e : ints h a = some l) (hn : ∀ i, n ≤ i → h i = none) (b : Option Blk) : ints (up (roH h) n b) a = some l :=
  ints_congr (fun id ver off len _ k hk => ⟨⟨k.cells, k.ver, false, k.esz⟩, by
    have := ne_of hk hn 0
    simp only [Nat.add_zero] at this
    simp [up, this, ro_at hk], rfl, rfl⟩) e
def foldG (s : List Int → V) (o : Int) (l : List Int) : V :=
  if o = 5 then knownV l.length else if o = 6 then s l else if l = [] then unk else if o = 7 then knownV (extAt false l l.length) else if o = 8 then knownV (extAt true l l.length) else
  if o = 9 then knownV (l.getD 0 0) else if o = 10 then knownV (l.getD (l.length - 1) 0) else unk
def g33 := pureAL deI (fun _ _ => True) fun o l => vv (foldG sumL o l)
def g34 := pureAL deI (fun _ _ => True) fun o l => vv (foldG rsumL o l)
def tb34 : List (FuncId × (List AV → Heap → PRes)) := [(52, g52), (53, g53), (56, g56), (57, g57)]
theorem wrap_last {n : Nat} (h0 : 0 < n) (h : n < big) : IntKind.i64.wrap ((n : Int) - 1) = ((n - 1 : Nat) : Int) := by
  unfold big at h
  have e : IntKind.i64.wrap ((n : Int) - 1) = (n : Int) - 1 := W_id (by unfold Rng; omega)
  rw [e]
  omega
set_option maxRecDepth 100000 in
set_option maxHeartbeats 1000000 in
theorem p34 : P0 [] 34 g34 := by
  refine mkAL (S := []) (l := tb34) (tb_cons p52 (tb_cons p53 (tb_cons p56 (tb_cons p57 tb_nil)))) Tryd.func34 rfl (by kernel_rfl) ii (fun x a h => deI_out h) (fun a b => rfl) (fun o a l h n hi hl _ hn => ?_)
  have hup := ints_up hi hn
  rcases ints_cases hi with ⟨rfl, rfl⟩ | ⟨id, off, k, rfl, hk, hoff, hat⟩
  · by_cases h5 : o = 5
    · subst h5
      simp [awp_skip, awp_label, awp_region, awp_seq, awp_if, awp_block, awp_ret, awp_exit, thenQ, blockQ, finQ, resAll, resVal, resOne, aops, atl, adraw, adrawA, isA, goOp, astep, gev, Region.binds, Heap.le_refl, aop, aeval, gocall, heapOp, quietOp, ev, constAV, setd, yav, ystop, up, env0, cx_ti, cx_G, cx_pf, ti, globS, glob, pfL, lds, ldc, ldcs, sts, sth, sls, slc, wr, place, fillOk, fillC, repZ, binI, isDiv, optInt, optI, eksOk, eksEq, EK.ok, EK.eq, AV.i, AV.isI, AV.isInt, AV.b.eq_1, AV.b.eq_2, AV.isB.eq_1, AV.isB.eq_2, AV.str, AV.isStr, unc_same, unc_tt, unc_tf, unc_f, unc_any, unc_v, unc_gp, unc_p, unc_s, unc_g, unc_e, unc_t, unc_fn, unc_okb, unc_bb, unc_isB, unc_b, AV.bb.eq_1, AV.bb.eq_2, AV.okb.eq_1, AV.okb.eq_2, AV.okg.eq_1, AV.okg.eq_2, AV.gd.eq_1, AV.gd.eq_2, AV.cells, AV.one, AV.ones, AV.slen, AV.isS, AV.isPtr, AV.gl, AV.isG, Value.oneCell', Nat.add_assoc, Tryd.f34, ii, tb34, g53, pure1, deI, vv, knownV, foldG]
    by_cases h6 : o = 6
    · subst h6
      simp [awp_skip, awp_label, awp_region, awp_seq, awp_if, awp_block, awp_ret, awp_exit, thenQ, blockQ, finQ, resAll, resVal, resOne, aops, atl, adraw, adrawA, isA, goOp, astep, gev, Region.binds, Heap.le_refl, aop, aeval, gocall, heapOp, quietOp, ev, constAV, setd, yav, ystop, up, env0, cx_ti, cx_G, cx_pf, ti, globS, glob, pfL, lds, ldc, ldcs, sts, sth, sls, slc, wr, place, fillOk, fillC, repZ, binI, isDiv, optInt, optI, eksOk, eksEq, EK.ok, EK.eq, AV.i, AV.isI, AV.isInt, AV.b.eq_1, AV.b.eq_2, AV.isB.eq_1, AV.isB.eq_2, AV.str, AV.isStr, unc_same, unc_tt, unc_tf, unc_f, unc_any, unc_v, unc_gp, unc_p, unc_s, unc_g, unc_e, unc_t, unc_fn, unc_okb, unc_bb, unc_isB, unc_b, AV.bb.eq_1, AV.bb.eq_2, AV.okb.eq_1, AV.okb.eq_2, AV.okg.eq_1, AV.okg.eq_2, AV.gd.eq_1, AV.gd.eq_2, AV.cells, AV.one, AV.ones, AV.slen, AV.isS, AV.isPtr, AV.gl, AV.isG, Value.oneCell', Nat.add_assoc, Tryd.f34, ii, tb34, g56, pureL, hup, vv, foldG, big]
    simp [awp_skip, awp_label, awp_region, awp_seq, awp_if, awp_block, awp_ret, awp_exit, thenQ, blockQ, finQ, resAll, resVal, resOne, aops, atl, adraw, adrawA, isA, goOp, astep, gev, Region.binds, Heap.le_refl, aop, aeval, gocall, heapOp, quietOp, ev, constAV, setd, yav, ystop, up, env0, cx_ti, cx_G, cx_pf, ti, globS, glob, pfL, lds, ldc, ldcs, sts, sth, sls, slc, wr, place, fillOk, fillC, repZ, binI, isDiv, optInt, optI, eksOk, eksEq, EK.ok, EK.eq, AV.i, AV.isI, AV.isInt, AV.b.eq_1, AV.b.eq_2, AV.isB.eq_1, AV.isB.eq_2, AV.str, AV.isStr, unc_same, unc_tt, unc_tf, unc_f, unc_any, unc_v, unc_gp, unc_p, unc_s, unc_g, unc_e, unc_t, unc_fn, unc_okb, unc_bb, unc_isB, unc_b, AV.bb.eq_1, AV.bb.eq_2, AV.okb.eq_1, AV.okb.eq_2, AV.okg.eq_1, AV.okg.eq_2, AV.gd.eq_1, AV.gd.eq_2, AV.cells, AV.one, AV.ones, AV.slen, AV.isS, AV.isPtr, AV.gl, AV.isG, Value.oneCell', Nat.add_assoc, Tryd.f34, ii, tb34, g52, h5, h6, vv, foldG]
  · have h0 := ne_of hk hn 0
    simp only [Nat.add_zero] at h0
    have hro := ro_at hk
    by_cases h5 : o = 5
    · subst h5
      simp [awp_skip, awp_label, awp_region, awp_seq, awp_if, awp_block, awp_ret, awp_exit, thenQ, blockQ, finQ, resAll, resVal, resOne, aops, atl, adraw, adrawA, isA, goOp, astep, gev, Region.binds, Heap.le_refl, aop, aeval, gocall, heapOp, quietOp, ev, constAV, setd, yav, ystop, up, env0, cx_ti, cx_G, cx_pf, ti, globS, glob, pfL, lds, ldc, ldcs, sts, sth, sls, slc, wr, place, fillOk, fillC, repZ, binI, isDiv, optInt, optI, eksOk, eksEq, EK.ok, EK.eq, AV.i, AV.isI, AV.isInt, AV.b.eq_1, AV.b.eq_2, AV.isB.eq_1, AV.isB.eq_2, AV.str, AV.isStr, unc_same, unc_tt, unc_tf, unc_f, unc_any, unc_v, unc_gp, unc_p, unc_s, unc_g, unc_e, unc_t, unc_fn, unc_okb, unc_bb, unc_isB, unc_b, AV.bb.eq_1, AV.bb.eq_2, AV.okb.eq_1, AV.okb.eq_2, AV.okg.eq_1, AV.okg.eq_2, AV.gd.eq_1, AV.gd.eq_2, AV.cells, AV.one, AV.ones, AV.slen, AV.isS, AV.isPtr, AV.gl, AV.isG, Value.oneCell', Nat.add_assoc, Tryd.f34, ii, tb34, g53, pure1, deI, vv, knownV, foldG]
    by_cases h6 : o = 6
    · subst h6
      simp [awp_skip, awp_label, awp_region, awp_seq, awp_if, awp_block, awp_ret, awp_exit, thenQ, blockQ, finQ, resAll, resVal, resOne, aops, atl, adraw, adrawA, isA, goOp, astep, gev, Region.binds, Heap.le_refl, aop, aeval, gocall, heapOp, quietOp, ev, constAV, setd, yav, ystop, up, env0, cx_ti, cx_G, cx_pf, ti, globS, glob, pfL, lds, ldc, ldcs, sts, sth, sls, slc, wr, place, fillOk, fillC, repZ, binI, isDiv, optInt, optI, eksOk, eksEq, EK.ok, EK.eq, AV.i, AV.isI, AV.isInt, AV.b.eq_1, AV.b.eq_2, AV.isB.eq_1, AV.isB.eq_2, AV.str, AV.isStr, unc_same, unc_tt, unc_tf, unc_f, unc_any, unc_v, unc_gp, unc_p, unc_s, unc_g, unc_e, unc_t, unc_fn, unc_okb, unc_bb, unc_isB, unc_b, AV.bb.eq_1, AV.bb.eq_2, AV.okb.eq_1, AV.okb.eq_2, AV.okg.eq_1, AV.okg.eq_2, AV.gd.eq_1, AV.gd.eq_2, AV.cells, AV.one, AV.ones, AV.slen, AV.isS, AV.isPtr, AV.gl, AV.isG, Value.oneCell', Nat.add_assoc, Tryd.f34, ii, tb34, g56, pureL, hup, vv, foldG, hl]
    by_cases hz : l = []
    · subst hz
      simp [awp_skip, awp_label, awp_region, awp_seq, awp_if, awp_block, awp_ret, awp_exit, thenQ, blockQ, finQ, resAll, resVal, resOne, aops, atl, adraw, adrawA, isA, goOp, astep, gev, Region.binds, Heap.le_refl, aop, aeval, gocall, heapOp, quietOp, ev, constAV, setd, yav, ystop, up, env0, cx_ti, cx_G, cx_pf, ti, globS, glob, pfL, lds, ldc, ldcs, sts, sth, sls, slc, wr, place, fillOk, fillC, repZ, binI, isDiv, optInt, optI, eksOk, eksEq, EK.ok, EK.eq, AV.i, AV.isI, AV.isInt, AV.b.eq_1, AV.b.eq_2, AV.isB.eq_1, AV.isB.eq_2, AV.str, AV.isStr, unc_same, unc_tt, unc_tf, unc_f, unc_any, unc_v, unc_gp, unc_p, unc_s, unc_g, unc_e, unc_t, unc_fn, unc_okb, unc_bb, unc_isB, unc_b, AV.bb.eq_1, AV.bb.eq_2, AV.okb.eq_1, AV.okb.eq_2, AV.okg.eq_1, AV.okg.eq_2, AV.gd.eq_1, AV.gd.eq_2, AV.cells, AV.one, AV.ones, AV.slen, AV.isS, AV.isPtr, AV.gl, AV.isG, Value.oneCell', Nat.add_assoc, Tryd.f34, ii, tb34, g52, h5, h6, vv, foldG]
    have hp : 0 < l.length := List.length_pos_iff.2 hz
    have hp' : ¬ l.length = 0 := by omega
    by_cases h7 : o = 7
    · subst h7
      simp [awp_skip, awp_label, awp_region, awp_seq, awp_if, awp_block, awp_ret, awp_exit, thenQ, blockQ, finQ, resAll, resVal, resOne, aops, atl, adraw, adrawA, isA, goOp, astep, gev, Region.binds, Heap.le_refl, aop, aeval, gocall, heapOp, quietOp, ev, constAV, setd, yav, ystop, up, env0, cx_ti, cx_G, cx_pf, ti, globS, glob, pfL, lds, ldc, ldcs, sts, sth, sls, slc, wr, place, fillOk, fillC, repZ, binI, isDiv, optInt, optI, eksOk, eksEq, EK.ok, EK.eq, AV.i, AV.isI, AV.isInt, AV.b.eq_1, AV.b.eq_2, AV.isB.eq_1, AV.isB.eq_2, AV.str, AV.isStr, unc_same, unc_tt, unc_tf, unc_f, unc_any, unc_v, unc_gp, unc_p, unc_s, unc_g, unc_e, unc_t, unc_fn, unc_okb, unc_bb, unc_isB, unc_b, AV.bb.eq_1, AV.bb.eq_2, AV.okb.eq_1, AV.okb.eq_2, AV.okg.eq_1, AV.okg.eq_2, AV.gd.eq_1, AV.gd.eq_2, AV.cells, AV.one, AV.ones, AV.slen, AV.isS, AV.isPtr, AV.gl, AV.isG, Value.oneCell', Nat.add_assoc, Tryd.f34, ii, tb34, g53, g57, pureLA, pure1, deB, deI, hup, vv, knownV, foldG, hz, hl, hp]
    by_cases h8 : o = 8
    · subst h8
      simp [awp_skip, awp_label, awp_region, awp_seq, awp_if, awp_block, awp_ret, awp_exit, thenQ, blockQ, finQ, resAll, resVal, resOne, aops, atl, adraw, adrawA, isA, goOp, astep, gev, Region.binds, Heap.le_refl, aop, aeval, gocall, heapOp, quietOp, ev, constAV, setd, yav, ystop, up, env0, cx_ti, cx_G, cx_pf, ti, globS, glob, pfL, lds, ldc, ldcs, sts, sth, sls, slc, wr, place, fillOk, fillC, repZ, binI, isDiv, optInt, optI, eksOk, eksEq, EK.ok, EK.eq, AV.i, AV.isI, AV.isInt, AV.b.eq_1, AV.b.eq_2, AV.isB.eq_1, AV.isB.eq_2, AV.str, AV.isStr, unc_same, unc_tt, unc_tf, unc_f, unc_any, unc_v, unc_gp, unc_p, unc_s, unc_g, unc_e, unc_t, unc_fn, unc_okb, unc_bb, unc_isB, unc_b, AV.bb.eq_1, AV.bb.eq_2, AV.okb.eq_1, AV.okb.eq_2, AV.okg.eq_1, AV.okg.eq_2, AV.gd.eq_1, AV.gd.eq_2, AV.cells, AV.one, AV.ones, AV.slen, AV.isS, AV.isPtr, AV.gl, AV.isG, Value.oneCell', Nat.add_assoc, Tryd.f34, ii, tb34, g53, g57, pureLA, pure1, deB, deI, hup, vv, knownV, foldG, hz, hl, hp]
    by_cases h9 : o = 9
    · subst h9
      have hget0 := hat 0 hp
      simp only [Nat.add_zero] at hget0
      simp [awp_skip, awp_label, awp_region, awp_seq, awp_if, awp_block, awp_ret, awp_exit, thenQ, blockQ, finQ, resAll, resVal, resOne, aops, atl, adraw, adrawA, isA, goOp, astep, gev, Region.binds, Heap.le_refl, aop, aeval, gocall, heapOp, quietOp, ev, constAV, setd, yav, ystop, up, env0, cx_ti, cx_G, cx_pf, ti, globS, glob, pfL, lds, ldc, ldcs, sts, sth, sls, slc, wr, place, fillOk, fillC, repZ, binI, isDiv, optInt, optI, eksOk, eksEq, EK.ok, EK.eq, AV.i, AV.isI, AV.isInt, AV.b.eq_1, AV.b.eq_2, AV.isB.eq_1, AV.isB.eq_2, AV.str, AV.isStr, unc_same, unc_tt, unc_tf, unc_f, unc_any, unc_v, unc_gp, unc_p, unc_s, unc_g, unc_e, unc_t, unc_fn, unc_okb, unc_bb, unc_isB, unc_b, AV.bb.eq_1, AV.bb.eq_2, AV.okb.eq_1, AV.okb.eq_2, AV.okg.eq_1, AV.okg.eq_2, AV.gd.eq_1, AV.gd.eq_2, AV.cells, AV.one, AV.ones, AV.slen, AV.isS, AV.isPtr, AV.gl, AV.isG, Value.oneCell', Nat.add_assoc, Tryd.f34, ii, tb34, g53, pure1, deI, hup, vv, knownV, foldG, hz, hl, hp, hro, h0, hget0]
      omega
    by_cases h10 : o = 10
    · subst h10
      have hget0 := hat (l.length - 1) (by omega)
      have hw := wrap_last hp hl
      simp [awp_skip, awp_label, awp_region, awp_seq, awp_if, awp_block, awp_ret, awp_exit, thenQ, blockQ, finQ, resAll, resVal, resOne, aops, atl, adraw, adrawA, isA, goOp, astep, gev, Region.binds, Heap.le_refl, aop, aeval, gocall, heapOp, quietOp, ev, constAV, setd, yav, ystop, up, env0, cx_ti, cx_G, cx_pf, ti, globS, glob, pfL, lds, ldc, ldcs, sts, sth, sls, slc, wr, place, fillOk, fillC, repZ, binI, isDiv, optInt, optI, eksOk, eksEq, EK.ok, EK.eq, AV.i, AV.isI, AV.isInt, AV.b.eq_1, AV.b.eq_2, AV.isB.eq_1, AV.isB.eq_2, AV.str, AV.isStr, unc_same, unc_tt, unc_tf, unc_f, unc_any, unc_v, unc_gp, unc_p, unc_s, unc_g, unc_e, unc_t, unc_fn, unc_okb, unc_bb, unc_isB, unc_b, AV.bb.eq_1, AV.bb.eq_2, AV.okb.eq_1, AV.okb.eq_2, AV.okg.eq_1, AV.okg.eq_2, AV.gd.eq_1, AV.gd.eq_2, AV.cells, AV.one, AV.ones, AV.slen, AV.isS, AV.isPtr, AV.gl, AV.isG, Value.oneCell', Nat.add_assoc, Tryd.f34, ii, tb34, g53, pure1, deI, hup, vv, knownV, foldG, hz, hl, hp, hro, h0, hget0, hw]
      omega
    simp [awp_skip, awp_label, awp_region, awp_seq, awp_if, awp_block, awp_ret, awp_exit, thenQ, blockQ, finQ, resAll, resVal, resOne, aops, atl, adraw, adrawA, isA, goOp, astep, gev, Region.binds, Heap.le_refl, aop, aeval, gocall, heapOp, quietOp, ev, constAV, setd, yav, ystop, up, env0, cx_ti, cx_G, cx_pf, ti, globS, glob, pfL, lds, ldc, ldcs, sts, sth, sls, slc, wr, place, fillOk, fillC, repZ, binI, isDiv, optInt, optI, eksOk, eksEq, EK.ok, EK.eq, AV.i, AV.isI, AV.isInt, AV.b.eq_1, AV.b.eq_2, AV.isB.eq_1, AV.isB.eq_2, AV.str, AV.isStr, unc_same, unc_tt, unc_tf, unc_f, unc_any, unc_v, unc_gp, unc_p, unc_s, unc_g, unc_e, unc_t, unc_fn, unc_okb, unc_bb, unc_isB, unc_b, AV.bb.eq_1, AV.bb.eq_2, AV.okb.eq_1, AV.okb.eq_2, AV.okg.eq_1, AV.okg.eq_2, AV.gd.eq_1, AV.gd.eq_2, AV.cells, AV.one, AV.ones, AV.slen, AV.isS, AV.isPtr, AV.gl, AV.isG, Value.oneCell', Nat.add_assoc, Tryd.f34, ii, tb34, g52, h5, h6, h7, h8, h9, h10, vv, foldG, hz]
def tb33 : List (FuncId × (List AV → Heap → PRes)) := [(51, g51), (55, g55)]
set_option maxRecDepth 100000 in
set_option maxHeartbeats 1000000 in
theorem p33 : P0 [3] 33 g33 := by
  refine mkAL (S := [3]) (l := tb33) (tb_cons p51 (tb_cons p55 tb_nil)) Tryd.func33 rfl (by kernel_rfl) ii (fun x a h => deI_out h) (fun a b => rfl) (fun o a l h n hi hl _ hn => ?_)
  have hup := ints_up hi hn
  have key : ∀ e : Nat → AV, e 0 = ii o → e 1 = a → awp (cx [3] (pfL tb33)) (Tryd.f33.body.getD .skip) (finQ (cx [3] (pfL tb33)) Tryd.f33 fun z _ _ => z = vv (foldG sumL o l)) ⟨e, roH h, n⟩ := fun e he he1 => by
    rcases ints_cases hi with ⟨rfl, rfl⟩ | ⟨id, off, k, rfl, hk, hoff, hat⟩
    · by_cases h5 : o = 5
      · subst h5
        simp [awp_skip, awp_label, awp_region, awp_seq, awp_if, awp_block, awp_ret, awp_exit, thenQ, blockQ, finQ, resAll, resVal, resOne, aops, atl, adraw, adrawA, isA, goOp, astep, gev, Region.binds, Heap.le_refl, aop, aeval, gocall, heapOp, quietOp, ev, constAV, setd, yav, ystop, up, env0, cx_ti, cx_G, cx_pf, ti, globS, glob, pfL, lds, ldc, ldcs, sts, sth, sls, slc, wr, place, fillOk, fillC, repZ, binI, isDiv, optInt, optI, eksOk, eksEq, EK.ok, EK.eq, AV.i, AV.isI, AV.isInt, AV.b.eq_1, AV.b.eq_2, AV.isB.eq_1, AV.isB.eq_2, AV.str, AV.isStr, unc_same, unc_tt, unc_tf, unc_f, unc_any, unc_v, unc_gp, unc_p, unc_s, unc_g, unc_e, unc_t, unc_fn, unc_okb, unc_bb, unc_isB, unc_b, AV.bb.eq_1, AV.bb.eq_2, AV.okb.eq_1, AV.okb.eq_2, AV.okg.eq_1, AV.okg.eq_2, AV.gd.eq_1, AV.gd.eq_2, AV.cells, AV.one, AV.ones, AV.slen, AV.isS, AV.isPtr, AV.gl, AV.isG, Value.oneCell', Nat.add_assoc, Tryd.f33, he, he1, ii, tb33, g51, pure1, deI, vv, knownV, foldG]
      by_cases h6 : o = 6
      · subst h6
        simp [awp_skip, awp_label, awp_region, awp_seq, awp_if, awp_block, awp_ret, awp_exit, thenQ, blockQ, finQ, resAll, resVal, resOne, aops, atl, adraw, adrawA, isA, goOp, astep, gev, Region.binds, Heap.le_refl, aop, aeval, gocall, heapOp, quietOp, ev, constAV, setd, yav, ystop, up, env0, cx_ti, cx_G, cx_pf, ti, globS, glob, pfL, lds, ldc, ldcs, sts, sth, sls, slc, wr, place, fillOk, fillC, repZ, binI, isDiv, optInt, optI, eksOk, eksEq, EK.ok, EK.eq, AV.i, AV.isI, AV.isInt, AV.b.eq_1, AV.b.eq_2, AV.isB.eq_1, AV.isB.eq_2, AV.str, AV.isStr, unc_same, unc_tt, unc_tf, unc_f, unc_any, unc_v, unc_gp, unc_p, unc_s, unc_g, unc_e, unc_t, unc_fn, unc_okb, unc_bb, unc_isB, unc_b, AV.bb.eq_1, AV.bb.eq_2, AV.okb.eq_1, AV.okb.eq_2, AV.okg.eq_1, AV.okg.eq_2, AV.gd.eq_1, AV.gd.eq_2, AV.cells, AV.one, AV.ones, AV.slen, AV.isS, AV.isPtr, AV.gl, AV.isG, Value.oneCell', Nat.add_assoc, Tryd.f33, he, he1, ii, tb33, g55, pureL, hup, vv, foldG, big]
      simp [awp_skip, awp_label, awp_region, awp_seq, awp_if, awp_block, awp_ret, awp_exit, thenQ, blockQ, finQ, resAll, resVal, resOne, aops, atl, adraw, adrawA, isA, goOp, astep, gev, Region.binds, Heap.le_refl, aop, aeval, gocall, heapOp, quietOp, ev, constAV, setd, yav, ystop, up, env0, cx_ti, cx_G, cx_pf, ti, globS, glob, pfL, lds, ldc, ldcs, sts, sth, sls, slc, wr, place, fillOk, fillC, repZ, binI, isDiv, optInt, optI, eksOk, eksEq, EK.ok, EK.eq, AV.i, AV.isI, AV.isInt, AV.b.eq_1, AV.b.eq_2, AV.isB.eq_1, AV.isB.eq_2, AV.str, AV.isStr, unc_same, unc_tt, unc_tf, unc_f, unc_any, unc_v, unc_gp, unc_p, unc_s, unc_g, unc_e, unc_t, unc_fn, unc_okb, unc_bb, unc_isB, unc_b, AV.bb.eq_1, AV.bb.eq_2, AV.okb.eq_1, AV.okb.eq_2, AV.okg.eq_1, AV.okg.eq_2, AV.gd.eq_1, AV.gd.eq_2, AV.cells, AV.one, AV.ones, AV.slen, AV.isS, AV.isPtr, AV.gl, AV.isG, Value.oneCell', Nat.add_assoc, Tryd.f33, he, he1, ii, tb33, h5, h6, vv, unk, foldG]
    · have h0 := ne_of hk hn 0
      simp only [Nat.add_zero] at h0
      have hro := ro_at hk
      by_cases h5 : o = 5
      · subst h5
        simp [awp_skip, awp_label, awp_region, awp_seq, awp_if, awp_block, awp_ret, awp_exit, thenQ, blockQ, finQ, resAll, resVal, resOne, aops, atl, adraw, adrawA, isA, goOp, astep, gev, Region.binds, Heap.le_refl, aop, aeval, gocall, heapOp, quietOp, ev, constAV, setd, yav, ystop, up, env0, cx_ti, cx_G, cx_pf, ti, globS, glob, pfL, lds, ldc, ldcs, sts, sth, sls, slc, wr, place, fillOk, fillC, repZ, binI, isDiv, optInt, optI, eksOk, eksEq, EK.ok, EK.eq, AV.i, AV.isI, AV.isInt, AV.b.eq_1, AV.b.eq_2, AV.isB.eq_1, AV.isB.eq_2, AV.str, AV.isStr, unc_same, unc_tt, unc_tf, unc_f, unc_any, unc_v, unc_gp, unc_p, unc_s, unc_g, unc_e, unc_t, unc_fn, unc_okb, unc_bb, unc_isB, unc_b, AV.bb.eq_1, AV.bb.eq_2, AV.okb.eq_1, AV.okb.eq_2, AV.okg.eq_1, AV.okg.eq_2, AV.gd.eq_1, AV.gd.eq_2, AV.cells, AV.one, AV.ones, AV.slen, AV.isS, AV.isPtr, AV.gl, AV.isG, Value.oneCell', Nat.add_assoc, Tryd.f33, he, he1, ii, tb33, g51, pure1, deI, vv, knownV, foldG]
      by_cases h6 : o = 6
      · subst h6
        simp [awp_skip, awp_label, awp_region, awp_seq, awp_if, awp_block, awp_ret, awp_exit, thenQ, blockQ, finQ, resAll, resVal, resOne, aops, atl, adraw, adrawA, isA, goOp, astep, gev, Region.binds, Heap.le_refl, aop, aeval, gocall, heapOp, quietOp, ev, constAV, setd, yav, ystop, up, env0, cx_ti, cx_G, cx_pf, ti, globS, glob, pfL, lds, ldc, ldcs, sts, sth, sls, slc, wr, place, fillOk, fillC, repZ, binI, isDiv, optInt, optI, eksOk, eksEq, EK.ok, EK.eq, AV.i, AV.isI, AV.isInt, AV.b.eq_1, AV.b.eq_2, AV.isB.eq_1, AV.isB.eq_2, AV.str, AV.isStr, unc_same, unc_tt, unc_tf, unc_f, unc_any, unc_v, unc_gp, unc_p, unc_s, unc_g, unc_e, unc_t, unc_fn, unc_okb, unc_bb, unc_isB, unc_b, AV.bb.eq_1, AV.bb.eq_2, AV.okb.eq_1, AV.okb.eq_2, AV.okg.eq_1, AV.okg.eq_2, AV.gd.eq_1, AV.gd.eq_2, AV.cells, AV.one, AV.ones, AV.slen, AV.isS, AV.isPtr, AV.gl, AV.isG, Value.oneCell', Nat.add_assoc, Tryd.f33, he, he1, ii, tb33, g55, pureL, hup, vv, foldG, hl]
      by_cases hz : l = []
      · subst hz
        simp [awp_skip, awp_label, awp_region, awp_seq, awp_if, awp_block, awp_ret, awp_exit, thenQ, blockQ, finQ, resAll, resVal, resOne, aops, atl, adraw, adrawA, isA, goOp, astep, gev, Region.binds, Heap.le_refl, aop, aeval, gocall, heapOp, quietOp, ev, constAV, setd, yav, ystop, up, env0, cx_ti, cx_G, cx_pf, ti, globS, glob, pfL, lds, ldc, ldcs, sts, sth, sls, slc, wr, place, fillOk, fillC, repZ, binI, isDiv, optInt, optI, eksOk, eksEq, EK.ok, EK.eq, AV.i, AV.isI, AV.isInt, AV.b.eq_1, AV.b.eq_2, AV.isB.eq_1, AV.isB.eq_2, AV.str, AV.isStr, unc_same, unc_tt, unc_tf, unc_f, unc_any, unc_v, unc_gp, unc_p, unc_s, unc_g, unc_e, unc_t, unc_fn, unc_okb, unc_bb, unc_isB, unc_b, AV.bb.eq_1, AV.bb.eq_2, AV.okb.eq_1, AV.okb.eq_2, AV.okg.eq_1, AV.okg.eq_2, AV.gd.eq_1, AV.gd.eq_2, AV.cells, AV.one, AV.ones, AV.slen, AV.isS, AV.isPtr, AV.gl, AV.isG, Value.oneCell', Nat.add_assoc, Tryd.f33, he, he1, ii, tb33, h5, h6, vv, unk, foldG]
      have hp : 0 < l.length := List.length_pos_iff.2 hz
      have hp' : ¬ l.length = 0 := by omega
      have hget0 := hat 0 hp
      simp only [Nat.add_zero] at hget0
      have ho1 : off + 1 ≤ k.cells.length := by omega
      have hgl := hat (l.length - 1) (by omega)
      have hwl := wrap_last hp hl
      have hol : off + (l.length - 1 + 1) ≤ k.cells.length := by omega
      simp [awp_skip, awp_label, awp_region, awp_seq, awp_if, awp_block, awp_ret, awp_exit, thenQ, blockQ, finQ, resAll, resVal, resOne, aops, atl, adraw, adrawA, isA, goOp, astep, gev, Region.binds, Heap.le_refl, aop, aeval, gocall, heapOp, quietOp, ev, constAV, setd, yav, ystop, up, env0, cx_ti, cx_G, cx_pf, ti, globS, glob, pfL, lds, ldc, ldcs, sts, sth, sls, slc, wr, place, fillOk, fillC, repZ, binI, isDiv, optInt, optI, eksOk, eksEq, EK.ok, EK.eq, AV.i, AV.isI, AV.isInt, AV.b.eq_1, AV.b.eq_2, AV.isB.eq_1, AV.isB.eq_2, AV.str, AV.isStr, unc_same, unc_tt, unc_tf, unc_f, unc_any, unc_v, unc_gp, unc_p, unc_s, unc_g, unc_e, unc_t, unc_fn, unc_okb, unc_bb, unc_isB, unc_b, AV.bb.eq_1, AV.bb.eq_2, AV.okb.eq_1, AV.okb.eq_2, AV.okg.eq_1, AV.okg.eq_2, AV.gd.eq_1, AV.gd.eq_2, AV.cells, AV.one, AV.ones, AV.slen, AV.isS, AV.isPtr, AV.gl, AV.isG, Value.oneCell', Nat.add_assoc, Tryd.f33, he, he1, ii, tb33, h5, h6, hz, hp, hro, h0, hget0, ho1]
      refine awp_loop (fun s => ∃ j, j ≤ l.length ∧ s.e 0 = ii o ∧ s.e 1 = .s id k.ver off l.length ∧ s.e 29 = .s id k.ver off l.length ∧ s.e 30 = ii l.length ∧ s.e 31 = ii j ∧ s.e 4 = .p n 0 0 ∧ s.e 5 = ii (extAt false l j) ∧ s.e 6 = ii (extAt true l j) ∧ s.h n = some ⟨[.v (.bool false), .v (.int .i64 0)], 0, true, 2⟩ ∧ s.h id = some ⟨k.cells, k.ver, false, k.esz⟩) (fun s => l.length - (s.e 31).i.toNat) ⟨0, by simp [up, ii, he, he1, hro, h0, extAt, List.getD_eq_getElem?_getD, hp]⟩ ?_
      rintro e' h' n' ⟨j, hj, q0, q1, q29, q30, q31, q4, q5, q6, hh, hh2⟩
      simp only [] at q0 q1 q29 q30 q31 q4 q5 q6 hh hh2
      by_cases hlt : j < l.length
      · have hget := hat j hlt
        have hw := wrap_nat (j := j) (by omega)
        have hs := extAt_succ (g := false) hlt
        have hs' := extAt_succ (g := true) hlt
        have eg : l.getD j 0 = l[j] := by simp [List.getD_eq_getElem?_getD, hlt]
        rw [eg] at hget
        have ho : off + (j + 1) ≤ k.cells.length := by omega
        simp at hs hs'
        simp [awp_skip, awp_label, awp_region, awp_seq, awp_if, awp_block, awp_ret, awp_exit, thenQ, blockQ, finQ, resAll, resVal, resOne, aops, atl, adraw, adrawA, isA, goOp, astep, gev, Region.binds, Heap.le_refl, aop, aeval, gocall, heapOp, quietOp, ev, constAV, setd, yav, ystop, up, env0, cx_ti, cx_G, cx_pf, ti, globS, glob, pfL, lds, ldc, ldcs, sts, sth, sls, slc, wr, place, fillOk, fillC, repZ, binI, isDiv, optInt, optI, eksOk, eksEq, EK.ok, EK.eq, AV.i, AV.isI, AV.isInt, AV.b.eq_1, AV.b.eq_2, AV.isB.eq_1, AV.isB.eq_2, AV.str, AV.isStr, unc_same, unc_tt, unc_tf, unc_f, unc_any, unc_v, unc_gp, unc_p, unc_s, unc_g, unc_e, unc_t, unc_fn, unc_okb, unc_bb, unc_isB, unc_b, AV.bb.eq_1, AV.bb.eq_2, AV.okb.eq_1, AV.okb.eq_2, AV.okg.eq_1, AV.okg.eq_2, AV.gd.eq_1, AV.gd.eq_2, AV.cells, AV.one, AV.ones, AV.slen, AV.isS, AV.isPtr, AV.gl, AV.isG, Value.oneCell', Nat.add_assoc, q0, q1, q29, q30, q31, q4, q5, q6, hh, hh2, ii, hlt, hget, hw, ho, h0]
        exact ⟨⟨j + 1, by omega, by omega, by rw [hs], by rw [hs']⟩, by omega⟩
      · have hje : j = l.length := by omega
        subst hje
        by_cases h7 : o = 7
        · subst h7
          simp [awp_skip, awp_label, awp_region, awp_seq, awp_if, awp_block, awp_ret, awp_exit, thenQ, blockQ, finQ, resAll, resVal, resOne, aops, atl, adraw, adrawA, isA, goOp, astep, gev, Region.binds, Heap.le_refl, aop, aeval, gocall, heapOp, quietOp, ev, constAV, setd, yav, ystop, up, env0, cx_ti, cx_G, cx_pf, ti, globS, glob, pfL, lds, ldc, ldcs, sts, sth, sls, slc, wr, place, fillOk, fillC, repZ, binI, isDiv, optInt, optI, eksOk, eksEq, EK.ok, EK.eq, AV.i, AV.isI, AV.isInt, AV.b.eq_1, AV.b.eq_2, AV.isB.eq_1, AV.isB.eq_2, AV.str, AV.isStr, unc_same, unc_tt, unc_tf, unc_f, unc_any, unc_v, unc_gp, unc_p, unc_s, unc_g, unc_e, unc_t, unc_fn, unc_okb, unc_bb, unc_isB, unc_b, AV.bb.eq_1, AV.bb.eq_2, AV.okb.eq_1, AV.okb.eq_2, AV.okg.eq_1, AV.okg.eq_2, AV.gd.eq_1, AV.gd.eq_2, AV.cells, AV.one, AV.ones, AV.slen, AV.isS, AV.isPtr, AV.gl, AV.isG, Value.oneCell', Nat.add_assoc, q0, q1, q29, q30, q31, q4, q5, q6, hh, hh2, ii, h0, tb33, g51, pure1, deI, vv, knownV, foldG, hz]
        by_cases h8 : o = 8
        · subst h8
          simp [awp_skip, awp_label, awp_region, awp_seq, awp_if, awp_block, awp_ret, awp_exit, thenQ, blockQ, finQ, resAll, resVal, resOne, aops, atl, adraw, adrawA, isA, goOp, astep, gev, Region.binds, Heap.le_refl, aop, aeval, gocall, heapOp, quietOp, ev, constAV, setd, yav, ystop, up, env0, cx_ti, cx_G, cx_pf, ti, globS, glob, pfL, lds, ldc, ldcs, sts, sth, sls, slc, wr, place, fillOk, fillC, repZ, binI, isDiv, optInt, optI, eksOk, eksEq, EK.ok, EK.eq, AV.i, AV.isI, AV.isInt, AV.b.eq_1, AV.b.eq_2, AV.isB.eq_1, AV.isB.eq_2, AV.str, AV.isStr, unc_same, unc_tt, unc_tf, unc_f, unc_any, unc_v, unc_gp, unc_p, unc_s, unc_g, unc_e, unc_t, unc_fn, unc_okb, unc_bb, unc_isB, unc_b, AV.bb.eq_1, AV.bb.eq_2, AV.okb.eq_1, AV.okb.eq_2, AV.okg.eq_1, AV.okg.eq_2, AV.gd.eq_1, AV.gd.eq_2, AV.cells, AV.one, AV.ones, AV.slen, AV.isS, AV.isPtr, AV.gl, AV.isG, Value.oneCell', Nat.add_assoc, q0, q1, q29, q30, q31, q4, q5, q6, hh, hh2, ii, h0, tb33, g51, pure1, deI, vv, knownV, foldG, hz]
        by_cases h9 : o = 9
        · subst h9
          simp [awp_skip, awp_label, awp_region, awp_seq, awp_if, awp_block, awp_ret, awp_exit, thenQ, blockQ, finQ, resAll, resVal, resOne, aops, atl, adraw, adrawA, isA, goOp, astep, gev, Region.binds, Heap.le_refl, aop, aeval, gocall, heapOp, quietOp, ev, constAV, setd, yav, ystop, up, env0, cx_ti, cx_G, cx_pf, ti, globS, glob, pfL, lds, ldc, ldcs, sts, sth, sls, slc, wr, place, fillOk, fillC, repZ, binI, isDiv, optInt, optI, eksOk, eksEq, EK.ok, EK.eq, AV.i, AV.isI, AV.isInt, AV.b.eq_1, AV.b.eq_2, AV.isB.eq_1, AV.isB.eq_2, AV.str, AV.isStr, unc_same, unc_tt, unc_tf, unc_f, unc_any, unc_v, unc_gp, unc_p, unc_s, unc_g, unc_e, unc_t, unc_fn, unc_okb, unc_bb, unc_isB, unc_b, AV.bb.eq_1, AV.bb.eq_2, AV.okb.eq_1, AV.okb.eq_2, AV.okg.eq_1, AV.okg.eq_2, AV.gd.eq_1, AV.gd.eq_2, AV.cells, AV.one, AV.ones, AV.slen, AV.isS, AV.isPtr, AV.gl, AV.isG, Value.oneCell', Nat.add_assoc, q0, q1, q29, q30, q31, q4, q5, q6, hh, hh2, ii, h0, tb33, g51, pure1, deI, vv, knownV, foldG, hz, hget0, ho1, hp]
        by_cases h10 : o = 10
        · subst h10
          simp [awp_skip, awp_label, awp_region, awp_seq, awp_if, awp_block, awp_ret, awp_exit, thenQ, blockQ, finQ, resAll, resVal, resOne, aops, atl, adraw, adrawA, isA, goOp, astep, gev, Region.binds, Heap.le_refl, aop, aeval, gocall, heapOp, quietOp, ev, constAV, setd, yav, ystop, up, env0, cx_ti, cx_G, cx_pf, ti, globS, glob, pfL, lds, ldc, ldcs, sts, sth, sls, slc, wr, place, fillOk, fillC, repZ, binI, isDiv, optInt, optI, eksOk, eksEq, EK.ok, EK.eq, AV.i, AV.isI, AV.isInt, AV.b.eq_1, AV.b.eq_2, AV.isB.eq_1, AV.isB.eq_2, AV.str, AV.isStr, unc_same, unc_tt, unc_tf, unc_f, unc_any, unc_v, unc_gp, unc_p, unc_s, unc_g, unc_e, unc_t, unc_fn, unc_okb, unc_bb, unc_isB, unc_b, AV.bb.eq_1, AV.bb.eq_2, AV.okb.eq_1, AV.okb.eq_2, AV.okg.eq_1, AV.okg.eq_2, AV.gd.eq_1, AV.gd.eq_2, AV.cells, AV.one, AV.ones, AV.slen, AV.isS, AV.isPtr, AV.gl, AV.isG, Value.oneCell', Nat.add_assoc, q0, q1, q29, q30, q31, q4, q5, q6, hh, hh2, ii, h0, tb33, g51, pure1, deI, vv, knownV, foldG, hz, hgl, hwl, hol, hp]
          omega
        simp [awp_skip, awp_label, awp_region, awp_seq, awp_if, awp_block, awp_ret, awp_exit, thenQ, blockQ, finQ, resAll, resVal, resOne, aops, atl, adraw, adrawA, isA, goOp, astep, gev, Region.binds, Heap.le_refl, aop, aeval, gocall, heapOp, quietOp, ev, constAV, setd, yav, ystop, up, env0, cx_ti, cx_G, cx_pf, ti, globS, glob, pfL, lds, ldc, ldcs, sts, sth, sls, slc, wr, place, fillOk, fillC, repZ, binI, isDiv, optInt, optI, eksOk, eksEq, EK.ok, EK.eq, AV.i, AV.isI, AV.isInt, AV.b.eq_1, AV.b.eq_2, AV.isB.eq_1, AV.isB.eq_2, AV.str, AV.isStr, unc_same, unc_tt, unc_tf, unc_f, unc_any, unc_v, unc_gp, unc_p, unc_s, unc_g, unc_e, unc_t, unc_fn, unc_okb, unc_bb, unc_isB, unc_b, AV.bb.eq_1, AV.bb.eq_2, AV.okb.eq_1, AV.okb.eq_2, AV.okg.eq_1, AV.okg.eq_2, AV.gd.eq_1, AV.gd.eq_2, AV.cells, AV.one, AV.ones, AV.slen, AV.isS, AV.isPtr, AV.gl, AV.isG, Value.oneCell', Nat.add_assoc, q0, q1, q29, q30, q31, q4, q5, q6, hh, hh2, ii, h0, tb33, h7, h8, h9, h10, vv, unk, foldG, hz, h5, h6]
  exact key _ rfl rfl
end Go.Proofs.YtnodenojdjlbnaaDoor
