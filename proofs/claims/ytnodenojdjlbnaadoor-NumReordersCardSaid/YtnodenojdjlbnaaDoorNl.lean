/-
  THE NUMBERS OF THIS PROGRAM, PART L: a step of a straight line.
-/
import Derived.Test.YtnodenojdjlbnaaDoorNk
set_option linter.unusedSimpArgs false
namespace Go.Proofs.YtnodenojdjlbnaaDoor
open Go Go.Eng

structure Stp where
  op : Int
  i : Int
  j : Int
  v : V
def sst (s : Stp) : AV := .g [ii s.op, ii s.i, ii s.j, .v (.bool s.v.k), .v (.int .i64 s.v.n)]
def deS : AV → Option Stp
  | .g [.v (.int .i64 o), .v (.int .i64 i), .v (.int .i64 j), .v (.bool k), .v (.int .i64 n)] => some ⟨o, i, j, ⟨k, n⟩⟩
  | _ => none
theorem deS_out {x : AV} {s : Stp} (h : deS x = some s) : x = sst s := by
  unfold deS at h
  split at h
  · cases h; rfl
  · cases h
def askedV (F : Int → List Int → V) (A : Int → V → V → V) (l : List V) (s : Stp) : V :=
  if s.op = 0 ∨ l = [] then s.v else
  if s.op = 12 then negL (l.getD (placeL s.i l.length).toNat unk) else
  if s.op = 13 then notV (l.getD (placeL s.i l.length).toNat unk) else
  if 5 ≤ s.op ∧ s.op ≤ 10 then F s.op (knownL l (placeL s.i l.length) (placeL s.j l.length)) else
  A s.op (l.getD (placeL s.i l.length).toNat unk) (l.getD (placeL s.j l.length).toNat unk)
def pureVS (f : List V → Stp → V) : List AV → Heap → PRes
  | [a, st], h => match vals h a, deS st with
    | some l, some s => ⟨l.length * 8 ≤ 140737488355328, vv (f l s)⟩
    | _, _ => ⟨False, .any⟩
  | _, _ => ⟨False, .any⟩
theorem pureVS_out {f : List V → Stp → V} {args : List AV} {h : Heap} (hs : (pureVS f args h).side) : ∃ a s l, args = [a, sst s] ∧ vals h a = some l ∧ l.length * 8 ≤ 140737488355328 ∧ ∀ h', h.le h' → pureVS f args h' = ⟨l.length * 8 ≤ 140737488355328, vv (f l s)⟩ := by
  unfold pureVS at hs
  split at hs
  · split at hs
    · rename_i e1 e2
      obtain rfl := deS_out e2
      exact ⟨_, _, _, rfl, e1, hs, fun h' hh => by simp only [pureVS, vals_mono hh e1, e2]⟩
    · exact hs.elim
  · exact hs.elim
theorem mkVS {S : List Nat} {l : List (FuncId × (List AV → Heap → PRes))} {f : FuncId} {fn : Func} {c : Code} (ok : TbOk S l) (hf : Tryd.prog.funcs[f]? = some fn) (hb : fn.body = some c) (hok : (!(fn.name == "runtime.NumGoroutine") && fnOk (cx S (pfL l)) fn c && decide (2 ≤ fn.ntmps)) = true) {g : List V → Stp → V}
    (h1 : ∀ a s l' h n, vals h a = some l' → l'.length * 8 ≤ 140737488355328 → (∀ i, n ≤ i → h i = none) → awp (cx S (pfL l)) c (finQ (cx S (pfL l)) fn fun z _ _ => z = vv (g l' s)) ⟨env0 [a, sst s], roH h, n⟩) : P0 S f (pureVS g) := by
  have hok' := hok3 hok
  exact pure_any (fun _ hx => hx) (pure_of_awp (pfL_ok ok) (mixed _ _) hf hb hok'.2.1 (callable hf hok'.1 (by rw [hb]; rfl) _ _) (fun args h h' hh hs => by
      obtain ⟨a, s, l', rfl, e, hl, hall⟩ := pureVS_out hs
      rw [hall h' hh, hall h (Heap.le_refl h)]
      exact ⟨hl, rfl⟩) fun args h hs => by
    obtain ⟨a, s, l', rfl, e, hl, hall⟩ := pureVS_out hs
    have ev := hall h (Heap.le_refl h)
    exact ⟨hok'.2.2, by rw [ev]; rfl, fun n hn => by rw [ev]; exact h1 a s l' h n e hl hn⟩)
theorem place_rng {i n : Int} (h0 : 0 < n) (h1 : n < 4611686018427387904) : 0 ≤ placeL i n ∧ placeL i n < n := by
  have h2 := Int.tmod_lt_of_pos i h0
  have h3 : -n < i.tmod n := by
    rcases Int.le_total 0 i with h | h
    · have := Int.tmod_nonneg n h; omega
    · have := Int.neg_tmod i n
      have h5 := Int.tmod_lt_of_pos (-i) h0
      omega
  unfold placeL
  split
  · rw [W_id (by unfold Rng; omega)]; omega
  · omega
theorem vals_ro {h h' : Heap} {n : Nat} (hn : ∀ i, n ≤ i → h i = none) (hh : ∀ i, i < n → h' i = roH h i) {a : AV} {l : List V} (e : vals h a = some l) : vals h' a = some l := by
  unfold vals at e ⊢
  split at e
  · rename_i id ver off len
    split at e
    · rename_i k hk
      have hid : id < n := by
        by_cases hid : id < n
        · exact hid
        · rw [hn id (by omega)] at hk; cases hk
      simp only [hh id hid, ro_at hk]
      exact e
    · cases e
  · exact e
  · cases e
def tb45 : List (FuncId × (List AV → Heap → PRes)) := [(58, g58), (37, g37), (19, g19), (33, g33), (42, g42)]
set_option maxRecDepth 100000 in
set_option maxHeartbeats 4000000 in
theorem p45 : P0 [0, 1, 2, 3, 4, 5] 45 (pureVS (askedV (foldG sumL) applyL)) := by
  refine mkVS (S := [0, 1, 2, 3, 4, 5]) (l := tb45) (tb_cons p58 (tb_cons p37 (tb_cons p19 (tb_cons p33 (tb_cons p42 tb_nil))))) Tryd.func45 rfl (by kernel_rfl) (fun a s l h n hv hl hn => ?_)
  have key : ∀ e : Nat → AV, e 0 = a → e 1 = sst s → awp (cx [0, 1, 2, 3, 4, 5] (pfL tb45)) (Tryd.f45.body.getD .skip) (finQ (cx [0, 1, 2, 3, 4, 5] (pfL tb45)) Tryd.f45 fun z _ _ => z = vv (askedV (foldG sumL) applyL l s)) ⟨e, roH h, n⟩ := fun e he0 he1 => by
    obtain ⟨op, i, j, ⟨vk, vn⟩⟩ := s
    simp only [sst] at he1
    by_cases h0 : op = 0
    · subst h0
      simp [awp_skip, awp_label, awp_region, awp_seq, awp_if, awp_block, awp_ret, awp_exit, thenQ_n, thenQ_e, thenQ_r, blockQ_n, blockQ_e, blockQ_r, finQ_n, finQ_r, finQ_e, resAll, resVal, resOne, aops_nil, aops_cons, atl_nil, atl_cons, adraw_eq, adrawA_nil, adrawA_cons, isA, goOp, gev, Region.binds, Heap.le_refl, aop, aeval, gocall, heapOp, quietOp, ev, constAV, setd, yav, ystop, up, env0, cx_ti, cx_G, cx_pf, ti, globS, glob, pfL, lds, ldc, ldcs, sts, sth, sls, slc, wr, place, fillOk, fillC, repZ, binI, isDiv, optInt, optI, eksOk, eksEq, EK.ok, EK.eq, AV.i, AV.isI, AV.isInt, AV.b.eq_1, AV.b.eq_2, AV.isB.eq_1, AV.isB.eq_2, AV.str, AV.isStr, unc_same, unc_tt, unc_tf, unc_f, unc_any, unc_v, unc_gp, unc_p, unc_s, unc_g, unc_e, unc_t, unc_fn, unc_okb, unc_bb, unc_isB, unc_b, AV.bb.eq_1, AV.bb.eq_2, AV.okb.eq_1, AV.okb.eq_2, AV.okg.eq_1, AV.okg.eq_2, AV.gd.eq_1, AV.gd.eq_2, AV.cells, AV.one, AV.ones, AV.slen, AV.isS, AV.isPtr, AV.gl, AV.isG, Value.oneCell', Nat.add_assoc, Tryd.f45, he0, he1, ii, vv, askedV]
    rcases vals_at hv with ⟨rfl, rfl⟩ | ⟨id, off, b, rfl, hb, hoff, hat⟩
    · simp [awp_skip, awp_label, awp_region, awp_seq, awp_if, awp_block, awp_ret, awp_exit, thenQ_n, thenQ_e, thenQ_r, blockQ_n, blockQ_e, blockQ_r, finQ_n, finQ_r, finQ_e, resAll, resVal, resOne, aops_nil, aops_cons, atl_nil, atl_cons, adraw_eq, adrawA_nil, adrawA_cons, isA, goOp, gev, Region.binds, Heap.le_refl, aop, aeval, gocall, heapOp, quietOp, ev, constAV, setd, yav, ystop, up, env0, cx_ti, cx_G, cx_pf, ti, globS, glob, pfL, lds, ldc, ldcs, sts, sth, sls, slc, wr, place, fillOk, fillC, repZ, binI, isDiv, optInt, optI, eksOk, eksEq, EK.ok, EK.eq, AV.i, AV.isI, AV.isInt, AV.b.eq_1, AV.b.eq_2, AV.isB.eq_1, AV.isB.eq_2, AV.str, AV.isStr, unc_same, unc_tt, unc_tf, unc_f, unc_any, unc_v, unc_gp, unc_p, unc_s, unc_g, unc_e, unc_t, unc_fn, unc_okb, unc_bb, unc_isB, unc_b, AV.bb.eq_1, AV.bb.eq_2, AV.okb.eq_1, AV.okb.eq_2, AV.okg.eq_1, AV.okg.eq_2, AV.gd.eq_1, AV.gd.eq_2, AV.cells, AV.one, AV.ones, AV.slen, AV.isS, AV.isPtr, AV.gl, AV.isG, Value.oneCell', Nat.add_assoc, Tryd.f45, he0, he1, ii, vv, askedV, h0]
    have z0 := ne_of hb hn 0
    have z1 := ne_of hb hn 1
    simp only [Nat.add_zero] at z0
    have hro := ro_at hb
    by_cases hl0 : l.length = 0
    · have hz : l = [] := List.eq_nil_of_length_eq_zero hl0
      simp [awp_skip, awp_label, awp_region, awp_seq, awp_if, awp_block, awp_ret, awp_exit, thenQ_n, thenQ_e, thenQ_r, blockQ_n, blockQ_e, blockQ_r, finQ_n, finQ_r, finQ_e, resAll, resVal, resOne, aops_nil, aops_cons, atl_nil, atl_cons, adraw_eq, adrawA_nil, adrawA_cons, isA, goOp, gev, Region.binds, Heap.le_refl, aop, aeval, gocall, heapOp, quietOp, ev, constAV, setd, yav, ystop, up, env0, cx_ti, cx_G, cx_pf, ti, globS, glob, pfL, lds, ldc, ldcs, sts, sth, sls, slc, wr, place, fillOk, fillC, repZ, binI, isDiv, optInt, optI, eksOk, eksEq, EK.ok, EK.eq, AV.i, AV.isI, AV.isInt, AV.b.eq_1, AV.b.eq_2, AV.isB.eq_1, AV.isB.eq_2, AV.str, AV.isStr, unc_same, unc_tt, unc_tf, unc_f, unc_any, unc_v, unc_gp, unc_p, unc_s, unc_g, unc_e, unc_t, unc_fn, unc_okb, unc_bb, unc_isB, unc_b, AV.bb.eq_1, AV.bb.eq_2, AV.okb.eq_1, AV.okb.eq_2, AV.okg.eq_1, AV.okg.eq_2, AV.gd.eq_1, AV.gd.eq_2, AV.cells, AV.one, AV.ones, AV.slen, AV.isS, AV.isPtr, AV.gl, AV.isG, Value.oneCell', Nat.add_assoc, Tryd.f45, he0, he1, ii, vv, askedV, h0, hl0, hz]
    have hne : ¬ l = [] := fun e => hl0 (by rw [e]; rfl)
    have hp : (0 : Int) < l.length := by omega
    obtain ⟨x1, x2⟩ := place_rng (i := i) hp (by omega)
    obtain ⟨y1, y2⟩ := place_rng (i := j) hp (by omega)
    obtain ⟨p, hpp⟩ : ∃ p : Nat, placeL i l.length = p := ⟨(placeL i l.length).toNat, by omega⟩
    obtain ⟨q, hqq⟩ : ∃ q : Nat, placeL j l.length = q := ⟨(placeL j l.length).toNat, by omega⟩
    rw [hpp] at x1 x2
    rw [hqq] at y1 y2
    have hpl : p < l.length := by omega
    have hql : q < l.length := by omega
    obtain ⟨u1, u2⟩ := hat p hpl
    obtain ⟨w1, w2⟩ := hat q hql
    have hpd : l[p]?.getD unk = l[p] := by simp [hpl]
    have hqd : l[q]?.getD unk = l[q] := by simp [hql]
    have ho1 : off + (p * 2 + 2) ≤ b.cells.length := by omega
    have ho2 : off + (q * 2 + 2) ≤ b.cells.length := by omega
    by_cases h12 : op = 12
    · subst h12
      simp [awp_skip, awp_label, awp_region, awp_seq, awp_if, awp_block, awp_ret, awp_exit, thenQ_n, thenQ_e, thenQ_r, blockQ_n, blockQ_e, blockQ_r, finQ_n, finQ_r, finQ_e, resAll, resVal, resOne, aops_nil, aops_cons, atl_nil, atl_cons, adraw_eq, adrawA_nil, adrawA_cons, isA, goOp, gev, Region.binds, Heap.le_refl, aop, aeval, gocall, heapOp, quietOp, ev, constAV, setd, yav, ystop, up, env0, cx_ti, cx_G, cx_pf, ti, globS, glob, pfL, lds, ldc, ldcs, sts, sth, sls, slc, wr, place, fillOk, fillC, repZ, binI, isDiv, optInt, optI, eksOk, eksEq, EK.ok, EK.eq, AV.i, AV.isI, AV.isInt, AV.b.eq_1, AV.b.eq_2, AV.isB.eq_1, AV.isB.eq_2, AV.str, AV.isStr, unc_same, unc_tt, unc_tf, unc_f, unc_any, unc_v, unc_gp, unc_p, unc_s, unc_g, unc_e, unc_t, unc_fn, unc_okb, unc_bb, unc_isB, unc_b, AV.bb.eq_1, AV.bb.eq_2, AV.okb.eq_1, AV.okb.eq_2, AV.okg.eq_1, AV.okg.eq_2, AV.gd.eq_1, AV.gd.eq_2, AV.cells, AV.one, AV.ones, AV.slen, AV.isS, AV.isPtr, AV.gl, AV.isG, Value.oneCell', Nat.add_assoc, Tryd.f45, he0, he1, ii, vv, askedV, hl0, hne, hpp, hqq, tb45, g58, g37, pure1, pure2, deI, deZ, deV, z0, z1, hro, u1, u2, ho1, hpl, hpd]
    by_cases h13 : op = 13
    · subst h13
      simp [awp_skip, awp_label, awp_region, awp_seq, awp_if, awp_block, awp_ret, awp_exit, thenQ_n, thenQ_e, thenQ_r, blockQ_n, blockQ_e, blockQ_r, finQ_n, finQ_r, finQ_e, resAll, resVal, resOne, aops_nil, aops_cons, atl_nil, atl_cons, adraw_eq, adrawA_nil, adrawA_cons, isA, goOp, gev, Region.binds, Heap.le_refl, aop, aeval, gocall, heapOp, quietOp, ev, constAV, setd, yav, ystop, up, env0, cx_ti, cx_G, cx_pf, ti, globS, glob, pfL, lds, ldc, ldcs, sts, sth, sls, slc, wr, place, fillOk, fillC, repZ, binI, isDiv, optInt, optI, eksOk, eksEq, EK.ok, EK.eq, AV.i, AV.isI, AV.isInt, AV.b.eq_1, AV.b.eq_2, AV.isB.eq_1, AV.isB.eq_2, AV.str, AV.isStr, unc_same, unc_tt, unc_tf, unc_f, unc_any, unc_v, unc_gp, unc_p, unc_s, unc_g, unc_e, unc_t, unc_fn, unc_okb, unc_bb, unc_isB, unc_b, AV.bb.eq_1, AV.bb.eq_2, AV.okb.eq_1, AV.okb.eq_2, AV.okg.eq_1, AV.okg.eq_2, AV.gd.eq_1, AV.gd.eq_2, AV.cells, AV.one, AV.ones, AV.slen, AV.isS, AV.isPtr, AV.gl, AV.isG, Value.oneCell', Nat.add_assoc, Tryd.f45, he0, he1, ii, vv, askedV, hl0, hne, hpp, hqq, tb45, g58, g19, pure1, pure2, deI, deZ, deV, z0, z1, hro, u1, u2, ho1, hpl, hpd]
    by_cases c5 : 5 ≤ op
    · by_cases c10 : op ≤ 10
      · simp [awp_skip, awp_label, awp_region, awp_seq, awp_if, awp_block, awp_ret, awp_exit, thenQ_n, thenQ_e, thenQ_r, blockQ_n, blockQ_e, blockQ_r, finQ_n, finQ_r, finQ_e, resAll, resVal, resOne, aops_nil, aops_cons, atl_nil, atl_cons, adraw_eq, adrawA_nil, adrawA_cons, isA, goOp, gev, Region.binds, Heap.le_refl, aop, aeval, gocall, heapOp, quietOp, ev, constAV, setd, yav, ystop, up, env0, cx_ti, cx_G, cx_pf, ti, globS, glob, pfL, lds, ldc, ldcs, sts, sth, sls, slc, wr, place, fillOk, fillC, repZ, binI, isDiv, optInt, optI, eksOk, eksEq, EK.ok, EK.eq, AV.i, AV.isI, AV.isInt, AV.b.eq_1, AV.b.eq_2, AV.isB.eq_1, AV.isB.eq_2, AV.str, AV.isStr, unc_same, unc_tt, unc_tf, unc_f, unc_any, unc_v, unc_gp, unc_p, unc_s, unc_g, unc_e, unc_t, unc_fn, unc_okb, unc_bb, unc_isB, unc_b, AV.bb.eq_1, AV.bb.eq_2, AV.okb.eq_1, AV.okb.eq_2, AV.okg.eq_1, AV.okg.eq_2, AV.gd.eq_1, AV.gd.eq_2, AV.cells, AV.one, AV.ones, AV.slen, AV.isS, AV.isPtr, AV.gl, AV.isG, Value.oneCell', Nat.add_assoc, Tryd.f45, he0, he1, ii, vv, askedV, h0, h12, h13, c5, c10, hl0, hne, hpp, hqq, tb45, g58, pure1, pure2, deI, deZ, deV, z0, z1, hro]
        have hkl := known_len l p q
        refine (acall_any (S := []) (by simp) (c66 (l := l) (i := p) (j := q) (vals_ro hn (fun i hi => by rw [up_ne _ _ (by omega), up_ne _ _ (by omega)]) hv) hl (by omega) (fun q hq => by rw [up_ne _ _ (by omega), up_ne _ _ (by omega)]; simp [roH, hn q (by omega)]))).mono ?_
        rintro v h' n' ⟨hle, hf', hnn, hints⟩
        have hb1 := hle (n + 1) _ (up_same _ _ _)
        have hkb : (knownL l p q).length < big := by unfold big; omega
        refine ⟨hle, ?_⟩
        simp [awp_skip, awp_label, awp_region, awp_seq, awp_if, awp_block, awp_ret, awp_exit, thenQ_n, thenQ_e, thenQ_r, blockQ_n, blockQ_e, blockQ_r, finQ_n, finQ_r, finQ_e, resAll, resVal, resOne, aops_nil, aops_cons, atl_nil, atl_cons, adraw_eq, adrawA_nil, adrawA_cons, isA, goOp, gev, Region.binds, Heap.le_refl, aop, aeval, gocall, heapOp, quietOp, ev, constAV, setd, yav, ystop, up, env0, cx_ti, cx_G, cx_pf, ti, globS, glob, pfL, lds, ldc, ldcs, sts, sth, sls, slc, wr, place, fillOk, fillC, repZ, binI, isDiv, optInt, optI, eksOk, eksEq, EK.ok, EK.eq, AV.i, AV.isI, AV.isInt, AV.b.eq_1, AV.b.eq_2, AV.isB.eq_1, AV.isB.eq_2, AV.str, AV.isStr, unc_same, unc_tt, unc_tf, unc_f, unc_any, unc_v, unc_gp, unc_p, unc_s, unc_g, unc_e, unc_t, unc_fn, unc_okb, unc_bb, unc_isB, unc_b, AV.bb.eq_1, AV.bb.eq_2, AV.okb.eq_1, AV.okb.eq_2, AV.okg.eq_1, AV.okg.eq_2, AV.gd.eq_1, AV.gd.eq_2, AV.cells, AV.one, AV.ones, AV.slen, AV.isS, AV.isPtr, AV.gl, AV.isG, Value.oneCell', Nat.add_assoc, hb1, g33, pureAL, deI, hints, hkb, vv]
      · simp [awp_skip, awp_label, awp_region, awp_seq, awp_if, awp_block, awp_ret, awp_exit, thenQ_n, thenQ_e, thenQ_r, blockQ_n, blockQ_e, blockQ_r, finQ_n, finQ_r, finQ_e, resAll, resVal, resOne, aops_nil, aops_cons, atl_nil, atl_cons, adraw_eq, adrawA_nil, adrawA_cons, isA, goOp, gev, Region.binds, Heap.le_refl, aop, aeval, gocall, heapOp, quietOp, ev, constAV, setd, yav, ystop, up, env0, cx_ti, cx_G, cx_pf, ti, globS, glob, pfL, lds, ldc, ldcs, sts, sth, sls, slc, wr, place, fillOk, fillC, repZ, binI, isDiv, optInt, optI, eksOk, eksEq, EK.ok, EK.eq, AV.i, AV.isI, AV.isInt, AV.b.eq_1, AV.b.eq_2, AV.isB.eq_1, AV.isB.eq_2, AV.str, AV.isStr, unc_same, unc_tt, unc_tf, unc_f, unc_any, unc_v, unc_gp, unc_p, unc_s, unc_g, unc_e, unc_t, unc_fn, unc_okb, unc_bb, unc_isB, unc_b, AV.bb.eq_1, AV.bb.eq_2, AV.okb.eq_1, AV.okb.eq_2, AV.okg.eq_1, AV.okg.eq_2, AV.gd.eq_1, AV.gd.eq_2, AV.cells, AV.one, AV.ones, AV.slen, AV.isS, AV.isPtr, AV.gl, AV.isG, Value.oneCell', Nat.add_assoc, Tryd.f45, he0, he1, ii, vv, askedV, h0, h12, h13, c5, c10, hl0, hne, hpp, hqq, tb45, g58, g42, pure1, pure2, pure3, deI, deZ, deV, z0, z1, hro, u1, u2, w1, w2, ho1, ho2, hpl, hql, hpd, hqd]
    · simp [awp_skip, awp_label, awp_region, awp_seq, awp_if, awp_block, awp_ret, awp_exit, thenQ_n, thenQ_e, thenQ_r, blockQ_n, blockQ_e, blockQ_r, finQ_n, finQ_r, finQ_e, resAll, resVal, resOne, aops_nil, aops_cons, atl_nil, atl_cons, adraw_eq, adrawA_nil, adrawA_cons, isA, goOp, gev, Region.binds, Heap.le_refl, aop, aeval, gocall, heapOp, quietOp, ev, constAV, setd, yav, ystop, up, env0, cx_ti, cx_G, cx_pf, ti, globS, glob, pfL, lds, ldc, ldcs, sts, sth, sls, slc, wr, place, fillOk, fillC, repZ, binI, isDiv, optInt, optI, eksOk, eksEq, EK.ok, EK.eq, AV.i, AV.isI, AV.isInt, AV.b.eq_1, AV.b.eq_2, AV.isB.eq_1, AV.isB.eq_2, AV.str, AV.isStr, unc_same, unc_tt, unc_tf, unc_f, unc_any, unc_v, unc_gp, unc_p, unc_s, unc_g, unc_e, unc_t, unc_fn, unc_okb, unc_bb, unc_isB, unc_b, AV.bb.eq_1, AV.bb.eq_2, AV.okb.eq_1, AV.okb.eq_2, AV.okg.eq_1, AV.okg.eq_2, AV.gd.eq_1, AV.gd.eq_2, AV.cells, AV.one, AV.ones, AV.slen, AV.isS, AV.isPtr, AV.gl, AV.isG, Value.oneCell', Nat.add_assoc, Tryd.f45, he0, he1, ii, vv, askedV, h0, h12, h13, c5, hl0, hne, hpp, hqq, tb45, g58, g42, pure1, pure2, pure3, deI, deZ, deV, z0, z1, hro, u1, u2, w1, w2, ho1, ho2, hpl, hql, hpd, hqd]
  exact key _ rfl rfl
/-! #### the document's -/
def tb47 : List (FuncId × (List AV → Heap → PRes)) := [(58, g58), (41, g37), (23, g19), (34, g34), (44, g44)]
set_option maxRecDepth 100000 in
set_option maxHeartbeats 4000000 in
theorem p47 : P0 [] 47 (pureVS (askedV (foldG rsumL) rapplyL)) := by
  refine mkVS (S := []) (l := tb47) (tb_cons p58 (tb_cons p41 (tb_cons p23 (tb_cons p34 (tb_cons p44 tb_nil))))) Tryd.func47 rfl (by kernel_rfl) (fun a s l h n hv hl hn => ?_)
  have key : ∀ e : Nat → AV, e 0 = a → e 1 = sst s → awp (cx [] (pfL tb47)) (Tryd.f47.body.getD .skip) (finQ (cx [] (pfL tb47)) Tryd.f47 fun z _ _ => z = vv (askedV (foldG rsumL) rapplyL l s)) ⟨e, roH h, n⟩ := fun e he0 he1 => by
    obtain ⟨op, i, j, ⟨vk, vn⟩⟩ := s
    simp only [sst] at he1
    by_cases h0 : op = 0
    · subst h0
      simp [awp_skip, awp_label, awp_region, awp_seq, awp_if, awp_block, awp_ret, awp_exit, thenQ_n, thenQ_e, thenQ_r, blockQ_n, blockQ_e, blockQ_r, finQ_n, finQ_r, finQ_e, resAll, resVal, resOne, aops_nil, aops_cons, atl_nil, atl_cons, adraw_eq, adrawA_nil, adrawA_cons, isA, goOp, gev, Region.binds, Heap.le_refl, aop, aeval, gocall, heapOp, quietOp, ev, constAV, setd, yav, ystop, up, env0, cx_ti, cx_G, cx_pf, ti, globS, glob, pfL, lds, ldc, ldcs, sts, sth, sls, slc, wr, place, fillOk, fillC, repZ, binI, isDiv, optInt, optI, eksOk, eksEq, EK.ok, EK.eq, AV.i, AV.isI, AV.isInt, AV.b.eq_1, AV.b.eq_2, AV.isB.eq_1, AV.isB.eq_2, AV.str, AV.isStr, unc_same, unc_tt, unc_tf, unc_f, unc_any, unc_v, unc_gp, unc_p, unc_s, unc_g, unc_e, unc_t, unc_fn, unc_okb, unc_bb, unc_isB, unc_b, AV.bb.eq_1, AV.bb.eq_2, AV.okb.eq_1, AV.okb.eq_2, AV.okg.eq_1, AV.okg.eq_2, AV.gd.eq_1, AV.gd.eq_2, AV.cells, AV.one, AV.ones, AV.slen, AV.isS, AV.isPtr, AV.gl, AV.isG, Value.oneCell', Nat.add_assoc, Tryd.f47, he0, he1, ii, vv, askedV]
    rcases vals_at hv with ⟨rfl, rfl⟩ | ⟨id, off, b, rfl, hb, hoff, hat⟩
    · simp [awp_skip, awp_label, awp_region, awp_seq, awp_if, awp_block, awp_ret, awp_exit, thenQ_n, thenQ_e, thenQ_r, blockQ_n, blockQ_e, blockQ_r, finQ_n, finQ_r, finQ_e, resAll, resVal, resOne, aops_nil, aops_cons, atl_nil, atl_cons, adraw_eq, adrawA_nil, adrawA_cons, isA, goOp, gev, Region.binds, Heap.le_refl, aop, aeval, gocall, heapOp, quietOp, ev, constAV, setd, yav, ystop, up, env0, cx_ti, cx_G, cx_pf, ti, globS, glob, pfL, lds, ldc, ldcs, sts, sth, sls, slc, wr, place, fillOk, fillC, repZ, binI, isDiv, optInt, optI, eksOk, eksEq, EK.ok, EK.eq, AV.i, AV.isI, AV.isInt, AV.b.eq_1, AV.b.eq_2, AV.isB.eq_1, AV.isB.eq_2, AV.str, AV.isStr, unc_same, unc_tt, unc_tf, unc_f, unc_any, unc_v, unc_gp, unc_p, unc_s, unc_g, unc_e, unc_t, unc_fn, unc_okb, unc_bb, unc_isB, unc_b, AV.bb.eq_1, AV.bb.eq_2, AV.okb.eq_1, AV.okb.eq_2, AV.okg.eq_1, AV.okg.eq_2, AV.gd.eq_1, AV.gd.eq_2, AV.cells, AV.one, AV.ones, AV.slen, AV.isS, AV.isPtr, AV.gl, AV.isG, Value.oneCell', Nat.add_assoc, Tryd.f47, he0, he1, ii, vv, askedV, h0]
    have z0 := ne_of hb hn 0
    have z1 := ne_of hb hn 1
    simp only [Nat.add_zero] at z0
    have hro := ro_at hb
    by_cases hl0 : l.length = 0
    · have hz : l = [] := List.eq_nil_of_length_eq_zero hl0
      simp [awp_skip, awp_label, awp_region, awp_seq, awp_if, awp_block, awp_ret, awp_exit, thenQ_n, thenQ_e, thenQ_r, blockQ_n, blockQ_e, blockQ_r, finQ_n, finQ_r, finQ_e, resAll, resVal, resOne, aops_nil, aops_cons, atl_nil, atl_cons, adraw_eq, adrawA_nil, adrawA_cons, isA, goOp, gev, Region.binds, Heap.le_refl, aop, aeval, gocall, heapOp, quietOp, ev, constAV, setd, yav, ystop, up, env0, cx_ti, cx_G, cx_pf, ti, globS, glob, pfL, lds, ldc, ldcs, sts, sth, sls, slc, wr, place, fillOk, fillC, repZ, binI, isDiv, optInt, optI, eksOk, eksEq, EK.ok, EK.eq, AV.i, AV.isI, AV.isInt, AV.b.eq_1, AV.b.eq_2, AV.isB.eq_1, AV.isB.eq_2, AV.str, AV.isStr, unc_same, unc_tt, unc_tf, unc_f, unc_any, unc_v, unc_gp, unc_p, unc_s, unc_g, unc_e, unc_t, unc_fn, unc_okb, unc_bb, unc_isB, unc_b, AV.bb.eq_1, AV.bb.eq_2, AV.okb.eq_1, AV.okb.eq_2, AV.okg.eq_1, AV.okg.eq_2, AV.gd.eq_1, AV.gd.eq_2, AV.cells, AV.one, AV.ones, AV.slen, AV.isS, AV.isPtr, AV.gl, AV.isG, Value.oneCell', Nat.add_assoc, Tryd.f47, he0, he1, ii, vv, askedV, h0, hl0, hz]
    have hne : ¬ l = [] := fun e => hl0 (by rw [e]; rfl)
    have hp : (0 : Int) < l.length := by omega
    obtain ⟨x1, x2⟩ := place_rng (i := i) hp (by omega)
    obtain ⟨y1, y2⟩ := place_rng (i := j) hp (by omega)
    obtain ⟨p, hpp⟩ : ∃ p : Nat, placeL i l.length = p := ⟨(placeL i l.length).toNat, by omega⟩
    obtain ⟨q, hqq⟩ : ∃ q : Nat, placeL j l.length = q := ⟨(placeL j l.length).toNat, by omega⟩
    rw [hpp] at x1 x2
    rw [hqq] at y1 y2
    have hpl : p < l.length := by omega
    have hql : q < l.length := by omega
    obtain ⟨u1, u2⟩ := hat p hpl
    obtain ⟨w1, w2⟩ := hat q hql
    have hpd : l[p]?.getD unk = l[p] := by simp [hpl]
    have hqd : l[q]?.getD unk = l[q] := by simp [hql]
    have ho1 : off + (p * 2 + 2) ≤ b.cells.length := by omega
    have ho2 : off + (q * 2 + 2) ≤ b.cells.length := by omega
    by_cases h12 : op = 12
    · subst h12
      simp [awp_skip, awp_label, awp_region, awp_seq, awp_if, awp_block, awp_ret, awp_exit, thenQ_n, thenQ_e, thenQ_r, blockQ_n, blockQ_e, blockQ_r, finQ_n, finQ_r, finQ_e, resAll, resVal, resOne, aops_nil, aops_cons, atl_nil, atl_cons, adraw_eq, adrawA_nil, adrawA_cons, isA, goOp, gev, Region.binds, Heap.le_refl, aop, aeval, gocall, heapOp, quietOp, ev, constAV, setd, yav, ystop, up, env0, cx_ti, cx_G, cx_pf, ti, globS, glob, pfL, lds, ldc, ldcs, sts, sth, sls, slc, wr, place, fillOk, fillC, repZ, binI, isDiv, optInt, optI, eksOk, eksEq, EK.ok, EK.eq, AV.i, AV.isI, AV.isInt, AV.b.eq_1, AV.b.eq_2, AV.isB.eq_1, AV.isB.eq_2, AV.str, AV.isStr, unc_same, unc_tt, unc_tf, unc_f, unc_any, unc_v, unc_gp, unc_p, unc_s, unc_g, unc_e, unc_t, unc_fn, unc_okb, unc_bb, unc_isB, unc_b, AV.bb.eq_1, AV.bb.eq_2, AV.okb.eq_1, AV.okb.eq_2, AV.okg.eq_1, AV.okg.eq_2, AV.gd.eq_1, AV.gd.eq_2, AV.cells, AV.one, AV.ones, AV.slen, AV.isS, AV.isPtr, AV.gl, AV.isG, Value.oneCell', Nat.add_assoc, Tryd.f47, he0, he1, ii, vv, askedV, hl0, hne, hpp, hqq, tb47, g58, g37, pure1, pure2, deI, deZ, deV, z0, z1, hro, u1, u2, ho1, hpl, hpd]
    by_cases h13 : op = 13
    · subst h13
      simp [awp_skip, awp_label, awp_region, awp_seq, awp_if, awp_block, awp_ret, awp_exit, thenQ_n, thenQ_e, thenQ_r, blockQ_n, blockQ_e, blockQ_r, finQ_n, finQ_r, finQ_e, resAll, resVal, resOne, aops_nil, aops_cons, atl_nil, atl_cons, adraw_eq, adrawA_nil, adrawA_cons, isA, goOp, gev, Region.binds, Heap.le_refl, aop, aeval, gocall, heapOp, quietOp, ev, constAV, setd, yav, ystop, up, env0, cx_ti, cx_G, cx_pf, ti, globS, glob, pfL, lds, ldc, ldcs, sts, sth, sls, slc, wr, place, fillOk, fillC, repZ, binI, isDiv, optInt, optI, eksOk, eksEq, EK.ok, EK.eq, AV.i, AV.isI, AV.isInt, AV.b.eq_1, AV.b.eq_2, AV.isB.eq_1, AV.isB.eq_2, AV.str, AV.isStr, unc_same, unc_tt, unc_tf, unc_f, unc_any, unc_v, unc_gp, unc_p, unc_s, unc_g, unc_e, unc_t, unc_fn, unc_okb, unc_bb, unc_isB, unc_b, AV.bb.eq_1, AV.bb.eq_2, AV.okb.eq_1, AV.okb.eq_2, AV.okg.eq_1, AV.okg.eq_2, AV.gd.eq_1, AV.gd.eq_2, AV.cells, AV.one, AV.ones, AV.slen, AV.isS, AV.isPtr, AV.gl, AV.isG, Value.oneCell', Nat.add_assoc, Tryd.f47, he0, he1, ii, vv, askedV, hl0, hne, hpp, hqq, tb47, g58, g19, pure1, pure2, deI, deZ, deV, z0, z1, hro, u1, u2, ho1, hpl, hpd]
    by_cases c5 : 5 ≤ op
    · by_cases c10 : op ≤ 10
      · simp [awp_skip, awp_label, awp_region, awp_seq, awp_if, awp_block, awp_ret, awp_exit, thenQ_n, thenQ_e, thenQ_r, blockQ_n, blockQ_e, blockQ_r, finQ_n, finQ_r, finQ_e, resAll, resVal, resOne, aops_nil, aops_cons, atl_nil, atl_cons, adraw_eq, adrawA_nil, adrawA_cons, isA, goOp, gev, Region.binds, Heap.le_refl, aop, aeval, gocall, heapOp, quietOp, ev, constAV, setd, yav, ystop, up, env0, cx_ti, cx_G, cx_pf, ti, globS, glob, pfL, lds, ldc, ldcs, sts, sth, sls, slc, wr, place, fillOk, fillC, repZ, binI, isDiv, optInt, optI, eksOk, eksEq, EK.ok, EK.eq, AV.i, AV.isI, AV.isInt, AV.b.eq_1, AV.b.eq_2, AV.isB.eq_1, AV.isB.eq_2, AV.str, AV.isStr, unc_same, unc_tt, unc_tf, unc_f, unc_any, unc_v, unc_gp, unc_p, unc_s, unc_g, unc_e, unc_t, unc_fn, unc_okb, unc_bb, unc_isB, unc_b, AV.bb.eq_1, AV.bb.eq_2, AV.okb.eq_1, AV.okb.eq_2, AV.okg.eq_1, AV.okg.eq_2, AV.gd.eq_1, AV.gd.eq_2, AV.cells, AV.one, AV.ones, AV.slen, AV.isS, AV.isPtr, AV.gl, AV.isG, Value.oneCell', Nat.add_assoc, Tryd.f47, he0, he1, ii, vv, askedV, h0, h12, h13, c5, c10, hl0, hne, hpp, hqq, tb47, g58, pure1, pure2, deI, deZ, deV, z0, z1, hro]
        have hkl := known_len l p q
        refine (acall_any (S := []) (by simp) (c66 (l := l) (i := p) (j := q) (vals_ro hn (fun i hi => by rw [up_ne _ _ (by omega), up_ne _ _ (by omega)]) hv) hl (by omega) (fun q hq => by rw [up_ne _ _ (by omega), up_ne _ _ (by omega)]; simp [roH, hn q (by omega)]))).mono ?_
        rintro v h' n' ⟨hle, hf', hnn, hints⟩
        have hb1 := hle (n + 1) _ (up_same _ _ _)
        have hkb : (knownL l p q).length < big := by unfold big; omega
        refine ⟨hle, ?_⟩
        simp [awp_skip, awp_label, awp_region, awp_seq, awp_if, awp_block, awp_ret, awp_exit, thenQ_n, thenQ_e, thenQ_r, blockQ_n, blockQ_e, blockQ_r, finQ_n, finQ_r, finQ_e, resAll, resVal, resOne, aops_nil, aops_cons, atl_nil, atl_cons, adraw_eq, adrawA_nil, adrawA_cons, isA, goOp, gev, Region.binds, Heap.le_refl, aop, aeval, gocall, heapOp, quietOp, ev, constAV, setd, yav, ystop, up, env0, cx_ti, cx_G, cx_pf, ti, globS, glob, pfL, lds, ldc, ldcs, sts, sth, sls, slc, wr, place, fillOk, fillC, repZ, binI, isDiv, optInt, optI, eksOk, eksEq, EK.ok, EK.eq, AV.i, AV.isI, AV.isInt, AV.b.eq_1, AV.b.eq_2, AV.isB.eq_1, AV.isB.eq_2, AV.str, AV.isStr, unc_same, unc_tt, unc_tf, unc_f, unc_any, unc_v, unc_gp, unc_p, unc_s, unc_g, unc_e, unc_t, unc_fn, unc_okb, unc_bb, unc_isB, unc_b, AV.bb.eq_1, AV.bb.eq_2, AV.okb.eq_1, AV.okb.eq_2, AV.okg.eq_1, AV.okg.eq_2, AV.gd.eq_1, AV.gd.eq_2, AV.cells, AV.one, AV.ones, AV.slen, AV.isS, AV.isPtr, AV.gl, AV.isG, Value.oneCell', Nat.add_assoc, hb1, g34, pureAL, deI, hints, hkb, vv]
      · simp [awp_skip, awp_label, awp_region, awp_seq, awp_if, awp_block, awp_ret, awp_exit, thenQ_n, thenQ_e, thenQ_r, blockQ_n, blockQ_e, blockQ_r, finQ_n, finQ_r, finQ_e, resAll, resVal, resOne, aops_nil, aops_cons, atl_nil, atl_cons, adraw_eq, adrawA_nil, adrawA_cons, isA, goOp, gev, Region.binds, Heap.le_refl, aop, aeval, gocall, heapOp, quietOp, ev, constAV, setd, yav, ystop, up, env0, cx_ti, cx_G, cx_pf, ti, globS, glob, pfL, lds, ldc, ldcs, sts, sth, sls, slc, wr, place, fillOk, fillC, repZ, binI, isDiv, optInt, optI, eksOk, eksEq, EK.ok, EK.eq, AV.i, AV.isI, AV.isInt, AV.b.eq_1, AV.b.eq_2, AV.isB.eq_1, AV.isB.eq_2, AV.str, AV.isStr, unc_same, unc_tt, unc_tf, unc_f, unc_any, unc_v, unc_gp, unc_p, unc_s, unc_g, unc_e, unc_t, unc_fn, unc_okb, unc_bb, unc_isB, unc_b, AV.bb.eq_1, AV.bb.eq_2, AV.okb.eq_1, AV.okb.eq_2, AV.okg.eq_1, AV.okg.eq_2, AV.gd.eq_1, AV.gd.eq_2, AV.cells, AV.one, AV.ones, AV.slen, AV.isS, AV.isPtr, AV.gl, AV.isG, Value.oneCell', Nat.add_assoc, Tryd.f47, he0, he1, ii, vv, askedV, h0, h12, h13, c5, c10, hl0, hne, hpp, hqq, tb47, g58, g44, pure1, pure2, pure3, deI, deZ, deV, z0, z1, hro, u1, u2, w1, w2, ho1, ho2, hpl, hql, hpd, hqd]
    · simp [awp_skip, awp_label, awp_region, awp_seq, awp_if, awp_block, awp_ret, awp_exit, thenQ_n, thenQ_e, thenQ_r, blockQ_n, blockQ_e, blockQ_r, finQ_n, finQ_r, finQ_e, resAll, resVal, resOne, aops_nil, aops_cons, atl_nil, atl_cons, adraw_eq, adrawA_nil, adrawA_cons, isA, goOp, gev, Region.binds, Heap.le_refl, aop, aeval, gocall, heapOp, quietOp, ev, constAV, setd, yav, ystop, up, env0, cx_ti, cx_G, cx_pf, ti, globS, glob, pfL, lds, ldc, ldcs, sts, sth, sls, slc, wr, place, fillOk, fillC, repZ, binI, isDiv, optInt, optI, eksOk, eksEq, EK.ok, EK.eq, AV.i, AV.isI, AV.isInt, AV.b.eq_1, AV.b.eq_2, AV.isB.eq_1, AV.isB.eq_2, AV.str, AV.isStr, unc_same, unc_tt, unc_tf, unc_f, unc_any, unc_v, unc_gp, unc_p, unc_s, unc_g, unc_e, unc_t, unc_fn, unc_okb, unc_bb, unc_isB, unc_b, AV.bb.eq_1, AV.bb.eq_2, AV.okb.eq_1, AV.okb.eq_2, AV.okg.eq_1, AV.okg.eq_2, AV.gd.eq_1, AV.gd.eq_2, AV.cells, AV.one, AV.ones, AV.slen, AV.isS, AV.isPtr, AV.gl, AV.isG, Value.oneCell', Nat.add_assoc, Tryd.f47, he0, he1, ii, vv, askedV, h0, h12, h13, c5, hl0, hne, hpp, hqq, tb47, g58, g44, pure1, pure2, pure3, deI, deZ, deV, z0, z1, hro, u1, u2, w1, w2, ho1, ho2, hpl, hql, hpd, hqd]
  exact key _ rfl rfl
end Go.Proofs.YtnodenojdjlbnaaDoor
