/-
  THE NUMBERS OF THIS PROGRAM, PART N: a value that is blurred; what is known of blurred values is known rightly.
-/
import Derived.Test.YtnodenojdjlbnaaDoorMf
set_option linter.unusedSimpArgs false
namespace Go.Proofs.YtnodenojdjlbnaaDoor
open Go Go.Eng

def deBc : List AV → Option (List Bool)
  | [] => some []
  | .v (.bool b) :: r => (deBc r).map (b :: ·)
  | _ => none
theorem deBc_get : ∀ {xs : List AV} {l : List Bool}, deBc xs = some l → xs.length = l.length ∧ ∀ i (h : i < l.length), xs[i]? = some (bv l[i])
  | [], l, h => by
    simp only [deBc, Option.some.injEq] at h
    subst h
    exact ⟨rfl, fun i hi => by simp at hi⟩
  | .v (.bool b) :: r, l, h => by
    simp only [deBc, Option.map_eq_some_iff] at h
    obtain ⟨l', h1, rfl⟩ := h
    obtain ⟨q1, q2⟩ := deBc_get h1
    refine ⟨by simp [q1], fun i hi => ?_⟩
    cases i with
    | zero => rfl
    | succ i => simpa using q2 i (by simpa using hi)
theorem deBc_in : ∀ l : List Bool, deBc (l.flatMap fun b => [bv b]) = some l
  | [] => rfl
  | b :: l => by
    simp only [List.flatMap_cons, bv, List.cons_append, List.nil_append, deBc]
    have := deBc_in l
    simp only [bv] at this
    rw [this]
    rfl
def bools (h : Heap) : AV → Option (List Bool)
  | .s id ver off len => match h id with
    | some k => if k.ver = ver ∧ off + len ≤ k.cells.length then deBc ((k.cells.drop off).take len) else none
    | none => none
  | _ => none
theorem bools_at {h : Heap} {a : AV} {l : List Bool} (e : bools h a = some l) :
    ∃ id off k, a = .s id k.ver off l.length ∧ h id = some k ∧ off + l.length ≤ k.cells.length ∧ ∀ i (hi : i < l.length), k.cells[off + i]? = some (bv l[i]) := by
  unfold bools at e
  split at e
  · rename_i id ver off len
    split at e
    · rename_i k hk
      split at e
      · rename_i hc
        obtain ⟨q1, q2⟩ := deBc_get e
        have hl : l.length = len := by
          rw [← q1, List.length_take, List.length_drop]
          omega
        refine ⟨id, off, k, by rw [hc.1, hl], hk, by omega, fun i hi => ?_⟩
        have := q2 i hi
        rw [List.getElem?_take_of_lt (by omega), List.getElem?_drop] at this
        exact this
      · cases e
    · cases e
  · cases e
theorem bools_mono {h h' : Heap} (hh : h.le h') {a : AV} {l : List Bool} (e : bools h a = some l) : bools h' a = some l := by
  unfold bools at e ⊢
  split at e
  · split at e
    · rename_i hk
      simp only [hh _ _ hk]
      exact e
    · cases e
  · cases e
def blurV (v : V) (l : List Bool) (i : Int) : V := if i < l.length ∧ l.getD i.toNat false = true then unk else v
def g46 : List AV → Heap → PRes
  | [x, y, z], h => match deV x, bools h y, deI z with
    | some v, some l, some i => ⟨0 ≤ i, vv (blurV v l i)⟩
    | _, _, _ => ⟨False, .any⟩
  | _, _ => ⟨False, .any⟩
theorem g46_out {args : List AV} {h : Heap} (hs : (g46 args h).side) : ∃ v y l i, args = [vv v, y, ii i] ∧ bools h y = some l ∧ 0 ≤ i ∧ ∀ h', h.le h' → g46 args h' = ⟨0 ≤ i, vv (blurV v l i)⟩ := by
  unfold g46 at hs
  split at hs
  · split at hs
    · rename_i e1 e2 e3
      obtain rfl := deV_out e1
      obtain rfl := deI_out e3
      exact ⟨_, _, _, _, rfl, e2, hs, fun h' hh => by simp only [g46, e1, bools_mono hh e2, e3]⟩
    · exact hs.elim
  · exact hs.elim
set_option maxRecDepth 100000 in
theorem p46 : P0 [] 46 g46 := by
  have hok : (!(Tryd.f46.name == "runtime.NumGoroutine") && (fnOk (cx [] (pfL [])) Tryd.f46 (Tryd.f46.body.getD .skip)) && decide (3 ≤ Tryd.f46.ntmps)) = true := by kernel_rfl
  have hok' := hok3 hok
  refine pure_any (fun _ hx => hx) (pure_of_awp (pfL_ok tb_nil) (mixed _ _) Tryd.func46 rfl hok'.2.1 (callable Tryd.func46 hok'.1 rfl _ _) (fun args h h' hh hs => by
      obtain ⟨v, y, l, i, rfl, e, hl, hall⟩ := g46_out hs
      rw [hall h' hh, hall h (Heap.le_refl h)]
      exact ⟨hl, rfl⟩) fun args h hs => ?_)
  obtain ⟨v, y, l, i, rfl, e, hi, hall⟩ := g46_out hs
  have hev := hall h (Heap.le_refl h)
  refine ⟨hok'.2.2, by rw [hev]; rfl, fun n hn => ?_⟩
  rw [hev]
  clear hev hall
  obtain ⟨id, off, k, rfl, hk, ho, hat⟩ := bools_at e
  obtain ⟨q, rfl⟩ : ∃ q : Nat, i = q := ⟨i.toNat, by omega⟩
  have hro := ro_at hk
  have z0 := ne_of hk hn 0
  have z1 := ne_of hk hn 1
  simp only [Nat.add_zero] at z0
  by_cases hq : q < l.length
  · have hg := hat q hq
    have hqd : l[q]?.getD false = l[q] := by simp [hq]
    have ho1 : off + (q + 1) ≤ k.cells.length := by omega
    cases hb : l[q] with
    | false =>
      rw [hb] at hg hqd
      simp [awp_skip, awp_label, awp_region, awp_seq, awp_if, awp_block, awp_ret, awp_exit, thenQ_n, thenQ_e, thenQ_r, blockQ_n, blockQ_e, blockQ_r, finQ_n, finQ_r, finQ_e, resAll, resVal, resOne, aops_nil, aops_cons, atl_nil, atl_cons, adraw_eq, adrawA_nil, adrawA_cons, isA, goOp, gev, Region.binds, Heap.le_refl, aop, aeval, gocall, heapOp, quietOp, ev, constAV, setd, yav, ystop, up, env0, cx_ti, cx_G, cx_pf, ti, globS, glob, pfL, lds, ldc, ldcs, sts, sth, sls, slc, wr, place, fillOk, fillC, repZ, binI, isDiv, optInt, optI, eksOk, eksEq, EK.ok, EK.eq, AV.i, AV.isI, AV.isInt, AV.b.eq_1, AV.b.eq_2, AV.isB.eq_1, AV.isB.eq_2, AV.str, AV.isStr, unc_same, unc_tt, unc_tf, unc_f, unc_any, unc_v, unc_gp, unc_p, unc_s, unc_g, unc_e, unc_t, unc_fn, unc_okb, unc_bb, unc_isB, unc_b, AV.bb.eq_1, AV.bb.eq_2, AV.okb.eq_1, AV.okb.eq_2, AV.okg.eq_1, AV.okg.eq_2, AV.gd.eq_1, AV.gd.eq_2, AV.cells, AV.one, AV.ones, AV.slen, AV.isS, AV.isPtr, AV.gl, AV.isG, Value.oneCell', Nat.add_assoc, Tryd.f46, vv, ii, bv, hq, hro, z0, z1, hg, blurV, hqd, ho1, hb]
    | true =>
      rw [hb] at hg hqd
      simp [awp_skip, awp_label, awp_region, awp_seq, awp_if, awp_block, awp_ret, awp_exit, thenQ_n, thenQ_e, thenQ_r, blockQ_n, blockQ_e, blockQ_r, finQ_n, finQ_r, finQ_e, resAll, resVal, resOne, aops_nil, aops_cons, atl_nil, atl_cons, adraw_eq, adrawA_nil, adrawA_cons, isA, goOp, gev, Region.binds, Heap.le_refl, aop, aeval, gocall, heapOp, quietOp, ev, constAV, setd, yav, ystop, up, env0, cx_ti, cx_G, cx_pf, ti, globS, glob, pfL, lds, ldc, ldcs, sts, sth, sls, slc, wr, place, fillOk, fillC, repZ, binI, isDiv, optInt, optI, eksOk, eksEq, EK.ok, EK.eq, AV.i, AV.isI, AV.isInt, AV.b.eq_1, AV.b.eq_2, AV.isB.eq_1, AV.isB.eq_2, AV.str, AV.isStr, unc_same, unc_tt, unc_tf, unc_f, unc_any, unc_v, unc_gp, unc_p, unc_s, unc_g, unc_e, unc_t, unc_fn, unc_okb, unc_bb, unc_isB, unc_b, AV.bb.eq_1, AV.bb.eq_2, AV.okb.eq_1, AV.okb.eq_2, AV.okg.eq_1, AV.okg.eq_2, AV.gd.eq_1, AV.gd.eq_2, AV.cells, AV.one, AV.ones, AV.slen, AV.isS, AV.isPtr, AV.gl, AV.isG, Value.oneCell', Nat.add_assoc, Tryd.f46, vv, ii, bv, hq, hro, z0, z1, hg, blurV, hqd, ho1, hb, unk]
  · simp [awp_skip, awp_label, awp_region, awp_seq, awp_if, awp_block, awp_ret, awp_exit, thenQ_n, thenQ_e, thenQ_r, blockQ_n, blockQ_e, blockQ_r, finQ_n, finQ_r, finQ_e, resAll, resVal, resOne, aops_nil, aops_cons, atl_nil, atl_cons, adraw_eq, adrawA_nil, adrawA_cons, isA, goOp, gev, Region.binds, Heap.le_refl, aop, aeval, gocall, heapOp, quietOp, ev, constAV, setd, yav, ystop, up, env0, cx_ti, cx_G, cx_pf, ti, globS, glob, pfL, lds, ldc, ldcs, sts, sth, sls, slc, wr, place, fillOk, fillC, repZ, binI, isDiv, optInt, optI, eksOk, eksEq, EK.ok, EK.eq, AV.i, AV.isI, AV.isInt, AV.b.eq_1, AV.b.eq_2, AV.isB.eq_1, AV.isB.eq_2, AV.str, AV.isStr, unc_same, unc_tt, unc_tf, unc_f, unc_any, unc_v, unc_gp, unc_p, unc_s, unc_g, unc_e, unc_t, unc_fn, unc_okb, unc_bb, unc_isB, unc_b, AV.bb.eq_1, AV.bb.eq_2, AV.okb.eq_1, AV.okb.eq_2, AV.okg.eq_1, AV.okg.eq_2, AV.gd.eq_1, AV.gd.eq_2, AV.cells, AV.one, AV.ones, AV.slen, AV.isS, AV.isPtr, AV.gl, AV.isG, Value.oneCell', Nat.add_assoc, Tryd.f46, vv, ii, bv, hq, hro, z0, z1, blurV]

/-! ### the plain law -/
/-- What is known of the one is the other. -/
def Firm (w v : V) : Prop := w.k = true → v = w
theorem rank_firm {w v : V} (h : Firm w v) : rankV w = 1 ∨ rankV w = rankV v := by
  by_cases hk : w.k = true
  · rw [h hk]; exact .inr rfl
  · exact .inl (by unfold rankV; rw [if_pos (by simpa using hk)])
theorem ofRank_k (r : Int) : (ofRank r).k = true ↔ r = 0 ∨ r = 2 := by
  unfold ofRank
  split
  · simp_all
  · split <;> simp_all
theorem apply_firm (o : Int) {a b a' b' : V} (ha : Firm a' a) (hb : Firm b' b) : Firm (applyL o a' b') (applyL o a b) := by
  have both : ∀ (f : V → V → V), (∀ x y, (f x y).k = true → x.k = true ∧ y.k = true) → Firm (f a' b') (f a b) := fun f hf hk => by
    obtain ⟨h1, h2⟩ := hf _ _ hk
    rw [ha h1, hb h2]
  unfold applyL
  split
  · exact both addL fun x y h => by unfold addL unk at h; cases hx : x.k <;> cases hy : y.k <;> simp_all
  split
  · exact both subL fun x y h => by unfold subL unk at h; cases hx : x.k <;> cases hy : y.k <;> simp_all
  split
  · exact both mulL fun x y h => by unfold mulL unk at h; cases hx : x.k <;> cases hy : y.k <;> simp_all
  split
  · exact both divL fun x y h => by unfold divL unk at h; cases hx : x.k <;> cases hy : y.k <;> simp_all
  split
  · exact both modL fun x y h => by unfold modL unk at h; cases hx : x.k <;> cases hy : y.k <;> simp_all
  have r1 := rank_firm ha
  have r2 := rank_firm hb
  have q1 := rank3 a
  have q2 := rank3 b
  split
  · intro hk
    unfold andV at hk ⊢
    rw [ofRank_k] at hk
    congr 1
    split <;> split <;> simp_all <;> omega
  split
  · intro hk
    unfold orV at hk ⊢
    rw [ofRank_k] at hk
    congr 1
    split <;> split <;> simp_all <;> omega
  · exact both (cmpV o) fun x y h => by unfold cmpV unk at h; cases hx : x.k <;> cases hy : y.k <;> simp_all
theorem negL_k {a : V} (h : (negL a).k = true) : a.k = true := by
  unfold negL unk at h
  cases hx : a.k <;> simp_all
/-- Value by value. -/
def FirmL (d s : List V) : Prop := d.length = s.length ∧ ∀ i, Firm (d.getD i unk) (s.getD i unk)
/-- A step of the law: aggregates are no step. -/
def noAgg (s : Stp) : Stp := if 5 ≤ s.op ∧ s.op ≤ 10 then { s with op := 0 } else s
theorem asked_firm {d s : List V} {t : Stp} (h : FirmL d s) : Firm (askedV (foldG sumL) applyL d (noAgg t)) (askedV (foldG sumL) applyL s (noAgg t)) := by
  obtain ⟨h1, h2⟩ := h
  have he : d = [] ↔ s = [] := by
    constructor
    · intro e; rw [e] at h1; exact List.eq_nil_of_length_eq_zero h1.symm
    · intro e; rw [e] at h1; exact List.eq_nil_of_length_eq_zero h1
  have hno : ¬ (5 ≤ (noAgg t).op ∧ (noAgg t).op ≤ 10) := by
    unfold noAgg
    split
    · simp
    · assumption
  unfold askedV
  rw [h1]
  simp only [he, if_neg hno]
  split
  · exact fun _ => rfl
  split
  · intro hk
    have := negL_k hk
    rw [h2 _ this]
  split
  · intro hk
    have r := rank_firm (h2 (placeL (noAgg t).i s.length).toNat)
    unfold notV at hk ⊢
    rw [ofRank_k] at hk
    congr 1
    omega
  · exact apply_firm _ (h2 _) (h2 _)
end Go.Proofs.YtnodenojdjlbnaaDoor
