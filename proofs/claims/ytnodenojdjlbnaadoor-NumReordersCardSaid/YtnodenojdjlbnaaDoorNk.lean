/-
  THE NUMBERS OF THIS PROGRAM, PART K: lists of values; the values that are known; a step of a straight line.
-/
import Derived.Test.YtnodenojdjlbnaaDoorMd
import Derived.Test.YtnodenojdjlbnaaDoorEngK
set_option linter.unusedSimpArgs false
namespace Go.Proofs.YtnodenojdjlbnaaDoor
open Go Go.Eng

def vcells (v : V) : List AV := [.v (.bool v.k), .v (.int .i64 v.n)]
def deVc : List AV → Option (List V)
  | [] => some []
  | .v (.bool k) :: .v (.int .i64 n) :: r => (deVc r).map (⟨k, n⟩ :: ·)
  | _ => none
theorem deVc_eq : ∀ {xs : List AV} {l : List V}, deVc xs = some l → xs = l.flatMap vcells
  | [], l, h => by
    simp only [deVc, Option.some.injEq] at h
    subst h
    rfl
  | .v (.bool k) :: .v (.int .i64 n) :: r, l, h => by
    simp only [deVc, Option.map_eq_some_iff] at h
    obtain ⟨l', h1, rfl⟩ := h
    rw [deVc_eq h1]
    rfl
theorem deVc_in : ∀ l : List V, deVc (l.flatMap vcells) = some l
  | [] => rfl
  | v :: l => by
    simp only [List.flatMap_cons, vcells, List.cons_append, List.nil_append, deVc]
    rw [deVc_in l]
    rfl
theorem vc_len (l : List V) : (l.flatMap vcells).length = l.length * 2 := by
  induction l with
  | nil => rfl
  | cons v l ih => simp only [List.flatMap_cons, List.length_append, ih, vcells, List.length_cons, List.length_nil]; omega
theorem vc_get : ∀ {l : List V} {i : Nat} (h : i < l.length), (l.flatMap vcells)[i * 2]? = some (.v (.bool l[i].k)) ∧ (l.flatMap vcells)[i * 2 + 1]? = some (.v (.int .i64 l[i].n))
  | [], _, h => by simp at h
  | v :: l, 0, _ => by simp [vcells]
  | v :: l, i + 1, h => by
    have ih := vc_get (l := l) (i := i) (by simpa using h)
    rw [show (i + 1) * 2 = i * 2 + 1 + 1 by omega]
    simp only [List.flatMap_cons, vcells, List.cons_append, List.nil_append, List.getElem?_cons_succ, List.getElem_cons_succ]
    exact ih
/-- The values of a list. -/
def vals (h : Heap) : AV → Option (List V)
  | .s id ver off len => match h id with
    | some k => if k.ver = ver ∧ off + len * 2 ≤ k.cells.length then deVc ((k.cells.drop off).take (len * 2)) else none
    | none => none
  | .v (.slice none n m) => if n = 0 ∧ m = 0 then some [] else none
  | _ => none
theorem vals_at {h : Heap} {a : AV} {l : List V} (e : vals h a = some l) : (a = .v (.slice none 0 0) ∧ l = []) ∨
    ∃ id off k, a = .s id k.ver off l.length ∧ h id = some k ∧ off + l.length * 2 ≤ k.cells.length ∧ ∀ i (hi : i < l.length), k.cells[off + i * 2]? = some (.v (.bool l[i].k)) ∧ k.cells[off + (i * 2 + 1)]? = some (.v (.int .i64 l[i].n)) := by
  unfold vals at e
  split at e
  · rename_i id ver off len
    split at e
    · rename_i k hk
      split at e
      · rename_i hc
        have he := deVc_eq e
        have hl : l.length = len := by
          have := congrArg List.length he
          rw [vc_len, List.length_take, List.length_drop] at this
          omega
        refine .inr ⟨id, off, k, by rw [hc.1, hl], hk, by omega, fun i hi => ?_⟩
        obtain ⟨g1, g2⟩ := vc_get hi
        rw [← he] at g1 g2
        rw [List.getElem?_take_of_lt (by omega), List.getElem?_drop] at g1 g2
        exact ⟨g1, g2⟩
      · cases e
    · cases e
  · split at e
    · rename_i hc
      cases e
      exact .inl ⟨by rw [hc.1, hc.2], rfl⟩
    · cases e
  · cases e
theorem vals_mono {h h' : Heap} (hh : h.le h') {a : AV} {l : List V} (e : vals h a = some l) : vals h' a = some l := by
  unfold vals at e ⊢
  split at e
  · split at e
    · rename_i hk
      simp only [hh _ _ hk]
      exact e
    · cases e
  · exact e
  · cases e
/-- The numbers of the values from i to j that are known. -/
def knownL (l : List V) (i j : Int) : List Int := (((l.take (j + 1).toNat).drop i.toNat).filter (·.k)).map (·.n)

theorem acall_any {S S' : List Nat} {pf pf' : FuncId → Option (List AV → Heap → PRes)} (hs : ∀ x ∈ S, x ∈ S') {f : FuncId} {args : List AV} {h : Heap} {n : Nat} {Q : AV → Heap → Nat → Prop} (k : ACall (cx S pf) f args h n Q) : ACall (cx S' pf') f args h n Q := by
  refine ⟨k.1, fun K w0 ρ w vs r hv => ?_⟩
  have hsub : ∀ g cs, globS S g = some cs → globS S' g = some cs := fun g cs hg => by
    simp only [globS] at hg ⊢
    by_cases hm : g ∈ S
    · rw [if_pos hm] at hg; rw [if_pos (hs g hm)]; exact hg
    · rw [if_neg hm] at hg; cases hg
  have r0 : Rel (cx S pf) K w0 ρ (n ≤ ·) h w := ⟨r.os, r.tape, r.output, r.size, r.keep, r.kold, fun g cs hg => r.glob g cs (hsub g cs hg), r.blk, r.apart, r.mine, r.free, r.vers⟩
  refine (k.2 K w0 ρ w vs r0 hv).mono fun e w' ⟨y, h1, ρ2, z, h', n', h2, h3, r2, h5⟩ => ⟨y, h1, ρ2, z, h', n', h2, h3, ⟨r2.os, r2.tape, r2.output, r2.size, r2.keep, r2.kold, fun g cs hg => ?_, r2.blk, r2.apart, r2.mine, r2.free, r2.vers⟩, h5⟩
  obtain ⟨g1, arr, el, fr, g2, g3⟩ := r.glob g cs hg
  exact ⟨g1, arr, el, fr, by rw [r2.keep g g1, ← r.keep g g1]; exact g2, g3⟩

theorem known_next {l : List V} {i k : Nat} {hi : i ≤ k} (h : k < l.length) : knownL l i k = knownL l i ((k : Int) - 1) ++ (if l[k].k = true then [l[k].n] else []) := by
  unfold knownL
  rw [show ((k : Int) + 1).toNat = k + 1 by omega, show ((k : Int) - 1 + 1).toNat = k by omega, show (i : Int).toNat = i by omega, List.take_add_one, List.getElem?_eq_getElem h, List.drop_append_of_le_length (by rw [List.length_take]; omega), List.filter_append, List.map_append]
  congr 1
  cases hk : l[k].k <;> simp [hk]
theorem known_none {l : List V} {i k : Nat} (h : k ≤ i) : knownL l i ((k : Int) - 1) = [] := by
  unfold knownL
  rw [show ((k : Int) - 1 + 1).toNat = k by omega, show (i : Int).toNat = i by omega, List.drop_eq_nil_of_le (by rw [List.length_take]; omega)]
  rfl
theorem known_end {l : List V} {i k : Nat} {j : Int} (h : j < k) (h2 : (k : Int) ≤ max (i : Int) (j + 1)) : knownL l i j = knownL l i ((k : Int) - 1) := by
  by_cases hk : (k : Int) = j + 1
  · rw [show j = (k : Int) - 1 by omega]
  · have h3 : k ≤ i := by omega
    rw [known_none h3]
    unfold knownL
    rw [List.drop_eq_nil_of_le (by rw [List.length_take]; omega)]
    rfl
theorem known_end2 {l : List V} {i k : Nat} {j : Int} (h : l.length ≤ k) (h2 : k ≤ j) : knownL l i j = knownL l i ((k : Int) - 1) := by
  unfold knownL
  rw [List.take_of_length_le (by omega), List.take_of_length_le (by omega)]
theorem known_len (l : List V) (i j : Int) : (knownL l i j).length ≤ l.length := by
  unfold knownL
  rw [List.length_map]
  refine Nat.le_trans (List.length_filter_le _ _) ?_
  rw [List.length_drop, List.length_take]
  omega
theorem known_len2 (l : List V) (i j : Int) : (knownL l i j).length ≤ (j + 1).toNat := by
  unfold knownL
  rw [List.length_map]
  refine Nat.le_trans (List.length_filter_le _ _) ?_
  rw [List.length_drop, List.length_take]
  omega
theorem le_up {h h' : Heap} {n : Nat} {b : Blk} (hh : h.le h') (hn : h n = none) : h.le (up h' n (some b)) := fun i k hk => by
  have : i ≠ n := fun e => by rw [e, hn] at hk; cases hk
  rw [up_ne _ _ this]; exact hh i k hk
set_option maxRecDepth 100000 in
set_option maxHeartbeats 4000000 in
theorem c66 {a : AV} {l : List V} {i : Nat} {j : Int} {h : Heap} {n : Nat} (hv : vals h a = some l) (hl : l.length * 8 ≤ 140737488355328) (hi : i ≤ l.length) (hn : ∀ q, n ≤ q → h q = none) :
    ACall (cx [] (pfL [])) 66 [a, ii i, ii j] h n fun z h' n' => h.le h' ∧ (∀ q, n' ≤ q → h' q = none) ∧ n ≤ n' ∧ ints h' z = some (knownL l i j) := by
  refine acall_of_awp (args := [a, ii i, ii j]) (pfL_ok tb_nil) (mixed _ _) Tryd.func66 (c := Tryd.f66.body.getD .skip) rfl (by kernel_rfl) (callable Tryd.func66 rfl rfl _ _) (show 3 ≤ Tryd.f66.ntmps by decide +kernel) ?_
  have key : ∀ e : Nat → AV, e 0 = a → e 1 = ii i → e 2 = ii j → awp (cx [] (pfL [])) (Tryd.f66.body.getD .skip) (finQ (cx [] (pfL [])) Tryd.f66 fun z h' n' => h.le h' ∧ (∀ q, n' ≤ q → h' q = none) ∧ n ≤ n' ∧ ints h' z = some (knownL l i j)) ⟨e, h, n⟩ := fun e he0 he1 he2 => by
    simp [awp_skip, awp_label, awp_region, awp_seq, awp_if, awp_block, awp_ret, awp_exit, thenQ_n, thenQ_e, thenQ_r, blockQ_n, blockQ_e, blockQ_r, finQ_n, finQ_r, finQ_e, resAll, resVal, resOne, aops_nil, aops_cons, atl_nil, atl_cons, adraw_eq, adrawA_nil, adrawA_cons, isA, goOp, gev, Region.binds, Heap.le_refl, aop, aeval, gocall, heapOp, quietOp, ev, constAV, setd, yav, ystop, up, env0, cx_ti, cx_G, cx_pf, ti, globS, glob, pfL, lds, ldc, ldcs, sts, sth, sls, slc, wr, place, fillOk, fillC, repZ, binI, isDiv, optInt, optI, eksOk, eksEq, EK.ok, EK.eq, AV.i, AV.isI, AV.isInt, AV.b.eq_1, AV.b.eq_2, AV.isB.eq_1, AV.isB.eq_2, AV.str, AV.isStr, unc_same, unc_tt, unc_tf, unc_f, unc_any, unc_v, unc_gp, unc_p, unc_s, unc_g, unc_e, unc_t, unc_fn, unc_okb, unc_bb, unc_isB, unc_b, AV.bb.eq_1, AV.bb.eq_2, AV.okb.eq_1, AV.okb.eq_2, AV.okg.eq_1, AV.okg.eq_2, AV.gd.eq_1, AV.gd.eq_2, AV.cells, AV.one, AV.ones, AV.slen, AV.isS, AV.isPtr, AV.gl, AV.isG, Value.oneCell', Nat.add_assoc, Tryd.f66, he0, he1, he2, ii]
    refine awp_loop (fun s => ∃ k : Nat, i ≤ k ∧ k ≤ l.length ∧ (k : Int) ≤ max (i : Int) (j + 1) ∧ s.e 0 = a ∧ s.e 2 = ii j ∧ s.e 8 = ii k ∧ h.le s.h ∧ (∀ q, s.n ≤ q → s.h q = none) ∧ n ≤ s.n ∧ OwnI s.h n s.n (s.e 7) (knownL l i ((k : Int) - 1))) (fun s => l.length - (s.e 8).i.toNat) ⟨i, Nat.le_refl _, hi, by omega, by simp [up, he0], by simp [up, he2, ii], by simp [up, ii], Heap.le_refl _, hn, Nat.le_refl _, .inl ⟨by simp [up], known_none (Nat.le_refl _)⟩⟩ ?_
    rintro e1 h1 n1 ⟨k, hik, hkl, hkj, q0, q2, q8, hle, hf, hnn, ho⟩
    simp only [] at q0 q2 q8 hle hf hnn ho
    by_cases c1 : (k : Int) ≤ j
    · by_cases c2 : k < l.length
      · rcases vals_at hv with ⟨rfl, hl0⟩ | ⟨id, off, b, rfl, hb, hoff, hat⟩
        · rw [hl0] at c2; simp at c2
        · obtain ⟨g1, g2⟩ := hat k c2
          have hb1 := hle _ _ hb
          have hid : id < n := by
            by_cases hid : id < n
            · exact hid
            · rw [hn id (by omega)] at hb; cases hb
          have z1 : ¬ id = n1 := by omega
          have hw1 := wrap_nat (j := k) (by unfold big; omega)
          have ho1 : off + (k * 2 + 1) ≤ b.cells.length := by omega
          have ho2 : off + (k * 2 + 1 + 1) ≤ b.cells.length := by omega
          have hnx := known_next (i := i) (hi := hik) c2
          have hln : (knownL l i ((k : Int) - 1)).length ≤ k := Nat.le_trans (known_len2 _ _ _) (by omega)
          have hf1 := hf n1 (Nat.le_refl _)
          have hf2 := hf (n1 + 1) (by omega)
          cases hk : l[k].k with
          | false =>
            rw [hk] at g1
            rw [hk] at hnx
            simp only [Bool.false_eq_true, if_false, List.append_nil] at hnx
            simp [awp_skip, awp_label, awp_region, awp_seq, awp_if, awp_block, awp_ret, awp_exit, thenQ_n, thenQ_e, thenQ_r, blockQ_n, blockQ_e, blockQ_r, finQ_n, finQ_r, finQ_e, resAll, resVal, resOne, aops_nil, aops_cons, atl_nil, atl_cons, adraw_eq, adrawA_nil, adrawA_cons, isA, goOp, gev, Region.binds, Heap.le_refl, aop, aeval, gocall, heapOp, quietOp, ev, constAV, setd, yav, ystop, up, env0, cx_ti, cx_G, cx_pf, ti, globS, glob, pfL, lds, ldc, ldcs, sts, sth, sls, slc, wr, place, fillOk, fillC, repZ, binI, isDiv, optInt, optI, eksOk, eksEq, EK.ok, EK.eq, AV.i, AV.isI, AV.isInt, AV.b.eq_1, AV.b.eq_2, AV.isB.eq_1, AV.isB.eq_2, AV.str, AV.isStr, unc_same, unc_tt, unc_tf, unc_f, unc_any, unc_v, unc_gp, unc_p, unc_s, unc_g, unc_e, unc_t, unc_fn, unc_okb, unc_bb, unc_isB, unc_b, AV.bb.eq_1, AV.bb.eq_2, AV.okb.eq_1, AV.okb.eq_2, AV.okg.eq_1, AV.okg.eq_2, AV.gd.eq_1, AV.gd.eq_2, AV.cells, AV.one, AV.ones, AV.slen, AV.isS, AV.isPtr, AV.gl, AV.isG, Value.oneCell', Nat.add_assoc, q0, q2, q8, ii, c1, c2, hb1, g1, hw1, ho1, ho2]
            refine ⟨⟨k + 1, by omega, by omega, by omega, by omega, hle, hf, hnn, ?_⟩, by omega⟩
            rw [show ((k + 1 : Nat) : Int) - 1 = k by omega, hnx]
            exact ho
          | true =>
            rw [hk] at g1
            rw [hk] at hnx
            simp only [if_true] at hnx
            rcases ho with ⟨q7, hnil⟩ | ⟨w, u, q7, hm, hwg, hwl⟩
            · simp [awp_skip, awp_label, awp_region, awp_seq, awp_if, awp_block, awp_ret, awp_exit, thenQ_n, thenQ_e, thenQ_r, blockQ_n, blockQ_e, blockQ_r, finQ_n, finQ_r, finQ_e, resAll, resVal, resOne, aops_nil, aops_cons, atl_nil, atl_cons, adraw_eq, adrawA_nil, adrawA_cons, isA, goOp, gev, Region.binds, Heap.le_refl, aop, aeval, gocall, heapOp, quietOp, ev, constAV, setd, yav, ystop, up, env0, cx_ti, cx_G, cx_pf, ti, globS, glob, pfL, lds, ldc, ldcs, sts, sth, sls, slc, wr, place, fillOk, fillC, repZ, binI, isDiv, optInt, optI, eksOk, eksEq, EK.ok, EK.eq, AV.i, AV.isI, AV.isInt, AV.b.eq_1, AV.b.eq_2, AV.isB.eq_1, AV.isB.eq_2, AV.str, AV.isStr, unc_same, unc_tt, unc_tf, unc_f, unc_any, unc_v, unc_gp, unc_p, unc_s, unc_g, unc_e, unc_t, unc_fn, unc_okb, unc_bb, unc_isB, unc_b, AV.bb.eq_1, AV.bb.eq_2, AV.okb.eq_1, AV.okb.eq_2, AV.okg.eq_1, AV.okg.eq_2, AV.gd.eq_1, AV.gd.eq_2, AV.cells, AV.one, AV.ones, AV.slen, AV.isS, AV.isPtr, AV.gl, AV.isG, Value.oneCell', Nat.add_assoc, q0, q2, q7, q8, ii, c1, c2, hb1, g1, g2, hw1, ho1, ho2]
              refine ⟨⟨k + 1, by omega, by omega, by omega, by omega, ?_, ?_, by omega, .inr ⟨n1 + 1, 0, ?_, ?_, by omega, by omega⟩⟩, by omega⟩
              · exact le_up (le_up hle (hn _ hnn)) (hn _ (by omega))
              · intro q hq
                rw [if_neg (by omega), if_neg (by omega)]
                exact hf q (by omega)
              · rw [show ((k + 1 : Nat) : Int) - 1 = k by omega, hnx, hnil]; rfl
              · rw [show ((k + 1 : Nat) : Int) - 1 = k by omega, hnx, hnil, up_same]; rfl
            · have zw : ¬ w = n1 := by omega
              obtain ⟨o', ho'⟩ : ∃ o', o' = knownL l i ((k : Int) - 1) := ⟨_, rfl⟩
              rw [← ho'] at q7 hm hln hnx
              simp [awp_skip, awp_label, awp_region, awp_seq, awp_if, awp_block, awp_ret, awp_exit, thenQ_n, thenQ_e, thenQ_r, blockQ_n, blockQ_e, blockQ_r, finQ_n, finQ_r, finQ_e, resAll, resVal, resOne, aops_nil, aops_cons, atl_nil, atl_cons, adraw_eq, adrawA_nil, adrawA_cons, isA, goOp, gev, Region.binds, Heap.le_refl, aop, aeval, gocall, heapOp, quietOp, ev, constAV, setd, yav, ystop, up, env0, cx_ti, cx_G, cx_pf, ti, globS, glob, pfL, lds, ldc, ldcs, sts, sth, sls, slc, wr, place, fillOk, fillC, repZ, binI, isDiv, optInt, optI, eksOk, eksEq, EK.ok, EK.eq, AV.i, AV.isI, AV.isInt, AV.b.eq_1, AV.b.eq_2, AV.isB.eq_1, AV.isB.eq_2, AV.str, AV.isStr, unc_same, unc_tt, unc_tf, unc_f, unc_any, unc_v, unc_gp, unc_p, unc_s, unc_g, unc_e, unc_t, unc_fn, unc_okb, unc_bb, unc_isB, unc_b, AV.bb.eq_1, AV.bb.eq_2, AV.okb.eq_1, AV.okb.eq_2, AV.okg.eq_1, AV.okg.eq_2, AV.gd.eq_1, AV.gd.eq_2, AV.cells, AV.one, AV.ones, AV.slen, AV.isS, AV.isPtr, AV.gl, AV.isG, Value.oneCell', Nat.add_assoc, q0, q2, q7, q8, ii, c1, c2, hb1, g1, g2, hw1, ho1, ho2, hm, zw]
              refine ⟨by omega, ⟨k + 1, by omega, by omega, by omega, by omega, ?_, ?_, by omega, .inr ⟨w, u + 1, ?_, ?_, by omega, by omega⟩⟩, by omega⟩
              · exact le_up (le_up hle (hn _ hnn)) (hn _ hwg)
              · intro q hq
                rw [if_neg (by omega), if_neg (by omega)]
                exact hf q (by omega)
              · rw [show ((k + 1 : Nat) : Int) - 1 = k by omega, hnx]; simp
              · rw [show ((k + 1 : Nat) : Int) - 1 = k by omega, hnx, up_same]; simp [ii]
      · have hend := known_end2 (l := l) (i := i) (k := k) (j := j) (by omega) c1
        rcases vals_at hv with ⟨rfl, hl0⟩ | ⟨id, off, b, rfl, hb, hoff, hat⟩
        · have hk0 : k = 0 := by rw [hl0] at hkl; simpa using hkl
          subst hk0
          have c1' : 0 ≤ j := by simpa using c1
          simp [awp_skip, awp_label, awp_region, awp_seq, awp_if, awp_block, awp_ret, awp_exit, thenQ_n, thenQ_e, thenQ_r, blockQ_n, blockQ_e, blockQ_r, finQ_n, finQ_r, finQ_e, resAll, resVal, resOne, aops_nil, aops_cons, atl_nil, atl_cons, adraw_eq, adrawA_nil, adrawA_cons, isA, goOp, gev, Region.binds, Heap.le_refl, aop, aeval, gocall, heapOp, quietOp, ev, constAV, setd, yav, ystop, up, env0, cx_ti, cx_G, cx_pf, ti, globS, glob, pfL, lds, ldc, ldcs, sts, sth, sls, slc, wr, place, fillOk, fillC, repZ, binI, isDiv, optInt, optI, eksOk, eksEq, EK.ok, EK.eq, AV.i, AV.isI, AV.isInt, AV.b.eq_1, AV.b.eq_2, AV.isB.eq_1, AV.isB.eq_2, AV.str, AV.isStr, unc_same, unc_tt, unc_tf, unc_f, unc_any, unc_v, unc_gp, unc_p, unc_s, unc_g, unc_e, unc_t, unc_fn, unc_okb, unc_bb, unc_isB, unc_b, AV.bb.eq_1, AV.bb.eq_2, AV.okb.eq_1, AV.okb.eq_2, AV.okg.eq_1, AV.okg.eq_2, AV.gd.eq_1, AV.gd.eq_2, AV.cells, AV.one, AV.ones, AV.slen, AV.isS, AV.isPtr, AV.gl, AV.isG, Value.oneCell', Nat.add_assoc, q0, q2, q8, ii, c1']
          refine ⟨hle, hf, hnn, ?_⟩
          rw [hend]
          rcases ho with ⟨q7, hnil⟩ | ⟨w, u, q7, hm, hwg, hwl⟩
          · rw [q7, hnil]; rfl
          · rw [q7]; simp [ints, hm, deIs_ii, take_ii]
        · simp [awp_skip, awp_label, awp_region, awp_seq, awp_if, awp_block, awp_ret, awp_exit, thenQ_n, thenQ_e, thenQ_r, blockQ_n, blockQ_e, blockQ_r, finQ_n, finQ_r, finQ_e, resAll, resVal, resOne, aops_nil, aops_cons, atl_nil, atl_cons, adraw_eq, adrawA_nil, adrawA_cons, isA, goOp, gev, Region.binds, Heap.le_refl, aop, aeval, gocall, heapOp, quietOp, ev, constAV, setd, yav, ystop, up, env0, cx_ti, cx_G, cx_pf, ti, globS, glob, pfL, lds, ldc, ldcs, sts, sth, sls, slc, wr, place, fillOk, fillC, repZ, binI, isDiv, optInt, optI, eksOk, eksEq, EK.ok, EK.eq, AV.i, AV.isI, AV.isInt, AV.b.eq_1, AV.b.eq_2, AV.isB.eq_1, AV.isB.eq_2, AV.str, AV.isStr, unc_same, unc_tt, unc_tf, unc_f, unc_any, unc_v, unc_gp, unc_p, unc_s, unc_g, unc_e, unc_t, unc_fn, unc_okb, unc_bb, unc_isB, unc_b, AV.bb.eq_1, AV.bb.eq_2, AV.okb.eq_1, AV.okb.eq_2, AV.okg.eq_1, AV.okg.eq_2, AV.gd.eq_1, AV.gd.eq_2, AV.cells, AV.one, AV.ones, AV.slen, AV.isS, AV.isPtr, AV.gl, AV.isG, Value.oneCell', Nat.add_assoc, q0, q2, q8, ii, c1, c2]
          refine ⟨hle, hf, hnn, ?_⟩
          rw [hend]
          rcases ho with ⟨q7, hnil⟩ | ⟨w, u, q7, hm, hwg, hwl⟩
          · rw [q7, hnil]; rfl
          · rw [q7]; simp [ints, hm, deIs_ii, take_ii]
    · have hend := known_end (l := l) (i := i) (k := k) (j := j) (by omega) hkj
      simp [awp_skip, awp_label, awp_region, awp_seq, awp_if, awp_block, awp_ret, awp_exit, thenQ_n, thenQ_e, thenQ_r, blockQ_n, blockQ_e, blockQ_r, finQ_n, finQ_r, finQ_e, resAll, resVal, resOne, aops_nil, aops_cons, atl_nil, atl_cons, adraw_eq, adrawA_nil, adrawA_cons, isA, goOp, gev, Region.binds, Heap.le_refl, aop, aeval, gocall, heapOp, quietOp, ev, constAV, setd, yav, ystop, up, env0, cx_ti, cx_G, cx_pf, ti, globS, glob, pfL, lds, ldc, ldcs, sts, sth, sls, slc, wr, place, fillOk, fillC, repZ, binI, isDiv, optInt, optI, eksOk, eksEq, EK.ok, EK.eq, AV.i, AV.isI, AV.isInt, AV.b.eq_1, AV.b.eq_2, AV.isB.eq_1, AV.isB.eq_2, AV.str, AV.isStr, unc_same, unc_tt, unc_tf, unc_f, unc_any, unc_v, unc_gp, unc_p, unc_s, unc_g, unc_e, unc_t, unc_fn, unc_okb, unc_bb, unc_isB, unc_b, AV.bb.eq_1, AV.bb.eq_2, AV.okb.eq_1, AV.okb.eq_2, AV.okg.eq_1, AV.okg.eq_2, AV.gd.eq_1, AV.gd.eq_2, AV.cells, AV.one, AV.ones, AV.slen, AV.isS, AV.isPtr, AV.gl, AV.isG, Value.oneCell', Nat.add_assoc, q0, q2, q8, ii, c1]
      refine ⟨hle, hf, hnn, ?_⟩
      rw [hend]
      rcases ho with ⟨q7, hnil⟩ | ⟨w, u, q7, hm, hwg, hwl⟩
      · rw [q7, hnil]; rfl
      · rw [q7]; simp [ints, hm, deIs_ii, take_ii]
  exact key _ rfl rfl rfl
end Go.Proofs.YtnodenojdjlbnaaDoor
