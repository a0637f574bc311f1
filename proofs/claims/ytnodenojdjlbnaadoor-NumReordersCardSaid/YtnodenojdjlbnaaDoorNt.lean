/-
  THE NUMBERS OF THIS PROGRAM, PART T: a list that is turned.
-/
import Derived.Test.YtnodenojdjlbnaaDoorMf
set_option linter.unusedSimpArgs false
namespace Go.Proofs.YtnodenojdjlbnaaDoor
open Go Go.Eng

def turnP (l : List Int) (p : Nat) : List Int := (l.drop p ++ l.take p).reverse
theorem turn_len (l : List Int) (p : Nat) : (turnP l p).length = l.length := by
  unfold turnP
  rw [List.length_reverse, List.length_append, List.length_drop, List.length_take]
  omega
theorem turn_get {l : List Int} {p m : Nat} (hp : p < l.length) (hm : m < l.length) : (turnP l p)[m]? = l[(l.length - 1 - m + p) % l.length]? := by
  unfold turnP
  have hlen : (l.drop p ++ l.take p).length = l.length := by rw [List.length_append, List.length_drop, List.length_take]; omega
  rw [List.getElem?_reverse (by omega), hlen]
  by_cases h : l.length - 1 - m < l.length - p
  · rw [List.getElem?_append_left (by rw [List.length_drop]; omega), List.getElem?_drop, Nat.mod_eq_of_lt (by omega), Nat.add_comm]
  · rw [List.getElem?_append_right (by rw [List.length_drop]; omega), List.length_drop, List.getElem?_take_of_lt (by omega), Nat.mod_eq_sub_mod (by omega), Nat.mod_eq_of_lt (by omega)]
    congr 1
    omega
theorem turn_next {l : List Int} {p m : Nat} (hp : p < l.length) (hm : m < l.length) : ((turnP l p).take (m + 1)).map ii = ((turnP l p).take m).map ii ++ [ii (l.getD ((l.length - 1 - m + p) % l.length) 0)] := by
  have h2 : m < (turnP l p).length := by rw [turn_len]; exact hm
  rw [take_next h2]
  congr 2
  have := turn_get hp hm
  rw [List.getElem?_eq_getElem h2] at this
  rw [List.getD_eq_getElem?_getD, ← this]
  rfl
theorem turn_mem (l : List Int) (p : Nat) (x : Int) : x ∈ turnP l p ↔ x ∈ l := by
  unfold turnP
  rw [List.mem_reverse, List.mem_append]
  constructor
  · rintro (h | h)
    · exact List.mem_of_mem_drop h
    · exact List.mem_of_mem_take h
  · intro h
    rw [← List.take_append_drop p l] at h
    rcases List.mem_append.1 h with h | h
    · exact .inr h
    · exact .inl h
theorem turn_sum (l : List Int) (p : Nat) : (turnP l p).sum = l.sum := by
  unfold turnP
  have h := congrArg List.sum (List.take_append_drop p l)
  rw [List.sum_append] at h
  have hrev : ∀ m : List Int, m.reverse.sum = m.sum := fun m => by
    induction m with
    | nil => rfl
    | cons a m ih => rw [List.reverse_cons, List.sum_append, ih]; simp; omega
  rw [hrev, List.sum_append]
  omega
theorem turn_all {l : List Int} (p : Nat) (h : All l) : All (turnP l p) := fun x hx => h x ((turn_mem l p x).1 hx)
theorem ext_le (l : List Int) (h : 0 < l.length) : (∀ x ∈ l, extAt false l l.length ≤ x) ∧ ∀ x ∈ l, x ≤ extAt true l l.length := by
  have key : ∀ (m : List Int) (z : Int), (m.foldl (fun (m x : Int) => if (if false = true then decide (m < x) else decide (x < m)) = true then x else m) z ≤ z ∧ ∀ x ∈ m, m.foldl (fun (m x : Int) => if (if false = true then decide (m < x) else decide (x < m)) = true then x else m) z ≤ x) ∧
      (z ≤ m.foldl (fun (m x : Int) => if (if true = true then decide (m < x) else decide (x < m)) = true then x else m) z ∧ ∀ x ∈ m, x ≤ m.foldl (fun (m x : Int) => if (if true = true then decide (m < x) else decide (x < m)) = true then x else m) z) := fun m => by
    induction m with
    | nil => intro z; simp
    | cons y m ih =>
      intro z
      simp only [List.foldl_cons, List.mem_cons]
      simp only [Bool.false_eq_true, if_false, if_true, decide_eq_true_eq] at ih ⊢
      obtain ⟨⟨i1, i2⟩, _⟩ := ih (if y < z then y else z)
      obtain ⟨_, i3, i4⟩ := ih (if z < y then y else z)
      refine ⟨⟨?_, ?_⟩, ?_, ?_⟩
      · exact Int.le_trans i1 (by split <;> omega)
      · rintro x (rfl | hx)
        · exact Int.le_trans i1 (by split <;> omega)
        · exact i2 x hx
      · exact Int.le_trans (by split <;> omega) i3
      · rintro x (rfl | hx)
        · exact Int.le_trans (by split <;> omega) i3
        · exact i4 x hx
  constructor
  · intro x hx
    have := ((key l (l.getD 0 0)).1).2 x hx
    simpa [extAt] using this
  · intro x hx
    have := ((key l (l.getD 0 0)).2).2 x hx
    simpa [extAt] using this
theorem ext_same (g : Bool) {l m : List Int} (hl : 0 < l.length) (hm : 0 < m.length) (h : ∀ x, x ∈ l ↔ x ∈ m) : extAt g l l.length = extAt g m m.length := by
  have a1 := ext_mem g l hl l.length
  have b1 := ext_mem g m hm m.length
  obtain ⟨a2, a3⟩ := ext_le l hl
  obtain ⟨b2, b3⟩ := ext_le m hm
  cases g
  · have := a2 _ ((h _).2 b1)
    have := b2 _ ((h _).1 a1)
    omega
  · have := a3 _ ((h _).2 b1)
    have := b3 _ ((h _).1 a1)
    omega
theorem fold_turn (o : Int) (ho : o = 6 ∨ o = 7 ∨ o = 8) {l : List Int} (p : Nat) (ha : All l) (hl : l.length < big) : foldG sumL o (turnP l p) = foldG sumL o l := by
  have h1 := turn_len l p
  have hs : sumL (turnP l p) = sumL l := by rw [sumL_eq (turn_all p ha) (by omega), sumL_eq ha hl, turn_sum]
  by_cases hz : l = []
  · subst hz
    have : turnP [] p = [] := by simp [turnP]
    rw [this]
  · have hp : 0 < l.length := List.length_pos_iff.2 hz
    have hz2 : ¬ turnP l p = [] := fun e => by rw [e] at h1; simp at h1; omega
    unfold foldG
    rw [hs, if_neg hz, if_neg hz2, ext_same false (by omega) hp (turn_mem l p), ext_same true (by omega) hp (turn_mem l p)]
    rcases ho with rfl | rfl | rfl <;> simp

set_option maxRecDepth 100000 in
set_option maxHeartbeats 4000000 in
theorem c35 {id : Nat} {rw_ : Bool} {l : List Int} {k : Int} {h : Heap} {n : Nat} (hk : h id = some ⟨l.map ii, 0, rw_, 1⟩) (hl : l.length * 8 ≤ 140737488351232) (hn : ∀ q, n ≤ q → h q = none) :
    ACall (cx [] (pfL [(58, g58)])) 35 [.s id 0 0 l.length, ii k] h n fun z h' n' => h.le h' ∧ (∀ q, n' ≤ q → h' q = none) ∧ n ≤ n' ∧ OwnI h' n n' z (turnP l (placeL k l.length).toNat) := by
  refine acall_of_awp (args := [.s id 0 0 l.length, ii k]) (pfL_ok (tb_cons p58 tb_nil)) (mixed _ _) Tryd.func35 (c := Tryd.f35.body.getD .skip) rfl (by kernel_rfl) (callable Tryd.func35 rfl rfl _ _) (show 2 ≤ Tryd.f35.ntmps by decide +kernel) ?_
  have hid : id < n := by
    by_cases hid : id < n
    · exact hid
    · rw [hn id (by omega)] at hk; cases hk
  have hgl := fun {i : Nat} (hi : i < l.length) => ii_getD l hi
  have hml : (l.map ii).length = l.length := List.length_map ..
  have key : ∀ e : Nat → AV, e 0 = .s id 0 0 l.length → e 1 = ii k → awp (cx [] (pfL [(58, g58)])) (Tryd.f35.body.getD .skip) (finQ (cx [] (pfL [(58, g58)])) Tryd.f35 fun z h' n' => h.le h' ∧ (∀ q, n' ≤ q → h' q = none) ∧ n ≤ n' ∧ OwnI h' n n' z (turnP l (placeL k l.length).toNat)) ⟨e, h, n⟩ := fun e he0 he1 => by
    have hw0 : IntKind.i64.wrap ((l.length : Int) - 1) = (l.length : Int) - 1 := W_id (by unfold Rng; omega)
    obtain ⟨t, ht⟩ : ∃ t, t = turnP l (placeL k l.length).toNat := ⟨_, rfl⟩
    have htl : t.length = l.length := by rw [ht, turn_len]
    rw [← ht]
    simp [awp_skip, awp_label, awp_region, awp_seq, awp_if, awp_block, awp_ret, awp_exit, thenQ_n, thenQ_e, thenQ_r, blockQ_n, blockQ_e, blockQ_r, finQ_n, finQ_r, finQ_e, resAll, resVal, resOne, aops_nil, aops_cons, atl_nil, atl_cons, adraw_eq, adrawA_nil, adrawA_cons, isA, goOp, gev, Region.binds, Heap.le_refl, aop, aeval, gocall, heapOp, quietOp, ev, constAV, setd, yav, ystop, up, env0, cx_ti, cx_G, cx_pf, ti, globS, glob, pfL, lds, ldc, ldcs, sts, sth, sls, slc, wr, place, fillOk, fillC, repZ, binI, isDiv, optInt, optI, eksOk, eksEq, EK.ok, EK.eq, AV.i, AV.isI, AV.isInt, AV.b.eq_1, AV.b.eq_2, AV.isB.eq_1, AV.isB.eq_2, AV.str, AV.isStr, unc_same, unc_tt, unc_tf, unc_f, unc_any, unc_v, unc_gp, unc_p, unc_s, unc_g, unc_e, unc_t, unc_fn, unc_okb, unc_bb, unc_isB, unc_b, AV.bb.eq_1, AV.bb.eq_2, AV.okb.eq_1, AV.okb.eq_2, AV.okg.eq_1, AV.okg.eq_2, AV.gd.eq_1, AV.gd.eq_2, AV.cells, AV.one, AV.ones, AV.slen, AV.isS, AV.isPtr, AV.gl, AV.isG, Value.oneCell', Nat.add_assoc, Tryd.f35, he0, he1, ii, hw0]
    refine awp_loop (fun s => ∃ m, m ≤ l.length ∧ s.e 0 = .s id 0 0 l.length ∧ s.e 1 = ii k ∧ s.e 6 = ii ((l.length : Int) - 1 - m) ∧ h.le s.h ∧ (∀ q, s.n ≤ q → s.h q = none) ∧ n ≤ s.n ∧ OwnI s.h n s.n (s.e 5) (t.take m)) (fun s => ((s.e 6).i + 1).toNat) ⟨0, Nat.zero_le _, by simp [up, he0], by simp [up, he1, ii], by simp [up, ii], Heap.le_refl _, hn, Nat.le_refl _, .inl ⟨by simp [up], by simp⟩⟩ ?_
    rintro e1 h1 n1 ⟨m, hm, q0, q1, q6, hle, hf, hnn, ho⟩
    simp only [] at q0 q1 q6 hle hf hnn ho
    have hkk := hle _ _ hk
    by_cases hc : m < l.length
    · have hp : (0 : Int) < l.length := by omega
      obtain ⟨x1, x2⟩ := place_rng (i := k) hp (by omega)
      obtain ⟨p, hpp⟩ : ∃ p : Nat, placeL k l.length = p := ⟨(placeL k l.length).toNat, by omega⟩
      rw [hpp] at x1 x2 ht
      simp only [Int.toNat_natCast] at ht
      have hpl : p < l.length := by omega
      obtain ⟨r, hr⟩ : ∃ r : Nat, r = (l.length - 1 - m + p) % l.length := ⟨_, rfl⟩
      have hrl : r < l.length := by rw [hr]; exact Nat.mod_lt _ (by omega)
      have hw1 : IntKind.i64.wrap ((l.length : Int) - 1 - m + p) = (l.length : Int) - 1 - m + p := W_id (by unfold Rng; omega)
      have hw2 : IntKind.i64.wrap ((l.length : Int) - 1 - m - 1) = (l.length : Int) - 1 - m - 1 := W_id (by unfold Rng; omega)
      have hpr : placeL ((l.length : Int) - 1 - m + p) l.length = r := by
        unfold placeL
        have e1 : ((l.length : Int) - 1 - m + p) = ((l.length - 1 - m + p : Nat) : Int) := by omega
        rw [e1, Int.tmod_eq_emod_of_nonneg (by omega), hr]
        rw [if_neg (by omega)]
        rfl
      have hget := hgl hrl
      have hnx := turn_next hpl hc
      rw [← ht, ← hr] at hnx
      have hrd : l.getD r 0 = l[r] := by simp [List.getD_eq_getElem?_getD, hrl]
      rw [hrd] at hnx
      have hlt2 : (t.take m).length = m := by rw [List.length_take]; omega
      have hci : (m : Int) ≤ (l.length : Int) - 1 := by omega
      have hl0 : ¬ l.length = 0 := by omega
      have hl00 : ¬ l = [] := fun e => hl0 (by rw [e]; rfl)
      have z1 : ¬ id = n1 := by omega
      rcases ho with ⟨q5, hnil⟩ | ⟨w, u, q5, hw, hwg, hwl⟩
      · have hm0 : m = 0 := by rw [hnil] at hlt2; exact hlt2.symm
        simp [awp_skip, awp_label, awp_region, awp_seq, awp_if, awp_block, awp_ret, awp_exit, thenQ_n, thenQ_e, thenQ_r, blockQ_n, blockQ_e, blockQ_r, finQ_n, finQ_r, finQ_e, resAll, resVal, resOne, aops_nil, aops_cons, atl_nil, atl_cons, adraw_eq, adrawA_nil, adrawA_cons, isA, goOp, gev, Region.binds, Heap.le_refl, aop, aeval, gocall, heapOp, quietOp, ev, constAV, setd, yav, ystop, up, env0, cx_ti, cx_G, cx_pf, ti, globS, glob, pfL, lds, ldc, ldcs, sts, sth, sls, slc, wr, place, fillOk, fillC, repZ, binI, isDiv, optInt, optI, eksOk, eksEq, EK.ok, EK.eq, AV.i, AV.isI, AV.isInt, AV.b.eq_1, AV.b.eq_2, AV.isB.eq_1, AV.isB.eq_2, AV.str, AV.isStr, unc_same, unc_tt, unc_tf, unc_f, unc_any, unc_v, unc_gp, unc_p, unc_s, unc_g, unc_e, unc_t, unc_fn, unc_okb, unc_bb, unc_isB, unc_b, AV.bb.eq_1, AV.bb.eq_2, AV.okb.eq_1, AV.okb.eq_2, AV.okg.eq_1, AV.okg.eq_2, AV.gd.eq_1, AV.gd.eq_2, AV.cells, AV.one, AV.ones, AV.slen, AV.isS, AV.isPtr, AV.gl, AV.isG, Value.oneCell', Nat.add_assoc, q0, q1, q5, q6, ii, hci, hkk, hl0, hl00, hpp, hw1, hw2, hpr, g58, pure2, deI, deZ, hrl, hget]
        refine ⟨by omega, ⟨m + 1, by omega, by omega, ?_, ?_, by omega, .inr ⟨n1 + 1, 0, ?_, ?_, by omega, by omega⟩⟩, by omega⟩
        · exact le_up (le_up hle (hn _ hnn)) (hn _ (by omega))
        · intro q hq
          rw [if_neg (by omega), if_neg (by omega)]
          exact hf q (by omega)
        · rw [List.length_take, hm0]; simp; omega
        · rw [hnx, hnil, up_same]; rfl
      · rw [hlt2] at q5
        have zw : ¬ w = n1 := by omega
        obtain ⟨ct, hct⟩ : ∃ ct, ct = (t.take m).map ii := ⟨_, rfl⟩
        have hctl : ct.length = m := by rw [hct]; simpa using hlt2
        rw [← hct] at hw hnx
        simp [awp_skip, awp_label, awp_region, awp_seq, awp_if, awp_block, awp_ret, awp_exit, thenQ_n, thenQ_e, thenQ_r, blockQ_n, blockQ_e, blockQ_r, finQ_n, finQ_r, finQ_e, resAll, resVal, resOne, aops_nil, aops_cons, atl_nil, atl_cons, adraw_eq, adrawA_nil, adrawA_cons, isA, goOp, gev, Region.binds, Heap.le_refl, aop, aeval, gocall, heapOp, quietOp, ev, constAV, setd, yav, ystop, up, env0, cx_ti, cx_G, cx_pf, ti, globS, glob, pfL, lds, ldc, ldcs, sts, sth, sls, slc, wr, place, fillOk, fillC, repZ, binI, isDiv, optInt, optI, eksOk, eksEq, EK.ok, EK.eq, AV.i, AV.isI, AV.isInt, AV.b.eq_1, AV.b.eq_2, AV.isB.eq_1, AV.isB.eq_2, AV.str, AV.isStr, unc_same, unc_tt, unc_tf, unc_f, unc_any, unc_v, unc_gp, unc_p, unc_s, unc_g, unc_e, unc_t, unc_fn, unc_okb, unc_bb, unc_isB, unc_b, AV.bb.eq_1, AV.bb.eq_2, AV.okb.eq_1, AV.okb.eq_2, AV.okg.eq_1, AV.okg.eq_2, AV.gd.eq_1, AV.gd.eq_2, AV.cells, AV.one, AV.ones, AV.slen, AV.isS, AV.isPtr, AV.gl, AV.isG, Value.oneCell', Nat.add_assoc, q0, q1, q5, q6, ii, hci, hkk, hl0, hl00, hpp, hw1, hw2, hpr, g58, pure2, deI, deZ, hrl, hget, hw, zw, z1, hctl]
        refine ⟨by omega, ⟨by omega, by omega⟩, ⟨m + 1, by omega, by omega, ?_, ?_, by omega, .inr ⟨w, u + 1, ?_, ?_, by omega, by omega⟩⟩, by omega⟩
        · exact le_up (le_up hle (hn _ hnn)) (hn _ hwg)
        · intro q hq
          rw [if_neg (by omega), if_neg (by omega)]
          exact hf q (by omega)
        · rw [List.length_take, Nat.min_eq_left (by omega)]
        · rw [hnx, up_same]; rfl
    · have hm0 : m = l.length := by omega
      subst hm0
      have hci : ¬ (l.length : Int) ≤ (l.length : Int) - 1 := by omega
      rw [List.take_of_length_le (by omega)] at ho
      simp [awp_skip, awp_label, awp_region, awp_seq, awp_if, awp_block, awp_ret, awp_exit, thenQ_n, thenQ_e, thenQ_r, blockQ_n, blockQ_e, blockQ_r, finQ_n, finQ_r, finQ_e, resAll, resVal, resOne, aops_nil, aops_cons, atl_nil, atl_cons, adraw_eq, adrawA_nil, adrawA_cons, isA, goOp, gev, Region.binds, Heap.le_refl, aop, aeval, gocall, heapOp, quietOp, ev, constAV, setd, yav, ystop, up, env0, cx_ti, cx_G, cx_pf, ti, globS, glob, pfL, lds, ldc, ldcs, sts, sth, sls, slc, wr, place, fillOk, fillC, repZ, binI, isDiv, optInt, optI, eksOk, eksEq, EK.ok, EK.eq, AV.i, AV.isI, AV.isInt, AV.b.eq_1, AV.b.eq_2, AV.isB.eq_1, AV.isB.eq_2, AV.str, AV.isStr, unc_same, unc_tt, unc_tf, unc_f, unc_any, unc_v, unc_gp, unc_p, unc_s, unc_g, unc_e, unc_t, unc_fn, unc_okb, unc_bb, unc_isB, unc_b, AV.bb.eq_1, AV.bb.eq_2, AV.okb.eq_1, AV.okb.eq_2, AV.okg.eq_1, AV.okg.eq_2, AV.gd.eq_1, AV.gd.eq_2, AV.cells, AV.one, AV.ones, AV.slen, AV.isS, AV.isPtr, AV.gl, AV.isG, Value.oneCell', Nat.add_assoc, q0, q1, q6, ii, hci]
      exact ⟨hle, hf, hnn, ho⟩
  exact key _ rfl rfl
end Go.Proofs.YtnodenojdjlbnaaDoor
