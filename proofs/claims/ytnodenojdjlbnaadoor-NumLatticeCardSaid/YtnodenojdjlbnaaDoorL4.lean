/-
  NumLattice: the law's own code.
-/
import Derived.Test.YtnodenojdjlbnaaDoorNd
set_option linter.unusedSimpArgs false
namespace Go.Proofs.YtnodenojdjlbnaaDoor
open Go Go.Eng
def tbl4 : List (FuncId × (List AV → Heap → PRes)) := [(17, g17), (18, g18), (19, g19), (20, g20), (25, g25)]
theorem tbl4_ok : TbOk [0, 1, 2] tbl4 := tb_cons p17 (tb_cons p18 (tb_cons p19 (tb_cons p20 (tb_cons p25 tb_nil))))
theorem cases3 (a : V) : a = ⟨true, 0⟩ ∨ (∃ n, a = ⟨false, n⟩) ∨ ∃ n, n ≠ 0 ∧ a = ⟨true, n⟩ := by
  obtain ⟨k, n⟩ := a
  cases k
  · exact .inr (.inl ⟨n, rfl⟩)
  · by_cases h : n = 0
    · exact .inl (by rw [h])
    · exact .inr (.inr ⟨n, h, rfl⟩)
theorem V_eta (a : V) : (⟨a.k, a.n⟩ : V) = a := rfl
section
variable (a b c : V)
theorem andV_comm : andV b a = andV a b := by simp only [andV]; rcases rank3 a with e | e | e <;> rcases rank3 b with f | f | f <;> simp [e, f]
theorem orV_comm : orV b a = orV a b := by simp only [orV]; rcases rank3 a with e | e | e <;> rcases rank3 b with f | f | f <;> simp [e, f]
theorem rank_of0 : rankV (ofRank 0) = 0 := rfl
theorem rank_of1 : rankV (ofRank 1) = 1 := rfl
theorem rank_of2 : rankV (ofRank 2) = 2 := rfl
theorem andV_assoc : andV (andV a b) c = andV a (andV b c) := by simp only [andV]; rcases rank3 a with e | e | e <;> rcases rank3 b with f | f | f <;> rcases rank3 c with g | g | g <;> simp [e, f, g, rank_of0, rank_of1, rank_of2]
theorem orV_assoc : orV (orV a b) c = orV a (orV b c) := by simp only [orV]; rcases rank3 a with e | e | e <;> rcases rank3 b with f | f | f <;> rcases rank3 c with g | g | g <;> simp [e, f, g, rank_of0, rank_of1, rank_of2]
theorem andV_orV : andV a (orV b c) = orV (andV a b) (andV a c) := by simp only [andV, orV]; rcases rank3 a with e | e | e <;> rcases rank3 b with f | f | f <;> rcases rank3 c with g | g | g <;> simp [e, f, g, rank_of0, rank_of1, rank_of2]
theorem orV_andV : orV a (andV b c) = andV (orV a b) (orV a c) := by simp only [andV, orV]; rcases rank3 a with e | e | e <;> rcases rank3 b with f | f | f <;> rcases rank3 c with g | g | g <;> simp [e, f, g, rank_of0, rank_of1, rank_of2]
theorem andV_k : (andV a ⟨true, 1⟩).k = a.k := by
  rcases cases3 a with rfl | ⟨n, rfl⟩ | ⟨n, hn, rfl⟩ <;> simp [andV, rankV, ofRank, *]
theorem orV_zero : orV a ⟨true, 0⟩ = andV a ⟨true, 1⟩ := by
  rcases cases3 a with rfl | ⟨n, rfl⟩ | ⟨n, hn, rfl⟩ <;> simp [andV, orV, rankV, ofRank, *]
theorem andV_abs : andV a (orV a b) = andV a ⟨true, 1⟩ := by
  have h : rankV ⟨true, 1⟩ = 2 := rfl
  simp only [andV, orV, h]; rcases rank3 a with e | e | e <;> rcases rank3 b with f | f | f <;> simp [e, f, rank_of0, rank_of1, rank_of2]
theorem orV_abs : orV a (andV a b) = andV a ⟨true, 1⟩ := by
  have h : rankV ⟨true, 1⟩ = 2 := rfl
  simp only [andV, orV, h]; rcases rank3 a with e | e | e <;> rcases rank3 b with f | f | f <;> simp [e, f, rank_of0, rank_of1, rank_of2]
theorem notV_notV : notV (notV a) = andV a ⟨true, 1⟩ := by
  have h : rankV ⟨true, 1⟩ = 2 := rfl
  simp only [andV, notV, h]; rcases rank3 a with e | e | e <;> simp [e, rank_of0, rank_of1, rank_of2]
theorem notV_andV : notV (andV a b) = orV (notV a) (notV b) := by simp only [andV, orV, notV]; rcases rank3 a with e | e | e <;> rcases rank3 b with f | f | f <;> simp [e, f, rank_of0, rank_of1, rank_of2]
theorem notV_orV : notV (orV a b) = andV (notV a) (notV b) := by simp only [andV, orV, notV]; rcases rank3 a with e | e | e <;> rcases rank3 b with f | f | f <;> simp [e, f, rank_of0, rank_of1, rank_of2]
theorem trueV_eq : trueV a = (a.k && !(a.n == 0)) := by
  rcases cases3 a with rfl | ⟨n, rfl⟩ | ⟨n, hn, rfl⟩ <;> simp [trueV, rankV, *]
theorem trueV_andV : trueV (andV a b) = (trueV a && trueV b) := by simp only [andV, trueV]; rcases rank3 a with e | e | e <;> rcases rank3 b with f | f | f <;> simp [e, f, rank_of0, rank_of1, rank_of2]
theorem trueV_orV : trueV (orV a b) = (trueV a || trueV b) := by simp only [orV, trueV]; rcases rank3 a with e | e | e <;> rcases rank3 b with f | f | f <;> simp [e, f, rank_of0, rank_of1, rank_of2]
end
theorem c1 : andV ⟨true, 1⟩ ⟨true, 1⟩ = ⟨true, 1⟩ := rfl
theorem c2 : orV ⟨true, 0⟩ ⟨true, 0⟩ = ⟨true, 0⟩ := rfl
theorem c3 : andV ⟨true, 0⟩ ⟨false, 0⟩ = ⟨true, 0⟩ := rfl
theorem c4 : orV ⟨true, 1⟩ ⟨false, 0⟩ = ⟨true, 1⟩ := rfl
set_option maxHeartbeats 4000000 in
set_option maxRecDepth 100000 in
theorem law4 (a b c : V) (_ : -9223372036854775808 ≤ a.n ∧ a.n < 9223372036854775808) (_ : -9223372036854775808 ≤ b.n ∧ b.n < 9223372036854775808) (_ : -9223372036854775808 ≤ c.n ∧ c.n < 9223372036854775808) (h : Heap) (n : Nat) : awp (cx [0, 1, 2] (pfL tbl4)) (Tryd.f4.body.getD .skip) (finQ (cx [0, 1, 2] (pfL tbl4)) Tryd.f4 fun z _ _ => z = bv true) ⟨env0 [vv a, vv b, vv c], h, n⟩ := by
  have e1 := andV_comm a b
  have e2 := orV_comm a b
  have e3 := andV_assoc a b c
  have e4 := orV_assoc a b c
  have e5 := andV_orV a b c
  have e6 := orV_andV a b c
  have e7 := andV_k a
  have e8 := orV_zero a
  have e9 := andV_abs a b
  have e10 := orV_abs a b
  have e11 := notV_notV a
  have e12 := notV_andV a b
  have e13 := notV_orV a b
  have e14 := trueV_andV a b
  have e15 := trueV_orV a b
  have e16 := trueV_eq a
  simp [awp_skip, awp_label, awp_region, awp_seq, awp_cond, awp_block, awp_ret, awp_exit, thenQ, blockQ, finQ, resAll, resVal, resOne, aops, adraw, aop, aeval, gocall, heapOp, quietOp, ev, constAV, setd, yav, ystop, up, env0, cx_ti, cx_G, cx_pf, ti, globS, glob, pfL, lds, ldc, ldcs, sts, sth, sls, slc, wr, place, fillOk, fillC, repZ, binI, isDiv, optInt, optI, eksOk, eksEq, EK.ok, EK.eq, AV.i, AV.isI, AV.isInt, AV.b, AV.isB, AV.str, AV.isStr, AV.unc, AV.bb, AV.okb, AV.okg, AV.gd, AV.cells, AV.one, AV.ones, AV.slen, AV.isS, AV.isPtr, AV.gl, AV.isG, Value.oneCell', Nat.add_assoc, Tryd.f4, tbl4, g17, g18, g19, g20, g25, pure1, pure2, deV, deI, vv, bv, knownV, V_eta, c1, c2, c3, c4, e1, e2, e3, e4, e5, e6, e7, e8, e9, e10, e11, e12, e13, e14, e15]
  refine ⟨e16, fun _ => ?_⟩
  cases trueV a <;> simp
end Go.Proofs.YtnodenojdjlbnaaDoor
