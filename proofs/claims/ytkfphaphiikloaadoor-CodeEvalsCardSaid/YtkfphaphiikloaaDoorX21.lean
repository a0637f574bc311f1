/-
  THE PROGRAMS OF CONDITIONS: does a program hold, on both sides.
-/
import Derived.Test.YtkfphaphiikloaaDoorX15
set_option linter.unusedSimpArgs false
set_option linter.unusedVariables false
set_option linter.constructorNameAsVariable false
namespace Go.Proofs.YtkfphaphiikloaaDoor
open Go Go.Eng

theorem acall_any {S S' : List Nat} {pf pf' : FuncId → Option (List AV → Heap → PRes)} (hs : ∀ x ∈ S, x ∈ S') {f : FuncId} {args : List AV} {h : Heap} {n : Nat} {Q : AV → Heap → Nat → Prop} (k : ACall (cx S pf) f args h n Q) : ACall (cx S' pf') f args h n Q := by
  refine ⟨k.1, fun K w0 ρ w vs r hv => ?_⟩
  have hsub : ∀ g cs, globS S g = some cs → globS S' g = some cs := fun g cs hg => by
    simp only [globS] at hg ⊢
    by_cases hm : g ∈ S
    · rw [if_pos hm] at hg; rw [if_pos (hs g hm)]; exact hg
    · rw [if_neg hm] at hg; cases hg
  have r0 : Rel (cx S pf) K w0 ρ (n ≤ ·) h w := ⟨r.os, r.tape, r.output, r.size, r.keep, r.kold, fun g cs hg => r.glob g cs (hsub g cs hg), r.blk, r.apart, r.mine, r.free, r.vers⟩
  refine (k.2 K w0 ρ w vs r0 hv).mono fun e w' ⟨y, h1, ρ2, z, h', n', h2, h3, r2, h5⟩ => ⟨y, h1, ρ2, z, h', n', h2, h3, ⟨r2.os, r2.tape, r2.output, r2.size, r2.keep, r2.kold, fun g cs hg => ?_, r2.blk, r2.apart, r2.mine, r2.free, r2.vers⟩, h5⟩
  obtain ⟨g1, arr, el, fr, g2, g3⟩ := r.glob g cs hg
  exact ⟨g1, arr, el, fr, by rw [r2.keep g g1, ← r.keep g g1]; exact g2, g3⟩

def S29 : List Nat := [0, 1, 2, 3, 4, 5, 6]
def G31 := pureH deR okR fun q => bv (holdsV q.1 q.2)
def tb31 : List (FuncId × (List AV → Heap → PRes)) := [(29, G29), (48, g20)]
set_option maxRecDepth 100000 in
set_option maxHeartbeats 1000000 in
theorem P31 (h0 : P0 S29 29 G29) : P0 S29 31 G31 := by
  refine mkH 2 (S := S29) (l := tb31) (tb_cons h0 (tb_cons p20 tb_nil)) Tryd.func31 rfl (by kernel_rfl) deR_mono (fun h l x e => by obtain ⟨a, c, rfl, _⟩ := deR_out e; exact Nat.le_refl _) (fun a => rfl) (fun args q h n e hp hn => ?_)
  obtain ⟨p, en⟩ := q
  obtain ⟨x, y, rfl, e1, e2⟩ := deR_out e
  obtain ⟨pa, pb, rfl, e3, e4⟩ := dePr_out e1
  obtain ⟨la, rfl, e5⟩ := deEn_out e2
  simp only [] at e1 e2 e3 e4 e5 hp ⊢
  obtain ⟨s1, s2, s3, s4, s5⟩ := sl_is e3
  obtain ⟨t1, t2, t3, t4, t5⟩ := sl_is e4
  obtain ⟨r1, r2, r3, r4, r5⟩ := sl_is e5
  have g1 := pr_agree hn e1
  have g2 := en_agree hn e2
  simp only [ii] at g2
  obtain ⟨rv, hrv⟩ : ∃ rv, rv = runV p en := ⟨_, rfl⟩
  have hv : holdsV p en = (rv.2 == 0 && trueV rv.1) := by rw [hrv]; rfl
  obtain ⟨⟨vk, vn⟩, er⟩ := rv
  by_cases hz : er = 0
  · subst hz
    simp [evs, resAll, resVal, resOne, freeOp, isA, goOp, appNew, mkOp, gev, Region.binds, aop, aeval, gocall, heapOp, quietOp, ev, constAV, setd, yav, ystop, up, env0, cx_ti, cx_G, cx_pf, ti, globS, glob, pfL, lds, ldc, ldcs_1, ldcs_2, ldcs_3, ldcs_4, ldcs_5, ldcs_7, sts, sth, sls.eq_1, slc.eq_1, wr, place, fillOk, fillC, repZ, binI, isDiv, optInt, optI, eksOk, eksEq, EK.ok, EK.eq, AV.i, AV.isI, AV.isInt, AV.str, AV.isStr, AV.ones, AV.isPtr, AV.gl, AV.isG, Value.oneCell', ii, s4, t4, r4, tb31, G29, pureH, deR, g1, g2, agree_up, agree_refl, hp, ← hrv, runA, vv, bv, hv, g20, pure1, deV]
  · simp [evs, resAll, resVal, resOne, freeOp, isA, goOp, appNew, mkOp, gev, Region.binds, aop, aeval, gocall, heapOp, quietOp, ev, constAV, setd, yav, ystop, up, env0, cx_ti, cx_G, cx_pf, ti, globS, glob, pfL, lds, ldc, ldcs_1, ldcs_2, ldcs_3, ldcs_4, ldcs_5, ldcs_7, sts, sth, sls.eq_1, slc.eq_1, wr, place, fillOk, fillC, repZ, binI, isDiv, optInt, optI, eksOk, eksEq, EK.ok, EK.eq, AV.i, AV.isI, AV.isInt, AV.str, AV.isStr, AV.ones, AV.isPtr, AV.gl, AV.isG, Value.oneCell', ii, s4, t4, r4, tb31, G29, pureH, deR, g1, g2, agree_up, agree_refl, hp, ← hrv, runA, vv, bv, hv, hz, g20, pure1, deV]
def tb32 : List (FuncId × (List AV → Heap → PRes)) := [(30, G29), (64, g20)]
set_option maxRecDepth 100000 in
set_option maxHeartbeats 1000000 in
theorem P32 (h0 : P0 [] 30 G29) : P0 [] 32 G31 := by
  refine mkH 2 (S := []) (l := tb32) (tb_cons h0 (tb_cons p24 tb_nil)) Tryd.func32 rfl (by kernel_rfl) deR_mono (fun h l x e => by obtain ⟨a, c, rfl, _⟩ := deR_out e; exact Nat.le_refl _) (fun a => rfl) (fun args q h n e hp hn => ?_)
  obtain ⟨p, en⟩ := q
  obtain ⟨x, y, rfl, e1, e2⟩ := deR_out e
  obtain ⟨pa, pb, rfl, e3, e4⟩ := dePr_out e1
  obtain ⟨la, rfl, e5⟩ := deEn_out e2
  simp only [] at e1 e2 e3 e4 e5 hp ⊢
  obtain ⟨s1, s2, s3, s4, s5⟩ := sl_is e3
  obtain ⟨t1, t2, t3, t4, t5⟩ := sl_is e4
  obtain ⟨r1, r2, r3, r4, r5⟩ := sl_is e5
  have g1 := pr_agree hn e1
  have g2 := en_agree hn e2
  simp only [ii] at g2
  obtain ⟨rv, hrv⟩ : ∃ rv, rv = runV p en := ⟨_, rfl⟩
  have hv : holdsV p en = (rv.2 == 0 && trueV rv.1) := by rw [hrv]; rfl
  obtain ⟨⟨vk, vn⟩, er⟩ := rv
  by_cases hz : er = 0
  · subst hz
    simp [evs, resAll, resVal, resOne, freeOp, isA, goOp, appNew, mkOp, gev, Region.binds, aop, aeval, gocall, heapOp, quietOp, ev, constAV, setd, yav, ystop, up, env0, cx_ti, cx_G, cx_pf, ti, globS, glob, pfL, lds, ldc, ldcs_1, ldcs_2, ldcs_3, ldcs_4, ldcs_5, ldcs_7, sts, sth, sls.eq_1, slc.eq_1, wr, place, fillOk, fillC, repZ, binI, isDiv, optInt, optI, eksOk, eksEq, EK.ok, EK.eq, AV.i, AV.isI, AV.isInt, AV.str, AV.isStr, AV.ones, AV.isPtr, AV.gl, AV.isG, Value.oneCell', ii, s4, t4, r4, tb32, G29, pureH, deR, g1, g2, agree_up, agree_refl, hp, ← hrv, runA, vv, bv, hv, g20, pure1, deV]
  · simp [evs, resAll, resVal, resOne, freeOp, isA, goOp, appNew, mkOp, gev, Region.binds, aop, aeval, gocall, heapOp, quietOp, ev, constAV, setd, yav, ystop, up, env0, cx_ti, cx_G, cx_pf, ti, globS, glob, pfL, lds, ldc, ldcs_1, ldcs_2, ldcs_3, ldcs_4, ldcs_5, ldcs_7, sts, sth, sls.eq_1, slc.eq_1, wr, place, fillOk, fillC, repZ, binI, isDiv, optInt, optI, eksOk, eksEq, EK.ok, EK.eq, AV.i, AV.isI, AV.isInt, AV.str, AV.isStr, AV.ones, AV.isPtr, AV.gl, AV.isG, Value.oneCell', ii, s4, t4, r4, tb32, G29, pureH, deR, g1, g2, agree_up, agree_refl, hp, ← hrv, runA, vv, bv, hv, hz, g20, pure1, deV]
end Go.Proofs.YtkfphaphiikloaaDoor
