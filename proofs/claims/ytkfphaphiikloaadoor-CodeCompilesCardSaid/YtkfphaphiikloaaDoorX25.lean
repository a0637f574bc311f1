/-
  COMPILING, PART D: a node's own instruction.
-/
import Derived.Test.YtkfphaphiikloaaDoorX24
import Derived.Test.YtkfphaphiikloaaDoorX20
import Derived.Test.YtkfphaphiikloaaDoorX23
set_option linter.unusedSimpArgs false
set_option linter.unusedVariables false
set_option linter.constructorNameAsVariable false
namespace Go.Proofs.YtkfphaphiikloaaDoor
open Go Go.Eng

theorem CS.up {h h' : Heap} {G : Nat → Prop} {n n' m mm : Nat} {tys : List Ty} {sa ca la : AV} {code : List Ins} {names : List ByteArray} (c : CS h G n m tys sa ca la mm code names) (hf : Fresh n h) (ha : agree n h h') (hn : n ≤ n') : CS h' G n' m tys sa ca la mm code names := by
  obtain ⟨x1, x2, x3, x4, x5, x6, x7⟩ := c
  refine ⟨by rw [ha m x2.2]; exact x1, ⟨x2.1, by omega⟩, rd_agr hf x3 _ ha, ?_, ?_, by rw [ha mm x7.2.1]; exact x6, ⟨x7.1, by omega, x7.2.2⟩⟩
  · rcases x4 with h0 | ⟨w, u, k1, k2, k3, k4, k5⟩
    · exact .inl h0
    · exact .inr ⟨w, u, k1, by rw [ha w k4]; exact k2, k3, by omega, k5⟩
  · rcases x5 with h0 | ⟨w, u, cs, k1, k2, k3, k4, k5, k6, k7, k8, k9⟩
    · exact .inl h0
    · refine .inr ⟨w, u, cs, k1, by rw [ha w k4]; exact k2, k3, by omega, k5, k6, k7, k8, fun i hi => ?_⟩
      obtain ⟨cc, j1, j2⟩ := k9 i hi
      exact ⟨cc, j1, j2.up (fun q _ hq _ => ha q hq) (fun _ _ _ hx => hx) hn⟩
theorem KC.wk {h : Heap} {G G' : Nat → Prop} {hi : Nat} {bad : Nat → Prop} {c : AV} {l : List Int} (k : KC h G hi bad c l) (hg : ∀ q, G q → q < hi → G' q) : KC h G' hi bad c l := by
  rcases k with h0 | ⟨b, v, k1, k2, k3, k4, k5⟩
  · exact .inl h0
  · exact .inr ⟨b, v, k1, k2, hg b k3 k4, k4, k5⟩
theorem CS.wk {h : Heap} {G G' : Nat → Prop} {n m mm : Nat} {tys : List Ty} {sa ca la : AV} {code : List Ins} {names : List ByteArray} (c : CS h G n m tys sa ca la mm code names) (hg : ∀ q, G q → q < n → G' q) : CS h G' n m tys sa ca la mm code names := by
  obtain ⟨x1, x2, x3, x4, x5, x6, x7⟩ := c
  refine ⟨x1, ⟨hg _ x2.1 x2.2, x2.2⟩, x3, ?_, ?_, x6, ⟨hg _ x7.1 x7.2.1, x7.2⟩⟩
  · rcases x4 with h0 | ⟨w, u, k1, k2, k3, k4, k5⟩
    · exact .inl h0
    · exact .inr ⟨w, u, k1, k2, hg w k3 k4, k4, k5⟩
  · rcases x5 with h0 | ⟨w, u, cs, k1, k2, k3, k4, k5, k6, k7, k8, k9⟩
    · exact .inl h0
    · refine .inr ⟨w, u, cs, k1, k2, hg w k3 k4, k4, k5, k6, k7, k8, fun i hi => ?_⟩
      obtain ⟨cc, j1, j2⟩ := k9 i hi
      exact ⟨cc, j1, j2.wk hg⟩
/-- A node's own instruction. -/
def ownI (names : List ByteArray) (it : Int) (x : Nd) : Ins :=
  if x.op = 1 then ⟨1, 0, 0, x.n, 0⟩ else if x.op = 2 then ⟨1, 0, 0, 1, 0⟩ else if x.op = 3 then ⟨1, 0, 0, 0, 0⟩
  else if x.op = 4 then ⟨2, it, ixOf names x.attr, 0, 0⟩ else if x.op = 11 then ⟨3, it, ixOf names x.attr, 0, 0⟩ else if x.op = 5 then ⟨4, it, 0, 0, 0⟩
  else if x.op < 11 then ⟨x.op - 1, it, ixOf names x.attr, 0, 0⟩ else ⟨x.op - 2, 0, 0, 0, 0⟩
def addX (names : List ByteArray) (x : Nd) : List ByteArray := if 4 ≤ x.op ∧ x.op ≤ 11 ∧ x.op ≠ 5 then addN names x.attr else names
set_option maxRecDepth 100000 in
set_option maxHeartbeats 4000000 in
theorem c55 {h : Heap} {G : Nat → Prop} {n m mm : Nat} {tys : List Ty} {sa ca la : AV} {code : List Ins} {names : List ByteArray} (c : CS h G n m tys sa ca la mm code names) (x : Nd) (it : Int) (hop : 1 ≤ x.op ∧ x.op ≤ 26) (hcl : (code.length + 1) * 40 ≤ 140737488355328) (hlen : (names.length + 1) * 24 ≤ 140737488355328) (htl : tys.length * 8 ≤ 140737488355328) (hst : smallS tys)
    (hG : ∀ q, n ≤ q → G q) (hsc : ∀ h', keepG G n h h' → rd dTys h' sa = some tys) (hn : Fresh n h) :
    ACall (cx [] (pfL [])) 55 [.p m 0 0, nn x, ii it] h n fun _ h' n' => keepG G n h h' ∧ Fresh n' h' ∧ n ≤ n' ∧ ∃ ca' la', CS h' G n' m tys sa ca' la' mm (code ++ [ownI (addX names x) it x]) (addX names x) := by
  refine acall_of_awp (args := [.p m 0 0, nn x, ii it]) (pfL_ok tb_nil) (mixed _ _) Tryd.func55 (c := Tryd.f55.body.getD .skip) rfl (by kernel_rfl) (callable Tryd.func55 rfl rfl _ _) (show 3 ≤ Tryd.f55.ntmps by decide +kernel) ?_
  obtain ⟨op, num, var, attr, xa, xb⟩ := x
  simp only [] at hop
  obtain ⟨hop1, hop2⟩ := hop
  have hkeep : ∀ (b : Option Blk) (h2 : Heap) (n2 : Nat), n + 1 ≤ n2 → keepG G (n + 1) (Eng.up h n b) h2 → keepG G n h h2 := fun b h2 n2 _ k q hq hg => by rw [k q (by omega) hg, up_ne _ _ (by omega)]
  have L1 : ∀ (b : Option Blk) (I : Ins), ACall (cx [] (pfL [])) 56 [.p m 0 0, iv I] (Eng.up h n b) (n + 1) fun _ h' n' => keepG G n h h' ∧ Fresh n' h' ∧ n ≤ n' ∧ ∃ ca' la', CS h' G n' m tys sa ca' la' mm (code ++ [I]) names := fun b I =>
    (c56 (c.up hn (by simp [agree_up, agree_refl]) (Nat.le_succ n)) I hcl (fun q hq => hG q (by omega)) (fun h' k => hsc h' (hkeep b h' (n + 1) (Nat.le_refl _) k)) ((fresh_up (by omega) _).2 (hn.add 1))).mono fun v h2 n2 ⟨a1, a2, a3, ca', a4⟩ => ⟨hkeep b h2 n2 a3 a1, a2, by omega, ca', la, a4⟩
  have hkeep' : ∀ (b : Option Blk) (h2 : Heap) (n2 : Nat), n + 1 ≤ n2 → keepG (fun q => G q ∧ q ≠ n) (n + 1) (Eng.up h n b) h2 → keepG G n h h2 ∧ h2 n = b := fun b h2 n2 _ k => ⟨fun q hq hg => by rw [k q (by omega) (fun hx => hg hx.1), up_ne _ _ (by omega)], by rw [k n (by omega) (fun hx => hx.2 rfl), up_same]⟩
  have L2 : ∀ (b : Option Blk), ACall (cx [] (pfL tb93)) 93 [.p m 0 0, ss attr] (Eng.up h n b) (n + 1) fun z h' n' => keepG G n h h' ∧ h' n = b ∧ Fresh n' h' ∧ n + 1 ≤ n' ∧ z = ii (ixOf (addN names attr) attr) ∧ ∃ la', CS h' (fun q => G q ∧ q ≠ n) n' m tys sa ca la' mm code (addN names attr) := fun b =>
    (c93 ((c.wk (G' := fun q => G q ∧ q ≠ n) (fun q hq hl => ⟨hq, by omega⟩)).up hn (by simp [agree_up, agree_refl]) (Nat.le_succ n)) attr hlen htl hst (fun q hq => ⟨hG q (by omega), by omega⟩) (fun h' k => hsc h' (hkeep' b h' (n + 1) (Nat.le_refl _) k).1) ((fresh_up (by omega) _).2 (hn.add 1))).mono fun v h2 n2 ⟨a1, a2, a3, a4, la', a5⟩ => ⟨(hkeep' b h2 n2 a3 a1).1, (hkeep' b h2 n2 a3 a1).2, a2, a3, a4, la', a5⟩
  have L3 : ∀ (h2 : Heap) (n2 : Nat) (la' : AV) (names' : List ByteArray) (I : Ins), keepG G n h h2 → Fresh n2 h2 → n + 1 ≤ n2 → CS h2 (fun q => G q ∧ q ≠ n) n2 m tys sa ca la' mm code names' → ACall (cx [] (pfL [])) 56 [.p m 0 0, iv I] h2 n2 fun _ h' n' => h' n = h2 n ∧ keepG G n h h' ∧ Fresh n' h' ∧ n ≤ n' ∧ ∃ ca' la', CS h' G n' m tys sa ca' la' mm (code ++ [I]) names' := fun h2 n2 la' names' I k1 k2 k3 k4 =>
    (c56 k4 I hcl (fun q hq => ⟨hG q (by omega), by omega⟩) (fun h' k => hsc h' (fun q hq hg => by rw [k q (by omega) (fun hx => hg hx.1)]; exact k1 q hq hg)) k2).mono fun v h3 n3 ⟨a1, a2, a3, ca', a4⟩ => ⟨a1 n (by omega) (fun hx => hx.2 rfl), fun q hq hg => by rw [a1 q (by omega) (fun hx => hg hx.1)]; exact k1 q hq hg, a2, by omega, ca', la', a4.wk fun q hq _ => hq.1⟩
  have key : ∀ e : Nat → AV, e 0 = .p m 0 0 → e 1 = nn ⟨op, num, var, attr, xa, xb⟩ → e 2 = ii it → awp (cx [] (pfL [])) (Tryd.f55.body.getD .skip) (finQ (cx [] (pfL [])) Tryd.f55 fun _ h' n' => keepG G n h h' ∧ Fresh n' h' ∧ n ≤ n' ∧ ∃ ca' la', CS h' G n' m tys sa ca' la' mm (code ++ [ownI (addX names ⟨op, num, var, attr, xa, xb⟩) it ⟨op, num, var, attr, xa, xb⟩]) (addX names ⟨op, num, var, attr, xa, xb⟩)) ⟨e, h, n⟩ := fun e q0 q1 q2 => by
    by_cases o1 : op = 1
    · subst o1
      simp [evs, resAll, resVal, resOne, freeOp, isA, goOp, appNew, mkOp, gev, Region.binds, aop, aeval, gocall, heapOp, quietOp, ev, constAV, setd, yav, ystop, up, env0, cx_ti, cx_G, cx_pf, ti, globS, glob, pfL, lds, ldc, ldcs_1, ldcs_2, ldcs_3, ldcs_4, ldcs_5, ldcs_7, sts, sth, sls.eq_1, slc.eq_1, wr, place, fillOk, fillC, repZ, binI, isDiv, optInt, optI, eksOk, eksEq, EK.ok, EK.eq, AV.i, AV.isI, AV.isInt, AV.str, AV.isStr, AV.ones, AV.isPtr, AV.gl, AV.isG, Value.oneCell', Tryd.f55, q0, q1, q2, nn, ncells, ii, ss]
      refine (acall_any (S := []) (by simp) (L1 _ ⟨1, 0, 0, num, 0⟩)).mono ?_
      rintro v h2 n2 ⟨a1, a2, a3, ca', la', a4⟩
      exact ⟨a1, a2, a3, ca', la', a4⟩
    by_cases o2 : op = 2
    · subst o2
      simp [evs, resAll, resVal, resOne, freeOp, isA, goOp, appNew, mkOp, gev, Region.binds, aop, aeval, gocall, heapOp, quietOp, ev, constAV, setd, yav, ystop, up, env0, cx_ti, cx_G, cx_pf, ti, globS, glob, pfL, lds, ldc, ldcs_1, ldcs_2, ldcs_3, ldcs_4, ldcs_5, ldcs_7, sts, sth, sls.eq_1, slc.eq_1, wr, place, fillOk, fillC, repZ, binI, isDiv, optInt, optI, eksOk, eksEq, EK.ok, EK.eq, AV.i, AV.isI, AV.isInt, AV.str, AV.isStr, AV.ones, AV.isPtr, AV.gl, AV.isG, Value.oneCell', Tryd.f55, q0, q1, q2, nn, ncells, ii, ss]
      refine (acall_any (S := []) (by simp) (L1 _ ⟨1, 0, 0, 1, 0⟩)).mono ?_
      rintro v h2 n2 ⟨a1, a2, a3, ca', la', a4⟩
      exact ⟨a1, a2, a3, ca', la', a4⟩
    by_cases o3 : op = 3
    · subst o3
      simp [evs, resAll, resVal, resOne, freeOp, isA, goOp, appNew, mkOp, gev, Region.binds, aop, aeval, gocall, heapOp, quietOp, ev, constAV, setd, yav, ystop, up, env0, cx_ti, cx_G, cx_pf, ti, globS, glob, pfL, lds, ldc, ldcs_1, ldcs_2, ldcs_3, ldcs_4, ldcs_5, ldcs_7, sts, sth, sls.eq_1, slc.eq_1, wr, place, fillOk, fillC, repZ, binI, isDiv, optInt, optI, eksOk, eksEq, EK.ok, EK.eq, AV.i, AV.isI, AV.isInt, AV.str, AV.isStr, AV.ones, AV.isPtr, AV.gl, AV.isG, Value.oneCell', Tryd.f55, q0, q1, q2, nn, ncells, ii, ss]
      refine (acall_any (S := []) (by simp) (L1 _ ⟨1, 0, 0, 0, 0⟩)).mono ?_
      rintro v h2 n2 ⟨a1, a2, a3, ca', la', a4⟩
      exact ⟨a1, a2, a3, ca', la', a4⟩
    by_cases o4 : op = 4
    · subst o4
      have hax : addX names ⟨4, num, var, attr, xa, xb⟩ = addN names attr := by simp [addX]
      rw [hax]
      simp [evs, resAll, resVal, resOne, freeOp, isA, goOp, appNew, mkOp, gev, Region.binds, aop, aeval, gocall, heapOp, quietOp, ev, constAV, setd, yav, ystop, up, env0, cx_ti, cx_G, cx_pf, ti, globS, glob, pfL, lds, ldc, ldcs_1, ldcs_2, ldcs_3, ldcs_4, ldcs_5, ldcs_7, sts, sth, sls.eq_1, slc.eq_1, wr, place, fillOk, fillC, repZ, binI, isDiv, optInt, optI, eksOk, eksEq, EK.ok, EK.eq, AV.i, AV.isI, AV.isInt, AV.str, AV.isStr, AV.ones, AV.isPtr, AV.gl, AV.isG, Value.oneCell', Tryd.f55, q0, q1, q2, nn, ncells, ii, ss]
      refine (acall_any (S := []) (by simp) (L2 _)).mono ?_
      rintro v h2 n2 ⟨a1, a0, a2, a3, rfl, la', a4⟩
      simp [evs, resAll, resVal, resOne, freeOp, isA, goOp, appNew, mkOp, gev, Region.binds, aop, aeval, gocall, heapOp, quietOp, ev, constAV, setd, yav, ystop, up, env0, cx_ti, cx_G, cx_pf, ti, globS, glob, pfL, lds, ldc, ldcs_1, ldcs_2, ldcs_3, ldcs_4, ldcs_5, ldcs_7, sts, sth, sls.eq_1, slc.eq_1, wr, place, fillOk, fillC, repZ, binI, isDiv, optInt, optI, eksOk, eksEq, EK.ok, EK.eq, AV.i, AV.isI, AV.isInt, AV.str, AV.isStr, AV.ones, AV.isPtr, AV.gl, AV.isG, Value.oneCell', ii]
      refine (acall_any (S := []) (by simp) (L3 h2 n2 la' _ ⟨2, it, ixOf (addN names attr) attr, 0, 0⟩ a1 a2 a3 a4)).mono ?_
      rintro v h3 n3 ⟨b0, b1, b2, b3, ca', la'', b4⟩
      exact ⟨b1, b2, b3, ca', la'', b4⟩
    by_cases o11 : op = 11
    · subst o11
      have hax : addX names ⟨11, num, var, attr, xa, xb⟩ = addN names attr := by simp [addX]
      rw [hax]
      simp [evs, resAll, resVal, resOne, freeOp, isA, goOp, appNew, mkOp, gev, Region.binds, aop, aeval, gocall, heapOp, quietOp, ev, constAV, setd, yav, ystop, up, env0, cx_ti, cx_G, cx_pf, ti, globS, glob, pfL, lds, ldc, ldcs_1, ldcs_2, ldcs_3, ldcs_4, ldcs_5, ldcs_7, sts, sth, sls.eq_1, slc.eq_1, wr, place, fillOk, fillC, repZ, binI, isDiv, optInt, optI, eksOk, eksEq, EK.ok, EK.eq, AV.i, AV.isI, AV.isInt, AV.str, AV.isStr, AV.ones, AV.isPtr, AV.gl, AV.isG, Value.oneCell', Tryd.f55, q0, q1, q2, nn, ncells, ii, ss]
      refine (acall_any (S := []) (by simp) (L2 _)).mono ?_
      rintro v h2 n2 ⟨a1, a0, a2, a3, rfl, la', a4⟩
      simp [evs, resAll, resVal, resOne, freeOp, isA, goOp, appNew, mkOp, gev, Region.binds, aop, aeval, gocall, heapOp, quietOp, ev, constAV, setd, yav, ystop, up, env0, cx_ti, cx_G, cx_pf, ti, globS, glob, pfL, lds, ldc, ldcs_1, ldcs_2, ldcs_3, ldcs_4, ldcs_5, ldcs_7, sts, sth, sls.eq_1, slc.eq_1, wr, place, fillOk, fillC, repZ, binI, isDiv, optInt, optI, eksOk, eksEq, EK.ok, EK.eq, AV.i, AV.isI, AV.isInt, AV.str, AV.isStr, AV.ones, AV.isPtr, AV.gl, AV.isG, Value.oneCell', ii]
      refine (acall_any (S := []) (by simp) (L3 h2 n2 la' _ ⟨3, it, ixOf (addN names attr) attr, 0, 0⟩ a1 a2 a3 a4)).mono ?_
      rintro v h3 n3 ⟨b0, b1, b2, b3, ca', la'', b4⟩
      exact ⟨b1, b2, b3, ca', la'', b4⟩
    by_cases o5 : op = 5
    · subst o5
      have hax : addX names ⟨5, num, var, attr, xa, xb⟩ = names := by simp [addX]
      rw [hax]
      simp [evs, resAll, resVal, resOne, freeOp, isA, goOp, appNew, mkOp, gev, Region.binds, aop, aeval, gocall, heapOp, quietOp, ev, constAV, setd, yav, ystop, up, env0, cx_ti, cx_G, cx_pf, ti, globS, glob, pfL, lds, ldc, ldcs_1, ldcs_2, ldcs_3, ldcs_4, ldcs_5, ldcs_7, sts, sth, sls.eq_1, slc.eq_1, wr, place, fillOk, fillC, repZ, binI, isDiv, optInt, optI, eksOk, eksEq, EK.ok, EK.eq, AV.i, AV.isI, AV.isInt, AV.str, AV.isStr, AV.ones, AV.isPtr, AV.gl, AV.isG, Value.oneCell', Tryd.f55, q0, q1, q2, nn, ncells, ii, ss]
      refine (acall_any (S := []) (by simp) (L1 _ ⟨4, it, 0, 0, 0⟩)).mono ?_
      rintro v h2 n2 ⟨a1, a2, a3, ca', la', a4⟩
      exact ⟨a1, a2, a3, ca', la', a4⟩
    by_cases o10 : op < 11
    · have hax : addX names ⟨op, num, var, attr, xa, xb⟩ = addN names attr := by
        unfold addX
        rw [if_pos ⟨by simp only []; omega, by simp only []; omega, o5⟩]
      have how : ownI (addN names attr) it ⟨op, num, var, attr, xa, xb⟩ = ⟨op - 1, it, ixOf (addN names attr) attr, 0, 0⟩ := by
        unfold ownI
        rw [if_neg o1, if_neg o2, if_neg o3, if_neg o4, if_neg o11, if_neg o5, if_pos o10]
      rw [hax, how]
      have w1 : IntKind.i64.wrap (op - 6) = op - 6 := W_id (by unfold Rng; omega)
      have w2 : IntKind.i64.wrap (5 + (op - 6)) = op - 1 := (W_id (by unfold Rng; omega)).trans (by omega)
      simp [evs, resAll, resVal, resOne, freeOp, isA, goOp, appNew, mkOp, gev, Region.binds, aop, aeval, gocall, heapOp, quietOp, ev, constAV, setd, yav, ystop, up, env0, cx_ti, cx_G, cx_pf, ti, globS, glob, pfL, lds, ldc, ldcs_1, ldcs_2, ldcs_3, ldcs_4, ldcs_5, ldcs_7, sts, sth, sls.eq_1, slc.eq_1, wr, place, fillOk, fillC, repZ, binI, isDiv, optInt, optI, eksOk, eksEq, EK.ok, EK.eq, AV.i, AV.isI, AV.isInt, AV.str, AV.isStr, AV.ones, AV.isPtr, AV.gl, AV.isG, Value.oneCell', Tryd.f55, q0, q1, q2, nn, ncells, ii, ss, o1, o2, o3, o4, o11, o5, o10, w1, w2]
      refine (acall_any (S := []) (by simp) (L2 _)).mono ?_
      rintro v h2 n2 ⟨a1, a0, a2, a3, rfl, la', a4⟩
      simp [evs, resAll, resVal, resOne, freeOp, isA, goOp, appNew, mkOp, gev, Region.binds, aop, aeval, gocall, heapOp, quietOp, ev, constAV, setd, yav, ystop, up, env0, cx_ti, cx_G, cx_pf, ti, globS, glob, pfL, lds, ldc, ldcs_1, ldcs_2, ldcs_3, ldcs_4, ldcs_5, ldcs_7, sts, sth, sls.eq_1, slc.eq_1, wr, place, fillOk, fillC, repZ, binI, isDiv, optInt, optI, eksOk, eksEq, EK.ok, EK.eq, AV.i, AV.isI, AV.isInt, AV.str, AV.isStr, AV.ones, AV.isPtr, AV.gl, AV.isG, Value.oneCell', ii]
      refine ⟨.inr ⟨rfl, fun t ht => ?_⟩, ?_⟩
      · simp [ldSlots] at ht
        rcases ht with ht | ht <;> subst ht <;> simp [keepP, Eng.up, a0]
      refine (acall_any (S := []) (by simp) (L3 h2 n2 la' _ ⟨op - 1, it, ixOf (addN names attr) attr, 0, 0⟩ a1 a2 a3 a4)).mono ?_
      rintro v h3 n3 ⟨b0, b1, b2, b3, ca', la'', b4⟩
      refine ⟨.inr ⟨rfl, fun t ht => ?_⟩, ?_⟩
      · simp [ldSlots] at ht
        rcases ht with ht | ht <;> subst ht <;> simp [keepP, Eng.up, b0, a0]
      exact ⟨b1, b2, b3, ca', la'', b4⟩
    · have hax : addX names ⟨op, num, var, attr, xa, xb⟩ = names := by
        unfold addX
        rw [if_neg]
        simp only []
        omega
      have how : ownI names it ⟨op, num, var, attr, xa, xb⟩ = ⟨op - 2, 0, 0, 0, 0⟩ := by
        unfold ownI
        rw [if_neg o1, if_neg o2, if_neg o3, if_neg o4, if_neg o11, if_neg o5, if_neg o10]
      rw [hax, how]
      have w1 : IntKind.i64.wrap (op - 12) = op - 12 := W_id (by unfold Rng; omega)
      have w2 : IntKind.i64.wrap (10 + (op - 12)) = op - 2 := (W_id (by unfold Rng; omega)).trans (by omega)
      simp [evs, resAll, resVal, resOne, freeOp, isA, goOp, appNew, mkOp, gev, Region.binds, aop, aeval, gocall, heapOp, quietOp, ev, constAV, setd, yav, ystop, up, env0, cx_ti, cx_G, cx_pf, ti, globS, glob, pfL, lds, ldc, ldcs_1, ldcs_2, ldcs_3, ldcs_4, ldcs_5, ldcs_7, sts, sth, sls.eq_1, slc.eq_1, wr, place, fillOk, fillC, repZ, binI, isDiv, optInt, optI, eksOk, eksEq, EK.ok, EK.eq, AV.i, AV.isI, AV.isInt, AV.str, AV.isStr, AV.ones, AV.isPtr, AV.gl, AV.isG, Value.oneCell', Tryd.f55, q0, q1, q2, nn, ncells, ii, ss, o1, o2, o3, o4, o11, o5, o10, w1, w2]
      refine (acall_any (S := []) (by simp) (L1 _ ⟨op - 2, 0, 0, 0, 0⟩)).mono ?_
      rintro v h2 n2 ⟨a1, a2, a3, ca', la', a4⟩
      exact ⟨a1, a2, a3, ca', la', a4⟩
  exact key _ rfl rfl rfl
end Go.Proofs.YtkfphaphiikloaaDoor

/-
  COMPILING, PART G: what a program is; names, jumps.
-/
namespace Go.Proofs.YtkfphaphiikloaaDoor
open Go Go.Eng

def namesTo (t : List Nd) : Nat → List ByteArray
  | 0 => []
  | k + 1 => addX (namesTo t k) (t.getD k nd0)
def namesOf (t : List Nd) : List ByteArray := namesTo t t.length
theorem ix_app {l : List ByteArray} {z : ByteArray} (m : List ByteArray) (h : l.findIdx (· == z) < l.length) : ixOf (l ++ m) z = ixOf l z ∧ (l ++ m).findIdx (· == z) < (l ++ m).length := by
  have hf : (l ++ m).findIdx (· == z) = l.findIdx (· == z) := by rw [List.findIdx_append, if_pos h]
  have h2 : l.findIdx (· == z) < (l ++ m).length := by rw [List.length_append]; omega
  unfold ixOf
  rw [hf, if_pos h, if_pos h2]
  exact ⟨rfl, h2⟩
theorem add_has (l : List ByteArray) (z : ByteArray) : (addN l z).findIdx (· == z) < (addN l z).length := by
  unfold addN
  split
  · assumption
  · exact List.findIdx_lt_length_of_exists ⟨z, by simp, by rw [ba_beq]⟩
theorem addX_app (l : List ByteArray) (x : Nd) : ∃ m, addX l x = l ++ m := by
  unfold addX addN
  split
  · split
    · exact ⟨[], by simp⟩
    · exact ⟨_, rfl⟩
  · exact ⟨[], by simp⟩
theorem names_app (t : List Nd) (k : Nat) : ∀ d, ∃ m, namesTo t (k + d) = namesTo t k ++ m
  | 0 => ⟨[], by simp⟩
  | d + 1 => by
    obtain ⟨m, h⟩ := names_app t k d
    obtain ⟨m', h'⟩ := addX_app (namesTo t (k + d)) (t.getD (k + d) nd0)
    exact ⟨m ++ m', by show namesTo t (k + d + 1) = _; rw [namesTo, h', h, List.append_assoc]⟩
/-- A node's own instruction. -/
def ownT (vs : List ByteArray) (t : List Nd) (j : Nat) : Ins := ownI (namesOf t) (itemV vs (t.getD j nd0)) (t.getD j nd0)
theorem own_stable {vs : List ByteArray} {t : List Nd} {k : Nat} (hk : k < t.length) (h1 : 1 ≤ (t.getD k nd0).op) : ownI (namesTo t (k + 1)) (itemV vs (t.getD k nd0)) (t.getD k nd0) = ownT vs t k := by
  obtain ⟨m, hm⟩ := names_app t (k + 1) (t.length - (k + 1))
  rw [show k + 1 + (t.length - (k + 1)) = t.length by omega] at hm
  unfold ownT namesOf
  rw [hm]
  generalize hx : t.getD k nd0 = x at *
  have key : 4 ≤ x.op ∧ x.op ≤ 11 ∧ x.op ≠ 5 → ixOf (namesTo t (k + 1) ++ m) x.attr = ixOf (namesTo t (k + 1)) x.attr := fun h => by
    have : namesTo t (k + 1) = addN (namesTo t k) x.attr := by rw [namesTo, hx, addX, if_pos h]
    exact (ix_app m (by rw [this]; exact add_has _ _)).1
  unfold ownI
  by_cases h4 : 4 ≤ x.op ∧ x.op ≤ 11 ∧ x.op ≠ 5
  · rw [key h4]
  · repeat' (first | rfl | split)
    all_goals (exfalso; omega)
theorem ix_bound (l : List ByteArray) (z : ByteArray) : -1 ≤ ixOf l z ∧ ixOf l z < (l.length : Int) + 1 := by
  unfold ixOf
  split <;> omega
theorem names_len (t : List Nd) : ∀ k, (namesTo t k).length ≤ k
  | 0 => Nat.le_refl _
  | k + 1 => by
    have := names_len t k
    simp only [namesTo, addX, addN]
    split
    · split
      · omega
      · simp; omega
    · omega
/-- The jump behind the node j, if there is one. -/
def jmpT (t : List Nd) (to : Nat → Nat) (j : Nat) : Ins := match parT t j with
  | some p => ⟨(t.getD p nd0).op, 0, 0, 0, to p⟩
  | none => zI
def toP (t : List Nd) (i p : Nat) : Nat := if p < i then posT t p + 1 else 0
def codeT (vs : List ByteArray) (t : List Nd) : List Ins := layT t (ownT vs t) (jmpT t fun p => posT t p + 1) t.length
def compP (sc : List Ty) (vs : List ByteArray) (t : List Nd) : Pr := if runT vs t = true then ⟨codeT vs t, (namesOf t).map (colOf sc)⟩ else ⟨[], []⟩
/-- Which jump follows each node, after k nodes. -/
def bhT (t : List Nd) (k j : Nat) : Int := match parT t j with
  | some p => if p < k then (t.getD p nd0).op else 0
  | none => 0
def bhL (t : List Nd) (k : Nat) : List Int := (List.range t.length).map (bhT t k)
/-- Where each jump stands, after i nodes. -/
def jpL (t : List Nd) (i : Nat) : List Int := (List.range t.length).map fun j => if j < i ∧ (parT t j).isSome = true then (posT t j : Int) + 1 else 0
theorem getD_at {t : List Nd} {i : Nat} (hi : i < t.length) : t.getD i nd0 = t[i] := by rw [List.getD_eq_getElem?_getD, List.getElem?_eq_getElem hi]; rfl
section
variable {t : List Nd}
theorem bhL_len (k : Nat) : (bhL t k).length = t.length := by simp [bhL]
theorem jpL_len (k : Nat) : (jpL t k).length = t.length := by simp [jpL]
theorem bhL_zero : bhL t 0 = List.replicate t.length 0 := by
  refine List.eq_replicate_iff.2 ⟨bhL_len 0, fun b hb => ?_⟩
  obtain ⟨j, _, rfl⟩ := List.mem_map.1 hb
  unfold bhT
  split
  · rw [if_neg (by omega)]
  · rfl
theorem jpL_zero : jpL t 0 = List.replicate t.length 0 := by
  refine List.eq_replicate_iff.2 ⟨jpL_len 0, fun b hb => ?_⟩
  obtain ⟨j, _, rfl⟩ := List.mem_map.1 hb
  rw [if_neg (by omega)]
theorem bh_end (j : Nat) : bhT t t.length j = match parT t j with
    | some p => (t.getD p nd0).op
    | none => 0 := by
  unfold bhT
  cases h : parT t j with
  | none => rfl
  | some p => simp only; rw [if_pos (par_is h).1]
theorem bhL_at {j : Nat} (hj : j < t.length) (k : Nat) : (bhL t k)[j]? = some (bhT t k j) := by
  rw [bhL, List.getElem?_map, List.getElem?_range hj]; rfl
theorem jpL_at {j : Nat} (hj : j < t.length) (k : Nat) : (jpL t k)[j]? = some (if j < k ∧ (parT t j).isSome = true then (posT t j : Int) + 1 else 0) := by
  rw [jpL, List.getElem?_map, List.getElem?_range hj]; rfl
theorem jpL_skip {i : Nat} (h : parT t i = none) : jpL t (i + 1) = jpL t i := by
  refine List.map_congr_left fun j _ => ?_
  by_cases e : j = i
  · subst e; rw [h]; simp
  · have : j < i + 1 ↔ j < i := by omega
    simp only [this]
theorem jpL_set {i : Nat} (hi : i < t.length) (h : (parT t i).isSome = true) : (jpL t i).set i ((posT t i : Int) + 1) = jpL t (i + 1) := by
  refine List.ext_getElem? fun j => ?_
  rw [List.getElem?_set]
  by_cases e : i = j
  · subst e
    rw [if_pos rfl, if_pos (by rw [jpL_len]; exact hi), jpL_at hi, if_pos ⟨by omega, h⟩]
  · rw [if_neg e]
    by_cases hj : j < t.length
    · rw [jpL_at hj, jpL_at hj]
      have : j < i + 1 ↔ j < i := by omega
      simp only [this]
    · rw [List.getElem?_eq_none (by rw [jpL_len]; omega), List.getElem?_eq_none (by rw [jpL_len]; omega)]
theorem bhL_skip {k : Nat} (hk : k < t.length) (h : t[k].op < 25) : bhL t (k + 1) = bhL t k := by
  refine List.map_congr_left fun j _ => ?_
  unfold bhT
  cases hp : parT t j with
  | none => rfl
  | some p =>
    obtain ⟨h1, h2, _⟩ := par_is hp
    have : p ≠ k := fun e => by subst e; omega
    have : p < k + 1 ↔ p < k := by omega
    simp only [this]
variable {lo : Nat → Nat} (T : Tre t lo)
include T
theorem bhL_set {k a : Nat} (hk : k < t.length) (h : 25 ≤ t[k].op) (ha : t[k].a = (a : Int)) : (bhL t k).set a t[k].op = bhL t (k + 1) := by
  have hpa := par_at T hk h ha
  refine List.ext_getElem? fun j => ?_
  rw [List.getElem?_set]
  by_cases e : a = j
  · subst e
    have hal : a < t.length := by
      obtain ⟨h1, h2, _⟩ := sz_bin T hk (by omega)
      omega
    rw [if_pos rfl, if_pos (by rw [bhL_len]; exact hal), bhL_at hal, bhT, hpa]
    simp only
    rw [if_pos (by omega), getD_at hk]
  · rw [if_neg e]
    by_cases hj : j < t.length
    · rw [bhL_at hj, bhL_at hj]
      unfold bhT
      cases hp : parT t j with
      | none => rfl
      | some p =>
        have : p ≠ k := fun e2 => by
          subst e2
          obtain ⟨_, _, h3⟩ := par_is hp
          omega
        have : p < k + 1 ↔ p < k := by omega
        simp only [this]
    · rw [List.getElem?_eq_none (by rw [bhL_len]; omega), List.getElem?_eq_none (by rw [bhL_len]; omega)]
/-- The program's instructions after i nodes; one node more. -/
def progT (vs : List ByteArray) (t : List Nd) (i : Nat) : List Ins := layT t (ownT vs t) (jmpT t (toP t i)) i
omit T in
theorem prog_len (vs : List ByteArray) (i : Nat) : (progT vs t i).length = posT t i := lay_len _ _ _
omit T in
/-- Behind a node that is no AND or OR. -/
theorem prog_own {vs : List ByteArray} {i : Nat} (hi : i < t.length) (h : t[i].op < 25) : progT vs t i = layT t (ownT vs t) (jmpT t (toP t (i + 1))) i := by
  refine lay_ext i (fun _ _ => rfl) fun j hj hp => ?_
  unfold jmpT
  cases hq : parT t j with
  | none => rfl
  | some p =>
    obtain ⟨h1, h2, _⟩ := par_is hq
    have : p ≠ i := fun e => by subst e; omega
    have : p < i + 1 ↔ p < i := by omega
    simp only [toP, this]
/-- Behind an AND or OR: its jump learns where to go. -/
theorem prog_set {vs : List ByteArray} {i a : Nat} (hi : i < t.length) (h : 25 ≤ t[i].op) (ha : t[i].a = (a : Int)) :
    (progT vs t i).set (posT t a + 1) ⟨t[i].op, 0, 0, 0, (posT t i : Int) + 1⟩ = layT t (ownT vs t) (jmpT t (toP t (i + 1))) i ∧ (progT vs t i)[posT t a + 1]? = some ⟨t[i].op, 0, 0, 0, 0⟩ := by
  have hpa := par_at T hi h ha
  have hai : a < i := by
    obtain ⟨h1, h2, _⟩ := sz_bin T hi (by omega)
    omega
  have hset := lay_setj (t := t) (f := ownT vs t) (g := jmpT t (toP t i)) (k := a) ⟨t[i].op, 0, 0, 0, (posT t i : Int) + 1⟩ (by rw [hpa]; rfl) hai
  refine ⟨?_, ?_⟩
  · unfold progT
    rw [hset]
    refine lay_ext i (fun _ _ => rfl) fun j hj hp => ?_
    unfold updF
    by_cases e : j = a
    · subst e
      rw [if_pos rfl, jmpT, hpa]
      simp only [toP]
      rw [if_pos (by omega), getD_at hi]
      simp
    · rw [if_neg e]
      unfold jmpT
      cases hq : parT t j with
      | none => rfl
      | some p =>
        have : p ≠ i := fun e2 => by
          subst e2
          obtain ⟨_, _, h3⟩ := par_is hq
          omega
        have : p < i + 1 ↔ p < i := by omega
        simp only [toP, this]
  · unfold progT
    have hg : ∀ (n : Nat), a < n → (layT t (ownT vs t) (jmpT t (toP t i)) n)[posT t a + 1]? = some (jmpT t (toP t i) a) := by
      intro n
      induction n with
      | zero => intro h; omega
      | succ n ih =>
        intro hn
        simp only [layT]
        by_cases e : a = n
        · subst e
          rw [List.getElem?_append_right (by rw [lay_len]; omega), lay_len, Nat.add_sub_cancel_left, hpa]
          rfl
        · have hl := pos_lt (t := t) (k := a) (n := n) (by omega)
          rw [hpa] at hl
          simp only [Option.isSome_some, if_true] at hl
          rw [List.getElem?_append_left (by rw [lay_len]; omega)]
          exact ih (by omega)
    rw [hg i hai, jmpT, hpa]
    simp only [toP]
    rw [if_neg (by omega), getD_at hi]
    rfl
/-- The own instruction, and the jump. -/
theorem prog_succ (vs : List ByteArray) (i : Nat) : progT vs t (i + 1) = layT t (ownT vs t) (jmpT t (toP t (i + 1))) i ++ ownT vs t i :: (if (parT t i).isSome = true then [⟨bhT t t.length i, 0, 0, 0, 0⟩] else []) := by
  unfold progT
  simp only [layT]
  congr 2
  cases h : parT t i with
  | none => rfl
  | some p =>
    obtain ⟨h1, h2, h3⟩ := par_is h
    simp only [Option.isSome_some, if_true]
    rw [bh_end, h, jmpT, h]
    simp only [toP]
    rw [if_neg]
    · rfl
    · obtain ⟨k1, k2, _⟩ := sz_bin T h1 (by omega)
      omega
omit T in
theorem prog_end (vs : List ByteArray) : progT vs t t.length = codeT vs t := by
  refine lay_ext _ (fun _ _ => rfl) fun j hj hp => ?_
  unfold jmpT
  cases h : parT t j with
  | none => rfl
  | some p => simp only [toP]; rw [if_pos (par_is h).1]
end
end Go.Proofs.YtkfphaphiikloaaDoor
