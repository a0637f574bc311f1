/-
  THE LAWS WITHOUT THE DOCUMENT, PART B: trees of one node; trees that are joined; is a tree a truth?
-/
import Derived.Test.YtkfphaphiikloaaDoorX26
import Derived.Test.YtkfphaphiikloaaDoorX19
import Derived.Test.YtkfphaphiikloaaDoorX23
set_option linter.unusedSimpArgs false
set_option linter.unusedVariables false
set_option linter.constructorNameAsVariable false
namespace Go.Proofs.YtkfphaphiikloaaDoor
open Go Go.Eng

def leafN (x : Nd) : Nd := ⟨x.op, x.n, x.var, x.attr, -1, -1⟩
set_option maxRecDepth 100000 in
set_option maxHeartbeats 2000000 in
theorem c69 {h : Heap} {n : Nat} (x : Nd) (hn : Fresh n h) :
    ACall (cx [] (pfL [])) 69 [.g (ncells x)] h n fun z h' n' => agree n h h' ∧ Fresh n' h' ∧ n ≤ n' ∧ ∃ w, z = .s w 0 0 1 ∧ h' w = some ⟨ncells (leafN x), 0, true, 6⟩ ∧ n ≤ w ∧ w < n' := by
  refine acall_of_awp (args := [.g (ncells x)]) (pfL_ok tb_nil) (mixed _ _) Tryd.func69 (c := Tryd.f69.body.getD .skip) rfl (by kernel_rfl) (callable Tryd.func69 rfl rfl _ _) (show 1 ≤ Tryd.f69.ntmps by decide +kernel) ?_
  have key : ∀ e : Nat → AV, e 0 = .g (ncells x) → awp (cx [] (pfL [])) (Tryd.f69.body.getD .skip) (finQ (cx [] (pfL [])) Tryd.f69 fun z h' n' => agree n h h' ∧ Fresh n' h' ∧ n ≤ n' ∧ ∃ w, z = .s w 0 0 1 ∧ h' w = some ⟨ncells (leafN x), 0, true, 6⟩ ∧ n ≤ w ∧ w < n') ⟨e, h, n⟩ := fun e q0 => by
    simp [evs, aeval, binS, cx_ti, cx_G, cx_pf, cx_tw, ti, globS, glob, ldcs_1, ldcs_2, ldcs_3, ldcs_4, ldcs_5, ldcs_7, sls.eq_1, slc.eq_1, pfL, ldcs, Tryd.f69, q0, ncells, leafN, ii, ss, agree_up, agree_refl, fresh_up, hn.add]
  exact key _ rfl
/-- A node behind k others. -/
def shiftN (k : Nat) (x : Nd) : Nd := ⟨x.op, x.n, x.var, x.attr, if 0 ≤ x.a then IntKind.i64.wrap (x.a + k) else x.a, if 0 ≤ x.b then IntKind.i64.wrap (x.b + k) else x.b⟩
def joinT (op : Int) (a b : List Nd) : List Nd :=
  if op = 12 ∨ op = 13 then a ++ [⟨op, 0, ByteArray.empty, ByteArray.empty, IntKind.i64.wrap (a.length - 1), -1⟩]
  else a ++ b.map (shiftN a.length) ++ [⟨op, 0, ByteArray.empty, ByteArray.empty, IntKind.i64.wrap (a.length - 1), IntKind.i64.wrap (IntKind.i64.wrap (a.length + b.length) - 1)⟩]
theorem join_snoc {a b : List Nd} {j : Nat} (hj : j < b.length) : (a ++ (b.take j).map (shiftN a.length)).flatMap ncells ++ ncells (shiftN a.length b[j]) = (a ++ (b.take (j + 1)).map (shiftN a.length)).flatMap ncells := by
  rw [List.take_add_one, List.getElem?_eq_getElem hj, Option.toList_some, List.map_append, List.flatMap_append, List.flatMap_append, List.flatMap_append, List.append_assoc, List.map_cons, List.map_nil, List.flatMap_cons, List.flatMap_nil, List.append_nil]
theorem join_one (l : List Nd) (x : Nd) : l.flatMap ncells ++ ncells x = (l ++ [x]).flatMap ncells := by simp
set_option maxRecDepth 100000 in
set_option maxHeartbeats 4000000 in
theorem c43 {h : Heap} {n : Nat} {aa ba : AV} {op : Int} {a b : List Nd} (e1 : rd dNs h aa = some a) (e2 : rd dNs h ba = some b) (hp : (a.length + b.length + 1) * 64 ≤ 140737488355328) (hn : Fresh n h) :
    ACall (cx [] (pfL [])) 43 [ii op, aa, ba] h n fun z h' n' => agree n h h' ∧ Fresh n' h' ∧ n ≤ n' ∧ ∃ u, z = .s n u 0 (joinT op a b).length ∧ h' n = some ⟨(joinT op a b).flatMap ncells, u, true, 6⟩ ∧ n < n' := by
  have b1 : a.length * 64 ≤ 140737488355328 := by omega
  have b2 : a.length ≤ 9223372036854775807 := by omega
  have b3 : (a.length + 1) * 64 ≤ 140737488355328 := Nat.le_trans (Nat.mul_le_mul_right 64 (by omega)) hp
  have b4 : a.length + 1 ≤ 9223372036854775807 := by omega
  refine acall_of_awp (args := [ii op, aa, ba]) (pfL_ok tb_nil) (mixed _ _) Tryd.func43 (c := Tryd.f43.body.getD .skip) rfl (by kernel_rfl) (callable Tryd.func43 rfl rfl _ _) (show 3 ≤ Tryd.f43.ntmps by decide +kernel) ?_
  obtain ⟨s1, s2, s3, s4, s5⟩ := sl_is e1
  obtain ⟨t1, t2, t3, t4, t5⟩ := sl_is e2
  have fa : ∀ h'', agree n h h'' → sls h'' aa 0 (a.length * 6) := fun h'' ha => (flat_app Flat.nd (rd_agr hn e1 h'' ha)).1
  have fb : ∀ h'', agree n h h'' → slc h'' aa 0 (a.length * 6) = a.flatMap ncells := fun h'' ha => (flat_app Flat.nd (rd_agr hn e1 h'' ha)).2
  have key : ∀ e : Nat → AV, e 0 = ii op → e 1 = aa → e 2 = ba → awp (cx [] (pfL [])) (Tryd.f43.body.getD .skip) (finQ (cx [] (pfL [])) Tryd.f43 fun z h' n' => agree n h h' ∧ Fresh n' h' ∧ n ≤ n' ∧ ∃ u, z = .s n u 0 (joinT op a b).length ∧ h' n = some ⟨(joinT op a b).flatMap ncells, u, true, 6⟩ ∧ n < n') ⟨e, h, n⟩ := fun e q0 q1 q2 => by
    have hal := flat_len Flat.nd a
    by_cases h12 : op = 12 ∨ op = 13
    · have hj : joinT op a b = a ++ [⟨op, 0, ByteArray.empty, ByteArray.empty, IntKind.i64.wrap (a.length - 1), -1⟩] := by rw [joinT, if_pos h12]
      have hc : (joinT op a b).flatMap ncells = a.flatMap ncells ++ [ii op, ii 0, ss ByteArray.empty, ss ByteArray.empty, ii (IntKind.i64.wrap (a.length - 1)), ii (-1)] := by rw [hj, ← join_one]; rfl
      have hjl : (joinT op a b).length = a.length + 1 := by rw [hj]; simp
      rw [hc, hjl]
      generalize a.flatMap ncells = cl at *
      rcases h12 with rfl | rfl
      · simp [evs, aeval, binS, cx_ti, cx_G, cx_pf, cx_tw, ti, globS, glob, ldcs_1, ldcs_2, ldcs_3, ldcs_4, ldcs_5, ldcs_7, sls.eq_1, slc.eq_1, pfL, Tryd.f43, q0, q1, q2, ii, ss, s1, s2, s3, s4, s5, t1, t2, t3, fa, fb, agree_up, agree_refl, fresh_up, hn.add, b1, b2, b3, b4, hal]
        done
      · simp [evs, aeval, binS, cx_ti, cx_G, cx_pf, cx_tw, ti, globS, glob, ldcs_1, ldcs_2, ldcs_3, ldcs_4, ldcs_5, ldcs_7, sls.eq_1, slc.eq_1, pfL, Tryd.f43, q0, q1, q2, ii, ss, s1, s2, s3, s4, s5, t1, t2, t3, fa, fb, agree_up, agree_refl, fresh_up, hn.add, b1, b2, b3, b4, hal]
        done
    · have h12a : ¬ op = 12 := fun e => h12 (.inl e)
      have h12b : ¬ op = 13 := fun e => h12 (.inr e)
      have hc0 : a.flatMap ncells = (a ++ (b.take 0).map (shiftN a.length)).flatMap ncells := by simp
      simp [evs, aeval, binS, cx_ti, cx_G, cx_pf, cx_tw, ti, globS, glob, ldcs_1, ldcs_2, ldcs_3, ldcs_4, ldcs_5, ldcs_7, sls.eq_1, slc.eq_1, pfL, Tryd.f43, q0, q1, q2, ii, ss, s1, s2, s3, s4, s5, t1, t2, t3, fa, fb, agree_up, agree_refl, b1, b2, hal, h12a, h12b]
      refine awp_loop (fun s => ∃ j u : Nat, j ≤ b.length ∧ s.e 0 = ii op ∧ s.e 1 = aa ∧ s.e 2 = ba ∧ s.e 7 = .s n u 0 (a.length + j) ∧ s.e 8 = ii j ∧ agree n h s.h ∧ s.h n = some ⟨(a ++ (b.take j).map (shiftN a.length)).flatMap ncells, u, true, 6⟩ ∧ Fresh s.n s.h ∧ n + 1 ≤ s.n) (fun s => b.length - (s.e 8).i.toNat) ⟨0, 0, by omega, by simp [up, q0], by simp [up, q1], by simp [up, q2], by simp [up], by simp [up, ii], by simp [agree_up, agree_refl], by simp only [up_same, ← hc0], by simp [fresh_up, hn.add], by simp⟩ ?_
      rintro e' h' n' ⟨j, u, hj, q0, q1, q2, q7, q8, hag, hbk, hfr, hnn⟩
      simp only [] at q0 q1 q2 q7 q8 hag hbk hfr hnn
      have hlen : (a ++ (b.take j).map (shiftN a.length)).length = a.length + j := by simp; omega
      have hcl := flat_len Flat.nd (a ++ (b.take j).map (shiftN a.length))
      rw [hlen] at hcl
      have fit : ∀ m, m ≤ b.length → (a.length + (m + 1)) * 64 ≤ 140737488355328 := fun m hm => Nat.le_trans (Nat.mul_le_mul_right 64 (by omega)) hp
      have g1 := fit j hj
      have g2 : a.length + (j + 1) ≤ 9223372036854775807 := by omega
      have hc6 : (a.length + j) * 6 ≤ (a.length + j) * 6 := Nat.le_refl _
      by_cases hlt : j < b.length
      · rcases ns_at e2 with ⟨h0, _⟩ | ⟨id, off, k, rfl, hk, ho', hat⟩
        · rw [h0] at hlt; simp at hlt
        have hr := hat j hlt
        have hid := lt_of hk hn
        have hk' : h' id = some k := by rw [hag id hid]; exact hk
        have y0 : ¬ id = n' := by omega
        have y2 : ¬ n = n' := by omega
        have y4 : n ≤ n' := by omega
        have y5 : ∀ m, ¬ n = n' + m := fun m => by omega
        have y6 : ∀ m, n ≤ n' + m := fun m => by omega
        have y7 : ∀ m, 0 < m → n < n' + m := fun m h => by omega
        have hw := wrap_nat (j := j) (by unfold big; omega)
        have hle : ∀ (X : Ctx) (h' : Heap), h' id = some k → ldcs X h' (.p id k.ver (off + j * 6)) 0 6 = ncells b[j] := fun X h' e => ldcs_nd e hr
        have hw6 : off + (j * 6 + 6) ≤ k.cells.length := by omega
        have hsn := (join_snoc (a := a) hlt).trans (b := (a ++ (b.take (j + 1)).map (shiftN a.length)).flatMap ncells) (c := a.flatMap ncells ++ ((b.map (shiftN a.length)).take (j + 1)).flatMap ncells) (by rw [List.flatMap_append, List.map_take])
        generalize (a ++ (b.take j).map (shiftN a.length)).flatMap ncells = cs at *
        generalize b[j] = x at *
        obtain ⟨xo, num, var, attr, xa, xb⟩ := x
        by_cases ha : 0 ≤ xa
        · by_cases hb : 0 ≤ xb
          · simp only [shiftN, ncells, ha, hb, if_true] at hsn
            simp [evs, aeval, binS, cx_ti, cx_G, cx_pf, cx_tw, ti, globS, glob, ldcs_1, ldcs_2, ldcs_3, ldcs_4, ldcs_5, ldcs_7, sls.eq_1, slc.eq_1, pfL, ldcs, q0, q1, q2, q7, q8, ii, ss, s1, s2, s3, hlt, hk', y0, y2, y4, y5, hle, hw6, ncells, ha, hb, agree_up, hag, hbk, hcl, g1, g2, hw]
            refine ⟨⟨j + 1, hlt, u + 1, ⟨rfl, rfl⟩, by omega, ?_⟩, by omega⟩
            exact ⟨by simp [agree_up, y4, y6, hag], ⟨hsn, rfl⟩, by simp [fresh_up, hfr.add, y7], by omega⟩
          · simp only [shiftN, ncells, ha, hb, if_true, if_false] at hsn
            simp [evs, aeval, binS, cx_ti, cx_G, cx_pf, cx_tw, ti, globS, glob, ldcs_1, ldcs_2, ldcs_3, ldcs_4, ldcs_5, ldcs_7, sls.eq_1, slc.eq_1, pfL, ldcs, q0, q1, q2, q7, q8, ii, ss, s1, s2, s3, hlt, hk', y0, y2, y4, y5, hle, hw6, ncells, ha, hb, agree_up, hag, hbk, hcl, g1, g2, hw]
            refine ⟨⟨j + 1, hlt, u + 1, ⟨rfl, rfl⟩, by omega, ?_⟩, by omega⟩
            exact ⟨by simp [agree_up, y4, y6, hag], ⟨hsn, rfl⟩, by simp [fresh_up, hfr.add, y7], by omega⟩
        · by_cases hb : 0 ≤ xb
          · simp only [shiftN, ncells, ha, hb, if_true, if_false] at hsn
            simp [evs, aeval, binS, cx_ti, cx_G, cx_pf, cx_tw, ti, globS, glob, ldcs_1, ldcs_2, ldcs_3, ldcs_4, ldcs_5, ldcs_7, sls.eq_1, slc.eq_1, pfL, ldcs, q0, q1, q2, q7, q8, ii, ss, s1, s2, s3, hlt, hk', y0, y2, y4, y5, hle, hw6, ncells, ha, hb, agree_up, hag, hbk, hcl, g1, g2, hw]
            refine ⟨⟨j + 1, hlt, u + 1, ⟨rfl, rfl⟩, by omega, ?_⟩, by omega⟩
            exact ⟨by simp [agree_up, y4, y6, hag], ⟨hsn, rfl⟩, by simp [fresh_up, hfr.add, y7], by omega⟩
          · simp only [shiftN, ncells, ha, hb, if_false] at hsn
            simp [evs, aeval, binS, cx_ti, cx_G, cx_pf, cx_tw, ti, globS, glob, ldcs_1, ldcs_2, ldcs_3, ldcs_4, ldcs_5, ldcs_7, sls.eq_1, slc.eq_1, pfL, ldcs, q0, q1, q2, q7, q8, ii, ss, s1, s2, s3, hlt, hk', y0, y2, y4, y5, hle, hw6, ncells, ha, hb, agree_up, hag, hbk, hcl, g1, g2, hw]
            refine ⟨⟨j + 1, hlt, u + 1, ⟨rfl, rfl⟩, by omega, ?_⟩, by omega⟩
            exact ⟨by simp [agree_up, y4, y6, hag], ⟨hsn, rfl⟩, by simp [fresh_up, hfr.add, y7], by omega⟩
      · obtain rfl : j = b.length := by omega
        have hj' : joinT op a b = a ++ b.map (shiftN a.length) ++ [⟨op, 0, ByteArray.empty, ByteArray.empty, IntKind.i64.wrap (a.length - 1), IntKind.i64.wrap (IntKind.i64.wrap (a.length + b.length) - 1)⟩] := by rw [joinT, if_neg h12]
        have hc : (joinT op a b).flatMap ncells = (a ++ b.map (shiftN a.length)).flatMap ncells ++ [ii op, ii 0, ss ByteArray.empty, ss ByteArray.empty, ii (IntKind.i64.wrap (a.length - 1)), ii (IntKind.i64.wrap (IntKind.i64.wrap (a.length + b.length) - 1))] := by rw [hj', ← join_one]; rfl
        have hjl : (joinT op a b).length = a.length + b.length + 1 := by rw [hj']; simp; omega
        rw [hc, hjl]
        have y2 : ∀ m, ¬ n = n' + m := fun m => by omega
        have y3 : ¬ n = n' := by omega
        have y4 : ∀ m, n ≤ n' + m := fun m => by omega
        have y5 : n ≤ n' := by omega
        have y7 : ∀ m, 0 < m → n < n' + m := fun m h => by omega
        rw [List.take_length] at hbk hcl
        generalize (a ++ b.map (shiftN a.length)).flatMap ncells = cs at *
        simp [evs, aeval, binS, cx_ti, cx_G, cx_pf, cx_tw, ti, globS, glob, ldcs_1, ldcs_2, ldcs_3, ldcs_4, ldcs_5, ldcs_7, sls.eq_1, slc.eq_1, pfL, q0, q1, q2, q7, q8, ii, ss, s1, s2, s3, t1, t2, t3, hag, hbk, hcl, agree_up, fresh_up, hfr.add, g1, g2, y2, y3, y4, y5, y7]
        done
  exact key _ rfl rfl rfl
end Go.Proofs.YtkfphaphiikloaaDoor

/-
  THE LAWS WITHOUT THE DOCUMENT, PART C: a compiled program's fields are numbers that the machine holds; one tree, its value and its program's run.
-/
namespace Go.Proofs.YtkfphaphiikloaaDoor
open Go Go.Eng

theorem lay_mem {t : List Nd} {f g : Nat → Ins} {i : Ins} : ∀ {n : Nat}, i ∈ layT t f g n → (∃ k, k < n ∧ i = f k) ∨ ∃ k, k < n ∧ (parT t k).isSome = true ∧ i = g k
  | 0, h => by simp [layT] at h
  | n + 1, h => by
    simp only [layT, List.mem_append, List.mem_cons] at h
    rcases h with h | rfl | h
    · rcases lay_mem h with ⟨k, h1, h2⟩ | ⟨k, h1, h2⟩
      · exact .inl ⟨k, by omega, h2⟩
      · exact .inr ⟨k, by omega, h2⟩
    · exact .inl ⟨n, by omega, rfl⟩
    · split at h
      · rename_i hp
        simp only [List.mem_singleton] at h
        exact .inr ⟨n, by omega, hp, h⟩
      · simp at h
theorem ix_lt (l : List ByteArray) (z : ByteArray) : -1 ≤ ixOf l z ∧ ixOf l z < (l.length : Int) := by
  unfold ixOf
  split <;> omega
theorem rng_small {x : Int} (h1 : -1 ≤ x) (h2 : x ≤ 4611686018427387904) : Rng x := by
  unfold Rng
  omega
theorem comp_ok {sc : List Ty} {vs : List ByteArray} {t : List Nd} (hvs : vs.length < big) (hp : smallT t) (htl : sc.length * 8 ≤ 140737488355328) (hr : ∀ x ∈ t, Rng x.n) : PrOk (compP sc vs t) := by
  have hp' : t.length * 64 ≤ 140737488355328 := hp
  unfold compP
  split
  · rename_i hrun
    have T := tre_of (show tree1 t = true by simp only [runT, Bool.and_eq_true] at hrun; exact hrun.1)
    have hf := few T
    have hnl := names_len t t.length
    have hb : vs.length < 4611686018427387904 := hvs
    refine ⟨by simp only []; rw [codeT, lay_len]; omega, fun i hi => ?_, fun c hc => ?_⟩
    · rcases lay_mem hi with ⟨k, h1, rfl⟩ | ⟨k, h1, h2, rfl⟩
      · rw [ownT, getD_at h1]
        have hk := T.kind k h1
        have ho : 1 ≤ t[k].op ∧ t[k].op ≤ 26 := by
          rcases hk with ⟨h1, h2, _⟩ | ⟨h1, _⟩ | ⟨h1, h2, _⟩ <;> omega
        have hit : -1 ≤ itemV vs t[k] ∧ itemV vs t[k] ≤ 9223372036854775806 := by
          unfold itemV
          have := ix_lt vs t[k].var
          split <;> omega
        have hix := ix_lt (namesOf t) t[k].attr
        have hn2 : (namesOf t).length ≤ t.length := hnl
        have hrn := hr _ (List.getElem_mem h1)
        have hri : Rng (itemV vs t[k]) := by unfold Rng; omega
        have r0 : Rng 0 := rng_small (by omega) (by omega)
        have rc : Rng (ixOf (namesOf t) t[k].attr) := rng_small (by omega) (by omega)
        unfold ownI InsOk
        repeat' split
        all_goals refine ⟨?_, ?_, ?_, ?_, ?_⟩ <;> first | exact r0 | exact hrn | exact hri | exact rc | exact rng_small (by simp only []; omega) (by simp only []; omega)
      · unfold jmpT
        split
        · rename_i p hpp
          have hpl : p < t.length := by
            have := List.mem_of_find?_eq_some hpp
            simpa using this
          have hle := pos_lt (t := t) (k := p) (n := t.length) hpl
          have ho : 1 ≤ t[p].op ∧ t[p].op ≤ 26 := by
            rcases T.kind p hpl with ⟨h1, h2, _⟩ | ⟨h1, _⟩ | ⟨h1, h2, _⟩ <;> omega
          have r0 : Rng 0 := rng_small (by omega) (by omega)
          have hpo : posT t p + 1 ≤ posT t t.length := by split at hle <;> omega
          rw [getD_at hpl]
          refine ⟨rng_small (by simp only []; omega) (by simp only []; omega), r0, r0, r0, rng_small (by simp only []; omega) (by simp only []; omega)⟩
        · have r0 : Rng 0 := rng_small (by omega) (by omega)
          exact ⟨r0, r0, r0, r0, r0⟩
    · obtain ⟨a, _, rfl⟩ := List.mem_map.1 hc
      rw [colOf_len]
      unfold big
      omega
  · exact ⟨by simp, by simp, by simp⟩
/-! ### one tree -/
def zA : ByteArray := ⟨#[65]⟩
def za : ByteArray := ⟨#[97]⟩
def zx : ByteArray := ⟨#[120]⟩
def scW : List Ty := [⟨zA, [zx]⟩]
def qW : Qu := ⟨[⟨false, [zA], za, 1, 1⟩], 0, 0, [], 0, ByteArray.empty, []⟩
def tW : List Nd := [⟨4, 0, za, zx, -1, -1⟩, ⟨5, 0, za, ByteArray.empty, -1, -1⟩, ⟨15, 0, ByteArray.empty, ByteArray.empty, 0, 1⟩]
def enW : En := ⟨[[⟨1, 0, 0, 7, 0, 0, 0, 0, 0, 0, 0⟩]], -1, 0⟩
set_option maxRecDepth 100000 in
theorem run_W : runT (vars qW.items) tW = true := by decide +kernel
set_option maxRecDepth 100000 in
theorem eval_W : evalV scW (vars qW.items) enW tW = ⟨true, 6⟩ := by decide +kernel
theorem prog_W : runV (compP scW (vars qW.items) tW) enW = (⟨true, 6⟩, 0) := by rw [run_comp run_W, eval_W]
theorem holds_W : holdsV (compP scW (vars qW.items) tW) enW = true := by
  unfold holdsV
  rw [prog_W]
  rfl
end Go.Proofs.YtkfphaphiikloaaDoor
