import Derived.Test.YtbffkkeieihpdaaGreatDoorX36
import Derived.Test.YtbffkkeieihpdaaGreatDoorX24
import Derived.Test.YtbffkkeieihpdaaGreatDoorX29
set_option linter.unusedSimpArgs false
set_option linter.unusedVariables false
set_option linter.constructorNameAsVariable false
set_option maxRecDepth 100000
set_option maxHeartbeats 4000000
namespace Go.Proofs.YtbffkkeieihpdaaGreatDoor
open Go Go.Eng
def subC (lo : Nat) (x : List Nd) (j : Nat) : List AV := ((x.take j).map (offN lo) ++ x.drop j).flatMap ncells
def tb52 : List (FuncId × (List AV → Heap → PRes)) := [(93, G89)]
theorem wr_all {α : Type} {l cs : List α} (h : l.length = cs.length) : wr l 0 cs = cs := by
 have := wr_app2 cs [] l [] (by simpa using h)
 simpa using this
theorem nth_nd {p q : List Nd} {x : Nd} {j c : Nat} {v : AV} (hp : p.length = j) (hc : (ncells x)[c]? = some v) (hc6 : c < 6) : ((p ++ x :: q).flatMap ncells)[j * 6 + c]? = some v := by
 have hl : (p.flatMap ncells).length = j * 6 := by rw [flat_len Flat.nd, hp]
 rw [List.flatMap_append, List.flatMap_cons, List.getElem?_append_right (by omega), hl, show j * 6 + c - j * 6 = c by omega, List.getElem?_append_left (by rw [show (ncells x).length = 6 from rfl]; exact hc6)]
 exact hc
theorem wr_nd {p q : List Nd} {x y : Nd} {j c : Nat} {v : AV} (hp : p.length = j) (h : (ncells x).set c v = ncells y) (hc6 : c < 6) : ((p ++ x :: q).flatMap ncells).set (j * 6 + c) v = (p ++ y :: q).flatMap ncells := by
 have hl : (p.flatMap ncells).length = j * 6 := by rw [flat_len Flat.nd, hp]
 rw [List.flatMap_append, List.flatMap_cons, List.set_append_right _ _ (by omega), hl, show j * 6 + c - j * 6 = c by omega, List.set_append_left _ _ (by rw [show (ncells x).length = 6 from rfl]; exact hc6), h, List.flatMap_append, List.flatMap_cons]
theorem kids_rng {t : List Nd} {lo : Nat → Nat} (T : Tre t lo) {i : Nat} (hi : i < t.length) : -1 ≤ t[i].a ∧ t[i].a < t.length ∧ -1 ≤ t[i].b ∧ t[i].b < t.length := by
 rcases T.kind i hi with ⟨b1, b2, b3, b4, b⟩ | ⟨b0, b1, b2, b3, b⟩ | ⟨b0, b0', b1, b2, a, b3, b4, b⟩
 ·omega
 ·omega
 ·have := T.le (i - 1) (by omega)
  omega
theorem flat_dropn (l : List Nd) (m : Nat) : (l.flatMap ncells).drop (m * 6) = (l.drop m).flatMap ncells := by
 by_cases h : m ≤ l.length
 ·have h1 : ((l.take m).flatMap ncells).length = m * 6 := by rw [flat_len Flat.nd, List.length_take, Nat.min_eq_left h]
  conv => lhs; rw [← List.take_append_drop m l, List.flatMap_append, ← h1, List.drop_left]
 ·have h1 : l.drop m = [] := List.drop_eq_nil_of_le (by omega)
  rw [h1, List.drop_eq_nil_of_le (by rw [flat_len Flat.nd]; omega)]; rfl
theorem flat_taken (l : List Nd) (m : Nat) : (l.flatMap ncells).take (m * 6) = (l.take m).flatMap ncells := by
 by_cases h : m ≤ l.length
 ·have h1 : ((l.take m).flatMap ncells).length = m * 6 := by rw [flat_len Flat.nd, List.length_take, Nat.min_eq_left h]
  conv => lhs; rw [← List.take_append_drop m l, List.flatMap_append, ← h1, List.take_left]
 ·rw [List.take_of_length_le (l := l) (by omega), List.take_of_length_le (by rw [flat_len Flat.nd]; omega)]
theorem c52 {h : Heap} {n : Nat} {a : AV} {t : List Nd} {r : Nat} (e1 : rd dNs h a = some t) (ht : tree1 t = true) (hsm : smallT t) (hr : r < t.length) (hn : Fresh n h) :
  ACall (cx [3] (pfL tb52)) 46 [a, ii r] h n fun z h' n' => agree n h h' ∧ Fresh n' h' ∧ n ≤ n' ∧ ∃ w, z = .s w 0 0 (subT t r).length ∧ h' w = some ⟨(subT t r).flatMap ncells, 0, true, 6⟩ ∧ n ≤ w ∧ w < n' := by
 refine acall_of_awp (args := [a, ii r]) (pfL_ok (tb_cons P89 tb_nil)) (mixed _ _) Tryz.func46 (c := Tryz.f46.body.getD .skip) rfl (by kernel_rfl) (callable Tryz.func46 rfl rfl _ _) (show 2 ≤ Tryz.f46.ntmps by decide +kernel) ?_
 obtain ⟨s1, s2, s3, s4, s5⟩ := sl_is e1
 have T := tre_of ht
 have hlo := T.le r hr
 have b1 : t.length * 64 ≤ 140737488355328 := hsm
 have hsub : subT t r = ((t.drop (loOf t r)).take (szN t r)).map (offN (loOf t r)) := rfl
 have hsl : (subT t r).length = szN t r := cut_len hr hlo
 have hsz : szN t r = r + 1 - loOf t r := rfl
 rw [hsl, hsub]
 have g1 : ∀ h', agree n h h' → rd dNs h' a = some t := fun h' ha => rd_agr hn e1 h' ha
 have f1 : ∀ h', agree n h h' → G89 [a, ii r] h' = ⟨okTr (t, (r : Int)), ii (szN t r)⟩ := fun h' ha => by
  simp only [G89, pureH, deTI, ii, g1 h' ha, Option.map_some, Int.toNat_natCast]
 have f2 : okTr (t, (r : Int)) := ⟨ht, hsm, Int.natCast_nonneg _, by simpa using hr⟩
 have hik : ∀ i (hi : i < t.length), loOf t r ≤ i → i ≤ r → (0 ≤ t[i].a → (loOf t r : Int) ≤ t[i].a) ∧ (0 ≤ t[i].b → (loOf t r : Int) ≤ t[i].b) := fun i hi h1 h2 => in_kids T hr h1 h2 hi
 generalize hz : szN t r = z at *
 generalize loOf t r = lo at *
 rcases ns_at e1 with ⟨hq, _⟩ | ⟨id, off, k, rfl, hk, ho', hat⟩
 ·rw [hq] at hr; simp at hr
 generalize hx : (t.drop lo).take z = x
 have key : ∀ e : Nat → AV, e 0 = .s id k.ver off t.length → e 1 = ii r → awp (cx [3] (pfL tb52)) (Tryz.f46.body.getD .skip) (finQ (cx [3] (pfL tb52)) Tryz.f46 fun v h' n' => agree n h h' ∧ Fresh n' h' ∧ n ≤ n' ∧ ∃ w, v = .s w 0 0 z ∧ h' w = some ⟨(x.map (offN lo)).flatMap ncells, 0, true, 6⟩ ∧ n ≤ w ∧ w < n') ⟨e, h, n⟩ := fun e q0 q1 => by
  have z1 : ¬ (z : Int) = 0 := by omega
  have w1 := wrap_sm (x := (r : Int) - (z : Int)) (by omega) (by omega)
  have w2 : IntKind.i64.wrap (lo : Int) = (lo : Int) := wrap_sm (by omega) (by omega)
  simp only [ii] at f1 f2
  have z2 : ¬ z = 0 := by omega
  have hl2 : (r : Int) - (z : Int) + 1 = (lo : Int) := by omega
  have z3 : 64 * (z : Int) ≤ 281474976710656 := by omega
  have z4 : (z : Int) ≤ 9223372036854775807 := by omega
  have z5 : (lo : Int) ≤ (t.length : Int) := by omega
  have hne : ¬ id = n := by simpa using ne_of hk hn 0
  have z6 : off + (lo * 6 + (t.length - lo) * 6) ≤ k.cells.length := by omega
  simp [evx, Tryz.f46, q0, q1, ii, tb52, f1, f2, agree_refl, z2, z3, z4, z5, z6, w1, w2, hl2, hne, hk, repZ_length]
  have hx1 : x.length = z := by simp only [← hx, List.length_take, List.length_drop]; omega
  have hcp : wr (repZ [Value.int IntKind.i64 0, Value.int IntKind.i64 0, Value.string ByteArray.empty, Value.string ByteArray.empty, Value.int IntKind.i64 0, Value.int IntKind.i64 0] z) 0 (List.take (min (t.length - lo) z * 6) (List.take ((t.length - lo) * 6) (List.drop (off + lo * 6) k.cells))) = x.flatMap ncells := by
   have hfl : (k.cells.drop off).take (t.length * 6) = t.flatMap ncells := by
    have := (flat_app Flat.nd e1).2
    simpa only [slc, hk, Nat.zero_add, Nat.add_zero] using this
   have hl2 : (x.flatMap ncells).length = z * 6 := by rw [flat_len Flat.nd, hx1]
   have e3 : List.take (min (t.length - lo) z * 6) (List.take ((t.length - lo) * 6) (List.drop (off + lo * 6) k.cells)) = x.flatMap ncells := by
    have hm : min (t.length - lo) z = z := by omega
    have h4 : List.take ((t.length - lo) * 6) (List.drop (off + lo * 6) k.cells) = (t.drop lo).flatMap ncells := by
     rw [← flat_dropn, ← hfl, List.drop_take, List.drop_drop, Nat.sub_mul]
    rw [hm, h4, flat_taken, hx]
   rw [e3]
   exact wr_all (by rw [repZ_length, hl2]; rfl)
  refine awp_loop (fun s => ∃ j : Nat, j ≤ z ∧ s.e 7 = .s n 0 0 z ∧ s.e 6 = ii lo ∧ s.e 26 = ii z ∧ s.e 27 = ii j ∧ s.h n = some ⟨subC lo x j, 0, true, 6⟩ ∧ agree n h s.h ∧ Fresh s.n s.h ∧ n + 1 ≤ s.n) (fun s => z - (s.e 27).i.toNat) ⟨0, by omega, by simp [up], by simp [up, ii], by simp [up, ii], by simp [up, ii], by simp [up, subC]; exact hcp, by simp [agree_up, agree_refl], by simp [fresh_up, hn.add], by simp⟩ ?_
  rintro e' h' n' ⟨j, hj, q7, q6, q26, q27, hkw, hag, hfr, hnn⟩
  simp only [] at q7 q6 q26 q27 hkw hag hfr hnn
  by_cases hlt : j < z
  ·have hjx : j < x.length := by omega
   have hsp : x.drop j = x[j] :: x.drop (j + 1) := List.drop_eq_getElem_cons hjx
   have htk : (x.take (j + 1)).map (offN lo) = (x.take j).map (offN lo) ++ [offN lo x[j]] := by rw [List.take_succ_eq_append_getElem hjx, List.map_append]; rfl
   have hpl : ((x.take j).map (offN lo)).length = j := by rw [List.length_map, List.length_take]; omega
   have hxj : x[j] = t[lo + j]'(by omega) := by simp only [← hx, List.getElem_take, List.getElem_drop]
   have hin := kids_rng T (i := lo + j) (by omega)
   have hin := kids_rng T (i := lo + j) (by omega)
   have hin2 := hik (lo + j) (by omega) (by omega) (by omega)
   rw [← hxj] at hin hin2
   have hxl : ((x.take j).map (offN lo) ++ x.drop j).length = z := by rw [List.length_append, hpl, List.length_drop]; omega
   unfold subC at hkw
   rw [hsp] at hkw hxl
   have hfin : ∀ y', y' = offN lo x[j] → ((x.take j).map (offN lo) ++ y' :: x.drop (j + 1)).flatMap ncells = subC lo x (j + 1) := fun y' e => by rw [subC, e, htk, List.append_assoc]; rfl
   obtain ⟨y, hy⟩ : ∃ y, y = x[j] := ⟨_, rfl⟩
   rw [← hy] at hin hin2 hkw hfin hxl
   obtain ⟨p, hp⟩ : ∃ p, p = (x.take j).map (offN lo) := ⟨_, rfl⟩
   rw [← hp] at hpl hkw hfin hxl
   obtain ⟨g, hg⟩ : ∃ g, g = x.drop (j + 1) := ⟨_, rfl⟩
   rw [← hg] at hkw hfin hxl
   clear hsp htk hxj hp hg hy
   obtain ⟨op, ny, var, attr, ya, yb⟩ := y
   have hlt' : (j : Int) < (z : Int) := by omega
   have hjw := wrap_nat (j := j) (by unfold big; omega)
   simp only [] at hin hin2
   have n4 : ∀ u v : Int, ((p ++ (⟨op, ny, var, attr, u, v⟩ : Nd) :: g).flatMap ncells)[j * 6 + 4]? = some (ii u) := fun u v => nth_nd hpl rfl (by omega)
   have n5 : ∀ u v : Int, ((p ++ (⟨op, ny, var, attr, u, v⟩ : Nd) :: g).flatMap ncells)[j * 6 + 5]? = some (ii v) := fun u v => nth_nd hpl rfl (by omega)
   have m4 : ∀ u v w : Int, ((p ++ (⟨op, ny, var, attr, u, v⟩ : Nd) :: g).flatMap ncells).set (j * 6 + 4) (ii w) = (p ++ (⟨op, ny, var, attr, w, v⟩ : Nd) :: g).flatMap ncells := fun u v w => wr_nd hpl rfl (by omega)
   have m5 : ∀ u v w : Int, ((p ++ (⟨op, ny, var, attr, u, v⟩ : Nd) :: g).flatMap ncells).set (j * 6 + 5) (ii w) = (p ++ (⟨op, ny, var, attr, u, w⟩ : Nd) :: g).flatMap ncells := fun u v w => wr_nd hpl rfl (by omega)
   have cl : ∀ u v : Int, ((p ++ (⟨op, ny, var, attr, u, v⟩ : Nd) :: g).flatMap ncells).length = z * 6 := fun u v => by
    rw [flat_len Flat.nd, ← hxl]; simp
   have hf2 : ∀ u v : Int, u = (if 0 ≤ ya then ya - lo else ya) → v = (if 0 ≤ yb then yb - lo else yb) → (p ++ (⟨op, ny, var, attr, u, v⟩ : Nd) :: g).flatMap ncells = subC lo x (j + 1) := fun u v e1 e2 => hfin _ (by rw [e1, e2]; rfl)
   generalize hC : (fun u v : Int => (p ++ (⟨op, ny, var, attr, u, v⟩ : Nd) :: g).flatMap ncells) = C
   have hC' : ∀ u v : Int, (p ++ (⟨op, ny, var, attr, u, v⟩ : Nd) :: g).flatMap ncells = C u v := fun u v => by rw [← hC]
   simp only [hC'] at n4 n5 m4 m5 cl hf2 hkw
   clear hC hC' hfin
   simp only [ii] at n4 n5 m4 m5
   have v1 : ¬ z * 6 < j * 6 + 4 + 1 := by omega
   have v2 : ¬ z * 6 < j * 6 + 5 + 1 := by omega
   have u1 : n < n' + 1 := by omega
   have u2 : n < n' + 2 := by omega
   have v3 : j * 6 + 5 ≤ z * 6 := by omega
   have v4 : j * 6 + 6 ≤ z * 6 := by omega
   have hne' : ∀ m, ¬ n = n' + m := fun m => by omega
   by_cases ha : 0 ≤ ya
   ·have wa := wrap_sm (x := ya - lo) (by have := hin2.1 ha; omega) (by omega)
    by_cases hb : 0 ≤ yb
    ·have wb := wrap_sm (x := yb - lo) (by have := hin2.2 hb; omega) (by omega)
     have hX2 := hf2 (ya - lo) (yb - lo) (by rw [if_pos ha]) (by rw [if_pos hb])
     simp [evx, q7, q6, q26, q27, ii, hlt', hkw, n4, n5, m4, m5, cl, ha, hb, hjw, v3, v4, wa, wb]
     exact ⟨⟨j + 1, by omega, by omega, hX2, by simp [agree_up, hag], by first | exact hfr | simp [fresh_up, u2, hfr.add], by omega⟩, by omega⟩
    ·have hX2 := hf2 (ya - lo) yb (by rw [if_pos ha]) (by rw [if_neg hb])
     simp [evx, q7, q6, q26, q27, ii, hlt', hkw, n4, n5, m4, cl, ha, hb, hjw, v3, v4, wa]
     exact ⟨⟨j + 1, by omega, by omega, hX2, by simp [agree_up, hag], by first | exact hfr | simp [fresh_up, u1, hfr.add], by omega⟩, by omega⟩
   ·by_cases hb : 0 ≤ yb
    ·have wb := wrap_sm (x := yb - lo) (by have := hin2.2 hb; omega) (by omega)
     have hX2 := hf2 ya (yb - lo) (by rw [if_neg ha]) (by rw [if_pos hb])
     simp [evx, q7, q6, q26, q27, ii, hlt', hkw, n4, n5, m5, cl, ha, hb, hjw, v3, v4, wb]
     exact ⟨⟨j + 1, by omega, by omega, hX2, by simp [agree_up, hag], by first | exact hfr | simp [fresh_up, u1, hfr.add], by omega⟩, by omega⟩
    ·have hX2 := hf2 ya yb (by rw [if_neg ha]) (by rw [if_neg hb])
     simp [evx, q7, q6, q26, q27, ii, hlt', hkw, n4, n5, cl, ha, hb, hjw, v3, v4]
     exact ⟨⟨j + 1, by omega, by omega, hX2, by simp [hag], by first | exact hfr | simp [fresh_up, u1, u2, hfr.add], by omega⟩, by omega⟩
  ·obtain rfl : j = z := by omega
   simp [evx, q7, q26, q27, ii]
   have hd : x.drop j = [] := List.drop_eq_nil_of_le (by omega)
   have htk : x.take j = x := List.take_of_length_le (by omega)
   rw [subC, hd, htk, List.append_nil] at hkw
   exact ⟨hag, hfr, by omega, hkw, by omega⟩
 exact key _ rfl rfl
end Go.Proofs.YtbffkkeieihpdaaGreatDoor

namespace Go.Proofs.YtbffkkeieihpdaaGreatDoor
open Go Go.Eng
def OutL (q n : Nat) (h : Heap) (b : Nat) (l : List Nat) : Prop :=
 (l = [] ∧ h b = some ⟨[.v (.slice none 0 0)], 0, true, 1⟩) ∨ ∃ w u, q ≤ w ∧ w < n ∧ h b = some ⟨[.s w u 0 l.length], 0, true, 1⟩ ∧ h w = some ⟨l.map fun x : Nat => ii x, u, true, 1⟩
def post88 (q b n : Nat) (h : Heap) (l : List Nat) (h' : Heap) (n' : Nat) : Prop := (∀ id, id < q → id ≠ b → h' id = h id) ∧ OutL q n' h' b l ∧ Fresh n' h' ∧ n ≤ n'
section
variable {m q b1 b b4 : Nat} {h0 : Heap} {a : AV} {t : List Nd}
theorem c88 (e1 : rd dNs h0 a = some t) (hn0 : Fresh m h0) (ht : tree1 t = true) (hsm : smallT t) (k1 : m ≤ b1) (k2 : m ≤ b) (k3 : m ≤ b4) (k4 : b1 < q) (k5 : b < q) (k6 : b4 < q) (k7 : b1 ≠ b) (k8 : b4 ≠ b) :
  ∀ r, r < t.length → ∀ (h : Heap) (n : Nat) (l : List Nat), agree m h0 h → h b1 = some ⟨[a], 0, true, 1⟩ → h b4 = some ⟨[.f (.func 80) [] [.p b1 0 0, .p b 0 0, .p b4 0 0]], 0, true, 1⟩ → OutL q n h b l → Fresh n h → q ≤ n → l.length + szN t r ≤ t.length →
   ACall (cx [] (pfL [])) 80 [ii r, .p b1 0 0, .p b 0 0, .p b4 0 0] h n fun _ h' n' => post88 q b n h (l ++ conjT t r) h' n' := by
 intro r
 induction r using Nat.strongRecOn with
 | _ r ih =>
 intro hr h n l hag g1 g4 ho hn hq hlen
 have T := tre_of ht
 have e2 := rd_agr hn0 e1 h hag
 have hsm' : t.length * 64 ≤ 140737488355328 := hsm
 refine acall_of_awp (args := [ii r, .p b1 0 0, .p b 0 0, .p b4 0 0]) (pfL_ok tb_nil) (mixed _ _) Tryz.func80 (c := Tryz.f80.body.getD .skip) rfl (by kernel_rfl) (callable Tryz.func80 rfl rfl _ _) (show 4 ≤ Tryz.f80.ntmps by decide +kernel) ?_
 rcases ns_at e1 with ⟨hz, _⟩ | ⟨id, off, k, rfl, hk0, ho', hat⟩
 ·rw [hz] at hr; simp at hr
 have hid : id < m := lt_of hk0 hn0
 have hk : h id = some k := by rw [hag id hid]; exact hk0
 have hrw := hat r hr
 have c0 := cell_of (c := 0) hrw rfl (by omega)
 have c4 := cell_of (c := 4) hrw rfl (by omega)
 have c5 := cell_of (c := 5) hrw rfl (by omega)
 simp only [Nat.add_zero] at c0
 rw [Nat.add_assoc] at c4 c5
 have v1 : off + (r * 6 + 1) ≤ k.cells.length := by omega
 have v5 : off + (r * 6 + 5) ≤ k.cells.length := by omega
 have v6 : off + (r * 6 + 6) ≤ k.cells.length := by omega
 have key : ∀ e : Nat → AV, e 0 = ii r → e 1 = .p b1 0 0 → e 2 = .p b 0 0 → e 3 = .p b4 0 0 → awp (cx [] (pfL [])) (Tryz.f80.body.getD .skip) (finQ (cx [] (pfL [])) Tryz.f80 fun _ h' n' => post88 q b n h (l ++ conjT t r) h' n') ⟨e, h, n⟩ := fun e q0 q1 q2 q3 => by
  have nb : ∀ j, ¬ b = n + j := fun j => by omega
  have nb0 : ¬ b = n := by omega
  by_cases hop : t[r].op = 25
  ·obtain ⟨j1, j2, j3, j4⟩ := conj_kids T hr hop
   have hcj := conj_two T hr hop
   have hop' : t[r].op = 25 := hop
   obtain ⟨x, hx⟩ : ∃ x : Nat, t[r].a = x := ⟨t[r].a.toNat, by omega⟩
   obtain ⟨y, hy⟩ : ∃ y : Nat, t[r].b = y := ⟨t[r].b.toNat, by omega⟩
   have hx' : t[r].a.toNat = x := by omega
   have hy' : t[r].b.toNat = y := by omega
   have hxr : x < r := by omega
   have hyr : y < r := by omega
   have hsz : szN t r = 1 + szN t x + szN t y := by
    rcases T.kind r hr with ⟨z1, z2, z3, z4, z⟩ | ⟨z0, z1, z2, z3, z⟩ | ⟨z0, z0', z1, z2, c, z3, z4, z⟩
    ·omega
    ·omega
    ·have hlb := T.le (r - 1) (by omega)
     have hla := T.le c (by omega)
     have e1 : x = c := by omega
     have e2 : y = r - 1 := by omega
     subst e1; subst e2
     unfold szN; omega
   have hcl := conj_len T x (by omega)
   have hcx : (conjT t x).length ≤ szN t x := hcl
   have A := ih x hxr (by omega) h n l hag g1 g4 ho hn hq (by omega)
   rw [hcj, hx', hy']
   rw [hop] at c0
   rw [hx] at c4
   rw [hy] at c5
   simp only [ii] at c0 c4 c5 A
   have nid : ∀ j, ¬ id = n + j := fun j => by omega
   simp [evx, Tryz.f80, q0, q1, q3, ii, g1, g4, hk, c0, c4, hr, v1, v5]
   refine A.mono ?_
   rintro v h2 n2 ⟨f1, f2, f3, f4⟩
   have y1 : h2 b1 = some ⟨[AV.s id k.ver off t.length], 0, true, 1⟩ := by rw [f1 b1 k4 k7]; exact g1
   have y4 : h2 b4 = some ⟨[.f (.func 80) [] [.p b1 0 0, .p b 0 0, .p b4 0 0]], 0, true, 1⟩ := by rw [f1 b4 k6 k8]; exact g4
   have yk : h2 id = some k := by rw [f1 id (by omega) (by omega)]; exact hk
   have hag2 : agree m h0 h2 := fun i hi => by rw [f1 i (by omega) (by omega), hag i hi]
   refine ⟨.inr ⟨rfl, fun t ht => ?_⟩, ?_⟩
   ·simp [ldSlots] at ht
    rcases ht with ht | ht | ht <;> subst ht <;> simp [keepP, Eng.up, q1, q3, y1, y4, yk, g1, g4, hk]
   have B := ih y hyr (by omega) h2 n2 (l ++ conjT t x) hag2 y1 y4 f2 f3 (by omega) (by rw [List.length_append]; omega)
   simp only [ii] at B
   simp [evx, y1, y4, yk, c5, hr, v6]
   refine B.mono ?_
   rintro v3 h3 n3 ⟨p1, p2, p3, p4⟩
   have x1 : h3 b1 = some ⟨[AV.s id k.ver off t.length], 0, true, 1⟩ := by rw [p1 b1 k4 k7]; exact y1
   have x4 : h3 b4 = some ⟨[.f (.func 80) [] [.p b1 0 0, .p b 0 0, .p b4 0 0]], 0, true, 1⟩ := by rw [p1 b4 k6 k8]; exact y4
   have xk : h3 id = some k := by rw [p1 id (by omega) (by omega)]; exact yk
   refine ⟨.inr ⟨rfl, fun t ht => ?_⟩, ?_⟩
   ·simp [ldSlots] at ht
    rcases ht with ht | ht | ht <;> subst ht <;> simp [keepP, Eng.up, q1, q3, y1, y4, yk, x1, x4, xk]
   rw [← List.append_assoc]
   exact ⟨fun i h1 h2' => by rw [p1 i h1 h2', f1 i h1 h2'], p2, p3, by omega⟩
  ·have hcj := conj_one hr hop
   rw [hcj]
   rcases ho with ⟨rfl, hb⟩ | ⟨w, u, o1, o2, hb, hw⟩
   ·simp [evx, Tryz.f80, q0, q1, q2, ii, g1, hk, c0, hr, v1, hop, hb, nb, nb0]
    exact ⟨fun i h1 h2 => by simp [Eng.up, h2, show ¬ i = n by omega, show ¬ i = n + 1 by omega], .inr ⟨n + 1, 0, by omega, by omega, by simp [Eng.up], by simp [Eng.up, ii, show ¬ n + 1 = b by omega]⟩, by simp [fresh_up, hn.add, show b < n + 3 by omega], by omega⟩
   ·have nw : ∀ j, ¬ w = n + j := fun j => by omega
    have nw0 : ¬ w = n := by omega
    have nwb : ¬ w = b := by omega
    have nwb' : ¬ b = w := by omega
    have y1 : (l.length + 1) * 8 ≤ 140737488355328 := by unfold szN at hlen; have := T.le r hr; omega
    have y2 : l.length ≤ 9223372036854775806 := by omega
    simp [evx, Tryz.f80, q0, q1, q2, ii, g1, hk, c0, hr, v1, hop, hb, hw, nb0, nw0, nwb', y1, y2]
    exact ⟨fun i h1 h2 => by simp [Eng.up, h2, show ¬ i = n by omega, show ¬ i = w by omega], .inr ⟨w, u + 1, by omega, by omega, by simp [Eng.up], by simp [Eng.up, ii, nwb]⟩, by simp [fresh_up, hn.add, show b < n + 3 by omega, show w < n + 3 by omega], by omega⟩
 exact key _ rfl rfl rfl rfl
end
def tb51 : List (FuncId × (List AV → Heap → PRes)) := [(79, G70)]
theorem c51 {h : Heap} {n : Nat} {a : AV} {t : List Nd} (e1 : rd dNs h a = some t) (ht : tree1 t = true) (hsm : smallT t) (hn : Fresh n h) :
  ACall (cx [3] (pfL tb51)) 35 [a] h n fun z h' n' => agree n h h' ∧ Fresh n' h' ∧ n ≤ n' ∧ ∃ w u, z = .s w u 0 (conjT t (t.length - 1)).length ∧ h' w = some ⟨(conjT t (t.length - 1)).map fun x : Nat => ii x, u, true, 1⟩ ∧ n ≤ w ∧ w < n' := by
 refine acall_of_awp (args := [a]) (pfL_ok (tb_cons P70 tb_nil)) (mixed _ _) Tryz.func35 (c := Tryz.f35.body.getD .skip) rfl (by kernel_rfl) (callable Tryz.func35 rfl rfl _ _) (show 1 ≤ Tryz.f35.ntmps by decide +kernel) ?_
 obtain ⟨s1, s2, s3, s4, s5⟩ := sl_is e1
 have T := tre_of ht
 have hpos : 0 < t.length := T.pos
 have hsm' : t.length * 64 ≤ 140737488355328 := hsm
 obtain ⟨j, he⟩ : ∃ j, t.length = j + 1 := ⟨t.length - 1, by omega⟩
 have he1 : IntKind.i64.wrap ((t.length : Int) - 1) = j := by rw [he]; exact wrapm1 (by unfold big; omega)
 have hj : t.length - 1 = j := by omega
 rw [hj]
 have g1 : ∀ h', agree n h h' → rd dNs h' a = some t := fun h' ha => rd_agr hn e1 h' ha
 have hne := (conj_all T j (by omega)).2
 have key : ∀ e : Nat → AV, e 0 = a → awp (cx [3] (pfL tb51)) (Tryz.f35.body.getD .skip) (finQ (cx [3] (pfL tb51)) Tryz.f35 fun z h' n' => agree n h h' ∧ Fresh n' h' ∧ n ≤ n' ∧ ∃ w u, z = .s w u 0 (conjT t j).length ∧ h' w = some ⟨(conjT t j).map fun x : Nat => ii x, u, true, 1⟩ ∧ n ≤ w ∧ w < n') ⟨e, h, n⟩ := fun e q0 => by
  simp [evx, Tryz.f35, q0, ii, s1, s2, s4, s5, tb51, G70, pureH, deT, g1, agree_up, agree_refl, hsm, ht, bv, he1]
  have K := c88 (m := n) (q := n + 3) (b1 := n) (b := n + 1) (b4 := n + 2) e1 hn ht hsm (by omega) (by omega) (by omega) (by omega) (by omega) (by omega) (by omega) (by omega) j (by omega)
  refine (acall_any (S := []) (by simp) (K _ (n + 4) [] (by simp [agree_up, agree_refl]) (by simp [Eng.up]) (by simp [Eng.up]) (.inl ⟨rfl, by simp [Eng.up]⟩) (by simp [fresh_up, hn.add]) (by omega) (by have := T.le j (by omega); unfold szN; simp only [List.length_nil]; omega))).mono ?_
  rintro v h2 n2 ⟨f1, f2, f3, f4⟩
  rw [List.nil_append] at f2
  rcases f2 with ⟨hz, _⟩ | ⟨w, u, w1, w2, hb, hw⟩
  ·exact absurd hz hne
  simp only [ii] at hw
  simp [hb]
  exact ⟨fun i hi => by rw [f1 i (by omega) (by omega)]; simp [Eng.up, show ¬ i = n by omega, show ¬ i = n + 1 by omega, show ¬ i = n + 2 by omega], f3, by omega, w, u, ⟨rfl, rfl⟩, hw, by omega, w2⟩
 exact key _ rfl
end Go.Proofs.YtbffkkeieihpdaaGreatDoor

namespace Go.Proofs.YtbffkkeieihpdaaGreatDoor
open Go Go.Eng
theorem lay_mem {t : List Nd} {f g : Nat → Ins} {i : Ins} : ∀ {n : Nat}, i ∈ layT t f g n → (∃ k, k < n ∧ i = f k) ∨ ∃ k, k < n ∧ (parT t k).isSome = true ∧ i = g k
 | 0, h => by simp [layT] at h
 | n + 1, h => by
  simp only [layT, List.mem_append, List.mem_cons] at h
  rcases h with h | rfl | h
  ·rcases lay_mem h with ⟨k, h1, h2⟩ | ⟨k, h1, h2⟩
   ·exact .inl ⟨k, by omega, h2⟩
   ·exact .inr ⟨k, by omega, h2⟩
  ·exact .inl ⟨n, by omega, rfl⟩
  ·split at h
   ·rename_i hp
    simp only [List.mem_singleton] at h
    exact .inr ⟨n, by omega, hp, h⟩
   ·simp at h
theorem ix_lt (l : List ByteArray) (z : ByteArray) : -1 ≤ ixOf l z ∧ ixOf l z < (l.length : Int) := by
 unfold ixOf
 split <;> omega
theorem rng_small {x : Int} (h1 : -1 ≤ x) (h2 : x ≤ 4611686018427387904) : Rng x := by
 unfold Rng
 omega
theorem comp_ok {sc : List Ty} {vs : List ByteArray} {t : List Nd} (hvs : vs.length < big) (hp : smallT t) (htl : sc.length * 8 ≤ 140737488355328) (hr : ∀ x ∈ t, Rng x.n) : PrOk (compP sc vs t) := by
 have hp' : t.length * 64 ≤ 140737488355328 := hp
 unfold compP
 split
 ·rename_i hrun
  have T := tre_of (show tree1 t = true by simp only [runT, Bool.and_eq_true] at hrun; exact hrun.1)
  have hf := few T
  have hnl := names_len t t.length
  have hb : vs.length < 4611686018427387904 := hvs
  refine ⟨by simp only []; rw [codeT, lay_len]; omega, fun i hi => ?_, fun c hc => ?_⟩
  ·rcases lay_mem hi with ⟨k, h1, rfl⟩ | ⟨k, h1, h2, rfl⟩
   ·rw [ownT, getD_at h1]
    have hk := T.kind k h1
    have ho : 1 ≤ t[k].op ∧ t[k].op ≤ 26 := by
     rcases hk with ⟨h1, h2, _⟩ | ⟨h1, _⟩ | ⟨h1, h2, _⟩ <;> omega
    have hit : -1 ≤ itemV vs t[k] ∧ itemV vs t[k] ≤ 9223372036854775806 := by
     unfold itemV
     have := ix_lt vs t[k].var
     split <;> omega
    have hix := ix_lt (namesOf t) t[k].attr
    have hn2 : (namesOf t).length ≤ t.length := hnl
    have hrn := hr _ (List.getElem_mem h1)
    have hri : Rng (itemV vs t[k]) := by unfold Rng; omega
    have r0 : Rng 0 := rng_small (by omega) (by omega)
    have rc : Rng (ixOf (namesOf t) t[k].attr) := rng_small (by omega) (by omega)
    unfold ownI InsOk
    repeat' split
    all_goals refine ⟨?_, ?_, ?_, ?_, ?_⟩ <;> first | exact r0 | exact hrn | exact hri | exact rc | exact rng_small (by simp only []; omega) (by simp only []; omega)
   ·unfold jmpT
    split
    ·rename_i p hpp
     have hpl : p < t.length := by
      have := List.mem_of_find?_eq_some hpp
      simpa using this
     have hle := pos_lt (t := t) (k := p) (n := t.length) hpl
     have ho : 1 ≤ t[p].op ∧ t[p].op ≤ 26 := by
      rcases T.kind p hpl with ⟨h1, h2, _⟩ | ⟨h1, _⟩ | ⟨h1, h2, _⟩ <;> omega
     have r0 : Rng 0 := rng_small (by omega) (by omega)
     have hpo : posT t p + 1 ≤ posT t t.length := by split at hle <;> omega
     rw [getD_at hpl]
     refine ⟨rng_small (by simp only []; omega) (by simp only []; omega), r0, r0, r0, rng_small (by simp only []; omega) (by simp only []; omega)⟩
    ·have r0 : Rng 0 := rng_small (by omega) (by omega)
     exact ⟨r0, r0, r0, r0, r0⟩
  ·obtain ⟨a, _, rfl⟩ := List.mem_map.1 hc
   rw [colOf_len]
   unfold big
   omega
 ·exact ⟨by simp, by simp, by simp⟩
def za : ByteArray := ⟨#[97]⟩
end Go.Proofs.YtbffkkeieihpdaaGreatDoor

namespace Go.Proofs.YtbffkkeieihpdaaGreatDoor
open Go Go.Eng
theorem conj_half {t : List Nd} {lo : Nat → Nat} (T : Tre t lo) : ∀ i, i < t.length → 2 * (conjT t i).length ≤ i + 2 - lo i := by
 intro i
 induction i using Nat.strongRecOn with
 | _ i ih =>
  intro hi
  have hl := T.le i hi
  by_cases h : t[i].op = 25
  ·obtain ⟨k1, k2, _⟩ := conj_kids T hi h
   rw [conj_two T hi h, List.length_append]
   have c1 := ih _ k1 (by omega)
   have c2 := ih _ k2 (by omega)
   rcases T.kind i hi with ⟨b1, b2, b3, b4, b⟩ | ⟨b0, b1, b2, b3, b⟩ | ⟨b0, b0', b1, b2, a, b3, b4, b⟩
   ·omega
   ·omega
   ·have e1 : t[i].a.toNat = a := by omega
    have e2 : t[i].b.toNat = i - 1 := by omega
    have := T.le (i - 1) (by omega)
    have := T.le a (by omega)
    rw [e1] at c1 ⊢
    rw [e2] at c2 ⊢
    omega
  ·rw [conj_one hi h]
   simp only [List.length_cons, List.length_nil]
   omega
def rootsQ (t : List Nd) : List Nat := if tree1 t = true then conjT t (t.length - 1) else []
theorem roots_lt {t : List Nd} {r : Nat} (h : r ∈ rootsQ t) : tree1 t = true ∧ r < t.length := by
 unfold rootsQ at h
 split at h
 ·rename_i ht
  have T := tre_of ht
  have := (conj_all T (t.length - 1) (by have := T.pos; omega)).1 r h
  have := T.pos
  exact ⟨ht, by omega⟩
 ·simp at h
theorem roots_len {t : List Nd} (hs : smallT t) : (rootsQ t).length ≤ 1099511627776 := by
 unfold rootsQ
 unfold smallT at hs
 split
 ·rename_i ht
  have T := tre_of ht
  have h1 := conj_half T (t.length - 1) (by have := T.pos; omega)
  have := T.pos
  omega
 ·simp
theorem conjs_roots (q : Qu) : conjs q = (rootsQ q.wh).map (subT q.wh) := by
 unfold conjs rootsQ conjW
 split <;> simp
theorem sub_small {t : List Nd} {r : Nat} (ht : tree1 t = true) (hr : r < t.length) (hs : smallT t) : smallT (subT t r) := by
 have T := tre_of ht
 have hl : (subT t r).length = r + 1 - loOf t r := cut_len hr (T.le r hr)
 unfold smallT at *
 omega
theorem ix_is2 {vs : List ByteArray} {z : ByteArray} (h : 0 ≤ ixOf vs z) : ∃ j : Nat, ixOf vs z = j ∧ ∃ hj : j < vs.length, vs.findIdx (· == z) = j ∧ vs[j] = z := by
 unfold ixOf at h ⊢
 split at h
 ·rename_i hl
  refine ⟨_, if_pos hl, hl, rfl, ?_⟩
  have := List.findIdx_getElem (w := hl)
  rw [ba_beq] at this
  exact this
 ·omega
theorem ix_inj {l : List ByteArray} {a b : ByteArray} (ha : 0 ≤ ixOf l a) (h : ixOf l a = ixOf l b) : a = b := by
 obtain ⟨i, h1, h2, h3, h4⟩ := ix_is2 ha
 obtain ⟨j, k1, k2, k3, k4⟩ := ix_is2 (vs := l) (z := b) (by omega)
 have : i = j := by omega
 subst this
 rw [← h4, k4]
theorem nodup_le : ∀ {l : List Nat} {n : Nat}, l.Nodup → (∀ x ∈ l, x < n) → l.length ≤ n
 | l, 0, _, h => by
  cases l with
  | nil => simp
  | cons a r => exact absurd (h a (by simp)) (by omega)
 | l, n + 1, hd, h => by
  have h1 : (l.erase n).length ≤ n := nodup_le (hd.erase n) fun x hx => by
   have h2 := h x (List.mem_of_mem_erase hx)
   have h3 : x ≠ n := fun e => by
    subst e
    exact (List.Nodup.not_mem_erase hd) hx
   omega
  have h4 : l.length - 1 ≤ (l.erase n).length := by rw [List.length_erase]; split <;> omega
  omega
theorem dup_nodup {l : List ByteArray} (h : dupTo l l.length = false) : l.Pairwise (· ≠ ·) := by
 rw [List.pairwise_iff_getElem]
 intro i j hi hj hij e
 unfold dupTo at h
 rw [List.any_eq_false] at h
 refine h j (List.mem_range.2 hj) ?_
 rw [List.any_eq_true]
 refine ⟨l[i], ?_, ?_⟩
 ·rw [List.mem_take_iff_getElem]
  exact ⟨i, by omega, rfl⟩
 ·rw [e, List.getD_eq_getElem?_getD, List.getElem?_eq_getElem hj, Option.getD_some, ba_beq]
theorem types_le {sc : List Ty} {it : It} (h : itemE sc it = 0) : it.types.length ≤ sc.length := by
 obtain ⟨h1, h2, _⟩ := itemE_ok h
 have hd := dup_nodup h2
 have h3 : (it.types.map fun z => (typeOf sc z).toNat).length ≤ sc.length := by
  refine nodup_le ?_ fun x hx => ?_
  ·rw [List.nodup_iff_pairwise_ne, List.pairwise_map]
   refine List.Pairwise.imp_of_mem (fun {a b} ha hb hab e => hab ?_) hd
   have := h1 a ha
   have := h1 b hb
   exact ix_inj (l := sc.map fun x : Ty => x.name) (h1 a ha) (by have e' : (typeOf sc a).toNat = (typeOf sc b).toNat := e; unfold typeOf at *; omega)
  ·obtain ⟨z, hz, rfl⟩ := List.mem_map.1 hx
   have := h1 z hz
   have h4 := (ix_lt (sc.map fun x : Ty => x.name) z).2
   rw [List.length_map] at h4
   unfold typeOf at *
   omega
 rwa [List.length_map] at h3
theorem Wf.short {sc : List Ty} {q : Qu} (W : Wf sc q) : 0 < sc.length ∧ sc.length ≤ 16 ∧ (∀ t ∈ sc, t.attrs.length ≤ 8) ∧ 0 < q.items.length ∧ (∀ it ∈ q.items, it.types.length ≤ 16) := by
 obtain ⟨h1, h2, h3⟩ := sch_ok W.s0
 refine ⟨h1, h2, fun t ht => ?_, ?_, fun it hit => ?_⟩
 ·obtain ⟨i, hi, rfl⟩ := List.mem_iff_getElem.1 ht
  have h4 := (schE_ok (h3 i hi)).2.2.1
  rwa [List.getD_eq_getElem?_getD, List.getElem?_eq_getElem hi, Option.getD_some] at h4
 ·have h5 := W.sh
  simp only [shQ, Bool.and_eq_true, decide_eq_true_eq] at h5
  omega
 ·obtain ⟨i, hi, rfl⟩ := List.mem_iff_getElem.1 hit
  have h6 := types_le (itE_ok (W.it i hi)).1
  rw [List.getD_eq_getElem?_getD, List.getElem?_eq_getElem hi, Option.getD_some] at h6
  omega
theorem c35 {h : Heap} {n : Nat} {a : AV} {t : List Nd} (e1 : rd dNs h a = some t) (hsm : smallT t) (hn : Fresh n h) :
  ACall (cx [3] (pfL tb51)) 35 [a] h n fun z h' n' => agree n h h' ∧ Fresh n' h' ∧ n ≤ n' ∧ rd dIs (wtn n n' h') z = some ((rootsQ t).map fun x : Nat => (x : Int)) := by
 cases ht : tree1 t with
 | true =>
  refine (c51 e1 ht hsm hn).mono ?_
  rintro z h' n' ⟨a1, a2, a3, w, u, rfl, hw, w1, w2⟩
  refine ⟨a1, a2, a3, ?_⟩
  rw [rootsQ, if_pos ht]
  generalize conjT t (t.length - 1) = l at *
  have := flat_in (h := wtn n n' h') Flat.int (l := l.map fun x : Nat => (x : Int)) (id := w) (ver := u) (k := ⟨l.map fun x : Nat => ii x, u, true, 1⟩) (by rw [wtn_at w1 w2]; exact hw) rfl (r := []) (by rw [List.append_nil, ← map_flat, List.map_map]; rfl)
  rwa [List.length_map] at this
 | false =>
  refine acall_of_awp (args := [a]) (pfL_ok (tb_cons P70 tb_nil)) (mixed _ _) Tryz.func35 (c := Tryz.f35.body.getD .skip) rfl (by kernel_rfl) (callable Tryz.func35 rfl rfl _ _) (show 1 ≤ Tryz.f35.ntmps by decide +kernel) ?_
  obtain ⟨s1, s2, s3, s4, s5⟩ := sl_is e1
  have g1 : ∀ h', agree n h h' → rd dNs h' a = some t := fun h' ha => rd_agr hn e1 h' ha
  have key : ∀ e : Nat → AV, e 0 = a → awp (cx [3] (pfL tb51)) (Tryz.f35.body.getD .skip) (finQ (cx [3] (pfL tb51)) Tryz.f35 fun z h' n' => agree n h h' ∧ Fresh n' h' ∧ n ≤ n' ∧ rd dIs (wtn n n' h') z = some ((rootsQ t).map fun x : Nat => (x : Int))) ⟨e, h, n⟩ := fun e q0 => by
   simp [evx, Tryz.f35, q0, s4, s5, tb51, G70, pureH, deT, g1, agree_up, agree_refl, hsm, ht, bv, fresh_up, hn.add, rootsQ]
   rfl
  exact key _ rfl
end Go.Proofs.YtbffkkeieihpdaaGreatDoor

namespace Go.Proofs.YtbffkkeieihpdaaGreatDoor
open Go Go.Eng
theorem ns_getD {h : Heap} {a : AV} {l : List Nd} (e : rd dNs h a = some l) {i : Nat} (hi : i < l.length) : ∃ id off k, a = .s id k.ver off l.length ∧ h id = some k ∧ off + l.length * 6 ≤ k.cells.length ∧
  k.cells[off + i * 6]? = some (ii (l.getD i nd0).op) ∧ k.cells[off + (i * 6 + 1)]? = some (ii (l.getD i nd0).n) ∧ k.cells[off + (i * 6 + 2)]? = some (ss (l.getD i nd0).var) ∧ k.cells[off + (i * 6 + 3)]? = some (ss (l.getD i nd0).attr) ∧
  k.cells[off + (i * 6 + 4)]? = some (ii (l.getD i nd0).a) ∧ k.cells[off + (i * 6 + 5)]? = some (ii (l.getD i nd0).b) := by
 rcases ns_at e with ⟨h0, _⟩ | ⟨id, off, k, h1, h2, h3, h4⟩
 ·rw [h0] at hi; simp at hi
 ·have h5 := h4 i hi
  have c0 := cell_of (c := 0) h5 rfl (by omega)
  have c1 := cell_of (c := 1) h5 rfl (by omega)
  have c2 := cell_of (c := 2) h5 rfl (by omega)
  have c3 := cell_of (c := 3) h5 rfl (by omega)
  have c4 := cell_of (c := 4) h5 rfl (by omega)
  have c5 := cell_of (c := 5) h5 rfl (by omega)
  simp only [Nat.add_zero] at c0
  rw [Nat.add_assoc] at c1 c2 c3 c4 c5
  rw [getD_at hi]
  exact ⟨id, off, k, h1, h2, h3, c0, c1, c2, c3, c4, c5⟩
def okKind (q : List Nd × Nd) : Prop := smallT q.1 ∧ q.2.a < q.1.length ∧ q.2.b < q.1.length
def GKind := pureH (de2 (rL dNs) rN) okKind fun q => bv (kinB q.1 q.2)
def tbKind : List (FuncId × (List AV → Heap → PRes)) := [(200, g92)]
section
theorem P199 : P0 [] 199 GKind := by
 refine mkH 2 (S := []) (l := tbKind) (tb_cons p73 tb_nil) Tryz.func199 rfl (by kernel_rfl) de2_mono de2_len (fun a => rfl) (fun args q h n e hp hn => ?_)
 obtain ⟨ta, d, rfl, e1, e2⟩ := de2_out e
 obtain ⟨t, x⟩ := q
 obtain ⟨hsm, hla, hlb⟩ := hp
 replace e1 : rd dNs h ta = some t := e1
 simp only [] at e2 hsm hla hlb ⊢
 have := rN_out e2; subst this
 obtain ⟨s1, s2, s3, s4, s5⟩ := sl_is e1
 obtain ⟨op, num, var, attr, na, nb⟩ := x
 simp only [] at hla hlb
 have hw13 : wantsT op = decide (op = 13 ∨ op = 25 ∨ op = 26) := rfl
 generalize hwn : wantsT op = w at *
 have hk1 : kinB t ⟨op, num, var, attr, na, nb⟩ = (kidB t ⟨op, num, var, attr, na, nb⟩ na && kidB t ⟨op, num, var, attr, na, nb⟩ nb) := rfl
 have hkid : ∀ k : Int, kidB t ⟨op, num, var, attr, na, nb⟩ k = (decide (k < 0) || (truthO (t.getD k.toNat nd0).op == w)) := fun k => by unfold kidB; rw [← hwn]
 generalize kinB t ⟨op, num, var, attr, na, nb⟩ = kb at *
 rw [hkid na, hkid nb] at hk1
 clear hkid
 have w1 : IntKind.i64.wrap 1 = 1 := by decide
 have w2 : IntKind.i64.wrap 2 = 2 := by decide
 obtain ⟨kA, hA⟩ : ∃ kA, (decide (na < 0) || (truthO (t.getD na.toNat nd0).op == w)) = kA := ⟨_, rfl⟩
 obtain ⟨kB, hB⟩ : ∃ kB, (decide (nb < 0) || (truthO (t.getD nb.toNat nd0).op == w)) = kB := ⟨_, rfl⟩
 rw [hA, hB] at hk1
 have one : ∀ (k : Int), k < t.length → 0 ≤ k → ∃ id off kk, ta = .s id kk.ver off t.length ∧ h id = some kk ∧ off + (k.toNat * 6 + 1) ≤ kk.cells.length ∧ kk.cells[off + k.toNat * 6]? = some (.v (.int .i64 (t.getD k.toNat nd0).op)) := fun k h1 h2 => by
  obtain ⟨id, off, kk, h3, h4, h5, h6, _⟩ := ns_getD e1 (i := k.toNat) (by omega)
  exact ⟨id, off, kk, h3, h4, by omega, h6⟩
 have key : ∀ e : Nat → AV, e 0 = ta → e 1 = .g [ii op, ii num, ss var, ss attr, ii na, ii nb] → awp (cx [] (pfL tbKind)) (Tryz.f199.body.getD .skip) (finQ (cx [] (pfL tbKind)) Tryz.f199 fun z _ _ => z = bv kb) ⟨e, roH h, n⟩ := fun e q0 q1 => by
  refine awp_cut 2 _ _ (R := fun s => s.e 0 = ta ∧ s.e 3 = .p n 0 0 ∧ s.e 5 = bv w ∧ agree n (roH h) s.h ∧ s.h n = some ⟨[ii op, ii num, ss var, ss attr, ii na, ii nb], 0, true, 6⟩) ?_ fun y1 h1 n1 hh => ?_
  ·by_cases c1 : op = 13 <;> by_cases c2 : op = 25 <;> by_cases c3 : op = 26 <;> simp [evx, hdC, Tryz.f199, q0, q1, ii, ss, bv, c1, c2, c3, hw13] <;> simp [agree_up, agree_refl]
  obtain ⟨q0, q3, q5, hag, hb0⟩ := hh
  simp only [ii, ss, bv] at q0 q3 q5 hag hb0
  simp [evx, tlC, Tryz.f199, q3, hb0, bv]
  refine awp_loop (fun s => ∃ j : Nat, j ≤ 2 ∧ s.e 0 = ta ∧ s.e 5 = bv w ∧ s.e 25 = .g [ii na, ii nb] ∧ s.e 26 = ii j ∧ agree n (roH h) s.h ∧ (0 < j → kA = true) ∧ (1 < j → kB = true)) (fun s => 2 - (s.e 26).i.toNat) ⟨0, by omega, by simp [up, q0], by simp [up, q5, bv], by simp [up, ii], by simp [up, ii], hag, by omega, by omega⟩ ?_
  rintro e' h' n' ⟨j, hj, q0, q5, q25, q26, hag, k0, k1⟩
  simp only [ii, bv] at q0 q5 q25 q26 hag
  have hc : j = 0 ∨ j = 1 ∨ j = 2 := by omega
  rcases hc with rfl | rfl | rfl
  ·by_cases hneg : na < 0
   ·have h0 : ¬ 0 ≤ na := by omega
    have hkA : kA = true := by rw [← hA]; simp [hneg]
    simp [evx, q0, q5, q25, q26, ii, bv, h0, w1]
    exact ⟨1, by omega, by simp, hag, fun _ => hkA, by omega⟩
   ·have h0 : 0 ≤ na := by omega
    obtain ⟨id, off, kk, rfl, hk, ho, hc⟩ := one na hla h0
    have ha' := agree_at hn hk hag
    generalize (t.getD na.toNat nd0).op = oa at *
    cases hy : (truthO oa == w) with
    | true =>
     have hy2 : truthO oa = w := by simpa using hy
     have hkA : kA = true := by rw [← hA, hy]; simp
     simp [evx, q0, q5, q25, q26, ii, bv, h0, hla, ha', hc, ho, tbKind, g92, pure1, deI, hy2, w1]
     exact ⟨1, by omega, by simp, hag, fun _ => hkA, by omega⟩
    | false =>
     have hkb : kb = false := by rw [hk1, ← hA, hy]; simp [hneg]
     have hy3 : ¬ truthO oa = w := by simpa using hy
     simp [evx, q0, q5, q25, q26, ii, bv, h0, hla, ha', hc, ho, tbKind, g92, pure1, deI, hy3, hkb]
  ·have k0 := k0 (by omega)
   by_cases hneg : nb < 0
   ·have h0 : ¬ 0 ≤ nb := by omega
    have hkB : kB = true := by rw [← hB]; simp [hneg]
    simp [evx, q0, q5, q25, q26, ii, bv, h0, w2]
    exact ⟨2, by omega, by simp, hag, fun _ => k0, fun _ => hkB⟩
   ·have h0 : 0 ≤ nb := by omega
    obtain ⟨id, off, kk, rfl, hk, ho, hc⟩ := one nb hlb h0
    have ha' := agree_at hn hk hag
    generalize (t.getD nb.toNat nd0).op = ob at *
    cases hy : (truthO ob == w) with
    | true =>
     have hy2 : truthO ob = w := by simpa using hy
     have hkB : kB = true := by rw [← hB, hy]; simp
     simp [evx, q0, q5, q25, q26, ii, bv, h0, hlb, ha', hc, ho, tbKind, g92, pure1, deI, hy2, w2]
     exact ⟨2, by omega, by simp, hag, fun _ => k0, fun _ => hkB⟩
    | false =>
     have hkb : kb = false := by rw [hk1, ← hB, hy]; simp [hneg]
     have hy3 : ¬ truthO ob = w := by simpa using hy
     simp [evx, q0, q5, q25, q26, ii, bv, h0, hlb, ha', hc, ho, tbKind, g92, pure1, deI, hy3, hkb]
  ·have k0 := k0 (by omega)
   have k1 := k1 (by omega)
   have hkb : kb = true := by rw [hk1, k0, k1]; rfl
   simp [evx, q26, ii, bv, hkb]
 exact key _ rfl rfl
def okWalk (q : List Nd × Bool × Ask) : Prop := smallT q.1 ∧ tree1 q.1 = true ∧ okAsk q.2.2
def walkA (q : Int × Int) : AV := .t [ii q.1, ii q.2]
def GWalk := pureH (de2 (rL dNs) rFn) okWalk fun q => walkA (wlk q.2.2.1 q.2.2.2.1 q.1 q.2.1)
def tbWalk : List (FuncId × (List AV → Heap → PRes)) := [(199, GKind)]
theorem P154 : P0 [] 154 GWalk := by
 refine mkH 2 (S := []) (l := tbWalk) (tb_cons P199 tb_nil) Tryz.func154 rfl (by kernel_rfl) de2_mono de2_len (fun a => rfl) (fun args q h n e hp hn => ?_)
 obtain ⟨ta, f, rfl, e1, e2⟩ := de2_out e
 obtain ⟨t, b, x⟩ := q
 obtain ⟨hsm, ht, hak⟩ := hp
 replace e1 : rd dNs h ta = some t := e1
 simp only [] at e2 hsm ht hak ⊢
 obtain ⟨p, rfl, e3⟩ := rFn_out e2
 simp only [] at e3
 obtain ⟨s1, s2, s3, s4, s5⟩ := sl_is e1
 have g1 := rd_agree hn e1
 have g3 := (rAt (rC rAsk)).agree hn e3
 have T := tre_of ht
 have hsm' : t.length * 64 ≤ 140737488355328 := hsm
 have hwd : wlk x.1 x.2.1 t b = fstI (nodE x.1 x.2.1 t b) t.length := rfl
 have key : ∀ e : Nat → AV, e 0 = ta → e 1 = .f (.func (if b = true then 158 else 155)) [] [p] → awp (cx [] (pfL tbWalk)) (Tryz.f154.body.getD .skip) (finQ (cx [] (pfL tbWalk)) Tryz.f154 fun z _ _ => z = walkA (wlk x.1 x.2.1 t b)) ⟨e, roH h, n⟩ := fun e q0 q1 => by
  simp [evx, Tryz.f154, q0, s1, s2]
  refine awp_loop (fun s => ∃ j : Nat, j ≤ t.length ∧ s.e 0 = ta ∧ s.e 1 = .f (.func (if b = true then 158 else 155)) [] [p] ∧ s.e 9 = ta ∧ s.e 10 = ii t.length ∧ s.e 11 = ii j ∧ agree n (roH h) s.h ∧ n ≤ s.n ∧ Fresh s.n s.h ∧ ∀ i, i < j → nodE x.1 x.2.1 t b i = 0) (fun s => t.length - (s.e 11).i.toNat) ⟨0, by omega, by simp [up, q0], by simp [up, q1], by simp [up], by simp [up, ii], by simp [up, ii], agree_refl _ _, by simp, fun i hi => by simp [roH, hn i hi], by omega⟩ ?_
  rintro e' h' n' ⟨j, hj, q0, q1, q9, q10, q11, hag, hnn, hfr, hno⟩
  simp only [] at q0 q1 q9 q10 q11 hag hnn hfr
  by_cases hlt : j < t.length
  ·have hkd := T.kind j hlt
   rw [← getD_at hlt] at hkd
   obtain ⟨id, off, k, rfl, hk, ho, c0, c1, c2, c3, c4, c5⟩ := ns_getD e1 hlt
   have ha' := agree_at hn hk hag
   have hw := wrap_nat (j := j) (by unfold big; omega)
   have hw1 : off + (j * 6 + 6) ≤ k.cells.length := by omega
   have hmiss := fun hy => upTo_succ (p := fun i => nodE x.1 x.2.1 t b i = 0) hno hy
   have hhit := fun hy : nodE x.1 x.2.1 t b j ≠ 0 => fstI_at (f := nodE x.1 x.2.1 t b) hno hy hlt
   have hE : nodE x.1 x.2.1 t b j = if mentE x.1 x.2.1 b (t.getD j nd0) ≠ 0 then mentE x.1 x.2.1 b (t.getD j nd0) else if kinB t (t.getD j nd0) = true then 0 else 75 := rfl
   have hjn : ((t.length - 1 : Nat) : Int) < t.length := by omega
   have hab : (t.getD j nd0).a < t.length ∧ (t.getD j nd0).b < t.length := by
    rcases hkd with ⟨_, _, a1, a2, _⟩ | ⟨_, _, a1, a2, _⟩ | ⟨_, _, _, a1, a, a2, a3, a4⟩
    ·omega
    ·omega
    ·have := T.le (j - 1) (by omega); omega
   generalize hnd : t.getD j nd0 = nd at *
   obtain ⟨op, num, var, attr, na, nb⟩ := nd
   simp only [ii, ss] at c0 c1 c2 c3 c4 c5
   simp only [] at hab
   have zi : ¬ id = n' := by have := lt_of hk hn; omega
   have hag2 : ∀ b1 b2, agree n (roH h) (up (up h' n' b1) n' b2) := fun b1 b2 => by simp [agree_up, hnn, hag]
   have hfr2 : ∀ b1 b2, Fresh (n' + 2) (up (up h' n' b1) n' b2) := fun b1 b2 => by simp [fresh_up, hfr.add]
   have K := cFn (S := []) (pf := pfL tbWalk) (n := n' + 2) (nd := ⟨op, num, var, attr, na, nb⟩) (x := (b, x)) (g3 _ (hag2 (some ⟨[.v (.int .i64 0), .v (.int .i64 0), .v (.string ByteArray.empty), .v (.string ByteArray.empty), .v (.int .i64 0), .v (.int .i64 0)], 0, true, 6⟩) (some ⟨[.v (.int .i64 op), .v (.int .i64 num), .v (.string var), .v (.string attr), .v (.int .i64 na), .v (.int .i64 nb)], 0, true, 6⟩))) hak
   simp only [nn, ncells, ii, ss] at K hE
   generalize hme : mentE x.1 x.2.1 b ⟨op, num, var, attr, na, nb⟩ = me at *
   cases b <;> simp only [Bool.false_eq_true, if_false, if_true] at q1 K
   all_goals
    simp [evx, ldcs_6, q0, q1, q9, q10, q11, ii, hlt, ha', c0, c1, c2, c3, c4, c5, hw1, tbWalk]
    refine (acall_any (S := []) (by simp) K).mono ?_
    rintro v h2 n2 ⟨rfl, rfl, rfl⟩
    by_cases hm : me = 0
    ·rw [if_neg (not_not_intro hm)] at hE
     cases hkb : kinB t ⟨op, num, var, attr, na, nb⟩ with
     | true =>
      rw [hkb, if_pos rfl] at hE
      have h3 := hmiss hE
      simp [evx, hm, GKind, pureH, de2, rL, rN, deN, deNc, g1 _ (hag2 _ _), okKind, hsm, hab, hkb, bv, hw]
      exact ⟨⟨j + 1, by omega, by omega, hag2 _ _, by omega, hfr2 _ _, h3⟩, by omega⟩
     | false =>
      rw [hkb, if_neg (by simp)] at hE
      have h3 := hhit (by rw [hE]; decide)
      simp [evx, ii, hm, GKind, pureH, de2, rL, rN, deN, deNc, g1 _ (hag2 _ _), okKind, hsm, hab, hkb, bv, walkA, hwd, h3, hE]
    ·rw [if_pos hm] at hE
     have h3 := hhit (by rw [hE]; exact hm)
     simp [evx, ii, hm, walkA, hwd, h3, hE]
  ·obtain rfl : j = t.length := by omega
   have h3 := fstI_none hno
   simp [evx, q10, q11, ii, walkA, hwd, h3]
 exact key _ rfl rfl
end
end Go.Proofs.YtbffkkeieihpdaaGreatDoor
