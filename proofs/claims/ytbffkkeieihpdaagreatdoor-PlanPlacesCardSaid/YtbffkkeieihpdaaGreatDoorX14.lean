import Derived.Test.YtbffkkeieihpdaaGreatDoorX13
import Derived.Test.YtbffkkeieihpdaaGreatDoorX11
import Derived.Test.YtbffkkeieihpdaaGreatDoorX10
import Derived.WalkKit
import Derived.Laws.IdiomStrings
set_option linter.unusedSimpArgs false
set_option linter.unusedVariables false
set_option linter.constructorNameAsVariable false
set_option maxRecDepth 100000
set_option maxHeartbeats 4000000
namespace Go.Proofs.YtbffkkeieihpdaaGreatDoor
open Go Go.Eng
def okL (q : List Ev × List Int × Int) : Prop := q.1.length ≤ 2147483647 ∧ q.2.1.length < big ∧ ∀ e ∈ q.1, EvOk e
def de102 (h : Heap) : List AV → Option (List Ev × List Int × Int)
 | [a, c, .v (.int .i64 o)] => match rd dEs h a, rd dIs h c with
  | some l, some col => some (l, col, o)
  | _, _ => none
 | _ => none
theorem de102_out {h : Heap} {args : List AV} {q : List Ev × List Int × Int} (e : de102 h args = some q) : ∃ a c, args = [a, c, ii q.2.2] ∧ rd dEs h a = some q.1 ∧ rd dIs h c = some q.2.1 := by
 unfold de102 at e
 split at e
 ·split at e
  ·rename_i e1 e3
   cases e
   exact ⟨_, _, rfl, e1, e3⟩
  ·cases e
 ·cases e
theorem de102_mono (h h' : Heap) (args : List AV) (q : List Ev × List Int × Int) (hh : h.le h') (e : de102 h args = some q) : de102 h' args = some q := by
 obtain ⟨a, c, rfl, e1, e3⟩ := de102_out e
 simp only [de102, rd_mono hh e1, rd_mono hh e3, ii]
def g102 := pureH de102 okL fun q => vv (allV q.1 q.2.1 q.2.2)
theorem colN_ints (l : List Ev) (c : List Int) (j : Nat) : (colN l c (j + 1)).map ii = (colN l c j).map ii ++ [ii (oneV l (j : Int) c).n] := by rw [colN_succ]; simp
theorem all_no {l : List Ev} {c : List Int} {j : Nat} (op : Int) (hj : j < l.length) (h : (oneV l (j : Int) c).k = false) : allV l c op = unk := by
 have : knownTo l c (j + 1) = false := by rw [knownTo_succ, h, Bool.and_false]
 unfold allV
 rw [if_neg fun e => by rw [knownTo_le (by omega) e] at this; cases this]
theorem all_yes {l : List Ev} {c : List Int} (op : Int) (h : knownTo l c l.length = true) : allV l c op = foldG sumL op (colN l c l.length) := if_pos h
def tb102 : List (FuncId × (List AV → Heap → PRes)) := [(184, g101), (213, g33)]
theorem p102 : P0 [1] 185 g102 := by
 refine mkH 3 (S := [1]) (l := tb102) (tb_cons p101 (tb_cons p33 tb_nil)) Tryz.func185 rfl (by kernel_rfl) de102_mono (fun h l x e => by obtain ⟨a, c, rfl, _⟩ := de102_out e; exact Nat.le_refl _) (fun a => rfl) (fun args q h n e hp hn => ?_)
 obtain ⟨l, c', op⟩ := q
 obtain ⟨a, c, rfl, e1, e3⟩ := de102_out e
 obtain ⟨hl, hc, hev⟩ := hp
 simp only [] at e1 e3 hl hc hev ⊢
 obtain ⟨s1, s2, s3, s4, s5⟩ := sl_is e1
 obtain ⟨t1, t2, t3, t4, t5⟩ := sl_is e3
 have key : ∀ e : Nat → AV, e 0 = a → e 1 = c → e 2 = ii op → awp (cx [1] (pfL tb102)) (Tryz.f185.body.getD .skip) (finQ (cx [1] (pfL tb102)) Tryz.f185 fun z _ _ => z = vv (allV l c' op)) ⟨e, roH h, n⟩ := fun e q0 q1 q2 => by
  have hb1 : (8 : Int) * (l.length : Int) ≤ 281474976710656 := by omega
  have hb2 : (l.length : Int) ≤ 9223372036854775807 := by omega
  simp [evw, Tryz.f185, q0, s1, s2, hb1, hb2]
  refine awp_loop (fun s => ∃ j, j ≤ l.length ∧ s.e 0 = a ∧ s.e 1 = c ∧ s.e 2 = ii op ∧ s.e 6 = .p n 0 0 ∧ s.e 7 = .s (n + 1) j 0 j ∧ s.e 14 = ii l.length ∧ s.e 15 = ii j ∧ agree n (roH h) s.h ∧ s.h n = some ⟨[.v (.bool false), .v (.int .i64 0)], 0, true, 2⟩ ∧ s.h (n + 1) = some ⟨(colN l c' j).map ii, j, true, 1⟩ ∧ n + 2 ≤ s.n ∧ knownTo l c' j = true) (fun s => l.length - (s.e 15).i.toNat) ⟨0, by simp [up, q0, q1, q2, ii, agree_up, agree_refl, colN, knownTo]⟩ ?_
  rintro e' h' n' ⟨j, hj, q0, q1, q2, q6, q7, q14, q15, hag, hr, hk, hnn, hkn⟩
  simp only [] at q0 q1 q2 q6 q7 q14 q15 hag hr hk hnn
  have f1 : n ≤ n' := by omega
  have f2 : n ≤ n' + 1 := by omega
  have f3 : n ≤ n' + 2 := by omega
  have z1 : ¬ n = n' := by omega
  have z2 : ¬ n = n' + 1 := by omega
  have z3 : ¬ n = n' + 2 := by omega
  have z4 : ¬ n + 1 = n' := by omega
  have g1 := rd_agree hn e1
  have g3 := rd_agree hn e3
  by_cases hlt : j < l.length
  ·have hw := wrap_nat (j := j) (by unfold big; omega)
   have hsm : smallH (l, (j : Int), c') := ⟨by simp only [big]; omega, hc⟩
   have hcn := colN_ints l c' j
   have hcl : ((colN l c' j).map ii).length = j := by rw [List.length_map, colN_len]
   generalize hx : oneV l (j : Int) c' = x at *
   generalize (colN l c' j).map ii = cs at *
   have hb3 : (j + 1) * 8 ≤ 140737488355328 := by omega
   have hb4 : j + 1 ≤ 9223372036854775807 := by omega
   cases hxk : x.k with
   | false =>
    have ha := all_no op hlt (by rw [hx]; exact hxk)
    have hu : x = unk := by rw [← hx]; exact oneV_unk (by rw [hx]; exact hxk)
    subst hu
    simp [evw, q0, q1, q6, q14, q15, ii, hlt, tb102, g101, pureH, de101, g1, g3, hag, hsm, hx, vv, unk, z1, hr, ha]
   | true =>
    simp [evw, q0, q1, q2, q6, q7, q14, q15, ii, hlt, tb102, g101, pureH, de101, g1, g3, hag, agree_up, f1, f3, hsm, hx, vv, z1, z2, z3, z4, hr, hk, hxk, hcl, hb3, hb4, hw]
    exact ⟨⟨j + 1, by omega, rfl, by omega, ⟨by rw [hcn]; rfl, rfl⟩, by rw [knownTo_succ, hkn, hx, hxk]; rfl⟩, by omega⟩
  ·have hje : j = l.length := by omega
   subst hje
   have hay := all_yes op hkn
   have hcl : (colN l c' l.length).length = l.length := colN_len ..
   have hlb : l.length < big := by unfold big; omega
   have hdi : deIs (List.take l.length ((colN l c' l.length).map ii)) = some (colN l c' l.length) := by
    rw [List.take_of_length_le (by rw [List.length_map, hcl]; exact Nat.le_refl _), deIs_ii]
   generalize colN l c' l.length = cn at *
   simp [evw, q2, q6, q7, q14, q15, ii, tb102, g33, pureAL, deI, ints, vv, hr, hk, hay, hcl, hlb, hdi]
 exact key _ rfl rfl rfl
end Go.Proofs.YtbffkkeieihpdaaGreatDoor

namespace Go.Proofs.YtbffkkeieihpdaaGreatDoor
open Go Go.Eng
structure EnOk (e : En) : Prop where
 len : ∀ l ∈ e.ls, l.length ≤ 2147483647
 ev : ∀ l ∈ e.ls, ∀ x ∈ l, EvOk x
 pos : Rng e.pos
theorem listAt_mem {ls : List (List Ev)} {P : List Ev → Prop} (h0 : P []) (h : ∀ l ∈ ls, P l) (i : Int) : P (listAt ls i) := by
 unfold listAt
 split
 ·exact h0
 ·rw [List.getD_eq_getElem?_getD]
  cases e : ls[i.toNat]? with
  | none => exact h0
  | some l => exact h l (List.mem_of_getElem? e)
theorem EnOk.lenAt {e : En} (h : EnOk e) (i : Int) : (listAt e.ls i).length ≤ 2147483647 := listAt_mem (P := fun l => l.length ≤ 2147483647) (by simp) h.len i
theorem EnOk.evAt {e : En} (h : EnOk e) (i : Int) : ∀ x ∈ listAt e.ls i, EvOk x := listAt_mem (P := fun l => ∀ x ∈ l, EvOk x) (by simp) h.ev i
def okM (q : Ins × List Int × En) : Prop := (1 ≤ q.1.code ∧ q.1.code ≤ 9) ∧ q.2.1.length < big ∧ EnOk q.2.2
def de61 (h : Heap) : List AV → Option (Ins × List Int × En)
 | [i, c, e] => match deIns i, rd dIs h c, deEn h e with
  | some i, some c, some e => some (i, c, e)
  | _, _, _ => none
 | _ => none
theorem de61_out {h : Heap} {args : List AV} {q : Ins × List Int × En} (e : de61 h args = some q) : ∃ c x, args = [iv q.1, c, x] ∧ rd dIs h c = some q.2.1 ∧ deEn h x = some q.2.2 := by
 unfold de61 at e
 split at e
 ·split at e
  ·rename_i e1 e2 e3
   cases e
   exact ⟨_, _, by rw [deIns_out e1], e2, e3⟩
  ·cases e
 ·cases e
theorem deIns_in (i : Ins) : deIns (.g (icells i)) = some i := rfl
theorem de61_mono (h h' : Heap) (args : List AV) (q : Ins × List Int × En) (hh : h.le h') (e : de61 h args = some q) : de61 h' args = some q := by
 obtain ⟨c, x, rfl, e1, e2⟩ := de61_out e
 simp only [de61, iv, deIns_in, rd_mono hh e1, deEn_sim hh.sim e2]
def g61m := pureH de61 okM fun q => vv (mentionV q.1 q.2.1 q.2.2)
theorem li_facts {h : Heap} {n : Nat} (hn : ∀ i, n ≤ i → h i = none) {a : AV} {e : En} (e1 : rd dEss h a = some e.ls) (item : Int) : ∃ c, (∀ h', agree n (roH h) h' → deLI h' [.g [a, .v (.int .i64 e.each), .v (.int .i64 e.pos)], .v (.int .i64 item)] = some (e, item) ∧ fLI h' [.g [a, .v (.int .i64 e.each), .v (.int .i64 e.pos)], .v (.int .i64 item)] (e, item) = c) ∧
  (∀ h', agree n (roH h) h' → rd dEs h' c = some (listAt e.ls item)) ∧ c.isS ∧ c.slen = (listAt e.ls item).length ∧ (∀ g, AV.unc g c = c) ∧ c.one ∧ c.cells = [c] := by
 have hq : deLI h [.g [a, .v (.int .i64 e.each), .v (.int .i64 e.pos)], .v (.int .i64 item)] = some (e, item) := by simp only [deLI, deEn_in e1, Option.map_some]
 have hr := fLI_rd hq
 have hat : ∀ h', agree n (roH h) h' → ∀ i, cellAt h' a i = cellAt h a i := fun h' ha i => by
  rcases sl_at e1 with ⟨_, rfl | rfl⟩ | ⟨id, off, k, rfl, h2, _⟩
  ·rfl
  ·rfl
  ·simp only [cellAt, h2, agree_at hn h2 ha]
 refine ⟨_, fun h' ha => ⟨?_, ?_⟩, fun h' ha => rd_agree hn hr h' ha, sl_is hr⟩
 ·simp only [deLI, deEn_in (rd_agree hn e1 h' ha), Option.map_some]
 ·simp only [fLI]
  rw [hat h' ha]
def tb61 : List (FuncId × (List AV → Heap → PRes)) := [(89, G65), (184, g101), (185, g102)]
theorem p61m : P0 [1] 142 g61m := by
 refine mkH 3 (S := [1]) (l := tb61) (tb_cons P65 (tb_cons p101 (tb_cons p102 tb_nil))) Tryz.func142 rfl (by kernel_rfl) de61_mono (fun h l x e => by obtain ⟨a, c, rfl, _⟩ := de61_out e; exact Nat.le_refl _) (fun a => rfl) (fun args q h n e hp hn => ?_)
 obtain ⟨⟨code, item, icol, iN, ito⟩, col, ⟨ls, each, pos⟩⟩ := q
 obtain ⟨c, x, rfl, e1, e2⟩ := de61_out e
 obtain ⟨hcode, hc, hen⟩ := hp
 obtain ⟨a, rfl, e3⟩ := deEn_out e2
 simp only [] at e1 e2 e3 hcode hc hen ⊢
 obtain ⟨s1, s2, s3, s4, s5⟩ := sl_is e3
 obtain ⟨t1, t2, t3, t4, t5⟩ := sl_is e1
 obtain ⟨cl, f1, f2, u1, u2, u3, u4, u5⟩ := li_facts (e := ⟨ls, each, pos⟩) hn e3 item
 simp only [] at f1 f2 u1 u2 u3 u4 u5
 have f0 := fun h' ha => (f1 h' ha).1
 replace f1 := fun h' ha => (f1 h' ha).2
 have hlen := hen.lenAt item
 have hev := hen.evAt item
 have hpos := hen.pos
 simp only [] at hlen hev hpos
 have hsm : ∀ i : Int, smallH (listAt ls item, i, col) := fun i => ⟨by simp only [big]; omega, hc⟩
 have hok : okL (listAt ls item, col, code + 1) := ⟨hlen, hc, hev⟩
 have g1 := rd_agree hn e1
 have v1 : n ≤ n + 1 := by omega
 have v2 : n ≤ n + 2 := by omega
 have v3 : n ≤ n + 3 := by omega
 have hw1 : IntKind.i64.wrap (6 + IntKind.i64.wrap (code - 5)) = code + 1 := by
  have h1 : IntKind.i64.wrap (code - 5) = code - 5 := W_id (by unfold Rng; omega)
  rw [h1]
  have h2 : IntKind.i64.wrap (6 + (code - 5)) = 6 + (code - 5) := W_id (by unfold Rng; omega)
  rw [h2]
  omega
 unfold Rng at hpos
 by_cases c4 : code = 4
 ·subst c4
  simp [evw, iv, icells, ii, vv, mentionV, knownV, tb61, G65, pureS, f0, f1, agree_up, agree_refl, v1, v2, s4, u1, u2]
 by_cases c3 : code = 3
 ·subst c3
  by_cases ht : item = each ∧ 0 ≤ item
  ·obtain ⟨rfl, ht2⟩ := ht
   by_cases hp1 : 1 ≤ pos
   ·have hw2 : IntKind.i64.wrap (pos - 1) = pos - 1 := W_id (by unfold Rng; omega)
    have hp2 : ¬ pos < 1 := by omega
    simp [evw, iv, icells, ii, vv, mentionV, tb61, G65, pureS, f0, f1, agree_up, agree_refl, v1, v2, s4, ht2, hp1, hp2, hw2, g101, pureH, de101, f2, g1, hsm]
   ·have hp2 : pos < 1 := by omega
    simp [evw, iv, icells, ii, vv, mentionV, unk, tb61, G65, pureS, f0, f1, agree_up, agree_refl, v1, v2, s4, ht2, hp1, hp2, g101]
  ·by_cases ht3 : item = each
   ·have ht2 : ¬ 0 ≤ item := fun h => ht ⟨ht3, h⟩
    subst ht3
    simp [evw, iv, icells, ii, vv, mentionV, unk, tb61, G65, pureS, f0, f1, agree_up, agree_refl, v1, v2, s4, ht2, g101]
   ·simp [evw, iv, icells, ii, vv, mentionV, unk, tb61, G65, pureS, f0, f1, agree_up, agree_refl, v1, v2, s4, ht3, g101]
 by_cases c2 : code = 2
 ·subst c2
  by_cases ht : item = each ∧ 0 ≤ item
  ·obtain ⟨rfl, ht2⟩ := ht
   simp [evw, iv, icells, ii, vv, mentionV, tb61, G65, pureS, f0, f1, agree_up, agree_refl, v1, v2, s4, ht2, g101, pureH, de101, f2, g1, hsm]
  ·by_cases ht3 : item = each
   ·have ht2 : ¬ 0 ≤ item := fun h => ht ⟨ht3, h⟩
    subst ht3
    simp [evw, iv, icells, ii, vv, mentionV, tb61, G65, pureS, f0, f1, agree_up, agree_refl, v1, v2, s4, ht2, g101, pureH, de101, f2, g1, hsm]
   ·simp [evw, iv, icells, ii, vv, mentionV, tb61, G65, pureS, f0, f1, agree_up, agree_refl, v1, v2, s4, ht3, g101, pureH, de101, f2, g1, hsm]
 simp [evw, iv, icells, ii, vv, mentionV, tb61, G65, pureS, f0, f1, agree_up, agree_refl, v1, v2, s4, c4, c3, c2, hw1, g102, pureH, de102, f2, g1, hok]
 try (by_cases ht : item = each <;> simp [ht])
end Go.Proofs.YtbffkkeieihpdaaGreatDoor

namespace Go.Proofs.YtbffkkeieihpdaaGreatDoor
open Go Go.Eng
def vcells (v : V) : List AV := [.v (.bool v.k), .v (.int .i64 v.n)]
theorem vc_len (l : List V) : (l.flatMap vcells).length = l.length * 2 := by
 induction l with
 | nil => rfl
 | cons v l ih => simp only [List.flatMap_cons, List.length_append, ih, vcells, List.length_cons, List.length_nil]; omega
def OwnS (h : Heap) (lo n : Nat) (a : AV) (st : List V) : Prop :=
 (st = [] ∧ a = .v (.slice none 0 0)) ∨ ∃ w u cs, a = .s w u 0 st.length ∧ h w = some ⟨cs, u, true, 2⟩ ∧ (∃ r, cs = st.flatMap vcells ++ r) ∧ lo ≤ w ∧ w < n
theorem top_facts {h : Heap} {lo n : Nat} {a : AV} {pre : List V} {x : V} (o : OwnS h lo n a (pre ++ [x])) : ∃ w u cs, a = .s w u 0 (pre.length + 1) ∧ h w = some ⟨cs, u, true, 2⟩ ∧ lo ≤ w ∧ w < n ∧
  cs[pre.length * 2]? = some (.v (.bool x.k)) ∧ cs[pre.length * 2 + 1]? = some (.v (.int .i64 x.n)) ∧ pre.length * 2 + 2 ≤ cs.length ∧
  (∀ c d, ∃ r, (cs.set (pre.length * 2) c).set (pre.length * 2 + 1) d = pre.flatMap vcells ++ ([c, d] ++ r)) ∧ ∃ r, cs = (pre ++ [x]).flatMap vcells ++ r := by
 rcases o with ⟨h0, _⟩ | ⟨w, u, cs, h1, h2, ⟨r, rfl⟩, h3, h4⟩
 ·simp at h0
 ·refine ⟨w, u, _, by simpa using h1, h2, h3, h4, ?_⟩
  have hl := vc_len pre
  have e : (pre ++ [x]).flatMap vcells ++ r = pre.flatMap vcells ++ (.v (.bool x.k) :: .v (.int .i64 x.n) :: r) := by simp [vcells]
  rw [e]
  refine ⟨?_, ?_, ?_, fun c d => ⟨r, ?_⟩, r, e.symm⟩
  ·rw [List.getElem?_append_right (by omega), hl]; simp
  ·rw [List.getElem?_append_right (by omega), hl]; simp
  ·simp only [List.length_append, List.length_cons, hl]; omega
  ·rw [← hl, List.set_append_right _ _ (Nat.le_refl _), List.set_append_right _ _ (by omega)]
   simp
theorem top2_facts {h : Heap} {lo n : Nat} {a : AV} {pre : List V} {y x : V} (o : OwnS h lo n a (pre ++ [y] ++ [x])) : ∃ w u cs, a = .s w u 0 (pre.length + 1 + 1) ∧ h w = some ⟨cs, u, true, 2⟩ ∧ lo ≤ w ∧ w < n ∧
  cs[pre.length * 2]? = some (.v (.bool y.k)) ∧ cs[pre.length * 2 + 1]? = some (.v (.int .i64 y.n)) ∧ cs[(pre.length + 1) * 2]? = some (.v (.bool x.k)) ∧ cs[(pre.length + 1) * 2 + 1]? = some (.v (.int .i64 x.n)) ∧ (pre.length + 1) * 2 + 2 ≤ cs.length ∧
  ∀ c d, ∃ r, (cs.set (pre.length * 2) c).set (pre.length * 2 + 1) d = pre.flatMap vcells ++ ([c, d] ++ r) := by
 obtain ⟨w, u, cs, h1, h2, h3, h4, h5, h6, h7, _, r, hr⟩ := top_facts o
 refine ⟨w, u, cs, by simpa using h1, h2, h3, h4, ?_⟩
 have o2 : OwnS (fun _ => some ⟨cs, 0, true, 2⟩) 0 1 (.s 0 0 0 (pre ++ [y]).length) (pre ++ [y]) := .inr ⟨0, 0, cs, rfl, rfl, ⟨vcells x ++ r, by rw [hr]; simp⟩, Nat.le_refl _, by omega⟩
 obtain ⟨w', u', cs', k1, k2, _, _, k5, k6, k7, k8, _⟩ := top_facts o2
 simp only [Option.some.injEq, Blk.mk.injEq, and_true] at k2
 obtain ⟨rfl, _⟩ := k2
 simp only [List.length_append, List.length_cons, List.length_nil] at h5 h6 h7
 exact ⟨k5, k6, by simpa using h5, by simpa using h6, by simpa using h7, k8⟩
theorem snoc {st : List V} (h : 0 < st.length) : ∃ pre x, st = pre ++ [x] := ⟨st.dropLast, st.getLast (List.length_pos_iff.1 h), (List.dropLast_concat_getLast _).symm⟩
theorem snoc2 {st : List V} (h : 2 ≤ st.length) : ∃ pre y x, st = pre ++ [y] ++ [x] := by
 obtain ⟨pre, x, rfl⟩ := snoc (st := st) (by omega)
 obtain ⟨pre', y, rfl⟩ := snoc (st := pre) (by simp at h; omega)
 exact ⟨pre', y, x, rfl⟩
structure PrOk (p : Pr) : Prop where
 len : p.code.length * 40 ≤ 140737488355328
 ok : ∀ i ∈ p.code, InsOk i
 col : ∀ c ∈ p.cols, c.length < big
def okR (q : Pr × En) : Prop := PrOk q.1 ∧ EnOk q.2
def deR (h : Heap) : List AV → Option (Pr × En)
 | [p, e] => match dePr h p, deEn h e with
  | some p, some e => some (p, e)
  | _, _ => none
 | _ => none
theorem deR_out {h : Heap} {args : List AV} {q : Pr × En} (e : deR h args = some q) : ∃ x y, args = [x, y] ∧ dePr h x = some q.1 ∧ deEn h y = some q.2 := by
 unfold deR at e
 split at e
 ·split at e
  ·rename_i e1 e2
   cases e
   exact ⟨_, _, rfl, e1, e2⟩
  ·cases e
 ·cases e
theorem deR_sim {h h' : Heap} {args : List AV} {q : Pr × En} (hh : h.sim h') (e : deR h args = some q) : deR h' args = some q := by
 obtain ⟨c, x, rfl, e1, e2⟩ := deR_out e
 simp only [deR, dePr_sim hh e1, deEn_sim hh e2]
theorem deR_mono (h h' : Heap) (args : List AV) (q : Pr × En) (hh : h.le h') (e : deR h args = some q) : deR h' args = some q := deR_sim hh.sim e
def runA (q : V × Int) : AV := .t [vv q.1, .v (.int .i64 q.2)]
def G29 := pureH deR okR fun q => runA (runV q.1 q.2)
theorem ins_at {l : List AV} {o : Nat} {i : Ins} (h : (l.drop o).take 5 = icells i) : l[o]? = some (ii i.code) ∧ l[o + 1]? = some (ii i.item) ∧ l[o + 2]? = some (ii i.col) ∧ l[o + 3]? = some (ii i.n) ∧ l[o + 4]? = some (ii i.to) :=
 ⟨cell_of (c := 0) h rfl (by omega), cell_of (c := 1) h rfl (by omega), cell_of (c := 2) h rfl (by omega), cell_of (c := 3) h rfl (by omega), cell_of (c := 4) h rfl (by omega)⟩
theorem owns_len {h : Heap} {lo n : Nat} {a : AV} {st : List V} (o : OwnS h lo n a st) : a.isS ∧ a.slen = st.length ∧ (∀ g, AV.unc g a = a) := by
 rcases o with ⟨rfl, rfl⟩ | ⟨w, u, cs, rfl, _⟩
 ·exact ⟨⟨rfl, rfl⟩, rfl, fun _ => rfl⟩
 ·exact ⟨trivial, rfl, fun _ => rfl⟩
end Go.Proofs.YtbffkkeieihpdaaGreatDoor
namespace Go.Proofs.YtbffkkeieihpdaaGreatDoor
open Go Go.Eng
theorem agr_sim {n : Nat} {h h' : Heap} (hn : ∀ i, n ≤ i → h i = none) (ha : agree n h h') : h.sim h' := fun i k e => ⟨k, by rw [ha i (lt_of e hn)]; exact e, rfl, rfl⟩
theorem agr_le {n : Nat} {h h' : Heap} (hn : ∀ i, n ≤ i → h i = none) (ha : agree n h h') : h.le h' := fun i k e => by rw [ha i (lt_of e hn)]; exact e
theorem rd_agr {α : Type} {d : De α} {h : Heap} {n : Nat} {a : AV} {x : α} (hn : ∀ i, n ≤ i → h i = none) (e : rd d h a = some x) : ∀ h', agree n h h' → rd d h' a = some x := fun _ ha => rd_sim (agr_sim hn ha) e
theorem agree_trans {n m : Nat} {a b c : Heap} (h1 : agree n a b) (h2 : agree m b c) (hm : n ≤ m) : agree n a c := fun j hj => by rw [h2 j (by omega), h1 j hj]
structure Flat {α : Type} (sz : Nat) (d : De α) (en : α → List AV) : Prop where
 out : ∀ h l x, d.run h l = some x → l = en x
 inn : ∀ h x, d.run h (en x) = some x
 len : ∀ x, (en x).length = sz
theorem Flat.ev : Flat 11 dEv ecells := ⟨fun _ _ _ e => deEc_out e, fun _ _ => rfl, fun _ => rfl⟩
theorem Flat.ins : Flat 5 dIns icells := ⟨fun _ _ _ e => deIc_out e, fun _ _ => rfl, fun _ => rfl⟩
theorem int_out (h : Heap) (l : List AV) (x : Int) (e : (De.int .i64).run h l = some x) : l = [ii x] := by
 simp only [De.int] at e
 split at e
 ·split at e
  ·rename_i hk
   cases e
   rw [hk]
   rfl
  ·cases e
 ·cases e
theorem Flat.int : Flat 1 (De.int .i64) (fun x => [ii x]) := ⟨int_out, fun _ _ => rfl, fun _ => rfl⟩
theorem flat_len {α : Type} {sz : Nat} {d : De α} {en : α → List AV} (f : Flat sz d en) (l : List α) : (l.flatMap en).length = l.length * sz := by
 induction l with
 | nil => simp
 | cons x l ih => simp only [List.flatMap_cons, List.length_append, f.len, ih, List.length_cons, Nat.succ_mul]; omega
theorem flat_drop {α : Type} {sz : Nat} {d : De α} {en : α → List AV} (f : Flat sz d en) : ∀ (l : List α) (i : Nat) (hi : i < l.length) (r : List AV), ((l.flatMap en ++ r).drop (i * sz)).take sz = en l[i]
 | [], _, h, _ => by simp at h
 | x :: l, 0, _, r => by
  rw [Nat.zero_mul, List.drop_zero, List.flatMap_cons, List.append_assoc, ← f.len x, List.take_left']
  ·rfl
  ·rfl
 | x :: l, i + 1, h, r => by
  have e : (i + 1) * sz = (en x).length + i * sz := by rw [f.len, Nat.succ_mul]; omega
  rw [List.flatMap_cons, List.append_assoc, e, List.drop_append, List.getElem_cons_succ]
  have : List.drop ((en x).length + i * sz) (en x) = [] := List.drop_eq_nil_of_le (by omega)
  rw [this, List.nil_append, show (en x).length + i * sz - (en x).length = i * sz by omega]
  exact flat_drop f l i (by simpa using h) r
theorem flat_in {α : Type} {sz : Nat} {d : De α} {en : α → List AV} (f : Flat sz d en) {h : Heap} {id ver : Nat} {k : Blk} {l : List α} (hk : h id = some k) (hv : k.ver = ver) {r : List AV} (hc : k.cells = l.flatMap en ++ r) : rd (De.sl sz d) h (.s id ver 0 l.length) = some l := by
 subst hv
 refine De.sl_in hk (by rw [hc, List.length_append, flat_len f]; omega) fun i hi => ?_
 rw [Nat.zero_add, hc, flat_drop f l i hi]
 exact f.inn h _
theorem flat_at {α : Type} {sz : Nat} {d : De α} {en : α → List AV} (f : Flat sz d en) {h : Heap} {a : AV} {l : List α} (e : rd (De.sl sz d) h a = some l) : (l = [] ∧ (a = .v (.slice none 0 0) ∨ a = .e)) ∨
  ∃ id off k, a = .s id k.ver off l.length ∧ h id = some k ∧ off + l.length * sz ≤ k.cells.length ∧ (k.cells.drop off).take (l.length * sz) = l.flatMap en := by
 rcases sl_at e with h0 | ⟨id, off, k, h1, h2, h3, h4⟩
 ·exact .inl h0
 ·refine .inr ⟨id, off, k, h1, h2, h3, ?_⟩
  have key : ∀ (m : List α) (o : Nat), o + m.length * sz ≤ k.cells.length → (∀ i (hi : i < m.length), d.run h ((k.cells.drop (o + i * sz)).take sz) = some m[i]) → (k.cells.drop o).take (m.length * sz) = m.flatMap en := fun m => by
   induction m with
   | nil => intro o _ _; simp
   | cons x m ih =>
    intro o ho hm
    have h0 := f.out _ _ _ (hm 0 (by simp))
    simp only [Nat.zero_mul, Nat.add_zero, List.getElem_cons_zero] at h0
    rw [List.length_cons, Nat.succ_mul] at ho
    have h5 := ih (o + sz) (by omega) fun i hi => by
     have := hm (i + 1) (by simpa using hi)
     rw [Nat.succ_mul, show o + (i * sz + sz) = o + sz + i * sz by omega] at this
     simpa using this
    rw [List.flatMap_cons, ← h0, ← h5, List.length_cons, Nat.succ_mul, Nat.add_comm (m.length * sz), List.take_add, List.drop_drop]
  exact key l off h3 h4
theorem flat_app {α : Type} {sz : Nat} {d : De α} {en : α → List AV} (f : Flat sz d en) {h : Heap} {a : AV} {l : List α} (e : rd (De.sl sz d) h a = some l) : sls h a 0 (l.length * sz) ∧ slc h a 0 (l.length * sz) = l.flatMap en := by
 rcases flat_at f e with ⟨rfl, rfl | rfl⟩ | ⟨id, off, k, rfl, h2, h3, h4⟩
 ·simp [sls, slc]
 ·simp [sls, slc]
 ·simp only [sls, slc, h2, Nat.zero_add, Nat.add_zero, true_and]
  exact ⟨h3, h4⟩
def lcells {α : Type} (f : Nat → Nat) (ll : List (List α)) (j : Nat) : List AV := (List.range j).map fun i => .s (f i) 1 0 (ll.getD i []).length
theorem lcells_len {α : Type} (f : Nat → Nat) (ll : List (List α)) (j : Nat) : (lcells f ll j).length = j := by simp [lcells]
structure OwnF {α : Type} (en : α → List AV) (sz : Nat) (h : Heap) (lo hi : Nat) (f : Nat → Nat) (ll : List (List α)) (j : Nat) : Prop where
 rng : ∀ i, i < j → lo ≤ f i ∧ f i < hi
 blk : ∀ i, i < j → h (f i) = some ⟨(ll.getD i []).flatMap en, 1, true, sz⟩
 inj : ∀ i k, i < j → k < j → f i = f k → i = k
def OwnL {α : Type} (en : α → List AV) (sz : Nat) (h : Heap) (lo hi : Nat) (z : AV) (ll : List (List α)) (j : Nat) : Prop :=
 ∃ f, OwnF en sz h lo hi f ll j ∧ ((j = 0 ∧ z = .v (.slice none 0 0)) ∨ ∃ w u, z = .s w u 0 j ∧ h w = some ⟨lcells f ll j, u, true, 1⟩ ∧ lo ≤ w ∧ w < hi ∧ ∀ i, i < j → f i ≠ w)
theorem OwnF.congr {α : Type} {en : α → List AV} {sz : Nat} {h h' : Heap} {lo hi hi' : Nat} {f : Nat → Nat} {ll : List (List α)} {j : Nat} (o : OwnF en sz h lo hi f ll j) (hh : ∀ q, lo ≤ q → q < hi → h' q = h q) (hi2 : hi ≤ hi') : OwnF en sz h' lo hi' f ll j :=
 ⟨fun i hi => ⟨(o.rng i hi).1, by have := (o.rng i hi).2; omega⟩, fun i hi => by rw [hh _ (o.rng i hi).1 (o.rng i hi).2]; exact o.blk i hi, o.inj⟩
theorem OwnL.congr {α : Type} {en : α → List AV} {sz : Nat} {h h' : Heap} {lo hi hi' : Nat} {z : AV} {ll : List (List α)} {j : Nat} (o : OwnL en sz h lo hi z ll j) (hh : ∀ q, lo ≤ q → q < hi → h' q = h q) (hi2 : hi ≤ hi') : OwnL en sz h' lo hi' z ll j := by
 obtain ⟨f, o1, o2⟩ := o
 refine ⟨f, o1.congr hh hi2, ?_⟩
 rcases o2 with h0 | ⟨w, u, h1, h2, h3, h4, h5⟩
 ·exact .inl h0
 ·exact .inr ⟨w, u, h1, by rw [hh _ h3 h4]; exact h2, h3, by omega, h5⟩
theorem OwnL.lo {α : Type} {en : α → List AV} {sz : Nat} {h : Heap} {lo lo' hi : Nat} {z : AV} {ll : List (List α)} {j : Nat} (o : OwnL en sz h lo hi z ll j) (hl : lo' ≤ lo) : OwnL en sz h lo' hi z ll j := by
 obtain ⟨f, o1, o2⟩ := o
 refine ⟨f, ⟨fun i hi => ⟨by have := (o1.rng i hi).1; omega, (o1.rng i hi).2⟩, o1.blk, o1.inj⟩, ?_⟩
 rcases o2 with h0 | ⟨w, u, h1, h2, h3, h4, h5⟩
 ·exact .inl h0
 ·exact .inr ⟨w, u, h1, h2, by omega, h4, h5⟩
theorem OwnL.rd {α : Type} {d : De α} {en : α → List AV} {sz : Nat} (fl : Flat sz d en) {h : Heap} {lo hi : Nat} {z : AV} {ll : List (List α)} (o : OwnL en sz h lo hi z ll ll.length) : rd (De.sl 1 (De.sl sz d)) h z = some ll := by
 obtain ⟨f, o1, o2⟩ := o
 rcases o2 with ⟨h0, rfl⟩ | ⟨w, u, rfl, h2, h3, h4, h5⟩
 ·have : ll = [] := List.eq_nil_of_length_eq_zero h0
  subst this
  rfl
 ·have e1 : (⟨lcells f ll ll.length, u, true, 1⟩ : Blk).ver = u := rfl
  refine De.sl_in (k := ⟨lcells f ll ll.length, u, true, 1⟩) h2 (by simp only [lcells_len]; omega) fun i hi => ?_
  have hc : (lcells f ll ll.length)[i]? = some (.s (f i) 1 0 (ll.getD i []).length) := by simp [lcells, hi]
  have hlt : i < (lcells f ll ll.length).length := by rw [lcells_len]; exact hi
  simp only [Nat.zero_add, Nat.mul_one]
  rw [List.take_one, List.head?_drop, hc]
  have hg : ll.getD i [] = ll[i] := by simp [List.getD_eq_getElem?_getD, hi]
  have hb := o1.blk i hi
  rw [hg] at hb
  rw [hg]
  exact flat_in fl hb rfl (r := []) (by simp)
end Go.Proofs.YtbffkkeieihpdaaGreatDoor

namespace Go.Proofs.YtbffkkeieihpdaaGreatDoor
open Go Go.Eng Go.RowKit Go.ChangeShapes Go.WideShapes Go.Joins
theorem ro_of2 {S : List Nat} {pf : FuncId → Option (List AV → Heap → PRes)} {W : World} {ρ : Ren} {h : Heap} {m : Nat} (hb : Blks ρ h W m) (hg : ∀ g ∈ S, GlobAt W g) : RoRel (cx S pf) ρ h W :=
 ⟨(ro_of (S := S) (pf := pf) hg).glob, hb.blk⟩
theorem weights_of {H : Type} {P : Program} {ts us : List TypeId} {ds gs : List (DataW H)} (h : (DataW.weightsEach P (ts ++ us) (ds ++ gs)).all (· ≤ reachBytes) = true) {j : Nat} {t : TypeId} {d : DataW H} (ht : ts[j]? = some t) (hd : ds[j]? = some d) : ∀ n ∈ d.weights P t, n ≤ reachBytes := fun n hn => by
 have h1 : j < ts.length := (List.getElem?_eq_some_iff.1 ht).1
 have h2 : j < ds.length := (List.getElem?_eq_some_iff.1 hd).1
 have := List.all_eq_true.1 h n (weightsEach_mem (i := j) (by rw [List.getElem?_append_left h1]; exact ht) (by rw [List.getElem?_append_left h2]; exact hd) hn)
 simpa using this
theorem VRs_nil (ρ : Ren) : VRs ρ [] [] := by simp [VRs]
theorem VRs_cons {ρ : Ren} {a : AV} {v : Value} {l : List AV} {vs : List Value} (h : VR ρ a v) (k : VRs ρ l vs) : VRs ρ (a :: l) (v :: vs) := by simp only [VRs]; exact ⟨v, vs, rfl, h, k⟩
theorem pair_flat {α β : Type} {n : Nat} {d1 : De α} {d2 : De β} {e1 : α → List AV} {e2 : β → List AV} (h1 : ∀ h l x, d1.run h l = some x → l = e1 x) (h2 : ∀ h l x, d2.run h l = some x → l = e2 x) : ∀ h l x, (De.pair n d1 d2).run h l = some x → l = e1 x.1 ++ e2 x.2 := fun h l x e => by
 simp only [De.pair] at e
 split at e
 ·rename_i q1 q2
  cases e
  rw [← h1 _ _ _ q1, ← h2 _ _ _ q2, List.take_append_drop]
 ·cases e
theorem int_flat (k : IntKind) : ∀ (h : Heap) (l : List AV) (x : Int), (De.int k).run h l = some x → l = [.v (.int k x)] := fun h l x e => by
 simp only [De.int] at e
 split at e
 ·split at e
  ·rename_i hk
   cases e
   rw [hk]
  ·cases e
 ·cases e
theorem Opens.conv {α β : Type} {P : Program} {t : TypeId} {d : De α} {ok : α → Prop} {d' : De β} {ok' : β → Prop} (h0 : Opens P t d ok) (hc : ∀ h l x, d.run h l = some x → ok x → ∃ y, d'.run h l = some y ∧ ok' y) : Opens P t d' ok' := fun h hw ρ hh m hb => by
 obtain ⟨ρ', h', m', l, v, e1, e2, e3, e4, e5, e6, e7, e8⟩ := h0 h hw ρ hh m hb
 obtain ⟨y, y1, y2⟩ := hc h' l v e7 e8
 exact ⟨ρ', h', m', l, y, e1, e2, e3, e4, e5, e6, y1, y2⟩
theorem opens_i : Opens Tryz.prog 3 (De.int .i64) fun n => (Lit.int .i64 n).wf = true := Opens.int Tryz.underlying3
theorem opens_i2 : Opens Tryz.prog 2 (De.int .i64) fun n => (Lit.int .i64 n).wf = true := Opens.int Tryz.underlying2
theorem pair_run {α β : Type} {n : Nat} {d1 : De α} {d2 : De β} {h : Heap} {l : List AV} {x : α × β} (e : (De.pair n d1 d2).run h l = some x) : d1.run h (l.take n) = some x.1 ∧ d2.run h (l.drop n) = some x.2 := by
 simp only [De.pair] at e
 split at e
 ·rename_i q1 q2
  cases e
  exact ⟨q1, q2⟩
 ·cases e
theorem sl_one {α : Type} {sz : Nat} {d : De α} {h : Heap} {l : List AV} {x : List α} (e : (De.sl sz d).run h l = some x) : ∃ a, l = [a] := by
 rcases De.sl_out e with ⟨_, h1 | h1⟩ | ⟨id, off, k, h1, _⟩ <;> exact ⟨_, h1⟩
theorem open_agg {α : Type} {H : Type} {enc : TypeId × Value → H} {W : World} {base b0 : Nat} {sp : Nat → Bool} {held : Bool} {r : Reach} {v : Value} {x : DataW H} {p : List MemPlace} {t : TypeId} {fs : Array Field} {d : De α} {ok : α → Prop} (h0 : Opens Tryz.prog t d ok) (ht : Tryz.prog.underlying t = some (.struct fs)) (hv : Value.okWide Tryz.prog W r b0 t v) (h : DataW.Trod enc Tryz.prog W base sp held t v x p) (hw : ∀ n ∈ x.weights Tryz.prog t, n ≤ reachBytes) (ρ : Ren) (hh : Heap) (m : Nat) (hb : Blks ρ hh W m) :
  ∃ ρ' h' m' l y, ρ.le ρ' ∧ hh.le h' ∧ m ≤ m' ∧ Blks ρ' h' W m' ∧ VR ρ' (.g l) v ∧ d.run h' l = some y ∧ ok y := by
 obtain ⟨cs, rfl, hsz⟩ := okWide_struct ht hv
 obtain ⟨fuel, hf⟩ := h
 obtain ⟨ρ', h', m', l, y, e1, e2, e3, e4, e5, e6, e7, e8⟩ := h0 hf hw ρ hh m hb
 exact ⟨ρ', h', m', l, y, e1, e2, e3, e4, by simp only [VR]; exact ⟨cs.toList, by simp, e5⟩, e7, e8⟩
end Go.Proofs.YtbffkkeieihpdaaGreatDoor

namespace Go.Proofs.YtbffkkeieihpdaaGreatDoor
open Go Go.Eng Go.RowKit
def upB (b : UInt8) : UInt8 := if 97 ≤ b.toNat ∧ b.toNat ≤ 122 then UInt8.ofNat (b.toNat - 32) else b
def upS (s : ByteArray) : ByteArray := ⟨(s.data.toList.map upB).toArray⟩
def upK (s : ByteArray) (k : Nat) (j : Nat) : UInt8 := if j < k then upB (s.data.toList.getD j 0) else s.data.toList.getD j 0
structure UpR (s : ByteArray) (w : World) (k : Nat) (wr : World) : Prop where
 cell : ∀ j, j < s.size → wr.cell? ⟨w.heap.size, j, none⟩ = some (.int .u8 (upK s k j).toNat)
 frozen : ∀ j, j < s.size → wr.frozen? ⟨w.heap.size, j, none⟩ = false
 below : Below w.heap.size w wr
theorem upR_start (s : ByteArray) (w : World) (cap : Nat) : UpR s w 0 (w.drew.alloc (.cells (bytesRow s cap) 5 ((bytesRow s cap).size, (bytesRow s cap).size + 1))) where
 cell j hj := by
  have h := World.cell?_alloc_mark w.drew (bytesRow s cap) 5 ((bytesRow s cap).size, (bytesRow s cap).size + 1) j
  have hj' : j < s.data.size := hj
  have e : w.drew.heap.size = w.heap.size := rfl
  rw [e] at h
  rw [h, bytesRow_at s cap j hj']
  simp only [upK, Nat.not_lt_zero, if_false]
  rw [List.getD_eq_getElem?_getD, List.getElem?_eq_getElem (by simpa using hj')]
  simp
 frozen j hj := by
  have h := World.frozen?_alloc_mark w.drew (bytesRow s cap) 5 ((bytesRow s cap).size) ((bytesRow s cap).size + 1) j
  have e : w.drew.heap.size = w.heap.size := rfl
  rw [e] at h
  rw [h]
  have hj' : j < s.data.size := hj
  have : s.data.size ≤ (bytesRow s cap).size := by unfold bytesRow; simp
  simp; omega
 below := (Below.refl _ w).drew.alloc (Nat.le_refl _) _
theorem upK_old (s : ByteArray) (k : Nat) : upK s k k = s.data.toList.getD k 0 := by simp [upK]
theorem upK_new (s : ByteArray) (k j : Nat) (h : j ≠ k) : upK s (k + 1) j = upK s k j := by
 unfold upK
 by_cases h1 : j < k
 ·rw [if_pos h1, if_pos (by omega)]
 ·rw [if_neg h1, if_neg (by omega)]
theorem upR_miss {s : ByteArray} {w wr : World} {k : Nat} (h : UpR s w k wr) (hm : ¬ (97 ≤ (upK s k k).toNat ∧ (upK s k k).toNat ≤ 122)) : UpR s w (k + 1) wr where
 cell j hj := by
  rw [h.cell j hj]
  by_cases e : j = k
  ·subst e
   rw [upK_old] at hm
   simp only [upK_old]
   simp only [upK, Nat.lt_succ_self, if_true, upB, if_neg hm]
  ·rw [upK_new s k j e]
 frozen := h.frozen
 below := h.below
theorem upR_hit {s : ByteArray} {w wr : World} {k : Nat} (hk : k < s.size) (h : UpR s w k wr) (h1 : 97 ≤ (upK s k k).toNat) (h2 : (upK s k k).toNat ≤ 122) : UpR s w (k + 1) (wr.setCell ⟨w.heap.size, k, none⟩ (.int .u8 ((upK s k k).toNat - 97 + 65))) where
 cell j hj := by
  by_cases e : j = k
  ·subst e
   rw [World.cell?_setCell_same _ _ _ (h.cell j hj)]
   have : upK s (j + 1) j = UInt8.ofNat ((upK s j j).toNat - 32) := by
    simp only [upK, Nat.lt_succ_self, if_true, Nat.lt_irrefl, if_false, upB]
    rw [if_pos]
    simpa only [upK_old] using And.intro h1 h2
   rw [this, UInt8.toNat_ofNat_of_lt' (by have := (upK s j j).toNat_lt; have e : UInt8.size = 256 := rfl; omega)]
   congr 2
   omega
  ·rw [World.cell?_setCell_other _ _ _ _ (by intro h; simp only [Addr.mk.injEq] at h; omega), upK_new s k j e]
   exact h.cell j hj
 frozen j hj := (World.frozen?_setCell _ _ _ _).trans (h.frozen j hj)
 below := h.below.setCell (Nat.le_refl _) _
theorem upper_walk (s : ByteArray) (w : World) (hs : s.size ≤ 1000000) :
  Calls Tryz.prog 198 #[.string s] w fun e w' => e = .returned (.string (upS s)) ∧ Below w.heap.size w w' := by
 have hconv := run_bytes_of_string (P := Tryz.prog) w 9 135 5 s Tryz.underlying9 Tryz.underlying135 Tryz.underlying5
 have hst := upR_start s w (grownCap w s.size 0 5)
 generalize grownCap w s.size 0 5 = cap at hconv hst
 go_enter Tryz.func198, Tryz.ntmps198
 go_wp2
 go_loopw [10] (fun i wr => ∃ k : Nat, k ≤ s.size ∧ i = .int .i64 k ∧ UpR s w k wr) (fun i _ => s.size - (intOf i).toNat)
 case atStart => exact ⟨0, Nat.zero_le _, rfl, hst⟩
 case round =>
  obtain ⟨k, hk, rfl, hR⟩ := hrel
  by_cases hlt : k < s.size
  ·have hcell := hR.cell k hlt
   have hfr := hR.frozen k hlt
   go_wp2
   ·have h1 : 97 ≤ (upK s k k).toNat := by omega
    have h2 : (upK s k k).toNat ≤ 122 := by omega
    exact ⟨⟨k + 1, by omega, by simp, upR_hit hlt hR h1 h2⟩, by simp [intOf]; omega⟩
   ·exact ⟨⟨k + 1, by omega, by simp, upR_miss hR (by omega)⟩, by simp [intOf]; omega⟩
   ·exact ⟨⟨k + 1, by omega, by simp, upR_miss hR (by omega)⟩, by simp [intOf]; omega⟩
  ·obtain rfl : k = s.size := by omega
   have hback := run_convert_bytes_back (P := Tryz.prog) wr 135 9 5 ⟨w.heap.size, 0, none⟩ cap (s.data.toList.map upB) Tryz.underlying135 Tryz.underlying5 Tryz.underlying9 (fun j hj => by
    have hj' : j < s.size := by simpa using hj
    have := hR.cell j hj'
    have ea : (⟨w.heap.size, 0, none⟩ : Addr).add j = ⟨w.heap.size, j, none⟩ := by
     cases j with
     | zero => rfl
     | succ j => simp [Addr.add]
    rw [ea, this]
    simp only [upK, hj', if_true, List.getElem_map]
    rw [List.getD_eq_getElem?_getD, List.getElem?_eq_getElem (by simpa using hj'), Option.getD_some])
   have hl : (s.data.toList.map upB).length = s.size := by simp
   rw [hl] at hback
   go_wp2
   go_ret
   exact ⟨rfl, hR.below⟩
end Go.Proofs.YtbffkkeieihpdaaGreatDoor
