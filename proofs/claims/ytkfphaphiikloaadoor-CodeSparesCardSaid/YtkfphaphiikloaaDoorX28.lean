/-
  COMPILING, PART J: Compile: node by node.
-/
import Derived.Test.YtkfphaphiikloaaDoorX26
import Derived.Test.YtkfphaphiikloaaDoorX27
import Derived.Test.YtkfphaphiikloaaDoorX17
set_option linter.unusedSimpArgs false
set_option linter.unusedVariables false
set_option linter.constructorNameAsVariable false
namespace Go.Proofs.YtkfphaphiikloaaDoor
open Go Go.Eng

noncomputable def c20L : Code := bodyL (hdC 1 (tlC 7 (Tryd.f20.body.getD .skip)))
noncomputable def c20B : Code := inB (hdC 1 (tlC 2 c20L))
theorem D20.up {h0 : Heap} {n : Nat} {sa ta : AV} {t : List Nd} {its : List Int} {tys : List Ty} {wi m mm wb wj i : Nat} {code : List Ins} {names : List ByteArray} {s s' : St} (a : D20 h0 n sa ta t its tys wi m mm wb wj i code names s) (he : ∀ i ∈ [2, 6, 7, 9, 10, 13], s'.e i = s.e i) (hh : s'.h = s.h) (hn : s'.n = s.n) : D20 h0 n sa ta t its tys wi m mm wb wj i code names s' := by
  obtain ⟨x1, x2, x3, x4, x5, x6, x7, x8, x9, x10, x11, x12, x13, x14⟩ := a
  obtain ⟨e1, h1, n1⟩ := s'
  simp only [] at hh hn he
  subst hh hn
  exact ⟨by simp only [he 2 (by simp)]; exact x1, by simp only [he 6 (by simp)]; exact x2, by simp only [he 7 (by simp)]; exact x3, by simp only [he 9 (by simp)]; exact x4, by simp only [he 10 (by simp)]; exact x5, by simp only [he 13 (by simp)]; exact x6, x7, x8, x9, x10, x11, x12, x13, x14⟩
/-- Where the loop stands. -/
def at20 (ta : AV) (len i : Nat) (s : St) : Prop := s.e 56 = ta ∧ s.e 57 = ii len ∧ s.e 58 = ii i
section
set_option maxRecDepth 100000
set_option maxHeartbeats 4000000
variable {h : Heap} {n : Nat} {sa ta : AV} {tys : List Ty} {t : List Nd} {vs : List ByteArray} {wi m mm wb wj i : Nat} {lo : Nat → Nat}
/-- The node, and its own instruction. -/
theorem c20f1 (T : Tre t lo) (e5 : rd dNs h ta = some t) (e1 : rd dTys h sa = some tys) (hp : smallT t) (htl : tys.length * 8 ≤ 140737488355328) (hst : smallS tys) (hn : Fresh n h) (s : St) (hi : i < t.length) (hat : at20 ta t.length i s)
    (a : D20 h n sa ta t (t.map (itemV vs)) tys wi m mm wb wj i (progT vs t i) (namesTo t i) s) {Q : Ex → St → Prop} :
    awp (cx [7] (pfL [])) (hdC 2 c20B) (thenQ (fun s' => at20 ta t.length i s' ∧ s'.e 14 = ii i ∧ (∃ c, s'.e 15 = .p c 0 0 ∧ s'.h c = some ⟨ncells t[i], 0, true, 6⟩) ∧ D20 h n sa ta t (t.map (itemV vs)) tys wi m mm wb wj i (progT vs t i ++ [ownT vs t i]) (namesTo t (i + 1)) s') Q) s := by
  obtain ⟨e, h1, n1⟩ := s
  have a0 := a
  obtain ⟨x1, x2, x3, x4, x5, x6, x7, x8, x9, x10, ⟨ca, la, cs⟩, x12, x13, x14⟩ := a
  obtain ⟨q56, q57, q58⟩ := hat
  simp only [] at x1 x2 x3 x4 x5 x6 x7 x8 x9 x10 x12 x13 x14 cs q56 q57 q58
  have hp' : t.length * 64 ≤ 140737488355328 := hp
  rcases ns_at e5 with ⟨h0, _⟩ | ⟨id, off, k, rfl, hk, ho, hat⟩
  · rw [h0] at hi; simp at hi
  have hr := hat i hi
  have hid : id < n := lt_of hk hn
  have hk' : h1 id = some k := (x13 id hid).trans hk
  have hle : ∀ (X : Ctx), ldcs X h1 (.p id k.ver (off + i * 6)) 0 6 = ncells t[i] := fun X => ldcs_nd hk' hr
  have hw6 : off + (i * 6 + 6) ≤ k.cells.length := by omega
  have hop := tree_op T hi
  have hgd := getD_at hi
  have hfew := few T
  have hpl := pos_lt (t := t) hi
  have hnl := names_len t i
  have hits : ((t.map (itemV vs)).map ii).length = t.length := by simp
  have hitg : ((t.map (itemV vs)).map ii)[i]? = some (ii (itemV vs t[i])) := by simp [hi]
  have hi1 : i + 1 ≤ t.length := hi
  let G : Nat → Prop := fun q => G20 n wi wb wj q ∧ q ≠ n1
  have hown : ownI (addX (namesTo t i) t[i]) (itemV vs t[i]) t[i] = ownT vs t i := by
    have := own_stable (vs := vs) hi (by rw [hgd]; exact hop.1)
    rw [namesTo, hgd] at this
    exact this
  have hnm : addX (namesTo t i) t[i] = namesTo t (i + 1) := by rw [namesTo, hgd]
  have L : ∀ b : Option Blk, ACall (cx [] (pfL [])) 55 [.p m 0 0, nn t[i], ii (itemV vs t[i])] (Eng.up (Eng.up h1 n1 b) n1 (some ⟨ncells t[i], 0, true, 6⟩)) (n1 + 2) fun _ h' n' => keepG G (n1 + 2) (Eng.up (Eng.up h1 n1 b) n1 (some ⟨ncells t[i], 0, true, 6⟩)) h' ∧ Fresh n' h' ∧ n1 + 2 ≤ n' ∧ ∃ ca' la', CS h' G n' m tys sa ca' la' mm (progT vs t i ++ [ownT vs t i]) (namesTo t (i + 1)) := fun b => by
    have c1 := (cs.wk (G' := G) (fun q hq hl => ⟨hq, by omega⟩)).up (n' := n1 + 2) x14 (h' := Eng.up (Eng.up h1 n1 b) n1 (some ⟨ncells t[i], 0, true, 6⟩)) ((agree_up (Nat.le_refl _) _).2 ((agree_up (Nat.le_refl _) _).2 (agree_refl _ _))) (by omega)
    have := c55 c1 t[i] (itemV vs t[i]) hop (by rw [prog_len]; omega) (by omega) htl hst (fun q hq => ⟨⟨by omega, by omega, by omega, by omega⟩, by omega⟩) (fun h' hk9 => rd_agr hn e1 _ fun q hq => by
      rw [hk9 q (by omega) (fun hx => by have := hx.1.1; omega), up_ne _ _ (by omega), up_ne _ _ (by omega)]; exact x13 q hq) ((fresh_up (by omega) _).2 ((fresh_up (by omega) _).2 (x14.add 2)))
    rw [hown, hnm] at this
    exact this
  generalize hit : itemV vs t[i] = it at *
  generalize hxx : t[i] = x at *
  obtain ⟨op, num, var, attr, xa, xb⟩ := x
  simp only [ncells, ii, ss] at hle
  have y0 : ¬ id = n1 := by omega
  have y1 : ¬ wi = n1 := by omega
  simp only [ncells, ii, ss, nn] at L
  simp only [ii] at hitg
  generalize hcs : ((t.map (itemV vs)).map ii) = ics at *
  have hil : i < ics.length := by omega
  have hig : ics[i]'hil = .v (.int .i64 it) := by rw [List.getElem?_eq_getElem hil] at hitg; exact Option.some.inj hitg
  have hnb : ∀ (X : Ctx) (h'' : Heap), h'' n1 = some ⟨[.v (.int .i64 op), .v (.int .i64 num), .v (.string var), .v (.string attr), .v (.int .i64 xa), .v (.int .i64 xb)], 0, true, 6⟩ → ldcs X h'' (.p n1 0 0) 0 6 = [.v (.int .i64 op), .v (.int .i64 num), .v (.string var), .v (.string attr), .v (.int .i64 xa), .v (.int .i64 xb)] := fun X h'' e => by simp [ldcs, ldc, e]
  simp [evs, aeval, binS, cx_ti, cx_G, cx_pf, cx_tw, ti, globS, glob, ldcs_1, ldcs_2, ldcs_3, ldcs_4, ldcs_5, ldcs_7, sls.eq_1, slc.eq_1, pfL, hdC, tlC, c20B, c20L, inB, bodyL, Tryd.f20, q56, q57, q58, x3, x4, x8, ii, ss, hi, hi1, hk', hle, hw6, y0, y1, hits, hitg, hig, hnb]
  refine (acall_any (S := []) (by simp) (L _)).mono ?_
  rintro v h2 n2 ⟨a1, a2, a3, a4⟩
  have b1 : ∀ q, q < n1 + 2 → q = n1 ∨ ¬ G20 n wi wb wj q → h2 q = (if q = n1 then some ⟨[.v (.int .i64 op), .v (.int .i64 num), .v (.string var), .v (.string attr), .v (.int .i64 xa), .v (.int .i64 xb)], 0, true, 6⟩ else h1 q) := fun q hq hg => by
    rw [a1 q hq (fun hx => by rcases hg with hg | hg; exact hx.2 hg; exact hg hx.1)]
    split
    · rename_i e; rw [e, up_same]
    · rename_i e; rw [up_ne _ _ e, up_ne _ _ e]
  have b2 : h2 n1 = some ⟨[.v (.int .i64 op), .v (.int .i64 num), .v (.string var), .v (.string attr), .v (.int .i64 xa), .v (.int .i64 xb)], 0, true, 6⟩ := by rw [b1 n1 (by omega) (.inl rfl), if_pos rfl]
  have b3 : ∀ q, q < n1 → ¬ G20 n wi wb wj q → h2 q = h1 q := fun q hq hg => by rw [b1 q (by omega) (.inr hg), if_neg (by omega)]
  have b4 : h2 wi = some ⟨ics, 0, true, 1⟩ := by rw [b3 wi (by omega) (fun hx => hx.2.1 rfl)]; exact x8
  refine ⟨.inr ⟨rfl, fun t ht => ?_⟩, ?_⟩
  · simp [ldSlots] at ht
    rcases ht with ht | ht <;> subst ht <;> simp [keepP, Eng.up, b2, b4, x8, y1]
  refine ⟨⟨by simpa [up] using q56, by simpa [up, ii] using q57, by simpa [up, ii] using q58⟩, by simpa [ncells, ii, ss] using b2, by simpa [up] using x1, by simpa [up] using x2, by simpa [up] using x3, by simpa [up] using x4, by simpa [up] using x5, by simpa [up] using x6, ?_, by simp only []; rw [hcs]; exact b4, ?_, ?_, ?_, ⟨x12.1, x12.2.1, x12.2.2.1, x12.2.2.2.1, x12.2.2.2.2.1, by simp only []; omega⟩, fun q hq => ?_, a2⟩
  · simp only []
    rw [b3 _ (by omega) (fun hx => by have := hx.1; omega)]; exact x7
  · simp only []
    rw [b3 _ (by omega) (fun hx => hx.2.2.1 rfl)]; exact x9
  · simp only []
    rw [b3 _ (by omega) (fun hx => hx.2.2.2 rfl)]; exact x10
  · obtain ⟨ca', la', a4⟩ := a4
    exact ⟨ca', la', a4.wk fun q hq _ => hq.1⟩
  · simp only []
    rw [b3 _ (by omega) (fun hx => by have := hx.1; omega)]; exact x13 q hq
/-- A left side's jump learns where to go. -/
theorem c20f2 (T : Tre t lo) (hp : smallT t) (s : St) (hi : i < t.length) (hat : at20 ta t.length i s) (h14 : s.e 14 = ii i) (h15 : ∃ c, s.e 15 = .p c 0 0 ∧ s.h c = some ⟨ncells t[i], 0, true, 6⟩)
    (e1 : rd dTys h sa = some tys) (hn : Fresh n h) (a : D20 h n sa ta t (t.map (itemV vs)) tys wi m mm wb wj i (progT vs t i ++ [ownT vs t i]) (namesTo t (i + 1)) s) {Q : Ex → St → Prop} :
    awp (cx [7] (pfL [])) (hdC 1 (tlC 2 c20B)) (thenQ (fun s' => at20 ta t.length i s' ∧ s'.e 14 = ii i ∧ D20 h n sa ta t (t.map (itemV vs)) tys wi m mm wb wj i (layT t (ownT vs t) (jmpT t (toP t (i + 1))) i ++ [ownT vs t i]) (namesTo t (i + 1)) s') Q) s := by
  obtain ⟨e, h1, n1⟩ := s
  have a0 := a
  obtain ⟨c, q15, hc⟩ := h15
  obtain ⟨q56, q57, q58⟩ := hat
  simp only [] at h14 q15 hc q56 q57 q58
  have hop := tree_op T hi
  have hown := prog_own (vs := vs) hi
  have hset := fun (b : Nat) (h9 : 25 ≤ t[i].op) (h8 : t[i].a = (b : Int)) => prog_set T (vs := vs) hi h9 h8
  have hpar := fun (b : Nat) (h9 : 25 ≤ t[i].op) (h8 : t[i].a = (b : Int)) => par_at T hi h9 h8
  have hbn := sz_bin T hi
  have hfew := few T
  have hpl := pos_lt (t := t) hi
  have hp' : t.length * 64 ≤ 140737488355328 := hp
  generalize hxx : t[i] = x at *
  obtain ⟨op, num, var, attr, xa, xb⟩ := x
  simp only [ncells, ii, ss] at hc h14 hop hown hset hpar hbn
  by_cases h25 : 25 ≤ op
  · obtain ⟨b1, b2, _⟩ := hbn (by omega)
    obtain ⟨b, rfl⟩ : ∃ b : Nat, xa = b := ⟨xa.toNat, by omega⟩
    obtain ⟨hs1, hs2⟩ := hset b h25 rfl
    have hpb := hpar b h25 rfl
    have hbi : b < i := by omega
    have hbt : b < t.length := by omega
    have hpp := pos_lt (t := t) hbi
    rw [hpb] at hpp
    simp only [Option.isSome_some, if_true] at hpp
    obtain ⟨x1, x2, x3, x4, x5, x6, x7, x8, x9, x10, ⟨ca, la, cs⟩, x12, x13, x14⟩ := a
    simp only [] at x1 x2 x3 x4 x5 x6 x7 x8 x9 x10 x12 x13 x14 cs
    have hjl : ((jpL t i).map ii).length = t.length := by rw [List.length_map, jpL_len]
    have hjb : b < ((jpL t i).map ii).length := by omega
    have hjg : ((jpL t i).map ii)[b]'hjb = .v (.int .i64 ((posT t b : Int) + 1)) := by
      rw [List.getElem_map]
      have := jpL_at hbt i
      rw [List.getElem?_eq_getElem (by rw [jpL_len]; exact hbt), if_pos ⟨hbi, by rw [hpb]; rfl⟩] at this
      rw [Option.some.inj this]; rfl
    have hb1 : b + 1 ≤ t.length := hbt
    have hcl : (progT vs t i ++ [ownT vs t i]).length = posT t i + 1 := by rw [List.length_append, prog_len]; rfl
    obtain ⟨w, u, rfl, hw, hw1, hw2, hw3, hw4⟩ := cs.hc.resolve_left (fun e => by have := e.1; simp at this)
    have hm := cs.hm
    have y1 : ¬ m = w := fun e => hw3 e.symm
    have hplb : posT t b + 1 < (progT vs t i).length := by rw [prog_len]; omega
    have hgl : (progT vs t i ++ [ownT vs t i])[posT t b + 1]'(by rw [hcl]; omega) = ⟨op, 0, 0, 0, 0⟩ := by
      rw [List.getElem_append_left hplb]
      rw [List.getElem?_eq_getElem hplb] at hs2
      exact Option.some.inj hs2
    have hfs := flat_set Flat.ins [] (c := 4) (by omega) (ii ((posT t i : Int) + 1)) ⟨op, 0, 0, 0, (posT t i : Int) + 1⟩ (progT vs t i ++ [ownT vs t i]) (posT t b + 1) (by rw [hcl]; omega) (by rw [hgl]; rfl)
    rw [List.append_nil, List.append_nil, List.set_append_left _ _ hplb, hs1] at hfs
    have hfl : ((progT vs t i ++ [ownT vs t i]).flatMap icells).length = (posT t i + 1) * 5 := by rw [flat_len Flat.ins, hcl]
    have hw1' : IntKind.i64.wrap ((posT t b : Int) + 1) = (posT t b : Int) + 1 := W_id (by unfold Rng; omega)
    rw [hcl] at hm
    generalize hcs : (progT vs t i ++ [ownT vs t i]).flatMap icells = cells at *
    generalize hjs : (jpL t i).map ii = js at *
    have hag : ∀ bk : Option Blk, agree n h (Eng.up h1 w bk) := fun bk => (agree_up (by have := hw1.1; omega) _).2 x13
    have hcl' : (layT t (ownT vs t) (jmpT t (toP t (i + 1))) i ++ [ownT vs t i]).length = posT t i + 1 := by rw [List.length_append, lay_len]; rfl
    have fin : ∀ (e2 : Nat → AV), (∀ j ∈ [2, 6, 7, 9, 10, 13], e2 j = e j) → D20 h n sa ta t (t.map (itemV vs)) tys wi m mm wb wj i (layT t (ownT vs t) (jmpT t (toP t (i + 1))) i ++ [ownT vs t i]) (namesTo t (i + 1)) ⟨e2, Eng.up h1 w (some ⟨cells.set ((posT t b + 1) * 5 + 4) (.v (.int .i64 ((posT t i : Int) + 1))), u, true, 5⟩), n1 + 1⟩ := fun e2 he => by
      have hwb := hw1.2.2.1
      have hwj := hw1.2.2.2
      have hwi := hw1.2.1
      have hwn := hw1.1
      refine ⟨by simp only [he 2 (by simp)]; exact x1, by simp only [he 6 (by simp)]; exact x2, by simp only [he 7 (by simp)]; exact x3, by simp only [he 9 (by simp)]; exact x4, by simp only [he 10 (by simp)]; exact x5, by simp only [he 13 (by simp)]; exact x6, ?_, ?_, ?_, ?_, ⟨.s w u 0 (layT t (ownT vs t) (jmpT t (toP t (i + 1))) i ++ [ownT vs t i]).length, la, ?_⟩, ⟨x12.1, x12.2.1, x12.2.2.1, x12.2.2.2.1, x12.2.2.2.2.1, by simp only []; omega⟩, hag _, (fresh_up (by simp only []; omega) _).2 (x14.add 1)⟩
      · simp only []; rw [up_ne _ _ (by omega)]; exact x7
      · simp only []; rw [up_ne _ _ (fun e => hwi e.symm)]; exact x8
      · simp only []; rw [up_ne _ _ (fun e => hwb e.symm)]; exact x9
      · simp only []; rw [up_ne _ _ (fun e => hwj e.symm), hjs]; exact x10
      · refine cs.lay (n' := n1 + 1) (by simp only []; rw [up_ne _ _ y1, hcl']; exact hm) (rd_agr hn e1 _ (hag _)) (fun q _ _ _ hq => up_ne _ _ (fun e => hq e.symm)) (by omega) (fun q hq => .inl hq) (.inr ⟨w, u, rfl, ?_, hw1, by omega, hw3, hw4⟩)
        simp only []
        rw [up_same, ← hfs]
        rfl
    have hbl2 : (posT t b + 1) * 5 + 5 ≤ cells.length := by rw [hfl]; omega
    rcases (show op = 25 ∨ op = 26 by omega) with rfl | rfl
    · simp [evs, aeval, binS, cx_ti, cx_G, cx_pf, cx_tw, ti, globS, glob, ldcs_1, ldcs_2, ldcs_3, ldcs_4, ldcs_5, ldcs_7, sls.eq_1, slc.eq_1, pfL, hdC, tlC, c20B, c20L, inB, bodyL, Tryd.f20, h14, q15, hc, x4, x6, x10, ii, hm, hb1, hbt, hjl, hjg, hw]
      exact ⟨⟨by omega, by omega⟩, hbl2, ⟨by simpa [up] using q56, by simpa [up, ii] using q57, by simpa [up, ii] using q58⟩, fin _ (by simp [up])⟩
    · simp [evs, aeval, binS, cx_ti, cx_G, cx_pf, cx_tw, ti, globS, glob, ldcs_1, ldcs_2, ldcs_3, ldcs_4, ldcs_5, ldcs_7, sls.eq_1, slc.eq_1, pfL, hdC, tlC, c20B, c20L, inB, bodyL, Tryd.f20, h14, q15, hc, x4, x6, x10, ii, hm, hb1, hbt, hjl, hjg, hw]
      exact ⟨⟨by omega, by omega⟩, hbl2, ⟨by simpa [up] using q56, by simpa [up, ii] using q57, by simpa [up, ii] using q58⟩, fin _ (by simp [up])⟩
  · have hle := hown (by omega)
    rw [hle] at a0
    have o25 : ¬ op = 25 := by omega
    have o26 : ¬ op = 26 := by omega
    simp [evs, aeval, binS, cx_ti, cx_G, cx_pf, cx_tw, ti, globS, glob, ldcs_1, ldcs_2, ldcs_3, ldcs_4, ldcs_5, ldcs_7, sls.eq_1, slc.eq_1, pfL, hdC, tlC, c20B, c20L, inB, bodyL, Tryd.f20, h14, q15, hc, ii, o25, o26]
    exact ⟨⟨by simpa [up] using q56, by simpa [up, ii] using q57, by simpa [up, ii] using q58⟩, a0.up (by simp [up]) rfl rfl⟩
end
end Go.Proofs.YtkfphaphiikloaaDoor

/-
  COMPILING, PART K: Compile: a jump; all of it.
-/
namespace Go.Proofs.YtkfphaphiikloaaDoor
open Go Go.Eng

section
set_option maxRecDepth 100000
set_option maxHeartbeats 4000000
variable {h : Heap} {n : Nat} {sa ta : AV} {tys : List Ty} {t : List Nd} {vs : List ByteArray} {wi m mm wb wj i : Nat} {lo : Nat → Nat}
/-- The jump behind the node. -/
theorem c20f3 (T : Tre t lo) (hp : smallT t) (s : St) (hi : i < t.length) (hat : at20 ta t.length i s) (h14 : s.e 14 = ii i)
    (e1 : rd dTys h sa = some tys) (hn : Fresh n h) (a : D20 h n sa ta t (t.map (itemV vs)) tys wi m mm wb wj i (layT t (ownT vs t) (jmpT t (toP t (i + 1))) i ++ [ownT vs t i]) (namesTo t (i + 1)) s) {Q : Ex → St → Prop} :
    awp (cx [7] (pfL [])) (tlC 3 c20B) (thenQ (fun s' => at20 ta t.length i s' ∧ D20 h n sa ta t (t.map (itemV vs)) tys wi m mm wb wj (i + 1) (progT vs t (i + 1)) (namesTo t (i + 1)) s') Q) s := by
  obtain ⟨e, h1, n1⟩ := s
  have a0 := a
  obtain ⟨q56, q57, q58⟩ := hat
  simp only [] at h14 q56 q57 q58
  obtain ⟨x1, x2, x3, x4, x5, x6, x7, x8, x9, x10, ⟨ca, la, cs⟩, x12, x13, x14⟩ := a
  simp only [] at x1 x2 x3 x4 x5 x6 x7 x8 x9 x10 x12 x13 x14 cs
  have hsucc := prog_succ T vs i
  have hfew := few T
  have hpl := pos_lt (t := t) hi
  have hp' : t.length * 64 ≤ 140737488355328 := hp
  have hbl : ((bhL t t.length).map ii).length = t.length := by rw [List.length_map, bhL_len]
  have hib : i < ((bhL t t.length).map ii).length := by omega
  have hbg : ((bhL t t.length).map ii)[i]'hib = .v (.int .i64 (bhT t t.length i)) := by
    rw [List.getElem_map]
    have := bhL_at hi t.length
    rw [List.getElem?_eq_getElem (by rw [bhL_len]; exact hi)] at this
    rw [Option.some.inj this]; rfl
  have hi1 : i + 1 ≤ t.length := hi
  have hjl : ((jpL t i).map ii).length = t.length := by rw [List.length_map, jpL_len]
  have hcl : (layT t (ownT vs t) (jmpT t (toP t (i + 1))) i ++ [ownT vs t i]).length = posT t i + 1 := by rw [List.length_append, lay_len]; rfl
  generalize hbs : (bhL t t.length).map ii = bs at *
  cases hpar : parT t i with
  | none =>
    rw [hpar] at hsucc
    simp only [Option.isSome_none, Bool.false_eq_true, if_false] at hsucc
    have hb0 : bhT t t.length i = 0 := by rw [bh_end, hpar]
    have hjs := jpL_skip hpar
    rw [hb0] at hbg
    simp [evs, aeval, binS, cx_ti, cx_G, cx_pf, cx_tw, ti, globS, glob, ldcs_1, ldcs_2, ldcs_3, ldcs_4, ldcs_5, ldcs_7, sls.eq_1, slc.eq_1, pfL, hdC, tlC, c20B, c20L, inB, bodyL, Tryd.f20, h14, x5, x9, ii, hi, hi1, hbl, hbg]
    rw [hsucc]
    refine ⟨⟨by simpa [up] using q56, by simpa [up, ii] using q57, by simpa [up, ii] using q58⟩, by simpa [up] using x1, by simpa [up] using x2, by simpa [up] using x3, by simpa [up] using x4, by simpa [up] using x5, by simpa [up] using x6, x7, x8, by simp only []; rw [hbs]; exact x9, by simp only []; rw [hjs]; exact x10, ⟨ca, la, cs⟩, x12, x13, x14⟩
  | some p =>
    rw [hpar] at hsucc
    simp only [Option.isSome_some, if_true] at hsucc
    obtain ⟨hp1, hp2, hp3⟩ := par_is hpar
    have hb0 : ¬ bhT t t.length i = 0 := by rw [bh_end, hpar]; simp only; rw [getD_at hp1]; omega
    have hjs := jpL_set hi (by rw [hpar]; rfl)
    have hjs2 : (((jpL t i).map ii).set i (.v (.int .i64 ((posT t i : Int) + 1)))) = (jpL t (i + 1)).map ii := by rw [← hjs, List.map_set]; rfl
    have hm := cs.hm
    obtain ⟨k1, k2, k3, k4, k5⟩ := ca_is cs
    rw [hcl] at k2
    have wjG : ¬ G20 n wi wb wj wj := fun hx => hx.2.2.2 rfl
    have y1 : ¬ m = wj := by omega
    have y2 : ¬ wb = wj := by omega
    have c1 : CS (Eng.up h1 wj (some ⟨((jpL t i).map ii).set i (.v (.int .i64 ((posT t i : Int) + 1))), 0, true, 1⟩)) (G20 n wi wb wj) (n1 + 1) m tys sa ca la mm (layT t (ownT vs t) (jmpT t (toP t (i + 1))) i ++ [ownT vs t i]) (namesTo t (i + 1)) := by
      obtain ⟨z1, z2, z3, z4, z5, z6, z7⟩ := cs
      refine ⟨by rw [up_ne _ _ y1]; exact z1, ⟨z2.1, by omega⟩, rd_agr hn e1 _ ((agree_up (by omega) _).2 x13), ?_, ?_, by rw [up_ne _ _ (by omega)]; exact z6, ⟨z7.1, by omega, z7.2.2⟩⟩
      · rcases z4 with h0 | ⟨w, u, k1, k2, k3, k4, k5⟩
        · exact .inl h0
        · exact .inr ⟨w, u, k1, by rw [up_ne _ _ k3.2.2.2]; exact k2, k3, by omega, k5⟩
      · rcases z5 with h0 | ⟨w, u, cs, k1, k2, k3, k4, k5, k6, k7, k8, k9⟩
        · exact .inl h0
        · refine .inr ⟨w, u, cs, k1, by rw [up_ne _ _ k3.2.2.2]; exact k2, k3, by omega, k5, k6, k7, k8, fun i hi => ?_⟩
          obtain ⟨cc, j1, j2⟩ := k9 i hi
          exact ⟨cc, j1, j2.up (fun q hg _ _ => up_ne _ _ hg.2.2.2) (fun _ _ _ hx => hx) (by omega)⟩
    have L := c56 c1 ⟨bhT t t.length i, 0, 0, 0, 0⟩ (by rw [hcl]; omega) (fun q hq => ⟨by omega, by omega, by omega, by omega⟩) (fun h' hk9 => rd_agr hn e1 _ fun q hq => by
      rw [hk9 q (by omega) (fun hx => by have := hx.1; omega), up_ne _ _ (by omega)]; exact x13 q hq) ((fresh_up (by omega) _).2 (x14.add 1))
    simp only [iv, icells, ii] at L
    generalize hjj : (jpL t i).map ii = js at *
    simp [evs, aeval, binS, cx_ti, cx_G, cx_pf, cx_tw, ti, globS, glob, ldcs_1, ldcs_2, ldcs_3, ldcs_4, ldcs_5, ldcs_7, sls.eq_1, slc.eq_1, pfL, hdC, tlC, c20B, c20L, inB, bodyL, Tryd.f20, h14, x4, x5, x6, x9, x10, ii, hi, hi1, hbl, hbg, hb0, hjl, hm, y2, k1, k2, k3, k4, k5]
    refine (acall_any (S := []) (by simp) L).mono ?_
    rintro v h2 n2 ⟨a1, a2, a3, ca', a4⟩
    rw [hsucc]
    have b3 : ∀ q, q < n1 → ¬ G20 n wi wb wj q → q ≠ wj → h2 q = h1 q := fun q hq hg hw => by rw [a1 q (by omega) hg, up_ne _ _ hw]
    rw [List.append_assoc] at a4
    refine ⟨⟨by simpa [up] using q56, by simpa [up, ii] using q57, by simpa [up, ii] using q58⟩, by simpa [up] using x1, by simpa [up] using x2, by simpa [up] using x3, by simpa [up] using x4, by simpa [up] using x5, by simpa [up] using x6, ?_, ?_, ?_, ?_, ⟨ca', la, a4⟩, ⟨x12.1, x12.2.1, x12.2.2.1, x12.2.2.2.1, x12.2.2.2.2.1, by simp only []; omega⟩, fun q hq => ?_, a2⟩
    · simp only []
      rw [b3 _ (by omega) (fun hx => by have := hx.1; omega) (by omega)]; exact x7
    · simp only []
      rw [b3 _ (by omega) (fun hx => hx.2.1 rfl) (by omega)]; exact x8
    · simp only []
      rw [b3 _ (by omega) (fun hx => hx.2.2.1 rfl) (by omega), hbs]; exact x9
    · simp only []
      rw [a1 _ (by omega) wjG, up_same, hjs2]
    · simp only []
      rw [b3 _ (by omega) (fun hx => by have := hx.1; omega) (by omega)]; exact x13 q hq
/-- The loop over the nodes. -/
theorem c20f (T : Tre t lo) (e5 : rd dNs h ta = some t) (e1 : rd dTys h sa = some tys) (hp : smallT t) (htl : tys.length * 8 ≤ 140737488355328) (hst : smallS tys) (hn : Fresh n h) (s : St)
    (a : D20 h n sa ta t (t.map (itemV vs)) tys wi m mm wb wj 0 [] [] s) {Q : Ex → St → Prop} :
    awp (cx [7] (pfL [])) (hdC 1 (tlC 7 (Tryd.f20.body.getD .skip))) (thenQ (D20 h n sa ta t (t.map (itemV vs)) tys wi m mm wb wj t.length (codeT vs t) (namesOf t)) Q) s := by
  obtain ⟨e, h1, n1⟩ := s
  have a0 := a
  have x1 := a.q2
  simp only [] at x1
  obtain ⟨s1, s2, s3, s4, s5⟩ := sl_is e5
  have hp' : t.length * 64 ≤ 140737488355328 := hp
  have e0 : hdC 1 (tlC 7 (Tryd.f20.body.getD .skip)) = .seq (hdC 1 (hdC 1 (tlC 7 (Tryd.f20.body.getD .skip)))) (.block 3 (.loop c20L)) := rfl
  rw [e0]
  have hpe := prog_end (t := t) vs
  simp [evs, aeval, binS, cx_ti, cx_G, cx_pf, cx_tw, ti, globS, glob, ldcs_1, ldcs_2, ldcs_3, ldcs_4, ldcs_5, ldcs_7, sls.eq_1, slc.eq_1, pfL, hdC, tlC, Tryd.f20, x1, s1, s2, s3]
  refine awp_loop (fun s => ∃ i, i ≤ t.length ∧ at20 ta t.length i s ∧ D20 h n sa ta t (t.map (itemV vs)) tys wi m mm wb wj i (progT vs t i) (namesTo t i) s) (fun s => t.length - (s.e 58).i.toNat) ⟨0, by omega, ⟨by simp [up], by simp [up, ii], by simp [up, ii]⟩, a0.up (by simp [up, x1]) rfl rfl⟩ ?_
  rintro e' h' n' ⟨i, hi, hat, a⟩
  by_cases hlt : i < t.length
  · have hw := wrap_nat (j := i) (by unfold big; omega)
    refine awp_cut 2 _ _ (R := fun s => at20 ta t.length i s ∧ D20 h n sa ta t (t.map (itemV vs)) tys wi m mm wb wj i (progT vs t i) (namesTo t i) s) ?_ fun e2 h2 n2 ⟨hat2, a2⟩ => ?_
    · obtain ⟨q56, q57, q58⟩ := hat
      simp only [] at q56 q57 q58
      simp [evs, aeval, binS, cx_ti, cx_G, cx_pf, cx_tw, ti, globS, glob, ldcs_1, ldcs_2, ldcs_3, ldcs_4, ldcs_5, ldcs_7, sls.eq_1, slc.eq_1, pfL, hdC, tlC, c20L, bodyL, Tryd.f20, q57, q58, ii, hlt]
      exact ⟨⟨by simpa [up] using q56, by simpa [up, ii] using q57, by simpa [up, ii] using q58⟩, a.up (by simp [up]) rfl rfl⟩
    refine awp_cut 1 _ _ (R := fun s => at20 ta t.length i s ∧ D20 h n sa ta t (t.map (itemV vs)) tys wi m mm wb wj (i + 1) (progT vs t (i + 1)) (namesTo t (i + 1)) s) ?_ fun e3 h3 n3 ⟨hat3, a3⟩ => ?_
    · have e1' : hdC 1 (tlC 2 c20L) = .block 4 c20B := rfl
      rw [e1', awp_block]
      refine awp_cut 2 _ _ (c20f1 T e5 e1 hp htl hst hn _ hlt hat2 a2) fun e4 h4 n4 ⟨hat4, h14, h15, a4⟩ => ?_
      refine awp_cut 1 _ _ (c20f2 T hp _ hlt hat4 h14 h15 e1 hn a4) fun e5' h5 n5 ⟨hat5, h14', a5⟩ => ?_
      refine awp_mono _ (fun x s hx => ?_) (c20f3 T hp _ hlt hat5 h14' e1 hn a5 (Q := fun _ _ => False))
      cases x with
      | normal => exact hx
      | exit id => exact hx.elim
      | ret => exact hx.elim
    · obtain ⟨q56, q57, q58⟩ := hat3
      simp only [] at q56 q57 q58
      have q58' := hat.2.2
      simp only [] at q58'
      simp [evs, aeval, binS, cx_ti, cx_G, cx_pf, cx_tw, ti, globS, glob, ldcs_1, ldcs_2, ldcs_3, ldcs_4, ldcs_5, ldcs_7, sls.eq_1, slc.eq_1, pfL, hdC, tlC, c20L, bodyL, Tryd.f20, q57, q58, q58', ii, hw]
      exact ⟨⟨i + 1, by omega, ⟨by simpa [up] using q56, by simpa [up, ii] using q57, by simp [up, ii]⟩, a3.up (by simp [up]) rfl rfl⟩, by omega⟩
  · obtain rfl : i = t.length := by omega
    obtain ⟨q56, q57, q58⟩ := hat
    simp only [] at q56 q57 q58
    rw [hpe] at a
    simp [evs, aeval, binS, cx_ti, cx_G, cx_pf, cx_tw, ti, globS, glob, ldcs_1, ldcs_2, ldcs_3, ldcs_4, ldcs_5, ldcs_7, sls.eq_1, slc.eq_1, pfL, hdC, tlC, c20L, bodyL, Tryd.f20, q57, q58, ii]
    exact a.up (by simp [up]) rfl rfl
/-- The end. -/
theorem c20g (s : St) {code : List Ins} {names : List ByteArray} {i : Nat} (a : D20 h n sa ta t (t.map (itemV vs)) tys wi m mm wb wj i code names s) :
    awp (cx [7] (pfL [])) (tlC 8 (Tryd.f20.body.getD .skip)) (finQ (cx [7] (pfL [])) Tryd.f20 fun z h' n' => agree n h h' ∧ Fresh n' h' ∧ n ≤ n' ∧ OwnQ h' n n' z ⟨code, names.map (colOf tys)⟩) s := by
  obtain ⟨e, h1, n1⟩ := s
  obtain ⟨x1, x2, x3, x4, x5, x6, x7, x8, x9, x10, ⟨ca, la, cs⟩, x12, x13, x14⟩ := a
  simp only [] at x1 x2 x3 x4 x5 x6 x7 x8 x9 x10 x12 x13 x14 cs
  obtain ⟨k1, k2, k3, k4, k5⟩ := ca_is cs
  obtain ⟨l1, l2, l3, l4, l5⟩ := la_is cs
  have hm := cs.hm
  have y1 : ¬ m = n + 2 := by omega
  simp [evs, aeval, binS, cx_ti, cx_G, cx_pf, cx_tw, ti, globS, glob, ldcs_1, ldcs_2, ldcs_3, ldcs_4, ldcs_5, ldcs_7, sls.eq_1, slc.eq_1, pfL, tlC, Tryd.f20, x2, x4, x7, hm, y1, k3, k4, k5, l3, l4, l5]
  have hag : ∀ b : Option Blk, agree n h (up h1 (n + 2) b) := fun b => (agree_up (by omega) _).2 x13
  refine ⟨hag _, (fresh_up (by omega) _).2 (x14.add 1), by omega, ca, la, rfl, ?_, ?_⟩
  · rcases cs.hc with h0 | ⟨w, u, c1, c2, c3, c4, c5, c6⟩
    · exact .inl h0
    · exact .inr ⟨w, u, c1, by rw [up_ne _ _ (by have := c3.1; omega)]; exact c2, by have := c3.1; omega, by omega⟩
  · rcases cs.hl with ⟨h0, h1⟩ | ⟨w, u, cs', c1, c2, c3, c4, c5, c6, c7, c8, c9⟩
    · exact .inl ⟨by rw [h0]; rfl, h1⟩
    · refine .inr ⟨w, u, cs', by rw [c1, List.length_map], by rw [up_ne _ _ (by have := c3.1; omega)]; exact c2, by have := c3.1; omega, by omega, c7, by rw [List.length_map]; exact c8, fun i hi' => ?_⟩
      obtain ⟨cc, j1, j2⟩ := c9 i (by rw [List.length_map] at hi'; exact hi')
      refine ⟨cc, j1, ?_⟩
      rw [List.getElem_map]
      rcases j2 with j0 | ⟨b, v, d1, d2, d3, d4, d5⟩
      · exact .inl j0
      · exact .inr ⟨b, v, d1, by rw [up_ne _ _ (by have := d3.1; omega)]; exact d2, by have := d3.1; omega, by omega, fun hx => d5 (by rcases hx with hx | hx; exact .inr (.inr (.inl hx)); exact .inr (.inr (.inr hx)))⟩
/-- COMPILE: the program of a tree, in memory of its own. -/
theorem c20 {qx : AV} {q : Qu} (e1 : rd dTys h sa = some tys) (e2 : deQ h qx = some q) (e5 : rd dNs h ta = some t) (hq : q.items.length < big) (hp : smallT t) (htl : tys.length * 8 ≤ 140737488355328) (hst : smallS tys) (hn : Fresh n h) :
    ACall (cx [7] (pfL [])) 20 [.g [sa], qx, ta] h n fun z h' n' => agree n h h' ∧ Fresh n' h' ∧ n ≤ n' ∧ OwnQ h' n n' z (compP tys (vars q.items) t) := by
  refine acall_of_awp (args := [.g [sa], qx, ta]) (pfL_ok tb_nil) (mixed _ _) Tryd.func20 (c := Tryd.f20.body.getD .skip) rfl (by kernel_rfl) (callable Tryd.func20 rfl rfl _ _) (show 3 ≤ Tryd.f20.ntmps by decide +kernel) ?_
  refine awp_cut 2 _ _ (c20a e1 e2 e5 hq hp hn _ rfl rfl rfl) fun e3 h3 n3 hx => ?_
  rcases hx with ⟨hr, h8, wi, a⟩ | ⟨hr, h8, h6, hk, ha, hf, hnn⟩
  · have hcp : compP tys (vars q.items) t = ⟨codeT (vars q.items) t, (namesOf t).map (colOf tys)⟩ := by rw [compP, if_pos hr]
    have T := tre_of (show tree1 t = true by simp only [runT, Bool.and_eq_true] at hr; exact hr.1)
    rw [hcp]
    refine awp_cut 1 _ _ (c20b1 _ h8 a) fun e4 h4 n4 a4 => ?_
    refine awp_cut 2 _ _ (c20c e5 hp e1 _ a4) fun e5' h5 n5 ⟨m, mm, wb, a5⟩ => ?_
    refine awp_cut 1 _ _ (c20d T e5 hp hn _ a5) fun e6 h6 n6 a6 => ?_
    refine awp_cut 1 _ _ (c20e e5 e1 hp hn _ a6) fun e7 h7 n7 ⟨wj, a7⟩ => ?_
    refine awp_cut 1 _ _ (c20f T e5 e1 hp htl hst hn _ a7) fun e8 h8 n8 a8 => ?_
    exact c20g _ a8
  · have hcp : compP tys (vars q.items) t = ⟨[], []⟩ := by rw [compP, if_neg (by rw [hr]; exact Bool.false_ne_true)]
    rw [hcp]
    exact awp_cut 1 _ _ (c20b2 _ h8 h6 hk ha hf hnn) (R := fun _ => False) fun _ _ _ hf => hf.elim
end
end Go.Proofs.YtkfphaphiikloaaDoor

/-
  TREES, PART J: an attribute of an event of a list, on both sides.
-/
namespace Go.Proofs.YtkfphaphiikloaaDoor
open Go Go.Eng

/-- What an evaluator holds. -/
structure Evr where
  sc : List Ty
  t : List Nd
  its : List Int
  en : En
def deEvc (h : Heap) : List AV → Option Evr
  | [a, b, c, d, .v (.int .i64 each), .v (.int .i64 pos)] => match rd dTys h a, rd dNs h b, rd dIs h c, rd dEss h d with
    | some x, some y, some z, some w => some ⟨x, y, z, ⟨w, each, pos⟩⟩
    | _, _, _, _ => none
  | _ => none
theorem deEvc_out {h : Heap} {l : List AV} {q : Evr} (e : deEvc h l = some q) : ∃ a b c d, l = [a, b, c, d, ii q.en.each, ii q.en.pos] ∧ rd dTys h a = some q.sc ∧ rd dNs h b = some q.t ∧ rd dIs h c = some q.its ∧ rd dEss h d = some q.en.ls := by
  unfold deEvc at e
  split at e
  · split at e
    · rename_i e1 e2 e3 e4
      cases e
      exact ⟨_, _, _, _, rfl, e1, e2, e3, e4⟩
    · cases e
  · cases e
theorem deEvc_in {h : Heap} {a b c d : AV} {q : Evr} (h1 : rd dTys h a = some q.sc) (h2 : rd dNs h b = some q.t) (h3 : rd dIs h c = some q.its) (h4 : rd dEss h d = some q.en.ls) : deEvc h [a, b, c, d, .v (.int .i64 q.en.each), .v (.int .i64 q.en.pos)] = some q := by
  simp only [deEvc, h1, h2, h3, h4]
def deEvr (h : Heap) : AV → Option Evr
  | .p id v 0 => match h id with
    | some k => if k.ver = v then deEvc h k.cells else none
    | none => none
  | _ => none
theorem deEvr_out {h : Heap} {x : AV} {q : Evr} (e : deEvr h x = some q) : ∃ id a b c d ver own esz, x = .p id ver 0 ∧ h id = some ⟨[a, b, c, d, .v (.int .i64 q.en.each), .v (.int .i64 q.en.pos)], ver, own, esz⟩ ∧ rd dTys h a = some q.sc ∧ rd dNs h b = some q.t ∧ rd dIs h c = some q.its ∧ rd dEss h d = some q.en.ls := by
  unfold deEvr at e
  split at e
  · split at e
    · rename_i k hk
      split at e
      · rename_i hv
        obtain ⟨a, b, c, d, h1, h2, h3, h4, h5⟩ := deEvc_out e
        obtain ⟨cells, ver, own, esz⟩ := k
        simp only [] at h1 hv
        subst h1; subst hv
        exact ⟨_, a, b, c, d, _, own, esz, rfl, hk, h2, h3, h4, h5⟩
      · cases e
    · cases e
  · cases e
theorem deEvr_in {h : Heap} {id ver : Nat} {own : Bool} {esz : Nat} {a b c d : AV} {q : Evr} (hk : h id = some ⟨[a, b, c, d, .v (.int .i64 q.en.each), .v (.int .i64 q.en.pos)], ver, own, esz⟩) (h1 : rd dTys h a = some q.sc) (h2 : rd dNs h b = some q.t) (h3 : rd dIs h c = some q.its) (h4 : rd dEss h d = some q.en.ls) : deEvr h (.p id ver 0) = some q := by
  simp only [deEvr, hk, if_true, deEvc_in h1 h2 h3 h4]
theorem deEvr_sim {h h' : Heap} (hh : h.sim h') {x : AV} {q : Evr} (e : deEvr h x = some q) : deEvr h' x = some q := by
  obtain ⟨id, a, b, c, d, ver, own, esz, rfl, hk, r1, r2, r3, r4⟩ := deEvr_out e
  obtain ⟨⟨cells, ver', own', esz'⟩, hk', h1, h2⟩ := hh _ _ hk
  simp only [] at h1 h2
  subst h1; subst h2
  exact deEvr_in hk' (rd_sim hh r1) (rd_sim hh r2) (rd_sim hh r3) (rd_sim hh r4)
theorem evr_agree {h : Heap} {n : Nat} {a : AV} {x : Evr} (hn : ∀ i, n ≤ i → h i = none) (e : deEvr h a = some x) : ∀ h', agree n (roH h) h' → deEvr h' a = some x := fun _ ha => deEvr_sim (agree_sim hn ha) e
def smallR (sc : List Ty) (l : List Ev) : Prop := smallS sc ∧ l.length < big
def de109 (h : Heap) : List AV → Option (Evr × List Ev × Int × ByteArray)
  | [p, a, .v (.int .i64 x), .v (.string s)] => match deEvr h p, rd dEs h a with
    | some q, some l => some (q, l, x, s)
    | _, _ => none
  | _ => none
theorem de109_out {h : Heap} {args : List AV} {q : Evr × List Ev × Int × ByteArray} (e : de109 h args = some q) : ∃ p a, args = [p, a, ii q.2.2.1, ss q.2.2.2] ∧ deEvr h p = some q.1 ∧ rd dEs h a = some q.2.1 := by
  unfold de109 at e
  split at e
  · split at e
    · rename_i e1 e2
      cases e
      exact ⟨_, _, rfl, e1, e2⟩
    · cases e
  · cases e
theorem de109_mono (h h' : Heap) (args : List AV) (q : Evr × List Ev × Int × ByteArray) (hh : h.le h') (e : de109 h args = some q) : de109 h' args = some q := by
  obtain ⟨p, a, rfl, e1, e2⟩ := de109_out e
  simp only [de109, ii, ss, deEvr_sim hh.sim e1, rd_mono hh e2]
def G109 := pureH de109 (fun q => smallR q.1.sc q.2.1) fun q => vv (oneV q.2.1 q.2.2.1 (colOf q.1.sc q.2.2.2))
def tb109 : List (FuncId × (List AV → Heap → PRes)) := [(121, GAt), (124, g124)]
set_option maxRecDepth 100000 in
set_option maxHeartbeats 1000000 in
theorem P109 : P0 [] 109 G109 := by
  refine mkH 4 (S := []) (l := tb109) (tb_cons P121 (tb_cons p124 tb_nil)) Tryd.func109 rfl (by kernel_rfl) de109_mono (fun h l x e => by obtain ⟨p, a, rfl, _⟩ := de109_out e; exact Nat.le_refl _) (fun a => rfl) (fun args q h n e hp hn => ?_)
  obtain ⟨q, l, i, attr⟩ := q
  obtain ⟨p, a, rfl, e1, e2⟩ := de109_out e
  simp only [] at e1 e2 ⊢
  obtain ⟨hp1, hp2⟩ := hp
  simp only [] at hp1 hp2
  obtain ⟨id', c1, c2, c3, c4, ver', own', esz', rfl, hk', r1, r2, r3, r4⟩ := deEvr_out e1
  obtain ⟨s1, s2, s3, s4, s5⟩ := sl_is e2
  obtain ⟨t1, t2, t3, t4, t5⟩ := sl_is r1
  by_cases hi : i < 0
  · simp [evs, aeval, binS, cx_ti, cx_G, cx_pf, cx_tw, ti, globS, glob, ldcs_1, ldcs_2, ldcs_3, ldcs_4, ldcs_5, ldcs_7, sls, slc, pfL, ii, vv, one_low _ hi, unk, hi, s1, s2, s3]
  obtain ⟨j, rfl⟩ : ∃ j : Nat, i = j := ⟨i.toNat, by omega⟩
  by_cases hj : j < l.length
  · rcases es_at e2 with ⟨h0, _⟩ | ⟨id, off, k, rfl, hk, ho, hat⟩
    · rw [h0] at hj; simp at hj
    have hr := hat j hj
    have hro := ro_at hk
    have h0 := ne_of hk hn 0
    have hro' := ro_at hk'
    have h0' := ne_of hk' hn 0
    simp only [Nat.add_zero] at h0 h0' hro'
    have hle : ∀ (X : Ctx) (h' : Heap), h' id = some ⟨k.cells, k.ver, false, k.esz⟩ → ldcs X h' (.p id k.ver (off + j * 11)) 0 11 = ecells l[j] := fun X h' e => ldcs_ev e hr
    have hw : off + (j * 11 + 11) ≤ k.cells.length := by omega
    have hw2 : off + (j * 11 + 3) ≤ k.cells.length := by omega
    have hty := cell_of (c := 2) hr rfl (by omega)
    rw [Nat.add_assoc] at hty
    have hj' : ¬ l.length ≤ j := by omega
    have gsc : ∀ h', agree n (roH h) h' → deSc h' (.g [c1]) = some q.sc := fun h' ha => rd_agree hn r1 h' ha
    have hv := one_col (sc := q.sc) (name := attr) hj
    rw [hv]
    generalize l[j] = ev1 at *
    simp [evs, aeval, binS, cx_ti, cx_G, cx_pf, cx_tw, ti, globS, glob, ldcs_1, ldcs_2, ldcs_3, ldcs_4, ldcs_5, ldcs_7, sls, slc, pfL, ii, ss, vv, hj, hj', hro, h0, hro', h0', hle, hw, hw2, hty, tb109, GAt, pureH, deAt, gsc, agree_up, agree_refl, hp1, g124, pure2, deE_ee, deI]
  · have hj' : l.length ≤ j := by omega
    simp [evs, aeval, binS, cx_ti, cx_G, cx_pf, cx_tw, ti, globS, glob, ldcs_1, ldcs_2, ldcs_3, ldcs_4, ldcs_5, ldcs_7, sls, slc, pfL, ii, vv, one_high _ (show (l.length : Int) ≤ (j : Int) by omega), unk, hj', s1, s2, s3]
/-! ### the document's -/
end Go.Proofs.YtkfphaphiikloaaDoor

/-
  TREES, PART N: aggregates over a list, on both sides.
-/
namespace Go.Proofs.YtkfphaphiikloaaDoor
open Go Go.Eng

def okF (sc : List Ty) (l : List Ev) : Prop := smallS sc ∧ l.length ≤ 2147483647 ∧ ∀ e ∈ l, EvOk e
def de110 (h : Heap) : List AV → Option (Evr × List Ev × Nd)
  | [p, a, x] => match deEvr h p, rd dEs h a, deN x with
    | some q, some l, some x => some (q, l, x)
    | _, _, _ => none
  | _ => none
theorem de110_out {h : Heap} {args : List AV} {q : Evr × List Ev × Nd} (e : de110 h args = some q) : ∃ p a, args = [p, a, nn q.2.2] ∧ deEvr h p = some q.1 ∧ rd dEs h a = some q.2.1 := by
  unfold de110 at e
  split at e
  · split at e
    · rename_i e1 e2 e3
      cases e
      exact ⟨_, _, by rw [deN_out e3], e1, e2⟩
    · cases e
  · cases e
theorem de110_mono (h h' : Heap) (args : List AV) (q : Evr × List Ev × Nd) (hh : h.le h') (e : de110 h args = some q) : de110 h' args = some q := by
  obtain ⟨p, a, rfl, e1, e2⟩ := de110_out e
  simp only [de110, deEvr_sim hh.sim e1, rd_mono hh e2, nn, deN_nn]
def G110 := pureH de110 (fun q => okF q.1.sc q.2.1) fun q => vv (allV q.2.1 (colOf q.1.sc q.2.2.attr) q.2.2.op)
def tb110 : List (FuncId × (List AV → Heap → PRes)) := [(109, G109), (125, g33)]
set_option maxRecDepth 100000 in
set_option maxHeartbeats 2000000 in
theorem P110 : P0 [1] 110 G110 := by
  refine mkH 3 (S := [1]) (l := tb110) (tb_cons P109 (tb_cons p33 tb_nil)) Tryd.func110 rfl (by kernel_rfl) de110_mono (fun h l x e => by obtain ⟨p, a, rfl, _⟩ := de110_out e; exact Nat.le_refl _) (fun a => rfl) (fun args q h n e hp hn => ?_)
  obtain ⟨v, l, ⟨op, num, var, attr, xa, xb⟩⟩ := q
  obtain ⟨p, a, rfl, e0, e1⟩ := de110_out e
  obtain ⟨hsc, hl, hev⟩ := hp
  simp only [] at e0 e1 hsc hl hev ⊢
  obtain ⟨s1, s2, s3, s4, s5⟩ := sl_is e1
  have g0 := evr_agree hn e0
  have g1 := rd_agree hn e1
  obtain ⟨id', c1, c2, c3, c4, ver', own', esz', hpp, _⟩ := deEvr_out e0
  have p1 : p.one ∧ (∀ g, AV.unc g p = p) ∧ p.cells = [p] ∧ p.isPtr := by rw [hpp]; exact ⟨trivial, fun _ => rfl, rfl, trivial⟩
  obtain ⟨p1, p2, p3, p4⟩ := p1
  generalize hc' : colOf v.sc attr = c' at *
  have key : ∀ e : Nat → AV, e 0 = p → e 1 = a → e 2 = nn ⟨op, num, var, attr, xa, xb⟩ → awp (cx [1] (pfL tb110)) (Tryd.f110.body.getD .skip) (finQ (cx [1] (pfL tb110)) Tryd.f110 fun z _ _ => z = vv (allV l c' op)) ⟨e, roH h, n⟩ := fun e q0 q1 q2 => by
    simp [evs, aeval, binS, cx_ti, cx_G, cx_pf, cx_tw, ti, globS, glob, ldcs_1, ldcs_2, ldcs_3, ldcs_4, ldcs_5, ldcs_7, sls.eq_1, slc.eq_1, pfL, Tryd.f110, q0, q1, q2, nn, ncells, ii, ss, s1, s2, s3]
    refine awp_loop (fun s => ∃ j, j ≤ l.length ∧ s.e 0 = p ∧ s.e 1 = a ∧ s.e 5 = .p n 0 0 ∧ s.e 6 = .p (n + 1) 0 0 ∧ Own s.h (n + 2) s.n (s.e 7) j ((colN l c' j).map ii) 1 ∧ s.e 10 = a ∧ s.e 11 = ii l.length ∧ s.e 12 = ii j ∧ agree n (roH h) s.h ∧ s.h n = some ⟨[ii op, ii num, ss var, ss attr, ii xa, ii xb], 0, true, 6⟩ ∧ s.h (n + 1) = some ⟨[.v (.bool false), .v (.int .i64 0)], 0, true, 2⟩ ∧ n + 2 ≤ s.n ∧ knownTo l c' j = true) (fun s => l.length - (s.e 12).i.toNat) ⟨0, by simp [up, q0, q1, q2, ii, ss, agree_up, agree_refl, colN, knownTo, Own]⟩ ?_
    rintro e' h' n' ⟨j, hj, q0, q1, q5, q6, hown, q10, q11, q12, hag, hb, hr, hnn, hkn⟩
    simp only [] at q0 q1 q5 q6 hown q10 q11 q12 hag hb hr hnn
    have f1 : n ≤ n' := by omega
    have f2 : n ≤ n' + 1 := by omega
    have f3 : n ≤ n' + 2 := by omega
    have f4 : n ≤ n' + 3 := by omega
    have z1 : ¬ n = n' := by omega
    have z2 : ¬ n = n' + 1 := by omega
    have z3 : ¬ n = n' + 2 := by omega
    have z4 : ¬ n = n' + 3 := by omega
    have w1 : ¬ n + 1 = n' := by omega
    have w2 : ¬ n + 1 = n' + 1 := by omega
    have w3 : ¬ n + 1 = n' + 2 := by omega
    have w4 : ¬ n + 1 = n' + 3 := by omega
    by_cases hlt : j < l.length
    · have hw := wrap_nat (j := j) (by unfold big; omega)
      have hsm : smallR v.sc l := ⟨hsc, by simp only [big]; omega⟩
      have hcn := colN_ints l c' j
      have hcl : ((colN l c' j).map ii).length = j := by rw [List.length_map, colN_len]
      generalize hx : oneV l (j : Int) c' = x at *
      generalize (colN l c' j).map ii = cs at *
      have hb3 : (j + 1) * 8 ≤ 140737488355328 := by omega
      have hb4 : j + 1 ≤ 9223372036854775807 := by omega
      cases hxk : x.k with
      | false =>
        have ha := all_no op hlt (by rw [hx]; exact hxk)
        have hu : x = unk := by rw [← hx]; exact oneV_unk (by rw [hx]; exact hxk)
        subst hu
        simp [evs, aeval, binS, cx_ti, cx_G, cx_pf, cx_tw, ti, globS, glob, ldcs_1, ldcs_2, ldcs_3, ldcs_4, ldcs_5, ldcs_7, sls.eq_1, slc.eq_1, pfL, q0, q1, q5, q6, q10, q11, q12, ii, ss, hlt, tb110, G109, pureH, de109, g0, g1, hag, agree_up, f1, f2, f3, hsm, hc', hx, vv, unk, z1, z2, z3, z4, w1, w2, w3, w4, hb, hr, ha, p1, p2, p3, p4]
      | true =>
        rcases hown with ⟨hj0, hnil, q7⟩ | ⟨w, u, q7, hk, hw1, hw2⟩
        · simp [evs, aeval, binS, cx_ti, cx_G, cx_pf, cx_tw, ti, globS, glob, ldcs_1, ldcs_2, ldcs_3, ldcs_4, ldcs_5, ldcs_7, sls.eq_1, slc.eq_1, pfL, q0, q1, q5, q6, q7, q10, q11, q12, ii, ss, hlt, tb110, G109, pureH, de109, g0, g1, hag, agree_up, f1, f2, f3, f4, hsm, hc', hx, vv, unk, z1, z2, z3, z4, w1, w2, w3, w4, hb, hr, hxk, hb3, hb4, hw, p1, p2, p3, p4]
          exact ⟨⟨j + 1, by omega, .inr ⟨n' + 3, 0, by rw [hj0], by rw [up_same, hcn, hnil]; rfl, by omega, by omega⟩, by omega, by rw [knownTo_succ, hkn, hx, hxk]; rfl⟩, by omega⟩
        · have y1 : ¬ w = n' := by omega
          have y2 : ¬ w = n' + 1 := by omega
          have y3 : ¬ w = n' + 2 := by omega
          have y4 : n ≤ w := by omega
          have y5 : ¬ n = w := by omega
          have y6 : ¬ n + 1 = w := by omega
          simp [evs, aeval, binS, cx_ti, cx_G, cx_pf, cx_tw, ti, globS, glob, ldcs_1, ldcs_2, ldcs_3, ldcs_4, ldcs_5, ldcs_7, sls.eq_1, slc.eq_1, pfL, q0, q1, q5, q6, q7, q10, q11, q12, ii, ss, hlt, tb110, G109, pureH, de109, g0, g1, hag, agree_up, f1, f2, f3, f4, hsm, hc', hx, vv, unk, z1, z2, z3, z4, w1, w2, w3, w4, hb, hr, hk, hxk, hcl, hb3, hb4, hw, y1, y2, y3, y4, y5, y6, p1, p2, p3, p4]
          exact ⟨⟨j + 1, by omega, .inr ⟨w, u + 1, rfl, by rw [up_same, hcn]; rfl, by omega, by omega⟩, by omega, by rw [knownTo_succ, hkn, hx, hxk]; rfl⟩, by omega⟩
    · have hje : j = l.length := by omega
      subst hje
      have hay := all_yes op hkn
      have hcl : (colN l c' l.length).length = l.length := colN_len ..
      have hlb : l.length < big := by unfold big; omega
      have hdi : deIs (List.take l.length ((colN l c' l.length).map ii)) = some (colN l c' l.length) := by
        rw [List.take_of_length_le (by rw [List.length_map, hcl]; exact Nat.le_refl _), deIs_ii]
      generalize colN l c' l.length = cn at *
      rcases hown with ⟨h0, hnil, q7⟩ | ⟨w, u, q7, hk, hw1, hw2⟩
      · have hcn0 : cn = [] := by simpa using hnil
        subst hcn0
        simp [evs, aeval, binS, cx_ti, cx_G, cx_pf, cx_tw, ti, globS, glob, ldcs_1, ldcs_2, ldcs_3, ldcs_4, ldcs_5, ldcs_7, sls.eq_1, slc.eq_1, pfL, q0, q1, q5, q6, q7, q10, q11, q12, ii, ss, tb110, g33, pureAL, deI, ints, vv, hb, hr, hag, hay, big]
      · simp [evs, aeval, binS, cx_ti, cx_G, cx_pf, cx_tw, ti, globS, glob, ldcs_1, ldcs_2, ldcs_3, ldcs_4, ldcs_5, ldcs_7, sls.eq_1, slc.eq_1, pfL, q0, q1, q5, q6, q7, q10, q11, q12, ii, ss, tb110, g33, pureAL, deI, ints, vv, hb, hr, hk, hag, hay, hcl, hlb, hdi]
  exact key _ rfl rfl rfl
/-! ### the document's -/
end Go.Proofs.YtkfphaphiikloaaDoor
