/-
  THE PROGRAMS OF CONDITIONS, PART C: the document's reading of an event; the list of an item, on both sides.
-/
import Derived.Test.YtkfphaphiikloaaDoorX14
set_option linter.unusedSimpArgs false
set_option linter.unusedVariables false
set_option linter.constructorNameAsVariable false
namespace Go.Proofs.YtkfphaphiikloaaDoor
open Go Go.Eng

def tb126 : List (FuncId × (List AV → Heap → PRes)) := [(63, g52), (111, g53)]
set_option maxHeartbeats 1000000 in
set_option maxRecDepth 100000 in
theorem p126 : P0 [] 126 g126 := by
  refine mkH 3 (S := []) (l := tb126) (tb_cons p52 (tb_cons p53 tb_nil)) Tryd.func126 rfl (by kernel_rfl) de126_mono (fun h l x e => by obtain ⟨a, c, rfl, _⟩ := de126_out e; exact Nat.le_refl _) (fun a => rfl) (fun args q h n e hp hn => ?_)
  obtain ⟨l, i, c'⟩ := q
  obtain ⟨a, c, rfl, e1, e3⟩ := de126_out e
  simp only [] at e1 e3 ⊢
  obtain ⟨s1, s2, s3, s4, s5⟩ := sl_is e1
  obtain ⟨t1, t2, t3, t4, t5⟩ := sl_is e3
  by_cases hi : i < 0
  · simp [evs, aeval, binS, cx_ti, cx_G, cx_pf, cx_tw, ti, globS, glob, ldcs_1, ldcs_2, ldcs_3, ldcs_4, ldcs_5, ldcs_7, sls, slc, pfL, ii, vv, oneV, unk, hi, s1, s2, s3, tb126, g52]
  · obtain ⟨j, rfl⟩ : ∃ j : Nat, i = j := ⟨i.toNat, by omega⟩
    have hbig := hp.1
    by_cases hj : j < l.length
    · rcases es_at e1 with ⟨rfl, _⟩ | ⟨id, off, k, rfl, hk, ho, hat⟩
      · simp at hj
      have hr := hat j hj
      have hro := ro_at hk
      have h0 := ne_of hk hn 0
      simp only [Nat.add_zero] at h0
      have hle : ∀ (X : Ctx) (h' : Heap), h' id = some ⟨k.cells, k.ver, false, k.esz⟩ → ldcs X h' (.p id k.ver (off + j * 11)) 0 11 = ecells l[j] := fun X h' e => ldcs_ev e hr
      have hw : off + (j * 11 + 11) ≤ k.cells.length := by omega
      have hj' : ¬ l.length ≤ j := by omega
      simp only [oneV_at hj]
      generalize l[j] = ev1 at *
      by_cases ht : ev1.ty < 0
      · simp [evs, aeval, binS, cx_ti, cx_G, cx_pf, cx_tw, ti, globS, glob, ldcs_1, ldcs_2, ldcs_3, ldcs_4, ldcs_5, ldcs_7, sls, slc, pfL, ii, uu, vv, evV, placeOf, unk, hj, hj', ht, hro, h0, hle, hw, ecells, t1, t2, t3, tb126, g52]
      · obtain ⟨t, htt⟩ : ∃ t : Nat, ev1.ty = t := ⟨ev1.ty.toNat, by omega⟩
        by_cases hc : t < c'.length
        · rcases is_at e3 with ⟨rfl, _⟩ | ⟨id', off', k', rfl, hk', ho', hat'⟩
          · simp at hc
          have g2 := hat' t hc
          have hro' := ro_at hk'
          have h0' := ne_of hk' hn 0
          simp only [Nat.add_zero] at h0'
          have hx' := ne_of hk' hn
          have hc' : ¬ c'.length ≤ t := by omega
          have hw3 : off' + (t + 1) ≤ k'.cells.length := by omega
          generalize hpl : c'[t] = pl at *
          by_cases h1 : pl = -2
          · subst h1
            simp [evs, aeval, binS, cx_ti, cx_G, cx_pf, cx_tw, ti, globS, glob, ldcs_1, ldcs_2, ldcs_3, ldcs_4, ldcs_5, ldcs_7, sls, slc, pfL, ii, uu, vv, evV, placeOf, unk, hj, hj', htt, hro, h0, hle, hw, ecells, hc, hc', hro', h0', hx', g2, hw3, hpl, valueV, knownV, tb126, g52, g53, pure1, deI]
          · by_cases h2 : 0 ≤ pl ∧ pl < 8
            · have : pl = 0 ∨ pl = 1 ∨ pl = 2 ∨ pl = 3 ∨ pl = 4 ∨ pl = 5 ∨ pl = 6 ∨ pl = 7 := by omega
              rcases this with rfl | rfl | rfl | rfl | rfl | rfl | rfl | rfl <;> simp [evs, aeval, binS, cx_ti, cx_G, cx_pf, cx_tw, ti, globS, glob, ldcs_1, ldcs_2, ldcs_3, ldcs_4, ldcs_5, ldcs_7, sls, slc, pfL, ii, uu, vv, evV, placeOf, unk, hj, hj', htt, hro, h0, hle, hw, ecells, hc, hc', hro', h0', hx', g2, hw3, hpl, valueV, knownV, tb126, g52, g53, pure1, deI, Ev.attr]
            · by_cases h3 : 0 ≤ pl
              · have h4 : ¬ pl < 8 := fun h => h2 ⟨h3, h⟩
                simp [evs, aeval, binS, cx_ti, cx_G, cx_pf, cx_tw, ti, globS, glob, ldcs_1, ldcs_2, ldcs_3, ldcs_4, ldcs_5, ldcs_7, sls, slc, pfL, ii, uu, vv, evV, placeOf, unk, hj, hj', htt, hro, h0, hle, hw, ecells, hc, hc', hro', h0', hx', g2, hw3, hpl, valueV, knownV, tb126, g52, g53, pure1, deI, h1, h3, h4]
              · simp [evs, aeval, binS, cx_ti, cx_G, cx_pf, cx_tw, ti, globS, glob, ldcs_1, ldcs_2, ldcs_3, ldcs_4, ldcs_5, ldcs_7, sls, slc, pfL, ii, uu, vv, evV, placeOf, unk, hj, hj', htt, hro, h0, hle, hw, ecells, hc, hc', hro', h0', hx', g2, hw3, hpl, valueV, knownV, tb126, g52, g53, pure1, deI, h1, h3]
        · have hc' : c'.length ≤ t := by omega
          simp [evs, aeval, binS, cx_ti, cx_G, cx_pf, cx_tw, ti, globS, glob, ldcs_1, ldcs_2, ldcs_3, ldcs_4, ldcs_5, ldcs_7, sls, slc, pfL, ii, uu, vv, evV, placeOf, unk, hj, hj', htt, hro, h0, hle, hw, ecells, hc', t1, t2, t3, tb126, g52]
    · have hj' : l.length ≤ j := by omega
      simp [evs, aeval, binS, cx_ti, cx_G, cx_pf, cx_tw, ti, globS, glob, ldcs_1, ldcs_2, ldcs_3, ldcs_4, ldcs_5, ldcs_7, sls, slc, pfL, ii, vv, oneV, unk, hj', s1, s2, s3, tb126, g52]
/-- The list of an item. -/
def deLI (h : Heap) : List AV → Option (En × Int)
  | [e, .v (.int .i64 i)] => (deEn h e).map fun x => (x, i)
  | _ => none
theorem deLI_out {h : Heap} {args : List AV} {q : En × Int} (e : deLI h args = some q) : ∃ a, args = [.g [a, ii q.1.each, ii q.1.pos], ii q.2] ∧ rd dEss h a = some q.1.ls := by
  unfold deLI at e
  split at e
  · simp only [Option.map_eq_some_iff] at e
    obtain ⟨x, e1, rfl⟩ := e
    obtain ⟨a, rfl, e2⟩ := deEn_out e1
    exact ⟨a, rfl, e2⟩
  · cases e
def fLI (h : Heap) (args : List AV) (q : En × Int) : AV := match args with
  | [.g [a, _, _], _] => if q.2 < 0 ∨ (q.1.ls.length : Int) ≤ q.2 then .v (.slice none 0 0) else cellAt h a q.2.toNat
  | _ => .any
theorem deLI_mono (h h' : Heap) (args : List AV) (q : En × Int) (hh : h.le h') (e : deLI h args = some q) : deLI h' args = some q ∧ fLI h' args q = fLI h args q := by
  obtain ⟨a, rfl, e1⟩ := deLI_out e
  refine ⟨?_, ?_⟩
  · simp only [deLI, ii, deEn_in (rd_mono hh e1), Option.map_some]
  · simp only [fLI]
    rw [cellAt_le hh e1]
theorem fLI_rd {h : Heap} {args : List AV} {q : En × Int} (e : deLI h args = some q) : rd dEs h (fLI h args q) = some (listAt q.1.ls q.2) := by
  obtain ⟨a, rfl, e1⟩ := deLI_out e
  simp only [fLI, listAt]
  by_cases h1 : q.2 < 0
  · rw [if_pos (.inl h1), if_pos h1]; rfl
  · rw [if_neg h1]
    by_cases h2 : (q.1.ls.length : Int) ≤ q.2
    · rw [if_pos (.inr h2), List.getD_eq_getElem?_getD, List.getElem?_eq_none (by omega)]; rfl
    · rw [if_neg (by omega)]
      have hlt : q.2.toNat < q.1.ls.length := by omega
      rw [List.getD_eq_getElem?_getD, List.getElem?_eq_getElem hlt]
      exact cell_sls e1 hlt
def G65 := pureS deLI fLI
set_option maxRecDepth 100000 in
theorem P65 : P0 [] 65 G65 := by
  refine mkS 2 (S := []) tb_nil Tryd.func65 rfl (by kernel_rfl) deLI_mono (fun h l x e => by obtain ⟨a, rfl, _⟩ := deLI_out e; exact Nat.le_refl _) (fun h l a e => sl_inH (fLI_rd e)) (fun args q h n e hn => ?_)
  obtain ⟨⟨ls, each, pos⟩, i⟩ := q
  obtain ⟨a, rfl, e1⟩ := deLI_out e
  simp only [] at e1 ⊢
  obtain ⟨s1, s2, s3, s4, s5⟩ := sl_is e1
  by_cases hi : i < 0
  · simp [evs, aeval, binS, cx_ti, cx_G, cx_pf, cx_tw, ti, globS, glob, ldcs_1, ldcs_2, ldcs_3, ldcs_4, ldcs_5, ldcs_7, sls, slc, pfL, ii, fLI, hi, s1, s2, s3, s4, s5]
  · obtain ⟨j, rfl⟩ : ∃ j : Nat, i = j := ⟨i.toNat, by omega⟩
    by_cases hj : j < ls.length
    · rcases sls_at e1 with ⟨rfl, _⟩ | ⟨id, off, k, rfl, hk, ho, hat⟩
      · simp at hj
      have hj' : ¬ ls.length ≤ j := by omega
      have hro := ro_at hk
      have h0 := ne_of hk hn 0
      simp only [Nat.add_zero] at h0
      have hw : off + (j + 1) ≤ k.cells.length := by omega
      simp [evs, aeval, binS, cx_ti, cx_G, cx_pf, cx_tw, ti, globS, glob, ldcs_1, ldcs_2, ldcs_3, ldcs_4, ldcs_5, ldcs_7, sls, slc, pfL, ii, fLI, hj, hj', s1, s2, s3, s4, s5, hro, h0, hw, cellAt, hk]
    · have hj' : ls.length ≤ j := by omega
      simp [evs, aeval, binS, cx_ti, cx_G, cx_pf, cx_tw, ti, globS, glob, ldcs_1, ldcs_2, ldcs_3, ldcs_4, ldcs_5, ldcs_7, sls, slc, pfL, ii, fLI, hj', s1, s2, s3, s4, s5]
set_option maxRecDepth 100000 in
theorem P66 : P0 [] 66 G65 := by
  refine mkS 2 (S := []) tb_nil Tryd.func66 rfl (by kernel_rfl) deLI_mono (fun h l x e => by obtain ⟨a, rfl, _⟩ := deLI_out e; exact Nat.le_refl _) (fun h l a e => sl_inH (fLI_rd e)) (fun args q h n e hn => ?_)
  obtain ⟨⟨ls, each, pos⟩, i⟩ := q
  obtain ⟨a, rfl, e1⟩ := deLI_out e
  simp only [] at e1 ⊢
  obtain ⟨s1, s2, s3, s4, s5⟩ := sl_is e1
  by_cases hi : i < 0
  · simp [evs, aeval, binS, cx_ti, cx_G, cx_pf, cx_tw, ti, globS, glob, ldcs_1, ldcs_2, ldcs_3, ldcs_4, ldcs_5, ldcs_7, sls, slc, pfL, ii, fLI, hi, s1, s2, s3, s4, s5]
  · obtain ⟨j, rfl⟩ : ∃ j : Nat, i = j := ⟨i.toNat, by omega⟩
    by_cases hj : j < ls.length
    · rcases sls_at e1 with ⟨rfl, _⟩ | ⟨id, off, k, rfl, hk, ho, hat⟩
      · simp at hj
      have hj' : ¬ ls.length ≤ j := by omega
      have hro := ro_at hk
      have h0 := ne_of hk hn 0
      simp only [Nat.add_zero] at h0
      have hw : off + (j + 1) ≤ k.cells.length := by omega
      simp [evs, aeval, binS, cx_ti, cx_G, cx_pf, cx_tw, ti, globS, glob, ldcs_1, ldcs_2, ldcs_3, ldcs_4, ldcs_5, ldcs_7, sls, slc, pfL, ii, fLI, hj, hj', s1, s2, s3, s4, s5, hro, h0, hw, cellAt, hk]
    · have hj' : ls.length ≤ j := by omega
      simp [evs, aeval, binS, cx_ti, cx_G, cx_pf, cx_tw, ti, globS, glob, ldcs_1, ldcs_2, ldcs_3, ldcs_4, ldcs_5, ldcs_7, sls, slc, pfL, ii, fLI, hj', s1, s2, s3, s4, s5]
end Go.Proofs.YtkfphaphiikloaaDoor

/-
  THE PROGRAMS OF CONDITIONS, PART D: aggregates by a column, on both sides.
-/
namespace Go.Proofs.YtkfphaphiikloaaDoor
open Go Go.Eng

/-- An aggregate: events, column, operator. -/
def okL (q : List Ev × List Int × Int) : Prop := q.1.length ≤ 2147483647 ∧ q.2.1.length < big ∧ ∀ e ∈ q.1, EvOk e
def de102 (h : Heap) : List AV → Option (List Ev × List Int × Int)
  | [a, c, .v (.int .i64 o)] => match rd dEs h a, rd dIs h c with
    | some l, some col => some (l, col, o)
    | _, _ => none
  | _ => none
theorem de102_out {h : Heap} {args : List AV} {q : List Ev × List Int × Int} (e : de102 h args = some q) : ∃ a c, args = [a, c, ii q.2.2] ∧ rd dEs h a = some q.1 ∧ rd dIs h c = some q.2.1 := by
  unfold de102 at e
  split at e
  · split at e
    · rename_i e1 e3
      cases e
      exact ⟨_, _, rfl, e1, e3⟩
    · cases e
  · cases e
theorem de102_mono (h h' : Heap) (args : List AV) (q : List Ev × List Int × Int) (hh : h.le h') (e : de102 h args = some q) : de102 h' args = some q := by
  obtain ⟨a, c, rfl, e1, e3⟩ := de102_out e
  simp only [de102, rd_mono hh e1, rd_mono hh e3, ii]
def g102 := pureH de102 okL fun q => vv (allV q.1 q.2.1 q.2.2)
def de127 (h : Heap) : List AV → Option (List Ev × List Int × Int)
  | [c, a, o] => de102 h [a, c, o]
  | _ => none
theorem de127_out {h : Heap} {args : List AV} {q : List Ev × List Int × Int} (e : de127 h args = some q) : ∃ a c, args = [c, a, ii q.2.2] ∧ rd dEs h a = some q.1 ∧ rd dIs h c = some q.2.1 := by
  unfold de127 at e
  split at e
  · obtain ⟨a, c, h1, h2, h3⟩ := de102_out e
    simp only [List.cons.injEq, and_true] at h1
    obtain ⟨rfl, rfl, rfl⟩ := h1
    exact ⟨_, _, rfl, h2, h3⟩
  · cases e
theorem de127_mono (h h' : Heap) (args : List AV) (q : List Ev × List Int × Int) (hh : h.le h') (e : de127 h args = some q) : de127 h' args = some q := by
  obtain ⟨a, c, rfl, e1, e3⟩ := de127_out e
  simp only [de127, de102, rd_mono hh e1, rd_mono hh e3, ii]
def g127 := pureH de127 okL fun q => vv (allV q.1 q.2.1 q.2.2)
theorem colN_ints (l : List Ev) (c : List Int) (j : Nat) : (colN l c (j + 1)).map ii = (colN l c j).map ii ++ [ii (oneV l (j : Int) c).n] := by rw [colN_succ]; simp
theorem all_no {l : List Ev} {c : List Int} {j : Nat} (op : Int) (hj : j < l.length) (h : (oneV l (j : Int) c).k = false) : allV l c op = unk := by
  have : knownTo l c (j + 1) = false := by rw [knownTo_succ, h, Bool.and_false]
  unfold allV
  rw [if_neg fun e => by rw [knownTo_le (by omega) e] at this; cases this]
theorem all_yes {l : List Ev} {c : List Int} (op : Int) (h : knownTo l c l.length = true) : allV l c op = foldG sumL op (colN l c l.length) := if_pos h
theorem colN_lt {l : List Ev} {c : List Int} (h : l.length ≤ 2147483647) : (colN l c l.length).length < big := by rw [colN_len]; unfold big; omega
def tb102 : List (FuncId × (List AV → Heap → PRes)) := [(101, g101), (125, g33)]
set_option maxRecDepth 100000 in
set_option maxHeartbeats 1000000 in
theorem p102 : P0 [1] 102 g102 := by
  refine mkH 3 (S := [1]) (l := tb102) (tb_cons p101 (tb_cons p33 tb_nil)) Tryd.func102 rfl (by kernel_rfl) de102_mono (fun h l x e => by obtain ⟨a, c, rfl, _⟩ := de102_out e; exact Nat.le_refl _) (fun a => rfl) (fun args q h n e hp hn => ?_)
  obtain ⟨l, c', op⟩ := q
  obtain ⟨a, c, rfl, e1, e3⟩ := de102_out e
  obtain ⟨hl, hc, hev⟩ := hp
  simp only [] at e1 e3 hl hc hev ⊢
  obtain ⟨s1, s2, s3, s4, s5⟩ := sl_is e1
  obtain ⟨t1, t2, t3, t4, t5⟩ := sl_is e3
  have key : ∀ e : Nat → AV, e 0 = a → e 1 = c → e 2 = ii op → awp (cx [1] (pfL tb102)) (Tryd.f102.body.getD .skip) (finQ (cx [1] (pfL tb102)) Tryd.f102 fun z _ _ => z = vv (allV l c' op)) ⟨e, roH h, n⟩ := fun e q0 q1 q2 => by
    have hb1 : (8 : Int) * (l.length : Int) ≤ 281474976710656 := by omega
    have hb2 : (l.length : Int) ≤ 9223372036854775807 := by omega
    simp [evs, aeval, binS, cx_ti, cx_G, cx_pf, cx_tw, ti, globS, glob, ldcs_1, ldcs_2, ldcs_3, ldcs_4, ldcs_5, ldcs_7, sls, slc, pfL, Tryd.f102, q0, q1, q2, s1, s2, s3, hb1, hb2]
    refine awp_loop (fun s => ∃ j, j ≤ l.length ∧ s.e 0 = a ∧ s.e 1 = c ∧ s.e 2 = ii op ∧ s.e 6 = .p n 0 0 ∧ s.e 7 = .s (n + 1) j 0 j ∧ s.e 14 = ii l.length ∧ s.e 15 = ii j ∧ agree n (roH h) s.h ∧ s.h n = some ⟨[.v (.bool false), .v (.int .i64 0)], 0, true, 2⟩ ∧ s.h (n + 1) = some ⟨(colN l c' j).map ii, j, true, 1⟩ ∧ n + 2 ≤ s.n ∧ knownTo l c' j = true) (fun s => l.length - (s.e 15).i.toNat) ⟨0, by simp [up, q0, q1, q2, ii, agree_up, agree_refl, colN, knownTo]⟩ ?_
    rintro e' h' n' ⟨j, hj, q0, q1, q2, q6, q7, q14, q15, hag, hr, hk, hnn, hkn⟩
    simp only [] at q0 q1 q2 q6 q7 q14 q15 hag hr hk hnn
    have f1 : n ≤ n' := by omega
    have f2 : n ≤ n' + 1 := by omega
    have f3 : n ≤ n' + 2 := by omega
    have z1 : ¬ n = n' := by omega
    have z2 : ¬ n = n' + 1 := by omega
    have z3 : ¬ n = n' + 2 := by omega
    have z4 : ¬ n + 1 = n' := by omega
    have g1 := rd_agree hn e1
    have g3 := rd_agree hn e3
    by_cases hlt : j < l.length
    · have hw := wrap_nat (j := j) (by unfold big; omega)
      have hsm : smallH (l, (j : Int), c') := ⟨by simp only [big]; omega, hc⟩
      have hcn := colN_ints l c' j
      have hcl : ((colN l c' j).map ii).length = j := by rw [List.length_map, colN_len]
      generalize hx : oneV l (j : Int) c' = x at *
      generalize (colN l c' j).map ii = cs at *
      have hb3 : (j + 1) * 8 ≤ 140737488355328 := by omega
      have hb4 : j + 1 ≤ 9223372036854775807 := by omega
      cases hxk : x.k with
      | false =>
        have ha := all_no op hlt (by rw [hx]; exact hxk)
        have hu : x = unk := by rw [← hx]; exact oneV_unk (by rw [hx]; exact hxk)
        subst hu
        simp [evs, aeval, binS, cx_ti, cx_G, cx_pf, cx_tw, ti, globS, glob, ldcs_1, ldcs_2, ldcs_3, ldcs_4, ldcs_5, ldcs_7, sls, slc, pfL, q0, q1, q2, q6, q7, q14, q15, ii, hlt, tb102, g101, pureH, de101, g1, g3, hag, agree_up, f1, f2, f3, hsm, hx, vv, unk, z1, z2, z3, z4, hr, hk, ha]
      | true =>
        simp [evs, aeval, binS, cx_ti, cx_G, cx_pf, cx_tw, ti, globS, glob, ldcs_1, ldcs_2, ldcs_3, ldcs_4, ldcs_5, ldcs_7, sls, slc, pfL, q0, q1, q2, q6, q7, q14, q15, ii, hlt, tb102, g101, pureH, de101, g1, g3, hag, agree_up, f1, f2, f3, hsm, hx, vv, unk, z1, z2, z3, z4, hr, hk, hxk, hcl, hb3, hb4, hw]
        exact ⟨⟨j + 1, by omega, rfl, by omega, ⟨by rw [hcn]; rfl, rfl⟩, by rw [knownTo_succ, hkn, hx, hxk]; rfl⟩, by omega⟩
    · have hje : j = l.length := by omega
      subst hje
      have hay := all_yes op hkn
      have hcl : (colN l c' l.length).length = l.length := colN_len ..
      have hlb : l.length < big := by unfold big; omega
      have hdi : deIs (List.take l.length ((colN l c' l.length).map ii)) = some (colN l c' l.length) := by
        rw [List.take_of_length_le (by rw [List.length_map, hcl]; exact Nat.le_refl _), deIs_ii]
      generalize colN l c' l.length = cn at *
      simp [evs, aeval, binS, cx_ti, cx_G, cx_pf, cx_tw, ti, globS, glob, ldcs_1, ldcs_2, ldcs_3, ldcs_4, ldcs_5, ldcs_7, sls, slc, pfL, q0, q1, q2, q6, q7, q14, q15, ii, tb102, g33, pureAL, deI, ints, vv, hr, hk, hag, hay, hcl, hlb, hdi]
  exact key _ rfl rfl rfl
def tb127 : List (FuncId × (List AV → Heap → PRes)) := [(63, g52), (126, g126), (137, g34)]
set_option maxRecDepth 100000 in
set_option maxHeartbeats 1000000 in
theorem p127 : P0 [] 127 g127 := by
  refine mkH 3 (S := []) (l := tb127) (tb_cons p52 (tb_cons p126 (tb_cons p34 tb_nil))) Tryd.func127 rfl (by kernel_rfl) de127_mono (fun h l x e => by obtain ⟨a, c, rfl, _⟩ := de127_out e; exact Nat.le_refl _) (fun a => rfl) (fun args q h n e hp hn => ?_)
  obtain ⟨l, c', op⟩ := q
  obtain ⟨a, c, rfl, e1, e3⟩ := de127_out e
  obtain ⟨hl, hc, hev⟩ := hp
  simp only [] at e1 e3 hl hc hev ⊢
  obtain ⟨s1, s2, s3, s4, s5⟩ := sl_is e1
  obtain ⟨t1, t2, t3, t4, t5⟩ := sl_is e3
  have key : ∀ e : Nat → AV, e 0 = c → e 1 = a → e 2 = ii op → awp (cx [] (pfL tb127)) (Tryd.f127.body.getD .skip) (finQ (cx [] (pfL tb127)) Tryd.f127 fun z _ _ => z = vv (allV l c' op)) ⟨e, roH h, n⟩ := fun e q0 q1 q2 => by
    simp [evs, aeval, binS, cx_ti, cx_G, cx_pf, cx_tw, ti, globS, glob, ldcs_1, ldcs_2, ldcs_3, ldcs_4, ldcs_5, ldcs_7, sls, slc, pfL, Tryd.f127, q0, q1, q2, s1, s2, s3]
    refine awp_loop (fun s => ∃ j, j ≤ l.length ∧ s.e 0 = c ∧ s.e 1 = a ∧ s.e 2 = ii op ∧ s.e 6 = .p n 0 0 ∧ Own s.h (n + 1) s.n (s.e 7) j ((colN l c' j).map ii) 1 ∧ s.e 8 = ii j ∧ agree n (roH h) s.h ∧ s.h n = some ⟨[.v (.bool false), .v (.int .i64 0)], 0, true, 2⟩ ∧ n + 1 ≤ s.n ∧ knownTo l c' j = true) (fun s => l.length - (s.e 8).i.toNat) ⟨0, by simp [up, q0, q1, q2, ii, agree_up, agree_refl, colN, knownTo, Own]⟩ ?_
    rintro e' h' n' ⟨j, hj, q0, q1, q2, q6, hown, q8, hag, hr, hnn, hkn⟩
    simp only [] at q0 q1 q2 q6 hown q8 hag hr hnn
    have f1 : n ≤ n' := by omega
    have f2 : n ≤ n' + 1 := by omega
    have f3 : n ≤ n' + 2 := by omega
    have z1 : ¬ n = n' := by omega
    have z2 : ¬ n = n' + 1 := by omega
    have z3 : ¬ n = n' + 2 := by omega
    have g1 := rd_agree hn e1
    have g3 := rd_agree hn e3
    by_cases hlt : j < l.length
    · have hw := wrap_nat (j := j) (by unfold big; omega)
      have hsm : smallH (l, (j : Int), c') := ⟨by simp only [big]; omega, hc⟩
      have hcn := colN_ints l c' j
      have hcl : ((colN l c' j).map ii).length = j := by rw [List.length_map, colN_len]
      generalize hx : oneV l (j : Int) c' = x at *
      generalize (colN l c' j).map ii = cs at *
      have hb3 : (j + 1) * 8 ≤ 140737488355328 := by omega
      have hb4 : j + 1 ≤ 9223372036854775807 := by omega
      cases hxk : x.k with
      | false =>
        have ha := all_no op hlt (by rw [hx]; exact hxk)
        have hu : x = unk := by rw [← hx]; exact oneV_unk (by rw [hx]; exact hxk)
        subst hu
        simp [evs, aeval, binS, cx_ti, cx_G, cx_pf, cx_tw, ti, globS, glob, ldcs_1, ldcs_2, ldcs_3, ldcs_4, ldcs_5, ldcs_7, sls, slc, pfL, q0, q1, q2, q6, q8, ii, s1, s2, s3, hlt, tb127, g126, g52, pureH, de126, de101, g1, g3, hag, agree_up, f1, f2, f3, hsm, hx, vv, unk, z1, z2, z3, hr, ha]
      | true =>
        have f4 : n ≤ n' + 3 := by omega
        have z4 : ¬ n = n' + 3 := by omega
        rcases hown with ⟨hj0, hnil, q7⟩ | ⟨w, u, q7, hk, hw1, hw2⟩
        · simp [evs, aeval, binS, cx_ti, cx_G, cx_pf, cx_tw, ti, globS, glob, ldcs_1, ldcs_2, ldcs_3, ldcs_4, ldcs_5, ldcs_7, sls, slc, pfL, q0, q1, q2, q6, q7, q8, ii, s1, s2, s3, hlt, tb127, g126, g52, pureH, de126, de101, g1, g3, hag, agree_up, f1, f2, f3, hsm, hx, vv, unk, z1, z2, z3, hr, hxk, hb3, hb4, hw, f4, z4]
          exact ⟨⟨j + 1, by omega, .inr ⟨n' + 3, 0, by rw [hj0], by rw [up_same, hcn, hnil]; rfl, by omega, by omega⟩, by omega, by rw [knownTo_succ, hkn, hx, hxk]; rfl⟩, by omega⟩
        · have y1 : ¬ w = n' := by omega
          have y2 : ¬ w = n' + 1 := by omega
          have y3 : ¬ w = n' + 2 := by omega
          have y4 : n ≤ w := by omega
          have y5 : ¬ n = w := by omega
          simp [evs, aeval, binS, cx_ti, cx_G, cx_pf, cx_tw, ti, globS, glob, ldcs_1, ldcs_2, ldcs_3, ldcs_4, ldcs_5, ldcs_7, sls, slc, pfL, q0, q1, q2, q6, q7, q8, ii, s1, s2, s3, hlt, tb127, g126, g52, pureH, de126, de101, g1, g3, hag, agree_up, f1, f2, f3, hsm, hx, vv, unk, z1, z2, z3, hr, hk, hxk, hcl, hb3, hb4, hw, y1, y2, y3, y4, y5, f4, z4]
          exact ⟨⟨j + 1, by omega, .inr ⟨w, u + 1, rfl, by rw [up_same, hcn]; rfl, by omega, by omega⟩, by omega, by rw [knownTo_succ, hkn, hx, hxk]; rfl⟩, by omega⟩
    · have hje : j = l.length := by omega
      subst hje
      have hay := all_yes op hkn
      have hcl : (colN l c' l.length).length = l.length := colN_len ..
      have hlb : l.length < big := by unfold big; omega
      have hfe := fold_eq op (colN_rng hev c' l.length) (by rw [hcl]; exact hl)
      have hdi : deIs (List.take l.length ((colN l c' l.length).map ii)) = some (colN l c' l.length) := by
        rw [List.take_of_length_le (by rw [List.length_map, hcl]; exact Nat.le_refl _), deIs_ii]
      rw [hfe] at hay
      generalize colN l c' l.length = cn at *
      rcases hown with ⟨h0, hnil, q7⟩ | ⟨w, u, q7, hk, hw1, hw2⟩
      · have hcn0 : cn = [] := by simpa using hnil
        subst hcn0
        simp [evs, aeval, binS, cx_ti, cx_G, cx_pf, cx_tw, ti, globS, glob, ldcs_1, ldcs_2, ldcs_3, ldcs_4, ldcs_5, ldcs_7, sls, slc, pfL, q0, q1, q2, q6, q7, q8, ii, s1, s2, s3, tb127, g34, pureAL, deI, ints, vv, hr, hag, hay, big]
      · simp [evs, aeval, binS, cx_ti, cx_G, cx_pf, cx_tw, ti, globS, glob, ldcs_1, ldcs_2, ldcs_3, ldcs_4, ldcs_5, ldcs_7, sls, slc, pfL, q0, q1, q2, q6, q7, q8, ii, s1, s2, s3, tb127, g34, pureAL, deI, ints, vv, hr, hk, hag, hay, hcl, hlb, hdi]
  exact key _ rfl rfl rfl
end Go.Proofs.YtkfphaphiikloaaDoor

/-
  THE PROGRAMS OF CONDITIONS, PART E: what an instruction that names an item lays down, on both sides.
-/
namespace Go.Proofs.YtkfphaphiikloaaDoor
open Go Go.Eng

/-- Environments in range. -/
structure EnOk (e : En) : Prop where
  len : ∀ l ∈ e.ls, l.length ≤ 2147483647
  ev : ∀ l ∈ e.ls, ∀ x ∈ l, EvOk x
  pos : Rng e.pos
theorem listAt_mem {ls : List (List Ev)} {P : List Ev → Prop} (h0 : P []) (h : ∀ l ∈ ls, P l) (i : Int) : P (listAt ls i) := by
  unfold listAt
  split
  · exact h0
  · rw [List.getD_eq_getElem?_getD]
    cases e : ls[i.toNat]? with
    | none => exact h0
    | some l => exact h l (List.mem_of_getElem? e)
theorem EnOk.lenAt {e : En} (h : EnOk e) (i : Int) : (listAt e.ls i).length ≤ 2147483647 := listAt_mem (P := fun l => l.length ≤ 2147483647) (by simp) h.len i
theorem EnOk.evAt {e : En} (h : EnOk e) (i : Int) : ∀ x ∈ listAt e.ls i, EvOk x := listAt_mem (P := fun l => ∀ x ∈ l, EvOk x) (by simp) h.ev i
def okM (q : Ins × List Int × En) : Prop := (1 ≤ q.1.code ∧ q.1.code ≤ 9) ∧ q.2.1.length < big ∧ EnOk q.2.2
def de61 (h : Heap) : List AV → Option (Ins × List Int × En)
  | [i, c, e] => match deIns i, rd dIs h c, deEn h e with
    | some i, some c, some e => some (i, c, e)
    | _, _, _ => none
  | _ => none
theorem de61_out {h : Heap} {args : List AV} {q : Ins × List Int × En} (e : de61 h args = some q) : ∃ c x, args = [iv q.1, c, x] ∧ rd dIs h c = some q.2.1 ∧ deEn h x = some q.2.2 := by
  unfold de61 at e
  split at e
  · split at e
    · rename_i e1 e2 e3
      cases e
      exact ⟨_, _, by rw [deIns_out e1], e2, e3⟩
    · cases e
  · cases e
theorem deIns_in (i : Ins) : deIns (.g (icells i)) = some i := rfl
theorem de61_mono (h h' : Heap) (args : List AV) (q : Ins × List Int × En) (hh : h.le h') (e : de61 h args = some q) : de61 h' args = some q := by
  obtain ⟨c, x, rfl, e1, e2⟩ := de61_out e
  simp only [de61, iv, deIns_in, rd_mono hh e1, deEn_sim hh.sim e2]
def g61m := pureH de61 okM fun q => vv (mentionV q.1 q.2.1 q.2.2)
def laidV (i : Ins) (c : List Int) (e : En) : V := if i.code = 1 then knownV i.n else mentionV i c e
def g104 := pureH de61 okM fun q => vv (laidV q.1 q.2.1 q.2.2)
/-- The list of an item, and all that one asks of it. -/
theorem li_facts {h : Heap} {n : Nat} (hn : ∀ i, n ≤ i → h i = none) {a : AV} {e : En} (e1 : rd dEss h a = some e.ls) (item : Int) : ∃ c, (∀ h', agree n (roH h) h' → deLI h' [.g [a, .v (.int .i64 e.each), .v (.int .i64 e.pos)], .v (.int .i64 item)] = some (e, item) ∧ fLI h' [.g [a, .v (.int .i64 e.each), .v (.int .i64 e.pos)], .v (.int .i64 item)] (e, item) = c) ∧
    (∀ h', agree n (roH h) h' → rd dEs h' c = some (listAt e.ls item)) ∧ c.isS ∧ c.slen = (listAt e.ls item).length ∧ (∀ g, AV.unc g c = c) ∧ c.one ∧ c.cells = [c] := by
  have hq : deLI h [.g [a, .v (.int .i64 e.each), .v (.int .i64 e.pos)], .v (.int .i64 item)] = some (e, item) := by simp only [deLI, deEn_in e1, Option.map_some]
  have hr := fLI_rd hq
  have hat : ∀ h', agree n (roH h) h' → ∀ i, cellAt h' a i = cellAt h a i := fun h' ha i => by
    rcases sl_at e1 with ⟨_, rfl | rfl⟩ | ⟨id, off, k, rfl, h2, _⟩
    · rfl
    · rfl
    · simp only [cellAt, h2, agree_at hn h2 ha]
  refine ⟨_, fun h' ha => ⟨?_, ?_⟩, fun h' ha => rd_agree hn hr h' ha, sl_is hr⟩
  · simp only [deLI, deEn_in (rd_agree hn e1 h' ha), Option.map_some]
  · simp only [fLI]
    rw [hat h' ha]
def tb61 : List (FuncId × (List AV → Heap → PRes)) := [(65, G65), (101, g101), (102, g102)]
set_option maxRecDepth 100000 in
set_option maxHeartbeats 1000000 in
theorem p61m : P0 [1] 61 g61m := by
  refine mkH 3 (S := [1]) (l := tb61) (tb_cons P65 (tb_cons p101 (tb_cons p102 tb_nil))) Tryd.func61 rfl (by kernel_rfl) de61_mono (fun h l x e => by obtain ⟨a, c, rfl, _⟩ := de61_out e; exact Nat.le_refl _) (fun a => rfl) (fun args q h n e hp hn => ?_)
  obtain ⟨⟨code, item, icol, iN, ito⟩, col, ⟨ls, each, pos⟩⟩ := q
  obtain ⟨c, x, rfl, e1, e2⟩ := de61_out e
  obtain ⟨hcode, hc, hen⟩ := hp
  obtain ⟨a, rfl, e3⟩ := deEn_out e2
  simp only [] at e1 e2 e3 hcode hc hen ⊢
  obtain ⟨s1, s2, s3, s4, s5⟩ := sl_is e3
  obtain ⟨t1, t2, t3, t4, t5⟩ := sl_is e1
  obtain ⟨cl, f1, f2, u1, u2, u3, u4, u5⟩ := li_facts (e := ⟨ls, each, pos⟩) hn e3 item
  simp only [] at f1 f2 u1 u2 u3 u4 u5
  have f0 := fun h' ha => (f1 h' ha).1
  replace f1 := fun h' ha => (f1 h' ha).2
  have hlen := hen.lenAt item
  have hev := hen.evAt item
  have hpos := hen.pos
  simp only [] at hlen hev hpos
  have hsm : ∀ i : Int, smallH (listAt ls item, i, col) := fun i => ⟨by simp only [big]; omega, hc⟩
  have hok : okL (listAt ls item, col, code + 1) := ⟨hlen, hc, hev⟩
  have g1 := rd_agree hn e1
  have v1 : n ≤ n + 1 := by omega
  have v2 : n ≤ n + 2 := by omega
  have v3 : n ≤ n + 3 := by omega
  have hw1 : IntKind.i64.wrap (6 + IntKind.i64.wrap (code - 5)) = code + 1 := by
    have h1 : IntKind.i64.wrap (code - 5) = code - 5 := W_id (by unfold Rng; omega)
    rw [h1]
    have h2 : IntKind.i64.wrap (6 + (code - 5)) = 6 + (code - 5) := W_id (by unfold Rng; omega)
    rw [h2]
    omega
  unfold Rng at hpos
  by_cases c4 : code = 4
  · subst c4
    simp [evs, aeval, binS, cx_ti, cx_G, cx_pf, cx_tw, ti, globS, glob, ldcs_1, ldcs_2, ldcs_3, ldcs_4, ldcs_5, ldcs_7, sls, slc, pfL, iv, icells, ii, vv, mentionV, knownV, tb61, G65, pureS, f0, f1, agree_up, agree_refl, v1, v2, v3, s3, s4, s5, u1, u2, u3, u4, u5]
  by_cases c3 : code = 3
  · subst c3
    by_cases ht : item = each ∧ 0 ≤ item
    · obtain ⟨rfl, ht2⟩ := ht
      by_cases hp1 : 1 ≤ pos
      · have hw2 : IntKind.i64.wrap (pos - 1) = pos - 1 := W_id (by unfold Rng; omega)
        have hp2 : ¬ pos < 1 := by omega
        simp [evs, aeval, binS, cx_ti, cx_G, cx_pf, cx_tw, ti, globS, glob, ldcs_1, ldcs_2, ldcs_3, ldcs_4, ldcs_5, ldcs_7, sls, slc, pfL, iv, icells, ii, vv, mentionV, knownV, tb61, G65, pureS, f0, f1, agree_up, agree_refl, v1, v2, v3, s3, s4, s5, u1, u2, u3, u4, u5, ht2, hp1, hp2, hw2, t3, g101, pureH, de101, f2, g1, hsm]
      · have hp2 : pos < 1 := by omega
        simp [evs, aeval, binS, cx_ti, cx_G, cx_pf, cx_tw, ti, globS, glob, ldcs_1, ldcs_2, ldcs_3, ldcs_4, ldcs_5, ldcs_7, sls, slc, pfL, iv, icells, ii, vv, mentionV, unk, tb61, G65, pureS, f0, f1, agree_up, agree_refl, v1, v2, v3, s3, s4, s5, u1, u2, u3, u4, u5, ht2, hp1, hp2, t3, g101, pureH, de101, f2, g1, hsm]
    · by_cases ht3 : item = each
      · have ht2 : ¬ 0 ≤ item := fun h => ht ⟨ht3, h⟩
        subst ht3
        simp [evs, aeval, binS, cx_ti, cx_G, cx_pf, cx_tw, ti, globS, glob, ldcs_1, ldcs_2, ldcs_3, ldcs_4, ldcs_5, ldcs_7, sls, slc, pfL, iv, icells, ii, vv, mentionV, unk, tb61, G65, pureS, f0, f1, agree_up, agree_refl, v1, v2, v3, s3, s4, s5, u1, u2, u3, u4, u5, ht2, t3, g101, pureH, de101, f2, g1, hsm]
      · simp [evs, aeval, binS, cx_ti, cx_G, cx_pf, cx_tw, ti, globS, glob, ldcs_1, ldcs_2, ldcs_3, ldcs_4, ldcs_5, ldcs_7, sls, slc, pfL, iv, icells, ii, vv, mentionV, unk, tb61, G65, pureS, f0, f1, agree_up, agree_refl, v1, v2, v3, s3, s4, s5, u1, u2, u3, u4, u5, ht3, t3, g101, pureH, de101, f2, g1, hsm]
  by_cases c2 : code = 2
  · subst c2
    by_cases ht : item = each ∧ 0 ≤ item
    · obtain ⟨rfl, ht2⟩ := ht
      simp [evs, aeval, binS, cx_ti, cx_G, cx_pf, cx_tw, ti, globS, glob, ldcs_1, ldcs_2, ldcs_3, ldcs_4, ldcs_5, ldcs_7, sls, slc, pfL, iv, icells, ii, vv, mentionV, knownV, tb61, G65, pureS, f0, f1, agree_up, agree_refl, v1, v2, v3, s3, s4, s5, u1, u2, u3, u4, u5, ht2, t3, g101, pureH, de101, f2, g1, hsm]
    · by_cases ht3 : item = each
      · have ht2 : ¬ 0 ≤ item := fun h => ht ⟨ht3, h⟩
        subst ht3
        simp [evs, aeval, binS, cx_ti, cx_G, cx_pf, cx_tw, ti, globS, glob, ldcs_1, ldcs_2, ldcs_3, ldcs_4, ldcs_5, ldcs_7, sls, slc, pfL, iv, icells, ii, vv, mentionV, unk, tb61, G65, pureS, f0, f1, agree_up, agree_refl, v1, v2, v3, s3, s4, s5, u1, u2, u3, u4, u5, ht2, t3, g101, pureH, de101, f2, g1, hsm]
      · simp [evs, aeval, binS, cx_ti, cx_G, cx_pf, cx_tw, ti, globS, glob, ldcs_1, ldcs_2, ldcs_3, ldcs_4, ldcs_5, ldcs_7, sls, slc, pfL, iv, icells, ii, vv, mentionV, unk, tb61, G65, pureS, f0, f1, agree_up, agree_refl, v1, v2, v3, s3, s4, s5, u1, u2, u3, u4, u5, ht3, t3, g101, pureH, de101, f2, g1, hsm]
  simp [evs, aeval, binS, cx_ti, cx_G, cx_pf, cx_tw, ti, globS, glob, ldcs_1, ldcs_2, ldcs_3, ldcs_4, ldcs_5, ldcs_7, sls, slc, pfL, iv, icells, ii, vv, mentionV, tb61, G65, pureS, f0, f1, agree_up, agree_refl, v1, v2, v3, s3, s4, s5, u1, u2, u3, u4, u5, c4, c3, c2, hw1, t3, g102, pureH, de102, f2, g1, hok]
  try (by_cases ht : item = each <;> simp [ht])
def tb104 : List (FuncId × (List AV → Heap → PRes)) := [(63, g52), (66, G65), (111, g53), (126, g126), (127, g127)]
set_option maxRecDepth 100000 in
set_option maxHeartbeats 1000000 in
theorem p104 : P0 [] 104 g104 := by
  refine mkH 3 (S := []) (l := tb104) (tb_cons p52 (tb_cons P66 (tb_cons p53 (tb_cons p126 (tb_cons p127 tb_nil))))) Tryd.func104 rfl (by kernel_rfl) de61_mono (fun h l x e => by obtain ⟨a, c, rfl, _⟩ := de61_out e; exact Nat.le_refl _) (fun a => rfl) (fun args q h n e hp hn => ?_)
  obtain ⟨⟨code, item, icol, iN, ito⟩, col, ⟨ls, each, pos⟩⟩ := q
  obtain ⟨c, x, rfl, e1, e2⟩ := de61_out e
  obtain ⟨hcode, hc, hen⟩ := hp
  obtain ⟨a, rfl, e3⟩ := deEn_out e2
  simp only [] at e1 e2 e3 hcode hc hen ⊢
  obtain ⟨s1, s2, s3, s4, s5⟩ := sl_is e3
  obtain ⟨t1, t2, t3, t4, t5⟩ := sl_is e1
  obtain ⟨cl, f1, f2, u1, u2, u3, u4, u5⟩ := li_facts (e := ⟨ls, each, pos⟩) hn e3 item
  simp only [] at f1 f2 u1 u2 u3 u4 u5
  have f0 := fun h' ha => (f1 h' ha).1
  replace f1 := fun h' ha => (f1 h' ha).2
  have hlen := hen.lenAt item
  have hev := hen.evAt item
  have hpos := hen.pos
  simp only [] at hlen hev hpos
  have hsm : ∀ i : Int, smallH (listAt ls item, i, col) := fun i => ⟨by simp only [big]; omega, hc⟩
  have hok : okL (listAt ls item, col, code + 1) := ⟨hlen, hc, hev⟩
  have g1 := rd_agree hn e1
  have v1 : n ≤ n + 1 := by omega
  have v2 : n ≤ n + 2 := by omega
  have v3 : n ≤ n + 3 := by omega
  have hw0 : IntKind.i64.wrap code = code := W_id (by unfold Rng; omega)
  have hw1 : IntKind.i64.wrap (IntKind.i64.wrap (code - 5) + 6) = code + 1 := by
    have h1 : IntKind.i64.wrap (code - 5) = code - 5 := W_id (by unfold Rng; omega)
    rw [h1]
    have h2 : IntKind.i64.wrap (code - 5 + 6) = code - 5 + 6 := W_id (by unfold Rng; omega)
    rw [h2]
    omega
  unfold Rng at hpos
  by_cases c1 : code = 1
  · subst c1
    simp [evs, aeval, binS, cx_ti, cx_G, cx_pf, cx_tw, ti, globS, glob, ldcs_1, ldcs_2, ldcs_3, ldcs_4, ldcs_5, ldcs_7, sls, slc, pfL, iv, icells, ii, vv, laidV, knownV, tb104, G65, pureS, f0, f1, agree_up, agree_refl, v1, v2, v3, s3, s4, s5, u1, u2, u3, u4, u5, g53, pure1, deI]
  by_cases c4 : code = 4
  · subst c4
    simp [evs, aeval, binS, cx_ti, cx_G, cx_pf, cx_tw, ti, globS, glob, ldcs_1, ldcs_2, ldcs_3, ldcs_4, ldcs_5, ldcs_7, sls, slc, pfL, iv, icells, ii, vv, laidV, mentionV, knownV, tb104, G65, pureS, f0, f1, agree_up, agree_refl, v1, v2, v3, s3, s4, s5, u1, u2, u3, u4, u5, g53, pure1, deI]
  by_cases c3 : code = 3
  · subst c3
    by_cases ht : item = each ∧ 0 ≤ item
    · obtain ⟨rfl, ht2⟩ := ht
      by_cases hp1 : 1 ≤ pos
      · have hw2 : IntKind.i64.wrap (pos - 1) = pos - 1 := W_id (by unfold Rng; omega)
        simp [evs, aeval, binS, cx_ti, cx_G, cx_pf, cx_tw, ti, globS, glob, ldcs_1, ldcs_2, ldcs_3, ldcs_4, ldcs_5, ldcs_7, sls, slc, pfL, iv, icells, ii, vv, laidV, mentionV, knownV, tb104, G65, pureS, f0, f1, agree_up, agree_refl, v1, v2, v3, s3, s4, s5, u1, u2, u3, u4, u5, ht2, hp1, hw2, t3, g126, pureH, de126, de101, f2, g1, hsm]
      · have hone : oneV (listAt ls item) (IntKind.i64.wrap (pos - 1)) col = unk := by
          by_cases hmin : pos = -9223372036854775808
          · subst hmin
            have : IntKind.i64.wrap (-9223372036854775808 - 1) = 9223372036854775807 := by decide
            rw [this]
            unfold oneV
            rw [if_neg (by omega)]
            have : (listAt ls item)[(9223372036854775807 : Int).toNat]? = none := List.getElem?_eq_none (by omega)
            rw [this]
          · have hw2 : IntKind.i64.wrap (pos - 1) = pos - 1 := W_id (by unfold Rng; omega)
            rw [hw2]
            unfold oneV
            rw [if_pos (by omega)]
        simp [evs, aeval, binS, cx_ti, cx_G, cx_pf, cx_tw, ti, globS, glob, ldcs_1, ldcs_2, ldcs_3, ldcs_4, ldcs_5, ldcs_7, sls, slc, pfL, iv, icells, ii, vv, laidV, mentionV, unk, tb104, G65, pureS, f0, f1, agree_up, agree_refl, v1, v2, v3, s3, s4, s5, u1, u2, u3, u4, u5, ht2, hp1, t3, g126, pureH, de126, de101, f2, g1, hsm, hone]
    · by_cases ht3 : item = each
      · have ht2 : ¬ 0 ≤ item := fun h => ht ⟨ht3, h⟩
        subst ht3
        simp [evs, aeval, binS, cx_ti, cx_G, cx_pf, cx_tw, ti, globS, glob, ldcs_1, ldcs_2, ldcs_3, ldcs_4, ldcs_5, ldcs_7, sls, slc, pfL, iv, icells, ii, vv, laidV, mentionV, unk, tb104, g52, G65, pureS, f0, f1, agree_up, agree_refl, v1, v2, v3, s3, s4, s5, u1, u2, u3, u4, u5, ht2, t3]
      · simp [evs, aeval, binS, cx_ti, cx_G, cx_pf, cx_tw, ti, globS, glob, ldcs_1, ldcs_2, ldcs_3, ldcs_4, ldcs_5, ldcs_7, sls, slc, pfL, iv, icells, ii, vv, laidV, mentionV, unk, tb104, g52, G65, pureS, f0, f1, agree_up, agree_refl, v1, v2, v3, s3, s4, s5, u1, u2, u3, u4, u5, ht3, t3]
  by_cases c2 : code = 2
  · subst c2
    by_cases ht : item = each ∧ 0 ≤ item
    · obtain ⟨rfl, ht2⟩ := ht
      simp [evs, aeval, binS, cx_ti, cx_G, cx_pf, cx_tw, ti, globS, glob, ldcs_1, ldcs_2, ldcs_3, ldcs_4, ldcs_5, ldcs_7, sls, slc, pfL, iv, icells, ii, vv, laidV, mentionV, knownV, tb104, G65, pureS, f0, f1, agree_up, agree_refl, v1, v2, v3, s3, s4, s5, u1, u2, u3, u4, u5, ht2, t3, g126, pureH, de126, de101, f2, g1, hsm]
    · by_cases ht3 : item = each
      · have ht2 : ¬ 0 ≤ item := fun h => ht ⟨ht3, h⟩
        subst ht3
        simp [evs, aeval, binS, cx_ti, cx_G, cx_pf, cx_tw, ti, globS, glob, ldcs_1, ldcs_2, ldcs_3, ldcs_4, ldcs_5, ldcs_7, sls, slc, pfL, iv, icells, ii, vv, laidV, mentionV, unk, tb104, G65, pureS, f0, f1, agree_up, agree_refl, v1, v2, v3, s3, s4, s5, u1, u2, u3, u4, u5, ht2, t3, g126, pureH, de126, de101, f2, g1, hsm]
      · simp [evs, aeval, binS, cx_ti, cx_G, cx_pf, cx_tw, ti, globS, glob, ldcs_1, ldcs_2, ldcs_3, ldcs_4, ldcs_5, ldcs_7, sls, slc, pfL, iv, icells, ii, vv, laidV, mentionV, unk, tb104, G65, pureS, f0, f1, agree_up, agree_refl, v1, v2, v3, s3, s4, s5, u1, u2, u3, u4, u5, ht3, t3, g126, pureH, de126, de101, f2, g1, hsm]
  simp [evs, aeval, binS, cx_ti, cx_G, cx_pf, cx_tw, ti, globS, glob, ldcs_1, ldcs_2, ldcs_3, ldcs_4, ldcs_5, ldcs_7, sls, slc, pfL, iv, icells, ii, vv, laidV, mentionV, tb104, G65, pureS, f0, f1, agree_up, agree_refl, v1, v2, v3, s3, s4, s5, u1, u2, u3, u4, u5, c1, c4, c3, c2, hw0, hw1, t3, g127, pureH, de127, de102, f2, g1, hok]
  try (by_cases ht : item = each <;> simp [ht])
end Go.Proofs.YtkfphaphiikloaaDoor
