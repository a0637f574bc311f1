/-
  TREES, PART K: the document's Tree; do the operands have their kinds?
-/
import Derived.Test.YtkfphaphiikloaaDoorX22
set_option linter.unusedSimpArgs false
set_option linter.unusedVariables false
set_option linter.constructorNameAsVariable false
namespace Go.Proofs.YtkfphaphiikloaaDoor
open Go Go.Eng

theorem roH_fresh {h : Heap} {n : Nat} (hn : ∀ i, n ≤ i → h i = none) : Fresh n (roH h) := fun i hi => by simp [roH, hn i hi]
theorem own_is {h : Heap} {lo n : Nat} {a : AV} {cnt : Nat} {cells : List AV} {esz : Nat} (o : Own h lo n a cnt cells esz) : a.isS ∧ a.slen = cnt ∧ (∀ g, AV.unc g a = a) ∧ a.one ∧ a.cells = [a] := by
  rcases o with ⟨h0, _, rfl⟩ | ⟨w, u, rfl, _⟩
  · exact ⟨⟨rfl, rfl⟩, h0.symm, fun _ => rfl, rfl, rfl⟩
  · exact ⟨trivial, rfl, fun _ => rfl, trivial, rfl⟩
set_option maxRecDepth 100000 in
set_option maxHeartbeats 2000000 in
theorem P94 : P0 [7] 94 G70 := by
  refine mkH 1 (S := [7]) (l := []) tb_nil Tryd.func94 rfl (by kernel_rfl) deT_mono (fun h l x e => by obtain ⟨a, rfl, _⟩ := deT_out e; exact Nat.le_refl _) (fun a => rfl) (fun args t h n e hp hn => ?_)
  obtain ⟨a, rfl, e1⟩ := deT_out e
  obtain ⟨s1, s2, s3, s4, s5⟩ := sl_is e1
  rw [← tree_same]
  simp [evs, aeval, binS, cx_ti, cx_G, cx_pf, cx_tw, ti, globS, glob, ldcs_1, ldcs_2, ldcs_3, ldcs_4, ldcs_5, ldcs_7, sls.eq_1, slc.eq_1, pfL, s1, s2, s3]
  refine (acall_any (S := [7]) (by simp) (c122 (rd_agree hn e1 _ (agree_refl _ _)) hp (roH_fresh hn))).mono ?_
  rintro v h2 n2 ⟨a1, a2, a3, a4⟩
  unfold begPost at a4
  cases hb : beginTo t t.length with
  | none =>
    rw [hb] at a4
    subst a4
    have ht : tree2 t = false := by simp only [tree2, hb]
    simp [evs, aeval, binS, cx_ti, cx_G, cx_pf, cx_tw, ti, globS, glob, ldcs_1, ldcs_2, ldcs_3, ldcs_4, ldcs_5, ldcs_7, sls.eq_1, slc.eq_1, pfL, ht, bv]
  | some l =>
    rw [hb] at a4
    obtain ⟨y, rfl, hown⟩ := a4
    obtain ⟨u1, u2, u3, u4, u5⟩ := own_is hown
    have hll := begin_len hb
    have ht : tree2 t = (decide (0 < t.length) && decide (l.getD (t.length - 1) 0 = 0)) := by simp only [tree2, hb]
    rcases hown with ⟨h0, hnil, rfl⟩ | ⟨w, u, rfl, hk3, hw1, hw2⟩
    · simp [evs, aeval, binS, cx_ti, cx_G, cx_pf, cx_tw, ti, globS, glob, ldcs_1, ldcs_2, ldcs_3, ldcs_4, ldcs_5, ldcs_7, sls.eq_1, slc.eq_1, pfL, ht, bv, h0]
    · by_cases hp0 : t.length = 0
      · simp [evs, aeval, binS, cx_ti, cx_G, cx_pf, cx_tw, ti, globS, glob, ldcs_1, ldcs_2, ldcs_3, ldcs_4, ldcs_5, ldcs_7, sls.eq_1, slc.eq_1, pfL, ht, bv, hp0]
      · obtain ⟨e, he⟩ : ∃ e, t.length = e + 1 := ⟨t.length - 1, by omega⟩
        have he1 : IntKind.i64.wrap ((t.length : Int) - 1) = e := by rw [he]; exact wrapm1 (by have : t.length * 64 ≤ 140737488355328 := hp; unfold big; omega)
        have he2 : t.length - 1 = e := by omega
        have he3 : 0 < t.length := by omega
        have he4 : e < t.length := by omega
        have he5 : e + 1 ≤ t.length := by omega
        have hce : (l.map ii)[e]? = some (ii (l.getD e 0)) := by rw [List.getElem?_map, List.getD_eq_getElem?_getD, List.getElem?_eq_getElem (show e < l.length by omega)]; rfl
        have hcl : (l.map ii).length = t.length := by rw [List.length_map, hll]
        rw [he2] at ht
        generalize l.getD e 0 = d at *
        simp only [ii] at hce
        generalize hcs : l.map ii = cs at *
        have hce' : ∀ hx, cs[e]'hx = .v (.int .i64 d) := fun hx => by rw [List.getElem?_eq_getElem hx] at hce; exact Option.some.inj hce
        simp [evs, aeval, binS, cx_ti, cx_G, cx_pf, cx_tw, ti, globS, glob, ldcs_1, ldcs_2, ldcs_3, ldcs_4, ldcs_5, ldcs_7, sls.eq_1, slc.eq_1, pfL, ht, bv, he1, he3, he4, he5, hk3, hce, hce', hcl]
        rw [Bool.eq_iff_iff]; simp
end Go.Proofs.YtkfphaphiikloaaDoor

/-
  TREES, PART L: can a tree be run? (the document's)
-/
namespace Go.Proofs.YtkfphaphiikloaaDoor
open Go Go.Eng

def kindB (t : List Nd) (x : Nd) : Bool := if x.op < 12 then true else (truthO (t.getD x.a.toNat nd0).op == wantsT x.op) && (decide (x.b < 0) || (truthO (t.getD x.b.toNat nd0).op == wantsT x.op))
theorem nodeOk_eq (vs : List ByteArray) (t : List Nd) (x : Nd) : nodeOk vs t x = ((!mentO x.op || decide (0 ≤ ixOf vs x.var)) && kindB t x) := by
  unfold nodeOk kindB mentO
  by_cases h1 : x.op < 4
  · have h2 : ¬ 4 ≤ x.op := by omega
    have h3 : x.op < 12 := by omega
    simp [h1, h2, h3]
  · by_cases h4 : x.op ≤ 11
    · have h2 : 4 ≤ x.op := by omega
      have h3 : x.op < 12 := by omega
      simp [h1, h2, h3, h4]
    · have h3 : ¬ x.op < 12 := by omega
      simp [h1, h3, h4]
/-- A tree and a place. -/
def deTI (h : Heap) : List AV → Option (List Nd × Int)
  | [a, .v (.int .i64 i)] => (rd dNs h a).map fun t => (t, i)
  | _ => none
theorem deTI_out {h : Heap} {args : List AV} {q : List Nd × Int} (e : deTI h args = some q) : ∃ a, args = [a, ii q.2] ∧ rd dNs h a = some q.1 := by
  unfold deTI at e
  split at e
  · simp only [Option.map_eq_some_iff] at e
    obtain ⟨t, h1, rfl⟩ := e
    exact ⟨_, rfl, h1⟩
  · cases e
theorem deTI_mono (h h' : Heap) (args : List AV) (q : List Nd × Int) (hh : h.le h') (e : deTI h args = some q) : deTI h' args = some q := by
  obtain ⟨a, rfl, e1⟩ := deTI_out e
  simp only [deTI, ii, rd_mono hh e1, Option.map_some]
def okTI (q : List Nd × Int) : Prop := tree1 q.1 = true ∧ 0 ≤ q.2 ∧ q.2 < q.1.length
def G97 := pureH deTI okTI fun q => bv (kindB q.1 (q.1.getD q.2.toNat nd0))
def tb97 : List (FuncId × (List AV → Heap → PRes)) := [(123, g92)]
set_option maxRecDepth 100000 in
set_option maxHeartbeats 2000000 in
theorem P97 : P0 [] 97 G97 := by
  refine mkH 2 (S := []) (l := tb97) (tb_cons p123 tb_nil) Tryd.func97 rfl (by kernel_rfl) deTI_mono (fun h l x e => by obtain ⟨a, rfl, _⟩ := deTI_out e; exact Nat.le_refl _) (fun a => rfl) (fun args q h n e hp hn => ?_)
  obtain ⟨a, rfl, e1⟩ := deTI_out e
  obtain ⟨t, i⟩ := q
  obtain ⟨hp1, hp2, hp3⟩ := hp
  simp only [] at e1 hp1 hp2 hp3 ⊢
  obtain ⟨j, rfl⟩ : ∃ j : Nat, i = j := ⟨i.toNat, by omega⟩
  have hlt : j < t.length := by omega
  have hko := tree_kids hp1 j hlt
  rcases ns_at e1 with ⟨h0, _⟩ | ⟨id, off, k, rfl, hk, ho', hat⟩
  · rw [h0] at hlt; simp at hlt
  have hr := hat j hlt
  have hro := ro_at hk
  have h0 := ne_of hk hn 0
  simp only [Nat.add_zero] at h0
  have hle : ∀ (X : Ctx) (h' : Heap), h' id = some ⟨k.cells, k.ver, false, k.esz⟩ → ldcs X h' (.p id k.ver (off + j * 6)) 0 6 = ncells t[j] := fun X h' e => ldcs_nd e hr
  have hw6 : off + (j * 6 + 6) ≤ k.cells.length := by omega
  have hA : ∀ c, c < t.length → k.cells[off + c * 6]? = some (ii (t.getD c nd0).op) ∧ off + (c * 6 + 1) ≤ k.cells.length := fun c hc => by
    have := cell_of (c := 0) (hat c hc) rfl (by omega)
    rw [List.getD_eq_getElem?_getD, List.getElem?_eq_getElem hc]
    exact ⟨this, by omega⟩
  have hg : t.getD j nd0 = t[j] := by rw [List.getD_eq_getElem?_getD, List.getElem?_eq_getElem hlt]; rfl
  rw [Int.toNat_natCast, hg]
  generalize t[j] = x at *
  obtain ⟨op, num, var, attr, xa, xb⟩ := x
  obtain ⟨k1, _, k2, k3, k4, _⟩ := hko
  simp only [] at k1 k2 k3 k4
  by_cases h12 : op < 12
  · have hkb : kindB t ⟨op, num, var, attr, xa, xb⟩ = true := by simp [kindB, h12]
    have n1 : ¬ op = 12 := by omega
    have n2 : ¬ op = 13 := by omega
    have n3 : ¬ 14 ≤ op := by omega
    have n4 : ¬ op = 25 := by omega
    have n5 : ¬ op = 26 := by omega
    simp [evs, aeval, binS, cx_ti, cx_G, cx_pf, cx_tw, ti, globS, glob, ldcs_1, ldcs_2, ldcs_3, ldcs_4, ldcs_5, ldcs_7, sls.eq_1, slc.eq_1, pfL, ii, ss, hlt, hro, h0, hle, hw6, ncells, n1, n2, n3, n4, n5, hkb, bv]
  have har : 1 ≤ arity op := by unfold arity at k1 ⊢; grind
  obtain ⟨c, rfl⟩ : ∃ c : Nat, xa = c := ⟨xa.toNat, by have := (k2 har).1; omega⟩
  have hcl : c < t.length := by have := (k2 har).2; omega
  obtain ⟨hcA, hwA⟩ := hA c hcl
  generalize hoa : (t.getD c nd0).op = oa at *
  have hoa' := hoa
  rw [List.getD_eq_getElem?_getD] at hoa'
  by_cases h14 : op < 14
  · have hb : xb = -1 := k4 (by unfold arity; grind)
    subst hb
    rcases (show op = 12 ∨ op = 13 by omega) with rfl | rfl
    · have hkb : kindB t ⟨12, num, var, attr, (c : Int), -1⟩ = !truthO oa := by simp [kindB, wantsT, hoa']
      simp [evs, aeval, binS, cx_ti, cx_G, cx_pf, cx_tw, ti, globS, glob, ldcs_1, ldcs_2, ldcs_3, ldcs_4, ldcs_5, ldcs_7, sls.eq_1, slc.eq_1, pfL, ii, ss, hlt, hro, h0, hle, hw6, ncells, hcl, hcA, hwA, tb97, g92, pure1, deI, hkb, bv]
    · have hkb : kindB t ⟨13, num, var, attr, (c : Int), -1⟩ = truthO oa := by simp [kindB, wantsT, hoa']
      simp [evs, aeval, binS, cx_ti, cx_G, cx_pf, cx_tw, ti, globS, glob, ldcs_1, ldcs_2, ldcs_3, ldcs_4, ldcs_5, ldcs_7, sls.eq_1, slc.eq_1, pfL, ii, ss, hlt, hro, h0, hle, hw6, ncells, hcl, hcA, hwA, tb97, g92, pure1, deI, hkb, bv]
  have har2 : arity op = 2 := by unfold arity at k1 ⊢; grind
  obtain ⟨d, rfl⟩ : ∃ d : Nat, xb = d := ⟨xb.toNat, by have := (k3 har2).1; omega⟩
  have hdl : d < t.length := by have := (k3 har2).2; omega
  obtain ⟨hdA, hwD⟩ := hA d hdl
  generalize hob : (t.getD d nd0).op = ob at *
  have hob' := hob
  rw [List.getD_eq_getElem?_getD] at hob'
  have n1 : ¬ op = 12 := by omega
  have n2 : ¬ op = 13 := by omega
  have n3 : 14 ≤ op := by omega
  have n7 : op ≤ 26 := by unfold arity at har2; grind
  have n8 : ¬ (d : Int) < 0 := by omega
  by_cases h24 : op ≤ 24
  · have hkb : kindB t ⟨op, num, var, attr, (c : Int), (d : Int)⟩ = (!truthO oa && !truthO ob) := by
      have : wantsT op = false := by simp [wantsT]; omega
      simp [kindB, this, hoa', hob', h12, n8]
    cases hta : truthO oa <;> cases htb : truthO ob <;> simp [evs, aeval, binS, cx_ti, cx_G, cx_pf, cx_tw, ti, globS, glob, ldcs_1, ldcs_2, ldcs_3, ldcs_4, ldcs_5, ldcs_7, sls.eq_1, slc.eq_1, pfL, ii, ss, hlt, hro, h0, hle, hw6, ncells, hcl, hcA, hwA, hdl, hdA, hwD, tb97, g92, pure1, deI, hkb, bv, n1, n2, n3, h24, hta, htb]
  · rcases (show op = 25 ∨ op = 26 by omega) with rfl | rfl
    all_goals
      have hkb : ∀ o : Int, o = 25 ∨ o = 26 → kindB t ⟨o, num, var, attr, (c : Int), (d : Int)⟩ = (truthO oa && truthO ob) := fun o ho => by
        rcases ho with rfl | rfl <;> simp [kindB, wantsT, hoa', hob', n8]
      cases hta : truthO oa <;> cases htb : truthO ob <;> simp [evs, aeval, binS, cx_ti, cx_G, cx_pf, cx_tw, ti, globS, glob, ldcs_1, ldcs_2, ldcs_3, ldcs_4, ldcs_5, ldcs_7, sls.eq_1, slc.eq_1, pfL, ii, ss, hlt, hro, h0, hle, hw6, ncells, hcl, hcA, hwA, hdl, hdA, hwD, tb97, g92, pure1, deI, hkb, bv, hta, htb]
/-! ### Runnable -/
def deQT (h : Heap) : List AV → Option (Qu × List Nd)
  | [x, a] => match deQ h x, rd dNs h a with
    | some q, some t => some (q, t)
    | _, _ => none
  | _ => none
theorem deQT_out {h : Heap} {args : List AV} {q : Qu × List Nd} (e : deQT h args = some q) : ∃ x a, args = [x, a] ∧ deQ h x = some q.1 ∧ rd dNs h a = some q.2 := by
  unfold deQT at e
  split at e
  · split at e
    · rename_i e1 e2
      cases e
      exact ⟨_, _, rfl, e1, e2⟩
    · cases e
  · cases e
theorem deQT_mono (h h' : Heap) (args : List AV) (q : Qu × List Nd) (hh : h.le h') (e : deQT h args = some q) : deQT h' args = some q := by
  obtain ⟨x, a, rfl, e1, e2⟩ := deQT_out e
  simp only [deQT, deQ_sim hh.sim e1, rd_mono hh e2]
def okQT (q : Qu × List Nd) : Prop := q.1.items.length < big ∧ smallT q.2
def G57 := pureH deQT okQT fun q => bv (runT (vars q.1.items) q.2)
def tb57 : List (FuncId × (List AV → Heap → PRes)) := [(94, G70), (95, g95), (96, G96), (97, G97)]
set_option maxRecDepth 100000 in
set_option maxHeartbeats 2000000 in
theorem P57 : P0 [7] 57 G57 := by
  refine mkH 2 (S := [7]) (l := tb57) (tb_cons P94 (tb_cons p95 (tb_cons P96 (tb_cons P97 tb_nil)))) Tryd.func57 rfl (by kernel_rfl) deQT_mono (fun h l x e => by obtain ⟨x, a, rfl, _⟩ := deQT_out e; exact Nat.le_refl _) (fun a => rfl) (fun args q h n e hp hn => ?_)
  obtain ⟨x, ta, rfl, e1, e5⟩ := deQT_out e
  obtain ⟨a, b, c, rfl, e2, e3, e4⟩ := deQ_out e1
  obtain ⟨q, t⟩ := q
  obtain ⟨hp1, hp2⟩ := hp
  have hp' : t.length * 64 ≤ 140737488355328 := hp2
  simp only [] at e1 e2 e3 e4 e5 hp1 hp2 hp' ⊢
  obtain ⟨s1, s2, s3, s4, s5⟩ := sl_is e5
  have o1 := (sl_is e2).2.2.2.1
  have o2 := (sl_is e3).2.2.2.1
  have o3 := (sl_is e4).2.2.2.1
  have g5 := rd_agree hn e5
  have gq := q_agree hn e1
  simp only [ii, ss] at gq
  have key : ∀ e : Nat → AV, e 0 = .g [a, ii q.mode, ii q.after, b, ii q.within, ss q.par, c] → e 1 = ta → awp (cx [7] (pfL tb57)) (Tryd.f57.body.getD .skip) (finQ (cx [7] (pfL tb57)) Tryd.f57 fun z _ _ => z = bv (runT (vars q.items) t)) ⟨e, roH h, n⟩ := fun e q0 q1 => by
    cases ht : tree1 t with
    | false =>
      have hf : runT (vars q.items) t = false := by simp [runT, ht]
      simp [evs, aeval, binS, cx_ti, cx_G, cx_pf, cx_tw, ti, globS, glob, ldcs_1, ldcs_2, ldcs_3, ldcs_4, ldcs_5, ldcs_7, sls.eq_1, slc.eq_1, pfL, Tryd.f57, q0, q1, ii, ss, s1, s2, s3, o1, o2, o3, tb57, G70, pureH, deT, g5, agree_up, agree_refl, hp2, ht, hf, bv]
    | true =>
      have hrt : runT (vars q.items) t = okTo (vars q.items) t t.length := by simp [runT, ht]
      simp [evs, aeval, binS, cx_ti, cx_G, cx_pf, cx_tw, ti, globS, glob, ldcs_1, ldcs_2, ldcs_3, ldcs_4, ldcs_5, ldcs_7, sls.eq_1, slc.eq_1, pfL, Tryd.f57, q0, q1, ii, ss, s1, s2, s3, o1, o2, o3, tb57, G70, pureH, deT, g5, agree_up, agree_refl, hp2, ht, bv]
      refine awp_loop (fun s => ∃ j : Nat, j ≤ t.length ∧ okTo (vars q.items) t j = true ∧ s.e 1 = ta ∧ s.e 2 = .p n 0 0 ∧ s.e 6 = ii j ∧ agree n (roH h) s.h ∧ s.h n = some ⟨[a, ii q.mode, ii q.after, b, ii q.within, ss q.par, c], 0, true, 7⟩) (fun s => t.length - (s.e 6).i.toNat) ⟨0, by simp [up, q0, q1, ii, ss, agree_up, agree_refl, okTo]⟩ ?_
      rintro e' h' n' ⟨j, hj, hok, q1, q2, q6, hag, hbk⟩
      simp only [] at q1 q2 q6 hag hbk
      by_cases hlt : j < t.length
      · rcases ns_at e5 with ⟨h0, _⟩ | ⟨id, off, k, rfl, hk, ho', hat⟩
        · rw [h0] at hlt; simp at hlt
        have hr := hat j hlt
        have c0 := cell_of (c := 0) hr rfl (by omega)
        have c2 := cell_of (c := 2) hr rfl (by omega)
        rw [Nat.add_assoc] at c2
        simp only [Nat.add_zero] at c0
        have ha' := agree_at hn hk hag
        have hw := wrap_nat (j := j) (by unfold big; omega)
        have hw1 : off + (j * 6 + 1) ≤ k.cells.length := by omega
        have hw3 : off + (j * 6 + 3) ≤ k.cells.length := by omega
        have hsu := okTo_succ (vs := vars q.items) hlt
        have hno := okTo_no (vs := vars q.items) hlt
        have hoe := nodeOk_eq (vars q.items) t t[j]
        have hti : okTI (t, (j : Int)) := ⟨ht, by simp, by simpa using hlt⟩
        have hg : t.getD j nd0 = t[j] := by rw [List.getD_eq_getElem?_getD, List.getElem?_eq_getElem hlt]; rfl
        have hg' : t[j]?.getD nd0 = t[j] := by rw [List.getElem?_eq_getElem hlt]; rfl
        rw [← hrt] at hno
        generalize hgx : t[j] = x at *
        obtain ⟨op, num, var, attr, xa, xb⟩ := x
        simp only [] at c0 c2 hoe
        generalize hix : ixOf (vars q.items) var = ix at *
        cases hm : mentO op with
        | true =>
          by_cases hneg : ix < 0
          · have hng : ¬ 0 ≤ ix := by omega
            have hf := hno (by rw [hoe, hm]; simp [hng])
            simp [evs, aeval, binS, cx_ti, cx_G, cx_pf, cx_tw, ti, globS, glob, ldcs_1, ldcs_2, ldcs_3, ldcs_4, ldcs_5, ldcs_7, sls.eq_1, slc.eq_1, pfL, q1, q2, q6, ii, ss, hlt, ha', c0, c2, hw1, hw3, hbk, tb57, g95, pure1, deI, hm, G96, pureH, deQS, gq, hag, hp1, hix, hneg, hf, bv]
          · have hng : 0 ≤ ix := by omega
            cases hkb : kindB t ⟨op, num, var, attr, xa, xb⟩ with
            | false =>
              have hf := hno (by rw [hoe, hkb]; simp)
              simp [evs, aeval, binS, cx_ti, cx_G, cx_pf, cx_tw, ti, globS, glob, ldcs_1, ldcs_2, ldcs_3, ldcs_4, ldcs_5, ldcs_7, sls.eq_1, slc.eq_1, pfL, q1, q2, q6, ii, ss, hlt, ha', c0, c2, hw1, hw3, hbk, tb57, g95, pure1, deI, hm, G96, pureH, deQS, gq, hag, hp1, hix, hneg, G97, deTI, g5, hti, hg, hg', hgx, hkb, hf, bv]
            | true =>
              have hs1 : okTo (vars q.items) t (j + 1) = true := by rw [hsu, hok, hoe, hkb, hm]; simp [hng]
              simp [evs, aeval, binS, cx_ti, cx_G, cx_pf, cx_tw, ti, globS, glob, ldcs_1, ldcs_2, ldcs_3, ldcs_4, ldcs_5, ldcs_7, sls.eq_1, slc.eq_1, pfL, q1, q2, q6, ii, ss, hlt, ha', c0, c2, hw1, hw3, hbk, tb57, g95, pure1, deI, hm, G96, pureH, deQS, gq, hag, hp1, hix, hneg, G97, deTI, g5, hti, hg, hg', hgx, hkb, bv, hw]
              exact ⟨⟨j + 1, by omega, hs1, by omega⟩, by omega⟩
        | false =>
          cases hkb : kindB t ⟨op, num, var, attr, xa, xb⟩ with
          | false =>
            have hf := hno (by rw [hoe, hkb]; simp)
            simp [evs, aeval, binS, cx_ti, cx_G, cx_pf, cx_tw, ti, globS, glob, ldcs_1, ldcs_2, ldcs_3, ldcs_4, ldcs_5, ldcs_7, sls.eq_1, slc.eq_1, pfL, q1, q2, q6, ii, ss, hlt, ha', c0, c2, hw1, hw3, hbk, tb57, g95, pure1, deI, hm, G97, pureH, deTI, g5, hag, hti, hg, hg', hgx, hkb, hf, bv]
          | true =>
            have hs1 : okTo (vars q.items) t (j + 1) = true := by rw [hsu, hok, hoe, hkb, hm]; simp
            simp [evs, aeval, binS, cx_ti, cx_G, cx_pf, cx_tw, ti, globS, glob, ldcs_1, ldcs_2, ldcs_3, ldcs_4, ldcs_5, ldcs_7, sls.eq_1, slc.eq_1, pfL, q1, q2, q6, ii, ss, hlt, ha', c0, c2, hw1, hw3, hbk, tb57, g95, pure1, deI, hm, G97, pureH, deTI, g5, hag, hti, hg, hg', hgx, hkb, bv, hw]
            exact ⟨⟨j + 1, by omega, hs1, by omega⟩, by omega⟩
      · obtain rfl : j = t.length := by omega
        simp [evs, aeval, binS, cx_ti, cx_G, cx_pf, cx_tw, ti, globS, glob, ldcs_1, ldcs_2, ldcs_3, ldcs_4, ldcs_5, ldcs_7, sls.eq_1, slc.eq_1, pfL, q1, q2, q6, ii, s1, s2, s3, hrt, hok, bv]
  exact key _ rfl rfl
end Go.Proofs.YtkfphaphiikloaaDoor

/-
  THE LAWS WITHOUT THE DOCUMENT, PART A: which trees the laws' own text calls runnable.
-/
namespace Go.Proofs.YtkfphaphiikloaaDoor
open Go Go.Eng

def truthW (o : Int) : Bool := decide (o = 2 ∨ o = 3 ∨ o = 13 ∨ 19 ≤ o)
def g72 := pure1 deI fun o => bv (truthW o)
set_option maxRecDepth 100000 in
theorem p72 : P0 [] 72 g72 := by
  refine mk1 (S := []) tb_nil Tryd.func72 rfl (by kernel_rfl) ii (fun x a h => deI_out h) (fun a => rfl) (fun o h n => ?_)
  have hc : o = 2 ∨ o = 3 ∨ o = 13 ∨ (o ≠ 2 ∧ o ≠ 3 ∧ o ≠ 13) := by omega
  rcases hc with rfl | rfl | rfl | ⟨h1, h2, h3⟩
  all_goals first | (simp [evs, aeval, binS, cx_ti, cx_G, cx_pf, cx_tw, ti, globS, glob, ldcs, sls, slc, pfL, ii, bv, truthW]; done) | simp [evs, aeval, binS, cx_ti, cx_G, cx_pf, cx_tw, ti, globS, glob, ldcs, sls, slc, pfL, ii, bv, truthW, h1, h2, h3]
theorem truth72 {o : Int} (h : 0 ≤ arity o) : truthW o = truthO o := by
  unfold truthO truthW
  have h26 : o ≤ 26 := by unfold arity at h; grind
  rw [decide_eq_decide]
  omega
theorem wants72 {o : Int} (h : 0 ≤ arity o) : decide (o = 13 ∨ 25 ≤ o) = wantsT o := by
  unfold wantsT
  have h26 : o ≤ 26 := by unfold arity at h; grind
  rw [decide_eq_decide]
  omega
set_option maxRecDepth 100000 in
set_option maxHeartbeats 1000000 in
theorem P71 : P0 [] 71 G96 := by
  refine mkH 2 (S := []) (l := []) tb_nil Tryd.func71 rfl (by kernel_rfl) deQS_mono (fun h l x e => by obtain ⟨a, rfl, _⟩ := deQS_out e; exact Nat.le_refl _) (fun a => rfl) (fun args q h n e hp hn => ?_)
  obtain ⟨x, rfl, e1⟩ := deQS_out e
  obtain ⟨a, b, c, rfl, e2, e3, e4⟩ := deQ_out e1
  obtain ⟨q, v⟩ := q
  simp only [] at e2 e3 e4 hp ⊢
  obtain ⟨s1, s2, s3, s4, s5⟩ := sl_is e2
  have hl : (vars q.items).length = q.items.length := by simp [vars]
  have o2 := (sl_is e3).2.2.2.1
  have o3 := (sl_is e4).2.2.2.1
  have hgv : ∀ j (hj : j < q.items.length), (vars q.items).getD j ByteArray.empty = q.items[j].var := fun j hj => by rw [List.getD_eq_getElem?_getD, vars, List.getElem?_map, List.getElem?_eq_getElem hj]; rfl
  have key : ∀ e : Nat → AV, e 0 = .g [a, ii q.mode, ii q.after, b, ii q.within, ss q.par, c] → e 1 = ss v → awp (cx [] (pfL [])) (Tryd.f71.body.getD .skip) (finQ (cx [] (pfL [])) Tryd.f71 fun z _ _ => z = ii (ixOf (vars q.items) v)) ⟨e, roH h, n⟩ := fun e q0 q1 => by
    simp [evs, aeval, binS, cx_ti, cx_G, cx_pf, cx_tw, ti, globS, glob, ldcs_1, ldcs_2, ldcs_3, ldcs_4, ldcs_5, ldcs_7, sls.eq_1, slc.eq_1, pfL, Tryd.f71, q0, q1, ii, ss, s1, s2, s3, s4, o2, o3]
    refine awp_loop (fun s => ∃ j : Nat, j ≤ q.items.length ∧ s.e 1 = ss v ∧ s.e 2 = .p n 0 0 ∧ s.e 5 = ii j ∧ agree n (roH h) s.h ∧ s.h n = some ⟨[a, ii q.mode, ii q.after, b, ii q.within, ss q.par, c], 0, true, 7⟩ ∧ ∀ i, i < j → ((vars q.items).getD i ByteArray.empty == v) = false) (fun s => q.items.length - (s.e 5).i.toNat) ⟨0, by simp [up, q1, ii, ss, agree_up, agree_refl]⟩ ?_
    rintro e' h' n' ⟨j, hj, q1, q2, q5, hag, hbk, hno⟩
    simp only [] at q1 q2 q5 hag hbk
    by_cases hlt : j < q.items.length
    · rcases its_at e2 with ⟨h0, _⟩ | ⟨id, off, k, rfl, hk, ho, hat⟩
      · rw [h0] at hlt; simp at hlt
      have hr := hat j hlt
      have ha' := agree_at hn hk hag
      have hw := wrap_nat (j := j) (by omega)
      have hw1 : off + (j * 5 + 3) ≤ k.cells.length := by omega
      have hgj := hgv j hlt
      generalize q.items[j].var = y at *
      cases hy : (y == v) with
      | true =>
        have hf := fi_hit (v := v) (by rw [hl]; exact hlt) hno (by rw [hgj]; exact hy)
        have h1 : ixOf (vars q.items) v = (j : Int) := by rw [ixOf, hf, if_pos (by rw [hl]; exact hlt)]
        have h2 : ¬ (j : Int) < 0 := by omega
        simp [evs, aeval, binS, cx_ti, cx_G, cx_pf, cx_tw, ti, globS, glob, ldcs_1, ldcs_2, ldcs_3, ldcs_4, ldcs_5, ldcs_7, sls.eq_1, slc.eq_1, pfL, q1, q2, q5, ii, ss, hlt, hbk, ha', hr, hw1, hy, h1, h2, bv]
      | false =>
        simp [evs, aeval, binS, cx_ti, cx_G, cx_pf, cx_tw, ti, globS, glob, ldcs_1, ldcs_2, ldcs_3, ldcs_4, ldcs_5, ldcs_7, sls.eq_1, slc.eq_1, pfL, q1, q2, q5, ii, ss, hlt, hbk, ha', hr, hw1, hy, hw, hag]
        refine ⟨⟨j + 1, by omega, by omega, fun i hi => ?_⟩, by omega⟩
        by_cases e : i = j
        · subst e; rw [← List.getD_eq_getElem?_getD, hgj]; exact hy
        · have := hno i (by omega); rwa [List.getD_eq_getElem?_getD] at this
    · obtain rfl : j = q.items.length := by omega
      have hf := fi_none (v := v) (l := vars q.items) (by rw [hl]; exact hno)
      have h1 : ixOf (vars q.items) v = -1 := by rw [ixOf, hf, if_neg (by omega)]
      simp [evs, aeval, binS, cx_ti, cx_G, cx_pf, cx_tw, ti, globS, glob, ldcs_1, ldcs_2, ldcs_3, ldcs_4, ldcs_5, ldcs_7, sls.eq_1, slc.eq_1, pfL, q1, q2, q5, ii, s1, s2, s3, s4, hbk, h1, bv]
  exact key _ rfl rfl
/-- A name is not empty. -/
theorem name_ne {s : ByteArray} (h : isNameS s = true) : (s == ByteArray.empty) = false := by
  cases e : s == ByteArray.empty with
  | false => rfl
  | true =>
    have e' : s = ByteArray.empty := by rw [← ba_beq]; exact e
    subst e'
    simp [isNameS] at h
def tb42 : List (FuncId × (List AV → Heap → PRes)) := [(70, G70), (71, G96), (72, g72)]
set_option maxRecDepth 100000 in
set_option maxHeartbeats 4000000 in
theorem P42 : P0 [7] 42 G57 := by
  refine mkH 2 (S := [7]) (l := tb42) (tb_cons P70 (tb_cons P71 (tb_cons p72 tb_nil))) Tryd.func42 rfl (by kernel_rfl) deQT_mono (fun h l x e => by obtain ⟨x, a, rfl, _⟩ := deQT_out e; exact Nat.le_refl _) (fun a => rfl) (fun args q h n e hp hn => ?_)
  obtain ⟨x, ta, rfl, e1, e5⟩ := deQT_out e
  obtain ⟨a, b, c, rfl, e2, e3, e4⟩ := deQ_out e1
  obtain ⟨q, t⟩ := q
  obtain ⟨hp1, hp2⟩ := hp
  have hp' : t.length * 64 ≤ 140737488355328 := hp2
  simp only [] at e1 e2 e3 e4 e5 hp1 hp2 hp' ⊢
  obtain ⟨s1, s2, s3, s4, s5⟩ := sl_is e5
  have o1 := (sl_is e2).2.2.2.1
  have o2 := (sl_is e3).2.2.2.1
  have o3 := (sl_is e4).2.2.2.1
  have g5 := rd_agree hn e5
  have gq := q_agree hn e1
  simp only [ii, ss] at gq
  have key : ∀ e : Nat → AV, e 0 = .g [a, ii q.mode, ii q.after, b, ii q.within, ss q.par, c] → e 1 = ta → awp (cx [7] (pfL tb42)) (Tryd.f42.body.getD .skip) (finQ (cx [7] (pfL tb42)) Tryd.f42 fun z _ _ => z = bv (runT (vars q.items) t)) ⟨e, roH h, n⟩ := fun e q0 q1 => by
    cases ht : tree1 t with
    | false =>
      have hf : runT (vars q.items) t = false := by simp [runT, ht]
      simp [evs, aeval, binS, cx_ti, cx_G, cx_pf, cx_tw, ti, globS, glob, ldcs_1, ldcs_2, ldcs_3, ldcs_4, ldcs_5, ldcs_7, sls.eq_1, slc.eq_1, pfL, Tryd.f42, q0, q1, ii, ss, s1, s2, s3, o1, o2, o3, tb42, G70, pureH, deT, g5, agree_up, agree_refl, hp2, ht, hf, bv]
    | true =>
      have hrt : runT (vars q.items) t = okTo (vars q.items) t t.length := by simp [runT, ht]
      have hpos := tree_pos ht
      simp [evs, aeval, binS, cx_ti, cx_G, cx_pf, cx_tw, ti, globS, glob, ldcs_1, ldcs_2, ldcs_3, ldcs_4, ldcs_5, ldcs_7, sls.eq_1, slc.eq_1, pfL, Tryd.f42, q0, q1, ii, ss, s1, s2, s3, o1, o2, o3, tb42, G70, pureH, deT, g5, agree_up, agree_refl, hp2, ht, bv]
      refine awp_loop (fun s => ∃ j : Nat, j ≤ t.length ∧ okTo (vars q.items) t j = true ∧ s.e 1 = ta ∧ s.e 2 = .p n 0 0 ∧ s.e 6 = ii j ∧ agree n (roH h) s.h ∧ s.h n = some ⟨[a, ii q.mode, ii q.after, b, ii q.within, ss q.par, c], 0, true, 7⟩ ∧ n + 1 ≤ s.n) (fun s => t.length - (s.e 6).i.toNat) ⟨0, by simp [up, q0, q1, ii, ss, agree_up, agree_refl, okTo]⟩ ?_
      rintro e' h' n' ⟨j, hj, hok, q1, q2, q6, hag, hbk, hnn⟩
      simp only [] at q1 q2 q6 hag hbk hnn
      by_cases hlt : j < t.length
      · rcases ns_at e5 with ⟨h0, _⟩ | ⟨id, off, k, rfl, hk, ho', hat⟩
        · rw [h0] at hlt; simp at hlt
        have hr := hat j hlt
        have hko := tree_kids ht j hlt
        have hfl := hko.fl
        have hk' := agree_at hn hk hag
        have hid : id < n := by
          by_cases hq : id < n
          · exact hq
          · rw [hn id (by omega)] at hk; cases hk
        have y0 : ¬ id = n' := by omega
        have y2 : ¬ n = n' := by omega
        have y4 : n ≤ n' := by omega
        have hw := wrap_nat (j := j) (by unfold big; omega)
        have hle : ∀ (X : Ctx) (h' : Heap), h' id = some ⟨k.cells, k.ver, false, k.esz⟩ → ldcs X h' (.p id k.ver (off + j * 6)) 0 6 = ncells t[j] := fun X h' e => ldcs_nd e hr
        have hw6 : off + (j * 6 + 6) ≤ k.cells.length := by omega
        have hA : ∀ c, c < t.length → k.cells[off + c * 6]? = some (ii (t.getD c nd0).op) ∧ off + (c * 6 + 1) ≤ k.cells.length := fun c hc => by
          have := cell_of (c := 0) (hat c hc) rfl (by omega)
          rw [List.getD_eq_getElem?_getD, List.getElem?_eq_getElem hc]
          exact ⟨this, by omega⟩
        have hAr : ∀ c, c < t.length → 0 ≤ arity (t.getD c nd0).op := fun c hc => by
          rw [List.getD_eq_getElem?_getD, List.getElem?_eq_getElem hc]
          exact (tree_kids ht c hc).ar
        have hsu := okTo_succ (vs := vars q.items) hlt
        have hno := okTo_no (vs := vars q.items) hlt
        have hoe := nodeOk_eq (vars q.items) t t[j]
        rw [← hrt] at hno
        generalize t[j] = x at *
        obtain ⟨op, num, var, attr, xa, xb⟩ := x
        obtain ⟨k1, _, k2, k3, k4, k5⟩ := hko
        simp only [] at hoe k1 k2 k3 k4 k5
        have hj1 : j + 1 ≤ t.length := hlt
        have hwt := wants72 k1
        by_cases h11 : op ≤ 11
        · have ha0 : arity op = 0 := by unfold arity at k1 ⊢; grind
          have hA1 := k5 ha0
          have hB1 := k4 (by omega)
          subst hA1 hB1
          have m13 : ¬ op = 13 := by omega
          have m25 : ¬ 25 ≤ op := by omega
          have hj0 : ¬ (j : Int) ≤ -1 := by omega
          have hkb : kindB t ⟨op, num, var, attr, -1, -1⟩ = true := by have : op < 12 := by omega
                                                                       simp [kindB, this]
          rw [hkb] at hoe
          by_cases h4 : 4 ≤ op
          · have hm : mentO op = true := by simp [mentO, h4, h11]
            rw [hm] at hoe
            have hvn : (var == ByteArray.empty) = false := name_ne (by unfold fieldsB at hfl; simp only [h4, h11, and_self, if_true, Bool.and_eq_true] at hfl; exact hfl.1.2)
            have hvn' : (var != ByteArray.mk #[]) = true := by show (!(var == ByteArray.empty)) = true; rw [hvn]; rfl
            by_cases hneg : ixOf (vars q.items) var < 0
            · have hng : ¬ 0 ≤ ixOf (vars q.items) var := by omega
              have hf := hno (by rw [hoe]; simp [hng])
              simp [evs, aeval, binS, cx_ti, cx_G, cx_pf, cx_tw, ti, globS, glob, ldcs_1, ldcs_2, ldcs_3, ldcs_4, ldcs_5, ldcs_7, sls.eq_1, slc.eq_1, pfL, q1, q2, q6, ii, ss, hlt, hk', y0, y2, y4, hle, hw6, ncells, tb42, agree_up, hag, hbk, hj0, hj1, bv, hvn', G96, pureH, deQS, gq, hp1, hneg, hf]
            · have hng : 0 ≤ ixOf (vars q.items) var := by omega
              have hs1 : okTo (vars q.items) t (j + 1) = true := by rw [hsu, hok, hoe]; simp [hng]
              simp [evs, aeval, binS, cx_ti, cx_G, cx_pf, cx_tw, ti, globS, glob, ldcs_1, ldcs_2, ldcs_3, ldcs_4, ldcs_5, ldcs_7, sls.eq_1, slc.eq_1, pfL, q1, q2, q6, ii, ss, hlt, hk', y0, y2, y4, hle, hw6, ncells, tb42, agree_up, hag, hbk, hj0, hj1, bv, hvn', G96, pureH, deQS, gq, hp1, hneg, m13, m25, hw]
              exact ⟨⟨j + 1, by omega, hs1, by omega⟩, by omega⟩
          · have hm : mentO op = false := by simp [mentO, h4]
            rw [hm] at hoe
            have hvn : (var == ByteArray.empty) = true := by unfold fieldsB at hfl; simp only [h4, false_and, if_false, Bool.and_eq_true] at hfl; exact hfl.1.2
            have hvn' : (var != ByteArray.mk #[]) = false := by show (!(var == ByteArray.empty)) = false; rw [hvn]; rfl
            have hs1 : okTo (vars q.items) t (j + 1) = true := by rw [hsu, hok, hoe]; rfl
            simp [evs, aeval, binS, cx_ti, cx_G, cx_pf, cx_tw, ti, globS, glob, ldcs_1, ldcs_2, ldcs_3, ldcs_4, ldcs_5, ldcs_7, sls.eq_1, slc.eq_1, pfL, q1, q2, q6, ii, ss, hlt, hk', y0, y2, y4, hle, hw6, ncells, tb42, agree_up, hag, hbk, hj0, hj1, bv, hvn', m13, m25, hw]
            exact ⟨⟨j + 1, by omega, hs1, by omega⟩, by omega⟩
        · have h12 : 12 ≤ op := by omega
          have har : 1 ≤ arity op := by unfold arity at k1 ⊢; grind
          have hm : mentO op = false := by simp [mentO]; omega
          have h411 : ¬ (4 ≤ op ∧ op ≤ 11) := by omega
          rw [hm] at hoe
          have hvn : (var == ByteArray.empty) = true := by unfold fieldsB at hfl; simp only [h411, if_false, Bool.and_eq_true] at hfl; exact hfl.1.2
          have hvn' : (var != ByteArray.mk #[]) = false := by show (!(var == ByteArray.empty)) = false; rw [hvn]; rfl
          obtain ⟨c, rfl⟩ : ∃ c : Nat, xa = c := ⟨xa.toNat, by have := (k2 har).1; omega⟩
          have hcl2 : c < t.length := by have := (k2 har).2; omega
          have hcj : ¬ (j : Int) ≤ c := by have := (k2 har).2; omega
          have hcj' : ¬ j ≤ c := by omega
          obtain ⟨hcA, hwA⟩ := hA c hcl2
          have hrA := hAr c hcl2
          generalize hoa : (t.getD c nd0).op = oa at *
          have hoa' := hoa
          rw [List.getD_eq_getElem?_getD] at hoa'
          have htw := truth72 hrA
          have fin : kindB t ⟨op, num, var, attr, (c : Int), xb⟩ = true → okTo (vars q.items) t (j + 1) = true := fun hk => by rw [hsu, hok, hoe, hk]; rfl
          by_cases h14 : op < 14
          · have hb : xb = -1 := k4 (by unfold arity; grind)
            subst hb
            have hj0 : ¬ (j : Int) ≤ -1 := by omega
            rcases (show op = 12 ∨ op = 13 by omega) with rfl | rfl
            · cases hta : truthO oa
              · have hs1 := fin (by simp [kindB, wantsT, hoa', hta])
                simp [evs, aeval, binS, cx_ti, cx_G, cx_pf, cx_tw, ti, globS, glob, ldcs_1, ldcs_2, ldcs_3, ldcs_4, ldcs_5, ldcs_7, sls.eq_1, slc.eq_1, pfL, q1, q2, q6, ii, ss, hlt, hk', y0, y2, y4, hle, hw6, ncells, tb42, agree_up, hag, hbk, hj1, bv, hvn', hcj, hcj', hcl2, hcA, hwA, g72, pure1, deI, htw, hta, hj0, hw]
                exact ⟨⟨j + 1, by omega, hs1, by omega⟩, by omega⟩
              · have hkb : kindB t ⟨12, num, var, attr, (c : Int), -1⟩ = false := by simp [kindB, wantsT, hoa', hta]
                have hf := hno (by rw [hoe, hkb]; rfl)
                simp [evs, aeval, binS, cx_ti, cx_G, cx_pf, cx_tw, ti, globS, glob, ldcs_1, ldcs_2, ldcs_3, ldcs_4, ldcs_5, ldcs_7, sls.eq_1, slc.eq_1, pfL, q1, q2, q6, ii, ss, hlt, hk', y0, y2, y4, hle, hw6, ncells, tb42, agree_up, hag, hbk, hj1, bv, hvn', hcj, hcj', hcl2, hcA, hwA, g72, pure1, deI, htw, hta, hj0, hf]
            · cases hta : truthO oa
              · have hkb : kindB t ⟨13, num, var, attr, (c : Int), -1⟩ = false := by simp [kindB, wantsT, hoa', hta]
                have hf := hno (by rw [hoe, hkb]; rfl)
                simp [evs, aeval, binS, cx_ti, cx_G, cx_pf, cx_tw, ti, globS, glob, ldcs_1, ldcs_2, ldcs_3, ldcs_4, ldcs_5, ldcs_7, sls.eq_1, slc.eq_1, pfL, q1, q2, q6, ii, ss, hlt, hk', y0, y2, y4, hle, hw6, ncells, tb42, agree_up, hag, hbk, hj1, bv, hvn', hcj, hcj', hcl2, hcA, hwA, g72, pure1, deI, htw, hta, hj0, hf]
              · have hs1 := fin (by simp [kindB, wantsT, hoa', hta])
                simp [evs, aeval, binS, cx_ti, cx_G, cx_pf, cx_tw, ti, globS, glob, ldcs_1, ldcs_2, ldcs_3, ldcs_4, ldcs_5, ldcs_7, sls.eq_1, slc.eq_1, pfL, q1, q2, q6, ii, ss, hlt, hk', y0, y2, y4, hle, hw6, ncells, tb42, agree_up, hag, hbk, hj1, bv, hvn', hcj, hcj', hcl2, hcA, hwA, g72, pure1, deI, htw, hta, hj0, hw]
                exact ⟨⟨j + 1, by omega, hs1, by omega⟩, by omega⟩
          have har2 : arity op = 2 := by unfold arity at k1 ⊢; grind
          obtain ⟨d, rfl⟩ : ∃ d : Nat, xb = d := ⟨xb.toNat, by have := (k3 har2).1; omega⟩
          have hdl : d < t.length := by have := (k3 har2).2; omega
          have hdj : ¬ (j : Int) ≤ d := by have := (k3 har2).2; omega
          have hdj' : ¬ j ≤ d := by omega
          obtain ⟨hdA, hwD⟩ := hA d hdl
          have hrD := hAr d hdl
          generalize hob : (t.getD d nd0).op = ob at *
          have hob' := hob
          rw [List.getD_eq_getElem?_getD] at hob'
          have htd := truth72 hrD
          have n8 : ¬ (d : Int) < 0 := by omega
          by_cases h24 : op ≤ 24
          · have q13 : ¬ op = 13 := by omega
            have q25 : ¬ 25 ≤ op := by omega
            have q26 : ¬ op = 26 := by omega
            have q12 : ¬ op < 12 := by omega
            have q25' : ¬ op = 25 := by omega
            cases hta : truthO oa
            · cases htb : truthO ob
              · have hs1 := fin (by simp [kindB, wantsT, hoa', hob', hta, htb, n8, q13, q25, q26, q12, q25'])
                simp [evs, aeval, binS, cx_ti, cx_G, cx_pf, cx_tw, ti, globS, glob, ldcs_1, ldcs_2, ldcs_3, ldcs_4, ldcs_5, ldcs_7, sls.eq_1, slc.eq_1, pfL, q1, q2, q6, ii, ss, hlt, hk', y0, y2, y4, hle, hw6, ncells, tb42, agree_up, hag, hbk, hj1, bv, hvn', hcj, hcj', hcl2, hcA, hwA, g72, pure1, deI, htw, hta, htb, htd, hdl, hdA, hwD, hdj, hdj', q13, q25, hw]
                exact ⟨⟨j + 1, by omega, hs1, by omega⟩, by omega⟩
              · have hkb : kindB t ⟨op, num, var, attr, (c : Int), (d : Int)⟩ = false := by simp [kindB, wantsT, hoa', hob', hta, htb, n8, q13, q25, q26, q12, q25']
                have hf := hno (by rw [hoe, hkb]; rfl)
                simp [evs, aeval, binS, cx_ti, cx_G, cx_pf, cx_tw, ti, globS, glob, ldcs_1, ldcs_2, ldcs_3, ldcs_4, ldcs_5, ldcs_7, sls.eq_1, slc.eq_1, pfL, q1, q2, q6, ii, ss, hlt, hk', y0, y2, y4, hle, hw6, ncells, tb42, agree_up, hag, hbk, hj1, bv, hvn', hcj, hcj', hcl2, hcA, hwA, g72, pure1, deI, htw, hta, htb, htd, hdl, hdA, hwD, hdj, hdj', q13, q25, hf]
            · cases htb : truthO ob
              · have hkb : kindB t ⟨op, num, var, attr, (c : Int), (d : Int)⟩ = false := by simp [kindB, wantsT, hoa', hob', hta, htb, n8, q13, q25, q26, q12, q25']
                have hf := hno (by rw [hoe, hkb]; rfl)
                simp [evs, aeval, binS, cx_ti, cx_G, cx_pf, cx_tw, ti, globS, glob, ldcs_1, ldcs_2, ldcs_3, ldcs_4, ldcs_5, ldcs_7, sls.eq_1, slc.eq_1, pfL, q1, q2, q6, ii, ss, hlt, hk', y0, y2, y4, hle, hw6, ncells, tb42, agree_up, hag, hbk, hj1, bv, hvn', hcj, hcj', hcl2, hcA, hwA, g72, pure1, deI, htw, hta, htb, htd, hdl, hdA, hwD, hdj, hdj', q13, q25, hf]
              · have hkb : kindB t ⟨op, num, var, attr, (c : Int), (d : Int)⟩ = false := by simp [kindB, wantsT, hoa', hob', hta, htb, n8, q13, q25, q26, q12, q25']
                have hf := hno (by rw [hoe, hkb]; rfl)
                simp [evs, aeval, binS, cx_ti, cx_G, cx_pf, cx_tw, ti, globS, glob, ldcs_1, ldcs_2, ldcs_3, ldcs_4, ldcs_5, ldcs_7, sls.eq_1, slc.eq_1, pfL, q1, q2, q6, ii, ss, hlt, hk', y0, y2, y4, hle, hw6, ncells, tb42, agree_up, hag, hbk, hj1, bv, hvn', hcj, hcj', hcl2, hcA, hwA, g72, pure1, deI, htw, hta, htb, htd, hdl, hdA, hwD, hdj, hdj', q13, q25, hf]
          · rcases (show op = 25 ∨ op = 26 by unfold arity at har2; grind) with rfl | rfl
            · skip
              cases hta : truthO oa
              · cases htb : truthO ob
                · have hkb : kindB t ⟨25, num, var, attr, (c : Int), (d : Int)⟩ = false := by simp [kindB, wantsT, hoa', hob', hta, htb, n8]
                  have hf := hno (by rw [hoe, hkb]; rfl)
                  simp [evs, aeval, binS, cx_ti, cx_G, cx_pf, cx_tw, ti, globS, glob, ldcs_1, ldcs_2, ldcs_3, ldcs_4, ldcs_5, ldcs_7, sls.eq_1, slc.eq_1, pfL, q1, q2, q6, ii, ss, hlt, hk', y0, y2, y4, hle, hw6, ncells, tb42, agree_up, hag, hbk, hj1, bv, hvn', hcj, hcj', hcl2, hcA, hwA, g72, pure1, deI, htw, hta, htb, htd, hdl, hdA, hwD, hdj, hdj', hf]
                · have hkb : kindB t ⟨25, num, var, attr, (c : Int), (d : Int)⟩ = false := by simp [kindB, wantsT, hoa', hob', hta, htb, n8]
                  have hf := hno (by rw [hoe, hkb]; rfl)
                  simp [evs, aeval, binS, cx_ti, cx_G, cx_pf, cx_tw, ti, globS, glob, ldcs_1, ldcs_2, ldcs_3, ldcs_4, ldcs_5, ldcs_7, sls.eq_1, slc.eq_1, pfL, q1, q2, q6, ii, ss, hlt, hk', y0, y2, y4, hle, hw6, ncells, tb42, agree_up, hag, hbk, hj1, bv, hvn', hcj, hcj', hcl2, hcA, hwA, g72, pure1, deI, htw, hta, htb, htd, hdl, hdA, hwD, hdj, hdj', hf]
              · cases htb : truthO ob
                · have hkb : kindB t ⟨25, num, var, attr, (c : Int), (d : Int)⟩ = false := by simp [kindB, wantsT, hoa', hob', hta, htb, n8]
                  have hf := hno (by rw [hoe, hkb]; rfl)
                  simp [evs, aeval, binS, cx_ti, cx_G, cx_pf, cx_tw, ti, globS, glob, ldcs_1, ldcs_2, ldcs_3, ldcs_4, ldcs_5, ldcs_7, sls.eq_1, slc.eq_1, pfL, q1, q2, q6, ii, ss, hlt, hk', y0, y2, y4, hle, hw6, ncells, tb42, agree_up, hag, hbk, hj1, bv, hvn', hcj, hcj', hcl2, hcA, hwA, g72, pure1, deI, htw, hta, htb, htd, hdl, hdA, hwD, hdj, hdj', hf]
                · have hs1 := fin (by simp [kindB, wantsT, hoa', hob', hta, htb, n8])
                  simp [evs, aeval, binS, cx_ti, cx_G, cx_pf, cx_tw, ti, globS, glob, ldcs_1, ldcs_2, ldcs_3, ldcs_4, ldcs_5, ldcs_7, sls.eq_1, slc.eq_1, pfL, q1, q2, q6, ii, ss, hlt, hk', y0, y2, y4, hle, hw6, ncells, tb42, agree_up, hag, hbk, hj1, bv, hvn', hcj, hcj', hcl2, hcA, hwA, g72, pure1, deI, htw, hta, htb, htd, hdl, hdA, hwD, hdj, hdj', hw]
                  exact ⟨⟨j + 1, by omega, hs1, by omega⟩, by omega⟩
            · skip
              cases hta : truthO oa
              · cases htb : truthO ob
                · have hkb : kindB t ⟨26, num, var, attr, (c : Int), (d : Int)⟩ = false := by simp [kindB, wantsT, hoa', hob', hta, htb, n8]
                  have hf := hno (by rw [hoe, hkb]; rfl)
                  simp [evs, aeval, binS, cx_ti, cx_G, cx_pf, cx_tw, ti, globS, glob, ldcs_1, ldcs_2, ldcs_3, ldcs_4, ldcs_5, ldcs_7, sls.eq_1, slc.eq_1, pfL, q1, q2, q6, ii, ss, hlt, hk', y0, y2, y4, hle, hw6, ncells, tb42, agree_up, hag, hbk, hj1, bv, hvn', hcj, hcj', hcl2, hcA, hwA, g72, pure1, deI, htw, hta, htb, htd, hdl, hdA, hwD, hdj, hdj', hf]
                · have hkb : kindB t ⟨26, num, var, attr, (c : Int), (d : Int)⟩ = false := by simp [kindB, wantsT, hoa', hob', hta, htb, n8]
                  have hf := hno (by rw [hoe, hkb]; rfl)
                  simp [evs, aeval, binS, cx_ti, cx_G, cx_pf, cx_tw, ti, globS, glob, ldcs_1, ldcs_2, ldcs_3, ldcs_4, ldcs_5, ldcs_7, sls.eq_1, slc.eq_1, pfL, q1, q2, q6, ii, ss, hlt, hk', y0, y2, y4, hle, hw6, ncells, tb42, agree_up, hag, hbk, hj1, bv, hvn', hcj, hcj', hcl2, hcA, hwA, g72, pure1, deI, htw, hta, htb, htd, hdl, hdA, hwD, hdj, hdj', hf]
              · cases htb : truthO ob
                · have hkb : kindB t ⟨26, num, var, attr, (c : Int), (d : Int)⟩ = false := by simp [kindB, wantsT, hoa', hob', hta, htb, n8]
                  have hf := hno (by rw [hoe, hkb]; rfl)
                  simp [evs, aeval, binS, cx_ti, cx_G, cx_pf, cx_tw, ti, globS, glob, ldcs_1, ldcs_2, ldcs_3, ldcs_4, ldcs_5, ldcs_7, sls.eq_1, slc.eq_1, pfL, q1, q2, q6, ii, ss, hlt, hk', y0, y2, y4, hle, hw6, ncells, tb42, agree_up, hag, hbk, hj1, bv, hvn', hcj, hcj', hcl2, hcA, hwA, g72, pure1, deI, htw, hta, htb, htd, hdl, hdA, hwD, hdj, hdj', hf]
                · have hs1 := fin (by simp [kindB, wantsT, hoa', hob', hta, htb, n8])
                  simp [evs, aeval, binS, cx_ti, cx_G, cx_pf, cx_tw, ti, globS, glob, ldcs_1, ldcs_2, ldcs_3, ldcs_4, ldcs_5, ldcs_7, sls.eq_1, slc.eq_1, pfL, q1, q2, q6, ii, ss, hlt, hk', y0, y2, y4, hle, hw6, ncells, tb42, agree_up, hag, hbk, hj1, bv, hvn', hcj, hcj', hcl2, hcA, hwA, g72, pure1, deI, htw, hta, htb, htd, hdl, hdA, hwD, hdj, hdj', hw]
                  exact ⟨⟨j + 1, by omega, hs1, by omega⟩, by omega⟩
      · obtain rfl : j = t.length := by omega
        simp [evs, aeval, binS, cx_ti, cx_G, cx_pf, cx_tw, ti, globS, glob, ldcs_1, ldcs_2, ldcs_3, ldcs_4, ldcs_5, ldcs_7, sls.eq_1, slc.eq_1, pfL, q1, q2, q6, ii, s1, s2, s3, hrt, hok, bv, hpos]
  exact key _ rfl rfl
end Go.Proofs.YtkfphaphiikloaaDoor
