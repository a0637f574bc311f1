/-
  TREES, PART B: lists of nodes; how deep a tree is.
-/
import Derived.Test.YtkfphaphiikloaaDoorX17
import Derived.Test.YtkfphaphiikloaaDoorX16
set_option linter.unusedSimpArgs false
set_option linter.unusedVariables false
set_option linter.constructorNameAsVariable false
namespace Go.Proofs.YtkfphaphiikloaaDoor
open Go Go.Eng

def dN : De Nd where
  run _ l := deNc l
  sim _ e := e
def dNs : De (List Nd) := De.sl 6 dN
theorem ns_at {h : Heap} {a : AV} {l : List Nd} (e : rd dNs h a = some l) : (l = [] ∧ (a = .v (.slice none 0 0) ∨ a = .e)) ∨
    ∃ id off k, a = .s id k.ver off l.length ∧ h id = some k ∧ off + l.length * 6 ≤ k.cells.length ∧ ∀ i (hi : i < l.length), (k.cells.drop (off + i * 6)).take 6 = ncells l[i] := by
  rcases sl_at e with h0 | ⟨id, off, k, h1, h2, h3, h4⟩
  · exact .inl h0
  · exact .inr ⟨id, off, k, h1, h2, h3, fun i hi => deNc_out (h4 i hi)⟩
theorem ldcs_nd {X : Ctx} {h : Heap} {id ver o : Nat} {k : Blk} {x : Nd} (hk : h id = some k) (he : (k.cells.drop o).take 6 = ncells x) : ldcs X h (.p id ver o) 0 6 = ncells x := by
  have hc : ∀ c y, (ncells x)[c]? = some y → c < 6 → ldc X h (.p id ver o) c = y := fun c y hy hc => by
    simp only [ldc, hk, List.getD_eq_getElem?_getD, cell_of he hy hc, Option.getD_some]
  simp only [ldcs, ncells]
  rw [hc 0 _ rfl (by omega), hc 1 _ rfl (by omega), hc 2 _ rfl (by omega), hc 3 _ rfl (by omega), hc 4 _ rfl (by omega), hc 5 _ rfl (by omega)]
def nd0 : Nd := ⟨0, 0, ByteArray.empty, ByteArray.empty, 0, 0⟩
def depA (d : List Int) (a : Int) (i : Nat) : Int := if 0 ≤ a ∧ a < i then d.getD a.toNat 0 else 0
def depN (d : List Int) (x : Nd) (i : Nat) : Int := if (0 ≤ x.b ∧ x.b < i) ∧ depA d x.a i < d.getD x.b.toNat 0 then d.getD x.b.toNat 0 else depA d x.a i
def deps (t : List Nd) : Nat → List Int
  | 0 => []
  | j + 1 => deps t j ++ [depN (deps t j) (t.getD j nd0) j + 1]
def deepTo (t : List Nd) (j : Nat) : Bool := (List.range j).any fun i => decide (65536 ≤ depN (deps t i) (t.getD i nd0) i)
def deepB (t : List Nd) : Bool := deepTo t t.length
theorem deps_len (t : List Nd) : ∀ j, (deps t j).length = j
  | 0 => rfl
  | j + 1 => by simp [deps, deps_len t j]
theorem deepTo_succ (t : List Nd) (j : Nat) : deepTo t (j + 1) = (deepTo t j || decide (65536 ≤ depN (deps t j) (t.getD j nd0) j)) := by
  simp [deepTo, List.range_succ]
theorem deep_hit {t : List Nd} {j : Nat} (hj : j < t.length) (h : 65536 ≤ depN (deps t j) (t.getD j nd0) j) : deepB t = true := by
  simp only [deepB, deepTo, List.any_eq_true, List.mem_range]
  exact ⟨j, hj, decide_eq_true h⟩
theorem deps_bound {t : List Nd} : ∀ {j : Nat}, deepTo t j = false → ∀ x ∈ deps t j, 0 ≤ x ∧ x ≤ 65536
  | 0, _, x, hx => by simp [deps] at hx
  | j + 1, h, x, hx => by
    rw [deepTo_succ, Bool.or_eq_false_iff] at h
    have ih := deps_bound h.1
    simp only [deps, List.mem_append, List.mem_singleton] at hx
    rcases hx with hx | rfl
    · exact ih x hx
    · have h2 := of_decide_eq_false h.2
      have key : ∀ i : Nat, 0 ≤ (deps t j).getD i 0 := fun i => by
        rw [List.getD_eq_getElem?_getD]
        cases e : (deps t j)[i]? with
        | none => simp
        | some y => exact (ih y (List.mem_of_getElem? e)).1
      have : 0 ≤ depN (deps t j) (t.getD j nd0) j := by
        unfold depN depA
        repeat' split
        all_goals first | exact key _ | exact Int.le_refl _
      omega
def deT (h : Heap) : List AV → Option (List Nd)
  | [a] => rd dNs h a
  | _ => none
theorem deT_out {h : Heap} {args : List AV} {q : List Nd} (e : deT h args = some q) : ∃ a, args = [a] ∧ rd dNs h a = some q := by
  unfold deT at e
  split at e
  · exact ⟨_, rfl, e⟩
  · cases e
theorem deT_mono (h h' : Heap) (args : List AV) (q : List Nd) (hh : h.le h') (e : deT h args = some q) : deT h' args = some q := by
  obtain ⟨a, rfl, e1⟩ := deT_out e
  simp only [deT, rd_mono hh e1]
def smallT (t : List Nd) : Prop := t.length * 64 ≤ 140737488355328
def G15 := pureH deT smallT fun t => bv (deepB t)
set_option maxRecDepth 100000 in
set_option maxHeartbeats 4000000 in
theorem P15 : P0 [] 15 G15 := by
  refine mkH 1 (S := []) (l := []) tb_nil Tryd.func15 rfl (by kernel_rfl) deT_mono (fun h l x e => by obtain ⟨a, rfl, _⟩ := deT_out e; exact Nat.le_refl _) (fun a => rfl) (fun args t h n e hp hn => ?_)
  obtain ⟨a, rfl, e1⟩ := deT_out e
  obtain ⟨s1, s2, s3, s4, s5⟩ := sl_is e1
  have hp' : t.length * 64 ≤ 140737488355328 := hp
  have key : ∀ e : Nat → AV, e 0 = a → awp (cx [] (pfL [])) (Tryd.f15.body.getD .skip) (finQ (cx [] (pfL [])) Tryd.f15 fun z _ _ => z = bv (deepB t)) ⟨e, roH h, n⟩ := fun e q0 => by
    simp [evs, aeval, binS, cx_ti, cx_G, cx_pf, cx_tw, ti, globS, glob, ldcs_1, ldcs_2, ldcs_3, ldcs_4, ldcs_5, ldcs_7, sls.eq_1, slc.eq_1, pfL, Tryd.f15, q0]
    refine awp_loop (fun s => ∃ j, j ≤ t.length ∧ s.e 0 = a ∧ Own s.h n s.n (s.e 3) j ((deps t j).map ii) 1 ∧ s.e 4 = ii j ∧ agree n (roH h) s.h ∧ n ≤ s.n ∧ deepTo t j = false) (fun s => t.length - (s.e 4).i.toNat) ⟨0, by simp [up, q0, ii, agree_up, agree_refl, deps, deepTo, Own]⟩ ?_
    rintro e' h' n' ⟨j, hj, q0, hown, q4, hag, hnn, hdp⟩
    simp only [] at q0 hown q4 hag hnn
    by_cases hlt : j < t.length
    · rcases ns_at e1 with ⟨h0, _⟩ | ⟨id, off, k, rfl, hk, ho, hat⟩
      · rw [h0] at hlt; simp at hlt
      have hr := hat j hlt
      have ha' := agree_at hn hk hag
      have c4 := cell_of (c := 4) hr rfl (by omega)
      have c5 := cell_of (c := 5) hr rfl (by omega)
      rw [Nat.add_assoc] at c4 c5
      have w4 : off + (j * 6 + 5) ≤ k.cells.length := by omega
      have w5 : off + (j * 6 + 6) ≤ k.cells.length := by omega
      have hw := wrap_nat (j := j) (by unfold big; omega)
      have hg : t.getD j nd0 = t[j] := by rw [List.getD_eq_getElem?_getD, List.getElem?_eq_getElem hlt]; rfl
      have hdl := deps_len t j
      have hds : deps t (j + 1) = deps t j ++ [depN (deps t j) t[j] j + 1] := by rw [deps, hg]
      have hbd := deps_bound hdp
      have hsu := deepTo_succ t j
      rw [hdp, Bool.false_or, hg] at hsu
      have hhit := fun h => deep_hit (t := t) hlt (by rw [hg]; exact h)
      generalize t[j] = x at *
      generalize deps t j = d at *
      have hid : id < n := lt_of hk hn
      have hb3 : (j + 1) * 8 ≤ 140737488355328 := by omega
      have hb4 : j + 1 ≤ 9223372036854775807 := by omega
      obtain ⟨op, num, var, attr, xa, xb⟩ := x
      simp only [] at c4 c5
      have hget : ∀ p : Nat, p < j → d[p]? = some (d.getD p 0) := fun p hp => by
        rw [List.getD_eq_getElem?_getD, List.getElem?_eq_getElem (by omega)]; rfl
      have hbd2 : ∀ p : Nat, p < j → 0 ≤ d.getD p 0 ∧ d.getD p 0 ≤ 65536 := fun p hp => hbd _ (List.mem_of_getElem? (hget p hp))
      have hwm : ∀ m : Int, 0 ≤ m → m ≤ 65536 → IntKind.i64.wrap (m + 1) = m + 1 := fun m h0 h1 => by
        obtain ⟨k, rfl⟩ : ∃ k : Nat, m = k := ⟨m.toNat, by omega⟩
        rw [wrap_nat (by unfold big; omega)]; omega
      -- what the two operands come to
      obtain ⟨mA, hmA, hmA1, hmA2⟩ : ∃ mA : Int, depA d xa j = mA ∧ 0 ≤ mA ∧ mA ≤ 65536 := by
        refine ⟨_, rfl, ?_⟩
        unfold depA
        split
        · rename_i hA; exact hbd2 _ (by omega)
        · omega
      have hcl : (d.map ii).length = j := by rw [List.length_map, hdl]
      have hcx : ∀ (p : Nat) (hx : p < (d.map ii).length), (d.map ii)[p] = AV.v (.int .i64 (d.getD p 0)) := fun p hx => by
        have hp : p < d.length := by simpa using hx
        rw [List.getElem_map, List.getD_eq_getElem?_getD, List.getElem?_eq_getElem hp]; rfl
      generalize hcs : d.map ii = cs at *
      by_cases hA : 0 ≤ xa ∧ xa < j
      · obtain ⟨p, rfl⟩ : ∃ p : Nat, xa = p := ⟨xa.toNat, by omega⟩
        have hpj : p < j := by omega
        have gp := hcx p
        have hpj' : p + 1 ≤ j := hpj
        have hA' : d.getD p 0 = mA := by rw [← hmA, depA, if_pos hA]; simp
        rw [hA'] at gp
        have hA1 : True := trivial
        rcases hown with ⟨hj0, _⟩ | ⟨w, u, q3, hk3, hw1, hw2⟩
        · omega
        have y4 : n ≤ w := by omega
        have y5 : ¬ w = n' := by omega
        by_cases hB : 0 ≤ xb ∧ xb < j
        · obtain ⟨q, rfl⟩ : ∃ q : Nat, xb = q := ⟨xb.toNat, by omega⟩
          have hqj : q < j := by omega
          have gq := hcx q
          have hqj' : q + 1 ≤ j := hqj
          have hq2 := hbd2 q hqj
          generalize hB' : d.getD q 0 = mB at *
          by_cases hlt2 : mA < mB
          · have hN : depN d ⟨op, num, var, attr, p, q⟩ j = mB := by simp only [depN, hmA, Int.toNat_natCast, hB', if_pos (And.intro hB hlt2)]
            by_cases hdeep : 65536 ≤ mB
            · have hf := hhit (by rw [hN]; exact hdeep)
              simp [evs, aeval, binS, cx_ti, cx_G, cx_pf, cx_tw, ti, globS, glob, ldcs_1, ldcs_2, ldcs_3, ldcs_4, ldcs_5, ldcs_7, sls.eq_1, slc.eq_1, pfL, q0, q3, q4, ii, hlt, ha', c4, c5, w4, w5, hk3, hcl, hpj, hpj', gp, hA1, hqj, hqj', gq, hlt2, hdeep, hf, bv]
            · simp [evs, aeval, binS, cx_ti, cx_G, cx_pf, cx_tw, ti, globS, glob, ldcs_1, ldcs_2, ldcs_3, ldcs_4, ldcs_5, ldcs_7, sls.eq_1, slc.eq_1, pfL, q0, q3, q4, ii, hlt, ha', c4, c5, w4, w5, hk3, hcl, hpj, hpj', gp, hA1, hqj, hqj', gq, hlt2, hdeep, hwm mB hq2.1 hq2.2, hb3, hb4, hw, y5, agree_up, hag, hnn, y4]
              exact ⟨⟨j + 1, by omega, .inr ⟨w, u + 1, rfl, by rw [up_same, hds, hN, List.map_append, hcs]; rfl, by omega, by omega⟩, by omega, by omega, by rw [hsu, hN]; simp; omega⟩, by omega⟩
          · have hN : depN d ⟨op, num, var, attr, p, q⟩ j = mA := by simp only [depN, hmA, Int.toNat_natCast, hB', if_neg (fun hx : _ ∧ _ => hlt2 hx.2)]
            by_cases hdeep : 65536 ≤ mA
            · have hf := hhit (by rw [hN]; exact hdeep)
              simp [evs, aeval, binS, cx_ti, cx_G, cx_pf, cx_tw, ti, globS, glob, ldcs_1, ldcs_2, ldcs_3, ldcs_4, ldcs_5, ldcs_7, sls.eq_1, slc.eq_1, pfL, q0, q3, q4, ii, hlt, ha', c4, c5, w4, w5, hk3, hcl, hpj, hpj', gp, hA1, hqj, hqj', gq, hlt2, hdeep, hf, bv]
            · simp [evs, aeval, binS, cx_ti, cx_G, cx_pf, cx_tw, ti, globS, glob, ldcs_1, ldcs_2, ldcs_3, ldcs_4, ldcs_5, ldcs_7, sls.eq_1, slc.eq_1, pfL, q0, q3, q4, ii, hlt, ha', c4, c5, w4, w5, hk3, hcl, hpj, hpj', gp, hA1, hqj, hqj', gq, hlt2, hdeep, hwm mA hmA1 hmA2, hb3, hb4, hw, y5, agree_up, hag, hnn, y4]
              exact ⟨⟨j + 1, by omega, .inr ⟨w, u + 1, rfl, by rw [up_same, hds, hN, List.map_append, hcs]; rfl, by omega, by omega⟩, by omega, by omega, by rw [hsu, hN]; simp; omega⟩, by omega⟩
        · have hN : depN d ⟨op, num, var, attr, p, xb⟩ j = mA := by simp only [depN, hmA, if_neg (fun hx : _ ∧ _ => hB hx.1)]
          have hB1 : 0 ≤ xb → ¬ xb < j := fun h1 h2 => hB ⟨h1, h2⟩
          by_cases hB0 : 0 ≤ xb
          · have hB2 := hB1 hB0
            by_cases hdeep : 65536 ≤ mA
            · have hf := hhit (by rw [hN]; exact hdeep)
              simp [evs, aeval, binS, cx_ti, cx_G, cx_pf, cx_tw, ti, globS, glob, ldcs_1, ldcs_2, ldcs_3, ldcs_4, ldcs_5, ldcs_7, sls.eq_1, slc.eq_1, pfL, q0, q3, q4, ii, hlt, ha', c4, c5, w4, w5, hk3, hcl, hpj, hpj', gp, hA1, hB0, hB2, hdeep, hf, bv]
            · simp [evs, aeval, binS, cx_ti, cx_G, cx_pf, cx_tw, ti, globS, glob, ldcs_1, ldcs_2, ldcs_3, ldcs_4, ldcs_5, ldcs_7, sls.eq_1, slc.eq_1, pfL, q0, q3, q4, ii, hlt, ha', c4, c5, w4, w5, hk3, hcl, hpj, hpj', gp, hA1, hB0, hB2, hdeep, hwm mA hmA1 hmA2, hb3, hb4, hw, y5, agree_up, hag, hnn, y4]
              exact ⟨⟨j + 1, by omega, .inr ⟨w, u + 1, rfl, by rw [up_same, hds, hN, List.map_append, hcs]; rfl, by omega, by omega⟩, by omega, by omega, by rw [hsu, hN]; simp; omega⟩, by omega⟩
          · have hB2 := hB0
            by_cases hdeep : 65536 ≤ mA
            · have hf := hhit (by rw [hN]; exact hdeep)
              simp [evs, aeval, binS, cx_ti, cx_G, cx_pf, cx_tw, ti, globS, glob, ldcs_1, ldcs_2, ldcs_3, ldcs_4, ldcs_5, ldcs_7, sls.eq_1, slc.eq_1, pfL, q0, q3, q4, ii, hlt, ha', c4, c5, w4, w5, hk3, hcl, hpj, hpj', gp, hA1, hB0, hB2, hdeep, hf, bv]
            · simp [evs, aeval, binS, cx_ti, cx_G, cx_pf, cx_tw, ti, globS, glob, ldcs_1, ldcs_2, ldcs_3, ldcs_4, ldcs_5, ldcs_7, sls.eq_1, slc.eq_1, pfL, q0, q3, q4, ii, hlt, ha', c4, c5, w4, w5, hk3, hcl, hpj, hpj', gp, hA1, hB0, hB2, hdeep, hwm mA hmA1 hmA2, hb3, hb4, hw, y5, agree_up, hag, hnn, y4]
              exact ⟨⟨j + 1, by omega, .inr ⟨w, u + 1, rfl, by rw [up_same, hds, hN, List.map_append, hcs]; rfl, by omega, by omega⟩, by omega, by omega, by rw [hsu, hN]; simp; omega⟩, by omega⟩
      · have hA' : mA = 0 := by rw [← hmA, depA, if_neg hA]
        subst hA'
        have hw01 : IntKind.i64.wrap 1 = 1 := hwm 0 (by omega) (by omega)
        have hA0 : 0 ≤ xa → ¬ xa < j := fun h1 h2 => hA ⟨h1, h2⟩
        by_cases hA2 : 0 ≤ xa
        · have hA1 := hA0 hA2
          by_cases hB : 0 ≤ xb ∧ xb < j
          · obtain ⟨q, rfl⟩ : ∃ q : Nat, xb = q := ⟨xb.toNat, by omega⟩
            rcases hown with ⟨hj0, _⟩ | ⟨w, u, q3, hk3, hw1, hw2⟩
            · omega
            have y4 : n ≤ w := by omega
            have y5 : ¬ w = n' := by omega
            have hqj : q < j := by omega
            have gq := hcx q
            have hqj' : q + 1 ≤ j := hqj
            have hq2 := hbd2 q hqj
            generalize hB' : d.getD q 0 = mB at *
            by_cases hlt2 : 0 < mB
            · have hN : depN d ⟨op, num, var, attr, xa, q⟩ j = mB := by simp only [depN, hmA, Int.toNat_natCast, hB', if_pos (And.intro hB hlt2)]
              by_cases hdeep : 65536 ≤ mB
              · have hf := hhit (by rw [hN]; exact hdeep)
                simp [evs, aeval, binS, cx_ti, cx_G, cx_pf, cx_tw, ti, globS, glob, ldcs_1, ldcs_2, ldcs_3, ldcs_4, ldcs_5, ldcs_7, sls.eq_1, slc.eq_1, pfL, q0, q3, q4, ii, hlt, ha', c4, c5, w4, w5, hk3, hcl, hA1, hqj, hqj', gq, hlt2, hdeep, hf, bv]
              · simp [evs, aeval, binS, cx_ti, cx_G, cx_pf, cx_tw, ti, globS, glob, ldcs_1, ldcs_2, ldcs_3, ldcs_4, ldcs_5, ldcs_7, sls.eq_1, slc.eq_1, pfL, q0, q3, q4, ii, hlt, ha', c4, c5, w4, w5, hk3, hcl, hA1, hqj, hqj', gq, hlt2, hdeep, hwm mB hq2.1 hq2.2, hb3, hb4, hw, y5, agree_up, hag, hnn, y4]
                exact ⟨⟨j + 1, by omega, .inr ⟨w, u + 1, rfl, by rw [up_same, hds, hN, List.map_append, hcs]; rfl, by omega, by omega⟩, by omega, by omega, by rw [hsu, hN]; simp; omega⟩, by omega⟩
            · have hN : depN d ⟨op, num, var, attr, xa, q⟩ j = 0 := by simp only [depN, hmA, Int.toNat_natCast, hB', if_neg (fun hx : _ ∧ _ => hlt2 hx.2)]
              simp [evs, aeval, binS, cx_ti, cx_G, cx_pf, cx_tw, ti, globS, glob, ldcs_1, ldcs_2, ldcs_3, ldcs_4, ldcs_5, ldcs_7, sls.eq_1, slc.eq_1, pfL, q0, q3, q4, ii, hlt, ha', c4, c5, w4, w5, hk3, hcl, hA1, hqj, hqj', gq, hlt2, hw01, hb3, hb4, hw, y5, agree_up, hag, hnn, y4]
              exact ⟨⟨j + 1, by omega, .inr ⟨w, u + 1, rfl, by rw [up_same, hds, hN, List.map_append, hcs]; rfl, by omega, by omega⟩, by omega, by omega, by rw [hsu, hN]; rfl⟩, by omega⟩
          · have hN : depN d ⟨op, num, var, attr, xa, xb⟩ j = 0 := by simp only [depN, hmA, if_neg (fun hx : _ ∧ _ => hB hx.1)]
            have hB1 : 0 ≤ xb → ¬ xb < j := fun h1 h2 => hB ⟨h1, h2⟩
            by_cases hB0 : 0 ≤ xb
            · have hB2 := hB1 hB0
              rcases hown with ⟨hj0, hnil, q3⟩ | ⟨w, u, q3, hk3, hw1, hw2⟩
              · have nn1 : n ≤ n' + 1 := by omega
                have hb3 : j * 8 + 8 ≤ 140737488355328 := by omega
                simp [evs, aeval, binS, cx_ti, cx_G, cx_pf, cx_tw, ti, globS, glob, ldcs_1, ldcs_2, ldcs_3, ldcs_4, ldcs_5, ldcs_7, sls.eq_1, slc.eq_1, pfL, q0, q3, q4, ii, hlt, ha', c4, c5, w4, w5, hA1, hB0, hB2, hw01, hw, agree_up, hag, hnn, nn1]
                exact ⟨⟨j + 1, by omega, .inr ⟨n' + 1, 0, by rw [hj0], by rw [up_same, hds, hN, List.map_append, hcs, hnil]; rfl, by omega, by omega⟩, by omega, by omega, by rw [hsu, hN]; rfl⟩, by omega⟩
              · have y4 : n ≤ w := by omega
                have y5 : ¬ w = n' := by omega
                simp [evs, aeval, binS, cx_ti, cx_G, cx_pf, cx_tw, ti, globS, glob, ldcs_1, ldcs_2, ldcs_3, ldcs_4, ldcs_5, ldcs_7, sls.eq_1, slc.eq_1, pfL, q0, q3, q4, ii, hlt, ha', c4, c5, w4, w5, hk3, hcl, hA1, hB0, hB2, hw01, hb3, hb4, hw, y5, agree_up, hag, hnn, y4]
                exact ⟨⟨j + 1, by omega, .inr ⟨w, u + 1, rfl, by rw [up_same, hds, hN, List.map_append, hcs]; rfl, by omega, by omega⟩, by omega, by omega, by rw [hsu, hN]; rfl⟩, by omega⟩
            · have hB2 := hB0
              rcases hown with ⟨hj0, hnil, q3⟩ | ⟨w, u, q3, hk3, hw1, hw2⟩
              · have nn1 : n ≤ n' + 1 := by omega
                have hb3 : j * 8 + 8 ≤ 140737488355328 := by omega
                simp [evs, aeval, binS, cx_ti, cx_G, cx_pf, cx_tw, ti, globS, glob, ldcs_1, ldcs_2, ldcs_3, ldcs_4, ldcs_5, ldcs_7, sls.eq_1, slc.eq_1, pfL, q0, q3, q4, ii, hlt, ha', c4, c5, w4, w5, hA1, hB0, hB2, hw01, hw, agree_up, hag, hnn, nn1]
                exact ⟨⟨j + 1, by omega, .inr ⟨n' + 1, 0, by rw [hj0], by rw [up_same, hds, hN, List.map_append, hcs, hnil]; rfl, by omega, by omega⟩, by omega, by omega, by rw [hsu, hN]; rfl⟩, by omega⟩
              · have y4 : n ≤ w := by omega
                have y5 : ¬ w = n' := by omega
                simp [evs, aeval, binS, cx_ti, cx_G, cx_pf, cx_tw, ti, globS, glob, ldcs_1, ldcs_2, ldcs_3, ldcs_4, ldcs_5, ldcs_7, sls.eq_1, slc.eq_1, pfL, q0, q3, q4, ii, hlt, ha', c4, c5, w4, w5, hk3, hcl, hA1, hB0, hB2, hw01, hb3, hb4, hw, y5, agree_up, hag, hnn, y4]
                exact ⟨⟨j + 1, by omega, .inr ⟨w, u + 1, rfl, by rw [up_same, hds, hN, List.map_append, hcs]; rfl, by omega, by omega⟩, by omega, by omega, by rw [hsu, hN]; rfl⟩, by omega⟩
        · have hA1 := hA2
          by_cases hB : 0 ≤ xb ∧ xb < j
          · obtain ⟨q, rfl⟩ : ∃ q : Nat, xb = q := ⟨xb.toNat, by omega⟩
            rcases hown with ⟨hj0, _⟩ | ⟨w, u, q3, hk3, hw1, hw2⟩
            · omega
            have y4 : n ≤ w := by omega
            have y5 : ¬ w = n' := by omega
            have hqj : q < j := by omega
            have gq := hcx q
            have hqj' : q + 1 ≤ j := hqj
            have hq2 := hbd2 q hqj
            generalize hB' : d.getD q 0 = mB at *
            by_cases hlt2 : 0 < mB
            · have hN : depN d ⟨op, num, var, attr, xa, q⟩ j = mB := by simp only [depN, hmA, Int.toNat_natCast, hB', if_pos (And.intro hB hlt2)]
              by_cases hdeep : 65536 ≤ mB
              · have hf := hhit (by rw [hN]; exact hdeep)
                simp [evs, aeval, binS, cx_ti, cx_G, cx_pf, cx_tw, ti, globS, glob, ldcs_1, ldcs_2, ldcs_3, ldcs_4, ldcs_5, ldcs_7, sls.eq_1, slc.eq_1, pfL, q0, q3, q4, ii, hlt, ha', c4, c5, w4, w5, hk3, hcl, hA1, hqj, hqj', gq, hlt2, hdeep, hf, bv]
              · simp [evs, aeval, binS, cx_ti, cx_G, cx_pf, cx_tw, ti, globS, glob, ldcs_1, ldcs_2, ldcs_3, ldcs_4, ldcs_5, ldcs_7, sls.eq_1, slc.eq_1, pfL, q0, q3, q4, ii, hlt, ha', c4, c5, w4, w5, hk3, hcl, hA1, hqj, hqj', gq, hlt2, hdeep, hwm mB hq2.1 hq2.2, hb3, hb4, hw, y5, agree_up, hag, hnn, y4]
                exact ⟨⟨j + 1, by omega, .inr ⟨w, u + 1, rfl, by rw [up_same, hds, hN, List.map_append, hcs]; rfl, by omega, by omega⟩, by omega, by omega, by rw [hsu, hN]; simp; omega⟩, by omega⟩
            · have hN : depN d ⟨op, num, var, attr, xa, q⟩ j = 0 := by simp only [depN, hmA, Int.toNat_natCast, hB', if_neg (fun hx : _ ∧ _ => hlt2 hx.2)]
              simp [evs, aeval, binS, cx_ti, cx_G, cx_pf, cx_tw, ti, globS, glob, ldcs_1, ldcs_2, ldcs_3, ldcs_4, ldcs_5, ldcs_7, sls.eq_1, slc.eq_1, pfL, q0, q3, q4, ii, hlt, ha', c4, c5, w4, w5, hk3, hcl, hA1, hqj, hqj', gq, hlt2, hw01, hb3, hb4, hw, y5, agree_up, hag, hnn, y4]
              exact ⟨⟨j + 1, by omega, .inr ⟨w, u + 1, rfl, by rw [up_same, hds, hN, List.map_append, hcs]; rfl, by omega, by omega⟩, by omega, by omega, by rw [hsu, hN]; rfl⟩, by omega⟩
          · have hN : depN d ⟨op, num, var, attr, xa, xb⟩ j = 0 := by simp only [depN, hmA, if_neg (fun hx : _ ∧ _ => hB hx.1)]
            have hB1 : 0 ≤ xb → ¬ xb < j := fun h1 h2 => hB ⟨h1, h2⟩
            by_cases hB0 : 0 ≤ xb
            · have hB2 := hB1 hB0
              rcases hown with ⟨hj0, hnil, q3⟩ | ⟨w, u, q3, hk3, hw1, hw2⟩
              · have nn1 : n ≤ n' + 1 := by omega
                have hb3 : j * 8 + 8 ≤ 140737488355328 := by omega
                simp [evs, aeval, binS, cx_ti, cx_G, cx_pf, cx_tw, ti, globS, glob, ldcs_1, ldcs_2, ldcs_3, ldcs_4, ldcs_5, ldcs_7, sls.eq_1, slc.eq_1, pfL, q0, q3, q4, ii, hlt, ha', c4, c5, w4, w5, hA1, hB0, hB2, hw01, hw, agree_up, hag, hnn, nn1]
                exact ⟨⟨j + 1, by omega, .inr ⟨n' + 1, 0, by rw [hj0], by rw [up_same, hds, hN, List.map_append, hcs, hnil]; rfl, by omega, by omega⟩, by omega, by omega, by rw [hsu, hN]; rfl⟩, by omega⟩
              · have y4 : n ≤ w := by omega
                have y5 : ¬ w = n' := by omega
                simp [evs, aeval, binS, cx_ti, cx_G, cx_pf, cx_tw, ti, globS, glob, ldcs_1, ldcs_2, ldcs_3, ldcs_4, ldcs_5, ldcs_7, sls.eq_1, slc.eq_1, pfL, q0, q3, q4, ii, hlt, ha', c4, c5, w4, w5, hk3, hcl, hA1, hB0, hB2, hw01, hb3, hb4, hw, y5, agree_up, hag, hnn, y4]
                exact ⟨⟨j + 1, by omega, .inr ⟨w, u + 1, rfl, by rw [up_same, hds, hN, List.map_append, hcs]; rfl, by omega, by omega⟩, by omega, by omega, by rw [hsu, hN]; rfl⟩, by omega⟩
            · have hB2 := hB0
              rcases hown with ⟨hj0, hnil, q3⟩ | ⟨w, u, q3, hk3, hw1, hw2⟩
              · have nn1 : n ≤ n' + 1 := by omega
                have hb3 : j * 8 + 8 ≤ 140737488355328 := by omega
                simp [evs, aeval, binS, cx_ti, cx_G, cx_pf, cx_tw, ti, globS, glob, ldcs_1, ldcs_2, ldcs_3, ldcs_4, ldcs_5, ldcs_7, sls.eq_1, slc.eq_1, pfL, q0, q3, q4, ii, hlt, ha', c4, c5, w4, w5, hA1, hB0, hB2, hw01, hw, agree_up, hag, hnn, nn1]
                exact ⟨⟨j + 1, by omega, .inr ⟨n' + 1, 0, by rw [hj0], by rw [up_same, hds, hN, List.map_append, hcs, hnil]; rfl, by omega, by omega⟩, by omega, by omega, by rw [hsu, hN]; rfl⟩, by omega⟩
              · have y4 : n ≤ w := by omega
                have y5 : ¬ w = n' := by omega
                simp [evs, aeval, binS, cx_ti, cx_G, cx_pf, cx_tw, ti, globS, glob, ldcs_1, ldcs_2, ldcs_3, ldcs_4, ldcs_5, ldcs_7, sls.eq_1, slc.eq_1, pfL, q0, q3, q4, ii, hlt, ha', c4, c5, w4, w5, hk3, hcl, hA1, hB0, hB2, hw01, hb3, hb4, hw, y5, agree_up, hag, hnn, y4]
                exact ⟨⟨j + 1, by omega, .inr ⟨w, u + 1, rfl, by rw [up_same, hds, hN, List.map_append, hcs]; rfl, by omega, by omega⟩, by omega, by omega, by rw [hsu, hN]; rfl⟩, by omega⟩
    · obtain rfl : j = t.length := by omega
      have hf : deepB t = false := hdp
      simp [evs, aeval, binS, cx_ti, cx_G, cx_pf, cx_tw, ti, globS, glob, ldcs_1, ldcs_2, ldcs_3, ldcs_4, ldcs_5, ldcs_7, sls.eq_1, slc.eq_1, pfL, q0, q4, ii, s1, s2, s3, hf, bv]
  exact key _ rfl
end Go.Proofs.YtkfphaphiikloaaDoor

/-
  TREES, PART C: queries; the item of a variable, on both sides; how deep a query's trees are.
-/
namespace Go.Proofs.YtkfphaphiikloaaDoor
open Go Go.Eng

structure It where
  neg : Bool
  types : List ByteArray
  var : ByteArray
  lo : Int
  hi : Int
def dSs : De (List ByteArray) := De.sl 1 De.str
def deItc (h : Heap) : List AV → Option It
  | [.v (.bool neg), ty, .v (.string var), .v (.int .i64 lo), .v (.int .i64 hi)] => (rd dSs h ty).map fun tys => ⟨neg, tys, var, lo, hi⟩
  | _ => none
theorem deItc_out {h : Heap} {l : List AV} {x : It} (e : deItc h l = some x) : ∃ ty, l = [bv x.neg, ty, ss x.var, ii x.lo, ii x.hi] ∧ rd dSs h ty = some x.types := by
  unfold deItc at e
  split at e
  · simp only [Option.map_eq_some_iff] at e
    obtain ⟨t, h1, rfl⟩ := e
    exact ⟨_, rfl, h1⟩
  · cases e
theorem deItc_in {h : Heap} {ty : AV} {x : It} (e : rd dSs h ty = some x.types) : deItc h [bv x.neg, ty, ss x.var, ii x.lo, ii x.hi] = some x := by
  simp only [deItc, bv, ss, ii, e, Option.map_some]
def dIt : De It where
  run h l := deItc h l
  sim {h h' l x} hh e := by
    obtain ⟨ty, rfl, h1⟩ := deItc_out e
    exact deItc_in (rd_sim hh h1)
def dIts : De (List It) := De.sl 5 dIt
theorem its_at {h : Heap} {a : AV} {l : List It} (e : rd dIts h a = some l) : (l = [] ∧ (a = .v (.slice none 0 0) ∨ a = .e)) ∨
    ∃ id off k, a = .s id k.ver off l.length ∧ h id = some k ∧ off + l.length * 5 ≤ k.cells.length ∧ ∀ i (hi : i < l.length), k.cells[off + (i * 5 + 2)]? = some (ss l[i].var) := by
  rcases sl_at e with h0 | ⟨id, off, k, h1, h2, h3, h4⟩
  · exact .inl h0
  · refine .inr ⟨id, off, k, h1, h2, h3, fun i hi => ?_⟩
    obtain ⟨ty, h5, _⟩ := deItc_out (h4 i hi)
    have := cell_of (c := 2) h5 rfl (by omega)
    rwa [Nat.add_assoc] at this
def dNss : De (List (List Nd)) := De.sl 1 dNs
structure Qu where
  items : List It
  mode : Int
  after : Int
  wh : List Nd
  within : Int
  par : ByteArray
  ret : List (List Nd)
def deQ (h : Heap) : AV → Option Qu
  | .g [a, .v (.int .i64 m), .v (.int .i64 f), b, .v (.int .i64 w), .v (.string p), c] => match rd dIts h a, rd dNs h b, rd dNss h c with
    | some x, some y, some z => some ⟨x, m, f, y, w, p, z⟩
    | _, _, _ => none
  | _ => none
theorem deQ_out {h : Heap} {x : AV} {q : Qu} (e : deQ h x = some q) : ∃ a b c, x = .g [a, ii q.mode, ii q.after, b, ii q.within, ss q.par, c] ∧ rd dIts h a = some q.items ∧ rd dNs h b = some q.wh ∧ rd dNss h c = some q.ret := by
  unfold deQ at e
  split at e
  · split at e
    · rename_i e1 e2 e3
      cases e
      exact ⟨_, _, _, rfl, e1, e2, e3⟩
    · cases e
  · cases e
theorem deQ_in {h : Heap} {a b c : AV} {q : Qu} (h1 : rd dIts h a = some q.items) (h2 : rd dNs h b = some q.wh) (h3 : rd dNss h c = some q.ret) : deQ h (.g [a, ii q.mode, ii q.after, b, ii q.within, ss q.par, c]) = some q := by
  simp only [deQ, ii, ss, h1, h2, h3]
theorem deQ_sim {h h' : Heap} (hh : h.sim h') {x : AV} {q : Qu} (e : deQ h x = some q) : deQ h' x = some q := by
  obtain ⟨a, b, c, rfl, e1, e2, e3⟩ := deQ_out e
  exact deQ_in (rd_sim hh e1) (rd_sim hh e2) (rd_sim hh e3)
theorem q_agree {h : Heap} {n : Nat} {a : AV} {x : Qu} (hn : ∀ i, n ≤ i → h i = none) (e : deQ h a = some x) : ∀ h', agree n (roH h) h' → deQ h' a = some x := fun _ ha => deQ_sim (agree_sim hn ha) e

/-! ### the first of a name -/
theorem fi_hit {l : List ByteArray} {v : ByteArray} {j : Nat} (hj : j < l.length) (hno : ∀ i, i < j → (l.getD i ByteArray.empty == v) = false) (hh : (l.getD j ByteArray.empty == v) = true) : l.findIdx (· == v) = j := by
  rw [List.findIdx_eq hj]
  have hg : ∀ i (hi : i < l.length), l.getD i ByteArray.empty = l[i] := fun i hi => by rw [List.getD_eq_getElem?_getD, List.getElem?_eq_getElem hi]; rfl
  refine ⟨by rw [hg j hj] at hh; exact hh, fun i hi => ?_⟩
  have := hno i hi
  rw [hg i (by omega)] at this
  exact this
theorem fi_none {l : List ByteArray} {v : ByteArray} (hno : ∀ i, i < l.length → (l.getD i ByteArray.empty == v) = false) : l.findIdx (· == v) = l.length := by
  rw [List.findIdx_eq_length]
  intro x hx
  obtain ⟨i, hi, rfl⟩ := List.mem_iff_getElem.1 hx
  have := hno i hi
  rw [List.getD_eq_getElem?_getD, List.getElem?_eq_getElem hi] at this
  exact this
def vars (l : List It) : List ByteArray := l.map (·.var)
def ixOf (l : List ByteArray) (v : ByteArray) : Int := if l.findIdx (· == v) < l.length then l.findIdx (· == v) else -1
def deQS (h : Heap) : List AV → Option (Qu × ByteArray)
  | [x, .v (.string v)] => (deQ h x).map fun q => (q, v)
  | _ => none
theorem deQS_out {h : Heap} {args : List AV} {q : Qu × ByteArray} (e : deQS h args = some q) : ∃ x, args = [x, ss q.2] ∧ deQ h x = some q.1 := by
  unfold deQS at e
  split at e
  · simp only [Option.map_eq_some_iff] at e
    obtain ⟨t, h1, rfl⟩ := e
    exact ⟨_, rfl, h1⟩
  · cases e
theorem deQS_in {h : Heap} {x : AV} {q : Qu} {v : ByteArray} (e : deQ h x = some q) : deQS h [x, .v (.string v)] = some (q, v) := by simp only [deQS, e, Option.map_some]
theorem deQS_mono (h h' : Heap) (args : List AV) (q : Qu × ByteArray) (hh : h.le h') (e : deQS h args = some q) : deQS h' args = some q := by
  obtain ⟨x, rfl, e1⟩ := deQS_out e
  exact deQS_in (deQ_sim hh.sim e1)
def G91 := pureH deQS (fun q => q.1.items.length < big) fun q => .t [ii (if ixOf (vars q.1.items) q.2 < 0 then 0 else ixOf (vars q.1.items) q.2), bv (decide (0 ≤ ixOf (vars q.1.items) q.2))]
def G96 := pureH deQS (fun q => q.1.items.length < big) fun q => ii (ixOf (vars q.1.items) q.2)
set_option maxRecDepth 100000 in
set_option maxHeartbeats 1000000 in
theorem P91 : P0 [] 91 G91 := by
  refine mkH 2 (S := []) (l := []) tb_nil Tryd.func91 rfl (by kernel_rfl) deQS_mono (fun h l x e => by obtain ⟨a, rfl, _⟩ := deQS_out e; exact Nat.le_refl _) (fun a => rfl) (fun args q h n e hp hn => ?_)
  obtain ⟨x, rfl, e1⟩ := deQS_out e
  obtain ⟨a, b, c, rfl, e2, e3, e4⟩ := deQ_out e1
  obtain ⟨q, v⟩ := q
  simp only [] at e2 e3 e4 hp ⊢
  obtain ⟨s1, s2, s3, s4, s5⟩ := sl_is e2
  have hl : (vars q.items).length = q.items.length := by simp [vars]
  have o2 := (sl_is e3).2.2.2.1
  have o3 := (sl_is e4).2.2.2.1
  have hgv : ∀ j (hj : j < q.items.length), (vars q.items).getD j ByteArray.empty = q.items[j].var := fun j hj => by rw [List.getD_eq_getElem?_getD, vars, List.getElem?_map, List.getElem?_eq_getElem hj]; rfl
  have key : ∀ e : Nat → AV, e 0 = .g [a, ii q.mode, ii q.after, b, ii q.within, ss q.par, c] → e 1 = ss v → awp (cx [] (pfL [])) (Tryd.f91.body.getD .skip) (finQ (cx [] (pfL [])) Tryd.f91 fun z _ _ => z = .t [ii (if ixOf (vars q.items) v < 0 then 0 else ixOf (vars q.items) v), bv (decide (0 ≤ ixOf (vars q.items) v))]) ⟨e, roH h, n⟩ := fun e q0 q1 => by
    simp [evs, aeval, binS, cx_ti, cx_G, cx_pf, cx_tw, ti, globS, glob, ldcs_1, ldcs_2, ldcs_3, ldcs_4, ldcs_5, ldcs_7, sls.eq_1, slc.eq_1, pfL, Tryd.f91, q0, q1, ii, ss, s1, s2, s3, s4, o2, o3]
    refine awp_loop (fun s => ∃ j : Nat, j ≤ q.items.length ∧ s.e 1 = ss v ∧ s.e 2 = .p n 0 0 ∧ s.e 9 = ii q.items.length ∧ s.e 10 = ii j ∧ agree n (roH h) s.h ∧ s.h n = some ⟨[a, ii q.mode, ii q.after, b, ii q.within, ss q.par, c], 0, true, 7⟩ ∧ ∀ i, i < j → ((vars q.items).getD i ByteArray.empty == v) = false) (fun s => q.items.length - (s.e 10).i.toNat) ⟨0, by simp [up, q1, ii, ss, agree_up, agree_refl]⟩ ?_
    rintro e' h' n' ⟨j, hj, q1, q2, q9, q10, hag, hbk, hno⟩
    simp only [] at q1 q2 q9 q10 hag hbk
    by_cases hlt : j < q.items.length
    · rcases its_at e2 with ⟨h0, _⟩ | ⟨id, off, k, rfl, hk, ho, hat⟩
      · rw [h0] at hlt; simp at hlt
      have hr := hat j hlt
      have ha' := agree_at hn hk hag
      have hw := wrap_nat (j := j) (by omega)
      have hw1 : off + (j * 5 + 3) ≤ k.cells.length := by omega
      have hgj := hgv j hlt
      generalize q.items[j].var = y at *
      cases hy : (y == v) with
      | true =>
        have hf := fi_hit (v := v) (by rw [hl]; exact hlt) hno (by rw [hgj]; exact hy)
        have h1 : ixOf (vars q.items) v = (j : Int) := by rw [ixOf, hf, if_pos (by rw [hl]; exact hlt)]
        have h2 : ¬ (j : Int) < 0 := by omega
        simp [evs, aeval, binS, cx_ti, cx_G, cx_pf, cx_tw, ti, globS, glob, ldcs_1, ldcs_2, ldcs_3, ldcs_4, ldcs_5, ldcs_7, sls.eq_1, slc.eq_1, pfL, q1, q2, q9, q10, ii, ss, hlt, hbk, ha', hr, hw1, hy, h1, h2, bv]
      | false =>
        simp [evs, aeval, binS, cx_ti, cx_G, cx_pf, cx_tw, ti, globS, glob, ldcs_1, ldcs_2, ldcs_3, ldcs_4, ldcs_5, ldcs_7, sls.eq_1, slc.eq_1, pfL, q1, q2, q9, q10, ii, ss, hlt, hbk, ha', hr, hw1, hy, hw, hag]
        refine ⟨⟨j + 1, by omega, by omega, fun i hi => ?_⟩, by omega⟩
        by_cases e : i = j
        · subst e; rw [← List.getD_eq_getElem?_getD, hgj]; exact hy
        · have := hno i (by omega); rwa [List.getD_eq_getElem?_getD] at this
    · obtain rfl : j = q.items.length := by omega
      have hf := fi_none (v := v) (l := vars q.items) (by rw [hl]; exact hno)
      have h1 : ixOf (vars q.items) v = -1 := by rw [ixOf, hf, if_neg (by omega)]
      simp [evs, aeval, binS, cx_ti, cx_G, cx_pf, cx_tw, ti, globS, glob, ldcs_1, ldcs_2, ldcs_3, ldcs_4, ldcs_5, ldcs_7, sls.eq_1, slc.eq_1, pfL, q1, q2, q9, q10, ii, h1, bv]
  exact key _ rfl rfl
set_option maxRecDepth 100000 in
set_option maxHeartbeats 1000000 in
theorem P96 : P0 [] 96 G96 := by
  refine mkH 2 (S := []) (l := []) tb_nil Tryd.func96 rfl (by kernel_rfl) deQS_mono (fun h l x e => by obtain ⟨a, rfl, _⟩ := deQS_out e; exact Nat.le_refl _) (fun a => rfl) (fun args q h n e hp hn => ?_)
  obtain ⟨x, rfl, e1⟩ := deQS_out e
  obtain ⟨a, b, c, rfl, e2, e3, e4⟩ := deQ_out e1
  obtain ⟨q, v⟩ := q
  simp only [] at e2 e3 e4 hp ⊢
  obtain ⟨s1, s2, s3, s4, s5⟩ := sl_is e2
  have hl : (vars q.items).length = q.items.length := by simp [vars]
  have o2 := (sl_is e3).2.2.2.1
  have o3 := (sl_is e4).2.2.2.1
  have hgv : ∀ j (hj : j < q.items.length), (vars q.items).getD j ByteArray.empty = q.items[j].var := fun j hj => by rw [List.getD_eq_getElem?_getD, vars, List.getElem?_map, List.getElem?_eq_getElem hj]; rfl
  have key : ∀ e : Nat → AV, e 0 = .g [a, ii q.mode, ii q.after, b, ii q.within, ss q.par, c] → e 1 = ss v → awp (cx [] (pfL [])) (Tryd.f96.body.getD .skip) (finQ (cx [] (pfL [])) Tryd.f96 fun z _ _ => z = ii (ixOf (vars q.items) v)) ⟨e, roH h, n⟩ := fun e q0 q1 => by
    simp [evs, aeval, binS, cx_ti, cx_G, cx_pf, cx_tw, ti, globS, glob, ldcs_1, ldcs_2, ldcs_3, ldcs_4, ldcs_5, ldcs_7, sls.eq_1, slc.eq_1, pfL, Tryd.f96, q0, q1, ii, ss, s1, s2, s3, s4, o2, o3]
    refine awp_loop (fun s => ∃ j : Nat, j ≤ q.items.length ∧ s.e 1 = ss v ∧ s.e 2 = .p n 0 0 ∧ s.e 5 = ii j ∧ agree n (roH h) s.h ∧ s.h n = some ⟨[a, ii q.mode, ii q.after, b, ii q.within, ss q.par, c], 0, true, 7⟩ ∧ ∀ i, i < j → ((vars q.items).getD i ByteArray.empty == v) = false) (fun s => q.items.length - (s.e 5).i.toNat) ⟨0, by simp [up, q1, ii, ss, agree_up, agree_refl]⟩ ?_
    rintro e' h' n' ⟨j, hj, q1, q2, q10, hag, hbk, hno⟩
    simp only [] at q1 q2 q10 hag hbk
    by_cases hlt : j < q.items.length
    · rcases its_at e2 with ⟨h0, _⟩ | ⟨id, off, k, rfl, hk, ho, hat⟩
      · rw [h0] at hlt; simp at hlt
      have hr := hat j hlt
      have ha' := agree_at hn hk hag
      have hw := wrap_nat (j := j) (by omega)
      have hw1 : off + (j * 5 + 3) ≤ k.cells.length := by omega
      have hgj := hgv j hlt
      generalize q.items[j].var = y at *
      cases hy : (y == v) with
      | true =>
        have hf := fi_hit (v := v) (by rw [hl]; exact hlt) hno (by rw [hgj]; exact hy)
        have h1 : ixOf (vars q.items) v = (j : Int) := by rw [ixOf, hf, if_pos (by rw [hl]; exact hlt)]
        simp [evs, aeval, binS, cx_ti, cx_G, cx_pf, cx_tw, ti, globS, glob, ldcs_1, ldcs_2, ldcs_3, ldcs_4, ldcs_5, ldcs_7, sls.eq_1, slc.eq_1, pfL, q1, q2, q10, ii, ss, hlt, hbk, ha', hr, hw1, hy, h1, bv]
      | false =>
        simp [evs, aeval, binS, cx_ti, cx_G, cx_pf, cx_tw, ti, globS, glob, ldcs_1, ldcs_2, ldcs_3, ldcs_4, ldcs_5, ldcs_7, sls.eq_1, slc.eq_1, pfL, q1, q2, q10, ii, ss, hlt, hbk, ha', hr, hw1, hy, hw, hag]
        refine ⟨⟨j + 1, by omega, by omega, fun i hi => ?_⟩, by omega⟩
        by_cases e : i = j
        · subst e; rw [← List.getD_eq_getElem?_getD, hgj]; exact hy
        · have := hno i (by omega); rwa [List.getD_eq_getElem?_getD] at this
    · obtain rfl : j = q.items.length := by omega
      have hf := fi_none (v := v) (l := vars q.items) (by rw [hl]; exact hno)
      have h1 : ixOf (vars q.items) v = -1 := by rw [ixOf, hf, if_neg (by omega)]
      simp [evs, aeval, binS, cx_ti, cx_G, cx_pf, cx_tw, ti, globS, glob, ldcs_1, ldcs_2, ldcs_3, ldcs_4, ldcs_5, ldcs_7, sls.eq_1, slc.eq_1, pfL, q1, q2, q10, ii, h1, bv, hbk, s1, s2, s3]
  exact key _ rfl rfl
end Go.Proofs.YtkfphaphiikloaaDoor
