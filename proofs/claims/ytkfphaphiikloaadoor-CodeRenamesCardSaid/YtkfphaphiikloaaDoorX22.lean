/-
  TREES, PART I: the document's own walk over a tree (begins, Tree).
-/
import Derived.Test.YtkfphaphiikloaaDoorX21
import Derived.Test.YtkfphaphiikloaaDoorX19
set_option linter.unusedSimpArgs false
set_option linter.unusedVariables false
set_option linter.constructorNameAsVariable false
namespace Go.Proofs.YtkfphaphiikloaaDoor
open Go Go.Eng

def oneB (o : Int) : Bool := decide (o = 12 ∨ o = 13)
def twoB (o : Int) : Bool := decide (14 ≤ o ∧ o ≤ 26)
def g142x := pure1 deI fun o => bv (oneB o)
def g143x := pure1 deI fun o => bv (twoB o)
def tb122 : List (FuncId × (List AV → Heap → PRes)) := [(141, g141), (142, g142x), (143, g143x)]
theorem tb122_ok : TbOk [7] tb122 := tb_cons p141 (tb_cons p142 (tb_cons p143 tb_nil))
section
variable {l : List Int} {x : Nd} {i : Nat}
theorem bs_leaf (h : leafB x = true) : beginStep l x i = some (l ++ [(i : Int)]) := by simp only [beginStep, h, if_true]
theorem bs_one (h : leafB x = false) (h1 : oneB x.op = true) : beginStep l x i = if bareB x = false ∨ i < 1 ∨ x.a ≠ (i : Int) - 1 ∨ x.b ≠ -1 then none else some (l ++ [l.getD (i - 1) 0]) := by
  simp only [oneB, decide_eq_true_eq] at h1
  simp only [beginStep, h, h1, if_true]
  simp
theorem bs_two (h : leafB x = false) (h1 : oneB x.op = false) (h2 : twoB x.op = true) : beginStep l x i = if bareB x = false ∨ i < 1 ∨ x.b ≠ (i : Int) - 1 ∨ l.getD (i - 1) 0 < 1 ∨ x.a ≠ l.getD (i - 1) 0 - 1 then none else some (l ++ [l.getD x.a.toNat 0]) := by
  simp only [oneB, decide_eq_false_iff_not] at h1
  simp only [twoB, decide_eq_true_eq] at h2
  simp only [beginStep, h, h1, h2, if_true]
  simp
theorem bs_bad (h : leafB x = false) (h1 : oneB x.op = false) (h2 : twoB x.op = false) : beginStep l x i = none := by
  simp only [oneB, decide_eq_false_iff_not] at h1
  simp only [twoB, decide_eq_false_iff_not] at h2
  simp only [beginStep, h, h1, h2]
  simp
end
theorem begin_none {t : List Nd} {j : Nat} (h : beginTo t j = none) : ∀ m, beginTo t (j + m) = none
  | 0 => h
  | m + 1 => by
    show beginTo t (j + m + 1) = none
    simp only [beginTo, begin_none h m, Option.bind_none]
theorem begin_no {t : List Nd} {j : Nat} {l : List Int} (hj : j < t.length) (ho : beginTo t j = some l) (hs : beginStep l (t.getD j nd0) j = none) : beginTo t t.length = none := by
  have h1 : beginTo t (j + 1) = none := by simp only [beginTo, ho, Option.bind_some, hs]
  have := begin_none h1 (t.length - (j + 1))
  rwa [show j + 1 + (t.length - (j + 1)) = t.length by omega] at this
theorem begin_len {t : List Nd} {j : Nat} {l : List Int} (h : beginTo t j = some l) : l.length = j := by
  rcases to_same t j with ⟨_, h2⟩ | ⟨o, l', _, h2, h3, _⟩
  · rw [h2] at h; cases h
  · rw [h2] at h; cases h; exact h3
/-- Of an entry: where it begins. -/
theorem begin_low {t : List Nd} {j : Nat} {l : List Int} (h : beginTo t j = some l) : ∀ e, e + 1 = j → ∃ b : Nat, l.getD e 0 = b ∧ b ≤ e := fun e he => by
  rcases to_same t j with ⟨_, h2⟩ | ⟨o, l', _, h2, h3, h4⟩
  · rw [h2] at h; cases h
  · rw [h2] at h
    cases h
    subst he
    obtain ⟨b, p, _, h5, h6, _⟩ := h4.succ
    exact ⟨b, by rw [List.getD_eq_getElem?_getD, h5]; rfl, h6⟩
theorem wrapm1 {e : Nat} (h : e < big) : IntKind.i64.wrap (((e + 1 : Nat) : Int) - 1) = e := by
  have : ((e + 1 : Nat) : Int) - 1 = e := by omega
  rw [this]
  cases e with
  | zero => rfl
  | succ m => exact wrap_nat (by omega)
def begPost (t : List Nd) (n : Nat) (z : AV) (h' : Heap) (n' : Nat) : Prop := match beginTo t t.length with
  | none => z = .t [.v (.slice none 0 0), bv false]
  | some l => ∃ y, z = .t [y, bv true] ∧ Own h' n n' y t.length (l.map ii) 1
set_option maxRecDepth 100000 in
set_option maxHeartbeats 8000000 in
theorem c122 {h : Heap} {n : Nat} {a : AV} {t : List Nd} (e1 : rd dNs h a = some t) (hp : smallT t) (hn : Fresh n h) :
    ACall (cx [7] (pfL tb122)) 122 [a] h n fun z h' n' => agree n h h' ∧ Fresh n' h' ∧ n ≤ n' ∧ begPost t n z h' n' := by
  refine acall_of_awp (args := [a]) (pfL_ok tb122_ok) (mixed _ _) Tryd.func122 (c := Tryd.f122.body.getD .skip) rfl (by kernel_rfl) (callable Tryd.func122 rfl rfl _ _) (show 1 ≤ Tryd.f122.ntmps by decide +kernel) ?_
  obtain ⟨s1, s2, s3, s4, s5⟩ := sl_is e1
  have hp' : t.length * 64 ≤ 140737488355328 := hp
  have key : ∀ e : Nat → AV, e 0 = a → awp (cx [7] (pfL tb122)) (Tryd.f122.body.getD .skip) (finQ (cx [7] (pfL tb122)) Tryd.f122 fun z h' n' => agree n h h' ∧ Fresh n' h' ∧ n ≤ n' ∧ begPost t n z h' n') ⟨e, h, n⟩ := fun e q0 => by
    simp [evs, aeval, binS, cx_ti, cx_G, cx_pf, cx_tw, ti, globS, glob, ldcs_1, ldcs_2, ldcs_3, ldcs_4, ldcs_5, ldcs_7, sls.eq_1, slc.eq_1, pfL, Tryd.f122, q0]
    refine awp_loop (fun s => ∃ (j : Nat) (l : List Int), j ≤ t.length ∧ beginTo t j = some l ∧ s.e 0 = a ∧ s.e 5 = ii j ∧ Own s.h n s.n (s.e 4) j (l.map ii) 1 ∧ agree n h s.h ∧ Fresh s.n s.h ∧ n ≤ s.n) (fun s => t.length - (s.e 5).i.toNat) ⟨0, [], by simp [up, q0, ii, agree_refl, beginTo, Own, hn]⟩ ?_
    rintro e' h' n' ⟨j, l, hj, hbt, q0, q5, hown, hag, hfr, hnn⟩
    simp only [] at q0 q5 hown hag hfr hnn
    have hll := begin_len hbt
    have hlow := begin_low hbt
    by_cases hlt : j < t.length
    · rcases ns_at e1 with ⟨h0, _⟩ | ⟨id, off, k, rfl, hk, ho', hat⟩
      · rw [h0] at hlt; simp at hlt
      have hr := hat j hlt
      have hid := lt_of hk hn
      have hk' : h' id = some k := by rw [hag id hid]; exact hk
      have y0 : ¬ id = n' := by omega
      have hle : ∀ (X : Ctx) (h' : Heap), h' id = some k → ldcs X h' (.p id k.ver (off + j * 6)) 0 6 = ncells t[j] := fun X h' e => ldcs_nd e hr
      have hw6 : off + (j * 6 + 6) ≤ k.cells.length := by omega
      have hw := wrap_nat (j := j) (by unfold big; omega)
      have hg : t.getD j nd0 = t[j] := by rw [List.getD_eq_getElem?_getD, List.getElem?_eq_getElem hlt]; rfl
      have hno := begin_no hlt hbt
      have hsu : beginTo t (j + 1) = beginStep l t[j] j := by simp only [beginTo, hbt, Option.bind_some, hg]
      rw [hg] at hno
      generalize t[j] = x at *
      obtain ⟨op, num, var, attr, xa, xb⟩ := x
      have hem : ByteArray.mk #[] = ByteArray.empty := rfl
      have hdn : deN (.g [.v (.int .i64 op), .v (.int .i64 num), .v (.string var), .v (.string attr), .v (.int .i64 xa), .v (.int .i64 xb)]) = some ⟨op, num, var, attr, xa, xb⟩ := rfl
      have hnb : ∀ (X : Ctx) (h'' : Heap), h'' n' = some ⟨[.v (.int .i64 op), .v (.int .i64 num), .v (.string var), .v (.string attr), .v (.int .i64 xa), .v (.int .i64 xb)], 0, true, 6⟩ → ldcs X h'' (.p n' 0 0) 0 6 = [.v (.int .i64 op), .v (.int .i64 num), .v (.string var), .v (.string attr), .v (.int .i64 xa), .v (.int .i64 xb)] := fun X h'' e => by simp [ldcs, ldc, e]
      have hb3 : (j + 1) * 8 ≤ 140737488355328 := by omega
      have hb4 : j ≤ 9223372036854775806 := by omega
      have f1 : n ≤ n' + 1 := by omega
      have f2 : n ≤ n' + 2 := by omega
      have f3 : n ≤ n' + 3 := by omega
      have hbare : bareB ⟨op, num, var, attr, xa, xb⟩ = (decide (num = 0) && (var == ByteArray.empty) && (attr == ByteArray.empty)) := rfl
      have hcase : (bareB ⟨op, num, var, attr, xa, xb⟩ = false ∧ num ≠ 0) ∨ (bareB ⟨op, num, var, attr, xa, xb⟩ = false ∧ num = 0 ∧ (var == ByteArray.empty) = false) ∨ (bareB ⟨op, num, var, attr, xa, xb⟩ = false ∧ num = 0 ∧ (var == ByteArray.empty) = true ∧ (attr == ByteArray.empty) = false) ∨ (bareB ⟨op, num, var, attr, xa, xb⟩ = true ∧ num = 0 ∧ (var == ByteArray.empty) = true ∧ (attr == ByteArray.empty) = true) := by
        rw [hbare]
        by_cases h1 : num = 0
        · cases (var == ByteArray.empty) <;> cases (attr == ByteArray.empty) <;> simp [h1]
        · simp [h1]
      have hbp : beginTo t t.length = none → ∀ h2 n2, begPost t n (.t [.v (.slice none 0 0), .v (.bool false)]) h2 n2 := fun e h2 n2 => by simp only [begPost, e, bv]
      cases hlf : leafB ⟨op, num, var, attr, xa, xb⟩ with
      | true =>
        have hst := hsu.trans (bs_leaf (l := l) (i := j) hlf)
        rcases hown with ⟨hj0, hnil, q4⟩ | ⟨w, u, q4, hk3, hw1, hw2⟩
        · have hl0 : l = [] := by simpa using hnil
          subst hl0
          rcases hcase with ⟨h0, c1⟩ | ⟨h0, c1, c2⟩ | ⟨h0, c1, c2, c3⟩ | ⟨h0, c1, c2, c3⟩
          · skip
            simp [evs, aeval, binS, cx_ti, cx_G, cx_pf, cx_tw, ti, globS, glob, ldcs_1, ldcs_2, ldcs_3, ldcs_4, ldcs_5, ldcs_7, sls.eq_1, slc.eq_1, pfL, q0, q5, ii, ss, hlt, hk', y0, hle, hnb, hdn, hw6, tb122, g141, g142x, g143x, pure1, deI, bv, ncells, hem, hlf, agree_up, hag, f1, f2, f3, fresh_up, hfr.add, hnn, q4, c1, h0, hw]
            exact ⟨⟨j + 1, by omega, _, hst, by omega, .inr ⟨n' + 3, 0, by simp [hj0], by rw [up_same]; rfl, by omega, by omega⟩, by omega⟩, by omega⟩
          · skip
            subst c1
            simp [evs, aeval, binS, cx_ti, cx_G, cx_pf, cx_tw, ti, globS, glob, ldcs_1, ldcs_2, ldcs_3, ldcs_4, ldcs_5, ldcs_7, sls.eq_1, slc.eq_1, pfL, q0, q5, ii, ss, hlt, hk', y0, hle, hnb, hdn, hw6, tb122, g141, g142x, g143x, pure1, deI, bv, ncells, hem, hlf, agree_up, hag, f1, f2, f3, fresh_up, hfr.add, hnn, q4, h0, c2, hw]
            exact ⟨⟨j + 1, by omega, _, hst, by omega, .inr ⟨n' + 3, 0, by simp [hj0], by rw [up_same]; rfl, by omega, by omega⟩, by omega⟩, by omega⟩
          · skip
            subst c1
            simp [evs, aeval, binS, cx_ti, cx_G, cx_pf, cx_tw, ti, globS, glob, ldcs_1, ldcs_2, ldcs_3, ldcs_4, ldcs_5, ldcs_7, sls.eq_1, slc.eq_1, pfL, q0, q5, ii, ss, hlt, hk', y0, hle, hnb, hdn, hw6, tb122, g141, g142x, g143x, pure1, deI, bv, ncells, hem, hlf, agree_up, hag, f1, f2, f3, fresh_up, hfr.add, hnn, q4, h0, c2, c3, hw]
            exact ⟨⟨j + 1, by omega, _, hst, by omega, .inr ⟨n' + 3, 0, by simp [hj0], by rw [up_same]; rfl, by omega, by omega⟩, by omega⟩, by omega⟩
          · skip
            subst c1
            simp [evs, aeval, binS, cx_ti, cx_G, cx_pf, cx_tw, ti, globS, glob, ldcs_1, ldcs_2, ldcs_3, ldcs_4, ldcs_5, ldcs_7, sls.eq_1, slc.eq_1, pfL, q0, q5, ii, ss, hlt, hk', y0, hle, hnb, hdn, hw6, tb122, g141, g142x, g143x, pure1, deI, bv, ncells, hem, hlf, agree_up, hag, f1, f2, f3, fresh_up, hfr.add, hnn, q4, h0, c2, c3, hw]
            exact ⟨⟨j + 1, by omega, _, hst, by omega, .inr ⟨n' + 3, 0, by simp [hj0], by rw [up_same]; rfl, by omega, by omega⟩, by omega⟩, by omega⟩
        · skip
          have z1 : ¬ w = n' := by omega
          have z2 : ¬ w = n' + 2 := by omega
          have z3 : n ≤ w := hw1
          have z4 : w < n' + 4 := by omega
          have hcl : (l.map ii).length = j := by rw [List.length_map, hll]
          rcases hcase with ⟨h0, c1⟩ | ⟨h0, c1, c2⟩ | ⟨h0, c1, c2, c3⟩ | ⟨h0, c1, c2, c3⟩
          · skip
            simp [evs, aeval, binS, cx_ti, cx_G, cx_pf, cx_tw, ti, globS, glob, ldcs_1, ldcs_2, ldcs_3, ldcs_4, ldcs_5, ldcs_7, sls.eq_1, slc.eq_1, pfL, q0, q5, ii, ss, hlt, hk', y0, hle, hnb, hdn, hw6, tb122, g141, g142x, g143x, pure1, deI, bv, ncells, hem, hlf, agree_up, hag, f1, f2, f3, fresh_up, hfr.add, hnn, q4, c1, h0, hw, hk3, z1, z2, z3, z4, hcl, hll, hb3, hb4]
            exact ⟨⟨j + 1, by omega, _, hst, by omega, .inr ⟨w, u + 1, by simp, by rw [up_same]; simp [ii], by omega, by omega⟩, by omega⟩, by omega⟩
          · skip
            subst c1
            simp [evs, aeval, binS, cx_ti, cx_G, cx_pf, cx_tw, ti, globS, glob, ldcs_1, ldcs_2, ldcs_3, ldcs_4, ldcs_5, ldcs_7, sls.eq_1, slc.eq_1, pfL, q0, q5, ii, ss, hlt, hk', y0, hle, hnb, hdn, hw6, tb122, g141, g142x, g143x, pure1, deI, bv, ncells, hem, hlf, agree_up, hag, f1, f2, f3, fresh_up, hfr.add, hnn, q4, h0, c2, hw, hk3, z1, z2, z3, z4, hcl, hll, hb3, hb4]
            exact ⟨⟨j + 1, by omega, _, hst, by omega, .inr ⟨w, u + 1, by simp, by rw [up_same]; simp [ii], by omega, by omega⟩, by omega⟩, by omega⟩
          · skip
            subst c1
            simp [evs, aeval, binS, cx_ti, cx_G, cx_pf, cx_tw, ti, globS, glob, ldcs_1, ldcs_2, ldcs_3, ldcs_4, ldcs_5, ldcs_7, sls.eq_1, slc.eq_1, pfL, q0, q5, ii, ss, hlt, hk', y0, hle, hnb, hdn, hw6, tb122, g141, g142x, g143x, pure1, deI, bv, ncells, hem, hlf, agree_up, hag, f1, f2, f3, fresh_up, hfr.add, hnn, q4, h0, c2, c3, hw, hk3, z1, z2, z3, z4, hcl, hll, hb3, hb4]
            exact ⟨⟨j + 1, by omega, _, hst, by omega, .inr ⟨w, u + 1, by simp, by rw [up_same]; simp [ii], by omega, by omega⟩, by omega⟩, by omega⟩
          · skip
            subst c1
            simp [evs, aeval, binS, cx_ti, cx_G, cx_pf, cx_tw, ti, globS, glob, ldcs_1, ldcs_2, ldcs_3, ldcs_4, ldcs_5, ldcs_7, sls.eq_1, slc.eq_1, pfL, q0, q5, ii, ss, hlt, hk', y0, hle, hnb, hdn, hw6, tb122, g141, g142x, g143x, pure1, deI, bv, ncells, hem, hlf, agree_up, hag, f1, f2, f3, fresh_up, hfr.add, hnn, q4, h0, c2, c3, hw, hk3, z1, z2, z3, z4, hcl, hll, hb3, hb4]
            exact ⟨⟨j + 1, by omega, _, hst, by omega, .inr ⟨w, u + 1, by simp, by rw [up_same]; simp [ii], by omega, by omega⟩, by omega⟩, by omega⟩
      | false =>
        cases hoB : oneB op with
        | true =>
          have hbs := bs_one (l := l) (i := j) hlf hoB
          rcases hcase with ⟨h0, c1⟩ | ⟨h0, c1, c2⟩ | ⟨h0, c1, c2, c3⟩ | ⟨h0, c1, c2, c3⟩
          · skip
            have hf := hno (by rw [hbs, if_pos (.inl h0)])
            simp [evs, aeval, binS, cx_ti, cx_G, cx_pf, cx_tw, ti, globS, glob, ldcs_1, ldcs_2, ldcs_3, ldcs_4, ldcs_5, ldcs_7, sls.eq_1, slc.eq_1, pfL, q0, q5, ii, ss, hlt, hk', y0, hle, hnb, hdn, hw6, tb122, g141, g142x, g143x, pure1, deI, bv, ncells, hem, hlf, agree_up, hag, f1, f2, f3, fresh_up, hfr.add, hnn, hoB, c1, h0, hbp hf]
          · skip
            subst c1
            have hf := hno (by rw [hbs, if_pos (.inl h0)])
            simp [evs, aeval, binS, cx_ti, cx_G, cx_pf, cx_tw, ti, globS, glob, ldcs_1, ldcs_2, ldcs_3, ldcs_4, ldcs_5, ldcs_7, sls.eq_1, slc.eq_1, pfL, q0, q5, ii, ss, hlt, hk', y0, hle, hnb, hdn, hw6, tb122, g141, g142x, g143x, pure1, deI, bv, ncells, hem, hlf, agree_up, hag, f1, f2, f3, fresh_up, hfr.add, hnn, hoB, h0, c2, hbp hf]
          · skip
            subst c1
            have hf := hno (by rw [hbs, if_pos (.inl h0)])
            simp [evs, aeval, binS, cx_ti, cx_G, cx_pf, cx_tw, ti, globS, glob, ldcs_1, ldcs_2, ldcs_3, ldcs_4, ldcs_5, ldcs_7, sls.eq_1, slc.eq_1, pfL, q0, q5, ii, ss, hlt, hk', y0, hle, hnb, hdn, hw6, tb122, g141, g142x, g143x, pure1, deI, bv, ncells, hem, hlf, agree_up, hag, f1, f2, f3, fresh_up, hfr.add, hnn, hoB, h0, c2, c3, hbp hf]
          · skip
            subst c1
            by_cases hj0 : j = 0
            · have hj1 : (j : Int) < 1 := by omega
              have hf := hno (by rw [hbs, if_pos (.inr (.inl (by omega)))])
              simp [evs, aeval, binS, cx_ti, cx_G, cx_pf, cx_tw, ti, globS, glob, ldcs_1, ldcs_2, ldcs_3, ldcs_4, ldcs_5, ldcs_7, sls.eq_1, slc.eq_1, pfL, q0, q5, ii, ss, hlt, hk', y0, hle, hnb, hdn, hw6, tb122, g141, g142x, g143x, pure1, deI, bv, ncells, hem, hlf, agree_up, hag, f1, f2, f3, fresh_up, hfr.add, hnn, hoB, h0, c2, c3, hj1, hbp hf]
            rcases hown with ⟨hj9, hnil, q4⟩ | ⟨w, u, q4, hk3, hw1, hw2⟩
            · exact absurd hj9 hj0
            obtain ⟨e, he⟩ : ∃ e, j = e + 1 := ⟨j - 1, by omega⟩
            have he1 : IntKind.i64.wrap ((j : Int) - 1) = e := by rw [he]; exact wrapm1 (by unfold big; omega)
            have he2 : (j : Int) - 1 = e := by omega
            have he3 : ¬ (j : Int) < 1 := by omega
            have he4 : j - 1 = e := by omega
            have he5 : ¬ j < 1 := by omega
            rw [he2, he4] at hbs
            have z1 : ¬ w = n' := by omega
            have z2 : ¬ w = n' + 2 := by omega
            have z3 : n ≤ w := hw1
            have z4 : w < n' + 4 := by omega
            have hlt2 : e < j := by omega
            have hlt4 : e + 1 ≤ j := by omega
            obtain ⟨b, hb1, hb2⟩ := hlow e he.symm
            rw [hb1] at hbs
            have hce : (l.map ii)[e]? = some (ii b) := by rw [List.getElem?_map, ← hb1, List.getD_eq_getElem?_getD, List.getElem?_eq_getElem (show e < l.length by omega)]; rfl
            have hcl : (l.map ii).length = j := by rw [List.length_map, hll]
            by_cases hxa : xa = e
            · by_cases hxb : xb = -1
              · subst hxa; subst hxb
                rw [if_neg (by simp [h0, he5])] at hbs
                have hst := hsu.trans hbs
                have hcm : (l ++ [(b : Int)]).map ii = l.map ii ++ [ii ((b : Int))] := by simp
                simp only [ii] at hcl hk3 hce hcm
                generalize hcs : l.map ii = cs at *
                have hce' : ∀ hx, cs[e]'hx = .v (.int .i64 b) := fun hx => by rw [List.getElem?_eq_getElem hx] at hce; exact Option.some.inj hce
                simp [evs, aeval, binS, cx_ti, cx_G, cx_pf, cx_tw, ti, globS, glob, ldcs_1, ldcs_2, ldcs_3, ldcs_4, ldcs_5, ldcs_7, sls.eq_1, slc.eq_1, pfL, q0, q5, ii, ss, hlt, hk', y0, hle, hnb, hdn, hw6, tb122, g141, g142x, g143x, pure1, deI, bv, ncells, hem, hlf, agree_up, hag, f1, f2, f3, fresh_up, hfr.add, hnn, q4, hoB, h0, c2, c3, hw, he1, he3, hk3, hce, hce', hlt2, hlt4, z1, z2, z3, z4, hcl, hll, hb3, hb4]
                exact ⟨⟨j + 1, by omega, _, hst, by omega, .inr ⟨w, u + 1, by simp, by rw [up_same]; simp only [ii, hcm], by omega, by omega⟩, by omega⟩, by omega⟩
              · subst hxa
                have hf := hno (by rw [hbs, if_pos (.inr (.inr (.inr hxb)))])
                simp [evs, aeval, binS, cx_ti, cx_G, cx_pf, cx_tw, ti, globS, glob, ldcs_1, ldcs_2, ldcs_3, ldcs_4, ldcs_5, ldcs_7, sls.eq_1, slc.eq_1, pfL, q0, q5, ii, ss, hlt, hk', y0, hle, hnb, hdn, hw6, tb122, g141, g142x, g143x, pure1, deI, bv, ncells, hem, hlf, agree_up, hag, f1, f2, f3, fresh_up, hfr.add, hnn, q4, hoB, h0, c2, c3, he1, he3, hxb, hbp hf]
            · have hf := hno (by rw [hbs, if_pos (.inr (.inr (.inl hxa)))])
              simp [evs, aeval, binS, cx_ti, cx_G, cx_pf, cx_tw, ti, globS, glob, ldcs_1, ldcs_2, ldcs_3, ldcs_4, ldcs_5, ldcs_7, sls.eq_1, slc.eq_1, pfL, q0, q5, ii, ss, hlt, hk', y0, hle, hnb, hdn, hw6, tb122, g141, g142x, g143x, pure1, deI, bv, ncells, hem, hlf, agree_up, hag, f1, f2, f3, fresh_up, hfr.add, hnn, q4, hoB, h0, c2, c3, he1, he3, hxa, hbp hf]
        | false =>
          cases htB : twoB op with
          | true =>
            have hbs := bs_two (l := l) (i := j) hlf hoB htB
            rcases hcase with ⟨h0, c1⟩ | ⟨h0, c1, c2⟩ | ⟨h0, c1, c2, c3⟩ | ⟨h0, c1, c2, c3⟩
            · skip
              have hf := hno (by rw [hbs, if_pos (.inl h0)])
              simp [evs, aeval, binS, cx_ti, cx_G, cx_pf, cx_tw, ti, globS, glob, ldcs_1, ldcs_2, ldcs_3, ldcs_4, ldcs_5, ldcs_7, sls.eq_1, slc.eq_1, pfL, q0, q5, ii, ss, hlt, hk', y0, hle, hnb, hdn, hw6, tb122, g141, g142x, g143x, pure1, deI, bv, ncells, hem, hlf, agree_up, hag, f1, f2, f3, fresh_up, hfr.add, hnn, hoB, htB, c1, h0, hbp hf]
            · skip
              subst c1
              have hf := hno (by rw [hbs, if_pos (.inl h0)])
              simp [evs, aeval, binS, cx_ti, cx_G, cx_pf, cx_tw, ti, globS, glob, ldcs_1, ldcs_2, ldcs_3, ldcs_4, ldcs_5, ldcs_7, sls.eq_1, slc.eq_1, pfL, q0, q5, ii, ss, hlt, hk', y0, hle, hnb, hdn, hw6, tb122, g141, g142x, g143x, pure1, deI, bv, ncells, hem, hlf, agree_up, hag, f1, f2, f3, fresh_up, hfr.add, hnn, hoB, htB, h0, c2, hbp hf]
            · skip
              subst c1
              have hf := hno (by rw [hbs, if_pos (.inl h0)])
              simp [evs, aeval, binS, cx_ti, cx_G, cx_pf, cx_tw, ti, globS, glob, ldcs_1, ldcs_2, ldcs_3, ldcs_4, ldcs_5, ldcs_7, sls.eq_1, slc.eq_1, pfL, q0, q5, ii, ss, hlt, hk', y0, hle, hnb, hdn, hw6, tb122, g141, g142x, g143x, pure1, deI, bv, ncells, hem, hlf, agree_up, hag, f1, f2, f3, fresh_up, hfr.add, hnn, hoB, htB, h0, c2, c3, hbp hf]
            · skip
              subst c1
              by_cases hj0 : j = 0
              · have hj1 : (j : Int) < 1 := by omega
                have hf := hno (by rw [hbs, if_pos (.inr (.inl (by omega)))])
                simp [evs, aeval, binS, cx_ti, cx_G, cx_pf, cx_tw, ti, globS, glob, ldcs_1, ldcs_2, ldcs_3, ldcs_4, ldcs_5, ldcs_7, sls.eq_1, slc.eq_1, pfL, q0, q5, ii, ss, hlt, hk', y0, hle, hnb, hdn, hw6, tb122, g141, g142x, g143x, pure1, deI, bv, ncells, hem, hlf, agree_up, hag, f1, f2, f3, fresh_up, hfr.add, hnn, hoB, htB, h0, c2, c3, hj1, hbp hf]
              rcases hown with ⟨hj9, hnil, q4⟩ | ⟨w, u, q4, hk3, hw1, hw2⟩
              · exact absurd hj9 hj0
              obtain ⟨e, he⟩ : ∃ e, j = e + 1 := ⟨j - 1, by omega⟩
              have he1 : IntKind.i64.wrap ((j : Int) - 1) = e := by rw [he]; exact wrapm1 (by unfold big; omega)
              have he2 : (j : Int) - 1 = e := by omega
              have he3 : ¬ (j : Int) < 1 := by omega
              have he4 : j - 1 = e := by omega
              have he5 : ¬ j < 1 := by omega
              rw [he2, he4] at hbs
              have z1 : ¬ w = n' := by omega
              have z2 : ¬ w = n' + 2 := by omega
              have z3 : n ≤ w := hw1
              have z4 : w < n' + 4 := by omega
              have hlt2 : e < j := by omega
              have hlt4 : e + 1 ≤ j := by omega
              obtain ⟨b, hb1, hb2⟩ := hlow e he.symm
              rw [hb1] at hbs
              have hce : (l.map ii)[e]? = some (ii b) := by rw [List.getElem?_map, ← hb1, List.getD_eq_getElem?_getD, List.getElem?_eq_getElem (show e < l.length by omega)]; rfl
              have hcl : (l.map ii).length = j := by rw [List.length_map, hll]
              by_cases hxb : xb = e
              · subst hxb
                by_cases hb0 : b = 0
                · have hf := hno (by rw [hbs, if_pos (.inr (.inr (.inr (.inl (by omega)))))])
                  have hb9 : (b : Int) < 1 := by omega
                  have hcm : (l ++ [(b : Int)]).map ii = l.map ii ++ [ii ((b : Int))] := by simp
                  simp only [ii] at hcl hk3 hce hcm
                  generalize hcs : l.map ii = cs at *
                  have hce' : ∀ hx, cs[e]'hx = .v (.int .i64 b) := fun hx => by rw [List.getElem?_eq_getElem hx] at hce; exact Option.some.inj hce
                  simp [evs, aeval, binS, cx_ti, cx_G, cx_pf, cx_tw, ti, globS, glob, ldcs_1, ldcs_2, ldcs_3, ldcs_4, ldcs_5, ldcs_7, sls.eq_1, slc.eq_1, pfL, q0, q5, ii, ss, hlt, hk', y0, hle, hnb, hdn, hw6, tb122, g141, g142x, g143x, pure1, deI, bv, ncells, hem, hlf, agree_up, hag, f1, f2, f3, fresh_up, hfr.add, hnn, q4, hoB, htB, h0, c2, c3, he1, he3, hk3, hcl, hce, hce', hlt2, hlt4, z1, hb9, hbp hf]
                obtain ⟨c, hc⟩ : ∃ c, b = c + 1 := ⟨b - 1, by omega⟩
                have hc1 : IntKind.i64.wrap ((b : Int) - 1) = c := by rw [hc]; exact wrapm1 (by unfold big; omega)
                have hc2 : (b : Int) - 1 = c := by omega
                have hc3 : ¬ (b : Int) < 1 := by omega
                rw [hc2] at hbs
                by_cases hxa : xa = c
                · subst hxa
                  rw [if_neg (by simp [h0, he5, hc3]), Int.toNat_natCast] at hbs
                  have hst := hsu.trans hbs
                  have hcc : (l.map ii)[c]? = some (ii (l.getD c 0)) := by rw [List.getElem?_map, List.getD_eq_getElem?_getD, List.getElem?_eq_getElem (show c < l.length by omega)]; rfl
                  generalize l.getD c 0 = d at *
                  have hcm : (l ++ [d]).map ii = l.map ii ++ [ii (d)] := by simp
                  simp only [ii] at hcl hk3 hce hcm
                  generalize hcs : l.map ii = cs at *
                  have hce' : ∀ hx, cs[e]'hx = .v (.int .i64 b) := fun hx => by rw [List.getElem?_eq_getElem hx] at hce; exact Option.some.inj hce
                  simp only [ii] at hcc
                  have hcc' : ∀ hx, cs[c]'hx = .v (.int .i64 d) := fun hx => by rw [List.getElem?_eq_getElem hx] at hcc; exact Option.some.inj hcc
                  have hlt3 : c < j := by omega
                  have hlt5 : c + 1 ≤ j := by omega
                  simp [evs, aeval, binS, cx_ti, cx_G, cx_pf, cx_tw, ti, globS, glob, ldcs_1, ldcs_2, ldcs_3, ldcs_4, ldcs_5, ldcs_7, sls.eq_1, slc.eq_1, pfL, q0, q5, ii, ss, hlt, hk', y0, hle, hnb, hdn, hw6, tb122, g141, g142x, g143x, pure1, deI, bv, ncells, hem, hlf, agree_up, hag, f1, f2, f3, fresh_up, hfr.add, hnn, q4, hoB, htB, h0, c2, c3, he1, he3, hk3, hcl, hce, hce', hlt2, hlt4, z1, hc1, hc3, hcc, hcc', hlt3, hlt5, hw, z2, z3, z4, hll, hb3, hb4]
                  exact ⟨⟨j + 1, by omega, _, hst, by omega, .inr ⟨w, u + 1, by simp, by rw [up_same]; simp only [ii, hcm], by omega, by omega⟩, by omega⟩, by omega⟩
                · have hf := hno (by rw [hbs, if_pos (.inr (.inr (.inr (.inr hxa))))])
                  have hcm : (l ++ [(b : Int)]).map ii = l.map ii ++ [ii ((b : Int))] := by simp
                  simp only [ii] at hcl hk3 hce hcm
                  generalize hcs : l.map ii = cs at *
                  have hce' : ∀ hx, cs[e]'hx = .v (.int .i64 b) := fun hx => by rw [List.getElem?_eq_getElem hx] at hce; exact Option.some.inj hce
                  simp [evs, aeval, binS, cx_ti, cx_G, cx_pf, cx_tw, ti, globS, glob, ldcs_1, ldcs_2, ldcs_3, ldcs_4, ldcs_5, ldcs_7, sls.eq_1, slc.eq_1, pfL, q0, q5, ii, ss, hlt, hk', y0, hle, hnb, hdn, hw6, tb122, g141, g142x, g143x, pure1, deI, bv, ncells, hem, hlf, agree_up, hag, f1, f2, f3, fresh_up, hfr.add, hnn, q4, hoB, htB, h0, c2, c3, he1, he3, hk3, hcl, hce, hce', hlt2, hlt4, z1, hc1, hc3, hxa, hbp hf]
              · have hf := hno (by rw [hbs, if_pos (.inr (.inr (.inl hxb)))])
                simp [evs, aeval, binS, cx_ti, cx_G, cx_pf, cx_tw, ti, globS, glob, ldcs_1, ldcs_2, ldcs_3, ldcs_4, ldcs_5, ldcs_7, sls.eq_1, slc.eq_1, pfL, q0, q5, ii, ss, hlt, hk', y0, hle, hnb, hdn, hw6, tb122, g141, g142x, g143x, pure1, deI, bv, ncells, hem, hlf, agree_up, hag, f1, f2, f3, fresh_up, hfr.add, hnn, q4, hoB, htB, h0, c2, c3, he1, he3, hxb, hbp hf]
          | false =>
            have hf := hno (bs_bad hlf hoB htB)
            rcases hcase with ⟨h0, c1⟩ | ⟨h0, c1, c2⟩ | ⟨h0, c1, c2, c3⟩ | ⟨h0, c1, c2, c3⟩
            · skip
              simp [evs, aeval, binS, cx_ti, cx_G, cx_pf, cx_tw, ti, globS, glob, ldcs_1, ldcs_2, ldcs_3, ldcs_4, ldcs_5, ldcs_7, sls.eq_1, slc.eq_1, pfL, q0, q5, ii, ss, hlt, hk', y0, hle, hnb, hdn, hw6, tb122, g141, g142x, g143x, pure1, deI, bv, ncells, hem, hlf, agree_up, hag, f1, f2, f3, fresh_up, hfr.add, hnn, hoB, htB, c1, h0, hbp hf]
            · skip
              subst c1
              simp [evs, aeval, binS, cx_ti, cx_G, cx_pf, cx_tw, ti, globS, glob, ldcs_1, ldcs_2, ldcs_3, ldcs_4, ldcs_5, ldcs_7, sls.eq_1, slc.eq_1, pfL, q0, q5, ii, ss, hlt, hk', y0, hle, hnb, hdn, hw6, tb122, g141, g142x, g143x, pure1, deI, bv, ncells, hem, hlf, agree_up, hag, f1, f2, f3, fresh_up, hfr.add, hnn, hoB, htB, h0, c2, hbp hf]
            · skip
              subst c1
              simp [evs, aeval, binS, cx_ti, cx_G, cx_pf, cx_tw, ti, globS, glob, ldcs_1, ldcs_2, ldcs_3, ldcs_4, ldcs_5, ldcs_7, sls.eq_1, slc.eq_1, pfL, q0, q5, ii, ss, hlt, hk', y0, hle, hnb, hdn, hw6, tb122, g141, g142x, g143x, pure1, deI, bv, ncells, hem, hlf, agree_up, hag, f1, f2, f3, fresh_up, hfr.add, hnn, hoB, htB, h0, c2, c3, hbp hf]
            · skip
              subst c1
              simp [evs, aeval, binS, cx_ti, cx_G, cx_pf, cx_tw, ti, globS, glob, ldcs_1, ldcs_2, ldcs_3, ldcs_4, ldcs_5, ldcs_7, sls.eq_1, slc.eq_1, pfL, q0, q5, ii, ss, hlt, hk', y0, hle, hnb, hdn, hw6, tb122, g141, g142x, g143x, pure1, deI, bv, ncells, hem, hlf, agree_up, hag, f1, f2, f3, fresh_up, hfr.add, hnn, hoB, htB, h0, c2, c3, hbp hf]
    · obtain rfl : j = t.length := by omega
      have hpo : ∀ y, Own h' n n' y t.length (l.map ii) 1 → begPost t n (.t [y, .v (.bool true)]) h' n' := fun y o => by simp only [begPost, hbt]; exact ⟨y, rfl, o⟩
      have q4s : (∀ g, AV.unc g (e' 4) = e' 4) ∧ (e' 4).one ∧ (e' 4).cells = [e' 4] := by
        rcases hown with ⟨h0, hnil, q4⟩ | ⟨w, u, q4, hk3, hw1, hw2⟩
        · rw [q4]; exact ⟨fun _ => rfl, rfl, rfl⟩
        · rw [q4]; exact ⟨fun _ => rfl, trivial, rfl⟩
      obtain ⟨q4a, q4b, q4c⟩ := q4s
      simp [evs, aeval, binS, cx_ti, cx_G, cx_pf, cx_tw, ti, globS, glob, ldcs_1, ldcs_2, ldcs_3, ldcs_4, ldcs_5, ldcs_7, sls.eq_1, slc.eq_1, pfL, q0, q5, ii, s1, s2, s3, q4a, q4b, q4c]
      exact ⟨hag, hfr, hnn, hpo _ hown⟩
  exact key _ rfl
end Go.Proofs.YtkfphaphiikloaaDoor
