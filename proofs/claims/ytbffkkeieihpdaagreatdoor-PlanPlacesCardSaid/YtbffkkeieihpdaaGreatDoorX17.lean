import Derived.Test.YtbffkkeieihpdaaGreatDoorX16
set_option linter.unusedSimpArgs false
set_option linter.unusedVariables false
set_option linter.constructorNameAsVariable false
set_option maxRecDepth 100000
set_option maxHeartbeats 4000000
namespace Go.Proofs.YtbffkkeieihpdaaGreatDoor
open Go Go.Eng
def deAt (h : Heap) : List AV → Option (List Ty × Int × ByteArray)
 | [x, .v (.int .i64 t), .v (.string v)] => (deSc h x).map fun l => (l, t, v)
 | _ => none
theorem deAt_out {h : Heap} {args : List AV} {q : List Ty × Int × ByteArray} (e : deAt h args = some q) : ∃ x, args = [x, ii q.2.1, ss q.2.2] ∧ deSc h x = some q.1 := by
 unfold deAt at e
 split at e
 ·simp only [Option.map_eq_some_iff] at e
  obtain ⟨t, h1, rfl⟩ := e
  exact ⟨_, rfl, h1⟩
 ·cases e
theorem deAt_mono (h h' : Heap) (args : List AV) (q : List Ty × Int × ByteArray) (hh : h.le h') (e : deAt h args = some q) : deAt h' args = some q := by
 obtain ⟨x, rfl, e1⟩ := deAt_out e
 simp only [deAt, ii, ss, deSc_sim hh.sim e1, Option.map_some]
def GAt := pureH deAt (fun q => smallS q.1) fun q => ii (attrOf q.1 q.2.1 q.2.2)
def tb121 : List (FuncId × (List AV → Heap → PRes)) := [(150, G140)]
theorem P121 : P0 [] 116 GAt := by
 refine mkH 3 (S := []) (l := tb121) (tb_cons P140 tb_nil) Tryz.func116 rfl (by kernel_rfl) deAt_mono (fun h l x e => by obtain ⟨a, rfl, _⟩ := deAt_out e; exact Nat.le_refl _) (fun a => rfl) (fun args q h n e hp hn => ?_)
 obtain ⟨x, rfl, e1⟩ := deAt_out e
 obtain ⟨a, rfl, e2⟩ := deSc_out e1
 obtain ⟨l, ty, v⟩ := q
 obtain ⟨hp1, hp2⟩ := hp
 simp only [] at e2 hp1 hp2 ⊢
 obtain ⟨s1, s2, s3, s4, s5⟩ := sl_is e2
 have hts : ByteArray.mk #[116, 115] = tsB := rfl
 by_cases h1 : ty < 0
 ·have hf : attrOf l ty v = -1 := by rw [attrOf, if_pos (.inl h1)]
  simp [evx, ii, ss, s1, s2, s4, h1, hf]
 obtain ⟨j, rfl⟩ : ∃ j : Nat, ty = j := ⟨ty.toNat, by omega⟩
 by_cases hlt : j < l.length
 ·rcases tys_at e2 with ⟨h0, _⟩ | ⟨id, off, k, rfl, hk, ho, hat⟩
  ·rw [h0] at hlt; simp at hlt
  obtain ⟨_, c, hc, hcr⟩ := hat j hlt
  have h2 : ¬ l.length ≤ j := by omega
  have hro := ro_at hk
  have h0 := ne_of hk hn 0
  simp only [Nat.add_zero] at h0
  have u3 := (sl_is hcr).2.2.1
  have gr : ∀ h', agree n (roH h) h' → rd dSs h' c = some l[j].attrs := rd_agree hn hcr
  have hw1 : off + (j * 2 + 2) ≤ k.cells.length := by omega
  have hsm := hp2 _ (List.getElem_mem hlt)
  have hlj : l[j]? = some l[j] := List.getElem?_eq_getElem hlt
  have hff : attrOf l j v = if (v == tsB) = true then -2 else if ixOf l[j].attrs v < 8 then ixOf l[j].attrs v else -1 := by
   rw [attrOf, if_neg (by omega)]
   simp only [Int.toNat_natCast, hlj]
  generalize l[j] = t at *
  cases hv : (v == tsB) with
  | true =>
   rw [hv, if_pos rfl] at hff
   simp [evx, ii, ss, h2, hts, hv, hff]
  | false =>
   rw [hv, if_neg (by simp)] at hff
   have hi0 : -1 ≤ ixOf t.attrs v := by unfold ixOf; split <;> omega
   obtain ⟨z, hzz⟩ : ∃ z, ixOf t.attrs v = z := ⟨_, rfl⟩
   rw [hzz] at hff hi0
   by_cases hz : 0 ≤ z
   ·by_cases hz8 : z < 8
    ·rw [if_pos hz8] at hff
     simp [evx, ii, ss, hlt, h2, hts, hv, hff, h0, hro, hc, hw1, tb121, G140, pureH, dePl, gr, agree_up, agree_refl, hsm, hzz, hz, hz8]
    ·rw [if_neg hz8] at hff
     simp [evx, ii, ss, hlt, h2, hts, hv, hff, h0, hro, hc, hw1, tb121, G140, pureH, dePl, gr, agree_up, agree_refl, hsm, hzz, hz, hz8]
   ·have : z = -1 := by omega
    subst this
    simp at hff
    simp [evx, ii, ss, hlt, h2, hts, hv, hff, h0, hro, hc, hw1, tb121, G140, pureH, dePl, gr, agree_up, agree_refl, hsm, hzz]
 ·have h2 : l.length ≤ j := by omega
  have hf : attrOf l j v = -1 := by rw [attrOf, if_pos (.inr (by omega))]
  simp [evx, ii, ss, s1, s2, s4, h2, hf]
end Go.Proofs.YtbffkkeieihpdaaGreatDoor

namespace Go.Proofs.YtbffkkeieihpdaaGreatDoor
open Go Go.Eng
def opA (o : List Int) (k : Int) : Int := if k = 1 then o.getD (o.length - 1) 0 else if k = 2 then o.getD (o.length - 2) 0 else -1
def opB (o : List Int) (k : Int) : Int := if k = 2 then o.getD (o.length - 1) 0 else -1
def treeStep (o : List Int) (x : Nd) (i : Nat) : Option (List Int) :=
 if arity x.op < 0 ∨ arity x.op > o.length ∨ fieldsB x = false then none
 else if x.a ≠ opA o (arity x.op) ∨ x.b ≠ opB o (arity x.op) then none
 else some (o.take (o.length - (arity x.op).toNat) ++ [(i : Int)])
def openTo (t : List Nd) : Nat → Option (List Int)
 | 0 => some []
 | j + 1 => (openTo t j).bind fun o => treeStep o (t.getD j nd0) j
def tree1 (t : List Nd) : Bool := match openTo t t.length with
 | some o => decide (o.length = 1)
 | none => false
theorem open_len {t : List Nd} : ∀ {j : Nat} {o : List Int}, openTo t j = some o → o.length ≤ j
 | 0, o, h => by simp [openTo] at h; subst h; simp
 | j + 1, o, h => by
  simp only [openTo, Option.bind_eq_some_iff] at h
  obtain ⟨p, h1, h2⟩ := h
  have := open_len h1
  unfold treeStep at h2
  split at h2
  ·cases h2
  ·split at h2
   ·cases h2
   ·cases h2
    simp; omega
theorem open_none {t : List Nd} {j : Nat} (h : openTo t j = none) : ∀ m, openTo t (j + m) = none
 | 0 => h
 | m + 1 => by
  show openTo t (j + m + 1) = none
  simp only [openTo, open_none h m, Option.bind_none]
theorem tree1_no {t : List Nd} {j : Nat} {o : List Int} (hj : j < t.length) (ho : openTo t j = some o) (hs : treeStep o (t.getD j nd0) j = none) : tree1 t = false := by
 have h1 : openTo t (j + 1) = none := by simp only [openTo, ho, Option.bind_some, hs]
 have := open_none h1 (t.length - (j + 1))
 rw [show j + 1 + (t.length - (j + 1)) = t.length by omega] at this
 simp only [tree1, this]
def G70 := pureH deT smallT fun t => bv (tree1 t)
def tb70 : List (FuncId × (List AV → Heap → PRes)) := [(139, g114), (140, g115)]
theorem arity_is (o : Int) : arity o = -1 ∨ arity o = 0 ∨ arity o = 1 ∨ arity o = 2 := by
 unfold arity; repeat' split
 all_goals simp
theorem P70 : P0 [3] 79 G70 := by
 refine mkH 1 (S := [3]) (l := tb70) (tb_cons p114 (tb_cons p115 tb_nil)) Tryz.func79 rfl (by kernel_rfl) deT_mono (fun h l x e => by obtain ⟨a, rfl, _⟩ := deT_out e; exact Nat.le_refl _) (fun a => rfl) (fun args t h n e hp hn => ?_)
 obtain ⟨a, rfl, e1⟩ := deT_out e
 obtain ⟨s1, s2, s3, s4, s5⟩ := sl_is e1
 have hp' : t.length * 64 ≤ 140737488355328 := hp
 have key : ∀ e : Nat → AV, e 0 = a → awp (cx [3] (pfL tb70)) (Tryz.f79.body.getD .skip) (finQ (cx [3] (pfL tb70)) Tryz.f79 fun z _ _ => z = bv (tree1 t)) ⟨e, roH h, n⟩ := fun e q0 => by
  simp [evx, Tryz.f79, q0, s1, s2]
  refine awp_loop (fun s => ∃ (j : Nat) (o : List Int), j ≤ t.length ∧ openTo t j = some o ∧ s.e 9 = a ∧ s.e 10 = ii t.length ∧ s.e 11 = ii j ∧ Own s.h n s.n (s.e 3) o.length (o.map ii) 1 ∧ agree n (roH h) s.h ∧ n ≤ s.n) (fun s => t.length - (s.e 11).i.toNat) ⟨0, [], by simp [up, ii, agree_refl, openTo, Own]⟩ ?_
  rintro e' h' n' ⟨j, o, hj, ho, q9, q10, q11, hown, hag, hnn⟩
  simp only [] at q9 q10 q11 hown hag hnn
  have hol := open_len ho
  by_cases hlt : j < t.length
  ·rcases ns_at e1 with ⟨h0, _⟩ | ⟨id, off, k, rfl, hk, ho', hat⟩
   ·rw [h0] at hlt; simp at hlt
   have hr := hat j hlt
   have ha' := agree_at hn hk hag
   have hle : ∀ (X : Ctx) (h' : Heap), h' id = some ⟨k.cells, k.ver, false, k.esz⟩ → ldcs X h' (.p id k.ver (off + j * 6)) 0 6 = ncells t[j] := fun X h' e => ldcs_nd e hr
   have hw6 : off + (j * 6 + 6) ≤ k.cells.length := by omega
   have hw := wrap_nat (j := j) (by unfold big; omega)
   have hg : t.getD j nd0 = t[j] := by rw [List.getD_eq_getElem?_getD, List.getElem?_eq_getElem hlt]; rfl
   have hno := tree1_no hlt ho
   have hsu : openTo t (j + 1) = treeStep o t[j] j := by simp only [openTo, ho, Option.bind_some, hg]
   rw [hg] at hno
   have hid : id < n := lt_of hk hn
   have z1 : ¬ id = n' := by omega
   have f0 : n ≤ n' := hnn
   generalize t[j] = x at *
   obtain ⟨op, num, var, attr, xa, xb⟩ := x
   have hnb : ∀ (X : Ctx) (h'' : Heap), h'' n' = some ⟨[.v (.int .i64 op), .v (.int .i64 num), .v (.string var), .v (.string attr), .v (.int .i64 xa), .v (.int .i64 xb)], 0, true, 6⟩ → ldcs X h'' (.p n' 0 0) 0 6 = [.v (.int .i64 op), .v (.int .i64 num), .v (.string var), .v (.string attr), .v (.int .i64 xa), .v (.int .i64 xb)] := fun X h'' e => by simp [ldcs, ldc, e]
   have hdn : deN (.g [.v (.int .i64 op), .v (.int .i64 num), .v (.string var), .v (.string attr), .v (.int .i64 xa), .v (.int .i64 xb)]) = some ⟨op, num, var, attr, xa, xb⟩ := rfl
   try simp only [] at hno hsu
   have hb3 : (j + 1) * 8 ≤ 140737488355328 := by omega
   have hol2 : (o.map ii).length = o.length := List.length_map ..
   have hw0 : IntKind.i64.wrap 0 = 0 := rfl
   have hwn : ∀ m : Nat, m < big → IntKind.i64.wrap (m : Int) = m := fun m hm => by
    cases m with
    | zero => rfl
    | succ m => exact wrap_nat (by omega)
   have hbg : o.length < big := by unfold big; omega
   rcases arity_is op with har | har | har | har
   ·have hf := hno (by simp [treeStep, har])
    simp [evx, q9, q10, q11, ii, ss, hlt, ha', hle, hw6, tb70, g114, g115, pure1, deI, har, hf, bv, ncells]
   ·have q3s : (∀ g, AV.unc g (e' 3) = e' 3) ∧ (e' 3).isS ∧ (e' 3).slen = o.length := by
     rcases hown with ⟨h0, hnil, q3⟩ | ⟨w, u, q3, hk3, hw1, hw2⟩
     ·rw [q3]; exact ⟨fun _ => rfl, ⟨rfl, rfl⟩, h0.symm⟩
     ·rw [q3]; exact ⟨fun _ => rfl, trivial, rfl⟩
    obtain ⟨q3a, q3b, q3c⟩ := q3s
    cases hfl : fieldsB ⟨op, num, var, attr, xa, xb⟩ with
    | false =>
     have hf := hno (by simp [treeStep, hfl])
     simp [evx, q9, q10, q11, ii, ss, hlt, ha', hle, hnb, hdn, hw6, tb70, g114, g115, pure1, deI, har, bv, ncells, q3a, q3b, q3c, hfl, hf]
    | true =>
     by_cases hx1 : xa = -1
     ·by_cases hx2 : xb = -1
      ·subst hx1; subst hx2
       have hst : treeStep o ⟨op, num, var, attr, -1, -1⟩ j = some (o ++ [(j : Int)]) := by simp [treeStep, har, hfl, opA, opB]
       rcases hown with ⟨h0, hnil, q3⟩ | ⟨w, u, q3, hk3, hw1, hw2⟩
       ·have ho0 : o = [] := List.length_eq_zero_iff.1 h0
        subst ho0
        have f1 : n ≤ n' + 2 := by omega
        have f2 : n ≤ n' + 3 := by omega
        simp [evx, q3, q9, q10, q11, ii, ss, hlt, ha', hle, hnb, hdn, hw6, tb70, g114, g115, pure1, deI, har, bv, ncells, hfl, hw0, hw, agree_up, hag, f0, f1, f2]
        exact ⟨⟨j + 1, by omega, _, by rw [hsu, hst], by omega, .inr ⟨n' + 3, 0, rfl, by rw [up_same]; rfl, by omega, by omega⟩, by omega⟩, by omega⟩
       ·have y1 : ¬ w = n' := by omega
        have y2 : ¬ w = n' + 2 := by omega
        have y3 : n ≤ w := hw1
        have f1 : n ≤ n' + 2 := by omega
        have hb4 : o.length ≤ 9223372036854775806 := by omega
        have hb5 : (o.length + 1) * 8 ≤ 140737488355328 := by omega
        simp [evx, q3, q9, q10, q11, ii, ss, hlt, ha', hle, hnb, hdn, hw6, tb70, g114, g115, pure1, deI, har, bv, ncells, hfl, hw, hwn _ hbg, hk3, y1, y2, y3, agree_up, hag, f0, f1, hb4, hb5]
        exact ⟨⟨j + 1, by omega, _, by rw [hsu, hst], by omega, .inr ⟨w, u + 1, by simp, by rw [up_same]; simp [ii], by omega, by omega⟩, by omega⟩, by omega⟩
      ·subst hx1
       have hf := hno (by simp [treeStep, opB, har, hx2])
       simp [evx, q9, q10, q11, ii, ss, hlt, ha', hle, hnb, hdn, hw6, tb70, g114, g115, pure1, deI, har, bv, ncells, q3a, q3b, q3c, hfl, hf, hx2]
     ·have hf := hno (by simp [treeStep, opA, har, hx1])
      simp [evx, q9, q10, q11, ii, ss, hlt, ha', hle, hnb, hdn, hw6, tb70, g114, g115, pure1, deI, har, bv, ncells, q3a, q3b, q3c, hfl, hf, hx1]
   ·by_cases hle1 : o.length < 1
    ·have ho0 : o = [] := List.length_eq_zero_iff.1 (by omega)
     subst ho0
     have hf := hno (by simp [treeStep, har])
     have q3s : (∀ g, AV.unc g (e' 3) = e' 3) ∧ (e' 3).isS ∧ (e' 3).slen = 0 := by
      rcases hown with ⟨h0, hnil, q3⟩ | ⟨w, u, q3, hk3, hw1, hw2⟩
      ·rw [q3]; exact ⟨fun _ => rfl, ⟨rfl, rfl⟩, rfl⟩
      ·rw [q3]; exact ⟨fun _ => rfl, trivial, rfl⟩
     obtain ⟨q3a, q3b, q3c⟩ := q3s
     simp [evx, q9, q10, q11, ii, ss, hlt, ha', hle, hw6, tb70, g114, g115, pure1, deI, har, hf, bv, ncells, q3a, q3b, q3c]
    obtain ⟨p, y, rfl⟩ : ∃ p y, o = p ++ [y] := ⟨o.dropLast, o.getLast (by intro h; subst h; simp at hle1), (List.dropLast_concat_getLast _).symm⟩
    have hln : (p ++ [y]).length = p.length + 1 := by simp
    have hz1 : (1 : Int) ≤ (p.length : Int) + 1 := by omega
    have hz2 : (p.length : Int) < (p.length : Int) + 1 := by omega
    have hz4 : (p.length : Int) ≤ (p.length : Int) + 1 := by omega
    have hgt : ¬ (p.length : Int) + 1 < 1 := by omega
    rcases hown with ⟨h0, hnil, q3⟩ | ⟨w, u, q3, hk3, hw1, hw2⟩
    ·rw [hln] at h0; omega
    have y1 : ¬ w = n' := by omega
    have y2 : ¬ w = n' + 2 := by omega
    have y3 : n ≤ w := hw1
    have f1 : n ≤ n' + 2 := by omega
    have hpb : p.length < big := by omega
    have hb4 : p.length ≤ 9223372036854775806 := by omega
    have hb5 : (p.length + 1) * 8 ≤ 140737488355328 := by omega
    have hmap : (p ++ [y]).map ii = p.map ii ++ [ii y] := by simp
    have hpl : (p.map ii).length = p.length := List.length_map ..
    have hoA : opA (p ++ [y]) 1 = y := by simp [opA]
    have hoB : opB (p ++ [y]) 1 = -1 := by simp [opB]
    rw [hln] at q3
    rw [hmap] at hk3
    have hcut : cut p.length (p.map ii ++ [ii y]) = p.map ii := by rw [cut_take, List.take_append_of_le_length (by omega), List.take_of_length_le (by omega)]
    simp only [ii] at hcut
    generalize hcp : p.map ii = cp at *
    cases hfl : fieldsB ⟨op, num, var, attr, xa, xb⟩ with
    | false =>
     have hf := hno (by simp [treeStep, hfl])
     simp [evx, q3, q9, q10, q11, ii, ss, hlt, ha', hle, hnb, hdn, hw6, tb70, g114, g115, pure1, deI, har, bv, ncells, hfl, hf, hgt]
    | true =>
     by_cases hx1 : xa = y
     ·by_cases hx2 : xb = -1
      ·subst hx1; subst hx2
       have hst : treeStep (p ++ [xa]) ⟨op, num, var, attr, xa, -1⟩ j = some (p ++ [(j : Int)]) := by simp [treeStep, har, hfl, hoA, hoB]; omega
       simp [evx, q3, q9, q10, q11, ii, ss, hlt, ha', hle, hnb, hdn, hw6, tb70, g114, g115, pure1, deI, har, bv, ncells, hfl, hw, hwn _ hpb, hk3, hpl, y1, y2, y3, agree_up, hag, f0, f1, hb4, hb5, hcut, hz2, hz4, hgt]
       exact ⟨⟨j + 1, by omega, _, by rw [hsu, hst], by omega, .inr ⟨w, u + 1, by simp, by rw [up_same, ← hcp]; simp [ii], by omega, by omega⟩, by omega⟩, by omega⟩
      ·subst hx1
       have hf := hno (by simp [treeStep, har, hoA, hoB, hx2])
       simp [evx, q3, q9, q10, q11, ii, ss, hlt, ha', hle, hnb, hdn, hw6, tb70, g114, g115, pure1, deI, har, bv, ncells, hfl, hf, hx2, hwn _ hpb, hk3, hpl, y1, hz2, hgt]
     ·have hf := hno (by simp [treeStep, har, hoA, hx1])
      simp [evx, q3, q9, q10, q11, ii, ss, hlt, ha', hle, hnb, hdn, hw6, tb70, g114, g115, pure1, deI, har, bv, ncells, hfl, hf, hx1, hwn _ hpb, hk3, hpl, y1, hz2, hgt]
   ·by_cases hle1 : o.length < 2
    ·have hf := hno (by simp [treeStep, har]; omega)
     have q3s : (∀ g, AV.unc g (e' 3) = e' 3) ∧ (e' 3).isS ∧ (e' 3).slen = o.length := by
      rcases hown with ⟨h0, hnil, q3⟩ | ⟨w, u, q3, hk3, hw1, hw2⟩
      ·rw [q3]; exact ⟨fun _ => rfl, ⟨rfl, rfl⟩, h0.symm⟩
      ·rw [q3]; exact ⟨fun _ => rfl, trivial, rfl⟩
     obtain ⟨q3a, q3b, q3c⟩ := q3s
     have hle2 : (o.length : Int) < 2 := by omega
     simp [evx, q9, q10, q11, ii, ss, hlt, ha', hle, hw6, tb70, g114, g115, pure1, deI, har, hf, bv, ncells, q3a, q3b, q3c, hle2]
    obtain ⟨p, y, z, rfl⟩ : ∃ p y z, o = p ++ [y, z] := by
     obtain ⟨p1, z, rfl⟩ : ∃ p y, o = p ++ [y] := ⟨o.dropLast, o.getLast (by intro h; subst h; simp at hle1), (List.dropLast_concat_getLast _).symm⟩
     obtain ⟨p, y, rfl⟩ : ∃ p y, p1 = p ++ [y] := ⟨p1.dropLast, p1.getLast (by intro h; subst h; simp at hle1), (List.dropLast_concat_getLast _).symm⟩
     exact ⟨p, y, z, by simp⟩
    have hln : (p ++ [y, z]).length = p.length + 2 := by simp
    have hwq : IntKind.i64.wrap ((p.length : Int) + 2 - 1) = p.length + 1 := by
     have := hwn (p.length + 1) (by omega)
     rw [show ((p.length : Int) + 2 - 1) = ((p.length + 1 : Nat) : Int) by omega, this]; omega
    have hz1 : (2 : Int) ≤ (p.length : Int) + 2 := by omega
    have hz2 : (p.length : Int) < (p.length : Int) + 2 := by omega
    have hz4 : (p.length : Int) ≤ (p.length : Int) + 2 := by omega
    have hz3 : (0 : Int) ≤ (p.length : Int) + 1 := by omega
    have hgt : ¬ (p.length : Int) + 2 < 2 := by omega
    rcases hown with ⟨h0, hnil, q3⟩ | ⟨w, u, q3, hk3, hw1, hw2⟩
    ·rw [hln] at h0; omega
    have y1 : ¬ w = n' := by omega
    have y2 : ¬ w = n' + 2 := by omega
    have y3 : n ≤ w := hw1
    have f1 : n ≤ n' + 2 := by omega
    have hpb : p.length < big := by omega
    have hb4 : p.length ≤ 9223372036854775806 := by omega
    have hb5 : (p.length + 1) * 8 ≤ 140737488355328 := by omega
    have hmap : (p ++ [y, z]).map ii = p.map ii ++ [ii y, ii z] := by simp
    have hpl : (p.map ii).length = p.length := List.length_map ..
    have hoA : opA (p ++ [y, z]) 2 = y := by simp [opA]
    have hoB : opB (p ++ [y, z]) 2 = z := by simp [opB]
    rw [hln] at q3
    rw [hmap] at hk3
    have hcut : cut p.length (p.map ii ++ [ii y, ii z]) = p.map ii := by rw [cut_take, List.take_append_of_le_length (by omega), List.take_of_length_le (by omega)]
    simp only [ii] at hcut
    generalize hcp : p.map ii = cp at *
    cases hfl : fieldsB ⟨op, num, var, attr, xa, xb⟩ with
    | false =>
     have hf := hno (by simp [treeStep, hfl])
     simp [evx, q3, q9, q10, q11, ii, ss, hlt, ha', hle, hnb, hdn, hw6, tb70, g114, g115, pure1, deI, har, bv, ncells, hfl, hf, hgt]
    | true =>
     by_cases hx1 : xa = y
     ·by_cases hx2 : xb = z
      ·subst hx1; subst hx2
       have hst : treeStep (p ++ [xa, xb]) ⟨op, num, var, attr, xa, xb⟩ j = some (p ++ [(j : Int)]) := by simp [treeStep, har, hfl, hoA, hoB]; omega
       simp [evx, q3, q9, q10, q11, ii, ss, hlt, ha', hle, hnb, hdn, hw6, tb70, g114, g115, pure1, deI, har, bv, ncells, hfl, hw, hwn _ hpb, hk3, hpl, y1, y2, y3, agree_up, hag, f0, f1, hb4, hb5, hcut, hwq, hgt, hz2, hz3, hz4]
       exact ⟨⟨j + 1, by omega, _, by rw [hsu, hst], by omega, .inr ⟨w, u + 1, by simp, by rw [up_same, ← hcp]; simp [ii], by omega, by omega⟩, by omega⟩, by omega⟩
      ·subst hx1
       have hf := hno (by simp [treeStep, har, hoA, hoB, hx2])
       simp [evx, q3, q9, q10, q11, ii, ss, hlt, ha', hle, hnb, hdn, hw6, tb70, g114, g115, pure1, deI, har, bv, ncells, hfl, hf, hx2, hwn _ hpb, hk3, hpl, y1, hwq, hgt, hz2, hz3]
     ·have hf := hno (by simp [treeStep, har, hoA, hx1])
      simp [evx, q3, q9, q10, q11, ii, ss, hlt, ha', hle, hnb, hdn, hw6, tb70, g114, g115, pure1, deI, har, bv, ncells, hfl, hf, hx1, hwn _ hpb, hk3, hpl, y1, hwq, hgt, hz2, hz3]
  ·obtain rfl : j = t.length := by omega
   have hf : tree1 t = decide (o.length = 1) := by simp only [tree1, ho]
   rcases hown with ⟨h0, hnil, q3⟩ | ⟨w, u, q3, hk3, hw1, hw2⟩
   ·rw [h0] at hf
    simp [evx, q3, q10, q11, ii, hf, bv]
   ·have hdd : ((o.length : Int) == 1) = decide (o.length = 1) := by rw [Bool.eq_iff_iff]; simp; omega
    simp [evx, q3, q10, q11, ii, hf, bv, hdd]
 exact key _ rfl
end Go.Proofs.YtbffkkeieihpdaaGreatDoor

namespace Go.Proofs.YtbffkkeieihpdaaGreatDoor
open Go Go.Eng
def beginStep (l : List Int) (x : Nd) (i : Nat) : Option (List Int) :=
 if leafB x = true then some (l ++ [(i : Int)])
 else if x.op = 12 ∨ x.op = 13 then
  if bareB x = false ∨ i < 1 ∨ x.a ≠ (i : Int) - 1 ∨ x.b ≠ -1 then none else some (l ++ [l.getD (i - 1) 0])
 else if 14 ≤ x.op ∧ x.op ≤ 26 then
  if bareB x = false ∨ i < 1 ∨ x.b ≠ (i : Int) - 1 ∨ l.getD (i - 1) 0 < 1 ∨ x.a ≠ l.getD (i - 1) 0 - 1 then none else some (l ++ [l.getD x.a.toNat 0])
 else none
def beginTo (t : List Nd) : Nat → Option (List Int)
 | 0 => some []
 | j + 1 => (beginTo t j).bind fun l => beginStep l (t.getD j nd0) j
def tree2 (t : List Nd) : Bool := match beginTo t t.length with
 | some l => decide (0 < t.length) && decide (l.getD (t.length - 1) 0 = 0)
 | none => false
inductive StR (l : List Int) : Nat → List Int → Prop
 | nil : StR l 0 []
 | cons {e b : Nat} {o : List Int} : l[e]? = some (b : Int) → b ≤ e → StR l b o → StR l (e + 1) (o ++ [(e : Int)])
theorem StR.grow {l : List Int} {e : Nat} {o : List Int} (h : StR l e o) (m : List Int) : StR (l ++ m) e o := by
 induction h with
 | nil => exact .nil
 | cons h1 h2 _ ih => exact .cons (by rw [List.getElem?_append_left (by rw [List.getElem?_eq_some_iff] at h1; exact h1.1)]; exact h1) h2 ih
theorem StR.zero {l o : List Int} (h : StR l 0 o) : o = [] := by
 generalize he : 0 = e at h
 cases h with
 | nil => rfl
 | cons => omega
theorem StR.succ {l o : List Int} {e : Nat} (h : StR l (e + 1) o) : ∃ (b : Nat) (p : List Int), o = p ++ [(e : Int)] ∧ l[e]? = some (b : Int) ∧ b ≤ e ∧ StR l b p := by
 generalize he : e + 1 = e' at h
 cases h with
 | nil => omega
 | cons h1 h2 h3 =>
  obtain rfl := Nat.succ.inj he
  exact ⟨_, _, rfl, h1, h2, h3⟩
theorem leaf_fields (x : Nd) : leafB x = (decide (arity x.op = 0) && fieldsB x && decide (x.a = -1) && decide (x.b = -1)) := by
 obtain ⟨op, n, var, attr, a, b⟩ := x
 by_cases h1 : op = 1
 ·subst h1
  simp [leafB, fieldsB, arity, emB]
  grind
 by_cases h2 : op = 2
 ·subst h2
  simp [leafB, fieldsB, arity, emB, bareB]
  grind
 by_cases h3 : op = 3
 ·subst h3
  simp [leafB, fieldsB, arity, emB, bareB]
  grind
 by_cases h5 : op = 5
 ·subst h5
  simp [leafB, fieldsB, arity, emB]
  grind
 by_cases h4 : 4 ≤ op ∧ op ≤ 11
 ·have h6 : 1 ≤ op ∧ op ≤ 11 := by omega
  simp [leafB, fieldsB, arity, h1, h2, h3, h4, h5, h6]
  grind
 ·have h6 : ¬ (1 ≤ op ∧ op ≤ 11) := by omega
  simp only [leafB, fieldsB, arity, h1, h2, h3, h4, h5, h6]
  simp
  split <;> (try split) <;> simp
theorem bare_fields (x : Nd) (h : 12 ≤ x.op) : fieldsB x = bareB x := by
 obtain ⟨op, n, var, attr, a, b⟩ := x
 simp only [] at h
 have h1 : ¬ op = 1 := by omega
 have h2 : ¬ op ≤ 11 := by omega
 simp [fieldsB, bareB, h1, h2]
theorem step_same {l o : List Int} {j : Nat} (x : Nd) (hl : l.length = j) (hs : StR l j o) : (treeStep o x j = none ∧ beginStep l x j = none) ∨ ∃ o' l', treeStep o x j = some o' ∧ beginStep l x j = some l' ∧ l'.length = j + 1 ∧ StR l' (j + 1) o' := by
 have hlf := leaf_fields x
 have hbf := bare_fields x
 have hlast : ∀ z : Int, (l ++ [z])[j]? = some z := fun z => by rw [List.getElem?_append_right (by omega), hl, Nat.sub_self]; rfl
 rcases arity_is x.op with har | har | har | har
 ·have h1 : ¬ (x.op = 12 ∨ x.op = 13) := fun h => by unfold arity at har; grind
  have h2 : ¬ (14 ≤ x.op ∧ x.op ≤ 26) := fun h => by unfold arity at har; grind
  refine .inl ⟨by simp [treeStep, har], ?_⟩
  rw [har] at hlf
  simp only [beginStep, hlf, h1, h2, if_false]
  simp
 ·have h1 : ¬ (x.op = 12 ∨ x.op = 13) := fun h => by unfold arity at har; grind
  have h2 : ¬ (14 ≤ x.op ∧ x.op ≤ 26) := fun h => by unfold arity at har; grind
  have hA : opA o 0 = -1 := by simp [opA]
  have hB : opB o 0 = -1 := by simp [opB]
  rw [har] at hlf
  simp only [decide_true, Bool.true_and] at hlf
  by_cases hf : leafB x = true
  ·rw [hf] at hlf
   have hlf' := hlf.symm
   simp only [Bool.and_eq_true, decide_eq_true_eq] at hlf'
   obtain ⟨⟨f1, f2⟩, f3⟩ := hlf'
   refine .inr ⟨o ++ [(j : Int)], l ++ [(j : Int)], ?_, by simp only [beginStep, hf, if_true], by simp [hl], .cons (hlast _) (Nat.le_refl _) (hs.grow _)⟩
   have h3 : ¬ ((0 : Int) > o.length) := by omega
   simp [treeStep, har, f1, f2, f3, hA, hB, h3]
  ·have hf' : leafB x = false := by simpa using hf
   refine .inl ⟨?_, by simp [beginStep, hf', h1, h2]⟩
   rw [hf'] at hlf
   have hlf' := hlf.symm
   simp only [Bool.and_eq_false_iff, decide_eq_false_iff_not] at hlf'
   simp only [treeStep, har, hA, hB]
   grind
 ·have h1 : x.op = 12 ∨ x.op = 13 := by unfold arity at har; grind
  have hnl : leafB x = false := by rw [hlf, har]; simp
  have hb := hbf (by omega)
  cases j with
  | zero =>
   have := hs.zero
   subst this
   exact .inl ⟨by simp [treeStep, har], by simp [beginStep, hnl, h1]⟩
  | succ e =>
   obtain ⟨b, p, rfl, hb1, hb2, hb3⟩ := hs.succ
   have hA : opA (p ++ [(e : Int)]) 1 = e := by simp [opA]
   have hB : opB (p ++ [(e : Int)]) 1 = -1 := by simp [opB]
   have hg : l.getD e 0 = b := by rw [List.getD_eq_getElem?_getD, hb1]; rfl
   have h3 : ¬ ((1 : Int) > ((p ++ [(e : Int)]).length : Nat)) := by simp; omega
   have h4 : ((e + 1 : Nat) : Int) - 1 = e := by omega
   have h5 : ¬ e + 1 < 1 := by omega
   by_cases hok : bareB x = true ∧ x.a = e ∧ x.b = -1
   ·obtain ⟨k1, k2, k3⟩ := hok
    refine .inr ⟨p ++ [((e + 1 : Nat) : Int)], l ++ [(b : Int)], ?_, ?_, by simp [hl], .cons (hlast _) (by omega) (hb3.grow _)⟩
    ·simp [treeStep, har, hb, k1, k2, k3, hA, hB]
     omega
    ·simp only [beginStep, hnl, h1, if_true, k1, k2, k3, h4, h5, Nat.add_sub_cancel, hg]
     simp
   ·refine .inl ⟨?_, ?_⟩
    ·simp only [treeStep, har, hb, hA, hB, h3]
     cases hbb : bareB x <;> grind
    ·simp only [beginStep, hnl, h1, if_true, h4, h5]
     cases hbb : bareB x <;> grind
 ·have h1 : 14 ≤ x.op ∧ x.op ≤ 26 := by unfold arity at har; grind
  have h0 : ¬ (x.op = 12 ∨ x.op = 13) := by omega
  have hnl : leafB x = false := by rw [hlf, har]; simp
  have hb := hbf (by omega)
  cases j with
  | zero =>
   have := hs.zero
   subst this
   exact .inl ⟨by simp [treeStep, har], by simp [beginStep, hnl, h0, h1]⟩
  | succ e =>
   obtain ⟨b, p, rfl, hb1, hb2, hb3⟩ := hs.succ
   have hg : l.getD e 0 = b := by rw [List.getD_eq_getElem?_getD, hb1]; rfl
   have h4 : ((e + 1 : Nat) : Int) - 1 = e := by omega
   have h5 : ¬ e + 1 < 1 := by omega
   cases b with
   | zero =>
    have := hb3.zero
    subst this
    exact .inl ⟨by simp [treeStep, har], by simp only [beginStep, hnl, h0, h1, Nat.add_sub_cancel, hg]; simp⟩
   | succ c =>
    obtain ⟨d, q, rfl, hd1, hd2, hd3⟩ := hb3.succ
    have hA : opA (q ++ [(c : Int)] ++ [(e : Int)]) 2 = c := by simp [opA]
    have hB : opB (q ++ [(c : Int)] ++ [(e : Int)]) 2 = e := by simp [opB]
    have hgd : l.getD c 0 = d := by rw [List.getD_eq_getElem?_getD, hd1]; rfl
    have h3 : ¬ ((2 : Int) > ((q ++ [(c : Int)] ++ [(e : Int)]).length : Nat)) := by simp; omega
    have h6 : ((c + 1 : Nat) : Int) - 1 = c := by omega
    have h7 : ¬ ((c + 1 : Nat) : Int) < 1 := by omega
    by_cases hok : bareB x = true ∧ x.a = c ∧ x.b = e
    ·obtain ⟨k1, k2, k3⟩ := hok
     refine .inr ⟨q ++ [((e + 1 : Nat) : Int)], l ++ [(d : Int)], ?_, ?_, by simp [hl], .cons (hlast _) (by omega) (hd3.grow _)⟩
     ·have hA' : opA (q ++ [(c : Int), (e : Int)]) 2 = c := by simp [opA]
      have hB' : opB (q ++ [(c : Int), (e : Int)]) 2 = e := by simp [opB]
      simp [treeStep, har, hb, k1, k2, k3, hA', hB']
      omega
     ·simp only [beginStep, hnl, h0, h1, k1, k2, k3, h4, h5, h6, h7, Nat.add_sub_cancel, hg, Int.toNat_natCast, hgd]
      simp
    ·refine .inl ⟨?_, ?_⟩
     ·simp only [treeStep, har, hb, hA, hB, h3]
      cases hbb : bareB x <;> grind
     ·simp only [beginStep, hnl, h0, h1, h4, h5, Nat.add_sub_cancel, hg, h6, h7]
      cases hbb : bareB x <;> grind
theorem to_same (t : List Nd) : ∀ j, (openTo t j = none ∧ beginTo t j = none) ∨ ∃ o l, openTo t j = some o ∧ beginTo t j = some l ∧ l.length = j ∧ StR l j o
 | 0 => .inr ⟨[], [], rfl, rfl, rfl, .nil⟩
 | j + 1 => by
  rcases to_same t j with ⟨h1, h2⟩ | ⟨o, l, h1, h2, h3, h4⟩
  ·exact .inl ⟨by simp only [openTo, h1, Option.bind_none], by simp only [beginTo, h2, Option.bind_none]⟩
  ·rcases step_same (t.getD j nd0) h3 h4 with ⟨k1, k2⟩ | ⟨o', l', k1, k2, k3, k4⟩
   ·exact .inl ⟨by simp only [openTo, h1, Option.bind_some, k1], by simp only [beginTo, h2, Option.bind_some, k2]⟩
   ·exact .inr ⟨o', l', by simp only [openTo, h1, Option.bind_some, k1], by simp only [beginTo, h2, Option.bind_some, k2], k3, k4⟩
theorem tree_same (t : List Nd) : tree2 t = tree1 t := by
 unfold tree1 tree2
 rcases to_same t t.length with ⟨h1, h2⟩ | ⟨o, l, h1, h2, h3, h4⟩
 ·rw [h1, h2]
 ·rw [h1, h2]
  simp only []
  generalize t.length = e at *
  cases e with
  | zero => rw [h4.zero]; simp
  | succ e =>
   obtain ⟨b, p, rfl, hb1, hb2, hb3⟩ := h4.succ
   have hg : l.getD e 0 = b := by rw [List.getD_eq_getElem?_getD, hb1]; rfl
   rw [Nat.add_sub_cancel, hg]
   cases b with
   | zero => rw [hb3.zero]; simp
   | succ c =>
    obtain ⟨d, q, rfl, hd1, hd2, hd3⟩ := hb3.succ
    simp
    omega
structure KidOk (x : Nd) (i : Nat) : Prop where
 ar : 0 ≤ arity x.op
 fl : fieldsB x = true
 a1 : 1 ≤ arity x.op → 0 ≤ x.a ∧ x.a < i
 b2 : arity x.op = 2 → 0 ≤ x.b ∧ x.b < i
 b1 : arity x.op ≤ 1 → x.b = -1
 a0 : arity x.op = 0 → x.a = -1
theorem kid_step {o : List Int} {x : Nd} {i : Nat} {o' : List Int} (ho : ∀ y ∈ o, 0 ≤ y ∧ y < (i : Int)) (h : treeStep o x i = some o') : KidOk x i ∧ ∀ y ∈ o', 0 ≤ y ∧ y < ((i + 1 : Nat) : Int) := by
 have hm : ∀ k, k < o.length → 0 ≤ o.getD k 0 ∧ o.getD k 0 < (i : Int) := fun k hk => by
  rw [List.getD_eq_getElem?_getD, List.getElem?_eq_getElem hk]
  exact ho _ (List.getElem_mem hk)
 unfold treeStep at h
 split at h
 ·cases h
 rename_i h1
 split at h
 ·cases h
 rename_i h2
 cases h
 simp only [not_or, Decidable.not_not] at h1 h2
 obtain ⟨h1a, h1b, h1c⟩ := h1
 obtain ⟨h2a, h2b⟩ := h2
 refine ⟨⟨by omega, by simpa using h1c, fun h => ?_, fun h => ?_, fun h => ?_, fun h => ?_⟩, fun y hy => ?_⟩
 ·rcases arity_is x.op with har | har | har | har
  ·omega
  ·omega
  ·rw [h2a, har]
   simp only [opA, if_true]
   exact hm _ (by omega)
  ·rw [h2a, har]
   simp only [opA]
   exact hm _ (by omega)
 ·rw [h2b, h]
  simp only [opB, if_true]
  exact hm _ (by omega)
 ·rw [h2b, opB, if_neg (by omega)]
 ·rw [h2a, opA, if_neg (by omega), if_neg (by omega)]
 ·rw [List.mem_append] at hy
  rcases hy with hy | hy
  ·have := ho y (List.mem_of_mem_take hy); omega
  ·simp at hy; omega
theorem kids_to {t : List Nd} : ∀ {j : Nat} {o : List Int}, j ≤ t.length → openTo t j = some o → (∀ y ∈ o, 0 ≤ y ∧ y < (j : Int)) ∧ ∀ i (hi : i < t.length), i < j → KidOk t[i] i
 | 0, o, _, h => by simp [openTo] at h; subst h; exact ⟨by simp, fun i _ hi => by omega⟩
 | j + 1, o, hj, h => by
  simp only [openTo, Option.bind_eq_some_iff] at h
  obtain ⟨p, h1, h2⟩ := h
  obtain ⟨i1, i2⟩ := kids_to (by omega) h1
  obtain ⟨k1, k2⟩ := kid_step i1 h2
  refine ⟨k2, fun i hi hij => ?_⟩
  by_cases e : i = j
  ·subst e
   rw [List.getD_eq_getElem?_getD, List.getElem?_eq_getElem hi] at k1
   exact k1
  ·exact i2 i hi (by omega)
theorem tree_kids {t : List Nd} (h : tree1 t = true) (i : Nat) (hi : i < t.length) : KidOk t[i] i := by
 unfold tree1 at h
 split at h
 ·rename_i o ho
  exact (kids_to (Nat.le_refl _) ho).2 i hi hi
 ·cases h
end Go.Proofs.YtbffkkeieihpdaaGreatDoor

namespace Go.Proofs.YtbffkkeieihpdaaGreatDoor
open Go Go.Eng
def colOf (sc : List Ty) (name : ByteArray) : List Int := (List.range sc.length).map fun (i : Nat) => attrOf sc (i : Int) name
theorem colOf_len (sc : List Ty) (name : ByteArray) : (colOf sc name).length = sc.length := by simp [colOf]
section
variable {sc : List Ty} {its : List Int} {en : En} {t : List Nd}
end
def wantsT (o : Int) : Bool := decide (o = 13 ∨ o = 25 ∨ o = 26)
def nodeOk (vs : List ByteArray) (t : List Nd) (x : Nd) : Bool :=
 if x.op < 4 then true
 else if x.op ≤ 11 then decide (0 ≤ ixOf vs x.var)
 else (truthO (t.getD x.a.toNat nd0).op == wantsT x.op) && (decide (x.b < 0) || (truthO (t.getD x.b.toNat nd0).op == wantsT x.op))
def okTo (vs : List ByteArray) (t : List Nd) (j : Nat) : Bool := (t.take j).all (nodeOk vs t)
def runT (vs : List ByteArray) (t : List Nd) : Bool := tree1 t && okTo vs t t.length
theorem okTo_succ {vs : List ByteArray} {t : List Nd} {j : Nat} (hj : j < t.length) : okTo vs t (j + 1) = (okTo vs t j && nodeOk vs t t[j]) := by
 unfold okTo
 rw [List.take_add_one, List.getElem?_eq_getElem hj, List.all_append, Option.toList_some]
 simp
theorem okTo_no {vs : List ByteArray} {t : List Nd} {j : Nat} (hj : j < t.length) (h : nodeOk vs t t[j] = false) : okTo vs t t.length = false := by
 unfold okTo
 rw [List.take_length, List.all_eq_false]
 exact ⟨t[j], List.getElem_mem hj, by rw [h]; simp⟩
def itemV (vs : List ByteArray) (x : Nd) : Int := if 4 ≤ x.op ∧ x.op ≤ 11 then ixOf vs x.var else 0
end Go.Proofs.YtbffkkeieihpdaaGreatDoor

namespace Go.Proofs.YtbffkkeieihpdaaGreatDoor
open Go Go.Eng
def KindAt (t : List Nd) (lo : Nat → Nat) (x : Nd) (i : Nat) : Prop :=
 (1 ≤ x.op ∧ x.op ≤ 11 ∧ x.a = -1 ∧ x.b = -1 ∧ lo i = i) ∨ ((x.op = 12 ∨ x.op = 13) ∧ 1 ≤ i ∧ x.a = ((i - 1 : Nat) : Int) ∧ x.b = -1 ∧ lo i = lo (i - 1)) ∨
 (14 ≤ x.op ∧ x.op ≤ 26 ∧ 1 ≤ i ∧ x.b = ((i - 1 : Nat) : Int) ∧ ∃ a : Nat, x.a = (a : Int) ∧ lo (i - 1) = a + 1 ∧ lo i = lo a)
structure Tre (t : List Nd) (lo : Nat → Nat) : Prop where
 pos : 0 < t.length
 root : lo (t.length - 1) = 0
 le : ∀ i, i < t.length → lo i ≤ i
 kind : ∀ i (hi : i < t.length), KindAt t lo t[i] i
def kindL (l : List Int) (x : Nd) (i : Nat) : Prop := 0 ≤ l.getD i 0 ∧ l.getD i 0 ≤ i ∧
 ((1 ≤ x.op ∧ x.op ≤ 11 ∧ x.a = -1 ∧ x.b = -1 ∧ l.getD i 0 = i) ∨ ((x.op = 12 ∨ x.op = 13) ∧ 1 ≤ i ∧ x.a = (i : Int) - 1 ∧ x.b = -1 ∧ l.getD i 0 = l.getD (i - 1) 0) ∨
 (14 ≤ x.op ∧ x.op ≤ 26 ∧ 1 ≤ i ∧ x.b = (i : Int) - 1 ∧ 1 ≤ l.getD (i - 1) 0 ∧ x.a = l.getD (i - 1) 0 - 1 ∧ l.getD i 0 = l.getD x.a.toNat 0))
theorem getD_app {l m : List Int} {i : Nat} (h : i < l.length) : (l ++ m).getD i 0 = l.getD i 0 := by
 simp only [List.getD_eq_getElem?_getD, List.getElem?_append_left h]
theorem getD_last {l : List Int} {z : Int} {i : Nat} (h : i = l.length) : (l ++ [z]).getD i 0 = z := by
 subst h
 simp only [List.getD_eq_getElem?_getD, List.getElem?_append_right (Nat.le_refl _), Nat.sub_self]
 rfl
theorem kind_step {l l' : List Int} {x : Nd} {j : Nat} (hl : l.length = j) (hb : ∀ i, i < j → 0 ≤ l.getD i 0 ∧ l.getD i 0 ≤ i) (h : beginStep l x j = some l') : kindL l' x j ∧ l'.length = j + 1 ∧ ∃ z, l' = l ++ [z] := by
 have hlf := leaf_fields x
 unfold beginStep at h
 split at h
 ·rename_i h1
  cases h
  rw [h1] at hlf
  have hlf' := hlf.symm
  simp only [Bool.and_eq_true, decide_eq_true_eq] at hlf'
  obtain ⟨⟨⟨f0, f1⟩, f2⟩, f3⟩ := hlf'
  have hop : 1 ≤ x.op ∧ x.op ≤ 11 := by
   unfold arity at f0
   split at f0
   ·assumption
   ·split at f0
    ·cases f0
    ·split at f0 <;> cases f0
  refine ⟨⟨?_, ?_, .inl ⟨hop.1, hop.2, f2, f3, getD_last hl.symm⟩⟩, by simp [hl], _, rfl⟩
  ·rw [getD_last hl.symm]; omega
  ·rw [getD_last hl.symm]; omega
 split at h
 ·rename_i h1 h2
  split at h
  ·cases h
  rename_i h3
  cases h
  simp only [not_or, Decidable.not_not] at h3
  obtain ⟨_, h4, h5, h6⟩ := h3
  have hp := hb (j - 1) (by omega)
  have e1 : (l ++ [l.getD (j - 1) 0]).getD j 0 = l.getD (j - 1) 0 := getD_last hl.symm
  have e2 : (l ++ [l.getD (j - 1) 0]).getD (j - 1) 0 = l.getD (j - 1) 0 := getD_app (by omega)
  refine ⟨⟨by rw [e1]; omega, by rw [e1]; omega, .inr (.inl ⟨h2, by omega, h5, h6, by rw [e1, e2]⟩)⟩, by simp [hl], _, rfl⟩
 split at h
 ·rename_i h1 h2 h2'
  split at h
  ·cases h
  rename_i h3
  cases h
  simp only [not_or, Decidable.not_not] at h3
  obtain ⟨_, h4, h5, h6, h7⟩ := h3
  have hp := hb (j - 1) (by omega)
  have hq := hb x.a.toNat (by omega)
  have e1 : (l ++ [l.getD x.a.toNat 0]).getD j 0 = l.getD x.a.toNat 0 := getD_last hl.symm
  have e2 : (l ++ [l.getD x.a.toNat 0]).getD (j - 1) 0 = l.getD (j - 1) 0 := getD_app (by omega)
  have e3 : (l ++ [l.getD x.a.toNat 0]).getD x.a.toNat 0 = l.getD x.a.toNat 0 := getD_app (by omega)
  refine ⟨⟨by rw [e1]; omega, by rw [e1]; omega, .inr (.inr ⟨h2'.1, h2'.2, by omega, h5, by rw [e2]; omega, by rw [e2]; exact h7, by rw [e1, e3]⟩)⟩, by simp [hl], _, rfl⟩
 ·cases h
theorem kindL_app {l : List Int} {x : Nd} {i : Nat} (z : Int) (hb : ∀ q, q < l.length → l.getD q 0 ≤ q) (hi : i < l.length) (h : kindL l x i) : kindL (l ++ [z]) x i := by
 unfold kindL at h ⊢
 have e1 : (l ++ [z]).getD i 0 = l.getD i 0 := getD_app hi
 have e2 : (l ++ [z]).getD (i - 1) 0 = l.getD (i - 1) 0 := getD_app (by omega)
 rw [e1, e2]
 obtain ⟨h1, h2, h3⟩ := h
 refine ⟨h1, h2, ?_⟩
 rcases h3 with h3 | h3 | ⟨k1, k2, k3, k4, k5, k6, k7⟩
 ·exact .inl h3
 ·exact .inr (.inl h3)
 ·by_cases ha : x.a.toNat < l.length
  ·exact .inr (.inr ⟨k1, k2, k3, k4, k5, k6, by rw [getD_app ha]; exact k7⟩)
  ·have := hb (i - 1) (by omega)
   exfalso
   omega
theorem kinds_to {t : List Nd} : ∀ {j : Nat} {l : List Int}, j ≤ t.length → beginTo t j = some l → l.length = j ∧ ∀ i, i < j → kindL l (t.getD i nd0) i
 | 0, l, _, h => by simp [beginTo] at h; subst h; exact ⟨rfl, fun i hi => by omega⟩
 | j + 1, l, hj, h => by
  simp only [beginTo, Option.bind_eq_some_iff] at h
  obtain ⟨p, h1, h2⟩ := h
  obtain ⟨i1, i2⟩ := kinds_to (by omega) h1
  obtain ⟨k1, k2, z, rfl⟩ := kind_step i1 (fun i hi => ⟨(i2 i hi).1, (i2 i hi).2.1⟩) h2
  refine ⟨k2, fun i hi => ?_⟩
  by_cases e : i = j
  ·subst e; exact k1
  ·exact kindL_app z (fun q hq => (i2 q (by omega)).2.1) (by omega) (i2 i (by omega))
def loOf (t : List Nd) (i : Nat) : Nat := match beginTo t t.length with
 | some l => (l.getD i 0).toNat
 | none => 0
theorem tre_of {t : List Nd} (h : tree1 t = true) : Tre t (loOf t) := by
 rw [← tree_same] at h
 unfold tree2 at h
 split at h
 ·rename_i l hl
  obtain ⟨k1, k2⟩ := kinds_to (Nat.le_refl _) hl
  simp only [Bool.and_eq_true, decide_eq_true_eq] at h
  obtain ⟨h1, h2⟩ := h
  have hlo : ∀ i, loOf t i = (l.getD i 0).toNat := fun i => by unfold loOf; rw [hl]
  have hk : ∀ i (hi : i < t.length), kindL l t[i] i := fun i hi => by
   have := k2 i hi
   rwa [List.getD_eq_getElem?_getD, List.getElem?_eq_getElem hi] at this
  refine ⟨h1, by rw [hlo, h2]; rfl, fun i hi => ?_, fun i hi => ?_⟩
  ·have := (hk i hi).2.1
   rw [hlo]; omega
  ·obtain ⟨a1, a2, a3⟩ := hk i hi
   unfold KindAt
   rw [hlo]
   rcases a3 with ⟨b1, b2, b3, b4, b5⟩ | ⟨b1, b2, b3, b4, b5⟩ | ⟨b1, b2, b3, b4, b5, b6, b7⟩
   ·exact .inl ⟨b1, b2, b3, b4, by omega⟩
   ·exact .inr (.inl ⟨b1, b2, by omega, b4, by rw [hlo]; omega⟩)
   ·exact .inr (.inr ⟨b1, b2, b3, by omega, t[i].a.toNat, by omega, by rw [hlo]; omega, by rw [hlo]; omega⟩)
 ·cases h
section
variable {t : List Nd} {lo : Nat → Nat} (T : Tre t lo)
include T
theorem lam : ∀ (k i : Nat), k < t.length → i < k → lo k ≤ lo i ∨ i < lo k := by
 intro k
 induction k using Nat.strongRecOn with
 | _ k ih =>
  intro i hk hik
  rcases T.kind k hk with ⟨_, _, _, _, b⟩ | ⟨_, b1, _, _, b⟩ | ⟨_, _, b1, _, a, _, b2, b⟩
  ·omega
  ·by_cases e : i = k - 1
   ·subst e; omega
   ·rw [b]; exact ih (k - 1) (by omega) i (by omega) (by omega)
  ·have hle := T.le (k - 1) (by omega)
   have hla := T.le a (by omega)
   by_cases e : i = k - 1
   ·subst e; omega
   ·by_cases e2 : i = a
    ·subst e2; omega
    ·by_cases e3 : a < i
     ·rcases ih (k - 1) (by omega) i (by omega) (by omega) with h | h
      ·omega
      ·omega
     ·rcases ih a (by omega) i (by omega) (by omega) with h | h
      ·omega
      ·omega
theorem par_one {i k : Nat} {a : Nat} (hi : i < t.length) (hk : k < t.length) (oi : 14 ≤ t[i].op) (ok : 14 ≤ t[k].op) (ai : t[i].a = (a : Int)) (ak : t[k].a = (a : Int)) : i = k := by
 have key : ∀ i k (hi : i < t.length) (hk : k < t.length), 14 ≤ t[i].op → 14 ≤ t[k].op → t[i].a = (a : Int) → t[k].a = (a : Int) → i < k → False := by
  intro i k hi hk oi ok ai ak hik
  rcases T.kind i hi with ⟨_, _, _⟩ | ⟨_, _⟩ | ⟨_, _, b1, b2, a1, b3, b4, b5⟩
  ·omega
  ·omega
  rcases T.kind k hk with ⟨_, _, _⟩ | ⟨_, _⟩ | ⟨_, _, c1, c2, a2, c3, c4, c5⟩
  ·omega
  ·omega
  obtain rfl : a1 = a := by omega
  obtain rfl : a2 = a1 := by omega
  have hla := T.le a2 (by have := T.le (i - 1) (by omega); omega)
  by_cases e : i = k - 1
  ·subst e; omega
  ·rcases lam T (k - 1) i (by omega) (by omega) with h | h
   ·omega
   ·have := T.le (i - 1) (by omega)
    omega
 rcases Nat.lt_trichotomy i k with h | h | h
 ·exact (key i k hi hk oi ok ai ak h).elim
 ·exact h
 ·exact (key k i hk hi ok oi ak ai h).elim
theorem last_nl {i k : Nat} (hi : i < t.length) (hk : k < t.length) (oi : 12 ≤ t[i].op) (ok : 14 ≤ t[k].op) (ak : t[k].a = ((i - 1 : Nat) : Int)) : False := by
 rcases T.kind k hk with ⟨_, _, _⟩ | ⟨_, _⟩ | ⟨_, _, c1, c2, a2, c3, c4, c5⟩
 ·omega
 ·omega
 have hle := T.le (k - 1) (by omega)
 have hi1 : 1 ≤ i ∧ lo i ≤ i - 1 := by
  rcases T.kind i hi with ⟨_, _, _⟩ | ⟨_, b1, _, _, b5⟩ | ⟨_, _, b1, _, a1, _, b4, b5⟩
  ·omega
  ·have := T.le (i - 1) (by omega); omega
  ·have := T.le (i - 1) (by omega)
   have := T.le a1 (by omega)
   omega
 by_cases e : i = k
 ·subst e; omega
 ·have hik : i < k := by omega
  by_cases e2 : i = k - 1
  ·subst e2; omega
  ·rcases lam T (k - 1) i (by omega) (by omega) with h | h <;> omega
end
end Go.Proofs.YtbffkkeieihpdaaGreatDoor
