/-
  THE PROGRAMS OF CONDITIONS: the machine, on the program's side.
-/
import Derived.Test.YtkfphaphiikloaaDoorX16
set_option linter.unusedSimpArgs false
set_option linter.unusedVariables false
set_option linter.constructorNameAsVariable false
namespace Go.Proofs.YtkfphaphiikloaaDoor
open Go Go.Eng

def tb29 : List (FuncId × (List AV → Heap → PRes)) := [(45, g37), (46, g19), (47, g42), (61, g61m)]
theorem tb29_ok : TbOk S29 tb29 := tb_cons p37 (tb_cons p19 (tb_cons p42 (tb_cons p61m tb_nil)))
theorem op_at (c : Nat) (h : c < ([.int .i64 (-1), .int .i64 0, .int .i64 0, .int .i64 0, .int .i64 0, .int .i64 0, .int .i64 0, .int .i64 0, .int .i64 0, .int .i64 0, .int .i64 1, .int .i64 1, .int .i64 2, .int .i64 2, .int .i64 2, .int .i64 2, .int .i64 2, .int .i64 2, .int .i64 2, .int .i64 2, .int .i64 2, .int .i64 2, .int .i64 2, .int .i64 2, .int .i64 2, .int .i64 1, .int .i64 1] : List Value).length) : ([.int .i64 (-1), .int .i64 0, .int .i64 0, .int .i64 0, .int .i64 0, .int .i64 0, .int .i64 0, .int .i64 0, .int .i64 0, .int .i64 0, .int .i64 1, .int .i64 1, .int .i64 2, .int .i64 2, .int .i64 2, .int .i64 2, .int .i64 2, .int .i64 2, .int .i64 2, .int .i64 2, .int .i64 2, .int .i64 2, .int .i64 2, .int .i64 2, .int .i64 2, .int .i64 1, .int .i64 1] : List Value)[c] = .int .i64 (needsV c) := by
  have h' : c < 27 := h
  have : c = 0 ∨ c = 1 ∨ c = 2 ∨ c = 3 ∨ c = 4 ∨ c = 5 ∨ c = 6 ∨ c = 7 ∨ c = 8 ∨ c = 9 ∨ c = 10 ∨ c = 11 ∨ c = 12 ∨ c = 13 ∨ c = 14 ∨ c = 15 ∨ c = 16 ∨ c = 17 ∨ c = 18 ∨ c = 19 ∨ c = 20 ∨ c = 21 ∨ c = 22 ∨ c = 23 ∨ c = 24 ∨ c = 25 ∨ c = 26 := by omega
  rcases this with rfl | rfl | rfl | rfl | rfl | rfl | rfl | rfl | rfl | rfl | rfl | rfl | rfl | rfl | rfl | rfl | rfl | rfl | rfl | rfl | rfl | rfl | rfl | rfl | rfl | rfl | rfl <;> rfl
/-- The machine, between two steps. -/
def I29 (h : Heap) (n : Nat) (pa pb la : AV) (p : Pr) (e : En) (s : St) : Prop := ∃ (pos : Nat) (st : List V), pos ≤ p.code.length ∧ s.e 2 = .p n 0 0 ∧ s.e 3 = .p (n + 1) 0 0 ∧ s.e 4 = .p (n + 2) 0 0 ∧ s.e 7 = ii pos ∧ OwnS s.h (n + 3) s.n (s.e 6) st ∧
  agree n (roH h) s.h ∧ s.h n = some ⟨[pa, pb], 0, true, 2⟩ ∧ s.h (n + 1) = some ⟨[la, ii e.each, ii e.pos], 0, true, 3⟩ ∧ s.h (n + 2) = some ⟨[.v (.bool false), .v (.int .i64 0)], 0, true, 2⟩ ∧ n + 3 ≤ s.n ∧ runV p e = fromV p e pos st ∧ (∀ v ∈ st, Rng v.n) ∧ st.length ≤ pos
set_option maxRecDepth 100000 in
set_option maxHeartbeats 4000000 in
theorem P29 : P0 S29 29 G29 := by
  refine mkH 2 (S := S29) (l := tb29) tb29_ok Tryd.func29 rfl (by kernel_rfl) deR_mono (fun h l x e => by obtain ⟨a, c, rfl, _⟩ := deR_out e; exact Nat.le_refl _) (fun a => rfl) (fun args q h n e hp hn => ?_)
  obtain ⟨p, en⟩ := q
  obtain ⟨x, y, rfl, e1, e2⟩ := deR_out e
  obtain ⟨hpo, heo⟩ := hp
  obtain ⟨pa, pb, rfl, e3, e4⟩ := dePr_out e1
  obtain ⟨la, rfl, e5⟩ := deEn_out e2
  simp only [] at e1 e2 e3 e4 e5 hpo heo ⊢
  obtain ⟨s1, s2, s3, s4, s5⟩ := sl_is e3
  obtain ⟨t1, t2, t3, t4, t5⟩ := sl_is e4
  obtain ⟨r1, r2, r3, r4, r5⟩ := sl_is e5
  have key : ∀ e : Nat → AV, e 0 = .g [pa, pb] → e 1 = .g [la, ii en.each, ii en.pos] → awp (cx S29 (pfL tb29)) (Tryd.f29.body.getD .skip) (finQ (cx S29 (pfL tb29)) Tryd.f29 fun z _ _ => z = runA (runV p en)) ⟨e, roH h, n⟩ := fun e q0 q1 => by
    simp [evs, aeval, binS, cx_ti, cx_G, cx_pf, cx_tw, ti, globS, glob, ldcs_1, ldcs_2, ldcs_3, ldcs_4, ldcs_5, ldcs_7, sls, slc, pfL, Tryd.f29, q0, q1, s4, t4, r4, ii]
    refine awp_loop (I29 h n pa pb la p en) (fun s => p.code.length - (s.e 7).i.toNat) ⟨0, [], by simp [up, ii, agree_up, agree_refl, OwnS, run_from]⟩ ?_
    rintro e' h' n' ⟨pos, st, hpos, q2, q3, q4, q7, hown, hag, hb0, hb1, hb2, hnn, hrun, hrng, hlen⟩
    simp only [] at q2 q3 q4 q7 hown hag hb0 hb1 hb2 hnn
    have f0 : n ≤ n' := by omega
    have f1 : n ≤ n' + 1 := by omega
    have f2 : n ≤ n' + 2 := by omega
    have f3 : n ≤ n' + 3 := by omega
    have z0 : ¬ n = n' := by omega
    have z1 : ¬ n = n' + 1 := by omega
    have z2 : ¬ n = n' + 2 := by omega
    have z3 : ¬ n = n' + 3 := by omega
    have z4 : ¬ n + 1 = n' := by omega
    have z5 : ¬ n + 2 = n' := by omega
    have z6 : ¬ n + 2 = n' + 1 := by omega
    have z7 : ¬ n + 1 = n' + 2 := by omega
    have z8 : ¬ n + 1 = n' + 3 := by omega
    have z9 : ¬ n + 2 = n' + 3 := by omega
    by_cases hlt : pos < p.code.length
    · have hst := fun (h : stepV p en p.code[pos] pos st = none) => from_none hlt h
      have hst2 := fun q (h : stepV p en p.code[pos] pos st = some q) => from_some hlt h
      have hon := fun q (h : stepV p en p.code[pos] pos st = some q) => step_on hlt h
      have hiok := hpo.ok p.code[pos] (List.getElem_mem hlt)
      rcases ps_at e3 with ⟨h0, _⟩ | ⟨id, off, k, rfl, hk, ho, hat⟩
      · rw [h0] at hlt; simp at hlt
      obtain ⟨c0, c1, c2, c3, c4⟩ := ins_at (hat pos hlt)
      have hro := agree_at hn hk hag
      have hid := lt_of hk hn
      have y0 : ¬ id = n' := by omega
      have hw5 : off + (pos * 5 + 5) ≤ k.cells.length := by omega
      rw [Nat.add_assoc] at c1 c2 c3 c4
      generalize p.code[pos] = i at *
      by_cases hr : needsV i.code < 0 ∨ (st.length : Int) < needsV i.code
      · have hbad : runV p en = bad := by rw [hrun]; exact hst (by unfold stepV; rw [if_pos hr])
        obtain ⟨o1, o2, o3⟩ := owns_len hown
        by_cases hneg : i.code < 0
        · simp [evs, aeval, binS, cx_ti, cx_G, cx_pf, cx_tw, ti, globS, glob, ldcs_1, ldcs_2, ldcs_3, ldcs_4, ldcs_5, ldcs_7, sls, slc, pfL, q2, q3, q4, q7, hb0, hb1, hb2, ii, hlt, hro, y0, c0, c1, c2, c3, c4, hw5, hneg, hbad, bad, runA, vv, unk, z0, z1, z2, z4, z5, z6]
        by_cases hbg : 27 ≤ i.code
        · simp [evs, aeval, binS, cx_ti, cx_G, cx_pf, cx_tw, ti, globS, glob, ldcs_1, ldcs_2, ldcs_3, ldcs_4, ldcs_5, ldcs_7, sls, slc, pfL, q2, q3, q4, q7, hb0, hb1, hb2, ii, hlt, hro, y0, c0, c1, c2, c3, c4, hw5, hneg, hbg, hbad, bad, runA, vv, unk, z0, z1, z2, z4, z5, z6]
        obtain ⟨c, hc⟩ : ∃ c : Nat, i.code = c := ⟨i.code.toNat, by omega⟩
        have hc27 : c < 27 := by omega
        have hc26 : c ≤ 26 := by omega
        have hcI : (c : Int) < 27 := by omega
        have hcI' : ¬ (27 : Int) ≤ c := by omega
        rw [hc] at c0 hr
        by_cases hnn0 : needsV c < 0
        · simp [evs, aeval, binS, cx_ti, cx_G, cx_pf, cx_tw, ti, globS, glob, ldcs_1, ldcs_2, ldcs_3, ldcs_4, ldcs_5, ldcs_7, sls, slc, pfL, S29, q2, q3, q4, q7, hb0, hb1, hb2, ii, hlt, hro, y0, c0, c1, c2, c3, c4, hw5, hc27, hc26, hcI, hcI', op_at, hnn0, hbad, bad, runA, vv, unk, z0, z1, z2, z4, z5, z6, o1, o2, o3]
        · have hr2 : (st.length : Int) < needsV c := by omega
          simp [evs, aeval, binS, cx_ti, cx_G, cx_pf, cx_tw, ti, globS, glob, ldcs_1, ldcs_2, ldcs_3, ldcs_4, ldcs_5, ldcs_7, sls, slc, pfL, S29, q2, q3, q4, q7, hb0, hb1, hb2, ii, hlt, hro, y0, c0, c1, c2, c3, c4, hw5, hc27, hc26, hcI, hcI', op_at, hnn0, hr2, hbad, bad, runA, vv, unk, z0, z1, z2, z4, z5, z6, o1, o2, o3]
      have hnn1 : 0 ≤ needsV i.code ∧ needsV i.code ≤ st.length := by omega
      obtain ⟨code, item, icol, iN, ito⟩ := i
      simp only [] at c0 c1 c2 c3 c4 hnn1 hr
      obtain ⟨hk1, hk2, hk3, hk4, hk5⟩ := hiok
      simp only [] at hk1 hk2 hk3 hk4 hk5
      have hcr : 1 ≤ code ∧ code ≤ 26 := by
        by_cases hx : code < 1 ∨ code > 26
        · have : needsV code = -1 := if_pos hx
          omega
        · omega
      obtain ⟨c, rfl⟩ : ∃ c : Nat, code = c := ⟨code.toNat, by omega⟩
      have hc27 : c < 27 := by omega
      have hc26 : c ≤ 26 := by omega
      have hcI : (c : Int) < 27 := by omega
      have hcI' : ¬ (27 : Int) ≤ c := by omega
      have hn0 : ¬ needsV c < 0 := by omega
      have hn2 : ¬ (st.length : Int) < needsV c := by omega
      have hplen := hpo.len
      have hwp : IntKind.i64.wrap ((pos : Int) + 1) = ((pos + 1 : Nat) : Int) := wrap_nat (by unfold big; omega)
      obtain ⟨o1, o2, o3⟩ := owns_len hown
      have fin : ∀ (q : Nat × List V) (e2 : Nat → AV) (h2 : Heap) (n2 : Nat), stepV p en ⟨c, item, icol, iN, ito⟩ pos st = some q → e2 2 = .p n 0 0 → e2 3 = .p (n + 1) 0 0 → e2 4 = .p (n + 2) 0 0 → e2 7 = ii q.1 → OwnS h2 (n + 3) n2 (e2 6) q.2 → agree n (roH h) h2 →
          h2 n = h' n → h2 (n + 1) = h' (n + 1) → h2 (n + 2) = h' (n + 2) → n' ≤ n2 → (∀ v ∈ q.2, Rng v.n) → I29 h n (.s id k.ver off p.code.length) pb la p en ⟨e2, h2, n2⟩ := fun q e2 h2 n2 k1 k2 k3 k4 k7 k6 k8 k9 k10 k11 k12 k13 => by
        obtain ⟨m1, m2, m3⟩ := hon q k1
        exact ⟨q.1, q.2, m2, k2, k3, k4, k7, k6, k8, k9.trans hb0, k10.trans hb1, k11.trans hb2, by simp only []; omega, hrun.trans (hst2 q k1), k13, by omega⟩
      have hsn : ∀ (s : List V) (x : V), (∀ v ∈ s, Rng v.n) → Rng x.n → ∀ v ∈ s ++ [x], Rng v.n := fun s x h1 h2 v hv => by
        rcases List.mem_append.1 hv with hv | hv
        · exact h1 v hv
        · simp at hv; rw [hv]; exact h2
      have b1 : (st.length + 1) * 16 ≤ 140737488355328 := by omega
      have b2 : st.length + 1 ≤ 9223372036854775807 := by omega
      have f4 : n ≤ n' + 4 := by omega
      have f5 : n ≤ n' + 5 := by omega
      have f6 : n ≤ n' + 6 := by omega
      by_cases d1 : c = 1
      · subst d1
        have hs : stepV p en ⟨(1 : Nat), item, icol, iN, ito⟩ pos st = some (pos + 1, st ++ [knownV iN]) := by
          exact step_push hr rfl
        rcases hown with ⟨rfl, q6⟩ | ⟨w, u, cs, q6, hcs, ⟨r, hcr'⟩, hw1, hw2⟩
        · simp [evs, aeval, binS, cx_ti, cx_G, cx_pf, cx_tw, ti, globS, glob, ldcs_1, ldcs_2, ldcs_3, ldcs_4, ldcs_5, ldcs_7, sls, slc, pfL, S29, q2, q3, q4, q6, q7, hb0, hb1, hb2, ii, hlt, hro, y0, c0, c1, c2, c3, c4, hw5, hwp, z0, z1, z2, z3, z4, z5, z6]
          refine ⟨fin _ _ _ _ hs (by simp [up, q2]) (by simp [up, q3]) (by simp [up, q4]) (by simp [up, ii]) (.inr ⟨n' + 3, 0, _, by simp [up], by rw [up_same], ⟨[], by simp [vcells, knownV]⟩, by omega, by omega⟩) (by simp [agree_up, hag, f0, f1, f2, f3]) (by simp [up, z0, z1, z2, z3]) (by simp [up, z4, z0, z1, z7, z8, z2]) (by simp [up, z5, z6, z9, z0, z1]) (by omega) (hsn _ _ hrng hk4), by omega⟩
        · have yw : ¬ w = n' := by omega
          have yw2 : ¬ w = n' + 2 := by omega
          have yw3 : n ≤ w := by omega
          have yw4 : ¬ n = w := by omega
          have yw5 : ¬ n + 1 = w := by omega
          have yw6 : ¬ n + 2 = w := by omega
          have hcl : st.length * 2 ≤ cs.length := by rw [hcr', List.length_append, vc_len]; omega
          have hct : cut (st.length * 2) cs = st.flatMap vcells := by rw [cut_take, hcr', ← vc_len, List.take_left']; rfl
          simp [evs, aeval, binS, cx_ti, cx_G, cx_pf, cx_tw, ti, globS, glob, ldcs_1, ldcs_2, ldcs_3, ldcs_4, ldcs_5, ldcs_7, sls, slc, pfL, S29, q2, q3, q4, q6, q7, hb0, hb1, hb2, ii, hlt, hro, y0, c0, c1, c2, c3, c4, hw5, hwp, z0, z1, z2, z3, z4, z5, z6, hcs, yw, yw2, b1, b2, hcl, hct]
          refine ⟨fin _ _ _ _ hs (by simp [up, q2]) (by simp [up, q3]) (by simp [up, q4]) (by simp [up, ii]) (.inr ⟨w, u + 1, _, by simp [up], by rw [up_same], ⟨[], by simp [vcells, knownV]⟩, by omega, by omega⟩) (by simp [agree_up, hag, f0, f1, f2, f3, yw3]) (by simp [up, z0, z1, z2, z3, yw4]) (by simp [up, z4, z0, z1, z7, z8, z2, yw5]) (by simp [up, z5, z6, z9, z0, z1, yw6]) (by omega) (hsn _ _ hrng hk4), by omega⟩
      have g5 := en_agree hn e2
      have g4 := rd_agree hn e4
      simp only [ii] at g5
      by_cases d9 : c ≤ 9
      · have hcode : (1 : Int) ≤ (c : Int) ∧ (c : Int) ≤ 9 := by omega
        have hmr : ∀ col, Rng (mentionV ⟨c, item, icol, iN, ito⟩ col en).n := fun col => mention_rng (heo.evAt item) (heo.lenAt item)
        have hnil : ∀ h', rd dIs h' (.v (.slice none 0 0)) = some [] := fun _ => rfl
        have hok : ∀ col : List Int, col.length < big → okM (⟨c, item, icol, iN, ito⟩, col, en) := fun col hc => ⟨hcode, hc, heo⟩
        have c1' : ¬ (c : Int) = 1 := by omega
        have c9 : (c : Int) ≤ 9 := by omega
        by_cases d4 : c = 4
        · subst d4
          have hs : stepV p en ⟨(4 : Nat), item, icol, iN, ito⟩ pos st = some (pos + 1, st ++ [mentionV ⟨(4 : Nat), item, icol, iN, ito⟩ [] en]) := step_count hr rfl
          have hok0 := hok [] (by simp [big])
          replace hmr := hmr []
          generalize hm : mentionV ⟨((4 : Nat) : Int), item, icol, iN, ito⟩ [] en = mv at *
          simp only [Int.cast_ofNat_Int] at hm hok0
          rcases hown with ⟨rfl, q6⟩ | ⟨w, u, cs, q6, hcs, ⟨r, hcr'⟩, hw1, hw2⟩
          · simp [evs, aeval, binS, cx_ti, cx_G, cx_pf, cx_tw, ti, globS, glob, ldcs_1, ldcs_2, ldcs_3, ldcs_4, ldcs_5, ldcs_7, sls, slc, pfL, S29, q2, q3, q4, q6, q7, hb0, hb1, hb2, ii, hlt, hro, y0, c0, c1, c2, c3, c4, hw5, hwp, z0, z1, z2, z3, z4, z5, z6, tb29, g61m, pureH, de61, deIns, deIc, hnil, g5, agree_up, hag, f0, f1, f2, hok0, hm, vv]
            refine ⟨fin _ _ _ _ hs (by simp [up, q2]) (by simp [up, q3]) (by simp [up, q4]) (by simp [up, ii]) (.inr ⟨n' + 3, 0, _, by simp [up], by rw [up_same], ⟨[], by simp [vcells]⟩, by omega, by omega⟩) (by simp [agree_up, hag, f0, f1, f2, f3]) (by simp [up, z0, z1, z2, z3]) (by simp [up, z4, z0, z1, z7, z8, z2]) (by simp [up, z5, z6, z9, z0, z1]) (by omega) (hsn _ _ hrng hmr), by omega⟩
          · have yw : ¬ w = n' := by omega
            have yw2 : ¬ w = n' + 2 := by omega
            have yw3 : n ≤ w := by omega
            have yw4 : ¬ n = w := by omega
            have yw5 : ¬ n + 1 = w := by omega
            have yw6 : ¬ n + 2 = w := by omega
            have hcl : st.length * 2 ≤ cs.length := by rw [hcr', List.length_append, vc_len]; omega
            have hct : cut (st.length * 2) cs = st.flatMap vcells := by rw [cut_take, hcr', ← vc_len, List.take_left']; rfl
            simp [evs, aeval, binS, cx_ti, cx_G, cx_pf, cx_tw, ti, globS, glob, ldcs_1, ldcs_2, ldcs_3, ldcs_4, ldcs_5, ldcs_7, sls, slc, pfL, S29, q2, q3, q4, q6, q7, hb0, hb1, hb2, ii, hlt, hro, y0, c0, c1, c2, c3, c4, hw5, hwp, z0, z1, z2, z3, z4, z5, z6, hcs, yw, yw2, yw3, b1, b2, hcl, hct, tb29, g61m, pureH, de61, deIns, deIc, hnil, g5, agree_up, hag, f0, f1, f2, hok0, hm, vv]
            refine ⟨fin _ _ _ _ hs (by simp [up, q2]) (by simp [up, q3]) (by simp [up, q4]) (by simp [up, ii]) (.inr ⟨w, u + 1, _, by simp [up], by rw [up_same], ⟨[], by simp [vcells]⟩, by omega, by omega⟩) (by simp [agree_up, hag, f0, f1, f2, f3, yw3]) (by simp [up, z0, z1, z2, z3, yw4]) (by simp [up, z4, z0, z1, z7, z8, z2, yw5]) (by simp [up, z5, z6, z9, z0, z1, yw6]) (by omega) (hsn _ _ hrng hmr), by omega⟩
        have h29 : 2 ≤ (c : Int) ∧ (c : Int) ≤ 9 ∧ (c : Int) ≠ 4 := by omega
        have c4n : ¬ (c : Int) = 4 := by omega
        have hnz : needsV c = 0 := by unfold needsV; rw [if_neg (by omega), if_pos (by omega)]
        have c1n : ¬ c = 1 := d1
        by_cases k1 : icol < 0
        · have hbad : runV p en = bad := by rw [hrun]; exact hst (step_cneg hr h29 k1)
          simp [evs, aeval, binS, cx_ti, cx_G, cx_pf, cx_tw, ti, globS, glob, ldcs_1, ldcs_2, ldcs_3, ldcs_4, ldcs_5, ldcs_7, sls, slc, pfL, S29, q2, q3, q4, q7, hb0, hb1, hb2, ii, hlt, hro, y0, c0, c1, c2, c3, c4, hw5, hwp, z0, z1, z2, z3, z4, z5, z6, hc27, hc26, hcI, hcI', op_at, hnz, o1, o2, o3, c1n, c1', c4n, c9, d9, d4, k1, hbad, bad, runA, vv, unk]
        by_cases k2 : (p.cols.length : Int) ≤ icol
        · have hbad : runV p en = bad := by rw [hrun]; exact hst (step_cbig hr h29 k2)
          simp [evs, aeval, binS, cx_ti, cx_G, cx_pf, cx_tw, ti, globS, glob, ldcs_1, ldcs_2, ldcs_3, ldcs_4, ldcs_5, ldcs_7, sls, slc, pfL, S29, q2, q3, q4, q7, hb0, hb1, hb2, ii, hlt, hro, y0, c0, c1, c2, c3, c4, hw5, hwp, z0, z1, z2, z3, z4, z5, z6, hc27, hc26, hcI, hcI', op_at, hnz, o1, o2, o3, c1n, c1', c4n, c9, d9, d4, k1, k2, t1, t2, t3, hbad, bad, runA, vv, unk]
        obtain ⟨j, rfl⟩ : ∃ j : Nat, icol = j := ⟨icol.toNat, by omega⟩
        have hj : j < p.cols.length := by omega
        rcases sls_at e4 with ⟨h0, _⟩ | ⟨id2, off2, k', rfl, hk', ho2, hat2⟩
        · rw [h0] at hj; simp at hj
        obtain ⟨cc, hcc, hcr2⟩ := hat2 j hj
        have hro2 := agree_at hn hk' hag
        have hid2 := lt_of hk' hn
        have y2 : ¬ id2 = n' := by omega
        have hw6 : off2 + (j + 1) ≤ k'.cells.length := by omega
        have g6 : ∀ h', agree n (roH h) h' → rd dIs h' cc = some p.cols[j] := rd_agree hn hcr2
        have hs : stepV p en ⟨c, item, j, iN, ito⟩ pos st = some (pos + 1, st ++ [mentionV ⟨c, item, j, iN, ito⟩ p.cols[j] en]) := step_col hr h29 (by omega) (by simp [hj])
        have hok0 := hok p.cols[j] (hpo.col _ (List.getElem_mem hj))
        replace hmr := hmr p.cols[j]
        generalize hm : mentionV ⟨(c : Int), item, (j : Int), iN, ito⟩ p.cols[j] en = mv at *
        rcases hown with ⟨rfl, q6⟩ | ⟨w, u, cs, q6, hcs, ⟨r, hcr'⟩, hw1, hw2⟩
        · simp [evs, aeval, binS, cx_ti, cx_G, cx_pf, cx_tw, ti, globS, glob, ldcs_1, ldcs_2, ldcs_3, ldcs_4, ldcs_5, ldcs_7, sls, slc, pfL, S29, q2, q3, q4, q6, q7, hb0, hb1, hb2, ii, hlt, hro, y0, c0, c1, c2, c3, c4, hw5, hwp, z0, z1, z2, z3, z4, z5, z6, hc27, hc26, hcI, hcI', op_at, hnz, o1, o2, o3, c1n, c1', c4n, c9, d9, d4, k1, k2, t1, t2, t3, hj, hro2, y2, hw6, hcc, g6, tb29, g61m, pureH, de61, deIns, deIc, hnil, g5, agree_up, hag, f0, f1, f2, hok0, hm, vv]
          refine ⟨fin _ _ _ _ hs (by simp [up, q2]) (by simp [up, q3]) (by simp [up, q4]) (by simp [up, ii]) (.inr ⟨n' + 3, 0, _, by simp [up], by rw [up_same], ⟨[], by simp [vcells]⟩, by omega, by omega⟩) (by simp [agree_up, hag, f0, f1, f2, f3]) (by simp [up, z0, z1, z2, z3]) (by simp [up, z4, z0, z1, z7, z8, z2]) (by simp [up, z5, z6, z9, z0, z1]) (by omega) (hsn _ _ hrng hmr), by omega⟩
        · have yw : ¬ w = n' := by omega
          have yw2 : ¬ w = n' + 2 := by omega
          have yw3 : n ≤ w := by omega
          have yw4 : ¬ n = w := by omega
          have yw5 : ¬ n + 1 = w := by omega
          have yw6 : ¬ n + 2 = w := by omega
          have hcl : st.length * 2 ≤ cs.length := by rw [hcr', List.length_append, vc_len]; omega
          have hct : cut (st.length * 2) cs = st.flatMap vcells := by rw [cut_take, hcr', ← vc_len, List.take_left']; rfl
          simp [evs, aeval, binS, cx_ti, cx_G, cx_pf, cx_tw, ti, globS, glob, ldcs_1, ldcs_2, ldcs_3, ldcs_4, ldcs_5, ldcs_7, sls, slc, pfL, S29, q2, q3, q4, q6, q7, hb0, hb1, hb2, ii, hlt, hro, y0, c0, c1, c2, c3, c4, hw5, hwp, z0, z1, z2, z3, z4, z5, z6, hcs, yw, yw2, yw3, b1, b2, hcl, hct, hc27, hc26, hcI, hcI', op_at, hnz, o1, o2, o3, c1n, c1', c4n, c9, d9, d4, k1, k2, t1, t2, t3, hj, hro2, y2, hw6, hcc, g6, tb29, g61m, pureH, de61, deIns, deIc, hnil, g5, agree_up, hag, f0, f1, f2, hok0, hm, vv]
          refine ⟨fin _ _ _ _ hs (by simp [up, q2]) (by simp [up, q3]) (by simp [up, q4]) (by simp [up, ii]) (.inr ⟨w, u + 1, _, by simp [up], by rw [up_same], ⟨[], by simp [vcells]⟩, by omega, by omega⟩) (by simp [agree_up, hag, f0, f1, f2, f3, yw3]) (by simp [up, z0, z1, z2, z3, yw4]) (by simp [up, z4, z0, z1, z7, z8, z2, yw5]) (by simp [up, z5, z6, z9, z0, z1, yw6]) (by omega) (hsn _ _ hrng hmr), by omega⟩
      have hne : 1 ≤ st.length := by
        have : 1 ≤ needsV c := by
          have hx : needsV c = 1 ∨ needsV c = 2 := by
            unfold needsV
            rw [if_neg (by omega), if_neg (by omega)]
            split
            · exact .inl rfl
            · exact .inr rfl
          omega
        omega
      have h9 : ¬ (c : Int) ≤ 9 := by omega
      have h1n : ¬ (c : Int) = 1 := by omega
      by_cases d10 : c = 10
      · subst d10
        obtain ⟨pre, x, rfl⟩ := snoc (st := st) hne
        obtain ⟨w, u, cs, q6, hcs, hw1, hw2, x1, x2, x3, hset, _⟩ := top_facts hown
        have hs : stepV p en ⟨(10 : Nat), item, icol, iN, ito⟩ pos (pre ++ [x]) = some (pos + 1, pre ++ [negL x]) := by
          rw [step_neg hr rfl]
          simp
        have hpr : ∀ v ∈ pre, Rng v.n := fun v hv => hrng v (by simp [hv])
        have hxr := hsn pre (negL x) hpr (neg_rng (hrng x (by simp)))
        have hwt : IntKind.i64.wrap ((pre.length : Int)) = pre.length := W_id (by unfold Rng; simp at b1; omega)
        have hwI : (pre.length : Int) < (pre.length : Int) + 1 := by omega
        have yw : ¬ w = n' := by omega
        have yw3 : n ≤ w := by omega
        have yw4 : ¬ n = w := by omega
        have yw5 : ¬ n + 1 = w := by omega
        have yw6 : ¬ n + 2 = w := by omega
        obtain ⟨xk, xn⟩ := x
        obtain ⟨mv, hmv⟩ : ∃ mv, mv = negL ⟨xk, xn⟩ := ⟨_, rfl⟩
        rw [← hmv] at hs hxr
        simp only [] at x1 x2
        simp [evs, aeval, binS, cx_ti, cx_G, cx_pf, cx_tw, ti, globS, glob, ldcs_1, ldcs_2, ldcs_3, ldcs_4, ldcs_5, ldcs_7, sls, slc, pfL, S29, q2, q3, q4, q7, hb0, hb1, hb2, ii, hlt, hro, y0, c0, c1, c2, c3, c4, hw5, hwp, z0, z1, z2, z3, z4, z5, z6, hne, q6, hcs, yw, x1, x2, x3, hwt, hwI, tb29, g37, pure1, deV, vv, ← hmv]
        refine ⟨fin _ _ _ _ hs (by simp [up, q2]) (by simp [up, q3]) (by simp [up, q4]) (by simp [up, ii]) (.inr ⟨w, u, _, by simp [up, q6], by rw [up_same], ?_, by omega, by omega⟩) (by simp [agree_up, hag, f0, f1, f2, f3, yw3]) (by simp [up, z0, z1, z2, z3, yw4]) (by simp [up, z4, z0, z1, z7, z8, z2, yw5]) (by simp [up, z5, z6, z9, z0, z1, yw6]) (by omega) hxr, by omega⟩
        obtain ⟨r, hr'⟩ := hset (.v (.bool mv.k)) (.v (.int .i64 mv.n))
        exact ⟨r, by rw [hr']; simp [vcells]⟩
      by_cases d11 : c = 11
      · subst d11
        obtain ⟨pre, x, rfl⟩ := snoc (st := st) hne
        obtain ⟨w, u, cs, q6, hcs, hw1, hw2, x1, x2, x3, hset, _⟩ := top_facts hown
        have hs : stepV p en ⟨(11 : Nat), item, icol, iN, ito⟩ pos (pre ++ [x]) = some (pos + 1, pre ++ [notV x]) := by
          rw [step_not hr rfl]
          simp
        have hpr : ∀ v ∈ pre, Rng v.n := fun v hv => hrng v (by simp [hv])
        have hxr := hsn pre (notV x) hpr (not_rng x)
        have hwt : IntKind.i64.wrap ((pre.length : Int)) = pre.length := W_id (by unfold Rng; simp at b1; omega)
        have hwI : (pre.length : Int) < (pre.length : Int) + 1 := by omega
        have yw : ¬ w = n' := by omega
        have yw3 : n ≤ w := by omega
        have yw4 : ¬ n = w := by omega
        have yw5 : ¬ n + 1 = w := by omega
        have yw6 : ¬ n + 2 = w := by omega
        obtain ⟨xk, xn⟩ := x
        obtain ⟨mv, hmv⟩ : ∃ mv, mv = notV ⟨xk, xn⟩ := ⟨_, rfl⟩
        rw [← hmv] at hs hxr
        simp only [] at x1 x2
        simp [evs, aeval, binS, cx_ti, cx_G, cx_pf, cx_tw, ti, globS, glob, ldcs_1, ldcs_2, ldcs_3, ldcs_4, ldcs_5, ldcs_7, sls, slc, pfL, S29, q2, q3, q4, q7, hb0, hb1, hb2, ii, hlt, hro, y0, c0, c1, c2, c3, c4, hw5, hwp, z0, z1, z2, z3, z4, z5, z6, hne, q6, hcs, yw, x1, x2, x3, hwt, hwI, tb29, g19, pure1, deV, vv, ← hmv]
        refine ⟨fin _ _ _ _ hs (by simp [up, q2]) (by simp [up, q3]) (by simp [up, q4]) (by simp [up, ii]) (.inr ⟨w, u, _, by simp [up, q6], by rw [up_same], ?_, by omega, by omega⟩) (by simp [agree_up, hag, f0, f1, f2, f3, yw3]) (by simp [up, z0, z1, z2, z3, yw4]) (by simp [up, z4, z0, z1, z7, z8, z2, yw5]) (by simp [up, z5, z6, z9, z0, z1, yw6]) (by omega) hxr, by omega⟩
        obtain ⟨r, hr'⟩ := hset (.v (.bool mv.k)) (.v (.int .i64 mv.n))
        exact ⟨r, by rw [hr']; simp [vcells]⟩
      by_cases d25 : 25 ≤ c
      · have hI25 : (25 : Int) ≤ (c : Int) := by omega
        obtain ⟨pre, x, rfl⟩ := snoc (st := st) hne
        obtain ⟨w, u, cs, q6, hcs, hw1, hw2, x1, x2, x3, hset, r, hr0⟩ := top_facts hown
        have hwt : IntKind.i64.wrap ((pre.length : Int)) = pre.length := W_id (by unfold Rng; simp at b1; omega)
        have hwI : (pre.length : Int) < (pre.length : Int) + 1 := by omega
        have yw : ¬ w = n' := by omega
        have yw3 : n ≤ w := by omega
        have yw4 : ¬ n = w := by omega
        have yw5 : ¬ n + 1 = w := by omega
        have yw6 : ¬ n + 2 = w := by omega
        obtain ⟨xk, xn⟩ := x
        simp only [] at x1 x2
        have hnz : needsV c = 1 := by unfold needsV; rw [if_neg (by omega), if_neg (by omega), if_pos (by omega)]
        have h10 : ¬ (c : Int) = 10 := by omega
        have h11 : ¬ (c : Int) = 11 := by omega
        have hlt1 : ¬ ((pre.length : Int) + 1 < 1) := by omega
        have x3' : pre.length * 2 + 1 ≤ cs.length := by omega
        by_cases k1 : ito ≤ pos
        · have hbad : runV p en = bad := by rw [hrun]; exact hst (step_jbad hr hI25 (.inl k1))
          simp [evs, aeval, binS, cx_ti, cx_G, cx_pf, cx_tw, ti, globS, glob, ldcs_1, ldcs_2, ldcs_3, ldcs_4, ldcs_5, ldcs_7, sls, slc, pfL, S29, q2, q3, q4, q7, hb0, hb1, hb2, ii, hlt, hro, y0, c0, c1, c2, c3, c4, hw5, hwp, z0, z1, z2, z3, z4, z5, z6, hc27, hc26, hcI, hcI', op_at, hnz, q6, h1n, h9, h10, h11, hI25, d25, k1, hbad, bad, runA, vv, unk, hwI, hlt1]
        by_cases k2 : (p.code.length : Int) < ito
        · have hbad : runV p en = bad := by rw [hrun]; exact hst (step_jbad hr hI25 (.inr k2))
          simp [evs, aeval, binS, cx_ti, cx_G, cx_pf, cx_tw, ti, globS, glob, ldcs_1, ldcs_2, ldcs_3, ldcs_4, ldcs_5, ldcs_7, sls, slc, pfL, S29, q2, q3, q4, q7, hb0, hb1, hb2, ii, hlt, hro, y0, c0, c1, c2, c3, c4, hw5, hwp, z0, z1, z2, z3, z4, z5, z6, hc27, hc26, hcI, hcI', op_at, hnz, q6, h1n, h9, h10, h11, hI25, d25, k1, k2, hbad, bad, runA, vv, unk, hwI, hlt1]
        obtain ⟨tn, rfl⟩ : ∃ tn : Nat, ito = tn := ⟨ito.toNat, by omega⟩
        have k3 : pos < tn := by omega
        have k4 : tn ≤ p.code.length := by omega
        have k3' : ¬ tn ≤ pos := by omega
        have k4' : ¬ p.code.length < tn := by omega
        have kk : ¬ ((tn : Int) ≤ pos ∨ (tn : Int) > p.code.length) := by omega
        have go : ((pre ++ [⟨xk, xn⟩] : List V).getLastD unk) = ⟨xk, xn⟩ := by simp
        by_cases hj : xk = true ∧ (xn ≠ 0 ↔ (c : Int) = 26)
        · have hs : stepV p en ⟨c, item, icol, iN, tn⟩ pos (pre ++ [⟨xk, xn⟩]) = some (tn, pre ++ [⟨xk, xn⟩]) := by
            have := step_jump (p := p) (e := en) (i := ⟨c, item, icol, iN, tn⟩) hr hI25 kk (by rw [go]; exact hj)
            simpa using this
          obtain ⟨rfl, hj2⟩ := hj
          by_cases hx0 : xn = 0
          · have hc26' : ¬ (c : Int) = 26 := fun e => (hj2.2 e) hx0
            have bq1 : (xn != 0) = false := by simp [hx0]
            have bq2 : ((c : Int) == 26) = false := by simpa using hc26'
            simp [evs, aeval, binS, cx_ti, cx_G, cx_pf, cx_tw, ti, globS, glob, ldcs_1, ldcs_2, ldcs_3, ldcs_4, ldcs_5, ldcs_7, sls, slc, pfL, S29, q2, q3, q4, q7, hb0, hb1, hb2, ii, hlt, hro, y0, c0, c1, c2, c3, c4, hw5, hwp, z0, z1, z2, z3, z4, z5, z6, hc27, hc26, hcI, hcI', op_at, hnz, q6, h1n, h9, h10, h11, hI25, d25, k3, k4, k3', k4', hwI, hcs, yw, x1, x2, x3, hwt, hx0, hc26', hlt1, x3', bq1, bq2]
            refine ⟨fin _ _ _ _ hs (by simp [up, q2]) (by simp [up, q3]) (by simp [up, q4]) (by simp [up, ii, q7]) (.inr ⟨w, u, cs, by simp [up, q6], by simp [up, yw, hcs], ⟨r, hr0⟩, by omega, by omega⟩) (by simp [agree_up, hag, f0, f1, f2, f3, yw3]) (by simp [up, z0, z1, z2, z3, yw4]) (by simp [up, z4, z0, z1, z7, z8, z2, yw5]) (by simp [up, z5, z6, z9, z0, z1, yw6]) (by omega) hrng, by omega⟩
          · have hc26' : (c : Int) = 26 := hj2.1 hx0
            have bq1 : (xn != 0) = true := by simp [hx0]
            have bq2 : ((c : Int) == 26) = true := by simpa using hc26'
            simp [evs, aeval, binS, cx_ti, cx_G, cx_pf, cx_tw, ti, globS, glob, ldcs_1, ldcs_2, ldcs_3, ldcs_4, ldcs_5, ldcs_7, sls, slc, pfL, S29, q2, q3, q4, q7, hb0, hb1, hb2, ii, hlt, hro, y0, c0, c1, c2, c3, c4, hw5, hwp, z0, z1, z2, z3, z4, z5, z6, hc27, hc26, hcI, hcI', op_at, hnz, q6, h1n, h9, h10, h11, hI25, d25, k3, k4, k3', k4', hwI, hcs, yw, x1, x2, x3, hwt, hx0, hc26', hlt1, x3', bq1, bq2]
            refine ⟨fin _ _ _ _ hs (by simp [up, q2]) (by simp [up, q3]) (by simp [up, q4]) (by simp [up, ii, q7]) (.inr ⟨w, u, cs, by simp [up, q6], by simp [up, yw, hcs], ⟨r, hr0⟩, by omega, by omega⟩) (by simp [agree_up, hag, f0, f1, f2, f3, yw3]) (by simp [up, z0, z1, z2, z3, yw4]) (by simp [up, z4, z0, z1, z7, z8, z2, yw5]) (by simp [up, z5, z6, z9, z0, z1, yw6]) (by omega) hrng, by omega⟩
        · have hs : stepV p en ⟨c, item, icol, iN, tn⟩ pos (pre ++ [⟨xk, xn⟩]) = some (pos + 1, pre ++ [⟨xk, xn⟩]) := by
            have := step_stay (p := p) (e := en) (i := ⟨c, item, icol, iN, tn⟩) hr hI25 kk (by rw [go]; exact hj)
            simpa using this
          cases xk with
          | false =>
            simp [evs, aeval, binS, cx_ti, cx_G, cx_pf, cx_tw, ti, globS, glob, ldcs_1, ldcs_2, ldcs_3, ldcs_4, ldcs_5, ldcs_7, sls, slc, pfL, S29, q2, q3, q4, q7, hb0, hb1, hb2, ii, hlt, hro, y0, c0, c1, c2, c3, c4, hw5, hwp, z0, z1, z2, z3, z4, z5, z6, hc27, hc26, hcI, hcI', op_at, hnz, q6, h1n, h9, h10, h11, hI25, d25, k3, k4, k3', k4', hwI, hcs, yw, x1, x2, x3, hwt, hlt1, x3']
            refine ⟨fin _ _ _ _ hs (by simp [up, q2]) (by simp [up, q3]) (by simp [up, q4]) (by simp [up, ii, q7]) (.inr ⟨w, u, cs, by simp [up, q6], by simp [up, yw, hcs], ⟨r, hr0⟩, by omega, by omega⟩) (by simp [agree_up, hag, f0, f1, f2, f3, yw3]) (by simp [up, z0, z1, z2, z3, yw4]) (by simp [up, z4, z0, z1, z7, z8, z2, yw5]) (by simp [up, z5, z6, z9, z0, z1, yw6]) (by omega) hrng, by omega⟩
          | true =>
            by_cases hx0 : xn = 0
            · have hc26' : (c : Int) = 26 := by
                by_cases e : (c : Int) = 26
                · exact e
                · exact absurd ⟨rfl, ⟨fun h => absurd hx0 h, fun h => absurd h e⟩⟩ hj
              have bq1 : (xn != 0) = false := by simp [hx0]
              have bq2 : ((c : Int) == 26) = true := by simpa using hc26'
              simp [evs, aeval, binS, cx_ti, cx_G, cx_pf, cx_tw, ti, globS, glob, ldcs_1, ldcs_2, ldcs_3, ldcs_4, ldcs_5, ldcs_7, sls, slc, pfL, S29, q2, q3, q4, q7, hb0, hb1, hb2, ii, hlt, hro, y0, c0, c1, c2, c3, c4, hw5, hwp, z0, z1, z2, z3, z4, z5, z6, hc27, hc26, hcI, hcI', op_at, hnz, q6, h1n, h9, h10, h11, hI25, d25, k3, k4, k3', k4', hwI, hcs, yw, x1, x2, x3, hwt, hx0, hc26', hlt1, x3', bq1, bq2]
              refine ⟨fin _ _ _ _ hs (by simp [up, q2]) (by simp [up, q3]) (by simp [up, q4]) (by simp [up, ii, q7]) (.inr ⟨w, u, cs, by simp [up, q6], by simp [up, yw, hcs], ⟨r, hr0⟩, by omega, by omega⟩) (by simp [agree_up, hag, f0, f1, f2, f3, yw3]) (by simp [up, z0, z1, z2, z3, yw4]) (by simp [up, z4, z0, z1, z7, z8, z2, yw5]) (by simp [up, z5, z6, z9, z0, z1, yw6]) (by omega) hrng, by omega⟩
            · have hc26' : ¬ (c : Int) = 26 := fun e => hj ⟨rfl, ⟨fun _ => e, fun _ => hx0⟩⟩
              have bq1 : (xn != 0) = true := by simp [hx0]
              have bq2 : ((c : Int) == 26) = false := by simpa using hc26'
              simp [evs, aeval, binS, cx_ti, cx_G, cx_pf, cx_tw, ti, globS, glob, ldcs_1, ldcs_2, ldcs_3, ldcs_4, ldcs_5, ldcs_7, sls, slc, pfL, S29, q2, q3, q4, q7, hb0, hb1, hb2, ii, hlt, hro, y0, c0, c1, c2, c3, c4, hw5, hwp, z0, z1, z2, z3, z4, z5, z6, hc27, hc26, hcI, hcI', op_at, hnz, q6, h1n, h9, h10, h11, hI25, d25, k3, k4, k3', k4', hwI, hcs, yw, x1, x2, x3, hwt, hx0, hc26', hlt1, x3', bq1, bq2]
              refine ⟨fin _ _ _ _ hs (by simp [up, q2]) (by simp [up, q3]) (by simp [up, q4]) (by simp [up, ii, q7]) (.inr ⟨w, u, cs, by simp [up, q6], by simp [up, yw, hcs], ⟨r, hr0⟩, by omega, by omega⟩) (by simp [agree_up, hag, f0, f1, f2, f3, yw3]) (by simp [up, z0, z1, z2, z3, yw4]) (by simp [up, z4, z0, z1, z7, z8, z2, yw5]) (by simp [up, z5, z6, z9, z0, z1, yw6]) (by omega) hrng, by omega⟩
      have hI25 : ¬ (25 : Int) ≤ (c : Int) := by omega
      have hnz : needsV c = 2 := by unfold needsV; rw [if_neg (by omega), if_neg (by omega), if_neg (by omega)]
      have hI2 : 12 ≤ (c : Int) ∧ (c : Int) < 25 := by omega
      obtain ⟨pre, y, x, rfl⟩ := snoc2 (st := st) (by omega)
      obtain ⟨w, u, cs, q6, hcs, hw1, hw2, x1, x2, x4, x5, x3, hset⟩ := top2_facts hown
      have hs : stepV p en ⟨c, item, icol, iN, ito⟩ pos (pre ++ [y] ++ [x]) = some (pos + 1, pre ++ [applyL ((c : Int) + 2) y x]) := by
        rw [step_two hr hI2]
        simp
      have hpr : ∀ v ∈ pre, Rng v.n := fun v hv => hrng v (by simp [hv])
      have hxr := hsn pre (applyL ((c : Int) + 2) y x) hpr (apply_rng _ (hrng y (by simp)) (hrng x (by simp)))
      have hwt : IntKind.i64.wrap ((pre.length : Int)) = pre.length := W_id (by unfold Rng; simp at b1; omega)
      have hwt1 : IntKind.i64.wrap ((pre.length : Int) + 2 - 1) = pre.length + 1 := by
        have e1 : IntKind.i64.wrap ((pre.length : Int) + 2 - 1) = pre.length + 2 - 1 := W_id (by unfold Rng; simp at b1; omega)
        rw [e1]
        omega
      have ht1 : ((pre.length : Int) + 1).toNat = pre.length + 1 := by omega
      have hl2 : ¬ ((pre.length : Int) + 2 < 2) := by omega
      have hl3 : (pre.length : Int) < pre.length + 2 := by omega
      have hl4 : (pre.length : Int) + 1 < pre.length + 2 := by omega
      have hl5 : (0 : Int) ≤ pre.length + 1 := by omega
      have hl6 : pre.length * 2 + 2 ≤ cs.length := by omega
      have hwo : IntKind.i64.wrap (14 + IntKind.i64.wrap ((c : Int) - 12)) = c + 2 := by
        have e1 : IntKind.i64.wrap ((c : Int) - 12) = c - 12 := W_id (by unfold Rng; omega)
        rw [e1]
        have e2 : IntKind.i64.wrap (14 + ((c : Int) - 12)) = 14 + (c - 12) := W_id (by unfold Rng; omega)
        rw [e2]
        omega
      have yw : ¬ w = n' := by omega
      have yw3 : n ≤ w := by omega
      have yw4 : ¬ n = w := by omega
      have yw5 : ¬ n + 1 = w := by omega
      have yw6 : ¬ n + 2 = w := by omega
      have h10 : ¬ (c : Int) = 10 := by omega
      have h11 : ¬ (c : Int) = 11 := by omega
      obtain ⟨xk, xn⟩ := x
      obtain ⟨yk, yn⟩ := y
      obtain ⟨mv, hmv⟩ : ∃ mv, mv = applyL ((c : Int) + 2) ⟨yk, yn⟩ ⟨xk, xn⟩ := ⟨_, rfl⟩
      rw [← hmv] at hs hxr
      simp only [] at x1 x2 x4 x5
      simp [evs, aeval, binS, cx_ti, cx_G, cx_pf, cx_tw, ti, globS, glob, ldcs_1, ldcs_2, ldcs_3, ldcs_4, ldcs_5, ldcs_7, sls, slc, pfL, S29, q2, q3, q4, q7, hb0, hb1, hb2, ii, hlt, hro, y0, c0, c1, c2, c3, c4, hw5, hwp, z0, z1, z2, z3, z4, z5, z6, hc27, hc26, hcI, hcI', op_at, hnz, q6, h1n, h9, h10, h11, hI25, d25, hcs, yw, x1, x2, x3, x4, x5, hwt, hwt1, hwo, ht1, hl2, hl3, hl4, hl5, hl6, tb29, g42, pure3, deV, deI, vv, ← hmv]
      refine ⟨fin _ _ _ _ hs (by simp [up, q2]) (by simp [up, q3]) (by simp [up, q4]) (by simp [up, ii]) (.inr ⟨w, u, _, by simp [up, q6], by rw [up_same], ?_, by omega, by omega⟩) (by simp [agree_up, hag, f0, f1, f2, f3, yw3]) (by simp [up, z0, z1, z2, z3, yw4]) (by simp [up, z4, z0, z1, z7, z8, z2, yw5]) (by simp [up, z5, z6, z9, z0, z1, yw6]) (by omega) hxr, by omega⟩
      obtain ⟨r, hr'⟩ := hset (.v (.bool mv.k)) (.v (.int .i64 mv.n))
      exact ⟨r, by rw [hr']; simp [vcells]⟩
    · have hpe : pos = p.code.length := by omega
      rw [from_end (by omega)] at hrun
      subst hpe
      have hfl : ¬ p.code.length < p.code.length := by omega
      rcases hown with ⟨rfl, q6⟩ | ⟨w, u, cs, q6, hcs, ⟨r, rfl⟩, hw1, hw2⟩
      · simp [evs, aeval, binS, cx_ti, cx_G, cx_pf, cx_tw, ti, globS, glob, ldcs_1, ldcs_2, ldcs_3, ldcs_4, ldcs_5, ldcs_7, sls, slc, pfL, q2, q3, q4, q6, q7, hb0, hb1, hb2, s1, s2, s3, ii, hrun, endV, bad, runA, vv, unk]
      · cases st with
        | nil => simp [evs, aeval, binS, cx_ti, cx_G, cx_pf, cx_tw, ti, globS, glob, ldcs_1, ldcs_2, ldcs_3, ldcs_4, ldcs_5, ldcs_7, sls, slc, pfL, q2, q3, q4, q6, q7, hb0, hb1, hb2, s1, s2, s3, ii, hrun, endV, bad, runA, vv, unk]
        | cons v st => cases st with
          | nil =>
            have yw : ¬ w = n + 2 := by omega
            simp [evs, aeval, binS, cx_ti, cx_G, cx_pf, cx_tw, ti, globS, glob, ldcs_1, ldcs_2, ldcs_3, ldcs_4, ldcs_5, ldcs_7, sls, slc, pfL, q2, q3, q4, q6, q7, hb0, hb1, hb2, s1, s2, s3, ii, hrun, endV, bad, runA, vv, hcs, vcells, yw]
          | cons v2 st =>
            have hne : ¬ ((st.length : Int) + 2 = 1) := by omega
            simp [evs, aeval, binS, cx_ti, cx_G, cx_pf, cx_tw, ti, globS, glob, ldcs_1, ldcs_2, ldcs_3, ldcs_4, ldcs_5, ldcs_7, sls, slc, pfL, q2, q3, q4, q6, q7, hb0, hb1, hb2, s1, s2, s3, ii, hrun, endV, bad, runA, vv, unk, hne]
  exact key _ rfl rfl
end Go.Proofs.YtkfphaphiikloaaDoor
