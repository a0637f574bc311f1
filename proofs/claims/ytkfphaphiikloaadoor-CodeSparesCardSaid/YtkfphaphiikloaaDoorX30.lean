/-
  TREES, PART P: the value of a node: the document's.
-/
import Derived.Test.YtkfphaphiikloaaDoorX22
import Derived.Test.YtkfphaphiikloaaDoorX28
import Derived.Test.YtkfphaphiikloaaDoorX29
set_option linter.unusedSimpArgs false
set_option linter.unusedVariables false
set_option linter.constructorNameAsVariable false
namespace Go.Proofs.YtkfphaphiikloaaDoor
open Go Go.Eng

def deVc : List AV → Option V
  | [.v (.bool k), .v (.int .i64 n)] => some ⟨k, n⟩
  | _ => none
theorem deVc_out {l : List AV} {x : V} (h : deVc l = some x) : l = vcells x := by
  unfold deVc at h
  split at h
  · cases h; rfl
  · cases h
def dV : De V where
  run _ l := deVc l
  sim {h h' l x} hh e := e
theorem Flat.v : Flat 2 dV vcells := ⟨fun _ _ _ e => deVc_out e, fun _ _ => rfl, fun _ => rfl⟩
end Go.Proofs.YtkfphaphiikloaaDoor

/-
  TREES, PART Q: Eval, on both sides.
-/
namespace Go.Proofs.YtkfphaphiikloaaDoor
open Go Go.Eng

def G67a := pureH de67 (fun q => TrOk q.1 ∧ 0 ≤ q.2 ∧ q.2 < (q.1.t.length : Int)) fun q => vv (valAt q.1.sc q.1.its q.1.en q.1.t q.2.toNat)
theorem P67a : P0 S67 67 G67a := by
  refine ⟨fun args h h' hh hs => ?_, .inl ⟨callable Tryd.func67 rfl rfl _ _, fun ρ h w args vs r hmx ha hs => ?_⟩⟩
  · obtain ⟨a, e, hp, hall⟩ := pureH_out de67_mono hs
    have e1 : G67a args h' = _ := hall h' hh
    have e2 : G67a args h = _ := hall h (fun _ _ e => e)
    rw [e1, e2]
    exact ⟨hp, rfl⟩
  · obtain ⟨a, e, hp, hall⟩ := pureH_out de67_mono hs
    have e2 : G67a args h = _ := hall h (fun _ _ e => e)
    have e3 : G67 a.1.t.length args h = ⟨TrOk a.1 ∧ 0 ≤ a.2 ∧ a.2 < (a.1.t.length : Int) ∧ a.2 < (a.1.t.length : Int), vv (valAt a.1.sc a.1.its a.1.en a.1.t a.2.toNat)⟩ := by simp only [G67, pureH, e]
    have hs' : (G67 a.1.t.length args h).side := by rw [e3]; exact ⟨hp.1, hp.2.1, hp.2.2, hp.2.2⟩
    have hv : (G67 a.1.t.length args h).val = (G67a args h).val := by rw [e3, e2]
    rcases (P67 a.1.t.length).2 with ⟨_, k⟩ | k
    · have := k ρ h w args vs r hmx ha hs'
      rwa [hv] at this
    · obtain ⟨y, e9, _⟩ := k ρ h w args vs ha hs'
      rw [callable (S := S67) Tryd.func67 rfl rfl] at e9
      cases e9
theorem okTo_get {vs : List ByteArray} {t : List Nd} (h : okTo vs t t.length = true) (i : Nat) (hi : i < t.length) : nodeOk vs t t[i] = true := by
  unfold okTo at h
  rw [List.take_length, List.all_eq_true] at h
  exact h _ (List.getElem_mem hi)
theorem run_trok {sc : List Ty} {vs : List ByteArray} {t : List Nd} {en : En} (h1 : smallS sc) (h2 : smallT t) (h3 : EnOk en) (hr : runT vs t = true) : TrOk ⟨sc, t, t.map (itemV vs), en⟩ := by
  simp only [runT, Bool.and_eq_true] at hr
  refine ⟨h1, h2, hr.1, by simp, fun i hi h4 h11 => ?_, h3⟩
  have := okTo_get hr.2 i hi
  simp only [] at hi h4 h11 ⊢
  rw [nodeOk, if_neg (by omega), if_pos h11, decide_eq_true_eq] at this
  rw [List.getD_eq_getElem?_getD, List.getElem?_map, List.getElem?_eq_getElem hi]
  simp only [Option.map_some, Option.getD_some, itemV, if_pos (And.intro h4 h11)]
  exact this
theorem map_flat (l : List Int) : l.map ii = l.flatMap fun x => [ii x] := by
  induction l with
  | nil => rfl
  | cons x l ih => rw [List.map_cons, List.flatMap_cons, ih]; rfl
theorem ints_in {h : Heap} {w : Nat} {l : List Int} {u : Nat} {own : Bool} {esz : Nat} (hk : h w = some ⟨l.map ii, u, own, esz⟩) : rd dIs h (.s w u 0 l.length) = some l := by
  refine flat_in Flat.int hk rfl (r := []) ?_
  simp only [List.append_nil, map_flat]
/-- What Eval is asked of. -/
structure Eq38 where
  sc : List Ty
  q : Qu
  t : List Nd
  en : En
structure EqOk (v : Eq38) : Prop where
  sc : smallS v.sc
  ln : v.q.items.length < big
  sm : smallT v.t
  rg : ∀ x ∈ v.t, Rng x.n
  en : EnOk v.en
def de38 (h : Heap) : List AV → Option Eq38
  | [s, q, t, e] => match deSc h s, deQ h q, rd dNs h t, deEn h e with
    | some s, some q, some t, some e => some ⟨s, q, t, e⟩
    | _, _, _, _ => none
  | _ => none
theorem de38_out {h : Heap} {args : List AV} {v : Eq38} (e : de38 h args = some v) : ∃ s q t e, args = [s, q, t, e] ∧ deSc h s = some v.sc ∧ deQ h q = some v.q ∧ rd dNs h t = some v.t ∧ deEn h e = some v.en := by
  unfold de38 at e
  split at e
  · split at e
    · rename_i e1 e2 e3 e4
      cases e
      exact ⟨_, _, _, _, rfl, e1, e2, e3, e4⟩
    · cases e
  · cases e
theorem de38_in {h : Heap} {s q t e : AV} {v : Eq38} (e1 : deSc h s = some v.sc) (e2 : deQ h q = some v.q) (e3 : rd dNs h t = some v.t) (e4 : deEn h e = some v.en) : de38 h [s, q, t, e] = some v := by
  simp only [de38, e1, e2, e3, e4]
theorem de38_mono (h h' : Heap) (args : List AV) (v : Eq38) (hh : h.le h') (e : de38 h args = some v) : de38 h' args = some v := by
  obtain ⟨s, q, t, x, rfl, e1, e2, e3, e4⟩ := de38_out e
  exact de38_in (deSc_sim hh.sim e1) (deQ_sim hh.sim e2) (rd_mono hh e3) (deEn_sim hh.sim e4)
def G38 := pureH de38 EqOk fun v => vv (evalV v.sc (vars v.q.items) v.en v.t)
def tb37 : List (FuncId × (List AV → Heap → PRes)) := [(67, G67a)]
set_option maxRecDepth 100000 in
set_option maxHeartbeats 4000000 in
theorem P37 : P0 (7 :: S67) 37 G38 := by
  refine mkH 4 (S := 7 :: S67) (l := tb37) (tb_cons P67a tb_nil) Tryd.func37 rfl (by kernel_rfl) de38_mono (fun h l x e => by obtain ⟨s, q, t, y, rfl, _⟩ := de38_out e; exact Nat.le_refl _) (fun a => rfl) (fun args v h n e hp hn => ?_)
  obtain ⟨sa, qa, ta, ea, rfl, e1, e2, e3, e4⟩ := de38_out e
  obtain ⟨sc, q, t, en⟩ := v
  obtain ⟨hsc, hqb, hsm, hrg, hen⟩ := hp
  simp only [] at e1 e2 e3 e4 hsc hqb hsm hrg hen ⊢
  have g2 := q_agree hn e2
  have g3 := rd_agree hn e3
  obtain ⟨c1, rfl, r1⟩ := deSc_out e1
  obtain ⟨qa1, qa2, qa3, rfl, e5, e6, e7⟩ := deQ_out e2
  obtain ⟨la, rfl, e8⟩ := deEn_out e4
  have t1 := (sl_is r1).2.2.2.1
  have t2 := (sl_is e5).2.2.2.1
  have t3 := (sl_is e6).2.2.2.1
  have t4 := (sl_is e7).2.2.2.1
  have t5 := (sl_is e8).2.2.2.1
  obtain ⟨s1, s2, s3, s4, s5⟩ := sl_is e3
  have p1 := rd_agree hn r1
  have p4 := rd_agree hn e8
  simp only [ii, ss] at g2
  simp [evs, aeval, binS, cx_ti, cx_G, cx_pf, cx_tw, ti, globS, glob, ldcs_1, ldcs_2, ldcs_3, ldcs_4, ldcs_5, ldcs_7, sls.eq_1, slc.eq_1, pfL, ii, ss, t1, t2, t3, t4, t5, s1, s2, s3, s4, s5, tb37]
  have ag : ∀ b1 b2 b3 b4 : Option Blk, agree n (roH h) (up (up (up (up (roH h) n b1) (n + 1) b2) (n + 2) b3) (n + 3) b4) := fun b1 b2 b3 b4 => by simp [agree_up, agree_refl]
  have fr : ∀ b1 b2 b3 b4 : Option Blk, Fresh (n + 4) (up (up (up (up (roH h) n b1) (n + 1) b2) (n + 2) b3) (n + 3) b4) := fun b1 b2 b3 b4 => by simp [fresh_up, (roH_fresh hn).add]
  refine (acall_any (S := [7]) (by simp) (c54 (g2 _ (ag _ _ _ _)) (g3 _ (ag _ _ _ _)) hqb hsm (fr _ _ _ _))).mono ?_
  rintro v h2 n2 ⟨a1, a2, a3, a4⟩
  have b0 : h2 n = some ⟨[c1], 0, true, 1⟩ := by rw [a1 n (by omega)]; simp [up]
  have b3 : h2 (n + 3) = some ⟨[.v (.bool false), .v (.int .i64 0)], 0, true, 2⟩ := by rw [a1 (n + 3) (by omega)]; simp [up]
  have b2 : h2 (n + 2) = some ⟨[la, .v (.int .i64 en.each), .v (.int .i64 en.pos)], 0, true, 3⟩ := by rw [a1 (n + 2) (by omega)]; simp [up]
  have ag2 : agree n (roH h) h2 := fun j hj => by rw [a1 j (by omega)]; exact ag _ _ _ _ j hj
  unfold runPost at a4
  cases hr : runT (vars q.items) t with
  | false =>
    rw [hr] at a4
    simp only [Bool.false_eq_true, if_false] at a4
    subst a4
    have hv : evalV sc (vars q.items) en t = unk := by simp [evalV, hr]
    simp [evs, aeval, binS, cx_ti, cx_G, cx_pf, cx_tw, ti, globS, glob, ldcs_1, ldcs_2, ldcs_3, ldcs_4, ldcs_5, ldcs_7, sls.eq_1, slc.eq_1, pfL, b3, hv, vv, unk, bv]
  | true =>
    rw [hr] at a4
    simp only [if_true] at a4
    obtain ⟨w, rfl, hw, hw1, hw2⟩ := a4
    have hv : evalV sc (vars q.items) en t = valAt sc (t.map (itemV (vars q.items))) en t (t.length - 1) := by simp [evalV, hr]
    have hto := run_trok hsc hsm hen hr
    have hpos := tree_pos hto.tr
    simp only [] at hpos
    have hl1 : IntKind.i64.wrap ((t.length : Int) - 1) = ((t.length - 1 : Nat) : Int) := by
      have := wrapm1 (e := t.length - 1) (by have : t.length * 64 ≤ 140737488355328 := hsm; unfold big; omega)
      rwa [show t.length - 1 + 1 = t.length by omega] at this
    have hlt : ((t.length - 1 : Nat) : Int) < t.length := by omega
    have hlt2 : t.length - 1 < t.length := by omega
    have hpos0 : 0 < t.length := hpos
    have gev : ∀ h', agree n2 h2 h' → h' n2 = some ⟨[c1, ta, .s w 0 0 t.length, la, .v (.int .i64 en.each), .v (.int .i64 en.pos)], 0, true, 6⟩ → deEvr h' (.p n2 0 0) = some ⟨sc, t, t.map (itemV (vars q.items)), en⟩ := fun h' ha hb => by
      have ag3 : agree n (roH h) h' := fun j hj => by rw [ha j (by omega)]; exact ag2 j hj
      have hiw : rd dIs h' (.s w 0 0 t.length) = some (t.map (itemV (vars q.items))) := by
        have := ints_in (h := h') (w := w) (l := t.map (itemV (vars q.items))) (by rw [ha w hw2]; exact hw)
        rwa [List.length_map] at this
      exact deEvr_in (q := ⟨sc, t, t.map (itemV (vars q.items)), en⟩) hb (p1 _ ag3) (g3 _ ag3) hiw (p4 _ ag3)
    have z1 : ¬ n = n2 := by omega
    have z2 : ¬ n + 2 = n2 := by omega
    have z3 : ¬ n + 3 = n2 := by omega
    generalize hcast : ((t.length - 1 : Nat) : Int) = lm at *
    have hlm : lm.toNat = t.length - 1 := by omega
    have hlm0 : 0 ≤ lm := by omega
    simp [evs, aeval, binS, cx_ti, cx_G, cx_pf, cx_tw, ti, globS, glob, ldcs_1, ldcs_2, ldcs_3, ldcs_4, ldcs_5, ldcs_7, sls.eq_1, slc.eq_1, pfL, b0, b2, b3, t1, t5, s1, s2, s3, s4, s5, bv, hv, G67a, pureH, de67, gev, agree_up, agree_refl, hl1, hto, hlt, hlm, hlm0, vv, z1, z2, z3]
/-! ### the document's -/
end Go.Proofs.YtkfphaphiikloaaDoor
