/-
  TREES, PART P: the value of a node: the document's.
-/
import Derived.Test.YtkfphaphiikloaaDoorX27
import Derived.Test.YtkfphaphiikloaaDoorX31
import Derived.Test.YtkfphaphiikloaaDoorX32
set_option linter.unusedSimpArgs false
set_option linter.unusedVariables false
set_option linter.constructorNameAsVariable false
namespace Go.Proofs.YtkfphaphiikloaaDoor
open Go Go.Eng

def deVc : List AV → Option V
  | [.v (.bool k), .v (.int .i64 n)] => some ⟨k, n⟩
  | _ => none
theorem deVc_out {l : List AV} {x : V} (h : deVc l = some x) : l = vcells x := by
  unfold deVc at h
  split at h
  · cases h; rfl
  · cases h
def dV : De V where
  run _ l := deVc l
  sim {h h' l x} hh e := e
theorem Flat.v : Flat 2 dV vcells := ⟨fun _ _ _ e => deVc_out e, fun _ _ => rfl, fun _ => rfl⟩
def dVs : De (List V) := De.sl 2 dV
theorem vs_at {h : Heap} {a : AV} {l : List V} (e : rd dVs h a = some l) : (l = [] ∧ (a = .v (.slice none 0 0) ∨ a = .e)) ∨
    ∃ id off k, a = .s id k.ver off l.length ∧ h id = some k ∧ off + l.length * 2 ≤ k.cells.length ∧ ∀ i (hi : i < l.length), k.cells[off + i * 2]? = some (.v (.bool l[i].k)) ∧ k.cells[off + (i * 2 + 1)]? = some (.v (.int .i64 l[i].n)) := by
  rcases sl_at e with h0 | ⟨id, off, k, h1, h2, h3, h4⟩
  · exact .inl h0
  · refine .inr ⟨id, off, k, h1, h2, h3, fun i hi => ?_⟩
    have h5 := deVc_out (h4 i hi)
    have t0 := cell_of (c := 0) h5 rfl (by omega)
    have t1 := cell_of (c := 1) h5 rfl (by omega)
    rw [Nat.add_assoc] at t1
    exact ⟨t0, t1⟩
/-- What a node's value is asked of. -/
structure Vq where
  sc : List Ty
  q : Qu
  x : Nd
  done : List V
  en : En
structure VqOk (v : Vq) : Prop where
  sc : smallS v.sc
  ln : v.q.items.length < big
  ar : 0 ≤ arity v.x.op
  a1 : 1 ≤ arity v.x.op → 0 ≤ v.x.a ∧ v.x.a < v.done.length
  b2 : arity v.x.op = 2 → 0 ≤ v.x.b ∧ v.x.b < v.done.length
  it : 4 ≤ v.x.op → v.x.op ≤ 11 → 0 ≤ ixOf (vars v.q.items) v.x.var
  rg : ∀ y ∈ v.done, Rng y.n
  en : EnOk v.en
def de68 (h : Heap) : List AV → Option Vq
  | [s, q, x, d, e] => match deSc h s, deQ h q, deN x, rd dVs h d, deEn h e with
    | some s, some q, some x, some d, some e => some ⟨s, q, x, d, e⟩
    | _, _, _, _, _ => none
  | _ => none
theorem de68_out {h : Heap} {args : List AV} {v : Vq} (e : de68 h args = some v) : ∃ s q d e, args = [s, q, nn v.x, d, e] ∧ deSc h s = some v.sc ∧ deQ h q = some v.q ∧ rd dVs h d = some v.done ∧ deEn h e = some v.en := by
  unfold de68 at e
  split at e
  · split at e
    · rename_i e1 e2 e3 e4 e5
      cases e
      exact ⟨_, _, _, _, by rw [deN_out e3], e1, e2, e4, e5⟩
    · cases e
  · cases e
theorem de68_mono (h h' : Heap) (args : List AV) (v : Vq) (hh : h.le h') (e : de68 h args = some v) : de68 h' args = some v := by
  obtain ⟨s, q, d, x, rfl, e1, e2, e3, e4⟩ := de68_out e
  simp only [de68, deSc_sim hh.sim e1, deQ_sim hh.sim e2, nn, deN_nn, rd_mono hh e3, deEn_sim hh.sim e4]
def G68 := pureH de68 VqOk fun v => vv (nodeV v.sc (ixOf (vars v.q.items) v.x.var) v.en v.x (getV v.done v.x.a) (getV v.done v.x.b))
def tb68 : List (FuncId × (List AV → Heap → PRes)) := [(63, g52), (66, G65), (96, G96), (105, g37), (106, g19), (107, g44), (111, g53), (112, G112), (113, G113)]
set_option maxRecDepth 100000 in
set_option maxHeartbeats 8000000 in
theorem P68 : P0 [] 68 G68 := by
  refine mkH 5 (S := []) (l := tb68) (tb_cons p52 (tb_cons P66 (tb_cons P96 (tb_cons p41 (tb_cons p23 (tb_cons p44 (tb_cons p53 (tb_cons P112 (tb_cons P113 tb_nil))))))))) Tryd.func68 rfl (by kernel_rfl) de68_mono (fun h l x e => by obtain ⟨s, q, d, y, rfl, _⟩ := de68_out e; exact Nat.le_refl _) (fun a => rfl) (fun args v h n e hp hn => ?_)
  obtain ⟨sa, qa, da, ea, rfl, e1, e2, e3, e4⟩ := de68_out e
  have g1 := sc_agree hn e1
  have g2 := q_agree hn e2
  obtain ⟨c1, rfl, r1⟩ := deSc_out e1
  obtain ⟨qa1, qa2, qa3, rfl, e5, e6, e7⟩ := deQ_out e2
  obtain ⟨la, rfl, e8⟩ := deEn_out e4
  obtain ⟨sc, q, ⟨op, num, var, attr, xa, xb⟩, done, ⟨ls, each, pos⟩⟩ := v
  obtain ⟨hsc, hqb, k1, ka, kb, hit, hrg, hen⟩ := hp
  simp only [] at e1 e2 e3 e4 e5 e6 e7 e8 g1 g2 hsc hqb k1 ka kb hit hrg hen ⊢
  simp only [ii, ss] at g2
  have t1 := (sl_is r1).2.2.2.1
  have t2 := (sl_is e5).2.2.2.1
  have t3 := (sl_is e6).2.2.2.1
  have t4 := (sl_is e7).2.2.2.1
  have t5 := (sl_is e8).2.2.2.1
  obtain ⟨s1, s2, s3, s4, s5⟩ := sl_is e3
  generalize hix : ixOf (vars q.items) var = it at *
  obtain ⟨cl, f1, f2, u1, u2, u3, u4, u5⟩ := li_facts (e := ⟨ls, each, pos⟩) hn e8 it
  simp only [] at f1 f2 u1 u2 u3 u4 u5
  have f0 := fun h' ha => (f1 h' ha).1
  replace f1 := fun h' ha => (f1 h' ha).2
  have hlen := hen.lenAt it
  have hev := hen.evAt it
  have hpos := hen.pos
  simp only [] at hlen hev hpos
  have hsm : smallR sc (listAt ls it) := ⟨hsc, by simp only [big]; omega⟩
  have hokf : okF sc (listAt ls it) := ⟨hsc, hlen, hev⟩
  have v1 : n ≤ n + 1 := by omega
  have v2 : n ≤ n + 2 := by omega
  have v3 : n ≤ n + 3 := by omega
  have v4 : n ≤ n + 4 := by omega
  have v5 : n ≤ n + 5 := by omega
  unfold Rng at hpos
  by_cases o1 : op = 1
  · subst o1
    simp [evs, aeval, binS, cx_ti, cx_G, cx_pf, cx_tw, ti, globS, glob, ldcs_1, ldcs_2, ldcs_3, ldcs_4, ldcs_5, ldcs_7, sls.eq_1, slc.eq_1, pfL, nn, ii, ss, vv, t1, t2, t3, t4, t5, s1, s2, s3, s4, s5, ncells, tb68, G65, pureS, G96, pureH, deQS, g2, hqb, hix, f0, f1, agree_up, agree_refl, v1, v2, v3, v4, v5, u1, u2, u3, u4, u5, g53, g52, pure1, deI, nodeV, knownV]
  by_cases o2 : op = 2
  · subst o2
    simp [evs, aeval, binS, cx_ti, cx_G, cx_pf, cx_tw, ti, globS, glob, ldcs_1, ldcs_2, ldcs_3, ldcs_4, ldcs_5, ldcs_7, sls.eq_1, slc.eq_1, pfL, nn, ii, ss, vv, t1, t2, t3, t4, t5, s1, s2, s3, s4, s5, ncells, tb68, G65, pureS, G96, pureH, deQS, g2, hqb, hix, f0, f1, agree_up, agree_refl, v1, v2, v3, v4, v5, u1, u2, u3, u4, u5, g53, g52, pure1, deI, nodeV, knownV]
  by_cases o3 : op = 3
  · subst o3
    simp [evs, aeval, binS, cx_ti, cx_G, cx_pf, cx_tw, ti, globS, glob, ldcs_1, ldcs_2, ldcs_3, ldcs_4, ldcs_5, ldcs_7, sls.eq_1, slc.eq_1, pfL, nn, ii, ss, vv, t1, t2, t3, t4, t5, s1, s2, s3, s4, s5, ncells, tb68, G65, pureS, G96, pureH, deQS, g2, hqb, hix, f0, f1, agree_up, agree_refl, v1, v2, v3, v4, v5, u1, u2, u3, u4, u5, g53, g52, pure1, deI, nodeV, knownV]
  by_cases o11 : op ≤ 11
  · have har0 : 1 ≤ op := by unfold arity at k1; grind
    by_cases o4 : op = 4
    · subst o4
      have hit0 := hit (by omega) o11
      by_cases ht : it = each
      · subst ht
        simp [evs, aeval, binS, cx_ti, cx_G, cx_pf, cx_tw, ti, globS, glob, ldcs_1, ldcs_2, ldcs_3, ldcs_4, ldcs_5, ldcs_7, sls.eq_1, slc.eq_1, pfL, nn, ii, ss, vv, t1, t2, t3, t4, t5, s1, s2, s3, s4, s5, ncells, tb68, G65, pureS, G96, pureH, deQS, g2, hqb, hix, f0, f1, agree_up, agree_refl, v1, v2, v3, v4, v5, u1, u2, u3, u4, u5, g53, g52, pure1, deI, G112, de112, g1, f2, hsm, nodeV, codeM, mentionV, hit0]
      · simp [evs, aeval, binS, cx_ti, cx_G, cx_pf, cx_tw, ti, globS, glob, ldcs_1, ldcs_2, ldcs_3, ldcs_4, ldcs_5, ldcs_7, sls.eq_1, slc.eq_1, pfL, nn, ii, ss, vv, t1, t2, t3, t4, t5, s1, s2, s3, s4, s5, ncells, tb68, G65, pureS, G96, pureH, deQS, g2, hqb, hix, f0, f1, agree_up, agree_refl, v1, v2, v3, v4, v5, u1, u2, u3, u4, u5, g53, g52, pure1, deI, G112, de112, g1, f2, hsm, nodeV, codeM, mentionV, ht]
    by_cases o5 : op = 5
    · subst o5
      simp [evs, aeval, binS, cx_ti, cx_G, cx_pf, cx_tw, ti, globS, glob, ldcs_1, ldcs_2, ldcs_3, ldcs_4, ldcs_5, ldcs_7, sls.eq_1, slc.eq_1, pfL, nn, ii, ss, vv, t1, t2, t3, t4, t5, s1, s2, s3, s4, s5, ncells, tb68, G65, pureS, G96, pureH, deQS, g2, hqb, hix, f0, f1, agree_up, agree_refl, v1, v2, v3, v4, v5, u1, u2, u3, u4, u5, g53, g52, pure1, deI, nodeV, codeM, mentionV, knownV]
    have hit0 := hit (by omega) o11
    by_cases o9 : op = 11
    · subst o9
      by_cases ht : it = each
      · subst ht
        by_cases hp1 : 1 ≤ pos
        · have hw3 : IntKind.i64.wrap (pos - 1) = pos - 1 := W_id (by unfold Rng; omega)
          simp [evs, aeval, binS, cx_ti, cx_G, cx_pf, cx_tw, ti, globS, glob, ldcs_1, ldcs_2, ldcs_3, ldcs_4, ldcs_5, ldcs_7, sls.eq_1, slc.eq_1, pfL, nn, ii, ss, vv, t1, t2, t3, t4, t5, s1, s2, s3, s4, s5, ncells, tb68, G65, pureS, G96, pureH, deQS, g2, hqb, hix, f0, f1, agree_up, agree_refl, v1, v2, v3, v4, v5, u1, u2, u3, u4, u5, g53, g52, pure1, deI, G112, de112, g1, f2, hsm, nodeV, codeM, mentionV, hit0, hp1, hw3]
        · have hone : oneV (listAt ls it) (IntKind.i64.wrap (pos - 1)) (colOf sc attr) = unk := by
            by_cases hmin : pos = -9223372036854775808
            · subst hmin
              have : IntKind.i64.wrap (-9223372036854775808 - 1) = 9223372036854775807 := by decide
              rw [this]
              exact one_high _ (by omega)
            · have hw2 : IntKind.i64.wrap (pos - 1) = pos - 1 := W_id (by unfold Rng; omega)
              rw [hw2]
              exact one_low _ (by omega)
          simp [evs, aeval, binS, cx_ti, cx_G, cx_pf, cx_tw, ti, globS, glob, ldcs_1, ldcs_2, ldcs_3, ldcs_4, ldcs_5, ldcs_7, sls.eq_1, slc.eq_1, pfL, nn, ii, ss, vv, t1, t2, t3, t4, t5, s1, s2, s3, s4, s5, ncells, tb68, G65, pureS, G96, pureH, deQS, g2, hqb, hix, f0, f1, agree_up, agree_refl, v1, v2, v3, v4, v5, u1, u2, u3, u4, u5, g53, g52, pure1, deI, G112, de112, g1, f2, hsm, nodeV, codeM, mentionV, hit0, hp1, hone, unk]
      · simp [evs, aeval, binS, cx_ti, cx_G, cx_pf, cx_tw, ti, globS, glob, ldcs_1, ldcs_2, ldcs_3, ldcs_4, ldcs_5, ldcs_7, sls.eq_1, slc.eq_1, pfL, nn, ii, ss, vv, t1, t2, t3, t4, t5, s1, s2, s3, s4, s5, ncells, tb68, G65, pureS, G96, pureH, deQS, g2, hqb, hix, f0, f1, agree_up, agree_refl, v1, v2, v3, v4, v5, u1, u2, u3, u4, u5, g53, g52, pure1, deI, G112, de112, g1, f2, hsm, nodeV, codeM, mentionV, ht, unk]
    have l6 : 6 ≤ op := by omega
    have l10 : op ≤ 10 := by omega
    have m4 : ¬ codeM op = 4 := by unfold codeM; grind
    have m3 : ¬ codeM op = 3 := by unfold codeM; grind
    have m2 : ¬ codeM op = 2 := by unfold codeM; grind
    have m9 : codeM op + 1 = op := by unfold codeM; grind
    have hnv : nodeV sc it ⟨ls, each, pos⟩ ⟨op, num, var, attr, xa, xb⟩ (getV done xa) (getV done xb) = allV (listAt ls it) (colOf sc attr) op := by simp only [nodeV, o1, o2, o3, o11, if_true, if_false, mentionV, m4, m3, m2, m9]
    rw [hnv]
    simp [evs, aeval, binS, cx_ti, cx_G, cx_pf, cx_tw, ti, globS, glob, ldcs_1, ldcs_2, ldcs_3, ldcs_4, ldcs_5, ldcs_7, sls.eq_1, slc.eq_1, pfL, nn, ii, ss, vv, t1, t2, t3, t4, t5, s1, s2, s3, s4, s5, ncells, tb68, G65, pureS, G96, pureH, deQS, g2, hqb, hix, f0, f1, agree_up, agree_refl, v1, v2, v3, v4, v5, u1, u2, u3, u4, u5, g53, g52, pure1, deI, o1, o2, o3, o4, o5, o9, l6, l10, G113, de112, g1, f2, hokf]
  have har : 1 ≤ arity op := by unfold arity at k1 ⊢; grind
  obtain ⟨c, rfl⟩ : ∃ c : Nat, xa = c := ⟨xa.toNat, by have := (ka har).1; omega⟩
  have hcd : c < done.length := by have := (ka har).2; omega
  rcases vs_at e3 with ⟨h0, _⟩ | ⟨id, off, k, rfl, hk, ho, hat⟩
  · rw [h0] at hcd; simp at hcd
  obtain ⟨hck, hcn⟩ := hat c hcd
  have hro := ro_at hk
  have h0 := ne_of hk hn
  have h00 := ne_of hk hn 0
  simp only [Nat.add_zero] at h00
  have hw2 : off + (c * 2 + 2) ≤ k.cells.length := by omega
  have hgc : getV done (c : Int) = done[c] := by unfold getV; rw [Int.toNat_natCast, List.getD_eq_getElem?_getD, List.getElem?_eq_getElem hcd]; rfl
  have hrc := hrg _ (List.getElem_mem hcd)
  have n4 : ¬ op = 4 := by omega
  have n5 : ¬ op = 5 := by omega
  have n11 : ¬ op = 11 := by omega
  have n10 : ¬ op ≤ 10 := by omega
  rw [hgc]
  generalize done[c] = va at *
  obtain ⟨ak, an⟩ := va
  simp only [] at hck hcn hrc
  by_cases p12 : op = 12
  · subst p12
    simp [evs, aeval, binS, cx_ti, cx_G, cx_pf, cx_tw, ti, globS, glob, ldcs_1, ldcs_2, ldcs_3, ldcs_4, ldcs_5, ldcs_7, sls.eq_1, slc.eq_1, pfL, nn, ii, ss, vv, t1, t2, t3, t4, t5, s1, s2, s3, s4, s5, ncells, tb68, G65, pureS, G96, pureH, deQS, g2, hqb, hix, f0, f1, agree_up, agree_refl, v1, v2, v3, v4, v5, u1, u2, u3, u4, u5, g53, g52, pure1, deI, o1, o2, o3, n4, n5, n11, n10, o11, hcd, hck, hcn, hw2, hro, h0, h00, nodeV, g37, deV]
  by_cases p13 : op = 13
  · subst p13
    simp [evs, aeval, binS, cx_ti, cx_G, cx_pf, cx_tw, ti, globS, glob, ldcs_1, ldcs_2, ldcs_3, ldcs_4, ldcs_5, ldcs_7, sls.eq_1, slc.eq_1, pfL, nn, ii, ss, vv, t1, t2, t3, t4, t5, s1, s2, s3, s4, s5, ncells, tb68, G65, pureS, G96, pureH, deQS, g2, hqb, hix, f0, f1, agree_up, agree_refl, v1, v2, v3, v4, v5, u1, u2, u3, u4, u5, g53, g52, pure1, deI, o1, o2, o3, n4, n5, n11, n10, o11, hcd, hck, hcn, hw2, hro, h0, h00, nodeV, g19, deV]
  have har2 : arity op = 2 := by unfold arity at k1 ⊢; grind
  obtain ⟨d, rfl⟩ : ∃ d : Nat, xb = d := ⟨xb.toNat, by have := (kb har2).1; omega⟩
  have hdd : d < done.length := by have := (kb har2).2; omega
  obtain ⟨hdk, hdn⟩ := hat d hdd
  have hw3 : off + (d * 2 + 2) ≤ k.cells.length := by omega
  have hgd : getV done (d : Int) = done[d] := by unfold getV; rw [Int.toNat_natCast, List.getD_eq_getElem?_getD, List.getElem?_eq_getElem hdd]; rfl
  have hrd := hrg _ (List.getElem_mem hdd)
  rw [hgd]
  generalize done[d] = vb at *
  obtain ⟨bk, bn⟩ := vb
  simp only [] at hdk hdn hrd
  have hae := apply_eq op (a := ⟨ak, an⟩) (b := ⟨bk, bn⟩) hrc hrd
  simp [evs, aeval, binS, cx_ti, cx_G, cx_pf, cx_tw, ti, globS, glob, ldcs_1, ldcs_2, ldcs_3, ldcs_4, ldcs_5, ldcs_7, sls.eq_1, slc.eq_1, pfL, nn, ii, ss, vv, t1, t2, t3, t4, t5, s1, s2, s3, s4, s5, ncells, tb68, G65, pureS, G96, pureH, deQS, g2, hqb, hix, f0, f1, agree_up, agree_refl, v1, v2, v3, v4, v5, u1, u2, u3, u4, u5, g53, g52, pure1, deI, o1, o2, o3, n4, n5, n11, n10, o11, hcd, hck, hcn, hw2, hro, h0, h00, nodeV, p12, p13, hdd, hdk, hdn, hw3, g44, pure3, deV, hae]
end Go.Proofs.YtkfphaphiikloaaDoor

/-
  TREES, PART Q: Eval, on both sides.
-/
namespace Go.Proofs.YtkfphaphiikloaaDoor
open Go Go.Eng

def G67a := pureH de67 (fun q => TrOk q.1 ∧ 0 ≤ q.2 ∧ q.2 < (q.1.t.length : Int)) fun q => vv (valAt q.1.sc q.1.its q.1.en q.1.t q.2.toNat)
theorem P67a : P0 S67 67 G67a := by
  refine ⟨fun args h h' hh hs => ?_, .inl ⟨callable Tryd.func67 rfl rfl _ _, fun ρ h w args vs r hmx ha hs => ?_⟩⟩
  · obtain ⟨a, e, hp, hall⟩ := pureH_out de67_mono hs
    have e1 : G67a args h' = _ := hall h' hh
    have e2 : G67a args h = _ := hall h (fun _ _ e => e)
    rw [e1, e2]
    exact ⟨hp, rfl⟩
  · obtain ⟨a, e, hp, hall⟩ := pureH_out de67_mono hs
    have e2 : G67a args h = _ := hall h (fun _ _ e => e)
    have e3 : G67 a.1.t.length args h = ⟨TrOk a.1 ∧ 0 ≤ a.2 ∧ a.2 < (a.1.t.length : Int) ∧ a.2 < (a.1.t.length : Int), vv (valAt a.1.sc a.1.its a.1.en a.1.t a.2.toNat)⟩ := by simp only [G67, pureH, e]
    have hs' : (G67 a.1.t.length args h).side := by rw [e3]; exact ⟨hp.1, hp.2.1, hp.2.2, hp.2.2⟩
    have hv : (G67 a.1.t.length args h).val = (G67a args h).val := by rw [e3, e2]
    rcases (P67 a.1.t.length).2 with ⟨_, k⟩ | k
    · have := k ρ h w args vs r hmx ha hs'
      rwa [hv] at this
    · obtain ⟨y, e9, _⟩ := k ρ h w args vs ha hs'
      rw [callable (S := S67) Tryd.func67 rfl rfl] at e9
      cases e9
theorem okTo_get {vs : List ByteArray} {t : List Nd} (h : okTo vs t t.length = true) (i : Nat) (hi : i < t.length) : nodeOk vs t t[i] = true := by
  unfold okTo at h
  rw [List.take_length, List.all_eq_true] at h
  exact h _ (List.getElem_mem hi)
theorem node_item {sc : List Ty} {vs : List ByteArray} {en : En} {x : Nd} {va vb : V} (h : 1 ≤ x.op) : nodeV sc (ixOf vs x.var) en x va vb = nodeV sc (itemV vs x) en x va vb := by
  unfold nodeV itemV
  by_cases h1 : x.op = 1
  · simp [h1]
  by_cases h2 : x.op = 2
  · simp [h2]
  by_cases h3 : x.op = 3
  · simp [h3]
  by_cases h4 : x.op ≤ 11
  · have : 4 ≤ x.op ∧ x.op ≤ 11 := by omega
    simp only [h1, h2, h3, h4, if_false, if_true, this, and_self]
  · simp only [h1, h2, h3, h4, if_false]
theorem run_trok {sc : List Ty} {vs : List ByteArray} {t : List Nd} {en : En} (h1 : smallS sc) (h2 : smallT t) (h3 : EnOk en) (hr : runT vs t = true) : TrOk ⟨sc, t, t.map (itemV vs), en⟩ := by
  simp only [runT, Bool.and_eq_true] at hr
  refine ⟨h1, h2, hr.1, by simp, fun i hi h4 h11 => ?_, h3⟩
  have := okTo_get hr.2 i hi
  simp only [] at hi h4 h11 ⊢
  rw [nodeOk, if_neg (by omega), if_pos h11, decide_eq_true_eq] at this
  rw [List.getD_eq_getElem?_getD, List.getElem?_map, List.getElem?_eq_getElem hi]
  simp only [Option.map_some, Option.getD_some, itemV, if_pos (And.intro h4 h11)]
  exact this
theorem map_flat (l : List Int) : l.map ii = l.flatMap fun x => [ii x] := by
  induction l with
  | nil => rfl
  | cons x l ih => rw [List.map_cons, List.flatMap_cons, ih]; rfl
theorem ints_in {h : Heap} {w : Nat} {l : List Int} {u : Nat} {own : Bool} {esz : Nat} (hk : h w = some ⟨l.map ii, u, own, esz⟩) : rd dIs h (.s w u 0 l.length) = some l := by
  refine flat_in Flat.int hk rfl (r := []) ?_
  simp only [List.append_nil, map_flat]
/-- What Eval is asked of. -/
structure Eq38 where
  sc : List Ty
  q : Qu
  t : List Nd
  en : En
structure EqOk (v : Eq38) : Prop where
  sc : smallS v.sc
  ln : v.q.items.length < big
  sm : smallT v.t
  rg : ∀ x ∈ v.t, Rng x.n
  en : EnOk v.en
def de38 (h : Heap) : List AV → Option Eq38
  | [s, q, t, e] => match deSc h s, deQ h q, rd dNs h t, deEn h e with
    | some s, some q, some t, some e => some ⟨s, q, t, e⟩
    | _, _, _, _ => none
  | _ => none
theorem de38_out {h : Heap} {args : List AV} {v : Eq38} (e : de38 h args = some v) : ∃ s q t e, args = [s, q, t, e] ∧ deSc h s = some v.sc ∧ deQ h q = some v.q ∧ rd dNs h t = some v.t ∧ deEn h e = some v.en := by
  unfold de38 at e
  split at e
  · split at e
    · rename_i e1 e2 e3 e4
      cases e
      exact ⟨_, _, _, _, rfl, e1, e2, e3, e4⟩
    · cases e
  · cases e
theorem de38_in {h : Heap} {s q t e : AV} {v : Eq38} (e1 : deSc h s = some v.sc) (e2 : deQ h q = some v.q) (e3 : rd dNs h t = some v.t) (e4 : deEn h e = some v.en) : de38 h [s, q, t, e] = some v := by
  simp only [de38, e1, e2, e3, e4]
theorem de38_mono (h h' : Heap) (args : List AV) (v : Eq38) (hh : h.le h') (e : de38 h args = some v) : de38 h' args = some v := by
  obtain ⟨s, q, t, x, rfl, e1, e2, e3, e4⟩ := de38_out e
  exact de38_in (deSc_sim hh.sim e1) (deQ_sim hh.sim e2) (rd_mono hh e3) (deEn_sim hh.sim e4)
def G38 := pureH de38 EqOk fun v => vv (evalV v.sc (vars v.q.items) v.en v.t)
def tb37 : List (FuncId × (List AV → Heap → PRes)) := [(67, G67a)]
set_option maxRecDepth 100000 in
set_option maxHeartbeats 4000000 in
theorem P37 : P0 (7 :: S67) 37 G38 := by
  refine mkH 4 (S := 7 :: S67) (l := tb37) (tb_cons P67a tb_nil) Tryd.func37 rfl (by kernel_rfl) de38_mono (fun h l x e => by obtain ⟨s, q, t, y, rfl, _⟩ := de38_out e; exact Nat.le_refl _) (fun a => rfl) (fun args v h n e hp hn => ?_)
  obtain ⟨sa, qa, ta, ea, rfl, e1, e2, e3, e4⟩ := de38_out e
  obtain ⟨sc, q, t, en⟩ := v
  obtain ⟨hsc, hqb, hsm, hrg, hen⟩ := hp
  simp only [] at e1 e2 e3 e4 hsc hqb hsm hrg hen ⊢
  have g2 := q_agree hn e2
  have g3 := rd_agree hn e3
  obtain ⟨c1, rfl, r1⟩ := deSc_out e1
  obtain ⟨qa1, qa2, qa3, rfl, e5, e6, e7⟩ := deQ_out e2
  obtain ⟨la, rfl, e8⟩ := deEn_out e4
  have t1 := (sl_is r1).2.2.2.1
  have t2 := (sl_is e5).2.2.2.1
  have t3 := (sl_is e6).2.2.2.1
  have t4 := (sl_is e7).2.2.2.1
  have t5 := (sl_is e8).2.2.2.1
  obtain ⟨s1, s2, s3, s4, s5⟩ := sl_is e3
  have p1 := rd_agree hn r1
  have p4 := rd_agree hn e8
  simp only [ii, ss] at g2
  simp [evs, aeval, binS, cx_ti, cx_G, cx_pf, cx_tw, ti, globS, glob, ldcs_1, ldcs_2, ldcs_3, ldcs_4, ldcs_5, ldcs_7, sls.eq_1, slc.eq_1, pfL, ii, ss, t1, t2, t3, t4, t5, s1, s2, s3, s4, s5, tb37]
  have ag : ∀ b1 b2 b3 b4 : Option Blk, agree n (roH h) (up (up (up (up (roH h) n b1) (n + 1) b2) (n + 2) b3) (n + 3) b4) := fun b1 b2 b3 b4 => by simp [agree_up, agree_refl]
  have fr : ∀ b1 b2 b3 b4 : Option Blk, Fresh (n + 4) (up (up (up (up (roH h) n b1) (n + 1) b2) (n + 2) b3) (n + 3) b4) := fun b1 b2 b3 b4 => by simp [fresh_up, (roH_fresh hn).add]
  refine (acall_any (S := [7]) (by simp) (c54 (g2 _ (ag _ _ _ _)) (g3 _ (ag _ _ _ _)) hqb hsm (fr _ _ _ _))).mono ?_
  rintro v h2 n2 ⟨a1, a2, a3, a4⟩
  have b0 : h2 n = some ⟨[c1], 0, true, 1⟩ := by rw [a1 n (by omega)]; simp [up]
  have b3 : h2 (n + 3) = some ⟨[.v (.bool false), .v (.int .i64 0)], 0, true, 2⟩ := by rw [a1 (n + 3) (by omega)]; simp [up]
  have b2 : h2 (n + 2) = some ⟨[la, .v (.int .i64 en.each), .v (.int .i64 en.pos)], 0, true, 3⟩ := by rw [a1 (n + 2) (by omega)]; simp [up]
  have ag2 : agree n (roH h) h2 := fun j hj => by rw [a1 j (by omega)]; exact ag _ _ _ _ j hj
  unfold runPost at a4
  cases hr : runT (vars q.items) t with
  | false =>
    rw [hr] at a4
    simp only [Bool.false_eq_true, if_false] at a4
    subst a4
    have hv : evalV sc (vars q.items) en t = unk := by simp [evalV, hr]
    simp [evs, aeval, binS, cx_ti, cx_G, cx_pf, cx_tw, ti, globS, glob, ldcs_1, ldcs_2, ldcs_3, ldcs_4, ldcs_5, ldcs_7, sls.eq_1, slc.eq_1, pfL, b3, hv, vv, unk, bv]
  | true =>
    rw [hr] at a4
    simp only [if_true] at a4
    obtain ⟨w, rfl, hw, hw1, hw2⟩ := a4
    have hv : evalV sc (vars q.items) en t = valAt sc (t.map (itemV (vars q.items))) en t (t.length - 1) := by simp [evalV, hr]
    have hto := run_trok hsc hsm hen hr
    have hpos := tree_pos hto.tr
    simp only [] at hpos
    have hl1 : IntKind.i64.wrap ((t.length : Int) - 1) = ((t.length - 1 : Nat) : Int) := by
      have := wrapm1 (e := t.length - 1) (by have : t.length * 64 ≤ 140737488355328 := hsm; unfold big; omega)
      rwa [show t.length - 1 + 1 = t.length by omega] at this
    have hlt : ((t.length - 1 : Nat) : Int) < t.length := by omega
    have hlt2 : t.length - 1 < t.length := by omega
    have hpos0 : 0 < t.length := hpos
    have gev : ∀ h', agree n2 h2 h' → h' n2 = some ⟨[c1, ta, .s w 0 0 t.length, la, .v (.int .i64 en.each), .v (.int .i64 en.pos)], 0, true, 6⟩ → deEvr h' (.p n2 0 0) = some ⟨sc, t, t.map (itemV (vars q.items)), en⟩ := fun h' ha hb => by
      have ag3 : agree n (roH h) h' := fun j hj => by rw [ha j (by omega)]; exact ag2 j hj
      have hiw : rd dIs h' (.s w 0 0 t.length) = some (t.map (itemV (vars q.items))) := by
        have := ints_in (h := h') (w := w) (l := t.map (itemV (vars q.items))) (by rw [ha w hw2]; exact hw)
        rwa [List.length_map] at this
      exact deEvr_in (q := ⟨sc, t, t.map (itemV (vars q.items)), en⟩) hb (p1 _ ag3) (g3 _ ag3) hiw (p4 _ ag3)
    have z1 : ¬ n = n2 := by omega
    have z2 : ¬ n + 2 = n2 := by omega
    have z3 : ¬ n + 3 = n2 := by omega
    generalize hcast : ((t.length - 1 : Nat) : Int) = lm at *
    have hlm : lm.toNat = t.length - 1 := by omega
    have hlm0 : 0 ≤ lm := by omega
    simp [evs, aeval, binS, cx_ti, cx_G, cx_pf, cx_tw, ti, globS, glob, ldcs_1, ldcs_2, ldcs_3, ldcs_4, ldcs_5, ldcs_7, sls.eq_1, slc.eq_1, pfL, b0, b2, b3, t1, t5, s1, s2, s3, s4, s5, bv, hv, G67a, pureH, de67, gev, agree_up, agree_refl, hl1, hto, hlt, hlm, hlm0, vv, z1, z2, z3]
/-! ### the document's -/
def tb38 : List (FuncId × (List AV → Heap → PRes)) := [(57, G57), (63, g52), (68, G68)]
set_option maxRecDepth 100000 in
set_option maxHeartbeats 4000000 in
theorem P38 : P0 [7] 38 G38 := by
  refine mkH 4 (S := [7]) (l := tb38) (tb_cons P57 (tb_cons p52 (tb_cons P68 tb_nil))) Tryd.func38 rfl (by kernel_rfl) de38_mono (fun h l x e => by obtain ⟨s, q, t, y, rfl, _⟩ := de38_out e; exact Nat.le_refl _) (fun a => rfl) (fun args v h n e hp hn => ?_)
  obtain ⟨sa, qa, ta, ea, rfl, e1, e2, e3, e4⟩ := de38_out e
  obtain ⟨sc, q, t, en⟩ := v
  obtain ⟨hsc, hqb, hsm, hrg, hen⟩ := hp
  simp only [] at e1 e2 e3 e4 hsc hqb hsm hrg hen ⊢
  have g1 := sc_agree hn e1
  have g2 := q_agree hn e2
  have g3 := rd_agree hn e3
  have g4 := en_agree hn e4
  obtain ⟨c1, rfl, r1⟩ := deSc_out e1
  obtain ⟨qa1, qa2, qa3, rfl, e5, e6, e7⟩ := deQ_out e2
  obtain ⟨la, rfl, e8⟩ := deEn_out e4
  have t1 := (sl_is r1).2.2.2.1
  have t2 := (sl_is e5).2.2.2.1
  have t3 := (sl_is e6).2.2.2.1
  have t4 := (sl_is e7).2.2.2.1
  have t5 := (sl_is e8).2.2.2.1
  obtain ⟨s1, s2, s3, s4, s5⟩ := sl_is e3
  simp only [ii, ss] at g2 g4
  have v1 : n ≤ n + 1 := by omega
  have v2 : n ≤ n + 2 := by omega
  have v3 : n ≤ n + 3 := by omega
  have hqt : okQT (q, t) := ⟨hqb, hsm⟩
  have key : ∀ e : Nat → AV, e 0 = .g [c1] → e 1 = .g [qa1, ii q.mode, ii q.after, qa2, ii q.within, ss q.par, qa3] → e 2 = ta → e 3 = .g [la, ii en.each, ii en.pos] → awp (cx [7] (pfL tb38)) (Tryd.f38.body.getD .skip) (finQ (cx [7] (pfL tb38)) Tryd.f38 fun z _ _ => z = vv (evalV sc (vars q.items) en t)) ⟨e, roH h, n⟩ := fun e q0 q1 q2 q3 => by
    cases hr : runT (vars q.items) t with
    | false =>
      have hv : evalV sc (vars q.items) en t = unk := by simp [evalV, hr]
      simp [evs, aeval, binS, cx_ti, cx_G, cx_pf, cx_tw, ti, globS, glob, ldcs_1, ldcs_2, ldcs_3, ldcs_4, ldcs_5, ldcs_7, sls.eq_1, slc.eq_1, pfL, Tryd.f38, q0, q1, q2, q3, ii, ss, t1, t2, t3, t4, t5, s1, s2, s3, s4, s5, tb38, G57, pureH, deQT, g2, g3, agree_up, agree_refl, v1, v2, v3, hqt, hr, hv, vv, bv, unk, g52]
    | true =>
      have hv : evalV sc (vars q.items) en t = valAt sc (t.map (itemV (vars q.items))) en t (t.length - 1) := by simp [evalV, hr]
      have hto := run_trok hsc hsm hen hr
      have hpos := tree_pos hto.tr
      simp only [] at hpos
      simp [evs, aeval, binS, cx_ti, cx_G, cx_pf, cx_tw, ti, globS, glob, ldcs_1, ldcs_2, ldcs_3, ldcs_4, ldcs_5, ldcs_7, sls.eq_1, slc.eq_1, pfL, Tryd.f38, q0, q1, q2, q3, ii, ss, t1, t2, t3, t4, t5, s1, s2, s3, s4, s5, tb38, G57, pureH, deQT, g2, g3, agree_up, agree_refl, v1, v2, v3, hqt, hr, bv]
      generalize hits : t.map (itemV (vars q.items)) = its at *
      refine awp_loop (fun s => ∃ j : Nat, j ≤ t.length ∧ s.e 2 = ta ∧ s.e 4 = .p n 0 0 ∧ s.e 5 = .p (n + 1) 0 0 ∧ s.e 7 = .p (n + 2) 0 0 ∧ s.e 8 = .p (n + 3) 0 0 ∧ s.e 11 = ii j ∧ Own s.h (n + 4) s.n (s.e 10) j ((valsTo sc its en t j).flatMap vcells) 2 ∧ agree n (roH h) s.h ∧ s.h n = some ⟨[c1], 0, true, 1⟩ ∧ s.h (n + 1) = some ⟨[qa1, ii q.mode, ii q.after, qa2, ii q.within, ss q.par, qa3], 0, true, 7⟩ ∧ s.h (n + 2) = some ⟨[la, ii en.each, ii en.pos], 0, true, 3⟩ ∧ s.h (n + 3) = some ⟨[.v (.bool false), .v (.int .i64 0)], 0, true, 2⟩ ∧ n + 4 ≤ s.n) (fun s => t.length - (s.e 11).i.toNat) ⟨0, by simp [up, q2, ii, ss, agree_up, agree_refl, valsTo, Own]⟩ ?_
      rintro e' h' n' ⟨j, hj, q2, q4, q5, q7, q8, q11, hown, hag, b0, b1, b2, b3, hnn⟩
      simp only [] at q2 q4 q5 q7 q8 q11 hown hag b0 b1 b2 b3 hnn
      have hvl := vals_len (sc := sc) (its := its) (en := en) (t := t) j
      have hvr := vals_rng (sc := sc) (its := its) hen hrg j
      by_cases hlt : j < t.length
      · have hko := tree_kids hto.tr j hlt
        have hnk := okTo_get (by simp only [runT, Bool.and_eq_true] at hr; exact hr.2) j hlt
        have hni := node_item (sc := sc) (vs := vars q.items) (en := en) (x := t[j]) (va := getV (valsTo sc its en t j) t[j].a) (vb := getV (valsTo sc its en t j) t[j].b) (by have := hko.ar; simp only [] at this; unfold arity at this; grind)
        have hix : its.getD j 0 = itemV (vars q.items) t[j] := by rw [← hits, List.getD_eq_getElem?_getD, List.getElem?_map, List.getElem?_eq_getElem hlt]; rfl
        have hgd : t.getD j nd0 = t[j] := by rw [List.getD_eq_getElem?_getD, List.getElem?_eq_getElem hlt]; rfl
        have hvs : valsTo sc its en t (j + 1) = valsTo sc its en t j ++ [nodeV sc (ixOf (vars q.items) t[j].var) en t[j] (getV (valsTo sc its en t j) t[j].a) (getV (valsTo sc its en t j) t[j].b)] := by
          simp only [valsTo, hgd, hix, hni]
        rcases ns_at e3 with ⟨h0, _⟩ | ⟨id, off, k, rfl, hk, ho', hat⟩
        · rw [h0] at hlt; simp at hlt
        have hr' := hat j hlt
        have ha' := agree_at hn hk hag
        have hid := lt_of hk hn
        have hle : ∀ (X : Ctx) (h' : Heap), h' id = some ⟨k.cells, k.ver, false, k.esz⟩ → ldcs X h' (.p id k.ver (off + j * 6)) 0 6 = ncells t[j] := fun X h' e => ldcs_nd e hr'
        have hw6 : off + (j * 6 + 6) ≤ k.cells.length := by omega
        have hw := wrap_nat (j := j) (by have : t.length * 64 ≤ 140737488355328 := hsm; unfold big; omega)
        have hrun : ∀ h'', agree n' h' h'' → rd dVs h'' (e' 10) = some (valsTo sc its en t j) := fun h'' ha => by
          rcases hown with ⟨h0, hnil, q10⟩ | ⟨w, u, q10, hk3, hw1, hw2⟩
          · rw [q10]
            have : valsTo sc its en t j = [] := List.eq_nil_of_length_eq_zero (by rw [hvl, h0])
            rw [this]; rfl
          · rw [q10]
            have := flat_in Flat.v (l := valsTo sc its en t j) (h := h'') (by rw [ha w hw2]; exact hk3) rfl (r := []) (by simp)
            rwa [hvl] at this
        obtain ⟨w1, w2, w3, w4, w5⟩ := own_is hown
        have hvq : VqOk ⟨sc, q, t[j], valsTo sc its en t j, en⟩ := by
          refine ⟨hsc, hqb, hko.ar, fun h => ?_, fun h => ?_, fun h4 h11 => ?_, hvr, hen⟩
          · simp only [hvl]; exact hko.a1 h
          · simp only [hvl]; exact hko.b2 h
          · simp only [] at h4 h11 ⊢
            rw [nodeOk, if_neg (by omega), if_pos h11, decide_eq_true_eq] at hnk
            exact hnk
        have hcl : ((valsTo sc its en t j).flatMap vcells).length = j * 2 := by rw [vc_len, hvl]
        have hva := vc_app (valsTo sc its en t j) (nodeV sc (ixOf (vars q.items) t[j].var) en t[j] (getV (valsTo sc its en t j) t[j].a) (getV (valsTo sc its en t j) t[j].b))
        rw [← hvs] at hva
        have f1 : n ≤ n' := by omega
        have f2 : n ≤ n' + 1 := by omega
        have f3 : n ≤ n' + 2 := by omega
        have f4 : n ≤ n' + 3 := by omega
        have y0 : ¬ n = n' := by omega
        have y1 : ¬ n + 1 = n' := by omega
        have y2 : ¬ n + 2 = n' := by omega
        have y3 : ¬ n + 3 = n' := by omega
        have x0 : ¬ n = n' + 2 := by omega
        have x1 : ¬ n + 1 = n' + 2 := by omega
        have x2 : ¬ n + 2 = n' + 2 := by omega
        have x3 : ¬ n + 3 = n' + 2 := by omega
        have u0 : ¬ n = n' + 3 := by omega
        have u1 : ¬ n + 1 = n' + 3 := by omega
        have u2 : ¬ n + 2 = n' + 3 := by omega
        have u3 : ¬ n + 3 = n' + 3 := by omega
        have hb3 : (j + 1) * 16 ≤ 140737488355328 := by have : t.length * 64 ≤ 140737488355328 := hsm; omega
        have hb4 : j + 1 ≤ 9223372036854775807 := by have : t.length * 64 ≤ 140737488355328 := hsm; omega
        generalize hx : t[j] = x at *
        obtain ⟨op, num, var, attr, xa, xb⟩ := x
        have hdn : deN (.g [.v (.int .i64 op), .v (.int .i64 num), .v (.string var), .v (.string attr), .v (.int .i64 xa), .v (.int .i64 xb)]) = some ⟨op, num, var, attr, xa, xb⟩ := rfl
        obtain ⟨⟨vk, vn⟩, hvv⟩ : ∃ v, nodeV sc (ixOf (vars q.items) var) en ⟨op, num, var, attr, xa, xb⟩ (getV (valsTo sc its en t j) xa) (getV (valsTo sc its en t j) xb) = v := ⟨_, rfl⟩
        simp only [hvv] at hva
        generalize hvl9 : valsTo sc its en t j = vl at *
        generalize hcs : vl.flatMap vcells = cs at *
        rcases hown with ⟨hj0, hnil, q10⟩ | ⟨w, u, q10, hk3, hw1, hw2⟩
        · rw [q10] at hrun w1 w2 w3 w4 w5
          simp [evs, aeval, binS, cx_ti, cx_G, cx_pf, cx_tw, ti, globS, glob, ldcs_1, ldcs_2, ldcs_3, ldcs_4, ldcs_5, ldcs_7, sls.eq_1, slc.eq_1, pfL, q2, q4, q5, q7, q8, q10, q11, ii, ss, hlt, ha', b0, b1, b2, b3, t1, t2, t3, t4, t5, hle, hw6, ncells, tb38, G68, pureH, de68, g1, g2, g4, hag, agree_up, agree_refl, hrun, hdn, hvq, hvv, vv, f1, f2, f3, f4, y0, y1, y2, y3, x0, x1, x2, x3, u0, u1, u2, u3, hb3, hb4, hw]
          exact ⟨⟨j + 1, by omega, by omega, .inr ⟨n' + 3, 0, by rw [hj0], by rw [up_same, hva, hnil]; rfl, by omega, by omega⟩, by omega⟩, by omega⟩
        · have z1 : ¬ w = n' := by omega
          have z2 : ¬ w = n' + 2 := by omega
          have z3 : n ≤ w := by omega
          have z4 : ¬ n = w := by omega
          have z5 : ¬ n + 1 = w := by omega
          have z6 : ¬ n + 2 = w := by omega
          have z7 : ¬ n + 3 = w := by omega
          rw [q10] at hrun
          simp [evs, aeval, binS, cx_ti, cx_G, cx_pf, cx_tw, ti, globS, glob, ldcs_1, ldcs_2, ldcs_3, ldcs_4, ldcs_5, ldcs_7, sls.eq_1, slc.eq_1, pfL, q2, q4, q5, q7, q8, q10, q11, ii, ss, hlt, ha', b0, b1, b2, b3, t1, t2, t3, t4, t5, hle, hw6, ncells, tb38, G68, pureH, de68, g1, g2, g4, hag, agree_up, agree_refl, hrun, hdn, hvq, hvv, vv, f1, f2, f3, f4, y0, y1, y2, y3, x0, x1, x2, x3, u0, u1, u2, u3, hb3, hb4, hw, hk3, hcl, z1, z2, z3, z4, z5, z6, z7]
          exact ⟨⟨j + 1, by omega, by omega, .inr ⟨w, u + 1, rfl, by rw [up_same, hva], by omega, by omega⟩, by omega⟩, by omega⟩
      · obtain rfl : j = t.length := by omega
        have hl1 : IntKind.i64.wrap ((t.length : Int) - 1) = ((t.length - 1 : Nat) : Int) := by
          have := wrapm1 (e := t.length - 1) (by have : t.length * 64 ≤ 140737488355328 := hsm; unfold big; omega)
          rwa [show t.length - 1 + 1 = t.length by omega] at this
        have hrun : rd dVs h' (e' 10) = some (valsTo sc its en t t.length) := by
          rcases hown with ⟨h0, hnil, q10⟩ | ⟨w, u, q10, hk3, hw1, hw2⟩
          · omega
          · rw [q10]
            have := flat_in Flat.v (l := valsTo sc its en t t.length) hk3 rfl (r := []) (by simp)
            rwa [hvl] at this
        rcases hown with ⟨h0, hnil, q10⟩ | ⟨w, u, q10, hk3, hw1, hw2⟩
        · omega
        rw [q10] at hrun
        rcases vs_at hrun with ⟨h0, _⟩ | ⟨id, off, k, hq, hk, ho', hat⟩
        · rw [h0] at hvl; simp at hvl; omega
        simp only [AV.s.injEq] at hq
        obtain ⟨rfl, hku, rfl, _⟩ := hq
        rw [hk3] at hk
        obtain rfl := Option.some.inj hk
        obtain ⟨m1, m2⟩ := hat (t.length - 1) (by omega)
        have hge : (valsTo sc its en t t.length)[t.length - 1]'(by omega) = valAt sc its en t (t.length - 1) := by
          have := vals_get (sc := sc) (its := its) (en := en) (t := t) (i := t.length - 1) (j := t.length) (by omega)
          rw [List.getD_eq_getElem?_getD, List.getElem?_eq_getElem (by omega)] at this
          exact this
        rw [hge] at m1 m2
        simp only [Nat.zero_add] at m1 m2
        have hcl : ((valsTo sc its en t t.length).flatMap vcells).length = t.length * 2 := by rw [vc_len, hvl]
        rw [hv]
        obtain ⟨⟨vk, vn⟩, hvv⟩ : ∃ v, valAt sc its en t (t.length - 1) = v := ⟨_, rfl⟩
        rw [hvv] at m1 m2 ⊢
        simp only [] at m1 m2
        obtain ⟨lp, hlp⟩ : ∃ lp, t.length - 1 = lp := ⟨_, rfl⟩
        rw [hlp] at hl1 m1 m2
        have l1 : lp < t.length := by omega
        have l2 : lp * 2 + 2 ≤ t.length * 2 := by omega
        generalize hcs : (valsTo sc its en t t.length).flatMap vcells = cs at *
        have m3 : ∀ hx, cs[lp * 2]'hx = .v (.bool vk) := fun hx => by rw [List.getElem?_eq_getElem hx] at m1; exact Option.some.inj m1
        have m4 : ∀ hx, cs[lp * 2 + 1]'hx = .v (.int .i64 vn) := fun hx => by rw [List.getElem?_eq_getElem hx] at m2; exact Option.some.inj m2
        simp [evs, aeval, binS, cx_ti, cx_G, cx_pf, cx_tw, ti, globS, glob, ldcs_1, ldcs_2, ldcs_3, ldcs_4, ldcs_5, ldcs_7, sls.eq_1, slc.eq_1, pfL, q2, q4, q5, q7, q8, q10, q11, ii, s1, s2, s3, b0, b1, b2, b3, hl1, hk3, hcl, m1, m2, m3, m4, l1, l2, vv]
  exact key _ rfl rfl rfl rfl
end Go.Proofs.YtkfphaphiikloaaDoor
