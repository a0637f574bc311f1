/-
  CodeSpares: the law's own code: how large a program is; all of it.
-/
import Derived.Test.YtkfphaphiikloaaDoorX35
import Derived.Test.YtkfphaphiikloaaDoorX10
set_option linter.unusedSimpArgs false
set_option linter.unusedVariables false
set_option linter.constructorNameAsVariable false
namespace Go.Proofs.YtkfphaphiikloaaDoor
open Go Go.Eng

/-- How many leaves there are among the first k nodes. -/
def lvT (t : List Nd) : Nat → Nat
  | 0 => 0
  | k + 1 => lvT t k + if (t.getD k nd0).op ≤ 11 then 1 else 0
theorem names_lv (t : List Nd) : ∀ k, (namesTo t k).length ≤ lvT t k
  | 0 => Nat.le_refl _
  | k + 1 => by
    have := names_lv t k
    simp only [namesTo, addX, addN, lvT]
    split
    · rename_i h
      rw [if_pos h.2.1]
      split
      · omega
      · simp; omega
    · omega
theorem lv_to {t : List Nd} {lo : Nat → Nat} (T : Tre t lo) : ∀ (k i : Nat), i = k → i < t.length → 2 * lvT t (i + 1) ≤ 2 * lvT t (lo i) + (i - lo i) + 2 := by
  intro k
  induction k using Nat.strongRecOn with
  | _ k ih =>
    rintro i rfl hi
    have hgd := getD_at hi
    have hle0 := T.le i hi
    rcases T.kind i hi with ⟨b0, b1, _, _, b⟩ | ⟨b0, b1, _, _, b⟩ | ⟨b0, b9, b1, _, a, b2, b3, b⟩
    · rw [b]
      simp only [lvT, hgd]
      split <;> omega
    · have h2 := ih (i - 1) (by omega) _ rfl (by omega)
      have := T.le (i - 1) (by omega)
      rw [Nat.sub_add_cancel b1] at h2
      rw [b]
      simp only [lvT, hgd]
      rw [if_neg (by omega)]
      omega
    · have hle := T.le (i - 1) (by omega)
      have hla := T.le a (by omega)
      have h2 := ih (i - 1) (by omega) _ rfl (by omega)
      have h5 := ih a (by omega) _ rfl (by omega)
      rw [Nat.sub_add_cancel b1, b3] at h2
      rw [b]
      simp only [lvT, hgd]
      rw [if_neg (by omega)]
      omega
theorem names_half {t : List Nd} {lo : Nat → Nat} (T : Tre t lo) : 2 * (namesOf t).length ≤ t.length + 1 := by
  have h1 := names_lv t t.length
  have h2 := lv_to T _ _ rfl (show t.length - 1 < t.length by have := T.pos; omega)
  have := T.pos
  rw [T.root, Nat.sub_add_cancel this] at h2
  simp only [lvT] at h2
  unfold namesOf
  omega
theorem W8.sz {v : Eq38} (w : W8 v) : Sz7 (compP v.sc (vars v.q.items) v.t) := by
  have h1 := w.s1
  have h2 := w.t1
  unfold compP
  split
  · rename_i hr
    have T := tre_of (show tree1 v.t = true by simp only [runT, Bool.and_eq_true] at hr; exact hr.1)
    have hf := few T
    have hn := names_half T
    refine ⟨by simp only []; rw [codeT, lay_len]; omega, by simp only [List.length_map]; omega, fun i hi => ?_⟩
    simp only [List.length_map] at hi
    simp only [List.getElem_map, colOf_len]
    omega
  · exact ⟨by simp, by simp, fun i hi => by simp at hi⟩
theorem Sz7.sm {P : Pr} (z : Sz7 P) : PrSm P := by
  have h1 := z.code
  have h2 := z.cols
  refine ⟨by omega, by omega, fun c hc => ?_⟩
  obtain ⟨i, hi, rfl⟩ := List.getElem_of_mem hc
  have := z.col i hi
  omega
section
variable {h : Heap} {n : Nat} {sa qa qb qc ta la : AV} {v : Eq38}
theorem law7 (e1 : rd dTys h sa = some v.sc) (e2 : rd dIts h qa = some v.q.items) (e3 : rd dNs h qb = some v.q.wh) (e4 : rd dNss h qc = some v.q.ret) (e5 : rd dNs h ta = some v.t) (e6 : rd dEss h la = some v.en.ls) (w : W8 v) (hn : Fresh n h) :
    awp (cz S8 (pfL tbl7)) (Tryd.f7.body.getD .skip) (finQ (cz S8 (pfL tbl7)) Tryd.f7 fun z _ _ => z = bv true) ⟨env0 [.g [sa], .g [qa, .v (.int .i64 v.q.mode), .v (.int .i64 v.q.after), qb, .v (.int .i64 v.q.within), .v (.string v.q.par), qc], ta, .g [la, .v (.int .i64 v.en.each), .v (.int .i64 v.en.pos)]], roH h, n⟩ := by
  have z := w.sz
  refine law7A e1 e2 e3 e4 e5 e6 w z.sm hn _ rfl rfl rfl rfl fun y1 h1 n1 A wc uc n0 nx m9 ca la' hb a1 pc1 => ?_
  refine awp_cut 2 _ _ (law7f z y1 h1 n1 a1 pc1) fun y2 h2 n2 a2 => ?_
  refine awp_cut 1 _ _ (law7g z y2 h2 n2 a2) fun y3 h3 n3 a3 => ?_
  refine awp_cut 1 _ _ (law7h z y3 h3 n3 a3) fun y4 h4 n4 a4 => ?_
  refine awp_cut 1 _ _ (law7i w.pr (w.eq hb) y4 h4 n4 a4) fun y5 h5 n5 ⟨nP, _, a5⟩ => ?_
  refine awp_cut 1 _ _ (law7j z y5 h5 n5 a5) fun y6 h6 n6 a6 => ?_
  refine awp_cut 1 _ _ (law7k z y6 h6 n6 a6) fun y7 h7 n7 a7 => ?_
  refine awp_cut 1 _ _ (law7l z y7 h7 n7 a7) fun y8 h8 n8 a8 => ?_
  refine awp_cut 1 _ _ (law7p z y8 h8 n8 a8) fun y9 h9 n9 a9 => ?_
  refine awp_cut 2 _ _ (law7q y9 h9 n9 a9) fun y10 h10 n10 ⟨a10, q23, q24⟩ => ?_
  refine awp_cut 1 _ _ (law7v w z y10 h10 n10 a10 q23 q24) fun y11 h11 n11 a11 => ?_
  refine awp_cut 1 _ _ (law7w z y11 h11 n11 a11) fun y12 h12 n12 a12 => ?_
  refine awp_cut 1 _ _ (law7x w.pr (w.eq hb) y12 h12 n12 a12) fun y13 h13 n13 a13 => ?_
  exact law7y w z y13 h13 n13 a13
end
end Go.Proofs.YtkfphaphiikloaaDoor

/-
  CodeSpares: a law walked in both outcomes of every append: it answers true.
-/
namespace Go.Proofs.YtkfphaphiikloaaDoor
open Go Go.Eng Go.RowKit Go.ChangeShapes Go.Joins

theorem law_callsZ {S : List Nat} {tb : List (FuncId × (List AV → Heap → PRes))} (ok : TbOk S tb) {f : FuncId} {fn : Func} {c : Code} (hf : Tryd.prog.funcs[f]? = some fn) (hb : fn.body = some c) {k : Nat} (hok : (fnOk (cz S (pfL tb)) fn c && decide (k ≤ fn.ntmps)) = true)
    {args : List AV} {vs : List Value} (hk : args.length = k) {ρ : Ren} {h : Heap} {m : Nat} {W : World} (h1 : awp (cz S (pfL tb)) (fn.body.getD .skip) (finQ (cz S (pfL tb)) fn fun z _ _ => z = bv true) ⟨env0 args, roH h, m⟩)
    (r0 : RoRel (cx S (pfL tb)) ρ h W) (hm : ∀ j, m ≤ j → (∀ ver, ρ j ver = none) ∧ h j = none) (ha : VRs ρ args vs) : Calls Tryd.prog f vs.toArray W fun e W' => e = .returned (.bool true) ∧ Below W.heap.size W W' := by
  have r : RoRel (cz S (pfL tb)) ρ h W := ⟨r0.glob, r0.blk⟩
  simp only [Bool.and_eq_true, decide_eq_true_eq] at hok
  rw [hb] at h1
  refine (calls_of_awp (pfZ_ok ok) (mixed_z _ _) hf hb hok.1 (by omega) h1 (r.rel hm) ha).mono fun e w' ⟨y, e1, ρ', z, h', n', q1, q2, q3, q4⟩ => ?_
  subst q4
  simp only [bv, VR] at q2
  subst q2
  exact ⟨e1, q3.gone⟩
end Go.Proofs.YtkfphaphiikloaaDoor
