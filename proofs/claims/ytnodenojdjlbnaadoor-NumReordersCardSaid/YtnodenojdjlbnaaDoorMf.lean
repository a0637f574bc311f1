/-
  THE NUMBERS OF THIS PROGRAM, THE PLAIN LAWS, F: whatever is answered is a number of 64 bits; a step of a straight line, asked and told.
-/
import Derived.Test.YtnodenojdjlbnaaDoorNl
set_option linter.unusedSimpArgs false
namespace Go.Proofs.YtnodenojdjlbnaaDoor
open Go Go.Eng

theorem rng0 : Rng 0 := by unfold Rng; omega
theorem fitV_rng (n : Int) : Rng (fitV n).n := by
  unfold fitV
  split
  · assumption
  · exact rng0
theorem truthV_rng (b : Bool) : Rng (truthV b).n := by cases b <;> simp [truthV, Rng]
theorem rank_rng (r : Int) : Rng (ofRank r).n := by
  unfold ofRank Rng
  split
  · simp only []; omega
  split
  · simp only []; omega
  · simp only []; omega
theorem cmp_rng (o : Int) (a b : V) : Rng (cmpV o a b).n := by
  unfold cmpV
  repeat' split
  all_goals first | exact truthV_rng _ | exact rng0
theorem apply_rng (o : Int) {a b : V} (ha : Rng a.n) (hb : Rng b.n) : Rng (applyL o a b).n := by
  unfold applyL
  split
  · rw [addL_eq ha hb]; unfold addV on2; split <;> first | exact fitV_rng _ | exact rng0
  split
  · rw [subL_eq ha hb]; unfold subV on2; split <;> first | exact fitV_rng _ | exact rng0
  split
  · rw [mulL_eq ha hb]; unfold mulV on2; split <;> first | exact fitV_rng _ | exact rng0
  split
  · rw [divL_eq ha]; unfold divV on2
    split
    · simp only []
      split
      · exact rng0
      · exact fitV_rng _
    · exact rng0
  split
  · rw [modL_eq]; unfold modV on2
    split
    · simp only []
      split
      · exact rng0
      · rename_i h
        obtain ⟨_, t1, t2, _, _⟩ := tdiv_bounds (x := a.n) h
        have t3 := Int.natAbs_tmod a.n b.n
        have t4 : a.n.natAbs % b.n.natAbs ≤ a.n.natAbs := Nat.mod_le _ _
        unfold Rng at ha ⊢
        simp only [knownV]
        rcases Int.le_total 0 a.n with h0 | h0
        · have := t1 h0; omega
        · have := t2 h0; omega
    · exact rng0
  split
  · exact rank_rng _
  split
  · exact rank_rng _
  · exact cmp_rng _ _ _
theorem getD_rng {l : List V} (hl : ∀ v ∈ l, Rng v.n) (i : Nat) : Rng (l.getD i unk).n := by
  rw [List.getD_eq_getElem?_getD]
  by_cases h : i < l.length
  · rw [List.getElem?_eq_getElem h]; exact hl _ (List.getElem_mem h)
  · rw [List.getElem?_eq_none (by omega)]; exact rng0
theorem known_rng {l : List V} (hl : ∀ v ∈ l, Rng v.n) (i j : Int) : All (knownL l i j) := fun x hx => by
  unfold knownL at hx
  obtain ⟨v, hv, rfl⟩ := List.mem_map.1 hx
  exact hl v (List.mem_of_mem_take (List.mem_of_mem_drop (List.mem_filter.1 hv).1))
theorem ext_mem (g : Bool) (l : List Int) (h : 0 < l.length) : ∀ j, extAt g l j ∈ l := fun j => by
  unfold extAt
  have : ∀ (m : List Int) (x : Int), (∀ y ∈ m, y ∈ l) → x ∈ l → m.foldl (fun (m x : Int) => if (if g = true then decide (m < x) else decide (x < m)) = true then x else m) x ∈ l := fun m => by
    induction m with
    | nil => exact fun x _ hx => hx
    | cons y m ih =>
      intro x hm hx
      rw [List.foldl_cons]
      refine ih _ (fun z hz => hm z (by simp [hz])) ?_
      generalize (if g = true then decide (x < y) else decide (y < x)) = c
      cases c
      · exact hx
      · exact hm y (by simp)
  refine this _ _ (fun y hy => List.mem_of_mem_take hy) ?_
  rw [List.getD_eq_getElem?_getD, List.getElem?_eq_getElem h]
  exact List.getElem_mem h
theorem fold_rng (o : Int) {l : List Int} (ha : All l) (hl : l.length ≤ 2147483647) : Rng (foldG sumL o l).n := by
  unfold foldG
  split
  · unfold Rng knownV; simp only []; omega
  split
  · rw [sumL_eq ha (by unfold big; omega)]; exact fitV_rng _
  split
  · exact rng0
  rename_i hne
  have hp : 0 < l.length := List.length_pos_iff.2 hne
  split
  · exact ha _ (ext_mem _ _ hp _)
  split
  · exact ha _ (ext_mem _ _ hp _)
  split
  · simp only [knownV]; rw [List.getD_eq_getElem?_getD, List.getElem?_eq_getElem hp]; exact ha _ (List.getElem_mem _)
  split
  · simp only [knownV]; rw [List.getD_eq_getElem?_getD, List.getElem?_eq_getElem (by omega)]; exact ha _ (List.getElem_mem _)
  · exact rng0
theorem asked_rng {l : List V} {s : Stp} (hl : ∀ v ∈ l, Rng v.n) (hlen : l.length ≤ 2147483647) (hs : Rng s.v.n) : Rng (askedV (foldG sumL) applyL l s).n := by
  unfold askedV
  split
  · exact hs
  split
  · rw [negL_eq (getD_rng hl _)]
    unfold negV
    split
    · exact fitV_rng _
    · exact rng0
  split
  · exact rank_rng _
  split
  · exact fold_rng _ (known_rng hl _ _) (Nat.le_trans (known_len _ _ _) hlen)
  · exact apply_rng _ (getD_rng hl _) (getD_rng hl _)
/-- The step's value is the document's. -/
theorem asked_told {l : List V} {s : Stp} (hl : ∀ v ∈ l, Rng v.n) (hlen : l.length ≤ 2147483647) : askedV (foldG rsumL) rapplyL l s = askedV (foldG sumL) applyL l s := by
  unfold askedV
  rw [fold_eq _ (known_rng hl _ _) (Nat.le_trans (known_len _ _ _) hlen), apply_eq _ (getD_rng hl _) (getD_rng hl _)]
end Go.Proofs.YtnodenojdjlbnaaDoor
