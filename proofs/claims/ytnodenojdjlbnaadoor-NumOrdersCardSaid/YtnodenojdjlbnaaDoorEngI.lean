/-
  OUR OWN TOOL, PART I: a region that draws its order: the order of the text serves every order.
-/
import Derived.Test.YtnodenojdjlbnaaDoorEngH
namespace Go.Eng
open Go Go.RowKit

/-- How many operations at the head are quiet. -/
def cutAt (X : Ctx) : List Oper → Nat
  | [] => 0
  | o :: l => if quietOp X o = true then cutAt X l + 1 else 0

/-- The slots that an operation looks at. -/
def looks (ops : Array Oper) (o : Oper) : List Tmp :=
  (o.op.operands.toList.filterMap fun x => match x with | .tmp t => some t | _ => none) ++ (match o.guard with | some (j, _) => (ystop ops j).toList | none => [])
/-- What an operation waits for, near or far. -/
def waits (b : Array Nat) (i j : Nat) : Bool := (b.getD i 0).testBit j
def drawOk1 (ops : Array Oper) (b : Array Nat) (n i : Nat) (o : Oper) : Bool :=
  (o.after.toList.all fun e => !Region.binds .any e || decide (e.on < i)) &&
  if i < n then
    ((looks ops o).all fun t => ops.toList.zipIdx.all fun p => p.1.dst != some t || p.2 == i || (if p.2 < i then waits b i p.2 else waits b p.2 i)) &&
    (match o.dst with | some d => ops.toList.zipIdx.all fun p => p.1.dst != some d || decide (i ≤ p.2) || waits b i p.2 | none => true)
  else (List.range i).all fun j => waits b i j
def drawOk (X : Ctx) (ops : Array Oper) : Bool := ops.toList.zipIdx.all fun p => drawOk1 ops (Region.before ops) (cutAt X ops.toList) p.2 p.1

/-! ### what 'waits' says -/
theorem before_fold (pre : List Oper) : ∀ (l : List Oper) (acc : Array Nat), acc.size = pre.length →
    (∀ i j, i < acc.size → (acc.getD i 0).testBit j = true → ∃ o, pre[i]? = some o ∧ ∃ e ∈ o.after.toList, Region.binds .any e = true ∧ (e.on = j ∨ (e.on < i ∧ (acc.getD e.on 0).testBit j = true))) →
    let acc' := l.foldl (fun acc o => acc.push (o.after.foldl (fun s e => if Region.binds .any e then s ||| 2 ^ e.on ||| acc.getD e.on 0 else s) 0)) acc
    acc'.size = (pre ++ l).length ∧ ∀ i j, i < acc'.size → (acc'.getD i 0).testBit j = true → ∃ o, (pre ++ l)[i]? = some o ∧ ∃ e ∈ o.after.toList, Region.binds .any e = true ∧ (e.on = j ∨ (e.on < i ∧ (acc'.getD e.on 0).testBit j = true)) := by
  intro l
  induction l generalizing pre with
  | nil =>
    intro acc h1 h2
    simp only [List.foldl_nil, List.append_nil]
    exact ⟨h1, h2⟩
  | cons o l ih =>
    intro acc h1 h2
    simp only [List.foldl_cons]
    have := ih (pre ++ [o]) (acc.push (o.after.foldl (fun s e => if Region.binds .any e then s ||| 2 ^ e.on ||| acc.getD e.on 0 else s) 0)) (by simp [h1]) ?_
    · simpa using this
    · intro i j hi ht
      have hold : ∀ q, q < acc.size → (acc.push (o.after.foldl (fun s e => if Region.binds .any e then s ||| 2 ^ e.on ||| acc.getD e.on 0 else s) 0)).getD q 0 = acc.getD q 0 := fun q hq => by
        simp only [Array.getD_eq_getD_getElem?]
        rw [Array.getElem?_push, if_neg (by omega)]
      by_cases hia : i < acc.size
      · rw [hold i hia] at ht
        obtain ⟨o', e1, e, e2, e3, e4⟩ := h2 i j hia ht
        refine ⟨o', by rw [List.getElem?_append_left (by omega)]; exact e1, e, e2, e3, ?_⟩
        rcases e4 with e4 | ⟨e4, e5⟩
        · exact .inl e4
        · exact .inr ⟨e4, by rw [hold _ (by omega)]; exact e5⟩
      · have hii : i = acc.size := by simp at hi; omega
        subst hii
        have hnew : (acc.push (o.after.foldl (fun s e => if Region.binds .any e then s ||| 2 ^ e.on ||| acc.getD e.on 0 else s) 0)).getD acc.size 0 = o.after.foldl (fun s e => if Region.binds .any e then s ||| 2 ^ e.on ||| acc.getD e.on 0 else s) 0 := by
          simp [Array.getD_eq_getD_getElem?]
        rw [hnew, ← Array.foldl_toList] at ht
        refine ⟨o, by rw [h1]; simp, ?_⟩
        have key : ∀ (es : List Edge) (s0 : Nat), (es.foldl (fun s e => if Region.binds .any e then s ||| 2 ^ e.on ||| acc.getD e.on 0 else s) s0).testBit j = true → s0.testBit j = true ∨ ∃ e ∈ es, Region.binds .any e = true ∧ (e.on = j ∨ (acc.getD e.on 0).testBit j = true) := by
          intro es
          induction es with
          | nil => intro s0 hs; exact .inl hs
          | cons e es ihe =>
            intro s0 hs
            simp only [List.foldl_cons] at hs
            rcases ihe _ hs with h3 | ⟨e', h3, h4⟩
            · by_cases hb : Region.binds .any e = true
              · simp only [hb, if_true, Nat.testBit_or, Bool.or_eq_true] at h3
                rcases h3 with (h3 | h3) | h3
                · exact .inl h3
                · refine .inr ⟨e, by simp, hb, .inl ?_⟩
                  rw [Nat.testBit_two_pow] at h3
                  simpa using h3
                · exact .inr ⟨e, by simp, hb, .inr h3⟩
              · simp only [hb] at h3
                exact .inl h3
            · exact .inr ⟨e', by simp [h3], h4⟩
        rcases key _ _ ht with h3 | ⟨e, h3, h4, h5⟩
        · simp at h3
        · refine ⟨e, h3, h4, ?_⟩
          rcases h5 with h5 | h5
          · exact .inl h5
          · by_cases hlt : e.on < acc.size
            · exact .inr ⟨hlt, by rw [hold _ hlt]; exact h5⟩
            · simp [Array.getD_eq_getD_getElem?, Array.getElem?_eq_none (Nat.le_of_not_lt hlt)] at h5

theorem before_spec (ops : Array Oper) (i j : Nat) (hw : waits (Region.before ops) i j = true) : ∃ o, ops[i]? = some o ∧ ∃ e ∈ o.after.toList, Region.binds .any e = true ∧ (e.on = j ∨ (e.on < i ∧ waits (Region.before ops) e.on j = true)) := by
  have h := before_fold [] ops.toList #[] (by simp) (fun i j hi => by simp at hi)
  have hb : Region.before ops = ops.toList.foldl (fun acc o => acc.push (o.after.foldl (fun s e => if Region.binds .any e then s ||| 2 ^ e.on ||| acc.getD e.on 0 else s) 0)) #[] := by
    unfold Region.before
    rw [← Array.foldl_toList]
  simp only [List.nil_append, ← hb] at h
  have hi : i < (Region.before ops).size := by
    by_cases hi : i < (Region.before ops).size
    · exact hi
    · simp [waits, Array.getD_eq_getD_getElem?, Array.getElem?_eq_none (Nat.le_of_not_lt hi)] at hw
  obtain ⟨o, h1, h2⟩ := h.2 i j hi hw
  exact ⟨o, by rw [← Array.getElem?_toList]; exact h1, h2⟩

section
variable {X : Ctx} {K : Nat → Prop} {w0 : World} {ops : Array Oper}

/-- The operations listed so far: whoever is listed, so is what he waits for. -/
def Closed (ops : Array Oper) (listed : Array Bool) : Prop := ∀ j o, ops[j]? = some o → listed.getD j false = true → ∀ e ∈ o.after.toList, Region.binds .any e = true → listed.getD e.on false = true

theorem waits_listed {listed : Array Bool} (hc : Closed ops listed) : ∀ (i j : Nat), waits (Region.before ops) i j = true → (∀ o, ops[i]? = some o → ∀ e ∈ o.after.toList, Region.binds .any e = true → listed.getD e.on false = true) → listed.getD j false = true := by
  intro i
  induction i using Nat.strongRecOn with
  | _ i ih =>
    intro j hw hall
    obtain ⟨o, ho, e, he, hb, h1⟩ := before_spec ops i j hw
    have h2 := hall o ho e he hb
    rcases h1 with rfl | ⟨hlt, h3⟩
    · exact h2
    · exact ih e.on hlt j h3 fun o' ho' e' he' hb' => hc e.on o' ho' h2 e' he' hb'

theorem Closed.set {listed : Array Bool} (hc : Closed ops listed) {i : Nat} (hi : i ∈ Region.ready .any ops listed) : Closed ops (listed.setIfInBounds i true) := by
  intro j o ho hl e he hb
  obtain ⟨_, oi, hoi, hall⟩ := mem_ready.1 hi
  by_cases hij : i = j
  · subst hij
    rw [hoi] at ho
    cases ho
    exact getD_set_true (hall e (by simpa using he) hb)
  · rw [getD_set_ne false hij] at hl
    exact getD_set_true (hc j o ho hl e he hb)

theorem count_set : ∀ (l : List Bool) (i : Nat), l[i]? = some false → (l.set i true).count true = l.count true + 1
  | [], i, h => by simp at h
  | b :: l, 0, h => by simp at h; subst h; simp
  | b :: l, i + 1, h => by
    simp only [List.getElem?_cons_succ] at h
    simp only [List.set_cons_succ, List.count_cons, count_set l i h]
    omega

/-- The slots behind the first k operations of the text. -/
def penv (X : Ctx) (ops : Array Oper) (s : St) : Nat → (Nat → AV)
  | 0 => s.e
  | k + 1 => match ops[k]? with
    | some o => setd (penv X ops s k) o.dst (aop X ops o (penv X ops s k) s.h s.n s.h).val
    | none => penv X ops s k
/-- The slots behind those of the first m operations that are listed. -/
def denv (X : Ctx) (ops : Array Oper) (s : St) (D : Nat → Prop) [DecidablePred D] : Nat → (Nat → AV)
  | 0 => s.e
  | k + 1 => match ops[k]? with
    | some o => if D k then setd (denv X ops s D k) o.dst (aop X ops o (penv X ops s k) s.h s.n s.h).val else denv X ops s D k
    | none => denv X ops s D k

theorem denv_penv {s : St} {D : Nat → Prop} [DecidablePred D] {x : Nat} : ∀ m, (∀ k o, k < m → ops[k]? = some o → o.dst = some x → D k) → denv X ops s D m x = penv X ops s m x
  | 0, _ => rfl
  | m + 1, h => by
    have ih := denv_penv (s := s) m fun k o hk => h k o (by omega)
    simp only [denv, penv]
    cases ho : ops[m]? with
    | none => exact ih
    | some o =>
      simp only
      by_cases hd : o.dst = some x
      · rw [if_pos (h m o (by omega) ho hd)]
        simp [setd, hd, up]
      · have hne : ∀ (e : Nat → AV) y, setd e o.dst y x = e x := fun e y => by
          cases hdst : o.dst with
          | none => rfl
          | some d =>
            simp only [setd]
            exact up_ne _ _ (fun e1 => hd (by rw [hdst, e1]))
        rw [hne]
        split
        · rw [hne]; exact ih
        · exact ih
theorem denv_skip {s : St} {D : Nat → Prop} [DecidablePred D] {x : Nat} {i : Nat} : ∀ m, i ≤ m → (∀ k o, i ≤ k → k < m → ops[k]? = some o → D k → o.dst ≠ some x) → denv X ops s D m x = denv X ops s D i x
  | 0, hi, _ => by have : i = 0 := by omega
                   rw [this]
  | m + 1, hi, h => by
    by_cases him : i = m + 1
    · rw [him]
    · have ih := denv_skip (s := s) (x := x) m (by omega) fun k o h1 h2 => h k o h1 (by omega)
      rw [← ih]
      simp only [denv]
      cases ho : ops[m]? with
      | none => rfl
      | some o =>
        simp only
        split
        · rename_i hD
          have hne := h m o (by omega) (by omega) ho hD
          cases hdst : o.dst with
          | none => rfl
          | some d =>
            simp only [setd]
            exact up_ne _ _ (fun e1 => hne (by rw [hdst, e1]))
        · rfl
theorem denv_add {s : St} {D D' : Nat → Prop} [DecidablePred D] [DecidablePred D'] {i : Nat} {oi : Oper} (hoi : ops[i]? = some oi) (hD : ∀ k, k ≠ i → (D' k ↔ D k)) (hDi : ¬ D i) (hDi' : D' i) : ∀ m, i < m →
    (∀ k o d, i < k → k < m → ops[k]? = some o → D k → oi.dst = some d → o.dst ≠ some d) → denv X ops s D' m = setd (denv X ops s D m) oi.dst (aop X ops oi (penv X ops s i) s.h s.n s.h).val
  | 0, hi, _ => by omega
  | m + 1, hi, h => by
    have same : ∀ q, q ≤ i → denv X ops s D' q = denv X ops s D q := fun q => by
      induction q with
      | zero => intro _; rfl
      | succ q ihq =>
        intro hq
        simp only [denv, ihq (by omega)]
        cases ops[q]? with
        | none => rfl
        | some o =>
          have := hD q (by omega)
          simp only [this]
    by_cases him : i = m
    · subst him
      simp only [denv, hoi, hDi, hDi', if_true, if_false, same i (Nat.le_refl _)]
    · have ih := denv_add (s := s) hoi hD hDi hDi' m (by omega) fun k o d h1 h2 => h k o d h1 (by omega)
      simp only [denv]
      cases ho : ops[m]? with
      | none => exact ih
      | some o =>
        have hiff := hD m (by omega)
        by_cases hDm : D m
        · simp only [hiff, hDm, if_true, ih]
          cases hd : oi.dst with
          | none => rfl
          | some d =>
            have hne := h m o d (by omega) (by omega) ho hDm hd
            cases hdst : o.dst with
            | none => rfl
            | some d' =>
              have hdd : d' ≠ d := fun e1 => hne (by rw [hdst, e1])
              funext x
              simp only [setd, up]
              by_cases hx : x = d'
              · rw [if_pos hx, if_neg (by rw [hx]; exact hdd), if_pos hx]
              · simp only [hx, if_false]
        · simp only [hiff, hDm, if_false, ih]

theorem ev_congr {e e' : Nat → AV} {op : Op} {guardSlots : List Tmp} (h : ∀ t ∈ (op.operands.toList.filterMap fun x => match x with | .tmp t => some t | _ => none) ++ guardSlots, e t = e' t) : ∀ x ∈ op.operands.toList, Eng.ev e x = Eng.ev e' x := by
  intro x hx
  cases x with
  | tmp t => exact h t (List.mem_append_left _ (List.mem_filterMap.2 ⟨.tmp t, hx, rfl⟩))
  | _ => rfl

theorem aop_congr {o : Oper} {e e' : Nat → AV} {h : Heap} {i : Nat} {hp : Heap} (hl : ∀ t ∈ looks ops o, e t = e' t) : aop X ops o e h i hp = aop X ops o e' h i hp := by
  unfold looks at hl
  have hev := ev_congr hl
  cases hg : o.guard with
  | none =>
    simp only [aop, hg]
    exact aeval_congr hev hp
  | some q =>
    obtain ⟨j, want⟩ := q
    have hy : yav ops e j = yav ops e' j := by
      unfold yav
      cases hs : ystop ops j with
      | none => rfl
      | some d => exact hl d (by simp [hg, hs])
    simp only [aop, hg, hy]
    have := aeval_congr (X := X) (h := h) (i := i) (op := o.op) (f := fun x => AV.unc ((yav ops e' j).gd want) (Eng.ev e x)) (g := fun x => AV.unc ((yav ops e' j).gd want) (Eng.ev e' x)) (fun x hx => by rw [hev x hx]) hp
    rw [this]

theorem quiet_heap {o : Oper} (hq : quietOp X o = true) : heapOp o.op = false := by
  unfold quietOp at hq
  unfold heapOp
  cases ho : o.op <;> simp only [ho] at hq ⊢ <;> try (cases hq)
  rename_i c
  cases hc : c.callee <;> simp only [hc] at hq ⊢
  rename_i b
  cases b <;> simp_all

theorem aop_quiet {o : Oper} {e : Nat → AV} {h : Heap} {i : Nat} {hp : Heap} (hq : quietOp X o = true) : (aop X ops o e h i hp).h = h := by
  unfold aop
  cases o.guard with
  | none => exact aeval_heap _ _ _ (quiet_heap hq)
  | some q => rfl

theorem adraw_split {Kn : St → Prop} {s : St} : ∀ (l : List Oper) (k : Nat), l = ops.toList.drop k → adraw X ops Kn l ⟨penv X ops s k, s.h, s.n⟩ →
    (∀ j o, k ≤ j → j < k + cutAt X l → ops[j]? = some o → quietOp X o = true ∧ (aop X ops o (penv X ops s j) s.h s.n s.h).side) ∧ aops X ops Kn (l.drop (cutAt X l)) ⟨penv X ops s (k + cutAt X l), s.h, s.n⟩
  | [], k, _, h => by
    simp only [cutAt, Nat.add_zero, List.drop_nil]
    exact ⟨fun j o h1 h2 => by omega, h⟩
  | o :: l, k, hl, h => by
    have hk : ops[k]? = some o := by
      rw [← Array.getElem?_toList]
      have := congrArg (·[0]?) hl
      simpa using this.symm
    have hl' : l = ops.toList.drop (k + 1) := by
      have := congrArg List.tail hl
      simpa using this
    simp only [adraw] at h
    by_cases hq : quietOp X o = true
    · simp only [hq, if_true] at h
      have hp : penv X ops s (k + 1) = setd (penv X ops s k) o.dst (aop X ops o (penv X ops s k) s.h s.n s.h).val := by simp only [penv, hk]
      rw [← hp] at h
      have ih := adraw_split (Kn := Kn) (s := s) l (k + 1) hl' h.2
      simp only [cutAt, hq, if_true, List.drop_succ_cons]
      refine ⟨fun j o' h1 h2 h3 => ?_, by rw [show k + (cutAt X l + 1) = k + 1 + cutAt X l by omega]; exact ih.2⟩
      by_cases hjk : j = k
      · subst hjk
        rw [hk] at h3
        cases h3
        exact ⟨hq, h.1⟩
      · exact ih.1 j o' (by omega) (by omega) h3
    · simp only [hq] at h
      simp only [cutAt, hq]
      exact ⟨fun j o' h1 h2 => by simp at h2; omega, by simpa using h⟩

theorem drawOk_at {i : Nat} {o : Oper} (hd : drawOk X ops = true) (ho : ops[i]? = some o) : drawOk1 ops (Region.before ops) (cutAt X ops.toList) i o = true := by
  unfold drawOk at hd
  exact List.all_eq_true.1 hd (o, i) (List.mem_zipIdx_iff_getElem?.2 (by simpa using ho))

theorem drawOk_edge {i : Nat} {o : Oper} (hd : drawOk X ops = true) (ho : ops[i]? = some o) : ∀ e ∈ o.after.toList, Region.binds .any e = true → e.on < i := by
  have h := drawOk_at hd ho
  unfold drawOk1 at h
  simp only [Bool.and_eq_true] at h
  intro e he hb
  have := List.all_eq_true.1 h.1 e he
  simpa [hb] using this

theorem drawOk_tail {i : Nat} {o : Oper} (hd : drawOk X ops = true) (ho : ops[i]? = some o) (hi : cutAt X ops.toList ≤ i) : ∀ j, j < i → waits (Region.before ops) i j = true := by
  have h := drawOk_at hd ho
  unfold drawOk1 at h
  simp only [Bool.and_eq_true] at h
  rw [if_neg (by omega)] at h
  exact fun j hj => List.all_eq_true.1 h.2 j (List.mem_range.2 hj)

theorem drawOk_look {i : Nat} {o : Oper} (hd : drawOk X ops = true) (ho : ops[i]? = some o) (hi : i < cutAt X ops.toList) : ∀ t ∈ looks ops o, ∀ k o', ops[k]? = some o' → o'.dst = some t → k ≠ i → (k < i → waits (Region.before ops) i k = true) ∧ (i < k → waits (Region.before ops) k i = true) := by
  have h := drawOk_at hd ho
  unfold drawOk1 at h
  simp only [Bool.and_eq_true] at h
  rw [if_pos hi] at h
  simp only [Bool.and_eq_true] at h
  intro t ht k o' hk hdst hne
  have h1 := List.all_eq_true.1 h.2.1 t ht
  have h2 := List.all_eq_true.1 h1 (o', k) (List.mem_zipIdx_iff_getElem?.2 (by simpa using hk))
  simp only [hdst, bne_self_eq_false, Bool.false_or, Bool.or_eq_true, beq_iff_eq] at h2
  rcases h2 with h2 | h2
  · exact absurd h2 hne
  · refine ⟨fun hlt => ?_, fun hlt => ?_⟩
    · simpa [hlt] using h2
    · have : ¬ k < i := by omega
      simpa [this] using h2

theorem drawOk_dst {i : Nat} {o : Oper} (hd : drawOk X ops = true) (ho : ops[i]? = some o) (hi : i < cutAt X ops.toList) {d : Tmp} (hdst : o.dst = some d) : ∀ k o', ops[k]? = some o' → o'.dst = some d → k < i → waits (Region.before ops) i k = true := by
  have h := drawOk_at hd ho
  unfold drawOk1 at h
  simp only [Bool.and_eq_true] at h
  rw [if_pos hi] at h
  simp only [Bool.and_eq_true, hdst] at h
  intro k o' hk hdst' hlt
  have h2 := List.all_eq_true.1 h.2.2 (o', k) (List.mem_zipIdx_iff_getElem?.2 (by simpa using hk))
  simp only [hdst', bne_self_eq_false, Bool.false_or, Bool.or_eq_true, decide_eq_true_eq] at h2
  rcases h2 with h2 | h2
  · omega
  · exact h2

theorem not_listed {listed : Array Bool} {i : Nat} (h : listed.getD i true = false) : listed.getD i false ≠ true := by
  intro h2
  rcases Nat.lt_or_ge i listed.size with h' | h'
  · simp [h'] at h h2; rw [h] at h2; cases h2
  · simp [Array.getElem?_eq_none h'] at h2

/-- When nobody is ready, all are listed. -/
theorem all_listed {listed : Array Bool} (hd : drawOk X ops = true) (hsz : listed.size = ops.size) (hr : Region.ready .any ops listed = []) : ∀ k, k < ops.size → listed.getD k false = true := by
  intro k
  induction k using Nat.strongRecOn with
  | _ k ih =>
    intro hk
    by_cases hl : listed.getD k false = true
    · exact hl
    · exfalso
      have hk2 : ops[k]? = some ops[k] := Array.getElem?_eq_getElem hk
      have : k ∈ Region.ready .any ops listed := mem_ready.2 ⟨by
        have hks : k < listed.size := by omega
        simp [hks] at hl ⊢; exact hl, ops[k], hk2, fun e he hb => by
        have := drawOk_edge hd hk2 e (by simpa using he) hb
        exact ih e.on this (by omega)⟩
      rw [hr] at this
      cases this

/-- The operations at the end, one behind the other. -/
theorem draw_tail (ok : Ok X) {sz : Nat} {Kn : St → Prop} {Q : Exit → Act → World → Prop} {ρ : Ren} (hQ : ∀ s a w ρ', ρ.le ρ' → Kn s → Rel X K w0 ρ' (s.n ≤ ·) s.h w → EnvR ρ' s.e a sz → Q .normal a w)
    (hop : ∀ o ∈ ops.toList, opOk ops sz o = true) (hd : drawOk X ops = true) : ∀ (fuel k : Nat) (listed : Array Bool) (a : Act) (w : World) (s : St) (ρ1 : Ren), listed.size = ops.size → (∀ j, j < ops.size → (listed.getD j false = true ↔ j < k)) → k ≤ ops.size → ops.size ≤ fuel + k →
    cutAt X ops.toList ≤ k → Closed ops listed → aops X ops Kn (ops.toList.drop k) s → ρ.le ρ1 → Rel X K w0 ρ1 (s.n ≤ ·) s.h w → EnvR ρ1 s.e a sz → wpAny X.P .any ops Q fuel listed a w := by
  intro fuel
  induction fuel with
  | zero =>
    intro k listed a w s ρ1 hsz hl hk hf hcut hcl hkn hρ r he
    have hks : k = ops.size := by omega
    refine ⟨?_, ?_⟩
    · apply List.eq_nil_iff_forall_not_mem.2
      intro i hi
      obtain ⟨h1, o, h2, _⟩ := mem_ready.1 hi
      have hlt : i < ops.size := (Array.getElem?_eq_some_iff.1 h2).1
      exact not_listed h1 ((hl i hlt).2 (by omega))
    · rw [hks, List.drop_eq_nil_of_le (by simp)] at hkn
      exact hQ s a w ρ1 hρ hkn r he
  | succ fuel ih =>
    intro k listed a w s ρ1 hsz hl hk hf hcut hcl hkn hρ r he
    refine ⟨fun hr => ?_, fun i hi => ?_⟩
    · have hall := all_listed hd hsz hr
      have hks : k = ops.size := by
        by_cases hlt : k < ops.size
        · have := (hl k hlt).1 (hall k hlt); omega
        · omega
      rw [hks, List.drop_eq_nil_of_le (by simp)] at hkn
      exact hQ s a w ρ1 hρ hkn r he
    · obtain ⟨h1, o, h2, h3⟩ := mem_ready.1 hi
      have hlt : i < ops.size := (Array.getElem?_eq_some_iff.1 h2).1
      have hge : k ≤ i := by
        have := not_listed h1
        by_cases hik : i < k
        · exact absurd ((hl i hlt).2 hik) this
        · omega
      have hw := drawOk_tail hd h2 (by omega)
      have hik : i = k := by
        by_cases hki : k < i
        · have h4 := waits_listed hcl i k (hw k hki) fun o' ho' e he' hb => by
            rw [h2] at ho'
            cases ho'
            exact h3 e (by simpa using he') hb
          have := (hl k (by omega)).1 h4
          omega
        · omega
      subst hik
      have hdrop : ops.toList.drop i = o :: ops.toList.drop (i + 1) := by
        rw [List.drop_eq_getElem_cons (by simpa using hlt)]
        congr 1
        have := (Array.getElem?_eq_some_iff.1 h2).2
        simpa using this
      rw [hdrop] at hkn
      unfold wpOp
      rw [h2]
      simp only
      have hmem : o ∈ ops.toList := by
        have := (Array.getElem?_eq_some_iff.1 h2).2
        rw [← this]; simp
      have hstep := aops_step (next := wpAny X.P .any ops Q fuel (listed.setIfInBounds i true)) (Q := Q) ok (hop o hmem) hkn r he fun s' a' w' ρ2 q1 q2 q3 q4 => ih (i + 1) (listed.setIfInBounds i true) a' w' s' ρ2 (by simp [hsz]) (fun j hj => by
        by_cases hji : i = j
        · subst hji
          simp [hsz, hj]
        · rw [getD_set_ne false hji, hl j hj]
          omega) (by omega) (by omega) (by omega) (hcl.set hi) q1 (Ren.le_trans hρ q2) q3 q4
      split
      · rename_i hwant
        rw [if_pos hwant] at hstep
        exact .inl hstep
      · rename_i hwant
        rw [if_neg hwant] at hstep
        exact hstep

/-- ONE WALK IN THE ORDER OF THE TEXT SERVES EVERY ORDER. -/
theorem draw_any (ok : Ok X) {sz : Nat} {Kn : St → Prop} {Q : Exit → Act → World → Prop} {ρ : Ren} (hQ : ∀ s a w ρ', ρ.le ρ' → Kn s → Rel X K w0 ρ' (s.n ≤ ·) s.h w → EnvR ρ' s.e a sz → Q .normal a w)
    (hop : ∀ o ∈ ops.toList, opOk ops sz o = true) (hd : drawOk X ops = true) {s : St} (hk : adraw X ops Kn ops.toList s) : ∀ (fuel : Nat) (listed : Array Bool) (a : Act) (w : World) (ρ1 : Ren), listed.size = ops.size → Closed ops listed →
    (∀ k, cutAt X ops.toList ≤ k → listed.getD k false = false) → ops.size ≤ fuel + listed.toList.count true → ρ.le ρ1 → Rel X K w0 ρ1 (s.n ≤ ·) s.h w → EnvR ρ1 (denv X ops s (fun k => listed.getD k false = true) (cutAt X ops.toList)) a sz → wpAny X.P .any ops Q fuel listed a w := by
  obtain ⟨hside, htail⟩ := adraw_split (X := X) (ops := ops) (Kn := Kn) (s := s) ops.toList 0 (by simp) hk
  simp only [Nat.zero_add] at hside htail
  intro fuel
  induction fuel with
  | zero =>
    intro listed a w ρ1 hsz hcl hcut hf hρ r he
    have hall : ∀ k, k < ops.size → listed.getD k false = true := fun k hk2 => by
      have hc : listed.toList.count true = listed.toList.length := by
        have := List.count_le_length (a := true) (l := listed.toList)
        simp only [Array.length_toList] at this ⊢
        omega
      have := List.count_eq_length.1 hc (listed.toList[k]'(by simp; omega)) (List.getElem_mem _)
      have hkl : k < listed.size := by omega
      simp [hkl]
      simpa using this.symm
    have hcs : ops.size ≤ cutAt X ops.toList := by
      by_cases hlt : cutAt X ops.toList < ops.size
      · have h1 := hall _ hlt
        rw [hcut _ (Nat.le_refl _)] at h1
        cases h1
      · omega
    rw [List.drop_eq_nil_of_le (by simpa using hcs)] at htail
    refine ⟨?_, ?_⟩
    · apply List.eq_nil_iff_forall_not_mem.2
      intro i hi
      obtain ⟨h1, o, h2, _⟩ := mem_ready.1 hi
      exact not_listed h1 (hall i (Array.getElem?_eq_some_iff.1 h2).1)
    · refine hQ _ a w ρ1 hρ htail r ⟨he.1, he.2.1, fun t ht => ?_⟩
      have := he.2.2 t ht
      rw [denv_penv (cutAt X ops.toList) fun k o _ ho _ => hall k (Array.getElem?_eq_some_iff.1 ho).1] at this
      exact this
  | succ fuel ih =>
    intro listed a w ρ1 hsz hcl hcut hf hρ r he
    have hclen : cutAt X ops.toList ≤ ops.size := by
      have : ∀ l : List Oper, cutAt X l ≤ l.length := fun l => by
        induction l with
        | nil => simp [cutAt]
        | cons o l ihl =>
          simp only [cutAt]
          split
          · simp; omega
          · simp
      simpa using this ops.toList
    by_cases hdone : ∀ k, k < cutAt X ops.toList → listed.getD k false = true
    · -- all quiet ones are done
      refine draw_tail ok hQ hop hd (fuel + 1) (cutAt X ops.toList) listed a w _ ρ1 hsz (fun j hj => ⟨fun h1 => ?_, hdone j⟩) hclen ?_ (Nat.le_refl _) hcl htail hρ r ⟨he.1, he.2.1, fun t ht => ?_⟩
      · by_cases hlt : j < cutAt X ops.toList
        · exact hlt
        · rw [hcut j (by omega)] at h1; cases h1
      · have hcount : listed.toList.count true ≤ cutAt X ops.toList := by
          have h1 : listed.toList = listed.toList.take (cutAt X ops.toList) ++ listed.toList.drop (cutAt X ops.toList) := (List.take_append_drop _ _).symm
          rw [h1, List.count_append]
          have h2 : (listed.toList.drop (cutAt X ops.toList)).count true = 0 := by
            rw [List.count_eq_zero]
            intro hm
            obtain ⟨q, hq⟩ := List.getElem?_of_mem hm
            rw [List.getElem?_drop, Array.getElem?_toList] at hq
            have := hcut (cutAt X ops.toList + q) (by omega)
            simp [Array.getD_eq_getD_getElem?, hq] at this
          have h3 := List.count_le_length (a := true) (l := listed.toList.take (cutAt X ops.toList))
          simp only [List.length_take] at h3
          omega
        omega
      · have := he.2.2 t ht
        rw [denv_penv (cutAt X ops.toList) fun k o hk2 _ _ => hdone k hk2] at this
        exact this
    · refine ⟨fun hr => ?_, fun i hi => ?_⟩
      · have hall := all_listed hd hsz hr
        exact absurd (fun k hk2 => hall k (by omega)) hdone
      · obtain ⟨h1, o, h2, h3⟩ := mem_ready.1 hi
        have hlt : i < ops.size := (Array.getElem?_eq_some_iff.1 h2).1
        have hwl : ∀ j, waits (Region.before ops) i j = true → listed.getD j false = true := fun j hj => waits_listed hcl i j hj fun o' ho' e he' hb => by
          rw [h2] at ho'
          cases ho'
          exact h3 e (by simpa using he') hb
        have hic : i < cutAt X ops.toList := by
          by_cases hic : i < cutAt X ops.toList
          · exact hic
          · exfalso
            refine hdone fun k hk2 => hwl k (drawOk_tail hd h2 (by omega) k (by omega))
        obtain ⟨hq, hs⟩ := hside i o (by omega) hic h2
        have hmem : o ∈ ops.toList := by
          have := (Array.getElem?_eq_some_iff.1 h2).2
          rw [← this]; simp
        have hun := not_listed h1
        -- whoever comes behind i in the text and waits for it is not listed
        have hbehind : ∀ k o', ops[k]? = some o' → waits (Region.before ops) k i = true → listed.getD k false ≠ true := fun k o' hk2 hw hkl => by
          refine hun (waits_listed hcl k i hw fun o'' ho'' e he' hb => ?_)
          exact hcl k o'' ho'' hkl e he' hb
        have hagree : ∀ t ∈ looks ops o, denv X ops s (fun k => listed.getD k false = true) (cutAt X ops.toList) t = penv X ops s i t := fun t ht => by
          have hl := drawOk_look hd h2 hic t ht
          rw [denv_skip (i := i) (cutAt X ops.toList) (by omega) fun k o' hk1 _ hk3 hk4 hk5 => ?_]
          · exact denv_penv i fun k o' hk1 hk2 hk3 => hwl k ((hl k o' hk2 hk3 (by omega)).1 hk1)
          · by_cases hki : k = i
            · subst hki; exact hun hk4
            · exact hbehind k o' hk3 ((hl k o' hk3 hk5 hki).2 (by omega)) hk4
        have hcong := aop_congr (X := X) (h := s.h) (i := s.n) (hp := s.h) hagree
        unfold wpOp
        rw [h2]
        simp only
        have hstep := aop_sound (next := wpAny X.P .any ops Q fuel (listed.setIfInBounds i true)) (Q := Q) (hp := s.h) ok (hop o hmem) (fun _ _ hj => hj) r ⟨s.n, fun _ hj => hj⟩ (Nat.le_refl _) he (by rw [hcong]; exact hs) fun y w' ρ2 q1 q2 q3 => by
          rw [hcong] at q2 q3
          rw [aop_quiet hq, quiet_heap hq] at q2
          refine ih (listed.setIfInBounds i true) _ w' ρ2 (by simp [hsz]) (hcl.set hi) (fun k hk2 => by rw [getD_set_ne false (by omega)]; exact hcut k hk2) ?_ (Ren.le_trans hρ q1) (q2.anti fun j hj => ⟨hj, fun e => by cases e⟩) ?_
          · have hi2 : listed.toList[i]? = some false := by
              have hil : i < listed.size := by omega
              simp [hil] at h1 ⊢; exact h1
            rw [Array.toList_setIfInBounds, count_set _ _ hi2]
            omega
          · rw [denv_add (D := fun k => listed.getD k false = true) h2 (fun k hk2 => by simp only [getD_set_ne false (Ne.symm hk2)]) hun (by
              have hil : i < listed.size := by omega
              simp [hil]) (cutAt X ops.toList) hic fun k o' d hk1 hk2 hk3 hk4 hk5 hk6 => ?_]
            · exact (he.mono q1).put o.dst (dst_ok (hop o hmem)) q3
            · have hkc : k < cutAt X ops.toList := hk2
              exact hbehind k o' hk3 (drawOk_dst hd hk3 hkc hk6 i o h2 hk5 hk1) hk4
        split
        · rename_i hwant
          rw [if_pos hwant] at hstep
          exact .inl hstep
        · rename_i hwant
          rw [if_neg hwant] at hstep
          exact hstep
end
end Go.Eng
