/-
  OUR OWN TOOL, PART D: the other operations one by one, and all together.
-/
import Derived.Test.YtkfphaphiikloaaDoorEngC
import Derived.Laws.Panics
set_option linter.unusedSimpArgs false
set_option linter.unusedVariables false
set_option linter.constructorNameAsVariable false
set_option linter.unusedSimpArgs false
namespace Go.Eng
open Go Go.RowKit

section
variable {X : Ctx} {K : Nat → Prop} {w0 : World} {ρ : Ren} {F : Nat → Prop} {h : Heap} {w : World} {i : Nat} {hb : Bool}

theorem Out.laid {s : Sem Next} {z : ARes} {cs : List AV} {ys : List Value} {esz cap : Nat} (r : Rel X K w0 ρ F h w) (hi : F i) (el : TypeId) (hys : VRs ρ cs ys) (h1 : ∀ y ∈ ys, y.oneCell' = true) (rest : List Value)
    (hsz : (ys ++ rest).length = cap * esz) (n : Nat) (y : Value) (hr : s.run X.P w = .ok (.value y) { w with heap := w.heap.push (.cells (ys ++ rest).toArray el), drawn := n })
    (hz : z.h = up h i (some ⟨cs, 0, true, esz⟩)) (hv : ∀ ρ' : Ren, ρ' i 0 = some (some (w.heap.size, 0), cap) → VR ρ' z.val y) : Out X K w0 ρ F i true s w z := by
  obtain ⟨ρ', e1, e2, e3⟩ := Rel.newRow r hi el hys h1 rest hsz n
  exact ⟨_, _, ρ', hr, e1, by rw [hz]; exact e3.anti fun j hj => ⟨hj.1, hj.2 rfl⟩, .inl ⟨y, rfl, hv ρ' e2⟩⟩

theorem snd_alloc (r : Rel X K w0 ρ F h w) (hi : F i) {t : TypeId} (ht : TyOk X t) (sd : Prop) :
    Out X K w0 ρ F i true (do pure (.value (← Instr.alloc t true (.tuple #[])))) w ⟨sd, .p i 0 0, up h i (some ⟨(X.ti t).zero.map .v, 0, true, (X.ti t).size⟩)⟩ := by
  obtain ⟨j, z, hj, hsz, _, hz, hzc⟩ := ht.info
  refine Out.laid (cs := (X.ti t).zero.map .v) (ys := (X.ti t).zero) (cap := 1) r hi t (vs_map _) ht.zone [] (by simp [ht.zlen]) w.drawn (.pointer (some ⟨w.heap.size, 0, none⟩)) ?_ rfl (fun ρ' e => ?_)
  · simp [Instr.alloc, zeroValue, typeInfo, hj, hz, newVar, newRow, ← hzc]
  · simp only [VR]; exact ⟨_, _, _, e, rfl⟩

theorem snd_box (r : Rel X K w0 ρ F h w) (hi : F i) {t : TypeId} {x : AV} {u : Value} (hu : VR ρ x u) (ht : TyOk X t) (hl : x.cells.length = (X.ti t).size) (ho : AV.ones x.cells) (sd : Prop) :
    Out X K w0 ρ F i true (do pure (.value (← Instr.box t u))) w ⟨sd, .p i 0 0, up h i (some ⟨x.cells, 0, true, (X.ti t).size⟩)⟩ := by
  obtain ⟨j, z, hj, hsz, _, hz, hzc⟩ := ht.info
  have hc := cells_out hu ho
  have hone : ∀ v ∈ u.cells.toList, v.oneCell' = true := fun v hv => by
    obtain ⟨m, hm⟩ := List.getElem?_of_mem hv
    have hml : m < x.cells.length := by
      have := hc.length
      by_cases hq : m < x.cells.length
      · exact hq
      · rw [List.getElem?_eq_none (by omega)] at hm; cases hm
    obtain ⟨v', g1, g2⟩ := hc.get m _ (List.getElem?_eq_getElem hml)
    rw [hm] at g1
    cases g1
    exact VR.one g2 (ones_mem ho _ (List.getElem_mem hml))
  refine Out.laid (cs := x.cells) (ys := u.cells.toList) (cap := 1) r hi t hc hone [] (by have := hc.length; simp at this ⊢; omega) w.drawn (.pointer (some ⟨w.heap.size, 0, none⟩)) ?_ rfl (fun ρ' e => ?_)
  · simp [Instr.box, newVar, newRow]
  · simp only [VR]; exact ⟨_, _, _, e, rfl⟩

theorem VRs.set : ∀ {l : List AV} {ys : List Value} {c : AV} {y : Value} (o : Nat), VRs ρ l ys → VR ρ c y → VRs ρ (l.set o c) (ys.set o y)
  | [], _, _, _, _, h, _ => by simp [VRs] at h; subst h; simp [VRs]
  | _ :: as, _, _, _, o, h, k => by
    simp only [VRs] at h
    obtain ⟨y', rest, rfl, h2, h3⟩ := h
    cases o with
    | zero => simp only [List.set_cons_zero, VRs]; exact ⟨_, _, rfl, k, h3⟩
    | succ o => simp only [List.set_cons_succ, VRs]; exact ⟨_, _, rfl, h2, VRs.set o h3 k⟩
theorem VRs.wr : ∀ {cs l : List AV} {us ys : List Value} (o : Nat), VRs ρ l ys → VRs ρ cs us → VRs ρ (wr l o cs) (wr ys o us)
  | [], _, _, _, _, h, k => by simp [VRs] at k; subst k; simpa [Eng.wr] using h
  | c :: r, _, _, _, o, h, k => by
    simp only [VRs] at k
    obtain ⟨y', rest, rfl, k2, k3⟩ := k
    simp only [Eng.wr]
    exact VRs.wr (o + 1) (VRs.set o h k2) k3

theorem foldl_wr : ∀ (us : List Value) (cells : Array Value) (off k : Nat), (us.zipIdx k).foldl (fun (cs : Array Value) (p : Value × Nat) => cs.setIfInBounds (off + p.2) p.1) cells = (wr cells.toList (off + k) us).toArray
  | [], cells, off, k => by simp [wr]
  | u :: us, cells, off, k => by
    simp only [List.zipIdx_cons, List.foldl_cons, Eng.wr]
    rw [foldl_wr us _ off (k + 1)]
    simp [Nat.add_assoc]

theorem run_fill {pl pl' : Nat → Option (Nat × Nat)} (hpl : ∀ j, pl j = pl' j) : ∀ (parts : List (Nat × AV)) (vals : List (Nat × Value)) (acs : List AV) (cells : Array Value), fillOk pl cells.size parts → VRs ρ acs cells.toList →
    parts.map (·.1) = vals.map (·.1) → VRs ρ (parts.map (·.2)) (vals.map (·.2)) → ∃ cells', Instr.fill pl' cells vals = some cells' ∧ cells'.size = cells.size ∧ VRs ρ (fillC pl acs parts) cells'.toList
  | [], vals, acs, cells, _, hc, h1, _ => by
    have : vals = [] := by simpa using h1.symm
    subst this
    exact ⟨cells, rfl, rfl, by simpa [fillC] using hc⟩
  | (j, x) :: parts, [], acs, cells, _, _, h1, _ => by simp at h1
  | (j, x) :: parts, (j', u) :: vals, acs, cells, hok, hc, h1, h2 => by
    simp only [List.map_cons, List.cons.injEq] at h1
    obtain ⟨rfl, h1⟩ := h1
    simp only [List.map_cons, VRs] at h2
    obtain ⟨y, rest, he, hx, h2⟩ := h2
    simp only [List.cons.injEq] at he
    obtain ⟨rfl, rfl⟩ := he
    simp only [fillOk] at hok
    obtain ⟨hp, ho, hok⟩ := hok
    cases hj : pl j with
    | none => simp [hj] at hp
    | some q =>
      obtain ⟨off, size⟩ := q
      simp only [hj] at hp
      have hxc := cells_out hx ho
      have hus : u.cells.size = x.cells.length := by have := hxc.length; rw [Array.length_toList] at this; omega
      have hcond : (u.cells.size ≠ size || off + u.cells.size > cells.size) = false := by
        simp only [ne_eq, Bool.or_eq_false_iff, decide_eq_false_iff_not, Decidable.not_not]
        omega
      have hf := foldl_wr u.cells.toList cells off 0
      simp only [Nat.add_zero] at hf
      obtain ⟨cells', e1, e2, e3⟩ := run_fill hpl parts vals (wr acs off x.cells) (wr cells.toList off u.cells.toList).toArray (by simpa [wr_length] using hok) (by simpa using VRs.wr off hc hxc) h1 h2
      refine ⟨cells', ?_, ?_, ?_⟩
      · simp only [Instr.fill, ← hpl, hj]
        rw [hcond]
        simp only [Bool.false_eq_true, if_false]
        rw [← e1, ← hf]
        congr 1
        rw [← Array.foldl_toList, Array.toList_zipIdx]
      · rw [e2]; simp [wr_length]
      · simp only [fillC, hj]; exact e3

theorem run_mapM_list {α β : Type} {P : Program} {q : α → Sem β} {k : α → β} : ∀ (l : List α), (∀ f ∈ l, (q f).run P w = .ok (k f) w) → (l.mapM q).run P w = .ok (l.map k) w
  | [], _ => by simp
  | a :: l, hl => by
    rw [List.mapM_cons]
    simp only [Sem.run_bind, hl a (by simp), Result.andThen_ok, run_mapM_list l (fun f hf => hl f (by simp [hf])), Sem.run_pure, List.map_cons]

theorem evs_fst (ev : Operand → AV) : ∀ (l : List (Nat × Operand)), (l.map fun p => (p.1, ev p.2)).map (·.1) = l.map (·.1)
  | [] => rfl
  | _ :: l => by simp
theorem evs_VRs {ev : Operand → AV} {a : Operand → Value} (hv : ∀ x, VR ρ (ev x) (a x)) : ∀ (l : List Operand), VRs ρ (l.map ev) (l.map a)
  | [] => by simp [VRs]
  | x :: l => by simp only [List.map_cons, VRs]; exact ⟨_, _, rfl, hv x, evs_VRs hv l⟩
theorem evs_VRs2 {ev : Operand → AV} {a : Operand → Value} (hv : ∀ x, VR ρ (ev x) (a x)) : ∀ (l : List (Nat × Operand)), VRs ρ ((l.map fun p => (p.1, ev p.2)).map (·.2)) ((l.map fun p => (p.1, a p.2)).map (·.2))
  | [] => by simp [VRs]
  | x :: l => by simp only [List.map_cons, VRs]; exact ⟨_, _, rfl, hv _, evs_VRs2 hv l⟩

theorem snd_build (r : Rel X K w0 ρ F h w) {ev : Operand → AV} {a : Operand → Value} (hv : ∀ x, VR ρ (ev x) (a x)) {t : TypeId} (ht : TyOk X t) (ps : Array (Nat × Operand)) (sd : Prop)
    (hd : match (X.ti t).d with | .struct _ _ => True | .arr _ _ => True | _ => False) (hok : fillOk (place X t) (X.ti t).size (ps.toList.map fun p => (p.1, ev p.2))) :
    Out X K w0 ρ F i hb (do pure (.value (← Instr.build t (ps.map fun (i, x) => (i, a x))))) w ⟨sd, .g (fillC (place X t) ((X.ti t).zero.map .v) (ps.toList.map fun p => (p.1, ev p.2))), h⟩ := by
  obtain ⟨j, z, hj, hsz, _, hz, hzc⟩ := ht.info
  have hzs : z.cells.size = (X.ti t).size := by rw [← Array.length_toList, hzc]; exact ht.zlen
  have hzv : VRs ρ ((X.ti t).zero.map .v) z.cells.toList := by rw [hzc]; exact vs_map _
  have key : ∀ pl' : Nat → Option (Nat × Nat), (∀ q, place X t q = pl' q) → ∃ cells', Instr.fill pl' z.cells (ps.toList.map fun p => (p.1, a p.2)) = some cells' ∧ VRs ρ (fillC (place X t) ((X.ti t).zero.map .v) (ps.toList.map fun p => (p.1, ev p.2))) cells'.toList := fun pl' hp => by
    obtain ⟨c', e1, _, e3⟩ := run_fill (ρ := ρ) hp (ps.toList.map fun p => (p.1, ev p.2)) (ps.toList.map fun p => (p.1, a p.2)) ((X.ti t).zero.map .v) z.cells (by rw [hzs]; exact hok) hzv (by simp) (evs_VRs2 hv _)
    exact ⟨c', e1, e3⟩
  have hde := ht.desc
  have hpm : (ps.map fun (x : Nat × Operand) => match x with | (i, x) => (i, a x)).toList = ps.toList.map fun p => (p.1, a p.2) := by simp
  unfold DescOk at hde
  cases hdd : (X.ti t).d with
  | struct fs eq =>
    rw [hdd] at hde
    obtain ⟨⟨E, hu, hfs, hfi⟩, _⟩ := hde
    have hm : (E.mapM fun f : Field => do pure (f.offset, ← sizeOf f.type)).run X.P w = .ok (E.map fun f : Field => (f.offset, (X.ti f.type).size)) w := by
      rw [Array.mapM_eq_mapM_toList, Sem.run_map, run_mapM_list (k := fun f : Field => (f.offset, (X.ti f.type).size)) E.toList (fun f hf => by
        obtain ⟨jf, hjf, hjs⟩ := hfi f hf
        simp [run_sizeOf hjf, hjs])]
      simp [Array.ext_iff]
    obtain ⟨c', e1, e2⟩ := key (fun q => (E.map fun f : Field => (f.offset, (X.ti f.type).size))[q]?) (fun q => by
      simp only [place, hdd, ← hfs]
      simp [Function.comp_def])
    refine Out.pure (y := .agg c') r ?_ rfl (by simp only [VR]; exact ⟨c'.toList, by simp, e2⟩)
    simp only [Instr.build, Sem.run_bind, zeroValue, typeInfo, run_program, Result.andThen_ok, hj, hz, Sem.run_pure, run_underlying hu, hm]
    rw [hpm, e1]
    simp
  | arr n e =>
    rw [hdd] at hde
    obtain ⟨hu, je, hje, hjes⟩ := hde
    have hok2 : fillOk (fun q => some (q * (X.ti e).size, (X.ti e).size)) (X.ti t).size (ps.toList.map fun p => (p.1, ev p.2)) ∧ fillC (fun q => some (q * (X.ti e).size, (X.ti e).size)) ((X.ti t).zero.map .v) (ps.toList.map fun p => (p.1, ev p.2)) = fillC (place X t) ((X.ti t).zero.map .v) (ps.toList.map fun p => (p.1, ev p.2)) := by
      clear key
      generalize (ps.toList.map fun p => (p.1, ev p.2)) = l at hok
      generalize (X.ti t).zero.map AV.v = cs
      clear hzv
      induction l generalizing cs with
      | nil => simp [fillOk, fillC]
      | cons q l ih =>
        obtain ⟨q1, q2⟩ := q
        simp only [fillOk, place, hdd] at hok
        by_cases hq : q1 < n
        · simp only [hq, if_true] at hok
          have := ih hok.2.2 (wr cs (q1 * (X.ti e).size) q2.cells)
          exact ⟨by simp only [fillOk]; exact ⟨hok.1, hok.2.1, this.1⟩, by simp only [fillC, place, hdd, hq, if_true]; simpa only [place, hdd] using this.2⟩
        · simp [hq] at hok
    obtain ⟨c', e1, _, e3⟩ := run_fill (ρ := ρ) (pl := fun q => some (q * (X.ti e).size, (X.ti e).size)) (pl' := fun q => some (q * je.size, je.size)) (fun q => by simp [hjes]) (ps.toList.map fun p => (p.1, ev p.2)) (ps.toList.map fun p => (p.1, a p.2)) ((X.ti t).zero.map .v) z.cells (by rw [hzs]; exact hok2.1) hzv (by simp) (evs_VRs2 hv _)
    rw [hok2.2] at e3
    refine Out.pure (y := .agg c') r ?_ rfl (by simp only [VR]; exact ⟨c'.toList, by simp, e3⟩)
    simp only [Instr.build, Sem.run_bind, zeroValue, typeInfo, run_program, Result.andThen_ok, hj, hz, Sem.run_pure, run_underlying hu, run_sizeOf hje]
    rw [hpm, e1]
    simp
  | _ => rw [hdd] at hd; exact hd.elim

theorem repZ_VRs (z : List Value) : ∀ n, VRs ρ (repZ z n) ((List.replicate n z).flatten)
  | 0 => by simp [repZ, VRs]
  | n + 1 => by
    simp only [repZ, List.replicate_succ, List.flatten_cons]
    exact VRs.append (vs_map z) (repZ_VRs z n)
theorem repZ_length (z : List Value) : ∀ n, (repZ z n).length = n * z.length
  | 0 => by simp [repZ]
  | n + 1 => by simp [repZ, repZ_length z n, Nat.succ_mul, Nat.add_comm]
theorem range_rep (z : List Value) (hz : 0 < z.length) (n : Nat) : (Array.range (n * z.length)).map (fun j => z.toArray[j % z.length]!) = ((List.replicate n z).flatten).toArray := by
  apply Array.ext_getElem?
  intro q
  simp only [Array.getElem?_map, List.getElem?_toArray]
  by_cases hq : q < n * z.length
  · rw [Array.getElem?_eq_getElem (by simpa using hq)]
    simp only [Array.getElem_range, Option.map_some]
    have hm : q % z.length < z.length := Nat.mod_lt _ hz
    induction n generalizing q with
    | zero => simp at hq
    | succ n ih =>
      simp only [List.replicate_succ, List.flatten_cons]
      by_cases h1 : q < z.length
      · rw [List.getElem?_append_left h1, Nat.mod_eq_of_lt h1]
        simp [h1]
      · rw [List.getElem?_append_right (by omega), ← ih (q - z.length) (by rw [Nat.succ_mul] at hq; omega) (Nat.mod_lt _ hz)]
        rw [Nat.mod_eq_sub_mod (by omega)]
  · rw [Array.getElem?_eq_none (by simpa using hq), List.getElem?_eq_none (by simp; omega)]
    rfl

theorem mem_rep {z : List Value} {n : Nat} {y : Value} (h : y ∈ (List.replicate n z).flatten) : y ∈ z := by
  simp only [List.mem_flatten, List.mem_replicate] at h
  obtain ⟨l, ⟨_, rfl⟩, hy⟩ := h
  exact hy

theorem VRs.ones {l : List AV} {ys : List Value} (hr : VRs ρ l ys) (ho : AV.ones l) : ∀ y ∈ ys, y.oneCell' = true := fun v hv => by
  obtain ⟨m, hm⟩ := List.getElem?_of_mem hv
  have hml : m < l.length := by
    have := hr.length
    by_cases hq : m < l.length
    · exact hq
    · rw [List.getElem?_eq_none (by omega)] at hm; cases hm
  obtain ⟨v', g1, g2⟩ := hr.get m _ (List.getElem?_eq_getElem hml)
  rw [hm] at g1
  cases g1
  exact VR.one g2 (ones_mem ho _ (List.getElem_mem hml))

theorem snd_buildSlice (r : Rel X K w0 ρ F h w) (hi : F i) {ev : Operand → AV} {a : Operand → Value} (hv : ∀ x, VR ρ (ev x) (a x)) {t e : TypeId} (hu : X.P.underlying t = some (.slice e)) (he : TyOk X e) (len : Nat) (ps : Array (Nat × Operand)) (sd : Prop)
    (hpos : 0 < (X.ti e).size) (hmx : len * (X.ti e).size ≤ 16777216) (hok : fillOk (fun j => some (j * (X.ti e).size, (X.ti e).size)) (len * (X.ti e).size) (ps.toList.map fun p => (p.1, ev p.2)))
    (ho : AV.ones (fillC (fun j => some (j * (X.ti e).size, (X.ti e).size)) (repZ (X.ti e).zero len) (ps.toList.map fun p => (p.1, ev p.2)))) :
    Out X K w0 ρ F i true (do pure (.value (← Instr.buildSlice t len (ps.map fun (i, x) => (i, a x))))) w ⟨sd, .s i 0 0 len, up h i (some ⟨fillC (fun j => some (j * (X.ti e).size, (X.ti e).size)) (repZ (X.ti e).zero len) (ps.toList.map fun p => (p.1, ev p.2)), 0, true, (X.ti e).size⟩)⟩ := by
  obtain ⟨j, z, hj, hsz, _, hz, hzc⟩ := he.info
  have hzl : z.cells.toList.length = (X.ti e).size := by rw [hzc]; exact he.zlen
  have hra : (Array.range (len * (X.ti e).size)).map (fun q => z.cells[q % z.cells.size]!) = ((List.replicate len z.cells.toList).flatten).toArray := by
    have := range_rep z.cells.toList (by omega) len
    rw [hzl] at this
    have hzs : z.cells.size = (X.ti e).size := by rw [← Array.length_toList]; exact hzl
    rw [← this, hzs]
  have hrep : VRs ρ (repZ (X.ti e).zero len) ((List.replicate len z.cells.toList).flatten) := by rw [← hzc]; exact repZ_VRs _ _
  have hrl : ((List.replicate len z.cells.toList).flatten).length = len * (X.ti e).size := by have := hrep.length; rw [repZ_length, he.zlen] at this; exact this
  obtain ⟨c', e1, e2, e3⟩ := run_fill (ρ := ρ) (pl := fun q => some (q * (X.ti e).size, (X.ti e).size)) (pl' := fun q => some (q * j.size, j.size)) (fun q => by simp [hsz]) (ps.toList.map fun p => (p.1, ev p.2)) (ps.toList.map fun p => (p.1, a p.2)) (repZ (X.ti e).zero len) ((List.replicate len z.cells.toList).flatten).toArray (by simpa only [List.size_toArray, hrl] using hok) (by simpa using hrep) (by simp) (evs_VRs2 hv _)
  have hpm : (ps.map fun (x : Nat × Operand) => match x with | (i, x) => (i, a x)).toList = ps.toList.map fun p => (p.1, a p.2) := by simp
  have hcs : c'.size = len * (X.ti e).size := by rw [e2]; simpa only [List.size_toArray] using hrl
  refine Out.laid (cap := len) r hi e e3 (e3.ones ho) [] (by simp [hcs]) w.drawn (.slice (some ⟨w.heap.size, 0, none⟩) len len) ?_ rfl (fun ρ' hp => ?_)
  · have h2 : ¬ (len * j.size > 2 ^ 24) := by rw [hsz]; omega
    by_cases hl0 : len = 0
    · subst hl0
      simp only [Nat.zero_mul, List.replicate_zero, List.flatten_nil] at e1
      simp only [Instr.buildSlice, Sem.run_bind, run_underlying hu, Result.andThen_ok, run_sizeOf hj, Nat.zero_mul, if_true, Sem.run_pure, Sem.run_ite, show ¬ (0 > 2 ^ 24) by decide, if_false]
      rw [hpm]
      have e0 : (Array.map (fun x => (#[] : Array Value)[x % (#[] : Array Value).size]!) (Array.range 0)) = #[] := by simp [Array.range]
      rw [e0, e1]
      simp [newRow]
    · have h3 : ¬ (len * j.size = 0) := by
        rw [hsz]
        have := Nat.mul_pos (Nat.pos_of_ne_zero hl0) hpos
        omega
      simp only [Instr.buildSlice, Sem.run_bind, run_underlying hu, Result.andThen_ok, run_sizeOf hj, h2, if_false, zeroValue, typeInfo, run_program, hj, hz, Sem.run_pure, h3, Sem.run_ite]
      rw [hsz, hra, hpm]
      rw [hsz] at e1
      rw [e1]
      simp [newRow]
  · simp only [VR]
    exact ⟨_, _, _, 0, hp, Nat.le_refl _, fun _ => rfl, fun _ => rfl, (fun e => by cases e), rfl⟩

end
end Go.Eng
