import Derived.Test.YtbffkkeieihpdaaGreatDoorX02
import Derived.Laws.Panics
set_option linter.unusedSimpArgs false
set_option linter.unusedVariables false
set_option linter.constructorNameAsVariable false
set_option maxRecDepth 100000
set_option maxHeartbeats 4000000
namespace Go.Eng
open Go Go.RowKit
section
variable {X : Ctx} {K : Nat → Prop} {w0 : World} {ρ : Ren} {F : Nat → Prop} {h : Heap} {w : World} {i : Nat} {hb : Bool}
theorem Out.laid {s : Sem Next} {z : ARes} {cs : List AV} {ys : List Value} {esz cap : Nat} (r : Rel X K w0 ρ F h w) (hi : F i) (el : TypeId) (hys : VRs ρ cs ys) (h1 : ∀ y ∈ ys, y.oneCell' = true) (rest : List Value)
  (hsz : (ys ++ rest).length = cap * esz) (n : Nat) (y : Value) (hr : s.run X.P w = .ok (.value y) { w with heap := w.heap.push (.cells (ys ++ rest).toArray el), drawn := n })
  (hz : z.h = up h i (some ⟨cs, 0, true, esz⟩)) (hv : ∀ ρ' : Ren, ρ' i 0 = some (some (w.heap.size, 0), cap) → VR ρ' z.val y) : Out X K w0 ρ F i true s w z := by
 obtain ⟨ρ', e1, e2, e3⟩ := Rel.newRow r hi el hys h1 rest hsz n
 exact ⟨_, _, ρ', hr, e1, by rw [hz]; exact e3.anti fun j hj => ⟨hj.1, hj.2 rfl⟩, .inl ⟨y, rfl, hv ρ' e2⟩⟩
theorem snd_alloc (r : Rel X K w0 ρ F h w) (hi : F i) {t : TypeId} (ht : TyOk X t) (sd : Prop) :
  Out X K w0 ρ F i true (do pure (.value (← Instr.alloc t true (.tuple #[])))) w ⟨sd, .p i 0 0, up h i (some ⟨(X.ti t).zero.map .v, 0, true, (X.ti t).size⟩)⟩ := by
 obtain ⟨j, z, hj, hsz, _, hz, hzc⟩ := ht.info
 refine Out.laid (cs := (X.ti t).zero.map .v) (ys := (X.ti t).zero) (cap := 1) r hi t (vs_map _) ht.zone [] (by simp [ht.zlen]) w.drawn (.pointer (some ⟨w.heap.size, 0, none⟩)) ?_ rfl (fun ρ' e => ?_)
 ·simp [Instr.alloc, zeroValue, typeInfo, hj, hz, newVar, newRow, ← hzc]
 ·simp only [VR]; exact ⟨_, _, _, e, rfl⟩
theorem snd_box (r : Rel X K w0 ρ F h w) (hi : F i) {t : TypeId} {x : AV} {u : Value} (hu : VR ρ x u) (ht : TyOk X t) (hl : x.cells.length = (X.ti t).size) (ho : AV.ones x.cells) (sd : Prop) :
  Out X K w0 ρ F i true (do pure (.value (← Instr.box t u))) w ⟨sd, .p i 0 0, up h i (some ⟨x.cells, 0, true, (X.ti t).size⟩)⟩ := by
 obtain ⟨j, z, hj, hsz, _, hz, hzc⟩ := ht.info
 have hc := cells_out hu ho
 have hone : ∀ v ∈ u.cells.toList, v.oneCell' = true := fun v hv => by
  obtain ⟨m, hm⟩ := List.getElem?_of_mem hv
  have hml : m < x.cells.length := by
   have := hc.length
   by_cases hq : m < x.cells.length
   ·exact hq
   ·rw [List.getElem?_eq_none (by omega)] at hm; cases hm
  obtain ⟨v', g1, g2⟩ := hc.get m _ (List.getElem?_eq_getElem hml)
  rw [hm] at g1
  cases g1
  exact VR.one g2 (ones_mem ho _ (List.getElem_mem hml))
 refine Out.laid (cs := x.cells) (ys := u.cells.toList) (cap := 1) r hi t hc hone [] (by have := hc.length; simp at this ⊢; omega) w.drawn (.pointer (some ⟨w.heap.size, 0, none⟩)) ?_ rfl (fun ρ' e => ?_)
 ·simp [Instr.box, newVar, newRow]
 ·simp only [VR]; exact ⟨_, _, _, e, rfl⟩
theorem VRs.set : ∀ {l : List AV} {ys : List Value} {c : AV} {y : Value} (o : Nat), VRs ρ l ys → VR ρ c y → VRs ρ (l.set o c) (ys.set o y)
 | [], _, _, _, _, h, _ => by simp [VRs] at h; subst h; simp [VRs]
 | _ :: as, _, _, _, o, h, k => by
  simp only [VRs] at h
  obtain ⟨y', rest, rfl, h2, h3⟩ := h
  cases o with
  | zero => simp only [List.set_cons_zero, VRs]; exact ⟨_, _, rfl, k, h3⟩
  | succ o => simp only [List.set_cons_succ, VRs]; exact ⟨_, _, rfl, h2, VRs.set o h3 k⟩
theorem VRs.wr : ∀ {cs l : List AV} {us ys : List Value} (o : Nat), VRs ρ l ys → VRs ρ cs us → VRs ρ (wr l o cs) (wr ys o us)
 | [], _, _, _, _, h, k => by simp [VRs] at k; subst k; simpa [Eng.wr] using h
 | c :: r, _, _, _, o, h, k => by
  simp only [VRs] at k
  obtain ⟨y', rest, rfl, k2, k3⟩ := k
  simp only [Eng.wr]
  exact VRs.wr (o + 1) (VRs.set o h k2) k3
theorem foldl_wr : ∀ (us : List Value) (cells : Array Value) (off k : Nat), (us.zipIdx k).foldl (fun (cs : Array Value) (p : Value × Nat) => cs.setIfInBounds (off + p.2) p.1) cells = (wr cells.toList (off + k) us).toArray
 | [], cells, off, k => by simp [wr]
 | u :: us, cells, off, k => by
  simp only [List.zipIdx_cons, List.foldl_cons, Eng.wr]
  rw [foldl_wr us _ off (k + 1)]
  simp [Nat.add_assoc]
theorem run_fill {pl pl' : Nat → Option (Nat × Nat)} (hpl : ∀ j, pl j = pl' j) : ∀ (parts : List (Nat × AV)) (vals : List (Nat × Value)) (acs : List AV) (cells : Array Value), fillOk pl cells.size parts → VRs ρ acs cells.toList →
  parts.map (·.1) = vals.map (·.1) → VRs ρ (parts.map (·.2)) (vals.map (·.2)) → ∃ cells', Instr.fill pl' cells vals = some cells' ∧ cells'.size = cells.size ∧ VRs ρ (fillC pl acs parts) cells'.toList
 | [], vals, acs, cells, _, hc, h1, _ => by
  have : vals = [] := by simpa using h1.symm
  subst this
  exact ⟨cells, rfl, rfl, by simpa [fillC] using hc⟩
 | (j, x) :: parts, [], acs, cells, _, _, h1, _ => by simp at h1
 | (j, x) :: parts, (j', u) :: vals, acs, cells, hok, hc, h1, h2 => by
  simp only [List.map_cons, List.cons.injEq] at h1
  obtain ⟨rfl, h1⟩ := h1
  simp only [List.map_cons, VRs] at h2
  obtain ⟨y, rest, he, hx, h2⟩ := h2
  simp only [List.cons.injEq] at he
  obtain ⟨rfl, rfl⟩ := he
  simp only [fillOk] at hok
  obtain ⟨hp, ho, hok⟩ := hok
  cases hj : pl j with
  | none => simp [hj] at hp
  | some q =>
   obtain ⟨off, size⟩ := q
   simp only [hj] at hp
   have hxc := cells_out hx ho
   have hus : u.cells.size = x.cells.length := by have := hxc.length; rw [Array.length_toList] at this; omega
   have hcond : (u.cells.size ≠ size || off + u.cells.size > cells.size) = false := by
    simp only [ne_eq, Bool.or_eq_false_iff, decide_eq_false_iff_not, Decidable.not_not]
    omega
   have hf := foldl_wr u.cells.toList cells off 0
   simp only [Nat.add_zero] at hf
   obtain ⟨cells', e1, e2, e3⟩ := run_fill hpl parts vals (wr acs off x.cells) (wr cells.toList off u.cells.toList).toArray (by simpa [wr_length] using hok) (by simpa using VRs.wr off hc hxc) h1 h2
   refine ⟨cells', ?_, ?_, ?_⟩
   ·simp only [Instr.fill, ← hpl, hj]
    rw [hcond]
    simp only [Bool.false_eq_true, if_false]
    rw [← e1, ← hf]
    congr 1
    rw [← Array.foldl_toList, Array.toList_zipIdx]
   ·rw [e2]; simp [wr_length]
   ·simp only [fillC, hj]; exact e3
theorem run_mapM_list {α β : Type} {P : Program} {q : α → Sem β} {k : α → β} : ∀ (l : List α), (∀ f ∈ l, (q f).run P w = .ok (k f) w) → (l.mapM q).run P w = .ok (l.map k) w
 | [], _ => by simp
 | a :: l, hl => by
  rw [List.mapM_cons]
  simp only [Sem.run_bind, hl a (by simp), Result.andThen_ok, run_mapM_list l (fun f hf => hl f (by simp [hf])), Sem.run_pure, List.map_cons]
theorem evs_VRs {ev : Operand → AV} {a : Operand → Value} (hv : ∀ x, VR ρ (ev x) (a x)) : ∀ (l : List Operand), VRs ρ (l.map ev) (l.map a)
 | [] => by simp [VRs]
 | x :: l => by simp only [List.map_cons, VRs]; exact ⟨_, _, rfl, hv x, evs_VRs hv l⟩
theorem evs_VRs2 {ev : Operand → AV} {a : Operand → Value} (hv : ∀ x, VR ρ (ev x) (a x)) : ∀ (l : List (Nat × Operand)), VRs ρ ((l.map fun p => (p.1, ev p.2)).map (·.2)) ((l.map fun p => (p.1, a p.2)).map (·.2))
 | [] => by simp [VRs]
 | x :: l => by simp only [List.map_cons, VRs]; exact ⟨_, _, rfl, hv _, evs_VRs2 hv l⟩
theorem snd_build (r : Rel X K w0 ρ F h w) {ev : Operand → AV} {a : Operand → Value} (hv : ∀ x, VR ρ (ev x) (a x)) {t : TypeId} (ht : TyOk X t) (ps : Array (Nat × Operand)) (sd : Prop)
  (hd : match (X.ti t).d with | .struct _ _ => True | .arr _ _ => True | _ => False) (hok : fillOk (place X t) (X.ti t).size (ps.toList.map fun p => (p.1, ev p.2))) :
  Out X K w0 ρ F i hb (do pure (.value (← Instr.build t (ps.map fun (i, x) => (i, a x))))) w ⟨sd, .g (fillC (place X t) ((X.ti t).zero.map .v) (ps.toList.map fun p => (p.1, ev p.2))), h⟩ := by
 obtain ⟨j, z, hj, hsz, _, hz, hzc⟩ := ht.info
 have hzs : z.cells.size = (X.ti t).size := by rw [← Array.length_toList, hzc]; exact ht.zlen
 have hzv : VRs ρ ((X.ti t).zero.map .v) z.cells.toList := by rw [hzc]; exact vs_map _
 have key : ∀ pl' : Nat → Option (Nat × Nat), (∀ q, place X t q = pl' q) → ∃ cells', Instr.fill pl' z.cells (ps.toList.map fun p => (p.1, a p.2)) = some cells' ∧ VRs ρ (fillC (place X t) ((X.ti t).zero.map .v) (ps.toList.map fun p => (p.1, ev p.2))) cells'.toList := fun pl' hp => by
  obtain ⟨c', e1, _, e3⟩ := run_fill (ρ := ρ) hp (ps.toList.map fun p => (p.1, ev p.2)) (ps.toList.map fun p => (p.1, a p.2)) ((X.ti t).zero.map .v) z.cells (by rw [hzs]; exact hok) hzv (by simp) (evs_VRs2 hv _)
  exact ⟨c', e1, e3⟩
 have hde := ht.desc
 have hpm : (ps.map fun (x : Nat × Operand) => match x with | (i, x) => (i, a x)).toList = ps.toList.map fun p => (p.1, a p.2) := by simp
 unfold DescOk at hde
 cases hdd : (X.ti t).d with
 | struct fs eq =>
  rw [hdd] at hde
  obtain ⟨⟨E, hu, hfs, hfi⟩, _⟩ := hde
  have hm : (E.mapM fun f : Field => do pure (f.offset, ← sizeOf f.type)).run X.P w = .ok (E.map fun f : Field => (f.offset, (X.ti f.type).size)) w := by
   rw [Array.mapM_eq_mapM_toList, Sem.run_map, run_mapM_list (k := fun f : Field => (f.offset, (X.ti f.type).size)) E.toList (fun f hf => by
    obtain ⟨jf, hjf, hjs⟩ := hfi f hf
    simp [run_sizeOf hjf, hjs])]
   simp [Array.ext_iff]
  obtain ⟨c', e1, e2⟩ := key (fun q => (E.map fun f : Field => (f.offset, (X.ti f.type).size))[q]?) (fun q => by
   simp only [place, hdd, ← hfs]
   simp [Function.comp_def])
  refine Out.pure (y := .agg c') r ?_ rfl (by simp only [VR]; exact ⟨c'.toList, by simp, e2⟩)
  simp only [Instr.build, Sem.run_bind, zeroValue, typeInfo, run_program, Result.andThen_ok, hj, hz, Sem.run_pure, run_underlying hu, hm]
  rw [hpm, e1]
  simp
 | arr n e =>
  rw [hdd] at hde
  obtain ⟨hu, je, hje, hjes⟩ := hde
  have hok2 : fillOk (fun q => some (q * (X.ti e).size, (X.ti e).size)) (X.ti t).size (ps.toList.map fun p => (p.1, ev p.2)) ∧ fillC (fun q => some (q * (X.ti e).size, (X.ti e).size)) ((X.ti t).zero.map .v) (ps.toList.map fun p => (p.1, ev p.2)) = fillC (place X t) ((X.ti t).zero.map .v) (ps.toList.map fun p => (p.1, ev p.2)) := by
   clear key
   generalize (ps.toList.map fun p => (p.1, ev p.2)) = l at hok
   generalize (X.ti t).zero.map AV.v = cs
   clear hzv
   induction l generalizing cs with
   | nil => simp [fillOk, fillC]
   | cons q l ih =>
    obtain ⟨q1, q2⟩ := q
    simp only [fillOk, place, hdd] at hok
    by_cases hq : q1 < n
    ·simp only [hq, if_true] at hok
     have := ih hok.2.2 (wr cs (q1 * (X.ti e).size) q2.cells)
     exact ⟨by simp only [fillOk]; exact ⟨hok.1, hok.2.1, this.1⟩, by simp only [fillC, place, hdd, hq, if_true]; simpa only [place, hdd] using this.2⟩
    ·simp [hq] at hok
  obtain ⟨c', e1, _, e3⟩ := run_fill (ρ := ρ) (pl := fun q => some (q * (X.ti e).size, (X.ti e).size)) (pl' := fun q => some (q * je.size, je.size)) (fun q => by simp [hjes]) (ps.toList.map fun p => (p.1, ev p.2)) (ps.toList.map fun p => (p.1, a p.2)) ((X.ti t).zero.map .v) z.cells (by rw [hzs]; exact hok2.1) hzv (by simp) (evs_VRs2 hv _)
  rw [hok2.2] at e3
  refine Out.pure (y := .agg c') r ?_ rfl (by simp only [VR]; exact ⟨c'.toList, by simp, e3⟩)
  simp only [Instr.build, Sem.run_bind, zeroValue, typeInfo, run_program, Result.andThen_ok, hj, hz, Sem.run_pure, run_underlying hu, run_sizeOf hje]
  rw [hpm, e1]
  simp
 | _ => rw [hdd] at hd; exact hd.elim
theorem repZ_VRs (z : List Value) : ∀ n, VRs ρ (repZ z n) ((List.replicate n z).flatten)
 | 0 => by simp [repZ, VRs]
 | n + 1 => by
  simp only [repZ, List.replicate_succ, List.flatten_cons]
  exact VRs.append (vs_map z) (repZ_VRs z n)
theorem repZ_length (z : List Value) : ∀ n, (repZ z n).length = n * z.length
 | 0 => by simp [repZ]
 | n + 1 => by simp [repZ, repZ_length z n, Nat.succ_mul, Nat.add_comm]
theorem range_rep (z : List Value) (hz : 0 < z.length) (n : Nat) : (Array.range (n * z.length)).map (fun j => z.toArray[j % z.length]!) = ((List.replicate n z).flatten).toArray := by
 apply Array.ext_getElem?
 intro q
 simp only [Array.getElem?_map, List.getElem?_toArray]
 by_cases hq : q < n * z.length
 ·rw [Array.getElem?_eq_getElem (by simpa using hq)]
  simp only [Array.getElem_range, Option.map_some]
  have hm : q % z.length < z.length := Nat.mod_lt _ hz
  induction n generalizing q with
  | zero => simp at hq
  | succ n ih =>
   simp only [List.replicate_succ, List.flatten_cons]
   by_cases h1 : q < z.length
   ·rw [List.getElem?_append_left h1, Nat.mod_eq_of_lt h1]
    simp [h1]
   ·rw [List.getElem?_append_right (by omega), ← ih (q - z.length) (by rw [Nat.succ_mul] at hq; omega) (Nat.mod_lt _ hz)]
    rw [Nat.mod_eq_sub_mod (by omega)]
 ·rw [Array.getElem?_eq_none (by simpa using hq), List.getElem?_eq_none (by simp; omega)]
  rfl
theorem mem_rep {z : List Value} {n : Nat} {y : Value} (h : y ∈ (List.replicate n z).flatten) : y ∈ z := by
 simp only [List.mem_flatten, List.mem_replicate] at h
 obtain ⟨l, ⟨_, rfl⟩, hy⟩ := h
 exact hy
theorem VRs.ones {l : List AV} {ys : List Value} (hr : VRs ρ l ys) (ho : AV.ones l) : ∀ y ∈ ys, y.oneCell' = true := fun v hv => by
 obtain ⟨m, hm⟩ := List.getElem?_of_mem hv
 have hml : m < l.length := by
  have := hr.length
  by_cases hq : m < l.length
  ·exact hq
  ·rw [List.getElem?_eq_none (by omega)] at hm; cases hm
 obtain ⟨v', g1, g2⟩ := hr.get m _ (List.getElem?_eq_getElem hml)
 rw [hm] at g1
 cases g1
 exact VR.one g2 (ones_mem ho _ (List.getElem_mem hml))
theorem snd_buildSlice (r : Rel X K w0 ρ F h w) (hi : F i) {ev : Operand → AV} {a : Operand → Value} (hv : ∀ x, VR ρ (ev x) (a x)) {t e : TypeId} (hu : X.P.underlying t = some (.slice e)) (he : TyOk X e) (len : Nat) (ps : Array (Nat × Operand)) (sd : Prop)
  (hpos : 0 < (X.ti e).size) (hmx : len * (X.ti e).size ≤ 16777216) (hok : fillOk (fun j => some (j * (X.ti e).size, (X.ti e).size)) (len * (X.ti e).size) (ps.toList.map fun p => (p.1, ev p.2)))
  (ho : AV.ones (fillC (fun j => some (j * (X.ti e).size, (X.ti e).size)) (repZ (X.ti e).zero len) (ps.toList.map fun p => (p.1, ev p.2)))) :
  Out X K w0 ρ F i true (do pure (.value (← Instr.buildSlice t len (ps.map fun (i, x) => (i, a x))))) w ⟨sd, .s i 0 0 len, up h i (some ⟨fillC (fun j => some (j * (X.ti e).size, (X.ti e).size)) (repZ (X.ti e).zero len) (ps.toList.map fun p => (p.1, ev p.2)), 0, true, (X.ti e).size⟩)⟩ := by
 obtain ⟨j, z, hj, hsz, _, hz, hzc⟩ := he.info
 have hzl : z.cells.toList.length = (X.ti e).size := by rw [hzc]; exact he.zlen
 have hra : (Array.range (len * (X.ti e).size)).map (fun q => z.cells[q % z.cells.size]!) = ((List.replicate len z.cells.toList).flatten).toArray := by
  have := range_rep z.cells.toList (by omega) len
  rw [hzl] at this
  have hzs : z.cells.size = (X.ti e).size := by rw [← Array.length_toList]; exact hzl
  rw [← this, hzs]
 have hrep : VRs ρ (repZ (X.ti e).zero len) ((List.replicate len z.cells.toList).flatten) := by rw [← hzc]; exact repZ_VRs _ _
 have hrl : ((List.replicate len z.cells.toList).flatten).length = len * (X.ti e).size := by have := hrep.length; rw [repZ_length, he.zlen] at this; exact this
 obtain ⟨c', e1, e2, e3⟩ := run_fill (ρ := ρ) (pl := fun q => some (q * (X.ti e).size, (X.ti e).size)) (pl' := fun q => some (q * j.size, j.size)) (fun q => by simp [hsz]) (ps.toList.map fun p => (p.1, ev p.2)) (ps.toList.map fun p => (p.1, a p.2)) (repZ (X.ti e).zero len) ((List.replicate len z.cells.toList).flatten).toArray (by simpa only [List.size_toArray, hrl] using hok) (by simpa using hrep) (by simp) (evs_VRs2 hv _)
 have hpm : (ps.map fun (x : Nat × Operand) => match x with | (i, x) => (i, a x)).toList = ps.toList.map fun p => (p.1, a p.2) := by simp
 have hcs : c'.size = len * (X.ti e).size := by rw [e2]; simpa only [List.size_toArray] using hrl
 refine Out.laid (cap := len) r hi e e3 (e3.ones ho) [] (by simp [hcs]) w.drawn (.slice (some ⟨w.heap.size, 0, none⟩) len len) ?_ rfl (fun ρ' hp => ?_)
 ·have h2 : ¬ (len * j.size > 2 ^ 24) := by rw [hsz]; omega
  by_cases hl0 : len = 0
  ·subst hl0
   simp only [Nat.zero_mul, List.replicate_zero, List.flatten_nil] at e1
   simp only [Instr.buildSlice, Sem.run_bind, run_underlying hu, Result.andThen_ok, run_sizeOf hj, Nat.zero_mul, if_true, Sem.run_pure, Sem.run_ite, show ¬ (0 > 2 ^ 24) by decide, if_false]
   rw [hpm]
   have e0 : (Array.map (fun x => (#[] : Array Value)[x % (#[] : Array Value).size]!) (Array.range 0)) = #[] := by simp [Array.range]
   rw [e0, e1]
   simp [newRow]
  ·have h3 : ¬ (len * j.size = 0) := by
    rw [hsz]
    have := Nat.mul_pos (Nat.pos_of_ne_zero hl0) hpos
    omega
   simp only [Instr.buildSlice, Sem.run_bind, run_underlying hu, Result.andThen_ok, run_sizeOf hj, h2, if_false, zeroValue, typeInfo, run_program, hj, hz, Sem.run_pure, h3, Sem.run_ite]
   rw [hsz, hra, hpm]
   rw [hsz] at e1
   rw [e1]
   simp [newRow]
 ·simp only [VR]
  exact ⟨_, _, _, 0, hp, Nat.le_refl _, fun _ => rfl, fun _ => rfl, (fun e => by cases e), rfl⟩
end
end Go.Eng

namespace Go.Eng
open Go Go.RowKit
section
variable {X : Ctx} {K : Nat → Prop} {w0 : World} {ρ : Ren} {F : Nat → Prop} {h : Heap} {w : World} {i : Nat} {hb : Bool}
theorem Rel.bump (r : Rel X K w0 ρ F h w) {id : Nat} {k k' : Blk} {pl : Place} {w' : World} (hk : h id = some k) (hrw : k.rw = true) (hv : k'.ver = k.ver + 1)
  (hold : ∀ j, j < w.heap.size → (∀ p1, ρ id k.ver = some p1 → blkOf p1 ≠ some j) → w'.heap[j]? = w.heap[j]?)
  (hpl : ∀ b, blkOf pl = some b → w.heap.size ≤ b ∨ ∃ p1, ρ id k.ver = some p1 ∧ blkOf p1 = some b)
  (hblk : ∀ ρ' : Ren, ρ.le ρ' → ρ' id k'.ver = some pl → BlkRel ρ' w' id k') (hsz : w.heap.size ≤ w'.heap.size) (hos : w'.os = w.os) (ht : w'.tape = w.tape) (ho : w'.output = w.output) :
  ∃ ρ' : Ren, ρ.le ρ' ∧ ρ' id k'.ver = some pl ∧ Rel X K w0 ρ' F (up h id (some k')) w' := by
 let ρ' : Ren := fun j v => if j = id ∧ v = k.ver + 1 then some pl else ρ j v
 have hnone := r.vers id k hk hrw
 have hle : ρ.le ρ' := fun j v x e => by
  by_cases hj : j = id ∧ v = k.ver + 1
  ·rw [hj.1, hj.2, hnone _ (by omega)] at e; cases e
  ·simp [ρ', hj, e]
 have hid : ρ' id k'.ver = some pl := by simp [ρ', hv]
 have hne : ∀ j, j ≠ id → ρ' j = ρ j := fun j hj => by funext v; simp [ρ', hj]
 have hmine : ∀ j, K j → ∀ p1, ρ id k.ver = some p1 → blkOf p1 ≠ some j := fun j hj p1 e e2 => r.mine id k j p1 hk hrw e e2 hj
 refine ⟨ρ', hle, hid, ⟨hos.trans r.os, ht.trans r.tape, ho.trans r.output, Nat.le_trans r.size hsz, ?_, ?_, ?_, ?_, ?_, ?_, ?_, ?_⟩⟩
 ·intro j hj
  rw [hold j (r.kold j hj) (hmine j hj)]
  exact r.keep j hj
 ·intro j hj; exact Nat.lt_of_lt_of_le (r.kold j hj) hsz
 ·intro g cs hg
  obtain ⟨g1, arr2, el2, fr2, g2, g3⟩ := r.glob g cs hg
  exact ⟨g1, arr2, el2, fr2, by rw [hold g (r.kold g g1) (hmine g g1)]; exact g2, g3⟩
 ·intro j kj hj
  by_cases e : j = id
  ·subst e
   simp only [up_same, Option.some.injEq] at hj
   subst hj
   exact hblk ρ' hle hid
  ·rw [up_ne _ _ e] at hj
   have hb := r.blk j kj hj
   refine hb.mono hle fun b2 p2 hp2 hb2 => hold b2 (hb.lt hp2 hb2) fun p1 e1 e2 => ?_
   exact e (r.apart id j k kj b2 p1 p2 hk hrw hj e1 hp2 e2 hb2).symm
 ·intro a b ka kb blk p1 p2 ha hrwa hb hpa hpb hb1 hb2
  by_cases ea : a = id
  ·by_cases eb : b = id
   ·rw [ea, eb]
   ·exfalso
    subst ea
    simp only [up_same, Option.some.injEq] at ha
    subst ha
    rw [hid] at hpa
    rw [up_ne _ _ eb] at hb
    rw [hne b eb] at hpb
    rcases hpl blk (by rw [Option.some.inj hpa]; exact hb1) with hn | ⟨q1, e1, e2⟩
    ·have := (r.blk b kb hb).lt hpb hb2; omega
    ·exact eb (r.apart a b k kb blk q1 p2 hk hrw hb e1 hpb e2 hb2).symm
  ·rw [up_ne _ _ ea] at ha
   rw [hne a ea] at hpa
   by_cases eb : b = id
   ·exfalso
    subst eb
    simp only [up_same, Option.some.injEq] at hb
    subst hb
    rw [hid] at hpb
    rcases hpl blk (by rw [Option.some.inj hpb]; exact hb2) with hn | ⟨q1, e1, e2⟩
    ·have := (r.blk a ka ha).lt hpa hb1; omega
    ·exact ea (r.apart a b ka k blk p1 q1 ha hrwa hk hpa e1 hb1 e2)
   ·rw [up_ne _ _ eb] at hb
    rw [hne b eb] at hpb
    exact r.apart a b ka kb blk p1 p2 ha hrwa hb hpa hpb hb1 hb2
 ·intro a ka b p1 ha hrwa hpa hb1
  by_cases ea : a = id
  ·subst ea
   simp only [up_same, Option.some.injEq] at ha
   subst ha
   rw [hid] at hpa
   rcases hpl b (by rw [Option.some.inj hpa]; exact hb1) with hn | ⟨q1, e1, e2⟩
   ·intro hkb; have := r.kold b hkb; omega
   ·exact r.mine a k b q1 hk hrw e1 e2
  ·rw [up_ne _ _ ea] at ha
   rw [hne a ea] at hpa
   exact r.mine a ka b p1 ha hrwa hpa hb1
 ·intro j hj
  obtain ⟨f1, f2⟩ := r.free j hj
  have hne' : j ≠ id := fun e => by subst e; rw [f2] at hk; cases hk
  exact ⟨fun ver => by rw [hne j hne']; exact f1 ver, by rw [up_ne _ _ hne']; exact f2⟩
 ·intro j kj hj hrj ver hver
  by_cases e : j = id
  ·subst e
   simp only [up_same, Option.some.injEq] at hj
   subst hj
   have h1 : ver ≠ k.ver + 1 := by omega
   simp only [ρ', h1, and_false, if_false]
   exact hnone ver (by omega)
  ·rw [up_ne _ _ e] at hj
   rw [hne j e]
   exact r.vers j kj hj hrj ver hver
theorem sl_out (r : Rel X K w0 ρ F h w) {x : AV} {y : Value} {sz : Nat} (hsz : 0 < sz) (hy : VR ρ x y) (hx : x.isS) (hs : sls h x 0 (x.slen * sz)) :
  ∃ base c news, y = .slice base x.slen c ∧ news.length = x.slen * sz ∧ VRs ρ (slc h x 0 (x.slen * sz)) news ∧ (∀ v ∈ news, v.oneCell' = true) ∧
   ((base = none ∧ x.slen = 0) ∨ ∃ a : Addr, base = some a ∧ ∀ (j : Nat) v, news[j]? = some v → w.cell? (a.add j) = some v) := by
 cases x with
 | s id ver off len =>
  simp only [VR] at hy
  obtain ⟨a, c, c', off', hp, hlc, _, hoff, hnz, rfl⟩ := hy
  simp only [sls, AV.slen] at hs
  cases hk : h id with
  | none => simp [hk] at hs
  | some k =>
   simp only [hk, Nat.zero_add] at hs
   obtain ⟨rfl, hlen⟩ := hs
   simp only [AV.slen, slc, hk, Nat.add_zero]
   rcases r.blk id k hk with ⟨b', base', cap', arr, el, fr, g1, g2, _, g4⟩ | ⟨g1, g2⟩ | ⟨_, _, _, g1, _⟩
   ·rw [hp] at g1
    cases g1
    by_cases h0 : len = 0
    ·subst h0
     exact ⟨_, c', [], rfl, by simp, by simp [VRs], by simp, .inr ⟨_, rfl, by simp⟩⟩
    ·obtain rfl := hoff (.inl (by omega))
     have hka : base' + k.cells.length ≤ arr.size := by
      by_cases hq : base' + k.cells.length ≤ arr.size
      ·exact hq
      ·have hpos : 0 < len * sz := Nat.mul_pos (by omega) hsz
       obtain ⟨v, v1, _⟩ := g4 (k.cells.length - 1) _ (List.getElem?_eq_getElem (by omega))
       rw [Array.getElem?_eq_none (by omega)] at v1; cases v1
     have hvs : VRs ρ ((k.cells.drop off').take (len * sz)) ((arr.toList.drop (base' + off')).take (len * sz)) := VRs.mk (by simp; omega) fun q cc v h1 h2 => by
      have hq : q < len * sz := by
       by_cases hq : q < len * sz
       ·exact hq
       ·rw [List.getElem?_eq_none (by simp; omega)] at h1; cases h1
      rw [List.getElem?_take_of_lt hq, List.getElem?_drop] at h1 h2
      obtain ⟨u, u1, u2, _⟩ := g4 _ _ h1
      rw [Array.getElem?_toList, Nat.add_assoc, u1] at h2
      cases h2
      exact u2
     refine ⟨_, c', (arr.toList.drop (base' + off')).take (len * sz), rfl, by simp; omega, hvs, fun v hv => ?_, .inr ⟨_, rfl, fun q v hv => ?_⟩⟩
     ·obtain ⟨q, hq⟩ := List.getElem?_of_mem hv
      have hql : q < len * sz := by
       by_cases hq' : q < len * sz
       ·exact hq'
       ·rw [List.getElem?_eq_none (by simp; omega)] at hq; cases hq
      rw [List.getElem?_take_of_lt hql, List.getElem?_drop] at hq
      obtain ⟨u, u1, _, u3⟩ := g4 (off' + q) k.cells[off' + q] (List.getElem?_eq_getElem (by omega))
      rw [Array.getElem?_toList, Nat.add_assoc, u1] at hq
      cases hq
      exact u3
     ·have hql : q < len * sz := by
       by_cases hq' : q < len * sz
       ·exact hq'
       ·rw [List.getElem?_eq_none (by simp; omega)] at hv; cases hv
      rw [List.getElem?_take_of_lt hql, List.getElem?_drop, Array.getElem?_toList] at hv
      rw [Addr.add_mid]
      simp only [World.cell?, g2]
      simpa using hv
   ·rw [hp] at g1
    cases g1
    have h0 : len = 0 := by
     rw [g2] at hlen
     simp at hlen
     rcases Nat.eq_zero_or_pos len with h1 | h1
     ·exact h1
     ·have := Nat.mul_pos h1 hsz; omega
    subst h0
    exact ⟨none, c', [], rfl, by simp, by simp [VRs], by simp, .inl ⟨rfl, rfl⟩⟩
   ·rw [hp] at g1
    cases g1
    exact absurd (hnz rfl).2 (by omega)
 | v z =>
  unfold AV.isS at hx
  split at hx
  ·rename_i e; cases e
  ·rename_i n m e
   cases e
   obtain ⟨rfl, rfl⟩ := hx
   simp only [VR] at hy
   subst hy
   exact ⟨none, 0, [], rfl, by simp [AV.slen], by simp [slc, VRs], by simp, .inl ⟨rfl, rfl⟩⟩
  ·rename_i e; cases e
  ·exact hx.elim
 | e =>
  simp only [VR] at hy
  obtain ⟨b, c, rfl⟩ := hy
  refine ⟨b, c, [], rfl, by simp [AV.slen], by simp [slc, VRs], by simp, ?_⟩
  cases b with
  | none => exact .inl ⟨rfl, rfl⟩
  | some a => exact .inr ⟨a, rfl, by simp⟩
 | _ => simp [AV.isS] at hx
theorem run_append_none {P : Program} (w : World) (t ty e : TypeId) (j : TypeInfo) (ht : P.underlying t = some (.slice e)) (hj : P.info? e = some j) (base : Option Addr) (n c c' : Nat) (hnc : n ≤ c) :
  (Builtin.append_ #[t, t] ty #[.slice base n c, .slice none 0 c']).run P w = .ok (.slice base n c) w := by
 cases base <;> simp [Builtin.append_, run_underlying ht, sizeOf, typeInfo, hj, Builtin.lenOf, Builtin.firstCells, hnc, storeCells]
theorem run_append_zero {P : Program} (w : World) (t ty e : TypeId) (j : TypeInfo) (ht : P.underlying t = some (.slice e)) (hj : P.info? e = some j) (a : Addr) (c' : Nat) :
  (Builtin.append_ #[t, t] ty #[.slice none 0 0, .slice (some a) 0 c']).run P w = .ok (.slice none 0 0) w := by
 simp [Builtin.append_, run_underlying ht, sizeOf, typeInfo, hj, Builtin.lenOf, Builtin.firstCells, loadCells, loadCellsFrom]
theorem zeroCells_toList (z : Array Value) (n : Nat) : (Builtin.zeroCells z n).toList.length = n * z.size := by simp [Builtin.zeroCells]
theorem cut_length (n : Nat) (l : List AV) : (cut n l).length = min n l.length := by
 unfold cut
 split
 ·omega
 ·simp
theorem cut_sub {n : Nat} {l : List AV} {q : Nat} {c : AV} (h : (cut n l)[q]? = some c) : l[q]? = some c := by
 unfold cut at h
 split at h
 ·exact h
 ·rw [List.getElem?_take] at h
  split at h
  ·exact h
  ·cases h
theorem snd_append (r : Rel X K w0 ρ F h w) {t e ty : TypeId} (hu : X.P.underlying t = some (.slice e)) (he : TyOk X e) (hsz : 0 < (X.ti e).size) {id ver len : Nat} {x : AV} {y u : Value} {k : Blk} (hy : VR ρ (.s id ver 0 len) y) (hx : VR ρ x u) (hxs : x.isS)
  (hs : sls h x 0 (x.slen * (X.ti e).size)) (hk : h id = some k) (hver : k.ver = ver) (hrw : k.rw = true) (hez : k.esz = (X.ti e).size) (hcl0 : len * (X.ti e).size ≤ k.cells.length)
  (hb1 : (len + x.slen) * (X.ti e).bytes ≤ 140737488355328) (hb2 : len + x.slen ≤ 9223372036854775807) (sd : Prop) :
  Out X K w0 ρ F i hb (do pure (.value (← Builtin.append_ #[t, t] ty #[y, u]))) w ⟨sd, .s id (ver + 1) 0 (len + x.slen), up h id (some { k with cells := cut (len * (X.ti e).size) k.cells ++ slc h x 0 (x.slen * (X.ti e).size), ver := ver + 1 })⟩ := by
 subst hver
 obtain ⟨kc, hkc⟩ : ∃ kc, kc = cut (len * (X.ti e).size) k.cells := ⟨_, rfl⟩
 have hcl : kc.length = len * (X.ti e).size := by rw [hkc, cut_length]; omega
 have hsub : ∀ (q : Nat) c, kc[q]? = some c → k.cells[q]? = some c := fun q c hq => by rw [hkc] at hq; exact cut_sub hq
 rw [← hkc]
 obtain ⟨j, z, hj, hjs, hjb, hz, hzc⟩ := he.info
 have hzs : z.cells.size = (X.ti e).size := by rw [← Array.length_toList, hzc]; exact he.zlen
 obtain ⟨base, c, news, rfl, hnl, hnv, hn1, hnb⟩ := sl_out r hsz hx hxs hs
 simp only [VR] at hy
 obtain ⟨pa, pc, c', off', hp, hlc, hcc, hoff, hnz, rfl⟩ := hy
 obtain rfl := hcc trivial
 obtain rfl := hoff (.inr trivial)
 have fin : ∀ (nx : Value) (w' : World) (pl : Place) , (Builtin.append_ #[t, t] ty #[.slice (pa.map fun q => ⟨q.1, q.2 + 0, none⟩) len c', .slice base x.slen c]).run X.P w = .ok nx w' →
   (∀ j, j < w.heap.size → (∀ p1, ρ id k.ver = some p1 → blkOf p1 ≠ some j) → w'.heap[j]? = w.heap[j]?) →
   (∀ b, blkOf pl = some b → w.heap.size ≤ b ∨ ∃ p1, ρ id k.ver = some p1 ∧ blkOf p1 = some b) →
   (∀ ρ' : Ren, ρ.le ρ' → ρ' id (k.ver + 1) = some pl → BlkRel ρ' w' id { k with cells := kc ++ slc h x 0 (x.slen * (X.ti e).size), ver := k.ver + 1 }) → w.heap.size ≤ w'.heap.size → w'.os = w.os → w'.tape = w.tape → w'.output = w.output →
   (∃ c2, nx = .slice (pl.1.map fun q => ⟨q.1, q.2 + 0, none⟩) (len + x.slen) c2 ∧ len + x.slen ≤ c2 ∧ pl.2 = c2 ∧ (pl.1 = none → len + x.slen = 0 ∧ pl.2 = 0)) →
   Out X K w0 ρ F i hb (do pure (.value (← Builtin.append_ #[t, t] ty #[.slice (pa.map fun q => ⟨q.1, q.2 + 0, none⟩) len c', .slice base x.slen c]))) w ⟨sd, .s id (k.ver + 1) 0 (len + x.slen), up h id (some { k with cells := kc ++ slc h x 0 (x.slen * (X.ti e).size), ver := k.ver + 1 })⟩ := by
  intro nx w' pl hrun h1 h2 h3 h4 h5 h6 h7 ⟨c2, e1, e2, e3, e4⟩
  obtain ⟨ρ', q1, q2, q3⟩ := Rel.bump (k' := { k with cells := kc ++ slc h x 0 (x.slen * (X.ti e).size), ver := k.ver + 1 }) r hk hrw rfl h1 h2 h3 h4 h5 h6 h7
  refine ⟨.value nx, w', ρ', by rw [Sem.run_bind, hrun]; rfl, q1, q3.anti fun _ hq => hq.1, .inl ⟨nx, rfl, ?_⟩⟩
  simp only [VR]
  exact ⟨pl.1, pl.2, c2, 0, q2, e2, fun _ => e3.symm, fun _ => rfl, e4, e1⟩
 have hgrow : ∀ (old : List Value) (nc : Nat), len + x.slen ≤ nc → VRs ρ kc old → (∀ v ∈ old, v.oneCell' = true) → ∀ ρ' : Ren, ρ.le ρ' → ρ' id (k.ver + 1) = some (some (w.heap.size, 0), nc) →
   BlkRel ρ' (w.drew.alloc (.cells (old.toArray ++ news.toArray ++ Builtin.zeroCells z.cells (nc - (len + x.slen))) e)) id { k with cells := kc ++ slc h x 0 (x.slen * (X.ti e).size), ver := k.ver + 1 } := by
  intro old nc hnc hold ho1 ρ' hle hpl
  refine .inl ⟨w.heap.size, 0, nc, _, e, (0, 0), hpl, heap_alloc_new w.drew _, fun _ => ⟨rfl, rfl, ?_⟩, fun q cc hq => ?_⟩
  ·have hol := hold.length
   simp only [Array.size_append, List.size_toArray, size_zeroCells, hzs, hnl, hol, hcl, hez, ← Nat.add_mul]
   congr 1
   omega
  ·have hap : VRs ρ (kc ++ slc h x 0 (x.slen * (X.ti e).size)) (old ++ news) := VRs.append hold hnv
   obtain ⟨v, v1, v2⟩ := hap.get q cc hq
   refine ⟨v, ?_, VR.mono hle _ _ v2, ?_⟩
   ·have hlt : q < (old ++ news).length := by
     by_cases hq' : q < (old ++ news).length
     ·exact hq'
     ·rw [List.getElem?_eq_none (by omega)] at v1; cases v1
    simp only [Nat.zero_add]
    rw [Array.getElem?_append_left (by simpa using hlt)]
    simpa using v1
   ·rcases List.mem_append.1 (List.mem_of_getElem? v1) with hm | hm
    ·exact ho1 v hm
    ·exact hn1 v hm
 rcases r.blk id k hk with ⟨b, base', cap', arr, el, fr, g1, g2, g3, g4⟩ | ⟨g1, g2⟩ | ⟨_, _, _, g1, _⟩
 ·rw [hp] at g1
  cases g1
  obtain ⟨rfl, rfl, harr⟩ := g3 hrw
  replace g4 := fun (q : Nat) c hq => g4 q c (hsub q c hq)
  have hka : kc.length ≤ arr.size := by
   by_cases hq : kc.length ≤ arr.size
   ·exact hq
   ·obtain ⟨v, v1, _⟩ := g4 arr.size _ (List.getElem?_eq_getElem (by omega))
    simp at v1
  have hola : VRs ρ kc (arr.toList.take kc.length) := VRs.mk (by simp; omega) fun q cc v h1 h2 => by
   obtain ⟨u, u1, u2, _⟩ := g4 _ _ h1
   have hq : q < kc.length := by
    by_cases hq : q < kc.length
    ·exact hq
    ·rw [List.getElem?_eq_none (by omega)] at h1; cases h1
   rw [List.getElem?_take_of_lt hq, Array.getElem?_toList] at h2
   rw [Nat.zero_add, h2] at u1
   cases u1
   exact u2
  have hol1 : ∀ v ∈ arr.toList.take kc.length, v.oneCell' = true := fun v hv => by
   obtain ⟨q, hq⟩ := List.getElem?_of_mem hv
   have hql : q < kc.length := by
    by_cases hq' : q < kc.length
    ·exact hq'
    ·rw [List.getElem?_eq_none (by simp; omega)] at hq; cases hq
   obtain ⟨u, u1, _, u3⟩ := g4 q _ (List.getElem?_eq_getElem hql)
   rw [List.getElem?_take_of_lt hql, Array.getElem?_toList] at hq
   rw [Nat.zero_add, hq] at u1
   cases u1
   exact u3
  rcases hnb with ⟨rfl, h0⟩ | ⟨ad, rfl, had⟩
  ·-- nothing is appended
   have hnil : news = [] := List.eq_nil_of_length_eq_zero (by rw [hnl, h0]; simp)
   refine fin _ w (some (b, 0), c') (by rw [h0]; exact run_append_none w t ty e j hu hj _ len c' c hlc) (fun _ _ _ => rfl) (fun b1 e1 => .inr ⟨_, hp, e1⟩) (fun ρ' hle hpl => ?_) (Nat.le_refl _) rfl rfl rfl ⟨c', by simp [h0], by omega, rfl, (fun e => by cases e)⟩
   have hsl : slc h x 0 (x.slen * (X.ti e).size) = [] := by have := hnv.length; rw [hnil] at this; exact List.eq_nil_of_length_eq_zero this.symm
   rw [hsl, List.append_nil]
   exact .inl ⟨b, 0, c', arr, el, (0, 0), hpl, g2, fun _ => ⟨rfl, rfl, harr⟩, fun q cc hq => by
    obtain ⟨v, v1, v2, v3⟩ := g4 q cc hq
    exact ⟨v, v1, VR.mono hle _ _ v2, v3⟩⟩
  ·by_cases hroom : len + x.slen ≤ c'
   ·-- there is room
    have g2' : w.heap[b]? = some (.cells arr el (0, 0)) := g2
    have hfit : len * j.size + news.length ≤ arr.size := by rw [hnl, hjs, harr, hez, ← Nat.add_mul]; exact Nat.mul_le_mul_right _ hroom
    have hr : (Builtin.append_ #[t, t] ty #[.slice (some ⟨b, 0, none⟩) len c', .slice (some ad) x.slen c]).run X.P w = .ok (.slice (some ⟨b, 0, none⟩) (len + x.slen) c') (w.setRow b (arr.toList.take (len * j.size) ++ news ++ arr.toList.drop (len * j.size + news.length)).toArray) := by
     have hf := run_firstCells_some (P := X.P) w j.size x.slen ad x.slen c news (by rw [hjs]; exact hnl) had
     have hst := run_storeCells_at X.P b (len * j.size) el news 0 arr w g2' (by simpa using hfit) hn1
     simp only [Nat.add_zero] at hst
     have hadd : (⟨b, 0, none⟩ : Addr).add (len * j.size) = ⟨b, len * j.size, none⟩ := by rw [Addr.add_mid, Nat.zero_add]
     simp [Builtin.append_, run_underlying hu, sizeOf, typeInfo, hj, Builtin.lenOf, hroom, hf, hadd, hst]
    refine fin _ _ (some (b, 0), c') (by simpa using hr) (fun q _ hq => setRow_other w b q _ (fun e1 => hq _ hp (by rw [e1]; rfl))) (fun b1 e1 => .inr ⟨_, hp, e1⟩) (fun ρ' hle hpl => ?_) (by simp [World.setRow]) rfl rfl rfl ⟨c', by simp, hroom, rfl, (fun e => by cases e)⟩
    refine .inl ⟨b, 0, c', _, el, (0, 0), hpl, setRow_heap w b arr _ el _ g2', fun _ => ⟨rfl, rfl, ?_⟩, fun q cc hq => ?_⟩
    ·simp only [List.size_toArray, List.length_append, List.length_take, List.length_drop, Array.length_toList]
     rw [← harr]
     omega
    ·have hap : VRs ρ (kc ++ slc h x 0 (x.slen * (X.ti e).size)) (arr.toList.take kc.length ++ news) := VRs.append hola hnv
     obtain ⟨v, v1, v2⟩ := hap.get q cc hq
     have hmem := List.mem_of_getElem? v1
     refine ⟨v, ?_, VR.mono hle _ _ v2, ?_⟩
     ·simp only [Nat.zero_add, List.getElem?_toArray]
      rw [hjs, ← hcl]
      have hlt : q < (arr.toList.take kc.length ++ news).length := by
       by_cases hq' : q < (arr.toList.take kc.length ++ news).length
       ·exact hq'
       ·rw [List.getElem?_eq_none (by omega)] at v1; cases v1
      rw [← List.append_assoc, List.getElem?_append_left hlt]
      exact v1
     ·rcases List.mem_append.1 hmem with hm | hm
      ·exact hol1 v hm
      ·exact hn1 v hm
   ·-- it moves
    have hr := run_append_grow (P := X.P) w t ty e j z hu hj hz ⟨b, 0, none⟩ len c' (arr.toList.take kc.length) (by simp [hjs, ← hcl]; omega) (fun q v hv => by
     have hql : q < kc.length := by
      by_cases hq' : q < kc.length
      ·exact hq'
      ·rw [List.getElem?_eq_none (by simp; omega)] at hv; cases hv
     rw [List.getElem?_take_of_lt hql, Array.getElem?_toList] at hv
     rw [Addr.add_mid]
     simp only [World.cell?, g2]
     simpa using hv) ad x.slen c news (by rw [hjs]; exact hnl) had (by omega) (by omega) (growslice_fits (by omega) (by rw [hjb]; exact hb1))
    have hge := grownCap_ge w (len + x.slen) c' e
    refine fin _ _ (some (w.heap.size, 0), grownCap w (len + x.slen) c' e) (by simpa using hr) (fun q hq _ => heap_alloc_old w.drew _ q hq) (fun b1 e1 => .inl (by cases e1; exact Nat.le_refl _)) (fun ρ' hle hpl => hgrow _ _ hge hola hol1 ρ' hle hpl) (by simp) rfl rfl rfl ⟨_, by simp, hge, rfl, (fun e => by cases e)⟩
 ·rw [hp] at g1
  cases g1
  have g2 : kc = [] := by rw [hkc, g2]; rfl
  have hl0 : len = 0 := by
   rw [g2, List.length_nil] at hcl
   rcases Nat.mul_eq_zero.1 hcl.symm with h1 | h1
   ·exact h1
   ·omega
  subst hl0
  rcases hnb with ⟨rfl, h0⟩ | ⟨ad, rfl, had⟩
  ·have hnil : news = [] := List.eq_nil_of_length_eq_zero (by rw [hnl, h0]; simp)
   have hsl : slc h x 0 (x.slen * (X.ti e).size) = [] := by have := hnv.length; rw [hnil] at this; exact List.eq_nil_of_length_eq_zero this.symm
   refine fin _ w (none, 0) (by rw [h0]; exact run_append_none w t ty e j hu hj _ 0 0 c (Nat.le_refl _)) (fun _ _ _ => rfl) (fun b1 e1 => by cases e1) (fun ρ' hle hpl => .inr (.inl ⟨hpl, by simp [hsl, g2]⟩)) (Nat.le_refl _) rfl rfl rfl ⟨0, by simp [h0], by omega, rfl, fun _ => ⟨by omega, rfl⟩⟩
  ·by_cases h0 : x.slen = 0
   ·have hnil : news = [] := List.eq_nil_of_length_eq_zero (by rw [hnl, h0]; simp)
    have hsl : slc h x 0 (x.slen * (X.ti e).size) = [] := by have := hnv.length; rw [hnil] at this; exact List.eq_nil_of_length_eq_zero this.symm
    refine fin _ w (none, 0) (by rw [h0]; exact run_append_zero w t ty e j hu hj ad c) (fun _ _ _ => rfl) (fun b1 e1 => by cases e1) (fun ρ' hle hpl => .inr (.inl ⟨hpl, by simp [hsl, g2]⟩)) (Nat.le_refl _) rfl rfl rfl ⟨0, by simp [h0], by omega, rfl, fun _ => ⟨by omega, rfl⟩⟩
   ·have hr := run_append_nil (P := X.P) w t ty e j z hu hj hz ad x.slen c news (by rw [hjs]; exact hnl) had (by omega) (by omega) (by rw [hjb]; rw [Nat.zero_add] at hb1; omega)
    have hge := grownCap_ge w x.slen 0 e
    refine fin _ _ (some (w.heap.size, 0), grownCap w x.slen 0 e) (by simpa using hr) (fun q hq _ => heap_alloc_old w.drew _ q hq) (fun b1 e1 => .inl (by cases e1; exact Nat.le_refl _)) (fun ρ' hle hpl => ?_) (by simp) rfl rfl rfl ⟨_, by simp, by omega, rfl, (fun e => by cases e)⟩
    have := hgrow [] (grownCap w x.slen 0 e) (by omega) (by simp [g2, VRs]) (by simp) ρ' hle hpl
    simpa using this
 ·rw [hp] at g1
  cases g1
  exact absurd (hnz rfl).2 (by omega)
theorem run_fst {s : Sem Value} {y : Value} {P : Program} {w w' : World} (hr : s.run P w = .ok y w') : (do pure (Next.value (← s)) : Sem Next).run P w = .ok (.value y) w' := by rw [Sem.run_bind, hr]; rfl
end
end Go.Eng
