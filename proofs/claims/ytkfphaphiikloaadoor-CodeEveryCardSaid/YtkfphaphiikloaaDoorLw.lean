/-
  THE ROWS OF THIS SEAT, WHAT THEY SHARE: the package-level variables as they are laid; the call's end.
-/
import Derived.Test.YtkfphaphiikloaaDoorNa
import Derived.Test.YtkfphaphiikloaaDoorRows
import Derived.ProofKit
import Derived.LaidMore
import Derived.OpenShut
import Derived.Stop.Joined
import Derived.Lib.SmallJoins
set_option linter.unusedSimpArgs false
set_option linter.unusedVariables false
set_option linter.constructorNameAsVariable false
set_option linter.unusedSimpArgs false
namespace Go.Proofs.YtkfphaphiikloaaDoor
open Go Go.Eng Go.RowKit Go.ChangeShapes Go.WideShapes Go.ChangeAt

/-! ### a datum of plain parts says which cells it was read from -/
def Rd (t : TypeId) (d : DataW Unit) (l : List Value) : Prop := ∀ (W : World) (fuel : Nat) (cs : List Value) (x : DataW Unit × List MemPlace), DataW.trod (fun _ => ()) Tryd.prog W 0 (fun _ => true) false fuel t cs = some x → x.1 = d → cs = l
theorem rd_bool {t : TypeId} (ht : Tryd.prog.underlying t = some .bool) (b : Bool) : Rd t (.lit (.bool b)) [.bool b] := fun W f cs x h e => by
  obtain ⟨b', rfl, rfl⟩ := DataW.trod_bool ht h
  simpa using e
theorem rd_int {t : TypeId} {k : IntKind} (ht : Tryd.prog.underlying t = some (.int k)) (n : Int) : Rd t (.lit (.int k n)) [.int k n] := fun W f cs x h e => by
  obtain ⟨n', rfl, rfl, _⟩ := DataW.trod_int ht h
  simpa using e
theorem rd_struct2 {t : TypeId} {f0 f1 : Field} {d0 d1 : DataW Unit} {a b : List Value} (ht : Tryd.prog.underlying t = some (.struct #[f0, f1])) (h0 : Rd f0.type d0 a) (h1 : Rd f1.type d1 b) (e0 : f0.offset = 0) (e1 : f1.offset = Tryd.prog.cellsOf f0.type)
    (ec : Tryd.prog.cellsOf t = Tryd.prog.cellsOf f0.type + Tryd.prog.cellsOf f1.type) : Rd t (.agg [d0, d1]) (a ++ b) := fun W f cs x h e => by
  obtain ⟨y0, y1, n, rfl, hl, q0, q1⟩ := trod_struct2 ht h
  simp only [DataW.agg.injEq, List.cons.injEq, and_true] at e
  have r0 := h0 W n _ y0 q0 e.1
  have r1 := h1 W n _ y1 q1 e.2
  rw [e0, List.drop_zero] at r0
  rw [e1, List.take_of_length_le (by rw [List.length_drop]; omega)] at r1
  rw [← r0, ← r1, List.take_append_drop]
theorem rd_array3 {t e : TypeId} {d0 d1 d2 : DataW Unit} {a b c : List Value} (ht : Tryd.prog.underlying t = some (.array 3 e)) (h0 : Rd e d0 a) (h1 : Rd e d1 b) (h2 : Rd e d2 c) (ec : Tryd.prog.cellsOf t = 3 * Tryd.prog.cellsOf e) : Rd t (.agg [d0, d1, d2]) (a ++ (b ++ c)) := fun W f cs x h ex => by
  obtain ⟨xs, m, _, rfl, hl, hn, hel⟩ := DataW.trod_array ht h
  match xs, hn with
  | [y0, y1, y2], _ =>
    simp only [List.map_cons, List.map_nil, DataW.agg.injEq, List.cons.injEq, and_true] at ex
    have r0 := h0 W m _ y0 (hel 0 (by omega)) ex.1
    have r1 := h1 W m _ y1 (hel 1 (by omega)) ex.2.1
    have r2 := h2 W m _ y2 (hel 2 (by omega)) ex.2.2
    rw [Nat.zero_mul, List.drop_zero] at r0
    rw [Nat.one_mul] at r1
    rw [List.take_of_length_le (by rw [List.length_drop]; omega)] at r2
    rw [← r0, ← r1, ← r2]
    have : List.drop (2 * Tryd.prog.cellsOf e) cs = List.drop (Tryd.prog.cellsOf e) (List.drop (Tryd.prog.cellsOf e) cs) := by rw [List.drop_drop, Nat.two_mul]
    rw [this, List.take_append_drop, List.take_append_drop]

set_option maxRecDepth 100000 in
theorem rd53 (k : Bool) (n : Int) : Rd 53 (.agg [.lit (.bool k), .lit (.int .i64 n)]) [.bool k, .int .i64 n] :=
  rd_struct2 (a := [.bool k]) (b := [.int .i64 n]) Tryd.underlying53 (rd_bool Tryd.underlying4 k) (rd_int Tryd.underlying2 n) rfl (by kernel_rfl) (by kernel_rfl)

/-! ### the variables that a row lists -/
def GlobAt (W : World) (g : Nat) : Prop := ∀ cs, glob g = some cs → ∃ arr el fr, W.heap[g]? = some (.cells arr el fr) ∧ ∀ (i : Nat) c, cs[i]? = some c → arr[i]? = some c
theorem ro_of {S : List Nat} {pf : FuncId → Option (List AV → Heap → PRes)} {W : World} (h : ∀ g ∈ S, GlobAt W g) : RoRel (cx S pf) (fun _ _ => none) (fun _ => none) W where
  glob := fun g cs hg => by
    simp only [cx_G, globS] at hg
    by_cases hm : g ∈ S
    · rw [if_pos hm] at hg
      exact h g hm cs hg
    · rw [if_neg hm] at hg
      cases hg
  blk := fun _ _ h => by cases h
theorem laid_one {W : World} : ∀ {laid : List (String × DataW Unit)} {ps : List MemPlace}, DataW.LaidVars Tryd.prog W laid ps → ∀ nm d, (nm, d) ∈ laid →
    ∃ g t cs fuel p, Tryd.prog.globalNamed nm = some g ∧ (Tryd.prog.globals[g]?).map (·.type) = some t ∧ W.var? Tryd.prog nm = some cs ∧ DataW.trod (fun _ => ()) Tryd.prog W 0 (fun _ => true) false fuel t cs.toList = some (d, p)
  | [], _, _, nm, d, hm => by cases hm
  | (n', d') :: r, ps, h, nm, d, hm => by
    obtain ⟨g, t, cs, fuel, p, q, h1, h2, h3, h4, h5, _⟩ := h
    rcases List.mem_cons.1 hm with e | hm
    · cases e
      exact ⟨g, t, cs, fuel, p, h1, h2, h3, h4⟩
    · exact laid_one h5 nm d hm
theorem globAt_of {laid : List (String × DataW Unit)} {W : World} (hL : laidMetH Tryd.prog laid W) (hpl : (laid.all fun x => x.2.handleName?.isNone) = true) {nm : String} {d : DataW Unit} (hm : (nm, d) ∈ laid) {g : Nat} {t : TypeId} {l : List Value}
    (hg : Tryd.prog.globalNamed nm = some g) (ht : (Tryd.prog.globals[g]?).map (·.type) = some t) (rd : Rd t d l) (hl : glob g = some l) : GlobAt W g := by
  rw [MakeChecks.laidMetH_plain _ _ _ hpl] at hL
  obtain ⟨ps, hv, _, _⟩ := hL
  obtain ⟨g', t', cs, fuel, p, h1, h2, h3, h4⟩ := laid_one hv nm d hm
  obtain rfl := Option.some.inj (hg.symm.trans h1)
  obtain rfl := Option.some.inj (ht.symm.trans h2)
  have hcs := rd W fuel _ _ h4 rfl
  intro cs' hcs'
  obtain rfl := Option.some.inj (hl.symm.trans hcs')
  simp only [World.var?, hg, Option.bind_some] at h3
  split at h3
  · rename_i arr el fr hh
    obtain rfl := Option.some.inj h3
    refine ⟨arr, el, fr, hh, fun i c hc => ?_⟩
    rw [← hcs] at hc
    simpa using hc
  · cases h3

theorem rdBoth : Rd 159 Rows.laid_sluice_num_both [.bool true, .int .i64 0, .bool true, .int .i64 0, .bool true, .int .i64 0, .bool true, .int .i64 0, .bool false, .int .i64 0, .bool false, .int .i64 0, .bool true, .int .i64 0, .bool false, .int .i64 0, .bool true, .int .i64 1] :=
  rd_array3 Tryd.underlying159 (rd_array3 Tryd.underlying131 (rd53 _ _) (rd53 _ _) (rd53 _ _) (by kernel_rfl)) (rd_array3 Tryd.underlying131 (rd53 _ _) (rd53 _ _) (rd53 _ _) (by kernel_rfl)) (rd_array3 Tryd.underlying131 (rd53 _ _) (rd53 _ _) (rd53 _ _) (by kernel_rfl)) (by kernel_rfl)
theorem rdEither : Rd 159 Rows.laid_sluice_num_either [.bool true, .int .i64 0, .bool false, .int .i64 0, .bool true, .int .i64 1, .bool false, .int .i64 0, .bool false, .int .i64 0, .bool true, .int .i64 1, .bool true, .int .i64 1, .bool true, .int .i64 1, .bool true, .int .i64 1] :=
  rd_array3 Tryd.underlying159 (rd_array3 Tryd.underlying131 (rd53 _ _) (rd53 _ _) (rd53 _ _) (by kernel_rfl)) (rd_array3 Tryd.underlying131 (rd53 _ _) (rd53 _ _) (rd53 _ _) (by kernel_rfl)) (rd_array3 Tryd.underlying131 (rd53 _ _) (rd53 _ _) (rd53 _ _) (by kernel_rfl)) (by kernel_rfl)
theorem rdOther : Rd 131 Rows.laid_sluice_num_other [.bool true, .int .i64 1, .bool false, .int .i64 0, .bool true, .int .i64 0] :=
  rd_array3 Tryd.underlying131 (rd53 _ _) (rd53 _ _) (rd53 _ _) (by kernel_rfl)
/-- A row of numbers. -/
theorem rd_ints {t e : TypeId} {k : IntKind} {n : Nat} (ht : Tryd.prog.underlying t = some (.array n e)) (he : Tryd.prog.underlying e = some (.int k)) (hc : Tryd.prog.cellsOf e = 1) (ec : Tryd.prog.cellsOf t = n) (l : List Int) (hl : l.length = n) : Rd t (.agg (l.map fun x => .lit (.int k x))) (l.map fun x => .int k x) := fun W f cs x h ex => by
  obtain ⟨xs, m, _, rfl, hcl, hn, hel⟩ := DataW.trod_array ht h
  simp only [DataW.agg.injEq] at ex
  have hcn : cs.length = n := by rw [hcl, ec]
  apply List.ext_getElem
  · rw [hcn, List.length_map, hl]
  intro i h1 h2
  have hi : i < n := by omega
  have hx := hel i (by omega)
  have hlt : i < xs.length := by omega
  rw [List.getElem?_eq_getElem hlt] at hx
  have hxi : (xs[i]).1 = .lit (.int k (l[i]'(by omega))) := by
    have := congrArg (·[i]?) ex
    simpa [hlt, show i < l.length by omega] using this
  have := rd_int he (l[i]'(by omega)) W m _ _ hx hxi
  rw [hc, Nat.mul_one, List.take_one, List.head?_drop, List.getElem?_eq_getElem h1] at this
  simpa using this
theorem rdOperands : Rd 111 Rows.laid_sluice_code_operands ((glob 0).getD []) :=
  rd_ints (n := 27) Tryd.underlying111 Tryd.underlying3 (by kernel_rfl) (by kernel_rfl) [-1, 0, 0, 0, 0, 0, 0, 0, 0, 0, 1, 1, 2, 2, 2, 2, 2, 2, 2, 2, 2, 2, 2, 2, 2, 1, 1] rfl
section
variable {laid : List (String × DataW Unit)} {W : World} (hL : laidMetH Tryd.prog laid W) (hpl : (laid.all fun x => x.2.handleName?.isNone) = true)
include hL hpl
theorem at0 (hm : ("sluice/code.operands", Rows.laid_sluice_code_operands) ∈ laid) : GlobAt W 0 := globAt_of hL hpl hm (by kernel_rfl) (by kernel_rfl) rdOperands rfl
theorem at3 (hm : ("sluice/num.both", Rows.laid_sluice_num_both) ∈ laid) : GlobAt W 3 := globAt_of hL hpl hm (by kernel_rfl) (by kernel_rfl) rdBoth rfl
theorem at4 (hm : ("sluice/num.either", Rows.laid_sluice_num_either) ∈ laid) : GlobAt W 4 := globAt_of hL hpl hm (by kernel_rfl) (by kernel_rfl) rdEither rfl
theorem at2 (hm : ("sluice/num.other", Rows.laid_sluice_num_other) ∈ laid) : GlobAt W 2 := globAt_of hL hpl hm (by kernel_rfl) (by kernel_rfl) rdOther rfl
theorem at1 (hm : ("sluice/num.unknown", Rows.laid_sluice_num_unknown) ∈ laid) : GlobAt W 1 := globAt_of hL hpl hm (by kernel_rfl) (by kernel_rfl) (rd53 _ _) rfl
theorem at5 (hm : ("sluice/num.yes", Rows.laid_sluice_num_yes) ∈ laid) : GlobAt W 5 := globAt_of hL hpl hm (by kernel_rfl) (by kernel_rfl) (rd53 _ _) rfl
theorem at6 (hm : ("sluice/num.no", Rows.laid_sluice_num_no) ∈ laid) : GlobAt W 6 := globAt_of hL hpl hm (by kernel_rfl) (by kernel_rfl) (rd53 _ _) rfl
end

/-! ### the call's end: nothing that was there has turned -/
section
variable {H : Type} {enc : TypeId × Value → H}
theorem trodAll_below (hl : laidOutB Tryd.prog = true) {W W' : World} (hb : Below W.heap.size W W') : ∀ {ts : List TypeId} {vs : List Value} {ds : List (DataW H)} {ps : List MemPlace}, (∀ t ∈ ts, Tryd.prog.readableRec t = true ∧ t < Tryd.prog.types.size) →
    DataW.TrodAll enc Tryd.prog W 0 (fun _ => true) true ts vs ds ps → (∀ x ∈ ps, x.block < W.heap.size) → DataW.TrodAll enc Tryd.prog W' 0 (fun b => decide (b < W.heap.size)) true ts vs ds ps
  | [], vs, ds, ps, _, h, _ => by
    obtain ⟨rfl, rfl, rfl⟩ := trodAll_nil h
    exact trodAll_mk0
  | t :: ts, vs, ds, ps, ht, h, hlt => by
    obtain ⟨v, vs1, d, ds1, a, b, rfl, rfl, rfl, h1, h2⟩ := ChangeShapes.trodAll_cons h
    exact ⟨a, b, Below.trod hl (ht t (by simp)).1 (ht t (by simp)).2 h1 hb (fun x hx => hlt x (by simp [hx])), trodAll_below hl hb (fun t' h' => ht t' (by simp [h'])) h2 (fun x hx => hlt x (by simp [hx])), rfl⟩

/-- A law that answers true and leaves all as it was. -/
theorem post_true {f : Func} {s : ChangeSpec} {apart fresh : Bool} {handsOn : Bool} {W W' : World} {args : Array Value} {ds gs : List (DataW H)} {before : List MemPlace} (hW : DataW.Whole enc Tryd.prog f.params.toList s.vars apart W args.toList ds gs before) (hv : s.vars = [])
    (ht0 : (f.params.toList.all fun t => Tryd.prog.readableRec t && decide (t < Tryd.prog.types.size)) = true) (hr : f.resultTypes = #[4]) (hs : (s.fn H (ds ++ gs)) = { results := [.lit (.bool true)], args := ds, vars := [] }) (hb : Below W.heap.size W W') :
    s.post enc Tryd.prog f apart fresh handsOn false W args (.bool true) W' := by
  have ht : ∀ t ∈ f.params.toList, Tryd.prog.readableRec t = true ∧ t < Tryd.prog.types.size := fun t h => by simpa using List.all_eq_true.1 ht0 t h
  have hlt := hW.lt
  obtain ⟨p, q, hA, hV, rfl, hfz, hnd⟩ := hW
  have hl : laidOutB Tryd.prog = true := by kernel_rfl
  have hV' := hV
  rw [hv] at hV
  obtain ⟨rfl, rfl⟩ := ChangeShapes.trodVars_none hV
  refine ⟨ds, [], p ++ [], [], p, [], ⟨p, [], hA, hV', rfl, hfz, hnd⟩, ?_, ?_, ?_, hb.frame _, fun h => by cases h⟩
  · rw [hs, hr]
    exact ChangeShapes.trodAll_mk1 (shut_bool Tryd.underlying4 true)
  · rw [hs]
    exact trodAll_below hl hb ht hA fun x hx => by simpa using hlt x (by simp [hx])
  · rw [hs, hv]
    exact rfl
end
end Go.Proofs.YtkfphaphiikloaaDoor

namespace Go.Proofs.YtkfphaphiikloaaDoor
open Go Go.Eng Go.RowKit Go.ChangeShapes Go.Joins

theorem law_calls {S : List Nat} {tb : List (FuncId × (List AV → Heap → PRes))} (ok : TbOk S tb) {f : FuncId} {fn : Func} {c : Code} (hf : Tryd.prog.funcs[f]? = some fn) (hb : fn.body = some c) {k : Nat} (hok : (fnOk (cx S (pfL tb)) fn c && decide (k ≤ fn.ntmps)) = true)
    {args : List AV} {vs : List Value} (hk : args.length = k) {ρ : Ren} {h : Heap} {m : Nat} {W : World} (h1 : awp (cx S (pfL tb)) (fn.body.getD .skip) (finQ (cx S (pfL tb)) fn fun z _ _ => z = bv true) ⟨env0 args, roH h, m⟩)
    (r : RoRel (cx S (pfL tb)) ρ h W) (hm : ∀ j, m ≤ j → (∀ ver, ρ j ver = none) ∧ h j = none) (ha : VRs ρ args vs) : Calls Tryd.prog f vs.toArray W fun e W' => e = .returned (.bool true) ∧ Below W.heap.size W W' := by
  simp only [Bool.and_eq_true, decide_eq_true_eq] at hok
  rw [hb] at h1
  refine (calls_of_awp (pfL_ok ok) (mixed _ _) hf hb hok.1 (by omega) h1 (r.rel hm) ha).mono fun e w' ⟨y, e1, ρ', z, h', n', q1, q2, q3, q4⟩ => ?_
  subst q4
  simp only [bv, VR] at q2
  subst q2
  exact ⟨e1, q3.gone⟩

theorem VR_I (ρ : Ren) (a : Int) : VR ρ (ii a) (.int .i64 a) := by simp [ii, VR]
theorem rng_of {n : Int} (h : (Lit.int .i64 n).wf = true) : -9223372036854775808 ≤ n ∧ n < 9223372036854775808 := by
  simp [Lit.wf, IntKind.min, IntKind.max, IntKind.signed, IntKind.bits] at h
  omega
end Go.Proofs.YtkfphaphiikloaaDoor
