/-
  THE ROWS OF THIS SEAT, WHAT THEY SHARE, MORE: from the code's walk to the call.
-/
import Derived.Test.YtnodenojdjlbnaaDoorLw
import Derived.Lib.SmallJoins
set_option linter.unusedSimpArgs false
namespace Go.Proofs.YtnodenojdjlbnaaDoor
open Go Go.Eng Go.RowKit Go.ChangeShapes Go.Joins

theorem law_calls {S : List Nat} {tb : List (FuncId × (List AV → Heap → PRes))} (ok : TbOk S tb) {f : FuncId} {fn : Func} {c : Code} (hf : Tryd.prog.funcs[f]? = some fn) (hb : fn.body = some c) {k : Nat} (hok : (fnOk (cx S (pfL tb)) fn c && decide (k ≤ fn.ntmps)) = true)
    {args : List AV} {vs : List Value} (hk : args.length = k) {ρ : Ren} {h : Heap} {m : Nat} {W : World} (h1 : awp (cx S (pfL tb)) (fn.body.getD .skip) (finQ (cx S (pfL tb)) fn fun z _ _ => z = bv true) ⟨env0 args, roH h, m⟩)
    (r : RoRel (cx S (pfL tb)) ρ h W) (hm : ∀ j, m ≤ j → (∀ ver, ρ j ver = none) ∧ h j = none) (ha : VRs ρ args vs) : Calls Tryd.prog f vs.toArray W fun e W' => e = .returned (.bool true) ∧ Below W.heap.size W W' := by
  simp only [Bool.and_eq_true, decide_eq_true_eq] at hok
  rw [hb] at h1
  refine (calls_of_awp (pfL_ok ok) (mixed _ _) hf hb hok.1 (by omega) h1 (r.rel hm) ha).mono fun e w' ⟨y, e1, ρ', z, h', n', q1, q2, q3, q4⟩ => ?_
  subst q4
  simp only [bv, VR] at q2
  subst q2
  exact ⟨e1, q3.gone⟩

/-- A number of this program among the arguments: opened. -/
theorem open_V {H : Type} {enc : TypeId × Value → H} {W : World} {r : Reach} {b0 base : Nat} {sp : Nat → Bool} {hd : Bool} {v : Value} {d : DataW H} {p : List MemPlace} (hv : Value.okWide Tryd.prog W r b0 23 v) (h : DataW.Trod enc Tryd.prog W base sp hd 23 v d p) :
    ∃ a : V, v = .agg #[.bool a.k, .int .i64 a.n] ∧ (Lit.int .i64 a.n).wf = true := by
  obtain ⟨v0, v1, y0, y1, n, rfl, rfl, rfl, h0, h1⟩ := open_agg2 Tryd.underlying23 (by kernel_rfl) (by kernel_rfl) hv h
  obtain ⟨b, e0, _⟩ := DataW.trod_bool Tryd.underlying4 h0
  obtain ⟨k, e1, _, hw⟩ := DataW.trod_int Tryd.underlying2 h1
  simp only [List.cons.injEq, and_true] at e0 e1
  subst e0
  subst e1
  exact ⟨⟨b, k⟩, rfl, hw⟩
theorem VR_V (ρ : Ren) (a : V) : VR ρ (vv a) (.agg #[.bool a.k, .int .i64 a.n]) := by
  simp only [vv, VR]
  exact ⟨[.bool a.k, .int .i64 a.n], rfl, by simp [VRs, VR]⟩
theorem VR_I (ρ : Ren) (a : Int) : VR ρ (ii a) (.int .i64 a) := by simp [ii, VR]
theorem rng_of {n : Int} (h : (Lit.int .i64 n).wf = true) : -9223372036854775808 ≤ n ∧ n < 9223372036854775808 := by
  simp [Lit.wf, IntKind.min, IntKind.max, IntKind.signed, IntKind.bits] at h
  omega
end Go.Proofs.YtnodenojdjlbnaaDoor
