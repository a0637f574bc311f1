/-
  WHAT OUR TOOL KNOWS OF THIS PROGRAM: its types (each held against the program by the kernel), what its package-level variables hold (that is a premise of the rows), its functions that only compute. Laid by a program of ours (gen_ctx.py).
-/
import Derived.Test.YtnodenojdjlbnaaDoorEngJ
import Derived.Test.YtnodenojdjlbnaaDoorProg
import Derived.KernelRfl
import Derived.Laws.StructEq
set_option linter.unusedSimpArgs false
namespace Go.Proofs.YtnodenojdjlbnaaDoor
open Go Go.Eng

def ti : TypeId → TI
  | 2 => ⟨.int .i64, 1, 8, [.int .i64 0]⟩
  | 3 => ⟨.int .i64, 1, 8, [.int .i64 0]⟩
  | 4 => ⟨.bool, 1, 1, [.bool false]⟩
  | 23 => ⟨.struct [(0, 4), (1, 2)] (some [.b, .i .i64]), 2, 16, [.bool false, .int .i64 0]⟩
  | 32 => ⟨.int .i64, 1, 8, [.int .i64 0]⟩
  | 34 => ⟨.slice 2, 1, 24, [.slice none 0 0]⟩
  | 41 => ⟨.slice 45, 1, 24, [.slice none 0 0]⟩
  | 42 => ⟨.slice 4, 1, 24, [.slice none 0 0]⟩
  | 43 => ⟨.slice 23, 1, 24, [.slice none 0 0]⟩
  | 45 => ⟨.struct [(0, 3), (1, 3), (2, 3), (3, 23)] none, 5, 40, [.int .i64 0, .int .i64 0, .int .i64 0, .bool false, .int .i64 0]⟩
  | 50 => ⟨.arr 3 23, 6, 48, [.bool false, .int .i64 0, .bool false, .int .i64 0, .bool false, .int .i64 0]⟩
  | 51 => ⟨.arr 3 50, 18, 144, [.bool false, .int .i64 0, .bool false, .int .i64 0, .bool false, .int .i64 0, .bool false, .int .i64 0, .bool false, .int .i64 0, .bool false, .int .i64 0, .bool false, .int .i64 0, .bool false, .int .i64 0, .bool false, .int .i64 0]⟩
  | 59 => ⟨.int .u64, 1, 8, [.int .u64 0]⟩
  | 65 => ⟨.struct [(0, 2), (1, 2)] none, 2, 16, [.int .i64 0, .int .i64 0]⟩
  | _ => ⟨.other, 0, 0, []⟩
def glob : Nat → Option (List Value)
  | 0 => some [.bool true, .int .i64 0, .bool true, .int .i64 0, .bool true, .int .i64 0, .bool true, .int .i64 0, .bool false, .int .i64 0, .bool false, .int .i64 0, .bool true, .int .i64 0, .bool false, .int .i64 0, .bool true, .int .i64 1]
  | 1 => some [.bool true, .int .i64 0, .bool false, .int .i64 0, .bool true, .int .i64 1, .bool false, .int .i64 0, .bool false, .int .i64 0, .bool true, .int .i64 1, .bool true, .int .i64 1, .bool true, .int .i64 1, .bool true, .int .i64 1]
  | 2 => some [.bool true, .int .i64 1, .bool false, .int .i64 0, .bool true, .int .i64 0]
  | 3 => some [.bool false, .int .i64 0]
  | 4 => some [.bool true, .int .i64 1]
  | 5 => some [.bool true, .int .i64 0]
  | _ => none
/-- Of the package-level variables only those that are listed. -/
def globS (S : List Nat) (g : Nat) : Option (List Value) := if g ∈ S then glob g else none
noncomputable def cx (S : List Nat) (pf : FuncId → Option (List AV → Heap → PRes)) : Ctx := ⟨Tryd.prog, ti, globS S, pf⟩
theorem eks_cons {e : EK} {es : List EK} {la : List AV} (h : eksOk (e :: es) la) : ∃ a l, la = a :: l ∧ e.ok a ∧ eksOk es l := by
  cases la with
  | nil => simp [eksOk] at h
  | cons a l => simp only [eksOk] at h; exact ⟨a, l, rfl, h.1, h.2⟩
theorem eks_nil {la : List AV} (h : eksOk [] la) : la = [] := h
theorem vrs_cons {ρ : Ren} {x : Value} {l : List AV} {ys : List Value} (h : VRs ρ (.v x :: l) ys) : ∃ r, ys = x :: r ∧ VRs ρ l r := by
  simp only [VRs, VR] at h
  obtain ⟨y, r, rfl, rfl, h2⟩ := h
  exact ⟨r, rfl, h2⟩
theorem vrs_nil {ρ : Ren} {ys : List Value} (h : VRs ρ [] ys) : ys = [] := by simpa [VRs] using h
theorem ekI {k : IntKind} {a : AV} (h : (EK.i k).ok a) : ∃ n, a = .v (.int k n) := by
  simp only [EK.ok] at h
  unfold AV.isI at h
  split at h
  · subst h; exact ⟨_, rfl⟩
  · exact h.elim
theorem ekB {a : AV} (h : EK.b.ok a) : ∃ n, a = .v (.bool n) := by
  simp only [EK.ok] at h
  unfold AV.isB at h
  split at h
  · exact ⟨_, rfl⟩
  · exact h.elim
theorem ekS {a : AV} (h : EK.str.ok a) : ∃ n, a = .v (.string n) := by
  simp only [EK.ok] at h
  unfold AV.isStr at h
  split at h
  · exact ⟨_, rfl⟩
  · exact h.elim
section
variable (S : List Nat) (pf : FuncId → Option (List AV → Heap → PRes))
theorem cx_ti : (cx S pf).ti = ti := rfl
theorem cx_G : (cx S pf).G = globS S := rfl
theorem cx_pf : (cx S pf).pf = pf := rfl
theorem cx_P : (cx S pf).P = Tryd.prog := rfl
end

theorem inf_of {P : Program} {t : TypeId} {n : Nat} (h : (P.info? t).map (·.size) = some n) : ∃ j, P.info? t = some j ∧ j.size = n := by
  cases e : P.info? t with
  | none => simp [e] at h
  | some j => exact ⟨j, rfl, by simpa [e] using h⟩
theorem tyOk_mk {X : Ctx} {t : TypeId} {z : Value} (hi : (X.P.info? t).map (fun i => (i.zero, i.size, i.bytes)) = some (some z, (X.ti t).size, (X.ti t).bytes)) (hz : z.cells.toList = (X.ti t).zero) (hl : (X.ti t).zero.length = (X.ti t).size)
    (ho : (X.ti t).zero.all (·.oneCell') = true) (hd : DescOk X t) : TyOk X t where
  info := by
    cases e : X.P.info? t with
    | none => simp [e] at hi
    | some j =>
      simp only [e, Option.map_some, Option.some.injEq, Prod.mk.injEq] at hi
      exact ⟨j, z, rfl, hi.2.1, hi.2.2, hi.1, hz⟩
  zlen := hl
  zone := fun x hx => List.all_eq_true.1 ho x hx
  desc := hd
section
variable (S : List Nat) (pf : FuncId → Option (List AV → Heap → PRes))

theorem ty2 : TyOk (cx S pf) 2 := tyOk_mk (z := .int .i64 0) (by kernel_rfl) rfl rfl rfl Tryd.underlying2
theorem ty3 : TyOk (cx S pf) 3 := tyOk_mk (z := .int .i64 0) (by kernel_rfl) rfl rfl rfl Tryd.underlying3
theorem ty4 : TyOk (cx S pf) 4 := tyOk_mk (z := .bool false) (by kernel_rfl) rfl rfl rfl Tryd.underlying4
theorem eks_23 : ∀ (ρ : Ren) (la : List AV) (xs : List Value), eksOk [.b, .i .i64] la → VRs ρ la xs → ∃ (x0 : Bool), ∃ (x1 : Int), la = [.v (.bool x0), .v (.int .i64 x1)] ∧ xs = [.bool x0, .int .i64 x1] := by
  intro ρ la xs h hv
  obtain ⟨a0, la0, rfl, h0, g0⟩ := eks_cons h
  obtain ⟨x0, rfl⟩ := ekB h0
  obtain ⟨xs0, rfl, v0⟩ := vrs_cons hv
  obtain ⟨a1, la1, rfl, h1, g1⟩ := eks_cons g0
  obtain ⟨x1, rfl⟩ := ekI h1
  obtain ⟨xs1, rfl, v1⟩ := vrs_cons v0
  obtain rfl := eks_nil g1
  obtain rfl := vrs_nil v1
  exact ⟨x0, x1, rfl, rfl⟩
theorem eqs_23 (w : World) (x0 : Bool) (x1 : Int) (y0 : Bool) (y1 : Int) : (Op.equal 23 (.agg [.bool x0, .int .i64 x1].toArray) (.agg [.bool y0, .int .i64 y1].toArray)).run Tryd.prog w = .ok (eksEq [.b, .i .i64] [.v (.bool x0), .v (.int .i64 x1)] [.v (.bool y0), .v (.int .i64 y1)]) w := by
  have hf : ∀ t, t ∈ ([23] : List TypeId) → Tryd.prog.stoodInHeld t = false := fun t ht => by
    have : ([23] : List TypeId).all (fun t => Tryd.prog.stoodInHeld t == false) = true := by kernel_rfl
    simpa using List.all_eq_true.1 this t ht
  unfold Op.equal Op.maxDepth
  rw [run_equalIn_struct w 9999 23 _ _ (by kernel_rfl) (hf 23 (by simp))]
  have hfs : (Tryd.prog.fieldsOf 23).toList = [{ name := "Known", type := 4, offset := 0, embedded := false, tag := "", pkgPath := "", byteOffset := 0 }, { name := "N", type := 2, offset := 1, embedded := false, tag := "", pkgPath := "", byteOffset := 8 }] := by kernel_rfl
  rw [hfs]
  simp [Op.eqFields, part, isAgg, run_underlying Tryd.underlying2, run_underlying Tryd.underlying4, run_equalIn_int, run_equalIn_bool, run_equalIn_string, eksEq, EK.eq, AV.i, AV.b, AV.str, beq_toListBytes]
  repeat' split
  all_goals simp_all
theorem eq23 : EqOk (cx S pf) 23 [.b, .i .i64] := by
  refine ⟨by kernel_rfl, fun ρ w la lb xs ys h1 h2 h3 h4 => ?_⟩
  obtain ⟨x0, x1, rfl, rfl⟩ := eks_23 ρ la xs h1 h3
  obtain ⟨y0, y1, rfl, rfl⟩ := eks_23 ρ lb ys h2 h4
  exact eqs_23 w x0 x1 y0 y1
theorem ty23 : TyOk (cx S pf) 23 := tyOk_mk (z := .agg #[.bool false, .int .i64 0]) (by kernel_rfl) rfl rfl rfl ⟨⟨_, Tryd.underlying23, rfl, fun f hf => by
  simp only [List.mem_cons, List.not_mem_nil, or_false] at hf
  rcases hf with rfl | rfl <;> exact inf_of (by kernel_rfl)⟩, fun eks h => by cases h; exact eq23 S pf⟩
theorem ty32 : TyOk (cx S pf) 32 := tyOk_mk (z := .int .i64 0) (by kernel_rfl) rfl rfl rfl Tryd.underlying32
theorem ty34 : TyOk (cx S pf) 34 := tyOk_mk (z := .slice none 0 0) (by kernel_rfl) rfl rfl rfl Tryd.underlying34
theorem ty41 : TyOk (cx S pf) 41 := tyOk_mk (z := .slice none 0 0) (by kernel_rfl) rfl rfl rfl Tryd.underlying41
theorem ty42 : TyOk (cx S pf) 42 := tyOk_mk (z := .slice none 0 0) (by kernel_rfl) rfl rfl rfl Tryd.underlying42
theorem ty43 : TyOk (cx S pf) 43 := tyOk_mk (z := .slice none 0 0) (by kernel_rfl) rfl rfl rfl Tryd.underlying43
theorem ty45 : TyOk (cx S pf) 45 := tyOk_mk (z := .agg #[.int .i64 0, .int .i64 0, .int .i64 0, .bool false, .int .i64 0]) (by kernel_rfl) rfl rfl rfl ⟨⟨_, Tryd.underlying45, rfl, fun f hf => by
  simp only [List.mem_cons, List.not_mem_nil, or_false] at hf
  rcases hf with rfl | rfl | rfl | rfl <;> exact inf_of (by kernel_rfl)⟩, fun eks h => by cases h⟩
theorem ty50 : TyOk (cx S pf) 50 := tyOk_mk (z := .agg #[.bool false, .int .i64 0, .bool false, .int .i64 0, .bool false, .int .i64 0]) (by kernel_rfl) rfl rfl rfl ⟨Tryd.underlying50, inf_of (by kernel_rfl)⟩
theorem ty51 : TyOk (cx S pf) 51 := tyOk_mk (z := .agg #[.bool false, .int .i64 0, .bool false, .int .i64 0, .bool false, .int .i64 0, .bool false, .int .i64 0, .bool false, .int .i64 0, .bool false, .int .i64 0, .bool false, .int .i64 0, .bool false, .int .i64 0, .bool false, .int .i64 0]) (by kernel_rfl) rfl rfl rfl ⟨Tryd.underlying51, inf_of (by kernel_rfl)⟩
theorem ty59 : TyOk (cx S pf) 59 := tyOk_mk (z := .int .u64 0) (by kernel_rfl) rfl rfl rfl Tryd.underlying59
theorem ty65 : TyOk (cx S pf) 65 := tyOk_mk (z := .agg #[.int .i64 0, .int .i64 0]) (by kernel_rfl) rfl rfl rfl ⟨⟨_, Tryd.underlying65, rfl, fun f hf => by
  simp only [List.mem_cons, List.not_mem_nil, or_false] at hf
  rcases hf with rfl | rfl <;> exact inf_of (by kernel_rfl)⟩, fun eks h => by cases h⟩
theorem ti_cases (t : TypeId) : t = 2 ∨ t = 3 ∨ t = 4 ∨ t = 23 ∨ t = 32 ∨ t = 34 ∨ t = 41 ∨ t = 42 ∨ t = 43 ∨ t = 45 ∨ t = 50 ∨ t = 51 ∨ t = 59 ∨ t = 65 ∨ (ti t).d = .other := by
  unfold ti
  split <;> simp
theorem tyOk : ∀ t, ((cx S pf).ti t).d ≠ .other → TyOk (cx S pf) t := fun t h => by
  rcases ti_cases t with rfl | rfl | rfl | rfl | rfl | rfl | rfl | rfl | rfl | rfl | rfl | rfl | rfl | rfl | e
  · exact ty2 S pf
  · exact ty3 S pf
  · exact ty4 S pf
  · exact ty23 S pf
  · exact ty32 S pf
  · exact ty34 S pf
  · exact ty41 S pf
  · exact ty42 S pf
  · exact ty43 S pf
  · exact ty45 S pf
  · exact ty50 S pf
  · exact ty51 S pf
  · exact ty59 S pf
  · exact ty65 S pf
  · exact absurd e h

theorem ok_of (h : ∀ f g, pf f = some g → PureOk (cx S pf) f g) : Ok (cx S pf) := ⟨tyOk S pf, h⟩
theorem mixed : (cx S pf).P.follows .mixedOrders = true := by kernel_rfl
end

/-- What a function is shown to compute does not hang on which others are known; nor does more that is known of the variables harm it. -/
theorem pure_any {S S' : List Nat} {pf pf' : FuncId → Option (List AV → Heap → PRes)} (hs : ∀ x ∈ S, x ∈ S') {f : FuncId} {g : List AV → Heap → PRes} (h : PureOk (cx S pf) f g) : PureOk (cx S' pf') f g :=
  ⟨h.1, h.2.imp (fun h => ⟨h.1, fun ρ hh w args vs r => h.2 ρ hh w args vs ⟨fun g cs hg => r.glob g cs (by
    simp only [cx_G, globS] at hg ⊢
    by_cases hm : g ∈ S
    · rw [if_pos hm] at hg; rw [if_pos (hs g hm)]; exact hg
    · rw [if_neg hm] at hg; cases hg), r.blk⟩⟩) fun h => h⟩
/-- A table of functions that only compute. -/
def pfL : List (FuncId × (List AV → Heap → PRes)) → FuncId → Option (List AV → Heap → PRes)
  | [], _ => none
  | p :: l, f => if f = p.1 then some p.2 else pfL l f
def P0 (S : List Nat) (f : FuncId) (g : List AV → Heap → PRes) : Prop := PureOk (cx S (pfL [])) f g
def TbOk (S : List Nat) (l : List (FuncId × (List AV → Heap → PRes))) : Prop := ∀ p ∈ l, P0 S p.1 p.2
theorem tb_nil {S : List Nat} : TbOk S [] := fun _ h => by cases h
theorem tb_cons {S0 S : List Nat} {f : FuncId} {g : List AV → Heap → PRes} {l : List (FuncId × (List AV → Heap → PRes))} (h : P0 S0 f g) (hl : TbOk S l) (hs : ∀ x ∈ S0, x ∈ S := by decide) : TbOk S ((f, g) :: l) := fun p hp => by
  cases hp with
  | head => exact pure_any hs h
  | tail _ hp => exact hl p hp
theorem pfL_ok {S : List Nat} {l : List (FuncId × (List AV → Heap → PRes))} (h : TbOk S l) : Ok (cx S (pfL l)) :=
  ok_of S _ fun f g hf => by
    have : ∀ l' : List (FuncId × (List AV → Heap → PRes)), pfL l' f = some g → (f, g) ∈ l' := fun l' => by
      induction l' with
      | nil => intro h; cases h
      | cons p l' ih =>
        intro h
        simp only [pfL] at h
        split at h
        · rename_i e
          cases h
          rw [e]
          exact List.mem_cons_self
        · exact List.mem_cons_of_mem _ (ih h)
    exact pure_any (fun _ hx => hx) (h (f, g) (this l hf))
theorem callable {f : FuncId} {fn : Func} (hf : Tryd.prog.funcs[f]? = some fn) (hn : (fn.name == "runtime.NumGoroutine") = false) (hb : fn.body.isNone = false) (S : List Nat) (pf : FuncId → Option (List AV → Heap → PRes)) : ∀ args w, (callFunc f args).run (cx S pf).P w = .ok (.enter f args) w := fun args w => by
  simp only [callFunc, Sem.run_bind, run_program, Result.andThen_ok, cx_P, hf, hn, hb, Bool.false_eq_true, if_false, Sem.run_pure]
end Go.Proofs.YtnodenojdjlbnaaDoor
