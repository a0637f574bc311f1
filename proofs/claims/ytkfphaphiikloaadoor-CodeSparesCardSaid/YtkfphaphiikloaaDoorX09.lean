/-
  WHAT OUR TOOL KNOWS OF THIS PROGRAM: its types (each held against the program by the kernel), what its package-level variables hold (that is a premise of the rows), its functions that only compute. Laid by a program of ours (gen_ctx.py).
-/
import Derived.Test.YtkfphaphiikloaaDoorX08
import Derived.Test.YtkfphaphiikloaaDoorProg
import Derived.KernelRfl
import Derived.Laws.StructEq
set_option linter.unusedSimpArgs false
set_option linter.unusedVariables false
set_option linter.constructorNameAsVariable false
namespace Go.Proofs.YtkfphaphiikloaaDoor
open Go Go.Eng

def ti : TypeId → TI
  | 2 => ⟨.int .i64, 1, 8, [.int .i64 0]⟩
  | 3 => ⟨.int .i64, 1, 8, [.int .i64 0]⟩
  | 4 => ⟨.bool, 1, 1, [.bool false]⟩
  | 5 => ⟨.int .u8, 1, 1, [.int .u8 0]⟩
  | 9 => ⟨.str, 1, 16, [.string ByteArray.empty]⟩
  | 21 => ⟨.int .i32, 1, 4, [.int .i32 0]⟩
  | 22 => ⟨.slice 95, 1, 24, [.slice none 0 0]⟩
  | 24 => ⟨.struct [(0, 22)] none, 1, 24, [.slice none 0 0]⟩
  | 25 => ⟨.slice 109, 1, 24, [.slice none 0 0]⟩
  | 26 => ⟨.int .i64, 1, 8, [.int .i64 0]⟩
  | 27 => ⟨.int .i64, 1, 8, [.int .i64 0]⟩
  | 28 => ⟨.slice 92, 1, 24, [.slice none 0 0]⟩
  | 29 => ⟨.slice 28, 1, 24, [.slice none 0 0]⟩
  | 31 => ⟨.struct [(0, 25), (1, 26), (2, 27), (3, 28), (4, 2), (5, 9), (6, 29)] none, 7, 112, [.slice none 0 0, .int .i64 0, .int .i64 0, .slice none 0 0, .int .i64 0, .string ByteArray.empty, .slice none 0 0]⟩
  | 37 => ⟨.slice 62, 1, 24, [.slice none 0 0]⟩
  | 38 => ⟨.slice 69, 1, 24, [.slice none 0 0]⟩
  | 40 => ⟨.struct [(0, 37), (1, 38)] none, 2, 48, [.slice none 0 0, .slice none 0 0]⟩
  | 47 => ⟨.slice 84, 1, 24, [.slice none 0 0]⟩
  | 49 => ⟨.struct [(0, 47), (1, 3), (2, 3)] none, 3, 40, [.slice none 0 0, .int .i64 0, .int .i64 0]⟩
  | 53 => ⟨.struct [(0, 4), (1, 2)] (some [.b, .i .i64]), 2, 16, [.bool false, .int .i64 0]⟩
  | 54 => ⟨.int .i64, 1, 8, [.int .i64 0]⟩
  | 60 => ⟨.int .i64, 1, 8, [.int .i64 0]⟩
  | 62 => ⟨.struct [(0, 60), (1, 3), (2, 3), (3, 2), (4, 3)] (some [.i .i64, .i .i64, .i .i64, .i .i64, .i .i64]), 5, 40, [.int .i64 0, .int .i64 0, .int .i64 0, .int .i64 0, .int .i64 0]⟩
  | 64 => ⟨.struct [(0, 40), (2, 3), (3, 4)] none, 4, 64, [.slice none 0 0, .slice none 0 0, .int .i64 0, .bool false]⟩
  | 69 => ⟨.slice 3, 1, 24, [.slice none 0 0]⟩
  | 70 => ⟨.slice 37, 1, 24, [.slice none 0 0]⟩
  | 75 => ⟨.int .i64, 1, 8, [.int .i64 0]⟩
  | 82 => ⟨.struct [(0, 69), (1, 69), (2, 69)] none, 3, 72, [.slice none 0 0, .slice none 0 0, .slice none 0 0]⟩
  | 84 => ⟨.slice 120, 1, 24, [.slice none 0 0]⟩
  | 92 => ⟨.struct [(0, 75), (1, 2), (2, 9), (3, 9), (4, 3), (5, 3)] (some [.i .i64, .i .i64, .str, .str, .i .i64, .i .i64]), 6, 64, [.int .i64 0, .int .i64 0, .string ByteArray.empty, .string ByteArray.empty, .int .i64 0, .int .i64 0]⟩
  | 93 => ⟨.slice 9, 1, 24, [.slice none 0 0]⟩
  | 95 => ⟨.struct [(0, 9), (1, 93)] none, 2, 40, [.string ByteArray.empty, .slice none 0 0]⟩
  | 99 => ⟨.map, 1, 8, [.map none]⟩
  | 101 => ⟨.struct [(0, 24), (1, 40), (3, 99)] none, 4, 80, [.slice none 0 0, .slice none 0 0, .slice none 0 0, .map none]⟩
  | 102 => ⟨.slice 60, 1, 24, [.slice none 0 0]⟩
  | 109 => ⟨.struct [(0, 4), (1, 93), (2, 9), (3, 3), (4, 3)] none, 5, 64, [.bool false, .slice none 0 0, .string ByteArray.empty, .int .i64 0, .int .i64 0]⟩
  | 110 => ⟨.slice 53, 1, 24, [.slice none 0 0]⟩
  | 111 => ⟨.arr 27 3, 27, 216, [.int .i64 0, .int .i64 0, .int .i64 0, .int .i64 0, .int .i64 0, .int .i64 0, .int .i64 0, .int .i64 0, .int .i64 0, .int .i64 0, .int .i64 0, .int .i64 0, .int .i64 0, .int .i64 0, .int .i64 0, .int .i64 0, .int .i64 0, .int .i64 0, .int .i64 0, .int .i64 0, .int .i64 0, .int .i64 0, .int .i64 0, .int .i64 0, .int .i64 0, .int .i64 0, .int .i64 0]⟩
  | 114 => ⟨.struct [(0, 3), (1, 110), (2, 4)] none, 3, 40, [.int .i64 0, .slice none 0 0, .bool false]⟩
  | 117 => ⟨.int .u64, 1, 8, [.int .u64 0]⟩
  | 118 => ⟨.arr 8 2, 8, 64, [.int .i64 0, .int .i64 0, .int .i64 0, .int .i64 0, .int .i64 0, .int .i64 0, .int .i64 0, .int .i64 0]⟩
  | 120 => ⟨.struct [(0, 2), (1, 117), (2, 3), (3, 118)] (some [.i .i64, .i .u64, .i .i64, .i .i64, .i .i64, .i .i64, .i .i64, .i .i64, .i .i64, .i .i64, .i .i64]), 11, 88, [.int .i64 0, .int .u64 0, .int .i64 0, .int .i64 0, .int .i64 0, .int .i64 0, .int .i64 0, .int .i64 0, .int .i64 0, .int .i64 0, .int .i64 0]⟩
  | 124 => ⟨.struct [(0, 24), (1, 28), (2, 69), (3, 49)] none, 6, 112, [.slice none 0 0, .slice none 0 0, .slice none 0 0, .slice none 0 0, .int .i64 0, .int .i64 0]⟩
  | 131 => ⟨.arr 3 53, 6, 48, [.bool false, .int .i64 0, .bool false, .int .i64 0, .bool false, .int .i64 0]⟩
  | 135 => ⟨.mapI, 1, 8, [.map none]⟩
  | 137 => ⟨.func, 1, 8, [.nilFunc]⟩
  | 138 => ⟨.func, 1, 8, [.nilFunc]⟩
  | 159 => ⟨.arr 3 131, 18, 144, [.bool false, .int .i64 0, .bool false, .int .i64 0, .bool false, .int .i64 0, .bool false, .int .i64 0, .bool false, .int .i64 0, .bool false, .int .i64 0, .bool false, .int .i64 0, .bool false, .int .i64 0, .bool false, .int .i64 0]⟩
  | 163 => ⟨.slice 2, 1, 24, [.slice none 0 0]⟩
  | 172 => ⟨.struct [(0, 2), (1, 2)] none, 2, 16, [.int .i64 0, .int .i64 0]⟩
  | 178 => ⟨.arr 27 9, 27, 432, [.string ByteArray.empty, .string ByteArray.empty, .string ByteArray.empty, .string ByteArray.empty, .string ByteArray.empty, .string ByteArray.empty, .string ByteArray.empty, .string ByteArray.empty, .string ByteArray.empty, .string ByteArray.empty, .string ByteArray.empty, .string ByteArray.empty, .string ByteArray.empty, .string ByteArray.empty, .string ByteArray.empty, .string ByteArray.empty, .string ByteArray.empty, .string ByteArray.empty, .string ByteArray.empty, .string ByteArray.empty, .string ByteArray.empty, .string ByteArray.empty, .string ByteArray.empty, .string ByteArray.empty, .string ByteArray.empty, .string ByteArray.empty, .string ByteArray.empty]⟩
  | 182 => ⟨.slice 5, 1, 24, [.slice none 0 0]⟩
  | _ => ⟨.other, 0, 0, []⟩
def kwords : List ByteArray := [⟨#[80, 65, 84, 84, 69, 82, 78]⟩, ⟨#[83, 69, 81]⟩, ⟨#[85, 83, 73, 78, 71]⟩, ⟨#[65, 78, 89]⟩, ⟨#[78, 69, 88, 84]⟩, ⟨#[83, 84, 82, 73, 67, 84]⟩, ⟨#[87, 72, 69, 82, 69]⟩, ⟨#[87, 73, 84, 72, 73, 78]⟩, ⟨#[80, 65, 82, 84, 73, 84, 73, 79, 78]⟩, ⟨#[66, 89]⟩, ⟨#[82, 69, 84, 85, 82, 78]⟩, ⟨#[65, 78, 68]⟩, ⟨#[79, 82]⟩, ⟨#[78, 79, 84]⟩, ⟨#[84, 82, 85, 69]⟩, ⟨#[70, 65, 76, 83, 69]⟩, ⟨#[67, 79, 85, 78, 84]⟩, ⟨#[83, 85, 77]⟩, ⟨#[77, 73, 78]⟩, ⟨#[77, 65, 88]⟩, ⟨#[70, 73, 82, 83, 84]⟩, ⟨#[76, 65, 83, 84]⟩, ⟨#[80, 82, 69, 86]⟩, ⟨#[65, 70, 84, 69, 82]⟩, ⟨#[65, 76, 76]⟩, ⟨#[80, 65, 83, 84]⟩, ⟨#[79, 78, 67, 69]⟩]
def glob : Nat → Option (List Value)
  | 7 => some (kwords.map .string)
  | 3 => some [.bool true, .int .i64 0, .bool true, .int .i64 0, .bool true, .int .i64 0, .bool true, .int .i64 0, .bool false, .int .i64 0, .bool false, .int .i64 0, .bool true, .int .i64 0, .bool false, .int .i64 0, .bool true, .int .i64 1]
  | 4 => some [.bool true, .int .i64 0, .bool false, .int .i64 0, .bool true, .int .i64 1, .bool false, .int .i64 0, .bool false, .int .i64 0, .bool true, .int .i64 1, .bool true, .int .i64 1, .bool true, .int .i64 1, .bool true, .int .i64 1]
  | 2 => some [.bool true, .int .i64 1, .bool false, .int .i64 0, .bool true, .int .i64 0]
  | 1 => some [.bool false, .int .i64 0]
  | 5 => some [.bool true, .int .i64 1]
  | 6 => some [.bool true, .int .i64 0]
  | 8 => some [.int .u64 1, .int .u64 10, .int .u64 100, .int .u64 1000, .int .u64 10000, .int .u64 100000, .int .u64 1000000, .int .u64 10000000, .int .u64 100000000, .int .u64 1000000000, .int .u64 10000000000, .int .u64 100000000000, .int .u64 1000000000000, .int .u64 10000000000000, .int .u64 100000000000000, .int .u64 1000000000000000, .int .u64 10000000000000000, .int .u64 100000000000000000, .int .u64 1000000000000000000, .int .u64 10000000000000000000]
  | 0 => some [.int .i64 (-1), .int .i64 0, .int .i64 0, .int .i64 0, .int .i64 0, .int .i64 0, .int .i64 0, .int .i64 0, .int .i64 0, .int .i64 0, .int .i64 1, .int .i64 1, .int .i64 2, .int .i64 2, .int .i64 2, .int .i64 2, .int .i64 2, .int .i64 2, .int .i64 2, .int .i64 2, .int .i64 2, .int .i64 2, .int .i64 2, .int .i64 2, .int .i64 2, .int .i64 1, .int .i64 1]
  | _ => none
/-- Of the package-level variables only those that are listed. -/
def globS (S : List Nat) (g : Nat) : Option (List Value) := if g ∈ S then glob g else none
noncomputable def cx (S : List Nat) (pf : FuncId → Option (List AV → Heap → PRes)) : Ctx := ⟨Tryd.prog, ti, globS S, pf, false⟩
theorem eks_cons {e : EK} {es : List EK} {la : List AV} (h : eksOk (e :: es) la) : ∃ a l, la = a :: l ∧ e.ok a ∧ eksOk es l := by
  cases la with
  | nil => simp [eksOk] at h
  | cons a l => simp only [eksOk] at h; exact ⟨a, l, rfl, h.1, h.2⟩
theorem eks_nil {la : List AV} (h : eksOk [] la) : la = [] := h
theorem vrs_cons {ρ : Ren} {x : Value} {l : List AV} {ys : List Value} (h : VRs ρ (.v x :: l) ys) : ∃ r, ys = x :: r ∧ VRs ρ l r := by
  simp only [VRs, VR] at h
  obtain ⟨y, r, rfl, rfl, h2⟩ := h
  exact ⟨r, rfl, h2⟩
theorem vrs_nil {ρ : Ren} {ys : List Value} (h : VRs ρ [] ys) : ys = [] := by simpa [VRs] using h
theorem ekI {k : IntKind} {a : AV} (h : (EK.i k).ok a) : ∃ n, a = .v (.int k n) := by
  simp only [EK.ok] at h
  unfold AV.isI at h
  split at h
  · subst h; exact ⟨_, rfl⟩
  · exact h.elim
theorem ekB {a : AV} (h : EK.b.ok a) : ∃ n, a = .v (.bool n) := by
  simp only [EK.ok] at h
  unfold AV.isB at h
  split at h
  · exact ⟨_, rfl⟩
  · exact h.elim
theorem ekS {a : AV} (h : EK.str.ok a) : ∃ n, a = .v (.string n) := by
  simp only [EK.ok] at h
  unfold AV.isStr at h
  split at h
  · exact ⟨_, rfl⟩
  · exact h.elim
section
variable (S : List Nat) (pf : FuncId → Option (List AV → Heap → PRes))
theorem cx_ti : (cx S pf).ti = ti := rfl
theorem cx_G : (cx S pf).G = globS S := rfl
theorem cx_pf : (cx S pf).pf = pf := rfl
theorem cx_tw : (cx S pf).two = false := rfl
theorem cx_P : (cx S pf).P = Tryd.prog := rfl
end

/-- Eight numbers are those eight just if each is. -/
theorem run_equalIn_ints8 {P : Program} (w : World) (d : Nat) (t el : TypeId) (k : IntKind) (ht : P.underlying t = some (.array 8 el)) (he : P.underlying el = some (.int k)) (hs : ∀ w, (sizeOf el).run P w = .ok 1 w) (a0 a1 a2 a3 a4 a5 a6 a7 b0 b1 b2 b3 b4 b5 b6 b7 : Int) :
    (Op.equalIn (d + 2) t (.agg #[.int k a0, .int k a1, .int k a2, .int k a3, .int k a4, .int k a5, .int k a6, .int k a7]) (.agg #[.int k b0, .int k b1, .int k b2, .int k b3, .int k b4, .int k b5, .int k b6, .int k b7])).run P w =
      .ok (a0 == b0 && (a1 == b1 && (a2 == b2 && (a3 == b3 && (a4 == b4 && (a5 == b5 && (a6 == b6 && a7 == b7))))))) w := by
  rw [Op.equalIn]
  simp [run_underlying ht, run_underlying he, hs, Std.Legacy.Range.forIn_eq_forIn_range', List.range', part, isAgg, run_equalIn_int w d el k k _ _ he]
  repeat' split
  all_goals simp_all
theorem inf_of {P : Program} {t : TypeId} {n : Nat} (h : (P.info? t).map (·.size) = some n) : ∃ j, P.info? t = some j ∧ j.size = n := by
  cases e : P.info? t with
  | none => simp [e] at h
  | some j => exact ⟨j, rfl, by simpa [e] using h⟩
theorem inz_of {P : Program} {t : TypeId} {z : Value} (h : (P.info? t).map (·.zero) = some (some z)) : ∃ j, P.info? t = some j ∧ j.zero = some z := by
  cases e : P.info? t with
  | none => simp [e] at h
  | some j => exact ⟨j, rfl, by simpa [e] using h⟩
theorem tyOk_mk {X : Ctx} {t : TypeId} {z : Value} (hi : (X.P.info? t).map (fun i => (i.zero, i.size, i.bytes)) = some (some z, (X.ti t).size, (X.ti t).bytes)) (hz : z.cells.toList = (X.ti t).zero) (hl : (X.ti t).zero.length = (X.ti t).size)
    (ho : (X.ti t).zero.all (·.oneCell') = true) (hd : DescOk X t) : TyOk X t where
  info := by
    cases e : X.P.info? t with
    | none => simp [e] at hi
    | some j =>
      simp only [e, Option.map_some, Option.some.injEq, Prod.mk.injEq] at hi
      exact ⟨j, z, rfl, hi.2.1, hi.2.2, hi.1, hz⟩
  zlen := hl
  zone := fun x hx => List.all_eq_true.1 ho x hx
  desc := hd
section
variable (S : List Nat) (pf : FuncId → Option (List AV → Heap → PRes))

theorem ty2 : TyOk (cx S pf) 2 := tyOk_mk (z := .int .i64 0) (by kernel_rfl) rfl rfl rfl Tryd.underlying2
theorem ty3 : TyOk (cx S pf) 3 := tyOk_mk (z := .int .i64 0) (by kernel_rfl) rfl rfl rfl Tryd.underlying3
theorem ty4 : TyOk (cx S pf) 4 := tyOk_mk (z := .bool false) (by kernel_rfl) rfl rfl rfl Tryd.underlying4
theorem ty5 : TyOk (cx S pf) 5 := tyOk_mk (z := .int .u8 0) (by kernel_rfl) rfl rfl rfl Tryd.underlying5
theorem ty9 : TyOk (cx S pf) 9 := tyOk_mk (z := .string ByteArray.empty) (by kernel_rfl) rfl rfl rfl Tryd.underlying9
theorem ty21 : TyOk (cx S pf) 21 := tyOk_mk (z := .int .i32 0) (by kernel_rfl) rfl rfl rfl Tryd.underlying21
theorem ty22 : TyOk (cx S pf) 22 := tyOk_mk (z := .slice none 0 0) (by kernel_rfl) rfl rfl rfl Tryd.underlying22
theorem ty24 : TyOk (cx S pf) 24 := tyOk_mk (z := .agg #[.slice none 0 0]) (by kernel_rfl) rfl rfl rfl ⟨⟨_, Tryd.underlying24, rfl, fun f hf => by
  simp only [List.mem_cons, List.not_mem_nil, or_false] at hf
  rcases hf with rfl <;> exact inf_of (by kernel_rfl)⟩, fun eks h => by cases h⟩
theorem ty25 : TyOk (cx S pf) 25 := tyOk_mk (z := .slice none 0 0) (by kernel_rfl) rfl rfl rfl Tryd.underlying25
theorem ty26 : TyOk (cx S pf) 26 := tyOk_mk (z := .int .i64 0) (by kernel_rfl) rfl rfl rfl Tryd.underlying26
theorem ty27 : TyOk (cx S pf) 27 := tyOk_mk (z := .int .i64 0) (by kernel_rfl) rfl rfl rfl Tryd.underlying27
theorem ty28 : TyOk (cx S pf) 28 := tyOk_mk (z := .slice none 0 0) (by kernel_rfl) rfl rfl rfl Tryd.underlying28
theorem ty29 : TyOk (cx S pf) 29 := tyOk_mk (z := .slice none 0 0) (by kernel_rfl) rfl rfl rfl Tryd.underlying29
theorem ty31 : TyOk (cx S pf) 31 := tyOk_mk (z := .agg #[.slice none 0 0, .int .i64 0, .int .i64 0, .slice none 0 0, .int .i64 0, .string ByteArray.empty, .slice none 0 0]) (by kernel_rfl) rfl rfl rfl ⟨⟨_, Tryd.underlying31, rfl, fun f hf => by
  simp only [List.mem_cons, List.not_mem_nil, or_false] at hf
  rcases hf with rfl | rfl | rfl | rfl | rfl | rfl | rfl <;> exact inf_of (by kernel_rfl)⟩, fun eks h => by cases h⟩
theorem ty37 : TyOk (cx S pf) 37 := tyOk_mk (z := .slice none 0 0) (by kernel_rfl) rfl rfl rfl Tryd.underlying37
theorem ty38 : TyOk (cx S pf) 38 := tyOk_mk (z := .slice none 0 0) (by kernel_rfl) rfl rfl rfl Tryd.underlying38
theorem ty40 : TyOk (cx S pf) 40 := tyOk_mk (z := .agg #[.slice none 0 0, .slice none 0 0]) (by kernel_rfl) rfl rfl rfl ⟨⟨_, Tryd.underlying40, rfl, fun f hf => by
  simp only [List.mem_cons, List.not_mem_nil, or_false] at hf
  rcases hf with rfl | rfl <;> exact inf_of (by kernel_rfl)⟩, fun eks h => by cases h⟩
theorem ty47 : TyOk (cx S pf) 47 := tyOk_mk (z := .slice none 0 0) (by kernel_rfl) rfl rfl rfl Tryd.underlying47
theorem ty49 : TyOk (cx S pf) 49 := tyOk_mk (z := .agg #[.slice none 0 0, .int .i64 0, .int .i64 0]) (by kernel_rfl) rfl rfl rfl ⟨⟨_, Tryd.underlying49, rfl, fun f hf => by
  simp only [List.mem_cons, List.not_mem_nil, or_false] at hf
  rcases hf with rfl | rfl | rfl <;> exact inf_of (by kernel_rfl)⟩, fun eks h => by cases h⟩
theorem eks_53 : ∀ (ρ : Ren) (la : List AV) (xs : List Value), eksOk [.b, .i .i64] la → VRs ρ la xs → ∃ (x0 : Bool), ∃ (x1 : Int), la = [.v (.bool x0), .v (.int .i64 x1)] ∧ xs = [.bool x0, .int .i64 x1] := by
  intro ρ la xs h hv
  obtain ⟨a0, la0, rfl, h0, g0⟩ := eks_cons h
  obtain ⟨x0, rfl⟩ := ekB h0
  obtain ⟨xs0, rfl, v0⟩ := vrs_cons hv
  obtain ⟨a1, la1, rfl, h1, g1⟩ := eks_cons g0
  obtain ⟨x1, rfl⟩ := ekI h1
  obtain ⟨xs1, rfl, v1⟩ := vrs_cons v0
  obtain rfl := eks_nil g1
  obtain rfl := vrs_nil v1
  exact ⟨x0, x1, rfl, rfl⟩
theorem eqs_53 (w : World) (x0 : Bool) (x1 : Int) (y0 : Bool) (y1 : Int) : (Op.equal 53 (.agg [.bool x0, .int .i64 x1].toArray) (.agg [.bool y0, .int .i64 y1].toArray)).run Tryd.prog w = .ok (eksEq [.b, .i .i64] [.v (.bool x0), .v (.int .i64 x1)] [.v (.bool y0), .v (.int .i64 y1)]) w := by
  have hf : ∀ t, t ∈ ([53] : List TypeId) → Tryd.prog.stoodInHeld t = false := fun t ht => by
    have : ([53] : List TypeId).all (fun t => Tryd.prog.stoodInHeld t == false) = true := by kernel_rfl
    simpa using List.all_eq_true.1 this t ht
  unfold Op.equal Op.maxDepth
  rw [run_equalIn_struct w 9999 53 _ _ (by kernel_rfl) (hf 53 (by simp))]
  have hfs : (Tryd.prog.fieldsOf 53).toList = [{ name := "Known", type := 4, offset := 0, embedded := false, tag := "", pkgPath := "", byteOffset := 0 }, { name := "N", type := 2, offset := 1, embedded := false, tag := "", pkgPath := "", byteOffset := 8 }] := by kernel_rfl
  rw [hfs]
  simp [Op.eqFields, part, isAgg, run_underlying Tryd.underlying2, run_underlying Tryd.underlying4, run_equalIn_int, run_equalIn_bool, run_equalIn_string, eksEq, EK.eq, AV.i, AV.b, AV.str, beq_toListBytes]
  repeat' split
  all_goals simp_all
theorem eq53 : EqOk (cx S pf) 53 [.b, .i .i64] := by
  refine ⟨by kernel_rfl, fun ρ w la lb xs ys h1 h2 h3 h4 => ?_⟩
  obtain ⟨x0, x1, rfl, rfl⟩ := eks_53 ρ la xs h1 h3
  obtain ⟨y0, y1, rfl, rfl⟩ := eks_53 ρ lb ys h2 h4
  exact eqs_53 w x0 x1 y0 y1
theorem ty53 : TyOk (cx S pf) 53 := tyOk_mk (z := .agg #[.bool false, .int .i64 0]) (by kernel_rfl) rfl rfl rfl ⟨⟨_, Tryd.underlying53, rfl, fun f hf => by
  simp only [List.mem_cons, List.not_mem_nil, or_false] at hf
  rcases hf with rfl | rfl <;> exact inf_of (by kernel_rfl)⟩, fun eks h => by cases h; exact eq53 S pf⟩
theorem ty54 : TyOk (cx S pf) 54 := tyOk_mk (z := .int .i64 0) (by kernel_rfl) rfl rfl rfl Tryd.underlying54
theorem ty60 : TyOk (cx S pf) 60 := tyOk_mk (z := .int .i64 0) (by kernel_rfl) rfl rfl rfl Tryd.underlying60
theorem eks_62 : ∀ (ρ : Ren) (la : List AV) (xs : List Value), eksOk [.i .i64, .i .i64, .i .i64, .i .i64, .i .i64] la → VRs ρ la xs → ∃ (x0 : Int), ∃ (x1 : Int), ∃ (x2 : Int), ∃ (x3 : Int), ∃ (x4 : Int), la = [.v (.int .i64 x0), .v (.int .i64 x1), .v (.int .i64 x2), .v (.int .i64 x3), .v (.int .i64 x4)] ∧ xs = [.int .i64 x0, .int .i64 x1, .int .i64 x2, .int .i64 x3, .int .i64 x4] := by
  intro ρ la xs h hv
  obtain ⟨a0, la0, rfl, h0, g0⟩ := eks_cons h
  obtain ⟨x0, rfl⟩ := ekI h0
  obtain ⟨xs0, rfl, v0⟩ := vrs_cons hv
  obtain ⟨a1, la1, rfl, h1, g1⟩ := eks_cons g0
  obtain ⟨x1, rfl⟩ := ekI h1
  obtain ⟨xs1, rfl, v1⟩ := vrs_cons v0
  obtain ⟨a2, la2, rfl, h2, g2⟩ := eks_cons g1
  obtain ⟨x2, rfl⟩ := ekI h2
  obtain ⟨xs2, rfl, v2⟩ := vrs_cons v1
  obtain ⟨a3, la3, rfl, h3, g3⟩ := eks_cons g2
  obtain ⟨x3, rfl⟩ := ekI h3
  obtain ⟨xs3, rfl, v3⟩ := vrs_cons v2
  obtain ⟨a4, la4, rfl, h4, g4⟩ := eks_cons g3
  obtain ⟨x4, rfl⟩ := ekI h4
  obtain ⟨xs4, rfl, v4⟩ := vrs_cons v3
  obtain rfl := eks_nil g4
  obtain rfl := vrs_nil v4
  exact ⟨x0, x1, x2, x3, x4, rfl, rfl⟩
theorem eqs_62 (w : World) (x0 : Int) (x1 : Int) (x2 : Int) (x3 : Int) (x4 : Int) (y0 : Int) (y1 : Int) (y2 : Int) (y3 : Int) (y4 : Int) : (Op.equal 62 (.agg [.int .i64 x0, .int .i64 x1, .int .i64 x2, .int .i64 x3, .int .i64 x4].toArray) (.agg [.int .i64 y0, .int .i64 y1, .int .i64 y2, .int .i64 y3, .int .i64 y4].toArray)).run Tryd.prog w = .ok (eksEq [.i .i64, .i .i64, .i .i64, .i .i64, .i .i64] [.v (.int .i64 x0), .v (.int .i64 x1), .v (.int .i64 x2), .v (.int .i64 x3), .v (.int .i64 x4)] [.v (.int .i64 y0), .v (.int .i64 y1), .v (.int .i64 y2), .v (.int .i64 y3), .v (.int .i64 y4)]) w := by
  have hf : ∀ t, t ∈ ([62] : List TypeId) → Tryd.prog.stoodInHeld t = false := fun t ht => by
    have : ([62] : List TypeId).all (fun t => Tryd.prog.stoodInHeld t == false) = true := by kernel_rfl
    simpa using List.all_eq_true.1 this t ht
  unfold Op.equal Op.maxDepth
  rw [run_equalIn_struct w 9999 62 _ _ (by kernel_rfl) (hf 62 (by simp))]
  have hfs : (Tryd.prog.fieldsOf 62).toList = [{ name := "Code", type := 60, offset := 0, embedded := false, tag := "", pkgPath := "", byteOffset := 0 }, { name := "Item", type := 3, offset := 1, embedded := false, tag := "", pkgPath := "", byteOffset := 8 }, { name := "Col", type := 3, offset := 2, embedded := false, tag := "", pkgPath := "", byteOffset := 16 }, { name := "N", type := 2, offset := 3, embedded := false, tag := "", pkgPath := "", byteOffset := 24 }, { name := "To", type := 3, offset := 4, embedded := false, tag := "", pkgPath := "", byteOffset := 32 }] := by kernel_rfl
  rw [hfs]
  simp [Op.eqFields, part, isAgg, run_underlying Tryd.underlying2, run_underlying Tryd.underlying3, run_underlying Tryd.underlying60, run_equalIn_int, run_equalIn_bool, run_equalIn_string, eksEq, EK.eq, AV.i, AV.b, AV.str, beq_toListBytes]
  repeat' split
  all_goals simp_all
theorem eq62 : EqOk (cx S pf) 62 [.i .i64, .i .i64, .i .i64, .i .i64, .i .i64] := by
  refine ⟨by kernel_rfl, fun ρ w la lb xs ys h1 h2 h3 h4 => ?_⟩
  obtain ⟨x0, x1, x2, x3, x4, rfl, rfl⟩ := eks_62 ρ la xs h1 h3
  obtain ⟨y0, y1, y2, y3, y4, rfl, rfl⟩ := eks_62 ρ lb ys h2 h4
  exact eqs_62 w x0 x1 x2 x3 x4 y0 y1 y2 y3 y4
theorem ty62 : TyOk (cx S pf) 62 := tyOk_mk (z := .agg #[.int .i64 0, .int .i64 0, .int .i64 0, .int .i64 0, .int .i64 0]) (by kernel_rfl) rfl rfl rfl ⟨⟨_, Tryd.underlying62, rfl, fun f hf => by
  simp only [List.mem_cons, List.not_mem_nil, or_false] at hf
  rcases hf with rfl | rfl | rfl | rfl | rfl <;> exact inf_of (by kernel_rfl)⟩, fun eks h => by cases h; exact eq62 S pf⟩
theorem ty64 : TyOk (cx S pf) 64 := tyOk_mk (z := .agg #[.slice none 0 0, .slice none 0 0, .int .i64 0, .bool false]) (by kernel_rfl) rfl rfl rfl ⟨⟨_, Tryd.underlying64, rfl, fun f hf => by
  simp only [List.mem_cons, List.not_mem_nil, or_false] at hf
  rcases hf with rfl | rfl | rfl <;> exact inf_of (by kernel_rfl)⟩, fun eks h => by cases h⟩
theorem ty69 : TyOk (cx S pf) 69 := tyOk_mk (z := .slice none 0 0) (by kernel_rfl) rfl rfl rfl Tryd.underlying69
theorem ty70 : TyOk (cx S pf) 70 := tyOk_mk (z := .slice none 0 0) (by kernel_rfl) rfl rfl rfl Tryd.underlying70
theorem ty75 : TyOk (cx S pf) 75 := tyOk_mk (z := .int .i64 0) (by kernel_rfl) rfl rfl rfl Tryd.underlying75
theorem ty82 : TyOk (cx S pf) 82 := tyOk_mk (z := .agg #[.slice none 0 0, .slice none 0 0, .slice none 0 0]) (by kernel_rfl) rfl rfl rfl ⟨⟨_, Tryd.underlying82, rfl, fun f hf => by
  simp only [List.mem_cons, List.not_mem_nil, or_false] at hf
  rcases hf with rfl | rfl | rfl <;> exact inf_of (by kernel_rfl)⟩, fun eks h => by cases h⟩
theorem ty84 : TyOk (cx S pf) 84 := tyOk_mk (z := .slice none 0 0) (by kernel_rfl) rfl rfl rfl Tryd.underlying84
theorem eks_92 : ∀ (ρ : Ren) (la : List AV) (xs : List Value), eksOk [.i .i64, .i .i64, .str, .str, .i .i64, .i .i64] la → VRs ρ la xs → ∃ (x0 : Int), ∃ (x1 : Int), ∃ (x2 : ByteArray), ∃ (x3 : ByteArray), ∃ (x4 : Int), ∃ (x5 : Int), la = [.v (.int .i64 x0), .v (.int .i64 x1), .v (.string x2), .v (.string x3), .v (.int .i64 x4), .v (.int .i64 x5)] ∧ xs = [.int .i64 x0, .int .i64 x1, .string x2, .string x3, .int .i64 x4, .int .i64 x5] := by
  intro ρ la xs h hv
  obtain ⟨a0, la0, rfl, h0, g0⟩ := eks_cons h
  obtain ⟨x0, rfl⟩ := ekI h0
  obtain ⟨xs0, rfl, v0⟩ := vrs_cons hv
  obtain ⟨a1, la1, rfl, h1, g1⟩ := eks_cons g0
  obtain ⟨x1, rfl⟩ := ekI h1
  obtain ⟨xs1, rfl, v1⟩ := vrs_cons v0
  obtain ⟨a2, la2, rfl, h2, g2⟩ := eks_cons g1
  obtain ⟨x2, rfl⟩ := ekS h2
  obtain ⟨xs2, rfl, v2⟩ := vrs_cons v1
  obtain ⟨a3, la3, rfl, h3, g3⟩ := eks_cons g2
  obtain ⟨x3, rfl⟩ := ekS h3
  obtain ⟨xs3, rfl, v3⟩ := vrs_cons v2
  obtain ⟨a4, la4, rfl, h4, g4⟩ := eks_cons g3
  obtain ⟨x4, rfl⟩ := ekI h4
  obtain ⟨xs4, rfl, v4⟩ := vrs_cons v3
  obtain ⟨a5, la5, rfl, h5, g5⟩ := eks_cons g4
  obtain ⟨x5, rfl⟩ := ekI h5
  obtain ⟨xs5, rfl, v5⟩ := vrs_cons v4
  obtain rfl := eks_nil g5
  obtain rfl := vrs_nil v5
  exact ⟨x0, x1, x2, x3, x4, x5, rfl, rfl⟩
theorem eqs_92 (w : World) (x0 : Int) (x1 : Int) (x2 : ByteArray) (x3 : ByteArray) (x4 : Int) (x5 : Int) (y0 : Int) (y1 : Int) (y2 : ByteArray) (y3 : ByteArray) (y4 : Int) (y5 : Int) : (Op.equal 92 (.agg [.int .i64 x0, .int .i64 x1, .string x2, .string x3, .int .i64 x4, .int .i64 x5].toArray) (.agg [.int .i64 y0, .int .i64 y1, .string y2, .string y3, .int .i64 y4, .int .i64 y5].toArray)).run Tryd.prog w = .ok (eksEq [.i .i64, .i .i64, .str, .str, .i .i64, .i .i64] [.v (.int .i64 x0), .v (.int .i64 x1), .v (.string x2), .v (.string x3), .v (.int .i64 x4), .v (.int .i64 x5)] [.v (.int .i64 y0), .v (.int .i64 y1), .v (.string y2), .v (.string y3), .v (.int .i64 y4), .v (.int .i64 y5)]) w := by
  have hf : ∀ t, t ∈ ([92] : List TypeId) → Tryd.prog.stoodInHeld t = false := fun t ht => by
    have : ([92] : List TypeId).all (fun t => Tryd.prog.stoodInHeld t == false) = true := by kernel_rfl
    simpa using List.all_eq_true.1 this t ht
  unfold Op.equal Op.maxDepth
  rw [run_equalIn_struct w 9999 92 _ _ (by kernel_rfl) (hf 92 (by simp))]
  have hfs : (Tryd.prog.fieldsOf 92).toList = [{ name := "Op", type := 75, offset := 0, embedded := false, tag := "", pkgPath := "", byteOffset := 0 }, { name := "N", type := 2, offset := 1, embedded := false, tag := "", pkgPath := "", byteOffset := 8 }, { name := "Var", type := 9, offset := 2, embedded := false, tag := "", pkgPath := "", byteOffset := 16 }, { name := "Attr", type := 9, offset := 3, embedded := false, tag := "", pkgPath := "", byteOffset := 32 }, { name := "A", type := 3, offset := 4, embedded := false, tag := "", pkgPath := "", byteOffset := 48 }, { name := "B", type := 3, offset := 5, embedded := false, tag := "", pkgPath := "", byteOffset := 56 }] := by kernel_rfl
  rw [hfs]
  simp [Op.eqFields, part, isAgg, run_underlying Tryd.underlying2, run_underlying Tryd.underlying3, run_underlying Tryd.underlying9, run_underlying Tryd.underlying75, run_equalIn_int, run_equalIn_bool, run_equalIn_string, eksEq, EK.eq, AV.i, AV.b, AV.str, beq_toListBytes]
  repeat' split
  all_goals simp_all
theorem eq92 : EqOk (cx S pf) 92 [.i .i64, .i .i64, .str, .str, .i .i64, .i .i64] := by
  refine ⟨by kernel_rfl, fun ρ w la lb xs ys h1 h2 h3 h4 => ?_⟩
  obtain ⟨x0, x1, x2, x3, x4, x5, rfl, rfl⟩ := eks_92 ρ la xs h1 h3
  obtain ⟨y0, y1, y2, y3, y4, y5, rfl, rfl⟩ := eks_92 ρ lb ys h2 h4
  exact eqs_92 w x0 x1 x2 x3 x4 x5 y0 y1 y2 y3 y4 y5
theorem ty92 : TyOk (cx S pf) 92 := tyOk_mk (z := .agg #[.int .i64 0, .int .i64 0, .string ByteArray.empty, .string ByteArray.empty, .int .i64 0, .int .i64 0]) (by kernel_rfl) rfl rfl rfl ⟨⟨_, Tryd.underlying92, rfl, fun f hf => by
  simp only [List.mem_cons, List.not_mem_nil, or_false] at hf
  rcases hf with rfl | rfl | rfl | rfl | rfl | rfl <;> exact inf_of (by kernel_rfl)⟩, fun eks h => by cases h; exact eq92 S pf⟩
theorem ty93 : TyOk (cx S pf) 93 := tyOk_mk (z := .slice none 0 0) (by kernel_rfl) rfl rfl rfl Tryd.underlying93
theorem ty95 : TyOk (cx S pf) 95 := tyOk_mk (z := .agg #[.string ByteArray.empty, .slice none 0 0]) (by kernel_rfl) rfl rfl rfl ⟨⟨_, Tryd.underlying95, rfl, fun f hf => by
  simp only [List.mem_cons, List.not_mem_nil, or_false] at hf
  rcases hf with rfl | rfl <;> exact inf_of (by kernel_rfl)⟩, fun eks h => by cases h⟩
theorem ty99 : TyOk (cx S pf) 99 := tyOk_mk (z := .map none) (by kernel_rfl) rfl rfl rfl ⟨9, 3, Tryd.underlying99, Tryd.underlying9, Tryd.underlying3, inz_of (by kernel_rfl)⟩
theorem ty101 : TyOk (cx S pf) 101 := tyOk_mk (z := .agg #[.slice none 0 0, .slice none 0 0, .slice none 0 0, .map none]) (by kernel_rfl) rfl rfl rfl ⟨⟨_, Tryd.underlying101, rfl, fun f hf => by
  simp only [List.mem_cons, List.not_mem_nil, or_false] at hf
  rcases hf with rfl | rfl | rfl <;> exact inf_of (by kernel_rfl)⟩, fun eks h => by cases h⟩
theorem ty102 : TyOk (cx S pf) 102 := tyOk_mk (z := .slice none 0 0) (by kernel_rfl) rfl rfl rfl Tryd.underlying102
theorem ty109 : TyOk (cx S pf) 109 := tyOk_mk (z := .agg #[.bool false, .slice none 0 0, .string ByteArray.empty, .int .i64 0, .int .i64 0]) (by kernel_rfl) rfl rfl rfl ⟨⟨_, Tryd.underlying109, rfl, fun f hf => by
  simp only [List.mem_cons, List.not_mem_nil, or_false] at hf
  rcases hf with rfl | rfl | rfl | rfl | rfl <;> exact inf_of (by kernel_rfl)⟩, fun eks h => by cases h⟩
theorem ty110 : TyOk (cx S pf) 110 := tyOk_mk (z := .slice none 0 0) (by kernel_rfl) rfl rfl rfl Tryd.underlying110
theorem ty111 : TyOk (cx S pf) 111 := tyOk_mk (z := .agg #[.int .i64 0, .int .i64 0, .int .i64 0, .int .i64 0, .int .i64 0, .int .i64 0, .int .i64 0, .int .i64 0, .int .i64 0, .int .i64 0, .int .i64 0, .int .i64 0, .int .i64 0, .int .i64 0, .int .i64 0, .int .i64 0, .int .i64 0, .int .i64 0, .int .i64 0, .int .i64 0, .int .i64 0, .int .i64 0, .int .i64 0, .int .i64 0, .int .i64 0, .int .i64 0, .int .i64 0]) (by kernel_rfl) rfl rfl rfl ⟨Tryd.underlying111, inf_of (by kernel_rfl)⟩
theorem ty114 : TyOk (cx S pf) 114 := tyOk_mk (z := .agg #[.int .i64 0, .slice none 0 0, .bool false]) (by kernel_rfl) rfl rfl rfl ⟨⟨_, Tryd.underlying114, rfl, fun f hf => by
  simp only [List.mem_cons, List.not_mem_nil, or_false] at hf
  rcases hf with rfl | rfl | rfl <;> exact inf_of (by kernel_rfl)⟩, fun eks h => by cases h⟩
theorem ty117 : TyOk (cx S pf) 117 := tyOk_mk (z := .int .u64 0) (by kernel_rfl) rfl rfl rfl Tryd.underlying117
theorem ty118 : TyOk (cx S pf) 118 := tyOk_mk (z := .agg #[.int .i64 0, .int .i64 0, .int .i64 0, .int .i64 0, .int .i64 0, .int .i64 0, .int .i64 0, .int .i64 0]) (by kernel_rfl) rfl rfl rfl ⟨Tryd.underlying118, inf_of (by kernel_rfl)⟩
theorem eks_120 : ∀ (ρ : Ren) (la : List AV) (xs : List Value), eksOk [.i .i64, .i .u64, .i .i64, .i .i64, .i .i64, .i .i64, .i .i64, .i .i64, .i .i64, .i .i64, .i .i64] la → VRs ρ la xs → ∃ (x0 : Int), ∃ (x1 : Int), ∃ (x2 : Int), ∃ (x3 : Int), ∃ (x4 : Int), ∃ (x5 : Int), ∃ (x6 : Int), ∃ (x7 : Int), ∃ (x8 : Int), ∃ (x9 : Int), ∃ (x10 : Int), la = [.v (.int .i64 x0), .v (.int .u64 x1), .v (.int .i64 x2), .v (.int .i64 x3), .v (.int .i64 x4), .v (.int .i64 x5), .v (.int .i64 x6), .v (.int .i64 x7), .v (.int .i64 x8), .v (.int .i64 x9), .v (.int .i64 x10)] ∧ xs = [.int .i64 x0, .int .u64 x1, .int .i64 x2, .int .i64 x3, .int .i64 x4, .int .i64 x5, .int .i64 x6, .int .i64 x7, .int .i64 x8, .int .i64 x9, .int .i64 x10] := by
  intro ρ la xs h hv
  obtain ⟨a0, la0, rfl, h0, g0⟩ := eks_cons h
  obtain ⟨x0, rfl⟩ := ekI h0
  obtain ⟨xs0, rfl, v0⟩ := vrs_cons hv
  obtain ⟨a1, la1, rfl, h1, g1⟩ := eks_cons g0
  obtain ⟨x1, rfl⟩ := ekI h1
  obtain ⟨xs1, rfl, v1⟩ := vrs_cons v0
  obtain ⟨a2, la2, rfl, h2, g2⟩ := eks_cons g1
  obtain ⟨x2, rfl⟩ := ekI h2
  obtain ⟨xs2, rfl, v2⟩ := vrs_cons v1
  obtain ⟨a3, la3, rfl, h3, g3⟩ := eks_cons g2
  obtain ⟨x3, rfl⟩ := ekI h3
  obtain ⟨xs3, rfl, v3⟩ := vrs_cons v2
  obtain ⟨a4, la4, rfl, h4, g4⟩ := eks_cons g3
  obtain ⟨x4, rfl⟩ := ekI h4
  obtain ⟨xs4, rfl, v4⟩ := vrs_cons v3
  obtain ⟨a5, la5, rfl, h5, g5⟩ := eks_cons g4
  obtain ⟨x5, rfl⟩ := ekI h5
  obtain ⟨xs5, rfl, v5⟩ := vrs_cons v4
  obtain ⟨a6, la6, rfl, h6, g6⟩ := eks_cons g5
  obtain ⟨x6, rfl⟩ := ekI h6
  obtain ⟨xs6, rfl, v6⟩ := vrs_cons v5
  obtain ⟨a7, la7, rfl, h7, g7⟩ := eks_cons g6
  obtain ⟨x7, rfl⟩ := ekI h7
  obtain ⟨xs7, rfl, v7⟩ := vrs_cons v6
  obtain ⟨a8, la8, rfl, h8, g8⟩ := eks_cons g7
  obtain ⟨x8, rfl⟩ := ekI h8
  obtain ⟨xs8, rfl, v8⟩ := vrs_cons v7
  obtain ⟨a9, la9, rfl, h9, g9⟩ := eks_cons g8
  obtain ⟨x9, rfl⟩ := ekI h9
  obtain ⟨xs9, rfl, v9⟩ := vrs_cons v8
  obtain ⟨a10, la10, rfl, h10, g10⟩ := eks_cons g9
  obtain ⟨x10, rfl⟩ := ekI h10
  obtain ⟨xs10, rfl, v10⟩ := vrs_cons v9
  obtain rfl := eks_nil g10
  obtain rfl := vrs_nil v10
  exact ⟨x0, x1, x2, x3, x4, x5, x6, x7, x8, x9, x10, rfl, rfl⟩
theorem eqs_120 (w : World) (x0 : Int) (x1 : Int) (x2 : Int) (x3 : Int) (x4 : Int) (x5 : Int) (x6 : Int) (x7 : Int) (x8 : Int) (x9 : Int) (x10 : Int) (y0 : Int) (y1 : Int) (y2 : Int) (y3 : Int) (y4 : Int) (y5 : Int) (y6 : Int) (y7 : Int) (y8 : Int) (y9 : Int) (y10 : Int) : (Op.equal 120 (.agg [.int .i64 x0, .int .u64 x1, .int .i64 x2, .int .i64 x3, .int .i64 x4, .int .i64 x5, .int .i64 x6, .int .i64 x7, .int .i64 x8, .int .i64 x9, .int .i64 x10].toArray) (.agg [.int .i64 y0, .int .u64 y1, .int .i64 y2, .int .i64 y3, .int .i64 y4, .int .i64 y5, .int .i64 y6, .int .i64 y7, .int .i64 y8, .int .i64 y9, .int .i64 y10].toArray)).run Tryd.prog w = .ok (eksEq [.i .i64, .i .u64, .i .i64, .i .i64, .i .i64, .i .i64, .i .i64, .i .i64, .i .i64, .i .i64, .i .i64] [.v (.int .i64 x0), .v (.int .u64 x1), .v (.int .i64 x2), .v (.int .i64 x3), .v (.int .i64 x4), .v (.int .i64 x5), .v (.int .i64 x6), .v (.int .i64 x7), .v (.int .i64 x8), .v (.int .i64 x9), .v (.int .i64 x10)] [.v (.int .i64 y0), .v (.int .u64 y1), .v (.int .i64 y2), .v (.int .i64 y3), .v (.int .i64 y4), .v (.int .i64 y5), .v (.int .i64 y6), .v (.int .i64 y7), .v (.int .i64 y8), .v (.int .i64 y9), .v (.int .i64 y10)]) w := by
  have hf : ∀ t, t ∈ ([120] : List TypeId) → Tryd.prog.stoodInHeld t = false := fun t ht => by
    have : ([120] : List TypeId).all (fun t => Tryd.prog.stoodInHeld t == false) = true := by kernel_rfl
    simpa using List.all_eq_true.1 this t ht
  unfold Op.equal Op.maxDepth
  rw [run_equalIn_struct w 9999 120 _ _ (by kernel_rfl) (hf 120 (by simp))]
  have hfs : (Tryd.prog.fieldsOf 120).toList = [{ name := "Ts", type := 2, offset := 0, embedded := false, tag := "", pkgPath := "", byteOffset := 0 }, { name := "Id", type := 117, offset := 1, embedded := false, tag := "", pkgPath := "", byteOffset := 8 }, { name := "Type", type := 3, offset := 2, embedded := false, tag := "", pkgPath := "", byteOffset := 16 }, { name := "Attrs", type := 118, offset := 3, embedded := false, tag := "", pkgPath := "", byteOffset := 24 }] := by kernel_rfl
  rw [hfs]
  have hz118 : ∀ w, (sizeOf 118).run Tryd.prog w = .ok 8 w := fun w => by
    obtain ⟨j, h1, h2⟩ := inf_of (P := Tryd.prog) (t := 118) (n := 8) (by kernel_rfl)
    exact (run_sizeOf (X := cx [] fun _ => none) h1).trans (by rw [h2])
  have hz2 : ∀ w, (sizeOf 2).run Tryd.prog w = .ok 1 w := fun w => by
    obtain ⟨j, h1, h2⟩ := inf_of (P := Tryd.prog) (t := 2) (n := 1) (by kernel_rfl)
    exact (run_sizeOf (X := cx [] fun _ => none) h1).trans (by rw [h2])
  simp [Op.eqFields, part, isAgg, hz118, run_equalIn_ints8 _ _ _ _ _ Tryd.underlying118 Tryd.underlying2 hz2, run_underlying Tryd.underlying2, run_underlying Tryd.underlying3, run_underlying Tryd.underlying117, run_underlying Tryd.underlying118, run_equalIn_int, run_equalIn_bool, run_equalIn_string, eksEq, EK.eq, AV.i, AV.b, AV.str, beq_toListBytes]
  repeat' split
  all_goals simp_all
theorem eq120 : EqOk (cx S pf) 120 [.i .i64, .i .u64, .i .i64, .i .i64, .i .i64, .i .i64, .i .i64, .i .i64, .i .i64, .i .i64, .i .i64] := by
  refine ⟨by kernel_rfl, fun ρ w la lb xs ys h1 h2 h3 h4 => ?_⟩
  obtain ⟨x0, x1, x2, x3, x4, x5, x6, x7, x8, x9, x10, rfl, rfl⟩ := eks_120 ρ la xs h1 h3
  obtain ⟨y0, y1, y2, y3, y4, y5, y6, y7, y8, y9, y10, rfl, rfl⟩ := eks_120 ρ lb ys h2 h4
  exact eqs_120 w x0 x1 x2 x3 x4 x5 x6 x7 x8 x9 x10 y0 y1 y2 y3 y4 y5 y6 y7 y8 y9 y10
theorem ty120 : TyOk (cx S pf) 120 := tyOk_mk (z := .agg #[.int .i64 0, .int .u64 0, .int .i64 0, .int .i64 0, .int .i64 0, .int .i64 0, .int .i64 0, .int .i64 0, .int .i64 0, .int .i64 0, .int .i64 0]) (by kernel_rfl) rfl rfl rfl ⟨⟨_, Tryd.underlying120, rfl, fun f hf => by
  simp only [List.mem_cons, List.not_mem_nil, or_false] at hf
  rcases hf with rfl | rfl | rfl | rfl <;> exact inf_of (by kernel_rfl)⟩, fun eks h => by cases h; exact eq120 S pf⟩
theorem ty124 : TyOk (cx S pf) 124 := tyOk_mk (z := .agg #[.slice none 0 0, .slice none 0 0, .slice none 0 0, .slice none 0 0, .int .i64 0, .int .i64 0]) (by kernel_rfl) rfl rfl rfl ⟨⟨_, Tryd.underlying124, rfl, fun f hf => by
  simp only [List.mem_cons, List.not_mem_nil, or_false] at hf
  rcases hf with rfl | rfl | rfl | rfl <;> exact inf_of (by kernel_rfl)⟩, fun eks h => by cases h⟩
theorem ty131 : TyOk (cx S pf) 131 := tyOk_mk (z := .agg #[.bool false, .int .i64 0, .bool false, .int .i64 0, .bool false, .int .i64 0]) (by kernel_rfl) rfl rfl rfl ⟨Tryd.underlying131, inf_of (by kernel_rfl)⟩
theorem ty135 : TyOk (cx S pf) 135 := tyOk_mk (z := .map none) (by kernel_rfl) rfl rfl rfl ⟨3, 3, Tryd.underlying135, Tryd.underlying3, Tryd.underlying3, inz_of (by kernel_rfl)⟩
theorem ty137 : TyOk (cx S pf) 137 := tyOk_mk (z := .nilFunc) (by kernel_rfl) rfl rfl rfl ⟨_, _, _, Tryd.underlying137⟩
theorem ty138 : TyOk (cx S pf) 138 := tyOk_mk (z := .nilFunc) (by kernel_rfl) rfl rfl rfl ⟨_, _, _, Tryd.underlying138⟩
theorem ty159 : TyOk (cx S pf) 159 := tyOk_mk (z := .agg #[.bool false, .int .i64 0, .bool false, .int .i64 0, .bool false, .int .i64 0, .bool false, .int .i64 0, .bool false, .int .i64 0, .bool false, .int .i64 0, .bool false, .int .i64 0, .bool false, .int .i64 0, .bool false, .int .i64 0]) (by kernel_rfl) rfl rfl rfl ⟨Tryd.underlying159, inf_of (by kernel_rfl)⟩
theorem ty163 : TyOk (cx S pf) 163 := tyOk_mk (z := .slice none 0 0) (by kernel_rfl) rfl rfl rfl Tryd.underlying163
theorem ty172 : TyOk (cx S pf) 172 := tyOk_mk (z := .agg #[.int .i64 0, .int .i64 0]) (by kernel_rfl) rfl rfl rfl ⟨⟨_, Tryd.underlying172, rfl, fun f hf => by
  simp only [List.mem_cons, List.not_mem_nil, or_false] at hf
  rcases hf with rfl | rfl <;> exact inf_of (by kernel_rfl)⟩, fun eks h => by cases h⟩
theorem ty178 : TyOk (cx S pf) 178 := tyOk_mk (z := .agg #[.string ByteArray.empty, .string ByteArray.empty, .string ByteArray.empty, .string ByteArray.empty, .string ByteArray.empty, .string ByteArray.empty, .string ByteArray.empty, .string ByteArray.empty, .string ByteArray.empty, .string ByteArray.empty, .string ByteArray.empty, .string ByteArray.empty, .string ByteArray.empty, .string ByteArray.empty, .string ByteArray.empty, .string ByteArray.empty, .string ByteArray.empty, .string ByteArray.empty, .string ByteArray.empty, .string ByteArray.empty, .string ByteArray.empty, .string ByteArray.empty, .string ByteArray.empty, .string ByteArray.empty, .string ByteArray.empty, .string ByteArray.empty, .string ByteArray.empty]) (by kernel_rfl) rfl rfl rfl ⟨Tryd.underlying178, inf_of (by kernel_rfl)⟩
theorem ty182 : TyOk (cx S pf) 182 := tyOk_mk (z := .slice none 0 0) (by kernel_rfl) rfl rfl rfl Tryd.underlying182
theorem ti_cases (t : TypeId) : t = 2 ∨ t = 3 ∨ t = 4 ∨ t = 5 ∨ t = 9 ∨ t = 21 ∨ t = 22 ∨ t = 24 ∨ t = 25 ∨ t = 26 ∨ t = 27 ∨ t = 28 ∨ t = 29 ∨ t = 31 ∨ t = 37 ∨ t = 38 ∨ t = 40 ∨ t = 47 ∨ t = 49 ∨ t = 53 ∨ t = 54 ∨ t = 60 ∨ t = 62 ∨ t = 64 ∨ t = 69 ∨ t = 70 ∨ t = 75 ∨ t = 82 ∨ t = 84 ∨ t = 92 ∨ t = 93 ∨ t = 95 ∨ t = 99 ∨ t = 101 ∨ t = 102 ∨ t = 109 ∨ t = 110 ∨ t = 111 ∨ t = 114 ∨ t = 117 ∨ t = 118 ∨ t = 120 ∨ t = 124 ∨ t = 131 ∨ t = 135 ∨ t = 137 ∨ t = 138 ∨ t = 159 ∨ t = 163 ∨ t = 172 ∨ t = 178 ∨ t = 182 ∨ (ti t).d = .other := by
  unfold ti
  split <;> simp
theorem tyOk : ∀ t, ((cx S pf).ti t).d ≠ .other → TyOk (cx S pf) t := fun t h => by
  rcases ti_cases t with rfl | rfl | rfl | rfl | rfl | rfl | rfl | rfl | rfl | rfl | rfl | rfl | rfl | rfl | rfl | rfl | rfl | rfl | rfl | rfl | rfl | rfl | rfl | rfl | rfl | rfl | rfl | rfl | rfl | rfl | rfl | rfl | rfl | rfl | rfl | rfl | rfl | rfl | rfl | rfl | rfl | rfl | rfl | rfl | rfl | rfl | rfl | rfl | rfl | rfl | rfl | rfl | e
  · exact ty2 S pf
  · exact ty3 S pf
  · exact ty4 S pf
  · exact ty5 S pf
  · exact ty9 S pf
  · exact ty21 S pf
  · exact ty22 S pf
  · exact ty24 S pf
  · exact ty25 S pf
  · exact ty26 S pf
  · exact ty27 S pf
  · exact ty28 S pf
  · exact ty29 S pf
  · exact ty31 S pf
  · exact ty37 S pf
  · exact ty38 S pf
  · exact ty40 S pf
  · exact ty47 S pf
  · exact ty49 S pf
  · exact ty53 S pf
  · exact ty54 S pf
  · exact ty60 S pf
  · exact ty62 S pf
  · exact ty64 S pf
  · exact ty69 S pf
  · exact ty70 S pf
  · exact ty75 S pf
  · exact ty82 S pf
  · exact ty84 S pf
  · exact ty92 S pf
  · exact ty93 S pf
  · exact ty95 S pf
  · exact ty99 S pf
  · exact ty101 S pf
  · exact ty102 S pf
  · exact ty109 S pf
  · exact ty110 S pf
  · exact ty111 S pf
  · exact ty114 S pf
  · exact ty117 S pf
  · exact ty118 S pf
  · exact ty120 S pf
  · exact ty124 S pf
  · exact ty131 S pf
  · exact ty135 S pf
  · exact ty137 S pf
  · exact ty138 S pf
  · exact ty159 S pf
  · exact ty163 S pf
  · exact ty172 S pf
  · exact ty178 S pf
  · exact ty182 S pf
  · exact absurd e h

theorem ok_of (h : ∀ f g, pf f = some g → PureOk (cx S pf) f g) : Ok (cx S pf) := ⟨tyOk S pf, h⟩
theorem mixed : (cx S pf).P.follows .mixedOrders = true := by kernel_rfl
end

/-- What a function is shown to compute does not hang on which others are known; nor does more that is known of the variables harm it. -/
theorem pure_any {S S' : List Nat} {pf pf' : FuncId → Option (List AV → Heap → PRes)} (hs : ∀ x ∈ S, x ∈ S') {f : FuncId} {g : List AV → Heap → PRes} (h : PureOk (cx S pf) f g) : PureOk (cx S' pf') f g :=
  ⟨h.1, h.2.imp (fun h => ⟨h.1, fun ρ hh w args vs r => h.2 ρ hh w args vs ⟨fun g cs hg => r.glob g cs (by
    simp only [cx_G, globS] at hg ⊢
    by_cases hm : g ∈ S
    · rw [if_pos hm] at hg; rw [if_pos (hs g hm)]; exact hg
    · rw [if_neg hm] at hg; cases hg), r.blk⟩⟩) fun h => h⟩
/-- A table of functions that only compute. -/
def pfL : List (FuncId × (List AV → Heap → PRes)) → FuncId → Option (List AV → Heap → PRes)
  | [], _ => none
  | p :: l, f => if f = p.1 then some p.2 else pfL l f
def P0 (S : List Nat) (f : FuncId) (g : List AV → Heap → PRes) : Prop := PureOk (cx S (pfL [])) f g
def TbOk (S : List Nat) (l : List (FuncId × (List AV → Heap → PRes))) : Prop := ∀ p ∈ l, P0 S p.1 p.2
theorem tb_nil {S : List Nat} : TbOk S [] := fun _ h => by cases h
theorem tb_cons {S0 S : List Nat} {f : FuncId} {g : List AV → Heap → PRes} {l : List (FuncId × (List AV → Heap → PRes))} (h : P0 S0 f g) (hl : TbOk S l) (hs : ∀ x ∈ S0, x ∈ S := by decide) : TbOk S ((f, g) :: l) := fun p hp => by
  cases hp with
  | head => exact pure_any hs h
  | tail _ hp => exact hl p hp
theorem pfL_ok {S : List Nat} {l : List (FuncId × (List AV → Heap → PRes))} (h : TbOk S l) : Ok (cx S (pfL l)) :=
  ok_of S _ fun f g hf => by
    have : ∀ l' : List (FuncId × (List AV → Heap → PRes)), pfL l' f = some g → (f, g) ∈ l' := fun l' => by
      induction l' with
      | nil => intro h; cases h
      | cons p l' ih =>
        intro h
        simp only [pfL] at h
        split at h
        · rename_i e
          cases h
          rw [e]
          exact List.mem_cons_self
        · exact List.mem_cons_of_mem _ (ih h)
    exact pure_any (fun _ hx => hx) (h (f, g) (this l hf))
theorem callable {f : FuncId} {fn : Func} (hf : Tryd.prog.funcs[f]? = some fn) (hn : (fn.name == "runtime.NumGoroutine") = false) (hb : fn.body.isNone = false) (S : List Nat) (pf : FuncId → Option (List AV → Heap → PRes)) : ∀ args w, (callFunc f args).run (cx S pf).P w = .ok (.enter f args) w := fun args w => by
  simp only [callFunc, Sem.run_bind, run_program, Result.andThen_ok, cx_P, hf, hn, hb, Bool.false_eq_true, if_false, Sem.run_pure]
end Go.Proofs.YtkfphaphiikloaaDoor
