/-
  OUR OWN TOOL, PART B: what an operation comes to, on abstract values.
-/
import Derived.Test.YtkfphaphiikloaaDoorEngA
import Derived.Laws.Entries
import Derived.Laws.Small
set_option linter.unusedSimpArgs false
set_option linter.unusedVariables false
set_option linter.constructorNameAsVariable false
namespace Go.Eng
open Go Go.RowKit

/-! ### looks into abstract values -/
def AV.i : AV → Int
  | .v (.int _ n) => n
  | _ => 0
def AV.isI (k : IntKind) : AV → Prop
  | .v (.int k' _) => k' = k
  | _ => False
def AV.isInt : AV → Prop
  | .v (.int _ _) => True
  | _ => False
def AV.b : AV → Bool
  | .v (.bool b) => b
  | _ => false
def AV.isB : AV → Prop
  | .v (.bool _) => True
  | _ => False
def AV.str : AV → ByteArray
  | .v (.string z) => z
  | _ => ByteArray.empty
def AV.isStr : AV → Prop
  | .v (.string _) => True
  | _ => False
def AV.unc (g : Bool) : AV → AV
  | .c b x => if (g && !b) = true then .any else x
  | x => x
def AV.bb : AV → Bool
  | .c _ x => x.b
  | x => x.b
def AV.okg : AV → Prop
  | .c b x => b = true → x.isB
  | x => x.isB
def AV.gd (want : Bool) : AV → Bool
  | .c b x => b && (x.b == want)
  | x => x.b == want
def AV.okb : AV → Prop
  | .c b x => b = true ∧ x.isB
  | x => x.isB
def AV.cells : AV → List AV
  | .g l => l
  | x => [x]
def AV.one : AV → Prop
  | .v x => x.oneCell' = true
  | .gp _ _ | .p _ _ _ | .s _ _ _ _ | .f _ _ _ | .e => True
  | _ => False
def AV.ones : List AV → Prop
  | [] => True
  | a :: l => a.one ∧ AV.ones l
def AV.slen : AV → Nat
  | .s _ _ _ n => n
  | _ => 0
def AV.isS : AV → Prop
  | .s _ _ _ _ => True
  | .v (.slice none n m) => n = 0 ∧ m = 0
  | .e => True
  | _ => False

def AV.isPtr : AV → Prop
  | .p _ _ _ | .gp _ _ => True
  | _ => False
def optInt (ev : Operand → AV) : Option Operand → Prop
  | some o => (ev o).isInt
  | none => True
def optI (ev : Operand → AV) (d : Int) : Option Operand → Int
  | some o => (ev o).i
  | none => d

/-- The cells from a place on are others. -/
def wr {α : Type} : List α → Nat → List α → List α
  | l, _, [] => l
  | l, o, c :: r => wr (l.set o c) (o + 1) r

/-- The first n. -/
def cut (n : Nat) (l : List AV) : List AV := if l.length ≤ n then l else l.take n
theorem cut_of_le {n : Nat} {l : List AV} (h : l.length ≤ n) : cut n l = l := if_pos h
theorem cut_take {n : Nat} {l : List AV} : cut n l = l.take n := by
  unfold cut
  split
  · rw [List.take_of_length_le (by assumption)]
  · rfl
/-- An operation's answer: what must hold, its value, the memory behind it. -/
structure ARes where
  side : Prop
  val : AV
  h : Heap

section
variable (X : Ctx) (h : Heap)
/-- n cells may be read at an address. -/
def lds (a : AV) (n : Nat) : Prop :=
  match a with
  | .p id ver off => match h id with
    | some k => k.ver = ver ∧ off + n ≤ k.cells.length
    | none => False
  | .gp g off => match X.G g with
    | some cs => off + n ≤ cs.length
    | none => False
  | _ => False
/-- The j-th cell at an address. -/
def ldc (a : AV) (j : Nat) : AV :=
  match a with
  | .p id _ off => match h id with
    | some k => k.cells.getD (off + j) .any
    | none => .any
  | .gp g off => match X.G g with
    | some cs => .v (cs.getD (off + j) undef)
    | none => .any
  | _ => .any
def ldcs (a : AV) (i : Nat) : Nat → List AV
  | 0 => []
  | n + 1 => ldc X h a i :: ldcs a (i + 1) n
/-- n cells may be written at an address. -/
def sts (a : AV) (n : Nat) : Prop :=
  match a with
  | .p id ver off => match h id with
    | some k => k.ver = ver ∧ k.rw = true ∧ off + n ≤ k.cells.length
    | none => False
  | _ => False
/-- The memory when they are. -/
def sth (a : AV) (cs : List AV) : Heap :=
  match a with
  | .p id _ off => match h id with
    | some k => up h id (some { k with cells := wr k.cells off cs })
    | none => h
  | _ => h
/-- n cells of a slice may be read from its j-th on. -/
def sls (a : AV) (j n : Nat) : Prop :=
  match a with
  | .s id ver off _ => match h id with
    | some k => k.ver = ver ∧ off + (j + n) ≤ k.cells.length
    | none => False
  | .v (.slice none _ _) => j = 0 ∧ n = 0
  | .e => j = 0 ∧ n = 0
  | _ => False
/-- They. -/
def slc (a : AV) (j n : Nat) : List AV :=
  match a with
  | .s id _ off _ => match h id with
    | some k => (k.cells.drop (off + j)).take n
    | none => []
  | _ => []
end

/-- The parts of a literal that is built: each fits its place; the cells. -/
def fillOk (pl : Nat → Option (Nat × Nat)) (n : Nat) : List (Nat × AV) → Prop
  | [] => True
  | (i, x) :: r => (match pl i with
    | some (off, size) => x.cells.length = size ∧ off + size ≤ n
    | none => False) ∧ AV.ones x.cells ∧ fillOk pl n r
def fillC (pl : Nat → Option (Nat × Nat)) (cells : List AV) : List (Nat × AV) → List AV
  | [] => cells
  | (i, x) :: r => fillC pl (match pl i with
    | some (off, _) => wr cells off x.cells
    | none => cells) r
def repZ (z : List Value) : Nat → List AV
  | 0 => []
  | n + 1 => z.map .v ++ repZ z n

def EK.ok : EK → AV → Prop
  | .b, x => x.isB
  | .i k, x => x.isI k
  | .str, x => x.isStr
def EK.eq : EK → AV → AV → Bool
  | .b, x, y => x.b == y.b
  | .i _, x, y => x.i == y.i
  | .str, x, y => x.str == y.str
def eksOk : List EK → List AV → Prop
  | [], l => l = []
  | e :: es, l => match l with
    | x :: xs => e.ok x ∧ eksOk es xs
    | [] => False
def eksEq : List EK → List AV → List AV → Bool
  | e :: es, x :: xs, y :: ys => e.eq x y && eksEq es xs ys
  | _, _, _ => true

def AV.gl : AV → List AV
  | .g l => l
  | _ => []
def AV.isG : AV → Prop
  | .g _ => True
  | _ => False

section
variable (X : Ctx)
def place (t : TypeId) (f : Nat) : Option (Nat × Nat) :=
  match (X.ti t).d with
  | .struct fs _ => (fs[f]?).map fun p => (p.1, (X.ti p.2).size)
  | .arr n e => if f < n then some (f * (X.ti e).size, (X.ti e).size) else none
  | _ => none

def binI (op : BinOp) (k : IntKind) (x y : Int) : Option AV :=
  match op with
  | .add => some (.v (.int k (k.wrap (x + y))))
  | .sub => some (.v (.int k (k.wrap (x - y))))
  | .mul => some (.v (.int k (k.wrap (x * y))))
  | .quo => some (.v (.int k (k.wrap (x.tdiv y))))
  | .rem => some (.v (.int k (x.tmod y)))
  | .and => some (.v (.int k (k.wrap ((BitVec.ofInt k.bits x &&& BitVec.ofInt k.bits y).toNat : Int))))
  | .or => some (.v (.int k (k.wrap ((BitVec.ofInt k.bits x ||| BitVec.ofInt k.bits y).toNat : Int))))
  | .xor => some (.v (.int k (k.wrap ((BitVec.ofInt k.bits x ^^^ BitVec.ofInt k.bits y).toNat : Int))))
  | .eql => some (.v (.bool (x == y)))
  | .neq => some (.v (.bool (x != y)))
  | .lss => some (.v (.bool (decide (x < y))))
  | .leq => some (.v (.bool (decide (x ≤ y))))
  | .gtr => some (.v (.bool (decide (x > y))))
  | .geq => some (.v (.bool (decide (x ≥ y))))
  | _ => none
def isDiv : BinOp → Prop
  | .quo | .rem => True
  | _ => False

/-- Does the operation make or turn memory? -/
def heapOp : Op → Bool
  | .alloc _ | .box _ _ | .buildSlice _ _ _ | .store _ _ _ | .makeSlice _ _ _ => true
  | .call c => match c.callee with
    | .builtin .append => true
    | _ => false
  | _ => false

/-- What an operation comes to. 'i': the number that a new block gets. 'hp': what is known of the memory where a function is asked that only computes. -/
def aeval (op : Op) (ev : Operand → AV) (h : Heap) (i : Nat) (hp : Heap) : ARes :=
  match op with
  | .move x | .assign x => ⟨True, ev x, h⟩
  | .pick c a b => ⟨(ev c).isB ∧ ((ev c).b = true → (ev a).okb) ∧ ((ev c).b = false → (ev b).okb), .v (.bool (cond (ev c).b (ev a).bb (ev b).bb)), h⟩
  | .alloc t => ⟨(X.ti t).d ≠ .other, .p i 0 0, up h i (some ⟨(X.ti t).zero.map .v, 0, true, (X.ti t).size⟩)⟩
  | .box t x => ⟨(X.ti t).d ≠ .other ∧ (ev x).cells.length = (X.ti t).size ∧ AV.ones (ev x).cells, .p i 0 0, up h i (some ⟨(ev x).cells, 0, true, (X.ti t).size⟩)⟩
  | .build t ps => ⟨(match (X.ti t).d with | .struct _ _ => True | .arr _ _ => True | _ => False) ∧ fillOk (place X t) (X.ti t).size (ps.toList.map fun p => (p.1, ev p.2)), .g (fillC (place X t) ((X.ti t).zero.map .v) (ps.toList.map fun p => (p.1, ev p.2))), h⟩
  | .buildSlice t len ps => match (X.ti t).d with
    | .slice e => ⟨(X.ti e).d ≠ .other ∧ 0 < (X.ti e).size ∧ len * (X.ti e).size ≤ 16777216 ∧ fillOk (fun j => some (j * (X.ti e).size, (X.ti e).size)) (len * (X.ti e).size) (ps.toList.map fun p => (p.1, ev p.2)) ∧ AV.ones (fillC (fun j => some (j * (X.ti e).size, (X.ti e).size)) (repZ (X.ti e).zero len) (ps.toList.map fun p => (p.1, ev p.2))),
        .s i 0 0 len, up h i (some ⟨fillC (fun j => some (j * (X.ti e).size, (X.ti e).size)) (repZ (X.ti e).zero len) (ps.toList.map fun p => (p.1, ev p.2)), 0, true, (X.ti e).size⟩)⟩
    | _ => ⟨False, .any, h⟩
  | .load t a => match (X.ti t).d with
    | .other => ⟨False, .any, h⟩
    | .struct _ _ => ⟨lds X h (ev a) (X.ti t).size, .g (ldcs X h (ev a) 0 (X.ti t).size), h⟩
    | .arr _ _ => ⟨lds X h (ev a) (X.ti t).size, .g (ldcs X h (ev a) 0 (X.ti t).size), h⟩
    | _ => ⟨lds X h (ev a) 1, ldc X h (ev a) 0, h⟩
  | .store t a x => ⟨(X.ti t).d ≠ .other ∧ sts h (ev a) (X.ti t).size ∧ (ev x).cells.length = (X.ti t).size ∧ AV.ones (ev x).cells, .any, sth h (ev a) (ev x).cells⟩
  | .nilCheck x => ⟨(ev x).isPtr, ev x, h⟩
  | .binOp op xt x y _ => match (X.ti xt).d with
    | .int k => match op with
      | .shl => ⟨(ev x).isI k ∧ (ev y).isInt ∧ 0 ≤ (ev y).i, .v (.int k (k.wrap ((ev x).i * 2 ^ min (ev y).i.toNat k.bits))), h⟩
      | .shr => ⟨(ev x).isI k ∧ (ev y).isInt ∧ 0 ≤ (ev y).i, .v (.int k ((ev x).i.fdiv (2 ^ min (ev y).i.toNat k.bits))), h⟩
      | op => match binI op k (ev x).i (ev y).i with
        | some v => ⟨(ev x).isI k ∧ (ev y).isI k ∧ (isDiv op → (ev y).i ≠ 0), v, h⟩
        | none => ⟨False, .any, h⟩
    | .bool => match op with
      | .eql => ⟨(ev x).isB ∧ (ev y).isB, .v (.bool ((ev x).b == (ev y).b)), h⟩
      | .neq => ⟨(ev x).isB ∧ (ev y).isB, .v (.bool (!((ev x).b == (ev y).b))), h⟩
      | _ => ⟨False, .any, h⟩
    | .str => match op with
      | .eql => ⟨(ev x).isStr ∧ (ev y).isStr, .v (.bool ((ev x).str == (ev y).str)), h⟩
      | .neq => ⟨(ev x).isStr ∧ (ev y).isStr, .v (.bool ((ev x).str != (ev y).str)), h⟩
      | _ => ⟨False, .any, h⟩
    | .struct _ (some eks) => match op with
      | .eql => ⟨(ev x).isG ∧ (ev y).isG ∧ eksOk eks (ev x).gl ∧ eksOk eks (ev y).gl, .v (.bool (eksEq eks (ev x).gl (ev y).gl)), h⟩
      | .neq => ⟨(ev x).isG ∧ (ev y).isG ∧ eksOk eks (ev x).gl ∧ eksOk eks (ev y).gl, .v (.bool (!(eksEq eks (ev x).gl (ev y).gl))), h⟩
      | _ => ⟨False, .any, h⟩
    | _ => ⟨False, .any, h⟩
  | .unOp op _ x => match op with
    | .not => ⟨(ev x).isB, .v (.bool (!(ev x).b)), h⟩
    | .neg => match ev x with
      | .v (.int k n) => ⟨True, .v (.int k (k.wrap (0 - n))), h⟩
      | _ => ⟨False, .any, h⟩
    | _ => ⟨False, .any, h⟩
  | .convert s d x => match (X.ti s).d, (X.ti d).d with
    | .int _, .int k => ⟨(ev x).isInt, .v (.int k (k.wrap (ev x).i)), h⟩
    | .str, .str => ⟨(ev x).isStr, ev x, h⟩
    | _, _ => ⟨False, .any, h⟩
  | .makeSlice t l c => match (X.ti t).d with
    | .slice e => ⟨(X.ti e).d ≠ .other ∧ 0 < (X.ti e).size ∧ (ev l).isInt ∧ (ev c).isInt ∧ 0 ≤ (ev l).i ∧ (ev l).i ≤ (ev c).i ∧ ((X.ti e).bytes : Int) * (ev c).i ≤ 281474976710656 ∧ (ev c).i ≤ 9223372036854775807,
        .s i 0 0 (ev l).i.toNat, up h i (some ⟨repZ (X.ti e).zero (ev l).i.toNat, 0, true, (X.ti e).size⟩)⟩
    | _ => ⟨False, .any, h⟩
  | .fieldAddr t x f => match (X.ti t).d with
    | .struct fs _ => match fs[f]?, ev x with
      | some (off, ft), .p id ver o => ⟨(X.ti ft).d ≠ .other ∧ (X.ti ft).size ≠ 0, .p id ver (o + off), h⟩
      | some (off, ft), .gp g o => ⟨(X.ti ft).d ≠ .other ∧ (X.ti ft).size ≠ 0, .gp g (o + off), h⟩
      | _, _ => ⟨False, .any, h⟩
    | _ => ⟨False, .any, h⟩
  | .indexAddr t x ix => match (X.ti t).d with
    | .slice e => match ev x with
      | .s id ver off len => ⟨(X.ti e).d ≠ .other ∧ (ev ix).isInt ∧ 0 ≤ (ev ix).i ∧ (ev ix).i < len, .p id ver (off + (ev ix).i.toNat * (X.ti e).size), h⟩
      | _ => ⟨False, .any, h⟩
    | .arr len e => match ev x with
      | .p id ver off => ⟨(X.ti e).d ≠ .other ∧ (ev ix).isInt ∧ 0 ≤ (ev ix).i ∧ (ev ix).i < len, .p id ver (off + (ev ix).i.toNat * (X.ti e).size), h⟩
      | .gp g off => ⟨(X.ti e).d ≠ .other ∧ (ev ix).isInt ∧ 0 ≤ (ev ix).i ∧ (ev ix).i < len, .gp g (off + (ev ix).i.toNat * (X.ti e).size), h⟩
      | _ => ⟨False, .any, h⟩
    | _ => ⟨False, .any, h⟩
  | .extract x j => match ev x with
    | .t l => ⟨j < l.length, l.getD j .any, h⟩
    | _ => ⟨False, .any, h⟩
  | .slice t x lo hi mx => match (X.ti t).d with
    | .slice e => match mx with
      | some _ => ⟨False, .any, h⟩
      | none =>
        match ev x with
        | .s id ver off n => ⟨optInt ev lo ∧ optInt ev hi ∧ 0 ≤ optI ev 0 lo ∧ optI ev 0 lo ≤ optI ev n hi ∧ optI ev n hi ≤ n ∧ (X.ti e).d ≠ .other ∧ 0 < (X.ti e).size, .s id ver (off + (optI ev 0 lo).toNat * (X.ti e).size) ((optI ev n hi).toNat - (optI ev 0 lo).toNat), h⟩
        | .v (.slice none n c) => ⟨optInt ev lo ∧ optInt ev hi ∧ 0 ≤ optI ev 0 lo ∧ optI ev 0 lo ≤ optI ev 0 hi ∧ optI ev 0 hi ≤ 0 ∧ n = 0 ∧ c = 0 ∧ (X.ti e).d ≠ .other, .v (.slice none 0 0), h⟩
        | _ => ⟨False, .any, h⟩
    | _ => ⟨False, .any, h⟩
  | .call c => match c.callee, c.args.toList, c.argTypes.toList with
    | .builtin .len, [x], [t] => match (X.ti t).d with
      | .slice _ => ⟨(ev x).isS, .v (.int .i64 (ev x).slen), h⟩
      | .str => ⟨(ev x).isStr, .v (.int .i64 (ev x).str.size), h⟩
      | _ => ⟨False, .any, h⟩
    | .builtin .min, [x, y], _ => match ev x, ev y with
      | .v (.int k a), .v (.int _ b) => ⟨True, .v (.int k (if b < a then b else a)), h⟩
      | _, _ => ⟨False, .any, h⟩
    | .builtin .max, [x, y], _ => match ev x, ev y with
      | .v (.int k a), .v (.int _ b) => ⟨True, .v (.int k (if a < b then b else a)), h⟩
      | _, _ => ⟨False, .any, h⟩
    | .builtin .append, [s, x], [t, t'] => match (X.ti t).d with
      | .slice e => match ev s with
        | .s id ver off len => match h id with
          | some k => ⟨t' = t ∧ (X.ti e).d ≠ .other ∧ 0 < (X.ti e).size ∧ (ev x).isS ∧ sls h (ev x) 0 ((ev x).slen * (X.ti e).size) ∧ k.ver = ver ∧ off = 0 ∧ k.rw = true ∧ k.esz = (X.ti e).size ∧ len * (X.ti e).size ≤ k.cells.length ∧ (len + (ev x).slen) * (X.ti e).bytes ≤ 140737488355328 ∧ len + (ev x).slen ≤ 9223372036854775807,
              .s id (ver + 1) 0 (len + (ev x).slen), up h id (some { k with cells := cut (len * (X.ti e).size) k.cells ++ slc h (ev x) 0 ((ev x).slen * (X.ti e).size), ver := ver + 1 })⟩
          | none => ⟨False, .any, h⟩
        | .v (.slice none n c) => ⟨t' = t ∧ n = 0 ∧ c = 0 ∧ (X.ti e).d ≠ .other ∧ 0 < (X.ti e).size ∧ (ev x).isS ∧ sls h (ev x) 0 ((ev x).slen * (X.ti e).size) ∧ (ev x).slen * (X.ti e).bytes ≤ 140737488355328 ∧ (ev x).slen ≤ 9223372036854775807,
            .s i 0 0 (ev x).slen, up h i (some ⟨slc h (ev x) 0 ((ev x).slen * (X.ti e).size), 0, true, (X.ti e).size⟩)⟩
        | _ => ⟨False, .any, h⟩
      | _ => ⟨False, .any, h⟩
    | .value (.func f), as, _ => match X.pf f with
      | some g => ⟨(g (as.map ev) hp).side, (g (as.map ev) hp).val, h⟩
      | none => ⟨False, .any, h⟩
    | _, _, _ => ⟨False, .any, h⟩
  | .makeFunc fn fi ca => ⟨True, .f fn (fi.toList.map ev) (ca.toList.map ev), h⟩
  | _ => ⟨False, .any, h⟩
end
end Go.Eng
