import Derived.Test.YtbffkkeieihpdaaGreatDoorX01
import Derived.Laws.Entries
import Derived.Laws.Small
set_option linter.unusedSimpArgs false
set_option linter.unusedVariables false
set_option linter.constructorNameAsVariable false
set_option maxRecDepth 100000
set_option maxHeartbeats 4000000
namespace Go.Eng
open Go Go.RowKit
def AV.i : AV → Int
 | .v (.int _ n) => n
 | _ => 0
def AV.isI (k : IntKind) : AV → Prop
 | .v (.int k' _) => k' = k
 | _ => False
def AV.isInt : AV → Prop
 | .v (.int _ _) => True
 | _ => False
def AV.b : AV → Bool
 | .v (.bool b) => b
 | _ => false
def AV.isB : AV → Prop
 | .v (.bool _) => True
 | _ => False
def AV.isN : AV → Prop
 | .v (.slice none _ _) => True
 | .s _ _ _ n => 0 < n
 | _ => False
def AV.nl : AV → Bool
 | .s _ _ _ _ => false
 | _ => true
def AV.isNl : AV → Prop
 | .v (.slice none _ _) => True
 | _ => False
def AV.str : AV → ByteArray
 | .v (.string z) => z
 | _ => ByteArray.empty
def AV.isStr : AV → Prop
 | .v (.string _) => True
 | _ => False
def byteAt (z : ByteArray) (i : Nat) : Nat := (z.data.toList.getD i 0).toNat
def AV.unc (g : Bool) : AV → AV
 | .c b x => if (g && !b) = true then .any else x
 | x => x
def AV.bb : AV → Bool
 | .c _ x => x.b
 | x => x.b
def AV.okg : AV → Prop
 | .c b x => b = true → x.isB
 | x => x.isB
def AV.gd (want : Bool) : AV → Bool
 | .c b x => b && (x.b == want)
 | x => x.b == want
def AV.okb : AV → Prop
 | .c b x => b = true ∧ x.isB
 | x => x.isB
def AV.cells : AV → List AV
 | .g l => l
 | x => [x]
def AV.one : AV → Prop
 | .v x => x.oneCell' = true
 | .gp _ _ | .p _ _ _ | .s _ _ _ _ | .f _ _ _ | .e | .mv _ _ => True
 | _ => False
def AV.ones : List AV → Prop
 | [] => True
 | a :: l => a.one ∧ AV.ones l
def AV.slen : AV → Nat
 | .s _ _ _ n => n
 | _ => 0
def AV.isS : AV → Prop
 | .s _ _ _ _ => True
 | .v (.slice none n m) => n = 0 ∧ m = 0
 | .e => True
 | _ => False
def AV.isPtr : AV → Prop
 | .p _ _ _ | .gp _ _ => True
 | _ => False
def optInt (ev : Operand → AV) : Option Operand → Prop
 | some o => (ev o).isInt
 | none => True
def optI (ev : Operand → AV) (d : Int) : Option Operand → Int
 | some o => (ev o).i
 | none => d
def wr {α : Type} : List α → Nat → List α → List α
 | l, _, [] => l
 | l, o, c :: r => wr (l.set o c) (o + 1) r
def cut (n : Nat) (l : List AV) : List AV := if l.length ≤ n then l else l.take n
theorem cut_of_le {n : Nat} {l : List AV} (h : l.length ≤ n) : cut n l = l := if_pos h
theorem cut_take {n : Nat} {l : List AV} : cut n l = l.take n := by
 unfold cut
 split
 ·rw [List.take_of_length_le (by assumption)]
 ·rfl
structure ARes where
 side : Prop
 val : AV
 h : Heap
section
variable (X : Ctx) (h : Heap)
def lds (a : AV) (n : Nat) : Prop :=
 match a with
 | .p id ver off => match h id with
  | some k => k.ver = ver ∧ off + n ≤ k.cells.length
  | none => False
 | .gp g off => match X.G g with
  | some cs => off + n ≤ cs.length
  | none => False
 | _ => False
def ldc (a : AV) (j : Nat) : AV :=
 match a with
 | .p id _ off => match h id with
  | some k => k.cells.getD (off + j) .any
  | none => .any
 | .gp g off => match X.G g with
  | some cs => .v (cs.getD (off + j) undef)
  | none => .any
 | _ => .any
def ldcs (a : AV) (i : Nat) : Nat → List AV
 | 0 => []
 | n + 1 => ldc X h a i :: ldcs a (i + 1) n
def sts (a : AV) (n : Nat) : Prop :=
 match a with
 | .p id ver off => match h id with
  | some k => k.ver = ver ∧ k.rw = true ∧ off + n ≤ k.cells.length
  | none => False
 | _ => False
def sth (a : AV) (cs : List AV) : Heap :=
 match a with
 | .p id _ off => match h id with
  | some k => up h id (some { k with cells := wr k.cells off cs })
  | none => h
 | _ => h
def sls (a : AV) (j n : Nat) : Prop :=
 match a with
 | .s id ver off _ => match h id with
  | some k => k.ver = ver ∧ off + (j + n) ≤ k.cells.length
  | none => False
 | .v (.slice none _ _) => j = 0 ∧ n = 0
 | .e => j = 0 ∧ n = 0
 | _ => False
def slc (a : AV) (j n : Nat) : List AV :=
 match a with
 | .s id _ off _ => match h id with
  | some k => (k.cells.drop (off + j)).take n
  | none => []
 | _ => []
end
def fillOk (pl : Nat → Option (Nat × Nat)) (n : Nat) : List (Nat × AV) → Prop
 | [] => True
 | (i, x) :: r => (match pl i with
  | some (off, size) => x.cells.length = size ∧ off + size ≤ n
  | none => False) ∧ AV.ones x.cells ∧ fillOk pl n r
def fillC (pl : Nat → Option (Nat × Nat)) (cells : List AV) : List (Nat × AV) → List AV
 | [] => cells
 | (i, x) :: r => fillC pl (match pl i with
  | some (off, _) => wr cells off x.cells
  | none => cells) r
def repZ (z : List Value) : Nat → List AV
 | 0 => []
 | n + 1 => z.map .v ++ repZ z n
def EK.ok : EK → AV → Prop
 | .b, x => x.isB
 | .i k, x => x.isI k
 | .str, x => x.isStr
def EK.eq : EK → AV → AV → Bool
 | .b, x, y => x.b == y.b
 | .i _, x, y => x.i == y.i
 | .str, x, y => x.str == y.str
def eksOk : List EK → List AV → Prop
 | [], l => l = []
 | e :: es, l => match l with
  | x :: xs => e.ok x ∧ eksOk es xs
  | [] => False
def eksEq : List EK → List AV → List AV → Bool
 | e :: es, x :: xs, y :: ys => e.eq x y && eksEq es xs ys
 | _, _, _ => true
def mfind (z : ByteArray) : List AV → Option AV
 | .v (.string k) :: v :: r => if (z == k) = true then some v else mfind z r
 | _ => none
def mok : List AV → Prop
 | [] => True
 | .v (.string _) :: .v (.int .i64 _) :: r => mok r
 | _ => False
def mset (z : ByteArray) (n : AV) : List AV → List AV
 | .v (.string k) :: v :: r => if (z == k) = true then .v (.string k) :: n :: r else .v (.string k) :: v :: mset z n r
 | _ => [.v (.string z), n]
def mfindI (z : Int) : List AV → Option AV
 | .v (.int .i64 k) :: v :: r => if (z == k) = true then some v else mfindI z r
 | _ => none
def mokI : List AV → Prop
 | [] => True
 | .v (.int .i64 _) :: .v (.int .i64 _) :: r => mokI r
 | _ => False
def msetI (z : Int) (n : AV) : List AV → List AV
 | .v (.int .i64 k) :: v :: r => if (z == k) = true then .v (.int .i64 k) :: n :: r else .v (.int .i64 k) :: v :: msetI z n r
 | _ => [.v (.int .i64 z), n]
def mokV : List AV → Prop
 | [] => True
 | .v (.string _) :: .v _ :: r => mokV r
 | _ => False
def gOf : AV → AV
 | .v (.agg a) => .g (a.toList.map .v)
 | x => x
def flatV : List AV → Prop
 | [] => True
 | .v _ :: r => flatV r
 | _ => False
def AV.val : AV → Value
 | .v x => x
 | _ => undef
def AV.gl : AV → List AV
 | .g l => l
 | _ => []
def AV.isG : AV → Prop
 | .g _ => True
 | _ => False
section
variable (X : Ctx)
def place (t : TypeId) (f : Nat) : Option (Nat × Nat) :=
 match (X.ti t).d with
 | .struct fs _ => (fs[f]?).map fun p => (p.1, (X.ti p.2).size)
 | .arr n e => if f < n then some (f * (X.ti e).size, (X.ti e).size) else none
 | _ => none
def binI (op : BinOp) (k : IntKind) (x y : Int) : Option AV :=
 match op with
 | .add => some (.v (.int k (k.wrap (x + y))))
 | .sub => some (.v (.int k (k.wrap (x - y))))
 | .mul => some (.v (.int k (k.wrap (x * y))))
 | .quo => some (.v (.int k (k.wrap (x.tdiv y))))
 | .rem => some (.v (.int k (x.tmod y)))
 | .and => some (.v (.int k (k.wrap ((BitVec.ofInt k.bits x &&& BitVec.ofInt k.bits y).toNat : Int))))
 | .or => some (.v (.int k (k.wrap ((BitVec.ofInt k.bits x ||| BitVec.ofInt k.bits y).toNat : Int))))
 | .xor => some (.v (.int k (k.wrap ((BitVec.ofInt k.bits x ^^^ BitVec.ofInt k.bits y).toNat : Int))))
 | .eql => some (.v (.bool (x == y)))
 | .neq => some (.v (.bool (x != y)))
 | .lss => some (.v (.bool (decide (x < y))))
 | .leq => some (.v (.bool (decide (x ≤ y))))
 | .gtr => some (.v (.bool (decide (x > y))))
 | .geq => some (.v (.bool (decide (x ≥ y))))
 | _ => none
def binS (op : BinOp) (x y : AV) (h : Heap) : ARes := match op with
 | .eql => ⟨x.isStr ∧ y.isStr, .v (.bool (x.str == y.str)), h⟩
 | .neq => ⟨x.isStr ∧ y.isStr, .v (.bool (x.str != y.str)), h⟩
 | .add => ⟨x.isStr ∧ y.isStr ∧ x.str.size + y.str.size ≤ 9223372036854775807, .v (.string (x.str ++ y.str)), h⟩
 | _ => ⟨False, .any, h⟩
theorem binS_h (op : BinOp) (x y : AV) (h : Heap) : (binS op x y h).h = h := by cases op <;> rfl
theorem binS_s (op : BinOp) (x y : AV) (h h' : Heap) : (binS op x y h').side = (binS op x y h).side ∧ (binS op x y h').val = (binS op x y h).val := by cases op <;> exact ⟨rfl, rfl⟩
def isDiv : BinOp → Prop
 | .quo | .rem => True
 | _ => False
def heapOp : Op → Bool
 | .alloc _ | .box _ _ | .buildSlice _ _ _ | .store _ _ _ | .makeSlice _ _ _ | .makeMap _ _ | .mapUpdate _ _ _ _ => true
 | .call c => match c.callee with
  | .builtin .append | .builtin .copy => true
  | _ => false
 | _ => false
def aeval (op : Op) (ev : Operand → AV) (h : Heap) (i : Nat) (hp : Heap) : ARes :=
 match op with
 | .move x | .assign x => ⟨True, ev x, h⟩
 | .pick c a b => ⟨(ev c).isB ∧ ((ev c).b = true → (ev a).okb) ∧ ((ev c).b = false → (ev b).okb), .v (.bool (cond (ev c).b (ev a).bb (ev b).bb)), h⟩
 | .alloc t => ⟨(X.ti t).d ≠ .other, .p i 0 0, up h i (some ⟨(X.ti t).zero.map .v, 0, true, (X.ti t).size⟩)⟩
 | .box t x => ⟨(X.ti t).d ≠ .other ∧ (ev x).cells.length = (X.ti t).size ∧ AV.ones (ev x).cells, .p i 0 0, up h i (some ⟨(ev x).cells, 0, true, (X.ti t).size⟩)⟩
 | .build t ps => ⟨(match (X.ti t).d with | .struct _ _ => True | .arr _ _ => True | _ => False) ∧ fillOk (place X t) (X.ti t).size (ps.toList.map fun p => (p.1, ev p.2)), .g (fillC (place X t) ((X.ti t).zero.map .v) (ps.toList.map fun p => (p.1, ev p.2))), h⟩
 | .buildSlice t len ps => match (X.ti t).d with
  | .slice e => ⟨(X.ti e).d ≠ .other ∧ 0 < (X.ti e).size ∧ len * (X.ti e).size ≤ 16777216 ∧ fillOk (fun j => some (j * (X.ti e).size, (X.ti e).size)) (len * (X.ti e).size) (ps.toList.map fun p => (p.1, ev p.2)) ∧ AV.ones (fillC (fun j => some (j * (X.ti e).size, (X.ti e).size)) (repZ (X.ti e).zero len) (ps.toList.map fun p => (p.1, ev p.2))),
    .s i 0 0 len, up h i (some ⟨fillC (fun j => some (j * (X.ti e).size, (X.ti e).size)) (repZ (X.ti e).zero len) (ps.toList.map fun p => (p.1, ev p.2)), 0, true, (X.ti e).size⟩)⟩
  | _ => ⟨False, .any, h⟩
 | .load t a => match (X.ti t).d with
  | .other => ⟨False, .any, h⟩
  | .struct _ _ => ⟨lds X h (ev a) (X.ti t).size, .g (ldcs X h (ev a) 0 (X.ti t).size), h⟩
  | .arr _ _ => ⟨lds X h (ev a) (X.ti t).size, .g (ldcs X h (ev a) 0 (X.ti t).size), h⟩
  | _ => ⟨lds X h (ev a) 1, ldc X h (ev a) 0, h⟩
 | .store t a x => ⟨(X.ti t).d ≠ .other ∧ sts h (ev a) (X.ti t).size ∧ (ev x).cells.length = (X.ti t).size ∧ AV.ones (ev x).cells, .any, sth h (ev a) (ev x).cells⟩
 | .nilCheck x => ⟨(ev x).isPtr, ev x, h⟩
 | .binOp op xt x y _ => match (X.ti xt).d with
  | .int k => match op with
   | .shl => ⟨(ev x).isI k ∧ (ev y).isInt ∧ 0 ≤ (ev y).i, .v (.int k (k.wrap ((ev x).i * 2 ^ min (ev y).i.toNat k.bits))), h⟩
   | .shr => ⟨(ev x).isI k ∧ (ev y).isInt ∧ 0 ≤ (ev y).i, .v (.int k ((ev x).i.fdiv (2 ^ min (ev y).i.toNat k.bits))), h⟩
   | op => match binI op k (ev x).i (ev y).i with
    | some v => ⟨(ev x).isI k ∧ (ev y).isI k ∧ (isDiv op → (ev y).i ≠ 0), v, h⟩
    | none => ⟨False, .any, h⟩
  | .bool => match op with
   | .eql => ⟨(ev x).isB ∧ (ev y).isB, .v (.bool ((ev x).b == (ev y).b)), h⟩
   | .neq => ⟨(ev x).isB ∧ (ev y).isB, .v (.bool (!((ev x).b == (ev y).b))), h⟩
   | _ => ⟨False, .any, h⟩
  | .str => binS op (ev x) (ev y) h
  | .struct _ (some eks) => match op with
   | .eql => ⟨(ev x).isG ∧ (ev y).isG ∧ eksOk eks (ev x).gl ∧ eksOk eks (ev y).gl, .v (.bool (eksEq eks (ev x).gl (ev y).gl)), h⟩
   | .neq => ⟨(ev x).isG ∧ (ev y).isG ∧ eksOk eks (ev x).gl ∧ eksOk eks (ev y).gl, .v (.bool (!(eksEq eks (ev x).gl (ev y).gl))), h⟩
   | _ => ⟨False, .any, h⟩
  | .slice _ => match op with
   | .eql => ⟨(ev x).isN ∧ (ev y).isNl, .v (.bool (ev x).nl), h⟩
   | .neq => ⟨(ev x).isN ∧ (ev y).isNl, .v (.bool (!(ev x).nl)), h⟩
   | _ => ⟨False, .any, h⟩
  | _ => ⟨False, .any, h⟩
 | .unOp op _ x => match op with
  | .not => ⟨(ev x).isB, .v (.bool (!(ev x).b)), h⟩
  | .neg => match ev x with
   | .v (.int k n) => ⟨True, .v (.int k (k.wrap (0 - n))), h⟩
   | _ => ⟨False, .any, h⟩
  | _ => ⟨False, .any, h⟩
 | .convert s d x => match (X.ti s).d, (X.ti d).d with
  | .int _, .int k => ⟨(ev x).isInt, .v (.int k (k.wrap (ev x).i)), h⟩
  | .str, .str => ⟨(ev x).isStr, ev x, h⟩
  | _, _ => ⟨False, .any, h⟩
 | .makeSlice t l c => match (X.ti t).d with
  | .slice e => ⟨(X.ti e).d ≠ .other ∧ 0 < (X.ti e).size ∧ (ev l).isInt ∧ (ev c).isInt ∧ 0 ≤ (ev l).i ∧ (ev l).i ≤ (ev c).i ∧ ((X.ti e).bytes : Int) * (ev c).i ≤ 281474976710656 ∧ (ev c).i ≤ 9223372036854775807,
    .s i 0 0 (ev l).i.toNat, up h i (some ⟨repZ (X.ti e).zero (ev l).i.toNat, 0, true, (X.ti e).size⟩)⟩
  | _ => ⟨False, .any, h⟩
 | .fieldAddr t x f => match (X.ti t).d with
  | .struct fs _ => match fs[f]?, ev x with
   | some (off, ft), .p id ver o => ⟨(X.ti ft).d ≠ .other ∧ (X.ti ft).size ≠ 0, .p id ver (o + off), h⟩
   | some (off, ft), .gp g o => ⟨(X.ti ft).d ≠ .other ∧ (X.ti ft).size ≠ 0, .gp g (o + off), h⟩
   | _, _ => ⟨False, .any, h⟩
  | _ => ⟨False, .any, h⟩
 | .indexAddr t x ix => match (X.ti t).d with
  | .slice e => match ev x with
   | .s id ver off len => ⟨(X.ti e).d ≠ .other ∧ (ev ix).isInt ∧ 0 ≤ (ev ix).i ∧ (ev ix).i < len, .p id ver (off + (ev ix).i.toNat * (X.ti e).size), h⟩
   | _ => ⟨False, .any, h⟩
  | .arr len e => match ev x with
   | .p id ver off => ⟨(X.ti e).d ≠ .other ∧ (ev ix).isInt ∧ 0 ≤ (ev ix).i ∧ (ev ix).i < len, .p id ver (off + (ev ix).i.toNat * (X.ti e).size), h⟩
   | .gp g off => ⟨(X.ti e).d ≠ .other ∧ (ev ix).isInt ∧ 0 ≤ (ev ix).i ∧ (ev ix).i < len, .gp g (off + (ev ix).i.toNat * (X.ti e).size), h⟩
   | _ => ⟨False, .any, h⟩
  | _ => ⟨False, .any, h⟩
 | .extract x j => match ev x with
  | .t l => ⟨j < l.length, l.getD j .any, h⟩
  | _ => ⟨False, .any, h⟩
 | .index t x ix => match (X.ti t).d with
  | .str => ⟨(ev x).isStr ∧ (ev ix).isInt ∧ 0 ≤ (ev ix).i ∧ (ev ix).i < (ev x).str.size, .v (.int .u8 (byteAt (ev x).str (ev ix).i.toNat)), h⟩
  | .arr n e => match (X.ti e).d with
   | .str => ⟨(X.ti e).size = 1 ∧ (ev x).isG ∧ (ev ix).isInt ∧ 0 ≤ (ev ix).i ∧ (ev ix).i < n ∧ (ev ix).i.toNat < (ev x).gl.length, (ev x).gl.getD (ev ix).i.toNat .any, h⟩
   | .int _ => ⟨(X.ti e).size = 1 ∧ (ev x).isG ∧ (ev ix).isInt ∧ 0 ≤ (ev ix).i ∧ (ev ix).i < n ∧ (ev ix).i.toNat < (ev x).gl.length, (ev x).gl.getD (ev ix).i.toNat .any, h⟩
   | _ => ⟨False, .any, h⟩
  | _ => ⟨False, .any, h⟩
 | .slice t x lo hi mx => match (X.ti t).d with
  | .slice e => match mx with
   | some _ => ⟨False, .any, h⟩
   | none =>
    match ev x with
    | .s id ver off n => ⟨optInt ev lo ∧ optInt ev hi ∧ 0 ≤ optI ev 0 lo ∧ optI ev 0 lo ≤ optI ev n hi ∧ optI ev n hi ≤ n ∧ (X.ti e).d ≠ .other ∧ 0 < (X.ti e).size, .s id ver (off + (optI ev 0 lo).toNat * (X.ti e).size) ((optI ev n hi).toNat - (optI ev 0 lo).toNat), h⟩
    | .v (.slice none n c) => ⟨optInt ev lo ∧ optInt ev hi ∧ 0 ≤ optI ev 0 lo ∧ optI ev 0 lo ≤ optI ev 0 hi ∧ optI ev 0 hi ≤ 0 ∧ n = 0 ∧ c = 0 ∧ (X.ti e).d ≠ .other, .v (.slice none 0 0), h⟩
    | _ => ⟨False, .any, h⟩
  | _ => ⟨False, .any, h⟩
 | .call c => match c.callee, c.args.toList, c.argTypes.toList with
  | .builtin .len, [x], [t] => match (X.ti t).d with
   | .slice _ => ⟨(ev x).isS, .v (.int .i64 (ev x).slen), h⟩
   | .str => ⟨(ev x).isStr, .v (.int .i64 (ev x).str.size), h⟩
   | _ => ⟨False, .any, h⟩
  | .builtin .min, [x, y], _ => match ev x, ev y with
   | .v (.int k a), .v (.int _ b) => ⟨True, .v (.int k (if b < a then b else a)), h⟩
   | _, _ => ⟨False, .any, h⟩
  | .builtin .max, [x, y], _ => match ev x, ev y with
   | .v (.int k a), .v (.int _ b) => ⟨True, .v (.int k (if a < b then b else a)), h⟩
   | _, _ => ⟨False, .any, h⟩
  | .builtin .append, [s, x], [t, t'] => match (X.ti t).d with
   | .slice e => match ev s with
    | .s id ver off len => match h id with
     | some k => ⟨t' = t ∧ (X.ti e).d ≠ .other ∧ 0 < (X.ti e).size ∧ (ev x).isS ∧ sls h (ev x) 0 ((ev x).slen * (X.ti e).size) ∧ k.ver = ver ∧ off = 0 ∧ k.rw = true ∧ k.esz = (X.ti e).size ∧ len * (X.ti e).size ≤ k.cells.length ∧ (len + (ev x).slen) * (X.ti e).bytes ≤ 140737488355328 ∧ len + (ev x).slen ≤ 9223372036854775807,
       .s id (ver + 1) 0 (len + (ev x).slen), up h id (some { k with cells := cut (len * (X.ti e).size) k.cells ++ slc h (ev x) 0 ((ev x).slen * (X.ti e).size), ver := ver + 1 })⟩
     | none => ⟨False, .any, h⟩
    | .v (.slice none n c) => ⟨t' = t ∧ n = 0 ∧ c = 0 ∧ (X.ti e).d ≠ .other ∧ 0 < (X.ti e).size ∧ (ev x).isS ∧ sls h (ev x) 0 ((ev x).slen * (X.ti e).size) ∧ (ev x).slen * (X.ti e).bytes ≤ 140737488355328 ∧ (ev x).slen ≤ 9223372036854775807,
      .s i 0 0 (ev x).slen, up h i (some ⟨slc h (ev x) 0 ((ev x).slen * (X.ti e).size), 0, true, (X.ti e).size⟩)⟩
    | _ => ⟨False, .any, h⟩
   | _ => ⟨False, .any, h⟩
  | .builtin .copy, [d, x], [t, t'] => match (X.ti t).d, ev d with
   | .slice e, .s id ver off len => match h id with
    | some k => ⟨t' = t ∧ (X.ti e).d ≠ .other ∧ 0 < (X.ti e).size ∧ (ev x).isS ∧ sls h (ev x) 0 ((ev x).slen * (X.ti e).size) ∧ k.ver = ver ∧ k.rw = true ∧ off + len * (X.ti e).size ≤ k.cells.length,
      .v (.int .i64 (min (ev x).slen len : Nat)), up h id (some { k with cells := wr k.cells off ((slc h (ev x) 0 ((ev x).slen * (X.ti e).size)).take (min (ev x).slen len * (X.ti e).size)) })⟩
    | none => ⟨False, .any, h⟩
   | _, _ => ⟨False, .any, h⟩
  | .value (.func f), as, _ => match X.pf f with
   | some g => ⟨(g (as.map ev) hp).side, (g (as.map ev) hp).val, h⟩
   | none => ⟨False, .any, h⟩
  | _, _, _ => ⟨False, .any, h⟩
 | .makeMap t r => match (X.ti t).d, r with
  | .map, none => ⟨True, .mv i 0, up h i (some ⟨[], 0, true, 0⟩)⟩
  | .mapI, none => ⟨True, .mv i 0, up h i (some ⟨[], 0, true, 0⟩)⟩
  | .mapS _, none => ⟨True, .mv i 0, up h i (some ⟨[], 0, true, 0⟩)⟩
  | .map, some x => ⟨(ev x).isInt, .mv i 0, up h i (some ⟨[], 0, true, 0⟩)⟩
  | .mapI, some x => ⟨(ev x).isInt, .mv i 0, up h i (some ⟨[], 0, true, 0⟩)⟩
  | _, _ => ⟨False, .any, h⟩
 | .lookup t x ix ok => match (X.ti t).d, ev x with
  | .mapS e, .mv id ver => match h id with
   | some k => ⟨k.ver = ver ∧ mokV k.cells ∧ (ev ix).isStr, cond ok (.t [gOf ((mfind (ev ix).str k.cells).getD (.g ((X.ti e).zero.map .v))), .v (.bool (mfind (ev ix).str k.cells).isSome)]) (gOf ((mfind (ev ix).str k.cells).getD (.g ((X.ti e).zero.map .v)))), h⟩
   | none => ⟨False, .any, h⟩
  | .map, .mv id ver => match h id with
   | some k => ⟨k.ver = ver ∧ mok k.cells ∧ (ev ix).isStr, cond ok (.t [(mfind (ev ix).str k.cells).getD (.v (.int .i64 0)), .v (.bool (mfind (ev ix).str k.cells).isSome)]) ((mfind (ev ix).str k.cells).getD (.v (.int .i64 0))), h⟩
   | none => ⟨False, .any, h⟩
  | .mapI, .mv id ver => match h id with
   | some k => ⟨k.ver = ver ∧ mokI k.cells ∧ (ev ix).isI .i64, cond ok (.t [(mfindI (ev ix).i k.cells).getD (.v (.int .i64 0)), .v (.bool (mfindI (ev ix).i k.cells).isSome)]) ((mfindI (ev ix).i k.cells).getD (.v (.int .i64 0))), h⟩
   | none => ⟨False, .any, h⟩
  | _, _ => ⟨False, .any, h⟩
 | .mapUpdate t x ix y => match (X.ti t).d, ev x with
  | .mapS _, .mv id ver => match h id with
   | some k => ⟨k.ver = ver ∧ k.rw = true ∧ mokV k.cells ∧ (ev ix).isStr ∧ (ev y).isG ∧ flatV (ev y).gl, .any, up h id (some { k with cells := mset (ev ix).str (.v (.agg ((ev y).gl.map AV.val).toArray)) k.cells })⟩
   | none => ⟨False, .any, h⟩
  | .map, .mv id ver => match h id with
   | some k => ⟨k.ver = ver ∧ k.rw = true ∧ mok k.cells ∧ (ev ix).isStr ∧ (ev y).isI .i64, .any, up h id (some { k with cells := mset (ev ix).str (.v (.int .i64 (ev y).i)) k.cells })⟩
   | none => ⟨False, .any, h⟩
  | .mapI, .mv id ver => match h id with
   | some k => ⟨k.ver = ver ∧ k.rw = true ∧ mokI k.cells ∧ (ev ix).isI .i64 ∧ (ev y).isI .i64, .any, up h id (some { k with cells := msetI (ev ix).i (.v (.int .i64 (ev y).i)) k.cells })⟩
   | none => ⟨False, .any, h⟩
  | _, _ => ⟨False, .any, h⟩
 | .field t x f => match (X.ti t).d, ev x with
  | .struct fs _, .g l => match fs[f]? with
   | some (off, ft) => match (X.ti ft).d with
    | .other => ⟨False, .any, h⟩
    | .struct _ _ => ⟨off + (X.ti ft).size ≤ l.length, .g ((l.drop off).take (X.ti ft).size), h⟩
    | .arr _ _ => ⟨off + (X.ti ft).size ≤ l.length, .g ((l.drop off).take (X.ti ft).size), h⟩
    | _ => ⟨off < l.length, l.getD off .any, h⟩
   | none => ⟨False, .any, h⟩
  | _, _ => ⟨False, .any, h⟩
 | .makeFunc fn fi ca => ⟨True, .f fn (fi.toList.map ev) (ca.toList.map ev), h⟩
 | _ => ⟨False, .any, h⟩
def two (op : Op) (ev : Operand → AV) (h : Heap) (i : Nat) : Option (ARes × ARes) :=
 match op with
 | .call c => match c.callee, c.args.toList, c.argTypes.toList with
  | .builtin .append, [s, x], [t, t'] => match (X.ti t).d, ev s with
   | .slice e, .s id ver off len => match h id with
    | some k => some (⟨t' = t ∧ (X.ti e).d ≠ .other ∧ 0 < (X.ti e).size ∧ (ev x).isS ∧ sls h (ev x) 0 ((ev x).slen * (X.ti e).size) ∧ k.ver = ver ∧ off = 0 ∧ k.rw = true ∧ k.esz = (X.ti e).size ∧ k.cells.length = len * (X.ti e).size ∧ (len + (ev x).slen) * (X.ti e).bytes ≤ 140737488355328 ∧ len + (ev x).slen ≤ 9223372036854775807,
       .s id ver 0 (len + (ev x).slen), up h id (some { k with cells := k.cells ++ slc h (ev x) 0 ((ev x).slen * (X.ti e).size) })⟩,
      ⟨True, .s i 0 0 (len + (ev x).slen), up h i (some ⟨k.cells ++ slc h (ev x) 0 ((ev x).slen * (X.ti e).size), 0, true, (X.ti e).size⟩)⟩)
    | none => none
   | _, _ => none
  | _, _, _ => none
 | _ => none
end
end Go.Eng

namespace Go.Eng
open Go Go.RowKit
def EqOk (X : Ctx) (t : TypeId) (eks : List EK) : Prop :=
 X.P.eqGuardType X.P.depth t = false ∧ ∀ (ρ : Ren) (w : World) (as bs : List AV) (xs ys : List Value), eksOk eks as → eksOk eks bs → VRs ρ as xs → VRs ρ bs ys →
  (Op.equal t (.agg xs.toArray) (.agg ys.toArray)).run X.P w = .ok (eksEq eks as bs) w
def DescOk (X : Ctx) (t : TypeId) : Prop :=
 match (X.ti t).d with
 | .other => True
 | .int k => X.P.underlying t = some (.int k)
 | .bool => X.P.underlying t = some .bool
 | .str => X.P.underlying t = some .string
 | .ptr => ∃ e, X.P.underlying t = some (.pointer e)
 | .func => ∃ p q b, X.P.underlying t = some (.func p q b)
 | .slice e => X.P.underlying t = some (.slice e)
 | .arr n e => X.P.underlying t = some (.array n e) ∧ ∃ j, X.P.info? e = some j ∧ j.size = (X.ti e).size
 | .struct fs eq => (∃ E, X.P.underlying t = some (.struct E) ∧ E.toList.map (fun f => (f.offset, f.type)) = fs ∧ ∀ f ∈ E.toList, ∃ j, X.P.info? f.type = some j ∧ j.size = (X.ti f.type).size) ∧
   ∀ eks, eq = some eks → EqOk X t eks
 | .map => ∃ kt vt, X.P.underlying t = some (.map kt vt) ∧ X.P.underlying kt = some .string ∧ X.P.underlying vt = some (.int .i64) ∧ ∃ j, X.P.info? vt = some j ∧ j.zero = some (.int .i64 0)
 | .mapI => ∃ kt vt, X.P.underlying t = some (.map kt vt) ∧ X.P.underlying kt = some (.int .i64) ∧ X.P.underlying vt = some (.int .i64) ∧ ∃ j, X.P.info? vt = some j ∧ j.zero = some (.int .i64 0)
 | .mapS e => ∃ kt, X.P.underlying t = some (.map kt e) ∧ X.P.underlying kt = some .string ∧ ∃ j, X.P.info? e = some j ∧ j.zero = some (.agg (X.ti e).zero.toArray)
structure TyOk (X : Ctx) (t : TypeId) : Prop where
 info : ∃ j z, X.P.info? t = some j ∧ j.size = (X.ti t).size ∧ j.bytes = (X.ti t).bytes ∧ j.zero = some z ∧ z.cells.toList = (X.ti t).zero
 zlen : (X.ti t).zero.length = (X.ti t).size
 zone : ∀ x ∈ (X.ti t).zero, x.oneCell' = true
 desc : DescOk X t
def PureOk (X : Ctx) (f : FuncId) (g : List AV → Heap → PRes) : Prop :=
 (∀ args h h', (∀ i k, h i = some k → h' i = some k) → (g args h).side → (g args h').side ∧ (g args h').val = (g args h).val) ∧
 (((∀ args w, (callFunc f args).run X.P w = .ok (.enter f args) w) ∧
   ∀ ρ h w (args : List AV) (vs : List Value), RoRel X ρ h w → (∃ m, ∀ j, m ≤ j → (∀ ver, ρ j ver = none) ∧ h j = none) → VRs ρ args vs → (g args h).side →
   Calls X.P f vs.toArray w fun e w' => ∃ y, e = .returned y ∧ VR ρ (g args h).val y ∧ Below w.heap.size w w') ∨
  ∀ ρ h w (args : List AV) (vs : List Value), VRs ρ args vs → (g args h).side → ∃ y, (callFunc f vs.toArray).run X.P w = .ok (.value y) w ∧ VR ρ (g args h).val y)
structure Ok (X : Ctx) : Prop where
 ty : ∀ t, (X.ti t).d ≠ .other → TyOk X t
 pf : ∀ f g, X.pf f = some g → PureOk X f g
def Out (X : Ctx) (K : Nat → Prop) (w0 : World) (ρ : Ren) (F : Nat → Prop) (i : Nat) (hb : Bool) (s : Sem Next) (w : World) (z : ARes) : Prop :=
 ∃ nx w' ρ', s.run X.P w = .ok nx w' ∧ ρ.le ρ' ∧ Rel X K w0 ρ' (fun j => F j ∧ (hb = true → j ≠ i)) z.h w' ∧ ((∃ y, nx = .value y ∧ VR ρ' z.val y) ∨ (nx = .skip ∧ VR ρ' z.val undef))
section
variable {X : Ctx} {K : Nat → Prop} {w0 : World} {ρ : Ren} {F : Nat → Prop} {h : Heap} {w : World} {i : Nat} {hb : Bool}
theorem Out.pure {s : Sem Next} {z : ARes} {y : Value} (r : Rel X K w0 ρ F h w) (hr : s.run X.P w = .ok (.value y) w) (hz : z.h = h) (hy : VR ρ z.val y) : Out X K w0 ρ F i hb s w z :=
 ⟨_, w, ρ, hr, Ren.le_refl ρ, by rw [hz]; exact r.anti fun _ hj => hj.1, .inl ⟨y, rfl, hy⟩⟩
theorem Out.skip {s : Sem Next} {z : ARes} {w' : World} (hr : s.run X.P w = .ok .skip w') (hR : Rel X K w0 ρ F z.h w') (hv : VR ρ z.val undef) : Out X K w0 ρ F i hb s w z :=
 ⟨_, w', ρ, hr, Ren.le_refl ρ, hR.anti fun _ hj => hj.1, .inr ⟨rfl, hv⟩⟩
theorem ones_mem : ∀ {l : List AV}, AV.ones l → ∀ a ∈ l, a.one
 | [], _, a, h => by simp at h
 | b :: l, h, a, hm => by
  simp only [AV.ones] at h
  rcases List.mem_cons.1 hm with rfl | hm
  ·exact h.1
  ·exact ones_mem h.2 a hm
theorem VR.one {a : AV} {y : Value} (h : VR ρ a y) (k : a.one) : y.oneCell' = true := by
 cases a <;> simp only [AV.one] at k <;> simp only [VR] at h
 ·rw [h]; exact k
 ·rw [h]; rfl
 ·obtain ⟨_, _, _, _, rfl⟩ := h; rfl
 ·obtain ⟨_, _, _, _, _, _, _, _, _, rfl⟩ := h; rfl
 ·obtain ⟨_, _, rfl, _⟩ := h; rfl
 ·obtain ⟨_, _, rfl⟩ := h; rfl
 ·obtain ⟨_, _, rfl⟩ := h; rfl
theorem isB_out {a : AV} {y : Value} (h : VR ρ a y) (k : a.isB) : y = .bool a.b := by
 unfold AV.isB at k
 split at k
 ·simpa [VR, AV.b] using h
 ·exact k.elim
theorem isN_out {a : AV} {y : Value} (h : VR ρ a y) (k : a.isN) : ∃ q n c, y = .slice q n c ∧ q.isNone = a.nl := by
 unfold AV.isN at k
 split at k
 ·simp only [VR] at h
  exact ⟨_, _, _, h, rfl⟩
 ·simp only [VR] at h
  obtain ⟨q, c, c', o, _, _, _, _, h5, h6⟩ := h
  refine ⟨_, _, _, h6, ?_⟩
  cases q with
  | none => have := (h5 rfl).1; omega
  | some q => rfl
 ·exact k.elim
theorem isNl_out {a : AV} {y : Value} (h : VR ρ a y) (k : a.isNl) : ∃ n c, y = .slice none n c := by
 unfold AV.isNl at k
 split at k
 ·simp only [VR] at h
  exact ⟨_, _, h⟩
 ·exact k.elim
theorem isI_out {k : IntKind} {a : AV} {y : Value} (h : VR ρ a y) (hk : a.isI k) : y = .int k a.i := by
 unfold AV.isI at hk
 split at hk
 ·subst hk; simpa [VR, AV.i] using h
 ·exact hk.elim
theorem isInt_out {a : AV} {y : Value} (h : VR ρ a y) (hk : a.isInt) : ∃ k, y = .int k a.i := by
 unfold AV.isInt at hk
 split at hk
 ·exact ⟨_, by simpa [VR, AV.i] using h⟩
 ·exact hk.elim
theorem isStr_out {a : AV} {y : Value} (h : VR ρ a y) (k : a.isStr) : y = .string a.str := by
 unfold AV.isStr at k
 split at k
 ·simpa [VR, AV.str] using h
 ·exact k.elim
theorem okb_out {a : AV} {y : Value} (h : VR ρ a y) (k : a.okb) : y = .bool a.bb := by
 cases a with
 | c b x =>
  simp only [AV.okb] at k
  simp only [VR] at h
  exact isB_out (h.1 k.1) k.2
 | _ => exact isB_out h k
theorem okg_out {a : AV} {y : Value} (h : VR ρ a y) (k : a.okg) (want : Bool) : (∃ b, y = .bool b ∧ a.gd want = (b == want)) ∨ (y = undef ∧ a.gd want = false) := by
 cases a with
 | c b x =>
  simp only [AV.okg] at k
  simp only [VR] at h
  cases b with
  | false => exact .inr ⟨h.2 rfl, rfl⟩
  | true => exact .inl ⟨_, isB_out (h.1 rfl) (k rfl), by simp [AV.gd]⟩
 | _ => exact .inl ⟨_, isB_out h k, by simp [AV.gd]⟩
theorem cells_out {a : AV} {y : Value} (h : VR ρ a y) (k : AV.ones a.cells) : VRs ρ a.cells y.cells.toList := by
 cases a with
 | g l =>
  simp only [VR] at h
  obtain ⟨ys, rfl, h2⟩ := h
  simpa [Value.cells, AV.cells] using h2
 | _ =>
  have h1 := VR.one h (by simpa [AV.cells, AV.ones] using k)
  simp only [AV.cells, VRs]
  refine ⟨y, [], ?_, h, rfl⟩
  cases y <;> simp_all [Value.cells, Value.oneCell']
theorem vs_map : ∀ (l : List Value), VRs ρ (l.map .v) l
 | [] => by simp [VRs]
 | a :: l => by simp only [List.map_cons, VRs, VR]; exact ⟨a, l, rfl, rfl, vs_map l⟩
theorem Rel.newRow (r : Rel X K w0 ρ F h w) (hi : F i) {cs : List AV} {ys : List Value} {esz cap : Nat} (el : TypeId) (hys : VRs ρ cs ys) (h1 : ∀ y ∈ ys, y.oneCell' = true) (rest : List Value) (hsz : (ys ++ rest).length = cap * esz) (n : Nat) :
  ∃ ρ' : Ren, ρ.le ρ' ∧ ρ' i 0 = some (some (w.heap.size, 0), cap) ∧ Rel X K w0 ρ' (fun j => F j ∧ j ≠ i) (up h i (some ⟨cs, 0, true, esz⟩)) { w with heap := w.heap.push (.cells (ys ++ rest).toArray el), drawn := n } := by
 obtain ⟨ρ', e1, e2, _, e4⟩ := Rel.new (w' := { w with heap := w.heap.push (.cells (ys ++ rest).toArray el), drawn := n }) r hi (k := ⟨cs, 0, true, esz⟩) (arr := (ys ++ rest).toArray) (el := el) (cap := cap) rfl (by simpa using hsz) (fun j c hc => by
  obtain ⟨y, g1, g2⟩ := hys.get j c hc
  have hlt : j < ys.length := by
   by_cases hj : j < ys.length
   ·exact hj
   ·rw [List.getElem?_eq_none (by omega)] at g1; cases g1
  refine ⟨y, ?_, g2, h1 y (List.mem_of_getElem? g1)⟩
  simp only [List.getElem?_toArray]
  rw [List.getElem?_append_left hlt]
  exact g1) rfl rfl rfl rfl
 exact ⟨ρ', e1, e2, e4⟩
theorem lds_cells (r : Rel X K w0 ρ F h w) {a : AV} {n : Nat} (hs : lds X h a n) {y : Value} (hy : VR ρ a y) :
  ∃ b o, y = .pointer (some ⟨b, o, none⟩) ∧ ∀ j, j < n → ∃ u, w.cell? ⟨b, o + j, none⟩ = some u ∧ VR ρ (ldc X h a j) u := by
 cases a with
 | p id ver off =>
  simp only [VR] at hy
  obtain ⟨b, base, c, hp, rfl⟩ := hy
  simp only [lds] at hs
  cases hk : h id with
  | none => simp [hk] at hs
  | some k =>
   simp only [hk] at hs
   obtain ⟨rfl, hlen⟩ := hs
   refine ⟨b, base + off, rfl, fun j hj => ?_⟩
   rcases r.blk id k hk with ⟨b', base', cap', arr, el, fr, g1, g2, _, g4⟩ | ⟨g1, _⟩ | ⟨_, _, _, g1, _⟩
   ·rw [hp] at g1
    cases g1
    have hjl : off + j < k.cells.length := by omega
    obtain ⟨u, u1, u2, _⟩ := g4 (off + j) k.cells[off + j] (List.getElem?_eq_getElem hjl)
    refine ⟨u, ?_, ?_⟩
    ·simp only [World.cell?, g2]
     simpa [Nat.add_assoc] using u1
    ·simp only [ldc, hk]
     rw [List.getD_eq_getElem?_getD, List.getElem?_eq_getElem hjl]
     exact u2
   ·rw [hp] at g1; cases g1
   ·rw [hp] at g1; cases g1
 | gp g off =>
  simp only [VR] at hy
  subst hy
  simp only [lds] at hs
  cases hk : X.G g with
  | none => simp [hk] at hs
  | some cs =>
   simp only [hk] at hs
   refine ⟨g, off, rfl, fun j hj => ?_⟩
   obtain ⟨_, arr, el, fr, g2, g3⟩ := r.glob g cs hk
   have hjl : off + j < cs.length := by omega
   have := glob_at g3 (off + j) cs[off + j] (List.getElem?_eq_getElem hjl)
   refine ⟨cs[off + j], ?_, ?_⟩
   ·simp only [World.cell?, g2]
    simpa using this
   ·simp only [ldc, hk]
    rw [List.getD_eq_getElem?_getD, List.getElem?_eq_getElem hjl]
    simp [VR]
 | _ => simp [lds] at hs
theorem ldcs_length (a : AV) : ∀ (n i : Nat), (ldcs X h a i n).length = n
 | 0, _ => rfl
 | n + 1, i => by simp [ldcs, ldcs_length a n]
theorem ldcs_get (a : AV) : ∀ (n i j : Nat), j < n → (ldcs X h a i n)[j]? = some (ldc X h a (i + j))
 | 0, _, _, hj => by omega
 | n + 1, i, 0, _ => by simp [ldcs]
 | n + 1, i, j + 1, hj => by
  simp only [ldcs, List.getElem?_cons_succ]
  rw [ldcs_get a n (i + 1) j (by omega)]
  congr 2
  omega
theorem isAgg_true {t : TypeId} {d : TypeDesc} (hu : X.P.underlying t = some d) (hd : TypeDesc.isRow d = true) : (isAgg t).run X.P w = .ok true w := by
 unfold isAgg
 rw [Sem.run_bind, run_underlying hu w]
 cases d <;> simp_all
theorem isAgg_false {t : TypeId} {d : TypeDesc} (hu : X.P.underlying t = some d) (hd : TypeDesc.isRow d = false) : (isAgg t).run X.P w = .ok false w := by
 unfold isAgg
 rw [Sem.run_bind, run_underlying hu w]
 cases d <;> simp_all
theorem run_sizeOf {t : TypeId} {j : TypeInfo} (hj : X.P.info? t = some j) : (sizeOf t).run X.P w = .ok j.size w := by simp [sizeOf, typeInfo, hj]
theorem load_agg (r : Rel X K w0 ρ F h w) {t : TypeId} (ht : TyOk X t) {d : TypeDesc} (hu : X.P.underlying t = some d) (hd : TypeDesc.isRow d = true) {a : AV} {y : Value} (hy : VR ρ a y) (hs : lds X h a (X.ti t).size) :
  ∃ b u, y = .pointer (some b) ∧ (loadVar t b).run X.P w = .ok u w ∧ VR ρ (.g (ldcs X h a 0 (X.ti t).size)) u := by
 obtain ⟨b, o, rfl, hc⟩ := lds_cells r hs hy
 obtain ⟨j, z, hj, hsz, _, _, _⟩ := ht.info
 have hch : ∀ m : Nat, ∃ u, m < (X.ti t).size → w.cell? ⟨b, o + m, none⟩ = some u ∧ VR ρ (ldc X h a m) u := fun m => by
  by_cases hm : m < (X.ti t).size
  ·obtain ⟨u, hu1⟩ := hc m hm; exact ⟨u, fun _ => hu1⟩
  ·exact ⟨undef, fun hm' => absurd hm' hm⟩
 obtain ⟨fu, hfu⟩ := Classical.axiomOfChoice hch
 have hrun := run_loadVar_mid (P := X.P) w b o t ((List.range (X.ti t).size).map fu) d (fun m v hv => by
  have hm : m < (X.ti t).size := by
   by_cases hm : m < (X.ti t).size
   ·exact hm
   ·rw [List.getElem?_eq_none (by simp; omega)] at hv; cases hv
  rw [List.getElem?_map, List.getElem?_range hm] at hv
  simp at hv
  rw [← hv]
  exact (hfu m hm).1) hu hd (by rw [hj]; simp [hsz])
 refine ⟨_, _, rfl, hrun, ?_⟩
 simp only [VR]
 refine ⟨_, rfl, VRs.mk (by simp [ldcs_length]) fun m c u hm1 hm2 => ?_⟩
 have hm : m < (X.ti t).size := by
  by_cases hm : m < (X.ti t).size
  ·exact hm
  ·rw [List.getElem?_eq_none (by rw [ldcs_length]; omega)] at hm1; cases hm1
 rw [ldcs_get a _ 0 m hm] at hm1
 rw [List.getElem?_map, List.getElem?_range hm] at hm2
 simp at hm1 hm2
 subst hm1 hm2
 exact (hfu m hm).2
theorem load_one (r : Rel X K w0 ρ F h w) {t : TypeId} {d : TypeDesc} (hu : X.P.underlying t = some d) (hd : TypeDesc.isRow d = false) {a : AV} {y : Value} (hy : VR ρ a y) (hs : lds X h a 1) :
  ∃ b u, y = .pointer (some b) ∧ (loadVar t b).run X.P w = .ok u w ∧ VR ρ (ldc X h a 0) u := by
 obtain ⟨b, o, rfl, hc⟩ := lds_cells r hs hy
 obtain ⟨u, u1, u2⟩ := hc 0 (by omega)
 simp only [Nat.add_zero] at u1
 exact ⟨_, u, rfl, by simp [loadVar, isAgg_false hu hd, u1], u2⟩
theorem snd_load_agg (r : Rel X K w0 ρ F h w) {t : TypeId} (ht : TyOk X t) {d : TypeDesc} (hu : X.P.underlying t = some d) (hd : TypeDesc.isRow d = true) {a : AV} {y : Value} (hy : VR ρ a y) (hs : lds X h a (X.ti t).size) :
  Out X K w0 ρ F i hb (do pure (.value (← Instr.loadAt t y))) w ⟨lds X h a (X.ti t).size, .g (ldcs X h a 0 (X.ti t).size), h⟩ := by
 obtain ⟨b, u, rfl, h1, h2⟩ := load_agg r ht hu hd hy hs
 exact Out.pure (y := u) r (by simp [Instr.loadAt, Instr.sureAddr, h1]) rfl h2
theorem snd_load_one (r : Rel X K w0 ρ F h w) {t : TypeId} {d : TypeDesc} (hu : X.P.underlying t = some d) (hd : TypeDesc.isRow d = false) {a : AV} {y : Value} (hy : VR ρ a y) (hs : lds X h a 1) :
  Out X K w0 ρ F i hb (do pure (.value (← Instr.loadAt t y))) w ⟨lds X h a 1, ldc X h a 0, h⟩ := by
 obtain ⟨b, u, rfl, h1, h2⟩ := load_one r hu hd hy hs
 exact Out.pure (y := u) r (by simp [Instr.loadAt, Instr.sureAddr, h1]) rfl h2
theorem wr_length {α : Type} : ∀ (cs l : List α) (o : Nat), (wr l o cs).length = l.length
 | [], _, _ => rfl
 | _ :: r, l, o => by simp [wr, wr_length r]
theorem wr_get {α : Type} : ∀ (cs l : List α) (o j : Nat), o + cs.length ≤ l.length → (wr l o cs)[j]? = if o ≤ j ∧ j < o + cs.length then cs[j - o]? else l[j]?
 | [], l, o, j, _ => by simp [wr]; omega
 | c :: r, l, o, j, hl => by
  simp only [wr, List.length_cons] at hl ⊢
  rw [wr_get r (l.set o c) (o + 1) j (by rw [List.length_set]; omega)]
  by_cases h1 : j = o
  ·subst h1
   rw [if_neg (by omega), if_pos (by omega), List.getElem?_set_self (by omega)]
   simp
  ·by_cases h2 : o + 1 ≤ j ∧ j < o + 1 + r.length
   ·rw [if_pos h2, if_pos (by omega)]
    obtain ⟨m, rfl⟩ : ∃ m, j = o + 1 + m := ⟨j - o - 1, by omega⟩
    rw [show o + 1 + m - o = m + 1 by omega, show o + 1 + m - (o + 1) = m by omega]
    simp
   ·rw [if_neg h2, if_neg (by omega)]
    rw [List.getElem?_set_ne (by omega)]
theorem snd_store (r : Rel X K w0 ρ F h w) {t : TypeId} (ht : TyOk X t) {a x : AV} {y u : Value} (hy : VR ρ a y) (hu : VR ρ x u) (hs : sts h a (X.ti t).size) (hl : x.cells.length = (X.ti t).size) (ho : AV.ones x.cells) (sd : Prop) :
  Out X K w0 ρ F i hb (do Instr.storeAt t y u; pure .skip) w ⟨sd, .any, sth h a x.cells⟩ := by
 obtain ⟨j, z, hj, hsz, _, _, _⟩ := ht.info
 have hc := cells_out hu ho
 have hcl : u.cells.size = j.size := by have := hc.length; rw [Array.length_toList] at this; omega
 have hone : ∀ v ∈ u.cells.toList, v.oneCell' = true := fun v hv => by
  obtain ⟨m, hm⟩ := List.getElem?_of_mem hv
  have hml : m < x.cells.length := by
   have := hc.length
   by_cases hq : m < x.cells.length
   ·exact hq
   ·rw [List.getElem?_eq_none (by omega)] at hm; cases hm
  obtain ⟨v', g1, g2⟩ := hc.get m _ (List.getElem?_eq_getElem hml)
  rw [hm] at g1
  cases g1
  exact VR.one g2 (ones_mem ho _ (List.getElem_mem hml))
 cases a with
 | p id ver off =>
  simp only [VR] at hy
  obtain ⟨b, base, c, hp, rfl⟩ := hy
  simp only [sts] at hs
  cases hk : h id with
  | none => simp [hk] at hs
  | some k =>
   simp only [hk] at hs
   obtain ⟨rfl, hrw, hlen⟩ := hs
   rcases r.blk id k hk with ⟨b', base', cap', arr, el, fr, g1, g2, g3, g4⟩ | ⟨g1, _⟩ | ⟨_, _, _, g1, _⟩
   ·rw [hp] at g1
    cases g1
    obtain ⟨rfl, rfl, harr⟩ := g3 hrw
    have hka : k.cells.length ≤ arr.size := by
     by_cases hq : k.cells.length ≤ arr.size
     ·exact hq
     ·obtain ⟨v, v1, _⟩ := g4 arr.size _ (List.getElem?_eq_getElem (by omega))
      simp at v1
    have hfit : off + 0 + u.cells.toList.length ≤ arr.size := by rw [Array.length_toList]; omega
    have hst := run_storeCells_at X.P b off el u.cells.toList 0 arr w g2 hfit hone
    simp only [Nat.add_zero] at hst
    refine Out.skip (w' := w.setRow b (arr.toList.take off ++ u.cells.toList ++ arr.toList.drop (off + u.cells.toList.length)).toArray) ?_ ?_ (by simp [VR])
    ·simp only [Instr.storeAt, Instr.sureAddr, storeVar, Sem.run_bind, Sem.run_pure, Result.andThen_ok, Nat.zero_add]
     rw [run_sizeOf hj]
     simp [hcl, hst]
    ·simp only [sth, hk]
     refine Rel.set r hk hrw hp g2 rfl hrw (arr' := (arr.toList.take off ++ u.cells.toList ++ arr.toList.drop (off + u.cells.toList.length)).toArray) ?_ ?_ (setRow_heap w b arr _ el _ g2) (fun m hm => setRow_other w b m _ hm) ?_ rfl rfl rfl
     ·have hul : u.cells.toList.length = x.cells.length := hc.length
      simp only [List.size_toArray, List.length_append, List.length_take, List.length_drop, Array.length_toList] at hul ⊢
      rw [← harr]
      omega
     ·intro m cc hm
      rw [wr_get _ _ _ _ (by omega)] at hm
      have hul : u.cells.toList.length = x.cells.length := hc.length
      simp only [List.getElem?_toArray]
      by_cases h1 : m < off
      ·rw [if_neg (by omega)] at hm
       obtain ⟨v, v1, v2, v3⟩ := g4 m cc hm
       refine ⟨v, ?_, v2, v3⟩
       rw [List.append_assoc, List.getElem?_append_left (by simp; omega), List.getElem?_take_of_lt h1]
       simpa using v1
      ·by_cases h2 : m < off + x.cells.length
       ·rw [if_pos (by omega)] at hm
        obtain ⟨v, v1, v2⟩ := hc.get _ _ hm
        refine ⟨v, ?_, v2, hone v (List.mem_of_getElem? v1)⟩
        rw [List.append_assoc, List.getElem?_append_right (by simp; omega), List.getElem?_append_left (by simp at hul ⊢; omega)]
        rw [← v1]
        congr 1
        simp
        omega
       ·rw [if_neg (by omega)] at hm
        obtain ⟨v, v1, v2, v3⟩ := g4 m cc hm
        refine ⟨v, ?_, v2, v3⟩
        have hoa : off ≤ arr.size := by omega
        rw [List.getElem?_append_right (by simp at hul ⊢; omega), List.getElem?_drop]
        rw [← v1]
        simp only [Nat.zero_add, List.length_append, List.length_take, Array.length_toList, hul, Array.getElem?_toList] at hul ⊢
        congr 1
        omega
     ·simp [World.setRow]
   ·rw [hp] at g1; cases g1
   ·rw [hp] at g1; cases g1
 | _ => simp [sts] at hs
end
end Go.Eng
