import Derived.Below
import Derived.Calls
import Derived.Tactics
import Derived.Laws.AppendOwn
import Derived.Laws.CopyRow
import Derived.Laws.MakeOwn
import Derived.Deep.MidRow
import Derived.Laws.Entries
import Derived.Laws.Small
set_option linter.unusedSimpArgs false
set_option linter.unusedVariables false
set_option linter.constructorNameAsVariable false
set_option maxRecDepth 100000
set_option maxHeartbeats 4000000
namespace Go.Eng
theorem zA:type_of% @List.getElem?_eq_getElem:=@List.getElem?_eq_getElem
theorem zB:type_of% @List.getD_eq_getElem?_getD:=@List.getD_eq_getElem?_getD
theorem zC:type_of% @Nat.le_refl:=@Nat.le_refl
theorem zG:type_of% @List.getElem?_eq_none:=@List.getElem?_eq_none
theorem zH:type_of% @List.getElem_mem:=@List.getElem_mem
theorem zK:type_of% @Option.map_some:=@Option.map_some
theorem zL:type_of% @List.getElem?_append_left:=@List.getElem?_append_left
theorem zM:type_of% @List.length_append:=@List.length_append
theorem zO:type_of% @Bool.and_eq_true:=@Bool.and_eq_true
theorem zQ:type_of% @List.length_map:=@List.length_map
theorem zR:type_of% @List.all_eq_true:=@List.all_eq_true
theorem zT:type_of% @Option.bind_some:=@Option.bind_some
theorem zU:type_of% @List.eq_nil_of_length_eq_zero:=@List.eq_nil_of_length_eq_zero
theorem zV:type_of% @Option.map_eq_some_iff:=@Option.map_eq_some_iff
theorem zW:type_of% @List.length_take:=@List.length_take
theorem zX:type_of% @List.length_eq_zero_iff:=@List.length_eq_zero_iff
theorem zY:type_of% @List.getElem?_take_of_lt:=@List.getElem?_take_of_lt
theorem yA:type_of% @List.not_mem_nil:=@List.not_mem_nil
theorem yB:type_of% @List.getElem?_eq_some_iff:=@List.getElem?_eq_some_iff
theorem yD:type_of% @List.mem_cons:=@List.mem_cons
theorem yE:type_of% @List.map_append:=@List.map_append
theorem yF:type_of% @Int.toNat_natCast:=@Int.toNat_natCast
theorem yG:type_of% @List.getElem?_append_right:=@List.getElem?_append_right
theorem yL:type_of% @Nat.add_zero:=@Nat.add_zero
theorem yO:type_of% @Bool.false_eq_true:=@Bool.false_eq_true
theorem yQ:type_of% @Nat.zero_add:=@Nat.zero_add
theorem yS:type_of% @List.length_drop:=@List.length_drop
theorem yU:type_of% @Nat.mul_le_mul_right:=@Nat.mul_le_mul_right
theorem yX:type_of% @List.take_of_length_le:=@List.take_of_length_le
theorem yY:type_of% @List.take_succ_eq_append_getElem:=@List.take_succ_eq_append_getElem
theorem xA:type_of% @List.getElem?_drop:=@List.getElem?_drop
theorem xC:type_of% @Array.getElem?_toList:=@Array.getElem?_toList
theorem xD:type_of% @Nat.add_assoc:=@Nat.add_assoc
theorem xE:type_of% @Option.bind_eq_some_iff:=@Option.bind_eq_some_iff
theorem xF:type_of% @List.mem_iff_getElem:=@List.mem_iff_getElem
theorem xG:type_of% @List.getElem?_map:=@List.getElem?_map
theorem xL:type_of% @Nat.le_trans:=@Nat.le_trans
theorem xM:type_of% @Nat.mul_one:=@Nat.mul_one
theorem xN:type_of% @Array.length_toList:=@Array.length_toList
theorem xO:type_of% @List.drop_eq_getElem_cons:=@List.drop_eq_getElem_cons
theorem xT:type_of% @List.append_assoc:=@List.append_assoc
theorem xU:type_of% @List.mem_map:=@List.mem_map
theorem xW:type_of% @List.mem_of_getElem?:=@List.mem_of_getElem?
theorem xZ:type_of% @List.flatMap_cons:=@List.flatMap_cons
theorem wB:type_of% @List.mem_append:=@List.mem_append
theorem wC:type_of% @Nat.succ_mul:=@Nat.succ_mul
theorem wE:type_of% @List.map_cons:=@List.map_cons
theorem wK:type_of% @Array.getElem?_eq_none:=@Array.getElem?_eq_none
theorem wM:type_of% @Option.getD_some:=@Option.getD_some
theorem wN:type_of% @List.getElem_map:=@List.getElem_map
theorem wO:type_of% @Array.getD_eq_getD_getElem?:=@Array.getD_eq_getD_getElem?
theorem wS:type_of% @List.length_filter_le:=@List.length_filter_le
theorem wW:type_of% @List.take_length:=@List.take_length
theorem zAb:type_of% @List.take_append_drop:=@List.take_append_drop
theorem zAc:type_of% @List.length_nil:=@List.length_nil
theorem zAi:type_of% @List.getElem?_set_ne:=@List.getElem?_set_ne
theorem zAm:type_of% @List.mem_range:=@List.mem_range
theorem zA7:type_of% @List.any_eq_true:=@List.any_eq_true
theorem zBo:type_of% @List.mem_filter:=@List.mem_filter
theorem zBp:type_of% @List.length_set:=@List.length_set
theorem zBq:type_of% @List.getElem?_toArray:=@List.getElem?_toArray
theorem zBw:type_of% @List.take_append_of_le_length:=@List.take_append_of_le_length
theorem zB5:type_of% @List.map_congr_left:=@List.map_congr_left
theorem zB7:type_of% @List.getElem?_set_self:=@List.getElem?_set_self
theorem zCe:type_of% @Array.getElem?_eq_some_iff:=@Array.getElem?_eq_some_iff
theorem zCf:type_of% @List.set_append_right:=@List.set_append_right
theorem zCg:type_of% @List.getElem?_take:=@List.getElem?_take
theorem zCh:type_of% @List.filter_append:=@List.filter_append
theorem zCi:type_of% @Bool.true_and:=@Bool.true_and
theorem zCo:type_of% @List.mem_append_left:=@List.mem_append_left
theorem zCr:type_of% @List.size_toArray:=@List.size_toArray
theorem zCs:type_of% @List.range_succ:=@List.range_succ
theorem zC7:type_of% @Nat.sub_self:=@Nat.sub_self
theorem zDg:type_of% @Nat.zero_le:=@Nat.zero_le
theorem zDh:type_of% @List.getElem?_range:=@List.getElem?_range
theorem zDp:type_of% @List.drop_drop:=@List.drop_drop
theorem zDt:type_of% @List.findIdx_lt_length:=@List.findIdx_lt_length
theorem zDv:type_of% @Option.isSome_some:=@Option.isSome_some
theorem zDw:type_of% @Nat.add_sub_cancel:=@Nat.add_sub_cancel
theorem zDx:type_of% @List.mem_zipIdx_iff_getElem?:=@List.mem_zipIdx_iff_getElem?
theorem zDy:type_of% @List.mem_singleton:=@List.mem_singleton
theorem zEd:type_of% @Nat.zero_mul:=@Nat.zero_mul
theorem zEo:type_of% @List.take_add_one:=@List.take_add_one
theorem zEp:type_of% @List.ext_getElem?:=@List.ext_getElem?
theorem zE5:type_of% @List.getElem?_of_mem:=@List.getElem?_of_mem
end Go.Eng
namespace Go.Eng
open Go Go.RowKit
abbrev zRu:=Option (Nat×Nat)×Nat
abbrev Ren:=Nat→Nat→Option zRu
inductive AV where
 | any
 | v (x:Value)
 | gp (g off:Nat)
 | p (id ver off:Nat)
 | s (id ver off len:Nat)
 | g (l:List AV)
 | t (l:List AV)
 | f (fn:Fn) (fi ca:List AV)
 | c (b:Bool) (x:AV)
 | e
 | mv (id ver:Nat)
mutual
def VR (ρ:Ren):AV→Value→Prop
 | .any,_=>True
 | .v x,y=>y=x
 | .gp g off,y=>y=.pointer (some ⟨g,off,none⟩)
 | .p id ver off,y=>∃b base c,ρ id ver=some (some (b,base),c)∧y=.pointer (some ⟨b,base+off,none⟩)
 | .s id ver off len,y=>∃a c c' off',ρ id ver=some (a,c)∧len≤c'∧(off=0→c'=c)∧((0<len∨off=0)→off'=off)∧(a=none→len=0∧c=0)∧y=.slice (a.map fun q=>⟨q.1,q.2+off',none⟩) len c'
 | .g l,y=>∃ys:List Value,y=.agg ys.toArray∧VRs ρ l ys
 | .t l,y=>∃ys:List Value,y=.tuple ys.toArray∧VRs ρ l ys
 | .f fn fi ca,y=>∃xs zs:List Value,y=.func fn xs.toArray zs.toArray∧VRs ρ fi xs∧VRs ρ ca zs
 | .c b x,y=>(b=true→VR ρ x y)∧(b=false→y=undef)
 | .e,y=>∃b c,y=.slice b 0 c
 | .mv id ver,y=>∃b,ρ id ver=some (none,b+1)∧y=.map (some b)
def VRs (ρ:Ren):List AV→List Value→Prop
 | [],ys=>ys=[]
 | a::as,ys=>∃y rest,ys=y::rest∧VR ρ a y∧VRs ρ as rest
end
def Ren.le (ρ ρ':Ren):Prop:=∀id ver x,ρ id ver=some x→ρ' id ver=some x
theorem Ren.le_refl (ρ:Ren):ρ.le ρ:=fun _ _ _ h=>h
theorem Ren.le_trans {a b c:Ren} (h:a.le b) (k:b.le c):a.le c:=fun i v x e=>k i v x (h i v x e)
mutual
theorem VR.mono {ρ ρ':Ren} (h:ρ.le ρ'):∀(a:AV) (y:Value),VR ρ a y→VR ρ' a y
 | .any,_,_=>by simp[VR]
 | .v _,_,e=>by simpa[VR]using e
 | .gp _ _,_,e=>by simpa[VR]using e
 | .p _ _ _,_,e=>by
  simp only[VR]at e ⊢;obtain⟨b,base,c,e1,e2⟩:=e;exact⟨b,base,c,h _ _ _ e1,e2⟩
 | .s _ _ _ _,_,e=>by
  simp only[VR]at e ⊢;obtain⟨a,c,c',o',e1,e2⟩:=e;exact⟨a,c,c',o',h _ _ _ e1,e2⟩
 | .g l,_,e=>by
  simp only[VR]at e ⊢;obtain⟨ys,e1,e2⟩:=e;exact⟨ys,e1,VRs.mono h l ys e2⟩
 | .t l,_,e=>by
  simp only[VR]at e ⊢;obtain⟨ys,e1,e2⟩:=e;exact⟨ys,e1,VRs.mono h l ys e2⟩
 | .f _ fi ca,_,e=>by
  simp only[VR]at e ⊢;obtain⟨xs,zs,e1,e2,e3⟩:=e;exact⟨xs,zs,e1,VRs.mono h fi xs e2,VRs.mono h ca zs e3⟩
 | .c _ x,y,e=>by
  simp only[VR]at e ⊢;exact⟨fun hb=>VR.mono h x y (e.1 hb),e.2⟩
 | .e,_,e=>by simpa[VR]using e
 | .mv _ _,_,e=>by
  simp only[VR]at e ⊢;obtain⟨b,e1,e2⟩:=e;exact⟨b,h _ _ _ e1,e2⟩
theorem VRs.mono {ρ ρ':Ren} (h:ρ.le ρ'):∀(l:List AV) (ys:List Value),VRs ρ l ys→VRs ρ' l ys
 | [],_,e=>by simpa[VRs]using e
 | a::as,_,e=>by
  simp only[VRs]at e ⊢;obtain⟨y,rest,e1,e2,e3⟩:=e;exact⟨y,rest,e1,VR.mono h a y e2,VRs.mono h as rest e3⟩
end
mutual
theorem VR.back {ρ ρ':Ren} (h:ρ.le ρ'):∀(a:AV) (y y':Value),VR ρ a y→VR ρ' a y'→VR ρ a y'
 | .any,_,_,_,_=>by simp[VR]
 | .v _,_,_,_,e=>by simpa[VR]using e
 | .gp _ _,_,_,_,e=>by simpa[VR]using e
 | .p _ _ _,_,_,d,e=>by
  simp only[VR]at d e ⊢;obtain⟨b,base,c,d1,_⟩:=d;obtain⟨b',base',c',e1,e2⟩:=e;rw[h _ _ _ d1]at e1;cases e1;exact⟨b,base,c,d1,e2⟩
 | .s _ _ _ _,_,_,d,e=>by
  simp only[VR]at d e ⊢;obtain⟨a,c,_,_,d1,_⟩:=d;obtain⟨a',c',c'',o',e1,e2⟩:=e;rw[h _ _ _ d1]at e1;cases e1;exact⟨a,c,c'',o',d1,e2⟩
 | .g l,_,_,d,e=>by
  simp only[VR]at d e ⊢;obtain⟨xs,_,d2⟩:=d;obtain⟨ys,e1,e2⟩:=e;exact⟨ys,e1,VRs.back h l xs ys d2 e2⟩
 | .t l,_,_,d,e=>by
  simp only[VR]at d e ⊢;obtain⟨xs,_,d2⟩:=d;obtain⟨ys,e1,e2⟩:=e;exact⟨ys,e1,VRs.back h l xs ys d2 e2⟩
 | .f _ fi ca,_,_,d,e=>by
  simp only[VR]at d e ⊢;obtain⟨us,vs,_,d2,d3⟩:=d;obtain⟨xs,zs,e1,e2,e3⟩:=e;exact⟨xs,zs,e1,VRs.back h fi us xs d2 e2,VRs.back h ca vs zs d3 e3⟩
 | .c _ x,y,y',d,e=>by
  simp only[VR]at d e ⊢;exact⟨fun hb=>VR.back h x y y' (d.1 hb) (e.1 hb),e.2⟩
 | .e,_,_,_,e=>by simpa[VR]using e
 | .mv _ _,_,_,d,e=>by
  simp only[VR]at d e ⊢;obtain⟨b,d1,_⟩:=d;obtain⟨b',e1,e2⟩:=e;rw[h _ _ _ d1]at e1;cases e1;exact⟨b,d1,e2⟩
theorem VRs.back {ρ ρ':Ren} (h:ρ.le ρ'):∀(l:List AV) (ys zs:List Value),VRs ρ l ys→VRs ρ' l zs→VRs ρ l zs
 | [],_,_,_,e=>by simpa[VRs]using e
 | a::as,_,_,d,e=>by
  simp only[VRs]at d e ⊢;obtain⟨x,us,_,d2,d3⟩:=d;obtain⟨y,rest,e1,e2,e3⟩:=e;exact⟨y,rest,e1,VR.back h a x y d2 e2,VRs.back h as us rest d3 e3⟩
end
mutual
def AV.free:AV→Bool
 | .any | .v _ | .gp _ _ | .e=>true
 | .p _ _ _ | .s _ _ _ _ | .mv _ _=>false
 | .g l | .t l=>AV.frees l
 | .f _ fi ca=>AV.frees fi&&AV.frees ca
 | .c _ x=>AV.free x
def AV.frees:List AV→Bool
 | []=>true
 | a::as=>AV.free a&&AV.frees as
end
mutual
theorem VR.free {ρ ρ':Ren}:∀(a:AV) (y:Value),a.free=true→VR ρ a y→VR ρ' a y
 | .any,_,_,_=>by simp[VR]
 | .v _,_,_,e=>by simpa[VR]using e
 | .gp _ _,_,_,e=>by simpa[VR]using e
 | .p _ _ _,_,h,_=>by simp[AV.free]at h
 | .s _ _ _ _,_,h,_=>by simp[AV.free]at h
 | .g l,_,h,e=>by
  simp only[VR]at e ⊢;obtain⟨ys,e1,e2⟩:=e;exact⟨ys,e1,VRs.free l ys (by simpa[AV.free]using h) e2⟩
 | .t l,_,h,e=>by
  simp only[VR]at e ⊢;obtain⟨ys,e1,e2⟩:=e;exact⟨ys,e1,VRs.free l ys (by simpa[AV.free]using h) e2⟩
 | .f _ fi ca,_,h,e=>by
  simp only[AV.free,zO]at h;simp only[VR]at e ⊢;obtain⟨xs,zs,e1,e2,e3⟩:=e;exact⟨xs,zs,e1,VRs.free fi xs h.1 e2,VRs.free ca zs h.2 e3⟩
 | .c _ x,y,h,e=>by
  simp only[VR]at e ⊢;exact⟨fun hb=>VR.free x y (by simpa[AV.free]using h) (e.1 hb),e.2⟩
 | .e,_,_,e=>by simpa[VR]using e
 | .mv _ _,_,h,_=>by simp[AV.free]at h
theorem VRs.free {ρ ρ':Ren}:∀(l:List AV) (ys:List Value),AV.frees l=true→VRs ρ l ys→VRs ρ' l ys
 | [],_,_,e=>by simpa[VRs]using e
 | a::as,_,h,e=>by
  simp only[AV.frees,zO]at h;simp only[VRs]at e ⊢;obtain⟨y,rest,e1,e2,e3⟩:=e;exact⟨y,rest,e1,VR.free a y h.1 e2,VRs.free as rest h.2 e3⟩
end
theorem VRs.length {ρ:Ren}:∀{l:List AV} {ys:List Value},VRs ρ l ys→ys.length=l.length
 | [],_,e=>by simp[VRs]at e;simp[e]
 | _::as,_,e=>by
  simp only[VRs]at e;obtain⟨y,rest,rfl,_,e3⟩:=e;simp[VRs.length e3]
theorem VRs.get {ρ:Ren}:∀{l:List AV} {ys:List Value},VRs ρ l ys→∀(i:Nat) a,l[i]? = some a→∃y,ys[i]? = some y∧VR ρ a y
 | [],_,_,i,a,h=>by simp at h
 | b::as,_,e,i,a,h=>by
  simp only[VRs]at e;obtain⟨y,rest,rfl,e2,e3⟩:=e;cases i with
  | zero=>simp at h;subst h;exact⟨y,by simp,e2⟩
  | succ i=>simp at h ⊢;exact VRs.get e3 i a h
theorem VRs.mk {ρ:Ren}:∀{l:List AV} {ys:List Value},ys.length=l.length→(∀(i:Nat) a y,l[i]? = some a→ys[i]? = some y→VR ρ a y)→VRs ρ l ys
 | [],ys,hl,_=>by simp[VRs];simpa using hl
 | a::as,[],hl,_=>by simp at hl
 | a::as,y::ys,hl,h=>by
  simp only[VRs];exact⟨y,ys,rfl,h 0 a y (by simp) (by simp),VRs.mk (by simpa using hl) fun i b z hb hz=>h (i+1) b z (by simpa using hb) (by simpa using hz)⟩
theorem VRs.append {ρ:Ren} {l m:List AV} {ys zs:List Value} (h:VRs ρ l ys) (k:VRs ρ m zs):VRs ρ (l++m) (ys++zs):=by
 induction l generalizing ys with
 | nil=>simp[VRs]at h;subst h;simpa using k
 | cons a as ih =>
  simp only[VRs]at h;obtain⟨y,rest,rfl,e2,e3⟩:=h;simp only[List.cons_append,VRs];exact⟨y,rest++zs,rfl,e2,ih e3⟩
structure Blk where
 cells:List AV
 ver:Nat
 rw:Bool
 esz:Nat
abbrev Heap:=Nat→Option Blk
def Heap.le (h h':Heap):Prop:=∀i k,h i=some k→h' i=some k
theorem Heap.le_refl (h:Heap):h.le h:=fun _ _ e=>e
theorem Heap.le_trans {a b c:Heap} (h:a.le b) (k:b.le c):a.le c:=fun i x e=>k i x (h i x e)
def up {α:Type} (f:Nat→α) (i:Nat) (x:α):Nat→α:=fun j=>if j=i then x else f j
theorem zJ {α:Type} (f:Nat→α) (i:Nat) (x:α):up f i x i=x:=by simp[up]
theorem zP {α:Type} (f:Nat→α) {i j:Nat} (x:α) (h:j≠i):up f i x j=f j:=by simp[up,h]
def zFq:zRu→Option Nat
 | (some (b,_),_)=>some b
 | (none,c+1)=>some c
 | (none,0)=>none
def wP (es:List MapEntry):List AV:=es.flatMap fun e=>[.v e.key,.v e.val]
def BlkRel (ρ:Ren) (w:World) (id:Nat) (k:Blk):Prop :=
 (∃b base cap arr el fr,ρ id k.ver=some (some (b,base),cap)∧w.heap[b]? = some (.cells arr el fr)∧
  (k.rw=true→fr=(0,0)∧base=0∧arr.size=cap*k.esz)∧∀(i:Nat) c,k.cells[i]? = some c→∃y,arr[base+i]? = some y∧VR ρ c y∧y.oneCell'=true)∨
 (ρ id k.ver=some (none,0)∧k.cells=[])∨
 (∃b es clock,ρ id k.ver=some (none,b+1)∧w.heap[b]? = some (.map es clock)∧k.cells=wP es.toList)
inductive EK where
 | b
 | i (k:IntKind)
 | str
inductive ATy where
 | other
 | int (k:IntKind)
 | bool
 | str
 | ptr
 | func
 | slice (el:Nat)
 | arr (len:Nat) (el:Nat)
 | struct (fs:List (Nat×Nat)) (eq:Option (List EK))
 | map
 | mapI
 | mapS (el:Nat)
structure TI where
 d:ATy
 size:Nat
 bytes:Nat
 zero:List Value
structure PRes where
 side:Prop
 val:AV
structure Ctx where
 P:Program
 ti:TypeId→TI
 G:Nat→Option (List Value)
 pf:FuncId→Option (List AV→Heap→PRes)
 two:Bool
theorem yGx {arr:Array Value} {cs:List Value} (h:arr.toList=cs):∀(i:Nat) c,cs[i]? = some c→arr[i]? = some c:=fun i c hc=>by
 rw[←h]at hc;simpa using hc
structure RoRel (X:Ctx) (ρ:Ren) (h:Heap) (w:World):Prop where
 glob:∀g cs,X.G g=some cs→∃arr el fr,w.heap[g]? = some (.cells arr el fr)∧arr.toList=cs
 blk:∀id k,h id=some k→BlkRel ρ w id k
structure Rel (X:Ctx) (K:Nat→Prop) (w0:World) (ρ:Ren) (F:Nat→Prop) (h:Heap) (w:World):Prop where
 os:w.os=w0.os
 tape:w.tape=w0.tape
 output:w.output=w0.output
 size:w0.heap.size≤w.heap.size
 keep:∀k,K k→w.heap[k]? = w0.heap[k]?
 kold:∀k,K k→k<w.heap.size
 glob:∀g cs,X.G g=some cs→K g∧∃arr el fr,w.heap[g]? = some (.cells arr el fr)∧arr.toList=cs
 blk:∀id k,h id=some k→BlkRel ρ w id k
 apart:∀i j ki kj b p1 p2,h i=some ki→ki.rw=true→h j=some kj→ρ i ki.ver=some p1→ρ j kj.ver=some p2→zFq p1=some b→zFq p2=some b→i=j
 mine:∀i ki b p1,h i=some ki→ki.rw=true→ρ i ki.ver=some p1→zFq p1=some b→¬K b
 free:∀id,F id→(∀ver,ρ id ver=none)∧h id=none
 vers:∀i k,h i=some k→k.rw=true→∀ver,k.ver<ver→ρ i ver=none
theorem Rel.anti {X:Ctx} {K:Nat→Prop} {w0:World} {ρ:Ren} {F F':Nat→Prop} {h:Heap} {w:World} (r:Rel X K w0 ρ F h w) (hF:∀i,F' i→F i):Rel X K w0 ρ F' h w :=
 ⟨r.os,r.tape,r.output,r.size,r.keep,r.kold,r.glob,r.blk,r.apart,r.mine,fun i hi=>r.free i (hF i hi),r.vers⟩
theorem BlkRel.lt {ρ:Ren} {w:World} {id:Nat} {k:Blk} (h:BlkRel ρ w id k) {b:Nat} {p:zRu} (hp:ρ id k.ver=some p) (hb:zFq p=some b):b<w.heap.size:=by
 have key:∀(b':Nat) o,w.heap[b']? = some o→b'<w.heap.size:=fun b' o e=>by
  by_cases hq:b'<w.heap.size
  ·exact hq
  ·rw[wK (by omega)]at e;cases e
 rcases h with ⟨b',base',cap',arr,el,fr,h1,h2,_⟩|⟨h1,_⟩|⟨b',es,cl,h1,h2,_⟩
 ·rw[hp]at h1
  cases h1;simp only[zFq,Option.some.injEq]at hb;subst hb;exact key _ _ h2
 ·rw[hp]at h1
  cases h1;simp[zFq]at hb
 ·rw[hp]at h1
  cases h1;simp only[zFq,Option.some.injEq]at hb;subst hb;exact key _ _ h2
theorem BlkRel.mono {ρ ρ':Ren} {w w':World} {id:Nat} {k:Blk} (h:BlkRel ρ w id k) (hρ:ρ.le ρ') (hw:∀b p,ρ id k.ver=some p→zFq p=some b→w'.heap[b]? = w.heap[b]?):BlkRel ρ' w' id k:=by
 rcases h with ⟨b,base,cap,arr,el,fr,h1,h2,h3,h4⟩|⟨h1,h2⟩|⟨b,es,cl,h1,h2,h3⟩
 ·exact .inl ⟨b,base,cap,arr,el,fr,hρ _ _ _ h1,by rw[hw b _ h1 rfl];exact h2,h3,fun i c hc=>let ⟨y,e1,e2,e3⟩:=h4 i c hc;⟨y,e1,VR.mono hρ c y e2,e3⟩⟩
 ·exact .inr (.inl ⟨hρ _ _ _ h1,h2⟩)
 ·exact .inr (.inr ⟨b,es,cl,hρ _ _ _ h1,by rw[hw b _ h1 rfl];exact h2,h3⟩)
theorem Rel.drew {X:Ctx} {K:Nat→Prop} {w0:World} {ρ:Ren} {F:Nat→Prop} {h:Heap} {w:World} (r:Rel X K w0 ρ F h w) (n:Nat):Rel X K w0 ρ F h {w with drawn:=n} :=
 ⟨r.os,r.tape,r.output,r.size,r.keep,r.kold,r.glob,r.blk,r.apart,r.mine,r.free,r.vers⟩
theorem Rel.newG {X:Ctx} {K:Nat→Prop} {w0:World} {ρ:Ren} {F:Nat→Prop} {h:Heap} {w w':World} (r:Rel X K w0 ρ F h w) {i:Nat} (hi:F i) {k:Blk} {o:Obj} {pl:zRu} (hpl:zFq pl=some w.heap.size)
  (hblk:∀ρ':Ren,ρ.le ρ'→ρ' i k.ver=some pl→w'.heap[w.heap.size]? = some o→BlkRel ρ' w' i k) (hw:w'.heap=w.heap.push o) (hos:w'.os=w.os) (ht:w'.tape=w.tape) (ho:w'.output=w.output) :
  ∃ρ':Ren,ρ.le ρ'∧ρ' i k.ver=some pl∧(∀j,j≠i→ρ' j=ρ j)∧Rel X K w0 ρ' (fun j=>F j∧j≠i) (up h i (some k)) w':=by
 obtain⟨hf1,hf2⟩:=r.free i hi
 let ρ':Ren:=fun j ver=>if j=i then (if ver=k.ver then some pl else none)else ρ j ver
 have hle:ρ.le ρ':=fun j ver x e=>by
  by_cases hj:j=i
  ·subst hj;rw[hf1]at e;cases e
  ·simp[ρ',hj,e]
 have hi':ρ' i k.ver=some pl:=by simp[ρ']
 have hj':∀j,j≠i→ρ' j=ρ j:=fun j hj=>by funext ver;simp[ρ',hj]
 have hold:∀b,b<w.heap.size→w'.heap[b]? = w.heap[b]? := fun b hb=>by rw[hw,Array.getElem?_push,if_neg (by omega)]
 have hnew:w'.heap[w.heap.size]? = some o:=by rw[hw];simp
 refine⟨ρ',hle,hi',hj',⟨hos.trans r.os,ht.trans r.tape,ho.trans r.output,?_,?_,?_,?_,?_,?_,?_,?_,?_⟩⟩
 ·have:=r.size;rw[hw];simp;omega
 ·exact fun b hb=>(hold b (r.kold b hb)).trans (r.keep b hb)
 ·intro b hb;have:=r.kold b hb;rw[hw];simp;omega
 ·intro g cs hg
  obtain⟨g1,arr',el',fr',g2,g3⟩:=r.glob g cs hg;exact⟨g1,arr',el',fr',by rw[hold g (r.kold g g1)];exact g2,g3⟩
 ·intro j kj hj
  by_cases e:j=i
  ·subst e
   simp only[zJ,Option.some.injEq]at hj;subst hj;exact hblk ρ' hle hi' hnew
  ·rw[zP _ _ e]at hj
   have hb:=r.blk j kj hj;exact hb.mono hle fun b p hp hbp=>hold b (hb.lt hp hbp)
 ·intro a b ka kb blk p1 p2 ha hrwa hb hpa hpb hb1 hb2
  by_cases ea:a=i
  ·by_cases eb:b=i
   ·rw[ea,eb]
   ·exfalso
    subst ea;simp only[zJ,Option.some.injEq]at ha;subst ha;rw[hi']at hpa;cases hpa;rw[hpl]at hb1;cases hb1;rw[zP _ _ eb]at hb;rw[hj' b eb]at hpb;have:=(r.blk b kb hb).lt hpb hb2;omega
  ·rw[zP _ _ ea]at ha
   rw[hj' a ea]at hpa;by_cases eb:b=i
   ·exfalso
    subst eb;simp only[zJ,Option.some.injEq]at hb;subst hb;rw[hi']at hpb;cases hpb;rw[hpl]at hb2;cases hb2;have:=(r.blk a ka ha).lt hpa hb1;omega
   ·rw[zP _ _ eb]at hb
    rw[hj' b eb]at hpb;exact r.apart a b ka kb blk p1 p2 ha hrwa hb hpa hpb hb1 hb2
 ·intro a ka b p1 ha hrwa hpa hb1
  by_cases ea:a=i
  ·subst ea
   simp only[zJ,Option.some.injEq]at ha;subst ha;rw[hi']at hpa;cases hpa;rw[hpl]at hb1;cases hb1;intro hk;have:=r.kold _ hk;omega
  ·rw[zP _ _ ea]at ha
   rw[hj' a ea]at hpa;exact r.mine a ka b p1 ha hrwa hpa hb1
 ·intro j ⟨hj,hne⟩
  obtain⟨f1,f2⟩:=r.free j hj;exact⟨fun ver=>by rw[hj' j hne];exact f1 ver,by rw[zP _ _ hne];exact f2⟩
 ·intro j kj hj hrj ver hv
  by_cases e:j=i
  ·subst e
   simp only[zJ,Option.some.injEq]at hj;subst hj;have:ver≠k.ver:=by omega
   simp[ρ',this]
  ·rw[zP _ _ e]at hj
   rw[hj' j e];exact r.vers j kj hj hrj ver hv
theorem Rel.new {X:Ctx} {K:Nat→Prop} {w0:World} {ρ:Ren} {F:Nat→Prop} {h:Heap} {w w':World} (r:Rel X K w0 ρ F h w) {i:Nat} (hi:F i) {k:Blk} {arr:Array Value} {el:TypeId} {cap:Nat}
  (_hrw:k.rw=true) (hsz:arr.size=cap*k.esz) (hc:∀(j:Nat) c,k.cells[j]? = some c→∃y,arr[j]? = some y∧VR ρ c y∧y.oneCell'=true) (hw:w'.heap=w.heap.push (.cells arr el)) (hos:w'.os=w.os) (ht:w'.tape=w.tape) (ho:w'.output=w.output) :
  ∃ρ':Ren,ρ.le ρ'∧ρ' i k.ver=some (some (w.heap.size,0),cap)∧(∀j,j≠i→ρ' j=ρ j)∧Rel X K w0 ρ' (fun j=>F j∧j≠i) (up h i (some k)) w' :=
 r.newG hi (pl:=(some (w.heap.size,0),cap)) rfl (fun ρ' hle hi' hnew=>.inl ⟨w.heap.size,0,cap,arr,el,(0,0),hi',hnew,fun _=>⟨rfl,rfl,hsz⟩,fun q c hq=>by
    obtain⟨y,e1,e2,e3⟩:=hc q c hq;exact⟨y,by simpa using e1,VR.mono hle c y e2,e3⟩⟩) hw hos ht ho
theorem Rel.newMap {X:Ctx} {K:Nat→Prop} {w0:World} {ρ:Ren} {F:Nat→Prop} {h:Heap} {w w':World} (r:Rel X K w0 ρ F h w) {i:Nat} (hi:F i) {clock:Nat} (hw:w'.heap=w.heap.push (.map #[] clock)) (hos:w'.os=w.os) (ht:w'.tape=w.tape) (ho:w'.output=w.output) :
  ∃ρ':Ren,ρ.le ρ'∧ρ' i 0=some (none,w.heap.size+1)∧(∀j,j≠i→ρ' j=ρ j)∧Rel X K w0 ρ' (fun j=>F j∧j≠i) (up h i (some ⟨[],0,true,0⟩)) w' :=
 r.newG hi (k:=⟨[],0,true,0⟩) (pl:=(none,w.heap.size+1)) rfl (fun ρ' _ hi' hnew=>.inr (.inr ⟨w.heap.size,#[],clock,hi',hnew,rfl⟩)) hw hos ht ho
theorem Rel.setG {X:Ctx} {K:Nat→Prop} {w0:World} {ρ:Ren} {F:Nat→Prop} {h:Heap} {w w':World} (r:Rel X K w0 ρ F h w) {i:Nat} {k k':Blk} (hi:h i=some k) (hrw:k.rw=true)
  {b:Nat} {pl:zRu} (hp:ρ i k.ver=some pl) (hbp:zFq pl=some b) (hver:k'.ver=k.ver) (hblk:BlkRel ρ w' i k')
  (hoth:∀j,j≠b→w'.heap[j]? = w.heap[j]?) (hws:w'.heap.size=w.heap.size) (hos:w'.os=w.os) (ht:w'.tape=w.tape) (ho:w'.output=w.output) :
  Rel X K w0 ρ F (up h i (some k')) w':=by
 have hnk:¬K b:=r.mine i k b pl hi hrw hp hbp;refine⟨hos.trans r.os,ht.trans r.tape,ho.trans r.output,by rw[hws];exact r.size,?_,?_,?_,?_,?_,?_,?_,?_⟩
 ·intro j hj
  rw[hoth j (fun e=>hnk (e▸hj))]
  exact r.keep j hj
 ·intro j hj;rw[hws];exact r.kold j hj
 ·intro g cs hg
  obtain⟨g1,arr2,el2,fr2,g2,g3⟩:=r.glob g cs hg;exact⟨g1,arr2,el2,fr2,by rw[hoth g (fun e=>hnk (e▸g1))];exact g2,g3⟩
 ·intro j kj hj
  by_cases e:j=i
  ·subst e
   simp only[zJ,Option.some.injEq]at hj;subst hj;exact hblk
  ·rw[zP _ _ e]at hj
   refine (r.blk j kj hj).mono (Ren.le_refl ρ) fun b2 p2 hp2 hb2=>hoth b2 fun eb => ?_
   subst eb;exact e (r.apart i j k kj b2 pl p2 hi hrw hj hp hp2 hbp hb2).symm
 ·intro a c ka kc bb p1 p2 ha hrwa hcc hpa hpc
  have key:∀(x:Nat) (kx:Blk),up h i (some k') x=some kx→∃ky,h x=some ky∧ky.ver=kx.ver∧(kx.rw=true→ky.rw=true):=by
   intro x kx hx;by_cases e:x=i
   ·subst e
    simp only[zJ,Option.some.injEq]at hx;subst hx;exact⟨k,hi,hver.symm,fun _=>hrw⟩
   ·rw[zP _ _ e]at hx
    exact⟨kx,hx,rfl,id⟩
  obtain⟨ya,a1,a2,a3⟩:=key a ka ha;obtain⟨yc,d1,d2,_⟩:=key c kc hcc;exact r.apart a c ya yc bb p1 p2 a1 (a3 hrwa) d1 (by rw[a2];exact hpa) (by rw[d2];exact hpc)
 ·intro a ka bb p1 ha hrwa hpa
  by_cases e:a=i
  ·subst e
   simp only[zJ,Option.some.injEq]at ha;subst ha;exact r.mine a k bb p1 hi hrw (by rw[←hver];exact hpa)
  ·rw[zP _ _ e]at ha
   exact r.mine a ka bb p1 ha hrwa hpa
 ·intro j hj
  obtain⟨f1,f2⟩:=r.free j hj;have hne:j≠i:=fun e=>by subst e;rw[f2]at hi;cases hi
  exact⟨f1,by rw[zP _ _ hne];exact f2⟩
 ·intro j kj hj hrj ver hv
  by_cases e:j=i
  ·subst e
   simp only[zJ,Option.some.injEq]at hj;subst hj;exact r.vers j k hi hrw ver (by omega)
  ·rw[zP _ _ e]at hj
   exact r.vers j kj hj hrj ver hv
theorem Rel.set {X:Ctx} {K:Nat→Prop} {w0:World} {ρ:Ren} {F:Nat→Prop} {h:Heap} {w w':World} (r:Rel X K w0 ρ F h w) {i:Nat} {k k':Blk} (hi:h i=some k) (hrw:k.rw=true)
  {b cap:Nat} {arr arr':Array Value} {el:TypeId} (hp:ρ i k.ver=some (some (b,0),cap)) (_hb:w.heap[b]? = some (.cells arr el (0,0)))
  (hver:k'.ver=k.ver) (_hrw':k'.rw=true) (hsz:arr'.size=cap*k'.esz) (hc:∀(j:Nat) c,k'.cells[j]? = some c→∃y,arr'[j]? = some y∧VR ρ c y∧y.oneCell'=true)
  (hw:w'.heap[b]? = some (.cells arr' el (0,0))) (hoth:∀j,j≠b→w'.heap[j]? = w.heap[j]?) (hws:w'.heap.size=w.heap.size) (hos:w'.os=w.os) (ht:w'.tape=w.tape) (ho:w'.output=w.output) :
  Rel X K w0 ρ F (up h i (some k')) w' :=
 r.setG hi hrw (pl:=(some (b,0),cap)) hp rfl hver (.inl ⟨b,0,cap,arr',el,(0,0),by rw[hver];exact hp,hw,fun _=>⟨rfl,rfl,hsz⟩,fun q c hq=>by simpa using hc q c hq⟩) hoth hws hos ht ho
theorem Rel.ro {X:Ctx} {K:Nat→Prop} {w0:World} {ρ:Ren} {F:Nat→Prop} {h:Heap} {w:World} (r:Rel X K w0 ρ F h w):RoRel X ρ h w :=
 ⟨fun g cs hg=>(r.glob g cs hg).2,r.blk⟩
theorem Rel.below {X:Ctx} {K:Nat→Prop} {w0:World} {ρ:Ren} {F:Nat→Prop} {h:Heap} {w w':World} (r:Rel X K w0 ρ F h w) (hb:Below w.heap.size w w'):Rel X K w0 ρ F h w' :=
 ⟨hb.os.trans r.os, hb.tape.trans r.tape, hb.output.trans r.output, xL           r.size hb.size, fun k hk => (hb.block k (r.kold k hk)).trans (r.keep k hk), fun k hk => Nat.lt_of_lt_of_le (r.kold k hk) hb.size,
  fun g cs hg=>let ⟨g1,arr,el,fr,g2,g3⟩:=r.glob g cs hg;⟨g1,arr,el,fr,by rw[hb.block g (r.kold g g1)];exact g2,g3⟩,
  fun id k hk=>(r.blk id k hk).mono (Ren.le_refl ρ) fun b _ hp hbp=>hb.block b ((r.blk id k hk).lt hp hbp),r.apart,r.mine,r.free,r.vers⟩
def Blk.ro (k:Blk):Blk:={k with rw:=false}
def roH (h:Heap):Heap:=fun id=>(h id).map Blk.ro
theorem BlkRel.ro {ρ:Ren} {w:World} {id:Nat} {k:Blk} (h:BlkRel ρ w id k):BlkRel ρ w id k.ro:=by
 rcases h with ⟨b,base,cap,arr,el,fr,h1,h2,_,h4⟩|⟨h1,h2⟩|⟨b,es,cl,h1,h2,h3⟩
 ·exact .inl ⟨b,base,cap,arr,el,fr,h1,h2,fun e=>(by cases e),h4⟩
 ·exact .inr (.inl ⟨h1,h2⟩)
 ·exact .inr (.inr ⟨b,es,cl,h1,h2,h3⟩)
theorem RoRel.rel {X:Ctx} {ρ:Ren} {h:Heap} {w:World} (r:RoRel X ρ h w) {m:Nat} (hm:∀j,m≤j→(∀ver,ρ j ver=none)∧h j=none):Rel X (· < w.heap.size) w ρ (m≤·) (roH h) w where
 os:=rfl
 tape:=rfl
 output:=rfl
 size:=zC _
 keep:=fun _ _=>rfl
 kold:=fun _ hk=>hk
 glob:=fun g cs hg=>by
  obtain⟨arr,el,fr,g2,g3⟩:=r.glob g cs hg;refine⟨?_,arr,el,fr,g2,g3⟩;by_cases hlt:g<w.heap.size
  ·exact hlt
  ·rw[wK (by omega)]at g2;cases g2
 blk:=fun id k hk=>by
  simp only[roH,zV]at hk;obtain⟨k',h1,rfl⟩:=hk;exact (r.blk id k' h1).ro
 apart:=fun i j ki kj b p1 p2 hi hrw=>by
  simp only[roH,zV]at hi;obtain⟨k',_,rfl⟩:=hi;cases hrw
 mine:=fun i ki b p1 hi hrw=>by
  simp only[roH,zV]at hi;obtain⟨k',_,rfl⟩:=hi;cases hrw
 free:=fun j hj=>⟨(hm j hj).1,by simp[roH,(hm j hj).2]⟩
 vers:=fun i ki hi hrw=>by
  simp only[roH,zV]at hi;obtain⟨k',_,rfl⟩:=hi;cases hrw
theorem Rel.gone {X:Ctx} {w:World} {ρ:Ren} {F:Nat→Prop} {h:Heap} {w':World} (r:Rel X (· < w.heap.size) w ρ F h w'):Below w.heap.size w w' :=
 ⟨r.os,r.tape,r.output,r.size,fun k hk=>r.keep k hk⟩
mutual
def AV.inH (h:Heap):AV→Prop
 | .any | .v _ | .gp _ _ | .e=>True
 | .p id ver _ | .s id ver _ _ | .mv id ver=>∃k,h id=some k∧k.ver=ver
 | .g l | .t l=>AV.inHs h l
 | .f _ fi ca=>AV.inHs h fi∧AV.inHs h ca
 | .c _ x=>AV.inH h x
def AV.inHs (h:Heap):List AV→Prop
 | []=>True
 | a::as=>AV.inH h a∧AV.inHs h as
end
mutual
theorem VR.inH {ρ ρ':Ren} {h:Heap} (hk:∀id k,h id=some k→∃x,ρ id k.ver=some x) (hle:ρ.le ρ'):∀(a:AV) (y:Value),a.inH h→VR ρ' a y→VR ρ a y
 | .any,_,_,_=>by simp[VR]
 | .v _,_,_,e=>by simpa[VR]using e
 | .gp _ _,_,_,e=>by simpa[VR]using e
 | .p id ver off,_,hh,e=>by
  simp only[AV.inH]at hh;obtain⟨k,h1,rfl⟩:=hh;obtain⟨x,hx⟩:=hk id k h1;simp only[VR]at e ⊢;obtain⟨b,base,c,e1,e2⟩:=e;rw[hle _ _ _ hx]at e1;cases e1;exact⟨b,base,c,hx,e2⟩
 | .s id ver off len,_,hh,e=>by
  simp only[AV.inH]at hh;obtain⟨k,h1,rfl⟩:=hh;obtain⟨x,hx⟩:=hk id k h1;simp only[VR]at e ⊢;obtain⟨a,c,c',o',e1,e2⟩:=e;rw[hle _ _ _ hx]at e1;cases e1;exact⟨a,c,c',o',hx,e2⟩
 | .g l,_,hh,e=>by
  simp only[VR]at e ⊢;obtain⟨ys,e1,e2⟩:=e;exact⟨ys,e1,VRs.inH hk hle l ys (by simpa[AV.inH]using hh) e2⟩
 | .t l,_,hh,e=>by
  simp only[VR]at e ⊢;obtain⟨ys,e1,e2⟩:=e;exact⟨ys,e1,VRs.inH hk hle l ys (by simpa[AV.inH]using hh) e2⟩
 | .f _ fi ca,_,hh,e=>by
  simp only[AV.inH]at hh;simp only[VR]at e ⊢;obtain⟨xs,zs,e1,e2,e3⟩:=e;exact⟨xs,zs,e1,VRs.inH hk hle fi xs hh.1 e2,VRs.inH hk hle ca zs hh.2 e3⟩
 | .c _ x,y,hh,e=>by
  simp only[VR]at e ⊢;exact⟨fun hb=>VR.inH hk hle x y (by simpa[AV.inH]using hh) (e.1 hb),e.2⟩
 | .e,_,_,e=>by simpa[VR]using e
 | .mv id ver,_,hh,e=>by
  simp only[AV.inH]at hh;obtain⟨k,h1,rfl⟩:=hh;obtain⟨x,hx⟩:=hk id k h1;simp only[VR]at e ⊢;obtain⟨b,e1,e2⟩:=e;rw[hle _ _ _ hx]at e1;cases e1;exact⟨b,hx,e2⟩
theorem VRs.inH {ρ ρ':Ren} {h:Heap} (hk:∀id k,h id=some k→∃x,ρ id k.ver=some x) (hle:ρ.le ρ'):∀(l:List AV) (ys:List Value),AV.inHs h l→VRs ρ' l ys→VRs ρ l ys
 | [],_,_,e=>by simpa[VRs]using e
 | a::as,_,hh,e=>by
  simp only[AV.inHs]at hh;simp only[VRs]at e ⊢;obtain⟨y,rest,e1,e2,e3⟩:=e;exact⟨y,rest,e1,VR.inH hk hle a y hh.1 e2,VRs.inH hk hle as rest hh.2 e3⟩
end
end Go.Eng
namespace Go.Eng
open Go Go.RowKit
def AV.i:AV→Int
 | .v (.int _ n)=>n
 | _=>0
def AV.isI (k:IntKind):AV→Prop
 | .v (.int k' _)=>k'=k
 | _=>False
def AV.isInt:AV→Prop
 | .v (.int _ _)=>True
 | _=>False
def AV.b:AV→Bool
 | .v (.bool b)=>b
 | _=>false
def AV.isB:AV→Prop
 | .v (.bool _)=>True
 | _=>False
def AV.isN:AV→Prop
 | .v (.slice none _ _)=>True
 | .s _ _ _ n=>0<n
 | _=>False
def AV.nl:AV→Bool
 | .s _ _ _ _=>false
 | _=>true
def AV.isNl:AV→Prop
 | .v (.slice none _ _)=>True
 | _=>False
def AV.str:AV→ByteArray
 | .v (.string z)=>z
 | _=>ByteArray.empty
def AV.isStr:AV→Prop
 | .v (.string _)=>True
 | _=>False
def zCj (z:ByteArray) (i:Nat):Nat:=(z.data.toList.getD i 0).toNat
def AV.unc (g:Bool):AV→AV
 | .c b x=>if (g && !b)=true then .any else x
 | x=>x
def AV.bb:AV→Bool
 | .c _ x=>x.b
 | x=>x.b
def AV.okg:AV→Prop
 | .c b x=>b=true→x.isB
 | x=>x.isB
def AV.gd (want:Bool):AV→Bool
 | .c b x=>b&&(x.b==want)
 | x=>x.b==want
def AV.okb:AV→Prop
 | .c b x=>b=true∧x.isB
 | x=>x.isB
def AV.cells:AV→List AV
 | .g l=>l
 | x=>[x]
def AV.one:AV→Prop
 | .v x=>x.oneCell'=true
 | .gp _ _ | .p _ _ _ | .s _ _ _ _ | .f _ _ _ | .e | .mv _ _=>True
 | _=>False
def AV.ones:List AV→Prop
 | []=>True
 | a::l=>a.one∧AV.ones l
def AV.slen:AV→Nat
 | .s _ _ _ n=>n
 | _=>0
def AV.isS:AV→Prop
 | .s _ _ _ _=>True
 | .v (.slice none n m)=>n=0∧m=0
 | .e=>True
 | _=>False
def AV.isPtr:AV→Prop
 | .p _ _ _ | .gp _ _=>True
 | _=>False
def optInt (ev:Operand→AV):Option Operand→Prop
 | some o=>(ev o).isInt
 | none=>True
def optI (ev:Operand→AV) (d:Int):Option Operand→Int
 | some o=>(ev o).i
 | none=>d
def wr {α:Type}:List α→Nat→List α→List α
 | l,_,[]=>l
 | l,o,c::r=>wr (l.set o c) (o+1) r
def cut (n:Nat) (l:List AV):List AV:=if l.length≤n then l else l.take n
theorem zP4 {n:Nat} {l:List AV} (h:l.length≤n):cut n l=l:=if_pos h
theorem zH2 {n:Nat} {l:List AV}:cut n l=l.take n:=by
 unfold cut;split
 ·rw[yX (by assumption)]
 ·rfl
structure ARes where
 side:Prop
 val:AV
 h:Heap
section
variable (X:Ctx) (h:Heap)
def lds (a:AV) (n:Nat):Prop :=
 match a with
 | .p id ver off=>match h id with
  | some k=>k.ver=ver∧off+n≤k.cells.length
  | none=>False
 | .gp g off=>match X.G g with
  | some cs=>off+n≤cs.length
  | none=>False
 | _=>False
def ldc (a:AV) (j:Nat):AV :=
 match a with
 | .p id _ off=>match h id with
  | some k=>k.cells.getD (off+j) .any
  | none=>.any
 | .gp g off=>match X.G g with
  | some cs=>.v (cs.getD (off+j) undef)
  | none=>.any
 | _=>.any
def ldcs (a:AV) (i:Nat):Nat→List AV
 | 0=>[]
 | n+1=>ldc X h a i::ldcs a (i+1) n
def sts (a:AV) (n:Nat):Prop :=
 match a with
 | .p id ver off=>match h id with
  | some k=>k.ver=ver∧k.rw=true∧off+n≤k.cells.length
  | none=>False
 | _=>False
def sth (a:AV) (cs:List AV):Heap :=
 match a with
 | .p id _ off=>match h id with
  | some k=>up h id (some {k with cells:=wr k.cells off cs})
  | none=>h
 | _=>h
def sls (a:AV) (j n:Nat):Prop :=
 match a with
 | .s id ver off _=>match h id with
  | some k=>k.ver=ver∧off+(j+n)≤k.cells.length
  | none=>False
 | .v (.slice none _ _)=>j=0∧n=0
 | .e=>j=0∧n=0
 | _=>False
def slc (a:AV) (j n:Nat):List AV :=
 match a with
 | .s id _ off _=>match h id with
  | some k=>(k.cells.drop (off+j)).take n
  | none=>[]
 | _=>[]
end
def fillOk (pl:Nat→Option (Nat×Nat)) (n:Nat):List (Nat×AV)→Prop
 | []=>True
 | (i,x)::r=>(match pl i with
  | some (off,size)=>x.cells.length=size∧off+size≤n
  | none=>False)∧AV.ones x.cells∧fillOk pl n r
def fillC (pl:Nat→Option (Nat×Nat)) (cells:List AV):List (Nat×AV)→List AV
 | []=>cells
 | (i,x)::r=>fillC pl (match pl i with
  | some (off,_)=>wr cells off x.cells
  | none=>cells) r
def repZ (z:List Value):Nat→List AV
 | 0=>[]
 | n+1=>z.map .v++repZ z n
def EK.ok:EK→AV→Prop
 | .b,x=>x.isB
 | .i k,x=>x.isI k
 | .str,x=>x.isStr
def EK.eq:EK→AV→AV→Bool
 | .b,x,y=>x.b==y.b
 | .i _,x,y=>x.i==y.i
 | .str,x,y=>x.str==y.str
def eksOk:List EK→List AV→Prop
 | [],l=>l=[]
 | e::es,l=>match l with
  | x::xs=>e.ok x∧eksOk es xs
  | []=>False
def eksEq:List EK→List AV→List AV→Bool
 | e::es,x::xs,y::ys=>e.eq x y&&eksEq es xs ys
 | _,_,_=>true
def zBn (z:ByteArray):List AV→Option AV
 | .v (.string k)::v::r=>if (z==k)=true then some v else zBn z r
 | _=>none
def mok:List AV→Prop
 | []=>True
 | .v (.string _) :: .v (.int .i64 _)::r=>mok r
 | _=>False
def zEu (z:ByteArray) (n:AV):List AV→List AV
 | .v (.string k)::v::r=>if (z==k)=true then .v (.string k)::n::r else .v (.string k)::v::zEu z n r
 | _=>[.v (.string z),n]
def zCv (z:Int):List AV→Option AV
 | .v (.int .i64 k)::v::r=>if (z==k)=true then some v else zCv z r
 | _=>none
def zSw:List AV→Prop
 | []=>True
 | .v (.int .i64 _) :: .v (.int .i64 _)::r=>zSw r
 | _=>False
def zEt (z:Int) (n:AV):List AV→List AV
 | .v (.int .i64 k)::v::r=>if (z==k)=true then .v (.int .i64 k)::n::r else .v (.int .i64 k)::v::zEt z n r
 | _=>[.v (.int .i64 z),n]
def zSv:List AV→Prop
 | []=>True
 | .v (.string _) :: .v _::r=>zSv r
 | _=>False
def gOf:AV→AV
 | .v (.agg a)=>.g (a.toList.map .v)
 | x=>x
def zQ8:List AV→Prop
 | []=>True
 | .v _::r=>zQ8 r
 | _=>False
def AV.val:AV→Value
 | .v x=>x
 | _=>undef
def AV.gl:AV→List AV
 | .g l=>l
 | _=>[]
def AV.isG:AV→Prop
 | .g _=>True
 | _=>False
section
variable (X:Ctx)
def place (t:TypeId) (f:Nat):Option (Nat×Nat) :=
 match (X.ti t).d with
 | .struct fs _=>(fs[f]?).map fun p=>(p.1,(X.ti p.2).size)
 | .arr n e=>if f<n then some (f*(X.ti e).size,(X.ti e).size)else none
 | _=>none
def binI (op:BinOp) (k:IntKind) (x y:Int):Option AV :=
 match op with
 | .add=>some (.v (.int k (k.wrap (x+y))))
 | .sub=>some (.v (.int k (k.wrap (x-y))))
 | .mul=>some (.v (.int k (k.wrap (x*y))))
 | .quo=>some (.v (.int k (k.wrap (x.tdiv y))))
 | .rem=>some (.v (.int k (x.tmod y)))
 | .and=>some (.v (.int k (k.wrap ((BitVec.ofInt k.bits x &&& BitVec.ofInt k.bits y).toNat:Int))))
 | .or=>some (.v (.int k (k.wrap ((BitVec.ofInt k.bits x ||| BitVec.ofInt k.bits y).toNat:Int))))
 | .xor=>some (.v (.int k (k.wrap ((BitVec.ofInt k.bits x ^^^ BitVec.ofInt k.bits y).toNat:Int))))
 | .eql=>some (.v (.bool (x==y)))
 | .neq=>some (.v (.bool (x != y)))
 | .lss=>some (.v (.bool (decide (x<y))))
 | .leq=>some (.v (.bool (decide (x≤y))))
 | .gtr=>some (.v (.bool (decide (x > y))))
 | .geq=>some (.v (.bool (decide (x≥y))))
 | _=>none
def binS (op:BinOp) (x y:AV) (h:Heap):ARes:=match op with
 | .eql=>⟨x.isStr∧y.isStr,.v (.bool (x.str==y.str)),h⟩
 | .neq=>⟨x.isStr∧y.isStr,.v (.bool (x.str != y.str)),h⟩
 | .add=>⟨x.isStr∧y.isStr∧x.str.size+y.str.size≤9223372036854775807,.v (.string (x.str++y.str)),h⟩
 | _=>⟨False,.any,h⟩
theorem yKc (op:BinOp) (x y:AV) (h:Heap):(binS op x y h).h=h:=by cases op<;>rfl
theorem yKb (op:BinOp) (x y:AV) (h h':Heap):(binS op x y h').side=(binS op x y h).side∧(binS op x y h').val=(binS op x y h).val:=by cases op<;>exact⟨rfl,rfl⟩
def isDiv:BinOp→Prop
 | .quo | .rem=>True
 | _=>False
def heapOp:Op→Bool
 | .alloc _ | .box _ _ | .buildSlice _ _ _ | .store _ _ _ | .makeSlice _ _ _ | .makeMap _ _ | .mapUpdate _ _ _ _=>true
 | .call c=>match c.callee with
  | .builtin .append | .builtin .copy=>true
  | _=>false
 | _=>false
def aeval (op:Op) (ev:Operand→AV) (h:Heap) (i:Nat) (hp:Heap):ARes :=
 match op with
 | .move x | .assign x=>⟨True,ev x,h⟩
 | .pick c a b=>⟨(ev c).isB∧((ev c).b=true→(ev a).okb)∧((ev c).b=false→(ev b).okb),.v (.bool (cond (ev c).b (ev a).bb (ev b).bb)),h⟩
 | .alloc t=>⟨(X.ti t).d≠.other,.p i 0 0,up h i (some ⟨(X.ti t).zero.map .v,0,true,(X.ti t).size⟩)⟩
 | .box t x=>⟨(X.ti t).d≠.other∧(ev x).cells.length=(X.ti t).size∧AV.ones (ev x).cells,.p i 0 0,up h i (some ⟨(ev x).cells,0,true,(X.ti t).size⟩)⟩
 | .build t ps=>⟨(match (X.ti t).d with | .struct _ _=>True | .arr _ _=>True|_=>False)∧fillOk (place X t) (X.ti t).size (ps.toList.map fun p=>(p.1,ev p.2)),.g (fillC (place X t) ((X.ti t).zero.map .v) (ps.toList.map fun p=>(p.1,ev p.2))),h⟩
 | .buildSlice t len ps=>match (X.ti t).d with
  | .slice e=>⟨(X.ti e).d≠.other∧0<(X.ti e).size∧len*(X.ti e).size≤16777216∧fillOk (fun j=>some (j*(X.ti e).size,(X.ti e).size)) (len*(X.ti e).size) (ps.toList.map fun p=>(p.1,ev p.2))∧AV.ones (fillC (fun j=>some (j*(X.ti e).size,(X.ti e).size)) (repZ (X.ti e).zero len) (ps.toList.map fun p=>(p.1,ev p.2))),
    .s i 0 0 len,up h i (some ⟨fillC (fun j=>some (j*(X.ti e).size,(X.ti e).size)) (repZ (X.ti e).zero len) (ps.toList.map fun p=>(p.1,ev p.2)),0,true,(X.ti e).size⟩)⟩
  | _=>⟨False,.any,h⟩
 | .load t a=>match (X.ti t).d with
  | .other=>⟨False,.any,h⟩
  | .struct _ _=>⟨lds X h (ev a) (X.ti t).size,.g (ldcs X h (ev a) 0 (X.ti t).size),h⟩
  | .arr _ _=>⟨lds X h (ev a) (X.ti t).size,.g (ldcs X h (ev a) 0 (X.ti t).size),h⟩
  | _=>⟨lds X h (ev a) 1,ldc X h (ev a) 0,h⟩
 | .store t a x=>⟨(X.ti t).d≠.other∧sts h (ev a) (X.ti t).size∧(ev x).cells.length=(X.ti t).size∧AV.ones (ev x).cells,.any,sth h (ev a) (ev x).cells⟩
 | .nilCheck x=>⟨(ev x).isPtr,ev x,h⟩
 | .binOp op xt x y _=>match (X.ti xt).d with
  | .int k=>match op with
   | .shl=>⟨(ev x).isI k∧(ev y).isInt∧0≤(ev y).i,.v (.int k (k.wrap ((ev x).i*2^min (ev y).i.toNat k.bits))),h⟩
   | .shr=>⟨(ev x).isI k∧(ev y).isInt∧0≤(ev y).i,.v (.int k ((ev x).i.fdiv (2^min (ev y).i.toNat k.bits))),h⟩
   | op=>match binI op k (ev x).i (ev y).i with
    | some v=>⟨(ev x).isI k∧(ev y).isI k∧(isDiv op→(ev y).i≠0),v,h⟩
    | none=>⟨False,.any,h⟩
  | .bool=>match op with
   | .eql=>⟨(ev x).isB∧(ev y).isB,.v (.bool ((ev x).b==(ev y).b)),h⟩
   | .neq=>⟨(ev x).isB∧(ev y).isB,.v (.bool (!((ev x).b==(ev y).b))),h⟩
   | _=>⟨False,.any,h⟩
  | .str=>binS op (ev x) (ev y) h
  | .struct _ (some eks)=>match op with
   | .eql=>⟨(ev x).isG∧(ev y).isG∧eksOk eks (ev x).gl∧eksOk eks (ev y).gl,.v (.bool (eksEq eks (ev x).gl (ev y).gl)),h⟩
   | .neq=>⟨(ev x).isG∧(ev y).isG∧eksOk eks (ev x).gl∧eksOk eks (ev y).gl,.v (.bool (!(eksEq eks (ev x).gl (ev y).gl))),h⟩
   | _=>⟨False,.any,h⟩
  | .slice _=>match op with
   | .eql=>⟨(ev x).isN∧(ev y).isNl,.v (.bool (ev x).nl),h⟩
   | .neq=>⟨(ev x).isN∧(ev y).isNl,.v (.bool (!(ev x).nl)),h⟩
   | _=>⟨False,.any,h⟩
  | _=>⟨False,.any,h⟩
 | .unOp op _ x=>match op with
  | .not=>⟨(ev x).isB,.v (.bool (!(ev x).b)),h⟩
  | .neg=>match ev x with
   | .v (.int k n)=>⟨True,.v (.int k (k.wrap (0-n))),h⟩
   | _=>⟨False,.any,h⟩
  | _=>⟨False,.any,h⟩
 | .convert s d x=>match (X.ti s).d,(X.ti d).d with
  | .int _,.int k=>⟨(ev x).isInt,.v (.int k (k.wrap (ev x).i)),h⟩
  | .str,.str=>⟨(ev x).isStr,ev x,h⟩
  | _,_=>⟨False,.any,h⟩
 | .makeSlice t l c=>match (X.ti t).d with
  | .slice e=>⟨(X.ti e).d≠.other∧0<(X.ti e).size∧(ev l).isInt∧(ev c).isInt∧0≤(ev l).i∧(ev l).i≤(ev c).i∧((X.ti e).bytes:Int)*(ev c).i≤281474976710656∧(ev c).i≤9223372036854775807,
    .s i 0 0 (ev l).i.toNat,up h i (some ⟨repZ (X.ti e).zero (ev l).i.toNat,0,true,(X.ti e).size⟩)⟩
  | _=>⟨False,.any,h⟩
 | .fieldAddr t x f=>match (X.ti t).d with
  | .struct fs _=>match fs[f]?,ev x with
   | some (off,ft),.p id ver o=>⟨(X.ti ft).d≠.other∧(X.ti ft).size≠0,.p id ver (o+off),h⟩
   | some (off,ft),.gp g o=>⟨(X.ti ft).d≠.other∧(X.ti ft).size≠0,.gp g (o+off),h⟩
   | _,_=>⟨False,.any,h⟩
  | _=>⟨False,.any,h⟩
 | .indexAddr t x ix=>match (X.ti t).d with
  | .slice e=>match ev x with
   | .s id ver off len=>⟨(X.ti e).d≠.other∧(ev ix).isInt∧0≤(ev ix).i∧(ev ix).i<len,.p id ver (off+(ev ix).i.toNat*(X.ti e).size),h⟩
   | _=>⟨False,.any,h⟩
  | .arr len e=>match ev x with
   | .p id ver off=>⟨(X.ti e).d≠.other∧(ev ix).isInt∧0≤(ev ix).i∧(ev ix).i<len,.p id ver (off+(ev ix).i.toNat*(X.ti e).size),h⟩
   | .gp g off=>⟨(X.ti e).d≠.other∧(ev ix).isInt∧0≤(ev ix).i∧(ev ix).i<len,.gp g (off+(ev ix).i.toNat*(X.ti e).size),h⟩
   | _=>⟨False,.any,h⟩
  | _=>⟨False,.any,h⟩
 | .extract x j=>match ev x with
  | .t l=>⟨j<l.length,l.getD j .any,h⟩
  | _=>⟨False,.any,h⟩
 | .index t x ix=>match (X.ti t).d with
  | .str=>⟨(ev x).isStr∧(ev ix).isInt∧0≤(ev ix).i∧(ev ix).i<(ev x).str.size,.v (.int .u8 (zCj (ev x).str (ev ix).i.toNat)),h⟩
  | .arr n e=>match (X.ti e).d with
   | .str=>⟨(X.ti e).size=1∧(ev x).isG∧(ev ix).isInt∧0≤(ev ix).i∧(ev ix).i<n∧(ev ix).i.toNat<(ev x).gl.length,(ev x).gl.getD (ev ix).i.toNat .any,h⟩
   | .int _=>⟨(X.ti e).size=1∧(ev x).isG∧(ev ix).isInt∧0≤(ev ix).i∧(ev ix).i<n∧(ev ix).i.toNat<(ev x).gl.length,(ev x).gl.getD (ev ix).i.toNat .any,h⟩
   | _=>⟨False,.any,h⟩
  | _=>⟨False,.any,h⟩
 | .slice t x lo hi mx=>match (X.ti t).d with
  | .slice e=>match mx with
   | some _=>⟨False,.any,h⟩
   | none =>
    match ev x with
    | .s id ver off n=>⟨optInt ev lo∧optInt ev hi∧0≤optI ev 0 lo∧optI ev 0 lo≤optI ev n hi∧optI ev n hi≤n∧(X.ti e).d≠.other∧0<(X.ti e).size,.s id ver (off+(optI ev 0 lo).toNat*(X.ti e).size) ((optI ev n hi).toNat-(optI ev 0 lo).toNat),h⟩
    | .v (.slice none n c)=>⟨optInt ev lo∧optInt ev hi∧0≤optI ev 0 lo∧optI ev 0 lo≤optI ev 0 hi∧optI ev 0 hi≤0∧n=0∧c=0∧(X.ti e).d≠.other,.v (.slice none 0 0),h⟩
    | _=>⟨False,.any,h⟩
  | _=>⟨False,.any,h⟩
 | .call c=>match c.callee,c.args.toList,c.argTypes.toList with
  | .builtin .len,[x],[t]=>match (X.ti t).d with
   | .slice _=>⟨(ev x).isS,.v (.int .i64 (ev x).slen),h⟩
   | .str=>⟨(ev x).isStr,.v (.int .i64 (ev x).str.size),h⟩
   | _=>⟨False,.any,h⟩
  | .builtin .min,[x,y],_=>match ev x,ev y with
   | .v (.int k a),.v (.int _ b)=>⟨True,.v (.int k (if b<a then b else a)),h⟩
   | _,_=>⟨False,.any,h⟩
  | .builtin .max,[x,y],_=>match ev x,ev y with
   | .v (.int k a),.v (.int _ b)=>⟨True,.v (.int k (if a<b then b else a)),h⟩
   | _,_=>⟨False,.any,h⟩
  | .builtin .append,[s,x],[t,t']=>match (X.ti t).d with
   | .slice e=>match ev s with
    | .s id ver off len=>match h id with
     | some k=>⟨t'=t∧(X.ti e).d≠.other∧0<(X.ti e).size∧(ev x).isS∧sls h (ev x) 0 ((ev x).slen*(X.ti e).size)∧k.ver=ver∧off=0∧k.rw=true∧k.esz=(X.ti e).size∧len*(X.ti e).size≤k.cells.length∧(len+(ev x).slen)*(X.ti e).bytes≤140737488355328∧len+(ev x).slen≤9223372036854775807,
       .s id (ver+1) 0 (len+(ev x).slen),up h id (some {k with cells:=cut (len*(X.ti e).size) k.cells++slc h (ev x) 0 ((ev x).slen*(X.ti e).size),ver:=ver+1})⟩
     | none=>⟨False,.any,h⟩
    | .v (.slice none n c)=>⟨t'=t∧n=0∧c=0∧(X.ti e).d≠.other∧0<(X.ti e).size∧(ev x).isS∧sls h (ev x) 0 ((ev x).slen*(X.ti e).size)∧(ev x).slen*(X.ti e).bytes≤140737488355328∧(ev x).slen≤9223372036854775807,
      .s i 0 0 (ev x).slen,up h i (some ⟨slc h (ev x) 0 ((ev x).slen*(X.ti e).size),0,true,(X.ti e).size⟩)⟩
    | _=>⟨False,.any,h⟩
   | _=>⟨False,.any,h⟩
  | .builtin .copy,[d,x],[t,t']=>match (X.ti t).d,ev d with
   | .slice e,.s id ver off len=>match h id with
    | some k=>⟨t'=t∧(X.ti e).d≠.other∧0<(X.ti e).size∧(ev x).isS∧sls h (ev x) 0 ((ev x).slen*(X.ti e).size)∧k.ver=ver∧k.rw=true∧off+len*(X.ti e).size≤k.cells.length,
      .v (.int .i64 (min (ev x).slen len:Nat)),up h id (some {k with cells:=wr k.cells off ((slc h (ev x) 0 ((ev x).slen*(X.ti e).size)).take (min (ev x).slen len*(X.ti e).size))})⟩
    | none=>⟨False,.any,h⟩
   | _,_=>⟨False,.any,h⟩
  | .value (.func f),as,_=>match X.pf f with
   | some g=>⟨(g (as.map ev) hp).side,(g (as.map ev) hp).val,h⟩
   | none=>⟨False,.any,h⟩
  | _,_,_=>⟨False,.any,h⟩
 | .makeMap t r=>match (X.ti t).d,r with
  | .map,none=>⟨True,.mv i 0,up h i (some ⟨[],0,true,0⟩)⟩
  | .mapI,none=>⟨True,.mv i 0,up h i (some ⟨[],0,true,0⟩)⟩
  | .mapS _,none=>⟨True,.mv i 0,up h i (some ⟨[],0,true,0⟩)⟩
  | .map,some x=>⟨(ev x).isInt,.mv i 0,up h i (some ⟨[],0,true,0⟩)⟩
  | .mapI,some x=>⟨(ev x).isInt,.mv i 0,up h i (some ⟨[],0,true,0⟩)⟩
  | _,_=>⟨False,.any,h⟩
 | .lookup t x ix ok=>match (X.ti t).d,ev x with
  | .mapS e,.mv id ver=>match h id with
   | some k=>⟨k.ver=ver∧zSv k.cells∧(ev ix).isStr,cond ok (.t [gOf ((zBn (ev ix).str k.cells).getD (.g ((X.ti e).zero.map .v))),.v (.bool (zBn (ev ix).str k.cells).isSome)]) (gOf ((zBn (ev ix).str k.cells).getD (.g ((X.ti e).zero.map .v)))),h⟩
   | none=>⟨False,.any,h⟩
  | .map,.mv id ver=>match h id with
   | some k=>⟨k.ver=ver∧mok k.cells∧(ev ix).isStr,cond ok (.t [(zBn (ev ix).str k.cells).getD (.v (.int .i64 0)),.v (.bool (zBn (ev ix).str k.cells).isSome)]) ((zBn (ev ix).str k.cells).getD (.v (.int .i64 0))),h⟩
   | none=>⟨False,.any,h⟩
  | .mapI,.mv id ver=>match h id with
   | some k=>⟨k.ver=ver∧zSw k.cells∧(ev ix).isI .i64,cond ok (.t [(zCv (ev ix).i k.cells).getD (.v (.int .i64 0)),.v (.bool (zCv (ev ix).i k.cells).isSome)]) ((zCv (ev ix).i k.cells).getD (.v (.int .i64 0))),h⟩
   | none=>⟨False,.any,h⟩
  | _,_=>⟨False,.any,h⟩
 | .mapUpdate t x ix y=>match (X.ti t).d,ev x with
  | .mapS _,.mv id ver=>match h id with
   | some k=>⟨k.ver=ver∧k.rw=true∧zSv k.cells∧(ev ix).isStr∧(ev y).isG∧zQ8 (ev y).gl,.any,up h id (some {k with cells:=zEu (ev ix).str (.v (.agg ((ev y).gl.map AV.val).toArray)) k.cells})⟩
   | none=>⟨False,.any,h⟩
  | .map,.mv id ver=>match h id with
   | some k=>⟨k.ver=ver∧k.rw=true∧mok k.cells∧(ev ix).isStr∧(ev y).isI .i64,.any,up h id (some {k with cells:=zEu (ev ix).str (.v (.int .i64 (ev y).i)) k.cells})⟩
   | none=>⟨False,.any,h⟩
  | .mapI,.mv id ver=>match h id with
   | some k=>⟨k.ver=ver∧k.rw=true∧zSw k.cells∧(ev ix).isI .i64∧(ev y).isI .i64,.any,up h id (some {k with cells:=zEt (ev ix).i (.v (.int .i64 (ev y).i)) k.cells})⟩
   | none=>⟨False,.any,h⟩
  | _,_=>⟨False,.any,h⟩
 | .field t x f=>match (X.ti t).d,ev x with
  | .struct fs _,.g l=>match fs[f]? with
   | some (off,ft)=>match (X.ti ft).d with
    | .other=>⟨False,.any,h⟩
    | .struct _ _=>⟨off+(X.ti ft).size≤l.length,.g ((l.drop off).take (X.ti ft).size),h⟩
    | .arr _ _=>⟨off+(X.ti ft).size≤l.length,.g ((l.drop off).take (X.ti ft).size),h⟩
    | _=>⟨off<l.length,l.getD off .any,h⟩
   | none=>⟨False,.any,h⟩
  | _,_=>⟨False,.any,h⟩
 | .makeFunc fn fi ca=>⟨True,.f fn (fi.toList.map ev) (ca.toList.map ev),h⟩
 | _=>⟨False,.any,h⟩
def two (op:Op) (ev:Operand→AV) (h:Heap) (i:Nat):Option (ARes×ARes) :=
 match op with
 | .call c=>match c.callee,c.args.toList,c.argTypes.toList with
  | .builtin .append,[s,x],[t,t']=>match (X.ti t).d,ev s with
   | .slice e,.s id ver off len=>match h id with
    | some k=>some (⟨t'=t∧(X.ti e).d≠.other∧0<(X.ti e).size∧(ev x).isS∧sls h (ev x) 0 ((ev x).slen*(X.ti e).size)∧k.ver=ver∧off=0∧k.rw=true∧k.esz=(X.ti e).size∧k.cells.length=len*(X.ti e).size∧(len+(ev x).slen)*(X.ti e).bytes≤140737488355328∧len+(ev x).slen≤9223372036854775807,
       .s id ver 0 (len+(ev x).slen),up h id (some {k with cells:=k.cells++slc h (ev x) 0 ((ev x).slen*(X.ti e).size)})⟩,
      ⟨True,.s i 0 0 (len+(ev x).slen),up h i (some ⟨k.cells++slc h (ev x) 0 ((ev x).slen*(X.ti e).size),0,true,(X.ti e).size⟩)⟩)
    | none=>none
   | _,_=>none
  | _,_,_=>none
 | _=>none
end
end Go.Eng
