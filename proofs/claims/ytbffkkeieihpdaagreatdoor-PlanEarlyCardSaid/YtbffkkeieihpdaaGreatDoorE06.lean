import Derived.Test.YtbffkkeieihpdaaGreatDoorE05
import Derived.Orders
set_option linter.unusedSimpArgs false
set_option linter.unusedVariables false
set_option linter.constructorNameAsVariable false
set_option maxRecDepth 100000
set_option maxHeartbeats 4000000
namespace Go.Eng
open Go Go.RowKit
structure St where
 e:Nat→AV
 h:Heap
 n:Nat
def constAV:Value→AV
 | .agg cs=>.g (cs.toList.map .v)
 | x=>.v x
def ev (e:Nat→AV):Operand→AV
 | .tmp t=>e t
 | .const c=>constAV c
 | .global g=>.gp g 0
 | .func f=>.f (.func f) [] []
def setd (e:Nat→AV) (dst:Option Tmp) (x:AV):Nat→AV :=
 match dst with
 | some d=>up e d x
 | none=>e
def ystop (ops:Array Oper) (j:Nat):Option Tmp:=(ops[j]?).bind (·.dst)
def yav (ops:Array Oper) (e:Nat→AV) (j:Nat):AV :=
 match ystop ops j with
 | some d=>e d
 | none=>.any
theorem zR1 (g:Bool) (x:AV):AV.unc g (.c g x)=x:=by cases g<;>rfl
theorem yC8 (x:AV):AV.unc true (.c true x)=x:=rfl
theorem yC9 (x:AV):AV.unc true (.c false x)=.any:=rfl
theorem yIk (x:AV) (b:Bool):AV.unc false (.c b x)=x:=by cases b<;>rfl
theorem zWe (g:Bool):AV.unc g .any=.any:=rfl
theorem yIe (g:Bool) (x:Value):AV.unc g (.v x)=.v x:=rfl
theorem yDa (g:Bool) (x o:Nat):AV.unc g (.gp x o)=.gp x o:=rfl
theorem yIh (g:Bool) (x v o:Nat):AV.unc g (.p x v o)=.p x v o:=rfl
theorem yIg (g:Bool) (x v o n:Nat):AV.unc g (.s x v o n)=.s x v o n:=rfl
theorem yIl (g:Bool):AV.unc g .e=.e:=rfl
theorem yIj (g:Bool) (l:List AV):AV.unc g (.g l)=.g l:=rfl
theorem yIf (g:Bool) (l:List AV):AV.unc g (.t l)=.t l:=rfl
theorem yDb (g:Bool) (f:Fn) (l m:List AV):AV.unc g (.f f l m)=.f f l m:=rfl
theorem zWc (g b:Bool) (x:AV):(AV.unc g (.c b x)).okb=((g=true→b=true)∧x.okb):=by cases g<;>cases b<;>simp[AV.unc,AV.okb,AV.isB]
theorem yDc (g b:Bool) (x:AV):(AV.unc g (.c b x)).bb=(!(g && !b)&&x.bb):=by cases g<;>cases b<;>simp[AV.unc,AV.bb,AV.b]
theorem zWd (g b:Bool) (x:AV):(AV.unc g (.c b x)).isB=((g=true→b=true)∧x.isB):=by cases g<;>cases b<;>simp[AV.unc,AV.isB]
theorem yIm (g b:Bool) (x:AV):(AV.unc g (.c b x)).b=(!(g && !b)&&x.b):=by cases g<;>cases b<;>simp[AV.unc,AV.b]
section
variable (X:Ctx)
def aop (ops:Array Oper) (o:Oper) (e:Nat→AV) (h:Heap) (i:Nat) (hp:Heap):ARes :=
 match o.guard with
 | none=>aeval X o.op (ev e) h i hp
 | some (j,want)=>⟨heapOp o.op=false∧(yav ops e j).okg∧((yav ops e j).gd want=true→(aeval X o.op (fun x=>AV.unc ((yav ops e j).gd want) (ev e x)) h i hp).side),
   .c ((yav ops e j).gd want) (aeval X o.op (fun x=>AV.unc ((yav ops e j).gd want) (ev e x)) h i hp).val,h⟩
def ACall (f:FuncId) (args:List AV) (h:Heap) (n:Nat) (Q:AV→Heap→Nat→Prop):Prop :=
 (∀args w,(callFunc f args).run X.P w=.ok (.enter f args) w)∧
 ∀K w0 ρ w vs,Rel X K w0 ρ (n≤·) h w→VRs ρ args vs→Calls X.P f vs.toArray w fun e w'=>∃y,e=.returned y∧∃ρ' z h' n',ρ.le ρ'∧VR ρ' z y∧Rel X K w0 ρ' (n'≤·) h' w'∧Q z h' n'
def gev (ops:Array Oper) (o:Oper) (e:Nat→AV):Operand→AV :=
 match o.guard with
 | none=>ev e
 | some (j,want)=>fun x=>AV.unc ((yav ops e j).gd want) (ev e x)
def gocall (ops:Array Oper) (o:Oper) (e:Nat→AV):Option (FuncId×List AV) :=
 match o.op with
 | .call c=>match c.callee with
  | .value fo=>match ev e fo with
   | .f (.func f) fi ca=>if (X.pf f).isSome then none else some (f,fi++c.args.toList.map (gev ops o e)++ca)
   | _=>none
  | _=>none
 | _=>none
def zQi (ops:Array Oper) (o:Oper) (e:Nat→AV) (h:Heap) (i:Nat):Option (ARes×ARes) :=
 if X.two=true then match o.guard with
  | none=>two X o.op (ev e) h i
  | some _=>none
 else none
theorem zZ7 {X:Ctx} (h2:X.two=false) (ops:Array Oper) (o:Oper) (e:Nat→AV) (h:Heap) (i:Nat):zQi X ops o e h i=none:=if_neg (by rw[h2];exact Bool.false_ne_true)
theorem yEt {X:Ctx} (h2:X.two=true) (ops:Array Oper) (o:Oper) (e:Nat→AV) (h:Heap) (i:Nat):zQi X ops o e h i=match o.guard with
  | none=>two X o.op (ev e) h i
  | some _=>none:=if_pos h2
def zFi (ops:Array Oper) (o:Oper) (s:St) (Kt:AV→Heap→Nat→Prop):Prop :=
 match gocall X ops o s.e with
 | some (f,as)=>match o.guard with
  | none=>ACall X f as s.h s.n Kt
  | some (j,want)=>(yav ops s.e j).okg∧((yav ops s.e j).gd want=true→ACall X f as s.h s.n fun v h n=>Kt (.c ((yav ops s.e j).gd want) v) h n)∧((yav ops s.e j).gd want=false→Kt (.c ((yav ops s.e j).gd want) .any) s.h s.n)
 | none=>match zQi X ops o s.e s.h s.n with
  | none=>(aop X ops o s.e s.h s.n s.h).side∧Kt (aop X ops o s.e s.h s.n s.h).val (aop X ops o s.e s.h s.n s.h).h (if heapOp o.op then s.n+1 else s.n)
  | some (x,y)=>x.side∧Kt x.val x.h (s.n+1)∧Kt y.val y.h (s.n+1)
def zOb (ops:Array Oper) (K:St→Prop):List Oper→St→Prop
 | [],s=>K s
 | o::r,s=>zFi X ops o s fun v h n=>zOb ops K r ⟨setd s.e o.dst v,h,n⟩
def quietOp (o:Oper):Bool :=
 match o.op with
 | .move _ | .assign _ | .pick _ _ _ | .build _ _ | .load _ _ | .nilCheck _ | .binOp _ _ _ _ _ | .unOp _ _ _ | .convert _ _ _ | .slice _ _ _ _ _ | .fieldAddr _ _ _ | .indexAddr _ _ _ | .extract _ _ | .index _ _ _ | .field _ _ _ | .makeFunc _ _ _=>true
 | .call c=>match c.callee with
  | .builtin .len | .builtin .min | .builtin .max=>true
  | .value (.func f)=>(X.pf f).isSome
  | _=>false
 | _=>false
def isA (acc:List Bool) (o:Oper):Bool:=quietOp X o&&o.after.toList.all fun e => !Region.binds .any e||acc.getD e.on false
def goOp (o:Oper):Bool:=match o.op with
 | .call c=>match c.callee with
  | .value _=>true
  | _=>false
 | _=>false
def mkOp:Op→Bool
 | .buildSlice _ _ _ | .makeSlice _ _ _=>true
 | _=>false
def appNew (ops:Array Oper) (o:Oper):Bool:=match o.op with
 | .call c=>match c.callee,c.args.toList with
  | .builtin .append,.tmp t::_=>ops.toList.any fun p=>p.dst==some t&&mkOp p.op
  | _,_=>false
 | _=>false
def monoOp (X:Ctx) (o:Oper):Bool:=goOp o||quietOp X o||match o.op with
 | .alloc _ | .box _ _ | .buildSlice _ _ _ | .makeSlice _ _ _=>true
 | _=>false
def zFn (b:Array Nat) (i j:Nat):Bool:=(b.getD i 0).testBit j
def zTv (X:Ctx):List Oper→List Bool→List Bool
 | [],acc=>acc
 | o::r,acc=>zTv X r (acc++[isA X acc o])
def zLv (o:Oper):Bool:=match o.op with
 | .move _ | .assign _=>true
 | _=>false
def zOu (ops:Array Oper) (k:Nat):Bool:=match ops[k]? with
 | some o=>zLv o
 | none=>false
def yJj (X:Ctx) (ops:Array Oper) (i:Nat):Bool:=(List.range ops.size).all fun k => !(zTv X ops.toList []).getD k false||zOu ops k||zFn (Region.before ops) i k
def keepOp (X:Ctx) (ops:Array Oper) (i:Nat) (o:Oper):Bool:=goOp o||X.two && !monoOp X o && !appNew ops o && !yJj X ops i
def freeOp (o:Oper) (rem:List (Nat×Oper)):Bool:=o.after.toList.all fun e => !Region.binds .any e||rem.all fun p=>p.1 != e.on
def zEy (h h':Heap):AV→Prop
 | .p id _ _=>∀k,h id=some k→h' id=some k
 | .c _ v=>zEy h h' v
 | _=>True
def wZ (ops:Array Oper):List Tmp:=ops.toList.filterMap fun o=>match o.op with
 | .load _ (.tmp t)=>some t
 | _=>none
def zEa (ops:Array Oper) (e:Nat→AV) (h h':Heap):Prop:=h.le h'∨(ops.toList.all fun o => !(goOp o&&quietOp X o))=true∧∀t∈wZ ops,zEy h h' (e t)
theorem zAp {b:Bool} {Q:Prop} (h:b=true):b=false→Q:=fun e=>by rw[h]at e;cases e
theorem zFc {X:Ctx} {ops:Array Oper} {e:Nat→AV} {h h':Heap} (hh:h.le h'):zEa X ops e h h':=.inl hh
theorem zMb (ops:Array Oper) (e:Nat→AV) (h:Heap):zEa X ops e h h=True:=propext ⟨fun _=>trivial,fun _=>.inl (Heap.le_refl h)⟩
theorem zHu {h h':Heap} (hh:h.le h'):∀v:AV,zEy h h' v
 | .p _ _ _=>fun k e=>hh _ k e
 | .c _ v=>zHu hh v
 | .any | .v _ | .gp _ _ | .s _ _ _ _ | .g _ | .t _ | .f _ _ _ | .e | .mv _ _=>trivial
theorem yBw {X:Ctx} {ops:Array Oper} {e:Nat→AV} {h h':Heap} (hh:zEa X ops e h h') {k:Nat} {o:Oper} {ty t} (ho:ops[k]? = some o) (hop:o.op=.load ty (.tmp t)):zEy h h' (e t):=by
 rcases hh with hh|hh
 ·exact zHu hh _
 ·refine hh.2 t (List.mem_filterMap.2 ⟨o,?_,by rw[hop]⟩)
  rw[←xC]at ho;exact xW ho
@[congr] theorem keepL_congr {X:Ctx} {ops:Array Oper} {e:Nat→AV} {h h' k k':Heap} (e1:h=h') (e2:k=k'):zEa X ops e h k=zEa X ops e h' k':=by rw[e1,e2]
def atl (ops:Array Oper) (h0:Heap) (K:St→Prop):Nat→List (Nat×Oper)→St→Prop
 | 0,rem,s=>rem=[]→K s
 | f+1,rem,s=>(rem=[]→K s)∧∀p∈rem,freeOp p.2 rem=true→zFi X ops p.2 s fun v h n=>(keepOp X ops p.1 p.2=true→zEa X ops s.e s.h h)∧(appNew ops p.2=true→h0.le h)∧atl ops h0 K f (rem.filter fun q=>q.1 != p.1) ⟨setd s.e p.2.dst v,h,n⟩
def zLb (ops:Array Oper) (h0:Heap) (K:St→Prop) (f:Nat) (rem:List (Nat×Oper)) (s:St):List (Nat×Oper)→Prop
 | []=>True
 | p::r=>(freeOp p.2 rem=true→zFi X ops p.2 s fun v h n=>(keepOp X ops p.1 p.2=true→zEa X ops s.e s.h h)∧(appNew ops p.2=true→h0.le h)∧atl X ops h0 K f (rem.filter fun q=>q.1 != p.1) ⟨setd s.e p.2.dst v,h,n⟩)∧zLb ops h0 K f rem s r
def zEg (ops:Array Oper) (K:St→Prop):List Oper→List Bool→List (Nat×Oper)→St→Prop
 | [],_,tl,s=>atl X ops s.h K tl.length tl s
 | o::r,acc,tl,s=>if isA X acc o=true then (aop X ops o s.e s.h s.n s.h).side∧zEg ops K r (acc++[true]) tl ⟨setd s.e o.dst (aop X ops o s.e s.h s.n s.h).val,s.h,s.n⟩else zEg ops K r (acc++[false]) (tl++[(acc.length,o)]) s
def yCz (ops:Array Oper) (K:St→Prop) (l:List Oper) (s:St):Prop:=zEg X ops K l [] [] s
theorem zT2 (ops:Array Oper) (K:St→Prop) (s:St):zOb X ops K [] s=K s:=propext ⟨id,id⟩
theorem yDe (ops:Array Oper) (o:Oper) (e:Nat→AV) (h:Heap) (i:Nat) (A:Prop) (B:ARes→ARes→Prop):(match zQi X ops o e h i with|none=>A|some (x,y)=>B x y)=if X.two=true then (match zQi X ops o e h i with|none=>A|some (x,y)=>B x y)else A:=by
 by_cases h2:X.two=true
 ·rw[if_pos h2]
 ·rw[if_neg h2,zZ7 (by simpa using h2)]
theorem zQd (ops:Array Oper) (K:St→Prop) (o:Oper) (r:List Oper) (s:St):zOb X ops K (o::r) s =
  match gocall X ops o s.e with
  | some (f,as)=>(match o.guard with
   | none=>ACall X f as s.h s.n fun v h n=>zOb X ops K r ⟨setd s.e o.dst v,h,n⟩
   | some (j,want)=>(yav ops s.e j).okg∧((yav ops s.e j).gd want=true→ACall X f as s.h s.n fun v h n=>zOb X ops K r ⟨setd s.e o.dst (.c ((yav ops s.e j).gd want) v),h,n⟩)∧((yav ops s.e j).gd want=false→zOb X ops K r ⟨setd s.e o.dst (.c ((yav ops s.e j).gd want) .any),s.h,s.n⟩))
  | none=>if X.two=true then (match zQi X ops o s.e s.h s.n with
   | none=>(aop X ops o s.e s.h s.n s.h).side∧zOb X ops K r ⟨setd s.e o.dst (aop X ops o s.e s.h s.n s.h).val,(aop X ops o s.e s.h s.n s.h).h,if heapOp o.op then s.n+1 else s.n⟩
   | some (x,y)=>x.side∧zOb X ops K r ⟨setd s.e o.dst x.val,x.h,s.n+1⟩∧zOb X ops K r ⟨setd s.e o.dst y.val,y.h,s.n+1⟩)
   else (aop X ops o s.e s.h s.n s.h).side∧zOb X ops K r ⟨setd s.e o.dst (aop X ops o s.e s.h s.n s.h).val,(aop X ops o s.e s.h s.n s.h).h,if heapOp o.op then s.n+1 else s.n⟩:=by
 show zFi X ops o s (fun v h n=>zOb X ops K r ⟨setd s.e o.dst v,h,n⟩)=_
 unfold zFi;cases gocall X ops o s.e with
 | some q=>rfl
 | none=>exact yDe X ops o s.e s.h s.n _ fun x y=>x.side∧zOb X ops K r ⟨setd s.e o.dst x.val,x.h,s.n+1⟩∧zOb X ops K r ⟨setd s.e o.dst y.val,y.h,s.n+1⟩
theorem zRq (ops:Array Oper) (h0:Heap) (K:St→Prop) (f:Nat) (s:St):atl X ops h0 K f [] s=K s:=propext (by
 cases f with
 | zero=>exact⟨fun h=>h rfl,fun h _=>h⟩
 | succ f=>exact⟨fun h=>h.1 rfl,fun h=>⟨fun _=>h,fun p hp=>(by cases hp)⟩⟩)
theorem zMl (ops:Array Oper) (h0:Heap) (K:St→Prop) (f:Nat) (rem:List (Nat×Oper)) (s:St):∀l,zLb X ops h0 K f rem s l↔∀p∈l,freeOp p.2 rem=true→zFi X ops p.2 s fun v h n=>(keepOp X ops p.1 p.2=true→zEa X ops s.e s.h h)∧(appNew ops p.2=true→h0.le h)∧atl X ops h0 K f (rem.filter fun q=>q.1 != p.1) ⟨setd s.e p.2.dst v,h,n⟩
 | []=>⟨fun _ _ hp=>(by cases hp),fun _=>trivial⟩
 | p::r=>by
  rw[List.forall_mem_cons,←zMl ops h0 K f rem s r];exact Iff.rfl
theorem zT1 (ops:Array Oper) (h0:Heap) (K:St→Prop) (f:Nat) (p:Nat×Oper) (r:List (Nat×Oper)) (s:St):atl X ops h0 K (f+1) (p::r) s=zLb X ops h0 K f (p::r) s (p::r):=propext (by
 rw[zMl];exact⟨fun h=>h.2,fun h=>⟨fun e=>(by cases e),h⟩⟩)
theorem zMk (ops:Array Oper) (h0:Heap) (K:St→Prop) (f:Nat) (rem:List (Nat×Oper)) (s:St):zLb X ops h0 K f rem s []=True:=propext ⟨fun _=>trivial,fun _=>trivial⟩
theorem zLa (ops:Array Oper) (h0:Heap) (K:St→Prop) (f:Nat) (rem:List (Nat×Oper)) (s:St) (p:Nat×Oper) (r:List (Nat×Oper)):zLb X ops h0 K f rem s (p::r) =
  ((if freeOp p.2 rem=true then (match gocall X ops p.2 s.e with
  | some (g,as)=>(match p.2.guard with
   | none=>ACall X g as s.h s.n fun v h n=>(keepOp X ops p.1 p.2=true→zEa X ops s.e s.h h)∧(appNew ops p.2=true→h0.le h)∧atl X ops h0 K f (rem.filter fun q=>q.1 != p.1) ⟨setd s.e p.2.dst v,h,n⟩
   | some (j,want)=>(yav ops s.e j).okg∧((yav ops s.e j).gd want=true→ACall X g as s.h s.n fun v h n=>(keepOp X ops p.1 p.2=true→zEa X ops s.e s.h h)∧(appNew ops p.2=true→h0.le h)∧atl X ops h0 K f (rem.filter fun q=>q.1 != p.1) ⟨setd s.e p.2.dst (.c ((yav ops s.e j).gd want) v),h,n⟩)∧((yav ops s.e j).gd want=false→(keepOp X ops p.1 p.2=true→zEa X ops s.e s.h s.h)∧(appNew ops p.2=true→h0.le s.h)∧atl X ops h0 K f (rem.filter fun q=>q.1 != p.1) ⟨setd s.e p.2.dst (.c ((yav ops s.e j).gd want) .any),s.h,s.n⟩))
  | none=>if X.two=true then (match zQi X ops p.2 s.e s.h s.n with
   | none=>(aop X ops p.2 s.e s.h s.n s.h).side∧(keepOp X ops p.1 p.2=true→zEa X ops s.e s.h (aop X ops p.2 s.e s.h s.n s.h).h)∧(appNew ops p.2=true→h0.le (aop X ops p.2 s.e s.h s.n s.h).h)∧atl X ops h0 K f (rem.filter fun q=>q.1 != p.1) ⟨setd s.e p.2.dst (aop X ops p.2 s.e s.h s.n s.h).val,(aop X ops p.2 s.e s.h s.n s.h).h,if heapOp p.2.op then s.n+1 else s.n⟩
   | some (x,y)=>x.side∧((keepOp X ops p.1 p.2=true→zEa X ops s.e s.h x.h)∧(appNew ops p.2=true→h0.le x.h)∧atl X ops h0 K f (rem.filter fun q=>q.1 != p.1) ⟨setd s.e p.2.dst x.val,x.h,s.n+1⟩)∧(keepOp X ops p.1 p.2=true→zEa X ops s.e s.h y.h)∧(appNew ops p.2=true→h0.le y.h)∧atl X ops h0 K f (rem.filter fun q=>q.1 != p.1) ⟨setd s.e p.2.dst y.val,y.h,s.n+1⟩)
   else (aop X ops p.2 s.e s.h s.n s.h).side∧(keepOp X ops p.1 p.2=true→zEa X ops s.e s.h (aop X ops p.2 s.e s.h s.n s.h).h)∧(appNew ops p.2=true→h0.le (aop X ops p.2 s.e s.h s.n s.h).h)∧atl X ops h0 K f (rem.filter fun q=>q.1 != p.1) ⟨setd s.e p.2.dst (aop X ops p.2 s.e s.h s.n s.h).val,(aop X ops p.2 s.e s.h s.n s.h).h,if heapOp p.2.op then s.n+1 else s.n⟩)else True)∧zLb X ops h0 K f rem s r):=by
 show ((freeOp p.2 rem=true→zFi X ops p.2 s fun v h n=>(keepOp X ops p.1 p.2=true→zEa X ops s.e s.h h)∧(appNew ops p.2=true→h0.le h)∧atl X ops h0 K f (rem.filter fun q=>q.1 != p.1) ⟨setd s.e p.2.dst v,h,n⟩)∧zLb X ops h0 K f rem s r)=_
 congr 1;by_cases hf:freeOp p.2 rem=true
 ·rw[if_pos hf]
  refine (propext ⟨fun h=>h hf,fun h _=>h⟩:_=zFi X ops p.2 s _).trans ?_
  unfold zFi;cases gocall X ops p.2 s.e with
  | some q=>rfl
  | none=>exact yDe X ops p.2 s.e s.h s.n _ fun x y=>x.side∧((keepOp X ops p.1 p.2=true→zEa X ops s.e s.h x.h)∧(appNew ops p.2=true→h0.le x.h)∧atl X ops h0 K f (rem.filter fun q=>q.1 != p.1) ⟨setd s.e p.2.dst x.val,x.h,s.n+1⟩)∧(keepOp X ops p.1 p.2=true→zEa X ops s.e s.h y.h)∧(appNew ops p.2=true→h0.le y.h)∧atl X ops h0 K f (rem.filter fun q=>q.1 != p.1) ⟨setd s.e p.2.dst y.val,y.h,s.n+1⟩
 ·rw[if_neg hf]
  exact propext ⟨fun _=>trivial,fun _ h'=>absurd h' hf⟩
theorem zMp (ops:Array Oper) (K:St→Prop) (acc:List Bool) (tl:List (Nat×Oper)) (s:St):zEg X ops K [] acc tl s=atl X ops s.h K tl.length tl s:=propext ⟨id,id⟩
theorem zLe (ops:Array Oper) (K:St→Prop) (o:Oper) (r:List Oper) (acc:List Bool) (tl:List (Nat×Oper)) (s:St):zEg X ops K (o::r) acc tl s =
  if isA X acc o=true then (aop X ops o s.e s.h s.n s.h).side∧zEg X ops K r (acc++[true]) tl ⟨setd s.e o.dst (aop X ops o s.e s.h s.n s.h).val,s.h,s.n⟩else zEg X ops K r (acc++[false]) (tl++[(acc.length,o)]) s:=propext ⟨id,id⟩
theorem zT4 (ops:Array Oper) (K:St→Prop) (l:List Oper) (s:St):yCz X ops K l s=zEg X ops K l [] [] s:=propext ⟨id,id⟩
@[congr] theorem ACall_congr {X:Ctx} {f f':FuncId} {l l':List AV} {h h':Heap} {n n':Nat} {Q:AV→Heap→Nat→Prop} (e0:f=f') (e1:l=l') (e2:h=h') (e3:n=n'):ACall X f l h n Q=ACall X f' l' h' n' Q:=by rw[e0,e1,e2,e3]
end
section
variable {X:Ctx} {K:Nat→Prop} {w0:World} {ρ:Ren} {F:Nat→Prop} {h:Heap} {w:World} {i:Nat}
def EnvR (ρ:Ren) (e:Nat→AV) (a:Act) (sz:Nat):Prop:=a.tmps.size=sz∧a.defers=[]∧∀t,t<sz→VR ρ (e t) (a.tmps.getD t undef)
def zPe (sz:Nat):Operand→Bool
 | .tmp t=>decide (t<sz)
 | _=>true
def zPd (ops:Array Oper) (sz:Nat) (o:Oper):Bool :=
 o.op.operands.toList.all (zPe sz)&&(match o.dst with|some d=>decide (d<sz)|none=>true) &&
 (match o.guard with|some (j,_)=>(match ystop ops j with|some d=>decide (d<sz)|none=>false)|none=>true)
theorem zVm (c:Value):VR ρ (constAV c) c:=by
 unfold constAV;split
 ·rename_i cs
  simp only[VR];exact⟨cs.toList,by simp,zOd _⟩
 ·simp[VR]
theorem EnvR.ev {e:Nat→AV} {a:Act} {sz:Nat} (he:EnvR ρ e a sz) {x:Operand} (hx:zPe sz x=true):VR ρ (Eng.ev e x) (a.eval x):=by
 cases x with
 | tmp t=>exact he.2.2 t (by simpa[zPe]using hx)
 | const c=>exact zVm c
 | global g=>simp[Eng.ev,VR,Act.eval]
 | func f=>simp only[Eng.ev,VR,Act.eval];exact⟨[],[],rfl,by simp[VRs],by simp[VRs]⟩
theorem EnvR.mono {ρ ρ':Ren} (hρ:ρ.le ρ') {e:Nat→AV} {a:Act} {sz:Nat} (he:EnvR ρ e a sz):EnvR ρ' e a sz:=⟨he.1,he.2.1,fun t ht=>VR.mono hρ _ _ (he.2.2 t ht)⟩
theorem EnvR.put {e:Nat→AV} {a:Act} {sz:Nat} (he:EnvR ρ e a sz) (dst:Option Tmp) (hd:(match dst with|some d=>decide (d<sz)|none=>true)=true) {x:AV} {y:Value} (hx:VR ρ x y):EnvR ρ (setd e dst x) (a.put dst y) sz:=by
 cases dst with
 | none=>exact he
 | some d =>
  have hd':d<sz:=by simpa using hd
  refine⟨by simp[Act.put,he.1],by simp[Act.put,he.2.1],fun t ht => ?_⟩
  simp only[setd,Act.put,up];by_cases htd:t=d
  ·subst htd
   simp[he.1,ht,hx]
  ·rw[if_neg htd]
   have:(a.tmps.setIfInBounds d y).getD t undef=a.tmps.getD t undef:=by
    simp only[wO];rw[Array.getElem?_setIfInBounds_ne (by omega)]
   rw[this];exact he.2.2 t ht
theorem yDd {g:Bool} (hg:g=true) {x:AV} {y:Value} (hx:VR ρ x y):VR ρ (AV.unc g x) y:=by
 cases x with
 | c b z =>
  simp only[AV.unc,hg,zCi];cases b with
  | true=>simp only[VR]at hx;simpa using hx.1 trivial
  | false=>simp[VR]
 | _=>simpa[AV.unc]using hx
theorem zIy (op:Op) (evv:Operand→AV) (hp:Heap) (hq:heapOp op=false):(aeval X op evv h i hp).h=h:=by
 cases op<;>simp only[heapOp,Bool.true_eq_false]at hq<;>(try (simp only[aeval];done))<;>(try (simp only[aeval];repeat' split)<;>rfl)
 all_goals (simp only[aeval];repeat' split)
 all_goals first|rfl|exact yKc _ _ _ _|simp_all
theorem zVp {op:Op} {evv:Operand→AV} {hp:Heap} {c:Call} {fo:Operand} (hc:op=.call c) (hf:c.callee=.value fo) (hs:(aeval X op evv h i hp).side):∃f g,fo=.func f∧X.pf f=some g:=by
 subst hc;obtain⟨callee,args,at'⟩:=c;simp only at hf;subst hf;cases fo with
 | func f =>
  cases hp':X.pf f with
  | none=>simp[aeval,hp']at hs
  | some g=>exact⟨f,g,rfl,hp'⟩
 | _=>simp[aeval]at hs
theorem zG8 {op:Op} {f g:Operand→AV} (hfg:∀x∈op.operands.toList,f x=g x) (hp:Heap):aeval X op f h i hp=aeval X op g h i hp:=by
 have hmap:∀(l:List Operand),(∀x∈l,f x=g x)→l.map f=l.map g:=fun l hl=>zB5 hl
 have hmap2:∀(l:List (Nat×Operand)),(∀p∈l,f p.2=g p.2)→(l.map fun p=>(p.1,f p.2))=l.map fun p=>(p.1,g p.2):=fun l hl=>zB5 fun p hp'=>by rw[hl p hp']
 cases op with
 | build t ps =>
  have e1:=hmap2 ps.toList fun p hp'=>hfg p.2 (by simp only[Op.operands,xU];exact⟨p,hp',rfl⟩)
  simp only[aeval,e1]
 | buildSlice t n ps =>
  have e1:=hmap2 ps.toList fun p hp'=>hfg p.2 (by simp only[Op.operands,xU];exact⟨p,hp',rfl⟩)
  simp only[aeval,e1]
 | makeFunc fn fi ca =>
  have e1:=hmap fi.toList fun x hx=>hfg x (by simp[Op.operands]at hx ⊢;exact .inl hx)
  have e2:=hmap ca.toList fun x hx=>hfg x (by simp[Op.operands]at hx ⊢;exact .inr hx)
  simp only[aeval,e1,e2]
 | slice t x lo hi mx =>
  have e1:=hfg x (by simp[Op.operands])
  have e2:optInt f lo=optInt g lo:=by
   cases lo with
   | none=>rfl
   | some o=>simp only[optInt];rw[hfg o (by simp[Op.operands])]
  have e3:optInt f hi=optInt g hi:=by
   cases hi with
   | none=>rfl
   | some o=>simp only[optInt];rw[hfg o (by simp[Op.operands])]
  have e4:∀d,optI f d lo=optI g d lo:=fun d=>by
   cases lo with
   | none=>rfl
   | some o=>simp only[optI];rw[hfg o (by simp[Op.operands])]
  have e5:∀d,optI f d hi=optI g d hi:=fun d=>by
   cases hi with
   | none=>rfl
   | some o=>simp only[optI];rw[hfg o (by simp[Op.operands])]
  simp only[aeval,e1,e2,e3,e4,e5]
 | call c =>
  obtain⟨callee,⟨args⟩,⟨at'⟩⟩:=c;have e1:=hmap args fun x hx=>hfg x (by simp[Op.operands,Call.operands];exact .inr hx)
  have e2:∀x∈args,f x=g x:=fun x hx=>hfg x (by simp[Op.operands,Call.operands];exact .inr hx)
  simp only[aeval];split<;>first|rfl|(rename_i hq;simp only[hq,e1];done)|skip
  all_goals first|(simp only[e1];done)|(simp only[yD,yA,or_false,forall_eq_or_imp,forall_eq]at e2;simp only[e2];done)|(obtain⟨q1,q2⟩:=e2;simp only[q1,q2];done)|skip
 | move x=>have e1:=hfg x (by simp[Op.operands]);simp only[aeval,e1]
 | assign x=>have e1:=hfg x (by simp[Op.operands]);simp only[aeval,e1]
 | pick c x y=>have e1:=hfg c (by simp[Op.operands]);have e2:=hfg x (by simp[Op.operands]);have e3:=hfg y (by simp[Op.operands]);simp only[aeval,e1,e2,e3]
 | alloc t=>rfl
 | box t x=>have e1:=hfg x (by simp[Op.operands]);simp only[aeval,e1]
 | load t x=>have e1:=hfg x (by simp[Op.operands]);simp only[aeval,e1]
 | store t x y=>have e1:=hfg x (by simp[Op.operands]);have e2:=hfg y (by simp[Op.operands]);simp only[aeval,e1,e2]
 | nilCheck x=>have e1:=hfg x (by simp[Op.operands]);simp only[aeval,e1]
 | binOp op xt x y yt=>have e1:=hfg x (by simp[Op.operands]);have e2:=hfg y (by simp[Op.operands]);simp only[aeval,e1,e2]
 | unOp op xt x=>have e1:=hfg x (by simp[Op.operands]);simp only[aeval,e1]
 | convert s d x=>have e1:=hfg x (by simp[Op.operands]);simp only[aeval,e1]
 | makeSlice t x y=>have e1:=hfg x (by simp[Op.operands]);have e2:=hfg y (by simp[Op.operands]);simp only[aeval,e1,e2]
 | fieldAddr t x f'=>have e1:=hfg x (by simp[Op.operands]);simp only[aeval,e1]
 | indexAddr t x y=>have e1:=hfg x (by simp[Op.operands]);have e2:=hfg y (by simp[Op.operands]);simp only[aeval,e1,e2]
 | extract x j=>have e1:=hfg x (by simp[Op.operands]);simp only[aeval,e1]
 | lookup t x y cok=>have e1:=hfg x (by simp[Op.operands]);have e2:=hfg y (by simp[Op.operands]);simp only[aeval,e1,e2]
 | mapUpdate t x y z=>have e1:=hfg x (by simp[Op.operands]);have e2:=hfg y (by simp[Op.operands]);have e3:=hfg z (by simp[Op.operands]);simp only[aeval,e1,e2,e3]
 | index t x y=>have e1:=hfg x (by simp[Op.operands]);have e2:=hfg y (by simp[Op.operands]);simp only[aeval,e1,e2]
 | makeMap t rsv=>cases rsv with
  | none=>cases hd:(X.ti t).d<;>simp only[aeval,hd]
  | some x=>have e1:=hfg x (by simp[Op.operands]);cases hd:(X.ti t).d<;>simp only[aeval,hd,e1]
 | field t x f'=>have e1:=hfg x (by simp[Op.operands]);simp only[aeval,e1]
 | _=>rfl
theorem zOh {op:Op} {f g:Operand→AV} (hfg:∀x∈op.operands.toList,f x=g x):two X op f h i=two X op g h i:=by
 cases op with
 | call c =>
  obtain⟨callee,⟨args⟩,⟨at'⟩⟩:=c;have e2:∀x∈args,f x=g x:=fun x hx=>hfg x (by simp[Op.operands,Call.operands];exact .inr hx)
  simp only[two];split
  ·simp only[yD,yA,or_false,forall_eq_or_imp,forall_eq]at e2
   simp only[e2]
  ·rfl
 | _=>rfl
theorem Rel.bound (r:Rel X K w0 ρ F h w) (hF:∃m,∀j,m≤j→F j):∃m,∀j,m≤j→(∀ver,ρ j ver=none)∧h j=none :=
 let ⟨m,hm⟩:=hF
 ⟨m,fun j hj=>r.free j (hm j hj)⟩
theorem zOx (ok:Ok X) {ops:Array Oper} {sz:Nat} {o:Oper} (hop:zPd ops sz o=true) {a:Act} {hp:Heap} (hhp:∀j k,hp j=some k→h j=some k)
  (r:Rel X K w0 ρ F h w) (hF:∃m,∀j,m≤j→F j) (hi:F i)
  (evv:Operand→AV) (hs:(aeval X o.op evv h i hp).side) (hvr:∀x,zPe sz x=true→VR ρ (evv x) (a.eval x)) {next:Act→World→Prop} {Q:Exit→Act→World→Prop}
  (hk:∀y w' ρ',ρ.le ρ'→Rel X K w0 ρ' (fun j=>F j∧(heapOp o.op=true→j≠i)) (aeval X o.op evv h i hp).h w'→VR ρ' (aeval X o.op evv h i hp).val y→next (a.put o.dst y) w'):o.wp X.P a w next Q:=by
 simp only[zPd,zO]at hop;obtain⟨⟨ho1,_⟩,_⟩:=hop;have hall:∀x∈o.op.operands.toList,zPe sz x=true:=zR.1 ho1
 -- the other operands do not matter:let them be known as nothing
 let evs:Operand→AV:=fun x=>if zPe sz x=true then evv x else .any
 have hevs:∀x,VR ρ (evs x) (a.eval x):=fun x=>by
  by_cases hx:zPe sz x=true
  ·have:evs x=evv x:=by simp[evs,hx]
   rw[this];exact hvr x hx
  ·have:evs x=.any:=by simp[evs,hx]
   rw[this];simp[VR]
 have hcg:aeval X o.op evs h i hp=aeval X o.op evv h i hp:=zG8 (fun x hx=>by simp[evs,hall x hx]) hp
 rw[←hcg]at hs hk;by_cases hcall:∃c fo,o.op=.call c∧c.callee=.value fo
 ·obtain⟨c,fo,hc,hfo⟩:=hcall
  obtain⟨f,g,rfl,hpf⟩:=zVp hc hfo hs;obtain⟨hmono,hcalls⟩:=ok.pf f g hpf;have hae:aeval X o.op evs h i hp=⟨(g (c.args.toList.map evs) hp).side,(g (c.args.toList.map evs) hp).val,h⟩:=by
   obtain⟨callee,⟨args⟩,at'⟩:=c;simp only at hfo;subst hfo;simp only[aeval,hc,hpf]
  rw[hae]at hs hk;obtain⟨hs',hv'⟩:=hmono _ hp h hhp hs;have hex:(execOp a.eval o).run X.P w=(callFunc f (c.args.toList.map a.eval).toArray).run X.P w:=by
   simp only[execOp,hc,resolve,hfo,Deferred.ofValue,Act.eval,Sem.run_bind,Sem.run_pure,Result.andThen_ok,invoke,Array.append_empty,Array.empty_append];congr 2;apply Array.ext';simp
  unfold Oper.wp;rcases hcalls with ⟨hcl,hcalls⟩|hdir
  ·rw[hex,hcl]
   simp only[Oper.upon];refine (hcalls ρ h w _ _ r.ro (r.bound hF) (zKs hevs c.args.toList) hs').mono fun e' w' ⟨y,h1,h2,h3⟩ => ?_
   subst h1;refine hk y w' ρ (Ren.le_refl ρ) ((r.below h3).anti fun _ hj=>hj.1) ?_
   rw[hv']at h2;exact h2
  ·obtain⟨y,h1,h2⟩:=hdir ρ h w _ _ (zKs hevs c.args.toList) hs'
   rw[hex,h1];simp only[Oper.upon];rw[hv']at h2;exact hk y w ρ (Ren.le_refl ρ) (r.anti fun _ hj=>hj.1) h2
 ·have hno:∀c f,o.op=.call c→c.callee≠.value f:=fun c f h1 h2=>hcall ⟨c,f,h1,h2⟩
  obtain⟨nx,w',ρ',h1,h2,h3,h4⟩:=zRs (hp:=hp) ok r hi hevs o hno hs;unfold Oper.wp;rw[h1];rcases h4 with ⟨y,rfl,h5⟩|⟨rfl,h5⟩
  ·exact hk y w' ρ' h2 h3 h5
  ·exact hk undef w' ρ' h2 h3 h5
theorem zOw (ok:Ok X) {ops:Array Oper} {sz:Nat} {o:Oper} (hop:zPd ops sz o=true) {a:Act}
  (r:Rel X K w0 ρ F h w) (hi:F i) (evv:Operand→AV) {q:ARes×ARes} (ht:two X o.op evv h i=some q) (hs:q.1.side) (hvr:∀x,zPe sz x=true→VR ρ (evv x) (a.eval x)) {next:Act→World→Prop} {Q:Exit→Act→World→Prop}
  (hk1:∀y w' ρ',ρ.le ρ'→Rel X K w0 ρ' (fun j=>F j∧j≠i) q.1.h w'→VR ρ' q.1.val y→next (a.put o.dst y) w')
  (hk2:∀y w' ρ',ρ.le ρ'→Rel X K w0 ρ' (fun j=>F j∧j≠i) q.2.h w'→VR ρ' q.2.val y→next (a.put o.dst y) w'):o.wp X.P a w next Q:=by
 simp only[zPd,zO]at hop;obtain⟨⟨ho1,_⟩,_⟩:=hop;have hall:∀x∈o.op.operands.toList,zPe sz x=true:=zR.1 ho1
 let evs:Operand→AV:=fun x=>if zPe sz x=true then evv x else .any
 have hevs:∀x,VR ρ (evs x) (a.eval x):=fun x=>by
  by_cases hx:zPe sz x=true
  ·have:evs x=evv x:=by simp[evs,hx]
   rw[this];exact hvr x hx
  ·have:evs x=.any:=by simp[evs,hx]
   rw[this];simp[VR]
 have hcg:two X o.op evs h i=two X o.op evv h i:=zOh (fun x hx=>by simp[evs,hall x hx])
 rw[←hcg]at ht;unfold Oper.wp;rcases zWg ok r hi hevs o ht hs with ⟨nx,w',ρ',h1,h2,h3,h4⟩|⟨nx,w',ρ',h1,h2,h3,h4⟩
 ·rw[h1]
  rcases h4 with ⟨y,rfl,h5⟩|⟨rfl,h5⟩
  ·exact hk1 y w' ρ' h2 (h3.anti fun j hj=>⟨hj.1,fun _=>hj.2⟩) h5
  ·exact hk1 undef w' ρ' h2 (h3.anti fun j hj=>⟨hj.1,fun _=>hj.2⟩) h5
 ·rw[h1]
  rcases h4 with ⟨y,rfl,h5⟩|⟨rfl,h5⟩
  ·exact hk2 y w' ρ' h2 (h3.anti fun j hj=>⟨hj.1,fun _=>hj.2⟩) h5
  ·exact hk2 undef w' ρ' h2 (h3.anti fun j hj=>⟨hj.1,fun _=>hj.2⟩) h5
theorem zQe (ok:Ok X) {ops:Array Oper} {sz:Nat} {o:Oper} (hop:zPd ops sz o=true) {e:Nat→AV} {a:Act} {hp:Heap} (hhp:∀j k,hp j=some k→h j=some k)
  (r:Rel X K w0 ρ F h w) (hF:∃m,∀j,m≤j→F j) (hi:F i) (he:EnvR ρ e a sz)
  (hs:(aop X ops o e h i hp).side) {next:Act→World→Prop} {Q:Exit→Act→World→Prop}
  (hk:∀y w' ρ',ρ.le ρ'→Rel X K w0 ρ' (fun j=>F j∧(heapOp o.op=true→j≠i)) (aop X ops o e h i hp).h w'→VR ρ' (aop X ops o e h i hp).val y→next (a.put o.dst y) w') :
  if Region.wanted o (yielded ops a.tmps)then o.wp X.P a w next Q else next (a.put o.dst undef) w:=by
 have ho3:(match o.guard with|some (j,_)=>(match ystop ops j with|some d=>decide (d<sz)|none=>false)|none=>true)=true:=by
  simp only[zPd,zO]at hop;exact hop.2
 cases hg:o.guard with
 | none =>
  have hw:Region.wanted o (yielded ops a.tmps)=true:=by simp[Region.wanted,hg]
  rw[if_pos hw];simp only[aop,hg]at hs hk;exact zOx ok hop hhp r hF hi (ev e) hs (fun x hx=>he.ev hx) hk
 | some q =>
  obtain⟨j,want⟩:=q;simp only[hg]at ho3;cases hy:ystop ops j with
  | none=>simp[hy]at ho3
  | some d =>
   simp only[hy,decide_eq_true_eq]at ho3;have hyav:yav ops e j=e d:=by simp[yav,hy]
   simp only[aop,hg,hyav]at hs hk;obtain⟨hq,hb,hs⟩:=hs;have hsl:a.tmps[d]? = some (a.tmps.getD d undef):=by
    rw[wO,Array.getElem?_eq_getElem (by rw[he.1];exact ho3)]
    rfl
   have hyd:(yielded ops a.tmps j==some want)=(e d).gd want:=by
    unfold yielded;have h1:(ops[j]?).bind (·.dst)=some d:=hy;rw[h1];rcases zXm (he.2.2 d ho3) hb want with ⟨b,q1,q2⟩|⟨q1,q2⟩
    ·rw[q1]at hsl
     simp[hsl,q2]
    ·rw[q1]at hsl
     simp[hsl,q2,undef]
   by_cases hgt:(e d).gd want=true
   ·have hw:Region.wanted o (yielded ops a.tmps)=true:=by simp only[Region.wanted,hg];rw[hyd];exact hgt
    rw[if_pos hw];have hheap:=zIy (X:=X) (h:=h) (i:=i) o.op (fun x=>AV.unc ((e d).gd want) (ev e x)) hp hq
    refine zOx ok hop hhp r hF hi (fun x=>AV.unc ((e d).gd want) (ev e x)) (hs hgt) (fun x hx=>yDd hgt (he.ev hx)) fun y w' ρ' h1 h2 h3=>hk y w' ρ' h1 (by rw[hheap]at h2;exact h2) ?_
    simp only[VR];exact⟨fun _=>h3,fun h1=>by rw[hgt]at h1;cases h1⟩
   ·have hw:Region.wanted o (yielded ops a.tmps)=false:=by
     simp only[Region.wanted,hg];rw[hyd];simpa using hgt
    rw[if_neg (by simp[hw])]
    refine hk undef w ρ (Ren.le_refl ρ) (r.anti fun _ hj=>hj.1) ?_
    simp only[VR];exact⟨fun h1=>absurd h1 hgt,fun _=>trivial⟩
theorem zYu {ops:Array Oper} {sz:Nat} {o:Oper} (hop:zPd ops sz o=true):(match o.dst with|some d=>decide (d<sz)|none=>true)=true:=by
 simp only[zPd,zO]at hop;exact hop.1.2
theorem zPt {ops:Array Oper} {o:Oper} {e:Nat→AV} {q:FuncId×List AV} (h:gocall X ops o e=some q):∃c fo fi ca,o.op=.call c∧c.callee=.value fo∧ev e fo=.f (.func q.1) fi ca∧q.2=fi++c.args.toList.map (gev ops o e)++ca:=by
 unfold gocall at h;split at h
 ·rename_i c hc
  split at h
  ·rename_i fo hfo
   split at h
   ·rename_i f' fi ca hev
    split at h
    ·cases h
    ·simp only[Option.some.injEq]at h
     subst h;exact⟨c,fo,fi,ca,hc,hfo,hev,rfl⟩
   ·cases h
  ·cases h
 ·cases h
theorem zQg {ops:Array Oper} {sz:Nat} {o:Oper} (hop:zPd ops sz o=true) {e:Nat→AV} {n:Nat} {a:Act} {w:World} {ρ1:Ren} {f:FuncId} {c:Call} {fo:Operand} {fi ca:List AV} {evv:Operand→AV} {Kt:AV→Heap→Nat→Prop} {hh:Heap}
  (hc:o.op=.call c) (hfo:c.callee=.value fo) (hev:ev e fo=.f (.func f) fi ca) (hk:ACall X f (fi++c.args.toList.map evv++ca) hh n Kt) (hvr:∀x,zPe sz x=true→VR ρ1 (evv x) (a.eval x))
  (r:Rel X K w0 ρ1 (n≤·) hh w) (he:EnvR ρ1 e a sz) {next:Act→World→Prop} {Q:Exit→Act→World→Prop}
  (ih:∀v h n y w' ρ2,Kt v h n→ρ1.le ρ2→Rel X K w0 ρ2 (n≤·) h w'→VR ρ2 v y→next (a.put o.dst y) w'):o.wp X.P a w next Q:=by
 have hops:∀x∈o.op.operands.toList,zPe sz x=true:=by
  simp only[zPd,zO]at hop;exact zR.1 hop.1.1
 have hx1:∀x∈c.args.toList,zPe sz x=true:=fun x hx=>hops x (by rw[hc];simp[Op.operands,Call.operands];exact .inr (by simpa using hx))
 have hx2:zPe sz fo=true:=hops fo (by rw[hc];simp[Op.operands,Call.operands,hfo])
 have hfv:=he.ev hx2;rw[hev]at hfv;simp only[VR]at hfv;obtain⟨xs,zs,hfe,hfi,hca⟩:=hfv;have hargs:∀(l:List Operand),(∀x∈l,zPe sz x=true)→VRs ρ1 (l.map evv) (l.map a.eval):=fun l=>by
  induction l with
  | nil=>intro _;simp[VRs]
  | cons x l ih2 =>
   intro hl2;simp only[wE,VRs];exact⟨_,_,rfl,hvr x (hl2 x (by simp)),ih2 fun y hy=>hl2 y (by simp[hy])⟩
 have hrun:(execOp a.eval o).run X.P w=.ok (.enter f (xs++c.args.toList.map a.eval++zs).toArray) w:=by
  simp only[execOp,hc,resolve,hfo,hfe,Deferred.ofValue,Sem.run_bind,Sem.run_pure,Result.andThen_ok,invoke];rw[hk.1];congr 2;apply Array.ext';simp
 unfold Oper.wp;rw[hrun];simp only[Oper.upon];refine (hk.2 K w0 ρ1 w _ r (VRs.append (VRs.append hfi (hargs _ hx1)) hca)).mono fun e' w' ⟨y,h1,ρ2,z,h',n',h2,h3,h4,h5⟩ => ?_
 subst h1;exact ih z h' n' y w' ρ2 h5 h2 h4 h3
theorem zLc (ok:Ok X) {ops:Array Oper} {sz:Nat} {o:Oper} {s:St} {a:Act} {w:World} {ρ1:Ren} {Kt:AV→Heap→Nat→Prop} (hop:zPd ops sz o=true) (hk:zFi X ops o s Kt)
  (r:Rel X K w0 ρ1 (s.n≤·) s.h w) (he:EnvR ρ1 s.e a sz) {next:Act→World→Prop} {Q:Exit→Act→World→Prop}
  (ih:∀v h n y w' ρ2,Kt v h n→ρ1.le ρ2→Rel X K w0 ρ2 (n≤·) h w'→VR ρ2 v y→next (a.put o.dst y) w') :
  if Region.wanted o (yielded ops a.tmps)then o.wp X.P a w next Q else next (a.put o.dst undef) w:=by
 unfold zFi at hk;cases hgc:gocall X ops o s.e with
 | some q =>
  obtain⟨c,fo,fi,ca,hc,hfo,hev,hq2⟩:=zPt hgc;obtain⟨f,as⟩:=q;simp only at hev hq2;subst hq2;simp only[hgc]at hk;cases hg:o.guard with
  | none =>
   have hw:Region.wanted o (yielded ops a.tmps)=true:=by simp[Region.wanted,hg]
   rw[if_pos hw];simp only[hg]at hk;exact zQg hop hc hfo hev hk (fun x hx=>by simp only[gev,hg];exact he.ev hx) r he ih
  | some q =>
   obtain⟨j,want⟩:=q;simp only[hg]at hk;obtain⟨hb,hk1,hk2⟩:=hk;have ho3:(match ystop ops j with|some d=>decide (d<sz)|none=>false)=true:=by
    simp only[zPd,zO,hg]at hop;exact hop.2
   cases hy:ystop ops j with
   | none=>simp[hy]at ho3
   | some d =>
    simp only[hy,decide_eq_true_eq]at ho3;have hyav:yav ops s.e j=s.e d:=by simp[yav,hy]
    rw[hyav]at hb hk1 hk2;have hsl:a.tmps[d]? = some (a.tmps.getD d undef):=by
     rw[wO,Array.getElem?_eq_getElem (by rw[he.1];exact ho3)]
     rfl
    have hyd:(yielded ops a.tmps j==some want)=(s.e d).gd want:=by
     unfold yielded;have h1:(ops[j]?).bind (·.dst)=some d:=hy;rw[h1];rcases zXm (he.2.2 d ho3) hb want with ⟨b,q1,q2⟩|⟨q1,q2⟩
     ·rw[q1]at hsl
      simp[hsl,q2]
     ·rw[q1]at hsl
      simp[hsl,q2,undef]
    by_cases hgt:(s.e d).gd want=true
    ·have hw:Region.wanted o (yielded ops a.tmps)=true:=by simp only[Region.wanted,hg];rw[hyd];exact hgt
     rw[if_pos hw];refine zQg hop hc hfo hev (hk1 hgt) (fun x hx => ?_) r he fun v h n y w' ρ2 h1 h2 h3 h4=>ih _ h n y w' ρ2 h1 h2 h3 ?_
     ·simp only[gev,hg,hyav]
      exact yDd hgt (he.ev hx)
     ·simp only[VR]
      exact⟨fun _=>h4,fun h1=>by rw[hgt]at h1;cases h1⟩
    ·have hw:Region.wanted o (yielded ops a.tmps)=false:=by
      simp only[Region.wanted,hg];rw[hyd];simpa using hgt
     rw[if_neg (by simp[hw])]
     refine ih _ s.h s.n undef w ρ1 (hk2 (by simpa using hgt)) (Ren.le_refl _) r ?_
     simp only[VR];exact⟨fun h1=>absurd h1 hgt,fun _=>trivial⟩
 | none =>
  simp only[hgc]at hk;cases htw:zQi X ops o s.e s.h s.n with
  | some q =>
   obtain⟨x,y⟩:=q;simp only[htw]at hk;obtain⟨hs,hk1,hk2⟩:=hk;unfold zQi at htw;split at htw
   rotate_left
   ·cases htw
   cases hg:o.guard with
   | some q=>simp[hg]at htw
   | none =>
    simp only[hg]at htw;have hw:Region.wanted o (yielded ops a.tmps)=true:=by simp[Region.wanted,hg]
    rw[if_pos hw];exact zOw ok hop r (zC _) (ev s.e) htw hs (fun x hx=>he.ev hx)
     (fun y w' ρ' h1 h2 h3=>ih _ _ _ y w' ρ' hk1 h1 (h2.anti fun j hj=>⟨by omega,by omega⟩) h3)
     (fun y w' ρ' h1 h2 h3=>ih _ _ _ y w' ρ' hk2 h1 (h2.anti fun j hj=>⟨by omega,by omega⟩) h3)
  | none =>
  simp only[htw]at hk;obtain⟨hs,hk⟩:=hk;refine zQe ok hop (fun _ _ hj=>hj) r ⟨s.n,fun _ hj=>hj⟩ (zC _) he hs fun y w' ρ2 h1 h2 h3=>ih _ _ _ y w' ρ2 hk h1 ?_ h3
  refine h2.anti fun j hj => ?_
  cases hh:heapOp o.op<;>simp only[hh]at hj
  ·exact⟨by simpa using hj,fun e=>by cases e⟩
  ·exact⟨by simp at hj;omega,fun _=>by simp at hj;omega⟩
theorem zMn (ok:Ok X) {ops:Array Oper} {sz:Nat} {Kn:St→Prop} {Q:Exit→Act→World→Prop} (hQ:∀s a w ρ',ρ.le ρ'→Kn s→Rel X K w0 ρ' (s.n≤·) s.h w→EnvR ρ' s.e a sz→Q .normal a w) :
  ∀(l:List Oper) (s:St) (a:Act) (w:World) (ρ1:Ren),(∀o∈l,zPd ops sz o=true)→zOb X ops Kn l s→ρ.le ρ1→Rel X K w0 ρ1 (s.n≤·) s.h w→EnvR ρ1 s.e a sz→wpList X.P ops Q l a w
 | [],s,a,w,ρ1,_,hk,hρ,r,he=>hQ s a w ρ1 hρ hk r he
 | o::l,s,a,w,ρ1,hl,hk,hρ,r,he =>
  wpList_step fun Kx hKx=>zLc ok (hl o (by simp)) hk r he fun v h n y w' ρ2 h1 h2 h3 h4=>hKx _ _ (zMn ok hQ l _ _ w' ρ2 (fun o ho=>hl o (by simp[ho])) h1 (Ren.le_trans hρ h2) h3 ((he.mono h2).put o.dst (zYu (hl o (by simp))) h4))
end
end Go.Eng
