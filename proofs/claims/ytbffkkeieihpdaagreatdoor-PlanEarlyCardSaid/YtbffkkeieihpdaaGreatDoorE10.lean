import Derived.Test.YtbffkkeieihpdaaGreatDoorE09
import Derived.Test.YtbffkkeieihpdaaGreatDoorRows
import Derived.ProofKit
import Derived.LaidMore
import Derived.OpenShut
import Derived.Stop.Joined
import Derived.Lib.SmallJoins
import Derived.Laws.Externs
set_option linter.unusedSimpArgs false
set_option linter.unusedVariables false
set_option linter.constructorNameAsVariable false
set_option maxRecDepth 100000
set_option maxHeartbeats 4000000
namespace Go.Proofs.YtbffkkeieihpdaaGreatDoor
open Go Go.Eng
section
structure V where
 k:Bool
 n:Int
deriving DecidableEq
def vv (a:V):AV:=.g [.v (.bool a.k),.v (.int .i64 a.n)]
def ii (n:Int):AV:=.v (.int .i64 n)
def uu (n:Int):AV:=.v (.int .u64 n)
def bv (b:Bool):AV:=.v (.bool b)
def deV:AV→Option V
 | .g [.v (.bool k),.v (.int .i64 n)]=>some ⟨k,n⟩
 | _=>none
def deI:AV→Option Int
 | .v (.int .i64 n)=>some n
 | _=>none
def deU:AV→Option Int
 | .v (.int .u64 n)=>some n
 | _=>none
def deB:AV→Option Bool
 | .v (.bool b)=>some b
 | _=>none
section
variable {α β γ δ:Type}
def yV (da:AV→Option α) (f:α→AV):List AV→Heap→PRes
 | [x],_=>match da x with
  | some a=>⟨True,f a⟩
  | none=>⟨False,.any⟩
 | _,_=>⟨False,.any⟩
def zE9 (da:AV→Option α) (db:AV→Option β) (f:α→β→AV):List AV→Heap→PRes
 | [x,y],_=>match da x,db y with
  | some a,some b=>⟨True,f a b⟩
  | _,_=>⟨False,.any⟩
 | _,_=>⟨False,.any⟩
def zKg (da:AV→Option α) (db:AV→Option β) (dc:AV→Option γ) (f:α→β→γ→AV):List AV→Heap→PRes
 | [x,y,z],_=>match da x,db y,dc z with
  | some a,some b,some c=>⟨True,f a b c⟩
  | _,_,_=>⟨False,.any⟩
 | _,_=>⟨False,.any⟩
theorem zO7 {da:AV→Option α} {f:α→AV} {args:List AV} {h:Heap} (hs:(yV da f args h).side):∃x a,args=[x]∧da x=some a∧(yV da f args h).val=f a:=by
 unfold yV at hs ⊢;split at hs
 ·split at hs
  ·rename_i e
   exact⟨_,_,rfl,e,by simp[]⟩
  ·exact hs.elim
 ·exact hs.elim
theorem zW5 {da:AV→Option α} {db:AV→Option β} {f:α→β→AV} {args:List AV} {h:Heap} (hs:(zE9 da db f args h).side):∃x a y b,args=[x,y]∧da x=some a∧db y=some b∧(zE9 da db f args h).val=f a b:=by
 unfold zE9 at hs ⊢;split at hs
 ·split at hs
  ·rename_i e1 e2
   exact⟨_,_,_,_,rfl,e1,e2,by simp[]⟩
  ·exact hs.elim
 ·exact hs.elim
theorem zW4 {da:AV→Option α} {db:AV→Option β} {dc:AV→Option γ} {f:α→β→γ→AV} {args:List AV} {h:Heap} (hs:(zKg da db dc f args h).side):∃x a y b z c,args=[x,y,z]∧da x=some a∧db y=some b∧dc z=some c∧(zKg da db dc f args h).val=f a b c:=by
 unfold zKg at hs ⊢;split at hs
 ·split at hs
  ·rename_i e1 e2 e3
   exact⟨_,_,_,_,_,_,rfl,e1,e2,e3,by simp[]⟩
  ·exact hs.elim
 ·exact hs.elim
theorem zW6 (da:AV→Option α) (f:α→AV) (args:List AV) (h h':Heap):yV da f args h=yV da f args h':=by unfold yV;split<;>simp_all
theorem yFk (da:AV→Option α) (db:AV→Option β) (f:α→β→AV) (args:List AV) (h h':Heap):zE9 da db f args h=zE9 da db f args h':=by unfold zE9;split<;>simp_all
theorem yFj (da:AV→Option α) (db:AV→Option β) (dc:AV→Option γ) (f:α→β→γ→AV) (args:List AV) (h h':Heap):zKg da db dc f args h=zKg da db dc f args h':=by unfold zKg;split<;>simp_all
end
theorem zA4 {x:AV} {a:V} (h:deV x=some a):x=.g [.v (.bool a.k),.v (.int .i64 a.n)]:=by
 unfold deV at h;split at h
 ·cases h;rfl
 ·cases h
theorem zBu {x:AV} {a:Int} (h:deI x=some a):x=.v (.int .i64 a):=by
 unfold deI at h;split at h
 ·cases h;rfl
 ·cases h
theorem zYv {x:AV} {a:Int} (h:deU x=some a):x=.v (.int .u64 a):=by
 unfold deU at h;split at h
 ·cases h;rfl
 ·cases h
theorem zY7 {x:AV} {a:Bool} (h:deB x=some a):x=.v (.bool a):=by
 unfold deB at h;split at h
 ·cases h;rfl
 ·cases h
theorem yGw {a b:Bool} {p:Prop} [Decidable p] (h:(!a&&b&&decide p)=true):a=false∧b=true∧p:=by cases a<;>cases b<;>simp_all
section
variable {α β γ:Type} {S:List Nat} {l:List (FuncId×(List AV→Heap→PRes))} {f:FuncId} {fn:Func} {c:Code}
theorem mk1 (ok : zQh S l) (hf : Tryz.prog.funcs[f]? = some fn) (hb : fn.body = some c) (hok : (!(fn.name == "runtime.NumGoroutine") && zU6 (cx S (pfL l)) fn c && decide (1 ≤ fn.ntmps)) = true) {da : AV → Option α} (en : α → AV) (hd : ∀ x a, da x = some a → x = en a) {g : α → AV} (hg : ∀ a, (g a).free = true)
  (h1:∀a h n,awp (cx S (pfL l)) c (zBc (cx S (pfL l)) fn fun z _ _=>z=g a) ⟨env0 [en a],h,n⟩):P0 S f (yV da g) :=
 have hok':=yGw hok
 zC4 (fun _ hx=>hx) (zCy (zAr ok) (zB3 _ _) hf hb hok'.2.1 (xK hf hok'.1 (by rw[hb];rfl) _ _) (fun args h h' _ hs=>by rw[zW6 da g args h' h];exact⟨hs,rfl⟩) fun args h hs=>by
  obtain⟨x,a,rfl,e,ev⟩:=zO7 hs;obtain rfl:=hd x a e;exact⟨hok'.2.2,by rw[ev];exact hg a,fun n _=>by rw[ev];exact h1 a _ n⟩)
theorem mk2 (ok : zQh S l) (hf : Tryz.prog.funcs[f]? = some fn) (hb : fn.body = some c) (hok : (!(fn.name == "runtime.NumGoroutine") && zU6 (cx S (pfL l)) fn c && decide (2 ≤ fn.ntmps)) = true) {da : AV → Option α} (en : α → AV) (hd : ∀ x a, da x = some a → x = en a) {db : AV → Option β} (eb : β → AV) (hdb : ∀ x a, db x = some a → x = eb a) {g : α → β → AV} (hg : ∀ a b, (g a b).free = true)
  (h1:∀a b h n,awp (cx S (pfL l)) c (zBc (cx S (pfL l)) fn fun z _ _=>z=g a b) ⟨env0 [en a,eb b],h,n⟩):P0 S f (zE9 da db g) :=
 have hok':=yGw hok
 zC4 (fun _ hx=>hx) (zCy (zAr ok) (zB3 _ _) hf hb hok'.2.1 (xK hf hok'.1 (by rw[hb];rfl) _ _) (fun args h h' _ hs=>by rw[yFk da db g args h' h];exact⟨hs,rfl⟩) fun args h hs=>by
  obtain⟨x,a,y,b,rfl,e,e',ev⟩:=zW5 hs;obtain rfl:=hd x a e;obtain rfl:=hdb y b e';exact⟨hok'.2.2,by rw[ev];exact hg a b,fun n _=>by rw[ev];exact h1 a b _ n⟩)
theorem mk3 (ok : zQh S l) (hf : Tryz.prog.funcs[f]? = some fn) (hb : fn.body = some c) (hok : (!(fn.name == "runtime.NumGoroutine") && zU6 (cx S (pfL l)) fn c && decide (3 ≤ fn.ntmps)) = true) {da : AV → Option α} (en : α → AV) (hd : ∀ x a, da x = some a → x = en a) {db : AV → Option β} (eb : β → AV) (hdb : ∀ x a, db x = some a → x = eb a) {dc : AV → Option γ} (ec : γ → AV) (hdc : ∀ x a, dc x = some a → x = ec a) {g : α → β → γ → AV} (hg : ∀ a b c, (g a b c).free = true)
  (h1:∀a b d h n,awp (cx S (pfL l)) c (zBc (cx S (pfL l)) fn fun z _ _=>z=g a b d) ⟨env0 [en a,eb b,ec d],h,n⟩):P0 S f (zKg da db dc g) :=
 have hok':=yGw hok
 zC4 (fun _ hx=>hx) (zCy (zAr ok) (zB3 _ _) hf hb hok'.2.1 (xK hf hok'.1 (by rw[hb];rfl) _ _) (fun args h h' _ hs=>by rw[yFj da db dc g args h' h];exact⟨hs,rfl⟩) fun args h hs=>by
  obtain⟨x,a,y,b,z,d,rfl,e,e',e'',ev⟩:=zW4 hs;obtain rfl:=hd x a e;obtain rfl:=hdb y b e';obtain rfl:=hdc z d e'';exact⟨hok'.2.2,by rw[ev];exact hg a b d,fun n _=>by rw[ev];exact h1 a b d _ n⟩)
end
def zEk (a:V):Int:=if a.k=false then 1 else if a.n=0 then 0 else 2
def zEs (r:Int):V:=if r=0 then ⟨true,0⟩else if r=2 then ⟨true,1⟩else ⟨false,0⟩
def unk:V:=⟨false,0⟩
def xX (n:Int):V:=⟨true,n⟩
def zFk (b:Bool):V:=if b then ⟨true,1⟩else ⟨true,0⟩
theorem zUq (a:V):zEk a=0∨zEk a=1∨zEk a=2:=by unfold zEk;split<;>(try split)<;>simp
def g48:=yV deV fun a=>ii (zEk a)
def g51:=yV deI fun n=>vv (xX n)
def g54:=yV deB fun b=>vv (zFk b)
def zDa (n:Int):Int:=if n<0 then IntKind.u64.wrap (0-IntKind.u64.wrap n)else IntKind.u64.wrap n
def g60:=yV deI fun n=>uu (zDa n)
theorem p48:P0 [] 146 g48:=by
 refine mk1 (S:=[]) yJ Tryz.func146 rfl (by kernel_rfl) vv (fun x a h=>zA4 h) (fun a=>rfl) (fun a h n => ?_)
 obtain⟨k,m⟩:=a;simp[evv,vv];cases k<;>simp[ii,zEk]
theorem p51:P0 [] 186 g51:=by
 refine mk1 (S:=[]) yJ Tryz.func186 rfl (by kernel_rfl) ii (fun x a h=>zBu h) (fun a=>rfl) (fun a h n => ?_)
 simp[evv,vv,ii,xX]
theorem p54:P0 [6,7] 216 g54:=by
 refine mk1 (S:=[6,7]) yJ Tryz.func216 rfl (by kernel_rfl) bv (fun x a h=>zY7 h) (fun a=>by cases a<;>rfl) (fun a h n => ?_)
 cases a<;>simp[evv,vv,bv,zFk]
theorem p60:P0 [] 215 g60:=by
 refine mk1 (S:=[]) yJ Tryz.func215 rfl (by kernel_rfl) ii (fun x a h=>zBu h) (fun a=>rfl) (fun a h n => ?_)
 simp[evv,uu,ii,zDa];split<;>intro _<;>omega
end
end Go.Proofs.YtbffkkeieihpdaaGreatDoor
namespace Go.Proofs.YtbffkkeieihpdaaGreatDoor
open Go Go.Eng Go.RowKit Go.ChangeShapes Go.WideShapes Go.ChangeAt
def Rd (t:TypeId) (d:DataW Unit) (l:List Value):Prop:=∀(W:World) (fuel:Nat) (cs:List Value) (x:DataW Unit×List MemPlace),DataW.trod (fun _=>()) Tryz.prog W 0 (fun _=>true) false fuel t cs=some x→x.1=d→cs=l
theorem yFg {t:TypeId} (ht:Tryz.prog.underlying t=some .bool) (b:Bool):Rd t (.lit (.bool b)) [.bool b]:=fun W f cs x h e=>by
 obtain⟨b',rfl,rfl⟩:=DataW.trod_bool ht h;simpa using e
theorem yDo {t:TypeId} {k:IntKind} (ht:Tryz.prog.underlying t=some (.int k)) (n:Int):Rd t (.lit (.int k n)) [.int k n]:=fun W f cs x h e=>by
 obtain⟨n',rfl,rfl,_⟩:=DataW.trod_int ht h;simpa using e
theorem zUn {t:TypeId} {f0 f1:Field} {d0 d1:DataW Unit} {a b:List Value} (ht:Tryz.prog.underlying t=some (.struct #[f0,f1])) (h0:Rd f0.type d0 a) (h1:Rd f1.type d1 b) (e0:f0.offset=0) (e1:f1.offset=Tryz.prog.cellsOf f0.type)
  (ec:Tryz.prog.cellsOf t=Tryz.prog.cellsOf f0.type+Tryz.prog.cellsOf f1.type):Rd t (.agg [d0,d1]) (a++b):=fun W f cs x h e=>by
 obtain⟨y0,y1,n,rfl,hl,q0,q1⟩:=trod_struct2 ht h;simp only[DataW.agg.injEq,List.cons.injEq,and_true]at e;have r0:=h0 W n _ y0 q0 e.1;have r1:=h1 W n _ y1 q1 e.2;rw[e0,List.drop_zero]at r0;rw[e1,yX (by rw[yS];omega)]at r1
 rw[←r0,←r1,zAb]
theorem zCk {t e:TypeId} {d0 d1 d2:DataW Unit} {a b c:List Value} (ht:Tryz.prog.underlying t=some (.array 3 e)) (h0:Rd e d0 a) (h1:Rd e d1 b) (h2:Rd e d2 c) (ec:Tryz.prog.cellsOf t=3*Tryz.prog.cellsOf e):Rd t (.agg [d0,d1,d2]) (a++(b++c)):=fun W f cs x h ex=>by
 obtain⟨xs,m,_,rfl,hl,hn,hel⟩:=DataW.trod_array ht h
 match xs,hn with
 | [y0,y1,y2],_ =>
  simp only[wE,List.map_nil,DataW.agg.injEq,List.cons.injEq,and_true]at ex;have r0:=h0 W m _ y0 (hel 0 (by omega)) ex.1
  have r1:=h1 W m _ y1 (hel 1 (by omega)) ex.2.1
  have r2:=h2 W m _ y2 (hel 2 (by omega)) ex.2.2
  rw[zEd,List.drop_zero]at r0;rw[Nat.one_mul]at r1;rw[yX (by rw[yS];omega)]at r2
  rw[←r0,←r1,←r2];have:List.drop (2*Tryz.prog.cellsOf e) cs=List.drop (Tryz.prog.cellsOf e) (List.drop (Tryz.prog.cellsOf e) cs):=by rw[zDp,Nat.two_mul]
  rw[this,zAb,zAb]
theorem zJm (k:Bool) (n:Int):Rd 148 (.agg [.lit (.bool k),.lit (.int .i64 n)]) [.bool k,.int .i64 n] :=
 zUn (a:=[.bool k]) (b:=[.int .i64 n]) Tryz.underlying148 (yFg Tryz.underlying4 k) (yDo Tryz.underlying2 n) rfl (by kernel_rfl) (by kernel_rfl)
def zGd (W:World) (g:Nat):Prop:=∀cs,glob g=some cs→∃arr el fr,W.heap[g]? = some (.cells arr el fr)∧arr.toList=cs
theorem yLy {S:List Nat} {pf:FuncId→Option (List AV→Heap→PRes)} {W:World} (h:∀g∈S,zGd W g):RoRel (cx S pf) (fun _ _=>none) (fun _=>none) W where
 glob:=fun g cs hg=>by
  simp only[zZx,globS]at hg;by_cases hm:g∈S
  ·rw[if_pos hm]at hg
   exact h g hm cs hg
  ·rw[if_neg hm]at hg
   cases hg
 blk:=fun _ _ h=>by cases h
theorem zS2 {W:World}:∀{laid:List (String×DataW Unit)} {ps:List MemPlace},DataW.LaidVars Tryz.prog W laid ps→∀nm d,(nm,d)∈laid→
  ∃g t cs fuel p,Tryz.prog.globalNamed nm=some g∧(Tryz.prog.globals[g]?).map (·.type)=some t∧W.var? Tryz.prog nm=some cs∧DataW.trod (fun _=>()) Tryz.prog W 0 (fun _=>true) false fuel t cs.toList=some (d,p)
 | [],_,_,nm,d,hm=>by cases hm
 | (n',d')::r,ps,h,nm,d,hm=>by
  obtain⟨g,t,cs,fuel,p,q,h1,h2,h3,h4,h5,_⟩:=h;rcases yD.1 hm with e|hm
  ·cases e
   exact⟨g,t,cs,fuel,p,h1,h2,h3,h4⟩
  ·exact zS2 h5 nm d hm
theorem zDd {laid:List (String×DataW Unit)} {W:World} (hL:laidMetH Tryz.prog laid W) (hpl:(laid.all fun x=>x.2.handleName?.isNone)=true) {nm:String} {d:DataW Unit} (hm:(nm,d)∈laid) {g:Nat} {t:TypeId} {l:List Value}
  (hg:Tryz.prog.globalNamed nm=some g) (ht:(Tryz.prog.globals[g]?).map (·.type)=some t) (rd:Rd t d l) (hl:glob g=some l):zGd W g:=by
 rw[MakeChecks.laidMetH_plain _ _ _ hpl]at hL;obtain⟨ps,hv,_,_⟩:=hL;obtain⟨g',t',cs,fuel,p,h1,h2,h3,h4⟩:=zS2 hv nm d hm;obtain rfl:=Option.some.inj (hg.symm.trans h1);obtain rfl:=Option.some.inj (ht.symm.trans h2);have hcs:=rd W fuel _ _ h4 rfl;intro cs' hcs';obtain rfl:=Option.some.inj (hl.symm.trans hcs');simp only[World.var?,hg,zT]at h3;split at h3
 ·rename_i arr el fr hh
  obtain rfl:=Option.some.inj h3;exact⟨arr,el,fr,hh,hcs⟩
 ·cases h3
theorem yIv:Rd 254 Rows.laid_sluice_num_both [.bool true,.int .i64 0,.bool true,.int .i64 0,.bool true,.int .i64 0,.bool true,.int .i64 0,.bool false,.int .i64 0,.bool false,.int .i64 0,.bool true,.int .i64 0,.bool false,.int .i64 0,.bool true,.int .i64 1] :=
 zCk Tryz.underlying254 (zCk Tryz.underlying235 (zJm _ _) (zJm _ _) (zJm _ _) (by kernel_rfl)) (zCk Tryz.underlying235 (zJm _ _) (zJm _ _) (zJm _ _) (by kernel_rfl)) (zCk Tryz.underlying235 (zJm _ _) (zJm _ _) (zJm _ _) (by kernel_rfl)) (by kernel_rfl)
theorem yAu:Rd 254 Rows.laid_sluice_num_either [.bool true,.int .i64 0,.bool false,.int .i64 0,.bool true,.int .i64 1,.bool false,.int .i64 0,.bool false,.int .i64 0,.bool true,.int .i64 1,.bool true,.int .i64 1,.bool true,.int .i64 1,.bool true,.int .i64 1] :=
 zCk Tryz.underlying254 (zCk Tryz.underlying235 (zJm _ _) (zJm _ _) (zJm _ _) (by kernel_rfl)) (zCk Tryz.underlying235 (zJm _ _) (zJm _ _) (zJm _ _) (by kernel_rfl)) (zCk Tryz.underlying235 (zJm _ _) (zJm _ _) (zJm _ _) (by kernel_rfl)) (by kernel_rfl)
theorem yFh:Rd 235 Rows.laid_sluice_num_other [.bool true,.int .i64 1,.bool false,.int .i64 0,.bool true,.int .i64 0] :=
 zCk Tryz.underlying235 (zJm _ _) (zJm _ _) (zJm _ _) (by kernel_rfl)
theorem yFf {t e:TypeId} {k:IntKind} {n:Nat} (ht:Tryz.prog.underlying t=some (.array n e)) (he:Tryz.prog.underlying e=some (.int k)) (hc:Tryz.prog.cellsOf e=1) (ec:Tryz.prog.cellsOf t=n) (l:List Int) (hl:l.length=n):Rd t (.agg (l.map fun x=>.lit (.int k x))) (l.map fun x=>.int k x):=fun W f cs x h ex=>by
 obtain⟨xs,m,_,rfl,hcl,hn,hel⟩:=DataW.trod_array ht h;simp only[DataW.agg.injEq]at ex;have hcn:cs.length=n:=by rw[hcl,ec]
 apply List.ext_getElem
 ·rw[hcn,zQ,hl]
 intro i h1 h2;have hi:i<n:=by omega
 have hx:=hel i (by omega)
 have hlt:i<xs.length:=by omega
 rw[zA hlt]at hx;have hxi:(xs[i]).1=.lit (.int k (l[i]'(by omega))):=by
  have:=congrArg (·[i]?) ex;simpa[hlt,show i<l.length by omega]using this
 have:=yDo he (l[i]'(by omega)) W m _ _ hx hxi
 rw[hc,xM,List.take_one,List.head?_drop,zA h1]at this
 simpa using this
theorem zUo:Rd 203 Rows.laid_sluice_code_operands ((glob 0).getD []) :=
 yFf (n:=27) Tryz.underlying203 Tryz.underlying3 (by kernel_rfl) (by kernel_rfl) [-1,0,0,0,0,0,0,0,0,0,1,1,2,2,2,2,2,2,2,2,2,2,2,2,2,1,1] rfl
section
variable {laid:List (String×DataW Unit)} {W:World} (hL:laidMetH Tryz.prog laid W) (hpl:(laid.all fun x=>x.2.handleName?.isNone)=true)
include hL hpl
theorem at0 (hm : ("sluice/code.operands", Rows.laid_sluice_code_operands) ∈ laid) : zGd W 0 := zDd hL hpl hm (by kernel_rfl) (by kernel_rfl) zUo rfl
theorem at3 (hm : ("sluice/num.both", Rows.laid_sluice_num_both) ∈ laid) : zGd W 4 := zDd hL hpl hm (by kernel_rfl) (by kernel_rfl) yIv rfl
theorem at4 (hm : ("sluice/num.either", Rows.laid_sluice_num_either) ∈ laid) : zGd W 5 := zDd hL hpl hm (by kernel_rfl) (by kernel_rfl) yAu rfl
theorem at2 (hm : ("sluice/num.other", Rows.laid_sluice_num_other) ∈ laid) : zGd W 2 := zDd hL hpl hm (by kernel_rfl) (by kernel_rfl) yFh rfl
theorem at1 (hm : ("sluice/num.unknown", Rows.laid_sluice_num_unknown) ∈ laid) : zGd W 1 := zDd hL hpl hm (by kernel_rfl) (by kernel_rfl) (zJm _ _) rfl
theorem at5 (hm : ("sluice/num.yes", Rows.laid_sluice_num_yes) ∈ laid) : zGd W 6 := zDd hL hpl hm (by kernel_rfl) (by kernel_rfl) (zJm _ _) rfl
theorem at6 (hm : ("sluice/num.no", Rows.laid_sluice_num_no) ∈ laid) : zGd W 7 := zDd hL hpl hm (by kernel_rfl) (by kernel_rfl) (zJm _ _) rfl
end
section
variable {H:Type} {enc:TypeId×Value→H}
theorem zHe (hl:laidOutB Tryz.prog=true) {W W':World} (hb:Below W.heap.size W W'):∀{ts:List TypeId} {vs:List Value} {ds:List (DataW H)} {ps:List MemPlace},(∀t∈ts,Tryz.prog.readableRec t=true∧t<Tryz.prog.types.size)→
  DataW.TrodAll enc Tryz.prog W 0 (fun _=>true) true ts vs ds ps→(∀x∈ps,x.block<W.heap.size)→DataW.TrodAll enc Tryz.prog W' 0 (fun b=>decide (b<W.heap.size)) true ts vs ds ps
 | [],vs,ds,ps,_,h,_=>by
  obtain⟨rfl,rfl,rfl⟩:=trodAll_nil h;exact trodAll_mk0
 | t::ts,vs,ds,ps,ht,h,hlt=>by
  obtain⟨v,vs1,d,ds1,a,b,rfl,rfl,rfl,h1,h2⟩:=ChangeShapes.trodAll_cons h;exact⟨a,b,Below.trod hl (ht t (by simp)).1 (ht t (by simp)).2 h1 hb (fun x hx=>hlt x (by simp[hx])),zHe hl hb (fun t' h'=>ht t' (by simp[h'])) h2 (fun x hx=>hlt x (by simp[hx])),rfl⟩
theorem zW8 {f:Func} {s:ChangeSpec} {apart fresh:Bool} {handsOn:Bool} {W W':World} {args:Array Value} {ds gs:List (DataW H)} {before:List MemPlace} (hW:DataW.Whole enc Tryz.prog f.params.toList s.vars apart W args.toList ds gs before) (hv:s.vars=[])
  (ht0:(f.params.toList.all fun t=>Tryz.prog.readableRec t&&decide (t<Tryz.prog.types.size))=true) (hr:f.resultTypes = #[4]) (hs:(s.fn H (ds++gs))={results:=[.lit (.bool true)],args:=ds,vars:=[]}) (hb:Below W.heap.size W W') :
  s.post enc Tryz.prog f apart fresh handsOn false W args (.bool true) W':=by
 have ht:∀t∈f.params.toList,Tryz.prog.readableRec t=true∧t<Tryz.prog.types.size:=fun t h=>by simpa using zR.1 ht0 t h
 have hlt:=hW.lt;obtain⟨p,q,hA,hV,rfl,hfz,hnd⟩:=hW;have hl:laidOutB Tryz.prog=true:=by kernel_rfl
 have hV':=hV;rw[hv]at hV;obtain⟨rfl,rfl⟩:=ChangeShapes.trodVars_none hV;refine⟨ds,[],p++[],[],p,[],⟨p,[],hA,hV',rfl,hfz,hnd⟩,?_,?_,?_,hb.frame _,fun h=>by cases h⟩
 ·rw[hs,hr]
  exact ChangeShapes.trodAll_mk1 (shut_bool Tryz.underlying4 true)
 ·rw[hs]
  exact zHe hl hb ht hA fun x hx=>by simpa using hlt x (by simp[hx])
 ·rw[hs,hv]
  exact rfl
end
end Go.Proofs.YtbffkkeieihpdaaGreatDoor
namespace Go.Proofs.YtbffkkeieihpdaaGreatDoor
open Go Go.Eng Go.RowKit Go.ChangeShapes Go.Joins
theorem zF0 {n:Int} (h:(Lit.int .i64 n).wf=true) : -9223372036854775808≤n∧n<9223372036854775808:=by
 simp[Lit.wf,IntKind.min,IntKind.max,IntKind.signed,IntKind.bits]at h;omega
end Go.Proofs.YtbffkkeieihpdaaGreatDoor
namespace Go.Proofs.YtbffkkeieihpdaaGreatDoor
open Go Go.Eng
def yH7 (a b:V):V:=zEs (if zEk a≤zEk b then zEk a else zEk b)
def orV (a b:V):V:=zEs (if zEk a≤zEk b then zEk b else zEk a)
def yBh (a:V):V:=zEs (2-zEk a)
def zLi (a:V):Bool:=zEk a==2
def g17:=zE9 deV deV fun a b=>vv (yH7 a b)
def g18:=zE9 deV deV fun a b=>vv (orV a b)
def g19:=yV deV fun a=>vv (yBh a)
def g20:=yV deV fun a=>bv (zLi a)
def W (n:Int):Int:=IntKind.i64.wrap n
def U (n:Int):Int:=IntKind.u64.wrap n
def yKe (a b:V):V:=if a.k&&b.k then (if ((decide (W (a.n+b.n) > a.n) != decide (b.n > 0))&&b.n != 0)then unk else xX (W (a.n+b.n)))else unk
def yIo (a b:V):V:=if a.k&&b.k then (if ((decide (W (a.n-b.n)<a.n) != decide (b.n > 0))&&b.n != 0)then unk else xX (W (a.n-b.n)))else unk
def g30:=zE9 deV deV fun a b=>vv (yKe a b)
def g31:=zE9 deV deV fun a b=>vv (yIo a b)
theorem p17:P0 [4] 192 g17:=by
 refine mk2 (S:=[4]) (zS p48 yJ) Tryz.func192 rfl (by kernel_rfl) vv (fun x a h=>zA4 h) vv (fun x a h=>zA4 h) (fun a b=>rfl) (fun a b h n => ?_)
 rcases zUq a with e|e|e<;>rcases zUq b with e'|e'|e'<;>simp[evv,g48,yV,deV,ii,vv,yH7,e,e',zEs]
theorem p18:P0 [5] 193 g18:=by
 refine mk2 (S:=[5]) (zS p48 yJ) Tryz.func193 rfl (by kernel_rfl) vv (fun x a h=>zA4 h) vv (fun x a h=>zA4 h) (fun a b=>rfl) (fun a b h n => ?_)
 rcases zUq a with e|e|e<;>rcases zUq b with e'|e'|e'<;>simp[evv,g48,yV,deV,ii,vv,orV,e,e',zEs]
theorem p19:P0 [2] 144 g19:=by
 refine mk1 (S:=[2]) (zS p48 yJ) Tryz.func144 rfl (by kernel_rfl) vv (fun x a h=>zA4 h) (fun a=>rfl) (fun a h n => ?_)
 rcases zUq a with e|e|e<;>simp[evv,g48,yV,deV,ii,vv,yBh,e,zEs]
theorem p20:P0 [] 92 g20:=by
 refine mk1 (S:=[]) (zS p48 yJ) Tryz.func92 rfl (by kernel_rfl) vv (fun x a h=>zA4 h) (fun a=>rfl) (fun a h n => ?_)
 simp[evv,g48,yV,deV,ii,vv,bv,zLi]
theorem p30:P0 [1] 187 g30:=by
 refine mk2 (S:=[1]) (zS p51 yJ) Tryz.func187 rfl (by kernel_rfl) vv (fun x a h=>zA4 h) vv (fun x a h=>zA4 h) (fun a b=>rfl) (fun a b h n => ?_)
 obtain⟨k,m⟩:=a;obtain⟨k',m'⟩:=b;cases k<;>cases k'<;>simp[evv,g51,yV,deI,vv,yKe,unk,xX,W]
 grind
theorem p31:P0 [1] 188 g31:=by
 refine mk2 (S:=[1]) (zS p51 yJ) Tryz.func188 rfl (by kernel_rfl) vv (fun x a h=>zA4 h) vv (fun x a h=>zA4 h) (fun a b=>rfl) (fun a b h n => ?_)
 obtain⟨k,m⟩:=a;obtain⟨k',m'⟩:=b;cases k<;>cases k'<;>simp[evv,g51,yV,deI,vv,yIo,unk,xX,W]
 grind
def B (n:Int):Int:=U ((BitVec.ofInt IntKind.u64.bits n &&& BitVec.ofInt IntKind.u64.bits 4294967295).toNat:Int)
def S (n:Int):Int:=n.fdiv (2^min 32 IntKind.u64.bits)
def yKm (x y:Int):Int:=U (U (S x*B y)+S (U (B x*B y)))
def zX0 (x y:Int):Int :=
 U (U (U (S x*S y)+S (yKm x y))+S (U (B (yKm x y)+U (B x*S y))))
def g59:=zE9 deU deU fun a b=>.t [uu (zX0 a b),uu (U (a*b))]
def yJ1 (a b:V):V:=if a.k&&b.k&&b.n != 0 then (if a.n == -9223372036854775808&&b.n == -1 then unk else xX (W (a.n.tdiv b.n)))else unk
def yI9 (a b:V):V:=if a.k&&b.k&&b.n != 0 then (if b.n == -1 then xX 0 else xX (a.n.tmod b.n))else unk
def zXw (a:V):V:=if a.k&&a.n != -9223372036854775808 then xX (W (0-a.n))else unk
def yHo (op:Int) (a b:V):V:=if a.k&&b.k then
 (if op=19 then zFk (a.n==b.n)else if op=20 then zFk (a.n != b.n)else if op=21 then zFk (decide (a.n<b.n))else if op=22 then zFk (decide (a.n≤b.n))else if op=23 then zFk (decide (a.n > b.n))else if op=24 then zFk (decide (a.n≥b.n))else unk)else unk
def g26:=zE9 deV deV fun a b=>vv (yJ1 a b)
def g27:=zE9 deV deV fun a b=>vv (yI9 a b)
def g37:=yV deV fun a=>vv (zXw a)
def g32:=zKg deI deV deV fun o a b=>vv (yHo o a b)
theorem p26:P0 [1] 190 g26:=by
 refine mk2 (S:=[1]) (zS p51 yJ) Tryz.func190 rfl (by kernel_rfl) vv (fun x a h=>zA4 h) vv (fun x a h=>zA4 h) (fun a b=>rfl) (fun a b h n => ?_)
 obtain⟨k,m⟩:=a;obtain⟨k',m'⟩:=b;cases k<;>cases k'<;>simp[evv,g51,yV,deI,vv,yJ1,unk,xX,W]
 all_goals grind
theorem p27:P0 [1] 191 g27:=by
 refine mk2 (S:=[1]) (zS p51 yJ) Tryz.func191 rfl (by kernel_rfl) vv (fun x a h=>zA4 h) vv (fun x a h=>zA4 h) (fun a b=>rfl) (fun a b h n => ?_)
 obtain⟨k,m⟩:=a;obtain⟨k',m'⟩:=b;cases k<;>cases k'<;>simp[evv,g51,yV,deI,vv,yI9,unk,xX]
 all_goals grind
theorem p37:P0 [1] 143 g37:=by
 refine mk1 (S:=[1]) (zS p51 yJ) Tryz.func143 rfl (by kernel_rfl) vv (fun x a h=>zA4 h) (fun a=>rfl) (fun a h n => ?_)
 obtain⟨k,m⟩:=a;cases k<;>simp[evv,g51,yV,deI,vv,zXw,unk,xX,W]
 all_goals grind
theorem p32:P0 [1,6,7] 194 g32:=by
 refine mk3 (S:=[1,6,7]) (zS p54 yJ) Tryz.func194 rfl (by kernel_rfl) ii (fun x a h=>zBu h) vv (fun x a h=>zA4 h) vv (fun x a h=>zA4 h) (fun o a b=>rfl) (fun o a b h n => ?_)
 obtain⟨k,m⟩:=a;obtain⟨k',m'⟩:=b;cases k<;>cases k'<;>simp[evv,g54,yV,deB,ii,vv,yHo,unk]
 by_cases h1:o=19
 ·simp[h1]
 by_cases h2:o=20
 ·simp[h2]
 by_cases h3:o=21
 ·simp[h3]
 by_cases h4:o=22
 ·simp[h4]
 by_cases h5:o=23
 ·simp[h5]
 by_cases h6:o=24
 ·simp[h6]
 simp[h1,h2,h3,h4,h5,h6]
end Go.Proofs.YtbffkkeieihpdaaGreatDoor
namespace Go.Proofs.YtbffkkeieihpdaaGreatDoor
open Go Go.Eng
theorem p59:P0 [] 214 g59:=by
 refine mk2 (S:=[]) yJ Tryz.func214 rfl (by kernel_rfl) uu (fun x a h=>zYv h) uu (fun x a h=>zYv h) (fun a b=>rfl) (fun a b h n => ?_)
 simp[evv,uu,zX0,yKm,U,B,S]
end Go.Proofs.YtbffkkeieihpdaaGreatDoor
namespace Go.Proofs.YtbffkkeieihpdaaGreatDoor
open Go Go.Eng
def zSr (a b:V):Bool:=decide (a.n<0) != decide (b.n<0)
def yF9 (a b:V):V:=if a.k&&b.k then
 (if zX0   (zDa   a.n) (zDa   b.n) != 0 then unk else
  if zSr a b&&decide (U (zDa a.n*zDa b.n)≤9223372036854775808)then xX (W (U (0-U (zDa a.n*zDa b.n))))else
  if !zSr a b&&decide (U (zDa a.n*zDa b.n)<9223372036854775808)then xX (W (U (zDa a.n*zDa b.n)))else unk)else unk
def g36:=zE9 deV deV fun a b=>vv (yF9 a b)
theorem p36:P0 [1] 189 g36:=by
 refine mk2 (S:=[1]) (zS p60 (zS p59 (zS p51 yJ))) Tryz.func189 rfl (by kernel_rfl) vv (fun x a h=>zA4 h) vv (fun x a h=>zA4 h) (fun a b=>rfl) (fun a b h n => ?_)
 obtain⟨k,m⟩:=a;obtain⟨k',m'⟩:=b;cases k<;>cases k'<;>simp[evv,g51,g60,g59,yV,zE9,deI,deU,uu,vv,yF9,zSr,unk,xX,W,U]
 all_goals grind
def zCd (o:Int) (a b:V):V:=if o=14 then yKe a b else if o=15 then yIo a b else if o=16 then yF9 a b else if o=17 then yJ1 a b else if o=18 then yI9 a b else if o=25 then yH7 a b else if o=26 then orV a b else yHo o a b
def g42:=zKg deI deV deV fun o a b=>vv (zCd o a b)
theorem p42:P0 [1,4,5,6,7] 145 g42:=by
 refine mk3 (S:=[1,4,5,6,7]) (zS p30 (zS p31 (zS p36 (zS p26 (zS p27 (zS p17 (zS p18 (zS p32 yJ)))))))) Tryz.func145 rfl (by kernel_rfl) ii (fun x a h=>zBu h) vv (fun x a h=>zA4 h) vv (fun x a h=>zA4 h) (fun o a b=>rfl) (fun o a b h n => ?_)
 simp[evv,g30,g31,g36,g26,g27,g17,g18,g32,zE9,zKg,deI,deV,ii,vv];by_cases h1:o=14
 ·simp[h1,zCd]
 by_cases h2:o=15
 ·simp[h2,zCd]
 by_cases h3:o=16
 ·simp[h3,zCd]
 by_cases h4:o=17
 ·simp[h4,zCd]
 by_cases h5:o=18
 ·simp[h5,zCd]
 by_cases h6:o=25
 ·simp[h6,zCd]
 by_cases h7:o=26
 ·simp[h7,zCd]
 simp[h1,h2,h3,h4,h5,h6,h7,zCd]
section
def yEb:List AV→Option (List Int)
 | []=>some []
 | a::r=>match deI a,yEb r with
  | some n,some l=>some (n::l)
  | _,_=>none
def zPr (h:Heap):AV→Option (List Int)
 | .s id ver off len=>match h id with
  | some k=>if k.ver=ver∧off+len≤k.cells.length then yEb ((k.cells.drop off).take len)else none
  | none=>none
 | .v (.slice none n m)=>if n=0∧m=0 then some []else none
 | _=>none
theorem zTk:∀{xs:List AV} {l:List Int},yEb xs=some l→l.length=xs.length∧∀i,i<l.length→xs[i]? = some (ii (l.getD i 0))
 | [],l,h=>by
  simp only[yEb,Option.some.injEq]at h;subst h;exact⟨rfl,fun i hi=>absurd hi (Nat.not_lt_zero i)⟩
 | a::r,l,h=>by
  simp only[yEb]at h;split at h
  ·rename_i n l' e1 e2
   simp only[Option.some.injEq]at h;subst h;obtain⟨q1,q2⟩:=zTk e2;refine⟨by simp[q1],fun i hi => ?_⟩
   cases i with
   | zero=>simp[zBu e1,ii]
   | succ i=>simpa using q2 i (by simpa using hi)
  ·cases h
theorem zMd {h:Heap} {a:AV} {l:List Int} (e:zPr h a=some l):(a=.v (.slice none 0 0)∧l=[])∨
  ∃id off k,a=.s id k.ver off l.length∧h id=some k∧off+l.length≤k.cells.length∧∀i,i<l.length→k.cells[off+i]? = some (ii (l.getD i 0)):=by
 unfold zPr at e;split at e
 ·rename_i id ver off len
  split at e
  ·rename_i k hk
   split at e
   ·rename_i hc
    obtain⟨q1,q2⟩:=zTk e;have hl:l.length=len:=by rw[q1,zW,yS];omega
    refine .inr ⟨id,off,k,by rw[hc.1,hl],hk,by omega,fun i hi => ?_⟩
    have:=q2 i hi;rw[zCg,if_pos (by omega),xA]at this
    exact this
   ·cases e
  ·cases e
 ·split at e
  ·rename_i hc
   cases e;rw[hc.1,hc.2];exact .inl ⟨rfl,rfl⟩
  ·cases e
 ·cases e
theorem zPq {h h':Heap} (hh:∀i k,h i=some k→h' i=some k) {a:AV} {l:List Int} (e:zPr h a=some l):zPr h' a=some l:=by
 unfold zPr at e ⊢;split at e
 ·split at e
  ·rename_i hk
   simp only[hh _ _ hk];exact e
  ·cases e
 ·exact e
 ·cases e
def big:Nat:=4611686018427387904
section
variable {α:Type}
def zO6 (f:List Int→AV):List AV→Heap→PRes
 | [x],h=>match zPr h x with
  | some l=>⟨l.length<big,f l⟩
  | none=>⟨False,.any⟩
 | _,_=>⟨False,.any⟩
def zKf (da:AV→Option α) (p:α→List Int→Prop) (f:α→List Int→AV):List AV→Heap→PRes
 | [y,x],h=>match da y,zPr h x with
  | some a,some l=>⟨l.length<big∧p a l,f a l⟩
  | _,_=>⟨False,.any⟩
 | _,_=>⟨False,.any⟩
theorem zO5 {f:List Int→AV} {args:List AV} {h:Heap} (hs:(zO6 f args h).side):∃x l,args=[x]∧zPr h x=some l∧l.length<big∧∀h',(∀i k,h i=some k→h' i=some k)→zO6 f args h'=⟨l.length<big,f l⟩:=by
 unfold zO6 at hs;split at hs
 ·split at hs
  ·rename_i e
   refine⟨_,_,rfl,e,hs,fun h' hh => ?_⟩
   simp only[zO6,zPq hh e]
  ·exact hs.elim
 ·exact hs.elim
theorem zLx {da:AV→Option α} {p:α→List Int→Prop} {f:α→List Int→AV} {args:List AV} {h:Heap} (hs:(zKf da p f args h).side):∃y a x l,args=[y,x]∧da y=some a∧zPr h x=some l∧l.length<big∧p a l∧∀h',(∀i k,h i=some k→h' i=some k)→zKf da p f args h'=⟨l.length<big∧p a l,f a l⟩:=by
 unfold zKf at hs;split at hs
 ·split at hs
  ·rename_i e1 e2
   refine⟨_,_,_,_,rfl,e1,e2,hs.1,hs.2,fun h' hh => ?_⟩
   simp only[zKf,e1,zPq hh e2]
  ·exact hs.elim
 ·exact hs.elim
end
section
variable {α:Type} {S:List Nat} {l:List (FuncId×(List AV→Heap→PRes))} {f:FuncId} {fn:Func} {c:Code}
theorem mkL (ok : zQh S l) (hf : Tryz.prog.funcs[f]? = some fn) (hb : fn.body = some c) (hok : (!(fn.name == "runtime.NumGoroutine") && zU6 (cx S (pfL l)) fn c && decide (1 ≤ fn.ntmps)) = true) {g : List Int → AV} (hg : ∀ a, (g a).free = true)
  (h1:∀a l' h n,zPr h a=some l'→l'.length<big→(∀i,n≤i→h i=none)→awp (cx S (pfL l)) c (zBc (cx S (pfL l)) fn fun z _ _=>z=g l') ⟨env0 [a],roH h,n⟩):P0 S f (zO6 g):=by
 have hok':=yGw hok;exact zC4 (fun _ hx=>hx) (zCy (zAr ok) (zB3 _ _) hf hb hok'.2.1 (xK hf hok'.1 (by rw[hb];rfl) _ _) (fun args h h' hh hs=>by
   obtain⟨x,l',rfl,e,hl,hall⟩:=zO5 hs;rw[hall h' hh,hall h (fun _ _ e=>e)]
   exact⟨hl,rfl⟩) fun args h hs=>by
  obtain⟨x,l',rfl,e,hl,hall⟩:=zO5 hs;have ev:=hall h (fun _ _ e=>e)
  exact⟨hok'.2.2,by rw[ev];exact hg l',fun n hn=>by rw[ev];exact h1 x l' h n e hl hn⟩)
theorem yOz (ok : zQh S l) (hf : Tryz.prog.funcs[f]? = some fn) (hb : fn.body = some c) (hok : (!(fn.name == "runtime.NumGoroutine") && zU6 (cx S (pfL l)) fn c && decide (2 ≤ fn.ntmps)) = true) {da : AV → Option α} (en : α → AV) (hd : ∀ x a, da x = some a → x = en a) {p : α → List Int → Prop} {g : α → List Int → AV} (hg : ∀ a b, (g a b).free = true)
  (h1:∀o a l' h n,zPr h a=some l'→l'.length<big→p o l'→(∀i,n≤i→h i=none)→awp (cx S (pfL l)) c (zBc (cx S (pfL l)) fn fun z _ _=>z=g o l') ⟨env0 [en o,a],roH h,n⟩):P0 S f (zKf da p g):=by
 have hok':=yGw hok;exact zC4 (fun _ hx=>hx) (zCy (zAr ok) (zB3 _ _) hf hb hok'.2.1 (xK hf hok'.1 (by rw[hb];rfl) _ _) (fun args h h' hh hs=>by
   obtain⟨y,o,x,l',rfl,e0,e,hl,hp,hall⟩:=zLx hs;rw[hall h' hh,hall h (fun _ _ e=>e)]
   exact⟨⟨hl,hp⟩,rfl⟩) fun args h hs=>by
  obtain⟨y,o,x,l',rfl,e0,e,hl,hp,hall⟩:=zLx hs;have ev:=hall h (fun _ _ e=>e)
  obtain rfl:=hd y o e0;exact⟨hok'.2.2,by rw[ev];exact hg o l',fun n hn=>by rw[ev];exact h1 o x l' h n e hl hp hn⟩)
end
def g67:List AV→Heap→PRes:=fun args _=>match args with
 | [.v (.int .u64 x),.v (.int .u64 y),.v (.int .u64 c)]=>⟨0≤x∧0≤y∧0≤c∧c≤1,.t [uu ((x+y+c)%18446744073709551616),uu ((x+y+c)/18446744073709551616)]⟩
 | _=>⟨False,.any⟩
theorem p67:P0 [] 240 g67:=by
 refine⟨fun args h h' _ hs=>⟨hs,rfl⟩,.inr fun ρ h w args vs hv hs => ?_⟩
 unfold g67 at hs ⊢;split at hs
 ·rename_i x y c
  simp only[VRs,VR]at hv;obtain⟨_,_,rfl,rfl,_,_,rfl,rfl,_,_,rfl,rfl,rfl⟩:=hv;obtain⟨h1,h2,h3,h4⟩:=hs;refine⟨.tuple #[.int .u64 ((x+y+c)%18446744073709551616),.int .u64 ((x+y+c)/18446744073709551616)],?_,?_⟩
  ·rw[yNe,run_callFunc_extern Tryz.func240 (by kernel_rfl) (by kernel_rfl) (by kernel_rfl) (e:=add64Entry) (by kernel_rfl),run_add64 x y c h1 h2 h3 h4]
   rfl
  ·simp only[VR,uu]
   exact⟨[_,_],rfl,by simp[VRs,VR]⟩
 ·exact hs.elim
end
section
def Rng (n:Int):Prop:=-9223372036854775808≤n∧n<9223372036854775808
theorem yC1 (n:Int):W n=if 9223372036854775808≤n%18446744073709551616 then n%18446744073709551616-18446744073709551616 else n%18446744073709551616:=by
 simp[W,IntKind.wrap,IntKind.bits,IntKind.signed]
theorem zRt (n:Int):U n=n%18446744073709551616:=by
 simp[U,IntKind.wrap,IntKind.bits,IntKind.signed]
theorem zT5 (n:Int):∃q:Int,W n=n-18446744073709551616*q∧Rng (W n):=by
 unfold Rng;rw[yC1];refine⟨(n+9223372036854775808)/18446744073709551616,?_⟩;by_cases h:9223372036854775808≤n%18446744073709551616
 ·simp only[h,if_true]
  omega
 ·simp only[h,if_false]
  omega
theorem zZq (n:Int):∃q:Int,U n=n-18446744073709551616*q∧0≤U n∧U n<18446744073709551616:=by
 rw[zRt];exact⟨n/18446744073709551616,by omega⟩
theorem zMq {n:Int} (h:Rng n):W n=n:=by
 obtain⟨q,e,h1⟩:=zT5 n;unfold Rng at *;omega
theorem yC2 {n:Int} (h:0≤n∧n<18446744073709551616):U n=n:=by
 obtain⟨q,e,h1⟩:=zZq n;omega
def zQ9 (n:Int):V:=if -9223372036854775808≤n∧n<9223372036854775808 then ⟨true,n⟩else ⟨false,0⟩
theorem zTc {n:Int} (h:Rng n):zQ9 n=⟨true,n⟩:=if_pos h
def on2 (f:Int→Int→V) (a b:V):V:=if a.k&&b.k then f a.n b.n else unk
def yMz:=on2 fun x y=>zQ9 (x+y)
def yLs:=on2 fun x y=>zQ9 (x-y)
def yI8:=on2 fun x y=>zQ9 (x*y)
def yMo:=on2 fun x y=>if y=0 then unk else zQ9 (x.tdiv y)
def yMb:=on2 fun x y=>if y=0 then unk else xX (x.tmod y)
def yL9 (a:V):V:=if a.k then zQ9 (0-a.n)else unk
section
variable {a b:V} (ha:Rng a.n) (hb:Rng b.n)
include ha hb
theorem yHx:yKe a b=yMz a b:=by
 obtain⟨q,e,h1⟩:=zT5 (a.n+b.n);unfold Rng at *;simp only[yKe,yMz,on2,zQ9,unk,xX];split
 ·split
  ·rename_i hc
   simp only[gt_iff_lt,zO,bne_iff_ne,ne_eq,decide_eq_decide]at hc;rw[if_neg];omega
  ·rename_i hc
   simp only[gt_iff_lt,zO,bne_iff_ne,ne_eq,decide_eq_decide]at hc;rw[if_pos (by omega)]
   congr 1;omega
 ·rfl
theorem yE4:yIo a b=yLs a b:=by
 obtain⟨q,e,h1⟩:=zT5 (a.n-b.n);unfold Rng at *;simp only[yIo,yLs,on2,zQ9,unk,xX];split
 ·split
  ·rename_i hc
   simp only[gt_iff_lt,zO,bne_iff_ne,ne_eq,decide_eq_decide]at hc;rw[if_neg];omega
  ·rename_i hc
   simp only[gt_iff_lt,zO,bne_iff_ne,ne_eq,decide_eq_decide]at hc;rw[if_pos (by omega)]
   congr 1;omega
 ·rfl
end
theorem yF6 {a:V} (ha:Rng a.n):zXw a=yL9 a:=by
 unfold Rng at *;simp only[zXw,yL9,unk,xX];cases hk:a.k
 ·simp
 ·by_cases hm:a.n=-9223372036854775808
  ·simp[hm,zQ9]
  ·have:Rng (0-a.n):=by unfold Rng;omega
   simp only[zCi,bne_iff_ne,ne_eq,hm,not_false_eq_true,if_true];rw[zMq this,zTc this]
theorem zQt {x y:Int} (hy:y≠0):x=y*x.tdiv y+x.tmod y∧(0≤x→0≤x.tmod y)∧(x≤0→x.tmod y≤0)∧(0<y→x.tmod y<y∧-y<x.tmod y)∧(y<0→x.tmod y < -y∧y<x.tmod y):=by
 refine⟨(Int.mul_tdiv_add_tmod x y).symm,fun h=>Int.tmod_nonneg y h,fun h => ?_,fun h => ?_,fun h => ?_⟩
 ·have:=Int.tmod_nonneg y (a:=-x) (by omega)
  rw[Int.neg_tmod]at this
  omega
 ·have h1:=Int.tmod_lt_of_pos x h
  have h2:=Int.tmod_lt_of_pos (-x) h;rw[Int.neg_tmod]at h2;omega
 ·have h1:=Int.tmod_lt_of_pos x (b:=-y) (by omega)
  have h2:=Int.tmod_lt_of_pos (-x) (b:=-y) (by omega)
  rw[Int.tmod_neg]at h1 h2;rw[Int.neg_tmod]at h2;omega
theorem yAg {x y:Int} (hx:Rng x) (hy:y≠0) (hm:¬(x=-9223372036854775808∧y=-1)):Rng (x.tdiv y):=by
 have h1:(x.tdiv y).natAbs≤x.natAbs:=by rw[Int.natAbs_tdiv];exact Nat.div_le_self _ _
 unfold Rng at *;by_cases hx2:x=-9223372036854775808
 ·by_cases h2:(x.tdiv y).natAbs=9223372036854775808
  ·rw[Int.natAbs_tdiv,hx2]at h2
   change 9223372036854775808/y.natAbs=9223372036854775808 at h2;have h3:y.natAbs=1:=by
    have h5:9223372036854775808/y.natAbs*y.natAbs≤9223372036854775808:=Nat.div_mul_le_self _ _;rw[h2]at h5;omega
   have h4:y=1:=by omega
   subst h4;rw[Int.tdiv_one];omega
  ·omega
 ·omega
theorem yG6 {a b:V} (ha:Rng a.n):yJ1 a b=yMo a b:=by
 simp only[yJ1,yMo,on2];cases hk:(a.k&&b.k)
 ·simp
 ·by_cases hz:b.n=0
  ·simp[hz]
  ·simp only[zCi,bne_iff_ne,ne_eq,hz,not_false_eq_true,if_true,if_false]
   by_cases hm:a.n=-9223372036854775808∧b.n=-1
   ·simp[hm.1,hm.2,zQ9,unk]
   ·have h1:=yAg ha hz hm
    rw[if_neg (by simpa using hm),zMq h1]
    rw[zTc h1];rfl
theorem yGb {a b:V}:yI9 a b=yMb a b:=by
 simp only[yI9,yMb,on2];cases hk:(a.k&&b.k)
 ·simp
 ·by_cases hz:b.n=0
  ·simp[hz]
  ·simp only[zCi,bne_iff_ne,ne_eq,hz,not_false_eq_true,if_true,if_false]
   by_cases hm:b.n=-1
   ·simp[hm,xX]
   ·simp[hm,xX]
end
def sgn (x:Int):Int:=x.fdiv (2^min 63 IntKind.i64.bits)
def zEi (s:Int×Int) (x:Int):Int×Int :=
 ((s.1+U (sgn x)+(s.2+U x+0)/18446744073709551616)%18446744073709551616,(s.2+U x+0)%18446744073709551616)
def zD7 (l:List Int) (j:Nat):Int×Int:=(l.take j).foldl zEi (0,0)
theorem zLs {l:List Int} {j:Nat} (h:j<l.length):zD7 l (j+1)=zEi (zD7 l j) (l.getD j 0):=by
 unfold zD7;rw[zEo,zA h,List.foldl_append];simp[zB,zA h]
theorem zKb (l:List Int) (j:Nat):(0≤(zD7 l j).1∧(zD7 l j).1<18446744073709551616)∧0≤(zD7 l j).2∧(zD7 l j).2<18446744073709551616:=by
 have:∀(m:List Int) (s:Int×Int),((0≤s.1∧s.1<18446744073709551616)∧0≤s.2∧s.2<18446744073709551616)→((0≤(m.foldl zEi s).1∧(m.foldl zEi s).1<18446744073709551616)∧0≤(m.foldl zEi s).2∧(m.foldl zEi s).2<18446744073709551616):=fun m=>by
  induction m with
  | nil=>exact fun s h=>h
  | cons x m ih=>exact fun s h=>ih _ (by unfold zEi;simp only[];omega)
 exact this _ _ (by simp)
def zWo (l:List Int):V:=if W (zD7 l l.length).1 != sgn (W (zD7 l l.length).2)then unk else xX (W (zD7 l l.length).2)
def g55:=zO6 fun l=>vv (zWo l)
theorem yK {j:Nat} (h:j<big):IntKind.i64.wrap ((j:Int)+1)=((j+1:Nat):Int):=by
 unfold big at h;have e:IntKind.i64.wrap ((j:Int)+1)=if 9223372036854775808≤((j:Int)+1)%18446744073709551616 then ((j:Int)+1)%18446744073709551616-18446744073709551616 else ((j:Int)+1)%18446744073709551616:=by
  simp[IntKind.wrap,IntKind.bits,IntKind.signed]
 rw[e];split<;>omega
theorem zEj {h:Heap} {id:Nat} {k:Blk} (hk:h id=some k):roH h id=some ⟨k.cells,k.ver,false,k.esz⟩:=by simp[roH,hk,Blk.ro]
theorem zJc {h:Heap} {id n:Nat} {k:Blk} (hk:h id=some k) (hn:∀i,n≤i→h i=none):∀j,¬id=n+j:=fun j e=>by
 have:=hn id (by omega)
 rw[hk]at this
 cases this
def yH2:List (FuncId×(List AV→Heap→PRes)):=[(186,g51),(240,g67)]
theorem p55:P0 [1] 228 g55:=by
 refine mkL (S:=[1]) (l:=yH2) (zS p51 (zS p67 yJ)) Tryz.func228 rfl (by kernel_rfl) (fun a=>rfl) (fun a l h n hi hl hn => ?_)
 have key:∀e:Nat→AV,e 0=a→awp (cx [1] (pfL yH2)) (Tryz.f228.body.getD .skip) (zBc (cx [1] (pfL yH2)) Tryz.f228 fun z _ _=>z=vv (zWo l)) ⟨e,roH h,n⟩:=fun e he=>by
  rcases zMd hi with ⟨rfl,rfl⟩|⟨id,off,k,rfl,hk,hoff,hat⟩
  ·simp[evv,Tryz.f228,he]
   refine yN (fun s=>s.e 12=ii 0∧s.e 11=ii 0∧s.e 2=.p n 0 0∧s.e 3=uu 0∧s.e 4=uu 0∧s.h=up (roH h) n (some ⟨[.v (.bool false),.v (.int .i64 0)],0,true,2⟩)) (fun _=>0) (by simp[up,ii,uu]) ?_
   rintro e' h' n' ⟨q12,q11,q2,q3,q4,hh⟩;simp only[]at q12 q11 q2 q3 q4 hh;subst hh;simp[evv,q12,q11,q2,q3,q4,ii,uu,yH2,g51,yV,deI,vv,xX,zWo,zD7,sgn,W,unk];decide
  ·have h0:=zJc hk hn 0
   have hro:=zEj hk;simp only[yL]at h0;simp[evv,Tryz.f228,he];refine yN (fun s=>∃j,j≤l.length∧s.e 10=.s id k.ver off l.length∧s.e 12=ii j∧s.e 11=ii l.length∧s.e 2=.p n 0 0∧s.e 3=uu (zD7 l j).1∧s.e 4=uu (zD7 l j).2∧s.h=up (roH h) n (some ⟨[.v (.bool false),.v (.int .i64 0)],0,true,2⟩)) (fun s=>l.length-(s.e 12).i.toNat) ⟨0,by simp[up,ii,uu,zD7]⟩ ?_
   rintro e' h' n' ⟨j,hj,q10,q12,q11,q2,q3,q4,hh⟩;simp only[]at q10 q12 q11 q2 q3 q4 hh;subst hh;by_cases hlt:j<l.length
   ·have hget:=hat j hlt
    have hw:=yK (j:=j) (by omega)
    obtain⟨⟨r1,r2⟩,r3,r4⟩:=zKb l j;have hs:=zLs hlt;simp[evv,q10,q12,q11,q2,q3,q4,ii,uu,yH2,g67,hlt,h0,hro,hget,hw];have eg:l.getD j 0=l[j]:=by simp[zB,hlt]
    rw[eg]at hs;obtain⟨_,_,u1⟩:=zZq l[j];obtain⟨_,_,u2⟩:=zZq (sgn l[j]);have v1:0≤IntKind.u64.wrap l[j]∧IntKind.u64.wrap l[j]<18446744073709551616:=u1;have v2:0≤IntKind.u64.wrap (l[j].fdiv (2^min 63 IntKind.i64.bits)):=u2.1;refine⟨by omega,⟨r3,v1.1⟩,⟨r1,v2,by omega,by omega⟩,⟨j+1,by omega,by omega,?_,?_⟩,by omega⟩
    ·rw[hs];simp[zEi,sgn,U]
    ·rw[hs];simp[zEi,U]
   ·have hje:j=l.length:=by omega
    subst hje;simp[evv,q12,q11,q2,q3,q4,ii,uu,yH2,g51,yV,deI,vv,xX,zWo,sgn,W,unk];split<;>rename_i hc<;>simp[]
 exact key _ rfl
section
theorem yHt (n:Int):((BitVec.ofInt 64 n &&& BitVec.ofInt 64 4294967295).toNat:Int)=n%4294967296:=by
 have h:(BitVec.ofInt 64 n &&& BitVec.ofInt 64 4294967295).toNat=(n%18446744073709551616).toNat%4294967296:=by
  rw[BitVec.toNat_and,BitVec.toNat_ofInt,BitVec.toNat_ofInt];exact Nat.and_two_pow_sub_one_eq_mod _ 32
 rw[h];omega
theorem yQ5 (n:Int):B n=n%4294967296:=by
 unfold B;have:IntKind.u64.bits=64:=rfl;rw[this,yHt,yC2];omega
theorem yQm {n:Int}:S n=n/4294967296:=by
 unfold S;have:(2:Int)^min 32 IntKind.u64.bits=4294967296:=rfl;rw[this,Int.fdiv_eq_ediv_of_nonneg _ (by decide)]
theorem zHs {x y:Int} (hx:0≤x∧x≤4294967295) (hy:0≤y∧y≤4294967295):0≤x*y∧x*y≤18446744065119617025:=by
 refine⟨Int.mul_nonneg hx.1 hy.1,?_⟩;exact Int.le_trans (Int.mul_le_mul hx.2 hy.2 hy.1 (by decide)) (by decide)
theorem yBo {x y:Int} (hx:0≤x∧x<18446744073709551616) (hy:0≤y∧y<18446744073709551616):zX0 x y=x*y/18446744073709551616:=by
 have hx0:0≤x%4294967296∧x%4294967296≤4294967295:=by omega
 have hy0:0≤y%4294967296∧y%4294967296≤4294967295:=by omega
 have hx1:0≤x/4294967296∧x/4294967296≤4294967295:=by omega
 have hy1:0≤y/4294967296∧y/4294967296≤4294967295:=by omega
 have ex:x=4294967296*(x/4294967296)+x%4294967296:=by omega
 have ey:y=4294967296*(y/4294967296)+y%4294967296:=by omega
 unfold zX0 yKm;simp only[yQ5,yQm];generalize x/4294967296=x1 at *;generalize x%4294967296=x0 at *;generalize y/4294967296=y1 at *;generalize y%4294967296=y0 at *;have e:x*y=18446744073709551616*(x1*y1)+4294967296*(x1*y0)+4294967296*(x0*y1)+x0*y0:=by
  rw[ex,ey];grind
 rw[e];have b00:=zHs hx0 hy0;have b10:=zHs hx1 hy0;have b01:=zHs hx0 hy1;have b11:=zHs hx1 hy1;generalize x0*y0=p00 at *;generalize x1*y0=p10 at *;generalize x0*y1=p01 at *;generalize x1*y1=p11 at *;rw[yC2 (n:=p10) (by omega),yC2 (n:=p00) (by omega),yC2 (n:=p01) (by omega),yC2 (n:=p11) (by omega),yC2 (n:=p10+p00/4294967296) (by omega)]
 rw[yC2 (n:=(p10+p00/4294967296)%4294967296+p01) (by omega),yC2 (n:=p11+(p10+p00/4294967296)/4294967296) (by omega)]
 rw[yC2 (by omega)]
 omega
theorem zSa {n:Int} (h:Rng n):zDa n=if n<0 then -n else n:=by
 unfold Rng at h;have e:zDa n=if n<0 then U (0-U n)else U n:=rfl
 rw[e];split
 ·rw[zRt,zRt];omega
 ·rw[zRt];omega
theorem yF8 {a b:V} (ha:Rng a.n) (hb:Rng b.n):yF9 a b=yI8 a b:=by
 obtain⟨k,m⟩:=a;obtain⟨k',m'⟩:=b;simp only at ha hb;cases k
 ·simp[yF9,yI8,on2]
 cases k'
 ·simp[yF9,yI8,on2]
 have h1:=zSa ha;have h2:=zSa hb;unfold Rng at *;have r1:0≤zDa m∧zDa m<18446744073709551616:=by rw[h1];split<;>omega
 have r2:0≤zDa m'∧zDa m'<18446744073709551616:=by rw[h2];split<;>omega
 have ep:0≤zDa m*zDa m':=Int.mul_nonneg r1.1 r2.1;have es:m*m'=if (decide (m<0) != decide (m'<0))=true then -(zDa m*zDa m')else zDa m*zDa m':=by
  rw[h1,h2];by_cases q1:m<0<;>by_cases q2:m'<0<;>simp[q1,q2,Int.neg_mul,Int.mul_neg]
 simp only[yF9,yI8,on2,yBo r1 r2,zSr,Bool.and_self,if_true,unk,xX];rw[es];clear es;generalize zDa m*zDa m'=p at *;unfold zQ9;rw[zRt p];obtain⟨s,hs⟩:∃s,(decide (m<0) != decide (m'<0))=s:=⟨_,rfl⟩;simp only[hs];cases s
 ·simp only[Bool.false_and,yO,if_false,Bool.not_false,zCi,decide_eq_true_eq,bne_iff_ne,ne_eq]
  by_cases q:p/18446744073709551616=0
  ·rw[if_neg (by simpa using q)]
   by_cases q2:p%18446744073709551616<9223372036854775808
   ·rw[if_pos q2,zMq (by unfold Rng;omega),if_pos (by omega)]
    congr 1;omega
   ·rw[if_neg q2,if_neg (by omega)]
  ·rw[if_pos (by simpa using q),if_neg (by omega)]
 ·simp only[zCi,if_true,Bool.not_true,Bool.false_and,yO,if_false,decide_eq_true_eq,bne_iff_ne,ne_eq]
  by_cases q:p/18446744073709551616=0
  ·rw[if_neg (by simpa using q)]
   by_cases q2:p%18446744073709551616≤9223372036854775808
   ·rw[if_pos q2,if_pos (by omega)]
    congr 1;rw[yC1,zRt];split<;>omega
   ·rw[if_neg q2,if_neg (by omega)]
  ·rw[if_pos (by simpa using q),if_neg (by omega)]
section
variable {a b:V} (ha:Rng a.n) (hb:Rng b.n)
include ha hb
end
end
def zJe (g:Bool) (l:List Int) (j:Nat):Int:=(l.take j).foldl (fun m x=>if (if g then decide (m<x)else decide (x<m))then x else m) (l.getD 0 0)
theorem zMf {g:Bool} {l:List Int} {j:Nat} (h:j<l.length):zJe g l (j+1)=if (if g then decide (zJe g l j<l[j])else decide (l[j]<zJe g l j))then l[j]else zJe g l j:=by
 unfold zJe;rw[zEo,zA h,List.foldl_append];simp
end Go.Proofs.YtbffkkeieihpdaaGreatDoor
