import Derived.Test.YtbffkkeieihpdaaGreatDoorX09
import Derived.Test.YtbffkkeieihpdaaGreatDoorRows
import Derived.ProofKit
import Derived.LaidMore
import Derived.OpenShut
import Derived.Stop.Joined
import Derived.Lib.SmallJoins
import Derived.Laws.Externs
set_option linter.unusedSimpArgs false
set_option linter.unusedVariables false
set_option linter.constructorNameAsVariable false
set_option maxRecDepth 100000
set_option maxHeartbeats 4000000
namespace Go.Proofs.YtbffkkeieihpdaaGreatDoor
open Go Go.Eng
section
structure V where
 k:Bool
 n:Int
deriving DecidableEq
def vv (a:V):AV:=.g [.v (.bool a.k),.v (.int .i64 a.n)]
def ii (n:Int):AV:=.v (.int .i64 n)
def uu (n:Int):AV:=.v (.int .u64 n)
def bv (b:Bool):AV:=.v (.bool b)
def deV:AV→Option V
 | .g [.v (.bool k),.v (.int .i64 n)]=>some ⟨k,n⟩
 | _=>none
def deI:AV→Option Int
 | .v (.int .i64 n)=>some n
 | _=>none
def deU:AV→Option Int
 | .v (.int .u64 n)=>some n
 | _=>none
def deB:AV→Option Bool
 | .v (.bool b)=>some b
 | _=>none
section
variable {α β γ δ:Type}
def pure1 (da:AV→Option α) (f:α→AV):List AV→Heap→PRes
 | [x],_=>match da x with
  | some a=>⟨True,f a⟩
  | none=>⟨False,.any⟩
 | _,_=>⟨False,.any⟩
def pure2 (da:AV→Option α) (db:AV→Option β) (f:α→β→AV):List AV→Heap→PRes
 | [x,y],_=>match da x,db y with
  | some a,some b=>⟨True,f a b⟩
  | _,_=>⟨False,.any⟩
 | _,_=>⟨False,.any⟩
def pure3 (da:AV→Option α) (db:AV→Option β) (dc:AV→Option γ) (f:α→β→γ→AV):List AV→Heap→PRes
 | [x,y,z],_=>match da x,db y,dc z with
  | some a,some b,some c=>⟨True,f a b c⟩
  | _,_,_=>⟨False,.any⟩
 | _,_=>⟨False,.any⟩
theorem pure1_out {da:AV→Option α} {f:α→AV} {args:List AV} {h:Heap} (hs:(pure1 da f args h).side):∃x a,args=[x]∧da x=some a∧(pure1 da f args h).val=f a:=by
 unfold pure1 at hs ⊢
 split at hs
 ·split at hs
  ·rename_i e
   exact⟨_,_,rfl,e,by simp[]⟩
  ·exact hs.elim
 ·exact hs.elim
theorem pure2_out {da:AV→Option α} {db:AV→Option β} {f:α→β→AV} {args:List AV} {h:Heap} (hs:(pure2 da db f args h).side):∃x a y b,args=[x,y]∧da x=some a∧db y=some b∧(pure2 da db f args h).val=f a b:=by
 unfold pure2 at hs ⊢
 split at hs
 ·split at hs
  ·rename_i e1 e2
   exact⟨_,_,_,_,rfl,e1,e2,by simp[]⟩
  ·exact hs.elim
 ·exact hs.elim
theorem pure3_out {da:AV→Option α} {db:AV→Option β} {dc:AV→Option γ} {f:α→β→γ→AV} {args:List AV} {h:Heap} (hs:(pure3 da db dc f args h).side):∃x a y b z c,args=[x,y,z]∧da x=some a∧db y=some b∧dc z=some c∧(pure3 da db dc f args h).val=f a b c:=by
 unfold pure3 at hs ⊢
 split at hs
 ·split at hs
  ·rename_i e1 e2 e3
   exact⟨_,_,_,_,_,_,rfl,e1,e2,e3,by simp[]⟩
  ·exact hs.elim
 ·exact hs.elim
theorem pure1_h (da:AV→Option α) (f:α→AV) (args:List AV) (h h':Heap):pure1 da f args h=pure1 da f args h':=by unfold pure1;split<;>simp_all
theorem pure2_h (da:AV→Option α) (db:AV→Option β) (f:α→β→AV) (args:List AV) (h h':Heap):pure2 da db f args h=pure2 da db f args h':=by unfold pure2;split<;>simp_all
theorem pure3_h (da:AV→Option α) (db:AV→Option β) (dc:AV→Option γ) (f:α→β→γ→AV) (args:List AV) (h h':Heap):pure3 da db dc f args h=pure3 da db dc f args h':=by unfold pure3;split<;>simp_all
end
theorem deV_out {x:AV} {a:V} (h:deV x=some a):x=.g [.v (.bool a.k),.v (.int .i64 a.n)]:=by
 unfold deV at h
 split at h
 ·cases h;rfl
 ·cases h
theorem deI_out {x:AV} {a:Int} (h:deI x=some a):x=.v (.int .i64 a):=by
 unfold deI at h
 split at h
 ·cases h;rfl
 ·cases h
theorem deU_out {x:AV} {a:Int} (h:deU x=some a):x=.v (.int .u64 a):=by
 unfold deU at h
 split at h
 ·cases h;rfl
 ·cases h
theorem deB_out {x:AV} {a:Bool} (h:deB x=some a):x=.v (.bool a):=by
 unfold deB at h
 split at h
 ·cases h;rfl
 ·cases h
theorem hok3 {a b:Bool} {p:Prop} [Decidable p] (h:(!a&&b&&decide p)=true):a=false∧b=true∧p:=by cases a<;>cases b<;>simp_all
section
variable {α β γ:Type} {S:List Nat} {l:List (FuncId×(List AV→Heap→PRes))} {f:FuncId} {fn:Func} {c:Code}
theorem mk1 (ok : TbOk S l) (hf : Tryz.prog.funcs[f]? = some fn) (hb : fn.body = some c) (hok : (!(fn.name == "runtime.NumGoroutine") && fnOk (cx S (pfL l)) fn c && decide (1 ≤ fn.ntmps)) = true) {da : AV → Option α} (en : α → AV) (hd : ∀ x a, da x = some a → x = en a) {g : α → AV} (hg : ∀ a, (g a).free = true)
  (h1:∀a h n,awp (cx S (pfL l)) c (finQ (cx S (pfL l)) fn fun z _ _=>z=g a) ⟨env0 [en a],h,n⟩):P0 S f (pure1 da g) :=
 have hok':=hok3 hok
 pure_any (fun _ hx=>hx) (pure_of_awp (pfL_ok ok) (mixed _ _) hf hb hok'.2.1 (callable hf hok'.1 (by rw[hb];rfl) _ _) (fun args h h' _ hs=>by rw[pure1_h da g args h' h];exact⟨hs,rfl⟩) fun args h hs=>by
  obtain⟨x,a,rfl,e,ev⟩:=pure1_out hs
  obtain rfl:=hd x a e
  exact⟨hok'.2.2,by rw[ev];exact hg a,fun n _=>by rw[ev];exact h1 a _ n⟩)
theorem mk2 (ok : TbOk S l) (hf : Tryz.prog.funcs[f]? = some fn) (hb : fn.body = some c) (hok : (!(fn.name == "runtime.NumGoroutine") && fnOk (cx S (pfL l)) fn c && decide (2 ≤ fn.ntmps)) = true) {da : AV → Option α} (en : α → AV) (hd : ∀ x a, da x = some a → x = en a) {db : AV → Option β} (eb : β → AV) (hdb : ∀ x a, db x = some a → x = eb a) {g : α → β → AV} (hg : ∀ a b, (g a b).free = true)
  (h1:∀a b h n,awp (cx S (pfL l)) c (finQ (cx S (pfL l)) fn fun z _ _=>z=g a b) ⟨env0 [en a,eb b],h,n⟩):P0 S f (pure2 da db g) :=
 have hok':=hok3 hok
 pure_any (fun _ hx=>hx) (pure_of_awp (pfL_ok ok) (mixed _ _) hf hb hok'.2.1 (callable hf hok'.1 (by rw[hb];rfl) _ _) (fun args h h' _ hs=>by rw[pure2_h da db g args h' h];exact⟨hs,rfl⟩) fun args h hs=>by
  obtain⟨x,a,y,b,rfl,e,e',ev⟩:=pure2_out hs
  obtain rfl:=hd x a e
  obtain rfl:=hdb y b e'
  exact⟨hok'.2.2,by rw[ev];exact hg a b,fun n _=>by rw[ev];exact h1 a b _ n⟩)
theorem mk3 (ok : TbOk S l) (hf : Tryz.prog.funcs[f]? = some fn) (hb : fn.body = some c) (hok : (!(fn.name == "runtime.NumGoroutine") && fnOk (cx S (pfL l)) fn c && decide (3 ≤ fn.ntmps)) = true) {da : AV → Option α} (en : α → AV) (hd : ∀ x a, da x = some a → x = en a) {db : AV → Option β} (eb : β → AV) (hdb : ∀ x a, db x = some a → x = eb a) {dc : AV → Option γ} (ec : γ → AV) (hdc : ∀ x a, dc x = some a → x = ec a) {g : α → β → γ → AV} (hg : ∀ a b c, (g a b c).free = true)
  (h1:∀a b d h n,awp (cx S (pfL l)) c (finQ (cx S (pfL l)) fn fun z _ _=>z=g a b d) ⟨env0 [en a,eb b,ec d],h,n⟩):P0 S f (pure3 da db dc g) :=
 have hok':=hok3 hok
 pure_any (fun _ hx=>hx) (pure_of_awp (pfL_ok ok) (mixed _ _) hf hb hok'.2.1 (callable hf hok'.1 (by rw[hb];rfl) _ _) (fun args h h' _ hs=>by rw[pure3_h da db dc g args h' h];exact⟨hs,rfl⟩) fun args h hs=>by
  obtain⟨x,a,y,b,z,d,rfl,e,e',e'',ev⟩:=pure3_out hs
  obtain rfl:=hd x a e
  obtain rfl:=hdb y b e'
  obtain rfl:=hdc z d e''
  exact⟨hok'.2.2,by rw[ev];exact hg a b d,fun n _=>by rw[ev];exact h1 a b d _ n⟩)
end
def rankV (a:V):Int:=if a.k=false then 1 else if a.n=0 then 0 else 2
def ofRank (r:Int):V:=if r=0 then ⟨true,0⟩else if r=2 then ⟨true,1⟩else ⟨false,0⟩
def unk:V:=⟨false,0⟩
def knownV (n:Int):V:=⟨true,n⟩
def truthV (b:Bool):V:=if b then ⟨true,1⟩else ⟨true,0⟩
theorem rank3 (a:V):rankV a=0∨rankV a=1∨rankV a=2:=by unfold rankV;split<;>(try split)<;>simp
def g48:=pure1 deV fun a=>ii (rankV a)
def g51:=pure1 deI fun n=>vv (knownV n)
def g54:=pure1 deB fun b=>vv (truthV b)
def sizeU (n:Int):Int:=if n<0 then IntKind.u64.wrap (0-IntKind.u64.wrap n)else IntKind.u64.wrap n
def g60:=pure1 deI fun n=>uu (sizeU n)
theorem p48:P0 [] 146 g48:=by
 refine mk1 (S:=[]) tb_nil Tryz.func146 rfl (by kernel_rfl) vv (fun x a h=>deV_out h) (fun a=>rfl) (fun a h n => ?_)
 obtain⟨k,m⟩:=a
 simp[evv,vv]
 cases k<;>simp[ii,rankV]
theorem p51:P0 [] 186 g51:=by
 refine mk1 (S:=[]) tb_nil Tryz.func186 rfl (by kernel_rfl) ii (fun x a h=>deI_out h) (fun a=>rfl) (fun a h n => ?_)
 simp[evv,vv,ii,knownV]
theorem p54:P0 [6,7] 216 g54:=by
 refine mk1 (S:=[6,7]) tb_nil Tryz.func216 rfl (by kernel_rfl) bv (fun x a h=>deB_out h) (fun a=>by cases a<;>rfl) (fun a h n => ?_)
 cases a<;>simp[evv,vv,bv,truthV]
theorem p60:P0 [] 215 g60:=by
 refine mk1 (S:=[]) tb_nil Tryz.func215 rfl (by kernel_rfl) ii (fun x a h=>deI_out h) (fun a=>rfl) (fun a h n => ?_)
 simp[evv,uu,ii,sizeU]
 split<;>intro _<;>omega
end
end Go.Proofs.YtbffkkeieihpdaaGreatDoor
namespace Go.Proofs.YtbffkkeieihpdaaGreatDoor
open Go Go.Eng Go.RowKit Go.ChangeShapes Go.WideShapes Go.ChangeAt
def Rd (t:TypeId) (d:DataW Unit) (l:List Value):Prop:=∀(W:World) (fuel:Nat) (cs:List Value) (x:DataW Unit×List MemPlace),DataW.trod (fun _=>()) Tryz.prog W 0 (fun _=>true) false fuel t cs=some x→x.1=d→cs=l
theorem rd_bool {t:TypeId} (ht:Tryz.prog.underlying t=some .bool) (b:Bool):Rd t (.lit (.bool b)) [.bool b]:=fun W f cs x h e=>by
 obtain⟨b',rfl,rfl⟩:=DataW.trod_bool ht h
 simpa using e
theorem rd_int {t:TypeId} {k:IntKind} (ht:Tryz.prog.underlying t=some (.int k)) (n:Int):Rd t (.lit (.int k n)) [.int k n]:=fun W f cs x h e=>by
 obtain⟨n',rfl,rfl,_⟩:=DataW.trod_int ht h
 simpa using e
theorem rd_struct2 {t:TypeId} {f0 f1:Field} {d0 d1:DataW Unit} {a b:List Value} (ht:Tryz.prog.underlying t=some (.struct #[f0,f1])) (h0:Rd f0.type d0 a) (h1:Rd f1.type d1 b) (e0:f0.offset=0) (e1:f1.offset=Tryz.prog.cellsOf f0.type)
  (ec:Tryz.prog.cellsOf t=Tryz.prog.cellsOf f0.type+Tryz.prog.cellsOf f1.type):Rd t (.agg [d0,d1]) (a++b):=fun W f cs x h e=>by
 obtain⟨y0,y1,n,rfl,hl,q0,q1⟩:=trod_struct2 ht h
 simp only[DataW.agg.injEq,List.cons.injEq,and_true]at e
 have r0:=h0 W n _ y0 q0 e.1
 have r1:=h1 W n _ y1 q1 e.2
 rw[e0,List.drop_zero]at r0
 rw[e1,List.take_of_length_le (by rw[List.length_drop];omega)]at r1
 rw[←r0,←r1,List.take_append_drop]
theorem rd_array3 {t e:TypeId} {d0 d1 d2:DataW Unit} {a b c:List Value} (ht:Tryz.prog.underlying t=some (.array 3 e)) (h0:Rd e d0 a) (h1:Rd e d1 b) (h2:Rd e d2 c) (ec:Tryz.prog.cellsOf t=3*Tryz.prog.cellsOf e):Rd t (.agg [d0,d1,d2]) (a++(b++c)):=fun W f cs x h ex=>by
 obtain⟨xs,m,_,rfl,hl,hn,hel⟩:=DataW.trod_array ht h
 match xs,hn with
 | [y0,y1,y2],_ =>
  simp only[List.map_cons,List.map_nil,DataW.agg.injEq,List.cons.injEq,and_true]at ex
  have r0:=h0 W m _ y0 (hel 0 (by omega)) ex.1
  have r1:=h1 W m _ y1 (hel 1 (by omega)) ex.2.1
  have r2:=h2 W m _ y2 (hel 2 (by omega)) ex.2.2
  rw[Nat.zero_mul,List.drop_zero]at r0
  rw[Nat.one_mul]at r1
  rw[List.take_of_length_le (by rw[List.length_drop];omega)]at r2
  rw[←r0,←r1,←r2]
  have:List.drop (2*Tryz.prog.cellsOf e) cs=List.drop (Tryz.prog.cellsOf e) (List.drop (Tryz.prog.cellsOf e) cs):=by rw[List.drop_drop,Nat.two_mul]
  rw[this,List.take_append_drop,List.take_append_drop]
theorem rd53 (k:Bool) (n:Int):Rd 148 (.agg [.lit (.bool k),.lit (.int .i64 n)]) [.bool k,.int .i64 n] :=
 rd_struct2 (a:=[.bool k]) (b:=[.int .i64 n]) Tryz.underlying148 (rd_bool Tryz.underlying4 k) (rd_int Tryz.underlying2 n) rfl (by kernel_rfl) (by kernel_rfl)
def GlobAt (W:World) (g:Nat):Prop:=∀cs,glob g=some cs→∃arr el fr,W.heap[g]? = some (.cells arr el fr)∧arr.toList=cs
theorem ro_of {S:List Nat} {pf:FuncId→Option (List AV→Heap→PRes)} {W:World} (h:∀g∈S,GlobAt W g):RoRel (cx S pf) (fun _ _=>none) (fun _=>none) W where
 glob:=fun g cs hg=>by
  simp only[cx_G,globS]at hg
  by_cases hm:g∈S
  ·rw[if_pos hm]at hg
   exact h g hm cs hg
  ·rw[if_neg hm]at hg
   cases hg
 blk:=fun _ _ h=>by cases h
theorem laid_one {W:World}:∀{laid:List (String×DataW Unit)} {ps:List MemPlace},DataW.LaidVars Tryz.prog W laid ps→∀nm d,(nm,d)∈laid→
  ∃g t cs fuel p,Tryz.prog.globalNamed nm=some g∧(Tryz.prog.globals[g]?).map (·.type)=some t∧W.var? Tryz.prog nm=some cs∧DataW.trod (fun _=>()) Tryz.prog W 0 (fun _=>true) false fuel t cs.toList=some (d,p)
 | [],_,_,nm,d,hm=>by cases hm
 | (n',d')::r,ps,h,nm,d,hm=>by
  obtain⟨g,t,cs,fuel,p,q,h1,h2,h3,h4,h5,_⟩:=h
  rcases List.mem_cons.1 hm with e|hm
  ·cases e
   exact⟨g,t,cs,fuel,p,h1,h2,h3,h4⟩
  ·exact laid_one h5 nm d hm
theorem globAt_of {laid:List (String×DataW Unit)} {W:World} (hL:laidMetH Tryz.prog laid W) (hpl:(laid.all fun x=>x.2.handleName?.isNone)=true) {nm:String} {d:DataW Unit} (hm:(nm,d)∈laid) {g:Nat} {t:TypeId} {l:List Value}
  (hg:Tryz.prog.globalNamed nm=some g) (ht:(Tryz.prog.globals[g]?).map (·.type)=some t) (rd:Rd t d l) (hl:glob g=some l):GlobAt W g:=by
 rw[MakeChecks.laidMetH_plain _ _ _ hpl]at hL
 obtain⟨ps,hv,_,_⟩:=hL
 obtain⟨g',t',cs,fuel,p,h1,h2,h3,h4⟩:=laid_one hv nm d hm
 obtain rfl:=Option.some.inj (hg.symm.trans h1)
 obtain rfl:=Option.some.inj (ht.symm.trans h2)
 have hcs:=rd W fuel _ _ h4 rfl
 intro cs' hcs'
 obtain rfl:=Option.some.inj (hl.symm.trans hcs')
 simp only[World.var?,hg,Option.bind_some]at h3
 split at h3
 ·rename_i arr el fr hh
  obtain rfl:=Option.some.inj h3
  exact⟨arr,el,fr,hh,hcs⟩
 ·cases h3
theorem rdBoth:Rd 254 Rows.laid_sluice_num_both [.bool true,.int .i64 0,.bool true,.int .i64 0,.bool true,.int .i64 0,.bool true,.int .i64 0,.bool false,.int .i64 0,.bool false,.int .i64 0,.bool true,.int .i64 0,.bool false,.int .i64 0,.bool true,.int .i64 1] :=
 rd_array3 Tryz.underlying254 (rd_array3 Tryz.underlying235 (rd53 _ _) (rd53 _ _) (rd53 _ _) (by kernel_rfl)) (rd_array3 Tryz.underlying235 (rd53 _ _) (rd53 _ _) (rd53 _ _) (by kernel_rfl)) (rd_array3 Tryz.underlying235 (rd53 _ _) (rd53 _ _) (rd53 _ _) (by kernel_rfl)) (by kernel_rfl)
theorem rdEither:Rd 254 Rows.laid_sluice_num_either [.bool true,.int .i64 0,.bool false,.int .i64 0,.bool true,.int .i64 1,.bool false,.int .i64 0,.bool false,.int .i64 0,.bool true,.int .i64 1,.bool true,.int .i64 1,.bool true,.int .i64 1,.bool true,.int .i64 1] :=
 rd_array3 Tryz.underlying254 (rd_array3 Tryz.underlying235 (rd53 _ _) (rd53 _ _) (rd53 _ _) (by kernel_rfl)) (rd_array3 Tryz.underlying235 (rd53 _ _) (rd53 _ _) (rd53 _ _) (by kernel_rfl)) (rd_array3 Tryz.underlying235 (rd53 _ _) (rd53 _ _) (rd53 _ _) (by kernel_rfl)) (by kernel_rfl)
theorem rdOther:Rd 235 Rows.laid_sluice_num_other [.bool true,.int .i64 1,.bool false,.int .i64 0,.bool true,.int .i64 0] :=
 rd_array3 Tryz.underlying235 (rd53 _ _) (rd53 _ _) (rd53 _ _) (by kernel_rfl)
theorem rd_ints {t e:TypeId} {k:IntKind} {n:Nat} (ht:Tryz.prog.underlying t=some (.array n e)) (he:Tryz.prog.underlying e=some (.int k)) (hc:Tryz.prog.cellsOf e=1) (ec:Tryz.prog.cellsOf t=n) (l:List Int) (hl:l.length=n):Rd t (.agg (l.map fun x=>.lit (.int k x))) (l.map fun x=>.int k x):=fun W f cs x h ex=>by
 obtain⟨xs,m,_,rfl,hcl,hn,hel⟩:=DataW.trod_array ht h
 simp only[DataW.agg.injEq]at ex
 have hcn:cs.length=n:=by rw[hcl,ec]
 apply List.ext_getElem
 ·rw[hcn,List.length_map,hl]
 intro i h1 h2
 have hi:i<n:=by omega
 have hx:=hel i (by omega)
 have hlt:i<xs.length:=by omega
 rw[List.getElem?_eq_getElem hlt]at hx
 have hxi:(xs[i]).1=.lit (.int k (l[i]'(by omega))):=by
  have:=congrArg (·[i]?) ex
  simpa[hlt,show i<l.length by omega]using this
 have:=rd_int he (l[i]'(by omega)) W m _ _ hx hxi
 rw[hc,Nat.mul_one,List.take_one,List.head?_drop,List.getElem?_eq_getElem h1]at this
 simpa using this
theorem rdOperands:Rd 203 Rows.laid_sluice_code_operands ((glob 0).getD []) :=
 rd_ints (n:=27) Tryz.underlying203 Tryz.underlying3 (by kernel_rfl) (by kernel_rfl) [-1,0,0,0,0,0,0,0,0,0,1,1,2,2,2,2,2,2,2,2,2,2,2,2,2,1,1] rfl
section
variable {laid:List (String×DataW Unit)} {W:World} (hL:laidMetH Tryz.prog laid W) (hpl:(laid.all fun x=>x.2.handleName?.isNone)=true)
include hL hpl
theorem at0 (hm : ("sluice/code.operands", Rows.laid_sluice_code_operands) ∈ laid) : GlobAt W 0 := globAt_of hL hpl hm (by kernel_rfl) (by kernel_rfl) rdOperands rfl
theorem at3 (hm : ("sluice/num.both", Rows.laid_sluice_num_both) ∈ laid) : GlobAt W 4 := globAt_of hL hpl hm (by kernel_rfl) (by kernel_rfl) rdBoth rfl
theorem at4 (hm : ("sluice/num.either", Rows.laid_sluice_num_either) ∈ laid) : GlobAt W 5 := globAt_of hL hpl hm (by kernel_rfl) (by kernel_rfl) rdEither rfl
theorem at2 (hm : ("sluice/num.other", Rows.laid_sluice_num_other) ∈ laid) : GlobAt W 2 := globAt_of hL hpl hm (by kernel_rfl) (by kernel_rfl) rdOther rfl
theorem at1 (hm : ("sluice/num.unknown", Rows.laid_sluice_num_unknown) ∈ laid) : GlobAt W 1 := globAt_of hL hpl hm (by kernel_rfl) (by kernel_rfl) (rd53 _ _) rfl
theorem at5 (hm : ("sluice/num.yes", Rows.laid_sluice_num_yes) ∈ laid) : GlobAt W 6 := globAt_of hL hpl hm (by kernel_rfl) (by kernel_rfl) (rd53 _ _) rfl
theorem at6 (hm : ("sluice/num.no", Rows.laid_sluice_num_no) ∈ laid) : GlobAt W 7 := globAt_of hL hpl hm (by kernel_rfl) (by kernel_rfl) (rd53 _ _) rfl
end
section
variable {H:Type} {enc:TypeId×Value→H}
theorem trodAll_below (hl:laidOutB Tryz.prog=true) {W W':World} (hb:Below W.heap.size W W'):∀{ts:List TypeId} {vs:List Value} {ds:List (DataW H)} {ps:List MemPlace},(∀t∈ts,Tryz.prog.readableRec t=true∧t<Tryz.prog.types.size)→
  DataW.TrodAll enc Tryz.prog W 0 (fun _=>true) true ts vs ds ps→(∀x∈ps,x.block<W.heap.size)→DataW.TrodAll enc Tryz.prog W' 0 (fun b=>decide (b<W.heap.size)) true ts vs ds ps
 | [],vs,ds,ps,_,h,_=>by
  obtain⟨rfl,rfl,rfl⟩:=trodAll_nil h
  exact trodAll_mk0
 | t::ts,vs,ds,ps,ht,h,hlt=>by
  obtain⟨v,vs1,d,ds1,a,b,rfl,rfl,rfl,h1,h2⟩:=ChangeShapes.trodAll_cons h
  exact⟨a,b,Below.trod hl (ht t (by simp)).1 (ht t (by simp)).2 h1 hb (fun x hx=>hlt x (by simp[hx])),trodAll_below hl hb (fun t' h'=>ht t' (by simp[h'])) h2 (fun x hx=>hlt x (by simp[hx])),rfl⟩
theorem post_true {f:Func} {s:ChangeSpec} {apart fresh:Bool} {handsOn:Bool} {W W':World} {args:Array Value} {ds gs:List (DataW H)} {before:List MemPlace} (hW:DataW.Whole enc Tryz.prog f.params.toList s.vars apart W args.toList ds gs before) (hv:s.vars=[])
  (ht0:(f.params.toList.all fun t=>Tryz.prog.readableRec t&&decide (t<Tryz.prog.types.size))=true) (hr:f.resultTypes = #[4]) (hs:(s.fn H (ds++gs))={results:=[.lit (.bool true)],args:=ds,vars:=[]}) (hb:Below W.heap.size W W') :
  s.post enc Tryz.prog f apart fresh handsOn false W args (.bool true) W':=by
 have ht:∀t∈f.params.toList,Tryz.prog.readableRec t=true∧t<Tryz.prog.types.size:=fun t h=>by simpa using List.all_eq_true.1 ht0 t h
 have hlt:=hW.lt
 obtain⟨p,q,hA,hV,rfl,hfz,hnd⟩:=hW
 have hl:laidOutB Tryz.prog=true:=by kernel_rfl
 have hV':=hV
 rw[hv]at hV
 obtain⟨rfl,rfl⟩:=ChangeShapes.trodVars_none hV
 refine⟨ds,[],p++[],[],p,[],⟨p,[],hA,hV',rfl,hfz,hnd⟩,?_,?_,?_,hb.frame _,fun h=>by cases h⟩
 ·rw[hs,hr]
  exact ChangeShapes.trodAll_mk1 (shut_bool Tryz.underlying4 true)
 ·rw[hs]
  exact trodAll_below hl hb ht hA fun x hx=>by simpa using hlt x (by simp[hx])
 ·rw[hs,hv]
  exact rfl
end
end Go.Proofs.YtbffkkeieihpdaaGreatDoor
namespace Go.Proofs.YtbffkkeieihpdaaGreatDoor
open Go Go.Eng Go.RowKit Go.ChangeShapes Go.Joins
theorem rng_of {n:Int} (h:(Lit.int .i64 n).wf=true) : -9223372036854775808≤n∧n<9223372036854775808:=by
 simp[Lit.wf,IntKind.min,IntKind.max,IntKind.signed,IntKind.bits]at h
 omega
end Go.Proofs.YtbffkkeieihpdaaGreatDoor
namespace Go.Proofs.YtbffkkeieihpdaaGreatDoor
open Go Go.Eng
def andV (a b:V):V:=ofRank (if rankV a≤rankV b then rankV a else rankV b)
def orV (a b:V):V:=ofRank (if rankV a≤rankV b then rankV b else rankV a)
def notV (a:V):V:=ofRank (2-rankV a)
def trueV (a:V):Bool:=rankV a==2
def g17:=pure2 deV deV fun a b=>vv (andV a b)
def g18:=pure2 deV deV fun a b=>vv (orV a b)
def g19:=pure1 deV fun a=>vv (notV a)
def g20:=pure1 deV fun a=>bv (trueV a)
def W (n:Int):Int:=IntKind.i64.wrap n
def U (n:Int):Int:=IntKind.u64.wrap n
def addL (a b:V):V:=if a.k&&b.k then (if ((decide (W (a.n+b.n) > a.n) != decide (b.n > 0))&&b.n != 0)then unk else knownV (W (a.n+b.n)))else unk
def subL (a b:V):V:=if a.k&&b.k then (if ((decide (W (a.n-b.n)<a.n) != decide (b.n > 0))&&b.n != 0)then unk else knownV (W (a.n-b.n)))else unk
def g30:=pure2 deV deV fun a b=>vv (addL a b)
def g31:=pure2 deV deV fun a b=>vv (subL a b)
theorem p17:P0 [4] 192 g17:=by
 refine mk2 (S:=[4]) (tb_cons p48 tb_nil) Tryz.func192 rfl (by kernel_rfl) vv (fun x a h=>deV_out h) vv (fun x a h=>deV_out h) (fun a b=>rfl) (fun a b h n => ?_)
 rcases rank3 a with e|e|e<;>rcases rank3 b with e'|e'|e'<;>simp[evv,g48,pure1,deV,ii,vv,andV,e,e',ofRank]
theorem p18:P0 [5] 193 g18:=by
 refine mk2 (S:=[5]) (tb_cons p48 tb_nil) Tryz.func193 rfl (by kernel_rfl) vv (fun x a h=>deV_out h) vv (fun x a h=>deV_out h) (fun a b=>rfl) (fun a b h n => ?_)
 rcases rank3 a with e|e|e<;>rcases rank3 b with e'|e'|e'<;>simp[evv,g48,pure1,deV,ii,vv,orV,e,e',ofRank]
theorem p19:P0 [2] 144 g19:=by
 refine mk1 (S:=[2]) (tb_cons p48 tb_nil) Tryz.func144 rfl (by kernel_rfl) vv (fun x a h=>deV_out h) (fun a=>rfl) (fun a h n => ?_)
 rcases rank3 a with e|e|e<;>simp[evv,g48,pure1,deV,ii,vv,notV,e,ofRank]
theorem p20:P0 [] 92 g20:=by
 refine mk1 (S:=[]) (tb_cons p48 tb_nil) Tryz.func92 rfl (by kernel_rfl) vv (fun x a h=>deV_out h) (fun a=>rfl) (fun a h n => ?_)
 simp[evv,g48,pure1,deV,ii,vv,bv,trueV]
theorem p30:P0 [1] 187 g30:=by
 refine mk2 (S:=[1]) (tb_cons p51 tb_nil) Tryz.func187 rfl (by kernel_rfl) vv (fun x a h=>deV_out h) vv (fun x a h=>deV_out h) (fun a b=>rfl) (fun a b h n => ?_)
 obtain⟨k,m⟩:=a
 obtain⟨k',m'⟩:=b
 cases k<;>cases k'<;>simp[evv,g51,pure1,deI,vv,addL,unk,knownV,W]
 grind
theorem p31:P0 [1] 188 g31:=by
 refine mk2 (S:=[1]) (tb_cons p51 tb_nil) Tryz.func188 rfl (by kernel_rfl) vv (fun x a h=>deV_out h) vv (fun x a h=>deV_out h) (fun a b=>rfl) (fun a b h n => ?_)
 obtain⟨k,m⟩:=a
 obtain⟨k',m'⟩:=b
 cases k<;>cases k'<;>simp[evv,g51,pure1,deI,vv,subL,unk,knownV,W]
 grind
def B (n:Int):Int:=U ((BitVec.ofInt IntKind.u64.bits n &&& BitVec.ofInt IntKind.u64.bits 4294967295).toNat:Int)
def S (n:Int):Int:=n.fdiv (2^min 32 IntKind.u64.bits)
def mulT (x y:Int):Int:=U (U (S x*B y)+S (U (B x*B y)))
def mulHi (x y:Int):Int :=
 U (U (U (S x*S y)+S (mulT x y))+S (U (B (mulT x y)+U (B x*S y))))
def g59:=pure2 deU deU fun a b=>.t [uu (mulHi a b),uu (U (a*b))]
def divL (a b:V):V:=if a.k&&b.k&&b.n != 0 then (if a.n == -9223372036854775808&&b.n == -1 then unk else knownV (W (a.n.tdiv b.n)))else unk
def modL (a b:V):V:=if a.k&&b.k&&b.n != 0 then (if b.n == -1 then knownV 0 else knownV (a.n.tmod b.n))else unk
def negL (a:V):V:=if a.k&&a.n != -9223372036854775808 then knownV (W (0-a.n))else unk
def cmpV (op:Int) (a b:V):V:=if a.k&&b.k then
 (if op=19 then truthV (a.n==b.n)else if op=20 then truthV (a.n != b.n)else if op=21 then truthV (decide (a.n<b.n))else if op=22 then truthV (decide (a.n≤b.n))else if op=23 then truthV (decide (a.n > b.n))else if op=24 then truthV (decide (a.n≥b.n))else unk)else unk
def g26:=pure2 deV deV fun a b=>vv (divL a b)
def g27:=pure2 deV deV fun a b=>vv (modL a b)
def g37:=pure1 deV fun a=>vv (negL a)
def g32:=pure3 deI deV deV fun o a b=>vv (cmpV o a b)
theorem p26:P0 [1] 190 g26:=by
 refine mk2 (S:=[1]) (tb_cons p51 tb_nil) Tryz.func190 rfl (by kernel_rfl) vv (fun x a h=>deV_out h) vv (fun x a h=>deV_out h) (fun a b=>rfl) (fun a b h n => ?_)
 obtain⟨k,m⟩:=a
 obtain⟨k',m'⟩:=b
 cases k<;>cases k'<;>simp[evv,g51,pure1,deI,vv,divL,unk,knownV,W]
 all_goals grind
theorem p27:P0 [1] 191 g27:=by
 refine mk2 (S:=[1]) (tb_cons p51 tb_nil) Tryz.func191 rfl (by kernel_rfl) vv (fun x a h=>deV_out h) vv (fun x a h=>deV_out h) (fun a b=>rfl) (fun a b h n => ?_)
 obtain⟨k,m⟩:=a
 obtain⟨k',m'⟩:=b
 cases k<;>cases k'<;>simp[evv,g51,pure1,deI,vv,modL,unk,knownV]
 all_goals grind
theorem p37:P0 [1] 143 g37:=by
 refine mk1 (S:=[1]) (tb_cons p51 tb_nil) Tryz.func143 rfl (by kernel_rfl) vv (fun x a h=>deV_out h) (fun a=>rfl) (fun a h n => ?_)
 obtain⟨k,m⟩:=a
 cases k<;>simp[evv,g51,pure1,deI,vv,negL,unk,knownV,W]
 all_goals grind
theorem p32:P0 [1,6,7] 194 g32:=by
 refine mk3 (S:=[1,6,7]) (tb_cons p54 tb_nil) Tryz.func194 rfl (by kernel_rfl) ii (fun x a h=>deI_out h) vv (fun x a h=>deV_out h) vv (fun x a h=>deV_out h) (fun o a b=>rfl) (fun o a b h n => ?_)
 obtain⟨k,m⟩:=a
 obtain⟨k',m'⟩:=b
 cases k<;>cases k'<;>simp[evv,g54,pure1,deB,ii,vv,cmpV,unk]
 by_cases h1:o=19
 ·simp[h1]
 by_cases h2:o=20
 ·simp[h2]
 by_cases h3:o=21
 ·simp[h3]
 by_cases h4:o=22
 ·simp[h4]
 by_cases h5:o=23
 ·simp[h5]
 by_cases h6:o=24
 ·simp[h6]
 simp[h1,h2,h3,h4,h5,h6]
end Go.Proofs.YtbffkkeieihpdaaGreatDoor
namespace Go.Proofs.YtbffkkeieihpdaaGreatDoor
open Go Go.Eng
theorem p59:P0 [] 214 g59:=by
 refine mk2 (S:=[]) tb_nil Tryz.func214 rfl (by kernel_rfl) uu (fun x a h=>deU_out h) uu (fun x a h=>deU_out h) (fun a b=>rfl) (fun a b h n => ?_)
 simp[evv,uu,mulHi,mulT,U,B,S]
end Go.Proofs.YtbffkkeieihpdaaGreatDoor
namespace Go.Proofs.YtbffkkeieihpdaaGreatDoor
open Go Go.Eng
def mulNeg (a b:V):Bool:=decide (a.n<0) != decide (b.n<0)
def mulL (a b:V):V:=if a.k&&b.k then
 (if mulHi (sizeU a.n) (sizeU b.n) != 0 then unk else
  if mulNeg a b&&decide (U (sizeU a.n*sizeU b.n)≤9223372036854775808)then knownV (W (U (0-U (sizeU a.n*sizeU b.n))))else
  if !mulNeg a b&&decide (U (sizeU a.n*sizeU b.n)<9223372036854775808)then knownV (W (U (sizeU a.n*sizeU b.n)))else unk)else unk
def g36:=pure2 deV deV fun a b=>vv (mulL a b)
theorem p36:P0 [1] 189 g36:=by
 refine mk2 (S:=[1]) (tb_cons p60 (tb_cons p59 (tb_cons p51 tb_nil))) Tryz.func189 rfl (by kernel_rfl) vv (fun x a h=>deV_out h) vv (fun x a h=>deV_out h) (fun a b=>rfl) (fun a b h n => ?_)
 obtain⟨k,m⟩:=a
 obtain⟨k',m'⟩:=b
 cases k<;>cases k'<;>simp[evv,g51,g60,g59,pure1,pure2,deI,deU,uu,vv,mulL,mulNeg,unk,knownV,W,U]
 all_goals grind
def applyL (o:Int) (a b:V):V:=if o=14 then addL a b else if o=15 then subL a b else if o=16 then mulL a b else if o=17 then divL a b else if o=18 then modL a b else if o=25 then andV a b else if o=26 then orV a b else cmpV o a b
def g42:=pure3 deI deV deV fun o a b=>vv (applyL o a b)
theorem p42:P0 [1,4,5,6,7] 145 g42:=by
 refine mk3 (S:=[1,4,5,6,7]) (tb_cons p30 (tb_cons p31 (tb_cons p36 (tb_cons p26 (tb_cons p27 (tb_cons p17 (tb_cons p18 (tb_cons p32 tb_nil)))))))) Tryz.func145 rfl (by kernel_rfl) ii (fun x a h=>deI_out h) vv (fun x a h=>deV_out h) vv (fun x a h=>deV_out h) (fun o a b=>rfl) (fun o a b h n => ?_)
 simp[evv,g30,g31,g36,g26,g27,g17,g18,g32,pure2,pure3,deI,deV,ii,vv]
 by_cases h1:o=14
 ·simp[h1,applyL]
 by_cases h2:o=15
 ·simp[h2,applyL]
 by_cases h3:o=16
 ·simp[h3,applyL]
 by_cases h4:o=17
 ·simp[h4,applyL]
 by_cases h5:o=18
 ·simp[h5,applyL]
 by_cases h6:o=25
 ·simp[h6,applyL]
 by_cases h7:o=26
 ·simp[h7,applyL]
 simp[h1,h2,h3,h4,h5,h6,h7,applyL]
section
def deIs:List AV→Option (List Int)
 | []=>some []
 | a::r=>match deI a,deIs r with
  | some n,some l=>some (n::l)
  | _,_=>none
def ints (h:Heap):AV→Option (List Int)
 | .s id ver off len=>match h id with
  | some k=>if k.ver=ver∧off+len≤k.cells.length then deIs ((k.cells.drop off).take len)else none
  | none=>none
 | .v (.slice none n m)=>if n=0∧m=0 then some []else none
 | _=>none
theorem deIs_out:∀{xs:List AV} {l:List Int},deIs xs=some l→l.length=xs.length∧∀i,i<l.length→xs[i]? = some (ii (l.getD i 0))
 | [],l,h=>by
  simp only[deIs,Option.some.injEq]at h
  subst h
  exact⟨rfl,fun i hi=>absurd hi (Nat.not_lt_zero i)⟩
 | a::r,l,h=>by
  simp only[deIs]at h
  split at h
  ·rename_i n l' e1 e2
   simp only[Option.some.injEq]at h
   subst h
   obtain⟨q1,q2⟩:=deIs_out e2
   refine⟨by simp[q1],fun i hi => ?_⟩
   cases i with
   | zero=>simp[deI_out e1,ii]
   | succ i=>simpa using q2 i (by simpa using hi)
  ·cases h
theorem ints_cases {h:Heap} {a:AV} {l:List Int} (e:ints h a=some l):(a=.v (.slice none 0 0)∧l=[])∨
  ∃id off k,a=.s id k.ver off l.length∧h id=some k∧off+l.length≤k.cells.length∧∀i,i<l.length→k.cells[off+i]? = some (ii (l.getD i 0)):=by
 unfold ints at e
 split at e
 ·rename_i id ver off len
  split at e
  ·rename_i k hk
   split at e
   ·rename_i hc
    obtain⟨q1,q2⟩:=deIs_out e
    have hl:l.length=len:=by rw[q1,List.length_take,List.length_drop];omega
    refine .inr ⟨id,off,k,by rw[hc.1,hl],hk,by omega,fun i hi => ?_⟩
    have:=q2 i hi
    rw[List.getElem?_take,if_pos (by omega),List.getElem?_drop]at this
    exact this
   ·cases e
  ·cases e
 ·split at e
  ·rename_i hc
   cases e
   rw[hc.1,hc.2]
   exact .inl ⟨rfl,rfl⟩
  ·cases e
 ·cases e
theorem ints_mono {h h':Heap} (hh:∀i k,h i=some k→h' i=some k) {a:AV} {l:List Int} (e:ints h a=some l):ints h' a=some l:=by
 unfold ints at e ⊢
 split at e
 ·split at e
  ·rename_i hk
   simp only[hh _ _ hk]
   exact e
  ·cases e
 ·exact e
 ·cases e
def big:Nat:=4611686018427387904
section
variable {α:Type}
def pureL (f:List Int→AV):List AV→Heap→PRes
 | [x],h=>match ints h x with
  | some l=>⟨l.length<big,f l⟩
  | none=>⟨False,.any⟩
 | _,_=>⟨False,.any⟩
def pureAL (da:AV→Option α) (p:α→List Int→Prop) (f:α→List Int→AV):List AV→Heap→PRes
 | [y,x],h=>match da y,ints h x with
  | some a,some l=>⟨l.length<big∧p a l,f a l⟩
  | _,_=>⟨False,.any⟩
 | _,_=>⟨False,.any⟩
theorem pureL_out {f:List Int→AV} {args:List AV} {h:Heap} (hs:(pureL f args h).side):∃x l,args=[x]∧ints h x=some l∧l.length<big∧∀h',(∀i k,h i=some k→h' i=some k)→pureL f args h'=⟨l.length<big,f l⟩:=by
 unfold pureL at hs
 split at hs
 ·split at hs
  ·rename_i e
   refine⟨_,_,rfl,e,hs,fun h' hh => ?_⟩
   simp only[pureL,ints_mono hh e]
  ·exact hs.elim
 ·exact hs.elim
theorem pureAL_out {da:AV→Option α} {p:α→List Int→Prop} {f:α→List Int→AV} {args:List AV} {h:Heap} (hs:(pureAL da p f args h).side):∃y a x l,args=[y,x]∧da y=some a∧ints h x=some l∧l.length<big∧p a l∧∀h',(∀i k,h i=some k→h' i=some k)→pureAL da p f args h'=⟨l.length<big∧p a l,f a l⟩:=by
 unfold pureAL at hs
 split at hs
 ·split at hs
  ·rename_i e1 e2
   refine⟨_,_,_,_,rfl,e1,e2,hs.1,hs.2,fun h' hh => ?_⟩
   simp only[pureAL,e1,ints_mono hh e2]
  ·exact hs.elim
 ·exact hs.elim
end
section
variable {α:Type} {S:List Nat} {l:List (FuncId×(List AV→Heap→PRes))} {f:FuncId} {fn:Func} {c:Code}
theorem mkL (ok : TbOk S l) (hf : Tryz.prog.funcs[f]? = some fn) (hb : fn.body = some c) (hok : (!(fn.name == "runtime.NumGoroutine") && fnOk (cx S (pfL l)) fn c && decide (1 ≤ fn.ntmps)) = true) {g : List Int → AV} (hg : ∀ a, (g a).free = true)
  (h1:∀a l' h n,ints h a=some l'→l'.length<big→(∀i,n≤i→h i=none)→awp (cx S (pfL l)) c (finQ (cx S (pfL l)) fn fun z _ _=>z=g l') ⟨env0 [a],roH h,n⟩):P0 S f (pureL g):=by
 have hok':=hok3 hok
 exact pure_any (fun _ hx=>hx) (pure_of_awp (pfL_ok ok) (mixed _ _) hf hb hok'.2.1 (callable hf hok'.1 (by rw[hb];rfl) _ _) (fun args h h' hh hs=>by
   obtain⟨x,l',rfl,e,hl,hall⟩:=pureL_out hs
   rw[hall h' hh,hall h (fun _ _ e=>e)]
   exact⟨hl,rfl⟩) fun args h hs=>by
  obtain⟨x,l',rfl,e,hl,hall⟩:=pureL_out hs
  have ev:=hall h (fun _ _ e=>e)
  exact⟨hok'.2.2,by rw[ev];exact hg l',fun n hn=>by rw[ev];exact h1 x l' h n e hl hn⟩)
theorem mkAL (ok : TbOk S l) (hf : Tryz.prog.funcs[f]? = some fn) (hb : fn.body = some c) (hok : (!(fn.name == "runtime.NumGoroutine") && fnOk (cx S (pfL l)) fn c && decide (2 ≤ fn.ntmps)) = true) {da : AV → Option α} (en : α → AV) (hd : ∀ x a, da x = some a → x = en a) {p : α → List Int → Prop} {g : α → List Int → AV} (hg : ∀ a b, (g a b).free = true)
  (h1:∀o a l' h n,ints h a=some l'→l'.length<big→p o l'→(∀i,n≤i→h i=none)→awp (cx S (pfL l)) c (finQ (cx S (pfL l)) fn fun z _ _=>z=g o l') ⟨env0 [en o,a],roH h,n⟩):P0 S f (pureAL da p g):=by
 have hok':=hok3 hok
 exact pure_any (fun _ hx=>hx) (pure_of_awp (pfL_ok ok) (mixed _ _) hf hb hok'.2.1 (callable hf hok'.1 (by rw[hb];rfl) _ _) (fun args h h' hh hs=>by
   obtain⟨y,o,x,l',rfl,e0,e,hl,hp,hall⟩:=pureAL_out hs
   rw[hall h' hh,hall h (fun _ _ e=>e)]
   exact⟨⟨hl,hp⟩,rfl⟩) fun args h hs=>by
  obtain⟨y,o,x,l',rfl,e0,e,hl,hp,hall⟩:=pureAL_out hs
  have ev:=hall h (fun _ _ e=>e)
  obtain rfl:=hd y o e0
  exact⟨hok'.2.2,by rw[ev];exact hg o l',fun n hn=>by rw[ev];exact h1 o x l' h n e hl hp hn⟩)
end
def g67:List AV→Heap→PRes:=fun args _=>match args with
 | [.v (.int .u64 x),.v (.int .u64 y),.v (.int .u64 c)]=>⟨0≤x∧0≤y∧0≤c∧c≤1,.t [uu ((x+y+c)%18446744073709551616),uu ((x+y+c)/18446744073709551616)]⟩
 | _=>⟨False,.any⟩
theorem p67:P0 [] 240 g67:=by
 refine⟨fun args h h' _ hs=>⟨hs,rfl⟩,.inr fun ρ h w args vs hv hs => ?_⟩
 unfold g67 at hs ⊢
 split at hs
 ·rename_i x y c
  simp only[VRs,VR]at hv
  obtain⟨_,_,rfl,rfl,_,_,rfl,rfl,_,_,rfl,rfl,rfl⟩:=hv
  obtain⟨h1,h2,h3,h4⟩:=hs
  refine⟨.tuple #[.int .u64 ((x+y+c)%18446744073709551616),.int .u64 ((x+y+c)/18446744073709551616)],?_,?_⟩
  ·rw[cx_P,run_callFunc_extern Tryz.func240 (by kernel_rfl) (by kernel_rfl) (by kernel_rfl) (e:=add64Entry) (by kernel_rfl),run_add64 x y c h1 h2 h3 h4]
   rfl
  ·simp only[VR,uu]
   exact⟨[_,_],rfl,by simp[VRs,VR]⟩
 ·exact hs.elim
end
section
def Rng (n:Int):Prop:=-9223372036854775808≤n∧n<9223372036854775808
theorem W_def (n:Int):W n=if 9223372036854775808≤n%18446744073709551616 then n%18446744073709551616-18446744073709551616 else n%18446744073709551616:=by
 simp[W,IntKind.wrap,IntKind.bits,IntKind.signed]
theorem U_def (n:Int):U n=n%18446744073709551616:=by
 simp[U,IntKind.wrap,IntKind.bits,IntKind.signed]
theorem W_spec (n:Int):∃q:Int,W n=n-18446744073709551616*q∧Rng (W n):=by
 unfold Rng
 rw[W_def]
 refine⟨(n+9223372036854775808)/18446744073709551616,?_⟩
 by_cases h:9223372036854775808≤n%18446744073709551616
 ·simp only[h,if_true]
  omega
 ·simp only[h,if_false]
  omega
theorem U_spec (n:Int):∃q:Int,U n=n-18446744073709551616*q∧0≤U n∧U n<18446744073709551616:=by
 rw[U_def]
 exact⟨n/18446744073709551616,by omega⟩
theorem W_id {n:Int} (h:Rng n):W n=n:=by
 obtain⟨q,e,h1⟩:=W_spec n
 unfold Rng at *
 omega
theorem U_id {n:Int} (h:0≤n∧n<18446744073709551616):U n=n:=by
 obtain⟨q,e,h1⟩:=U_spec n
 omega
def fitV (n:Int):V:=if -9223372036854775808≤n∧n<9223372036854775808 then ⟨true,n⟩else ⟨false,0⟩
theorem fitV_pos {n:Int} (h:Rng n):fitV n=⟨true,n⟩:=if_pos h
def on2 (f:Int→Int→V) (a b:V):V:=if a.k&&b.k then f a.n b.n else unk
def addV:=on2 fun x y=>fitV (x+y)
def subV:=on2 fun x y=>fitV (x-y)
def mulV:=on2 fun x y=>fitV (x*y)
def divV:=on2 fun x y=>if y=0 then unk else fitV (x.tdiv y)
def modV:=on2 fun x y=>if y=0 then unk else knownV (x.tmod y)
def negV (a:V):V:=if a.k then fitV (0-a.n)else unk
section
variable {a b:V} (ha:Rng a.n) (hb:Rng b.n)
include ha hb
theorem addL_eq:addL a b=addV a b:=by
 obtain⟨q,e,h1⟩:=W_spec (a.n+b.n)
 unfold Rng at *
 simp only[addL,addV,on2,fitV,unk,knownV]
 split
 ·split
  ·rename_i hc
   simp only[gt_iff_lt,Bool.and_eq_true,bne_iff_ne,ne_eq,decide_eq_decide]at hc
   rw[if_neg]
   omega
  ·rename_i hc
   simp only[gt_iff_lt,Bool.and_eq_true,bne_iff_ne,ne_eq,decide_eq_decide]at hc
   rw[if_pos (by omega)]
   congr 1
   omega
 ·rfl
theorem subL_eq:subL a b=subV a b:=by
 obtain⟨q,e,h1⟩:=W_spec (a.n-b.n)
 unfold Rng at *
 simp only[subL,subV,on2,fitV,unk,knownV]
 split
 ·split
  ·rename_i hc
   simp only[gt_iff_lt,Bool.and_eq_true,bne_iff_ne,ne_eq,decide_eq_decide]at hc
   rw[if_neg]
   omega
  ·rename_i hc
   simp only[gt_iff_lt,Bool.and_eq_true,bne_iff_ne,ne_eq,decide_eq_decide]at hc
   rw[if_pos (by omega)]
   congr 1
   omega
 ·rfl
end
theorem negL_eq {a:V} (ha:Rng a.n):negL a=negV a:=by
 unfold Rng at *
 simp only[negL,negV,unk,knownV]
 cases hk:a.k
 ·simp
 ·by_cases hm:a.n=-9223372036854775808
  ·simp[hm,fitV]
  ·have:Rng (0-a.n):=by unfold Rng;omega
   simp only[Bool.true_and,bne_iff_ne,ne_eq,hm,not_false_eq_true,if_true]
   rw[W_id this,fitV_pos this]
theorem tdiv_bounds {x y:Int} (hy:y≠0):x=y*x.tdiv y+x.tmod y∧(0≤x→0≤x.tmod y)∧(x≤0→x.tmod y≤0)∧(0<y→x.tmod y<y∧-y<x.tmod y)∧(y<0→x.tmod y < -y∧y<x.tmod y):=by
 refine⟨(Int.mul_tdiv_add_tmod x y).symm,fun h=>Int.tmod_nonneg y h,fun h => ?_,fun h => ?_,fun h => ?_⟩
 ·have:=Int.tmod_nonneg y (a:=-x) (by omega)
  rw[Int.neg_tmod]at this
  omega
 ·have h1:=Int.tmod_lt_of_pos x h
  have h2:=Int.tmod_lt_of_pos (-x) h
  rw[Int.neg_tmod]at h2
  omega
 ·have h1:=Int.tmod_lt_of_pos x (b:=-y) (by omega)
  have h2:=Int.tmod_lt_of_pos (-x) (b:=-y) (by omega)
  rw[Int.tmod_neg]at h1 h2
  rw[Int.neg_tmod]at h2
  omega
theorem tdiv_rng {x y:Int} (hx:Rng x) (hy:y≠0) (hm:¬(x=-9223372036854775808∧y=-1)):Rng (x.tdiv y):=by
 have h1:(x.tdiv y).natAbs≤x.natAbs:=by rw[Int.natAbs_tdiv];exact Nat.div_le_self _ _
 unfold Rng at *
 by_cases hx2:x=-9223372036854775808
 ·by_cases h2:(x.tdiv y).natAbs=9223372036854775808
  ·rw[Int.natAbs_tdiv,hx2]at h2
   change 9223372036854775808/y.natAbs=9223372036854775808 at h2
   have h3:y.natAbs=1:=by
    have h5:9223372036854775808/y.natAbs*y.natAbs≤9223372036854775808:=Nat.div_mul_le_self _ _
    rw[h2]at h5
    omega
   have h4:y=1:=by omega
   subst h4
   rw[Int.tdiv_one]
   omega
  ·omega
 ·omega
theorem divL_eq {a b:V} (ha:Rng a.n):divL a b=divV a b:=by
 simp only[divL,divV,on2]
 cases hk:(a.k&&b.k)
 ·simp
 ·by_cases hz:b.n=0
  ·simp[hz]
  ·simp only[Bool.true_and,bne_iff_ne,ne_eq,hz,not_false_eq_true,if_true,if_false]
   by_cases hm:a.n=-9223372036854775808∧b.n=-1
   ·simp[hm.1,hm.2,fitV,unk]
   ·have h1:=tdiv_rng ha hz hm
    rw[if_neg (by simpa using hm),W_id h1]
    rw[fitV_pos h1]
    rfl
theorem modL_eq {a b:V}:modL a b=modV a b:=by
 simp only[modL,modV,on2]
 cases hk:(a.k&&b.k)
 ·simp
 ·by_cases hz:b.n=0
  ·simp[hz]
  ·simp only[Bool.true_and,bne_iff_ne,ne_eq,hz,not_false_eq_true,if_true,if_false]
   by_cases hm:b.n=-1
   ·simp[hm,knownV]
   ·simp[hm,knownV]
end
def sgn (x:Int):Int:=x.fdiv (2^min 63 IntKind.i64.bits)
def sumStep (s:Int×Int) (x:Int):Int×Int :=
 ((s.1+U (sgn x)+(s.2+U x+0)/18446744073709551616)%18446744073709551616,(s.2+U x+0)%18446744073709551616)
def sumAt (l:List Int) (j:Nat):Int×Int:=(l.take j).foldl sumStep (0,0)
theorem sumAt_succ {l:List Int} {j:Nat} (h:j<l.length):sumAt l (j+1)=sumStep (sumAt l j) (l.getD j 0):=by
 unfold sumAt
 rw[List.take_add_one,List.getElem?_eq_getElem h,List.foldl_append]
 simp[List.getD_eq_getElem?_getD,List.getElem?_eq_getElem h]
theorem sumAt_rng (l:List Int) (j:Nat):(0≤(sumAt l j).1∧(sumAt l j).1<18446744073709551616)∧0≤(sumAt l j).2∧(sumAt l j).2<18446744073709551616:=by
 have:∀(m:List Int) (s:Int×Int),((0≤s.1∧s.1<18446744073709551616)∧0≤s.2∧s.2<18446744073709551616)→((0≤(m.foldl sumStep s).1∧(m.foldl sumStep s).1<18446744073709551616)∧0≤(m.foldl sumStep s).2∧(m.foldl sumStep s).2<18446744073709551616):=fun m=>by
  induction m with
  | nil=>exact fun s h=>h
  | cons x m ih=>exact fun s h=>ih _ (by unfold sumStep;simp only[];omega)
 exact this _ _ (by simp)
def sumL (l:List Int):V:=if W (sumAt l l.length).1 != sgn (W (sumAt l l.length).2)then unk else knownV (W (sumAt l l.length).2)
def g55:=pureL fun l=>vv (sumL l)
theorem wrap_nat {j:Nat} (h:j<big):IntKind.i64.wrap ((j:Int)+1)=((j+1:Nat):Int):=by
 unfold big at h
 have e:IntKind.i64.wrap ((j:Int)+1)=if 9223372036854775808≤((j:Int)+1)%18446744073709551616 then ((j:Int)+1)%18446744073709551616-18446744073709551616 else ((j:Int)+1)%18446744073709551616:=by
  simp[IntKind.wrap,IntKind.bits,IntKind.signed]
 rw[e]
 split<;>omega
theorem ro_at {h:Heap} {id:Nat} {k:Blk} (hk:h id=some k):roH h id=some ⟨k.cells,k.ver,false,k.esz⟩:=by simp[roH,hk,Blk.ro]
theorem ne_of {h:Heap} {id n:Nat} {k:Blk} (hk:h id=some k) (hn:∀i,n≤i→h i=none):∀j,¬id=n+j:=fun j e=>by
 have:=hn id (by omega)
 rw[hk]at this
 cases this
def tb55:List (FuncId×(List AV→Heap→PRes)):=[(186,g51),(240,g67)]
theorem p55:P0 [1] 228 g55:=by
 refine mkL (S:=[1]) (l:=tb55) (tb_cons p51 (tb_cons p67 tb_nil)) Tryz.func228 rfl (by kernel_rfl) (fun a=>rfl) (fun a l h n hi hl hn => ?_)
 have key:∀e:Nat→AV,e 0=a→awp (cx [1] (pfL tb55)) (Tryz.f228.body.getD .skip) (finQ (cx [1] (pfL tb55)) Tryz.f228 fun z _ _=>z=vv (sumL l)) ⟨e,roH h,n⟩:=fun e he=>by
  rcases ints_cases hi with ⟨rfl,rfl⟩|⟨id,off,k,rfl,hk,hoff,hat⟩
  ·simp[evv,Tryz.f228,he]
   refine awp_loop (fun s=>s.e 12=ii 0∧s.e 11=ii 0∧s.e 2=.p n 0 0∧s.e 3=uu 0∧s.e 4=uu 0∧s.h=up (roH h) n (some ⟨[.v (.bool false),.v (.int .i64 0)],0,true,2⟩)) (fun _=>0) (by simp[up,ii,uu]) ?_
   rintro e' h' n' ⟨q12,q11,q2,q3,q4,hh⟩
   simp only[]at q12 q11 q2 q3 q4 hh
   subst hh
   simp[evv,q12,q11,q2,q3,q4,ii,uu,tb55,g51,pure1,deI,vv,knownV,sumL,sumAt,sgn,W,unk]
   decide
  ·have h0:=ne_of hk hn 0
   have hro:=ro_at hk
   simp only[Nat.add_zero]at h0
   simp[evv,Tryz.f228,he]
   refine awp_loop (fun s=>∃j,j≤l.length∧s.e 10=.s id k.ver off l.length∧s.e 12=ii j∧s.e 11=ii l.length∧s.e 2=.p n 0 0∧s.e 3=uu (sumAt l j).1∧s.e 4=uu (sumAt l j).2∧s.h=up (roH h) n (some ⟨[.v (.bool false),.v (.int .i64 0)],0,true,2⟩)) (fun s=>l.length-(s.e 12).i.toNat) ⟨0,by simp[up,ii,uu,sumAt]⟩ ?_
   rintro e' h' n' ⟨j,hj,q10,q12,q11,q2,q3,q4,hh⟩
   simp only[]at q10 q12 q11 q2 q3 q4 hh
   subst hh
   by_cases hlt:j<l.length
   ·have hget:=hat j hlt
    have hw:=wrap_nat (j:=j) (by omega)
    obtain⟨⟨r1,r2⟩,r3,r4⟩:=sumAt_rng l j
    have hs:=sumAt_succ hlt
    simp[evv,q10,q12,q11,q2,q3,q4,ii,uu,tb55,g67,hlt,h0,hro,hget,hw]
    have eg:l.getD j 0=l[j]:=by simp[List.getD_eq_getElem?_getD,hlt]
    rw[eg]at hs
    obtain⟨_,_,u1⟩:=U_spec l[j]
    obtain⟨_,_,u2⟩:=U_spec (sgn l[j])
    have v1:0≤IntKind.u64.wrap l[j]∧IntKind.u64.wrap l[j]<18446744073709551616:=u1
    have v2:0≤IntKind.u64.wrap (l[j].fdiv (2^min 63 IntKind.i64.bits)):=u2.1
    refine⟨by omega,⟨r3,v1.1⟩,⟨r1,v2,by omega,by omega⟩,⟨j+1,by omega,by omega,?_,?_⟩,by omega⟩
    ·rw[hs];simp[sumStep,sgn,U]
    ·rw[hs];simp[sumStep,U]
   ·have hje:j=l.length:=by omega
    subst hje
    simp[evv,q12,q11,q2,q3,q4,ii,uu,tb55,g51,pure1,deI,vv,knownV,sumL,sgn,W,unk]
    split<;>rename_i hc<;>simp[]
 exact key _ rfl
end Go.Proofs.YtbffkkeieihpdaaGreatDoor
