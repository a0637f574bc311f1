import Derived.Test.YtbffkkeieihpdaaGreatDoorE07
import Derived.Scope
set_option linter.unusedSimpArgs false
set_option linter.unusedVariables false
set_option linter.constructorNameAsVariable false
set_option maxRecDepth 100000
set_option maxHeartbeats 4000000
namespace Go.Eng
open Go Go.RowKit
inductive Ex where
 | normal
 | exit (id:Nat)
 | ret
def Ex.go:Ex→Exit
 | .normal=>.normal
 | .exit id=>.exit id
 | .ret=>.ret
def zAs (K:St→Prop) (Q:Ex→St→Prop):Ex→St→Prop
 | .normal,s=>K s
 | x,s=>Q x s
def zK9 (id:Nat) (Q:Ex→St→Prop):Ex→St→Prop
 | .exit j,s=>if j=id then Q .normal s else Q (.exit j) s
 | x,s=>Q x s
def awp (X:Ctx):Code→(Ex→St→Prop)→St→Prop
 | .skip,Q,s=>Q .normal s
 | .label _,Q,s=>Q .normal s
 | .region _ ops draw,Q,s=>if draw=true then yCz X ops (Q .normal) ops.toList s else zOb X ops (Q .normal) ops.toList s
 | .seq a b,Q,s=>awp X a (zAs (awp X b Q) Q) s
 | .cond c a b,Q,s=>(ev s.e c).isB∧((ev s.e c).b=true→awp X a Q s)∧((ev s.e c).b=false→awp X b Q s)
 | .block id c,Q,s=>awp X c (zK9 id Q) s
 | .loop c,Q,s=>∃(I:St→Prop) (μ:St→Nat),I s∧∀s',I s'→awp X c (zAs (fun s''=>I s''∧μ s''<μ s') Q) s'
 | .ret,Q,s=>Q .ret s
 | .exit id,Q,s=>Q (.exit id) s
 | .scope c,Q,s=>awp X c Q s
 | _,_,_=>False
section
variable {X:Ctx} {Q:Ex→St→Prop} {s:St}
theorem zAw {K:St→Prop}:zAs K Q .normal s=K s:=propext ⟨id,id⟩
theorem zIb {K:St→Prop} (i:Nat):zAs K Q (.exit i) s=Q (.exit i) s:=propext ⟨id,id⟩
theorem zFw {K:St→Prop}:zAs K Q .ret s=Q .ret s:=propext ⟨id,id⟩
theorem zH6 (i:Nat):zK9 i Q .normal s=Q .normal s:=propext ⟨id,id⟩
theorem zFh (i j:Nat):zK9 i Q (.exit j) s=if j=i then Q .normal s else Q (.exit j) s:=propext ⟨id,id⟩
theorem zJ1 (i:Nat):zK9 i Q .ret s=Q .ret s:=propext ⟨id,id⟩
theorem zTy:awp X .skip Q s=Q .normal s:=propext ⟨id,id⟩
theorem zQb (l:Nat):awp X (.label l) Q s=Q .normal s:=propext ⟨id,id⟩
theorem zMj (i:Nat) (ops:Array Oper) (draw:Bool):awp X (.region i ops draw) Q s=if draw=true then yCz X ops (Q .normal) ops.toList s else zOb X ops (Q .normal) ops.toList s:=propext ⟨id,id⟩
theorem zDn (a b:Code):awp X (.seq a b) Q s=awp X a (zAs (awp X b Q) Q) s:=propext ⟨id,id⟩
theorem yCq (c:Operand) (a b:Code):awp X (.cond c a b) Q s=((ev s.e c).isB∧((ev s.e c).b=true→awp X a Q s)∧((ev s.e c).b=false→awp X b Q s)):=propext ⟨id,id⟩
theorem yEh (c:Operand) (a b:Code):awp X (.cond c a b) Q s=((ev s.e c).isB∧if (ev s.e c).b=true then awp X a Q s else awp X b Q s):=by
 rw[yCq];cases (ev s.e c).b<;>simp
theorem zAy (i:Nat) (c:Code):awp X (.block i c) Q s=awp X c (zK9 i Q) s:=propext ⟨id,id⟩
theorem zQa (c:Code):awp X (.scope c) Q s=awp X c Q s:=propext ⟨id,id⟩
theorem zZk:awp X .ret Q s=Q .ret s:=propext ⟨id,id⟩
theorem zTz (i:Nat):awp X (.exit i) Q s=Q (.exit i) s:=propext ⟨id,id⟩
theorem yN {c:Code} (I:St→Prop) (μ:St→Nat) (h0:I s) (hr:∀e h n,I ⟨e,h,n⟩→awp X c (zAs (fun s''=>I s''∧μ s''<μ ⟨e,h,n⟩) Q) ⟨e,h,n⟩):awp X (.loop c) Q s:=⟨I,μ,h0,fun s'=>hr s'.e s'.h s'.n⟩
end
def zCw (X:Ctx) (sz:Nat):Code→Bool
 | .skip | .label _ | .ret | .exit _=>true
 | .region _ ops draw=>ops.toList.all (zPd ops sz)&&(!draw||zE0 X ops)
 | .seq a b=>zCw X sz a&&zCw X sz b
 | .cond c a b=>zPe sz c&&zCw X sz a&&zCw X sz b
 | .block _ c=>zCw X sz c
 | .loop c=>zCw X sz c
 | .scope c=>zCw X sz c
 | _=>false
section
variable {X:Ctx} {K:Nat→Prop} {w0:World}
theorem yBs {P:Program} {c:Code} {Q:Exit→Act→World→Prop} {a:Act} {w:World} (I:Nat→Act→World→Prop) (n:Nat) (h0:I n a w)
  (round:∀n a w,I n a w→c.wp P (Exit.then (fun a' w'=>∃m,m<n∧I m a' w') Q) a w):(Code.loop c).wp P Q a w:=by
 have hex:∀a w,(∃n,I n a w)→∃n,I n a w∧∀m,I m a w→n≤m:=fun a w ⟨n,hn⟩=>by
  induction n using Nat.strongRecOn with
  | _ n ih =>
   by_cases hl:∃m,m<n∧I m a w
   ·obtain⟨m,h1,h2⟩:=hl
    exact ih m h1 h2
   ·exact⟨n,hn,fun m hm=>by
     by_cases hmn:n≤m
     ·exact hmn
     ·exact absurd ⟨m,by omega,hm⟩ hl⟩
 let μ:Act→World→Nat:=fun a w => @dite _ (∃n,I n a w) (Classical.propDecidable _) (fun h=>Classical.choose (hex a w h)) (fun _=>0)
 have hμ:∀a w,(∃n,I n a w)→I (μ a w) a w∧∀m,I m a w→μ a w≤m:=fun a w h=>by
  have:μ a w=Classical.choose (hex a w h):=dif_pos h;rw[this];exact Classical.choose_spec (hex a w h)
 refine wp_loop (fun a w=>∃n,I n a w) μ ⟨n,h0⟩ fun a w h => ?_
 obtain⟨h1,_⟩:=hμ a w h;refine wp_mono (round _ a w h1) fun x a' w' hq => ?_
 cases x with
 | normal =>
  obtain⟨m,hm1,hm2⟩:=hq;exact⟨⟨m,hm2⟩,Nat.lt_of_le_of_lt ((hμ a' w' ⟨m,hm2⟩).2 m hm2) hm1⟩
 | _=>exact hq
theorem zCm (ok:Ok X) (hm:X.P.follows .mixedOrders=true) {sz:Nat} {ρ:Ren}:∀(c:Code),zCw X sz c=true→∀(Q:Ex→St→Prop) (Qc:Exit→Act→World→Prop),
  (∀x s a w ρ',ρ.le ρ'→Q x s→Rel X K w0 ρ' (s.n≤·) s.h w→EnvR ρ' s.e a sz→Qc x.go a w)→∀(s:St) (a:Act) (w:World) (ρ1:Ren),awp X c Q s→ρ.le ρ1→Rel X K w0 ρ1 (s.n≤·) s.h w→EnvR ρ1 s.e a sz→c.wp X.P Qc a w
 | .skip,_,Q,Qc,hQ,s,a,w,ρ1,h,hρ,r,he=>wp_skip (hQ .normal s a w ρ1 hρ h r he)
 | .label l,_,Q,Qc,hQ,s,a,w,ρ1,h,hρ,r,he=>wp_label (hQ .normal s a w ρ1 hρ h r he)
 | .ret,_,Q,Qc,hQ,s,a,w,ρ1,h,hρ,r,he=>wp_ret (hQ .ret s a w ρ1 hρ h r he)
 | .exit id,_,Q,Qc,hQ,s,a,w,ρ1,h,hρ,r,he=>wp_exit (hQ (.exit id) s a w ρ1 hρ h r he)
 | .region id ops draw,hc,Q,Qc,hQ,s,a,w,ρ1,h,hρ,r,he=>by
  simp only[zCw,zO]at hc;have hop:∀o∈ops.toList,zPd ops sz o=true:=zR.1 hc.1;have hQ':∀s a w ρ',ρ.le ρ'→Q .normal s→Rel X K w0 ρ' (s.n≤·) s.h w→EnvR ρ' s.e a sz→Qc .normal a w:=fun s a w ρ' h1 h2 h3 h4=>hQ .normal s a w ρ' h1 h2 h3 h4
  cases draw with
  | false =>
   simp only[awp,yO,if_false]at h;exact wp_region_list (zMn ok hQ' ops.toList s a w ρ1 hop h hρ r he)
  | true =>
   simp only[awp,if_true]at h;have hd:zE0 X ops=true:=by simpa using hc.2
   exact wp_region_any hm (zVc ok hQ' hop hd h hρ (r.drew _) he)
 | .seq x y,hc,Q,Qc,hQ,s,a,w,ρ1,h,hρ,r,he=>by
  simp only[zCw,zO]at hc;simp only[awp]at h;refine wp_seq (zCm ok hm x hc.1 _ _ (fun e s a w ρ' h1 h2 h3 h4 => ?_) s a w ρ1 h hρ r he)
  cases e with
  | normal=>exact zCm ok hm y hc.2 Q Qc hQ s a w ρ' h2 h1 h3 h4
  | exit id=>exact hQ (.exit id) s a w ρ' h1 h2 h3 h4
  | ret=>exact hQ .ret s a w ρ' h1 h2 h3 h4
 | .cond c x y,hc,Q,Qc,hQ,s,a,w,ρ1,h,hρ,r,he=>by
  simp only[zCw,zO]at hc;simp only[awp]at h;have hb:=zD4 (he.ev hc.1.1) h.1;refine wp_cond_split hb (fun ht => ?_) (fun hf => ?_)
  ·exact zCm ok hm x hc.1.2 Q Qc hQ s a w ρ1 (h.2.1 ht) hρ r he
  ·exact zCm ok hm y hc.2 Q Qc hQ s a w ρ1 (h.2.2 hf) hρ r he
 | .block id c,hc,Q,Qc,hQ,s,a,w,ρ1,h,hρ,r,he=>by
  simp only[zCw]at hc;simp only[awp]at h;refine wp_block (zCm ok hm c hc _ _ (fun e s a w ρ' h1 h2 h3 h4 => ?_) s a w ρ1 h hρ r he)
  cases e with
  | normal=>exact hQ .normal s a w ρ' h1 h2 h3 h4
  | exit j =>
   simp only[zK9]at h2;simp only[Ex.go,Exit.inBlock];split
   ·rename_i hj
    rw[if_pos hj]at h2;exact hQ .normal s a w ρ' h1 h2 h3 h4
   ·rename_i hj
    rw[if_neg hj]at h2;exact hQ (.exit j) s a w ρ' h1 h2 h3 h4
  | ret=>exact hQ .ret s a w ρ' h1 h2 h3 h4
 | .loop c,hc,Q,Qc,hQ,s,a,w,ρ1,h,hρ,r,he=>by
  simp only[zCw]at hc;simp only[awp]at h;obtain⟨I,μ,hI,hround⟩:=h;refine yBs (fun n a w=>∃s ρ',ρ.le ρ'∧I s∧μ s=n∧Rel X K w0 ρ' (s.n≤·) s.h w∧EnvR ρ' s.e a sz) (μ s) ⟨s,ρ1,hρ,hI,rfl,r,he⟩ fun n a w ⟨s',ρ',h1,h2,h3,h4,h5⟩ => ?_
  refine zCm ok hm c hc _ _ (fun e s'' a w ρ'' q1 q2 q3 q4 => ?_) s' a w ρ' (hround s' h2) h1 h4 h5
  cases e with
  | normal =>
   simp only[zAs]at q2;exact⟨μ s'',by omega,s'',ρ'',q1,q2.1,rfl,q3,q4⟩
  | exit id=>exact hQ (.exit id) s'' a w ρ'' q1 q2 q3 q4
  | ret=>exact hQ .ret s'' a w ρ'' q1 q2 q3 q4
 | .goto _,hc,_,_,_,_,_,_,_,_,_,_,_=>by simp[zCw]at hc
 | .scope c,hc,Q,Qc,hQ,s,a,w,ρ1,h,hρ,r,he=>by
  simp only[zCw]at hc;simp only[awp]at h;refine wp_scope_straight (zCm ok hm c hc Q _ (fun x s a w ρ' h1 h2 h3 h4 => ?_) s a w ρ1 h hρ r he)
  cases x<;>exact hQ _ s a w ρ' h1 h2 h3 h4
 | .refuse _,hc,_,_,_,_,_,_,_,_,_,_,_=>by simp[zCw]at hc
 | .rangeFunc _ _ _ _,hc,_,_,_,_,_,_,_,_,_,_,_=>by simp[zCw]at hc
def resOne (X:Ctx) (s:St):ResultVar→ARes
 | .tmp t=>⟨True,s.e t,s.h⟩
 | .cell a t=>match (X.ti t).d with
  | .other=>⟨False,.any,s.h⟩
  | .struct _ _=>⟨lds X s.h (s.e a) (X.ti t).size,.g (ldcs X s.h (s.e a) 0 (X.ti t).size),s.h⟩
  | .arr _ _=>⟨lds X s.h (s.e a) (X.ti t).size,.g (ldcs X s.h (s.e a) 0 (X.ti t).size),s.h⟩
  | _=>⟨lds X s.h (s.e a) 1,ldc X s.h (s.e a) 0,s.h⟩
def resAll (X:Ctx) (s:St):List ResultVar→Prop
 | []=>True
 | r::l=>(resOne X s r).side∧resAll X s l
def resVal (X:Ctx) (s:St):List ResultVar→AV
 | [r]=>(resOne X s r).val
 | l=>.t (l.map fun r=>(resOne X s r).val)
def zBc (X:Ctx) (fn:Func) (Q:AV→Heap→Nat→Prop):Ex→St→Prop
 | .exit _,_=>False
 | _,s=>resAll X s fn.results.toList∧Q (resVal X s fn.results.toList) s.h s.n
theorem zYo {X:Ctx} {fn:Func} {Q:AV→Heap→Nat→Prop} {s:St}:zBc X fn Q .normal s=(resAll X s fn.results.toList∧Q (resVal X s fn.results.toList) s.h s.n):=propext ⟨id,id⟩
theorem zTd {X:Ctx} {fn:Func} {Q:AV→Heap→Nat→Prop} {s:St}:zBc X fn Q .ret s=(resAll X s fn.results.toList∧Q (resVal X s fn.results.toList) s.h s.n):=propext ⟨id,id⟩
theorem yD5 {X:Ctx} {fn:Func} {Q:AV→Heap→Nat→Prop} {s:St} (i:Nat):zBc X fn Q (.exit i) s=False:=propext ⟨id,id⟩
def zUm (sz:Nat):ResultVar→Bool
 | .tmp t=>decide (t<sz)
 | .cell a _=>decide (a<sz)
def zU6 (X:Ctx) (fn:Func) (c:Code):Bool:=zCw X fn.ntmps c&&fn.results.toList.all (zUm fn.ntmps)
def env0 (l:List AV) (t:Nat):AV:=l.getD t .any
theorem zO0 (ok:Ok X) {ρ:Ren} {F:Nat→Prop} {s:St} {a:Act} {w:World} {sz:Nat} (r:Rel X K w0 ρ F s.h w) (he:EnvR ρ s.e a sz) {q:ResultVar} (hq:zUm sz q=true) (hs:(resOne X s q).side) :
  ∃u,((match q with | .tmp t=>pure (a.tmps.getD t undef) | .cell b t=>do loadVar t (←asAddr (a.tmps.getD b undef))):Sem Value).run X.P w=.ok u w∧VR ρ (resOne X s q).val u:=by
 cases q with
 | tmp t=>exact⟨_,rfl,he.2.2 t (by simpa[zUm]using hq)⟩
 | cell b t =>
  have hb:=he.2.2 b (by simpa[zUm]using hq)
  have hne:(X.ti t).d≠.other:=fun e=>by simp[resOne,e]at hs
  have ht:=ok.ty t hne;have hde:=ht.desc;have fin:∀z,(∃b' u,a.tmps.getD b undef=.pointer (some b')∧(loadVar t b').run X.P w=.ok u w∧VR ρ z u)→∃u,((do loadVar t (←asAddr (a.tmps.getD b undef))):Sem Value).run X.P w=.ok u w∧VR ρ z u:=fun z ⟨b',u,h1,h2,h3⟩=>⟨u,by rw[h1];simpa[asAddr]using h2,h3⟩
  cases hd:(X.ti t).d with
  | other=>exact absurd hd hne
  | struct fs eq =>
   simp only[xI,hd]at hde;obtain⟨⟨E,hu,_⟩,_⟩:=hde;simp only[resOne,hd]at hs ⊢;exact fin _ (zM9 r ht hu rfl hb hs)
  | arr n e =>
   simp only[xI,hd]at hde;simp only[resOne,hd]at hs ⊢;exact fin _ (zM9 r ht hde.1 rfl hb hs)
  | ptr =>
   simp only[xI,hd]at hde;obtain⟨e,hu⟩:=hde;simp only[resOne,hd]at hs ⊢;exact fin _ (zC6 r hu rfl hb hs)
  | func =>
   simp only[xI,hd]at hde;obtain⟨p,q,b',hu⟩:=hde;simp only[resOne,hd]at hs ⊢;exact fin _ (zC6 r hu rfl hb hs)
  | map =>
   simp only[xI,hd]at hde;obtain⟨kt,vt,hu,_⟩:=hde;simp only[resOne,hd]at hs ⊢;exact fin _ (zC6 r hu rfl hb hs)
  | mapI =>
   simp only[xI,hd]at hde;obtain⟨kt,vt,hu,_⟩:=hde;simp only[resOne,hd]at hs ⊢;exact fin _ (zC6 r hu rfl hb hs)
  | mapS e =>
   simp only[xI,hd]at hde;obtain⟨kt,hu,_⟩:=hde;simp only[resOne,hd]at hs ⊢;exact fin _ (zC6 r hu rfl hb hs)
  | int k=>simp only[xI,hd]at hde;simp only[resOne,hd]at hs ⊢;exact fin _ (zC6 r hde rfl hb hs)
  | bool=>simp only[xI,hd]at hde;simp only[resOne,hd]at hs ⊢;exact fin _ (zC6 r hde rfl hb hs)
  | str=>simp only[xI,hd]at hde;simp only[resOne,hd]at hs ⊢;exact fin _ (zC6 r hde rfl hb hs)
  | slice e=>simp only[xI,hd]at hde;simp only[resOne,hd]at hs ⊢;exact fin _ (zC6 r hde rfl hb hs)
theorem zMv (ok:Ok X) {ρ:Ren} {F:Nat→Prop} {s:St} {a:Act} {w:World} {fn:Func} (r:Rel X K w0 ρ F s.h w) (he:EnvR ρ s.e a fn.ntmps) (hq:fn.results.toList.all (zUm fn.ntmps)=true) (hs:resAll X s fn.results.toList) :
  ∃u,(results fn a.tmps).run X.P w=.ok u w∧VR ρ (resVal X s fn.results.toList) u:=by
 have key:∀(l:List ResultVar),l.all (zUm fn.ntmps)=true→resAll X s l→∃us,(l.mapM fun q=>((match q with | .tmp t=>pure (a.tmps.getD t undef) | .cell b t=>do loadVar t (←asAddr (a.tmps.getD b undef))):Sem Value)).run X.P w=.ok us w∧VRs ρ (l.map fun q=>(resOne X s q).val) us:=by
  intro l
  induction l with
  | nil=>intro _ _;exact⟨[],by simp,by simp[VRs]⟩
  | cons q l ih =>
   intro h1 h2;simp only[List.all_cons,zO]at h1;obtain⟨u,u1,u2⟩:=zO0 ok r he h1.1 h2.1;obtain⟨us,v1,v2⟩:=ih h1.2 h2.2;refine⟨u::us,?_,?_⟩
   ·rw[List.mapM_cons,Sem.run_bind,u1]
    simp only[Result.andThen_ok,Sem.run_bind,v1,Sem.run_pure]
   ·simp only[wE,VRs];exact⟨u,us,rfl,u2,v2⟩
 obtain⟨us,h1,h2⟩:=key _ hq hs;have hlen:=h2.length;refine⟨if h:us.toArray.size=1 then us.toArray[0]else .tuple us.toArray,?_,?_⟩
 ·unfold results
  rw[Array.mapM_eq_mapM_toList];simp only[Sem.run_bind,Sem.run_map,Sem.run_pure];exact congrArg (fun z:Result (List Value)=>(z.andThen fun a w'=>Result.ok a.toArray w').andThen fun (a:Array Value) w'=>Result.ok (if h:a.size=1 then a[0]else Value.tuple a) w') h1
 ·cases hr:fn.results.toList with
  | nil =>
   rw[hr]at h2;simp[VRs]at h2;subst h2;simp[resVal,VR,VRs]
  | cons q l =>
   rw[hr]at h2;cases l with
   | nil =>
    simp only[wE,List.map_nil,VRs]at h2;obtain⟨y,rest,rfl,h3,rfl⟩:=h2;simpa[resVal]using h3
   | cons q' l =>
    have h3:us.length=l.length+2:=by rw[hlen,hr];simp
    have h4:¬us.toArray.size=1:=by simp;omega
    rw[dif_neg h4];simp only[resVal,VR];exact⟨us,rfl,h2⟩
theorem zEf (ok:Ok X) (hm:X.P.follows .mixedOrders=true) {f:FuncId} {fn:Func} {c:Code} (hf:X.P.funcs[f]? = some fn) (hb:fn.body=some c) (hok:zU6 X fn c=true) {args:List AV} {vs:List Value} (hlen:args.length≤fn.ntmps)
  {ρ:Ren} {h:Heap} {n:Nat} {w:World} {Q:AV→Heap→Nat→Prop} (h1:awp X c (zBc X fn Q) ⟨env0 args,h,n⟩) (r:Rel X K w0 ρ (n≤·) h w) (ha:VRs ρ args vs) :
  Calls X.P f vs.toArray w fun e w'=>∃y,e=.returned y∧∃ρ' z h' n',ρ.le ρ'∧VR ρ' z y∧Rel X K w0 ρ' (n'≤·) h' w'∧Q z h' n':=by
 simp only[zU6,zO]at hok;have hvl:=ha.length;have fin:∀s a w ρ',ρ.le ρ'→(resAll X s fn.results.toList∧Q (resVal X s fn.results.toList) s.h s.n)→Rel X K w0 ρ' (s.n≤·) s.h w→EnvR ρ' s.e a fn.ntmps→a.defers=[]∧∃v,(results fn a.tmps).run X.P w=.ok v w∧(∃y,(Ending.returned v)=.returned y∧∃ρ' z h' n',ρ.le ρ'∧VR ρ' z y∧Rel X K w0 ρ' (n'≤·) h' w∧Q z h' n'):=fun s a w ρ' q1 q2 q3 q4=>by
  obtain⟨u,u1,u2⟩:=zMv ok q3 q4 hok.2 q2.1;exact⟨q4.2.1,u,u1,u,rfl,ρ',_,_,_,q1,u2,q3,q2.2⟩
 refine calls_of_wp hf hb (zCm (ρ:=ρ) ok hm c hok.1 (zBc X fn Q) _ (fun x s a w ρ' q1 q2 q3 q4 => ?_) _ _ w ρ h1 (Ren.le_refl ρ) r ⟨?_,rfl,fun t ht => ?_⟩)
 ·cases x with
  | exit id=>exact q2.elim
  | normal=>exact fin s a w ρ' q1 q2 q3 q4
  | ret=>exact fin s a w ρ' q1 q2 q3 q4
 ·simp only[Array.size_append,zCr,Array.size_replicate]
  omega
 ·simp only[env0]
  by_cases hlt:t<args.length
  ·obtain⟨y,y1,y2⟩:=ha.get t _ (zA hlt)
   rw[zB,zA hlt];have:(vs.toArray++Array.replicate (fn.ntmps-vs.toArray.size) undef).getD t undef=y:=by
    rw[wO,Array.getElem?_append_left (by simp;omega)]
    simp[y1]
   rw[this];exact y2
  ·rw[zB,zG (by omega)]
   simp[VR]
theorem yR (ok:Ok X) (hm:X.P.follows .mixedOrders=true) {f:FuncId} {fn:Func} {c:Code} (hf:X.P.funcs[f]? = some fn) (hb:fn.body=some c) (hok:zU6 X fn c=true) (hcall:∀args w,(callFunc f args).run X.P w=.ok (.enter f args) w) {args:List AV} (hlen:args.length≤fn.ntmps)
  {h:Heap} {n:Nat} {Q:AV→Heap→Nat→Prop} (h1:awp X c (zBc X fn Q) ⟨env0 args,h,n⟩):ACall X f args h n Q :=
 ⟨hcall,fun _ _ _ _ _ r ha=>zEf ok hm hf hb hok hlen h1 r ha⟩
theorem zO4 (ok:Ok X) (hm:X.P.follows .mixedOrders=true) {f:FuncId} {fn:Func} {c:Code} (hf:X.P.funcs[f]? = some fn) (hb:fn.body=some c) (hok:zU6 X fn c=true) (hcall:∀args w,(callFunc f args).run X.P w=.ok (.enter f args) w)
  {g:List AV→Heap→PRes} (hmono:∀args h h',(∀i k,h i=some k→h' i=some k)→(g args h).side→(g args h').side∧(g args h').val=(g args h).val)
  (h1:∀args h,(g args h).side→args.length≤fn.ntmps∧(g args h).val.inH h∧∀n,(∀i,n≤i→h i=none)→awp X c (zBc X fn fun z _ _=>z=(g args h).val) ⟨env0 args,roH h,n⟩):zGp X f g:=by
 refine⟨hmono,.inl ⟨hcall,fun ρ h w args vs r hmx ha hs => ?_⟩⟩
 obtain⟨m,hmx⟩:=hmx;obtain⟨h2,h3,h4⟩:=h1 args h hs;refine (zEf ok hm hf hb hok h2 (h4 m fun i hi=>(hmx i hi).2) (r.rel hmx) ha).mono fun e w' ⟨y,e1,ρ',z,h',n',q1,q2,q3,q4⟩=>⟨y,e1,?_,q3.gone⟩
 subst q4;exact VR.inH (fun id k hk=>by
  rcases r.blk id k hk with ⟨b,base,cap,_,_,_,h1,_⟩|⟨h1,_⟩|⟨_,_,_,h1,_⟩
  ·exact⟨_,h1⟩
  ·exact⟨_,h1⟩
  ·exact⟨_,h1⟩) q1 _ _ h3 q2
theorem zCy (ok:Ok X) (hm:X.P.follows .mixedOrders=true) {f:FuncId} {fn:Func} {c:Code} (hf:X.P.funcs[f]? = some fn) (hb:fn.body=some c) (hok:zU6 X fn c=true) (hcall:∀args w,(callFunc f args).run X.P w=.ok (.enter f args) w)
  {g:List AV→Heap→PRes} (hmono:∀args h h',(∀i k,h i=some k→h' i=some k)→(g args h).side→(g args h').side∧(g args h').val=(g args h).val)
  (h1:∀args h,(g args h).side→args.length≤fn.ntmps∧(g args h).val.free=true∧∀n,(∀i,n≤i→h i=none)→awp X c (zBc X fn fun z _ _=>z=(g args h).val) ⟨env0 args,roH h,n⟩):zGp X f g:=by
 refine⟨hmono,.inl ⟨hcall,fun ρ h w args vs r hmx ha hs => ?_⟩⟩
 obtain⟨m,hmx⟩:=hmx;obtain⟨h2,h3,h4⟩:=h1 args h hs;refine (zEf ok hm hf hb hok h2 (h4 m fun i hi=>(hmx i hi).2) (r.rel hmx) ha).mono fun e w' ⟨y,e1,ρ',z,h',n',q1,q2,q3,q4⟩=>⟨y,e1,?_,q3.gone⟩
 subst q4;exact VR.free _ _ h3 q2
end
end Go.Eng
namespace Go.Eng
open Go Go.RowKit
theorem zL9 (X:Ctx) (h:Heap) (a:AV):ldcs X h a 0 1=[ldc X h a 0]:=rfl
theorem zL8 (X:Ctx) (h:Heap) (a:AV):ldcs X h a 0 2=[ldc X h a 0,ldc X h a 1]:=rfl
theorem zL7 (X:Ctx) (h:Heap) (a:AV):ldcs X h a 0 3=[ldc X h a 0,ldc X h a 1,ldc X h a 2]:=rfl
theorem zI1 (X:Ctx) (h:Heap) (a:AV):ldcs X h a 0 4=[ldc X h a 0,ldc X h a 1,ldc X h a 2,ldc X h a 3]:=rfl
theorem zL6 (X:Ctx) (h:Heap) (a:AV):ldcs X h a 0 5=[ldc X h a 0,ldc X h a 1,ldc X h a 2,ldc X h a 3,ldc X h a 4]:=rfl
theorem zL5 (X:Ctx) (h:Heap) (a:AV):ldcs X h a 0 7=[ldc X h a 0,ldc X h a 1,ldc X h a 2,ldc X h a 3,ldc X h a 4,ldc X h a 5,ldc X h a 6]:=rfl
theorem zXx (n:Nat):((n:Int)<0)=False:=by simp
theorem zXy (n:Nat):((0:Int)≤(n:Int))=True:=by simp
theorem ACall.mono {X:Ctx} {f:FuncId} {args:List AV} {h:Heap} {n:Nat} {Q Q':AV→Heap→Nat→Prop} (k:ACall X f args h n Q) (hq:∀v h n,Q v h n→Q' v h n):ACall X f args h n Q' :=
 ⟨k.1,fun K w0 ρ w vs r hv=>(k.2 K w0 ρ w vs r hv).mono fun _ _ ⟨y,h1,ρ2,z,h',n',h2,h3,h4,h5⟩=>⟨y,h1,ρ2,z,h',n',h2,h3,h4,hq _ _ _ h5⟩⟩
theorem zMm {X:Ctx} {ops:Array Oper} {o:Oper} {s:St} {K K':AV→Heap→Nat→Prop} (hq:∀v h n,K v h n→K' v h n) (k:zFi X ops o s K):zFi X ops o s K':=by
 unfold zFi at k ⊢;split
 ·rename_i f as e
  simp only[e]at k;split
  ·rename_i e2
   simp only[e2]at k;exact k.mono hq
  ·rename_i j want e2
   simp only[e2]at k;exact⟨k.1,fun h=>(k.2.1 h).mono fun v h n=>hq _ h n,fun h=>hq _ _ _ (k.2.2 h)⟩
 ·rename_i e
  simp only[e]at k;split
  ·rename_i e2
   simp only[e2]at k;exact⟨k.1,hq _ _ _ k.2⟩
  ·rename_i x y e2
   simp only[e2]at k;exact⟨k.1,hq _ _ _ k.2.1,hq _ _ _ k.2.2⟩
theorem zQc {X:Ctx} {ops:Array Oper} {K K':St→Prop} (hq:∀s,K s→K' s):∀(l:List Oper) (s:St),zOb X ops K l s→zOb X ops K' l s
 | [],s,k=>hq s k
 | _::r,_,k=>zMm (fun _ _ _ h=>zQc hq r _ h) k
theorem zT0 {X:Ctx} {ops:Array Oper} {h0:Heap} {K K':St→Prop} (hq:∀s,K s→K' s):∀(f:Nat) (rem:List (Nat×Oper)) (s:St),atl X ops h0 K f rem s→atl X ops h0 K' f rem s
 | 0,_,s,k=>fun e=>hq s (k e)
 | f+1,_,s,k=>⟨fun e=>hq s (k.1 e),fun p hp hf=>zMm (fun _ _ _ h=>⟨h.1,h.2.1,zT0 hq f _ _ h.2.2⟩) (k.2 p hp hf)⟩
theorem zG9 {X:Ctx} {ops:Array Oper} {K K':St→Prop} (hq:∀s,K s→K' s):∀(l:List Oper) (acc:List Bool) (tl:List (Nat×Oper)) (s:St),zEg X ops K l acc tl s→zEg X ops K' l acc tl s
 | [],_,tl,s,k=>zT0 hq _ tl s k
 | o::r,acc,tl,s,k=>by
  simp only[zEg]at k ⊢;split
  ·rename_i e
   rw[if_pos e]at k;exact⟨k.1,zG9 hq r _ _ _ k.2⟩
  ·rename_i e
   rw[if_neg e]at k;exact zG9 hq r _ _ _ k
theorem zBk {X:Ctx}:∀(c:Code) {Q Q':Ex→St→Prop} {s:St},(∀x s,Q x s→Q' x s)→awp X c Q s→awp X c Q' s
 | .skip,_,_,_,hq,k=>hq _ _ k
 | .label _,_,_,_,hq,k=>hq _ _ k
 | .ret,_,_,_,hq,k=>hq _ _ k
 | .exit _,_,_,_,hq,k=>hq _ _ k
 | .region _ ops draw,Q,Q',s,hq,k=>by
  simp only[awp]at k ⊢;split
  ·rename_i e
   rw[if_pos e]at k;exact zG9 (fun s=>hq _ s) _ _ _ _ k
  ·rename_i e
   rw[if_neg e]at k;exact zQc (fun s=>hq _ s) _ _ k
 | .seq a b,Q,Q',s,hq,k=>zBk a (fun x s h=>by
   cases x with
   | normal=>exact zBk b hq h
   | exit id=>exact hq _ _ h
   | ret=>exact hq _ _ h) k
 | .cond c a b,_,_,_,hq,k=>⟨k.1,fun h=>zBk a hq (k.2.1 h),fun h=>zBk b hq (k.2.2 h)⟩
 | .block id c,_,_,_,hq,k=>zBk c (fun x s h=>by
   cases x with
   | normal=>exact hq _ _ h
   | exit j =>
    simp only[zK9]at h ⊢;split
    ·rename_i e;rw[if_pos e]at h;exact hq _ _ h
    ·rename_i e;rw[if_neg e]at h;exact hq _ _ h
   | ret=>exact hq _ _ h) k
 | .loop c,_,_,_,hq,k=>by
  obtain⟨I,μ,h0,hr⟩:=k;exact⟨I,μ,h0,fun s' hs=>zBk c (fun x s h=>by
   cases x with
   | normal=>exact h
   | exit id=>exact hq _ _ h
   | ret=>exact hq _ _ h) (hr s' hs)⟩
 | .goto _,_,_,_,_,k=>k.elim
 | .scope c,Q,Q',s,hq,k=>zBk c hq (show awp X c Q s from k)
 | .refuse _,_,_,_,_,k=>k.elim
 | .rangeFunc _ _ _ _,_,_,_,_,k=>k.elim
def hdC:Nat→Code→Code
 | 0,_=>.skip
 | 1,.seq a _=>a
 | k+2,.seq a b=>.seq a (hdC (k+1) b)
 | _,c=>c
def tlC:Nat→Code→Code
 | 0,c=>c
 | k+1,.seq _ b=>tlC k b
 | _,_=>.skip
theorem zZ {X:Ctx} {R:St→Prop} {Q:Ex→St→Prop}:∀(k:Nat) (c:Code) (s:St),awp X (hdC k c) (zAs R Q) s→(∀e h n,R ⟨e,h,n⟩→awp X (tlC k c) Q ⟨e,h,n⟩)→awp X c Q s
 | 0,c,s,h1,h2=>h2 s.e s.h s.n h1
 | k+1,c,s,h1,h2=>by
  by_cases hs:∃a b,c=.seq a b
  ·obtain⟨a,b,rfl⟩:=hs
   cases k with
   | zero =>
    exact zBk a (fun x s h=>by
     cases x with
     | normal=>exact h2 s.e s.h s.n h
     | exit id=>exact h
     | ret=>exact h) h1
   | succ k =>
    exact zBk a (fun x s h=>by
     cases x with
     | normal=>exact zZ (k+1) b s h h2
     | exit id=>exact h
     | ret=>exact h) h1
  ·have e1:hdC (k+1) c=c:=by
    cases k<;>cases c<;>first|rfl|exact absurd ⟨_,_,rfl⟩ hs
   have e2:tlC (k+1) c=.skip:=by
    cases c<;>first|rfl|exact absurd ⟨_,_,rfl⟩ hs
   rw[e1]at h1;rw[e2]at h2;exact zBk c (fun x s h=>by
    cases x with
    | normal=>exact h2 s.e s.h s.n h
    | exit id=>exact h
    | ret=>exact h) h1
theorem yIi (g:Bool) (x v:Nat):AV.unc g (.mv x v)=.mv x v:=rfl
theorem evs:type_of% (
 And.intro (And.intro (And.intro (And.intro (And.intro (And.intro (And.intro (@zTy)
 (And.intro @zQb @zMj))
 (And.intro (@zDn)
 (And.intro @yEh @zAy)))
 (And.intro (And.intro (@zZk)
 (And.intro @zQa @zTz))
 (And.intro (@zAw)
 (And.intro @zIb @zFw))))
 (And.intro (And.intro (And.intro (@zH6)
 (And.intro @zFh @zJ1))
 (And.intro (@zYo)
 (And.intro @zTd @yD5)))
 (And.intro (And.intro (@zT2)
 (And.intro @zQd @zRq))
 (And.intro (@zT1)
 (And.intro @zMk @zLa)))))
 (And.intro (And.intro (And.intro (And.intro (@List.filter_cons.{0})
 (And.intro @List.filter_nil.{0} @zT4))
 (And.intro (@zMp)
 (And.intro @zLe @Heap.le_refl)))
 (And.intro (And.intro (@zMb)
 (And.intro @AV.b.eq_1 @AV.b.eq_2))
 (And.intro (@AV.isB.eq_1)
 (And.intro @AV.isB.eq_2 @zR1))))
 (And.intro (And.intro (And.intro (@yC8)
 (And.intro @yC9 @yIk))
 (And.intro (@zWe)
 (And.intro @yIe @yDa)))
 (And.intro (And.intro (@yIh)
 (And.intro @yIg @yIj))
 (And.intro (@yIl)
 (And.intro @yIi @yIf))))))
 (And.intro (And.intro (And.intro (And.intro (And.intro (@yDb)
 (And.intro @zWc @yDc))
 (And.intro (@zWd)
 (And.intro @yIm @AV.bb.eq_1)))
 (And.intro (And.intro (@AV.bb.eq_2)
 (And.intro @AV.okb.eq_1 @AV.okb.eq_2))
 (And.intro (@AV.okg.eq_1)
 (And.intro @AV.okg.eq_2 @AV.gd.eq_1))))
 (And.intro (And.intro (And.intro (@AV.gd.eq_2)
 (And.intro @AV.cells.eq_1 @AV.cells.eq_2))
 (And.intro (@AV.one.eq_1)
 (And.intro @AV.one.eq_2 @AV.one.eq_3)))
 (And.intro (And.intro (@AV.one.eq_4)
 (And.intro @AV.one.eq_5 @AV.one.eq_6))
 (And.intro (@AV.one.eq_7)
 (And.intro @AV.slen.eq_1 @AV.slen.eq_2)))))
 (And.intro (And.intro (And.intro (And.intro (@AV.isS.eq_1)
 (And.intro @AV.isS.eq_2 @AV.isS.eq_3))
 (And.intro (@xD)
 (And.intro @zP4 @zXx)))
 (And.intro (And.intro (@zXy)
 (And.intro @resAll.eq_1 @resAll.eq_2))
 (And.intro (@resVal.eq_1)
 (And.intro @resVal.eq_2 @resOne.eq_1))))
 (And.intro (And.intro (And.intro (@resOne.eq_2)
 (And.intro @freeOp.eq_1 @isA.eq_1))
 (And.intro (And.intro @goOp.eq_1 (And.intro @keepOp.eq_1 @monoOp.eq_1))
 (And.intro @appNew.eq_1 @mkOp.eq_1)))
 (And.intro (And.intro (@mkOp.eq_2)
 (And.intro @mkOp.eq_3 @gev.eq_1))
 (And.intro (@Region.binds.eq_1)
 (And.intro @aop.eq_1 @gocall.eq_1)))))))
 (And.intro (And.intro (And.intro (And.intro (And.intro (And.intro (@heapOp.eq_1)
 (And.intro @heapOp.eq_2 @heapOp.eq_3))
 (And.intro (@heapOp.eq_4)
 (And.intro @heapOp.eq_5 @heapOp.eq_6)))
 (And.intro (And.intro (@heapOp.eq_7)
 (And.intro @heapOp.eq_8 @heapOp.eq_9))
 (And.intro (@quietOp.eq_1)
 (And.intro @ev.eq_1 @ev.eq_2))))
 (And.intro (And.intro (And.intro (@ev.eq_3)
 (And.intro @ev.eq_4 @constAV.eq_1))
 (And.intro (@constAV.eq_2)
 (And.intro @setd.eq_1 @setd.eq_2)))
 (And.intro (And.intro (@yav.eq_1)
 (And.intro @ystop.eq_1 @up.eq_1))
 (And.intro (@env0.eq_1)
 (And.intro @lds.eq_1 @lds.eq_2)))))
 (And.intro (And.intro (And.intro (And.intro (@lds.eq_3)
 (And.intro @ldc.eq_1 @ldc.eq_2))
 (And.intro (@ldc.eq_3)
 (And.intro @sts.eq_1 @sts.eq_2)))
 (And.intro (And.intro (@sth.eq_1)
 (And.intro @sth.eq_2 @wr.eq_1))
 (And.intro (@wr.eq_2)
 (And.intro @place.eq_1 @fillOk.eq_1))))
 (And.intro (And.intro (And.intro (@fillOk.eq_2)
 (And.intro @fillC.eq_1 @fillC.eq_2))
 (And.intro (@repZ.eq_1)
 (And.intro @repZ.eq_2 @binI.eq_1)))
 (And.intro (And.intro (@binI.eq_2)
 (And.intro @binI.eq_3 @binI.eq_4))
 (And.intro (@binI.eq_5)
 (And.intro @binI.eq_6 @binI.eq_7))))))
 (And.intro (And.intro (And.intro (And.intro (And.intro (@binI.eq_8)
 (And.intro @binI.eq_9 @binI.eq_10))
 (And.intro (@binI.eq_11)
 (And.intro @binI.eq_12 @binI.eq_13)))
 (And.intro (And.intro (@binI.eq_14)
 (And.intro @binI.eq_15 @isDiv.eq_1))
 (And.intro (@isDiv.eq_2)
 (And.intro @isDiv.eq_3 @optInt.eq_1))))
 (And.intro (And.intro (And.intro (@optInt.eq_2)
 (And.intro @optI.eq_1 @optI.eq_2))
 (And.intro (@eksOk.eq_1)
 (And.intro @eksOk.eq_2 @eksOk.eq_3)))
 (And.intro (And.intro (@eksEq.eq_1)
 (And.intro @eksEq.eq_2 @EK.ok.eq_1))
 (And.intro (@EK.ok.eq_2)
 (And.intro @EK.ok.eq_3 @EK.eq.eq_1)))))
 (And.intro (And.intro (And.intro (And.intro (@EK.eq.eq_2)
 (And.intro @EK.eq.eq_3 @AV.i.eq_1))
 (And.intro (@AV.i.eq_2)
 (And.intro @AV.isI.eq_1 @AV.isI.eq_2)))
 (And.intro (And.intro (@AV.isInt.eq_1)
 (And.intro @AV.isInt.eq_2 @AV.str.eq_1))
 (And.intro (@AV.str.eq_2)
 (And.intro @AV.isStr.eq_1 @AV.isStr.eq_2))))
 (And.intro (And.intro (And.intro (@AV.ones.eq_1)
 (And.intro @AV.ones.eq_2 @AV.isPtr.eq_1))
 (And.intro (@AV.isPtr.eq_2)
 (And.intro @AV.isPtr.eq_3 @AV.gl.eq_1)))
 (And.intro (And.intro (@AV.gl.eq_2)
 (And.intro @AV.isG.eq_1 @AV.isG.eq_2))
 (And.intro (@Value.oneCell'.eq_1)
 (And.intro @Value.oneCell'.eq_2 @Value.oneCell'.eq_3)))))))) :=
 And.intro (And.intro (And.intro (And.intro (And.intro (And.intro (And.intro (@zTy)
 (And.intro @zQb @zMj))
 (And.intro (@zDn)
 (And.intro @yEh @zAy)))
 (And.intro (And.intro (@zZk)
 (And.intro @zQa @zTz))
 (And.intro (@zAw)
 (And.intro @zIb @zFw))))
 (And.intro (And.intro (And.intro (@zH6)
 (And.intro @zFh @zJ1))
 (And.intro (@zYo)
 (And.intro @zTd @yD5)))
 (And.intro (And.intro (@zT2)
 (And.intro @zQd @zRq))
 (And.intro (@zT1)
 (And.intro @zMk @zLa)))))
 (And.intro (And.intro (And.intro (And.intro (@List.filter_cons.{0})
 (And.intro @List.filter_nil.{0} @zT4))
 (And.intro (@zMp)
 (And.intro @zLe @Heap.le_refl)))
 (And.intro (And.intro (@zMb)
 (And.intro @AV.b.eq_1 @AV.b.eq_2))
 (And.intro (@AV.isB.eq_1)
 (And.intro @AV.isB.eq_2 @zR1))))
 (And.intro (And.intro (And.intro (@yC8)
 (And.intro @yC9 @yIk))
 (And.intro (@zWe)
 (And.intro @yIe @yDa)))
 (And.intro (And.intro (@yIh)
 (And.intro @yIg @yIj))
 (And.intro (@yIl)
 (And.intro @yIi @yIf))))))
 (And.intro (And.intro (And.intro (And.intro (And.intro (@yDb)
 (And.intro @zWc @yDc))
 (And.intro (@zWd)
 (And.intro @yIm @AV.bb.eq_1)))
 (And.intro (And.intro (@AV.bb.eq_2)
 (And.intro @AV.okb.eq_1 @AV.okb.eq_2))
 (And.intro (@AV.okg.eq_1)
 (And.intro @AV.okg.eq_2 @AV.gd.eq_1))))
 (And.intro (And.intro (And.intro (@AV.gd.eq_2)
 (And.intro @AV.cells.eq_1 @AV.cells.eq_2))
 (And.intro (@AV.one.eq_1)
 (And.intro @AV.one.eq_2 @AV.one.eq_3)))
 (And.intro (And.intro (@AV.one.eq_4)
 (And.intro @AV.one.eq_5 @AV.one.eq_6))
 (And.intro (@AV.one.eq_7)
 (And.intro @AV.slen.eq_1 @AV.slen.eq_2)))))
 (And.intro (And.intro (And.intro (And.intro (@AV.isS.eq_1)
 (And.intro @AV.isS.eq_2 @AV.isS.eq_3))
 (And.intro (@xD)
 (And.intro @zP4 @zXx)))
 (And.intro (And.intro (@zXy)
 (And.intro @resAll.eq_1 @resAll.eq_2))
 (And.intro (@resVal.eq_1)
 (And.intro @resVal.eq_2 @resOne.eq_1))))
 (And.intro (And.intro (And.intro (@resOne.eq_2)
 (And.intro @freeOp.eq_1 @isA.eq_1))
 (And.intro (And.intro @goOp.eq_1 (And.intro @keepOp.eq_1 @monoOp.eq_1))
 (And.intro @appNew.eq_1 @mkOp.eq_1)))
 (And.intro (And.intro (@mkOp.eq_2)
 (And.intro @mkOp.eq_3 @gev.eq_1))
 (And.intro (@Region.binds.eq_1)
 (And.intro @aop.eq_1 @gocall.eq_1)))))))
 (And.intro (And.intro (And.intro (And.intro (And.intro (And.intro (@heapOp.eq_1)
 (And.intro @heapOp.eq_2 @heapOp.eq_3))
 (And.intro (@heapOp.eq_4)
 (And.intro @heapOp.eq_5 @heapOp.eq_6)))
 (And.intro (And.intro (@heapOp.eq_7)
 (And.intro @heapOp.eq_8 @heapOp.eq_9))
 (And.intro (@quietOp.eq_1)
 (And.intro @ev.eq_1 @ev.eq_2))))
 (And.intro (And.intro (And.intro (@ev.eq_3)
 (And.intro @ev.eq_4 @constAV.eq_1))
 (And.intro (@constAV.eq_2)
 (And.intro @setd.eq_1 @setd.eq_2)))
 (And.intro (And.intro (@yav.eq_1)
 (And.intro @ystop.eq_1 @up.eq_1))
 (And.intro (@env0.eq_1)
 (And.intro @lds.eq_1 @lds.eq_2)))))
 (And.intro (And.intro (And.intro (And.intro (@lds.eq_3)
 (And.intro @ldc.eq_1 @ldc.eq_2))
 (And.intro (@ldc.eq_3)
 (And.intro @sts.eq_1 @sts.eq_2)))
 (And.intro (And.intro (@sth.eq_1)
 (And.intro @sth.eq_2 @wr.eq_1))
 (And.intro (@wr.eq_2)
 (And.intro @place.eq_1 @fillOk.eq_1))))
 (And.intro (And.intro (And.intro (@fillOk.eq_2)
 (And.intro @fillC.eq_1 @fillC.eq_2))
 (And.intro (@repZ.eq_1)
 (And.intro @repZ.eq_2 @binI.eq_1)))
 (And.intro (And.intro (@binI.eq_2)
 (And.intro @binI.eq_3 @binI.eq_4))
 (And.intro (@binI.eq_5)
 (And.intro @binI.eq_6 @binI.eq_7))))))
 (And.intro (And.intro (And.intro (And.intro (And.intro (@binI.eq_8)
 (And.intro @binI.eq_9 @binI.eq_10))
 (And.intro (@binI.eq_11)
 (And.intro @binI.eq_12 @binI.eq_13)))
 (And.intro (And.intro (@binI.eq_14)
 (And.intro @binI.eq_15 @isDiv.eq_1))
 (And.intro (@isDiv.eq_2)
 (And.intro @isDiv.eq_3 @optInt.eq_1))))
 (And.intro (And.intro (And.intro (@optInt.eq_2)
 (And.intro @optI.eq_1 @optI.eq_2))
 (And.intro (@eksOk.eq_1)
 (And.intro @eksOk.eq_2 @eksOk.eq_3)))
 (And.intro (And.intro (@eksEq.eq_1)
 (And.intro @eksEq.eq_2 @EK.ok.eq_1))
 (And.intro (@EK.ok.eq_2)
 (And.intro @EK.ok.eq_3 @EK.eq.eq_1)))))
 (And.intro (And.intro (And.intro (And.intro (@EK.eq.eq_2)
 (And.intro @EK.eq.eq_3 @AV.i.eq_1))
 (And.intro (@AV.i.eq_2)
 (And.intro @AV.isI.eq_1 @AV.isI.eq_2)))
 (And.intro (And.intro (@AV.isInt.eq_1)
 (And.intro @AV.isInt.eq_2 @AV.str.eq_1))
 (And.intro (@AV.str.eq_2)
 (And.intro @AV.isStr.eq_1 @AV.isStr.eq_2))))
 (And.intro (And.intro (And.intro (@AV.ones.eq_1)
 (And.intro @AV.ones.eq_2 @AV.isPtr.eq_1))
 (And.intro (@AV.isPtr.eq_2)
 (And.intro @AV.isPtr.eq_3 @AV.gl.eq_1)))
 (And.intro (And.intro (@AV.gl.eq_2)
 (And.intro @AV.isG.eq_1 @AV.isG.eq_2))
 (And.intro (@Value.oneCell'.eq_1)
 (And.intro @Value.oneCell'.eq_2 @Value.oneCell'.eq_3)))))))
end Go.Eng
