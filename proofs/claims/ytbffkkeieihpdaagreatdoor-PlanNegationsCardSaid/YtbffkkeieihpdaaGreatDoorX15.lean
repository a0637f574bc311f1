import Derived.Test.YtbffkkeieihpdaaGreatDoorX13
import Derived.Test.YtbffkkeieihpdaaGreatDoorX14
import Derived.Test.YtbffkkeieihpdaaGreatDoorX10
set_option linter.unusedSimpArgs false
set_option linter.unusedVariables false
set_option linter.constructorNameAsVariable false
set_option maxRecDepth 100000
set_option maxHeartbeats 4000000
namespace Go.Proofs.YtbffkkeieihpdaaGreatDoor
open Go Go.Eng Go.RowKit Go.ChangeShapes Go.WideShapes Go.Joins
theorem rd_strs {t e:TypeId} {n:Nat} (ht:Tryz.prog.underlying t=some (.array n e)) (he:Tryz.prog.underlying e=some .string) (hc:Tryz.prog.cellsOf e=1) (ec:Tryz.prog.cellsOf t=n) (l:List ByteArray) (hl:l.length=n):Rd t (.agg (l.map fun x=>.lit (.string x.data.toList))) (l.map fun x=>.string x):=fun W f cs x h ex=>by
 obtain⟨xs,m,_,rfl,hcl,hn,hel⟩:=DataW.trod_array ht h
 simp only[DataW.agg.injEq]at ex
 have hcn:cs.length=n:=by rw[hcl,ec]
 apply List.ext_getElem
 ·rw[hcn,List.length_map,hl]
 intro i h1 h2
 have hi:i<n:=by omega
 have hx:=hel i (by omega)
 have hlt:i<xs.length:=by omega
 rw[List.getElem?_eq_getElem hlt]at hx
 have hxi:(xs[i]).1=.lit (.string (l[i]'(by omega)).data.toList):=by
  have:=congrArg (·[i]?) ex
  simpa[hlt,show i<l.length by omega]using this
 obtain⟨s,q1,q2,_⟩:=DataW.trod_string he hx
 rw[q2]at hxi
 simp only[DataW.lit.injEq,Lit.string.injEq]at hxi
 have hs:s=l[i]'(by omega):=by
  have h9:=Array.toList_inj.1 hxi
  cases s
  cases hli:l[i]'(by omega)
  rw[hli]at h9
  simp only[]at h9
  rw[h9]
 rw[hc,Nat.mul_one,List.take_one,List.head?_drop,List.getElem?_eq_getElem h1]at q1
 rw[List.getElem_map,←hs]
 simpa using q1
theorem rdKeywords:Rd 241 Rows.laid_sluice_api_Keywords ((glob 3).getD []) :=
 rd_strs (n:=27) Tryz.underlying241 Tryz.underlying9 (by kernel_rfl) (by kernel_rfl) kwords rfl
theorem at7 {laid : List (String × DataW Unit)} {W : World} (hL : laidMetH Tryz.prog laid W) (hpl : (laid.all fun x => x.2.handleName?.isNone) = true) (hm : ("sluice/api.Keywords", Rows.laid_sluice_api_Keywords) ∈ laid) : GlobAt W 3 := globAt_of hL hpl hm (by kernel_rfl) (by kernel_rfl) rdKeywords rfl
theorem str_flat:∀(h:Heap) (l:List AV) (x:ByteArray),De.str.run h l=some x→l=[ss x]:=str_out
theorem bool_flat6:∀(h:Heap) (l:List AV) (x:Bool),De.bool.run h l=some x→l=[.v (.bool x)]:=fun h l x e=>by
 simp only[De.bool]at e
 split at e
 ·cases e;rfl
 ·cases e
theorem tk_cons {l:List AV} {a:AV} (h:l.take 1=[a]):l=a::l.drop 1:=by
 have:=List.take_append_drop 1 l
 rw[h]at this
 exact this.symm
theorem opens_s:Opens Tryz.prog 9 De.str fun s=>s.size≤maxLen:=Opens.str Tryz.underlying9
theorem opens_b:Opens Tryz.prog 4 De.bool fun _=>True:=Opens.bool Tryz.underlying4
theorem opens_75:Opens Tryz.prog 79 (De.int .i64) fun n=>(Lit.int .i64 n).wf=true:=Opens.int Tryz.underlying79
theorem opens_26:Opens Tryz.prog 26 (De.int .i64) fun n=>(Lit.int .i64 n).wf=true:=Opens.int Tryz.underlying26
theorem opens_27:Opens Tryz.prog 27 (De.int .i64) fun n=>(Lit.int .i64 n).wf=true:=Opens.int Tryz.underlying27
theorem opens_nd:Opens Tryz.prog 81 dN fun x=>Rng x.n:=by
 refine Opens.conv (Opens.struct Tryz.underlying81 (tot:=6) (by kernel_rfl) (OpensF.cons rfl (n:=1) (by kernel_rfl) (by decide) opens_75 (OpensF.cons rfl (n:=1) (by kernel_rfl) (by decide) opens_i2 (OpensF.cons rfl (n:=1) (by kernel_rfl) (by decide) opens_s (OpensF.cons rfl (n:=1) (by kernel_rfl) (by decide) opens_s (OpensF.cons rfl (n:=1) (by kernel_rfl) (by decide) opens_i (OpensF.one rfl (by kernel_rfl) opens_i))))))) fun h l x e ok => ?_
 have hl:=pair_flat (int_flat .i64) (pair_flat (int_flat .i64) (pair_flat str_flat (pair_flat str_flat (pair_flat (int_flat .i64) (int_flat .i64))))) h l x e
 exact⟨⟨x.1,x.2.1,x.2.2.1,x.2.2.2.1,x.2.2.2.2.1,x.2.2.2.2.2⟩,by rw[hl];rfl,rng_of ok.2.1⟩
theorem opens_28:Opens Tryz.prog 28 dNs fun l=>l.length*64≤reachBytes∧∀x∈l,Rng x.n:=Opens.sl Tryz.underlying28 (sz:=6) (by kernel_rfl) (by decide) (by kernel_rfl) opens_nd
theorem opens_29:Opens Tryz.prog 29 dNss fun l=>l.length*24≤reachBytes∧∀x∈l,x.length*64≤reachBytes∧∀y∈x,Rng y.n:=Opens.sl Tryz.underlying29 (sz:=1) (by kernel_rfl) (by decide) (by kernel_rfl) opens_28
theorem opens_93:Opens Tryz.prog 69 dSs fun l=>l.length*16≤reachBytes∧∀x∈l,x.size≤maxLen:=Opens.sl Tryz.underlying69 (sz:=1) (by kernel_rfl) (by decide) (by kernel_rfl) opens_s
theorem opens_95:Opens Tryz.prog 85 dTy fun t=>t.attrs.length*16≤reachBytes:=by
 refine Opens.conv (Opens.struct Tryz.underlying85 (tot:=2) (by kernel_rfl) (OpensF.cons rfl (n:=1) (by kernel_rfl) (by decide) opens_s (OpensF.one rfl (by kernel_rfl) opens_93))) fun h l x e ok => ?_
 obtain⟨e1,e2⟩:=pair_run e
 have h1:=tk_cons (str_flat _ _ _ e1)
 obtain⟨a,ha⟩:=sl_one e2
 rw[ha]at e2 h1
 have e2':rd dSs h a=some x.2:=e2
 exact⟨⟨x.1,x.2⟩,by rw[h1];exact deTyc_in (x:=⟨x.1,x.2⟩) e2',ok.2.1⟩
theorem opens_22:Opens Tryz.prog 22 dTys fun l=>l.length*40≤reachBytes∧∀t∈l,t.attrs.length*16≤reachBytes:=Opens.sl Tryz.underlying22 (sz:=2) (by kernel_rfl) (by decide) (by kernel_rfl) opens_95
def dSc:De (List Ty) where
 run h l:=deSc h (.g l)
 sim hh e:=deSc_sim hh e
theorem opens_24:Opens Tryz.prog 24 dSc fun l=>l.length*40≤reachBytes∧∀t∈l,t.attrs.length*16≤reachBytes:=by
 refine Opens.conv (Opens.struct Tryz.underlying24 (tot:=1) (by kernel_rfl) (OpensF.one rfl (by kernel_rfl) opens_22)) fun h l x e ok => ?_
 obtain⟨a,rfl⟩:=sl_one e
 exact⟨x,e,ok⟩
def dQu:De Qu where
 run h l:=deQ h (.g l)
 sim hh e:=deQ_sim hh e
end Go.Proofs.YtbffkkeieihpdaaGreatDoor
namespace Go.Proofs.YtbffkkeieihpdaaGreatDoor
open Go Go.Eng
section
noncomputable def cz (S:List Nat) (pf:FuncId→Option (List AV→Heap→PRes)):Ctx:=⟨Tryz.prog,ti,globS S,pf,true⟩
section
variable (S:List Nat) (pf:FuncId→Option (List AV→Heap→PRes))
theorem cz_ti:(cz S pf).ti=ti:=rfl
theorem cz_G:(cz S pf).G=globS S:=rfl
theorem cz_pf:(cz S pf).pf=pf:=rfl
theorem cz_tw:(cz S pf).two=true:=rfl
theorem cz_two (ops:Array Oper) (o:Oper) (e:Nat→AV) (h:Heap) (i:Nat):twoO (cz S pf) ops o e h i=match o.guard with
  | none=>two (cz S pf) o.op (ev e) h i
  | some _=>none:=twoO_on rfl ops o e h i
theorem mixed_z:(cz S pf).P.follows .mixedOrders=true:=mixed S pf
theorem ty_z (t:TypeId) (h:((cz S pf).ti t).d≠.other):TyOk (cz S pf) t :=
 let k:=tyOk S pf t h
 ⟨k.info,k.zlen,k.zone,k.desc⟩
end
theorem evz:type_of% (And.intro @ev0 (And.intro (And.intro (And.intro @cz_ti (And.intro @cz_G @cz_pf)) (And.intro (And.intro @cz_tw @cz_two) (And.intro @two.eq_1 @two.eq_2))) (And.intro (And.intro (And.intro @ldcs_1 @ldcs_2) (And.intro @ldcs_3 @ldcs_4)) (And.intro (And.intro @ldcs_5 @ldcs_7) (And.intro @sls.eq_1 @slc.eq_1))))):=And.intro @ev0 (And.intro (And.intro (And.intro @cz_ti (And.intro @cz_G @cz_pf)) (And.intro (And.intro @cz_tw @cz_two) (And.intro @two.eq_1 @two.eq_2))) (And.intro (And.intro (And.intro @ldcs_1 @ldcs_2) (And.intro @ldcs_3 @ldcs_4)) (And.intro (And.intro @ldcs_5 @ldcs_7) (And.intro @sls.eq_1 @slc.eq_1))))
theorem glob_sub {S S':List Nat} (hs:∀x∈S,x∈S'):∀g cs,globS S g=some cs→globS S' g=some cs:=fun g cs hg=>by
 simp only[globS]at hg ⊢
 by_cases hm:g∈S
 ·rw[if_pos hm]at hg;rw[if_pos (hs g hm)];exact hg
 ·rw[if_neg hm]at hg;cases hg
theorem pure_z {S S':List Nat} {pf pf':FuncId→Option (List AV→Heap→PRes)} (hs:∀x∈S,x∈S') {f:FuncId} {g:List AV→Heap→PRes} (h:PureOk (cx S pf) f g):PureOk (cz S' pf') f g :=
 ⟨h.1,h.2.imp (fun h=>⟨h.1,fun ρ hh w args vs r=>h.2 ρ hh w args vs ⟨fun g cs hg=>r.glob g cs (glob_sub hs g cs hg),r.blk⟩⟩) fun h=>h⟩
theorem pfZ_ok {S:List Nat} {l:List (FuncId×(List AV→Heap→PRes))} (h:TbOk S l):Ok (cz S (pfL l)) :=
 ⟨ty_z S _,fun f g hf=>pure_z (fun _ hx=>hx) ((pfL_ok h).pf f g hf)⟩
theorem acall_z {S S':List Nat} {pf pf':FuncId→Option (List AV→Heap→PRes)} (hs:∀x∈S,x∈S') {f:FuncId} {args:List AV} {h:Heap} {n:Nat} {Q:AV→Heap→Nat→Prop} (k:ACall (cx S pf) f args h n Q):ACall (cz S' pf') f args h n Q:=by
 refine⟨k.1,fun K w0 ρ w vs r hv => ?_⟩
 have r0:Rel (cx S pf) K w0 ρ (n≤·) h w:=⟨r.os,r.tape,r.output,r.size,r.keep,r.kold,fun g cs hg=>r.glob g cs (glob_sub hs g cs hg),r.blk,r.apart,r.mine,r.free,r.vers⟩
 refine (k.2 K w0 ρ w vs r0 hv).mono fun e w' ⟨y,h1,ρ2,z,h',n',h2,h3,r2,h5⟩=>⟨y,h1,ρ2,z,h',n',h2,h3,⟨r2.os,r2.tape,r2.output,r2.size,r2.keep,r2.kold,fun g cs hg => ?_,r2.blk,r2.apart,r2.mine,r2.free,r2.vers⟩,h5⟩
 obtain⟨g1,arr,el,fr,g2,g3⟩:=r.glob g cs hg
 exact⟨g1,arr,el,fr,by rw[r2.keep g g1,←r.keep g g1];exact g2,g3⟩
theorem acall_zz {S S':List Nat} {pf pf':FuncId→Option (List AV→Heap→PRes)} (hs:∀x∈S,x∈S') {f:FuncId} {args:List AV} {h:Heap} {n:Nat} {Q:AV→Heap→Nat→Prop} (k:ACall (cz S pf) f args h n Q):ACall (cz S' pf') f args h n Q:=by
 refine⟨k.1,fun K w0 ρ w vs r hv => ?_⟩
 have r0:Rel (cz S pf) K w0 ρ (n≤·) h w:=⟨r.os,r.tape,r.output,r.size,r.keep,r.kold,fun g cs hg=>r.glob g cs (glob_sub hs g cs hg),r.blk,r.apart,r.mine,r.free,r.vers⟩
 refine (k.2 K w0 ρ w vs r0 hv).mono fun e w' ⟨y,h1,ρ2,z,h',n',h2,h3,r2,h5⟩=>⟨y,h1,ρ2,z,h',n',h2,h3,⟨r2.os,r2.tape,r2.output,r2.size,r2.keep,r2.kold,fun g cs hg => ?_,r2.blk,r2.apart,r2.mine,r2.free,r2.vers⟩,h5⟩
 obtain⟨g1,arr,el,fr,g2,g3⟩:=r.glob g cs hg
 exact⟨g1,arr,el,fr,by rw[r2.keep g g1,←r.keep g g1];exact g2,g3⟩
end
end Go.Proofs.YtbffkkeieihpdaaGreatDoor
namespace Go.Proofs.YtbffkkeieihpdaaGreatDoor
open Go Go.Eng Go.RowKit Go.ChangeShapes Go.Joins
theorem law_callsZ {S:List Nat} {tb:List (FuncId×(List AV→Heap→PRes))} (ok:TbOk S tb) {f:FuncId} {fn:Func} {c:Code} (hf:Tryz.prog.funcs[f]? = some fn) (hb:fn.body=some c) {k:Nat} (hok:(fnOk (cz S (pfL tb)) fn c&&decide (k≤fn.ntmps))=true)
  {args:List AV} {vs:List Value} (hk:args.length=k) {ρ:Ren} {h:Heap} {m:Nat} {W:World} (h1:awp (cz S (pfL tb)) (fn.body.getD .skip) (finQ (cz S (pfL tb)) fn fun z _ _=>z=bv true) ⟨env0 args,roH h,m⟩)
  (r0:RoRel (cx S (pfL tb)) ρ h W) (hm:∀j,m≤j→(∀ver,ρ j ver=none)∧h j=none) (ha:VRs ρ args vs):Calls Tryz.prog f vs.toArray W fun e W'=>e=.returned (.bool true)∧Below W.heap.size W W':=by
 have r:RoRel (cz S (pfL tb)) ρ h W:=⟨r0.glob,r0.blk⟩
 simp only[Bool.and_eq_true,decide_eq_true_eq]at hok
 rw[hb]at h1
 refine (calls_of_awp (pfZ_ok ok) (mixed_z _ _) hf hb hok.1 (by omega) h1 (r.rel hm) ha).mono fun e w' ⟨y,e1,ρ',z,h',n',q1,q2,q3,q4⟩ => ?_
 subst q4
 simp only[bv,VR]at q2
 subst q2
 exact⟨e1,q3.gone⟩
end Go.Proofs.YtbffkkeieihpdaaGreatDoor
namespace Go.Proofs.YtbffkkeieihpdaaGreatDoor
open Go Go.Eng
def OwnR (sz:Nat) (a:AV) (len:Nat) (h:Heap) (n:Nat) (z:AV) (h':Heap) (n':Nat):Prop :=
 (len=0∧z=.v (.slice none 0 0)∧h'=h∧n'=n)∨
 (0<len∧z=.s n 0 0 len∧n'=n+2∧h'=up h n (some ⟨slc h a 0 (len*sz),0,true,sz⟩))
theorem upup {h:Heap} {n:Nat} {a b:Option Blk}:up (up h n a) n b=up h n b:=by
 funext i
 by_cases e:i=n
 ·subst e;rw[up_same,up_same]
 ·rw[up_ne _ _ e,up_ne _ _ e,up_ne _ _ e]
theorem wr_app3 {α:Type}:∀(cs:List α) (a b c:List α),b.length=cs.length→wr (a++b++c) a.length cs=a++cs++c
 | [],a,b,c,h=>by
  have:b=[]:=List.eq_nil_of_length_eq_zero h
  subst this;rfl
 | x::r,a,[],c,h=>by simp at h
 | x::r,a,y::b,c,h=>by
  have e:((a++(y::b)++c).set a.length x)=(a++[x])++b++c:=by
   rw[List.append_assoc,List.set_append_right _ _ (Nat.le_refl _),Nat.sub_self]
   simp
  have:=wr_app3 r (a++[x]) b c (by simpa using h)
  rw[List.length_append]at this
  simp only[wr,e]
  simpa using this
theorem wr_full {l cs:List AV} (h:l.length=cs.length):wr l 0 cs=cs:=by
 have:=wr_app3 cs [] l [] (by simpa using h)
 simpa using this
theorem own_fin {α:Type} {sz:Nat} {d:De α} {h:Heap} {n:Nat} {a:AV} {l:List α} (e1:rd (De.sl sz d) h a=some l) (hn:Fresh n h) (z:List Value) (hz:z.length=sz) (b:Option Blk) :
  (sls (up h n b) a 0 (l.length*sz)∧l.length*sz≤(repZ z l.length).length)∧wr (repZ z l.length) 0 (List.take (l.length*sz) (slc (up h n b) a 0 (l.length*sz)))=slc h a 0 (l.length*sz):=by
 obtain⟨cs,c1,c2,c3⟩:=rd_copy hn e1
 have h1:=c1 (up h n b) ((agree_up (Nat.le_refl _) _).2 (agree_refl _ _))
 have h2:=(c1 h (agree_refl _ _)).2
 have h3:(repZ z l.length).length=l.length*sz:=by rw[repZ_length,hz]
 refine⟨⟨h1.1,by omega⟩,?_⟩
 rw[h1.2,h2,List.take_of_length_le (by omega),wr_full (by omega)]
theorem c107 {α:Type} {d:De α} {h:Heap} {n:Nat} {a:AV} {l:List α} (e1:rd (De.sl 2 d) h a=some l) (hl:l.length≤2199023255552) (hn:Fresh n h) :
  ACall (cx [] (pfL [])) 107 [a] h n fun z h' n'=>OwnR 2 a l.length h n z h' n':=by
 refine acall_of_awp (args:=[a]) (pfL_ok tb_nil) (mixed _ _) Tryz.func107 (c:=Tryz.f107.body.getD .skip) rfl (by kernel_rfl) (callable Tryz.func107 rfl rfl _ _) (show 1≤Tryz.f107.ntmps by decide +kernel) ?_
 obtain⟨s1,s2,s3,s4,s5⟩:=sl_is e1
 have key:∀e:Nat→AV,e 0=a→awp (cx [] (pfL [])) (Tryz.f107.body.getD .skip) (finQ (cx [] (pfL [])) Tryz.f107 fun z h' n'=>OwnR 2 a l.length h n z h' n') ⟨e,h,n⟩:=by
  intro e q0
  by_cases h0:l.length=0
  ·simp[evx,Tryz.f107,q0,s1,s2,h0,OwnR]
  ·have z3:0<l.length:=by omega
   simp[evx,Tryz.f107,q0,s1,s2,h0,OwnR,upup]
   have k:=fun z hz b=>own_fin e1 hn z hz b
   try simp only[Nat.mul_one]at k
   refine⟨by omega,(k _ rfl _).1,z3,?_⟩
   rw[(k _ rfl _).2]
 exact key _ rfl
theorem c108 {α:Type} {d:De α} {h:Heap} {n:Nat} {a:AV} {l:List α} (e1:rd (De.sl 1 d) h a=some l) (hl:l.length≤2199023255552) (hn:Fresh n h) :
  ACall (cx [] (pfL [])) 108 [a] h n fun z h' n'=>OwnR 1 a l.length h n z h' n':=by
 refine acall_of_awp (args:=[a]) (pfL_ok tb_nil) (mixed _ _) Tryz.func108 (c:=Tryz.f108.body.getD .skip) rfl (by kernel_rfl) (callable Tryz.func108 rfl rfl _ _) (show 1≤Tryz.f108.ntmps by decide +kernel) ?_
 obtain⟨s1,s2,s3,s4,s5⟩:=sl_is e1
 have key:∀e:Nat→AV,e 0=a→awp (cx [] (pfL [])) (Tryz.f108.body.getD .skip) (finQ (cx [] (pfL [])) Tryz.f108 fun z h' n'=>OwnR 1 a l.length h n z h' n') ⟨e,h,n⟩:=by
  intro e q0
  by_cases h0:l.length=0
  ·simp[evx,Tryz.f108,q0,s1,s2,h0,OwnR]
  ·have z3:0<l.length:=by omega
   simp[evx,Tryz.f108,q0,s1,s2,h0,OwnR,upup]
   have k:=fun z hz b=>own_fin e1 hn z hz b
   try simp only[Nat.mul_one]at k
   refine⟨by omega,(k _ rfl _).1,z3,?_⟩
   rw[(k _ rfl _).2]
 exact key _ rfl
theorem c109 {α:Type} {d:De α} {h:Heap} {n:Nat} {a:AV} {l:List α} (e1:rd (De.sl 5 d) h a=some l) (hl:l.length≤2199023255552) (hn:Fresh n h) :
  ACall (cx [] (pfL [])) 109 [a] h n fun z h' n'=>OwnR 5 a l.length h n z h' n':=by
 refine acall_of_awp (args:=[a]) (pfL_ok tb_nil) (mixed _ _) Tryz.func109 (c:=Tryz.f109.body.getD .skip) rfl (by kernel_rfl) (callable Tryz.func109 rfl rfl _ _) (show 1≤Tryz.f109.ntmps by decide +kernel) ?_
 obtain⟨s1,s2,s3,s4,s5⟩:=sl_is e1
 have key:∀e:Nat→AV,e 0=a→awp (cx [] (pfL [])) (Tryz.f109.body.getD .skip) (finQ (cx [] (pfL [])) Tryz.f109 fun z h' n'=>OwnR 5 a l.length h n z h' n') ⟨e,h,n⟩:=by
  intro e q0
  by_cases h0:l.length=0
  ·simp[evx,Tryz.f109,q0,s1,s2,h0,OwnR]
  ·have z3:0<l.length:=by omega
   simp[evx,Tryz.f109,q0,s1,s2,h0,OwnR,upup]
   have k:=fun z hz b=>own_fin e1 hn z hz b
   try simp only[Nat.mul_one]at k
   refine⟨by omega,(k _ rfl _).1,z3,?_⟩
   rw[(k _ rfl _).2]
 exact key _ rfl
theorem c110 {α:Type} {d:De α} {h:Heap} {n:Nat} {a:AV} {l:List α} (e1:rd (De.sl 6 d) h a=some l) (hl:l.length≤2199023255552) (hn:Fresh n h) :
  ACall (cx [] (pfL [])) 110 [a] h n fun z h' n'=>OwnR 6 a l.length h n z h' n':=by
 refine acall_of_awp (args:=[a]) (pfL_ok tb_nil) (mixed _ _) Tryz.func110 (c:=Tryz.f110.body.getD .skip) rfl (by kernel_rfl) (callable Tryz.func110 rfl rfl _ _) (show 1≤Tryz.f110.ntmps by decide +kernel) ?_
 obtain⟨s1,s2,s3,s4,s5⟩:=sl_is e1
 have key:∀e:Nat→AV,e 0=a→awp (cx [] (pfL [])) (Tryz.f110.body.getD .skip) (finQ (cx [] (pfL [])) Tryz.f110 fun z h' n'=>OwnR 6 a l.length h n z h' n') ⟨e,h,n⟩:=by
  intro e q0
  by_cases h0:l.length=0
  ·simp[evx,Tryz.f110,q0,s1,s2,h0,OwnR]
  ·have z3:0<l.length:=by omega
   simp[evx,Tryz.f110,q0,s1,s2,h0,OwnR,upup]
   have k:=fun z hz b=>own_fin e1 hn z hz b
   try simp only[Nat.mul_one]at k
   refine⟨by omega,(k _ rfl _).1,z3,?_⟩
   rw[(k _ rfl _).2]
 exact key _ rfl
theorem c111 {α:Type} {d:De α} {h:Heap} {n:Nat} {a:AV} {l:List α} (e1:rd (De.sl 1 d) h a=some l) (hl:l.length≤2199023255552) (hn:Fresh n h) :
  ACall (cx [] (pfL [])) 111 [a] h n fun z h' n'=>OwnR 1 a l.length h n z h' n':=by
 refine acall_of_awp (args:=[a]) (pfL_ok tb_nil) (mixed _ _) Tryz.func111 (c:=Tryz.f111.body.getD .skip) rfl (by kernel_rfl) (callable Tryz.func111 rfl rfl _ _) (show 1≤Tryz.f111.ntmps by decide +kernel) ?_
 obtain⟨s1,s2,s3,s4,s5⟩:=sl_is e1
 have key:∀e:Nat→AV,e 0=a→awp (cx [] (pfL [])) (Tryz.f111.body.getD .skip) (finQ (cx [] (pfL [])) Tryz.f111 fun z h' n'=>OwnR 1 a l.length h n z h' n') ⟨e,h,n⟩:=by
  intro e q0
  by_cases h0:l.length=0
  ·simp[evx,Tryz.f111,q0,s1,s2,h0,OwnR]
  ·have z3:0<l.length:=by omega
   simp[evx,Tryz.f111,q0,s1,s2,h0,OwnR,upup]
   have k:=fun z hz b=>own_fin e1 hn z hz b
   try simp only[Nat.mul_one]at k
   refine⟨by omega,(k _ rfl _).1,z3,?_⟩
   rw[(k _ rfl _).2]
 exact key _ rfl
def wtn (lo hi:Nat) (h:Heap):Heap:=fun i=>if lo≤i∧i<hi then h i else none
theorem wtn_at {lo hi:Nat} {h:Heap} {i:Nat} (h1:lo≤i) (h2:i<hi):wtn lo hi h i=h i:=if_pos ⟨h1,h2⟩
theorem wtn_le (lo hi:Nat) (h:Heap):(wtn lo hi h).le h:=fun i k e=>by
 unfold wtn at e
 split at e
 ·exact e
 ·cases e
theorem wtn_mono {lo hi lo' hi':Nat} {h h':Heap} (h1:lo'≤lo) (h2:hi≤hi') (h3:∀i,lo≤i→i<hi→h' i=h i):(wtn lo hi h).le (wtn lo' hi' h'):=fun i k e=>by
 unfold wtn at e ⊢
 split at e
 ·rename_i h4
  rw[if_pos ⟨by omega,by omega⟩,h3 i h4.1 h4.2];exact e
 ·cases e
theorem wtn_up {lo hi:Nat} {h:Heap} {i:Nat} (b:Option Blk) (hi':i<lo∨hi≤i):wtn lo hi (up h i b)=wtn lo hi h:=by
 funext j
 unfold wtn
 split
 ·rw[up_ne _ _ (by omega)]
 ·rfl
theorem wtn_rd {α:Type} {d:De α} {lo hi lo' hi':Nat} {h h':Heap} {a:AV} {x:α} (e:rd d (wtn lo hi h) a=some x) (h1:lo'≤lo) (h2:hi≤hi') (h3:∀i,lo≤i→i<hi→h' i=h i):rd d (wtn lo' hi' h') a=some x:=rd_mono (wtn_mono h1 h2 h3) e
def still (T:Nat→Nat) (h:Heap):Heap:=fun i=>if T i=0 then h i else none
theorem still_le (T:Nat→Nat) (h:Heap):(still T h).le h:=fun i k e=>by
 unfold still at e
 split at e
 ·exact e
 ·cases e
theorem still_at {T:Nat→Nat} {h:Heap} {i:Nat} (h1:T i=0):still T h i=h i:=if_pos h1
theorem still_wtn {T:Nat→Nat} {lo hi:Nat} {h:Heap} (h1:∀i,lo≤i→i<hi→T i=0):(wtn lo hi h).le (still T h):=fun i k e=>by
 unfold wtn at e
 split at e
 ·rename_i h2
  rw[still_at (h1 i h2.1 h2.2)];exact e
 ·cases e
structure Mv (K:Nat→Prop) (T:Nat→Nat) (h:Heap) (n:Nat) (T':Nat→Nat) (h':Heap) (n':Nat):Prop where
 nn:n≤n'
 old:∀i,i<n→T' i=T i
 keep:∀i,i<n→¬(T i≠0∧K (T i))→h' i=h i
 new:∀i,n'≤i→T' i=0
 fr:Fresh n' h'
theorem Mv.still {K:Nat→Prop} {T T':Nat→Nat} {h h':Heap} {n n':Nat} (m:Mv K T h n T' h' n') (hn:Fresh n h):(still T h).le (still T' h'):=fun i k e=>by
 unfold Go.Proofs.YtbffkkeieihpdaaGreatDoor.still at e ⊢
 split at e
 ·rename_i h0
  have hi:i<n:=lt_of e hn
  rw[if_pos (by rw[m.old i hi];exact h0),m.keep i hi (fun h=>h.1 h0)];exact e
 ·cases e
theorem Mv.trans {K K1 K2:Nat→Prop} {T T1 T2:Nat→Nat} {h h1 h2:Heap} {n n1 n2:Nat} (a:Mv K1 T h n T1 h1 n1) (b:Mv K2 T1 h1 n1 T2 h2 n2) (k1:∀x,K1 x→K x) (k2:∀x,K2 x→K x):Mv K T h n T2 h2 n2 where
 nn:=Nat.le_trans a.nn b.nn
 old i hi:=by rw[b.old i (Nat.lt_of_lt_of_le hi a.nn),a.old i hi]
 keep i hi hk:=by
  rw[b.keep i (Nat.lt_of_lt_of_le hi a.nn) (by rw[a.old i hi];exact fun h=>hk ⟨h.1,k2 _ h.2⟩),a.keep i hi fun h=>hk ⟨h.1,k1 _ h.2⟩]
 new:=b.new
 fr:=b.fr
theorem Mv.of_agree {K:Nat→Prop} {T:Nat→Nat} {h h':Heap} {n n':Nat} (ht:∀i,n≤i→T i=0) (hnn:n≤n') (ha:agree n h h') (hf:Fresh n' h'):Mv K T h n T h' n' :=
 ⟨hnn,fun _ _=>rfl,fun i hi _=>ha i hi,fun i hi=>ht i (by omega),hf⟩
def GL (T:Nat→Nat) (k sz:Nat) (h:Heap) (a:AV) (m:Nat) (cs:List AV):Prop :=
 cs.length=m*sz∧((a=.v (.slice none 0 0)∧m=0)∨∃id ver,a=.s id ver 0 m∧T id=k∧h id=some ⟨cs,ver,true,sz⟩)
theorem GL.mv {K:Nat→Prop} {T T':Nat→Nat} {h h':Heap} {n n' k sz m:Nat} {a:AV} {cs:List AV} (g:GL T k sz h a m cs) (v:Mv K T h n T' h' n') (hn:Fresh n h) (hk:¬(k≠0∧K k)):GL T' k sz h' a m cs:=by
 refine⟨g.1,g.2.imp id fun⟨id,ver,e1,e2,e3⟩ => ?_⟩
 have hi:id<n:=lt_of e3 hn
 exact⟨id,ver,e1,by rw[v.old id hi];exact e2,by rw[v.keep id hi (by rw[e2];exact hk)];exact e3⟩
theorem GL.nil (T:Nat→Nat) (k sz:Nat) (h:Heap):GL T k sz h (.v (.slice none 0 0)) 0 []:=⟨by simp,.inl ⟨rfl,rfl⟩⟩
theorem GL.rd {α:Type} {d:De α} {T:Nat→Nat} {k sz m:Nat} {h h0:Heap} {a:AV} {cs:List AV} {l:List α} (g:GL T k sz h a m cs) (hl:l.length=m) (h1:∀id ver,a=.s id ver 0 m→h0 id=h id) (h2:∀i (hi:i<l.length),d.run h0 ((cs.drop (i*sz)).take sz)=some l[i]):rd (De.sl sz d) h0 a=some l:=by
 rcases g.2 with ⟨rfl,rfl⟩|⟨id,ver,rfl,e2,e3⟩
 ·obtain rfl:l=[]:=List.length_eq_zero_iff.1 hl
  rfl
 ·subst hl
  exact De.sl_in (off:=0) (k:=⟨cs,ver,true,sz⟩) (by rw[h1 id ver rfl];exact e3) (by have:=g.1;simp only[];omega) (fun i hi=>by simpa using h2 i hi)
def deAt (h:Heap):List AV→Option (List Ty×Int×ByteArray)
 | [x,.v (.int .i64 t),.v (.string v)]=>(deSc h x).map fun l=>(l,t,v)
 | _=>none
theorem deAt_out {h:Heap} {args:List AV} {q:List Ty×Int×ByteArray} (e:deAt h args=some q):∃x,args=[x,ii q.2.1,ss q.2.2]∧deSc h x=some q.1:=by
 unfold deAt at e
 split at e
 ·simp only[Option.map_eq_some_iff]at e
  obtain⟨t,h1,rfl⟩:=e
  exact⟨_,rfl,h1⟩
 ·cases e
theorem deAt_mono (h h':Heap) (args:List AV) (q:List Ty×Int×ByteArray) (hh:h.le h') (e:deAt h args=some q):deAt h' args=some q:=by
 obtain⟨x,rfl,e1⟩:=deAt_out e
 simp only[deAt,ii,ss,deSc_sim hh.sim e1,Option.map_some]
def GAt:=pureH deAt (fun q=>smallS q.1) fun q=>ii (attrOf q.1 q.2.1 q.2.2)
def tb121:List (FuncId×(List AV→Heap→PRes)):=[(150,G140)]
theorem P121:P0 [] 116 GAt:=by
 refine mkH 3 (S:=[]) (l:=tb121) (tb_cons P140 tb_nil) Tryz.func116 rfl (by kernel_rfl) deAt_mono (fun h l x e=>by obtain⟨a,rfl,_⟩:=deAt_out e;exact Nat.le_refl _) (fun a=>rfl) (fun args q h n e hp hn => ?_)
 obtain⟨x,rfl,e1⟩:=deAt_out e
 obtain⟨a,rfl,e2⟩:=deSc_out e1
 obtain⟨l,ty,v⟩:=q
 obtain⟨hp1,hp2⟩:=hp
 simp only[]at e2 hp1 hp2 ⊢
 obtain⟨s1,s2,s3,s4,s5⟩:=sl_is e2
 have hts:ByteArray.mk #[116,115]=tsB:=rfl
 by_cases h1:ty<0
 ·have hf:attrOf l ty v=-1:=by rw[attrOf,if_pos (.inl h1)]
  simp[evx,ii,ss,s1,s2,s4,h1,hf]
 obtain⟨j,rfl⟩:∃j:Nat,ty=j:=⟨ty.toNat,by omega⟩
 by_cases hlt:j<l.length
 ·rcases tys_at e2 with ⟨h0,_⟩|⟨id,off,k,rfl,hk,ho,hat⟩
  ·rw[h0]at hlt;simp at hlt
  obtain⟨_,c,hc,hcr⟩:=hat j hlt
  have h2:¬l.length≤j:=by omega
  have hro:=ro_at hk
  have h0:=ne_of hk hn 0
  simp only[Nat.add_zero]at h0
  have u3:=(sl_is hcr).2.2.1
  have gr:∀h',agree n (roH h) h'→rd dSs h' c=some l[j].attrs:=rd_agree hn hcr
  have hw1:off+(j*2+2)≤k.cells.length:=by omega
  have hsm:=hp2 _ (List.getElem_mem hlt)
  have hlj:l[j]? = some l[j]:=List.getElem?_eq_getElem hlt
  have hff:attrOf l j v=if (v==tsB)=true then -2 else if ixOf l[j].attrs v<8 then ixOf l[j].attrs v else -1:=by
   rw[attrOf,if_neg (by omega)]
   simp only[Int.toNat_natCast,hlj]
  generalize l[j]=t at *
  cases hv:(v==tsB)with
  | true =>
   rw[hv,if_pos rfl]at hff
   simp[evx,ii,ss,h2,hts,hv,hff]
  | false =>
   rw[hv,if_neg (by simp)]at hff
   have hi0 : -1≤ixOf t.attrs v:=by unfold ixOf;split<;>omega
   obtain⟨z,hzz⟩:∃z,ixOf t.attrs v=z:=⟨_,rfl⟩
   rw[hzz]at hff hi0
   by_cases hz:0≤z
   ·by_cases hz8:z<8
    ·rw[if_pos hz8]at hff
     simp[evx,ii,ss,hlt,h2,hts,hv,hff,h0,hro,hc,hw1,tb121,G140,pureH,dePl,gr,agree_up,agree_refl,hsm,hzz,hz,hz8]
    ·rw[if_neg hz8]at hff
     simp[evx,ii,ss,hlt,h2,hts,hv,hff,h0,hro,hc,hw1,tb121,G140,pureH,dePl,gr,agree_up,agree_refl,hsm,hzz,hz,hz8]
   ·have:z=-1:=by omega
    subst this
    simp at hff
    simp[evx,ii,ss,hlt,h2,hts,hv,hff,h0,hro,hc,hw1,tb121,G140,pureH,dePl,gr,agree_up,agree_refl,hsm,hzz]
 ·have h2:l.length≤j:=by omega
  have hf:attrOf l j v=-1:=by rw[attrOf,if_pos (.inr (by omega))]
  simp[evx,ii,ss,s1,s2,s4,h2,hf]
def opA (o:List Int) (k:Int):Int:=if k=1 then o.getD (o.length-1) 0 else if k=2 then o.getD (o.length-2) 0 else -1
def opB (o:List Int) (k:Int):Int:=if k=2 then o.getD (o.length-1) 0 else -1
def treeStep (o:List Int) (x:Nd) (i:Nat):Option (List Int) :=
 if arity x.op<0∨arity x.op > o.length∨fieldsB x=false then none
 else if x.a≠opA o (arity x.op)∨x.b≠opB o (arity x.op)then none
 else some (o.take (o.length-(arity x.op).toNat)++[(i:Int)])
def openTo (t:List Nd):Nat→Option (List Int)
 | 0=>some []
 | j+1=>(openTo t j).bind fun o=>treeStep o (t.getD j nd0) j
def tree1 (t:List Nd):Bool:=match openTo t t.length with
 | some o=>decide (o.length=1)
 | none=>false
theorem open_len {t:List Nd}:∀{j:Nat} {o:List Int},openTo t j=some o→o.length≤j
 | 0,o,h=>by simp[openTo]at h;subst h;simp
 | j+1,o,h=>by
  simp only[openTo,Option.bind_eq_some_iff]at h
  obtain⟨p,h1,h2⟩:=h
  have:=open_len h1
  unfold treeStep at h2
  split at h2
  ·cases h2
  ·split at h2
   ·cases h2
   ·cases h2
    simp;omega
theorem open_none {t:List Nd} {j:Nat} (h:openTo t j=none):∀m,openTo t (j+m)=none
 | 0=>h
 | m+1=>by
  show openTo t (j+m+1)=none
  simp only[openTo,open_none h m,Option.bind_none]
theorem tree1_no {t:List Nd} {j:Nat} {o:List Int} (hj:j<t.length) (ho:openTo t j=some o) (hs:treeStep o (t.getD j nd0) j=none):tree1 t=false:=by
 have h1:openTo t (j+1)=none:=by simp only[openTo,ho,Option.bind_some,hs]
 have:=open_none h1 (t.length-(j+1))
 rw[show j+1+(t.length-(j+1))=t.length by omega]at this
 simp only[tree1,this]
def G70:=pureH deT smallT fun t=>bv (tree1 t)
def tb70:List (FuncId×(List AV→Heap→PRes)):=[(139,g114),(140,g115)]
theorem arity_is (o:Int):arity o=-1∨arity o=0∨arity o=1∨arity o=2:=by
 unfold arity;repeat' split
 all_goals simp
theorem P70:P0 [3] 79 G70:=by
 refine mkH 1 (S:=[3]) (l:=tb70) (tb_cons p114 (tb_cons p115 tb_nil)) Tryz.func79 rfl (by kernel_rfl) deT_mono (fun h l x e=>by obtain⟨a,rfl,_⟩:=deT_out e;exact Nat.le_refl _) (fun a=>rfl) (fun args t h n e hp hn => ?_)
 obtain⟨a,rfl,e1⟩:=deT_out e
 obtain⟨s1,s2,s3,s4,s5⟩:=sl_is e1
 have hp':t.length*64≤140737488355328:=hp
 have key:∀e:Nat→AV,e 0=a→awp (cx [3] (pfL tb70)) (Tryz.f79.body.getD .skip) (finQ (cx [3] (pfL tb70)) Tryz.f79 fun z _ _=>z=bv (tree1 t)) ⟨e,roH h,n⟩:=fun e q0=>by
  simp[evx,Tryz.f79,q0,s1,s2]
  refine awp_loop (fun s=>∃(j:Nat) (o:List Int),j≤t.length∧openTo t j=some o∧s.e 9=a∧s.e 10=ii t.length∧s.e 11=ii j∧Own s.h n s.n (s.e 3) o.length (o.map ii) 1∧agree n (roH h) s.h∧n≤s.n) (fun s=>t.length-(s.e 11).i.toNat) ⟨0,[],by simp[up,ii,agree_refl,openTo,Own]⟩ ?_
  rintro e' h' n' ⟨j,o,hj,ho,q9,q10,q11,hown,hag,hnn⟩
  simp only[]at q9 q10 q11 hown hag hnn
  have hol:=open_len ho
  by_cases hlt:j<t.length
  ·rcases ns_at e1 with ⟨h0,_⟩|⟨id,off,k,rfl,hk,ho',hat⟩
   ·rw[h0]at hlt;simp at hlt
   have hr:=hat j hlt
   have ha':=agree_at hn hk hag
   have hle:∀(X:Ctx) (h':Heap),h' id=some ⟨k.cells,k.ver,false,k.esz⟩→ldcs X h' (.p id k.ver (off+j*6)) 0 6=ncells t[j]:=fun X h' e=>ldcs_nd e hr
   have hw6:off+(j*6+6)≤k.cells.length:=by omega
   have hw:=wrap_nat (j:=j) (by unfold big;omega)
   have hg:t.getD j nd0=t[j]:=by rw[List.getD_eq_getElem?_getD,List.getElem?_eq_getElem hlt];rfl
   have hno:=tree1_no hlt ho
   have hsu:openTo t (j+1)=treeStep o t[j] j:=by simp only[openTo,ho,Option.bind_some,hg]
   rw[hg]at hno
   have hid:id<n:=lt_of hk hn
   have z1:¬id=n':=by omega
   have f0:n≤n':=hnn
   generalize t[j]=x at *
   obtain⟨op,num,var,attr,xa,xb⟩:=x
   have hnb:∀(X:Ctx) (h'':Heap),h'' n'=some ⟨[.v (.int .i64 op),.v (.int .i64 num),.v (.string var),.v (.string attr),.v (.int .i64 xa),.v (.int .i64 xb)],0,true,6⟩→ldcs X h'' (.p n' 0 0) 0 6=[.v (.int .i64 op),.v (.int .i64 num),.v (.string var),.v (.string attr),.v (.int .i64 xa),.v (.int .i64 xb)]:=fun X h'' e=>by simp[ldcs,ldc,e]
   have hdn:deN (.g [.v (.int .i64 op),.v (.int .i64 num),.v (.string var),.v (.string attr),.v (.int .i64 xa),.v (.int .i64 xb)])=some ⟨op,num,var,attr,xa,xb⟩:=rfl
   try simp only[]at hno hsu
   have hb3:(j+1)*8≤140737488355328:=by omega
   have hol2:(o.map ii).length=o.length:=List.length_map ..
   have hw0:IntKind.i64.wrap 0=0:=rfl
   have hwn:∀m:Nat,m<big→IntKind.i64.wrap (m:Int)=m:=fun m hm=>by
    cases m with
    | zero=>rfl
    | succ m=>exact wrap_nat (by omega)
   have hbg:o.length<big:=by unfold big;omega
   rcases arity_is op with har|har|har|har
   ·have hf:=hno (by simp[treeStep,har])
    simp[evx,q9,q10,q11,ii,ss,hlt,ha',hle,hw6,tb70,g114,g115,pure1,deI,har,hf,bv,ncells]
   ·have q3s:(∀g,AV.unc g (e' 3)=e' 3)∧(e' 3).isS∧(e' 3).slen=o.length:=by
     rcases hown with ⟨h0,hnil,q3⟩|⟨w,u,q3,hk3,hw1,hw2⟩
     ·rw[q3];exact⟨fun _=>rfl,⟨rfl,rfl⟩,h0.symm⟩
     ·rw[q3];exact⟨fun _=>rfl,trivial,rfl⟩
    obtain⟨q3a,q3b,q3c⟩:=q3s
    cases hfl:fieldsB ⟨op,num,var,attr,xa,xb⟩with
    | false =>
     have hf:=hno (by simp[treeStep,hfl])
     simp[evx,q9,q10,q11,ii,ss,hlt,ha',hle,hnb,hdn,hw6,tb70,g114,g115,pure1,deI,har,bv,ncells,q3a,q3b,q3c,hfl,hf]
    | true =>
     by_cases hx1:xa=-1
     ·by_cases hx2:xb=-1
      ·subst hx1;subst hx2
       have hst:treeStep o ⟨op,num,var,attr,-1,-1⟩ j=some (o++[(j:Int)]):=by simp[treeStep,har,hfl,opA,opB]
       rcases hown with ⟨h0,hnil,q3⟩|⟨w,u,q3,hk3,hw1,hw2⟩
       ·have ho0:o=[]:=List.length_eq_zero_iff.1 h0
        subst ho0
        have f1:n≤n'+2:=by omega
        have f2:n≤n'+3:=by omega
        simp[evx,q3,q9,q10,q11,ii,ss,hlt,ha',hle,hnb,hdn,hw6,tb70,g114,g115,pure1,deI,har,bv,ncells,hfl,hw0,hw,agree_up,hag,f0,f1,f2]
        exact⟨⟨j+1,by omega,_,by rw[hsu,hst],by omega,.inr ⟨n'+3,0,rfl,by rw[up_same];rfl,by omega,by omega⟩,by omega⟩,by omega⟩
       ·have y1:¬w=n':=by omega
        have y2:¬w=n'+2:=by omega
        have y3:n≤w:=hw1
        have f1:n≤n'+2:=by omega
        have hb4:o.length≤9223372036854775806:=by omega
        have hb5:(o.length+1)*8≤140737488355328:=by omega
        simp[evx,q3,q9,q10,q11,ii,ss,hlt,ha',hle,hnb,hdn,hw6,tb70,g114,g115,pure1,deI,har,bv,ncells,hfl,hw,hwn _ hbg,hk3,y1,y2,y3,agree_up,hag,f0,f1,hb4,hb5]
        exact⟨⟨j+1,by omega,_,by rw[hsu,hst],by omega,.inr ⟨w,u+1,by simp,by rw[up_same];simp[ii],by omega,by omega⟩,by omega⟩,by omega⟩
      ·subst hx1
       have hf:=hno (by simp[treeStep,opB,har,hx2])
       simp[evx,q9,q10,q11,ii,ss,hlt,ha',hle,hnb,hdn,hw6,tb70,g114,g115,pure1,deI,har,bv,ncells,q3a,q3b,q3c,hfl,hf,hx2]
     ·have hf:=hno (by simp[treeStep,opA,har,hx1])
      simp[evx,q9,q10,q11,ii,ss,hlt,ha',hle,hnb,hdn,hw6,tb70,g114,g115,pure1,deI,har,bv,ncells,q3a,q3b,q3c,hfl,hf,hx1]
   ·by_cases hle1:o.length<1
    ·have ho0:o=[]:=List.length_eq_zero_iff.1 (by omega)
     subst ho0
     have hf:=hno (by simp[treeStep,har])
     have q3s:(∀g,AV.unc g (e' 3)=e' 3)∧(e' 3).isS∧(e' 3).slen=0:=by
      rcases hown with ⟨h0,hnil,q3⟩|⟨w,u,q3,hk3,hw1,hw2⟩
      ·rw[q3];exact⟨fun _=>rfl,⟨rfl,rfl⟩,rfl⟩
      ·rw[q3];exact⟨fun _=>rfl,trivial,rfl⟩
     obtain⟨q3a,q3b,q3c⟩:=q3s
     simp[evx,q9,q10,q11,ii,ss,hlt,ha',hle,hw6,tb70,g114,g115,pure1,deI,har,hf,bv,ncells,q3a,q3b,q3c]
    obtain⟨p,y,rfl⟩:∃p y,o=p++[y]:=⟨o.dropLast,o.getLast (by intro h;subst h;simp at hle1),(List.dropLast_concat_getLast _).symm⟩
    have hln:(p++[y]).length=p.length+1:=by simp
    have hz1:(1:Int)≤(p.length:Int)+1:=by omega
    have hz2:(p.length:Int)<(p.length:Int)+1:=by omega
    have hz4:(p.length:Int)≤(p.length:Int)+1:=by omega
    have hgt:¬(p.length:Int)+1<1:=by omega
    rcases hown with ⟨h0,hnil,q3⟩|⟨w,u,q3,hk3,hw1,hw2⟩
    ·rw[hln]at h0;omega
    have y1:¬w=n':=by omega
    have y2:¬w=n'+2:=by omega
    have y3:n≤w:=hw1
    have f1:n≤n'+2:=by omega
    have hpb:p.length<big:=by omega
    have hb4:p.length≤9223372036854775806:=by omega
    have hb5:(p.length+1)*8≤140737488355328:=by omega
    have hmap:(p++[y]).map ii=p.map ii++[ii y]:=by simp
    have hpl:(p.map ii).length=p.length:=List.length_map ..
    have hoA:opA (p++[y]) 1=y:=by simp[opA]
    have hoB:opB (p++[y]) 1=-1:=by simp[opB]
    rw[hln]at q3
    rw[hmap]at hk3
    have hcut:cut p.length (p.map ii++[ii y])=p.map ii:=by rw[cut_take,List.take_append_of_le_length (by omega),List.take_of_length_le (by omega)]
    simp only[ii]at hcut
    generalize hcp:p.map ii=cp at *
    cases hfl:fieldsB ⟨op,num,var,attr,xa,xb⟩with
    | false =>
     have hf:=hno (by simp[treeStep,hfl])
     simp[evx,q3,q9,q10,q11,ii,ss,hlt,ha',hle,hnb,hdn,hw6,tb70,g114,g115,pure1,deI,har,bv,ncells,hfl,hf,hgt]
    | true =>
     by_cases hx1:xa=y
     ·by_cases hx2:xb=-1
      ·subst hx1;subst hx2
       have hst:treeStep (p++[xa]) ⟨op,num,var,attr,xa,-1⟩ j=some (p++[(j:Int)]):=by simp[treeStep,har,hfl,hoA,hoB];omega
       simp[evx,q3,q9,q10,q11,ii,ss,hlt,ha',hle,hnb,hdn,hw6,tb70,g114,g115,pure1,deI,har,bv,ncells,hfl,hw,hwn _ hpb,hk3,hpl,y1,y2,y3,agree_up,hag,f0,f1,hb4,hb5,hcut,hz2,hz4,hgt]
       exact⟨⟨j+1,by omega,_,by rw[hsu,hst],by omega,.inr ⟨w,u+1,by simp,by rw[up_same,←hcp];simp[ii],by omega,by omega⟩,by omega⟩,by omega⟩
      ·subst hx1
       have hf:=hno (by simp[treeStep,har,hoA,hoB,hx2])
       simp[evx,q3,q9,q10,q11,ii,ss,hlt,ha',hle,hnb,hdn,hw6,tb70,g114,g115,pure1,deI,har,bv,ncells,hfl,hf,hx2,hwn _ hpb,hk3,hpl,y1,hz2,hgt]
     ·have hf:=hno (by simp[treeStep,har,hoA,hx1])
      simp[evx,q3,q9,q10,q11,ii,ss,hlt,ha',hle,hnb,hdn,hw6,tb70,g114,g115,pure1,deI,har,bv,ncells,hfl,hf,hx1,hwn _ hpb,hk3,hpl,y1,hz2,hgt]
   ·by_cases hle1:o.length<2
    ·have hf:=hno (by simp[treeStep,har];omega)
     have q3s:(∀g,AV.unc g (e' 3)=e' 3)∧(e' 3).isS∧(e' 3).slen=o.length:=by
      rcases hown with ⟨h0,hnil,q3⟩|⟨w,u,q3,hk3,hw1,hw2⟩
      ·rw[q3];exact⟨fun _=>rfl,⟨rfl,rfl⟩,h0.symm⟩
      ·rw[q3];exact⟨fun _=>rfl,trivial,rfl⟩
     obtain⟨q3a,q3b,q3c⟩:=q3s
     have hle2:(o.length:Int)<2:=by omega
     simp[evx,q9,q10,q11,ii,ss,hlt,ha',hle,hw6,tb70,g114,g115,pure1,deI,har,hf,bv,ncells,q3a,q3b,q3c,hle2]
    obtain⟨p,y,z,rfl⟩:∃p y z,o=p++[y,z]:=by
     obtain⟨p1,z,rfl⟩:∃p y,o=p++[y]:=⟨o.dropLast,o.getLast (by intro h;subst h;simp at hle1),(List.dropLast_concat_getLast _).symm⟩
     obtain⟨p,y,rfl⟩:∃p y,p1=p++[y]:=⟨p1.dropLast,p1.getLast (by intro h;subst h;simp at hle1),(List.dropLast_concat_getLast _).symm⟩
     exact⟨p,y,z,by simp⟩
    have hln:(p++[y,z]).length=p.length+2:=by simp
    have hwq:IntKind.i64.wrap ((p.length:Int)+2-1)=p.length+1:=by
     have:=hwn (p.length+1) (by omega)
     rw[show ((p.length:Int)+2-1)=((p.length+1:Nat):Int) by omega,this];omega
    have hz1:(2:Int)≤(p.length:Int)+2:=by omega
    have hz2:(p.length:Int)<(p.length:Int)+2:=by omega
    have hz4:(p.length:Int)≤(p.length:Int)+2:=by omega
    have hz3:(0:Int)≤(p.length:Int)+1:=by omega
    have hgt:¬(p.length:Int)+2<2:=by omega
    rcases hown with ⟨h0,hnil,q3⟩|⟨w,u,q3,hk3,hw1,hw2⟩
    ·rw[hln]at h0;omega
    have y1:¬w=n':=by omega
    have y2:¬w=n'+2:=by omega
    have y3:n≤w:=hw1
    have f1:n≤n'+2:=by omega
    have hpb:p.length<big:=by omega
    have hb4:p.length≤9223372036854775806:=by omega
    have hb5:(p.length+1)*8≤140737488355328:=by omega
    have hmap:(p++[y,z]).map ii=p.map ii++[ii y,ii z]:=by simp
    have hpl:(p.map ii).length=p.length:=List.length_map ..
    have hoA:opA (p++[y,z]) 2=y:=by simp[opA]
    have hoB:opB (p++[y,z]) 2=z:=by simp[opB]
    rw[hln]at q3
    rw[hmap]at hk3
    have hcut:cut p.length (p.map ii++[ii y,ii z])=p.map ii:=by rw[cut_take,List.take_append_of_le_length (by omega),List.take_of_length_le (by omega)]
    simp only[ii]at hcut
    generalize hcp:p.map ii=cp at *
    cases hfl:fieldsB ⟨op,num,var,attr,xa,xb⟩with
    | false =>
     have hf:=hno (by simp[treeStep,hfl])
     simp[evx,q3,q9,q10,q11,ii,ss,hlt,ha',hle,hnb,hdn,hw6,tb70,g114,g115,pure1,deI,har,bv,ncells,hfl,hf,hgt]
    | true =>
     by_cases hx1:xa=y
     ·by_cases hx2:xb=z
      ·subst hx1;subst hx2
       have hst:treeStep (p++[xa,xb]) ⟨op,num,var,attr,xa,xb⟩ j=some (p++[(j:Int)]):=by simp[treeStep,har,hfl,hoA,hoB];omega
       simp[evx,q3,q9,q10,q11,ii,ss,hlt,ha',hle,hnb,hdn,hw6,tb70,g114,g115,pure1,deI,har,bv,ncells,hfl,hw,hwn _ hpb,hk3,hpl,y1,y2,y3,agree_up,hag,f0,f1,hb4,hb5,hcut,hwq,hgt,hz2,hz3,hz4]
       exact⟨⟨j+1,by omega,_,by rw[hsu,hst],by omega,.inr ⟨w,u+1,by simp,by rw[up_same,←hcp];simp[ii],by omega,by omega⟩,by omega⟩,by omega⟩
      ·subst hx1
       have hf:=hno (by simp[treeStep,har,hoA,hoB,hx2])
       simp[evx,q3,q9,q10,q11,ii,ss,hlt,ha',hle,hnb,hdn,hw6,tb70,g114,g115,pure1,deI,har,bv,ncells,hfl,hf,hx2,hwn _ hpb,hk3,hpl,y1,hwq,hgt,hz2,hz3]
     ·have hf:=hno (by simp[treeStep,har,hoA,hx1])
      simp[evx,q3,q9,q10,q11,ii,ss,hlt,ha',hle,hnb,hdn,hw6,tb70,g114,g115,pure1,deI,har,bv,ncells,hfl,hf,hx1,hwn _ hpb,hk3,hpl,y1,hwq,hgt,hz2,hz3]
  ·obtain rfl:j=t.length:=by omega
   have hf:tree1 t=decide (o.length=1):=by simp only[tree1,ho]
   rcases hown with ⟨h0,hnil,q3⟩|⟨w,u,q3,hk3,hw1,hw2⟩
   ·rw[h0]at hf
    simp[evx,q3,q10,q11,ii,hf,bv]
   ·have hdd:((o.length:Int)==1)=decide (o.length=1):=by rw[Bool.eq_iff_iff];simp;omega
    simp[evx,q3,q10,q11,ii,hf,bv,hdd]
 exact key _ rfl
end Go.Proofs.YtbffkkeieihpdaaGreatDoor
