import Derived.Test.YtbffkkeieihpdaaGreatDoorX26
import Derived.Test.YtbffkkeieihpdaaGreatDoorX22
import Derived.Test.YtbffkkeieihpdaaGreatDoorX23
import Derived.Test.YtbffkkeieihpdaaGreatDoorX24
set_option linter.unusedSimpArgs false
set_option linter.unusedVariables false
set_option linter.constructorNameAsVariable false
set_option maxRecDepth 100000
set_option maxHeartbeats 4000000
namespace Go.Proofs.YtbffkkeieihpdaaGreatDoor
open Go Go.Eng
section
def rM:Rdr (List AV) where
 run h a:=match a with
  | .mv id ver=>match h id with
   | some k=>if k.ver=ver then some k.cells else none
   | none=>none
  | _=>none
 sim {h h' a x} hh e:=by
  split at e
  ·split at e
   ·rename_i id ver k hk
    obtain⟨k',h1,h2,h3⟩:=hh _ _ hk
    split at e
    ·rename_i hv
     cases e
     simp only[h1,h3,h2,hv,if_true]
    ·cases e
   ·cases e
  ·cases e
theorem rM_out {h:Heap} {a:AV} {cs:List AV} (e:rM.run h a=some cs):∃id k,a=.mv id k.ver∧h id=some k∧k.cells=cs:=by
 simp only[rM]at e
 split at e
 ·split at e
  ·rename_i id0 ver0 _ k hk
   split at e
   ·rename_i hv
    cases e
    exact⟨_,k,by rw[hv],hk,rfl⟩
   ·cases e
  ·cases e
 ·cases e
theorem rN_out {h:Heap} {a:AV} {x:Nd} (e:rN.run h a=some x):a=.g [ii x.op,ii x.n,ss x.var,ss x.attr,ii x.a,ii x.b]:=by
 simp only[rN]at e
 exact deN_out e
theorem rB_out {h:Heap} {a:AV} {x:Bool} (e:rB.run h a=some x):a=bv x:=by
 simp only[rB]at e
 exact deB_out e
section
variable {α β γ δ ε:Type} (ra:Rdr α) (rb:Rdr β) (rc:Rdr γ) (rd':Rdr δ) (re:Rdr ε)
def de5 (h:Heap):List AV→Option (α×β×γ×δ×ε)
 | a::l=>(ra.run h a).bind fun x=>(de4 rb rc rd' re h l).map fun y=>(x,y)
 | _=>none
variable {ra rb rc rd' re}
theorem de5_out {h:Heap} {l:List AV} {q:α×β×γ×δ×ε} (e:de5 ra rb rc rd' re h l=some q):∃a b c d f,l=[a,b,c,d,f]∧ra.run h a=some q.1∧rb.run h b=some q.2.1∧rc.run h c=some q.2.2.1∧rd'.run h d=some q.2.2.2.1∧re.run h f=some q.2.2.2.2:=by
 unfold de5 at e
 split at e
 ·simp only[Option.bind_eq_some_iff,Option.map_eq_some_iff]at e
  obtain⟨x,e1,y,e2,rfl⟩:=e
  obtain⟨b,c,d,f,rfl,e3⟩:=de4_out e2
  exact⟨_,b,c,d,f,rfl,e1,e3⟩
 ·cases e
theorem de5_mono (h h':Heap) (l:List AV) (q:α×β×γ×δ×ε) (hh:h.le h') (e:de5 ra rb rc rd' re h l=some q):de5 ra rb rc rd' re h' l=some q:=by
 obtain⟨a,b,c,d,f,rfl,e1,e2,e3,e4,e5⟩:=de5_out e
 simp only[de5,de4,ra.sim hh.sim e1,rb.sim hh.sim e2,rc.sim hh.sim e3,rd'.sim hh.sim e4,re.sim hh.sim e5,Option.bind_some,Option.map_some]
theorem de5_len (h:Heap) (l:List AV) (q:α×β×γ×δ×ε) (e:de5 ra rb rc rd' re h l=some q):l.length≤5:=by obtain⟨a,b,c,d,f,rfl,_⟩:=de5_out e;exact Nat.le_refl _
end
def okMent (q:List Ty×Qu×List AV×Nd×Bool):Prop:=smallS q.1∧QuSm q.2.1∧isM (ixM (vars q.2.1.items)) q.2.2.1
def GMent:=pureH (de5 rSc rQ rM rN rB) okMent fun q=>ii (mentE q.1 q.2.1 q.2.2.2.2 q.2.2.2.1)
def tbMent:List (FuncId×(List AV→Heap→PRes)):=[(95,g85),(96,g86),(153,GHas)]
section
theorem P103:P0 [] 103 GMent:=by
 refine mkH 5 (S:=[]) (l:=tbMent) (tb_cons p85 (tb_cons p86 (tb_cons P153 tb_nil))) Tryz.func103 rfl (by kernel_rfl) de5_mono de5_len (fun a=>rfl) (fun args q h n e hp hn => ?_)
 obtain⟨x,y,m,d,f,rfl,e1,e2,e3,e4,e5⟩:=de5_out e
 obtain⟨sc,q,cs,nd,res⟩:=q
 obtain⟨hsc,hq,hM⟩:=hp
 simp only[]at e1 e2 e3 e4 e5 hsc hq hM ⊢
 have g1:=sc_agree hn e1
 obtain⟨x,rfl,ex⟩:=deSc_out e1
 have t3:=(sl_is ex).2.2.1
 have t4:=(sl_is ex).2.2.2.1
 obtain⟨a,b,c,rfl,x2,x3,x4⟩:=deQ_out e2
 obtain⟨s1,s2,s3,s4,s5⟩:=sl_is x2
 have o2:=(sl_is x3).2.2.2.1
 have o3:=(sl_is x4).2.2.2.1
 obtain⟨mid,mk,rfl,hmk,rfl⟩:=rM_out e3
 have:=rN_out e4;subst this
 have:=rB_out e5;subst this
 have hmid:=lt_of hmk hn
 have hmr:=ro_at hmk
 have hok:=hM.1
 have hf:=hM.2 nd.var
 obtain⟨op,num,var,attr,na,nb⟩:=nd
 simp only[]at hf
 have key:∀e:Nat→AV,e 0=.g [x]→e 1=.g [a,ii q.mode,ii q.after,b,ii q.within,ss q.par,c]→e 2=.mv mid mk.ver→e 3=.g [ii op,ii num,ss var,ss attr,ii na,ii nb]→e 4=bv res→awp (cx [] (pfL tbMent)) (Tryz.f103.body.getD .skip) (finQ (cx [] (pfL tbMent)) Tryz.f103 fun z _ _=>z=ii (mentE sc q res ⟨op,num,var,attr,na,nb⟩)) ⟨e,roH h,n⟩:=fun e q0 q1 q2 q3 q4=>by
  have zm0:¬mid=n:=by omega
  have zm1:¬mid=n+1:=by omega
  have zm2:¬mid=n+2:=by omega
  by_cases hb:bareO op=false∧aggO op=false
  ·have h1:mentE sc q res ⟨op,num,var,attr,na,nb⟩=0:=by unfold mentE;rw[if_pos hb]
   simp[evx,Tryz.f103,q0,q1,q3,ii,ss,bv,t4,s4,o2,o3,tbMent,g85,g86,pure1,deI,hb.1,hb.2,h1]
  have hb':bareO op=true∨aggO op=true:=by
   cases hx:bareO op with
   | true=>exact .inl rfl
   | false =>
    cases hy:aggO op with
    | true=>exact .inr rfl
    | false=>exact absurd ⟨hx,hy⟩ hb
  cases hix:ixM (vars q.items) var with
  | none =>
   rw[hix]at hf
   simp only[Option.map_none]at hf
   have hneg:ixOf (vars q.items) var<0:=by
    unfold ixM at hix
    split at hix
    ·cases hix
    ·omega
   have h1:mentE sc q res ⟨op,num,var,attr,na,nb⟩=68:=by unfold mentE;rw[if_neg hb,if_pos hneg]
   rcases hb' with hbx|hbx<;>cases hby:bareO op<;>simp[evx,Tryz.f103,q0,q1,q2,q3,ii,ss,bv,t4,s4,o2,o3,tbMent,g85,g86,pure1,deI,hbx,hby,h1,zm0,zm1,zm2,hmr,hok,hf]
  | some i =>
   rw[hix]at hf
   simp only[Option.map_some,ii]at hf
   have hix2:ixOf (vars q.items) var=i∧0≤i:=by
    unfold ixM at hix
    split at hix
    ·cases hix;exact⟨rfl,by assumption⟩
    ·cases hix
   obtain⟨j,rfl⟩:∃j:Nat,i=j:=⟨i.toNat,by omega⟩
   have hil:ixOf (vars q.items) var<(vars q.items).length:=by unfold ixOf;split<;>omega
   rw[hix2.1]at hil
   have hlt:j<q.items.length:=by simpa[vars]using hil
   obtain⟨id,off,k,ty,rfl,hk,ho,c0,c1,c2,c3,c4,e6⟩:=its_getD x2 hlt
   have hro:=ro_at hk
   have hidn:=lt_of hk hn
   have zi0:¬id=n:=by omega
   have zi1:¬id=n+1:=by omega
   have zi2:¬id=n+2:=by omega
   have hw1:off+(j*5+5)≤k.cells.length:=by omega
   have hty:=hq.ty j hlt
   have u3:=(sl_is e6).2.2.1
   have u4:=(sl_is e6).2.2.2.1
   have g6:=rd_agree hn e6
   have hME:mentE sc q res ⟨op,num,var,attr,na,nb⟩=if op≠5∧hasA sc (q.items.getD j it0) attr=false then 69 else
     if (aggO op=true∧(q.items.getD j it0).neg=true)∨(op=11∧repIt (q.items.getD j it0)=false)then 76 else
     if res=true∧bareO op=true∧((q.items.getD j it0).neg=true∨repIt (q.items.getD j it0)=true)then 76 else 0:=by
    unfold mentE
    simp only[hix2.1,Int.toNat_natCast]
    rw[if_neg hb,if_neg (by omega)]
   generalize q.items.getD j it0=it at *
   obtain⟨ng,types,ivar,lo,hi⟩:=it
   simp only[]at c0 c1 c2 c3 c4 e6 hty g6 hME
   simp only[ii,ss,bv]at c0 c1 c2 c3 c4
   have hrp:repIt ⟨ng,types,ivar,lo,hi⟩=(!ng&&decide (1<hi)):=rfl
   generalize hrpg:repIt ⟨ng,types,ivar,lo,hi⟩=rp at *
   refine awp_cut 6 _ _ (R:=fun s=>s.e 4=bv res∧s.e 5=.p n 0 0∧s.e 8=.p (n+2) 0 0∧s.e 13=.p (n+3) 0 0∧s.e 14=bv rp∧agree n (roH h) s.h∧s.h n=some ⟨[x],0,true,1⟩∧s.h (n+2)=some ⟨[ii op,ii num,ss var,ss attr,ii na,ii nb],0,true,6⟩∧s.h (n+3)=some ⟨[bv ng,ty,ss ivar,ii lo,ii hi],0,true,5⟩) ?_ fun y1 h1 n1 hh => ?_
   ·rcases hb' with hbx|hbx<;>cases hby:bareO op<;>cases ng<;>by_cases hhi:1<hi<;>simp[evx,hdC,Tryz.f103,q0,q1,q2,q3,q4,ii,ss,bv,t4,s4,o2,o3,tbMent,g85,g86,pure1,deI,hbx,hby,zm0,zm1,zm2,hmr,hok,hf,hlt,hro,zi0,zi1,zi2,c0,c1,c2,c3,c4,hw1,u4,hhi,hrp]<;>simp[agree_up,agree_refl]
   obtain⟨q4,q5,q8,q13,q14,hag,hb0,hb2,hb3⟩:=hh
   simp only[ii,ss,bv]at q4 q5 q8 q13 q14 hag hb0 hb2 hb3
   have hop5:(op=5∧aggO op=true∧bareO op=false∧op≠11)∨(op=11∧bareO op=true∧aggO op=false)∨(op≠5∧op≠11∧bareO op=true∧aggO op=false)∨(op≠5∧op≠11∧bareO op=false∧aggO op=true):=by
    simp only[bareO,aggO,decide_eq_true_eq,decide_eq_false_iff_not]at hb' ⊢
    omega
   rw[hME]
   clear hME
   rcases hop5 with ⟨rfl,d1,d2,d3⟩|⟨rfl,d1,d2⟩|⟨d0,d3,d1,d2⟩|⟨d0,d3,d1,d2⟩
   ·cases ng<;>cases hA:hasA sc ⟨_,types,ivar,lo,hi⟩ attr<;>cases rp<;>cases res<;>simp[evx,tlC,Tryz.f103,q4,q5,q8,q13,q14,hb0,hb2,hb3,hA,d1,d2,ii,bv,tbMent,g85,g86,pure1,deI,GHas,pureH,de3,rSc,rIt,rG,dIt,deItc,rS,deS,g1,g6,hag,hsc,hty]
   ·cases ng<;>cases hA:hasA sc ⟨_,types,ivar,lo,hi⟩ attr<;>cases rp<;>cases res<;>simp[evx,tlC,Tryz.f103,q4,q5,q8,q13,q14,hb0,hb2,hb3,hA,d1,d2,ii,bv,tbMent,g85,g86,pure1,deI,GHas,pureH,de3,rSc,rIt,rG,dIt,deItc,rS,deS,g1,g6,hag,hsc,hty]
   ·cases ng<;>cases hA:hasA sc ⟨_,types,ivar,lo,hi⟩ attr<;>cases rp<;>cases res<;>simp[evx,tlC,Tryz.f103,q4,q5,q8,q13,q14,hb0,hb2,hb3,hA,d0,d3,d1,d2,ii,bv,tbMent,g85,g86,pure1,deI,GHas,pureH,de3,rSc,rIt,rG,dIt,deItc,rS,deS,g1,g6,hag,hsc,hty]
   ·cases ng<;>cases hA:hasA sc ⟨_,types,ivar,lo,hi⟩ attr<;>cases rp<;>cases res<;>simp[evx,tlC,Tryz.f103,q4,q5,q8,q13,q14,hb0,hb2,hb3,hA,d0,d3,d1,d2,ii,bv,tbMent,g85,g86,pure1,deI,GHas,pureH,de3,rSc,rIt,rG,dIt,deItc,rS,deS,g1,g6,hag,hsc,hty]
 exact key _ rfl rfl rfl rfl rfl
end
end
theorem ldcs_6 (X:Ctx) (h:Heap) (a:AV):ldcs X h a 0 6=[ldc X h a 0,ldc X h a 1,ldc X h a 2,ldc X h a 3,ldc X h a 4,ldc X h a 5]:=rfl
def rAt {α:Type} (r:Rdr α):Rdr α where
 run h a:=match a with
  | .p id ver 0=>(h id).bind fun k=>if k.ver=ver then r.run h (.g k.cells)else none
  | _=>none
 sim {h h' a x} hh e:=by
  split at e
  ·rename_i id ver
   simp only[Option.bind_eq_some_iff]at e
   obtain⟨k,hk,e⟩:=e
   obtain⟨k',h1,h2,h3⟩:=hh _ _ hk
   split at e
   ·rename_i hv
    simp only[h1,Option.bind_some,h3,h2,hv,if_true]
    exact r.sim hh e
   ·cases e
  ·cases e
theorem rAt_out {α:Type} {r:Rdr α} {h:Heap} {a:AV} {x:α} (e:(rAt r).run h a=some x):∃id k,a=.p id k.ver 0∧h id=some k∧r.run h (.g k.cells)=some x:=by
 simp only[rAt]at e
 split at e
 ·simp only[Option.bind_eq_some_iff]at e
  obtain⟨k,hk,e⟩:=e
  split at e
  ·rename_i hv
   exact⟨_,k,by rw[hv],hk,e⟩
  ·cases e
 ·cases e
theorem rAt_in {α:Type} {r:Rdr α} {h:Heap} {id:Nat} {k:Blk} {x:α} (hk:h id=some k) (e:r.run h (.g k.cells)=some x):(rAt r).run h (.p id k.ver 0)=some x:=by
 simp only[rAt,hk,Option.bind_some,if_true,e]
def rC {α:Type} (r:Rdr α):Rdr α where
 run h a:=match a with
  | .g [c]=>r.run h c
  | _=>none
 sim {h h' a x} hh e:=by
  split at e
  ·exact r.sim hh e
  ·cases e
theorem rC_out {α:Type} {r:Rdr α} {h:Heap} {a:AV} {x:α} (e:(rC r).run h a=some x):∃c,a=.g [c]∧r.run h c=some x:=by
 simp only[rC]at e
 split at e
 ·exact⟨_,rfl,e⟩
 ·cases e
abbrev Ask:=List Ty×Qu×List AV
def rAsk:Rdr Ask where
 run h a:=match a with
  | .f (.func 102) [] l=>de3 (rAt rSc) (rAt rQ) (rAt (rC rM)) h l
  | _=>none
 sim {h h' a x} hh e:=by
  split at e
  ·obtain⟨a,b,c,rfl,e1,e2,e3⟩:=de3_out e
   simp only[de3,(rAt rSc).sim hh e1,(rAt rQ).sim hh e2,(rAt (rC rM)).sim hh e3,Option.bind_some,Option.map_some]
  ·cases e
theorem rAsk_out {h:Heap} {a:AV} {x:Ask} (e:rAsk.run h a=some x):∃p1 p2 p3,a=.f (.func 102) [] [p1,p2,p3]∧(rAt rSc).run h p1=some x.1∧(rAt rQ).run h p2=some x.2.1∧(rAt (rC rM)).run h p3=some x.2.2:=by
 simp only[rAsk]at e
 split at e
 ·obtain⟨a,b,c,rfl,e1,e2,e3⟩:=de3_out e
  exact⟨a,b,c,rfl,e1,e2,e3⟩
 ·cases e
def rFn:Rdr (Bool×Ask) where
 run h a:=match a with
  | .f (.func 155) [] [p]=>((rAt (rC rAsk)).run h p).map fun x=>(false,x)
  | .f (.func 158) [] [p]=>((rAt (rC rAsk)).run h p).map fun x=>(true,x)
  | _=>none
 sim {h h' a x} hh e:=by
  split at e
  ·simp only[Option.map_eq_some_iff]at e ⊢
   obtain⟨y,e1,e2⟩:=e
   exact⟨y,(rAt (rC rAsk)).sim hh e1,e2⟩
  ·simp only[Option.map_eq_some_iff]at e ⊢
   obtain⟨y,e1,e2⟩:=e
   exact⟨y,(rAt (rC rAsk)).sim hh e1,e2⟩
  ·cases e
theorem rFn_out {h:Heap} {a:AV} {x:Bool×Ask} (e:rFn.run h a=some x):∃p,a=.f (.func (if x.1=true then 158 else 155)) [] [p]∧(rAt (rC rAsk)).run h p=some x.2:=by
 simp only[rFn]at e
 split at e
 ·simp only[Option.map_eq_some_iff]at e
  obtain⟨y,e1,rfl⟩:=e
  exact⟨_,rfl,e1⟩
 ·simp only[Option.map_eq_some_iff]at e
  obtain⟨y,e1,rfl⟩:=e
  exact⟨_,rfl,e1⟩
 ·cases e
def okAsk (x:Ask):Prop:=smallS x.1∧QuSm x.2.1∧isM (ixM (vars x.2.1.items)) x.2.2
def G102:=pureH (de5 rN rB (rAt rSc) (rAt rQ) (rAt (rC rM))) (fun q=>okAsk q.2.2) fun q=>ii (mentE q.2.2.1 q.2.2.2.1 q.2.1 q.1)
def tb102':List (FuncId×(List AV→Heap→PRes)):=[(103,GMent)]
def G155 (b:Bool):=pureH (de2 rN (rAt (rC rAsk))) (fun q=>okAsk q.2) fun q=>ii (mentE q.2.1 q.2.2.1 b q.1)
section
theorem P102:P0 [] 102 G102:=by
 refine mkH 5 (S:=[]) (l:=tb102') (tb_cons P103 tb_nil) Tryz.func102 rfl (by kernel_rfl) de5_mono de5_len (fun a=>rfl) (fun args q h n e hp hn => ?_)
 obtain⟨d,f,p1,p2,p3,rfl,e1,e2,e3,e4,e5⟩:=de5_out e
 obtain⟨nd,res,sc,q,cs⟩:=q
 obtain⟨hsc,hq,hM⟩:=hp
 simp only[]at e1 e2 e3 e4 e5 hsc hq hM ⊢
 have:=rN_out e1;subst this
 have:=rB_out e2;subst this
 obtain⟨i1,k1,rfl,hk1,f1⟩:=rAt_out e3
 obtain⟨i2,k2,rfl,hk2,f2⟩:=rAt_out e4
 obtain⟨i3,k3,rfl,hk3,f3⟩:=rAt_out e5
 have f1:deSc h (.g k1.cells)=some sc:=f1
 have f2:deQ h (.g k2.cells)=some q:=f2
 obtain⟨c3,hc3,f3⟩:=rC_out f3
 have g1:=sc_agree hn f1
 have g2:=q_agree hn f2
 have g3:=Rdr.agree rM hn f3
 obtain⟨x,hx,ex⟩:=deSc_out f1
 obtain⟨a,b,c,hy,x2,x3,x4⟩:=deQ_out f2
 simp only[AV.g.injEq]at hx hy hc3
 rw[hx]at g1
 rw[hy]at g2
 have z1:=lt_of hk1 hn
 have z2:=lt_of hk2 hn
 have z3:=lt_of hk3 hn
 have r1:=ro_at hk1
 have r2:=ro_at hk2
 have r3:=ro_at hk3
 rw[hx]at r1
 rw[hy]at r2
 rw[hc3]at r3
 have t3:=(sl_is ex).2.2.1
 have s3:=(sl_is x2).2.2.1
 have o2:=(sl_is x3).2.2.1
 have o3:=(sl_is x4).2.2.1
 obtain⟨im,km,rfl,hkm,hcs⟩:=rM_out f3
 simp only[ii,ss]at r2 g2
 have y1:¬i1=n:=by omega
 have y2:¬i2=n:=by omega
 have y3:¬i3=n:=by omega
 obtain⟨op,num,var,attr,na,nb⟩:=nd
 have hag:agree n (roH h) (up (roH h) n (some ⟨[.v (.int .i64 op),.v (.int .i64 num),.v (.string var),.v (.string attr),.v (.int .i64 na),.v (.int .i64 nb)],0,true,6⟩)):=by simp[agree_up,agree_refl]
 have key:∀e:Nat→AV,e 0=.g [ii op,ii num,ss var,ss attr,ii na,ii nb]→e 1=bv res→e 2=.p i1 k1.ver 0→e 3=.p i2 k2.ver 0→e 4=.p i3 k3.ver 0→awp (cx [] (pfL tb102')) (Tryz.f102.body.getD .skip) (finQ (cx [] (pfL tb102')) Tryz.f102 fun z _ _=>z=ii (mentE sc q res ⟨op,num,var,attr,na,nb⟩)) ⟨e,roH h,n⟩:=fun e q0 q1 q2 q3 q4=>by
  simp[evx,ldcs_6,Tryz.f102,q0,q1,q2,q3,q4,ii,ss,bv,r1,r2,r3,y1,y2,y3,tb102',GMent,pureH,de5,de4,rSc,rQ,rN,deN,deNc,rB,deB,g1 _ hag,g2 _ hag,g3 _ hag,okMent,hsc,hq,hM]
 exact key _ rfl rfl rfl rfl rfl
theorem c102 {S:List Nat} {pf:FuncId→Option (List AV→Heap→PRes)} {h:Heap} {n:Nat} {nd:Nd} {res:Bool} {p1 p2 p3:AV} {x:Ask} (e1:(rAt rSc).run h p1=some x.1) (e2:(rAt rQ).run h p2=some x.2.1) (e3:(rAt (rC rM)).run h p3=some x.2.2) (ok:okAsk x) :
  ACall (cx S pf) 102 [nn nd,bv res,p1,p2,p3] h n fun v h' n'=>v=ii (mentE x.1 x.2.1 res nd)∧h'=h∧n'=n:=by
 have hd:de5 rN rB (rAt rSc) (rAt rQ) (rAt (rC rM)) h [nn nd,bv res,p1,p2,p3]=some (nd,res,x.1,x.2.1,x.2.2):=by
  simp only[de5,de4,rN,rB,nn,ncells,ii,ss,bv,deN,deNc,deB,Option.bind_some,e1,e2,e3,Option.map_some]
 have hg:G102 [nn nd,bv res,p1,p2,p3] h=⟨okAsk x,ii (mentE x.1 x.2.1 res nd)⟩:=by simp only[G102,pureH,hd]
 refine (acall_of_pure (S:=S) (pf:=pf) (n:=n) (S0:=[]) (by simp) P102 Tryz.func102 rfl rfl (show (G102 [nn nd,bv res,p1,p2,p3] h).side by rw[hg];exact ok)).mono fun v h' n' ⟨h1,h2,h3⟩=>⟨by rw[h1,hg],h2,h3⟩
theorem P155:P0 [] 155 (G155 false):=by
 refine mkH 2 (S:=[]) (l:=[]) tb_nil Tryz.func155 rfl (by kernel_rfl) de2_mono de2_len (fun a=>rfl) (fun args q h n e hp hn => ?_)
 obtain⟨d,p,rfl,e1,e2⟩:=de2_out e
 obtain⟨nd,x⟩:=q
 simp only[]at e1 e2 hp ⊢
 have:=rN_out e1;subst this
 obtain⟨id,k,rfl,hk,f1⟩:=rAt_out e2
 obtain⟨c,hc,f2⟩:=rC_out f1
 simp only[AV.g.injEq]at hc
 obtain⟨p1,p2,p3,rfl,g1,g2,g3⟩:=rAsk_out f2
 have hr:=ro_at hk
 rw[hc]at hr
 have y1:¬id=n:=by have:=lt_of hk hn;omega
 obtain⟨op,num,var,attr,na,nb⟩:=nd
 have hag:agree n (roH h) (up (roH h) n (some ⟨[.v (.int .i64 op),.v (.int .i64 num),.v (.string var),.v (.string attr),.v (.int .i64 na),.v (.int .i64 nb)],0,true,6⟩)):=by simp[agree_up,agree_refl]
 have key:∀e:Nat→AV,e 0=.g [ii op,ii num,ss var,ss attr,ii na,ii nb]→e 1=.p id k.ver 0→awp (cx [] (pfL [])) (Tryz.f155.body.getD .skip) (finQ (cx [] (pfL [])) Tryz.f155 fun z _ _=>z=ii (mentE x.1 x.2.1 false ⟨op,num,var,attr,na,nb⟩)) ⟨e,roH h,n⟩:=fun e q0 q1=>by
  simp[evx,ldcs_6,Tryz.f155,q0,q1,ii,ss,hr,y1]
  have K:=c102 (S:=[]) (pf:=pfL []) (n:=n+1) (nd:=⟨op,num,var,attr,na,nb⟩) (res:=false) ((rAt rSc).agree hn g1 _ hag) ((rAt rQ).agree hn g2 _ hag) ((rAt (rC rM)).agree hn g3 _ hag) hp
  simp only[nn,ncells,ii,ss,bv]at K
  refine K.mono ?_
  rintro v h2 n2 ⟨rfl,rfl,rfl⟩
  simp[]
 exact key _ rfl rfl
theorem P158:P0 [] 158 (G155 true):=by
 refine mkH 2 (S:=[]) (l:=[]) tb_nil Tryz.func158 rfl (by kernel_rfl) de2_mono de2_len (fun a=>rfl) (fun args q h n e hp hn => ?_)
 obtain⟨d,p,rfl,e1,e2⟩:=de2_out e
 obtain⟨nd,x⟩:=q
 simp only[]at e1 e2 hp ⊢
 have:=rN_out e1;subst this
 obtain⟨id,k,rfl,hk,f1⟩:=rAt_out e2
 obtain⟨c,hc,f2⟩:=rC_out f1
 simp only[AV.g.injEq]at hc
 obtain⟨p1,p2,p3,rfl,g1,g2,g3⟩:=rAsk_out f2
 have hr:=ro_at hk
 rw[hc]at hr
 have y1:¬id=n:=by have:=lt_of hk hn;omega
 obtain⟨op,num,var,attr,na,nb⟩:=nd
 have hag:agree n (roH h) (up (roH h) n (some ⟨[.v (.int .i64 op),.v (.int .i64 num),.v (.string var),.v (.string attr),.v (.int .i64 na),.v (.int .i64 nb)],0,true,6⟩)):=by simp[agree_up,agree_refl]
 have key:∀e:Nat→AV,e 0=.g [ii op,ii num,ss var,ss attr,ii na,ii nb]→e 1=.p id k.ver 0→awp (cx [] (pfL [])) (Tryz.f158.body.getD .skip) (finQ (cx [] (pfL [])) Tryz.f158 fun z _ _=>z=ii (mentE x.1 x.2.1 true ⟨op,num,var,attr,na,nb⟩)) ⟨e,roH h,n⟩:=fun e q0 q1=>by
  simp[evx,ldcs_6,Tryz.f158,q0,q1,ii,ss,hr,y1]
  have K:=c102 (S:=[]) (pf:=pfL []) (n:=n+1) (nd:=⟨op,num,var,attr,na,nb⟩) (res:=true) ((rAt rSc).agree hn g1 _ hag) ((rAt rQ).agree hn g2 _ hag) ((rAt (rC rM)).agree hn g3 _ hag) hp
  simp only[nn,ncells,ii,ss,bv]at K
  refine K.mono ?_
  rintro v h2 n2 ⟨rfl,rfl,rfl⟩
  simp[]
 exact key _ rfl rfl
theorem cFn {S:List Nat} {pf:FuncId→Option (List AV→Heap→PRes)} {h:Heap} {n:Nat} {nd:Nd} {p:AV} {x:Bool×Ask} (e:(rAt (rC rAsk)).run h p=some x.2) (ok:okAsk x.2) :
  ACall (cx S pf) (if x.1=true then 158 else 155) [nn nd,p] h n fun v h' n'=>v=ii (mentE x.2.1 x.2.2.1 x.1 nd)∧h'=h∧n'=n:=by
 obtain⟨b,x⟩:=x
 simp only[]at e ok ⊢
 have hd:de2 rN (rAt (rC rAsk)) h [nn nd,p]=some (nd,x):=by
  simp only[de2,rN,nn,ncells,ii,ss,deN,deNc,Option.bind_some,e,Option.map_some]
 have hg:∀b,G155 b [nn nd,p] h=⟨okAsk x,ii (mentE x.1 x.2.1 b nd)⟩:=fun b=>by simp only[G155,pureH,hd]
 cases b with
 | false=>exact (acall_of_pure (S:=S) (pf:=pf) (n:=n) (S0:=[]) (by simp) P155 Tryz.func155 rfl rfl (show (G155 false [nn nd,p] h).side by rw[hg];exact ok)).mono fun v h' n' ⟨h1,h2,h3⟩=>⟨by rw[h1,hg],h2,h3⟩
 | true=>exact (acall_of_pure (S:=S) (pf:=pf) (n:=n) (S0:=[]) (by simp) P158 Tryz.func158 rfl rfl (show (G155 true [nn nd,p] h).side by rw[hg];exact ok)).mono fun v h' n' ⟨h1,h2,h3⟩=>⟨by rw[h1,hg],h2,h3⟩
end
def GIx:=pureH dePl (fun q=>q.1.length<big) fun q=>ii (ixOf q.1 q.2)
theorem P160:P0 [] 160 GIx:=by
 refine mkH 2 (S:=[]) (l:=[]) tb_nil Tryz.func160 rfl (by kernel_rfl) dePl_mono (fun h l x e=>by obtain⟨a,rfl,_⟩:=dePl_out e;exact Nat.le_refl _) (fun a=>rfl) (fun args q h n e hp hn => ?_)
 obtain⟨a,rfl,e2⟩:=dePl_out e
 obtain⟨l,v⟩:=q
 simp only[]at e2 hp ⊢
 obtain⟨s1,s2,s3,s4,s5⟩:=sl_is e2
 have hgv:∀j (hj:j<l.length),l.getD j ByteArray.empty=l[j]:=fun j hj=>by rw[List.getD_eq_getElem?_getD,List.getElem?_eq_getElem hj];rfl
 have key:∀e:Nat→AV,e 0=a→e 1=ss v→awp (cx [] (pfL [])) (Tryz.f160.body.getD .skip) (finQ (cx [] (pfL [])) Tryz.f160 fun z _ _=>z=ii (ixOf l v)) ⟨e,roH h,n⟩:=fun e q0 q1=>by
  simp[evx,Tryz.f160,q0,ii,s1,s2]
  refine awp_loop (fun s=>∃j:Nat,j≤l.length∧s.e 0=a∧s.e 1=ss v∧s.e 7=ii l.length∧s.e 8=ii j∧s.h=roH h∧∀i,i<j→(l.getD i ByteArray.empty==v)=false) (fun s=>l.length-(s.e 8).i.toNat) ⟨0,by simp[up,q0,q1,ii,ss]⟩ ?_
  rintro e' h' n' ⟨j,hj,q0,q1,q7,q8,hh,hno⟩
  simp only[]at q0 q1 q7 q8 hh
  subst hh
  by_cases hlt:j<l.length
  ·rcases ss_at e2 with ⟨h0,_⟩|⟨id,off,k,rfl,hk,ho,hat⟩
   ·rw[h0]at hlt;simp at hlt
   have hr:=hat j hlt
   have ha':=ro_at hk
   have hw:=wrap_nat (j:=j) (by omega)
   have hw1:off+(j+1)≤k.cells.length:=by omega
   have hgj:=hgv j hlt
   generalize l[j]=y at *
   have hsw:(v==y)=(y==v):=by rw[ba_dec,ba_dec];exact decide_eq_decide.2 eq_comm
   cases hy:(y==v)with
   | true =>
    have hf:=fi_hit (v:=v) hlt hno (by rw[hgj];exact hy)
    have h1:ixOf l v=(j:Int):=by rw[ixOf,hf,if_pos hlt]
    simp[evx,q0,q1,q7,q8,ii,ss,hlt,ha',hr,hw1,hsw,hy,h1]
   | false =>
    simp[evx,q0,q1,q7,q8,ii,ss,hlt,ha',hr,hw1,hsw,hy,hw]
    refine⟨⟨j+1,by omega,by omega,fun i hi => ?_⟩,by omega⟩
    by_cases e:i=j
    ·subst e;rw[←List.getD_eq_getElem?_getD,hgj];exact hy
    ·have:=hno i (by omega);rwa [List.getD_eq_getElem?_getD]at this
  ·obtain rfl:j=l.length:=by omega
   have hf:=fi_none (v:=v) (l:=l) hno
   have h1:ixOf l v=-1:=by rw[ixOf,hf,if_neg (by omega)]
   simp[evx,q7,q8,ii,h1]
 exact key _ rfl rfl
theorem ix_any (l:List ByteArray) (v:ByteArray):decide (0≤ixOf l v)=l.any fun z=>z==v:=by
 unfold ixOf
 by_cases h:l.findIdx (· == v)<l.length
 ·rw[if_pos h]
  have h2:=List.findIdx_lt_length.1 h
  obtain⟨x,hx,he⟩:=h2
  have:(l.any fun z=>z==v)=true:=List.any_eq_true.2 ⟨x,hx,he⟩
  rw[this]
  exact decide_eq_true (Int.natCast_nonneg _)
 ·rw[if_neg h]
  have:(l.any fun z=>z==v)=false:=by
   rw[List.any_eq_false]
   intro x hx he
   exact h (List.findIdx_lt_length.2 ⟨x,hx,he⟩)
  rw[this]
  decide
def GHasS:=pureH dePl (fun q=>q.1.length<big) fun q=>bv (q.1.any fun z=>z==q.2)
def tp115:List (FuncId×(List AV→Heap→PRes)):=[(160,GIx)]
theorem P115:P0 [] 115 GHasS:=by
 refine mkH 2 (S:=[]) (l:=tp115) (tb_cons P160 tb_nil) Tryz.func115 rfl (by kernel_rfl) dePl_mono (fun h l x e=>by obtain⟨a,rfl,_⟩:=dePl_out e;exact Nat.le_refl _) (fun a=>rfl) (fun args q h n e hp hn => ?_)
 obtain⟨a,rfl,e2⟩:=dePl_out e
 obtain⟨l,v⟩:=q
 simp only[]at e2 hp ⊢
 obtain⟨s1,s2,s3,s4,s5⟩:=sl_is e2
 have g1:rd dSs (roH h) a=some l:=rd_agree hn e2 _ (agree_refl _ _)
 have hx:=ix_any l v
 have key:∀e:Nat→AV,e 0=a→e 1=ss v→awp (cx [] (pfL tp115)) (Tryz.f115.body.getD .skip) (finQ (cx [] (pfL tp115)) Tryz.f115 fun z _ _=>z=bv (l.any fun z=>z==v)) ⟨e,roH h,n⟩:=fun e q0 q1=>by
  rw[←hx]
  simp[evx,Tryz.f115,q0,q1,ii,ss,bv,tp115,GIx,pureH,dePl,g1,hp]
 exact key _ rfl rfl
def rTyP:Rdr Ty:=rAt (rG dTy)
theorem rTyP_out {h:Heap} {a:AV} {x:Ty} (e:rTyP.run h a=some x):∃id k c,a=.p id k.ver 0∧h id=some k∧k.cells=[ss x.name,c]∧rd dSs h c=some x.attrs:=by
 obtain⟨id,k,rfl,hk,e1⟩:=rAt_out e
 obtain⟨l,e2,e3⟩:=rG_out e1
 cases e2
 obtain⟨c,e4,e5⟩:=deTyc_out e3
 exact⟨id,k,c,rfl,hk,e4,e5⟩
def G114:=pureH (de2 rIt rTyP) (fun q=>q.1.types.length<big) fun q=>bv (q.1.types.any fun z=>z==q.2.name)
def tp114:List (FuncId×(List AV→Heap→PRes)):=[(115,GHasS)]
theorem P114:P0 [] 114 G114:=by
 refine mkH 2 (S:=[]) (l:=tp114) (tb_cons P115 tb_nil) Tryz.func114 rfl (by kernel_rfl) de2_mono de2_len (fun a=>rfl) (fun args q h n e hp hn => ?_)
 obtain⟨x,b,rfl,e1,e2⟩:=de2_out e
 obtain⟨it,t⟩:=q
 simp only[]at e1 e2 hp ⊢
 obtain⟨ty,rfl,e3⟩:=rIt_out e1
 obtain⟨id,k,c,rfl,hk,hc,e4⟩:=rTyP_out e2
 obtain⟨s1,s2,s3,s4,s5⟩:=sl_is e3
 have hid:=lt_of hk hn
 have hne:¬id=n:=by omega
 have hk':=ro_at hk
 have g1:∀h',agree n (roH h) h'→rd dSs h' ty=some it.types:=fun h' ha=>rd_agree hn e3 _ ha
 have key:∀e:Nat→AV,e 0=.g [bv it.neg,ty,ss it.var,ii it.lo,ii it.hi]→e 1=.p id k.ver 0→awp (cx [] (pfL tp114)) (Tryz.f114.body.getD .skip) (finQ (cx [] (pfL tp114)) Tryz.f114 fun z _ _=>z=bv (it.types.any fun z=>z==t.name)) ⟨e,roH h,n⟩:=fun e q0 q1=>by
  simp[evx,Tryz.f114,q0,q1,ii,ss,bv,s4,hne,hk',hc,tp114,GHasS,pureH,dePl,g1,agree_up,agree_refl,hp]
 exact key _ rfl rfl
def rUs:Rdr Ty where
 run h a:=match a with
  | .f (.func 114) [] [p]=>rTyP.run h p
  | _=>none
 sim {h h' a x} hh e:=by
  split at e
  ·exact rTyP.sim hh e
  ·cases e
theorem rUs_out {h:Heap} {a:AV} {x:Ty} (e:rUs.run h a=some x):∃p,a=.f (.func 114) [] [p]∧rTyP.run h p=some x:=by
 simp only[rUs]at e
 split at e
 ·exact⟨_,rfl,e⟩
 ·cases e
def uses1 (t:Ty) (it:It):Bool:=it.types.any fun z=>z==t.name
def fiU (t:Ty) (l:List It):Int:=if l.findIdx (uses1 t)<l.length then l.findIdx (uses1 t)else -1
theorem fiU_any (t:Ty) (l:List It):decide (0≤fiU t l)=l.any (uses1 t):=by
 unfold fiU
 by_cases h:l.findIdx (uses1 t)<l.length
 ·rw[if_pos h]
  obtain⟨x,hx,he⟩:=List.findIdx_lt_length.1 h
  have:(l.any (uses1 t))=true:=List.any_eq_true.2 ⟨x,hx,he⟩
  rw[this]
  exact decide_eq_true (Int.natCast_nonneg _)
 ·rw[if_neg h]
  have:(l.any (uses1 t))=false:=by
   rw[List.any_eq_false]
   intro x hx he
   exact h (List.findIdx_lt_length.2 ⟨x,hx,he⟩)
  rw[this]
  decide
def okUs (q:List It×Ty):Prop:=q.1.length<big∧∀it∈q.1,it.types.length<big
def GIxU:=pureH (de2 (rL dIts) rUs) okUs fun q=>ii (fiU q.2 q.1)
theorem P159:P0 [] 159 GIxU:=by
 refine mkH 2 (S:=[]) (l:=[]) tb_nil Tryz.func159 rfl (by kernel_rfl) de2_mono de2_len (fun a=>rfl) (fun args q h n e hp hn => ?_)
 obtain⟨x,b,rfl,e1,e2⟩:=de2_out e
 obtain⟨l,t⟩:=q
 obtain⟨hp1,hp2⟩:=hp
 simp only[]at e2 hp1 hp2 ⊢
 replace e1:rd dIts h x=some l:=e1
 obtain⟨p,rfl,e3⟩:=rUs_out e2
 obtain⟨s1,s2,s3,s4,s5⟩:=sl_is e1
 have g3:=fun h' ha=>rTyP.agree hn e3 h' ha
 have key:∀e:Nat→AV,e 0=x→e 1=.f (.func 114) [] [p]→awp (cx [] (pfL [])) (Tryz.f159.body.getD .skip) (finQ (cx [] (pfL [])) Tryz.f159 fun z _ _=>z=ii (fiU t l)) ⟨e,roH h,n⟩:=fun e q0 q1=>by
  simp[evx,Tryz.f159,q0,ii,s1,s2]
  refine awp_loop (fun s=>∃j:Nat,j≤l.length∧s.e 0=x∧s.e 1=.f (.func 114) [] [p]∧s.e 7=ii l.length∧s.e 8=ii j∧agree n (roH h) s.h∧n≤s.n∧Fresh s.n s.h∧∀i,i<j→uses1 t (l.getD i it0)=false) (fun s=>l.length-(s.e 8).i.toNat) ⟨0,by omega,by simp[up,q0],by simp[up,q1],by simp[up,ii],by simp[up,ii],agree_refl _ _,Nat.le_refl _,fun i hi=>by simp only[roH,hn i hi];rfl,fun i hi=>by omega⟩ ?_
  rintro e' h' n' ⟨j,hj,q0,q1,q7,q8,hag,hnn,hfr,hno⟩
  simp only[]at q0 q1 q7 q8 hag hnn hfr
  by_cases hlt:j<l.length
  ·obtain⟨id,off,k,ty,y1,y2,y3,y4,y5,y6,y7,y8,y9⟩:=its_cell e1 hlt
   have ha':=agree_at hn y2 hag
   have hw:=wrap_nat (j:=j) (by omega)
   have hgj:l.getD j it0=l[j]:=by rw[List.getD_eq_getElem?_getD,List.getElem?_eq_getElem hlt];rfl
   have htl:=hp2 _ (List.getElem_mem hlt)
   generalize hit:l[j]=it at *
   have hG:G114 [.g [bv it.neg,ty,ss it.var,ii it.lo,ii it.hi],p] h'=⟨it.types.length<big,bv (uses1 t it)⟩:=by
    have r1:rIt.run h' (.g [bv it.neg,ty,ss it.var,ii it.lo,ii it.hi])=some it:=deItc_in (rd_agree hn y4 _ hag)
    simp only[G114,pureH,de2,r1,g3 h' hag,Option.bind_some,Option.map_some]
    rfl
   have hcall:=acall_of_pure (S:=[]) (pf:=pfL []) (n:=n') (S0:=[]) (by simp) P114 Tryz.func114 rfl rfl (show (G114 [.g [bv it.neg,ty,ss it.var,ii it.lo,ii it.hi],p] h').side by rw[hG];exact htl)
   rw[hG]at hcall
   simp only[bv,ii,ss]at hcall
   simp[evx,q0,q1,q7,q8,ii,ss,bv,hlt,ha',y1,y3,y5,y6,y7,y8,y9]
   refine (acall_any (S:=[]) (by simp) hcall).mono ?_
   rintro v h2 n2 ⟨rfl,rfl,rfl⟩
   refine⟨trivial,?_⟩
   cases hu:uses1 t it with
   | true =>
    have hf:l.findIdx (uses1 t)=j:=(List.findIdx_eq hlt).2 ⟨by rw[hit];exact hu,fun i hi=>by
     have:=hno i hi
     rwa [List.getD_eq_getElem?_getD,List.getElem?_eq_getElem (by omega)]at this⟩
    have h1:fiU t l=(j:Int):=by rw[fiU,hf,if_pos hlt]
    simp[AV.b,h1]
   | false =>
    simp only[AV.b,Bool.false_eq_true,if_false,hw]
    refine⟨⟨j+1,by omega,by simp,hag,hnn,hfr,fun i hi => ?_⟩,by omega⟩
    rw[←List.getD_eq_getElem?_getD]
    by_cases e:i=j
    ·subst e;rw[hgj];exact hu
    ·exact hno i (by omega)
  ·obtain rfl:j=l.length:=by omega
   have hf:l.findIdx (uses1 t)=l.length:=List.findIdx_eq_length.2 fun x hx=>by
    obtain⟨i,hi,rfl⟩:=List.mem_iff_getElem.1 hx
    have:=hno i hi
    rwa [List.getD_eq_getElem?_getD,List.getElem?_eq_getElem hi]at this
   have h1:fiU t l=-1:=by rw[fiU,hf,if_neg (by omega)]
   simp[evx,q7,q8,ii,h1]
 exact key _ rfl rfl
def GUs:=pureH (de2 (rL dIts) rUs) okUs fun q=>bv (q.1.any (uses1 q.2))
def tp113:List (FuncId×(List AV→Heap→PRes)):=[(159,GIxU)]
theorem P113u:P0 [] 113 GUs:=by
 refine mkH 2 (S:=[]) (l:=tp113) (tb_cons P159 tb_nil) Tryz.func113 rfl (by kernel_rfl) de2_mono de2_len (fun a=>rfl) (fun args q h n e hp hn => ?_)
 obtain⟨x,b,rfl,e1,e2⟩:=de2_out e
 obtain⟨l,t⟩:=q
 simp only[]at e2 hp ⊢
 replace e1:rd dIts h x=some l:=e1
 obtain⟨p,rfl,e3⟩:=rUs_out e2
 obtain⟨s1,s2,s3,s4,s5⟩:=sl_is e1
 have g1:(rL dIts).run (roH h) x=some l:=rd_agree hn e1 _ (agree_refl _ _)
 have g2:rUs.run (roH h) (.f (.func 114) [] [p])=some t:=rUs.agree hn e2 _ (agree_refl _ _)
 have hx:=fiU_any t l
 have key:∀e:Nat→AV,e 0=x→e 1=.f (.func 114) [] [p]→awp (cx [] (pfL tp113)) (Tryz.f113.body.getD .skip) (finQ (cx [] (pfL tp113)) Tryz.f113 fun z _ _=>z=bv (l.any (uses1 t))) ⟨e,roH h,n⟩:=fun e q0 q1=>by
  rw[←hx]
  simp[evx,Tryz.f113,q0,q1,ii,bv,tp113,GIxU,pureH,de2,g1,g2,hp]
 exact key _ rfl rfl
section
noncomputable def c58L:Code:=bodyL (tlC 1 (Tryz.f58.body.getD .skip))
noncomputable def c58B:Code:=inB (hdC 1 (tlC 2 c58L))
def tp58:List (FuncId×(List AV→Heap→PRes)):=[(113,GUs),(116,GAt)]
structure J58 (hB:Heap) (n1 bid mid:Nat) (T:Nat→Nat) (p:Pt) (P:Pl) (f:ByteArray→Option (Bool×Nat)) (j:Nat) (s:St):Prop where
 q2:s.e 2=.p bid 0 0
 q14:s.e 14=p.sa
 q15:s.e 15=ii P.sc.length
 q16:s.e 16=ii j
 bi:BI hB n1 bid mid T s.h s.n p P f
section
variable {hB:Heap} {n1 bid mid:Nat} {T:Nat→Nat} {p:Pt} {P:Pl} {f:ByteArray→Option (Bool×Nat)} {j:Nat}
theorem b58u {u:Bool} {c:Int} (hl:P.used.length≤1099511627776) (s:St) {Q} (J:J58 hB n1 bid mid T p P f j s) (q5:s.e 5=bv u) (q6:s.e 6=ii c) :
  awp (cx [] (pfL tp58)) (hdC 1 (tlC 4 c58B)) (thenQ (fun s'=>(∃T' p',J58 hB n1 bid mid T' p' {P with used:=P.used++[u]} f j s')∧s'.e 6=ii c) Q) s:=by
 obtain⟨e,h0,n0⟩:=s
 obtain⟨q2,q14,q15,q16,bi⟩:=J
 simp only[]at q2 q14 q15 q16 bi q5 q6
 obtain⟨lb,lm,nbm⟩:=bi.low
 obtain⟨cs,gl,gR⟩:=bi.us
 have x4:¬bid=n0+1:=by omega
 have x5:¬bid=n0:=by omega
 have hbb:=bi.bb
 rcases gl.at with ⟨ga,g0,rfl⟩|⟨id,ver,ga,gT,gh⟩
 ·simp[evx,hdC,tlC,c58B,c58L,inB,bodyL,Tryz.f58,q2,q5,hbb,bcells,ii,ss,bv,ga,x4,x5]
  have V:=Mv.three_nil (n':=n0+3) bi.s (k:=4) (by omega) ⟨[bv u],0,true,1⟩ ⟨[bv u],0,true,1⟩ ⟨bcells {p with ua:=.s (n0+1) 0 0 1} P mid,0,true,17⟩ (by omega)
  refine⟨⟨fun i=>if i=n0+1 then 4 else T i,{p with ua:=.s (n0+1) 0 0 1},by simp[up,q2],by simp[up,q14],by simp[up,q15],by simp[up,q16],bi.usapp V _ _ (up_same _ _ _) ?_⟩,by simpa[ii]using q6⟩
  have hne:P.used=[]:=List.length_eq_zero_iff.1 g0
  rw[hne]
  exact LR.app (xs:=[]) (cs:=[]) (ns:=[bv u]) (by simp) (by rfl) (if_pos rfl) (by rw[up_ne _ _ (Ne.symm x4),up_same];rfl) (fun i hi=>by simp at hi) rfl
 ·have y1:¬id=n0:=by have:=lt_of gh bi.s.fr;omega
  have y3:¬id=bid:=fun e=>by rw[e,bi.s.tb]at gT;cases gT
  have y4:¬bid=id:=fun e=>y3 e.symm
  have hcl:=gl.1
  have hcl1:=hcl
  simp only[Nat.mul_one]at hcl
  simp[evx,hdC,tlC,c58B,c58L,inB,bodyL,Tryz.f58,q2,q5,hbb,bcells,ii,ss,bv,ga,gh,x5,y1,y4,hcl]
  have V:=Mv.three (n':=n0+3) bi.s (k:=4) (by omega) gT (lt_of gh bi.s.fr) ⟨[bv u],0,true,1⟩ ⟨cs++[bv u],ver+1,true,1⟩ ⟨bcells {p with ua:=.s id (ver+1) 0 (P.used.length+1)} P mid,0,true,17⟩ (by omega)
  refine⟨⟨by omega,by omega⟩,⟨T,{p with ua:=.s id (ver+1) 0 (P.used.length+1)},by simp[up,q2],by simp[up,q14],by simp[up,q15],by simp[up,q16],bi.usapp V _ _ (up_same _ _ _) ?_⟩,by simpa[ii]using q6⟩
  exact LR.app (cs:=cs) (ns:=[bv u]) hcl1 (by rfl) gT (by rw[up_ne _ _ y3,up_same]) (fun i hi=>De.bool.mono (V.still bi.s.fr) (gR i hi)) rfl
theorem b58c {c:Int} (hl:P.cols.length≤1099511627776) (s:St) {Q} (J:J58 hB n1 bid mid T p P f j s) (q6:s.e 6=ii c) (hQ:∀s',(∃T' p',J58 hB n1 bid mid T' p' {P with cols:=P.cols++[c]} f j s')→Q .normal s') :
  awp (cx [] (pfL tp58)) (tlC 5 c58B) Q s:=by
 obtain⟨e,h0,n0⟩:=s
 obtain⟨q2,q14,q15,q16,bi⟩:=J
 simp only[]at q2 q14 q15 q16 bi q6
 obtain⟨lb,lm,nbm⟩:=bi.low
 obtain⟨cs,gl,gR⟩:=bi.cl
 have x4:¬bid=n0+1:=by omega
 have x5:¬bid=n0:=by omega
 have hbb:=bi.bb
 rcases gl.at with ⟨ga,g0,rfl⟩|⟨id,ver,ga,gT,gh⟩
 ·simp[evx,hdC,tlC,c58B,c58L,inB,bodyL,Tryz.f58,q2,q6,hbb,bcells,ii,ss,bv,ga,x4,x5]
  have V:=Mv.three_nil (n':=n0+3) bi.s (k:=5) (by omega) ⟨[ii c],0,true,1⟩ ⟨[ii c],0,true,1⟩ ⟨bcells {p with la:=.s (n0+1) 0 0 1} P mid,0,true,17⟩ (by omega)
  refine hQ _ ⟨fun i=>if i=n0+1 then 5 else T i,{p with la:=.s (n0+1) 0 0 1},by simp[up,q2],by simp[up,q14],by simp[up,q15],by simp[up,q16],bi.clapp V _ _ (up_same _ _ _) ?_⟩
  have hne:P.cols=[]:=List.length_eq_zero_iff.1 g0
  rw[hne]
  exact LR.app (xs:=[]) (cs:=[]) (ns:=[ii c]) (by simp) (by rfl) (if_pos rfl) (by rw[up_ne _ _ (Ne.symm x4),up_same];rfl) (fun i hi=>by simp at hi) rfl
 ·have y1:¬id=n0:=by have:=lt_of gh bi.s.fr;omega
  have y3:¬id=bid:=fun e=>by rw[e,bi.s.tb]at gT;cases gT
  have y4:¬bid=id:=fun e=>y3 e.symm
  have hcl:=gl.1
  have hcl1:=hcl
  simp only[Nat.mul_one]at hcl
  simp[evx,hdC,tlC,c58B,c58L,inB,bodyL,Tryz.f58,q2,q6,hbb,bcells,ii,ss,bv,ga,gh,x5,y1,y4,hcl]
  have V:=Mv.three (n':=n0+3) bi.s (k:=5) (by omega) gT (lt_of gh bi.s.fr) ⟨[ii c],0,true,1⟩ ⟨cs++[ii c],ver+1,true,1⟩ ⟨bcells {p with la:=.s id (ver+1) 0 (P.cols.length+1)} P mid,0,true,17⟩ (by omega)
  refine⟨⟨by omega,by omega⟩,hQ _ ⟨T,{p with la:=.s id (ver+1) 0 (P.cols.length+1)},by simp[up,q2],by simp[up,q14],by simp[up,q15],by simp[up,q16],bi.clapp V _ _ (up_same _ _ _) ?_⟩⟩
  exact LR.app (cs:=cs) (ns:=[ii c]) hcl1 (by rfl) gT (by rw[up_ne _ _ y3,up_same]) (fun i hi=>(De.int .i64).mono (V.still bi.s.fr) (gR i hi)) rfl
end
end
section
section
variable {hB:Heap} {n1 bid mid:Nat} {T:Nat→Nat} {p:Pt} {P:Pl} {f:ByteArray→Option (Bool×Nat)} {j:Nat}
theorem b58a (hsc:smallS P.sc) (hus:P.q.items.length<big∧∀it∈P.q.items,it.types.length<big) (hj:j<P.sc.length) (s:St) {Q} (J:J58 hB n1 bid mid T p P f j s) :
  awp (cx [] (pfL tp58)) (hdC 4 c58B) (thenQ (fun s=>J58 hB n1 bid mid T p P f j s∧s.e 5=bv (usedT P.sc P.q j)∧s.e 6=ii (colT P.sc P.q j)) Q) s:=by
 obtain⟨e,h0,n0⟩:=s
 obtain⟨q2,q14,q15,q16,bi⟩:=J
 simp only[]at q2 q14 q15 q16 bi
 obtain⟨lb,lm,nbm⟩:=bi.low
 obtain⟨a',b',c',e0,x1,x2,x3⟩:=deQ_out bi.s.qu
 cases e0
 rcases tys_at bi.s.sch with ⟨h9,_⟩|⟨id,off,k,y1,y2,y3,hat⟩
 ·rw[h9]at hj;simp at hj
 obtain⟨y4,c,y5,y6⟩:=hat j hj
 have y2':h0 id=some k:=still_le _ _ _ _ y2
 obtain⟨t1,t2,t3,t4,t5⟩:=sl_is y6
 have y3':off+(j*2+2)≤k.cells.length:=by omega
 have hg:P.sc.getD j ty0=P.sc[j]:=by rw[List.getD_eq_getElem?_getD,List.getElem?_eq_getElem hj];rfl
 have hU:usedT P.sc P.q j=P.q.items.any (uses1 P.sc[j]):=by unfold usedT;rw[hg];rfl
 have hC:colT P.sc P.q j=if P.q.items.any (uses1 P.sc[j])=true∧emB P.q.par=false then attrOf P.sc j P.q.par else -1:=by unfold colT;rw[hU]
 have hsm:=hsc.2 _ (List.getElem_mem hj)
 rw[hU,hC]
 generalize hty:P.sc[j]=ty at *
 refine awp_cut 1 _ _ (R:=fun s=>agree n0 h0 s.h∧Fresh s.n s.h∧n0≤s.n∧(∀i∈[2,14,15,16],s.e i=e i)∧s.e 3=ii j∧s.e 4=.p n0 0 0∧s.h n0=some ⟨[ss ty.name,c],0,true,2⟩∧n0<s.n) ?_ ?_
 ·simp[evx,hdC,c58B,c58L,inB,bodyL,tlC,Tryz.f58,q14,q16,ii,y1,hj,y2',y3',y4,y5,t4]
  exact⟨rfl,(agree_up (by omega) _).2 ((agree_up (by omega) _).2 (agree_refl _ _)),(fresh_up (by omega) _).2 ((fresh_up (by omega) _).2 (bi.s.fr.add 2))⟩
 ·rintro e1 h1 n2 ⟨ag,fr,nn,he,q3,q4,b4,nn2⟩
  simp only[]at ag fr nn he q3 q4 b4 nn2
  have hbb:h1 bid=some ⟨bcells p P mid,0,true,17⟩:=(ag _ lb).trans bi.bb
  have z2:=(he 2 (by simp)).trans q2
  have r1:rd dIts h1 p.qa=some P.q.items:=rd_agr bi.s.fr (rd_mono (still_le _ _) x1) _ ag
  have r2:rTyP.run h1 (.p n0 0 0)=some ty:=rAt_in (k:=⟨[ss ty.name,c],0,true,2⟩) b4 (deTyc_in (rd_agr bi.s.fr (rd_mono (still_le _ _) y6) _ ag))
  have r3:deSc h1 (.g [p.sa])=some P.sc:=rd_agr bi.s.fr (rd_mono (still_le _ _) bi.s.sch) _ ag
  have g1:GUs [p.qa,.f (.func 114) [] [.p n0 0 0]] h1=⟨okUs (P.q.items,ty),bv (P.q.items.any (uses1 ty))⟩:=by
   have k1:(rL dIts).run h1 p.qa=some P.q.items:=r1
   have k2:rUs.run h1 (.f (.func 114) [] [.p n0 0 0])=some ty:=r2
   simp only[GUs,pureH,de2,k1,k2,Option.bind_some,Option.map_some]
  have g2:okUs (P.q.items,ty):=hus
  have g3:GAt [.g [p.sa],ii j,ss P.q.par] h1=⟨smallS P.sc,ii (attrOf P.sc j P.q.par)⟩:=by
   simp only[GAt,pureH,deAt,ii,ss,r3,Option.map_some]
  have V:Mv (fun _=>False) T h0 n0 T h1 n2:=Mv.of_agree bi.s.tn (by omega) ag fr
  have bi':=bi.mv V
  simp only[ii,ss]at g3
  have fin:∀(e':Nat→AV),(∀i∈[2,14,15,16],e' i=e1 i)→J58 hB n1 bid mid T p P f j ⟨e',h1,n2⟩:=fun e' h=>⟨(h 2 (by simp)).trans z2,(h 14 (by simp)).trans ((he 14 (by simp)).trans q14),(h 15 (by simp)).trans ((he 15 (by simp)).trans q15),(h 16 (by simp)).trans ((he 16 (by simp)).trans q16),bi'⟩
  cases hu:P.q.items.any (uses1 ty)with
  | false =>
   rw[hu]at g1
   simp[evx,hdC,tlC,c58B,c58L,inB,bodyL,Tryz.f58,z2,q4,hbb,bcells,ii,ss,bv,tp58,g1,g2]
   exact fin _ (by simp[up])
  | true =>
   rw[hu]at g1
   cases hp:emB P.q.par with
   | true =>
    have hpar:(P.q.par != (⟨#[]⟩:ByteArray))=false:=by
     show (!(emB P.q.par))=_
     rw[hp];rfl
    simp[evx,hdC,tlC,c58B,c58L,inB,bodyL,Tryz.f58,z2,q4,hbb,bcells,ii,ss,bv,tp58,g1,g2,hpar]
    exact fin _ (by simp[up])
   | false =>
    have hpar:(P.q.par != (⟨#[]⟩:ByteArray))=true:=by
     show (!(emB P.q.par))=_
     rw[hp];rfl
    simp[evx,hdC,tlC,c58B,c58L,inB,bodyL,Tryz.f58,z2,q3,q4,hbb,bcells,ii,ss,bv,tp58,g1,g2,g3,hsc,hpar]
    exact fin _ (by simp[up])
end
end
section
def plT (sc:List Ty) (q:Qu) (j:Nat):Pl:={plJ sc q with used:=(List.range j).map (usedT sc q),cols:=(List.range j).map (colT sc q)}
theorem plT_succ (sc:List Ty) (q:Qu) (j:Nat):({ {plT sc q j with used:=(plT sc q j).used++[usedT sc q j]}with cols:=(plT sc q j).cols++[colT sc q j]}:Pl)=plT sc q (j+1):=by
 simp only[plT,List.range_succ,List.map_append,List.map_cons,List.map_nil]
theorem P116g:P0 [] 116 GAt:=P121
section
variable {hB:Heap} {n1 bid mid:Nat} {sc:List Ty} {q:Qu} {f:ByteArray→Option (Bool×Nat)}
theorem b58s (hsc:smallS sc) (hsl:sc.length≤1099511627776) (hus:q.items.length<big∧∀it∈q.items,it.types.length<big) {T:Nat→Nat} {p:Pt} {j:Nat} (hj:j<sc.length) (s:St) {Q} (J:J58 hB n1 bid mid T p (plT sc q j) f j s)
  (hQ:∀s',(∃T' p',J58 hB n1 bid mid T' p' (plT sc q (j+1)) f (j+1) s')→Q .normal s') :
  awp (cx [] (pfL tp58)) c58L Q s:=by
 have hul:(plT sc q j).used.length=j:=by simp[plT]
 have hcl:(plT sc q j).cols.length=j:=by simp[plT]
 refine awp_cut 2 _ _ (R:=fun s=>J58 hB n1 bid mid T p (plT sc q j) f j s) ?_ fun e2 h2 n2 J => ?_
 ·obtain⟨e,h0,n0⟩:=s
  obtain⟨q2,q14,q15,q16,bi⟩:=J
  simp only[]at q2 q14 q15 q16 bi
  have q15':e 15=ii sc.length:=q15
  simp[evx,tlC,c58L,bodyL,hdC,Tryz.f58,q15',q16,ii,hj]
  exact⟨by simp[up,q2],by simp[up,q14],by simp[up,q15],by simp[up,q16],bi⟩
 ·show awp (cx [] (pfL tp58)) (.seq (.block 1 c58B) (tlC 3 c58L)) Q _
  rw[awp_seq,awp_block]
  refine awp_cut 4 _ _ (b58a (P:=plT sc q j) hsc hus hj _ J) fun e3 h3 n3 ⟨J3,k5,k6⟩ => ?_
  refine awp_cut 1 _ _ (b58u (P:=plT sc q j) (by omega) _ J3 k5 k6) fun e4 h4 n4 ⟨⟨T4,p4,J4⟩,k6'⟩ => ?_
  refine b58c (P:={plT sc q j with used:=(plT sc q j).used++[usedT sc q j]}) (by show (plT sc q j).cols.length≤_;omega) _ J4 k6' fun s' h => ?_
  rw[blockQ_n,thenQ_n]
  obtain⟨T',p',J'⟩:=h
  replace J':J58 hB n1 bid mid T' p' (plT sc q (j+1)) f j s':=by rw[←plT_succ];exact J'
  obtain⟨e',h',n'⟩:=s'
  obtain⟨q2,q14,q15,q16,bi⟩:=J'
  simp only[]at q2 q14 q15 q16 bi
  have hw:=wrap_nat (j:=j) (by unfold big;omega)
  simp[evx,tlC,c58L,bodyL,Tryz.f58,q16,ii,hw]
  exact hQ _ ⟨T',p',by simp[up,q2],by simp[up,q14],by simp[up,q15],by simp[up,ii],bi⟩
theorem b58 (hsc:smallS sc) (hsl:sc.length≤1099511627776) (hus:q.items.length<big∧∀it∈q.items,it.types.length<big) {T:Nat→Nat} {p:Pt} {h:Heap} {n:Nat} (b:BI hB n1 bid mid T h n p (plJ sc q) f) :
  ACall (cx [] (pfL tp58)) 58 [.p bid 0 0] h n fun z h' n'=>∃T' p',BI hB n1 bid mid T' h' n' p' (plT sc q sc.length) f:=by
 refine acall_of_awp (args:=[.p bid 0 0]) (pfL_ok (tb_cons P113u (tb_cons P116g tb_nil))) (mixed _ _) Tryz.func58 (c:=Tryz.f58.body.getD .skip) rfl (by kernel_rfl) (callable Tryz.func58 rfl rfl _ _) (show 1≤Tryz.f58.ntmps by decide +kernel) ?_
 refine awp_cut 1 _ _ (R:=fun s=>s.e 2=.p bid 0 0∧s.h=h∧s.n=n) ?_ fun e1 h1 n2 ⟨q2,r1,r2⟩ => ?_
 ·simp[evx,hdC,Tryz.f58,env0]
 simp only[]at q2 r1 r2
 subst r1
 subst r2
 show awp (cx [] (pfL tp58)) (.seq (hdC 1 (tlC 1 (Tryz.f58.body.getD .skip))) (.block 0 (.loop c58L))) _ _
 obtain⟨t1,t2,t3,t4,t5⟩:=sl_is b.s.sch
 have t2':p.sa.slen=sc.length:=t2
 simp[evx,hdC,tlC,Tryz.f58,q2,b.bb,bcells,t1,t2']
 refine awp_loop (fun s=>∃j T p,j≤sc.length∧J58 hB n1 bid mid T p (plT sc q j) f j s) (fun s=>sc.length-(s.e 16).i.toNat) ⟨0,T,p,by omega,by simp[up,q2],by simp[up],by simp[up,ii];rfl,by simp[up,ii],b⟩ ?_
 rintro e' h' n' ⟨j,T',p',hj,J⟩
 by_cases hlt:j<sc.length
 ·have k1:=J.q16
  simp only[]at k1
  refine b58s hsc hsl hus hlt _ J fun s' ⟨T'',p'',J'⟩ => ?_
  rw[thenQ_n]
  refine⟨⟨j+1,T'',p'',hlt,J'⟩,?_⟩
  show sc.length-(s'.e 16).i.toNat<sc.length-(e' 16).i.toNat
  rw[k1,J'.q16]
  simp[ii,AV.i]
  omega
 ·obtain rfl:j=sc.length:=by omega
  obtain⟨q2,q14,q15,q16,bi⟩:=J
  simp only[]at q2 q14 q15 q16 bi
  have q15':e' 15=ii sc.length:=q15
  simp[evx,tlC,c58L,bodyL,Tryz.f58,q15',q16,ii]
  exact⟨T',p',bi⟩
end
end
end Go.Proofs.YtbffkkeieihpdaaGreatDoor
