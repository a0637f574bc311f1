import Derived.Test.YtbffkkeieihpdaaGreatDoorE26
import Derived.Test.YtbffkkeieihpdaaGreatDoorE33
set_option linter.unusedSimpArgs false
set_option linter.unusedVariables false
set_option linter.constructorNameAsVariable false
set_option maxRecDepth 100000
set_option maxHeartbeats 4000000
namespace Go.Proofs.YtbffkkeieihpdaaGreatDoor
open Go Go.Eng
theorem zXr {h:Heap} {a:AV} {l:List Nd} (e:rd dNs h a=some l) {i:Nat} (hi:i<l.length):∃id off k,a=.s id k.ver off l.length∧h id=some k∧off+l.length*6≤k.cells.length∧
  k.cells[off+i*6]? = some (ii (l.getD i nd0).op)∧k.cells[off+(i*6+1)]? = some (ii (l.getD i nd0).n)∧k.cells[off+(i*6+2)]? = some (ss (l.getD i nd0).var)∧k.cells[off+(i*6+3)]? = some (ss (l.getD i nd0).attr)∧
  k.cells[off+(i*6+4)]? = some (ii (l.getD i nd0).a)∧k.cells[off+(i*6+5)]? = some (ii (l.getD i nd0).b):=by
 rcases zKk e with ⟨h0,_⟩|⟨id,off,k,h1,h2,h3,h4⟩
 ·rw[h0]at hi;simp at hi
 ·have h5:=h4 i hi
  have c0:=yI (c:=0) h5 rfl (by omega)
  have c1:=yI (c:=1) h5 rfl (by omega)
  have c2:=yI (c:=2) h5 rfl (by omega)
  have c3:=yI (c:=3) h5 rfl (by omega)
  have c4:=yI (c:=4) h5 rfl (by omega)
  have c5:=yI (c:=5) h5 rfl (by omega)
  simp only[yL]at c0;rw[xD]at c1 c2 c3 c4 c5;rw[zAx hi];exact⟨id,off,k,h1,h2,h3,c0,c1,c2,c3,c4,c5⟩
def zXq (q:List Nd×Nd):Prop:=xQ q.1∧q.2.a<q.1.length∧q.2.b<q.1.length
def yC3:=yH (de2 (rL dNs) rN) zXq fun q=>bv (yBu q.1 q.2)
def zKa:List (FuncId×(List AV→Heap→PRes)):=[(200,g92)]
section
theorem yQn:P0 [] 199 yC3:=by
 refine mkH 2 (S:=[]) (l:=zKa) (zS p73 yJ) Tryz.func199 rfl (by kernel_rfl) zAz zBx (fun a=>rfl) (fun args q h n e hp hn => ?_)
 obtain⟨ta,d,rfl,e1,e2⟩:=zBm e;obtain⟨t,x⟩:=q;obtain⟨hsm,hla,hlb⟩:=hp;replace e1:rd dNs h ta=some t:=e1;simp only[]at e2 hsm hla hlb ⊢;have:=zO3 e2;subst this;obtain⟨s1,s2,s3,s4,s5⟩:=zN e1;obtain⟨op,num,var,attr,na,nb⟩:=x;simp only[]at hla hlb;have hw13:zBh op=decide (op=13∨op=25∨op=26):=rfl;generalize hwn:zBh op=w at *;have hk1:yBu t ⟨op,num,var,attr,na,nb⟩=(yGi t ⟨op,num,var,attr,na,nb⟩ na&&yGi t ⟨op,num,var,attr,na,nb⟩ nb):=rfl;have hkid:∀k:Int,yGi t ⟨op,num,var,attr,na,nb⟩ k=(decide (k<0)||(wX (t.getD k.toNat nd0).op==w)):=fun k=>by unfold yGi;rw[←hwn]
 generalize yBu t ⟨op,num,var,attr,na,nb⟩=kb at *;rw[hkid na,hkid nb]at hk1;clear hkid;have w1:IntKind.i64.wrap 1=1:=by decide
 have w2:IntKind.i64.wrap 2=2:=by decide
 obtain⟨kA,hA⟩:∃kA,(decide (na<0)||(wX (t.getD na.toNat nd0).op==w))=kA:=⟨_,rfl⟩
 obtain⟨kB,hB⟩:∃kB,(decide (nb<0)||(wX (t.getD nb.toNat nd0).op==w))=kB:=⟨_,rfl⟩
 rw[hA,hB]at hk1;have one:∀(k:Int),k<t.length→0≤k→∃id off kk,ta=.s id kk.ver off t.length∧h id=some kk∧off+(k.toNat*6+1)≤kk.cells.length∧kk.cells[off+k.toNat*6]? = some (.v (.int .i64 (t.getD k.toNat nd0).op)):=fun k h1 h2=>by
  obtain⟨id,off,kk,h3,h4,h5,h6,_⟩:=zXr e1 (i:=k.toNat) (by omega)
  exact⟨id,off,kk,h3,h4,by omega,h6⟩
 have key:∀e:Nat→AV,e 0=ta→e 1=.g [ii op,ii num,ss var,ss attr,ii na,ii nb]→awp (cx [] (pfL zKa)) (Tryz.f199.body.getD .skip) (zBc (cx [] (pfL zKa)) Tryz.f199 fun z _ _=>z=bv kb) ⟨e,roH h,n⟩:=fun e q0 q1=>by
  refine zZ 2 _ _ (R:=fun s=>s.e 0=ta∧s.e 3=.p n 0 0∧s.e 5=bv w∧agree n (roH h) s.h∧s.h n=some ⟨[ii op,ii num,ss var,ss attr,ii na,ii nb],0,true,6⟩) ?_ fun y1 h1 n1 hh => ?_
  ·by_cases c1:op=13<;>by_cases c2:op=25<;>by_cases c3:op=26<;>simp[evx,hdC,Tryz.f199,q0,q1,ii,ss,bv,c1,c2,c3,hw13]<;>simp[zD,zE]
  obtain⟨q0,q3,q5,hag,hb0⟩:=hh;simp only[ii,ss,bv]at q0 q3 q5 hag hb0;simp[evx,tlC,Tryz.f199,q3,hb0,bv];refine yN (fun s=>∃j:Nat,j≤2∧s.e 0=ta∧s.e 5=bv w∧s.e 25=.g [ii na,ii nb]∧s.e 26=ii j∧agree n (roH h) s.h∧(0<j→kA=true)∧(1<j→kB=true)) (fun s=>2-(s.e 26).i.toNat) ⟨0,by omega,by simp[up,q0],by simp[up,q5,bv],by simp[up,ii],by simp[up,ii],hag,by omega,by omega⟩ ?_
  rintro e' h' n' ⟨j,hj,q0,q5,q25,q26,hag,k0,k1⟩;simp only[ii,bv]at q0 q5 q25 q26 hag;have hc:j=0∨j=1∨j=2:=by omega
  rcases hc with rfl|rfl|rfl
  ·by_cases hneg:na<0
   ·have h0:¬0≤na:=by omega
    have hkA:kA=true:=by rw[←hA];simp[hneg]
    simp[evx,q0,q5,q25,q26,ii,bv,h0,w1];exact⟨1,by omega,by simp,hag,fun _=>hkA,by omega⟩
   ·have h0:0≤na:=by omega
    obtain⟨id,off,kk,rfl,hk,ho,hc⟩:=one na hla h0;have ha':=wR hn hk hag;generalize (t.getD na.toNat nd0).op=oa at *;cases hy:(wX oa==w)with
    | true =>
     have hy2:wX oa=w:=by simpa using hy
     have hkA:kA=true:=by rw[←hA,hy];simp
     simp[evx,q0,q5,q25,q26,ii,bv,h0,hla,ha',hc,ho,zKa,g92,yV,deI,hy2,w1];exact⟨1,by omega,by simp,hag,fun _=>hkA,by omega⟩
    | false =>
     have hkb:kb=false:=by rw[hk1,←hA,hy];simp[hneg]
     have hy3:¬wX oa=w:=by simpa using hy
     simp[evx,q0,q5,q25,q26,ii,bv,h0,hla,ha',hc,ho,zKa,g92,yV,deI,hy3,hkb]
  ·have k0:=k0 (by omega)
   by_cases hneg:nb<0
   ·have h0:¬0≤nb:=by omega
    have hkB:kB=true:=by rw[←hB];simp[hneg]
    simp[evx,q0,q5,q25,q26,ii,bv,h0,w2];exact⟨2,by omega,by simp,hag,fun _=>k0,fun _=>hkB⟩
   ·have h0:0≤nb:=by omega
    obtain⟨id,off,kk,rfl,hk,ho,hc⟩:=one nb hlb h0;have ha':=wR hn hk hag;generalize (t.getD nb.toNat nd0).op=ob at *;cases hy:(wX ob==w)with
    | true =>
     have hy2:wX ob=w:=by simpa using hy
     have hkB:kB=true:=by rw[←hB,hy];simp
     simp[evx,q0,q5,q25,q26,ii,bv,h0,hlb,ha',hc,ho,zKa,g92,yV,deI,hy2,w2];exact⟨2,by omega,by simp,hag,fun _=>k0,fun _=>hkB⟩
    | false =>
     have hkb:kb=false:=by rw[hk1,←hB,hy];simp[hneg]
     have hy3:¬wX ob=w:=by simpa using hy
     simp[evx,q0,q5,q25,q26,ii,bv,h0,hlb,ha',hc,ho,zKa,g92,yV,deI,hy3,hkb]
  ·have k0:=k0 (by omega)
   have k1:=k1 (by omega)
   have hkb:kb=true:=by rw[hk1,k0,k1];rfl
   simp[evx,q26,ii,bv,hkb]
 exact key _ rfl rfl
def zXo (q:List Nd×Bool×Ask):Prop:=xQ q.1∧zAh q.1=true∧zKj q.2.2
def zJ6 (q:Int×Int):AV:=.t [ii q.1,ii q.2]
def zN5:=yH (de2 (rL dNs) rFn) zXo fun q=>zJ6 (wlk q.2.2.1 q.2.2.2.1 q.1 q.2.1)
def zOk:List (FuncId×(List AV→Heap→PRes)):=[(199,yC3)]
theorem yNk:P0 [] 154 zN5:=by
 refine mkH 2 (S:=[]) (l:=zOk) (zS yQn yJ) Tryz.func154 rfl (by kernel_rfl) zAz zBx (fun a=>rfl) (fun args q h n e hp hn => ?_)
 obtain⟨ta,f,rfl,e1,e2⟩:=zBm e;obtain⟨t,b,x⟩:=q;obtain⟨hsm,ht,hak⟩:=hp;replace e1:rd dNs h ta=some t:=e1;simp only[]at e2 hsm ht hak ⊢;obtain⟨p,rfl,e3⟩:=yFi e2;simp only[]at e3;obtain⟨s1,s2,s3,s4,s5⟩:=zN e1;have g1:=xP hn e1;have g3:=(rAt (rC rAsk)).agree hn e3;have T:=zCt ht;have hsm':t.length*64≤140737488355328:=hsm;have hwd:wlk x.1 x.2.1 t b=zFp (zQm x.1 x.2.1 t b) t.length:=rfl;have key:∀e:Nat→AV,e 0=ta→e 1=.f (.func (if b=true then 158 else 155)) [] [p]→awp (cx [] (pfL zOk)) (Tryz.f154.body.getD .skip) (zBc (cx [] (pfL zOk)) Tryz.f154 fun z _ _=>z=zJ6 (wlk x.1 x.2.1 t b)) ⟨e,roH h,n⟩:=fun e q0 q1=>by
  simp[evx,Tryz.f154,q0,s1,s2];refine yN (fun s=>∃j:Nat,j≤t.length∧s.e 0=ta∧s.e 1=.f (.func (if b=true then 158 else 155)) [] [p]∧s.e 9=ta∧s.e 10=ii t.length∧s.e 11=ii j∧agree n (roH h) s.h∧n≤s.n∧Fresh s.n s.h∧∀i,i<j→zQm x.1 x.2.1 t b i=0) (fun s=>t.length-(s.e 11).i.toNat) ⟨0,by omega,by simp[up,q0],by simp[up,q1],by simp[up],by simp[up,ii],by simp[up,ii],zE _ _,by simp,fun i hi=>by simp[roH,hn i hi],by omega⟩ ?_
  rintro e' h' n' ⟨j,hj,q0,q1,q9,q10,q11,hag,hnn,hfr,hno⟩;simp only[]at q0 q1 q9 q10 q11 hag hnn hfr;by_cases hlt:j<t.length
  ·have hkd:=T.kind j hlt
   rw[←zAx hlt]at hkd;obtain⟨id,off,k,rfl,hk,ho,c0,c1,c2,c3,c4,c5⟩:=zXr e1 hlt;have ha':=wR hn hk hag;have hw:=yK (j:=j) (by unfold big;omega)
   have hw1:off+(j*6+6)≤k.cells.length:=by omega
   have hmiss:=fun hy=>zAv (p:=fun i=>zQm x.1 x.2.1 t b i=0) hno hy
   have hhit:=fun hy:zQm x.1 x.2.1 t b j≠0=>zG2 (f:=zQm x.1 x.2.1 t b) hno hy hlt
   have hE:zQm x.1 x.2.1 t b j=if zDb x.1 x.2.1 b (t.getD j nd0)≠0 then zDb x.1 x.2.1 b (t.getD j nd0)else if yBu t (t.getD j nd0)=true then 0 else 75:=rfl
   have hjn:((t.length-1:Nat):Int)<t.length:=by omega
   have hab:(t.getD j nd0).a<t.length∧(t.getD j nd0).b<t.length:=by
    rcases hkd with ⟨_,_,a1,a2,_⟩|⟨_,_,a1,a2,_⟩|⟨_,_,_,a1,a,a2,a3,a4⟩
    ·omega
    ·omega
    ·have:=T.le (j-1) (by omega);omega
   generalize hnd:t.getD j nd0=nd at *;obtain⟨op,num,var,attr,na,nb⟩:=nd;simp only[ii,ss]at c0 c1 c2 c3 c4 c5;simp only[]at hab;have zi:¬id=n':=by have:=xB hk hn;omega
   have hag2:∀b1 b2,agree n (roH h) (up (up h' n' b1) n' b2):=fun b1 b2=>by simp[zD,hnn,hag]
   have hfr2:∀b1 b2,Fresh (n'+2) (up (up h' n' b1) n' b2):=fun b1 b2=>by simp[zF,hfr.add]
   have K:=cFn (S:=[]) (pf:=pfL zOk) (n:=n'+2) (nd:=⟨op,num,var,attr,na,nb⟩) (x:=(b,x)) (g3 _ (hag2 (some ⟨[.v (.int .i64 0),.v (.int .i64 0),.v (.string ByteArray.empty),.v (.string ByteArray.empty),.v (.int .i64 0),.v (.int .i64 0)],0,true,6⟩) (some ⟨[.v (.int .i64 op),.v (.int .i64 num),.v (.string var),.v (.string attr),.v (.int .i64 na),.v (.int .i64 nb)],0,true,6⟩))) hak;simp only[nn,yC,ii,ss]at K hE;generalize hme:zDb x.1 x.2.1 b ⟨op,num,var,attr,na,nb⟩=me at *;cases b<;>simp only[yO,if_false,if_true]at q1 K
   all_goals
    simp[evx,zHt,q0,q1,q9,q10,q11,ii,hlt,ha',c0,c1,c2,c3,c4,c5,hw1,zOk];refine (wD (S:=[]) (by simp) K).mono ?_
    rintro v h2 n2 ⟨rfl,rfl,rfl⟩;by_cases hm:me=0
    ·rw[if_neg (not_not_intro hm)]at hE
     cases hkb:yBu t ⟨op,num,var,attr,na,nb⟩with
     | true =>
      rw[hkb,if_pos rfl]at hE;have h3:=hmiss hE;simp[evx,hm,yC3,yH,de2,rL,rN,deN,yCg,g1 _ (hag2 _ _),zXq,hsm,hab,hkb,bv,hw];exact⟨⟨j+1,by omega,by omega,hag2 _ _,by omega,hfr2 _ _,h3⟩,by omega⟩
     | false =>
      rw[hkb,if_neg (by simp)]at hE
      have h3:=hhit (by rw[hE];decide)
      simp[evx,ii,hm,yC3,yH,de2,rL,rN,deN,yCg,g1 _ (hag2 _ _),zXq,hsm,hab,hkb,bv,zJ6,hwd,h3,hE]
    ·rw[if_pos hm]at hE
     have h3:=hhit (by rw[hE];exact hm)
     simp[evx,ii,hm,zJ6,hwd,h3,hE]
  ·obtain rfl:j=t.length:=by omega
   have h3:=zDe hno;simp[evx,q10,q11,ii,zJ6,hwd,h3]
 exact key _ rfl rfl
end
abbrev yM0:=List Int×List Int×List Int
def rUse:Rdr yM0 where
 run h a:=match a with
  | .g l=>de3 (rL dIs) (rL dIs) (rL dIs) h l
  | _=>none
 sim {h h' a x} hh e:=by
  split at e
  ·obtain⟨a,b,c,rfl,e1,e2,e3⟩:=zFg e
   simp only[de3,(rL dIs).sim hh e1,(rL dIs).sim hh e2,(rL dIs).sim hh e3,zT,zK]
  ·cases e
theorem yAv {h:Heap} {a:AV} {x:yM0} (e:rUse.run h a=some x):∃a1 a2 a3,a=.g [a1,a2,a3]∧rd dIs h a1=some x.1∧rd dIs h a2=some x.2.1∧rd dIs h a3=some x.2.2:=by
 simp only[rUse]at e;split at e
 ·obtain⟨a,b,c,rfl,e1,e2,e3⟩:=zFg e
  exact⟨a,b,c,rfl,e1,e2,e3⟩
 ·cases e
theorem yGq {h:Heap} {a:AV} {l:List Int} (e:rd dIs h a=some l) {i:Nat} (hi:i<l.length):∃id off k,a=.s id k.ver off l.length∧h id=some k∧off+l.length≤k.cells.length∧k.cells[off+i]? = some (ii (l.getD i 0)):=by
 rcases zYh e with ⟨h0,_⟩|⟨id,off,k,h1,h2,h3,h4⟩
 ·rw[h0]at hi;simp at hi
 ·have hg:l.getD i 0=l[i]:=by rw[zB,zA hi];rfl
  exact⟨id,off,k,h1,h2,h3,by rw[hg];exact h4 i hi⟩
def yAe (it:It):Bool:=it.neg||decide (1<it.hi)
theorem zX2 {q:Qu} {l:List Int} {j:Nat} (hj:j<l.length):zSx q (l.take (j+1))=zSx q (l.take j)+(yAe (q.items.getD (l.getD j 0).toNat it0)).toNat:=by
 have hg:l.getD j 0=l[j]:=by rw[zB,zA hj];rfl
 have hm:∀l,zSx q l=(l.filter fun i=>yAe (q.items.getD i.toNat it0)).length:=fun l=>rfl
 rw[hm,hm,yY hj,zCh,zM,hg,List.filter_cons,List.filter_nil];cases yAe (q.items.getD l[j].toNat it0)<;>rfl
theorem yGc (q:Qu) (l:List Int):zSx q l≤l.length:=wS _ _
def yF0 (x:Qu×yM0):Prop:=QuSm x.1∧x.2.1.length<big∧∀i,i<x.2.1.length→0≤x.2.1.getD i 0∧x.2.1.getD i 0<x.1.items.length
def yKs:=yH (de2 rQ rUse) yF0 fun x=>bv (decide (1<zSx x.1 x.2.1))
section
theorem yQs:P0 [] 157 yKs:=by
 refine mkH 2 (S:=[]) (l:=[]) yJ Tryz.func157 rfl (by kernel_rfl) zAz zBx (fun a=>rfl) (fun args q h n e hp hn => ?_)
 obtain⟨x,u,rfl,e1,e2⟩:=zBm e;obtain⟨q,l,l2,l3⟩:=q;obtain⟨hq,hl,hi⟩:=hp;replace e1:deQ h x=some q:=e1;simp only[]at e2 hq hl hi ⊢;obtain⟨a1,a2,a3,rfl,f1,f2,f3⟩:=yAv e2;simp only[]at f1 f2 f3;obtain⟨a,b,c,rfl,x2,x3,x4⟩:=wH e1;have o1:=(zN x2).2.2.2.1;have o2:=(zN x3).2.2.2.1;have o3:=(zN x4).2.2.2.1;have p2:=(zN f2).2.2.2.1;have p3:=(zN f3).2.2.2.1;obtain⟨s1,s2,s3,s4,s5⟩:=zN f1;have key:∀e:Nat→AV,e 0=.g [a,ii q.mode,ii q.after,b,ii q.within,ss q.par,c]→e 1=.g [a1,a2,a3]→awp (cx [] (pfL [])) (Tryz.f157.body.getD .skip) (zBc (cx [] (pfL [])) Tryz.f157 fun z _ _=>z=bv (decide (1<zSx q l))) ⟨e,roH h,n⟩:=fun e q0 q1=>by
  simp[evx,Tryz.f157,q0,q1,ii,ss,bv,s1,s2,s4,o1,o2,o3,p2,p3];refine yN (fun s=>∃(j u v:Nat),j≤l.length∧s.e 2=.p n 0 0∧s.e 5=ii u∧s.e 6=ii v∧s.e 10=a1∧s.e 11=ii l.length∧s.e 12=ii j∧agree n (roH h) s.h∧s.h n=some ⟨[a,ii q.mode,ii q.after,b,ii q.within,ss q.par,c],0,true,7⟩∧u+v=zSx q (l.take j)) (fun s=>l.length-(s.e 12).i.toNat) ⟨0,0,0,by simp[up,ii,ss,zD,zE,zSx]⟩ ?_
  rintro e' h' n' ⟨j,u,v,hj,q2,q5,q6,q10,q11,q12,hag,hb0,huv⟩;simp only[]at q2 q5 q6 q10 q11 q12 hag hb0;have hle:=yGc q (l.take j);rw[zW]at hle;by_cases hlt:j<l.length
  ·obtain⟨id,off,k,rfl,hk,ho,hc⟩:=yGq f1 hlt
   have ha':=wR hn hk hag;have hw:=yK (j:=j) (by omega)
   have hwu:=yK (j:=u) (by omega)
   have hwv:=yK (j:=v) (by omega)
   have hw1:off+(j+1)≤k.cells.length:=by omega
   obtain⟨hi0,hi1⟩:=hi j hlt;have hms:=zX2 (q:=q) hlt;generalize l.getD j 0=i at *;obtain⟨m,rfl⟩:∃m:Nat,i=m:=⟨i.toNat,by omega⟩
   have hm:m<q.items.length:=by omega
   obtain⟨id2,off2,k2,ty,rfl,hk2,ho2,c0,c1,c2,c3,c4,e6⟩:=zHv x2 hm;have ha2:=wR hn hk2 hag;have hw2:off2+(m*5+5)≤k2.cells.length:=by omega
   have hw3:off2+(m*5+1)≤k2.cells.length:=by omega
   simp only[yF]at hms;obtain⟨it,hit⟩:∃it,q.items.getD m it0=it:=⟨_,rfl⟩;rw[hit]at hms c0 c2 c3 c4;clear hit;obtain⟨ng,types,var,lo,hi⟩:=it;have htc:yAe ⟨ng,types,var,lo,hi⟩=(ng||decide (1<hi)):=rfl
   rw[htc]at hms;simp only[]at c0 c1 c2 c3 c4;simp only[ii,ss,bv]at c0 c1 c2 c3 c4 hb0 hc q5 q6;cases ng with
   | true =>
    simp only[Bool.true_or,Bool.toNat_true]at hms;simp[evx,q2,q5,q6,q10,q11,q12,ii,hlt,ha',hc,hw1,hb0,hm,ha2,c0,hw3,hw,hwu];exact⟨⟨j+1,by omega,u+1,by omega,v,by omega,by omega,hag,by simp[ss],by omega⟩,by omega⟩
   | false =>
    by_cases hh:1<hi
    ·simp only[Bool.false_or,hh,decide_true,Bool.toNat_true]at hms
     simp[evx,q2,q5,q6,q10,q11,q12,ii,hlt,ha',hc,hw1,hb0,hm,ha2,c0,c4,hw2,hw3,hw,hwv,hh];exact⟨⟨j+1,by omega,u,by omega,v+1,by omega,by omega,hag,by simp[ss],by omega⟩,by omega⟩
    ·simp only[Bool.false_or,hh,decide_false,Bool.toNat_false]at hms
     simp[evx,q2,q5,q6,q10,q11,q12,ii,hlt,ha',hc,hw1,hb0,hm,ha2,c0,c4,hw2,hw3,hw,hh];exact⟨⟨j+1,by omega,u,by omega,v,by omega,by omega,hag,by simp[ss],by omega⟩,by omega⟩
  ·obtain rfl:j=l.length:=by omega
   rw[wW]at huv hle;have hws:IntKind.i64.wrap ((u:Int)+v)=(u:Int)+v:=zDj (by omega) (by unfold big at hl;omega)
   simp[evx,q5,q6,q11,q12,ii,hws];rw[←huv];omega
 exact key _ rfl rfl
end
section
def yFm (q:Qu) (t:List Nd):List Int:=zA0 zDk (vars q.items) t
def yMy (q:Qu) (t:List Nd):List Int:=zA0 zC3 (vars q.items) t
def yNa (x:Qu×Ask):Prop:=zKj x.2∧QuSm x.1∧x.1.items.length≤10∧(x.1.wh.length=0∨zAh x.1.wh=true)∧x.2.2.1=x.1
def GWh:=yH (de2 rQ rAsk) yNa fun x=>ff (whF x.2.1 x.1)
def zUf:List (FuncId×(List AV→Heap→PRes)):=[(154,zN5),(156,G44),(157,yKs)]
section
variable {sc:List Ty} {q:Qu} {cs:List AV} {h:Heap} {n:Nat} {a b c:AV}
structure I104 (h:Heap) (n:Nat) (a b c:AV) (q:Qu) (s:St):Prop where
 q2:s.e 2=.p n 0 0
 q4:s.e 4=.p (n+2) 0 0
 ag:agree n (roH h) s.h
 b0:s.h n=some ⟨[a,ii q.mode,ii q.after,b,ii q.within,ss q.par,c],0,true,7⟩
 b2:s.h (n+2)=some ⟨[ii 0,ii 0,ii 0,ii 0],0,true,4⟩
 nn:n+3≤s.n
 fr:Fresh s.n s.h
theorem yMk {fv:AV} (e2:deQ h (.g [a,ii q.mode,ii q.after,b,ii q.within,ss q.par,c])=some q) (e3:rAsk.run h fv=some (sc,q,cs)) (hn:∀i,n≤i→h i=none) (hak:zKj (sc,q,cs)) (hq:QuSm q) (h0:q.wh.length≠0) (ht:zAh q.wh=true) (s:St) (q3:s.e 3=.p (n+1) 0 0) (b1:s.h (n+1)=some ⟨[fv],0,true,1⟩) (i:I104 h n a b c q s) {Q:Ex→St→Prop}
  (hQ:(zT7 sc q).2=0→∀s,I104 h n a b c q s→Q .normal s) (hR:(zT7 sc q).2≠0→∀s:St,s.e 4=.p (n+2) 0 0→s.h (n+2)=some ⟨wT (whF sc q),0,true,4⟩→Q .ret s) :
  awp (cx [3] (pfL zUf)) (hdC 3 (tlC 2 (Tryz.f104.body.getD .skip))) (fun x s=>Q x s) s:=by
 obtain⟨e',h',n'⟩:=s;obtain⟨q2,q4,hag,hb0,hb2,hnn,hfr⟩:=i;simp only[]at q2 q3 q4 hag hb0 b1 hb2 hnn hfr;obtain⟨a',b',c',hx,x2,x3,x4⟩:=wH e2;cases hx;obtain⟨s1,s2,s3,s4,s5⟩:=zN x3;have g3:=xP hn x3 _ hag;have gf:=rAsk.agree hn e3 _ hag;have hfn:rFn.run h' (.f (.func 155) [] [.p (n+1) 0 0])=some (false,sc,q,cs):=by
  simp only[rFn,rAt,rC,b1,zT,if_true,gf,zK]
 have hwl:q.wh.length*64≤140737488355328:=hq.wh;obtain⟨j,hj⟩:∃j,q.wh.length=j+1:=⟨q.wh.length-1,by omega⟩
 have hw1:=zRx (e:=j) (by unfold big;omega)
 have hpos:0<q.wh.length:=by omega
 have hWW:zT7 sc q=if (wlk sc q q.wh false).2=0∧zC9 q.wh=false then ((q.wh.length:Int)-1,75)else wlk sc q q.wh false:=rfl
 have hF:whF sc q=if (zT7 sc q).2≠0 then ⟨(zT7 sc q).2,4,(zT7 sc q).1,0⟩else zUx q:=by unfold whF;rw[if_neg h0]
 have hok:zXo (q.wh,false,sc,q,cs):=⟨hq.wh,ht,hak⟩;have hqw:=hq.wh;simp only[ii,ss]at hb0 hb2;have fin:∀e2,(∀i∈[2,4],e2 i=e' i)→I104 h n a b c q ⟨e2,h',n'⟩:=fun e2 he =>
  ⟨(he 2 (by simp)).trans q2,(he 4 (by simp)).trans q4,hag,by simpa[ii,ss]using hb0,by simpa[ii]using hb2,hnn,hfr⟩
 obtain⟨⟨wi,we⟩,hwk⟩:∃x,wlk sc q q.wh false=x:=⟨_,rfl⟩;rw[hwk]at hWW;simp only[]at hWW;by_cases hwe:we=0
 ·subst hwe
  cases htr:zC9 q.wh with
  | true =>
   rw[htr,if_neg (by simp)]at hWW
   have hQ':=hQ (by rw[hWW])
   simp[evx,hdC,tlC,Tryz.f104,q2,q3,hb0,ii,bv,zUf,zN5,yH,de2,rL,g3,hfn,hok,zJ6,hwk,G44,deT,hqw,htr,hpos];exact hQ' _ (fin _ (by simp[up]))
  | false =>
   rw[htr,if_pos ⟨rfl,rfl⟩]at hWW;have hR':=hR (by rw[hWW];simp)
   rw[hWW,if_pos (by simp)]at hF
   simp[evx,hdC,tlC,Tryz.f104,q2,q3,q4,hb0,hb2,ii,bv,s1,s2,zUf,zN5,yH,de2,rL,g3,hfn,hok,zJ6,hwk,G44,deT,hqw,htr,hpos];refine hR' _ ?_ ?_
   ·simp[up,q4]
   ·simp[up,wT,hF,ii,hj]
    simpa using hw1
 ·rw[if_neg (fun h=>hwe h.1)]at hWW
  have hR':=hR (by rw[hWW];exact hwe)
  rw[hWW,if_pos hwe]at hF;simp[evx,hdC,tlC,Tryz.f104,q2,q3,q4,hb0,hb2,ii,zUf,zN5,yH,de2,rL,g3,hfn,hok,zJ6,hwk,hwe];refine hR' _ ?_ ?_
  ·simp[up,q4]
  ·simp[up,wT,hF,ii]
structure J104 (h:Heap) (n:Nat) (a b c:AV) (q:Qu) (k:Nat) (s:St):Prop extends I104 h n a b c q s where
 q40:∃w u,s.e 40=.s w u 0 (zBj q.wh).length∧s.h w=some ⟨(zBj q.wh).map fun x:Nat=>ii x,u,true,1⟩∧n+3≤w∧w<s.n
 q41:s.e 41=ii (zBj q.wh).length
 q42:s.e 42=ii k
 no:∀i,i<k→zSy q i=0
theorem yMj (e2:deQ h (.g [a,ii q.mode,ii q.after,b,ii q.within,ss q.par,c])=some q) (hn:∀i,n≤i→h i=none) (hq:QuSm q) (h10:q.items.length≤10) (ht:zAh q.wh=true) (s:St) (k:Nat) (hk:k<(zBj q.wh).length) (i:J104 h n a b c q k s) {Q:Ex→St→Prop}
  (hQ:∀s,J104 h n a b c q (k+1) s→Q .normal s) (hR:(zUx q).code≠0→∀s:St,s.e 4=.p (n+2) 0 0→s.h (n+2)=some ⟨wT (zUx q),0,true,4⟩→Q .ret s) :
  awp (cx [3] (pfL zUf)) (yW (hdC 1 (tlC 5 (Tryz.f104.body.getD .skip)))) Q s:=by
 obtain⟨e',h',n'⟩:=s;obtain⟨⟨q2,q4,hag,hb0,hb2,hnn,hfr⟩,⟨w,u,q40,hwb,hw3,hwn⟩,q41,q42,hno⟩:=i;simp only[]at q2 q4 hag hb0 hb2 hnn hfr q40 hwb hwn q41 q42;have g2:=zKe hn e2;obtain⟨a',b',c',hx,x2,x3,x4⟩:=wH e2;cases hx;have o1:=(zN x2).2.2.1;have o2:=(zN x3).2.2.1;have o3:=(zN x4).2.2.1;have T:=zCt ht;have hwl:q.wh.length*64≤140737488355328:=hq.wh;have hcl:(zBj q.wh).length≤q.wh.length:=by
  have:=zTq T (q.wh.length-1) (by have:=T.pos;omega)
  unfold zBj;have:=T.pos;omega
 have hkw:=yK (j:=k) (by unfold big;omega)
 have hmiss:=fun hy=>zAv (p:=fun i=>zSy q i=0) hno hy
 have hhit:=fun hy:zSy q k≠0=>zG2 (f:=zSy q) hno hy hk
 have hE:zSy q k=if 1<zSx q (zA5 q (zA6 q.wh ((zBj q.wh).getD k 0)))then 77 else 0:=rfl
 have hMF:zUx q=if (zFp (zSy q) (zBj q.wh).length).2≠0 then ⟨77,4,((zBj q.wh).getD (zFp (zSy q) (zBj q.wh).length).1.toNat 0:Nat),0⟩else fl0:=rfl
 have hrl:(zBj q.wh).getD k 0<q.wh.length:=by
  have hm:(zBj q.wh).getD k 0∈zBj q.wh:=by rw[zB,zA hk];exact zH hk
  have:=(zNy T (q.wh.length-1) (by have:=T.pos;omega)).1 _ hm
  have:=T.pos;omega
 have hcs:((zBj q.wh).map fun x:Nat=>ii x)[k]? = some (ii ((zBj q.wh).getD k 0:Nat)):=by
  rw[xG,zB,zA hk];rfl
 have hcln:((zBj q.wh).map fun x:Nat=>ii x).length=(zBj q.wh).length:=by simp
 generalize hcc:((zBj q.wh).map fun x:Nat=>ii x)=cells at *
 generalize hrr:(zBj q.wh).getD k 0=r at *;have hlt':(k:Int)<((zBj q.wh).length:Int):=by omega
 simp only[ii]at hcs;have hcj:k<cells.length:=by omega
 have hcg:cells[k]'hcj=.v (.int .i64 r):=by rw[zA hcj]at hcs;exact Option.some.inj hcs
 have hk1:k+1≤(zBj q.wh).length:=hk;simp only[ii,ss]at hb0 hb2 g2;have e3':=xP hn x3 _ hag;have eq':=g2 _ hag;simp[evx,hdC,tlC,yW,Tryz.f104,q2,q4,q40,q41,q42,ii,hwb,hcg,hcln,hk,hlt',hk1,hb0,zUf];refine (wD (S:=[3]) (by simp) (c52 e3' ht hq.wh hrl hfr)).mono ?_
 rintro z h2 n2 ⟨a1,a2,a3,m2,rfl,hm,hm1,hm2⟩;have rs':rd dNs h2 (.s m2 0 0 (zA6 q.wh r).length)=some (zA6 q.wh r):=zB2 Flat.nd hm rfl (r:=[]) (by simp)
 have hss:xQ (zA6 q.wh r):=by
  have h3:=zG6 (lo:=zN7 q.wh) hrl (T.le r hrl);unfold xQ zA6;rw[h3];exact xL (yU 64 (by omega)) hwl
 have eq2:=zC0 (zB8 hfr a1) eq';refine⟨zFc (zI7 hfr a1),?_⟩;refine (wD (S:=[]) (by simp) (c49 eq2 rs' (by omega) hss a2)).mono ?_
 rintro z h3 n3 ⟨c1,c2,c3,y1,y2,y3,rfl,r1,r2,r3⟩;refine⟨zFc (zI7 a2 c1),?_⟩;have eq3:=zC0 (zB8 a2 c1) eq2;have hag3:agree n' h' h3:=yP a1 c1 a3;have p1:=(zN r1).2.2.1;have p2:=(zN r2).2.2.1;have p3:=(zN r3).2.2.1;have hbl:(zA5 q (zA6 q.wh r)).length≤q.items.length:=by
  unfold zA5 zA0;refine xL (wS _ _) ?_;simp[vars]
 have hok:yF0 (q,zA5 q (zA6 q.wh r),yFm q (zA6 q.wh r),yMy q (zA6 q.wh r)):=by
  refine⟨hq,by simp only[];have:=hq.it;omega,fun i hi => ?_⟩
  have hmem:(zA5 q (zA6 q.wh r)).getD i 0∈zA5 q (zA6 q.wh r):=by
   rw[zB,zA hi];exact zH hi
  obtain⟨u1,u2,_⟩:=zGq hmem;simp only[vars,zQ]at u2;exact⟨u1,u2⟩
 have hmx:yKs [.g [a,.v (.int .i64 q.mode),.v (.int .i64 q.after),b,.v (.int .i64 q.within),.v (.string q.par),c],.g [y1,y2,y3]] h3=⟨yF0 (q,zA5 q (zA6 q.wh r),yFm q (zA6 q.wh r),yMy q (zA6 q.wh r)),bv (decide (1<zSx q (zA5 q (zA6 q.wh r))))⟩:=by
  simp only[yKs,yH,de2,rQ,eq3,rUse,de3,rL,zA5,r1,r2,r3,zT,zK,yFm,yMy];rfl
 have z2:n+2<n':=by omega
 have b0':h3 n=_:=(hag3 n (by omega)).trans hb0
 have b2':h3 (n+2)=_:=(hag3 (n+2) (by omega)).trans hb2
 have wb':h3 w=_:=(hag3 w hwn).trans hwb;have hag4:agree n (roH h) h3:=yP hag hag3 (by omega)
 by_cases hmix:1<zSx q (zA5 q (zA6 q.wh r))
 ·rw[if_pos hmix]at hE
  have hh:=hhit (by rw[hE];decide)
  rw[hh,hE,if_pos (by simp)]at hMF
  simp only[yF,hrr]at hMF;have hR':=hR (by rw[hMF];simp)
  simp[evx,hmx,hok,hmix,bv,b2'];refine hR' _ ?_ ?_
  ·simp[up,q4]
  ·simp[up,wT,hMF,ii]
 ·rw[if_neg hmix]at hE
  have hh:=hmiss hE;simp[evx,hmx,hok,hmix,bv,hkw];refine hQ _ ⟨⟨by simp[up,q2],by simp[up,q4],hag4,by simpa[ii,ss]using b0',by simpa[ii]using b2',by simp only[];omega,c2⟩,⟨w,u,by simp[up,q40],by simp only[];rw[hcc];exact wb',hw3,by simp only[];omega⟩,by simp[up,q41,ii],by simp[up,ii],hh⟩
theorem yQ0:P0 [3] 104 GWh:=by
 refine mkH 2 (S:=[3]) (l:=zUf) (zS yNk (zS P44 (zS yQs yJ))) Tryz.func104 rfl (by kernel_rfl) zAz zBx (fun a=>rfl) (fun args q h n e hp hn => ?_)
 obtain⟨x,fv,rfl,e1,e2⟩:=zBm e;obtain⟨q,sc,q',cs⟩:=q;obtain⟨hak,hq,h10,hwt,hqq⟩:=hp;simp only[]at e1 e2 hak hq h10 hwt hqq ⊢;subst hqq;replace e1:deQ h x=some q':=e1;obtain⟨a,b,c,rfl,x2,x3,x4⟩:=wH e1;have o1:=(zN x2).2.2.2.1;have o3:=(zN x4).2.2.2.1;obtain⟨s1,s2,s3,s4,s5⟩:=zN x3;obtain⟨p1,p2,p3,rfl,f1,f2,f3⟩:=zJn e2;have key:∀e:Nat→AV,e 0=.g [a,ii q'.mode,ii q'.after,b,ii q'.within,ss q'.par,c]→e 1=.f (.func 102) [] [p1,p2,p3]→awp (cx [3] (pfL zUf)) (Tryz.f104.body.getD .skip) (zBc (cx [3] (pfL zUf)) Tryz.f104 fun z _ _=>z=ff (whF sc q')) ⟨e,roH h,n⟩:=fun e q0 q1=>by
  have hret:∀(s:St) (f:Fl),s.e 4=.p (n+2) 0 0→s.h (n+2)=some ⟨wT f,0,true,4⟩→resAll (cx [3] (pfL zUf)) s Tryz.f104.results.toList∧resVal (cx [3] (pfL zUf)) s Tryz.f104.results.toList=ff f:=fun s f h4 hb=>by
   simp[evx,Tryz.f104,h4,hb,wT,ff]
  by_cases h0:q'.wh.length=0
  ·have hF:whF sc q'=fl0:=by unfold whF;rw[if_pos h0]
   simp[evx,Tryz.f104,q0,q1,ii,ss,s1,s2,s4,o1,o3,h0,hF,ff,wT,fl0]
  ·have ht:=hwt.resolve_left h0
   refine zZ 2 _ _ (R:=fun s=>s.e 3=.p (n+1) 0 0∧s.h (n+1)=some ⟨[.f (.func 102) [] [p1,p2,p3]],0,true,1⟩∧I104 h n a b c q' s) ?_ fun y1 h1 n1 ⟨q3,b1,i1⟩ => ?_
   ·simp[evx,hdC,Tryz.f104,q0,q1,ii,ss,s1,s2,s4,o1,o3,h0]
    exact⟨by simp[up],by simp[up],by simp[zD,zE],by simp[up,ii,ss],by simp[up,ii],by simp,fun i hi=>by simp only[]at hi;simp only[];rw[zP _ _ (by omega),zP _ _ (by omega),zP _ _ (by omega)];simp[roH,hn i (by omega)]⟩
   refine zZ 3 _ _ (R:=fun s=>(zT7 sc q').2=0∧I104 h n a b c q' s) (yMk e1 e2 hn hak hq h0 ht _ q3 b1 i1 (fun h5 s i=>⟨h5,i⟩) fun h5 s h6 h7=>hret s _ h6 h7) fun y2 h2 n2 ⟨h5,i2⟩ => ?_
   have hF:whF sc q'=zUx q':=by unfold whF;rw[if_neg h0,if_neg (not_not_intro h5)]
   refine zZ 1 _ _ (R:=fun s=>(zUx q').code=0∧s.e 4=.p (n+2) 0 0∧s.h (n+2)=some ⟨[ii 0,ii 0,ii 0,ii 0],0,true,4⟩) ?_ fun y3 h3 n3 ⟨h6,q4,hb2⟩ => ?_
   ·show awp (cx [3] (pfL zUf)) (.seq (hdC 1 (hdC 1 (tlC 5 (Tryz.f104.body.getD .skip)))) (.block 0 (.loop (yW (hdC 1 (tlC 5 (Tryz.f104.body.getD .skip))))))) _ _
    obtain⟨q2,q4,hag,hb0,hb2,hnn,hfr⟩:=i2;simp only[ii,ss]at q2 q4 hag hb0 hb2 hnn hfr;have g3:=xP hn x3 _ hag;simp[evx,hdC,tlC,Tryz.f104,q2,hb0,ii,zUf];refine (wD (S:=[3]) (by simp) (c51 g3 ht hq.wh hfr)).mono ?_
    rintro z h3 n3 ⟨a1,a2,a3,w,u,rfl,hw,hw1,hw2⟩;simp[evx];refine yN (fun s=>∃k,k≤(zBj q'.wh).length∧J104 h n a b c q' k s) (fun s=>(zBj q'.wh).length-(s.e 42).i.toNat) ⟨0,by omega,⟨⟨by simp[up,q2],by simp[up,q4],yP hag a1 (by omega),by simp only[];rw[a1 n (by omega)];simpa[ii,ss]using hb0,by simp only[];rw[a1 (n+2) (by omega)];simpa[ii]using hb2,by simp only[];omega,a2⟩,⟨w,u,by simp[up,zBj],hw,by omega,hw2⟩,by simp[up,ii,zBj],by simp[up,ii],by omega⟩⟩ ?_
    rintro e' h' n' ⟨k,hk,j⟩;have j42:=j.q42;have j41:=j.q41;simp only[]at j42 j41;by_cases hlt:k<(zBj q'.wh).length
    ·refine yMj e1 hn hq h10 ht _ k hlt j (fun s j' => ?_) fun h7 s h8 h9 => ?_
     ·have j42':=j'.q42
      simp only[zAw];refine⟨⟨k+1,by omega,j'⟩,?_⟩
      rw[j42,j42'];simp[ii,AV.i];omega
     ·simp only[zFw,zJ1,zTd]
      have:=hret s (whF sc q') h8 (by rw[hF];exact h9)
      exact this
    ·obtain rfl:k=(zBj q'.wh).length:=by omega
     have j4:=j.q4;have jb:=j.b2;simp only[]at j4 jb;have hmf:(zUx q').code=0:=by unfold zUx;rw[zDe j.no];rfl
     simp[evx,yW,j41,j42,ii];exact⟨hmf,j4,by simpa[ii]using jb⟩
   ·simp only[]at q4 hb2
    have hm:zUx q'=fl0:=(zX3 h6).1;simp[evx,tlC,Tryz.f104,q4,hb2,ii,hF,hm,fl0,ff,wT]
 exact key _ rfl rfl
end
end
section
def yI6 (x:Qu×Ask):Prop:=zKj x.2∧QuSm x.1∧(∀i,i<x.1.ret.length→zAh (x.1.ret.getD i [])=true)∧x.2.2.1=x.1
def yKh:=yH (de2 rQ rAsk) yI6 fun x=>ff (zUl x.2.1 x.1)
def zUg:List (FuncId×(List AV→Heap→PRes)):=[(154,zN5),(156,G44)]
theorem zHj {α:Type} {sz:Nat} {d:De α} {h:Heap} {a:AV} {l:List (List α)} (e:rd (De.sl 1 (De.sl sz d)) h a=some l) {i:Nat} (hi:i<l.length):∃id off k c,a=.s id k.ver off l.length∧h id=some k∧off+l.length≤k.cells.length∧k.cells[off+i]? = some c∧rd (De.sl sz d) h c=some (l.getD i []):=by
 rcases zLu e with ⟨h0,_⟩|⟨id,off,k,h1,h2,h3,h4⟩
 ·rw[h0]at hi;simp at hi
 ·obtain⟨c,h5,h6⟩:=h4 i hi
  have hg:l.getD i []=l[i]:=by rw[zB,zA hi];rfl
  exact⟨id,off,k,c,h1,h2,h3,h5,by rw[hg];exact h6⟩
section
theorem yQy:P0 [] 106 yKh:=by
 refine mkH 2 (S:=[]) (l:=zUg) (zS yNk (zS P44 yJ)) Tryz.func106 rfl (by kernel_rfl) zAz zBx (fun a=>rfl) (fun args q h n e hp hn => ?_)
 obtain⟨x,fv,rfl,e1,e2⟩:=zBm e;obtain⟨q,sc,q',cs⟩:=q;obtain⟨hak,hq,hrt,hqq⟩:=hp;simp only[]at e1 e2 hak hq hrt hqq ⊢;subst hqq;replace e1:deQ h x=some q':=e1;obtain⟨a,b,c,rfl,x2,x3,x4⟩:=wH e1;have o1:=(zN x2).2.2.2.1;have o2:=(zN x3).2.2.2.1;obtain⟨s1,s2,s3,s4,s5⟩:=zN x4;have gf:=rAsk.agree hn e2;obtain⟨p1,p2,p3,rfl,f1,f2,f3⟩:=zJn e2;have hrl:=hq.rl;have key:∀e:Nat→AV,e 0=.g [a,ii q'.mode,ii q'.after,b,ii q'.within,ss q'.par,c]→e 1=.f (.func 102) [] [p1,p2,p3]→awp (cx [] (pfL zUg)) (Tryz.f106.body.getD .skip) (zBc (cx [] (pfL zUg)) Tryz.f106 fun z _ _=>z=ff (zUl sc q')) ⟨e,roH h,n⟩:=fun e q0 q1=>by
  by_cases h8:8<q'.ret.length
  ·have hF:zUl sc q'=⟨78,5,8,0⟩:=by unfold zUl;rw[if_pos h8]
   have h8':(8:Int)<q'.ret.length:=by omega
   simp[evx,Tryz.f106,q0,q1,ii,ss,s1,s2,s4,o1,o2,h8',hF,ff,wT]
  ·have h8':¬(8:Int)<q'.ret.length:=by omega
   simp[evx,Tryz.f106,q0,q1,ii,ss,s1,s2,s4,o1,o2,h8'];refine yN (fun s=>∃j:Nat,j≤q'.ret.length∧s.e 3=.p (n+1) 0 0∧s.e 4=.p (n+2) 0 0∧s.e 15=c∧s.e 16=ii q'.ret.length∧s.e 17=ii j∧agree n (roH h) s.h∧s.h (n+1)=some ⟨[.f (.func 102) [] [p1,p2,p3]],0,true,1⟩∧s.h (n+2)=some ⟨[ii 0,ii 0,ii 0,ii 0],0,true,4⟩∧∀i,i<j→zSe sc q' i=0) (fun s=>q'.ret.length-(s.e 17).i.toNat) ⟨0,by simp[up,ii,zD,zE]⟩ ?_
   rintro e' h' n' ⟨j,hj,q3,q4,q15,q16,q17,hag,b1,b2,hno⟩;simp only[]at q3 q4 q15 q16 q17 hag b1 b2;by_cases hlt:j<q'.ret.length
   ·obtain⟨id,off,k,c',rfl,hk,ho,hc',hcr⟩:=zHj x4 hlt
    have ha':=wR hn hk hag;have hw:=yK (j:=j) (by omega)
    have hw1:off+(j+1)≤k.cells.length:=by omega
    have hsm:=hq.rt j hlt;have ht:=hrt j hlt;have hmiss:=fun hy=>zAv (p:=fun i=>zSe sc q' i=0) hno hy
    have hhit:=fun hy:zSe sc q' j≠0=>zG2 (f:=zSe sc q') hno hy hlt
    have hE:zSe sc q' j=(yEo sc q' (q'.ret.getD j [])).2:=rfl;have hRF:zUl sc q'=if (zFp (zSe sc q') q'.ret.length).2≠0 then ⟨(zFp (zSe sc q') q'.ret.length).2,5,(zFp (zSe sc q') q'.ret.length).1,(yEo sc q' (q'.ret.getD (zFp (zSe sc q') q'.ret.length).1.toNat [])).1⟩else fl0:=by unfold zUl;rw[if_neg h8]
    have gr:rd dNs h' c'=some (q'.ret.getD j []):=xP hn hcr _ hag;have u1:=(zN hcr).1;have u2:=(zN hcr).2.1;have u3:=(zN hcr).2.2.1;have hfn:rFn.run h' (.f (.func 158) [] [.p (n+1) 0 0])=some (true,sc,q',cs):=by
     simp only[rFn,rAt,rC,b1,zT,if_true,gf _ hag,zK]
    have hWR:yEo sc q' (q'.ret.getD j [])=if (wlk sc q' (q'.ret.getD j []) true).2=0∧zC9 (q'.ret.getD j [])=true then (((q'.ret.getD j []).length:Int)-1,75)else wlk sc q' (q'.ret.getD j []) true:=rfl
    generalize htg:q'.ret.getD j []=t at *;have hpos:0<t.length:=(zCt ht).pos;have hsm':t.length*64≤140737488355328:=hsm;obtain⟨m,hm⟩:∃m,t.length=m+1:=⟨t.length-1,by omega⟩
    have hwm:=zRx (e:=m) (by unfold big;omega)
    have hwm':IntKind.i64.wrap ((t.length:Int)-1)=(t.length:Int)-1:=by rw[hm,hwm];omega
    have hok:zXo (t,true,sc,q',cs):=⟨hsm,ht,hak⟩;obtain⟨⟨wi,we⟩,hwk⟩:∃x,wlk sc q' t true=x:=⟨_,rfl⟩;rw[hwk]at hWR;simp only[]at hWR;simp only[ii]at b2;by_cases hwe:we=0
    ·subst hwe
     cases htr:zC9 t with
     | false =>
      rw[htr,if_neg (by simp)]at hWR
      rw[hWR]at hE;have h3:=hmiss hE;simp[evx,q3,q4,q15,q16,q17,ii,bv,hlt,ha',hc',hw1,b1,b2,u3,zUg,zN5,yH,de2,rL,gr,hfn,hok,zJ6,hwk,G44,deT,hsm,hpos,htr,hw];exact⟨⟨j+1,by omega,by omega,hag,h3⟩,by omega⟩
     | true =>
      rw[htr,if_pos ⟨rfl,rfl⟩]at hWR;rw[hWR]at hE;have h3:=hhit (by rw[hE];simp)
      rw[h3,if_pos (by rw[hE];simp)]at hRF
      simp only[yF,htg,hWR]at hRF;simp[evx,q3,q4,q15,q16,q17,ii,bv,hlt,ha',hc',hw1,b2,u1,u2,u3,zUg,zN5,yH,de2,rL,gr,hfn,hok,zJ6,hwk,G44,deT,hsm,hpos,htr,hRF,ff,wT,hwm',hE]
    ·rw[if_neg (fun h=>hwe h.1)]at hWR
     rw[hWR]at hE;have h3:=hhit (by rw[hE];exact hwe)
     rw[h3,if_pos (by rw[hE];exact hwe)]at hRF
     simp only[yF,htg,hWR]at hRF;simp[evx,q3,q4,q15,q16,q17,ii,hlt,ha',hc',hw1,b2,u3,zUg,zN5,yH,de2,rL,gr,hfn,hok,zJ6,hwk,hwe,hRF,ff,wT,hE]
   ·obtain rfl:j=q'.ret.length:=by omega
    have hF:zUl sc q'=fl0:=by unfold zUl;rw[if_neg h8,zDe hno];rfl
    simp only[ii]at b2;simp[evx,q4,q16,q17,ii,b2,hF,ff,wT,fl0]
 exact key _ rfl rfl
def yKu:=yH (de2 rSc rQ) yF1 fun q=>ff (chk q.1 q.2)
def zHg:List (FuncId×(List AV→Heap→PRes)):=[(99,yH8),(100,yKg),(101,yKt),(104,GWh),(105,zZr),(106,yKh)]
variable {sc:List Ty} {q:Qu} {h:Heap} {n:Nat} {x a b c:AV}
structure I54 (h:Heap) (n:Nat) (x a b c:AV) (q:Qu) (s:St):Prop where
 q2:s.e 2=.p n 0 0
 q3:s.e 3=.p (n+1) 0 0
 q4:s.e 4=.p (n+2) 0 0
 ag:agree n (roH h) s.h
 b0:s.h n=some ⟨[x],0,true,1⟩
 b1:s.h (n+1)=some ⟨[a,ii q.mode,ii q.after,b,ii q.within,ss q.par,c],0,true,7⟩
 b2:s.h (n+2)=some ⟨[ii 0,ii 0,ii 0,ii 0],0,true,4⟩
 nn:n+3≤s.n
 fr:Fresh s.n s.h
structure J54 (h:Heap) (n:Nat) (x a b c:AV) (q:Qu) (cs:List AV) (s:St):Prop extends I54 h n x a b c q s where
 ask:∃m w,s.e 8=.f (.func 102) [] [.p n 0 0,.p (n+1) 0 0,.p w 0 0]∧s.h w=some ⟨[.mv m 0],0,true,1⟩∧s.h m=some ⟨cs,0,true,0⟩∧n+3≤w∧n+3≤m∧w<s.n∧m<s.n
 isM:isM (ixM (vars q.items)) cs
theorem J54.run {cs:List AV} {s:St} (j:J54 h n x a b c q cs s) (hn:∀i,n≤i→h i=none) (e1:zIp h (.g [x])=some sc) (e2:deQ h (.g [a,ii q.mode,ii q.after,b,ii q.within,ss q.par,c])=some q):rAsk.run s.h (s.e 8)=some (sc,q,cs):=by
 obtain⟨m,w,k1,k2,k3,_⟩:=j.ask;have g1:=zDq hn e1 _ j.ag;have g2:=zKe hn e2 _ j.ag;rw[k1];simp only[rAsk,de3,rAt,rC,j.b0,j.b1,k2,rM,k3,if_true,zT,rSc,rQ,g1,g2,zK]
theorem yO3 (e1:zIp h (.g [x])=some sc) (e2:deQ h (.g [a,ii q.mode,ii q.after,b,ii q.within,ss q.par,c])=some q) (hn:∀i,n≤i→h i=none) (hsc:zCa sc) (hq:QuSm q) (s:St) (i:I54 h n x a b c q s) {Q:Ex→St→Prop} :
  awp (cx [3] (pfL zHg)) (hdC 2 (tlC 4 (Tryz.f54.body.getD .skip))) (zAs (fun s=>∃cs,J54 h n x a b c q cs s) Q) s:=by
 obtain⟨e',h',n'⟩:=s;obtain⟨q2,q3,q4,hag,b0,b1,b2,hnn,hfr⟩:=i;simp only[ii,ss]at q2 q3 q4 hag b0 b1 b2 hnn hfr;have g2:=zKe hn e2 _ hag;obtain⟨a',b',c',hx,x2,x3,x4⟩:=wH e2;cases hx;have o1:=(zN x2).2.2.1;have o2:=(zN x3).2.2.1;have o3:=(zN x4).2.2.1;simp[evx,hdC,tlC,Tryz.f54,q2,q3,b1,zHg];simp only[ii,ss]at g2;refine (wD (S:=[]) (by simp) (c84 g2 hq.it hfr)).mono ?_
 rintro z h2 n2 ⟨a1,a2,a3,m,cs,rfl,hm,hM,hm1,hm2⟩;simp[evx];have z:∀i b1 b2,i<n2→up (up h2 n2 b1) n2 b2 i=h2 i:=fun i b1 b2 hi=>by rw[zP _ _ (by omega),zP _ _ (by omega)]
 refine⟨cs,⟨⟨by simp[up,q2],by simp[up,q3],by simp[up,q4],fun i hi => ?_,?_,?_,?_,?_,?_⟩,⟨m,n2,by simp[up],by simp[up],?_,by omega,by omega,show n2<n2+2 by omega,show m<n2+2 by omega⟩,hM⟩⟩
 ·simp only[];rw[z _ _ _ (by omega),a1 i (by omega)];exact hag i hi
 ·simp only[];rw[z _ _ _ (by omega),a1 n (by omega)];exact b0
 ·simp only[];rw[z _ _ _ (by omega),a1 _ (by omega)];simpa[ii,ss]using b1
 ·simp only[];rw[z _ _ _ (by omega),a1 _ (by omega)];simpa[ii]using b2
 ·show n+3≤n2+2;omega
 ·show Fresh (n2+2) _;exact (zF (by omega) _).2 ((zF (by omega) _).2 (a2.add 2))
 ·simp only[];rw[z _ _ _ (by omega)];exact hm
theorem P54:P0 [3] 54 yKu:=by
 refine mkH 2 (S:=[3]) (l:=zHg) (zS P99 (zS yQ4 (zS yQ3 (zS yQ0 (zS yQz (zS yQy yJ)))))) Tryz.func54 rfl (by kernel_rfl) zAz zBx (fun a=>rfl) (fun args q h n e hp hn => ?_)
 obtain⟨x,y,rfl,e1,e2⟩:=zBm e;obtain⟨sc,q⟩:=q;obtain⟨hsc,hq⟩:=hp;simp only[]at e1 e2 hsc hq ⊢;replace e1:zIp h x=some sc:=e1;replace e2:deQ h y=some q:=e2;have g1:=zDq hn e1;have g2:=zKe hn e2;obtain⟨x,rfl,ex⟩:=zBd e1;have t3:=(zN ex).2.2.1;have t4:=(zN ex).2.2.2.1;obtain⟨a,b,c,rfl,x2,x3,x4⟩:=wH e2;have o1:=(zN x2).2.2.1;have o2:=(zN x3).2.2.1;have o3:=(zN x4).2.2.1;have p1:=(zN x2).2.2.2.1;have p2:=(zN x3).2.2.2.1;have p3:=(zN x4).2.2.2.1;have hok:yF1 (sc,q):=⟨hsc,hq⟩;have hcd:chk sc q=if zLf sc≠0 then ⟨zLf sc,0,0,0⟩else if shQ q=false then ⟨50,0,0,0⟩else if (zMc sc q).code≠0 then zMc sc q else if (whF sc q).code≠0 then whF sc q else
  if 1099511627776<q.within then ⟨66,2,0,0⟩else if emB q.par=false∧zGu sc q=false then ⟨67,3,0,0⟩else zUl sc q:=rfl
 have gq0:=g2;simp only[ii,ss]at g2;have hag3:∀b0 b1 b2,agree n (roH h) (up (up (up (roH h) n b0) (n+1) b1) (n+2) b2):=fun b0 b1 b2=>by simp[zD,zE]
 have hagf:∀h' b0 b1 b2,h'=up (up (up (roH h) n b0) (n+1) b1) (n+2) b2→agree n (roH h) h':=fun h' b0 b1 b2 e=>by rw[e];exact hag3 _ _ _
 have key:∀e:Nat→AV,e 0=.g [x]→e 1=.g [a,ii q.mode,ii q.after,b,ii q.within,ss q.par,c]→awp (cx [3] (pfL zHg)) (Tryz.f54.body.getD .skip) (zBc (cx [3] (pfL zHg)) Tryz.f54 fun z _ _=>z=ff (chk sc q)) ⟨e,roH h,n⟩:=fun e q0 q1=>by
  by_cases h1:zLf sc=0
  ·rw[if_neg (not_not_intro h1)]at hcd
   cases h2:shQ q with
   | false =>
    rw[h2,if_pos rfl]at hcd;simp[evx,Tryz.f54,q0,q1,ii,ss,bv,t4,p1,p2,p3,zHg,yH8,yKg,yH,de1,rSc,rQ,g1,g2,hag3,hsc,hq,h1,h2,hcd,ff,wT]
   | true =>
    rw[h2,if_neg (by simp)]at hcd
    by_cases h3:(zMc sc q).code=0
    ·rw[if_neg (not_not_intro h3)]at hcd
     refine zZ 4 _ _ (R:=I54 h n x a b c q) ?_ fun y1 h1' n1 i1 => ?_
     ·simp[evx,hdC,Tryz.f54,q0,q1,ii,ss,bv,t4,p1,p2,p3,zHg,yH8,yKg,yKt,yH,de1,de2,rSc,rQ,g1,g2,hag3,hsc,hq,hok,h1,h2,h3,ff,wT]
      exact⟨by simp[up],by simp[up],by simp[up],by simp[zD,zE],by simp[up],by simp[up,ii,ss],by simp[up,ii],by simp,fun i hi=>by simp only[]at hi;simp only[];rw[zP _ _ (by omega),zP _ _ (by omega),zP _ _ (by omega),zP _ _ (by omega),zP _ _ (by omega)];simp[roH,hn i (by omega)]⟩
     refine zZ 2 _ _ (yO3 e1 e2 hn hsc hq _ i1) fun y2 h2' n2 ⟨cs,j⟩ => ?_
     have hask:=j.run hn e1 e2;obtain⟨⟨q2,q3,q4,hag,b0,b1,b2,hnn,hfr⟩,⟨m,w,q8,hw,hm,hw3,hm3,hwn,hmn⟩,hM⟩:=j;simp only[ii,ss]at q2 q3 q4 hag b0 b1 b2 hnn hfr q8 hw hm hask;rw[q8]at hask;have gs:=g1 _ hag;have gq:=g2 _ hag;have hak:zKj (sc,q,cs):=⟨hsc,hq,hM⟩;obtain⟨_,h10,_,_⟩:=zYg h3;have hsh:=h2;simp only[shQ,zO,Bool.or_eq_true,decide_eq_true_eq]at hsh;have hwt:q.wh.length=0∨zAh q.wh=true:=hsh.1.1.2;have hrt:∀i,i<q.ret.length→zAh (q.ret.getD i [])=true:=(zFj []).1 hsh.2;have hokw:yNa (q,sc,q,cs):=⟨hak,hq,h10,hwt,rfl⟩;have hokr:yI6 (q,sc,q,cs):=⟨hak,hq,hrt,rfl⟩;have y0:¬n=n2:=by omega
     have y1':¬n+1=n2:=by omega
     have y2':¬n+2=n2:=by omega
     have y3':¬n2=n+2:=by omega
     by_cases h4:(whF sc q).code=0
     ·rw[if_neg (not_not_intro h4)]at hcd
      have hag2:∀b1 b2,agree n (roH h) (up (up h2' n2 b1) n2 b2):=fun b1 b2=>by simp[zD,show n≤n2 by omega,hag]
      have hask2:∀bb1 bb2,rAsk.run (up (up h2' n2 bb1) n2 bb2) (.f (.func 102) [] [.p n 0 0,.p (n+1) 0 0,.p w 0 0])=some (sc,q,cs):=fun bb1 bb2=>by
       have z:∀i,i<n2→up (up h2' n2 bb1) n2 bb2 i=h2' i:=fun i hi=>by rw[zP _ _ (by omega),zP _ _ (by omega)]
       have gs2:=g1 _ (hag2 bb1 bb2);have gq2:=g2 _ (hag2 bb1 bb2);simp only[rAsk,de3,rAt,rC,z n (by omega),z (n+1) (by omega),z w hwn,z m hmn,b0,b1,hw,rM,hm,if_true,zT,rSc,rQ,gs2,gq2,zK]
      by_cases h5:1099511627776<q.within
      ·rw[if_pos h5]at hcd
       simp[evx,tlC,Tryz.f54,q3,q4,q8,b1,b2,ii,zHg,GWh,yH,de2,rQ,gq,hask,hokw,ff,wT,y1',y2',h4,h5,hcd]
      ·rw[if_neg h5]at hcd
       have hem2:(q.par != ByteArray.mk #[]) = !emB q.par:=rfl;cases h6:emB q.par with
       | true =>
        rw[h6,if_neg (by simp)]at hcd
        simp[evx,tlC,Tryz.f54,q2,q3,q4,q8,b0,b1,b2,ii,bv,zHg,GWh,zZr,yKh,yH,de2,rSc,rQ,gq,hask,hask2,g1,g2,hag2,hokw,hokr,hok,ff,wT,y0,y1',y2',h4,h5,hem2,h6,hcd]
       | false =>
        cases h7:zGu sc q with
        | true =>
         rw[h7,if_neg (by simp)]at hcd
         simp[evx,tlC,Tryz.f54,q2,q3,q4,q8,b0,b1,b2,ii,bv,zHg,GWh,zZr,yKh,yH,de2,rSc,rQ,gq,hask,hask2,g1,g2,hag2,hokw,hokr,hok,ff,wT,y0,y1',y2',h4,h5,hem2,h6,h7,hcd]
        | false =>
         rw[h6,h7,if_pos ⟨rfl,rfl⟩]at hcd;simp[evx,tlC,Tryz.f54,q2,q3,q4,q8,b0,b1,b2,ii,bv,zHg,GWh,zZr,yKh,yH,de2,rSc,rQ,gq,hask,g1,g2,hag2,hokw,hok,ff,wT,y0,y1',y2',h4,h5,hem2,h6,h7,hcd]
     ·rw[if_pos h4]at hcd
      simp[evx,tlC,Tryz.f54,q3,q4,q8,b1,b2,ii,zHg,GWh,yH,de2,rQ,gq,hask,hokw,ff,wT,y2',h4,hcd]
    ·rw[if_pos h3]at hcd
     simp[evx,Tryz.f54,q0,q1,ii,ss,bv,t4,p1,p2,p3,zHg,yH8,yKg,yKt,yH,de1,de2,rSc,rQ,g1,g2,hag3,hsc,hq,hok,h1,h2,h3,hcd,ff,wT]
  ·rw[if_pos h1]at hcd
   simp[evx,Tryz.f54,q0,q1,ii,ss,t4,p1,p2,p3,zHg,yH8,yH,de1,rSc,g1,hag3,hsc,h1,hcd,ff,wT]
 exact key _ rfl rfl
end
end
section
def zQj:List (FuncId×(List AV→Heap→PRes)):=[(54,yKu)]
def zJr:AV:=.v (.slice none 0 0)
def zpl:List AV:=[zJr,zJr,ii 0,ii 0,zJr,ii 0,ss ByteArray.empty,zJr,zJr,zJr,zJr,zJr,zJr,zJr,bv false,bv false]
def zA2 (q:Qu) (qa qb qc:AV):List AV:=[qa,ii q.mode,ii q.after,qb,ii q.within,ss q.par,qc]
def Q17 (h:Heap) (n:Nat) (sc:List Ty) (q:Qu) (z:AV) (h':Heap) (n':Nat):Prop :=
 agree n h h'∧Fresh n' h'∧n≤n'∧(((chk sc q).code≠0∧z=.t [.g zpl,ff (chk sc q)])∨((chk sc q).code=0∧∃p,z=.t [.g (xR p (xY sc q)),ff fl0]∧PlR h' p (xY sc q)))
structure A17 (h:Heap) (n:Nat) (q:Qu) (sa qa qb qc:AV) (s:St):Prop where
 q2:s.e 2=.p n 0 0
 q3:s.e 3=.p (n+1) 0 0
 q4:s.e 4=.p (n+2) 0 0
 q5:s.e 5=.p (n+3) 0 0
 b2:s.h n=some ⟨[sa],0,true,1⟩
 b3:s.h (n+1)=some ⟨zA2 q qa qb qc,0,true,7⟩
 b4:s.h (n+2)=some ⟨zpl,0,true,16⟩
 b5:s.h (n+3)=some ⟨wT fl0,0,true,4⟩
 ag:agree n h s.h
 fr:Fresh s.n s.h
 nn:n+4≤s.n
theorem zX6 (X:Ctx) (h:Heap) (a:AV):ldcs X h a 0 16=[ldc X h a 0,ldc X h a 1,ldc X h a 2,ldc X h a 3,ldc X h a 4,ldc X h a 5,ldc X h a 6,ldc X h a 7,ldc X h a 8,ldc X h a 9,ldc X h a 10,ldc X h a 11,ldc X h a 12,ldc X h a 13,ldc X h a 14,ldc X h a 15]:=rfl
section
variable {h:Heap} {n:Nat} {sc:List Ty} {q:Qu} {sa qa qb qc:AV}
theorem yQk (e1:rd zE7 h sa=some sc) (e2:deQ h (.g (zA2 q qa qb qc))=some q) (hok:yF1 (sc,q)) (hn:Fresh n h) (e:Nat→AV) (q0:e 0=.g [sa]) (q1:e 1=.g (zA2 q qa qb qc)) :
  awp (cz [3] (pfL zQj)) (hdC 2 (Tryz.f17.body.getD .skip)) (zAs (fun s=>A17 h n q sa qa qb qc s∧(chk sc q).code=0) (zBc (cz [3] (pfL zQj)) Tryz.f17 (Q17 h n sc q))) ⟨e,h,n⟩:=by
 obtain⟨a',b',c',e0,x1,x2,x3⟩:=wH e2;cases e0;have o1:=(zN e1).2.2.2.1;have o2:=(zN x1).2.2.2.1;have o3:=(zN x2).2.2.2.1;have o4:=(zN x3).2.2.2.1;have g1:∀h',agree n h h'→zIp h' (.g [sa])=some sc:=fun h' ha=>yT hn e1 h' ha
 have g2:∀h',agree n h h'→deQ h' (.g [qa,.v (.int .i64 q.mode),.v (.int .i64 q.after),qb,.v (.int .i64 q.within),.v (.string q.par),qc])=some q:=fun h' ha=>zNk (yT hn x1 h' ha) (yT hn x2 h' ha) (yT hn x3 h' ha)
 obtain⟨F,hF⟩:∃F,F=chk sc q:=⟨_,rfl⟩;by_cases hc:F.code=0
 ·have hz:=(zZ2 (sc:=sc) (q:=q) (by rw[←hF];exact hc)).1
  rw[hz]at hF;subst hF;simp[evz,hdC,Tryz.f17,q0,q1,zA2,ii,ss,o1,o2,o3,o4,zQj,yKu,yH,de2,rSc,rQ,g1,g2,zD,zE,hok,hz,ff,wT,fl0];exact⟨by simp[up],by simp[up],by simp[up],by simp[up],by simp[up],by simp[up,zA2,ii,ss],by simp[up,zpl,zJr,ii,ss,bv],by simp[up,wT,fl0,ii],by simp[zD,zE],by simp[zF,hn.add],by simp⟩
 ·have hcc:¬(chk sc q).code=0:=by rw[←hF];exact hc
  simp[evz,hdC,Tryz.f17,q0,q1,zA2,ii,ss,o1,o2,o3,o4,zQj,yKu,yH,de2,rSc,rQ,g1,g2,zD,zE,hok,←hF,ff,wT,hc,zX6];refine⟨fun _=>zAd rfl fun t ht => ?_,zAp (by kernel_rfl),?_,?_,by omega,.inl ⟨hcc,?_⟩⟩
  ·simp[wZ]at ht
   subst ht;exact⟨n+4,0,0,by simp[up],by omega⟩
  ·simp[zD,zE]
  ·simp[zF,hn.add]
  ·rw[←hF]
   simp[zpl,zJr,ii,ss,bv,ff,wT]
end
end
end Go.Proofs.YtbffkkeieihpdaaGreatDoor
