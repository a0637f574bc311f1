import Derived.Test.YtbffkkeieihpdaaGreatDoorE24
import Derived.Test.YtbffkkeieihpdaaGreatDoorE21
set_option linter.unusedSimpArgs false
set_option linter.unusedVariables false
set_option linter.constructorNameAsVariable false
set_option maxRecDepth 100000
set_option maxHeartbeats 4000000
namespace Go.Proofs.YtbffkkeieihpdaaGreatDoor
open Go Go.Eng
structure QuSm (q:Qu):Prop where
 it:q.items.length<big
 ty:∀i,i<q.items.length→(q.items.getD i it0).types.length<big
 wh:xQ q.wh
 rl:q.ret.length<big
 rt:∀i,i<q.ret.length→xQ (q.ret.getD i [])
def yF1 (q:List Ty×Qu):Prop:=zCa q.1∧QuSm q.2
def zZr:=yH (de2 rSc rQ) yF1 fun q=>bv (zGu q.1 q.2)
def zOl:List (FuncId×(List AV→Heap→PRes)):=[(153,yC4)]
theorem yQz:P0 [] 105 zZr:=by
 refine mkH 2 (S:=[]) (l:=zOl) (zS yNl yJ) Tryz.func105 rfl (by kernel_rfl) zAz zBx (fun a=>rfl) (fun args q h n e hp hn => ?_)
 obtain⟨x,y,rfl,e1,e2⟩:=zBm e;obtain⟨sc,q⟩:=q;obtain⟨hsc,hq⟩:=hp;simp only[]at e1 e2 hsc hq ⊢;have g1:=zDq hn e1;obtain⟨x,rfl,e5⟩:=zBd e1;have t3:=(zN e5).2.2.1;have t4:=(zN e5).2.2.2.1;obtain⟨a,b,c,rfl,x2,x3,x4⟩:=wH e2;obtain⟨s1,s2,s3,s4,s5⟩:=zN x2;have o2:=(zN x3).2.2.2.1;have o3:=(zN x4).2.2.2.1;have hqb:=hq.it;have hts:ByteArray.mk #[116,115]=tsB:=rfl;have key:∀e:Nat→AV,e 0=.g [x]→e 1=.g [a,ii q.mode,ii q.after,b,ii q.within,ss q.par,c]→awp (cx [] (pfL zOl)) (Tryz.f105.body.getD .skip) (zBc (cx [] (pfL zOl)) Tryz.f105 fun z _ _=>z=bv (zGu sc q)) ⟨e,roH h,n⟩:=fun e q0 q1=>by
  cases hp:(q.par==tsB)with
  | true =>
   have h1:zGu sc q=false:=by simp[zGu,hp]
   simp[evx,Tryz.f105,q0,q1,ii,ss,bv,s4,t4,o2,o3,hts,hp,h1]
  | false =>
   have h1:zGu sc q=q.items.all fun it=>zN8 sc it q.par:=by simp[zGu,hp]
   simp[evx,Tryz.f105,q0,q1,ii,ss,bv,s1,s2,s4,t4,o2,o3,hts,hp];refine yN (fun s=>∃j:Nat,j≤q.items.length∧s.e 2=.p n 0 0∧s.e 3=.p (n+1) 0 0∧s.e 11=a∧s.e 12=ii q.items.length∧s.e 13=ii j∧agree n (roH h) s.h∧s.h n=some ⟨[x],0,true,1⟩∧s.h (n+1)=some ⟨[a,ii q.mode,ii q.after,b,ii q.within,ss q.par,c],0,true,7⟩∧n+2≤s.n∧∀i,i<j→zN8 sc (q.items.getD i it0) q.par=true) (fun s=>q.items.length-(s.e 13).i.toNat) ⟨0,by simp[up,ii,ss,zD,zE]⟩ ?_
   rintro e' h' n' ⟨j,hj,q2,q3,q11,q12,q13,hag,hb0,hb1,hnn,hno⟩;simp only[]at q2 q3 q11 q12 q13 hag hb0 hb1 hnn;by_cases hlt:j<q.items.length
   ·obtain⟨id,off,k,ty,rfl,hk,ho,c0,c1,c2,c3,c4,e6⟩:=zHv x2 hlt
    have ha':=wR hn hk hag;have hw:=yK (j:=j) (by omega)
    have hw1:off+(j*5+5)≤k.cells.length:=by omega
    have hty:=hq.ty j hlt;have hmiss:=fun hy=>zAv (p:=fun i=>zN8 sc (q.items.getD i it0) q.par=true) hno hy
    have hhit:zN8 sc (q.items.getD j it0) q.par=false→zGu sc q=false:=fun hy=>by rw[h1];exact zLd (d:=it0) hlt hy
    have u3:=(zN e6).2.2.1;have u4:=(zN e6).2.2.2.1;have g6:=xP hn e6;generalize q.items.getD j it0=it at *;obtain⟨ng,types,var,lo,hi⟩:=it;simp only[]at c0 c1 c2 c3 c4 e6 hty g6 hmiss hhit;simp only[ii,ss,bv]at c0 c1 c2 c3 c4 hb1;have z0:¬n=n':=by omega
    have z1:¬n+1=n':=by omega
    have z2:¬id=n':=by have:=xB hk hn;omega
    have hag2:∀b1 b2,agree n (roH h) (up (up h' n' b1) n' b2):=fun b1 b2=>by simp[zD,show n≤n' by omega,hag]
    cases hy:zN8 sc ⟨ng,types,var,lo,hi⟩ q.par with
    | false =>
     have h2:=hhit hy;simp[evx,q2,q3,q11,q12,q13,ii,ss,bv,hlt,ha',c0,c1,c2,c3,c4,hw1,hb0,hb1,u4,z0,z1,zOl,yC4,yH,de3,rSc,rIt,rG,dIt,zGa,rS,deS,g1,g6,hag2,hsc,hty,hy,h2]
    | true =>
     have h2:=hmiss hy;simp[evx,q2,q3,q11,q12,q13,ii,ss,bv,hlt,ha',c0,c1,c2,c3,c4,hw1,hb0,hb1,u4,z0,z1,zOl,yC4,yH,de3,rSc,rIt,rG,dIt,zGa,rS,deS,g1,g6,hag2,hsc,hty,hy,hw];exact⟨⟨j+1,by omega,by omega,by omega,fun i hi=>by have:=h2 i hi;simpa using this⟩,by omega⟩
   ·obtain rfl:j=q.items.length:=by omega
    have h2:zGu sc q=true:=by rw[h1];exact (zFj it0).2 hno
    simp[evx,q12,q13,ii,h2]
 exact key _ rfl rfl
section
theorem yBz {l:List ByteArray} {v:ByteArray} {j:Nat} (hj:j<l.length) (hv:l[j]=v):(ixM (l.take j) v).isSome=decide (wY l v<j):=by
 have h1:(l.take j).findIdx (· == v)=min j (l.findIdx (· == v)):=List.findIdx_take;have h2:(l.take j).length=j:=by rw[zW];omega
 have h3:l.findIdx (· == v)<l.length:=List.findIdx_lt_length_of_exists ⟨l[j],zH hj,by rw[hv,zD6]⟩
 unfold ixM wY;rw[h1,h2,if_pos h3];by_cases h4:l.findIdx (· == v)<j
 ·rw[if_pos (by omega),if_pos (by omega)]
  simp;omega
 ·rw[if_neg (by omega)]
  simp;omega
theorem yB0 {sc:List Ty} {q:Qu} {j:Nat} (h10:¬10<q.items.length) (hj:j<q.items.length) (h0:∀i,i<j→itE sc q i=0) (h1:itE sc q j≠0):zMc sc q=⟨itE sc q j,1,j,0⟩:=by
 unfold zMc;rw[if_neg h10,zG2 h0 h1 hj,if_pos h1]
def zUt (q:Qu) (j:Nat):Nat:=((q.items.take j).filter fun it => !it.neg).length
theorem zXe {q:Qu} {j:Nat} (hj:j<q.items.length):zUt q (j+1)=if (q.items.getD j it0).neg=true then zUt q j else zUt q j+1:=by
 have hg:q.items.getD j it0=q.items[j]:=by rw[zB,zA hj];rfl
 unfold zUt;rw[yY hj,zCh,zM,hg];cases hng:q.items[j].neg<;>simp[hng]
theorem zXd {q:Qu}:zUt q q.items.length=0↔q.items.all (·.neg)=true:=by
 unfold zUt;rw[wW,zX,List.filter_eq_nil_iff,zR];simp
theorem yFn (q:Qu) (j:Nat):zUt q j≤j:=by
 unfold zUt;have h1:=wS (fun it:It => !it.neg) (q.items.take j)
 rw[zW]at h1;omega
def yKt:=yH (de2 rSc rQ) yF1 fun q=>ff (zMc q.1 q.2)
def zOm:List (FuncId×(List AV→Heap→PRes)):=[(152,zVv)]
section
variable {sc:List Ty} {q:Qu} {h:Heap} {n:Nat} {x a b c:AV}
structure I101 (h:Heap) (n:Nat) (x a b c:AV) (sc:List Ty) (q:Qu) (j:Nat) (s:St):Prop where
 q2:s.e 2=.p n 0 0
 q3:s.e 3=.p (n+1) 0 0
 q4:s.e 4=.p (n+2) 0 0
 q5:s.e 5=.mv (n+3) 0
 q6:s.e 6=ii (zUt q j)
 q19:s.e 19=a
 q20:s.e 20=ii q.items.length
 q21:s.e 21=ii j
 ag:agree n (roH h) s.h
 b0:s.h n=some ⟨[x],0,true,1⟩
 b1:s.h (n+1)=some ⟨[a,ii q.mode,ii q.after,b,ii q.within,ss q.par,c],0,true,7⟩
 b2:s.h (n+2)=some ⟨[ii 0,ii 0,ii 0,ii 0],0,true,4⟩
 b3:∃cs,s.h (n+3)=some ⟨cs,0,true,0⟩∧isM (ixM ((vars q.items).take j)) cs
 nn:n+4≤s.n
 no:∀i,i<j→itE sc q i=0
theorem yMl (e1:zIp h (.g [x])=some sc) (x2:rd zG5 h a=some q.items) (hn:∀i,n≤i→h i=none) (hsc:zCa sc) (hq:QuSm q) (h10:¬10<q.items.length) (j:Nat) (hlt:j<q.items.length) (s:St) (i:I101 h n x a b c sc q j s) {Q:Ex→St→Prop} (hQ:∀s,I101 h n x a b c sc q (j+1) s→Q .normal s) (hR:∀s:St,s.e 4=.p (n+2) 0 0→s.h (n+2)=some ⟨wT (zMc sc q),0,true,4⟩→Q .ret s) :
  awp (cx [] (pfL zOm)) (yW (hdC 1 (tlC 4 (Tryz.f101.body.getD .skip)))) Q s:=by
 obtain⟨e',h',n'⟩:=s;obtain⟨q2,q3,q4,q5,q6,q19,q20,q21,hag,hb0,hb1,hb2,⟨cs,hm,hM⟩,hnn,hno⟩:=i;simp only[]at q2 q3 q4 q5 q6 q19 q20 q21 hag hb0 hb1 hb2 hm hnn;have g1:=zDq hn e1;obtain⟨_,hx,e5⟩:=zBd e1;cases hx;have t3:=(zN e5).2.2.1;obtain⟨id,off,k,ty,rfl,hk,ho,c0,c1,c2,c3,c4,e6⟩:=zHv x2 hlt;have ha':=wR hn hk hag;have hqb:=hq.it;have hw:=yK (j:=j) (by omega)
 have hpl:=yFn q j;have hwp:=yK (j:=zUt q j) (by unfold big;omega)
 have hps:=zXe hlt;have hw1:off+(j*5+5)≤k.cells.length:=by omega
 have hty:=hq.ty j hlt;have hlt':(j:Int)<(q.items.length:Int):=by omega
 have hhit:=yB0 (sc:=sc) h10 hlt hno;have hok:=hM.1;have hvl:(vars q.items).length=q.items.length:=by simp[vars]
 have hvj:j<(vars q.items).length:=by omega
 have hva:(vars q.items)[j]=(q.items.getD j it0).var:=by
  have:=zV8 (q:=q) hlt;rw[zA hvj]at this
  exact Option.some.inj this
 have hmiss:=fun hy=>zAv (p:=fun i=>itE sc q i=0) hno hy
 have htk:(vars q.items).take (j+1)=(vars q.items).take j++[(q.items.getD j it0).var]:=by rw[yY hvj,hva]
 have htl:((vars q.items).take j).length=j:=by rw[zW];omega
 have hti:=yBz hvj hva;have hf:=hM.2 (q.items.getD j it0).var;have hE:itE sc q j=if zEl sc (q.items.getD j it0)≠0 then zEl sc (q.items.getD j it0)else if wY (vars q.items) (q.items.getD j it0).var<j then 64 else 0:=rfl
 have u3:=(zN e6).2.2.1;have u4:=(zN e6).2.2.2.1;have g6:=xP hn e6;have hz:((0:Nat):Int)=0:=rfl;generalize q.items.getD j it0=it at *;obtain⟨ng,types,var,lo,hi⟩:=it;simp only[]at c0 c1 c2 c3 c4 e6 hty g6 hE hva htk hti hf hps;simp only[ii,ss,bv]at c0 c1 c2 c3 c4 hb1 hb2 q6 q20 q21;have z0:¬n=n':=by omega
 have z1:¬n+1=n':=by omega
 have z2:¬n+2=n':=by omega
 have z3:¬n+3=n':=by omega
 have z4:¬n'=n+3:=by omega
 have zi:¬id=n':=by have:=xB hk hn;omega
 have hag2:∀b1 b2,agree n (roH h) (up (up h' n' b1) n' b2):=fun b1 b2=>by simp[zD,show n≤n' by omega,hag]
 have hag3:∀b1 b2 b3,agree n (roH h) (up (up (up h' n' b1) n' b2) (n+3) b3):=fun b1 b2 b3=>by simp[zD,show n≤n' by omega,hag]
 by_cases hy:zEl sc ⟨ng,types,var,lo,hi⟩=0
 ·rw[if_neg (not_not_intro hy)]at hE
  cases hxx:ixM ((vars q.items).take j) var with
  | some i =>
   rw[hxx]at hf hti;simp only[zK,ii,zDv]at hf hti;have h2:wY (vars q.items) var<j:=by simpa using hti.symm
   rw[if_pos h2]at hE;have h3:=hhit (by rw[hE];decide)
   simp[evx,hdC,tlC,yW,Tryz.f101,ii,q2,q4,q5,q19,q20,q21,hlt',ha',c0,c1,c2,c3,c4,hw1,hb0,hb2,u4,z0,z2,z3,zOm,zVv,yH,de2,rSc,rIt,rG,dIt,zGa,g1,g6,hag2,hsc.1,hty,hy,hm,hok,hf];refine hR _ ?_ ?_<;>simp[up,q4,h3,hE,wT,ii]
  | none =>
   rw[hxx]at hf hti;simp only[Option.map_none,Option.isSome_none]at hf hti;have h2:¬wY (vars q.items) var<j:=by simpa using hti.symm
   rw[if_neg h2]at hE;have h3:=hmiss hE;have hnew:=zYe (l:=(vars q.items).take j) (x:=var) hxx;rw[htl]at hnew;have hMs:=zYj hM var j;cases ng with
   | true =>
    rw[if_pos rfl]at hps;simp[evx,hdC,tlC,yW,Tryz.f101,ii,q2,q5,q19,q20,q21,hlt',ha',c0,c1,c2,c3,c4,hw1,hb0,u4,z0,z3,z4,zOm,zVv,yH,de2,rSc,rIt,rG,dIt,zGa,g1,g6,hag2,hsc.1,hty,hy,hm,hok,hf,hw];refine hQ _ ?_;exact⟨by simp[up,q2],by simp[up,q3],by simp[up,q4],by simp[up,q5],by simp[up,q6,hps,ii],by simp[up,q19],by simp[up,q20,ii],by simp[up,ii],by simp[zD,show n≤n' by omega,hag],by simp[up,z0,hb0],by simp[up,z1,hb1,ii,ss],by simp[up,z2,hb2,ii],⟨zEu var (.v (.int .i64 j)) cs,by simp[up],by rw[htk,hnew];exact hMs⟩,by simp only[];omega,h3⟩
   | false =>
    rw[if_neg (by simp)]at hps
    simp[evx,hdC,tlC,yW,Tryz.f101,ii,q2,q5,q6,q19,q20,q21,hlt',ha',c0,c1,c2,c3,c4,hw1,hb0,u4,z0,z3,z4,zOm,zVv,yH,de2,rSc,rIt,rG,dIt,zGa,g1,g6,hag2,hsc.1,hty,hy,hm,hok,hf,hw,hwp];refine hQ _ ?_;exact⟨by simp[up,q2],by simp[up,q3],by simp[up,q4],by simp[up,q5],by simp[up,hps,ii],by simp[up,q19],by simp[up,q20,ii],by simp[up,ii],by simp[zD,show n≤n' by omega,hag],by simp[up,z0,hb0],by simp[up,z1,hb1,ii,ss],by simp[up,z2,hb2,ii],⟨zEu var (.v (.int .i64 j)) cs,by simp[up],by rw[htk,hnew];exact hMs⟩,by simp only[];omega,h3⟩
 ·rw[if_pos hy]at hE
  have h3:=hhit (by rw[hE];exact hy)
  simp[evx,hdC,tlC,yW,Tryz.f101,ii,q2,q4,q19,q20,q21,hlt',ha',c0,c1,c2,c3,c4,hw1,hb0,hb2,u4,z0,z2,zOm,zVv,yH,de2,rSc,rIt,rG,dIt,zGa,g1,g6,hag2,hsc.1,hty,hy];refine hR _ ?_ ?_<;>simp[up,q4,h3,hE,wT,ii]
end
theorem yQ3:P0 [] 101 yKt:=by
 refine mkH 2 (S:=[]) (l:=zOm) (zS yQu yJ) Tryz.func101 rfl (by kernel_rfl) zAz zBx (fun a=>rfl) (fun args q h n e hp hn => ?_)
 obtain⟨x,y,rfl,e1,e2⟩:=zBm e;obtain⟨sc,q⟩:=q;obtain⟨hsc,hq⟩:=hp;simp only[]at e1 e2 hsc hq ⊢;obtain⟨x,rfl,e5⟩:=zBd e1;have t3:=(zN e5).2.2.1;have t4:=(zN e5).2.2.2.1;obtain⟨a,b,c,rfl,x2,x3,x4⟩:=wH e2;obtain⟨s1,s2,s3,s4,s5⟩:=zN x2;have o2:=(zN x3).2.2.2.1;have o3:=(zN x4).2.2.2.1;have key:∀e:Nat→AV,e 0=.g [x]→e 1=.g [a,ii q.mode,ii q.after,b,ii q.within,ss q.par,c]→awp (cx [] (pfL zOm)) (Tryz.f101.body.getD .skip) (zBc (cx [] (pfL zOm)) Tryz.f101 fun z _ _=>z=ff (zMc sc q)) ⟨e,roH h,n⟩:=fun e q0 q1=>by
  by_cases h10:10<q.items.length
  ·have h1:zMc sc q=⟨60,1,10,0⟩:=by unfold zMc;rw[if_pos h10]
   have h10':(10:Int)<q.items.length:=by omega
   simp[evx,Tryz.f101,q0,q1,ii,ss,s1,s2,s4,t4,o2,o3,h10',h1,ff,wT]
  ·refine zZ 4 _ _ (R:=fun s=>s.e 2=.p n 0 0∧s.e 3=.p (n+1) 0 0∧s.e 4=.p (n+2) 0 0∧s.e 5=.mv (n+3) 0∧s.e 6=ii 0∧agree n (roH h) s.h∧s.h n=some ⟨[x],0,true,1⟩∧s.h (n+1)=some ⟨[a,ii q.mode,ii q.after,b,ii q.within,ss q.par,c],0,true,7⟩∧s.h (n+2)=some ⟨[ii 0,ii 0,ii 0,ii 0],0,true,4⟩∧s.h (n+3)=some ⟨[],0,true,0⟩∧n+4≤s.n) ?_ fun y1 h1 n1 hh => ?_
   ·have h10':¬(10:Int)<q.items.length:=by omega
    simp[evx,hdC,Tryz.f101,q0,q1,ii,ss,s1,s2,s4,t4,o2,o3,h10'];simp[zD,zE]
   obtain⟨q2,q3,q4,q5,q6,hag,hb0,hb1,hb2,hb3,hnn⟩:=hh;simp only[]at q2 q3 q4 q5 q6 hag hb0 hb1 hb2 hb3 hnn;refine zZ 1 _ _ (R:=fun s=>∃h0,s.e 4=.p (n+2) 0 0∧s.e 6=ii (zUt q q.items.length)∧s.h (n+2)=some ⟨[ii 0,ii 0,ii 0,ii 0],0,true,4⟩∧(∀i,i<q.items.length→itE sc q i=0)∧h0=s.h) ?_ fun y2 h2 n2 hh2 => ?_
   ·have e0:hdC 1 (tlC 4 (Tryz.f101.body.getD .skip))=.seq (hdC 1 (hdC 1 (tlC 4 (Tryz.f101.body.getD .skip)))) (.block 0 (.loop (yW (hdC 1 (tlC 4 (Tryz.f101.body.getD .skip)))))):=rfl
    rw[e0];simp[evx,hdC,tlC,Tryz.f101,q3,hb1,ii,ss,s1,s2];refine yN (fun s=>∃j,j≤q.items.length∧I101 h n x a b c sc q j s) (fun s=>q.items.length-(s.e 21).i.toNat) ⟨0,by omega,by simp[up,q2],by simp[up,q3],by simp[up,q4],by simp[up,q5],by simp[up,q6,zUt],by simp[up],by simp[up,ii],by simp[up,ii],hag,hb0,hb1,hb2,⟨[],hb3,by simpa[zYd]using zYk⟩,hnn,by omega⟩ ?_
    rintro e' h' n' ⟨j,hj,i⟩;by_cases hlt:j<q.items.length
    ·have i0:=i
     have q21:=i0.q21;simp only[]at q21;refine yMl e1 x2 hn hsc hq h10 j hlt _ i (fun s i' => ?_) (fun s g4 gb => ?_)
     ·have q21':=i'.q21
      simp only[zAw];refine⟨⟨j+1,by omega,i'⟩,?_⟩
      rw[q21,q21'];simp[ii,AV.i];omega
     ·simp[evx,g4,gb,wT,ff]
    ·obtain rfl:j=q.items.length:=by omega
     have q21:=i.q21;have q20:=i.q20;simp only[]at q20 q21;have hi4:=i.q4;have hi6:=i.q6;have hib:=i.b2;simp only[]at hi4 hi6 hib;simp[evx,yW,q20,q21,ii];exact⟨hi4,by simpa[ii]using hi6,by simpa[ii]using hib,i.no⟩
   ·obtain⟨h0,q4,q6,hb,hno,rfl⟩:=hh2
    simp only[]at q4 q6 hb;have hF:zMc sc q=if q.items.all (·.neg)=true then ⟨65,1,0,0⟩else fl0:=by
     unfold zMc;rw[if_neg h10,zDe hno,if_neg (by simp)]
    have hpz:=zXd (q:=q);by_cases hz:zUt q q.items.length=0
    ·rw[if_pos (hpz.1 hz)]at hF
     simp[evx,tlC,Tryz.f101,q4,q6,hb,ii,hz,hF,ff,wT]
    ·rw[if_neg (fun e=>hz (hpz.2 e))]at hF
     simp[evx,tlC,Tryz.f101,q4,q6,hb,ii,hz,hF,ff,wT,fl0]
 exact key _ rfl rfl
end
section
theorem zZ4 {h:Heap} {a:AV} {l:List Ty} (e:rd zE7 h a=some l) {i:Nat} (hi:i<l.length):∃id off k c,a=.s id k.ver off l.length∧h id=some k∧off+l.length*2≤k.cells.length∧
  k.cells[off+i*2]? = some (ss (l.getD i ty0).name)∧k.cells[off+(i*2+1)]? = some c∧rd dSs h c=some (l.getD i ty0).attrs:=by
 rcases zOg e with ⟨h0,_⟩|⟨id,off,k,h1,h2,h3,h4⟩
 ·rw[h0]at hi;simp at hi
 ·have hg:l.getD i ty0=l[i]:=by rw[zB,zA hi];rfl
  obtain⟨r1,c,r2,r3⟩:=h4 i hi;rw[hg];exact⟨id,off,k,c,h1,h2,h3,r1,r2,r3⟩
def yH8:=yH (de1 rSc) zCa fun sc=>ii (zLf sc)
def zFx:List (FuncId×(List AV→Heap→PRes)):=[(112,GTy),(149,zGm),(150,yEk)]
structure I99 (h:Heap) (n:Nat) (a:AV) (sc:List Ty) (j:Nat) (s:St):Prop where
 q1:s.e 1=.p n 0 0
 q18:s.e 18=a
 q19:s.e 19=ii sc.length
 q20:s.e 20=ii j
 ag:agree n (roH h) s.h
 b0:s.h n=some ⟨[a],0,true,1⟩
 nn:n+1≤s.n
structure K99 (h:Heap) (n:Nat) (a:AV) (sc:List Ty) (j:Nat) (t:Ty) (c:AV) (m:Nat) (s:St):Prop extends I99 h n a sc j s where
 q3:s.e 3=ii j
 q4:s.e 4=.p m 0 0
 b4:s.h m=some ⟨[ss t.name,c],0,true,2⟩
 mm:n+1≤m
section
variable {sc:List Ty} {h:Heap} {n:Nat} {a:AV}
theorem yAp {j:Nat} (h0:¬(sc.length=0∨16<sc.length)) (hj:j<sc.length) (hno:∀i,i<j→zQx sc i=0) (h1:zQx sc j≠0):zLf sc=zQx sc j:=by
 unfold zLf;rw[if_neg h0,zG2 hno h1 hj]
theorem yO2 (e5:rd zE7 h a=some sc) (hn:∀i,n≤i→h i=none) (j:Nat) (hlt:j<sc.length) {t:Ty} (ht:sc.getD j ty0=t) (s:St) (i:I99 h n a sc j s) {Q:Ex→St→Prop} :
  awp (cx [3] (pfL zFx)) (hdC 1 (inB (hdC 1 (tlC 2 (yW (hdC 1 (tlC 2 (Tryz.f99.body.getD .skip)))))))) (zAs (fun s=>∃c m,rd dSs h c=some t.attrs∧K99 h n a sc j t c m s) Q) s:=by
 obtain⟨e',h',n'⟩:=s;obtain⟨q1,q18,q19,q20,hag,hb0,hnn⟩:=i;simp only[]at q1 q18 q19 q20 hag hb0 hnn;obtain⟨id,off,k,c,rfl,hk,ho,c0,c1,e6⟩:=zZ4 e5 hlt;rw[ht]at c0 e6;have ha':=wR hn hk hag;have hw1:off+(j*2+2)≤k.cells.length:=by omega
 have u3:=(zN e6).2.2.1;have u4:=(zN e6).2.2.2.1;have z0:¬n=n':=by omega
 have zi:¬id=n':=by have:=xB hk hn;omega
 simp only[ss]at c0;simp[evx,hdC,tlC,yW,inB,Tryz.f99,q18,q20,ii,hlt,ha',c0,c1,hw1,u4];refine⟨c,e6,n',⟨⟨?_,?_,?_,?_,?_,?_,?_⟩,?_,?_,?_,?_⟩⟩
 ·simp[up,q1]
 ·simp[up,q18]
 ·simp[up,q19,ii]
 ·simp[up,q20,ii]
 ·simp[zD,show n≤n' by omega,hag]
 ·simp[up,z0,hb0]
 ·simp only[];omega
 ·simp[up,ii]
 ·simp[up]
 ·simp[up,ss]
 ·exact hnn
theorem yO1 (e1:zIp h (.g [a])=some sc) (hn:∀i,n≤i→h i=none) (hsc:zCa sc) {j:Nat} {t:Ty} {c:AV} {m:Nat} (e6:rd dSs h c=some t.attrs) (s:St) (i:K99 h n a sc j t c m s) {Q:Ex→St→Prop}
  (hQ:xJ t.name=true→wF sc t.name=j→¬8<t.attrs.length→∀s,K99 h n a sc j t c m s→Q .normal s)
  (hR:∀(s:St) x,(xJ t.name=false∧x=22)∨(xJ t.name=true∧wF sc t.name≠j∧x=25)∨(xJ t.name=true∧wF sc t.name=j∧8<t.attrs.length∧x=24)→s.e 2=ii x→Q .ret s) :
  awp (cx [3] (pfL zFx)) (hdC 1 (tlC 1 (inB (hdC 1 (tlC 2 (yW (hdC 1 (tlC 2 (Tryz.f99.body.getD .skip))))))))) Q s:=by
 obtain⟨e',h',n'⟩:=s;obtain⟨⟨q1,q18,q19,q20,hag,hb0,hnn⟩,q3,q4,hb4,hmm⟩:=i;simp only[]at q1 q18 q19 q20 hag hb0 hnn q3 q4 hb4;have g1:=zDq hn e1;obtain⟨_,hx,e5⟩:=zBd e1;cases hx;have t3:=(zN e5).2.2.1;obtain⟨u1,u2,u3,u4,u5⟩:=zN e6;simp only[ss,ii]at hb4 q3;obtain⟨name,attrs⟩:=t;simp only[]at hb4 e6 u2 hQ hR;have fin:∀e2,(∀i∈[1,18,19,20,3,4],e2 i=e' i)→K99 h n a sc j ⟨name,attrs⟩ c m ⟨e2,h',n'⟩:=fun e2 he =>
  ⟨⟨(he 1 (by simp)).trans q1,(he 18 (by simp)).trans q18,(he 19 (by simp)).trans q19,(he 20 (by simp)).trans q20,hag,hb0,hnn⟩,(he 3 (by simp)).trans (by simpa[ii]using q3),(he 4 (by simp)).trans q4,by simpa[ss]using hb4,hmm⟩
 cases h1:xJ name with
 | false =>
  simp[evx,hdC,tlC,yW,inB,Tryz.f99,q4,hb4,zFx,zGm,yV,deS,h1,bv];exact hR _ 22 (.inl ⟨h1,rfl⟩) (by simp[up,ii])
 | true =>
  by_cases h2:wF sc name=j
  ·by_cases h3:8<attrs.length
   ·have h3':(8:Int)<attrs.length:=by omega
    simp[evx,hdC,tlC,yW,inB,Tryz.f99,q1,q3,q4,hb0,hb4,ii,zFx,zGm,GTy,yV,yH,de2,rSc,rS,deS,g1,hag,hsc.1,h1,h2,h3',u1,u2,bv];exact hR _ 24 (.inr (.inr ⟨h1,h2,h3,rfl⟩)) (by simp[up,ii])
   ·have h3':¬(8:Int)<attrs.length:=by omega
    simp[evx,hdC,tlC,yW,inB,Tryz.f99,q1,q3,q4,hb0,hb4,ii,zFx,zGm,GTy,yV,yH,de2,rSc,rS,deS,g1,hag,hsc.1,h1,h2,h3',u1,u2,bv];exact hQ h1 h2 h3 _ (fin _ (by simp[up]))
  ·simp[evx,hdC,tlC,yW,inB,Tryz.f99,q1,q3,q4,hb0,hb4,ii,zFx,zGm,GTy,yV,yH,de2,rSc,rS,deS,g1,hag,hsc.1,h1,h2,bv]
   exact hR _ 25 (.inr (.inl ⟨h1,h2,rfl⟩)) (by simp[up,ii])
theorem yO0 (hn:∀i,n≤i→h i=none) {j:Nat} {t:Ty} {c:AV} {m:Nat} (e6:rd dSs h c=some t.attrs) (hsm:t.attrs.length<big) (s:St) (i:K99 h n a sc j t c m s) {Q:Ex→St→Prop}
  (hQ:(zFp (zZl t) t.attrs.length).2=0→∀s,I99 h n a sc j s→Q .normal s)
  (hR:∀(s:St),(zFp (zZl t) t.attrs.length).2≠0→s.e 2=ii (zFp (zZl t) t.attrs.length).2→Q .ret s) :
  awp (cx [3] (pfL zFx)) (tlC 2 (inB (hdC 1 (tlC 2 (yW (hdC 1 (tlC 2 (Tryz.f99.body.getD .skip)))))))) Q s:=by
 obtain⟨e',h',n'⟩:=s;obtain⟨⟨q1,q18,q19,q20,hag,hb0,hnn⟩,q3,q4,hb4,hmm⟩:=i;simp only[]at q1 q18 q19 q20 hag hb0 hnn q3 q4 hb4;obtain⟨u1,u2,u3,u4,u5⟩:=zN e6;have hts:ByteArray.mk #[116,115]=tsB:=rfl;simp only[ss,ii]at hb4 q3;simp[evx,hdC,tlC,yW,inB,Tryz.f99,q4,hb4,u1,u2];refine yN (fun s=>∃k:Nat,k≤t.attrs.length∧K99 h n a sc j t c m s∧s.e 43=c∧s.e 44=ii t.attrs.length∧s.e 45=ii k∧∀i,i<k→zZl t i=0) (fun s=>t.attrs.length-(s.e 45).i.toNat) ⟨0,by omega,⟨⟨by simp[up,q1],by simp[up,q18],by simp[up,q19],by simp[up,q20],hag,hb0,hnn⟩,by simp[up,q3,ii],by simp[up,q4],by simpa[ss]using hb4,hmm⟩,by simp[up],by simp[up,ii],by simp[up,ii],by omega⟩ ?_
 rintro e1 h1 n1 ⟨k,hk,⟨⟨q1,q18,q19,q20,hag,hb0,hnn⟩,q3,q4,hb4,hmm⟩,q43,q44,q45,hno⟩;simp only[]at q1 q18 q19 q20 hag hb0 hnn q3 q4 hb4 q43 q44 q45;by_cases hlt:k<t.attrs.length
 ·obtain⟨id,off,kb,rfl,hkb,ho,hat⟩:=zIc e6 hlt
  have ha':=wR hn hkb hag;have hw:=yK (j:=k) (by omega)
  have hw1:off+(k+1)≤kb.cells.length:=by omega
  have hmiss:=fun hy=>zAv (p:=fun i=>zZl t i=0) hno hy
  have hhit:=fun hy:zZl t k≠0=>zG2 (f:=zZl t) hno hy hlt
  have hE:zZl t k=if xJ (t.attrs.getD k ByteArray.empty)=false∨(t.attrs.getD k ByteArray.empty==tsB)=true then 22 else if wY t.attrs (t.attrs.getD k ByteArray.empty)≠k then 25 else 0:=rfl
  have g6:=xP hn e6;generalize t.attrs.getD k ByteArray.empty=y at *;simp only[ss,ii]at hat hb4 q3;have fin:∀e2,(∀i∈[1,18,19,20,3,4],e2 i=e1 i)→K99 h n a sc j t (.s id kb.ver off t.attrs.length) m ⟨e2,h1,n1⟩:=fun e2 he =>
   ⟨⟨(he 1 (by simp)).trans q1,(he 18 (by simp)).trans q18,(he 19 (by simp)).trans q19,(he 20 (by simp)).trans q20,hag,hb0,hnn⟩,(he 3 (by simp)).trans (by simpa[ii]using q3),(he 4 (by simp)).trans q4,by simpa[ss]using hb4,hmm⟩
  cases hy1:xJ y with
  | false =>
   rw[if_pos (.inl hy1)]at hE;have hh:=hhit (by rw[hE];decide)
   simp[evx,q43,q44,q45,ii,bv,hlt,ha',hat,hw1,zFx,zGm,yV,deS,hy1];exact hR _ (by rw[hh,hE];simp) (by simp[up,ii,hh,hE])
  | true =>
   cases hy2:(y==tsB)with
   | true =>
    rw[if_pos (.inr hy2)]at hE;have hh:=hhit (by rw[hE];decide)
    simp[evx,q43,q44,q45,ii,bv,hlt,ha',hat,hw1,zFx,zGm,yV,deS,hy1,hts,hy2];exact hR _ (by rw[hh,hE];simp) (by simp[up,ii,hh,hE])
   | false =>
    rw[if_neg (by rw[hy1,hy2];simp)]at hE
    by_cases hy3:wY t.attrs y=k
    ·rw[if_neg (not_not_intro hy3)]at hE
     have hm2:=hmiss hE;simp[evx,q4,q43,q44,q45,hb4,ii,bv,hlt,ha',hat,hw1,zFx,zGm,yEk,yV,yH,zRf,deS,g6,hag,hsm,hy1,hts,hy2,hy3,hw];exact⟨⟨k+1,by omega,fin _ (by simp[up]),by omega,hm2⟩,by omega⟩
    ·rw[if_pos hy3]at hE
     have hh:=hhit (by rw[hE];decide)
     simp[evx,q4,q43,q44,q45,hb4,ii,bv,hlt,ha',hat,hw1,zFx,zGm,yEk,yV,yH,zRf,deS,g6,hag,hsm,hy1,hts,hy2,hy3];exact hR _ (by rw[hh,hE];simp) (by simp[up,ii,hh,hE])
 ·obtain rfl:k=t.attrs.length:=by omega
  have hh:=zDe hno;have hQ':=hQ (by rw[hh])
  simp[evx,q44,q45,ii];refine hQ' _ ?_;exact⟨q1,q18,q19,q20,hag,hb0,hnn⟩
end
theorem P99:P0 [3] 99 yH8:=by
 refine mkH 1 (S:=[3]) (l:=zFx) (zS yKq (zS yKk (zS yNm yJ))) Tryz.func99 rfl (by kernel_rfl) zNw zRj (fun a=>rfl) (fun args sc h n e hsc hn => ?_)
 obtain⟨x,rfl,e1⟩:=zK3 e;have e1:zIp h x=some sc:=e1;obtain⟨a,rfl,e5⟩:=zBd e1;obtain⟨s1,s2,s3,s4,s5⟩:=zN e5;have hlb:=hsc.1;have key:∀e:Nat→AV,e 0=.g [a]→awp (cx [3] (pfL zFx)) (Tryz.f99.body.getD .skip) (zBc (cx [3] (pfL zFx)) Tryz.f99 fun z _ _=>z=ii (zLf sc)) ⟨e,roH h,n⟩:=fun e q0=>by
  by_cases h0:sc.length=0∨16<sc.length
  ·have h1:zLf sc=23:=by unfold zLf;rw[if_pos h0]
   rcases h0 with h0|h0
   ·simp[evx,Tryz.f99,q0,ii,s1,s2,s4,h0,h1]
   ·have h2:(16:Int)<sc.length:=by omega
    have h3:¬sc.length=0:=by omega
    simp[evx,Tryz.f99,q0,ii,s1,s2,s4,h2,h3,h1]
  ·have h2:¬(16:Int)<sc.length:=by omega
   have h3:¬sc.length=0:=by omega
   refine zZ 2 _ _ (R:=fun s=>s.e 1=.p n 0 0∧agree n (roH h) s.h∧s.h n=some ⟨[a],0,true,1⟩∧n+1≤s.n) ?_ fun y1 h1 n1 hh => ?_
   ·simp[evx,hdC,Tryz.f99,q0,ii,s1,s2,s4,h2,h3]
    simp[zD,zE]
   obtain⟨q1,hag,hb0,hnn⟩:=hh;simp only[]at q1 hag hb0 hnn;refine zZ 1 _ _ (R:=fun _=>∀i,i<sc.length→zQx sc i=0) ?_ fun y2 h2 n2 hno => ?_
   ·have e0:hdC 1 (tlC 2 (Tryz.f99.body.getD .skip))=.seq (hdC 1 (hdC 1 (tlC 2 (Tryz.f99.body.getD .skip)))) (.block 0 (.loop (yW (hdC 1 (tlC 2 (Tryz.f99.body.getD .skip)))))):=rfl
    rw[e0];simp[evx,hdC,tlC,Tryz.f99,q1,hb0,ii,s1,s2];refine yN (fun s=>∃j,j≤sc.length∧I99 h n a sc j s∧∀i,i<j→zQx sc i=0) (fun s=>sc.length-(s.e 20).i.toNat) ⟨0,by omega,⟨by simp[up,q1],by simp[up],by simp[up,ii],by simp[up,ii],hag,hb0,hnn⟩,by omega⟩ ?_
    rintro e' h' n' ⟨j,hj,i,hno⟩;have i0:=i;have q20:=i0.q20;have q19:=i0.q19;simp only[]at q20 q19;by_cases hlt:j<sc.length
    ·have hw:=yK (j:=j) (by omega)
     have hhit:zQx sc j≠0→zLf sc=zQx sc j:=yAp h0 hlt hno;have hmiss:=fun hy=>zAv (p:=fun i=>zQx sc i=0) hno hy
     have hE:zQx sc j=if xJ (sc.getD j ty0).name=false then 22 else if wF sc (sc.getD j ty0).name≠j then 25 else if 8<(sc.getD j ty0).attrs.length then 24 else (zFp (zZl (sc.getD j ty0)) (sc.getD j ty0).attrs.length).2:=rfl
     have hsm:(sc.getD j ty0).attrs.length<big:=hsc.2 _ (by rw[zB,zA hlt];exact zH hlt)
     generalize ht:sc.getD j ty0=t at *;have hret:∀s:St,s.e 2=ii (zLf sc)→resAll (cx [3] (pfL zFx)) s Tryz.f99.results.toList∧resVal (cx [3] (pfL zFx)) s Tryz.f99.results.toList=ii (zLf sc):=fun s hs=>by
      simp[evx,Tryz.f99,hs]
     refine zZ 2 _ _ (R:=I99 h n a sc j) ?_ fun e1' h1' n1' i1 => ?_
     ·simp[evx,hdC,yW,q19,q20,ii,hlt]
      obtain⟨a1,a2,a3,a4,a5,a6,a7⟩:=i;exact⟨by simpa[up]using a1,by simpa[up]using a2,by simpa[up]using a3,by simpa[up]using a4,a5,a6,a7⟩
     refine zZ 1 _ _ (R:=fun s=>zQx sc j=0∧I99 h n a sc j s) ?_ fun e2' h2' n2' ⟨hE0,i2⟩ => ?_
     ·show awp (cx [3] (pfL zFx)) (.block 1 (inB (hdC 1 (tlC 2 (yW (hdC 1 (tlC 2 (Tryz.f99.body.getD .skip)))))))) _ _
      rw[zAy];refine zZ 1 _ _ (yO2 e5 hn j hlt ht _ i1) fun e3' h3' n3' ⟨c,m,e6,k3⟩ => ?_
      refine zZ 1 _ _ (R:=fun s=>xJ t.name=true∧wF sc t.name=j∧¬8<t.attrs.length∧K99 h n a sc j t c m s) (yO1 e1 hn hsc e6 _ k3 (fun b1 b2 b3 s k4 => ?_) fun s x hx hs => ?_) fun e4' h4' n4' hh => ?_
      ·exact⟨b1,b2,b3,k4⟩
      ·have hx':zQx sc j=x∧x≠0:=by
        rcases hx with ⟨b1,rfl⟩|⟨b1,b2,rfl⟩|⟨b1,b2,b3,rfl⟩
        ·rw[hE,if_pos b1];exact⟨rfl,by decide⟩
        ·rw[hE,if_neg (by rw[b1];simp),if_pos b2];exact⟨rfl,by decide⟩
        ·rw[hE,if_neg (by rw[b1];simp),if_neg (not_not_intro b2),if_pos b3];exact⟨rfl,by decide⟩
       have hF:=hhit (by rw[hx'.1];exact hx'.2)
       exact hret s (by rw[hF,hx'.1];exact hs)
      ·obtain⟨b1,b2,b3,k4⟩:=hh
       rw[if_neg (by rw[b1];simp),if_neg (not_not_intro b2),if_neg b3]at hE
       refine yO0 hn e6 hsm _ k4 (fun h5 s i5 => ?_) fun s h5 hs => ?_
       ·exact⟨by rw[hE];exact h5,i5⟩
       ·have hF:=hhit (by rw[hE];exact h5)
        exact hret s (by rw[hF,hE];exact hs)
     ·obtain⟨a1,a2,a3,a4,a5,a6,a7⟩:=i2
      simp only[]at a1 a2 a3 a4 a5 a6 a7;simp[evx,tlC,yW,a4,ii,hw,q20];exact⟨⟨j+1,by omega,⟨by simp[up,a1],by simp[up,a2],by simp[up,a3,ii],by simp[up,ii],a5,a6,a7⟩,hmiss hE0⟩,by omega⟩
    ·obtain rfl:j=sc.length:=by omega
     simp[evx,yW,q19,q20,ii];exact hno
   ·have hF:zLf sc=0:=by unfold zLf;rw[if_neg h0,zDe hno]
    simp[evx,tlC,Tryz.f99,ii,hF]
 exact key _ rfl
end
def yKr:=yH (de1 rIt) (fun it=>it.types.length<big) fun it=>bv (zQk it)
def zLj:List (FuncId×(List AV→Heap→PRes)):=[(149,zGm)]
section
theorem yQv:P0 [3] 151 yKr:=by
 refine mkH 1 (S:=[3]) (l:=zLj) (zS yKk yJ) Tryz.func151 rfl (by kernel_rfl) zNw zRj (fun a=>rfl) (fun args it h n e hp hn => ?_)
 obtain⟨x,rfl,e1⟩:=zK3 e;obtain⟨ty,rfl,e6⟩:=zM0 e1;obtain⟨u1,u2,u3,u4,u5⟩:=zN e6;have key:∀e:Nat→AV,e 0=.g [bv it.neg,ty,ss it.var,ii it.lo,ii it.hi]→awp (cx [3] (pfL zLj)) (Tryz.f151.body.getD .skip) (zBc (cx [3] (pfL zLj)) Tryz.f151 fun z _ _=>z=bv (zQk it)) ⟨e,roH h,n⟩:=fun e q0=>by
  by_cases hb:it.types.length≠0∧xJ it.var=true∧0≤it.lo∧0≤it.hi
  ·obtain⟨b1,b2,b3,b4⟩:=hb
   have hS:zQk it=(it.types.all xJ&&(!it.neg||(decide (it.lo=1)&&decide (it.hi=1)))):=by
    simp[zQk,b1,b2,b3,b4]
   refine zZ 2 _ _ (R:=fun s=>s.e 1=.p n 0 0∧agree n (roH h) s.h∧s.h n=some ⟨[bv it.neg,ty,ss it.var,ii it.lo,ii it.hi],0,true,5⟩) ?_ fun y1 h1 n1 hh => ?_
   ·have c3:¬it.lo<0:=by omega
    have c4:¬it.hi<0:=by omega
    simp[evx,hdC,Tryz.f151,q0,ii,ss,bv,u1,u2,u4,b1,zLj,zGm,yV,deS,b2,c3,c4];simp[zD,zE]
   obtain⟨q1,hag,hb0⟩:=hh;simp only[]at q1 hag hb0;refine zZ 1 _ _ (R:=fun s=>it.types.all xJ=true∧s.e 1=.p n 0 0∧s.h n=some ⟨[bv it.neg,ty,ss it.var,ii it.lo,ii it.hi],0,true,5⟩) ?_ fun y2 h2 n2 hh2 => ?_
   ·simp[evx,hdC,tlC,Tryz.f151,q1,hb0,ii,ss,bv,u1,u2]
    refine yN (fun s=>∃j:Nat,j≤it.types.length∧s.e 1=.p n 0 0∧s.e 26=ty∧s.e 27=ii it.types.length∧s.e 28=ii j∧agree n (roH h) s.h∧s.h n=some ⟨[bv it.neg,ty,ss it.var,ii it.lo,ii it.hi],0,true,5⟩∧∀i,i<j→xJ (it.types.getD i ByteArray.empty)=true) (fun s=>it.types.length-(s.e 28).i.toNat) ⟨0,by omega,by simp[up,q1],by simp[up],by simp[up,ii],by simp[up,ii],hag,hb0,by omega⟩ ?_
    rintro e' h' n' ⟨j,hj,q1,q26,q27,q28,hag,hb0,hno⟩;simp only[]at q1 q26 q27 q28 hag hb0;by_cases hlt:j<it.types.length
    ·obtain⟨id,off,k,rfl,hk,ho,hat⟩:=zIc e6 hlt
     have ha':=wR hn hk hag;have hw:=yK (j:=j) (by omega)
     have hw1:off+(j+1)≤k.cells.length:=by omega
     have hmiss:=fun hy=>zAv (p:=fun i=>xJ (it.types.getD i ByteArray.empty)=true) hno hy
     have hhit:xJ (it.types.getD j ByteArray.empty)=false→zQk it=false:=fun hy=>by
      rw[hS,zLd (d:=ByteArray.empty) hlt hy];rfl
     generalize it.types.getD j ByteArray.empty=y at *;cases hy:xJ y with
     | false =>
      have h1:=hhit hy;simp[evx,q26,q27,q28,ii,ss,bv,hlt,ha',hat,hw1,zLj,zGm,yV,deS,hy,h1]
     | true =>
      have h1:=hmiss hy;simp[evx,q1,q26,q27,q28,ii,ss,bv,hlt,ha',hat,hw1,zLj,zGm,yV,deS,hy,hw,hag];exact⟨⟨j+1,by omega,by omega,by simpa[ii,ss,bv]using hb0,fun i hi=>by have:=h1 i hi;simpa using this⟩,by omega⟩
    ·obtain rfl:j=it.types.length:=by omega
     simp[evx,q1,q27,q28,ii];exact⟨fun x hx=>zR.1 ((zFj ByteArray.empty).2 hno) x hx,hb0⟩
   ·obtain⟨hall,q1,hb0⟩:=hh2
    simp only[]at q1 hb0;rw[hall,zCi]at hS;obtain⟨neg,types,var,lo,hi⟩:=it;simp only[ii,ss,bv]at hb0 hS;generalize zQk ⟨neg,types,var,lo,hi⟩=sb at *;cases neg with
    | false=>simp[evx,tlC,Tryz.f151,q1,hb0,bv,hS]
    | true =>
     by_cases c1:lo=1<;>by_cases c2:hi=1<;>simp[evx,tlC,Tryz.f151,q1,hb0,bv,hS,c1,c2]
  ·have hS:zQk it=false:=by
    cases hx:zQk it with
    | false=>rfl
    | true =>
     simp only[zQk,zO,decide_eq_true_eq]at hx;exact absurd ⟨hx.1.1.1.1.1,hx.1.1.1.1.2,hx.1.1.1.2,hx.1.1.2⟩ hb
   by_cases b1:it.types.length=0
   ·simp[evx,Tryz.f151,q0,ii,ss,bv,u1,u2,u4,b1,zLj,zGm,yV,deS,hS]
   ·cases b2:xJ it.var with
    | false=>simp[evx,Tryz.f151,q0,ii,ss,bv,u1,u2,u4,b1,zLj,zGm,yV,deS,b2,hS]
    | true =>
     by_cases b3:it.lo<0
     ·simp[evx,Tryz.f151,q0,ii,ss,bv,u1,u2,u4,b1,zLj,zGm,yV,deS,b2,b3,hS]
     ·have b4:it.hi<0:=by
       apply Classical.byContradiction;intro b4;exact hb ⟨b1,b2,by omega,by omega⟩
      simp[evx,Tryz.f151,q0,ii,ss,bv,u1,u2,u4,b1,zLj,zGm,yV,deS,b2,b3,b4,hS]
 exact key _ rfl
def yKg:=yH (de1 rQ) QuSm fun q=>bv (shQ q)
def zHf:List (FuncId×(List AV→Heap→PRes)):=[(149,zGm),(151,yKr),(79,G70)]
theorem yQ4:P0 [3] 100 yKg:=by
 refine mkH 1 (S:=[3]) (l:=zHf) (zS yKk (zS yQv (zS P70 yJ))) Tryz.func100 rfl (by kernel_rfl) zNw zRj (fun a=>rfl) (fun args q h n e hq hn => ?_)
 obtain⟨x,rfl,e1⟩:=zK3 e;have e2:deQ h x=some q:=e1;obtain⟨a,b,c,rfl,x2,x3,x4⟩:=wH e2;obtain⟨s1,s2,s3,s4,s5⟩:=zN x2;obtain⟨w1,w2,w3,w4,w5⟩:=zN x3;obtain⟨r1,r2,r3,r4,r5⟩:=zN x4;have g3:=xP hn x3;have hwh:=hq.wh;have key:∀e:Nat→AV,e 0=.g [a,ii q.mode,ii q.after,b,ii q.within,ss q.par,c]→awp (cx [3] (pfL zHf)) (Tryz.f100.body.getD .skip) (zBc (cx [3] (pfL zHf)) Tryz.f100 fun z _ _=>z=bv (shQ q)) ⟨e,roH h,n⟩:=fun e q0=>by
  by_cases hb:q.items.length≠0∧(0≤q.mode∧q.mode≤2)∧(0≤q.after∧q.after≤3)∧0≤q.within
  ·obtain⟨b1,⟨b2,b3⟩,⟨b4,b5⟩,b6⟩:=hb
   have hS:shQ q=(q.items.all zQk&&(decide (q.wh.length=0)||zAh q.wh)&&(emB q.par||xJ q.par)&&q.ret.all zAh):=by
    simp[shQ,b1,b2,b3,b4,b5,b6]
   refine zZ 2 _ _ (R:=fun s=>s.e 1=.p n 0 0∧agree n (roH h) s.h∧n+1≤s.n∧s.h n=some ⟨[a,ii q.mode,ii q.after,b,ii q.within,ss q.par,c],0,true,7⟩) ?_ fun y1 h1 n1 hh => ?_
   ·have c2:¬q.mode<0:=by omega
    have c3:¬2<q.mode:=by omega
    have c4:¬q.after<0:=by omega
    have c5:¬3<q.after:=by omega
    have c6:¬q.within<0:=by omega
    simp[evx,hdC,Tryz.f100,q0,ii,ss,bv,s1,s2,s4,w4,r4,b1,c2,c3,c4,c5,c6];simp[zD,zE]
   obtain⟨q1,hag,hnn,hb0⟩:=hh;simp only[]at q1 hag hnn hb0;refine zZ 1 _ _ (R:=fun s=>q.items.all zQk=true∧s.e 1=.p n 0 0∧agree n (roH h) s.h∧s.h n=some ⟨[a,ii q.mode,ii q.after,b,ii q.within,ss q.par,c],0,true,7⟩) ?_ fun y2 h2 n2 hh2 => ?_
   ·simp[evx,hdC,tlC,Tryz.f100,q1,hb0,ii,ss,bv,s1,s2]
    refine yN (fun s=>∃j:Nat,j≤q.items.length∧s.e 1=.p n 0 0∧s.e 37=a∧s.e 38=ii q.items.length∧s.e 39=ii j∧agree n (roH h) s.h∧n+1≤s.n∧s.h n=some ⟨[a,ii q.mode,ii q.after,b,ii q.within,ss q.par,c],0,true,7⟩∧∀i,i<j→zQk (q.items.getD i it0)=true) (fun s=>q.items.length-(s.e 39).i.toNat) ⟨0,by omega,by simp[up,q1],by simp[up],by simp[up,ii],by simp[up,ii],hag,hnn,hb0,by omega⟩ ?_
    rintro e' h' n' ⟨j,hj,q1,q37,q38,q39,hag,hnn,hb0,hno⟩;simp only[]at q1 q37 q38 q39 hag hnn hb0;by_cases hlt:j<q.items.length
    ·obtain⟨id,off,k,ty,rfl,hk,ho,c0,c1,c2,c3,c4,e6⟩:=zHv x2 hlt
     have ha':=wR hn hk hag;have hqb:=hq.it;have hw:=yK (j:=j) (by omega)
     have hw1:off+(j*5+5)≤k.cells.length:=by omega
     have hty:=hq.ty j hlt;have hmiss:=fun hy=>zAv (p:=fun i=>zQk (q.items.getD i it0)=true) hno hy
     have hhit:zQk (q.items.getD j it0)=false→shQ q=false:=fun hy=>by rw[hS,zLd (d:=it0) hlt hy];simp
     have u3:=(zN e6).2.2.1;have u4:=(zN e6).2.2.2.1;have g6:=xP hn e6;generalize q.items.getD j it0=it at *;obtain⟨ng,types,var,lo,hi⟩:=it;simp only[]at c0 c1 c2 c3 c4 e6 hty g6 hmiss hhit;simp only[ii,ss,bv]at c0 c1 c2 c3 c4 hb0;have z0:¬n=n':=by omega
     have z2:¬id=n':=by have:=xB hk hn;omega
     have hag2:∀b1 b2,agree n (roH h) (up (up h' n' b1) n' b2):=fun b1 b2=>by simp[zD,show n≤n' by omega,hag]
     cases hy:zQk ⟨ng,types,var,lo,hi⟩with
     | false =>
      have h2:=hhit hy;simp[evx,q37,q38,q39,ii,ss,bv,hlt,ha',c0,c1,c2,c3,c4,hw1,u4,zHf,yKr,yH,de1,rIt,rG,dIt,zGa,g6,hag2,hty,hy,h2]
     | true =>
      have h2:=hmiss hy;simp[evx,q1,q37,q38,q39,ii,ss,bv,hlt,ha',c0,c1,c2,c3,c4,hw1,hb0,u4,z0,zHf,yKr,yH,de1,rIt,rG,dIt,zGa,g6,hag2,hty,hy,hw];exact⟨⟨j+1,by omega,by omega,by omega,fun i hi=>by have:=h2 i hi;simpa using this⟩,by omega⟩
    ·obtain rfl:j=q.items.length:=by omega
     simp[evx,q1,q38,q39,ii];exact⟨fun x hx=>zR.1 ((zFj it0).2 hno) x hx,hag,by simpa[ii,ss]using hb0⟩
   obtain⟨hall,q1,hag,hb0⟩:=hh2;simp only[]at q1 hag hb0;rw[hall,zCi]at hS;by_cases hc:(q.wh.length=0∨zAh q.wh=true)∧(emB q.par=true∨xJ q.par=true)
   ·obtain⟨hc1,hc2⟩:=hc
    have hS2:shQ q=q.ret.all zAh:=by
     rw[hS];have h1:(decide (q.wh.length=0)||zAh q.wh)=true:=by simpa using hc1
     have h2:(emB q.par||xJ q.par)=true:=by simpa using hc2
     rw[h1,h2];rfl
    refine zZ 1 _ _ (R:=fun s=>s.e 1=.p n 0 0∧agree n (roH h) s.h∧s.h n=some ⟨[a,ii q.mode,ii q.after,b,ii q.within,ss q.par,c],0,true,7⟩) ?_ fun y3 h3 n3 hh3 => ?_
    ·have hem:(q.par==ByteArray.mk #[])=emB q.par:=rfl
     have hem2:(q.par != ByteArray.mk #[]) = !emB q.par:=rfl;by_cases d1:q.wh.length=0
     ·cases d2:emB q.par with
      | true =>
       simp[evx,hdC,tlC,Tryz.f100,q1,hb0,ii,ss,bv,w1,w2,d1,hem2,d2,zHf,zGm,G70,yH,deT,yV,deS];exact hag
      | false =>
       have d3:=hc2.resolve_left (by rw[d2];simp)
       simp[evx,hdC,tlC,Tryz.f100,q1,hb0,ii,ss,bv,w1,w2,d1,hem2,d2,d3,zHf,zGm,G70,yH,deT,yV,deS];exact hag
     ·have d1':0<q.wh.length:=by omega
      have d4:=hc1.resolve_left d1;cases d2:emB q.par with
      | true =>
       simp[evx,hdC,tlC,Tryz.f100,q1,hb0,ii,ss,bv,w1,w2,d1',d4,g3,hag,hwh,hem2,d2,zHf,zGm,G70,yH,deT,yV,deS]
      | false =>
       have d3:=hc2.resolve_left (by rw[d2];simp)
       simp[evx,hdC,tlC,Tryz.f100,q1,hb0,ii,ss,bv,w1,w2,d1',d4,g3,hag,hwh,hem2,d2,d3,zHf,zGm,G70,yH,deT,yV,deS]
    obtain⟨q1,hag,hb0⟩:=hh3;simp only[]at q1 hag hb0;simp[evx,tlC,Tryz.f100,q1,hb0,ii,ss,bv,r1,r2];refine yN (fun s=>∃j:Nat,j≤q.ret.length∧s.e 69=c∧s.e 70=ii q.ret.length∧s.e 71=ii j∧agree n (roH h) s.h∧∀i,i<j→zAh (q.ret.getD i [])=true) (fun s=>q.ret.length-(s.e 71).i.toNat) ⟨0,by omega,by simp[up],by simp[up,ii],by simp[up,ii],hag,by omega⟩ ?_
    rintro e' h' n' ⟨j,hj,q69,q70,q71,hag,hno⟩;simp only[]at q69 q70 q71 hag;have hrl:=hq.rl;by_cases hlt:j<q.ret.length
    ·rcases zLu x4 with ⟨h0,_⟩|⟨id,off,k,rfl,hk,ho,hat⟩
     ·rw[h0]at hlt;simp at hlt
     obtain⟨c',hc',hcr⟩:=hat j hlt;have hg:q.ret.getD j []=q.ret[j]:=by rw[zB,zA hlt];rfl
     have u3:=(zN hcr).2.2.1;have gr:∀h',agree n (roH h) h'→rd dNs h' c'=some q.ret[j]:=xP hn hcr;have ha':=wR hn hk hag;have hw:=yK (j:=j) (by omega)
     have hw1:off+(j+1)≤k.cells.length:=by omega
     have hsm:=hq.rt j hlt;have hmiss:=fun hy=>zAv (p:=fun i=>zAh (q.ret.getD i [])=true) hno hy
     have hhit:zAh (q.ret.getD j [])=false→shQ q=false:=fun hy=>by rw[hS2,zLd (d:=[]) hlt hy]
     rw[←hg]at gr;generalize q.ret.getD j []=t at *;cases hy:zAh t with
     | false =>
      have h2:=hhit hy;simp[evx,q69,q70,q71,ii,bv,hlt,ha',hc',hw1,zHf,G70,yH,deT,gr,hag,hsm,hy,h2]
     | true =>
      have h2:=hmiss hy;simp[evx,q69,q70,q71,ii,bv,hlt,ha',hc',hw1,zHf,G70,yH,deT,gr,hag,hsm,hy,hw];exact⟨⟨j+1,by omega,by omega,fun i hi=>by have:=h2 i hi;simpa using this⟩,by omega⟩
    ·obtain rfl:j=q.ret.length:=by omega
     have h2:shQ q=true:=by rw[hS2];exact (zFj []).2 hno
     simp[evx,q70,q71,ii,h2]
   ·have hS2:shQ q=false:=by
     rw[hS];cases h1:(decide (q.wh.length=0)||zAh q.wh)with
     | false=>rfl
     | true =>
      cases h2:(emB q.par||xJ q.par)with
      | false=>simp
      | true=>exact absurd ⟨by simpa using h1,by simpa using h2⟩ hc
    have hem2:(q.par != ByteArray.mk #[]) = !emB q.par:=rfl;by_cases d:q.wh.length=0∨zAh q.wh=true
    ·have d2:emB q.par=false:=by
      cases h1:emB q.par with
      | false=>rfl
      | true=>exact absurd ⟨d,.inl h1⟩ hc
     have d3:xJ q.par=false:=by
      cases h1:xJ q.par with
      | false=>rfl
      | true=>exact absurd ⟨d,.inr h1⟩ hc
     by_cases d1:q.wh.length=0
     ·simp[evx,tlC,Tryz.f100,q1,hb0,ii,ss,bv,w1,w2,d1,hem2,d2,d3,zHf,zGm,G70,yH,deT,yV,deS,hS2]
     ·have d1':0<q.wh.length:=by omega
      have d4:=d.resolve_left d1;simp[evx,tlC,Tryz.f100,q1,hb0,ii,ss,bv,w1,w2,d1',d4,g3,hag,hwh,hem2,d2,d3,zHf,zGm,G70,yH,deT,yV,deS,hS2]
    ·have d1':0<q.wh.length:=by omega
     have d4:zAh q.wh=false:=by
      cases h1:zAh q.wh with
      | false=>rfl
      | true=>exact absurd (.inr h1) d
     simp[evx,tlC,Tryz.f100,q1,hb0,ii,ss,bv,w1,w2,d1',d4,g3,hag,hwh,zHf,zGm,G70,yH,deT,yV,deS,hS2]
  ·have hS:shQ q=false:=by
    cases hx:shQ q with
    | false=>rfl
    | true =>
     simp only[shQ,zO,decide_eq_true_eq]at hx;exact absurd ⟨hx.1.1.1.1.1.1.1,hx.1.1.1.1.1.1.2,hx.1.1.1.1.1.2,hx.1.1.1.1.2⟩ hb
   by_cases b1:q.items.length=0
   ·simp[evx,Tryz.f100,q0,ii,ss,bv,s1,s2,s4,w4,r4,b1,hS]
   by_cases b2:q.mode<0
   ·simp[evx,Tryz.f100,q0,ii,ss,bv,s1,s2,s4,w4,r4,b1,b2,hS]
   by_cases b3:2<q.mode
   ·simp[evx,Tryz.f100,q0,ii,ss,bv,s1,s2,s4,w4,r4,b1,b2,b3,hS]
   by_cases b4:q.after<0
   ·simp[evx,Tryz.f100,q0,ii,ss,bv,s1,s2,s4,w4,r4,b1,b2,b3,b4,hS]
   by_cases b5:3<q.after
   ·simp[evx,Tryz.f100,q0,ii,ss,bv,s1,s2,s4,w4,r4,b1,b2,b3,b4,b5,hS]
   have b6:q.within<0:=by
    apply Classical.byContradiction;intro b6;exact hb ⟨b1,by omega,by omega,by omega⟩
   simp[evx,Tryz.f100,q0,ii,ss,bv,s1,s2,s4,w4,r4,b1,b2,b3,b4,b5,b6,hS]
 exact key _ rfl
end
theorem zJs (l:List Int):l.map ii=l.flatMap fun x=>[ii x]:=by
 induction l with
 | nil=>rfl
 | cons x l ih=>simp[ih]
def ISl (h:Heap) (z:AV) (l:List Int) (lo hi:Nat):Prop :=
 (l=[]∧z=.v (.slice none 0 0))∨∃w u,z=.s w u 0 l.length∧h w=some ⟨l.map ii,u,true,1⟩∧lo≤w∧w<hi∧0<l.length
theorem ISl.rd {h:Heap} {z:AV} {l:List Int} {lo hi:Nat} (k:ISl h z l lo hi):rd dIs h z=some l:=by
 rcases k with ⟨rfl,rfl⟩|⟨w,u,rfl,hw,_⟩
 ·rfl
 ·exact zB2 Flat.int (l:=l) hw rfl (r:=[]) (by simp[zJs])
theorem ISl.nz {h:Heap} {z:AV} {l:List Int} {lo hi:Nat} (k:ISl h z l lo hi):z=.v (.slice none 0 0)∨0<l.length:=by
 rcases k with ⟨_,h⟩|⟨_,_,_,_,_,_,h⟩
 ·exact .inl h
 ·exact .inr h
theorem ISl.up {h h':Heap} {z:AV} {l:List Int} {lo hi:Nat} (k:ISl h z l lo hi) (hh:∀q,lo≤q→q<hi→h' q=h q):ISl h' z l lo hi:=by
 rcases k with h0|⟨w,u,h1,h2,h3,h4,h5⟩
 ·exact .inl h0
 ·exact .inr ⟨w,u,h1,by rw[hh w h3 h4];exact h2,h3,h4,h5⟩
def zLo (f:Int→Int) (j:Nat):List Int:=((List.range j).map fun i:Nat=>(i:Int)).filter fun i=>decide (0<f i)
theorem zUs (f:Int→Int) (j:Nat):zLo f (j+1)=zLo f j++if 0<f (j:Int)then [(j:Int)]else []:=by
 simp only[zLo,zCs,yE,zCh,wE,List.map_nil];congr 1;by_cases h:0<f (j:Int)<;>simp[h]
theorem zXc (f:Int→Int) (j:Nat):(zLo f j).length≤j:=by
 refine xL (wS _ _) (by simp)
theorem c87 {h:Heap} {n m b:Nat} {cs:List AV} {f:Int→Int} {a x3 x6:AV} {q:Qu} (hm:h m=some ⟨cs,0,true,0⟩) (hI:isI f cs) (hb:h b=some ⟨[a,ii q.mode,ii q.after,x3,ii q.within,ss q.par,x6],0,true,7⟩)
  (e2:rd zG5 h a=some q.items) (hq:q.items.length*64≤140737488355328) (hn:Fresh n h) :
  ACall (cx [] (pfL [])) 97 [.mv m 0,.p b 0 0] h n fun z h' n'=>agree n h h'∧Fresh n' h'∧n≤n'∧ISl h' z (zLo f q.items.length) n n':=by
 refine yR (args:=[.mv m 0,.p b 0 0]) (zAr yJ) (zB3 _ _) Tryz.func97 (c:=Tryz.f97.body.getD .skip) rfl (by kernel_rfl) (xK Tryz.func97 rfl rfl _ _) (show 2≤Tryz.f97.ntmps by decide +kernel) ?_
 obtain⟨s1,s2,s3,s4,s5⟩:=zN e2;have hmn:m<n:=xB hm hn;have hbn:b<n:=xB hb hn;have hok:=hI.1;have key:∀e:Nat→AV,e 0=.mv m 0→e 1=.p b 0 0→awp (cx [] (pfL [])) (Tryz.f97.body.getD .skip) (zBc (cx [] (pfL [])) Tryz.f97 fun z h' n'=>agree n h h'∧Fresh n' h'∧n≤n'∧ISl h' z (zLo f q.items.length) n n') ⟨e,h,n⟩:=fun e q0 q1=>by
  simp[evx,Tryz.f97,q1,hb,s1,s2];refine yN (fun s=>∃j:Nat,j≤q.items.length∧s.e 0=.mv m 0∧s.e 8=ii q.items.length∧s.e 9=ii j∧ISl s.h (s.e 4) (zLo f j) n s.n∧agree n h s.h∧Fresh s.n s.h∧n≤s.n) (fun s=>q.items.length-(s.e 9).i.toNat) ⟨0,by omega,by simp[up,q0],by simp[up,ii],by simp[up,ii],.inl ⟨rfl,by simp[up]⟩,by simp[zE],hn,by simp⟩ ?_
  rintro e' h' n' ⟨j,hj,q0,q8,q9,hl,hag,hfr,hnn⟩;simp only[]at q0 q8 q9 hl hag hfr hnn;by_cases hlt:j<q.items.length
  ·have hm':h' m=some ⟨cs,0,true,0⟩:=by rw[hag m hmn];exact hm
   have hlt':(j:Int)<(q.items.length:Int):=by omega
   have hjw:=yK (j:=j) (by unfold big;omega)
   have hf:=hI.2 (j:Int);have hps:=zUs f j;have hpl:=zXc f j;simp only[ii]at hf;by_cases hp:0<f (j:Int)
   ·rw[if_pos hp]at hps
    generalize zLo f j=l at *;obtain⟨z4,q4⟩:∃x,e' 4=x:=⟨_,rfl⟩;rw[q4]at hl;have b1:(l.length+1)*8≤140737488355328:=by omega
    have b2:l.length≤9223372036854775806:=by omega
    rcases hl with ⟨rfl,rfl⟩|⟨w,u,rfl,hw,hw1,hw2⟩
    ·simp[evx,q0,q4,q8,q9,ii,hlt',hm',hok,hf,hp,hjw]
     refine⟨⟨j+1,by omega,by omega,.inr ⟨n'+1,0,by simp[hps],?_,by omega,by omega,by rw[hps];simp⟩,?_,?_,by omega⟩,by omega⟩
     ·simp[hps,ii,zJ]
     ·exact fun q hq=>by rw[zP _ _ (by omega),zP _ _ (by omega),hag q hq]
     ·simp[zF,hfr.add]
    ·have z1:¬w=n':=by omega
     have z2:w<n'+2:=by omega
     simp[evx,q0,q4,q8,q9,ii,hlt',hm',hok,hf,hp,hjw,hw,z1,b1,b2];refine⟨⟨j+1,by omega,by omega,.inr ⟨w,u+1,by simp[hps],?_,by omega,by omega,by rw[hps];simp⟩,?_,?_,by omega⟩,by omega⟩
     ·simp[hps,ii,zJ]
     ·exact fun q hq=>by rw[zP _ _ (by omega),zP _ _ (by omega),hag q hq]
     ·simp[zF,hfr.add,z2]
   ·rw[if_neg hp,List.append_nil]at hps
    simp[evx,q0,q8,q9,ii,hlt',hm',hok,hf,hp,hjw];exact⟨⟨j+1,by omega,by omega,by rw[hps];exact hl,hag,hfr,hnn⟩,by omega⟩
  ·obtain rfl:j=q.items.length:=by omega
   obtain⟨z4,q4⟩:∃x,e' 4=x:=⟨_,rfl⟩;rw[q4]at hl;simp[evx,q4,q8,q9,ii];exact⟨hag,hfr,hnn,hl⟩
 exact key _ rfl rfl
end Go.Proofs.YtbffkkeieihpdaaGreatDoor
