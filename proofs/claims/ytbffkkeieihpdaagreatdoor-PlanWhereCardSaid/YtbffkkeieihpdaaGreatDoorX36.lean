import Derived.Test.YtbffkkeieihpdaaGreatDoorX35
import Derived.Test.YtbffkkeieihpdaaGreatDoorX26
import Derived.Test.YtbffkkeieihpdaaGreatDoorX28
import Derived.Test.YtbffkkeieihpdaaGreatDoorX34
set_option linter.unusedSimpArgs false
set_option linter.unusedVariables false
set_option linter.constructorNameAsVariable false
set_option maxRecDepth 100000
set_option maxHeartbeats 4000000
namespace Go.Proofs.YtbffkkeieihpdaaGreatDoor
open Go Go.Eng
structure Us where
 bare:List Int
 prev:List Int
 agg:List Int
def yL6 (h:Heap):AV→Option Us
 | .g [a,b,c]=>(rd dIs h a).bind fun x=>(rd dIs h b).bind fun y=>(rd dIs h c).map fun z=>⟨x,y,z⟩
 | _=>none
theorem zOu {h:Heap} {a:AV} {u:Us} (e:yL6 h a=some u):∃x y z,a=.g [x,y,z]∧rd dIs h x=some u.bare∧rd dIs h y=some u.prev∧rd dIs h z=some u.agg:=by
 unfold yL6 at e;split at e
 ·simp only[xG,zW]at e
  obtain⟨x,e1,y,e2,z,e3,rfl⟩:=e;exact⟨_,_,_,rfl,e1,e2,e3⟩
 ·cases e
theorem zSs {h:Heap} {x y z:AV} {u:Us} (e1:rd dIs h x=some u.bare) (e2:rd dIs h y=some u.prev) (e3:rd dIs h z=some u.agg):yL6 h (.g [x,y,z])=some u:=by
 simp only[yL6,e1,e2,e3,zT,zM]
def rUz:Rdr Us where
 run:=yL6
 sim hh e:=by
  obtain⟨x,y,z,rfl,e1,e2,e3⟩:=zOu e;exact zSs (zAb hh e1) (zAb hh e2) (zAb hh e3)
def yOq (q:Qu×Us):Prop:=q.1.items.length<big∧q.2.bare.length<big
def zGw (q:Qu) (l:List Int):Bool:=l.all fun i=>decide (0≤i)&&decide (i<(q.items.length:Int))
def zVp:=yE (de2 rQ rUz) yOq fun q=>bv (zGw q.1 q.2.bare)
theorem P90:P0 [] 90 zVp:=by
 refine mkH 2 (S:=[]) (l:=[]) yH Tryz.func90 rfl (by kernel_rfl) zAw zBk (fun a=>rfl) (fun args v h n e hp hn => ?_)
 obtain⟨a,b,rfl,e1,e2⟩:=zA9 e;obtain⟨q,u⟩:=v;simp only[]at e1 e2 hp ⊢;obtain⟨qa,qb,qc,rfl,x1,x2,x3⟩:=xP e1;obtain⟨ua,ub,uc,rfl,y1,y2,y3⟩:=zOu e2;obtain⟨hq,hu⟩:=hp;simp only[]at hq hu;have o1:=(zK x2).2.2.2.1;have o2:=(zK x3).2.2.2.1;have o3:=(zK y2).2.2.2.1;have o4:=(zK y3).2.2.2.1;obtain⟨s1,s2,s3,s4,s5⟩:=zK x1;obtain⟨t1,t2,t3,t4,t5⟩:=zK y1;have key:∀e:Nat→AV,e 0=.g [qa,ii q.mode,ii q.after,qb,ii q.within,ss q.par,qc]→e 1=.g [ua,ub,uc]→awp (cx [] (pfL [])) (Tryz.f90.body.getD .skip) (zA8 (cx [] (pfL [])) Tryz.f90 fun z _ _=>z=bv (zGw q u.bare)) ⟨e,roH h,n⟩:=fun e q0 q1=>by
  simp[evx,Tryz.f90,q0,q1,ii,ss,o1,o2,o3,o4,s4,t4];refine yK (fun s=>∃j:Nat,j≤u.bare.length∧s.e 2=.p n 0 0∧s.e 3=.p (n+1) 0 0∧s.e 5=ii j∧agree n (roH h) s.h∧s.h n=some ⟨[qa,ii q.mode,ii q.after,qb,ii q.within,ss q.par,qc],0,true,7⟩∧s.h (n+1)=some ⟨[ua,ub,uc],0,true,3⟩∧∀i (hi:i<u.bare.length),i<j→0≤u.bare[i]∧u.bare[i]<(q.items.length:Int)) (fun s=>u.bare.length-(s.e 5).i.toNat) ⟨0,by simp[up,ii,ss,zC,zE]⟩ ?_
  rintro e' h' n' ⟨j,hj,q2,q3,q5,hag,b2,b3,hno⟩;simp only[ii,ss]at q2 q3 q5 hag b2 b3;by_cases hlt:j<u.bare.length
  ·rcases zKe y1 with ⟨h0,_⟩|⟨id,off,k,rfl,hk,ho,hat⟩
   ·rw[h0]at hlt;simp at hlt
   have hr:=hat j hlt;have ha':=wQ hn hk hag;have hw:=yF (j:=j) (by omega)
   have hw1:off+(j+1)≤k.cells.length:=by omega
   by_cases c0:0≤u.bare[j]
   ·by_cases c1:u.bare[j]<(q.items.length:Int)
    ·have c1':¬(q.items.length:Int)≤u.bare[j]:=by omega
     have c0':¬u.bare[j]<0:=by omega
     simp[evx,q2,q3,q5,b2,b3,ii,bv,hlt,ha',hr,hw1,s1,s2,s3,c0,c0',c1,c1',hw,ss];refine⟨⟨j+1,by omega,by omega,hag,fun i hi h1 => ?_⟩,by omega⟩
     by_cases e:i=j
     ·subst e;exact⟨c0,c1⟩
     ·exact hno i hi (by omega)
    ·have c1':(q.items.length:Int)≤u.bare[j]:=by omega
     have c0':¬u.bare[j]<0:=by omega
     have hv:zGw q u.bare=false:=by
      unfold zGw;rw[zAl];exact⟨u.bare[j],zF hlt,by simp[c1]⟩
     simp[evx,q2,q3,q5,b2,b3,ii,bv,hlt,ha',hr,hw1,s1,s2,s3,c0,c0',c1,c1',hv]
   ·have c0':u.bare[j]<0:=by omega
    have hv:zGw q u.bare=false:=by
     unfold zGw;rw[zAl];exact⟨u.bare[j],zF hlt,by simp[c0]⟩
    simp[evx,q2,q3,q5,b2,b3,ii,bv,hlt,ha',hr,hw1,c0,c0',hv]
  ·obtain rfl:j=u.bare.length:=by omega
   have hv:zGw q u.bare=true:=by
    unfold zGw;rw[zJ];intro x hx;obtain⟨i,hi,rfl⟩:=yX.1 hx;obtain⟨h1,h2⟩:=hno i hi hi;simp[h1,h2]
   simp[evx,q2,q3,q5,b2,b3,ii,bv,t1,t2,t3,hv]
 exact key _ rfl rfl
def zPl (q:Qu) (l:List Int):Int:=match l.find? (ngQ q)with
 | some i=>i
 | none=>-1
def yOr (q:Qu×Us):Prop:=q.1.items.length<big∧q.2.bare.length<big∧∀i∈q.2.bare,0≤i∧i<(q.1.items.length:Int)
def yM5:=yE (de2 rQ rUz) yOr fun q=>ii (zPl q.1 q.2.bare)
theorem P48:P0 [] 48 yM5:=by
 refine mkH 2 (S:=[]) (l:=[]) yH Tryz.func48 rfl (by kernel_rfl) zAw zBk (fun a=>rfl) (fun args v h n e hp hn => ?_)
 obtain⟨a,b,rfl,e1,e2⟩:=zA9 e;obtain⟨q,u⟩:=v;simp only[]at e1 e2 hp ⊢;obtain⟨qa,qb,qc,rfl,x1,x2,x3⟩:=xP e1;obtain⟨ua,ub,uc,rfl,y1,y2,y3⟩:=zOu e2;obtain⟨hq,hu,hin⟩:=hp;simp only[]at hq hu hin;have o1:=(zK x2).2.2.2.1;have o2:=(zK x3).2.2.2.1;have o3:=(zK y2).2.2.2.1;have o4:=(zK y3).2.2.2.1;obtain⟨s1,s2,s3,s4,s5⟩:=zK x1;obtain⟨t1,t2,t3,t4,t5⟩:=zK y1;have key:∀e:Nat→AV,e 0=.g [qa,ii q.mode,ii q.after,qb,ii q.within,ss q.par,qc]→e 1=.g [ua,ub,uc]→awp (cx [] (pfL [])) (Tryz.f48.body.getD .skip) (zA8 (cx [] (pfL [])) Tryz.f48 fun z _ _=>z=ii (zPl q u.bare)) ⟨e,roH h,n⟩:=fun e q0 q1=>by
  simp[evx,Tryz.f48,q0,q1,ii,ss,o1,o2,o3,o4,s4,t4];refine yK (fun s=>∃j:Nat,j≤u.bare.length∧s.e 2=.p n 0 0∧s.e 3=.p (n+1) 0 0∧s.e 5=ii j∧agree n (roH h) s.h∧s.h n=some ⟨[qa,ii q.mode,ii q.after,qb,ii q.within,ss q.par,qc],0,true,7⟩∧s.h (n+1)=some ⟨[ua,ub,uc],0,true,3⟩∧∀i∈u.bare.take j,ngQ q i=false) (fun s=>u.bare.length-(s.e 5).i.toNat) ⟨0,by simp[up,ii,ss,zC,zE]⟩ ?_
  rintro e' h' n' ⟨j,hj,q2,q3,q5,hag,b2,b3,hno⟩;simp only[ii,ss]at q2 q3 q5 hag b2 b3;by_cases hlt:j<u.bare.length
  ·rcases zKe y1 with ⟨h0,_⟩|⟨id,off,k,rfl,hk,ho,hat⟩
   ·rw[h0]at hlt;simp at hlt
   have hr:=hat j hlt;have ha':=wQ hn hk hag;have hw:=yF (j:=j) (by omega)
   have hw1:off+(j+1)≤k.cells.length:=by omega
   obtain⟨c0,c1⟩:=hin _ (zF hlt);obtain⟨m,hm⟩:=zCi c0;have hml:m<q.items.length:=by omega
   obtain⟨iid,ioff,ik,ty,z1,z2,z3,z4,z5,z6,z7,z8,z9⟩:=zE3 x1 hml;have hi':=wQ hn z2 hag;have hib:ioff+(m*5+1)≤ik.cells.length:=by omega
   rw[←zJ3 hml]at z5;have hng:ngQ q u.bare[j]=(itA q m).neg:=by rw[hm];rfl
   have hms:=hm;cases hn2:(itA q m).neg with
   | true =>
    rw[hn2]at hng;have hv:zPl q u.bare=(m:Int):=by
     unfold zPl;rw[yAi hlt hno hng];exact hm
    simp[evx,q2,q3,q5,b2,b3,ii,bv,hlt,ha',hr,hw1,hm,hml,z1,hi',hib,z5,hn2,hv]
   | false =>
    rw[hn2]at hng;simp[evx,q2,q3,q5,b2,b3,ii,bv,hlt,ha',hr,hw1,hm,hml,z1,hi',hib,z5,hn2,hw,ss];refine⟨⟨j+1,by omega,by omega,hag,fun i hi => ?_⟩,by omega⟩
    rw[zZ hlt]at hi;rcases wN.1 hi with hi|hi
    ·exact hno i hi
    ·rw[zB7.1 hi];exact hng
  ·obtain rfl:j=u.bare.length:=by omega
   have hv:zPl q u.bare=-1:=by
    unfold zPl;rw[zLv fun x hx=>hno x (by rw[xN];exact hx)]
   simp[evx,q2,q3,q5,b2,b3,ii,bv,t1,t2,t3,hv]
 exact key _ rfl rfl
section
def zI4 (P:Pl) (b:List (List Ev)) (i:Nat):Bool:=decide ((P.comps.getD i zMb).lo≤((b.getD i []).length:Int))&&decide (((b.getD i []).length:Int)≤(P.comps.getD i zMb).hi)&&(b.getD i []).all fun x=>decide (x.ty∈(P.comps.getD i zMb).types)
def zCt (P:Pl) (b:List (List Ev)):Bool:=decide (b.length=P.comps.length)&&(List.range b.length).all (zI4 P b)
structure okBn (q:Pl×List (List Ev)):Prop where
 ln:q.1.comps.length<big
 bl:q.2.length<big
 bs:∀l∈q.2,l.length<big
 cs:∀k∈q.1.comps,k.types.length<big
def rEss:Rdr (List (List Ev)):=rL zDd
def zVq:=yE (de2 rPl rEss) okBn fun q=>bv (zCt q.1 q.2)
def zGi:Code→Code
 | .block _ (.loop c)=>c
 | _=>.skip
noncomputable def zNp:Code:=yP (hdC 1 (tlC 2 (Tryz.f42.body.getD .skip)))
noncomputable def zS6:Code:=inB (hdC 1 (tlC 1 zNp))
noncomputable def zXa:Code:=zGi (tlC 3 zS6)
noncomputable def yBd:Code:=inB (hdC 1 (tlC 1 zXa))
noncomputable def yMl:Code:=yP (hdC 1 (tlC 1 yBd))
theorem yDw (A:List Int) (c y:Int):decide (y∈A++[c])=(decide (y∈A)||decide (c=y)):=by
 by_cases h1:y∈A<;>by_cases h2:c=y<;>simp[h1,h2,@eq_comm _ y c]
structure I42 (H:Heap) (n:Nat) (p:Pt) (P:Pl) (ba:AV) (i:Nat) (s:St):Prop where
 q1:s.e 1=ba
 q2:s.e 2=.p n 0 0
 q5:s.e 5=ii i
 b2:s.h n=some ⟨xT p P,0,true,16⟩
 ag:agree n H s.h
 fr:Fresh s.n s.h
 nn:n+1≤s.n
structure J42 (H:Heap) (n:Nat) (p:Pt) (P:Pl) (ba:AV) (i:Nat) (cm:Cmp) (m:Nat) (ty ow cn:AV) (s:St):Prop where
 a:I42 H n p P ba i s
 q6:s.e 6=.p m 0 0
 b6:s.h m=some ⟨[ii cm.item,ty,ii cm.lo,ii cm.hi,ow,cn],0,true,6⟩
theorem I42.up {H:Heap} {n:Nat} {p:Pt} {P:Pl} {ba:AV} {i:Nat} {s:St} (a:I42 H n p P ba i s) {e':Nat→AV} (he:∀j∈[1,2,5],e' j=s.e j):I42 H n p P ba i ⟨e',s.h,s.n⟩ :=
 ⟨(he 1 (by simp)).trans a.q1,(he 2 (by simp)).trans a.q2,(he 5 (by simp)).trans a.q5,a.b2,a.ag,a.fr,a.nn⟩
theorem J42.up {H:Heap} {n:Nat} {p:Pt} {P:Pl} {ba:AV} {i:Nat} {cm:Cmp} {m:Nat} {ty ow cn:AV} {s:St} (a:J42 H n p P ba i cm m ty ow cn s) {e':Nat→AV} (he:∀j∈[1,2,5,6],e' j=s.e j):J42 H n p P ba i cm m ty ow cn ⟨e',s.h,s.n⟩ :=
 ⟨a.a.up fun j hj=>he j (by simp at hj ⊢;omega),(he 6 (by simp)).trans a.q6,a.b6⟩
def V42 (H:Heap) (n:Nat) (p:Pt) (P:Pl) (ba:AV) (i:Nat) (cm:Cmp) (m:Nat) (ty ow cn:AV) (k:Nat) (x:Ev) (h1:Heap) (n2:Nat) (s:St):Prop :=
 ∃j:Nat,j≤cm.types.length∧J42 H n p P ba i cm m ty ow cn s∧s.e 7=ii k∧s.e 8=bv (decide (x.ty∈cm.types.take j))∧s.e 9=ii j∧s.h=h1∧s.n=n2
section
variable {H:Heap} {n:Nat} {p:Pt} {P:Pl} {ba:AV} {b:List (List Ev)} {i:Nat} {cm:Cmp} {m:Nat} {ty ow cn:AV}
theorem yS5 (hn:Fresh n H) (rb:rd zDd H ba=some b) (rt:rd dIs H ty=some cm.types) (htl:cm.types.length<big) {k:Nat} (hi:i<b.length) (hk:k<(b.getD i []).length) (e:Nat→AV) (h1:Heap) (n2:Nat) (a:J42 H n p P ba i cm m ty ow cn ⟨e,h1,n2⟩) (q7:e 7=ii k) (q8:e 8=bv false) (q9:e 9=ii 0) {Q:Ex→St→Prop}
  (hQ:∀e',J42 H n p P ba i cm m ty ow cn ⟨e',h1,n2⟩→e' 7=ii k→e' 8=bv (decide ((b.getD i [])[k].ty∈cm.types))→Q (.exit 4) ⟨e',h1,n2⟩) :
  awp (cx [] (pfL [])) (.loop yMl) Q ⟨e,h1,n2⟩:=by
 refine yK (V42 H n p P ba i cm m ty ow cn k (b.getD i [])[k] h1 n2) (fun s=>cm.types.length-(s.e 9).i.toNat) ⟨0,zAz _,a,q7,by simp[q8],q9,rfl,rfl⟩ ?_
 rintro e' h' n' ⟨j,hj,J,q7,q8,q9,rfl,rfl⟩;have J0:=J;obtain⟨⟨q1,q2,q5,b2,ag,fr,nn⟩,q6,b6⟩:=J;simp only[]at q1 q2 q5 b2 ag fr nn q6 b6 q7 q8 q9;obtain⟨t1,t2,t3,t4,t5⟩:=zK rt;by_cases hlt:j<cm.types.length
 ·rcases zKe rt with ⟨h0,_⟩|⟨tid,toff,tk,rfl,htk,tho,that⟩
  ·rw[h0]at hlt;simp at hlt
  have tr:=that j hlt;have htk':h' tid=some tk:=(ag _ (xI htk hn)).trans htk;have tw1:toff+(j+1)≤tk.cells.length:=by omega
  obtain⟨bid,boff,bk,c,rfl,hbk,bho,bc,brd⟩:=zEa rb hi;have hbk':h' bid=some bk:=(ag _ (xI hbk hn)).trans hbk;have bw1:boff+(i+1)≤bk.cells.length:=by omega
  rcases yEc brd with ⟨h0,_⟩|⟨cid,coff,ck,rfl,hck,cho,chat⟩
  ·rw[h0]at hk;simp at hk
  have hck':h' cid=some ck:=(ag _ (xI hck hn)).trans hck;have cr:=yG (c:=2) (chat k hk) rfl (by omega)
  rw[xD]at cr;have cw1:coff+(k*11+3)≤ck.cells.length:=by omega
  have hkk:k<b[i].length:=by rw[zB,zA hi]at hk;exact hk
  have hw:=yF (j:=j) (by omega)
  have hm:∀y:Int,decide (y∈cm.types.take (j+1))=(decide (y∈cm.types.take j)||decide (cm.types[j]=y)):=fun y=>by
   rw[zZ hlt,yDw]
  generalize (b.getD i [])[k]=x at *;have fin:∀e'',(∀j∈[1,2,5,6],e'' j=e' j)→e'' 7=ii k→e'' 8=bv (decide (x.ty∈cm.types.take (j+1)))→e'' 9=ii (j+1:Nat)→V42 H n p P (.s bid bk.ver boff b.length) i cm m (.s tid tk.ver toff cm.types.length) ow cn k x h' n' ⟨e'',h',n'⟩:=fun e'' k1 k2 k3 k4=>⟨j+1,hlt,J0.up k1,k2,k3,k4,rfl,rfl⟩
  rw[hm]at fin;by_cases hy:cm.types[j]=x.ty
  ·rw[decide_eq_true hy,Bool.or_true]at fin
   simp[evx,yMl,yBd,zXa,zS6,zNp,inB,yP,zGi,hdC,tlC,Tryz.f42,q1,q5,q6,q7,q8,q9,b6,ii,ss,bv,t1,t2,t3,hlt,htk',tr,tw1,hbk',bc,bw1,hi,hck',cr,cw1,hkk,hy,hw];refine⟨fin _ (by simp[up]) (by simp[up,q7]) (by simp[up,bv]) (by simp[up,ii]),by omega⟩
  ·rw[decide_eq_false hy,Bool.or_false]at fin
   simp[evx,yMl,yBd,zXa,zS6,zNp,inB,yP,zGi,hdC,tlC,Tryz.f42,q1,q5,q6,q7,q8,q9,b6,ii,ss,bv,t1,t2,t3,hlt,htk',tr,tw1,hbk',bc,bw1,hi,hck',cr,cw1,hkk,hy,hw];refine⟨fin _ (by simp[up]) (by simp[up,q7]) (by simp[up,q8]) (by simp[up,ii]),by omega⟩
 ·obtain rfl:j=cm.types.length:=by omega
  rw[xN]at q8;simp[evx,yMl,yBd,zXa,zS6,zNp,inB,yP,zGi,hdC,tlC,Tryz.f42,q6,q9,b6,ii,t1,t2,t3];exact hQ _ (J0.up (by simp[up])) (by simp[up,q7]) (by simp[up,q8])
end
end
section
def U42 (H:Heap) (n:Nat) (p:Pt) (P:Pl) (ba:AV) (i:Nat) (cm:Cmp) (m:Nat) (ty ow cn:AV) (l:List Ev) (h1:Heap) (n2:Nat) (s:St):Prop :=
 ∃k:Nat,k≤l.length∧J42 H n p P ba i cm m ty ow cn s∧s.e 7=ii k∧s.h=h1∧s.n=n2∧∀j (hj:j<l.length),j<k→decide (l[j].ty∈cm.types)=true
section
variable {H:Heap} {n:Nat} {p:Pt} {P:Pl} {ba:AV} {b:List (List Ev)} {i:Nat} {cm:Cmp} {m:Nat} {ty ow cn:AV}
theorem yS6 (hn:Fresh n H) (rb:rd zDd H ba=some b) (rt:rd dIs H ty=some cm.types) (htl:cm.types.length<big) (hbl:∀l∈b,l.length<big) (hi:i<b.length) (e:Nat→AV) (h1:Heap) (n2:Nat) (a:J42 H n p P ba i cm m ty ow cn ⟨e,h1,n2⟩) (q7:e 7=ii 0) {Q:Ex→St→Prop}
  (hQ1:((b.getD i []).all fun x=>decide (x.ty∈cm.types))=true→∀e',J42 H n p P ba i cm m ty ow cn ⟨e',h1,n2⟩→Q (.exit 2) ⟨e',h1,n2⟩)
  (hQ2:((b.getD i []).all fun x=>decide (x.ty∈cm.types))=false→∀e',e' 4=bv false→Q .ret ⟨e',h1,n2⟩) :
  awp (cx [] (pfL [])) (.loop zXa) Q ⟨e,h1,n2⟩:=by
 refine yK (U42 H n p P ba i cm m ty ow cn (b.getD i []) h1 n2) (fun s=>(b.getD i []).length-(s.e 7).i.toNat) ⟨0,zAz _,a,q7,rfl,rfl,fun j hj h=>by omega⟩ ?_
 rintro e' h' n' ⟨k,hk,J,q7,rfl,rfl,hno⟩;have J0:=J;obtain⟨⟨q1,q2,q5,b2,ag,fr,nn⟩,q6,b6⟩:=J;simp only[]at q1 q2 q5 b2 ag fr nn q6 b6 q7;obtain⟨bid,boff,bk,c,rfl,hbk,bho,bc,brd⟩:=zEa rb hi;have hbk':h' bid=some bk:=(ag _ (xI hbk hn)).trans hbk;have bw1:boff+(i+1)≤bk.cells.length:=by omega
 obtain⟨c1,c2,c3,c4,c5⟩:=zK brd;have hgl:b.getD i []=b[i]:=by rw[zB,zA hi];rfl
 have hlb:=hbl _ (zF hi);rw[←hgl]at hlb;by_cases hlt:k<(b.getD i []).length
 ·have hlt':k<b[i].length:=by rw[←hgl];exact hlt
  refine zX 1 _ _ (R:=fun s=>J42 H n p P (.s bid bk.ver boff b.length) i cm m ty ow cn s∧s.e 7=ii k∧s.h=h'∧s.n=n') ?_ fun e2 h2 n3 ⟨J2,k7,k8,k9⟩ => ?_
  ·simp[evx,zXa,zS6,zNp,inB,yP,zGi,hdC,tlC,Tryz.f42,q1,q5,q7,ii,hbk',bc,bw1,hi,c1,c2,c3,hlt']
   exact J0.up (by simp[up])
  ·simp only[]at k7 k8 k9
   subst k8;subst k9;show awp _ (.seq (.block 3 yBd) (tlC 2 zXa)) _ _;rw[zCf,zAe];refine zX 1 _ _ (R:=fun s=>J42 H n p P (.s bid bk.ver boff b.length) i cm m ty ow cn s∧s.e 7=ii k∧s.e 8=bv false∧s.h=h2∧s.n=n3) ?_ fun e3 h3 n4 ⟨J3,z7,z8,z9,z10⟩ => ?_
   ·simp[evx,yBd,zXa,zS6,zNp,inB,yP,zGi,hdC,tlC,Tryz.f42]
    exact⟨J2.up (by simp[up]),by simp[up,k7],by simp[up,bv]⟩
   simp only[]at z7 z8 z9 z10;subst z9;subst z10;refine zX 1 _ _ (R:=fun s=>J42 H n p P (.s bid bk.ver boff b.length) i cm m ty ow cn s∧s.e 7=ii k∧s.e 8=bv (decide ((b.getD i [])[k].ty∈cm.types))∧s.h=h3∧s.n=n4) ?_ fun e5 h5 n6 ⟨J5,y7,y8,y9,y10⟩ => ?_
   ·show awp _ (.seq (hdC 1 (hdC 1 (tlC 1 yBd))) (.block 4 (.loop yMl))) _ _
    rw[zCf];refine zA5 _ (fun x s hxx => ?_) (show awp (cx [] (pfL [])) (hdC 1 (hdC 1 (tlC 1 yBd))) (zAs (fun s=>J42 H n p P (.s bid bk.ver boff b.length) i cm m ty ow cn s∧s.e 7=ii k∧s.e 8=bv false∧s.e 9=ii 0∧s.h=h3∧s.n=n4) fun _ _=>False) ⟨e3,h3,n4⟩ from ?_)
    ·cases x with
     | normal =>
      obtain⟨e6,h6,n7⟩:=s;rw[wL]at hxx;obtain⟨J6,x7,x8,x9,rfl,rfl⟩:=hxx;rw[wL,zAe];refine yS5 hn rb rt htl hi hlt e6 _ _ J6 x7 x8 x9 fun e7 J7 v7 v8 => ?_
      rw[zBf,if_pos rfl,wL];exact⟨J7,v7,v8,rfl,rfl⟩
     | exit i=>exact (by simp[zGq]at hxx:False).elim
     | ret=>exact (by simp[zBx]at hxx:False).elim
    ·simp[evx,yBd,zXa,zS6,zNp,inB,yP,zGi,hdC,tlC,Tryz.f42]
     exact⟨J3.up (by simp[up]),by simp[up,z7],by simp[up,z8],by simp[up,ii]⟩
   simp only[]at y7 y8 y9 y10;subst y9;subst y10;have hw:=yF (j:=k) (by omega)
   cases hd:decide ((b.getD i [])[k].ty∈cm.types)with
   | true =>
    rw[hd]at y8;simp[evx,yBd,zXa,zS6,zNp,inB,yP,zGi,hdC,tlC,Tryz.f42,y7,y8,ii,bv,hw];refine⟨⟨k+1,hlt,J5.up (by simp[up]),by simp[up,ii],rfl,rfl,fun j hj h => ?_⟩,?_⟩
    ·by_cases e:j=k
     ·subst e;exact hd
     ·exact hno j hj (by omega)
    ·have hk7:(e' 7).i.toNat=k:=by rw[q7];simp[ii,AV.i]
     rw[hk7];rw[←zB,hgl]
     try simp[up,ii,AV.i]
     omega
   | false =>
    rw[hd]at y8;simp[evx,yBd,zXa,zS6,zNp,inB,yP,zGi,hdC,tlC,Tryz.f42,y7,y8,ii,bv,hw];refine hQ2 ?_ _ (by simp[up,bv])
    rw[zAl];exact⟨_,zF hlt,by rw[hd];simp⟩
 ·obtain rfl:k=(b.getD i []).length:=by omega
  have hall:((b.getD i []).all fun x=>decide (x.ty∈cm.types))=true:=by
   rw[zJ];intro x hx;obtain⟨j,hj,rfl⟩:=yX.1 hx;exact hno j hj hj
  rw[hgl]at c2 q7;simp[evx,zXa,zS6,zNp,inB,yP,zGi,hdC,tlC,Tryz.f42,q1,q5,q7,ii,hbk',bc,bw1,hi,c1,c2,c3];exact hQ1 hall _ (J0.up (by simp[up]))
end
end
section
def T42 (H:Heap) (n:Nat) (p:Pt) (P:Pl) (ba:AV) (b:List (List Ev)) (s:St):Prop :=
 ∃i:Nat,i≤b.length∧I42 H n p P ba i s∧∀j,j<i→zI4 P b j=true
section
variable {H:Heap} {n:Nat} {p:Pt} {P:Pl} {ba:AV} {b:List (List Ev)}
theorem yS7 (hn:Fresh n H) (pl:PlR H p P) (rb:rd zDd H ba=some b) (ok:okBn (P,b)) (hlen:b.length=P.comps.length) (e:Nat→AV) (h1:Heap) (n2:Nat) (a:I42 H n p P ba 0 ⟨e,h1,n2⟩) {Q:Ex→St→Prop}
  (hQ1:(List.range b.length).all (zI4 P b)=true→∀s',Q (.exit 0) s')
  (hQ2:(List.range b.length).all (zI4 P b)=false→∀s',s'.e 4=bv false→Q .ret s') :
  awp (cx [] (pfL [])) (.loop zNp) Q ⟨e,h1,n2⟩:=by
 refine yK (T42 H n p P ba b) (fun s=>b.length-(s.e 5).i.toNat) ⟨0,zAz _,a,fun j h=>by omega⟩ ?_
 rintro e' h' n' ⟨i,hi,J,hno⟩;have J0:=J;obtain⟨q1,q2,q5,b2,ag,fr,nn⟩:=J;simp only[]at q1 q2 q5 b2 ag fr nn;obtain⟨t1,t2,t3,t4,t5⟩:=zK rb;have hbl:=ok.bl;simp only[]at hbl;by_cases hlt:i<b.length
 ·have hno':∀(hf:zI4 P b i=false),(List.range b.length).all (zI4 P b)=false:=fun hf=>by
   rw[zAl];exact⟨i,xQ.2 hlt,by rw[hf];simp⟩
  have hic:i<P.comps.length:=by omega
  obtain⟨id,off,k,ty,ow,cn,hu,hk,ho,r1,r2,r3,z0,z1,z2,z3,z4,z5⟩:=zK7 pl.cm hic;have hk':h' id=some k:=(ag _ (xI hk hn)).trans hk;have hg:P.comps.getD i zMb=P.comps[i]:=by rw[zB,zA hic];rfl
  have htl:=ok.cs _ (zF hic);have hbE:zI4 P b i=(decide ((P.comps[i]).lo≤((b.getD i []).length:Int))&&decide (((b.getD i []).length:Int)≤(P.comps[i]).hi)&&(b.getD i []).all fun x=>decide (x.ty∈(P.comps[i]).types)):=by unfold zI4;rw[hg]
  have v1:=(zK r1).2.2.2.1;have v2:=(zK r2).2.2.2.1;have v3:=(zK r3).2.2.2.1;generalize P.comps[i]=cm at *;refine zX 1 _ _ (R:=fun s=>I42 H n p P ba i s) ?_ fun e2 h2 n3 J2 => ?_
  ·simp[evx,zNp,yP,hdC,tlC,Tryz.f42,q1,q5,ii,t1,t2,t3,hlt]
   exact J0.up (by simp[up])
  ·show awp _ (.seq (.block 1 zS6) (tlC 2 zNp)) _ _
   rw[zCf,zAe];have J2':=J2;obtain⟨q1,q2,q5,b2,ag,fr,nn⟩:=J2;simp only[]at q1 q2 q5 b2 ag fr nn;have hk2:h2 id=some k:=(ag _ (xI hk hn)).trans hk;have nid:¬n=n3:=by omega
   refine zX 1 _ _ (R:=fun s=>J42 H n p P ba i cm n3 ty ow cn s) ?_ fun e4 h4 n5 J4 => ?_
   ·simp[evx,zS6,zNp,inB,yP,hdC,tlC,Tryz.f42,q2,q5,b2,xT,ii,ss,bv,hu,hk2,ho,hic,z0,z1,z2,z3,z4,z5,v1,v2,v3,zHm]
    exact⟨⟨by simp[up,q1],by simp[up,q2],by simp[up,q5],by simp only[];rw[zP _ _ (by omega),zP _ _ (by omega)];exact b2,(zC (by omega) _).2 ((zC (by omega) _).2 ag),(show Fresh (n3+2) _ from (zG (by omega) _).2 ((zG (by omega) _).2 (fr.add 2))),by simp only[];omega⟩,by simp[up],by simp[up,ii]⟩
   have J4':=J4;obtain⟨⟨q1,q2,q5,b2,ag,fr,nn⟩,q6,b6⟩:=J4;simp only[]at q1 q2 q5 b2 ag fr nn q6 b6;obtain⟨bid,boff,bk,c,rfl,hbk,bho,bc,brd⟩:=zEa rb hlt;have hbk':h4 bid=some bk:=(ag _ (xI hbk hn)).trans hbk;have bw1:boff+(i+1)≤bk.cells.length:=by omega
   obtain⟨c1,c2,c3,c4,c5⟩:=zK brd;have hgl:b.getD i []=b[i]:=by rw[zB,zA hlt];rfl
   have hlo:((b.getD i []).length:Int)=(b[i].length:Int):=by rw[hgl]
   by_cases hlo:cm.lo≤((b.getD i []).length:Int)
   ·by_cases hhi:((b.getD i []).length:Int)≤cm.hi
    ·have hlo':¬(b[i].length:Int)<cm.lo:=by rw[←hgl];omega
     have hhi':¬cm.hi<(b[i].length:Int):=by rw[←hgl];omega
     refine zX 2 _ _ (R:=fun s=>J42 H n p P (.s bid bk.ver boff b.length) i cm n3 ty ow cn s∧s.e 7=ii 0) ?_ fun e6 h6 n7 ⟨J6,k7⟩ => ?_
     ·simp[evx,zS6,zNp,inB,yP,hdC,tlC,Tryz.f42,q1,q5,q6,b6,ii,hbk',bc,bw1,hlt,c1,c2,c3,hlo',hhi']
      exact J4'.up (by simp[up])
     ·simp only[]at k7
      show awp _ (.block 2 (.loop zXa)) _ _;rw[zAe];refine yS6 hn rb r1 htl ok.bs hlt e6 h6 n7 J6 k7 (fun hall e8 J8 => ?_) fun hall e8 h8 => ?_
      ·rw[zBf,if_pos rfl,zEd,wL]
       have hbt:zI4 P b i=true:=by rw[hbE,decide_eq_true hlo,decide_eq_true hhi,hall];rfl
       have q5':=J8.a.q5;simp only[]at q5';have hw:=yF (j:=i) (by omega)
       simp[evx,zNp,yP,hdC,tlC,Tryz.f42,q5',ii,hw];have g1:=J8.a.q1;have g2:=J8.a.q2;simp only[]at g1 g2;refine⟨⟨i+1,hlt,⟨by simp[up,g1],by simp[up,g2],by simp[up,ii],J8.a.b2,J8.a.ag,J8.a.fr,J8.a.nn⟩,fun j hj => ?_⟩,?_⟩
       ·by_cases e:j=i
        ·subst e;exact hbt
        ·exact hno j (by omega)
       ·have hk5:(e' 5).i.toNat=i:=by have:=J0.q5;simp only[]at this;rw[this];simp[ii,AV.i]
        rw[hk5];omega
      ·rw[zBw,zBw,zBx]
       exact hQ2 (hno' (by rw[hbE,hall,Bool.and_false])) _ h8
    ·have hlo':¬(b[i].length:Int)<cm.lo:=by rw[←hgl];omega
     have hhi':cm.hi<(b[i].length:Int):=by rw[←hgl];omega
     simp[evx,zS6,zNp,inB,yP,hdC,tlC,Tryz.f42,q1,q5,q6,b6,ii,hbk',bc,bw1,hlt,c1,c2,c3,hlo',hhi'];exact hQ2 (hno' (by rw[hbE,decide_eq_false hhi];simp)) _ (by simp[up,bv])
   ·have hlo':(b[i].length:Int)<cm.lo:=by rw[←hgl];omega
    simp[evx,zS6,zNp,inB,yP,hdC,tlC,Tryz.f42,q1,q5,q6,b6,ii,hbk',bc,bw1,hlt,c1,c2,c3,hlo'];exact hQ2 (hno' (by rw[hbE,decide_eq_false hlo];simp)) _ (by simp[up,bv])
 ·obtain rfl:i=b.length:=by omega
  simp[evx,zNp,yP,hdC,tlC,Tryz.f42,q1,q5,ii,t1,t2,t3];exact hQ1 (by rw[zJ];intro j hj;exact hno j (xQ.1 hj)) _
end
theorem P42:P0 [] 42 zVq:=by
 refine mkH 2 (S:=[]) (l:=[]) yH Tryz.func42 rfl (by kernel_rfl) zAw zBk (fun a=>rfl) (fun args v h n e hp hn => ?_)
 obtain⟨a,ba,rfl,e1,e2⟩:=zA9 e;obtain⟨P,b⟩:=v;simp only[]at e1 e2 hp ⊢;have pl0:=rPl.agree hn e1 _ (zE _ _);have rb:rd zDd (roH h) ba=some b:=rEss.agree hn e2 _ (zE _ _);obtain⟨p,rfl,pl⟩:=zDm pl0;obtain⟨o1,o2,o3,o4,o5,o6,o7,o8,o9,o10⟩:=pl.is;obtain⟨s1,s2,s3,s4,s5⟩:=zK pl.cm;obtain⟨t1,t2,t3,t4,t5⟩:=zK rb;have frh:=zFh hn;have key:∀e:Nat→AV,e 0=.g (xT p P)→e 1=ba→awp (cx [] (pfL [])) (Tryz.f42.body.getD .skip) (zA8 (cx [] (pfL [])) Tryz.f42 fun z _ _=>z=bv (zCt P b)) ⟨e,roH h,n⟩:=fun e q0 q1=>by
  by_cases hl:b.length=P.comps.length
  ·have hv:zCt P b=(List.range b.length).all (zI4 P b):=by unfold zCt;rw[decide_eq_true hl,zAq]
   have hl':(b.length:Int)=(P.comps.length:Int):=by omega
   rw[hv];refine zX 2 _ _ (R:=fun s=>I42 (roH h) n p P ba 0 ⟨fun j=>if j=5 then ii 0 else s.e j,s.h,s.n⟩) ?_ fun e2 h2 n3 J => ?_
   ·simp[evx,hdC,Tryz.f42,q0,q1,xT,ii,ss,bv,o1,o2,o3,o4,o5,o6,o7,o8,o9,o10,s1,s2,s3,t1,t2,t3,hl']
    exact⟨by simp[up,q1],by simp[up],by simp[ii],by simp[up,xT,ii,ss,bv],by simp[zC,zE],by simp[zG,frh.add],by simp⟩
   ·refine zX 1 _ _ (R:=fun _=>(List.range b.length).all (zI4 P b)=true) ?_ fun e6 h6 n7 hall => ?_
    ·show awp _ (.seq (hdC 1 (hdC 1 (tlC 2 (Tryz.f42.body.getD .skip)))) (.block 0 (.loop zNp))) _ _
     obtain⟨q1,q2,q5,b2,ag,fr,nn⟩:=J;simp only[]at q1 q2 q5 b2 ag fr nn;simp at q1 q2;simp[evx,hdC,tlC,Tryz.f42];refine yS7 frh pl rb hp hl _ _ _ (⟨by simp[up,q1],by simp[up,q2],by simp[up,ii],b2,ag,fr,nn⟩:I42 (roH h) n p P ba 0 _) (fun hall s' => ?_) fun hall s' h4 => ?_
     ·rw[zBf,if_pos rfl,wL]
      simpa using hall
     ·rw[zBw,zBx,zJ4,hall]
      refine⟨?_,?_⟩
      ·simp[resAll,resOne,Tryz.f42]
      ·simp[resVal,resOne,Tryz.f42,h4]
    ·rw[hall]
     simp[evx,tlC,Tryz.f42,bv]
  ·have hv:zCt P b=false:=by unfold zCt;rw[decide_eq_false hl,Bool.false_and]
   have hl':¬(b.length:Int)=(P.comps.length:Int):=by omega
   simp[evx,Tryz.f42,q0,q1,xT,ii,ss,bv,o1,o2,o3,o4,o5,o6,o7,o8,o9,o10,s1,s2,s3,t1,t2,t3,hl',hv]
 exact key _ rfl rfl
end
section
def byE (q:Qu) (b:List (List Ev)) (k:Int) (x:Ev) (i:Nat):List Ev:=if (itA q i).neg=true then (if (i:Int)=k then [x]else [])else b.getD (rk q i) []
def byV (q:Qu) (b:List (List Ev)) (k:Int) (x:Ev):List (List Ev):=(List.range q.items.length).map (byE q b k x)
structure I44 (h:Heap) (n:Nat) (q:Qu) (qa qb qc ba:AV) (b:List (List Ev)) (k:Int) (x:Ev) (i:Nat) (s:St):Prop where
 q1:s.e 1=ba
 q2:s.e 2=ii k
 q4:s.e 4=.p n 0 0
 q7:s.e 7=.p (n+1) 0 0
 q10:s.e 10=ii (zBl q i).length
 q11:s.e 11=ii i
 b4:s.h n=some ⟨xS q qa qb qc,0,true,7⟩
 b7:s.h (n+1)=some ⟨zAk x,0,true,11⟩
 ag:agree n h s.h
 fr:Fresh s.n s.h
 nn:n+2≤s.n
 ow:∃(w u:Nat) (cs:List AV),cs.length=i∧((i=0∧cs=[]∧s.e 9=.v (.slice none 0 0))∨(s.e 9=.s w u 0 i∧s.h w=some ⟨cs,u,true,1⟩∧n+2≤w∧w<s.n))∧∀j,j<i→∃c,cs[j]? = some c∧rd dEs (up s.h w none) c=some (byE q b k x j)
noncomputable def zRn:Code:=yP (hdC 1 (tlC 3 (Tryz.f44.body.getD .skip)))
noncomputable def yB0:Code:=inB (hdC 1 (tlC 1 zRn))
theorem zQ3 {h h':Heap} {n w:Nat} (hf:Fresh n h) (ha:∀i,i<n→i≠w→h' i=h i):Heap.le (up h w none) (up h' w none):=fun i k e=>by
 by_cases hw:i=w
 ·subst hw;rw[zN]at e;cases e
 ·rw[zP _ _ hw]at e ⊢
  rw[ha i (xI e hf) hw];exact e
section
variable {h:Heap} {n:Nat} {q:Qu} {qa qb qc ba:AV} {b:List (List Ev)} {k:Int} {x:Ev}
theorem yS2 {i:Nat} (hi:i<q.items.length) (hq:q.items.length≤1000000) (e:Nat→AV) (h1:Heap) (n2:Nat) (a:I44 h n q qa qb qc ba b k x i ⟨fun j=>if j=10 then ii (zBl q i).length else e j,h1,n2⟩) (q10:e 10=ii (zBl q (i+1)).length) {c:AV} (q12:e 12=c) (hc:c.one∧c.cells=[c]) {h0:Heap} (hr:rd dEs h0 c=some (byE q b k x i)) (h0l:∀w,(∃u cs,e 9=.s w u 0 i∧h1 w=some ⟨cs,u,true,1⟩)∨n2≤w→Heap.le h0 (up h1 w none)) {Q:Ex→St→Prop}
  (hQ:∀s',I44 h n q qa qb qc ba b k x (i+1) s'→Q .normal s') :
  awp (cx [] (pfL [])) (.seq (tlC 2 yB0) (tlC 2 zRn)) Q ⟨e,h1,n2⟩:=by
 obtain⟨q1,q2,q4,q7,_,q11,b4,b7,ag,fr,nn,w,u,cs,hcl,hw,hcs⟩:=a;simp at q1 q2 q4 q7 q11;simp only[]at b4 b7 ag fr nn hcl hw hcs;simp at hw;obtain⟨d1,d2⟩:=hc;have hwr:=yF (j:=i) (by unfold big;omega)
 rcases hw with ⟨rfl,rfl,q9⟩|⟨q9,hb,w1,w2⟩
 ·simp[evx,yB0,zRn,inB,yP,hdC,tlC,Tryz.f44,q9,q11,q12,ii,d1,d2,hwr,show IntKind.i64.wrap 1=1 from by decide]
  refine hQ _ ⟨by simp[up,q1],by simp[up,q2],by simp[up,q4],by simp[up,q7],by simp[up,q10],by simp[up,ii],?_,?_,(zC (by omega) _).2 ((zC (by omega) _).2 ag),(show Fresh (n2+2) _ from (zG (by omega) _).2 ((zG (by omega) _).2 (fr.add 2))),by simp only[];omega,n2+1,0,[c],rfl,.inr ⟨by simp[up],by simp[up],by omega,by simp only[];omega⟩,fun j hj => ?_⟩
  ·simp only[];rw[zP _ _ (by omega),zP _ _ (by omega)];exact b4
  ·simp only[];rw[zP _ _ (by omega),zP _ _ (by omega)];exact b7
  ·obtain rfl:j=0:=by omega
   refine⟨c,rfl,yU ?_ hr⟩;refine Heap.le_trans (h0l (n2+1) (.inr (by omega))) (zQ3 (n:=n2) ?_ fun i h1 h2 => ?_)
   ·exact fr
   ·simp only[];rw[zP _ _ (by omega),zP _ _ (by omega)]
 ·have g1:¬w=n2:=by omega
  have g2:¬n=w:=by omega
  have g3:¬n+1=w:=by omega
  simp[evx,yB0,zRn,inB,yP,hdC,tlC,Tryz.f44,q9,q11,q12,ii,d1,d2,hwr,hb,g1,hcl];refine⟨⟨by omega,by omega⟩,hQ _ ⟨by simp[up,q1],by simp[up,q2],by simp[up,q4],by simp[up,q7],by simp[up,q10],by simp[up,ii],?_,?_,(zC (by omega) _).2 ((zC (by omega) _).2 ag),(show Fresh (n2+2) _ from (zG (by omega) _).2 ((zG (by omega) _).2 (fr.add 2))),by simp only[];omega,w,u+1,cs++[c],by simp[hcl],.inr ⟨by simp[up],by simp[up],by omega,by simp only[];omega⟩,fun j hj => ?_⟩⟩
  ·simp only[];rw[zP _ _ g2,zP _ _ (by omega)];exact b4
  ·simp only[];rw[zP _ _ g3,zP _ _ (by omega)];exact b7
  ·have hle:Heap.le (up h1 w none) (up (up (up h1 n2 (some ⟨[c],0,true,1⟩)) w (some ⟨cs++[c],u+1,true,1⟩)) w none):=zQ3 (n:=n2) fr fun i h1 h2=>by rw[zP _ _ h2,zP _ _ (by omega)]
   by_cases hjl:j<i
   ·obtain⟨c',k1,k2⟩:=hcs j hjl
    exact⟨c',by rw[zQ (by omega)];exact k1,yU hle k2⟩
   ·obtain rfl:j=i:=by omega
    exact⟨c,by rw[←hcl];simp,yU (Heap.le_trans (h0l w (.inl ⟨u,cs,by rw[q9],hb⟩)) hle) hr⟩
end
end
section
section
variable {H:Heap} {n:Nat} {q:Qu} {qa qb qc ba:AV} {b:List (List Ev)} {k:Int} {x:Ev}
theorem I44.up {i:Nat} {e:Nat→AV} {h1:Heap} {n2:Nat} (a:I44 H n q qa qb qc ba b k x i ⟨e,h1,n2⟩) {e':Nat→AV} (he:∀j∈[1,2,4,7,9,10,11],e' j=e j):I44 H n q qa qb qc ba b k x i ⟨e',h1,n2⟩:=by
 obtain⟨q1,q2,q4,q7,q10,q11,b4,b7,ag,fr,nn,w,u,cs,hcl,hw,hcs⟩:=a;exact⟨(he 1 (by simp)).trans q1,(he 2 (by simp)).trans q2,(he 4 (by simp)).trans q4,(he 7 (by simp)).trans q7,(he 10 (by simp)).trans q10,(he 11 (by simp)).trans q11,b4,b7,ag,fr,nn,w,u,cs,hcl,by simp only[];rw[he 9 (by simp)];exact hw,hcs⟩
theorem I44.al {i:Nat} {e:Nat→AV} {h1:Heap} {n2:Nat} (a:I44 H n q qa qb qc ba b k x i ⟨e,h1,n2⟩) (B:Blk):I44 H n q qa qb qc ba b k x i ⟨e,Go.Eng.up h1 n2 (some B),n2+1⟩:=by
 obtain⟨q1,q2,q4,q7,q10,q11,b4,b7,ag,fr,nn,w,u,cs,hcl,hw,hcs⟩:=a;simp only[]at b4 b7 ag fr nn hw hcs;refine⟨q1,q2,q4,q7,q10,q11,?_,?_,(zC (by omega) _).2 ag,(show Fresh (n2+1) _ from (zG (by omega) _).2 (fr.add 1)),(show n+2≤n2+1 by omega),?_⟩
 ·simp only[];rw[zP _ _ (by omega)];exact b4
 ·simp only[];rw[zP _ _ (by omega)];exact b7
 rcases hw with ⟨h0,hc,q9⟩|⟨q9,hb,w1,w2⟩
 ·exact⟨w,u,cs,hcl,.inl ⟨h0,hc,q9⟩,fun j hj=>by omega⟩
 ·refine⟨w,u,cs,hcl,.inr ⟨q9,?_,w1,by simp only[];omega⟩,fun j hj => ?_⟩
  ·simp only[];rw[zP _ _ (by omega)];exact hb
  ·obtain⟨c,k1,k2⟩:=hcs j hj
   exact⟨c,k1,yU (zQ3 (n:=n2) fr fun i h1 h2=>by show Go.Eng.up _ _ _ i=_;rw[zP _ _ (by omega)]) k2⟩
theorem I44.w {i:Nat} {e:Nat→AV} {h1:Heap} {n2:Nat} (a:I44 H n q qa qb qc ba b k x i ⟨e,h1,n2⟩) {w:Nat} (hc:(∃u cs,e 9=.s w u 0 i∧h1 w=some ⟨cs,u,true,1⟩)∨n2≤w):n+2≤w:=by
 rcases hc with ⟨u',cs',k1,k2⟩|hc
 ·obtain⟨_,_,_,_,hw,_⟩:=a.ow
  rcases hw with ⟨z1,z2,q9⟩|⟨q9,z1,w1,z2⟩
  ·have q9':e 9=_:=q9
   rw[q9']at k1;cases k1
  ·have q9':e 9=_:=q9
   rw[q9']at k1;injection k1 with k1;omega
 ·have:=a.nn;simp only[]at this;omega
theorem yM1 {i:Nat} {e:Nat→AV} {h1:Heap} {n2:Nat} (hi:i<q.items.length) (hq:q.items.length≤1000000) (a:I44 H n q qa qb qc ba b k x i ⟨fun j=>if j=10 then ii (zBl q i).length else e j,h1,n2⟩) (q10:e 10=ii (zBl q (i+1)).length) {c:AV} (q12:e 12=c) (hc:c.one∧c.cells=[c]) {h0:Heap} (hr:rd dEs h0 c=some (byE q b k x i)) (h0l:∀w,(∃u cs,e 9=.s w u 0 i∧h1 w=some ⟨cs,u,true,1⟩)∨n2≤w→Heap.le h0 (up h1 w none)) {Q:Ex→St→Prop}
  (hQ:∀s',I44 H n q qa qb qc ba b k x (i+1) s'→Q .normal s') :
  awp (cx [] (pfL [])) (tlC 2 yB0) (zG8 1 (zAs (awp (cx [] (pfL [])) (tlC 2 zRn) Q) Q)) ⟨e,h1,n2⟩:=by
 have hs:=yS2 hi hq e h1 n2 a q10 q12 hc hr h0l (Q:=fun y s=>y=.normal∧Q .normal s) fun s' h=>⟨rfl,hQ s' h⟩
 rw[zCf]at hs;refine zA5 _ (fun y s hy => ?_) hs
 cases y with
 | normal =>
  rw[wL]at hy;rw[zEd,wL];refine zA5 _ (fun y s hy => ?_) hy
  obtain⟨h1,h2⟩:=hy;rw[h1];exact h2
 | _=>exact absurd hy.1 (by simp)
theorem yS1 (hn:Fresh n H) (e1:deQ H (.g (xS q qa qb qc))=some q) (hq:q.items.length≤1000000) {i:Nat} (hi:i<q.items.length) (hng:(itA q i).neg=true) (e:Nat→AV) (h1:Heap) (n2:Nat) (a:I44 H n q qa qb qc ba b k x i ⟨e,h1,n2⟩) {Q:Ex→St→Prop}
  (hQ:∀s',I44 H n q qa qb qc ba b k x (i+1) s'→Q .normal s') :
  awp (cx [] (pfL [])) (tlC 1 zRn) Q ⟨e,h1,n2⟩:=by
 have a0:=a;obtain⟨q1,q2,q4,q7,q10,q11,b4,b7,ag,fr,nn,-⟩:=a;simp only[]at q1 q2 q4 q7 q10 q11 b4 b7 ag fr nn;obtain⟨a',b',c',e0,x1,x2,x3⟩:=xP e1;cases e0;have hb4:h1 n=some ⟨[qa,.v (.int .i64 q.mode),.v (.int .i64 q.after),qb,.v (.int .i64 q.within),.v (.string q.par),qc],0,true,7⟩:=b4;obtain⟨id,off,bk,ty,y1,y2,y3,y4,y5,y6,y7,y8,y9⟩:=zE3 x1 hi;have y2':h1 id=some bk:=(ag _ (xI y2 hn)).trans y2;have hlt:off+(i*5+1)≤bk.cells.length:=by omega
 have hA:=zJ3 hi;rw[←hA]at y5;have hps:zBl q (i+1)=zBl q i:=by rw[zFj,if_pos hng]
 show awp _ (.seq (.block 1 yB0) (tlC 2 zRn)) _ _;rw[zCf,zAe];by_cases hik:(i:Int)=k
 ·have hE:byE q b k x i=[x]:=by unfold byE;rw[if_pos hng,if_pos hik]
  refine zX 2 _ _ (R:=fun s=>s.h=up h1 n2 (some ⟨zAk x,0,true,11⟩)∧s.n=n2+1∧(∀j∈[1,2,4,7,9,10,11],s.e j=e j)∧s.e 12=.s n2 0 0 1) ?_ ?_
  ·subst hik
   have hb7:h1 (n+1)=some ⟨zAk x,0,true,11⟩:=b7;simp[evx,hdC,tlC,yB0,zRn,inB,yP,Tryz.f44,q2,q4,q7,q11,hb4,hb7,zAk,ii,uu,ss,bv,y1,y2',hlt,y5,hi,hng,zF5]
   done
  ·rintro e' h' n' ⟨k0,k1,k2,k3⟩
   simp only[]at k0 k1 k2 k3;subst k0 k1;refine yM1 hi hq ((a0.al _).up (e':=fun j=>if j=10 then ii (zBl q i).length else e' j) fun j hj => ?_) ?_ k3 ⟨trivial,rfl⟩ (h0:=up (fun _=>none) n2 (some ⟨zAk x,0,true,11⟩)) ?_ (fun w hw => ?_) hQ
   ·by_cases hj:j=10
    ·subst hj;exact (if_pos rfl).trans q10.symm
    ·exact (if_neg hj).trans (k2 j (by assumption))
   ·rw[hps,k2 10 (by simp)];exact q10
   ·rw[hE];exact zBs Flat.ev (l:=[x]) (zN _ _ _) rfl (r:=[]) (by simp)
   ·have hw':¬w=n2:=by
     rcases hw with ⟨u',cs',z1,z2⟩|hw
     ·intro hw;subst hw;rw[zN]at z2;cases z2
     ·omega
    intro i1 k4 h4;by_cases hi1:i1=n2
    ·subst hi1;rw[zP _ _ (by omega)];rw[zN]at h4 ⊢;exact h4
    ·rw[zP _ _ hi1]at h4;cases h4
 ·have hE:byE q b k x i=[]:=by unfold byE;rw[if_pos hng,if_neg hik]
  refine zX 2 _ _ (R:=fun s=>s.h=h1∧s.n=n2∧(∀j∈[1,2,4,7,9,10,11],s.e j=e j)∧s.e 12=.v (.slice none 0 0)) ?_ ?_
  ·simp[evx,hdC,tlC,yB0,zRn,inB,yP,Tryz.f44,q2,q4,q7,q11,hb4,ii,uu,ss,bv,y1,y2',hlt,y5,hi,hng,hik]
   done
  ·rintro e' h' n' ⟨k0,k1,k2,k3⟩
   simp only[]at k0 k1 k2 k3;subst k0 k1;refine yM1 hi hq (a0.up (e':=fun j=>if j=10 then ii (zBl q i).length else e' j) fun j hj => ?_) ?_ k3 ⟨rfl,rfl⟩ (h0:=fun _=>none) ?_ (fun w hw => ?_) hQ
   ·by_cases hj:j=10
    ·subst hj;exact (if_pos rfl).trans q10.symm
    ·exact (if_neg hj).trans (k2 j (by assumption))
   ·rw[hps,k2 10 (by simp)];exact q10
   ·rw[hE];rfl
   ·intro i1 k4 h4;cases h4
end
end
section
section
variable {H:Heap} {n:Nat} {q:Qu} {qa qb qc ba:AV} {b:List (List Ev)} {k:Int} {x:Ev}
theorem yS0 (hn:Fresh n H) (e1:deQ H (.g (xS q qa qb qc))=some q) (rb:rd zDd H ba=some b) (hq:q.items.length≤1000000) {i:Nat} (hi:i<q.items.length) (hng:(itA q i).neg=false) (e:Nat→AV) (h1:Heap) (n2:Nat) (a:I44 H n q qa qb qc ba b k x i ⟨e,h1,n2⟩) {Q:Ex→St→Prop}
  (hQ:∀s',I44 H n q qa qb qc ba b k x (i+1) s'→Q .normal s') :
  awp (cx [] (pfL [])) (tlC 1 zRn) Q ⟨e,h1,n2⟩:=by
 have a0:=a;obtain⟨q1,q2,q4,q7,q10,q11,b4,b7,ag,fr,nn,-⟩:=a;simp only[]at q1 q2 q4 q7 q10 q11 b4 b7 ag fr nn;obtain⟨a',b',c',e0,x1,x2,x3⟩:=xP e1;cases e0;have hb4:h1 n=some ⟨[qa,.v (.int .i64 q.mode),.v (.int .i64 q.after),qb,.v (.int .i64 q.within),.v (.string q.par),qc],0,true,7⟩:=b4;obtain⟨id,off,bk,ty,y1,y2,y3,y4,y5,y6,y7,y8,y9⟩:=zE3 x1 hi;have y2':h1 id=some bk:=(ag _ (xI y2 hn)).trans y2;have hlt:off+(i*5+1)≤bk.cells.length:=by omega
 have hA:=zJ3 hi;rw[←hA]at y5;have hps:(zBl q (i+1)).length=(zBl q i).length+1:=by rw[zFj,if_neg (by rw[hng];simp)];simp
 have hpn:=zLm q i;have hE:byE q b k x i=b.getD (zBl q i).length []:=by unfold byE;rw[hng];rfl
 have wc:=yF (j:=(zBl q i).length) (by unfold big;omega)
 obtain⟨t1,t2,t3,t4,t5⟩:=zK rb;obtain⟨m,hmm⟩:∃m,m=(zBl q i).length:=⟨_,rfl⟩;rw[←hmm]at q10 hps hpn hE wc;show awp _ (.seq (.block 1 yB0) (tlC 2 zRn)) _ _;rw[zCf,zAe];by_cases hm:m<b.length
 ·obtain⟨bid,boff,bk',c,rfl,hbk,bho,bc,brd⟩:=zEa rb hm
  have hbk':h1 bid=some bk':=(ag _ (xI hbk hn)).trans hbk;have bw1:boff+(m+1)≤bk'.cells.length:=by omega
  have hone:=(zK brd).2.2.2;refine zX 2 _ _ (R:=fun s=>s.h=h1∧s.n=n2∧(∀j∈[1,2,4,7,9,11],s.e j=e j)∧s.e 10=ii (m+1:Nat)∧s.e 12=c) ?_ ?_
  ·simp[evx,hdC,tlC,yB0,zRn,inB,yP,Tryz.f44,q1,q2,q4,q7,q10,q11,hb4,ii,uu,ss,bv,y1,y2',hlt,y5,hi,hng,hm,hbk',bc,bw1,wc,t1,t2,t3]
   done
  ·rintro e' h' n' ⟨k0,k1,k2,k3,k4⟩
   simp only[]at k0 k1 k2 k3 k4;subst k0 k1;refine yM1 hi hq (a0.up (e':=fun j=>if j=10 then ii (zBl q i).length else e' j) fun j hj => ?_) ?_ k4 hone (h0:=H) ?_ (fun w hw => ?_) hQ
   ·by_cases hj':j=10
    ·subst hj';exact (if_pos rfl).trans (by rw[←hmm];exact q10.symm)
    ·exact (if_neg hj').trans (k2 j (by simp at hj ⊢;omega))
   ·rw[hps];exact k3
   ·rw[hE];exact brd
   ·have hw':=a0.w (w:=w) (by
     rcases hw with ⟨u',cs',z1,z2⟩|hw
     ·exact .inl ⟨u',cs',by rw[←k2 9 (by simp)];exact z1,z2⟩
     ·exact .inr hw)
    intro i1 k6 h4;have:=xI h4 hn;rw[zP _ _ (by omega),ag i1 this];exact h4
 ·have hE':b.getD m []=[]:=by rw[zB,zL (by omega)];rfl
  refine zX 2 _ _ (R:=fun s=>s.h=h1∧s.n=n2∧(∀j∈[1,2,4,7,9,11],s.e j=e j)∧s.e 10=ii (m+1:Nat)∧s.e 12=.v (.slice none 0 0)) ?_ ?_
  ·simp[evx,hdC,tlC,yB0,zRn,inB,yP,Tryz.f44,q1,q2,q4,q7,q10,q11,hb4,ii,uu,ss,bv,y1,y2',hlt,y5,hi,hng,hm,wc,t1,t2,t3]
   done
  ·rintro e' h' n' ⟨k0,k1,k2,k3,k4⟩
   simp only[]at k0 k1 k2 k3 k4;subst k0 k1;refine yM1 hi hq (a0.up (e':=fun j=>if j=10 then ii (zBl q i).length else e' j) fun j hj => ?_) ?_ k4 ⟨rfl,rfl⟩ (h0:=fun _=>none) ?_ (fun w hw => ?_) hQ
   ·by_cases hj':j=10
    ·subst hj';exact (if_pos rfl).trans (by rw[←hmm];exact q10.symm)
    ·exact (if_neg hj').trans (k2 j (by simp at hj ⊢;omega))
   ·rw[hps];exact k3
   ·rw[hE,hE'];rfl
   ·intro i1 k6 h4;cases h4
def T44 (H:Heap) (n:Nat) (q:Qu) (qa qb qc ba:AV) (b:List (List Ev)) (k:Int) (x:Ev) (s:St):Prop:=∃i:Nat,i≤q.items.length∧I44 H n q qa qb qc ba b k x i s
theorem yS3 (hn:Fresh n H) (e1:deQ H (.g (xS q qa qb qc))=some q) (rb:rd zDd H ba=some b) (hq:q.items.length≤1000000) (e:Nat→AV) (h1:Heap) (n2:Nat) (a:I44 H n q qa qb qc ba b k x 0 ⟨e,h1,n2⟩) {Q:Ex→St→Prop}
  (hQ:∀s',I44 H n q qa qb qc ba b k x q.items.length s'→Q (.exit 0) s') :
  awp (cx [] (pfL [])) (.loop zRn) Q ⟨e,h1,n2⟩:=by
 refine yK (T44 H n q qa qb qc ba b k x) (fun s=>q.items.length-(s.e 11).i.toNat) ⟨0,zAz _,a⟩ ?_
 rintro e' h' n' ⟨i,hi,J⟩;have J0:=J;obtain⟨q1,q2,q4,q7,q10,q11,b4,b7,ag,fr,nn,-⟩:=J;simp only[]at q1 q2 q4 q7 q10 q11 b4 b7 ag fr nn;obtain⟨a',b',c',e0,x1,x2,x3⟩:=xP e1;cases e0;have hb4:h' n=some ⟨[qa,.v (.int .i64 q.mode),.v (.int .i64 q.after),qb,.v (.int .i64 q.within),.v (.string q.par),qc],0,true,7⟩:=b4;obtain⟨s1,s2,s3,s4,s5⟩:=zK x1;by_cases hlt:i<q.items.length
 ·refine zX 1 _ _ (R:=fun s=>s.h=h'∧s.n=n'∧∀j∈[1,2,4,7,9,10,11],s.e j=e' j) ?_ ?_
  ·simp[evx,hdC,tlC,zRn,yP,Tryz.f44,q4,q11,hb4,ii,s1,s2,s3,hlt]
  ·rintro e2 h2 n2 ⟨k0,k1,k2⟩
   simp only[]at k0 k1 k2;subst k0 k1;have J1:=J0.up k2;have fin:∀s',I44 H n q qa qb qc ba b k x (i+1) s'→T44 H n q qa qb qc ba b k x s'∧q.items.length-(s'.e 11).i.toNat<q.items.length-(e' 11).i.toNat:=fun s' h=>by
    have g1:=h.q11;refine⟨⟨i+1,hlt,h⟩,?_⟩;rw[g1,q11];show q.items.length-((i+1:Nat):Int).toNat<q.items.length-((i:Nat):Int).toNat;omega
   cases hng:(itA q i).neg with
   | false=>exact yS0 hn e1 rb hq hlt hng _ _ _ J1 fin
   | true=>exact yS1 hn e1 hq hlt hng _ _ _ J1 fin
 ·obtain rfl:i=q.items.length:=by omega
  simp[evx,zRn,yP,hdC,tlC,Tryz.f44,q4,q11,hb4,ii,s1,s2,s3];refine hQ _ ?_;exact J0.up (by simp[up])
end
end
theorem c44 {H:Heap} {n:Nat} {q:Qu} {qa qb qc ba:AV} {b:List (List Ev)} {k:Int} {x:Ev} (hn:Fresh n H) (e1:deQ H (.g (xS q qa qb qc))=some q) (rb:rd zDd H ba=some b) (hq:q.items.length≤1000000) :
  ACall (cx [] (pfL [])) 44 [.g (xS q qa qb qc),ba,ii k,ee x] H n fun z h' n'=>agree n H h'∧Fresh n' h'∧n≤n'∧rd zDd h' z=some (byV q b k x):=by
 refine yV (args:=[.g (xS q qa qb qc),ba,ii k,ee x]) (zA1 yH) (zCm _ _) Tryz.func44 (c:=Tryz.f44.body.getD .skip) rfl (by kernel_rfl) (xM Tryz.func44 rfl rfl _ _) (show 4≤Tryz.f44.ntmps by decide +kernel) ?_
 obtain⟨a',b',c',e0,x1,x2,x3⟩:=xP e1;cases e0;have o1:=(zK x2).2.2.2.1;have o2:=(zK x3).2.2.2.1;obtain⟨s1,s2,s3,s4,s5⟩:=zK x1;have key:∀e:Nat→AV,e 0=.g (xS q qa qb qc)→e 1=ba→e 2=ii k→e 3=ee x→awp (cx [] (pfL [])) (Tryz.f44.body.getD .skip) (zA8 (cx [] (pfL [])) Tryz.f44 fun z h' n'=>agree n H h'∧Fresh n' h'∧n≤n'∧rd zDd h' z=some (byV q b k x)) ⟨e,H,n⟩:=fun e q0 q1 q2 q3=>by
  refine zX 3 _ _ (R:=fun s=>I44 H n q qa qb qc ba b k x 0 ⟨fun j=>if j=11 then ii 0 else s.e j,s.h,s.n⟩) ?_ fun e2 h2 n3 J => ?_
  ·simp[evx,hdC,Tryz.f44,q0,q1,q2,q3,xS,zAk,ee,ii,ss,uu,o1,o2,s4]
   exact⟨by simp[up,q1],by simp[up,q2,ii],by simp[up],by simp[up],by simp[up,zBl,ii],by simp[ii],by simp[up,xS,ii,ss],by simp[up,zAk,ii,uu],by simp[zC,zE],by simp[zG,hn.add],by simp,0,0,[],rfl,.inl ⟨rfl,rfl,by simp[up]⟩,fun j hj=>by omega⟩
  ·refine zX 1 _ _ (R:=fun s=>I44 H n q qa qb qc ba b k x q.items.length s) ?_ fun e6 h6 n7 J => ?_
   ·show awp _ (.seq (hdC 1 (hdC 1 (tlC 3 (Tryz.f44.body.getD .skip)))) (.block 0 (.loop zRn))) _ _
    have hb:=yS3 hn e1 rb hq (k:=k) (x:=x) (up e2 11 (ii 0)) h2 n3 J (Q:=zG8 0 (zAs (fun s=>I44 H n q qa qb qc ba b k x q.items.length s) (zA8 (cx [] (pfL [])) Tryz.f44 fun z h' n'=>agree n H h'∧Fresh n' h'∧n≤n'∧rd zDd h' z=some (byV q b k x)))) fun s' J=>by
     rw[zBf,if_pos rfl,wL];exact J
    simp[evx,hdC,tlC,Tryz.f44];exact hb
   ·obtain⟨q1,q2,q4,q7,q10,q11,b4,b7,ag,fr,nn,w,u,cs,hcl,hw,hcs⟩:=J
    simp only[]at ag fr nn hw hcs;have hbl:(byV q b k x).length=q.items.length:=by simp[byV]
    rcases hw with ⟨h0,rfl,q9⟩|⟨q9,hb,w1,w2⟩
    ·simp[evx,tlC,Tryz.f44,q9]
     refine⟨ag,fr,by omega,?_⟩
     have:byV q b k x=[]:=zU (by omega)
     rw[this];rfl
    ·simp[evx,tlC,Tryz.f44,q9]
     refine⟨ag,fr,by omega,?_⟩
     have:=De.sl_in (a:=dEs) (sz:=1) (off:=0) (xs:=byV q b k x) hb (by simp only[];omega) fun i hi=>by
      obtain⟨c,k1,k2⟩:=hcs i (by omega)
      have hle:Heap.le (up h6 w none) h6:=fun i1 k4 h4=>by
       by_cases hi1:i1=w
       ·subst hi1;rw[zN]at h4;cases h4
       ·rw[zP _ _ hi1]at h4;exact h4
      have hv:(byV q b k x)[i]=byE q b k x i:=by simp[byV]
      rw[hv,←yU hle k2];show dEs.run h6 _=dEs.run h6 [c];congr 1;rw[xA,wA];rw[wC (by simp only[];omega)]
      have:=(zY.1 k1).2;simp[this]
     rw[hbl]at this
     exact this
 exact key _ rfl rfl rfl rfl
end Go.Proofs.YtbffkkeieihpdaaGreatDoor
