import Derived.Test.YtbffkkeieihpdaaGreatDoorE22
import Derived.Test.YtbffkkeieihpdaaGreatDoorE25
import Derived.Test.YtbffkkeieihpdaaGreatDoorE23
import Derived.Test.YtbffkkeieihpdaaGreatDoorE24
set_option linter.unusedSimpArgs false
set_option linter.unusedVariables false
set_option linter.constructorNameAsVariable false
set_option maxRecDepth 100000
set_option maxHeartbeats 4000000
namespace Go.Proofs.YtbffkkeieihpdaaGreatDoor
open Go Go.Eng
section
def g85:=yV deI fun o=>bv (wU o)
def g86:=yV deI fun o=>bv (zC3 o)
theorem p85:P0 [] 95 g85:=by
 refine mk1 (S:=[]) yJ Tryz.func95 rfl (by kernel_rfl) ii (fun x a h=>zBu h) (fun a=>rfl) (fun o h n => ?_)
 have hc:o=4∨o=11∨(o≠4∧o≠11):=by omega
 rcases hc with rfl|rfl|⟨h1,h2⟩
 ·simp[evv,ii,bv,wU]
 ·simp[evv,ii,bv,wU]
 ·simp[evv,ii,bv,wU,h1,h2]
theorem p86:P0 [] 96 g86:=by
 refine mk1 (S:=[]) yJ Tryz.func96 rfl (by kernel_rfl) ii (fun x a h=>zBu h) (fun a=>rfl) (fun o h n => ?_)
 by_cases h1:5≤o
 ·by_cases h2:o≤10<;>simp[evv,ii,bv,zC3,h1,h2]
 ·simp[evv,ii,bv,zC3,h1]
def zIu (p:Int→Bool) (vs:List ByteArray) (t:List Nd) (i:Int):Int:=((t.filter fun x=>p x.op&&decide (ixM vs x.var=some i)).length:Nat)
theorem zTs (p:Int→Bool) (vs:List ByteArray) (t:List Nd) (x:Nd) (i:Int):zIu p vs (t++[x]) i=zIu p vs t i+if p x.op=true∧ixM vs x.var=some i then 1 else 0:=by
 unfold zIu;rw[zCh,zM];by_cases h1:p x.op=true<;>by_cases h2:ixM vs x.var=some i<;>simp[h1,h2]
theorem zIt {p:Int→Bool} {vs:List ByteArray} {t:List Nd} {x:Nd} (h:p x.op=false∨ixM vs x.var=none):zIu p vs (t++[x])=zIu p vs t:=by
 funext i;rw[zTs,if_neg (fun e=>by rcases h with h|h<;>simp[h]at e),Int.add_zero]
theorem zN0 {p:Int→Bool} {vs:List ByteArray} {t:List Nd} {x:Nd} {i:Int} (h:p x.op=true) (h2:ixM vs x.var=some i):zIu p vs (t++[x])=fun z=>if z=i then zIu p vs t i+1 else zIu p vs t z:=by
 funext z;rw[zTs];by_cases hz:z=i
 ·subst hz;rw[if_pos ⟨h,h2⟩,if_pos rfl]
 ·rw[if_neg (fun e=>hz (by rw[h2]at e;exact (Option.some.inj e.2).symm)),if_neg hz,Int.add_zero]
theorem yHl (p:Int→Bool) (vs:List ByteArray) (t:List Nd) (i:Int):0≤zIu p vs t i∧zIu p vs t i≤t.length:=by
 unfold zIu;have:=wS (fun x:Nd=>p x.op&&decide (ixM vs x.var=some i)) t
 omega
theorem zIi (p:Int→Bool) (vs:List ByteArray) (t:List Nd):zLo (zIu p vs t) vs.length=zA0 p vs t:=by
 unfold zLo zA0;refine List.filter_congr fun i hi => ?_
 obtain⟨j,_,rfl⟩:=xU.1 hi;have key:∀x:Nd,(ixM vs x.var=some (j:Int))↔wY vs x.var=(j:Int):=fun x=>by
  unfold ixM;constructor
  ·intro h
   split at h
   ·exact Option.some.inj h
   ·cases h
  ·intro h
   rw[if_pos (by omega),h]
 unfold zIu yEp;simp only[key];rw[Bool.eq_iff_iff,decide_eq_true_eq,zA7];constructor
 ·intro h
  have h':0<(t.filter fun x=>p x.op&&decide (wY vs x.var=(j:Int))).length:=by omega
  obtain⟨x,hx⟩:=List.exists_mem_of_length_pos h';exact⟨x,(zBo.1 hx).1,(zBo.1 hx).2⟩
 ·rintro⟨x,hx,hp⟩
  have:=List.length_pos_of_mem (zBo (p:=fun x=>p x.op&&decide (wY vs x.var=(j:Int))).2 ⟨hx,hp⟩)
  omega
def zVx:List (FuncId×(List AV→Heap→PRes)):=[(95,g85),(96,g86)]
structure A49 (h0:Heap) (n:Nat) (qc:List AV) (ta:AV) (q:Qu) (t:List Nd) (j:Nat) (s:St):Prop where
 q2:s.e 2=.p n 0 0
 q4:s.e 4=.p (n+1) 0 0
 hq:s.h n=some ⟨qc,0,true,7⟩
 hz:s.h (n+1)=some ⟨[.v (.slice none 0 0),.v (.slice none 0 0),.v (.slice none 0 0)],0,true,3⟩
 ag:agree n h0 s.h
 fr:Fresh s.n s.h
 m:∃m cs,s.e 5=.mv m 0∧s.h m=some ⟨cs,0,true,0⟩∧isM (ixM (vars q.items)) cs∧n+2≤m∧∃b c1 c2 c3,m<b∧b+2<s.n∧s.e 6=.mv b 0∧s.e 7=.mv (b+1) 0∧s.e 8=.mv (b+2) 0∧
  s.h b=some ⟨c1,0,true,0⟩∧isI (zIu wU (vars q.items) (t.take j)) c1∧s.h (b+1)=some ⟨c2,0,true,0⟩∧isI (zIu zDk (vars q.items) (t.take j)) c2∧s.h (b+2)=some ⟨c3,0,true,0⟩∧isI (zIu zC3 (vars q.items) (t.take j)) c3
section
variable {h:Heap} {n:Nat} {qx ta:AV} {q:Qu} {t:List Nd}
theorem yPa {a b c:AV} (x2:rd zG5 h a=some q.items) (x3:rd dNs h b=some q.wh) (x4:rd zTp h c=some q.ret) (e3:rd dNs h ta=some t) (hq:q.items.length<big) (hn:Fresh n h) (e:Nat→AV) (q0:e 0=.g [a,ii q.mode,ii q.after,b,ii q.within,ss q.par,c]) (q1:e 1=ta) {Q:Ex→St→Prop} :
  awp (cx [] (pfL zVx)) (hdC 3 (Tryz.f47.body.getD .skip)) (zAs (fun s=>A49 h n [a,ii q.mode,ii q.after,b,ii q.within,ss q.par,c] ta q t 0 s∧s.e 1=ta) Q) ⟨e,h,n⟩:=by
 obtain⟨s1,s2,s3,s4,s5⟩:=zN e3;have o1:=(zN x2).2.2.2.1;have o2:=(zN x3).2.2.2.1;have o3:=(zN x4).2.2.2.1;simp[evx,hdC,Tryz.f47,q0,q1,ii,ss,o1,o2,o3,zVx];have hag:∀b1 b2:Option Blk,agree n h (up (up h n b1) (n+1) b2):=fun b1 b2=>by simp[zD,zE]
 have hfr:∀b1 b2:Option Blk,Fresh (n+2) (up (up h n b1) (n+1) b2):=fun b1 b2=>by simp[zF,hn.add]
 have hdq:∀h',agree n h h'→deQ h' (.g [a,.v (.int .i64 q.mode),.v (.int .i64 q.after),b,.v (.int .i64 q.within),.v (.string q.par),c])=some q:=fun h' ha=>zC0 (zB8 hn ha) (zF9 x2 x3 x4)
 refine (wD (S:=[]) (by simp) (c84 (hdq _ (hag _ _)) hq (hfr _ _))).mono ?_
 rintro z h2 n2 ⟨a1,a2,a3,m,cs,rfl,hm,hM,m1,m2⟩;have z1:¬n=n2:=by omega
 have k0:h2 n=some ⟨[a,ii q.mode,ii q.after,b,ii q.within,ss q.par,c],0,true,7⟩:=by rw[a1 n (by omega)];simp[up,ii,ss]
 have k1:h2 (n+1)=some ⟨[.v (.slice none 0 0),.v (.slice none 0 0),.v (.slice none 0 0)],0,true,3⟩:=by rw[a1 (n+1) (by omega)];simp[up]
 have hup:∀(b1 b2 b3:Option Blk) (i:Nat),i<n2→up (up (up h2 n2 b1) (n2+1) b2) (n2+2) b3 i=h2 i:=fun b1 b2 b3 i hi=>by rw[zP _ _ (by omega),zP _ _ (by omega),zP _ _ (by omega)]
 refine⟨by simp[up],by simp[up],(hup _ _ _ _ (by omega)).trans k0,(hup _ _ _ _ (by omega)).trans k1,?_,by simp[zF,a2.add],m,cs,by simp[up],(hup _ _ _ _ m2).trans hm,hM,m1,n2,[],[],[],m2,by simp,by simp[up],by simp[up],by simp[up],by simp[up],zQ6,by simp[up],zQ6,by simp[up],zQ6⟩
 exact fun i hi=>(hup _ _ _ i (by omega)).trans (by rw[a1 i (by omega)];exact hag _ _ i hi)
theorem zMr (p:Int→Bool) (vs:List ByteArray) (t:List Nd) (i:Int) (h:t.length<big):IntKind.i64.wrap (zIu p vs t i+1)=zIu p vs t i+1:=by
 obtain⟨h1,h2⟩:=yHl p vs t i;obtain⟨c,hc⟩:∃c:Nat,zIu p vs t i=c:=⟨(zIu p vs t i).toNat,by omega⟩
 rw[hc];exact yK (by omega)
theorem yO9 {qc:List AV} (e3:rd dNs h ta=some t) (hp:xQ t) (hn:Fresh n h) (e:Nat→AV) (h1:Heap) (n1:Nat) (a:A49 h n qc ta q t 0 ⟨e,h1,n1⟩) (q1:e 1=ta) {Q:Ex→St→Prop} :
  awp (cx [] (pfL zVx)) (hdC 1 (tlC 3 (Tryz.f47.body.getD .skip))) (zAs (A49 h n qc ta q t t.length) Q) ⟨e,h1,n1⟩:=by
 have hp':t.length*64≤140737488355328:=hp;obtain⟨s1,s2,s3,s4,s5⟩:=zN e3;simp[evx,hdC,tlC,Tryz.f47,q1,s1,s2];refine yN (fun s=>∃j:Nat,j≤t.length∧A49 h n qc ta q t j s∧s.e 19=ta∧s.e 20=ii t.length∧s.e 21=ii j) (fun s=>t.length-(s.e 21).i.toNat) ⟨0,by omega,?_,by simp[up],by simp[up,ii],by simp[up,ii]⟩ ?_
 ·obtain⟨x1,x2,x3,x4,xa,xf,m,cs,x5,x6,x7,x8,b,c1,c2,c3,x9,x10,x11,x12,x13,x14⟩:=a
  exact⟨by simpa[up]using x1,by simpa[up]using x2,x3,x4,xa,xf,m,cs,by simpa[up]using x5,x6,x7,x8,b,c1,c2,c3,x9,x10,by simpa[up]using x11,by simpa[up]using x12,by simpa[up]using x13,x14⟩
 rintro e' h' n' ⟨j,hj,⟨q2,q4,hq,hz,hag,hfr,m,cs,q5,hm,hM,hm2,b,c1,c2,c3,hb0,hb3,q6,q7,q8,k1,I1,k2,I2,k3,I3⟩,q19,q20,q21⟩;simp only[]at q2 q4 hq hz q5 hm q6 q7 q8 k1 k2 k3 hag hfr q19 q20 q21 hb3;by_cases hlt:j<t.length
 ·rcases zKk e3 with ⟨h0,_⟩|⟨id,off,k,rfl,hk,ho,hat⟩
  ·rw[h0]at hlt;simp at hlt
  have hid:id<n:=xB hk hn;have hk':h' id=some k:=by rw[hag id hid];exact hk
  have hr:=hat j hlt;have d0:=yI (c:=0) hr rfl (by omega)
  have d1:=yI (c:=1) hr rfl (by omega)
  have d2:=yI (c:=2) hr rfl (by omega)
  have d3:=yI (c:=3) hr rfl (by omega)
  have d4:=yI (c:=4) hr rfl (by omega)
  have d5:=yI (c:=5) hr rfl (by omega)
  simp only[yL]at d0;rw[xD]at d1 d2 d3 d4 d5;have hw6:off+(j*6+6)≤k.cells.length:=by omega
  have hld:∀X:Ctx,ldcs X h' (.p id k.ver (off+j*6)) 0 6=yC t[j]:=fun X=>zKo hk' hr
  have hlt':(j:Int)<(t.length:Int):=by omega
  have hjw:=yK (j:=j) (by unfold big;omega)
  have htk:t.take (j+1)=t.take j++[t[j]]:=yY hlt;have htl:(t.take j).length<big:=by rw[zW];unfold big;omega
  have hf:=hM.2 t[j].var;have hok:=hM.1;have ok1:=I1.1;have ok2:=I2.1;have ok3:=I3.1;generalize t[j]=x at *;obtain⟨op,nn,var,attr,xa,xb⟩:=x;simp only[]at hf;simp only[yC,ii,ss]at hld;simp only[ii,ss]at d0 d1 d2 d3 d4 d5;have z0:¬id=n':=by omega
  have z1:¬m=n':=by omega
  have z2:¬b=n':=by omega
  have z3:¬b+1=n':=by omega
  have z4:¬b+2=n':=by omega
  have z5:¬n'=b:=by omega
  have z6:¬n'=b+1:=by omega
  have z7:¬n'=b+2:=by omega
  have fin:∀(h2:Heap) (n2:Nat) (c1' c2' c3':List AV),n'≤n2→(∀i,i<n'→i≠b→i≠b+1→i≠b+2→h2 i=h' i)→h2 b=some ⟨c1',0,true,0⟩→h2 (b+1)=some ⟨c2',0,true,0⟩→h2 (b+2)=some ⟨c3',0,true,0⟩→
    isI (zIu wU (vars q.items) (t.take (j+1))) c1'→isI (zIu zDk (vars q.items) (t.take (j+1))) c2'→isI (zIu zC3 (vars q.items) (t.take (j+1))) c3'→Fresh n2 h2→∀e2:Nat→AV,(∀i∈[2,4,5,6,7,8],e2 i=e' i)→
    A49 h n qc (.s id k.ver off t.length) q t (j+1) ⟨e2,h2,n2⟩:=fun h2 n2 c1' c2' c3' hn2 hh g1 g2 g3 i1 i2 i3 hf2 e2 he=>by
   have he':e2 2=e' 2∧e2 4=e' 4∧e2 5=e' 5∧e2 6=e' 6∧e2 7=e' 7∧e2 8=e' 8:=⟨he 2 (by simp),he 4 (by simp),he 5 (by simp),he 6 (by simp),he 7 (by simp),he 8 (by simp)⟩
   obtain⟨w2,w4,w5,w6,w7,w8⟩:=he';exact⟨w2.trans q2,w4.trans q4,(hh n (by omega) (by omega) (by omega) (by omega)).trans hq,(hh (n+1) (by omega) (by omega) (by omega) (by omega)).trans hz,fun i hi=>(hh i (by omega) (by omega) (by omega) (by omega)).trans (hag i hi),hf2,m,cs,w5.trans q5,(hh m (by omega) (by omega) (by omega) (by omega)).trans hm,hM,hm2,b,c1',c2',c3',hb0,by simp only[];omega,w6.trans q6,w7.trans q7,w8.trans q8,g1,i1,g2,i2,g3,i3⟩
  cases hx:ixM (vars q.items) var with
  | none =>
   rw[hx]at hf;simp only[Option.map_none]at hf;have e1:=zIt (p:=wU) (vs:=vars q.items) (t:=t.take j) (x:=⟨op,nn,var,attr,xa,xb⟩) (.inr hx);have e2:=zIt (p:=zDk) (vs:=vars q.items) (t:=t.take j) (x:=⟨op,nn,var,attr,xa,xb⟩) (.inr hx);have e3:=zIt (p:=zC3) (vs:=vars q.items) (t:=t.take j) (x:=⟨op,nn,var,attr,xa,xb⟩) (.inr hx);rw[←htk]at e1 e2 e3;simp[evx,q5,q19,q20,q21,ii,hlt',hk',hld,hm,hok,hf,hw6,z1,hjw];refine⟨⟨j+1,by omega,fin _ _ c1 c2 c3 (by omega) (fun i hi _ _ _ => ?_) ?_ ?_ ?_ (by rw[e1];exact I1) (by rw[e2];exact I2) (by rw[e3];exact I3) (by simp[zF,hfr.add]) _ (by simp[up]),by omega⟩,by omega⟩
   ·rw[zP _ _ (by omega),zP _ _ (by omega)]
   ·rw[zP _ _ (by omega),zP _ _ (by omega)];exact k1
   ·rw[zP _ _ (by omega),zP _ _ (by omega)];exact k2
   ·rw[zP _ _ (by omega),zP _ _ (by omega)];exact k3
  | some i =>
   rw[hx]at hf;simp only[zK,ii]at hf;have f1:=I1.2 i;have f2:=I2.2 i;have f3:=I3.2 i;simp only[ii]at f1 f2 f3;have u1:=zMr wU (vars q.items) (t.take j) i htl;have u2:=zMr zDk (vars q.items) (t.take j) i htl;have u3:=zMr zC3 (vars q.items) (t.take j) i htl;have y1:=fun hb:wU op=true=>zN0 (p:=wU) (vs:=vars q.items) (t:=t.take j) (x:=⟨op,nn,var,attr,xa,xb⟩) hb hx
   have y2:=fun hb:zDk op=true=>zN0 (p:=zDk) (vs:=vars q.items) (t:=t.take j) (x:=⟨op,nn,var,attr,xa,xb⟩) hb hx
   have y3:=fun hb:zC3 op=true=>zN0 (p:=zC3) (vs:=vars q.items) (t:=t.take j) (x:=⟨op,nn,var,attr,xa,xb⟩) hb hx
   have g1:=fun hb:wU op=false=>zIt (p:=wU) (vs:=vars q.items) (t:=t.take j) (x:=⟨op,nn,var,attr,xa,xb⟩) (.inl hb)
   have g2:=fun hb:zDk op=false=>zIt (p:=zDk) (vs:=vars q.items) (t:=t.take j) (x:=⟨op,nn,var,attr,xa,xb⟩) (.inl hb)
   have g3:=fun hb:zC3 op=false=>zIt (p:=zC3) (vs:=vars q.items) (t:=t.take j) (x:=⟨op,nn,var,attr,xa,xb⟩) (.inl hb)
   rw[←htk]at y1 y2 y3 g1 g2 g3;have hc:op=4∨op=11∨(5≤op∧op≤10)∨(op≠4∧op≠11∧¬(5≤op∧op≤10)):=by omega
   rcases hc with rfl|rfl|⟨r1,r2⟩|⟨r1,r2,r3⟩
   ·have p1:wU 4=true:=rfl
    have p2:zDk 4=false:=rfl;have p3:zC3 4=false:=rfl;simp[evx,q5,q6,q19,q20,q21,ii,bv,hlt',hk',hld,hm,hok,ok1,hf,f1,k1,hw6,z1,z2,z5,hjw,u1,zVx,g85,g86,yV,deI,p1,p3];refine⟨⟨j+1,by omega,fin _ _ (zEt i (ii (zIu wU (vars q.items) (t.take j) i+1)) c1) c2 c3 (by omega) (fun i hi z1 z2 z3 => ?_) ?_ ?_ ?_ (by rw[y1 p1];exact zNb I1 _ _) (by rw[g2 p2];exact I2) (by rw[g3 p3];exact I3) ((zF (by omega) _).2 ((zF (by omega) _).2 ((zF (by omega) _).2 (hfr.add 3)))) _ (by simp[up]),by omega⟩,by omega⟩
    ·rw[zP _ _ z1,zP _ _ (by omega),zP _ _ (by omega)]
    ·rw[zJ];rfl
    ·rw[zP _ _ (by omega),zP _ _ (by omega),zP _ _ (by omega)];exact k2
    ·rw[zP _ _ (by omega),zP _ _ (by omega),zP _ _ (by omega)];exact k3
   ·have p1:wU 11=true:=rfl
    have p2:zDk 11=true:=rfl;have p3:zC3 11=false:=rfl;simp[evx,q5,q6,q7,q19,q20,q21,ii,bv,hlt',hk',hld,hm,hok,ok1,ok2,hf,f1,f2,k1,k2,hw6,z1,z2,z3,z5,z6,hjw,u1,u2,zVx,g85,g86,yV,deI,p1,p3];refine⟨⟨j+1,by omega,fin _ _ (zEt i (ii (zIu wU (vars q.items) (t.take j) i+1)) c1) (zEt i (ii (zIu zDk (vars q.items) (t.take j) i+1)) c2) c3 (by omega) (fun i hi z1 z2 z3 => ?_) ?_ ?_ ?_ (by rw[y1 p1];exact zNb I1 _ _) (by rw[y2 p2];exact zNb I2 _ _) (by rw[g3 p3];exact I3) ((zF (by omega) _).2 ((zF (by omega) _).2 ((zF (by omega) _).2 ((zF (by omega) _).2 (hfr.add 4))))) _ (by simp[up]),by omega⟩,by omega⟩
    ·rw[zP _ _ z2,zP _ _ z1,zP _ _ (by omega),zP _ _ (by omega)]
    ·rw[zP _ _ (by omega),zJ];rfl
    ·rw[zJ];rfl
    ·rw[zP _ _ (by omega),zP _ _ (by omega),zP _ _ (by omega),zP _ _ (by omega)];exact k3
   ·have p1:wU op=false:=by simp[wU];omega
    have p2:zDk op=false:=by simp[zDk];omega
    have p3:zC3 op=true:=by simp[zC3];omega
    have r4:¬op=11:=by omega
    simp[evx,q5,q8,q19,q20,q21,ii,bv,hlt',hk',hld,hm,hok,ok3,hf,f3,k3,hw6,z1,z4,hjw,u3,zVx,g85,g86,yV,deI,p1,p3,r4];refine⟨⟨j+1,by omega,fin _ _ c1 c2 (zEt i (ii (zIu zC3 (vars q.items) (t.take j) i+1)) c3) (by omega) (fun i hi z1 z2 z3 => ?_) ?_ ?_ ?_ (by rw[g1 p1];exact I1) (by rw[g2 p2];exact I2) (by rw[y3 p3];exact zNb I3 _ _) ((zF (by omega) _).2 ((zF (by omega) _).2 ((zF (by omega) _).2 (hfr.add 3)))) _ (by simp[up]),by omega⟩,by omega⟩
    ·rw[zP _ _ z3,zP _ _ (by omega),zP _ _ (by omega)]
    ·rw[zP _ _ (by omega),zP _ _ (by omega),zP _ _ (by omega)];exact k1
    ·rw[zP _ _ (by omega),zP _ _ (by omega),zP _ _ (by omega)];exact k2
    ·rw[zJ];rfl
   ·have p1:wU op=false:=by simp[wU];omega
    have p2:zDk op=false:=by simp[zDk];omega
    have p3:zC3 op=false:=by simp[zC3];omega
    simp[evx,q5,q19,q20,q21,ii,bv,hlt',hk',hld,hm,hok,hf,hw6,z1,hjw,zVx,g85,g86,yV,deI,p1,p3,r2];refine⟨⟨j+1,by omega,fin _ _ c1 c2 c3 (by omega) (fun i hi _ _ _ => ?_) ?_ ?_ ?_ (by rw[g1 p1];exact I1) (by rw[g2 p2];exact I2) (by rw[g3 p3];exact I3) (by simp[zF,hfr.add]) _ (by simp[up]),by omega⟩,by omega⟩
    ·rw[zP _ _ (by omega),zP _ _ (by omega)]
    ·rw[zP _ _ (by omega),zP _ _ (by omega)];exact k1
    ·rw[zP _ _ (by omega),zP _ _ (by omega)];exact k2
    ·rw[zP _ _ (by omega),zP _ _ (by omega)];exact k3
 ·obtain rfl:j=t.length:=by omega
  simp[evx,q20,q21,ii];exact⟨q2,q4,hq,hz,hag,hfr,m,cs,q5,hm,hM,hm2,b,c1,c2,c3,hb0,hb3,q6,q7,q8,k1,I1,k2,I2,k3,I3⟩
def yDu (h:Heap) (n:Nat) (q:Qu) (t:List Nd) (z:AV) (h':Heap) (n':Nat):Prop :=
 agree n h h'∧Fresh n' h'∧n≤n'∧∃a1 a2 a3,z=.g [a1,a2,a3]∧rd dIs h' a1=some (zA0 wU (vars q.items) t)∧rd dIs h' a2=some (zA0 zDk (vars q.items) t)∧rd dIs h' a3=some (zA0 zC3 (vars q.items) t)
def zW9 (h:Heap) (n:Nat) (q:Qu) (t:List Nd) (z:AV) (h':Heap) (n':Nat):Prop :=
 yDu h n q t z h' n'∧∃a1 a2 a3,z=.g [a1,a2,a3]∧(a1=.v (.slice none 0 0)∨0<(zA0 wU (vars q.items) t).length)
theorem yO8 {a x3 x6:AV} (e2:rd zG5 h a=some q.items) (hp:q.items.length*64≤140737488355328) (hn:Fresh n h) (e:Nat→AV) (h1:Heap) (n1:Nat) (k:A49 h n [a,ii q.mode,ii q.after,x3,ii q.within,ss q.par,x6] ta q t t.length ⟨e,h1,n1⟩) :
  awp (cx [] (pfL zVx)) (tlC 4 (Tryz.f47.body.getD .skip)) (zBc (cx [] (pfL zVx)) Tryz.f47 (zW9 h n q t)) ⟨e,h1,n1⟩:=by
 obtain⟨q2,q4,hq,hz,hag,hfr,m,cs,q5,hm,hM,hm2,b,c1,c2,c3,hb0,hb3,q6,q7,q8,k1,I1,k2,I2,k3,I3⟩:=k;simp only[]at q2 q4 hq hz q5 hm q6 q7 q8 k1 k2 k3 hag hfr hb3;have hvl:q.items.length=(vars q.items).length:=by simp[vars]
 rw[wW]at I1 I2 I3;simp[evx,tlC,Tryz.f47,q2,q6,zVx];refine (wD (S:=[]) (by simp) (c87 k1 I1 hq (yT hn e2 _ hag) hp hfr)).mono ?_
 rintro z1 h2 n2 ⟨a1,a2,a3,l1⟩;rw[hvl,zIi]at l1;simp[q7];have hq2:=(a1 n (by omega)).trans hq
 have e22:=yT hn e2 _ (yP hag a1 (by omega))
 refine (wD (S:=[]) (by simp) (c87 ((a1 _ (by omega)).trans k2) I2 hq2 e22 hp a2)).mono ?_
 rintro z2 h3 n3 ⟨d1,d2,d3,l2⟩;rw[hvl,zIi]at l2;simp[q8];have hq3:=(d1 n (by omega)).trans hq2
 have e23:=yT hn e2 _ (yP hag (yP a1 d1 (by omega)) (by omega))
 refine (wD (S:=[]) (by simp) (c87 ((d1 _ (by omega)).trans ((a1 _ (by omega)).trans k3)) I3 hq3 e23 hp d2)).mono ?_
 rintro z3 h4 n4 ⟨g1,g2,g3,l3⟩;rw[hvl,zIi]at l3;have r1:=yT a2 l1.rd _ (yP d1 g1 (by omega))
 have r2:=yT d2 l2.rd _ g1;have r3:=l3.rd;have hz4:h4 (n+1)=_:=(g1 _ (by omega)).trans ((d1 _ (by omega)).trans ((a1 _ (by omega)).trans hz))
 have o1:=(zN r1).2.2.2.1;have o2:=(zN r2).2.2.2.1;have o3:=(zN r3).2.2.2.1;have p1:=(zN r1).2.2.2.2;have p2:=(zN r2).2.2.2.2;have p3:=(zN r3).2.2.2.2;simp[evx,q4,hz4,o1,o2,o3,p1,p2,p3];have hag4:agree n h h4:=yP hag (yP a1 (yP d1 g1 (by omega)) (by omega)) (by omega)
 have up1:∀b1:Option Blk,agree n h (up h4 (n+1) b1):=fun b1 i hi=>by rw[zP _ _ (by omega)];exact hag4 i hi
 refine⟨⟨up1 _,(zF (by omega) _).2 (g2.add 1),by omega,z1,z2,z3,rfl,(l1.up fun i y1 y2 => ?_).rd,(l2.up fun i y1 y2 => ?_).rd,(l3.up fun i y1 y2 => ?_).rd⟩,z1,z2,z3,rfl,l1.nz⟩
 ·rw[zP _ _ (by omega),g1 i (by omega),d1 i y2]
 ·rw[zP _ _ (by omega),g1 i y2]
 ·rw[zP _ _ (by omega)]
theorem yNg (e2:deQ h qx=some q) (e3:rd dNs h ta=some t) (hq:q.items.length*64≤140737488355328) (hp:xQ t) (hn:Fresh n h) :
  ACall (cx [] (pfL zVx)) 47 [qx,ta] h n (zW9 h n q t):=by
 refine yR (args:=[qx,ta]) (zAr (zS p85 (zS p86 yJ))) (zB3 _ _) Tryz.func47 (c:=Tryz.f47.body.getD .skip) rfl (by kernel_rfl) (xK Tryz.func47 rfl rfl _ _) (show 2≤Tryz.f47.ntmps by decide +kernel) ?_
 obtain⟨a,b,c,rfl,x2,x3,x4⟩:=wH e2;refine zZ 3 _ _ (yPa x2 x3 x4 e3 (by unfold big;omega) hn _ rfl rfl) fun y1 h1 n1 ⟨b1,q1⟩ => ?_
 refine zZ 1 _ _ (yO9 e3 hp hn y1 h1 n1 b1 q1) fun y2 h2 n2 b2 => ?_
 exact yO8 x2 hq hn y2 h2 n2 b2
theorem c49 (e2:deQ h qx=some q) (e3:rd dNs h ta=some t) (hq:q.items.length*64≤140737488355328) (hp:xQ t) (hn:Fresh n h) :
  ACall (cx [] (pfL zVx)) 47 [qx,ta] h n (yDu h n q t) :=
 (yNg e2 e3 hq hp hn).mono fun _ _ _ h=>h.1
end
end
section
def rM:Rdr (List AV) where
 run h a:=match a with
  | .mv id ver=>match h id with
   | some k=>if k.ver=ver then some k.cells else none
   | none=>none
  | _=>none
 sim {h h' a x} hh e:=by
  split at e
  ·split at e
   ·rename_i id ver k hk
    obtain⟨k',h1,h2,h3⟩:=hh _ _ hk;split at e
    ·rename_i hv
     cases e;simp only[h1,h3,h2,hv,if_true]
    ·cases e
   ·cases e
  ·cases e
theorem yDq {h:Heap} {a:AV} {cs:List AV} (e:rM.run h a=some cs):∃id k,a=.mv id k.ver∧h id=some k∧k.cells=cs:=by
 simp only[rM]at e;split at e
 ·split at e
  ·rename_i id0 ver0 _ k hk
   split at e
   ·rename_i hv
    cases e;exact⟨_,k,by rw[hv],hk,rfl⟩
   ·cases e
  ·cases e
 ·cases e
theorem zO3 {h:Heap} {a:AV} {x:Nd} (e:rN.run h a=some x):a=.g [ii x.op,ii x.n,ss x.var,ss x.attr,ii x.a,ii x.b]:=by
 simp only[rN]at e;exact zY0 e
theorem yDs {h:Heap} {a:AV} {x:Bool} (e:rB.run h a=some x):a=bv x:=by
 simp only[rB]at e;exact zY7 e
section
variable {α β γ δ ε:Type} (ra:Rdr α) (rb:Rdr β) (rc:Rdr γ) (rd':Rdr δ) (re:Rdr ε)
def de5 (h:Heap):List AV→Option (α×β×γ×δ×ε)
 | a::l=>(ra.run h a).bind fun x=>(de4 rb rc rd' re h l).map fun y=>(x,y)
 | _=>none
variable {ra rb rc rd' re}
theorem zK2 {h:Heap} {l:List AV} {q:α×β×γ×δ×ε} (e:de5 ra rb rc rd' re h l=some q):∃a b c d f,l=[a,b,c,d,f]∧ra.run h a=some q.1∧rb.run h b=some q.2.1∧rc.run h c=some q.2.2.1∧rd'.run h d=some q.2.2.2.1∧re.run h f=some q.2.2.2.2:=by
 unfold de5 at e;split at e
 ·simp only[xE,zV]at e
  obtain⟨x,e1,y,e2,rfl⟩:=e;obtain⟨b,c,d,f,rfl,e3⟩:=zNu e2;exact⟨_,b,c,d,f,rfl,e1,e3⟩
 ·cases e
theorem zNt (h h':Heap) (l:List AV) (q:α×β×γ×δ×ε) (hh:h.le h') (e:de5 ra rb rc rd' re h l=some q):de5 ra rb rc rd' re h' l=some q:=by
 obtain⟨a,b,c,d,f,rfl,e1,e2,e3,e4,e5⟩:=zK2 e;simp only[de5,de4,ra.sim hh.sim e1,rb.sim hh.sim e2,rc.sim hh.sim e3,rd'.sim hh.sim e4,re.sim hh.sim e5,zT,zK]
theorem zRh (h:Heap) (l:List AV) (q:α×β×γ×δ×ε) (e:de5 ra rb rc rd' re h l=some q):l.length≤5:=by obtain⟨a,b,c,d,f,rfl,_⟩:=zK2 e;exact zC _
end
def yDv (q:List Ty×Qu×List AV×Nd×Bool):Prop:=zCa q.1∧QuSm q.2.1∧isM (ixM (vars q.2.1.items)) q.2.2.1
def yH0:=yH (de5 rSc rQ rM rN rB) yDv fun q=>ii (zDb q.1 q.2.1 q.2.2.2.2 q.2.2.2.1)
def zGn:List (FuncId×(List AV→Heap→PRes)):=[(95,g85),(96,g86),(153,yC4)]
section
theorem yQ1:P0 [] 103 yH0:=by
 refine mkH 5 (S:=[]) (l:=zGn) (zS p85 (zS p86 (zS yNl yJ))) Tryz.func103 rfl (by kernel_rfl) zNt zRh (fun a=>rfl) (fun args q h n e hp hn => ?_)
 obtain⟨x,y,m,d,f,rfl,e1,e2,e3,e4,e5⟩:=zK2 e;obtain⟨sc,q,cs,nd,res⟩:=q;obtain⟨hsc,hq,hM⟩:=hp;simp only[]at e1 e2 e3 e4 e5 hsc hq hM ⊢;have g1:=zDq hn e1;obtain⟨x,rfl,ex⟩:=zBd e1;have t3:=(zN ex).2.2.1;have t4:=(zN ex).2.2.2.1;obtain⟨a,b,c,rfl,x2,x3,x4⟩:=wH e2;obtain⟨s1,s2,s3,s4,s5⟩:=zN x2;have o2:=(zN x3).2.2.2.1;have o3:=(zN x4).2.2.2.1;obtain⟨mid,mk,rfl,hmk,rfl⟩:=yDq e3;have:=zO3 e4;subst this;have:=yDs e5;subst this;have hmid:=xB hmk hn;have hmr:=zEj hmk;have hok:=hM.1;have hf:=hM.2 nd.var;obtain⟨op,num,var,attr,na,nb⟩:=nd;simp only[]at hf;have key:∀e:Nat→AV,e 0=.g [x]→e 1=.g [a,ii q.mode,ii q.after,b,ii q.within,ss q.par,c]→e 2=.mv mid mk.ver→e 3=.g [ii op,ii num,ss var,ss attr,ii na,ii nb]→e 4=bv res→awp (cx [] (pfL zGn)) (Tryz.f103.body.getD .skip) (zBc (cx [] (pfL zGn)) Tryz.f103 fun z _ _=>z=ii (zDb sc q res ⟨op,num,var,attr,na,nb⟩)) ⟨e,roH h,n⟩:=fun e q0 q1 q2 q3 q4=>by
  have zm0:¬mid=n:=by omega
  have zm1:¬mid=n+1:=by omega
  have zm2:¬mid=n+2:=by omega
  by_cases hb:wU op=false∧zC3 op=false
  ·have h1:zDb sc q res ⟨op,num,var,attr,na,nb⟩=0:=by unfold zDb;rw[if_pos hb]
   simp[evx,Tryz.f103,q0,q1,q3,ii,ss,bv,t4,s4,o2,o3,zGn,g85,g86,yV,deI,hb.1,hb.2,h1]
  have hb':wU op=true∨zC3 op=true:=by
   cases hx:wU op with
   | true=>exact .inl rfl
   | false =>
    cases hy:zC3 op with
    | true=>exact .inr rfl
    | false=>exact absurd ⟨hx,hy⟩ hb
  cases hix:ixM (vars q.items) var with
  | none =>
   rw[hix]at hf;simp only[Option.map_none]at hf;have hneg:wY (vars q.items) var<0:=by
    unfold ixM at hix;split at hix
    ·cases hix
    ·omega
   have h1:zDb sc q res ⟨op,num,var,attr,na,nb⟩=68:=by unfold zDb;rw[if_neg hb,if_pos hneg]
   rcases hb' with hbx|hbx<;>cases hby:wU op<;>simp[evx,Tryz.f103,q0,q1,q2,q3,ii,ss,bv,t4,s4,o2,o3,zGn,g85,g86,yV,deI,hbx,hby,h1,zm0,zm1,zm2,hmr,hok,hf]
  | some i =>
   rw[hix]at hf;simp only[zK,ii]at hf;have hix2:wY (vars q.items) var=i∧0≤i:=by
    unfold ixM at hix;split at hix
    ·cases hix;exact⟨rfl,by assumption⟩
    ·cases hix
   obtain⟨j,rfl⟩:∃j:Nat,i=j:=⟨i.toNat,by omega⟩
   have hil:wY (vars q.items) var<(vars q.items).length:=by unfold wY;split<;>omega
   rw[hix2.1]at hil;have hlt:j<q.items.length:=by simpa[vars]using hil
   obtain⟨id,off,k,ty,rfl,hk,ho,c0,c1,c2,c3,c4,e6⟩:=zHv x2 hlt;have hro:=zEj hk;have hidn:=xB hk hn;have zi0:¬id=n:=by omega
   have zi1:¬id=n+1:=by omega
   have zi2:¬id=n+2:=by omega
   have hw1:off+(j*5+5)≤k.cells.length:=by omega
   have hty:=hq.ty j hlt;have u3:=(zN e6).2.2.1;have u4:=(zN e6).2.2.2.1;have g6:=xP hn e6;have hME:zDb sc q res ⟨op,num,var,attr,na,nb⟩=if op≠5∧zN8 sc (q.items.getD j it0) attr=false then 69 else
     if (zC3 op=true∧(q.items.getD j it0).neg=true)∨(op=11∧zMx (q.items.getD j it0)=false)then 76 else
     if res=true∧wU op=true∧((q.items.getD j it0).neg=true∨zMx (q.items.getD j it0)=true)then 76 else 0:=by
    unfold zDb;simp only[hix2.1,yF];rw[if_neg hb,if_neg (by omega)]
   generalize q.items.getD j it0=it at *;obtain⟨ng,types,ivar,lo,hi⟩:=it;simp only[]at c0 c1 c2 c3 c4 e6 hty g6 hME;simp only[ii,ss,bv]at c0 c1 c2 c3 c4;have hrp:zMx ⟨ng,types,ivar,lo,hi⟩=(!ng&&decide (1<hi)):=rfl;generalize hrpg:zMx ⟨ng,types,ivar,lo,hi⟩=rp at *;refine zZ 6 _ _ (R:=fun s=>s.e 4=bv res∧s.e 5=.p n 0 0∧s.e 8=.p (n+2) 0 0∧s.e 13=.p (n+3) 0 0∧s.e 14=bv rp∧agree n (roH h) s.h∧s.h n=some ⟨[x],0,true,1⟩∧s.h (n+2)=some ⟨[ii op,ii num,ss var,ss attr,ii na,ii nb],0,true,6⟩∧s.h (n+3)=some ⟨[bv ng,ty,ss ivar,ii lo,ii hi],0,true,5⟩) ?_ fun y1 h1 n1 hh => ?_
   ·rcases hb' with hbx|hbx<;>cases hby:wU op<;>cases ng<;>by_cases hhi:1<hi<;>simp[evx,hdC,Tryz.f103,q0,q1,q2,q3,q4,ii,ss,bv,t4,s4,o2,o3,zGn,g85,g86,yV,deI,hbx,hby,zm0,zm1,zm2,hmr,hok,hf,hlt,hro,zi0,zi1,zi2,c0,c1,c2,c3,c4,hw1,u4,hhi,hrp]<;>simp[zD,zE]
   obtain⟨q4,q5,q8,q13,q14,hag,hb0,hb2,hb3⟩:=hh;simp only[ii,ss,bv]at q4 q5 q8 q13 q14 hag hb0 hb2 hb3;have hop5:(op=5∧zC3 op=true∧wU op=false∧op≠11)∨(op=11∧wU op=true∧zC3 op=false)∨(op≠5∧op≠11∧wU op=true∧zC3 op=false)∨(op≠5∧op≠11∧wU op=false∧zC3 op=true):=by
    simp only[wU,zC3,decide_eq_true_eq,decide_eq_false_iff_not]at hb' ⊢;omega
   rw[hME];clear hME;rcases hop5 with ⟨rfl,d1,d2,d3⟩|⟨rfl,d1,d2⟩|⟨d0,d3,d1,d2⟩|⟨d0,d3,d1,d2⟩
   ·cases ng<;>cases hA:zN8 sc ⟨_,types,ivar,lo,hi⟩ attr<;>cases rp<;>cases res<;>simp[evx,tlC,Tryz.f103,q4,q5,q8,q13,q14,hb0,hb2,hb3,hA,d1,d2,ii,bv,zGn,g85,g86,yV,deI,yC4,yH,de3,rSc,rIt,rG,dIt,zGa,rS,deS,g1,g6,hag,hsc,hty]
   ·cases ng<;>cases hA:zN8 sc ⟨_,types,ivar,lo,hi⟩ attr<;>cases rp<;>cases res<;>simp[evx,tlC,Tryz.f103,q4,q5,q8,q13,q14,hb0,hb2,hb3,hA,d1,d2,ii,bv,zGn,g85,g86,yV,deI,yC4,yH,de3,rSc,rIt,rG,dIt,zGa,rS,deS,g1,g6,hag,hsc,hty]
   ·cases ng<;>cases hA:zN8 sc ⟨_,types,ivar,lo,hi⟩ attr<;>cases rp<;>cases res<;>simp[evx,tlC,Tryz.f103,q4,q5,q8,q13,q14,hb0,hb2,hb3,hA,d0,d3,d1,d2,ii,bv,zGn,g85,g86,yV,deI,yC4,yH,de3,rSc,rIt,rG,dIt,zGa,rS,deS,g1,g6,hag,hsc,hty]
   ·cases ng<;>cases hA:zN8 sc ⟨_,types,ivar,lo,hi⟩ attr<;>cases rp<;>cases res<;>simp[evx,tlC,Tryz.f103,q4,q5,q8,q13,q14,hb0,hb2,hb3,hA,d0,d3,d1,d2,ii,bv,zGn,g85,g86,yV,deI,yC4,yH,de3,rSc,rIt,rG,dIt,zGa,rS,deS,g1,g6,hag,hsc,hty]
 exact key _ rfl rfl rfl rfl rfl
end
end
theorem zHt (X:Ctx) (h:Heap) (a:AV):ldcs X h a 0 6=[ldc X h a 0,ldc X h a 1,ldc X h a 2,ldc X h a 3,ldc X h a 4,ldc X h a 5]:=rfl
def rAt {α:Type} (r:Rdr α):Rdr α where
 run h a:=match a with
  | .p id ver 0=>(h id).bind fun k=>if k.ver=ver then r.run h (.g k.cells)else none
  | _=>none
 sim {h h' a x} hh e:=by
  split at e
  ·rename_i id ver
   simp only[xE]at e;obtain⟨k,hk,e⟩:=e;obtain⟨k',h1,h2,h3⟩:=hh _ _ hk;split at e
   ·rename_i hv
    simp only[h1,zT,h3,h2,hv,if_true];exact r.sim hh e
   ·cases e
  ·cases e
theorem zIg {α:Type} {r:Rdr α} {h:Heap} {a:AV} {x:α} (e:(rAt r).run h a=some x):∃id k,a=.p id k.ver 0∧h id=some k∧r.run h (.g k.cells)=some x:=by
 simp only[rAt]at e;split at e
 ·simp only[xE]at e
  obtain⟨k,hk,e⟩:=e;split at e
  ·rename_i hv
   exact⟨_,k,by rw[hv],hk,e⟩
  ·cases e
 ·cases e
theorem yIw {α:Type} {r:Rdr α} {h:Heap} {id:Nat} {k:Blk} {x:α} (hk:h id=some k) (e:r.run h (.g k.cells)=some x):(rAt r).run h (.p id k.ver 0)=some x:=by
 simp only[rAt,hk,zT,if_true,e]
def rC {α:Type} (r:Rdr α):Rdr α where
 run h a:=match a with
  | .g [c]=>r.run h c
  | _=>none
 sim {h h' a x} hh e:=by
  split at e
  ·exact r.sim hh e
  ·cases e
theorem zW2 {α:Type} {r:Rdr α} {h:Heap} {a:AV} {x:α} (e:(rC r).run h a=some x):∃c,a=.g [c]∧r.run h c=some x:=by
 simp only[rC]at e;split at e
 ·exact⟨_,rfl,e⟩
 ·cases e
abbrev Ask:=List Ty×Qu×List AV
def rAsk:Rdr Ask where
 run h a:=match a with
  | .f (.func 102) [] l=>de3 (rAt rSc) (rAt rQ) (rAt (rC rM)) h l
  | _=>none
 sim {h h' a x} hh e:=by
  split at e
  ·obtain⟨a,b,c,rfl,e1,e2,e3⟩:=zFg e
   simp only[de3,(rAt rSc).sim hh e1,(rAt rQ).sim hh e2,(rAt (rC rM)).sim hh e3,zT,zK]
  ·cases e
theorem zJn {h:Heap} {a:AV} {x:Ask} (e:rAsk.run h a=some x):∃p1 p2 p3,a=.f (.func 102) [] [p1,p2,p3]∧(rAt rSc).run h p1=some x.1∧(rAt rQ).run h p2=some x.2.1∧(rAt (rC rM)).run h p3=some x.2.2:=by
 simp only[rAsk]at e;split at e
 ·obtain⟨a,b,c,rfl,e1,e2,e3⟩:=zFg e
  exact⟨a,b,c,rfl,e1,e2,e3⟩
 ·cases e
def rFn:Rdr (Bool×Ask) where
 run h a:=match a with
  | .f (.func 155) [] [p]=>((rAt (rC rAsk)).run h p).map fun x=>(false,x)
  | .f (.func 158) [] [p]=>((rAt (rC rAsk)).run h p).map fun x=>(true,x)
  | _=>none
 sim {h h' a x} hh e:=by
  split at e
  ·simp only[zV]at e ⊢
   obtain⟨y,e1,e2⟩:=e;exact⟨y,(rAt (rC rAsk)).sim hh e1,e2⟩
  ·simp only[zV]at e ⊢
   obtain⟨y,e1,e2⟩:=e;exact⟨y,(rAt (rC rAsk)).sim hh e1,e2⟩
  ·cases e
theorem yFi {h:Heap} {a:AV} {x:Bool×Ask} (e:rFn.run h a=some x):∃p,a=.f (.func (if x.1=true then 158 else 155)) [] [p]∧(rAt (rC rAsk)).run h p=some x.2:=by
 simp only[rFn]at e;split at e
 ·simp only[zV]at e
  obtain⟨y,e1,rfl⟩:=e;exact⟨_,rfl,e1⟩
 ·simp only[zV]at e
  obtain⟨y,e1,rfl⟩:=e;exact⟨_,rfl,e1⟩
 ·cases e
def zKj (x:Ask):Prop:=zCa x.1∧QuSm x.2.1∧isM (ixM (vars x.2.1.items)) x.2.2
def yKw:=yH (de5 rN rB (rAt rSc) (rAt rQ) (rAt (rC rM))) (fun q=>zKj q.2.2) fun q=>ii (zDb q.2.2.1 q.2.2.2.1 q.2.1 q.1)
def zR3:List (FuncId×(List AV→Heap→PRes)):=[(103,yH0)]
def yH9 (b:Bool):=yH (de2 rN (rAt (rC rAsk))) (fun q=>zKj q.2) fun q=>ii (zDb q.2.1 q.2.2.1 b q.1)
section
theorem yQ2:P0 [] 102 yKw:=by
 refine mkH 5 (S:=[]) (l:=zR3) (zS yQ1 yJ) Tryz.func102 rfl (by kernel_rfl) zNt zRh (fun a=>rfl) (fun args q h n e hp hn => ?_)
 obtain⟨d,f,p1,p2,p3,rfl,e1,e2,e3,e4,e5⟩:=zK2 e;obtain⟨nd,res,sc,q,cs⟩:=q;obtain⟨hsc,hq,hM⟩:=hp;simp only[]at e1 e2 e3 e4 e5 hsc hq hM ⊢;have:=zO3 e1;subst this;have:=yDs e2;subst this;obtain⟨i1,k1,rfl,hk1,f1⟩:=zIg e3;obtain⟨i2,k2,rfl,hk2,f2⟩:=zIg e4;obtain⟨i3,k3,rfl,hk3,f3⟩:=zIg e5;have f1:zIp h (.g k1.cells)=some sc:=f1;have f2:deQ h (.g k2.cells)=some q:=f2;obtain⟨c3,hc3,f3⟩:=zW2 f3;have g1:=zDq hn f1;have g2:=zKe hn f2;have g3:=Rdr.agree rM hn f3;obtain⟨x,hx,ex⟩:=zBd f1;obtain⟨a,b,c,hy,x2,x3,x4⟩:=wH f2;simp only[AV.g.injEq]at hx hy hc3;rw[hx]at g1;rw[hy]at g2;have z1:=xB hk1 hn;have z2:=xB hk2 hn;have z3:=xB hk3 hn;have r1:=zEj hk1;have r2:=zEj hk2;have r3:=zEj hk3;rw[hx]at r1;rw[hy]at r2;rw[hc3]at r3;have t3:=(zN ex).2.2.1;have s3:=(zN x2).2.2.1;have o2:=(zN x3).2.2.1;have o3:=(zN x4).2.2.1;obtain⟨im,km,rfl,hkm,hcs⟩:=yDq f3;simp only[ii,ss]at r2 g2;have y1:¬i1=n:=by omega
 have y2:¬i2=n:=by omega
 have y3:¬i3=n:=by omega
 obtain⟨op,num,var,attr,na,nb⟩:=nd;have hag:agree n (roH h) (up (roH h) n (some ⟨[.v (.int .i64 op),.v (.int .i64 num),.v (.string var),.v (.string attr),.v (.int .i64 na),.v (.int .i64 nb)],0,true,6⟩)):=by simp[zD,zE]
 have key:∀e:Nat→AV,e 0=.g [ii op,ii num,ss var,ss attr,ii na,ii nb]→e 1=bv res→e 2=.p i1 k1.ver 0→e 3=.p i2 k2.ver 0→e 4=.p i3 k3.ver 0→awp (cx [] (pfL zR3)) (Tryz.f102.body.getD .skip) (zBc (cx [] (pfL zR3)) Tryz.f102 fun z _ _=>z=ii (zDb sc q res ⟨op,num,var,attr,na,nb⟩)) ⟨e,roH h,n⟩:=fun e q0 q1 q2 q3 q4=>by
  simp[evx,zHt,Tryz.f102,q0,q1,q2,q3,q4,ii,ss,bv,r1,r2,r3,y1,y2,y3,zR3,yH0,yH,de5,de4,rSc,rQ,rN,deN,yCg,rB,deB,g1 _ hag,g2 _ hag,g3 _ hag,yDv,hsc,hq,hM]
 exact key _ rfl rfl rfl rfl rfl
theorem yNj {S:List Nat} {pf:FuncId→Option (List AV→Heap→PRes)} {h:Heap} {n:Nat} {nd:Nd} {res:Bool} {p1 p2 p3:AV} {x:Ask} (e1:(rAt rSc).run h p1=some x.1) (e2:(rAt rQ).run h p2=some x.2.1) (e3:(rAt (rC rM)).run h p3=some x.2.2) (ok:zKj x) :
  ACall (cx S pf) 102 [nn nd,bv res,p1,p2,p3] h n fun v h' n'=>v=ii (zDb x.1 x.2.1 res nd)∧h'=h∧n'=n:=by
 have hd:de5 rN rB (rAt rSc) (rAt rQ) (rAt (rC rM)) h [nn nd,bv res,p1,p2,p3]=some (nd,res,x.1,x.2.1,x.2.2):=by
  simp only[de5,de4,rN,rB,nn,yC,ii,ss,bv,deN,yCg,deB,zT,e1,e2,e3,zK]
 have hg:yKw [nn nd,bv res,p1,p2,p3] h=⟨zKj x,ii (zDb x.1 x.2.1 res nd)⟩:=by simp only[yKw,yH,hd]
 refine (zDs (S:=S) (pf:=pf) (n:=n) (S0:=[]) (by simp) yQ2 Tryz.func102 rfl rfl (show (yKw [nn nd,bv res,p1,p2,p3] h).side by rw[hg];exact ok)).mono fun v h' n' ⟨h1,h2,h3⟩=>⟨by rw[h1,hg],h2,h3⟩
theorem yQt:P0 [] 155 (yH9 false):=by
 refine mkH 2 (S:=[]) (l:=[]) yJ Tryz.func155 rfl (by kernel_rfl) zAz zBx (fun a=>rfl) (fun args q h n e hp hn => ?_)
 obtain⟨d,p,rfl,e1,e2⟩:=zBm e;obtain⟨nd,x⟩:=q;simp only[]at e1 e2 hp ⊢;have:=zO3 e1;subst this;obtain⟨id,k,rfl,hk,f1⟩:=zIg e2;obtain⟨c,hc,f2⟩:=zW2 f1;simp only[AV.g.injEq]at hc;obtain⟨p1,p2,p3,rfl,g1,g2,g3⟩:=zJn f2;have hr:=zEj hk;rw[hc]at hr;have y1:¬id=n:=by have:=xB hk hn;omega
 obtain⟨op,num,var,attr,na,nb⟩:=nd;have hag:agree n (roH h) (up (roH h) n (some ⟨[.v (.int .i64 op),.v (.int .i64 num),.v (.string var),.v (.string attr),.v (.int .i64 na),.v (.int .i64 nb)],0,true,6⟩)):=by simp[zD,zE]
 have key:∀e:Nat→AV,e 0=.g [ii op,ii num,ss var,ss attr,ii na,ii nb]→e 1=.p id k.ver 0→awp (cx [] (pfL [])) (Tryz.f155.body.getD .skip) (zBc (cx [] (pfL [])) Tryz.f155 fun z _ _=>z=ii (zDb x.1 x.2.1 false ⟨op,num,var,attr,na,nb⟩)) ⟨e,roH h,n⟩:=fun e q0 q1=>by
  simp[evx,zHt,Tryz.f155,q0,q1,ii,ss,hr,y1];have K:=yNj (S:=[]) (pf:=pfL []) (n:=n+1) (nd:=⟨op,num,var,attr,na,nb⟩) (res:=false) ((rAt rSc).agree hn g1 _ hag) ((rAt rQ).agree hn g2 _ hag) ((rAt (rC rM)).agree hn g3 _ hag) hp;simp only[nn,yC,ii,ss,bv]at K;refine K.mono ?_;rintro v h2 n2 ⟨rfl,rfl,rfl⟩;simp[]
 exact key _ rfl rfl
theorem yQr:P0 [] 158 (yH9 true):=by
 refine mkH 2 (S:=[]) (l:=[]) yJ Tryz.func158 rfl (by kernel_rfl) zAz zBx (fun a=>rfl) (fun args q h n e hp hn => ?_)
 obtain⟨d,p,rfl,e1,e2⟩:=zBm e;obtain⟨nd,x⟩:=q;simp only[]at e1 e2 hp ⊢;have:=zO3 e1;subst this;obtain⟨id,k,rfl,hk,f1⟩:=zIg e2;obtain⟨c,hc,f2⟩:=zW2 f1;simp only[AV.g.injEq]at hc;obtain⟨p1,p2,p3,rfl,g1,g2,g3⟩:=zJn f2;have hr:=zEj hk;rw[hc]at hr;have y1:¬id=n:=by have:=xB hk hn;omega
 obtain⟨op,num,var,attr,na,nb⟩:=nd;have hag:agree n (roH h) (up (roH h) n (some ⟨[.v (.int .i64 op),.v (.int .i64 num),.v (.string var),.v (.string attr),.v (.int .i64 na),.v (.int .i64 nb)],0,true,6⟩)):=by simp[zD,zE]
 have key:∀e:Nat→AV,e 0=.g [ii op,ii num,ss var,ss attr,ii na,ii nb]→e 1=.p id k.ver 0→awp (cx [] (pfL [])) (Tryz.f158.body.getD .skip) (zBc (cx [] (pfL [])) Tryz.f158 fun z _ _=>z=ii (zDb x.1 x.2.1 true ⟨op,num,var,attr,na,nb⟩)) ⟨e,roH h,n⟩:=fun e q0 q1=>by
  simp[evx,zHt,Tryz.f158,q0,q1,ii,ss,hr,y1];have K:=yNj (S:=[]) (pf:=pfL []) (n:=n+1) (nd:=⟨op,num,var,attr,na,nb⟩) (res:=true) ((rAt rSc).agree hn g1 _ hag) ((rAt rQ).agree hn g2 _ hag) ((rAt (rC rM)).agree hn g3 _ hag) hp;simp only[nn,yC,ii,ss,bv]at K;refine K.mono ?_;rintro v h2 n2 ⟨rfl,rfl,rfl⟩;simp[]
 exact key _ rfl rfl
theorem cFn {S:List Nat} {pf:FuncId→Option (List AV→Heap→PRes)} {h:Heap} {n:Nat} {nd:Nd} {p:AV} {x:Bool×Ask} (e:(rAt (rC rAsk)).run h p=some x.2) (ok:zKj x.2) :
  ACall (cx S pf) (if x.1=true then 158 else 155) [nn nd,p] h n fun v h' n'=>v=ii (zDb x.2.1 x.2.2.1 x.1 nd)∧h'=h∧n'=n:=by
 obtain⟨b,x⟩:=x;simp only[]at e ok ⊢;have hd:de2 rN (rAt (rC rAsk)) h [nn nd,p]=some (nd,x):=by
  simp only[de2,rN,nn,yC,ii,ss,deN,yCg,zT,e,zK]
 have hg:∀b,yH9 b [nn nd,p] h=⟨zKj x,ii (zDb x.1 x.2.1 b nd)⟩:=fun b=>by simp only[yH9,yH,hd]
 cases b with
 | false=>exact (zDs (S:=S) (pf:=pf) (n:=n) (S0:=[]) (by simp) yQt Tryz.func155 rfl rfl (show (yH9 false [nn nd,p] h).side by rw[hg];exact ok)).mono fun v h' n' ⟨h1,h2,h3⟩=>⟨by rw[h1,hg],h2,h3⟩
 | true=>exact (zDs (S:=S) (pf:=pf) (n:=n) (S0:=[]) (by simp) yQr Tryz.func158 rfl rfl (show (yH9 true [nn nd,p] h).side by rw[hg];exact ok)).mono fun v h' n' ⟨h1,h2,h3⟩=>⟨by rw[h1,hg],h2,h3⟩
end
def GIx:=yH zRf (fun q=>q.1.length<big) fun q=>ii (wY q.1 q.2)
theorem yQp:P0 [] 160 GIx:=by
 refine mkH 2 (S:=[]) (l:=[]) yJ Tryz.func160 rfl (by kernel_rfl) zK0 (fun h l x e=>by obtain⟨a,rfl,_⟩:=zFf e;exact zC _) (fun a=>rfl) (fun args q h n e hp hn => ?_)
 obtain⟨a,rfl,e2⟩:=zFf e;obtain⟨l,v⟩:=q;simp only[]at e2 hp ⊢;obtain⟨s1,s2,s3,s4,s5⟩:=zN e2;have hgv:∀j (hj:j<l.length),l.getD j ByteArray.empty=l[j]:=fun j hj=>by rw[zB,zA hj];rfl
 have key:∀e:Nat→AV,e 0=a→e 1=ss v→awp (cx [] (pfL [])) (Tryz.f160.body.getD .skip) (zBc (cx [] (pfL [])) Tryz.f160 fun z _ _=>z=ii (wY l v)) ⟨e,roH h,n⟩:=fun e q0 q1=>by
  simp[evx,Tryz.f160,q0,ii,s1,s2];refine yN (fun s=>∃j:Nat,j≤l.length∧s.e 0=a∧s.e 1=ss v∧s.e 7=ii l.length∧s.e 8=ii j∧s.h=roH h∧∀i,i<j→(l.getD i ByteArray.empty==v)=false) (fun s=>l.length-(s.e 8).i.toNat) ⟨0,by simp[up,q0,q1,ii,ss]⟩ ?_
  rintro e' h' n' ⟨j,hj,q0,q1,q7,q8,hh,hno⟩;simp only[]at q0 q1 q7 q8 hh;subst hh;by_cases hlt:j<l.length
  ·rcases yAm e2 with ⟨h0,_⟩|⟨id,off,k,rfl,hk,ho,hat⟩
   ·rw[h0]at hlt;simp at hlt
   have hr:=hat j hlt;have ha':=zEj hk;have hw:=yK (j:=j) (by omega)
   have hw1:off+(j+1)≤k.cells.length:=by omega
   have hgj:=hgv j hlt;generalize l[j]=y at *;have hsw:(v==y)=(y==v):=by rw[zH7,zH7];exact decide_eq_decide.2 eq_comm
   cases hy:(y==v)with
   | true =>
    have hf:=zTe (v:=v) hlt hno (by rw[hgj];exact hy)
    have h1:wY l v=(j:Int):=by rw[wY,hf,if_pos hlt]
    simp[evx,q0,q1,q7,q8,ii,ss,hlt,ha',hr,hw1,hsw,hy,h1]
   | false =>
    simp[evx,q0,q1,q7,q8,ii,ss,hlt,ha',hr,hw1,hsw,hy,hw];refine⟨⟨j+1,by omega,by omega,fun i hi => ?_⟩,by omega⟩
    by_cases e:i=j
    ·subst e;rw[←zB,hgj];exact hy
    ·have:=hno i (by omega);rwa [zB]at this
  ·obtain rfl:j=l.length:=by omega
   have hf:=zNh (v:=v) (l:=l) hno;have h1:wY l v=-1:=by rw[wY,hf,if_neg (by omega)]
   simp[evx,q7,q8,ii,h1]
 exact key _ rfl rfl
theorem yJm (l:List ByteArray) (v:ByteArray):decide (0≤wY l v)=l.any fun z=>z==v:=by
 unfold wY;by_cases h:l.findIdx (· == v)<l.length
 ·rw[if_pos h]
  have h2:=zDt.1 h;obtain⟨x,hx,he⟩:=h2;have:(l.any fun z=>z==v)=true:=zA7.2 ⟨x,hx,he⟩
  rw[this];exact decide_eq_true (Int.natCast_nonneg _)
 ·rw[if_neg h]
  have:(l.any fun z=>z==v)=false:=by
   rw[List.any_eq_false];intro x hx he;exact h (zDt.2 ⟨x,hx,he⟩)
  rw[this];decide
def yH1:=yH zRf (fun q=>q.1.length<big) fun q=>bv (q.1.any fun z=>z==q.2)
def yAb:List (FuncId×(List AV→Heap→PRes)):=[(160,GIx)]
theorem yQw:P0 [] 115 yH1:=by
 refine mkH 2 (S:=[]) (l:=yAb) (zS yQp yJ) Tryz.func115 rfl (by kernel_rfl) zK0 (fun h l x e=>by obtain⟨a,rfl,_⟩:=zFf e;exact zC _) (fun a=>rfl) (fun args q h n e hp hn => ?_)
 obtain⟨a,rfl,e2⟩:=zFf e;obtain⟨l,v⟩:=q;simp only[]at e2 hp ⊢;obtain⟨s1,s2,s3,s4,s5⟩:=zN e2;have g1:rd dSs (roH h) a=some l:=xP hn e2 _ (zE _ _);have hx:=yJm l v;have key:∀e:Nat→AV,e 0=a→e 1=ss v→awp (cx [] (pfL yAb)) (Tryz.f115.body.getD .skip) (zBc (cx [] (pfL yAb)) Tryz.f115 fun z _ _=>z=bv (l.any fun z=>z==v)) ⟨e,roH h,n⟩:=fun e q0 q1=>by
  rw[←hx];simp[evx,Tryz.f115,q0,q1,ii,ss,bv,yAb,GIx,yH,zRf,g1,hp]
 exact key _ rfl rfl
def rTyP:Rdr Ty:=rAt (rG dTy)
theorem yAw {h:Heap} {a:AV} {x:Ty} (e:rTyP.run h a=some x):∃id k c,a=.p id k.ver 0∧h id=some k∧k.cells=[ss x.name,c]∧rd dSs h c=some x.attrs:=by
 obtain⟨id,k,rfl,hk,e1⟩:=zIg e;obtain⟨l,e2,e3⟩:=yDr e1;cases e2;obtain⟨c,e4,e5⟩:=zKx e3;exact⟨id,k,c,rfl,hk,e4,e5⟩
def yKv:=yH (de2 rIt rTyP) (fun q=>q.1.types.length<big) fun q=>bv (q.1.types.any fun z=>z==q.2.name)
def yAc:List (FuncId×(List AV→Heap→PRes)):=[(115,yH1)]
theorem yQx:P0 [] 114 yKv:=by
 refine mkH 2 (S:=[]) (l:=yAc) (zS yQw yJ) Tryz.func114 rfl (by kernel_rfl) zAz zBx (fun a=>rfl) (fun args q h n e hp hn => ?_)
 obtain⟨x,b,rfl,e1,e2⟩:=zBm e;obtain⟨it,t⟩:=q;simp only[]at e1 e2 hp ⊢;obtain⟨ty,rfl,e3⟩:=zM0 e1;obtain⟨id,k,c,rfl,hk,hc,e4⟩:=yAw e2;obtain⟨s1,s2,s3,s4,s5⟩:=zN e3;have hid:=xB hk hn;have hne:¬id=n:=by omega
 have hk':=zEj hk;have g1:∀h',agree n (roH h) h'→rd dSs h' ty=some it.types:=fun h' ha=>xP hn e3 _ ha
 have key:∀e:Nat→AV,e 0=.g [bv it.neg,ty,ss it.var,ii it.lo,ii it.hi]→e 1=.p id k.ver 0→awp (cx [] (pfL yAc)) (Tryz.f114.body.getD .skip) (zBc (cx [] (pfL yAc)) Tryz.f114 fun z _ _=>z=bv (it.types.any fun z=>z==t.name)) ⟨e,roH h,n⟩:=fun e q0 q1=>by
  simp[evx,Tryz.f114,q0,q1,ii,ss,bv,s4,hne,hk',hc,yAc,yH1,yH,zRf,g1,zD,zE,hp]
 exact key _ rfl rfl
def rUs:Rdr Ty where
 run h a:=match a with
  | .f (.func 114) [] [p]=>rTyP.run h p
  | _=>none
 sim {h h' a x} hh e:=by
  split at e
  ·exact rTyP.sim hh e
  ·cases e
theorem zW1 {h:Heap} {a:AV} {x:Ty} (e:rUs.run h a=some x):∃p,a=.f (.func 114) [] [p]∧rTyP.run h p=some x:=by
 simp only[rUs]at e;split at e
 ·exact⟨_,rfl,e⟩
 ·cases e
def zFu (t:Ty) (it:It):Bool:=it.types.any fun z=>z==t.name
def fiU (t:Ty) (l:List It):Int:=if l.findIdx (zFu t)<l.length then l.findIdx (zFu t)else -1
theorem yG0 (t:Ty) (l:List It):decide (0≤fiU t l)=l.any (zFu t):=by
 unfold fiU;by_cases h:l.findIdx (zFu t)<l.length
 ·rw[if_pos h]
  obtain⟨x,hx,he⟩:=zDt.1 h;have:(l.any (zFu t))=true:=zA7.2 ⟨x,hx,he⟩;rw[this];exact decide_eq_true (Int.natCast_nonneg _)
 ·rw[if_neg h]
  have:(l.any (zFu t))=false:=by
   rw[List.any_eq_false];intro x hx he;exact h (zDt.2 ⟨x,hx,he⟩)
  rw[this];decide
def yKl (q:List It×Ty):Prop:=q.1.length<big∧∀it∈q.1,it.types.length<big
def yM5:=yH (de2 (rL zG5) rUs) yKl fun q=>ii (fiU q.2 q.1)
theorem yQq:P0 [] 159 yM5:=by
 refine mkH 2 (S:=[]) (l:=[]) yJ Tryz.func159 rfl (by kernel_rfl) zAz zBx (fun a=>rfl) (fun args q h n e hp hn => ?_)
 obtain⟨x,b,rfl,e1,e2⟩:=zBm e;obtain⟨l,t⟩:=q;obtain⟨hp1,hp2⟩:=hp;simp only[]at e2 hp1 hp2 ⊢;replace e1:rd zG5 h x=some l:=e1;obtain⟨p,rfl,e3⟩:=zW1 e2;obtain⟨s1,s2,s3,s4,s5⟩:=zN e1;have g3:=fun h' ha=>rTyP.agree hn e3 h' ha
 have key:∀e:Nat→AV,e 0=x→e 1=.f (.func 114) [] [p]→awp (cx [] (pfL [])) (Tryz.f159.body.getD .skip) (zBc (cx [] (pfL [])) Tryz.f159 fun z _ _=>z=ii (fiU t l)) ⟨e,roH h,n⟩:=fun e q0 q1=>by
  simp[evx,Tryz.f159,q0,ii,s1,s2];refine yN (fun s=>∃j:Nat,j≤l.length∧s.e 0=x∧s.e 1=.f (.func 114) [] [p]∧s.e 7=ii l.length∧s.e 8=ii j∧agree n (roH h) s.h∧n≤s.n∧Fresh s.n s.h∧∀i,i<j→zFu t (l.getD i it0)=false) (fun s=>l.length-(s.e 8).i.toNat) ⟨0,by omega,by simp[up,q0],by simp[up,q1],by simp[up,ii],by simp[up,ii],zE _ _,zC _,fun i hi=>by simp only[roH,hn i hi];rfl,fun i hi=>by omega⟩ ?_
  rintro e' h' n' ⟨j,hj,q0,q1,q7,q8,hag,hnn,hfr,hno⟩;simp only[]at q0 q1 q7 q8 hag hnn hfr;by_cases hlt:j<l.length
  ·obtain⟨id,off,k,ty,y1,y2,y3,y4,y5,y6,y7,y8,y9⟩:=zHw e1 hlt
   have ha':=wR hn y2 hag;have hw:=yK (j:=j) (by omega)
   have hgj:l.getD j it0=l[j]:=by rw[zB,zA hlt];rfl
   have htl:=hp2 _ (zH hlt);generalize hit:l[j]=it at *;have hG:yKv [.g [bv it.neg,ty,ss it.var,ii it.lo,ii it.hi],p] h'=⟨it.types.length<big,bv (zFu t it)⟩:=by
    have r1:rIt.run h' (.g [bv it.neg,ty,ss it.var,ii it.lo,ii it.hi])=some it:=zGj (xP hn y4 _ hag);simp only[yKv,yH,de2,r1,g3 h' hag,zT,zK];rfl
   have hcall:=zDs (S:=[]) (pf:=pfL []) (n:=n') (S0:=[]) (by simp) yQx Tryz.func114 rfl rfl (show (yKv [.g [bv it.neg,ty,ss it.var,ii it.lo,ii it.hi],p] h').side by rw[hG];exact htl)
   rw[hG]at hcall;simp only[bv,ii,ss]at hcall;simp[evx,q0,q1,q7,q8,ii,ss,bv,hlt,ha',y1,y3,y5,y6,y7,y8,y9];refine (wD (S:=[]) (by simp) hcall).mono ?_
   rintro v h2 n2 ⟨rfl,rfl,rfl⟩;refine⟨trivial,?_⟩;cases hu:zFu t it with
   | true =>
    have hf:l.findIdx (zFu t)=j:=(List.findIdx_eq hlt).2 ⟨by rw[hit];exact hu,fun i hi=>by
     have:=hno i hi
     rwa [zB,zA (by omega)]at this⟩
    have h1:fiU t l=(j:Int):=by rw[fiU,hf,if_pos hlt]
    simp[AV.b,h1]
   | false =>
    simp only[AV.b,yO,if_false,hw];refine⟨⟨j+1,by omega,by simp,hag,hnn,hfr,fun i hi => ?_⟩,by omega⟩
    rw[←zB];by_cases e:i=j
    ·subst e;rw[hgj];exact hu
    ·exact hno i (by omega)
  ·obtain rfl:j=l.length:=by omega
   have hf:l.findIdx (zFu t)=l.length:=List.findIdx_eq_length.2 fun x hx=>by
    obtain⟨i,hi,rfl⟩:=xF.1 hx;have:=hno i hi
    rwa [zB,zA hi]at this
   have h1:fiU t l=-1:=by rw[fiU,hf,if_neg (by omega)]
   simp[evx,q7,q8,ii,h1]
 exact key _ rfl rfl
def GUs:=yH (de2 (rL zG5) rUs) yKl fun q=>bv (q.1.any (zFu q.2))
def yAd:List (FuncId×(List AV→Heap→PRes)):=[(159,yM5)]
theorem yM4:P0 [] 113 GUs:=by
 refine mkH 2 (S:=[]) (l:=yAd) (zS yQq yJ) Tryz.func113 rfl (by kernel_rfl) zAz zBx (fun a=>rfl) (fun args q h n e hp hn => ?_)
 obtain⟨x,b,rfl,e1,e2⟩:=zBm e;obtain⟨l,t⟩:=q;simp only[]at e2 hp ⊢;replace e1:rd zG5 h x=some l:=e1;obtain⟨p,rfl,e3⟩:=zW1 e2;obtain⟨s1,s2,s3,s4,s5⟩:=zN e1;have g1:(rL zG5).run (roH h) x=some l:=xP hn e1 _ (zE _ _);have g2:rUs.run (roH h) (.f (.func 114) [] [p])=some t:=rUs.agree hn e2 _ (zE _ _);have hx:=yG0 t l;have key:∀e:Nat→AV,e 0=x→e 1=.f (.func 114) [] [p]→awp (cx [] (pfL yAd)) (Tryz.f113.body.getD .skip) (zBc (cx [] (pfL yAd)) Tryz.f113 fun z _ _=>z=bv (l.any (zFu t))) ⟨e,roH h,n⟩:=fun e q0 q1=>by
  rw[←hx];simp[evx,Tryz.f113,q0,q1,ii,bv,yAd,yM5,yH,de2,g1,g2,hp]
 exact key _ rfl rfl
end Go.Proofs.YtbffkkeieihpdaaGreatDoor
