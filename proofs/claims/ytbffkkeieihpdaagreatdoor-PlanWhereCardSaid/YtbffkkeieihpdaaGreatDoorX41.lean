import Derived.Test.YtbffkkeieihpdaaGreatDoorX40
import Derived.Test.YtbffkkeieihpdaaGreatDoorX39
import Derived.Test.YtbffkkeieihpdaaGreatDoorX37
import Derived.Test.YtbffkkeieihpdaaGreatDoorX35
import Derived.Test.YtbffkkeieihpdaaGreatDoorCards
import Derived.Test.YtbffkkeieihpdaaGreatDoorTie
import Derived.SevenTiedAt
set_option linter.unusedSimpArgs false
set_option linter.unusedVariables false
set_option linter.constructorNameAsVariable false
set_option maxRecDepth 100000
set_option maxHeartbeats 4000000
namespace Go.Proofs.YtbffkkeieihpdaaGreatDoor
open Go Go.Eng
section
structure Ok51 (sc:List Ty) (q:Qu) (L:List (List Ev)):Prop where
 W:Wf sc q
 w:SQ sc q
 ll:L.length=q.items.length
 ls:∀l∈L,l.length≤2147483647
 ev:∀l∈L,∀x∈l,zGg x
def zXs (sc:List Ty) (q:Qu) (t:List Nd) (L:List (List Ev)) (each:Int) (j:Nat):Bool:=(List.range j).all fun i=>decide (i<if 0<(zBo q t).length then 1 else 0)||zBy ⟨sc,q,t,⟨L,each,i⟩⟩
theorem yBn {sc:List Ty} {q:Qu} {t:List Nd} {L:List (List Ev)} {each:Int} (j:Nat):zXs sc q t L each (j+1)=(zXs sc q t L each j&&(decide (j<if 0<(zBo q t).length then 1 else 0)||zBy ⟨sc,q,t,⟨L,each,j⟩⟩)):=by
 unfold zXs;rw[zCr,zI8]
section
variable {H:Heap} {n:Nat} {sc:List Ty} {q:Qu} {sa qa qb qc la z:AV} {L:List (List Ev)} {k:Nat} {t:List Nd} {ta:AV} {m:Nat} {y1 y2 y3:AV}
theorem J51.g49 (o:Ok51 sc q L) (e1:rd zD8 H sa=some sc) (e2:deQ H (.g (xS q qa qb qc))=some q) (el:rd zDd H la=some L) (hn:Fresh n H) {s:St} (a:J51 H n q sa qa qb qc la z k t ta m y1 y2 y3 s) (hs:xO t) (hg:∀x∈t,Rng x.n) (each:Int) {j:Nat} (hj:j≤2147483647) :
  G49 [.g [sa],.g (xS q qa qb qc),ta,la,ii each,ii j] s.h=⟨EqOk ⟨sc,q,t,⟨L,each,j⟩⟩,bv (zBy ⟨sc,q,t,⟨L,each,j⟩⟩)⟩∧EqOk ⟨sc,q,t,⟨L,each,j⟩⟩:=by
 have d:=yA4 (v:=⟨sc,q,t,⟨L,each,j⟩⟩) (h:=s.h) (s:=.g [sa]) (yS hn e1 _ a.a.ag) (zAp (zAh hn a.a.ag) e2) a.rt (yS hn el _ a.a.ag);have n10:=o.W.n1;refine⟨by simp only[G49,yE,d],o.w.ok.1,by simp only[];unfold big;omega,hs,hg,o.ls,o.ev,by show Rng j;unfold Rng;omega⟩
theorem ySu (o:Ok51 sc q L) (e1:rd zD8 H sa=some sc) (e2:deQ H (.g (xS q qa qb qc))=some q) (el:rd zDd H la=some L) (hn:Fresh n H) (hs:xO t) (hg:∀x∈t,Rng x.n) {i:Nat} (hi:i<q.items.length) (s:St) (a:J51 H n q sa qa qb qc la z k t ta m y1 y2 y3 s) (q11:s.e 11=ii i) (q13:s.e 13=ii ((if 0<(zBo q t).length then 1 else 0:Nat):Nat)) {Q:Ex→St→Prop}
  (hQ:∀s',J51 H n q sa qa qb qc la z k t ta m y1 y2 y3 s'→zXs sc q t L i (L.getD i []).length=true→Q (.exit 4) s') (hR:∀s':St,s'.e 6=bv false→zXs sc q t L i (L.getD i []).length=false→Q .ret s') :
  awp (cx SP (pfL zIi)) (.loop yMf) Q s:=by
 obtain⟨f,hf⟩:∃f:Nat,f=if 0<(zBo q t).length then 1 else 0:=⟨_,rfl⟩
 rw[←hf]at q13;have hll:=o.ll;have hgl:L.getD i []=L[i]'(by omega):=by rw[zB,zA (by omega)];rfl
 have hlb:(L.getD i []).length≤2147483647:=by rw[hgl];exact o.ls _ (zF _)
 clear hgl;obtain⟨l,hl⟩:∃l,l=L.getD i []:=⟨_,rfl⟩;rw[←hl]at hlb hQ hR;have hfrom:∀j,j≤f→zXs sc q t L i j=true:=fun j hj=>by
  unfold zXs;rw[zJ];intro y hy;have:=xQ.1 hy;rw[←hf,decide_eq_true (show y<f by omega)];rfl
 have f1:f≤1:=by rw[hf];split<;>omega
 refine yK (fun s=>∃j:Nat,f≤j∧(j≤l.length∨j=f)∧J51 H n q sa qa qb qc la z k t ta m y1 y2 y3 s∧s.e 11=ii i∧s.e 13=ii j∧zXs sc q t L i j=true) (fun s=>l.length-(s.e 13).i.toNat) ⟨f,zD _,.inr rfl,a,q11,q13,hfrom f (zD _)⟩ ?_
 rintro e' h' n' ⟨j,hj1,hj2,J,q11,q13,hall⟩;have J0:=J;obtain⟨⟨q2,q3,q4,q7,q8,b0,b1,ag,fr,nn,rz⟩,q9,q10,b10,rt,r1,r2,r3⟩:=J;simp only[]at q2 q3 q4 q7 q8 b0 b1 ag fr nn rz q9 q10 b10 rt r1 r2 r3 q11 q13;have el':rd zDd h' la=some L:=yS hn el _ ag;obtain⟨id,off,bk,c,hla,hbk,ho,hc,hrd⟩:=zEa el' (show i<L.length by omega)
 rw[←hl]at hrd;have hw1:off+(i+1)≤bk.cells.length:=by omega
 obtain⟨t1,t2,t3,t4,t5⟩:=zK hrd;obtain⟨v1,v2,v3,v4,v5⟩:=zK (yS hn e1 _ ag);obtain⟨u1,u2,u3,u4,u5⟩:=zK rt;obtain⟨w1,w2,w3,w4,w5⟩:=zK el';have e2':deQ h' (.g (xS q qa qb qc))=some q:=zAp (zAh hn ag) e2;obtain⟨a',b',c',e0,x1,x2,x3⟩:=xP e2';cases e0;have p1:=(zK x1).2.2.2.1;have p2:=(zK x2).2.2.2.1;have p3:=(zK x3).2.2.2.1;have b1':h' (n+1)=some ⟨[qa,.v (.int .i64 q.mode),.v (.int .i64 q.after),qb,.v (.int .i64 q.within),.v (.string q.par),qc],0,true,7⟩:=b1;have hil:i<L.length:=by omega
 by_cases hlt:j<l.length
 ·obtain⟨gt,okt⟩:=J0.g49 o e1 e2 el hn hs hg (i:Int) (j:=j) (by omega)
  have hw:=yF (j:=j) (by unfold big;omega)
  have hsn:=yBn (sc:=sc) (q:=q) (t:=t) (L:=L) (each:=(i:Int)) j;rw[hall,←hf,decide_eq_false (show ¬j<f by omega),zAq,zFg]at hsn
  have hlen:l.length<4611686018427387904:=by omega
  simp only[xS,ii,ss]at gt;rw[hla]at q2 gt w3;subst hla;cases htv:zBy ⟨sc,q,t,⟨L,(i:Int),j⟩⟩with
  | true =>
   rw[htv]at gt hsn;simp[evx,hdC,tlC,yP,inB,zGi,yMf,zPq,zMy,Tryz.f51,zIi,q2,q3,q4,q9,q11,q13,ii,b0,b1',hbk,hc,hw1,hil,hlt,t1,t2,t3,v4,p1,p2,p3,u3,gt,okt,hw,bv];exact⟨⟨j+1,by omega,.inl hlt,J0.up (by simp[up]) (zE _ _) fr (zD _),by omega,hsn⟩,by omega⟩
  | false =>
   rw[htv]at gt hsn;have hno:zXs sc q t L i l.length=false:=by
    unfold zXs;refine zN8 hlt ?_;rw[←hf,decide_eq_false (show ¬j<f by omega),htv];rfl
   simp[evx,hdC,tlC,yP,inB,zGi,yMf,zPq,zMy,Tryz.f51,zIi,q2,q3,q4,q9,q11,q13,ii,b0,b1',hbk,hc,hw1,hil,hlt,t1,t2,t3,v4,p1,p2,p3,u3,gt,okt,hw,bv];exact hR _ (by simp[up,bv]) hno
 ·have hfin:zXs sc q t L i l.length=true:=by
   rcases hj2 with h|h
   ·rw[show l.length=j by omega];exact hall
   ·exact hfrom _ (by omega)
  rw[hla]at q2;simp[evx,hdC,tlC,yP,inB,zGi,yMf,zPq,zMy,Tryz.f51,q2,q11,q13,ii,hbk,hc,hw1,hil,hlt,t1,t2,t3];exact hQ _ (J0.up (by simp[up]) (zE _ _) fr (zD _)) hfin
theorem yP3 {Q:Ex→St→Prop} {s:St} (hk:k<big) (a:I51 H n q sa qa qb qc la z k s) (hQ:∀s',I51 H n q sa qa qb qc la z (k+1) s'→Q .normal s'):awp (cx SP (pfL zIi)) (tlC 2 zMy) Q s:=by
 obtain⟨e,h,n2⟩:=s;obtain⟨q2,q3,q4,q7,q8,b0,b1,ag,fr,nn,rz⟩:=a;simp only[]at q2 q3 q4 q7 q8 b0 b1 ag fr nn rz;have hw:=yF hk;simp[evx,hdC,tlC,yP,zMy,Tryz.f51,q8,ii,hw];exact hQ _ ⟨by simp[up,q2],by simp[up,q3],by simp[up,q4],by simp[up,q7],by simp[up,ii],b0,b1,ag,fr,nn,rz⟩
theorem ySs (o:Ok51 sc q L) (e1:rd zD8 H sa=some sc) (e2:deQ H (.g (xS q qa qb qc))=some q) (el:rd zDd H la=some L) (hn:Fresh n H) (hk:k<(xR q.wh).length) (e:Nat→AV) (h1:Heap) (n2:Nat) (a:I51 H n q sa qa qb qc la z k ⟨e,h1,n2⟩) {Q:Ex→St→Prop}
  (hQ:∀s',I51 H n q sa qa qb qc la z (k+1) s'→zGf sc q L (zAo q.wh (xR q.wh)[k])=true→Q .normal s') (hR:∀s':St,s'.e 6=bv false→zGf sc q L (zAo q.wh (xR q.wh)[k])=false→Q .ret s') :
  awp (cx SP (pfL zIi)) zMy Q ⟨e,h1,n2⟩:=by
 have hr:(xR q.wh)[k]∈xR q.wh:=zF hk;have hmc:zAo q.wh (xR q.wh)[k]∈zA7 q:=by rw[zCo];exact List.mem_map_of_mem hr
 obtain⟨hss,hrg⟩:=o.w.conj hmc;have hkb:k<big:=by
  have h1:=zYp o.w.q2;have h2:(zHs q).length=(xR q.wh).length:=by unfold zHs;rw[zO]
  have h3:q.wh.length*64≤140737488355328:=o.w.q2;unfold big;omega
 have a0:=a;obtain⟨q2,q3,q4,q7,q8,b0,b1,ag,fr,nn,rz⟩:=a;simp only[]at q2 q3 q4 q7 q8 b0 b1 ag fr nn rz;obtain⟨s1,s2,s3,s4,s5⟩:=zK rz;have hkr:k<(zHs q).length:=by unfold zHs;rw[zO];exact hk
 refine zX 1 _ _ (R:=fun s=>I51 H n q sa qa qb qc la z k s) ?_ fun e3 h3 n3 A => ?_
 ·simp[evx,hdC,tlC,yP,zMy,Tryz.f51,q7,q8,ii,s1,s2,s3,hkr]
  exact a0.up (by simp[up]) (zE _ _) fr (zD _)
 show awp _ (.seq (.block 1 zPq) (tlC 2 zMy)) _ _;rw[zCf,zAe];have hmt:zGf sc q L (zAo q.wh (xR q.wh)[k])=if 0≤zPl q (xX q (zAo q.wh (xR q.wh)[k]))then true else if zCc q (xX q (zAo q.wh (xR q.wh)[k]))<0 then zBy ⟨sc,q,zAo q.wh (xR q.wh)[k],⟨L,-1,0⟩⟩else zXs sc q (zAo q.wh (xR q.wh)[k]) L (zCc q (xX q (zAo q.wh (xR q.wh)[k]))) (zAm L (zCc q (xX q (zAo q.wh (xR q.wh)[k])))).length:=rfl
 have hem:=yEe (q:=q) (l:=xX q (zAo q.wh (xR q.wh)[k]));refine zX 3 _ _ (ySt o.W o.w e2 hn hk _ _ _ A fun hE s' A' => ?_) fun e4 h4 n4 ⟨hE,ta,m,y1,y2,y3,J⟩ => ?_
 ·rw[zBf,if_pos rfl,wL]
  rw[if_pos hE]at hmt;exact yP3 hkb A' fun s'' A''=>hQ _ A'' hmt
 rw[if_neg hE]at hmt;generalize zAo q.wh (xR q.wh)[k]=t at *;refine zX 1 _ _ (R:=fun s=>J51 H n q sa qa qb qc la z k t ta m y1 y2 y3 s∧s.e 11=ii (-1)) ?_ fun e5 h5 n5 ⟨J5,k11⟩ => ?_
 ·simp[evx,hdC,tlC,yP,inB,zPq,zMy,Tryz.f51]
  exact⟨J.up (by simp[up]) (zE _ _) J.a.fr (zD _),by simp[up,ii]⟩
 refine zX 1 _ _ (R:=fun s=>J51 H n q sa qa qb qc la z k t ta m y1 y2 y3 s∧s.e 11=ii (zCc q (xX q t))) ?_ fun e6 h6 n6 ⟨J6,k11⟩ => ?_
 ·show awp _ (.seq (hdC 1 (hdC 1 (tlC 4 zPq))) (.block 2 (.loop yMg))) _ _
  refine zMe (I:=fun s=>J51 H n q sa qa qb qc la z k t ta m y1 y2 y3 s∧s.e 11=ii (-1)∧s.e 12=ii 0) ?_ fun e h n' ⟨K,j1,j2⟩=>ySv o.W e2 hn _ K j1 j2 fun s' K' j => ?_
  ·simp[evx,hdC,tlC,yP,inB,zPq,zMy,Tryz.f51]
   simp only[]at k11;exact⟨J5.up (by simp[up]) (zE _ _) J5.a.fr (zD _),by simp[up,k11],by simp[up,ii]⟩
  ·rw[zBf,if_pos rfl,wL]
   exact⟨K',j⟩
 have J60:=J6;obtain⟨⟨q2,q3,q4,q7,q8,b0,b1,ag,fr,nn,rz⟩,q9,q10,b10,rt,r1,r2,r3⟩:=J6;simp only[]at q2 q3 q4 q7 q8 b0 b1 ag fr nn rz q9 q10 b10 rt r1 r2 r3 k11;obtain⟨v1,v2,v3,v4,v5⟩:=zK (yS hn e1 _ ag);obtain⟨u1,u2,u3,u4,u5⟩:=zK rt;obtain⟨w1,w2,w3,w4,w5⟩:=zK (yS hn el _ ag);obtain⟨t1,t2,t3,t4,t5⟩:=zK r2;obtain⟨a',b',c',e0,x1,x2,x3⟩:=xP (zAp (zAh hn ag) e2);cases e0;have p1:=(zK x1).2.2.2.1;have p2:=(zK x2).2.2.2.1;have p3:=(zK x3).2.2.2.1;have b1':h6 (n+1)=some ⟨[qa,.v (.int .i64 q.mode),.v (.int .i64 q.after),qb,.v (.int .i64 q.within),.v (.string q.par),qc],0,true,7⟩:=b1;obtain⟨E,hEe⟩:∃E,E=zCc q (xX q t):=⟨_,rfl⟩;rw[←hEe]at hmt hem k11;by_cases h0:E<0
 ·have hE1:E=-1:=by
   rcases hem with h|h
   ·exact h
   ·have:=(zF4 (zFx _ h)).1;omega
  subst hE1;rw[if_pos (by omega)]at hmt
  obtain⟨gt,okt⟩:=J60.g49 o e1 e2 el hn hss hrg (-1) (j:=0) (by omega)
  simp only[xS,ii,ss]at gt;cases htv:zBy ⟨sc,q,t,⟨L,-1,0⟩⟩with
  | true =>
   have gt2:G49 [.g [sa],.g [qa,.v (.int .i64 q.mode),.v (.int .i64 q.after),qb,.v (.int .i64 q.within),.v (.string q.par),qc],ta,la,.v (.int .i64 (-1)),.v (.int .i64 0)] h6=⟨EqOk ⟨sc,q,t,⟨L,-1,0⟩⟩,bv true⟩:=by rw[←htv];exact gt
   have okt2:EqOk ⟨sc,q,t,⟨L,-1,0⟩⟩:=okt;simp[evx,hdC,tlC,yP,inB,zPq,zMy,Tryz.f51,zIi,q2,q3,q4,q9,k11,ii,b0,b1',v4,p1,p2,p3,u3,w3,gt2,okt2,bv,q8,yF hkb];exact hQ _ ⟨by simp[up,q2],by simp[up,q3],by simp[up,q4],by simp[up,q7],by simp[up,ii],b0,b1,ag,fr,nn,rz⟩ (hmt.trans htv)
  | false =>
   have gt2:G49 [.g [sa],.g [qa,.v (.int .i64 q.mode),.v (.int .i64 q.after),qb,.v (.int .i64 q.within),.v (.string q.par),qc],ta,la,.v (.int .i64 (-1)),.v (.int .i64 0)] h6=⟨EqOk ⟨sc,q,t,⟨L,-1,0⟩⟩,bv false⟩:=by rw[←htv];exact gt
   have okt2:EqOk ⟨sc,q,t,⟨L,-1,0⟩⟩:=okt;simp[evx,hdC,tlC,yP,inB,zPq,zMy,Tryz.f51,zIi,q2,q3,q4,q9,k11,ii,b0,b1',v4,p1,p2,p3,u3,w3,gt2,okt2,bv];exact hR _ (by simp[up,bv]) (hmt.trans htv)
 ·rw[if_neg h0]at hmt
  have hEm:E∈xX q t:=hem.resolve_left (by omega)
  obtain⟨m0,m1⟩:=zF4 (zFx _ hEm);obtain⟨i,hi⟩:=zCi m0;subst hi;rw[zV]at m1;have hla:zAm L (i:Int)=L.getD i []:=by unfold zAm;rw[if_neg (by omega),zV]
  rw[hla]at hmt;have h0':¬(i:Int)<0:=by omega
  refine zX 3 _ _ (R:=fun s=>J51 H n q sa qa qb qc la z k t ta m y1 y2 y3 s∧s.e 11=ii i∧s.e 13=ii ((if 0<(zBo q t).length then 1 else 0:Nat):Nat)) ?_ fun e7 h7 n7 ⟨J7,k1,k2⟩ => ?_
  ·by_cases hp:0<(zBo q t).length
   ·simp[evx,hdC,tlC,yP,inB,zPq,zMy,Tryz.f51,q10,k11,ii,b10,t1,t2,hp]
    exact J60.up (by simp[up]) (zE _ _) fr (zD _)
   ·simp[evx,hdC,tlC,yP,inB,zPq,zMy,Tryz.f51,q10,k11,ii,b10,t1,t2,hp]
    exact J60.up (by simp[up]) (zE _ _) fr (zD _)
  show awp _ (.block 4 (.loop yMf)) _ _;rw[zAe];refine ySu o e1 e2 el hn hss hrg m1 _ J7 k1 k2 (fun s' K' m => ?_) fun s' m1 m2 => ?_
  ·rw[zBf,if_pos rfl,zEd,wL]
   exact yP3 hkb K'.a fun s'' A''=>hQ _ A'' (hmt.trans m)
  ·rw[zBw,zBw,zBx]
   exact hR s' m1 (hmt.trans m2)
end
def yOs (x:List Ty×Qu×List (List Ev)):Prop:=Ok51 x.1 x.2.1 x.2.2
def GMe:=yE (de3 rSc rQ rEss) yOs fun x=>bv (zHl x.1 x.2.1 x.2.2)
theorem P51:P0 SP 51 GMe:=by
 refine mkH 3 (S:=SP) (l:=zIi) (zS P48 (zS P49 yH)) Tryz.func51 rfl (by kernel_rfl) zK1 zO8 (fun a=>rfl) (fun args x h n e hp hn => ?_)
 obtain⟨a,b,la,rfl,f1,f2,f3⟩:=zFc e;obtain⟨sc,q,L⟩:=x;have o:Ok51 sc q L:=hp;simp only[]at f1 f2 f3 ⊢;obtain⟨sa,rfl,e1⟩:=zA4 f1;obtain⟨qa,qb,qc,rfl,x1,x2,x3⟩:=xP f2;have f3':rd zDd h la=some L:=f3;have hfr:Fresh n (roH h):=zFh hn;have e1':rd zD8 (roH h) sa=some sc:=zAb (Heap.sim_ro h) e1;have e2':deQ (roH h) (.g (xS q qa qb qc))=some q:=zAp (Heap.sim_ro h) f2;have el':rd zDd (roH h) la=some L:=zAb (Heap.sim_ro h) f3';have o1:=(zK e1).2.2.2.1;have o2:=(zK x1).2.2.2.1;have o3:=(zK x2).2.2.2.1;have o4:=(zK x3).2.2.2.1;have o5:=(zK x2).2.2.1;have key:∀e:Nat→AV,e 0=.g [sa]→e 1=.g (xS q qa qb qc)→e 2=la→awp (cx SP (pfL zIi)) (Tryz.f51.body.getD .skip) (zA8 (cx SP (pfL zIi)) Tryz.f51 fun z _ _=>z=bv (zHl sc q L)) ⟨e,roH h,n⟩:=fun e q0 q1 q2=>by
  refine zX 2 _ _ (R:=fun s=>∃z,I51 (roH h) n q sa qa qb qc la z 0 ⟨fun j=>if j=8 then ii 0 else s.e j,s.h,s.n⟩) ?_ fun e3 h3 n3 ⟨z,J⟩ => ?_
  ·simp[evx,hdC,Tryz.f51,q0,q1,xS,ii,ss,o1,o2,o3,o4,zIi,o5]
   have hag:∀B1 B2,agree n (roH h) (up (up (roH h) n B1) (n+1) B2):=fun B1 B2=>by simp[zC,zE]
   have hf2:∀B1 B2,Fresh (n+2) (up (up (roH h) n B1) (n+1) B2):=fun B1 B2=>(zG (by omega) _).2 ((zG (by omega) _).2 (hfr.add 2))
   refine (xV (S:=[3]) (by simp[SP]) (c35 (yS hfr (zAb (Heap.sim_ro h) x2) _ (hag _ _)) o.w.q2 (hf2 _ _))).mono ?_
   rintro z h2 n2 ⟨a1,a2,a3,a4⟩;refine⟨z,by simp[up,q2],by simp[up],by simp[up],by simp[up],by simp[ii],?_,?_,yJ (hag _ _) a1 (by omega),a2,by simp only[];omega,yU (yFe _ _ _) a4⟩
   ·simp only[]
    rw[a1 n (by omega),zP _ _ (by omega),zN]
   ·simp only[]
    rw[a1 (n+1) (by omega),zN];simp[xS,ii,ss]
  refine zX 1 _ _ (R:=fun s=>zHl sc q L=true) ?_ fun e4 h4 n4 hm => ?_
  ·show awp _ (.seq (hdC 1 (hdC 1 (tlC 2 (Tryz.f51.body.getD .skip)))) (.block 0 (.loop zMy))) _ _
   refine zMe (I:=fun s=>I51 (roH h) n q sa qa qb qc la z 0 s) ?_ fun e h' n' K => ?_
   ·simp[evx,hdC,tlC,Tryz.f51]
    exact J
   ·refine yK (fun s=>∃k:Nat,k≤(xR q.wh).length∧I51 (roH h) n q sa qa qb qc la z k s∧((xR q.wh).take k).all (fun r=>zGf sc q L (zAo q.wh r))=true) (fun s=>(xR q.wh).length-(s.e 8).i.toNat) ⟨0,zAz _,K,rfl⟩ ?_
    rintro e' h' n' ⟨k,hk,J,hall⟩;by_cases hlt:k<(xR q.wh).length
    ·refine ySs o e1' e2' el' hfr hlt _ _ _ J (fun s' J' m => ?_) fun s' m1 m2 => ?_
     ·rw[wL]
      refine⟨⟨k+1,hlt,J',?_⟩,?_⟩
      ·rw[zZ hlt,zI8,hall,m];rfl
      ·have h1:=J'.q8
       have h2:e' 8=ii k:=J.q8;show (xR q.wh).length-(s'.e 8).i.toNat<(xR q.wh).length-(e' 8).i.toNat;rw[h1,h2];show (xR q.wh).length-((k+1:Nat):Int).toNat<(xR q.wh).length-((k:Nat):Int).toNat;omega
     ·rw[zBx,zBw,zBx,zJ4]
      have hv:zHl sc q L=false:=by
       unfold zHl;rw[zAl];exact⟨_,zF hlt,by rw[m2];simp⟩
      rw[hv];simp[evx,Tryz.f51,m1]
    ·obtain rfl:k=(xR q.wh).length:=by omega
     rw[xN]at hall;obtain⟨q2,q3,q4,q7,q8,b0,b1,ag,fr,nn,rz⟩:=J;simp only[]at q7 q8;obtain⟨t1,t2,t3,t4,t5⟩:=zK rz;have hrl:(zHs q).length=(xR q.wh).length:=by unfold zHs;rw[zO]
     rw[hrl]at t2;simp[evx,hdC,tlC,yP,zMy,Tryz.f51,q7,q8,ii,t1,t2,t3];exact hall
  simp[evx,tlC,Tryz.f51,hm,bv]
 exact key _ rfl rfl rfl
end
section
section
variable {H:Heap} {n:Nat} {sc:List Ty} {q:Qu} {sa qa qb qc ba:AV} {ng:Int} {x:Ev} {b:List (List Ev)}
end
end
end Go.Proofs.YtbffkkeieihpdaaGreatDoor
namespace Go.Proofs.YtbffkkeieihpdaaGreatDoor
open Go Go.Eng Go.RowKit Go.ChangeShapes Go.WideShapes Go.Joins
theorem zWe:Opens Tryz.prog 53 zDd fun l=>l.length*24≤reachBytes∧∀x∈l,x.length*88≤reachBytes∧∀y∈x,zGg y:=Opens.sl Tryz.underlying53 (sz:=1) (by kernel_rfl) (by decide) (by kernel_rfl) yDc
section
def zHq:List (FuncId×(List AV→Heap→PRes)):=[(14,G14),(42,zVq),(50,yM8),(51,GMe)]
theorem yCk:zRv SP zHq:=zS P14 (zS P42 (zS P50 (zS P51 yH)))
structure AW (H:Heap) (n:Nat) (q:Qu) (sa qa qb qc ba:AV) (s:St):Prop where
 q2:s.e 2=ba
 q3:s.e 3=.p n 0 0
 q4:s.e 4=.p (n+1) 0 0
 b0:s.h n=some ⟨[sa],0,true,1⟩
 b1:s.h (n+1)=some ⟨xS q qa qb qc,0,true,7⟩
 ag:agree n H s.h
 fr:Fresh s.n s.h
 nn:n+2≤s.n
theorem AW.up {H:Heap} {n:Nat} {q:Qu} {sa qa qb qc ba:AV} {s s':St} (a:AW H n q sa qa qb qc ba s) (he:∀i∈[2,3,4],s'.e i=s.e i) (ha:agree s.n s.h s'.h) (hf:Fresh s'.n s'.h) (hn:s.n≤s'.n):AW H n q sa qa qb qc ba s':=by
 have:=a.nn;exact⟨(he 2 (by simp)).trans a.q2,(he 3 (by simp)).trans a.q3,(he 4 (by simp)).trans a.q4,(ha _ (by omega)).trans a.b0,(ha _ (by omega)).trans a.b1,yJ a.ag ha (by omega),hf,by omega⟩
structure BW (H:Heap) (n:Nat) (sc:List Ty) (q:Qu) (sa qa qb qc ba:AV) (m:Nat) (p:Pt) (s:St):Prop where
 a:AW H n q sa qa qb qc ba s
 q7:s.e 7=.p m 0 0
 b7:s.h m=some ⟨xT p (yQ sc q),0,true,16⟩
 pl:PlR s.h p (yQ sc q)
theorem BW.up {H:Heap} {n:Nat} {sc:List Ty} {q:Qu} {sa qa qb qc ba:AV} {m:Nat} {p:Pt} {s s':St} (a:BW H n sc q sa qa qb qc ba m p s) (he:∀i∈[2,3,4,7],s'.e i=s.e i) (ha:agree s.n s.h s'.h) (hf:Fresh s'.n s'.h) (hn:s.n≤s'.n):BW H n sc q sa qa qb qc ba m p s' :=
 ⟨a.a.up (fun i hi=>he i (by simp at hi ⊢;omega)) ha hf hn,(he 7 (by simp)).trans a.q7,(ha _ (xI a.b7 a.a.fr)).trans a.b7,a.pl.sim (zAh a.a.fr ha)⟩
section
variable {H:Heap} {n:Nat} {sc:List Ty} {q:Qu} {sa qa qb qc ba:AV} {b:List (List Ev)}
theorem yLm (e1:rd zD8 H sa=some sc) (e2:deQ H (.g (xS q qa qb qc))=some q) (w:SQ sc q) (hn:Fresh n H) (e:Nat→AV) (q0:e 0=.g [sa]) (q1:e 1=.g (xS q qa qb qc)) (q2:e 2=ba) :
  awp (cz SP (pfL zHq)) (hdC 3 (Tryz.f13.body.getD .skip)) (zAs (AW H n q sa qa qb qc ba) (zA8 (cz SP (pfL zHq)) Tryz.f13 fun z _ _=>z=bv true)) ⟨e,H,n⟩:=by
 obtain⟨a',b',c',e0,x1,x2,x3⟩:=xP e2;cases e0;have o1:=(zK e1).2.2.2.1;have o2:=(zK x1).2.2.2.1;have o3:=(zK x2).2.2.2.1;have o4:=(zK x3).2.2.2.1;have w3:xO q.wh∧q.ret.length<big∧∀t∈q.ret,xO t:=⟨w.q2,by have:=w.q3;unfold big;omega,w.q4⟩
 have gq:∀h',agree n H h'→G14 [.g [qa,.v (.int .i64 q.mode),.v (.int .i64 q.after),qb,.v (.int .i64 q.within),.v (.string q.par),qc]] h'=⟨xO q.wh∧q.ret.length<big∧∀t∈q.ret,xO t,bv (zYu q)⟩:=fun h' ha=>by
  simp only[G14,yE,yKc,zOw (yS hn x1 h' ha) (yS hn x2 h' ha) (yS hn x3 h' ha)]
 simp[evz,hdC,Tryz.f13,q0,q1,q2,xS,ii,ss,o1,o2,o3,o4,zHq];refine (zK9 (S:=SP) (fun _ h=>h) (c34 ((zG (by omega) _).2 ((zG (by omega) _).2 (hn.add 2))))).mono ?_
 rintro z h2 n2 ⟨a1,a2,a3,rfl⟩;have ag:agree n H h2:=fun i hi=>by rw[a1 i (by omega),zP _ _ (by omega),zP _ _ (by omega)]
 have b1:h2 (n+1)=_:=(a1 (n+1) (by omega)).trans (zN _ _ _)
 have b0:h2 n=_:=((a1 n (by omega)).trans (zP _ _ (by omega))).trans (zN _ _ _)
 cases hq:zYu q with
 | true =>
  rw[hq]at gq;simp[evz,bv,b1,gq,ag];exact w3
 | false =>
  rw[hq]at gq;simp[evz,bv,b1,gq,ag];exact⟨w3,by simp[up,q2],by simp[up],by simp[up],b0,b1,ag,a2,by omega⟩
theorem yLl (e1:rd zD8 H sa=some sc) (e2:deQ H (.g (xS q qa qb qc))=some q) (rb:rd zDd H ba=some b) (hb1:b.length<big) (hb2:∀l∈b,l.length<big) (w:SQ sc q) (hn:Fresh n H) (e:Nat→AV) (h1:Heap) (n2:Nat) (a:AW H n q sa qa qb qc ba ⟨e,h1,n2⟩) :
  awp (cz SP (pfL zHq)) (hdC 2 (tlC 3 (Tryz.f13.body.getD .skip))) (zAs (fun s=>Wf sc q∧zCt (yQ sc q) b=true∧∃m p,BW H n sc q sa qa qb qc ba m p s) (zA8 (cz SP (pfL zHq)) Tryz.f13 fun z _ _=>z=bv true)) ⟨e,h1,n2⟩:=by
 have a0:=a;obtain⟨q2,q3,q4,b0,b1,ag,fr,nn⟩:=a;simp only[]at q2 q3 q4 b0 b1 ag fr nn;obtain⟨a',b',c',e0,x1,x2,x3⟩:=xP e2;cases e0;have b1':h1 (n+1)=some ⟨[qa,.v (.int .i64 q.mode),.v (.int .i64 q.after),qb,.v (.int .i64 q.within),.v (.string q.par),qc],0,true,7⟩:=b1;simp[evz,hdC,tlC,Tryz.f13,zHq,q2,q3,q4,b0,b1'];refine (zK9 (S:=[3]) (by simp[SP]) (c17 (yS hn e1 _ ag) (zG3 (q:=q) (yS hn x1 _ ag) (yS hn x2 _ ag) (yS hn x3 _ ag)) w.ok fr)).mono ?_
 rintro z h2 n3 ⟨a1,a2,a3,hz⟩;rcases hz with ⟨hz,rfl⟩|⟨hz,p,rfl,pl⟩
 ·generalize chk sc q=F at *
  obtain⟨c,pt,ix,sb⟩:=F;simp only[]at hz;simp[evz,zpl,zKu,ff,zAf,ii,ss,bv,hz]
 ·obtain⟨hz0,W⟩:=yB4 hz
  obtain⟨o1,o2,o3,o4,o5,o6,o7,o8,o9,o10⟩:=pl.is;have hag:agree n H h2:=yJ ag a1 (by omega)
  have rb2:∀h',agree n3 h2 h'→rd zDd h' ba=some b:=fun h' ha=>yS hn rb h' (yJ hag ha (by omega))
  have okb:okBn (yQ sc q,b):=⟨by simp only[];rw[zCw];have:=zLm q q.items.length;have:=W.n1;unfold big;omega,hb1,hb2,fun k hk=>by
   obtain⟨i,hi,_,rfl⟩:=zOb hk;have:=zR4 W hi;show (zPy sc (itA q i)).length<big;unfold big;omega⟩
  have gb:∀h',agree n3 h2 h'→zVq [.g (xT p (yQ sc q)),ba] h'=⟨okBn (yQ sc q,b),bv (zCt (yQ sc q) b)⟩:=fun h' ha=>by
   have d1:rPl.run h' (.g (xT p (yQ sc q)))=some (yQ sc q):=zG4 (pl.sim (zAh a2 ha));have d2:rEss.run h' ba=some b:=rb2 h' ha;simp only[zVq,yE,de2,d1,d2,zT,zM]
  have hbo:=(zK rb).2.2.1;have fin:∀(e':Nat→AV) (h':Heap) (n':Nat),(∀i∈[2,3,4],e' i=e i)→e' 7=.p n3 0 0→h' n3=some ⟨xT p (yQ sc q),0,true,16⟩→agree n3 h2 h'→Fresh n' h'→n3≤n'→∃m p,BW H n sc q sa qa qb qc ba m p ⟨e',h',n'⟩:=fun e' h' n' k1 k2 k3 k4 k5 k6 =>
   ⟨n3,p,a0.up k1 (yJ a1 k4 a3) k5 (xE a3 k6),k2,k3,pl.sim (zAh a2 k4)⟩
  simp only[xT,ff,zAf,fl0,ii,ss,bv]at fin gb ⊢;generalize yQ sc q=P at *;cases hbv:zCt P b with
  | false =>
   rw[hbv]at gb;simp[evz,o1,o2,o3,o4,o5,o6,o7,o8,o9,o10,q2,gb,zC,zE,okb,bv,hbo,zEc]
  | true =>
   rw[hbv]at gb;simp[evz,o1,o2,o3,o4,o5,o6,o7,o8,o9,o10,q2,gb,zC,zE,okb,bv,hbo,zEc,ii];exact⟨W,fin _ _ _ (by simp[up]) (by simp[up]) (by simp[up]) (by simp[zC,zE]) (by simp[zG,a2.add]) (by omega)⟩
theorem yLk (W:Wf sc q) (w:SQ sc q) (rb:rd zDd H ba=some b) (e2:deQ H (.g (xS q qa qb qc))=some q) (hn:Fresh n H) (e:Nat→AV) (h1:Heap) (n2:Nat) {m:Nat} {p:Pt} (a:BW H n sc q sa qa qb qc ba m p ⟨e,h1,n2⟩) {Q:Ex→St→Prop} :
  awp (cz SP (pfL zHq)) (hdC 2 (tlC 5 (Tryz.f13.body.getD .skip))) (zAs (fun s=>BW H n sc q sa qa qb qc ba m p s∧∃la,s.e 9=la∧rd zDd s.h la=some (byV q b (-1) evZ)) Q) ⟨e,h1,n2⟩:=by
 have a0:=a;obtain⟨⟨q2,q3,q4,b0,b1,ag,fr,nn⟩,q7,b7,pl⟩:=a;simp only[]at q2 q3 q4 b0 b1 ag fr nn q7 b7 pl;obtain⟨a',b',c',e0,x1,x2,x3⟩:=xP e2;cases e0;have b1':h1 (n+1)=some ⟨[qa,.v (.int .i64 q.mode),.v (.int .i64 q.after),qb,.v (.int .i64 q.within),.v (.string q.par),qc],0,true,7⟩:=b1;have eq1:deQ h1 (.g (xS q qa qb qc))=some q:=zAp (zAh hn ag) e2;have hbu:=(zK rb).2.2.1;simp[evz,hdC,tlC,Tryz.f13,zHq,q4,b1'];refine (zD7 (S:=[3]) (by simp[SP]) (c43 fr eq1 (by have:=W.n1;omega) w.q2)).mono ?_
 rintro z h2 n3 ⟨rfl,a1,a2,a3⟩;have b1x:h2 (n+1)=_:=(a1 _ (by omega)).trans b1'
 have eq2:deQ h2 (.g (xS q qa qb qc))=some q:=zAp (zAh fr a1) eq1;have rb2:rd zDd h2 ba=some b:=yS hn rb _ (yJ ag a1 (by omega))
 simp[evz,bv,b1x,q2,q4,hbu];refine (zD7 (S:=[]) (fun _ h=>by cases h) (c44 (k:=-1) (x:=evZ) a2 eq2 rb2 (by have:=W.n1;omega))).mono ?_
 rintro la h3 n4 ⟨c1,c2,c3,rl⟩;exact⟨a0.up (by simp[up]) (yJ a1 c1 a3) c2 (xE a3 c3),rl⟩
theorem yLj (W:Wf sc q) (w:SQ sc q) (hbv:zCt (yQ sc q) b=true) (hev:∀l∈b,∀y∈l,zGg y) (e1:rd zD8 H sa=some sc) (rb:rd zDd H ba=some b) (e2:deQ H (.g (xS q qa qb qc))=some q) (hn:Fresh n H) (e:Nat→AV) (h1:Heap) (n2:Nat) {m:Nat} {p:Pt} (a:BW H n sc q sa qa qb qc ba m p ⟨e,h1,n2⟩) {la:AV} (q9:e 9=la) (rl:rd zDd h1 la=some (byV q b (-1) evZ)) :
  awp (cz SP (pfL zHq)) (tlC 7 (Tryz.f13.body.getD .skip)) (zA8 (cz SP (pfL zHq)) Tryz.f13 fun z _ _=>z=bv true) ⟨e,h1,n2⟩:=by
 have hlaw:=zXx W hbv evZ;have hbl:=zMf W hbv;have hen:=yGn (q:=q) hbl hev yGe (-1);obtain⟨⟨q2,q3,q4,b0,b1,ag,fr,nn⟩,q7,b7,pl⟩:=a;simp only[]at q2 q3 q4 b0 b1 ag fr nn q7 b7 pl;obtain⟨a',b',c',e0,x1,x2,x3⟩:=xP e2;cases e0;have b1':h1 (n+1)=some ⟨[qa,.v (.int .i64 q.mode),.v (.int .i64 q.after),qb,.v (.int .i64 q.within),.v (.string q.par),qc],0,true,7⟩:=b1;have eq1:deQ h1 (.g (xS q qa qb qc))=some q:=zAp (zAh hn ag) e2;have es1:rd zD8 h1 sa=some sc:=yS hn e1 _ ag;have rb1:rd zDd h1 ba=some b:=yS hn rb _ ag;have okd:yIa (yQ sc q,b):=⟨sc,q,W,w,rfl,hbv,hev⟩;have okm:yOs (sc,q,byV q b (-1) evZ):=⟨W,w,by simp[byV],fun l hl=>hen.len l hl,fun l hl=>hen.ev l hl⟩
 have gd:yM8 [.g (xT p (yQ sc q)),ba] h1=⟨yIa (yQ sc q,b),bv (zU3 (yQ sc q) b (byV q b (-1) evZ))⟩:=by
  have d1:rPl.run h1 (.g (xT p (yQ sc q)))=some (yQ sc q):=zG4 pl;have d2:rEss.run h1 ba=some b:=rb1;simp only[yM8,yE,de2,d1,d2,zT,zM];rfl
 have gm:GMe [.g [sa],.g (xS q qa qb qc),la] h1=⟨yOs (sc,q,byV q b (-1) evZ),bv (zHl sc q (byV q b (-1) evZ))⟩:=by
  have d1:rSc.run h1 (.g [sa])=some sc:=es1;have d2:rQ.run h1 (.g (xS q qa qb qc))=some q:=eq1;have d3:rEss.run h1 la=some (byV q b (-1) evZ):=rl;simp only[GMe,yE,de3,d1,d2,d3,zT,zM]
 have p1:=(zK x1).2.2.2.1;have p2:=(zK x2).2.2.2.1;have p3:=(zK x3).2.2.2.1;have p4:=(zK es1).2.2.2.1;have p5:=(zK rb).2.2.1;have p6:=(zK rl).2.2.1;obtain⟨o1,o2,o3,o4,o5,o6,o7,o8,o9,o10⟩:=pl.is;rw[←hlaw]at gm;generalize zU3 (yQ sc q) b (byV q b (-1) evZ)=D at *;simp only[xT,xS,ii,ss,bv]at gd gm b7;generalize yQ sc q=P at *;simp[evz,tlC,Tryz.f13,zHq,q2,q3,q4,q7,q9,b0,b1',b7,p1,p2,p3,p4,p5,p6,o1,o2,o3,o4,o5,o6,o7,o8,o9,o10,zEc,gd,gm,okd,okm,bv]
theorem yOv (e1:rd zD8 H sa=some sc) (e2:deQ H (.g (xS q qa qb qc))=some q) (w:SQ sc q) (hn:Fresh n H) (rb:rd zDd H ba=some b) (okb:b.length*24≤reachBytes∧∀x∈b,x.length*88≤reachBytes∧∀y∈x,zGg y) :
  awp (cz SP (pfL zHq)) (Tryz.f13.body.getD .skip) (zA8 (cz SP (pfL zHq)) Tryz.f13 fun z _ _=>z=bv true) ⟨env0 [.g [sa],.g (xS q qa qb qc),ba],H,n⟩:=by
 have hr:reachBytes=140737488351232:=rfl;have hb1:b.length<big:=by have:=okb.1;rw[hr]at this;unfold big;omega
 have hb2:∀l∈b,l.length<big:=fun l hl=>by have:=(okb.2 l hl).1;rw[hr]at this;unfold big;omega
 have hev:∀l∈b,∀y∈l,zGg y:=fun l hl=>(okb.2 l hl).2
 refine zX 3 _ _ (yLm e1 e2 w hn _ rfl rfl rfl) fun e3 h3 n3 A => ?_
 refine zX 2 _ _ (yLl e1 e2 rb hb1 hb2 w hn e3 h3 n3 A) fun e4 h4 n4 ⟨W,hbv,m,p,B⟩ => ?_
 refine zX 2 _ _ (yLk W w rb e2 hn e4 h4 n4 B) fun e5 h5 n5 ⟨B5,la,q9,rl⟩ => ?_
 exact yLj W w hbv hev e1 rb e2 hn e5 h5 n5 B5 q9 rl
end
end
end Go.Proofs.YtbffkkeieihpdaaGreatDoor
namespace Go.Proofs.YtbffkkeieihpdaaGreatDoor
open Go Go.Eng Go.RowKit Go.ChangeShapes Go.WideShapes Go.ChangeAt
theorem yDz (os:Os) (started:os.Started) (H:Type) (enc:TypeId×Value→H) :
  ReturnsInHanded {} Tryz.checked os 13 .any (fun w args=>(Rows.planWhereSpec.pre enc Tryz.prog Tryz.f13 [] false w args∧laidMetH Tryz.prog Rows.planWhereRow.laid w)∧sizedMet enc Tryz.prog Tryz.f13 (OpenSpec.ofChange Rows.planWhereSpec) false w args)
   (Rows.planWhereSpec.post enc Tryz.prog Tryz.f13 false true false false):=by
 refine returnsInHanded_of_change_and (C:=Tryz.checked) (X:=fun w _=>laidMetH Tryz.prog Rows.planWhereRow.laid w) (fun _ _ _ hh h=>h.of_heap hh) (by kernel_rfl) started (by kernel_rfl) Tryz.func13
  (ChangeSpec.witness_shaped (enc:=enc) (C:=Tryz.checked) (os:=os) (X:=fun w _=>laidMetH Tryz.prog Rows.planWhereRow.laid w) false (World.doorLaid Tryz.prog 400 os) #[.agg #[.slice none 0 0],.agg #[.slice none 0 0,.int .i64 0,.int .i64 0,.slice none 0 0,.int .i64 0,.string ByteArray.empty,.slice none 0 0],.slice none 0 0] 8 rfl (World.shaped_of_RefB (by kernel_rfl) (by kernel_rfl)) (by kernel_rfl) (by kernel_rfl) (by kernel_rfl)
   (laidMetH_of_parts3 (fuel:=8) (laidMet_of_run' 8 (by kernel_rfl) (by kernel_rfl)) (by kernel_rfl) (by kernel_rfl))) ?_
 intro W base args ds gs before hval0 hW _ hsz hL _;have hval:∀(j:Nat) t v,Tryz.f13.params[j]? = some t→args[j]? = some v→Value.okWide Tryz.prog W .any base t v:=hval0;have hW':=hW;obtain⟨p,q,hA0,hV,rfl,hfz,hnd⟩:=hW;have hA:DataW.TrodAll enc Tryz.prog W 0 (fun _=>true) true Tryz.f13.params.toList args.toList ds p:=hA0
 obtain⟨args⟩:=args;rw[Tryz.params13]at hA hval;simp only[]at hA;obtain⟨v0,vs0,d0,ds0,p0,q0,e0,e0_,e0__,h0,hA0⟩:=ChangeShapes.trodAll_cons hA;obtain⟨v1,vs1,d1,ds1,p1,q1,e1,e1_,e1__,h1,hA1⟩:=ChangeShapes.trodAll_cons hA0;obtain⟨v2,vs2,d2,ds2,p2,q2,e2,e2_,e2__,h2,hA2⟩:=ChangeShapes.trodAll_cons hA1;obtain⟨en,en_,en__⟩:=trodAll_nil hA2;subst en en_ en__ e2 e2_ e2__ e1 e1_ e1__ e0 e0_ e0__;obtain⟨rfl,rfl⟩:=trodVars_none hV;obtain⟨ρ0,hp0,m0,l0,x0,le0,lh0,_,hb0,vr0,dec0,ok0⟩:=zT6 yDh Tryz.underlying24 (hval 0 24 v0 rfl rfl) h0 (zJc (ts:=Tryz.f13.params.toList) hsz (j:=0) rfl rfl) (fun _ _=>none) (fun _=>none) 0 (Blks.nil W)
 obtain⟨ρ1,hp1,m1,l1,x1,le1,lh1,_,hb1,vr1,dec1,ok1⟩:=zT6 zZa Tryz.underlying31 (hval 1 31 v1 rfl rfl) h1 (zJc (ts:=Tryz.f13.params.toList) hsz (j:=1) rfl rfl) ρ0 hp0 m0 hb0;obtain⟨ρ2,hp2,m2,a2,x2,le2,lh2,_,hb2,vr2,dec2,ok2⟩:=zZd zWe Tryz.underlying53 (.inr (.inr (.inr ⟨_,rfl⟩))) (hval 2 53 v2 rfl rfl) h2 (zJc (ts:=Tryz.f13.params.toList) hsz (j:=2) rfl rfl) ρ1 hp1 m1 hb1;obtain⟨sa,hsa,k0⟩:=zA4 (show zHj hp0 (.g l0)=some x0 from dec0)
 obtain⟨qa,qb,qc,hqa,k1,k2,k3⟩:=xP (show deQ hp1 (.g l1)=some x1 from dec1)
 rw[hsa]at vr0;rw[hqa]at vr1;have hc:=zWi yCk Tryz.func13 rfl (k:=3) (by kernel_rfl) (args:=[.g [sa],.g (xS x1 qa qb qc),a2]) rfl
  (yOv (sc:=x0) (q:=x1) (H:=roH hp2) (n:=m2) (zAb (zLl _) (yU (fun i k e=>(lh2 i k (lh1 i k e))) k0)) (zG3 (q:=x1) (zAb (zLl _) (yU (fun i k e=>(lh2 i k e)) k1)) (zAb (zLl _) (yU (fun i k e=>(lh2 i k e)) k2)) (zAb (zLl _) (yU (fun i k e=>(lh2 i k e)) k3))) (yOc ok0.1 ok0.2 ok1) (zFh fun i hi=>(hb2.free i hi).2) (zAb (zLl _) (yU (Heap.le_refl _) dec2)) ok2) (yK4 (W:=W) (S:=SP) (pf:=pfL zHq) hb2 fun g hg=>by
  simp only[SP,yL,yI,or_false]at hg;rcases hg with rfl|rfl|rfl|rfl|rfl|rfl|rfl|rfl
  ·exact at0 hL (by kernel_rfl) (by simp[Rows.planWhereRow])
  ·exact at1 hL (by kernel_rfl) (by simp[Rows.planWhereRow])
  ·exact at2 hL (by kernel_rfl) (by simp[Rows.planWhereRow])
  ·exact at7 hL (by kernel_rfl) (by simp[Rows.planWhereRow])
  ·exact at3 hL (by kernel_rfl) (by simp[Rows.planWhereRow])
  ·exact at4 hL (by kernel_rfl) (by simp[Rows.planWhereRow])
  ·exact at5 hL (by kernel_rfl) (by simp[Rows.planWhereRow])
  ·exact at6 hL (by kernel_rfl) (by simp[Rows.planWhereRow])
  ) hb2.free (zPh (VR.mono (fun i v b e=>(le2 i v b (le1 i v b e))) _ _ vr0) (zPh (VR.mono (fun i v b e=>(le2 i v b e)) _ _ vr1) (zPh vr2 (yJ4 _))))
 refine hc.mono fun e W' ⟨he,hb⟩=>⟨_,he,zY0 hW' rfl (by kernel_rfl) rfl rfl hb⟩
end Go.Proofs.YtbffkkeieihpdaaGreatDoor
