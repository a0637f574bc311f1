import Derived.Test.YtbffkkeieihpdaaGreatDoorX36
import Derived.Test.YtbffkkeieihpdaaGreatDoorX33
import Derived.Test.YtbffkkeieihpdaaGreatDoorX21
import Derived.Test.YtbffkkeieihpdaaGreatDoorX15
set_option linter.unusedSimpArgs false
set_option linter.unusedVariables false
set_option linter.constructorNameAsVariable false
set_option maxRecDepth 100000
set_option maxHeartbeats 4000000
namespace Go.Proofs.YtbffkkeieihpdaaGreatDoor
open Go Go.Eng
section
def yCm:List (FuncId×(List AV→Heap→PRes)):=[(90,zVp)]
def zHs (q:Qu):List Int:=(xR q.wh).map fun x:Nat=>(x:Int)
noncomputable def yMk:Code:=yP (hdC 1 (tlC 2 (Tryz.f43.body.getD .skip)))
structure I43 (H:Heap) (n:Nat) (q:Qu) (qa qb qc:AV) (z:AV) (k:Nat) (s:St):Prop where
 q1:s.e 1=.p n 0 0
 q3:s.e 3=z
 q4:s.e 4=ii k
 b1:s.h n=some ⟨xS q qa qb qc,0,true,7⟩
 ag:agree n H s.h
 fr:Fresh s.n s.h
 nn:n+1≤s.n
 rt:rd dIs s.h z=some (zHs q)
section
variable {H:Heap} {n:Nat} {q:Qu} {qa qb qc z:AV}
theorem zWg {q:Qu} {p:Int→Bool} {t:List Nd}:zGw q (wX p (vars q.items) t)=true:=by
 unfold zGw;rw[zJ];intro i hi;obtain⟨u1,u2,_⟩:=zGn hi;simp only[vars,zO]at u2;rw[decide_eq_true u1,decide_eq_true u2];rfl
theorem yS4 (hn:Fresh n H) (e1:deQ H (.g (xS q qa qb qc))=some q) (hq:q.items.length≤1000) (hw:xO q.wh) {k:Nat} (hk:k<(zHs q).length) (e:Nat→AV) (h1:Heap) (n2:Nat) (a:I43 H n q qa qb qc z k ⟨e,h1,n2⟩) {Q:Ex→St→Prop}
  (hQ:∀s',I43 H n q qa qb qc z (k+1) s'→Q .normal s') :
  awp (cx [3] (pfL yCm)) yMk Q ⟨e,h1,n2⟩:=by
 have a0:=a;obtain⟨q1,q3,q4,b1,ag,fr,nn,rt⟩:=a;simp only[]at q1 q3 q4 b1 ag fr nn rt;have e1':deQ h1 (.g (xS q qa qb qc))=some q:=zAp (zAh hn ag) e1;obtain⟨a',b',c',e0,x1,x2,x3⟩:=xP e1';cases e0;have hb1:h1 n=some ⟨[qa,.v (.int .i64 q.mode),.v (.int .i64 q.after),qb,.v (.int .i64 q.within),.v (.string q.par),qc],0,true,7⟩:=b1;have o1:=(zK x1).2.2.1;have o2:=(zK x2).2.2.1;have o3:=(zK x3).2.2.1;have o4:=(zK x1).2.2.2.1;have o5:=(zK x2).2.2.2.1;have o6:=(zK x3).2.2.2.1;obtain⟨s1,s2,s3,s4,s5⟩:=zK x2;have hmem:(zHs q)[k]∈zHs q:=zF hk;obtain⟨r,hr,hrk⟩:=xF.1 hmem;obtain⟨ht,hrl⟩:=zF0 hr;have T:=zC4 ht;have hwl:q.wh.length*64≤140737488355328:=hw;have hkl:(zHs q).length≤q.wh.length:=by
  have:=zK5 T (q.wh.length-1) (by have:=T.pos;omega)
  unfold zHs xR;rw[zO,if_pos ht];have:=T.pos;omega
 have hkw:=yF (j:=k) (by unfold big;omega)
 rcases zKe rt with ⟨h0,_⟩|⟨id,off,bk,rfl,hbk,ho,hat⟩
 ·rw[h0]at hk;simp at hk
 have hc:=hat k hk;rw[←hrk]at hc;have hw1:off+(k+1)≤bk.cells.length:=by omega
 have hrl':¬(q.wh.length:Int)≤(r:Int):=by omega
 have hr0:¬(r:Int)<0:=by omega
 have e1q:deQ h1 (.g [qa,.v (.int .i64 q.mode),.v (.int .i64 q.after),qb,.v (.int .i64 q.within),.v (.string q.par),qc])=some q:=e1';simp[evx,hdC,tlC,yP,yMk,Tryz.f43,q1,q3,q4,ii,hbk,hc,hw1,hk,hb1,yCm,s1,s2,s3,s4,hrl',hr0,o1,o2,o3];refine (xV (S:=[3]) (by simp) (c52 x2 ht hw hrl fr)).mono ?_
 rintro z h2 n3 ⟨a1,a2,a3,m2,rfl,hm,hm1,hm2⟩;have rs':rd dNs h2 (.s m2 0 0 (zAo q.wh r).length)=some (zAo q.wh r):=zBs Flat.nd hm rfl (r:=[]) (by simp)
 have hss:xO (zAo q.wh r):=by
  have h3:=zG6 (lo:=zOh q.wh) hrl (T.le r hrl);unfold xO zAo;rw[h3];exact xE (yW 64 (by omega)) hwl
 have eq2:=zAp (zAh fr a1) e1q;refine⟨zD4 (zHo fr a1),?_⟩;refine (xV (S:=[]) (by simp) (c49 eq2 rs' (by omega) hss a2)).mono ?_
 rintro z h3 n4 ⟨c1,c2,c3,y1,y2,y3,rfl,r1,r2,r3⟩;refine⟨zD4 (zHo a2 c1),?_⟩;have eq3:=zAp (zAh a2 c1) eq2;have hag3:agree n2 h1 h3:=yJ a1 c1 a3;have p1:=(zK r1).2.2.1;have p2:=(zK r2).2.2.1;have p3:=(zK r3).2.2.1;have hbl:(wX wS (vars q.items) (zAo q.wh r)).length≤q.items.length:=by
  unfold wX;refine xE (xY _ _) ?_;simp[vars]
 have hok:yOq (q,⟨wX wS (vars q.items) (zAo q.wh r),wX zC0 (vars q.items) (zAo q.wh r),wX zDe (vars q.items) (zAo q.wh r)⟩):=⟨by simp only[];unfold big;omega,by simp only[];unfold big;omega⟩
 have hnm:zVp [.g [qa,.v (.int .i64 q.mode),.v (.int .i64 q.after),qb,.v (.int .i64 q.within),.v (.string q.par),qc],.g [y1,y2,y3]] h3=⟨yOq (q,⟨wX wS (vars q.items) (zAo q.wh r),wX zC0 (vars q.items) (zAo q.wh r),wX zDe (vars q.items) (zAo q.wh r)⟩),bv true⟩:=by
  have d:rUz.run h3 (.g [y1,y2,y3])=some ⟨wX wS (vars q.items) (zAo q.wh r),wX zC0 (vars q.items) (zAo q.wh r),wX zDe (vars q.items) (zAo q.wh r)⟩:=zSs r1 r2 r3;have hv:zGw q (wX wS (vars q.items) (zAo q.wh r))=true:=zWg;simp only[zVp,yE,de2,rQ,eq3,d,zT,zM,hv]
 have b1':h3 n=_:=(hag3 n (by omega)).trans b1
 simp[evx,hnm,hok,bv,hkw];refine hQ _ ⟨by simp[up,q1],by simp[up,q3],by simp[up,ii],b1',yJ ag hag3 (by omega),c2,by simp only[];omega,?_⟩
 exact yS fr rt h3 hag3
def T43 (H:Heap) (n:Nat) (q:Qu) (qa qb qc:AV) (z:AV) (s:St):Prop:=∃k:Nat,k≤(zHs q).length∧I43 H n q qa qb qc z k s
theorem zYp (hw:xO q.wh):(zHs q).length≤q.wh.length:=by
 unfold zHs xR;rw[zO];split
 ·rename_i ht
  have T:=zC4 ht;have:=zK5 T (q.wh.length-1) (by have:=T.pos;omega)
  have:=T.pos;omega
 ·simp
theorem c43 (hn:Fresh n H) (e1:deQ H (.g (xS q qa qb qc))=some q) (hq:q.items.length≤1000) (hw:xO q.wh) :
  ACall (cx [3] (pfL yCm)) 43 [.g (xS q qa qb qc)] H n fun z h' n'=>z=bv true∧agree n H h'∧Fresh n' h'∧n≤n':=by
 refine yV (args:=[.g (xS q qa qb qc)]) (zA1 (zS P90 yH)) (zCm _ _) Tryz.func43 (c:=Tryz.f43.body.getD .skip) rfl (by kernel_rfl) (xM Tryz.func43 rfl rfl _ _) (show 1≤Tryz.f43.ntmps by decide +kernel) ?_
 obtain⟨a',b',c',e0,x1,x2,x3⟩:=xP e1;cases e0;have o2:=(zK x2).2.2.2.1;have o3:=(zK x3).2.2.2.1;obtain⟨s1,s2,s3,s4,s5⟩:=zK x1;have key:∀e:Nat→AV,e 0=.g (xS q qa qb qc)→awp (cx [3] (pfL yCm)) (Tryz.f43.body.getD .skip) (zA8 (cx [3] (pfL yCm)) Tryz.f43 fun z h' n'=>z=bv true∧agree n H h'∧Fresh n' h'∧n≤n') ⟨e,H,n⟩:=fun e q0=>by
  refine zX 2 _ _ (R:=fun s=>∃z,I43 H n q qa qb qc z 0 ⟨fun j=>if j=4 then ii 0 else s.e j,s.h,s.n⟩) ?_ fun e2 h2 n3 ⟨z,J⟩ => ?_
  ·simp[evx,hdC,Tryz.f43,q0,xS,ii,ss,o2,o3,s4,yCm]
   have ag0:∀B,agree n H (up H n B):=fun B=>(zC (by omega) _).2 (zE _ _)
   have fr0:∀B,Fresh (n+1) (up H n B):=fun B=>(zG (by omega) _).2 (hn.add 1)
   refine (xV (S:=[3]) (by simp) (c35 (yS hn x2 _ (ag0 _)) hw (fr0 _))).mono ?_
   rintro z h2 n2 ⟨a1,a2,a3,a4⟩;refine⟨z,by simp[up],by simp[up],by simp[ii],?_,yJ (ag0 _) a1 (by omega),a2,by simp only[];omega,yU (yFe _ _ _) a4⟩
   simp only[];rw[a1 n (by omega),zN];simp[xS,ii,ss]
  ·refine zX 1 _ _ (R:=fun s=>I43 H n q qa qb qc z (zHs q).length s) ?_ fun e6 h6 n7 J => ?_
   ·show awp _ (.seq (hdC 1 (hdC 1 (tlC 2 (Tryz.f43.body.getD .skip)))) (.block 0 (.loop yMk))) _ _
    have hb:awp (cx [3] (pfL yCm)) (.loop yMk) (zG8 0 (zAs (fun s=>I43 H n q qa qb qc z (zHs q).length s) (zA8 (cx [3] (pfL yCm)) Tryz.f43 fun z h' n'=>z=bv true∧agree n H h'∧Fresh n' h'∧n≤n'))) ⟨up e2 4 (ii 0),h2,n3⟩:=by
     refine yK (T43 H n q qa qb qc z) (fun s=>(zHs q).length-(s.e 4).i.toNat) ⟨0,zAz _,J⟩ ?_
     rintro e' h' n' ⟨k,hk,J⟩;have q4':e' 4=ii k:=J.q4;by_cases hlt:k<(zHs q).length
     ·refine yS4 hn e1 hq hw hlt _ _ _ J fun s' J'=>⟨⟨k+1,hlt,J'⟩,?_⟩
      have:=J'.q4;show (zHs q).length-(s'.e 4).i.toNat<(zHs q).length-(e' 4).i.toNat;rw[this,q4'];show (zHs q).length-((k+1:Nat):Int).toNat<(zHs q).length-((k:Nat):Int).toNat;omega
     ·obtain rfl:k=(zHs q).length:=by omega
      have q3':e' 3=z:=J.q3;obtain⟨t1,t2,t3,t4,t5⟩:=zK J.rt;simp[evx,hdC,tlC,yP,yMk,Tryz.f43,q3',q4',ii,t1,t2,t3,yCm];exact⟨by simp[up];exact J.q1,by simp[up];exact J.q3,by simp[up];exact J.q4,J.b1,J.ag,J.fr,J.nn,J.rt⟩
    simp[evx,hdC,tlC,Tryz.f43];exact hb
   ·simp[evx,tlC,Tryz.f43,bv]
    exact⟨J.ag,J.fr,by have:=J.nn;simp only[]at this;omega⟩
 exact key _ rfl
end
end
theorem yJy {X:Ctx} {r l:Code} {i:Nat} {I R:St→Prop} {Q:Ex→St→Prop} {s:St} (h1:awp X r (zAs I fun _ _=>False) s) (h2:∀e h n,I ⟨e,h,n⟩→awp X (.loop l) (fun y s=>y=.exit i∧R s) ⟨e,h,n⟩):awp X (.seq r (.block i (.loop l))) (zAs R Q) s:=by
 rw[zCf];refine zA5 _ (fun y s hy => ?_) h1
 cases y with
 | normal =>
  obtain⟨e,h,n⟩:=s;rw[wL]at hy;rw[wL,zAe];refine zA5 _ (fun y s hy => ?_) (h2 e h n hy)
  obtain⟨rfl,hr⟩:=hy;rw[zBf,if_pos rfl,wL];exact hr
 | exit i=>exact (by simp[zGq]at hy:False).elim
 | ret=>exact (by simp[zBx]at hy:False).elim
theorem zMe {X:Ctx} {r l:Code} {i:Nat} {I R:St→Prop} {Q:Ex→St→Prop} {s:St} (h1:awp X r (zAs I fun _ _=>False) s) (h2:∀e h n,I ⟨e,h,n⟩→awp X (.loop l) (zG8 i (zAs R Q)) ⟨e,h,n⟩):awp X (.seq r (.block i (.loop l))) (zAs R Q) s:=by
 rw[zCf];refine zA5 _ (fun y s hy => ?_) h1
 cases y with
 | normal =>
  obtain⟨e,h,n⟩:=s;rw[wL]at hy;rw[wL,zAe];exact h2 e h n hy
 | exit i=>exact (by simp[zGq]at hy:False).elim
 | ret=>exact (by simp[zBx]at hy:False).elim
section
def spE (q:Qu) (b:List (List Ev)) (i j:Nat):List Ev:=if (itA q j).neg=true then []else if rk q j<i then b.getD (rk q j) []else []
theorem yFr {q:Qu} {b:List (List Ev)} {i j:Nat} (h:rk q j≠i):spE q b (i+1) j=spE q b i j:=by
 unfold spE;split
 ·rfl
 ·by_cases h1:rk q j<i
  ·rw[if_pos h1,if_pos (by omega)]
  ·rw[if_neg h1,if_neg (by omega)]
noncomputable def yGm:Code:=yP (hdC 1 (tlC 2 (Tryz.f23.body.getD .skip)))
noncomputable def yO9:Code:=inB (hdC 1 (tlC 2 yGm))
structure I23 (H:Heap) (n:Nat) (p:Pt) (q:Qu) (ba:AV) (b:List (List Ev)) (w:Nat) (i:Nat) (s:St):Prop where
 q1:s.e 1=ba
 q5:s.e 5=.s w 0 0 q.items.length
 q14:s.e 14=p.ca
 q15:s.e 15=ii (zBl q q.items.length).length
 q16:s.e 16=ii i
 ag:agree n H s.h
 fr:Fresh s.n s.h
 nn:n+1≤s.n
 wl:n+1≤w∧w<s.n
 ow:∃cs,s.h w=some ⟨cs,0,true,1⟩∧cs.length=q.items.length∧∀j,j<q.items.length→∃c,cs[j]? = some c∧rd dEs (up s.h w none) c=some (spE q b i j)
section
variable {H:Heap} {n:Nat} {sc:List Ty} {q:Qu} {p:Pt} {ba:AV} {b:List (List Ev)} {w:Nat}
theorem yTb (W:Wf sc q) (pl:PlR H p (yQ sc q)) (hn:Fresh n H) (rb:rd zDd H ba=some b) (hbl:∀l∈b,l.length≤2199023255552) {i:Nat} (hi:i<(zBl q q.items.length).length) (s:St) (a:I23 H n p q ba b w i s) {Q:Ex→St→Prop}
  (hQ:∀s',I23 H n p q ba b w (i+1) s'→Q .normal s') :
  awp (cx [] (pfL [])) yGm Q s:=by
 obtain⟨e,h,n2⟩:=s;have a0:=a;obtain⟨q1,q5,q14,q15,q16,ag,fr,nn,⟨w1,w2⟩,cs,hb,hcl,hcs⟩:=a;simp only[]at q1 q5 q14 q15 q16 ag fr nn w2 hb hcs;have hpm:(zBl q q.items.length)[i]∈zBl q q.items.length:=zF hi;obtain⟨ilt,ing⟩:=posI_mem.1 hpm;have hrk:rk q (zBl q q.items.length)[i]=i:=by
  obtain⟨k1,k2⟩:=zY.1 (zF2 ilt ing);exact zUj (zSg q q.items.length) k1 hi k2
 have hpc:=zC9 (sc:=sc) ilt ing;rw[show (zBl q (zBl q q.items.length)[i]).length=i from hrk]at hpc
 have hpl:(yQ sc q).comps.length=(zBl q q.items.length).length:=zCw;have hic:i<(yQ sc q).comps.length:=by rw[hpl];exact hi
 obtain⟨id,off,k,ty,ow,cn,hu,hk,ho,r1,r2,r3,t0,t1,t2,t3,t4,t5⟩:=zK7 pl.cm hic;rw[zA hic]at hpc;have hitem:(yQ sc q).comps[i].item=((zBl q q.items.length)[i]:Nat):=by rw[Option.some.inj hpc];rfl
 rw[hitem]at t0;generalize hj0:(zBl q q.items.length)[i]=j0 at *;have hk2:h id=some k:=(ag _ (xI hk hn)).trans hk;have v1:=(zK r1).2.2.2.1;have v2:=(zK r2).2.2.2.1;have v3:=(zK r3).2.2.2.1;rw[hpl]at hu;generalize (yQ sc q).comps[i]=cm at *;have n10:=W.n1;have hpn:=zLm q q.items.length;have hwi:=yF (j:=i) (by unfold big;omega)
 have hic':off+(i*6+6)≤k.cells.length:=ho;obtain⟨c1,c2,c3,c4,c5⟩:=zK rb;have hwid:¬id=n2:=by have:=xI hk hn;omega
 have hj0':¬(j0:Int)<0:=by omega
 simp only[ii]at t0 t2 t3;refine zX 2 _ _ (R:=fun s=>s.h=h∧s.n=n2∧(∀j∈[1,5,14,15,16],s.e j=e j)) ?_ ?_
 ·simp[evx,hdC,tlC,yGm,yP,Tryz.f23,q15,q16,ii,hi]
  done
 rintro e1 h1 n3 ⟨k0,k1,k2⟩;simp only[]at k0 k1 k2;subst k0 k1;have p1:=(k2 1 (by simp)).trans q1
 have p5:=(k2 5 (by simp)).trans q5
 have p14:=(k2 14 (by simp)).trans q14
 have p15:=(k2 15 (by simp)).trans q15
 have p16:=(k2 16 (by simp)).trans q16
 show awp _ (.seq (.block 1 yO9) (tlC 3 yGm)) _ _;rw[zCf,zAe];by_cases hm:i<b.length
 ·obtain⟨bid,boff,bk,c,rfl,hbk,bho,bc,brd⟩:=zEa rb hm
  have hbk':h1 bid=some bk:=(ag _ (xI hbk hn)).trans hbk;have bw1:boff+(i+1)≤bk.cells.length:=by omega
  have hbn:¬bid=n3:=by have:=xI hbk hn;omega
  obtain⟨u1,u2,u3,u4,u5⟩:=zK brd;have hgl:b.getD i []=b[i]:=by rw[zB,zA hm];rfl
  have hlb:(b.getD i []).length≤2199023255552:=by rw[hgl];exact hbl _ (zF hm)
  have hz1:¬w=n3:=by omega
  clear hgl;obtain⟨l,hbl2⟩:∃l,l=b.getD i []:=⟨_,rfl⟩;rw[←hbl2]at brd u2 hlb;have hq:(j0:Int)<(q.items.length:Int):=by omega
  have fin:∀(e':Nat→AV) (h':Heap) (n':Nat) (z:AV),(∀j∈[1,5,14,15],e' j=e1 j)→e' 16=ii (i+1:Nat)→Fresh n' h'→n3≤n'→(∀y,y<n3→y≠w→h' y=h1 y)→h' w=some ⟨cs.set j0 z,0,true,1⟩→rd dEs (up h' w none) z=some (l)→I23 H n p q (.s bid bk.ver boff b.length) b w (i+1) ⟨e',h',n'⟩:=fun e' h' n' z x1 x2 x3 x4 x5 x6 x7=>by
   refine⟨(x1 1 (by simp)).trans p1,(x1 5 (by simp)).trans p5,(x1 14 (by simp)).trans p14,(x1 15 (by simp)).trans p15,x2,fun y hy => ?_,x3,by simp only[];omega,⟨w1,by simp only[];omega⟩,cs.set j0 z,x6,by rw[zB1];exact hcl,fun j hj => ?_⟩
   ·simp only[];rw[x5 y (by omega) (by omega)];exact ag y hy
   ·by_cases hjj:j=j0
    ·subst hjj
     refine⟨z,by rw[zCu (by omega)],?_⟩
     have hsp:spE q b (i+1) j=l:=by unfold spE;rw[ing,hrk,if_neg (by simp),if_pos (by omega),hbl2]
     rw[hsp];exact x7
    ·obtain⟨c',k1,k2⟩:=hcs j hj
     refine⟨c',by rw[zA0 (Ne.symm hjj)];exact k1,?_⟩
     have hne:rk q j≠i∨(itA q j).neg=true:=by
      cases hng:(itA q j).neg with
      | true=>exact .inr rfl
      | false =>
       refine .inl fun he=>hjj ?_
       have h5:=zF2 (N:=q.items.length) hj hng;have h6:=zF2 (N:=q.items.length) ilt ing;rw[he,←hrk,h6]at h5;exact (Option.some.inj h5).symm
     have hsp:spE q b (i+1) j=spE q b i j:=by
      rcases hne with h|h
      ·exact yFr h
      ·unfold spE;rw[h];rfl
     rw[hsp];exact yU (zQ3 (n:=n3) fr x5) k2
  simp[evx,hdC,tlC,yO9,yGm,inB,yP,Tryz.f23,p1,p5,p14,p15,p16,ii,hu,hk2,ho,t0,t1,t2,t3,t4,t5,v1,v2,v3,zHm,hi,hm,hwid,c1,c2,hj0',ilt,hbk',hbn,bc,bw1,hq];have hfr2:∀B1 B2,Fresh (n3+2) (up (up h1 n3 B1) n3 B2):=fun B1 B2=>(zG (by omega) _).2 ((zG (by omega) _).2 (fr.add 2))
  have hag2:∀B1 B2,agree n3 h1 (up (up h1 n3 B1) n3 B2):=fun B1 B2=>by simp[zC,zE]
  have brd2:∀B1 B2,rd dEs (up (up h1 n3 B1) n3 B2) c=some (l):=fun B1 B2=>yS hn brd _ (yJ ag (hag2 _ _) (by omega))
  refine (xV (S:=[]) (by simp) (c75 (d:=dEv) (brd2 _ _) hlb (hfr2 _ _))).mono ?_
  rintro z h3 n4 hz;obtain⟨cs0,d1,d2,d3⟩:=zN6 hn brd;rcases hz with ⟨hl0,rfl,rfl,rfl⟩|⟨hl0,rfl,rfl,rfl⟩
  ·refine⟨zD4 (Heap.le_refl _),?_⟩
   have hb0:l=[]:=zU hl0;simp[evx,hb,hz1,hcl,hq,ilt,hwi,hj0'];refine⟨by omega,hQ _ (fin _ _ _ (.v (.slice none 0 0)) (by simp[up]) (by simp[up,ii]) ?_ (by omega) (fun y y1 y2 => ?_) (zN _ _ _) ?_)⟩
   ·exact (zG (by omega) _).2 ((hfr2 _ _).add 1)
   ·rw[zP _ _ y2,zP _ _ (by omega),zP _ _ (by omega)]
   ·rw[hb0];rfl
  ·refine⟨zD4 (zHo (hfr2 _ _) ((zC (zD _) _).2 (zE _ _))),?_⟩
   simp[evx,hb,hz1,hcl,hq,ilt,hwi,hj0',show ¬w=n3+2 by omega]
   refine⟨by omega,hQ _ (fin _ _ _ (.s (n3+2) 0 0 (l).length) (by simp[up]) (by simp[up,ii]) ?_ (by omega) (fun y y1 y2 => ?_) ?_ ?_)⟩
   ·exact (zG (by omega) _).2 ((zG (by omega) _).2 ((hfr2 _ _).add 3))
   ·rw[zP _ _ y2,zP _ _ (by omega),zP _ _ (by omega),zP _ _ (by omega)]
   ·simp[up]
   ·have hagz:∀B1 B2 B3 B4,agree n H (up (up (up (up (up h1 n3 B1) n3 B2) (n3+2) B3) w B4) w none):=fun B1 B2 B3 B4=>by simp[zC,ag,show n≤n3 by omega,show n≤n3+2 by omega,show n≤w by omega]
    refine d3 _ (n3+2) 0 true [] (hagz _ _ _ _) ?_;rw[zP _ _ (by omega),zP _ _ (by omega),zN,List.append_nil,(d1 _ (yJ ag (hag2 _ _) (by omega))).2]
 ·simp[evx,hdC,tlC,yO9,yGm,inB,yP,Tryz.f23,p1,p5,p14,p15,p16,ii,hu,hk2,ho,t0,t1,t2,t3,t4,t5,v1,v2,v3,zHm,hi,hm,hwid,c1,c2,hj0',ilt,hwi]
  have hb0:b.getD i []=[]:=by rw[zB,zL (by omega)];rfl
  have hsp:∀j,spE q b (i+1) j=spE q b i j:=fun j=>by
   by_cases h:rk q j=i
   ·unfold spE
    rw[h,hb0];split
    ·rfl
    ·simp
   ·exact yFr h
  refine hQ _ ⟨by simp[up,p1],by simp[up,p5],by simp[up,p14],by simp[up,p15],by simp[up,ii],by simp[zC,ag,show n≤n3 by omega],by simp[zG,fr.add],by simp only[];omega,⟨w1,by simp only[];omega⟩,cs,?_,hcl,fun j hj => ?_⟩
  ·simp only[];rw[zP _ _ (by omega),zP _ _ (by omega)];exact hb
  ·obtain⟨c',k1,k2⟩:=hcs j hj
   refine⟨c',k1,?_⟩;rw[hsp];exact yU (zQ3 (n:=n3) fr fun y y1 y2=>by simp only[];rw[zP _ _ (by omega),zP _ _ (by omega)]) k2
theorem zTx:∀N:Nat,repZ [Value.slice none 0 0] N=List.replicate N (.v (.slice none 0 0))
 | 0=>rfl
 | N+1=>by rw[repZ,zTx N];rfl
theorem c23 (x:Ev) (W:Wf sc q) (pl:PlR H p (yQ sc q)) (hn:Fresh n H) (rb:rd zDd H ba=some b) (hbl:∀l∈b,l.length≤2199023255552) :
  ACall (cx [] (pfL [])) 23 [.g (xT p (yQ sc q)),ba] H n fun z h' n'=>agree n H h'∧Fresh n' h'∧n≤n'∧rd zDd h' z=some (byV q b (-1) x):=by
 refine yV (args:=[.g (xT p (yQ sc q)),ba]) (zA1 yH) (zCm _ _) Tryz.func23 (c:=Tryz.f23.body.getD .skip) rfl (by kernel_rfl) (xM Tryz.func23 rfl rfl _ _) (show 2≤Tryz.f23.ntmps by decide +kernel) ?_
 obtain⟨o1,o2,o3,o4,o5,o6,o7,o8,o9,o10⟩:=pl.is;obtain⟨s1,s2,s3,s4,s5⟩:=zK pl.cm;have hpl:(yQ sc q).comps.length=(zBl q q.items.length).length:=zCw;rw[hpl]at s2;have pq:rd zH9 H p.qa=some q.items:=pl.qa;obtain⟨t1,t2,t3,t4,t5⟩:=zK pq;obtain⟨u1,u2,u3,u4,u5⟩:=zK rb;have n10:=W.n1;have key:∀e:Nat→AV,e 0=.g (xT p (yQ sc q))→e 1=ba→awp (cx [] (pfL [])) (Tryz.f23.body.getD .skip) (zA8 (cx [] (pfL [])) Tryz.f23 fun z h' n'=>agree n H h'∧Fresh n' h'∧n≤n'∧rd zDd h' z=some (byV q b (-1) x)) ⟨e,H,n⟩:=fun e q0 q1=>by
  refine zX 2 _ _ (R:=fun s=>s.e 1=ba∧s.e 2=.p n 0 0∧s.e 5=.s (n+1) 0 0 q.items.length∧s.h n=some ⟨xT p (yQ sc q),0,true,16⟩∧agree n H s.h∧Fresh s.n s.h∧n+2≤s.n∧s.h (n+1)=some ⟨List.replicate q.items.length (.v (.slice none 0 0)),0,true,1⟩) ?_ fun e2 h2 n2 ⟨k1,k2,k5,kb,kag,kfr,knn,kw⟩ => ?_
  ·generalize yQ sc q=P at *
   have hl8:(8:Int)*(q.items.length:Int)≤281474976710656:=by omega
   simp[evx,hdC,Tryz.f23,q0,q1,xT,ii,ss,bv,o1,o2,o3,o4,o5,o6,o7,o8,o9,o10,t1,t2,zTx];exact⟨⟨by omega,by omega⟩,by simp[zC,zE],(zG (by omega) _).2 ((zG (by omega) _).2 (hn.add 2))⟩
  refine zX 1 _ _ (R:=fun s=>∃i,i=(zBl q q.items.length).length∧I23 H n p q ba b (n+1) i s) ?_ fun e4 h4 n4 ⟨i,hi,J⟩ => ?_
  ·show awp _ (.seq (hdC 1 (hdC 1 (tlC 2 (Tryz.f23.body.getD .skip)))) (.block 0 (.loop yGm))) _ _
   refine yJy (I:=fun s=>I23 H n p q ba b (n+1) 0 s) ?_ fun e h' n' K => ?_
   ·simp only[]at k1 k2 k5 kb kag kfr knn kw
    simp only[xT,ii,ss,bv]at kb;simp[evx,hdC,tlC,Tryz.f23,k2,kb,s1,s2,ii];refine⟨by simp[up,k1],by simp[up,k5],by simp[up],by simp[up,ii],by simp[up,ii],kag,kfr,by simp only[];omega,⟨by omega,by simp only[];omega⟩,_,kw,by simp,fun j hj=>⟨.v (.slice none 0 0),by simp[hj],?_⟩⟩
    have:spE q b 0 j=[]:=by unfold spE;split<;>simp
    rw[this];rfl
   ·refine yK (fun s=>∃i,i≤(zBl q q.items.length).length∧I23 H n p q ba b (n+1) i s) (fun s=>(zBl q q.items.length).length-(s.e 16).i.toNat) ⟨0,zAz _,K⟩ ?_
    rintro e' h' n' ⟨i,hi,J⟩;have h2:e' 16=ii i:=J.q16;by_cases hlt:i<(zBl q q.items.length).length
    ·refine yTb W pl hn rb hbl hlt _ J fun s' J'=>⟨⟨i+1,hlt,J'⟩,?_⟩
     have h1:=J'.q16;show (zBl q q.items.length).length-(s'.e 16).i.toNat<(zBl q q.items.length).length-(e' 16).i.toNat;rw[h1,h2];show (zBl q q.items.length).length-((i+1:Nat):Int).toNat<(zBl q q.items.length).length-((i:Nat):Int).toNat;omega
    ·obtain rfl:i=(zBl q q.items.length).length:=by omega
     obtain⟨q1,q5,q14,q15,q16,ag,fr,nn,⟨w1,w2⟩,ow⟩:=J;simp only[]at q1 q5 q14 q15 q16 ag fr nn w2 ow;simp[evx,hdC,tlC,yGm,yP,Tryz.f23,q15,q16,ii];exact⟨by simp[up,q1],by simp[up,q5],by simp[up,q14],by simp[up,q15,ii],by simp[up,q16,ii],ag,fr,nn,⟨w1,w2⟩,ow⟩
  subst hi;obtain⟨q1,q5,q14,q15,q16,ag,fr,nn,⟨w1,w2⟩,cs,hb,hcl,hcs⟩:=J;simp only[]at q1 q5 q14 q15 q16 ag fr nn w2 hb hcs;have hbyl:(byV q b (-1) x).length=q.items.length:=by simp[byV]
  simp[evx,tlC,Tryz.f23,q5];refine⟨ag,fr,by omega,?_⟩
  have:=De.sl_in (a:=dEs) (sz:=1) (off:=0) (xs:=byV q b (-1) x) hb (by simp only[];omega) fun i hi=>by
   obtain⟨c,k1,k2⟩:=hcs i (by omega)
   have hle:Heap.le (up h4 (n+1) none) h4:=fun i1 k4 h4'=>by
    by_cases hi1:i1=n+1
    ·subst hi1;rw[zN]at h4';cases h4'
    ·rw[zP _ _ hi1]at h4';exact h4'
   have hv:(byV q b (-1) x)[i]=spE q b (zBl q q.items.length).length i:=by
    have hil:i<q.items.length:=by omega
    have h0:¬(i:Int)=-1:=by omega
    simp only[byV,wZ,List.getElem_range,byE,spE];cases hng:(itA q i).neg with
    | true=>simp[h0]
    | false =>
     have h5:=(zY.1 (zF2 (N:=q.items.length) hil hng)).1;simp[h5]
   rw[hv,←yU hle k2];show dEs.run h4 _=dEs.run h4 [c];congr 1;rw[xA,wA];rw[wC (by simp only[];omega)]
   have:=(zY.1 k1).2;simp[this]
  rw[hbyl]at this
  exact this
 exact key _ rfl rfl
end
end
structure Evr where
 sc:List Ty
 t:List Nd
 its:List Int
 en:En
def yAy (h:Heap):List AV→Option Evr
 | [a,b,c,d,.v (.int .i64 each),.v (.int .i64 pos)]=>match rd zD8 h a,rd dNs h b,rd dIs h c,rd zDd h d with
  | some x,some y,some z,some w=>some ⟨x,y,z,⟨w,each,pos⟩⟩
  | _,_,_,_=>none
 | _=>none
theorem yAx {h:Heap} {l:List AV} {q:Evr} (e:yAy h l=some q):∃a b c d,l=[a,b,c,d,ii q.en.each,ii q.en.pos]∧rd zD8 h a=some q.sc∧rd dNs h b=some q.t∧rd dIs h c=some q.its∧rd zDd h d=some q.en.ls:=by
 unfold yAy at e;split at e
 ·split at e
  ·rename_i e1 e2 e3 e4
   cases e;exact⟨_,_,_,_,rfl,e1,e2,e3,e4⟩
  ·cases e
 ·cases e
theorem yEn {h:Heap} {a b c d:AV} {q:Evr} (h1:rd zD8 h a=some q.sc) (h2:rd dNs h b=some q.t) (h3:rd dIs h c=some q.its) (h4:rd zDd h d=some q.en.ls):yAy h [a,b,c,d,.v (.int .i64 q.en.each),.v (.int .i64 q.en.pos)]=some q:=by
 simp only[yAy,h1,h2,h3,h4]
def zH8 (h:Heap):AV→Option Evr
 | .p id v 0=>match h id with
  | some k=>if k.ver=v then yAy h k.cells else none
  | none=>none
 | _=>none
theorem zIz {h:Heap} {x:AV} {q:Evr} (e:zH8 h x=some q):∃id a b c d ver own esz,x=.p id ver 0∧h id=some ⟨[a,b,c,d,.v (.int .i64 q.en.each),.v (.int .i64 q.en.pos)],ver,own,esz⟩∧rd zD8 h a=some q.sc∧rd dNs h b=some q.t∧rd dIs h c=some q.its∧rd zDd h d=some q.en.ls:=by
 unfold zH8 at e;split at e
 ·split at e
  ·rename_i k hk
   split at e
   ·rename_i hv
    obtain⟨a,b,c,d,h1,h2,h3,h4,h5⟩:=yAx e;obtain⟨cells,ver,own,esz⟩:=k;simp only[]at h1 hv;subst h1;subst hv;exact⟨_,a,b,c,d,_,own,esz,rfl,hk,h2,h3,h4,h5⟩
   ·cases e
  ·cases e
 ·cases e
theorem zU7 {h:Heap} {id ver:Nat} {own:Bool} {esz:Nat} {a b c d:AV} {q:Evr} (hk:h id=some ⟨[a,b,c,d,.v (.int .i64 q.en.each),.v (.int .i64 q.en.pos)],ver,own,esz⟩) (h1:rd zD8 h a=some q.sc) (h2:rd dNs h b=some q.t) (h3:rd dIs h c=some q.its) (h4:rd zDd h d=some q.en.ls):zH8 h (.p id ver 0)=some q:=by
 simp only[zH8,hk,if_true,yEn h1 h2 h3 h4]
theorem zIy {h h':Heap} (hh:h.sim h') {x:AV} {q:Evr} (e:zH8 h x=some q):zH8 h' x=some q:=by
 obtain⟨id,a,b,c,d,ver,own,esz,rfl,hk,r1,r2,r3,r4⟩:=zIz e;obtain⟨⟨cells,ver',own',esz'⟩,hk',h1,h2⟩:=hh _ _ hk;simp only[]at h1 h2;subst h1;subst h2;exact zU7 hk' (zAb hh r1) (zAb hh r2) (zAb hh r3) (zAb hh r4)
theorem zQ8 {h:Heap} {n:Nat} {a:AV} {x:Evr} (hn:∀i,n≤i→h i=none) (e:zH8 h a=some x):∀h',agree n (roH h) h'→zH8 h' a=some x:=fun _ ha=>zIy (zEu hn ha) e
def zYl (sc:List Ty) (l:List Ev):Prop:=zB9 sc∧l.length<big
def zI1 (h:Heap):List AV→Option (Evr×List Ev×Int×ByteArray)
 | [p,a,.v (.int .i64 x),.v (.string s)]=>match zH8 h p,rd dEs h a with
  | some q,some l=>some (q,l,x,s)
  | _,_=>none
 | _=>none
theorem zL8 {h:Heap} {args:List AV} {q:Evr×List Ev×Int×ByteArray} (e:zI1 h args=some q):∃p a,args=[p,a,ii q.2.2.1,ss q.2.2.2]∧zH8 h p=some q.1∧rd dEs h a=some q.2.1:=by
 unfold zI1 at e;split at e
 ·split at e
  ·rename_i e1 e2
   cases e;exact⟨_,_,rfl,e1,e2⟩
  ·cases e
 ·cases e
theorem zWw (h h':Heap) (args:List AV) (q:Evr×List Ev×Int×ByteArray) (hh:h.le h') (e:zI1 h args=some q):zI1 h' args=some q:=by
 obtain⟨p,a,rfl,e1,e2⟩:=zL8 e;simp only[zI1,ii,ss,zIy hh.sim e1,yU hh e2]
def yBr:=yE zI1 (fun q=>zYl q.1.sc q.2.1) fun q=>vv (zHw q.2.1 q.2.2.1 (zC7 q.1.sc q.2.2.2))
def yKw:List (FuncId×(List AV→Heap→PRes)):=[(116,GAt),(212,yLv)]
theorem yP9:P0 [] 195 yBr:=by
 refine mkH 4 (S:=[]) (l:=yKw) (zS yM2 (zS yPr yH)) Tryz.func195 rfl (by kernel_rfl) zWw (fun h l x e=>by obtain⟨p,a,rfl,_⟩:=zL8 e;exact zD _) (fun a=>rfl) (fun args q h n e hp hn => ?_)
 obtain⟨q,l,i,attr⟩:=q;obtain⟨p,a,rfl,e1,e2⟩:=zL8 e;simp only[]at e1 e2 ⊢;obtain⟨hp1,hp2⟩:=hp;simp only[]at hp1 hp2;obtain⟨id',c1,c2,c3,c4,ver',own',esz',rfl,hk',r1,r2,r3,r4⟩:=zIz e1;obtain⟨s1,s2,s3,s4,s5⟩:=zK e2;obtain⟨t1,t2,t3,t4,t5⟩:=zK r1;by_cases hi:i<0
 ·simp[evw,ii,vv,yH5 _ hi,unk,hi,s1,s2,s3]
 obtain⟨j,rfl⟩:∃j:Nat,i=j:=⟨i.toNat,by omega⟩
 by_cases hj:j<l.length
 ·rcases yEc e2 with ⟨h0,_⟩|⟨id,off,k,rfl,hk,ho,hat⟩
  ·rw[h0]at hj;simp at hj
  have hr:=hat j hj;have hro:=zDv hk;have h0:=zFn hk hn 0;have hro':=zDv hk';have h0':=zFn hk' hn 0;simp only[yO]at h0 h0' hro';have hle:∀(X:Ctx) (h':Heap),h' id=some ⟨k.cells,k.ver,false,k.esz⟩→ldcs X h' (.p id k.ver (off+j*11)) 0 11=zAk l[j]:=fun X h' e=>zZ0 e hr
  have hw:off+(j*11+11)≤k.cells.length:=by omega
  have hw2:off+(j*11+3)≤k.cells.length:=by omega
  have hty:=yG (c:=2) hr rfl (by omega)
  rw[xD]at hty;have hj':¬l.length≤j:=by omega
  have gsc:∀h',agree n (roH h) h'→zHj h' (.g [c1])=some q.sc:=fun h' ha=>xL hn r1 h' ha
  have hv:=yH6 (sc:=q.sc) (name:=attr) hj;rw[hv];generalize l[j]=ev1 at *;simp[evw,ii,ss,vv,hj,hj',hro,h0,hro',h0',hle,hw,hw2,hty,yKw,GAt,yE,zXo,gsc,zC,zE,hp1,yLv,zFi,zNo,deI]
 ·have hj':l.length≤j:=by omega
  simp[evw,ii,vv,yDj _ (show (l.length:Int)≤(j:Int) by omega),unk,hj',s1,s2,s3]
def okF (sc:List Ty) (l:List Ev):Prop:=zB9 sc∧l.length≤2147483647∧∀e∈l,zGg e
def zRf (h:Heap):List AV→Option (Evr×List Ev×Nd)
 | [p,a,x]=>match zH8 h p,rd dEs h a,deN x with
  | some q,some l,some x=>some (q,l,x)
  | _,_,_=>none
 | _=>none
theorem zL7 {h:Heap} {args:List AV} {q:Evr×List Ev×Nd} (e:zRf h args=some q):∃p a,args=[p,a,nn q.2.2]∧zH8 h p=some q.1∧rd dEs h a=some q.2.1:=by
 unfold zRf at e;split at e
 ·split at e
  ·rename_i e1 e2 e3
   cases e;exact⟨_,_,by rw[zSv e3],e1,e2⟩
  ·cases e
 ·cases e
theorem zWv (h h':Heap) (args:List AV) (q:Evr×List Ev×Nd) (hh:h.le h') (e:zRf h args=some q):zRf h' args=some q:=by
 obtain⟨p,a,rfl,e1,e2⟩:=zL7 e;simp only[zRf,zIy hh.sim e1,yU hh e2,nn,yL8]
def yNb:=yE zRf (fun q=>okF q.1.sc q.2.1) fun q=>vv (yBm q.2.1 (zC7 q.1.sc q.2.2.attr) q.2.2.op)
def zP4:List (FuncId×(List AV→Heap→PRes)):=[(195,yBr),(213,g33)]
theorem yTz:P0 [1] 196 yNb:=by
 refine mkH 3 (S:=[1]) (l:=zP4) (zS yP9 (zS p33 yH)) Tryz.func196 rfl (by kernel_rfl) zWv (fun h l x e=>by obtain⟨p,a,rfl,_⟩:=zL7 e;exact zD _) (fun a=>rfl) (fun args q h n e hp hn => ?_)
 obtain⟨v,l,⟨op,num,var,attr,xa,xb⟩⟩:=q;obtain⟨p,a,rfl,e0,e1⟩:=zL7 e;obtain⟨hsc,hl,hev⟩:=hp;simp only[]at e0 e1 hsc hl hev ⊢;obtain⟨s1,s2,s3,s4,s5⟩:=zK e1;have g0:=zQ8 hn e0;have g1:=xL hn e1;obtain⟨id',c1,c2,c3,c4,ver',own',esz',hpp,_⟩:=zIz e0;have p1:p.one∧(∀g,AV.unc g p=p)∧p.cells=[p]∧p.isPtr:=by rw[hpp];exact⟨trivial,fun _=>rfl,rfl,trivial⟩
 obtain⟨p1,p2,p3,p4⟩:=p1;generalize hc':zC7 v.sc attr=c' at *;have key:∀e:Nat→AV,e 0=p→e 1=a→e 2=nn ⟨op,num,var,attr,xa,xb⟩→awp (cx [1] (pfL zP4)) (Tryz.f196.body.getD .skip) (zA8 (cx [1] (pfL zP4)) Tryz.f196 fun z _ _=>z=vv (yBm l c' op)) ⟨e,roH h,n⟩:=fun e q0 q1 q2=>by
  simp[evx,Tryz.f196,q0,q1,q2,nn,yA,ii,ss,s1,s2,s3];refine yK (fun s=>∃j,j≤l.length∧s.e 0=p∧s.e 1=a∧s.e 5=.p n 0 0∧s.e 6=.p (n+1) 0 0∧Own s.h (n+2) s.n (s.e 7) j ((zJa l c' j).map ii) 1∧s.e 10=a∧s.e 11=ii l.length∧s.e 12=ii j∧agree n (roH h) s.h∧s.h n=some ⟨[ii op,ii num,ss var,ss attr,ii xa,ii xb],0,true,6⟩∧s.h (n+1)=some ⟨[.v (.bool false),.v (.int .i64 0)],0,true,2⟩∧n+2≤s.n∧zDk l c' j=true) (fun s=>l.length-(s.e 12).i.toNat) ⟨0,by simp[up,q0,q1,q2,ii,ss,zC,zE,zJa,zDk,Own]⟩ ?_
  rintro e' h' n' ⟨j,hj,q0,q1,q5,q6,hown,q10,q11,q12,hag,hb,hr,hnn,hkn⟩;simp only[]at q0 q1 q5 q6 hown q10 q11 q12 hag hb hr hnn;have f1:n≤n':=by omega
  have f2:n≤n'+1:=by omega
  have f3:n≤n'+2:=by omega
  have f4:n≤n'+3:=by omega
  have z1:¬n=n':=by omega
  have z2:¬n=n'+1:=by omega
  have z3:¬n=n'+2:=by omega
  have z4:¬n=n'+3:=by omega
  have w1:¬n+1=n':=by omega
  have w2:¬n+1=n'+1:=by omega
  have w3:¬n+1=n'+2:=by omega
  have w4:¬n+1=n'+3:=by omega
  by_cases hlt:j<l.length
  ·have hw:=yF (j:=j) (by unfold big;omega)
   have hsm:zYl v.sc l:=⟨hsc,by simp only[big];omega⟩
   have hcn:=zRk l c' j;have hcl:((zJa l c' j).map ii).length=j:=by rw[zO,zK6]
   generalize hx:zHw l (j:Int) c'=x at *;generalize (zJa l c' j).map ii=cs at *;have hb3:(j+1)*8≤140737488355328:=by omega
   have hb4:j+1≤9223372036854775807:=by omega
   cases hxk:x.k with
   | false =>
    have ha:=yGp op hlt (by rw[hx];exact hxk)
    have hu:x=unk:=by rw[←hx];exact zT7 (by rw[hx];exact hxk)
    subst hu;simp[evx,q0,q1,q5,q6,q10,q11,q12,ii,ss,hlt,zP4,yBr,yE,zI1,g0,g1,hag,zC,f1,f2,f3,hsm,hc',hx,vv,unk,z1,z2,z3,z4,w1,w2,w3,w4,hb,hr,ha,p1,p2,p3,p4]
   | true =>
    rcases hown with ⟨hj0,hnil,q7⟩|⟨w,u,q7,hk,hw1,hw2⟩
    ·simp[evx,q0,q1,q5,q6,q7,q10,q11,q12,ii,ss,hlt,zP4,yBr,yE,zI1,g0,g1,hag,zC,f1,f2,f3,f4,hsm,hc',hx,vv,unk,z1,z2,z3,z4,w1,w2,w3,w4,hb,hr,hxk,hb3,hb4,hw,p1,p2,p3,p4]
     exact⟨⟨j+1,by omega,.inr ⟨n'+3,0,by rw[hj0],by rw[zN,hcn,hnil];rfl,by omega,by omega⟩,by omega,by rw[zE2,hkn,hx,hxk];rfl⟩,by omega⟩
    ·have y1:¬w=n':=by omega
     have y2:¬w=n'+1:=by omega
     have y3:¬w=n'+2:=by omega
     have y4:n≤w:=by omega
     have y5:¬n=w:=by omega
     have y6:¬n+1=w:=by omega
     simp[evx,q0,q1,q5,q6,q7,q10,q11,q12,ii,ss,hlt,zP4,yBr,yE,zI1,g0,g1,hag,zC,f1,f2,f3,f4,hsm,hc',hx,vv,unk,z1,z2,z3,z4,w1,w2,w3,w4,hb,hr,hk,hxk,hcl,hb3,hb4,hw,y1,y2,y3,y4,y5,y6,p1,p2,p3,p4];exact⟨⟨j+1,by omega,.inr ⟨w,u+1,rfl,by rw[zN,hcn];rfl,by omega,by omega⟩,by omega,by rw[zE2,hkn,hx,hxk];rfl⟩,by omega⟩
  ·have hje:j=l.length:=by omega
   subst hje;have hay:=yBl op hkn;have hcl:(zJa l c' l.length).length=l.length:=zK6 ..;have hlb:l.length<big:=by unfold big;omega
   have hdi:yEl (List.take l.length ((zJa l c' l.length).map ii))=some (zJa l c' l.length):=by
    rw[yY (by rw[zO,hcl];exact zD _),zSw]
   generalize zJa l c' l.length=cn at *;rcases hown with ⟨h0,hnil,q7⟩|⟨w,u,q7,hk,hw1,hw2⟩
   ·have hcn0:cn=[]:=by simpa using hnil
    subst hcn0;simp[evx,q0,q1,q5,q6,q7,q10,q11,q12,ii,ss,zP4,g33,zIo,deI,zOl,vv,hb,hr,hag,hay,big]
   ·simp[evx,q0,q1,q5,q6,q7,q10,q11,q12,ii,ss,zP4,g33,zIo,deI,zOl,vv,hb,hr,hk,hag,hay,hcl,hlb,hdi]
 exact key _ rfl rfl rfl
end Go.Proofs.YtbffkkeieihpdaaGreatDoor
