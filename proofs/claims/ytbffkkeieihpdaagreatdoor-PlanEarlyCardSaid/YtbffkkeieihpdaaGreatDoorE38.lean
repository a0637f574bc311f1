import Derived.Test.YtbffkkeieihpdaaGreatDoorE37
import Derived.Test.YtbffkkeieihpdaaGreatDoorE15
import Derived.Test.YtbffkkeieihpdaaGreatDoorE35
set_option linter.unusedSimpArgs false
set_option linter.unusedVariables false
set_option linter.constructorNameAsVariable false
set_option maxRecDepth 100000
set_option maxHeartbeats 4000000
namespace Go.Proofs.YtbffkkeieihpdaaGreatDoor
open Go Go.Eng
section
def spE (q:Qu) (b:List (List Ev)) (i j:Nat):List Ev:=if (itA q j).neg=true then []else if rk q j<i then b.getD (rk q j) []else []
theorem yDj {q:Qu} {b:List (List Ev)} {i j:Nat} (h:rk q j≠i):spE q b (i+1) j=spE q b i j:=by
 unfold spE;split
 ·rfl
 ·by_cases h1:rk q j<i
  ·rw[if_pos h1,if_pos (by omega)]
  ·rw[if_neg h1,if_neg (by omega)]
noncomputable def yEf:Code:=yW (hdC 1 (tlC 2 (Tryz.f23.body.getD .skip)))
noncomputable def yMr:Code:=inB (hdC 1 (tlC 2 yEf))
structure I23 (H:Heap) (n:Nat) (p:Pt) (q:Qu) (ba:AV) (b:List (List Ev)) (w:Nat) (i:Nat) (s:St):Prop where
 q1:s.e 1=ba
 q5:s.e 5=.s w 0 0 q.items.length
 q14:s.e 14=p.ca
 q15:s.e 15=ii (zAq q q.items.length).length
 q16:s.e 16=ii i
 ag:agree n H s.h
 fr:Fresh s.n s.h
 nn:n+1≤s.n
 wl:n+1≤w∧w<s.n
 ow:∃cs,s.h w=some ⟨cs,0,true,1⟩∧cs.length=q.items.length∧∀j,j<q.items.length→∃c,cs[j]? = some c∧rd dEs (up s.h w none) c=some (spE q b i j)
section
variable {H:Heap} {n:Nat} {sc:List Ty} {q:Qu} {p:Pt} {ba:AV} {b:List (List Ev)} {w:Nat}
theorem yQb (W:Wf sc q) (pl:PlR H p (xY sc q)) (hn:Fresh n H) (rb:rd zFr H ba=some b) (hbl:∀l∈b,l.length≤2199023255552) {i:Nat} (hi:i<(zAq q q.items.length).length) (s:St) (a:I23 H n p q ba b w i s) {Q:Ex→St→Prop}
  (hQ:∀s',I23 H n p q ba b w (i+1) s'→Q .normal s') :
  awp (cx [] (pfL [])) yEf Q s:=by
 obtain⟨e,h,n2⟩:=s;have a0:=a;obtain⟨q1,q5,q14,q15,q16,ag,fr,nn,⟨w1,w2⟩,cs,hb,hcl,hcs⟩:=a;simp only[]at q1 q5 q14 q15 q16 ag fr nn w2 hb hcs;have hpm:(zAq q q.items.length)[i]∈zAq q q.items.length:=zH hi;obtain⟨ilt,ing⟩:=posI_mem.1 hpm;have hrk:rk q (zAq q q.items.length)[i]=i:=by
  obtain⟨k1,k2⟩:=yB.1 (zC5 ilt ing);exact zPm (zM2 q q.items.length) k1 hi k2
 have hpc:=zHp (sc:=sc) ilt ing;rw[show (zAq q (zAq q q.items.length)[i]).length=i from hrk]at hpc
 have hpl:(xY sc q).comps.length=(zAq q q.items.length).length:=zCb;have hic:i<(xY sc q).comps.length:=by rw[hpl];exact hi
 obtain⟨id,off,k,ty,ow,cn,hu,hk,ho,r1,r2,r3,t0,t1,t2,t3,t4,t5⟩:=zH5 pl.cm hic;rw[zA hic]at hpc;have hitem:(xY sc q).comps[i].item=((zAq q q.items.length)[i]:Nat):=by rw[Option.some.inj hpc];rfl
 rw[hitem]at t0;generalize hj0:(zAq q q.items.length)[i]=j0 at *;have hk2:h id=some k:=(ag _ (xB hk hn)).trans hk;have v1:=(zN r1).2.2.2.1;have v2:=(zN r2).2.2.2.1;have v3:=(zN r3).2.2.2.1;rw[hpl]at hu;generalize (xY sc q).comps[i]=cm at *;have n10:=W.n1;have hpn:=zLy q q.items.length;have hwi:=yK (j:=i) (by unfold big;omega)
 have hic':off+(i*6+6)≤k.cells.length:=ho;obtain⟨c1,c2,c3,c4,c5⟩:=zN rb;have hwid:¬id=n2:=by have:=xB hk hn;omega
 have hj0':¬(j0:Int)<0:=by omega
 simp only[ii]at t0 t2 t3;refine zZ 2 _ _ (R:=fun s=>s.h=h∧s.n=n2∧(∀j∈[1,5,14,15,16],s.e j=e j)) ?_ ?_
 ·simp[evx,hdC,tlC,yEf,yW,Tryz.f23,q15,q16,ii,hi]
  done
 rintro e1 h1 n3 ⟨k0,k1,k2⟩;simp only[]at k0 k1 k2;subst k0 k1;have p1:=(k2 1 (by simp)).trans q1
 have p5:=(k2 5 (by simp)).trans q5
 have p14:=(k2 14 (by simp)).trans q14
 have p15:=(k2 15 (by simp)).trans q15
 have p16:=(k2 16 (by simp)).trans q16
 show awp _ (.seq (.block 1 yMr) (tlC 3 yEf)) _ _;rw[zDn,zAy];by_cases hm:i<b.length
 ·obtain⟨bid,boff,bk,c,rfl,hbk,bho,bc,brd⟩:=zHj rb hm
  have hbk':h1 bid=some bk:=(ag _ (xB hbk hn)).trans hbk;have bw1:boff+(i+1)≤bk.cells.length:=by omega
  have hbn:¬bid=n3:=by have:=xB hbk hn;omega
  obtain⟨u1,u2,u3,u4,u5⟩:=zN brd;have hgl:b.getD i []=b[i]:=by rw[zB,zA hm];rfl
  have hlb:(b.getD i []).length≤2199023255552:=by rw[hgl];exact hbl _ (zH hm)
  have hz1:¬w=n3:=by omega
  clear hgl;obtain⟨l,hbl2⟩:∃l,l=b.getD i []:=⟨_,rfl⟩;rw[←hbl2]at brd u2 hlb;have hq:(j0:Int)<(q.items.length:Int):=by omega
  have fin:∀(e':Nat→AV) (h':Heap) (n':Nat) (z:AV),(∀j∈[1,5,14,15],e' j=e1 j)→e' 16=ii (i+1:Nat)→Fresh n' h'→n3≤n'→(∀y,y<n3→y≠w→h' y=h1 y)→h' w=some ⟨cs.set j0 z,0,true,1⟩→rd dEs (up h' w none) z=some (l)→I23 H n p q (.s bid bk.ver boff b.length) b w (i+1) ⟨e',h',n'⟩:=fun e' h' n' z x1 x2 x3 x4 x5 x6 x7=>by
   refine⟨(x1 1 (by simp)).trans p1,(x1 5 (by simp)).trans p5,(x1 14 (by simp)).trans p14,(x1 15 (by simp)).trans p15,x2,fun y hy => ?_,x3,by simp only[];omega,⟨w1,by simp only[];omega⟩,cs.set j0 z,x6,by rw[zBp];exact hcl,fun j hj => ?_⟩
   ·simp only[];rw[x5 y (by omega) (by omega)];exact ag y hy
   ·by_cases hjj:j=j0
    ·subst hjj
     refine⟨z,by rw[zB7 (by omega)],?_⟩
     have hsp:spE q b (i+1) j=l:=by unfold spE;rw[ing,hrk,if_neg (by simp),if_pos (by omega),hbl2]
     rw[hsp];exact x7
    ·obtain⟨c',k1,k2⟩:=hcs j hj
     refine⟨c',by rw[zAi (Ne.symm hjj)];exact k1,?_⟩
     have hne:rk q j≠i∨(itA q j).neg=true:=by
      cases hng:(itA q j).neg with
      | true=>exact .inr rfl
      | false =>
       refine .inl fun he=>hjj ?_
       have h5:=zC5 (N:=q.items.length) hj hng;have h6:=zC5 (N:=q.items.length) ilt ing;rw[he,←hrk,h6]at h5;exact (Option.some.inj h5).symm
     have hsp:spE q b (i+1) j=spE q b i j:=by
      rcases hne with h|h
      ·exact yDj h
      ·unfold spE;rw[h];rfl
     rw[hsp];exact yZ (yD3 (n:=n3) fr x5) k2
  simp[evx,hdC,tlC,yMr,yEf,inB,yW,Tryz.f23,p1,p5,p14,p15,p16,ii,hu,hk2,ho,t0,t1,t2,t3,t4,t5,v1,v2,v3,zHt,hi,hm,hwid,c1,c2,hj0',ilt,hbk',hbn,bc,bw1,hq];have hfr2:∀B1 B2,Fresh (n3+2) (up (up h1 n3 B1) n3 B2):=fun B1 B2=>(zF (by omega) _).2 ((zF (by omega) _).2 (fr.add 2))
  have hag2:∀B1 B2,agree n3 h1 (up (up h1 n3 B1) n3 B2):=fun B1 B2=>by simp[zD,zE]
  have brd2:∀B1 B2,rd dEs (up (up h1 n3 B1) n3 B2) c=some (l):=fun B1 B2=>yT hn brd _ (yP ag (hag2 _ _) (by omega))
  refine (wD (S:=[]) (by simp) (c75 (d:=dEv) (brd2 _ _) hlb (hfr2 _ _))).mono ?_
  rintro z h3 n4 hz;obtain⟨cs0,d1,d2,d3⟩:=zMy hn brd;rcases hz with ⟨hl0,rfl,rfl,rfl⟩|⟨hl0,rfl,rfl,rfl⟩
  ·refine⟨zFc (Heap.le_refl _),?_⟩
   have hb0:l=[]:=zU hl0;simp[evx,hb,hz1,hcl,hq,ilt,hwi,hj0'];refine⟨by omega,hQ _ (fin _ _ _ (.v (.slice none 0 0)) (by simp[up]) (by simp[up,ii]) ?_ (by omega) (fun y y1 y2 => ?_) (zJ _ _ _) ?_)⟩
   ·exact (zF (by omega) _).2 ((hfr2 _ _).add 1)
   ·rw[zP _ _ y2,zP _ _ (by omega),zP _ _ (by omega)]
   ·rw[hb0];rfl
  ·refine⟨zFc (zI7 (hfr2 _ _) ((zD (zC _) _).2 (zE _ _))),?_⟩
   simp[evx,hb,hz1,hcl,hq,ilt,hwi,hj0',show ¬w=n3+2 by omega]
   refine⟨by omega,hQ _ (fin _ _ _ (.s (n3+2) 0 0 (l).length) (by simp[up]) (by simp[up,ii]) ?_ (by omega) (fun y y1 y2 => ?_) ?_ ?_)⟩
   ·exact (zF (by omega) _).2 ((zF (by omega) _).2 ((hfr2 _ _).add 3))
   ·rw[zP _ _ y2,zP _ _ (by omega),zP _ _ (by omega),zP _ _ (by omega)]
   ·simp[up]
   ·have hagz:∀B1 B2 B3 B4,agree n H (up (up (up (up (up h1 n3 B1) n3 B2) (n3+2) B3) w B4) w none):=fun B1 B2 B3 B4=>by simp[zD,ag,show n≤n3 by omega,show n≤n3+2 by omega,show n≤w by omega]
    refine d3 _ (n3+2) 0 true [] (hagz _ _ _ _) ?_;rw[zP _ _ (by omega),zP _ _ (by omega),zJ,List.append_nil,(d1 _ (yP ag (hag2 _ _) (by omega))).2]
 ·simp[evx,hdC,tlC,yMr,yEf,inB,yW,Tryz.f23,p1,p5,p14,p15,p16,ii,hu,hk2,ho,t0,t1,t2,t3,t4,t5,v1,v2,v3,zHt,hi,hm,hwid,c1,c2,hj0',ilt,hwi]
  have hb0:b.getD i []=[]:=by rw[zB,zG (by omega)];rfl
  have hsp:∀j,spE q b (i+1) j=spE q b i j:=fun j=>by
   by_cases h:rk q j=i
   ·unfold spE
    rw[h,hb0];split
    ·rfl
    ·simp
   ·exact yDj h
  refine hQ _ ⟨by simp[up,p1],by simp[up,p5],by simp[up,p14],by simp[up,p15],by simp[up,ii],by simp[zD,ag,show n≤n3 by omega],by simp[zF,fr.add],by simp only[];omega,⟨w1,by simp only[];omega⟩,cs,?_,hcl,fun j hj => ?_⟩
  ·simp only[];rw[zP _ _ (by omega),zP _ _ (by omega)];exact hb
  ·obtain⟨c',k1,k2⟩:=hcs j hj
   refine⟨c',k1,?_⟩;rw[hsp];exact yZ (yD3 (n:=n3) fr fun y y1 y2=>by simp only[];rw[zP _ _ (by omega),zP _ _ (by omega)]) k2
theorem zSf:∀N:Nat,repZ [Value.slice none 0 0] N=List.replicate N (.v (.slice none 0 0))
 | 0=>rfl
 | N+1=>by rw[repZ,zSf N];rfl
theorem c23 (x:Ev) (W:Wf sc q) (pl:PlR H p (xY sc q)) (hn:Fresh n H) (rb:rd zFr H ba=some b) (hbl:∀l∈b,l.length≤2199023255552) :
  ACall (cx [] (pfL [])) 23 [.g (xR p (xY sc q)),ba] H n fun z h' n'=>agree n H h'∧Fresh n' h'∧n≤n'∧rd zFr h' z=some (byV q b (-1) x):=by
 refine yR (args:=[.g (xR p (xY sc q)),ba]) (zAr yJ) (zB3 _ _) Tryz.func23 (c:=Tryz.f23.body.getD .skip) rfl (by kernel_rfl) (xK Tryz.func23 rfl rfl _ _) (show 2≤Tryz.f23.ntmps by decide +kernel) ?_
 obtain⟨o1,o2,o3,o4,o5,o6,o7,o8,o9,o10⟩:=pl.is;obtain⟨s1,s2,s3,s4,s5⟩:=zN pl.cm;have hpl:(xY sc q).comps.length=(zAq q q.items.length).length:=zCb;rw[hpl]at s2;have pq:rd zG5 H p.qa=some q.items:=pl.qa;obtain⟨t1,t2,t3,t4,t5⟩:=zN pq;obtain⟨u1,u2,u3,u4,u5⟩:=zN rb;have n10:=W.n1;have key:∀e:Nat→AV,e 0=.g (xR p (xY sc q))→e 1=ba→awp (cx [] (pfL [])) (Tryz.f23.body.getD .skip) (zBc (cx [] (pfL [])) Tryz.f23 fun z h' n'=>agree n H h'∧Fresh n' h'∧n≤n'∧rd zFr h' z=some (byV q b (-1) x)) ⟨e,H,n⟩:=fun e q0 q1=>by
  refine zZ 2 _ _ (R:=fun s=>s.e 1=ba∧s.e 2=.p n 0 0∧s.e 5=.s (n+1) 0 0 q.items.length∧s.h n=some ⟨xR p (xY sc q),0,true,16⟩∧agree n H s.h∧Fresh s.n s.h∧n+2≤s.n∧s.h (n+1)=some ⟨List.replicate q.items.length (.v (.slice none 0 0)),0,true,1⟩) ?_ fun e2 h2 n2 ⟨k1,k2,k5,kb,kag,kfr,knn,kw⟩ => ?_
  ·generalize xY sc q=P at *
   have hl8:(8:Int)*(q.items.length:Int)≤281474976710656:=by omega
   simp[evx,hdC,Tryz.f23,q0,q1,xR,ii,ss,bv,o1,o2,o3,o4,o5,o6,o7,o8,o9,o10,t1,t2,zSf];exact⟨⟨by omega,by omega⟩,by simp[zD,zE],(zF (by omega) _).2 ((zF (by omega) _).2 (hn.add 2))⟩
  refine zZ 1 _ _ (R:=fun s=>∃i,i=(zAq q q.items.length).length∧I23 H n p q ba b (n+1) i s) ?_ fun e4 h4 n4 ⟨i,hi,J⟩ => ?_
  ·show awp _ (.seq (hdC 1 (hdC 1 (tlC 2 (Tryz.f23.body.getD .skip)))) (.block 0 (.loop yEf))) _ _
   refine zN1 (I:=fun s=>I23 H n p q ba b (n+1) 0 s) ?_ fun e h' n' K => ?_
   ·simp only[]at k1 k2 k5 kb kag kfr knn kw
    simp only[xR,ii,ss,bv]at kb;simp[evx,hdC,tlC,Tryz.f23,k2,kb,s1,s2,ii];refine⟨by simp[up,k1],by simp[up,k5],by simp[up],by simp[up,ii],by simp[up,ii],kag,kfr,by simp only[];omega,⟨by omega,by simp only[];omega⟩,_,kw,by simp,fun j hj=>⟨.v (.slice none 0 0),by simp[hj],?_⟩⟩
    have:spE q b 0 j=[]:=by unfold spE;split<;>simp
    rw[this];rfl
   ·refine yN (fun s=>∃i,i≤(zAq q q.items.length).length∧I23 H n p q ba b (n+1) i s) (fun s=>(zAq q q.items.length).length-(s.e 16).i.toNat) ⟨0,zDg _,K⟩ ?_
    rintro e' h' n' ⟨i,hi,J⟩;have h2:e' 16=ii i:=J.q16;by_cases hlt:i<(zAq q q.items.length).length
    ·refine yQb W pl hn rb hbl hlt _ J fun s' J'=>⟨⟨i+1,hlt,J'⟩,?_⟩
     have h1:=J'.q16;show (zAq q q.items.length).length-(s'.e 16).i.toNat<(zAq q q.items.length).length-(e' 16).i.toNat;rw[h1,h2];show (zAq q q.items.length).length-((i+1:Nat):Int).toNat<(zAq q q.items.length).length-((i:Nat):Int).toNat;omega
    ·obtain rfl:i=(zAq q q.items.length).length:=by omega
     obtain⟨q1,q5,q14,q15,q16,ag,fr,nn,⟨w1,w2⟩,ow⟩:=J;simp only[]at q1 q5 q14 q15 q16 ag fr nn w2 ow;simp[evx,hdC,tlC,yEf,yW,Tryz.f23,q15,q16,ii];exact⟨by simp[up,q1],by simp[up,q5],by simp[up,q14],by simp[up,q15,ii],by simp[up,q16,ii],ag,fr,nn,⟨w1,w2⟩,ow⟩
  subst hi;obtain⟨q1,q5,q14,q15,q16,ag,fr,nn,⟨w1,w2⟩,cs,hb,hcl,hcs⟩:=J;simp only[]at q1 q5 q14 q15 q16 ag fr nn w2 hb hcs;have hbyl:(byV q b (-1) x).length=q.items.length:=by simp[byV]
  simp[evx,tlC,Tryz.f23,q5];refine⟨ag,fr,by omega,?_⟩
  have:=De.sl_in (a:=dEs) (sz:=1) (off:=0) (xs:=byV q b (-1) x) hb (by simp only[];omega) fun i hi=>by
   obtain⟨c,k1,k2⟩:=hcs i (by omega)
   have hle:Heap.le (up h4 (n+1) none) h4:=fun i1 k4 h4'=>by
    by_cases hi1:i1=n+1
    ·subst hi1;rw[zJ]at h4';cases h4'
    ·rw[zP _ _ hi1]at h4';exact h4'
   have hv:(byV q b (-1) x)[i]=spE q b (zAq q q.items.length).length i:=by
    have hil:i<q.items.length:=by omega
    have h0:¬(i:Int)=-1:=by omega
    simp only[byV,wN,List.getElem_range,byE,spE];cases hng:(itA q i).neg with
    | true=>simp[h0]
    | false =>
     have h5:=(yB.1 (zC5 (N:=q.items.length) hil hng)).1;simp[h5]
   rw[hv,←yZ hle k2];show dEs.run h4 _=dEs.run h4 [c];congr 1;rw[yQ,xM];rw[xO (by simp only[];omega)]
   have:=(yB.1 k1).2;simp[this]
  rw[hbyl]at this
  exact this
 exact key _ rfl rfl
end
end
section
section
variable {sc:List Ty} {q:Qu}
end
end
section
theorem yJ8 {h:Heap} {a:AV} {l:List Cd} (e:rd yJ3 h a=some l) {j:Nat} (hj:j<l.length):∃id off k ca la,a=.s id k.ver off l.length∧h id=some k∧off+(j*4+4)≤k.cells.length∧k.cells[off+j*4]? = some ca∧k.cells[off+(j*4+1)]? = some la∧k.cells[off+(j*4+2)]? = some (ii l[j].each)∧k.cells[off+(j*4+3)]? = some (bv l[j].prev)∧zLr h (.g [ca,la])=some l[j].p:=by
 rcases zD8 e with ⟨h0,_⟩|⟨id,off,k,h1,h2,h3,h4⟩
 ·rw[h0]at hj;simp at hj
 ·have h5:zVd h ((k.cells.drop (off+j*4)).take 4)=some l[j]:=h4 j hj
  obtain⟨ca,la,h6,h7⟩:=zP3 h5;have t0:=yI (c:=0) h6 rfl (by omega)
  have t1:=yI (c:=1) h6 rfl (by omega)
  have t2:=yI (c:=2) h6 rfl (by omega)
  have t3:=yI (c:=3) h6 rfl (by omega)
  rw[xD]at t1 t2 t3;exact⟨id,off,k,ca,la,h1,h2,by omega,t0,t1,t2,t3,h7⟩
structure I50 (H:Heap) (n:Nat) (p:Pt) (P:Pl) (ba:AV) (b:List (List Ev)) (la:AV) (L:List (List Ev)) (s:St):Prop where
 q1:s.e 1=ba
 q2:s.e 2=.p n 0 0
 q5:s.e 5=la
 b2:s.h n=some ⟨xR p P,0,true,16⟩
 pl:PlR s.h p P
 rb:rd zFr s.h ba=some b
 rl:rd zFr s.h la=some L
theorem I50.up {H:Heap} {n:Nat} {p:Pt} {P:Pl} {ba:AV} {b:List (List Ev)} {la:AV} {L:List (List Ev)} {s:St} (a:I50 H n p P ba b la L s) {e':Nat→AV} {n':Nat} (he:∀j∈[1,2,5],e' j=s.e j):I50 H n p P ba b la L ⟨e',s.h,n'⟩ :=
 ⟨(he 1 (by simp)).trans a.q1,(he 2 (by simp)).trans a.q2,(he 5 (by simp)).trans a.q5,a.b2,a.pl,a.rb,a.rl⟩
section
variable {H:Heap} {n:Nat} {p:Pt} {P:Pl} {ba:AV} {b:List (List Ev)} {la:AV} {L:List (List Ev)}
end
end
section
section
variable {H:Heap} {n:Nat} {p:Pt} {P:Pl} {ba:AV} {b:List (List Ev)} {la:AV} {L:List (List Ev)}
end
def evZ:Ev:=⟨0,0,0,0,0,0,0,0,0,0,0⟩
theorem yJv:zHc evZ:=by simp only[zHc,evZ,Rng];omega
end
section
def zFo:List (FuncId×(List AV→Heap→PRes)):=[(14,G14),(41,G35)]
theorem yAh:zQh SP zFo:=zS P14 (zS (P35 P29) yJ)
structure AE (H:Heap) (n:Nat) (q:Qu) (sa qa qb qc ba oa:AV) (s:St):Prop where
 q2:s.e 2=ba
 q3:s.e 3=oa
 q4:s.e 4=.p n 0 0
 q5:s.e 5=.p (n+1) 0 0
 b0:s.h n=some ⟨[sa],0,true,1⟩
 b1:s.h (n+1)=some ⟨zA2 q qa qb qc,0,true,7⟩
 ag:agree n H s.h
 fr:Fresh s.n s.h
 nn:n+2≤s.n
theorem AE.up {H:Heap} {n:Nat} {q:Qu} {sa qa qb qc ba oa:AV} {s s':St} (a:AE H n q sa qa qb qc ba oa s) (he:∀i∈[2,3,4,5],s'.e i=s.e i) (ha:agree s.n s.h s'.h) (hf:Fresh s'.n s'.h) (hn:s.n≤s'.n):AE H n q sa qa qb qc ba oa s':=by
 have:=a.nn;exact⟨(he 2 (by simp)).trans a.q2,(he 3 (by simp)).trans a.q3,(he 4 (by simp)).trans a.q4,(he 5 (by simp)).trans a.q5,(ha _ (by omega)).trans a.b0,(ha _ (by omega)).trans a.b1,yP a.ag ha (by omega),hf,by omega⟩
structure BE (H:Heap) (n:Nat) (sc:List Ty) (q:Qu) (sa qa qb qc ba oa:AV) (m:Nat) (p:Pt) (s:St):Prop where
 a:AE H n q sa qa qb qc ba oa s
 q9:s.e 9=.p m 0 0
 b9:s.h m=some ⟨xR p (xY sc q),0,true,16⟩
 pl:PlR s.h p (xY sc q)
theorem BE.up {H:Heap} {n:Nat} {sc:List Ty} {q:Qu} {sa qa qb qc ba oa:AV} {m:Nat} {p:Pt} {s s':St} (a:BE H n sc q sa qa qb qc ba oa m p s) (he:∀i∈[2,3,4,5,9],s'.e i=s.e i) (ha:agree s.n s.h s'.h) (hf:Fresh s'.n s'.h) (hn:s.n≤s'.n):BE H n sc q sa qa qb qc ba oa m p s' :=
 ⟨a.a.up (fun i hi=>he i (by simp at hi ⊢;omega)) ha hf hn,(he 9 (by simp)).trans a.q9,(ha _ (xB a.b9 a.a.fr)).trans a.b9,a.pl.sim (zB8 a.a.fr ha)⟩
section
variable {H:Heap} {n:Nat} {sc:List Ty} {q:Qu} {sa qa qb qc ba oa:AV} {b other:List (List Ev)}
theorem yJg (e1:rd zE7 H sa=some sc) (e2:deQ H (.g (zA2 q qa qb qc))=some q) (w:SQ sc q) (hn:Fresh n H) (e:Nat→AV) (q0:e 0=.g [sa]) (q1:e 1=.g (zA2 q qa qb qc)) (q2:e 2=ba) (q3:e 3=oa) :
  awp (cz SP (pfL zFo)) (hdC 3 (Tryz.f11.body.getD .skip)) (zAs (AE H n q sa qa qb qc ba oa) (zBc (cz SP (pfL zFo)) Tryz.f11 fun z _ _=>z=bv true)) ⟨e,H,n⟩:=by
 obtain⟨a',b',c',e0,x1,x2,x3⟩:=wH e2;cases e0;have o1:=(zN e1).2.2.2.1;have o2:=(zN x1).2.2.2.1;have o3:=(zN x2).2.2.2.1;have o4:=(zN x3).2.2.2.1;have w3:xQ q.wh∧q.ret.length<big∧∀t∈q.ret,xQ t:=⟨w.q2,by have:=w.q3;unfold big;omega,w.q4⟩
 have gq:∀h',agree n H h'→G14 [.g [qa,.v (.int .i64 q.mode),.v (.int .i64 q.after),qb,.v (.int .i64 q.within),.v (.string q.par),qc]] h'=⟨xQ q.wh∧q.ret.length<big∧∀t∈q.ret,xQ t,bv (zW3 q)⟩:=fun h' ha=>by
  simp only[G14,yH,yH5,zNk (yT hn x1 h' ha) (yT hn x2 h' ha) (yT hn x3 h' ha)]
 simp[evz,hdC,Tryz.f11,q0,q1,q2,q3,zA2,ii,ss,o1,o2,o3,o4,zFo];refine (zJ2 (S:=SP) (fun _ h=>h) (c34 ((zF (by omega) _).2 ((zF (by omega) _).2 (hn.add 2))))).mono ?_
 rintro z h2 n2 ⟨a1,a2,a3,rfl⟩;have ag:agree n H h2:=fun i hi=>by rw[a1 i (by omega),zP _ _ (by omega),zP _ _ (by omega)]
 have b1:h2 (n+1)=_:=(a1 (n+1) (by omega)).trans (zJ _ _ _)
 have b0:h2 n=_:=((a1 n (by omega)).trans (zP _ _ (by omega))).trans (zJ _ _ _)
 cases hq:zW3 q with
 | true =>
  rw[hq]at gq;simp[evz,bv,b1,gq,ag];exact w3
 | false =>
  rw[hq]at gq;simp[evz,bv,b1,gq,ag];exact⟨w3,by simp[up,q2],by simp[up,q3],by simp[up],by simp[up],b0,b1,ag,a2,by omega⟩
theorem yJf (e1:rd zE7 H sa=some sc) (e2:deQ H (.g (zA2 q qa qb qc))=some q) (w:SQ sc q) (hn:Fresh n H) (e:Nat→AV) (h1:Heap) (n2:Nat) (a:AE H n q sa qa qb qc ba oa ⟨e,h1,n2⟩) :
  awp (cz SP (pfL zFo)) (hdC 2 (tlC 3 (Tryz.f11.body.getD .skip))) (zAs (fun s=>Wf sc q∧∃m p,BE H n sc q sa qa qb qc ba oa m p s) (zBc (cz SP (pfL zFo)) Tryz.f11 fun z _ _=>z=bv true)) ⟨e,h1,n2⟩:=by
 have a0:=a;obtain⟨q2,q3,q4,q5,b0,b1,ag,fr,nn⟩:=a;simp only[]at q2 q3 q4 q5 b0 b1 ag fr nn;obtain⟨a',b',c',e0,x1,x2,x3⟩:=wH e2;cases e0;have b1':h1 (n+1)=some ⟨[qa,.v (.int .i64 q.mode),.v (.int .i64 q.after),qb,.v (.int .i64 q.within),.v (.string q.par),qc],0,true,7⟩:=b1;simp[evz,hdC,tlC,Tryz.f11,zFo,q4,q5,b0,b1'];refine (zJ2 (S:=[3]) (by simp[SP]) (c17 (yT hn e1 _ ag) (zF9 (q:=q) (yT hn x1 _ ag) (yT hn x2 _ ag) (yT hn x3 _ ag)) w.ok fr)).mono ?_
 rintro z h2 n3 ⟨a1,a2,a3,hz⟩;rcases hz with ⟨hz,rfl⟩|⟨hz,p,rfl,pl⟩
 ·generalize chk sc q=F at *
  obtain⟨c,pt,ix,sb⟩:=F;simp only[]at hz;simp[evz,zpl,zJr,ff,wT,ii,ss,bv,hz]
 ·obtain⟨hz0,W⟩:=zZ2 hz
  obtain⟨o1,o2,o3,o4,o5,o6,o7,o8,o9,o10⟩:=pl.is;have fin:∀(e':Nat→AV) (h':Heap) (n':Nat),(∀i∈[2,3,4,5],e' i=e i)→e' 9=.p n3 0 0→h' n3=some ⟨xR p (xY sc q),0,true,16⟩→agree n3 h2 h'→Fresh n' h'→n3≤n'→∃m p,BE H n sc q sa qa qb qc ba oa m p ⟨e',h',n'⟩:=fun e' h' n' k1 k2 k3 k4 k5 k6 =>
   ⟨n3,p,a0.up k1 (yP a1 k4 a3) k5 (xL a3 k6),k2,k3,pl.sim (zB8 a2 k4)⟩
  simp only[xR,ff,wT,fl0,ii,ss,bv]at fin ⊢;generalize xY sc q=P at *;simp[evz,o1,o2,o3,o4,o5,o6,o7,o8,o9,o10,zD,zE,bv,zGg,ii];exact⟨W,fin _ _ _ (by simp[up]) (by simp[up]) (by simp[up]) (by simp[zD,zE]) (by simp[zF,a2.add]) (by omega)⟩
end
noncomputable def zHb:Code:=yW (hdC 1 (tlC 5 (Tryz.f11.body.getD .skip)))
noncomputable def zH9:Code:=inB (hdC 1 (tlC 1 zHb))
noncomputable def zVz:Code:=yW (hdC 1 (tlC 1 zH9))
noncomputable def yGg:Code:=inB (hdC 1 (tlC 1 zVz))
noncomputable def zQn:Code:=zIn (tlC 5 zH9)
noncomputable def zU0:Code:=inB (hdC 1 (tlC 1 zQn))
noncomputable def yGh:Code:=yW (hdC 1 (tlC 3 zU0))
def mxE (c:Nat) (b other:List (List Ev)) (k:Nat):List Ev:=if k<c then other.getD k []else b.getD k []
def MX (H:Heap) (n4 c:Nat) (b other:List (List Ev)) (k:Nat) (s:St):Prop :=
 ∃(w:Nat) (cs:List AV),((k=0∧s.e 12=.v (.slice none 0 0))∨(s.e 12=.s w 0 0 k∧s.h w=some ⟨cs,0,true,1⟩∧n4≤w∧w<s.n))∧cs.length=k∧∀j,j<k→∃c',cs[j]? = some c'∧rd dEs H c'=some (mxE c b other j)
structure I11M (H:Heap) (n:Nat) (sc:List Ty) (q:Qu) (ba oa:AV) (m:Nat) (p:Pt) (b other:List (List Ev)) (c:Nat) (h4:Heap) (n4:Nat) (e4:Nat→AV) (k:Nat) (s:St):Prop where
 er:∀i∈[2,3,4,5,9,11],s.e i=e4 i
 q13:s.e 13=ii k
 ag:agree n4 h4 s.h
 fr:Fresh s.n s.h
 nn:n4≤s.n
 mx:MX H n4 c b other k s
section
variable {H:Heap} {n:Nat} {sc:List Ty} {q:Qu} {sa qa qb qc ba oa:AV} {b other:List (List Ev)} {m:Nat} {p:Pt} {c:Nat}
theorem yJi (W:Wf sc q) (hn:Fresh n H) (rb:rd zFr H ba=some b) (ro:rd zFr H oa=some other) (e4:Nat→AV) (h4:Heap) (n4:Nat) (B:BE H n sc q sa qa qb qc ba oa m p ⟨e4,h4,n4⟩) (hc:c<(zAq q q.items.length).length) (q11:e4 11=ii c) {k:Nat} (hk:k<(zAq q q.items.length).length) (s:St) (a:I11M H n sc q ba oa m p b other c h4 n4 e4 k s) {Q:Ex→St→Prop}
  (hQ:∀s',I11M H n sc q ba oa m p b other c h4 n4 e4 (k+1) s'→Q .normal s') :
  awp (cz SP (pfL zFo)) zVz Q s:=by
 obtain⟨e,h,n2⟩:=s;obtain⟨⟨q2,q3,q4,q5,b0,b1,ag0,fr0,nn0⟩,q9,b9,pl⟩:=B;obtain⟨er,q13,ag,fr,nn,mx⟩:=a;simp only[]at q2 q3 q4 q5 b0 b1 ag0 fr0 nn0 q9 b9 pl er q13 ag fr nn;have p2:e 2=ba:=(er 2 (by simp)).trans q2
 have p3:e 3=oa:=(er 3 (by simp)).trans q3
 have p9:e 9=.p m 0 0:=(er 9 (by simp)).trans q9
 have p11:e 11=ii c:=(er 11 (by simp)).trans q11
 have hag:agree n H h:=yP ag0 ag (by omega)
 have c9:h m=some ⟨xR p (xY sc q),0,true,16⟩:=(ag _ (xB b9 fr0)).trans b9;obtain⟨s1,s2,s3,s4,s5⟩:=zN pl.cm;have hpl:(xY sc q).comps.length=(zAq q q.items.length).length:=zCb;rw[hpl]at s2;obtain⟨t1,t2,t3,t4,t5⟩:=zN rb;obtain⟨u1,u2,u3,u4,u5⟩:=zN ro;have n10:=W.n1;have hpn:=zLy q q.items.length;have hwk:=yK (j:=k) (by unfold big;omega)
 simp only[xR,ii,ss,bv]at c9;generalize xY sc q=P at *;refine zZ 1 _ _ (R:=fun s=>s.h=h∧s.n=n2∧(∀j∈[2,3,4,5,9,11,12,13],s.e j=e j)) ?_ ?_
 ·simp[evz,hdC,tlC,zVz,zH9,zHb,inB,yW,Tryz.f11,p9,q13,c9,ii,s1,s2,hk]
  done
 rintro e1 h1 n1 ⟨k0,k1,k2⟩;simp only[]at k0 k1 k2;subst k0 k1;have w2:=(k2 2 (by simp)).trans p2
 have w3:=(k2 3 (by simp)).trans p3
 have w11:=(k2 11 (by simp)).trans p11
 have w13:=(k2 13 (by simp)).trans q13
 have w12:=k2 12 (by simp)
 show awp _ (.seq (.block 3 yGg) (tlC 2 zVz)) _ _;rw[zDn,zAy];refine zZ 3 _ _ (R:=fun s=>s.h=h1∧s.n=n1∧(∀j∈[2,3,4,5,9,11,12,13],s.e j=e1 j)∧∃c',s.e 14=c'∧rd dEs H c'=some (mxE c b other k)) ?_ ?_
 ·by_cases hkc:k<c
  ·by_cases hko:k<other.length
   ·obtain⟨id,off,bk,c',hoa,hbk,ho,hc',hrd⟩:=zHj ro hko
    have hbk':h1 id=some bk:=(hag _ (xB hbk hn)).trans hbk;have ow1:off+(k+1)≤bk.cells.length:=by omega
    have hkc':¬c≤k:=by omega
    rw[hoa]at w3;have v:=zN hrd;simp[evz,hdC,tlC,yGg,zVz,zH9,zHb,inB,yW,Tryz.f11,w2,w3,w11,w13,ii,hkc,hko,hbk',hc',ow1,hkc',t1,t2];unfold mxE;rw[if_pos hkc];exact hrd
   ·have hkc':¬c≤k:=by omega
    simp[evz,hdC,tlC,yGg,zVz,zH9,zHb,inB,yW,Tryz.f11,w2,w3,w11,w13,ii,hkc,hko,hkc',t1,t2,t3,u1,u2,u3];have:mxE c b other k=[]:=by unfold mxE;rw[if_pos hkc,zB,zG (by omega)];rfl
    rw[this];rfl
  ·have hck:c≤k:=by omega
   by_cases hkb:k<b.length
   ·obtain⟨id,off,bk,c',hba,hbk,ho,hc',hrd⟩:=zHj rb hkb
    have hbk':h1 id=some bk:=(hag _ (xB hbk hn)).trans hbk;have ow1:off+(k+1)≤bk.cells.length:=by omega
    rw[hba]at w2;simp[evz,hdC,tlC,yGg,zVz,zH9,zHb,inB,yW,Tryz.f11,w2,w3,w11,w13,ii,hkc,hkb,hbk',hc',ow1,hck,u1,u2];unfold mxE;rw[if_neg hkc];exact hrd
   ·simp[evz,hdC,tlC,yGg,zVz,zH9,zHb,inB,yW,Tryz.f11,w2,w3,w11,w13,ii,hkc,hkb,hck,t1,t2,t3,u1,u2,u3]
    have:mxE c b other k=[]:=by unfold mxE;rw[if_neg hkc,zB,zG (by omega)];rfl
    rw[this];rfl
 rintro e5 h5 n5 ⟨k0,k1,k3,c',k14,hrd⟩;simp only[]at k0 k1 k3 k14;subst k0 k1;obtain⟨d1,d2,d3,d4,d5⟩:=zN hrd;have x13:e5 13=ii k:=(k3 13 (by simp)).trans w13
 have x12:e5 12=e 12:=(k3 12 (by simp)).trans w12
 have hreg:∀i∈[2,3,4,5,9,11],e5 i=e4 i:=fun i hi=>by
  rw[k3 i (by simp at hi ⊢;omega),k2 i (by simp at hi ⊢;omega),er i hi]
 obtain⟨w,cs,hw,hcl,hcs⟩:=mx;simp only[]at hw;have hel:∀j,j<k+1→∃c2,(cs++[c'])[j]? = some c2∧rd dEs H c2=some (mxE c b other j):=fun j hj=>by
  by_cases hjk:j<k
  ·obtain⟨c2,y1,y2⟩:=hcs j hjk
   exact⟨c2,by rw[zL (by omega)];exact y1,y2⟩
  ·obtain rfl:j=k:=by omega
   exact⟨c',by rw[←hcl];simp,hrd⟩
 have fin:∀(e':Nat→AV) (h':Heap) (n':Nat),(∀i∈[2,3,4,5,9,11],e' i=e5 i)→e' 13=ii (k+1:Nat)→agree n4 h4 h'→Fresh n' h'→n4≤n'→MX H n4 c b other (k+1) ⟨e',h',n'⟩→Q .normal ⟨e',h',n'⟩:=fun e' h' n' y1 y2 y3 y4 y5 y6 =>
  hQ _ ⟨fun i hi=>(y1 i hi).trans (hreg i hi),y2,y3,y4,y5,y6⟩
 rcases hw with ⟨hk0,y12⟩|⟨y12,hb,w4,w5⟩
 ·have hcs0:cs=[]:=zU (by omega)
  subst hcs0;subst hk0;have z12:e5 12=.v (.slice none 0 0):=x12.trans y12;simp[evz,hdC,tlC,yGg,zVz,zH9,zHb,inB,yW,Tryz.f11,z12,k14,x13,ii,d4,d5,show IntKind.i64.wrap 1=1 from by decide]
  refine fin _ _ _ (by simp[up]) (by simp[up,ii]) (by simp[zD,ag,nn,show n4≤n5+1 by omega]) (by simp[zF,fr.add]) (by omega) ⟨n5+1,[c'],.inr ⟨by simp[up],by simp[up],by omega,by simp only[];omega⟩,rfl,hel⟩
 ·have z12:e5 12=.s w 0 0 k:=x12.trans y12
  have hwn:¬w=n5:=by omega
  simp[evz,hdC,tlC,yGg,zVz,zH9,zHb,inB,yW,Tryz.f11,z12,k14,x13,ii,d4,d5,hb,hcl,hwk,hwn];refine⟨⟨by omega,by omega⟩,fin _ _ _ (by simp[up]) (by simp[up,ii]) ?_ ?_ (by omega) ⟨w,cs++[c'],.inr ⟨by simp[up],by simp[up],w4,by simp only[];omega⟩,by simp[hcl],hel⟩,fin _ _ _ (by simp[up]) (by simp[up,ii]) ?_ ?_ (by omega) ⟨n5+1,cs++[c'],.inr ⟨by simp[up],by simp[up],by omega,by simp only[];omega⟩,by simp[hcl],hel⟩⟩
  ·simp[zD,ag,nn,w4]
  ·simp[zF,fr.add,show w<n5+2 by omega]
  ·simp[zD,ag,nn,show n4≤n5+1 by omega]
  ·simp[zF,fr.add]
end
end
section
structure CE (H:Heap) (n:Nat) (sc:List Ty) (q:Qu) (sa qa qb qc ba oa:AV) (m:Nat) (p:Pt) (c:Nat) (l1 l2:AV) (L1 L2:List (List Ev)) (s:St):Prop where
 b:BE H n sc q sa qa qb qc ba oa m p s
 q11:s.e 11=ii c
 q15:s.e 15=l1
 q16:s.e 16=l2
 r1:rd zFr s.h l1=some L1
 r2:rd zFr s.h l2=some L2
theorem CE.up {H:Heap} {n:Nat} {sc:List Ty} {q:Qu} {sa qa qb qc ba oa:AV} {m:Nat} {p:Pt} {c:Nat} {l1 l2:AV} {L1 L2:List (List Ev)} {s s':St} (a:CE H n sc q sa qa qb qc ba oa m p c l1 l2 L1 L2 s) (he:∀i∈[2,3,4,5,9,11,15,16],s'.e i=s.e i) (ha:agree s.n s.h s'.h) (hf:Fresh s'.n s'.h) (hn:s.n≤s'.n):CE H n sc q sa qa qb qc ba oa m p c l1 l2 L1 L2 s' :=
 ⟨a.b.up (fun i hi=>he i (by simp at hi ⊢;omega)) ha hf hn,(he 11 (by simp)).trans a.q11,(he 15 (by simp)).trans a.q15,(he 16 (by simp)).trans a.q16,yT a.b.a.fr a.r1 _ ha,yT a.b.a.fr a.r2 _ ha⟩
structure DE (H:Heap) (n:Nat) (sc:List Ty) (q:Qu) (sa qa qb qc ba oa:AV) (m:Nat) (p:Pt) (c:Nat) (l1 l2:AV) (L1 L2:List (List Ev)) (j:Nat) (cd:Cd) (m2:Nat) (ca lb:AV) (s:St):Prop where
 c:CE H n sc q sa qa qb qc ba oa m p c l1 l2 L1 L2 s
 q17:s.e 17=ii j
 q18:s.e 18=.p m2 0 0
 b18:s.h m2=some ⟨[ca,lb,ii cd.each,bv cd.prev],0,true,4⟩
 rp:rd dPs s.h ca=some cd.p.code
 rc:rd yEd s.h lb=some cd.p.cols
theorem DE.up {H:Heap} {n:Nat} {sc:List Ty} {q:Qu} {sa qa qb qc ba oa:AV} {m:Nat} {p:Pt} {c:Nat} {l1 l2:AV} {L1 L2:List (List Ev)} {j:Nat} {cd:Cd} {m2:Nat} {ca lb:AV} {s s':St} (a:DE H n sc q sa qa qb qc ba oa m p c l1 l2 L1 L2 j cd m2 ca lb s) (he:∀i∈[2,3,4,5,9,11,15,16,17,18],s'.e i=s.e i) (ha:agree s.n s.h s'.h) (hf:Fresh s'.n s'.h) (hn:s.n≤s'.n):DE H n sc q sa qa qb qc ba oa m p c l1 l2 L1 L2 j cd m2 ca lb s' :=
 ⟨a.c.up (fun i hi=>he i (by simp at hi ⊢;omega)) ha hf hn,(he 17 (by simp)).trans a.q17,(he 18 (by simp)).trans a.q18,(ha _ (xB a.b18 a.c.b.a.fr)).trans a.b18,yT a.c.b.a.fr a.rp _ ha,yT a.c.b.a.fr a.rc _ ha⟩
def nmI (it:Int) (I:Ins):Bool:=decide (2≤I.code)&&decide (I.code≤9)&&decide (I.item=it)
def nmV (it:Int) (l:List Ins) (i:Nat):Bool:=(l.take i).any (nmI it)
theorem yCv {α:Type} (f:α→Bool) (l:List α) (x:α):(l++[x]).any f=(l.any f||f x):=by simp
theorem zNa (X:Ctx) (h:Heap) (a:AV):ldcs X h a 0 5=[ldc X h a 0,ldc X h a 1,ldc X h a 2,ldc X h a 3,ldc X h a 4]:=rfl
theorem yGv {h:Heap} {a:AV} {l:List Ins} (e:rd dPs h a=some l) {j:Nat} (hj:j<l.length):∃id off k,a=.s id k.ver off l.length∧h id=some k∧off+(j*5+5)≤k.cells.length∧k.cells[off+j*5]? = some (ii l[j].code)∧k.cells[off+(j*5+1)]? = some (ii l[j].item)∧k.cells[off+(j*5+2)]? = some (ii l[j].col)∧k.cells[off+(j*5+3)]? = some (ii l[j].n)∧k.cells[off+(j*5+4)]? = some (ii l[j].to):=by
 rcases yIy e with ⟨h0,_⟩|⟨id,off,k,h1,h2,h3,h4⟩
 ·rw[h0]at hj;simp at hj
 ·have h6:=h4 j hj
  have t0:=yI (c:=0) h6 rfl (by omega)
  have t1:=yI (c:=1) h6 rfl (by omega)
  have t2:=yI (c:=2) h6 rfl (by omega)
  have t3:=yI (c:=3) h6 rfl (by omega)
  have t4:=yI (c:=4) h6 rfl (by omega)
  rw[xD]at t1 t2 t3 t4;exact⟨id,off,k,h1,h2,by omega,t0,t1,t2,t3,t4⟩
section
variable {H:Heap} {n:Nat} {sc:List Ty} {q:Qu} {sa qa qb qc ba oa:AV} {m:Nat} {p:Pt} {c:Nat} {l1 l2:AV} {L1 L2:List (List Ev)} {j:Nat} {cd:Cd} {m2:Nat} {ca lb:AV}
theorem yJh {it:Int} (hc:c<(xY sc q).comps.length) (hit:(xY sc q).comps[c].item=it) (hcl:(xY sc q).comps.length<big) (hpl:cd.p.code.length<big) (s:St) (a:DE H n sc q sa qa qb qc ba oa m p c l1 l2 L1 L2 j cd m2 ca lb s) (q19:s.e 19=bv false) (q20:s.e 20=ii 0) {Q:Ex→St→Prop}
  (hQ:∀s',DE H n sc q sa qa qb qc ba oa m p c l1 l2 L1 L2 j cd m2 ca lb s'→s'.e 19=bv (nmV it cd.p.code cd.p.code.length)→Q (.exit 6) s') :
  awp (cz SP (pfL zFo)) (.loop yGh) Q s:=by
 refine yN (fun s=>∃i:Nat,i≤cd.p.code.length∧DE H n sc q sa qa qb qc ba oa m p c l1 l2 L1 L2 j cd m2 ca lb s∧s.e 19=bv (nmV it cd.p.code i)∧s.e 20=ii i) (fun s=>cd.p.code.length-(s.e 20).i.toNat) ⟨0,zDg _,a,by rw[q19];rfl,q20⟩ ?_
 rintro e' h' n' ⟨i,hi,J,q19,q20⟩;have J0:=J;obtain⟨⟨⟨⟨q2,q3,q4,q5,b0,b1,ag,fr,nn⟩,q9,b9,pl⟩,q11,q15,q16,r1,r2⟩,q17,q18,b18,rp,rc⟩:=J;simp only[]at q2 q3 q4 q5 b0 b1 ag fr nn q9 b9 pl q11 q15 q16 r1 r2 q17 q18 b18 rp rc q19 q20;obtain⟨t1,t2,t3,t4,t5⟩:=zN rp;obtain⟨id,off,k,ty,ow,cn,hu,hk,ho,_,_,_,u0,_⟩:=zH5 pl.cm hc;rw[hit]at u0;simp only[ii,bv]at b18 u0;have hm2:=xB b18 fr;have hm:=xB b9 fr;simp only[xR,ii,ss,bv]at b9;have hid:=xB hk fr;by_cases hlt:i<cd.p.code.length
 ·obtain⟨id2,off2,k2,hca,hk2,ho2,z0,z1,z2,z3,z4⟩:=yGv rp hlt
  have hw:=yK (j:=i) (by omega)
  have hm3:nmV it cd.p.code (i+1)=(nmV it cd.p.code i||nmI it cd.p.code[i]):=by
   unfold nmV;rw[yY hlt,yCv]
  have fin:∀(e'':Nat→AV) (h'':Heap) (n'':Nat),(∀y∈[2,3,4,5,9,11,15,16,17,18],e'' y=e' y)→agree n' h' h''→Fresh n'' h''→n'≤n''→DE H n sc q sa qa qb qc ba oa m p c l1 l2 L1 L2 j cd m2 ca lb ⟨e'',h'',n''⟩:=fun e'' h'' n'' k1 k2 k3 k4=>J0.up k1 k2 k3 k4
  have hid2:=xB hk2 fr;subst hca;generalize cd.p.code[i]=I at *;obtain⟨ic,im,il,inn,ito⟩:=I;simp only[ii]at z0 z1 z2 z3 z4;simp only[nmI]at hm3;have y1:¬id2=n':=by omega
  have y2:¬m2=n':=by omega
  have y3:¬m=n':=by omega
  have y4:¬id=n':=by omega
  have w0:off+(c*6+1)≤k.cells.length:=by omega
  by_cases c1:2≤ic
  ·by_cases c2:ic≤9
   ·by_cases c3:im=it
    ·rw[decide_eq_true c1,decide_eq_true c2,decide_eq_true c3]at hm3
     simp[evz,hdC,tlC,yGh,zU0,zQn,zH9,zHb,zIn,inB,yW,Tryz.f11,q9,q11,q18,q19,q20,b9,b18,ii,bv,t2,hlt,hk2,ho2,z0,z1,z2,z3,z4,zNa,hu,hk,hc,w0,u0,c1,c2,c3,y1,y2,y3,y4,hw];exact⟨⟨i+1,hlt,fin _ _ _ (by simp[up]) (by simp[zD,zE]) (by simp[zF,fr.add]) (by omega),by rw[hm3];simp,by omega⟩,by omega⟩
    ·rw[decide_eq_true c1,decide_eq_true c2,decide_eq_false c3]at hm3
     simp[evz,hdC,tlC,yGh,zU0,zQn,zH9,zHb,zIn,inB,yW,Tryz.f11,q9,q11,q18,q19,q20,b9,b18,ii,bv,t2,hlt,hk2,ho2,z0,z1,z2,z3,z4,zNa,hu,hk,hc,w0,u0,c1,c2,c3,y1,y2,y3,y4,hw];exact⟨⟨i+1,hlt,fin _ _ _ (by simp[up]) (by simp[zD,zE]) (by simp[zF,fr.add]) (by omega),by rw[hm3];simp,by omega⟩,by omega⟩
   ·rw[decide_eq_true c1,decide_eq_false c2]at hm3
    simp[evz,hdC,tlC,yGh,zU0,zQn,zH9,zHb,zIn,inB,yW,Tryz.f11,q9,q11,q18,q19,q20,b9,b18,ii,bv,t2,hlt,hk2,ho2,z0,z1,z2,z3,z4,zNa,c1,c2,y1,y2,y3,y4,hw];exact⟨⟨i+1,hlt,fin _ _ _ (by simp[up]) (by simp[zD,zE]) (by simp[zF,fr.add]) (by omega),by rw[hm3];simp,by omega⟩,by omega⟩
  ·rw[decide_eq_false c1]at hm3
   simp[evz,hdC,tlC,yGh,zU0,zQn,zH9,zHb,zIn,inB,yW,Tryz.f11,q9,q11,q18,q19,q20,b9,b18,ii,bv,t2,hlt,hk2,ho2,z0,z1,z2,z3,z4,zNa,c1,y1,y2,y3,y4,hw];exact⟨⟨i+1,hlt,fin _ _ _ (by simp[up]) (by simp[zD,zE]) (by simp[zF,fr.add]) (by omega),by rw[hm3];simp,by omega⟩,by omega⟩
 ·obtain rfl:i=cd.p.code.length:=by omega
  simp[evz,hdC,tlC,yGh,zU0,zQn,zH9,zHb,zIn,inB,yW,Tryz.f11,q18,q20,b18,ii,t1,t2];exact hQ _ (J0.up (by simp[up]) (zE _ _) fr (zC _)) (by simp[up,q19])
end
end
section
section
variable {H:Heap} {n:Nat} {sc:List Ty} {q:Qu} {sa qa qb qc ba oa:AV} {m:Nat} {p:Pt} {c:Nat} {l1 l2:AV} {L1 L2:List (List Ev)} {b other:List (List Ev)}
theorem yJd {it:Int} {cm:Cmp} (hc:c<(xY sc q).comps.length) (hcm:(xY sc q).comps[c]=cm) (hit:cm.item=it) (hcl:(xY sc q).comps.length<big) {j:Nat} (hj:j<cm.conds.length) (hjb:cm.conds.length<big) (hpl:cm.conds[j].p.code.length<big) (ok1:CdOk (cm.conds[j],L1)) (ok2:CdOk (cm.conds[j],L2))
  (hev:zB6 cm.conds[j] L1=zB6 cm.conds[j] L2) (hnm:nmV it cm.conds[j].p.code cm.conds[j].p.code.length=true) (s:St) (a:CE H n sc q sa qa qb qc ba oa m p c l1 l2 L1 L2 s) (q17:s.e 17=ii j) {Q:Ex→St→Prop}
  (hQ:∀s',CE H n sc q sa qa qb qc ba oa m p c l1 l2 L1 L2 s'→s'.e 17=ii (j+1:Nat)→Q .normal s') :
  awp (cz SP (pfL zFo)) zQn Q s:=by
 obtain⟨e,h1,n2⟩:=s;have a0:=a;obtain⟨⟨⟨q2,q3,q4,q5,b0,b1,ag,fr,nn⟩,q9,b9,pl⟩,q11,q15,q16,r1,r2⟩:=a;simp only[]at q2 q3 q4 q5 b0 b1 ag fr nn q9 b9 pl q11 q15 q16 r1 r2 q17;obtain⟨id,off,k,ty,ow,cn,hu,hk,ho,x1,x2,x3,t0,t1,t2,t3,t4,t5⟩:=zH5 pl.cm hc;rw[hcm]at x1 x2 x3 t0 t2 t3;obtain⟨v1,v2,v3,v4,v5⟩:=zN x3;obtain⟨id2,off2,k2,ca,lb,hcn,hk2,ho2,c0,c1,c2,c3,hp⟩:=yJ8 x3 hj;have hw:=yK (j:=j) (by omega)
 obtain⟨ca',la',ee0,p1,p2⟩:=zFe hp;simp only[AV.g.injEq,List.cons.injEq,and_true]at ee0;obtain⟨rfl,rfl⟩:=ee0;have y1:=(zN p1).2.2.2.1;have y2:=(zN p2).2.2.2.1;have hm:=xB b9 fr;have hid:=xB hk fr;have hid2:=xB hk2 fr;have w0:off+(c*6+6)≤k.cells.length:=ho;have b9':=b9;simp only[xR,ii,ss,bv]at b9;refine zZ 1 _ _ (R:=fun s=>CE H n sc q sa qa qb qc ba oa m p c l1 l2 L1 L2 s∧s.e 17=ii j∧s.h=h1∧s.n=n2) ?_ fun e2 h2 n3 ⟨A2,k17,k18,k19⟩ => ?_
 ·simp[evz,hdC,tlC,zQn,zH9,zHb,zIn,inB,yW,Tryz.f11,q9,q11,q17,b9,ii,hu,hk,hc,w0,t5,v1,v2,v3,hj]
  exact a0.up (by simp[up]) (zE _ _) fr (zC _)
 simp only[]at k17 k18 k19;subst k18 k19;have z9:e2 9=.p m 0 0:=A2.b.q9;have z11:e2 11=ii c:=A2.q11;show awp _ (.seq (.block 5 zU0) (tlC 2 zQn)) _ _;rw[zDn,zAy];generalize hcd:cm.conds[j]=cd at *;simp only[ii,bv]at c2 c3;subst hcn;refine zZ 1 _ _ (R:=fun s=>DE H n sc q sa qa qb qc ba oa m p c l1 l2 L1 L2 j cd n3 ca lb s) ?_ fun e3 h3 n4 A3 => ?_
 ·have g1:¬id=n3:=by omega
  have g2:¬id2=n3:=by omega
  have g3:¬m=n3:=by omega
  simp[evz,hdC,tlC,zU0,zQn,zH9,zHb,zIn,inB,yW,Tryz.f11,z9,z11,k17,b9,ii,bv,hu,hk,hc,w0,t5,hj,hk2,ho2,c0,c1,c2,c3,y1,y2,zI1,g1,g2,g3];have hag:∀B1 B2,agree n3 h2 (up (up h2 n3 B1) n3 B2):=fun B1 B2=>by simp[zD,zE]
  exact⟨A2.up (by simp[up]) (hag _ _) (by simp[zF,fr.add]) (by simp only[];omega),by simp[up,k17],by simp[up],by simp[up,ii,bv],yT fr p1 _ (hag _ _),yT fr p2 _ (hag _ _)⟩
 refine zZ 1 _ _ (R:=fun s=>DE H n sc q sa qa qb qc ba oa m p c l1 l2 L1 L2 j cd n3 ca lb s) ?_ fun e4 h4 n5 A4 => ?_
 ·have A30:=A3
  obtain⟨⟨⟨⟨q2,q3,q4,q5,b0,b1,ag,fr3,nn⟩,q9,b9,pl⟩,q11,q15,q16,r1,r2⟩,q17,q18,b18,rp,rc⟩:=A3;simp only[]at q15 q16 r1 r2 q18 b18 rp rc fr3;have g1:G35 [.g [ca,lb,.v (.int .i64 cd.each),.v (.bool cd.prev)],l1] h3=⟨CdOk (cd,L1),bv (zB6 cd L1)⟩:=by
   have d:=zY6 (c:=cd) rp rc r1;simp only[G35,yH,d]
  have g2:G35 [.g [ca,lb,.v (.int .i64 cd.each),.v (.bool cd.prev)],l2] h3=⟨CdOk (cd,L2),bv (zB6 cd L2)⟩:=by
   have d:=zY6 (c:=cd) rp rc r2;simp only[G35,yH,d]
  have u1:=(zN rp).2.2.2.1;have u2:=(zN rc).2.2.2.1;have u3:=(zN r1).2.2.1;have u4:=(zN r2).2.2.1;rw[←hev]at g2;simp only[ii,bv]at b18 g1 g2;generalize zB6 cd L1=V at *;simp[evz,hdC,tlC,zU0,zQn,zH9,zHb,zIn,inB,yW,Tryz.f11,zFo,q15,q16,q18,b18,zI1,u1,u2,u3,u4,g1,g2,ok1,ok2];exact A30.up (by simp[up]) (zE _ _) fr3 (zC _)
 refine zZ 1 _ _ (R:=fun s=>DE H n sc q sa qa qb qc ba oa m p c l1 l2 L1 L2 j cd n3 ca lb s∧s.e 19=bv false) ?_ fun e5 h5 n6 ⟨A5,k19⟩ => ?_
 ·simp[evz,hdC,tlC,zU0,zQn,zH9,zHb,zIn,inB,yW,Tryz.f11]
  exact⟨A4.up (by simp[up]) (zE _ _) A4.c.b.a.fr (zC _),by simp[up,bv]⟩
 refine zZ 1 _ _ (R:=fun s=>DE H n sc q sa qa qb qc ba oa m p c l1 l2 L1 L2 j cd n3 ca lb s∧s.e 19=bv true) ?_ fun e6 h6 n7 ⟨A6,k19'⟩ => ?_
 ·show awp _ (.seq (hdC 1 (hdC 1 (tlC 3 zU0))) (.block 6 (.loop yGh))) _ _
  refine zN1 (I:=fun s=>DE H n sc q sa qa qb qc ba oa m p c l1 l2 L1 L2 j cd n3 ca lb s∧s.e 19=bv false∧s.e 20=ii 0) ?_ fun e h n' ⟨K,j1,j2⟩=>yJh (it:=it) hc (by rw[hcm];exact hit) hcl hpl _ K j1 j2 fun s' K' m1=>⟨rfl,K',by rw[m1,hnm]⟩
  simp only[]at k19;simp[evz,hdC,tlC,zU0,zQn,zH9,zHb,zIn,inB,yW,Tryz.f11];exact⟨A5.up (by simp[up]) (zE _ _) A5.c.b.a.fr (zC _),by simp[up,k19],by simp[up,ii]⟩
 have q17':e6 17=ii j:=A6.q17;have fr6:=A6.c.b.a.fr;simp only[]at k19' fr6;simp[evz,hdC,tlC,zU0,zQn,zH9,zHb,zIn,inB,yW,Tryz.f11,k19',q17',ii,bv,hw];exact hQ _ (A6.c.up (by simp[up]) (zE _ _) fr6 (zC _)) (by simp[up,ii])
structure OkE (sc:List Ty) (q:Qu) (b other:List (List Ev)):Prop where
 W:Wf sc q
 w:SQ sc q
 bl:∀l∈b,l.length≤2199023255552
 ol:∀l∈other,l.length≤2199023255552
 be:∀l∈b,∀y∈l,zHc y
 oe:∀l∈other,∀y∈l,zHc y
theorem yEg {b:List (List Ev)} (hl:∀l∈b,l.length≤2199023255552) (hev:∀l∈b,∀y∈l,zHc y) (each:Int):EnOk ⟨byV q b (-1) evZ,each,0⟩:=by
 have key:∀l∈byV q b (-1) evZ,l=[evZ]∨l=[]∨l∈b:=fun l hl=>by
  unfold byV at hl;obtain⟨j,_,rfl⟩:=xU.1 hl;unfold byE;split
  ·split
   ·exact .inl rfl
   ·exact .inr (.inl rfl)
  ·rw[zB]
   by_cases hj:rk q j<b.length
   ·rw[zA hj];exact .inr (.inr (zH hj))
   ·rw[zG (by omega)];exact .inr (.inl rfl)
 refine⟨fun l h => ?_,fun l h y hy => ?_,by show Rng 0;unfold Rng;omega⟩
 ·rcases key l h with rfl|rfl|h
  ·simp
  ·simp
  ·exact hl l h
 ·rcases key l h with rfl|rfl|h
  ·rw[zDy.1 hy];exact yJv
  ·cases hy
  ·exact hev l h y hy
theorem zQ2 {N c:Nat} {P:List Ev→Prop} (h0:P []) (hb:∀l∈b,P l) (ho:∀l∈other,P l):∀l∈zPk N c b other,P l:=fun l hl=>by
 unfold zPk at hl;obtain⟨k,_,rfl⟩:=xU.1 hl;split
 ·rw[zB]
  by_cases hj:k<other.length
  ·rw[zA hj];exact ho _ (zH hj)
  ·rw[zG (by omega)];exact h0
 ·rw[zB]
  by_cases hj:k<b.length
  ·rw[zA hj];exact hb _ (zH hj)
  ·rw[zG (by omega)];exact h0
end
end
section
section
variable {H:Heap} {n:Nat} {sc:List Ty} {q:Qu} {sa qa qb qc ba:AV} {ng:Int} {x:Ev} {b:List (List Ev)}
end
end
end Go.Proofs.YtbffkkeieihpdaaGreatDoor
namespace Go.Proofs.YtbffkkeieihpdaaGreatDoor
open Go Go.Eng Go.RowKit Go.ChangeShapes Go.WideShapes Go.Joins
theorem zLz:Opens Tryz.prog 53 zFr fun l=>l.length*24≤reachBytes∧∀x∈l,x.length*88≤reachBytes∧∀y∈x,zHc y:=Opens.sl Tryz.underlying53 (sz:=1) (by kernel_rfl) (by decide) (by kernel_rfl) yA8
end Go.Proofs.YtbffkkeieihpdaaGreatDoor
