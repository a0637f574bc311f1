import Derived.Test.YtbffkkeieihpdaaGreatDoorE14
import Derived.Test.YtbffkkeieihpdaaGreatDoorE27
import Derived.Test.YtbffkkeieihpdaaGreatDoorE26
import Derived.Test.YtbffkkeieihpdaaGreatDoorE23
import Derived.Test.YtbffkkeieihpdaaGreatDoorE12
set_option linter.unusedSimpArgs false
set_option linter.unusedVariables false
set_option linter.constructorNameAsVariable false
set_option maxRecDepth 100000
set_option maxHeartbeats 4000000
namespace Go.Proofs.YtbffkkeieihpdaaGreatDoor
open Go Go.Eng
def zWn:List (FuncId×(List AV→Heap→PRes)):=[(143,g37),(144,g19),(145,g42),(142,yH4)]
theorem yEy:zQh S29 zWn:=zS p37 (zS p19 (zS p42 (zS yOu yJ)))
theorem zJa (c:Nat) (h:c<([.int .i64 (-1),.int .i64 0,.int .i64 0,.int .i64 0,.int .i64 0,.int .i64 0,.int .i64 0,.int .i64 0,.int .i64 0,.int .i64 0,.int .i64 1,.int .i64 1,.int .i64 2,.int .i64 2,.int .i64 2,.int .i64 2,.int .i64 2,.int .i64 2,.int .i64 2,.int .i64 2,.int .i64 2,.int .i64 2,.int .i64 2,.int .i64 2,.int .i64 2,.int .i64 1,.int .i64 1]:List Value).length):([.int .i64 (-1),.int .i64 0,.int .i64 0,.int .i64 0,.int .i64 0,.int .i64 0,.int .i64 0,.int .i64 0,.int .i64 0,.int .i64 0,.int .i64 1,.int .i64 1,.int .i64 2,.int .i64 2,.int .i64 2,.int .i64 2,.int .i64 2,.int .i64 2,.int .i64 2,.int .i64 2,.int .i64 2,.int .i64 2,.int .i64 2,.int .i64 2,.int .i64 2,.int .i64 1,.int .i64 1]:List Value)[c]=.int .i64 (zAf c):=by
 have h':c<27:=h;have:c=0∨c=1∨c=2∨c=3∨c=4∨c=5∨c=6∨c=7∨c=8∨c=9∨c=10∨c=11∨c=12∨c=13∨c=14∨c=15∨c=16∨c=17∨c=18∨c=19∨c=20∨c=21∨c=22∨c=23∨c=24∨c=25∨c=26:=by omega
 rcases this with rfl|rfl|rfl|rfl|rfl|rfl|rfl|rfl|rfl|rfl|rfl|rfl|rfl|rfl|rfl|rfl|rfl|rfl|rfl|rfl|rfl|rfl|rfl|rfl|rfl|rfl|rfl<;>rfl
def I29 (h:Heap) (n:Nat) (pa pb la:AV) (p:Pr) (e:En) (s:St):Prop:=∃(pos:Nat) (st:List V),pos≤p.code.length∧s.e 2=.p n 0 0∧s.e 3=.p (n+1) 0 0∧s.e 4=.p (n+2) 0 0∧s.e 7=ii pos∧yHz s.h (n+3) s.n (s.e 6) st∧
 agree n (roH h) s.h∧s.h n=some ⟨[pa,pb],0,true,2⟩∧s.h (n+1)=some ⟨[la,ii e.each,ii e.pos],0,true,3⟩∧s.h (n+2)=some ⟨[.v (.bool false),.v (.int .i64 0)],0,true,2⟩∧n+3≤s.n∧zSc p e=zHx p e pos st∧(∀v∈st,Rng v.n)∧st.length≤pos
theorem P29:P0 S29 91 G29:=by
 refine mkH 2 (S:=S29) (l:=zWn) yEy Tryz.func91 rfl (by kernel_rfl) zTi (fun h l x e=>by obtain⟨a,c,rfl,_⟩:=zKy e;exact zC _) (fun a=>rfl) (fun args q h n e hp hn => ?_)
 obtain⟨p,en⟩:=q;obtain⟨x,y,rfl,e1,e2⟩:=zKy e;obtain⟨hpo,heo⟩:=hp;obtain⟨pa,pb,rfl,e3,e4⟩:=zFe e1;obtain⟨la,rfl,e5⟩:=zH1 e2;simp only[]at e1 e2 e3 e4 e5 hpo heo ⊢;obtain⟨s1,s2,s3,s4,s5⟩:=zN e3;obtain⟨t1,t2,t3,t4,t5⟩:=zN e4;obtain⟨r1,r2,r3,r4,r5⟩:=zN e5;have key:∀e:Nat→AV,e 0=.g [pa,pb]→e 1=.g [la,ii en.each,ii en.pos]→awp (cx S29 (pfL zWn)) (Tryz.f91.body.getD .skip) (zBc (cx S29 (pfL zWn)) Tryz.f91 fun z _ _=>z=zQl (zSc p en)) ⟨e,roH h,n⟩:=fun e q0 q1=>by
  simp[evw,Tryz.f91,q0,q1,s4,t4,r4,ii];refine yN (I29 h n pa pb la p en) (fun s=>p.code.length-(s.e 7).i.toNat) ⟨0,[],by simp[up,ii,zD,zE,yHz,zSb]⟩ ?_
  rintro e' h' n' ⟨pos,st,hpos,q2,q3,q4,q7,hown,hag,hb0,hb1,hb2,hnn,hrun,hrng,hlen⟩;simp only[]at q2 q3 q4 q7 hown hag hb0 hb1 hb2 hnn;have f0:n≤n':=by omega
  have f1:n≤n'+1:=by omega
  have f2:n≤n'+2:=by omega
  have f3:n≤n'+3:=by omega
  have z0:¬n=n':=by omega
  have z1:¬n=n'+1:=by omega
  have z2:¬n=n'+2:=by omega
  have z3:¬n=n'+3:=by omega
  have z4:¬n+1=n':=by omega
  have z5:¬n+2=n':=by omega
  have z6:¬n+2=n'+1:=by omega
  have z7:¬n+1=n'+2:=by omega
  have z8:¬n+1=n'+3:=by omega
  have z9:¬n+2=n'+3:=by omega
  by_cases hlt:pos<p.code.length
  ·have hst:=fun (h:zBi p en p.code[pos] pos st=none)=>zYn hlt h
   have hst2:=fun q (h:zBi p en p.code[pos] pos st=some q)=>zEz hlt h
   have hon:=fun q (h:zBi p en p.code[pos] pos st=some q)=>zQu hlt h
   have hiok:=hpo.ok p.code[pos] (zH hlt);rcases yIy e3 with ⟨h0,_⟩|⟨id,off,k,rfl,hk,ho,hat⟩
   ·rw[h0]at hlt;simp at hlt
   obtain⟨c0,c1,c2,c3,c4⟩:=yJp (hat pos hlt);have hro:=wR hn hk hag;have hid:=xB hk hn;have y0:¬id=n':=by omega
   have hw5:off+(pos*5+5)≤k.cells.length:=by omega
   rw[xD]at c1 c2 c3 c4;generalize p.code[pos]=i at *;by_cases hr:zAf i.code<0∨(st.length:Int)<zAf i.code
   ·have hbad:zSc p en=bad:=by rw[hrun];exact hst (by unfold zBi;rw[if_pos hr])
    obtain⟨o1,o2,o3⟩:=zSj hown;by_cases hneg:i.code<0
    ·simp[evw,q2,q4,q7,hb0,hb2,ii,hlt,hro,c0,c1,c2,c3,c4,hw5,hneg,hbad,bad,zQl,vv,unk,z0,z5]
    by_cases hbg:27≤i.code
    ·simp[evw,q2,q4,q7,hb0,hb2,ii,hlt,hro,c0,c1,c2,c3,c4,hw5,hneg,hbg,hbad,bad,zQl,vv,unk,z0,z5]
    obtain⟨c,hc⟩:∃c:Nat,i.code=c:=⟨i.code.toNat,by omega⟩
    have hc27:c<27:=by omega
    have hc26:c≤26:=by omega
    have hcI:(c:Int)<27:=by omega
    have hcI':¬(27:Int)≤c:=by omega
    rw[hc]at c0 hr;by_cases hnn0:zAf c<0
    ·simp[evw,S29,q2,q4,q7,hb0,hb2,ii,hlt,hro,c0,c1,c2,c3,c4,hw5,hc27,hc26,hcI,hcI',zJa,hnn0,hbad,bad,zQl,vv,unk,z0,z5,o1,o2,o3]
    ·have hr2:(st.length:Int)<zAf c:=by omega
     simp[evw,S29,q2,q4,q7,hb0,hb2,ii,hlt,hro,c0,c1,c2,c3,c4,hw5,hc27,hc26,hcI,hcI',zJa,hnn0,hr2,hbad,bad,zQl,vv,unk,z0,z5,o1,o2,o3]
   have hnn1:0≤zAf i.code∧zAf i.code≤st.length:=by omega
   obtain⟨code,item,icol,iN,ito⟩:=i;simp only[]at c0 c1 c2 c3 c4 hnn1 hr;obtain⟨hk1,hk2,hk3,hk4,hk5⟩:=hiok;simp only[]at hk1 hk2 hk3 hk4 hk5;have hcr:1≤code∧code≤26:=by
    by_cases hx:code<1∨code > 26
    ·have:zAf code=-1:=if_pos hx
     omega
    ·omega
   obtain⟨c,rfl⟩:∃c:Nat,code=c:=⟨code.toNat,by omega⟩
   have hc27:c<27:=by omega
   have hc26:c≤26:=by omega
   have hcI:(c:Int)<27:=by omega
   have hcI':¬(27:Int)≤c:=by omega
   have hn0:¬zAf c<0:=by omega
   have hn2:¬(st.length:Int)<zAf c:=by omega
   have hplen:=hpo.len;have hwp:IntKind.i64.wrap ((pos:Int)+1)=((pos+1:Nat):Int):=yK (by unfold big;omega)
   obtain⟨o1,o2,o3⟩:=zSj hown;have fin:∀(q:Nat×List V) (e2:Nat→AV) (h2:Heap) (n2:Nat),zBi p en ⟨c,item,icol,iN,ito⟩ pos st=some q→e2 2=.p n 0 0→e2 3=.p (n+1) 0 0→e2 4=.p (n+2) 0 0→e2 7=ii q.1→yHz h2 (n+3) n2 (e2 6) q.2→agree n (roH h) h2→
     h2 n=h' n→h2 (n+1)=h' (n+1)→h2 (n+2)=h' (n+2)→n'≤n2→(∀v∈q.2,Rng v.n)→I29 h n (.s id k.ver off p.code.length) pb la p en ⟨e2,h2,n2⟩:=fun q e2 h2 n2 k1 k2 k3 k4 k7 k6 k8 k9 k10 k11 k12 k13=>by
    obtain⟨m1,m2,m3⟩:=hon q k1;exact⟨q.1,q.2,m2,k2,k3,k4,k7,k6,k8,k9.trans hb0,k10.trans hb1,k11.trans hb2,by simp only[];omega,hrun.trans (hst2 q k1),k13,by omega⟩
   have hsn:∀(s:List V) (x:V),(∀v∈s,Rng v.n)→Rng x.n→∀v∈s++[x],Rng v.n:=fun s x h1 h2 v hv=>by
    rcases wB.1 hv with hv|hv
    ·exact h1 v hv
    ·simp at hv;rw[hv];exact h2
   have b1:(st.length+1)*16≤140737488355328:=by omega
   have b2:st.length+1≤9223372036854775807:=by omega
   have f4:n≤n'+4:=by omega
   have f5:n≤n'+5:=by omega
   have f6:n≤n'+6:=by omega
   by_cases d1:c=1
   ·subst d1
    have hs:zBi p en ⟨(1:Nat),item,icol,iN,ito⟩ pos st=some (pos+1,st++[xX iN]):=by
     exact zHi hr rfl
    rcases hown with ⟨rfl,q6⟩|⟨w,u,cs,q6,hcs,⟨r,hcr'⟩,hw1,hw2⟩
    ·simp[evw,S29,q2,q6,q7,hb0,ii,hlt,hro,c0,c1,c2,c3,c4,hw5,hwp]
     refine⟨fin _ _ _ _ hs (by simp[up,q2]) (by simp[up,q3]) (by simp[up,q4]) (by simp[up,ii]) (.inr ⟨n'+3,0,_,by simp[up],by rw[zJ],⟨[],by simp[zBv,xX]⟩,by omega,by omega⟩) (by simp[zD,hag,f0,f2,f3]) (by simp[up,z0,z2,z3]) (by simp[up,z4,z1,z2]) (by simp[up,z5,z0,z1]) (by omega) (hsn _ _ hrng hk4),by omega⟩
    ·have yw:¬w=n':=by omega
     have yw2:¬w=n'+2:=by omega
     have yw3:n≤w:=by omega
     have yw4:¬n=w:=by omega
     have yw5:¬n+1=w:=by omega
     have yw6:¬n+2=w:=by omega
     have hcl:st.length*2≤cs.length:=by rw[hcr',zM,zJ8];omega
     have hct:cut (st.length*2) cs=st.flatMap zBv:=by rw[zH2,hcr',←zJ8,List.take_left'];rfl
     simp[evw,S29,q2,q6,q7,hb0,ii,hlt,hro,c0,c1,c2,c3,c4,hw5,hwp,hcs,yw,yw2,b1,b2,hcl,hct];refine⟨fin _ _ _ _ hs (by simp[up,q2]) (by simp[up,q3]) (by simp[up,q4]) (by simp[up,ii]) (.inr ⟨w,u+1,_,by simp[up],by rw[zJ],⟨[],by simp[zBv,xX]⟩,by omega,by omega⟩) (by simp[zD,hag,f0,f2,yw3]) (by simp[up,z0,z2,yw4]) (by simp[up,z4,z1,yw5]) (by simp[up,z5,z0,yw6]) (by omega) (hsn _ _ hrng hk4),by omega⟩
   have g5:=zTg hn e2;have g4:=xP hn e4;simp only[ii]at g5;by_cases d9:c≤9
   ·have hcode:(1:Int)≤(c:Int)∧(c:Int)≤9:=by omega
    have hmr:∀col,Rng (wG ⟨c,item,icol,iN,ito⟩ col en).n:=fun col=>zQ3 (heo.evAt item) (heo.lenAt item)
    have hnil:∀h',rd dIs h' (.v (.slice none 0 0))=some []:=fun _=>rfl
    have hok:∀col:List Int,col.length<big→okM (⟨c,item,icol,iN,ito⟩,col,en):=fun col hc=>⟨hcode,hc,heo⟩
    have c1':¬(c:Int)=1:=by omega
    have c9:(c:Int)≤9:=by omega
    by_cases d4:c=4
    ·subst d4
     have hs:zBi p en ⟨(4:Nat),item,icol,iN,ito⟩ pos st=some (pos+1,st++[wG ⟨(4:Nat),item,icol,iN,ito⟩ [] en]):=zLt hr rfl;have hok0:=hok [] (by simp[big])
     replace hmr:=hmr [];generalize hm:wG ⟨((4:Nat):Int),item,icol,iN,ito⟩ [] en=mv at *;simp only[Int.cast_ofNat_Int]at hm hok0;rcases hown with ⟨rfl,q6⟩|⟨w,u,cs,q6,hcs,⟨r,hcr'⟩,hw1,hw2⟩
     ·simp[evw,S29,q2,q3,q6,q7,hb0,hb1,ii,hlt,hro,c0,c1,c2,c3,c4,hw5,hwp,z4,zWn,yH4,yH,zZw,zP1,yEc,hnil,g5,zD,hag,f0,hok0,hm,vv]
      refine⟨fin _ _ _ _ hs (by simp[up,q2]) (by simp[up,q3]) (by simp[up,q4]) (by simp[up,ii]) (.inr ⟨n'+3,0,_,by simp[up],by rw[zJ],⟨[],by simp[zBv]⟩,by omega,by omega⟩) (by simp[zD,hag,f0,f2,f3]) (by simp[up,z0,z2,z3]) (by simp[up,z4,z1,z2]) (by simp[up,z5,z0,z1]) (by omega) (hsn _ _ hrng hmr),by omega⟩
     ·have yw:¬w=n':=by omega
      have yw2:¬w=n'+2:=by omega
      have yw3:n≤w:=by omega
      have yw4:¬n=w:=by omega
      have yw5:¬n+1=w:=by omega
      have yw6:¬n+2=w:=by omega
      have hcl:st.length*2≤cs.length:=by rw[hcr',zM,zJ8];omega
      have hct:cut (st.length*2) cs=st.flatMap zBv:=by rw[zH2,hcr',←zJ8,List.take_left'];rfl
      simp[evw,S29,q2,q3,q6,q7,hb0,hb1,ii,hlt,hro,c0,c1,c2,c3,c4,hw5,hwp,z4,hcs,yw,yw2,b1,b2,hcl,hct,zWn,yH4,yH,zZw,zP1,yEc,hnil,g5,zD,hag,f0,hok0,hm,vv];refine⟨fin _ _ _ _ hs (by simp[up,q2]) (by simp[up,q3]) (by simp[up,q4]) (by simp[up,ii]) (.inr ⟨w,u+1,_,by simp[up],by rw[zJ],⟨[],by simp[zBv]⟩,by omega,by omega⟩) (by simp[zD,hag,f0,f2,yw3]) (by simp[up,z0,z2,yw4]) (by simp[up,z4,z1,yw5]) (by simp[up,z5,z0,yw6]) (by omega) (hsn _ _ hrng hmr),by omega⟩
    have h29:2≤(c:Int)∧(c:Int)≤9∧(c:Int)≠4:=by omega
    have c4n:¬(c:Int)=4:=by omega
    have hnz:zAf c=0:=by unfold zAf;rw[if_neg (by omega),if_pos (by omega)]
    have c1n:¬c=1:=d1;by_cases k1:icol<0
    ·have hbad:zSc p en=bad:=by rw[hrun];exact hst (zWr hr h29 k1)
     simp[evw,S29,q2,q4,q7,hb0,hb2,ii,hlt,hro,c0,c1,c2,c3,c4,hw5,z0,z5,hc27,hc26,hcI,hcI',zJa,hnz,o1,o2,o3,c1',c4n,c9,k1,hbad,bad,zQl,vv,unk]
    by_cases k2:(p.cols.length:Int)≤icol
    ·have hbad:zSc p en=bad:=by rw[hrun];exact hst (zWs hr h29 k2)
     simp[evw,S29,q2,q4,q7,hb0,hb2,ii,hlt,hro,c0,c1,c2,c3,c4,hw5,z0,z5,hc27,hc26,hcI,hcI',zJa,hnz,o1,o2,o3,c1',c4n,c9,k1,k2,t1,t2,hbad,bad,zQl,vv,unk]
    obtain⟨j,rfl⟩:∃j:Nat,icol=j:=⟨icol.toNat,by omega⟩
    have hj:j<p.cols.length:=by omega
    rcases zLu e4 with ⟨h0,_⟩|⟨id2,off2,k',rfl,hk',ho2,hat2⟩
    ·rw[h0]at hj;simp at hj
    obtain⟨cc,hcc,hcr2⟩:=hat2 j hj;have hro2:=wR hn hk' hag;have hid2:=xB hk' hn;have y2:¬id2=n':=by omega
    have hw6:off2+(j+1)≤k'.cells.length:=by omega
    have g6:∀h',agree n (roH h) h'→rd dIs h' cc=some p.cols[j]:=xP hn hcr2;have hs:zBi p en ⟨c,item,j,iN,ito⟩ pos st=some (pos+1,st++[wG ⟨c,item,j,iN,ito⟩ p.cols[j] en]):=zJj hr h29 (by omega) (by simp[hj])
    have hok0:=hok p.cols[j] (hpo.col _ (zH hj));replace hmr:=hmr p.cols[j];generalize hm:wG ⟨(c:Int),item,(j:Int),iN,ito⟩ p.cols[j] en=mv at *;rcases hown with ⟨rfl,q6⟩|⟨w,u,cs,q6,hcs,⟨r,hcr'⟩,hw1,hw2⟩
    ·simp[evw,S29,q2,q3,q6,q7,hb0,hb1,ii,hlt,hro,c0,c1,c2,c3,c4,hw5,hwp,z0,z4,hc27,hc26,hcI,hcI',zJa,hnz,c1',c4n,c9,k1,k2,t1,t2,hj,hro2,y2,hw6,hcc,g6,zWn,yH4,yH,zZw,zP1,yEc,g5,zD,hag,f0,hok0,hm,vv]
     refine⟨fin _ _ _ _ hs (by simp[up,q2]) (by simp[up,q3]) (by simp[up,q4]) (by simp[up,ii]) (.inr ⟨n'+3,0,_,by simp[up],by rw[zJ],⟨[],by simp[zBv]⟩,by omega,by omega⟩) (by simp[zD,hag,f0,f2,f3]) (by simp[up,z0,z2,z3]) (by simp[up,z4,z1,z2]) (by simp[up,z5,z0,z1]) (by omega) (hsn _ _ hrng hmr),by omega⟩
    ·have yw:¬w=n':=by omega
     have yw2:¬w=n'+2:=by omega
     have yw3:n≤w:=by omega
     have yw4:¬n=w:=by omega
     have yw5:¬n+1=w:=by omega
     have yw6:¬n+2=w:=by omega
     have hcl:st.length*2≤cs.length:=by rw[hcr',zM,zJ8];omega
     have hct:cut (st.length*2) cs=st.flatMap zBv:=by rw[zH2,hcr',←zJ8,List.take_left'];rfl
     simp[evw,S29,q2,q3,q6,q7,hb0,hb1,ii,hlt,hro,c0,c1,c2,c3,c4,hw5,hwp,z0,z4,hcs,yw,yw2,b1,b2,hcl,hct,hc27,hc26,hcI,hcI',zJa,hnz,c1',c4n,c9,k1,k2,t1,t2,hj,hro2,y2,hw6,hcc,g6,zWn,yH4,yH,zZw,zP1,yEc,g5,zD,hag,f0,hok0,hm,vv];refine⟨fin _ _ _ _ hs (by simp[up,q2]) (by simp[up,q3]) (by simp[up,q4]) (by simp[up,ii]) (.inr ⟨w,u+1,_,by simp[up],by rw[zJ],⟨[],by simp[zBv]⟩,by omega,by omega⟩) (by simp[zD,hag,f0,f2,yw3]) (by simp[up,z0,z2,yw4]) (by simp[up,z4,z1,yw5]) (by simp[up,z5,z0,yw6]) (by omega) (hsn _ _ hrng hmr),by omega⟩
   have hne:1≤st.length:=by
    have:1≤zAf c:=by
     have hx:zAf c=1∨zAf c=2:=by
      unfold zAf;rw[if_neg (by omega),if_neg (by omega)]
      split
      ·exact .inl rfl
      ·exact .inr rfl
     omega
    omega
   have h9:¬(c:Int)≤9:=by omega
   have h1n:¬(c:Int)=1:=by omega
   by_cases d10:c=10
   ·subst d10
    obtain⟨pre,x,rfl⟩:=snoc (st:=st) hne;obtain⟨w,u,cs,q6,hcs,hw1,hw2,x1,x2,x3,hset,_⟩:=zFv hown;have hs:zBi p en ⟨(10:Nat),item,icol,iN,ito⟩ pos (pre++[x])=some (pos+1,pre++[zXw x]):=by
     rw[zR9 hr rfl];simp
    have hpr:∀v∈pre,Rng v.n:=fun v hv=>hrng v (by simp[hv])
    have hxr:=hsn pre (zXw x) hpr (yF5 (hrng x (by simp)))
    have hwt:IntKind.i64.wrap ((pre.length:Int))=pre.length:=zMq (by unfold Rng;simp at b1;omega)
    have hwI:(pre.length:Int)<(pre.length:Int)+1:=by omega
    have yw:¬w=n':=by omega
    have yw3:n≤w:=by omega
    have yw4:¬n=w:=by omega
    have yw5:¬n+1=w:=by omega
    have yw6:¬n+2=w:=by omega
    obtain⟨xk,xn⟩:=x;obtain⟨mv,hmv⟩:∃mv,mv=zXw ⟨xk,xn⟩:=⟨_,rfl⟩;rw[←hmv]at hs hxr;simp only[]at x1 x2;simp[evw,S29,q2,q4,q7,hb0,hb2,ii,hlt,hro,c0,c1,c2,c3,c4,hw5,hwp,z0,z5,q6,hcs,yw,x1,x2,x3,hwt,hwI,zWn,g37,yV,deV,vv,←hmv];refine⟨fin _ _ _ _ hs (by simp[up,q2]) (by simp[up,q3]) (by simp[up,q4]) (by simp[up,ii]) (.inr ⟨w,u,_,by simp[up,q6],by rw[zJ],?_,by omega,by omega⟩) (by simp[zD,hag,f0,yw3]) (by simp[up,z0,yw4]) (by simp[up,z4,yw5]) (by simp[up,z5,yw6]) (by omega) hxr,by omega⟩
    obtain⟨r,hr'⟩:=hset (.v (.bool mv.k)) (.v (.int .i64 mv.n));exact⟨r,by rw[hr'];simp[zBv]⟩
   by_cases d11:c=11
   ·subst d11
    obtain⟨pre,x,rfl⟩:=snoc (st:=st) hne;obtain⟨w,u,cs,q6,hcs,hw1,hw2,x1,x2,x3,hset,_⟩:=zFv hown;have hs:zBi p en ⟨(11:Nat),item,icol,iN,ito⟩ pos (pre++[x])=some (pos+1,pre++[yBh x]):=by
     rw[zR8 hr rfl];simp
    have hpr:∀v∈pre,Rng v.n:=fun v hv=>hrng v (by simp[hv])
    have hxr:=hsn pre (yBh x) hpr (yF2 x);have hwt:IntKind.i64.wrap ((pre.length:Int))=pre.length:=zMq (by unfold Rng;simp at b1;omega)
    have hwI:(pre.length:Int)<(pre.length:Int)+1:=by omega
    have yw:¬w=n':=by omega
    have yw3:n≤w:=by omega
    have yw4:¬n=w:=by omega
    have yw5:¬n+1=w:=by omega
    have yw6:¬n+2=w:=by omega
    obtain⟨xk,xn⟩:=x;obtain⟨mv,hmv⟩:∃mv,mv=yBh ⟨xk,xn⟩:=⟨_,rfl⟩;rw[←hmv]at hs hxr;simp only[]at x1 x2;simp[evw,S29,q2,q4,q7,hb0,hb2,ii,hlt,hro,c0,c1,c2,c3,c4,hw5,hwp,z0,z5,q6,hcs,yw,x1,x2,x3,hwt,hwI,zWn,g19,yV,deV,vv,←hmv];refine⟨fin _ _ _ _ hs (by simp[up,q2]) (by simp[up,q3]) (by simp[up,q4]) (by simp[up,ii]) (.inr ⟨w,u,_,by simp[up,q6],by rw[zJ],?_,by omega,by omega⟩) (by simp[zD,hag,f0,yw3]) (by simp[up,z0,yw4]) (by simp[up,z4,yw5]) (by simp[up,z5,yw6]) (by omega) hxr,by omega⟩
    obtain⟨r,hr'⟩:=hset (.v (.bool mv.k)) (.v (.int .i64 mv.n));exact⟨r,by rw[hr'];simp[zBv]⟩
   by_cases d25:25≤c
   ·have hI25:(25:Int)≤(c:Int):=by omega
    obtain⟨pre,x,rfl⟩:=snoc (st:=st) hne;obtain⟨w,u,cs,q6,hcs,hw1,hw2,x1,x2,x3,hset,r,hr0⟩:=zFv hown;have hwt:IntKind.i64.wrap ((pre.length:Int))=pre.length:=zMq (by unfold Rng;simp at b1;omega)
    have hwI:(pre.length:Int)<(pre.length:Int)+1:=by omega
    have yw:¬w=n':=by omega
    have yw3:n≤w:=by omega
    have yw4:¬n=w:=by omega
    have yw5:¬n+1=w:=by omega
    have yw6:¬n+2=w:=by omega
    obtain⟨xk,xn⟩:=x;simp only[]at x1 x2;have hnz:zAf c=1:=by unfold zAf;rw[if_neg (by omega),if_neg (by omega),if_pos (by omega)]
    have h10:¬(c:Int)=10:=by omega
    have h11:¬(c:Int)=11:=by omega
    have hlt1:¬((pre.length:Int)+1<1):=by omega
    have x3':pre.length*2+1≤cs.length:=by omega
    by_cases k1:ito≤pos
    ·have hbad:zSc p en=bad:=by rw[hrun];exact hst (zOs hr hI25 (.inl k1))
     simp[evw,S29,q2,q4,q7,hb0,hb2,ii,hlt,hro,c0,c1,c2,c3,c4,hw5,z0,z5,hc27,hc26,hcI,hcI',zJa,hnz,q6,h1n,h9,h10,h11,hI25,k1,hbad,bad,zQl,vv,unk,hlt1]
    by_cases k2:(p.code.length:Int)<ito
    ·have hbad:zSc p en=bad:=by rw[hrun];exact hst (zOs hr hI25 (.inr k2))
     simp[evw,S29,q2,q4,q7,hb0,hb2,ii,hlt,hro,c0,c1,c2,c3,c4,hw5,z0,z5,hc27,hc26,hcI,hcI',zJa,hnz,q6,h1n,h9,h10,h11,hI25,k1,k2,hbad,bad,zQl,vv,unk,hlt1]
    obtain⟨tn,rfl⟩:∃tn:Nat,ito=tn:=⟨ito.toNat,by omega⟩
    have k3:pos<tn:=by omega
    have k4:tn≤p.code.length:=by omega
    have k3':¬tn≤pos:=by omega
    have k4':¬p.code.length<tn:=by omega
    have kk:¬((tn:Int)≤pos∨(tn:Int) > p.code.length):=by omega
    have go:((pre++[⟨xk,xn⟩]:List V).getLastD unk)=⟨xk,xn⟩:=by simp
    by_cases hj:xk=true∧(xn≠0↔(c:Int)=26)
    ·have hs:zBi p en ⟨c,item,icol,iN,tn⟩ pos (pre++[⟨xk,xn⟩])=some (tn,pre++[⟨xk,xn⟩]):=by
      have:=zOr (p:=p) (e:=en) (i:=⟨c,item,icol,iN,tn⟩) hr hI25 kk (by rw[go];exact hj)
      simpa using this
     obtain⟨rfl,hj2⟩:=hj;by_cases hx0:xn=0
     ·have hc26':¬(c:Int)=26:=fun e=>(hj2.2 e) hx0
      have bq1:(xn != 0)=false:=by simp[hx0]
      have bq2:((c:Int)==26)=false:=by simpa using hc26'
      simp[evw,S29,q2,q7,hb0,ii,hlt,hro,c0,c1,c2,c3,c4,hw5,z0,hc27,hc26,hcI,hcI',zJa,hnz,q6,h1n,h9,h10,h11,hI25,k3',k4',hwI,hcs,yw,x1,x2,x3,hwt,hx0,hlt1,x3',bq2];refine⟨fin _ _ _ _ hs (by simp[up,q2]) (by simp[up,q3]) (by simp[up,q4]) (by simp[up,ii]) (.inr ⟨w,u,cs,by simp[up,q6],by simp[up,yw,hcs],⟨r,hr0⟩,by omega,by omega⟩) (by simp[zD,hag,f0]) (by simp[up,z0]) (by simp[up,z4]) (by simp[up,z5]) (by omega) hrng,by omega⟩
     ·have hc26':(c:Int)=26:=hj2.1 hx0
      have bq1:(xn != 0)=true:=by simp[hx0]
      have bq2:((c:Int)==26)=true:=by simpa using hc26'
      simp[evw,S29,q2,q7,hb0,ii,hlt,hro,c0,c1,c2,c3,c4,hw5,z0,q6,k3',k4',hwI,hcs,yw,x1,x2,x3,hwt,hc26',hlt1,x3',bq1];refine⟨fin _ _ _ _ hs (by simp[up,q2]) (by simp[up,q3]) (by simp[up,q4]) (by simp[up,ii]) (.inr ⟨w,u,cs,by simp[up,q6],by simp[up,yw,hcs],⟨r,hr0⟩,by omega,by omega⟩) (by simp[zD,hag,f0]) (by simp[up,z0]) (by simp[up,z4]) (by simp[up,z5]) (by omega) hrng,by omega⟩
    ·have hs:zBi p en ⟨c,item,icol,iN,tn⟩ pos (pre++[⟨xk,xn⟩])=some (pos+1,pre++[⟨xk,xn⟩]):=by
      have:=zOq (p:=p) (e:=en) (i:=⟨c,item,icol,iN,tn⟩) hr hI25 kk (by rw[go];exact hj)
      simpa using this
     cases xk with
     | false =>
      simp[evw,S29,q2,q7,hb0,ii,hlt,hro,c0,c1,c2,c3,c4,hw5,hwp,z0,hc27,hc26,hcI,hcI',zJa,hnz,q6,h1n,h9,h10,h11,hI25,k3',k4',hwI,hcs,yw,x1,x2,x3,hwt,hlt1,x3'];refine⟨fin _ _ _ _ hs (by simp[up,q2]) (by simp[up,q3]) (by simp[up,q4]) (by simp[up,ii]) (.inr ⟨w,u,cs,by simp[up,q6],by simp[up,yw,hcs],⟨r,hr0⟩,by omega,by omega⟩) (by simp[zD,hag,f0]) (by simp[up,z0]) (by simp[up,z4]) (by simp[up,z5]) (by omega) hrng,by omega⟩
     | true =>
      by_cases hx0:xn=0
      ·have hc26':(c:Int)=26:=by
        by_cases e:(c:Int)=26
        ·exact e
        ·exact absurd ⟨rfl,⟨fun h=>absurd hx0 h,fun h=>absurd h e⟩⟩ hj
       have bq1:(xn != 0)=false:=by simp[hx0]
       have bq2:((c:Int)==26)=true:=by simpa using hc26'
       simp[evw,S29,q2,q7,hb0,ii,hlt,hro,c0,c1,c2,c3,c4,hw5,hwp,z0,q6,k3',k4',hwI,hcs,yw,x1,x2,x3,hwt,hx0,hc26',hlt1,x3'];refine⟨fin _ _ _ _ hs (by simp[up,q2]) (by simp[up,q3]) (by simp[up,q4]) (by simp[up,ii]) (.inr ⟨w,u,cs,by simp[up,q6],by simp[up,yw,hcs],⟨r,hr0⟩,by omega,by omega⟩) (by simp[zD,hag,f0]) (by simp[up,z0]) (by simp[up,z4]) (by simp[up,z5]) (by omega) hrng,by omega⟩
      ·have hc26':¬(c:Int)=26:=fun e=>hj ⟨rfl,⟨fun _=>e,fun _=>hx0⟩⟩
       have bq1:(xn != 0)=true:=by simp[hx0]
       have bq2:((c:Int)==26)=false:=by simpa using hc26'
       simp[evw,S29,q2,q7,hb0,ii,hlt,hro,c0,c1,c2,c3,c4,hw5,hwp,z0,hc27,hc26,hcI,hcI',zJa,hnz,q6,h1n,h9,h10,h11,hI25,k3',k4',hwI,hcs,yw,x1,x2,x3,hwt,hlt1,x3',bq1,bq2];refine⟨fin _ _ _ _ hs (by simp[up,q2]) (by simp[up,q3]) (by simp[up,q4]) (by simp[up,ii]) (.inr ⟨w,u,cs,by simp[up,q6],by simp[up,yw,hcs],⟨r,hr0⟩,by omega,by omega⟩) (by simp[zD,hag,f0]) (by simp[up,z0]) (by simp[up,z4]) (by simp[up,z5]) (by omega) hrng,by omega⟩
   have hI25:¬(25:Int)≤(c:Int):=by omega
   have hnz:zAf c=2:=by unfold zAf;rw[if_neg (by omega),if_neg (by omega),if_neg (by omega)]
   have hI2:12≤(c:Int)∧(c:Int)<25:=by omega
   obtain⟨pre,y,x,rfl⟩:=yLx (st:=st) (by omega)
   obtain⟨w,u,cs,q6,hcs,hw1,hw2,x1,x2,x4,x5,x3,hset⟩:=zUe hown;have hs:zBi p en ⟨c,item,icol,iN,ito⟩ pos (pre++[y]++[x])=some (pos+1,pre++[zCd ((c:Int)+2) y x]):=by
    rw[zR7 hr hI2];simp
   have hpr:∀v∈pre,Rng v.n:=fun v hv=>hrng v (by simp[hv])
   have hxr:=hsn pre (zCd ((c:Int)+2) y x) hpr (zZm _ (hrng y (by simp)) (hrng x (by simp)))
   have hwt:IntKind.i64.wrap ((pre.length:Int))=pre.length:=zMq (by unfold Rng;simp at b1;omega)
   have hwt1:IntKind.i64.wrap ((pre.length:Int)+2-1)=pre.length+1:=by
    have e1:IntKind.i64.wrap ((pre.length:Int)+2-1)=pre.length+2-1:=zMq (by unfold Rng;simp at b1;omega)
    rw[e1];omega
   have ht1:((pre.length:Int)+1).toNat=pre.length+1:=by omega
   have hl2:¬((pre.length:Int)+2<2):=by omega
   have hl3:(pre.length:Int)<pre.length+2:=by omega
   have hl4:(pre.length:Int)+1<pre.length+2:=by omega
   have hl5:(0:Int)≤pre.length+1:=by omega
   have hl6:pre.length*2+2≤cs.length:=by omega
   have hwo:IntKind.i64.wrap (14+IntKind.i64.wrap ((c:Int)-12))=c+2:=by
    have e1:IntKind.i64.wrap ((c:Int)-12)=c-12:=zMq (by unfold Rng;omega)
    rw[e1];have e2:IntKind.i64.wrap (14+((c:Int)-12))=14+(c-12):=zMq (by unfold Rng;omega)
    rw[e2];omega
   have yw:¬w=n':=by omega
   have yw3:n≤w:=by omega
   have yw4:¬n=w:=by omega
   have yw5:¬n+1=w:=by omega
   have yw6:¬n+2=w:=by omega
   have h10:¬(c:Int)=10:=by omega
   have h11:¬(c:Int)=11:=by omega
   obtain⟨xk,xn⟩:=x;obtain⟨yk,yn⟩:=y;obtain⟨mv,hmv⟩:∃mv,mv=zCd ((c:Int)+2) ⟨yk,yn⟩ ⟨xk,xn⟩:=⟨_,rfl⟩;rw[←hmv]at hs hxr;simp only[]at x1 x2 x4 x5;simp[evw,S29,q2,q7,hb0,ii,hlt,hro,c0,c1,c2,c3,c4,hw5,hwp,hc27,hc26,hcI,hcI',zJa,hnz,q6,h1n,h9,h10,h11,hI25,hcs,yw,x1,x2,x3,x4,x5,hwt,hwt1,hwo,ht1,hl2,hl3,hl4,hl5,hl6,zWn,g42,zKg,deV,deI,vv,←hmv];refine⟨fin _ _ _ _ hs (by simp[up,q2]) (by simp[up,q3]) (by simp[up,q4]) (by simp[up,ii]) (.inr ⟨w,u,_,by simp[up],by rw[zJ],?_,by omega,by omega⟩) (by simp[zD,hag,f0,yw3]) (by simp[up,z0,yw4]) (by simp[up,z4,yw5]) (by simp[up,z5,yw6]) (by omega) hxr,by omega⟩
   obtain⟨r,hr'⟩:=hset (.v (.bool mv.k)) (.v (.int .i64 mv.n));exact⟨r,by rw[hr'];simp[zBv]⟩
  ·have hpe:pos=p.code.length:=by omega
   rw[zS8 (by omega)]at hrun
   subst hpe;have hfl:¬p.code.length<p.code.length:=by omega
   rcases hown with ⟨rfl,q6⟩|⟨w,u,cs,q6,hcs,⟨r,rfl⟩,hw1,hw2⟩
   ·simp[evw,q2,q4,q6,q7,hb0,hb2,s1,s2,ii,hrun,yG4,bad,zQl,vv,unk]
   ·cases st with
    | nil=>simp[evw,q2,q4,q6,q7,hb0,hb2,s1,s2,ii,hrun,yG4,bad,zQl,vv,unk]
    | cons v st=>cases st with
     | nil =>
      have yw:¬w=n+2:=by omega
      simp[evw,q2,q4,q6,q7,hb0,hb2,s1,s2,ii,hrun,yG4,zQl,vv,hcs,zBv]
     | cons v2 st =>
      have hne:¬((st.length:Int)+2=1):=by omega
      simp[evw,q2,q4,q6,q7,hb0,hb2,s1,s2,ii,hrun,yG4,bad,zQl,vv,unk,hne]
 exact key _ rfl rfl
def zBe (N:Nat) (i:Int) (x:Ev):List (List Ev):=(List.range N).map fun j:Nat=>if (j:Int)=i then [x]else []
def zKh (q:Qu) (item:Int) (types:List Int) (own:List Pr) (x:Ev):Bool:=decide (x.ty∈types)&&own.all fun f=>zDc f ⟨zBe q.items.length item x,item,0⟩
structure okPass (q:Pl×Int×List Int×List Pr×Ev):Prop where
 it:q.1.q.items.length≤1000000
 ty:q.2.2.1.length<big
 ow:q.2.2.2.1.length<big
 pr:∀f∈q.2.2.2.1,PrOk f
 ev:zHc q.2.2.2.2
def zVu:=yH (de5 rPl rI (rL dIs) (rL zLg) rE) okPass fun q=>bv (zKh q.1.q q.2.1 q.2.2.1 q.2.2.2.1 q.2.2.2.2)
def yAi:List (FuncId×(List AV→Heap→PRes)):=[(118,zRv),(45,G31)]
theorem yAt:∀n,repZ [Value.slice none 0 0] n=List.replicate n (.v (.slice none 0 0))
 | 0=>rfl
 | n+1=>by
  show (.v (.slice none 0 0):AV)::repZ [Value.slice none 0 0] n=_;rw[yAt n];rfl
theorem zT3 {N:Nat} {i:Int} {x:Ev} {j:Nat} (hj:j<(zBe N i x).length):(zBe N i x)[j]=if (j:Int)=i then [x]else []:=by simp[zBe]
theorem zQf {N:Nat} {i:Int} {x:Ev}:(zBe N i x).length=N:=by simp[zBe]
theorem yCw {h:Heap} {w id:Nat} {N k:Nat} {x:Ev} (hk:k<N) (h1:h w=some ⟨(List.replicate N (.v (.slice none 0 0))).set k (.s id 0 0 1),0,true,1⟩) (h2:h id=some ⟨zAo x,0,true,11⟩):rd zFr h (.s w 0 0 N)=some (zBe N k x):=by
 have hl:(zBe N (k:Int) x).length=N:=zQf;have:rd zFr h (.s w 0 0 (zBe N (k:Int) x).length)=some (zBe N k x):=by
  refine De.sl_in (off:=0) h1 (by simp only[zBp,List.length_replicate];omega) fun i hi => ?_
  rw[hl]at hi;rw[zT3,yQ,xM];have hlt:i<((List.replicate N (.v (.slice none 0 0):AV)).set k (.s id 0 0 1)).length:=by simp;omega
  simp only[];rw[xO hlt,List.take_succ_cons,List.take_zero];by_cases e:k=i
  ·subst e
   rw[List.getElem_set_self,if_pos rfl];exact zB2 Flat.ev (l:=[x]) h2 rfl (r:=[]) (by simp)
  ·rw[List.getElem_set_ne e,List.getElem_replicate,if_neg (by omega)]
   rfl
 rw[hl]at this
 exact this
theorem zMo {h:Heap} {w:Nat} {N:Nat} {i:Int} {x:Ev} (hi:i<0∨(N:Int)≤i) (h1:h w=some ⟨List.replicate N (.v (.slice none 0 0)),0,true,1⟩):rd zFr h (.s w 0 0 N)=some (zBe N i x):=by
 have hl:(zBe N i x).length=N:=zQf;have:rd zFr h (.s w 0 0 (zBe N i x).length)=some (zBe N i x):=by
  refine De.sl_in (off:=0) h1 (by simp only[List.length_replicate];omega) fun j hj => ?_
  rw[hl]at hj;rw[zT3,if_neg (by omega),yQ,xM]
  have hlt:j<(List.replicate N (.v (.slice none 0 0):AV)).length:=by simp;omega
  simp only[];rw[xO hlt,List.take_succ_cons,List.take_zero,List.getElem_replicate];rfl
 rw[hl]at this
 exact this
theorem zJt (X:Ctx) (h:Heap) (a:AV):ldcs X h a 0 11=[ldc X h a 0,ldc X h a 1,ldc X h a 2,ldc X h a 3,ldc X h a 4,ldc X h a 5,ldc X h a 6,ldc X h a 7,ldc X h a 8,ldc X h a 9,ldc X h a 10]:=rfl
theorem yIz {h:Heap} {a:AV} {l:List Pr} (e:rd zLg h a=some l) {j:Nat} (hj:j<l.length):∃id off k ca la,a=.s id k.ver off l.length∧h id=some k∧off+(j*2+2)≤k.cells.length∧k.cells[off+j*2]? = some ca∧k.cells[off+(j*2+1)]? = some la∧zLr h (.g [ca,la])=some l[j]:=by
 rcases zD8 e with ⟨h0,_⟩|⟨id,off,k,h1,h2,h3,h4⟩
 ·rw[h0]at hj;simp at hj
 ·have h5:zLr h (.g ((k.cells.drop (off+j*2)).take 2))=some l[j]:=h4 j hj
  obtain⟨ca,la,h6,h7,h8⟩:=zFe h5;simp only[AV.g.injEq]at h6;have t0:=yI (c:=0) h6 rfl (by omega)
  have t1:=yI (c:=1) h6 rfl (by omega)
  rw[xD]at t1;rw[h6]at h5;exact⟨id,off,k,ca,la,h1,h2,by omega,t0,t1,h5⟩
theorem yCx {N:Nat} {i:Int} {x:Ev} (hx:zHc x) (each:Int):EnOk ⟨zBe N i x,each,0⟩:=by
 refine⟨fun l hl => ?_,fun l hl y hy => ?_,by show Rng 0;unfold Rng;omega⟩
 ·simp only[zBe,xU]at hl
  obtain⟨j,_,rfl⟩:=hl;split<;>simp
 ·simp only[zBe,xU]at hl
  obtain⟨j,_,rfl⟩:=hl;split at hy
  ·rw[zDy.1 hy];exact hx
  ·simp at hy
theorem P76:P0 S29 76 zVu:=by
 refine mkH 5 (S:=S29) (l:=yAi) (zS yNo (zS (P31 P29) yJ)) Tryz.func76 rfl (by kernel_rfl) zNt zRh (fun a=>rfl) (fun args q h n e hp hn => ?_)
 obtain⟨a,b,c,d,f,rfl,e1,e2,e3,e4,e5⟩:=zK2 e;obtain⟨P,item,types,own,x⟩:=q;simp only[]at e1 e2 e3 e4 e5 hp ⊢;obtain⟨p,rfl,pr⟩:=zE1 e1;have:=zBu e2;subst this;have:=zK1 e5;subst this;obtain⟨hit,hty,how,hpr,hev⟩:=hp;simp only[]at hit hty how hpr hev;obtain⟨o1,o2,o3,o4,o5,o6,o7,o8,o9,o10⟩:=pr.is;replace e3:rd dIs h c=some types:=e3;replace e4:rd zLg h d=some own:=e4;obtain⟨s1,s2,s3,s4,s5⟩:=zN e3;obtain⟨t1,t2,t3,t4,t5⟩:=zN e4;obtain⟨u1,u2,u3,u4,u5⟩:=zN pr.qa;have g1:=xP hn e3;have gh:∀h',agree n (roH h) h'→zRv [c,.v (.int .i64 x.ty)] h'=⟨types.length<big,bv (decide (x.ty∈types))⟩:=fun h' ha=>by
  have k1:(rL dIs).run h' c=some types:=g1 h' ha;simp only[zRv,yH,de2,k1,rI,deI,zT,zK]
 have key:∀e:Nat→AV,e 0=.g (xR p P)→e 1=ii item→e 2=c→e 3=d→e 4=ee x→awp (cx S29 (pfL yAi)) (Tryz.f76.body.getD .skip) (zBc (cx S29 (pfL yAi)) Tryz.f76 fun z _ _=>z=bv (zKh P.q item types own x)) ⟨e,roH h,n⟩:=fun e q0 q1 q2 q3 q4=>by
  cases ht:decide (x.ty∈types)with
  | false =>
   simp[evx,Tryz.f76,q0,q2,q4,xR,ee,zAo,ii,ss,bv,uu,o1,o2,o3,o4,o5,o6,o7,o8,o9,o10,yAi,gh,zD,zE,hty,ht,zKh]
  | true =>
   have hpv:zKh P.q item types own x=own.all fun f=>zDc f ⟨zBe P.q.items.length item x,item,0⟩:=by rw[zKh,ht];rfl
   rw[hpv];refine zZ 5 _ _ (R:=fun s=>∃m12 w,s.e 3=d∧s.e 12=.p m12 0 0∧s.h m12=some ⟨[.s w 0 0 P.q.items.length,ii item,ii 0],0,true,3⟩∧rd zFr s.h (.s w 0 0 P.q.items.length)=some (zBe P.q.items.length item x)∧agree n (roH h) s.h∧Fresh s.n s.h∧n≤m12∧m12<s.n∧n≤w∧w<s.n) ?_ fun e1' h1 n1 ⟨m12,w,r3,r12,rb,re,rag,rfr,o1,o2,o3,o4⟩ => ?_
   ·have frh:=zOz hn
    by_cases h2:0≤item
    ·by_cases h3:item<(P.q.items.length:Int)
     ·obtain⟨k,rfl⟩:=Int.eq_ofNat_of_zero_le h2
      have h4:k<P.q.items.length:=by omega
      have h5:k+1≤P.q.items.length:=by omega
      simp[evx,hdC,Tryz.f76,q0,q1,q2,q3,q4,xR,ee,zAo,ii,ss,bv,uu,o1,o2,o3,o4,o5,o6,o7,o8,o9,o10,yAi,gh,zD,zE,hty,ht,u1,u2,yAt,h4,h5,zJt];refine⟨⟨by omega,by omega⟩,yCw (id:=n+3) h4 (by simp[up]) (by simp[up,zAo,ii,uu]),by simp[zF,frh.add]⟩
     ·simp[evx,hdC,Tryz.f76,q0,q1,q2,q3,q4,xR,ee,zAo,ii,ss,bv,uu,o1,o2,o3,o4,o5,o6,o7,o8,o9,o10,yAi,gh,zD,zE,hty,ht,u1,u2,yAt,h2,h3]
      refine⟨⟨by omega,by omega⟩,zMo (.inr (by omega)) (by simp[up]),by simp[zF,frh.add]⟩
    ·have h3:item<0:=by omega
     simp[evx,hdC,Tryz.f76,q0,q1,q2,q3,q4,xR,ee,zAo,ii,ss,bv,uu,o1,o2,o3,o4,o5,o6,o7,o8,o9,o10,yAi,gh,zD,zE,hty,ht,u1,u2,yAt,h2];refine⟨⟨by omega,by omega⟩,zMo (.inl h3) (by simp[up]),by simp[zF,frh.add]⟩
   ·simp only[]at r3 r12 rb re rag rfr o3 o4
    simp[evx,tlC,Tryz.f76,r3,t1,t2];refine yN (fun s=>∃j:Nat,j≤own.length∧s.e 41=d∧s.e 42=ii own.length∧s.e 43=ii j∧s.e 12=.p m12 0 0∧s.h m12=some ⟨[.s w 0 0 P.q.items.length,ii item,ii 0],0,true,3⟩∧rd zFr s.h (.s w 0 0 P.q.items.length)=some (zBe P.q.items.length item x)∧agree n (roH h) s.h∧Fresh s.n s.h∧m12<s.n∧∀i (hi:i<own.length),i<j→zDc own[i] ⟨zBe P.q.items.length item x,item,0⟩=true) (fun s=>own.length-(s.e 43).i.toNat) ⟨0,by omega,by simp[up],by simp[up,ii],by simp[up,ii],by simp[up,r12],rb,re,rag,rfr,by simp only[];omega,fun i hi h=>by omega⟩ ?_
    rintro e' h' n' ⟨j,hj,q41,q42,q43,q12,hb,he,hag,hfr,hm,hno⟩;simp only[]at q41 q42 q43 q12 hb he hag hfr hm;by_cases hlt:j<own.length
    ·obtain⟨id,off,k,ca,la,rfl,hk,ho,c0,c1,hp⟩:=yIz e4 hlt
     have ha':=wR hn hk hag;have hw:=yK (j:=j) (by omega)
     obtain⟨ca',la',ee0,p1,p2⟩:=zFe hp;simp only[AV.g.injEq,List.cons.injEq,and_true]at ee0;obtain⟨rfl,rfl⟩:=ee0;have v1:=(zN p1).2.2.2.1;have v2:=(zN p2).2.2.2.1;have gp:=fun h2 ha=>zSh hn hp h2 ha
     have ag2:∀b1 b2,agree n (roH h) (up (up h' n' b1) n' b2):=fun b1 b2=>by
      have:n≤n':=by omega
      exact (zD this _).2 ((zD this _).2 hag)
     have ge:∀b1 b2,zTl (up (up h' n' b1) n' b2) (.g [.s w 0 0 P.q.items.length,.v (.int .i64 item),.v (.int .i64 0)])=some ⟨zBe P.q.items.length item x,item,0⟩:=fun b1 b2 =>
      zIq (e:=⟨zBe P.q.items.length item x,item,0⟩) (yT hfr he _ ((zD (zC _) _).2 ((zD (zC _) _).2 (zE _ _))))
     have g31:∀b1 b2,G31 [.g [ca,la],.g [.s w 0 0 P.q.items.length,.v (.int .i64 item),.v (.int .i64 0)]] (up (up h' n' b1) n' b2)=⟨okR (own[j],⟨zBe P.q.items.length item x,item,0⟩),bv (zDc own[j] ⟨zBe P.q.items.length item x,item,0⟩)⟩:=fun b1 b2=>by
      simp only[G31,yH,deR,gp _ (ag2 b1 b2),ge b1 b2]
     have hok:okR (own[j],⟨zBe P.q.items.length item x,item,0⟩):=⟨hpr _ (zH hlt),yCx hev item⟩;have hnm:¬m12=n':=by omega
     simp only[ii]at hb;cases hh:zDc own[j] ⟨zBe P.q.items.length item x,item,0⟩with
     | true =>
      rw[hh]at g31;simp[evx,q41,q42,q43,q12,ii,bv,hlt,ha',ho,c0,c1,v1,v2,hb,hnm,yAi,g31,hok,hw];refine⟨⟨j+1,hlt,by omega,yT hfr he _ ((zD (zC _) _).2 ((zD (zC _) _).2 (zE _ _))),(ag2 _ _),(zF (by omega) _).2 ((zF (by omega) _).2 (hfr.add 2)),by omega,fun i hi h1 => ?_⟩,by omega⟩
      by_cases e:i=j
      ·subst e;exact hh
      ·exact hno i hi (by omega)
     | false =>
      rw[hh]at g31;have hall:(own.all fun f=>zDc f ⟨zBe P.q.items.length item x,item,0⟩)=false:=by
       rw[List.all_eq_false];exact⟨own[j],zH hlt,by rw[hh];simp⟩
      simp[evx,q41,q42,q43,q12,ii,bv,hlt,ha',ho,c0,c1,v1,v2,hb,hnm,yAi,g31,hok,hall]
    ·obtain rfl:j=own.length:=by omega
     have hall:(own.all fun f=>zDc f ⟨zBe P.q.items.length item x,item,0⟩)=true:=by
      rw[zR];intro f hf;obtain⟨i,hi,rfl⟩:=xF.1 hf;exact hno i hi hi
     simp[evx,q42,q43,ii,bv,hall]
 exact key _ rfl rfl rfl rfl rfl
theorem zGg (X:Ctx) (h:Heap) (a:AV):ldcs X h a 0 16=[ldc X h a 0,ldc X h a 1,ldc X h a 2,ldc X h a 3,ldc X h a 4,ldc X h a 5,ldc X h a 6,ldc X h a 7,ldc X h a 8,ldc X h a 9,ldc X h a 10,ldc X h a 11,ldc X h a 12,ldc X h a 13,ldc X h a 14,ldc X h a 15]:=rfl
def yKo:Cmp:=⟨0,[],0,0,[],[]⟩
def ng0:Ng:=⟨0,[],0,0,[],[]⟩
theorem zH5 {h:Heap} {a:AV} {l:List Cmp} (e:rd yHb h a=some l) {j:Nat} (hj:j<l.length):∃id off k ty ow cn,a=.s id k.ver off l.length∧h id=some k∧off+(j*6+6)≤k.cells.length∧rd dIs h ty=some l[j].types∧rd zLg h ow=some l[j].own∧rd yJ3 h cn=some l[j].conds∧
  k.cells[off+j*6]? = some (ii l[j].item)∧k.cells[off+(j*6+1)]? = some ty∧k.cells[off+(j*6+2)]? = some (ii l[j].lo)∧k.cells[off+(j*6+3)]? = some (ii l[j].hi)∧k.cells[off+(j*6+4)]? = some ow∧k.cells[off+(j*6+5)]? = some cn:=by
 rcases zD8 e with ⟨rfl,_⟩|⟨id,off,k,h1,h2,h3,h4⟩
 ·simp at hj
 ·obtain⟨ty,ow,cn,h5,h6,h7,h8⟩:=zP2 (h4 j hj)
  have t0:=yI (c:=0) h5 rfl (by omega)
  have t1:=yI (c:=1) h5 rfl (by omega)
  have t2:=yI (c:=2) h5 rfl (by omega)
  have t3:=yI (c:=3) h5 rfl (by omega)
  have t4:=yI (c:=4) h5 rfl (by omega)
  have t5:=yI (c:=5) h5 rfl (by omega)
  have hm:j*6+6≤l.length*6:=by omega
  rw[xD]at t1 t2 t3 t4 t5;exact⟨id,off,k,ty,ow,cn,h1,h2,by omega,h6,h7,h8,t0,t1,t2,t3,t4,t5⟩
theorem yF4 {h:Heap} {a:AV} {l:List Ng} (e:rd yMq h a=some l) {j:Nat} (hj:j<l.length):∃id off k ty ow cn,a=.s id k.ver off l.length∧h id=some k∧off+(j*6+6)≤k.cells.length∧rd dIs h ty=some l[j].types∧rd zLg h ow=some l[j].own∧rd zLg h cn=some l[j].rest∧
  k.cells[off+j*6]? = some (ii l[j].item)∧k.cells[off+(j*6+1)]? = some ty∧k.cells[off+(j*6+2)]? = some (ii l[j].after)∧k.cells[off+(j*6+3)]? = some (ii l[j].before)∧k.cells[off+(j*6+4)]? = some ow∧k.cells[off+(j*6+5)]? = some cn:=by
 rcases zD8 e with ⟨rfl,_⟩|⟨id,off,k,h1,h2,h3,h4⟩
 ·simp at hj
 ·obtain⟨ty,ow,cn,h5,h6,h7,h8⟩:=zTj (h4 j hj)
  have t0:=yI (c:=0) h5 rfl (by omega)
  have t1:=yI (c:=1) h5 rfl (by omega)
  have t2:=yI (c:=2) h5 rfl (by omega)
  have t3:=yI (c:=3) h5 rfl (by omega)
  have t4:=yI (c:=4) h5 rfl (by omega)
  have t5:=yI (c:=5) h5 rfl (by omega)
  have hm:j*6+6≤l.length*6:=by omega
  rw[xD]at t1 t2 t3 t4 t5;exact⟨id,off,k,ty,ow,cn,h1,h2,by omega,h6,h7,h8,t0,t1,t2,t3,t4,t5⟩
def zFz (P:Pl) (c:Int) (x:Ev):Bool:=if 0≤c∧c<(P.comps.length:Int)then zKh P.q (P.comps.getD c.toNat yKo).item (P.comps.getD c.toNat yKo).types (P.comps.getD c.toNat yKo).own x else false
def zEm (P:Pl) (c:Int) (x:Ev):Bool:=if 0≤c∧c<(P.negs.length:Int)then zKh P.q (P.negs.getD c.toNat ng0).item (P.negs.getD c.toNat ng0).types (P.negs.getD c.toNat ng0).own x else false
structure okTk (q:Pl×Int×Ev):Prop where
 it:q.1.q.items.length≤1000000
 ln:q.1.comps.length<big
 cs:∀k∈q.1.comps,k.types.length<big∧k.own.length<big∧∀f∈k.own,PrOk f
 ev:zHc q.2.2
structure okGd (q:Pl×Int×Ev):Prop where
 it:q.1.q.items.length≤1000000
 ln:q.1.negs.length<big
 cs:∀k∈q.1.negs,k.types.length<big∧k.own.length<big∧∀f∈k.own,PrOk f
 ev:zHc q.2.2
def zT6:=yH (de3 rPl rI rE) okTk fun q=>bv (zFz q.1 q.2.1 q.2.2)
def zN6:=yH (de3 rPl rI rE) okGd fun q=>bv (zEm q.1 q.2.1 q.2.2)
def yDi:List (FuncId×(List AV→Heap→PRes)):=[(76,zVu)]
theorem P30:P0 S29 30 zT6:=by
 refine mkH 3 (S:=S29) (l:=yDi) (zS P76 yJ) Tryz.func30 rfl (by kernel_rfl) zNv zRi (fun a=>rfl) (fun args q h n e hp hn => ?_)
 obtain⟨a,b,c,rfl,e1,e2,e3⟩:=zFg e;obtain⟨P,i,x⟩:=q;simp only[]at e1 e2 e3 hp ⊢;obtain⟨p,rfl,pr⟩:=zE1 e1;have:=zBu e2;subst this;have:=zK1 e3;subst this;obtain⟨hit,hln,hcs,hev⟩:=hp;simp only[]at hit hln hcs hev;obtain⟨o1,o2,o3,o4,o5,o6,o7,o8,o9,o10⟩:=pr.is;obtain⟨s1,s2,s3,s4,s5⟩:=zN pr.cm;have key:∀e:Nat→AV,e 0=.g (xR p P)→e 1=ii i→e 2=ee x→awp (cx S29 (pfL yDi)) (Tryz.f30.body.getD .skip) (zBc (cx S29 (pfL yDi)) Tryz.f30 fun z _ _=>z=bv (zFz P i x)) ⟨e,roH h,n⟩:=fun e q0 q1 q2=>by
  by_cases h1:0≤i
  ·obtain⟨j,rfl⟩:=Int.eq_ofNat_of_zero_le h1
   by_cases h2:j<P.comps.length
   ·obtain⟨id,off,k,ty,ow,cn,hu,hk,ho,r1,r2,r3,t0,t1,t2,t3,t4,t5⟩:=zH5 pr.cm h2
    have hk':=zSd h hk;have hne:¬id=n:=by have:=xB hk hn;omega
    have hne1:¬id=n+1:=by have:=xB hk hn;omega
    have hne2:¬id=n+2:=by have:=xB hk hn;omega
    have hv:zFz P (j:Int) x=zKh P.q P.comps[j].item P.comps[j].types P.comps[j].own x:=by
     have hg:P.comps.getD j yKo=P.comps[j]:=by rw[zB,zA h2];rfl
     simp only[zFz,yF,hg];rw[if_pos ⟨by omega,by omega⟩]
    obtain⟨c1,c2,c3⟩:=hcs _ (zH h2);rw[hv];generalize P.comps[j]=cm at *;have v1:=(zN r1).2.2.2.1;have v2:=(zN r2).2.2.2.1;have v3:=(zN r3).2.2.2.1;have hg:∀h',agree n (roH h) h'→zVu [.g (xR p P),ii cm.item,ty,ow,ee x] h'=⟨okPass (P,cm.item,cm.types,cm.own,x),bv (zKh P.q cm.item cm.types cm.own x)⟩:=fun h' ha=>by
     have k1:rPl.run h' (.g (xR p P))=some P:=rPl.agree hn e1 h' ha;have k2:(rL dIs).run h' ty=some cm.types:=xP hn r1 h' ha;have k3:(rL zLg).run h' ow=some cm.own:=xP hn r2 h' ha;have k4:rE.run h' (ee x)=some x:=e3;have k5:rI.run h' (ii cm.item)=some cm.item:=rfl;simp only[zVu,yH,de5,de4,k1,k2,k3,k4,k5,zT,zK]
    simp only[xR,ee,zAo,ii,ss,bv,uu,hu]at hg;have h2':¬P.comps.length≤j:=by omega
    have hok:okPass (P,cm.item,cm.types,cm.own,x):=⟨hit,c1,c2,c3,hev⟩;simp[evx,Tryz.f30,q0,q1,q2,xR,ee,zAo,ii,ss,bv,uu,o1,o2,o3,o4,o6,o7,o8,o9,o10,h2,hu,hk',hne,hne1,ho,t0,t1,t2,t3,t4,t5,v1,v2,v3,Blk.ro,zHt,zGg,zJt,yDi,hg,zD,zE,h2'];exact hok
   ·have h3:¬(j:Int)<(P.comps.length:Int):=by omega
    have hv:zFz P (j:Int) x=false:=by simp only[zFz];rw[if_neg (by omega)]
    simp[evx,Tryz.f30,q0,q1,q2,xR,ee,zAo,ii,ss,bv,uu,o1,o2,o3,o4,o5,o6,o7,o8,o9,o10,s1,s2,h2,hv]
  ·have hv:zFz P i x=false:=by simp only[zFz];rw[if_neg (by omega)]
   have h1':i<0:=by omega
   simp[evx,Tryz.f30,q0,q1,q2,xR,ee,zAo,ii,ss,bv,uu,o1,o2,o3,o4,o5,o6,o7,o8,o9,o10,h1',hv]
 exact key _ rfl rfl rfl
theorem P32:P0 S29 32 zN6:=by
 refine mkH 3 (S:=S29) (l:=yDi) (zS P76 yJ) Tryz.func32 rfl (by kernel_rfl) zNv zRi (fun a=>rfl) (fun args q h n e hp hn => ?_)
 obtain⟨a,b,c,rfl,e1,e2,e3⟩:=zFg e;obtain⟨P,i,x⟩:=q;simp only[]at e1 e2 e3 hp ⊢;obtain⟨p,rfl,pr⟩:=zE1 e1;have:=zBu e2;subst this;have:=zK1 e3;subst this;obtain⟨hit,hln,hcs,hev⟩:=hp;simp only[]at hit hln hcs hev;obtain⟨o1,o2,o3,o4,o5,o6,o7,o8,o9,o10⟩:=pr.is;obtain⟨s1,s2,s3,s4,s5⟩:=zN pr.ng;have key:∀e:Nat→AV,e 0=.g (xR p P)→e 1=ii i→e 2=ee x→awp (cx S29 (pfL yDi)) (Tryz.f32.body.getD .skip) (zBc (cx S29 (pfL yDi)) Tryz.f32 fun z _ _=>z=bv (zEm P i x)) ⟨e,roH h,n⟩:=fun e q0 q1 q2=>by
  by_cases h1:0≤i
  ·obtain⟨j,rfl⟩:=Int.eq_ofNat_of_zero_le h1
   by_cases h2:j<P.negs.length
   ·obtain⟨id,off,k,ty,ow,cn,hu,hk,ho,r1,r2,r3,t0,t1,t2,t3,t4,t5⟩:=yF4 pr.ng h2
    have hk':=zSd h hk;have hne:¬id=n:=by have:=xB hk hn;omega
    have hne1:¬id=n+1:=by have:=xB hk hn;omega
    have hne2:¬id=n+2:=by have:=xB hk hn;omega
    have hv:zEm P (j:Int) x=zKh P.q P.negs[j].item P.negs[j].types P.negs[j].own x:=by
     have hg:P.negs.getD j ng0=P.negs[j]:=by rw[zB,zA h2];rfl
     simp only[zEm,yF,hg];rw[if_pos ⟨by omega,by omega⟩]
    obtain⟨c1,c2,c3⟩:=hcs _ (zH h2);rw[hv];generalize P.negs[j]=cm at *;have v1:=(zN r1).2.2.2.1;have v2:=(zN r2).2.2.2.1;have v3:=(zN r3).2.2.2.1;have hg:∀h',agree n (roH h) h'→zVu [.g (xR p P),ii cm.item,ty,ow,ee x] h'=⟨okPass (P,cm.item,cm.types,cm.own,x),bv (zKh P.q cm.item cm.types cm.own x)⟩:=fun h' ha=>by
     have k1:rPl.run h' (.g (xR p P))=some P:=rPl.agree hn e1 h' ha;have k2:(rL dIs).run h' ty=some cm.types:=xP hn r1 h' ha;have k3:(rL zLg).run h' ow=some cm.own:=xP hn r2 h' ha;have k4:rE.run h' (ee x)=some x:=e3;have k5:rI.run h' (ii cm.item)=some cm.item:=rfl;simp only[zVu,yH,de5,de4,k1,k2,k3,k4,k5,zT,zK]
    simp only[xR,ee,zAo,ii,ss,bv,uu,hu]at hg;have h2':¬P.negs.length≤j:=by omega
    have hok:okPass (P,cm.item,cm.types,cm.own,x):=⟨hit,c1,c2,c3,hev⟩;simp[evx,Tryz.f32,q0,q1,q2,xR,ee,zAo,ii,ss,bv,uu,o1,o2,o3,o4,o5,o7,o8,o9,o10,h2,hu,hk',hne,hne1,ho,t0,t1,t2,t3,t4,t5,v1,v2,v3,Blk.ro,zHt,zGg,zJt,yDi,hg,zD,zE,h2'];exact hok
   ·have h3:¬(j:Int)<(P.negs.length:Int):=by omega
    have hv:zEm P (j:Int) x=false:=by simp only[zEm];rw[if_neg (by omega)]
    simp[evx,Tryz.f32,q0,q1,q2,xR,ee,zAo,ii,ss,bv,uu,o1,o2,o3,o4,o5,o6,o7,o8,o9,o10,s1,s2,h2,hv]
  ·have hv:zEm P i x=false:=by simp only[zEm];rw[if_neg (by omega)]
   have h1':i<0:=by omega
   simp[evx,Tryz.f32,q0,q1,q2,xR,ee,zAo,ii,ss,bv,uu,o1,o2,o3,o4,o5,o6,o7,o8,o9,o10,h1',hv]
 exact key _ rfl rfl rfl
end Go.Proofs.YtbffkkeieihpdaaGreatDoor
