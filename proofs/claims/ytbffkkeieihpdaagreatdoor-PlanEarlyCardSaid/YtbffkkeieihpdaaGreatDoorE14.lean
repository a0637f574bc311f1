import Derived.Test.YtbffkkeieihpdaaGreatDoorE13
set_option linter.unusedSimpArgs false
set_option linter.unusedVariables false
set_option linter.constructorNameAsVariable false
set_option maxRecDepth 100000
set_option maxHeartbeats 4000000
namespace Go.Proofs.YtbffkkeieihpdaaGreatDoor
open Go Go.Eng
def dN:De Nd where
 run _ l:=yCg l
 sim _ e:=e
def dNs:De (List Nd):=De.sl 6 dN
theorem zKk {h:Heap} {a:AV} {l:List Nd} (e:rd dNs h a=some l):(l=[]∧(a=.v (.slice none 0 0)∨a=.e))∨
  ∃id off k,a=.s id k.ver off l.length∧h id=some k∧off+l.length*6≤k.cells.length∧∀i (hi:i<l.length),(k.cells.drop (off+i*6)).take 6=yC l[i]:=by
 rcases zD8 e with h0|⟨id,off,k,h1,h2,h3,h4⟩
 ·exact .inl h0
 ·exact .inr ⟨id,off,k,h1,h2,h3,fun i hi=>zNn (h4 i hi)⟩
theorem zKo {X:Ctx} {h:Heap} {id ver o:Nat} {k:Blk} {x:Nd} (hk:h id=some k) (he:(k.cells.drop o).take 6=yC x):ldcs X h (.p id ver o) 0 6=yC x:=by
 have hc:∀c y,(yC x)[c]? = some y→c<6→ldc X h (.p id ver o) c=y:=fun c y hy hc=>by
  simp only[ldc,hk,zB,yI he hy hc,wM]
 simp only[ldcs,yC];rw[hc 0 _ rfl (by omega),hc 1 _ rfl (by omega),hc 2 _ rfl (by omega),hc 3 _ rfl (by omega),hc 4 _ rfl (by omega),hc 5 _ rfl (by omega)]
def nd0:Nd:=⟨0,0,ByteArray.empty,ByteArray.empty,0,0⟩
def yG7 (d:List Int) (a:Int) (i:Nat):Int:=if 0≤a∧a<i then d.getD a.toNat 0 else 0
def zJf (d:List Int) (x:Nd) (i:Nat):Int:=if (0≤x.b∧x.b<i)∧yG7 d x.a i<d.getD x.b.toNat 0 then d.getD x.b.toNat 0 else yG7 d x.a i
def zMh (t:List Nd):Nat→List Int
 | 0=>[]
 | j+1=>zMh t j++[zJf (zMh t j) (t.getD j nd0) j+1]
def zI6 (t:List Nd) (j:Nat):Bool:=(List.range j).any fun i=>decide (65536≤zJf (zMh t i) (t.getD i nd0) i)
def zPy (t:List Nd):Bool:=zI6 t t.length
theorem zTh (t:List Nd):∀j,(zMh t j).length=j
 | 0=>rfl
 | j+1=>by simp[zMh,zTh t j]
theorem zKw (t:List Nd) (j:Nat):zI6 t (j+1)=(zI6 t j||decide (65536≤zJf (zMh t j) (t.getD j nd0) j)):=by
 simp[zI6,zCs]
theorem yCd {t:List Nd} {j:Nat} (hj:j<t.length) (h:65536≤zJf (zMh t j) (t.getD j nd0) j):zPy t=true:=by
 simp only[zPy,zI6,zA7,zAm];exact⟨j,hj,decide_eq_true h⟩
theorem zMg {t:List Nd}:∀{j:Nat},zI6 t j=false→∀x∈zMh t j,0≤x∧x≤65536
 | 0,_,x,hx=>by simp[zMh]at hx
 | j+1,h,x,hx=>by
  rw[zKw,Bool.or_eq_false_iff]at h;have ih:=zMg h.1;simp only[zMh,wB,zDy]at hx;rcases hx with hx|rfl
  ·exact ih x hx
  ·have h2:=of_decide_eq_false h.2
   have key:∀i:Nat,0≤(zMh t j).getD i 0:=fun i=>by
    rw[zB];cases e:(zMh t j)[i]? with
    | none=>simp
    | some y=>exact (ih y (xW e)).1
   have:0≤zJf (zMh t j) (t.getD j nd0) j:=by
    unfold zJf yG7
    repeat' split
    all_goals first|exact key _|exact Int.le_refl _
   omega
def deT (h:Heap):List AV→Option (List Nd)
 | [a]=>rd dNs h a
 | _=>none
theorem zG4 {h:Heap} {args:List AV} {q:List Nd} (e:deT h args=some q):∃a,args=[a]∧rd dNs h a=some q:=by
 unfold deT at e;split at e
 ·exact⟨_,rfl,e⟩
 ·cases e
theorem zNj (h h':Heap) (args:List AV) (q:List Nd) (hh:h.le h') (e:deT h args=some q):deT h' args=some q:=by
 obtain⟨a,rfl,e1⟩:=zG4 e;simp only[deT,yZ hh e1]
def xQ (t:List Nd):Prop:=t.length*64≤140737488355328
def G15:=yH deT xQ fun t=>bv (zPy t)
theorem P15:P0 [] 52 G15:=by
 refine mkH 1 (S:=[]) (l:=[]) yJ Tryz.func52 rfl (by kernel_rfl) zNj (fun h l x e=>by obtain⟨a,rfl,_⟩:=zG4 e;exact zC _) (fun a=>rfl) (fun args t h n e hp hn => ?_)
 obtain⟨a,rfl,e1⟩:=zG4 e;obtain⟨s1,s2,s3,s4,s5⟩:=zN e1;have hp':t.length*64≤140737488355328:=hp;have key:∀e:Nat→AV,e 0=a→awp (cx [] (pfL [])) (Tryz.f52.body.getD .skip) (zBc (cx [] (pfL [])) Tryz.f52 fun z _ _=>z=bv (zPy t)) ⟨e,roH h,n⟩:=fun e q0=>by
  simp[evx,Tryz.f52];refine yN (fun s=>∃j,j≤t.length∧s.e 0=a∧Own s.h n s.n (s.e 3) j ((zMh t j).map ii) 1∧s.e 4=ii j∧agree n (roH h) s.h∧n≤s.n∧zI6 t j=false) (fun s=>t.length-(s.e 4).i.toNat) ⟨0,by simp[up,q0,ii,zE,zMh,zI6,Own]⟩ ?_
  rintro e' h' n' ⟨j,hj,q0,hown,q4,hag,hnn,hdp⟩;simp only[]at q0 hown q4 hag hnn;by_cases hlt:j<t.length
  ·rcases zKk e1 with ⟨h0,_⟩|⟨id,off,k,rfl,hk,ho,hat⟩
   ·rw[h0]at hlt;simp at hlt
   have hr:=hat j hlt;have ha':=wR hn hk hag;have c4:=yI (c:=4) hr rfl (by omega)
   have c5:=yI (c:=5) hr rfl (by omega)
   rw[xD]at c4 c5;have w4:off+(j*6+5)≤k.cells.length:=by omega
   have w5:off+(j*6+6)≤k.cells.length:=by omega
   have hw:=yK (j:=j) (by unfold big;omega)
   have hg:t.getD j nd0=t[j]:=by rw[zB,zA hlt];rfl
   have hdl:=zTh t j;have hds:zMh t (j+1)=zMh t j++[zJf (zMh t j) t[j] j+1]:=by rw[zMh,hg]
   have hbd:=zMg hdp;have hsu:=zKw t j;rw[hdp,Bool.false_or,hg]at hsu;have hhit:=fun h=>yCd (t:=t) hlt (by rw[hg];exact h)
   generalize t[j]=x at *;generalize zMh t j=d at *;have hid:id<n:=xB hk hn;have hb3:(j+1)*8≤140737488355328:=by omega
   have hb4:j+1≤9223372036854775807:=by omega
   obtain⟨op,num,var,attr,xa,xb⟩:=x;simp only[]at c4 c5;have hget:∀p:Nat,p<j→d[p]? = some (d.getD p 0):=fun p hp=>by
    rw[zB,zA (by omega)];rfl
   have hbd2:∀p:Nat,p<j→0≤d.getD p 0∧d.getD p 0≤65536:=fun p hp=>hbd _ (xW (hget p hp))
   have hwm:∀m:Int,0≤m→m≤65536→IntKind.i64.wrap (m+1)=m+1:=fun m h0 h1=>by
    obtain⟨k,rfl⟩:∃k:Nat,m=k:=⟨m.toNat,by omega⟩
    rw[yK (by unfold big;omega)];omega
   -- what the two operands come to
   obtain⟨mA,hmA,hmA1,hmA2⟩:∃mA:Int,yG7 d xa j=mA∧0≤mA∧mA≤65536:=by
    refine⟨_,rfl,?_⟩;unfold yG7;split
    ·rename_i hA;exact hbd2 _ (by omega)
    ·omega
   have hcl:(d.map ii).length=j:=by rw[zQ,hdl]
   have hcx:∀(p:Nat) (hx:p<(d.map ii).length),(d.map ii)[p]=AV.v (.int .i64 (d.getD p 0)):=fun p hx=>by
    have hp:p<d.length:=by simpa using hx
    rw[wN,zB,zA hp];rfl
   generalize hcs:d.map ii=cs at *;by_cases hA:0≤xa∧xa<j
   ·obtain⟨p,rfl⟩:∃p:Nat,xa=p:=⟨xa.toNat,by omega⟩
    have hpj:p<j:=by omega
    have gp:=hcx p;have hpj':p+1≤j:=hpj;have hA':d.getD p 0=mA:=by rw[←hmA,yG7,if_pos hA];simp
    rw[hA']at gp;have hA1:True:=trivial;rcases hown with ⟨hj0,_⟩|⟨w,u,q3,hk3,hw1,hw2⟩
    ·omega
    have y4:n≤w:=by omega
    have y5:¬w=n':=by omega
    by_cases hB:0≤xb∧xb<j
    ·obtain⟨q,rfl⟩:∃q:Nat,xb=q:=⟨xb.toNat,by omega⟩
     have hqj:q<j:=by omega
     have gq:=hcx q;have hqj':q+1≤j:=hqj;have hq2:=hbd2 q hqj;generalize hB':d.getD q 0=mB at *;by_cases hlt2:mA<mB
     ·have hN:zJf d ⟨op,num,var,attr,p,q⟩ j=mB:=by simp only[zJf,hmA,yF,hB',if_pos (And.intro hB hlt2)]
      by_cases hdeep:65536≤mB
      ·have hf:=hhit (by rw[hN];exact hdeep)
       simp[evx,q0,q3,q4,ii,hlt,ha',c4,c5,w4,w5,hk3,hcl,hpj,hpj',gp,hqj,hqj',gq,hlt2,hdeep,hf,bv]
      ·simp[evx,q0,q3,q4,ii,hlt,ha',c4,c5,w4,w5,hk3,hcl,hpj,hpj',gp,hqj,hqj',gq,hlt2,hdeep,hwm mB hq2.1 hq2.2,hb3,hb4,hw,y5,zD,hag,hnn,y4]
       exact⟨⟨j+1,by omega,.inr ⟨w,u+1,rfl,by rw[zJ,hds,hN,yE,hcs];rfl,by omega,by omega⟩,by omega,by omega,by rw[hsu,hN];simp;omega⟩,by omega⟩
     ·have hN:zJf d ⟨op,num,var,attr,p,q⟩ j=mA:=by simp only[zJf,hmA,yF,hB',if_neg (fun hx:_∧_=>hlt2 hx.2)]
      by_cases hdeep:65536≤mA
      ·have hf:=hhit (by rw[hN];exact hdeep)
       simp[evx,q0,q3,q4,ii,hlt,ha',c4,c5,w4,w5,hk3,hcl,hpj,hpj',gp,hqj,hqj',gq,hlt2,hdeep,hf,bv]
      ·simp[evx,q0,q3,q4,ii,hlt,ha',c4,c5,w4,w5,hk3,hcl,hpj,hpj',gp,hqj,hqj',gq,hlt2,hdeep,hwm mA hmA1 hmA2,hb3,hb4,hw,y5,zD,hag,hnn,y4]
       exact⟨⟨j+1,by omega,.inr ⟨w,u+1,rfl,by rw[zJ,hds,hN,yE,hcs];rfl,by omega,by omega⟩,by omega,by omega,by rw[hsu,hN];simp;omega⟩,by omega⟩
    ·have hN:zJf d ⟨op,num,var,attr,p,xb⟩ j=mA:=by simp only[zJf,hmA,if_neg (fun hx:_∧_=>hB hx.1)]
     have hB1:0≤xb→¬xb<j:=fun h1 h2=>hB ⟨h1,h2⟩
     by_cases hB0:0≤xb
     ·have hB2:=hB1 hB0
      by_cases hdeep:65536≤mA
      ·have hf:=hhit (by rw[hN];exact hdeep)
       simp[evx,q0,q3,q4,ii,hlt,ha',c4,c5,w4,w5,hk3,hcl,hpj,hpj',gp,hB0,hB2,hdeep,hf,bv]
      ·simp[evx,q0,q3,q4,ii,hlt,ha',c4,c5,w4,w5,hk3,hcl,hpj,hpj',gp,hB0,hB2,hdeep,hwm mA hmA1 hmA2,hb3,hb4,hw,y5,zD,hag,hnn,y4]
       exact⟨⟨j+1,by omega,.inr ⟨w,u+1,rfl,by rw[zJ,hds,hN,yE,hcs];rfl,by omega,by omega⟩,by omega,by omega,by rw[hsu,hN];simp;omega⟩,by omega⟩
     ·have hB2:=hB0
      by_cases hdeep:65536≤mA
      ·have hf:=hhit (by rw[hN];exact hdeep)
       simp[evx,q0,q3,q4,ii,hlt,ha',c4,c5,w4,w5,hk3,hcl,hpj,hpj',gp,hB0,hdeep,hf,bv]
      ·simp[evx,q0,q3,q4,ii,hlt,ha',c4,c5,w4,w5,hk3,hcl,hpj,hpj',gp,hB0,hdeep,hwm mA hmA1 hmA2,hb3,hb4,hw,y5,zD,hag,hnn,y4]
       exact⟨⟨j+1,by omega,.inr ⟨w,u+1,rfl,by rw[zJ,hds,hN,yE,hcs];rfl,by omega,by omega⟩,by omega,by omega,by rw[hsu,hN];simp;omega⟩,by omega⟩
   ·have hA':mA=0:=by rw[←hmA,yG7,if_neg hA]
    subst hA';have hw01:IntKind.i64.wrap 1=1:=hwm 0 (by omega) (by omega)
    have hA0:0≤xa→¬xa<j:=fun h1 h2=>hA ⟨h1,h2⟩
    by_cases hA2:0≤xa
    ·have hA1:=hA0 hA2
     by_cases hB:0≤xb∧xb<j
     ·obtain⟨q,rfl⟩:∃q:Nat,xb=q:=⟨xb.toNat,by omega⟩
      rcases hown with ⟨hj0,_⟩|⟨w,u,q3,hk3,hw1,hw2⟩
      ·omega
      have y4:n≤w:=by omega
      have y5:¬w=n':=by omega
      have hqj:q<j:=by omega
      have gq:=hcx q;have hqj':q+1≤j:=hqj;have hq2:=hbd2 q hqj;generalize hB':d.getD q 0=mB at *;by_cases hlt2:0<mB
      ·have hN:zJf d ⟨op,num,var,attr,xa,q⟩ j=mB:=by simp only[zJf,hmA,yF,hB',if_pos (And.intro hB hlt2)]
       by_cases hdeep:65536≤mB
       ·have hf:=hhit (by rw[hN];exact hdeep)
        simp[evx,q0,q3,q4,ii,hlt,ha',c4,c5,w4,w5,hk3,hcl,hA1,hqj,hqj',gq,hlt2,hdeep,hf,bv]
       ·simp[evx,q0,q3,q4,ii,hlt,ha',c4,c5,w4,w5,hk3,hcl,hA1,hqj,hqj',gq,hlt2,hdeep,hwm mB hq2.1 hq2.2,hb3,hb4,hw,y5,zD,hag,hnn,y4]
        exact⟨⟨j+1,by omega,.inr ⟨w,u+1,rfl,by rw[zJ,hds,hN,yE,hcs];rfl,by omega,by omega⟩,by omega,by omega,by rw[hsu,hN];simp;omega⟩,by omega⟩
      ·have hN:zJf d ⟨op,num,var,attr,xa,q⟩ j=0:=by simp only[zJf,hmA,yF,hB',if_neg (fun hx:_∧_=>hlt2 hx.2)]
       simp[evx,q0,q3,q4,ii,hlt,ha',c4,c5,w4,w5,hk3,hcl,hA1,hqj,hqj',gq,hlt2,hw01,hb3,hb4,hw,y5,zD,hag,hnn,y4];exact⟨⟨j+1,by omega,.inr ⟨w,u+1,rfl,by rw[zJ,hds,hN,yE,hcs];rfl,by omega,by omega⟩,by omega,by omega,by rw[hsu,hN];rfl⟩,by omega⟩
     ·have hN:zJf d ⟨op,num,var,attr,xa,xb⟩ j=0:=by simp only[zJf,hmA,if_neg (fun hx:_∧_=>hB hx.1)]
      have hB1:0≤xb→¬xb<j:=fun h1 h2=>hB ⟨h1,h2⟩
      by_cases hB0:0≤xb
      ·have hB2:=hB1 hB0
       rcases hown with ⟨hj0,hnil,q3⟩|⟨w,u,q3,hk3,hw1,hw2⟩
       ·have nn1:n≤n'+1:=by omega
        have hb3:j*8+8≤140737488355328:=by omega
        simp[evx,q0,q3,q4,ii,hlt,ha',c4,c5,w4,w5,hA1,hB0,hB2,hw01,hw,zD,hag,hnn,nn1];exact⟨⟨j+1,by omega,.inr ⟨n'+1,0,by rw[hj0],by rw[zJ,hds,hN,yE,hcs,hnil];rfl,by omega,by omega⟩,by omega,by omega,by rw[hsu,hN];rfl⟩,by omega⟩
       ·have y4:n≤w:=by omega
        have y5:¬w=n':=by omega
        simp[evx,q0,q3,q4,ii,hlt,ha',c4,c5,w4,w5,hk3,hcl,hA1,hB0,hB2,hw01,hb3,hb4,hw,y5,zD,hag,hnn,y4];exact⟨⟨j+1,by omega,.inr ⟨w,u+1,rfl,by rw[zJ,hds,hN,yE,hcs];rfl,by omega,by omega⟩,by omega,by omega,by rw[hsu,hN];rfl⟩,by omega⟩
      ·have hB2:=hB0
       rcases hown with ⟨hj0,hnil,q3⟩|⟨w,u,q3,hk3,hw1,hw2⟩
       ·have nn1:n≤n'+1:=by omega
        have hb3:j*8+8≤140737488355328:=by omega
        simp[evx,q0,q3,q4,ii,hlt,ha',c4,c5,w4,w5,hA1,hB0,hw01,hw,zD,hag,hnn,nn1];exact⟨⟨j+1,by omega,.inr ⟨n'+1,0,by rw[hj0],by rw[zJ,hds,hN,yE,hcs,hnil];rfl,by omega,by omega⟩,by omega,by omega,by rw[hsu,hN];rfl⟩,by omega⟩
       ·have y4:n≤w:=by omega
        have y5:¬w=n':=by omega
        simp[evx,q0,q3,q4,ii,hlt,ha',c4,c5,w4,w5,hk3,hcl,hA1,hB0,hw01,hb3,hb4,hw,y5,zD,hag,hnn,y4];exact⟨⟨j+1,by omega,.inr ⟨w,u+1,rfl,by rw[zJ,hds,hN,yE,hcs];rfl,by omega,by omega⟩,by omega,by omega,by rw[hsu,hN];rfl⟩,by omega⟩
    ·have hA1:=hA2
     by_cases hB:0≤xb∧xb<j
     ·obtain⟨q,rfl⟩:∃q:Nat,xb=q:=⟨xb.toNat,by omega⟩
      rcases hown with ⟨hj0,_⟩|⟨w,u,q3,hk3,hw1,hw2⟩
      ·omega
      have y4:n≤w:=by omega
      have y5:¬w=n':=by omega
      have hqj:q<j:=by omega
      have gq:=hcx q;have hqj':q+1≤j:=hqj;have hq2:=hbd2 q hqj;generalize hB':d.getD q 0=mB at *;by_cases hlt2:0<mB
      ·have hN:zJf d ⟨op,num,var,attr,xa,q⟩ j=mB:=by simp only[zJf,hmA,yF,hB',if_pos (And.intro hB hlt2)]
       by_cases hdeep:65536≤mB
       ·have hf:=hhit (by rw[hN];exact hdeep)
        simp[evx,q0,q3,q4,ii,hlt,ha',c4,c5,w4,w5,hk3,hcl,hA1,hqj,hqj',gq,hlt2,hdeep,hf,bv]
       ·simp[evx,q0,q3,q4,ii,hlt,ha',c4,c5,w4,w5,hk3,hcl,hA1,hqj,hqj',gq,hlt2,hdeep,hwm mB hq2.1 hq2.2,hb3,hb4,hw,y5,zD,hag,hnn,y4]
        exact⟨⟨j+1,by omega,.inr ⟨w,u+1,rfl,by rw[zJ,hds,hN,yE,hcs];rfl,by omega,by omega⟩,by omega,by omega,by rw[hsu,hN];simp;omega⟩,by omega⟩
      ·have hN:zJf d ⟨op,num,var,attr,xa,q⟩ j=0:=by simp only[zJf,hmA,yF,hB',if_neg (fun hx:_∧_=>hlt2 hx.2)]
       simp[evx,q0,q3,q4,ii,hlt,ha',c4,c5,w4,w5,hk3,hcl,hA1,hqj,hqj',gq,hlt2,hw01,hb3,hb4,hw,y5,zD,hag,hnn,y4];exact⟨⟨j+1,by omega,.inr ⟨w,u+1,rfl,by rw[zJ,hds,hN,yE,hcs];rfl,by omega,by omega⟩,by omega,by omega,by rw[hsu,hN];rfl⟩,by omega⟩
     ·have hN:zJf d ⟨op,num,var,attr,xa,xb⟩ j=0:=by simp only[zJf,hmA,if_neg (fun hx:_∧_=>hB hx.1)]
      have hB1:0≤xb→¬xb<j:=fun h1 h2=>hB ⟨h1,h2⟩
      by_cases hB0:0≤xb
      ·have hB2:=hB1 hB0
       rcases hown with ⟨hj0,hnil,q3⟩|⟨w,u,q3,hk3,hw1,hw2⟩
       ·have nn1:n≤n'+1:=by omega
        have hb3:j*8+8≤140737488355328:=by omega
        simp[evx,q0,q3,q4,ii,hlt,ha',c4,c5,w4,w5,hA1,hB0,hB2,hw01,hw,zD,hag,hnn,nn1];exact⟨⟨j+1,by omega,.inr ⟨n'+1,0,by rw[hj0],by rw[zJ,hds,hN,yE,hcs,hnil];rfl,by omega,by omega⟩,by omega,by omega,by rw[hsu,hN];rfl⟩,by omega⟩
       ·have y4:n≤w:=by omega
        have y5:¬w=n':=by omega
        simp[evx,q0,q3,q4,ii,hlt,ha',c4,c5,w4,w5,hk3,hcl,hA1,hB0,hB2,hw01,hb3,hb4,hw,y5,zD,hag,hnn,y4];exact⟨⟨j+1,by omega,.inr ⟨w,u+1,rfl,by rw[zJ,hds,hN,yE,hcs];rfl,by omega,by omega⟩,by omega,by omega,by rw[hsu,hN];rfl⟩,by omega⟩
      ·have hB2:=hB0
       rcases hown with ⟨hj0,hnil,q3⟩|⟨w,u,q3,hk3,hw1,hw2⟩
       ·have nn1:n≤n'+1:=by omega
        have hb3:j*8+8≤140737488355328:=by omega
        simp[evx,q0,q3,q4,ii,hlt,ha',c4,c5,w4,w5,hA1,hB0,hw01,hw,zD,hag,hnn,nn1];exact⟨⟨j+1,by omega,.inr ⟨n'+1,0,by rw[hj0],by rw[zJ,hds,hN,yE,hcs,hnil];rfl,by omega,by omega⟩,by omega,by omega,by rw[hsu,hN];rfl⟩,by omega⟩
       ·have y4:n≤w:=by omega
        have y5:¬w=n':=by omega
        simp[evx,q0,q3,q4,ii,hlt,ha',c4,c5,w4,w5,hk3,hcl,hA1,hB0,hw01,hb3,hb4,hw,y5,zD,hag,hnn,y4];exact⟨⟨j+1,by omega,.inr ⟨w,u+1,rfl,by rw[zJ,hds,hN,yE,hcs];rfl,by omega,by omega⟩,by omega,by omega,by rw[hsu,hN];rfl⟩,by omega⟩
  ·obtain rfl:j=t.length:=by omega
   have hf:zPy t=false:=hdp;simp[evx,q0,q4,ii,s1,s2,hf,bv]
 exact key _ rfl
structure It where
 neg:Bool
 types:List ByteArray
 var:ByteArray
 lo:Int
 hi:Int
def dSs:De (List ByteArray):=De.sl 1 De.str
def zGa (h:Heap):List AV→Option It
 | [.v (.bool neg),ty,.v (.string var),.v (.int .i64 lo),.v (.int .i64 hi)]=>(rd dSs h ty).map fun tys=>⟨neg,tys,var,lo,hi⟩
 | _=>none
theorem zD5 {h:Heap} {l:List AV} {x:It} (e:zGa h l=some x):∃ty,l=[bv x.neg,ty,ss x.var,ii x.lo,ii x.hi]∧rd dSs h ty=some x.types:=by
 unfold zGa at e;split at e
 ·simp only[zV]at e
  obtain⟨t,h1,rfl⟩:=e;exact⟨_,rfl,h1⟩
 ·cases e
theorem zGj {h:Heap} {ty:AV} {x:It} (e:rd dSs h ty=some x.types):zGa h [bv x.neg,ty,ss x.var,ii x.lo,ii x.hi]=some x:=by
 simp only[zGa,bv,ss,ii,e,zK]
def dIt:De It where
 run h l:=zGa h l
 sim {h h' l x} hh e:=by
  obtain⟨ty,rfl,h1⟩:=zD5 e;exact zGj (zAe hh h1)
def zG5:De (List It):=De.sl 5 dIt
theorem yJo {h:Heap} {a:AV} {l:List It} (e:rd zG5 h a=some l):(l=[]∧(a=.v (.slice none 0 0)∨a=.e))∨
  ∃id off k,a=.s id k.ver off l.length∧h id=some k∧off+l.length*5≤k.cells.length∧∀i (hi:i<l.length),k.cells[off+(i*5+2)]? = some (ss l[i].var):=by
 rcases zD8 e with h0|⟨id,off,k,h1,h2,h3,h4⟩
 ·exact .inl h0
 ·refine .inr ⟨id,off,k,h1,h2,h3,fun i hi => ?_⟩
  obtain⟨ty,h5,_⟩:=zD5 (h4 i hi);have:=yI (c:=2) h5 rfl (by omega)
  rwa [xD]at this
def zTp:De (List (List Nd)):=De.sl 1 dNs
structure Qu where
 items:List It
 mode:Int
 after:Int
 wh:List Nd
 within:Int
 par:ByteArray
 ret:List (List Nd)
def deQ (h:Heap):AV→Option Qu
 | .g [a,.v (.int .i64 m),.v (.int .i64 f),b,.v (.int .i64 w),.v (.string p),c]=>match rd zG5 h a,rd dNs h b,rd zTp h c with
  | some x,some y,some z=>some ⟨x,m,f,y,w,p,z⟩
  | _,_,_=>none
 | _=>none
theorem wH {h:Heap} {x:AV} {q:Qu} (e:deQ h x=some q):∃a b c,x=.g [a,ii q.mode,ii q.after,b,ii q.within,ss q.par,c]∧rd zG5 h a=some q.items∧rd dNs h b=some q.wh∧rd zTp h c=some q.ret:=by
 unfold deQ at e;split at e
 ·split at e
  ·rename_i e1 e2 e3
   cases e;exact⟨_,_,_,rfl,e1,e2,e3⟩
  ·cases e
 ·cases e
theorem zF9 {h:Heap} {a b c:AV} {q:Qu} (h1:rd zG5 h a=some q.items) (h2:rd dNs h b=some q.wh) (h3:rd zTp h c=some q.ret):deQ h (.g [a,ii q.mode,ii q.after,b,ii q.within,ss q.par,c])=some q:=by
 simp only[deQ,ii,ss,h1,h2,h3]
theorem zC0 {h h':Heap} (hh:h.sim h') {x:AV} {q:Qu} (e:deQ h x=some q):deQ h' x=some q:=by
 obtain⟨a,b,c,rfl,e1,e2,e3⟩:=wH e;exact zF9 (zAe hh e1) (zAe hh e2) (zAe hh e3)
theorem zKe {h:Heap} {n:Nat} {a:AV} {x:Qu} (hn:∀i,n≤i→h i=none) (e:deQ h a=some x):∀h',agree n (roH h) h'→deQ h' a=some x:=fun _ ha=>zC0 (zE4 hn ha) e
theorem zTe {l:List ByteArray} {v:ByteArray} {j:Nat} (hj:j<l.length) (hno:∀i,i<j→(l.getD i ByteArray.empty==v)=false) (hh:(l.getD j ByteArray.empty==v)=true):l.findIdx (· == v)=j:=by
 rw[List.findIdx_eq hj];have hg:∀i (hi:i<l.length),l.getD i ByteArray.empty=l[i]:=fun i hi=>by rw[zB,zA hi];rfl
 refine⟨by rw[hg j hj]at hh;exact hh,fun i hi => ?_⟩
 have:=hno i hi;rw[hg i (by omega)]at this
 exact this
theorem zNh {l:List ByteArray} {v:ByteArray} (hno:∀i,i<l.length→(l.getD i ByteArray.empty==v)=false):l.findIdx (· == v)=l.length:=by
 rw[List.findIdx_eq_length];intro x hx;obtain⟨i,hi,rfl⟩:=xF.1 hx;have:=hno i hi;rw[zB,zA hi]at this
 exact this
def vars (l:List It):List ByteArray:=l.map (·.var)
def wY (l:List ByteArray) (v:ByteArray):Int:=if l.findIdx (· == v)<l.length then l.findIdx (· == v)else -1
def yCf (h:Heap):List AV→Option (Qu×ByteArray)
 | [x,.v (.string v)]=>(deQ h x).map fun q=>(q,v)
 | _=>none
theorem zNl {h:Heap} {args:List AV} {q:Qu×ByteArray} (e:yCf h args=some q):∃x,args=[x,ss q.2]∧deQ h x=some q.1:=by
 unfold yCf at e;split at e
 ·simp only[zV]at e
  obtain⟨t,h1,rfl⟩:=e;exact⟨_,rfl,h1⟩
 ·cases e
theorem yG9 {h:Heap} {x:AV} {q:Qu} {v:ByteArray} (e:deQ h x=some q):yCf h [x,.v (.string v)]=some (q,v):=by simp only[yCf,e,zK]
theorem zYx (h h':Heap) (args:List AV) (q:Qu×ByteArray) (hh:h.le h') (e:yCf h args=some q):yCf h' args=some q:=by
 obtain⟨x,rfl,e1⟩:=zNl e;exact yG9 (zC0 hh.sim e1)
def G91:=yH yCf (fun q=>q.1.items.length<big) fun q=>.t [ii (if wY (vars q.1.items) q.2<0 then 0 else wY (vars q.1.items) q.2),bv (decide (0≤wY (vars q.1.items) q.2))]
theorem P91:P0 [] 162 G91:=by
 refine mkH 2 (S:=[]) (l:=[]) yJ Tryz.func162 rfl (by kernel_rfl) zYx (fun h l x e=>by obtain⟨a,rfl,_⟩:=zNl e;exact zC _) (fun a=>rfl) (fun args q h n e hp hn => ?_)
 obtain⟨x,rfl,e1⟩:=zNl e;obtain⟨a,b,c,rfl,e2,e3,e4⟩:=wH e1;obtain⟨q,v⟩:=q;simp only[]at e2 e3 e4 hp ⊢;obtain⟨s1,s2,s3,s4,s5⟩:=zN e2;have hl:(vars q.items).length=q.items.length:=by simp[vars]
 have o2:=(zN e3).2.2.2.1;have o3:=(zN e4).2.2.2.1;have hgv:∀j (hj:j<q.items.length),(vars q.items).getD j ByteArray.empty=q.items[j].var:=fun j hj=>by rw[zB,vars,xG,zA hj];rfl
 have key:∀e:Nat→AV,e 0=.g [a,ii q.mode,ii q.after,b,ii q.within,ss q.par,c]→e 1=ss v→awp (cx [] (pfL [])) (Tryz.f162.body.getD .skip) (zBc (cx [] (pfL [])) Tryz.f162 fun z _ _=>z=.t [ii (if wY (vars q.items) v<0 then 0 else wY (vars q.items) v),bv (decide (0≤wY (vars q.items) v))]) ⟨e,roH h,n⟩:=fun e q0 q1=>by
  simp[evx,Tryz.f162,q0,ii,ss,s1,s2,s4,o2,o3];refine yN (fun s=>∃j:Nat,j≤q.items.length∧s.e 1=ss v∧s.e 2=.p n 0 0∧s.e 9=ii q.items.length∧s.e 10=ii j∧agree n (roH h) s.h∧s.h n=some ⟨[a,ii q.mode,ii q.after,b,ii q.within,ss q.par,c],0,true,7⟩∧∀i,i<j→((vars q.items).getD i ByteArray.empty==v)=false) (fun s=>q.items.length-(s.e 10).i.toNat) ⟨0,by simp[up,q1,ii,ss,zD,zE]⟩ ?_
  rintro e' h' n' ⟨j,hj,q1,q2,q9,q10,hag,hbk,hno⟩;simp only[]at q1 q2 q9 q10 hag hbk;by_cases hlt:j<q.items.length
  ·rcases yJo e2 with ⟨h0,_⟩|⟨id,off,k,rfl,hk,ho,hat⟩
   ·rw[h0]at hlt;simp at hlt
   have hr:=hat j hlt;have ha':=wR hn hk hag;have hw:=yK (j:=j) (by omega)
   have hw1:off+(j*5+3)≤k.cells.length:=by omega
   have hgj:=hgv j hlt;generalize q.items[j].var=y at *;cases hy:(y==v)with
   | true =>
    have hf:=zTe (v:=v) (by rw[hl];exact hlt) hno (by rw[hgj];exact hy)
    have h1:wY (vars q.items) v=(j:Int):=by rw[wY,hf,if_pos (by rw[hl];exact hlt)]
    have h2:¬(j:Int)<0:=by omega
    simp[evx,q1,q2,q9,q10,ii,ss,hlt,hbk,ha',hr,hw1,hy,h1,h2,bv]
   | false =>
    simp[evx,q1,q2,q9,q10,ii,ss,hlt,hbk,ha',hr,hw1,hy,hw,hag];refine⟨⟨j+1,by omega,by omega,fun i hi => ?_⟩,by omega⟩
    by_cases e:i=j
    ·subst e;rw[←zB,hgj];exact hy
    ·have:=hno i (by omega);rwa [zB]at this
  ·obtain rfl:j=q.items.length:=by omega
   have hf:=zNh (v:=v) (l:=vars q.items) (by rw[hl];exact hno)
   have h1:wY (vars q.items) v=-1:=by rw[wY,hf,if_neg (by omega)]
   simp[evx,q9,q10,ii,h1,bv]
 exact key _ rfl rfl
def yH5 (h:Heap):List AV→Option Qu
 | [x]=>deQ h x
 | _=>none
theorem zNm {h:Heap} {args:List AV} {q:Qu} (e:yH5 h args=some q):∃x,args=[x]∧deQ h x=some q:=by
 unfold yH5 at e;split at e
 ·exact⟨_,rfl,e⟩
 ·cases e
theorem zYy (h h':Heap) (args:List AV) (q:Qu) (hh:h.le h') (e:yH5 h args=some q):yH5 h' args=some q:=by
 obtain⟨x,rfl,e1⟩:=zNm e;exact zC0 hh.sim e1
def zGt (q:Qu) (j:Nat):Bool:=zPy q.wh||(q.ret.take j).any zPy
def zW3 (q:Qu):Bool:=zGt q q.ret.length
theorem zUr {q:Qu} {j:Nat} (hj:j<q.ret.length):zGt q (j+1)=(zGt q j||zPy q.ret[j]):=by
 unfold zGt;rw[zEo,zA hj,List.any_append,Option.toList_some];simp[Bool.or_assoc]
def G14:=yH yH5 (fun q=>xQ q.wh∧q.ret.length<big∧∀t∈q.ret,xQ t) fun q=>bv (zW3 q)
def yKj:List (FuncId×(List AV→Heap→PRes)):=[(52,G15)]
theorem P14:P0 [] 14 G14:=by
 refine mkH 1 (S:=[]) (l:=yKj) (zS P15 yJ) Tryz.func14 rfl (by kernel_rfl) zYy (fun h l x e=>by obtain⟨a,rfl,_⟩:=zNm e;exact zC _) (fun a=>rfl) (fun args q h n e hp hn => ?_)
 obtain⟨x,rfl,e1⟩:=zNm e;obtain⟨a,b,c,rfl,e2,e3,e4⟩:=wH e1;obtain⟨hsw,hrb,hsr⟩:=hp;obtain⟨s1,s2,s3,s4,s5⟩:=zN e4;have o1:=(zN e2).2.2.2.1;have o2:=(zN e3).2.2.2.1;have g3:=xP hn e3;have key:∀e:Nat→AV,e 0=.g [a,ii q.mode,ii q.after,b,ii q.within,ss q.par,c]→awp (cx [] (pfL yKj)) (Tryz.f14.body.getD .skip) (zBc (cx [] (pfL yKj)) Tryz.f14 fun z _ _=>z=bv (zW3 q)) ⟨e,roH h,n⟩:=fun e q0=>by
  simp[evx,Tryz.f14,q0,ii,ss,s4,o1,o2,yKj,G15,yH,deT,g3,zD,zE,hsw];refine yN (fun s=>∃j:Nat,j≤q.ret.length∧s.e 1=.p n 0 0∧s.e 3=bv (zGt q j)∧s.e 4=ii j∧agree n (roH h) s.h∧s.h n=some ⟨[a,ii q.mode,ii q.after,b,ii q.within,ss q.par,c],0,true,7⟩) (fun s=>q.ret.length-(s.e 4).i.toNat) ⟨0,by simp[up,ii,ss,zD,zE,zGt]⟩ ?_
  rintro e' h' n' ⟨j,hj,q1,q3,q4,hag,hbk⟩;simp only[]at q1 q3 q4 hag hbk;by_cases hlt:j<q.ret.length
  ·rcases zLu e4 with ⟨h0,_⟩|⟨id,off,k,rfl,hk,ho,hat⟩
   ·rw[h0]at hlt;simp at hlt
   obtain⟨c',hc,hcr⟩:=hat j hlt;have u3:=(zN hcr).2.2.1;have gr:∀h',agree n (roH h) h'→rd dNs h' c'=some q.ret[j]:=xP hn hcr;have ha':=wR hn hk hag;have hw:=yK (j:=j) (by omega)
   have hw1:off+(j+1)≤k.cells.length:=by omega
   have hsu:=zUr hlt;have hsm:=hsr _ (zH hlt);generalize q.ret[j]=t at *;generalize hqd:zGt q j=d at *;cases d<;>simp[evx,q1,q3,q4,ii,bv,hlt,hbk,ha',hc,hw1,yH,deT,gr,hag,hsm,hw]
   ·exact⟨⟨j+1,by omega,by rw[hsu];rfl,by omega⟩,by omega⟩
   ·exact⟨⟨j+1,by omega,by rw[hsu];rfl,by omega⟩,by omega⟩
  ·obtain rfl:j=q.ret.length:=by omega
   simp[evx,q1,q3,q4,ii,hbk,s1,s2,zW3,bv]
 exact key _ rfl
structure Ty where
 name:ByteArray
 attrs:List ByteArray
def zYw (h:Heap):List AV→Option Ty
 | [.v (.string n),a]=>(rd dSs h a).map fun l=>⟨n,l⟩
 | _=>none
theorem zKx {h:Heap} {l:List AV} {x:Ty} (e:zYw h l=some x):∃a,l=[ss x.name,a]∧rd dSs h a=some x.attrs:=by
 unfold zYw at e;split at e
 ·simp only[zV]at e
  obtain⟨t,h1,rfl⟩:=e;exact⟨_,rfl,h1⟩
 ·cases e
theorem zFd {h:Heap} {a:AV} {x:Ty} (e:rd dSs h a=some x.attrs):zYw h [ss x.name,a]=some x:=by
 simp only[zYw,ss,e,zK]
def dTy:De Ty where
 run h l:=zYw h l
 sim {h h' l x} hh e:=by
  obtain⟨ty,rfl,h1⟩:=zKx e;exact zFd (zAe hh h1)
def zE7:De (List Ty):=De.sl 2 dTy
theorem zOg {h:Heap} {a:AV} {l:List Ty} (e:rd zE7 h a=some l):(l=[]∧(a=.v (.slice none 0 0)∨a=.e))∨
  ∃id off k,a=.s id k.ver off l.length∧h id=some k∧off+l.length*2≤k.cells.length∧∀i (hi:i<l.length),k.cells[off+i*2]? = some (ss l[i].name)∧∃c,k.cells[off+(i*2+1)]? = some c∧rd dSs h c=some l[i].attrs:=by
 rcases zD8 e with h0|⟨id,off,k,h1,h2,h3,h4⟩
 ·exact .inl h0
 ·refine .inr ⟨id,off,k,h1,h2,h3,fun i hi => ?_⟩
  obtain⟨c,h5,h6⟩:=zKx (h4 i hi);have t0:=yI (c:=0) h5 rfl (by omega)
  have t1:=yI (c:=1) h5 rfl (by omega)
  rw[xD]at t1;exact⟨t0,c,t1,h6⟩
theorem yAm {h:Heap} {a:AV} {l:List ByteArray} (e:rd dSs h a=some l):(l=[]∧(a=.v (.slice none 0 0)∨a=.e))∨
  ∃id off k,a=.s id k.ver off l.length∧h id=some k∧off+l.length≤k.cells.length∧∀i (hi:i<l.length),k.cells[off+i]? = some (ss l[i]):=by
 rcases zD8 e with h0|⟨id,off,k,h1,h2,h3,h4⟩
 ·exact .inl h0
 ·rw[xM]at h3
  refine .inr ⟨id,off,k,h1,h2,h3,fun i hi => ?_⟩
  have:=h4 i hi;rw[xM]at this
  simp only[De.str]at this
  split at this
  ·rename_i z hq
   have h5:=yI (c:=0) hq rfl (by omega)
   simp only[Option.some.injEq]at this
   rw[yL]at h5;rw[h5,this];rfl
  ·cases this
def zIp (h:Heap):AV→Option (List Ty)
 | .g [a]=>rd zE7 h a
 | _=>none
theorem zBd {h:Heap} {x:AV} {q:List Ty} (e:zIp h x=some q):∃a,x=.g [a]∧rd zE7 h a=some q:=by
 unfold zIp at e;split at e
 ·exact⟨_,rfl,e⟩
 ·cases e
theorem zJw {h h':Heap} (hh:h.sim h') {x:AV} {q:List Ty} (e:zIp h x=some q):zIp h' x=some q:=by
 obtain⟨a,rfl,e1⟩:=zBd e;exact zAe hh e1
theorem zDq {h:Heap} {n:Nat} {a:AV} {x:List Ty} (hn:∀i,n≤i→h i=none) (e:zIp h a=some x):∀h',agree n (roH h) h'→zIp h' a=some x:=fun _ ha=>zJw (zE4 hn ha) e
def zCa (l:List Ty):Prop:=l.length<big∧∀t∈l,t.attrs.length<big
def tsB:ByteArray:=⟨#[116,115]⟩
def zCn (l:List Ty) (ty:Int) (name:ByteArray):Int :=
 if ty<0∨(l.length:Int)≤ty then -1 else if (name==tsB)=true then -2 else
  match l[ty.toNat]? with
  | some t=>if wY t.attrs name<8 then wY t.attrs name else -1
  | none=>-1
def zRf (h:Heap):List AV→Option (List ByteArray×ByteArray)
 | [a,.v (.string v)]=>(rd dSs h a).map fun l=>(l,v)
 | _=>none
theorem zFf {h:Heap} {args:List AV} {q:List ByteArray×ByteArray} (e:zRf h args=some q):∃a,args=[a,ss q.2]∧rd dSs h a=some q.1:=by
 unfold zRf at e;split at e
 ·simp only[zV]at e
  obtain⟨t,h1,rfl⟩:=e;exact⟨_,rfl,h1⟩
 ·cases e
theorem zK0 (h h':Heap) (args:List AV) (q:List ByteArray×ByteArray) (hh:h.le h') (e:zRf h args=some q):zRf h' args=some q:=by
 obtain⟨x,rfl,e1⟩:=zFf e;simp only[zRf,ss,yZ hh e1,zK]
def yEk:=yH zRf (fun q=>q.1.length<big) fun q=>ii (wY q.1 q.2)
theorem yNm:P0 [] 150 yEk:=by
 refine mkH 2 (S:=[]) (l:=[]) yJ Tryz.func150 rfl (by kernel_rfl) zK0 (fun h l x e=>by obtain⟨a,rfl,_⟩:=zFf e;exact zC _) (fun a=>rfl) (fun args q h n e hp hn => ?_)
 obtain⟨a,rfl,e2⟩:=zFf e;obtain⟨l,v⟩:=q;simp only[]at e2 hp ⊢;obtain⟨s1,s2,s3,s4,s5⟩:=zN e2;have hgv:∀j (hj:j<l.length),l.getD j ByteArray.empty=l[j]:=fun j hj=>by rw[zB,zA hj];rfl
 have key:∀e:Nat→AV,e 0=a→e 1=ss v→awp (cx [] (pfL [])) (Tryz.f150.body.getD .skip) (zBc (cx [] (pfL [])) Tryz.f150 fun z _ _=>z=ii (wY l v)) ⟨e,roH h,n⟩:=fun e q0 q1=>by
  simp[evx,Tryz.f150,q0,ii,s1,s2];refine yN (fun s=>∃j:Nat,j≤l.length∧s.e 1=ss v∧s.e 7=a∧s.e 8=ii l.length∧s.e 9=ii j∧s.h=roH h∧∀i,i<j→(l.getD i ByteArray.empty==v)=false) (fun s=>l.length-(s.e 9).i.toNat) ⟨0,by simp[up,q1,ii,ss]⟩ ?_
  rintro e' h' n' ⟨j,hj,q1,q7,q8,q9,hh,hno⟩;simp only[]at q1 q7 q8 q9 hh;subst hh;by_cases hlt:j<l.length
  ·rcases yAm e2 with ⟨h0,_⟩|⟨id,off,k,rfl,hk,ho,hat⟩
   ·rw[h0]at hlt;simp at hlt
   have hr:=hat j hlt;have ha':=zEj hk;have hw:=yK (j:=j) (by omega)
   have hw1:off+(j+1)≤k.cells.length:=by omega
   have hgj:=hgv j hlt;generalize l[j]=y at *;cases hy:(y==v)with
   | true =>
    have hf:=zTe (v:=v) hlt hno (by rw[hgj];exact hy)
    have h1:wY l v=(j:Int):=by rw[wY,hf,if_pos hlt]
    simp[evx,q1,q7,q8,q9,ii,ss,hlt,ha',hr,hw1,hy,h1]
   | false =>
    simp[evx,q1,q7,q8,q9,ii,ss,hlt,ha',hr,hw1,hy,hw];refine⟨⟨j+1,by omega,by omega,fun i hi => ?_⟩,by omega⟩
    by_cases e:i=j
    ·subst e;rw[←zB,hgj];exact hy
    ·have:=hno i (by omega);rwa [zB]at this
  ·obtain rfl:j=l.length:=by omega
   have hf:=zNh (v:=v) (l:=l) hno;have h1:wY l v=-1:=by rw[wY,hf,if_neg (by omega)]
   simp[evx,q8,q9,ii,h1]
 exact key _ rfl rfl
theorem wD {S S':List Nat} {pf pf':FuncId→Option (List AV→Heap→PRes)} (hs:∀x∈S,x∈S') {f:FuncId} {args:List AV} {h:Heap} {n:Nat} {Q:AV→Heap→Nat→Prop} (k:ACall (cx S pf) f args h n Q):ACall (cx S' pf') f args h n Q:=by
 refine⟨k.1,fun K w0 ρ w vs r hv => ?_⟩
 have hsub:∀g cs,globS S g=some cs→globS S' g=some cs:=fun g cs hg=>by
  simp only[globS]at hg ⊢;by_cases hm:g∈S
  ·rw[if_pos hm]at hg;rw[if_pos (hs g hm)];exact hg
  ·rw[if_neg hm]at hg;cases hg
 have r0:Rel (cx S pf) K w0 ρ (n≤·) h w:=⟨r.os,r.tape,r.output,r.size,r.keep,r.kold,fun g cs hg=>r.glob g cs (hsub g cs hg),r.blk,r.apart,r.mine,r.free,r.vers⟩
 refine (k.2 K w0 ρ w vs r0 hv).mono fun e w' ⟨y,h1,ρ2,z,h',n',h2,h3,r2,h5⟩=>⟨y,h1,ρ2,z,h',n',h2,h3,⟨r2.os,r2.tape,r2.output,r2.size,r2.keep,r2.kold,fun g cs hg => ?_,r2.blk,r2.apart,r2.mine,r2.free,r2.vers⟩,h5⟩
 obtain⟨g1,arr,el,fr,g2,g3⟩:=r.glob g cs hg;exact⟨g1,arr,el,fr,by rw[r2.keep g g1,←r.keep g g1];exact g2,g3⟩
def S29:List Nat:=[0,1,2,4,5,6,7]
def G31:=yH deR okR fun q=>bv (zDc q.1 q.2)
def yLr:List (FuncId×(List AV→Heap→PRes)):=[(91,G29),(92,g20)]
theorem P31 (h0:P0 S29 91 G29):P0 S29 45 G31:=by
 refine mkH 2 (S:=S29) (l:=yLr) (zS h0 (zS p20 yJ)) Tryz.func45 rfl (by kernel_rfl) zTi (fun h l x e=>by obtain⟨a,c,rfl,_⟩:=zKy e;exact zC _) (fun a=>rfl) (fun args q h n e hp hn => ?_)
 obtain⟨p,en⟩:=q;obtain⟨x,y,rfl,e1,e2⟩:=zKy e;obtain⟨pa,pb,rfl,e3,e4⟩:=zFe e1;obtain⟨la,rfl,e5⟩:=zH1 e2;simp only[]at e1 e2 e3 e4 e5 hp ⊢;obtain⟨s1,s2,s3,s4,s5⟩:=zN e3;obtain⟨t1,t2,t3,t4,t5⟩:=zN e4;obtain⟨r1,r2,r3,r4,r5⟩:=zN e5;have g1:=zSh hn e1;have g2:=zTg hn e2;simp only[ii]at g2;obtain⟨rv,hrv⟩:∃rv,rv=zSc p en:=⟨_,rfl⟩;have hv:zDc p en=(rv.2==0&&zLi rv.1):=by rw[hrv];rfl
 obtain⟨⟨vk,vn⟩,er⟩:=rv;by_cases hz:er=0
 ·subst hz
  simp[evx,ii,s4,t4,r4,yLr,G29,yH,deR,g1,g2,zD,zE,hp,←hrv,zQl,vv,bv,hv,g20,yV,deV]
 ·simp[evx,ii,s4,t4,r4,yLr,G29,yH,deR,g1,g2,zD,zE,hp,←hrv,zQl,vv,bv,hv,hz,g20,yV,deV]
theorem zMy {α:Type} {sz:Nat} {d:De α} {h:Heap} {n:Nat} {a:AV} {l:List α} (hn:Fresh n h) (e:rd (De.sl sz d) h a=some l):∃cs,(∀h',agree n h h'→sls h' a 0 (l.length*sz)∧slc h' a 0 (l.length*sz)=cs)∧cs.length=l.length*sz∧
  ∀h' w u own r,agree n h h'→h' w=some ⟨cs++r,u,own,sz⟩→rd (De.sl sz d) h' (.s w u 0 l.length)=some l:=by
 rcases zD8 e with ⟨rfl,rfl|rfl⟩|⟨id,off,k,rfl,hk,ho,hat⟩
 ·refine⟨[],fun h' _=>⟨by simp[sls],rfl⟩,by simp,fun h' w u own r ha hw => ?_⟩
  exact De.sl_in (xs:=[]) (off:=0) (k:=⟨[]++r,u,own,sz⟩) hw (by simp) (fun i hi=>by simp at hi)
 ·refine⟨[],fun h' _=>⟨by simp[sls],rfl⟩,by simp,fun h' w u own r ha hw => ?_⟩
  exact De.sl_in (xs:=[]) (off:=0) (k:=⟨[]++r,u,own,sz⟩) hw (by simp) (fun i hi=>by simp at hi)
 ·have hid:=xB hk hn
  have hlen:((k.cells.drop off).take (l.length*sz)).length=l.length*sz:=by rw[zW,yS];omega
  refine⟨(k.cells.drop off).take (l.length*sz),fun h' ha => ?_,hlen,fun h' w u own r ha hw => ?_⟩
  ·simp only[sls,slc,ha id hid,hk,yQ,yL,true_and,and_true]
   exact ho
  ·refine De.sl_in (off:=0) (k:=⟨(k.cells.drop off).take (l.length*sz)++r,u,own,sz⟩) hw (by simp only[zM,hlen];omega) (fun i hi => ?_)
   have h1:=hat i hi;have hm:i*sz+sz≤l.length*sz:=by rw[←wC];exact yU _ hi
   have h2:(List.drop (0+i*sz) ((k.cells.drop off).take (l.length*sz)++r)).take sz=(k.cells.drop (off+i*sz)).take sz:=by
    rw[yQ,List.drop_append_of_le_length (by omega),zBw (by rw[yS];omega),List.drop_take,List.take_take,zDp,Nat.min_eq_left (by omega)]
   rw[h2];exact d.sim (zB8 hn ha) h1
theorem Flat.nd:Flat 6 dN yC:=⟨fun _ _ _ e=>zNn e,fun _ _=>rfl,fun _=>rfl⟩
def zWy (x:ByteArray):List AV:=[ss x]
theorem zWp (h:Heap) (l:List AV) (x:ByteArray) (e:De.str.run h l=some x):l=zWy x:=by
 simp only[De.str]at e;split at e
 ·cases e;rfl
 ·cases e
theorem Flat.str:Flat 1 De.str zWy:=⟨zWp,fun _ _=>rfl,fun _=>rfl⟩
theorem zWh {l:List AV} {o:Nat} {x y:AV} (h1:l[o]? = some x) (h2:l[o+1]? = some y):(l.drop o).take 2=[x,y]:=by
 obtain⟨k1,rfl⟩:=yB.1 h1;obtain⟨k2,rfl⟩:=yB.1 h2;rw[xO k1,xO k2];rfl
def OwnT (h:Heap) (lo hi:Nat) (z:AV) (sc:List Ty) (j:Nat):Prop :=
 (j=0∧z=.v (.slice none 0 0))∨∃w u cs,z=.s w u 0 j∧h w=some ⟨cs,u,true,2⟩∧lo≤w∧w<hi∧cs.length=j*2∧
  ∀i (hi':i<sc.length),i<j→∃b,cs[i*2]? = some (ss sc[i].name)∧cs[i*2+1]? = some (.s b 1 0 sc[i].attrs.length)∧h b=some ⟨sc[i].attrs.flatMap zWy,1,true,1⟩∧lo≤b∧b<hi∧b≠w
theorem OwnT.rd {h:Heap} {lo hi:Nat} {z:AV} {sc:List Ty} (o:OwnT h lo hi z sc sc.length):rd zE7 h z=some sc:=by
 rcases o with ⟨h0,rfl⟩|⟨w,u,cs,rfl,hk,_,_,hl,hat⟩
 ·have:sc=[]:=zU h0
  subst this;rfl
 ·refine De.sl_in (off:=0) (k:=⟨cs,u,true,2⟩) hk (by simp only[hl];omega) (fun i hi => ?_)
  obtain⟨b,h1,h2,h3,_⟩:=hat i hi hi;simp only[yQ];rw[zWh h1 h2];exact zFd (zB2 Flat.str h3 rfl (r:=[]) (by simp))
theorem OwnT.congr {h h':Heap} {lo hi:Nat} {z:AV} {sc:List Ty} {j:Nat} (o:OwnT h lo hi z sc j) (hh:∀q,lo≤q→q<hi→h' q=h q):OwnT h' lo hi z sc j:=by
 rcases o with h0|⟨w,u,cs,h1,h2,h3,h4,h5,h6⟩
 ·exact .inl h0
 ·refine .inr ⟨w,u,cs,h1,by rw[hh _ h3 h4];exact h2,h3,h4,h5,fun i hi' hij => ?_⟩
  obtain⟨b,k1,k2,k3,k4,k5,k6⟩:=h6 i hi' hij;exact⟨b,k1,k2,by rw[hh _ k4 k5];exact k3,k4,k5,k6⟩
theorem OwnT.snoc {h h2:Heap} {lo hi hi2 w w0 u b:Nat} {cs:List AV} {sc:List Ty} {j:Nat} (hj:j<sc.length) (hcl:cs.length=j*2)
  (hold:∀i (hi':i<sc.length),i<j→∃b,cs[i*2]? = some (ss sc[i].name)∧cs[i*2+1]? = some (.s b 1 0 sc[i].attrs.length)∧h b=some ⟨sc[i].attrs.flatMap zWy,1,true,1⟩∧lo≤b∧b<hi∧b≠w0)
  (hh:∀q,lo≤q→q<hi→q≠w0→h2 q=h q) (hhi:hi≤hi2) (hne:w=w0∨hi≤w) (hk:h2 w=some ⟨cs++[ss sc[j].name,.s b 1 0 sc[j].attrs.length],u,true,2⟩) (hb:h2 b=some ⟨sc[j].attrs.flatMap zWy,1,true,1⟩)
  (hb0:lo≤b) (hb2:b<hi2) (hbw:b≠w) (hw1:lo≤w) (hw2:w<hi2):OwnT h2 lo hi2 (.s w u 0 (j+1)) sc (j+1):=by
 refine .inr ⟨w,u,_,rfl,hk,hw1,hw2,by simp only[zM,hcl,List.length_cons,zAc];omega,fun i hi' hij => ?_⟩
 by_cases e:i=j
 ·subst e
  exact⟨b,by rw[yG (by omega),hcl,zC7];rfl,by rw[yG (by omega),hcl,show i*2+1-i*2=1 by omega];rfl,hb,hb0,hb2,hbw⟩
 ·obtain⟨b',k1,k2,k3,k4,k5,k6⟩:=hold i hi' (by omega)
  refine⟨b',by rw[zL (by omega)];exact k1,by rw[zL (by omega)];exact k2,by rw[hh _ k4 k5 k6];exact k3,k4,by omega,?_⟩
  rcases hne with rfl|h9
  ·exact k6
  ·omega
def HasS (h:Heap) (x:AV) (sc:List Ty):Prop:=∃m a,x=.p m 0 0∧h m=some ⟨[a],0,true,1⟩∧rd zE7 h a=some sc
def HasQ (h:Heap) (x:AV) (q:Qu):Prop:=∃m a b c,x=.p m 0 0∧h m=some ⟨[a,.v (.int .i64 q.mode),.v (.int .i64 q.after),b,.v (.int .i64 q.within),.v (.string q.par),c],0,true,7⟩∧rd zG5 h a=some q.items∧rd dNs h b=some q.wh∧rd zTp h c=some q.ret
def HasE (h:Heap) (x:AV) (en:En):Prop:=∃m a,x=.p m 0 0∧h m=some ⟨[a,.v (.int .i64 en.each),.v (.int .i64 en.pos)],0,true,3⟩∧rd zFr h a=some en.ls
theorem HasS.up {h h':Heap} {n:Nat} {x:AV} {sc:List Ty} (a:HasS h x sc) (hn:Fresh n h) (ha:agree n h h'):HasS h' x sc:=by
 obtain⟨m,b,rfl,h1,h2⟩:=a;exact⟨m,b,rfl,by rw[ha m (xB h1 hn)];exact h1,yT hn h2 _ ha⟩
theorem HasQ.up {h h':Heap} {n:Nat} {x:AV} {q:Qu} (a:HasQ h x q) (hn:Fresh n h) (ha:agree n h h'):HasQ h' x q:=by
 obtain⟨m,b,c,d,rfl,h1,h2,h3,h4⟩:=a;exact⟨m,b,c,d,rfl,by rw[ha m (xB h1 hn)];exact h1,yT hn h2 _ ha,yT hn h3 _ ha,yT hn h4 _ ha⟩
theorem HasE.up {h h':Heap} {n:Nat} {x:AV} {en:En} (a:HasE h x en) (hn:Fresh n h) (ha:agree n h h'):HasE h' x en:=by
 obtain⟨m,b,rfl,h1,h2⟩:=a;exact⟨m,b,rfl,by rw[ha m (xB h1 hn)];exact h1,yT hn h2 _ ha⟩
theorem zNk {h:Heap} {a b c:AV} {q:Qu} (h1:rd zG5 h a=some q.items) (h2:rd dNs h b=some q.wh) (h3:rd zTp h c=some q.ret):deQ h (.g [a,.v (.int .i64 q.mode),.v (.int .i64 q.after),b,.v (.int .i64 q.within),.v (.string q.par),c])=some q:=zF9 h1 h2 h3
end Go.Proofs.YtbffkkeieihpdaaGreatDoor
namespace Go.Proofs.YtbffkkeieihpdaaGreatDoor
open Go Go.Eng Go.RowKit Go.ChangeShapes Go.WideShapes Go.Joins
theorem yFe {t e:TypeId} {n:Nat} (ht:Tryz.prog.underlying t=some (.array n e)) (he:Tryz.prog.underlying e=some .string) (hc:Tryz.prog.cellsOf e=1) (ec:Tryz.prog.cellsOf t=n) (l:List ByteArray) (hl:l.length=n):Rd t (.agg (l.map fun x=>.lit (.string x.data.toList))) (l.map fun x=>.string x):=fun W f cs x h ex=>by
 obtain⟨xs,m,_,rfl,hcl,hn,hel⟩:=DataW.trod_array ht h;simp only[DataW.agg.injEq]at ex;have hcn:cs.length=n:=by rw[hcl,ec]
 apply List.ext_getElem
 ·rw[hcn,zQ,hl]
 intro i h1 h2;have hi:i<n:=by omega
 have hx:=hel i (by omega)
 have hlt:i<xs.length:=by omega
 rw[zA hlt]at hx;have hxi:(xs[i]).1=.lit (.string (l[i]'(by omega)).data.toList):=by
  have:=congrArg (·[i]?) ex;simpa[hlt,show i<l.length by omega]using this
 obtain⟨s,q1,q2,_⟩:=DataW.trod_string he hx;rw[q2]at hxi;simp only[DataW.lit.injEq,Lit.string.injEq]at hxi;have hs:s=l[i]'(by omega):=by
  have h9:=Array.toList_inj.1 hxi;cases s;cases hli:l[i]'(by omega)
  rw[hli]at h9;simp only[]at h9;rw[h9]
 rw[hc,xM,List.take_one,List.head?_drop,zA h1]at q1;rw[wN,←hs];simpa using q1
theorem zUp:Rd 241 Rows.laid_sluice_api_Keywords ((glob 3).getD []) :=
 yFe (n:=27) Tryz.underlying241 Tryz.underlying9 (by kernel_rfl) (by kernel_rfl) kwords rfl
theorem at7 {laid : List (String × DataW Unit)} {W : World} (hL : laidMetH Tryz.prog laid W) (hpl : (laid.all fun x => x.2.handleName?.isNone) = true) (hm : ("sluice/api.Keywords", Rows.laid_sluice_api_Keywords) ∈ laid) : zGd W 3 := zDd hL hpl hm (by kernel_rfl) (by kernel_rfl) zUp rfl
theorem zHh:∀(h:Heap) (l:List AV) (x:ByteArray),De.str.run h l=some x→l=[ss x]:=zWp
theorem zVs:∀(h:Heap) (l:List AV) (x:Bool),De.bool.run h l=some x→l=[.v (.bool x)]:=fun h l x e=>by
 simp only[De.bool]at e;split at e
 ·cases e;rfl
 ·cases e
theorem zE8 {l:List AV} {a:AV} (h:l.take 1=[a]):l=a::l.drop 1:=by
 have:=zAb 1 l;rw[h]at this
 exact this.symm
theorem zIk:Opens Tryz.prog 9 De.str fun s=>s.size≤maxLen:=Opens.str Tryz.underlying9
theorem yFy:Opens Tryz.prog 4 De.bool fun _=>True:=Opens.bool Tryz.underlying4
theorem yA9:Opens Tryz.prog 79 (De.int .i64) fun n=>(Lit.int .i64 n).wf=true:=Opens.int Tryz.underlying79
theorem yBc:Opens Tryz.prog 26 (De.int .i64) fun n=>(Lit.int .i64 n).wf=true:=Opens.int Tryz.underlying26
theorem yBb:Opens Tryz.prog 27 (De.int .i64) fun n=>(Lit.int .i64 n).wf=true:=Opens.int Tryz.underlying27
theorem yA5:Opens Tryz.prog 81 dN fun x=>Rng x.n:=by
 refine Opens.conv (Opens.struct Tryz.underlying81 (tot:=6) (by kernel_rfl) (OpensF.cons rfl (n:=1) (by kernel_rfl) (by decide) yA9 (OpensF.cons rfl (n:=1) (by kernel_rfl) (by decide) zJp (OpensF.cons rfl (n:=1) (by kernel_rfl) (by decide) zIk (OpensF.cons rfl (n:=1) (by kernel_rfl) (by decide) zIk (OpensF.cons rfl (n:=1) (by kernel_rfl) (by decide) zKi (OpensF.one rfl (by kernel_rfl) zKi))))))) fun h l x e ok => ?_
 have hl:=zCc (zB4 .i64) (zCc (zB4 .i64) (zCc zHh (zCc zHh (zCc (zB4 .i64) (zB4 .i64))))) h l x e;exact⟨⟨x.1,x.2.1,x.2.2.1,x.2.2.2.1,x.2.2.2.2.1,x.2.2.2.2.2⟩,by rw[hl];rfl,zF0 ok.2.1⟩
theorem zSl:Opens Tryz.prog 28 dNs fun l=>l.length*64≤reachBytes∧∀x∈l,Rng x.n:=Opens.sl Tryz.underlying28 (sz:=6) (by kernel_rfl) (by decide) (by kernel_rfl) yA5
theorem yBa:Opens Tryz.prog 29 zTp fun l=>l.length*24≤reachBytes∧∀x∈l,x.length*64≤reachBytes∧∀y∈x,Rng y.n:=Opens.sl Tryz.underlying29 (sz:=1) (by kernel_rfl) (by decide) (by kernel_rfl) zSl
theorem zSk:Opens Tryz.prog 69 dSs fun l=>l.length*16≤reachBytes∧∀x∈l,x.size≤maxLen:=Opens.sl Tryz.underlying69 (sz:=1) (by kernel_rfl) (by decide) (by kernel_rfl) zIk
theorem yA7:Opens Tryz.prog 85 dTy fun t=>t.attrs.length*16≤reachBytes:=by
 refine Opens.conv (Opens.struct Tryz.underlying85 (tot:=2) (by kernel_rfl) (OpensF.cons rfl (n:=1) (by kernel_rfl) (by decide) zIk (OpensF.one rfl (by kernel_rfl) zSk))) fun h l x e ok => ?_
 obtain⟨e1,e2⟩:=zDr e;have h1:=zE8 (zHh _ _ _ e1);obtain⟨a,ha⟩:=zLw e2;rw[ha]at e2 h1;have e2':rd dSs h a=some x.2:=e2;exact⟨⟨x.1,x.2⟩,by rw[h1];exact zFd (x:=⟨x.1,x.2⟩) e2',ok.2.1⟩
theorem yBe:Opens Tryz.prog 22 zE7 fun l=>l.length*40≤reachBytes∧∀t∈l,t.attrs.length*16≤reachBytes:=Opens.sl Tryz.underlying22 (sz:=2) (by kernel_rfl) (by decide) (by kernel_rfl) yA7
def dSc:De (List Ty) where
 run h l:=zIp h (.g l)
 sim hh e:=zJw hh e
theorem yBd:Opens Tryz.prog 24 dSc fun l=>l.length*40≤reachBytes∧∀t∈l,t.attrs.length*16≤reachBytes:=by
 refine Opens.conv (Opens.struct Tryz.underlying24 (tot:=1) (by kernel_rfl) (OpensF.one rfl (by kernel_rfl) yBe)) fun h l x e ok => ?_
 obtain⟨a,rfl⟩:=zLw e;exact⟨x,e,ok⟩
def dQu:De Qu where
 run h l:=deQ h (.g l)
 sim hh e:=zC0 hh e
end Go.Proofs.YtbffkkeieihpdaaGreatDoor
