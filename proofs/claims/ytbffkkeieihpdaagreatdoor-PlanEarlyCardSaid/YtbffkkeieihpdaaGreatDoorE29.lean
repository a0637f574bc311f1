import Derived.Test.YtbffkkeieihpdaaGreatDoorE21
set_option linter.unusedSimpArgs false
set_option linter.unusedVariables false
set_option linter.constructorNameAsVariable false
set_option maxRecDepth 100000
set_option maxHeartbeats 4000000
namespace Go.Proofs.YtbffkkeieihpdaaGreatDoor
open Go Go.Eng
section
theorem C20.up {h0:Heap} {n:Nat} {sa ta:AV} {t:List Nd} {its:List Int} {tys:List Ty} {wi m mm wb k k':Nat} {s s':St} (a:C20 h0 n sa ta t its tys wi m mm wb k s) (he:∀i∈[2,6,7,9,10],s'.e i=s.e i) (hh:∀q,q<s.n→q≠wb→s'.h q=s.h q) (hb:s'.h wb=some ⟨(bhL t k').map ii,0,true,1⟩) (hf:Fresh s'.n s'.h) (hn:s.n≤s'.n):C20 h0 n sa ta t its tys wi m mm wb k' s':=by
 obtain⟨x1,x2,x3,x4,x5,x6,x7,x8,x9,x10,x11,x12,x13⟩:=a;exact⟨by rw[he 2 (by simp)];exact x1,by rw[he 6 (by simp)];exact x2,by rw[he 7 (by simp)];exact x3,by rw[he 9 (by simp)];exact x4,by rw[he 10 (by simp)];exact x5,by rw[hh _ (by omega) (by omega)];exact x6,by rw[hh _ (by omega) (by omega)];exact x7,by rw[hh _ (by omega) (by omega)];exact x8,by rw[hh _ (by omega) (by omega)];exact x9,hb,by omega,fun q hq=>by rw[hh q (by omega) (by omega)];exact x12 q hq,hf⟩
section
variable {h:Heap} {n:Nat} {sa ta:AV} {tys:List Ty} {t:List Nd}
theorem yPe {wi m mm wb:Nat} {its:List Int} {lo:Nat→Nat} (T:Tre t lo) (e5:rd dNs h ta=some t) (hp:xQ t) (hn:Fresh n h) (s:St) (a:C20 h n sa ta t its tys wi m mm wb 0 s) {Q:Ex→St→Prop} :
  awp (cx [3] (pfL [])) (hdC 1 (tlC 5 (Tryz.f60.body.getD .skip))) (zAs (C20 h n sa ta t its tys wi m mm wb t.length) Q) s:=by
 obtain⟨e,h1,n1⟩:=s;have a0:=a;have x1:=a.q2;simp only[]at x1;obtain⟨s1,s2,s3,s4,s5⟩:=zN e5;have hp':t.length*64≤140737488355328:=hp;simp[evx,hdC,tlC,Tryz.f60,x1,s1,s2];refine yN (fun s=>∃j,j≤t.length∧s.e 32=ta∧s.e 33=ii t.length∧s.e 34=ii j∧C20 h n sa ta t its tys wi m mm wb j s) (fun s=>t.length-(s.e 34).i.toNat) ⟨0,by omega,by simp[up],by simp[up,ii],by simp[up,ii],a0.up (by simp[up,x1]) (fun _ _ _=>rfl) a0.kb a0.fr (zC _)⟩ ?_
 rintro e' h' n' ⟨j,hj,q32,q33,q34,a⟩;simp only[]at q32 q33 q34;by_cases hlt:j<t.length
 ·rcases zKk e5 with ⟨h0,_⟩|⟨id,off,k,rfl,hk,ho,hat⟩
  ·rw[h0]at hlt;simp at hlt
  have hr:=hat j hlt;have hid:id<n:=xB hk hn;have hk':h' id=some k:=(a.ag id hid).trans hk;have hle:∀(X:Ctx),ldcs X h' (.p id k.ver (off+j*6)) 0 6=yC t[j]:=fun X=>zKo hk' hr
  have hw6:off+(j*6+6)≤k.cells.length:=by omega
  have hw:=yK (j:=j) (by unfold big;omega)
  have hbn:=zOn T hlt;have hsk:=yCp hlt;have hset:∀a:Nat,25≤t[j].op→t[j].a=(a:Int)→(bhL t j).set a t[j].op=bhL t (j+1):=fun a h9 h8=>yHr T hlt h9 h8
  have hop:=zQr T hlt;have kb:=a.kb;have q10:=a.q10;have wo:=a.wo;simp only[]at kb q10 wo;generalize t[j]=x at *;obtain⟨op,num,var,attr,xa,xb⟩:=x;simp only[yC,ii,ss]at hle;simp only[]at hbn hsk hset hop;have y0:¬id=n':=by omega
  by_cases o25:op=25
  ·subst o25
   obtain⟨b1,b2,_⟩:=hbn (by omega)
   obtain⟨c,rfl⟩:∃c:Nat,xa=c:=⟨xa.toNat,by omega⟩
   have hcl2:c<t.length:=by omega
   have hs1:=hset c (by omega) rfl
   have hbl:=zGb (t:=t) j;have kbm:((bhL t (j+1)).map ii)=((bhL t j).map ii).set c (ii 25):=by rw[←hs1,List.map_set]
   have hcl3:((bhL t j).map ii).length=t.length:=by rw[zQ,hbl]
   have hca:c+1≤t.length:=hcl2;have y1:¬wb=n':=by omega
   generalize hcs:(bhL t j).map ii=cs at *;simp[evx,q32,q33,q34,q10,kb,ii,hlt,hk',hle,hw6,hw,y1,hcl2,hcl3,hca];refine⟨⟨j+1,by omega,by omega,a.up (by simp[up]) (fun q h1 h2 => ?_) ?_ ?_ (by simp)⟩,by omega⟩
   ·simp only[]
    simp only[]at h1;simp only[zP _ _ h2,zP _ _ (show q≠n' by omega)]
   ·rw[kbm];simp[up,ii]
   ·have hf:=a.fr
    simp only[]at hf ⊢;exact (zF (by omega) _).2 ((zF (by omega) _).2 ((zF (by omega) _).2 (hf.add _)))
  ·by_cases o26:op=26
   ·subst o26
    obtain⟨b1,b2,_⟩:=hbn (by omega)
    obtain⟨c,rfl⟩:∃c:Nat,xa=c:=⟨xa.toNat,by omega⟩
    have hcl2:c<t.length:=by omega
    have hs1:=hset c (by omega) rfl
    have hbl:=zGb (t:=t) j;have kbm:((bhL t (j+1)).map ii)=((bhL t j).map ii).set c (ii 26):=by rw[←hs1,List.map_set]
    have hcl3:((bhL t j).map ii).length=t.length:=by rw[zQ,hbl]
    have hca:c+1≤t.length:=hcl2;have y1:¬wb=n':=by omega
    generalize hcs:(bhL t j).map ii=cs at *;simp[evx,q32,q33,q34,q10,kb,ii,hlt,hk',hle,hw6,hw,y1,hcl2,hcl3,hca];refine⟨⟨j+1,by omega,by omega,a.up (by simp[up]) (fun q h1 h2 => ?_) ?_ ?_ (by simp)⟩,by omega⟩
    ·simp only[]
     simp only[]at h1;simp only[zP _ _ h2,zP _ _ (show q≠n' by omega)]
    ·rw[kbm];simp[up,ii]
    ·have hf:=a.fr
     simp only[]at hf ⊢;exact (zF (by omega) _).2 ((zF (by omega) _).2 ((zF (by omega) _).2 (hf.add _)))
   ·simp[evx,q32,q33,q34,ii,hlt,hk',hle,hw6,hw,o25,o26]
    have hkk:=hsk (by omega)
    refine⟨⟨j+1,by omega,by omega,a.up (by simp[up]) (fun q h1 h2 => ?_) ?_ ?_ (by simp)⟩,by omega⟩
    ·simp only[]at h1 ⊢
     simp only[zP _ _ (show q≠n' by omega)]
    ·rw[hkk]
     simp only[zP _ _ (show wb≠n' by omega)]
     exact kb
    ·have hf:=a.fr
     simp only[]at hf ⊢;exact (zF (by omega) _).2 ((zF (by omega) _).2 (hf.add _))
 ·obtain rfl:j=t.length:=by omega
  simp[evx,q33,q34,ii];exact a.up (by simp[up]) (fun _ _ _=>rfl) a.kb a.fr (zC _)
end
def G20 (n wi wb wj:Nat):Nat→Prop:=fun q=>n+3≤q∧q≠wi∧q≠wb∧q≠wj
structure D20 (h0:Heap) (n:Nat) (sa ta:AV) (t:List Nd) (its:List Int) (tys:List Ty) (wi m mm wb wj:Nat) (i:Nat) (code:List Ins) (names:List ByteArray) (s:St):Prop where
 q2:s.e 2=ta
 q6:s.e 6=.p (n+2) 0 0
 q7:s.e 7=.s wi 0 0 t.length
 q9:s.e 9=.p m 0 0
 q10:s.e 10=.s wb 0 0 t.length
 q13:s.e 13=.s wj 0 0 t.length
 k6:s.h (n+2)=some ⟨[.v (.slice none 0 0),.v (.slice none 0 0)],0,true,2⟩
 ki:s.h wi=some ⟨its.map ii,0,true,1⟩
 kb:s.h wb=some ⟨(bhL t t.length).map ii,0,true,1⟩
 kj:s.h wj=some ⟨(jpL t i).map ii,0,true,1⟩
 cs:∃ca la,CS s.h (G20 n wi wb wj) s.n m tys sa ca la mm code names
 wo:n+3≤wi∧wi<mm∧mm<m∧m<wb∧wb<wj∧wj<s.n
 ag:agree n h0 s.h
 fr:Fresh s.n s.h
section
variable {h:Heap} {n:Nat} {sa ta:AV} {tys:List Ty} {t:List Nd}
theorem yPd {wi m mm wb:Nat} {its:List Int} (e5:rd dNs h ta=some t) (e1:rd zE7 h sa=some tys) (hp:xQ t) (hn:Fresh n h) (s:St) (a:C20 h n sa ta t its tys wi m mm wb t.length s) {Q:Ex→St→Prop} :
  awp (cx [3] (pfL [])) (hdC 1 (tlC 6 (Tryz.f60.body.getD .skip))) (zAs (fun s'=>∃wj,D20 h n sa ta t its tys wi m mm wb wj 0 [] [] s') Q) s:=by
 obtain⟨e,h1,n1⟩:=s;have a0:=a;obtain⟨x1,x2,x3,x4,x5,x6,x7,x8,x9,x10,x11,x12,x13⟩:=a;simp only[]at x1 x2 x3 x4 x5 x6 x7 x8 x9 x10 x11 x12 x13;obtain⟨s1,s2,s3,s4,s5⟩:=zN e5;have hp':t.length*64≤140737488355328:=hp;have hz:repZ [Value.int .i64 0] t.length=(jpL t 0).map ii:=by rw[yBx,zMw]
 simp[evx,hdC,tlC,Tryz.f60,x1,s1,s2];have hh:∀q,q<n1→∀b:Option Blk,up h1 n1 b q=h1 q:=fun q hq b=>zP _ _ (by omega)
 have hs:rd zE7 (up h1 n1 (some ⟨repZ [Value.int .i64 0] t.length,0,true,1⟩)) sa=some tys:=yT hn e1 _ ((zD (by omega) _).2 x12)
 refine⟨⟨by omega,by omega⟩,n1,by simpa[up]using x1,by simpa[up]using x2,by simpa[up]using x3,by simpa[up]using x4,by simpa[up]using x5,by simp[up],?_,?_,?_,?_,⟨.v (.slice none 0 0),.v (.slice none 0 0),?_,⟨⟨by omega,by omega,by omega,by omega⟩,by simp only[];omega⟩,hs,.inl ⟨rfl,rfl⟩,.inl ⟨rfl,rfl⟩,?_,⟨by omega,by omega,by omega,by omega⟩,by simp only[];omega,by omega⟩,?_,?_,?_⟩
 ·simp only[];rw[hh _ (by omega)];exact x6
 ·simp only[];rw[hh _ (by omega)];exact x7
 ·simp only[];rw[hh _ (by omega)];exact x10
 ·simp only[];rw[zJ,hz]
 ·simp only[];rw[hh _ (by omega)];exact x8
 ·simp only[];rw[hh _ (by omega)];exact x9
 ·simp only[];omega
 ·exact (zD (by omega) _).2 x12
 ·exact (zF (by simp) _).2 (x13.add 1)
end
end
end Go.Proofs.YtbffkkeieihpdaaGreatDoor
