import Derived.Test.YtbffkkeieihpdaaGreatDoorX32
import Derived.Test.YtbffkkeieihpdaaGreatDoorX27
import Derived.Test.YtbffkkeieihpdaaGreatDoorX22
import Derived.Test.YtbffkkeieihpdaaGreatDoorX19
import Derived.Test.YtbffkkeieihpdaaGreatDoorX14
set_option linter.unusedSimpArgs false
set_option linter.unusedVariables false
set_option linter.constructorNameAsVariable false
set_option maxRecDepth 100000
set_option maxHeartbeats 4000000
namespace Go.Proofs.YtbffkkeieihpdaaGreatDoor
open Go Go.Eng
section
theorem zLv {α:Type} {p:α→Bool} {l:List α} (h:∀x∈l,p x=false):l.find? p=none:=List.find?_eq_none.2 fun x hx=>by rw[h x hx];simp
theorem yAi {α:Type} {p:α→Bool} {l:List α} {j:Nat} (hj:j<l.length) (h:∀x∈l.take j,p x=false) (hp:p l[j]=true):l.find? p=some l[j]:=by
 have e:l=l.take j++l[j]::l.drop (j+1):=by rw[List.getElem_cons_drop,zAt]
 have h1:(l.take j++l[j]::l.drop (j+1)).find? p=some l[j]:=by
  rw[List.find?_append,zLv h,Option.none_or,List.find?_cons_of_pos hp]
 rw[←e]at h1;exact h1
def E59 (hB:Heap) (n1 bid mid:Nat) (sc:List Ty) (q:Qu) (l:List (List Nd)) (T:Nat→Nat) (h:Heap) (n:Nat) (h':Heap) (n':Nat):Prop :=
 ∃T' p',BI hB n1 bid mid T' h' n' p' (plC sc q l) (slF q q.items.length)∧Mv (fun _=>True) T h n T' h' n'
section
variable {hB:Heap} {n1 bid mid:Nat} {sc:List Ty} {q:Qu} {l:List (List Nd)} {t:List Nd} {T:Nat→Nat} {p:Pt} {h:Heap} {n:Nat}
theorem zF3:(plC sc q l).comps.length=(zBl q q.items.length).length:=by simp[plC,zB3]
theorem zKr (i:Int):(zXk sc q l i).length≤l.length:=by simp only[zXk,zO];exact xY _ _
theorem zYr (i:Int):(zSf sc q l i).length≤l.length:=by simp only[zSf,zO];exact xY _ _
theorem yA9 (i:Int):(zKj sc q l i).length≤l.length:=by simp only[zKj,zO];exact xY _ _
theorem yEb:(zOq sc q l).length≤l.length:=by simp only[zOq,zO];exact xY _ _
theorem zRj {k:Nat} (hk:k<(plC sc q l).comps.length):(plC sc q l).comps[k].own.length≤l.length:=by
 simp only[plC,zB3,wZ,zD0];exact zKr _
theorem zPc {k:Nat} (hk:k<(plC sc q l).comps.length):(plC sc q l).comps[k].conds.length≤l.length:=by
 simp only[plC,zB3,wZ,zD0];exact yA9 _
theorem zSi {k:Nat} (hk:k<(plC sc q l).negs.length):(plC sc q l).negs[k].own.length≤l.length:=by
 simp only[plC,zEx,wZ,zQu];exact zKr _
theorem zQv {k:Nat} (hk:k<(plC sc q l).negs.length):(plC sc q l).negs[k].rest.length≤l.length:=by
 simp only[plC,zEx,wZ,zQu];exact zYr _
theorem yR7 (b:BI hB n1 bid mid T h n p (plC sc q l) (slF q q.items.length)) (hll:l.length≤1099511627776) {y:Y59} {id ver j:Nat} (e:Nat→AV) (h1:Heap) (n2:Nat) (a:K59 bid (plC sc q l) h n t y id ver j j ⟨e,h1,n2⟩) (hj:j=(wD q t).length) {Q}
  (hQ:∀s',E59 hB n1 bid mid sc q (l++[t]) T h n s'.h s'.n→Q .normal s') :
  awp (cz [3] (pfL zId)) (tlC 6 (Tryz.f59.body.getD .skip)) Q ⟨e,h1,n2⟩:=by
 obtain⟨a0,q7,q8,q9,_,_,_,_,ps⟩:=a;replace q7:e 7=bv (wT q t):=q7;replace q8:e 8=ii (lsL q ((wD q t).take j)):=q8;replace q9:e 9=ii (chL q t ((wD q t).take j)):=q9;replace ps:∀i∈(wD q t).take j,ngQ q i=false:=ps;have hno:(wD q t).find? (ngQ q)=none:=zLv fun x hx=>ps x (by rw[hj];rw[xN];exact hx)
 rw[hj,xN]at q8 q9;have hle:=yLi (q:=q) (wD q t);by_cases hlt:lsL q (wD q t)<(zBl q q.items.length).length
 ·have hk:lsL q (wD q t)<(plC sc q l).comps.length:=by rw[zF3];exact hlt
  have hp:=yHz (sc:=sc) (l:=l) hno hlt _ (zA hk);cases hal:wT q t with
  | true =>
   rw[hal,if_pos rfl]at hp;exact yR5 b hk (xE (zRj hk) hll) hal e h1 n2 a0 q7 q8 fun s' ⟨T',p',b',V⟩=>hQ s' ⟨T',p',by rw[hp];exact b',V⟩
  | false =>
   rw[hal,if_neg (by simp)]at hp
   exact yR4 b hk (xE (zPc hk) hll) hal e h1 n2 a0 q7 q8 q9 fun s' ⟨T',p',b',V⟩=>hQ s' ⟨T',p',by rw[hp];exact b',V⟩
 ·have hp:=yH2 (sc:=sc) (l:=l) hno hlt
  exact yR6 b (xE yEb hll) e h1 n2 a0 (by rw[q8,zF3];congr 2;congr 1;omega) fun s' ⟨T',p',b',V⟩=>hQ s' ⟨T',p',by rw[hp];exact b',V⟩
theorem ySa (hx:∀i,i<q.items.length→zAn (vars q.items) (itA q i).var=i) (hq:q.items.length<big) (hlb:(wX wS (vars q.items) t).length≤1099511627776) (hla:(wX zDe (vars q.items) t).length≤1099511627776) (hll:l.length≤1099511627776)
  (b:BI hB n1 bid mid T h n p (plC sc q l) (slF q q.items.length)) {y:Y59} {id ver:Nat} (e:Nat→AV) (h1:Heap) (n2:Nat) (a:K59 bid (plC sc q l) h n t y id ver 0 0 ⟨e,h1,n2⟩) {Q}
  (hN:∀e' h' n',K59 bid (plC sc q l) h n t y id ver (wD q t).length (wD q t).length ⟨e',h',n'⟩→Q (.exit 0) ⟨e',h',n'⟩)
  (hQ:∀s',E59 hB n1 bid mid sc q (l++[t]) T h n s'.h s'.n→Q .ret s') :
  awp (cz [3] (pfL zId)) (.loop zS2) Q ⟨e,h1,n2⟩:=by
 refine yK (fun s=>∃j,j≤(wD q t).length∧K59 bid (plC sc q l) h n t y id ver j j s) (fun s=>(wD q t).length-(s.e 62).i.toNat) ⟨0,zAz _,a⟩ ?_
 rintro e' h' n' ⟨j,hj,J⟩;have hml:(wD q t).length<big:=by
  have:wD q t=wX wS (vars q.items) t++wX zDe (vars q.items) t:=rfl;rw[this,zR];unfold big;omega
 have J0:=J;have q61:=J.q61;have q62:=J.q62;replace q61:e' 61=ii (wD q t).length:=q61;simp only[]at q62;by_cases hlt:j<(wD q t).length
 ·refine zX 2 _ _ (R:=fun s=>K59 bid (plC sc q l) h n t y id ver j j s∧s.e 62=ii j) ?_ fun e2 h2 n2' ⟨J2,z62⟩ => ?_
  ·simp[evz,hdC,tlC,zS2,yP,Tryz.f59,q61,q62,ii,hlt]
   exact J0.up (by simp[up]) (zE _ _) J0.a.fr (zD _)
  ·show awp _ (.seq (.block 1 zW9) (tlC 3 zS2)) _ _
   rw[zCf,zAe];obtain⟨hi0,hi⟩:=zF4 (zF hlt);have hsl:=yFt hx hi (zD q.items.length);refine zX 3 _ _ (ySc (P:=plC sc q l) b hlt hsl e2 h2 n2' J2) fun e3 h3 n3 ⟨J3,m12,m13,ty,R⟩ => ?_
   cases hng:(itA q (wD q t)[j].toNat).neg with
   | true =>
    have hfd:=yAi (p:=ngQ q) hlt J.ps hng;obtain⟨hk,hp⟩:=yH1 (sc:=sc) (l:=l) hfd;have hp:=hp _ (zA hk);cases hal:wT q t with
    | true =>
     rw[hal,if_pos rfl]at hp;refine yR9 (P:=plC sc q l) b hk (xE (zSi hk) hll) hal e3 h3 n3 J3.a J3.q7 hng (by simp only[hng,if_true]) R fun s' ⟨T',p',b',V⟩ => ?_
     exact hQ s' ⟨T',p',by rw[hp];exact b',V⟩
    | false =>
     rw[hal,if_neg (by simp)]at hp
     refine yR8 (P:=plC sc q l) b hk (xE (zQv hk) hll) hal e3 h3 n3 J3.a J3.q7 hng (by simp only[hng,if_true]) R fun s' ⟨T',p',b',V⟩ => ?_
     exact hQ s' ⟨T',p',by rw[hp];exact b',V⟩
   | false =>
    refine zA5 _ (fun x s hx => ?_) (ySb (P:=plC sc q l) (Q:=fun _ _=>False) (show (wX wS (vars q.items) t).length<big by unfold big;omega) hlt hng (by simp only[hng,yR,if_false];rfl) hng e3 h3 n3 J3 R)
    cases x with
    | normal =>
     obtain⟨e4,h4,n4⟩:=s;rw[wL]at hx;rw[zEd,wL];have hx0:=hx;have z:=hx.q62;simp only[]at z;have hw:=yF (j:=j) (by unfold big at hml ⊢;omega)
     simp[evz,hdC,tlC,zS2,yP,Tryz.f59,z,ii,hw];refine⟨⟨j+1,hlt,⟨hx0.a.up (by simp[up]) (zE _ _) hx0.a.fr (zD _),by simpa[up]using hx0.q7,by simpa[up]using hx0.q8,by simpa[up]using hx0.q9,by simpa[up]using hx0.q60,hx0.b60,by simpa[up]using hx0.q61,by simp[up,ii],hx0.ps⟩⟩,?_⟩
     rw[q62];simp[ii,AV.i];omega
    | exit i=>exact (by simp[zGq]at hx:False).elim
    | ret=>exact (by simp[zBx]at hx:False).elim
 ·obtain rfl:j=(wD q t).length:=by omega
  simp[evz,hdC,tlC,zS2,yP,Tryz.f59,q61,q62,ii];exact hN _ _ _ (J0.up (by simp[up]) (zE _ _) J0.a.fr (zD _))
end
end
section
theorem zPv (p:Int→Bool) (vs:List ByteArray) (t:List Nd):(wX p vs t).length≤vs.length:=by
 unfold wX;refine xE (xY _ _) ?_;simp
section
variable {hB:Heap} {n1 bid mid:Nat} {sc:List Ty} {q:Qu} {l:List (List Nd)} {t:List Nd} {T:Nat→Nat} {p:Pt} {h:Heap} {n:Nat}
theorem b59 (hx:∀i,i<q.items.length→zAn (vars q.items) (itA q i).var=i) (hq10:q.items.length≤10) (hll:l.length≤1099511627776) (hpt:xO t) (htl:sc.length*8≤140737488355328) (hst:zB9 sc)
  (b:BI hB n1 bid mid T h n p (plC sc q l) (slF q q.items.length)) {ta:AV} (et:rd dNs (still T h) ta=some t) :
  ACall (cz [3] (pfL zId)) 59 [.p bid 0 0,ta] h n fun _ h' n'=>E59 hB n1 bid mid sc q (l++[t]) T h n h' n':=by
 refine yV (args:=[.p bid 0 0,ta]) (zT1 (zS yP8 yH)) (zOf _ _) Tryz.func59 (c:=Tryz.f59.body.getD .skip) rfl (by kernel_rfl) (xM Tryz.func59 rfl rfl [] (pfL [])) (show 2≤Tryz.f59.ntmps by decide +kernel) ?_
 have hq:q.items.length*64≤140737488355328:=by omega
 have hvl:(vars q.items).length=q.items.length:=by simp[vars]
 have hub:=zPv wS (vars q.items) t;have hua:=zPv zDe (vars q.items) t;refine zX 2 _ _ (ySg (P:=plC sc q l) hq hpt htl hst b et (env0 [.p bid 0 0,ta]) rfl rfl) fun e1 h1 n2 ⟨q0,q1,q4,ag,fr,nn,m5,lo,hi,ca,la,M⟩ => ?_
 simp only[]at q0 q1 q4 ag fr nn;have V:Mv (fun _=>False) T h n T h1 n2:=Mv.of_agree b.s.tn nn ag fr
 refine zX 1 _ _ (ySf (P:=plC sc q l) hq hpt (b.mv V) (yS b.s.fr (yU (zBm _ _) et) _ ag) e1 q1 q4) fun e2 h2 n3 ⟨he,ag2,fr2,nn2,m6,a1,a2,a3,U⟩ => ?_
 simp only[]at he ag2 fr2 nn2;have S:S59 bid (plC sc q l) h n t ⟨m5,lo,hi,ca,la,m6,a1,a2,a3⟩ ⟨e2,h2,n3⟩:=by
  refine⟨(he 0 (by simp)).trans q0,(he 4 (by simp)).trans q4,yJ ag ag2 nn,fr2,xE nn nn2,M.up (he 5 (by simp)) ag2 nn2,?_⟩
  obtain⟨u1,u2,⟨u3,u4⟩,u5,u6,u7,u8⟩:=U;exact⟨u1,u2,⟨xE nn u3,u4⟩,u5,u6,u7,u8⟩
 refine zX 2 _ _ (ySe (P:=plC sc q l) b e2 h2 n3 S) fun e3 h3 n4 ⟨S3,q7,q8,q9⟩ => ?_
 refine zX 1 _ _ (R:=fun s=>∃y id ver,K59 bid (plC sc q l) h n t y id ver (wD q t).length (wD q t).length s) ?_ fun e4 h4 n5 ⟨y,id,ver,K⟩ => ?_
 ·show awp _ (.seq (hdC 1 (hdC 1 (tlC 5 (Tryz.f59.body.getD .skip)))) (.block 0 (.loop zS2))) _ _
  rw[zCf];have k1:(wX wS (vars q.items) t).length≤1099511627776:=by omega
  have k2:(wX zDe (vars q.items) t).length≤1099511627776:=by omega
  refine zA5 _ (fun x s hxx => ?_) (ySd (P:=plC sc q l) (Q:=fun _ _=>False) k1 k2 zF3 e3 h3 n4 S3 q7 q8 q9)
  cases x with
  | normal =>
   obtain⟨e5,h5,n6⟩:=s;rw[wL]at hxx;obtain⟨id,ver,K⟩:=hxx;rw[wL,zAe];refine ySa hx (by unfold big;omega) k1 k2 hll b e5 h5 n6 K (fun e' h' n' K' => ?_) fun s' hE => ?_
   ·rw[zBf,if_pos rfl,wL]
    exact⟨_,id,ver,K'⟩
   ·rw[zBw,zBx,zJ4]
    exact⟨trivial,hE⟩
  | exit i=>exact (by simp[zGq]at hxx:False).elim
  | ret=>exact (by simp[zBx]at hxx:False).elim
 ·refine yR7 b hll e4 h4 n5 K rfl fun s' hE => ?_
  rw[yAj];exact⟨trivial,hE⟩
end
end
def szN (t:List Nd) (i:Nat):Nat:=i+1-zOh t i
def yB2 (m:Nat):=yE zXn (fun q=>zAu q.1=true∧xO q.1∧0≤q.2∧q.2<(m:Int)∧q.2<(q.1.length:Int)) fun q=>ii (szN q.1 q.2.toNat)
def yG6 (m:Nat):List (FuncId×(List AV→Heap→PRes)):=[(147,yB2 m)]
theorem zY8:P0 [] 147 (yB2 0):=by
 have no:∀args h,¬(yB2 0 args h).side:=fun args h hs=>by
  obtain⟨a,_,hp,_⟩:=zDw zG2 hs;obtain⟨_,_,h1,h2,_⟩:=hp;omega
 exact⟨fun args h h' _ hs=>(no _ _ hs).elim,.inl ⟨xM Tryz.func147 rfl rfl _ _,fun ρ h w args vs _ _ _ hs=>(no _ _ hs).elim⟩⟩
theorem yP7:∀m,P0 [] 147 (yB2 m)
 | 0=>zY8
 | m+1=>by
  refine mkH 2 (S:=[]) (l:=yG6 m) (zS (yP7 m) yH) Tryz.func147 rfl (by kernel_rfl) zG2 (fun h l x e=>by obtain⟨p,rfl,_⟩:=zIx e;exact zD _) (fun a=>rfl) (fun args q h n e hp hn => ?_)
  obtain⟨t,i⟩:=q;obtain⟨a,rfl,e1⟩:=zIx e;obtain⟨ht,hsm,hi0,him,hil⟩:=hp;simp only[]at e1 ht hsm hi0 him hil ⊢;obtain⟨j,rfl⟩:∃j:Nat,i=j:=⟨i.toNat,by omega⟩
  rw[zV];have hlt:j<t.length:=by omega
  have T:=zC4 ht;have hT:=T.kind j hlt;have hsm':t.length*64≤140737488355328:=hsm;have g1:=xL hn e1;rcases zKb e1 with ⟨h0,_⟩|⟨id,off,k,rfl,hk,ho',hat⟩
  ·rw[h0]at hlt;simp at hlt
  have hr:=hat j hlt;have hro:=zDv hk;have h0:=zFn hk hn;have h00:=zFn hk hn 0;simp only[yO]at h00;have c4:=yG (c:=4) hr rfl (by omega)
  have c5:=yG (c:=5) hr rfl (by omega)
  rw[xD]at c4 c5;have hw5:off+(j*6+5)≤k.cells.length:=by omega
  have hw6:off+(j*6+6)≤k.cells.length:=by omega
  have hlo:=T.le j hlt;have hag:=zE n (roH h);rcases hT with ⟨b1,b2,b3,b4,b⟩|⟨b0,b1,b2,b3,b⟩|⟨b0,b0',b1,b2,c,b3,b4,b⟩
  ·have hsz:szN t j=1:=by unfold szN;omega
   rw[b3]at c4;rw[b4]at c5;simp only[ii]at c4 c5;simp[evx,ii,hlt,hro,c4,c5,hw5,hw6,hsz]
  ·have hsz:(szN t j:Int)=1+(szN t (j-1):Int):=by
    have:=T.le (j-1) (by omega)
    unfold szN;omega
   rw[b2]at c4;rw[b3]at c5;simp only[ii]at c4 c5;have k1:j-1<m:=by omega
   have k2:j-1<t.length:=by omega
   have hs2:szN t (j-1)≤t.length:=by unfold szN;omega
   have hw:=zD3 (x:=1+(szN t (j-1):Int)) (by omega) (by omega)
   rw[hsz];generalize hz:szN t (j-1)=z at *;simp[evx,ii,hlt,hro,c4,c5,hw5,hw6,yG6,yB2,yE,zXn,g1,hag,ht,hsm,k1,k2,hz,hw]
   done
  ·have hlb:=T.le (j-1) (by omega)
   have hla:=T.le c (by omega)
   have hsz:(szN t j:Int)=1+(szN t c:Int)+(szN t (j-1):Int):=by
    unfold szN;omega
   rw[b3]at c4;rw[b2]at c5;simp only[ii]at c4 c5;have k1:j-1<m:=by omega
   have k2:j-1<t.length:=by omega
   have k3:c<m:=by omega
   have k4:c<t.length:=by omega
   have hs1:szN t c≤t.length:=by unfold szN;omega
   have hs2:szN t (j-1)≤t.length:=by unfold szN;omega
   have hw:=zD3 (x:=1+(szN t c:Int)) (by omega) (by omega)
   have hw':=zD3 (x:=1+(szN t c:Int)+(szN t (j-1):Int)) (by omega) (by omega)
   rw[hsz];generalize hz1:szN t (j-1)=z1 at *;generalize hz2:szN t c=z2 at *;simp[evx,ii,hlt,hro,c4,c5,hw5,hw6,yG6,yB2,yE,zXn,g1,hag,ht,hsm,k1,k2,k3,k4,hz1,hz2,hw,hw']
   done
def yLd (q:List Nd×Int):Prop:=zAu q.1=true∧xO q.1∧0≤q.2∧q.2<(q.1.length:Int)
def zTf:=yE zXn yLd fun q=>ii (szN q.1 q.2.toNat)
theorem yPj:P0 [] 147 zTf:=by
 refine⟨fun args h h' hh hs => ?_,.inl ⟨xM Tryz.func147 rfl rfl _ _,fun ρ h w args vs r hmx ha hs => ?_⟩⟩
 ·obtain⟨a,e,hp,hall⟩:=zDw zG2 hs
  have e1:zTf args h'=_:=hall h' hh;have e2:zTf args h=_:=hall h (fun _ _ e=>e)
  rw[e1,e2];exact⟨hp,rfl⟩
 ·obtain⟨a,e,hp,hall⟩:=zDw zG2 hs
  have e2:zTf args h=_:=hall h (fun _ _ e=>e)
  have e3:yB2 a.1.length args h=⟨zAu a.1=true∧xO a.1∧0≤a.2∧a.2<(a.1.length:Int)∧a.2<(a.1.length:Int),ii (szN a.1 a.2.toNat)⟩:=by simp only[yB2,yE,e]
  have hs':(yB2 a.1.length args h).side:=by rw[e3];exact⟨hp.1,hp.2.1,hp.2.2.1,hp.2.2.2,hp.2.2.2⟩
  have hv:(yB2 a.1.length args h).val=(zTf args h).val:=by rw[e3,e2]
  rcases (yP7 a.1.length).2 with ⟨_,k⟩|k
  ·have:=k ρ h w args vs r hmx ha hs'
   rwa [hv]at this
  ·obtain⟨y,e9,_⟩:=k ρ h w args vs ha hs'
   rw[xM (S:=[]) Tryz.func147 rfl rfl]at e9;cases e9
def G89:=yE zXn yLd fun q=>ii (szN q.1 q.2.toNat)
def yPp:List (FuncId×(List AV→Heap→PRes)):=[(79,G70),(147,zTf)]
theorem P89:P0 [3] 93 G89:=by
 refine mkH 2 (S:=[3]) (l:=yPp) (zS P70 (zS yPj yH)) Tryz.func93 rfl (by kernel_rfl) zG2 (fun h l x e=>by obtain⟨p,rfl,_⟩:=zIx e;exact zD _) (fun a=>rfl) (fun args q h n e hp hn => ?_)
 obtain⟨t,i⟩:=q;obtain⟨a,rfl,e1⟩:=zIx e;have hp':=hp;obtain⟨ht,hsm,hi0,hil⟩:=hp;simp only[]at e1 ht hsm hi0 hil ⊢;have g1:=xL hn e1;obtain⟨s1,s2,s3,s4,s5⟩:=zK e1;have hag:=zE n (roH h);have h1:¬i<0:=by omega
 have h2:¬(t.length:Int)≤i:=by omega
 simp[evx,ii,s1,s2,s3,h1,h2,yPp,G70,zTf,yLd,yE,deT,zXn,g1,hag,ht,hsm,hi0,hil,bv]
section
section
variable {sc:List Ty} {vs:List ByteArray} {t:List Nd} {lo:Nat→Nat} {en:En}
end
end
section
section
variable {vs:List ByteArray} {a b:List Nd} {op:Int}
end
end
section
theorem zXw {α:Type}:∀(cs:List α) (a b c:List α),b.length=cs.length→wr (a++b++c) a.length cs=a++cs++c
 | [],a,b,c,h=>by
  have:b=[]:=zU h;subst this;rfl
 | x::r,a,[],c,h=>by simp at h
 | x::r,a,y::b,c,h=>by
  have e:((a++(y::b)++c).set a.length x)=(a++[x])++b++c:=by
   rw[wI,zC1 _ _ (zD _),zDr];simp
  have:=zXw r (a++[x]) b c (by simpa using h)
  rw[zR]at this
  simp only[wr,e];rw[show a.length+[x].length=a.length+1 by rfl]at this
  rw[this];simp
def z99:Ins:=⟨99,0,0,0,0⟩
def bl (l:List Ins) (s:Nat):Nat→List Ins
 | 0=>l
 | k+1=>(bl l s k).set (s+k) z99
section
variable {sc:List Ty} {vs:List ByteArray} {en:En} {a b:List Nd} {op:Int}
end
end
def yHc (lo:Nat) (x:List Nd) (j:Nat):List AV:=((x.take j).map (zM6 lo)++x.drop j).flatMap yA
def yMu:List (FuncId×(List AV→Heap→PRes)):=[(93,G89)]
theorem yKj {α:Type} {l cs:List α} (h:l.length=cs.length):wr l 0 cs=cs:=by
 have:=zXw cs [] l [] (by simpa using h)
 simpa using this
theorem yF5 {p q:List Nd} {x:Nd} {j c:Nat} {v:AV} (hp:p.length=j) (hc:(yA x)[c]? = some v) (hc6:c<6):((p++x::q).flatMap yA)[j*6+c]? = some v:=by
 have hl:(p.flatMap yA).length=j*6:=by rw[zDb Flat.nd,hp]
 rw[List.flatMap_append,wH,yN (by omega),hl,show j*6+c-j*6=c by omega,zQ (by rw[show (yA x).length=6 from rfl];exact hc6)]
 exact hc
theorem yKi {p q:List Nd} {x y:Nd} {j c:Nat} {v:AV} (hp:p.length=j) (h:(yA x).set c v=yA y) (hc6:c<6):((p++x::q).flatMap yA).set (j*6+c) v=(p++y::q).flatMap yA:=by
 have hl:(p.flatMap yA).length=j*6:=by rw[zDb Flat.nd,hp]
 rw[List.flatMap_append,wH,zC1 _ _ (by omega),hl,show j*6+c-j*6=c by omega,List.set_append_left _ _ (by rw[show (yA x).length=6 from rfl];exact hc6),h,List.flatMap_append,wH]
theorem zUo {t:List Nd} {lo:Nat→Nat} (T:Tre t lo) {i:Nat} (hi:i<t.length) : -1≤t[i].a∧t[i].a<t.length∧-1≤t[i].b∧t[i].b<t.length:=by
 rcases T.kind i hi with ⟨b1,b2,b3,b4,b⟩|⟨b0,b1,b2,b3,b⟩|⟨b0,b0',b1,b2,a,b3,b4,b⟩
 ·omega
 ·omega
 ·have:=T.le (i-1) (by omega)
  omega
theorem zWq (l:List Nd) (m:Nat):(l.flatMap yA).drop (m*6)=(l.drop m).flatMap yA:=by
 by_cases h:m≤l.length
 ·have h1:((l.take m).flatMap yA).length=m*6:=by rw[zDb Flat.nd,yB,Nat.min_eq_left h]
  conv=>lhs;rw[←zAt m l,List.flatMap_append,←h1,List.drop_left]
 ·have h1:l.drop m=[]:=List.drop_eq_nil_of_le (by omega)
  rw[h1,List.drop_eq_nil_of_le (by rw[zDb Flat.nd];omega)];rfl
theorem zWp (l:List Nd) (m:Nat):(l.flatMap yA).take (m*6)=(l.take m).flatMap yA:=by
 by_cases h:m≤l.length
 ·have h1:((l.take m).flatMap yA).length=m*6:=by rw[zDb Flat.nd,yB,Nat.min_eq_left h]
  conv=>lhs;rw[←zAt m l,List.flatMap_append,←h1,List.take_left]
 ·rw[yY (l:=l) (by omega),yY (by rw[zDb Flat.nd];omega)]
theorem c52 {h:Heap} {n:Nat} {a:AV} {t:List Nd} {r:Nat} (e1:rd dNs h a=some t) (ht:zAu t=true) (hsm:xO t) (hr:r<t.length) (hn:Fresh n h) :
  ACall (cx [3] (pfL yMu)) 46 [a,ii r] h n fun z h' n'=>agree n h h'∧Fresh n' h'∧n≤n'∧∃w,z=.s w 0 0 (zAo t r).length∧h' w=some ⟨(zAo t r).flatMap yA,0,true,6⟩∧n≤w∧w<n':=by
 refine yV (args:=[a,ii r]) (zA1 (zS P89 yH)) (zCm _ _) Tryz.func46 (c:=Tryz.f46.body.getD .skip) rfl (by kernel_rfl) (xM Tryz.func46 rfl rfl _ _) (show 2≤Tryz.f46.ntmps by decide +kernel) ?_
 obtain⟨s1,s2,s3,s4,s5⟩:=zK e1;have T:=zC4 ht;have hlo:=T.le r hr;have b1:t.length*64≤140737488355328:=hsm;have hsub:zAo t r=((t.drop (zOh t r)).take (szN t r)).map (zM6 (zOh t r)):=rfl;have hsl:(zAo t r).length=szN t r:=zG6 hr hlo;have hsz:szN t r=r+1-zOh t r:=rfl;rw[hsl,hsub];have g1:∀h',agree n h h'→rd dNs h' a=some t:=fun h' ha=>yS hn e1 h' ha
 have f1:∀h',agree n h h'→G89 [a,ii r] h'=⟨yLd (t,(r:Int)),ii (szN t r)⟩:=fun h' ha=>by
  simp only[G89,yE,zXn,ii,g1 h' ha,zM,zV]
 have f2:yLd (t,(r:Int)):=⟨ht,hsm,Int.natCast_nonneg _,by simpa using hr⟩
 have hik:∀i (hi:i<t.length),zOh t r≤i→i≤r→(0≤t[i].a→(zOh t r:Int)≤t[i].a)∧(0≤t[i].b→(zOh t r:Int)≤t[i].b):=fun i hi h1 h2=>yAg T hr h1 h2 hi
 generalize hz:szN t r=z at *;generalize zOh t r=lo at *;rcases zKb e1 with ⟨hq,_⟩|⟨id,off,k,rfl,hk,ho',hat⟩
 ·rw[hq]at hr;simp at hr
 generalize hx:(t.drop lo).take z=x;have key:∀e:Nat→AV,e 0=.s id k.ver off t.length→e 1=ii r→awp (cx [3] (pfL yMu)) (Tryz.f46.body.getD .skip) (zA8 (cx [3] (pfL yMu)) Tryz.f46 fun v h' n'=>agree n h h'∧Fresh n' h'∧n≤n'∧∃w,v=.s w 0 0 z∧h' w=some ⟨(x.map (zM6 lo)).flatMap yA,0,true,6⟩∧n≤w∧w<n') ⟨e,h,n⟩:=fun e q0 q1=>by
  have z1:¬(z:Int)=0:=by omega
  have w1:=zD3 (x:=(r:Int)-(z:Int)) (by omega) (by omega)
  have w2:IntKind.i64.wrap (lo:Int)=(lo:Int):=zD3 (by omega) (by omega)
  simp only[ii]at f1 f2;have z2:¬z=0:=by omega
  have hl2:(r:Int)-(z:Int)+1=(lo:Int):=by omega
  have z3:64*(z:Int)≤281474976710656:=by omega
  have z4:(z:Int)≤9223372036854775807:=by omega
  have z5:(lo:Int)≤(t.length:Int):=by omega
  have hne:¬id=n:=by simpa using zFn hk hn 0
  have z6:off+(lo*6+(t.length-lo)*6)≤k.cells.length:=by omega
  simp[evx,Tryz.f46,q0,q1,ii,yMu,f1,f2,zE,z2,z3,z4,z5,z6,w1,w2,hl2,hne,hk,zDi];have hx1:x.length=z:=by simp only[←hx,yB,xC];omega
  have hcp:wr (repZ [Value.int IntKind.i64 0,Value.int IntKind.i64 0,Value.string ByteArray.empty,Value.string ByteArray.empty,Value.int IntKind.i64 0,Value.int IntKind.i64 0] z) 0 (List.take (min (t.length-lo) z*6) (List.take ((t.length-lo)*6) (List.drop (off+lo*6) k.cells)))=x.flatMap yA:=by
   have hfl:(k.cells.drop off).take (t.length*6)=t.flatMap yA:=by
    have:=(zIu Flat.nd e1).2;simpa only[slc,hk,xA,yO]using this
   have hl2:(x.flatMap yA).length=z*6:=by rw[zDb Flat.nd,hx1]
   have e3:List.take (min (t.length-lo) z*6) (List.take ((t.length-lo)*6) (List.drop (off+lo*6) k.cells))=x.flatMap yA:=by
    have hm:min (t.length-lo) z=z:=by omega
    have h4:List.take ((t.length-lo)*6) (List.drop (off+lo*6) k.cells)=(t.drop lo).flatMap yA:=by
     rw[←zWq,←hfl,List.drop_take,zD9,Nat.sub_mul]
    rw[hm,h4,zWp,hx]
   rw[e3];exact yKj (by rw[zDi,hl2];rfl)
  refine yK (fun s=>∃j:Nat,j≤z∧s.e 7=.s n 0 0 z∧s.e 6=ii lo∧s.e 26=ii z∧s.e 27=ii j∧s.h n=some ⟨yHc lo x j,0,true,6⟩∧agree n h s.h∧Fresh s.n s.h∧n+1≤s.n) (fun s=>z-(s.e 27).i.toNat) ⟨0,by omega,by simp[up],by simp[up,ii],by simp[up,ii],by simp[up,ii],by simp[up,yHc];exact hcp,by simp[zC,zE],by simp[zG,hn.add],by simp⟩ ?_
  rintro e' h' n' ⟨j,hj,q7,q6,q26,q27,hkw,hag,hfr,hnn⟩;simp only[]at q7 q6 q26 q27 hkw hag hfr hnn;by_cases hlt:j<z
  ·have hjx:j<x.length:=by omega
   have hsp:x.drop j=x[j]::x.drop (j+1):=wC hjx;have htk:(x.take (j+1)).map (zM6 lo)=(x.take j).map (zM6 lo)++[zM6 lo x[j]]:=by rw[zZ hjx,yM];rfl
   have hpl:((x.take j).map (zM6 lo)).length=j:=by rw[zO,yB];omega
   have hxj:x[j]=t[lo+j]'(by omega):=by simp only[←hx,List.getElem_take,List.getElem_drop]
   have hin:=zUo T (i:=lo+j) (by omega)
   have hin:=zUo T (i:=lo+j) (by omega)
   have hin2:=hik (lo+j) (by omega) (by omega) (by omega)
   rw[←hxj]at hin hin2;have hxl:((x.take j).map (zM6 lo)++x.drop j).length=z:=by rw[zR,hpl,xC];omega
   unfold yHc at hkw;rw[hsp]at hkw hxl;have hfin:∀y',y'=zM6 lo x[j]→((x.take j).map (zM6 lo)++y'::x.drop (j+1)).flatMap yA=yHc lo x (j+1):=fun y' e=>by rw[yHc,e,htk,wI];rfl
   obtain⟨y,hy⟩:∃y,y=x[j]:=⟨_,rfl⟩;rw[←hy]at hin hin2 hkw hfin hxl;obtain⟨p,hp⟩:∃p,p=(x.take j).map (zM6 lo):=⟨_,rfl⟩;rw[←hp]at hpl hkw hfin hxl;obtain⟨g,hg⟩:∃g,g=x.drop (j+1):=⟨_,rfl⟩;rw[←hg]at hkw hfin hxl;clear hsp htk hxj hp hg hy;obtain⟨op,ny,var,attr,ya,yb⟩:=y;have hlt':(j:Int)<(z:Int):=by omega
   have hjw:=yF (j:=j) (by unfold big;omega)
   simp only[]at hin hin2;have n4:∀u v:Int,((p++(⟨op,ny,var,attr,u,v⟩:Nd)::g).flatMap yA)[j*6+4]? = some (ii u):=fun u v=>yF5 hpl rfl (by omega)
   have n5:∀u v:Int,((p++(⟨op,ny,var,attr,u,v⟩:Nd)::g).flatMap yA)[j*6+5]? = some (ii v):=fun u v=>yF5 hpl rfl (by omega)
   have m4:∀u v w:Int,((p++(⟨op,ny,var,attr,u,v⟩:Nd)::g).flatMap yA).set (j*6+4) (ii w)=(p++(⟨op,ny,var,attr,w,v⟩:Nd)::g).flatMap yA:=fun u v w=>yKi hpl rfl (by omega)
   have m5:∀u v w:Int,((p++(⟨op,ny,var,attr,u,v⟩:Nd)::g).flatMap yA).set (j*6+5) (ii w)=(p++(⟨op,ny,var,attr,u,w⟩:Nd)::g).flatMap yA:=fun u v w=>yKi hpl rfl (by omega)
   have cl:∀u v:Int,((p++(⟨op,ny,var,attr,u,v⟩:Nd)::g).flatMap yA).length=z*6:=fun u v=>by
    rw[zDb Flat.nd,←hxl];simp
   have hf2:∀u v:Int,u=(if 0≤ya then ya-lo else ya)→v=(if 0≤yb then yb-lo else yb)→(p++(⟨op,ny,var,attr,u,v⟩:Nd)::g).flatMap yA=yHc lo x (j+1):=fun u v e1 e2=>hfin _ (by rw[e1,e2];rfl)
   generalize hC:(fun u v:Int=>(p++(⟨op,ny,var,attr,u,v⟩:Nd)::g).flatMap yA)=C
   have hC':∀u v:Int,(p++(⟨op,ny,var,attr,u,v⟩:Nd)::g).flatMap yA=C u v:=fun u v=>by rw[←hC]
   simp only[hC']at n4 n5 m4 m5 cl hf2 hkw;clear hC hC' hfin;simp only[ii]at n4 n5 m4 m5;have v1:¬z*6<j*6+4+1:=by omega
   have v2:¬z*6<j*6+5+1:=by omega
   have u1:n<n'+1:=by omega
   have u2:n<n'+2:=by omega
   have v3:j*6+5≤z*6:=by omega
   have v4:j*6+6≤z*6:=by omega
   have hne':∀m,¬n=n'+m:=fun m=>by omega
   by_cases ha:0≤ya
   ·have wa:=zD3 (x:=ya-lo) (by have:=hin2.1 ha;omega) (by omega)
    by_cases hb:0≤yb
    ·have wb:=zD3 (x:=yb-lo) (by have:=hin2.2 hb;omega) (by omega)
     have hX2:=hf2 (ya-lo) (yb-lo) (by rw[if_pos ha]) (by rw[if_pos hb])
     simp[evx,q7,q6,q26,q27,ii,hlt',hkw,n4,n5,m4,m5,cl,ha,hb,hjw,v3,v4,wa,wb];exact⟨⟨j+1,by omega,by omega,hX2,by simp[zC,hag],by first|exact hfr|simp[zG,u2,hfr.add],by omega⟩,by omega⟩
    ·have hX2:=hf2 (ya-lo) yb (by rw[if_pos ha]) (by rw[if_neg hb])
     simp[evx,q7,q6,q26,q27,ii,hlt',hkw,n4,n5,m4,cl,ha,hb,hjw,v3,v4,wa];exact⟨⟨j+1,by omega,by omega,hX2,by simp[zC,hag],by first|exact hfr|simp[zG,u1,hfr.add],by omega⟩,by omega⟩
   ·by_cases hb:0≤yb
    ·have wb:=zD3 (x:=yb-lo) (by have:=hin2.2 hb;omega) (by omega)
     have hX2:=hf2 ya (yb-lo) (by rw[if_neg ha]) (by rw[if_pos hb])
     simp[evx,q7,q6,q26,q27,ii,hlt',hkw,n4,n5,m5,cl,ha,hb,hjw,v3,v4,wb];exact⟨⟨j+1,by omega,by omega,hX2,by simp[zC,hag],by first|exact hfr|simp[zG,u1,hfr.add],by omega⟩,by omega⟩
    ·have hX2:=hf2 ya yb (by rw[if_neg ha]) (by rw[if_neg hb])
     simp[evx,q7,q6,q26,q27,ii,hlt',hkw,n4,n5,cl,ha,hb,hjw,v3,v4];exact⟨⟨j+1,by omega,by omega,hX2,by simp[hag],by first|exact hfr|simp[zG,u1,u2,hfr.add],by omega⟩,by omega⟩
  ·obtain rfl:j=z:=by omega
   simp[evx,q7,q26,q27,ii];have hd:x.drop j=[]:=List.drop_eq_nil_of_le (by omega)
   have htk:x.take j=x:=yY (by omega)
   rw[yHc,hd,htk,List.append_nil]at hkw;exact⟨hag,hfr,by omega,hkw,by omega⟩
 exact key _ rfl rfl
section
def yQa (q n:Nat) (h:Heap) (b:Nat) (l:List Nat):Prop :=
 (l=[]∧h b=some ⟨[.v (.slice none 0 0)],0,true,1⟩)∨∃w u,q≤w∧w<n∧h b=some ⟨[.s w u 0 l.length],0,true,1⟩∧h w=some ⟨l.map fun x:Nat=>ii x,u,true,1⟩
def yF2 (q b n:Nat) (h:Heap) (l:List Nat) (h':Heap) (n':Nat):Prop:=(∀id,id<q→id≠b→h' id=h id)∧yQa q n' h' b l∧Fresh n' h'∧n≤n'
section
variable {m q b1 b b4:Nat} {h0:Heap} {a:AV} {t:List Nd}
theorem c88 (e1:rd dNs h0 a=some t) (hn0:Fresh m h0) (ht:zAu t=true) (hsm:xO t) (k1:m≤b1) (k2:m≤b) (k3:m≤b4) (k4:b1<q) (k5:b<q) (k6:b4<q) (k7:b1≠b) (k8:b4≠b) :
  ∀r,r<t.length→∀(h:Heap) (n:Nat) (l:List Nat),agree m h0 h→h b1=some ⟨[a],0,true,1⟩→h b4=some ⟨[.f (.func 80) [] [.p b1 0 0,.p b 0 0,.p b4 0 0]],0,true,1⟩→yQa q n h b l→Fresh n h→q≤n→l.length+szN t r≤t.length→
   ACall (cx [] (pfL [])) 80 [ii r,.p b1 0 0,.p b 0 0,.p b4 0 0] h n fun _ h' n'=>yF2 q b n h (l++zFd t r) h' n':=by
 intro r
 induction r using Nat.strongRecOn with
 | _ r ih =>
 intro hr h n l hag g1 g4 ho hn hq hlen;have T:=zC4 ht;have e2:=yS hn0 e1 h hag;have hsm':t.length*64≤140737488355328:=hsm;refine yV (args:=[ii r,.p b1 0 0,.p b 0 0,.p b4 0 0]) (zA1 yH) (zCm _ _) Tryz.func80 (c:=Tryz.f80.body.getD .skip) rfl (by kernel_rfl) (xM Tryz.func80 rfl rfl _ _) (show 4≤Tryz.f80.ntmps by decide +kernel) ?_
 rcases zKb e1 with ⟨hz,_⟩|⟨id,off,k,rfl,hk0,ho',hat⟩
 ·rw[hz]at hr;simp at hr
 have hid:id<m:=xI hk0 hn0;have hk:h id=some k:=by rw[hag id hid];exact hk0
 have hrw:=hat r hr;have c0:=yG (c:=0) hrw rfl (by omega)
 have c4:=yG (c:=4) hrw rfl (by omega)
 have c5:=yG (c:=5) hrw rfl (by omega)
 simp only[yO]at c0;rw[xD]at c4 c5;have v1:off+(r*6+1)≤k.cells.length:=by omega
 have v5:off+(r*6+5)≤k.cells.length:=by omega
 have v6:off+(r*6+6)≤k.cells.length:=by omega
 have key:∀e:Nat→AV,e 0=ii r→e 1=.p b1 0 0→e 2=.p b 0 0→e 3=.p b4 0 0→awp (cx [] (pfL [])) (Tryz.f80.body.getD .skip) (zA8 (cx [] (pfL [])) Tryz.f80 fun _ h' n'=>yF2 q b n h (l++zFd t r) h' n') ⟨e,h,n⟩:=fun e q0 q1 q2 q3=>by
  have nb:∀j,¬b=n+j:=fun j=>by omega
  have nb0:¬b=n:=by omega
  by_cases hop:t[r].op=25
  ·obtain⟨j1,j2,j3,j4⟩:=zFw T hr hop
   have hcj:=zK3 T hr hop;have hop':t[r].op=25:=hop;obtain⟨x,hx⟩:∃x:Nat,t[r].a=x:=⟨t[r].a.toNat,by omega⟩
   obtain⟨y,hy⟩:∃y:Nat,t[r].b=y:=⟨t[r].b.toNat,by omega⟩
   have hx':t[r].a.toNat=x:=by omega
   have hy':t[r].b.toNat=y:=by omega
   have hxr:x<r:=by omega
   have hyr:y<r:=by omega
   have hsz:szN t r=1+szN t x+szN t y:=by
    rcases T.kind r hr with ⟨z1,z2,z3,z4,z⟩|⟨z0,z1,z2,z3,z⟩|⟨z0,z0',z1,z2,c,z3,z4,z⟩
    ·omega
    ·omega
    ·have hlb:=T.le (r-1) (by omega)
     have hla:=T.le c (by omega)
     have e1:x=c:=by omega
     have e2:y=r-1:=by omega
     subst e1;subst e2;unfold szN;omega
   have hcl:=zK5 T x (by omega)
   have hcx:(zFd t x).length≤szN t x:=hcl;have A:=ih x hxr (by omega) h n l hag g1 g4 ho hn hq (by omega)
   rw[hcj,hx',hy'];rw[hop]at c0;rw[hx]at c4;rw[hy]at c5;simp only[ii]at c0 c4 c5 A;have nid:∀j,¬id=n+j:=fun j=>by omega
   simp[evx,Tryz.f80,q0,q1,q3,ii,g1,g4,hk,c0,c4,hr,v1,v5];refine A.mono ?_;rintro v h2 n2 ⟨f1,f2,f3,f4⟩;have y1:h2 b1=some ⟨[AV.s id k.ver off t.length],0,true,1⟩:=by rw[f1 b1 k4 k7];exact g1
   have y4:h2 b4=some ⟨[.f (.func 80) [] [.p b1 0 0,.p b 0 0,.p b4 0 0]],0,true,1⟩:=by rw[f1 b4 k6 k8];exact g4
   have yk:h2 id=some k:=by rw[f1 id (by omega) (by omega)];exact hk
   have hag2:agree m h0 h2:=fun i hi=>by rw[f1 i (by omega) (by omega),hag i hi]
   refine⟨.inr ⟨rfl,fun t ht => ?_⟩,?_⟩
   ·simp[zAr]at ht
    rcases ht with ht|ht|ht<;>subst ht<;>simp[zFt,Eng.up,q1,q3,y1,y4,yk,g1,g4,hk]
   have B:=ih y hyr (by omega) h2 n2 (l++zFd t x) hag2 y1 y4 f2 f3 (by omega) (by rw[zR];omega)
   simp only[ii]at B;simp[evx,y1,y4,yk,c5,hr,v6];refine B.mono ?_;rintro v3 h3 n3 ⟨p1,p2,p3,p4⟩;have x1:h3 b1=some ⟨[AV.s id k.ver off t.length],0,true,1⟩:=by rw[p1 b1 k4 k7];exact y1
   have x4:h3 b4=some ⟨[.f (.func 80) [] [.p b1 0 0,.p b 0 0,.p b4 0 0]],0,true,1⟩:=by rw[p1 b4 k6 k8];exact y4
   have xk:h3 id=some k:=by rw[p1 id (by omega) (by omega)];exact yk
   refine⟨.inr ⟨rfl,fun t ht => ?_⟩,?_⟩
   ·simp[zAr]at ht
    rcases ht with ht|ht|ht<;>subst ht<;>simp[zFt,Eng.up,q1,q3,y1,y4,yk,x1,x4,xk]
   rw[←wI];exact⟨fun i h1 h2'=>by rw[p1 i h1 h2',f1 i h1 h2'],p2,p3,by omega⟩
  ·have hcj:=zK4 hr hop
   rw[hcj];rcases ho with ⟨rfl,hb⟩|⟨w,u,o1,o2,hb,hw⟩
   ·simp[evx,Tryz.f80,q0,q1,q2,ii,g1,hk,c0,hr,v1,hop,hb,nb,nb0]
    exact⟨fun i h1 h2=>by simp[Eng.up,h2,show ¬i=n by omega,show ¬i=n+1 by omega],.inr ⟨n+1,0,by omega,by omega,by simp[Eng.up],by simp[Eng.up,ii,show ¬n+1=b by omega]⟩,by simp[zG,hn.add,show b<n+3 by omega],by omega⟩
   ·have nw:∀j,¬w=n+j:=fun j=>by omega
    have nw0:¬w=n:=by omega
    have nwb:¬w=b:=by omega
    have nwb':¬b=w:=by omega
    have y1:(l.length+1)*8≤140737488355328:=by unfold szN at hlen;have:=T.le r hr;omega
    have y2:l.length≤9223372036854775806:=by omega
    simp[evx,Tryz.f80,q0,q1,q2,ii,g1,hk,c0,hr,v1,hop,hb,hw,nb0,nw0,nwb',y1,y2];exact⟨fun i h1 h2=>by simp[Eng.up,h2,show ¬i=n by omega,show ¬i=w by omega],.inr ⟨w,u+1,by omega,by omega,by simp[Eng.up],by simp[Eng.up,ii,nwb]⟩,by simp[zG,hn.add,show b<n+3 by omega,show w<n+3 by omega],by omega⟩
 exact key _ rfl rfl rfl rfl
end
def yFo:List (FuncId×(List AV→Heap→PRes)):=[(79,G70)]
theorem c51 {h:Heap} {n:Nat} {a:AV} {t:List Nd} (e1:rd dNs h a=some t) (ht:zAu t=true) (hsm:xO t) (hn:Fresh n h) :
  ACall (cx [3] (pfL yFo)) 35 [a] h n fun z h' n'=>agree n h h'∧Fresh n' h'∧n≤n'∧∃w u,z=.s w u 0 (zFd t (t.length-1)).length∧h' w=some ⟨(zFd t (t.length-1)).map fun x:Nat=>ii x,u,true,1⟩∧n≤w∧w<n':=by
 refine yV (args:=[a]) (zA1 (zS P70 yH)) (zCm _ _) Tryz.func35 (c:=Tryz.f35.body.getD .skip) rfl (by kernel_rfl) (xM Tryz.func35 rfl rfl _ _) (show 1≤Tryz.f35.ntmps by decide +kernel) ?_
 obtain⟨s1,s2,s3,s4,s5⟩:=zK e1;have T:=zC4 ht;have hpos:0<t.length:=T.pos;have hsm':t.length*64≤140737488355328:=hsm;obtain⟨j,he⟩:∃j,t.length=j+1:=⟨t.length-1,by omega⟩
 have he1:IntKind.i64.wrap ((t.length:Int)-1)=j:=by rw[he];exact zPs (by unfold big;omega)
 have hj:t.length-1=j:=by omega
 rw[hj];have g1:∀h',agree n h h'→rd dNs h' a=some t:=fun h' ha=>yS hn e1 h' ha
 have hne:=(zPb T j (by omega)).2
 have key:∀e:Nat→AV,e 0=a→awp (cx [3] (pfL yFo)) (Tryz.f35.body.getD .skip) (zA8 (cx [3] (pfL yFo)) Tryz.f35 fun z h' n'=>agree n h h'∧Fresh n' h'∧n≤n'∧∃w u,z=.s w u 0 (zFd t j).length∧h' w=some ⟨(zFd t j).map fun x:Nat=>ii x,u,true,1⟩∧n≤w∧w<n') ⟨e,h,n⟩:=fun e q0=>by
  simp[evx,Tryz.f35,q0,ii,s1,s2,s4,s5,yFo,G70,yE,deT,g1,zC,zE,hsm,ht,bv,he1];have K:=c88 (m:=n) (q:=n+3) (b1:=n) (b:=n+1) (b4:=n+2) e1 hn ht hsm (by omega) (by omega) (by omega) (by omega) (by omega) (by omega) (by omega) (by omega) j (by omega)
  refine (xV (S:=[]) (by simp) (K _ (n+4) [] (by simp[zC,zE]) (by simp[Eng.up]) (by simp[Eng.up]) (.inl ⟨rfl,by simp[Eng.up]⟩) (by simp[zG,hn.add]) (by omega) (by have:=T.le j (by omega);unfold szN;simp only[zAi];omega))).mono ?_
  rintro v h2 n2 ⟨f1,f2,f3,f4⟩;rw[List.nil_append]at f2;rcases f2 with ⟨hz,_⟩|⟨w,u,w1,w2,hb,hw⟩
  ·exact absurd hz hne
  simp only[ii]at hw;simp[hb];exact⟨fun i hi=>by rw[f1 i (by omega) (by omega)];simp[Eng.up,show ¬i=n by omega,show ¬i=n+1 by omega,show ¬i=n+2 by omega],f3,by omega,w,u,⟨rfl,rfl⟩,hw,by omega,w2⟩
 exact key _ rfl
end
theorem zZ3 {t:List Nd} {f g:Nat→Ins} {i:Ins}:∀{n:Nat},i∈zH1 t f g n→(∃k,k<n∧i=f k)∨∃k,k<n∧(zHc t k).isSome=true∧i=g k
 | 0,h=>by simp[zH1]at h
 | n+1,h=>by
  simp only[zH1,wN,yL]at h;rcases h with h|rfl|h
  ·rcases zZ3 h with ⟨k,h1,h2⟩|⟨k,h1,h2⟩
   ·exact .inl ⟨k,by omega,h2⟩
   ·exact .inr ⟨k,by omega,h2⟩
  ·exact .inl ⟨n,by omega,rfl⟩
  ·split at h
   ·rename_i hp
    simp only[zB7]at h;exact .inr ⟨n,by omega,hp,h⟩
   ·simp at h
theorem yIr (l:List ByteArray) (z:ByteArray) : -1≤zAn l z∧zAn l z<(l.length:Int):=by
 unfold zAn;split<;>omega
theorem zEn {x:Int} (h1 : -1≤x) (h2:x≤4611686018427387904):Rng x:=by
 unfold Rng;omega
theorem yJq {sc:List Ty} {vs:List ByteArray} {t:List Nd} (hvs:vs.length<big) (hp:xO t) (htl:sc.length*8≤140737488355328) (hr:∀x∈t,Rng x.n):PrOk (zA2 sc vs t):=by
 have hp':t.length*64≤140737488355328:=hp;unfold zA2;split
 ·rename_i hrun
  have T:=zC4 (show zAu t=true by simp only[zI9,zH]at hrun;exact hrun.1)
  have hf:=few T;have hnl:=zLp t t.length;have hb:vs.length<4611686018427387904:=hvs;refine⟨by simp only[];rw[zMx,zB4];omega,fun i hi => ?_,fun c hc => ?_⟩
  ·rcases zZ3 hi with ⟨k,h1,rfl⟩|⟨k,h1,h2,rfl⟩
   ·rw[zGl,zBh h1]
    have hk:=T.kind k h1;have ho:1≤t[k].op∧t[k].op≤26:=by
     rcases hk with ⟨h1,h2,_⟩|⟨h1,_⟩|⟨h1,h2,_⟩<;>omega
    have hit : -1≤wK vs t[k]∧wK vs t[k]≤9223372036854775806:=by
     unfold wK;have:=yIr vs t[k].var;split<;>omega
    have hix:=yIr (zBr t) t[k].attr;have hn2:(zBr t).length≤t.length:=hnl;have hrn:=hr _ (zF h1);have hri:Rng (wK vs t[k]):=by unfold Rng;omega
    have r0:Rng 0:=zEn (by omega) (by omega)
    have rc:Rng (zAn (zBr t) t[k].attr):=zEn (by omega) (by omega)
    unfold zR0 yMr
    repeat' split
    all_goals refine⟨?_,?_,?_,?_,?_⟩<;>first|exact r0|exact hrn|exact hri|exact rc|exact zEn (by simp only[];omega) (by simp only[];omega)
   ·unfold zKd
    split
    ·rename_i p hpp
     have hpl:p<t.length:=by
      have:=List.mem_of_find?_eq_some hpp;simpa using this
     have hle:=zGd (t:=t) (k:=p) (n:=t.length) hpl;have ho:1≤t[p].op∧t[p].op≤26:=by
      rcases T.kind p hpl with ⟨h1,h2,_⟩|⟨h1,_⟩|⟨h1,h2,_⟩<;>omega
     have r0:Rng 0:=zEn (by omega) (by omega)
     have hpo:zBg t p+1≤zBg t t.length:=by split at hle<;>omega
     rw[zBh hpl];refine⟨zEn (by simp only[];omega) (by simp only[];omega),r0,r0,r0,zEn (by simp only[];omega) (by simp only[];omega)⟩
    ·have r0:Rng 0:=zEn (by omega) (by omega)
     exact⟨r0,r0,r0,r0,r0⟩
  ·obtain⟨a,_,rfl⟩:=xF.1 hc
   rw[zG7];unfold big;omega
 ·exact⟨by simp,by simp,by simp⟩
def za:ByteArray:=⟨#[97]⟩
theorem yA8 {t:List Nd} {lo:Nat→Nat} (T:Tre t lo):∀i,i<t.length→2*(zFd t i).length≤i+2-lo i:=by
 intro i
 induction i using Nat.strongRecOn with
 | _ i ih =>
  intro hi;have hl:=T.le i hi;by_cases h:t[i].op=25
  ·obtain⟨k1,k2,_⟩:=zFw T hi h
   rw[zK3 T hi h,zR];have c1:=ih _ k1 (by omega)
   have c2:=ih _ k2 (by omega)
   rcases T.kind i hi with ⟨b1,b2,b3,b4,b⟩|⟨b0,b1,b2,b3,b⟩|⟨b0,b0',b1,b2,a,b3,b4,b⟩
   ·omega
   ·omega
   ·have e1:t[i].a.toNat=a:=by omega
    have e2:t[i].b.toNat=i-1:=by omega
    have:=T.le (i-1) (by omega)
    have:=T.le a (by omega)
    rw[e1]at c1 ⊢;rw[e2]at c2 ⊢;omega
  ·rw[zK4 hi h]
   simp only[List.length_cons,zAi];omega
def xR (t:List Nd):List Nat:=if zAu t=true then zFd t (t.length-1)else []
theorem zF0 {t:List Nd} {r:Nat} (h:r∈xR t):zAu t=true∧r<t.length:=by
 unfold xR at h;split at h
 ·rename_i ht
  have T:=zC4 ht;have:=(zPb T (t.length-1) (by have:=T.pos;omega)).1 r h
  have:=T.pos;exact⟨ht,by omega⟩
 ·simp at h
theorem zQg {t:List Nd} (hs:xO t):(xR t).length≤1099511627776:=by
 unfold xR;unfold xO at hs;split
 ·rename_i ht
  have T:=zC4 ht;have h1:=yA8 T (t.length-1) (by have:=T.pos;omega)
  have:=T.pos;omega
 ·simp
theorem zCo (q:Qu):zA7 q=(xR q.wh).map (zAo q.wh):=by
 unfold zA7 xR zBv;split<;>simp
theorem zP7 {t:List Nd} {r:Nat} (ht:zAu t=true) (hr:r<t.length) (hs:xO t):xO (zAo t r):=by
 have T:=zC4 ht;have hl:(zAo t r).length=r+1-zOh t r:=zG6 hr (T.le r hr);unfold xO at *;omega
theorem yF8 {vs:List ByteArray} {z:ByteArray} (h:0≤zAn vs z):∃j:Nat,zAn vs z=j∧∃hj:j<vs.length,vs.findIdx (· == z)=j∧vs[j]=z:=by
 unfold zAn at h ⊢;split at h
 ·rename_i hl
  refine⟨_,if_pos hl,hl,rfl,?_⟩;have:=List.findIdx_getElem (w:=hl);rw[zEt]at this
  exact this
 ·omega
theorem yLp {l:List ByteArray} {a b:ByteArray} (ha:0≤zAn l a) (h:zAn l a=zAn l b):a=b:=by
 obtain⟨i,h1,h2,h3,h4⟩:=yF8 ha;obtain⟨j,k1,k2,k3,k4⟩:=yF8 (vs:=l) (z:=b) (by omega)
 have:i=j:=by omega
 subst this;rw[←h4,k4]
theorem zT9:∀{l:List Nat} {n:Nat},l.Nodup→(∀x∈l,x<n)→l.length≤n
 | l,0,_,h=>by
  cases l with
  | nil=>simp
  | cons a r=>exact absurd (h a (by simp)) (by omega)
 | l,n+1,hd,h=>by
  have h1:(l.erase n).length≤n:=zT9 (hd.erase n) fun x hx=>by
   have h2:=h x (List.mem_of_mem_erase hx);have h3:x≠n:=fun e=>by
    subst e;exact (List.Nodup.not_mem_erase hd) hx
   omega
  have h4:l.length-1≤(l.erase n).length:=by rw[List.length_erase];split<;>omega
  omega
theorem yAn {l:List ByteArray} (h:zLy l l.length=false):l.Pairwise (·≠·):=by
 rw[List.pairwise_iff_getElem];intro i j hi hj hij e;unfold zLy at h;rw[List.any_eq_false]at h;refine h j (xQ.2 hj) ?_;rw[zCe];refine⟨l[i],?_,?_⟩
 ·rw[List.mem_take_iff_getElem]
  exact⟨i,by omega,rfl⟩
 ·rw[e,zB,zA hj,xB,zEt]
theorem yB7 {sc:List Ty} {it:It} (h:zE9 sc it=0):it.types.length≤sc.length:=by
 obtain⟨h1,h2,_⟩:=zOj h;have hd:=yAn h2;have h3:(it.types.map fun z=>(wR sc z).toNat).length≤sc.length:=by
  refine zT9 ?_ fun x hx => ?_
  ·rw[List.nodup_iff_pairwise_ne,List.pairwise_map]
   refine List.Pairwise.imp_of_mem (fun {a b} ha hb hab e=>hab ?_) hd
   have:=h1 a ha;have:=h1 b hb;exact yLp (l:=sc.map fun x:Ty=>x.name) (h1 a ha) (by have e':(wR sc a).toNat=(wR sc b).toNat:=e;unfold wR at *;omega)
  ·obtain⟨z,hz,rfl⟩:=xF.1 hx
   have:=h1 z hz;have h4:=(yIr (sc.map fun x:Ty=>x.name) z).2
   rw[zO]at h4;unfold wR at *;omega
 rwa [zO]at h3
theorem Wf.short {sc:List Ty} {q:Qu} (W:Wf sc q):0<sc.length∧sc.length≤16∧(∀t∈sc,t.attrs.length≤8)∧0<q.items.length∧(∀it∈q.items,it.types.length≤16):=by
 obtain⟨h1,h2,h3⟩:=yK0 W.s0;refine⟨h1,h2,fun t ht => ?_,?_,fun it hit => ?_⟩
 ·obtain⟨i,hi,rfl⟩:=yX.1 ht
  have h4:=(yHi (h3 i hi)).2.2.1
  rwa [zB,zA hi,xB]at h4
 ·have h5:=W.sh
  simp only[shQ,zH,decide_eq_true_eq]at h5;omega
 ·obtain⟨i,hi,rfl⟩:=yX.1 hit
  have h6:=yB7 (zUq (W.it i hi)).1;rw[zB,zA hi,xB]at h6;omega
theorem c35 {h:Heap} {n:Nat} {a:AV} {t:List Nd} (e1:rd dNs h a=some t) (hsm:xO t) (hn:Fresh n h) :
  ACall (cx [3] (pfL yFo)) 35 [a] h n fun z h' n'=>agree n h h'∧Fresh n' h'∧n≤n'∧rd dIs (wtn n n' h') z=some ((xR t).map fun x:Nat=>(x:Int)):=by
 cases ht:zAu t with
 | true =>
  refine (c51 e1 ht hsm hn).mono ?_;rintro z h' n' ⟨a1,a2,a3,w,u,rfl,hw,w1,w2⟩;refine⟨a1,a2,a3,?_⟩;rw[xR,if_pos ht];generalize zFd t (t.length-1)=l at *;have:=zBs (h:=wtn n n' h') Flat.int (l:=l.map fun x:Nat=>(x:Int)) (id:=w) (ver:=u) (k:=⟨l.map fun x:Nat=>ii x,u,true,1⟩) (by rw[zLa w1 w2];exact hw) rfl (r:=[]) (by rw[List.append_nil,←zKv,List.map_map];rfl)
  rwa [zO]at this
 | false =>
  refine yV (args:=[a]) (zA1 (zS P70 yH)) (zCm _ _) Tryz.func35 (c:=Tryz.f35.body.getD .skip) rfl (by kernel_rfl) (xM Tryz.func35 rfl rfl _ _) (show 1≤Tryz.f35.ntmps by decide +kernel) ?_
  obtain⟨s1,s2,s3,s4,s5⟩:=zK e1;have g1:∀h',agree n h h'→rd dNs h' a=some t:=fun h' ha=>yS hn e1 h' ha
  have key:∀e:Nat→AV,e 0=a→awp (cx [3] (pfL yFo)) (Tryz.f35.body.getD .skip) (zA8 (cx [3] (pfL yFo)) Tryz.f35 fun z h' n'=>agree n h h'∧Fresh n' h'∧n≤n'∧rd dIs (wtn n n' h') z=some ((xR t).map fun x:Nat=>(x:Int))) ⟨e,h,n⟩:=fun e q0=>by
   simp[evx,Tryz.f35,q0,s4,s5,yFo,G70,yE,deT,g1,zC,zE,hsm,ht,bv,zG,hn.add,xR];rfl
  exact key _ rfl
end Go.Proofs.YtbffkkeieihpdaaGreatDoor
