import Derived.Test.YtbffkkeieihpdaaGreatDoorE32
import Derived.Test.YtbffkkeieihpdaaGreatDoorE27
import Derived.Test.YtbffkkeieihpdaaGreatDoorE22
import Derived.Test.YtbffkkeieihpdaaGreatDoorE19
import Derived.Test.YtbffkkeieihpdaaGreatDoorE14
set_option linter.unusedSimpArgs false
set_option linter.unusedVariables false
set_option linter.constructorNameAsVariable false
set_option maxRecDepth 100000
set_option maxHeartbeats 4000000
namespace Go.Proofs.YtbffkkeieihpdaaGreatDoor
open Go Go.Eng
section
theorem zPw {α:Type} {p:α→Bool} {l:List α} (h:∀x∈l,p x=false):l.find? p=none:=List.find?_eq_none.2 fun x hx=>by rw[h x hx];simp
theorem yGz {α:Type} {p:α→Bool} {l:List α} {j:Nat} (hj:j<l.length) (h:∀x∈l.take j,p x=false) (hp:p l[j]=true):l.find? p=some l[j]:=by
 have e:l=l.take j++l[j]::l.drop (j+1):=by rw[List.getElem_cons_drop,zAb]
 have h1:(l.take j++l[j]::l.drop (j+1)).find? p=some l[j]:=by
  rw[List.find?_append,zPw h,Option.none_or,List.find?_cons_of_pos hp]
 rw[←e]at h1;exact h1
def E59 (hB:Heap) (n1 bid mid:Nat) (sc:List Ty) (q:Qu) (l:List (List Nd)) (T:Nat→Nat) (h:Heap) (n:Nat) (h':Heap) (n':Nat):Prop :=
 ∃T' p',BI hB n1 bid mid T' h' n' p' (plC sc q l) (slF q q.items.length)∧Mv (fun _=>True) T h n T' h' n'
section
variable {hB:Heap} {n1 bid mid:Nat} {sc:List Ty} {q:Qu} {l:List (List Nd)} {t:List Nd} {T:Nat→Nat} {p:Pt} {h:Heap} {n:Nat}
theorem zFb:(plC sc q l).comps.length=(zAq q q.items.length).length:=by simp[plC,zBr]
theorem zJo (i:Int):(zVy sc q l i).length≤l.length:=by simp only[zVy,zQ];exact wS _ _
theorem zW0 (i:Int):(zQ0 sc q l i).length≤l.length:=by simp only[zQ0,zQ];exact wS _ _
theorem zZe (i:Int):(zCq sc q l i).length≤l.length:=by simp only[zCq,zQ];exact wS _ _
theorem yB7:(zU9 sc q l).length≤l.length:=by simp only[zU9,zQ];exact wS _ _
theorem zP7 {k:Nat} (hk:k<(plC sc q l).comps.length):(plC sc q l).comps[k].own.length≤l.length:=by
 simp only[plC,zBr,wN,zE3];exact zJo _
theorem zNz {k:Nat} (hk:k<(plC sc q l).comps.length):(plC sc q l).comps[k].conds.length≤l.length:=by
 simp only[plC,zBr,wN,zE3];exact zZe _
theorem zQ1 {k:Nat} (hk:k<(plC sc q l).negs.length):(plC sc q l).negs[k].own.length≤l.length:=by
 simp only[plC,zD9,wN,zPf];exact zJo _
theorem zPg {k:Nat} (hk:k<(plC sc q l).negs.length):(plC sc q l).negs[k].rest.length≤l.length:=by
 simp only[plC,zD9,wN,zPf];exact zW0 _
theorem yPn (b:BI hB n1 bid mid T h n p (plC sc q l) (slF q q.items.length)) (hll:l.length≤1099511627776) {y:Y59} {id ver j:Nat} (e:Nat→AV) (h1:Heap) (n2:Nat) (a:K59 bid (plC sc q l) h n t y id ver j j ⟨e,h1,n2⟩) (hj:j=(xV q t).length) {Q}
  (hQ:∀s',E59 hB n1 bid mid sc q (l++[t]) T h n s'.h s'.n→Q .normal s') :
  awp (cz [3] (pfL zHa)) (tlC 6 (Tryz.f59.body.getD .skip)) Q ⟨e,h1,n2⟩:=by
 obtain⟨a0,q7,q8,q9,_,_,_,_,ps⟩:=a;replace q7:e 7=bv (zAa q t):=q7;replace q8:e 8=ii (lsL q ((xV q t).take j)):=q8;replace q9:e 9=ii (chL q t ((xV q t).take j)):=q9;replace ps:∀i∈(xV q t).take j,ngQ q i=false:=ps;have hno:(xV q t).find? (ngQ q)=none:=zPw fun x hx=>ps x (by rw[hj];rw[wW];exact hx)
 rw[hj,wW]at q8 q9;have hle:=yJb (q:=q) (xV q t);by_cases hlt:lsL q (xV q t)<(zAq q q.items.length).length
 ·have hk:lsL q (xV q t)<(plC sc q l).comps.length:=by rw[zFb];exact hlt
  have hp:=yFt (sc:=sc) (l:=l) hno hlt _ (zA hk);cases hal:zAa q t with
  | true =>
   rw[hal,if_pos rfl]at hp;exact yPl b hk (xL (zP7 hk) hll) hal e h1 n2 a0 q7 q8 fun s' ⟨T',p',b',V⟩=>hQ s' ⟨T',p',by rw[hp];exact b',V⟩
  | false =>
   rw[hal,if_neg (by simp)]at hp
   exact yPk b hk (xL (zNz hk) hll) hal e h1 n2 a0 q7 q8 q9 fun s' ⟨T',p',b',V⟩=>hQ s' ⟨T',p',by rw[hp];exact b',V⟩
 ·have hp:=yFw (sc:=sc) (l:=l) hno hlt
  exact yPm b (xL yB7 hll) e h1 n2 a0 (by rw[q8,zFb];congr 2;congr 1;omega) fun s' ⟨T',p',b',V⟩=>hQ s' ⟨T',p',by rw[hp];exact b',V⟩
theorem yPq (hx:∀i,i<q.items.length→wY (vars q.items) (itA q i).var=i) (hq:q.items.length<big) (hlb:(zA0 wU (vars q.items) t).length≤1099511627776) (hla:(zA0 zC3 (vars q.items) t).length≤1099511627776) (hll:l.length≤1099511627776)
  (b:BI hB n1 bid mid T h n p (plC sc q l) (slF q q.items.length)) {y:Y59} {id ver:Nat} (e:Nat→AV) (h1:Heap) (n2:Nat) (a:K59 bid (plC sc q l) h n t y id ver 0 0 ⟨e,h1,n2⟩) {Q}
  (hN:∀e' h' n',K59 bid (plC sc q l) h n t y id ver (xV q t).length (xV q t).length ⟨e',h',n'⟩→Q (.exit 0) ⟨e',h',n'⟩)
  (hQ:∀s',E59 hB n1 bid mid sc q (l++[t]) T h n s'.h s'.n→Q .ret s') :
  awp (cz [3] (pfL zHa)) (.loop zRl) Q ⟨e,h1,n2⟩:=by
 refine yN (fun s=>∃j,j≤(xV q t).length∧K59 bid (plC sc q l) h n t y id ver j j s) (fun s=>(xV q t).length-(s.e 62).i.toNat) ⟨0,zDg _,a⟩ ?_
 rintro e' h' n' ⟨j,hj,J⟩;have hml:(xV q t).length<big:=by
  have:xV q t=zA0 wU (vars q.items) t++zA0 zC3 (vars q.items) t:=rfl;rw[this,zM];unfold big;omega
 have J0:=J;have q61:=J.q61;have q62:=J.q62;replace q61:e' 61=ii (xV q t).length:=q61;simp only[]at q62;by_cases hlt:j<(xV q t).length
 ·refine zZ 2 _ _ (R:=fun s=>K59 bid (plC sc q l) h n t y id ver j j s∧s.e 62=ii j) ?_ fun e2 h2 n2' ⟨J2,z62⟩ => ?_
  ·simp[evz,hdC,tlC,zRl,yW,Tryz.f59,q61,q62,ii,hlt]
   exact J0.up (by simp[up]) (zE _ _) J0.a.fr (zC _)
  ·show awp _ (.seq (.block 1 zVq) (tlC 3 zRl)) _ _
   rw[zDn,zAy];obtain⟨hi0,hi⟩:=zIl (zH hlt);have hsl:=yDl hx hi (zC q.items.length);refine zZ 3 _ _ (yPs (P:=plC sc q l) b hlt hsl e2 h2 n2' J2) fun e3 h3 n3 ⟨J3,m12,m13,ty,R⟩ => ?_
   cases hng:(itA q (xV q t)[j].toNat).neg with
   | true =>
    have hfd:=yGz (p:=ngQ q) hlt J.ps hng;obtain⟨hk,hp⟩:=yFv (sc:=sc) (l:=l) hfd;have hp:=hp _ (zA hk);cases hal:zAa q t with
    | true =>
     rw[hal,if_pos rfl]at hp;refine yPp (P:=plC sc q l) b hk (xL (zQ1 hk) hll) hal e3 h3 n3 J3.a J3.q7 hng (by simp only[hng,if_true]) R fun s' ⟨T',p',b',V⟩ => ?_
     exact hQ s' ⟨T',p',by rw[hp];exact b',V⟩
    | false =>
     rw[hal,if_neg (by simp)]at hp
     refine yPo (P:=plC sc q l) b hk (xL (zPg hk) hll) hal e3 h3 n3 J3.a J3.q7 hng (by simp only[hng,if_true]) R fun s' ⟨T',p',b',V⟩ => ?_
     exact hQ s' ⟨T',p',by rw[hp];exact b',V⟩
   | false =>
    refine zBk _ (fun x s hx => ?_) (yPr (P:=plC sc q l) (Q:=fun _ _=>False) (show (zA0 wU (vars q.items) t).length<big by unfold big;omega) hlt hng (by simp only[hng,yO,if_false];rfl) hng e3 h3 n3 J3 R)
    cases x with
    | normal =>
     obtain⟨e4,h4,n4⟩:=s;rw[zAw]at hx;rw[zH6,zAw];have hx0:=hx;have z:=hx.q62;simp only[]at z;have hw:=yK (j:=j) (by unfold big at hml ⊢;omega)
     simp[evz,hdC,tlC,zRl,yW,Tryz.f59,z,ii,hw];refine⟨⟨j+1,hlt,⟨hx0.a.up (by simp[up]) (zE _ _) hx0.a.fr (zC _),by simpa[up]using hx0.q7,by simpa[up]using hx0.q8,by simpa[up]using hx0.q9,by simpa[up]using hx0.q60,hx0.b60,by simpa[up]using hx0.q61,by simp[up,ii],hx0.ps⟩⟩,?_⟩
     rw[q62];simp[ii,AV.i];omega
    | exit i=>exact (by simp[zIb]at hx:False).elim
    | ret=>exact (by simp[zFw]at hx:False).elim
 ·obtain rfl:j=(xV q t).length:=by omega
  simp[evz,hdC,tlC,zRl,yW,Tryz.f59,q61,q62,ii];exact hN _ _ _ (J0.up (by simp[up]) (zE _ _) J0.a.fr (zC _))
end
end
section
theorem zOe (p:Int→Bool) (vs:List ByteArray) (t:List Nd):(zA0 p vs t).length≤vs.length:=by
 unfold zA0;refine xL (wS _ _) ?_;simp
section
variable {hB:Heap} {n1 bid mid:Nat} {sc:List Ty} {q:Qu} {l:List (List Nd)} {t:List Nd} {T:Nat→Nat} {p:Pt} {h:Heap} {n:Nat}
theorem b59 (hx:∀i,i<q.items.length→wY (vars q.items) (itA q i).var=i) (hq10:q.items.length≤10) (hll:l.length≤1099511627776) (hpt:xQ t) (htl:sc.length*8≤140737488355328) (hst:zCa sc)
  (b:BI hB n1 bid mid T h n p (plC sc q l) (slF q q.items.length)) {ta:AV} (et:rd dNs (still T h) ta=some t) :
  ACall (cz [3] (pfL zHa)) 59 [.p bid 0 0,ta] h n fun _ h' n'=>E59 hB n1 bid mid sc q (l++[t]) T h n h' n':=by
 refine yR (args:=[.p bid 0 0,ta]) (zSi (zS yNo yJ)) (zM8 _ _) Tryz.func59 (c:=Tryz.f59.body.getD .skip) rfl (by kernel_rfl) (xK Tryz.func59 rfl rfl [] (pfL [])) (show 2≤Tryz.f59.ntmps by decide +kernel) ?_
 have hq:q.items.length*64≤140737488355328:=by omega
 have hvl:(vars q.items).length=q.items.length:=by simp[vars]
 have hub:=zOe wU (vars q.items) t;have hua:=zOe zC3 (vars q.items) t;refine zZ 2 _ _ (yPw (P:=plC sc q l) hq hpt htl hst b et (env0 [.p bid 0 0,ta]) rfl rfl) fun e1 h1 n2 ⟨q0,q1,q4,ag,fr,nn,m5,lo,hi,ca,la,M⟩ => ?_
 simp only[]at q0 q1 q4 ag fr nn;have V:Mv (fun _=>False) T h n T h1 n2:=Mv.of_agree b.s.tn nn ag fr
 refine zZ 1 _ _ (yPv (P:=plC sc q l) hq hpt (b.mv V) (yT b.s.fr (yZ (zA8 _ _) et) _ ag) e1 q1 q4) fun e2 h2 n3 ⟨he,ag2,fr2,nn2,m6,a1,a2,a3,U⟩ => ?_
 simp only[]at he ag2 fr2 nn2;have S:S59 bid (plC sc q l) h n t ⟨m5,lo,hi,ca,la,m6,a1,a2,a3⟩ ⟨e2,h2,n3⟩:=by
  refine⟨(he 0 (by simp)).trans q0,(he 4 (by simp)).trans q4,yP ag ag2 nn,fr2,xL nn nn2,M.up (he 5 (by simp)) ag2 nn2,?_⟩
  obtain⟨u1,u2,⟨u3,u4⟩,u5,u6,u7,u8⟩:=U;exact⟨u1,u2,⟨xL nn u3,u4⟩,u5,u6,u7,u8⟩
 refine zZ 2 _ _ (yPu (P:=plC sc q l) b e2 h2 n3 S) fun e3 h3 n4 ⟨S3,q7,q8,q9⟩ => ?_
 refine zZ 1 _ _ (R:=fun s=>∃y id ver,K59 bid (plC sc q l) h n t y id ver (xV q t).length (xV q t).length s) ?_ fun e4 h4 n5 ⟨y,id,ver,K⟩ => ?_
 ·show awp _ (.seq (hdC 1 (hdC 1 (tlC 5 (Tryz.f59.body.getD .skip)))) (.block 0 (.loop zRl))) _ _
  rw[zDn];have k1:(zA0 wU (vars q.items) t).length≤1099511627776:=by omega
  have k2:(zA0 zC3 (vars q.items) t).length≤1099511627776:=by omega
  refine zBk _ (fun x s hxx => ?_) (yPt (P:=plC sc q l) (Q:=fun _ _=>False) k1 k2 zFb e3 h3 n4 S3 q7 q8 q9)
  cases x with
  | normal =>
   obtain⟨e5,h5,n6⟩:=s;rw[zAw]at hxx;obtain⟨id,ver,K⟩:=hxx;rw[zAw,zAy];refine yPq hx (by unfold big;omega) k1 k2 hll b e5 h5 n6 K (fun e' h' n' K' => ?_) fun s' hE => ?_
   ·rw[zFh,if_pos rfl,zAw]
    exact⟨_,id,ver,K'⟩
   ·rw[zJ1,zFw,zTd]
    exact⟨trivial,hE⟩
  | exit i=>exact (by simp[zIb]at hxx:False).elim
  | ret=>exact (by simp[zFw]at hxx:False).elim
 ·refine yPn b hll e4 h4 n5 K rfl fun s' hE => ?_
  rw[zYo];exact⟨trivial,hE⟩
end
end
def szN (t:List Nd) (i:Nat):Nat:=i+1-zN7 t i
def zZ0 (m:Nat):=yH zV1 (fun q=>zAh q.1=true∧xQ q.1∧0≤q.2∧q.2<(m:Int)∧q.2<(q.1.length:Int)) fun q=>ii (szN q.1 q.2.toNat)
def yEz (m:Nat):List (FuncId×(List AV→Heap→PRes)):=[(147,zZ0 m)]
theorem zXh:P0 [] 147 (zZ0 0):=by
 have no:∀args h,¬(zZ0 0 args h).side:=fun args h hs=>by
  obtain⟨a,_,hp,_⟩:=zF1 zF8 hs;obtain⟨_,_,h1,h2,_⟩:=hp;omega
 exact⟨fun args h h' _ hs=>(no _ _ hs).elim,.inl ⟨xK Tryz.func147 rfl rfl _ _,fun ρ h w args vs _ _ _ hs=>(no _ _ hs).elim⟩⟩
theorem yNn:∀m,P0 [] 147 (zZ0 m)
 | 0=>zXh
 | m+1=>by
  refine mkH 2 (S:=[]) (l:=yEz m) (zS (yNn m) yJ) Tryz.func147 rfl (by kernel_rfl) zF8 (fun h l x e=>by obtain⟨p,rfl,_⟩:=zH0 e;exact zC _) (fun a=>rfl) (fun args q h n e hp hn => ?_)
  obtain⟨t,i⟩:=q;obtain⟨a,rfl,e1⟩:=zH0 e;obtain⟨ht,hsm,hi0,him,hil⟩:=hp;simp only[]at e1 ht hsm hi0 him hil ⊢;obtain⟨j,rfl⟩:∃j:Nat,i=j:=⟨i.toNat,by omega⟩
  rw[yF];have hlt:j<t.length:=by omega
  have T:=zCt ht;have hT:=T.kind j hlt;have hsm':t.length*64≤140737488355328:=hsm;have g1:=xP hn e1;rcases zKk e1 with ⟨h0,_⟩|⟨id,off,k,rfl,hk,ho',hat⟩
  ·rw[h0]at hlt;simp at hlt
  have hr:=hat j hlt;have hro:=zEj hk;have h0:=zJc hk hn;have h00:=zJc hk hn 0;simp only[yL]at h00;have c4:=yI (c:=4) hr rfl (by omega)
  have c5:=yI (c:=5) hr rfl (by omega)
  rw[xD]at c4 c5;have hw5:off+(j*6+5)≤k.cells.length:=by omega
  have hw6:off+(j*6+6)≤k.cells.length:=by omega
  have hlo:=T.le j hlt;have hag:=zE n (roH h);rcases hT with ⟨b1,b2,b3,b4,b⟩|⟨b0,b1,b2,b3,b⟩|⟨b0,b0',b1,b2,c,b3,b4,b⟩
  ·have hsz:szN t j=1:=by unfold szN;omega
   rw[b3]at c4;rw[b4]at c5;simp only[ii]at c4 c5;simp[evx,ii,hlt,hro,c4,c5,hw5,hw6,hsz]
  ·have hsz:(szN t j:Int)=1+(szN t (j-1):Int):=by
    have:=T.le (j-1) (by omega)
    unfold szN;omega
   rw[b2]at c4;rw[b3]at c5;simp only[ii]at c4 c5;have k1:j-1<m:=by omega
   have k2:j-1<t.length:=by omega
   have hs2:szN t (j-1)≤t.length:=by unfold szN;omega
   have hw:=zDj (x:=1+(szN t (j-1):Int)) (by omega) (by omega)
   rw[hsz];generalize hz:szN t (j-1)=z at *;simp[evx,ii,hlt,hro,c4,c5,hw5,hw6,yEz,zZ0,yH,zV1,g1,hag,ht,hsm,k1,k2,hz,hw]
   done
  ·have hlb:=T.le (j-1) (by omega)
   have hla:=T.le c (by omega)
   have hsz:(szN t j:Int)=1+(szN t c:Int)+(szN t (j-1):Int):=by
    unfold szN;omega
   rw[b3]at c4;rw[b2]at c5;simp only[ii]at c4 c5;have k1:j-1<m:=by omega
   have k2:j-1<t.length:=by omega
   have k3:c<m:=by omega
   have k4:c<t.length:=by omega
   have hs1:szN t c≤t.length:=by unfold szN;omega
   have hs2:szN t (j-1)≤t.length:=by unfold szN;omega
   have hw:=zDj (x:=1+(szN t c:Int)) (by omega) (by omega)
   have hw':=zDj (x:=1+(szN t c:Int)+(szN t (j-1):Int)) (by omega) (by omega)
   rw[hsz];generalize hz1:szN t (j-1)=z1 at *;generalize hz2:szN t c=z2 at *;simp[evx,ii,hlt,hro,c4,c5,hw5,hw6,yEz,zZ0,yH,zV1,g1,hag,ht,hsm,k1,k2,k3,k4,hz1,hz2,hw,hw']
   done
def yI5 (q:List Nd×Int):Prop:=zAh q.1=true∧xQ q.1∧0≤q.2∧q.2<(q.1.length:Int)
def zRw:=yH zV1 yI5 fun q=>ii (szN q.1 q.2.toNat)
theorem yM2:P0 [] 147 zRw:=by
 refine⟨fun args h h' hh hs => ?_,.inl ⟨xK Tryz.func147 rfl rfl _ _,fun ρ h w args vs r hmx ha hs => ?_⟩⟩
 ·obtain⟨a,e,hp,hall⟩:=zF1 zF8 hs
  have e1:zRw args h'=_:=hall h' hh;have e2:zRw args h=_:=hall h (fun _ _ e=>e)
  rw[e1,e2];exact⟨hp,rfl⟩
 ·obtain⟨a,e,hp,hall⟩:=zF1 zF8 hs
  have e2:zRw args h=_:=hall h (fun _ _ e=>e)
  have e3:zZ0 a.1.length args h=⟨zAh a.1=true∧xQ a.1∧0≤a.2∧a.2<(a.1.length:Int)∧a.2<(a.1.length:Int),ii (szN a.1 a.2.toNat)⟩:=by simp only[zZ0,yH,e]
  have hs':(zZ0 a.1.length args h).side:=by rw[e3];exact⟨hp.1,hp.2.1,hp.2.2.1,hp.2.2.2,hp.2.2.2⟩
  have hv:(zZ0 a.1.length args h).val=(zRw args h).val:=by rw[e3,e2]
  rcases (yNn a.1.length).2 with ⟨_,k⟩|k
  ·have:=k ρ h w args vs r hmx ha hs'
   rwa [hv]at this
  ·obtain⟨y,e9,_⟩:=k ρ h w args vs ha hs'
   rw[xK (S:=[]) Tryz.func147 rfl rfl]at e9;cases e9
def G89:=yH zV1 yI5 fun q=>ii (szN q.1 q.2.toNat)
def yM8:List (FuncId×(List AV→Heap→PRes)):=[(79,G70),(147,zRw)]
theorem P89:P0 [3] 93 G89:=by
 refine mkH 2 (S:=[3]) (l:=yM8) (zS P70 (zS yM2 yJ)) Tryz.func93 rfl (by kernel_rfl) zF8 (fun h l x e=>by obtain⟨p,rfl,_⟩:=zH0 e;exact zC _) (fun a=>rfl) (fun args q h n e hp hn => ?_)
 obtain⟨t,i⟩:=q;obtain⟨a,rfl,e1⟩:=zH0 e;have hp':=hp;obtain⟨ht,hsm,hi0,hil⟩:=hp;simp only[]at e1 ht hsm hi0 hil ⊢;have g1:=xP hn e1;obtain⟨s1,s2,s3,s4,s5⟩:=zN e1;have hag:=zE n (roH h);have h1:¬i<0:=by omega
 have h2:¬(t.length:Int)≤i:=by omega
 simp[evx,ii,s1,s2,s3,h1,h2,yM8,G70,zRw,yI5,yH,deT,zV1,g1,hag,ht,hsm,hi0,hil,bv]
section
section
variable {sc:List Ty} {vs:List ByteArray} {t:List Nd} {lo:Nat→Nat} {en:En}
end
end
section
section
variable {vs:List ByteArray} {a b:List Nd} {op:Int}
end
end
section
theorem zV7 {α:Type}:∀(cs:List α) (a b c:List α),b.length=cs.length→wr (a++b++c) a.length cs=a++cs++c
 | [],a,b,c,h=>by
  have:b=[]:=zU h;subst this;rfl
 | x::r,a,[],c,h=>by simp at h
 | x::r,a,y::b,c,h=>by
  have e:((a++(y::b)++c).set a.length x)=(a++[x])++b++c:=by
   rw[xT,zCf _ _ (zC _),zC7];simp
  have:=zV7 r (a++[x]) b c (by simpa using h)
  rw[zM]at this
  simp only[wr,e];rw[show a.length+[x].length=a.length+1 by rfl]at this
  rw[this];simp
def z99:Ins:=⟨99,0,0,0,0⟩
def bl (l:List Ins) (s:Nat):Nat→List Ins
 | 0=>l
 | k+1=>(bl l s k).set (s+k) z99
section
variable {sc:List Ty} {vs:List ByteArray} {en:En} {a b:List Nd} {op:Int}
end
end
def yE5 (lo:Nat) (x:List Nd) (j:Nat):List AV:=((x.take j).map (zL0 lo)++x.drop j).flatMap yC
def yKi:List (FuncId×(List AV→Heap→PRes)):=[(93,G89)]
theorem yIb {α:Type} {l cs:List α} (h:l.length=cs.length):wr l 0 cs=cs:=by
 have:=zV7 cs [] l [] (by simpa using h)
 simpa using this
theorem yDw {p q:List Nd} {x:Nd} {j c:Nat} {v:AV} (hp:p.length=j) (hc:(yC x)[c]? = some v) (hc6:c<6):((p++x::q).flatMap yC)[j*6+c]? = some v:=by
 have hl:(p.flatMap yC).length=j*6:=by rw[zCl Flat.nd,hp]
 rw[List.flatMap_append,xZ,yG (by omega),hl,show j*6+c-j*6=c by omega,zL (by rw[show (yC x).length=6 from rfl];exact hc6)]
 exact hc
theorem yIa {p q:List Nd} {x y:Nd} {j c:Nat} {v:AV} (hp:p.length=j) (h:(yC x).set c v=yC y) (hc6:c<6):((p++x::q).flatMap yC).set (j*6+c) v=(p++y::q).flatMap yC:=by
 have hl:(p.flatMap yC).length=j*6:=by rw[zCl Flat.nd,hp]
 rw[List.flatMap_append,xZ,zCf _ _ (by omega),hl,show j*6+c-j*6=c by omega,List.set_append_left _ _ (by rw[show (yC x).length=6 from rfl];exact hc6),h,List.flatMap_append,xZ]
theorem zS4 {t:List Nd} {lo:Nat→Nat} (T:Tre t lo) {i:Nat} (hi:i<t.length) : -1≤t[i].a∧t[i].a<t.length∧-1≤t[i].b∧t[i].b<t.length:=by
 rcases T.kind i hi with ⟨b1,b2,b3,b4,b⟩|⟨b0,b1,b2,b3,b⟩|⟨b0,b0',b1,b2,a,b3,b4,b⟩
 ·omega
 ·omega
 ·have:=T.le (i-1) (by omega)
  omega
theorem zU8 (l:List Nd) (m:Nat):(l.flatMap yC).drop (m*6)=(l.drop m).flatMap yC:=by
 by_cases h:m≤l.length
 ·have h1:((l.take m).flatMap yC).length=m*6:=by rw[zCl Flat.nd,zW,Nat.min_eq_left h]
  conv=>lhs;rw[←zAb m l,List.flatMap_append,←h1,List.drop_left]
 ·have h1:l.drop m=[]:=List.drop_eq_nil_of_le (by omega)
  rw[h1,List.drop_eq_nil_of_le (by rw[zCl Flat.nd];omega)];rfl
theorem zU7 (l:List Nd) (m:Nat):(l.flatMap yC).take (m*6)=(l.take m).flatMap yC:=by
 by_cases h:m≤l.length
 ·have h1:((l.take m).flatMap yC).length=m*6:=by rw[zCl Flat.nd,zW,Nat.min_eq_left h]
  conv=>lhs;rw[←zAb m l,List.flatMap_append,←h1,List.take_left]
 ·rw[yX (l:=l) (by omega),yX (by rw[zCl Flat.nd];omega)]
theorem c52 {h:Heap} {n:Nat} {a:AV} {t:List Nd} {r:Nat} (e1:rd dNs h a=some t) (ht:zAh t=true) (hsm:xQ t) (hr:r<t.length) (hn:Fresh n h) :
  ACall (cx [3] (pfL yKi)) 46 [a,ii r] h n fun z h' n'=>agree n h h'∧Fresh n' h'∧n≤n'∧∃w,z=.s w 0 0 (zA6 t r).length∧h' w=some ⟨(zA6 t r).flatMap yC,0,true,6⟩∧n≤w∧w<n':=by
 refine yR (args:=[a,ii r]) (zAr (zS P89 yJ)) (zB3 _ _) Tryz.func46 (c:=Tryz.f46.body.getD .skip) rfl (by kernel_rfl) (xK Tryz.func46 rfl rfl _ _) (show 2≤Tryz.f46.ntmps by decide +kernel) ?_
 obtain⟨s1,s2,s3,s4,s5⟩:=zN e1;have T:=zCt ht;have hlo:=T.le r hr;have b1:t.length*64≤140737488355328:=hsm;have hsub:zA6 t r=((t.drop (zN7 t r)).take (szN t r)).map (zL0 (zN7 t r)):=rfl;have hsl:(zA6 t r).length=szN t r:=zG6 hr hlo;have hsz:szN t r=r+1-zN7 t r:=rfl;rw[hsl,hsub];have g1:∀h',agree n h h'→rd dNs h' a=some t:=fun h' ha=>yT hn e1 h' ha
 have f1:∀h',agree n h h'→G89 [a,ii r] h'=⟨yI5 (t,(r:Int)),ii (szN t r)⟩:=fun h' ha=>by
  simp only[G89,yH,zV1,ii,g1 h' ha,zK,yF]
 have f2:yI5 (t,(r:Int)):=⟨ht,hsm,Int.natCast_nonneg _,by simpa using hr⟩
 have hik:∀i (hi:i<t.length),zN7 t r≤i→i≤r→(0≤t[i].a→(zN7 t r:Int)≤t[i].a)∧(0≤t[i].b→(zN7 t r:Int)≤t[i].b):=fun i hi h1 h2=>zYm T hr h1 h2 hi
 generalize hz:szN t r=z at *;generalize zN7 t r=lo at *;rcases zKk e1 with ⟨hq,_⟩|⟨id,off,k,rfl,hk,ho',hat⟩
 ·rw[hq]at hr;simp at hr
 generalize hx:(t.drop lo).take z=x;have key:∀e:Nat→AV,e 0=.s id k.ver off t.length→e 1=ii r→awp (cx [3] (pfL yKi)) (Tryz.f46.body.getD .skip) (zBc (cx [3] (pfL yKi)) Tryz.f46 fun v h' n'=>agree n h h'∧Fresh n' h'∧n≤n'∧∃w,v=.s w 0 0 z∧h' w=some ⟨(x.map (zL0 lo)).flatMap yC,0,true,6⟩∧n≤w∧w<n') ⟨e,h,n⟩:=fun e q0 q1=>by
  have z1:¬(z:Int)=0:=by omega
  have w1:=zDj (x:=(r:Int)-(z:Int)) (by omega) (by omega)
  have w2:IntKind.i64.wrap (lo:Int)=(lo:Int):=zDj (by omega) (by omega)
  simp only[ii]at f1 f2;have z2:¬z=0:=by omega
  have hl2:(r:Int)-(z:Int)+1=(lo:Int):=by omega
  have z3:64*(z:Int)≤281474976710656:=by omega
  have z4:(z:Int)≤9223372036854775807:=by omega
  have z5:(lo:Int)≤(t.length:Int):=by omega
  have hne:¬id=n:=by simpa using zJc hk hn 0
  have z6:off+(lo*6+(t.length-lo)*6)≤k.cells.length:=by omega
  simp[evx,Tryz.f46,q0,q1,ii,yKi,f1,f2,zE,z2,z3,z4,z5,z6,w1,w2,hl2,hne,hk,zCx];have hx1:x.length=z:=by simp only[←hx,zW,yS];omega
  have hcp:wr (repZ [Value.int IntKind.i64 0,Value.int IntKind.i64 0,Value.string ByteArray.empty,Value.string ByteArray.empty,Value.int IntKind.i64 0,Value.int IntKind.i64 0] z) 0 (List.take (min (t.length-lo) z*6) (List.take ((t.length-lo)*6) (List.drop (off+lo*6) k.cells)))=x.flatMap yC:=by
   have hfl:(k.cells.drop off).take (t.length*6)=t.flatMap yC:=by
    have:=(zHy Flat.nd e1).2;simpa only[slc,hk,yQ,yL]using this
   have hl2:(x.flatMap yC).length=z*6:=by rw[zCl Flat.nd,hx1]
   have e3:List.take (min (t.length-lo) z*6) (List.take ((t.length-lo)*6) (List.drop (off+lo*6) k.cells))=x.flatMap yC:=by
    have hm:min (t.length-lo) z=z:=by omega
    have h4:List.take ((t.length-lo)*6) (List.drop (off+lo*6) k.cells)=(t.drop lo).flatMap yC:=by
     rw[←zU8,←hfl,List.drop_take,zDp,Nat.sub_mul]
    rw[hm,h4,zU7,hx]
   rw[e3];exact yIb (by rw[zCx,hl2];rfl)
  refine yN (fun s=>∃j:Nat,j≤z∧s.e 7=.s n 0 0 z∧s.e 6=ii lo∧s.e 26=ii z∧s.e 27=ii j∧s.h n=some ⟨yE5 lo x j,0,true,6⟩∧agree n h s.h∧Fresh s.n s.h∧n+1≤s.n) (fun s=>z-(s.e 27).i.toNat) ⟨0,by omega,by simp[up],by simp[up,ii],by simp[up,ii],by simp[up,ii],by simp[up,yE5];exact hcp,by simp[zD,zE],by simp[zF,hn.add],by simp⟩ ?_
  rintro e' h' n' ⟨j,hj,q7,q6,q26,q27,hkw,hag,hfr,hnn⟩;simp only[]at q7 q6 q26 q27 hkw hag hfr hnn;by_cases hlt:j<z
  ·have hjx:j<x.length:=by omega
   have hsp:x.drop j=x[j]::x.drop (j+1):=xO hjx;have htk:(x.take (j+1)).map (zL0 lo)=(x.take j).map (zL0 lo)++[zL0 lo x[j]]:=by rw[yY hjx,yE];rfl
   have hpl:((x.take j).map (zL0 lo)).length=j:=by rw[zQ,zW];omega
   have hxj:x[j]=t[lo+j]'(by omega):=by simp only[←hx,List.getElem_take,List.getElem_drop]
   have hin:=zS4 T (i:=lo+j) (by omega)
   have hin:=zS4 T (i:=lo+j) (by omega)
   have hin2:=hik (lo+j) (by omega) (by omega) (by omega)
   rw[←hxj]at hin hin2;have hxl:((x.take j).map (zL0 lo)++x.drop j).length=z:=by rw[zM,hpl,yS];omega
   unfold yE5 at hkw;rw[hsp]at hkw hxl;have hfin:∀y',y'=zL0 lo x[j]→((x.take j).map (zL0 lo)++y'::x.drop (j+1)).flatMap yC=yE5 lo x (j+1):=fun y' e=>by rw[yE5,e,htk,xT];rfl
   obtain⟨y,hy⟩:∃y,y=x[j]:=⟨_,rfl⟩;rw[←hy]at hin hin2 hkw hfin hxl;obtain⟨p,hp⟩:∃p,p=(x.take j).map (zL0 lo):=⟨_,rfl⟩;rw[←hp]at hpl hkw hfin hxl;obtain⟨g,hg⟩:∃g,g=x.drop (j+1):=⟨_,rfl⟩;rw[←hg]at hkw hfin hxl;clear hsp htk hxj hp hg hy;obtain⟨op,ny,var,attr,ya,yb⟩:=y;have hlt':(j:Int)<(z:Int):=by omega
   have hjw:=yK (j:=j) (by unfold big;omega)
   simp only[]at hin hin2;have n4:∀u v:Int,((p++(⟨op,ny,var,attr,u,v⟩:Nd)::g).flatMap yC)[j*6+4]? = some (ii u):=fun u v=>yDw hpl rfl (by omega)
   have n5:∀u v:Int,((p++(⟨op,ny,var,attr,u,v⟩:Nd)::g).flatMap yC)[j*6+5]? = some (ii v):=fun u v=>yDw hpl rfl (by omega)
   have m4:∀u v w:Int,((p++(⟨op,ny,var,attr,u,v⟩:Nd)::g).flatMap yC).set (j*6+4) (ii w)=(p++(⟨op,ny,var,attr,w,v⟩:Nd)::g).flatMap yC:=fun u v w=>yIa hpl rfl (by omega)
   have m5:∀u v w:Int,((p++(⟨op,ny,var,attr,u,v⟩:Nd)::g).flatMap yC).set (j*6+5) (ii w)=(p++(⟨op,ny,var,attr,u,w⟩:Nd)::g).flatMap yC:=fun u v w=>yIa hpl rfl (by omega)
   have cl:∀u v:Int,((p++(⟨op,ny,var,attr,u,v⟩:Nd)::g).flatMap yC).length=z*6:=fun u v=>by
    rw[zCl Flat.nd,←hxl];simp
   have hf2:∀u v:Int,u=(if 0≤ya then ya-lo else ya)→v=(if 0≤yb then yb-lo else yb)→(p++(⟨op,ny,var,attr,u,v⟩:Nd)::g).flatMap yC=yE5 lo x (j+1):=fun u v e1 e2=>hfin _ (by rw[e1,e2];rfl)
   generalize hC:(fun u v:Int=>(p++(⟨op,ny,var,attr,u,v⟩:Nd)::g).flatMap yC)=C
   have hC':∀u v:Int,(p++(⟨op,ny,var,attr,u,v⟩:Nd)::g).flatMap yC=C u v:=fun u v=>by rw[←hC]
   simp only[hC']at n4 n5 m4 m5 cl hf2 hkw;clear hC hC' hfin;simp only[ii]at n4 n5 m4 m5;have v1:¬z*6<j*6+4+1:=by omega
   have v2:¬z*6<j*6+5+1:=by omega
   have u1:n<n'+1:=by omega
   have u2:n<n'+2:=by omega
   have v3:j*6+5≤z*6:=by omega
   have v4:j*6+6≤z*6:=by omega
   have hne':∀m,¬n=n'+m:=fun m=>by omega
   by_cases ha:0≤ya
   ·have wa:=zDj (x:=ya-lo) (by have:=hin2.1 ha;omega) (by omega)
    by_cases hb:0≤yb
    ·have wb:=zDj (x:=yb-lo) (by have:=hin2.2 hb;omega) (by omega)
     have hX2:=hf2 (ya-lo) (yb-lo) (by rw[if_pos ha]) (by rw[if_pos hb])
     simp[evx,q7,q6,q26,q27,ii,hlt',hkw,n4,n5,m4,m5,cl,ha,hb,hjw,v3,v4,wa,wb];exact⟨⟨j+1,by omega,by omega,hX2,by simp[zD,hag],by first|exact hfr|simp[zF,u2,hfr.add],by omega⟩,by omega⟩
    ·have hX2:=hf2 (ya-lo) yb (by rw[if_pos ha]) (by rw[if_neg hb])
     simp[evx,q7,q6,q26,q27,ii,hlt',hkw,n4,n5,m4,cl,ha,hb,hjw,v3,v4,wa];exact⟨⟨j+1,by omega,by omega,hX2,by simp[zD,hag],by first|exact hfr|simp[zF,u1,hfr.add],by omega⟩,by omega⟩
   ·by_cases hb:0≤yb
    ·have wb:=zDj (x:=yb-lo) (by have:=hin2.2 hb;omega) (by omega)
     have hX2:=hf2 ya (yb-lo) (by rw[if_neg ha]) (by rw[if_pos hb])
     simp[evx,q7,q6,q26,q27,ii,hlt',hkw,n4,n5,m5,cl,ha,hb,hjw,v3,v4,wb];exact⟨⟨j+1,by omega,by omega,hX2,by simp[zD,hag],by first|exact hfr|simp[zF,u1,hfr.add],by omega⟩,by omega⟩
    ·have hX2:=hf2 ya yb (by rw[if_neg ha]) (by rw[if_neg hb])
     simp[evx,q7,q6,q26,q27,ii,hlt',hkw,n4,n5,cl,ha,hb,hjw,v3,v4];exact⟨⟨j+1,by omega,by omega,hX2,by simp[hag],by first|exact hfr|simp[zF,u1,u2,hfr.add],by omega⟩,by omega⟩
  ·obtain rfl:j=z:=by omega
   simp[evx,q7,q26,q27,ii];have hd:x.drop j=[]:=List.drop_eq_nil_of_le (by omega)
   have htk:x.take j=x:=yX (by omega)
   rw[yE5,hd,htk,List.append_nil]at hkw;exact⟨hag,hfr,by omega,hkw,by omega⟩
 exact key _ rfl rfl
section
def yNp (q n:Nat) (h:Heap) (b:Nat) (l:List Nat):Prop :=
 (l=[]∧h b=some ⟨[.v (.slice none 0 0)],0,true,1⟩)∨∃w u,q≤w∧w<n∧h b=some ⟨[.s w u 0 l.length],0,true,1⟩∧h w=some ⟨l.map fun x:Nat=>ii x,u,true,1⟩
def yDt (q b n:Nat) (h:Heap) (l:List Nat) (h':Heap) (n':Nat):Prop:=(∀id,id<q→id≠b→h' id=h id)∧yNp q n' h' b l∧Fresh n' h'∧n≤n'
section
variable {m q b1 b b4:Nat} {h0:Heap} {a:AV} {t:List Nd}
theorem c88 (e1:rd dNs h0 a=some t) (hn0:Fresh m h0) (ht:zAh t=true) (hsm:xQ t) (k1:m≤b1) (k2:m≤b) (k3:m≤b4) (k4:b1<q) (k5:b<q) (k6:b4<q) (k7:b1≠b) (k8:b4≠b) :
  ∀r,r<t.length→∀(h:Heap) (n:Nat) (l:List Nat),agree m h0 h→h b1=some ⟨[a],0,true,1⟩→h b4=some ⟨[.f (.func 80) [] [.p b1 0 0,.p b 0 0,.p b4 0 0]],0,true,1⟩→yNp q n h b l→Fresh n h→q≤n→l.length+szN t r≤t.length→
   ACall (cx [] (pfL [])) 80 [ii r,.p b1 0 0,.p b 0 0,.p b4 0 0] h n fun _ h' n'=>yDt q b n h (l++zEn t r) h' n':=by
 intro r
 induction r using Nat.strongRecOn with
 | _ r ih =>
 intro hr h n l hag g1 g4 ho hn hq hlen;have T:=zCt ht;have e2:=yT hn0 e1 h hag;have hsm':t.length*64≤140737488355328:=hsm;refine yR (args:=[ii r,.p b1 0 0,.p b 0 0,.p b4 0 0]) (zAr yJ) (zB3 _ _) Tryz.func80 (c:=Tryz.f80.body.getD .skip) rfl (by kernel_rfl) (xK Tryz.func80 rfl rfl _ _) (show 4≤Tryz.f80.ntmps by decide +kernel) ?_
 rcases zKk e1 with ⟨hz,_⟩|⟨id,off,k,rfl,hk0,ho',hat⟩
 ·rw[hz]at hr;simp at hr
 have hid:id<m:=xB hk0 hn0;have hk:h id=some k:=by rw[hag id hid];exact hk0
 have hrw:=hat r hr;have c0:=yI (c:=0) hrw rfl (by omega)
 have c4:=yI (c:=4) hrw rfl (by omega)
 have c5:=yI (c:=5) hrw rfl (by omega)
 simp only[yL]at c0;rw[xD]at c4 c5;have v1:off+(r*6+1)≤k.cells.length:=by omega
 have v5:off+(r*6+5)≤k.cells.length:=by omega
 have v6:off+(r*6+6)≤k.cells.length:=by omega
 have key:∀e:Nat→AV,e 0=ii r→e 1=.p b1 0 0→e 2=.p b 0 0→e 3=.p b4 0 0→awp (cx [] (pfL [])) (Tryz.f80.body.getD .skip) (zBc (cx [] (pfL [])) Tryz.f80 fun _ h' n'=>yDt q b n h (l++zEn t r) h' n') ⟨e,h,n⟩:=fun e q0 q1 q2 q3=>by
  have nb:∀j,¬b=n+j:=fun j=>by omega
  have nb0:¬b=n:=by omega
  by_cases hop:t[r].op=25
  ·obtain⟨j1,j2,j3,j4⟩:=zE2 T hr hop
   have hcj:=zJz T hr hop;have hop':t[r].op=25:=hop;obtain⟨x,hx⟩:∃x:Nat,t[r].a=x:=⟨t[r].a.toNat,by omega⟩
   obtain⟨y,hy⟩:∃y:Nat,t[r].b=y:=⟨t[r].b.toNat,by omega⟩
   have hx':t[r].a.toNat=x:=by omega
   have hy':t[r].b.toNat=y:=by omega
   have hxr:x<r:=by omega
   have hyr:y<r:=by omega
   have hsz:szN t r=1+szN t x+szN t y:=by
    rcases T.kind r hr with ⟨z1,z2,z3,z4,z⟩|⟨z0,z1,z2,z3,z⟩|⟨z0,z0',z1,z2,c,z3,z4,z⟩
    ·omega
    ·omega
    ·have hlb:=T.le (r-1) (by omega)
     have hla:=T.le c (by omega)
     have e1:x=c:=by omega
     have e2:y=r-1:=by omega
     subst e1;subst e2;unfold szN;omega
   have hcl:=zTq T x (by omega)
   have hcx:(zEn t x).length≤szN t x:=hcl;have A:=ih x hxr (by omega) h n l hag g1 g4 ho hn hq (by omega)
   rw[hcj,hx',hy'];rw[hop]at c0;rw[hx]at c4;rw[hy]at c5;simp only[ii]at c0 c4 c5 A;have nid:∀j,¬id=n+j:=fun j=>by omega
   simp[evx,Tryz.f80,q0,q1,q3,ii,g1,g4,hk,c0,c4,hr,v1,v5];refine A.mono ?_;rintro v h2 n2 ⟨f1,f2,f3,f4⟩;have y1:h2 b1=some ⟨[AV.s id k.ver off t.length],0,true,1⟩:=by rw[f1 b1 k4 k7];exact g1
   have y4:h2 b4=some ⟨[.f (.func 80) [] [.p b1 0 0,.p b 0 0,.p b4 0 0]],0,true,1⟩:=by rw[f1 b4 k6 k8];exact g4
   have yk:h2 id=some k:=by rw[f1 id (by omega) (by omega)];exact hk
   have hag2:agree m h0 h2:=fun i hi=>by rw[f1 i (by omega) (by omega),hag i hi]
   refine⟨.inr ⟨rfl,fun t ht => ?_⟩,?_⟩
   ·simp[wZ]at ht
    rcases ht with ht|ht|ht<;>subst ht<;>simp[zEy,Eng.up,q1,q3,y1,y4,yk,g1,g4,hk]
   have B:=ih y hyr (by omega) h2 n2 (l++zEn t x) hag2 y1 y4 f2 f3 (by omega) (by rw[zM];omega)
   simp only[ii]at B;simp[evx,y1,y4,yk,c5,hr,v6];refine B.mono ?_;rintro v3 h3 n3 ⟨p1,p2,p3,p4⟩;have x1:h3 b1=some ⟨[AV.s id k.ver off t.length],0,true,1⟩:=by rw[p1 b1 k4 k7];exact y1
   have x4:h3 b4=some ⟨[.f (.func 80) [] [.p b1 0 0,.p b 0 0,.p b4 0 0]],0,true,1⟩:=by rw[p1 b4 k6 k8];exact y4
   have xk:h3 id=some k:=by rw[p1 id (by omega) (by omega)];exact yk
   refine⟨.inr ⟨rfl,fun t ht => ?_⟩,?_⟩
   ·simp[wZ]at ht
    rcases ht with ht|ht|ht<;>subst ht<;>simp[zEy,Eng.up,q1,q3,y1,y4,yk,x1,x4,xk]
   rw[←xT];exact⟨fun i h1 h2'=>by rw[p1 i h1 h2',f1 i h1 h2'],p2,p3,by omega⟩
  ·have hcj:=zJ0 hr hop
   rw[hcj];rcases ho with ⟨rfl,hb⟩|⟨w,u,o1,o2,hb,hw⟩
   ·simp[evx,Tryz.f80,q0,q1,q2,ii,g1,hk,c0,hr,v1,hop,hb,nb,nb0]
    exact⟨fun i h1 h2=>by simp[Eng.up,h2,show ¬i=n by omega,show ¬i=n+1 by omega],.inr ⟨n+1,0,by omega,by omega,by simp[Eng.up],by simp[Eng.up,ii,show ¬n+1=b by omega]⟩,by simp[zF,hn.add,show b<n+3 by omega],by omega⟩
   ·have nw:∀j,¬w=n+j:=fun j=>by omega
    have nw0:¬w=n:=by omega
    have nwb:¬w=b:=by omega
    have nwb':¬b=w:=by omega
    have y1:(l.length+1)*8≤140737488355328:=by unfold szN at hlen;have:=T.le r hr;omega
    have y2:l.length≤9223372036854775806:=by omega
    simp[evx,Tryz.f80,q0,q1,q2,ii,g1,hk,c0,hr,v1,hop,hb,hw,nb0,nw0,nwb',y1,y2];exact⟨fun i h1 h2=>by simp[Eng.up,h2,show ¬i=n by omega,show ¬i=w by omega],.inr ⟨w,u+1,by omega,by omega,by simp[Eng.up],by simp[Eng.up,ii,nwb]⟩,by simp[zF,hn.add,show b<n+3 by omega,show w<n+3 by omega],by omega⟩
 exact key _ rfl rfl rfl rfl
end
def yDg:List (FuncId×(List AV→Heap→PRes)):=[(79,G70)]
theorem c51 {h:Heap} {n:Nat} {a:AV} {t:List Nd} (e1:rd dNs h a=some t) (ht:zAh t=true) (hsm:xQ t) (hn:Fresh n h) :
  ACall (cx [3] (pfL yDg)) 35 [a] h n fun z h' n'=>agree n h h'∧Fresh n' h'∧n≤n'∧∃w u,z=.s w u 0 (zEn t (t.length-1)).length∧h' w=some ⟨(zEn t (t.length-1)).map fun x:Nat=>ii x,u,true,1⟩∧n≤w∧w<n':=by
 refine yR (args:=[a]) (zAr (zS P70 yJ)) (zB3 _ _) Tryz.func35 (c:=Tryz.f35.body.getD .skip) rfl (by kernel_rfl) (xK Tryz.func35 rfl rfl _ _) (show 1≤Tryz.f35.ntmps by decide +kernel) ?_
 obtain⟨s1,s2,s3,s4,s5⟩:=zN e1;have T:=zCt ht;have hpos:0<t.length:=T.pos;have hsm':t.length*64≤140737488355328:=hsm;obtain⟨j,he⟩:∃j,t.length=j+1:=⟨t.length-1,by omega⟩
 have he1:IntKind.i64.wrap ((t.length:Int)-1)=j:=by rw[he];exact zRx (by unfold big;omega)
 have hj:t.length-1=j:=by omega
 rw[hj];have g1:∀h',agree n h h'→rd dNs h' a=some t:=fun h' ha=>yT hn e1 h' ha
 have hne:=(zNy T j (by omega)).2
 have key:∀e:Nat→AV,e 0=a→awp (cx [3] (pfL yDg)) (Tryz.f35.body.getD .skip) (zBc (cx [3] (pfL yDg)) Tryz.f35 fun z h' n'=>agree n h h'∧Fresh n' h'∧n≤n'∧∃w u,z=.s w u 0 (zEn t j).length∧h' w=some ⟨(zEn t j).map fun x:Nat=>ii x,u,true,1⟩∧n≤w∧w<n') ⟨e,h,n⟩:=fun e q0=>by
  simp[evx,Tryz.f35,q0,ii,s1,s2,s4,s5,yDg,G70,yH,deT,g1,zD,zE,hsm,ht,bv,he1];have K:=c88 (m:=n) (q:=n+3) (b1:=n) (b:=n+1) (b4:=n+2) e1 hn ht hsm (by omega) (by omega) (by omega) (by omega) (by omega) (by omega) (by omega) (by omega) j (by omega)
  refine (wD (S:=[]) (by simp) (K _ (n+4) [] (by simp[zD,zE]) (by simp[Eng.up]) (by simp[Eng.up]) (.inl ⟨rfl,by simp[Eng.up]⟩) (by simp[zF,hn.add]) (by omega) (by have:=T.le j (by omega);unfold szN;simp only[zAc];omega))).mono ?_
  rintro v h2 n2 ⟨f1,f2,f3,f4⟩;rw[List.nil_append]at f2;rcases f2 with ⟨hz,_⟩|⟨w,u,w1,w2,hb,hw⟩
  ·exact absurd hz hne
  simp only[ii]at hw;simp[hb];exact⟨fun i hi=>by rw[f1 i (by omega) (by omega)];simp[Eng.up,show ¬i=n by omega,show ¬i=n+1 by omega,show ¬i=n+2 by omega],f3,by omega,w,u,⟨rfl,rfl⟩,hw,by omega,w2⟩
 exact key _ rfl
end
theorem zX8 {t:List Nd} {f g:Nat→Ins} {i:Ins}:∀{n:Nat},i∈zGl t f g n→(∃k,k<n∧i=f k)∨∃k,k<n∧(zGf t k).isSome=true∧i=g k
 | 0,h=>by simp[zGl]at h
 | n+1,h=>by
  simp only[zGl,wB,yD]at h;rcases h with h|rfl|h
  ·rcases zX8 h with ⟨k,h1,h2⟩|⟨k,h1,h2⟩
   ·exact .inl ⟨k,by omega,h2⟩
   ·exact .inr ⟨k,by omega,h2⟩
  ·exact .inl ⟨n,by omega,rfl⟩
  ·split at h
   ·rename_i hp
    simp only[zDy]at h;exact .inr ⟨n,by omega,hp,h⟩
   ·simp at h
theorem yGk (l:List ByteArray) (z:ByteArray) : -1≤wY l z∧wY l z<(l.length:Int):=by
 unfold wY;split<;>omega
theorem zD1 {x:Int} (h1 : -1≤x) (h2:x≤4611686018427387904):Rng x:=by
 unfold Rng;omega
theorem yHj {sc:List Ty} {vs:List ByteArray} {t:List Nd} (hvs:vs.length<big) (hp:xQ t) (htl:sc.length*8≤140737488355328) (hr:∀x∈t,Rng x.n):PrOk (zAk sc vs t):=by
 have hp':t.length*64≤140737488355328:=hp;unfold zAk;split
 ·rename_i hrun
  have T:=zCt (show zAh t=true by simp only[zI9,zO]at hrun;exact hrun.1)
  have hf:=few T;have hnl:=zKl t t.length;have hb:vs.length<4611686018427387904:=hvs;refine⟨by simp only[];rw[zIs,zBs];omega,fun i hi => ?_,fun c hc => ?_⟩
  ·rcases zX8 hi with ⟨k,h1,rfl⟩|⟨k,h1,h2,rfl⟩
   ·rw[zE6,zAx h1]
    have hk:=T.kind k h1;have ho:1≤t[k].op∧t[k].op≤26:=by
     rcases hk with ⟨h1,h2,_⟩|⟨h1,_⟩|⟨h1,h2,_⟩<;>omega
    have hit : -1≤wA vs t[k]∧wA vs t[k]≤9223372036854775806:=by
     unfold wA;have:=yGk vs t[k].var;split<;>omega
    have hix:=yGk (zBf t) t[k].attr;have hn2:(zBf t).length≤t.length:=hnl;have hrn:=hr _ (zH h1);have hri:Rng (wA vs t[k]):=by unfold Rng;omega
    have r0:Rng 0:=zD1 (by omega) (by omega)
    have rc:Rng (wY (zBf t) t[k].attr):=zD1 (by omega) (by omega)
    unfold zPa yKf
    repeat' split
    all_goals refine⟨?_,?_,?_,?_,?_⟩<;>first|exact r0|exact hrn|exact hri|exact rc|exact zD1 (by simp only[];omega) (by simp only[];omega)
   ·unfold zI4
    split
    ·rename_i p hpp
     have hpl:p<t.length:=by
      have:=List.mem_of_find?_eq_some hpp;simpa using this
     have hle:=zFl (t:=t) (k:=p) (n:=t.length) hpl;have ho:1≤t[p].op∧t[p].op≤26:=by
      rcases T.kind p hpl with ⟨h1,h2,_⟩|⟨h1,_⟩|⟨h1,h2,_⟩<;>omega
     have r0:Rng 0:=zD1 (by omega) (by omega)
     have hpo:zA1 t p+1≤zA1 t t.length:=by split at hle<;>omega
     rw[zAx hpl];refine⟨zD1 (by simp only[];omega) (by simp only[];omega),r0,r0,r0,zD1 (by simp only[];omega) (by simp only[];omega)⟩
    ·have r0:Rng 0:=zD1 (by omega) (by omega)
     exact⟨r0,r0,r0,r0,r0⟩
  ·obtain⟨a,_,rfl⟩:=xU.1 hc
   rw[zH4];unfold big;omega
 ·exact⟨by simp,by simp,by simp⟩
def za:ByteArray:=⟨#[97]⟩
theorem zZd {t:List Nd} {lo:Nat→Nat} (T:Tre t lo):∀i,i<t.length→2*(zEn t i).length≤i+2-lo i:=by
 intro i
 induction i using Nat.strongRecOn with
 | _ i ih =>
  intro hi;have hl:=T.le i hi;by_cases h:t[i].op=25
  ·obtain⟨k1,k2,_⟩:=zE2 T hi h
   rw[zJz T hi h,zM];have c1:=ih _ k1 (by omega)
   have c2:=ih _ k2 (by omega)
   rcases T.kind i hi with ⟨b1,b2,b3,b4,b⟩|⟨b0,b1,b2,b3,b⟩|⟨b0,b0',b1,b2,a,b3,b4,b⟩
   ·omega
   ·omega
   ·have e1:t[i].a.toNat=a:=by omega
    have e2:t[i].b.toNat=i-1:=by omega
    have:=T.le (i-1) (by omega)
    have:=T.le a (by omega)
    rw[e1]at c1 ⊢;rw[e2]at c2 ⊢;omega
  ·rw[zJ0 hi h]
   simp only[List.length_cons,zAc];omega
def zAj (t:List Nd):List Nat:=if zAh t=true then zEn t (t.length-1)else []
theorem zHn {t:List Nd} {r:Nat} (h:r∈zAj t):zAh t=true∧r<t.length:=by
 unfold zAj at h;split at h
 ·rename_i ht
  have T:=zCt ht;have:=(zNy T (t.length-1) (by have:=T.pos;omega)).1 r h
  have:=T.pos;exact⟨ht,by omega⟩
 ·simp at h
theorem zOy {t:List Nd} (hs:xQ t):(zAj t).length≤1099511627776:=by
 unfold zAj;unfold xQ at hs;split
 ·rename_i ht
  have T:=zCt ht;have h1:=zZd T (t.length-1) (by have:=T.pos;omega)
  have:=T.pos;omega
 ·simp
theorem zC1 (q:Qu):zAl q=(zAj q.wh).map (zA6 q.wh):=by
 unfold zAl zAj zBj;split<;>simp
theorem zOp {t:List Nd} {r:Nat} (ht:zAh t=true) (hr:r<t.length) (hs:xQ t):xQ (zA6 t r):=by
 have T:=zCt ht;have hl:(zA6 t r).length=r+1-zN7 t r:=zG6 hr (T.le r hr);unfold xQ at *;omega
theorem yDz {vs:List ByteArray} {z:ByteArray} (h:0≤wY vs z):∃j:Nat,wY vs z=j∧∃hj:j<vs.length,vs.findIdx (· == z)=j∧vs[j]=z:=by
 unfold wY at h ⊢;split at h
 ·rename_i hl
  refine⟨_,if_pos hl,hl,rfl,?_⟩;have:=List.findIdx_getElem (w:=hl);rw[zD6]at this
  exact this
 ·omega
theorem yJl {l:List ByteArray} {a b:ByteArray} (ha:0≤wY l a) (h:wY l a=wY l b):a=b:=by
 obtain⟨i,h1,h2,h3,h4⟩:=yDz ha;obtain⟨j,k1,k2,k3,k4⟩:=yDz (vs:=l) (z:=b) (by omega)
 have:i=j:=by omega
 subst this;rw[←h4,k4]
theorem zSp:∀{l:List Nat} {n:Nat},l.Nodup→(∀x∈l,x<n)→l.length≤n
 | l,0,_,h=>by
  cases l with
  | nil=>simp
  | cons a r=>exact absurd (h a (by simp)) (by omega)
 | l,n+1,hd,h=>by
  have h1:(l.erase n).length≤n:=zSp (hd.erase n) fun x hx=>by
   have h2:=h x (List.mem_of_mem_erase hx);have h3:x≠n:=fun e=>by
    subst e;exact (List.Nodup.not_mem_erase hd) hx
   omega
  have h4:l.length-1≤(l.erase n).length:=by rw[List.length_erase];split<;>omega
  omega
theorem zYt {l:List ByteArray} (h:zKv l l.length=false):l.Pairwise (·≠·):=by
 rw[List.pairwise_iff_getElem];intro i j hi hj hij e;unfold zKv at h;rw[List.any_eq_false]at h;refine h j (zAm.2 hj) ?_;rw[zA7];refine⟨l[i],?_,?_⟩
 ·rw[List.mem_take_iff_getElem]
  exact⟨i,by omega,rfl⟩
 ·rw[e,zB,zA hj,wM,zD6]
theorem zZ5 {sc:List Ty} {it:It} (h:zEl sc it=0):it.types.length≤sc.length:=by
 obtain⟨h1,h2,_⟩:=yB1 h;have hd:=zYt h2;have h3:(it.types.map fun z=>(wF sc z).toNat).length≤sc.length:=by
  refine zSp ?_ fun x hx => ?_
  ·rw[List.nodup_iff_pairwise_ne,List.pairwise_map]
   refine List.Pairwise.imp_of_mem (fun {a b} ha hb hab e=>hab ?_) hd
   have:=h1 a ha;have:=h1 b hb;exact yJl (l:=sc.map fun x:Ty=>x.name) (h1 a ha) (by have e':(wF sc a).toNat=(wF sc b).toNat:=e;unfold wF at *;omega)
  ·obtain⟨z,hz,rfl⟩:=xU.1 hx
   have:=h1 z hz;have h4:=(yGk (sc.map fun x:Ty=>x.name) z).2
   rw[zQ]at h4;unfold wF at *;omega
 rwa [zQ]at h3
theorem Wf.short {sc:List Ty} {q:Qu} (W:Wf sc q):0<sc.length∧sc.length≤16∧(∀t∈sc,t.attrs.length≤8)∧0<q.items.length∧(∀it∈q.items,it.types.length≤16):=by
 obtain⟨h1,h2,h3⟩:=yIq W.s0;refine⟨h1,h2,fun t ht => ?_,?_,fun it hit => ?_⟩
 ·obtain⟨i,hi,rfl⟩:=xF.1 ht
  have h4:=(yFb (h3 i hi)).2.2.1
  rwa [zB,zA hi,wM]at h4
 ·have h5:=W.sh
  simp only[shQ,zO,decide_eq_true_eq]at h5;omega
 ·obtain⟨i,hi,rfl⟩:=xF.1 hit
  have h6:=zZ5 (yD1 (W.it i hi)).1;rw[zB,zA hi,wM]at h6;omega
theorem c35 {h:Heap} {n:Nat} {a:AV} {t:List Nd} (e1:rd dNs h a=some t) (hsm:xQ t) (hn:Fresh n h) :
  ACall (cx [3] (pfL yDg)) 35 [a] h n fun z h' n'=>agree n h h'∧Fresh n' h'∧n≤n'∧rd dIs (wtn n n' h') z=some ((zAj t).map fun x:Nat=>(x:Int)):=by
 cases ht:zAh t with
 | true =>
  refine (c51 e1 ht hsm hn).mono ?_;rintro z h' n' ⟨a1,a2,a3,w,u,rfl,hw,w1,w2⟩;refine⟨a1,a2,a3,?_⟩;rw[zAj,if_pos ht];generalize zEn t (t.length-1)=l at *;have:=zB2 (h:=wtn n n' h') Flat.int (l:=l.map fun x:Nat=>(x:Int)) (id:=w) (ver:=u) (k:=⟨l.map fun x:Nat=>ii x,u,true,1⟩) (by rw[zJ4 w1 w2];exact hw) rfl (r:=[]) (by rw[List.append_nil,←zJs,List.map_map];rfl)
  rwa [zQ]at this
 | false =>
  refine yR (args:=[a]) (zAr (zS P70 yJ)) (zB3 _ _) Tryz.func35 (c:=Tryz.f35.body.getD .skip) rfl (by kernel_rfl) (xK Tryz.func35 rfl rfl _ _) (show 1≤Tryz.f35.ntmps by decide +kernel) ?_
  obtain⟨s1,s2,s3,s4,s5⟩:=zN e1;have g1:∀h',agree n h h'→rd dNs h' a=some t:=fun h' ha=>yT hn e1 h' ha
  have key:∀e:Nat→AV,e 0=a→awp (cx [3] (pfL yDg)) (Tryz.f35.body.getD .skip) (zBc (cx [3] (pfL yDg)) Tryz.f35 fun z h' n'=>agree n h h'∧Fresh n' h'∧n≤n'∧rd dIs (wtn n n' h') z=some ((zAj t).map fun x:Nat=>(x:Int))) ⟨e,h,n⟩:=fun e q0=>by
   simp[evx,Tryz.f35,q0,s4,s5,yDg,G70,yH,deT,g1,zD,zE,hsm,ht,bv,zF,hn.add,zAj];rfl
  exact key _ rfl
end Go.Proofs.YtbffkkeieihpdaaGreatDoor
