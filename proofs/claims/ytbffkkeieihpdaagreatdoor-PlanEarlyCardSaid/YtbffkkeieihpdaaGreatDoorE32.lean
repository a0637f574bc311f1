import Derived.Test.YtbffkkeieihpdaaGreatDoorE31
import Derived.Test.YtbffkkeieihpdaaGreatDoorE24
set_option linter.unusedSimpArgs false
set_option linter.unusedVariables false
set_option linter.constructorNameAsVariable false
set_option maxRecDepth 100000
set_option maxHeartbeats 4000000
namespace Go.Proofs.YtbffkkeieihpdaaGreatDoor
open Go Go.Eng
section
structure R59 (it:It) (i:Int) (w:Bool×Nat) (m12 m13:Nat) (ty:AV) (s:St):Prop where
 q11:s.e 11=ii i
 q12:s.e 12=.p m12 0 0
 b12:s.h m12=some ⟨[bv it.neg,ty,ss it.var,ii it.lo,ii it.hi],0,true,5⟩
 q13:s.e 13=.p m13 0 0
 b13:s.h m13=some ⟨[bv w.1,ii w.2],0,true,2⟩
theorem K59.up {bid:Nat} {P:Pl} {h:Heap} {n:Nat} {t:List Nd} {y:Y59} {id ver j c:Nat} {s s':St} (a:K59 bid P h n t y id ver j c s) (he:∀i∈[0,4,5,6,7,8,9,60,61,62],s'.e i=s.e i) (ha:agree s.n s.h s'.h) (hf:Fresh s'.n s'.h) (hn:s.n≤s'.n):K59 bid P h n t y id ver j c s' :=
 ⟨a.a.up (fun i hi=>he i (by simp at hi ⊢;omega)) ha hf hn,(he 7 (by simp)).trans a.q7,(he 8 (by simp)).trans a.q8,(he 9 (by simp)).trans a.q9,(he 60 (by simp)).trans a.q60,(ha _ (xB a.b60 a.a.fr)).trans a.b60,(he 61 (by simp)).trans a.q61,(he 62 (by simp)).trans a.q62,a.ps⟩
section
variable {hB:Heap} {n1 bid mid:Nat} {T:Nat→Nat} {p:Pt} {P:Pl} {f:ByteArray→Option (Bool×Nat)}
theorem yPs {t:List Nd} {h:Heap} {n:Nat} (b:BI hB n1 bid mid T h n p P f) {y:Y59} {id ver j:Nat} {w:Bool×Nat} (hj:j<(xV P.q t).length) (hf:f (itA P.q (xV P.q t)[j].toNat).var=some w) (e:Nat→AV) (h1:Heap) (n2:Nat) (a:K59 bid P h n t y id ver j j ⟨e,h1,n2⟩) {Q} :
  awp (cz [3] (pfL zHa)) (hdC 3 zVq) (zAs (fun s=>K59 bid P h n t y id ver j j s∧∃m12 m13 ty,R59 (itA P.q (xV P.q t)[j].toNat) (xV P.q t)[j] w m12 m13 ty s) Q) ⟨e,h1,n2⟩:=by
 obtain⟨lb,lm,nbm⟩:=b.low;have a0:=a;obtain⟨⟨q0,q4,ag,fr,nn,M,U⟩,q7,q8,q9,q60,b60,q61,q62,ps⟩:=a;simp only[]at q0 q4 ag fr nn q60 b60 q62;have hbb:h1 bid=some ⟨xH p P mid,0,true,17⟩:=(ag _ lb).trans b.bb;obtain⟨mcs,hmm,hmok,hsl⟩:=b.mm;have hmm1:=(ag _ lm).trans hmm;have hz:=hsl (itA P.q (xV P.q t)[j].toNat).var;rw[hf,zK]at hz;have hcj:((xV P.q t).map ii)[j]? = some (ii (xV P.q t)[j]):=by rw[xG,zA hj];rfl
 obtain⟨hi0,hi⟩:=zIl (zH hj);obtain⟨k,hk⟩:∃k:Nat,(xV P.q t)[j]=(k:Int):=⟨_,(Int.toNat_of_nonneg hi0).symm⟩;rw[hk];rw[hk,yF]at hi hz;simp only[yF];obtain⟨a',b',c',e0,x1,x2,x3⟩:=wH b.s.qu;cases e0;obtain⟨iid,off,kb,ty,y1,y2,y3,y4,y5,y6,y7,y8,y9⟩:=zHw x1 hi;have y2':h1 iid=some kb:=(ag _ (xB (zA8 _ _ _ _ y2) b.s.fr)).trans (zA8 _ _ _ _ y2);rw[←zPp hi]at y4 y5 y7 y8 y9;obtain⟨t1,t2,t3,t4,t5⟩:=zN y4;generalize itA P.q k=it at *;have hlt2:bid<n2∧mid<n2∧iid<n2:=⟨by omega,by omega,by have:=xB y2' fr;exact this⟩
 have hgo:gOf (.v (.agg #[.bool w.1,.int .i64 w.2]))=.g [.v (.bool w.1),.v (.int .i64 w.2)]:=rfl;have z1:¬bid=n2:=by omega
 have z2:¬bid=n2+1:=by omega
 have z3:¬mid=n2:=by omega
 have z4:¬mid=n2+1:=by omega
 have z5:¬mid=n2+2:=by omega
 have z6:¬bid=n2+2:=by omega
 have fin:∀(e':Nat→AV) (h':Heap) (n':Nat),(∀i∈[0,4,5,6,7,8,9,60,61,62],e' i=e i)→agree n2 h1 h'→Fresh n' h'→n2≤n'→e' 11=ii k→e' 12=.p n2 0 0→e' 13=.p (n2+2) 0 0→h' n2=some ⟨[bv it.neg,ty,ss it.var,ii it.lo,ii it.hi],0,true,5⟩→h' (n2+2)=some ⟨[bv w.1,ii w.2],0,true,2⟩→
   K59 bid P h n t y id ver j j ⟨e',h',n'⟩∧∃m12 m13 ty,R59 it k w m12 m13 ty ⟨e',h',n'⟩:=fun e' h' n' he ha hf hn g1 g2 g3 g4 g5=>⟨a0.up he ha hf hn,n2,n2+2,ty,g1,g2,g4,g3,g5⟩
 simp only[ii,ss,bv]at fin;simp[evz,hdC,zVq,zRl,inB,yW,tlC,Tryz.f59,q0,q4,q60,q62,b60,hbb,xH,hmm1,hmok,ii,ss,bv,y1,y2',y3,y5,y6,y7,y8,y9,t4,hj,hk,hi,hz,z1,z3,z5,hgo];refine⟨by omega,⟨zAp (by kernel_rfl),?_⟩,zAp (by kernel_rfl),?_⟩
 ·exact fin _ _ _ (by simp[up]) (by simp[zD,zE]) (by simp[zF,fr.add]) (by omega) (by simp[up]) (by simp[up]) (by simp[up]) (by simp[up]) (by simp[up])
 ·exact fin _ _ _ (by simp[up]) (by simp[zD,zE]) (by simp[zF,fr.add]) (by omega) (by simp[up]) (by simp[up]) (by simp[up]) (by simp[up]) (by simp[up])
theorem yPr {t:List Nd} {h:Heap} {n:Nat} {y:Y59} {id ver j:Nat} {w:Bool×Nat} {m12 m13:Nat} {ty:AV} (hlb:(zA0 wU (vars P.q.items) t).length<big) (hj:j<(xV P.q t).length) (hw:w.1=false) (hw2:w.2=rk P.q (xV P.q t)[j].toNat) (hng:ngQ P.q (xV P.q t)[j]=false) (e:Nat→AV) (h1:Heap) (n2:Nat) (a:K59 bid P h n t y id ver j j ⟨e,h1,n2⟩)
  (r:R59 (itA P.q (xV P.q t)[j].toNat) (xV P.q t)[j] w m12 m13 ty ⟨e,h1,n2⟩) {Q} :
  awp (cz [3] (pfL zHa)) (tlC 3 zVq) (zAs (K59 bid P h n t y id ver (j+1) j) Q) ⟨e,h1,n2⟩:=by
 have a0:=a;obtain⟨⟨q0,q4,ag,fr,nn,M,⟨q6,b6,om,r1,r2,r3,nz⟩⟩,q7,q8,q9,q60,b60,q61,q62,ps⟩:=a;obtain⟨q11,q12,b12,q13,b13⟩:=r;simp only[]at q0 q4 ag fr nn q60 b60 q62 q6 b6 r1 q8 q9 q11 q12 b12 q13 b13;have ht:=yY hj;have hls:=yBr (q:=P.q) ((xV P.q t).take j) (xV P.q t)[j];have hch:=yCm (q:=P.q) (t:=t) ((xV P.q t).take j) (xV P.q t)[j];rw[←ht]at hls hch;have hps:∀i∈(xV P.q t).take (j+1),ngQ P.q i=false:=fun i hi=>by
  rw[ht]at hi;rcases wB.1 hi with hi|hi
  ·exact ps i hi
  ·rw[zDy.1 hi];exact hng
 have fin:∀(e':Nat→AV),(∀i∈[0,4,5,6,7,60,61,62],e' i=e i)→e' 8=ii (lsL P.q ((xV P.q t).take (j+1)))→e' 9=ii (chL P.q t ((xV P.q t).take (j+1)))→K59 bid P h n t y id ver (j+1) j ⟨e',h1,n2⟩:=fun e' he k8 k9 =>
  ⟨a0.a.up (fun i hi=>he i (by simp at hi ⊢;omega)) (zE _ _) fr (zC _),(he 7 (by simp)).trans q7,k8,k9,(he 60 (by simp)).trans q60,b60,(he 61 (by simp)).trans q61,(he 62 (by simp)).trans q62,hps⟩
 rw[hls,hch]at fin;clear hls hch ht hps;obtain⟨s1,s2,s3,s4,s5⟩:=zN r1;have hg:∀i:Int,zRv [y.a1,.v (.int .i64 i)] h1=⟨(zA0 wU (vars P.q.items) t).length<big,bv (decide (i∈zA5 P.q t))⟩:=fun i=>by
  have g1:(rL dIs).run h1 y.a1=some (zA0 wU (vars P.q.items) t):=r1;simp only[zRv,yH,de2,g1,rI,deI,zT,zK];rfl
 rw[←hw2]at fin;generalize lsL P.q ((xV P.q t).take j)=ls at *;generalize chL P.q t ((xV P.q t).take j)=ch at *;generalize (xV P.q t)[j]=i at *;generalize itA P.q i.toNat=it at *;have hmin:(if w.2<ls then ((w.2:Nat):Int)else (ls:Int))=((min ls w.2:Nat):Int):=by
  split<;>omega
 by_cases hhi:1<it.hi
 ·by_cases hm:i∈zA5 P.q t
  ·rw[if_pos ⟨hhi,hm⟩]at fin
   simp[evz,zVq,zRl,inB,yW,hdC,tlC,Tryz.f59,q6,b6,q8,q11,q12,b12,q13,b13,ii,ss,bv,hw,zHa,hg,hlb,hhi,hm,hmin];exact fin _ (by simp[up]) (by simp[up,ii]) (by simp[up,ii])
  ·rw[if_neg fun k=>hm k.2]at fin
   simp[evz,zVq,zRl,inB,yW,hdC,tlC,Tryz.f59,q6,b6,q8,q11,q12,b12,q13,b13,ii,ss,bv,hw,zHa,hg,hlb,hhi,hm,hmin];exact fin _ (by simp[up]) (by simp[up,ii]) (by simp[up,q9])
 ·rw[if_neg fun k=>hhi k.1]at fin
  simp[evz,zVq,zRl,inB,yW,hdC,tlC,Tryz.f59,q6,b6,q8,q11,q12,b12,q13,b13,ii,ss,bv,hw,zHa,hg,hlb,hhi,hmin];exact fin _ (by simp[up]) (by simp[up,ii]) (by simp[up,q9])
end
end
section
theorem zVj {cs:List AV} {z:AV} {sz k c i:Nat} (hi:i≠k) (hc:c<sz):((cs.set (k*sz+c) z).drop (i*sz)).take sz=(cs.drop (i*sz)).take sz:=by
 apply zEp;intro j;by_cases hj:j<sz
 ·rw[zY hj,zY hj,xA,xA,zAi]
  intro e;rcases Nat.lt_trichotomy i k with h|h|h
  ·have:i*sz+sz≤k*sz:=by rw[←wC];exact yU _ h
   omega
  ·exact hi h
  ·have:k*sz+sz≤i*sz:=by rw[←wC];exact yU _ h
   omega
 ·rw[List.getElem?_take_eq_none (by omega),List.getElem?_take_eq_none (by omega)]
theorem zVk {cs:List AV} {z:AV} {sz k c:Nat} (hc:c<sz):((cs.set (k*sz+c) z).drop (k*sz)).take sz=((cs.drop (k*sz)).take sz).set c z:=by
 apply zEp;intro j;by_cases hj:j<sz
 ·rw[zY hj,xA,List.getElem?_set,List.getElem?_set,zY hj,xA,zW,yS]
  by_cases e:c=j
  ·subst e
   rw[if_pos rfl,if_pos rfl];by_cases h:k*sz+c<cs.length
   ·rw[if_pos h,if_pos (by omega)]
   ·rw[if_neg h,if_neg (by omega)]
  ·rw[if_neg (by omega),if_neg e]
 ·rw[List.getElem?_take_eq_none (by omega),List.getElem?_set,List.getElem?_take_eq_none (by omega)]
  by_cases e:c=j
  ·omega
  ·rw[if_neg e]
theorem LR.upd {α:Type} {T':Nat→Nat} {kk sz:Nat} {h':Heap} {xs:List α} {x:α} {R':Nat→List AV→α→Prop} {cs:List AV} {z:AV} {hid ver k c:Nat} (hcs:cs.length=xs.length*sz) (hc:c<sz) (hT:T' hid=kk) (hb:h' hid=some ⟨cs.set (k*sz+c) z,ver,true,sz⟩)
  (hR:∀i (hi:i<xs.length),i≠k→R' i ((cs.drop (i*sz)).take sz) xs[i]) (hx:k<xs.length→R' k (((cs.drop (k*sz)).take sz).set c z) x):LR T' kk sz h' (.s hid ver 0 xs.length) (xs.set k x) R':=by
 refine⟨cs.set (k*sz+c) z,⟨by rw[zBp,zBp];exact hcs,.inr ⟨hid,ver,by rw[zBp],hT,hb⟩⟩,fun i hi => ?_⟩
 have hi':i<xs.length:=by rw[zBp]at hi;exact hi
 by_cases e:i=k
 ·subst e
  rw[zVk hc,List.getElem_set_self];exact hx hi'
 ·rw[zVj e hc,List.getElem_set_ne (Ne.symm e)]
  exact hR i hi' e
theorem Mv.thr_new {k kk hid:Nat} {T:Nat→Nat} {h:Heap} {n n':Nat} (tn:∀i,n≤i→T i=0) (fr:Fresh n h) (hT:T hid=kk) (hkk:kk≠0) (hh:hid<n) (X Y B:Blk) (hn:n+2≤n') :
  Mv (fun x=>x=k∨x=kk) T h n (fun i=>if i=n+1 then k else T i) (up (up (up h n (some X)) (n+1) (some Y)) hid (some B)) n':=by
 have v2:Mv (fun x=>x=k) T h n T (up h n (some X)) (n+1):=Mv.of_agree tn (by omega) ((zD (by omega) _).2 (zE _ _)) ((zF (by omega) _).2 (fun i hi=>fr i (by omega)))
 have v3:Mv (fun x=>x=k) T (up h n (some X)) (n+1) (fun i=>if i=n+1 then k else T i) (up (up h n (some X)) (n+1) (some Y)) (n+2):=Mv.nw v2.new v2.fr (by omega) k Y (by omega) (by omega)
 have v4:Mv (fun x=>x=if hid=n+1 then k else T hid) (fun i=>if i=n+1 then k else T i) (up (up h n (some X)) (n+1) (some Y)) (n+2) (fun i=>if i=n+1 then k else T i) (up (up (up h n (some X)) (n+1) (some Y)) hid (some B)) n':=Mv.wr v3.new v3.fr (by show (if hid=n+1 then k else T hid)≠0;rw[if_neg (by omega),hT];exact hkk) (by omega) hn B
 rw[if_neg (by omega),hT]at v4
 exact (v2.trans v3 (K:=fun x=>x=k) (fun _ h=>h) fun _ h=>h).trans v4 (fun x h=>.inl h) fun x h=>.inr h
theorem Mv.thr_old {k kk hid id:Nat} {T:Nat→Nat} {h:Heap} {n n':Nat} (tn:∀i,n≤i→T i=0) (fr:Fresh n h) (hT:T hid=kk) (hkk:kk≠0) (hh:hid<n) (hk:k≠0) (hid':T id=k) (hi:id<n) (X Y B:Blk) (hn:n+2≤n') :
  Mv (fun x=>x=k∨x=kk) T h n T (up (up (up h n (some X)) id (some Y)) hid (some B)) n':=by
 have v2:Mv (fun x=>x=k) T h n T (up h n (some X)) (n+1):=Mv.of_agree tn (by omega) ((zD (by omega) _).2 (zE _ _)) ((zF (by omega) _).2 (fun i hi=>fr i (by omega)))
 have v3:Mv (fun x=>x=T id) T (up h n (some X)) (n+1) T (up (up h n (some X)) id (some Y)) (n+2):=Mv.wr v2.new v2.fr (by rw[hid'];exact hk) (by omega) (by omega) Y
 have v4:Mv (fun x=>x=T hid) T (up (up h n (some X)) id (some Y)) (n+2) T (up (up (up h n (some X)) id (some Y)) hid (some B)) n':=Mv.wr v3.new v3.fr (by rw[hT];exact hkk) (by omega) hn B
 rw[hT]at v4;rw[hid']at v3;exact (v2.trans v3 (K:=fun x=>x=k) (fun _ h=>h) fun _ h=>h).trans v4 (fun x h=>.inl h) fun x h=>.inr h
section
variable {hB:Heap} {n1 bid mid:Nat} {T T':Nat→Nat} {h h':Heap} {n n':Nat} {p:Pt} {P:Pl} {f:ByteArray→Option (Bool×Nat)}
theorem BI.bb' {K:Nat→Prop} (b:BI hB n1 bid mid T h n p P f) (V:Mv K T h n T' h' n') (hK:¬K 7):h' bid=some ⟨xH p P mid,0,true,17⟩:=by
 have:=b.s.b1;have:=b.s.nn;rw[V.keep _ (by omega) (by rw[b.s.tb];exact fun h=>hK h.2)];exact b.bb
theorem BI.ngset {k:Nat} (b:BI hB n1 bid mid T h n p P f) (V:Mv (fun x=>(x=18+4*k∨x=19+4*k)∨x=2) T h n T' h' n') (g:Ng) (hl:LR T' 2 6 h' p.na (P.negs.set k g) (NgR T' h')):BI hB n1 bid mid T' h' n' p {P with negs:=P.negs.set k g} f where
 s:=b.s.mv V (by omega)
 bb:=b.bb' V (by omega)
 mm:=b.mm' V (by omega)
 cm:=b.cm.mv V b.s.fr (by omega) fun i l x _ g=>g.mv V b.s.fr (by omega) (by omega)
 ng:=hl
 fx:=b.fx.mv V b.s.fr (by omega)
 us:=b.us.mv V b.s.fr (by omega)
 cl:=b.cl.mv V b.s.fr (by omega)
 rt:=b.rt.mv V b.s.fr (by omega)
theorem BI.cmset {k:Nat} (b:BI hB n1 bid mid T h n p P f) (V:Mv (fun x=>(x=16+4*k∨x=17+4*k)∨x=1) T h n T' h' n') (g:Cmp) (hl:LR T' 1 6 h' p.ca (P.comps.set k g) (CmpR T' h')):BI hB n1 bid mid T' h' n' p {P with comps:=P.comps.set k g} f where
 s:=b.s.mv V (by omega)
 bb:=b.bb' V (by omega)
 mm:=b.mm' V (by omega)
 cm:=hl
 ng:=b.ng.mv V b.s.fr (by omega) fun i l x _ g=>g.mv V b.s.fr (by omega) (by omega)
 fx:=b.fx.mv V b.s.fr (by omega)
 us:=b.us.mv V b.s.fr (by omega)
 cl:=b.cl.mv V b.s.fr (by omega)
 rt:=b.rt.mv V b.s.fr (by omega)
end
theorem Mv.wide {K K':Nat→Prop} {T T':Nat→Nat} {h h':Heap} {n n':Nat} (v:Mv K T h n T' h' n') (hK:∀x,K x→K' x):Mv K' T h n T' h' n' :=
 ⟨v.nn,v.old,fun i hi hk=>v.keep i hi fun h=>hk ⟨h.1,hK _ h.2⟩,v.new,v.fr⟩
end
section
theorem M59.rd {hB:Heap} {n1 bid mid:Nat} {T:Nat→Nat} {h:Heap} {n:Nat} {sc:List Ty} {q:Qu} {sa qa qb qc:AV} (b:BS hB n1 bid mid T h n sc q sa qa qb qc) {pr:Pr} {m5 lo hi:Nat} {ca la:AV} {s:St} (m:M59 h n pr m5 lo hi ca la s):zLr (still T s.h) (.g [ca,la])=some pr:=by
 obtain⟨q5,b5,ow,o1,o2,o3,o4,o5,o6⟩:=m;exact (ow.up (h':=still T s.h) (fun i h1 h2=>zJi (b.tn i (by omega))) (zC _) (zC _)).rd
theorem S59.bi {hB:Heap} {n1 bid mid:Nat} {T:Nat→Nat} {h:Heap} {n:Nat} {p:Pt} {P:Pl} {f:ByteArray→Option (Bool×Nat)} (b:BI hB n1 bid mid T h n p P f) {t:List Nd} {y:Y59} {s:St} (a:S59 bid P h n t y s):BI hB n1 bid mid T s.h s.n p P f∧Mv (fun _=>False) T h n T s.h s.n :=
 let v:=Mv.of_agree b.s.tn a.nn a.ag a.fr
 ⟨b.mv v,v⟩
section
variable {hB:Heap} {n1 bid mid:Nat} {T:Nat→Nat} {p:Pt} {P:Pl} {f:ByteArray→Option (Bool×Nat)}
theorem yPm {t:List Nd} {h:Heap} {n:Nat} (b:BI hB n1 bid mid T h n p P f) {y:Y59} (hl:P.fixed.length≤1099511627776) (e:Nat→AV) (h1:Heap) (n2:Nat) (a:S59 bid P h n t y ⟨e,h1,n2⟩) (q8:e 8=ii P.comps.length) {Q}
  (hQ:∀s',(∃T' p',BI hB n1 bid mid T' s'.h s'.n p' {P with fixed:=P.fixed++[zAk P.sc (vars P.q.items) t]} f∧Mv (fun _=>True) T h n T' s'.h s'.n)→Q .normal s') :
  awp (cz [3] (pfL zHa)) (tlC 6 (Tryz.f59.body.getD .skip)) Q ⟨e,h1,n2⟩:=by
 obtain⟨bi,V0⟩:=a.bi b;have a0:=a;have hpr:=a.M.rd b.s;obtain⟨q0,q4,ag,fr,nn,⟨q5,b5,ow,o1,o2,o3,o4,o5,o6⟩,U⟩:=a;simp only[]at q0 q4 ag fr nn q5 b5 ow o2 bi V0 hpr;generalize hpp:zAk P.sc (vars P.q.items) t=pr at *;obtain⟨lb,lm,nbm⟩:=bi.low;have hbb:=bi.bb;obtain⟨ca',la',e0,k1,k2,k3,k4,k5,k6⟩:=ow.is;simp only[AV.g.injEq,List.cons.injEq,and_true]at e0;obtain⟨rfl,rfl⟩:=e0;obtain⟨c1,c2,c3,c4,c5⟩:=bi.cm.isS;obtain⟨cs,gl,gR⟩:=bi.fx;have x4:¬bid=n2+1:=by omega
 have x5:¬bid=n2:=by omega
 have hm5:T y.m5=0:=b.s.tn _ o1;have w1:¬bid=y.m5:=fun e=>by rw[←e,bi.s.tb]at hm5;cases hm5
 have w2:¬y.m5=n2:=by omega
 have w3:¬y.m5=n2+1:=by omega
 rcases gl.at with ⟨ga,g0,rfl⟩|⟨id,ver,ga,gT,gh⟩
 ·simp[evz,tlC,Tryz.f59,q4,q5,q8,b5,hbb,xH,ii,ss,bv,ga,x4,x5,c1,c2,k1,k2,zHa]
  have V:=Mv.three_nil (n':=n2+3) bi.s (k:=3) (by omega) ⟨[y.ca,y.la],0,true,2⟩ ⟨[y.ca,y.la],0,true,2⟩ ⟨xH {p with fa:=.s (n2+1) 0 0 1} P mid,0,true,17⟩ (by omega)
  refine⟨fun _=>zAd rfl fun t ht => ?_,zAp (by kernel_rfl),hQ _ ⟨fun i=>if i=n2+1 then 3 else T i,{p with fa:=.s (n2+1) 0 0 1},bi.fxapp V _ _ (zJ _ _ _) ?_,V0.trans V (fun _ _=>trivial) fun _ _=>trivial⟩⟩
  ·simp[wZ]at ht
   rcases ht with rfl|rfl
   ·exact⟨bid,0,_,by simp[up];rfl,by omega⟩
   ·exact⟨y.m5,0,0,by simp[up,q5],by omega⟩
  ·have hne:P.fixed=[]:=zX.1 g0
   rw[hne];exact LR.app (xs:=[]) (cs:=[]) (ns:=[y.ca,y.la]) (by simp) (by rfl) (if_pos rfl) (by rw[zP _ _ (Ne.symm x4),zJ];rfl) (fun i hi=>by simp at hi) (dPrg.mono (V.still bi.s.fr) hpr)
 ·have y1:¬id=n2:=by have:=xB gh bi.s.fr;omega
  have y3:¬id=bid:=fun e=>by rw[e,bi.s.tb]at gT;cases gT
  have y4:¬bid=id:=fun e=>y3 e.symm
  have y5:¬y.m5=id:=fun e=>by rw[←e,hm5]at gT;cases gT
  have y6:¬id=n2+1:=by have:=xB gh bi.s.fr;omega
  have hcl:=gl.1;simp[evz,tlC,Tryz.f59,q4,q5,q8,b5,hbb,xH,ii,ss,bv,ga,gh,x4,x5,c1,c2,k1,k2,zHa,y1,y4,hcl];have V1:=Mv.three (n':=n2+3) bi.s (k:=3) (by omega) gT (xB gh bi.s.fr) ⟨[y.ca,y.la],0,true,2⟩ ⟨cs++[y.ca,y.la],ver,true,2⟩ ⟨xH {p with fa:=.s id ver 0 (P.fixed.length+1)} P mid,0,true,17⟩ (by omega)
  have V2:=Mv.three_nil (n':=n2+3) bi.s (k:=3) (by omega) ⟨[y.ca,y.la],0,true,2⟩ ⟨cs++[y.ca,y.la],0,true,2⟩ ⟨xH {p with fa:=.s (n2+1) 0 0 (P.fixed.length+1)} P mid,0,true,17⟩ (by omega)
  refine⟨⟨by omega,by omega⟩,⟨fun _=>zAd rfl fun t ht => ?_,zAp (by kernel_rfl),hQ _ ⟨T,{p with fa:=.s id ver 0 (P.fixed.length+1)},bi.fxapp V1 _ _ (zJ _ _ _) ?_,V0.trans V1 (fun _ _=>trivial) fun _ _=>trivial⟩⟩,fun _=>zAd rfl fun t ht => ?_,zAp (by kernel_rfl),hQ _ ⟨fun i=>if i=n2+1 then 3 else T i,{p with fa:=.s (n2+1) 0 0 (P.fixed.length+1)},bi.fxapp V2 _ _ (zJ _ _ _) ?_,V0.trans V2 (fun _ _=>trivial) fun _ _=>trivial⟩⟩
  ·simp[wZ]at ht
   rcases ht with rfl|rfl
   ·exact⟨bid,0,_,by simp[up];rfl,by omega⟩
   ·exact⟨y.m5,0,0,by simp[up,q5],by omega⟩
  ·exact LR.app (cs:=cs) (ns:=[y.ca,y.la]) gl.1 (by rfl) gT (by rw[zP _ _ y3,zJ]) (fun i hi=>dPrg.mono (V1.still bi.s.fr) (gR i hi)) (dPrg.mono (V1.still bi.s.fr) hpr)
  ·simp[wZ]at ht
   rcases ht with rfl|rfl
   ·exact⟨bid,0,_,by simp[up];rfl,by omega⟩
   ·exact⟨y.m5,0,0,by simp[up,q5],by omega⟩
  ·exact LR.app (cs:=cs) (ns:=[y.ca,y.la]) gl.1 (by rfl) (if_pos rfl) (by rw[zP _ _ (Ne.symm x4),zJ]) (fun i hi=>dPrg.mono (V2.still bi.s.fr) (gR i hi)) (dPrg.mono (V2.still bi.s.fr) hpr)
end
end
section
section
variable {T T':Nat→Nat} {h h':Heap} {n n' k:Nat} {l:List AV} {z:AV} {pr:Pr} {cd:Cd}
theorem CmpR.owned {c:Cmp} (g:CmpR T h k l c) (V:Mv (fun x=>x=16+4*k∨x=1) T h n T' h' n') (hn:Fresh n h) (hl:LL dPrg 2 T' (16+4*k) h' z (c.own++[pr])):CmpR T' h' k (l.set 4 z) {c with own:=c.own++[pr]}:=by
 obtain⟨ty,ow,cn,rfl,e2,e3,e4⟩:=g;exact⟨ty,z,cn,rfl,yZ (V.still hn) e2,hl,e4.mv V hn (by omega)⟩
theorem CmpR.conded {c:Cmp} (g:CmpR T h k l c) (V:Mv (fun x=>x=17+4*k∨x=1) T h n T' h' n') (hn:Fresh n h) (hl:LL dCdg 4 T' (17+4*k) h' z (c.conds++[cd])):CmpR T' h' k (l.set 5 z) {c with conds:=c.conds++[cd]}:=by
 obtain⟨ty,ow,cn,rfl,e2,e3,e4⟩:=g;exact⟨ty,ow,z,rfl,yZ (V.still hn) e2,e3.mv V hn (by omega),hl⟩
theorem NgR.owned {c:Ng} (g:NgR T h k l c) (V:Mv (fun x=>x=18+4*k∨x=2) T h n T' h' n') (hn:Fresh n h) (hl:LL dPrg 2 T' (18+4*k) h' z (c.own++[pr])):NgR T' h' k (l.set 4 z) {c with own:=c.own++[pr]}:=by
 obtain⟨ty,ow,cn,rfl,e2,e3,e4⟩:=g;exact⟨ty,z,cn,rfl,yZ (V.still hn) e2,hl,e4.mv V hn (by omega)⟩
theorem NgR.rested {c:Ng} (g:NgR T h k l c) (V:Mv (fun x=>x=19+4*k∨x=2) T h n T' h' n') (hn:Fresh n h) (hl:LL dPrg 2 T' (19+4*k) h' z (c.rest++[pr])):NgR T' h' k (l.set 5 z) {c with rest:=c.rest++[pr]}:=by
 obtain⟨ty,ow,cn,rfl,e2,e3,e4⟩:=g;exact⟨ty,ow,z,rfl,yZ (V.still hn) e2,e3.mv V hn (by omega),hl⟩
variable {hB:Heap} {n1 bid mid:Nat} {p:Pt} {P:Pl} {f:ByteArray→Option (Bool×Nat)}
theorem BI.cmown (b:BI hB n1 bid mid T h n p P f) (hk:k<P.comps.length) {ccs:List AV} {hid ver:Nat} (hca:p.ca=.s hid ver 0 P.comps.length) (hT:T hid=1) (hh:h hid=some ⟨ccs,ver,true,6⟩) (hcl:ccs.length=P.comps.length*6) (hR:∀i (hi:i<P.comps.length),CmpR T h i ((ccs.drop (i*6)).take 6) P.comps[i])
  (V:Mv (fun x=>x=16+4*k∨x=1) T h n T' h' n') (hb:h' hid=some ⟨ccs.set (k*6+4) z,ver,true,6⟩) (hl:LL dPrg 2 T' (16+4*k) h' z (P.comps[k].own++[pr])):BI hB n1 bid mid T' h' n' p {P with comps:=P.comps.set k {P.comps[k]with own:=P.comps[k].own++[pr]} } f :=
 b.cmset (V.wide fun x hx=>hx.imp .inl id) _ (by rw[hca];exact LR.upd hcl (by omega) ((V.old hid (xB hh b.s.fr)).trans hT) hb (fun i hi ne=>(hR i hi).mv V b.s.fr (by omega) (by omega)) fun hk=>(hR k hk).owned V b.s.fr hl)
theorem BI.cmcond (b:BI hB n1 bid mid T h n p P f) (hk:k<P.comps.length) {ccs:List AV} {hid ver:Nat} (hca:p.ca=.s hid ver 0 P.comps.length) (hT:T hid=1) (hh:h hid=some ⟨ccs,ver,true,6⟩) (hcl:ccs.length=P.comps.length*6) (hR:∀i (hi:i<P.comps.length),CmpR T h i ((ccs.drop (i*6)).take 6) P.comps[i])
  (V:Mv (fun x=>x=17+4*k∨x=1) T h n T' h' n') (hb:h' hid=some ⟨ccs.set (k*6+5) z,ver,true,6⟩) (hl:LL dCdg 4 T' (17+4*k) h' z (P.comps[k].conds++[cd])):BI hB n1 bid mid T' h' n' p {P with comps:=P.comps.set k {P.comps[k]with conds:=P.comps[k].conds++[cd]} } f :=
 b.cmset (V.wide fun x hx=>hx.imp .inr id) _ (by rw[hca];exact LR.upd hcl (by omega) ((V.old hid (xB hh b.s.fr)).trans hT) hb (fun i hi ne=>(hR i hi).mv V b.s.fr (by omega) (by omega)) fun hk=>(hR k hk).conded V b.s.fr hl)
theorem BI.ngown (b:BI hB n1 bid mid T h n p P f) (hk:k<P.negs.length) {ccs:List AV} {hid ver:Nat} (hca:p.na=.s hid ver 0 P.negs.length) (hT:T hid=2) (hh:h hid=some ⟨ccs,ver,true,6⟩) (hcl:ccs.length=P.negs.length*6) (hR:∀i (hi:i<P.negs.length),NgR T h i ((ccs.drop (i*6)).take 6) P.negs[i])
  (V:Mv (fun x=>x=18+4*k∨x=2) T h n T' h' n') (hb:h' hid=some ⟨ccs.set (k*6+4) z,ver,true,6⟩) (hl:LL dPrg 2 T' (18+4*k) h' z (P.negs[k].own++[pr])):BI hB n1 bid mid T' h' n' p {P with negs:=P.negs.set k {P.negs[k]with own:=P.negs[k].own++[pr]} } f :=
 b.ngset (V.wide fun x hx=>hx.imp .inl id) _ (by rw[hca];exact LR.upd hcl (by omega) ((V.old hid (xB hh b.s.fr)).trans hT) hb (fun i hi ne=>(hR i hi).mv V b.s.fr (by omega) (by omega)) fun hk=>(hR k hk).owned V b.s.fr hl)
theorem BI.ngrest (b:BI hB n1 bid mid T h n p P f) (hk:k<P.negs.length) {ccs:List AV} {hid ver:Nat} (hca:p.na=.s hid ver 0 P.negs.length) (hT:T hid=2) (hh:h hid=some ⟨ccs,ver,true,6⟩) (hcl:ccs.length=P.negs.length*6) (hR:∀i (hi:i<P.negs.length),NgR T h i ((ccs.drop (i*6)).take 6) P.negs[i])
  (V:Mv (fun x=>x=19+4*k∨x=2) T h n T' h' n') (hb:h' hid=some ⟨ccs.set (k*6+5) z,ver,true,6⟩) (hl:LL dPrg 2 T' (19+4*k) h' z (P.negs[k].rest++[pr])):BI hB n1 bid mid T' h' n' p {P with negs:=P.negs.set k {P.negs[k]with rest:=P.negs[k].rest++[pr]} } f :=
 b.ngset (V.wide fun x hx=>hx.imp .inr id) _ (by rw[hca];exact LR.upd hcl (by omega) ((V.old hid (xB hh b.s.fr)).trans hT) hb (fun i hi ne=>(hR i hi).mv V b.s.fr (by omega) (by omega)) fun hk=>(hR k hk).rested V b.s.fr hl)
end
theorem LR.row {α:Type} {T:Nat→Nat} {k sz:Nat} {h:Heap} {a:AV} {xs:List α} {R:Nat→List AV→α→Prop} (g:LR T k sz h a xs R) (hx:0<xs.length):∃id ver cs,a=.s id ver 0 xs.length∧T id=k∧h id=some ⟨cs,ver,true,sz⟩∧cs.length=xs.length*sz∧∀i (hi:i<xs.length),R i ((cs.drop (i*sz)).take sz) xs[i]:=by
 obtain⟨cs,g1,g2⟩:=g;rcases g1.at with ⟨_,h0,_⟩|⟨id,ver,ga,gT,gh⟩
 ·omega
 ·exact⟨id,ver,cs,ga,gT,gh,g1.1,g2⟩
section
variable {hB:Heap} {n1 bid mid:Nat} {T:Nat→Nat} {p:Pt} {P:Pl} {f:ByteArray→Option (Bool×Nat)}
theorem yPl {t:List Nd} {h:Heap} {n:Nat} (b:BI hB n1 bid mid T h n p P f) {y:Y59} {k:Nat} (hk:k<P.comps.length) (hl:P.comps[k].own.length≤1099511627776) (hal:zAa P.q t=true) (e:Nat→AV) (h1:Heap) (n2:Nat) (a:S59 bid P h n t y ⟨e,h1,n2⟩) (q7:e 7=bv (zAa P.q t)) (q8:e 8=ii k) {Q}
  (hQ:∀s',(∃T' p',BI hB n1 bid mid T' s'.h s'.n p' {P with comps:=P.comps.set k {P.comps[k]with own:=P.comps[k].own++[zAk P.sc (vars P.q.items) t]} } f∧Mv (fun _=>True) T h n T' s'.h s'.n)→Q .normal s') :
  awp (cz [3] (pfL zHa)) (tlC 6 (Tryz.f59.body.getD .skip)) Q ⟨e,h1,n2⟩:=by
 obtain⟨bi,V0⟩:=a.bi b;have a0:=a;have hpr:=a.M.rd b.s;obtain⟨q0,q4,ag,fr,nn,⟨q5,b5,ow,o1,o2,o3,o4,o5,o6⟩,U⟩:=a;simp only[]at q0 q4 ag fr nn q5 b5 ow o2 bi V0 hpr;generalize hpp:zAk P.sc (vars P.q.items) t=pr at *;obtain⟨lb,lm,nbm⟩:=bi.low;have hbb:=bi.bb;obtain⟨ca',la',e0,k1,k2,k3,k4,k5,k6⟩:=ow.is;simp only[AV.g.injEq,List.cons.injEq,and_true]at e0;obtain⟨rfl,rfl⟩:=e0;obtain⟨hid,hver,ccs,hca,hT,hh,hcl,hR⟩:=bi.cm.row (by omega)
 obtain⟨ty,owl,cnl,hrow,e2,e3,e4⟩:=hR k hk;have hc4:=yI (c:=4) hrow rfl (by omega)
 have hb5:k*6+5≤ccs.length:=by omega
 have hb4:k*6+4<ccs.length:=by omega
 have hc4':∀hx,ccs[k*6+4]'hx=owl:=fun hx=>by rw[zA hx]at hc4;exact Option.some.inj hc4
 have hkn:¬(k:Int)=(P.comps.length:Int):=by omega
 obtain⟨cs,gl,gR⟩:=e3;have lh:=xB hh bi.s.fr;have x4:¬bid=n2+1:=by omega
 have x5:¬bid=n2:=by omega
 have x6:¬hid=n2+1:=by omega
 have x7:¬hid=n2:=by omega
 have hm5:T y.m5=0:=b.s.tn _ o1;have w1:¬bid=y.m5:=fun e=>by rw[←e,bi.s.tb]at hm5;cases hm5
 have w2:¬y.m5=n2:=by omega
 have w3:¬y.m5=n2+1:=by omega
 have w4:¬hid=y.m5:=fun e=>by rw[←e,hT]at hm5;cases hm5
 have w5:¬hid=bid:=fun e=>by rw[e,bi.s.tb]at hT;cases hT
 have w6:¬bid=hid:=fun e=>w5 e.symm
 rw[hal]at q7;rcases gl.at with ⟨ga,g0,rfl⟩|⟨id,ver,ga,gT,gh⟩
 ·simp[evz,tlC,Tryz.f59,q4,q5,q7,q8,b5,hbb,xH,ii,ss,bv,hca,hh,hc4',hb4,hb5,hk,hkn,ga,x6,x7,k1,k2,zHa]
  have V:=Mv.thr_new (n':=n2+3) (k:=16+4*k) bi.s.tn bi.s.fr hT (by omega) lh ⟨[y.ca,y.la],0,true,2⟩ ⟨[y.ca,y.la],0,true,2⟩ ⟨ccs.set (k*6+4) (.s (n2+1) 0 0 1),hver,true,6⟩ (by omega)
  refine⟨fun _=>zAd rfl fun t ht => ?_,zAp (by kernel_rfl),hQ _ ⟨fun i=>if i=n2+1 then 16+4*k else T i,p,bi.cmown hk hca hT hh hcl hR V (zJ _ _ _) ?_,V0.trans V (fun _ _=>trivial) fun _ _=>trivial⟩⟩
  ·simp[wZ]at ht
   rcases ht with rfl|rfl|rfl|rfl
   ·exact⟨bid,0,_,by simp[up];rfl,by omega⟩
   ·exact⟨bid,0,_,by simp[up];rfl,by omega⟩
   ·exact⟨hid,hver,_,by simp[up];rfl,by omega⟩
   ·exact⟨y.m5,0,0,by simp[up,q5],by omega⟩
  ·have hne:P.comps[k].own=[]:=zX.1 g0
   rw[hne];exact LR.app (xs:=[]) (cs:=[]) (ns:=[y.ca,y.la]) (by simp) (by rfl) (if_pos rfl) (by simp only[];rw[zP _ _ (Ne.symm x6),zJ];rfl) (fun i hi=>by simp at hi) (dPrg.mono (V.still bi.s.fr) hpr)
 ·have y1:¬id=n2:=by have:=xB gh bi.s.fr;omega
  have y2:¬id=n2+1:=by have:=xB gh bi.s.fr;omega
  have y3:¬id=hid:=fun e=>by rw[e,hT]at gT;omega
  have y4:¬hid=id:=fun e=>y3 e.symm
  have y5:¬y.m5=id:=fun e=>by rw[←e,hm5]at gT;omega
  have y6:¬bid=id:=fun e=>by rw[←e,bi.s.tb]at gT;omega
  have hcl2:=gl.1;simp[evz,tlC,Tryz.f59,q4,q5,q7,q8,b5,hbb,xH,ii,ss,bv,hca,hh,hc4',hb4,hb5,hk,hkn,ga,gh,x6,x7,k1,k2,zHa,y1,y4,hcl2];have V1:=Mv.thr_old (n':=n2+3) (k:=16+4*k) bi.s.tn bi.s.fr hT (by omega) lh (by omega) gT (xB gh bi.s.fr) ⟨[y.ca,y.la],0,true,2⟩ ⟨cs++[y.ca,y.la],ver,true,2⟩ ⟨ccs.set (k*6+4) (.s id ver 0 (P.comps[k].own.length+1)),hver,true,6⟩ (by omega)
  have V2:=Mv.thr_new (n':=n2+3) (k:=16+4*k) bi.s.tn bi.s.fr hT (by omega) lh ⟨[y.ca,y.la],0,true,2⟩ ⟨cs++[y.ca,y.la],0,true,2⟩ ⟨ccs.set (k*6+4) (.s (n2+1) 0 0 (P.comps[k].own.length+1)),hver,true,6⟩ (by omega)
  refine⟨⟨by omega,by omega⟩,⟨fun _=>zAd rfl fun t ht => ?_,zAp (by kernel_rfl),hQ _ ⟨T,p,bi.cmown hk hca hT hh hcl hR V1 (zJ _ _ _) ?_,V0.trans V1 (fun _ _=>trivial) fun _ _=>trivial⟩⟩,fun _=>zAd rfl fun t ht => ?_,zAp (by kernel_rfl),hQ _ ⟨fun i=>if i=n2+1 then 16+4*k else T i,p,bi.cmown hk hca hT hh hcl hR V2 (zJ _ _ _) ?_,V0.trans V2 (fun _ _=>trivial) fun _ _=>trivial⟩⟩
  ·simp[wZ]at ht
   rcases ht with rfl|rfl|rfl|rfl
   ·exact⟨bid,0,_,by simp[up];rfl,by omega⟩
   ·exact⟨bid,0,_,by simp[up];rfl,by omega⟩
   ·exact⟨hid,hver,_,by simp[up];rfl,by omega⟩
   ·exact⟨y.m5,0,0,by simp[up,q5],by omega⟩
  ·exact LR.app (cs:=cs) (ns:=[y.ca,y.la]) gl.1 (by rfl) gT (by simp only[];rw[zP _ _ y3,zJ]) (fun i hi=>dPrg.mono (V1.still bi.s.fr) (gR i hi)) (dPrg.mono (V1.still bi.s.fr) hpr)
  ·simp[wZ]at ht
   rcases ht with rfl|rfl|rfl|rfl
   ·exact⟨bid,0,_,by simp[up];rfl,by omega⟩
   ·exact⟨bid,0,_,by simp[up];rfl,by omega⟩
   ·exact⟨hid,hver,_,by simp[up];rfl,by omega⟩
   ·exact⟨y.m5,0,0,by simp[up,q5],by omega⟩
  ·exact LR.app (cs:=cs) (ns:=[y.ca,y.la]) gl.1 (by rfl) (if_pos rfl) (by simp only[];rw[zP _ _ (Ne.symm x6),zJ]) (fun i hi=>dPrg.mono (V2.still bi.s.fr) (gR i hi)) (dPrg.mono (V2.still bi.s.fr) hpr)
end
end
section
section
variable {hB:Heap} {n1 bid mid:Nat} {T:Nat→Nat} {p:Pt} {P:Pl} {f:ByteArray→Option (Bool×Nat)}
theorem yPk {t:List Nd} {h:Heap} {n:Nat} (b:BI hB n1 bid mid T h n p P f) {y:Y59} {k:Nat} (hk:k<P.comps.length) (hl:P.comps[k].conds.length≤1099511627776) (hal:zAa P.q t=false) (e:Nat→AV) (h1:Heap) (n2:Nat) (a:S59 bid P h n t y ⟨e,h1,n2⟩) (q7:e 7=bv (zAa P.q t)) (q8:e 8=ii k) (q9:e 9=ii (zDf P.q t)) {Q}
  (hQ:∀s',(∃T' p',BI hB n1 bid mid T' s'.h s'.n p' {P with comps:=P.comps.set k {P.comps[k]with conds:=P.comps[k].conds++[⟨zAk P.sc (vars P.q.items) t,zDf P.q t,decide (0<(zCz P.q t).length)⟩]} } f∧Mv (fun _=>True) T h n T' s'.h s'.n)→Q .normal s') :
  awp (cz [3] (pfL zHa)) (tlC 6 (Tryz.f59.body.getD .skip)) Q ⟨e,h1,n2⟩:=by
 obtain⟨bi,V0⟩:=a.bi b;have a0:=a;have hpr:=a.M.rd b.s;obtain⟨q0,q4,ag,fr,nn,⟨q5,b5,ow,o1,o2,o3,o4,o5,o6⟩,⟨q6,b6,⟨om1,om2⟩,r1,r2,r3,nz⟩⟩:=a;simp only[]at q0 q4 ag fr nn q5 b5 ow o2 bi V0 hpr q6 b6 r2 om2;generalize hpp:zAk P.sc (vars P.q.items) t=pr at *;obtain⟨lb,lm,nbm⟩:=bi.low;have hbb:=bi.bb;obtain⟨ca',la',e0,k1,k2,k3,k4,k5,k6⟩:=ow.is;simp only[AV.g.injEq,List.cons.injEq,and_true]at e0;obtain⟨rfl,rfl⟩:=e0;obtain⟨hid,hver,ccs,hca,hT,hh,hcl,hR⟩:=bi.cm.row (by omega)
 obtain⟨ty,owl,cnl,hrow,e2,e3,e4⟩:=hR k hk;have hc4:=yI (c:=5) hrow rfl (by omega)
 have hb5:k*6+6≤ccs.length:=by omega
 have hb4:k*6+5<ccs.length:=by omega
 have hc4':∀hx,ccs[k*6+5]'hx=cnl:=fun hx=>by rw[zA hx]at hc4;exact Option.some.inj hc4
 have hkn:¬(k:Int)=(P.comps.length:Int):=by omega
 obtain⟨cs,gl,gR⟩:=e4;have lh:=xB hh bi.s.fr;have x4:¬bid=n2+1:=by omega
 have x5:¬bid=n2:=by omega
 have x6:¬hid=n2+1:=by omega
 have x7:¬hid=n2:=by omega
 have hm5:T y.m5=0:=b.s.tn _ o1;have w1:¬bid=y.m5:=fun e=>by rw[←e,bi.s.tb]at hm5;cases hm5
 have w2:¬y.m5=n2:=by omega
 have w3:¬y.m5=n2+1:=by omega
 obtain⟨t1,t2,t3,t4,t5⟩:=zN r2;have t2':y.a2.slen=(zCz P.q t).length:=t2;have hm6:T y.m6=0:=b.s.tn _ om1;have u1:¬y.m6=n2:=by omega
 have u2:¬y.m6=n2+1:=by omega
 have u3:¬y.m6=hid:=fun e=>by rw[e,hT]at hm6;cases hm6
 have hcd:∀hh:Heap,(still T h1).sim hh→dCdg.run hh [y.ca,y.la,ii (zDf P.q t),bv (decide (0<(zCz P.q t).length))]=some ⟨pr,zDf P.q t,decide (0<(zCz P.q t).length)⟩:=fun hh hs=>zTo (x:=⟨pr,zDf P.q t,decide (0<(zCz P.q t).length)⟩) (zJx hs hpr)
 have hdec:(decide ((0:Int)<((zCz P.q t).length:Int)))=decide (0<(zCz P.q t).length):=by simp
 have w4:¬hid=y.m5:=fun e=>by rw[←e,hT]at hm5;cases hm5
 have w5:¬hid=bid:=fun e=>by rw[e,bi.s.tb]at hT;cases hT
 have w6:¬bid=hid:=fun e=>w5 e.symm
 rw[hal]at q7;rcases gl.at with ⟨ga,g0,rfl⟩|⟨id,ver,ga,gT,gh⟩
 ·simp[evz,tlC,Tryz.f59,q4,q5,q6,q7,q8,q9,b5,b6,t1,t2',hbb,xH,ii,ss,bv,hca,hh,hc4',hb4,hb5,hk,hkn,ga,x6,x7,k1,k2,zHa]
  have V:=Mv.thr_new (n':=n2+3) (k:=17+4*k) bi.s.tn bi.s.fr hT (by omega) lh ⟨[y.ca,y.la,ii (zDf P.q t),bv (decide (0<(zCz P.q t).length))],0,true,4⟩ ⟨[y.ca,y.la,ii (zDf P.q t),bv (decide (0<(zCz P.q t).length))],0,true,4⟩ ⟨ccs.set (k*6+5) (.s (n2+1) 0 0 1),hver,true,6⟩ (by omega)
  refine⟨fun _=>zAd rfl fun t ht => ?_,zAp (by kernel_rfl),hQ _ ⟨fun i=>if i=n2+1 then 17+4*k else T i,p,bi.cmcond hk hca hT hh hcl hR V (zJ _ _ _) ?_,V0.trans V (fun _ _=>trivial) fun _ _=>trivial⟩⟩
  ·simp[wZ]at ht
   rcases ht with rfl|rfl|rfl|rfl|rfl
   ·exact⟨bid,0,_,by simp[up];rfl,by omega⟩
   ·exact⟨bid,0,_,by simp[up];rfl,by omega⟩
   ·exact⟨hid,hver,_,by simp[up];rfl,by omega⟩
   ·exact⟨y.m5,0,0,by simp[up,q5],by omega⟩
   ·exact⟨y.m6,0,1,by simp[up],by omega⟩
  ·have hne:P.comps[k].conds=[]:=zX.1 g0
   rw[hne];exact LR.app (xs:=[]) (cs:=[]) (ns:=[y.ca,y.la,ii (zDf P.q t),bv (decide (0<(zCz P.q t).length))]) (by simp) (by rfl) (if_pos rfl) (by simp only[];rw[zP _ _ (Ne.symm x6),zJ];rfl) (fun i hi=>by simp at hi) (hcd _ (V.still bi.s.fr).sim)
 ·have y1:¬id=n2:=by have:=xB gh bi.s.fr;omega
  have y2:¬id=n2+1:=by have:=xB gh bi.s.fr;omega
  have y3:¬id=hid:=fun e=>by rw[e,hT]at gT;omega
  have y4:¬hid=id:=fun e=>y3 e.symm
  have y5:¬y.m5=id:=fun e=>by rw[←e,hm5]at gT;omega
  have y7:¬y.m6=id:=fun e=>by rw[←e,hm6]at gT;omega
  have y6:¬bid=id:=fun e=>by rw[←e,bi.s.tb]at gT;omega
  have hcl2:=gl.1;simp[evz,tlC,Tryz.f59,q4,q5,q6,q7,q8,q9,b5,b6,t1,t2',hbb,xH,ii,ss,bv,hca,hh,hc4',hb4,hb5,hk,hkn,ga,gh,x6,x7,k1,k2,zHa,y1,y4,hcl2];have V1:=Mv.thr_old (n':=n2+3) (k:=17+4*k) bi.s.tn bi.s.fr hT (by omega) lh (by omega) gT (xB gh bi.s.fr) ⟨[y.ca,y.la,ii (zDf P.q t),bv (decide (0<(zCz P.q t).length))],0,true,4⟩ ⟨cs++[y.ca,y.la,ii (zDf P.q t),bv (decide (0<(zCz P.q t).length))],ver,true,4⟩ ⟨ccs.set (k*6+5) (.s id ver 0 (P.comps[k].conds.length+1)),hver,true,6⟩ (by omega)
  have V2:=Mv.thr_new (n':=n2+3) (k:=17+4*k) bi.s.tn bi.s.fr hT (by omega) lh ⟨[y.ca,y.la,ii (zDf P.q t),bv (decide (0<(zCz P.q t).length))],0,true,4⟩ ⟨cs++[y.ca,y.la,ii (zDf P.q t),bv (decide (0<(zCz P.q t).length))],0,true,4⟩ ⟨ccs.set (k*6+5) (.s (n2+1) 0 0 (P.comps[k].conds.length+1)),hver,true,6⟩ (by omega)
  refine⟨⟨by omega,by omega⟩,⟨fun _=>zAd rfl fun t ht => ?_,zAp (by kernel_rfl),hQ _ ⟨T,p,bi.cmcond hk hca hT hh hcl hR V1 (zJ _ _ _) ?_,V0.trans V1 (fun _ _=>trivial) fun _ _=>trivial⟩⟩,fun _=>zAd rfl fun t ht => ?_,zAp (by kernel_rfl),hQ _ ⟨fun i=>if i=n2+1 then 17+4*k else T i,p,bi.cmcond hk hca hT hh hcl hR V2 (zJ _ _ _) ?_,V0.trans V2 (fun _ _=>trivial) fun _ _=>trivial⟩⟩
  ·simp[wZ]at ht
   rcases ht with rfl|rfl|rfl|rfl|rfl
   ·exact⟨bid,0,_,by simp[up];rfl,by omega⟩
   ·exact⟨bid,0,_,by simp[up];rfl,by omega⟩
   ·exact⟨hid,hver,_,by simp[up];rfl,by omega⟩
   ·exact⟨y.m5,0,0,by simp[up,q5],by omega⟩
   ·exact⟨y.m6,0,1,by simp[up],by omega⟩
  ·exact LR.app (cs:=cs) (ns:=[y.ca,y.la,ii (zDf P.q t),bv (decide (0<(zCz P.q t).length))]) gl.1 (by rfl) gT (by simp only[];rw[zP _ _ y3,zJ];rfl) (fun i hi=>dCdg.mono (V1.still bi.s.fr) (gR i hi)) (hcd _ (V1.still bi.s.fr).sim)
  ·simp[wZ]at ht
   rcases ht with rfl|rfl|rfl|rfl|rfl
   ·exact⟨bid,0,_,by simp[up];rfl,by omega⟩
   ·exact⟨bid,0,_,by simp[up];rfl,by omega⟩
   ·exact⟨hid,hver,_,by simp[up];rfl,by omega⟩
   ·exact⟨y.m5,0,0,by simp[up,q5],by omega⟩
   ·exact⟨y.m6,0,1,by simp[up],by omega⟩
  ·exact LR.app (cs:=cs) (ns:=[y.ca,y.la,ii (zDf P.q t),bv (decide (0<(zCz P.q t).length))]) gl.1 (by rfl) (if_pos rfl) (by simp only[];rw[zP _ _ (Ne.symm x6),zJ];rfl) (fun i hi=>dCdg.mono (V2.still bi.s.fr) (gR i hi)) (hcd _ (V2.still bi.s.fr).sim)
end
end
section
section
variable {hB:Heap} {n1 bid mid:Nat} {T:Nat→Nat} {p:Pt} {P:Pl} {f:ByteArray→Option (Bool×Nat)}
theorem yPp {t:List Nd} {h:Heap} {n:Nat} (b:BI hB n1 bid mid T h n p P f) {y:Y59} {k:Nat} (hk:k<P.negs.length) (hl:P.negs[k].own.length≤1099511627776) (hal:zAa P.q t=true) (e:Nat→AV) (h1:Heap) (n2:Nat) (a:S59 bid P h n t y ⟨e,h1,n2⟩) (q7:e 7=bv (zAa P.q t)) {it:It} {i:Int} {w:Bool×Nat} {m12 m13:Nat} {ty:AV} (hw:w.1=true) (hw2:w.2=k) (r:R59 it i w m12 m13 ty ⟨e,h1,n2⟩) {Q}
  (hQ:∀s',(∃T' p',BI hB n1 bid mid T' s'.h s'.n p' {P with negs:=P.negs.set k {P.negs[k]with own:=P.negs[k].own++[zAk P.sc (vars P.q.items) t]} } f∧Mv (fun _=>True) T h n T' s'.h s'.n)→Q .ret s') :
  awp (cz [3] (pfL zHa)) (tlC 3 zVq) Q ⟨e,h1,n2⟩:=by
 obtain⟨bi,V0⟩:=a.bi b;have a0:=a;have hpr:=a.M.rd b.s;obtain⟨q0,q4,ag,fr,nn,⟨q5,b5,ow,o1,o2,o3,o4,o5,o6⟩,U⟩:=a;simp only[]at q0 q4 ag fr nn q5 b5 ow o2 bi V0 hpr;generalize hpp:zAk P.sc (vars P.q.items) t=pr at *;obtain⟨lb,lm,nbm⟩:=bi.low;have hbb:=bi.bb;obtain⟨ca',la',e0,k1,k2,k3,k4,k5,k6⟩:=ow.is;simp only[AV.g.injEq,List.cons.injEq,and_true]at e0;obtain⟨rfl,rfl⟩:=e0;obtain⟨hid,hver,ccs,hca,hT,hh,hcl,hR⟩:=bi.ng.row (by omega)
 obtain⟨ty,owl,cnl,hrow,e2,e3,e4⟩:=hR k hk;have hc4:=yI (c:=4) hrow rfl (by omega)
 have hb5:k*6+5≤ccs.length:=by omega
 have hb4:k*6+4<ccs.length:=by omega
 have hc4':∀hx,ccs[k*6+4]'hx=owl:=fun hx=>by rw[zA hx]at hc4;exact Option.some.inj hc4
 obtain⟨_,_,_,q13,b13⟩:=r;simp only[]at q13 b13;rw[hw,hw2]at b13;have hca2:=hca;obtain⟨cs,gl,gR⟩:=e3;have lh:=xB hh bi.s.fr;have x4:¬bid=n2+1:=by omega
 have x5:¬bid=n2:=by omega
 have x6:¬hid=n2+1:=by omega
 have x7:¬hid=n2:=by omega
 have hm5:T y.m5=0:=b.s.tn _ o1;have w1:¬bid=y.m5:=fun e=>by rw[←e,bi.s.tb]at hm5;cases hm5
 have w2:¬y.m5=n2:=by omega
 have w3:¬y.m5=n2+1:=by omega
 have w4:¬hid=y.m5:=fun e=>by rw[←e,hT]at hm5;cases hm5
 have w5:¬hid=bid:=fun e=>by rw[e,bi.s.tb]at hT;omega
 have w6:¬bid=hid:=fun e=>w5 e.symm
 rw[hal]at q7;rcases gl.at with ⟨ga,g0,rfl⟩|⟨id,ver,ga,gT,gh⟩
 ·simp[evz,zVq,zRl,inB,yW,hdC,tlC,Tryz.f59,q4,q5,q7,q13,b13,b5,hbb,xH,ii,ss,bv,hca,hh,hc4',hb4,hb5,hk,ga,x6,x7,k1,k2,zHa]
  have V:=Mv.thr_new (n':=n2+3) (k:=18+4*k) bi.s.tn bi.s.fr hT (by omega) lh ⟨[y.ca,y.la],0,true,2⟩ ⟨[y.ca,y.la],0,true,2⟩ ⟨ccs.set (k*6+4) (.s (n2+1) 0 0 1),hver,true,6⟩ (by omega)
  refine⟨fun _=>zAd rfl fun t ht => ?_,zAp (by kernel_rfl),hQ _ ⟨fun i=>if i=n2+1 then 18+4*k else T i,p,bi.ngown hk hca hT hh hcl hR V (zJ _ _ _) ?_,V0.trans V (fun _ _=>trivial) fun _ _=>trivial⟩⟩
  ·simp[wZ]at ht
   rcases ht with rfl|rfl
   ·exact⟨hid,hver,_,by simp[up];rfl,by omega⟩
   ·exact⟨y.m5,0,0,by simp[up,q5],by omega⟩
  ·have hne:P.negs[k].own=[]:=zX.1 g0
   rw[hne];exact LR.app (xs:=[]) (cs:=[]) (ns:=[y.ca,y.la]) (by simp) (by rfl) (if_pos rfl) (by simp only[];rw[zP _ _ (Ne.symm x6),zJ];rfl) (fun i hi=>by simp at hi) (dPrg.mono (V.still bi.s.fr) hpr)
 ·have y1:¬id=n2:=by have:=xB gh bi.s.fr;omega
  have y2:¬id=n2+1:=by have:=xB gh bi.s.fr;omega
  have y3:¬id=hid:=fun e=>by rw[e,hT]at gT;omega
  have y4:¬hid=id:=fun e=>y3 e.symm
  have y5:¬y.m5=id:=fun e=>by rw[←e,hm5]at gT;omega
  have y6:¬bid=id:=fun e=>by rw[←e,bi.s.tb]at gT;omega
  have hcl2:=gl.1;simp[evz,zVq,zRl,inB,yW,hdC,tlC,Tryz.f59,q4,q5,q7,q13,b13,b5,hbb,xH,ii,ss,bv,hca,hh,hc4',hb4,hb5,hk,ga,gh,x6,x7,k1,k2,zHa,y1,y4,hcl2];have V1:=Mv.thr_old (n':=n2+3) (k:=18+4*k) bi.s.tn bi.s.fr hT (by omega) lh (by omega) gT (xB gh bi.s.fr) ⟨[y.ca,y.la],0,true,2⟩ ⟨cs++[y.ca,y.la],ver,true,2⟩ ⟨ccs.set (k*6+4) (.s id ver 0 (P.negs[k].own.length+1)),hver,true,6⟩ (by omega)
  have V2:=Mv.thr_new (n':=n2+3) (k:=18+4*k) bi.s.tn bi.s.fr hT (by omega) lh ⟨[y.ca,y.la],0,true,2⟩ ⟨cs++[y.ca,y.la],0,true,2⟩ ⟨ccs.set (k*6+4) (.s (n2+1) 0 0 (P.negs[k].own.length+1)),hver,true,6⟩ (by omega)
  refine⟨⟨by omega,by omega⟩,⟨fun _=>zAd rfl fun t ht => ?_,zAp (by kernel_rfl),hQ _ ⟨T,p,bi.ngown hk hca hT hh hcl hR V1 (zJ _ _ _) ?_,V0.trans V1 (fun _ _=>trivial) fun _ _=>trivial⟩⟩,fun _=>zAd rfl fun t ht => ?_,zAp (by kernel_rfl),hQ _ ⟨fun i=>if i=n2+1 then 18+4*k else T i,p,bi.ngown hk hca hT hh hcl hR V2 (zJ _ _ _) ?_,V0.trans V2 (fun _ _=>trivial) fun _ _=>trivial⟩⟩
  ·simp[wZ]at ht
   rcases ht with rfl|rfl
   ·exact⟨hid,hver,_,by simp[up];rfl,by omega⟩
   ·exact⟨y.m5,0,0,by simp[up,q5],by omega⟩
  ·exact LR.app (cs:=cs) (ns:=[y.ca,y.la]) gl.1 (by rfl) gT (by simp only[];rw[zP _ _ y3,zJ]) (fun i hi=>dPrg.mono (V1.still bi.s.fr) (gR i hi)) (dPrg.mono (V1.still bi.s.fr) hpr)
  ·simp[wZ]at ht
   rcases ht with rfl|rfl
   ·exact⟨hid,hver,_,by simp[up];rfl,by omega⟩
   ·exact⟨y.m5,0,0,by simp[up,q5],by omega⟩
  ·exact LR.app (cs:=cs) (ns:=[y.ca,y.la]) gl.1 (by rfl) (if_pos rfl) (by simp only[];rw[zP _ _ (Ne.symm x6),zJ]) (fun i hi=>dPrg.mono (V2.still bi.s.fr) (gR i hi)) (dPrg.mono (V2.still bi.s.fr) hpr)
end
end
section
section
variable {hB:Heap} {n1 bid mid:Nat} {T:Nat→Nat} {p:Pt} {P:Pl} {f:ByteArray→Option (Bool×Nat)}
theorem yPo {t:List Nd} {h:Heap} {n:Nat} (b:BI hB n1 bid mid T h n p P f) {y:Y59} {k:Nat} (hk:k<P.negs.length) (hl:P.negs[k].rest.length≤1099511627776) (hal:zAa P.q t=false) (e:Nat→AV) (h1:Heap) (n2:Nat) (a:S59 bid P h n t y ⟨e,h1,n2⟩) (q7:e 7=bv (zAa P.q t)) {it:It} {i:Int} {w:Bool×Nat} {m12 m13:Nat} {ty:AV} (hw:w.1=true) (hw2:w.2=k) (r:R59 it i w m12 m13 ty ⟨e,h1,n2⟩) {Q}
  (hQ:∀s',(∃T' p',BI hB n1 bid mid T' s'.h s'.n p' {P with negs:=P.negs.set k {P.negs[k]with rest:=P.negs[k].rest++[zAk P.sc (vars P.q.items) t]} } f∧Mv (fun _=>True) T h n T' s'.h s'.n)→Q .ret s') :
  awp (cz [3] (pfL zHa)) (tlC 3 zVq) Q ⟨e,h1,n2⟩:=by
 obtain⟨bi,V0⟩:=a.bi b;have a0:=a;have hpr:=a.M.rd b.s;obtain⟨q0,q4,ag,fr,nn,⟨q5,b5,ow,o1,o2,o3,o4,o5,o6⟩,U⟩:=a;simp only[]at q0 q4 ag fr nn q5 b5 ow o2 bi V0 hpr;generalize hpp:zAk P.sc (vars P.q.items) t=pr at *;obtain⟨lb,lm,nbm⟩:=bi.low;have hbb:=bi.bb;obtain⟨ca',la',e0,k1,k2,k3,k4,k5,k6⟩:=ow.is;simp only[AV.g.injEq,List.cons.injEq,and_true]at e0;obtain⟨rfl,rfl⟩:=e0;obtain⟨hid,hver,ccs,hca,hT,hh,hcl,hR⟩:=bi.ng.row (by omega)
 obtain⟨ty,owl,cnl,hrow,e2,e3,e4⟩:=hR k hk;have hc4:=yI (c:=5) hrow rfl (by omega)
 have hb5:k*6+6≤ccs.length:=by omega
 have hb4:k*6+5<ccs.length:=by omega
 have hc4':∀hx,ccs[k*6+5]'hx=cnl:=fun hx=>by rw[zA hx]at hc4;exact Option.some.inj hc4
 obtain⟨_,_,_,q13,b13⟩:=r;simp only[]at q13 b13;rw[hw,hw2]at b13;have hca2:=hca;obtain⟨cs,gl,gR⟩:=e4;have lh:=xB hh bi.s.fr;have x4:¬bid=n2+1:=by omega
 have x5:¬bid=n2:=by omega
 have x6:¬hid=n2+1:=by omega
 have x7:¬hid=n2:=by omega
 have hm5:T y.m5=0:=b.s.tn _ o1;have w1:¬bid=y.m5:=fun e=>by rw[←e,bi.s.tb]at hm5;cases hm5
 have w2:¬y.m5=n2:=by omega
 have w3:¬y.m5=n2+1:=by omega
 have w4:¬hid=y.m5:=fun e=>by rw[←e,hT]at hm5;cases hm5
 have w5:¬hid=bid:=fun e=>by rw[e,bi.s.tb]at hT;omega
 have w6:¬bid=hid:=fun e=>w5 e.symm
 rw[hal]at q7;rcases gl.at with ⟨ga,g0,rfl⟩|⟨id,ver,ga,gT,gh⟩
 ·simp[evz,zVq,zRl,inB,yW,hdC,tlC,Tryz.f59,q4,q5,q7,q13,b13,b5,hbb,xH,ii,ss,bv,hca,hh,hc4',hb4,hb5,hk,ga,x6,x7,k1,k2,zHa]
  have V:=Mv.thr_new (n':=n2+3) (k:=19+4*k) bi.s.tn bi.s.fr hT (by omega) lh ⟨[y.ca,y.la],0,true,2⟩ ⟨[y.ca,y.la],0,true,2⟩ ⟨ccs.set (k*6+5) (.s (n2+1) 0 0 1),hver,true,6⟩ (by omega)
  refine⟨fun _=>zAd rfl fun t ht => ?_,zAp (by kernel_rfl),hQ _ ⟨fun i=>if i=n2+1 then 19+4*k else T i,p,bi.ngrest hk hca hT hh hcl hR V (zJ _ _ _) ?_,V0.trans V (fun _ _=>trivial) fun _ _=>trivial⟩⟩
  ·simp[wZ]at ht
   rcases ht with rfl|rfl
   ·exact⟨hid,hver,_,by simp[up];rfl,by omega⟩
   ·exact⟨y.m5,0,0,by simp[up,q5],by omega⟩
  ·have hne:P.negs[k].rest=[]:=zX.1 g0
   rw[hne];exact LR.app (xs:=[]) (cs:=[]) (ns:=[y.ca,y.la]) (by simp) (by rfl) (if_pos rfl) (by simp only[];rw[zP _ _ (Ne.symm x6),zJ];rfl) (fun i hi=>by simp at hi) (dPrg.mono (V.still bi.s.fr) hpr)
 ·have y1:¬id=n2:=by have:=xB gh bi.s.fr;omega
  have y2:¬id=n2+1:=by have:=xB gh bi.s.fr;omega
  have y3:¬id=hid:=fun e=>by rw[e,hT]at gT;omega
  have y4:¬hid=id:=fun e=>y3 e.symm
  have y5:¬y.m5=id:=fun e=>by rw[←e,hm5]at gT;omega
  have y6:¬bid=id:=fun e=>by rw[←e,bi.s.tb]at gT;omega
  have hcl2:=gl.1;simp[evz,zVq,zRl,inB,yW,hdC,tlC,Tryz.f59,q4,q5,q7,q13,b13,b5,hbb,xH,ii,ss,bv,hca,hh,hc4',hb4,hb5,hk,ga,gh,x6,x7,k1,k2,zHa,y1,y4,hcl2];have V1:=Mv.thr_old (n':=n2+3) (k:=19+4*k) bi.s.tn bi.s.fr hT (by omega) lh (by omega) gT (xB gh bi.s.fr) ⟨[y.ca,y.la],0,true,2⟩ ⟨cs++[y.ca,y.la],ver,true,2⟩ ⟨ccs.set (k*6+5) (.s id ver 0 (P.negs[k].rest.length+1)),hver,true,6⟩ (by omega)
  have V2:=Mv.thr_new (n':=n2+3) (k:=19+4*k) bi.s.tn bi.s.fr hT (by omega) lh ⟨[y.ca,y.la],0,true,2⟩ ⟨cs++[y.ca,y.la],0,true,2⟩ ⟨ccs.set (k*6+5) (.s (n2+1) 0 0 (P.negs[k].rest.length+1)),hver,true,6⟩ (by omega)
  refine⟨⟨by omega,by omega⟩,⟨fun _=>zAd rfl fun t ht => ?_,zAp (by kernel_rfl),hQ _ ⟨T,p,bi.ngrest hk hca hT hh hcl hR V1 (zJ _ _ _) ?_,V0.trans V1 (fun _ _=>trivial) fun _ _=>trivial⟩⟩,fun _=>zAd rfl fun t ht => ?_,zAp (by kernel_rfl),hQ _ ⟨fun i=>if i=n2+1 then 19+4*k else T i,p,bi.ngrest hk hca hT hh hcl hR V2 (zJ _ _ _) ?_,V0.trans V2 (fun _ _=>trivial) fun _ _=>trivial⟩⟩
  ·simp[wZ]at ht
   rcases ht with rfl|rfl
   ·exact⟨hid,hver,_,by simp[up];rfl,by omega⟩
   ·exact⟨y.m5,0,0,by simp[up,q5],by omega⟩
  ·exact LR.app (cs:=cs) (ns:=[y.ca,y.la]) gl.1 (by rfl) gT (by simp only[];rw[zP _ _ y3,zJ]) (fun i hi=>dPrg.mono (V1.still bi.s.fr) (gR i hi)) (dPrg.mono (V1.still bi.s.fr) hpr)
  ·simp[wZ]at ht
   rcases ht with rfl|rfl
   ·exact⟨hid,hver,_,by simp[up];rfl,by omega⟩
   ·exact⟨y.m5,0,0,by simp[up,q5],by omega⟩
  ·exact LR.app (cs:=cs) (ns:=[y.ca,y.la]) gl.1 (by rfl) (if_pos rfl) (by simp only[];rw[zP _ _ (Ne.symm x6),zJ]) (fun i hi=>dPrg.mono (V2.still bi.s.fr) (gR i hi)) (dPrg.mono (V2.still bi.s.fr) hpr)
end
end
end Go.Proofs.YtbffkkeieihpdaaGreatDoor
