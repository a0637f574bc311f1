import Derived.Test.YtbffkkeieihpdaaGreatDoorE34
import Derived.Test.YtbffkkeieihpdaaGreatDoorE33
import Derived.Test.YtbffkkeieihpdaaGreatDoorE28
import Derived.Test.YtbffkkeieihpdaaGreatDoorE14
import Derived.Test.YtbffkkeieihpdaaGreatDoorE15
set_option linter.unusedSimpArgs false
set_option linter.unusedVariables false
set_option linter.constructorNameAsVariable false
set_option maxRecDepth 100000
set_option maxHeartbeats 4000000
namespace Go.Proofs.YtbffkkeieihpdaaGreatDoor
open Go Go.Eng
section
structure B17 (h:Heap) (n:Nat) (q:Qu) (sa qa qb qc:AV) (hB:Heap) (n1 bid mid:Nat) (e:Nat→AV):Prop where
 q2:e 2=.p n 0 0
 q3:e 3=.p (n+1) 0 0
 q4:e 4=.p (n+2) 0 0
 q5:e 5=.p (n+3) 0 0
 q7:e 7=.p bid 0 0
 b2:hB n=some ⟨[sa],0,true,1⟩
 b3:hB (n+1)=some ⟨zA2 q qa qb qc,0,true,7⟩
 b4:hB (n+2)=some ⟨zpl,0,true,16⟩
 b5:hB (n+3)=some ⟨wT fl0,0,true,4⟩
 ag:agree n h hB
 n1:n+4≤n1
 bi:n+4≤bid
 mi:n+4≤mid
theorem B17.up {h:Heap} {n:Nat} {q:Qu} {sa qa qb qc:AV} {hB:Heap} {n1 bid mid:Nat} {e e':Nat→AV} (a:B17 h n q sa qa qb qc hB n1 bid mid e) (he:∀i∈[2,3,4,5,7],e' i=e i):B17 h n q sa qa qb qc hB n1 bid mid e' :=
 ⟨(he 2 (by simp)).trans a.q2,(he 3 (by simp)).trans a.q3,(he 4 (by simp)).trans a.q4,(he 5 (by simp)).trans a.q5,(he 7 (by simp)).trans a.q7,a.b2,a.b3,a.b4,a.b5,a.ag,a.n1,a.bi,a.mi⟩
def tg0 (n1 bid mid:Nat) (i:Nat):Nat:=if i=bid then 7 else if i=mid then 8 else if i<n1 then 9 else 0
section
variable {h:Heap} {n:Nat} {sc:List Ty} {q:Qu} {sa qa qb qc:AV}
theorem yQj (W:Wf sc q) (hwh:xQ q.wh) (hrt:∀t∈q.ret,xQ t) (e1:rd zE7 h sa=some sc) (e2:deQ h (.g (zA2 q qa qb qc))=some q) (hn:Fresh n h) (e:Nat→AV) (h1:Heap) (n2:Nat) (a:A17 h n q sa qa qb qc ⟨e,h1,n2⟩) {Q} :
  awp (cz [3] (pfL zQj)) (hdC 2 (tlC 2 (Tryz.f17.body.getD .skip))) (zAs (fun s=>∃hB n1 bid mid T p,B17 h n q sa qa qb qc hB n1 bid mid s.e∧BI hB n1 bid mid T s.h s.n p (plI sc q 0) (slF q 0)) Q) ⟨e,h1,n2⟩:=by
 obtain⟨w1,w2,w3,w4,w5⟩:=W.short;obtain⟨q2,q3,q4,q5,b2,b3,b4,b5,ag,fr,nn⟩:=a;simp only[]at q2 q3 q4 q5 b2 b3 b4 b5 ag fr nn;obtain⟨a',b',c',e0,x1,x2,x3⟩:=wH e2;cases e0;have o1:=(zN e1).2.2.2.1;have o2:=(zN x1).2.2.2.1;have o3:=(zN x2).2.2.2.1;have o4:=(zN x3).2.2.2.1;have z1:¬n=n2:=by omega
 have z2:¬n=n2+1:=by omega
 have z3:¬n+1=n2:=by omega
 have z4:¬n=n2:=by omega
 have hb3:h1 (n+1)=some ⟨[qa,.v (.int .i64 q.mode),.v (.int .i64 q.after),qb,.v (.int .i64 q.within),.v (.string q.par),qc],0,true,7⟩:=b3;refine zZ 1 _ _ (R:=fun s=>B17 h n q sa qa qb qc s.h (n2+2) (n2+1) n2 s.e∧s.h=up (up h1 n2 (some ⟨[],0,true,0⟩)) (n2+1) (some ⟨zpl++[.mv n2 0],0,true,17⟩)∧s.n=n2+2) ?_ fun e3 h3 n3 ⟨B,hh,hnn⟩ => ?_
 ·simp[evz,hdC,tlC,Tryz.f17,zpl,zJr,ii,ss,bv]
  have g:∀b1 b2:Option Blk,∀i,i<n2→up (up h1 n2 b1) (n2+1) b2 i=h1 i:=fun b1 b2 i hi=>by rw[zP _ _ (by omega),zP _ _ (by omega)]
  exact⟨by simp[up,q2],by simp[up,q3],by simp[up,q4],by simp[up,q5],by simp[up],(g _ _ _ (by omega)).trans b2,(g _ _ _ (by omega)).trans b3,(g _ _ _ (by omega)).trans b4,(g _ _ _ (by omega)).trans b5,(zD (by omega) _).2 ((zD (by omega) _).2 ag),by omega,by omega,by omega⟩
 ·simp only[]at B hh hnn
  obtain⟨q2,q3,q4,q5,q7,c2,c3,c4,c5,ag3,_,_,_⟩:=B;have fr3:Fresh n3 h3:=by rw[hnn,hh];exact (zF (by omega) _).2 ((zF (by omega) _).2 (fr.add 2))
  have g1:∀h',agree n h h'→zIp h' (.g [sa])=some sc:=fun h' ha=>yT hn e1 h' ha
  have g2:∀h',agree n h h'→deQ h' (.g [qa,.v (.int .i64 q.mode),.v (.int .i64 q.after),qb,.v (.int .i64 q.within),.v (.string q.par),qc])=some q:=fun h' ha=>zNk (yT hn x1 h' ha) (yT hn x2 h' ha) (yT hn x3 h' ha)
  have hbid:h3 (n2+1)=some ⟨zpl++[.mv n2 0],0,true,17⟩:=by rw[hh,zJ]
  have hmid:h3 n2=some ⟨[],0,true,0⟩:=by rw[hh,zP _ _ (by omega),zJ]
  have c3':h3 (n+1)=some ⟨[qa,.v (.int .i64 q.mode),.v (.int .i64 q.after),qb,.v (.int .i64 q.within),.v (.string q.par),qc],0,true,7⟩:=c3;simp[evz,hdC,tlC,Tryz.f17,q2,q3,q7,c2,c3'];refine (zDo (S:=[]) (fun _ h=>by cases h) (b55 (g1 _ ag3) (by omega) (fun t ht=>by have:=w3 t ht;omega) fr3)).mono ?_
  rintro v h4 n4 ⟨a1,a2,a3,v1⟩;obtain⟨sa',rfl,v2⟩:=zBd v1;refine⟨zFc (zI7 fr3 a1),?_⟩;have ag4:=yP ag3 a1 (by omega)
  refine (zDo (S:=[]) (fun _ h=>by cases h) (b56 (g2 _ ag4) (by have:=W.n1;omega) (by unfold xQ at hwh;omega) (by have:=W.r1;omega) (fun t ht=>by have:=w5 t ht;omega) (fun t ht=>by have:=hrt t ht;unfold xQ at this;omega) a2)).mono ?_
  rintro v h5 n5 ⟨d1,d2,d3,v3⟩;refine⟨zFc (zI7 a2 d1),?_⟩;obtain⟨qa',qb',qc',rfl,y1,y2,y3⟩:=wH v3;have s1:=zN v2;have s2:=zN y1;have s3:=zN y2;have s4:=zN y3;have hbid5:h5 (n2+1)=some ⟨zpl++[.mv n2 0],0,true,17⟩:=((d1 _ (by omega)).trans (a1 _ (by omega))).trans hbid
  simp[evz,hbid5,zpl,zJr,ii,ss,bv,s1,s2,s3,s4];refine⟨fun _=>zAd rfl fun t ht => ?_,zAp (by kernel_rfl),h3,n3,n2+1,n2,?_,tg0 n3 (n2+1) n2,⟨sa',qa',qb',qc',zJr,zJr,zJr,zJr,zJr,zJr⟩,?_⟩
  ·simp[wZ]at ht
   rcases ht with rfl|rfl
   ·exact⟨n,0,0,by simp[up,q2],by omega⟩
   ·exact⟨n+1,0,0,by simp[up,q3],by omega⟩
  ·exact⟨by simp[up,q2],by simp[up,q3],by simp[up,q4],by simp[up,q5],by simp[up,q7],c2,c3,c4,c5,ag3,by omega,by omega,by omega⟩
  ·rw[yC7]
   generalize hB2:(⟨[sa',qa',.v (.int .i64 q.mode),.v (.int .i64 q.after),qb',.v (.int .i64 q.within),.v (.string q.par),qc',.v (.slice none 0 0),.v (.slice none 0 0),.v (.slice none 0 0),.v (.slice none 0 0),.v (.slice none 0 0),.v (.slice none 0 0),.v (.bool false),.v (.bool false),.mv n2 0],0,true,17⟩:Blk)=B2;have hk:∀i,i≠n2+1→up h5 (n2+1) (some B2) i=h5 i:=fun i hi=>zP _ _ hi
   have ht:∀i,n3≤i→tg0 n3 (n2+1) n2 i=0:=fun i hi=>by simp only[tg0];rw[if_neg (by omega),if_neg (by omega),if_neg (by omega)]
   have hst:∀hi,(wtn n3 hi (up h5 (n2+1) (some B2))).le (still (tg0 n3 (n2+1) n2) (up h5 (n2+1) (some B2))):=fun hi=>zKc fun i h1 h2=>ht i h1
   refine⟨⟨?_,?_,if_pos rfl,by simp[tg0],by omega,by omega,fun i h1 h2 h3=>by simp only[tg0];rw[if_neg h2,if_neg h3,if_pos h1],fun i h1 h2 h3 => ?_,by omega,?_,fun i hi=>ht i (by omega)⟩,?_,⟨[],?_,yB4⟩,LR.nil _ _ _ _ _,LR.nil _ _ _ _ _,LR.nil _ _ _ _ _,LR.nil _ _ _ _ _,LR.nil _ _ _ _ _,LR.nil _ _ _ _ _⟩
   ·exact yZ (hst n4) (zC8 v2 (zC _) (zC _) fun i h1 h2=>(hk i (by omega)).trans (d1 i h2))
   ·refine zF9 (q:=q) ?_ ?_ ?_
    ·exact yZ (hst n5) (zC8 y1 (by omega) (zC _) fun i h1 h2=>hk i (by omega))
    ·exact yZ (hst n5) (zC8 y2 (by omega) (zC _) fun i h1 h2=>hk i (by omega))
    ·exact yZ (hst n5) (zC8 y3 (by omega) (zC _) fun i h1 h2=>hk i (by omega))
   ·rw[hk i h2,d1 i (by omega),a1 i h1]
   ·exact (zF (by omega) _).2 (d2.add 2)
   ·rw[zJ,←hB2];rfl
   ·rw[hk _ (by omega),d1 _ (by omega),a1 _ (by omega)];exact hmid
end
end
section
theorem BI.low2 {hB:Heap} {n1 bid mid:Nat} {T:Nat→Nat} {h0:Heap} {n0:Nat} {h:Heap} {n:Nat} {q:Qu} {sa qa qb qc:AV} {p:Pt} {P:Pl} {f:ByteArray→Option (Bool×Nat)} {e:Nat→AV} (b:BI hB n1 bid mid T h n p P f) (a:B17 h0 n0 q sa qa qb qc hB n1 bid mid e):(∀i,i<n0+4→h i=hB i)∧agree n0 h0 h:=by
 have k:∀i,i<n0+4→h i=hB i:=fun i hi=>b.s.kp i (by have:=a.n1;omega) (by have:=a.bi;omega) (by have:=a.mi;omega)
 exact⟨k,fun i hi=>(k i (by omega)).trans (a.ag i hi)⟩
noncomputable def yKa:Code:=yW (hdC 1 (tlC 6 (Tryz.f17.body.getD .skip)))
structure C17 (h:Heap) (n:Nat) (sc:List Ty) (q:Qu) (sa qa qb qc:AV) (hB:Heap) (n1 bid mid:Nat) (T:Nat→Nat) (p:Pt) (j:Nat) (z:AV) (s:St):Prop where
 b:B17 h n q sa qa qb qc hB n1 bid mid s.e
 q41:s.e 41=z
 z41:rd dIs (still T s.h) z=some ((zAj q.wh).map fun x:Nat=>(x:Int))
 q42:s.e 42=ii (zAj q.wh).length
 q43:s.e 43=ii j
 bi:BI hB n1 bid mid T s.h s.n p (plC sc q ((zAl q).take j)) (slF q q.items.length)
section
variable {h:Heap} {n:Nat} {sc:List Ty} {q:Qu} {sa qa qb qc:AV} {hB:Heap} {n1 bid mid:Nat}
theorem yQi (W:Wf sc q) (e:Nat→AV) (h1:Heap) (n2:Nat) (a:B17 h n q sa qa qb qc hB n1 bid mid e) {T:Nat→Nat} {p:Pt} (b:BI hB n1 bid mid T h1 n2 p (plI sc q 0) (slF q 0)) {Q} :
  awp (cz [3] (pfL zQj)) (hdC 2 (tlC 4 (Tryz.f17.body.getD .skip))) (zAs (fun s=>B17 h n q sa qa qb qc hB n1 bid mid s.e∧∃T p,BI hB n1 bid mid T s.h s.n p (plT sc q sc.length) (slF q q.items.length)) Q) ⟨e,h1,n2⟩:=by
 obtain⟨w1,w2,w3,w4,w5⟩:=W.short;have w6:=W.n1;have q7:=a.q7;simp[evz,hdC,tlC,Tryz.f17,q7];refine (zDo (S:=[]) (fun _ h=>by cases h) (b57 (by unfold big;omega) w4 (by omega) (fun t ht=>by have:=w5 t ht;omega) b)).mono ?_
 rintro v h2 n3 ⟨T2,p2,b2⟩;refine (zDo (S:=[]) (fun _ h=>by cases h) (b58 ⟨by unfold big;omega,fun t ht=>by have:=w3 t ht;unfold big;omega⟩ (by omega) ⟨by unfold big;omega,fun t ht=>by have:=w5 t ht;unfold big;omega⟩ b2)).mono ?_
 rintro v h3 n4 ⟨T3,p3,b3⟩;exact⟨a.up (by simp[up]),T3,p3,b3⟩
theorem yQh (hwh:xQ q.wh) (e3:rd dNs h qb=some q.wh) (hn:Fresh n h) (e:Nat→AV) (h1:Heap) (n2:Nat) (a:B17 h n q sa qa qb qc hB n1 bid mid e) {T:Nat→Nat} {p:Pt} (b:BI hB n1 bid mid T h1 n2 p (plT sc q sc.length) (slF q q.items.length)) {Q} :
  awp (cz [3] (pfL zQj)) (hdC 1 (hdC 1 (tlC 6 (Tryz.f17.body.getD .skip)))) (zAs (fun s=>∃T p z,C17 h n sc q sa qa qb qc hB n1 bid mid T p 0 z s) Q) ⟨e,h1,n2⟩:=by
 obtain⟨lo,ag⟩:=b.low2 a;have q3:=a.q3;have hb3:h1 (n+1)=some ⟨[qa,.v (.int .i64 q.mode),.v (.int .i64 q.after),qb,.v (.int .i64 q.within),.v (.string q.par),qc],0,true,7⟩:=(lo _ (by omega)).trans a.b3
 obtain⟨t1,t2,t3,t4,t5⟩:=zN e3;simp[evz,hdC,tlC,Tryz.f17,q3,hb3];refine (zDo (S:=[3]) (fun _ h=>h) (c35 (yT hn e3 _ ag) hwh b.s.fr)).mono ?_
 rintro z h2 n3 ⟨a1,a2,a3,a4⟩;obtain⟨s1,s2,s3,s4,s5⟩:=zN a4;rw[zQ]at s2;simp[s1,s2];have V:Mv (fun _=>False) T h1 n2 T h2 n3:=Mv.of_agree b.s.tn a3 a1 a2
 refine⟨T,p,z,⟨a.up (by simp[up]),by simp[up],yZ (zKc fun i h1 h2=>b.s.tn i h1) a4,by simp[up,ii],by simp[up,ii],?_⟩⟩
 rw[List.take_zero,yFu];exact b.mv V
end
end
section
theorem B17.e7 {h:Heap} {n:Nat} {q:Qu} {sa qa qb qc:AV} {hB:Heap} {n1 bid mid:Nat} {e:Nat→AV} (a:B17 h n q sa qa qb qc hB n1 bid mid e):e 7=.p bid 0 0:=a.q7
section
variable {h:Heap} {n:Nat} {sc:List Ty} {q:Qu} {sa qa qb qc:AV} {hB:Heap} {n1 bid mid:Nat}
theorem yQg (W:Wf sc q) (hwh:xQ q.wh) (e3:rd dNs h qb=some q.wh) (hn:Fresh n h) {T:Nat→Nat} {p:Pt} {j:Nat} {z:AV} (hj:j<(zAj q.wh).length) (e:Nat→AV) (h1:Heap) (n2:Nat) (a:C17 h n sc q sa qa qb qc hB n1 bid mid T p j z ⟨e,h1,n2⟩) {Q}
  (hQ:∀s',(∃T' p',C17 h n sc q sa qa qb qc hB n1 bid mid T' p' (j+1) z s')→Q .normal s') :
  awp (cz [3] (pfL zQj)) yKa Q ⟨e,h1,n2⟩:=by
 obtain⟨w1,w2,w3,w4,w5⟩:=W.short;obtain⟨B,q41,z41,q42,q43,bi⟩:=a;simp only[]at B q41 z41 q42 q43 bi;obtain⟨lo,ag⟩:=bi.low2 B;have q3:=B.q3;have q7:=B.q7;have hb3:h1 (n+1)=some ⟨[qa,.v (.int .i64 q.mode),.v (.int .i64 q.after),qb,.v (.int .i64 q.within),.v (.string q.par),qc],0,true,7⟩:=(lo _ (by omega)).trans B.b3
 have fr:=bi.s.fr;obtain⟨hi1,hi2⟩:=zHn (zH hj);have hcj:(zAl q).take (j+1)=(zAl q).take j++[zA6 q.wh (zAj q.wh)[j]]:=by
  have hjc:j<(zAl q).length:=by rw[zC1,zQ];exact hj
  rw[yY hjc];congr 2;simp only[zC1,wN]
 have hsub:=zOp hi1 hi2 hwh;have hrl:=zOy hwh;have hll:((zAl q).take j).length≤1099511627776:=by rw[zW];omega
 rcases zYh z41 with ⟨h0,_⟩|⟨id,off,k,rfl,hk,ho,hat⟩
 ·rw[List.map_eq_nil_iff]at h0;rw[h0]at hj;simp at hj
 rw[zQ]at ho;have hr:=hat j (by rw[zQ];exact hj)
 simp only[wN]at hr;have hk':h1 id=some k:=zA8 _ _ _ _ hk;have hw1:off+(j+1)≤k.cells.length:=by omega
 have hw2:off+j<k.cells.length:=by omega
 have hr':∀hx,k.cells[off+j]'hx=ii (zAj q.wh)[j]:=fun hx=>by rw[zA hx]at hr;exact Option.some.inj hr
 have hw:=yK (j:=j) (by unfold big;omega)
 rw[zQ]at q41;generalize hrr:(zAj q.wh)[j]=r at *;simp[evz,yKa,yW,hdC,tlC,Tryz.f17,q3,q7,q41,q42,q43,hb3,hk',hr',hw1,hw2,hj,ii];refine (zDo (S:=[3]) (fun _ h=>h) (c52 (yT hn e3 _ ag) hi1 hwh hi2 fr)).mono ?_
 rintro v h2 n3 ⟨a1,a2,a3,w,rfl,a4,a5,a6⟩;have V:Mv (fun _=>False) T h1 n2 T h2 n3:=Mv.of_agree bi.s.tn a3 a1 a2
 have et:rd dNs (still T h2) (.s w 0 0 (zA6 q.wh r).length)=some (zA6 q.wh r):=zB2 Flat.nd (l:=zA6 q.wh r) (by rw[zJi (bi.s.tn w a5)];exact a4) rfl (r:=[]) (by rw[List.append_nil])
 have hx:∀i,i<q.items.length→wY (vars q.items) (itA q i).var=i:=fun i hi=>W.ix hi
 refine (zJ2 (S:=[3]) (fun _ h=>h) (b59 hx W.n1 hll hsub (by omega) ⟨by unfold big;omega,fun t ht=>by have:=w3 t ht;unfold big;omega⟩ (bi.mv V) et)).mono ?_
 rintro v h3 n4 ⟨T',p',b',V'⟩;rw[←hcj]at b';simp[hw];refine hQ _ ⟨T',p',B.up (by simp[up]),by simp only[zQ];simp[up,q41],yZ (Heap.le_trans (V.still fr) (V'.still a2)) z41,by simp[up,q42],by simp[up,ii],b'⟩
end
end
section
noncomputable def yJ9:Code:=yW (hdC 1 (tlC 7 (Tryz.f17.body.getD .skip)))
def plR (sc:List Ty) (q:Qu) (j:Nat):Pl:={plC sc q (zAl q)with ret:=(q.ret.take j).map (zAk sc (vars q.items))}
structure D17 (h:Heap) (n:Nat) (sc:List Ty) (q:Qu) (sa qa qb qc:AV) (hB:Heap) (n1 bid mid:Nat) (T:Nat→Nat) (p:Pt) (j:Nat) (s:St):Prop where
 b:B17 h n q sa qa qb qc hB n1 bid mid s.e
 q55:s.e 55=qc
 q56:s.e 56=ii q.ret.length
 q57:s.e 57=ii j
 bi:BI hB n1 bid mid T s.h s.n p (plR sc q j) (slF q q.items.length)
section
variable {h:Heap} {n:Nat} {sc:List Ty} {q:Qu} {sa qa qb qc:AV} {hB:Heap} {n1 bid mid:Nat}
theorem yQf (W:Wf sc q) (hrt:∀t∈q.ret,xQ t) (e1:rd zE7 h sa=some sc) (e2:deQ h (.g (zA2 q qa qb qc))=some q) (hn:Fresh n h) {T:Nat→Nat} {p:Pt} {j:Nat} (hj:j<q.ret.length) (e:Nat→AV) (h1:Heap) (n2:Nat) (a:D17 h n sc q sa qa qb qc hB n1 bid mid T p j ⟨e,h1,n2⟩) {Q}
  (hQ:∀s',(∃T' p',D17 h n sc q sa qa qb qc hB n1 bid mid T' p' (j+1) s')→Q .normal s') :
  awp (cz [3] (pfL zQj)) yJ9 Q ⟨e,h1,n2⟩:=by
 obtain⟨w1,w2,w3,w4,w5⟩:=W.short;have w6:=W.r1;obtain⟨B,q55,q56,q57,bi⟩:=a;simp only[]at B q55 q56 q57 bi;obtain⟨lo,ag⟩:=bi.low2 B;obtain⟨lb,lm,nbm⟩:=bi.low;obtain⟨a',b',c',e0,x1,x2,x3⟩:=wH e2;cases e0;have o1:=(zN e1).2.2.2.1;have o2:=(zN x1).2.2.2.1;have o3:=(zN x2).2.2.2.1;have o4:=(zN x3).2.2.2.1;have q2:=B.q2;have q3:=B.q3;have q7:=B.q7;have fr:=bi.s.fr;have hbb:=bi.bb;have hb2:h1 n=some ⟨[sa],0,true,1⟩:=(lo _ (by omega)).trans B.b2
 have hb3:h1 (n+1)=some ⟨[qa,.v (.int .i64 q.mode),.v (.int .i64 q.after),qb,.v (.int .i64 q.within),.v (.string q.par),qc],0,true,7⟩:=(lo _ (by omega)).trans B.b3
 obtain⟨id,off,k,c',rfl,hk,ho,hc',hcr⟩:=zHj x3 hj;have hk':h1 id=some k:=(ag id (xB hk hn)).trans hk;have hw1:off+(j+1)≤k.cells.length:=by omega
 have hw:=yK (j:=j) (by unfold big;omega)
 have htm:q.ret.getD j []∈q.ret:=by rw[zB,zA hj];exact zH hj
 have hsm:=hrt _ htm;have hpl:plR sc q (j+1)={plR sc q j with ret:=(plR sc q j).ret++[zAk sc (vars q.items) (q.ret.getD j [])]}:=by
  simp only[plR];rw[yY hj,yE,zB,zA hj];rfl
 generalize q.ret.getD j []=t at *;have k60:∀(h2:Heap) (n3:Nat),agree n2 h1 h2→Fresh n3 h2→n2≤n3→ACall (cz [3] (pfL zQj)) 60 [.g [sa],.g [qa,.v (.int .i64 q.mode),.v (.int .i64 q.after),qb,.v (.int .i64 q.within),.v (.string q.par),.s id k.ver off q.ret.length],c'] h2 n3 fun z h' n'=>agree n3 h2 h'∧Fresh n' h'∧n3≤n'∧OwnQ h' n3 n' z (zAk sc (vars q.items) t):=fun h2 n3 a1 a2 a3 =>
  have ag2:=yP ag a1 (by have:=B.n1;have:=bi.s.nn;omega)
  zDo (fun _ h=>h) (c20 (yT hn e1 _ ag2) (zNk (yT hn x1 _ ag2) (yT hn x2 _ ag2) (yT hn x3 _ ag2)) (yT hn hcr _ ag2) (by have:=W.n1;unfold big;omega) hsm (by omega) ⟨by unfold big;omega,fun t ht=>by have:=w3 t ht;unfold big;omega⟩ a2)
 generalize hpp:zAk sc (vars q.items) t=pr at *;simp[evz,yJ9,yW,hdC,tlC,Tryz.f17,zQj,q2,q3,q7,q55,q56,q57,hb2,hb3,hbb,xH,hk',hc',hw1,hj,ii,ss];refine (k60 _ _ (zE _ _) fr (zC _)).mono ?_;rintro v h2 n3 ⟨a1,a2,a3,ow⟩;refine⟨zFc (zI7 fr a1),?_⟩;have V0:Mv (fun _=>False) T h1 n2 T h2 n3:=Mv.of_agree bi.s.tn a3 a1 a2
 have bi2:=bi.mv V0;have hpr:zLr (still T h2) v=some pr:=(ow.up (h':=still T h2) (fun i h1 h2=>zJi (bi.s.tn i h1)) (zC _) (zC _)).rd
 obtain⟨ca,la,rfl,k1,k2,k3,k4,k5,k6⟩:=ow.is;have hbb2:=bi2.bb;obtain⟨cs,gl,gR⟩:=bi2.rt;have nb1:=B.bi;have x4:¬bid=n3+1:=by omega
 have x5:¬bid=n3:=by omega
 have hrl:(plR sc q j).ret.length=j:=by simp[plR];omega
 have fin:∀(e':Nat→AV) (h':Heap) (n':Nat) T' p',(∀i∈[2,3,4,5,7,55,56],e' i=e i)→e' 57=ii (j+1:Nat)→BI hB n1 bid mid T' h' n' p' (plR sc q (j+1)) (slF q q.items.length)→Q .normal ⟨e',h',n'⟩:=fun e' h' n' T' p' he k57 b' =>
  hQ _ ⟨T',p',B.up (fun i hi=>he i (by simp at hi ⊢;omega)),(he 55 (by simp)).trans q55,(he 56 (by simp)).trans q56,k57,b'⟩
 rw[hpl]at fin;rcases gl.at with ⟨ga,g0,rfl⟩|⟨rid,ver,ga,gT,gh⟩
 ·simp[evz,ga,hbb2,xH,ii,ss,bv,x4,x5,k1,k2,hw]
  have V:=Mv.three_nil (n':=n3+3) bi2.s (k:=6) (by omega) ⟨[ca,la],0,true,2⟩ ⟨[ca,la],0,true,2⟩ ⟨xH {p with ra:=.s (n3+1) 0 0 1} (plR sc q j) mid,0,true,17⟩ (by omega)
  refine⟨fun _=>zAd rfl fun t ht => ?_,zAp (by kernel_rfl),fin _ _ _ _ _ (by simp[up]) (by simp[up,ii]) (bi2.rtapp V (.s (n3+1) 0 0 1) _ (zJ _ _ _) ?_)⟩
  ·simp[wZ]at ht
   rcases ht with rfl|rfl|rfl
   ·exact⟨bid,0,_,by simp[up];rfl,by omega⟩
   ·exact⟨n,0,0,by simp[up,q2],by omega⟩
   ·exact⟨n+1,0,0,by simp[up,q3],by omega⟩
  ·have hne:(plR sc q j).ret=[]:=zX.1 g0
   rw[hne];exact LR.app (xs:=[]) (cs:=[]) (ns:=[ca,la]) (by simp) (by rfl) (if_pos rfl) (by rw[zP _ _ (Ne.symm x4),zJ];rfl) (fun i hi=>by simp at hi) (dPrg.mono (V.still bi2.s.fr) hpr)
 ·have y1:¬rid=n3:=by have:=xB gh bi2.s.fr;omega
  have y3:¬rid=bid:=fun e=>by rw[e,bi2.s.tb]at gT;cases gT
  have y4:¬bid=rid:=fun e=>y3 e.symm
  have y5:¬n=rid:=fun e=>by rw[←e,bi.s.low n (by have:=B.n1;omega) (by omega) (by have:=B.mi;omega)]at gT;cases gT
  have y6:¬n+1=rid:=fun e=>by rw[←e,bi.s.low (n+1) (by have:=B.n1;omega) (by omega) (by have:=B.mi;omega)]at gT;cases gT
  have hcl:=gl.1;rw[hrl]at ga hcl;simp[evz,ga,gh,hbb2,xH,ii,ss,bv,x4,x5,k1,k2,hw,y1,y4,hcl];have V1:=Mv.three (n':=n3+3) bi2.s (k:=6) (by omega) gT (xB gh bi2.s.fr) ⟨[ca,la],0,true,2⟩ ⟨cs++[ca,la],ver,true,2⟩ ⟨xH {p with ra:=.s rid ver 0 (j+1)} (plR sc q j) mid,0,true,17⟩ (by omega)
  have V2:=Mv.three_nil (n':=n3+3) bi2.s (k:=6) (by omega) ⟨[ca,la],0,true,2⟩ ⟨cs++[ca,la],0,true,2⟩ ⟨xH {p with ra:=.s (n3+1) 0 0 (j+1)} (plR sc q j) mid,0,true,17⟩ (by omega)
  refine⟨⟨by omega,by omega⟩,⟨fun _=>zAd rfl fun t ht => ?_,zAp (by kernel_rfl),fin _ _ _ _ _ (by simp[up]) (by simp[up,ii]) (bi2.rtapp V1 (.s rid ver 0 (j+1)) _ (zJ _ _ _) ?_)⟩,fun _=>zAd rfl fun t ht => ?_,zAp (by kernel_rfl),fin _ _ _ _ _ (by simp[up]) (by simp[up,ii]) (bi2.rtapp V2 (.s (n3+1) 0 0 (j+1)) _ (zJ _ _ _) ?_)⟩
  ·simp[wZ]at ht
   rcases ht with rfl|rfl|rfl
   ·exact⟨bid,0,_,by simp[up];rfl,by omega⟩
   ·exact⟨n,0,0,by simp[up,q2],by omega⟩
   ·exact⟨n+1,0,0,by simp[up,q3],by omega⟩
  ·have:=LR.app (T':=T) (k:=6) (h':=up (up (up h2 n3 (some ⟨[ca,la],0,true,2⟩)) rid (some ⟨cs++[ca,la],ver,true,2⟩)) bid (some ⟨xH {p with ra:=.s rid ver 0 (j+1)} (plR sc q j) mid,0,true,17⟩)) (R':=fun _ l x=>dPrg.run (still T (up (up (up h2 n3 (some ⟨[ca,la],0,true,2⟩)) rid (some ⟨cs++[ca,la],ver,true,2⟩)) bid (some ⟨xH {p with ra:=.s rid ver 0 (j+1)} (plR sc q j) mid,0,true,17⟩))) l=some x) (x:=pr) (cs:=cs) (ns:=[ca,la]) gl.1 (by rfl) gT (by rw[zP _ _ y3,zJ]) (fun i hi=>dPrg.mono (V1.still bi2.s.fr) (gR i hi)) (dPrg.mono (V1.still bi2.s.fr) hpr)
   rw[hrl]at this
   exact this
  ·simp[wZ]at ht
   rcases ht with rfl|rfl|rfl
   ·exact⟨bid,0,_,by simp[up];rfl,by omega⟩
   ·exact⟨n,0,0,by simp[up,q2],by omega⟩
   ·exact⟨n+1,0,0,by simp[up,q3],by omega⟩
  ·have:=LR.app (T':=fun i=>if i=n3+1 then 6 else T i) (k:=6) (h':=up (up (up h2 n3 (some ⟨[ca,la],0,true,2⟩)) (n3+1) (some ⟨cs++[ca,la],0,true,2⟩)) bid (some ⟨xH {p with ra:=.s (n3+1) 0 0 (j+1)} (plR sc q j) mid,0,true,17⟩)) (R':=fun _ l x=>dPrg.run (still (fun i=>if i=n3+1 then 6 else T i) (up (up (up h2 n3 (some ⟨[ca,la],0,true,2⟩)) (n3+1) (some ⟨cs++[ca,la],0,true,2⟩)) bid (some ⟨xH {p with ra:=.s (n3+1) 0 0 (j+1)} (plR sc q j) mid,0,true,17⟩))) l=some x) (x:=pr) (cs:=cs) (ns:=[ca,la]) gl.1 (by rfl) (if_pos rfl) (by rw[zP _ _ (Ne.symm x4),zJ]) (fun i hi=>dPrg.mono (V2.still bi2.s.fr) (gR i hi)) (dPrg.mono (V2.still bi2.s.fr) hpr)
   rw[hrl]at this
   exact this
end
end
section
section
variable {h:Heap} {n:Nat} {sc:List Ty} {q:Qu} {sa qa qb qc:AV} {hB:Heap} {n1 bid mid:Nat}
theorem zZc (q:Qu):(zAl q).length=(zAj q.wh).length:=by rw[zC1,zQ]
theorem yQe (W:Wf sc q) (hwh:xQ q.wh) (e3:rd dNs h qb=some q.wh) (hn:Fresh n h) {T:Nat→Nat} {p:Pt} {z:AV} (e:Nat→AV) (h1:Heap) (n2:Nat) (a:C17 h n sc q sa qa qb qc hB n1 bid mid T p 0 z ⟨e,h1,n2⟩) {Q:Ex→St→Prop}
  (hQ:∀s',(∃T' p',C17 h n sc q sa qa qb qc hB n1 bid mid T' p' (zAj q.wh).length z s')→Q (.exit 0) s') :
  awp (cz [3] (pfL zQj)) (.loop yKa) Q ⟨e,h1,n2⟩:=by
 refine yN (fun s=>∃j T p,j≤(zAj q.wh).length∧C17 h n sc q sa qa qb qc hB n1 bid mid T p j z s) (fun s=>(zAj q.wh).length-(s.e 43).i.toNat) ⟨0,T,p,zDg _,a⟩ ?_
 rintro e' h' n' ⟨j,T',p',hj,J⟩;by_cases hlt:j<(zAj q.wh).length
 ·have k1:=J.q43
  simp only[]at k1;refine yQg W hwh e3 hn hlt _ _ _ J fun s' ⟨T'',p'',J'⟩ => ?_
  rw[zAw];refine⟨⟨j+1,T'',p'',hlt,J'⟩,?_⟩;show (zAj q.wh).length-(s'.e 43).i.toNat<(zAj q.wh).length-(e' 43).i.toNat;rw[k1,J'.q43];simp[ii,AV.i];omega
 ·obtain rfl:j=(zAj q.wh).length:=by omega
  have q42:=J.q42;have q43:=J.q43;simp only[]at q42 q43;obtain⟨B,r41,r41',r42,r43,bi⟩:=J;simp[evz,hdC,tlC,yKa,yW,Tryz.f17,q42,q43,ii];exact hQ _ ⟨T',p',B.up (by simp[up]),by simpa[up]using r41,r41',by simpa[up]using r42,by simpa[up]using r43,bi⟩
theorem yQd (W:Wf sc q) (hrt:∀t∈q.ret,xQ t) (e1:rd zE7 h sa=some sc) (e2:deQ h (.g (zA2 q qa qb qc))=some q) (hn:Fresh n h) {T:Nat→Nat} {p:Pt} (e:Nat→AV) (h1:Heap) (n2:Nat) (a:D17 h n sc q sa qa qb qc hB n1 bid mid T p 0 ⟨e,h1,n2⟩) {Q:Ex→St→Prop}
  (hQ:∀s',(∃T' p',D17 h n sc q sa qa qb qc hB n1 bid mid T' p' q.ret.length s')→Q (.exit 2) s') :
  awp (cz [3] (pfL zQj)) (.loop yJ9) Q ⟨e,h1,n2⟩:=by
 refine yN (fun s=>∃j T p,j≤q.ret.length∧D17 h n sc q sa qa qb qc hB n1 bid mid T p j s) (fun s=>q.ret.length-(s.e 57).i.toNat) ⟨0,T,p,zDg _,a⟩ ?_
 rintro e' h' n' ⟨j,T',p',hj,J⟩;by_cases hlt:j<q.ret.length
 ·have k1:=J.q57
  simp only[]at k1;refine yQf W hrt e1 e2 hn hlt _ _ _ J fun s' ⟨T'',p'',J'⟩ => ?_
  rw[zAw];refine⟨⟨j+1,T'',p'',hlt,J'⟩,?_⟩;show q.ret.length-(s'.e 57).i.toNat<q.ret.length-(e' 57).i.toNat;rw[k1,J'.q57];simp[ii,AV.i];omega
 ·obtain rfl:j=q.ret.length:=by omega
  have q56:=J.q56;have q57:=J.q57;simp only[]at q56 q57;obtain⟨B,r1,r2,r3,bi⟩:=J;simp[evz,hdC,tlC,yJ9,yW,Tryz.f17,q56,q57,ii];exact hQ _ ⟨T',p',B.up (by simp[up]),by simpa[up]using r1,by simpa[up]using r2,by simpa[up]using r3,bi⟩
theorem yQc (hc:chk sc q=fl0) (e:Nat→AV) (h1:Heap) (n2:Nat) {T:Nat→Nat} {p:Pt} (a:D17 h n sc q sa qa qb qc hB n1 bid mid T p q.ret.length ⟨e,h1,n2⟩) :
  awp (cz [3] (pfL zQj)) (tlC 8 (Tryz.f17.body.getD .skip)) (zBc (cz [3] (pfL zQj)) Tryz.f17 (Q17 h n sc q)) ⟨e,h1,n2⟩:=by
 obtain⟨B,_,_,_,bi⟩:=a;simp only[]at B bi;obtain⟨lo,ag⟩:=bi.low2 B;obtain⟨lb,lm,nbm⟩:=bi.low;have q4:=B.q4;have q5:=B.q5;have q7:=B.q7;have nb1:=B.bi;have nb2:=B.mi;have nb3:=B.n1;have nb4:=bi.s.nn;have hb4:=(lo _ (by omega)).trans B.b4
 have hb5:=(lo _ (by omega)).trans B.b5
 have hbb:=bi.bb;have hP:plR sc q q.ret.length=xY sc q:=by simp only[plR,wW];rfl
 rw[hP]at hbb bi;have z1:¬bid=n+2:=by omega
 have z2:¬bid=n+3:=by omega
 obtain⟨a',b',c',e0,x1,x2,x3⟩:=wH bi.s.qu;cases e0;have s1:=zN bi.s.sch;have s2:=zN x1;have s3:=zN x2;have s4:=zN x3;have s5:=bi.cm.isS;have s6:=bi.ng.isS;have s7:=bi.fx.isS;have s8:=bi.us.isS;have s9:=bi.cl.isS;have s10:=bi.rt.isS;have t2:T (n+2)=9:=bi.s.low _ (by omega) (by omega) (by omega)
 have t3:T (n+3)=9:=bi.s.low _ (by omega) (by omega) (by omega)
 simp[evz,tlC,Tryz.f17,q4,q5,q7,hb4,hb5,hbb,xH,zpl,zJr,wT,fl0,ii,ss,bv,s1,s2,s3,s4,s5,s6,s7,s8,s9,s10,zX6];refine⟨(zD (by omega) _).2 ((zD (by omega) _).2 ag),(zF (by omega) _).2 ((zF (by omega) _).2 (bi.s.fr.add 2)),by omega,.inr ⟨by rw[hc];rfl,p,by simp[xR,ff,wT,fl0,ii,ss,bv],bi.plr fun id hid => ?_⟩⟩
 rw[zP _ _ (fun e=>hid (by rw[e];exact t3)),zP _ _ (fun e=>hid (by rw[e];exact t2))]
theorem c17 (e1:rd zE7 h sa=some sc) (e2:deQ h (.g (zA2 q qa qb qc))=some q) (hok:yF1 (sc,q)) (hn:Fresh n h) :
  ACall (cz [3] (pfL zQj)) 17 [.g [sa],.g (zA2 q qa qb qc)] h n (Q17 h n sc q):=by
 refine yR (args:=[.g [sa],.g (zA2 q qa qb qc)]) (zSi (zS P54 yJ)) (zM8 _ _) Tryz.func17 (c:=Tryz.f17.body.getD .skip) rfl (by kernel_rfl) (xK Tryz.func17 rfl rfl [] (pfL [])) (show 2≤Tryz.f17.ntmps by decide +kernel) ?_
 obtain⟨a',b',c',e0,x1,x2,x3⟩:=wH e2;cases e0;have hwh:=hok.2.wh;have hrt:∀t∈q.ret,xQ t:=fun t ht=>by
  obtain⟨i,hi,rfl⟩:=xF.1 ht;have:=hok.2.rt i hi
  rwa [zB,zA hi]at this
 refine zZ 2 _ _ (yQk e1 e2 hok hn (env0 [.g [sa],.g (zA2 q qa qb qc)]) rfl rfl) fun e3 h3 n3 ⟨A,hc⟩ => ?_
 obtain⟨hc0,W⟩:=zZ2 hc;refine zZ 2 _ _ (yQj W hwh hrt e1 e2 hn e3 h3 n3 A) fun e4 h4 n4 ⟨hB,n1,bid,mid,T,p,B,bi⟩ => ?_
 refine zZ 2 _ _ (yQi W e4 h4 n4 B bi) fun e5 h5 n5 ⟨B5,T5,p5,bi5⟩ => ?_
 refine zZ 1 _ _ (R:=fun s=>∃T p,B17 h n q sa qa qb qc hB n1 bid mid s.e∧BI hB n1 bid mid T s.h s.n p (plR sc q 0) (slF q q.items.length)) ?_ fun e6 h6 n6 ⟨T6,p6,B6,bi6⟩ => ?_
 ·show awp _ (.seq (hdC 1 (hdC 1 (tlC 6 (Tryz.f17.body.getD .skip)))) (.block 0 (.loop yKa))) _ _
  rw[zDn];refine zBk _ (fun x s hxx => ?_) (yQh (Q:=fun _ _=>False) hwh x2 hn e5 h5 n5 B5 bi5)
  cases x with
  | normal =>
   obtain⟨e7,h7,n7⟩:=s;rw[zAw]at hxx;obtain⟨T7,p7,z7,C7⟩:=hxx;rw[zAw,zAy];refine yQe W hwh x2 hn e7 h7 n7 C7 fun s' ⟨T8,p8,C8⟩ => ?_
   rw[zFh,if_pos rfl,zAw];refine⟨T8,p8,C8.b,?_⟩;have:=C8.bi;rw[←zZc,wW]at this
   exact this
  | exit i=>exact (by simp[zIb]at hxx:False).elim
  | ret=>exact (by simp[zFw]at hxx:False).elim
 ·simp only[]at B6 bi6
  refine zZ 1 _ _ (R:=fun s=>∃T p,D17 h n sc q sa qa qb qc hB n1 bid mid T p q.ret.length s) ?_ fun e8 h8 n8 ⟨T8,p8,D8⟩=>yQc hc0 e8 h8 n8 D8
  show awp _ (.seq (hdC 1 (hdC 1 (tlC 7 (Tryz.f17.body.getD .skip)))) (.block 2 (.loop yJ9))) _ _;obtain⟨lo,ag⟩:=bi6.low2 B6;have q3:=B6.q3;have hb3:h6 (n+1)=some ⟨[qa,.v (.int .i64 q.mode),.v (.int .i64 q.after),qb,.v (.int .i64 q.within),.v (.string q.par),qc],0,true,7⟩:=(lo _ (by omega)).trans B6.b3
  obtain⟨t1,t2,t3,t4,t5⟩:=zN x3;simp[evz,hdC,tlC,Tryz.f17,q3,hb3,t1,t2];refine yQd W hrt e1 e2 hn _ _ _ (⟨B6.up (by simp[up]),by simp[up],by simp[up,ii],by simp[up,ii],bi6⟩:D17 h n sc q sa qa qb qc hB n1 bid mid T6 p6 0 _) fun s' ⟨T9,p9,D9⟩ => ?_
  rw[zFh,if_pos rfl,zAw];exact⟨T9,p9,D9⟩
end
end
def stA:ByteArray:=⟨#[65]⟩
def stB:ByteArray:=⟨#[66]⟩
def sta:ByteArray:=⟨#[97]⟩
def stx:ByteArray:=⟨#[120]⟩
def stn:ByteArray:=⟨#[110]⟩
def sc0:List Ty:=[⟨stA,[stx]⟩,⟨stB,[]⟩]
def wh0:List Nd:=[⟨4,0,sta,stx,-1,-1⟩,⟨1,1,⟨#[]⟩,⟨#[]⟩,-1,-1⟩,⟨19,0,⟨#[]⟩,⟨#[]⟩,0,1⟩]
def q0:Qu:=⟨[⟨false,[stA],sta,1,1⟩,⟨true,[stB],stn,1,1⟩],0,0,wh0,3,⟨#[]⟩,[]⟩
def yJu:Ev:=⟨0,0,0,0,0,0,0,0,0,0,0⟩
def yJt:Ev:=⟨0,0,0,1,0,0,0,0,0,0,0⟩
def evq2:Ev:=⟨0,0,1,1,0,0,0,0,0,0,0⟩
theorem yNf:(chk sc0 q0).code=0:=by kernel_rfl
theorem yL3:(xY sc0 q0).comps.length=1:=by kernel_rfl
theorem yL1:(xY sc0 q0).negs.length=1:=by kernel_rfl
theorem yLz:(xY sc0 q0).used.length=2:=by kernel_rfl
theorem yL0:(xY sc0 q0).tail=true:=by kernel_rfl
theorem yL2:(xY sc0 q0).lead=false:=by kernel_rfl
theorem yL7:zFz (xY sc0 q0) 0 yJu=false:=by kernel_rfl
theorem yL6:zFz (xY sc0 q0) 0 yJt=true:=by kernel_rfl
theorem yL5:zEm (xY sc0 q0) 0 evq2=true:=by kernel_rfl
theorem yL4:zF3 (xY sc0 q0) 1=true:=by kernel_rfl
section
def G78:=yH (de4 rI rS rS rI) (fun _=>True) fun q=>nn ⟨q.1,q.2.2.2,q.2.1,q.2.2.1,-1,-1⟩
theorem P78:P0 [] 78 G78:=by
 refine mkH 4 (S:=[]) (l:=[]) yJ Tryz.func78 rfl (by kernel_rfl) yCj yHa (fun a=>rfl) (fun args q h n e hp hn => ?_)
 obtain⟨a,b,c,d,rfl,e1,e2,e3,e4⟩:=zNu e;obtain⟨o,v,z,k⟩:=q;simp only[]at e1 e2 e3 e4 hp ⊢;have:=zBu e1;subst this;have:=zRe e2;subst this;have:=zRe e3;subst this;have:=zBu e4;subst this;have key:∀e:Nat→AV,e 0=ii o→e 1=ss v→e 2=ss z→e 3=ii k→awp (cx [] (pfL [])) (Tryz.f78.body.getD .skip) (zBc (cx [] (pfL [])) Tryz.f78 fun y _ _=>y=nn ⟨o,k,v,z,-1,-1⟩) ⟨e,roH h,n⟩:=fun e q0 q1 q2 q3=>by
  simp[evx,Tryz.f78,q0,q1,q2,q3,ii,ss,nn,yC,zHt]
 exact key _ rfl rfl rfl rfl
def yDf:List (FuncId×(List AV→Heap→PRes)):=[(78,G78),(30,zT6),(32,zN6),(26,GIn)]
def SP:List Nat:=[0,1,2,3,4,5,6,7]
theorem yLu {H:Heap} {b0 b1:Nat} (h0:H b0=some ⟨[ss stx],0,true,1⟩) (h1:H b1=some ⟨[ss stA,.s b0 0 0 1,ss stB,.v (.slice none 0 0)],0,true,2⟩):rd zE7 H (.s b1 0 0 2)=some sc0:=by
 have r:rd dSs H (.s b0 0 0 1)=some [stx]:=zB2 Flat.str (l:=[stx]) h0 rfl (r:=[]) rfl;refine De.sl_in (xs:=sc0) (off:=0) h1 (zC 4) fun i hi => ?_
 match i,hi with
 | 0,_=>exact zFd (x:=⟨stA,[stx]⟩) r
 | 1,_=>exact zFd (x:=⟨stB,[]⟩) (show rd dSs H (.v (.slice none 0 0))=some [] from rfl)
 | i+2,hi=>exact absurd hi (by simp[sc0])
theorem yLv {H:Heap} {b0 b1 b2:Nat} (h0:H b0=some ⟨[ss stA],0,true,1⟩) (h1:H b1=some ⟨[ss stB],0,true,1⟩) (h2:H b2=some ⟨[bv false,.s b0 0 0 1,ss sta,ii 1,ii 1,bv true,.s b1 0 0 1,ss stn,ii 1,ii 1],0,true,5⟩):rd zG5 H (.s b2 0 0 2)=some q0.items:=by
 have r0:rd dSs H (.s b0 0 0 1)=some [stA]:=zB2 Flat.str (l:=[stA]) h0 rfl (r:=[]) rfl;have r1:rd dSs H (.s b1 0 0 1)=some [stB]:=zB2 Flat.str (l:=[stB]) h1 rfl (r:=[]) rfl;refine De.sl_in (xs:=q0.items) (off:=0) h2 (zC 10) fun i hi => ?_
 match i,hi with
 | 0,_=>exact zGj (x:=⟨false,[stA],sta,1,1⟩) r0
 | 1,_=>exact zGj (x:=⟨true,[stB],stn,1,1⟩) r1
 | i+2,hi=>exact absurd hi (by simp[q0])
theorem yLt {H:Heap} {b:Nat} (h0:H b=some ⟨wh0.flatMap yC,0,true,6⟩):rd dNs H (.s b 0 0 3)=some q0.wh:=zB2 Flat.nd (l:=wh0) h0 rfl (r:=[]) (by rw[List.append_nil])
section
variable {h:Heap} {n:Nat}
structure A34 (h:Heap) (n:Nat) (sa qa qb qc:AV) (s:St):Prop where
 m1:∃m,s.e 1=.p m 0 0∧s.h m=some ⟨[sa],0,true,1⟩
 m2:∃m,s.e 2=.p m 0 0∧s.h m=some ⟨zA2 q0 qa qb qc,0,true,7⟩
 e1:rd zE7 s.h sa=some sc0
 e2:deQ s.h (.g (zA2 q0 qa qb qc))=some q0
 ag:agree n h s.h
 fr:Fresh s.n s.h
 nn:n≤s.n
theorem g78 (h:Heap) (o k:Int) (v z:ByteArray):G78 [.v (.int .i64 o),.v (.string v),.v (.string z),.v (.int .i64 k)] h=⟨True,.g [.v (.int .i64 o),.v (.int .i64 k),.v (.string v),.v (.string z),.v (.int .i64 (-1)),.v (.int .i64 (-1))]⟩:=rfl
theorem yQa (hn:Fresh n h) (e:Nat→AV) {Q}:awp (cz SP (pfL yDf)) (hdC 4 (Tryz.f34.body.getD .skip)) (zAs (fun s=>∃sa qa qb qc,A34 h n sa qa qb qc s) Q) ⟨e,h,n⟩:=by
 simp[evz,hdC,Tryz.f34,yDf,g78];refine⟨.s (n+1) 0 0 2,.s (n+6) 0 0 2,.s (n+9) 0 0 3,zJr,⟨n+2,by simp[up],by simp[up]⟩,⟨n+7,by simp[up],by simp[up,zA2,q0,ii,ss,zJr];rfl⟩,yLu (b0:=n) (by simp[up];rfl) (by simp[up,ss,stA,stB]),?_,by simp[zD,zE],by simp[zF,hn.add],by simp⟩
 exact zF9 (q:=q0) (yLv (b0:=n+4) (b1:=n+5) (by simp[up];rfl) (by simp[up];rfl) (by simp[up,ss,ii,bv,sta,stn])) (yLt (by simp[up];rfl)) rfl
end
end
section
structure SQ (sc:List Ty) (q:Qu):Prop where
 s1:sc.length*40≤140737488355328
 s2:∀t∈sc,t.attrs.length*16≤140737488355328
 q1:q.items.length*64≤140737488355328
 qt:∀it∈q.items,it.types.length*16≤140737488355328
 q2:xQ q.wh
 r2:∀x∈q.wh,Rng x.n
 q3:q.ret.length*24≤140737488355328
 q4:∀t∈q.ret,xQ t
 r4:∀t∈q.ret,∀x∈t,Rng x.n
section
variable {sc:List Ty} {q:Qu}
theorem SQ.ok (w:SQ sc q):yF1 (sc,q):=by
 have a1:=w.s1;have a2:=w.q1;have a3:=w.q3;refine⟨⟨show sc.length<_ by unfold big;omega,fun t ht=>by have:=w.s2 t ht;unfold big;omega⟩,show q.items.length<_ by unfold big;omega,fun i hi => ?_,w.q2,show q.ret.length<_ by unfold big;omega,fun i hi => ?_⟩
 ·rw[zB,zA hi,wM]
  have:=w.qt _ (zH hi);unfold big;omega
 ·rw[zB,zA hi,wM]
  exact w.q4 _ (zH hi)
theorem SQ.tl (w:SQ sc q):sc.length*8≤140737488355328:=by have:=w.s1;omega
theorem SQ.vs (w:SQ sc q):(vars q.items).length<big:=by have:=w.q1;simp only[vars,zQ];unfold big;omega
theorem yHh {t:List Nd} (h:t∈zAl q):∃r,t=zA6 q.wh r∧r∈zAj q.wh:=by
 rw[zC1]at h;obtain⟨r,h1,rfl⟩:=xU.1 h;exact⟨r,rfl,h1⟩
theorem SQ.conj (w:SQ sc q) {t:List Nd} (h:t∈zAl q):xQ t∧(∀x∈t,Rng x.n):=by
 obtain⟨r,rfl,h1⟩:=yHh h;obtain⟨h2,h3⟩:=zHn h1;refine⟨zOp h2 h3 w.q2,fun x hx => ?_⟩
 simp only[zA6,zZy,xU]at hx;obtain⟨y,hy,rfl⟩:=hx;exact w.r2 y (List.mem_of_mem_drop (List.mem_of_mem_take hy))
theorem SQ.comp (w:SQ sc q) {t:List Nd} (h:t∈zAl q):PrOk (zAk sc (vars q.items) t):=yHj w.vs (w.conj h).1 w.tl (w.conj h).2
theorem zNx (w:SQ sc q):(zAl q).length≤1099511627776:=by rw[zC1,zQ];exact zOy w.q2
theorem zWf (W:Wf sc q) {i:Nat} (hi:i<q.items.length):(zUb sc (itA q i)).length≤16:=by
 rw[zUb,zQ];exact W.short.2.2.2.2 _ (by rw[zPp hi];exact zH hi)
theorem zXi (w:SQ sc q) {i:Int} {f:Pr} (hf:f∈zVy sc q (zAl q) i):PrOk f:=by
 simp only[zVy,xU,zBo]at hf;obtain⟨t,⟨ht,_⟩,rfl⟩:=hf;exact w.comp ht
theorem yCk (w:SQ sc q) {i:Int} {f:Cd} (hf:f∈zCq sc q (zAl q) i):PrOk f.p:=by
 simp only[zCq,xU,zBo]at hf;obtain⟨t,⟨ht,_⟩,rfl⟩:=hf;exact w.comp ht
theorem yFq {k:Cmp} (hk:k∈(xY sc q).comps):∃i,i<q.items.length∧(itA q i).neg=false∧k=zE3 sc q (zAl q) i:=by
 have hk:k∈zBr sc q (zAl q) q.items.length:=hk;rw[zBr,xU]at hk;obtain⟨i,hi,rfl⟩:=hk;obtain⟨h1,h2⟩:=posI_mem.1 hi;exact⟨i,h1,h2,rfl⟩
theorem yFo {k:Ng} (hk:k∈(xY sc q).negs):∃i,i<q.items.length∧(itA q i).neg=true∧k=zPf sc q (zAl q) i:=by
 have hk:k∈zD9 sc q (zAl q) q.items.length:=hk;rw[zD9,xU]at hk;obtain⟨i,hi,rfl⟩:=hk;obtain⟨h1,h2⟩:=negI_mem.1 hi;exact⟨i,h1,h2,rfl⟩
theorem zXf (W:Wf sc q) (w:SQ sc q) {c:Int} {x:Ev} (hx:zHc x):okTk (xY sc q,c,x):=by
 have h1:=W.n1;have h2:=zLy q q.items.length;have h3:=zNx w;refine⟨by show q.items.length≤_;omega,by show (zBr sc q (zAl q) q.items.length).length<_;rw[zBr,zQ];unfold big;omega,fun k hk => ?_,hx⟩
 obtain⟨i,hi,_,rfl⟩:=yFq hk;exact⟨by have:=zWf W hi;show (zUb sc (itA q i)).length<_;unfold big;omega,by have:=@zJo sc q (zAl q) i;show (zVy sc q (zAl q) i).length<_;unfold big;omega,fun f hf=>zXi w hf⟩
theorem yFp (W:Wf sc q) (w:SQ sc q) {c:Int} {x:Ev} (hx:zHc x):okGd (xY sc q,c,x):=by
 have h1:=W.n1;have h2:=zLy q q.items.length;have h3:=zNx w;refine⟨by show q.items.length≤_;omega,by show (zD9 sc q (zAl q) q.items.length).length<_;rw[zD9,zQ];unfold big;omega,fun k hk => ?_,hx⟩
 obtain⟨i,hi,_,rfl⟩:=yFo hk;exact⟨by have:=zWf W hi;show (zUb sc (itA q i)).length<_;unfold big;omega,by have:=@zJo sc q (zAl q) i;show (zVy sc q (zAl q) i).length<_;unfold big;omega,fun f hf=>zXi w hf⟩
end
theorem sq0:SQ sc0 q0:=by
 refine⟨by decide,?_,by decide,?_,by unfold xQ;decide,?_,by decide,?_,?_⟩
 ·intro t ht
  simp only[sc0,yD,yA,or_false]at ht;rcases ht with rfl|rfl<;>simp
 ·intro t ht
  simp only[q0,yD,yA,or_false]at ht;rcases ht with rfl|rfl<;>simp
 ·intro t ht
  simp only[q0,wh0,yD,yA,or_false]at ht;rcases ht with rfl|rfl|rfl<;>simp[Rng]
 ·intro t ht;simp[q0]at ht
 ·intro t ht;simp[q0]at ht
theorem wf0:Wf sc0 q0:=(zZ2 yNf).2
end
end Go.Proofs.YtbffkkeieihpdaaGreatDoor
namespace Go.Proofs.YtbffkkeieihpdaaGreatDoor
open Go Go.Eng Go.RowKit Go.ChangeShapes Go.WideShapes Go.Joins
theorem zXk:Opens Tryz.prog 71 dIt fun it=>it.types.length*16≤reachBytes:=by
 refine Opens.conv (Opens.struct Tryz.underlying71 (tot:=5) (by kernel_rfl) (OpensF.cons rfl (n:=1) (by kernel_rfl) (by decide) yFy (OpensF.cons rfl (n:=1) (by kernel_rfl) (by decide) zSk (OpensF.cons rfl (n:=1) (by kernel_rfl) (by decide) zIk (OpensF.cons rfl (n:=1) (by kernel_rfl) (by decide) zKi (OpensF.one rfl (by kernel_rfl) zKi)))))) fun h l x e ok => ?_
 obtain⟨e1,e2⟩:=zDr e;obtain⟨e3,e4⟩:=zDr e2;have h1:=zE8 (zVs _ _ _ e1);obtain⟨a,ha⟩:=zLw e3;have h2:=zE8 ha;have h3:=zCc zHh (zCc (zB4 .i64) (zB4 .i64)) h _ _ e4;rw[ha]at e3;have e3':rd dSs h a=some x.2.1:=e3;refine⟨⟨x.1,x.2.1,x.2.2.1,x.2.2.2.1,x.2.2.2.2⟩,?_,ok.2.1.1⟩;rw[h1,h2,h3];exact zGj (x:=⟨x.1,x.2.1,x.2.2.1,x.2.2.2.1,x.2.2.2.2⟩) e3'
theorem zXl:Opens Tryz.prog 25 zG5 fun l=>l.length*64≤reachBytes∧∀x∈l,x.types.length*16≤reachBytes:=Opens.sl Tryz.underlying25 (sz:=5) (by kernel_rfl) (by decide) (by kernel_rfl) zXk
structure QuOkF (q:Qu):Prop where
 items:q.items.length*64≤reachBytes
 its:∀it∈q.items,it.types.length*16≤reachBytes
 wh:q.wh.length*64≤reachBytes
 whr:∀x∈q.wh,Rng x.n
 ret:q.ret.length*24≤reachBytes
 rets:∀t∈q.ret,t.length*64≤reachBytes
 retr:∀t∈q.ret,∀x∈t,Rng x.n
theorem zXj:Opens Tryz.prog 31 dQu QuOkF:=by
 refine Opens.conv (Opens.struct Tryz.underlying31 (tot:=7) (by kernel_rfl) (OpensF.cons rfl (n:=1) (by kernel_rfl) (by decide) zXl (OpensF.cons rfl (n:=1) (by kernel_rfl) (by decide) yBc (OpensF.cons rfl (n:=1) (by kernel_rfl) (by decide) yBb (OpensF.cons rfl (n:=1) (by kernel_rfl) (by decide) zSl (OpensF.cons rfl (n:=1) (by kernel_rfl) (by decide) zJp (OpensF.cons rfl (n:=1) (by kernel_rfl) (by decide) zIk (OpensF.one rfl (by kernel_rfl) yBa)))))))) fun h l x e ok => ?_
 obtain⟨x1,x2,x3,x4,x5,x6,x7⟩:=x;obtain⟨o1,o2,o3,o4,o5,o6,o7⟩:=ok;obtain⟨e1,e⟩:=zDr e;obtain⟨e2,e⟩:=zDr e;obtain⟨e3,e⟩:=zDr e;obtain⟨e4,e⟩:=zDr e;obtain⟨e5,e⟩:=zDr e;obtain⟨e6,e7⟩:=zDr e;obtain⟨a,ha⟩:=zLw e1;obtain⟨b,hb⟩:=zLw e4;obtain⟨c,hc⟩:=zLw e7;have h1:=zE8 ha;have h2:=zE8 (zB4 .i64 _ _ _ e2);have h3:=zE8 (zB4 .i64 _ _ _ e3);have h4:=zE8 hb;have h5:=zE8 (zB4 .i64 _ _ _ e5);have h6:=zE8 (zHh _ _ _ e6);rw[ha]at e1;rw[hb]at e4;rw[hc]at e7;have e1':rd zG5 h a=some x1:=e1;have e4':rd dNs h b=some x4:=e4;have e7':rd zTp h c=some x7:=e7;refine⟨⟨x1,x2,x3,x4,x5,x6,x7⟩,?_,o1.1,o1.2,o4.1,o4.2,o7.1,fun t ht=>(o7.2 t ht).1,fun t ht=>(o7.2 t ht).2⟩
 rw[h1,h2,h3,h4,h5,h6,hc];exact zF9 (q:=⟨x1,x2,x3,x4,x5,x6,x7⟩) e1' e4' e7'
theorem yLw {sc:List Ty} {q:Qu} (h1:sc.length*40≤reachBytes) (h2:∀t∈sc,t.attrs.length*16≤reachBytes) (h3:QuOkF q):SQ sc q:=by
 have hr:reachBytes=140737488351232:=rfl;have k1:=h3.items;have k2:=h3.wh;have k3:=h3.ret;rw[hr]at h1 k1 k2 k3;refine⟨by omega,fun t ht => ?_,by omega,fun t ht => ?_,by unfold xQ;omega,h3.whr,by omega,fun t ht => ?_,h3.retr⟩
 ·have:=h2 t ht;rw[hr]at this;omega
 ·have:=h3.its t ht;rw[hr]at this;omega
 ·have:=h3.rets t ht;rw[hr]at this;unfold xQ;omega
theorem zIe (h:Heap):h.sim (roH h):=fun i k e=>⟨k.ro,by simp[roH,e],rfl,rfl⟩
end Go.Proofs.YtbffkkeieihpdaaGreatDoor
namespace Go.Proofs.YtbffkkeieihpdaaGreatDoor
open Go Go.Eng


end Go.Proofs.YtbffkkeieihpdaaGreatDoor
