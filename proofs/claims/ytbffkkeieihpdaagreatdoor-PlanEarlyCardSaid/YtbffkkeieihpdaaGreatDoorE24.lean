import Derived.Test.YtbffkkeieihpdaaGreatDoorE23
set_option linter.unusedSimpArgs false
set_option linter.unusedVariables false
set_option linter.constructorNameAsVariable false
set_option maxRecDepth 100000
set_option maxHeartbeats 4000000
namespace Go.Proofs.YtbffkkeieihpdaaGreatDoor
open Go Go.Eng
section
noncomputable def zP9:Code:=yW (hdC 1 (tlC 1 (Tryz.f57.body.getD .skip)))
noncomputable def zRn:Code:=inB (hdC 1 (tlC 2 zP9))
noncomputable def yKp:Code:=yW (hdC 1 (tlC 2 zRn))
def zWk:List (FuncId×(List AV→Heap→PRes)):=[(112,GTy)]
def plI (sc:List Ty) (q:Qu) (j:Nat):Pl:=⟨sc,q,zBr sc q [] j,zD9 sc q [] j,[],[],[],[],false,false⟩
def slF (q:Qu):Nat→ByteArray→Option (Bool×Nat)
 | 0=>fun _=>none
 | j+1=>fun z=>if z=(itA q j).var then some ((itA q j).neg,if (itA q j).neg=true then (zPh q j).length else (zAq q j).length)else slF q j z
structure J57 (hB:Heap) (n1 bid mid:Nat) (T:Nat→Nat) (p:Pt) (P:Pl) (f:ByteArray→Option (Bool×Nat)) (j:Nat) (s:St):Prop where
 q0:s.e 0=.p bid 0 0
 q2:s.e 2=.p bid 0 0
 q15:s.e 15=p.qa
 q16:s.e 16=ii P.q.items.length
 q17:s.e 17=ii j
 bi:BI hB n1 bid mid T s.h s.n p P f
structure M57 (T:Nat→Nat) (sc:List Ty) (it:It) (j m4 n1:Nat) (ty z5:AV) (s:St):Prop where
 q3:s.e 3=ii j
 q4:s.e 4=.p m4 0 0
 b4:s.h m4=some ⟨[bv it.neg,ty,ss it.var,ii it.lo,ii it.hi],0,true,5⟩
 m4:n1≤m4∧T m4=0
 q5:s.e 5=z5
 z5:rd dIs (still T s.h) z5=some (it.types.map (wF sc))
def tyL (sc:List Ty) (it:It) (i:Nat):List AV:=((it.types.take i).map (wF sc)).map ii
theorem zZ6 {sc:List Ty} {it:It} {i:Nat} (h:i<it.types.length):tyL sc it (i+1)=tyL sc it i++[ii (wF sc it.types[i])]:=by
 unfold tyL;rw[yY h,yE,yE];rfl
theorem yEs {sc:List Ty} {it:It} {i:Nat} (h:i≤it.types.length):(tyL sc it i).length=i:=by
 simp[tyL];omega
theorem yNb:∀l:List Int,l.map ii=l.flatMap fun x=>[ii x]
 | []=>rfl
 | x::l=>by rw[wE,xZ,yNb l];rfl
theorem zHw {h:Heap} {a:AV} {l:List It} (e:rd zG5 h a=some l) {j:Nat} (hj:j<l.length):∃id off k ty,a=.s id k.ver off l.length∧h id=some k∧off+(j*5+5)≤k.cells.length∧rd dSs h ty=some l[j].types∧
  k.cells[off+j*5]? = some (bv l[j].neg)∧k.cells[off+(j*5+1)]? = some ty∧k.cells[off+(j*5+2)]? = some (ss l[j].var)∧k.cells[off+(j*5+3)]? = some (ii l[j].lo)∧k.cells[off+(j*5+4)]? = some (ii l[j].hi):=by
 rcases zD8 e with ⟨rfl,_⟩|⟨id,off,k,h1,h2,h3,h4⟩
 ·simp at hj
 ·obtain⟨ty,h5,h6⟩:=zD5 (h4 j hj)
  have t0:=yI (c:=0) h5 rfl (by omega)
  have t1:=yI (c:=1) h5 rfl (by omega)
  have t2:=yI (c:=2) h5 rfl (by omega)
  have t3:=yI (c:=3) h5 rfl (by omega)
  have t4:=yI (c:=4) h5 rfl (by omega)
  have hm:j*5+5≤l.length*5:=by omega
  rw[xD]at t1 t2 t3 t4;exact⟨id,off,k,ty,h1,h2,by omega,h6,t0,t1,t2,t3,t4⟩
section
variable {hB:Heap} {n1 bid mid:Nat} {T:Nat→Nat} {p:Pt} {P:Pl} {f:ByteArray→Option (Bool×Nat)} {j:Nat}
theorem yP4 (hsc:P.sc.length<big) (hj:j<P.q.items.length) (hjb:P.q.items.length<big) (htl:(P.q.items[j]).types.length≤1099511627776) (s:St) {Q} (J:J57 hB n1 bid mid T p P f j s) :
  awp (cx [] (pfL zWk)) (hdC 3 zRn) (zAs (fun s=>J57 hB n1 bid mid T p P f j s∧∃m4 ty z5,M57 T P.sc P.q.items[j] j m4 n1 ty z5 s) Q) s:=by
 obtain⟨e,h0,n0⟩:=s;obtain⟨q0,q2,q15,q16,q17,bi⟩:=J;simp only[]at q0 q2 q15 q16 q17 bi;obtain⟨a',b',c',e0,x1,x2,x3⟩:=wH bi.s.qu;cases e0;obtain⟨id,off,k,ty,y1,y2,y3,y4,y5,y6,y7,y8,y9⟩:=zHw x1 hj;have y2':h0 id=some k:=zA8 _ _ _ _ y2;obtain⟨t1,t2,t3,t4,t5⟩:=zN y4;generalize hit:P.q.items[j]=it at *;refine zZ 2 _ _ (R:=fun s=>agree n0 h0 s.h∧Fresh s.n s.h∧n0≤s.n∧(∀i∈[0,2,15,16,17],s.e i=e i)∧s.e 3=ii j∧s.e 4=.p n0 0 0∧s.h n0=some ⟨[bv it.neg,ty,ss it.var,ii it.lo,ii it.hi],0,true,5⟩∧s.e 5=.v (.slice none 0 0)∧n0<s.n) ?_ ?_
 ·simp[evx,hdC,zRn,zP9,inB,yW,tlC,Tryz.f57,q15,q17,ii,y1,hj,y2',y3,y5,y6,y7,y8,y9,t4]
  refine⟨⟨rfl,rfl⟩,(zD (by omega) _).2 ((zD (by omega) _).2 (zE _ _)),(zF (by omega) _).2 ((zF (by omega) _).2 (bi.s.fr.add 2))⟩
 ·rintro e1 h1 n2 ⟨ag,fr,nn,he,q3,q4,b4,q5,nn2⟩
  simp only[]at ag fr nn he q3 q4 b4 q5 nn2;show awp (cx [] (pfL zWk)) (.seq (hdC 1 (hdC 1 (tlC 2 zRn))) (.block 2 (.loop yKp))) _ _;simp[evx,hdC,tlC,zRn,zP9,inB,yW,Tryz.f57,q4,b4,t1,t2];refine yN (fun s=>∃i,i≤it.types.length∧agree n0 h0 s.h∧Fresh s.n s.h∧n0<s.n∧(∀i∈[0,2,15,16,17],s.e i=e i)∧s.e 3=ii j∧s.e 4=.p n0 0 0∧s.h n0=some ⟨[bv it.neg,ty,ss it.var,ii it.lo,ii it.hi],0,true,5⟩∧s.e 23=ty∧s.e 24=ii it.types.length∧s.e 25=ii i∧Own s.h (n0+1) s.n (s.e 5) i (tyL P.sc it i) 1) (fun s=>it.types.length-(s.e 25).i.toNat) ⟨0,by omega,ag,fr,nn2,by simpa[up]using he,by simp[up,q3],by simp[up,q4],b4,by simp[up],by simp[up,ii],by simp[up,ii],.inl ⟨rfl,rfl,by simp[up,q5]⟩⟩ ?_
  rintro e2 h2 n3 ⟨i,hi,ag,fr,nn,he,q3,q4,b4,q23,q24,q25,ow⟩;simp only[]at ag fr nn he q3 q4 b4 q23 q24 q25 ow;have hsch:zIp h2 (.g [p.sa])=some P.sc:=yT bi.s.fr (yZ (zA8 _ _) bi.s.sch) _ ag;have gty:∀z,GTy [.g [p.sa],.v (.string z)] h2=⟨P.sc.length<big,ii (wF P.sc z)⟩:=fun z=>by
   simp only[GTy,yH,de2,rSc,rS,deS,hsch,zT,zK]
  have hbb:h2 bid=some ⟨xH p P mid,0,true,17⟩:=(ag _ (by have:=bi.s.b1;have:=bi.s.nn;omega)).trans bi.bb
  have z2:=(he 2 (by simp)).trans q2
  by_cases hlt:i<it.types.length
  ·rcases yAm (yZ (zA8 _ _) y4)with ⟨h0',_⟩|⟨id2,off2,k2,rfl,hk2,ho2,hat2⟩
   ·rw[h0']at hlt;simp at hlt
   have hr:=hat2 i hlt;have hk2':=(ag id2 (xB hk2 bi.s.fr)).trans hk2;have hw:=yK (j:=i) (by unfold big;omega)
   have hb17:i≤9223372036854775806:=by omega
   have hb16:(i+1)*8≤140737488355328:=by omega
   have hlo:off2+(i+1)≤k2.cells.length:=by omega
   have hts:=zZ6 (sc:=P.sc) hlt;have hcl:=yEs (sc:=P.sc) (Nat.le_of_lt hlt);obtain⟨z5,q5⟩:∃z,e2 5=z:=⟨_,rfl⟩;rw[q5]at ow;rcases ow with ⟨z0,z1,z2'⟩|⟨w,u,v1,v2,v3,v4⟩
   ·subst z2'
    simp[evx,hdC,tlC,yKp,zRn,zP9,inB,yW,Tryz.f57,q23,q24,q25,q5,z2,hbb,xH,ii,ss,hlt,hk2',hr,hlo,zWk,gty,hsc,hw];refine⟨⟨i+1,hlt,(zD (by omega) _).2 ((zD (by omega) _).2 ag),(zF (by omega) _).2 ((zF (by omega) _).2 (fr.add 2)),by omega,⟨he 0 (by simp),q2.symm,he 15 (by simp),he 16 (by simp),he 17 (by simp)⟩,q3,q4,?_,?_⟩,?_⟩
    ·rw[if_neg (by omega),if_neg (by omega)];exact b4
    ·refine⟨by simp,.inr ⟨n3+1,0,by rw[z0],?_,by omega,by omega⟩⟩
     rw[zJ,hts,z1];rfl
    ·omega
   ·subst v1
    have y1:¬w=n3:=by omega
    have y11:¬n0=w:=by omega
    have y12:¬n0=n3:=by omega
    simp[evx,hdC,tlC,yKp,zRn,zP9,inB,yW,Tryz.f57,q23,q24,q25,q5,z2,hbb,xH,ii,ss,hlt,hk2',hr,hlo,zWk,gty,hsc,hw,v2,y1,y11,y12,hb16,hb17,hcl];refine⟨⟨i+1,hlt,(zD (by omega) _).2 ((zD (by omega) _).2 ag),(zF (by omega) _).2 ((zF (by omega) _).2 (fr.add 2)),by omega,⟨he 0 (by simp),q2.symm,he 15 (by simp),he 16 (by simp),he 17 (by simp)⟩,q3,q4,b4,?_⟩,?_⟩
    ·refine⟨by simp,.inr ⟨w,u+1,rfl,?_,by omega,by omega⟩⟩
     rw[zJ,hts];rfl
    ·omega
  ·obtain rfl:i=it.types.length:=by omega
   simp[evx,hdC,tlC,yKp,zRn,zP9,inB,yW,Tryz.f57,q24,q25,ii];have V:Mv (fun _=>False) T h0 n0 T h2 n3:=Mv.of_agree bi.s.tn (by omega) ag fr
   refine⟨⟨by simpa[up]using (he 0 (by simp)).trans q0,by simpa[up]using z2,by simpa[up]using (he 15 (by simp)).trans q15,by simpa[up]using (he 16 (by simp)).trans q16,by simpa[up]using (he 17 (by simp)).trans q17,bi.mv V⟩,n0,ty,e2 5,⟨by simp[up,q3],by simp[up,q4],b4,⟨bi.s.nn,bi.s.tn _ (zC _)⟩,by simp[up],?_⟩⟩
   have hw:rd dIs (wtn (n0+1) n3 h2) (e2 5)=some (it.types.map (wF P.sc)):=by
    have e9:tyL P.sc it it.types.length=(it.types.map (wF P.sc)).map ii:=by rw[tyL,wW]
    rw[e9]at ow;rcases ow with ⟨o1,o2,o3⟩|⟨w,u,o1,o2,o3,o4⟩
    ·rw[o3,zX.1 o1];rfl
    ·rw[o1]
     have:=zB2 (h:=wtn (n0+1) n3 h2) Flat.int (l:=it.types.map (wF P.sc)) (id:=w) (ver:=u) (k:=⟨(it.types.map (wF P.sc)).map ii,u,true,1⟩) (by rw[zJ4 o3 o4];exact o2) rfl (r:=[]) (by rw[List.append_nil];exact yNb _)
     rwa [zQ]at this
   exact yZ (zKc fun i h1 h2=>bi.s.tn i (by omega)) hw
end
end
section
theorem BI.low {hB:Heap} {n1 bid mid:Nat} {T:Nat→Nat} {h:Heap} {n:Nat} {p:Pt} {P:Pl} {f:ByteArray→Option (Bool×Nat)} (b:BI hB n1 bid mid T h n p P f):bid<n∧mid<n∧bid≠mid:=by
 have h1:=b.s.b1;have h2:=b.s.m1;have h3:=b.s.nn;refine⟨by omega,by omega,fun e => ?_⟩
 have t1:=b.s.tb;have t2:=b.s.tm;rw[e,t2]at t1;cases t1
theorem GL.at {T:Nat→Nat} {k sz m:Nat} {h:Heap} {a:AV} {cs:List AV} (g:GL T k sz h a m cs):(a=.v (.slice none 0 0)∧m=0∧cs=[])∨∃id ver,a=.s id ver 0 m∧T id=k∧h id=some ⟨cs,ver,true,sz⟩:=by
 rcases g.2 with ⟨h1,h2⟩|h1
 ·exact .inl ⟨h1,h2,by have:=g.1;rw[h2,zEd]at this;exact zX.1 this⟩
 ·exact .inr h1
theorem Mv.four_nil {hB:Heap} {n1 bid mid k:Nat} {T:Nat→Nat} {h:Heap} {n n':Nat} {sc:List Ty} {q:Qu} {sa qa qb qc:AV} (b:BS hB n1 bid mid T h n sc q sa qa qb qc) (hk:k≠0) (M X Y B:Blk) (hn:n+3≤n') :
  Mv (fun x=>x=8∨x=k∨x=7) T h n (fun i=>if i=n+2 then k else T i) (up (up (up (up h mid (some M)) (n+1) (some X)) (n+2) (some Y)) bid (some B)) n':=by
 have l1:=b.b1;have l2:=b.m1;have l3:=b.nn;have v1:Mv (fun x=>x=T mid) T h n T (up h mid (some M)) (n+1):=Mv.wr b.tn b.fr (by rw[b.tm];omega) (by omega) (by omega) M
 have v2:Mv (fun x=>x=T mid) T (up h mid (some M)) (n+1) T (up (up h mid (some M)) (n+1) (some X)) (n+2):=Mv.of_agree v1.new (by omega) ((zD (by omega) _).2 (zE _ _)) ((zF (by omega) _).2 (fun i hi=>v1.fr i (by omega)))
 have v3:Mv (fun x=>x=T mid) T (up (up h mid (some M)) (n+1) (some X)) (n+2) (fun i=>if i=n+2 then k else T i) (up (up (up h mid (some M)) (n+1) (some X)) (n+2) (some Y)) (n+3):=Mv.nw v2.new v2.fr (by omega) k Y (by omega) (by omega)
 have v4:Mv (fun x=>x=if bid=n+2 then k else T bid) (fun i=>if i=n+2 then k else T i) (up (up (up h mid (some M)) (n+1) (some X)) (n+2) (some Y)) (n+3) (fun i=>if i=n+2 then k else T i) (up (up (up (up h mid (some M)) (n+1) (some X)) (n+2) (some Y)) bid (some B)) n':=Mv.wr v3.new v3.fr (by show (if bid=n+2 then k else T bid)≠0;rw[if_neg (by omega),b.tb];omega) (by omega) hn B
 rw[if_neg (by omega),b.tb]at v4
 rw[b.tm]at v1 v2 v3;have w1:=(v1.trans v2 (fun _ h=>h) fun _ h=>h).trans v3 (fun _ h=>h) fun _ h=>h
 exact w1.trans v4 (fun x h=>.inl h) fun x h=>.inr (.inr h)
theorem Mv.four {hB:Heap} {n1 bid mid k id:Nat} {T:Nat→Nat} {h:Heap} {n n':Nat} {sc:List Ty} {q:Qu} {sa qa qb qc:AV} (b:BS hB n1 bid mid T h n sc q sa qa qb qc) (hk:k≠0) (hid:T id=k) (hi:id<n) (M X Y B:Blk) (hn:n+3≤n') :
  Mv (fun x=>x=8∨x=k∨x=7) T h n T (up (up (up (up h mid (some M)) (n+1) (some X)) id (some Y)) bid (some B)) n':=by
 have l1:=b.b1;have l2:=b.m1;have l3:=b.nn;have v1:Mv (fun x=>x=T mid) T h n T (up h mid (some M)) (n+1):=Mv.wr b.tn b.fr (by rw[b.tm];omega) (by omega) (by omega) M
 have v2:Mv (fun x=>x=T mid) T (up h mid (some M)) (n+1) T (up (up h mid (some M)) (n+1) (some X)) (n+2):=Mv.of_agree v1.new (by omega) ((zD (by omega) _).2 (zE _ _)) ((zF (by omega) _).2 (fun i hi=>v1.fr i (by omega)))
 have v3:Mv (fun x=>x=T id) T (up (up h mid (some M)) (n+1) (some X)) (n+2) T (up (up (up h mid (some M)) (n+1) (some X)) id (some Y)) (n+3):=Mv.wr v2.new v2.fr (by rw[hid];exact hk) (by omega) (by omega) Y
 have v4:Mv (fun x=>x=T bid) T (up (up (up h mid (some M)) (n+1) (some X)) id (some Y)) (n+3) T (up (up (up (up h mid (some M)) (n+1) (some X)) id (some Y)) bid (some B)) n':=Mv.wr v3.new v3.fr (by rw[b.tb];omega) (by omega) hn B
 rw[b.tb]at v4;rw[b.tm]at v1 v2;rw[hid]at v3;have w1:=(v1.trans v2 (K:=fun x=>x=8) (fun _ h=>h) fun _ h=>h).trans v3 (K:=fun x=>x=8∨x=k∨x=7) (fun _ h=>.inl h) fun _ h=>.inr (.inl h)
 exact w1.trans v4 (fun x h=>h) fun x h=>.inr (.inr h)
theorem BI.ngapp {hB:Heap} {n1 bid mid:Nat} {T T':Nat→Nat} {h h':Heap} {n n':Nat} {p:Pt} {P:Pl} {f f':ByteArray→Option (Bool×Nat)} (b:BI hB n1 bid mid T h n p P f) (V:Mv (fun x=>x=8∨x=2∨x=7) T h n T' h' n') (na':AV) (x:Ng)
  (hbb:h' bid=some ⟨xH {p with na:=na'} P mid,0,true,17⟩) (hmm:∃cs,h' mid=some ⟨cs,0,true,0⟩∧yGr f' cs) (hng:LR T' 2 6 h' na' (P.negs++[x]) (NgR T' h')):BI hB n1 bid mid T' h' n' {p with na:=na'} {P with negs:=P.negs++[x]} f' where
 s:=b.s.mv V (by omega)
 bb:=hbb
 mm:=hmm
 cm:=b.cm.mv V b.s.fr (by omega) fun i l x _ g=>g.mv V b.s.fr (by omega) (by omega)
 ng:=hng
 fx:=b.fx.mv V b.s.fr (by omega)
 us:=b.us.mv V b.s.fr (by omega)
 cl:=b.cl.mv V b.s.fr (by omega)
 rt:=b.rt.mv V b.s.fr (by omega)
theorem BI.cmapp {hB:Heap} {n1 bid mid:Nat} {T T':Nat→Nat} {h h':Heap} {n n':Nat} {p:Pt} {P:Pl} {f f':ByteArray→Option (Bool×Nat)} (b:BI hB n1 bid mid T h n p P f) (V:Mv (fun x=>x=8∨x=1∨x=7) T h n T' h' n') (ca':AV) (x:Cmp)
  (hbb:h' bid=some ⟨xH {p with ca:=ca'} P mid,0,true,17⟩) (hmm:∃cs,h' mid=some ⟨cs,0,true,0⟩∧yGr f' cs) (hcm:LR T' 1 6 h' ca' (P.comps++[x]) (CmpR T' h')):BI hB n1 bid mid T' h' n' {p with ca:=ca'} {P with comps:=P.comps++[x]} f' where
 s:=b.s.mv V (by omega)
 bb:=hbb
 mm:=hmm
 cm:=hcm
 ng:=b.ng.mv V b.s.fr (by omega) fun i l x _ g=>g.mv V b.s.fr (by omega) (by omega)
 fx:=b.fx.mv V b.s.fr (by omega)
 us:=b.us.mv V b.s.fr (by omega)
 cl:=b.cl.mv V b.s.fr (by omega)
 rt:=b.rt.mv V b.s.fr (by omega)
section
variable {hB:Heap} {n1 bid mid:Nat} {T:Nat→Nat} {p:Pt} {P:Pl} {f:ByteArray→Option (Bool×Nat)} {j:Nat}
theorem yP2 {it:It} {m4:Nat} {ty z5:AV} (hneg:it.neg=true) (hc:P.comps.length≤1099511627776) (hl:P.negs.length≤1099511627776) (s:St) {Q} (J:J57 hB n1 bid mid T p P f j s) (M:M57 T P.sc it j m4 n1 ty z5 s)
  (hQ:∀s',(∃T' p',J57 hB n1 bid mid T' p' {P with negs:=P.negs++[⟨j,it.types.map (wF P.sc),(P.comps.length:Int)-1,P.comps.length,[],[]⟩]} (fun z=>if z=it.var then some (true,P.negs.length)else f z) j s')→Q (.exit 1) s') :
  awp (cx [] (pfL zWk)) (tlC 3 zRn) Q s:=by
 obtain⟨e,h0,n0⟩:=s;obtain⟨q0,q2,q15,q16,q17,bi⟩:=J;obtain⟨q3,q4,b4,hm4,q5,hz5⟩:=M;simp only[]at q0 q2 q15 q16 q17 bi q3 q4 b4 hm4 q5 hz5;obtain⟨lb,lm,nbm⟩:=bi.low;have hbb:=bi.bb;obtain⟨mcs,hmm,hsl⟩:=bi.mm;obtain⟨c1,c2,c3,c4,c5⟩:=bi.cm.isS;obtain⟨d1,d2,d3,d4,d5⟩:=bi.ng.isS;obtain⟨t1,t2,t3,t4,t5⟩:=zN hz5;have nm4:m4<n0:=xB b4 bi.s.fr;have x1:¬m4=mid:=by have:=bi.s.m1;omega
 have x2:¬bid=mid:=nbm;have x3:¬mid=bid:=fun e=>nbm e.symm
 have x4:¬bid=n0+2:=by omega
 have x5:¬bid=n0+1:=by omega
 have x6:¬mid=n0+2:=by omega
 have x7:¬mid=n0+1:=by omega
 have hwr:=zDj (x:=(P.comps.length:Int)-1) (by omega) (by omega)
 have hfl:∀x:Int,zQ8 [.v (.bool true),.v (.int .i64 x)]:=fun x=>trivial
 obtain⟨cs,gl,gR⟩:=bi.ng;have hmok:=hsl.1;rcases gl.at with ⟨ga,g0,rfl⟩|⟨id,ver,ga,gT,gh⟩
 ·simp[evx,hdC,tlC,zRn,zP9,inB,yW,Tryz.f57,q0,q2,q3,q4,q5,b4,hbb,xH,hmm,ii,ss,bv,hneg,c1,c2,ga,t4,t5,hmok,x2,x4,x5,hwr,hfl]
  refine hQ _ ⟨fun i=>if i=n0+2 then 2 else T i,{p with na:=.s (n0+2) 0 0 1},by simp[up,q0],by simp[up,q2],by simp[up,q15],by simp[up,q16],by simp[up,q17],?_⟩
  have V:=Mv.four_nil (n':=n0+4) bi.s (k:=2) (by omega) ⟨zEu it.var (.v (.agg #[.bool true,.int .i64 0])) mcs,0,true,0⟩ ⟨[ii j,z5,ii ((P.comps.length:Int)-1),ii P.comps.length,.v (.slice none 0 0),.v (.slice none 0 0)],0,true,6⟩ ⟨[ii j,z5,ii ((P.comps.length:Int)-1),ii P.comps.length,.v (.slice none 0 0),.v (.slice none 0 0)],0,true,6⟩ ⟨xH {p with na:=.s (n0+2) 0 0 1} P mid,0,true,17⟩ (by omega)
  refine bi.ngapp V _ _ (zJ _ _ _) ⟨_,?_,g0▸zJu hsl it.var (true,0)⟩ ?_
  ·rw[zP _ _ x3,zP _ _ x6,zP _ _ x7,zJ];simp[g0]
  ·have hne:P.negs=[]:=zX.1 g0
   rw[hne];refine LR.app (xs:=[]) (cs:=[]) (ns:=[ii j,z5,ii ((P.comps.length:Int)-1),ii P.comps.length,.v (.slice none 0 0),.v (.slice none 0 0)]) (by simp) (by rfl) (if_pos rfl) (by rw[zP _ _ (Ne.symm x4),zJ];rfl) (fun i hi=>by simp at hi) ?_
   exact⟨z5,_,_,rfl,yZ (V.still bi.s.fr) hz5,LR.nil _ _ _ _ _,LR.nil _ _ _ _ _⟩
 ·have y1:¬id=n0+1:=by have:=xB gh bi.s.fr;omega
  have y2:¬id=mid:=fun e=>by rw[e,bi.s.tm]at gT;cases gT
  have y3:¬id=bid:=fun e=>by rw[e,bi.s.tb]at gT;cases gT
  have y4:¬bid=id:=fun e=>y3 e.symm
  have hcl:=gl.1;simp[evx,hdC,tlC,zRn,zP9,inB,yW,Tryz.f57,q0,q2,q3,q4,q5,b4,hbb,xH,hmm,ii,ss,bv,hneg,c1,c2,ga,gh,t4,t5,hmok,x2,x5,hwr,hfl,y1,y2,y4,hcl];refine⟨⟨by omega,by omega⟩,hQ _ ⟨T,{p with na:=.s id (ver+1) 0 (P.negs.length+1)},by simp[up,q0],by simp[up,q2],by simp[up,q15],by simp[up,q16],by simp[up,q17],?_⟩⟩
  have V:=Mv.four (n':=n0+4) bi.s (k:=2) (by omega) gT (xB gh bi.s.fr) ⟨zEu it.var (.v (.agg #[.bool true,.int .i64 P.negs.length])) mcs,0,true,0⟩ ⟨[ii j,z5,ii ((P.comps.length:Int)-1),ii P.comps.length,.v (.slice none 0 0),.v (.slice none 0 0)],0,true,6⟩ ⟨cs++[ii j,z5,ii ((P.comps.length:Int)-1),ii P.comps.length,.v (.slice none 0 0),.v (.slice none 0 0)],ver+1,true,6⟩ ⟨xH {p with na:=.s id (ver+1) 0 (P.negs.length+1)} P mid,0,true,17⟩ (by omega)
  refine bi.ngapp V _ _ (zJ _ _ _) ⟨_,?_,zJu hsl it.var (true,P.negs.length)⟩ ?_
  ·rw[zP _ _ x3,zP _ _ (Ne.symm y2),zP _ _ x7,zJ]
  ·refine LR.app (cs:=cs) (ns:=[ii j,z5,ii ((P.comps.length:Int)-1),ii P.comps.length,.v (.slice none 0 0),.v (.slice none 0 0)]) hcl (by rfl) gT (by rw[zP _ _ y3,zJ]) (fun i hi=>(gR i hi).mv V bi.s.fr (by omega) (by omega)) ?_
   exact⟨z5,_,_,rfl,yZ (V.still bi.s.fr) hz5,LR.nil _ _ _ _ _,LR.nil _ _ _ _ _⟩
end
end
section
section
variable {hB:Heap} {n1 bid mid:Nat} {T:Nat→Nat} {p:Pt} {P:Pl} {f:ByteArray→Option (Bool×Nat)} {j:Nat}
theorem yP3 {it:It} {m4:Nat} {ty z5:AV} (hneg:it.neg=false) (hc:P.comps.length≤1099511627776) (hl:P.comps.length≤1099511627776) (s:St) {Q} (J:J57 hB n1 bid mid T p P f j s) (M:M57 T P.sc it j m4 n1 ty z5 s)
  (hQ:∀s',(∃T' p',J57 hB n1 bid mid T' p' {P with comps:=P.comps++[⟨j,it.types.map (wF P.sc),it.lo,it.hi,[],[]⟩]} (fun z=>if z=it.var then some (false,P.comps.length)else f z) j s')→Q .normal s') :
  awp (cx [] (pfL zWk)) (tlC 3 zRn) Q s:=by
 obtain⟨e,h0,n0⟩:=s;obtain⟨q0,q2,q15,q16,q17,bi⟩:=J;obtain⟨q3,q4,b4,hm4,q5,hz5⟩:=M;simp only[]at q0 q2 q15 q16 q17 bi q3 q4 b4 hm4 q5 hz5;obtain⟨lb,lm,nbm⟩:=bi.low;have hbb:=bi.bb;obtain⟨mcs,hmm,hsl⟩:=bi.mm;obtain⟨c1,c2,c3,c4,c5⟩:=bi.cm.isS;obtain⟨d1,d2,d3,d4,d5⟩:=bi.ng.isS;obtain⟨t1,t2,t3,t4,t5⟩:=zN hz5;have nm4:m4<n0:=xB b4 bi.s.fr;have x1:¬m4=mid:=by have:=bi.s.m1;omega
 have x2:¬bid=mid:=nbm;have x3:¬mid=bid:=fun e=>nbm e.symm
 have x4:¬bid=n0+2:=by omega
 have x5:¬bid=n0+1:=by omega
 have x6:¬mid=n0+2:=by omega
 have x7:¬mid=n0+1:=by omega
 have hwr:=zDj (x:=(P.comps.length:Int)-1) (by omega) (by omega)
 have hfl:∀x:Int,zQ8 [.v (.bool false),.v (.int .i64 x)]:=fun x=>trivial
 obtain⟨cs,gl,gR⟩:=bi.cm;have hmok:=hsl.1;rcases gl.at with ⟨ga,g0,rfl⟩|⟨id,ver,ga,gT,gh⟩
 ·simp[evx,hdC,tlC,zRn,zP9,inB,yW,Tryz.f57,q0,q2,q3,q4,q5,b4,hbb,xH,hmm,ii,ss,bv,hneg,ga,t4,t5,hmok,x1,x2,x4,x5,hfl]
  refine hQ _ ⟨fun i=>if i=n0+2 then 1 else T i,{p with ca:=.s (n0+2) 0 0 1},by simp[up,q0],by simp[up,q2],by simp[up,q15],by simp[up,q16],by simp[up,q17],?_⟩
  have V:=Mv.four_nil (n':=n0+4) bi.s (k:=1) (by omega) ⟨zEu it.var (.v (.agg #[.bool false,.int .i64 0])) mcs,0,true,0⟩ ⟨[ii j,z5,ii it.lo,ii it.hi,.v (.slice none 0 0),.v (.slice none 0 0)],0,true,6⟩ ⟨[ii j,z5,ii it.lo,ii it.hi,.v (.slice none 0 0),.v (.slice none 0 0)],0,true,6⟩ ⟨xH {p with ca:=.s (n0+2) 0 0 1} P mid,0,true,17⟩ (by omega)
  refine bi.cmapp V _ _ (zJ _ _ _) ⟨_,?_,g0▸zJu hsl it.var (false,0)⟩ ?_
  ·rw[zP _ _ x3,zP _ _ x6,zP _ _ x7,zJ];simp[g0]
  ·have hne:P.comps=[]:=zX.1 g0
   rw[hne];refine LR.app (xs:=[]) (cs:=[]) (ns:=[ii j,z5,ii it.lo,ii it.hi,.v (.slice none 0 0),.v (.slice none 0 0)]) (by simp) (by rfl) (if_pos rfl) (by rw[zP _ _ (Ne.symm x4),zJ];rfl) (fun i hi=>by simp at hi) ?_
   exact⟨z5,_,_,rfl,yZ (V.still bi.s.fr) hz5,LR.nil _ _ _ _ _,LR.nil _ _ _ _ _⟩
 ·have y1:¬id=n0+1:=by have:=xB gh bi.s.fr;omega
  have y2:¬id=mid:=fun e=>by rw[e,bi.s.tm]at gT;cases gT
  have y3:¬id=bid:=fun e=>by rw[e,bi.s.tb]at gT;cases gT
  have y4:¬bid=id:=fun e=>y3 e.symm
  have hcl:=gl.1;simp[evx,hdC,tlC,zRn,zP9,inB,yW,Tryz.f57,q0,q2,q3,q4,q5,b4,hbb,xH,hmm,ii,ss,bv,hneg,ga,gh,t4,t5,hmok,x1,x2,x5,hfl,y1,y2,y4,hcl];refine⟨⟨by omega,by omega⟩,hQ _ ⟨T,{p with ca:=.s id (ver+1) 0 (P.comps.length+1)},by simp[up,q0],by simp[up,q2],by simp[up,q15],by simp[up,q16],by simp[up,q17],?_⟩⟩
  have V:=Mv.four (n':=n0+4) bi.s (k:=1) (by omega) gT (xB gh bi.s.fr) ⟨zEu it.var (.v (.agg #[.bool false,.int .i64 P.comps.length])) mcs,0,true,0⟩ ⟨[ii j,z5,ii it.lo,ii it.hi,.v (.slice none 0 0),.v (.slice none 0 0)],0,true,6⟩ ⟨cs++[ii j,z5,ii it.lo,ii it.hi,.v (.slice none 0 0),.v (.slice none 0 0)],ver+1,true,6⟩ ⟨xH {p with ca:=.s id (ver+1) 0 (P.comps.length+1)} P mid,0,true,17⟩ (by omega)
  refine bi.cmapp V _ _ (zJ _ _ _) ⟨_,?_,zJu hsl it.var (false,P.comps.length)⟩ ?_
  ·rw[zP _ _ x3,zP _ _ (Ne.symm y2),zP _ _ x7,zJ]
  ·refine LR.app (cs:=cs) (ns:=[ii j,z5,ii it.lo,ii it.hi,.v (.slice none 0 0),.v (.slice none 0 0)]) hcl (by rfl) gT (by rw[zP _ _ y3,zJ]) (fun i hi=>(gR i hi).mv V bi.s.fr (by omega) (by omega)) ?_
   exact⟨z5,_,_,rfl,yZ (V.still bi.s.fr) hz5,LR.nil _ _ _ _ _,LR.nil _ _ _ _ _⟩
end
end
section
theorem zPp {q:Qu} {j:Nat} (hj:j<q.items.length):itA q j=q.items[j]:=by
 simp[itA,zB,hj]
theorem yFs {sc:List Ty} {q:Qu} {j:Nat} (h:(itA q j).neg=true):({plI sc q j with negs:=(plI sc q j).negs++[⟨j,(itA q j).types.map (wF sc),((plI sc q j).comps.length:Int)-1,(plI sc q j).comps.length,[],[]⟩]}:Pl)=plI sc q (j+1):=by
 simp only[plI,zBr,zD9,zHo,zHr,h,if_true,yE,wE,List.map_nil,zQ];rfl
theorem yFr {sc:List Ty} {q:Qu} {j:Nat} (h:(itA q j).neg=false):({plI sc q j with comps:=(plI sc q j).comps++[⟨j,(itA q j).types.map (wF sc),(itA q j).lo,(itA q j).hi,[],[]⟩]}:Pl)=plI sc q (j+1):=by
 simp only[plI,zBr,zD9,zHo,zHr,h,yO,if_false,yE,wE,List.map_nil];rfl
theorem yA2 (sc:List Ty) (q:Qu) (j:Nat):(plI sc q j).comps.length=(zAq q j).length∧(plI sc q j).negs.length=(zPh q j).length:=by simp[plI,zBr,zD9]
theorem yFa {q:Qu} {j:Nat} (h:(itA q j).neg=true):slF q (j+1)=fun z=>if z=(itA q j).var then some (true,(zPh q j).length)else slF q j z:=by
 simp only[slF,h,if_true]
theorem yE9 {q:Qu} {j:Nat} (h:(itA q j).neg=false):slF q (j+1)=fun z=>if z=(itA q j).var then some (false,(zAq q j).length)else slF q j z:=by
 simp only[slF,h,yO,if_false]
section
variable {hB:Heap} {n1 bid mid:Nat} {sc:List Ty} {q:Qu}
theorem yP1 (hsc:sc.length<big) (hq:q.items.length≤1099511627776) (htl:∀it∈q.items,it.types.length≤1099511627776) {T:Nat→Nat} {p:Pt} {j:Nat} (hj:j<q.items.length) (s:St) {Q} (J:J57 hB n1 bid mid T p (plI sc q j) (slF q j) j s)
  (hQ:∀s',(∃T' p',J57 hB n1 bid mid T' p' (plI sc q (j+1)) (slF q (j+1)) (j+1) s')→Q .normal s') :
  awp (cx [] (pfL zWk)) zP9 Q s:=by
 have hpn:=zLy q j;obtain⟨hlc,hln⟩:=yA2 sc q j;have hA:=zPp hj;have r15:∀s',(∃T' p',J57 hB n1 bid mid T' p' (plI sc q (j+1)) (slF q (j+1)) j s')→awp (cx [] (pfL zWk)) (tlC 3 zP9) Q s':=by
  rintro⟨e',h',n'⟩ ⟨T',p',q0,q2,q15,q16,q17,bi⟩;simp only[]at q0 q2 q15 q16 q17 bi;have hw:=yK (j:=j) (by unfold big;omega)
  simp[evx,tlC,zP9,yW,hdC,Tryz.f57,q17,ii,hw];exact hQ _ ⟨T',p',by simp[up,q0],by simp[up,q2],by simp[up,q15],by simp[up,q16],by simp[up,ii],bi⟩
 refine zZ 2 _ _ (R:=fun s=>J57 hB n1 bid mid T p (plI sc q j) (slF q j) j s) ?_ fun e2 h2 n2 J => ?_
 ·obtain⟨e,h0,n0⟩:=s
  obtain⟨q0,q2,q15,q16,q17,bi⟩:=J;simp only[]at q0 q2 q15 q16 q17 bi;have q16':e 16=ii q.items.length:=q16;simp[evx,tlC,zP9,yW,hdC,Tryz.f57,q16',q17,ii,hj];exact⟨by simp[up,q0],by simp[up,q2],by simp[up,q15],by simp[up,q16],by simp[up,q17],bi⟩
 ·show awp (cx [] (pfL zWk)) (.seq (.block 1 zRn) (tlC 3 zP9)) Q _
  rw[zDn,zAy];refine zZ 3 _ _ (yP4 (P:=plI sc q j) hsc hj (by unfold big;show q.items.length<_;omega) (htl _ (zH hj)) _ J) fun e3 h3 n3 ⟨J3,m4,ty,z5,M⟩ => ?_
  have M':M57 T sc (itA q j) j m4 n1 ty z5 ⟨e3,h3,n3⟩:=by rw[hA];exact M
  cases hneg:(itA q j).neg with
  | true =>
   refine yP2 (P:=plI sc q j) hneg (by omega) (by omega) _ J3 M' fun s' h => ?_
   rw[zFh,if_pos rfl,zAw];refine r15 s' ?_;rw[←yFs hneg,yFa hneg,←hln];exact h
  | false =>
   refine yP3 (P:=plI sc q j) hneg (by omega) (by omega) _ J3 M' fun s' h => ?_
   rw[zH6,zAw];refine r15 s' ?_;rw[←yFr hneg,yE9 hneg,←hlc];exact h
end
end
section
theorem BI.ends {hB:Heap} {n1 bid mid:Nat} {T T':Nat→Nat} {h h':Heap} {n n':Nat} {p:Pt} {P:Pl} {f:ByteArray→Option (Bool×Nat)} (b:BI hB n1 bid mid T h n p P f) (V:Mv (fun x=>x=7) T h n T' h' n') (l t:Bool)
  (hbb:h' bid=some ⟨xH p {P with lead:=l,tail:=t} mid,0,true,17⟩):BI hB n1 bid mid T' h' n' p {P with lead:=l,tail:=t} f where
 s:=b.s.mv V (by omega)
 bb:=hbb
 mm:=by
  obtain⟨cs,h1,h2⟩:=b.mm;have:=b.s.m1;have:=b.s.nn;exact⟨cs,by rw[V.keep _ (by omega) (by rw[b.s.tm];omega)];exact h1,h2⟩
 cm:=b.cm.mv V b.s.fr (by omega) fun i l x _ g=>g.mv V b.s.fr (by omega) (by omega)
 ng:=b.ng.mv V b.s.fr (by omega) fun i l x _ g=>g.mv V b.s.fr (by omega) (by omega)
 fx:=b.fx.mv V b.s.fr (by omega)
 us:=b.us.mv V b.s.fr (by omega)
 cl:=b.cl.mv V b.s.fr (by omega)
 rt:=b.rt.mv V b.s.fr (by omega)
section
variable {hB:Heap} {n1 bid mid:Nat} {sc:List Ty} {q:Qu}
def plJ (sc:List Ty) (q:Qu):Pl:={plI sc q q.items.length with lead:=(itA q 0).neg,tail:=(itA q (q.items.length-1)).neg}
theorem b57 (hsc:sc.length<big) (h0:0<q.items.length) (hq:q.items.length≤1099511627776) (htl:∀it∈q.items,it.types.length≤1099511627776) {T:Nat→Nat} {p:Pt} {h:Heap} {n:Nat} (b:BI hB n1 bid mid T h n p (plI sc q 0) (slF q 0)) :
  ACall (cx [] (pfL zWk)) 57 [.p bid 0 0] h n fun z h' n'=>∃T' p',BI hB n1 bid mid T' h' n' p' (plJ sc q) (slF q q.items.length):=by
 refine yR (args:=[.p bid 0 0]) (zAr (zS yKq yJ)) (zB3 _ _) Tryz.func57 (c:=Tryz.f57.body.getD .skip) rfl (by kernel_rfl) (xK Tryz.func57 rfl rfl _ _) (show 1≤Tryz.f57.ntmps by decide +kernel) ?_
 refine zZ 1 _ _ (R:=fun s=>s.e 0=.p bid 0 0∧s.e 2=.p bid 0 0∧s.h=h∧s.n=n) ?_ fun e1 h1 n2 ⟨q0,q2,r1,r2⟩ => ?_
 ·simp[evx,hdC,Tryz.f57,env0]
 simp only[]at q0 q2 r1 r2;subst r1;subst r2;refine zZ 1 _ _ (R:=fun s=>∃T' p',J57 hB n1 bid mid T' p' (plI sc q q.items.length) (slF q q.items.length) q.items.length s) ?_ fun e3 h3 n3 ⟨T3,p3,J⟩ => ?_
 ·show awp (cx [] (pfL zWk)) (.seq (hdC 1 (hdC 1 (tlC 1 (Tryz.f57.body.getD .skip)))) (.block 0 (.loop zP9))) _ _
  obtain⟨a',b',c',e0,x1,x2,x3⟩:=wH b.s.qu;cases e0;obtain⟨t1,t2,t3,t4,t5⟩:=zN x1;have x1':p.qa.slen=q.items.length:=t2;simp[evx,hdC,tlC,Tryz.f57,q2,b.bb,xH,t1,x1'];refine yN (fun s=>∃j T p,j≤q.items.length∧J57 hB n1 bid mid T p (plI sc q j) (slF q j) j s) (fun s=>q.items.length-(s.e 17).i.toNat) ⟨0,T,p,by omega,by simp[up,q0],by simp[up,q2],by simp[up],by simp[up,ii];rfl,by simp[up,ii],b⟩ ?_
  rintro e' h' n' ⟨j,T',p',hj,J⟩;by_cases hlt:j<q.items.length
  ·have k1:=J.q17
   simp only[]at k1;refine yP1 hsc hq htl hlt _ J fun s' ⟨T'',p'',J'⟩ => ?_
   rw[zAw];refine⟨⟨j+1,T'',p'',hlt,J'⟩,?_⟩;show q.items.length-(s'.e 17).i.toNat<q.items.length-(e' 17).i.toNat;rw[k1,J'.q17];simp[ii,AV.i];omega
  ·obtain rfl:j=q.items.length:=by omega
   obtain⟨q0,q2,q15,q16,q17,bi⟩:=J;simp only[]at q0 q2 q15 q16 q17 bi;have q16':e' 16=ii q.items.length:=q16;simp[evx,hdC,tlC,zP9,yW,Tryz.f57,q16',q17,ii];exact⟨T',p',by simp[up,q0],by simp[up,q2],by simp[up,q15],by simp[up,q16],by simp[up,q17],bi⟩
 ·obtain⟨q0,q2,q15,q16,q17,bi⟩:=J
  simp only[]at q0 q2 q15 q16 q17 bi;obtain⟨a',b',c',e0,x1,x2,x3⟩:=wH bi.s.qu;cases e0;have x1':rd zG5 (still T3 h3) p3.qa=some q.items:=x1;obtain⟨id,off,k,ty,y1,y2,y3,y4,y5,_⟩:=zHw x1' h0;obtain⟨id2,off2,k2,ty2,u1,u2,u3,u4,u5,_⟩:=zHw x1' (j:=q.items.length-1) (by omega)
  rw[y1]at u1;simp only[AV.s.injEq]at u1;obtain⟨rfl,_,rfl,_⟩:=u1;rw[y2]at u2;cases u2;have hid:¬bid=id:=fun e=>by
   have:=zA8 _ _ _ _ y2;unfold still at y2;split at y2
   ·rename_i h9;rw[←e,bi.s.tb]at h9;cases h9
   ·cases y2
  have hid':¬id=bid:=fun e=>hid e.symm
  have y2':h3 id=some k:=zA8 _ _ _ _ y2;have z1:(0:Nat)<q.items.length:=h0;have hw:IntKind.i64.wrap ((q.items.length-1:Nat):Int)=((q.items.length-1:Nat):Int):=zDj (by omega) (by omega)
  have hl2:((q.items.length-1:Nat):Int)<(q.items.length:Int):=by omega
  have hl3:off+((q.items.length-1)*5+1)≤k.cells.length:=by omega
  have hl4:off+1≤k.cells.length:=by omega
  have hcast:((q.items.length:Int)-1)=((q.items.length-1:Nat):Int):=by omega
  simp only[zEd,yL,yQ]at y5 y3;simp[evx,tlC,Tryz.f57,q2,bi.bb,xH,y1,y2',y5,hid',z1,hw,ii,ss,bv,hcast,u5,hl2,hl3,hl4];rw[yC7];refine⟨T3,p3,?_⟩;have hlow:=bi.low;have V:=Mv.wr (n':=n3+2) bi.s.tn bi.s.fr (id:=bid) (by rw[bi.s.tb];omega) hlow.1 (by omega) ⟨[p3.sa,.s id k.ver off q.items.length,ii q.mode,ii q.after,p3.qb,ii q.within,ss q.par,p3.qc,p3.ca,p3.na,p3.fa,p3.ua,p3.la,p3.ra,bv q.items[0].neg,bv (q.items[q.items.length-1]'(by omega)).neg,.mv mid 0],0,true,17⟩
  rw[bi.s.tb]at V;have hA:=bi.ends V q.items[0].neg (q.items[q.items.length-1]'(by omega)).neg (by rw[zJ,xH,y1];rfl)
  rw[plJ,zPp h0,zPp (j:=q.items.length-1) (by omega)]
  exact hA
end
end
section
theorem Mv.three_nil {hB:Heap} {n1 bid mid k:Nat} {T:Nat→Nat} {h:Heap} {n n':Nat} {sc:List Ty} {q:Qu} {sa qa qb qc:AV} (b:BS hB n1 bid mid T h n sc q sa qa qb qc) (hk:k≠0) (X Y B:Blk) (hn:n+2≤n') :
  Mv (fun x=>x=k∨x=7) T h n (fun i=>if i=n+1 then k else T i) (up (up (up h n (some X)) (n+1) (some Y)) bid (some B)) n':=by
 have l1:=b.b1;have l3:=b.nn;have v2:Mv (fun x=>x=k) T h n T (up h n (some X)) (n+1):=Mv.of_agree b.tn (by omega) ((zD (by omega) _).2 (zE _ _)) ((zF (by omega) _).2 (fun i hi=>b.fr i (by omega)))
 have v3:Mv (fun x=>x=k) T (up h n (some X)) (n+1) (fun i=>if i=n+1 then k else T i) (up (up h n (some X)) (n+1) (some Y)) (n+2):=Mv.nw v2.new v2.fr (by omega) k Y (by omega) (by omega)
 have v4:Mv (fun x=>x=if bid=n+1 then k else T bid) (fun i=>if i=n+1 then k else T i) (up (up h n (some X)) (n+1) (some Y)) (n+2) (fun i=>if i=n+1 then k else T i) (up (up (up h n (some X)) (n+1) (some Y)) bid (some B)) n':=Mv.wr v3.new v3.fr (by show (if bid=n+1 then k else T bid)≠0;rw[if_neg (by omega),b.tb];omega) (by omega) hn B
 rw[if_neg (by omega),b.tb]at v4
 exact (v2.trans v3 (K:=fun x=>x=k) (fun _ h=>h) fun _ h=>h).trans v4 (fun x h=>.inl h) fun x h=>.inr h
theorem Mv.three {hB:Heap} {n1 bid mid k id:Nat} {T:Nat→Nat} {h:Heap} {n n':Nat} {sc:List Ty} {q:Qu} {sa qa qb qc:AV} (b:BS hB n1 bid mid T h n sc q sa qa qb qc) (hk:k≠0) (hid:T id=k) (hi:id<n) (X Y B:Blk) (hn:n+2≤n') :
  Mv (fun x=>x=k∨x=7) T h n T (up (up (up h n (some X)) id (some Y)) bid (some B)) n':=by
 have l1:=b.b1;have l3:=b.nn;have v2:Mv (fun x=>x=k) T h n T (up h n (some X)) (n+1):=Mv.of_agree b.tn (by omega) ((zD (by omega) _).2 (zE _ _)) ((zF (by omega) _).2 (fun i hi=>b.fr i (by omega)))
 have v3:Mv (fun x=>x=T id) T (up h n (some X)) (n+1) T (up (up h n (some X)) id (some Y)) (n+2):=Mv.wr v2.new v2.fr (by rw[hid];exact hk) (by omega) (by omega) Y
 have v4:Mv (fun x=>x=T bid) T (up (up h n (some X)) id (some Y)) (n+2) T (up (up (up h n (some X)) id (some Y)) bid (some B)) n':=Mv.wr v3.new v3.fr (by rw[b.tb];omega) (by omega) hn B
 rw[b.tb]at v4;rw[hid]at v3;exact (v2.trans v3 (K:=fun x=>x=k) (fun _ h=>h) fun _ h=>h).trans v4 (fun x h=>.inl h) fun x h=>.inr h
section
variable {hB:Heap} {n1 bid mid:Nat} {T T':Nat→Nat} {h h':Heap} {n n':Nat} {p:Pt} {P:Pl} {f:ByteArray→Option (Bool×Nat)}
theorem BI.mm' {K:Nat→Prop} (b:BI hB n1 bid mid T h n p P f) (V:Mv K T h n T' h' n') (hK:¬K 8):∃cs,h' mid=some ⟨cs,0,true,0⟩∧yGr f cs:=by
 obtain⟨cs,h1,h2⟩:=b.mm;have:=b.s.m1;have:=b.s.nn;exact⟨cs,by rw[V.keep _ (by omega) (by rw[b.s.tm];exact fun h=>hK h.2)];exact h1,h2⟩
theorem BI.usapp (b:BI hB n1 bid mid T h n p P f) (V:Mv (fun x=>x=4∨x=7) T h n T' h' n') (ua':AV) (x:Bool) (hbb:h' bid=some ⟨xH {p with ua:=ua'} P mid,0,true,17⟩) (hl:LL De.bool 1 T' 4 h' ua' (P.used++[x])):BI hB n1 bid mid T' h' n' {p with ua:=ua'} {P with used:=P.used++[x]} f where
 s:=b.s.mv V (by omega)
 bb:=hbb
 mm:=b.mm' V (by omega)
 cm:=b.cm.mv V b.s.fr (by omega) fun i l x _ g=>g.mv V b.s.fr (by omega) (by omega)
 ng:=b.ng.mv V b.s.fr (by omega) fun i l x _ g=>g.mv V b.s.fr (by omega) (by omega)
 fx:=b.fx.mv V b.s.fr (by omega)
 us:=hl
 cl:=b.cl.mv V b.s.fr (by omega)
 rt:=b.rt.mv V b.s.fr (by omega)
theorem BI.clapp (b:BI hB n1 bid mid T h n p P f) (V:Mv (fun x=>x=5∨x=7) T h n T' h' n') (la':AV) (x:Int) (hbb:h' bid=some ⟨xH {p with la:=la'} P mid,0,true,17⟩) (hl:LL (De.int .i64) 1 T' 5 h' la' (P.cols++[x])):BI hB n1 bid mid T' h' n' {p with la:=la'} {P with cols:=P.cols++[x]} f where
 s:=b.s.mv V (by omega)
 bb:=hbb
 mm:=b.mm' V (by omega)
 cm:=b.cm.mv V b.s.fr (by omega) fun i l x _ g=>g.mv V b.s.fr (by omega) (by omega)
 ng:=b.ng.mv V b.s.fr (by omega) fun i l x _ g=>g.mv V b.s.fr (by omega) (by omega)
 fx:=b.fx.mv V b.s.fr (by omega)
 us:=b.us.mv V b.s.fr (by omega)
 cl:=hl
 rt:=b.rt.mv V b.s.fr (by omega)
theorem BI.fxapp (b:BI hB n1 bid mid T h n p P f) (V:Mv (fun x=>x=3∨x=7) T h n T' h' n') (fa':AV) (x:Pr) (hbb:h' bid=some ⟨xH {p with fa:=fa'} P mid,0,true,17⟩) (hl:LL dPrg 2 T' 3 h' fa' (P.fixed++[x])):BI hB n1 bid mid T' h' n' {p with fa:=fa'} {P with fixed:=P.fixed++[x]} f where
 s:=b.s.mv V (by omega)
 bb:=hbb
 mm:=b.mm' V (by omega)
 cm:=b.cm.mv V b.s.fr (by omega) fun i l x _ g=>g.mv V b.s.fr (by omega) (by omega)
 ng:=b.ng.mv V b.s.fr (by omega) fun i l x _ g=>g.mv V b.s.fr (by omega) (by omega)
 fx:=hl
 us:=b.us.mv V b.s.fr (by omega)
 cl:=b.cl.mv V b.s.fr (by omega)
 rt:=b.rt.mv V b.s.fr (by omega)
theorem BI.rtapp (b:BI hB n1 bid mid T h n p P f) (V:Mv (fun x=>x=6∨x=7) T h n T' h' n') (ra':AV) (x:Pr) (hbb:h' bid=some ⟨xH {p with ra:=ra'} P mid,0,true,17⟩) (hl:LL dPrg 2 T' 6 h' ra' (P.ret++[x])):BI hB n1 bid mid T' h' n' {p with ra:=ra'} {P with ret:=P.ret++[x]} f where
 s:=b.s.mv V (by omega)
 bb:=hbb
 mm:=b.mm' V (by omega)
 cm:=b.cm.mv V b.s.fr (by omega) fun i l x _ g=>g.mv V b.s.fr (by omega) (by omega)
 ng:=b.ng.mv V b.s.fr (by omega) fun i l x _ g=>g.mv V b.s.fr (by omega) (by omega)
 fx:=b.fx.mv V b.s.fr (by omega)
 us:=b.us.mv V b.s.fr (by omega)
 cl:=b.cl.mv V b.s.fr (by omega)
 rt:=hl
end
end
section
theorem any_range {n:Nat} {p:Nat→Bool}:(List.range n).any p=false↔∀i,i<n→p i=false:=by
 rw[List.any_eq_false];exact⟨fun h i hi=>by simpa using h i (zAm.2 hi),fun h i hi=>by simpa using h i (zAm.1 hi)⟩
theorem zN3 {α:Type} {l:List α} {p:α→Bool} (d:α):l.any p=false↔∀i,i<l.length→p (l.getD i d)=false:=by
 rw[List.any_eq_false];constructor
 ·intro h i hi
  rw[zB,zA hi];simpa using h _ (zH hi)
 ·intro h x hx
  obtain⟨i,hi,rfl⟩:=xF.1 hx;have:=h i hi;rw[zB,zA hi]at this
  simpa using this
theorem yHs {α:Type} {l:List α} {p:α→Bool} {d:α} {i:Nat} (hi:i<l.length) (h:p (l.getD i d)=true):l.any p=true:=by
 cases hx:l.any p with
 | true=>rfl
 | false=>rw[(zN3 d).1 hx i hi]at h;cases h
theorem yG5 {l:List ByteArray} {i k:Nat} (hi:i<l.length) (hk:k<i) (h:(l.getD k ByteArray.empty==l.getD i ByteArray.empty)=true):zKv l l.length=true:=by
 unfold zKv;refine zA7.2 ⟨i,zAm.2 hi,zA7.2 ⟨l.getD k ByteArray.empty,?_,h⟩⟩;rw[xF];exact⟨k,by rw[zW];omega,by rw[List.getElem_take,zB,zA (by omega)];rfl⟩
theorem yE0 {l:List ByteArray} {i:Nat} (hi:i<l.length) (h:∀k,k<i→(l.getD k ByteArray.empty==l.getD i ByteArray.empty)=false):((l.take i).any fun z=>z==l.getD i ByteArray.empty)=false:=by
 rw[zN3 ByteArray.empty];intro k hk;rw[zW]at hk;have:=h k (by omega)
 rwa [zB,zY (by omega),←zB]
def zVv:=yH (de2 rSc rIt) (fun q=>q.1.length<big∧q.2.types.length<big) fun q=>ii (zEl q.1 q.2)
def zFy:List (FuncId×(List AV→Heap→PRes)):=[(112,GTy)]
section
variable {sc:List Ty} {it:It} {h:Heap} {n:Nat} {a ty:AV}
structure I152 (h:Heap) (n:Nat) (a ty:AV) (it:It) (s:St):Prop where
 q2:s.e 2=.p n 0 0
 q3:s.e 3=.p (n+1) 0 0
 ag:agree n (roH h) s.h
 b0:s.h n=some ⟨[a],0,true,1⟩
 b1:s.h (n+1)=some ⟨[bv it.neg,ty,ss it.var,ii it.lo,ii it.hi],0,true,5⟩
theorem yMi (e4:rd dSs h ty=some it.types) (e1:zIp h (.g [a])=some sc) (hn:∀i,n≤i→h i=none) (hp1:sc.length<big) (hp2:it.types.length<big) (s:St) (i:I152 h n a ty it s) {R:St→Prop} (hR:it.types.any (fun z=>decide (wF sc z<0))=false→∀s,I152 h n a ty it s→R s) :
  awp (cx [] (pfL zFy)) (hdC 1 (tlC 1 (Tryz.f152.body.getD .skip))) (zAs R (zBc (cx [] (pfL zFy)) Tryz.f152 fun z _ _=>z=ii (zEl sc it))) s:=by
 obtain⟨e,h1,n1⟩:=s;obtain⟨q2,q3,hag,hb0,hb1⟩:=i;simp only[]at q2 q3 hag hb0 hb1;obtain⟨s1,s2,s3,s4,s5⟩:=zN e4;have g1:=zDq hn e1;obtain⟨a',ha,e5⟩:=zBd e1;cases ha;have t3:=(zN e5).2.2.1;simp[evx,hdC,tlC,Tryz.f152,q3,hb1,ii,s1,s2];refine yN (fun s=>∃j:Nat,j≤it.types.length∧I152 h n a ty it s∧s.e 12=ty∧s.e 13=ii it.types.length∧s.e 14=ii j∧∀i,i<j→decide (wF sc (it.types.getD i ByteArray.empty)<0)=false) (fun s=>it.types.length-(s.e 14).i.toNat) ⟨0,by omega,⟨by simp[up,q2],by simp[up,q3],hag,hb0,hb1⟩,by simp[up],by simp[up,ii],by simp[up,ii],by omega⟩ ?_
 rintro e' h' n' ⟨j,hj,⟨q2,q3,hag,hb0,hb1⟩,q12,q13,q14,hno⟩;simp only[]at q2 q3 hag hb0 hb1 q12 q13 q14;by_cases hlt:j<it.types.length
 ·obtain⟨id,off,k,rfl,hk,ho,hat⟩:=zIc e4 hlt
  have ha':=wR hn hk hag;have hw:=yK (j:=j) (by omega)
  have hw1:off+(j+1)≤k.cells.length:=by omega
  have hmiss:=fun hy=>zAv (p:=fun i=>decide (wF sc (it.types.getD i ByteArray.empty)<0)=false) hno hy
  have hhit:decide (wF sc (it.types.getD j ByteArray.empty)<0)=true→zEl sc it=61:=fun hy=>by
   unfold zEl;rw[if_pos (yHs (d:=ByteArray.empty) hlt hy)]
  generalize it.types.getD j ByteArray.empty=y at *;by_cases hy:wF sc y<0
  ·have h1:=hhit (by simp[hy])
   simp[evx,q2,q12,q13,q14,ii,ss,hlt,ha',hat,hw1,hb0,zFy,GTy,yH,de2,rSc,rS,deS,g1,hag,hp1,hy,h1]
  ·have h1:=hmiss (by simp[hy])
   simp[evx,q2,q12,q13,q14,ii,ss,hlt,ha',hat,hw1,hb0,zFy,GTy,yH,de2,rSc,rS,deS,g1,hag,hp1,hy,hw];exact⟨⟨j+1,by omega,⟨by simp[up,q2],by simp[up,q3],hag,hb0,hb1⟩,by omega,fun i hi=>by have:=h1 i hi;simpa using this⟩,by omega⟩
 ·obtain rfl:j=it.types.length:=by omega
  have hR':=hR ((zN3 ByteArray.empty).2 hno);simp[evx,q13,q14,ii];refine hR' _ ?_;exact⟨q2,q3,hag,hb0,hb1⟩
theorem yMh (e4:rd dSs h ty=some it.types) (hn:∀i,n≤i→h i=none) (hp2:it.types.length<big) (h61:it.types.any (fun z=>decide (wF sc z<0))=false) (s:St) (i:I152 h n a ty it s) {R:St→Prop} (hR:zKv it.types it.types.length=false→∀s,I152 h n a ty it s→R s) :
  awp (cx [] (pfL zFy)) (hdC 1 (tlC 2 (Tryz.f152.body.getD .skip))) (zAs R (zBc (cx [] (pfL zFy)) Tryz.f152 fun z _ _=>z=ii (zEl sc it))) s:=by
 obtain⟨e,h1,n1⟩:=s;obtain⟨q2,q3,hag,hb0,hb1⟩:=i;simp only[]at q2 q3 hag hb0 hb1;obtain⟨s1,s2,s3,s4,s5⟩:=zN e4;have h62:∀i k,i<it.types.length→k<i→(it.types.getD k ByteArray.empty==it.types.getD i ByteArray.empty)=true→zEl sc it=62:=fun i k hi hk hy=>by
  unfold zEl;rw[h61,if_neg (by simp),if_pos (yG5 hi hk hy)]
 simp[evx,hdC,tlC,Tryz.f152,q3,hb1,ii,s1,s2];refine yN (fun s=>∃j:Nat,j≤it.types.length∧I152 h n a ty it s∧s.e 24=ty∧s.e 25=ii it.types.length∧s.e 26=ii j∧∀i,i<j→((it.types.take i).any fun z=>z==it.types.getD i ByteArray.empty)=false) (fun s=>it.types.length-(s.e 26).i.toNat) ⟨0,by omega,⟨by simp[up,q2],by simp[up,q3],hag,hb0,hb1⟩,by simp[up],by simp[up,ii],by simp[up,ii],by omega⟩ ?_
 rintro e' h' n' ⟨j,hj,⟨q2,q3,hag,hb0,hb1⟩,q24,q25,q26,hno⟩;simp only[]at q2 q3 hag hb0 hb1 q24 q25 q26;by_cases hlt:j<it.types.length
 ·obtain⟨id,off,k,rfl,hk,ho,hat⟩:=zIc e4 hlt
  have ha':=wR hn hk hag;have hw:=yK (j:=j) (by omega)
  have hw1:off+(j+1)≤k.cells.length:=by omega
  have hlt':(j:Int)≤it.types.length:=by omega
  simp[evx,q3,q24,q25,q26,ii,ss,hlt,ha',hat,hw1,hb1,hlt'];refine yN (fun s=>∃m:Nat,m≤j∧I152 h n a (.s id k.ver off it.types.length) it s∧s.e 24=.s id k.ver off it.types.length∧s.e 25=ii it.types.length∧s.e 26=ii j∧s.e 8=ss (it.types.getD j ByteArray.empty)∧s.e 34=.s id k.ver off j∧s.e 35=ii j∧s.e 36=ii m∧∀i,i<m→(it.types.getD i ByteArray.empty==it.types.getD j ByteArray.empty)=false) (fun s=>j-(s.e 36).i.toNat) ⟨0,by omega,⟨by simp[up,q2],by simp[up,q3],hag,hb0,hb1⟩,by simp[up,q24],by simp[up,q25,ii],by simp[up,q26,ii],by simp[up,ss,hlt],by simp[up],by simp[up,ii],by simp[up,ii],by omega⟩ ?_
  rintro e2 h2 n2 ⟨m,hm,⟨q2,q3,hag,hb0,hb1⟩,q24,q25,q26,q8,q34,q35,q36,hno2⟩;simp only[]at q2 q3 hag hb0 hb1 q24 q25 q26 q8 q34 q35 q36;by_cases hlm:m<j
  ·obtain⟨id',off',k',hid,hk',ho',hat'⟩:=zIc e4 (show m<it.types.length by omega)
   simp only[AV.s.injEq]at hid;obtain⟨rfl,hv',rfl,_⟩:=hid;rw[hk]at hk';cases hk';have ha2:=wR hn hk hag;have hwm:=yK (j:=m) (by omega)
   have hw2:off+(m+1)≤k.cells.length:=by omega
   have hlm':(m:Int)<j:=by omega
   have h1:=h62 j m hlt hlm;have hmiss:=fun hy=>zAv (p:=fun i=>(it.types.getD i ByteArray.empty==it.types.getD j ByteArray.empty)=false) (j:=m) hno2 hy
   generalize it.types.getD m ByteArray.empty=y at *;generalize hz:it.types.getD j ByteArray.empty=z at *;cases hy:(y==z)with
   | true =>
    have h1:=h1 hy;simp[evx,q8,q34,q35,q36,ii,ss,hlm',ha2,hat',hw2,hy,h1]
   | false =>
    have h2':=hmiss hy;simp[evx,q8,q34,q35,q36,ii,ss,hlm',ha2,hat',hw2,hy,hwm];refine⟨⟨m+1,by omega,⟨by simp[up,q2],by simp[up,q3],hag,hb0,hb1⟩,by simp[q24],by simp[q25,ii],by simp[q26,ii],by omega,fun i hi => ?_⟩,by omega⟩
    have:=h2' i hi
    rwa [zB]at this
  ·obtain rfl:m=j:=by omega
   have h3:=yE0 hlt hno2;simp[evx,q35,q36,q26,ii,hw];refine⟨⟨m+1,by omega,⟨by simp[up,q2],by simp[up,q3],hag,hb0,hb1⟩,by simp[q24],by simp[q25,ii],by omega,?_⟩,by omega⟩
   have:=zAv (p:=fun i=>((it.types.take i).any fun z=>z==it.types.getD i ByteArray.empty)=false) hno h3
   simpa using this
 ·obtain rfl:j=it.types.length:=by omega
  have hR':=hR (by unfold zKv;exact any_range.2 hno)
  simp[evx,q25,q26,ii];refine hR' _ ?_;exact⟨q2,q3,hag,hb0,hb1⟩
theorem yMg (h61:it.types.any (fun z=>decide (wF sc z<0))=false) (h62:zKv it.types it.types.length=false) (s:St) (i:I152 h n a ty it s) :
  awp (cx [] (pfL zFy)) (tlC 3 (Tryz.f152.body.getD .skip)) (zBc (cx [] (pfL zFy)) Tryz.f152 fun z _ _=>z=ii (zEl sc it)) s:=by
 obtain⟨e,h1,n1⟩:=s;obtain⟨q2,q3,hag,hb0,hb1⟩:=i;simp only[]at q2 q3 hag hb0 hb1;have he:zEl sc it=if it.lo<1∨it.hi<it.lo∨4<it.hi then 63 else 0:=by
  unfold zEl;rw[h61,h62,if_neg (by simp),if_neg (by simp)]
 obtain⟨neg,types,var,lo,hi⟩:=it;simp only[ii]at hb1 he;by_cases c1:lo<1<;>by_cases c2:hi<lo<;>by_cases c3:4<hi<;>simp[evx,tlC,Tryz.f152,q3,hb1,ii,c1,c2,c3,he]
end
theorem yQu:P0 [] 152 zVv:=by
 refine mkH 2 (S:=[]) (l:=zFy) (zS yKq yJ) Tryz.func152 rfl (by kernel_rfl) zAz zBx (fun a=>rfl) (fun args q h n e hp hn => ?_)
 obtain⟨x,b,rfl,e1,e2⟩:=zBm e;obtain⟨sc,it⟩:=q;simp only[]at e1 e2 hp ⊢;obtain⟨ty,rfl,e4⟩:=zM0 e2;obtain⟨a,rfl,e5⟩:=zBd e1;obtain⟨t1,t2,t3,t4,t5⟩:=zN e5;obtain⟨s1,s2,s3,s4,s5⟩:=zN e4;obtain⟨hp1,hp2⟩:=hp;refine zZ 1 _ _ (R:=I152 h n a ty it) ?_ fun e1' h1 n1 i1 => ?_
 ·have key:∀e:Nat→AV,e 0=.g [a]→e 1=.g [bv it.neg,ty,ss it.var,ii it.lo,ii it.hi]→awp (cx [] (pfL zFy)) (hdC 1 (Tryz.f152.body.getD .skip)) (zAs (I152 h n a ty it) (zBc (cx [] (pfL zFy)) Tryz.f152 fun z _ _=>z=ii (zEl sc it))) ⟨e,roH h,n⟩:=fun e q0 q1=>by
   simp[evx,hdC,Tryz.f152,q0,q1,ii,ss,bv,s4,t4];exact⟨by simp[up],by simp[up],by simp[zD,zE],by simp[up],by simp[up,ii,ss,bv]⟩
  exact key _ rfl rfl
 refine zZ 1 _ _ (yMi e4 e1 hn hp1 hp2 _ i1 (R:=fun s=>it.types.any (fun z=>decide (wF sc z<0))=false∧I152 h n a ty it s) fun h61 s i=>⟨h61,i⟩) fun e2' h2 n2 ⟨h61,i2⟩ => ?_
 refine zZ 1 _ _ (yMh e4 hn hp2 h61 _ i2 (R:=fun s=>zKv it.types it.types.length=false∧I152 h n a ty it s) fun h62 s i=>⟨h62,i⟩) fun e3' h3 n3 ⟨h62,i3⟩ => ?_
 exact yMg h61 h62 _ i3
end
end Go.Proofs.YtbffkkeieihpdaaGreatDoor
