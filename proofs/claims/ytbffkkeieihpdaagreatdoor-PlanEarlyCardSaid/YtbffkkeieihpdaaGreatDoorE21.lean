import Derived.Test.YtbffkkeieihpdaaGreatDoorE17
import Derived.Test.YtbffkkeieihpdaaGreatDoorE20
import Derived.Test.YtbffkkeieihpdaaGreatDoorE15
import Derived.Test.YtbffkkeieihpdaaGreatDoorE14
import Derived.Test.YtbffkkeieihpdaaGreatDoorE16
set_option linter.unusedSimpArgs false
set_option linter.unusedVariables false
set_option linter.constructorNameAsVariable false
set_option maxRecDepth 100000
set_option maxHeartbeats 4000000
namespace Go.Proofs.YtbffkkeieihpdaaGreatDoor
open Go Go.Eng
section
def yW:Code→Code
 | .seq _ (.block _ (.loop c))=>c
 | _=>.skip
def inB:Code→Code
 | .block _ c=>c
 | c=>c
theorem zMw:∀n,repZ [Value.int .i64 0] n=(List.replicate n (0:Int)).map ii
 | 0=>rfl
 | n+1=>by
  show (.v (.int .i64 0):AV)::repZ [Value.int .i64 0] n=_;rw[zMw n];rfl
structure A20 (h0:Heap) (n:Nat) (sa ta:AV) (t:List Nd) (its:List Int) (wi:Nat) (s:St):Prop where
 q2:s.e 2=ta
 q3:s.e 3=.p n 0 0
 q6:s.e 6=.p (n+2) 0 0
 q7:s.e 7=.s wi 0 0 t.length
 k3:s.h n=some ⟨[sa],0,true,1⟩
 k6:s.h (n+2)=some ⟨[.v (.slice none 0 0),.v (.slice none 0 0)],0,true,2⟩
 ki:s.h wi=some ⟨its.map ii,0,true,1⟩
 w1:n+3≤wi
 w2:wi<s.n
 ag:agree n h0 s.h
 fr:Fresh s.n s.h
def OwnQ (h:Heap) (lo hi:Nat) (z:AV) (p:Pr):Prop:=∃ca la,z=.g [ca,la]∧
 ((p.code=[]∧ca=.v (.slice none 0 0))∨∃w u,ca=.s w u 0 p.code.length∧h w=some ⟨p.code.flatMap zBb,u,true,5⟩∧lo≤w∧w<hi)∧
 ((p.cols = [] ∧ la = .v (.slice none 0 0)) ∨ ∃ w u cs, la = .s w u 0 p.cols.length ∧ h w = some ⟨cs, u, true, 1⟩ ∧ lo ≤ w ∧ w < hi ∧ ¬ sid ca w ∧ cs.length = p.cols.length ∧
   ∀i (hi':i<p.cols.length),∃c,cs[i]? = some c∧KC h (fun q=>lo≤q) hi (fun b=>sid ca b∨b=w∨Ear cs i b) c p.cols[i])
section
variable {h:Heap} {n:Nat} {sa qx ta:AV} {tys:List Ty} {q:Qu} {t:List Nd}
theorem yPg (e1:rd zE7 h sa=some tys) (e2:deQ h qx=some q) (e5:rd dNs h ta=some t) (hq:q.items.length<big) (hp:xQ t) (hn:Fresh n h) (e:Nat→AV) (q0:e 0=.g [sa]) (q1:e 1=qx) (q2:e 2=ta) {Q:Ex→St→Prop} :
  awp (cx [3] (pfL [])) (hdC 2 (Tryz.f60.body.getD .skip)) (zAs (fun s=>(zI9 (vars q.items) t=true∧s.e 8=bv true∧∃wi,A20 h n sa ta t (t.map (wA (vars q.items))) wi s)∨(zI9 (vars q.items) t=false∧s.e 8=bv false∧s.e 6=.p (n+2) 0 0∧s.h (n+2)=some ⟨[.v (.slice none 0 0),.v (.slice none 0 0)],0,true,2⟩∧agree n h s.h∧Fresh s.n s.h∧n+3≤s.n)) Q) ⟨e,h,n⟩:=by
 obtain⟨a,b,c,rfl,x2,x3,x4⟩:=wH e2;obtain⟨s1,s2,s3,s4,s5⟩:=zN e5;have o0:=(zN e1).2.2.2.1;have o1:=(zN x2).2.2.2.1;have o2:=(zN x3).2.2.2.1;have o3:=(zN x4).2.2.2.1;have hag:∀b1 b2 b3:Option Blk,agree n h (up (up (up h n b1) (n+1) b2) (n+2) b3):=fun b1 b2 b3=>by simp[zD,zE]
 have hfr:∀b1 b2 b3:Option Blk,Fresh (n+3) (up (up (up h n b1) (n+1) b2) (n+2) b3):=fun b1 b2 b3=>by simp[zF,hn.add]
 have gq:∀h',agree n h h'→deQ h' (.g [a,ii q.mode,ii q.after,b,ii q.within,ss q.par,c])=some q:=fun h' ha=>zC0 (zB8 hn ha) e2
 have g5:=yT hn e5;simp only[ii,ss]at gq;simp[evx,hdC,Tryz.f60,q0,q1,q2,ii,ss,o0,o1,o2,o3];refine (wD (S:=[3]) (by simp) (c54 (gq _ (hag _ _ _)) (g5 _ (hag _ _ _)) hq hp (hfr _ _ _))).mono ?_
 rintro z h2 n2 ⟨a1,a2,a3,a4⟩;have b1:∀j,j<n→h2 j=h j:=fun j hj=>by rw[a1 j (by omega)];exact hag _ _ _ j hj
 unfold zGs at a4;cases hr:zI9 (vars q.items) t with
 | true =>
  rw[hr,if_pos rfl]at a4;obtain⟨w,rfl,k1,k2,k3⟩:=a4;simp[bv];exact⟨w,by simp[up,q2],by simp[up],by simp[up],by simp[up],by simp only[];rw[a1 n (by omega)];simp[up],by simp only[];rw[a1 (n+2) (by omega)];simp[up],k1,k2,k3,b1,a2⟩
 | false =>
  rw[hr]at a4;simp only[yO,if_false]at a4;subst a4;simp[bv];exact⟨by rw[a1 (n+2) (by omega)];simp[up],b1,a2,a3⟩
theorem yMw {wi:Nat} {its:List Int} (s:St) (hb:s.e 8=bv true) (a:A20 h n sa ta t its wi s) {Q:Ex→St→Prop} :
  awp (cx [3] (pfL [])) (hdC 1 (tlC 2 (Tryz.f60.body.getD .skip))) (zAs (A20 h n sa ta t its wi) Q) s:=by
 obtain⟨e,h1,n1⟩:=s;have a0:=a;simp only[bv]at hb;simp[evx,hdC,tlC,Tryz.f60,hb];obtain⟨x1,x2,x3,x4,x5,x6,x7,x8,x9,x10,x11⟩:=a0;exact⟨by simpa[up]using x1,by simpa[up]using x2,by simpa[up]using x3,by simpa[up]using x4,x5,x6,x7,x8,x9,x10,x11⟩
theorem yMv (s:St) (hb:s.e 8=bv false) (h6:s.e 6=.p (n+2) 0 0) (hk:s.h (n+2)=some ⟨[.v (.slice none 0 0),.v (.slice none 0 0)],0,true,2⟩) (ha:agree n h s.h) (hf:Fresh s.n s.h) (hnn:n+3≤s.n) {R:St→Prop} :
  awp (cx [3] (pfL [])) (hdC 1 (tlC 2 (Tryz.f60.body.getD .skip))) (zAs R (zBc (cx [3] (pfL [])) Tryz.f60 fun z h' n'=>agree n h h'∧Fresh n' h'∧n≤n'∧OwnQ h' n n' z ⟨[],[]⟩)) s:=by
 obtain⟨e,h1,n1⟩:=s;simp only[bv]at hb h6 hk ha hf hnn;have y0:n+2<n1+1:=by omega
 simp[evx,hdC,tlC,Tryz.f60,hb,h6,hk,zD,ha,zF,hf.add,y0];exact⟨by omega,_,_,rfl,.inl ⟨rfl,rfl⟩,.inl ⟨rfl,rfl⟩⟩
structure C20 (h0:Heap) (n:Nat) (sa ta:AV) (t:List Nd) (its:List Int) (tys:List Ty) (wi m mm wb:Nat) (k:Nat) (s:St):Prop where
 q2:s.e 2=ta
 q6:s.e 6=.p (n+2) 0 0
 q7:s.e 7=.s wi 0 0 t.length
 q9:s.e 9=.p m 0 0
 q10:s.e 10=.s wb 0 0 t.length
 k6:s.h (n+2)=some ⟨[.v (.slice none 0 0),.v (.slice none 0 0)],0,true,2⟩
 ki:s.h wi=some ⟨its.map ii,0,true,1⟩
 km:s.h m=some ⟨[sa,.v (.slice none 0 0),.v (.slice none 0 0),.mv mm 0],0,true,4⟩
 kmm:s.h mm=some ⟨[],0,true,0⟩
 kb:s.h wb=some ⟨(bhL t k).map ii,0,true,1⟩
 wo:n+3≤wi∧wi<mm∧mm<m∧m<wb∧wb<s.n
 ag:agree n h0 s.h
 fr:Fresh s.n s.h
theorem yPf {wi:Nat} {its:List Int} (e5:rd dNs h ta=some t) (hp:xQ t) (e1:rd zE7 h sa=some tys) (s:St) (a:A20 h n sa ta t its wi s) {Q:Ex→St→Prop} :
  awp (cx [3] (pfL [])) (hdC 2 (tlC 3 (Tryz.f60.body.getD .skip))) (zAs (fun s'=>∃m mm wb,C20 h n sa ta t its tys wi m mm wb 0 s') Q) s:=by
 obtain⟨e,h1,n1⟩:=s;obtain⟨x1,x2,x3,x4,x5,x6,x7,x8,x9,x10,x11⟩:=a;simp only[]at x1 x2 x3 x4 x5 x6 x7 x8 x9 x10 x11;obtain⟨s1,s2,s3,s4,s5⟩:=zN e5;have o0:=(zN e1).2.2.2.1;have hp':t.length*64≤140737488355328:=hp;have hb1:(t.length:Int)*8≤281474976710656:=by omega
 simp[evx,hdC,tlC,Tryz.f60,x1,x2,x5,s1,s2,o0];have hz:repZ [Value.int .i64 0] t.length=(bhL t 0).map ii:=by rw[yCo,zMw]
 have y1:n+2<n1:=by omega
 refine⟨⟨by omega,by omega⟩,n1+1,n1,n1+2,by simpa[up]using x1,by simpa[up]using x3,by simpa[up]using x4,by simp[up],by simp[up],?_,?_,by simp[up],by simp[up],by simp[up,hz],⟨x8,x9,by omega,by omega,by simp⟩,?_,?_⟩
 ·simp only[]
  rw[zP _ _ (by omega),zP _ _ (by omega),zP _ _ (by omega)];exact x6
 ·simp only[]
  rw[zP _ _ (by omega),zP _ _ (by omega),zP _ _ (by omega)];exact x7
 ·simp only[]
  exact (zD (by omega) _).2 ((zD (by omega) _).2 ((zD (by omega) _).2 x10))
 ·exact (zF (by simp) _).2 ((zF (by simp) _).2 ((zF (by simp) _).2 (x11.add 3)))
end
end
theorem OwnR.fr {sz len:Nat} {a z:AV} {h h':Heap} {n n':Nat} (o:OwnR sz a len h n z h' n') (hn:Fresh n h):agree n h h'∧Fresh n' h'∧n≤n':=by
 rcases o with ⟨_,_,rfl,rfl⟩|⟨_,_,rfl,rfl⟩
 ·exact⟨zE _ _,hn,zC _⟩
 ·exact⟨(zD (zC _) _).2 (zE _ _),(zF (by omega) _).2 (hn.add 2),by omega⟩
theorem OwnR.flat {α:Type} {sz:Nat} {d:De α} {en:α→List AV} (f:Flat sz d en) {a z:AV} {l:List α} {h h':Heap} {n n':Nat} (o:OwnR sz a l.length h n z h' n') (e:rd (De.sl sz d) h a=some l):rd (De.sl sz d) (wtn n n' h') z=some l:=by
 rcases o with ⟨h0,rfl,_,_⟩|⟨_,rfl,rfl,rfl⟩
 ·obtain rfl:l=[]:=zX.1 h0
  rfl
 ·refine zB2 f (k:=⟨slc h a 0 (l.length*sz),0,true,sz⟩) ?_ rfl (r:=[]) (by simp[(zHy f e).2])
  rw[zJ4 (zC _) (by omega),zJ]
theorem zWx {h:Heap} {id off len N x:Nat} {k:Blk} (hk:h id=some k) (hx:x<N):(slc h (.s id k.ver off len) 0 N)[x]? = k.cells[off+x]? := by
 simp only[slc,hk,yL];rw[zY hx,xA]
def RowS (h0:Heap) (sc:List Ty) (lo j:Nat) (cs:List AV) (h:Heap) (n:Nat):Prop :=
 cs.length=sc.length*2∧∀i (hi:i<sc.length),cs[i*2]? = some (ss sc[i].name)∧∃a,cs[i*2+1]? = some a∧(if i<j then rd dSs (wtn lo n h) a=some sc[i].attrs else rd dSs h0 a=some sc[i].attrs)
theorem yIr {h0 h:Heap} {a:AV} {sc:List Ty} {lo n:Nat} (e:rd zE7 h0 a=some sc):RowS h0 sc lo 0 (slc h0 a 0 (sc.length*2)) h n:=by
 rcases zOg e with ⟨rfl,_⟩|⟨id,off,k,rfl,hk,ho,hat⟩
 ·refine⟨?_,fun i hi=>by simp at hi⟩
  cases a<;>simp[slc]
  split<;>rfl
 ·refine⟨?_,fun i hi => ?_⟩
  ·simp only[slc,hk,yL,zW,yS];omega
  ·obtain⟨h1,c,h2,h3⟩:=hat i hi
   rw[zWx hk (by omega),zWx hk (by omega)]
   exact⟨h1,c,h2,by rw[if_neg (by omega)];exact h3⟩
theorem RowS.step {h0 h h':Heap} {sc:List Ty} {lo j n n':Nat} {cs:List AV} {z:AV} (r:RowS h0 sc lo j cs h n) (hj:j<sc.length) (hn:n≤n') (ha:∀i,lo≤i→i<n→h' i=h i) (hz:rd dSs (wtn lo n' h') z=some sc[j].attrs):RowS h0 sc lo (j+1) (cs.set (j*2+1) z) h' n':=by
 refine⟨by rw[zBp];exact r.1,fun i hi => ?_⟩
 obtain⟨h1,c,h2,h3⟩:=r.2 i hi;rw[zAi (by omega)]
 by_cases hij:i=j
 ·subst hij
  refine⟨h1,z,?_,by rw[if_pos (by omega)];exact hz⟩
  rw[zB7 (by rw[r.1];omega)]
 ·refine⟨h1,c,by rw[zAi (by omega)];exact h2,?_⟩
  by_cases hlt:i<j
  ·rw[if_pos (by omega)]
   rw[if_pos hlt]at h3;exact zC8 h3 (zC _) hn ha
  ·rw[if_neg (by omega)]
   rw[if_neg hlt]at h3;exact h3
theorem RowS.fin {h0 h:Heap} {sc:List Ty} {lo lo' n n' w u:Nat} {cs:List AV} (r:RowS h0 sc lo sc.length cs h n) (h1:lo'≤lo) (hn:n≤n') (hw1:lo'≤w) (hw2:w<n') (hw:h w=some ⟨cs,u,true,2⟩):rd zE7 (wtn lo' n' h) (.s w u 0 sc.length)=some sc:=by
 refine De.sl_in (off:=0) (k:=⟨cs,u,true,2⟩) (by rw[zJ4 hw1 hw2];exact hw) (by simp only[];rw[r.1];omega) fun i hi => ?_
 obtain⟨c1,c,c2,c3⟩:=r.2 i hi;rw[if_pos hi]at c3;have hc:(cs.drop (0+i*2)).take 2=[ss sc[i].name,c]:=by
  have l1:i*2<cs.length:=by rw[r.1];omega
  have l2:i*2+1<cs.length:=by rw[r.1];omega
  rw[zA l1]at c1;rw[zA l2]at c2;rw[yQ,xO l1,xO l2];simp only[Option.some.injEq]at c1 c2;rw[c1,c2];rfl
 simp only[] ;rw[hc];exact zFd (zC8 c3 h1 hn fun _ _ _=>rfl)
structure D55 (h:Heap) (n:Nat) (sc:List Ty) (z:AV) (m w lo j:Nat) (cs:List AV) (s:St):Prop where
 q2:s.e 2=.p (n+1) 0 0
 q3:s.e 3=.p m 0 0
 b2:s.h (n+1)=some ⟨[.v (.slice none 0 0)],0,true,1⟩
 b3:s.h m=some ⟨[z],0,true,1⟩
 row:(sc.length=0∧z=.v (.slice none 0 0))∨(0<sc.length∧z=.s w 0 0 sc.length∧s.h w=some ⟨cs,0,true,2⟩∧RowS h sc lo j cs s.h s.n)
 ag:agree n h s.h
 fr:Fresh s.n s.h
 ord:n+2≤w∧w<lo∧n+2≤m∧m<lo∧lo≤s.n∧m≠w
theorem b55 {h:Heap} {n:Nat} {x:AV} {sc:List Ty} (e1:zIp h x=some sc) (hl:sc.length≤2199023255552) (hla:∀t∈sc,t.attrs.length≤2199023255552) (hn:Fresh n h) :
  ACall (cx [] (pfL [])) 55 [x] h n fun z h' n'=>agree n h h'∧Fresh n' h'∧n≤n'∧zIp (wtn n n' h') z=some sc:=by
 refine yR (args:=[x]) (zAr yJ) (zB3 _ _) Tryz.func55 (c:=Tryz.f55.body.getD .skip) rfl (by kernel_rfl) (xK Tryz.func55 rfl rfl _ _) (show 1≤Tryz.f55.ntmps by decide +kernel) ?_
 obtain⟨a,rfl,e2⟩:=zBd e1;obtain⟨s1,s2,s3,s4,s5⟩:=zN e2;have key:∀e:Nat→AV,e 0=.g [a]→awp (cx [] (pfL [])) (Tryz.f55.body.getD .skip) (zBc (cx [] (pfL [])) Tryz.f55 fun z h' n'=>agree n h h'∧Fresh n' h'∧n≤n'∧zIp (wtn n n' h') z=some sc) ⟨e,h,n⟩:=by
  intro e q0;refine zZ 2 _ _ (R:=fun s=>∃z m w lo cs,D55 h n sc z m w lo 0 cs s) ?_ fun y1 h1 n1 ⟨z,m,w,lo,cs,D⟩ => ?_
  ·simp[evx,hdC,Tryz.f55,q0,s4]
   have hf2:Fresh (n+2) (up (up h n (some ⟨[a],0,true,1⟩)) (n+1) (some ⟨[.v (.slice none 0 0)],0,true,1⟩)):=(zF (by omega) _).2 ((zF (by omega) _).2 (hn.add 2))
   have hag:agree n h (up (up h n (some ⟨[a],0,true,1⟩)) (n+1) (some ⟨[.v (.slice none 0 0)],0,true,1⟩)):=(zD (by omega) _).2 ((zD (by omega) _).2 (zE _ _))
   have e3:=yT hn e2 _ hag;have hs:slc h a 0 (sc.length*2)=slc (up (up h n (some ⟨[a],0,true,1⟩)) (n+1) (some ⟨[.v (.slice none 0 0)],0,true,1⟩)) a 0 (sc.length*2):=by
    obtain⟨cs,c1,_⟩:=zMy hn e2;rw[(c1 _ (zE _ _)).2,(c1 _ hag).2]
   refine (yPj e3 hl hf2).mono ?_;intro z h2 n2 o;obtain⟨o1,o2,o3⟩:=o.fr hf2;have hb2:h2 (n+1)=some ⟨[.v (.slice none 0 0)],0,true,1⟩:=by rw[o1 _ (by omega),zJ]
   have hag2:agree n h h2:=yP hag o1 (by omega)
   rcases o with ⟨h0,rfl,_,rfl⟩|⟨h0,rfl,rfl,hh2⟩
   ·simp[evx]
    exact⟨_,n+2,n+3,n+2+2,[],⟨by simp[up],by simp[up],by simp[up,hb2],by simp[up],.inl ⟨h0,rfl⟩,by simp[zD,hag2],(show Fresh (n+4) _ from (zF (by omega) _).2 ((zF (by omega) _).2 (o2.add 2))),by simp only[];omega⟩⟩
   ·simp[evx]
    refine⟨_,n+2+2,n+2,n+2+2+2,_,⟨by simp[up],by simp[up],by simp[up,hb2],by simp[up],.inr ⟨h0,rfl,by simp only[];rw[zP _ _ (by omega),zP _ _ (by omega),hh2,zJ],hs▸yIr e2⟩,by simp[zD,hag2],(show Fresh (n+6) _ from (zF (by omega) _).2 ((zF (by omega) _).2 (o2.add 2))),by simp only[];omega⟩⟩
  refine zZ 1 _ _ (R:=fun s=>∃cs,D55 h n sc z m w lo sc.length cs s) ?_ fun y2 h2 n2 ⟨cs2,D2⟩ => ?_
  ·show awp (cx [] (pfL [])) (.seq (hdC 1 (hdC 1 (tlC 2 (Tryz.f55.body.getD .skip)))) (.block 0 (.loop (yW (hdC 1 (tlC 2 (Tryz.f55.body.getD .skip))))))) _ _
   obtain⟨q2,q3,b2,b3,row,ag,fr,ord⟩:=D;simp only[]at q2 q3 b2 b3 row ag fr ord;have hz:z.isS∧z.slen=sc.length∧(∀g,AV.unc g z=z)∧z.cells=[z]:=by
    rcases row with ⟨r1,rfl⟩|⟨r1,rfl,_⟩
    ·exact⟨⟨rfl,rfl⟩,by rw[r1];rfl,fun _=>rfl,rfl⟩
    ·exact⟨trivial,rfl,fun _=>rfl,rfl⟩
   obtain⟨t1,t2,t3,t4⟩:=hz;simp[evx,hdC,tlC,yW,Tryz.f55,q3,b3,t1,t2];refine yN (fun s=>∃j cs,j≤sc.length∧s.e 11=ii sc.length∧s.e 12=ii j∧D55 h n sc z m w lo j cs s) (fun s=>sc.length-(s.e 12).i.toNat) ⟨0,cs,by omega,by simp[up,ii],by simp[up,ii],⟨by simp[up,q2],by simp[up,q3],b2,b3,row,ag,fr,ord⟩⟩ ?_
   rintro e' h' n' ⟨j,cs,hj,q11,q12,D⟩;simp only[]at q11 q12;obtain⟨q2,q3,b2,b3,row,ag,fr,ord⟩:=D;simp only[]at q2 q3 b2 b3 row ag fr ord;by_cases hlt:j<sc.length
   ·obtain⟨r1,rfl,r2,r3⟩:=row.resolve_left (by omega)
    obtain⟨c1,c,c2,c3⟩:=r3.2 j hlt;rw[if_neg (by omega)]at c3
    have c3':=yT hn c3 _ ag;have hcl:=r3.1;have hbd:j*2+1<cs.length:=by omega
    have c4:∀hb:j*2+1<cs.length,cs[j*2+1]'hb=c:=fun hb=>by rw[zA hb]at c2;exact Option.some.inj c2
    have hw:=yK (j:=j) (by unfold big;omega)
    have hb2:j*2+2≤cs.length:=by omega
    have hla':=hla _ (zH hlt);simp[evx,q11,q12,q3,b3,ii,hlt,r2,c4,hbd,hb2];refine (yNi c3' hla' fr).mono ?_;intro v h3 n3 o;obtain⟨o1,o2,o3⟩:=o.fr fr;have hle:Heap.le h' h3:=fun i k e=>by rw[o1 i (xB e fr)];exact e
    have ov:=o.flat Flat.str c3';have hv:v.cells=[v]∧v.one:=by
     rcases o with ⟨_,rfl,_⟩|⟨_,rfl,_⟩
     ·exact⟨rfl,rfl⟩
     ·exact⟨rfl,trivial⟩
    have g1:=(o1 w (by omega)).trans r2
    have g2:=(o1 m (by omega)).trans b3
    refine⟨.inl hle,?_⟩;simp[evx,g1,hv.1,hv.2,hb2,hw];have a1:∀b,agree n h (up h3 w b):=fun b=>(zD (by omega) _).2 (yP ag o1 (by omega))
    have a2:∀b,Fresh (n3+1) (up h3 w b):=fun b=>(zF (by omega) _).2 (o2.add 1)
    refine⟨⟨j+1,hlt,by simp,cs.set (j*2+1) v,⟨by simp[up,q2],by simp[up,q3],?_,by simp only[];rw[zP _ _ (by omega)];exact g2,.inr ⟨r1,rfl,by simp[up],r3.step hlt (by simp only[];omega) (fun i h1 h2 => ?_) (zC8 ov (by omega) (by simp only[];omega) fun i h1 h2 => ?_)⟩,a1 _,a2 _,by simp only[];omega⟩⟩,by omega⟩
    ·simp only[]
     rw[zP _ _ (by omega),o1 _ (by omega)];exact b2
    ·simp only[]
     rw[zP _ _ (by omega)];exact o1 _ h2
    ·simp only[]
     rw[zP _ _ (by omega)]
   ·obtain rfl:j=sc.length:=by omega
    simp[evx,q11,q12,ii];exact⟨cs,⟨by simp[up,q2],by simp[up,q3],b2,b3,row,ag,fr,ord⟩⟩
  ·obtain⟨q2,q3,b2,b3,row,ag,fr,ord⟩:=D2
   simp only[]at q2 q3 b2 b3 row ag fr ord;have hz:z.cells=[z]∧z.one:=by
    rcases row with ⟨r1,rfl⟩|⟨r1,rfl,_⟩
    ·exact⟨rfl,rfl⟩
    ·exact⟨rfl,trivial⟩
   have hu:∀g,AV.unc g z=z:=by
    rcases row with ⟨r1,rfl⟩|⟨r1,rfl,_⟩
    ·exact fun _=>rfl
    ·exact fun _=>rfl
   simp[evx,tlC,Tryz.f55,q2,q3,b2,b3,hz.2];refine⟨(zD (by omega) _).2 ag,(zF (by omega) _).2 (fr.add 1),by omega,?_⟩
   rcases row with ⟨r1,rfl⟩|⟨r1,rfl,r2,r3⟩
   ·obtain rfl:sc=[]:=zX.1 r1
    rfl
   ·show rd zE7 _ _=_
    have r4:RowS h sc lo sc.length cs2 (up h2 (n+1) (some ⟨[.s w 0 0 sc.length],0,true,1⟩)) n2:=⟨r3.1,fun i hi=>by rw[yC6 _ (.inl (by omega))];exact r3.2 i hi⟩
    exact r4.fin (by omega) (by omega) (by omega) (by omega) (by rw[zP _ _ (by omega)];exact r2)
 exact key _ rfl

theorem zH7 (a b:ByteArray):(a==b)=decide (a=b):=by
 cases h:(a==b)with
 | true=>rw[zD6]at h;simp[h]
 | false =>
  symm;rw[decide_eq_false_iff_not];intro e;rw[(show (a==b)=true by rw[zD6];exact e)]at h
  cases h
theorem zX1 (z:ByteArray) (n:Int):∀l:List AV,mok l→mok (zEu z (.v (.int .i64 n)) l)
 | [],_=>trivial
 | .v (.string k) :: .v (.int .i64 m)::r,h=>by
  simp only[zEu];split
  ·exact h
  ·exact zX1 z n r h
theorem zPi (z z':ByteArray) (v:AV):∀l:List AV,mok l→zBn z' (zEu z v l)=if z'=z then some v else zBn z' l
 | [],_=>by
  simp only[zEu,zBn,zH7];by_cases h:z'=z<;>simp[h]
 | .v (.string k) :: .v (.int .i64 m)::r,h=>by
  have ih:=zPi z z' v r h;simp only[zEu,zH7];by_cases h1:z=k
  ·subst h1
   by_cases h2:z'=z<;>simp[zBn,zH7,h2]
  ·simp only[h1,decide_false,yO,if_false,zBn,zH7]
   by_cases h2:z'=k
   ·subst h2
    have:¬z'=z:=fun e=>h1 e.symm
    simp[this]
   ·simp[h2,ih]
theorem zSt (z n:Int):∀l:List AV,zSw l→zSw (zEt z (.v (.int .i64 n)) l)
 | [],_=>trivial
 | .v (.int .i64 k) :: .v (.int .i64 m)::r,h=>by
  simp only[zEt];split
  ·exact h
  ·exact zSt z n r h
theorem zL3 (z z':Int) (v:AV):∀l:List AV,zSw l→zCv z' (zEt z v l)=if z'=z then some v else zCv z' l
 | [],_=>by
  simp only[zEt,zCv,beq_iff_eq]
 | .v (.int .i64 k) :: .v (.int .i64 m)::r,h=>by
  have ih:=zL3 z z' v r h;simp only[zEt,beq_iff_eq];by_cases h1:z=k
  ·subst h1
   by_cases h2:z'=z<;>simp[zCv,h2]
  ·simp only[h1,if_false,zCv,beq_iff_eq]
   by_cases h2:z'=k
   ·subst h2
    have:¬z'=z:=fun e=>h1 e.symm
    simp[this]
   ·simp[h2,ih]
def isM (f:ByteArray→Option Int) (cs:List AV):Prop:=mok cs∧∀z,zBn z cs=(f z).map fun i=>ii i
theorem zYk:isM (fun _=>none) []:=⟨trivial,fun _=>rfl⟩
theorem zYj {f:ByteArray→Option Int} {cs:List AV} (h:isM f cs) (k:ByteArray) (n:Int):isM (fun z=>if z=k then some n else f z) (zEu k (.v (.int .i64 n)) cs) :=
 ⟨zX1 k n cs h.1,fun z=>by rw[zPi k z _ cs h.1];by_cases e:z=k<;>simp[e,ii,h.2]⟩
def isI (f:Int→Int) (cs:List AV):Prop:=zSw cs∧∀z,(zCv z cs).getD (.v (.int .i64 0))=ii (f z)
theorem zQ6:isI (fun _=>0) []:=⟨trivial,fun _=>rfl⟩
theorem zNb {f:Int→Int} {cs:List AV} (h:isI f cs) (k n:Int):isI (fun z=>if z=k then n else f z) (zEt k (.v (.int .i64 n)) cs) :=
 ⟨zSt k n cs h.1,fun z=>by rw[zL3 k z _ cs h.1];by_cases e:z=k<;>simp[e,ii];simpa[ii]using h.2 z⟩
def ixM (vs:List ByteArray) (z:ByteArray):Option Int:=if 0≤wY vs z then some (wY vs z)else none
theorem zYd:ixM []=fun _=>none:=by funext z;simp[ixM,wY]
theorem zYf (l:List ByteArray) (x z:ByteArray):ixM (l++[x]) z=if (ixM l z).isSome=true then ixM l z else if z=x then some (l.length:Int)else none:=by
 have hl:(l++[x]).length=l.length+1:=by simp
 unfold ixM wY;rw[List.findIdx_append,hl];by_cases h:l.findIdx (· == z)<l.length
 ·have h2:l.findIdx (· == z)<l.length+1:=by omega
  simp only[h,h2,if_true];simp
 ·have hn:¬((0:Int)≤-1):=by omega
  simp only[h,if_false,hn];by_cases hx:z=x
  ·subst hx
   have hb:(z==z)=true:=by rw[zD6]
   have h0:[z].findIdx (· == z)=0:=by simp[List.findIdx_cons,hb]
   have h3:0+l.length<l.length+1:=by omega
   simp only[h0,h3,if_true];simp
  ·have hb:(x==z)=false:=by
    cases hb:(x==z)with
    | false=>rfl
    | true=>rw[zD6]at hb;exact absurd hb.symm hx
   have h0:[x].findIdx (· == z)=1:=by simp[List.findIdx_cons,hb]
   have h3:¬1+l.length<l.length+1:=by omega
   simp only[h0,h3,if_false,hn,hx];simp
theorem yGl {l:List ByteArray} {x:ByteArray} (h:(ixM l x).isSome=true):ixM (l++[x])=ixM l:=by
 funext z;rw[zYf];split
 ·rfl
 ·rename_i hz
  rw[if_neg (fun e=>hz (by rw[e];exact h))]
  cases e:ixM l z with
  | none=>rfl
  | some i=>rw[e]at hz;exact absurd rfl hz
theorem zYe {l:List ByteArray} {x:ByteArray} (h:ixM l x=none):ixM (l++[x])=fun z=>if z=x then some (l.length:Int)else ixM l z:=by
 funext z;rw[zYf];by_cases hz:z=x
 ·subst hz;simp[h]
 ·simp only[hz,if_false]
  cases e:ixM l z<;>simp
theorem yGm {h:Heap} {a:AV} {l:List It} (e:rd zG5 h a=some l):(l=[]∧(a=.v (.slice none 0 0)∨a=.e))∨
  ∃id off k,a=.s id k.ver off l.length∧h id=some k∧off+l.length*5≤k.cells.length∧∀i (hi:i<l.length),∃ty,(k.cells.drop (off+i*5)).take 5=[bv l[i].neg,ty,ss l[i].var,ii l[i].lo,ii l[i].hi]∧ty.one:=by
 rcases zD8 e with h0|⟨id,off,k,h1,h2,h3,h4⟩
 ·exact .inl h0
 ·refine .inr ⟨id,off,k,h1,h2,h3,fun i hi => ?_⟩
  obtain⟨ty,h5,h6⟩:=zD5 (h4 i hi);exact⟨ty,h5,(zN h6).2.2.2.1⟩
theorem c84 {h:Heap} {n:Nat} {qx:AV} {q:Qu} (e2:deQ h qx=some q) (hq:q.items.length<big) (hn:Fresh n h) :
  ACall (cx [] (pfL [])) 94 [qx] h n fun z h' n'=>agree n h h'∧Fresh n' h'∧n≤n'∧∃m cs,z=.mv m 0∧h' m=some ⟨cs,0,true,0⟩∧isM (ixM (vars q.items)) cs∧n≤m∧m<n':=by
 refine yR (args:=[qx]) (zAr yJ) (zB3 _ _) Tryz.func94 (c:=Tryz.f94.body.getD .skip) rfl (by kernel_rfl) (xK Tryz.func94 rfl rfl _ _) (show 1≤Tryz.f94.ntmps by decide +kernel) ?_
 obtain⟨a,b,c,rfl,x2,x3,x4⟩:=wH e2;obtain⟨s1,s2,s3,s4,s5⟩:=zN x2;have o2:=(zN x3).2.2.2.1;have o3:=(zN x4).2.2.2.1;have hl:(vars q.items).length=q.items.length:=by simp[vars]
 have key:∀e:Nat→AV,e 0=.g [a,ii q.mode,ii q.after,b,ii q.within,ss q.par,c]→awp (cx [] (pfL [])) (Tryz.f94.body.getD .skip) (zBc (cx [] (pfL [])) Tryz.f94 fun z h' n'=>agree n h h'∧Fresh n' h'∧n≤n'∧∃m cs,z=.mv m 0∧h' m=some ⟨cs,0,true,0⟩∧isM (ixM (vars q.items)) cs∧n≤m∧m<n') ⟨e,h,n⟩:=fun e q0=>by
  simp[evx,Tryz.f94,q0,ii,ss,s1,s2,s4,o2,o3];refine yN (fun s=>∃(j:Nat) (cs:List AV),j≤q.items.length∧s.e 3=.mv (n+1) 0∧s.e 13=a∧s.e 14=ii q.items.length∧s.e 15=ii j∧s.h (n+1)=some ⟨cs,0,true,0⟩∧isM (ixM ((vars q.items).take j)) cs∧agree n h s.h∧Fresh s.n s.h∧n+2≤s.n) (fun s=>q.items.length-(s.e 15).i.toNat) ⟨0,[],by omega,by simp[up],by simp[up],by simp[up,ii],by simp[up,ii],by simp[up],by simpa[zYd]using zYk,by simp[zD,zE],by simp[zF,hn.add],by simp⟩ ?_
  rintro e' h' n' ⟨j,cs,hj,q3,q13,q14,q15,hm,hM,hag,hfr,hnn⟩;simp only[]at q3 q13 q14 q15 hm hag hfr hnn;have hok:=hM.1;by_cases hlt:j<q.items.length
  ·rcases yGm x2 with ⟨h0,_⟩|⟨id,off,k,rfl,hk,ho,hat⟩
   ·rw[h0]at hlt;simp at hlt
   have hid:id<n:=xB hk hn;have hk':h' id=some k:=by rw[hag id hid];exact hk
   obtain⟨ty,hr,hone⟩:=hat j hlt;have c0:=yI (c:=0) hr rfl (by omega)
   have c1:=yI (c:=1) hr rfl (by omega)
   have c2:=yI (c:=2) hr rfl (by omega)
   have c3:=yI (c:=3) hr rfl (by omega)
   have c4:=yI (c:=4) hr rfl (by omega)
   simp only[yL]at c0;rw[xD]at c1 c2 c3 c4;have hw5:off+(j*5+5)≤k.cells.length:=by omega
   have hlt':(j:Int)<(q.items.length:Int):=by omega
   have hjw:=yK (j:=j) (by omega)
   have htk:(vars q.items).take (j+1)=(vars q.items).take j++[q.items[j].var]:=by
    rw[yY (by rw[hl];exact hlt)]
    simp[vars]
   have htl:((vars q.items).take j).length=j:=by rw[zW,hl];omega
   have hf:=hM.2 q.items[j].var;generalize q.items[j].var=v at *;generalize q.items[j].neg=ng at *;generalize q.items[j].lo=lo at *;generalize q.items[j].hi=hi at *;have z1:¬id=n':=by omega
   have z2:¬n+1=n':=by omega
   have z3:n+1<n':=by omega
   simp only[ii,bv,ss]at c0 c1 c2 c3 c4;have hag3:∀b1 b2:Option Blk,agree n h (up (up h' n' b1) n' b2):=fun b1 b2 q hq=>by rw[zP _ _ (by omega),zP _ _ (by omega),hag q hq]
   cases hx:ixM ((vars q.items).take j) v with
   | some i =>
    rw[hx]at hf;simp only[zK,ii]at hf;have hnew:=yGl (l:=(vars q.items).take j) (x:=v) (by rw[hx];rfl)
    simp[evx,q3,q13,q14,q15,ii,hlt',hk',hm,hok,hf,c0,c1,c2,c3,c4,hw5,hone,z2,hjw];exact⟨⟨j+1,by omega,by omega,by rw[htk,hnew];exact hM,hag3 _ _,by simp[zF,hfr.add],by omega⟩,by omega⟩
   | none =>
    rw[hx]at hf;simp only[Option.map_none]at hf;have hnew:=zYe (l:=(vars q.items).take j) (x:=v) hx;simp[evx,q3,q13,q14,q15,ii,hlt',hk',hm,hok,hf,c0,c1,c2,c3,c4,hw5,hone,z2,hjw];refine⟨⟨j+1,by omega,by omega,by rw[htk,hnew,htl];exact zYj hM v j,?_,?_,by omega⟩,by omega⟩
    ·exact fun q hq=>by rw[zP _ _ (by omega)];exact hag3 _ _ q hq
    ·exact (zF (by omega) _).2 ((zF (by omega) _).2 ((zF (by omega) _).2 (hfr.add 3)))
  ·obtain rfl:j=q.items.length:=by omega
   rw[yX (by omega)]at hM
   simp[evx,q3,q14,q15,ii];exact⟨hag,hfr,by omega,_,hm,hM,by omega⟩
 exact key _ rfl
def RowI (h0:Heap) (l:List It) (lo j:Nat) (cs:List AV) (h:Heap) (n:Nat):Prop :=
 cs.length=l.length*5∧∀i (hi:i<l.length),∃a,(cs.drop (i*5)).take 5=[bv l[i].neg,a,ss l[i].var,ii l[i].lo,ii l[i].hi]∧cs[i*5+1]? = some a∧(if i<j then rd dSs (wtn lo n h) a=some l[i].types else rd dSs h0 a=some l[i].types)
theorem yDk {α:Type} {sz:Nat} {d:De α} {h:Heap} {a:AV} {l:List α} (e:rd (De.sl sz d) h a=some l):(slc h a 0 (l.length*sz)).length=l.length*sz∧∀i (hi:i<l.length),d.run h (((slc h a 0 (l.length*sz)).drop (i*sz)).take sz)=some l[i]:=by
 rcases zD8 e with ⟨rfl,_⟩|⟨id,off,k,rfl,hk,ho,hat⟩
 ·refine⟨?_,fun i hi=>by simp at hi⟩
  cases a<;>simp[slc]
  split<;>rfl
 ·simp only[slc,hk,yL]
  refine⟨by rw[zW,yS];omega,fun i hi => ?_⟩
  have hm:i*sz+sz≤l.length*sz:=by rw[←wC];exact yU _ hi
  rw[List.drop_take,List.take_take,zDp,Nat.min_eq_left (by omega)]
  exact hat i hi
theorem yIt {h0 h:Heap} {a:AV} {l:List It} {lo n:Nat} (e:rd zG5 h0 a=some l):RowI h0 l lo 0 (slc h0 a 0 (l.length*5)) h n:=by
 obtain⟨h1,h2⟩:=yDk e;refine⟨h1,fun i hi => ?_⟩
 obtain⟨ty,h3,h4⟩:=zD5 (h2 i hi);refine⟨ty,h3,?_,by rw[if_neg (by omega)];exact h4⟩
 have:=yI (c:=1) h3 rfl (by omega)
 exact this
theorem yCb {cs:List AV} {i j c sz:Nat} {z:AV} (hc:c<sz) (hij:i≠j):((cs.set (j*sz+c) z).drop (i*sz)).take sz=(cs.drop (i*sz)).take sz:=by
 apply zEp;intro x;by_cases hx:x<sz
 ·rw[zY hx,zY hx,xA,xA,zAi]
  intro he;rcases Nat.lt_or_ge i j with h|h
  ·have:(i+1)*sz≤j*sz:=yU _ h
   rw[wC]at this;omega
  ·have:(j+1)*sz≤i*sz:=yU _ (by omega)
   rw[wC]at this;omega
 ·rw[zG (by rw[zW];omega),zG (by rw[zW];omega)]
theorem zRc {cs:List AV} {j c sz:Nat} {z:AV} (hc:c<sz) (hl:j*sz+sz≤cs.length):((cs.set (j*sz+c) z).drop (j*sz)).take sz=((cs.drop (j*sz)).take sz).set c z:=by
 apply zEp;intro x;by_cases hx:x<sz
 ·rw[zY hx,xA]
  by_cases hxc:x=c
  ·subst hxc
   rw[zB7 (by omega),zB7 (by rw[zW,yS];omega)]
  ·rw[zAi (by omega),zAi (by omega),zY hx,xA]
 ·rw[zG (by rw[zW];omega),zG (by rw[zBp,zW];omega)]
theorem RowI.step {h0 h h':Heap} {l:List It} {lo j n n':Nat} {cs:List AV} {z:AV} (r:RowI h0 l lo j cs h n) (hj:j<l.length) (hn:n≤n') (ha:∀i,lo≤i→i<n→h' i=h i) (hz:rd dSs (wtn lo n' h') z=some l[j].types):RowI h0 l lo (j+1) (cs.set (j*5+1) z) h' n':=by
 refine⟨by rw[zBp];exact r.1,fun i hi => ?_⟩
 obtain⟨c,h1,h2,h3⟩:=r.2 i hi;by_cases hij:i=j
 ·subst hij
  refine⟨z,?_,by rw[zB7 (by rw[r.1];omega)],by rw[if_pos (by omega)];exact hz⟩
  rw[zRc (by omega) (by rw[r.1];omega),h1]
  rfl
 ·refine⟨c,by rw[yCb (by omega) hij];exact h1,by rw[zAi (by omega)];exact h2,?_⟩
  by_cases hlt:i<j
  ·rw[if_pos (by omega)]
   rw[if_pos hlt]at h3;exact zC8 h3 (zC _) hn ha
  ·rw[if_neg (by omega)]
   rw[if_neg hlt]at h3;exact h3
theorem RowI.fin {h0 h:Heap} {l:List It} {lo lo' n n' w u:Nat} {cs:List AV} (r:RowI h0 l lo l.length cs h n) (h1:lo'≤lo) (hn:n≤n') (hw1:lo'≤w) (hw2:w<n') (hw:h w=some ⟨cs,u,true,5⟩):rd zG5 (wtn lo' n' h) (.s w u 0 l.length)=some l:=by
 refine De.sl_in (off:=0) (k:=⟨cs,u,true,5⟩) (by rw[zJ4 hw1 hw2];exact hw) (by simp only[];rw[r.1];omega) fun i hi => ?_
 obtain⟨c,c1,c2,c3⟩:=r.2 i hi;rw[if_pos hi]at c3;simp only[yQ];rw[c1];exact zGj (zC8 c3 h1 hn fun _ _ _=>rfl)
def RowR (h0:Heap) (l:List (List Nd)) (lo j:Nat) (cs:List AV) (h:Heap) (n:Nat):Prop :=
 cs.length=l.length∧∀i (hi:i<l.length),∃a,cs[i]? = some a∧(if i<j then rd dNs (wtn lo n h) a=some l[i]else rd dNs h0 a=some l[i])
theorem yIs {h0 h:Heap} {a:AV} {l:List (List Nd)} {lo n:Nat} (e:rd zTp h0 a=some l):RowR h0 l lo 0 (slc h0 a 0 l.length) h n:=by
 obtain⟨h1,h2⟩:=yDk e;simp only[xM]at h1 h2;refine⟨h1,fun i hi => ?_⟩
 have h3:=h2 i hi;have hl:i<(slc h0 a 0 l.length).length:=by omega
 refine⟨(slc h0 a 0 l.length)[i],zA hl,?_⟩;rw[if_neg (by omega)]
 rw[xO hl]at h3;exact h3
theorem RowR.step {h0 h h':Heap} {l:List (List Nd)} {lo j n n':Nat} {cs:List AV} {z:AV} (r:RowR h0 l lo j cs h n) (hj:j<l.length) (hn:n≤n') (ha:∀i,lo≤i→i<n→h' i=h i) (hz:rd dNs (wtn lo n' h') z=some l[j]):RowR h0 l lo (j+1) (cs.set j z) h' n':=by
 refine⟨by rw[zBp];exact r.1,fun i hi => ?_⟩
 obtain⟨c,h2,h3⟩:=r.2 i hi;by_cases hij:i=j
 ·subst hij
  exact⟨z,by rw[zB7 (by rw[r.1];omega)],by rw[if_pos (by omega)];exact hz⟩
 ·refine⟨c,by rw[zAi (by omega)];exact h2,?_⟩
  by_cases hlt:i<j
  ·rw[if_pos (by omega)]
   rw[if_pos hlt]at h3;exact zC8 h3 (zC _) hn ha
  ·rw[if_neg (by omega)]
   rw[if_neg hlt]at h3;exact h3
theorem RowR.fin {h0 h:Heap} {l:List (List Nd)} {lo lo' n n' w u:Nat} {cs:List AV} (r:RowR h0 l lo l.length cs h n) (h1:lo'≤lo) (hn:n≤n') (hw1:lo'≤w) (hw2:w<n') (hw:h w=some ⟨cs,u,true,1⟩):rd zTp (wtn lo' n' h) (.s w u 0 l.length)=some l:=by
 refine De.sl_in (off:=0) (k:=⟨cs,u,true,1⟩) (by rw[zJ4 hw1 hw2];exact hw) (by simp only[];rw[r.1];omega) fun i hi => ?_
 obtain⟨c,c2,c3⟩:=r.2 i hi;rw[if_pos hi]at c3;have hl:i<cs.length:=by rw[r.1];exact hi
 rw[zA hl]at c2;simp only[yQ,xM];rw[xO hl,Option.some.inj c2];exact zC8 c3 h1 hn fun _ _ _=>rfl
structure OwnPk (sz len:Nat) (cs0:List AV) (hA:Heap) (nA:Nat) (z:AV) (hB:Heap) (nB:Nat):Prop where
 ag:agree nA hA hB
 fr:Fresh nB hB
 nn:nA≤nB
 cz:z.cells=[z]
 one:z.one
 un:∀g,AV.unc g z=z
 sS:z.isS
 sl:z.slen=len
 row:(len=0∧z=.v (.slice none 0 0))∨(0<len∧z=.s nA 0 0 len∧nA<nB∧hB nA=some ⟨cs0,0,true,sz⟩)
theorem OwnR.pk {α:Type} {sz:Nat} {d:De α} {l:List α} {a z:AV} {h hA hB:Heap} {n nA nB:Nat} (o:OwnR sz a l.length hA nA z hB nB) (e:rd (De.sl sz d) h a=some l) (hn:Fresh n h) (ha:agree n h hA) (hf:Fresh nA hA):OwnPk sz l.length (slc h a 0 (l.length*sz)) hA nA z hB nB:=by
 obtain⟨o1,o2,o3⟩:=o.fr hf;have hs:slc hA a 0 (l.length*sz)=slc h a 0 (l.length*sz):=by
  obtain⟨cs,c1,_⟩:=zMy hn e;rw[(c1 _ (zE _ _)).2,(c1 _ ha).2]
 rcases o with ⟨h0,rfl,rfl,rfl⟩|⟨h0,rfl,rfl,rfl⟩
 ·exact⟨o1,o2,o3,rfl,rfl,fun _=>rfl,⟨rfl,rfl⟩,h0.symm,.inl ⟨h0,rfl⟩⟩
 ·exact⟨o1,o2,o3,rfl,trivial,fun _=>rfl,trivial,rfl,.inr ⟨h0,rfl,by omega,by rw[zJ,hs]⟩⟩
def zq:List AV:=[.v (.slice none 0 0),ii 0,ii 0,.v (.slice none 0 0),ii 0,ss ByteArray.empty,.v (.slice none 0 0)]
structure D56 (h:Heap) (n:Nat) (q:Qu) (za zb zc:AV) (wa wc lb hb lo i k:Nat) (ca cc:List AV) (s:St):Prop where
 q1:s.e 1=.p n 0 0
 q2:s.e 2=.p (n+1) 0 0
 b1:s.h n=some ⟨[za,ii q.mode,ii q.after,zb,ii q.within,ss q.par,zc],0,true,7⟩
 b2:s.h (n+1)=some ⟨zq,0,true,7⟩
 ra:(q.items.length=0∧za=.v (.slice none 0 0))∨(0<q.items.length∧za=.s wa 0 0 q.items.length∧s.h wa=some ⟨ca,0,true,5⟩∧RowI h q.items lo i ca s.h s.n∧n+2≤wa∧wa<lo∧(wa<lb∨hb≤wa))
 rb:rd dNs (wtn lb hb s.h) zb=some q.wh
 rc:(q.ret.length=0∧zc=.v (.slice none 0 0))∨(0<q.ret.length∧zc=.s wc 0 0 q.ret.length∧s.h wc=some ⟨cc,0,true,1⟩∧RowR h q.ret lo k cc s.h s.n∧n+2≤wc∧wc<lo∧(wc<lb∨hb≤wc))
 ag:agree n h s.h
 fr:Fresh s.n s.h
 ord:n+2≤lb∧lb≤hb∧hb≤lo∧lo≤s.n∧wa≠wc
theorem yJ4 {h hA hB hC hD:Heap} {n nA nB nC nD:Nat} {q:Qu} {a b c za zb zc:AV} {s:St} (x2:rd zG5 h a=some q.items) (x3:rd dNs h b=some q.wh) (x4:rd zTp h c=some q.ret)
  (oa:OwnPk 5 q.items.length (slc h a 0 (q.items.length*5)) hA nA za hB nB) (ob:OwnPk 6 q.wh.length (slc h b 0 (q.wh.length*6)) hB nB zb hC nC) (oc:OwnPk 1 q.ret.length (slc h c 0 q.ret.length) hC nC zc hD nD)
  (hn:n+2=nA) (hag:agree n h hA) (hb2:hA (n+1)=some ⟨zq,0,true,7⟩) (q1:s.e 1=.p n 0 0) (q2:s.e 2=.p (n+1) 0 0) (he:∀i,i≠n→s.h i=hD i) (b1:s.h n=some ⟨[za,ii q.mode,ii q.after,zb,ii q.within,ss q.par,zc],0,true,7⟩) (hs:nD≤s.n):∃wa wc lb hb lo ca cc,D56 h n q za zb zc wa wc lb hb lo 0 0 ca cc s:=by
 have ha:=oa.nn;have hb:=ob.nn;have hc:=oc.nn;have aBD:agree nB hB hD:=yP ob.ag oc.ag hb;have aAD:agree nA hA hD:=yP oa.ag aBD ha;have wb:rd dNs (wtn nB nC s.h) zb=some q.wh:=by
  rcases ob.row with ⟨h0,rfl⟩|⟨h0,rfl,h1,h2⟩
  ·rw[zX.1 h0];rfl
  ·refine zB2 Flat.nd (k:=⟨slc h b 0 (q.wh.length*6),0,true,6⟩) ?_ rfl (r:=[]) (by simp[(zHy Flat.nd x3).2])
   rw[zJ4 (zC _) h1,he _ (by omega),oc.ag _ h1];exact h2
 refine⟨if 0<q.items.length then nA else n,if 0<q.ret.length then nC else n+1,nB,nC,nD,slc h a 0 (q.items.length*5),slc h c 0 q.ret.length,q1,q2,b1,?_,?_,wb,?_,?_,?_,?_⟩
 ·rw[he _ (by omega),aAD _ (by omega)];exact hb2
 ·rcases oa.row with h0|⟨h0,h1,h2,h3⟩
  ·exact .inl h0
  ·rw[if_pos h0]
   exact .inr ⟨h0,h1,by rw[he _ (by omega),aBD _ h2];exact h3,yIt x2,by omega,by omega,by omega⟩
 ·rcases oc.row with h0|⟨h0,h1,h2,h3⟩
  ·exact .inl h0
  ·rw[if_pos h0]
   exact .inr ⟨h0,h1,by rw[he _ (by omega)];exact h3,yIs x4,by omega,by omega,by omega⟩
 ·intro i hi
  rw[he _ (by omega),aAD _ (by omega)];exact hag i hi
 ·intro i hi
  rw[he _ (by omega)];exact oc.fr i (by omega)
 ·refine⟨by omega,hb,hc,hs,?_⟩
  rcases oa.row with ⟨h0,_⟩|⟨h0,h1,h2,h3⟩
  ·rw[if_neg (by omega)]
   split<;>omega
  ·rw[if_pos h0]
   split<;>omega
theorem yP7 {h:Heap} {n:Nat} {a b c:AV} {q:Qu} (x2:rd zG5 h a=some q.items) (x3:rd dNs h b=some q.wh) (x4:rd zTp h c=some q.ret) (hl1:q.items.length≤2199023255552) (hl2:q.wh.length≤2199023255552) (hl3:q.ret.length≤2199023255552) (hn:Fresh n h) {Q} (e:Nat→AV) (q0:e 0=.g [a,ii q.mode,ii q.after,b,ii q.within,ss q.par,c]) :
  awp (cx [] (pfL [])) (hdC 2 (Tryz.f56.body.getD .skip)) (zAs (fun s=>∃za zb zc wa wc lb hb lo ca cc,D56 h n q za zb zc wa wc lb hb lo 0 0 ca cc s) Q) ⟨e,h,n⟩:=by
 obtain⟨s1,s2,s3,s4,s5⟩:=zN x2;obtain⟨t1,t2,t3,t4,t5⟩:=zN x3;obtain⟨u1,u2,u3,u4,u5⟩:=zN x4;simp[evx,hdC,Tryz.f56,q0,ii,ss,s4,t4,u4];generalize hg1:up (up h n (some ⟨[a,.v (.int .i64 q.mode),.v (.int .i64 q.after),b,.v (.int .i64 q.within),.v (.string q.par),c],0,true,7⟩)) (n+1) (some ⟨[.v (.slice none 0 0),.v (.int .i64 0),.v (.int .i64 0),.v (.slice none 0 0),.v (.int .i64 0),.v (.string ByteArray.empty),.v (.slice none 0 0)],0,true,7⟩)=hA;have hag:agree n h hA:=by rw[←hg1];exact (zD (by omega) _).2 ((zD (by omega) _).2 (zE _ _))
 have hfA:Fresh (n+2) hA:=by rw[←hg1];exact (zF (by omega) _).2 ((zF (by omega) _).2 (hn.add 2))
 have hbA:hA n=some ⟨[a,.v (.int .i64 q.mode),.v (.int .i64 q.after),b,.v (.int .i64 q.within),.v (.string q.par),c],0,true,7⟩:=by rw[←hg1,zP _ _ (by omega),zJ]
 have hb2:hA (n+1)=some ⟨zq,0,true,7⟩:=by rw[←hg1,zJ];rfl
 refine (yPi (yT hn x2 _ hag) hl1 hfA).mono ?_;intro za hB nB o;have oa:=o.pk x2 hn hag hfA;have agB:=yP hag oa.ag (by omega)
 have hbB:=(oa.ag n (by omega)).trans hbA
 have nnB:=oa.nn;refine⟨zFc (fun i k e=>by rw[oa.ag i (xB e hfA)];exact e),?_⟩
 simp[evx,oa.cz,oa.one];have k110:∀Q:AV→Heap→Nat→Prop,(∀zb hC nC,OwnPk 6 q.wh.length (slc h b 0 (q.wh.length*6)) hB nB zb hC nC→Heap.le hB hC→hC n=hB n→Q zb hC nC)→ACall (cx [] fun x=>none) 110 [b] hB nB Q:=fun Q k =>
  (yNh (yT hn x3 _ agB) hl2 oa.fr).mono fun zb hC nC o=>by
   have ob:=o.pk x3 hn agB oa.fr;exact k zb hC nC ob (fun i k e=>by rw[ob.ag i (xB e oa.fr)];exact e) (ob.ag n (by omega))
 have k111:∀(zb:AV) (hC:Heap) (nC:Nat),OwnPk 6 q.wh.length (slc h b 0 (q.wh.length*6)) hB nB zb hC nC→∀Q:AV→Heap→Nat→Prop,(∀zc hD nD,OwnPk 1 q.ret.length (slc h c 0 q.ret.length) hC nC zc hD nD→Heap.le hC hD→hD n=hC n→Q zc hD nD)→ACall (cx [] fun x=>none) 111 [c] hC nC Q:=fun zb hC nC ob Q k=>by
  have agC:=yP agB ob.ag (by omega)
  refine (yPh (yT hn x4 _ agC) hl3 ob.fr).mono fun zc hD nD o => ?_
  have oc:=o.pk x4 hn agC ob.fr;rw[xM]at oc;have:=ob.nn;exact k zc hD nD oc (fun i k e=>by rw[oc.ag i (xB e ob.fr)];exact e) (oc.ag n (by omega))
 have fin:∀(zb:AV) (hC:Heap) (nC:Nat),OwnPk 6 q.wh.length (slc h b 0 (q.wh.length*6)) hB nB zb hC nC→∀(zc:AV) (hD:Heap) (nD:Nat),OwnPk 1 q.ret.length (slc h c 0 q.ret.length) hC nC zc hD nD→∀s:St,s.e 1=.p n 0 0→s.e 2=.p (n+1) 0 0→(∀i,i≠n→s.h i=hD i)→s.h n=some ⟨[za,ii q.mode,ii q.after,zb,ii q.within,ss q.par,zc],0,true,7⟩→nD≤s.n→∃za zb zc wa wc lb hb lo ca cc,D56 h n q za zb zc wa wc lb hb lo 0 0 ca cc s:=fun zb hC nC ob zc hD nD oc s e1 e2 e3 e4 e5 =>
  ⟨za,zb,zc,yJ4 x2 x3 x4 oa ob oc rfl hag hb2 e1 e2 e3 e4 e5⟩
 refine⟨k110 _ fun zb hC nC ob lC gC => ?_,?_⟩
 ·refine⟨.inl lC,?_,?_⟩
  ·refine k111 zb hC nC ob _ fun zc hD nD oc lD gD => ?_
   rw[gC,hbB]at gD;refine⟨.inl lD,?_⟩;simp[evx,ob.cz,ob.one,oc.cz,oc.one,gD];exact fin zb hC nC ob zc hD nD oc _ (by simp[up]) (by simp[up]) (fun i hi=>by simp[up,hi]) (by simp[up,ii,ss]) (by simp only[];omega)
  ·refine k111 zb hC nC ob _ fun zc hD nD oc lD gD => ?_
   rw[gC,hbB]at gD;refine⟨.inl lD,?_⟩;simp[evx,ob.cz,ob.one,oc.cz,oc.one,gD];exact fin zb hC nC ob zc hD nD oc _ (by simp[up]) (by simp[up]) (fun i hi=>by simp[up,hi]) (by simp[up,ii,ss]) (by simp only[];omega)
 ·refine k110 _ fun zb hC nC ob lC gC => ?_
  refine⟨.inl lC,?_⟩;refine k111 zb hC nC ob _ fun zc hD nD oc lD gD => ?_
  rw[gC,hbB]at gD;refine⟨.inl lD,?_⟩;simp[evx,ob.cz,ob.one,oc.cz,oc.one,gD];exact fin zb hC nC ob zc hD nD oc _ (by simp[up]) (by simp[up]) (fun i hi=>by simp[up,hi]) (by simp[up,ii,ss]) (by simp only[];omega)
end Go.Proofs.YtbffkkeieihpdaaGreatDoor
