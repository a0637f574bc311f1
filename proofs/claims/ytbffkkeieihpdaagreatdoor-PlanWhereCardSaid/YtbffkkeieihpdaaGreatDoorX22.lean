import Derived.Test.YtbffkkeieihpdaaGreatDoorX21
import Derived.Test.YtbffkkeieihpdaaGreatDoorX17
import Derived.Test.YtbffkkeieihpdaaGreatDoorX19
import Derived.Test.YtbffkkeieihpdaaGreatDoorX14
set_option linter.unusedSimpArgs false
set_option linter.unusedVariables false
set_option linter.constructorNameAsVariable false
set_option maxRecDepth 100000
set_option maxHeartbeats 4000000
namespace Go.Proofs.YtbffkkeieihpdaaGreatDoor
open Go Go.Eng
section
theorem RowR.zero {h0 h h':Heap} {l:List (List Nd)} {lo n n':Nat} {cs:List AV} (r:RowR h0 l lo 0 cs h n):RowR h0 l lo 0 cs h' n':=⟨r.1,fun i hi=>by
 obtain⟨u,u1,u2⟩:=r.2 i hi;refine⟨u,u1,?_⟩;rw[if_neg (by omega)]at u2 ⊢
 exact u2⟩
theorem RowI.full {h0 h h':Heap} {l:List It} {lo n n':Nat} {cs:List AV} (r:RowI h0 l lo l.length cs h n) (hn:n≤n') (ha:∀i,lo≤i→i<n→h' i=h i):RowI h0 l lo l.length cs h' n':=⟨r.1,fun i hi=>by
 obtain⟨u,u0,u1,u2⟩:=r.2 i hi;refine⟨u,u0,u1,?_⟩;rw[if_pos hi]at u2 ⊢;exact zDs u2 (zD _) hn ha⟩
section
variable {h:Heap} {n:Nat} {q:Qu} {za zb zc:AV} {wa wc lb hb lo:Nat}
theorem ySq (hl:q.items.length≤2199023255552) (hla:∀t∈q.items,t.types.length≤2199023255552) (hn:Fresh n h) {cc:List AV} (ca:List AV) (s:St) {Q} (D:D56 h n q za zb zc wa wc lb hb lo 0 0 ca cc s) :
  awp (cx [] (pfL [])) (hdC 1 (tlC 2 (Tryz.f56.body.getD .skip))) (zAs (fun s=>∃ca,D56 h n q za zb zc wa wc lb hb lo q.items.length 0 ca cc s) Q) s:=by
 obtain⟨e,h1,n1⟩:=s;show awp (cx [] (pfL [])) (.seq (hdC 1 (hdC 1 (tlC 2 (Tryz.f56.body.getD .skip)))) (.block 0 (.loop (yP (hdC 1 (tlC 2 (Tryz.f56.body.getD .skip))))))) _ _;obtain⟨q1,q2,b1,b2,ra,rb,rc,ag,fr,ord⟩:=D;simp only[]at q1 q2 b1 b2 ra rb rc ag fr ord;have hz:za.isS∧za.slen=q.items.length∧(∀g,AV.unc g za=za)∧za.cells=[za]:=by
  rcases ra with ⟨r1,rfl⟩|⟨r1,rfl,_⟩
  ·exact⟨⟨rfl,rfl⟩,by rw[r1];rfl,fun _=>rfl,rfl⟩
  ·exact⟨trivial,rfl,fun _=>rfl,rfl⟩
 obtain⟨t1,t2,t3,t4⟩:=hz;simp[evx,hdC,tlC,yP,Tryz.f56,q1,b1,t1,t2];refine yK (fun s=>∃j ca,j≤q.items.length∧s.e 19=ii q.items.length∧s.e 20=ii j∧D56 h n q za zb zc wa wc lb hb lo j 0 ca cc s) (fun s=>q.items.length-(s.e 20).i.toNat) ⟨0,ca,by omega,by simp[up,ii],by simp[up,ii],⟨by simp[up,q1],by simp[up,q2],b1,b2,ra,rb,rc,ag,fr,ord⟩⟩ ?_
 clear ra rb rc;rintro e' h' n' ⟨j,cs,hj,q19,q20,D⟩;simp only[]at q19 q20;obtain⟨q1,q2,b1,b2,ra,rb,rc,ag,fr,ord⟩:=D;simp only[]at q1 q2 b1 b2 ra rb rc ag fr ord;by_cases hlt:j<q.items.length
 ·obtain⟨r1,rfl,r2,r3,r4,r5,r6⟩:=ra.resolve_left (by omega)
  obtain⟨c,c1,c2,c3⟩:=r3.2 j hlt;rw[if_neg (by omega)]at c3
  have c3':=yS hn c3 _ ag;have hcl:=r3.1;have hbd:j*5+1<cs.length:=by omega
  have c4:∀hb:j*5+1<cs.length,cs[j*5+1]'hb=c:=fun hb=>by rw[zA hb]at c2;exact Option.some.inj c2
  have hw:=yF (j:=j) (by unfold big;omega)
  have hb2:j*5+2≤cs.length:=by omega
  have hla':=hla _ (zF hlt);simp[evx,q19,q20,q1,b1,ii,ss,hlt,r2,c4,hbd,hb2];refine (yP1 c3' hla' fr).mono ?_;intro v h3 n3 o;obtain⟨o1,o2,o3⟩:=o.fr fr;have hle:Heap.le h' h3:=fun i k e=>by rw[o1 i (xI e fr)];exact e
  have ov:=o.flat Flat.str c3';have hv:v.cells=[v]∧v.one:=by
   rcases o with ⟨_,rfl,_⟩|⟨_,rfl,_⟩
   ·exact⟨rfl,rfl⟩
   ·exact⟨rfl,trivial⟩
  have g1:=(o1 wa (by omega)).trans r2
  have g2:=(o1 n (by omega)).trans b1
  refine⟨.inl hle,?_⟩;simp[evx,g1,hv.1,hv.2,hb2,hw];have a1:∀b,agree n h (up h3 wa b):=fun b=>(zC (by omega) _).2 (yJ ag o1 (by omega))
  have a2:∀b,Fresh (n3+1) (up h3 wa b):=fun b=>(zG (by omega) _).2 (o2.add 1)
  have a3:∀b i,i≠wa→i<n'→up h3 wa b i=h' i:=fun b i h1 h2=>by rw[zP _ _ h1];exact o1 _ h2
  refine⟨⟨j+1,hlt,by simp,cs.set (j*5+1) v,⟨by simp[up,q1],by simp[up,q2],?_,?_,.inr ⟨r1,rfl,by simp[up],r3.step hlt (by simp only[];omega) (fun i h1 h2 => ?_) (zDs ov (by omega) (by simp only[];omega) fun i h1 h2 => ?_),r4,r5,r6⟩,?_,?_,a1 _,a2 _,by simp only[];omega⟩⟩,by omega⟩
  ·simp only[]
   rw[a3 _ _ (by omega) (by omega)];exact b1
  ·simp only[]
   rw[a3 _ _ (by omega) (by omega)];exact b2
  ·simp only[]
   exact a3 _ _ (by omega) h2
  ·simp only[]
   rw[zP _ _ (by omega)]
  ·exact zDs rb (zD _) (zD _) fun i h1 h2=>a3 _ _ (by omega) (by omega)
  ·refine rc.imp id fun⟨y1,y2,y3,y4,y5,y6,y7⟩=>⟨y1,y2,?_,y4.zero,y5,y6,y7⟩
   simp only[];rw[a3 _ _ (by omega) (by omega)];exact y3
 ·obtain rfl:j=q.items.length:=by omega
  simp[evx,q19,q20,ii];exact⟨cs,⟨by simp[up,q1],by simp[up,q2],b1,b2,ra,rb,rc,ag,fr,ord⟩⟩
theorem ySp (hl:q.ret.length≤2199023255552) (hla:∀t∈q.ret,t.length≤2199023255552) (hn:Fresh n h) {ca:List AV} (cc:List AV) (s:St) {Q} (D:D56 h n q za zb zc wa wc lb hb lo q.items.length 0 ca cc s) :
  awp (cx [] (pfL [])) (hdC 1 (tlC 3 (Tryz.f56.body.getD .skip))) (zAs (fun s=>∃cc,D56 h n q za zb zc wa wc lb hb lo q.items.length q.ret.length ca cc s) Q) s:=by
 obtain⟨e,h1,n1⟩:=s;show awp (cx [] (pfL [])) (.seq (hdC 1 (hdC 1 (tlC 3 (Tryz.f56.body.getD .skip)))) (.block 2 (.loop (yP (hdC 1 (tlC 3 (Tryz.f56.body.getD .skip))))))) _ _;obtain⟨q1,q2,b1,b2,ra,rb,rc,ag,fr,ord⟩:=D;simp only[]at q1 q2 b1 b2 ra rb rc ag fr ord;have hz:zc.isS∧zc.slen=q.ret.length∧(∀g,AV.unc g zc=zc)∧zc.cells=[zc]:=by
  rcases rc with ⟨r1,rfl⟩|⟨r1,rfl,_⟩
  ·exact⟨⟨rfl,rfl⟩,by rw[r1];rfl,fun _=>rfl,rfl⟩
  ·exact⟨trivial,rfl,fun _=>rfl,rfl⟩
 obtain⟨t1,t2,t3,t4⟩:=hz;simp[evx,hdC,tlC,yP,Tryz.f56,q1,b1,t1,t2];refine yK (fun s=>∃j cc,j≤q.ret.length∧s.e 38=ii q.ret.length∧s.e 39=ii j∧D56 h n q za zb zc wa wc lb hb lo q.items.length j ca cc s) (fun s=>q.ret.length-(s.e 39).i.toNat) ⟨0,cc,by omega,by simp[up,ii],by simp[up,ii],⟨by simp[up,q1],by simp[up,q2],b1,b2,ra,rb,rc,ag,fr,ord⟩⟩ ?_
 clear ra rb rc;rintro e' h' n' ⟨j,cs,hj,q38,q39,D⟩;simp only[]at q38 q39;obtain⟨q1,q2,b1,b2,ra,rb,rc,ag,fr,ord⟩:=D;simp only[]at q1 q2 b1 b2 ra rb rc ag fr ord;by_cases hlt:j<q.ret.length
 ·obtain⟨r1,rfl,r2,r3,r4,r5,r6⟩:=rc.resolve_left (by omega)
  obtain⟨c,c2,c3⟩:=r3.2 j hlt;rw[if_neg (by omega)]at c3
  have c3':=yS hn c3 _ ag;have hcl:=r3.1;have hbd:j<cs.length:=by omega
  have c4:∀hb:j<cs.length,cs[j]'hb=c:=fun hb=>by rw[zA hb]at c2;exact Option.some.inj c2
  have hw:=yF (j:=j) (by unfold big;omega)
  have hb2:j+1≤cs.length:=by omega
  have hla':=hla _ (zF hlt);simp[evx,q38,q39,q1,b1,ii,ss,hlt,r2,c4,hbd,hb2];refine (yP0 c3' hla' fr).mono ?_;intro v h3 n3 o;obtain⟨o1,o2,o3⟩:=o.fr fr;have hle:Heap.le h' h3:=fun i k e=>by rw[o1 i (xI e fr)];exact e
  have ov:=o.flat Flat.nd c3';have hv:v.cells=[v]∧v.one:=by
   rcases o with ⟨_,rfl,_⟩|⟨_,rfl,_⟩
   ·exact⟨rfl,rfl⟩
   ·exact⟨rfl,trivial⟩
  have g1:=(o1 wc (by omega)).trans r2
  have g2:=(o1 n (by omega)).trans b1
  refine⟨.inl hle,?_⟩;simp[evx,g1,hv.1,hv.2,hb2,hw];have a1:∀b,agree n h (up h3 wc b):=fun b=>(zC (by omega) _).2 (yJ ag o1 (by omega))
  have a2:∀b,Fresh (n3+1) (up h3 wc b):=fun b=>(zG (by omega) _).2 (o2.add 1)
  have a3:∀b i,i≠wc→i<n'→up h3 wc b i=h' i:=fun b i h1 h2=>by rw[zP _ _ h1];exact o1 _ h2
  refine⟨⟨j+1,hlt,by simp,cs.set j v,⟨by simp[up,q1],by simp[up,q2],?_,?_,?_,?_,.inr ⟨r1,rfl,by simp[up],r3.step hlt (by simp only[];omega) (fun i h1 h2 => ?_) (zDs ov (by omega) (by simp only[];omega) fun i h1 h2 => ?_),r4,r5,r6⟩,a1 _,a2 _,by simp only[];omega⟩⟩,by omega⟩
  ·simp only[]
   rw[a3 _ _ (by omega) (by omega)];exact b1
  ·simp only[]
   rw[a3 _ _ (by omega) (by omega)];exact b2
  ·refine ra.imp id fun⟨y1,y2,y3,y4,y5,y6,y7⟩=>⟨y1,y2,?_,y4.full (by simp only[];omega) fun i h1 h2=>a3 _ _ (by omega) h2,y5,y6,y7⟩
   simp only[];rw[a3 _ _ (by omega) (by omega)];exact y3
  ·exact zDs rb (zD _) (zD _) fun i h1 h2=>a3 _ _ (by omega) (by omega)
  ·simp only[]
   exact a3 _ _ (by omega) h2
  ·simp only[]
   rw[zP _ _ (by omega)]
 ·obtain rfl:j=q.ret.length:=by omega
  simp[evx,q38,q39,ii];exact⟨cs,⟨by simp[up,q1],by simp[up,q2],b1,b2,ra,rb,rc,ag,fr,ord⟩⟩
theorem b56 {x:AV} (e1:deQ h x=some q) (hl1:q.items.length≤2199023255552) (hl2:q.wh.length≤2199023255552) (hl3:q.ret.length≤2199023255552) (hla:∀t∈q.items,t.types.length≤2199023255552) (hlr:∀t∈q.ret,t.length≤2199023255552) (hn:Fresh n h) :
  ACall (cx [] (pfL [])) 56 [x] h n fun z h' n'=>agree n h h'∧Fresh n' h'∧n≤n'∧deQ (wtn n n' h') z=some q:=by
 refine yV (args:=[x]) (zA1 yH) (zCm _ _) Tryz.func56 (c:=Tryz.f56.body.getD .skip) rfl (by kernel_rfl) (xM Tryz.func56 rfl rfl _ _) (show 1≤Tryz.f56.ntmps by decide +kernel) ?_
 obtain⟨a,b,c,rfl,x2,x3,x4⟩:=xP e1;refine zX 2 _ _ (ySr x2 x3 x4 hl1 hl2 hl3 hn _ rfl) fun y1 h1 n1 ⟨za,zb,zc,wa,wc,lb,hb,lo,ca,cc,D⟩ => ?_
 refine zX 1 _ _ (ySq hl1 hla hn _ _ D) fun y2 h2 n2 ⟨ca2,D2⟩ => ?_
 refine zX 1 _ _ (ySp hl3 hlr hn _ _ D2) fun y3 h3 n3 ⟨cc2,D3⟩ => ?_
 obtain⟨q1,q2,b1,b2,ra,rb,rc,ag,fr,ord⟩:=D3;simp only[]at q1 q2 b1 b2 ra rb rc ag fr ord;have hza:za.cells=[za]∧za.one∧∀g,AV.unc g za=za:=by
  rcases ra with ⟨r1,rfl⟩|⟨r1,rfl,_⟩
  ·exact⟨rfl,rfl,fun _=>rfl⟩
  ·exact⟨rfl,trivial,fun _=>rfl⟩
 have hzc:zc.cells=[zc]∧zc.one∧∀g,AV.unc g zc=zc:=by
  rcases rc with ⟨r1,rfl⟩|⟨r1,rfl,_⟩
  ·exact⟨rfl,rfl,fun _=>rfl⟩
  ·exact⟨rfl,trivial,fun _=>rfl⟩
 obtain⟨t1,t2,t3,t4,t5⟩:=zK rb;simp[evx,tlC,Tryz.f56,q1,q2,b1,b2,ii,ss,zq,hza.2,hzc.2,t4];refine⟨(zC (by omega) _).2 ag,(zG (by omega) _).2 (fr.add 1),by omega,?_⟩
 generalize some (⟨[za,.v (.int .i64 q.mode),.v (.int .i64 q.after),zb,.v (.int .i64 q.within),.v (.string q.par),zc],0,true,7⟩:Blk)=B;have g:∀i,i≠n+1→up h3 (n+1) B i=h3 i:=fun i hi=>zP _ _ hi
 refine zG3 ?_ (zDs rb (by omega) (by omega) fun i h1 h2=>g i (by omega)) ?_
 ·rcases ra with ⟨r1,rfl⟩|⟨r1,rfl,r2,r3,r4,r5,r6⟩
  ·rw[yC.1 r1];rfl
  ·exact (r3.full (zD _) (fun i h1 h2=>g i (by omega))).fin (by omega) (by omega) (by omega) (by omega) (by rw[g _ (by omega)];exact r2)
 ·rcases rc with ⟨r1,rfl⟩|⟨r1,rfl,r2,r3,r4,r5,r6⟩
  ·rw[yC.1 r1];rfl
  ·refine RowR.fin (h0:=h) (lo:=lo) (n:=n3) ⟨r3.1,fun i hi => ?_⟩ (by omega) (by omega) (by omega) (by omega) (by rw[g _ (by omega)];exact r2)
   rw[yFd _ (.inl (by omega))]
   exact r3.2 i hi
end
end
section
theorem zZ2 {t:List Nd} {f g:Nat→Ins} {k:Nat}:∀{n:Nat},k<n→(zH1 t f g n)[zBg t k]? = some (f k)
 | 0,h=>by omega
 | n+1,h=>by
  simp only[zH1];by_cases e:k=n
  ·subst e
   rw[yN (by rw[zB4];exact zD _),zB4,zDr]
   rfl
  ·have hl:=zGd (t:=t) (k:=k) (n:=n) (by omega)
   rw[zQ (by rw[zB4];omega)]
   exact zZ2 (by omega)
theorem zZ4 {t:List Nd} {f g:Nat→Ins} {k:Nat} (hp:(zHc t k).isSome=true):∀{n:Nat},k<n→(zH1 t f g n)[zBg t k+1]? = some (g k)
 | 0,h=>by omega
 | n+1,h=>by
  simp only[zH1];by_cases e:k=n
  ·subst e
   rw[yN (by rw[zB4];omega),zB4,Nat.add_sub_cancel_left,if_pos hp]
   rfl
  ·have hl:=zGd (t:=t) (k:=k) (n:=n) (by omega)
   rw[if_pos hp]at hl;rw[zQ (by rw[zB4];omega)]
   exact zZ4 hp (by omega)
theorem yDs {sc:List Ty} {t:List Nd} {i:Nat} (hi:i<t.length) (h:4≤t[i].op∧t[i].op≤11∧t[i].op≠5):0≤zAn (zBr t) t[i].attr∧((zBr t).map (zC7 sc))[(zAn (zBr t) t[i].attr).toNat]? = some (zC7 sc t[i].attr):=by
 obtain⟨m,hm⟩:=zLq t (i+1) (t.length-(i+1));rw[show i+1+(t.length-(i+1))=t.length by omega]at hm
 have h1:wY t (i+1)=zJ7 (wY t i) t[i].attr:=by rw[wY,zBh hi,zMo,if_pos h]
 have h2:(zBr t).findIdx (· == t[i].attr)<(zBr t).length:=by
  unfold zBr;rw[hm];exact (yF9 m (by rw[h1];exact yBo _ _)).2
 have h3:zAn (zBr t) t[i].attr=(((zBr t).findIdx (· == t[i].attr):Nat):Int):=by unfold zAn;rw[if_pos h2]
 have h4:=List.findIdx_getElem (w:=h2);rw[h3,zV];refine⟨by omega,?_⟩
 rw[xJ,zA h2,zM];have h5:(zBr t)[(zBr t).findIdx (· == t[i].attr)]=t[i].attr:=by rw[←zEt];exact h4
 rw[h5]
def isT (v:V):Prop:=v.k=true→v.n=0∨v.n=1
theorem zTy (r:Int):isT (zFm r):=by
 unfold zFm isT
 repeat' split
 all_goals simp
theorem zX8 (b:Bool):isT (zGc b):=by
 unfold zGc isT;split<;>simp
theorem yJu (o:Int) (a b:V):isT (yJv o a b):=by
 unfold yJv
 repeat' split
 all_goals first|exact zX8 _|(intro h;cases h)
theorem yDn {sc:List Ty} {it:Int} {en:En} {x:Nd} {va vb:V} (h:zAj x.op=true):isT (zDa sc it en x va vb):=by
 unfold zAj at h;simp only[decide_eq_true_eq]at h;unfold zDa;by_cases h1:x.op=1
 ·omega
 by_cases h2:x.op=2
 ·rw[if_neg h1,if_pos h2];exact fun _=>.inr rfl
 by_cases h3:x.op=3
 ·rw[if_neg h1,if_neg h2,if_pos h3];exact fun _=>.inl rfl
 by_cases h4:x.op≤11
 ·omega
 by_cases h5:x.op=12
 ·omega
 rw[if_neg h1,if_neg h2,if_neg h3,if_neg h4,if_neg h5];by_cases h6:x.op=13
 ·rw[if_pos h6];exact zTy _
 rw[if_neg h6];unfold zCy
 repeat' split
 all_goals first|omega|exact zTy _|exact yJu _ _ _
theorem zFs (st:List V) (v:V):(st++[v]).getLastD unk=v:=by simp[List.getLastD_eq_getLast?]
theorem zIw (st:List V) (v:V):(st++[v]).dropLast=st:=by simp
section
variable {sc:List Ty} {vs:List ByteArray} {t:List Nd} {lo:Nat→Nat} {en:En}
def zF1 (sc:List Ty) (vs:List ByteArray) (t:List Nd):Pr:=⟨zMx vs t,(zBr t).map (zC7 sc)⟩
theorem yLa {i:Nat} (hi:i<t.length):∃h:zBg t i<(zF1 sc vs t).code.length,(zF1 sc vs t).code[zBg t i]'h=zR0 (zBr t) (wK vs t[i]) t[i]:=by
 have h1:(zMx vs t)[zBg t i]? = some (zGl vs t i):=zZ2 hi;obtain⟨h2,h3⟩:=zY.1 h1;exact⟨h2,h3.trans (by rw[zGl,zBh hi])⟩
theorem yId (h:zMv vs t t.length=true) {i:Nat} (hi:i<t.length):zC5 vs t t[i]=true:=by
 unfold zMv at h;rw[xN,zJ]at h;exact h _ (zF hi)
theorem yHj (T:Tre t lo) (hok:zMv vs t t.length=true):∀(i:Nat),i<t.length→∀st:List V,zIt (zF1 sc vs t) en (zBg t (lo i)) st=zIt (zF1 sc vs t) en (zBg t i+1) (st++[zCj sc (t.map (wK vs)) en t i]):=by
 intro i
 induction i using Nat.strongRecOn with
 | _ i ih =>
  intro hi st;obtain⟨hlt,hown⟩:=yLa (sc:=sc) (vs:=vs) hi;have hv:=zN0 (sc:=sc) (its:=t.map (wK vs)) (en:=en) hi;have hits:(t.map (wK vs)).getD i 0=wK vs t[i]:=by rw[zB,xJ,zA hi];rfl
  rw[hits]at hv;have hno:=yId hok hi;rcases T.kind i hi with ⟨b1,b2,b3,b4,b⟩|⟨b0,b1,b2,b3,b⟩|⟨b0,b0',b1,b2,a,b3,b4,b⟩
  ·rw[b]
   have key:zBu (zF1 sc vs t) en (zF1 sc vs t).code[zBg t i] (zBg t i) st=some (zBg t i+1,st++[zCj sc (t.map (wK vs)) en t i]):=by
    rw[hown,hv];unfold zR0 zDa;by_cases o1:t[i].op=1
    ·simp only[o1,if_true]
     exact zIk (by simp only[zAx];omega) rfl
    by_cases o2:t[i].op=2
    ·simp only[o2,if_true]
     exact zIk (by simp[zAx]) rfl
    by_cases o3:t[i].op=3
    ·simp only[o3,if_true]
     exact zIk (by simp[zAx]) rfl
    rw[if_neg o1,if_neg o2,if_neg o3,if_neg o1,if_neg o2,if_neg o3,if_pos b2];by_cases o5:t[i].op=5
    ·simp only[o5]
     exact zM1 (by simp only[zAx];simp) rfl
    obtain⟨n1,n2⟩:=yDs (sc:=sc) hi ⟨by omega,b2,o5⟩
    by_cases o4:t[i].op=4
    ·simp only[o4]
     exact zKm (p:=zF1 sc vs t) (by simp only[zAx];simp) (by simp) (by simp;exact n1) n2
    by_cases o11:t[i].op=11
    ·simp only[o11]
     exact zKm (p:=zF1 sc vs t) (by simp only[zAx];simp) (by simp) (by simp;exact n1) n2
    rw[if_neg o4,if_neg o11,if_neg o5,if_pos (by omega)]
    have hcm:zD6 t[i].op=t[i].op-1:=by unfold zD6;rw[if_neg o5,if_neg o11,if_neg o4]
    rw[hcm];exact zKm (p:=zF1 sc vs t) (by simp only[zAx];(repeat' split)<;>omega) (by simp only[];omega) (by simp only[];omega) n2
   exact zFu hlt key
  ·have hpu:=zQo T hi (by omega) b1
   rw[b,ih (i-1) (by omega) (by omega) st,←hpu]
   have hva:zXl (zCg sc (t.map (wK vs)) en t i) t[i].a=zCj sc (t.map (wK vs)) en t (i-1):=by
    rw[zOo (by omega) (by omega),b2,zV]
   rw[hva]at hv;have key:zBu (zF1 sc vs t) en (zF1 sc vs t).code[zBg t i] (zBg t i) (st++[zCj sc (t.map (wK vs)) en t (i-1)])=some (zBg t i+1,st++[zCj sc (t.map (wK vs)) en t i]):=by
    rw[hown,hv];unfold zR0 zDa;rcases b0 with o|o
    ·simp only[o]
     refine (zTr (by simp[zAx];omega) (by simp)).trans ?_
     rw[zFs,zIw];simp
    ·simp only[o]
     refine (zTq (by simp[zAx];omega) (by simp)).trans ?_
     rw[zFs,zIw];simp
   exact zFu hlt key
  ·have hpu:=zQo T hi (by omega) b1
   have hle:=T.le (i-1) (by omega)
   have hva:zXl (zCg sc (t.map (wK vs)) en t i) t[i].a=zCj sc (t.map (wK vs)) en t a:=by
    rw[zOo (by omega) (by omega),b3,zV]
   have hvb:zXl (zCg sc (t.map (wK vs)) en t i) t[i].b=zCj sc (t.map (wK vs)) en t (i-1):=by
    rw[zOo (by omega) (by omega),b2,zV]
   rw[hva,hvb]at hv;have hv':zCj sc (t.map (wK vs)) en t i=zCy t[i].op (zCj sc (t.map (wK vs)) en t a) (zCj sc (t.map (wK vs)) en t (i-1)):=by
    rw[hv];unfold zDa;rw[if_neg (by omega),if_neg (by omega),if_neg (by omega),if_neg (by omega),if_neg (by omega),if_neg (by omega)]
   have hsk:=zY2 T hi b0 b3;rw[b,ih a (by omega) (by omega) st]
   have two:zIt (zF1 sc vs t) en (zBg t (lo (i-1))) (st++[zCj sc (t.map (wK vs)) en t a])=zIt (zF1 sc vs t) en (zBg t i+1) (st++[zCj sc (t.map (wK vs)) en t i]):=by
    rw[ih (i-1) (by omega) (by omega),←hpu]
    refine zFu (q:=(zBg t i+1,st++[zCj sc (t.map (wK vs)) en t i])) hlt ?_;rw[hown,hv'];have:zR0 (zBr t) (wK vs t[i]) t[i]=⟨t[i].op-2,0,0,0,0⟩:=by
     unfold zR0;rw[if_neg (by omega),if_neg (by omega),if_neg (by omega),if_neg (by omega),if_neg (by omega),if_neg (by omega),if_neg (by omega)]
    rw[this];refine (zTp (by simp only[zAx,zR,List.length_cons,zAi];(repeat' split)<;>omega) (by simp only[];omega)).trans ?_
    rw[zFs,zIw,zFs,zIw,show t[i].op-2+2=t[i].op by omega]
   by_cases h25:25≤t[i].op
   ·rw[if_pos h25]at hsk
    rw[b4]at two;rw[hsk]at two;have hpa:=zQq T hi h25 b3;have hj:(zMx vs t)[zBg t a+1]? = some (zKd t (fun p=>zBg t p+1) a):=zZ4 (by rw[hpa];rfl) (by omega)
    have hje:zKd t (fun p=>zBg t p+1) a=⟨t[i].op,0,0,0,(zBg t i:Int)+1⟩:=by
     unfold zKd;rw[hpa];simp only[];rw[zBh hi];simp
    rw[hje]at hj;obtain⟨h2,h3⟩:∃h:zBg t a+1<(zF1 sc vs t).code.length,(zF1 sc vs t).code[zBg t a+1]'h=⟨t[i].op,0,0,0,(zBg t i:Int)+1⟩:=zY.1 hj;have hlen:(zF1 sc vs t).code.length=zBg t t.length:=zB4 _ _ _;have hpl:=zGd (t:=t) hi;have hpl2:=zGd (t:=t) (k:=a) (n:=i) (by omega)
    rw[hpa]at hpl2;simp only[zEh,if_true]at hpl2;have htr:isT (zCj sc (t.map (wK vs)) en t a):=by
     rw[zN0 (show a<t.length by omega)]
     refine yDn ?_;unfold zC5 at hno;rw[if_neg (by omega),if_neg (by omega),b3,zV,zBh (show a<t.length by omega)]at hno
     simp only[zH,beq_iff_eq]at hno;rw[hno.1];unfold zBt;simp;omega
    have hjt:¬((⟨t[i].op,0,0,0,(zBg t i:Int)+1⟩:Ins).to≤((zBg t a+1:Nat):Int)∨(⟨t[i].op,0,0,0,(zBg t i:Int)+1⟩:Ins).to > (zF1 sc vs t).code.length):=by
     simp only[];rw[hlen];omega
    have hne:¬(zAx (⟨t[i].op,0,0,0,(zBg t i:Int)+1⟩:Ins).code<0∨((st++[zCj sc (t.map (wK vs)) en t a]).length:Int)<zAx (⟨t[i].op,0,0,0,(zBg t i:Int)+1⟩:Ins).code):=by
     simp only[zAx,zR,List.length_cons,zAi]
     (repeat' split)<;>omega
    by_cases hd:(zCj sc (t.map (wK vs)) en t a).k=true∧((zCj sc (t.map (wK vs)) en t a).n≠0↔t[i].op=26)
    ·have hst:=zP9 (p:=zF1 sc vs t) (e:=en) hne h25 hjt (by rw[zFs];exact hd)
     rw[←h3]at hst;rw[zFu h2 hst];have h01:=htr hd.1;have:zCj sc (t.map (wK vs)) en t i=zCj sc (t.map (wK vs)) en t a:=by
      rw[hv'];have hr3:=zV9 (zCj sc (t.map (wK vs)) en t (i-1));generalize zCj sc (t.map (wK vs)) en t a=va at *;generalize zCj sc (t.map (wK vs)) en t (i-1)=vb at *;obtain⟨vk,vn⟩:=va;simp only[]at hd h01;obtain⟨rfl,hd2⟩:=hd;rcases (show t[i].op=25∨t[i].op=26 by omega)with o|o
      ·rw[o]at hd2 ⊢
       have:vn=0:=by
        rcases h01 with h|h
        ·exact h
        ·exact absurd (hd2.1 (by rw[h];decide)) (by decide)
       subst this;simp only[zCy];simp[yKf,zEo,zFm];unfold zEo at hr3;rcases hr3 with h|h|h<;>simp[h]
      ·rw[o]at hd2 ⊢
       have:vn=1:=by
        rcases h01 with h|h
        ·exact absurd h (hd2.2 rfl)
        ·exact h
       subst this;simp only[zCy];simp[orV,zEo,zFm];unfold zEo at hr3;rcases hr3 with h|h|h<;>simp[h]
     rw[this];simp only[h3];rw[show ((zBg t i:Int)+1).toNat=zBg t i+1 by omega]
    ·have hst:=zP8 (p:=zF1 sc vs t) (e:=en) hne h25 hjt (by rw[zFs];exact hd)
     rw[←h3]at hst;rw[zFu h2 hst];exact two
   ·rw[if_neg h25]at hsk
    rw[b4,hsk]at two;exact two
theorem yCw (h:zI9 vs t=true):zTu (zA2 sc vs t) en=(zFb sc vs en t,0):=by
 have hr:=h;simp only[zI9,zH]at hr;have T:=zC4 hr.1;have hpos:=T.pos;rw[zA2,if_pos h,zFb,if_pos h,zTt];have:=yHj (sc:=sc) (vs:=vs) (en:=en) T hr.2 (t.length-1) (by omega) []
 rw[T.root]at this
 refine this.trans ?_;rw[List.nil_append,zUt]
 ·rfl
 ·show (zMx vs t).length≤_
  rw[zMx,zB4,zY3 T];exact zD _
end
end
section
def yGw (p:Int→Bool) (vs:List ByteArray) (t:List Nd) (i:Int):Bool:=t.any fun x=>p x.op&&decide (zAn vs x.var=i)
def wX (p:Int→Bool) (vs:List ByteArray) (t:List Nd):List Int:=((List.range vs.length).map fun i:Nat=>(i:Int)).filter (yGw p vs t)
def wS (o:Int):Bool:=decide (o=4∨o=11)
def zC0 (o:Int):Bool:=decide (o=11)
def zDe (o:Int):Bool:=decide (5≤o∧o≤10)
theorem zKk {p:Int→Bool} {vs:List ByteArray} {t:List Nd} {x:Nd} (hx:x∈t) (hp:p x.op=true) (h0:0≤zAn vs x.var):zAn vs x.var∈wX p vs t:=by
 have h1:zAn vs x.var<(vs.length:Int):=by unfold zAn;split<;>omega
 refine wM.2 ⟨xF.2 ⟨(zAn vs x.var).toNat,xQ.2 (by omega),by omega⟩,?_⟩
 exact zCe.2 ⟨x,hx,by simp[hp]⟩
section
variable {bare agg:List Int} {each:Int} {other ls:List (List Ev)}
end
theorem yLb {t:List Nd} {lo:Nat→Nat} (T:Tre t lo) (j:Nat) (hj:j<t.length):1≤t[j].op:=by
 rcases T.kind j hj with ⟨z1,_⟩|⟨z0,_⟩|⟨z0,_⟩<;>omega
end
section
theorem zD3 {x:Int} (h1 : -1≤x) (h2:x<4611686018427387904):IntKind.i64.wrap x=x:=zMz (n:=x) (by unfold Rng;omega)
theorem yG1 {t:List Nd} {lo:Nat→Nat} (T:Tre t lo) (hf:∀i (hi:i<t.length),zBi t[i]=true):zAu t=true:=by
 have key:∀j,j≤t.length→zDn t j=some ((List.range j).map fun i=>(lo i:Int)):=by
  intro j
  induction j with
  | zero=>intro _;rfl
  | succ j ih =>
   intro hj;have hjl:j<t.length:=by omega
   simp only[zDn,ih (by omega),zT]
   rw[zBh hjl];have hfj:=hf j hjl;have hgd:∀i,i<j→((List.range j).map fun i=>(lo i:Int)).getD i 0=lo i:=fun i hi=>by
    rw[zB,xJ,zD1 hi];rfl
   have hlf:=zHy t[j];rw[zCr,yM,wO,List.map_nil];rcases T.kind j hjl with ⟨b1,b2,b3,b4,b⟩|⟨b0,b1,b2,b3,b⟩|⟨b0,b0',b1,b2,a,b3,b4,b⟩
   ·have har:zBc t[j].op=0:=by unfold zBc;rw[if_pos ⟨b1,b2⟩]
    rw[har,hfj,b3,b4]at hlf;have hl:zHz t[j]=true:=by rw[hlf];rfl
    rw[zAy,if_pos hl,b]
   ·have har:zBc t[j].op=1:=by unfold zBc;grind
    rw[har]at hlf;have hl:¬zHz t[j]=true:=by rw[hlf];simp
    have hbf:=zIa t[j] (by omega)
    rw[zAy,if_neg hl,if_pos b0,if_neg (by rw[←hbf,hfj];simp;omega),hgd (j-1) (by omega),b]
   ·have har:zBc t[j].op=2:=by unfold zBc;grind
    rw[har]at hlf;have hl:¬zHz t[j]=true:=by rw[hlf];simp
    have hbf:=zIa t[j] (by omega)
    have hle:=T.le (j-1) (by omega)
    rw[zAy,if_neg hl,if_neg (by omega),if_pos ⟨b0,b0'⟩,if_neg (by rw[←hbf,hfj,hgd (j-1) (by omega)];simp;omega),b3,zV,hgd a (by omega),b]
 rw[←zP0];unfold yCb;rw[key t.length (zD _)];have hp:=T.pos;simp only[zH,decide_eq_true_eq];refine⟨hp,?_⟩;rw[zB,xJ,zD1 (by omega)]
 simp[T.root]
theorem zR7 {t:List Nd} (h:zAu t=true) (i:Nat) (hi:i<t.length):zBi t[i]=true:=(zLg h i hi).fl
def onN (d:Nat) (x:Nd):Nd:=⟨x.op,x.n,x.var,x.attr,if 0≤x.a then x.a+d else x.a,if 0≤x.b then x.b+d else x.b⟩
structure Emb (s t:List Nd) (d:Nat):Prop where
 len:d+s.length≤t.length
 at':∀i (hi:i<s.length) (hj:d+i<t.length),t[d+i]=onN d s[i]
section
variable {sc:List Ty} {vs:List ByteArray} {en:En} {s t:List Nd} {d:Nat}
theorem yL4 {lo:Nat→Nat} (S:Tre s lo) (e:Emb s t d) (i:Nat) (hi:i<s.length):zC5 vs t (onN d s[i])=zC5 vs s s[i]:=by
 have hl:=e.len;have hop:(onN d s[i]).op=s[i].op:=rfl;have hget:∀c:Nat,c<s.length→(t.getD (d+c) nd0).op=(s.getD c nd0).op:=fun c hc=>by
  rw[zBh (show d+c<t.length by omega),zBh hc,e.at' c hc (by omega)];rfl
 unfold zC5;rw[hop];by_cases h4:s[i].op<4
 ·rw[if_pos h4,if_pos h4]
 rw[if_neg h4,if_neg h4];by_cases h11:s[i].op≤11
 ·rw[if_pos h11,if_pos h11];rfl
 rw[if_neg h11,if_neg h11];rcases S.kind i hi with ⟨b1,b2,b3,b4,b⟩|⟨b0,b1,b2,b3,b⟩|⟨b0,b0',b1,b2,a,b3,b4,b⟩
 ·omega
 ·have h1:(onN d s[i]).a.toNat=d+s[i].a.toNat:=by simp only[onN];rw[if_pos (by omega)];omega
  have h2:(onN d s[i]).b=-1:=by simp only[onN];rw[if_neg (by omega)];exact b3
  rw[h1,h2,b3,hget _ (by omega)]
  simp[zBt]
 ·have hle:=S.le (i-1) (by omega)
  have h1:(onN d s[i]).a.toNat=d+s[i].a.toNat:=by simp only[onN];rw[if_pos (by omega)];omega
  have h2:(onN d s[i]).b.toNat=d+s[i].b.toNat:=by simp only[onN];rw[if_pos (by omega)];omega
  have h3:¬(onN d s[i]).b<0:=by simp only[onN];rw[if_pos (by omega)];omega
  have h4:¬s[i].b<0:=by omega
  rw[h1,h2,hget _ (by omega),hget _ (by omega)]
  simp[zBt,h3,h4]
end
theorem yCv {vs:List ByteArray} {t:List Nd} (h:zI9 vs t=true):zAu t=true∧zMv vs t t.length=true:=by simpa[zI9]using h
theorem ok_all {vs:List ByteArray} {t:List Nd}:zMv vs t t.length=true↔∀i (hi:i<t.length),zC5 vs t t[i]=true:=by
 unfold zMv;rw[xN,zJ];exact⟨fun h i hi=>h _ (zF hi),fun h x hx=>by obtain⟨i,hi,rfl⟩:=yX.1 hx;exact h i hi⟩
end
section
def zM6 (d:Nat) (x:Nd):Nd:=⟨x.op,x.n,x.var,x.attr,if 0≤x.a then x.a-d else x.a,if 0≤x.b then x.b-d else x.b⟩
def yBz (t:List Nd) (d r:Nat):List Nd:=((t.drop d).take (r+1-d)).map (zM6 d)
def zAo (t:List Nd) (r:Nat):List Nd:=yBz t (zOh t r) r
section
variable {t:List Nd} {lo:Nat→Nat} {r:Nat}
theorem zG6 (hr:r<t.length) (hd:lo r≤r):(yBz t (lo r) r).length=r+1-lo r:=by
 simp only[yBz,zO,yB,xC];omega
theorem yA6 (hr:r<t.length) (hd:lo r≤r) (i:Nat) (hi:i<(yBz t (lo r) r).length):(yBz t (lo r) r)[i]=zM6 (lo r) (t[lo r+i]'(by rw[zG6 hr hd]at hi;omega)):=by
 simp only[yBz,wZ,List.getElem_take,List.getElem_drop]
theorem yLu (T:Tre t lo) (hr:r<t.length) {i:Nat} (h1:lo r≤i) (h2:i≤r):lo r≤lo i:=by
 by_cases e:i=r
 ·rw[e];exact zD _
 ·rcases lam T r i hr (by omega)with h|h
  ·exact h
  ·omega
theorem yAg (T:Tre t lo) (hr:r<t.length) {i:Nat} (h1:lo r≤i) (h2:i≤r) (hi:i<t.length):(0≤t[i].a→(lo r:Int)≤t[i].a)∧(0≤t[i].b→(lo r:Int)≤t[i].b):=by
 have hl:=yLu T hr h1 h2;rcases T.kind i hi with ⟨b1,b2,b3,b4,b⟩|⟨b0,b1,b2,b3,b⟩|⟨b0,b0',b1,b2,a,b3,b4,b⟩
 ·omega
 ·have:=T.le (i-1) (by omega)
  omega
 ·have:=T.le (i-1) (by omega)
  have:=T.le a (by omega)
  omega
theorem yJn (T:Tre t lo) (hr:r<t.length):Emb (yBz t (lo r) r) t (lo r):=by
 have hd:=T.le r hr;refine⟨by rw[zG6 hr hd];omega,fun i hi hj => ?_⟩
 rw[yA6 hr hd i hi];have hi':=hi;rw[zG6 hr hd]at hi';obtain⟨k1,k2⟩:=yAg T hr (i:=lo r+i) (by omega) (by omega) hj
 generalize t[lo r+i]=x at *;obtain⟨op,n,var,attr,a,b⟩:=x;simp only[onN,zM6]at k1 k2 ⊢;by_cases ha:0≤a
 ·by_cases hb:0≤b
  ·have:=k1 ha;have:=k2 hb
   rw[if_pos ha,if_pos hb,if_pos (by omega),if_pos (by omega)]
   congr 1<;>omega
  ·have:=k1 ha
   rw[if_pos ha,if_neg hb,if_pos (by omega),if_neg hb]
   congr 1;omega
 ·by_cases hb:0≤b
  ·have:=k2 hb
   rw[if_neg ha,if_pos hb,if_neg ha,if_pos (by omega)]
   congr 1;omega
  ·rw[if_neg ha,if_neg hb,if_neg ha,if_neg hb]
theorem yJk (T:Tre t lo) (hr:r<t.length):Tre (yBz t (lo r) r) (fun i=>lo (lo r+i)-lo r):=by
 have hd:=T.le r hr;have hl:=zG6 (lo:=lo) hr hd;refine⟨by omega,?_,fun i hi => ?_,fun i hi => ?_⟩
 ·rw[hl,show lo r+(r+1-lo r-1)=r by omega];omega
 ·rw[hl]at hi
  have:=T.le (lo r+i) (by omega)
  omega
 ·have hi':=hi
  rw[hl]at hi';have hin:=yLu T hr (i:=lo r+i) (by omega) (by omega)
  have hj:lo r+i<t.length:=by omega
  rw[yA6 hr hd i hi];rcases T.kind (lo r+i) hj with ⟨b1,b2,b3,b4,b⟩|⟨b0,b1,b2,b3,b⟩|⟨b0,b0',b1,b2,a,b3,b4,b⟩
  ·exact .inl ⟨b1,b2,by simp only[zM6];rw[if_neg (by omega)];exact b3,by simp only[zM6];rw[if_neg (by omega)];exact b4,show lo (lo r+i)-lo r=i by omega⟩
  ·have hle:=T.le (lo r+i-1) (by omega)
   have h1:1≤i:=by
    by_cases e:i=0
    ·subst e;simp only[yO]at *;omega
    ·omega
   refine .inr (.inl ⟨b0,h1,by simp only[zM6];rw[if_pos (by omega)];omega,by simp only[zM6];rw[if_neg (by omega)];exact b3,?_⟩)
   show lo (lo r+i)-lo r=lo (lo r+(i-1))-lo r;rw[show lo r+(i-1)=lo r+i-1 by omega,b]
  ·have hle:=T.le (lo r+i-1) (by omega)
   have hla:=T.le a (by omega)
   have h1:1≤i:=by
    by_cases e:i=0
    ·subst e;simp only[yO]at *;omega
    ·omega
   refine .inr (.inr ⟨b0,b0',h1,by simp only[zM6];rw[if_pos (by omega)];omega,a-lo r,by simp only[zM6];rw[if_pos (by omega)];omega,?_,?_⟩)
   ·show lo (lo r+(i-1))-lo r=a-lo r+1
    rw[show lo r+(i-1)=lo r+i-1 by omega,b4];omega
   ·show lo (lo r+i)-lo r=lo (lo r+(a-lo r))-lo r
    rw[b,show lo r+(a-lo r)=a by omega]
end
section
variable {sc:List Ty} {vs:List ByteArray} {en:En} {t:List Nd} {r:Nat}
theorem zTo (h:zAu t=true) (hr:r<t.length):zAu (zAo t r)=true:=by
 have T:=zC4 h;refine yG1 (yJk T hr) fun i hi => ?_
 unfold zAo at hi;have hd:=T.le r hr;simp only[zAo];rw[yA6 hr hd i hi];exact zR7 h _ _
theorem yHa (h:zI9 vs t=true) (hr:r<t.length):zI9 vs (zAo t r)=true:=by
 obtain⟨h1,h2⟩:=yCv h;have T:=zC4 h1;rw[zI9,zTo h1 hr,zAq,ok_all];intro i hi;have E:=yJn T hr;have h3:zC5 vs t (onN (zOh t r) ((zAo t r)[i]'hi))=zC5 vs (zAo t r) ((zAo t r)[i]'hi):=yL4 (vs:=vs) (zC4 (zTo h1 hr)) E i hi;have hj:zOh t r+i<t.length:=by have:=E.len;unfold zAo at hi;omega
 have h4:t[zOh t r+i]=onN (zOh t r) ((zAo t r)[i]'hi):=E.at' i hi hj;rw[←h3,←h4];exact ok_all.1 h2 _ hj
end
def zRi (t:List Nd):Nat→Nat→List Nat
 | 0,_=>[]
 | k+1,i=>if (t.getD i nd0).op≠25 then [i]else zRi t k (t.getD i nd0).a.toNat++zRi t k (t.getD i nd0).b.toNat
def zFd (t:List Nd) (i:Nat):List Nat:=zRi t (i+1) i
section
variable {t:List Nd} {lo:Nat→Nat} (T:Tre t lo)
include T
theorem zFw {i:Nat} (hi:i<t.length) (h:t[i].op=25):t[i].a.toNat<i∧t[i].b.toNat<i∧0≤t[i].a∧0≤t[i].b:=by
 rcases T.kind i hi with ⟨b1,b2,b3,b4,b⟩|⟨b0,b1,b2,b3,b⟩|⟨b0,b0',b1,b2,a,b3,b4,b⟩
 ·omega
 ·omega
 ·have:=T.le (i-1) (by omega)
  omega
theorem zI3:∀(k m i:Nat),i<t.length→i<k→i<m→zRi t k i=zRi t m i
 | 0,_,_,_,h,_=>by omega
 | _,0,_,_,_,h=>by omega
 | k+1,m+1,i,hi,h1,h2=>by
  simp only[zRi];rw[zBh hi];split
  ·rfl
  ·rename_i ho
   obtain⟨k1,k2,_⟩:=zFw T hi (by simpa using ho)
   rw[zI3 k m _ (by omega) (by omega) (by omega),zI3 k m t[i].b.toNat (by omega) (by omega) (by omega)]
omit T in
theorem zK4 {i:Nat} (hi:i<t.length) (h:t[i].op≠25):zFd t i=[i]:=by
 simp only[zFd,zRi];rw[zBh hi,if_pos h]
theorem zK3 {i:Nat} (hi:i<t.length) (h:t[i].op=25):zFd t i=zFd t t[i].a.toNat++zFd t t[i].b.toNat:=by
 obtain⟨k1,k2,_⟩:=zFw T hi h;simp only[zFd];rw[zRi,zBh hi,if_neg (by simp[h])]
 rw[zI3 T i (t[i].a.toNat+1) _ (by omega) (by omega) (by omega),zI3 T i (t[i].b.toNat+1) _ (by omega) (by omega) (by omega)]
theorem zPb:∀i,i<t.length→(∀x∈zFd t i,x≤i)∧zFd t i≠[]:=by
 intro i
 induction i using Nat.strongRecOn with
 | _ i ih =>
  intro hi;by_cases h:t[i].op=25
  ·obtain⟨k1,k2,_⟩:=zFw T hi h
   rw[zK3 T hi h];obtain⟨a1,a2⟩:=ih _ k1 (by omega)
   obtain⟨b1,b2⟩:=ih _ k2 (by omega)
   refine⟨fun x hx => ?_,by simp[a2]⟩
   rcases wN.1 hx with hx|hx
   ·have:=a1 x hx;omega
   ·have:=b1 x hx;omega
  ·rw[zK4 hi h]
   simp
theorem zK5:∀i,i<t.length→(zFd t i).length≤i+1-lo i:=by
 intro i
 induction i using Nat.strongRecOn with
 | _ i ih =>
  intro hi;have hl:=T.le i hi;by_cases h:t[i].op=25
  ·obtain⟨k1,k2,_⟩:=zFw T hi h
   rw[zK3 T hi h,zR];have c1:=ih _ k1 (by omega)
   have c2:=ih _ k2 (by omega)
   rcases T.kind i hi with ⟨b1,b2,b3,b4,b⟩|⟨b0,b1,b2,b3,b⟩|⟨b0,b0',b1,b2,a,b3,b4,b⟩
   ·omega
   ·omega
   ·have e1:t[i].a.toNat=a:=by omega
    have e2:t[i].b.toNat=i-1:=by omega
    have:=T.le (i-1) (by omega)
    have:=T.le a (by omega)
    rw[e1]at c1 ⊢;rw[e2]at c2 ⊢;omega
  ·rw[zK4 hi h]
   simp only[List.length_cons,zAi];omega
end
theorem true_and (a b:V):zJ8 (yKf a b)=(zJ8 a&&zJ8 b):=by
 obtain⟨ak,an⟩:=a;obtain⟨bk,bn⟩:=b;cases ak<;>cases bk<;>by_cases h1:an=0<;>by_cases h2:bn=0<;>simp[zJ8,yKf,zEo,zFm,h1,h2]
section
variable {sc:List Ty} {vs:List ByteArray} {en:En} {t:List Nd} {lo:Nat→Nat}
end
end


section
section
variable {sc:List Ty} {vs:List ByteArray} {en:En} {a b:List Nd} {op:Int}
end
end
section
def zDt (t:List Nd):Bool:=zAj (t.getD (t.length-1) nd0).op
section
variable {sc:List Ty} {vs:List ByteArray} {en:En} {a b:List Nd} {op:Int}
end
end
theorem p73:P0 [] 200 g92:=by
 refine mk1 (S:=[]) yH Tryz.func200 rfl (by kernel_rfl) ii (fun x a h=>zB6 h) (fun a=>rfl) (fun o h n => ?_)
 have hc:o=2∨o=3∨o=13∨(o≠2∧o≠3∧o≠13):=by omega
 rcases hc with rfl|rfl|rfl|⟨h1,h2,h3⟩
 ·simp[evv,ii,bv,zAj]
 ·simp[evv,ii,bv,zAj]
 ·simp[evv,ii,bv,zAj]
 ·by_cases h4:19≤o
  ·by_cases h5:o≤26
   ·have ht:zAj o=true:=by simp only[zAj,decide_eq_true_eq];omega
    simp[evv,ii,bv,ht,h1,h2,h3,h4,h5]
   ·have ht:zAj o=false:=by simp only[zAj,decide_eq_false_iff_not];omega
    simp[evv,ii,bv,ht,h1,h2,h3,h4,h5]
  ·have ht:zAj o=false:=by simp only[zAj,decide_eq_false_iff_not];omega
   simp[evv,ii,bv,ht,h1,h2,h3,h4]
def G44:=yE deT xO fun t=>bv (decide (0<t.length)&&zDt t)
def yN6:List (FuncId×(List AV→Heap→PRes)):=[(200,g92)]
theorem P44:P0 [] 156 G44:=by
 refine mkH 1 (S:=[]) (l:=yN6) (zS p73 yH) Tryz.func156 rfl (by kernel_rfl) zOv (fun h l x e=>by obtain⟨a,rfl,_⟩:=zH7 e;exact zD _) (fun a=>rfl) (fun args t h n e hp hn => ?_)
 obtain⟨a,rfl,e1⟩:=zH7 e;obtain⟨s1,s2,s3,s4,s5⟩:=zK e1;by_cases h0:t.length=0
 ·simp[evx,s1,s2,s3,h0,yN6,bv]
 ·obtain⟨j,he⟩:∃j,t.length=j+1:=⟨t.length-1,by omega⟩
  have he1:IntKind.i64.wrap ((t.length:Int)-1)=j:=by rw[he];exact zPs (by have:t.length*64≤140737488355328:=hp;unfold big;omega)
  have he3:0<t.length:=by omega
  have he4:j<t.length:=by omega
  rcases zKb e1 with ⟨hq,_⟩|⟨id,off,k,rfl,hk,ho',hat⟩
  ·rw[hq]at he3;simp at he3
  have hro:=zDv hk;have h0':=zFn hk hn 0;simp only[yO]at h0';have hcl:=yG (c:=0) (hat j he4) rfl (by omega)
  simp only[yO]at hcl;have hw1:off+(j*6+1)≤k.cells.length:=by omega
  have htt:zDt t=zAj t[j].op:=by unfold zDt;rw[show t.length-1=j by omega,zBh he4]
  generalize t[j].op=o at *;simp only[ii]at hcl;simp[evx,s1,s2,s3,he1,he3,he4,hro,hcl,hw1,yN6,g92,yZ,deI,htt,bv]
def zGj (f:Nat→Int):Nat→Int×Int
 | 0=>(0,0)
 | n+1=>if (zGj f n).2≠0 then zGj f n else if f n≠0 then ((n:Int),f n)else (0,0)
theorem zDz {f:Nat→Int}:∀{n:Nat},(∀i,i<n→f i=0)→zGj f n=(0,0)
 | 0,_=>rfl
 | n+1,h=>by
  have h1:=zDz (n:=n) fun i hi=>h i (by omega)
  simp[zGj,h1,h n (by omega)]
theorem zH5 {f:Nat→Int} {j:Nat} (h0:∀i,i<j→f i=0) (hj:f j≠0):∀{n:Nat},j<n→zGj f n=((j:Int),f j)
 | 0,h=>by omega
 | n+1,h=>by
  by_cases e:j=n
  ·subst e
   simp[zGj,zDz h0,hj]
  ·have h1:=zH5 h0 hj (n:=n) (by omega)
   simp[zGj,h1,hj]
theorem zGz {f:Nat→Int}:∀{n:Nat},(zGj f n).2=0→∀i,i<n→f i=0
 | 0,_,i,hi=>by omega
 | n+1,h,i,hi=>by
  by_cases h1:(zGj f n).2=0
  ·by_cases h2:f n=0
   ·by_cases e:i=n
    ·rw[e];exact h2
    ·exact zGz h1 i (by omega)
   ·simp[zGj,h1,h2]at h
  ·simp[zGj,h1]at h
structure Fl where
 code:Int
 part:Int
 index:Int
 sub:Int
deriving DecidableEq
def fl0:Fl:=⟨0,0,0,0⟩
def zAf (f:Fl):List AV:=[ii f.code,ii f.part,ii f.index,ii f.sub]
def ff (f:Fl):AV:=.g (zAf f)
def wR (sc:List Ty) (z:ByteArray):Int:=zAn (sc.map (·.name)) z
def ty0:Ty:=⟨ByteArray.empty,[]⟩
def yBh (t:Ty) (j:Nat):Int :=
 if xZ (t.attrs.getD j ByteArray.empty)=false∨(t.attrs.getD j ByteArray.empty==tsB)=true then 22 else if zAn t.attrs (t.attrs.getD j ByteArray.empty)≠j then 25 else 0
def zSc (sc:List Ty) (i:Nat):Int :=
 if xZ (sc.getD i ty0).name=false then 22 else if wR sc (sc.getD i ty0).name≠i then 25 else if 8<(sc.getD i ty0).attrs.length then 24 else (zGj (yBh (sc.getD i ty0)) (sc.getD i ty0).attrs.length).2
def zMm (sc:List Ty):Int:=if sc.length=0∨16<sc.length then 23 else (zGj (zSc sc) sc.length).2
def it0:It:=⟨false,[],ByteArray.empty,0,0⟩
def zRy (it:It):Bool:=decide (it.types.length≠0)&&xZ it.var&&decide (0≤it.lo)&&decide (0≤it.hi)&&it.types.all xZ&&(!it.neg||(decide (it.lo=1)&&decide (it.hi=1)))
def shQ (q:Qu):Bool:=decide (q.items.length≠0)&&decide (0≤q.mode∧q.mode≤2)&&decide (0≤q.after∧q.after≤3)&&decide (0≤q.within)&&q.items.all zRy&&(decide (q.wh.length=0)||zAu q.wh)&&(emB q.par||xZ q.par)&&q.ret.all zAu
def zLy (l:List ByteArray) (j:Nat):Bool:=(List.range j).any fun i=>(l.take i).any fun z=>z==l.getD i ByteArray.empty
def zE9 (sc:List Ty) (it:It):Int :=
 if it.types.any (fun z=>decide (wR sc z<0))=true then 61 else if zLy it.types it.types.length=true then 62 else if it.lo<1∨it.hi<it.lo∨4<it.hi then 63 else 0
def itE (sc:List Ty) (q:Qu) (i:Nat):Int :=
 if zE9 sc (q.items.getD i it0)≠0 then zE9 sc (q.items.getD i it0)else if zAn (vars q.items) (q.items.getD i it0).var<i then 64 else 0
def zNi (sc:List Ty) (q:Qu):Fl :=
 if 10<q.items.length then ⟨60,1,10,0⟩else if (zGj (itE sc q) q.items.length).2≠0 then ⟨(zGj (itE sc q) q.items.length).2,1,(zGj (itE sc q) q.items.length).1,0⟩else if q.items.all (·.neg)=true then ⟨65,1,0,0⟩else fl0
def zPm (sc:List Ty) (it:It) (z:ByteArray):Bool:=it.types.all fun y=>decide (zCp sc (wR sc y) z≠-1)
def zN5 (it:It):Bool := !it.neg&&decide (1<it.hi)
def zDx (sc:List Ty) (q:Qu) (res:Bool) (x:Nd):Int :=
 if wS x.op=false∧zDe x.op=false then 0 else if zAn (vars q.items) x.var<0 then 68 else
  if x.op≠5∧zPm sc (q.items.getD (zAn (vars q.items) x.var).toNat it0) x.attr=false then 69 else
  if (zDe x.op=true∧(q.items.getD (zAn (vars q.items) x.var).toNat it0).neg=true)∨(x.op=11∧zN5 (q.items.getD (zAn (vars q.items) x.var).toNat it0)=false)then 76 else
  if res=true∧wS x.op=true∧((q.items.getD (zAn (vars q.items) x.var).toNat it0).neg=true∨zN5 (q.items.getD (zAn (vars q.items) x.var).toNat it0)=true)then 76 else 0
def yIp (t:List Nd) (x:Nd) (k:Int):Bool:=decide (k<0)||(zAj (t.getD k.toNat nd0).op==zBt x.op)
def yD0 (t:List Nd) (x:Nd):Bool:=yIp t x x.a&&yIp t x x.b
def zR1 (sc:List Ty) (q:Qu) (t:List Nd) (res:Bool) (i:Nat):Int :=
 if zDx sc q res (t.getD i nd0)≠0 then zDx sc q res (t.getD i nd0)else if yD0 t (t.getD i nd0)=true then 0 else 75
def wlk (sc:List Ty) (q:Qu) (t:List Nd) (res:Bool):Int×Int:=zGj (zR1 sc q t res) t.length
def zVr (sc:List Ty) (q:Qu):Int×Int:=if (wlk sc q q.wh false).2=0∧zDt q.wh=false then ((q.wh.length:Int)-1,75)else wlk sc q q.wh false
def yGv (sc:List Ty) (q:Qu) (t:List Nd):Int×Int:=if (wlk sc q t true).2=0∧zDt t=true then ((t.length:Int)-1,75)else wlk sc q t true
def zUh (q:Qu) (l:List Int):Nat:=(l.filter fun i=>(q.items.getD i.toNat it0).neg||decide (1<(q.items.getD i.toNat it0).hi)).length
def zBv (t:List Nd):List Nat:=zFd t (t.length-1)
def xX (q:Qu) (t:List Nd):List Int:=wX wS (vars q.items) t
def zUi (q:Qu) (k:Nat):Int:=if 1<zUh q (xX q (zAo q.wh ((zBv q.wh).getD k 0)))then 77 else 0
def zWh (q:Qu):Fl:=if (zGj (zUi q) (zBv q.wh).length).2≠0 then ⟨77,4,((zBv q.wh).getD (zGj (zUi q) (zBv q.wh).length).1.toNat 0:Nat),0⟩else fl0
def whF (sc:List Ty) (q:Qu):Fl :=
 if q.wh.length=0 then fl0 else if (zVr sc q).2≠0 then ⟨(zVr sc q).2,4,(zVr sc q).1,0⟩else zWh q
def zTw (sc:List Ty) (q:Qu) (k:Nat):Int:=(yGv sc q (q.ret.getD k [])).2
def zV4 (sc:List Ty) (q:Qu):Fl :=
 if 8<q.ret.length then ⟨78,5,8,0⟩else if (zGj (zTw sc q) q.ret.length).2≠0 then ⟨(zGj (zTw sc q) q.ret.length).2,5,(zGj (zTw sc q) q.ret.length).1,(yGv sc q (q.ret.getD (zGj (zTw sc q) q.ret.length).1.toNat [])).1⟩else fl0
def zHv (sc:List Ty) (q:Qu):Bool := !(q.par==tsB)&&q.items.all fun it=>zPm sc it q.par
def chk (sc:List Ty) (q:Qu):Fl :=
 if zMm sc≠0 then ⟨zMm sc,0,0,0⟩else if shQ q=false then ⟨50,0,0,0⟩else if (zNi sc q).code≠0 then zNi sc q else if (whF sc q).code≠0 then whF sc q else
  if 1099511627776<q.within then ⟨66,2,0,0⟩else if emB q.par=false∧zHv sc q=false then ⟨67,3,0,0⟩else zV4 sc q
end Go.Proofs.YtbffkkeieihpdaaGreatDoor
