import Derived.Test.YtbffkkeieihpdaaGreatDoorE21
import Derived.Test.YtbffkkeieihpdaaGreatDoorE17
import Derived.Test.YtbffkkeieihpdaaGreatDoorE19
import Derived.Test.YtbffkkeieihpdaaGreatDoorE14
set_option linter.unusedSimpArgs false
set_option linter.unusedVariables false
set_option linter.constructorNameAsVariable false
set_option maxRecDepth 100000
set_option maxHeartbeats 4000000
namespace Go.Proofs.YtbffkkeieihpdaaGreatDoor
open Go Go.Eng
section
theorem RowR.zero {h0 h h':Heap} {l:List (List Nd)} {lo n n':Nat} {cs:List AV} (r:RowR h0 l lo 0 cs h n):RowR h0 l lo 0 cs h' n':=⟨r.1,fun i hi=>by
 obtain⟨u,u1,u2⟩:=r.2 i hi;refine⟨u,u1,?_⟩;rw[if_neg (by omega)]at u2 ⊢
 exact u2⟩
theorem RowI.full {h0 h h':Heap} {l:List It} {lo n n':Nat} {cs:List AV} (r:RowI h0 l lo l.length cs h n) (hn:n≤n') (ha:∀i,lo≤i→i<n→h' i=h i):RowI h0 l lo l.length cs h' n':=⟨r.1,fun i hi=>by
 obtain⟨u,u0,u1,u2⟩:=r.2 i hi;refine⟨u,u0,u1,?_⟩;rw[if_pos hi]at u2 ⊢;exact zC8 u2 (zC _) hn ha⟩
section
variable {h:Heap} {n:Nat} {q:Qu} {za zb zc:AV} {wa wc lb hb lo:Nat}
theorem yP6 (hl:q.items.length≤2199023255552) (hla:∀t∈q.items,t.types.length≤2199023255552) (hn:Fresh n h) {cc:List AV} (ca:List AV) (s:St) {Q} (D:D56 h n q za zb zc wa wc lb hb lo 0 0 ca cc s) :
  awp (cx [] (pfL [])) (hdC 1 (tlC 2 (Tryz.f56.body.getD .skip))) (zAs (fun s=>∃ca,D56 h n q za zb zc wa wc lb hb lo q.items.length 0 ca cc s) Q) s:=by
 obtain⟨e,h1,n1⟩:=s;show awp (cx [] (pfL [])) (.seq (hdC 1 (hdC 1 (tlC 2 (Tryz.f56.body.getD .skip)))) (.block 0 (.loop (yW (hdC 1 (tlC 2 (Tryz.f56.body.getD .skip))))))) _ _;obtain⟨q1,q2,b1,b2,ra,rb,rc,ag,fr,ord⟩:=D;simp only[]at q1 q2 b1 b2 ra rb rc ag fr ord;have hz:za.isS∧za.slen=q.items.length∧(∀g,AV.unc g za=za)∧za.cells=[za]:=by
  rcases ra with ⟨r1,rfl⟩|⟨r1,rfl,_⟩
  ·exact⟨⟨rfl,rfl⟩,by rw[r1];rfl,fun _=>rfl,rfl⟩
  ·exact⟨trivial,rfl,fun _=>rfl,rfl⟩
 obtain⟨t1,t2,t3,t4⟩:=hz;simp[evx,hdC,tlC,yW,Tryz.f56,q1,b1,t1,t2];refine yN (fun s=>∃j ca,j≤q.items.length∧s.e 19=ii q.items.length∧s.e 20=ii j∧D56 h n q za zb zc wa wc lb hb lo j 0 ca cc s) (fun s=>q.items.length-(s.e 20).i.toNat) ⟨0,ca,by omega,by simp[up,ii],by simp[up,ii],⟨by simp[up,q1],by simp[up,q2],b1,b2,ra,rb,rc,ag,fr,ord⟩⟩ ?_
 clear ra rb rc;rintro e' h' n' ⟨j,cs,hj,q19,q20,D⟩;simp only[]at q19 q20;obtain⟨q1,q2,b1,b2,ra,rb,rc,ag,fr,ord⟩:=D;simp only[]at q1 q2 b1 b2 ra rb rc ag fr ord;by_cases hlt:j<q.items.length
 ·obtain⟨r1,rfl,r2,r3,r4,r5,r6⟩:=ra.resolve_left (by omega)
  obtain⟨c,c1,c2,c3⟩:=r3.2 j hlt;rw[if_neg (by omega)]at c3
  have c3':=yT hn c3 _ ag;have hcl:=r3.1;have hbd:j*5+1<cs.length:=by omega
  have c4:∀hb:j*5+1<cs.length,cs[j*5+1]'hb=c:=fun hb=>by rw[zA hb]at c2;exact Option.some.inj c2
  have hw:=yK (j:=j) (by unfold big;omega)
  have hb2:j*5+2≤cs.length:=by omega
  have hla':=hla _ (zH hlt);simp[evx,q19,q20,q1,b1,ii,ss,hlt,r2,c4,hbd,hb2];refine (yNi c3' hla' fr).mono ?_;intro v h3 n3 o;obtain⟨o1,o2,o3⟩:=o.fr fr;have hle:Heap.le h' h3:=fun i k e=>by rw[o1 i (xB e fr)];exact e
  have ov:=o.flat Flat.str c3';have hv:v.cells=[v]∧v.one:=by
   rcases o with ⟨_,rfl,_⟩|⟨_,rfl,_⟩
   ·exact⟨rfl,rfl⟩
   ·exact⟨rfl,trivial⟩
  have g1:=(o1 wa (by omega)).trans r2
  have g2:=(o1 n (by omega)).trans b1
  refine⟨.inl hle,?_⟩;simp[evx,g1,hv.1,hv.2,hb2,hw];have a1:∀b,agree n h (up h3 wa b):=fun b=>(zD (by omega) _).2 (yP ag o1 (by omega))
  have a2:∀b,Fresh (n3+1) (up h3 wa b):=fun b=>(zF (by omega) _).2 (o2.add 1)
  have a3:∀b i,i≠wa→i<n'→up h3 wa b i=h' i:=fun b i h1 h2=>by rw[zP _ _ h1];exact o1 _ h2
  refine⟨⟨j+1,hlt,by simp,cs.set (j*5+1) v,⟨by simp[up,q1],by simp[up,q2],?_,?_,.inr ⟨r1,rfl,by simp[up],r3.step hlt (by simp only[];omega) (fun i h1 h2 => ?_) (zC8 ov (by omega) (by simp only[];omega) fun i h1 h2 => ?_),r4,r5,r6⟩,?_,?_,a1 _,a2 _,by simp only[];omega⟩⟩,by omega⟩
  ·simp only[]
   rw[a3 _ _ (by omega) (by omega)];exact b1
  ·simp only[]
   rw[a3 _ _ (by omega) (by omega)];exact b2
  ·simp only[]
   exact a3 _ _ (by omega) h2
  ·simp only[]
   rw[zP _ _ (by omega)]
  ·exact zC8 rb (zC _) (zC _) fun i h1 h2=>a3 _ _ (by omega) (by omega)
  ·refine rc.imp id fun⟨y1,y2,y3,y4,y5,y6,y7⟩=>⟨y1,y2,?_,y4.zero,y5,y6,y7⟩
   simp only[];rw[a3 _ _ (by omega) (by omega)];exact y3
 ·obtain rfl:j=q.items.length:=by omega
  simp[evx,q19,q20,ii];exact⟨cs,⟨by simp[up,q1],by simp[up,q2],b1,b2,ra,rb,rc,ag,fr,ord⟩⟩
theorem yP5 (hl:q.ret.length≤2199023255552) (hla:∀t∈q.ret,t.length≤2199023255552) (hn:Fresh n h) {ca:List AV} (cc:List AV) (s:St) {Q} (D:D56 h n q za zb zc wa wc lb hb lo q.items.length 0 ca cc s) :
  awp (cx [] (pfL [])) (hdC 1 (tlC 3 (Tryz.f56.body.getD .skip))) (zAs (fun s=>∃cc,D56 h n q za zb zc wa wc lb hb lo q.items.length q.ret.length ca cc s) Q) s:=by
 obtain⟨e,h1,n1⟩:=s;show awp (cx [] (pfL [])) (.seq (hdC 1 (hdC 1 (tlC 3 (Tryz.f56.body.getD .skip)))) (.block 2 (.loop (yW (hdC 1 (tlC 3 (Tryz.f56.body.getD .skip))))))) _ _;obtain⟨q1,q2,b1,b2,ra,rb,rc,ag,fr,ord⟩:=D;simp only[]at q1 q2 b1 b2 ra rb rc ag fr ord;have hz:zc.isS∧zc.slen=q.ret.length∧(∀g,AV.unc g zc=zc)∧zc.cells=[zc]:=by
  rcases rc with ⟨r1,rfl⟩|⟨r1,rfl,_⟩
  ·exact⟨⟨rfl,rfl⟩,by rw[r1];rfl,fun _=>rfl,rfl⟩
  ·exact⟨trivial,rfl,fun _=>rfl,rfl⟩
 obtain⟨t1,t2,t3,t4⟩:=hz;simp[evx,hdC,tlC,yW,Tryz.f56,q1,b1,t1,t2];refine yN (fun s=>∃j cc,j≤q.ret.length∧s.e 38=ii q.ret.length∧s.e 39=ii j∧D56 h n q za zb zc wa wc lb hb lo q.items.length j ca cc s) (fun s=>q.ret.length-(s.e 39).i.toNat) ⟨0,cc,by omega,by simp[up,ii],by simp[up,ii],⟨by simp[up,q1],by simp[up,q2],b1,b2,ra,rb,rc,ag,fr,ord⟩⟩ ?_
 clear ra rb rc;rintro e' h' n' ⟨j,cs,hj,q38,q39,D⟩;simp only[]at q38 q39;obtain⟨q1,q2,b1,b2,ra,rb,rc,ag,fr,ord⟩:=D;simp only[]at q1 q2 b1 b2 ra rb rc ag fr ord;by_cases hlt:j<q.ret.length
 ·obtain⟨r1,rfl,r2,r3,r4,r5,r6⟩:=rc.resolve_left (by omega)
  obtain⟨c,c2,c3⟩:=r3.2 j hlt;rw[if_neg (by omega)]at c3
  have c3':=yT hn c3 _ ag;have hcl:=r3.1;have hbd:j<cs.length:=by omega
  have c4:∀hb:j<cs.length,cs[j]'hb=c:=fun hb=>by rw[zA hb]at c2;exact Option.some.inj c2
  have hw:=yK (j:=j) (by unfold big;omega)
  have hb2:j+1≤cs.length:=by omega
  have hla':=hla _ (zH hlt);simp[evx,q38,q39,q1,b1,ii,ss,hlt,r2,c4,hbd,hb2];refine (yNh c3' hla' fr).mono ?_;intro v h3 n3 o;obtain⟨o1,o2,o3⟩:=o.fr fr;have hle:Heap.le h' h3:=fun i k e=>by rw[o1 i (xB e fr)];exact e
  have ov:=o.flat Flat.nd c3';have hv:v.cells=[v]∧v.one:=by
   rcases o with ⟨_,rfl,_⟩|⟨_,rfl,_⟩
   ·exact⟨rfl,rfl⟩
   ·exact⟨rfl,trivial⟩
  have g1:=(o1 wc (by omega)).trans r2
  have g2:=(o1 n (by omega)).trans b1
  refine⟨.inl hle,?_⟩;simp[evx,g1,hv.1,hv.2,hb2,hw];have a1:∀b,agree n h (up h3 wc b):=fun b=>(zD (by omega) _).2 (yP ag o1 (by omega))
  have a2:∀b,Fresh (n3+1) (up h3 wc b):=fun b=>(zF (by omega) _).2 (o2.add 1)
  have a3:∀b i,i≠wc→i<n'→up h3 wc b i=h' i:=fun b i h1 h2=>by rw[zP _ _ h1];exact o1 _ h2
  refine⟨⟨j+1,hlt,by simp,cs.set j v,⟨by simp[up,q1],by simp[up,q2],?_,?_,?_,?_,.inr ⟨r1,rfl,by simp[up],r3.step hlt (by simp only[];omega) (fun i h1 h2 => ?_) (zC8 ov (by omega) (by simp only[];omega) fun i h1 h2 => ?_),r4,r5,r6⟩,a1 _,a2 _,by simp only[];omega⟩⟩,by omega⟩
  ·simp only[]
   rw[a3 _ _ (by omega) (by omega)];exact b1
  ·simp only[]
   rw[a3 _ _ (by omega) (by omega)];exact b2
  ·refine ra.imp id fun⟨y1,y2,y3,y4,y5,y6,y7⟩=>⟨y1,y2,?_,y4.full (by simp only[];omega) fun i h1 h2=>a3 _ _ (by omega) h2,y5,y6,y7⟩
   simp only[];rw[a3 _ _ (by omega) (by omega)];exact y3
  ·exact zC8 rb (zC _) (zC _) fun i h1 h2=>a3 _ _ (by omega) (by omega)
  ·simp only[]
   exact a3 _ _ (by omega) h2
  ·simp only[]
   rw[zP _ _ (by omega)]
 ·obtain rfl:j=q.ret.length:=by omega
  simp[evx,q38,q39,ii];exact⟨cs,⟨by simp[up,q1],by simp[up,q2],b1,b2,ra,rb,rc,ag,fr,ord⟩⟩
theorem b56 {x:AV} (e1:deQ h x=some q) (hl1:q.items.length≤2199023255552) (hl2:q.wh.length≤2199023255552) (hl3:q.ret.length≤2199023255552) (hla:∀t∈q.items,t.types.length≤2199023255552) (hlr:∀t∈q.ret,t.length≤2199023255552) (hn:Fresh n h) :
  ACall (cx [] (pfL [])) 56 [x] h n fun z h' n'=>agree n h h'∧Fresh n' h'∧n≤n'∧deQ (wtn n n' h') z=some q:=by
 refine yR (args:=[x]) (zAr yJ) (zB3 _ _) Tryz.func56 (c:=Tryz.f56.body.getD .skip) rfl (by kernel_rfl) (xK Tryz.func56 rfl rfl _ _) (show 1≤Tryz.f56.ntmps by decide +kernel) ?_
 obtain⟨a,b,c,rfl,x2,x3,x4⟩:=wH e1;refine zZ 2 _ _ (yP7 x2 x3 x4 hl1 hl2 hl3 hn _ rfl) fun y1 h1 n1 ⟨za,zb,zc,wa,wc,lb,hb,lo,ca,cc,D⟩ => ?_
 refine zZ 1 _ _ (yP6 hl1 hla hn _ _ D) fun y2 h2 n2 ⟨ca2,D2⟩ => ?_
 refine zZ 1 _ _ (yP5 hl3 hlr hn _ _ D2) fun y3 h3 n3 ⟨cc2,D3⟩ => ?_
 obtain⟨q1,q2,b1,b2,ra,rb,rc,ag,fr,ord⟩:=D3;simp only[]at q1 q2 b1 b2 ra rb rc ag fr ord;have hza:za.cells=[za]∧za.one∧∀g,AV.unc g za=za:=by
  rcases ra with ⟨r1,rfl⟩|⟨r1,rfl,_⟩
  ·exact⟨rfl,rfl,fun _=>rfl⟩
  ·exact⟨rfl,trivial,fun _=>rfl⟩
 have hzc:zc.cells=[zc]∧zc.one∧∀g,AV.unc g zc=zc:=by
  rcases rc with ⟨r1,rfl⟩|⟨r1,rfl,_⟩
  ·exact⟨rfl,rfl,fun _=>rfl⟩
  ·exact⟨rfl,trivial,fun _=>rfl⟩
 obtain⟨t1,t2,t3,t4,t5⟩:=zN rb;simp[evx,tlC,Tryz.f56,q1,q2,b1,b2,ii,ss,zq,hza.2,hzc.2,t4];refine⟨(zD (by omega) _).2 ag,(zF (by omega) _).2 (fr.add 1),by omega,?_⟩
 generalize some (⟨[za,.v (.int .i64 q.mode),.v (.int .i64 q.after),zb,.v (.int .i64 q.within),.v (.string q.par),zc],0,true,7⟩:Blk)=B;have g:∀i,i≠n+1→up h3 (n+1) B i=h3 i:=fun i hi=>zP _ _ hi
 refine zF9 ?_ (zC8 rb (by omega) (by omega) fun i h1 h2=>g i (by omega)) ?_
 ·rcases ra with ⟨r1,rfl⟩|⟨r1,rfl,r2,r3,r4,r5,r6⟩
  ·rw[zX.1 r1];rfl
  ·exact (r3.full (zC _) (fun i h1 h2=>g i (by omega))).fin (by omega) (by omega) (by omega) (by omega) (by rw[g _ (by omega)];exact r2)
 ·rcases rc with ⟨r1,rfl⟩|⟨r1,rfl,r2,r3,r4,r5,r6⟩
  ·rw[zX.1 r1];rfl
  ·refine RowR.fin (h0:=h) (lo:=lo) (n:=n3) ⟨r3.1,fun i hi => ?_⟩ (by omega) (by omega) (by omega) (by omega) (by rw[g _ (by omega)];exact r2)
   rw[yC6 _ (.inl (by omega))]
   exact r3.2 i hi
end
end
section
theorem zX7 {t:List Nd} {f g:Nat→Ins} {k:Nat}:∀{n:Nat},k<n→(zGl t f g n)[zA1 t k]? = some (f k)
 | 0,h=>by omega
 | n+1,h=>by
  simp only[zGl];by_cases e:k=n
  ·subst e
   rw[yG (by rw[zBs];exact zC _),zBs,zC7]
   rfl
  ·have hl:=zFl (t:=t) (k:=k) (n:=n) (by omega)
   rw[zL (by rw[zBs];omega)]
   exact zX7 (by omega)
theorem zX9 {t:List Nd} {f g:Nat→Ins} {k:Nat} (hp:(zGf t k).isSome=true):∀{n:Nat},k<n→(zGl t f g n)[zA1 t k+1]? = some (g k)
 | 0,h=>by omega
 | n+1,h=>by
  simp only[zGl];by_cases e:k=n
  ·subst e
   rw[yG (by rw[zBs];omega),zBs,Nat.add_sub_cancel_left,if_pos hp]
   rfl
  ·have hl:=zFl (t:=t) (k:=k) (n:=n) (by omega)
   rw[if_pos hp]at hl;rw[zL (by rw[zBs];omega)]
   exact zX9 hp (by omega)
theorem yBn {sc:List Ty} {t:List Nd} {i:Nat} (hi:i<t.length) (h:4≤t[i].op∧t[i].op≤11∧t[i].op≠5):0≤wY (zBf t) t[i].attr∧((zBf t).map (zEc sc))[(wY (zBf t) t[i].attr).toNat]? = some (zEc sc t[i].attr):=by
 obtain⟨m,hm⟩:=zKm t (i+1) (t.length-(i+1));rw[show i+1+(t.length-(i+1))=t.length by omega]at hm
 have h1:wL t (i+1)=zI8 (wL t i) t[i].attr:=by rw[wL,zAx hi,zLh,if_pos h]
 have h2:(zBf t).findIdx (· == t[i].attr)<(zBf t).length:=by
  unfold zBf;rw[hm];exact (yD0 m (by rw[h1];exact zZp _ _)).2
 have h3:wY (zBf t) t[i].attr=(((zBf t).findIdx (· == t[i].attr):Nat):Int):=by unfold wY;rw[if_pos h2]
 have h4:=List.findIdx_getElem (w:=h2);rw[h3,yF];refine⟨by omega,?_⟩
 rw[xG,zA h2,zK];have h5:(zBf t)[(zBf t).findIdx (· == t[i].attr)]=t[i].attr:=by rw[←zD6];exact h4
 rw[h5]
def isT (v:V):Prop:=v.k=true→v.n=0∨v.n=1
theorem zSg (r:Int):isT (zEs r):=by
 unfold zEs isT
 repeat' split
 all_goals simp
theorem zWj (b:Bool):isT (zFk b):=by
 unfold zFk isT;split<;>simp
theorem yHn (o:Int) (a b:V):isT (yHo o a b):=by
 unfold yHo
 repeat' split
 all_goals first|exact zWj _|(intro h;cases h)
theorem yBi {sc:List Ty} {it:Int} {en:En} {x:Nd} {va vb:V} (h:wX x.op=true):isT (zJb sc it en x va vb):=by
 unfold wX at h;simp only[decide_eq_true_eq]at h;unfold zJb;by_cases h1:x.op=1
 ·omega
 by_cases h2:x.op=2
 ·rw[if_neg h1,if_pos h2];exact fun _=>.inr rfl
 by_cases h3:x.op=3
 ·rw[if_neg h1,if_neg h2,if_pos h3];exact fun _=>.inl rfl
 by_cases h4:x.op≤11
 ·omega
 by_cases h5:x.op=12
 ·omega
 rw[if_neg h1,if_neg h2,if_neg h3,if_neg h4,if_neg h5];by_cases h6:x.op=13
 ·rw[if_pos h6];exact zSg _
 rw[if_neg h6];unfold zCd
 repeat' split
 all_goals first|omega|exact zSg _|exact yHn _ _ _
theorem zEx (st:List V) (v:V):(st++[v]).getLastD unk=v:=by simp[List.getLastD_eq_getLast?]
theorem zHz (st:List V) (v:V):(st++[v]).dropLast=st:=by simp
section
variable {sc:List Ty} {vs:List ByteArray} {t:List Nd} {lo:Nat→Nat} {en:En}
def zFa (sc:List Ty) (vs:List ByteArray) (t:List Nd):Pr:=⟨zIs vs t,(zBf t).map (zEc sc)⟩
theorem yI2 {i:Nat} (hi:i<t.length):∃h:zA1 t i<(zFa sc vs t).code.length,(zFa sc vs t).code[zA1 t i]'h=zPa (zBf t) (wA vs t[i]) t[i]:=by
 have h1:(zIs vs t)[zA1 t i]? = some (zE6 vs t i):=zX7 hi;obtain⟨h2,h3⟩:=yB.1 h1;exact⟨h2,h3.trans (by rw[zE6,zAx hi])⟩
theorem yF3 (h:zM6 vs t t.length=true) {i:Nat} (hi:i<t.length):zCu vs t t[i]=true:=by
 unfold zM6 at h;rw[wW,zR]at h;exact h _ (zH hi)
theorem yFc (T:Tre t lo) (hok:zM6 vs t t.length=true):∀(i:Nat),i<t.length→∀st:List V,zHx (zFa sc vs t) en (zA1 t (lo i)) st=zHx (zFa sc vs t) en (zA1 t i+1) (st++[zCp sc (t.map (wA vs)) en t i]):=by
 intro i
 induction i using Nat.strongRecOn with
 | _ i ih =>
  intro hi st;obtain⟨hlt,hown⟩:=yI2 (sc:=sc) (vs:=vs) hi;have hv:=zRz (sc:=sc) (its:=t.map (wA vs)) (en:=en) hi;have hits:(t.map (wA vs)).getD i 0=wA vs t[i]:=by rw[zB,xG,zA hi];rfl
  rw[hits]at hv;have hno:=yF3 hok hi;rcases T.kind i hi with ⟨b1,b2,b3,b4,b⟩|⟨b0,b1,b2,b3,b⟩|⟨b0,b0',b1,b2,a,b3,b4,b⟩
  ·rw[b]
   have key:zBi (zFa sc vs t) en (zFa sc vs t).code[zA1 t i] (zA1 t i) st=some (zA1 t i+1,st++[zCp sc (t.map (wA vs)) en t i]):=by
    rw[hown,hv];unfold zPa zJb;by_cases o1:t[i].op=1
    ·simp only[o1,if_true]
     exact zHi (by simp only[zAf];omega) rfl
    by_cases o2:t[i].op=2
    ·simp only[o2,if_true]
     exact zHi (by simp[zAf]) rfl
    by_cases o3:t[i].op=3
    ·simp only[o3,if_true]
     exact zHi (by simp[zAf]) rfl
    rw[if_neg o1,if_neg o2,if_neg o3,if_neg o1,if_neg o2,if_neg o3,if_pos b2];by_cases o5:t[i].op=5
    ·simp only[o5]
     exact zLt (by simp only[zAf];simp) rfl
    obtain⟨n1,n2⟩:=yBn (sc:=sc) hi ⟨by omega,b2,o5⟩
    by_cases o4:t[i].op=4
    ·simp only[o4]
     exact zJj (p:=zFa sc vs t) (by simp only[zAf];simp) (by simp) (by simp;exact n1) n2
    by_cases o11:t[i].op=11
    ·simp only[o11]
     exact zJj (p:=zFa sc vs t) (by simp only[zAf];simp) (by simp) (by simp;exact n1) n2
    rw[if_neg o4,if_neg o11,if_neg o5,if_pos (by omega)]
    have hcm:zK6 t[i].op=t[i].op-1:=by unfold zK6;rw[if_neg o5,if_neg o11,if_neg o4]
    rw[hcm];exact zJj (p:=zFa sc vs t) (by simp only[zAf];(repeat' split)<;>omega) (by simp only[];omega) (by simp only[];omega) n2
   exact zEz hlt key
  ·have hpu:=zO8 T hi (by omega) b1
   rw[b,ih (i-1) (by omega) (by omega) st,←hpu]
   have hva:yB5 (zB9 sc (t.map (wA vs)) en t i) t[i].a=zCp sc (t.map (wA vs)) en t (i-1):=by
    rw[zQ7 (by omega) (by omega),b2,yF]
   rw[hva]at hv;have key:zBi (zFa sc vs t) en (zFa sc vs t).code[zA1 t i] (zA1 t i) (st++[zCp sc (t.map (wA vs)) en t (i-1)])=some (zA1 t i+1,st++[zCp sc (t.map (wA vs)) en t i]):=by
    rw[hown,hv];unfold zPa zJb;rcases b0 with o|o
    ·simp only[o]
     refine (zR9 (by simp[zAf];omega) (by simp)).trans ?_
     rw[zEx,zHz];simp
    ·simp only[o]
     refine (zR8 (by simp[zAf];omega) (by simp)).trans ?_
     rw[zEx,zHz];simp
   exact zEz hlt key
  ·have hpu:=zO8 T hi (by omega) b1
   have hle:=T.le (i-1) (by omega)
   have hva:yB5 (zB9 sc (t.map (wA vs)) en t i) t[i].a=zCp sc (t.map (wA vs)) en t a:=by
    rw[zQ7 (by omega) (by omega),b3,yF]
   have hvb:yB5 (zB9 sc (t.map (wA vs)) en t i) t[i].b=zCp sc (t.map (wA vs)) en t (i-1):=by
    rw[zQ7 (by omega) (by omega),b2,yF]
   rw[hva,hvb]at hv;have hv':zCp sc (t.map (wA vs)) en t i=zCd t[i].op (zCp sc (t.map (wA vs)) en t a) (zCp sc (t.map (wA vs)) en t (i-1)):=by
    rw[hv];unfold zJb;rw[if_neg (by omega),if_neg (by omega),if_neg (by omega),if_neg (by omega),if_neg (by omega),if_neg (by omega)]
   have hsk:=zXa T hi b0 b3;rw[b,ih a (by omega) (by omega) st]
   have two:zHx (zFa sc vs t) en (zA1 t (lo (i-1))) (st++[zCp sc (t.map (wA vs)) en t a])=zHx (zFa sc vs t) en (zA1 t i+1) (st++[zCp sc (t.map (wA vs)) en t i]):=by
    rw[ih (i-1) (by omega) (by omega),←hpu]
    refine zEz (q:=(zA1 t i+1,st++[zCp sc (t.map (wA vs)) en t i])) hlt ?_;rw[hown,hv'];have:zPa (zBf t) (wA vs t[i]) t[i]=⟨t[i].op-2,0,0,0,0⟩:=by
     unfold zPa;rw[if_neg (by omega),if_neg (by omega),if_neg (by omega),if_neg (by omega),if_neg (by omega),if_neg (by omega),if_neg (by omega)]
    rw[this];refine (zR7 (by simp only[zAf,zM,List.length_cons,zAc];(repeat' split)<;>omega) (by simp only[];omega)).trans ?_
    rw[zEx,zHz,zEx,zHz,show t[i].op-2+2=t[i].op by omega]
   by_cases h25:25≤t[i].op
   ·rw[if_pos h25]at hsk
    rw[b4]at two;rw[hsk]at two;have hpa:=zO9 T hi h25 b3;have hj:(zIs vs t)[zA1 t a+1]? = some (zI4 t (fun p=>zA1 t p+1) a):=zX9 (by rw[hpa];rfl) (by omega)
    have hje:zI4 t (fun p=>zA1 t p+1) a=⟨t[i].op,0,0,0,(zA1 t i:Int)+1⟩:=by
     unfold zI4;rw[hpa];simp only[];rw[zAx hi];simp
    rw[hje]at hj;obtain⟨h2,h3⟩:∃h:zA1 t a+1<(zFa sc vs t).code.length,(zFa sc vs t).code[zA1 t a+1]'h=⟨t[i].op,0,0,0,(zA1 t i:Int)+1⟩:=yB.1 hj;have hlen:(zFa sc vs t).code.length=zA1 t t.length:=zBs _ _ _;have hpl:=zFl (t:=t) hi;have hpl2:=zFl (t:=t) (k:=a) (n:=i) (by omega)
    rw[hpa]at hpl2;simp only[zDv,if_true]at hpl2;have htr:isT (zCp sc (t.map (wA vs)) en t a):=by
     rw[zRz (show a<t.length by omega)]
     refine yBi ?_;unfold zCu at hno;rw[if_neg (by omega),if_neg (by omega),b3,yF,zAx (show a<t.length by omega)]at hno
     simp only[zO,beq_iff_eq]at hno;rw[hno.1];unfold zBh;simp;omega
    have hjt:¬((⟨t[i].op,0,0,0,(zA1 t i:Int)+1⟩:Ins).to≤((zA1 t a+1:Nat):Int)∨(⟨t[i].op,0,0,0,(zA1 t i:Int)+1⟩:Ins).to > (zFa sc vs t).code.length):=by
     simp only[];rw[hlen];omega
    have hne:¬(zAf (⟨t[i].op,0,0,0,(zA1 t i:Int)+1⟩:Ins).code<0∨((st++[zCp sc (t.map (wA vs)) en t a]).length:Int)<zAf (⟨t[i].op,0,0,0,(zA1 t i:Int)+1⟩:Ins).code):=by
     simp only[zAf,zM,List.length_cons,zAc]
     (repeat' split)<;>omega
    by_cases hd:(zCp sc (t.map (wA vs)) en t a).k=true∧((zCp sc (t.map (wA vs)) en t a).n≠0↔t[i].op=26)
    ·have hst:=zOr (p:=zFa sc vs t) (e:=en) hne h25 hjt (by rw[zEx];exact hd)
     rw[←h3]at hst;rw[zEz h2 hst];have h01:=htr hd.1;have:zCp sc (t.map (wA vs)) en t i=zCp sc (t.map (wA vs)) en t a:=by
      rw[hv'];have hr3:=zUq (zCp sc (t.map (wA vs)) en t (i-1));generalize zCp sc (t.map (wA vs)) en t a=va at *;generalize zCp sc (t.map (wA vs)) en t (i-1)=vb at *;obtain⟨vk,vn⟩:=va;simp only[]at hd h01;obtain⟨rfl,hd2⟩:=hd;rcases (show t[i].op=25∨t[i].op=26 by omega)with o|o
      ·rw[o]at hd2 ⊢
       have:vn=0:=by
        rcases h01 with h|h
        ·exact h
        ·exact absurd (hd2.1 (by rw[h];decide)) (by decide)
       subst this;simp only[zCd];simp[yH7,zEk,zEs];unfold zEk at hr3;rcases hr3 with h|h|h<;>simp[h]
      ·rw[o]at hd2 ⊢
       have:vn=1:=by
        rcases h01 with h|h
        ·exact absurd h (hd2.2 rfl)
        ·exact h
       subst this;simp only[zCd];simp[orV,zEk,zEs];unfold zEk at hr3;rcases hr3 with h|h|h<;>simp[h]
     rw[this];simp only[h3];rw[show ((zA1 t i:Int)+1).toNat=zA1 t i+1 by omega]
    ·have hst:=zOq (p:=zFa sc vs t) (e:=en) hne h25 hjt (by rw[zEx];exact hd)
     rw[←h3]at hst;rw[zEz h2 hst];exact two
   ·rw[if_neg h25]at hsk
    rw[b4,hsk]at two;exact two
theorem yAr (h:zI9 vs t=true):zSc (zAk sc vs t) en=(zNi sc vs en t,0):=by
 have hr:=h;simp only[zI9,zO]at hr;have T:=zCt hr.1;have hpos:=T.pos;rw[zAk,if_pos h,zNi,if_pos h,zSb];have:=yFc (sc:=sc) (vs:=vs) (en:=en) T hr.2 (t.length-1) (by omega) []
 rw[T.root]at this
 refine this.trans ?_;rw[List.nil_append,zS8]
 ·rfl
 ·show (zIs vs t).length≤_
  rw[zIs,zBs,zXb T];exact zC _
end
end
section
def yEp (p:Int→Bool) (vs:List ByteArray) (t:List Nd) (i:Int):Bool:=t.any fun x=>p x.op&&decide (wY vs x.var=i)
def zA0 (p:Int→Bool) (vs:List ByteArray) (t:List Nd):List Int:=((List.range vs.length).map fun i:Nat=>(i:Int)).filter (yEp p vs t)
def wU (o:Int):Bool:=decide (o=4∨o=11)
def zDk (o:Int):Bool:=decide (o=11)
def zC3 (o:Int):Bool:=decide (5≤o∧o≤10)
theorem zJh {p:Int→Bool} {vs:List ByteArray} {t:List Nd} {x:Nd} (hx:x∈t) (hp:p x.op=true) (h0:0≤wY vs x.var):wY vs x.var∈zA0 p vs t:=by
 have h1:wY vs x.var<(vs.length:Int):=by unfold wY;split<;>omega
 refine zBo.2 ⟨xU.2 ⟨(wY vs x.var).toNat,zAm.2 (by omega),by omega⟩,?_⟩
 exact zA7.2 ⟨x,hx,by simp[hp]⟩
section
variable {bare agg:List Int} {each:Int} {other ls:List (List Ev)}
end
theorem yI3 {t:List Nd} {lo:Nat→Nat} (T:Tre t lo) (j:Nat) (hj:j<t.length):1≤t[j].op:=by
 rcases T.kind j hj with ⟨z1,_⟩|⟨z0,_⟩|⟨z0,_⟩<;>omega
end
section
theorem zDj {x:Int} (h1 : -1≤x) (h2:x<4611686018427387904):IntKind.i64.wrap x=x:=zMq (n:=x) (by unfold Rng;omega)
theorem yEu {t:List Nd} {lo:Nat→Nat} (T:Tre t lo) (hf:∀i (hi:i<t.length),zA3 t[i]=true):zAh t=true:=by
 have key:∀j,j≤t.length→zC2 t j=some ((List.range j).map fun i=>(lo i:Int)):=by
  intro j
  induction j with
  | zero=>intro _;rfl
  | succ j ih =>
   intro hj;have hjl:j<t.length:=by omega
   simp only[zC2,ih (by omega),zT]
   rw[zAx hjl];have hfj:=hf j hjl;have hgd:∀i,i<j→((List.range j).map fun i=>(lo i:Int)).getD i 0=lo i:=fun i hi=>by
    rw[zB,xG,zDh hi];rfl
   have hlf:=zGw t[j];rw[zCs,yE,wE,List.map_nil];rcases T.kind j hjl with ⟨b1,b2,b3,b4,b⟩|⟨b0,b1,b2,b3,b⟩|⟨b0,b0',b1,b2,a,b3,b4,b⟩
   ·have har:zBg t[j].op=0:=by unfold zBg;rw[if_pos ⟨b1,b2⟩]
    rw[har,hfj,b3,b4]at hlf;have hl:zGx t[j]=true:=by rw[hlf];rfl
    rw[zAg,if_pos hl,b]
   ·have har:zBg t[j].op=1:=by unfold zBg;grind
    rw[har]at hlf;have hl:¬zGx t[j]=true:=by rw[hlf];simp
    have hbf:=zG7 t[j] (by omega)
    rw[zAg,if_neg hl,if_pos b0,if_neg (by rw[←hbf,hfj];simp;omega),hgd (j-1) (by omega),b]
   ·have har:zBg t[j].op=2:=by unfold zBg;grind
    rw[har]at hlf;have hl:¬zGx t[j]=true:=by rw[hlf];simp
    have hbf:=zG7 t[j] (by omega)
    have hle:=T.le (j-1) (by omega)
    rw[zAg,if_neg hl,if_neg (by omega),if_pos ⟨b0,b0'⟩,if_neg (by rw[←hbf,hfj,hgd (j-1) (by omega)];simp;omega),b3,yF,hgd a (by omega),b]
 rw[←zOi];unfold zZ8;rw[key t.length (zC _)];have hp:=T.pos;simp only[zO,decide_eq_true_eq];refine⟨hp,?_⟩;rw[zB,xG,zDh (by omega)]
 simp[T.root]
theorem zQs {t:List Nd} (h:zAh t=true) (i:Nat) (hi:i<t.length):zA3 t[i]=true:=(zOj h i hi).fl
def onN (d:Nat) (x:Nd):Nd:=⟨x.op,x.n,x.var,x.attr,if 0≤x.a then x.a+d else x.a,if 0≤x.b then x.b+d else x.b⟩
structure Emb (s t:List Nd) (d:Nat):Prop where
 len:d+s.length≤t.length
 at':∀i (hi:i<s.length) (hj:d+i<t.length),t[d+i]=onN d s[i]
section
variable {sc:List Ty} {vs:List ByteArray} {en:En} {s t:List Nd} {d:Nat}
theorem yJ0 {lo:Nat→Nat} (S:Tre s lo) (e:Emb s t d) (i:Nat) (hi:i<s.length):zCu vs t (onN d s[i])=zCu vs s s[i]:=by
 have hl:=e.len;have hop:(onN d s[i]).op=s[i].op:=rfl;have hget:∀c:Nat,c<s.length→(t.getD (d+c) nd0).op=(s.getD c nd0).op:=fun c hc=>by
  rw[zAx (show d+c<t.length by omega),zAx hc,e.at' c hc (by omega)];rfl
 unfold zCu;rw[hop];by_cases h4:s[i].op<4
 ·rw[if_pos h4,if_pos h4]
 rw[if_neg h4,if_neg h4];by_cases h11:s[i].op≤11
 ·rw[if_pos h11,if_pos h11];rfl
 rw[if_neg h11,if_neg h11];rcases S.kind i hi with ⟨b1,b2,b3,b4,b⟩|⟨b0,b1,b2,b3,b⟩|⟨b0,b0',b1,b2,a,b3,b4,b⟩
 ·omega
 ·have h1:(onN d s[i]).a.toNat=d+s[i].a.toNat:=by simp only[onN];rw[if_pos (by omega)];omega
  have h2:(onN d s[i]).b=-1:=by simp only[onN];rw[if_neg (by omega)];exact b3
  rw[h1,h2,b3,hget _ (by omega)]
  simp[zBh]
 ·have hle:=S.le (i-1) (by omega)
  have h1:(onN d s[i]).a.toNat=d+s[i].a.toNat:=by simp only[onN];rw[if_pos (by omega)];omega
  have h2:(onN d s[i]).b.toNat=d+s[i].b.toNat:=by simp only[onN];rw[if_pos (by omega)];omega
  have h3:¬(onN d s[i]).b<0:=by simp only[onN];rw[if_pos (by omega)];omega
  have h4:¬s[i].b<0:=by omega
  rw[h1,h2,hget _ (by omega),hget _ (by omega)]
  simp[zBh,h3,h4]
end
theorem yAq {vs:List ByteArray} {t:List Nd} (h:zI9 vs t=true):zAh t=true∧zM6 vs t t.length=true:=by simpa[zI9]using h
theorem ok_all {vs:List ByteArray} {t:List Nd}:zM6 vs t t.length=true↔∀i (hi:i<t.length),zCu vs t t[i]=true:=by
 unfold zM6;rw[wW,zR];exact⟨fun h i hi=>h _ (zH hi),fun h x hx=>by obtain⟨i,hi,rfl⟩:=xF.1 hx;exact h i hi⟩
end
section
def zL0 (d:Nat) (x:Nd):Nd:=⟨x.op,x.n,x.var,x.attr,if 0≤x.a then x.a-d else x.a,if 0≤x.b then x.b-d else x.b⟩
def zZy (t:List Nd) (d r:Nat):List Nd:=((t.drop d).take (r+1-d)).map (zL0 d)
def zA6 (t:List Nd) (r:Nat):List Nd:=zZy t (zN7 t r) r
section
variable {t:List Nd} {lo:Nat→Nat} {r:Nat}
theorem zG6 (hr:r<t.length) (hd:lo r≤r):(zZy t (lo r) r).length=r+1-lo r:=by
 simp only[zZy,zQ,zW,yS];omega
theorem zZb (hr:r<t.length) (hd:lo r≤r) (i:Nat) (hi:i<(zZy t (lo r) r).length):(zZy t (lo r) r)[i]=zL0 (lo r) (t[lo r+i]'(by rw[zG6 hr hd]at hi;omega)):=by
 simp only[zZy,wN,List.getElem_take,List.getElem_drop]
theorem yJq (T:Tre t lo) (hr:r<t.length) {i:Nat} (h1:lo r≤i) (h2:i≤r):lo r≤lo i:=by
 by_cases e:i=r
 ·rw[e];exact zC _
 ·rcases lam T r i hr (by omega)with h|h
  ·exact h
  ·omega
theorem zYm (T:Tre t lo) (hr:r<t.length) {i:Nat} (h1:lo r≤i) (h2:i≤r) (hi:i<t.length):(0≤t[i].a→(lo r:Int)≤t[i].a)∧(0≤t[i].b→(lo r:Int)≤t[i].b):=by
 have hl:=yJq T hr h1 h2;rcases T.kind i hi with ⟨b1,b2,b3,b4,b⟩|⟨b0,b1,b2,b3,b⟩|⟨b0,b0',b1,b2,a,b3,b4,b⟩
 ·omega
 ·have:=T.le (i-1) (by omega)
  omega
 ·have:=T.le (i-1) (by omega)
  have:=T.le a (by omega)
  omega
theorem yHf (T:Tre t lo) (hr:r<t.length):Emb (zZy t (lo r) r) t (lo r):=by
 have hd:=T.le r hr;refine⟨by rw[zG6 hr hd];omega,fun i hi hj => ?_⟩
 rw[zZb hr hd i hi];have hi':=hi;rw[zG6 hr hd]at hi';obtain⟨k1,k2⟩:=zYm T hr (i:=lo r+i) (by omega) (by omega) hj
 generalize t[lo r+i]=x at *;obtain⟨op,n,var,attr,a,b⟩:=x;simp only[onN,zL0]at k1 k2 ⊢;by_cases ha:0≤a
 ·by_cases hb:0≤b
  ·have:=k1 ha;have:=k2 hb
   rw[if_pos ha,if_pos hb,if_pos (by omega),if_pos (by omega)]
   congr 1<;>omega
  ·have:=k1 ha
   rw[if_pos ha,if_neg hb,if_pos (by omega),if_neg hb]
   congr 1;omega
 ·by_cases hb:0≤b
  ·have:=k2 hb
   rw[if_neg ha,if_pos hb,if_neg ha,if_pos (by omega)]
   congr 1;omega
  ·rw[if_neg ha,if_neg hb,if_neg ha,if_neg hb]
theorem yHc (T:Tre t lo) (hr:r<t.length):Tre (zZy t (lo r) r) (fun i=>lo (lo r+i)-lo r):=by
 have hd:=T.le r hr;have hl:=zG6 (lo:=lo) hr hd;refine⟨by omega,?_,fun i hi => ?_,fun i hi => ?_⟩
 ·rw[hl,show lo r+(r+1-lo r-1)=r by omega];omega
 ·rw[hl]at hi
  have:=T.le (lo r+i) (by omega)
  omega
 ·have hi':=hi
  rw[hl]at hi';have hin:=yJq T hr (i:=lo r+i) (by omega) (by omega)
  have hj:lo r+i<t.length:=by omega
  rw[zZb hr hd i hi];rcases T.kind (lo r+i) hj with ⟨b1,b2,b3,b4,b⟩|⟨b0,b1,b2,b3,b⟩|⟨b0,b0',b1,b2,a,b3,b4,b⟩
  ·exact .inl ⟨b1,b2,by simp only[zL0];rw[if_neg (by omega)];exact b3,by simp only[zL0];rw[if_neg (by omega)];exact b4,show lo (lo r+i)-lo r=i by omega⟩
  ·have hle:=T.le (lo r+i-1) (by omega)
   have h1:1≤i:=by
    by_cases e:i=0
    ·subst e;simp only[yL]at *;omega
    ·omega
   refine .inr (.inl ⟨b0,h1,by simp only[zL0];rw[if_pos (by omega)];omega,by simp only[zL0];rw[if_neg (by omega)];exact b3,?_⟩)
   show lo (lo r+i)-lo r=lo (lo r+(i-1))-lo r;rw[show lo r+(i-1)=lo r+i-1 by omega,b]
  ·have hle:=T.le (lo r+i-1) (by omega)
   have hla:=T.le a (by omega)
   have h1:1≤i:=by
    by_cases e:i=0
    ·subst e;simp only[yL]at *;omega
    ·omega
   refine .inr (.inr ⟨b0,b0',h1,by simp only[zL0];rw[if_pos (by omega)];omega,a-lo r,by simp only[zL0];rw[if_pos (by omega)];omega,?_,?_⟩)
   ·show lo (lo r+(i-1))-lo r=a-lo r+1
    rw[show lo r+(i-1)=lo r+i-1 by omega,b4];omega
   ·show lo (lo r+i)-lo r=lo (lo r+(a-lo r))-lo r
    rw[b,show lo r+(a-lo r)=a by omega]
end
section
variable {sc:List Ty} {vs:List ByteArray} {en:En} {t:List Nd} {r:Nat}
theorem zR6 (h:zAh t=true) (hr:r<t.length):zAh (zA6 t r)=true:=by
 have T:=zCt h;refine yEu (yHc T hr) fun i hi => ?_
 unfold zA6 at hi;have hd:=T.le r hr;simp only[zA6];rw[zZb hr hd i hi];exact zQs h _ _
theorem yE3 (h:zI9 vs t=true) (hr:r<t.length):zI9 vs (zA6 t r)=true:=by
 obtain⟨h1,h2⟩:=yAq h;have T:=zCt h1;rw[zI9,zR6 h1 hr,zCi,ok_all];intro i hi;have E:=yHf T hr;have h3:zCu vs t (onN (zN7 t r) ((zA6 t r)[i]'hi))=zCu vs (zA6 t r) ((zA6 t r)[i]'hi):=yJ0 (vs:=vs) (zCt (zR6 h1 hr)) E i hi;have hj:zN7 t r+i<t.length:=by have:=E.len;unfold zA6 at hi;omega
 have h4:t[zN7 t r+i]=onN (zN7 t r) ((zA6 t r)[i]'hi):=E.at' i hi hj;rw[←h3,←h4];exact ok_all.1 h2 _ hj
end
def zP6 (t:List Nd):Nat→Nat→List Nat
 | 0,_=>[]
 | k+1,i=>if (t.getD i nd0).op≠25 then [i]else zP6 t k (t.getD i nd0).a.toNat++zP6 t k (t.getD i nd0).b.toNat
def zEn (t:List Nd) (i:Nat):List Nat:=zP6 t (i+1) i
section
variable {t:List Nd} {lo:Nat→Nat} (T:Tre t lo)
include T
theorem zE2 {i:Nat} (hi:i<t.length) (h:t[i].op=25):t[i].a.toNat<i∧t[i].b.toNat<i∧0≤t[i].a∧0≤t[i].b:=by
 rcases T.kind i hi with ⟨b1,b2,b3,b4,b⟩|⟨b0,b1,b2,b3,b⟩|⟨b0,b0',b1,b2,a,b3,b4,b⟩
 ·omega
 ·omega
 ·have:=T.le (i-1) (by omega)
  omega
theorem zH3:∀(k m i:Nat),i<t.length→i<k→i<m→zP6 t k i=zP6 t m i
 | 0,_,_,_,h,_=>by omega
 | _,0,_,_,_,h=>by omega
 | k+1,m+1,i,hi,h1,h2=>by
  simp only[zP6];rw[zAx hi];split
  ·rfl
  ·rename_i ho
   obtain⟨k1,k2,_⟩:=zE2 T hi (by simpa using ho)
   rw[zH3 k m _ (by omega) (by omega) (by omega),zH3 k m t[i].b.toNat (by omega) (by omega) (by omega)]
omit T in
theorem zJ0 {i:Nat} (hi:i<t.length) (h:t[i].op≠25):zEn t i=[i]:=by
 simp only[zEn,zP6];rw[zAx hi,if_pos h]
theorem zJz {i:Nat} (hi:i<t.length) (h:t[i].op=25):zEn t i=zEn t t[i].a.toNat++zEn t t[i].b.toNat:=by
 obtain⟨k1,k2,_⟩:=zE2 T hi h;simp only[zEn];rw[zP6,zAx hi,if_neg (by simp[h])]
 rw[zH3 T i (t[i].a.toNat+1) _ (by omega) (by omega) (by omega),zH3 T i (t[i].b.toNat+1) _ (by omega) (by omega) (by omega)]
theorem zNy:∀i,i<t.length→(∀x∈zEn t i,x≤i)∧zEn t i≠[]:=by
 intro i
 induction i using Nat.strongRecOn with
 | _ i ih =>
  intro hi;by_cases h:t[i].op=25
  ·obtain⟨k1,k2,_⟩:=zE2 T hi h
   rw[zJz T hi h];obtain⟨a1,a2⟩:=ih _ k1 (by omega)
   obtain⟨b1,b2⟩:=ih _ k2 (by omega)
   refine⟨fun x hx => ?_,by simp[a2]⟩
   rcases wB.1 hx with hx|hx
   ·have:=a1 x hx;omega
   ·have:=b1 x hx;omega
  ·rw[zJ0 hi h]
   simp
theorem zTq:∀i,i<t.length→(zEn t i).length≤i+1-lo i:=by
 intro i
 induction i using Nat.strongRecOn with
 | _ i ih =>
  intro hi;have hl:=T.le i hi;by_cases h:t[i].op=25
  ·obtain⟨k1,k2,_⟩:=zE2 T hi h
   rw[zJz T hi h,zM];have c1:=ih _ k1 (by omega)
   have c2:=ih _ k2 (by omega)
   rcases T.kind i hi with ⟨b1,b2,b3,b4,b⟩|⟨b0,b1,b2,b3,b⟩|⟨b0,b0',b1,b2,a,b3,b4,b⟩
   ·omega
   ·omega
   ·have e1:t[i].a.toNat=a:=by omega
    have e2:t[i].b.toNat=i-1:=by omega
    have:=T.le (i-1) (by omega)
    have:=T.le a (by omega)
    rw[e1]at c1 ⊢;rw[e2]at c2 ⊢;omega
  ·rw[zJ0 hi h]
   simp only[List.length_cons,zAc];omega
end
theorem true_and (a b:V):zLi (yH7 a b)=(zLi a&&zLi b):=by
 obtain⟨ak,an⟩:=a;obtain⟨bk,bn⟩:=b;cases ak<;>cases bk<;>by_cases h1:an=0<;>by_cases h2:bn=0<;>simp[zLi,yH7,zEk,zEs,h1,h2]
section
variable {sc:List Ty} {vs:List ByteArray} {en:En} {t:List Nd} {lo:Nat→Nat}
end
end


section
section
variable {sc:List Ty} {vs:List ByteArray} {en:En} {a b:List Nd} {op:Int}
end
end
section
def zC9 (t:List Nd):Bool:=wX (t.getD (t.length-1) nd0).op
section
variable {sc:List Ty} {vs:List ByteArray} {en:En} {a b:List Nd} {op:Int}
end
end
theorem p73:P0 [] 200 g92:=by
 refine mk1 (S:=[]) yJ Tryz.func200 rfl (by kernel_rfl) ii (fun x a h=>zBu h) (fun a=>rfl) (fun o h n => ?_)
 have hc:o=2∨o=3∨o=13∨(o≠2∧o≠3∧o≠13):=by omega
 rcases hc with rfl|rfl|rfl|⟨h1,h2,h3⟩
 ·simp[evv,ii,bv,wX]
 ·simp[evv,ii,bv,wX]
 ·simp[evv,ii,bv,wX]
 ·by_cases h4:19≤o
  ·by_cases h5:o≤26
   ·have ht:wX o=true:=by simp only[wX,decide_eq_true_eq];omega
    simp[evv,ii,bv,ht,h1,h2,h3,h4,h5]
   ·have ht:wX o=false:=by simp only[wX,decide_eq_false_iff_not];omega
    simp[evv,ii,bv,ht,h1,h2,h3,h4,h5]
  ·have ht:wX o=false:=by simp only[wX,decide_eq_false_iff_not];omega
   simp[evv,ii,bv,ht,h1,h2,h3,h4]
def G44:=yH deT xQ fun t=>bv (decide (0<t.length)&&zC9 t)
def yLq:List (FuncId×(List AV→Heap→PRes)):=[(200,g92)]
theorem P44:P0 [] 156 G44:=by
 refine mkH 1 (S:=[]) (l:=yLq) (zS p73 yJ) Tryz.func156 rfl (by kernel_rfl) zNj (fun h l x e=>by obtain⟨a,rfl,_⟩:=zG4 e;exact zC _) (fun a=>rfl) (fun args t h n e hp hn => ?_)
 obtain⟨a,rfl,e1⟩:=zG4 e;obtain⟨s1,s2,s3,s4,s5⟩:=zN e1;by_cases h0:t.length=0
 ·simp[evx,s1,s2,s3,h0,yLq,bv]
 ·obtain⟨j,he⟩:∃j,t.length=j+1:=⟨t.length-1,by omega⟩
  have he1:IntKind.i64.wrap ((t.length:Int)-1)=j:=by rw[he];exact zRx (by have:t.length*64≤140737488355328:=hp;unfold big;omega)
  have he3:0<t.length:=by omega
  have he4:j<t.length:=by omega
  rcases zKk e1 with ⟨hq,_⟩|⟨id,off,k,rfl,hk,ho',hat⟩
  ·rw[hq]at he3;simp at he3
  have hro:=zEj hk;have h0':=zJc hk hn 0;simp only[yL]at h0';have hcl:=yI (c:=0) (hat j he4) rfl (by omega)
  simp only[yL]at hcl;have hw1:off+(j*6+1)≤k.cells.length:=by omega
  have htt:zC9 t=wX t[j].op:=by unfold zC9;rw[show t.length-1=j by omega,zAx he4]
  generalize t[j].op=o at *;simp only[ii]at hcl;simp[evx,s1,s2,s3,he1,he3,he4,hro,hcl,hw1,yLq,g92,yV,deI,htt,bv]
def zFp (f:Nat→Int):Nat→Int×Int
 | 0=>(0,0)
 | n+1=>if (zFp f n).2≠0 then zFp f n else if f n≠0 then ((n:Int),f n)else (0,0)
theorem zDe {f:Nat→Int}:∀{n:Nat},(∀i,i<n→f i=0)→zFp f n=(0,0)
 | 0,_=>rfl
 | n+1,h=>by
  have h1:=zDe (n:=n) fun i hi=>h i (by omega)
  simp[zFp,h1,h n (by omega)]
theorem zG2 {f:Nat→Int} {j:Nat} (h0:∀i,i<j→f i=0) (hj:f j≠0):∀{n:Nat},j<n→zFp f n=((j:Int),f j)
 | 0,h=>by omega
 | n+1,h=>by
  by_cases e:j=n
  ·subst e
   simp[zFp,zDe h0,hj]
  ·have h1:=zG2 h0 hj (n:=n) (by omega)
   simp[zFp,h1,hj]
theorem zF5 {f:Nat→Int}:∀{n:Nat},(zFp f n).2=0→∀i,i<n→f i=0
 | 0,_,i,hi=>by omega
 | n+1,h,i,hi=>by
  by_cases h1:(zFp f n).2=0
  ·by_cases h2:f n=0
   ·by_cases e:i=n
    ·rw[e];exact h2
    ·exact zF5 h1 i (by omega)
   ·simp[zFp,h1,h2]at h
  ·simp[zFp,h1]at h
structure Fl where
 code:Int
 part:Int
 index:Int
 sub:Int
deriving DecidableEq
def fl0:Fl:=⟨0,0,0,0⟩
def wT (f:Fl):List AV:=[ii f.code,ii f.part,ii f.index,ii f.sub]
def ff (f:Fl):AV:=.g (wT f)
def wF (sc:List Ty) (z:ByteArray):Int:=wY (sc.map (·.name)) z
def ty0:Ty:=⟨ByteArray.empty,[]⟩
def zZl (t:Ty) (j:Nat):Int :=
 if xJ (t.attrs.getD j ByteArray.empty)=false∨(t.attrs.getD j ByteArray.empty==tsB)=true then 22 else if wY t.attrs (t.attrs.getD j ByteArray.empty)≠j then 25 else 0
def zQx (sc:List Ty) (i:Nat):Int :=
 if xJ (sc.getD i ty0).name=false then 22 else if wF sc (sc.getD i ty0).name≠i then 25 else if 8<(sc.getD i ty0).attrs.length then 24 else (zFp (zZl (sc.getD i ty0)) (sc.getD i ty0).attrs.length).2
def zLf (sc:List Ty):Int:=if sc.length=0∨16<sc.length then 23 else (zFp (zQx sc) sc.length).2
def it0:It:=⟨false,[],ByteArray.empty,0,0⟩
def zQk (it:It):Bool:=decide (it.types.length≠0)&&xJ it.var&&decide (0≤it.lo)&&decide (0≤it.hi)&&it.types.all xJ&&(!it.neg||(decide (it.lo=1)&&decide (it.hi=1)))
def shQ (q:Qu):Bool:=decide (q.items.length≠0)&&decide (0≤q.mode∧q.mode≤2)&&decide (0≤q.after∧q.after≤3)&&decide (0≤q.within)&&q.items.all zQk&&(decide (q.wh.length=0)||zAh q.wh)&&(emB q.par||xJ q.par)&&q.ret.all zAh
def zKv (l:List ByteArray) (j:Nat):Bool:=(List.range j).any fun i=>(l.take i).any fun z=>z==l.getD i ByteArray.empty
def zEl (sc:List Ty) (it:It):Int :=
 if it.types.any (fun z=>decide (wF sc z<0))=true then 61 else if zKv it.types it.types.length=true then 62 else if it.lo<1∨it.hi<it.lo∨4<it.hi then 63 else 0
def itE (sc:List Ty) (q:Qu) (i:Nat):Int :=
 if zEl sc (q.items.getD i it0)≠0 then zEl sc (q.items.getD i it0)else if wY (vars q.items) (q.items.getD i it0).var<i then 64 else 0
def zMc (sc:List Ty) (q:Qu):Fl :=
 if 10<q.items.length then ⟨60,1,10,0⟩else if (zFp (itE sc q) q.items.length).2≠0 then ⟨(zFp (itE sc q) q.items.length).2,1,(zFp (itE sc q) q.items.length).1,0⟩else if q.items.all (·.neg)=true then ⟨65,1,0,0⟩else fl0
def zN8 (sc:List Ty) (it:It) (z:ByteArray):Bool:=it.types.all fun y=>decide (zCn sc (wF sc y) z≠-1)
def zMx (it:It):Bool := !it.neg&&decide (1<it.hi)
def zDb (sc:List Ty) (q:Qu) (res:Bool) (x:Nd):Int :=
 if wU x.op=false∧zC3 x.op=false then 0 else if wY (vars q.items) x.var<0 then 68 else
  if x.op≠5∧zN8 sc (q.items.getD (wY (vars q.items) x.var).toNat it0) x.attr=false then 69 else
  if (zC3 x.op=true∧(q.items.getD (wY (vars q.items) x.var).toNat it0).neg=true)∨(x.op=11∧zMx (q.items.getD (wY (vars q.items) x.var).toNat it0)=false)then 76 else
  if res=true∧wU x.op=true∧((q.items.getD (wY (vars q.items) x.var).toNat it0).neg=true∨zMx (q.items.getD (wY (vars q.items) x.var).toNat it0)=true)then 76 else 0
def yGi (t:List Nd) (x:Nd) (k:Int):Bool:=decide (k<0)||(wX (t.getD k.toNat nd0).op==zBh x.op)
def yBu (t:List Nd) (x:Nd):Bool:=yGi t x x.a&&yGi t x x.b
def zQm (sc:List Ty) (q:Qu) (t:List Nd) (res:Bool) (i:Nat):Int :=
 if zDb sc q res (t.getD i nd0)≠0 then zDb sc q res (t.getD i nd0)else if yBu t (t.getD i nd0)=true then 0 else 75
def wlk (sc:List Ty) (q:Qu) (t:List Nd) (res:Bool):Int×Int:=zFp (zQm sc q t res) t.length
def zT7 (sc:List Ty) (q:Qu):Int×Int:=if (wlk sc q q.wh false).2=0∧zC9 q.wh=false then ((q.wh.length:Int)-1,75)else wlk sc q q.wh false
def yEo (sc:List Ty) (q:Qu) (t:List Nd):Int×Int:=if (wlk sc q t true).2=0∧zC9 t=true then ((t.length:Int)-1,75)else wlk sc q t true
def zSx (q:Qu) (l:List Int):Nat:=(l.filter fun i=>(q.items.getD i.toNat it0).neg||decide (1<(q.items.getD i.toNat it0).hi)).length
def zBj (t:List Nd):List Nat:=zEn t (t.length-1)
def zA5 (q:Qu) (t:List Nd):List Int:=zA0 wU (vars q.items) t
def zSy (q:Qu) (k:Nat):Int:=if 1<zSx q (zA5 q (zA6 q.wh ((zBj q.wh).getD k 0)))then 77 else 0
def zUx (q:Qu):Fl:=if (zFp (zSy q) (zBj q.wh).length).2≠0 then ⟨77,4,((zBj q.wh).getD (zFp (zSy q) (zBj q.wh).length).1.toNat 0:Nat),0⟩else fl0
def whF (sc:List Ty) (q:Qu):Fl :=
 if q.wh.length=0 then fl0 else if (zT7 sc q).2≠0 then ⟨(zT7 sc q).2,4,(zT7 sc q).1,0⟩else zUx q
def zSe (sc:List Ty) (q:Qu) (k:Nat):Int:=(yEo sc q (q.ret.getD k [])).2
def zUl (sc:List Ty) (q:Qu):Fl :=
 if 8<q.ret.length then ⟨78,5,8,0⟩else if (zFp (zSe sc q) q.ret.length).2≠0 then ⟨(zFp (zSe sc q) q.ret.length).2,5,(zFp (zSe sc q) q.ret.length).1,(yEo sc q (q.ret.getD (zFp (zSe sc q) q.ret.length).1.toNat [])).1⟩else fl0
def zGu (sc:List Ty) (q:Qu):Bool := !(q.par==tsB)&&q.items.all fun it=>zN8 sc it q.par
def chk (sc:List Ty) (q:Qu):Fl :=
 if zLf sc≠0 then ⟨zLf sc,0,0,0⟩else if shQ q=false then ⟨50,0,0,0⟩else if (zMc sc q).code≠0 then zMc sc q else if (whF sc q).code≠0 then whF sc q else
  if 1099511627776<q.within then ⟨66,2,0,0⟩else if emB q.par=false∧zGu sc q=false then ⟨67,3,0,0⟩else zUl sc q
end Go.Proofs.YtbffkkeieihpdaaGreatDoor
