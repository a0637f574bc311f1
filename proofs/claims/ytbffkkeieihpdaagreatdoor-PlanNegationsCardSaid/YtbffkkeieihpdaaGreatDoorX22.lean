import Derived.Test.YtbffkkeieihpdaaGreatDoorX21
import Derived.Test.YtbffkkeieihpdaaGreatDoorX17
import Derived.Test.YtbffkkeieihpdaaGreatDoorX19
import Derived.Test.YtbffkkeieihpdaaGreatDoorX14
set_option linter.unusedSimpArgs false
set_option linter.unusedVariables false
set_option linter.constructorNameAsVariable false
set_option maxRecDepth 100000
set_option maxHeartbeats 4000000
namespace Go.Proofs.YtbffkkeieihpdaaGreatDoor
open Go Go.Eng
section
theorem RowR.zero {h0 h h':Heap} {l:List (List Nd)} {lo n n':Nat} {cs:List AV} (r:RowR h0 l lo 0 cs h n):RowR h0 l lo 0 cs h' n':=⟨r.1,fun i hi=>by
 obtain⟨u,u1,u2⟩:=r.2 i hi
 refine⟨u,u1,?_⟩
 rw[if_neg (by omega)]at u2 ⊢
 exact u2⟩
theorem RowI.full {h0 h h':Heap} {l:List It} {lo n n':Nat} {cs:List AV} (r:RowI h0 l lo l.length cs h n) (hn:n≤n') (ha:∀i,lo≤i→i<n→h' i=h i):RowI h0 l lo l.length cs h' n':=⟨r.1,fun i hi=>by
 obtain⟨u,u0,u1,u2⟩:=r.2 i hi
 refine⟨u,u0,u1,?_⟩
 rw[if_pos hi]at u2 ⊢
 exact wtn_rd u2 (Nat.le_refl _) hn ha⟩
section
variable {h:Heap} {n:Nat} {q:Qu} {za zb zc:AV} {wa wc lb hb lo:Nat}
theorem b56b (hl:q.items.length≤2199023255552) (hla:∀t∈q.items,t.types.length≤2199023255552) (hn:Fresh n h) {cc:List AV} (ca:List AV) (s:St) {Q} (D:D56 h n q za zb zc wa wc lb hb lo 0 0 ca cc s) :
  awp (cx [] (pfL [])) (hdC 1 (tlC 2 (Tryz.f56.body.getD .skip))) (thenQ (fun s=>∃ca,D56 h n q za zb zc wa wc lb hb lo q.items.length 0 ca cc s) Q) s:=by
 obtain⟨e,h1,n1⟩:=s
 show awp (cx [] (pfL [])) (.seq (hdC 1 (hdC 1 (tlC 2 (Tryz.f56.body.getD .skip)))) (.block 0 (.loop (bodyL (hdC 1 (tlC 2 (Tryz.f56.body.getD .skip))))))) _ _
 obtain⟨q1,q2,b1,b2,ra,rb,rc,ag,fr,ord⟩:=D
 simp only[]at q1 q2 b1 b2 ra rb rc ag fr ord
 have hz:za.isS∧za.slen=q.items.length∧(∀g,AV.unc g za=za)∧za.cells=[za]:=by
  rcases ra with ⟨r1,rfl⟩|⟨r1,rfl,_⟩
  ·exact⟨⟨rfl,rfl⟩,by rw[r1];rfl,fun _=>rfl,rfl⟩
  ·exact⟨trivial,rfl,fun _=>rfl,rfl⟩
 obtain⟨t1,t2,t3,t4⟩:=hz
 simp[evx,hdC,tlC,bodyL,Tryz.f56,q1,b1,t1,t2]
 refine awp_loop (fun s=>∃j ca,j≤q.items.length∧s.e 19=ii q.items.length∧s.e 20=ii j∧D56 h n q za zb zc wa wc lb hb lo j 0 ca cc s) (fun s=>q.items.length-(s.e 20).i.toNat) ⟨0,ca,by omega,by simp[up,ii],by simp[up,ii],⟨by simp[up,q1],by simp[up,q2],b1,b2,ra,rb,rc,ag,fr,ord⟩⟩ ?_
 clear ra rb rc
 rintro e' h' n' ⟨j,cs,hj,q19,q20,D⟩
 simp only[]at q19 q20
 obtain⟨q1,q2,b1,b2,ra,rb,rc,ag,fr,ord⟩:=D
 simp only[]at q1 q2 b1 b2 ra rb rc ag fr ord
 by_cases hlt:j<q.items.length
 ·obtain⟨r1,rfl,r2,r3,r4,r5,r6⟩:=ra.resolve_left (by omega)
  obtain⟨c,c1,c2,c3⟩:=r3.2 j hlt
  rw[if_neg (by omega)]at c3
  have c3':=rd_agr hn c3 _ ag
  have hcl:=r3.1
  have hbd:j*5+1<cs.length:=by omega
  have c4:∀hb:j*5+1<cs.length,cs[j*5+1]'hb=c:=fun hb=>by rw[List.getElem?_eq_getElem hb]at c2;exact Option.some.inj c2
  have hw:=wrap_nat (j:=j) (by unfold big;omega)
  have hb2:j*5+2≤cs.length:=by omega
  have hla':=hla _ (List.getElem_mem hlt)
  simp[evx,q19,q20,q1,b1,ii,ss,hlt,r2,c4,hbd,hb2]
  refine (c108 c3' hla' fr).mono ?_
  intro v h3 n3 o
  obtain⟨o1,o2,o3⟩:=o.fr fr
  have hle:Heap.le h' h3:=fun i k e=>by rw[o1 i (lt_of e fr)];exact e
  have ov:=o.flat Flat.str c3'
  have hv:v.cells=[v]∧v.one:=by
   rcases o with ⟨_,rfl,_⟩|⟨_,rfl,_⟩
   ·exact⟨rfl,rfl⟩
   ·exact⟨rfl,trivial⟩
  have g1:=(o1 wa (by omega)).trans r2
  have g2:=(o1 n (by omega)).trans b1
  refine⟨.inl hle,?_⟩
  simp[evx,g1,hv.1,hv.2,hb2,hw]
  have a1:∀b,agree n h (up h3 wa b):=fun b=>(agree_up (by omega) _).2 (agree_trans ag o1 (by omega))
  have a2:∀b,Fresh (n3+1) (up h3 wa b):=fun b=>(fresh_up (by omega) _).2 (o2.add 1)
  have a3:∀b i,i≠wa→i<n'→up h3 wa b i=h' i:=fun b i h1 h2=>by rw[up_ne _ _ h1];exact o1 _ h2
  refine⟨⟨j+1,hlt,by simp,cs.set (j*5+1) v,⟨by simp[up,q1],by simp[up,q2],?_,?_,.inr ⟨r1,rfl,by simp[up],r3.step hlt (by simp only[];omega) (fun i h1 h2 => ?_) (wtn_rd ov (by omega) (by simp only[];omega) fun i h1 h2 => ?_),r4,r5,r6⟩,?_,?_,a1 _,a2 _,by simp only[];omega⟩⟩,by omega⟩
  ·simp only[]
   rw[a3 _ _ (by omega) (by omega)];exact b1
  ·simp only[]
   rw[a3 _ _ (by omega) (by omega)];exact b2
  ·simp only[]
   exact a3 _ _ (by omega) h2
  ·simp only[]
   rw[up_ne _ _ (by omega)]
  ·exact wtn_rd rb (Nat.le_refl _) (Nat.le_refl _) fun i h1 h2=>a3 _ _ (by omega) (by omega)
  ·refine rc.imp id fun⟨y1,y2,y3,y4,y5,y6,y7⟩=>⟨y1,y2,?_,y4.zero,y5,y6,y7⟩
   simp only[]
   rw[a3 _ _ (by omega) (by omega)];exact y3
 ·obtain rfl:j=q.items.length:=by omega
  simp[evx,q19,q20,ii]
  exact⟨cs,⟨by simp[up,q1],by simp[up,q2],b1,b2,ra,rb,rc,ag,fr,ord⟩⟩
theorem b56c (hl:q.ret.length≤2199023255552) (hla:∀t∈q.ret,t.length≤2199023255552) (hn:Fresh n h) {ca:List AV} (cc:List AV) (s:St) {Q} (D:D56 h n q za zb zc wa wc lb hb lo q.items.length 0 ca cc s) :
  awp (cx [] (pfL [])) (hdC 1 (tlC 3 (Tryz.f56.body.getD .skip))) (thenQ (fun s=>∃cc,D56 h n q za zb zc wa wc lb hb lo q.items.length q.ret.length ca cc s) Q) s:=by
 obtain⟨e,h1,n1⟩:=s
 show awp (cx [] (pfL [])) (.seq (hdC 1 (hdC 1 (tlC 3 (Tryz.f56.body.getD .skip)))) (.block 2 (.loop (bodyL (hdC 1 (tlC 3 (Tryz.f56.body.getD .skip))))))) _ _
 obtain⟨q1,q2,b1,b2,ra,rb,rc,ag,fr,ord⟩:=D
 simp only[]at q1 q2 b1 b2 ra rb rc ag fr ord
 have hz:zc.isS∧zc.slen=q.ret.length∧(∀g,AV.unc g zc=zc)∧zc.cells=[zc]:=by
  rcases rc with ⟨r1,rfl⟩|⟨r1,rfl,_⟩
  ·exact⟨⟨rfl,rfl⟩,by rw[r1];rfl,fun _=>rfl,rfl⟩
  ·exact⟨trivial,rfl,fun _=>rfl,rfl⟩
 obtain⟨t1,t2,t3,t4⟩:=hz
 simp[evx,hdC,tlC,bodyL,Tryz.f56,q1,b1,t1,t2]
 refine awp_loop (fun s=>∃j cc,j≤q.ret.length∧s.e 38=ii q.ret.length∧s.e 39=ii j∧D56 h n q za zb zc wa wc lb hb lo q.items.length j ca cc s) (fun s=>q.ret.length-(s.e 39).i.toNat) ⟨0,cc,by omega,by simp[up,ii],by simp[up,ii],⟨by simp[up,q1],by simp[up,q2],b1,b2,ra,rb,rc,ag,fr,ord⟩⟩ ?_
 clear ra rb rc
 rintro e' h' n' ⟨j,cs,hj,q38,q39,D⟩
 simp only[]at q38 q39
 obtain⟨q1,q2,b1,b2,ra,rb,rc,ag,fr,ord⟩:=D
 simp only[]at q1 q2 b1 b2 ra rb rc ag fr ord
 by_cases hlt:j<q.ret.length
 ·obtain⟨r1,rfl,r2,r3,r4,r5,r6⟩:=rc.resolve_left (by omega)
  obtain⟨c,c2,c3⟩:=r3.2 j hlt
  rw[if_neg (by omega)]at c3
  have c3':=rd_agr hn c3 _ ag
  have hcl:=r3.1
  have hbd:j<cs.length:=by omega
  have c4:∀hb:j<cs.length,cs[j]'hb=c:=fun hb=>by rw[List.getElem?_eq_getElem hb]at c2;exact Option.some.inj c2
  have hw:=wrap_nat (j:=j) (by unfold big;omega)
  have hb2:j+1≤cs.length:=by omega
  have hla':=hla _ (List.getElem_mem hlt)
  simp[evx,q38,q39,q1,b1,ii,ss,hlt,r2,c4,hbd,hb2]
  refine (c110 c3' hla' fr).mono ?_
  intro v h3 n3 o
  obtain⟨o1,o2,o3⟩:=o.fr fr
  have hle:Heap.le h' h3:=fun i k e=>by rw[o1 i (lt_of e fr)];exact e
  have ov:=o.flat Flat.nd c3'
  have hv:v.cells=[v]∧v.one:=by
   rcases o with ⟨_,rfl,_⟩|⟨_,rfl,_⟩
   ·exact⟨rfl,rfl⟩
   ·exact⟨rfl,trivial⟩
  have g1:=(o1 wc (by omega)).trans r2
  have g2:=(o1 n (by omega)).trans b1
  refine⟨.inl hle,?_⟩
  simp[evx,g1,hv.1,hv.2,hb2,hw]
  have a1:∀b,agree n h (up h3 wc b):=fun b=>(agree_up (by omega) _).2 (agree_trans ag o1 (by omega))
  have a2:∀b,Fresh (n3+1) (up h3 wc b):=fun b=>(fresh_up (by omega) _).2 (o2.add 1)
  have a3:∀b i,i≠wc→i<n'→up h3 wc b i=h' i:=fun b i h1 h2=>by rw[up_ne _ _ h1];exact o1 _ h2
  refine⟨⟨j+1,hlt,by simp,cs.set j v,⟨by simp[up,q1],by simp[up,q2],?_,?_,?_,?_,.inr ⟨r1,rfl,by simp[up],r3.step hlt (by simp only[];omega) (fun i h1 h2 => ?_) (wtn_rd ov (by omega) (by simp only[];omega) fun i h1 h2 => ?_),r4,r5,r6⟩,a1 _,a2 _,by simp only[];omega⟩⟩,by omega⟩
  ·simp only[]
   rw[a3 _ _ (by omega) (by omega)];exact b1
  ·simp only[]
   rw[a3 _ _ (by omega) (by omega)];exact b2
  ·refine ra.imp id fun⟨y1,y2,y3,y4,y5,y6,y7⟩=>⟨y1,y2,?_,y4.full (by simp only[];omega) fun i h1 h2=>a3 _ _ (by omega) h2,y5,y6,y7⟩
   simp only[]
   rw[a3 _ _ (by omega) (by omega)];exact y3
  ·exact wtn_rd rb (Nat.le_refl _) (Nat.le_refl _) fun i h1 h2=>a3 _ _ (by omega) (by omega)
  ·simp only[]
   exact a3 _ _ (by omega) h2
  ·simp only[]
   rw[up_ne _ _ (by omega)]
 ·obtain rfl:j=q.ret.length:=by omega
  simp[evx,q38,q39,ii]
  exact⟨cs,⟨by simp[up,q1],by simp[up,q2],b1,b2,ra,rb,rc,ag,fr,ord⟩⟩
theorem b56 {x:AV} (e1:deQ h x=some q) (hl1:q.items.length≤2199023255552) (hl2:q.wh.length≤2199023255552) (hl3:q.ret.length≤2199023255552) (hla:∀t∈q.items,t.types.length≤2199023255552) (hlr:∀t∈q.ret,t.length≤2199023255552) (hn:Fresh n h) :
  ACall (cx [] (pfL [])) 56 [x] h n fun z h' n'=>agree n h h'∧Fresh n' h'∧n≤n'∧deQ (wtn n n' h') z=some q:=by
 refine acall_of_awp (args:=[x]) (pfL_ok tb_nil) (mixed _ _) Tryz.func56 (c:=Tryz.f56.body.getD .skip) rfl (by kernel_rfl) (callable Tryz.func56 rfl rfl _ _) (show 1≤Tryz.f56.ntmps by decide +kernel) ?_
 obtain⟨a,b,c,rfl,x2,x3,x4⟩:=deQ_out e1
 refine awp_cut 2 _ _ (b56a x2 x3 x4 hl1 hl2 hl3 hn _ rfl) fun y1 h1 n1 ⟨za,zb,zc,wa,wc,lb,hb,lo,ca,cc,D⟩ => ?_
 refine awp_cut 1 _ _ (b56b hl1 hla hn _ _ D) fun y2 h2 n2 ⟨ca2,D2⟩ => ?_
 refine awp_cut 1 _ _ (b56c hl3 hlr hn _ _ D2) fun y3 h3 n3 ⟨cc2,D3⟩ => ?_
 obtain⟨q1,q2,b1,b2,ra,rb,rc,ag,fr,ord⟩:=D3
 simp only[]at q1 q2 b1 b2 ra rb rc ag fr ord
 have hza:za.cells=[za]∧za.one∧∀g,AV.unc g za=za:=by
  rcases ra with ⟨r1,rfl⟩|⟨r1,rfl,_⟩
  ·exact⟨rfl,rfl,fun _=>rfl⟩
  ·exact⟨rfl,trivial,fun _=>rfl⟩
 have hzc:zc.cells=[zc]∧zc.one∧∀g,AV.unc g zc=zc:=by
  rcases rc with ⟨r1,rfl⟩|⟨r1,rfl,_⟩
  ·exact⟨rfl,rfl,fun _=>rfl⟩
  ·exact⟨rfl,trivial,fun _=>rfl⟩
 obtain⟨t1,t2,t3,t4,t5⟩:=sl_is rb
 simp[evx,tlC,Tryz.f56,q1,q2,b1,b2,ii,ss,zq,hza.2,hzc.2,t4]
 refine⟨(agree_up (by omega) _).2 ag,(fresh_up (by omega) _).2 (fr.add 1),by omega,?_⟩
 generalize some (⟨[za,.v (.int .i64 q.mode),.v (.int .i64 q.after),zb,.v (.int .i64 q.within),.v (.string q.par),zc],0,true,7⟩:Blk)=B
 have g:∀i,i≠n+1→up h3 (n+1) B i=h3 i:=fun i hi=>up_ne _ _ hi
 refine deQ_in ?_ (wtn_rd rb (by omega) (by omega) fun i h1 h2=>g i (by omega)) ?_
 ·rcases ra with ⟨r1,rfl⟩|⟨r1,rfl,r2,r3,r4,r5,r6⟩
  ·rw[List.length_eq_zero_iff.1 r1];rfl
  ·exact (r3.full (Nat.le_refl _) (fun i h1 h2=>g i (by omega))).fin (by omega) (by omega) (by omega) (by omega) (by rw[g _ (by omega)];exact r2)
 ·rcases rc with ⟨r1,rfl⟩|⟨r1,rfl,r2,r3,r4,r5,r6⟩
  ·rw[List.length_eq_zero_iff.1 r1];rfl
  ·refine RowR.fin (h0:=h) (lo:=lo) (n:=n3) ⟨r3.1,fun i hi => ?_⟩ (by omega) (by omega) (by omega) (by omega) (by rw[g _ (by omega)];exact r2)
   rw[wtn_up _ (.inl (by omega))]
   exact r3.2 i hi
end
end
section
theorem lay_own {t:List Nd} {f g:Nat→Ins} {k:Nat}:∀{n:Nat},k<n→(layT t f g n)[posT t k]? = some (f k)
 | 0,h=>by omega
 | n+1,h=>by
  simp only[layT]
  by_cases e:k=n
  ·subst e
   rw[List.getElem?_append_right (by rw[lay_len];exact Nat.le_refl _),lay_len,Nat.sub_self]
   rfl
  ·have hl:=pos_lt (t:=t) (k:=k) (n:=n) (by omega)
   rw[List.getElem?_append_left (by rw[lay_len];omega)]
   exact lay_own (by omega)
theorem lay_jmp {t:List Nd} {f g:Nat→Ins} {k:Nat} (hp:(parT t k).isSome=true):∀{n:Nat},k<n→(layT t f g n)[posT t k+1]? = some (g k)
 | 0,h=>by omega
 | n+1,h=>by
  simp only[layT]
  by_cases e:k=n
  ·subst e
   rw[List.getElem?_append_right (by rw[lay_len];omega),lay_len,Nat.add_sub_cancel_left,if_pos hp]
   rfl
  ·have hl:=pos_lt (t:=t) (k:=k) (n:=n) (by omega)
   rw[if_pos hp]at hl
   rw[List.getElem?_append_left (by rw[lay_len];omega)]
   exact lay_jmp hp (by omega)
theorem name_col {sc:List Ty} {t:List Nd} {i:Nat} (hi:i<t.length) (h:4≤t[i].op∧t[i].op≤11∧t[i].op≠5):0≤ixOf (namesOf t) t[i].attr∧((namesOf t).map (colOf sc))[(ixOf (namesOf t) t[i].attr).toNat]? = some (colOf sc t[i].attr):=by
 obtain⟨m,hm⟩:=names_app t (i+1) (t.length-(i+1))
 rw[show i+1+(t.length-(i+1))=t.length by omega]at hm
 have h1:namesTo t (i+1)=addN (namesTo t i) t[i].attr:=by rw[namesTo,getD_at hi,addX,if_pos h]
 have h2:(namesOf t).findIdx (· == t[i].attr)<(namesOf t).length:=by
  unfold namesOf
  rw[hm]
  exact (ix_app m (by rw[h1];exact add_has _ _)).2
 have h3:ixOf (namesOf t) t[i].attr=(((namesOf t).findIdx (· == t[i].attr):Nat):Int):=by unfold ixOf;rw[if_pos h2]
 have h4:=List.findIdx_getElem (w:=h2)
 rw[h3,Int.toNat_natCast]
 refine⟨by omega,?_⟩
 rw[List.getElem?_map,List.getElem?_eq_getElem h2,Option.map_some]
 have h5:(namesOf t)[(namesOf t).findIdx (· == t[i].attr)]=t[i].attr:=by rw[←ba_beq];exact h4
 rw[h5]
def isT (v:V):Prop:=v.k=true→v.n=0∨v.n=1
theorem rank_isT (r:Int):isT (ofRank r):=by
 unfold ofRank isT
 repeat' split
 all_goals simp
theorem truth_isT (b:Bool):isT (truthV b):=by
 unfold truthV isT
 split<;>simp
theorem cmp_isT (o:Int) (a b:V):isT (cmpV o a b):=by
 unfold cmpV
 repeat' split
 all_goals first|exact truth_isT _|(intro h;cases h)
theorem node_isT {sc:List Ty} {it:Int} {en:En} {x:Nd} {va vb:V} (h:truthO x.op=true):isT (nodeV sc it en x va vb):=by
 unfold truthO at h
 simp only[decide_eq_true_eq]at h
 unfold nodeV
 by_cases h1:x.op=1
 ·omega
 by_cases h2:x.op=2
 ·rw[if_neg h1,if_pos h2];exact fun _=>.inr rfl
 by_cases h3:x.op=3
 ·rw[if_neg h1,if_neg h2,if_pos h3];exact fun _=>.inl rfl
 by_cases h4:x.op≤11
 ·omega
 by_cases h5:x.op=12
 ·omega
 rw[if_neg h1,if_neg h2,if_neg h3,if_neg h4,if_neg h5]
 by_cases h6:x.op=13
 ·rw[if_pos h6];exact rank_isT _
 rw[if_neg h6]
 unfold applyL
 repeat' split
 all_goals first|omega|exact rank_isT _|exact cmp_isT _ _ _
theorem last_snoc (st:List V) (v:V):(st++[v]).getLastD unk=v:=by simp[List.getLastD_eq_getLast?]
theorem drop_snoc (st:List V) (v:V):(st++[v]).dropLast=st:=by simp
section
variable {sc:List Ty} {vs:List ByteArray} {t:List Nd} {lo:Nat→Nat} {en:En}
def progP (sc:List Ty) (vs:List ByteArray) (t:List Nd):Pr:=⟨codeT vs t,(namesOf t).map (colOf sc)⟩
theorem own_at {i:Nat} (hi:i<t.length):∃h:posT t i<(progP sc vs t).code.length,(progP sc vs t).code[posT t i]'h=ownI (namesOf t) (itemV vs t[i]) t[i]:=by
 have h1:(codeT vs t)[posT t i]? = some (ownT vs t i):=lay_own hi
 obtain⟨h2,h3⟩:=List.getElem?_eq_some_iff.1 h1
 exact⟨h2,h3.trans (by rw[ownT,getD_at hi])⟩
theorem node_ok (h:okTo vs t t.length=true) {i:Nat} (hi:i<t.length):nodeOk vs t t[i]=true:=by
 unfold okTo at h
 rw[List.take_length,List.all_eq_true]at h
 exact h _ (List.getElem_mem hi)
theorem run_sub (T:Tre t lo) (hok:okTo vs t t.length=true):∀(i:Nat),i<t.length→∀st:List V,fromV (progP sc vs t) en (posT t (lo i)) st=fromV (progP sc vs t) en (posT t i+1) (st++[valAt sc (t.map (itemV vs)) en t i]):=by
 intro i
 induction i using Nat.strongRecOn with
 | _ i ih =>
  intro hi st
  obtain⟨hlt,hown⟩:=own_at (sc:=sc) (vs:=vs) hi
  have hv:=valAt_eq (sc:=sc) (its:=t.map (itemV vs)) (en:=en) hi
  have hits:(t.map (itemV vs)).getD i 0=itemV vs t[i]:=by rw[List.getD_eq_getElem?_getD,List.getElem?_map,List.getElem?_eq_getElem hi];rfl
  rw[hits]at hv
  have hno:=node_ok hok hi
  rcases T.kind i hi with ⟨b1,b2,b3,b4,b⟩|⟨b0,b1,b2,b3,b⟩|⟨b0,b0',b1,b2,a,b3,b4,b⟩
  ·rw[b]
   have key:stepV (progP sc vs t) en (progP sc vs t).code[posT t i] (posT t i) st=some (posT t i+1,st++[valAt sc (t.map (itemV vs)) en t i]):=by
    rw[hown,hv]
    unfold ownI nodeV
    by_cases o1:t[i].op=1
    ·simp only[o1,if_true]
     exact step_push (by simp only[needsV];omega) rfl
    by_cases o2:t[i].op=2
    ·simp only[o2,if_true]
     exact step_push (by simp[needsV]) rfl
    by_cases o3:t[i].op=3
    ·simp only[o3,if_true]
     exact step_push (by simp[needsV]) rfl
    rw[if_neg o1,if_neg o2,if_neg o3,if_neg o1,if_neg o2,if_neg o3,if_pos b2]
    by_cases o5:t[i].op=5
    ·simp only[o5]
     exact step_count (by simp only[needsV];simp) rfl
    obtain⟨n1,n2⟩:=name_col (sc:=sc) hi ⟨by omega,b2,o5⟩
    by_cases o4:t[i].op=4
    ·simp only[o4]
     exact step_col (p:=progP sc vs t) (by simp only[needsV];simp) (by simp) (by simp;exact n1) n2
    by_cases o11:t[i].op=11
    ·simp only[o11]
     exact step_col (p:=progP sc vs t) (by simp only[needsV];simp) (by simp) (by simp;exact n1) n2
    rw[if_neg o4,if_neg o11,if_neg o5,if_pos (by omega)]
    have hcm:codeM t[i].op=t[i].op-1:=by unfold codeM;rw[if_neg o5,if_neg o11,if_neg o4]
    rw[hcm]
    exact step_col (p:=progP sc vs t) (by simp only[needsV];(repeat' split)<;>omega) (by simp only[];omega) (by simp only[];omega) n2
   exact from_some hlt key
  ·have hpu:=pos_un T hi (by omega) b1
   rw[b,ih (i-1) (by omega) (by omega) st,←hpu]
   have hva:getV (valsTo sc (t.map (itemV vs)) en t i) t[i].a=valAt sc (t.map (itemV vs)) en t (i-1):=by
    rw[get_val (by omega) (by omega),b2,Int.toNat_natCast]
   rw[hva]at hv
   have key:stepV (progP sc vs t) en (progP sc vs t).code[posT t i] (posT t i) (st++[valAt sc (t.map (itemV vs)) en t (i-1)])=some (posT t i+1,st++[valAt sc (t.map (itemV vs)) en t i]):=by
    rw[hown,hv]
    unfold ownI nodeV
    rcases b0 with o|o
    ·simp only[o]
     refine (step_neg (by simp[needsV];omega) (by simp)).trans ?_
     rw[last_snoc,drop_snoc]
     simp
    ·simp only[o]
     refine (step_not (by simp[needsV];omega) (by simp)).trans ?_
     rw[last_snoc,drop_snoc]
     simp
   exact from_some hlt key
  ·have hpu:=pos_un T hi (by omega) b1
   have hle:=T.le (i-1) (by omega)
   have hva:getV (valsTo sc (t.map (itemV vs)) en t i) t[i].a=valAt sc (t.map (itemV vs)) en t a:=by
    rw[get_val (by omega) (by omega),b3,Int.toNat_natCast]
   have hvb:getV (valsTo sc (t.map (itemV vs)) en t i) t[i].b=valAt sc (t.map (itemV vs)) en t (i-1):=by
    rw[get_val (by omega) (by omega),b2,Int.toNat_natCast]
   rw[hva,hvb]at hv
   have hv':valAt sc (t.map (itemV vs)) en t i=applyL t[i].op (valAt sc (t.map (itemV vs)) en t a) (valAt sc (t.map (itemV vs)) en t (i-1)):=by
    rw[hv]
    unfold nodeV
    rw[if_neg (by omega),if_neg (by omega),if_neg (by omega),if_neg (by omega),if_neg (by omega),if_neg (by omega)]
   have hsk:=pos_sk T hi b0 b3
   rw[b,ih a (by omega) (by omega) st]
   have two:fromV (progP sc vs t) en (posT t (lo (i-1))) (st++[valAt sc (t.map (itemV vs)) en t a])=fromV (progP sc vs t) en (posT t i+1) (st++[valAt sc (t.map (itemV vs)) en t i]):=by
    rw[ih (i-1) (by omega) (by omega),←hpu]
    refine from_some (q:=(posT t i+1,st++[valAt sc (t.map (itemV vs)) en t i])) hlt ?_
    rw[hown,hv']
    have:ownI (namesOf t) (itemV vs t[i]) t[i]=⟨t[i].op-2,0,0,0,0⟩:=by
     unfold ownI
     rw[if_neg (by omega),if_neg (by omega),if_neg (by omega),if_neg (by omega),if_neg (by omega),if_neg (by omega),if_neg (by omega)]
    rw[this]
    refine (step_two (by simp only[needsV,List.length_append,List.length_cons,List.length_nil];(repeat' split)<;>omega) (by simp only[];omega)).trans ?_
    rw[last_snoc,drop_snoc,last_snoc,drop_snoc,show t[i].op-2+2=t[i].op by omega]
   by_cases h25:25≤t[i].op
   ·rw[if_pos h25]at hsk
    rw[b4]at two
    rw[hsk]at two
    have hpa:=par_at T hi h25 b3
    have hj:(codeT vs t)[posT t a+1]? = some (jmpT t (fun p=>posT t p+1) a):=lay_jmp (by rw[hpa];rfl) (by omega)
    have hje:jmpT t (fun p=>posT t p+1) a=⟨t[i].op,0,0,0,(posT t i:Int)+1⟩:=by
     unfold jmpT
     rw[hpa]
     simp only[]
     rw[getD_at hi]
     simp
    rw[hje]at hj
    obtain⟨h2,h3⟩:∃h:posT t a+1<(progP sc vs t).code.length,(progP sc vs t).code[posT t a+1]'h=⟨t[i].op,0,0,0,(posT t i:Int)+1⟩:=List.getElem?_eq_some_iff.1 hj
    have hlen:(progP sc vs t).code.length=posT t t.length:=lay_len _ _ _
    have hpl:=pos_lt (t:=t) hi
    have hpl2:=pos_lt (t:=t) (k:=a) (n:=i) (by omega)
    rw[hpa]at hpl2
    simp only[Option.isSome_some,if_true]at hpl2
    have htr:isT (valAt sc (t.map (itemV vs)) en t a):=by
     rw[valAt_eq (show a<t.length by omega)]
     refine node_isT ?_
     unfold nodeOk at hno
     rw[if_neg (by omega),if_neg (by omega),b3,Int.toNat_natCast,getD_at (show a<t.length by omega)]at hno
     simp only[Bool.and_eq_true,beq_iff_eq]at hno
     rw[hno.1]
     unfold wantsT
     simp;omega
    have hjt:¬((⟨t[i].op,0,0,0,(posT t i:Int)+1⟩:Ins).to≤((posT t a+1:Nat):Int)∨(⟨t[i].op,0,0,0,(posT t i:Int)+1⟩:Ins).to > (progP sc vs t).code.length):=by
     simp only[]
     rw[hlen]
     omega
    have hne:¬(needsV (⟨t[i].op,0,0,0,(posT t i:Int)+1⟩:Ins).code<0∨((st++[valAt sc (t.map (itemV vs)) en t a]).length:Int)<needsV (⟨t[i].op,0,0,0,(posT t i:Int)+1⟩:Ins).code):=by
     simp only[needsV,List.length_append,List.length_cons,List.length_nil]
     (repeat' split)<;>omega
    by_cases hd:(valAt sc (t.map (itemV vs)) en t a).k=true∧((valAt sc (t.map (itemV vs)) en t a).n≠0↔t[i].op=26)
    ·have hst:=step_jump (p:=progP sc vs t) (e:=en) hne h25 hjt (by rw[last_snoc];exact hd)
     rw[←h3]at hst
     rw[from_some h2 hst]
     have h01:=htr hd.1
     have:valAt sc (t.map (itemV vs)) en t i=valAt sc (t.map (itemV vs)) en t a:=by
      rw[hv']
      have hr3:=rank3 (valAt sc (t.map (itemV vs)) en t (i-1))
      generalize valAt sc (t.map (itemV vs)) en t a=va at *
      generalize valAt sc (t.map (itemV vs)) en t (i-1)=vb at *
      obtain⟨vk,vn⟩:=va
      simp only[]at hd h01
      obtain⟨rfl,hd2⟩:=hd
      rcases (show t[i].op=25∨t[i].op=26 by omega)with o|o
      ·rw[o]at hd2 ⊢
       have:vn=0:=by
        rcases h01 with h|h
        ·exact h
        ·exact absurd (hd2.1 (by rw[h];decide)) (by decide)
       subst this
       simp only[applyL]
       simp[andV,rankV,ofRank]
       unfold rankV at hr3
       rcases hr3 with h|h|h<;>simp[h]
      ·rw[o]at hd2 ⊢
       have:vn=1:=by
        rcases h01 with h|h
        ·exact absurd h (hd2.2 rfl)
        ·exact h
       subst this
       simp only[applyL]
       simp[orV,rankV,ofRank]
       unfold rankV at hr3
       rcases hr3 with h|h|h<;>simp[h]
     rw[this]
     simp only[h3]
     rw[show ((posT t i:Int)+1).toNat=posT t i+1 by omega]
    ·have hst:=step_stay (p:=progP sc vs t) (e:=en) hne h25 hjt (by rw[last_snoc];exact hd)
     rw[←h3]at hst
     rw[from_some h2 hst]
     exact two
   ·rw[if_neg h25]at hsk
    rw[b4,hsk]at two
    exact two
theorem run_comp (h:runT vs t=true):runV (compP sc vs t) en=(evalV sc vs en t,0):=by
 have hr:=h
 simp only[runT,Bool.and_eq_true]at hr
 have T:=tre_of hr.1
 have hpos:=T.pos
 rw[compP,if_pos h,evalV,if_pos h,run_from]
 have:=run_sub (sc:=sc) (vs:=vs) (en:=en) T hr.2 (t.length-1) (by omega) []
 rw[T.root]at this
 refine this.trans ?_
 rw[List.nil_append,from_end]
 ·rfl
 ·show (codeT vs t).length≤_
  rw[codeT,lay_len,pos_end T]
  exact Nat.le_refl _
end
end
section
def usesN (p:Int→Bool) (vs:List ByteArray) (t:List Nd) (i:Int):Bool:=t.any fun x=>p x.op&&decide (ixOf vs x.var=i)
def usesL (p:Int→Bool) (vs:List ByteArray) (t:List Nd):List Int:=((List.range vs.length).map fun i:Nat=>(i:Int)).filter (usesN p vs t)
def bareO (o:Int):Bool:=decide (o=4∨o=11)
def prevO (o:Int):Bool:=decide (o=11)
def aggO (o:Int):Bool:=decide (5≤o∧o≤10)
theorem uses_mem {p:Int→Bool} {vs:List ByteArray} {t:List Nd} {x:Nd} (hx:x∈t) (hp:p x.op=true) (h0:0≤ixOf vs x.var):ixOf vs x.var∈usesL p vs t:=by
 have h1:ixOf vs x.var<(vs.length:Int):=by unfold ixOf;split<;>omega
 refine List.mem_filter.2 ⟨List.mem_map.2 ⟨(ixOf vs x.var).toNat,List.mem_range.2 (by omega),by omega⟩,?_⟩
 exact List.any_eq_true.2 ⟨x,hx,by simp[hp]⟩
section
variable {bare agg:List Int} {each:Int} {other ls:List (List Ev)}
end
theorem op_pos {t:List Nd} {lo:Nat→Nat} (T:Tre t lo) (j:Nat) (hj:j<t.length):1≤t[j].op:=by
 rcases T.kind j hj with ⟨z1,_⟩|⟨z0,_⟩|⟨z0,_⟩<;>omega
end
section
theorem wrap_sm {x:Int} (h1 : -1≤x) (h2:x<4611686018427387904):IntKind.i64.wrap x=x:=W_id (n:=x) (by unfold Rng;omega)
theorem tree_of {t:List Nd} {lo:Nat→Nat} (T:Tre t lo) (hf:∀i (hi:i<t.length),fieldsB t[i]=true):tree1 t=true:=by
 have key:∀j,j≤t.length→beginTo t j=some ((List.range j).map fun i=>(lo i:Int)):=by
  intro j
  induction j with
  | zero=>intro _;rfl
  | succ j ih =>
   intro hj
   have hjl:j<t.length:=by omega
   simp only[beginTo,ih (by omega),Option.bind_some]
   rw[getD_at hjl]
   have hfj:=hf j hjl
   have hgd:∀i,i<j→((List.range j).map fun i=>(lo i:Int)).getD i 0=lo i:=fun i hi=>by
    rw[List.getD_eq_getElem?_getD,List.getElem?_map,List.getElem?_range hi];rfl
   have hlf:=leaf_fields t[j]
   rw[List.range_succ,List.map_append,List.map_cons,List.map_nil]
   rcases T.kind j hjl with ⟨b1,b2,b3,b4,b⟩|⟨b0,b1,b2,b3,b⟩|⟨b0,b0',b1,b2,a,b3,b4,b⟩
   ·have har:arity t[j].op=0:=by unfold arity;rw[if_pos ⟨b1,b2⟩]
    rw[har,hfj,b3,b4]at hlf
    have hl:leafB t[j]=true:=by rw[hlf];rfl
    rw[beginStep,if_pos hl,b]
   ·have har:arity t[j].op=1:=by unfold arity;grind
    rw[har]at hlf
    have hl:¬leafB t[j]=true:=by rw[hlf];simp
    have hbf:=bare_fields t[j] (by omega)
    rw[beginStep,if_neg hl,if_pos b0,if_neg (by rw[←hbf,hfj];simp;omega),hgd (j-1) (by omega),b]
   ·have har:arity t[j].op=2:=by unfold arity;grind
    rw[har]at hlf
    have hl:¬leafB t[j]=true:=by rw[hlf];simp
    have hbf:=bare_fields t[j] (by omega)
    have hle:=T.le (j-1) (by omega)
    rw[beginStep,if_neg hl,if_neg (by omega),if_pos ⟨b0,b0'⟩,if_neg (by rw[←hbf,hfj,hgd (j-1) (by omega)];simp;omega),b3,Int.toNat_natCast,hgd a (by omega),b]
 rw[←tree_same]
 unfold tree2
 rw[key t.length (Nat.le_refl _)]
 have hp:=T.pos
 simp only[Bool.and_eq_true,decide_eq_true_eq]
 refine⟨hp,?_⟩
 rw[List.getD_eq_getElem?_getD,List.getElem?_map,List.getElem?_range (by omega)]
 simp[T.root]
theorem tree_fields {t:List Nd} (h:tree1 t=true) (i:Nat) (hi:i<t.length):fieldsB t[i]=true:=(tree_kids h i hi).fl
def onN (d:Nat) (x:Nd):Nd:=⟨x.op,x.n,x.var,x.attr,if 0≤x.a then x.a+d else x.a,if 0≤x.b then x.b+d else x.b⟩
structure Emb (s t:List Nd) (d:Nat):Prop where
 len:d+s.length≤t.length
 at':∀i (hi:i<s.length) (hj:d+i<t.length),t[d+i]=onN d s[i]
section
variable {sc:List Ty} {vs:List ByteArray} {en:En} {s t:List Nd} {d:Nat}
theorem emb_ok {lo:Nat→Nat} (S:Tre s lo) (e:Emb s t d) (i:Nat) (hi:i<s.length):nodeOk vs t (onN d s[i])=nodeOk vs s s[i]:=by
 have hl:=e.len
 have hop:(onN d s[i]).op=s[i].op:=rfl
 have hget:∀c:Nat,c<s.length→(t.getD (d+c) nd0).op=(s.getD c nd0).op:=fun c hc=>by
  rw[getD_at (show d+c<t.length by omega),getD_at hc,e.at' c hc (by omega)];rfl
 unfold nodeOk
 rw[hop]
 by_cases h4:s[i].op<4
 ·rw[if_pos h4,if_pos h4]
 rw[if_neg h4,if_neg h4]
 by_cases h11:s[i].op≤11
 ·rw[if_pos h11,if_pos h11];rfl
 rw[if_neg h11,if_neg h11]
 rcases S.kind i hi with ⟨b1,b2,b3,b4,b⟩|⟨b0,b1,b2,b3,b⟩|⟨b0,b0',b1,b2,a,b3,b4,b⟩
 ·omega
 ·have h1:(onN d s[i]).a.toNat=d+s[i].a.toNat:=by simp only[onN];rw[if_pos (by omega)];omega
  have h2:(onN d s[i]).b=-1:=by simp only[onN];rw[if_neg (by omega)];exact b3
  rw[h1,h2,b3,hget _ (by omega)]
  simp[wantsT]
 ·have hle:=S.le (i-1) (by omega)
  have h1:(onN d s[i]).a.toNat=d+s[i].a.toNat:=by simp only[onN];rw[if_pos (by omega)];omega
  have h2:(onN d s[i]).b.toNat=d+s[i].b.toNat:=by simp only[onN];rw[if_pos (by omega)];omega
  have h3:¬(onN d s[i]).b<0:=by simp only[onN];rw[if_pos (by omega)];omega
  have h4:¬s[i].b<0:=by omega
  rw[h1,h2,hget _ (by omega),hget _ (by omega)]
  simp[wantsT,h3,h4]
end
theorem run_tree {vs:List ByteArray} {t:List Nd} (h:runT vs t=true):tree1 t=true∧okTo vs t t.length=true:=by simpa[runT]using h
theorem ok_all {vs:List ByteArray} {t:List Nd}:okTo vs t t.length=true↔∀i (hi:i<t.length),nodeOk vs t t[i]=true:=by
 unfold okTo
 rw[List.take_length,List.all_eq_true]
 exact⟨fun h i hi=>h _ (List.getElem_mem hi),fun h x hx=>by obtain⟨i,hi,rfl⟩:=List.mem_iff_getElem.1 hx;exact h i hi⟩
end
section
def offN (d:Nat) (x:Nd):Nd:=⟨x.op,x.n,x.var,x.attr,if 0≤x.a then x.a-d else x.a,if 0≤x.b then x.b-d else x.b⟩
def cutT (t:List Nd) (d r:Nat):List Nd:=((t.drop d).take (r+1-d)).map (offN d)
def subT (t:List Nd) (r:Nat):List Nd:=cutT t (loOf t r) r
section
variable {t:List Nd} {lo:Nat→Nat} {r:Nat}
theorem cut_len (hr:r<t.length) (hd:lo r≤r):(cutT t (lo r) r).length=r+1-lo r:=by
 simp only[cutT,List.length_map,List.length_take,List.length_drop]
 omega
theorem cut_at (hr:r<t.length) (hd:lo r≤r) (i:Nat) (hi:i<(cutT t (lo r) r).length):(cutT t (lo r) r)[i]=offN (lo r) (t[lo r+i]'(by rw[cut_len hr hd]at hi;omega)):=by
 simp only[cutT,List.getElem_map,List.getElem_take,List.getElem_drop]
theorem in_lo (T:Tre t lo) (hr:r<t.length) {i:Nat} (h1:lo r≤i) (h2:i≤r):lo r≤lo i:=by
 by_cases e:i=r
 ·rw[e];exact Nat.le_refl _
 ·rcases lam T r i hr (by omega)with h|h
  ·exact h
  ·omega
theorem in_kids (T:Tre t lo) (hr:r<t.length) {i:Nat} (h1:lo r≤i) (h2:i≤r) (hi:i<t.length):(0≤t[i].a→(lo r:Int)≤t[i].a)∧(0≤t[i].b→(lo r:Int)≤t[i].b):=by
 have hl:=in_lo T hr h1 h2
 rcases T.kind i hi with ⟨b1,b2,b3,b4,b⟩|⟨b0,b1,b2,b3,b⟩|⟨b0,b0',b1,b2,a,b3,b4,b⟩
 ·omega
 ·have:=T.le (i-1) (by omega)
  omega
 ·have:=T.le (i-1) (by omega)
  have:=T.le a (by omega)
  omega
theorem cut_emb (T:Tre t lo) (hr:r<t.length):Emb (cutT t (lo r) r) t (lo r):=by
 have hd:=T.le r hr
 refine⟨by rw[cut_len hr hd];omega,fun i hi hj => ?_⟩
 rw[cut_at hr hd i hi]
 have hi':=hi
 rw[cut_len hr hd]at hi'
 obtain⟨k1,k2⟩:=in_kids T hr (i:=lo r+i) (by omega) (by omega) hj
 generalize t[lo r+i]=x at *
 obtain⟨op,n,var,attr,a,b⟩:=x
 simp only[onN,offN]at k1 k2 ⊢
 by_cases ha:0≤a
 ·by_cases hb:0≤b
  ·have:=k1 ha;have:=k2 hb
   rw[if_pos ha,if_pos hb,if_pos (by omega),if_pos (by omega)]
   congr 1<;>omega
  ·have:=k1 ha
   rw[if_pos ha,if_neg hb,if_pos (by omega),if_neg hb]
   congr 1;omega
 ·by_cases hb:0≤b
  ·have:=k2 hb
   rw[if_neg ha,if_pos hb,if_neg ha,if_pos (by omega)]
   congr 1;omega
  ·rw[if_neg ha,if_neg hb,if_neg ha,if_neg hb]
theorem cut_tre (T:Tre t lo) (hr:r<t.length):Tre (cutT t (lo r) r) (fun i=>lo (lo r+i)-lo r):=by
 have hd:=T.le r hr
 have hl:=cut_len (lo:=lo) hr hd
 refine⟨by omega,?_,fun i hi => ?_,fun i hi => ?_⟩
 ·rw[hl,show lo r+(r+1-lo r-1)=r by omega];omega
 ·rw[hl]at hi
  have:=T.le (lo r+i) (by omega)
  omega
 ·have hi':=hi
  rw[hl]at hi'
  have hin:=in_lo T hr (i:=lo r+i) (by omega) (by omega)
  have hj:lo r+i<t.length:=by omega
  rw[cut_at hr hd i hi]
  rcases T.kind (lo r+i) hj with ⟨b1,b2,b3,b4,b⟩|⟨b0,b1,b2,b3,b⟩|⟨b0,b0',b1,b2,a,b3,b4,b⟩
  ·exact .inl ⟨b1,b2,by simp only[offN];rw[if_neg (by omega)];exact b3,by simp only[offN];rw[if_neg (by omega)];exact b4,show lo (lo r+i)-lo r=i by omega⟩
  ·have hle:=T.le (lo r+i-1) (by omega)
   have h1:1≤i:=by
    by_cases e:i=0
    ·subst e;simp only[Nat.add_zero]at *;omega
    ·omega
   refine .inr (.inl ⟨b0,h1,by simp only[offN];rw[if_pos (by omega)];omega,by simp only[offN];rw[if_neg (by omega)];exact b3,?_⟩)
   show lo (lo r+i)-lo r=lo (lo r+(i-1))-lo r
   rw[show lo r+(i-1)=lo r+i-1 by omega,b]
  ·have hle:=T.le (lo r+i-1) (by omega)
   have hla:=T.le a (by omega)
   have h1:1≤i:=by
    by_cases e:i=0
    ·subst e;simp only[Nat.add_zero]at *;omega
    ·omega
   refine .inr (.inr ⟨b0,b0',h1,by simp only[offN];rw[if_pos (by omega)];omega,a-lo r,by simp only[offN];rw[if_pos (by omega)];omega,?_,?_⟩)
   ·show lo (lo r+(i-1))-lo r=a-lo r+1
    rw[show lo r+(i-1)=lo r+i-1 by omega,b4];omega
   ·show lo (lo r+i)-lo r=lo (lo r+(a-lo r))-lo r
    rw[b,show lo r+(a-lo r)=a by omega]
end
section
variable {sc:List Ty} {vs:List ByteArray} {en:En} {t:List Nd} {r:Nat}
theorem sub_tree (h:tree1 t=true) (hr:r<t.length):tree1 (subT t r)=true:=by
 have T:=tre_of h
 refine tree_of (cut_tre T hr) fun i hi => ?_
 unfold subT at hi
 have hd:=T.le r hr
 simp only[subT]
 rw[cut_at hr hd i hi]
 exact tree_fields h _ _
theorem sub_run (h:runT vs t=true) (hr:r<t.length):runT vs (subT t r)=true:=by
 obtain⟨h1,h2⟩:=run_tree h
 have T:=tre_of h1
 rw[runT,sub_tree h1 hr,Bool.true_and,ok_all]
 intro i hi
 have E:=cut_emb T hr
 have h3:nodeOk vs t (onN (loOf t r) ((subT t r)[i]'hi))=nodeOk vs (subT t r) ((subT t r)[i]'hi):=emb_ok (vs:=vs) (tre_of (sub_tree h1 hr)) E i hi
 have hj:loOf t r+i<t.length:=by have:=E.len;unfold subT at hi;omega
 have h4:t[loOf t r+i]=onN (loOf t r) ((subT t r)[i]'hi):=E.at' i hi hj
 rw[←h3,←h4]
 exact ok_all.1 h2 _ hj
end
def conjF (t:List Nd):Nat→Nat→List Nat
 | 0,_=>[]
 | k+1,i=>if (t.getD i nd0).op≠25 then [i]else conjF t k (t.getD i nd0).a.toNat++conjF t k (t.getD i nd0).b.toNat
def conjT (t:List Nd) (i:Nat):List Nat:=conjF t (i+1) i
section
variable {t:List Nd} {lo:Nat→Nat} (T:Tre t lo)
include T
theorem conj_kids {i:Nat} (hi:i<t.length) (h:t[i].op=25):t[i].a.toNat<i∧t[i].b.toNat<i∧0≤t[i].a∧0≤t[i].b:=by
 rcases T.kind i hi with ⟨b1,b2,b3,b4,b⟩|⟨b0,b1,b2,b3,b⟩|⟨b0,b0',b1,b2,a,b3,b4,b⟩
 ·omega
 ·omega
 ·have:=T.le (i-1) (by omega)
  omega
theorem conj_fuel:∀(k m i:Nat),i<t.length→i<k→i<m→conjF t k i=conjF t m i
 | 0,_,_,_,h,_=>by omega
 | _,0,_,_,_,h=>by omega
 | k+1,m+1,i,hi,h1,h2=>by
  simp only[conjF]
  rw[getD_at hi]
  split
  ·rfl
  ·rename_i ho
   obtain⟨k1,k2,_⟩:=conj_kids T hi (by simpa using ho)
   rw[conj_fuel k m _ (by omega) (by omega) (by omega),conj_fuel k m t[i].b.toNat (by omega) (by omega) (by omega)]
omit T in
theorem conj_one {i:Nat} (hi:i<t.length) (h:t[i].op≠25):conjT t i=[i]:=by
 simp only[conjT,conjF]
 rw[getD_at hi,if_pos h]
theorem conj_two {i:Nat} (hi:i<t.length) (h:t[i].op=25):conjT t i=conjT t t[i].a.toNat++conjT t t[i].b.toNat:=by
 obtain⟨k1,k2,_⟩:=conj_kids T hi h
 simp only[conjT]
 rw[conjF,getD_at hi,if_neg (by simp[h])]
 rw[conj_fuel T i (t[i].a.toNat+1) _ (by omega) (by omega) (by omega),conj_fuel T i (t[i].b.toNat+1) _ (by omega) (by omega) (by omega)]
theorem conj_all:∀i,i<t.length→(∀x∈conjT t i,x≤i)∧conjT t i≠[]:=by
 intro i
 induction i using Nat.strongRecOn with
 | _ i ih =>
  intro hi
  by_cases h:t[i].op=25
  ·obtain⟨k1,k2,_⟩:=conj_kids T hi h
   rw[conj_two T hi h]
   obtain⟨a1,a2⟩:=ih _ k1 (by omega)
   obtain⟨b1,b2⟩:=ih _ k2 (by omega)
   refine⟨fun x hx => ?_,by simp[a2]⟩
   rcases List.mem_append.1 hx with hx|hx
   ·have:=a1 x hx;omega
   ·have:=b1 x hx;omega
  ·rw[conj_one hi h]
   simp
theorem conj_len:∀i,i<t.length→(conjT t i).length≤i+1-lo i:=by
 intro i
 induction i using Nat.strongRecOn with
 | _ i ih =>
  intro hi
  have hl:=T.le i hi
  by_cases h:t[i].op=25
  ·obtain⟨k1,k2,_⟩:=conj_kids T hi h
   rw[conj_two T hi h,List.length_append]
   have c1:=ih _ k1 (by omega)
   have c2:=ih _ k2 (by omega)
   rcases T.kind i hi with ⟨b1,b2,b3,b4,b⟩|⟨b0,b1,b2,b3,b⟩|⟨b0,b0',b1,b2,a,b3,b4,b⟩
   ·omega
   ·omega
   ·have e1:t[i].a.toNat=a:=by omega
    have e2:t[i].b.toNat=i-1:=by omega
    have:=T.le (i-1) (by omega)
    have:=T.le a (by omega)
    rw[e1]at c1 ⊢
    rw[e2]at c2 ⊢
    omega
  ·rw[conj_one hi h]
   simp only[List.length_cons,List.length_nil]
   omega
end
theorem true_and (a b:V):trueV (andV a b)=(trueV a&&trueV b):=by
 obtain⟨ak,an⟩:=a
 obtain⟨bk,bn⟩:=b
 cases ak<;>cases bk<;>by_cases h1:an=0<;>by_cases h2:bn=0<;>simp[trueV,andV,rankV,ofRank,h1,h2]
section
variable {sc:List Ty} {vs:List ByteArray} {en:En} {t:List Nd} {lo:Nat→Nat}
end
end


section
section
variable {sc:List Ty} {vs:List ByteArray} {en:En} {a b:List Nd} {op:Int}
end
end
section
def truthT (t:List Nd):Bool:=truthO (t.getD (t.length-1) nd0).op
section
variable {sc:List Ty} {vs:List ByteArray} {en:En} {a b:List Nd} {op:Int}
end
end
theorem p73:P0 [] 200 g92:=by
 refine mk1 (S:=[]) tb_nil Tryz.func200 rfl (by kernel_rfl) ii (fun x a h=>deI_out h) (fun a=>rfl) (fun o h n => ?_)
 have hc:o=2∨o=3∨o=13∨(o≠2∧o≠3∧o≠13):=by omega
 rcases hc with rfl|rfl|rfl|⟨h1,h2,h3⟩
 ·simp[evv,ii,bv,truthO]
 ·simp[evv,ii,bv,truthO]
 ·simp[evv,ii,bv,truthO]
 ·by_cases h4:19≤o
  ·by_cases h5:o≤26
   ·have ht:truthO o=true:=by simp only[truthO,decide_eq_true_eq];omega
    simp[evv,ii,bv,ht,h1,h2,h3,h4,h5]
   ·have ht:truthO o=false:=by simp only[truthO,decide_eq_false_iff_not];omega
    simp[evv,ii,bv,ht,h1,h2,h3,h4,h5]
  ·have ht:truthO o=false:=by simp only[truthO,decide_eq_false_iff_not];omega
   simp[evv,ii,bv,ht,h1,h2,h3,h4]
def G44:=pureH deT smallT fun t=>bv (decide (0<t.length)&&truthT t)
def tb44:List (FuncId×(List AV→Heap→PRes)):=[(200,g92)]
theorem P44:P0 [] 156 G44:=by
 refine mkH 1 (S:=[]) (l:=tb44) (tb_cons p73 tb_nil) Tryz.func156 rfl (by kernel_rfl) deT_mono (fun h l x e=>by obtain⟨a,rfl,_⟩:=deT_out e;exact Nat.le_refl _) (fun a=>rfl) (fun args t h n e hp hn => ?_)
 obtain⟨a,rfl,e1⟩:=deT_out e
 obtain⟨s1,s2,s3,s4,s5⟩:=sl_is e1
 by_cases h0:t.length=0
 ·simp[evx,s1,s2,s3,h0,tb44,bv]
 ·obtain⟨j,he⟩:∃j,t.length=j+1:=⟨t.length-1,by omega⟩
  have he1:IntKind.i64.wrap ((t.length:Int)-1)=j:=by rw[he];exact wrapm1 (by have:t.length*64≤140737488355328:=hp;unfold big;omega)
  have he3:0<t.length:=by omega
  have he4:j<t.length:=by omega
  rcases ns_at e1 with ⟨hq,_⟩|⟨id,off,k,rfl,hk,ho',hat⟩
  ·rw[hq]at he3;simp at he3
  have hro:=ro_at hk
  have h0':=ne_of hk hn 0
  simp only[Nat.add_zero]at h0'
  have hcl:=cell_of (c:=0) (hat j he4) rfl (by omega)
  simp only[Nat.add_zero]at hcl
  have hw1:off+(j*6+1)≤k.cells.length:=by omega
  have htt:truthT t=truthO t[j].op:=by unfold truthT;rw[show t.length-1=j by omega,getD_at he4]
  generalize t[j].op=o at *
  simp only[ii]at hcl
  simp[evx,s1,s2,s3,he1,he3,he4,hro,hcl,hw1,tb44,g92,pure1,deI,htt,bv]
end Go.Proofs.YtbffkkeieihpdaaGreatDoor
