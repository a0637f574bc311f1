import Derived.Test.YtbffkkeieihpdaaGreatDoorX23
import Derived.Test.YtbffkkeieihpdaaGreatDoorX21
set_option linter.unusedSimpArgs false
set_option linter.unusedVariables false
set_option linter.constructorNameAsVariable false
set_option maxRecDepth 100000
set_option maxHeartbeats 4000000
namespace Go.Proofs.YtbffkkeieihpdaaGreatDoor
open Go Go.Eng
section
theorem any_range {n:Nat} {p:Nat→Bool}:(List.range n).any p=false↔∀i,i<n→p i=false:=by
 rw[List.any_eq_false]
 exact⟨fun h i hi=>by simpa using h i (List.mem_range.2 hi),fun h i hi=>by simpa using h i (List.mem_range.1 hi)⟩
theorem any_getD {α:Type} {l:List α} {p:α→Bool} (d:α):l.any p=false↔∀i,i<l.length→p (l.getD i d)=false:=by
 rw[List.any_eq_false]
 constructor
 ·intro h i hi
  rw[List.getD_eq_getElem?_getD,List.getElem?_eq_getElem hi]
  simpa using h _ (List.getElem_mem hi)
 ·intro h x hx
  obtain⟨i,hi,rfl⟩:=List.mem_iff_getElem.1 hx
  have:=h i hi
  rw[List.getD_eq_getElem?_getD,List.getElem?_eq_getElem hi]at this
  simpa using this
theorem any_yes {α:Type} {l:List α} {p:α→Bool} {d:α} {i:Nat} (hi:i<l.length) (h:p (l.getD i d)=true):l.any p=true:=by
 cases hx:l.any p with
 | true=>rfl
 | false=>rw[(any_getD d).1 hx i hi]at h;cases h
theorem dup_yes {l:List ByteArray} {i k:Nat} (hi:i<l.length) (hk:k<i) (h:(l.getD k ByteArray.empty==l.getD i ByteArray.empty)=true):dupTo l l.length=true:=by
 unfold dupTo
 refine List.any_eq_true.2 ⟨i,List.mem_range.2 hi,List.any_eq_true.2 ⟨l.getD k ByteArray.empty,?_,h⟩⟩
 rw[List.mem_iff_getElem]
 exact⟨k,by rw[List.length_take];omega,by rw[List.getElem_take,List.getD_eq_getElem?_getD,List.getElem?_eq_getElem (by omega)];rfl⟩
theorem take_no {l:List ByteArray} {i:Nat} (hi:i<l.length) (h:∀k,k<i→(l.getD k ByteArray.empty==l.getD i ByteArray.empty)=false):((l.take i).any fun z=>z==l.getD i ByteArray.empty)=false:=by
 rw[any_getD ByteArray.empty]
 intro k hk
 rw[List.length_take]at hk
 have:=h k (by omega)
 rwa [List.getD_eq_getElem?_getD,List.getElem?_take_of_lt (by omega),←List.getD_eq_getElem?_getD]
def GItem:=pureH (de2 rSc rIt) (fun q=>q.1.length<big∧q.2.types.length<big) fun q=>ii (itemE q.1 q.2)
def tbItem:List (FuncId×(List AV→Heap→PRes)):=[(112,GTy)]
section
variable {sc:List Ty} {it:It} {h:Heap} {n:Nat} {a ty:AV}
structure I152 (h:Heap) (n:Nat) (a ty:AV) (it:It) (s:St):Prop where
 q2:s.e 2=.p n 0 0
 q3:s.e 3=.p (n+1) 0 0
 ag:agree n (roH h) s.h
 b0:s.h n=some ⟨[a],0,true,1⟩
 b1:s.h (n+1)=some ⟨[bv it.neg,ty,ss it.var,ii it.lo,ii it.hi],0,true,5⟩
theorem f152a (e4:rd dSs h ty=some it.types) (e1:deSc h (.g [a])=some sc) (hn:∀i,n≤i→h i=none) (hp1:sc.length<big) (hp2:it.types.length<big) (s:St) (i:I152 h n a ty it s) {R:St→Prop} (hR:it.types.any (fun z=>decide (typeOf sc z<0))=false→∀s,I152 h n a ty it s→R s) :
  awp (cx [] (pfL tbItem)) (hdC 1 (tlC 1 (Tryz.f152.body.getD .skip))) (thenQ R (finQ (cx [] (pfL tbItem)) Tryz.f152 fun z _ _=>z=ii (itemE sc it))) s:=by
 obtain⟨e,h1,n1⟩:=s
 obtain⟨q2,q3,hag,hb0,hb1⟩:=i
 simp only[]at q2 q3 hag hb0 hb1
 obtain⟨s1,s2,s3,s4,s5⟩:=sl_is e4
 have g1:=sc_agree hn e1
 obtain⟨a',ha,e5⟩:=deSc_out e1
 cases ha
 have t3:=(sl_is e5).2.2.1
 simp[evx,hdC,tlC,Tryz.f152,q3,hb1,ii,s1,s2]
 refine awp_loop (fun s=>∃j:Nat,j≤it.types.length∧I152 h n a ty it s∧s.e 12=ty∧s.e 13=ii it.types.length∧s.e 14=ii j∧∀i,i<j→decide (typeOf sc (it.types.getD i ByteArray.empty)<0)=false) (fun s=>it.types.length-(s.e 14).i.toNat) ⟨0,by omega,⟨by simp[up,q2],by simp[up,q3],hag,hb0,hb1⟩,by simp[up],by simp[up,ii],by simp[up,ii],by omega⟩ ?_
 rintro e' h' n' ⟨j,hj,⟨q2,q3,hag,hb0,hb1⟩,q12,q13,q14,hno⟩
 simp only[]at q2 q3 hag hb0 hb1 q12 q13 q14
 by_cases hlt:j<it.types.length
 ·obtain⟨id,off,k,rfl,hk,ho,hat⟩:=ss_getD e4 hlt
  have ha':=agree_at hn hk hag
  have hw:=wrap_nat (j:=j) (by omega)
  have hw1:off+(j+1)≤k.cells.length:=by omega
  have hmiss:=fun hy=>upTo_succ (p:=fun i=>decide (typeOf sc (it.types.getD i ByteArray.empty)<0)=false) hno hy
  have hhit:decide (typeOf sc (it.types.getD j ByteArray.empty)<0)=true→itemE sc it=61:=fun hy=>by
   unfold itemE;rw[if_pos (any_yes (d:=ByteArray.empty) hlt hy)]
  generalize it.types.getD j ByteArray.empty=y at *
  by_cases hy:typeOf sc y<0
  ·have h1:=hhit (by simp[hy])
   simp[evx,q2,q12,q13,q14,ii,ss,hlt,ha',hat,hw1,hb0,tbItem,GTy,pureH,de2,rSc,rS,deS,g1,hag,hp1,hy,h1]
  ·have h1:=hmiss (by simp[hy])
   simp[evx,q2,q12,q13,q14,ii,ss,hlt,ha',hat,hw1,hb0,tbItem,GTy,pureH,de2,rSc,rS,deS,g1,hag,hp1,hy,hw]
   exact⟨⟨j+1,by omega,⟨by simp[up,q2],by simp[up,q3],hag,hb0,hb1⟩,by omega,fun i hi=>by have:=h1 i hi;simpa using this⟩,by omega⟩
 ·obtain rfl:j=it.types.length:=by omega
  have hR':=hR ((any_getD ByteArray.empty).2 hno)
  simp[evx,q13,q14,ii]
  refine hR' _ ?_
  exact⟨q2,q3,hag,hb0,hb1⟩
theorem f152b (e4:rd dSs h ty=some it.types) (hn:∀i,n≤i→h i=none) (hp2:it.types.length<big) (h61:it.types.any (fun z=>decide (typeOf sc z<0))=false) (s:St) (i:I152 h n a ty it s) {R:St→Prop} (hR:dupTo it.types it.types.length=false→∀s,I152 h n a ty it s→R s) :
  awp (cx [] (pfL tbItem)) (hdC 1 (tlC 2 (Tryz.f152.body.getD .skip))) (thenQ R (finQ (cx [] (pfL tbItem)) Tryz.f152 fun z _ _=>z=ii (itemE sc it))) s:=by
 obtain⟨e,h1,n1⟩:=s
 obtain⟨q2,q3,hag,hb0,hb1⟩:=i
 simp only[]at q2 q3 hag hb0 hb1
 obtain⟨s1,s2,s3,s4,s5⟩:=sl_is e4
 have h62:∀i k,i<it.types.length→k<i→(it.types.getD k ByteArray.empty==it.types.getD i ByteArray.empty)=true→itemE sc it=62:=fun i k hi hk hy=>by
  unfold itemE;rw[h61,if_neg (by simp),if_pos (dup_yes hi hk hy)]
 simp[evx,hdC,tlC,Tryz.f152,q3,hb1,ii,s1,s2]
 refine awp_loop (fun s=>∃j:Nat,j≤it.types.length∧I152 h n a ty it s∧s.e 24=ty∧s.e 25=ii it.types.length∧s.e 26=ii j∧∀i,i<j→((it.types.take i).any fun z=>z==it.types.getD i ByteArray.empty)=false) (fun s=>it.types.length-(s.e 26).i.toNat) ⟨0,by omega,⟨by simp[up,q2],by simp[up,q3],hag,hb0,hb1⟩,by simp[up],by simp[up,ii],by simp[up,ii],by omega⟩ ?_
 rintro e' h' n' ⟨j,hj,⟨q2,q3,hag,hb0,hb1⟩,q24,q25,q26,hno⟩
 simp only[]at q2 q3 hag hb0 hb1 q24 q25 q26
 by_cases hlt:j<it.types.length
 ·obtain⟨id,off,k,rfl,hk,ho,hat⟩:=ss_getD e4 hlt
  have ha':=agree_at hn hk hag
  have hw:=wrap_nat (j:=j) (by omega)
  have hw1:off+(j+1)≤k.cells.length:=by omega
  have hlt':(j:Int)≤it.types.length:=by omega
  simp[evx,q3,q24,q25,q26,ii,ss,hlt,ha',hat,hw1,hb1,hlt']
  refine awp_loop (fun s=>∃m:Nat,m≤j∧I152 h n a (.s id k.ver off it.types.length) it s∧s.e 24=.s id k.ver off it.types.length∧s.e 25=ii it.types.length∧s.e 26=ii j∧s.e 8=ss (it.types.getD j ByteArray.empty)∧s.e 34=.s id k.ver off j∧s.e 35=ii j∧s.e 36=ii m∧∀i,i<m→(it.types.getD i ByteArray.empty==it.types.getD j ByteArray.empty)=false) (fun s=>j-(s.e 36).i.toNat) ⟨0,by omega,⟨by simp[up,q2],by simp[up,q3],hag,hb0,hb1⟩,by simp[up,q24],by simp[up,q25,ii],by simp[up,q26,ii],by simp[up,ss,hlt],by simp[up],by simp[up,ii],by simp[up,ii],by omega⟩ ?_
  rintro e2 h2 n2 ⟨m,hm,⟨q2,q3,hag,hb0,hb1⟩,q24,q25,q26,q8,q34,q35,q36,hno2⟩
  simp only[]at q2 q3 hag hb0 hb1 q24 q25 q26 q8 q34 q35 q36
  by_cases hlm:m<j
  ·obtain⟨id',off',k',hid,hk',ho',hat'⟩:=ss_getD e4 (show m<it.types.length by omega)
   simp only[AV.s.injEq]at hid
   obtain⟨rfl,hv',rfl,_⟩:=hid
   rw[hk]at hk'
   cases hk'
   have ha2:=agree_at hn hk hag
   have hwm:=wrap_nat (j:=m) (by omega)
   have hw2:off+(m+1)≤k.cells.length:=by omega
   have hlm':(m:Int)<j:=by omega
   have h1:=h62 j m hlt hlm
   have hmiss:=fun hy=>upTo_succ (p:=fun i=>(it.types.getD i ByteArray.empty==it.types.getD j ByteArray.empty)=false) (j:=m) hno2 hy
   generalize it.types.getD m ByteArray.empty=y at *
   generalize hz:it.types.getD j ByteArray.empty=z at *
   cases hy:(y==z)with
   | true =>
    have h1:=h1 hy
    simp[evx,q8,q34,q35,q36,ii,ss,hlm',ha2,hat',hw2,hy,h1]
   | false =>
    have h2':=hmiss hy
    simp[evx,q8,q34,q35,q36,ii,ss,hlm',ha2,hat',hw2,hy,hwm]
    refine⟨⟨m+1,by omega,⟨by simp[up,q2],by simp[up,q3],hag,hb0,hb1⟩,by simp[q24],by simp[q25,ii],by simp[q26,ii],by omega,fun i hi => ?_⟩,by omega⟩
    have:=h2' i hi
    rwa [List.getD_eq_getElem?_getD]at this
  ·obtain rfl:m=j:=by omega
   have h3:=take_no hlt hno2
   simp[evx,q35,q36,q26,ii,hw]
   refine⟨⟨m+1,by omega,⟨by simp[up,q2],by simp[up,q3],hag,hb0,hb1⟩,by simp[q24],by simp[q25,ii],by omega,?_⟩,by omega⟩
   have:=upTo_succ (p:=fun i=>((it.types.take i).any fun z=>z==it.types.getD i ByteArray.empty)=false) hno h3
   simpa using this
 ·obtain rfl:j=it.types.length:=by omega
  have hR':=hR (by unfold dupTo;exact any_range.2 hno)
  simp[evx,q25,q26,ii]
  refine hR' _ ?_
  exact⟨q2,q3,hag,hb0,hb1⟩
theorem f152c (h61:it.types.any (fun z=>decide (typeOf sc z<0))=false) (h62:dupTo it.types it.types.length=false) (s:St) (i:I152 h n a ty it s) :
  awp (cx [] (pfL tbItem)) (tlC 3 (Tryz.f152.body.getD .skip)) (finQ (cx [] (pfL tbItem)) Tryz.f152 fun z _ _=>z=ii (itemE sc it)) s:=by
 obtain⟨e,h1,n1⟩:=s
 obtain⟨q2,q3,hag,hb0,hb1⟩:=i
 simp only[]at q2 q3 hag hb0 hb1
 have he:itemE sc it=if it.lo<1∨it.hi<it.lo∨4<it.hi then 63 else 0:=by
  unfold itemE;rw[h61,h62,if_neg (by simp),if_neg (by simp)]
 obtain⟨neg,types,var,lo,hi⟩:=it
 simp only[ii]at hb1 he
 by_cases c1:lo<1<;>by_cases c2:hi<lo<;>by_cases c3:4<hi<;>simp[evx,tlC,Tryz.f152,q3,hb1,ii,c1,c2,c3,he]
end
theorem P152:P0 [] 152 GItem:=by
 refine mkH 2 (S:=[]) (l:=tbItem) (tb_cons P112 tb_nil) Tryz.func152 rfl (by kernel_rfl) de2_mono de2_len (fun a=>rfl) (fun args q h n e hp hn => ?_)
 obtain⟨x,b,rfl,e1,e2⟩:=de2_out e
 obtain⟨sc,it⟩:=q
 simp only[]at e1 e2 hp ⊢
 obtain⟨ty,rfl,e4⟩:=rIt_out e2
 obtain⟨a,rfl,e5⟩:=deSc_out e1
 obtain⟨t1,t2,t3,t4,t5⟩:=sl_is e5
 obtain⟨s1,s2,s3,s4,s5⟩:=sl_is e4
 obtain⟨hp1,hp2⟩:=hp
 refine awp_cut 1 _ _ (R:=I152 h n a ty it) ?_ fun e1' h1 n1 i1 => ?_
 ·have key:∀e:Nat→AV,e 0=.g [a]→e 1=.g [bv it.neg,ty,ss it.var,ii it.lo,ii it.hi]→awp (cx [] (pfL tbItem)) (hdC 1 (Tryz.f152.body.getD .skip)) (thenQ (I152 h n a ty it) (finQ (cx [] (pfL tbItem)) Tryz.f152 fun z _ _=>z=ii (itemE sc it))) ⟨e,roH h,n⟩:=fun e q0 q1=>by
   simp[evx,hdC,Tryz.f152,q0,q1,ii,ss,bv,s4,t4]
   exact⟨by simp[up],by simp[up],by simp[agree_up,agree_refl],by simp[up],by simp[up,ii,ss,bv]⟩
  exact key _ rfl rfl
 refine awp_cut 1 _ _ (f152a e4 e1 hn hp1 hp2 _ i1 (R:=fun s=>it.types.any (fun z=>decide (typeOf sc z<0))=false∧I152 h n a ty it s) fun h61 s i=>⟨h61,i⟩) fun e2' h2 n2 ⟨h61,i2⟩ => ?_
 refine awp_cut 1 _ _ (f152b e4 hn hp2 h61 _ i2 (R:=fun s=>dupTo it.types it.types.length=false∧I152 h n a ty it s) fun h62 s i=>⟨h62,i⟩) fun e3' h3 n3 ⟨h62,i3⟩ => ?_
 exact f152c h61 h62 _ i3
end
structure QuSm (q:Qu):Prop where
 it:q.items.length<big
 ty:∀i,i<q.items.length→(q.items.getD i it0).types.length<big
 wh:smallT q.wh
 rl:q.ret.length<big
 rt:∀i,i<q.ret.length→smallT (q.ret.getD i [])
def okCh (q:List Ty×Qu):Prop:=smallS q.1∧QuSm q.2
def GPart:=pureH (de2 rSc rQ) okCh fun q=>bv (partB q.1 q.2)
def tbPart:List (FuncId×(List AV→Heap→PRes)):=[(153,GHas)]
theorem P105:P0 [] 105 GPart:=by
 refine mkH 2 (S:=[]) (l:=tbPart) (tb_cons P153 tb_nil) Tryz.func105 rfl (by kernel_rfl) de2_mono de2_len (fun a=>rfl) (fun args q h n e hp hn => ?_)
 obtain⟨x,y,rfl,e1,e2⟩:=de2_out e
 obtain⟨sc,q⟩:=q
 obtain⟨hsc,hq⟩:=hp
 simp only[]at e1 e2 hsc hq ⊢
 have g1:=sc_agree hn e1
 obtain⟨x,rfl,e5⟩:=deSc_out e1
 have t3:=(sl_is e5).2.2.1
 have t4:=(sl_is e5).2.2.2.1
 obtain⟨a,b,c,rfl,x2,x3,x4⟩:=deQ_out e2
 obtain⟨s1,s2,s3,s4,s5⟩:=sl_is x2
 have o2:=(sl_is x3).2.2.2.1
 have o3:=(sl_is x4).2.2.2.1
 have hqb:=hq.it
 have hts:ByteArray.mk #[116,115]=tsB:=rfl
 have key:∀e:Nat→AV,e 0=.g [x]→e 1=.g [a,ii q.mode,ii q.after,b,ii q.within,ss q.par,c]→awp (cx [] (pfL tbPart)) (Tryz.f105.body.getD .skip) (finQ (cx [] (pfL tbPart)) Tryz.f105 fun z _ _=>z=bv (partB sc q)) ⟨e,roH h,n⟩:=fun e q0 q1=>by
  cases hp:(q.par==tsB)with
  | true =>
   have h1:partB sc q=false:=by simp[partB,hp]
   simp[evx,Tryz.f105,q0,q1,ii,ss,bv,s4,t4,o2,o3,hts,hp,h1]
  | false =>
   have h1:partB sc q=q.items.all fun it=>hasA sc it q.par:=by simp[partB,hp]
   simp[evx,Tryz.f105,q0,q1,ii,ss,bv,s1,s2,s4,t4,o2,o3,hts,hp]
   refine awp_loop (fun s=>∃j:Nat,j≤q.items.length∧s.e 2=.p n 0 0∧s.e 3=.p (n+1) 0 0∧s.e 11=a∧s.e 12=ii q.items.length∧s.e 13=ii j∧agree n (roH h) s.h∧s.h n=some ⟨[x],0,true,1⟩∧s.h (n+1)=some ⟨[a,ii q.mode,ii q.after,b,ii q.within,ss q.par,c],0,true,7⟩∧n+2≤s.n∧∀i,i<j→hasA sc (q.items.getD i it0) q.par=true) (fun s=>q.items.length-(s.e 13).i.toNat) ⟨0,by simp[up,ii,ss,agree_up,agree_refl]⟩ ?_
   rintro e' h' n' ⟨j,hj,q2,q3,q11,q12,q13,hag,hb0,hb1,hnn,hno⟩
   simp only[]at q2 q3 q11 q12 q13 hag hb0 hb1 hnn
   by_cases hlt:j<q.items.length
   ·obtain⟨id,off,k,ty,rfl,hk,ho,c0,c1,c2,c3,c4,e6⟩:=its_getD x2 hlt
    have ha':=agree_at hn hk hag
    have hw:=wrap_nat (j:=j) (by omega)
    have hw1:off+(j*5+5)≤k.cells.length:=by omega
    have hty:=hq.ty j hlt
    have hmiss:=fun hy=>upTo_succ (p:=fun i=>hasA sc (q.items.getD i it0) q.par=true) hno hy
    have hhit:hasA sc (q.items.getD j it0) q.par=false→partB sc q=false:=fun hy=>by rw[h1];exact allG_no (d:=it0) hlt hy
    have u3:=(sl_is e6).2.2.1
    have u4:=(sl_is e6).2.2.2.1
    have g6:=rd_agree hn e6
    generalize q.items.getD j it0=it at *
    obtain⟨ng,types,var,lo,hi⟩:=it
    simp only[]at c0 c1 c2 c3 c4 e6 hty g6 hmiss hhit
    simp only[ii,ss,bv]at c0 c1 c2 c3 c4 hb1
    have z0:¬n=n':=by omega
    have z1:¬n+1=n':=by omega
    have z2:¬id=n':=by have:=lt_of hk hn;omega
    have hag2:∀b1 b2,agree n (roH h) (up (up h' n' b1) n' b2):=fun b1 b2=>by simp[agree_up,show n≤n' by omega,hag]
    cases hy:hasA sc ⟨ng,types,var,lo,hi⟩ q.par with
    | false =>
     have h2:=hhit hy
     simp[evx,q2,q3,q11,q12,q13,ii,ss,bv,hlt,ha',c0,c1,c2,c3,c4,hw1,hb0,hb1,u4,z0,z1,tbPart,GHas,pureH,de3,rSc,rIt,rG,dIt,deItc,rS,deS,g1,g6,hag2,hsc,hty,hy,h2]
    | true =>
     have h2:=hmiss hy
     simp[evx,q2,q3,q11,q12,q13,ii,ss,bv,hlt,ha',c0,c1,c2,c3,c4,hw1,hb0,hb1,u4,z0,z1,tbPart,GHas,pureH,de3,rSc,rIt,rG,dIt,deItc,rS,deS,g1,g6,hag2,hsc,hty,hy,hw]
     exact⟨⟨j+1,by omega,by omega,by omega,fun i hi=>by have:=h2 i hi;simpa using this⟩,by omega⟩
   ·obtain rfl:j=q.items.length:=by omega
    have h2:partB sc q=true:=by rw[h1];exact (all_getD it0).2 hno
    simp[evx,q12,q13,ii,h2]
 exact key _ rfl rfl
section
theorem ixM_take {l:List ByteArray} {v:ByteArray} {j:Nat} (hj:j<l.length) (hv:l[j]=v):(ixM (l.take j) v).isSome=decide (ixOf l v<j):=by
 have h1:(l.take j).findIdx (· == v)=min j (l.findIdx (· == v)):=List.findIdx_take
 have h2:(l.take j).length=j:=by rw[List.length_take];omega
 have h3:l.findIdx (· == v)<l.length:=List.findIdx_lt_length_of_exists ⟨l[j],List.getElem_mem hj,by rw[hv,ba_beq]⟩
 unfold ixM ixOf
 rw[h1,h2,if_pos h3]
 by_cases h4:l.findIdx (· == v)<j
 ·rw[if_pos (by omega),if_pos (by omega)]
  simp;omega
 ·rw[if_neg (by omega)]
  simp;omega
theorem itsF_hit {sc:List Ty} {q:Qu} {j:Nat} (h10:¬10<q.items.length) (hj:j<q.items.length) (h0:∀i,i<j→itE sc q i=0) (h1:itE sc q j≠0):itsF sc q=⟨itE sc q j,1,j,0⟩:=by
 unfold itsF
 rw[if_neg h10,fstI_at h0 h1 hj,if_pos h1]
def posN (q:Qu) (j:Nat):Nat:=((q.items.take j).filter fun it => !it.neg).length
theorem posN_succ {q:Qu} {j:Nat} (hj:j<q.items.length):posN q (j+1)=if (q.items.getD j it0).neg=true then posN q j else posN q j+1:=by
 have hg:q.items.getD j it0=q.items[j]:=by rw[List.getD_eq_getElem?_getD,List.getElem?_eq_getElem hj];rfl
 unfold posN
 rw[List.take_succ_eq_append_getElem hj,List.filter_append,List.length_append,hg]
 cases hng:q.items[j].neg<;>simp[hng]
theorem posN_zero {q:Qu}:posN q q.items.length=0↔q.items.all (·.neg)=true:=by
 unfold posN
 rw[List.take_length,List.length_eq_zero_iff,List.filter_eq_nil_iff,List.all_eq_true]
 simp
theorem posN_le (q:Qu) (j:Nat):posN q j≤j:=by
 unfold posN
 have h1:=List.length_filter_le (fun it:It => !it.neg) (q.items.take j)
 rw[List.length_take]at h1
 omega
def GIts:=pureH (de2 rSc rQ) okCh fun q=>ff (itsF q.1 q.2)
def tbIts:List (FuncId×(List AV→Heap→PRes)):=[(152,GItem)]
section
variable {sc:List Ty} {q:Qu} {h:Heap} {n:Nat} {x a b c:AV}
structure I101 (h:Heap) (n:Nat) (x a b c:AV) (sc:List Ty) (q:Qu) (j:Nat) (s:St):Prop where
 q2:s.e 2=.p n 0 0
 q3:s.e 3=.p (n+1) 0 0
 q4:s.e 4=.p (n+2) 0 0
 q5:s.e 5=.mv (n+3) 0
 q6:s.e 6=ii (posN q j)
 q19:s.e 19=a
 q20:s.e 20=ii q.items.length
 q21:s.e 21=ii j
 ag:agree n (roH h) s.h
 b0:s.h n=some ⟨[x],0,true,1⟩
 b1:s.h (n+1)=some ⟨[a,ii q.mode,ii q.after,b,ii q.within,ss q.par,c],0,true,7⟩
 b2:s.h (n+2)=some ⟨[ii 0,ii 0,ii 0,ii 0],0,true,4⟩
 b3:∃cs,s.h (n+3)=some ⟨cs,0,true,0⟩∧isM (ixM ((vars q.items).take j)) cs
 nn:n+4≤s.n
 no:∀i,i<j→itE sc q i=0
theorem f101a (e1:deSc h (.g [x])=some sc) (x2:rd dIts h a=some q.items) (hn:∀i,n≤i→h i=none) (hsc:smallS sc) (hq:QuSm q) (h10:¬10<q.items.length) (j:Nat) (hlt:j<q.items.length) (s:St) (i:I101 h n x a b c sc q j s) {Q:Ex→St→Prop} (hQ:∀s,I101 h n x a b c sc q (j+1) s→Q .normal s) (hR:∀s:St,s.e 4=.p (n+2) 0 0→s.h (n+2)=some ⟨fcells (itsF sc q),0,true,4⟩→Q .ret s) :
  awp (cx [] (pfL tbIts)) (bodyL (hdC 1 (tlC 4 (Tryz.f101.body.getD .skip)))) Q s:=by
 obtain⟨e',h',n'⟩:=s
 obtain⟨q2,q3,q4,q5,q6,q19,q20,q21,hag,hb0,hb1,hb2,⟨cs,hm,hM⟩,hnn,hno⟩:=i
 simp only[]at q2 q3 q4 q5 q6 q19 q20 q21 hag hb0 hb1 hb2 hm hnn
 have g1:=sc_agree hn e1
 obtain⟨_,hx,e5⟩:=deSc_out e1
 cases hx
 have t3:=(sl_is e5).2.2.1
 obtain⟨id,off,k,ty,rfl,hk,ho,c0,c1,c2,c3,c4,e6⟩:=its_getD x2 hlt
 have ha':=agree_at hn hk hag
 have hqb:=hq.it
 have hw:=wrap_nat (j:=j) (by omega)
 have hpl:=posN_le q j
 have hwp:=wrap_nat (j:=posN q j) (by unfold big;omega)
 have hps:=posN_succ hlt
 have hw1:off+(j*5+5)≤k.cells.length:=by omega
 have hty:=hq.ty j hlt
 have hlt':(j:Int)<(q.items.length:Int):=by omega
 have hhit:=itsF_hit (sc:=sc) h10 hlt hno
 have hok:=hM.1
 have hvl:(vars q.items).length=q.items.length:=by simp[vars]
 have hvj:j<(vars q.items).length:=by omega
 have hva:(vars q.items)[j]=(q.items.getD j it0).var:=by
  have:=vars_at (q:=q) hlt
  rw[List.getElem?_eq_getElem hvj]at this
  exact Option.some.inj this
 have hmiss:=fun hy=>upTo_succ (p:=fun i=>itE sc q i=0) hno hy
 have htk:(vars q.items).take (j+1)=(vars q.items).take j++[(q.items.getD j it0).var]:=by rw[List.take_succ_eq_append_getElem hvj,hva]
 have htl:((vars q.items).take j).length=j:=by rw[List.length_take];omega
 have hti:=ixM_take hvj hva
 have hf:=hM.2 (q.items.getD j it0).var
 have hE:itE sc q j=if itemE sc (q.items.getD j it0)≠0 then itemE sc (q.items.getD j it0)else if ixOf (vars q.items) (q.items.getD j it0).var<j then 64 else 0:=rfl
 have u3:=(sl_is e6).2.2.1
 have u4:=(sl_is e6).2.2.2.1
 have g6:=rd_agree hn e6
 have hz:((0:Nat):Int)=0:=rfl
 generalize q.items.getD j it0=it at *
 obtain⟨ng,types,var,lo,hi⟩:=it
 simp only[]at c0 c1 c2 c3 c4 e6 hty g6 hE hva htk hti hf hps
 simp only[ii,ss,bv]at c0 c1 c2 c3 c4 hb1 hb2 q6 q20 q21
 have z0:¬n=n':=by omega
 have z1:¬n+1=n':=by omega
 have z2:¬n+2=n':=by omega
 have z3:¬n+3=n':=by omega
 have z4:¬n'=n+3:=by omega
 have zi:¬id=n':=by have:=lt_of hk hn;omega
 have hag2:∀b1 b2,agree n (roH h) (up (up h' n' b1) n' b2):=fun b1 b2=>by simp[agree_up,show n≤n' by omega,hag]
 have hag3:∀b1 b2 b3,agree n (roH h) (up (up (up h' n' b1) n' b2) (n+3) b3):=fun b1 b2 b3=>by simp[agree_up,show n≤n' by omega,hag]
 by_cases hy:itemE sc ⟨ng,types,var,lo,hi⟩=0
 ·rw[if_neg (not_not_intro hy)]at hE
  cases hxx:ixM ((vars q.items).take j) var with
  | some i =>
   rw[hxx]at hf hti
   simp only[Option.map_some,ii,Option.isSome_some]at hf hti
   have h2:ixOf (vars q.items) var<j:=by simpa using hti.symm
   rw[if_pos h2]at hE
   have h3:=hhit (by rw[hE];decide)
   simp[evx,hdC,tlC,bodyL,Tryz.f101,ii,q2,q4,q5,q19,q20,q21,hlt',ha',c0,c1,c2,c3,c4,hw1,hb0,hb2,u4,z0,z2,z3,tbIts,GItem,pureH,de2,rSc,rIt,rG,dIt,deItc,g1,g6,hag2,hsc.1,hty,hy,hm,hok,hf]
   refine hR _ ?_ ?_<;>simp[up,q4,h3,hE,fcells,ii]
  | none =>
   rw[hxx]at hf hti
   simp only[Option.map_none,Option.isSome_none]at hf hti
   have h2:¬ixOf (vars q.items) var<j:=by simpa using hti.symm
   rw[if_neg h2]at hE
   have h3:=hmiss hE
   have hnew:=ixM_new (l:=(vars q.items).take j) (x:=var) hxx
   rw[htl]at hnew
   have hMs:=isM_set hM var j
   cases ng with
   | true =>
    rw[if_pos rfl]at hps
    simp[evx,hdC,tlC,bodyL,Tryz.f101,ii,q2,q5,q19,q20,q21,hlt',ha',c0,c1,c2,c3,c4,hw1,hb0,u4,z0,z3,z4,tbIts,GItem,pureH,de2,rSc,rIt,rG,dIt,deItc,g1,g6,hag2,hsc.1,hty,hy,hm,hok,hf,hw]
    refine hQ _ ?_
    exact⟨by simp[up,q2],by simp[up,q3],by simp[up,q4],by simp[up,q5],by simp[up,q6,hps,ii],by simp[up,q19],by simp[up,q20,ii],by simp[up,ii],by simp[agree_up,show n≤n' by omega,hag],by simp[up,z0,hb0],by simp[up,z1,hb1,ii,ss],by simp[up,z2,hb2,ii],⟨mset var (.v (.int .i64 j)) cs,by simp[up],by rw[htk,hnew];exact hMs⟩,by simp only[];omega,h3⟩
   | false =>
    rw[if_neg (by simp)]at hps
    simp[evx,hdC,tlC,bodyL,Tryz.f101,ii,q2,q5,q6,q19,q20,q21,hlt',ha',c0,c1,c2,c3,c4,hw1,hb0,u4,z0,z3,z4,tbIts,GItem,pureH,de2,rSc,rIt,rG,dIt,deItc,g1,g6,hag2,hsc.1,hty,hy,hm,hok,hf,hw,hwp]
    refine hQ _ ?_
    exact⟨by simp[up,q2],by simp[up,q3],by simp[up,q4],by simp[up,q5],by simp[up,hps,ii],by simp[up,q19],by simp[up,q20,ii],by simp[up,ii],by simp[agree_up,show n≤n' by omega,hag],by simp[up,z0,hb0],by simp[up,z1,hb1,ii,ss],by simp[up,z2,hb2,ii],⟨mset var (.v (.int .i64 j)) cs,by simp[up],by rw[htk,hnew];exact hMs⟩,by simp only[];omega,h3⟩
 ·rw[if_pos hy]at hE
  have h3:=hhit (by rw[hE];exact hy)
  simp[evx,hdC,tlC,bodyL,Tryz.f101,ii,q2,q4,q19,q20,q21,hlt',ha',c0,c1,c2,c3,c4,hw1,hb0,hb2,u4,z0,z2,tbIts,GItem,pureH,de2,rSc,rIt,rG,dIt,deItc,g1,g6,hag2,hsc.1,hty,hy]
  refine hR _ ?_ ?_<;>simp[up,q4,h3,hE,fcells,ii]
end
theorem P101:P0 [] 101 GIts:=by
 refine mkH 2 (S:=[]) (l:=tbIts) (tb_cons P152 tb_nil) Tryz.func101 rfl (by kernel_rfl) de2_mono de2_len (fun a=>rfl) (fun args q h n e hp hn => ?_)
 obtain⟨x,y,rfl,e1,e2⟩:=de2_out e
 obtain⟨sc,q⟩:=q
 obtain⟨hsc,hq⟩:=hp
 simp only[]at e1 e2 hsc hq ⊢
 obtain⟨x,rfl,e5⟩:=deSc_out e1
 have t3:=(sl_is e5).2.2.1
 have t4:=(sl_is e5).2.2.2.1
 obtain⟨a,b,c,rfl,x2,x3,x4⟩:=deQ_out e2
 obtain⟨s1,s2,s3,s4,s5⟩:=sl_is x2
 have o2:=(sl_is x3).2.2.2.1
 have o3:=(sl_is x4).2.2.2.1
 have key:∀e:Nat→AV,e 0=.g [x]→e 1=.g [a,ii q.mode,ii q.after,b,ii q.within,ss q.par,c]→awp (cx [] (pfL tbIts)) (Tryz.f101.body.getD .skip) (finQ (cx [] (pfL tbIts)) Tryz.f101 fun z _ _=>z=ff (itsF sc q)) ⟨e,roH h,n⟩:=fun e q0 q1=>by
  by_cases h10:10<q.items.length
  ·have h1:itsF sc q=⟨60,1,10,0⟩:=by unfold itsF;rw[if_pos h10]
   have h10':(10:Int)<q.items.length:=by omega
   simp[evx,Tryz.f101,q0,q1,ii,ss,s1,s2,s4,t4,o2,o3,h10',h1,ff,fcells]
  ·refine awp_cut 4 _ _ (R:=fun s=>s.e 2=.p n 0 0∧s.e 3=.p (n+1) 0 0∧s.e 4=.p (n+2) 0 0∧s.e 5=.mv (n+3) 0∧s.e 6=ii 0∧agree n (roH h) s.h∧s.h n=some ⟨[x],0,true,1⟩∧s.h (n+1)=some ⟨[a,ii q.mode,ii q.after,b,ii q.within,ss q.par,c],0,true,7⟩∧s.h (n+2)=some ⟨[ii 0,ii 0,ii 0,ii 0],0,true,4⟩∧s.h (n+3)=some ⟨[],0,true,0⟩∧n+4≤s.n) ?_ fun y1 h1 n1 hh => ?_
   ·have h10':¬(10:Int)<q.items.length:=by omega
    simp[evx,hdC,Tryz.f101,q0,q1,ii,ss,s1,s2,s4,t4,o2,o3,h10']
    simp[agree_up,agree_refl]
   obtain⟨q2,q3,q4,q5,q6,hag,hb0,hb1,hb2,hb3,hnn⟩:=hh
   simp only[]at q2 q3 q4 q5 q6 hag hb0 hb1 hb2 hb3 hnn
   refine awp_cut 1 _ _ (R:=fun s=>∃h0,s.e 4=.p (n+2) 0 0∧s.e 6=ii (posN q q.items.length)∧s.h (n+2)=some ⟨[ii 0,ii 0,ii 0,ii 0],0,true,4⟩∧(∀i,i<q.items.length→itE sc q i=0)∧h0=s.h) ?_ fun y2 h2 n2 hh2 => ?_
   ·have e0:hdC 1 (tlC 4 (Tryz.f101.body.getD .skip))=.seq (hdC 1 (hdC 1 (tlC 4 (Tryz.f101.body.getD .skip)))) (.block 0 (.loop (bodyL (hdC 1 (tlC 4 (Tryz.f101.body.getD .skip)))))):=rfl
    rw[e0]
    simp[evx,hdC,tlC,Tryz.f101,q3,hb1,ii,ss,s1,s2]
    refine awp_loop (fun s=>∃j,j≤q.items.length∧I101 h n x a b c sc q j s) (fun s=>q.items.length-(s.e 21).i.toNat) ⟨0,by omega,by simp[up,q2],by simp[up,q3],by simp[up,q4],by simp[up,q5],by simp[up,q6,posN],by simp[up],by simp[up,ii],by simp[up,ii],hag,hb0,hb1,hb2,⟨[],hb3,by simpa[ixM_nil]using isM_nil⟩,hnn,by omega⟩ ?_
    rintro e' h' n' ⟨j,hj,i⟩
    by_cases hlt:j<q.items.length
    ·have i0:=i
     have q21:=i0.q21
     simp only[]at q21
     refine f101a e1 x2 hn hsc hq h10 j hlt _ i (fun s i' => ?_) (fun s g4 gb => ?_)
     ·have q21':=i'.q21
      simp only[thenQ_n]
      refine⟨⟨j+1,by omega,i'⟩,?_⟩
      rw[q21,q21']
      simp[ii,AV.i];omega
     ·simp[evx,g4,gb,fcells,ff]
    ·obtain rfl:j=q.items.length:=by omega
     have q21:=i.q21
     have q20:=i.q20
     simp only[]at q20 q21
     have hi4:=i.q4
     have hi6:=i.q6
     have hib:=i.b2
     simp only[]at hi4 hi6 hib
     simp[evx,bodyL,q20,q21,ii]
     exact⟨hi4,by simpa[ii]using hi6,by simpa[ii]using hib,i.no⟩
   ·obtain⟨h0,q4,q6,hb,hno,rfl⟩:=hh2
    simp only[]at q4 q6 hb
    have hF:itsF sc q=if q.items.all (·.neg)=true then ⟨65,1,0,0⟩else fl0:=by
     unfold itsF
     rw[if_neg h10,fstI_none hno,if_neg (by simp)]
    have hpz:=posN_zero (q:=q)
    by_cases hz:posN q q.items.length=0
    ·rw[if_pos (hpz.1 hz)]at hF
     simp[evx,tlC,Tryz.f101,q4,q6,hb,ii,hz,hF,ff,fcells]
    ·rw[if_neg (fun e=>hz (hpz.2 e))]at hF
     simp[evx,tlC,Tryz.f101,q4,q6,hb,ii,hz,hF,ff,fcells,fl0]
 exact key _ rfl rfl
end
section
theorem tys_getD {h:Heap} {a:AV} {l:List Ty} (e:rd dTys h a=some l) {i:Nat} (hi:i<l.length):∃id off k c,a=.s id k.ver off l.length∧h id=some k∧off+l.length*2≤k.cells.length∧
  k.cells[off+i*2]? = some (ss (l.getD i ty0).name)∧k.cells[off+(i*2+1)]? = some c∧rd dSs h c=some (l.getD i ty0).attrs:=by
 rcases tys_at e with ⟨h0,_⟩|⟨id,off,k,h1,h2,h3,h4⟩
 ·rw[h0]at hi;simp at hi
 ·have hg:l.getD i ty0=l[i]:=by rw[List.getD_eq_getElem?_getD,List.getElem?_eq_getElem hi];rfl
  obtain⟨r1,c,r2,r3⟩:=h4 i hi
  rw[hg]
  exact⟨id,off,k,c,h1,h2,h3,r1,r2,r3⟩
def GSch:=pureH (de1 rSc) smallS fun sc=>ii (schF sc)
def tbSch:List (FuncId×(List AV→Heap→PRes)):=[(112,GTy),(149,g138),(150,G140)]
structure I99 (h:Heap) (n:Nat) (a:AV) (sc:List Ty) (j:Nat) (s:St):Prop where
 q1:s.e 1=.p n 0 0
 q18:s.e 18=a
 q19:s.e 19=ii sc.length
 q20:s.e 20=ii j
 ag:agree n (roH h) s.h
 b0:s.h n=some ⟨[a],0,true,1⟩
 nn:n+1≤s.n
structure K99 (h:Heap) (n:Nat) (a:AV) (sc:List Ty) (j:Nat) (t:Ty) (c:AV) (m:Nat) (s:St):Prop extends I99 h n a sc j s where
 q3:s.e 3=ii j
 q4:s.e 4=.p m 0 0
 b4:s.h m=some ⟨[ss t.name,c],0,true,2⟩
 mm:n+1≤m
section
variable {sc:List Ty} {h:Heap} {n:Nat} {a:AV}
theorem schF_hit {j:Nat} (h0:¬(sc.length=0∨16<sc.length)) (hj:j<sc.length) (hno:∀i,i<j→schE sc i=0) (h1:schE sc j≠0):schF sc=schE sc j:=by
 unfold schF
 rw[if_neg h0,fstI_at hno h1 hj]
theorem f99a (e5:rd dTys h a=some sc) (hn:∀i,n≤i→h i=none) (j:Nat) (hlt:j<sc.length) {t:Ty} (ht:sc.getD j ty0=t) (s:St) (i:I99 h n a sc j s) {Q:Ex→St→Prop} :
  awp (cx [3] (pfL tbSch)) (hdC 1 (inB (hdC 1 (tlC 2 (bodyL (hdC 1 (tlC 2 (Tryz.f99.body.getD .skip)))))))) (thenQ (fun s=>∃c m,rd dSs h c=some t.attrs∧K99 h n a sc j t c m s) Q) s:=by
 obtain⟨e',h',n'⟩:=s
 obtain⟨q1,q18,q19,q20,hag,hb0,hnn⟩:=i
 simp only[]at q1 q18 q19 q20 hag hb0 hnn
 obtain⟨id,off,k,c,rfl,hk,ho,c0,c1,e6⟩:=tys_getD e5 hlt
 rw[ht]at c0 e6
 have ha':=agree_at hn hk hag
 have hw1:off+(j*2+2)≤k.cells.length:=by omega
 have u3:=(sl_is e6).2.2.1
 have u4:=(sl_is e6).2.2.2.1
 have z0:¬n=n':=by omega
 have zi:¬id=n':=by have:=lt_of hk hn;omega
 simp only[ss]at c0
 simp[evx,hdC,tlC,bodyL,inB,Tryz.f99,q18,q20,ii,hlt,ha',c0,c1,hw1,u4]
 refine⟨c,e6,n',⟨⟨?_,?_,?_,?_,?_,?_,?_⟩,?_,?_,?_,?_⟩⟩
 ·simp[up,q1]
 ·simp[up,q18]
 ·simp[up,q19,ii]
 ·simp[up,q20,ii]
 ·simp[agree_up,show n≤n' by omega,hag]
 ·simp[up,z0,hb0]
 ·simp only[];omega
 ·simp[up,ii]
 ·simp[up]
 ·simp[up,ss]
 ·exact hnn
theorem f99b (e1:deSc h (.g [a])=some sc) (hn:∀i,n≤i→h i=none) (hsc:smallS sc) {j:Nat} {t:Ty} {c:AV} {m:Nat} (e6:rd dSs h c=some t.attrs) (s:St) (i:K99 h n a sc j t c m s) {Q:Ex→St→Prop}
  (hQ:isNameS t.name=true→typeOf sc t.name=j→¬8<t.attrs.length→∀s,K99 h n a sc j t c m s→Q .normal s)
  (hR:∀(s:St) x,(isNameS t.name=false∧x=22)∨(isNameS t.name=true∧typeOf sc t.name≠j∧x=25)∨(isNameS t.name=true∧typeOf sc t.name=j∧8<t.attrs.length∧x=24)→s.e 2=ii x→Q .ret s) :
  awp (cx [3] (pfL tbSch)) (hdC 1 (tlC 1 (inB (hdC 1 (tlC 2 (bodyL (hdC 1 (tlC 2 (Tryz.f99.body.getD .skip))))))))) Q s:=by
 obtain⟨e',h',n'⟩:=s
 obtain⟨⟨q1,q18,q19,q20,hag,hb0,hnn⟩,q3,q4,hb4,hmm⟩:=i
 simp only[]at q1 q18 q19 q20 hag hb0 hnn q3 q4 hb4
 have g1:=sc_agree hn e1
 obtain⟨_,hx,e5⟩:=deSc_out e1
 cases hx
 have t3:=(sl_is e5).2.2.1
 obtain⟨u1,u2,u3,u4,u5⟩:=sl_is e6
 simp only[ss,ii]at hb4 q3
 obtain⟨name,attrs⟩:=t
 simp only[]at hb4 e6 u2 hQ hR
 have fin:∀e2,(∀i∈[1,18,19,20,3,4],e2 i=e' i)→K99 h n a sc j ⟨name,attrs⟩ c m ⟨e2,h',n'⟩:=fun e2 he =>
  ⟨⟨(he 1 (by simp)).trans q1,(he 18 (by simp)).trans q18,(he 19 (by simp)).trans q19,(he 20 (by simp)).trans q20,hag,hb0,hnn⟩,(he 3 (by simp)).trans (by simpa[ii]using q3),(he 4 (by simp)).trans q4,by simpa[ss]using hb4,hmm⟩
 cases h1:isNameS name with
 | false =>
  simp[evx,hdC,tlC,bodyL,inB,Tryz.f99,q4,hb4,tbSch,g138,pure1,deS,h1,bv]
  exact hR _ 22 (.inl ⟨h1,rfl⟩) (by simp[up,ii])
 | true =>
  by_cases h2:typeOf sc name=j
  ·by_cases h3:8<attrs.length
   ·have h3':(8:Int)<attrs.length:=by omega
    simp[evx,hdC,tlC,bodyL,inB,Tryz.f99,q1,q3,q4,hb0,hb4,ii,tbSch,g138,GTy,pure1,pureH,de2,rSc,rS,deS,g1,hag,hsc.1,h1,h2,h3',u1,u2,bv]
    exact hR _ 24 (.inr (.inr ⟨h1,h2,h3,rfl⟩)) (by simp[up,ii])
   ·have h3':¬(8:Int)<attrs.length:=by omega
    simp[evx,hdC,tlC,bodyL,inB,Tryz.f99,q1,q3,q4,hb0,hb4,ii,tbSch,g138,GTy,pure1,pureH,de2,rSc,rS,deS,g1,hag,hsc.1,h1,h2,h3',u1,u2,bv]
    exact hQ h1 h2 h3 _ (fin _ (by simp[up]))
  ·simp[evx,hdC,tlC,bodyL,inB,Tryz.f99,q1,q3,q4,hb0,hb4,ii,tbSch,g138,GTy,pure1,pureH,de2,rSc,rS,deS,g1,hag,hsc.1,h1,h2,bv]
   exact hR _ 25 (.inr (.inl ⟨h1,h2,rfl⟩)) (by simp[up,ii])
theorem f99c (hn:∀i,n≤i→h i=none) {j:Nat} {t:Ty} {c:AV} {m:Nat} (e6:rd dSs h c=some t.attrs) (hsm:t.attrs.length<big) (s:St) (i:K99 h n a sc j t c m s) {Q:Ex→St→Prop}
  (hQ:(fstI (attE t) t.attrs.length).2=0→∀s,I99 h n a sc j s→Q .normal s)
  (hR:∀(s:St),(fstI (attE t) t.attrs.length).2≠0→s.e 2=ii (fstI (attE t) t.attrs.length).2→Q .ret s) :
  awp (cx [3] (pfL tbSch)) (tlC 2 (inB (hdC 1 (tlC 2 (bodyL (hdC 1 (tlC 2 (Tryz.f99.body.getD .skip)))))))) Q s:=by
 obtain⟨e',h',n'⟩:=s
 obtain⟨⟨q1,q18,q19,q20,hag,hb0,hnn⟩,q3,q4,hb4,hmm⟩:=i
 simp only[]at q1 q18 q19 q20 hag hb0 hnn q3 q4 hb4
 obtain⟨u1,u2,u3,u4,u5⟩:=sl_is e6
 have hts:ByteArray.mk #[116,115]=tsB:=rfl
 simp only[ss,ii]at hb4 q3
 simp[evx,hdC,tlC,bodyL,inB,Tryz.f99,q4,hb4,u1,u2]
 refine awp_loop (fun s=>∃k:Nat,k≤t.attrs.length∧K99 h n a sc j t c m s∧s.e 43=c∧s.e 44=ii t.attrs.length∧s.e 45=ii k∧∀i,i<k→attE t i=0) (fun s=>t.attrs.length-(s.e 45).i.toNat) ⟨0,by omega,⟨⟨by simp[up,q1],by simp[up,q18],by simp[up,q19],by simp[up,q20],hag,hb0,hnn⟩,by simp[up,q3,ii],by simp[up,q4],by simpa[ss]using hb4,hmm⟩,by simp[up],by simp[up,ii],by simp[up,ii],by omega⟩ ?_
 rintro e1 h1 n1 ⟨k,hk,⟨⟨q1,q18,q19,q20,hag,hb0,hnn⟩,q3,q4,hb4,hmm⟩,q43,q44,q45,hno⟩
 simp only[]at q1 q18 q19 q20 hag hb0 hnn q3 q4 hb4 q43 q44 q45
 by_cases hlt:k<t.attrs.length
 ·obtain⟨id,off,kb,rfl,hkb,ho,hat⟩:=ss_getD e6 hlt
  have ha':=agree_at hn hkb hag
  have hw:=wrap_nat (j:=k) (by omega)
  have hw1:off+(k+1)≤kb.cells.length:=by omega
  have hmiss:=fun hy=>upTo_succ (p:=fun i=>attE t i=0) hno hy
  have hhit:=fun hy:attE t k≠0=>fstI_at (f:=attE t) hno hy hlt
  have hE:attE t k=if isNameS (t.attrs.getD k ByteArray.empty)=false∨(t.attrs.getD k ByteArray.empty==tsB)=true then 22 else if ixOf t.attrs (t.attrs.getD k ByteArray.empty)≠k then 25 else 0:=rfl
  have g6:=rd_agree hn e6
  generalize t.attrs.getD k ByteArray.empty=y at *
  simp only[ss,ii]at hat hb4 q3
  have fin:∀e2,(∀i∈[1,18,19,20,3,4],e2 i=e1 i)→K99 h n a sc j t (.s id kb.ver off t.attrs.length) m ⟨e2,h1,n1⟩:=fun e2 he =>
   ⟨⟨(he 1 (by simp)).trans q1,(he 18 (by simp)).trans q18,(he 19 (by simp)).trans q19,(he 20 (by simp)).trans q20,hag,hb0,hnn⟩,(he 3 (by simp)).trans (by simpa[ii]using q3),(he 4 (by simp)).trans q4,by simpa[ss]using hb4,hmm⟩
  cases hy1:isNameS y with
  | false =>
   rw[if_pos (.inl hy1)]at hE
   have hh:=hhit (by rw[hE];decide)
   simp[evx,q43,q44,q45,ii,bv,hlt,ha',hat,hw1,tbSch,g138,pure1,deS,hy1]
   exact hR _ (by rw[hh,hE];simp) (by simp[up,ii,hh,hE])
  | true =>
   cases hy2:(y==tsB)with
   | true =>
    rw[if_pos (.inr hy2)]at hE
    have hh:=hhit (by rw[hE];decide)
    simp[evx,q43,q44,q45,ii,bv,hlt,ha',hat,hw1,tbSch,g138,pure1,deS,hy1,hts,hy2]
    exact hR _ (by rw[hh,hE];simp) (by simp[up,ii,hh,hE])
   | false =>
    rw[if_neg (by rw[hy1,hy2];simp)]at hE
    by_cases hy3:ixOf t.attrs y=k
    ·rw[if_neg (not_not_intro hy3)]at hE
     have hm2:=hmiss hE
     simp[evx,q4,q43,q44,q45,hb4,ii,bv,hlt,ha',hat,hw1,tbSch,g138,G140,pure1,pureH,dePl,deS,g6,hag,hsm,hy1,hts,hy2,hy3,hw]
     exact⟨⟨k+1,by omega,fin _ (by simp[up]),by omega,hm2⟩,by omega⟩
    ·rw[if_pos hy3]at hE
     have hh:=hhit (by rw[hE];decide)
     simp[evx,q4,q43,q44,q45,hb4,ii,bv,hlt,ha',hat,hw1,tbSch,g138,G140,pure1,pureH,dePl,deS,g6,hag,hsm,hy1,hts,hy2,hy3]
     exact hR _ (by rw[hh,hE];simp) (by simp[up,ii,hh,hE])
 ·obtain rfl:k=t.attrs.length:=by omega
  have hh:=fstI_none hno
  have hQ':=hQ (by rw[hh])
  simp[evx,q44,q45,ii]
  refine hQ' _ ?_
  exact⟨q1,q18,q19,q20,hag,hb0,hnn⟩
end
theorem P99:P0 [3] 99 GSch:=by
 refine mkH 1 (S:=[3]) (l:=tbSch) (tb_cons P112 (tb_cons p138 (tb_cons P140 tb_nil))) Tryz.func99 rfl (by kernel_rfl) de1_mono de1_len (fun a=>rfl) (fun args sc h n e hsc hn => ?_)
 obtain⟨x,rfl,e1⟩:=de1_out e
 have e1:deSc h x=some sc:=e1
 obtain⟨a,rfl,e5⟩:=deSc_out e1
 obtain⟨s1,s2,s3,s4,s5⟩:=sl_is e5
 have hlb:=hsc.1
 have key:∀e:Nat→AV,e 0=.g [a]→awp (cx [3] (pfL tbSch)) (Tryz.f99.body.getD .skip) (finQ (cx [3] (pfL tbSch)) Tryz.f99 fun z _ _=>z=ii (schF sc)) ⟨e,roH h,n⟩:=fun e q0=>by
  by_cases h0:sc.length=0∨16<sc.length
  ·have h1:schF sc=23:=by unfold schF;rw[if_pos h0]
   rcases h0 with h0|h0
   ·simp[evx,Tryz.f99,q0,ii,s1,s2,s4,h0,h1]
   ·have h2:(16:Int)<sc.length:=by omega
    have h3:¬sc.length=0:=by omega
    simp[evx,Tryz.f99,q0,ii,s1,s2,s4,h2,h3,h1]
  ·have h2:¬(16:Int)<sc.length:=by omega
   have h3:¬sc.length=0:=by omega
   refine awp_cut 2 _ _ (R:=fun s=>s.e 1=.p n 0 0∧agree n (roH h) s.h∧s.h n=some ⟨[a],0,true,1⟩∧n+1≤s.n) ?_ fun y1 h1 n1 hh => ?_
   ·simp[evx,hdC,Tryz.f99,q0,ii,s1,s2,s4,h2,h3]
    simp[agree_up,agree_refl]
   obtain⟨q1,hag,hb0,hnn⟩:=hh
   simp only[]at q1 hag hb0 hnn
   refine awp_cut 1 _ _ (R:=fun _=>∀i,i<sc.length→schE sc i=0) ?_ fun y2 h2 n2 hno => ?_
   ·have e0:hdC 1 (tlC 2 (Tryz.f99.body.getD .skip))=.seq (hdC 1 (hdC 1 (tlC 2 (Tryz.f99.body.getD .skip)))) (.block 0 (.loop (bodyL (hdC 1 (tlC 2 (Tryz.f99.body.getD .skip)))))):=rfl
    rw[e0]
    simp[evx,hdC,tlC,Tryz.f99,q1,hb0,ii,s1,s2]
    refine awp_loop (fun s=>∃j,j≤sc.length∧I99 h n a sc j s∧∀i,i<j→schE sc i=0) (fun s=>sc.length-(s.e 20).i.toNat) ⟨0,by omega,⟨by simp[up,q1],by simp[up],by simp[up,ii],by simp[up,ii],hag,hb0,hnn⟩,by omega⟩ ?_
    rintro e' h' n' ⟨j,hj,i,hno⟩
    have i0:=i
    have q20:=i0.q20
    have q19:=i0.q19
    simp only[]at q20 q19
    by_cases hlt:j<sc.length
    ·have hw:=wrap_nat (j:=j) (by omega)
     have hhit:schE sc j≠0→schF sc=schE sc j:=schF_hit h0 hlt hno
     have hmiss:=fun hy=>upTo_succ (p:=fun i=>schE sc i=0) hno hy
     have hE:schE sc j=if isNameS (sc.getD j ty0).name=false then 22 else if typeOf sc (sc.getD j ty0).name≠j then 25 else if 8<(sc.getD j ty0).attrs.length then 24 else (fstI (attE (sc.getD j ty0)) (sc.getD j ty0).attrs.length).2:=rfl
     have hsm:(sc.getD j ty0).attrs.length<big:=hsc.2 _ (by rw[List.getD_eq_getElem?_getD,List.getElem?_eq_getElem hlt];exact List.getElem_mem hlt)
     generalize ht:sc.getD j ty0=t at *
     have hret:∀s:St,s.e 2=ii (schF sc)→resAll (cx [3] (pfL tbSch)) s Tryz.f99.results.toList∧resVal (cx [3] (pfL tbSch)) s Tryz.f99.results.toList=ii (schF sc):=fun s hs=>by
      simp[evx,Tryz.f99,hs]
     refine awp_cut 2 _ _ (R:=I99 h n a sc j) ?_ fun e1' h1' n1' i1 => ?_
     ·simp[evx,hdC,bodyL,q19,q20,ii,hlt]
      obtain⟨a1,a2,a3,a4,a5,a6,a7⟩:=i
      exact⟨by simpa[up]using a1,by simpa[up]using a2,by simpa[up]using a3,by simpa[up]using a4,a5,a6,a7⟩
     refine awp_cut 1 _ _ (R:=fun s=>schE sc j=0∧I99 h n a sc j s) ?_ fun e2' h2' n2' ⟨hE0,i2⟩ => ?_
     ·show awp (cx [3] (pfL tbSch)) (.block 1 (inB (hdC 1 (tlC 2 (bodyL (hdC 1 (tlC 2 (Tryz.f99.body.getD .skip)))))))) _ _
      rw[awp_block]
      refine awp_cut 1 _ _ (f99a e5 hn j hlt ht _ i1) fun e3' h3' n3' ⟨c,m,e6,k3⟩ => ?_
      refine awp_cut 1 _ _ (R:=fun s=>isNameS t.name=true∧typeOf sc t.name=j∧¬8<t.attrs.length∧K99 h n a sc j t c m s) (f99b e1 hn hsc e6 _ k3 (fun b1 b2 b3 s k4 => ?_) fun s x hx hs => ?_) fun e4' h4' n4' hh => ?_
      ·exact⟨b1,b2,b3,k4⟩
      ·have hx':schE sc j=x∧x≠0:=by
        rcases hx with ⟨b1,rfl⟩|⟨b1,b2,rfl⟩|⟨b1,b2,b3,rfl⟩
        ·rw[hE,if_pos b1];exact⟨rfl,by decide⟩
        ·rw[hE,if_neg (by rw[b1];simp),if_pos b2];exact⟨rfl,by decide⟩
        ·rw[hE,if_neg (by rw[b1];simp),if_neg (not_not_intro b2),if_pos b3];exact⟨rfl,by decide⟩
       have hF:=hhit (by rw[hx'.1];exact hx'.2)
       exact hret s (by rw[hF,hx'.1];exact hs)
      ·obtain⟨b1,b2,b3,k4⟩:=hh
       rw[if_neg (by rw[b1];simp),if_neg (not_not_intro b2),if_neg b3]at hE
       refine f99c hn e6 hsm _ k4 (fun h5 s i5 => ?_) fun s h5 hs => ?_
       ·exact⟨by rw[hE];exact h5,i5⟩
       ·have hF:=hhit (by rw[hE];exact h5)
        exact hret s (by rw[hF,hE];exact hs)
     ·obtain⟨a1,a2,a3,a4,a5,a6,a7⟩:=i2
      simp only[]at a1 a2 a3 a4 a5 a6 a7
      simp[evx,tlC,bodyL,a4,ii,hw,q20]
      exact⟨⟨j+1,by omega,⟨by simp[up,a1],by simp[up,a2],by simp[up,a3,ii],by simp[up,ii],a5,a6,a7⟩,hmiss hE0⟩,by omega⟩
    ·obtain rfl:j=sc.length:=by omega
     simp[evx,bodyL,q19,q20,ii]
     exact hno
   ·have hF:schF sc=0:=by unfold schF;rw[if_neg h0,fstI_none hno]
    simp[evx,tlC,Tryz.f99,ii,hF]
 exact key _ rfl
end
end Go.Proofs.YtbffkkeieihpdaaGreatDoor
