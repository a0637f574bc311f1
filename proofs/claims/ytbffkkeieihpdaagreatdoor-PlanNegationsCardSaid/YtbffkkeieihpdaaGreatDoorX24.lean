import Derived.Test.YtbffkkeieihpdaaGreatDoorX23
set_option linter.unusedSimpArgs false
set_option linter.unusedVariables false
set_option linter.constructorNameAsVariable false
set_option maxRecDepth 100000
set_option maxHeartbeats 4000000
namespace Go.Proofs.YtbffkkeieihpdaaGreatDoor
open Go Go.Eng
section
noncomputable def c57L:Code:=bodyL (hdC 1 (tlC 1 (Tryz.f57.body.getD .skip)))
noncomputable def c57B:Code:=inB (hdC 1 (tlC 2 c57L))
noncomputable def c57M:Code:=bodyL (hdC 1 (tlC 2 c57B))
def tp57:List (FuncId×(List AV→Heap→PRes)):=[(112,GTy)]
def plI (sc:List Ty) (q:Qu) (j:Nat):Pl:=⟨sc,q,cmpsOf sc q [] j,ngsOf sc q [] j,[],[],[],[],false,false⟩
def slF (q:Qu):Nat→ByteArray→Option (Bool×Nat)
 | 0=>fun _=>none
 | j+1=>fun z=>if z=(itA q j).var then some ((itA q j).neg,if (itA q j).neg=true then (negI q j).length else (posI q j).length)else slF q j z
structure J57 (hB:Heap) (n1 bid mid:Nat) (T:Nat→Nat) (p:Pt) (P:Pl) (f:ByteArray→Option (Bool×Nat)) (j:Nat) (s:St):Prop where
 q0:s.e 0=.p bid 0 0
 q2:s.e 2=.p bid 0 0
 q15:s.e 15=p.qa
 q16:s.e 16=ii P.q.items.length
 q17:s.e 17=ii j
 bi:BI hB n1 bid mid T s.h s.n p P f
structure M57 (T:Nat→Nat) (sc:List Ty) (it:It) (j m4 n1:Nat) (ty z5:AV) (s:St):Prop where
 q3:s.e 3=ii j
 q4:s.e 4=.p m4 0 0
 b4:s.h m4=some ⟨[bv it.neg,ty,ss it.var,ii it.lo,ii it.hi],0,true,5⟩
 m4:n1≤m4∧T m4=0
 q5:s.e 5=z5
 z5:rd dIs (still T s.h) z5=some (it.types.map (typeOf sc))
def tyL (sc:List Ty) (it:It) (i:Nat):List AV:=((it.types.take i).map (typeOf sc)).map ii
theorem tyL_succ {sc:List Ty} {it:It} {i:Nat} (h:i<it.types.length):tyL sc it (i+1)=tyL sc it i++[ii (typeOf sc it.types[i])]:=by
 unfold tyL
 rw[List.take_succ_eq_append_getElem h,List.map_append,List.map_append];rfl
theorem tyL_len {sc:List Ty} {it:It} {i:Nat} (h:i≤it.types.length):(tyL sc it i).length=i:=by
 simp[tyL];omega
theorem mapF:∀l:List Int,l.map ii=l.flatMap fun x=>[ii x]
 | []=>rfl
 | x::l=>by rw[List.map_cons,List.flatMap_cons,mapF l];rfl
theorem its_cell {h:Heap} {a:AV} {l:List It} (e:rd dIts h a=some l) {j:Nat} (hj:j<l.length):∃id off k ty,a=.s id k.ver off l.length∧h id=some k∧off+(j*5+5)≤k.cells.length∧rd dSs h ty=some l[j].types∧
  k.cells[off+j*5]? = some (bv l[j].neg)∧k.cells[off+(j*5+1)]? = some ty∧k.cells[off+(j*5+2)]? = some (ss l[j].var)∧k.cells[off+(j*5+3)]? = some (ii l[j].lo)∧k.cells[off+(j*5+4)]? = some (ii l[j].hi):=by
 rcases sl_at e with ⟨rfl,_⟩|⟨id,off,k,h1,h2,h3,h4⟩
 ·simp at hj
 ·obtain⟨ty,h5,h6⟩:=deItc_out (h4 j hj)
  have t0:=cell_of (c:=0) h5 rfl (by omega)
  have t1:=cell_of (c:=1) h5 rfl (by omega)
  have t2:=cell_of (c:=2) h5 rfl (by omega)
  have t3:=cell_of (c:=3) h5 rfl (by omega)
  have t4:=cell_of (c:=4) h5 rfl (by omega)
  have hm:j*5+5≤l.length*5:=by omega
  rw[Nat.add_assoc]at t1 t2 t3 t4
  exact⟨id,off,k,ty,h1,h2,by omega,h6,t0,t1,t2,t3,t4⟩
section
variable {hB:Heap} {n1 bid mid:Nat} {T:Nat→Nat} {p:Pt} {P:Pl} {f:ByteArray→Option (Bool×Nat)} {j:Nat}
theorem b57a (hsc:P.sc.length<big) (hj:j<P.q.items.length) (hjb:P.q.items.length<big) (htl:(P.q.items[j]).types.length≤1099511627776) (s:St) {Q} (J:J57 hB n1 bid mid T p P f j s) :
  awp (cx [] (pfL tp57)) (hdC 3 c57B) (thenQ (fun s=>J57 hB n1 bid mid T p P f j s∧∃m4 ty z5,M57 T P.sc P.q.items[j] j m4 n1 ty z5 s) Q) s:=by
 obtain⟨e,h0,n0⟩:=s
 obtain⟨q0,q2,q15,q16,q17,bi⟩:=J
 simp only[]at q0 q2 q15 q16 q17 bi
 obtain⟨a',b',c',e0,x1,x2,x3⟩:=deQ_out bi.s.qu
 cases e0
 obtain⟨id,off,k,ty,y1,y2,y3,y4,y5,y6,y7,y8,y9⟩:=its_cell x1 hj
 have y2':h0 id=some k:=still_le _ _ _ _ y2
 obtain⟨t1,t2,t3,t4,t5⟩:=sl_is y4
 generalize hit:P.q.items[j]=it at *
 refine awp_cut 2 _ _ (R:=fun s=>agree n0 h0 s.h∧Fresh s.n s.h∧n0≤s.n∧(∀i∈[0,2,15,16,17],s.e i=e i)∧s.e 3=ii j∧s.e 4=.p n0 0 0∧s.h n0=some ⟨[bv it.neg,ty,ss it.var,ii it.lo,ii it.hi],0,true,5⟩∧s.e 5=.v (.slice none 0 0)∧n0<s.n) ?_ ?_
 ·simp[evx,hdC,c57B,c57L,inB,bodyL,tlC,Tryz.f57,q15,q17,ii,y1,hj,y2',y3,y5,y6,y7,y8,y9,t4]
  refine⟨⟨rfl,rfl⟩,(agree_up (by omega) _).2 ((agree_up (by omega) _).2 (agree_refl _ _)),(fresh_up (by omega) _).2 ((fresh_up (by omega) _).2 (bi.s.fr.add 2))⟩
 ·rintro e1 h1 n2 ⟨ag,fr,nn,he,q3,q4,b4,q5,nn2⟩
  simp only[]at ag fr nn he q3 q4 b4 q5 nn2
  show awp (cx [] (pfL tp57)) (.seq (hdC 1 (hdC 1 (tlC 2 c57B))) (.block 2 (.loop c57M))) _ _
  simp[evx,hdC,tlC,c57B,c57L,inB,bodyL,Tryz.f57,q4,b4,t1,t2]
  refine awp_loop (fun s=>∃i,i≤it.types.length∧agree n0 h0 s.h∧Fresh s.n s.h∧n0<s.n∧(∀i∈[0,2,15,16,17],s.e i=e i)∧s.e 3=ii j∧s.e 4=.p n0 0 0∧s.h n0=some ⟨[bv it.neg,ty,ss it.var,ii it.lo,ii it.hi],0,true,5⟩∧s.e 23=ty∧s.e 24=ii it.types.length∧s.e 25=ii i∧Own s.h (n0+1) s.n (s.e 5) i (tyL P.sc it i) 1) (fun s=>it.types.length-(s.e 25).i.toNat) ⟨0,by omega,ag,fr,nn2,by simpa[up]using he,by simp[up,q3],by simp[up,q4],b4,by simp[up],by simp[up,ii],by simp[up,ii],.inl ⟨rfl,rfl,by simp[up,q5]⟩⟩ ?_
  rintro e2 h2 n3 ⟨i,hi,ag,fr,nn,he,q3,q4,b4,q23,q24,q25,ow⟩
  simp only[]at ag fr nn he q3 q4 b4 q23 q24 q25 ow
  have hsch:deSc h2 (.g [p.sa])=some P.sc:=rd_agr bi.s.fr (rd_mono (still_le _ _) bi.s.sch) _ ag
  have gty:∀z,GTy [.g [p.sa],.v (.string z)] h2=⟨P.sc.length<big,ii (typeOf P.sc z)⟩:=fun z=>by
   simp only[GTy,pureH,de2,rSc,rS,deS,hsch,Option.bind_some,Option.map_some]
  have hbb:h2 bid=some ⟨bcells p P mid,0,true,17⟩:=(ag _ (by have:=bi.s.b1;have:=bi.s.nn;omega)).trans bi.bb
  have z2:=(he 2 (by simp)).trans q2
  by_cases hlt:i<it.types.length
  ·rcases ss_at (rd_mono (still_le _ _) y4)with ⟨h0',_⟩|⟨id2,off2,k2,rfl,hk2,ho2,hat2⟩
   ·rw[h0']at hlt;simp at hlt
   have hr:=hat2 i hlt
   have hk2':=(ag id2 (lt_of hk2 bi.s.fr)).trans hk2
   have hw:=wrap_nat (j:=i) (by unfold big;omega)
   have hb17:i≤9223372036854775806:=by omega
   have hb16:(i+1)*8≤140737488355328:=by omega
   have hlo:off2+(i+1)≤k2.cells.length:=by omega
   have hts:=tyL_succ (sc:=P.sc) hlt
   have hcl:=tyL_len (sc:=P.sc) (Nat.le_of_lt hlt)
   obtain⟨z5,q5⟩:∃z,e2 5=z:=⟨_,rfl⟩
   rw[q5]at ow
   rcases ow with ⟨z0,z1,z2'⟩|⟨w,u,v1,v2,v3,v4⟩
   ·subst z2'
    simp[evx,hdC,tlC,c57M,c57B,c57L,inB,bodyL,Tryz.f57,q23,q24,q25,q5,z2,hbb,bcells,ii,ss,hlt,hk2',hr,hlo,tp57,gty,hsc,hw]
    refine⟨⟨i+1,hlt,(agree_up (by omega) _).2 ((agree_up (by omega) _).2 ag),(fresh_up (by omega) _).2 ((fresh_up (by omega) _).2 (fr.add 2)),by omega,⟨he 0 (by simp),q2.symm,he 15 (by simp),he 16 (by simp),he 17 (by simp)⟩,q3,q4,?_,?_⟩,?_⟩
    ·rw[if_neg (by omega),if_neg (by omega)];exact b4
    ·refine⟨by simp,.inr ⟨n3+1,0,by rw[z0],?_,by omega,by omega⟩⟩
     rw[up_same,hts,z1];rfl
    ·omega
   ·subst v1
    have y1:¬w=n3:=by omega
    have y11:¬n0=w:=by omega
    have y12:¬n0=n3:=by omega
    simp[evx,hdC,tlC,c57M,c57B,c57L,inB,bodyL,Tryz.f57,q23,q24,q25,q5,z2,hbb,bcells,ii,ss,hlt,hk2',hr,hlo,tp57,gty,hsc,hw,v2,y1,y11,y12,hb16,hb17,hcl]
    refine⟨⟨i+1,hlt,(agree_up (by omega) _).2 ((agree_up (by omega) _).2 ag),(fresh_up (by omega) _).2 ((fresh_up (by omega) _).2 (fr.add 2)),by omega,⟨he 0 (by simp),q2.symm,he 15 (by simp),he 16 (by simp),he 17 (by simp)⟩,q3,q4,b4,?_⟩,?_⟩
    ·refine⟨by simp,.inr ⟨w,u+1,rfl,?_,by omega,by omega⟩⟩
     rw[up_same,hts];rfl
    ·omega
  ·obtain rfl:i=it.types.length:=by omega
   simp[evx,hdC,tlC,c57M,c57B,c57L,inB,bodyL,Tryz.f57,q24,q25,ii]
   have V:Mv (fun _=>False) T h0 n0 T h2 n3:=Mv.of_agree bi.s.tn (by omega) ag fr
   refine⟨⟨by simpa[up]using (he 0 (by simp)).trans q0,by simpa[up]using z2,by simpa[up]using (he 15 (by simp)).trans q15,by simpa[up]using (he 16 (by simp)).trans q16,by simpa[up]using (he 17 (by simp)).trans q17,bi.mv V⟩,n0,ty,e2 5,⟨by simp[up,q3],by simp[up,q4],b4,⟨bi.s.nn,bi.s.tn _ (Nat.le_refl _)⟩,by simp[up],?_⟩⟩
   have hw:rd dIs (wtn (n0+1) n3 h2) (e2 5)=some (it.types.map (typeOf P.sc)):=by
    have e9:tyL P.sc it it.types.length=(it.types.map (typeOf P.sc)).map ii:=by rw[tyL,List.take_length]
    rw[e9]at ow
    rcases ow with ⟨o1,o2,o3⟩|⟨w,u,o1,o2,o3,o4⟩
    ·rw[o3,List.length_eq_zero_iff.1 o1];rfl
    ·rw[o1]
     have:=flat_in (h:=wtn (n0+1) n3 h2) Flat.int (l:=it.types.map (typeOf P.sc)) (id:=w) (ver:=u) (k:=⟨(it.types.map (typeOf P.sc)).map ii,u,true,1⟩) (by rw[wtn_at o3 o4];exact o2) rfl (r:=[]) (by rw[List.append_nil];exact mapF _)
     rwa [List.length_map]at this
   exact rd_mono (still_wtn fun i h1 h2=>bi.s.tn i (by omega)) hw
end
end
section
theorem BI.low {hB:Heap} {n1 bid mid:Nat} {T:Nat→Nat} {h:Heap} {n:Nat} {p:Pt} {P:Pl} {f:ByteArray→Option (Bool×Nat)} (b:BI hB n1 bid mid T h n p P f):bid<n∧mid<n∧bid≠mid:=by
 have h1:=b.s.b1
 have h2:=b.s.m1
 have h3:=b.s.nn
 refine⟨by omega,by omega,fun e => ?_⟩
 have t1:=b.s.tb
 have t2:=b.s.tm
 rw[e,t2]at t1
 cases t1
theorem GL.at {T:Nat→Nat} {k sz m:Nat} {h:Heap} {a:AV} {cs:List AV} (g:GL T k sz h a m cs):(a=.v (.slice none 0 0)∧m=0∧cs=[])∨∃id ver,a=.s id ver 0 m∧T id=k∧h id=some ⟨cs,ver,true,sz⟩:=by
 rcases g.2 with ⟨h1,h2⟩|h1
 ·exact .inl ⟨h1,h2,by have:=g.1;rw[h2,Nat.zero_mul]at this;exact List.length_eq_zero_iff.1 this⟩
 ·exact .inr h1
theorem Mv.four_nil {hB:Heap} {n1 bid mid k:Nat} {T:Nat→Nat} {h:Heap} {n n':Nat} {sc:List Ty} {q:Qu} {sa qa qb qc:AV} (b:BS hB n1 bid mid T h n sc q sa qa qb qc) (hk:k≠0) (M X Y B:Blk) (hn:n+3≤n') :
  Mv (fun x=>x=8∨x=k∨x=7) T h n (fun i=>if i=n+2 then k else T i) (up (up (up (up h mid (some M)) (n+1) (some X)) (n+2) (some Y)) bid (some B)) n':=by
 have l1:=b.b1
 have l2:=b.m1
 have l3:=b.nn
 have v1:Mv (fun x=>x=T mid) T h n T (up h mid (some M)) (n+1):=Mv.wr b.tn b.fr (by rw[b.tm];omega) (by omega) (by omega) M
 have v2:Mv (fun x=>x=T mid) T (up h mid (some M)) (n+1) T (up (up h mid (some M)) (n+1) (some X)) (n+2):=Mv.of_agree v1.new (by omega) ((agree_up (by omega) _).2 (agree_refl _ _)) ((fresh_up (by omega) _).2 (fun i hi=>v1.fr i (by omega)))
 have v3:Mv (fun x=>x=T mid) T (up (up h mid (some M)) (n+1) (some X)) (n+2) (fun i=>if i=n+2 then k else T i) (up (up (up h mid (some M)) (n+1) (some X)) (n+2) (some Y)) (n+3):=Mv.nw v2.new v2.fr (by omega) k Y (by omega) (by omega)
 have v4:Mv (fun x=>x=if bid=n+2 then k else T bid) (fun i=>if i=n+2 then k else T i) (up (up (up h mid (some M)) (n+1) (some X)) (n+2) (some Y)) (n+3) (fun i=>if i=n+2 then k else T i) (up (up (up (up h mid (some M)) (n+1) (some X)) (n+2) (some Y)) bid (some B)) n':=Mv.wr v3.new v3.fr (by show (if bid=n+2 then k else T bid)≠0;rw[if_neg (by omega),b.tb];omega) (by omega) hn B
 rw[if_neg (by omega),b.tb]at v4
 rw[b.tm]at v1 v2 v3
 have w1:=(v1.trans v2 (fun _ h=>h) fun _ h=>h).trans v3 (fun _ h=>h) fun _ h=>h
 exact w1.trans v4 (fun x h=>.inl h) fun x h=>.inr (.inr h)
theorem Mv.four {hB:Heap} {n1 bid mid k id:Nat} {T:Nat→Nat} {h:Heap} {n n':Nat} {sc:List Ty} {q:Qu} {sa qa qb qc:AV} (b:BS hB n1 bid mid T h n sc q sa qa qb qc) (hk:k≠0) (hid:T id=k) (hi:id<n) (M X Y B:Blk) (hn:n+3≤n') :
  Mv (fun x=>x=8∨x=k∨x=7) T h n T (up (up (up (up h mid (some M)) (n+1) (some X)) id (some Y)) bid (some B)) n':=by
 have l1:=b.b1
 have l2:=b.m1
 have l3:=b.nn
 have v1:Mv (fun x=>x=T mid) T h n T (up h mid (some M)) (n+1):=Mv.wr b.tn b.fr (by rw[b.tm];omega) (by omega) (by omega) M
 have v2:Mv (fun x=>x=T mid) T (up h mid (some M)) (n+1) T (up (up h mid (some M)) (n+1) (some X)) (n+2):=Mv.of_agree v1.new (by omega) ((agree_up (by omega) _).2 (agree_refl _ _)) ((fresh_up (by omega) _).2 (fun i hi=>v1.fr i (by omega)))
 have v3:Mv (fun x=>x=T id) T (up (up h mid (some M)) (n+1) (some X)) (n+2) T (up (up (up h mid (some M)) (n+1) (some X)) id (some Y)) (n+3):=Mv.wr v2.new v2.fr (by rw[hid];exact hk) (by omega) (by omega) Y
 have v4:Mv (fun x=>x=T bid) T (up (up (up h mid (some M)) (n+1) (some X)) id (some Y)) (n+3) T (up (up (up (up h mid (some M)) (n+1) (some X)) id (some Y)) bid (some B)) n':=Mv.wr v3.new v3.fr (by rw[b.tb];omega) (by omega) hn B
 rw[b.tb]at v4
 rw[b.tm]at v1 v2
 rw[hid]at v3
 have w1:=(v1.trans v2 (K:=fun x=>x=8) (fun _ h=>h) fun _ h=>h).trans v3 (K:=fun x=>x=8∨x=k∨x=7) (fun _ h=>.inl h) fun _ h=>.inr (.inl h)
 exact w1.trans v4 (fun x h=>h) fun x h=>.inr (.inr h)
theorem BI.ngapp {hB:Heap} {n1 bid mid:Nat} {T T':Nat→Nat} {h h':Heap} {n n':Nat} {p:Pt} {P:Pl} {f f':ByteArray→Option (Bool×Nat)} (b:BI hB n1 bid mid T h n p P f) (V:Mv (fun x=>x=8∨x=2∨x=7) T h n T' h' n') (na':AV) (x:Ng)
  (hbb:h' bid=some ⟨bcells {p with na:=na'} P mid,0,true,17⟩) (hmm:∃cs,h' mid=some ⟨cs,0,true,0⟩∧isSl f' cs) (hng:LR T' 2 6 h' na' (P.negs++[x]) (NgR T' h')):BI hB n1 bid mid T' h' n' {p with na:=na'} {P with negs:=P.negs++[x]} f' where
 s:=b.s.mv V (by omega)
 bb:=hbb
 mm:=hmm
 cm:=b.cm.mv V b.s.fr (by omega) fun i l x _ g=>g.mv V b.s.fr (by omega) (by omega)
 ng:=hng
 fx:=b.fx.mv V b.s.fr (by omega)
 us:=b.us.mv V b.s.fr (by omega)
 cl:=b.cl.mv V b.s.fr (by omega)
 rt:=b.rt.mv V b.s.fr (by omega)
theorem BI.cmapp {hB:Heap} {n1 bid mid:Nat} {T T':Nat→Nat} {h h':Heap} {n n':Nat} {p:Pt} {P:Pl} {f f':ByteArray→Option (Bool×Nat)} (b:BI hB n1 bid mid T h n p P f) (V:Mv (fun x=>x=8∨x=1∨x=7) T h n T' h' n') (ca':AV) (x:Cmp)
  (hbb:h' bid=some ⟨bcells {p with ca:=ca'} P mid,0,true,17⟩) (hmm:∃cs,h' mid=some ⟨cs,0,true,0⟩∧isSl f' cs) (hcm:LR T' 1 6 h' ca' (P.comps++[x]) (CmpR T' h')):BI hB n1 bid mid T' h' n' {p with ca:=ca'} {P with comps:=P.comps++[x]} f' where
 s:=b.s.mv V (by omega)
 bb:=hbb
 mm:=hmm
 cm:=hcm
 ng:=b.ng.mv V b.s.fr (by omega) fun i l x _ g=>g.mv V b.s.fr (by omega) (by omega)
 fx:=b.fx.mv V b.s.fr (by omega)
 us:=b.us.mv V b.s.fr (by omega)
 cl:=b.cl.mv V b.s.fr (by omega)
 rt:=b.rt.mv V b.s.fr (by omega)
section
variable {hB:Heap} {n1 bid mid:Nat} {T:Nat→Nat} {p:Pt} {P:Pl} {f:ByteArray→Option (Bool×Nat)} {j:Nat}
theorem b57n {it:It} {m4:Nat} {ty z5:AV} (hneg:it.neg=true) (hc:P.comps.length≤1099511627776) (hl:P.negs.length≤1099511627776) (s:St) {Q} (J:J57 hB n1 bid mid T p P f j s) (M:M57 T P.sc it j m4 n1 ty z5 s)
  (hQ:∀s',(∃T' p',J57 hB n1 bid mid T' p' {P with negs:=P.negs++[⟨j,it.types.map (typeOf P.sc),(P.comps.length:Int)-1,P.comps.length,[],[]⟩]} (fun z=>if z=it.var then some (true,P.negs.length)else f z) j s')→Q (.exit 1) s') :
  awp (cx [] (pfL tp57)) (tlC 3 c57B) Q s:=by
 obtain⟨e,h0,n0⟩:=s
 obtain⟨q0,q2,q15,q16,q17,bi⟩:=J
 obtain⟨q3,q4,b4,hm4,q5,hz5⟩:=M
 simp only[]at q0 q2 q15 q16 q17 bi q3 q4 b4 hm4 q5 hz5
 obtain⟨lb,lm,nbm⟩:=bi.low
 have hbb:=bi.bb
 obtain⟨mcs,hmm,hsl⟩:=bi.mm
 obtain⟨c1,c2,c3,c4,c5⟩:=bi.cm.isS
 obtain⟨d1,d2,d3,d4,d5⟩:=bi.ng.isS
 obtain⟨t1,t2,t3,t4,t5⟩:=sl_is hz5
 have nm4:m4<n0:=lt_of b4 bi.s.fr
 have x1:¬m4=mid:=by have:=bi.s.m1;omega
 have x2:¬bid=mid:=nbm
 have x3:¬mid=bid:=fun e=>nbm e.symm
 have x4:¬bid=n0+2:=by omega
 have x5:¬bid=n0+1:=by omega
 have x6:¬mid=n0+2:=by omega
 have x7:¬mid=n0+1:=by omega
 have hwr:=wrap_sm (x:=(P.comps.length:Int)-1) (by omega) (by omega)
 have hfl:∀x:Int,flatV [.v (.bool true),.v (.int .i64 x)]:=fun x=>trivial
 obtain⟨cs,gl,gR⟩:=bi.ng
 have hmok:=hsl.1
 rcases gl.at with ⟨ga,g0,rfl⟩|⟨id,ver,ga,gT,gh⟩
 ·simp[evx,hdC,tlC,c57B,c57L,inB,bodyL,Tryz.f57,q0,q2,q3,q4,q5,b4,hbb,bcells,hmm,ii,ss,bv,hneg,c1,c2,ga,t4,t5,hmok,x2,x4,x5,hwr,hfl]
  refine hQ _ ⟨fun i=>if i=n0+2 then 2 else T i,{p with na:=.s (n0+2) 0 0 1},by simp[up,q0],by simp[up,q2],by simp[up,q15],by simp[up,q16],by simp[up,q17],?_⟩
  have V:=Mv.four_nil (n':=n0+4) bi.s (k:=2) (by omega) ⟨mset it.var (.v (.agg #[.bool true,.int .i64 0])) mcs,0,true,0⟩ ⟨[ii j,z5,ii ((P.comps.length:Int)-1),ii P.comps.length,.v (.slice none 0 0),.v (.slice none 0 0)],0,true,6⟩ ⟨[ii j,z5,ii ((P.comps.length:Int)-1),ii P.comps.length,.v (.slice none 0 0),.v (.slice none 0 0)],0,true,6⟩ ⟨bcells {p with na:=.s (n0+2) 0 0 1} P mid,0,true,17⟩ (by omega)
  refine bi.ngapp V _ _ (up_same _ _ _) ⟨_,?_,g0▸isSl_set hsl it.var (true,0)⟩ ?_
  ·rw[up_ne _ _ x3,up_ne _ _ x6,up_ne _ _ x7,up_same];simp[g0]
  ·have hne:P.negs=[]:=List.length_eq_zero_iff.1 g0
   rw[hne]
   refine LR.app (xs:=[]) (cs:=[]) (ns:=[ii j,z5,ii ((P.comps.length:Int)-1),ii P.comps.length,.v (.slice none 0 0),.v (.slice none 0 0)]) (by simp) (by rfl) (if_pos rfl) (by rw[up_ne _ _ (Ne.symm x4),up_same];rfl) (fun i hi=>by simp at hi) ?_
   exact⟨z5,_,_,rfl,rd_mono (V.still bi.s.fr) hz5,LR.nil _ _ _ _ _,LR.nil _ _ _ _ _⟩
 ·have y1:¬id=n0+1:=by have:=lt_of gh bi.s.fr;omega
  have y2:¬id=mid:=fun e=>by rw[e,bi.s.tm]at gT;cases gT
  have y3:¬id=bid:=fun e=>by rw[e,bi.s.tb]at gT;cases gT
  have y4:¬bid=id:=fun e=>y3 e.symm
  have hcl:=gl.1
  simp[evx,hdC,tlC,c57B,c57L,inB,bodyL,Tryz.f57,q0,q2,q3,q4,q5,b4,hbb,bcells,hmm,ii,ss,bv,hneg,c1,c2,ga,gh,t4,t5,hmok,x2,x5,hwr,hfl,y1,y2,y4,hcl]
  refine⟨⟨by omega,by omega⟩,hQ _ ⟨T,{p with na:=.s id (ver+1) 0 (P.negs.length+1)},by simp[up,q0],by simp[up,q2],by simp[up,q15],by simp[up,q16],by simp[up,q17],?_⟩⟩
  have V:=Mv.four (n':=n0+4) bi.s (k:=2) (by omega) gT (lt_of gh bi.s.fr) ⟨mset it.var (.v (.agg #[.bool true,.int .i64 P.negs.length])) mcs,0,true,0⟩ ⟨[ii j,z5,ii ((P.comps.length:Int)-1),ii P.comps.length,.v (.slice none 0 0),.v (.slice none 0 0)],0,true,6⟩ ⟨cs++[ii j,z5,ii ((P.comps.length:Int)-1),ii P.comps.length,.v (.slice none 0 0),.v (.slice none 0 0)],ver+1,true,6⟩ ⟨bcells {p with na:=.s id (ver+1) 0 (P.negs.length+1)} P mid,0,true,17⟩ (by omega)
  refine bi.ngapp V _ _ (up_same _ _ _) ⟨_,?_,isSl_set hsl it.var (true,P.negs.length)⟩ ?_
  ·rw[up_ne _ _ x3,up_ne _ _ (Ne.symm y2),up_ne _ _ x7,up_same]
  ·refine LR.app (cs:=cs) (ns:=[ii j,z5,ii ((P.comps.length:Int)-1),ii P.comps.length,.v (.slice none 0 0),.v (.slice none 0 0)]) hcl (by rfl) gT (by rw[up_ne _ _ y3,up_same]) (fun i hi=>(gR i hi).mv V bi.s.fr (by omega) (by omega)) ?_
   exact⟨z5,_,_,rfl,rd_mono (V.still bi.s.fr) hz5,LR.nil _ _ _ _ _,LR.nil _ _ _ _ _⟩
end
end
section
section
variable {hB:Heap} {n1 bid mid:Nat} {T:Nat→Nat} {p:Pt} {P:Pl} {f:ByteArray→Option (Bool×Nat)} {j:Nat}
theorem b57c {it:It} {m4:Nat} {ty z5:AV} (hneg:it.neg=false) (hc:P.comps.length≤1099511627776) (hl:P.comps.length≤1099511627776) (s:St) {Q} (J:J57 hB n1 bid mid T p P f j s) (M:M57 T P.sc it j m4 n1 ty z5 s)
  (hQ:∀s',(∃T' p',J57 hB n1 bid mid T' p' {P with comps:=P.comps++[⟨j,it.types.map (typeOf P.sc),it.lo,it.hi,[],[]⟩]} (fun z=>if z=it.var then some (false,P.comps.length)else f z) j s')→Q .normal s') :
  awp (cx [] (pfL tp57)) (tlC 3 c57B) Q s:=by
 obtain⟨e,h0,n0⟩:=s
 obtain⟨q0,q2,q15,q16,q17,bi⟩:=J
 obtain⟨q3,q4,b4,hm4,q5,hz5⟩:=M
 simp only[]at q0 q2 q15 q16 q17 bi q3 q4 b4 hm4 q5 hz5
 obtain⟨lb,lm,nbm⟩:=bi.low
 have hbb:=bi.bb
 obtain⟨mcs,hmm,hsl⟩:=bi.mm
 obtain⟨c1,c2,c3,c4,c5⟩:=bi.cm.isS
 obtain⟨d1,d2,d3,d4,d5⟩:=bi.ng.isS
 obtain⟨t1,t2,t3,t4,t5⟩:=sl_is hz5
 have nm4:m4<n0:=lt_of b4 bi.s.fr
 have x1:¬m4=mid:=by have:=bi.s.m1;omega
 have x2:¬bid=mid:=nbm
 have x3:¬mid=bid:=fun e=>nbm e.symm
 have x4:¬bid=n0+2:=by omega
 have x5:¬bid=n0+1:=by omega
 have x6:¬mid=n0+2:=by omega
 have x7:¬mid=n0+1:=by omega
 have hwr:=wrap_sm (x:=(P.comps.length:Int)-1) (by omega) (by omega)
 have hfl:∀x:Int,flatV [.v (.bool false),.v (.int .i64 x)]:=fun x=>trivial
 obtain⟨cs,gl,gR⟩:=bi.cm
 have hmok:=hsl.1
 rcases gl.at with ⟨ga,g0,rfl⟩|⟨id,ver,ga,gT,gh⟩
 ·simp[evx,hdC,tlC,c57B,c57L,inB,bodyL,Tryz.f57,q0,q2,q3,q4,q5,b4,hbb,bcells,hmm,ii,ss,bv,hneg,ga,t4,t5,hmok,x1,x2,x4,x5,hfl]
  refine hQ _ ⟨fun i=>if i=n0+2 then 1 else T i,{p with ca:=.s (n0+2) 0 0 1},by simp[up,q0],by simp[up,q2],by simp[up,q15],by simp[up,q16],by simp[up,q17],?_⟩
  have V:=Mv.four_nil (n':=n0+4) bi.s (k:=1) (by omega) ⟨mset it.var (.v (.agg #[.bool false,.int .i64 0])) mcs,0,true,0⟩ ⟨[ii j,z5,ii it.lo,ii it.hi,.v (.slice none 0 0),.v (.slice none 0 0)],0,true,6⟩ ⟨[ii j,z5,ii it.lo,ii it.hi,.v (.slice none 0 0),.v (.slice none 0 0)],0,true,6⟩ ⟨bcells {p with ca:=.s (n0+2) 0 0 1} P mid,0,true,17⟩ (by omega)
  refine bi.cmapp V _ _ (up_same _ _ _) ⟨_,?_,g0▸isSl_set hsl it.var (false,0)⟩ ?_
  ·rw[up_ne _ _ x3,up_ne _ _ x6,up_ne _ _ x7,up_same];simp[g0]
  ·have hne:P.comps=[]:=List.length_eq_zero_iff.1 g0
   rw[hne]
   refine LR.app (xs:=[]) (cs:=[]) (ns:=[ii j,z5,ii it.lo,ii it.hi,.v (.slice none 0 0),.v (.slice none 0 0)]) (by simp) (by rfl) (if_pos rfl) (by rw[up_ne _ _ (Ne.symm x4),up_same];rfl) (fun i hi=>by simp at hi) ?_
   exact⟨z5,_,_,rfl,rd_mono (V.still bi.s.fr) hz5,LR.nil _ _ _ _ _,LR.nil _ _ _ _ _⟩
 ·have y1:¬id=n0+1:=by have:=lt_of gh bi.s.fr;omega
  have y2:¬id=mid:=fun e=>by rw[e,bi.s.tm]at gT;cases gT
  have y3:¬id=bid:=fun e=>by rw[e,bi.s.tb]at gT;cases gT
  have y4:¬bid=id:=fun e=>y3 e.symm
  have hcl:=gl.1
  simp[evx,hdC,tlC,c57B,c57L,inB,bodyL,Tryz.f57,q0,q2,q3,q4,q5,b4,hbb,bcells,hmm,ii,ss,bv,hneg,ga,gh,t4,t5,hmok,x1,x2,x5,hfl,y1,y2,y4,hcl]
  refine⟨⟨by omega,by omega⟩,hQ _ ⟨T,{p with ca:=.s id (ver+1) 0 (P.comps.length+1)},by simp[up,q0],by simp[up,q2],by simp[up,q15],by simp[up,q16],by simp[up,q17],?_⟩⟩
  have V:=Mv.four (n':=n0+4) bi.s (k:=1) (by omega) gT (lt_of gh bi.s.fr) ⟨mset it.var (.v (.agg #[.bool false,.int .i64 P.comps.length])) mcs,0,true,0⟩ ⟨[ii j,z5,ii it.lo,ii it.hi,.v (.slice none 0 0),.v (.slice none 0 0)],0,true,6⟩ ⟨cs++[ii j,z5,ii it.lo,ii it.hi,.v (.slice none 0 0),.v (.slice none 0 0)],ver+1,true,6⟩ ⟨bcells {p with ca:=.s id (ver+1) 0 (P.comps.length+1)} P mid,0,true,17⟩ (by omega)
  refine bi.cmapp V _ _ (up_same _ _ _) ⟨_,?_,isSl_set hsl it.var (false,P.comps.length)⟩ ?_
  ·rw[up_ne _ _ x3,up_ne _ _ (Ne.symm y2),up_ne _ _ x7,up_same]
  ·refine LR.app (cs:=cs) (ns:=[ii j,z5,ii it.lo,ii it.hi,.v (.slice none 0 0),.v (.slice none 0 0)]) hcl (by rfl) gT (by rw[up_ne _ _ y3,up_same]) (fun i hi=>(gR i hi).mv V bi.s.fr (by omega) (by omega)) ?_
   exact⟨z5,_,_,rfl,rd_mono (V.still bi.s.fr) hz5,LR.nil _ _ _ _ _,LR.nil _ _ _ _ _⟩
end
end
section
theorem itA_at {q:Qu} {j:Nat} (hj:j<q.items.length):itA q j=q.items[j]:=by
 simp[itA,List.getD_eq_getElem?_getD,hj]
theorem plI_neg {sc:List Ty} {q:Qu} {j:Nat} (h:(itA q j).neg=true):({plI sc q j with negs:=(plI sc q j).negs++[⟨j,(itA q j).types.map (typeOf sc),((plI sc q j).comps.length:Int)-1,(plI sc q j).comps.length,[],[]⟩]}:Pl)=plI sc q (j+1):=by
 simp only[plI,cmpsOf,ngsOf,posI_succ,negI_succ,h,if_true,List.map_append,List.map_cons,List.map_nil,List.length_map]
 rfl
theorem plI_pos {sc:List Ty} {q:Qu} {j:Nat} (h:(itA q j).neg=false):({plI sc q j with comps:=(plI sc q j).comps++[⟨j,(itA q j).types.map (typeOf sc),(itA q j).lo,(itA q j).hi,[],[]⟩]}:Pl)=plI sc q (j+1):=by
 simp only[plI,cmpsOf,ngsOf,posI_succ,negI_succ,h,Bool.false_eq_true,if_false,List.map_append,List.map_cons,List.map_nil]
 rfl
theorem plI_lens (sc:List Ty) (q:Qu) (j:Nat):(plI sc q j).comps.length=(posI q j).length∧(plI sc q j).negs.length=(negI q j).length:=by simp[plI,cmpsOf,ngsOf]
theorem slF_neg {q:Qu} {j:Nat} (h:(itA q j).neg=true):slF q (j+1)=fun z=>if z=(itA q j).var then some (true,(negI q j).length)else slF q j z:=by
 simp only[slF,h,if_true]
theorem slF_pos {q:Qu} {j:Nat} (h:(itA q j).neg=false):slF q (j+1)=fun z=>if z=(itA q j).var then some (false,(posI q j).length)else slF q j z:=by
 simp only[slF,h,Bool.false_eq_true,if_false]
section
variable {hB:Heap} {n1 bid mid:Nat} {sc:List Ty} {q:Qu}
theorem b57s (hsc:sc.length<big) (hq:q.items.length≤1099511627776) (htl:∀it∈q.items,it.types.length≤1099511627776) {T:Nat→Nat} {p:Pt} {j:Nat} (hj:j<q.items.length) (s:St) {Q} (J:J57 hB n1 bid mid T p (plI sc q j) (slF q j) j s)
  (hQ:∀s',(∃T' p',J57 hB n1 bid mid T' p' (plI sc q (j+1)) (slF q (j+1)) (j+1) s')→Q .normal s') :
  awp (cx [] (pfL tp57)) c57L Q s:=by
 have hpn:=posneg q j
 obtain⟨hlc,hln⟩:=plI_lens sc q j
 have hA:=itA_at hj
 have r15:∀s',(∃T' p',J57 hB n1 bid mid T' p' (plI sc q (j+1)) (slF q (j+1)) j s')→awp (cx [] (pfL tp57)) (tlC 3 c57L) Q s':=by
  rintro⟨e',h',n'⟩ ⟨T',p',q0,q2,q15,q16,q17,bi⟩
  simp only[]at q0 q2 q15 q16 q17 bi
  have hw:=wrap_nat (j:=j) (by unfold big;omega)
  simp[evx,tlC,c57L,bodyL,hdC,Tryz.f57,q17,ii,hw]
  exact hQ _ ⟨T',p',by simp[up,q0],by simp[up,q2],by simp[up,q15],by simp[up,q16],by simp[up,ii],bi⟩
 refine awp_cut 2 _ _ (R:=fun s=>J57 hB n1 bid mid T p (plI sc q j) (slF q j) j s) ?_ fun e2 h2 n2 J => ?_
 ·obtain⟨e,h0,n0⟩:=s
  obtain⟨q0,q2,q15,q16,q17,bi⟩:=J
  simp only[]at q0 q2 q15 q16 q17 bi
  have q16':e 16=ii q.items.length:=q16
  simp[evx,tlC,c57L,bodyL,hdC,Tryz.f57,q16',q17,ii,hj]
  exact⟨by simp[up,q0],by simp[up,q2],by simp[up,q15],by simp[up,q16],by simp[up,q17],bi⟩
 ·show awp (cx [] (pfL tp57)) (.seq (.block 1 c57B) (tlC 3 c57L)) Q _
  rw[awp_seq,awp_block]
  refine awp_cut 3 _ _ (b57a (P:=plI sc q j) hsc hj (by unfold big;show q.items.length<_;omega) (htl _ (List.getElem_mem hj)) _ J) fun e3 h3 n3 ⟨J3,m4,ty,z5,M⟩ => ?_
  have M':M57 T sc (itA q j) j m4 n1 ty z5 ⟨e3,h3,n3⟩:=by rw[hA];exact M
  cases hneg:(itA q j).neg with
  | true =>
   refine b57n (P:=plI sc q j) hneg (by omega) (by omega) _ J3 M' fun s' h => ?_
   rw[blockQ_e,if_pos rfl,thenQ_n]
   refine r15 s' ?_
   rw[←plI_neg hneg,slF_neg hneg,←hln]
   exact h
  | false =>
   refine b57c (P:=plI sc q j) hneg (by omega) (by omega) _ J3 M' fun s' h => ?_
   rw[blockQ_n,thenQ_n]
   refine r15 s' ?_
   rw[←plI_pos hneg,slF_pos hneg,←hlc]
   exact h
end
end
section
theorem BI.ends {hB:Heap} {n1 bid mid:Nat} {T T':Nat→Nat} {h h':Heap} {n n':Nat} {p:Pt} {P:Pl} {f:ByteArray→Option (Bool×Nat)} (b:BI hB n1 bid mid T h n p P f) (V:Mv (fun x=>x=7) T h n T' h' n') (l t:Bool)
  (hbb:h' bid=some ⟨bcells p {P with lead:=l,tail:=t} mid,0,true,17⟩):BI hB n1 bid mid T' h' n' p {P with lead:=l,tail:=t} f where
 s:=b.s.mv V (by omega)
 bb:=hbb
 mm:=by
  obtain⟨cs,h1,h2⟩:=b.mm
  have:=b.s.m1
  have:=b.s.nn
  exact⟨cs,by rw[V.keep _ (by omega) (by rw[b.s.tm];omega)];exact h1,h2⟩
 cm:=b.cm.mv V b.s.fr (by omega) fun i l x _ g=>g.mv V b.s.fr (by omega) (by omega)
 ng:=b.ng.mv V b.s.fr (by omega) fun i l x _ g=>g.mv V b.s.fr (by omega) (by omega)
 fx:=b.fx.mv V b.s.fr (by omega)
 us:=b.us.mv V b.s.fr (by omega)
 cl:=b.cl.mv V b.s.fr (by omega)
 rt:=b.rt.mv V b.s.fr (by omega)
section
variable {hB:Heap} {n1 bid mid:Nat} {sc:List Ty} {q:Qu}
def plJ (sc:List Ty) (q:Qu):Pl:={plI sc q q.items.length with lead:=(itA q 0).neg,tail:=(itA q (q.items.length-1)).neg}
theorem b57 (hsc:sc.length<big) (h0:0<q.items.length) (hq:q.items.length≤1099511627776) (htl:∀it∈q.items,it.types.length≤1099511627776) {T:Nat→Nat} {p:Pt} {h:Heap} {n:Nat} (b:BI hB n1 bid mid T h n p (plI sc q 0) (slF q 0)) :
  ACall (cx [] (pfL tp57)) 57 [.p bid 0 0] h n fun z h' n'=>∃T' p',BI hB n1 bid mid T' h' n' p' (plJ sc q) (slF q q.items.length):=by
 refine acall_of_awp (args:=[.p bid 0 0]) (pfL_ok (tb_cons P112 tb_nil)) (mixed _ _) Tryz.func57 (c:=Tryz.f57.body.getD .skip) rfl (by kernel_rfl) (callable Tryz.func57 rfl rfl _ _) (show 1≤Tryz.f57.ntmps by decide +kernel) ?_
 refine awp_cut 1 _ _ (R:=fun s=>s.e 0=.p bid 0 0∧s.e 2=.p bid 0 0∧s.h=h∧s.n=n) ?_ fun e1 h1 n2 ⟨q0,q2,r1,r2⟩ => ?_
 ·simp[evx,hdC,Tryz.f57,env0]
 simp only[]at q0 q2 r1 r2
 subst r1
 subst r2
 refine awp_cut 1 _ _ (R:=fun s=>∃T' p',J57 hB n1 bid mid T' p' (plI sc q q.items.length) (slF q q.items.length) q.items.length s) ?_ fun e3 h3 n3 ⟨T3,p3,J⟩ => ?_
 ·show awp (cx [] (pfL tp57)) (.seq (hdC 1 (hdC 1 (tlC 1 (Tryz.f57.body.getD .skip)))) (.block 0 (.loop c57L))) _ _
  obtain⟨a',b',c',e0,x1,x2,x3⟩:=deQ_out b.s.qu
  cases e0
  obtain⟨t1,t2,t3,t4,t5⟩:=sl_is x1
  have x1':p.qa.slen=q.items.length:=t2
  simp[evx,hdC,tlC,Tryz.f57,q2,b.bb,bcells,t1,x1']
  refine awp_loop (fun s=>∃j T p,j≤q.items.length∧J57 hB n1 bid mid T p (plI sc q j) (slF q j) j s) (fun s=>q.items.length-(s.e 17).i.toNat) ⟨0,T,p,by omega,by simp[up,q0],by simp[up,q2],by simp[up],by simp[up,ii];rfl,by simp[up,ii],b⟩ ?_
  rintro e' h' n' ⟨j,T',p',hj,J⟩
  by_cases hlt:j<q.items.length
  ·have k1:=J.q17
   simp only[]at k1
   refine b57s hsc hq htl hlt _ J fun s' ⟨T'',p'',J'⟩ => ?_
   rw[thenQ_n]
   refine⟨⟨j+1,T'',p'',hlt,J'⟩,?_⟩
   show q.items.length-(s'.e 17).i.toNat<q.items.length-(e' 17).i.toNat
   rw[k1,J'.q17]
   simp[ii,AV.i]
   omega
  ·obtain rfl:j=q.items.length:=by omega
   obtain⟨q0,q2,q15,q16,q17,bi⟩:=J
   simp only[]at q0 q2 q15 q16 q17 bi
   have q16':e' 16=ii q.items.length:=q16
   simp[evx,hdC,tlC,c57L,bodyL,Tryz.f57,q16',q17,ii]
   exact⟨T',p',by simp[up,q0],by simp[up,q2],by simp[up,q15],by simp[up,q16],by simp[up,q17],bi⟩
 ·obtain⟨q0,q2,q15,q16,q17,bi⟩:=J
  simp only[]at q0 q2 q15 q16 q17 bi
  obtain⟨a',b',c',e0,x1,x2,x3⟩:=deQ_out bi.s.qu
  cases e0
  have x1':rd dIts (still T3 h3) p3.qa=some q.items:=x1
  obtain⟨id,off,k,ty,y1,y2,y3,y4,y5,_⟩:=its_cell x1' h0
  obtain⟨id2,off2,k2,ty2,u1,u2,u3,u4,u5,_⟩:=its_cell x1' (j:=q.items.length-1) (by omega)
  rw[y1]at u1
  simp only[AV.s.injEq]at u1
  obtain⟨rfl,_,rfl,_⟩:=u1
  rw[y2]at u2
  cases u2
  have hid:¬bid=id:=fun e=>by
   have:=still_le _ _ _ _ y2
   unfold still at y2
   split at y2
   ·rename_i h9;rw[←e,bi.s.tb]at h9;cases h9
   ·cases y2
  have hid':¬id=bid:=fun e=>hid e.symm
  have y2':h3 id=some k:=still_le _ _ _ _ y2
  have z1:(0:Nat)<q.items.length:=h0
  have hw:IntKind.i64.wrap ((q.items.length-1:Nat):Int)=((q.items.length-1:Nat):Int):=wrap_sm (by omega) (by omega)
  have hl2:((q.items.length-1:Nat):Int)<(q.items.length:Int):=by omega
  have hl3:off+((q.items.length-1)*5+1)≤k.cells.length:=by omega
  have hl4:off+1≤k.cells.length:=by omega
  have hcast:((q.items.length:Int)-1)=((q.items.length-1:Nat):Int):=by omega
  simp only[Nat.zero_mul,Nat.add_zero,Nat.zero_add]at y5 y3
  simp[evx,tlC,Tryz.f57,q2,bi.bb,bcells,y1,y2',y5,hid',z1,hw,ii,ss,bv,hcast,u5,hl2,hl3,hl4]
  rw[upup]
  refine⟨T3,p3,?_⟩
  have hlow:=bi.low
  have V:=Mv.wr (n':=n3+2) bi.s.tn bi.s.fr (id:=bid) (by rw[bi.s.tb];omega) hlow.1 (by omega) ⟨[p3.sa,.s id k.ver off q.items.length,ii q.mode,ii q.after,p3.qb,ii q.within,ss q.par,p3.qc,p3.ca,p3.na,p3.fa,p3.ua,p3.la,p3.ra,bv q.items[0].neg,bv (q.items[q.items.length-1]'(by omega)).neg,.mv mid 0],0,true,17⟩
  rw[bi.s.tb]at V
  have hA:=bi.ends V q.items[0].neg (q.items[q.items.length-1]'(by omega)).neg (by rw[up_same,bcells,y1];rfl)
  rw[plJ,itA_at h0,itA_at (j:=q.items.length-1) (by omega)]
  exact hA
end
end
section
theorem Mv.three_nil {hB:Heap} {n1 bid mid k:Nat} {T:Nat→Nat} {h:Heap} {n n':Nat} {sc:List Ty} {q:Qu} {sa qa qb qc:AV} (b:BS hB n1 bid mid T h n sc q sa qa qb qc) (hk:k≠0) (X Y B:Blk) (hn:n+2≤n') :
  Mv (fun x=>x=k∨x=7) T h n (fun i=>if i=n+1 then k else T i) (up (up (up h n (some X)) (n+1) (some Y)) bid (some B)) n':=by
 have l1:=b.b1
 have l3:=b.nn
 have v2:Mv (fun x=>x=k) T h n T (up h n (some X)) (n+1):=Mv.of_agree b.tn (by omega) ((agree_up (by omega) _).2 (agree_refl _ _)) ((fresh_up (by omega) _).2 (fun i hi=>b.fr i (by omega)))
 have v3:Mv (fun x=>x=k) T (up h n (some X)) (n+1) (fun i=>if i=n+1 then k else T i) (up (up h n (some X)) (n+1) (some Y)) (n+2):=Mv.nw v2.new v2.fr (by omega) k Y (by omega) (by omega)
 have v4:Mv (fun x=>x=if bid=n+1 then k else T bid) (fun i=>if i=n+1 then k else T i) (up (up h n (some X)) (n+1) (some Y)) (n+2) (fun i=>if i=n+1 then k else T i) (up (up (up h n (some X)) (n+1) (some Y)) bid (some B)) n':=Mv.wr v3.new v3.fr (by show (if bid=n+1 then k else T bid)≠0;rw[if_neg (by omega),b.tb];omega) (by omega) hn B
 rw[if_neg (by omega),b.tb]at v4
 exact (v2.trans v3 (K:=fun x=>x=k) (fun _ h=>h) fun _ h=>h).trans v4 (fun x h=>.inl h) fun x h=>.inr h
theorem Mv.three {hB:Heap} {n1 bid mid k id:Nat} {T:Nat→Nat} {h:Heap} {n n':Nat} {sc:List Ty} {q:Qu} {sa qa qb qc:AV} (b:BS hB n1 bid mid T h n sc q sa qa qb qc) (hk:k≠0) (hid:T id=k) (hi:id<n) (X Y B:Blk) (hn:n+2≤n') :
  Mv (fun x=>x=k∨x=7) T h n T (up (up (up h n (some X)) id (some Y)) bid (some B)) n':=by
 have l1:=b.b1
 have l3:=b.nn
 have v2:Mv (fun x=>x=k) T h n T (up h n (some X)) (n+1):=Mv.of_agree b.tn (by omega) ((agree_up (by omega) _).2 (agree_refl _ _)) ((fresh_up (by omega) _).2 (fun i hi=>b.fr i (by omega)))
 have v3:Mv (fun x=>x=T id) T (up h n (some X)) (n+1) T (up (up h n (some X)) id (some Y)) (n+2):=Mv.wr v2.new v2.fr (by rw[hid];exact hk) (by omega) (by omega) Y
 have v4:Mv (fun x=>x=T bid) T (up (up h n (some X)) id (some Y)) (n+2) T (up (up (up h n (some X)) id (some Y)) bid (some B)) n':=Mv.wr v3.new v3.fr (by rw[b.tb];omega) (by omega) hn B
 rw[b.tb]at v4
 rw[hid]at v3
 exact (v2.trans v3 (K:=fun x=>x=k) (fun _ h=>h) fun _ h=>h).trans v4 (fun x h=>.inl h) fun x h=>.inr h
section
variable {hB:Heap} {n1 bid mid:Nat} {T T':Nat→Nat} {h h':Heap} {n n':Nat} {p:Pt} {P:Pl} {f:ByteArray→Option (Bool×Nat)}
theorem BI.mm' {K:Nat→Prop} (b:BI hB n1 bid mid T h n p P f) (V:Mv K T h n T' h' n') (hK:¬K 8):∃cs,h' mid=some ⟨cs,0,true,0⟩∧isSl f cs:=by
 obtain⟨cs,h1,h2⟩:=b.mm
 have:=b.s.m1
 have:=b.s.nn
 exact⟨cs,by rw[V.keep _ (by omega) (by rw[b.s.tm];exact fun h=>hK h.2)];exact h1,h2⟩
theorem BI.usapp (b:BI hB n1 bid mid T h n p P f) (V:Mv (fun x=>x=4∨x=7) T h n T' h' n') (ua':AV) (x:Bool) (hbb:h' bid=some ⟨bcells {p with ua:=ua'} P mid,0,true,17⟩) (hl:LL De.bool 1 T' 4 h' ua' (P.used++[x])):BI hB n1 bid mid T' h' n' {p with ua:=ua'} {P with used:=P.used++[x]} f where
 s:=b.s.mv V (by omega)
 bb:=hbb
 mm:=b.mm' V (by omega)
 cm:=b.cm.mv V b.s.fr (by omega) fun i l x _ g=>g.mv V b.s.fr (by omega) (by omega)
 ng:=b.ng.mv V b.s.fr (by omega) fun i l x _ g=>g.mv V b.s.fr (by omega) (by omega)
 fx:=b.fx.mv V b.s.fr (by omega)
 us:=hl
 cl:=b.cl.mv V b.s.fr (by omega)
 rt:=b.rt.mv V b.s.fr (by omega)
theorem BI.clapp (b:BI hB n1 bid mid T h n p P f) (V:Mv (fun x=>x=5∨x=7) T h n T' h' n') (la':AV) (x:Int) (hbb:h' bid=some ⟨bcells {p with la:=la'} P mid,0,true,17⟩) (hl:LL (De.int .i64) 1 T' 5 h' la' (P.cols++[x])):BI hB n1 bid mid T' h' n' {p with la:=la'} {P with cols:=P.cols++[x]} f where
 s:=b.s.mv V (by omega)
 bb:=hbb
 mm:=b.mm' V (by omega)
 cm:=b.cm.mv V b.s.fr (by omega) fun i l x _ g=>g.mv V b.s.fr (by omega) (by omega)
 ng:=b.ng.mv V b.s.fr (by omega) fun i l x _ g=>g.mv V b.s.fr (by omega) (by omega)
 fx:=b.fx.mv V b.s.fr (by omega)
 us:=b.us.mv V b.s.fr (by omega)
 cl:=hl
 rt:=b.rt.mv V b.s.fr (by omega)
theorem BI.fxapp (b:BI hB n1 bid mid T h n p P f) (V:Mv (fun x=>x=3∨x=7) T h n T' h' n') (fa':AV) (x:Pr) (hbb:h' bid=some ⟨bcells {p with fa:=fa'} P mid,0,true,17⟩) (hl:LL dPrg 2 T' 3 h' fa' (P.fixed++[x])):BI hB n1 bid mid T' h' n' {p with fa:=fa'} {P with fixed:=P.fixed++[x]} f where
 s:=b.s.mv V (by omega)
 bb:=hbb
 mm:=b.mm' V (by omega)
 cm:=b.cm.mv V b.s.fr (by omega) fun i l x _ g=>g.mv V b.s.fr (by omega) (by omega)
 ng:=b.ng.mv V b.s.fr (by omega) fun i l x _ g=>g.mv V b.s.fr (by omega) (by omega)
 fx:=hl
 us:=b.us.mv V b.s.fr (by omega)
 cl:=b.cl.mv V b.s.fr (by omega)
 rt:=b.rt.mv V b.s.fr (by omega)
theorem BI.rtapp (b:BI hB n1 bid mid T h n p P f) (V:Mv (fun x=>x=6∨x=7) T h n T' h' n') (ra':AV) (x:Pr) (hbb:h' bid=some ⟨bcells {p with ra:=ra'} P mid,0,true,17⟩) (hl:LL dPrg 2 T' 6 h' ra' (P.ret++[x])):BI hB n1 bid mid T' h' n' {p with ra:=ra'} {P with ret:=P.ret++[x]} f where
 s:=b.s.mv V (by omega)
 bb:=hbb
 mm:=b.mm' V (by omega)
 cm:=b.cm.mv V b.s.fr (by omega) fun i l x _ g=>g.mv V b.s.fr (by omega) (by omega)
 ng:=b.ng.mv V b.s.fr (by omega) fun i l x _ g=>g.mv V b.s.fr (by omega) (by omega)
 fx:=b.fx.mv V b.s.fr (by omega)
 us:=b.us.mv V b.s.fr (by omega)
 cl:=b.cl.mv V b.s.fr (by omega)
 rt:=hl
end
end
end Go.Proofs.YtbffkkeieihpdaaGreatDoor
