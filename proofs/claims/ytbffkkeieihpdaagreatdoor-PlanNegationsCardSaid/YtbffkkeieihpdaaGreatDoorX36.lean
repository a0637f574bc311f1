import Derived.Test.YtbffkkeieihpdaaGreatDoorX35
import Derived.Test.YtbffkkeieihpdaaGreatDoorX34
set_option linter.unusedSimpArgs false
set_option linter.unusedVariables false
set_option linter.constructorNameAsVariable false
set_option maxRecDepth 100000
set_option maxHeartbeats 4000000
namespace Go.Proofs.YtbffkkeieihpdaaGreatDoor
open Go Go.Eng
section
def okRes (x:Qu×Ask):Prop:=okAsk x.2∧QuSm x.1∧(∀i,i<x.1.ret.length→tree1 (x.1.ret.getD i [])=true)∧x.2.2.1=x.1
def GRes:=pureH (de2 rQ rAsk) okRes fun x=>ff (retF x.2.1 x.1)
def tbRes:List (FuncId×(List AV→Heap→PRes)):=[(154,GWalk),(156,G44)]
theorem sls_getD {α:Type} {sz:Nat} {d:De α} {h:Heap} {a:AV} {l:List (List α)} (e:rd (De.sl 1 (De.sl sz d)) h a=some l) {i:Nat} (hi:i<l.length):∃id off k c,a=.s id k.ver off l.length∧h id=some k∧off+l.length≤k.cells.length∧k.cells[off+i]? = some c∧rd (De.sl sz d) h c=some (l.getD i []):=by
 rcases sls_at e with ⟨h0,_⟩|⟨id,off,k,h1,h2,h3,h4⟩
 ·rw[h0]at hi;simp at hi
 ·obtain⟨c,h5,h6⟩:=h4 i hi
  have hg:l.getD i []=l[i]:=by rw[List.getD_eq_getElem?_getD,List.getElem?_eq_getElem hi];rfl
  exact⟨id,off,k,c,h1,h2,h3,h5,by rw[hg];exact h6⟩
section
theorem P106:P0 [] 106 GRes:=by
 refine mkH 2 (S:=[]) (l:=tbRes) (tb_cons P154 (tb_cons P44 tb_nil)) Tryz.func106 rfl (by kernel_rfl) de2_mono de2_len (fun a=>rfl) (fun args q h n e hp hn => ?_)
 obtain⟨x,fv,rfl,e1,e2⟩:=de2_out e
 obtain⟨q,sc,q',cs⟩:=q
 obtain⟨hak,hq,hrt,hqq⟩:=hp
 simp only[]at e1 e2 hak hq hrt hqq ⊢
 subst hqq
 replace e1:deQ h x=some q':=e1
 obtain⟨a,b,c,rfl,x2,x3,x4⟩:=deQ_out e1
 have o1:=(sl_is x2).2.2.2.1
 have o2:=(sl_is x3).2.2.2.1
 obtain⟨s1,s2,s3,s4,s5⟩:=sl_is x4
 have gf:=rAsk.agree hn e2
 obtain⟨p1,p2,p3,rfl,f1,f2,f3⟩:=rAsk_out e2
 have hrl:=hq.rl
 have key:∀e:Nat→AV,e 0=.g [a,ii q'.mode,ii q'.after,b,ii q'.within,ss q'.par,c]→e 1=.f (.func 102) [] [p1,p2,p3]→awp (cx [] (pfL tbRes)) (Tryz.f106.body.getD .skip) (finQ (cx [] (pfL tbRes)) Tryz.f106 fun z _ _=>z=ff (retF sc q')) ⟨e,roH h,n⟩:=fun e q0 q1=>by
  by_cases h8:8<q'.ret.length
  ·have hF:retF sc q'=⟨78,5,8,0⟩:=by unfold retF;rw[if_pos h8]
   have h8':(8:Int)<q'.ret.length:=by omega
   simp[evx,Tryz.f106,q0,q1,ii,ss,s1,s2,s4,o1,o2,h8',hF,ff,fcells]
  ·have h8':¬(8:Int)<q'.ret.length:=by omega
   simp[evx,Tryz.f106,q0,q1,ii,ss,s1,s2,s4,o1,o2,h8']
   refine awp_loop (fun s=>∃j:Nat,j≤q'.ret.length∧s.e 3=.p (n+1) 0 0∧s.e 4=.p (n+2) 0 0∧s.e 15=c∧s.e 16=ii q'.ret.length∧s.e 17=ii j∧agree n (roH h) s.h∧s.h (n+1)=some ⟨[.f (.func 102) [] [p1,p2,p3]],0,true,1⟩∧s.h (n+2)=some ⟨[ii 0,ii 0,ii 0,ii 0],0,true,4⟩∧∀i,i<j→retE sc q' i=0) (fun s=>q'.ret.length-(s.e 17).i.toNat) ⟨0,by simp[up,ii,agree_up,agree_refl]⟩ ?_
   rintro e' h' n' ⟨j,hj,q3,q4,q15,q16,q17,hag,b1,b2,hno⟩
   simp only[]at q3 q4 q15 q16 q17 hag b1 b2
   by_cases hlt:j<q'.ret.length
   ·obtain⟨id,off,k,c',rfl,hk,ho,hc',hcr⟩:=sls_getD x4 hlt
    have ha':=agree_at hn hk hag
    have hw:=wrap_nat (j:=j) (by omega)
    have hw1:off+(j+1)≤k.cells.length:=by omega
    have hsm:=hq.rt j hlt
    have ht:=hrt j hlt
    have hmiss:=fun hy=>upTo_succ (p:=fun i=>retE sc q' i=0) hno hy
    have hhit:=fun hy:retE sc q' j≠0=>fstI_at (f:=retE sc q') hno hy hlt
    have hE:retE sc q' j=(wlkR sc q' (q'.ret.getD j [])).2:=rfl
    have hRF:retF sc q'=if (fstI (retE sc q') q'.ret.length).2≠0 then ⟨(fstI (retE sc q') q'.ret.length).2,5,(fstI (retE sc q') q'.ret.length).1,(wlkR sc q' (q'.ret.getD (fstI (retE sc q') q'.ret.length).1.toNat [])).1⟩else fl0:=by unfold retF;rw[if_neg h8]
    have gr:rd dNs h' c'=some (q'.ret.getD j []):=rd_agree hn hcr _ hag
    have u1:=(sl_is hcr).1
    have u2:=(sl_is hcr).2.1
    have u3:=(sl_is hcr).2.2.1
    have hfn:rFn.run h' (.f (.func 158) [] [.p (n+1) 0 0])=some (true,sc,q',cs):=by
     simp only[rFn,rAt,rC,b1,Option.bind_some,if_true,gf _ hag,Option.map_some]
    have hWR:wlkR sc q' (q'.ret.getD j [])=if (wlk sc q' (q'.ret.getD j []) true).2=0∧truthT (q'.ret.getD j [])=true then (((q'.ret.getD j []).length:Int)-1,75)else wlk sc q' (q'.ret.getD j []) true:=rfl
    generalize htg:q'.ret.getD j []=t at *
    have hpos:0<t.length:=(tre_of ht).pos
    have hsm':t.length*64≤140737488355328:=hsm
    obtain⟨m,hm⟩:∃m,t.length=m+1:=⟨t.length-1,by omega⟩
    have hwm:=wrapm1 (e:=m) (by unfold big;omega)
    have hwm':IntKind.i64.wrap ((t.length:Int)-1)=(t.length:Int)-1:=by rw[hm,hwm];omega
    have hok:okWalk (t,true,sc,q',cs):=⟨hsm,ht,hak⟩
    obtain⟨⟨wi,we⟩,hwk⟩:∃x,wlk sc q' t true=x:=⟨_,rfl⟩
    rw[hwk]at hWR
    simp only[]at hWR
    simp only[ii]at b2
    by_cases hwe:we=0
    ·subst hwe
     cases htr:truthT t with
     | false =>
      rw[htr,if_neg (by simp)]at hWR
      rw[hWR]at hE
      have h3:=hmiss hE
      simp[evx,q3,q4,q15,q16,q17,ii,bv,hlt,ha',hc',hw1,b1,b2,u3,tbRes,GWalk,pureH,de2,rL,gr,hfn,hok,walkA,hwk,G44,deT,hsm,hpos,htr,hw]
      exact⟨⟨j+1,by omega,by omega,hag,h3⟩,by omega⟩
     | true =>
      rw[htr,if_pos ⟨rfl,rfl⟩]at hWR
      rw[hWR]at hE
      have h3:=hhit (by rw[hE];simp)
      rw[h3,if_pos (by rw[hE];simp)]at hRF
      simp only[Int.toNat_natCast,htg,hWR]at hRF
      simp[evx,q3,q4,q15,q16,q17,ii,bv,hlt,ha',hc',hw1,b2,u1,u2,u3,tbRes,GWalk,pureH,de2,rL,gr,hfn,hok,walkA,hwk,G44,deT,hsm,hpos,htr,hRF,ff,fcells,hwm',hE]
    ·rw[if_neg (fun h=>hwe h.1)]at hWR
     rw[hWR]at hE
     have h3:=hhit (by rw[hE];exact hwe)
     rw[h3,if_pos (by rw[hE];exact hwe)]at hRF
     simp only[Int.toNat_natCast,htg,hWR]at hRF
     simp[evx,q3,q4,q15,q16,q17,ii,hlt,ha',hc',hw1,b2,u3,tbRes,GWalk,pureH,de2,rL,gr,hfn,hok,walkA,hwk,hwe,hRF,ff,fcells,hE]
   ·obtain rfl:j=q'.ret.length:=by omega
    have hF:retF sc q'=fl0:=by unfold retF;rw[if_neg h8,fstI_none hno];rfl
    simp only[ii]at b2
    simp[evx,q4,q16,q17,ii,b2,hF,ff,fcells,fl0]
 exact key _ rfl rfl
def GChk:=pureH (de2 rSc rQ) okCh fun q=>ff (chk q.1 q.2)
def tbChk:List (FuncId×(List AV→Heap→PRes)):=[(99,GSch),(100,GShQ),(101,GIts),(104,GWh),(105,GPart),(106,GRes)]
variable {sc:List Ty} {q:Qu} {h:Heap} {n:Nat} {x a b c:AV}
structure I54 (h:Heap) (n:Nat) (x a b c:AV) (q:Qu) (s:St):Prop where
 q2:s.e 2=.p n 0 0
 q3:s.e 3=.p (n+1) 0 0
 q4:s.e 4=.p (n+2) 0 0
 ag:agree n (roH h) s.h
 b0:s.h n=some ⟨[x],0,true,1⟩
 b1:s.h (n+1)=some ⟨[a,ii q.mode,ii q.after,b,ii q.within,ss q.par,c],0,true,7⟩
 b2:s.h (n+2)=some ⟨[ii 0,ii 0,ii 0,ii 0],0,true,4⟩
 nn:n+3≤s.n
 fr:Fresh s.n s.h
structure J54 (h:Heap) (n:Nat) (x a b c:AV) (q:Qu) (cs:List AV) (s:St):Prop extends I54 h n x a b c q s where
 ask:∃m w,s.e 8=.f (.func 102) [] [.p n 0 0,.p (n+1) 0 0,.p w 0 0]∧s.h w=some ⟨[.mv m 0],0,true,1⟩∧s.h m=some ⟨cs,0,true,0⟩∧n+3≤w∧n+3≤m∧w<s.n∧m<s.n
 isM:isM (ixM (vars q.items)) cs
theorem J54.run {cs:List AV} {s:St} (j:J54 h n x a b c q cs s) (hn:∀i,n≤i→h i=none) (e1:deSc h (.g [x])=some sc) (e2:deQ h (.g [a,ii q.mode,ii q.after,b,ii q.within,ss q.par,c])=some q):rAsk.run s.h (s.e 8)=some (sc,q,cs):=by
 obtain⟨m,w,k1,k2,k3,_⟩:=j.ask
 have g1:=sc_agree hn e1 _ j.ag
 have g2:=q_agree hn e2 _ j.ag
 rw[k1]
 simp only[rAsk,de3,rAt,rC,j.b0,j.b1,k2,rM,k3,if_true,Option.bind_some,rSc,rQ,g1,g2,Option.map_some]
theorem f54b (e1:deSc h (.g [x])=some sc) (e2:deQ h (.g [a,ii q.mode,ii q.after,b,ii q.within,ss q.par,c])=some q) (hn:∀i,n≤i→h i=none) (hsc:smallS sc) (hq:QuSm q) (s:St) (i:I54 h n x a b c q s) {Q:Ex→St→Prop} :
  awp (cx [3] (pfL tbChk)) (hdC 2 (tlC 4 (Tryz.f54.body.getD .skip))) (thenQ (fun s=>∃cs,J54 h n x a b c q cs s) Q) s:=by
 obtain⟨e',h',n'⟩:=s
 obtain⟨q2,q3,q4,hag,b0,b1,b2,hnn,hfr⟩:=i
 simp only[ii,ss]at q2 q3 q4 hag b0 b1 b2 hnn hfr
 have g2:=q_agree hn e2 _ hag
 obtain⟨a',b',c',hx,x2,x3,x4⟩:=deQ_out e2
 cases hx
 have o1:=(sl_is x2).2.2.1
 have o2:=(sl_is x3).2.2.1
 have o3:=(sl_is x4).2.2.1
 simp[evx,hdC,tlC,Tryz.f54,q2,q3,b1,tbChk]
 simp only[ii,ss]at g2
 refine (acall_any (S:=[]) (by simp) (c84 g2 hq.it hfr)).mono ?_
 rintro z h2 n2 ⟨a1,a2,a3,m,cs,rfl,hm,hM,hm1,hm2⟩
 simp[evx]
 have z:∀i b1 b2,i<n2→up (up h2 n2 b1) n2 b2 i=h2 i:=fun i b1 b2 hi=>by rw[up_ne _ _ (by omega),up_ne _ _ (by omega)]
 refine⟨cs,⟨⟨by simp[up,q2],by simp[up,q3],by simp[up,q4],fun i hi => ?_,?_,?_,?_,?_,?_⟩,⟨m,n2,by simp[up],by simp[up],?_,by omega,by omega,show n2<n2+2 by omega,show m<n2+2 by omega⟩,hM⟩⟩
 ·simp only[];rw[z _ _ _ (by omega),a1 i (by omega)];exact hag i hi
 ·simp only[];rw[z _ _ _ (by omega),a1 n (by omega)];exact b0
 ·simp only[];rw[z _ _ _ (by omega),a1 _ (by omega)];simpa[ii,ss]using b1
 ·simp only[];rw[z _ _ _ (by omega),a1 _ (by omega)];simpa[ii]using b2
 ·show n+3≤n2+2;omega
 ·show Fresh (n2+2) _;exact (fresh_up (by omega) _).2 ((fresh_up (by omega) _).2 (a2.add 2))
 ·simp only[];rw[z _ _ _ (by omega)];exact hm
theorem P54:P0 [3] 54 GChk:=by
 refine mkH 2 (S:=[3]) (l:=tbChk) (tb_cons P99 (tb_cons P100 (tb_cons P101 (tb_cons P104 (tb_cons P105 (tb_cons P106 tb_nil)))))) Tryz.func54 rfl (by kernel_rfl) de2_mono de2_len (fun a=>rfl) (fun args q h n e hp hn => ?_)
 obtain⟨x,y,rfl,e1,e2⟩:=de2_out e
 obtain⟨sc,q⟩:=q
 obtain⟨hsc,hq⟩:=hp
 simp only[]at e1 e2 hsc hq ⊢
 replace e1:deSc h x=some sc:=e1
 replace e2:deQ h y=some q:=e2
 have g1:=sc_agree hn e1
 have g2:=q_agree hn e2
 obtain⟨x,rfl,ex⟩:=deSc_out e1
 have t3:=(sl_is ex).2.2.1
 have t4:=(sl_is ex).2.2.2.1
 obtain⟨a,b,c,rfl,x2,x3,x4⟩:=deQ_out e2
 have o1:=(sl_is x2).2.2.1
 have o2:=(sl_is x3).2.2.1
 have o3:=(sl_is x4).2.2.1
 have p1:=(sl_is x2).2.2.2.1
 have p2:=(sl_is x3).2.2.2.1
 have p3:=(sl_is x4).2.2.2.1
 have hok:okCh (sc,q):=⟨hsc,hq⟩
 have hcd:chk sc q=if schF sc≠0 then ⟨schF sc,0,0,0⟩else if shQ q=false then ⟨50,0,0,0⟩else if (itsF sc q).code≠0 then itsF sc q else if (whF sc q).code≠0 then whF sc q else
  if 1099511627776<q.within then ⟨66,2,0,0⟩else if emB q.par=false∧partB sc q=false then ⟨67,3,0,0⟩else retF sc q:=rfl
 have gq0:=g2
 simp only[ii,ss]at g2
 have hag3:∀b0 b1 b2,agree n (roH h) (up (up (up (roH h) n b0) (n+1) b1) (n+2) b2):=fun b0 b1 b2=>by simp[agree_up,agree_refl]
 have hagf:∀h' b0 b1 b2,h'=up (up (up (roH h) n b0) (n+1) b1) (n+2) b2→agree n (roH h) h':=fun h' b0 b1 b2 e=>by rw[e];exact hag3 _ _ _
 have key:∀e:Nat→AV,e 0=.g [x]→e 1=.g [a,ii q.mode,ii q.after,b,ii q.within,ss q.par,c]→awp (cx [3] (pfL tbChk)) (Tryz.f54.body.getD .skip) (finQ (cx [3] (pfL tbChk)) Tryz.f54 fun z _ _=>z=ff (chk sc q)) ⟨e,roH h,n⟩:=fun e q0 q1=>by
  by_cases h1:schF sc=0
  ·rw[if_neg (not_not_intro h1)]at hcd
   cases h2:shQ q with
   | false =>
    rw[h2,if_pos rfl]at hcd
    simp[evx,Tryz.f54,q0,q1,ii,ss,bv,t4,p1,p2,p3,tbChk,GSch,GShQ,pureH,de1,rSc,rQ,g1,g2,hag3,hsc,hq,h1,h2,hcd,ff,fcells]
   | true =>
    rw[h2,if_neg (by simp)]at hcd
    by_cases h3:(itsF sc q).code=0
    ·rw[if_neg (not_not_intro h3)]at hcd
     refine awp_cut 4 _ _ (R:=I54 h n x a b c q) ?_ fun y1 h1' n1 i1 => ?_
     ·simp[evx,hdC,Tryz.f54,q0,q1,ii,ss,bv,t4,p1,p2,p3,tbChk,GSch,GShQ,GIts,pureH,de1,de2,rSc,rQ,g1,g2,hag3,hsc,hq,hok,h1,h2,h3,ff,fcells]
      exact⟨by simp[up],by simp[up],by simp[up],by simp[agree_up,agree_refl],by simp[up],by simp[up,ii,ss],by simp[up,ii],by simp,fun i hi=>by simp only[]at hi;simp only[];rw[up_ne _ _ (by omega),up_ne _ _ (by omega),up_ne _ _ (by omega),up_ne _ _ (by omega),up_ne _ _ (by omega)];simp[roH,hn i (by omega)]⟩
     refine awp_cut 2 _ _ (f54b e1 e2 hn hsc hq _ i1) fun y2 h2' n2 ⟨cs,j⟩ => ?_
     have hask:=j.run hn e1 e2
     obtain⟨⟨q2,q3,q4,hag,b0,b1,b2,hnn,hfr⟩,⟨m,w,q8,hw,hm,hw3,hm3,hwn,hmn⟩,hM⟩:=j
     simp only[ii,ss]at q2 q3 q4 hag b0 b1 b2 hnn hfr q8 hw hm hask
     rw[q8]at hask
     have gs:=g1 _ hag
     have gq:=g2 _ hag
     have hak:okAsk (sc,q,cs):=⟨hsc,hq,hM⟩
     obtain⟨_,h10,_,_⟩:=itsF_ok h3
     have hsh:=h2
     simp only[shQ,Bool.and_eq_true,Bool.or_eq_true,decide_eq_true_eq]at hsh
     have hwt:q.wh.length=0∨tree1 q.wh=true:=hsh.1.1.2
     have hrt:∀i,i<q.ret.length→tree1 (q.ret.getD i [])=true:=(all_getD []).1 hsh.2
     have hokw:okWh (q,sc,q,cs):=⟨hak,hq,h10,hwt,rfl⟩
     have hokr:okRes (q,sc,q,cs):=⟨hak,hq,hrt,rfl⟩
     have y0:¬n=n2:=by omega
     have y1':¬n+1=n2:=by omega
     have y2':¬n+2=n2:=by omega
     have y3':¬n2=n+2:=by omega
     by_cases h4:(whF sc q).code=0
     ·rw[if_neg (not_not_intro h4)]at hcd
      have hag2:∀b1 b2,agree n (roH h) (up (up h2' n2 b1) n2 b2):=fun b1 b2=>by simp[agree_up,show n≤n2 by omega,hag]
      have hask2:∀bb1 bb2,rAsk.run (up (up h2' n2 bb1) n2 bb2) (.f (.func 102) [] [.p n 0 0,.p (n+1) 0 0,.p w 0 0])=some (sc,q,cs):=fun bb1 bb2=>by
       have z:∀i,i<n2→up (up h2' n2 bb1) n2 bb2 i=h2' i:=fun i hi=>by rw[up_ne _ _ (by omega),up_ne _ _ (by omega)]
       have gs2:=g1 _ (hag2 bb1 bb2)
       have gq2:=g2 _ (hag2 bb1 bb2)
       simp only[rAsk,de3,rAt,rC,z n (by omega),z (n+1) (by omega),z w hwn,z m hmn,b0,b1,hw,rM,hm,if_true,Option.bind_some,rSc,rQ,gs2,gq2,Option.map_some]
      by_cases h5:1099511627776<q.within
      ·rw[if_pos h5]at hcd
       simp[evx,tlC,Tryz.f54,q3,q4,q8,b1,b2,ii,tbChk,GWh,pureH,de2,rQ,gq,hask,hokw,ff,fcells,y1',y2',h4,h5,hcd]
      ·rw[if_neg h5]at hcd
       have hem2:(q.par != ByteArray.mk #[]) = !emB q.par:=rfl
       cases h6:emB q.par with
       | true =>
        rw[h6,if_neg (by simp)]at hcd
        simp[evx,tlC,Tryz.f54,q2,q3,q4,q8,b0,b1,b2,ii,bv,tbChk,GWh,GPart,GRes,pureH,de2,rSc,rQ,gq,hask,hask2,g1,g2,hag2,hokw,hokr,hok,ff,fcells,y0,y1',y2',h4,h5,hem2,h6,hcd]
       | false =>
        cases h7:partB sc q with
        | true =>
         rw[h7,if_neg (by simp)]at hcd
         simp[evx,tlC,Tryz.f54,q2,q3,q4,q8,b0,b1,b2,ii,bv,tbChk,GWh,GPart,GRes,pureH,de2,rSc,rQ,gq,hask,hask2,g1,g2,hag2,hokw,hokr,hok,ff,fcells,y0,y1',y2',h4,h5,hem2,h6,h7,hcd]
        | false =>
         rw[h6,h7,if_pos ⟨rfl,rfl⟩]at hcd
         simp[evx,tlC,Tryz.f54,q2,q3,q4,q8,b0,b1,b2,ii,bv,tbChk,GWh,GPart,GRes,pureH,de2,rSc,rQ,gq,hask,g1,g2,hag2,hokw,hok,ff,fcells,y0,y1',y2',h4,h5,hem2,h6,h7,hcd]
     ·rw[if_pos h4]at hcd
      simp[evx,tlC,Tryz.f54,q3,q4,q8,b1,b2,ii,tbChk,GWh,pureH,de2,rQ,gq,hask,hokw,ff,fcells,y2',h4,hcd]
    ·rw[if_pos h3]at hcd
     simp[evx,Tryz.f54,q0,q1,ii,ss,bv,t4,p1,p2,p3,tbChk,GSch,GShQ,GIts,pureH,de1,de2,rSc,rQ,g1,g2,hag3,hsc,hq,hok,h1,h2,h3,hcd,ff,fcells]
  ·rw[if_pos h1]at hcd
   simp[evx,Tryz.f54,q0,q1,ii,ss,t4,p1,p2,p3,tbChk,GSch,pureH,de1,rSc,g1,hag3,hsc,h1,hcd,ff,fcells]
 exact key _ rfl rfl
end
end
section
def tp17:List (FuncId×(List AV→Heap→PRes)):=[(54,GChk)]
def nilA:AV:=.v (.slice none 0 0)
def zpl:List AV:=[nilA,nilA,ii 0,ii 0,nilA,ii 0,ss ByteArray.empty,nilA,nilA,nilA,nilA,nilA,nilA,nilA,bv false,bv false]
def qcells (q:Qu) (qa qb qc:AV):List AV:=[qa,ii q.mode,ii q.after,qb,ii q.within,ss q.par,qc]
def Q17 (h:Heap) (n:Nat) (sc:List Ty) (q:Qu) (z:AV) (h':Heap) (n':Nat):Prop :=
 agree n h h'∧Fresh n' h'∧n≤n'∧(((chk sc q).code≠0∧z=.t [.g zpl,ff (chk sc q)])∨((chk sc q).code=0∧∃p,z=.t [.g (pcells p (planOf sc q)),ff fl0]∧PlR h' p (planOf sc q)))
structure A17 (h:Heap) (n:Nat) (q:Qu) (sa qa qb qc:AV) (s:St):Prop where
 q2:s.e 2=.p n 0 0
 q3:s.e 3=.p (n+1) 0 0
 q4:s.e 4=.p (n+2) 0 0
 q5:s.e 5=.p (n+3) 0 0
 b2:s.h n=some ⟨[sa],0,true,1⟩
 b3:s.h (n+1)=some ⟨qcells q qa qb qc,0,true,7⟩
 b4:s.h (n+2)=some ⟨zpl,0,true,16⟩
 b5:s.h (n+3)=some ⟨fcells fl0,0,true,4⟩
 ag:agree n h s.h
 fr:Fresh s.n s.h
 nn:n+4≤s.n
theorem ldcs_16 (X:Ctx) (h:Heap) (a:AV):ldcs X h a 0 16=[ldc X h a 0,ldc X h a 1,ldc X h a 2,ldc X h a 3,ldc X h a 4,ldc X h a 5,ldc X h a 6,ldc X h a 7,ldc X h a 8,ldc X h a 9,ldc X h a 10,ldc X h a 11,ldc X h a 12,ldc X h a 13,ldc X h a 14,ldc X h a 15]:=rfl
section
variable {h:Heap} {n:Nat} {sc:List Ty} {q:Qu} {sa qa qb qc:AV}
theorem b17a (e1:rd dTys h sa=some sc) (e2:deQ h (.g (qcells q qa qb qc))=some q) (hok:okCh (sc,q)) (hn:Fresh n h) (e:Nat→AV) (q0:e 0=.g [sa]) (q1:e 1=.g (qcells q qa qb qc)) :
  awp (cz [3] (pfL tp17)) (hdC 2 (Tryz.f17.body.getD .skip)) (thenQ (fun s=>A17 h n q sa qa qb qc s∧(chk sc q).code=0) (finQ (cz [3] (pfL tp17)) Tryz.f17 (Q17 h n sc q))) ⟨e,h,n⟩:=by
 obtain⟨a',b',c',e0,x1,x2,x3⟩:=deQ_out e2
 cases e0
 have o1:=(sl_is e1).2.2.2.1
 have o2:=(sl_is x1).2.2.2.1
 have o3:=(sl_is x2).2.2.2.1
 have o4:=(sl_is x3).2.2.2.1
 have g1:∀h',agree n h h'→deSc h' (.g [sa])=some sc:=fun h' ha=>rd_agr hn e1 h' ha
 have g2:∀h',agree n h h'→deQ h' (.g [qa,.v (.int .i64 q.mode),.v (.int .i64 q.after),qb,.v (.int .i64 q.within),.v (.string q.par),qc])=some q:=fun h' ha=>deQ_has (rd_agr hn x1 h' ha) (rd_agr hn x2 h' ha) (rd_agr hn x3 h' ha)
 obtain⟨F,hF⟩:∃F,F=chk sc q:=⟨_,rfl⟩
 by_cases hc:F.code=0
 ·have hz:=(wf_of (sc:=sc) (q:=q) (by rw[←hF];exact hc)).1
  rw[hz]at hF
  subst hF
  simp[evz,hdC,Tryz.f17,q0,q1,qcells,ii,ss,o1,o2,o3,o4,tp17,GChk,pureH,de2,rSc,rQ,g1,g2,agree_up,agree_refl,hok,hz,ff,fcells,fl0]
  exact⟨by simp[up],by simp[up],by simp[up],by simp[up],by simp[up],by simp[up,qcells,ii,ss],by simp[up,zpl,nilA,ii,ss,bv],by simp[up,fcells,fl0,ii],by simp[agree_up,agree_refl],by simp[fresh_up,hn.add],by simp⟩
 ·have hcc:¬(chk sc q).code=0:=by rw[←hF];exact hc
  simp[evz,hdC,Tryz.f17,q0,q1,qcells,ii,ss,o1,o2,o3,o4,tp17,GChk,pureH,de2,rSc,rQ,g1,g2,agree_up,agree_refl,hok,←hF,ff,fcells,hc,ldcs_16]
  refine⟨fun _=>keepL_up rfl fun t ht => ?_,last_no (by kernel_rfl),?_,?_,by omega,.inl ⟨hcc,?_⟩⟩
  ·simp[ldSlots]at ht
   subst ht
   exact⟨n+4,0,0,by simp[up],by omega⟩
  ·simp[agree_up,agree_refl]
  ·simp[fresh_up,hn.add]
  ·rw[←hF]
   simp[zpl,nilA,ii,ss,bv,ff,fcells]
end
end
section
structure B17 (h:Heap) (n:Nat) (q:Qu) (sa qa qb qc:AV) (hB:Heap) (n1 bid mid:Nat) (e:Nat→AV):Prop where
 q2:e 2=.p n 0 0
 q3:e 3=.p (n+1) 0 0
 q4:e 4=.p (n+2) 0 0
 q5:e 5=.p (n+3) 0 0
 q7:e 7=.p bid 0 0
 b2:hB n=some ⟨[sa],0,true,1⟩
 b3:hB (n+1)=some ⟨qcells q qa qb qc,0,true,7⟩
 b4:hB (n+2)=some ⟨zpl,0,true,16⟩
 b5:hB (n+3)=some ⟨fcells fl0,0,true,4⟩
 ag:agree n h hB
 n1:n+4≤n1
 bi:n+4≤bid
 mi:n+4≤mid
theorem B17.up {h:Heap} {n:Nat} {q:Qu} {sa qa qb qc:AV} {hB:Heap} {n1 bid mid:Nat} {e e':Nat→AV} (a:B17 h n q sa qa qb qc hB n1 bid mid e) (he:∀i∈[2,3,4,5,7],e' i=e i):B17 h n q sa qa qb qc hB n1 bid mid e' :=
 ⟨(he 2 (by simp)).trans a.q2,(he 3 (by simp)).trans a.q3,(he 4 (by simp)).trans a.q4,(he 5 (by simp)).trans a.q5,(he 7 (by simp)).trans a.q7,a.b2,a.b3,a.b4,a.b5,a.ag,a.n1,a.bi,a.mi⟩
def tg0 (n1 bid mid:Nat) (i:Nat):Nat:=if i=bid then 7 else if i=mid then 8 else if i<n1 then 9 else 0
section
variable {h:Heap} {n:Nat} {sc:List Ty} {q:Qu} {sa qa qb qc:AV}
theorem b17b (W:Wf sc q) (hwh:smallT q.wh) (hrt:∀t∈q.ret,smallT t) (e1:rd dTys h sa=some sc) (e2:deQ h (.g (qcells q qa qb qc))=some q) (hn:Fresh n h) (e:Nat→AV) (h1:Heap) (n2:Nat) (a:A17 h n q sa qa qb qc ⟨e,h1,n2⟩) {Q} :
  awp (cz [3] (pfL tp17)) (hdC 2 (tlC 2 (Tryz.f17.body.getD .skip))) (thenQ (fun s=>∃hB n1 bid mid T p,B17 h n q sa qa qb qc hB n1 bid mid s.e∧BI hB n1 bid mid T s.h s.n p (plI sc q 0) (slF q 0)) Q) ⟨e,h1,n2⟩:=by
 obtain⟨w1,w2,w3,w4,w5⟩:=W.short
 obtain⟨q2,q3,q4,q5,b2,b3,b4,b5,ag,fr,nn⟩:=a
 simp only[]at q2 q3 q4 q5 b2 b3 b4 b5 ag fr nn
 obtain⟨a',b',c',e0,x1,x2,x3⟩:=deQ_out e2
 cases e0
 have o1:=(sl_is e1).2.2.2.1
 have o2:=(sl_is x1).2.2.2.1
 have o3:=(sl_is x2).2.2.2.1
 have o4:=(sl_is x3).2.2.2.1
 have z1:¬n=n2:=by omega
 have z2:¬n=n2+1:=by omega
 have z3:¬n+1=n2:=by omega
 have z4:¬n=n2:=by omega
 have hb3:h1 (n+1)=some ⟨[qa,.v (.int .i64 q.mode),.v (.int .i64 q.after),qb,.v (.int .i64 q.within),.v (.string q.par),qc],0,true,7⟩:=b3
 refine awp_cut 1 _ _ (R:=fun s=>B17 h n q sa qa qb qc s.h (n2+2) (n2+1) n2 s.e∧s.h=up (up h1 n2 (some ⟨[],0,true,0⟩)) (n2+1) (some ⟨zpl++[.mv n2 0],0,true,17⟩)∧s.n=n2+2) ?_ fun e3 h3 n3 ⟨B,hh,hnn⟩ => ?_
 ·simp[evz,hdC,tlC,Tryz.f17,zpl,nilA,ii,ss,bv]
  have g:∀b1 b2:Option Blk,∀i,i<n2→up (up h1 n2 b1) (n2+1) b2 i=h1 i:=fun b1 b2 i hi=>by rw[up_ne _ _ (by omega),up_ne _ _ (by omega)]
  exact⟨by simp[up,q2],by simp[up,q3],by simp[up,q4],by simp[up,q5],by simp[up],(g _ _ _ (by omega)).trans b2,(g _ _ _ (by omega)).trans b3,(g _ _ _ (by omega)).trans b4,(g _ _ _ (by omega)).trans b5,(agree_up (by omega) _).2 ((agree_up (by omega) _).2 ag),by omega,by omega,by omega⟩
 ·simp only[]at B hh hnn
  obtain⟨q2,q3,q4,q5,q7,c2,c3,c4,c5,ag3,_,_,_⟩:=B
  have fr3:Fresh n3 h3:=by rw[hnn,hh];exact (fresh_up (by omega) _).2 ((fresh_up (by omega) _).2 (fr.add 2))
  have g1:∀h',agree n h h'→deSc h' (.g [sa])=some sc:=fun h' ha=>rd_agr hn e1 h' ha
  have g2:∀h',agree n h h'→deQ h' (.g [qa,.v (.int .i64 q.mode),.v (.int .i64 q.after),qb,.v (.int .i64 q.within),.v (.string q.par),qc])=some q:=fun h' ha=>deQ_has (rd_agr hn x1 h' ha) (rd_agr hn x2 h' ha) (rd_agr hn x3 h' ha)
  have hbid:h3 (n2+1)=some ⟨zpl++[.mv n2 0],0,true,17⟩:=by rw[hh,up_same]
  have hmid:h3 n2=some ⟨[],0,true,0⟩:=by rw[hh,up_ne _ _ (by omega),up_same]
  have c3':h3 (n+1)=some ⟨[qa,.v (.int .i64 q.mode),.v (.int .i64 q.after),qb,.v (.int .i64 q.within),.v (.string q.par),qc],0,true,7⟩:=c3
  simp[evz,hdC,tlC,Tryz.f17,q2,q3,q7,c2,c3']
  refine (acall_z (S:=[]) (fun _ h=>by cases h) (b55 (g1 _ ag3) (by omega) (fun t ht=>by have:=w3 t ht;omega) fr3)).mono ?_
  rintro v h4 n4 ⟨a1,a2,a3,v1⟩
  obtain⟨sa',rfl,v2⟩:=deSc_out v1
  refine⟨keep_le (agr_le fr3 a1),?_⟩
  have ag4:=agree_trans ag3 a1 (by omega)
  refine (acall_z (S:=[]) (fun _ h=>by cases h) (b56 (g2 _ ag4) (by have:=W.n1;omega) (by unfold smallT at hwh;omega) (by have:=W.r1;omega) (fun t ht=>by have:=w5 t ht;omega) (fun t ht=>by have:=hrt t ht;unfold smallT at this;omega) a2)).mono ?_
  rintro v h5 n5 ⟨d1,d2,d3,v3⟩
  refine⟨keep_le (agr_le a2 d1),?_⟩
  obtain⟨qa',qb',qc',rfl,y1,y2,y3⟩:=deQ_out v3
  have s1:=sl_is v2
  have s2:=sl_is y1
  have s3:=sl_is y2
  have s4:=sl_is y3
  have hbid5:h5 (n2+1)=some ⟨zpl++[.mv n2 0],0,true,17⟩:=((d1 _ (by omega)).trans (a1 _ (by omega))).trans hbid
  simp[evz,hbid5,zpl,nilA,ii,ss,bv,s1,s2,s3,s4]
  refine⟨fun _=>keepL_up rfl fun t ht => ?_,last_no (by kernel_rfl),h3,n3,n2+1,n2,?_,tg0 n3 (n2+1) n2,⟨sa',qa',qb',qc',nilA,nilA,nilA,nilA,nilA,nilA⟩,?_⟩
  ·simp[ldSlots]at ht
   rcases ht with rfl|rfl
   ·exact⟨n,0,0,by simp[up,q2],by omega⟩
   ·exact⟨n+1,0,0,by simp[up,q3],by omega⟩
  ·exact⟨by simp[up,q2],by simp[up,q3],by simp[up,q4],by simp[up,q5],by simp[up,q7],c2,c3,c4,c5,ag3,by omega,by omega,by omega⟩
  ·rw[upup]
   generalize hB2:(⟨[sa',qa',.v (.int .i64 q.mode),.v (.int .i64 q.after),qb',.v (.int .i64 q.within),.v (.string q.par),qc',.v (.slice none 0 0),.v (.slice none 0 0),.v (.slice none 0 0),.v (.slice none 0 0),.v (.slice none 0 0),.v (.slice none 0 0),.v (.bool false),.v (.bool false),.mv n2 0],0,true,17⟩:Blk)=B2
   have hk:∀i,i≠n2+1→up h5 (n2+1) (some B2) i=h5 i:=fun i hi=>up_ne _ _ hi
   have ht:∀i,n3≤i→tg0 n3 (n2+1) n2 i=0:=fun i hi=>by simp only[tg0];rw[if_neg (by omega),if_neg (by omega),if_neg (by omega)]
   have hst:∀hi,(wtn n3 hi (up h5 (n2+1) (some B2))).le (still (tg0 n3 (n2+1) n2) (up h5 (n2+1) (some B2))):=fun hi=>still_wtn fun i h1 h2=>ht i h1
   refine⟨⟨?_,?_,if_pos rfl,by simp[tg0],by omega,by omega,fun i h1 h2 h3=>by simp only[tg0];rw[if_neg h2,if_neg h3,if_pos h1],fun i h1 h2 h3 => ?_,by omega,?_,fun i hi=>ht i (by omega)⟩,?_,⟨[],?_,isSl_nil⟩,LR.nil _ _ _ _ _,LR.nil _ _ _ _ _,LR.nil _ _ _ _ _,LR.nil _ _ _ _ _,LR.nil _ _ _ _ _,LR.nil _ _ _ _ _⟩
   ·exact rd_mono (hst n4) (wtn_rd v2 (Nat.le_refl _) (Nat.le_refl _) fun i h1 h2=>(hk i (by omega)).trans (d1 i h2))
   ·refine deQ_in (q:=q) ?_ ?_ ?_
    ·exact rd_mono (hst n5) (wtn_rd y1 (by omega) (Nat.le_refl _) fun i h1 h2=>hk i (by omega))
    ·exact rd_mono (hst n5) (wtn_rd y2 (by omega) (Nat.le_refl _) fun i h1 h2=>hk i (by omega))
    ·exact rd_mono (hst n5) (wtn_rd y3 (by omega) (Nat.le_refl _) fun i h1 h2=>hk i (by omega))
   ·rw[hk i h2,d1 i (by omega),a1 i h1]
   ·exact (fresh_up (by omega) _).2 (d2.add 2)
   ·rw[up_same,←hB2];rfl
   ·rw[hk _ (by omega),d1 _ (by omega),a1 _ (by omega)];exact hmid
end
end
section
theorem BI.low2 {hB:Heap} {n1 bid mid:Nat} {T:Nat→Nat} {h0:Heap} {n0:Nat} {h:Heap} {n:Nat} {q:Qu} {sa qa qb qc:AV} {p:Pt} {P:Pl} {f:ByteArray→Option (Bool×Nat)} {e:Nat→AV} (b:BI hB n1 bid mid T h n p P f) (a:B17 h0 n0 q sa qa qb qc hB n1 bid mid e):(∀i,i<n0+4→h i=hB i)∧agree n0 h0 h:=by
 have k:∀i,i<n0+4→h i=hB i:=fun i hi=>b.s.kp i (by have:=a.n1;omega) (by have:=a.bi;omega) (by have:=a.mi;omega)
 exact⟨k,fun i hi=>(k i (by omega)).trans (a.ag i hi)⟩
noncomputable def c17L:Code:=bodyL (hdC 1 (tlC 6 (Tryz.f17.body.getD .skip)))
structure C17 (h:Heap) (n:Nat) (sc:List Ty) (q:Qu) (sa qa qb qc:AV) (hB:Heap) (n1 bid mid:Nat) (T:Nat→Nat) (p:Pt) (j:Nat) (z:AV) (s:St):Prop where
 b:B17 h n q sa qa qb qc hB n1 bid mid s.e
 q41:s.e 41=z
 z41:rd dIs (still T s.h) z=some ((rootsQ q.wh).map fun x:Nat=>(x:Int))
 q42:s.e 42=ii (rootsQ q.wh).length
 q43:s.e 43=ii j
 bi:BI hB n1 bid mid T s.h s.n p (plC sc q ((conjs q).take j)) (slF q q.items.length)
section
variable {h:Heap} {n:Nat} {sc:List Ty} {q:Qu} {sa qa qb qc:AV} {hB:Heap} {n1 bid mid:Nat}
theorem b17c (W:Wf sc q) (e:Nat→AV) (h1:Heap) (n2:Nat) (a:B17 h n q sa qa qb qc hB n1 bid mid e) {T:Nat→Nat} {p:Pt} (b:BI hB n1 bid mid T h1 n2 p (plI sc q 0) (slF q 0)) {Q} :
  awp (cz [3] (pfL tp17)) (hdC 2 (tlC 4 (Tryz.f17.body.getD .skip))) (thenQ (fun s=>B17 h n q sa qa qb qc hB n1 bid mid s.e∧∃T p,BI hB n1 bid mid T s.h s.n p (plT sc q sc.length) (slF q q.items.length)) Q) ⟨e,h1,n2⟩:=by
 obtain⟨w1,w2,w3,w4,w5⟩:=W.short
 have w6:=W.n1
 have q7:=a.q7
 simp[evz,hdC,tlC,Tryz.f17,q7]
 refine (acall_z (S:=[]) (fun _ h=>by cases h) (b57 (by unfold big;omega) w4 (by omega) (fun t ht=>by have:=w5 t ht;omega) b)).mono ?_
 rintro v h2 n3 ⟨T2,p2,b2⟩
 refine (acall_z (S:=[]) (fun _ h=>by cases h) (b58 ⟨by unfold big;omega,fun t ht=>by have:=w3 t ht;unfold big;omega⟩ (by omega) ⟨by unfold big;omega,fun t ht=>by have:=w5 t ht;unfold big;omega⟩ b2)).mono ?_
 rintro v h3 n4 ⟨T3,p3,b3⟩
 exact⟨a.up (by simp[up]),T3,p3,b3⟩
theorem b17d (hwh:smallT q.wh) (e3:rd dNs h qb=some q.wh) (hn:Fresh n h) (e:Nat→AV) (h1:Heap) (n2:Nat) (a:B17 h n q sa qa qb qc hB n1 bid mid e) {T:Nat→Nat} {p:Pt} (b:BI hB n1 bid mid T h1 n2 p (plT sc q sc.length) (slF q q.items.length)) {Q} :
  awp (cz [3] (pfL tp17)) (hdC 1 (hdC 1 (tlC 6 (Tryz.f17.body.getD .skip)))) (thenQ (fun s=>∃T p z,C17 h n sc q sa qa qb qc hB n1 bid mid T p 0 z s) Q) ⟨e,h1,n2⟩:=by
 obtain⟨lo,ag⟩:=b.low2 a
 have q3:=a.q3
 have hb3:h1 (n+1)=some ⟨[qa,.v (.int .i64 q.mode),.v (.int .i64 q.after),qb,.v (.int .i64 q.within),.v (.string q.par),qc],0,true,7⟩:=(lo _ (by omega)).trans a.b3
 obtain⟨t1,t2,t3,t4,t5⟩:=sl_is e3
 simp[evz,hdC,tlC,Tryz.f17,q3,hb3]
 refine (acall_z (S:=[3]) (fun _ h=>h) (c35 (rd_agr hn e3 _ ag) hwh b.s.fr)).mono ?_
 rintro z h2 n3 ⟨a1,a2,a3,a4⟩
 obtain⟨s1,s2,s3,s4,s5⟩:=sl_is a4
 rw[List.length_map]at s2
 simp[s1,s2]
 have V:Mv (fun _=>False) T h1 n2 T h2 n3:=Mv.of_agree b.s.tn a3 a1 a2
 refine⟨T,p,z,⟨a.up (by simp[up]),by simp[up],rd_mono (still_wtn fun i h1 h2=>b.s.tn i h1) a4,by simp[up,ii],by simp[up,ii],?_⟩⟩
 rw[List.take_zero,plC_nil]
 exact b.mv V
end
end
section
theorem B17.e7 {h:Heap} {n:Nat} {q:Qu} {sa qa qb qc:AV} {hB:Heap} {n1 bid mid:Nat} {e:Nat→AV} (a:B17 h n q sa qa qb qc hB n1 bid mid e):e 7=.p bid 0 0:=a.q7
section
variable {h:Heap} {n:Nat} {sc:List Ty} {q:Qu} {sa qa qb qc:AV} {hB:Heap} {n1 bid mid:Nat}
theorem b17e (W:Wf sc q) (hwh:smallT q.wh) (e3:rd dNs h qb=some q.wh) (hn:Fresh n h) {T:Nat→Nat} {p:Pt} {j:Nat} {z:AV} (hj:j<(rootsQ q.wh).length) (e:Nat→AV) (h1:Heap) (n2:Nat) (a:C17 h n sc q sa qa qb qc hB n1 bid mid T p j z ⟨e,h1,n2⟩) {Q}
  (hQ:∀s',(∃T' p',C17 h n sc q sa qa qb qc hB n1 bid mid T' p' (j+1) z s')→Q .normal s') :
  awp (cz [3] (pfL tp17)) c17L Q ⟨e,h1,n2⟩:=by
 obtain⟨w1,w2,w3,w4,w5⟩:=W.short
 obtain⟨B,q41,z41,q42,q43,bi⟩:=a
 simp only[]at B q41 z41 q42 q43 bi
 obtain⟨lo,ag⟩:=bi.low2 B
 have q3:=B.q3
 have q7:=B.q7
 have hb3:h1 (n+1)=some ⟨[qa,.v (.int .i64 q.mode),.v (.int .i64 q.after),qb,.v (.int .i64 q.within),.v (.string q.par),qc],0,true,7⟩:=(lo _ (by omega)).trans B.b3
 have fr:=bi.s.fr
 obtain⟨hi1,hi2⟩:=roots_lt (List.getElem_mem hj)
 have hcj:(conjs q).take (j+1)=(conjs q).take j++[subT q.wh (rootsQ q.wh)[j]]:=by
  have hjc:j<(conjs q).length:=by rw[conjs_roots,List.length_map];exact hj
  rw[List.take_succ_eq_append_getElem hjc]
  congr 2
  simp only[conjs_roots,List.getElem_map]
 have hsub:=sub_small hi1 hi2 hwh
 have hrl:=roots_len hwh
 have hll:((conjs q).take j).length≤1099511627776:=by rw[List.length_take];omega
 rcases is_at z41 with ⟨h0,_⟩|⟨id,off,k,rfl,hk,ho,hat⟩
 ·rw[List.map_eq_nil_iff]at h0;rw[h0]at hj;simp at hj
 rw[List.length_map]at ho
 have hr:=hat j (by rw[List.length_map];exact hj)
 simp only[List.getElem_map]at hr
 have hk':h1 id=some k:=still_le _ _ _ _ hk
 have hw1:off+(j+1)≤k.cells.length:=by omega
 have hw2:off+j<k.cells.length:=by omega
 have hr':∀hx,k.cells[off+j]'hx=ii (rootsQ q.wh)[j]:=fun hx=>by rw[List.getElem?_eq_getElem hx]at hr;exact Option.some.inj hr
 have hw:=wrap_nat (j:=j) (by unfold big;omega)
 rw[List.length_map]at q41
 generalize hrr:(rootsQ q.wh)[j]=r at *
 simp[evz,c17L,bodyL,hdC,tlC,Tryz.f17,q3,q7,q41,q42,q43,hb3,hk',hr',hw1,hw2,hj,ii]
 refine (acall_z (S:=[3]) (fun _ h=>h) (c52 (rd_agr hn e3 _ ag) hi1 hwh hi2 fr)).mono ?_
 rintro v h2 n3 ⟨a1,a2,a3,w,rfl,a4,a5,a6⟩
 have V:Mv (fun _=>False) T h1 n2 T h2 n3:=Mv.of_agree bi.s.tn a3 a1 a2
 have et:rd dNs (still T h2) (.s w 0 0 (subT q.wh r).length)=some (subT q.wh r):=flat_in Flat.nd (l:=subT q.wh r) (by rw[still_at (bi.s.tn w a5)];exact a4) rfl (r:=[]) (by rw[List.append_nil])
 have hx:∀i,i<q.items.length→ixOf (vars q.items) (itA q i).var=i:=fun i hi=>W.ix hi
 refine (acall_zz (S:=[3]) (fun _ h=>h) (b59 hx W.n1 hll hsub (by omega) ⟨by unfold big;omega,fun t ht=>by have:=w3 t ht;unfold big;omega⟩ (bi.mv V) et)).mono ?_
 rintro v h3 n4 ⟨T',p',b',V'⟩
 rw[←hcj]at b'
 simp[hw]
 refine hQ _ ⟨T',p',B.up (by simp[up]),by simp only[List.length_map];simp[up,q41],rd_mono (Heap.le_trans (V.still fr) (V'.still a2)) z41,by simp[up,q42],by simp[up,ii],b'⟩
end
end
section
noncomputable def c17M:Code:=bodyL (hdC 1 (tlC 7 (Tryz.f17.body.getD .skip)))
def plR (sc:List Ty) (q:Qu) (j:Nat):Pl:={plC sc q (conjs q)with ret:=(q.ret.take j).map (compP sc (vars q.items))}
structure D17 (h:Heap) (n:Nat) (sc:List Ty) (q:Qu) (sa qa qb qc:AV) (hB:Heap) (n1 bid mid:Nat) (T:Nat→Nat) (p:Pt) (j:Nat) (s:St):Prop where
 b:B17 h n q sa qa qb qc hB n1 bid mid s.e
 q55:s.e 55=qc
 q56:s.e 56=ii q.ret.length
 q57:s.e 57=ii j
 bi:BI hB n1 bid mid T s.h s.n p (plR sc q j) (slF q q.items.length)
section
variable {h:Heap} {n:Nat} {sc:List Ty} {q:Qu} {sa qa qb qc:AV} {hB:Heap} {n1 bid mid:Nat}
theorem b17f (W:Wf sc q) (hrt:∀t∈q.ret,smallT t) (e1:rd dTys h sa=some sc) (e2:deQ h (.g (qcells q qa qb qc))=some q) (hn:Fresh n h) {T:Nat→Nat} {p:Pt} {j:Nat} (hj:j<q.ret.length) (e:Nat→AV) (h1:Heap) (n2:Nat) (a:D17 h n sc q sa qa qb qc hB n1 bid mid T p j ⟨e,h1,n2⟩) {Q}
  (hQ:∀s',(∃T' p',D17 h n sc q sa qa qb qc hB n1 bid mid T' p' (j+1) s')→Q .normal s') :
  awp (cz [3] (pfL tp17)) c17M Q ⟨e,h1,n2⟩:=by
 obtain⟨w1,w2,w3,w4,w5⟩:=W.short
 have w6:=W.r1
 obtain⟨B,q55,q56,q57,bi⟩:=a
 simp only[]at B q55 q56 q57 bi
 obtain⟨lo,ag⟩:=bi.low2 B
 obtain⟨lb,lm,nbm⟩:=bi.low
 obtain⟨a',b',c',e0,x1,x2,x3⟩:=deQ_out e2
 cases e0
 have o1:=(sl_is e1).2.2.2.1
 have o2:=(sl_is x1).2.2.2.1
 have o3:=(sl_is x2).2.2.2.1
 have o4:=(sl_is x3).2.2.2.1
 have q2:=B.q2
 have q3:=B.q3
 have q7:=B.q7
 have fr:=bi.s.fr
 have hbb:=bi.bb
 have hb2:h1 n=some ⟨[sa],0,true,1⟩:=(lo _ (by omega)).trans B.b2
 have hb3:h1 (n+1)=some ⟨[qa,.v (.int .i64 q.mode),.v (.int .i64 q.after),qb,.v (.int .i64 q.within),.v (.string q.par),qc],0,true,7⟩:=(lo _ (by omega)).trans B.b3
 obtain⟨id,off,k,c',rfl,hk,ho,hc',hcr⟩:=sls_getD x3 hj
 have hk':h1 id=some k:=(ag id (lt_of hk hn)).trans hk
 have hw1:off+(j+1)≤k.cells.length:=by omega
 have hw:=wrap_nat (j:=j) (by unfold big;omega)
 have htm:q.ret.getD j []∈q.ret:=by rw[List.getD_eq_getElem?_getD,List.getElem?_eq_getElem hj];exact List.getElem_mem hj
 have hsm:=hrt _ htm
 have hpl:plR sc q (j+1)={plR sc q j with ret:=(plR sc q j).ret++[compP sc (vars q.items) (q.ret.getD j [])]}:=by
  simp only[plR]
  rw[List.take_succ_eq_append_getElem hj,List.map_append,List.getD_eq_getElem?_getD,List.getElem?_eq_getElem hj];rfl
 generalize q.ret.getD j []=t at *
 have k60:∀(h2:Heap) (n3:Nat),agree n2 h1 h2→Fresh n3 h2→n2≤n3→ACall (cz [3] (pfL tp17)) 60 [.g [sa],.g [qa,.v (.int .i64 q.mode),.v (.int .i64 q.after),qb,.v (.int .i64 q.within),.v (.string q.par),.s id k.ver off q.ret.length],c'] h2 n3 fun z h' n'=>agree n3 h2 h'∧Fresh n' h'∧n3≤n'∧OwnQ h' n3 n' z (compP sc (vars q.items) t):=fun h2 n3 a1 a2 a3 =>
  have ag2:=agree_trans ag a1 (by have:=B.n1;have:=bi.s.nn;omega)
  acall_z (fun _ h=>h) (c20 (rd_agr hn e1 _ ag2) (deQ_has (rd_agr hn x1 _ ag2) (rd_agr hn x2 _ ag2) (rd_agr hn x3 _ ag2)) (rd_agr hn hcr _ ag2) (by have:=W.n1;unfold big;omega) hsm (by omega) ⟨by unfold big;omega,fun t ht=>by have:=w3 t ht;unfold big;omega⟩ a2)
 generalize hpp:compP sc (vars q.items) t=pr at *
 simp[evz,c17M,bodyL,hdC,tlC,Tryz.f17,tp17,q2,q3,q7,q55,q56,q57,hb2,hb3,hbb,bcells,hk',hc',hw1,hj,ii,ss]
 refine (k60 _ _ (agree_refl _ _) fr (Nat.le_refl _)).mono ?_
 rintro v h2 n3 ⟨a1,a2,a3,ow⟩
 refine⟨keep_le (agr_le fr a1),?_⟩
 have V0:Mv (fun _=>False) T h1 n2 T h2 n3:=Mv.of_agree bi.s.tn a3 a1 a2
 have bi2:=bi.mv V0
 have hpr:dePr (still T h2) v=some pr:=(ow.up (h':=still T h2) (fun i h1 h2=>still_at (bi.s.tn i h1)) (Nat.le_refl _) (Nat.le_refl _)).rd
 obtain⟨ca,la,rfl,k1,k2,k3,k4,k5,k6⟩:=ow.is
 have hbb2:=bi2.bb
 obtain⟨cs,gl,gR⟩:=bi2.rt
 have nb1:=B.bi
 have x4:¬bid=n3+1:=by omega
 have x5:¬bid=n3:=by omega
 have hrl:(plR sc q j).ret.length=j:=by simp[plR];omega
 have fin:∀(e':Nat→AV) (h':Heap) (n':Nat) T' p',(∀i∈[2,3,4,5,7,55,56],e' i=e i)→e' 57=ii (j+1:Nat)→BI hB n1 bid mid T' h' n' p' (plR sc q (j+1)) (slF q q.items.length)→Q .normal ⟨e',h',n'⟩:=fun e' h' n' T' p' he k57 b' =>
  hQ _ ⟨T',p',B.up (fun i hi=>he i (by simp at hi ⊢;omega)),(he 55 (by simp)).trans q55,(he 56 (by simp)).trans q56,k57,b'⟩
 rw[hpl]at fin
 rcases gl.at with ⟨ga,g0,rfl⟩|⟨rid,ver,ga,gT,gh⟩
 ·simp[evz,ga,hbb2,bcells,ii,ss,bv,x4,x5,k1,k2,hw]
  have V:=Mv.three_nil (n':=n3+3) bi2.s (k:=6) (by omega) ⟨[ca,la],0,true,2⟩ ⟨[ca,la],0,true,2⟩ ⟨bcells {p with ra:=.s (n3+1) 0 0 1} (plR sc q j) mid,0,true,17⟩ (by omega)
  refine⟨fun _=>keepL_up rfl fun t ht => ?_,last_no (by kernel_rfl),fin _ _ _ _ _ (by simp[up]) (by simp[up,ii]) (bi2.rtapp V (.s (n3+1) 0 0 1) _ (up_same _ _ _) ?_)⟩
  ·simp[ldSlots]at ht
   rcases ht with rfl|rfl|rfl
   ·exact⟨bid,0,_,by simp[up];rfl,by omega⟩
   ·exact⟨n,0,0,by simp[up,q2],by omega⟩
   ·exact⟨n+1,0,0,by simp[up,q3],by omega⟩
  ·have hne:(plR sc q j).ret=[]:=List.length_eq_zero_iff.1 g0
   rw[hne]
   exact LR.app (xs:=[]) (cs:=[]) (ns:=[ca,la]) (by simp) (by rfl) (if_pos rfl) (by rw[up_ne _ _ (Ne.symm x4),up_same];rfl) (fun i hi=>by simp at hi) (dPrg.mono (V.still bi2.s.fr) hpr)
 ·have y1:¬rid=n3:=by have:=lt_of gh bi2.s.fr;omega
  have y3:¬rid=bid:=fun e=>by rw[e,bi2.s.tb]at gT;cases gT
  have y4:¬bid=rid:=fun e=>y3 e.symm
  have y5:¬n=rid:=fun e=>by rw[←e,bi.s.low n (by have:=B.n1;omega) (by omega) (by have:=B.mi;omega)]at gT;cases gT
  have y6:¬n+1=rid:=fun e=>by rw[←e,bi.s.low (n+1) (by have:=B.n1;omega) (by omega) (by have:=B.mi;omega)]at gT;cases gT
  have hcl:=gl.1
  rw[hrl]at ga hcl
  simp[evz,ga,gh,hbb2,bcells,ii,ss,bv,x4,x5,k1,k2,hw,y1,y4,hcl]
  have V1:=Mv.three (n':=n3+3) bi2.s (k:=6) (by omega) gT (lt_of gh bi2.s.fr) ⟨[ca,la],0,true,2⟩ ⟨cs++[ca,la],ver,true,2⟩ ⟨bcells {p with ra:=.s rid ver 0 (j+1)} (plR sc q j) mid,0,true,17⟩ (by omega)
  have V2:=Mv.three_nil (n':=n3+3) bi2.s (k:=6) (by omega) ⟨[ca,la],0,true,2⟩ ⟨cs++[ca,la],0,true,2⟩ ⟨bcells {p with ra:=.s (n3+1) 0 0 (j+1)} (plR sc q j) mid,0,true,17⟩ (by omega)
  refine⟨⟨by omega,by omega⟩,⟨fun _=>keepL_up rfl fun t ht => ?_,last_no (by kernel_rfl),fin _ _ _ _ _ (by simp[up]) (by simp[up,ii]) (bi2.rtapp V1 (.s rid ver 0 (j+1)) _ (up_same _ _ _) ?_)⟩,fun _=>keepL_up rfl fun t ht => ?_,last_no (by kernel_rfl),fin _ _ _ _ _ (by simp[up]) (by simp[up,ii]) (bi2.rtapp V2 (.s (n3+1) 0 0 (j+1)) _ (up_same _ _ _) ?_)⟩
  ·simp[ldSlots]at ht
   rcases ht with rfl|rfl|rfl
   ·exact⟨bid,0,_,by simp[up];rfl,by omega⟩
   ·exact⟨n,0,0,by simp[up,q2],by omega⟩
   ·exact⟨n+1,0,0,by simp[up,q3],by omega⟩
  ·have:=LR.app (T':=T) (k:=6) (h':=up (up (up h2 n3 (some ⟨[ca,la],0,true,2⟩)) rid (some ⟨cs++[ca,la],ver,true,2⟩)) bid (some ⟨bcells {p with ra:=.s rid ver 0 (j+1)} (plR sc q j) mid,0,true,17⟩)) (R':=fun _ l x=>dPrg.run (still T (up (up (up h2 n3 (some ⟨[ca,la],0,true,2⟩)) rid (some ⟨cs++[ca,la],ver,true,2⟩)) bid (some ⟨bcells {p with ra:=.s rid ver 0 (j+1)} (plR sc q j) mid,0,true,17⟩))) l=some x) (x:=pr) (cs:=cs) (ns:=[ca,la]) gl.1 (by rfl) gT (by rw[up_ne _ _ y3,up_same]) (fun i hi=>dPrg.mono (V1.still bi2.s.fr) (gR i hi)) (dPrg.mono (V1.still bi2.s.fr) hpr)
   rw[hrl]at this
   exact this
  ·simp[ldSlots]at ht
   rcases ht with rfl|rfl|rfl
   ·exact⟨bid,0,_,by simp[up];rfl,by omega⟩
   ·exact⟨n,0,0,by simp[up,q2],by omega⟩
   ·exact⟨n+1,0,0,by simp[up,q3],by omega⟩
  ·have:=LR.app (T':=fun i=>if i=n3+1 then 6 else T i) (k:=6) (h':=up (up (up h2 n3 (some ⟨[ca,la],0,true,2⟩)) (n3+1) (some ⟨cs++[ca,la],0,true,2⟩)) bid (some ⟨bcells {p with ra:=.s (n3+1) 0 0 (j+1)} (plR sc q j) mid,0,true,17⟩)) (R':=fun _ l x=>dPrg.run (still (fun i=>if i=n3+1 then 6 else T i) (up (up (up h2 n3 (some ⟨[ca,la],0,true,2⟩)) (n3+1) (some ⟨cs++[ca,la],0,true,2⟩)) bid (some ⟨bcells {p with ra:=.s (n3+1) 0 0 (j+1)} (plR sc q j) mid,0,true,17⟩))) l=some x) (x:=pr) (cs:=cs) (ns:=[ca,la]) gl.1 (by rfl) (if_pos rfl) (by rw[up_ne _ _ (Ne.symm x4),up_same]) (fun i hi=>dPrg.mono (V2.still bi2.s.fr) (gR i hi)) (dPrg.mono (V2.still bi2.s.fr) hpr)
   rw[hrl]at this
   exact this
end
end
end Go.Proofs.YtbffkkeieihpdaaGreatDoor
