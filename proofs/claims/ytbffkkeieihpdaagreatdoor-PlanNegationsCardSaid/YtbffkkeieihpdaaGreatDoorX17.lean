import Derived.Test.YtbffkkeieihpdaaGreatDoorX16
import Derived.Test.YtbffkkeieihpdaaGreatDoorX14
set_option linter.unusedSimpArgs false
set_option linter.unusedVariables false
set_option linter.constructorNameAsVariable false
set_option maxRecDepth 100000
set_option maxHeartbeats 4000000
namespace Go.Proofs.YtbffkkeieihpdaaGreatDoor
open Go Go.Eng
def addN (names:List ByteArray) (z:ByteArray):List ByteArray:=if names.findIdx (· == z)<names.length then names else names++[z]
theorem ix_add (names:List ByteArray) (z:ByteArray):ixOf (addN names z) z=if names.findIdx (· == z)<names.length then (names.findIdx (· == z):Int)else (names.length:Int):=by
 unfold addN
 split
 ·rename_i h
  rw[ixOf,if_pos h]
 ·rename_i h
  have hall:∀i (hi:i<names.length),(names[i]==z)=false:=fun i hi=>by
   cases hz:(names[i]==z)with
   | false=>rfl
   | true=>exact absurd (List.findIdx_lt_length_of_exists ⟨names[i],List.getElem_mem hi,hz⟩) h
  have hf:(names++[z]).findIdx (· == z)=names.length:=by
   refine (List.findIdx_eq (by simp)).2 ⟨?_,fun j hj => ?_⟩
   ·rw[List.getElem_append_right (Nat.le_refl _)]
    simp only[Nat.sub_self,List.getElem_cons_zero]
    rw[ba_beq]
   ·rw[List.getElem_append_left hj]
    exact hall j hj
  rw[ixOf,hf,if_pos (by simp)]
theorem colOf_take {tys:List Ty} {name:ByteArray} {j:Nat} (hj:j<tys.length):(colOf tys name).take (j+1)=(colOf tys name).take j++[attrOf tys (j:Int) name]:=by
 rw[List.take_add_one]
 congr 1
 simp[colOf,hj]
def tb93:List (FuncId×(List AV→Heap→PRes)):=[(116,GAt)]
theorem tb93_ok:TbOk [] tb93:=tb_cons P121 tb_nil
theorem la_is {h:Heap} {G:Nat→Prop} {hi m mm:Nat} {tys:List Ty} {sa ca la:AV} {code:List Ins} {names:List ByteArray} (c:CS h G hi m tys sa ca la mm code names):la.isS∧la.slen=names.length∧(∀g,AV.unc g la=la)∧la.one∧la.cells=[la]:=by
 rcases c.hl with ⟨rfl,rfl⟩|⟨w,u,cs,rfl,_⟩
 ·exact⟨⟨rfl,rfl⟩,rfl,fun _=>rfl,rfl,rfl⟩
 ·exact⟨trivial,rfl,fun _=>rfl,trivial,rfl⟩
theorem ca_is {h:Heap} {G:Nat→Prop} {hi m mm:Nat} {tys:List Ty} {sa ca la:AV} {code:List Ins} {names:List ByteArray} (c:CS h G hi m tys sa ca la mm code names):ca.isS∧ca.slen=code.length∧(∀g,AV.unc g ca=ca)∧ca.one∧ca.cells=[ca]:=by
 rcases c.hc with ⟨rfl,rfl⟩|⟨w,u,rfl,_⟩
 ·exact⟨⟨rfl,rfl⟩,rfl,fun _=>rfl,rfl,rfl⟩
 ·exact⟨trivial,rfl,fun _=>rfl,trivial,rfl⟩
theorem c93 {h:Heap} {G:Nat→Prop} {n m mm:Nat} {tys:List Ty} {sa ca la:AV} {code:List Ins} {names:List ByteArray} (c:CS h G n m tys sa ca la mm code names) (name:ByteArray) (hlen:(names.length+1)*24≤140737488355328) (htl:tys.length*8≤140737488355328) (hst:smallS tys) (hG:∀q,n≤q→G q) (hsc:∀h',keepG G n h h'→rd dTys h' sa=some tys) (hn:Fresh n h) :
  ACall (cx [] (pfL tb93)) 164 [.p m 0 0,ss name] h n fun z h' n'=>keepG G n h h'∧Fresh n' h'∧n≤n'∧z=ii (ixOf (addN names name) name)∧∃la',CS h' G n' m tys sa ca la' mm code (addN names name):=by
 refine acall_of_awp (args:=[.p m 0 0,ss name]) (pfL_ok tb93_ok) (mixed _ _) Tryz.func164 (c:=Tryz.f164.body.getD .skip) rfl (by kernel_rfl) (callable Tryz.func164 rfl rfl _ _) (show 2≤Tryz.f164.ntmps by decide +kernel) ?_
 have hix:=ix_add names name
 obtain⟨mf1,mf2⟩:=mpc_find name names 0
 have hmp0:mpcK 0 names=mpc names:=rfl
 have hmk:mok (mpc names):=mpc_ok names 0
 rw[hmp0]at mf1 mf2
 simp only[Nat.zero_add]at mf1
 obtain⟨l1,l2,l3,l4,l5⟩:=la_is c
 obtain⟨k1,k2,k3,k4,k5⟩:=ca_is c
 have t4:=(sl_is c.sch).2.2.2.1
 have t2:=(sl_is c.sch).2.1
 have t1:=(sl_is c.sch).1
 have t3:=(sl_is c.sch).2.2.1
 have key:∀e:Nat→AV,e 0=.p m 0 0→e 1=ss name→awp (cx [] (pfL tb93)) (Tryz.f164.body.getD .skip) (finQ (cx [] (pfL tb93)) Tryz.f164 fun z h' n'=>keepG G n h h'∧Fresh n' h'∧n≤n'∧z=ii (ixOf (addN names name) name)∧∃la',CS h' G n' m tys sa ca la' mm code (addN names name)) ⟨e,h,n⟩:=fun e q0 q1=>by
  have c0:=c
  obtain⟨hm,m1,hsc0,hc,hl,mp,mm1⟩:=c
  by_cases hf:names.findIdx (· == name)<names.length
  ·have hmf:=mf1 hf
   have ha:addN names name=names:=if_pos hf
   rw[if_pos hf,ha]at hix
   simp[evx,Tryz.f164,q0,q1,ii,ss,hm,mp,hmk,hmf,ha,hix]
   exact⟨fun _ _ _=>rfl,hn,la,c0⟩
  ·obtain⟨hmf,hms⟩:=mf2 hf
   have ha:addN names name=names++[name]:=if_neg hf
   rw[if_neg hf]at hix
   rw[ha]at hix ⊢
   have gsc:∀h'',agree n h h''→deSc h'' (.g [sa])=some tys:=fun h'' hag=>hsc h'' (fun j hj _=>hag j hj)
   simp[evx,Tryz.f164,q0,q1,ii,ss,hm,mp,hmk,hmf,t1,t2]
   refine awp_loop (fun s=>∃j,j≤tys.length∧s.e 0=.p m 0 0∧s.e 1=ss name∧s.e 26=ii tys.length∧s.e 27=ii j∧Own s.h n s.n (s.e 7) j (((colOf tys name).take j).map ii) 1∧agree n h s.h∧Fresh s.n s.h∧n≤s.n) (fun s=>tys.length-(s.e 27).i.toNat) ⟨0,by simp[up,q0,q1,ii,ss,agree_refl,Own,hn]⟩ ?_
   rintro e' h' n' ⟨j,hj,q0,q1,q26,q27,hown,hag,hfr,hnn⟩
   simp only[]at q0 q1 q26 q27 hown hag hfr hnn
   have hm':h' m=some ⟨[sa,ca,la,.mv mm 0],0,true,4⟩:=by rw[hag m m1.2];exact hm
   have hmp':h' mm=some ⟨mpc names,0,true,0⟩:=by rw[hag mm mm1.2.1];exact mp
   by_cases hlt:j<tys.length
   ·have hw:=wrap_nat (j:=j) (by unfold big;omega)
    have hct:=colOf_take (name:=name) hlt
    have hcl:(((colOf tys name).take j).map ii).length=j:=by rw[List.length_map,List.length_take,colOf_len];omega
    have hb3:(j+1)*8≤140737488355328:=by omega
    have hb4:j≤9223372036854775806:=by omega
    have hb5:j+1≤9223372036854775807:=by omega
    have y0:¬m=n':=by omega
    have f0:n≤n'+1:=by omega
    have hct2:((colOf tys name).map ii).take (j+1)=((colOf tys name).take j).map ii++[ii (attrOf tys (j:Int) name)]:=by rw[←List.map_take,hct,List.map_append];rfl
    generalize hat:attrOf tys (j:Int) name=at9 at *
    generalize (colOf tys name).take j=tk at *
    rcases hown with ⟨hj0,hnil,q7⟩|⟨w,u,q7,hk3,hw1,hw2⟩
    ·simp[evx,q0,q1,q7,q26,q27,ii,ss,hlt,hm',tb93,GAt,pureH,deAt,gsc,hag,hst,hat,hw,agree_up,hnn,f0,fresh_up,hfr.add]
     exact⟨⟨j+1,by omega,by omega,.inr ⟨n'+1,0,by rw[hj0],by rw[up_same,hct2,hnil];rfl,by omega,by omega⟩,by omega⟩,by omega⟩
    ·have z1:¬w=n':=by omega
     have z2:w<n'+2:=by omega
     simp[evx,q0,q1,q7,q26,q27,ii,ss,hlt,hm',tb93,GAt,pureH,deAt,gsc,hag,hst,hat,hw,hb3,hb5,hk3,hcl,z1,z2,hw1,agree_up,hnn,fresh_up,hfr.add]
     exact⟨⟨j+1,by omega,by omega,.inr ⟨w,u+1,rfl,by rw[up_same,hct2];rfl,by omega,by omega⟩,by omega⟩,by omega⟩
   ·obtain rfl:j=tys.length:=by omega
    have htk:(colOf tys name).take tys.length=colOf tys name:=List.take_of_length_le (by rw[colOf_len];exact Nat.le_refl _)
    rw[htk]at hown
    have hsn:=mpc_snoc names name
    have hms1:=hms (.v (.int .i64 (names.length:Int)))
    rw[hsn]at hms1
    have y0:¬m=n':=by omega
    have y1:¬mm=n':=by omega
    have y2:¬m=mm:=fun e=>mm1.2.2 e.symm
    have y3:¬mm=m:=mm1.2.2
    have y4:¬m=n'+1:=by omega
    have y5:¬m=n'+2:=by omega
    have hb6:names.length≤9223372036854775806:=by omega
    have s7:(e' 7).one∧(∀g,AV.unc g (e' 7)=e' 7)∧(e' 7).cells=[e' 7]:=by
     rcases hown with ⟨_,_,q7⟩|⟨w,u,q7,_⟩
     ·rw[q7];exact⟨rfl,fun _=>rfl,rfl⟩
     ·rw[q7];exact⟨trivial,fun _=>rfl,rfl⟩
    obtain⟨r1,r2,r3⟩:=s7
    obtain⟨z7,q7⟩:∃z,e' 7=z:=⟨_,rfl⟩
    rw[q7]at hown r1 r2 r3
    have kc:∀(H:Heap) (w:Nat) (hi:Nat),(∀q,n≤q→q<n'→q≠w→H q=h' q)→n'≤hi→(w<n∨n'≤w)→KC H (fun q=>n≤q) hi (fun b=>b=w) z7 (colOf tys name):=fun H w hi hH hhi hw9=>by
     rcases hown with ⟨d0,dnil,d1⟩|⟨b,v,d1,d2,d3,d4⟩
     ·exact .inl ⟨by simpa using dnil,d1⟩
     ·exact .inr ⟨b,v,by rw[d1,colOf_len],by rw[hH b d3 d4 (by omega)];exact d2,d3,by omega,by omega⟩
    rcases hl with ⟨h0,rfl⟩|⟨w,u,cs,rfl,x2,x3,x4,x5,x6,x7,x8,x9⟩
    ·subst h0
     have hms2:mset name (.v (.int .i64 0)) (mpc [])=mpc ([]++[name]):=by simpa using hms1
     have f3:mm<n'+4:=by omega
     have f4:m<n'+4:=by omega
     have f5:n≤n'+4:=by omega
     have hH:∀b1 b2 b3 b4:Option Blk,∀q,q≠mm→q≠n'+1→q≠n'+2→q≠m→up (up (up (up h' mm b1) (n'+1) b2) (n'+2) b3) m b4 q=h' q:=fun b1 b2 b3 b4 q w1 w2 w3 w4=>by rw[up_ne _ _ w4,up_ne _ _ w3,up_ne _ _ w2,up_ne _ _ w1]
     have hagH:∀b1 b2 b3 b4:Option Blk,keepG G n h (up (up (up (up h' mm b1) (n'+1) b2) (n'+2) b3) m b4):=fun b1 b2 b3 b4 q hq hg=>by rw[hH _ _ _ _ q (fun e=>hg (by rw[e];exact mm1.1)) (by omega) (by omega) (fun e=>hg (by rw[e];exact m1.1))];exact hag q hq
     simp[evx,q0,q1,q7,q26,q27,ii,ss,hm',hmp',hmk,y2,y4,y5,r1,r3,hms2,fresh_up,hfr.add,f3,f4,f5]
     refine⟨hagH _ _ _ _,by simpa using hix.symm,.s (n'+2) 0 0 1,CS.addcol (cs:=[]) (x:=z7) c0 (by simp[up]) (hsc _ (hagH _ _ _ _)) (fun q p1 p2 p3 p4 _ => ?_) f5 ?_ ?_ (.inl ⟨rfl,rfl⟩) (.inl ⟨rfl,by omega⟩) (hG _ (by omega)) (by omega) (by have:=m1.2;omega) (by have:=mm1.2.1;omega) hG (kc _ _ _ (fun q p1 p2 p3 => ?_) (by omega) (.inr (by omega)))⟩
     ·rw[hH _ _ _ _ q p4 (by omega) (by omega) p3];exact hag q p2
     ·rw[up_ne _ _ mm1.2.2,up_ne _ _ (by omega),up_ne _ _ (by omega),up_same];rfl
     ·rw[up_ne _ _ (by omega),up_same];rfl
     ·rw[hH _ _ _ _ q (by omega) (by omega) p3 (by omega)]
    ·have x10:¬w=mm:=x6
     have hw':h' w=some ⟨cs,u,true,1⟩:=by rw[hag w x4];exact x2
     have x11:¬w=n'+1:=by omega
     have x12:¬m=w:=fun e=>x5 e.symm
     have f3:mm<n'+4:=by omega
     have f4:m<n'+4:=by omega
     have f5:n≤n'+4:=by omega
     have f6:w<n'+4:=by omega
     have hH:∀b1 b2 b3 b4:Option Blk,∀q,q≠mm→q≠n'+1→q≠w→q≠m→up (up (up (up h' mm b1) (n'+1) b2) w b3) m b4 q=h' q:=fun b1 b2 b3 b4 q w1 w2 w3 w4=>by rw[up_ne _ _ w4,up_ne _ _ w3,up_ne _ _ w2,up_ne _ _ w1]
     have hagH:∀b1 b2 b3 b4:Option Blk,keepG G n h (up (up (up (up h' mm b1) (n'+1) b2) w b3) m b4):=fun b1 b2 b3 b4 q hq hg=>by rw[hH _ _ _ _ q (fun e=>hg (by rw[e];exact mm1.1)) (by omega) (fun e=>hg (by rw[e];exact x3)) (fun e=>hg (by rw[e];exact m1.1))];exact hag q hq
     simp[evx,q0,q1,q7,q26,q27,ii,ss,hm',hmp',hmk,y2,y4,r1,r3,hb6,hw',x10,x11,x12,x8,hlen,hms1,fresh_up,hfr.add,f3,f4,f5,f6]
     refine⟨hagH _ _ _ _,hix.symm,.s w (u+1) 0 (names.length+1),CS.addcol (cs:=cs) (x:=z7) c0 (by simp[up]) (hsc _ (hagH _ _ _ _)) (fun q p1 p2 p3 p4 p5 => ?_) f5 ?_ ?_ (.inr ⟨u,rfl,x2⟩) (.inr (by simp)) x3 (by omega) x5 x6 hG (kc _ _ _ (fun q p1 p2 p3 => ?_) (by omega) (.inl x4))⟩
     ·rw[hH _ _ _ _ q p4 (by omega) (fun e=>p5 (by simp only[sid];exact e.symm)) p3];exact hag q p2
     ·rw[up_ne _ _ mm1.2.2,up_ne _ _ (fun e=>x6 e.symm),up_ne _ _ (by omega),up_same]
     ·rw[up_ne _ _ x5,up_same]
     ·rw[hH _ _ _ _ q (by omega) (by omega) p3 (by omega)]
 exact key _ rfl rfl
theorem CS.up {h h':Heap} {G:Nat→Prop} {n n' m mm:Nat} {tys:List Ty} {sa ca la:AV} {code:List Ins} {names:List ByteArray} (c:CS h G n m tys sa ca la mm code names) (hf:Fresh n h) (ha:agree n h h') (hn:n≤n'):CS h' G n' m tys sa ca la mm code names:=by
 obtain⟨x1,x2,x3,x4,x5,x6,x7⟩:=c
 refine⟨by rw[ha m x2.2];exact x1,⟨x2.1,by omega⟩,rd_agr hf x3 _ ha,?_,?_,by rw[ha mm x7.2.1];exact x6,⟨x7.1,by omega,x7.2.2⟩⟩
 ·rcases x4 with h0|⟨w,u,k1,k2,k3,k4,k5⟩
  ·exact .inl h0
  ·exact .inr ⟨w,u,k1,by rw[ha w k4];exact k2,k3,by omega,k5⟩
 ·rcases x5 with h0|⟨w,u,cs,k1,k2,k3,k4,k5,k6,k7,k8,k9⟩
  ·exact .inl h0
  ·refine .inr ⟨w,u,cs,k1,by rw[ha w k4];exact k2,k3,by omega,k5,k6,k7,k8,fun i hi => ?_⟩
   obtain⟨cc,j1,j2⟩:=k9 i hi
   exact⟨cc,j1,j2.up (fun q _ hq _=>ha q hq) (fun _ _ _ hx=>hx) hn⟩
theorem KC.wk {h:Heap} {G G':Nat→Prop} {hi:Nat} {bad:Nat→Prop} {c:AV} {l:List Int} (k:KC h G hi bad c l) (hg:∀q,G q→q<hi→G' q):KC h G' hi bad c l:=by
 rcases k with h0|⟨b,v,k1,k2,k3,k4,k5⟩
 ·exact .inl h0
 ·exact .inr ⟨b,v,k1,k2,hg b k3 k4,k4,k5⟩
theorem CS.wk {h:Heap} {G G':Nat→Prop} {n m mm:Nat} {tys:List Ty} {sa ca la:AV} {code:List Ins} {names:List ByteArray} (c:CS h G n m tys sa ca la mm code names) (hg:∀q,G q→q<n→G' q):CS h G' n m tys sa ca la mm code names:=by
 obtain⟨x1,x2,x3,x4,x5,x6,x7⟩:=c
 refine⟨x1,⟨hg _ x2.1 x2.2,x2.2⟩,x3,?_,?_,x6,⟨hg _ x7.1 x7.2.1,x7.2⟩⟩
 ·rcases x4 with h0|⟨w,u,k1,k2,k3,k4,k5⟩
  ·exact .inl h0
  ·exact .inr ⟨w,u,k1,k2,hg w k3 k4,k4,k5⟩
 ·rcases x5 with h0|⟨w,u,cs,k1,k2,k3,k4,k5,k6,k7,k8,k9⟩
  ·exact .inl h0
  ·refine .inr ⟨w,u,cs,k1,k2,hg w k3 k4,k4,k5,k6,k7,k8,fun i hi => ?_⟩
   obtain⟨cc,j1,j2⟩:=k9 i hi
   exact⟨cc,j1,j2.wk hg⟩
def ownI (names:List ByteArray) (it:Int) (x:Nd):Ins :=
 if x.op=1 then ⟨1,0,0,x.n,0⟩else if x.op=2 then ⟨1,0,0,1,0⟩else if x.op=3 then ⟨1,0,0,0,0⟩
 else if x.op=4 then ⟨2,it,ixOf names x.attr,0,0⟩else if x.op=11 then ⟨3,it,ixOf names x.attr,0,0⟩else if x.op=5 then ⟨4,it,0,0,0⟩
 else if x.op<11 then ⟨x.op-1,it,ixOf names x.attr,0,0⟩else ⟨x.op-2,0,0,0,0⟩
def addX (names:List ByteArray) (x:Nd):List ByteArray:=if 4≤x.op∧x.op≤11∧x.op≠5 then addN names x.attr else names
theorem c55 {h:Heap} {G:Nat→Prop} {n m mm:Nat} {tys:List Ty} {sa ca la:AV} {code:List Ins} {names:List ByteArray} (c:CS h G n m tys sa ca la mm code names) (x:Nd) (it:Int) (hop:1≤x.op∧x.op≤26) (hcl:(code.length+1)*40≤140737488355328) (hlen:(names.length+1)*24≤140737488355328) (htl:tys.length*8≤140737488355328) (hst:smallS tys)
  (hG:∀q,n≤q→G q) (hsc:∀h',keepG G n h h'→rd dTys h' sa=some tys) (hn:Fresh n h) :
  ACall (cx [] (pfL [])) 120 [.p m 0 0,nn x,ii it] h n fun _ h' n'=>keepG G n h h'∧Fresh n' h'∧n≤n'∧∃ca' la',CS h' G n' m tys sa ca' la' mm (code++[ownI (addX names x) it x]) (addX names x):=by
 refine acall_of_awp (args:=[.p m 0 0,nn x,ii it]) (pfL_ok tb_nil) (mixed _ _) Tryz.func120 (c:=Tryz.f120.body.getD .skip) rfl (by kernel_rfl) (callable Tryz.func120 rfl rfl _ _) (show 3≤Tryz.f120.ntmps by decide +kernel) ?_
 obtain⟨op,num,var,attr,xa,xb⟩:=x
 simp only[]at hop
 obtain⟨hop1,hop2⟩:=hop
 have hkeep:∀(b:Option Blk) (h2:Heap) (n2:Nat),n+1≤n2→keepG G (n+1) (Eng.up h n b) h2→keepG G n h h2:=fun b h2 n2 _ k q hq hg=>by rw[k q (by omega) hg,up_ne _ _ (by omega)]
 have L1:∀(b:Option Blk) (I:Ins),ACall (cx [] (pfL [])) 121 [.p m 0 0,iv I] (Eng.up h n b) (n+1) fun _ h' n'=>keepG G n h h'∧Fresh n' h'∧n≤n'∧∃ca' la',CS h' G n' m tys sa ca' la' mm (code++[I]) names:=fun b I =>
  (c56 (c.up hn (by simp[agree_up,agree_refl]) (Nat.le_succ n)) I hcl (fun q hq=>hG q (by omega)) (fun h' k=>hsc h' (hkeep b h' (n+1) (Nat.le_refl _) k)) ((fresh_up (by omega) _).2 (hn.add 1))).mono fun v h2 n2 ⟨a1,a2,a3,ca',a4⟩=>⟨hkeep b h2 n2 a3 a1,a2,by omega,ca',la,a4⟩
 have hkeep':∀(b:Option Blk) (h2:Heap) (n2:Nat),n+1≤n2→keepG (fun q=>G q∧q≠n) (n+1) (Eng.up h n b) h2→keepG G n h h2∧h2 n=b:=fun b h2 n2 _ k=>⟨fun q hq hg=>by rw[k q (by omega) (fun hx=>hg hx.1),up_ne _ _ (by omega)],by rw[k n (by omega) (fun hx=>hx.2 rfl),up_same]⟩
 have L2:∀(b:Option Blk),ACall (cx [] (pfL tb93)) 164 [.p m 0 0,ss attr] (Eng.up h n b) (n+1) fun z h' n'=>keepG G n h h'∧h' n=b∧Fresh n' h'∧n+1≤n'∧z=ii (ixOf (addN names attr) attr)∧∃la',CS h' (fun q=>G q∧q≠n) n' m tys sa ca la' mm code (addN names attr):=fun b =>
  (c93 ((c.wk (G':=fun q=>G q∧q≠n) (fun q hq hl=>⟨hq,by omega⟩)).up hn (by simp[agree_up,agree_refl]) (Nat.le_succ n)) attr hlen htl hst (fun q hq=>⟨hG q (by omega),by omega⟩) (fun h' k=>hsc h' (hkeep' b h' (n+1) (Nat.le_refl _) k).1) ((fresh_up (by omega) _).2 (hn.add 1))).mono fun v h2 n2 ⟨a1,a2,a3,a4,la',a5⟩=>⟨(hkeep' b h2 n2 a3 a1).1,(hkeep' b h2 n2 a3 a1).2,a2,a3,a4,la',a5⟩
 have L3:∀(h2:Heap) (n2:Nat) (la':AV) (names':List ByteArray) (I:Ins),keepG G n h h2→Fresh n2 h2→n+1≤n2→CS h2 (fun q=>G q∧q≠n) n2 m tys sa ca la' mm code names'→ACall (cx [] (pfL [])) 121 [.p m 0 0,iv I] h2 n2 fun _ h' n'=>h' n=h2 n∧keepG G n h h'∧Fresh n' h'∧n≤n'∧∃ca' la',CS h' G n' m tys sa ca' la' mm (code++[I]) names':=fun h2 n2 la' names' I k1 k2 k3 k4 =>
  (c56 k4 I hcl (fun q hq=>⟨hG q (by omega),by omega⟩) (fun h' k=>hsc h' (fun q hq hg=>by rw[k q (by omega) (fun hx=>hg hx.1)];exact k1 q hq hg)) k2).mono fun v h3 n3 ⟨a1,a2,a3,ca',a4⟩=>⟨a1 n (by omega) (fun hx=>hx.2 rfl),fun q hq hg=>by rw[a1 q (by omega) (fun hx=>hg hx.1)];exact k1 q hq hg,a2,by omega,ca',la',a4.wk fun q hq _=>hq.1⟩
 have key:∀e:Nat→AV,e 0=.p m 0 0→e 1=nn ⟨op,num,var,attr,xa,xb⟩→e 2=ii it→awp (cx [] (pfL [])) (Tryz.f120.body.getD .skip) (finQ (cx [] (pfL [])) Tryz.f120 fun _ h' n'=>keepG G n h h'∧Fresh n' h'∧n≤n'∧∃ca' la',CS h' G n' m tys sa ca' la' mm (code++[ownI (addX names ⟨op,num,var,attr,xa,xb⟩) it ⟨op,num,var,attr,xa,xb⟩]) (addX names ⟨op,num,var,attr,xa,xb⟩)) ⟨e,h,n⟩:=fun e q0 q1 q2=>by
  by_cases o1:op=1
  ·subst o1
   simp[evx,Tryz.f120,q0,q1,nn,ncells,ii,ss]
   refine (acall_any (S:=[]) (by simp) (L1 _ ⟨1,0,0,num,0⟩)).mono ?_
   rintro v h2 n2 ⟨a1,a2,a3,ca',la',a4⟩
   exact⟨a1,a2,a3,ca',la',a4⟩
  by_cases o2:op=2
  ·subst o2
   simp[evx,Tryz.f120,q0,q1,nn,ncells,ii,ss]
   refine (acall_any (S:=[]) (by simp) (L1 _ ⟨1,0,0,1,0⟩)).mono ?_
   rintro v h2 n2 ⟨a1,a2,a3,ca',la',a4⟩
   exact⟨a1,a2,a3,ca',la',a4⟩
  by_cases o3:op=3
  ·subst o3
   simp[evx,Tryz.f120,q0,q1,nn,ncells,ii,ss]
   refine (acall_any (S:=[]) (by simp) (L1 _ ⟨1,0,0,0,0⟩)).mono ?_
   rintro v h2 n2 ⟨a1,a2,a3,ca',la',a4⟩
   exact⟨a1,a2,a3,ca',la',a4⟩
  by_cases o4:op=4
  ·subst o4
   have hax:addX names ⟨4,num,var,attr,xa,xb⟩=addN names attr:=by simp[addX]
   rw[hax]
   simp[evx,Tryz.f120,q0,q1,q2,nn,ncells,ii,ss]
   refine (acall_any (S:=[]) (by simp) (L2 _)).mono ?_
   rintro v h2 n2 ⟨a1,a0,a2,a3,rfl,la',a4⟩
   simp[evx,ii]
   refine (acall_any (S:=[]) (by simp) (L3 h2 n2 la' _ ⟨2,it,ixOf (addN names attr) attr,0,0⟩ a1 a2 a3 a4)).mono ?_
   rintro v h3 n3 ⟨b0,b1,b2,b3,ca',la'',b4⟩
   exact⟨b1,b2,b3,ca',la'',b4⟩
  by_cases o11:op=11
  ·subst o11
   have hax:addX names ⟨11,num,var,attr,xa,xb⟩=addN names attr:=by simp[addX]
   rw[hax]
   simp[evx,Tryz.f120,q0,q1,q2,nn,ncells,ii,ss]
   refine (acall_any (S:=[]) (by simp) (L2 _)).mono ?_
   rintro v h2 n2 ⟨a1,a0,a2,a3,rfl,la',a4⟩
   simp[evx,ii]
   refine (acall_any (S:=[]) (by simp) (L3 h2 n2 la' _ ⟨3,it,ixOf (addN names attr) attr,0,0⟩ a1 a2 a3 a4)).mono ?_
   rintro v h3 n3 ⟨b0,b1,b2,b3,ca',la'',b4⟩
   exact⟨b1,b2,b3,ca',la'',b4⟩
  by_cases o5:op=5
  ·subst o5
   have hax:addX names ⟨5,num,var,attr,xa,xb⟩=names:=by simp[addX]
   rw[hax]
   simp[evx,Tryz.f120,q0,q1,q2,nn,ncells,ii,ss]
   refine (acall_any (S:=[]) (by simp) (L1 _ ⟨4,it,0,0,0⟩)).mono ?_
   rintro v h2 n2 ⟨a1,a2,a3,ca',la',a4⟩
   exact⟨a1,a2,a3,ca',la',a4⟩
  by_cases o10:op<11
  ·have hax:addX names ⟨op,num,var,attr,xa,xb⟩=addN names attr:=by
    unfold addX
    rw[if_pos ⟨by simp only[];omega,by simp only[];omega,o5⟩]
   have how:ownI (addN names attr) it ⟨op,num,var,attr,xa,xb⟩=⟨op-1,it,ixOf (addN names attr) attr,0,0⟩:=by
    unfold ownI
    rw[if_neg o1,if_neg o2,if_neg o3,if_neg o4,if_neg o11,if_neg o5,if_pos o10]
   rw[hax,how]
   have w1:IntKind.i64.wrap (op-6)=op-6:=W_id (by unfold Rng;omega)
   have w2:IntKind.i64.wrap (5+(op-6))=op-1:=(W_id (by unfold Rng;omega)).trans (by omega)
   simp[evx,Tryz.f120,q0,q1,q2,nn,ncells,ii,ss,o1,o2,o3,o4,o11,o5,o10,w1,w2]
   refine (acall_any (S:=[]) (by simp) (L2 _)).mono ?_
   rintro v h2 n2 ⟨a1,a0,a2,a3,rfl,la',a4⟩
   simp[evx,ii]
   refine⟨.inr ⟨rfl,fun t ht => ?_⟩,?_⟩
   ·simp[ldSlots]at ht
    rcases ht with ht|ht<;>subst ht<;>simp[keepP,Eng.up,a0]
   refine (acall_any (S:=[]) (by simp) (L3 h2 n2 la' _ ⟨op-1,it,ixOf (addN names attr) attr,0,0⟩ a1 a2 a3 a4)).mono ?_
   rintro v h3 n3 ⟨b0,b1,b2,b3,ca',la'',b4⟩
   refine⟨.inr ⟨rfl,fun t ht => ?_⟩,?_⟩
   ·simp[ldSlots]at ht
    rcases ht with ht|ht<;>subst ht<;>simp[keepP,Eng.up,b0,a0]
   exact⟨b1,b2,b3,ca',la'',b4⟩
  ·have hax:addX names ⟨op,num,var,attr,xa,xb⟩=names:=by
    unfold addX
    rw[if_neg]
    simp only[]
    omega
   have how:ownI names it ⟨op,num,var,attr,xa,xb⟩=⟨op-2,0,0,0,0⟩:=by
    unfold ownI
    rw[if_neg o1,if_neg o2,if_neg o3,if_neg o4,if_neg o11,if_neg o5,if_neg o10]
   rw[hax,how]
   have w1:IntKind.i64.wrap (op-12)=op-12:=W_id (by unfold Rng;omega)
   have w2:IntKind.i64.wrap (10+(op-12))=op-2:=(W_id (by unfold Rng;omega)).trans (by omega)
   simp[evx,Tryz.f120,q0,q1,nn,ncells,ii,ss,o1,o2,o3,o4,o11,o5,o10,w1,w2]
   refine (acall_any (S:=[]) (by simp) (L1 _ ⟨op-2,0,0,0,0⟩)).mono ?_
   rintro v h2 n2 ⟨a1,a2,a3,ca',la',a4⟩
   exact⟨a1,a2,a3,ca',la',a4⟩
 exact key _ rfl rfl rfl
section
def namesTo (t:List Nd):Nat→List ByteArray
 | 0=>[]
 | k+1=>addX (namesTo t k) (t.getD k nd0)
def namesOf (t:List Nd):List ByteArray:=namesTo t t.length
theorem ix_app {l:List ByteArray} {z:ByteArray} (m:List ByteArray) (h:l.findIdx (· == z)<l.length):ixOf (l++m) z=ixOf l z∧(l++m).findIdx (· == z)<(l++m).length:=by
 have hf:(l++m).findIdx (· == z)=l.findIdx (· == z):=by rw[List.findIdx_append,if_pos h]
 have h2:l.findIdx (· == z)<(l++m).length:=by rw[List.length_append];omega
 unfold ixOf
 rw[hf,if_pos h,if_pos h2]
 exact⟨rfl,h2⟩
theorem add_has (l:List ByteArray) (z:ByteArray):(addN l z).findIdx (· == z)<(addN l z).length:=by
 unfold addN
 split
 ·assumption
 ·exact List.findIdx_lt_length_of_exists ⟨z,by simp,by rw[ba_beq]⟩
theorem addX_app (l:List ByteArray) (x:Nd):∃m,addX l x=l++m:=by
 unfold addX addN
 split
 ·split
  ·exact⟨[],by simp⟩
  ·exact⟨_,rfl⟩
 ·exact⟨[],by simp⟩
theorem names_app (t:List Nd) (k:Nat):∀d,∃m,namesTo t (k+d)=namesTo t k++m
 | 0=>⟨[],by simp⟩
 | d+1=>by
  obtain⟨m,h⟩:=names_app t k d
  obtain⟨m',h'⟩:=addX_app (namesTo t (k+d)) (t.getD (k+d) nd0)
  exact⟨m++m',by show namesTo t (k+d+1)=_;rw[namesTo,h',h,List.append_assoc]⟩
def ownT (vs:List ByteArray) (t:List Nd) (j:Nat):Ins:=ownI (namesOf t) (itemV vs (t.getD j nd0)) (t.getD j nd0)
theorem own_stable {vs:List ByteArray} {t:List Nd} {k:Nat} (hk:k<t.length) (h1:1≤(t.getD k nd0).op):ownI (namesTo t (k+1)) (itemV vs (t.getD k nd0)) (t.getD k nd0)=ownT vs t k:=by
 obtain⟨m,hm⟩:=names_app t (k+1) (t.length-(k+1))
 rw[show k+1+(t.length-(k+1))=t.length by omega]at hm
 unfold ownT namesOf
 rw[hm]
 generalize hx:t.getD k nd0=x at *
 have key:4≤x.op∧x.op≤11∧x.op≠5→ixOf (namesTo t (k+1)++m) x.attr=ixOf (namesTo t (k+1)) x.attr:=fun h=>by
  have:namesTo t (k+1)=addN (namesTo t k) x.attr:=by rw[namesTo,hx,addX,if_pos h]
  exact (ix_app m (by rw[this];exact add_has _ _)).1
 unfold ownI
 by_cases h4:4≤x.op∧x.op≤11∧x.op≠5
 ·rw[key h4]
 ·repeat' (first|rfl|split)
  all_goals (exfalso;omega)
theorem names_len (t:List Nd):∀k,(namesTo t k).length≤k
 | 0=>Nat.le_refl _
 | k+1=>by
  have:=names_len t k
  simp only[namesTo,addX,addN]
  split
  ·split
   ·omega
   ·simp;omega
  ·omega
def jmpT (t:List Nd) (to:Nat→Nat) (j:Nat):Ins:=match parT t j with
 | some p=>⟨(t.getD p nd0).op,0,0,0,to p⟩
 | none=>zI
def toP (t:List Nd) (i p:Nat):Nat:=if p<i then posT t p+1 else 0
def codeT (vs:List ByteArray) (t:List Nd):List Ins:=layT t (ownT vs t) (jmpT t fun p=>posT t p+1) t.length
def compP (sc:List Ty) (vs:List ByteArray) (t:List Nd):Pr:=if runT vs t=true then ⟨codeT vs t,(namesOf t).map (colOf sc)⟩else ⟨[],[]⟩
def bhT (t:List Nd) (k j:Nat):Int:=match parT t j with
 | some p=>if p<k then (t.getD p nd0).op else 0
 | none=>0
def bhL (t:List Nd) (k:Nat):List Int:=(List.range t.length).map (bhT t k)
def jpL (t:List Nd) (i:Nat):List Int:=(List.range t.length).map fun j=>if j<i∧(parT t j).isSome=true then (posT t j:Int)+1 else 0
theorem getD_at {t:List Nd} {i:Nat} (hi:i<t.length):t.getD i nd0=t[i]:=by rw[List.getD_eq_getElem?_getD,List.getElem?_eq_getElem hi];rfl
section
variable {t:List Nd}
theorem bhL_len (k:Nat):(bhL t k).length=t.length:=by simp[bhL]
theorem jpL_len (k:Nat):(jpL t k).length=t.length:=by simp[jpL]
theorem bhL_zero:bhL t 0=List.replicate t.length 0:=by
 refine List.eq_replicate_iff.2 ⟨bhL_len 0,fun b hb => ?_⟩
 obtain⟨j,_,rfl⟩:=List.mem_map.1 hb
 unfold bhT
 split
 ·rw[if_neg (by omega)]
 ·rfl
theorem jpL_zero:jpL t 0=List.replicate t.length 0:=by
 refine List.eq_replicate_iff.2 ⟨jpL_len 0,fun b hb => ?_⟩
 obtain⟨j,_,rfl⟩:=List.mem_map.1 hb
 rw[if_neg (by omega)]
theorem bh_end (j:Nat):bhT t t.length j=match parT t j with
  | some p=>(t.getD p nd0).op
  | none=>0:=by
 unfold bhT
 cases h:parT t j with
 | none=>rfl
 | some p=>simp only;rw[if_pos (par_is h).1]
theorem bhL_at {j:Nat} (hj:j<t.length) (k:Nat):(bhL t k)[j]? = some (bhT t k j):=by
 rw[bhL,List.getElem?_map,List.getElem?_range hj];rfl
theorem jpL_at {j:Nat} (hj:j<t.length) (k:Nat):(jpL t k)[j]? = some (if j<k∧(parT t j).isSome=true then (posT t j:Int)+1 else 0):=by
 rw[jpL,List.getElem?_map,List.getElem?_range hj];rfl
theorem jpL_skip {i:Nat} (h:parT t i=none):jpL t (i+1)=jpL t i:=by
 refine List.map_congr_left fun j _ => ?_
 by_cases e:j=i
 ·subst e;rw[h];simp
 ·have:j<i+1↔j<i:=by omega
  simp only[this]
theorem jpL_set {i:Nat} (hi:i<t.length) (h:(parT t i).isSome=true):(jpL t i).set i ((posT t i:Int)+1)=jpL t (i+1):=by
 refine List.ext_getElem? fun j => ?_
 rw[List.getElem?_set]
 by_cases e:i=j
 ·subst e
  rw[if_pos rfl,if_pos (by rw[jpL_len];exact hi),jpL_at hi,if_pos ⟨by omega,h⟩]
 ·rw[if_neg e]
  by_cases hj:j<t.length
  ·rw[jpL_at hj,jpL_at hj]
   have:j<i+1↔j<i:=by omega
   simp only[this]
  ·rw[List.getElem?_eq_none (by rw[jpL_len];omega),List.getElem?_eq_none (by rw[jpL_len];omega)]
theorem bhL_skip {k:Nat} (hk:k<t.length) (h:t[k].op<25):bhL t (k+1)=bhL t k:=by
 refine List.map_congr_left fun j _ => ?_
 unfold bhT
 cases hp:parT t j with
 | none=>rfl
 | some p =>
  obtain⟨h1,h2,_⟩:=par_is hp
  have:p≠k:=fun e=>by subst e;omega
  have:p<k+1↔p<k:=by omega
  simp only[this]
variable {lo:Nat→Nat} (T:Tre t lo)
include T
theorem bhL_set {k a:Nat} (hk:k<t.length) (h:25≤t[k].op) (ha:t[k].a=(a:Int)):(bhL t k).set a t[k].op=bhL t (k+1):=by
 have hpa:=par_at T hk h ha
 refine List.ext_getElem? fun j => ?_
 rw[List.getElem?_set]
 by_cases e:a=j
 ·subst e
  have hal:a<t.length:=by
   obtain⟨h1,h2,_⟩:=sz_bin T hk (by omega)
   omega
  rw[if_pos rfl,if_pos (by rw[bhL_len];exact hal),bhL_at hal,bhT,hpa]
  simp only
  rw[if_pos (by omega),getD_at hk]
 ·rw[if_neg e]
  by_cases hj:j<t.length
  ·rw[bhL_at hj,bhL_at hj]
   unfold bhT
   cases hp:parT t j with
   | none=>rfl
   | some p =>
    have:p≠k:=fun e2=>by
     subst e2
     obtain⟨_,_,h3⟩:=par_is hp
     omega
    have:p<k+1↔p<k:=by omega
    simp only[this]
  ·rw[List.getElem?_eq_none (by rw[bhL_len];omega),List.getElem?_eq_none (by rw[bhL_len];omega)]
def progT (vs:List ByteArray) (t:List Nd) (i:Nat):List Ins:=layT t (ownT vs t) (jmpT t (toP t i)) i
omit T in
theorem prog_len (vs:List ByteArray) (i:Nat):(progT vs t i).length=posT t i:=lay_len _ _ _
omit T in
theorem prog_own {vs:List ByteArray} {i:Nat} (hi:i<t.length) (h:t[i].op<25):progT vs t i=layT t (ownT vs t) (jmpT t (toP t (i+1))) i:=by
 refine lay_ext i (fun _ _=>rfl) fun j hj hp => ?_
 unfold jmpT
 cases hq:parT t j with
 | none=>rfl
 | some p =>
  obtain⟨h1,h2,_⟩:=par_is hq
  have:p≠i:=fun e=>by subst e;omega
  have:p<i+1↔p<i:=by omega
  simp only[toP,this]
theorem prog_set {vs:List ByteArray} {i a:Nat} (hi:i<t.length) (h:25≤t[i].op) (ha:t[i].a=(a:Int)) :
  (progT vs t i).set (posT t a+1) ⟨t[i].op,0,0,0,(posT t i:Int)+1⟩=layT t (ownT vs t) (jmpT t (toP t (i+1))) i∧(progT vs t i)[posT t a+1]? = some ⟨t[i].op,0,0,0,0⟩:=by
 have hpa:=par_at T hi h ha
 have hai:a<i:=by
  obtain⟨h1,h2,_⟩:=sz_bin T hi (by omega)
  omega
 have hset:=lay_setj (t:=t) (f:=ownT vs t) (g:=jmpT t (toP t i)) (k:=a) ⟨t[i].op,0,0,0,(posT t i:Int)+1⟩ (by rw[hpa];rfl) hai
 refine⟨?_,?_⟩
 ·unfold progT
  rw[hset]
  refine lay_ext i (fun _ _=>rfl) fun j hj hp => ?_
  unfold updF
  by_cases e:j=a
  ·subst e
   rw[if_pos rfl,jmpT,hpa]
   simp only[toP]
   rw[if_pos (by omega),getD_at hi]
   simp
  ·rw[if_neg e]
   unfold jmpT
   cases hq:parT t j with
   | none=>rfl
   | some p =>
    have:p≠i:=fun e2=>by
     subst e2
     obtain⟨_,_,h3⟩:=par_is hq
     omega
    have:p<i+1↔p<i:=by omega
    simp only[toP,this]
 ·unfold progT
  have hg:∀(n:Nat),a<n→(layT t (ownT vs t) (jmpT t (toP t i)) n)[posT t a+1]? = some (jmpT t (toP t i) a):=by
   intro n
   induction n with
   | zero=>intro h;omega
   | succ n ih =>
    intro hn
    simp only[layT]
    by_cases e:a=n
    ·subst e
     rw[List.getElem?_append_right (by rw[lay_len];omega),lay_len,Nat.add_sub_cancel_left,hpa]
     rfl
    ·have hl:=pos_lt (t:=t) (k:=a) (n:=n) (by omega)
     rw[hpa]at hl
     simp only[Option.isSome_some,if_true]at hl
     rw[List.getElem?_append_left (by rw[lay_len];omega)]
     exact ih (by omega)
  rw[hg i hai,jmpT,hpa]
  simp only[toP]
  rw[if_neg (by omega),getD_at hi]
  rfl
theorem prog_succ (vs:List ByteArray) (i:Nat):progT vs t (i+1)=layT t (ownT vs t) (jmpT t (toP t (i+1))) i++ownT vs t i::(if (parT t i).isSome=true then [⟨bhT t t.length i,0,0,0,0⟩]else []):=by
 unfold progT
 simp only[layT]
 congr 2
 cases h:parT t i with
 | none=>rfl
 | some p =>
  obtain⟨h1,h2,h3⟩:=par_is h
  simp only[Option.isSome_some,if_true]
  rw[bh_end,h,jmpT,h]
  simp only[toP]
  rw[if_neg]
  ·rfl
  ·obtain⟨k1,k2,_⟩:=sz_bin T h1 (by omega)
   omega
omit T in
theorem prog_end (vs:List ByteArray):progT vs t t.length=codeT vs t:=by
 refine lay_ext _ (fun _ _=>rfl) fun j hj hp => ?_
 unfold jmpT
 cases h:parT t j with
 | none=>rfl
 | some p=>simp only[toP];rw[if_pos (par_is h).1]
end
end
end Go.Proofs.YtbffkkeieihpdaaGreatDoor
