import Derived.Test.YtbffkkeieihpdaaGreatDoorE29
import Derived.Test.YtbffkkeieihpdaaGreatDoorE30
import Derived.Test.YtbffkkeieihpdaaGreatDoorE13
import Derived.Test.YtbffkkeieihpdaaGreatDoorE21
import Derived.Test.YtbffkkeieihpdaaGreatDoorE14
import Derived.Test.YtbffkkeieihpdaaGreatDoorE27
import Derived.Test.YtbffkkeieihpdaaGreatDoorE26
import Derived.Test.YtbffkkeieihpdaaGreatDoorE15
set_option linter.unusedSimpArgs false
set_option linter.unusedVariables false
set_option linter.constructorNameAsVariable false
set_option maxRecDepth 100000
set_option maxHeartbeats 4000000
namespace Go.Proofs.YtbffkkeieihpdaaGreatDoor
open Go Go.Eng
section
noncomputable def zV3:Code:=yW (hdC 1 (tlC 7 (Tryz.f60.body.getD .skip)))
noncomputable def zZz:Code:=inB (hdC 1 (tlC 2 zV3))
theorem D20.up {h0:Heap} {n:Nat} {sa ta:AV} {t:List Nd} {its:List Int} {tys:List Ty} {wi m mm wb wj i:Nat} {code:List Ins} {names:List ByteArray} {s s':St} (a:D20 h0 n sa ta t its tys wi m mm wb wj i code names s) (he:∀i∈[2,6,7,9,10,13],s'.e i=s.e i) (hh:s'.h=s.h) (hn:s'.n=s.n):D20 h0 n sa ta t its tys wi m mm wb wj i code names s':=by
 obtain⟨x1,x2,x3,x4,x5,x6,x7,x8,x9,x10,x11,x12,x13,x14⟩:=a;obtain⟨e1,h1,n1⟩:=s';simp only[]at hh hn he;subst hh hn;exact⟨by simp only[he 2 (by simp)];exact x1,by simp only[he 6 (by simp)];exact x2,by simp only[he 7 (by simp)];exact x3,by simp only[he 9 (by simp)];exact x4,by simp only[he 10 (by simp)];exact x5,by simp only[he 13 (by simp)];exact x6,x7,x8,x9,x10,x11,x12,x13,x14⟩
def yCs (ta:AV) (len i:Nat) (s:St):Prop:=s.e 56=ta∧s.e 57=ii len∧s.e 58=ii i
section
variable {h:Heap} {n:Nat} {sa ta:AV} {tys:List Ty} {t:List Nd} {vs:List ByteArray} {wi m mm wb wj i:Nat} {lo:Nat→Nat}
theorem yMu (T:Tre t lo) (e5:rd dNs h ta=some t) (e1:rd zE7 h sa=some tys) (hp:xQ t) (htl:tys.length*8≤140737488355328) (hst:zCa tys) (hn:Fresh n h) (s:St) (hi:i<t.length) (hat:yCs ta t.length i s)
  (a:D20 h n sa ta t (t.map (wA vs)) tys wi m mm wb wj i (zD2 vs t i) (wL t i) s) {Q:Ex→St→Prop} :
  awp (cx [3] (pfL [])) (hdC 2 zZz) (zAs (fun s'=>yCs ta t.length i s'∧s'.e 14=ii i∧(∃c,s'.e 15=.p c 0 0∧s'.h c=some ⟨yC t[i],0,true,6⟩)∧D20 h n sa ta t (t.map (wA vs)) tys wi m mm wb wj i (zD2 vs t i++[zE6 vs t i]) (wL t (i+1)) s') Q) s:=by
 obtain⟨e,h1,n1⟩:=s;have a0:=a;obtain⟨x1,x2,x3,x4,x5,x6,x7,x8,x9,x10,⟨ca,la,cs⟩,x12,x13,x14⟩:=a;obtain⟨q56,q57,q58⟩:=hat;simp only[]at x1 x2 x3 x4 x5 x6 x7 x8 x9 x10 x12 x13 x14 cs q56 q57 q58;have hp':t.length*64≤140737488355328:=hp;rcases zKk e5 with ⟨h0,_⟩|⟨id,off,k,rfl,hk,ho,hat⟩
 ·rw[h0]at hi;simp at hi
 have hr:=hat i hi;have hid:id<n:=xB hk hn;have hk':h1 id=some k:=(x13 id hid).trans hk;have hle:∀(X:Ctx),ldcs X h1 (.p id k.ver (off+i*6)) 0 6=yC t[i]:=fun X=>zKo hk' hr
 have hw6:off+(i*6+6)≤k.cells.length:=by omega
 have hop:=zQr T hi;have hgd:=zAx hi;have hfew:=few T;have hpl:=zFl (t:=t) hi;have hnl:=zKl t i;have hits:((t.map (wA vs)).map ii).length=t.length:=by simp
 have hitg:((t.map (wA vs)).map ii)[i]? = some (ii (wA vs t[i])):=by simp[hi]
 have hi1:i+1≤t.length:=hi
 let G:Nat→Prop:=fun q=>G20 n wi wb wj q∧q≠n1
 have hown:zPa (zLh (wL t i) t[i]) (wA vs t[i]) t[i]=zE6 vs t i:=by
  have:=zUu (vs:=vs) hi (by rw[hgd];exact hop.1)
  rw[wL,hgd]at this
  exact this
 have hnm:zLh (wL t i) t[i]=wL t (i+1):=by rw[wL,hgd]
 have L:∀b:Option Blk,ACall (cx [] (pfL [])) 120 [.p m 0 0,nn t[i],ii (wA vs t[i])] (Eng.up (Eng.up h1 n1 b) n1 (some ⟨yC t[i],0,true,6⟩)) (n1+2) fun _ h' n'=>zEb G (n1+2) (Eng.up (Eng.up h1 n1 b) n1 (some ⟨yC t[i],0,true,6⟩)) h'∧Fresh n' h'∧n1+2≤n'∧∃ca' la',CS h' G n' m tys sa ca' la' mm (zD2 vs t i++[zE6 vs t i]) (wL t (i+1)):=fun b=>by
  have c1:=(cs.wk (G':=G) (fun q hq hl=>⟨hq,by omega⟩)).up (n':=n1+2) x14 (h':=Eng.up (Eng.up h1 n1 b) n1 (some ⟨yC t[i],0,true,6⟩)) ((zD (zC _) _).2 ((zD (zC _) _).2 (zE _ _))) (by omega)
  have:=c55 c1 t[i] (wA vs t[i]) hop (by rw[zM1];omega) (by omega) htl hst (fun q hq=>⟨⟨by omega,by omega,by omega,by omega⟩,by omega⟩) (fun h' hk9=>yT hn e1 _ fun q hq=>by
   rw[hk9 q (by omega) (fun hx=>by have:=hx.1.1;omega),zP _ _ (by omega),zP _ _ (by omega)];exact x13 q hq) ((zF (by omega) _).2 ((zF (by omega) _).2 (x14.add 2)))
  rw[hown,hnm]at this
  exact this
 generalize hit:wA vs t[i]=it at *;generalize hxx:t[i]=x at *;obtain⟨op,num,var,attr,xa,xb⟩:=x;simp only[yC,ii,ss]at hle;have y0:¬id=n1:=by omega
 have y1:¬wi=n1:=by omega
 simp only[yC,ii,ss,nn]at L;simp only[ii]at hitg;generalize hcs:((t.map (wA vs)).map ii)=ics at *;have hil:i<ics.length:=by omega
 have hig:ics[i]'hil=.v (.int .i64 it):=by rw[zA hil]at hitg;exact Option.some.inj hitg
 have hnb:∀(X:Ctx) (h'':Heap),h'' n1=some ⟨[.v (.int .i64 op),.v (.int .i64 num),.v (.string var),.v (.string attr),.v (.int .i64 xa),.v (.int .i64 xb)],0,true,6⟩→ldcs X h'' (.p n1 0 0) 0 6=[.v (.int .i64 op),.v (.int .i64 num),.v (.string var),.v (.string attr),.v (.int .i64 xa),.v (.int .i64 xb)]:=fun X h'' e=>by simp[ldcs,ldc,e]
 simp[evx,hdC,tlC,zZz,zV3,inB,yW,Tryz.f60,q56,q58,x3,x4,x8,ii,hi,hi1,hk',hle,hw6,y1,hits,hig,hnb];refine (wD (S:=[]) (by simp) (L _)).mono ?_
 rintro v h2 n2 ⟨a1,a2,a3,a4⟩;have b1:∀q,q<n1+2→q=n1∨¬G20 n wi wb wj q→h2 q=(if q=n1 then some ⟨[.v (.int .i64 op),.v (.int .i64 num),.v (.string var),.v (.string attr),.v (.int .i64 xa),.v (.int .i64 xb)],0,true,6⟩else h1 q):=fun q hq hg=>by
  rw[a1 q hq (fun hx=>by rcases hg with hg|hg;exact hx.2 hg;exact hg hx.1)]
  split
  ·rename_i e;rw[e,zJ]
  ·rename_i e;rw[zP _ _ e,zP _ _ e]
 have b2:h2 n1=some ⟨[.v (.int .i64 op),.v (.int .i64 num),.v (.string var),.v (.string attr),.v (.int .i64 xa),.v (.int .i64 xb)],0,true,6⟩:=by rw[b1 n1 (by omega) (.inl rfl),if_pos rfl]
 have b3:∀q,q<n1→¬G20 n wi wb wj q→h2 q=h1 q:=fun q hq hg=>by rw[b1 q (by omega) (.inr hg),if_neg (by omega)]
 have b4:h2 wi=some ⟨ics,0,true,1⟩:=by rw[b3 wi (by omega) (fun hx=>hx.2.1 rfl)];exact x8
 refine⟨.inr ⟨rfl,fun t ht => ?_⟩,?_⟩
 ·simp[wZ]at ht
  rcases ht with ht|ht<;>subst ht<;>simp[zEy,Eng.up,b2,b4,x8,y1]
 refine⟨⟨by simpa[up]using q56,by simpa[up,ii]using q57,by simpa[up,ii]using q58⟩,by simpa[yC,ii,ss]using b2,by simpa[up]using x1,by simpa[up]using x2,by simpa[up]using x3,by simpa[up]using x4,by simpa[up]using x5,by simpa[up]using x6,?_,by simp only[];rw[hcs];exact b4,?_,?_,?_,⟨x12.1,x12.2.1,x12.2.2.1,x12.2.2.2.1,x12.2.2.2.2.1,by simp only[];omega⟩,fun q hq => ?_,a2⟩
 ·simp only[]
  rw[b3 _ (by omega) (fun hx=>by have:=hx.1;omega)];exact x7
 ·simp only[]
  rw[b3 _ (by omega) (fun hx=>hx.2.2.1 rfl)];exact x9
 ·simp only[]
  rw[b3 _ (by omega) (fun hx=>hx.2.2.2 rfl)];exact x10
 ·obtain⟨ca',la',a4⟩:=a4
  exact⟨ca',la',a4.wk fun q hq _=>hq.1⟩
 ·simp only[]
  rw[b3 _ (by omega) (fun hx=>by have:=hx.1;omega)];exact x13 q hq
theorem yMt (T:Tre t lo) (hp:xQ t) (s:St) (hi:i<t.length) (hat:yCs ta t.length i s) (h14:s.e 14=ii i) (h15:∃c,s.e 15=.p c 0 0∧s.h c=some ⟨yC t[i],0,true,6⟩)
  (e1:rd zE7 h sa=some tys) (hn:Fresh n h) (a:D20 h n sa ta t (t.map (wA vs)) tys wi m mm wb wj i (zD2 vs t i++[zE6 vs t i]) (wL t (i+1)) s) {Q:Ex→St→Prop} :
  awp (cx [3] (pfL [])) (hdC 1 (tlC 2 zZz)) (zAs (fun s'=>yCs ta t.length i s'∧s'.e 14=ii i∧D20 h n sa ta t (t.map (wA vs)) tys wi m mm wb wj i (zGl t (zE6 vs t) (zI4 t (toP t (i+1))) i++[zE6 vs t i]) (wL t (i+1)) s') Q) s:=by
 obtain⟨e,h1,n1⟩:=s;have a0:=a;obtain⟨c,q15,hc⟩:=h15;obtain⟨q56,q57,q58⟩:=hat;simp only[]at h14 q15 hc q56 q57 q58;have hop:=zQr T hi;have hown:=yAy (vs:=vs) hi;have hset:=fun (b:Nat) (h9:25≤t[i].op) (h8:t[i].a=(b:Int))=>yAx T (vs:=vs) hi h9 h8
 have hpar:=fun (b:Nat) (h9:25≤t[i].op) (h8:t[i].a=(b:Int))=>zO9 T hi h9 h8
 have hbn:=zOn T hi;have hfew:=few T;have hpl:=zFl (t:=t) hi;have hp':t.length*64≤140737488355328:=hp;generalize hxx:t[i]=x at *;obtain⟨op,num,var,attr,xa,xb⟩:=x;simp only[yC,ii,ss]at hc h14 hop hown hset hpar hbn;by_cases h25:25≤op
 ·obtain⟨b1,b2,_⟩:=hbn (by omega)
  obtain⟨b,rfl⟩:∃b:Nat,xa=b:=⟨xa.toNat,by omega⟩
  obtain⟨hs1,hs2⟩:=hset b h25 rfl;have hpb:=hpar b h25 rfl;have hbi:b<i:=by omega
  have hbt:b<t.length:=by omega
  have hpp:=zFl (t:=t) hbi;rw[hpb]at hpp;simp only[zDv,if_true]at hpp;obtain⟨x1,x2,x3,x4,x5,x6,x7,x8,x9,x10,⟨ca,la,cs⟩,x12,x13,x14⟩:=a;simp only[]at x1 x2 x3 x4 x5 x6 x7 x8 x9 x10 x12 x13 x14 cs;have hjl:((jpL t i).map ii).length=t.length:=by rw[zQ,zGz]
  have hjb:b<((jpL t i).map ii).length:=by omega
  have hjg:((jpL t i).map ii)[b]'hjb=.v (.int .i64 ((zA1 t b:Int)+1)):=by
   rw[wN];have:=zS5 hbt i;rw[zA (by rw[zGz];exact hbt),if_pos ⟨hbi,by rw[hpb];rfl⟩]at this
   rw[Option.some.inj this];rfl
  have hb1:b+1≤t.length:=hbt;have hcl:(zD2 vs t i++[zE6 vs t i]).length=zA1 t i+1:=by rw[zM,zM1];rfl
  obtain⟨w,u,rfl,hw,hw1,hw2,hw3,hw4⟩:=cs.hc.resolve_left (fun e=>by have:=e.1;simp at this)
  have hm:=cs.hm;have y1:¬m=w:=fun e=>hw3 e.symm
  have hplb:zA1 t b+1<(zD2 vs t i).length:=by rw[zM1];omega
  have hgl:(zD2 vs t i++[zE6 vs t i])[zA1 t b+1]'(by rw[hcl];omega)=⟨op,0,0,0,0⟩:=by
   rw[List.getElem_append_left hplb];rw[zA hplb]at hs2;exact Option.some.inj hs2
  have hfs:=zTa Flat.ins [] (c:=4) (by omega) (ii ((zA1 t i:Int)+1)) ⟨op,0,0,0,(zA1 t i:Int)+1⟩ (zD2 vs t i++[zE6 vs t i]) (zA1 t b+1) (by rw[hcl];omega) (by rw[hgl];rfl)
  rw[List.append_nil,List.append_nil,List.set_append_left _ _ hplb,hs1]at hfs;have hfl:((zD2 vs t i++[zE6 vs t i]).flatMap zBb).length=(zA1 t i+1)*5:=by rw[zCl Flat.ins,hcl]
  have hw1':IntKind.i64.wrap ((zA1 t b:Int)+1)=(zA1 t b:Int)+1:=zMq (by unfold Rng;omega)
  rw[hcl]at hm;generalize hcs:(zD2 vs t i++[zE6 vs t i]).flatMap zBb=cells at *;generalize hjs:(jpL t i).map ii=js at *;have hag:∀bk:Option Blk,agree n h (Eng.up h1 w bk):=fun bk=>(zD (by have:=hw1.1;omega) _).2 x13
  have hcl':(zGl t (zE6 vs t) (zI4 t (toP t (i+1))) i++[zE6 vs t i]).length=zA1 t i+1:=by rw[zM,zBs];rfl
  have fin:∀(e2:Nat→AV),(∀j∈[2,6,7,9,10,13],e2 j=e j)→D20 h n sa ta t (t.map (wA vs)) tys wi m mm wb wj i (zGl t (zE6 vs t) (zI4 t (toP t (i+1))) i++[zE6 vs t i]) (wL t (i+1)) ⟨e2,Eng.up h1 w (some ⟨cells.set ((zA1 t b+1)*5+4) (.v (.int .i64 ((zA1 t i:Int)+1))),u,true,5⟩),n1+1⟩:=fun e2 he=>by
   have hwb:=hw1.2.2.1;have hwj:=hw1.2.2.2;have hwi:=hw1.2.1;have hwn:=hw1.1;refine⟨by simp only[he 2 (by simp)];exact x1,by simp only[he 6 (by simp)];exact x2,by simp only[he 7 (by simp)];exact x3,by simp only[he 9 (by simp)];exact x4,by simp only[he 10 (by simp)];exact x5,by simp only[he 13 (by simp)];exact x6,?_,?_,?_,?_,⟨.s w u 0 (zGl t (zE6 vs t) (zI4 t (toP t (i+1))) i++[zE6 vs t i]).length,la,?_⟩,⟨x12.1,x12.2.1,x12.2.2.1,x12.2.2.2.1,x12.2.2.2.2.1,by simp only[];omega⟩,hag _,(zF (by simp only[];omega) _).2 (x14.add 1)⟩
   ·simp only[];rw[zP _ _ (by omega)];exact x7
   ·simp only[];rw[zP _ _ (fun e=>hwi e.symm)];exact x8
   ·simp only[];rw[zP _ _ (fun e=>hwb e.symm)];exact x9
   ·simp only[];rw[zP _ _ (fun e=>hwj e.symm),hjs];exact x10
   ·refine cs.lay (n':=n1+1) (by simp only[];rw[zP _ _ y1,hcl'];exact hm) (yT hn e1 _ (hag _)) (fun q _ _ _ hq=>zP _ _ (fun e=>hq e.symm)) (by omega) (fun q hq=>.inl hq) (.inr ⟨w,u,rfl,?_,hw1,by omega,hw3,hw4⟩)
    simp only[];rw[zJ,←hfs];rfl
  have hbl2:(zA1 t b+1)*5+5≤cells.length:=by rw[hfl];omega
  rcases (show op=25∨op=26 by omega)with rfl|rfl
  ·simp[evx,hdC,tlC,zZz,zV3,inB,yW,Tryz.f60,h14,q15,hc,x4,x6,x10,ii,hm,hb1,hbt,hjl,hjg,hw]
   exact⟨⟨by omega,by omega⟩,hbl2,⟨by simpa[up]using q56,by simpa[up,ii]using q57,by simpa[up,ii]using q58⟩,fin _ (by simp[up])⟩
  ·simp[evx,hdC,tlC,zZz,zV3,inB,yW,Tryz.f60,h14,q15,hc,x4,x6,x10,ii,hm,hb1,hbt,hjl,hjg,hw]
   exact⟨⟨by omega,by omega⟩,hbl2,⟨by simpa[up]using q56,by simpa[up,ii]using q57,by simpa[up,ii]using q58⟩,fin _ (by simp[up])⟩
 ·have hle:=hown (by omega)
  rw[hle]at a0;have o25:¬op=25:=by omega
  have o26:¬op=26:=by omega
  simp[evx,hdC,tlC,zZz,zV3,inB,yW,Tryz.f60,h14,q15,hc,ii,o25,o26];exact⟨⟨by simpa[up]using q56,by simpa[up,ii]using q57,by simpa[up,ii]using q58⟩,a0.up (by simp[up]) rfl rfl⟩
end
end
section
section
variable {h:Heap} {n:Nat} {sa ta:AV} {tys:List Ty} {t:List Nd} {vs:List ByteArray} {wi m mm wb wj i:Nat} {lo:Nat→Nat}
theorem yMs (T:Tre t lo) (hp:xQ t) (s:St) (hi:i<t.length) (hat:yCs ta t.length i s) (h14:s.e 14=ii i)
  (e1:rd zE7 h sa=some tys) (hn:Fresh n h) (a:D20 h n sa ta t (t.map (wA vs)) tys wi m mm wb wj i (zGl t (zE6 vs t) (zI4 t (toP t (i+1))) i++[zE6 vs t i]) (wL t (i+1)) s) {Q:Ex→St→Prop} :
  awp (cx [3] (pfL [])) (tlC 3 zZz) (zAs (fun s'=>yCs ta t.length i s'∧D20 h n sa ta t (t.map (wA vs)) tys wi m mm wb wj (i+1) (zD2 vs t (i+1)) (wL t (i+1)) s') Q) s:=by
 obtain⟨e,h1,n1⟩:=s;have a0:=a;obtain⟨q56,q57,q58⟩:=hat;simp only[]at h14 q56 q57 q58;obtain⟨x1,x2,x3,x4,x5,x6,x7,x8,x9,x10,⟨ca,la,cs⟩,x12,x13,x14⟩:=a;simp only[]at x1 x2 x3 x4 x5 x6 x7 x8 x9 x10 x12 x13 x14 cs;have hsucc:=zW7 T vs i;have hfew:=few T;have hpl:=zFl (t:=t) hi;have hp':t.length*64≤140737488355328:=hp;have hbl:((bhL t t.length).map ii).length=t.length:=by rw[zQ,zGb]
 have hib:i<((bhL t t.length).map ii).length:=by omega
 have hbg:((bhL t t.length).map ii)[i]'hib=.v (.int .i64 (bhT t t.length i)):=by
  rw[wN];have:=zTx hi t.length;rw[zA (by rw[zGb];exact hi)]at this
  rw[Option.some.inj this];rfl
 have hi1:i+1≤t.length:=hi;have hjl:((jpL t i).map ii).length=t.length:=by rw[zQ,zGz]
 have hcl:(zGl t (zE6 vs t) (zI4 t (toP t (i+1))) i++[zE6 vs t i]).length=zA1 t i+1:=by rw[zM,zBs];rfl
 generalize hbs:(bhL t t.length).map ii=bs at *;cases hpar:zGf t i with
 | none =>
  rw[hpar]at hsucc;simp only[Option.isSome_none,yO,if_false]at hsucc;have hb0:bhT t t.length i=0:=by rw[zZj,hpar]
  have hjs:=yBy hpar;rw[hb0]at hbg;simp[evx,hdC,tlC,zZz,zV3,inB,yW,Tryz.f60,h14,x5,x9,ii,hi,hi1,hbl,hbg];rw[hsucc];refine⟨⟨by simpa[up]using q56,by simpa[up,ii]using q57,by simpa[up,ii]using q58⟩,by simpa[up]using x1,by simpa[up]using x2,by simpa[up]using x3,by simpa[up]using x4,by simpa[up]using x5,by simpa[up]using x6,x7,x8,by simp only[];rw[hbs];exact x9,by simp only[];rw[hjs];exact x10,⟨ca,la,cs⟩,x12,x13,x14⟩
 | some p =>
  rw[hpar]at hsucc;simp only[zDv,if_true]at hsucc;obtain⟨hp1,hp2,hp3⟩:=zFm hpar;have hb0:¬bhT t t.length i=0:=by rw[zZj,hpar];simp only;rw[zAx hp1];omega
  have hjs:=yGj hi (by rw[hpar];rfl)
  have hjs2:(((jpL t i).map ii).set i (.v (.int .i64 ((zA1 t i:Int)+1))))=(jpL t (i+1)).map ii:=by rw[←hjs,List.map_set];rfl
  have hm:=cs.hm;obtain⟨k1,k2,k3,k4,k5⟩:=yHq cs;rw[hcl]at k2;have wjG:¬G20 n wi wb wj wj:=fun hx=>hx.2.2.2 rfl
  have y1:¬m=wj:=by omega
  have y2:¬wb=wj:=by omega
  have c1:CS (Eng.up h1 wj (some ⟨((jpL t i).map ii).set i (.v (.int .i64 ((zA1 t i:Int)+1))),0,true,1⟩)) (G20 n wi wb wj) (n1+1) m tys sa ca la mm (zGl t (zE6 vs t) (zI4 t (toP t (i+1))) i++[zE6 vs t i]) (wL t (i+1)):=by
   obtain⟨z1,z2,z3,z4,z5,z6,z7⟩:=cs;refine⟨by rw[zP _ _ y1];exact z1,⟨z2.1,by omega⟩,yT hn e1 _ ((zD (by omega) _).2 x13),?_,?_,by rw[zP _ _ (by omega)];exact z6,⟨z7.1,by omega,z7.2.2⟩⟩
   ·rcases z4 with h0|⟨w,u,k1,k2,k3,k4,k5⟩
    ·exact .inl h0
    ·exact .inr ⟨w,u,k1,by rw[zP _ _ k3.2.2.2];exact k2,k3,by omega,k5⟩
   ·rcases z5 with h0|⟨w,u,cs,k1,k2,k3,k4,k5,k6,k7,k8,k9⟩
    ·exact .inl h0
    ·refine .inr ⟨w,u,cs,k1,by rw[zP _ _ k3.2.2.2];exact k2,k3,by omega,k5,k6,k7,k8,fun i hi => ?_⟩
     obtain⟨cc,j1,j2⟩:=k9 i hi;exact⟨cc,j1,j2.up (fun q hg _ _=>zP _ _ hg.2.2.2) (fun _ _ _ hx=>hx) (by omega)⟩
  have L:=c56 c1 ⟨bhT t t.length i,0,0,0,0⟩ (by rw[hcl];omega) (fun q hq=>⟨by omega,by omega,by omega,by omega⟩) (fun h' hk9=>yT hn e1 _ fun q hq=>by
   rw[hk9 q (by omega) (fun hx=>by have:=hx.1;omega),zP _ _ (by omega)];exact x13 q hq) ((zF (by omega) _).2 (x14.add 1))
  simp only[iv,zBb,ii]at L;generalize hjj:(jpL t i).map ii=js at *;simp[evx,hdC,tlC,zZz,zV3,inB,yW,Tryz.f60,h14,x4,x5,x6,x9,x10,ii,hi,hi1,hbl,hbg,hb0,hjl,hm,y2,k1,k2];refine (wD (S:=[]) (by simp) L).mono ?_
  rintro v h2 n2 ⟨a1,a2,a3,ca',a4⟩;rw[hsucc];have b3:∀q,q<n1→¬G20 n wi wb wj q→q≠wj→h2 q=h1 q:=fun q hq hg hw=>by rw[a1 q (by omega) hg,zP _ _ hw]
  rw[xT]at a4;refine⟨⟨by simpa[up]using q56,by simpa[up,ii]using q57,by simpa[up,ii]using q58⟩,by simpa[up]using x1,by simpa[up]using x2,by simpa[up]using x3,by simpa[up]using x4,by simpa[up]using x5,by simpa[up]using x6,?_,?_,?_,?_,⟨ca',la,a4⟩,⟨x12.1,x12.2.1,x12.2.2.1,x12.2.2.2.1,x12.2.2.2.2.1,by simp only[];omega⟩,fun q hq => ?_,a2⟩
  ·simp only[]
   rw[b3 _ (by omega) (fun hx=>by have:=hx.1;omega) (by omega)];exact x7
  ·simp only[]
   rw[b3 _ (by omega) (fun hx=>hx.2.1 rfl) (by omega)];exact x8
  ·simp only[]
   rw[b3 _ (by omega) (fun hx=>hx.2.2.1 rfl) (by omega),hbs];exact x9
  ·simp only[]
   rw[a1 _ (by omega) wjG,zJ,hjs2]
  ·simp only[]
   rw[b3 _ (by omega) (fun hx=>by have:=hx.1;omega) (by omega)];exact x13 q hq
theorem yPc (T:Tre t lo) (e5:rd dNs h ta=some t) (e1:rd zE7 h sa=some tys) (hp:xQ t) (htl:tys.length*8≤140737488355328) (hst:zCa tys) (hn:Fresh n h) (s:St)
  (a:D20 h n sa ta t (t.map (wA vs)) tys wi m mm wb wj 0 [] [] s) {Q:Ex→St→Prop} :
  awp (cx [3] (pfL [])) (hdC 1 (tlC 7 (Tryz.f60.body.getD .skip))) (zAs (D20 h n sa ta t (t.map (wA vs)) tys wi m mm wb wj t.length (zIs vs t) (zBf t)) Q) s:=by
 obtain⟨e,h1,n1⟩:=s;have a0:=a;have x1:=a.q2;simp only[]at x1;obtain⟨s1,s2,s3,s4,s5⟩:=zN e5;have hp':t.length*64≤140737488355328:=hp;have e0:hdC 1 (tlC 7 (Tryz.f60.body.getD .skip))=.seq (hdC 1 (hdC 1 (tlC 7 (Tryz.f60.body.getD .skip)))) (.block 3 (.loop zV3)):=rfl;rw[e0];have hpe:=yAz (t:=t) vs;simp[evx,hdC,tlC,Tryz.f60,x1,s1,s2];refine yN (fun s=>∃i,i≤t.length∧yCs ta t.length i s∧D20 h n sa ta t (t.map (wA vs)) tys wi m mm wb wj i (zD2 vs t i) (wL t i) s) (fun s=>t.length-(s.e 58).i.toNat) ⟨0,by omega,⟨by simp[up],by simp[up,ii],by simp[up,ii]⟩,a0.up (by simp[up,x1]) rfl rfl⟩ ?_
 rintro e' h' n' ⟨i,hi,hat,a⟩;by_cases hlt:i<t.length
 ·have hw:=yK (j:=i) (by unfold big;omega)
  refine zZ 2 _ _ (R:=fun s=>yCs ta t.length i s∧D20 h n sa ta t (t.map (wA vs)) tys wi m mm wb wj i (zD2 vs t i) (wL t i) s) ?_ fun e2 h2 n2 ⟨hat2,a2⟩ => ?_
  ·obtain⟨q56,q57,q58⟩:=hat
   simp only[]at q56 q57 q58;simp[evx,hdC,tlC,zV3,yW,Tryz.f60,q57,q58,ii,hlt];exact⟨⟨by simpa[up]using q56,by simpa[up,ii]using q57,by simpa[up,ii]using q58⟩,a.up (by simp[up]) rfl rfl⟩
  refine zZ 1 _ _ (R:=fun s=>yCs ta t.length i s∧D20 h n sa ta t (t.map (wA vs)) tys wi m mm wb wj (i+1) (zD2 vs t (i+1)) (wL t (i+1)) s) ?_ fun e3 h3 n3 ⟨hat3,a3⟩ => ?_
  ·have e1':hdC 1 (tlC 2 zV3)=.block 4 zZz:=rfl
   rw[e1',zAy];refine zZ 2 _ _ (yMu T e5 e1 hp htl hst hn _ hlt hat2 a2) fun e4 h4 n4 ⟨hat4,h14,h15,a4⟩ => ?_
   refine zZ 1 _ _ (yMt T hp _ hlt hat4 h14 h15 e1 hn a4) fun e5' h5 n5 ⟨hat5,h14',a5⟩ => ?_
   refine zBk _ (fun x s hx => ?_) (yMs T hp _ hlt hat5 h14' e1 hn a5 (Q:=fun _ _=>False))
   cases x with
   | normal=>exact hx
   | exit id=>exact hx.elim
   | ret=>exact hx.elim
  ·obtain⟨q56,q57,q58⟩:=hat3
   simp only[]at q56 q57 q58;have q58':=hat.2.2;simp only[]at q58';simp[evx,hdC,tlC,zV3,yW,Tryz.f60,q58,q58',ii,hw];exact⟨⟨i+1,by omega,⟨by simpa[up]using q56,by simpa[up,ii]using q57,by simp[up,ii]⟩,a3.up (by simp[up]) rfl rfl⟩,by omega⟩
 ·obtain rfl:i=t.length:=by omega
  obtain⟨q56,q57,q58⟩:=hat;simp only[]at q56 q57 q58;rw[hpe]at a;simp[evx,hdC,tlC,zV3,yW,Tryz.f60,q57,q58,ii];exact a.up (by simp[up]) rfl rfl
theorem yPb (s:St) {code:List Ins} {names:List ByteArray} {i:Nat} (a:D20 h n sa ta t (t.map (wA vs)) tys wi m mm wb wj i code names s) :
  awp (cx [3] (pfL [])) (tlC 8 (Tryz.f60.body.getD .skip)) (zBc (cx [3] (pfL [])) Tryz.f60 fun z h' n'=>agree n h h'∧Fresh n' h'∧n≤n'∧OwnQ h' n n' z ⟨code,names.map (zEc tys)⟩) s:=by
 obtain⟨e,h1,n1⟩:=s;obtain⟨x1,x2,x3,x4,x5,x6,x7,x8,x9,x10,⟨ca,la,cs⟩,x12,x13,x14⟩:=a;simp only[]at x1 x2 x3 x4 x5 x6 x7 x8 x9 x10 x12 x13 x14 cs;obtain⟨k1,k2,k3,k4,k5⟩:=yHq cs;obtain⟨l1,l2,l3,l4,l5⟩:=yJk cs;have hm:=cs.hm;have y1:¬m=n+2:=by omega
 simp[evx,tlC,Tryz.f60,x2,x4,x7,hm,k4,l4];have hag:∀b:Option Blk,agree n h (up h1 (n+2) b):=fun b=>(zD (by omega) _).2 x13
 refine⟨hag _,(zF (by omega) _).2 (x14.add 1),by omega,ca,la,rfl,?_,?_⟩
 ·rcases cs.hc with h0|⟨w,u,c1,c2,c3,c4,c5,c6⟩
  ·exact .inl h0
  ·exact .inr ⟨w,u,c1,by rw[zP _ _ (by have:=c3.1;omega)];exact c2,by have:=c3.1;omega,by omega⟩
 ·rcases cs.hl with ⟨h0,h1⟩|⟨w,u,cs',c1,c2,c3,c4,c5,c6,c7,c8,c9⟩
  ·exact .inl ⟨by rw[h0];rfl,h1⟩
  ·refine .inr ⟨w,u,cs',by rw[c1,zQ],by rw[zP _ _ (by have:=c3.1;omega)];exact c2,by have:=c3.1;omega,by omega,c7,by rw[zQ];exact c8,fun i hi' => ?_⟩
   obtain⟨cc,j1,j2⟩:=c9 i (by rw[zQ]at hi';exact hi')
   refine⟨cc,j1,?_⟩;rw[wN];rcases j2 with j0|⟨b,v,d1,d2,d3,d4,d5⟩
   ·exact .inl j0
   ·exact .inr ⟨b,v,d1,by rw[zP _ _ (by have:=d3.1;omega)];exact d2,by have:=d3.1;omega,by omega,fun hx=>d5 (by rcases hx with hx|hx;exact .inr (.inr (.inl hx));exact .inr (.inr (.inr hx)))⟩
theorem c20 {qx:AV} {q:Qu} (e1:rd zE7 h sa=some tys) (e2:deQ h qx=some q) (e5:rd dNs h ta=some t) (hq:q.items.length<big) (hp:xQ t) (htl:tys.length*8≤140737488355328) (hst:zCa tys) (hn:Fresh n h) :
  ACall (cx [3] (pfL [])) 60 [.g [sa],qx,ta] h n fun z h' n'=>agree n h h'∧Fresh n' h'∧n≤n'∧OwnQ h' n n' z (zAk tys (vars q.items) t):=by
 refine yR (args:=[.g [sa],qx,ta]) (zAr yJ) (zB3 _ _) Tryz.func60 (c:=Tryz.f60.body.getD .skip) rfl (by kernel_rfl) (xK Tryz.func60 rfl rfl _ _) (show 3≤Tryz.f60.ntmps by decide +kernel) ?_
 refine zZ 2 _ _ (yPg e1 e2 e5 hq hp hn _ rfl rfl rfl) fun e3 h3 n3 hx => ?_
 rcases hx with ⟨hr,h8,wi,a⟩|⟨hr,h8,h6,hk,ha,hf,hnn⟩
 ·have hcp:zAk tys (vars q.items) t=⟨zIs (vars q.items) t,(zBf t).map (zEc tys)⟩:=by rw[zAk,if_pos hr]
  have T:=zCt (show zAh t=true by simp only[zI9,zO]at hr;exact hr.1)
  rw[hcp];refine zZ 1 _ _ (yMw _ h8 a) fun e4 h4 n4 a4 => ?_
  refine zZ 2 _ _ (yPf e5 hp e1 _ a4) fun e5' h5 n5 ⟨m,mm,wb,a5⟩ => ?_
  refine zZ 1 _ _ (yPe T e5 hp hn _ a5) fun e6 h6 n6 a6 => ?_
  refine zZ 1 _ _ (yPd e5 e1 hp hn _ a6) fun e7 h7 n7 ⟨wj,a7⟩ => ?_
  refine zZ 1 _ _ (yPc T e5 e1 hp htl hst hn _ a7) fun e8 h8 n8 a8 => ?_
  exact yPb _ a8
 ·have hcp:zAk tys (vars q.items) t=⟨[],[]⟩:=by rw[zAk,if_neg (by rw[hr];exact Bool.false_ne_true)]
  rw[hcp];exact zZ 1 _ _ (yMv _ h8 h6 hk ha hf hnn) (R:=fun _=>False) fun _ _ _ hf=>hf.elim
end
end
theorem OwnF.snoc {α:Type} {en:α→List AV} {sz:Nat} {h h2:Heap} {lo hi hi2 m:Nat} {f:Nat→Nat} {ll:List (List α)} {j:Nat} (o:OwnF en sz h lo hi f ll j) (hh:∀i,i<j→h2 (f i)=h (f i)) (h1:lo≤hi) (h3:hi≤m) (h4:m<hi2)
  (hb:h2 m=some ⟨(ll.getD j []).flatMap en,1,true,sz⟩):OwnF en sz h2 lo hi2 (fun i=>if i=j then m else f i) ll (j+1):=by
 refine⟨fun i hi' => ?_,fun i hi' => ?_,fun i k hi' hk' he => ?_⟩
 ·split
  ·omega
  ·have:=o.rng i (by omega);omega
 ·split
  ·rename_i e;subst e;exact hb
  ·rw[hh i (by omega)];exact o.blk i (by omega)
 ·split at he
  ·rename_i e
   split at he
   ·omega
   ·have:=(o.rng k (by omega)).2;omega
  ·split at he
   ·have:=(o.rng i (by omega)).2;omega
   ·exact o.inj i k (by omega) (by omega) he
def ic:Int→List AV:=fun x=>[ii x]
theorem Flat.ic:Flat 1 (De.int .i64) ic:=Flat.int
def OwnP (h:Heap) (lo hi:Nat) (z:AV) (p:Pr):Prop:=∃w zb,z=.g [.s w 1 0 p.code.length,zb]∧h w=some ⟨p.code.flatMap zBb,1,true,5⟩∧lo≤w∧w<hi∧OwnL ic 1 h (w+1) hi zb p.cols p.cols.length
theorem OwnP.congr {h h':Heap} {lo hi hi':Nat} {z:AV} {p:Pr} (o:OwnP h lo hi z p) (hh:∀q,lo≤q→q<hi→h' q=h q) (hi2:hi≤hi'):OwnP h' lo hi' z p:=by
 obtain⟨w,zb,o1,o2,o3,o4,o5⟩:=o;exact⟨w,zb,o1,by rw[hh _ o3 o4];exact o2,o3,by omega,o5.congr (fun q h1 h2=>hh q (by omega) h2) hi2⟩
theorem OwnP.rd {h:Heap} {lo hi:Nat} {z:AV} {p:Pr} (o:OwnP h lo hi z p):zLr h z=some p:=by
 obtain⟨w,zb,rfl,o2,o3,o4,o5⟩:=o;exact zKz (zB2 Flat.ins o2 rfl (r:=[]) (by simp)) (o5.rd Flat.ic)
theorem OwnL.is {α:Type} {en:α→List AV} {sz:Nat} {h:Heap} {lo hi:Nat} {z:AV} {ll:List (List α)} {j:Nat} (o:OwnL en sz h lo hi z ll j):z.isS∧z.slen=j∧(∀g,AV.unc g z=z)∧z.one∧z.cells=[z]:=by
 obtain⟨f,_,⟨h0,rfl⟩|⟨w,u,rfl,_⟩⟩:=o
 ·exact⟨⟨rfl,rfl⟩,h0.symm,fun _=>rfl,rfl,rfl⟩
 ·exact⟨trivial,rfl,fun _=>rfl,trivial,rfl⟩
theorem yD2:∀l:List Int,l.map ii=l.flatMap ic
 | []=>rfl
 | a::r=>by rw[wE,xZ,yD2 r];rfl
theorem KC.rd {h:Heap} {G:Nat→Prop} {hi:Nat} {bad:Nat→Prop} {c:AV} {l:List Int} (k:KC h G hi bad c l):rd dIs h c=some l:=by
 rcases k with ⟨rfl,rfl⟩|⟨b,v,rfl,k2,_⟩
 ·rfl
 ·exact zB2 Flat.ic (l:=l) k2 rfl (r:=[]) (by rw[yD2];simp)
theorem yHk {h:Heap} {w u:Nat} {cs:List AV} {cols:List (List Int)} (hk:h w=some ⟨cs,u,true,1⟩) (hl:cs.length=cols.length) (ha:∀i (hi':i<cols.length),∃c,cs[i]? = some c∧rd dIs h c=some cols[i]):rd yEd h (.s w u 0 cols.length)=some cols:=by
 refine De.sl_in (off:=0) hk (by simp only[];omega) fun i hi => ?_
 obtain⟨c,h1,h2⟩:=ha i hi;simp only[yQ,xM];obtain⟨h3,h4⟩:=yB.1 h1;rw[xO h3,h4];exact h2
theorem OwnQ.rd {h:Heap} {lo hi:Nat} {z:AV} {p:Pr} (o:OwnQ h lo hi z p):zLr h z=some p:=by
 obtain⟨ca,la,rfl,o1,o2⟩:=o;refine zKz ?_ ?_
 ·rcases o1 with ⟨h0,rfl⟩|⟨w,u,rfl,k,_⟩
  ·rw[h0];rfl
  ·exact zB2 Flat.ins k rfl (r:=[]) (by simp)
 ·rcases o2 with ⟨h0,rfl⟩|⟨w,u,cs,rfl,k,_,_,_,hl,ha⟩
  ·rw[h0];rfl
  ·exact yHk k hl fun i hi=>by
    obtain⟨c,h1,h2⟩:=ha i hi;exact⟨c,h1,h2.rd⟩
theorem OwnQ.up {h h':Heap} {lo hi lo' hi':Nat} {z:AV} {p:Pr} (o:OwnQ h lo hi z p) (hh:∀q,lo≤q→q<hi→h' q=h q) (h1:lo'≤lo) (h2:hi≤hi'):OwnQ h' lo' hi' z p:=by
 obtain⟨ca,la,rfl,o1,o2⟩:=o;refine⟨ca,la,rfl,?_,?_⟩
 ·rcases o1 with h0|⟨w,u,k1,k2,k3,k4⟩
  ·exact .inl h0
  ·exact .inr ⟨w,u,k1,by rw[hh w k3 k4];exact k2,by omega,by omega⟩
 ·rcases o2 with h0|⟨w,u,cs,k1,k2,k3,k4,k5,k6,k7⟩
  ·exact .inl h0
  ·refine .inr ⟨w,u,cs,k1,by rw[hh w k3 k4];exact k2,by omega,by omega,k5,k6,fun i hi => ?_⟩
   obtain⟨c,j1,j2⟩:=k7 i hi;refine⟨c,j1,?_⟩;rcases j2 with j0|⟨b,v,d1,d2,d3,d4,d5⟩
   ·exact .inl j0
   ·exact .inr ⟨b,v,d1,by rw[hh b d3 d4];exact d2,xL h1 d3,by omega,d5⟩
theorem OwnQ.is {h:Heap} {lo hi:Nat} {z:AV} {p:Pr} (o:OwnQ h lo hi z p):∃ca la,z=.g [ca,la]∧ca.one∧la.one∧(∀g,AV.unc g ca=ca)∧(∀g,AV.unc g la=la)∧ca.cells=[ca]∧la.cells=[la]:=by
 obtain⟨ca,la,rfl,o1,o2⟩:=o;refine⟨ca,la,rfl,?_⟩;rcases o1 with ⟨_,rfl⟩|⟨w,u,rfl,_⟩<;>rcases o2 with ⟨_,rfl⟩|⟨w',u',cs',rfl,_⟩<;>exact⟨by first|rfl|trivial,by first|rfl|trivial,fun _=>rfl,fun _=>rfl,rfl,rfl⟩
def HasP (s:St) (i p0 hi:Nat) (p:Pr):Prop:=∃m ca la,s.e i=.p m 0 0∧p0≤m∧m<hi∧hi≤s.n∧s.h m=some ⟨[ca,la],0,true,2⟩∧OwnQ s.h p0 hi (.g [ca,la]) p
theorem HasP.up {s s':St} {i p0 hi:Nat} {p:Pr} (a:HasP s i p0 hi p) (he:s'.e i=s.e i) (hh:∀q,p0≤q→q<hi→s'.h q=s.h q) (hn:s.n≤s'.n):HasP s' i p0 hi p:=by
 obtain⟨m,ca,la,h1,h2,h3,h4,h5,h6⟩:=a;exact⟨m,ca,la,he.trans h1,h2,h3,by omega,by rw[hh m h2 h3];exact h5,h6.up hh (zC _) (zC _)⟩
section
theorem zAd {X:Ctx} {ops:Array Oper} {e:Nat→AV} {h:Heap} {m:Nat} {b:Option Blk} (h1:(ops.toList.all fun o => !(goOp o&&quietOp X o))=true) (h2:∀t∈wZ ops,∃id ver off,e t=.p id ver off∧id≠m):zEa X ops e h (up h m b) :=
 .inr ⟨h1,fun t ht=>by
  obtain⟨id,ver,off,e1,e2⟩:=h2 t ht;rw[e1];intro k hk;rw[zP _ _ e2];exact hk⟩
def zHa:List (FuncId×(List AV→Heap→PRes)):=[(118,zRv)]
section
variable {hB:Heap} {n1 bid mid:Nat} {T:Nat→Nat} {p:Pt} {P:Pl} {f:ByteArray→Option (Bool×Nat)}
structure M59 (h:Heap) (n:Nat) (pr:Pr) (m5 lo hi:Nat) (ca la:AV) (s:St):Prop where
 q5:s.e 5=.p m5 0 0
 b5:s.h m5=some ⟨[ca,la],0,true,2⟩
 ow:OwnQ s.h lo hi (.g [ca,la]) pr
 ord:n≤m5∧m5<s.n∧n≤lo∧lo≤hi∧hi≤s.n∧(m5<lo∨hi≤m5)
theorem yPw {t:List Nd} {ta:AV} (hq:P.q.items.length*64≤140737488355328) (hp:xQ t) (htl:P.sc.length*8≤140737488355328) (hst:zCa P.sc) {h:Heap} {n:Nat} (b:BI hB n1 bid mid T h n p P f) (et:rd dNs (still T h) ta=some t) (e:Nat→AV) (q0:e 0=.p bid 0 0) (q1:e 1=ta) {Q} :
  awp (cz [3] (pfL zHa)) (hdC 2 (Tryz.f59.body.getD .skip)) (zAs (fun s=>s.e 0=.p bid 0 0∧s.e 1=ta∧s.e 4=.p bid 0 0∧agree n h s.h∧Fresh s.n s.h∧n≤s.n∧∃m5 lo hi ca la,M59 h n (zAk P.sc (vars P.q.items) t) m5 lo hi ca la s) Q) ⟨e,h,n⟩:=by
 obtain⟨lb,lm,nbm⟩:=b.low;have hbb:=b.bb;have hfr:=b.s.fr;have k60:∀(pf:FuncId→Option (List AV→Heap→PRes)) (h1:Heap) (n1:Nat),agree n h h1→Fresh n1 h1→n≤n1→ACall (cz [3] pf) 60 [.g [p.sa],.g [p.qa,.v (.int .i64 P.q.mode),.v (.int .i64 P.q.after),p.qb,.v (.int .i64 P.q.within),.v (.string P.q.par),p.qc],ta] h1 n1 fun z h' n'=>agree n1 h1 h'∧Fresh n' h'∧n1≤n'∧OwnQ h' n1 n' z (zAk P.sc (vars P.q.items) t):=fun pf h1 n1 a1 a2 a3 =>
  zDo (fun _ h=>h) (c20 (yT hfr (yZ (zA8 _ _) b.s.sch) _ a1) (zC0 (zB8 hfr a1) (zC0 (zA8 _ _).sim b.s.qu)) (yT hfr (yZ (zA8 _ _) et) _ a1) (by unfold big;omega) hp htl hst a2)
 simp[evz,hdC,Tryz.f59,q0,q1,hbb,xH,ii,ss,zHa];refine⟨(k60 _ _ _ (zE _ _) hfr (zC _)).mono ?_,(k60 _ _ _ ((zD (zC _) _).2 (zE _ _)) ((zF (by omega) _).2 (hfr.add 1)) (by omega)).mono ?_⟩
 ·rintro v h2 n2 ⟨a1,a2,a3,o⟩
  obtain⟨ca,la,rfl,o1,o2,o3,o4,o5,o6⟩:=o.is;refine⟨.inl fun i k e=>by rw[a1 i (xB e hfr)];exact e,⟨rfl,o1,o2,trivial⟩,?_⟩
  refine⟨fun _=>zAd rfl fun t ht => ?_,(zD (by omega) _).2 ((zD (by omega) _).2 a1),(zF (by omega) _).2 ((zF (by omega) _).2 (a2.add 2)),by omega,n2,n,n2,ca,la,⟨by simp[up],by simp only[];rw[zJ];rfl,o.up (fun q h1 h2=>by simp only[];rw[zP _ _ (by omega),zP _ _ (by omega)]) (zC _) (zC _),by simp only[];omega⟩⟩
  simp[wZ]at ht;rcases ht with rfl|rfl<;>exact⟨bid,0,_,by simp[up];rfl,by omega⟩
 ·rintro v h2 n2 ⟨a1,a2,a3,o⟩
  obtain⟨ca,la,rfl,o1,o2,o3,o4,o5,o6⟩:=o.is;have hb:=a1 n (by omega)
  rw[zJ]at hb;have hag:agree n h h2:=fun i hi=>by rw[a1 i (by omega),zP _ _ (by omega)]
  refine⟨.inl fun i k e=>by rw[a1 i (xB e ((zF (by omega) _).2 (hfr.add 1)))];exact e,?_⟩
  simp only[hb];refine⟨⟨⟨trivial,trivial,zC _⟩,rfl,o1,o2,trivial⟩,fun _=>zAd rfl fun t ht => ?_,(zD (by omega) _).2 hag,(zF (by omega) _).2 (a2.add 1),by omega,n,n+1,n2,ca,la,⟨by simp[up],by simp only[];rw[zJ];rfl,o.up (fun q h1 h2=>by simp only[];rw[zP _ _ (by omega)]) (zC _) (zC _),by simp only[];omega⟩⟩
  simp[wZ]at ht;rcases ht with rfl|rfl<;>exact⟨bid,0,_,by simp[up];rfl,by omega⟩
end
end
section
structure U59 (h:Heap) (n:Nat) (q:Qu) (t:List Nd) (m6:Nat) (a1 a2 a3:AV) (s:St):Prop where
 q6:s.e 6=.p m6 0 0
 b6:s.h m6=some ⟨[a1,a2,a3],0,true,3⟩
 m6:n≤m6∧m6<s.n
 r1:rd dIs s.h a1=some (zA0 wU (vars q.items) t)
 r2:rd dIs s.h a2=some (zA0 zDk (vars q.items) t)
 r3:rd dIs s.h a3=some (zA0 zC3 (vars q.items) t)
 nz:a1=.v (.slice none 0 0)∨0<(zA0 wU (vars q.items) t).length
section
variable {hB:Heap} {n1 bid mid:Nat} {T:Nat→Nat} {p:Pt} {P:Pl} {f:ByteArray→Option (Bool×Nat)}
theorem yPv {t:List Nd} {ta:AV} (hq:P.q.items.length*64≤140737488355328) (hp:xQ t) {h:Heap} {n:Nat} (b:BI hB n1 bid mid T h n p P f) (et:rd dNs h ta=some t) (e:Nat→AV) (q1:e 1=ta) (q4:e 4=.p bid 0 0) {Q} :
  awp (cz [3] (pfL zHa)) (hdC 1 (tlC 2 (Tryz.f59.body.getD .skip))) (zAs (fun s=>(∀i∈[0,1,4,5],s.e i=e i)∧agree n h s.h∧Fresh s.n s.h∧n≤s.n∧∃m6 a1 a2 a3,U59 h n P.q t m6 a1 a2 a3 s) Q) ⟨e,h,n⟩:=by
 have hbb:=b.bb;have hfr:=b.s.fr;obtain⟨lb,lm,nbm⟩:=b.low;simp[evz,hdC,tlC,Tryz.f59,q1,q4,hbb,xH,ii,ss,zHa];refine (zDo (S:=[]) (fun _ h=>by cases h) (yNg (zC0 (zA8 _ _).sim b.s.qu) et hq hp hfr)).mono ?_
 rintro v h2 n2 ⟨⟨a1,a2,a3,x1,x2,x3,rfl,r1,r2,r3⟩,y1,y2,y3,hv,nz⟩;cases hv;obtain⟨s1,s2,s3,s4,s5⟩:=zN r1;obtain⟨t1,t2,t3,t4,t5⟩:=zN r2;obtain⟨u1,u2,u3,u4,u5⟩:=zN r3;have ag:∀b b',agree n2 h2 (up (up h2 n2 b) n2 b'):=fun b b'=>(zD (by omega) _).2 ((zD (by omega) _).2 (zE _ _))
 refine⟨⟨rfl,s4,t4,u4,trivial⟩,(zD (by omega) _).2 ((zD (by omega) _).2 a1),(zF (by omega) _).2 ((zF (by omega) _).2 (a2.add 2)),by omega,n2,x1,x2,x3,⟨by simp[up],by simp only[];rw[zJ];rfl,by simp only[];omega,yT a2 r1 _ (ag _ _),yT a2 r2 _ (ag _ _),yT a2 r3 _ (ag _ _),nz⟩⟩
end
end
section
structure Y59 where
 m5:Nat
 lo:Nat
 hi:Nat
 ca:AV
 la:AV
 m6:Nat
 a1:AV
 a2:AV
 a3:AV
structure S59 (bid:Nat) (P:Pl) (h:Heap) (n:Nat) (t:List Nd) (y:Y59) (s:St):Prop where
 q0:s.e 0=.p bid 0 0
 q4:s.e 4=.p bid 0 0
 ag:agree n h s.h
 fr:Fresh s.n s.h
 nn:n≤s.n
 M:M59 h n (zAk P.sc (vars P.q.items) t) y.m5 y.lo y.hi y.ca y.la s
 U:U59 h n P.q t y.m6 y.a1 y.a2 y.a3 s
theorem M59.up {h:Heap} {n:Nat} {pr:Pr} {m5 lo hi:Nat} {ca la:AV} {s s':St} (m:M59 h n pr m5 lo hi ca la s) (he:s'.e 5=s.e 5) (ha:agree s.n s.h s'.h) (hn:s.n≤s'.n):M59 h n pr m5 lo hi ca la s':=by
 obtain⟨q5,b5,ow,o1,o2,o3,o4,o5,o6⟩:=m;exact⟨he.trans q5,(ha _ o2).trans b5,ow.up (fun i h1 h2=>ha i (by omega)) (zC _) (zC _),o1,by omega,o3,o4,by omega,o6⟩
theorem U59.up {h:Heap} {n:Nat} {q:Qu} {t:List Nd} {m6:Nat} {a1 a2 a3:AV} {s s':St} (u:U59 h n q t m6 a1 a2 a3 s) (he:s'.e 6=s.e 6) (ha:agree s.n s.h s'.h) (hf:Fresh s.n s.h) (hn:s.n≤s'.n):U59 h n q t m6 a1 a2 a3 s':=by
 obtain⟨q6,b6,⟨o1,o2⟩,r1,r2,r3,nz⟩:=u;exact⟨he.trans q6,(ha _ o2).trans b6,⟨o1,by omega⟩,yT hf r1 _ ha,yT hf r2 _ ha,yT hf r3 _ ha,nz⟩
theorem S59.up {bid:Nat} {P:Pl} {h:Heap} {n:Nat} {t:List Nd} {y:Y59} {s s':St} (a:S59 bid P h n t y s) (he:∀i∈[0,4,5,6],s'.e i=s.e i) (ha:agree s.n s.h s'.h) (hf:Fresh s'.n s'.h) (hn:s.n≤s'.n):S59 bid P h n t y s' :=
 ⟨(he 0 (by simp)).trans a.q0,(he 4 (by simp)).trans a.q4,yP a.ag ha a.nn,hf,xL a.nn hn,a.M.up (he 5 (by simp)) ha hn,a.U.up (he 6 (by simp)) ha a.fr hn⟩
section
variable {hB:Heap} {n1 bid mid:Nat} {T:Nat→Nat} {p:Pt} {P:Pl} {f:ByteArray→Option (Bool×Nat)}
theorem yPu {t:List Nd} {h:Heap} {n:Nat} (b:BI hB n1 bid mid T h n p P f) {y:Y59} (e:Nat→AV) (h1:Heap) (n2:Nat) (a:S59 bid P h n t y ⟨e,h1,n2⟩) {Q} :
  awp (cz [3] (pfL zHa)) (hdC 2 (tlC 3 (Tryz.f59.body.getD .skip))) (zAs (fun s=>S59 bid P h n t y s∧s.e 7=bv (zAa P.q t)∧s.e 8=ii P.comps.length∧s.e 9=ii (-1)) Q) ⟨e,h1,n2⟩:=by
 obtain⟨lb,lm,nbm⟩:=b.low;have a0:=a;obtain⟨q0,q4,ag,fr,nn,M,U⟩:=a;obtain⟨q6,b6,_,r1,r2,r3,nz⟩:=U;simp only[]at q0 q4 ag fr nn q6 b6 r1 r2 r3;have hbb:h1 bid=some ⟨xH p P mid,0,true,17⟩:=(ag _ lb).trans b.bb;obtain⟨s1,s2,s3,s4,s5⟩:=zN r1;obtain⟨t1,t2,t3,t4,t5⟩:=zN r2;obtain⟨u1,u2,u3,u4,u5⟩:=zN r3;obtain⟨c1,c2,c3,c4,c5⟩:=b.cm.isS;have fin:∀(e':Nat→AV) (x:Bool),(∀i∈[0,4,5,6],e' i=e i)→S59 bid P h n t y ⟨e',h1,n2⟩:=fun e' x he=>a0.up he (zE _ _) fr (zC _)
 by_cases k1:(zA0 wU (vars P.q.items) t).length=1
 ·by_cases k2:(zA0 zDk (vars P.q.items) t).length=0
  ·by_cases k3:(zA0 zC3 (vars P.q.items) t).length=0
   ·have hal:zAa P.q t=true:=by simp[zAa,zA5,zCz,yHw,k1,k2,k3]
    simp[evz,hdC,tlC,Tryz.f59,q4,q6,b6,hbb,xH,ii,bv,s1,s2,t1,t2,u1,u2,c1,c2,k1,k2,k3,hal];exact fin _ true (by simp[up])
   ·have hal:zAa P.q t=false:=by simp[zAa,zA5,zCz,yHw,k1,k2,k3]
    simp[evz,hdC,tlC,Tryz.f59,q4,q6,b6,hbb,xH,ii,bv,s1,s2,t1,t2,u1,u2,c1,c2,k1,k2,k3,hal];exact fin _ true (by simp[up])
  ·have hal:zAa P.q t=false:=by simp[zAa,zA5,zCz,yHw,k1,k2]
   simp[evz,hdC,tlC,Tryz.f59,q4,q6,b6,hbb,xH,ii,bv,s1,s2,t1,t2,u1,u2,c1,c2,k1,k2,hal];exact fin _ true (by simp[up])
 ·have hal:zAa P.q t=false:=by simp[zAa,zA5,zCz,yHw,k1]
  have k1':¬((zA0 wU (vars P.q.items) t).length:Int)=1:=by omega
  simp[evz,hdC,tlC,Tryz.f59,q4,q6,b6,hbb,xH,ii,bv,s1,s2,t1,t2,u1,u2,c1,c2,k1',hal];exact fin _ true (by simp[up])
noncomputable def zRl:Code:=yW (hdC 1 (tlC 5 (Tryz.f59.body.getD .skip)))
noncomputable def zVq:Code:=inB (hdC 1 (tlC 2 zRl))
structure K59 (bid:Nat) (P:Pl) (h:Heap) (n:Nat) (t:List Nd) (y:Y59) (id ver j c:Nat) (s:St):Prop where
 a:S59 bid P h n t y s
 q7:s.e 7=bv (zAa P.q t)
 q8:s.e 8=ii (lsL P.q ((xV P.q t).take j))
 q9:s.e 9=ii (chL P.q t ((xV P.q t).take j))
 q60:s.e 60=.s id ver 0 (xV P.q t).length
 b60:s.h id=some ⟨(xV P.q t).map ii,ver,true,1⟩
 q61:s.e 61=ii (xV P.q t).length
 q62:s.e 62=ii c
 ps:∀i∈(xV P.q t).take j,ngQ P.q i=false
theorem yPt {t:List Nd} {h:Heap} {n:Nat} {y:Y59} (hlb:(zA0 wU (vars P.q.items) t).length≤1099511627776) (hla:(zA0 zC3 (vars P.q.items) t).length≤1099511627776) (hpc:P.comps.length=(zAq P.q P.q.items.length).length) (e:Nat→AV) (h1:Heap) (n2:Nat) (a:S59 bid P h n t y ⟨e,h1,n2⟩) (q7:e 7=bv (zAa P.q t)) (q8:e 8=ii P.comps.length) (q9:e 9=ii (-1)) {Q} :
  awp (cz [3] (pfL zHa)) (hdC 1 (hdC 1 (tlC 5 (Tryz.f59.body.getD .skip)))) (zAs (fun s=>∃id ver,K59 bid P h n t y id ver 0 0 s) Q) ⟨e,h1,n2⟩:=by
 have a0:=a;obtain⟨q0,q4,ag,fr,nn,M,U⟩:=a;obtain⟨q6,b6,om,r1,r2,r3,nz⟩:=U;simp only[]at q0 q4 ag fr nn q6 b6 r1 r2 r3 om;obtain⟨s1,s2,s3,s4,s5⟩:=zN r1;obtain⟨u1,u2,u3,u4,u5⟩:=zN r3;simp[evz,hdC,tlC,Tryz.f59,q6,b6,u1,u2,zHa];refine (zDo (S:=[]) (fun _ h=>by cases h) (yQl r1 nz hlb fr)).mono ?_
 rintro v h2 n3 ⟨g1,g2,g3,g4⟩;have hfa:sls h2 y.a3 0 ((zA0 zC3 (vars P.q.items) t).length*1)∧slc h2 y.a3 0 ((zA0 zC3 (vars P.q.items) t).length*1)=(zA0 zC3 (vars P.q.items) t).map ii:=by
  have:=zHy Flat.int (yT fr r3 _ g1);exact⟨this.1,by rw[this.2,zJs]⟩
 simp only[xM]at hfa;have hl:xV P.q t=zA0 wU (vars P.q.items) t++zA0 zC3 (vars P.q.items) t:=rfl;have fin:∀(e':Nat→AV) (h':Heap) (n' id ver:Nat),(∀i∈[0,4,5,6],e' i=e i)→agree n2 h1 h'→Fresh n' h'→n2≤n'→e' 7=e 7→e' 8=e 8→e' 9=e 9→e' 60=.s id ver 0 (xV P.q t).length→e' 61=ii (xV P.q t).length→e' 62=ii 0→h' id=some ⟨(xV P.q t).map ii,ver,true,1⟩→∃id ver,K59 bid P h n t y id ver 0 0 ⟨e',h',n'⟩:=fun e' h' n' id ver he ha hf hn k7 k8 k9 k60 k61 k62 kb=>⟨id,ver,a0.up he ha hf hn,k7.trans q7,by rw[List.take_zero];exact (k8.trans q8).trans (by rw[hpc];rfl),k9.trans q9,k60,kb,k61,k62,fun i hi=>by simp at hi⟩
 refine⟨zFc (zI7 fr g1),?_⟩;rcases g4 with ⟨z1,rfl,rfl⟩|⟨rfl,z2,z3⟩
 ·have hnil:zA0 wU (vars P.q.items) t=[]:=by
   rw[z1]at s2;exact zX.1 s2.symm
  rw[hnil,List.nil_append]at hl;simp[evz,z1,hfa.1,hfa.2];refine⟨by omega,zAp (by kernel_rfl),fin _ _ _ n3 0 (by simp[up]) ((zD (zC _) _).2 g1) ((zF (by omega) _).2 (g2.add 1)) (by omega) (by simp[up]) (by simp[up]) (by simp[up]) (by simp[up,hl]) (by simp[up,hl,ii]) (by simp[up,ii]) (by rw[zJ,hl])⟩
 ·simp[evz,z2,hfa.1,hfa.2]
  refine⟨by omega,⟨zAp (by kernel_rfl),fin _ _ _ n2 1 (by simp[up]) ((zD (zC _) _).2 g1) ((zF (by omega) _).2 (g2.add 1)) (by omega) (by simp[up]) (by simp[up]) (by simp[up]) (by simp[up,hl]) (by simp[up,hl,ii]) (by simp[up,ii]) (by rw[zJ,hl,yE])⟩,zAp (by kernel_rfl),fin _ _ _ n3 0 (by simp[up]) ((zD (by omega) _).2 g1) ((zF (by omega) _).2 (g2.add 1)) (by omega) (by simp[up]) (by simp[up]) (by simp[up]) (by simp[up,hl]) (by simp[up,hl,ii]) (by simp[up,ii]) (by rw[zJ,hl,yE])⟩
end
end
end Go.Proofs.YtbffkkeieihpdaaGreatDoor
