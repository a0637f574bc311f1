import Derived.Test.YtbffkkeieihpdaaGreatDoorX20
import Derived.Test.YtbffkkeieihpdaaGreatDoorX37
import Derived.Test.YtbffkkeieihpdaaGreatDoorX38
import Derived.Test.YtbffkkeieihpdaaGreatDoorX36
import Derived.Test.YtbffkkeieihpdaaGreatDoorX23
import Derived.Test.YtbffkkeieihpdaaGreatDoorX35
import Derived.Test.YtbffkkeieihpdaaGreatDoorX14
set_option linter.unusedSimpArgs false
set_option linter.unusedVariables false
set_option linter.constructorNameAsVariable false
set_option maxRecDepth 100000
set_option maxHeartbeats 4000000
namespace Go.Proofs.YtbffkkeieihpdaaGreatDoor
open Go Go.Eng
def yO7:List AV→Option V
 | [.v (.bool k),.v (.int .i64 n)]=>some ⟨k,n⟩
 | _=>none
theorem yEi {l:List AV} {x:V} (h:yO7 l=some x):l=zB8 x:=by
 unfold yO7 at h;split at h
 ·cases h;rfl
 ·cases h
def dV:De V where
 run _ l:=yO7 l
 sim {h h' l x} hh e:=e
theorem Flat.v:Flat 2 dV zB8:=⟨fun _ _ _ e=>yEi e,fun _ _=>rfl,fun _=>rfl⟩
def yJ8:=yE zVa (fun q=>TrOk q.1∧0≤q.2∧q.2<(q.1.t.length:Int)) fun q=>vv (zCj q.1.sc q.1.its q.1.en q.1.t q.2.toNat)
theorem yTn:P0 S67 148 yJ8:=by
 refine⟨fun args h h' hh hs => ?_,.inl ⟨xM Tryz.func148 rfl rfl _ _,fun ρ h w args vs r hmx ha hs => ?_⟩⟩
 ·obtain⟨a,e,hp,hall⟩:=zDw zI0 hs
  have e1:yJ8 args h'=_:=hall h' hh;have e2:yJ8 args h=_:=hall h (fun _ _ e=>e)
  rw[e1,e2];exact⟨hp,rfl⟩
 ·obtain⟨a,e,hp,hall⟩:=zDw zI0 hs
  have e2:yJ8 args h=_:=hall h (fun _ _ e=>e)
  have e3:G67 a.1.t.length args h=⟨TrOk a.1∧0≤a.2∧a.2<(a.1.t.length:Int)∧a.2<(a.1.t.length:Int),vv (zCj a.1.sc a.1.its a.1.en a.1.t a.2.toNat)⟩:=by simp only[G67,yE,e]
  have hs':(G67 a.1.t.length args h).side:=by rw[e3];exact⟨hp.1,hp.2.1,hp.2.2,hp.2.2⟩
  have hv:(G67 a.1.t.length args h).val=(yJ8 args h).val:=by rw[e3,e2]
  rcases (P67 a.1.t.length).2 with ⟨_,k⟩|k
  ·have:=k ρ h w args vs r hmx ha hs'
   rwa [hv]at this
  ·obtain⟨y,e9,_⟩:=k ρ h w args vs ha hs'
   rw[xM (S:=S67) Tryz.func148 rfl rfl]at e9;cases e9
theorem yDk {vs:List ByteArray} {t:List Nd} (h:zMv vs t t.length=true) (i:Nat) (hi:i<t.length):zC5 vs t t[i]=true:=by
 unfold zMv at h;rw[xN,zJ]at h;exact h _ (zF hi)
theorem yCu {sc:List Ty} {vs:List ByteArray} {t:List Nd} {en:En} (h1:zB9 sc) (h2:xO t) (h3:EnOk en) (hr:zI9 vs t=true):TrOk ⟨sc,t,t.map (wK vs),en⟩:=by
 simp only[zI9,zH]at hr;refine⟨h1,h2,hr.1,by simp,fun i hi h4 h11 => ?_,h3⟩
 have:=yDk hr.2 i hi;simp only[]at hi h4 h11 ⊢;rw[zC5,if_neg (by omega),if_pos h11,decide_eq_true_eq]at this
 rw[zB,xJ,zA hi];simp only[zM,xB,wK,if_pos (And.intro h4 h11)];exact this
theorem zZx (l:List Int):l.map ii=l.flatMap fun x=>[ii x]:=by
 induction l with
 | nil=>rfl
 | cons x l ih=>rw[wO,wH,ih];rfl
theorem yI1 {h:Heap} {w:Nat} {l:List Int} {u:Nat} {own:Bool} {esz:Nat} (hk:h w=some ⟨l.map ii,u,own,esz⟩):rd dIs h (.s w u 0 l.length)=some l:=by
 refine zBs Flat.int hk rfl (r:=[]) ?_;simp only[List.append_nil,zZx]
structure Eq38 where
 sc:List Ty
 q:Qu
 t:List Nd
 en:En
structure EqOk (v:Eq38):Prop where
 sc:zB9 v.sc
 ln:v.q.items.length<big
 sm:xO v.t
 rg:∀x∈v.t,Rng x.n
 en:EnOk v.en
def yEq (h:Heap):List AV→Option Eq38
 | [s,q,t,e]=>match zHj h s,deQ h q,rd dNs h t,zPp h e with
  | some s,some q,some t,some e=>some ⟨s,q,t,e⟩
  | _,_,_,_=>none
 | _=>none
theorem zK2 {h:Heap} {args:List AV} {v:Eq38} (e:yEq h args=some v):∃s q t e,args=[s,q,t,e]∧zHj h s=some v.sc∧deQ h q=some v.q∧rd dNs h t=some v.t∧zPp h e=some v.en:=by
 unfold yEq at e;split at e
 ·split at e
  ·rename_i e1 e2 e3 e4
   cases e;exact⟨_,_,_,_,rfl,e1,e2,e3,e4⟩
  ·cases e
 ·cases e
theorem zSz {h:Heap} {s q t e:AV} {v:Eq38} (e1:zHj h s=some v.sc) (e2:deQ h q=some v.q) (e3:rd dNs h t=some v.t) (e4:zPp h e=some v.en):yEq h [s,q,t,e]=some v:=by
 simp only[yEq,e1,e2,e3,e4]
theorem yA5 (h h':Heap) (args:List AV) (v:Eq38) (hh:h.le h') (e:yEq h args=some v):yEq h' args=some v:=by
 obtain⟨s,q,t,x,rfl,e1,e2,e3,e4⟩:=zK2 e;exact zSz (zHg hh.sim e1) (zAp hh.sim e2) (yU hh e3) (zK0 hh.sim e4)
def G38:=yE yEq EqOk fun v=>vv (zFb v.sc (vars v.q.items) v.en v.t)
def yPq:List (FuncId×(List AV→Heap→PRes)):=[(148,yJ8)]
theorem P37:P0 (3::S67) 98 G38:=by
 refine mkH 4 (S:=3::S67) (l:=yPq) (zS yTn yH) Tryz.func98 rfl (by kernel_rfl) yA5 (fun h l x e=>by obtain⟨s,q,t,y,rfl,_⟩:=zK2 e;exact zD _) (fun a=>rfl) (fun args v h n e hp hn => ?_)
 obtain⟨sa,qa,ta,ea,rfl,e1,e2,e3,e4⟩:=zK2 e;obtain⟨sc,q,t,en⟩:=v;obtain⟨hsc,hqb,hsm,hrg,hen⟩:=hp;simp only[]at e1 e2 e3 e4 hsc hqb hsm hrg hen ⊢;have g2:=zHu hn e2;have g3:=xL hn e3;obtain⟨c1,rfl,r1⟩:=zA4 e1;obtain⟨qa1,qa2,qa3,rfl,e5,e6,e7⟩:=xP e2;obtain⟨la,rfl,e8⟩:=zF8 e4;have t1:=(zK r1).2.2.2.1;have t2:=(zK e5).2.2.2.1;have t3:=(zK e6).2.2.2.1;have t4:=(zK e7).2.2.2.1;have t5:=(zK e8).2.2.2.1;obtain⟨s1,s2,s3,s4,s5⟩:=zK e3;have p1:=xL hn r1;have p4:=xL hn e8;simp only[ii,ss]at g2;simp[evx,ii,ss,t1,t2,t3,t4,t5,s1,s2,s3,s4,s5,yPq];have ag:∀b1 b2 b3 b4:Option Blk,agree n (roH h) (up (up (up (up (roH h) n b1) (n+1) b2) (n+2) b3) (n+3) b4):=fun b1 b2 b3 b4=>by simp[zC,zE]
 have fr:∀b1 b2 b3 b4:Option Blk,Fresh (n+4) (up (up (up (up (roH h) n b1) (n+1) b2) (n+2) b3) (n+3) b4):=fun b1 b2 b3 b4=>by simp[zG,(zFh hn).add]
 refine (xV (S:=[3]) (by simp) (c54 (g2 _ (ag _ _ _ _)) (g3 _ (ag _ _ _ _)) hqb hsm (fr _ _ _ _))).mono ?_
 rintro v h2 n2 ⟨a1,a2,a3,a4⟩;have b0:h2 n=some ⟨[c1],0,true,1⟩:=by rw[a1 n (by omega)];simp[up]
 have b3:h2 (n+3)=some ⟨[.v (.bool false),.v (.int .i64 0)],0,true,2⟩:=by rw[a1 (n+3) (by omega)];simp[up]
 have b2:h2 (n+2)=some ⟨[la,.v (.int .i64 en.each),.v (.int .i64 en.pos)],0,true,3⟩:=by rw[a1 (n+2) (by omega)];simp[up]
 have ag2:agree n (roH h) h2:=fun j hj=>by rw[a1 j (by omega)];exact ag _ _ _ _ j hj
 unfold zGt at a4;cases hr:zI9 (vars q.items) t with
 | false =>
  rw[hr]at a4;simp only[yR,if_false]at a4;subst a4;have hv:zFb sc (vars q.items) en t=unk:=by simp[zFb,hr]
  simp[evx,b3,hv,vv,unk,bv]
 | true =>
  rw[hr]at a4;simp only[if_true]at a4;obtain⟨w,rfl,hw,hw1,hw2⟩:=a4;have hv:zFb sc (vars q.items) en t=zCj sc (t.map (wK (vars q.items))) en t (t.length-1):=by simp[zFb,hr]
  have hto:=yCu hsc hsm hen hr;have hpos:=yCa hto.tr;simp only[]at hpos;have hl1:IntKind.i64.wrap ((t.length:Int)-1)=((t.length-1:Nat):Int):=by
   have:=zPs (e:=t.length-1) (by have:t.length*64≤140737488355328:=hsm;unfold big;omega)
   rwa [show t.length-1+1=t.length by omega]at this
  have hlt:((t.length-1:Nat):Int)<t.length:=by omega
  have hlt2:t.length-1<t.length:=by omega
  have hpos0:0<t.length:=hpos;have gev:∀h',agree n2 h2 h'→h' n2=some ⟨[c1,ta,.s w 0 0 t.length,la,.v (.int .i64 en.each),.v (.int .i64 en.pos)],0,true,6⟩→zH8 h' (.p n2 0 0)=some ⟨sc,t,t.map (wK (vars q.items)),en⟩:=fun h' ha hb=>by
   have ag3:agree n (roH h) h':=fun j hj=>by rw[ha j (by omega)];exact ag2 j hj
   have hiw:rd dIs h' (.s w 0 0 t.length)=some (t.map (wK (vars q.items))):=by
    have:=yI1 (h:=h') (w:=w) (l:=t.map (wK (vars q.items))) (by rw[ha w hw2];exact hw)
    rwa [zO]at this
   exact zU7 (q:=⟨sc,t,t.map (wK (vars q.items)),en⟩) hb (p1 _ ag3) (g3 _ ag3) hiw (p4 _ ag3)
  have z1:¬n=n2:=by omega
  have z2:¬n+2=n2:=by omega
  have z3:¬n+3=n2:=by omega
  generalize hcast:((t.length-1:Nat):Int)=lm at *;have hlm:lm.toNat=t.length-1:=by omega
  have hlm0:0≤lm:=by omega
  simp[evx,b0,b2,b3,t1,t5,s1,s2,s3,s4,s5,bv,hv,yJ8,yE,zVa,gev,zC,zE,hl1,hto,hlt,hlm,hlm0,vv,z1,z2,z3]
def yKd (h:Heap):List AV→Option Eq38
 | [s,q,t,l,.v (.int .i64 e),.v (.int .i64 p)]=>yEq h [s,q,t,.g [l,ii e,ii p]]
 | _=>none
theorem zO7 {h:Heap} {args:List AV} {v:Eq38} (e:yKd h args=some v):∃s q t l,args=[s,q,t,l,ii v.en.each,ii v.en.pos]∧zHj h s=some v.sc∧deQ h q=some v.q∧rd dNs h t=some v.t∧rd zDd h l=some v.en.ls:=by
 unfold yKd at e;split at e
 ·obtain⟨s,q,t,y,k,e1,e2,e3,e4⟩:=zK2 e
  simp only[List.cons.injEq,and_true]at k;obtain⟨rfl,rfl,rfl,rfl⟩:=k;obtain⟨la,k,e5⟩:=zF8 e4;cases k;exact⟨_,_,_,_,rfl,e1,e2,e3,e5⟩
 ·cases e
theorem yA4 {h:Heap} {s q t l:AV} {v:Eq38} (e1:zHj h s=some v.sc) (e2:deQ h q=some v.q) (e3:rd dNs h t=some v.t) (e4:rd zDd h l=some v.en.ls):yKd h [s,q,t,l,ii v.en.each,ii v.en.pos]=some v:=zSz e1 e2 e3 (zF9 e4)
theorem yA3 (h h':Heap) (args:List AV) (v:Eq38) (hh:h.le h') (e:yKd h args=some v):yKd h' args=some v:=by
 obtain⟨s,q,t,x,rfl,e1,e2,e3,e4⟩:=zO7 e;exact yA4 (zHg hh.sim e1) (zAp hh.sim e2) (yU hh e3) (yU hh e4)
def zBy (v:Eq38):Bool:=zJ8 (zFb v.sc (vars v.q.items) v.en v.t)
def G49:=yE yKd EqOk fun v=>bv (zBy v)
def yKv:List (FuncId×(List AV→Heap→PRes)):=[(98,G38)]
theorem P49:P0 (3::S67) 49 G49:=by
 refine mkH 6 (S:=3::S67) (l:=yKv) (zS P37 yH) Tryz.func49 rfl (by kernel_rfl) yA3 (fun h l x e=>by obtain⟨s,q,t,y,rfl,_⟩:=zO7 e;exact zD _) (fun a=>rfl) (fun args v h n e hp hn => ?_)
 obtain⟨sa,qa,ta,la,rfl,e1,e2,e3,e4⟩:=zO7 e;have hp':=hp;obtain⟨sc,q,t,en⟩:=v;obtain⟨hsc,hqb,hsm,hrg,hen⟩:=hp;simp only[]at e1 e2 e3 e4 hsc hqb hsm hrg hen ⊢;have g1:=zDo hn e1;have g2:=zHu hn e2;have g3:=xL hn e3;have g4:=xL hn e4;obtain⟨c1,rfl,r1⟩:=zA4 e1;obtain⟨qa1,qa2,qa3,rfl,e5,e6,e7⟩:=xP e2;have t1:=(zK r1).2.2.2.1;have t2:=(zK e5).2.2.2.1;have t3:=(zK e6).2.2.2.1;have t4:=(zK e7).2.2.2.1;have t5:=(zK e4).2.2.2.1;have t6:=(zK e4).2.2.2.2;have t7:=(zK e4).2.2.1;obtain⟨s1,s2,s3,s4,s5⟩:=zK e3;have d:∀h',agree n (roH h) h'→yEq h' [.g [c1],.g [qa1,ii q.mode,ii q.after,qa2,ii q.within,ss q.par,qa3],ta,.g [la,ii en.each,ii en.pos]]=some ⟨sc,q,t,en⟩:=fun h' ha=>zSz (g1 h' ha) (g2 h' ha) (g3 h' ha) (zF9 (g4 h' ha))
 simp only[ii,ss]at d;have hv:zBy ⟨sc,q,t,en⟩=zJ8 (zFb sc (vars q.items) en t):=rfl;have hg:∀h',agree n (roH h) h'→G38 [.g [c1],.g [qa1,.v (.int .i64 q.mode),.v (.int .i64 q.after),qa2,.v (.int .i64 q.within),.v (.string q.par),qa3],ta,.g [la,.v (.int .i64 en.each),.v (.int .i64 en.pos)]] h'=⟨EqOk ⟨sc,q,t,en⟩,vv (zFb sc (vars q.items) en t)⟩:=fun h' ha=>by simp only[G38,yE,d h' ha]
 generalize zFb sc (vars q.items) en t=v at *;cases hk:v.k<;>by_cases h0:v.n=0 <;>
  simp[evx,ii,ss,t1,t2,t3,t4,t5,t6,t7,s1,s2,s3,s4,s5,yKv,hg,zC,zE,hp',vv,hk,h0,hv,bv,zJ8,zEo]
theorem zJr {sc:List Ty} {vs:List ByteArray} {t:List Nd} {en en':En} (hx:∀x∈t,1≤x.op→zC5 vs t x=true→∀va vb,zDa sc (wK vs x) en' x va vb=zDa sc (wK vs x) en x va vb):zFb sc vs en' t=zFb sc vs en t:=by
 unfold zFb;split
 ·rename_i hr
  simp only[zI9,zH]at hr;have hall:∀x∈t,zC5 vs t x=true:=by
   have:=hr.2;unfold zMv at this
   rw[xN,zJ]at this
   exact this
  have T:=zC4 hr.1;have key:∀j,j≤t.length→zCg sc (t.map (wK vs)) en' t j=zCg sc (t.map (wK vs)) en t j:=by
   intro j
   induction j with
   | zero=>intro _;rfl
   | succ j ih =>
    intro hj;simp only[zCg];rw[ih (by omega)]
    have hg:t.getD j nd0=t[j]'(by omega):=by rw[zB,zA (by omega)];rfl
    have hi:(t.map (wK vs)).getD j 0=wK vs (t[j]'(by omega)):=by rw[zB,xJ,zA (by omega)];rfl
    rw[hg,hi,hx _ (zF _) (yLb T j (by omega)) (hall _ (zF _))]
  have hp:=T.pos;unfold zCj;rw[key _ (by omega)]
 ·rfl
theorem zJo {sc:List Ty} {vs:List ByteArray} {t:List Nd} {en en':En} {x:Nd} (h0:1≤x.op) (hx:x∈t) (hok:zC5 vs t x=true)
  (hb:∀i∈wX wS vs t,0≤i→∀col,wG ⟨2,i,0,0,0⟩ col en'=wG ⟨2,i,0,0,0⟩ col en)
  (hp:∀i∈wX zC0 vs t,0≤i→∀col,wG ⟨3,i,0,0,0⟩ col en'=wG ⟨3,i,0,0,0⟩ col en)
  (ha:∀i∈wX zDe vs t,0≤i→zAm en'.ls i=zAm en.ls i) (va vb:V):zDa sc (wK vs x) en' x va vb=zDa sc (wK vs x) en x va vb:=by
 unfold zDa;by_cases h1:x.op=1
 ·rw[if_pos h1,if_pos h1]
 rw[if_neg h1,if_neg h1];by_cases h2:x.op=2
 ·rw[if_pos h2,if_pos h2]
 rw[if_neg h2,if_neg h2];by_cases h3:x.op=3
 ·rw[if_pos h3,if_pos h3]
 rw[if_neg h3,if_neg h3];by_cases h11:x.op≤11
 ·rw[if_pos h11,if_pos h11]
  have h4:¬x.op<4:=by omega
  have hi:0≤zAn vs x.var:=by
   unfold zC5 at hok;rw[if_neg h4,if_pos h11]at hok;simpa using hok
  have hit:wK vs x=zAn vs x.var:=by unfold wK;rw[if_pos ⟨by omega,h11⟩]
  rw[hit];by_cases e4:x.op=4
  ·have hm:=zKk (p:=wS) hx (by simp[wS,e4]) hi
   have hc:zD6 x.op=2:=by simp[zD6,e4]
   rw[hc];exact hb _ hm hi _
  ·by_cases e11:x.op=11
   ·have hm:=zKk (p:=zC0) hx (by simp[zC0,e11]) hi
    have hc:zD6 x.op=3:=by simp[zD6,e11]
    rw[hc];exact hp _ hm hi _
   ·have hm:=zKk (p:=zDe) hx (by simp[zDe];omega) hi
    have hc2:¬zD6 x.op=2:=by simp[zD6];omega
    have hc3:¬zD6 x.op=3:=by simp[zD6];omega
    unfold wG;simp only[ha _ hm hi,hc2,hc3,if_false]
 ·rw[if_neg h11,if_neg h11]
section
variable {sc:List Ty} {q:Qu}
theorem zWn {vs:List ByteArray} {en:En} {t:List Nd} (h:zI9 vs t=true):zBe (zA2 sc vs t) en=zJ8 (zFb sc vs en t):=by
 unfold zBe;rw[yCw h];simp
theorem zXe {t:List Nd} {i:Nat} {ls:List (List Ev)} {x:Ev} (hb:xX q t=[(i:Int)]) (hp:zBo q t=[]) (ha:zRt q t=[]) (hi:i<q.items.length) (hl:zAm ls i=[x]):zFb sc (vars q.items) ⟨ls,-1,0⟩ t=zFb sc (vars q.items) ⟨zA3 q.items.length i x,i,0⟩ t:=by
 refine zJr fun y hy h0 hok va vb=>zJo h0 hy hok (fun j hj h0 col => ?_) (fun j hj => ?_) (fun j hj => ?_) va vb
 ·have hj':j∈xX q t:=hj
  rw[hb]at hj';obtain rfl:j=i:=by simpa using hj'
  have hl2:zAm (zA3 q.items.length i x) i=[x]:=by
   unfold zAm;rw[if_neg (by omega),zV,zB,zA (by rw[zI7];exact hi),xB,zK8,if_pos rfl]
  unfold wG;simp only[hl,hl2];have:¬(i:Int)=-1:=by omega
  simp[this]
 ·have:j∈zBo q t:=hj
  rw[hp]at this;cases this
 ·have:j∈zRt q t:=hj
  rw[ha]at this;cases this
theorem Wf.run (W:Wf sc q) {r:Nat} (hr:r∈xR q.wh):zI9 (vars q.items) (zAo q.wh r)=true:=by
 obtain⟨ht,hl⟩:=zF0 hr;have h:=(W.wh (by omega)).1
 exact yHa (yKl ht h) hl
theorem Wf.agg (W:Wf sc q) {r:Nat} (hr:r∈xR q.wh) {i:Int} (hi:i∈zRt q (zAo q.wh r)):ngQ q i=false:=by
 obtain⟨ht,hl⟩:=zF0 hr;have h:=(W.wh (by omega)).1
 obtain⟨h0,h1,x,hx,hp,rfl⟩:=zGn hi;obtain⟨y,hy,e1,e2,e3⟩:=yCp hx;obtain⟨k,hk,rfl⟩:=yX.1 hy;have hm:=(yF6 (h k hk)).1;rw[zBh hk]at hm;have:=(zZw hm (.inr (by rw[e1];exact hp))).2.2.1 (by rw[e1];exact hp)
 rw[e2]at this
 exact this
end
section
def zCc (q:Qu) (l:List Int):Int:=l.foldl (fun e i=>if 1<(itA q i.toNat).hi then i else e) (-1)
def zGf (sc:List Ty) (q:Qu) (ls:List (List Ev)) (t:List Nd):Bool :=
 if 0≤zPl q (xX q t)then true else if zCc q (xX q t)<0 then zBy ⟨sc,q,t,⟨ls,-1,0⟩⟩else
  (List.range (zAm ls (zCc q (xX q t))).length).all fun i=>decide (i<if 0<(zBo q t).length then 1 else 0)||zBy ⟨sc,q,t,⟨ls,zCc q (xX q t),i⟩⟩
def zHl (sc:List Ty) (q:Qu) (ls:List (List Ev)):Bool:=(xR q.wh).all fun r=>zGf sc q ls (zAo q.wh r)
def yBw (P:Pl) (b ls:List (List Ev)) (c:Nat):Bool:=((b.getD c []).all (zCh P c))&&(P.comps.getD c zMb).conds.all fun cd=>zCb cd ls
def zU3 (P:Pl) (b ls:List (List Ev)):Bool:=(P.fixed.all fun f=>zBe f ⟨[],-1,0⟩)&&(List.range P.comps.length).all (yBw P b ls)
section
variable {sc:List Ty} {q:Qu}
theorem zQ6 {α:Type} (p:α→Bool):∀(l:List α) (d:α),l.foldl (fun e i=>if p i=true then i else e) d=(l.filter p).getLastD d
 | [],d=>rfl
 | x::l,d=>by
  rw[List.foldl_cons,zQ6 p l,List.filter_cons];cases h:p x with
  | true=>rw[if_pos rfl,if_pos rfl,List.getLastD_cons]
  | false=>rw[if_neg (by simp),if_neg (by simp)]
def zJ9 (q:Qu) (i:Int):Bool:=decide (1<(itA q i.toNat).hi)
theorem zIv (l:List Int):zCc q l=(l.filter (zJ9 q)).getLastD (-1):=by
 rw[←zQ6];unfold zCc zJ9;simp only[decide_eq_true_eq]
theorem yEd {l:List Int} (h:∀i∈l,zJ9 q i=false):zCc q l=-1:=by
 rw[zIv,List.filter_eq_nil_iff.2 fun i hi=>by rw[h i hi];simp];rfl
theorem Wf.rep (W:Wf sc q) {r:Nat} (hr:r∈xR q.wh):((xX q (zAo q.wh r)).filter (zJ9 q)).length≤1:=by
 obtain⟨ht,hl⟩:=zF0 hr;have h:=(W.wh (by omega)).2.2
 have hr':r∈zBv q.wh:=by unfold xR at hr;rw[if_pos ht]at hr;exact hr
 obtain⟨k,hk,rfl⟩:=yX.1 hr';have h1:=h k hk;unfold zUi at h1;have hg:(zBv q.wh).getD k 0=(zBv q.wh)[k]:=by rw[zB,zA hk];rfl
 rw[hg]at h1;have h2:zUh q (xX q (zAo q.wh (zBv q.wh)[k]))≤1:=by
  refine Nat.le_of_not_lt fun hlt => ?_
  rw[if_pos hlt]at h1;cases h1
 refine xE ?_ h2;unfold zUh;generalize xX q (zAo q.wh (zBv q.wh)[k])=l
 induction l with
 | nil=>simp
 | cons x l ih =>
  rw[List.filter_cons,List.filter_cons];cases hx:zJ9 q x with
  | true =>
   have:((q.items.getD x.toNat it0).neg||decide (1<(q.items.getD x.toNat it0).hi))=true:=by
    unfold zJ9 itA at hx;rw[hx];simp
   rw[if_pos rfl,if_pos this];simp only[List.length_cons];omega
  | false =>
   rw[if_neg (by simp)]
   split
   ·simp only[List.length_cons];omega
   ·exact ih
theorem zU1 (W:Wf sc q) {r:Nat} (hr:r∈xR q.wh) {i:Int} (hi:i∈xX q (zAo q.wh r)) (h1:zJ9 q i=true):zCc q (xX q (zAo q.wh r))=i:=by
 have h2:=W.rep hr;have hm:i∈(xX q (zAo q.wh r)).filter (zJ9 q):=wM.2 ⟨hi,h1⟩;rw[zIv];generalize (xX q (zAo q.wh r)).filter (zJ9 q)=l at *
 match l,h2,hm with
 | [y],_,hm=>rw[zB7.1 hm];rfl
 | _::_::_,h2,_=>simp only[List.length_cons]at h2;omega
theorem yAm (W:Wf sc q) {r:Nat} (hr:r∈xR q.wh):zEr q (zAo q.wh r)=zCc q (xX q (zAo q.wh r)):=by
 have key:∀(l:List Int) (e:Int),(e=-1∨e=zCc q (xX q (zAo q.wh r)))→(∀i∈l,i∈xX q (zAo q.wh r)→zJ9 q i=true→zCc q (xX q (zAo q.wh r))=i)→(l.foldl (fun e i=>if 1<(itA q i.toNat).hi∧i∈xX q (zAo q.wh r)then i else e) e=e∨l.foldl (fun e i=>if 1<(itA q i.toNat).hi∧i∈xX q (zAo q.wh r)then i else e) e=zCc q (xX q (zAo q.wh r)))∧((∃i∈l,i∈xX q (zAo q.wh r)∧zJ9 q i=true)→l.foldl (fun e i=>if 1<(itA q i.toNat).hi∧i∈xX q (zAo q.wh r)then i else e) e=zCc q (xX q (zAo q.wh r))):=by
  intro l
  induction l with
  | nil=>exact fun e _ _=>⟨.inl rfl,fun⟨i,hi,_⟩=>by cases hi⟩
  | cons x l ih =>
   intro e he hh;rw[List.foldl_cons];by_cases hx:1<(itA q x.toNat).hi∧x∈xX q (zAo q.wh r)
   ·rw[if_pos hx]
    have hxx:=hh x (by simp) hx.2 (by unfold zJ9;rw[decide_eq_true hx.1])
    obtain⟨k1,k2⟩:=ih x (.inr hxx.symm) fun i hi=>hh i (by simp[hi])
    have:l.foldl (fun e i=>if 1<(itA q i.toNat).hi∧i∈xX q (zAo q.wh r)then i else e) x=zCc q (xX q (zAo q.wh r)):=by
     rcases k1 with k|k
     ·rw[k];exact hxx.symm
     ·exact k
    exact⟨.inr this,fun _=>this⟩
   ·rw[if_neg hx]
    obtain⟨k1,k2⟩:=ih e he fun i hi=>hh i (by simp[hi])
    refine⟨k1,fun⟨i,hi,h1,h2⟩ => ?_⟩
    rcases yL.1 hi with rfl|hi
    ·exact absurd ⟨by unfold zJ9 at h2;simpa using h2,h1⟩ hx
    ·exact k2 ⟨i,hi,h1,h2⟩
 obtain⟨k1,k2⟩:=key (wD q (zAo q.wh r)) (-1) (.inl rfl) fun i _ hi h1=>zU1 W hr hi h1
 unfold zEr chL;by_cases hx:∃i∈xX q (zAo q.wh r),zJ9 q i=true
 ·obtain⟨i,hi,h1⟩:=hx
  exact k2 ⟨i,zFx _ hi,hi,h1⟩
 ·have h2:zCc q (xX q (zAo q.wh r))=-1:=yEd fun i hi=>by
   cases h:zJ9 q i with
   | false=>rfl
   | true=>exact absurd ⟨i,hi,h⟩ hx
  rcases k1 with k|k
  ·rw[k,h2]
  ·exact k
end
end
section
section
variable {h:Heap} {n:Nat}
structure B34 (h:Heap) (n:Nat) (p:Pt) (s:St):Prop where
 m3:∃m,s.e 3=.p m 0 0∧s.h m=some ⟨xT p (yQ sc0 q0),0,true,16⟩
 m4:∃m,s.e 4=.p m 0 0∧s.h m=some ⟨zAf fl0,0,true,4⟩
 pl:PlR s.h p (yQ sc0 q0)
 ag:agree n h s.h
 fr:Fresh s.n s.h
 nn:n≤s.n
theorem yS9 (e:Nat→AV) (h1:Heap) (n2:Nat) {sa qa qb qc:AV} (a:A34 h n sa qa qb qc ⟨e,h1,n2⟩) {Q}:awp (cz SP (pfL yFn)) (hdC 1 (tlC 4 (Tryz.f34.body.getD .skip))) (zAs (fun s=>∃p,B34 h n p s) Q) ⟨e,h1,n2⟩:=by
 obtain⟨⟨m1,r1,b1⟩,⟨m2,r2,b2⟩,e1,e2,ag,fr,nn⟩:=a;simp only[]at r1 b1 r2 b2 e1 e2 ag fr nn;have hb2:h1 m2=some ⟨[qa,.v (.int .i64 q0.mode),.v (.int .i64 q0.after),qb,.v (.int .i64 q0.within),.v (.string q0.par),qc],0,true,7⟩:=b2;simp[evz,hdC,tlC,Tryz.f34,yFn,r1,b1,r2,hb2];refine (zK9 (S:=[3]) (by simp[SP]) (c17 e1 e2 sq0.ok fr)).mono ?_
 rintro z h2 n3 ⟨a1,a2,a3,hz⟩;rcases hz with ⟨hz,_⟩|⟨_,p,rfl,pl⟩
 ·exact absurd yPy hz
 obtain⟨o1,o2,o3,o4,o5,o6,o7,o8,o9,o10⟩:=pl.is;have fin:∀(e':Nat→AV) (h':Heap) (n':Nat) (m3 m4:Nat),e' 3=.p m3 0 0→e' 4=.p m4 0 0→h' m3=some ⟨xT p (yQ sc0 q0),0,true,16⟩→h' m4=some ⟨zAf fl0,0,true,4⟩→agree n3 h2 h'→Fresh n' h'→n3≤n'→∃p,B34 h n p ⟨e',h',n'⟩:=fun e' h' n' m3 m4 k1 k2 k3 k4 k5 k6 k7 =>
  ⟨p,⟨m3,k1,k3⟩,⟨m4,k2,k4⟩,pl.sim (zAh a2 k5),yJ ag (yJ a1 k5 a3) nn,k6,xE nn (xE a3 k7)⟩
 simp only[xT,ff,zAf,fl0,ii,ss,bv]at fin ⊢;generalize yQ sc0 q0=P at *;simp[evz,o1,o2,o3,o4,o5,o6,o7,o8,o9,o10];exact fin _ _ _ n3 (n3+1) (by simp[up]) (by simp[up]) (by simp[up]) (by simp[up]) (by simp[zC,zE]) (by simp[zG,a2.add]) (by omega)
theorem yS8 (e:Nat→AV) (h1:Heap) (n2:Nat) {p:Pt} (a:B34 h n p ⟨e,h1,n2⟩):awp (cz SP (pfL yFn)) (tlC 5 (Tryz.f34.body.getD .skip)) (zA8 (cz SP (pfL yFn)) Tryz.f34 fun z h' n'=>agree n h h'∧Fresh n' h'∧n≤n'∧z=bv true) ⟨e,h1,n2⟩:=by
 obtain⟨⟨m3,r3,b3⟩,⟨m4,r4,b4⟩,pl,ag,fr,nn⟩:=a;simp only[]at r3 b3 r4 b4 pl ag fr nn;have hP:=zSh wf0 sq0 (c:=0) (x:=yLz) (by simp[zGg,Rng,yLz])
 have hP1:=zSh wf0 sq0 (c:=0) (x:=yLy) (by simp[zGg,Rng,yLy])
 have hP2:=yHw wf0 sq0 (c:=0) (x:=evq2) (by simp[zGg,Rng,evq2])
 have v0:=yOo;have v1:=yOn;have v2:=yOm;have v3:=yOl;have l1:=yOk;have l2:=yOi;have l3:=yOg;have l4:=yOh;have l5:=yOj;generalize yQ sc0 q0=P at *;obtain⟨o1,o2,o3,o4,o5,o6,o7,o8,o9,o10⟩:=pl.is;obtain⟨s1,s2,s3,s4,s5⟩:=zK pl.cm;obtain⟨t1,t2,t3,t4,t5⟩:=zK pl.ng;obtain⟨u1,u2,u3,u4,u5⟩:=zK pl.us;rw[l1]at s2;rw[l2]at t2;rw[l3]at u2;have gp:∀h',agree n2 h1 h'→rPl.run h' (.g (xT p P))=some P:=fun h' ha=>zG4 (pl.sim (zAh fr ha))
 have gt:∀h',agree n2 h1 h'→∀x:Ev,zMl [.g (xT p P),ii 0,ee x] h'=⟨okTk (P,0,x),bv (zCh P 0 x)⟩:=fun h' ha x=>by
  have k1:=gp h' ha;have k2:rI.run h' (ii 0)=some 0:=rfl;have k3:rE.run h' (ee x)=some x:=zNo x;simp only[zMl,yE,de3,k1,k2,k3,zT,zM]
 have gg:∀h',agree n2 h1 h'→∀x:Ev,zPj [.g (xT p P),ii 0,ee x] h'=⟨okGd (P,0,x),bv (zFa P 0 x)⟩:=fun h' ha x=>by
  have k1:=gp h' ha;have k2:rI.run h' (ii 0)=some 0:=rfl;have k3:rE.run h' (ee x)=some x:=zNo x;simp only[zPj,yE,de3,k1,k2,k3,zT,zM]
 have gi:∀h',agree n2 h1 h'→∀x:Ev,GIn [.g (xT p P),ee x] h'=⟨P.used.length<big,bv (zGx P x.ty)⟩:=fun h' ha x=>by
  have k1:=gp h' ha;have k3:rE.run h' (ee x)=some x:=zNo x;simp only[GIn,yE,de2,k1,k3,zT,zM]
 have g0:=fun h' ha=>gt h' ha yLz
 have g1:=fun h' ha=>gt h' ha yLy
 have g2:=fun h' ha=>gg h' ha evq2
 have g3:=fun h' ha=>gi h' ha evq2
 rw[v0]at g0;rw[v1]at g1;rw[v2]at g2;have v3':zGx P evq2.ty=true:=v3;rw[v3']at g3;simp only[xT,ee,zAk,yLz,yLy,evq2,ii,ss,bv,uu]at g0 g1 g2 g3 b3;simp only[zAf,fl0,ii]at b4;have hb:P.used.length<big:=by rw[l3];unfold big;omega
 have nm3:¬m3=n2:=by have:=xI b3 fr;omega
 rw[l4,l5]at g0 g1 g2 g3 b3;simp[evz,tlC,Tryz.f34,yFn,r3,b3,r4,b4,s1,s2,t1,t2,u1,u2,g0,g1,g2,g3,zF5,zEc,zC,zE,nm3,bv];exact⟨hP,hP1,hP2,hb,(zC nn _).2 ((zC nn _).2 ((zC nn _).2 ag)),(zG (by omega) _).2 ((zG (by omega) _).2 ((zG (by omega) _).2 (fr.add 3))),by omega⟩
theorem c34 (hn:Fresh n h):ACall (cz SP (pfL yFn)) 34 [] h n fun z h' n'=>agree n h h'∧Fresh n' h'∧n≤n'∧z=bv true:=by
 refine yV (args:=[]) (zT1 (zS P78 (zS P30 (zS P32 (zS P26 yH))))) (zOf _ _) Tryz.func34 (c:=Tryz.f34.body.getD .skip) rfl (by kernel_rfl) (xM Tryz.func34 rfl rfl [] (pfL [])) (show 0≤Tryz.f34.ntmps by decide +kernel) ?_
 refine zX 4 _ _ (yTa hn (env0 [])) fun e1 h1 n1 ⟨sa,qa,qb,qc,A⟩ => ?_
 refine zX 1 _ _ (yS9 e1 h1 n1 A) fun e2 h2 n2 ⟨p,B⟩ => ?_
 exact yS8 e2 h2 n2 B
end
end
section
structure AP (H:Heap) (n:Nat) (q:Qu) (sa qa qb qc:AV) (s:St):Prop where
 q2:s.e 2=.p n 0 0
 q3:s.e 3=.p (n+1) 0 0
 b2:s.h n=some ⟨[sa],0,true,1⟩
 b3:s.h (n+1)=some ⟨xS q qa qb qc,0,true,7⟩
 ag:agree n H s.h
 fr:Fresh s.n s.h
 nn:n+2≤s.n
theorem AP.up {H:Heap} {n:Nat} {q:Qu} {sa qa qb qc:AV} {s s':St} (a:AP H n q sa qa qb qc s) (he:∀i∈[2,3],s'.e i=s.e i) (ha:agree s.n s.h s'.h) (hf:Fresh s'.n s'.h) (hn:s.n≤s'.n):AP H n q sa qa qb qc s':=by
 have:=a.nn;exact⟨(he 2 (by simp)).trans a.q2,(he 3 (by simp)).trans a.q3,(ha _ (by omega)).trans a.b2,(ha _ (by omega)).trans a.b3,yJ a.ag ha (by omega),hf,by omega⟩
structure BP (H:Heap) (n:Nat) (sc:List Ty) (q:Qu) (sa qa qb qc:AV) (k m:Nat) (p:Pt) (s:St):Prop where
 a:AP H n q sa qa qb qc s
 q5:s.e k=.p m 0 0
 b5:s.h m=some ⟨xT p (yQ sc q),0,true,16⟩
 pl:PlR s.h p (yQ sc q)
theorem BP.up {H:Heap} {n:Nat} {sc:List Ty} {q:Qu} {sa qa qb qc:AV} {k m:Nat} {p:Pt} {s s':St} (a:BP H n sc q sa qa qb qc k m p s) (he:∀i∈[2,3,k],s'.e i=s.e i) (ha:agree s.n s.h s'.h) (hf:Fresh s'.n s'.h) (hn:s.n≤s'.n):BP H n sc q sa qa qb qc k m p s' :=
 ⟨a.a.up (fun i hi=>he i (by simp at hi ⊢;omega)) ha hf hn,(he k (by simp)).trans a.q5,(ha _ (xI a.b5 a.a.fr)).trans a.b5,a.pl.sim (zAh a.a.fr ha)⟩
section
variable {H:Heap} {n:Nat} {sc:List Ty} {q:Qu} {sa qa qb qc:AV}
end
end
section
structure AN (H:Heap) (n:Nat) (q:Qu) (sa qa qb qc ba:AV) (ng:Int) (x:Ev) (s:St):Prop where
 q2:s.e 2=ba
 q3:s.e 3=ii ng
 q5:s.e 5=.p n 0 0
 q6:s.e 6=.p (n+1) 0 0
 q9:s.e 9=.p (n+2) 0 0
 b0:s.h n=some ⟨[sa],0,true,1⟩
 b1:s.h (n+1)=some ⟨xS q qa qb qc,0,true,7⟩
 b2:s.h (n+2)=some ⟨zAk x,0,true,11⟩
 ag:agree n H s.h
 fr:Fresh s.n s.h
 nn:n+3≤s.n
theorem AN.up {H:Heap} {n:Nat} {q:Qu} {sa qa qb qc ba:AV} {ng:Int} {x:Ev} {s s':St} (a:AN H n q sa qa qb qc ba ng x s) (he:∀i∈[2,3,5,6,9],s'.e i=s.e i) (ha:agree s.n s.h s'.h) (hf:Fresh s'.n s'.h) (hn:s.n≤s'.n):AN H n q sa qa qb qc ba ng x s':=by
 have:=a.nn;exact⟨(he 2 (by simp)).trans a.q2,(he 3 (by simp)).trans a.q3,(he 5 (by simp)).trans a.q5,(he 6 (by simp)).trans a.q6,(he 9 (by simp)).trans a.q9,(ha _ (by omega)).trans a.b0,(ha _ (by omega)).trans a.b1,(ha _ (by omega)).trans a.b2,yJ a.ag ha (by omega),hf,by omega⟩
structure BN (H:Heap) (n:Nat) (sc:List Ty) (q:Qu) (sa qa qb qc ba:AV) (ng:Int) (x:Ev) (m:Nat) (p:Pt) (s:St):Prop where
 a:AN H n q sa qa qb qc ba ng x s
 q11:s.e 11=.p m 0 0
 b11:s.h m=some ⟨xT p (yQ sc q),0,true,16⟩
 pl:PlR s.h p (yQ sc q)
theorem BN.up {H:Heap} {n:Nat} {sc:List Ty} {q:Qu} {sa qa qb qc ba:AV} {ng:Int} {x:Ev} {m:Nat} {p:Pt} {s s':St} (a:BN H n sc q sa qa qb qc ba ng x m p s) (he:∀i∈[2,3,5,6,9,11],s'.e i=s.e i) (ha:agree s.n s.h s'.h) (hf:Fresh s'.n s'.h) (hn:s.n≤s'.n):BN H n sc q sa qa qb qc ba ng x m p s' :=
 ⟨a.a.up (fun i hi=>he i (by simp at hi ⊢;omega)) ha hf hn,(he 11 (by simp)).trans a.q11,(ha _ (xI a.b11 a.a.fr)).trans a.b11,a.pl.sim (zAh a.a.fr ha)⟩
section
variable {H:Heap} {n:Nat} {sc:List Ty} {q:Qu} {sa qa qb qc ba:AV} {ng:Int} {x:Ev}
end
end
section
section
variable {H:Heap} {n:Nat} {sc:List Ty} {q:Qu} {sa qa qb qc ba:AV} {ng:Int} {x:Ev} {b:List (List Ev)}
end
end
section
structure CN (H:Heap) (n:Nat) (sc:List Ty) (q:Qu) (sa qa qb qc ba:AV) (ng:Int) (x:Ev) (m:Nat) (p:Pt) (m2:Nat) (g:Ng) (ty ow cn:AV) (s:St):Prop where
 b:BN H n sc q sa qa qb qc ba ng x m p s
 q13:s.e 13=.p m2 0 0
 b13:s.h m2=some ⟨[ii g.item,ty,ii g.after,ii g.before,ow,cn],0,true,6⟩
 rt:rd dIs s.h ty=some g.types
 rr:rd zMn s.h cn=some g.rest
theorem CN.up {H:Heap} {n:Nat} {sc:List Ty} {q:Qu} {sa qa qb qc ba:AV} {ng:Int} {x:Ev} {m:Nat} {p:Pt} {m2:Nat} {g:Ng} {ty ow cn:AV} {s s':St} (a:CN H n sc q sa qa qb qc ba ng x m p m2 g ty ow cn s) (he:∀i∈[2,3,5,6,9,11,13],s'.e i=s.e i) (ha:agree s.n s.h s'.h) (hf:Fresh s'.n s'.h) (hn:s.n≤s'.n):CN H n sc q sa qa qb qc ba ng x m p m2 g ty ow cn s' :=
 ⟨a.b.up (fun i hi=>he i (by simp at hi ⊢;omega)) ha hf hn,(he 13 (by simp)).trans a.q13,(ha _ (xI a.b13 a.b.a.fr)).trans a.b13,yS a.b.a.fr a.rt _ ha,yS a.b.a.fr a.rr _ ha⟩
section
variable {H:Heap} {n:Nat} {sc:List Ty} {q:Qu} {sa qa qb qc ba:AV} {ng:Int} {x:Ev} {b:List (List Ev)} {m:Nat} {p:Pt}
end
end
section
section
variable {H:Heap} {n:Nat} {sc:List Ty} {q:Qu} {sa qa qb qc ba:AV} {ng:Int} {x:Ev} {b:List (List Ev)} {m:Nat} {p:Pt} {m2:Nat} {g:Ng} {ty ow cn:AV}
end
end
section
structure DN (H:Heap) (n:Nat) (sc:List Ty) (q:Qu) (sa qa qb qc ba:AV) (ng:Int) (x:Ev) (b:List (List Ev)) (m:Nat) (p:Pt) (m2:Nat) (g:Ng) (ty ow cn la:AV) (s:St):Prop where
 c:CN H n sc q sa qa qb qc ba ng x m p m2 g ty ow cn s
 q14:s.e 14=bv (decide (x.ty∈g.types))
 q16:s.e 16=la
 rl:rd zDd s.h la=some (byV q b g.item x)
theorem DN.up {H:Heap} {n:Nat} {sc:List Ty} {q:Qu} {sa qa qb qc ba:AV} {ng:Int} {x:Ev} {b:List (List Ev)} {m:Nat} {p:Pt} {m2:Nat} {g:Ng} {ty ow cn la:AV} {s s':St} (a:DN H n sc q sa qa qb qc ba ng x b m p m2 g ty ow cn la s) (he:∀i∈[2,3,5,6,9,11,13,14,16],s'.e i=s.e i) (ha:agree s.n s.h s'.h) (hf:Fresh s'.n s'.h) (hn:s.n≤s'.n):DN H n sc q sa qa qb qc ba ng x b m p m2 g ty ow cn la s' :=
 ⟨a.c.up (fun i hi=>he i (by simp at hi ⊢;omega)) ha hf hn,(he 14 (by simp)).trans a.q14,(he 16 (by simp)).trans a.q16,yS a.c.b.a.fr a.rl _ ha⟩
section
variable {H:Heap} {n:Nat} {sc:List Ty} {q:Qu} {sa qa qb qc ba:AV} {ng:Int} {x:Ev} {b:List (List Ev)} {m:Nat} {p:Pt} {m2:Nat} {g:Ng} {ty ow cn:AV}
end
end
section
theorem zI8 {α:Type} (f:α→Bool) (l:List α) (x:α):(l++[x]).all f=(l.all f&&f x):=by simp
section
variable {H:Heap} {n:Nat} {sc:List Ty} {q:Qu} {sa qa qb qc ba:AV} {ng:Int} {x:Ev} {b:List (List Ev)} {m:Nat} {p:Pt} {m2:Nat} {g:Ng} {ty ow cn la:AV} {K:Bool}
end
end
section
structure FN (H:Heap) (n:Nat) (sc:List Ty) (q:Qu) (sa qa qb qc ba:AV) (ng:Int) (x:Ev) (b:List (List Ev)) (m:Nat) (p:Pt) (m2:Nat) (g:Ng) (ty ow cn la:AV) (K:Bool) (z:AV) (s:St):Prop where
 d:DN H n sc q sa qa qb qc ba ng x b m p m2 g ty ow cn la s
 q17:s.e 17=bv K
 q20:s.e 20=z
 rz:rd dIs s.h z=some (zHs q)
theorem FN.up {H:Heap} {n:Nat} {sc:List Ty} {q:Qu} {sa qa qb qc ba:AV} {ng:Int} {x:Ev} {b:List (List Ev)} {m:Nat} {p:Pt} {m2:Nat} {g:Ng} {ty ow cn la:AV} {K:Bool} {z:AV} {s s':St} (a:FN H n sc q sa qa qb qc ba ng x b m p m2 g ty ow cn la K z s) (he:∀i∈[2,3,5,6,9,11,13,14,16,17,20],s'.e i=s.e i) (ha:agree s.n s.h s'.h) (hf:Fresh s'.n s'.h) (hn:s.n≤s'.n):FN H n sc q sa qa qb qc ba ng x b m p m2 g ty ow cn la K z s' :=
 ⟨a.d.up (fun i hi=>he i (by simp at hi ⊢;omega)) ha hf hn,(he 17 (by simp)).trans a.q17,(he 20 (by simp)).trans a.q20,yS a.d.c.b.a.fr a.rz _ ha⟩
section
variable {H:Heap} {n:Nat} {sc:List Ty} {q:Qu} {sa qa qb qc ba:AV} {ng:Int} {x:Ev} {b:List (List Ev)} {m:Nat} {p:Pt} {m2:Nat} {g:Ng} {ty ow cn la z:AV} {K:Bool}
end
end
section
section
variable {H:Heap} {n:Nat} {sc:List Ty} {q:Qu} {sa qa qb qc ba:AV} {ng:Int} {x:Ev} {b:List (List Ev)} {m:Nat} {p:Pt} {m2:Nat} {g:Ng} {ty ow cn la z:AV} {K:Bool}
end
end
section
section
variable {H:Heap} {n:Nat} {sc:List Ty} {q:Qu} {sa qa qb qc ba:AV} {ng:Int} {x:Ev} {b:List (List Ev)} {m:Nat} {p:Pt} {m2:Nat} {g:Ng} {ty ow cn la z:AV} {K:Bool}
end
end
section
section
variable {sc:List Ty} {q:Qu} {b:List (List Ev)} {x:Ev}
theorem zMf (W:Wf sc q) (h:zCt (yQ sc q) b=true):∀l∈b,l.length≤4:=by
 intro l hl;obtain⟨i,hi,rfl⟩:=yX.1 hl;unfold zCt at h;simp only[zH,decide_eq_true_eq,zJ,xQ]at h;have h2:=h.2 i hi;unfold zI4 at h2;simp only[zH,decide_eq_true_eq]at h2;have h3:=h2.1.2;have hic:i<(yQ sc q).comps.length:=by rw[←h.1];exact hi
 obtain⟨j,hj,_,hc⟩:=zOb (zF hic);rw[zB,zA hi,zB,zA hic,xB,xB,hc]at h3;have h4:=(zOj (zUq (W.it j hj)).1).2.2.2.2;have h5:(b[i].length:Int)≤(itA q j).hi:=h3;unfold itA at h5;omega
theorem yGn (hl:∀l∈b,l.length≤4) (hev:∀l∈b,∀y∈l,zGg y) (hx:zGg x) (i:Int):EnOk ⟨byV q b i x,-1,0⟩:=by
 have key:∀l∈byV q b i x,l=[x]∨l=[]∨l∈b:=fun l hl=>by
  unfold byV at hl;obtain⟨j,_,rfl⟩:=xF.1 hl;unfold byE;split
  ·split
   ·exact .inl rfl
   ·exact .inr (.inl rfl)
  ·rw[zB]
   by_cases hj:rk q j<b.length
   ·rw[zA hj];exact .inr (.inr (zF hj))
   ·rw[zL (by omega)];exact .inr (.inl rfl)
 refine⟨fun l h => ?_,fun l h y hy => ?_,by show Rng 0;unfold Rng;omega⟩
 ·rcases key l h with rfl|rfl|h
  ·simp
  ·simp
  ·have:=hl l h;omega
 ·rcases key l h with rfl|rfl|h
  ·rw[zB7.1 hy];exact hx
  ·cases hy
  ·exact hev l h y hy
end
end
end Go.Proofs.YtbffkkeieihpdaaGreatDoor
