import Derived.Test.YtbffkkeieihpdaaGreatDoorX20
import Derived.Test.YtbffkkeieihpdaaGreatDoorX37
set_option linter.unusedSimpArgs false
set_option linter.unusedVariables false
set_option linter.constructorNameAsVariable false
set_option maxRecDepth 100000
set_option maxHeartbeats 4000000
namespace Go.Proofs.YtbffkkeieihpdaaGreatDoor
open Go Go.Eng
structure TrOk (q:Evr):Prop where
 sc:zB9 q.sc
 sm:xO q.t
 tr:zAu q.t=true
 ln:q.its.length=q.t.length
 it:∀i (h:i<q.t.length),4≤q.t[i].op→q.t[i].op≤11→0≤q.its.getD i 0
 en:EnOk q.en
def zVa (h:Heap):List AV→Option (Evr×Int)
 | [p,.v (.int .i64 i)]=>(zH8 h p).map fun q=>(q,i)
 | _=>none
theorem zO3 {h:Heap} {args:List AV} {q:Evr×Int} (e:zVa h args=some q):∃p,args=[p,ii q.2]∧zH8 h p=some q.1:=by
 unfold zVa at e;split at e
 ·simp only[zW]at e
  obtain⟨t,h1,rfl⟩:=e;exact⟨_,rfl,h1⟩
 ·cases e
theorem zI0 (h h':Heap) (args:List AV) (q:Evr×Int) (hh:h.le h') (e:zVa h args=some q):zVa h' args=some q:=by
 obtain⟨p,rfl,e1⟩:=zO3 e;simp only[zVa,ii,zIy hh.sim e1,zM]
def G67 (m:Nat):=yE zVa (fun q=>TrOk q.1∧0≤q.2∧q.2<(m:Int)∧q.2<(q.1.t.length:Int)) fun q=>vv (zCj q.1.sc q.1.its q.1.en q.1.t q.2.toNat)
def S67:List Nat:=[1,2,4,5,6,7]
def zPk (m:Nat):List (FuncId×(List AV→Heap→PRes)):=[(143,g37),(144,g19),(145,g42),(89,G65),(148,G67 m),(195,yBr),(196,yNb)]
theorem yC8:P0 S67 148 (G67 0):=by
 have no:∀args h,¬(G67 0 args h).side:=fun args h hs=>by
  obtain⟨a,_,hp,_⟩:=zDw zI0 hs;obtain⟨_,h1,h2,_⟩:=hp;omega
 exact⟨fun args h h' _ hs=>(no _ _ hs).elim,.inl ⟨xM Tryz.func148 rfl rfl _ _,fun ρ h w args vs _ _ _ hs=>(no _ _ hs).elim⟩⟩
theorem P67:∀m,P0 S67 148 (G67 m)
 | 0=>yC8
 | m+1=>by
  refine mkH 2 (S:=S67) (l:=zPk m) (zS p37 (zS p19 (zS p42 (zS P65 (zS (P67 m) (zS yP9 (zS yTz yH))))))) Tryz.func148 rfl (by kernel_rfl) zI0 (fun h l x e=>by obtain⟨p,rfl,_⟩:=zO3 e;exact zD _) (fun a=>rfl) (fun args q h n e hp hn => ?_)
  obtain⟨q,i⟩:=q;obtain⟨p,rfl,e0⟩:=zO3 e;obtain⟨hok,hi0,him,hil⟩:=hp;simp only[]at e0 hok hi0 him hil ⊢;obtain⟨j,rfl⟩:∃j:Nat,i=j:=⟨i.toNat,by omega⟩
  rw[zV];have hlt:j<q.t.length:=by omega
  have hko:=zLg hok.tr j hlt;have hit:=hok.it j hlt;have hve:=zN0 (sc:=q.sc) (its:=q.its) (en:=q.en) hlt;have hlit:j<q.its.length:=by rw[hok.ln];exact hlt
  have gp:=zQ8 hn e0;obtain⟨id',c1,c2,c3,c4,ver',own',esz',rfl,hk',r1,r2,r3,r4⟩:=zIz e0;have hsc:=hok.sc;have hen:=hok.en;obtain⟨sc,t,its,⟨ls,each,pos⟩⟩:=q;simp only[]at hko hit hve hlit hk' r1 r2 r3 r4 hsc hen hlt him hil gp ⊢;rcases zKb r2 with ⟨h0,_⟩|⟨id,off,k,rfl,hk,ho',hat⟩
  ·rw[h0]at hlt;simp at hlt
  rcases zKe r3 with ⟨h0,_⟩|⟨id2,off2,k2,rfl,hk2,ho2,hat2⟩
  ·rw[h0]at hlit;simp at hlit
  obtain⟨cl,f1,f2,u1,u2,u3,u4,u5⟩:=zOi (e:=⟨ls,each,pos⟩) hn r4 (its.getD j 0);simp only[]at f1 f2 u1 u2 u3 u4 u5;have f0:=fun h' ha=>(f1 h' ha).1
  replace f1:=fun h' ha=>(f1 h' ha).2
  have hlen:=hen.lenAt (its.getD j 0);have hev:=hen.evAt (its.getD j 0);have hpos:=hen.pos;simp only[]at hlen hev hpos;have hsm:zYl sc (zAm ls (its.getD j 0)):=⟨hsc,by simp only[big];omega⟩
  have hokf:okF sc (zAm ls (its.getD j 0)):=⟨hsc,hlen,hev⟩;have hr:=hat j hlt;have hr2:=hat2 j hlit;have hro:=zDv hk;have h0:=zFn hk hn;have h00:=zFn hk hn 0;have hro':=zDv hk';have h0':=zFn hk' hn;have h00':=zFn hk' hn 0;have hro2:=zDv hk2;have h02:=zFn hk2 hn;have h002:=zFn hk2 hn 0;simp only[yO]at h00 h00' h002 hro';have hle:∀(X:Ctx) (h':Heap),h' id=some ⟨k.cells,k.ver,false,k.esz⟩→ldcs X h' (.p id k.ver (off+j*6)) 0 6=yA t[j]:=fun X h' e=>zJq e hr
  have hw6:off+(j*6+6)≤k.cells.length:=by omega
  have hw2:off2+(j+1)≤k2.cells.length:=by omega
  have v1:n≤n+1:=by omega
  have v2:n≤n+2:=by omega
  have v3:n≤n+3:=by omega
  have v4:n≤n+4:=by omega
  have hg:its.getD j 0=its[j]:=by rw[zB,zA hlit];rfl
  have hva:∀c:Nat,c<j→zXl (zCg sc its ⟨ls,each,pos⟩ t j) (c:Int)=zCj sc its ⟨ls,each,pos⟩ t c:=fun c hc=>zOo (by omega) (by omega)
  rw[hve];have hit9:∀hx,its[j]'hx=its.getD j 0:=fun _=>hg.symm
  rw[←hg]at hr2;clear hg;generalize its.getD j 0=it at *;generalize t[j]=x at *;obtain⟨op,num,var,attr,xa,xb⟩:=x;simp only[]at hit;obtain⟨k1,_,ka,kb,kc,_⟩:=hko;simp only[]at k1 ka kb kc;unfold Rng at hpos;by_cases o1:op=1
  ·subst o1
   simp[evx,ii,ss,vv,hlt,hlit,hro,h0,h00,hro',h0',h00',hro2,h02,h002,hle,hw6,hw2,hr2,hit9,yA,zPk,G65,zCv,f0,f1,zC,zE,v1,v2,v3,v4,u1,u2,u3,u4,u5,zDa,wE]
  by_cases o2:op=2
  ·subst o2
   simp[evx,ii,ss,vv,hlt,hlit,hro,h0,h00,hro',h0',h00',hro2,h02,h002,hle,hw6,hw2,hr2,hit9,yA,zPk,G65,zCv,f0,f1,zC,zE,v1,v2,v3,v4,u1,u2,u3,u4,u5,zDa,wE]
  by_cases o3:op=3
  ·subst o3
   simp[evx,ii,ss,vv,hlt,hlit,hro,h0,h00,hro',h0',h00',hro2,h02,h002,hle,hw6,hw2,hr2,hit9,yA,zPk,G65,zCv,f0,f1,zC,zE,v1,v2,v3,v4,u1,u2,u3,u4,u5,zDa,wE]
  by_cases o11:op≤11
  ·have har0:1≤op:=by unfold zBc at k1;grind
   have hit0:=hit (by omega) o11
   by_cases o4:op=4
   ·subst o4
    by_cases ht:it=each
    ·subst ht
     simp[evx,ii,ss,vv,hlt,hlit,hro,h0,h00,hro',h0',h00',hro2,h02,h002,hle,hw6,hw2,hr2,hit9,yA,zPk,G65,zCv,f0,f1,zC,zE,v1,v2,v3,v4,u1,u2,u3,u4,u5,yBr,yE,zI1,gp,f2,hsm,zDa,zD6,wG,hit0]
    ·simp[evx,ii,ss,vv,hlt,hlit,hro,h0,h00,hro',h0',h00',hro2,h02,h002,hle,hw6,hw2,hr2,hit9,yA,zPk,G65,zCv,f0,f1,zC,zE,v1,v2,v3,v4,u1,u2,u3,u4,u5,yBr,yE,zI1,gp,f2,hsm,zDa,zD6,wG,ht]
   by_cases o5:op=5
   ·subst o5
    simp[evx,ii,ss,vv,hlt,hlit,hro,h0,h00,hro',h0',h00',hro2,h02,h002,hle,hw6,hw2,hr2,hit9,yA,zPk,G65,zCv,f0,f1,zC,zE,v1,v2,v3,v4,u1,u2,u3,u4,u5,zDa,zD6,wG,wE]
   by_cases o9:op=11
   ·subst o9
    by_cases ht:it=each
    ·subst ht
     by_cases hp1:1≤pos
     ·have hp2:0<pos:=by omega
      have hw3:IntKind.i64.wrap (pos-1)=pos-1:=zMz (by unfold Rng;omega)
      simp[evx,ii,ss,vv,hlt,hlit,hro,h0,h00,hro',h0',h00',hro2,h02,h002,hle,hw6,hw2,hr2,hit9,yA,zPk,G65,zCv,f0,f1,zC,zE,v1,v2,v3,v4,u1,u2,u3,u4,u5,yBr,yE,zI1,gp,f2,hsm,zDa,zD6,wG,hit0,hp1,hp2,hw3]
     ·have hp2:¬0<pos:=by omega
      simp[evx,ii,ss,vv,hlt,hlit,hro,h0,h00,hro',h0',h00',hro2,h02,h002,hle,hw6,hw2,hr2,hit9,yA,zPk,G65,zCv,f0,f1,zC,zE,v1,v2,v3,v4,u1,u2,u3,u4,u5,yBr,yE,zI1,gp,f2,hsm,zDa,zD6,wG,hit0,hp1,hp2,unk]
    ·simp[evx,ii,ss,vv,hlt,hlit,hro,h0,h00,hro',h0',h00',hro2,h02,h002,hle,hw6,hw2,hr2,hit9,yA,zPk,G65,zCv,f0,f1,zC,zE,v1,v2,v3,v4,u1,u2,u3,u4,u5,yBr,yE,zI1,gp,f2,hsm,zDa,zD6,wG,ht,unk]
   have l11:op<11:=by omega
   have m4:¬zD6 op=4:=by unfold zD6;grind
   have m3:¬zD6 op=3:=by unfold zD6;grind
   have m2:¬zD6 op=2:=by unfold zD6;grind
   have m9:zD6 op+1=op:=by unfold zD6;grind
   have hnv:zDa sc it ⟨ls,each,pos⟩ ⟨op,num,var,attr,xa,xb⟩ (zXl (zCg sc its ⟨ls,each,pos⟩ t j) xa) (zXl (zCg sc its ⟨ls,each,pos⟩ t j) xb)=yBm (zAm ls it) (zC7 sc attr) op:=by simp only[zDa,o1,o2,o3,o11,if_true,if_false,wG,m4,m3,m2,m9]
   have hdn:deN (.g [.v (.int .i64 op),.v (.int .i64 num),.v (.string var),.v (.string attr),.v (.int .i64 xa),.v (.int .i64 xb)])=some ⟨op,num,var,attr,xa,xb⟩:=rfl;have hnb:∀(X:Ctx) (h'':Heap),h'' (n+1)=some ⟨[.v (.int .i64 op),.v (.int .i64 num),.v (.string var),.v (.string attr),.v (.int .i64 xa),.v (.int .i64 xb)],0,true,6⟩→ldcs X h'' (.p (n+1) 0 0) 0 6=[.v (.int .i64 op),.v (.int .i64 num),.v (.string var),.v (.string attr),.v (.int .i64 xa),.v (.int .i64 xb)]:=fun X h'' e=>by simp[ldcs,ldc,e]
   rw[hnv];by_cases ht:it=each
   ·subst ht
    simp[evx,ii,ss,vv,hlt,hlit,hro,h0,h00,hro',h0',h00',hro2,h02,h002,hle,hw6,hw2,hr2,hit9,yA,zPk,G65,zCv,f0,f1,zC,zE,v1,v2,v3,v4,u1,u2,u3,u4,u5,o1,o2,o3,o4,o5,o9,l11,yNb,yE,zRf,gp,f2,hokf,hdn,hnb]
   ·simp[evx,ii,ss,vv,hlt,hlit,hro,h0,h00,hro',h0',h00',hro2,h02,h002,hle,hw6,hw2,hr2,hit9,yA,zPk,G65,zCv,f0,f1,zC,zE,v1,v2,v3,v4,u1,u2,u3,u4,u5,o1,o2,o3,o4,o5,o9,l11,ht,yNb,yE,zRf,gp,f2,hokf,hdn,hnb]
  have har:1≤zBc op:=by unfold zBc at k1 ⊢;grind
  obtain⟨c,rfl⟩:∃c:Nat,xa=c:=⟨xa.toNat,by have:=(ka har).1;omega⟩
  have hcj:c<j:=by have:=(ka har).2;omega
  have hct:c<t.length:=by omega
  have hcm:c<m:=by omega
  rw[hva c hcj];obtain⟨⟨ak,an⟩,hav⟩:∃v,zCj sc its ⟨ls,each,pos⟩ t c=v:=⟨_,rfl⟩;rw[hav];have n4:¬op=4:=by omega
  have n5:¬op=5:=by omega
  have n11:¬op=11:=by omega
  have n10:¬op<11:=by omega
  by_cases p12:op=12
  ·subst p12
   by_cases ht:it=each
   ·subst ht
    simp[evx,ii,ss,vv,hlt,hlit,hro,h0,h00,hro',h0',h00',hro2,h02,h002,hle,hw6,hw2,hr2,hit9,yA,zPk,G65,zCv,f0,f1,zC,zE,v1,v2,v3,v4,u1,u2,u3,u4,u5,o1,o2,o3,n4,n5,n11,n10,o11,G67,yE,zVa,gp,hok,hct,hcm,hav,zDa,g37,yZ,deV]
   ·simp[evx,ii,ss,vv,hlt,hlit,hro,h0,h00,hro',h0',h00',hro2,h02,h002,hle,hw6,hw2,hr2,hit9,yA,zPk,G65,zCv,f0,f1,zC,zE,v1,v2,v3,v4,u1,u2,u3,u4,u5,o1,o2,o3,n4,n5,n11,n10,o11,G67,yE,zVa,gp,hok,hct,hcm,hav,zDa,ht,g37,yZ,deV]
  by_cases p13:op=13
  ·subst p13
   by_cases ht:it=each
   ·subst ht
    simp[evx,ii,ss,vv,hlt,hlit,hro,h0,h00,hro',h0',h00',hro2,h02,h002,hle,hw6,hw2,hr2,hit9,yA,zPk,G65,zCv,f0,f1,zC,zE,v1,v2,v3,v4,u1,u2,u3,u4,u5,o1,o2,o3,n4,n5,n11,n10,o11,G67,yE,zVa,gp,hok,hct,hcm,hav,zDa,g19,yZ,deV]
   ·simp[evx,ii,ss,vv,hlt,hlit,hro,h0,h00,hro',h0',h00',hro2,h02,h002,hle,hw6,hw2,hr2,hit9,yA,zPk,G65,zCv,f0,f1,zC,zE,v1,v2,v3,v4,u1,u2,u3,u4,u5,o1,o2,o3,n4,n5,n11,n10,o11,G67,yE,zVa,gp,hok,hct,hcm,hav,zDa,ht,g19,yZ,deV]
  have har2:zBc op=2:=by unfold zBc at k1 ⊢;grind
  obtain⟨d,rfl⟩:∃d:Nat,xb=d:=⟨xb.toNat,by have:=(kb har2).1;omega⟩
  have hdj:d<j:=by have:=(kb har2).2;omega
  have hdt:d<t.length:=by omega
  have hdm:d<m:=by omega
  rw[hva d hdj];obtain⟨⟨bk,bn⟩,hbv⟩:∃v,zCj sc its ⟨ls,each,pos⟩ t d=v:=⟨_,rfl⟩;rw[hbv];by_cases ht:it=each
  ·subst ht
   simp[evx,ii,ss,vv,hlt,hlit,hro,h0,h00,hro',h0',h00',hro2,h02,h002,hle,hw6,hw2,hr2,hit9,yA,zPk,G65,zCv,f0,f1,zC,zE,v1,v2,v3,v4,u1,u2,u3,u4,u5,o1,o2,o3,n4,n5,n11,n10,o11,G67,yE,zVa,gp,hok,hct,hcm,hav,zDa,p12,p13,hdt,hdm,hbv,g42,zJi,deI,deV]
  ·simp[evx,ii,ss,vv,hlt,hlit,hro,h0,h00,hro',h0',h00',hro2,h02,h002,hle,hw6,hw2,hr2,hit9,yA,zPk,G65,zCv,f0,f1,zC,zE,v1,v2,v3,v4,u1,u2,u3,u4,u5,o1,o2,o3,n4,n5,n11,n10,o11,G67,yE,zVa,gp,hok,hct,hcm,hav,zDa,p12,p13,hdt,hdm,hbv,ht,g42,zJi,deI,deV]
end Go.Proofs.YtbffkkeieihpdaaGreatDoor
