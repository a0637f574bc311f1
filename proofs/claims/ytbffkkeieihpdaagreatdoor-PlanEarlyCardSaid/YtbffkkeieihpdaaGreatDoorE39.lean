import Derived.Test.YtbffkkeieihpdaaGreatDoorE38
import Derived.Test.YtbffkkeieihpdaaGreatDoorE35
import Derived.Test.YtbffkkeieihpdaaGreatDoorCards
import Derived.Test.YtbffkkeieihpdaaGreatDoorTie
import Derived.SevenTiedAt
set_option linter.unusedSimpArgs false
set_option linter.unusedVariables false
set_option linter.constructorNameAsVariable false
set_option maxRecDepth 100000
set_option maxHeartbeats 4000000
namespace Go.Proofs.YtbffkkeieihpdaaGreatDoor
open Go Go.Eng Go.RowKit Go.ChangeShapes Go.WideShapes Go.Joins
section
section
variable {H:Heap} {n:Nat} {sc:List Ty} {q:Qu} {sa qa qb qc ba oa:AV} {m:Nat} {p:Pt} {b other:List (List Ev)}
theorem yMa {n4 c N:Nat} {h0:Heap} {s:St} (hH:h0.le s.h) (hH2:H.sim h0) (a:MX H n4 c b other N s):rd zFr s.h (s.e 12)=some (zPk N c b other):=by
 obtain⟨w,cs,hw,hcl,hcs⟩:=a;have hl:(zPk N c b other).length=N:=by simp[zPk]
 rcases hw with ⟨h1,h2⟩|⟨h1,h2,_,_⟩
 ·have:zPk N c b other=[]:=zU (by omega)
  rw[h2,this];rfl
 ·have:=De.sl_in (a:=dEs) (sz:=1) (off:=0) (xs:=zPk N c b other) h2 (by simp only[];omega) fun i hi=>by
   obtain⟨c',k1,k2⟩:=hcs i (by omega)
   have hv:(zPk N c b other)[i]=mxE c b other i:=by simp[zPk,mxE]
   have k3:rd dEs s.h c'=some (mxE c b other i):=zAe (Heap.sim_trans hH2 hH.sim) k2;rw[hv,←k3];show dEs.run s.h _=dEs.run s.h [c'];congr 1;rw[yQ,xM];rw[xO (by simp only[];omega)]
   have:=(yB.1 k1).2;simp[this]
  rw[hl]at this
  rw[h1];exact this
theorem yJe (o:OkE sc q b other) (hn:Fresh n H) (rb:rd zFr H ba=some b) (ro:rd zFr H oa=some other) {c:Nat} (hc:c<(zAq q q.items.length).length) (e:Nat→AV) (h1:Heap) (n2:Nat) (B:BE H n sc q sa qa qb qc ba oa m p ⟨e,h1,n2⟩) (q11:e 11=ii c) {Q:Ex→St→Prop}
  (hQ:∀s',BE H n sc q sa qa qb qc ba oa m p s'→s'.e 11=ii (c+1:Nat)→Q .normal s') :
  awp (cz SP (pfL zFo)) zHb Q ⟨e,h1,n2⟩:=by
 have W:=o.W;have w:=o.w;have B0:=B;obtain⟨⟨q2,q3,q4,q5,b0,b1,ag,fr,nn⟩,q9,b9,pl⟩:=B;simp only[]at q2 q3 q4 q5 b0 b1 ag fr nn q9 b9 pl;obtain⟨s1,s2,s3,s4,s5⟩:=zN pl.cm;have hplen:(xY sc q).comps.length=(zAq q q.items.length).length:=zCb;rw[hplen]at s2;have n10:=W.n1;have hpn:=zLy q q.items.length;have b9':=b9;simp only[xR,ii,ss,bv]at b9;refine zZ 1 _ _ (R:=fun s=>BE H n sc q sa qa qb qc ba oa m p s∧s.e 11=ii c) ?_ fun e2 h2 n3 ⟨B2,k11⟩ => ?_
 ·simp[evz,hdC,tlC,zHb,yW,Tryz.f11,q9,q11,b9,ii,s1,s2,hc]
  exact B0.up (by simp[up]) (zE _ _) fr (zC _)
 show awp _ (.seq (.block 1 zH9) (tlC 2 zHb)) _ _;rw[zDn,zAy]
 -- the zB3 binding
 refine zZ 2 _ _ (R:=fun s=>BE H n sc q sa qa qb qc ba oa m p s∧s.e 11=ii c∧rd zFr s.h (s.e 12)=some (zPk (zAq q q.items.length).length c b other)) ?_ fun e3 h3 n4 ⟨B3,k11',r12⟩ => ?_
 ·refine zZ 1 _ _ (R:=fun s=>BE H n sc q sa qa qb qc ba oa m p s∧s.e 11=ii c∧s.e 12=.v (.slice none 0 0)) ?_ fun e3 h3 n4 ⟨B3,j11,j12⟩ => ?_
  ·simp only[]at k11
   simp[evz,hdC,tlC,zH9,zHb,inB,yW,Tryz.f11];exact⟨B2.up (by simp[up]) (zE _ _) B2.a.fr (zC _),k11⟩
  show awp _ (.seq (hdC 1 (hdC 1 (tlC 1 zH9))) (.block 2 (.loop zVz))) _ _;have hfr3:Fresh n4 h3:=B3.a.fr;refine zN1 (I:=fun s=>I11M H n sc q ba oa m p b other c h3 n4 e3 0 s) ?_ fun e5 h5 n5 K => ?_
  ·simp only[]at j11 j12
   simp[evz,hdC,tlC,zH9,zHb,inB,yW,Tryz.f11];exact⟨by simp[up],by simp[up,ii],zE _ _,hfr3,zC _,0,[],.inl ⟨rfl,by simp[up,j12]⟩,rfl,fun j hj=>by omega⟩
  ·refine yN (fun s=>∃k,k≤(zAq q q.items.length).length∧I11M H n sc q ba oa m p b other c h3 n4 e3 k s) (fun s=>(zAq q q.items.length).length-(s.e 13).i.toNat) ⟨0,zDg _,K⟩ ?_
   rintro e6 h6 n6 ⟨k,hk,J⟩;have g13:e6 13=ii k:=J.q13;by_cases hlt:k<(zAq q q.items.length).length
   ·refine yJi W hn rb ro e3 h3 n4 B3 hc j11 hlt _ J fun s' J'=>⟨⟨k+1,hlt,J'⟩,?_⟩
    have g2:=J'.q13;show (zAq q q.items.length).length-(s'.e 13).i.toNat<(zAq q q.items.length).length-(e6 13).i.toNat;rw[g13,g2];show (zAq q q.items.length).length-((k+1:Nat):Int).toNat<(zAq q q.items.length).length-((k:Nat):Int).toNat;omega
   ·obtain rfl:k=(zAq q q.items.length).length:=by omega
    obtain⟨er,q13,ag6,fr6,nn6,mx⟩:=J;simp only[]at er q13 ag6 fr6 nn6;have z9:e6 9=.p m 0 0:=(er 9 (by simp)).trans B3.q9
    have c9:h6 m=some ⟨xR p (xY sc q),0,true,16⟩:=(ag6 _ (xB B3.b9 hfr3)).trans B3.b9;simp only[xR,ii,ss,bv]at c9;simp[evz,hdC,tlC,zVz,zH9,zHb,inB,yW,Tryz.f11,z9,q13,c9,ii,s1,s2];refine⟨B3.up (fun i hi => ?_) ag6 fr6 nn6,?_,?_⟩
    ·have:∀i∈[2,3,4,5,9],e6 i=e3 i:=fun i hi=>er i (by simp at hi ⊢;omega)
     simp only[yD,yA,or_false]at hi;rcases hi with rfl|rfl|rfl|rfl|rfl<;>simp[up]<;>exact this _ (by simp)
    ·exact (er 11 (by simp)).trans j11
    ·have hm:MX H n4 c b other (zAq q q.items.length).length ⟨e6,h6,n6⟩:=mx
     exact yMa (h0:=h3) (zI7 hfr3 ag6) (zB8 hn B3.a.ag) hm
 -- both lists by item
 have hbl:∀l∈b,l.length≤2199023255552:=fun l hl=>by have:=o.bl l hl;omega
 have hml:∀l∈zPk (zAq q q.items.length).length c b other,l.length≤2199023255552:=zQ2 (P:=fun l=>l.length≤2199023255552) (by simp) hbl fun l hl=>by have:=o.ol l hl;omega
 refine zZ 2 _ _ (R:=fun s=>∃l1 l2,CE H n sc q sa qa qb qc ba oa m p c l1 l2 (byV q b (-1) evZ) (byV q (zPk (zAq q q.items.length).length c b other) (-1) evZ) s) ?_ fun e4 h4 n5 ⟨l1,l2,C4⟩ => ?_
 ·have B30:=B3
  obtain⟨⟨q2,q3,q4,q5,b0,b1,ag3,fr3,nn3⟩,q9,b9,pl3⟩:=B3;simp only[]at q2 q3 q4 q5 b0 b1 ag3 fr3 nn3 q9 b9 pl3 k11' r12;obtain⟨o1,o2,o3,o4,o5,o6,o7,o8,o9,o10⟩:=pl3.is;have rb3:rd zFr h3 ba=some b:=yT hn rb _ ag3;have u1:=(zN rb3).2.2.1;have u2:=(zN r12).2.2.1;have b9':=b9;simp only[xR,ii,ss,bv]at b9;obtain⟨xa,hxa⟩:∃xa,xa=e3 12:=⟨_,rfl⟩;rw[←hxa]at r12 u2;simp[evz,hdC,tlC,zH9,zHb,inB,yW,Tryz.f11,zFo,q2,q9,b9,←hxa,zGg,o1,o2,o3,o4,o5,o6,o7,o8,o9,o10,u1,u2];refine (zDo (S:=[]) (fun _ h=>by cases h) (c23 evZ W pl3 fr3 rb3 hbl)).mono ?_
  rintro l1 h5 n6 ⟨a1,a2,a3,rl1⟩;have c9:h5 m=some ⟨xR p (xY sc q),0,true,16⟩:=(a1 _ (xB b9' fr3)).trans b9';have r12':=yT fr3 r12 _ a1;have pl5:=pl3.sim (zB8 fr3 a1);simp only[xR,ii,ss,bv]at c9;simp[evz,q9,c9,←hxa,zGg,o1,o2,o3,o4,o5,o6,o7,o8,o9,o10,u2];refine (zDo (S:=[]) (fun _ h=>by cases h) (c23 evZ W pl5 a2 r12' hml)).mono ?_
  rintro l2 h6 n7 ⟨d1,d2,d3,rl2⟩;refine⟨l1,l2,B30.up (by simp[up]) (yP a1 d1 a3) d2 (xL a3 d3),by simp[up,k11'],by simp[up],by simp[up],yT a2 rl1 _ d1,rl2⟩
 -- the conditions
 refine zZ 1 _ _ (R:=fun s=>CE H n sc q sa qa qb qc ba oa m p c l1 l2 (byV q b (-1) evZ) (byV q (zPk (zAq q q.items.length).length c b other) (-1) evZ) s∧s.e 17=ii 0) ?_ fun e5 h5 n6 ⟨C5,k17⟩ => ?_
 ·simp[evz,hdC,tlC,zH9,zHb,inB,yW,Tryz.f11]
  exact⟨C4.up (by simp[up]) (zE _ _) C4.b.a.fr (zC _),by simp[up,ii]⟩
 have hcc:c<(xY sc q).comps.length:=by rw[hplen];exact hc
 have hpm:(zAq q q.items.length)[c]∈zAq q q.items.length:=zH hc;obtain⟨ilt,ing⟩:=posI_mem.1 hpm;have hrk:rk q (zAq q q.items.length)[c]=c:=by
  obtain⟨k1,k2⟩:=yB.1 (zC5 ilt ing);exact zPm (zM2 q q.items.length) k1 hc k2
 have hpc:=zHp (sc:=sc) ilt ing;rw[show (zAq q (zAq q q.items.length)[c]).length=c from hrk,zA hcc]at hpc
 have hcm:=Option.some.inj hpc;generalize hi0:(zAq q q.items.length)[c]=i0 at *;have hcl2:(zCq sc q (zAl q) i0).length<big:=by
  have h1:=zNx w;have h2:(zCq sc q (zAl q) i0).length≤(zAl q).length:=by unfold zCq;rw[zQ];exact wS _ _
  unfold big;omega
 show awp _ (.block 4 (.loop zQn)) _ _;rw[zAy];refine yN (fun s=>∃j,j≤(zCq sc q (zAl q) i0).length∧CE H n sc q sa qa qb qc ba oa m p c l1 l2 (byV q b (-1) evZ) (byV q (zPk (zAq q q.items.length).length c b other) (-1) evZ) s∧s.e 17=ii j) (fun s=>(zCq sc q (zAl q) i0).length-(s.e 17).i.toNat) ⟨0,zDg _,C5,k17⟩ ?_
 rintro e6 h6 n7 ⟨j,hj,J,k17⟩;by_cases hlt:j<(zCq sc q (zAl q) i0).length
 ·have hmem:(zCq sc q (zAl q) i0)[j]∈zCq sc q (zAl q) i0:=zH hlt
  obtain⟨hev,I,hI,g1,g2,g3⟩:=zYr W ilt ing hmem b other evZ;have hpr:=yCk w hmem;rw[hrk]at hev;refine yJd (cm:=zE3 sc q (zAl q) i0) (it:=(i0:Int)) hcc hcm rfl (by rw[hplen];unfold big;omega) (j:=j) hlt hcl2 ?_ ⟨hpr,yEg o.bl o.be _⟩ ⟨hpr,yEg (zQ2 (P:=fun l=>l.length≤2199023255552) (by simp) o.bl o.ol) (zQ2 (P:=fun l=>∀y∈l,zHc y) (by simp) o.be o.oe) _⟩ hev ?_ _ J k17 fun s' J' k2=>⟨⟨j+1,hlt,J',k2⟩,?_⟩
  ·have:=hpr.len
   show (zCq sc q (zAl q) i0)[j].p.code.length<big;unfold big;omega
  ·show nmV i0 (zCq sc q (zAl q) i0)[j].p.code (zCq sc q (zAl q) i0)[j].p.code.length=true
   unfold nmV;rw[wW,zA7];exact⟨I,hI,by unfold nmI;rw[decide_eq_true g1,decide_eq_true g2,decide_eq_true g3];rfl⟩
  ·have k17':e6 17=ii j:=k17
   show (zCq sc q (zAl q) i0).length-(s'.e 17).i.toNat<(zCq sc q (zAl q) i0).length-(e6 17).i.toNat;rw[k2,k17'];show (zCq sc q (zAl q) i0).length-((j+1:Nat):Int).toNat<(zCq sc q (zAl q) i0).length-((j:Nat):Int).toNat;omega
 ·obtain rfl:j=(zCq sc q (zAl q) i0).length:=by omega
  have J0:=J;obtain⟨⟨⟨q2,q3,q4,q5,b0,b1,ag6,fr6,nn6⟩,q9,b9,pl6⟩,q11,q15,q16,r1,r2⟩:=J;simp only[]at q9 b9 pl6 q11 fr6 k17;obtain⟨id,off,k,ty,ow,cn,hu,hk,ho,x1,x2,x3,t0,t1,t2,t3,t4,t5⟩:=zH5 pl6.cm hcc;rw[hcm]at x3;obtain⟨v1,v2,v3,v4,v5⟩:=zN x3;have w0:off+(c*6+6)≤k.cells.length:=ho;have hcw:=yK (j:=c) (by unfold big;omega)
  have hlen:(zE3 sc q (zAl q) i0).conds.length=(zCq sc q (zAl q) i0).length:=rfl;rw[hlen]at v2;simp only[xR,ii,ss,bv]at b9;simp[evz,hdC,tlC,zQn,zH9,zHb,zIn,inB,yW,Tryz.f11,q9,q11,k17,b9,ii,hu,hk,hcc,w0,t5,v1,v2,v3,hcw];exact hQ _ (J0.b.up (by simp[up]) (zE _ _) fr6 (zC _)) (by simp[up,ii])
theorem yMc (o':Wf sc q→OkE sc q b other) (w:SQ sc q) (e1:rd zE7 H sa=some sc) (e2:deQ H (.g (zA2 q qa qb qc))=some q) (hn:Fresh n H) (rb:rd zFr H ba=some b) (ro:rd zFr H oa=some other) :
  awp (cz SP (pfL zFo)) (Tryz.f11.body.getD .skip) (zBc (cz SP (pfL zFo)) Tryz.f11 fun z _ _=>z=bv true) ⟨env0 [.g [sa],.g (zA2 q qa qb qc),ba,oa],H,n⟩:=by
 refine zZ 3 _ _ (yJg e1 e2 w hn _ rfl rfl rfl rfl) fun e3 h3 n3 A => ?_
 refine zZ 2 _ _ (yJf e1 e2 w hn e3 h3 n3 A) fun e4 h4 n4 ⟨W,m,p,B⟩ => ?_
 have o:=o' W;have hpc:=@zCb sc q;refine zZ 1 _ _ (R:=fun _=>True) ?_ fun e5 h5 n5 _ => ?_
 ·show awp _ (.seq (hdC 1 (hdC 1 (tlC 5 (Tryz.f11.body.getD .skip)))) (.block 0 (.loop zHb))) _ _
  refine zN1 (I:=fun s=>BE H n sc q sa qa qb qc ba oa m p s∧s.e 11=ii 0) ?_ fun e5 h5 n5 ⟨K,k11⟩ => ?_
  ·simp[evz,hdC,tlC,Tryz.f11]
   exact⟨B.up (by simp[up]) (zE _ _) B.a.fr (zC _),by simp[up,ii]⟩
  ·refine yN (fun s=>∃c,c≤(zAq q q.items.length).length∧BE H n sc q sa qa qb qc ba oa m p s∧s.e 11=ii c) (fun s=>(zAq q q.items.length).length-(s.e 11).i.toNat) ⟨0,zDg _,K,k11⟩ ?_
   rintro e6 h6 n6 ⟨c,hc,J,k11⟩;by_cases hlt:c<(zAq q q.items.length).length
   ·refine yJe o hn rb ro hlt e6 h6 n6 J k11 fun s' J' k2=>⟨⟨c+1,hlt,J',k2⟩,?_⟩
    have k11':e6 11=ii c:=k11;show (zAq q q.items.length).length-(s'.e 11).i.toNat<(zAq q q.items.length).length-(e6 11).i.toNat;rw[k2,k11'];show (zAq q q.items.length).length-((c+1:Nat):Int).toNat<(zAq q q.items.length).length-((c:Nat):Int).toNat;omega
   ·obtain rfl:c=(zAq q q.items.length).length:=by omega
    have z9:=J.q9;have b9:=J.b9;obtain⟨s1,s2,s3,s4,s5⟩:=zN J.pl.cm;rw[hpc]at s2;simp only[xR,ii,ss,bv]at z9 b9 k11;simp[evz,hdC,tlC,zHb,yW,Tryz.f11,z9,k11,b9,ii,s1,s2]
 ·simp[evz,tlC,Tryz.f11,bv]
theorem yJc (e1:rd zE7 H sa=some sc) (e2:deQ H (.g (zA2 q qa qb qc))=some q) (w:SQ sc q) (hn:Fresh n H) (rb:rd zFr H ba=some b) (okb:b.length*24≤reachBytes∧∀x∈b,x.length*88≤reachBytes∧∀y∈x,zHc y) (ro:rd zFr H oa=some other) (oko:other.length*24≤reachBytes∧∀x∈other,x.length*88≤reachBytes∧∀y∈x,zHc y) :
  awp (cz SP (pfL zFo)) (Tryz.f11.body.getD .skip) (zBc (cz SP (pfL zFo)) Tryz.f11 fun z _ _=>z=bv true) ⟨env0 [.g [sa],.g (zA2 q qa qb qc),ba,oa],H,n⟩:=by
 have hr:reachBytes=140737488351232:=rfl;refine yMc (fun W=>⟨W,w,fun l hl => ?_,fun l hl => ?_,fun l hl=>(okb.2 l hl).2,fun l hl=>(oko.2 l hl).2⟩) w e1 e2 hn rb ro
 ·have:=(okb.2 l hl).1;rw[hr]at this
  have hlb:1599289640355≤2199023255552:=by omega
  omega
 ·have:=(oko.2 l hl).1;rw[hr]at this
  have hlb:1599289640355≤2199023255552:=by omega
  omega
end
end
end Go.Proofs.YtbffkkeieihpdaaGreatDoor
namespace Go.Proofs.YtbffkkeieihpdaaGreatDoor
open Go Go.Eng Go.RowKit Go.ChangeShapes Go.WideShapes Go.ChangeAt
theorem yBt (os:Os) (started:os.Started) (H:Type) (enc:TypeId×Value→H) :
  ReturnsInHanded {} Tryz.checked os 11 .any (fun w args=>(Rows.planEarlySpec.pre enc Tryz.prog Tryz.f11 [] false w args∧laidMetH Tryz.prog Rows.planEarlyRow.laid w)∧sizedMet enc Tryz.prog Tryz.f11 (OpenSpec.ofChange Rows.planEarlySpec) false w args)
   (Rows.planEarlySpec.post enc Tryz.prog Tryz.f11 false true false false):=by
 refine returnsInHanded_of_change_and (C:=Tryz.checked) (X:=fun w _=>laidMetH Tryz.prog Rows.planEarlyRow.laid w) (fun _ _ _ hh h=>h.of_heap hh) (by kernel_rfl) started (by kernel_rfl) Tryz.func11
  (ChangeSpec.witness_shaped (enc:=enc) (C:=Tryz.checked) (os:=os) (X:=fun w _=>laidMetH Tryz.prog Rows.planEarlyRow.laid w) false (World.doorLaid Tryz.prog 400 os) #[.agg #[.slice none 0 0],.agg #[.slice none 0 0,.int .i64 0,.int .i64 0,.slice none 0 0,.int .i64 0,.string ByteArray.empty,.slice none 0 0],.slice none 0 0,.slice none 0 0] 8 rfl (World.shaped_of_RefB (by kernel_rfl) (by kernel_rfl)) (by kernel_rfl) (by kernel_rfl) (by kernel_rfl)
   (laidMetH_of_parts3 (fuel:=8) (laidMet_of_run' 8 (by kernel_rfl) (by kernel_rfl)) (by kernel_rfl) (by kernel_rfl))) ?_
 intro W base args ds gs before hval0 hW _ hsz hL _;have hval:∀(j:Nat) t v,Tryz.f11.params[j]? = some t→args[j]? = some v→Value.okWide Tryz.prog W .any base t v:=hval0;have hW':=hW;obtain⟨p,q,hA0,hV,rfl,hfz,hnd⟩:=hW;have hA:DataW.TrodAll enc Tryz.prog W 0 (fun _=>true) true Tryz.f11.params.toList args.toList ds p:=hA0
 obtain⟨args⟩:=args;rw[Tryz.params11]at hA hval;simp only[]at hA;obtain⟨v0,vs0,d0,ds0,p0,q0,e0,e0_,e0__,h0,hA0⟩:=ChangeShapes.trodAll_cons hA;obtain⟨v1,vs1,d1,ds1,p1,q1,e1,e1_,e1__,h1,hA1⟩:=ChangeShapes.trodAll_cons hA0;obtain⟨v2,vs2,d2,ds2,p2,q2,e2,e2_,e2__,h2,hA2⟩:=ChangeShapes.trodAll_cons hA1;obtain⟨v3,vs3,d3,ds3,p3,q3,e3,e3_,e3__,h3,hA3⟩:=ChangeShapes.trodAll_cons hA2;obtain⟨en,en_,en__⟩:=trodAll_nil hA3;subst en en_ en__ e3 e3_ e3__ e2 e2_ e2__ e1 e1_ e1__ e0 e0_ e0__;obtain⟨rfl,rfl⟩:=trodVars_none hV;obtain⟨ρ0,hp0,m0,l0,x0,le0,lh0,_,hb0,vr0,dec0,ok0⟩:=zSn yBd Tryz.underlying24 (hval 0 24 v0 rfl rfl) h0 (zGe (ts:=Tryz.f11.params.toList) hsz (j:=0) rfl rfl) (fun _ _=>none) (fun _=>none) 0 (Blks.nil W)
 obtain⟨ρ1,hp1,m1,l1,x1,le1,lh1,_,hb1,vr1,dec1,ok1⟩:=zSn zXj Tryz.underlying31 (hval 1 31 v1 rfl rfl) h1 (zGe (ts:=Tryz.f11.params.toList) hsz (j:=1) rfl rfl) ρ0 hp0 m0 hb0;obtain⟨ρ2,hp2,m2,a2,x2,le2,lh2,_,hb2,vr2,dec2,ok2⟩:=zPc zLz Tryz.underlying53 (.inr (.inr (.inr ⟨_,rfl⟩))) (hval 2 53 v2 rfl rfl) h2 (zGe (ts:=Tryz.f11.params.toList) hsz (j:=2) rfl rfl) ρ1 hp1 m1 hb1;obtain⟨ρ3,hp3,m3,a3,x3,le3,lh3,_,hb3,vr3,dec3,ok3⟩:=zPc zLz Tryz.underlying53 (.inr (.inr (.inr ⟨_,rfl⟩))) (hval 3 53 v3 rfl rfl) h3 (zGe (ts:=Tryz.f11.params.toList) hsz (j:=3) rfl rfl) ρ2 hp2 m2 hb2;obtain⟨sa,hsa,k0⟩:=zBd (show zIp hp0 (.g l0)=some x0 from dec0)
 obtain⟨qa,qb,qc,hqa,k1,k2,k3⟩:=wH (show deQ hp1 (.g l1)=some x1 from dec1)
 rw[hsa]at vr0;rw[hqa]at vr1;have hc:=zUz yAh Tryz.func11 rfl (k:=4) (by kernel_rfl) (args:=[.g [sa],.g (zA2 x1 qa qb qc),a2,a3]) rfl
  (yJc (sc:=x0) (q:=x1) (H:=roH hp3) (n:=m3) (zAe (zIe _) (yZ (fun i k e=>(lh3 i k (lh2 i k (lh1 i k e)))) k0)) (zF9 (q:=x1) (zAe (zIe _) (yZ (fun i k e=>(lh3 i k (lh2 i k e))) k1)) (zAe (zIe _) (yZ (fun i k e=>(lh3 i k (lh2 i k e))) k2)) (zAe (zIe _) (yZ (fun i k e=>(lh3 i k (lh2 i k e))) k3))) (yLw ok0.1 ok0.2 ok1) (zOz fun i hi=>(hb3.free i hi).2) (zAe (zIe _) (yZ (fun i k e=>(lh3 i k e)) dec2)) ok2 (zAe (zIe _) (yZ (Heap.le_refl _) dec3)) ok3) (yIu (W:=W) (S:=SP) (pf:=pfL zFo) hb3 fun g hg=>by
  simp only[SP,yD,yA,or_false]at hg;rcases hg with rfl|rfl|rfl|rfl|rfl|rfl|rfl|rfl
  ·exact at0 hL (by kernel_rfl) (by simp[Rows.planEarlyRow])
  ·exact at1 hL (by kernel_rfl) (by simp[Rows.planEarlyRow])
  ·exact at2 hL (by kernel_rfl) (by simp[Rows.planEarlyRow])
  ·exact at7 hL (by kernel_rfl) (by simp[Rows.planEarlyRow])
  ·exact at3 hL (by kernel_rfl) (by simp[Rows.planEarlyRow])
  ·exact at4 hL (by kernel_rfl) (by simp[Rows.planEarlyRow])
  ·exact at5 hL (by kernel_rfl) (by simp[Rows.planEarlyRow])
  ·exact at6 hL (by kernel_rfl) (by simp[Rows.planEarlyRow])
  ) hb3.free (zJ3 (VR.mono (fun i v b e=>(le3 i v b (le2 i v b (le1 i v b e)))) _ _ vr0) (zJ3 (VR.mono (fun i v b e=>(le3 i v b (le2 i v b e))) _ _ vr1) (zJ3 (VR.mono (fun i v b e=>(le3 i v b e)) _ _ vr2) (zJ3 vr3 (yHy _)))))
 refine hc.mono fun e W' ⟨he,hb⟩=>⟨_,he,zW8 hW' rfl (by kernel_rfl) rfl rfl hb⟩
end Go.Proofs.YtbffkkeieihpdaaGreatDoor
