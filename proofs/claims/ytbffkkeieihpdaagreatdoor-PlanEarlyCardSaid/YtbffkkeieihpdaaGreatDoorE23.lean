import Derived.Test.YtbffkkeieihpdaaGreatDoorE22
import Derived.Test.YtbffkkeieihpdaaGreatDoorE14
import Derived.Test.YtbffkkeieihpdaaGreatDoorE17
import Derived.Test.YtbffkkeieihpdaaGreatDoorE21
import Derived.Test.YtbffkkeieihpdaaGreatDoorE15
set_option linter.unusedSimpArgs false
set_option linter.unusedVariables false
set_option linter.constructorNameAsVariable false
set_option maxRecDepth 100000
set_option maxHeartbeats 4000000
namespace Go.Proofs.YtbffkkeieihpdaaGreatDoor
open Go Go.Eng
section
structure Wf (sc:List Ty) (q:Qu):Prop where
 s0:zLf sc=0
 sh:shQ q=true
 n1:q.items.length≤10
 it:∀i,i<q.items.length→itE sc q i=0
 po:q.items.all (·.neg)=false
 wh:q.wh.length≠0→(∀i,i<q.wh.length→zQm sc q q.wh false i=0)∧zC9 q.wh=true∧∀k,k<(zBj q.wh).length→zSy q k=0
 wi:q.within≤1099511627776
 pa:emB q.par=false→zGu sc q=true
 r1:q.ret.length≤8
 r2:∀k,k<q.ret.length→(∀i,i<(q.ret.getD k []).length→zQm sc q (q.ret.getD k []) true i=0)∧zC9 (q.ret.getD k [])=false
section
variable {sc:List Ty} {q:Qu}
theorem zYg (h:(zMc sc q).code=0):zMc sc q=fl0∧q.items.length≤10∧(∀i,i<q.items.length→itE sc q i=0)∧q.items.all (·.neg)=false:=by
 unfold zMc at h ⊢;by_cases h1:10<q.items.length
 ·simp[h1]at h
 by_cases h2:(zFp (itE sc q) q.items.length).2=0
 ·cases h3:q.items.all (·.neg)with
  | true=>simp only[h3,if_neg h1,h2,ne_eq,not_true_eq_false,if_false,if_true]at h;simp at h
  | false=>simp only[if_neg h1,h2,ne_eq,not_true_eq_false,if_false,yO];exact⟨trivial,by omega,zF5 h2,trivial⟩
 ·simp only[if_neg h1,ne_eq,h2,not_false_eq_true,if_true]at h
theorem yEm (h:(zT7 sc q).2=0):(∀i,i<q.wh.length→zQm sc q q.wh false i=0)∧zC9 q.wh=true:=by
 unfold zT7 at h;by_cases h1:(wlk sc q q.wh false).2=0
 ·cases h2:zC9 q.wh with
  | true=>exact⟨zF5 h1,rfl⟩
  | false=>simp[h1,h2]at h
 ·simp[h1]at h
theorem yEn {t:List Nd} (h:(yEo sc q t).2=0):(∀i,i<t.length→zQm sc q t true i=0)∧zC9 t=false:=by
 unfold yEo at h;by_cases h1:(wlk sc q t true).2=0
 ·cases h2:zC9 t with
  | false=>exact⟨zF5 h1,rfl⟩
  | true=>simp[h1,h2]at h
 ·simp[h1]at h
theorem zX3 (h:(zUx q).code=0):zUx q=fl0∧∀k,k<(zBj q.wh).length→zSy q k=0:=by
 unfold zUx at h ⊢;by_cases h1:(zFp (zSy q) (zBj q.wh).length).2=0
 ·simp only[h1,ne_eq,not_true_eq_false,if_false];exact⟨trivial,zF5 h1⟩
 ·simp[h1]at h
theorem yIc (h:(whF sc q).code=0):whF sc q=fl0∧(q.wh.length≠0→(∀i,i<q.wh.length→zQm sc q q.wh false i=0)∧zC9 q.wh=true∧∀k,k<(zBj q.wh).length→zSy q k=0):=by
 unfold whF at h ⊢;by_cases h0:q.wh.length=0
 ·simp only[h0,if_true];exact⟨trivial,fun h=>absurd rfl h⟩
 by_cases h1:(zT7 sc q).2=0
 ·simp only[if_neg h0,h1,ne_eq,not_true_eq_false,if_false]at h ⊢
  obtain⟨a,b⟩:=yEm h1;obtain⟨c,d⟩:=zX3 h;exact⟨c,fun _=>⟨a,b,d⟩⟩
 ·simp[h0,h1]at h
theorem yFd (h:(zUl sc q).code=0):zUl sc q=fl0∧q.ret.length≤8∧∀k,k<q.ret.length→(∀i,i<(q.ret.getD k []).length→zQm sc q (q.ret.getD k []) true i=0)∧zC9 (q.ret.getD k [])=false:=by
 unfold zUl at h ⊢;by_cases h1:8<q.ret.length
 ·simp[h1]at h
 by_cases h2:(zFp (zSe sc q) q.ret.length).2=0
 ·simp only[if_neg h1,h2,ne_eq,not_true_eq_false,if_false]
  exact⟨trivial,by omega,fun k hk=>yEn (zF5 h2 k hk)⟩
 ·simp[h1,h2]at h
theorem zZ2 (h:(chk sc q).code=0):chk sc q=fl0∧Wf sc q:=by
 unfold chk at h ⊢;by_cases h1:zLf sc=0
 ·by_cases h2:shQ q=true
  ·by_cases h3:(zMc sc q).code=0
   ·by_cases h4:(whF sc q).code=0
    ·by_cases h5:1099511627776<q.within
     ·simp[h1,h2,h3,h4,h5]at h
     ·by_cases h6:emB q.par=false∧zGu sc q=false
      ·simp[h1,h2,h3,h4,h5,h6]at h
      ·have e:∀x:Fl,(if zLf sc≠0 then (⟨zLf sc,0,0,0⟩:Fl)else if shQ q=false then ⟨50,0,0,0⟩else if (zMc sc q).code≠0 then zMc sc q else if (whF sc q).code≠0 then whF sc q else
        if 1099511627776<q.within then ⟨66,2,0,0⟩else if emB q.par=false∧zGu sc q=false then ⟨67,3,0,0⟩else x)=x:=fun x=>by
        rw[if_neg (by simp[h1]),if_neg (by simp[h2]),if_neg (by simp[h3]),if_neg (by simp[h4]),if_neg h5,if_neg h6]
       rw[e]at h ⊢;obtain⟨a1,a2,a3⟩:=yFd h;obtain⟨b1,b2⟩:=yIc h4;obtain⟨c1,c2,c3,c4⟩:=zYg h3;refine⟨a1,h1,h2,c2,c3,c4,b2,by omega,fun hp => ?_,a2,a3⟩
       cases hx:zGu sc q with
       | true=>rfl
       | false=>exact absurd ⟨hp,hx⟩ h6
    ·simp[h1,h2,h3,h4]at h
   ·simp[h1,h2,h3]at h
  ·simp[h1,h2]at h
 ·simp[h1]at h
theorem yIq (h:zLf sc=0):0<sc.length∧sc.length≤16∧∀i,i<sc.length→zQx sc i=0:=by
 unfold zLf at h;by_cases h1:sc.length=0∨16<sc.length
 ·rw[if_pos h1]at h;cases h
 ·rw[if_neg h1]at h
  exact⟨by omega,by omega,zF5 h⟩
theorem yFb {i:Nat} (h:zQx sc i=0):xJ (sc.getD i ty0).name=true∧wF sc (sc.getD i ty0).name=i∧(sc.getD i ty0).attrs.length≤8∧∀j,j<(sc.getD i ty0).attrs.length→zZl (sc.getD i ty0) j=0:=by
 unfold zQx at h;by_cases h1:xJ (sc.getD i ty0).name=false
 ·rw[if_pos h1]at h;cases h
 by_cases h2:wF sc (sc.getD i ty0).name=i
 ·by_cases h3:8<(sc.getD i ty0).attrs.length
  ·rw[if_neg h1,if_neg (by simp only[ne_eq,h2,not_true_eq_false,not_false_eq_true]),if_pos h3]at h;cases h
  ·rw[if_neg h1,if_neg (by simp only[ne_eq,h2,not_true_eq_false,not_false_eq_true]),if_neg h3]at h
   exact⟨by simpa using h1,h2,by omega,zF5 h⟩
 ·rw[if_neg h1,if_pos h2]at h
  cases h
theorem yD1 {i:Nat} (h:itE sc q i=0):zEl sc (q.items.getD i it0)=0∧¬wY (vars q.items) (q.items.getD i it0).var<i:=by
 unfold itE at h;by_cases h1:zEl sc (q.items.getD i it0)=0
 ·refine⟨h1,fun h2 => ?_⟩
  rw[if_neg (not_not_intro h1),if_pos h2]at h;cases h
 ·rw[if_pos h1]at h;exact absurd h h1
theorem yB1 {it:It} (h:zEl sc it=0):(∀z∈it.types,0≤wF sc z)∧zKv it.types it.types.length=false∧1≤it.lo∧it.lo≤it.hi∧it.hi≤4:=by
 unfold zEl at h;by_cases h1:it.types.any (fun z=>decide (wF sc z<0))=true
 ·rw[if_pos h1]at h;cases h
 by_cases h2:zKv it.types it.types.length=true
 ·rw[if_neg h1,if_pos h2]at h;cases h
 by_cases h3:it.lo<1∨it.hi<it.lo∨4<it.hi
 ·rw[if_neg h1,if_neg h2,if_pos h3]at h;cases h
 ·refine⟨fun z hz => ?_,by simpa using h2,by omega,by omega,by omega⟩
  simp only[zA7,decide_eq_true_eq,not_exists,not_and]at h1;have:=h1 z hz;omega
theorem yMd {l:List ByteArray} {i:Nat} (hi:i<l.length):wY l l[i]≤i:=by
 have h1:l.findIdx (· == l[i])≤i:=by
  apply Classical.byContradiction;intro hn;have:(l[i]==l[i])=false:=by simpa using List.not_of_lt_findIdx (p:=(· == l[i])) (xs:=l) (i:=i) (by omega)
  rw[show (l[i]==l[i])=true by rw[zD6]]at this
  cases this
 unfold wY;split<;>omega
theorem zV8 {i:Nat} (hi:i<q.items.length):(vars q.items)[i]? = some (q.items.getD i it0).var:=by
 simp[vars,zB,zA hi]
theorem Wf.ix (W:Wf sc q) {i:Nat} (hi:i<q.items.length):wY (vars q.items) (q.items.getD i it0).var=i:=by
 have h1:=(yD1 (W.it i hi)).2;have hv:i<(vars q.items).length:=by simpa[vars]using hi
 have h2:=zV8 hi;rw[zA hv]at h2;have h3:=yMd hv;rw[Option.some.inj h2]at h3;omega
theorem yDx {t:List Nd} {res:Bool} {i:Nat} (h:zQm sc q t res i=0):zDb sc q res (t.getD i nd0)=0∧yBu t (t.getD i nd0)=true:=by
 unfold zQm at h;by_cases h1:zDb sc q res (t.getD i nd0)=0
 ·refine⟨h1,?_⟩
  rw[if_neg (not_not_intro h1)]at h;cases h2:yBu t (t.getD i nd0)with
  | true=>rfl
  | false=>rw[h2,if_neg (by simp)]at h;cases h
 ·rw[if_pos h1]at h;exact absurd h h1
theorem zX4 {res:Bool} {x:Nd} (h:zDb sc q res x=0) (hb:wU x.op=true∨zC3 x.op=true):0≤wY (vars q.items) x.var∧
  (x.op≠5→zN8 sc (q.items.getD (wY (vars q.items) x.var).toNat it0) x.attr=true)∧(zC3 x.op=true→(q.items.getD (wY (vars q.items) x.var).toNat it0).neg=false)∧
  (x.op=11→zMx (q.items.getD (wY (vars q.items) x.var).toNat it0)=true)∧(res=true→wU x.op=true→(q.items.getD (wY (vars q.items) x.var).toNat it0).neg=false∧zMx (q.items.getD (wY (vars q.items) x.var).toNat it0)=false):=by
 unfold zDb at h;rw[if_neg (by rcases hb with hb|hb<;>simp[hb])]at h
 by_cases h1:wY (vars q.items) x.var<0
 ·simp[h1]at h
 rw[if_neg h1]at h;generalize q.items.getD (wY (vars q.items) x.var).toNat it0=it at *;cases hh:zN8 sc it x.attr<;>cases hn:it.neg<;>cases hr:zMx it<;>cases ha:zC3 x.op<;>cases hc:wU x.op<;>cases res<;>simp_all<;>grind
theorem yId {t:List Nd} {res:Bool} (ht:zAh t=true) (h:∀i,i<t.length→zQm sc q t res i=0):zI9 (vars q.items) t=true:=by
 have T:=zCt ht;rw[zI9,ht,zCi,ok_all];intro i hi;obtain⟨h1,h2⟩:=yDx (h i hi);rw[zAx hi]at h1 h2;have hk:=T.kind i hi;generalize t[i]=x at *;unfold zCu;by_cases h4:x.op<4
 ·rw[if_pos h4]
 rw[if_neg h4];by_cases h5:x.op≤11
 ·rw[if_pos h5]
  have hb:wU x.op=true∨zC3 x.op=true:=by simp only[wU,zC3,decide_eq_true_eq];omega
  simpa using (zX4 h1 hb).1
 ·rw[if_neg h5]
  unfold yBu yGi at h2;have ha:¬x.a<0:=by rcases hk with ⟨_,b,_⟩|⟨_,_,b,_⟩|⟨_,_,_,_,a,b,_⟩<;>omega
  simpa[ha]using h2
theorem yAl {t:List Nd} {r:Nat} {x:Nd} (hx:x∈zA6 t r):∃y∈t,y.op=x.op∧y.var=x.var∧y.attr=x.attr:=by
 unfold zA6 zZy at hx;obtain⟨y,hy,rfl⟩:=xU.1 hx;exact⟨y,List.mem_of_mem_drop (List.mem_of_mem_take hy),rfl,rfl,rfl⟩
theorem zGq {p:Int→Bool} {vs:List ByteArray} {t:List Nd} {i:Int} (h:i∈zA0 p vs t):0≤i∧i<(vs.length:Int)∧∃x∈t,p x.op=true∧wY vs x.var=i:=by
 unfold zA0 at h;obtain⟨h1,h2⟩:=zBo.1 h;obtain⟨j,hj,rfl⟩:=xU.1 h1;have:=zAm.1 hj;unfold yEp at h2;obtain⟨x,hx,hp⟩:=zA7.1 h2;simp only[zO,decide_eq_true_eq]at hp;exact⟨by omega,by omega,x,hx,hp.1,hp.2⟩
end
end
structure Cd where
 p:Pr
 each:Int
 prev:Bool
def zLq (c:Cd):Nat:=if c.prev then 1 else 0
def zDm (c:Cd) (ls:List (List Ev)) (j:Nat):Bool:=(List.range j).all fun i=>decide (i<zLq c)||zDc c.p ⟨ls,c.each,i⟩
def zB6 (c:Cd) (ls:List (List Ev)):Bool:=if c.each<0 then decide (c.each=-1)&&zDc c.p ⟨ls,-1,0⟩else zDm c ls (zAn ls c.each).length
theorem zPx (c:Cd) (ls:List (List Ev)) (j:Nat):zDm c ls (j+1)=(zDm c ls j&&(decide (j<zLq c)||zDc c.p ⟨ls,c.each,j⟩)):=by simp[zDm,zCs]
theorem zI5 (c:Cd) (ls:List (List Ev)) {j:Nat} (h:j≤zLq c):zDm c ls j=true:=by
 simp only[zDm,zR,zAm];intro i hi;simp[show i<zLq c by omega]
theorem zVa (c:Cd) (ls:List (List Ev)) {j m:Nat} (hj:j<m) (hf:zLq c≤j) (h:zDc c.p ⟨ls,c.each,j⟩=false):zDm c ls m=false:=by
 cases hm:zDm c ls m with
 | false=>rfl
 | true =>
  simp only[zDm,zR,zAm]at hm;have:=hm j hj;rw[h]at this
  simp at this
  omega
structure CdOk (q:Cd×List (List Ev)):Prop where
 p:PrOk q.1.p
 e:EnOk ⟨q.2,q.1.each,0⟩
theorem CdOk.en {q:Cd×List (List Ev)} (o:CdOk q) (each:Int) {i:Nat} (hi:i≤2199023255552):okR (q.1.p,⟨q.2,each,i⟩):=⟨o.p,o.e.len,o.e.ev,by unfold Rng;simp only[];omega⟩
def deC (h:Heap):List AV→Option (Cd×List (List Ev))
 | [.g [a,b,.v (.int .i64 e),.v (.bool v)],l]=>match rd dPs h a,rd yEd h b,rd zFr h l with
  | some x,some y,some z=>some (⟨⟨x,y⟩,e,v⟩,z)
  | _,_,_=>none
 | _=>none
theorem zRg {h:Heap} {args:List AV} {q:Cd×List (List Ev)} (e:deC h args=some q):∃a b l,args=[.g [a,b,.v (.int .i64 q.1.each),.v (.bool q.1.prev)],l]∧rd dPs h a=some q.1.p.code∧rd yEd h b=some q.1.p.cols∧rd zFr h l=some q.2:=by
 unfold deC at e;split at e
 ·rename_i a b x v l
  split at e
  ·rename_i e1 e2 e3
   cases e;exact⟨a,b,l,rfl,e1,e2,e3⟩
  ·cases e
 ·cases e
theorem zY6 {h:Heap} {a b l:AV} {c:Cd} {ls:List (List Ev)} (h1:rd dPs h a=some c.p.code) (h2:rd yEd h b=some c.p.cols) (h3:rd zFr h l=some ls):deC h [.g [a,b,.v (.int .i64 c.each),.v (.bool c.prev)],l]=some (c,ls):=by simp only[deC,h1,h2,h3]
theorem yCi (h h':Heap) (args:List AV) (q:Cd×List (List Ev)) (hh:h.le h') (e:deC h args=some q):deC h' args=some q:=by
 obtain⟨a,b,l,rfl,e1,e2,e3⟩:=zRg e;exact zY6 (yZ hh e1) (yZ hh e2) (yZ hh e3)
def G35:=yH deC CdOk fun q=>bv (zB6 q.1 q.2)
def yDh:List (FuncId×(List AV→Heap→PRes)):=[(45,G31),(89,G65)]
theorem P35 (h29:P0 S29 91 G29):P0 S29 41 G35:=by
 refine mkH 2 (S:=S29) (l:=yDh) (zS (P31 h29) (zS P65 yJ)) Tryz.func41 rfl (by kernel_rfl) yCi (fun h l x e=>by obtain⟨a,b,c,rfl,_⟩:=zRg e;exact zC _) (fun a=>rfl) (fun args q h n e hp hn => ?_)
 obtain⟨⟨p,each,prev⟩,ls⟩:=q;obtain⟨a,b,l,rfl,e1,e2,e3⟩:=zRg e;simp only[]at e1 e2 e3 hp ⊢;obtain⟨s1,s2,s3,s4,s5⟩:=zN e1;obtain⟨t1,t2,t3,t4,t5⟩:=zN e2;obtain⟨r1,r2,r3,r4,r5⟩:=zN e3;have gr:∀(pos:Int) h',agree n (roH h) h'→deR h' [.g [a,b],.g [l,.v (.int .i64 each),.v (.int .i64 pos)]]=some (p,⟨ls,each,pos⟩):=fun pos h' ha=>by
  simp only[deR,zKz (xP hn e1 h' ha) (xP hn e2 h' ha),zIq (e:=⟨ls,each,pos⟩) (xP hn e3 h' ha)]
 by_cases hneg:each<0
 ·have hok:=hp.en each (i:=0) (by omega)
  simp only[]at hok;by_cases hm1:each=-1
  ·subst hm1
   have hok1:okR (p,⟨ls,-1,0⟩):=hp.en (-1) (i:=0) (by omega)
   simp[evx,bv,s4,t4,r4,r5,yDh,G31,yH,gr,zD,zE,hok1,zB6]
  ·simp[evx,bv,s4,t4,r4,r5,yDh,G31,yH,gr,zD,zE,zB6,hneg,hm1]
 ·have hlen:=hp.e.lenAt each
  simp only[]at hlen;have hev:zB6 ⟨p,each,prev⟩ ls=zDm ⟨p,each,prev⟩ ls (zAn ls each).length:=if_neg hneg;have hneg0:0≤each:=by omega
  -- the round,whatever the beginning
  have loop:∀(e:Nat→AV) (h2:Heap) (n2 from_:Nat),from_=zLq ⟨p,each,prev⟩→e 2=.p n 0 0→e 5=.p (n+1) 0 0→agree n (roH h) h2→h2 n=some ⟨[a,b,.v (.int .i64 each),.v (.bool prev)],0,true,4⟩→h2 (n+1)=some ⟨[l,.v (.int .i64 each),.v (.int .i64 from_)],0,true,3⟩→n+2≤n2→
    awp (cx S29 (pfL yDh)) (hdC 1 (tlC 4 (Tryz.f41.body.getD .skip))) (zAs (fun s=>zB6 ⟨p,each,prev⟩ ls=true) (zBc (cx S29 (pfL yDh)) Tryz.f41 fun z _ _=>z=bv (zB6 ⟨p,each,prev⟩ ls))) ⟨e,h2,n2⟩:=fun e h2 n2 from_ hfr q2 q5 hag hc0 hc1 hnn=>by
   obtain⟨cl,f1,f2,u1,u2,u3,u4,u5⟩:=zSz (e:=⟨ls,each,from_⟩) hn e3 each;simp only[]at f1 f2 u1 u2 u3 u4 u5;obtain⟨k1,k2⟩:=f1 h2 hag;simp[evx,hdC,tlC,Tryz.f41,q2,q5,hc0,hc1,yDh,G65,zGk,k1,k2,u1,u2];refine yN (fun s=>∃j:Nat,from_≤j∧(j≤(zAn ls each).length∨j=from_)∧s.e 2=.p n 0 0∧s.e 5=.p (n+1) 0 0∧s.e 6=ii (zAn ls each).length∧agree n (roH h) s.h∧s.h n=some ⟨[a,b,.v (.int .i64 each),.v (.bool prev)],0,true,4⟩∧s.h (n+1)=some ⟨[l,.v (.int .i64 each),.v (.int .i64 j)],0,true,3⟩∧n+2≤s.n∧zDm ⟨p,each,prev⟩ ls j=true)
    (fun s=>(zAn ls each).length-(match s.h (n+1)with|some k=>(k.cells.getD 2 .any).i.toNat|none=>0)) ⟨from_,zC _,.inr rfl,by simp[up,q2],by simp[up,q5],by simp[up,ii],hag,hc0,hc1,hnn,zI5 _ _ (by omega)⟩ ?_
   rintro e3 h3 n3 ⟨j,hj1,hj2,q2,q5,q6,hag,hc0,hc1,hnn,hall⟩;simp only[]at q2 q5 q6 hag hc0 hc1 hnn;have z0:¬n=n+1:=by omega
   by_cases hlt:j<(zAn ls each).length
   ·have hok:=hp.en each (i:=j) (by omega)
    simp only[]at hok;have hw:=yK (j:=j) (by unfold big;omega)
    have hdj:¬j<zLq ⟨p,each,prev⟩:=by omega
    cases hh:zDc p ⟨ls,each,j⟩with
    | false =>
     have hno:zB6 ⟨p,each,prev⟩ ls=false:=by rw[hev];exact zVa _ _ hlt (by omega) hh
     simp[evx,q2,q5,q6,ii,bv,hc0,hc1,hlt,G31,yH,gr,hag,hok,hh,hno]
    | true =>
     simp[evx,q2,q5,q6,ii,bv,hc0,hc1,hlt,G31,yH,gr,zD,hag,hok,hh,hw];refine⟨⟨j+1,by omega,.inl (by omega),by omega,by omega,?_⟩,?_⟩
     rotate_left
     ·exact Nat.sub_lt_sub_left hlt (Nat.lt_succ_self j)
     rw[zPx,hall,hh];simp
   ·have hfin:zB6 ⟨p,each,prev⟩ ls=true:=by
     rw[hev];rcases hj2 with h1|h1
     ·rw[show (zAn ls each).length=j by omega];exact hall
     ·exact zI5 _ _ (by omega)
    simp[evx,q5,q6,ii,bv,hc1,hlt,hfin]
  have fin:∀s,zB6 ⟨p,each,prev⟩ ls=true→awp (cx S29 (pfL yDh)) (tlC 5 (Tryz.f41.body.getD .skip)) (zBc (cx S29 (pfL yDh)) Tryz.f41 fun z _ _=>z=bv (zB6 ⟨p,each,prev⟩ ls)) s:=fun s h=>by
   simp[evx,tlC,Tryz.f41,h,bv]
  refine zZ 4 _ _ (R:=fun s=>zB6 ⟨p,each,prev⟩ ls=zB6 ⟨p,each,prev⟩ ls∧s.e 2=.p n 0 0∧s.e 5=.p (n+1) 0 0∧agree n (roH h) s.h∧s.h n=some ⟨[a,b,.v (.int .i64 each),.v (.bool prev)],0,true,4⟩∧s.h (n+1)=some ⟨[l,.v (.int .i64 each),.v (.int .i64 (zLq ⟨p,each,prev⟩))],0,true,3⟩∧n+2≤s.n) ?_ fun e2 h2 n2 ⟨_,q2,q5,hag,hc0,hc1,hnn⟩=>zZ 1 _ _ (loop e2 h2 n2 _ rfl q2 q5 hag hc0 hc1 hnn) fun e3 h3 n3 hh=>fin _ hh
  cases prev with
  | true =>
   simp[evx,hdC,Tryz.f41,s4,t4,r4,r5,hneg];exact⟨by simp[zD,zE],by simp[zLq]⟩
  | false =>
   simp[evx,hdC,Tryz.f41,s4,t4,r4,r5,hneg];exact⟨by simp[zD,zE],by simp[zLq]⟩
structure Cmp where
 item:Int
 types:List Int
 lo:Int
 hi:Int
 own:List Pr
 conds:List Cd
structure Ng where
 item:Int
 types:List Int
 after:Int
 before:Int
 own:List Pr
 rest:List Pr
structure Pl where
 sc:List Ty
 q:Qu
 comps:List Cmp
 negs:List Ng
 fixed:List Pr
 used:List Bool
 cols:List Int
 ret:List Pr
 lead:Bool
 tail:Bool
def itA (q:Qu) (i:Nat):It:=q.items.getD i it0
def zAq (q:Qu) (j:Nat):List Nat:=(List.range j).filter fun i => !(itA q i).neg
def zPh (q:Qu) (j:Nat):List Nat:=(List.range j).filter fun i=>(itA q i).neg
def zUb (sc:List Ty) (it:It):List Int:=it.types.map (wF sc)
theorem zHo (q:Qu) (j:Nat):zAq q (j+1)=if (itA q j).neg=true then zAq q j else zAq q j++[j]:=by
 cases h:(itA q j).neg<;>simp[zAq,zCs,h]
theorem zHr (q:Qu) (j:Nat):zPh q (j+1)=if (itA q j).neg=true then zPh q j++[j]else zPh q j:=by
 cases h:(itA q j).neg<;>simp[zPh,zCs,h]
theorem zLy (q:Qu) (j:Nat):(zAq q j).length+(zPh q j).length=j:=by
 induction j with
 | zero=>rfl
 | succ j ih =>
  rw[zHo,zHr];split<;>simp only[zM,List.length_cons,zAc]<;>omega
def zAl (q:Qu):List (List Nd):=if zAh q.wh=true then (zBj q.wh).map (zA6 q.wh)else []
def zCz (q:Qu) (t:List Nd):List Int:=zA0 zDk (vars q.items) t
def yHw (q:Qu) (t:List Nd):List Int:=zA0 zC3 (vars q.items) t
def xV (q:Qu) (t:List Nd):List Int:=zA5 q t++yHw q t
def zAa (q:Qu) (t:List Nd):Bool:=decide ((zA5 q t).length=1)&&decide ((zCz q t).length=0)&&decide ((yHw q t).length=0)
def rk (q:Qu) (i:Nat):Nat:=(zAq q i).length
def rn (q:Qu) (i:Nat):Nat:=(zPh q i).length
def lsL (q:Qu) (l:List Int):Nat:=l.foldl (fun m i=>min m (rk q i.toNat)) (zAq q q.items.length).length
def chL (q:Qu) (t:List Nd) (l:List Int):Int:=l.foldl (fun e i=>if 1<(itA q i.toNat).hi∧i∈zA5 q t then i else e) (-1)
def zDf (q:Qu) (t:List Nd):Int:=chL q t (xV q t)
def zDl (q:Qu) (t:List Nd):Int:=match (xV q t).find? fun i=>(itA q i.toNat).neg with
 | some i=>i
 | none=>if lsL q (xV q t)<(zAq q q.items.length).length then (((zAq q q.items.length).getD (lsL q (xV q t)) 0:Nat):Int)else -1
def zVy (sc:List Ty) (q:Qu) (l:List (List Nd)) (i:Int):List Pr:=(l.filter fun t=>zAa q t&&decide (zDl q t=i)).map (zAk sc (vars q.items))
def zQ0 (sc:List Ty) (q:Qu) (l:List (List Nd)) (i:Int):List Pr:=(l.filter fun t => !zAa q t&&decide (zDl q t=i)).map (zAk sc (vars q.items))
def zCq (sc:List Ty) (q:Qu) (l:List (List Nd)) (i:Int):List Cd:=(l.filter fun t => !zAa q t&&decide (zDl q t=i)).map fun t=>⟨zAk sc (vars q.items) t,zDf q t,decide (0<(zCz q t).length)⟩
def zU9 (sc:List Ty) (q:Qu) (l:List (List Nd)):List Pr:=(l.filter fun t=>decide (zDl q t=-1)).map (zAk sc (vars q.items))
def zOf (sc:List Ty) (q:Qu) (k:Nat):Bool:=q.items.any fun it=>it.types.any fun z=>z==(sc.getD k ty0).name
def yH6 (sc:List Ty) (q:Qu) (k:Nat):Int:=if zOf sc q k=true∧emB q.par=false then zCn sc k q.par else -1
def zE3 (sc:List Ty) (q:Qu) (l:List (List Nd)) (i:Nat):Cmp:=⟨i,zUb sc (itA q i),(itA q i).lo,(itA q i).hi,zVy sc q l i,zCq sc q l i⟩
def zPf (sc:List Ty) (q:Qu) (l:List (List Nd)) (i:Nat):Ng:=⟨i,zUb sc (itA q i),(rk q i:Int)-1,rk q i,zVy sc q l i,zQ0 sc q l i⟩
def zBr (sc:List Ty) (q:Qu) (l:List (List Nd)) (j:Nat):List Cmp:=(zAq q j).map (zE3 sc q l)
def zD9 (sc:List Ty) (q:Qu) (l:List (List Nd)) (j:Nat):List Ng:=(zPh q j).map (zPf sc q l)
def xY (sc:List Ty) (q:Qu):Pl :=
 ⟨sc,q,zBr sc q (zAl q) q.items.length,zD9 sc q (zAl q) q.items.length,zU9 sc q (zAl q),(List.range sc.length).map (zOf sc q),(List.range sc.length).map (yH6 sc q),q.ret.map (zAk sc (vars q.items)),(itA q 0).neg,(itA q (q.items.length-1)).neg⟩
def dPrg:De Pr where
 run h l:=zLr h (.g l)
 sim {h h' l x} hh e:=by
  obtain⟨a,b,e0,e1,e2⟩:=zFe e;cases e0;exact zKz (zAe hh e1) (zAe hh e2)
def zVd (h:Heap):List AV→Option Cd
 | [a,b,.v (.int .i64 each),.v (.bool prev)]=>(zLr h (.g [a,b])).map fun p=>⟨p,each,prev⟩
 | _=>none
theorem zP3 {h:Heap} {l:List AV} {x:Cd} (e:zVd h l=some x):∃a b,l=[a,b,ii x.each,bv x.prev]∧zLr h (.g [a,b])=some x.p:=by
 unfold zVd at e;split at e
 ·simp only[zV]at e
  obtain⟨t,h1,rfl⟩:=e;exact⟨_,_,rfl,h1⟩
 ·cases e
theorem zTo {h:Heap} {a b:AV} {x:Cd} (e:zLr h (.g [a,b])=some x.p):zVd h [a,b,ii x.each,bv x.prev]=some x:=by
 simp only[zVd,ii,bv,e,zK]
def dCdg:De Cd where
 run h l:=zVd h l
 sim {h h' l x} hh e:=by
  obtain⟨a,b,rfl,h1⟩:=zP3 e;exact zTo (zJx hh h1)
def LR {α:Type} (T:Nat→Nat) (k sz:Nat) (h:Heap) (a:AV) (xs:List α) (R:Nat→List AV→α→Prop):Prop :=
 ∃cs,GL T k sz h a xs.length cs∧∀i (hi:i<xs.length),R i ((cs.drop (i*sz)).take sz) xs[i]
def LL {α:Type} (d:De α) (sz:Nat) (T:Nat→Nat) (k:Nat) (h:Heap) (a:AV) (xs:List α):Prop:=LR T k sz h a xs fun _ l x=>d.run (still T h) l=some x
theorem LR.mv {α:Type} {K:Nat→Prop} {T T':Nat→Nat} {h h':Heap} {n n' k sz:Nat} {a:AV} {xs:List α} {R R':Nat→List AV→α→Prop} (g:LR T k sz h a xs R) (v:Mv K T h n T' h' n') (hn:Fresh n h) (hk:¬(k≠0∧K k)) (hR:∀i l x,i<xs.length→R i l x→R' i l x):LR T' k sz h' a xs R':=by
 obtain⟨cs,g1,g2⟩:=g;exact⟨cs,g1.mv v hn hk,fun i hi=>hR _ _ _ hi (g2 i hi)⟩
theorem LL.mv {α:Type} {d:De α} {K:Nat→Prop} {T T':Nat→Nat} {h h':Heap} {n n' k sz:Nat} {a:AV} {xs:List α} (g:LL d sz T k h a xs) (v:Mv K T h n T' h' n') (hn:Fresh n h) (hk:¬(k≠0∧K k)):LL d sz T' k h' a xs :=
 LR.mv g v hn hk fun _ _ _ _ e=>d.mono (v.still hn) e
theorem LR.nil {α:Type} (T:Nat→Nat) (k sz:Nat) (h:Heap) (R:Nat→List AV→α→Prop):LR T k sz h (.v (.slice none 0 0)) [] R:=⟨[],GL.nil T k sz h,fun i hi=>by simp at hi⟩
theorem LR.isS {α:Type} {T:Nat→Nat} {k sz:Nat} {h:Heap} {a:AV} {xs:List α} {R:Nat→List AV→α→Prop} (g:LR T k sz h a xs R):a.isS∧a.slen=xs.length∧(∀g,AV.unc g a=a)∧a.one∧a.cells=[a]:=by
 obtain⟨cs,g1,_⟩:=g;rcases g1.2 with ⟨rfl,h0⟩|⟨id,ver,rfl,_⟩
 ·exact⟨⟨rfl,rfl⟩,h0.symm,fun _=>rfl,rfl,rfl⟩
 ·exact⟨trivial,rfl,fun _=>rfl,trivial,rfl⟩
theorem yHg {sz m:Nat} {cs ns:List AV} (hc:cs.length=m*sz) {i:Nat} (hi:i<m):((cs++ns).drop (i*sz)).take sz=(cs.drop (i*sz)).take sz:=by
 have hm:i*sz+sz≤m*sz:=by rw[←wC];exact yU _ hi
 rw[List.drop_append_of_le_length (by omega),zBw (by rw[yS];omega)]
theorem yHe {sz m:Nat} {cs ns:List AV} (hc:cs.length=m*sz) (hn:ns.length=sz):((cs++ns).drop (m*sz)).take sz=ns:=by
 rw[←hc,List.drop_left,yX (by omega)]
theorem LR.app {α:Type} {T':Nat→Nat} {k sz:Nat} {h':Heap} {xs:List α} {x:α} {R':Nat→List AV→α→Prop} {cs ns:List AV} {id ver:Nat} (hc:cs.length=xs.length*sz) (hn:ns.length=sz) (hT:T' id=k) (hb:h' id=some ⟨cs++ns,ver,true,sz⟩)
  (hR:∀i (hi:i<xs.length),R' i ((cs.drop (i*sz)).take sz) xs[i]) (hx:R' xs.length ns x):LR T' k sz h' (.s id ver 0 (xs.length+1)) (xs++[x]) R':=by
 refine⟨cs++ns,⟨by simp[hc,hn,wC],.inr ⟨id,ver,by simp,hT,hb⟩⟩,fun i hi => ?_⟩
 by_cases h1:i<xs.length
 ·rw[yHg hc h1,List.getElem_append_left h1];exact hR i h1
 ·obtain rfl:i=xs.length:=by simp at hi;omega
  rw[yHe hc hn];simpa using hx
theorem Mv.wr {T:Nat→Nat} {h:Heap} {n n' id:Nat} (ht:∀i,n≤i→T i=0) (hn:Fresh n h) (hid:T id≠0) (hi:id<n) (hnn:n≤n') (b:Blk):Mv (fun k=>k=T id) T h n T (up h id (some b)) n' :=
 ⟨hnn,fun _ _=>rfl,fun i h1 h2=>by
  by_cases e:i=id
  ·subst e;exact absurd ⟨hid,rfl⟩ h2
  ·exact zP _ _ e,fun i h1=>ht i (by omega),(zF (by omega) _).2 fun i h1=>hn i (by omega)⟩
theorem Mv.nw {T:Nat→Nat} {h:Heap} {n n':Nat} (ht:∀i,n≤i→T i=0) (hn:Fresh n h) (hnn:n<n') (k:Nat) (b:Blk) {K:Nat→Prop} {m:Nat} (hm:n≤m) (hm':m<n'):Mv K T h n (fun i=>if i=m then k else T i) (up h m (some b)) n' :=
 ⟨by omega,fun i hi=>if_neg (by omega),fun i h1 _=>zP _ _ (by omega),fun i h1=>by rw[if_neg (by omega)];exact ht i (by omega),(zF (by omega) _).2 fun i h1=>hn i (by omega)⟩
def yGr (f:ByteArray→Option (Bool×Nat)) (cs:List AV):Prop:=zSv cs∧∀z,zBn z cs=(f z).map fun p=>.v (.agg #[.bool p.1,.int .i64 p.2])
theorem yB4:yGr (fun _=>none) []:=⟨trivial,fun _=>rfl⟩
theorem zSs (z:ByteArray) (v:Value):∀l:List AV,zSv l→zSv (zEu z (.v v) l)
 | [],_=>trivial
 | .v (.string k) :: .v m::r,h=>by
  simp only[zEu];split
  ·exact h
  ·exact zSs z v r h
theorem zL2 (z z':ByteArray) (v:AV):∀l:List AV,zSv l→zBn z' (zEu z v l)=if z'=z then some v else zBn z' l
 | [],_=>by
  simp only[zEu,zBn,zH7];by_cases h:z'=z<;>simp[h]
 | .v (.string k) :: .v m::r,h=>by
  have ih:=zL2 z z' v r h;by_cases h1:z=k
  ·subst h1
   simp only[zEu,zBn,zH7,decide_true,if_true];by_cases h2:z'=z<;>simp[h2]
  ·simp only[zEu,zBn,zH7,h1,decide_false,yO,if_false]
   by_cases h2:z'=k
   ·subst h2
    have:¬z'=z:=fun e=>h1 e.symm
    simp[this]
   ·simp only[h2,decide_false,yO,if_false]
    exact ih
theorem zJu {f:ByteArray→Option (Bool×Nat)} {cs:List AV} (h:yGr f cs) (k:ByteArray) (p:Bool×Nat):yGr (fun z=>if z=k then some p else f z) (zEu k (.v (.agg #[.bool p.1,.int .i64 p.2])) cs) :=
 ⟨zSs k _ cs h.1,fun z=>by rw[zL2 k z _ cs h.1];by_cases e:z=k<;>simp[e,h.2]⟩
def CmpR (T:Nat→Nat) (h:Heap) (i:Nat) (l:List AV) (c:Cmp):Prop:=∃ty ow cn,l=[ii c.item,ty,ii c.lo,ii c.hi,ow,cn]∧rd dIs (still T h) ty=some c.types∧LL dPrg 2 T (16+4*i) h ow c.own∧LL dCdg 4 T (17+4*i) h cn c.conds
def NgR (T:Nat→Nat) (h:Heap) (i:Nat) (l:List AV) (c:Ng):Prop:=∃ty ow rs,l=[ii c.item,ty,ii c.after,ii c.before,ow,rs]∧rd dIs (still T h) ty=some c.types∧LL dPrg 2 T (18+4*i) h ow c.own∧LL dPrg 2 T (19+4*i) h rs c.rest
theorem CmpR.mv {K:Nat→Prop} {T T':Nat→Nat} {h h':Heap} {n n' i:Nat} {l:List AV} {c:Cmp} (g:CmpR T h i l c) (v:Mv K T h n T' h' n') (hn:Fresh n h) (h1:¬K (16+4*i)) (h2:¬K (17+4*i)):CmpR T' h' i l c:=by
 obtain⟨ty,ow,cn,e1,e2,e3,e4⟩:=g;exact⟨ty,ow,cn,e1,yZ (v.still hn) e2,e3.mv v hn fun h=>h1 h.2,e4.mv v hn fun h=>h2 h.2⟩
theorem NgR.mv {K:Nat→Prop} {T T':Nat→Nat} {h h':Heap} {n n' i:Nat} {l:List AV} {c:Ng} (g:NgR T h i l c) (v:Mv K T h n T' h' n') (hn:Fresh n h) (h1:¬K (18+4*i)) (h2:¬K (19+4*i)):NgR T' h' i l c:=by
 obtain⟨ty,ow,cn,e1,e2,e3,e4⟩:=g;exact⟨ty,ow,cn,e1,yZ (v.still hn) e2,e3.mv v hn fun h=>h1 h.2,e4.mv v hn fun h=>h2 h.2⟩
structure Pt where
 sa:AV
 qa:AV
 qb:AV
 qc:AV
 ca:AV
 na:AV
 fa:AV
 ua:AV
 la:AV
 ra:AV
structure BS (hB:Heap) (n1 bid mid:Nat) (T:Nat→Nat) (h:Heap) (n:Nat) (sc:List Ty) (q:Qu) (sa qa qb qc:AV):Prop where
 sch:rd zE7 (still T h) sa=some sc
 qu:deQ (still T h) (.g [qa,ii q.mode,ii q.after,qb,ii q.within,ss q.par,qc])=some q
 tb:T bid=7
 tm:T mid=8
 b1:bid<n1
 m1:mid<n1
 low:∀i,i<n1→i≠bid→i≠mid→T i=9
 kp:∀i,i<n1→i≠bid→i≠mid→h i=hB i
 nn:n1≤n
 fr:Fresh n h
 tn:∀i,n≤i→T i=0
theorem BS.mv {K:Nat→Prop} {hB:Heap} {n1 bid mid:Nat} {T T':Nat→Nat} {h h':Heap} {n n':Nat} {sc:List Ty} {q:Qu} {sa qa qb qc:AV} (b:BS hB n1 bid mid T h n sc q sa qa qb qc) (v:Mv K T h n T' h' n') (hK:¬K 9):BS hB n1 bid mid T' h' n' sc q sa qa qb qc where
 sch:=yZ (v.still b.fr) b.sch
 qu:=by
  obtain⟨a,b',c,e0,e1,e2,e3⟩:=wH b.qu;cases e0;exact zF9 (yZ (v.still b.fr) e1) (yZ (v.still b.fr) e2) (yZ (v.still b.fr) e3)
 tb:=by rw[v.old _ (by have:=b.b1;have:=b.nn;omega)];exact b.tb
 tm:=by rw[v.old _ (by have:=b.m1;have:=b.nn;omega)];exact b.tm
 b1:=b.b1
 m1:=b.m1
 low i hi h1 h2:=by rw[v.old _ (by have:=b.nn;omega)];exact b.low i hi h1 h2
 kp i hi h1 h2:=by rw[v.keep _ (by have:=b.nn;omega) fun h=>hK (by rw[b.low i hi h1 h2]at h;exact h.2)];exact b.kp i hi h1 h2
 nn:=xL b.nn v.nn
 fr:=v.fr
 tn:=v.new
def xH (p:Pt) (P:Pl) (mid:Nat):List AV:=[p.sa,p.qa,ii P.q.mode,ii P.q.after,p.qb,ii P.q.within,ss P.q.par,p.qc,p.ca,p.na,p.fa,p.ua,p.la,p.ra,bv P.lead,bv P.tail,.mv mid 0]
structure BI (hB:Heap) (n1 bid mid:Nat) (T:Nat→Nat) (h:Heap) (n:Nat) (p:Pt) (P:Pl) (f:ByteArray→Option (Bool×Nat)):Prop where
 s:BS hB n1 bid mid T h n P.sc P.q p.sa p.qa p.qb p.qc
 bb:h bid=some ⟨xH p P mid,0,true,17⟩
 mm:∃cs,h mid=some ⟨cs,0,true,0⟩∧yGr f cs
 cm:LR T 1 6 h p.ca P.comps (CmpR T h)
 ng:LR T 2 6 h p.na P.negs (NgR T h)
 fx:LL dPrg 2 T 3 h p.fa P.fixed
 us:LL De.bool 1 T 4 h p.ua P.used
 cl:LL (De.int .i64) 1 T 5 h p.la P.cols
 rt:LL dPrg 2 T 6 h p.ra P.ret
theorem BI.mv {hB:Heap} {n1 bid mid:Nat} {T T':Nat→Nat} {h h':Heap} {n n':Nat} {p:Pt} {P:Pl} {f:ByteArray→Option (Bool×Nat)} (b:BI hB n1 bid mid T h n p P f) (v:Mv (fun _=>False) T h n T' h' n'):BI hB n1 bid mid T' h' n' p P f where
 s:=b.s.mv v id
 bb:=by
  have:=b.s.b1;have:=b.s.nn;rw[v.keep _ (by omega) fun h=>h.2];exact b.bb
 mm:=by
  obtain⟨cs,h1,h2⟩:=b.mm;have:=b.s.m1;have:=b.s.nn;exact⟨cs,by rw[v.keep _ (by omega) fun h=>h.2];exact h1,h2⟩
 cm:=b.cm.mv v b.s.fr (fun h=>h.2) fun i l x _ g=>g.mv v b.s.fr id id
 ng:=b.ng.mv v b.s.fr (fun h=>h.2) fun i l x _ g=>g.mv v b.s.fr id id
 fx:=b.fx.mv v b.s.fr fun h=>h.2
 us:=b.us.mv v b.s.fr fun h=>h.2
 cl:=b.cl.mv v b.s.fr fun h=>h.2
 rt:=b.rt.mv v b.s.fr fun h=>h.2
section
structure Rdr (α:Type) where
 run:Heap→AV→Option α
 sim:∀{h h':Heap} {a:AV} {x:α},h.sim h'→run h a=some x→run h' a=some x
def rSc:Rdr (List Ty):=⟨zIp,fun hh e=>zJw hh e⟩
def rQ:Rdr Qu:=⟨deQ,fun hh e=>zC0 hh e⟩
def rL {α:Type} (d:De α):Rdr α:=⟨rd d,fun hh e=>zAe hh e⟩
def rS:Rdr ByteArray:=⟨fun _ a=>deS a,fun _ e=>e⟩
def rI:Rdr Int:=⟨fun _ a=>deI a,fun _ e=>e⟩
def rB:Rdr Bool:=⟨fun _ a=>deB a,fun _ e=>e⟩
def rN:Rdr Nd:=⟨fun _ a=>deN a,fun _ e=>e⟩
def rG {α:Type} (d:De α):Rdr α where
 run h a:=match a with
  | .g l=>d.run h l
  | _=>none
 sim {h h' a x} hh e:=by
  split at e
  ·exact d.sim hh e
  ·cases e
theorem yDr {α:Type} {d:De α} {h:Heap} {a:AV} {x:α} (e:(rG d).run h a=some x):∃l,a=.g l∧d.run h l=some x:=by
 simp only[rG]at e;split at e
 ·exact⟨_,rfl,e⟩
 ·cases e
def rIt:Rdr It:=rG dIt
theorem zM0 {h:Heap} {a:AV} {x:It} (e:rIt.run h a=some x):∃ty,a=.g [bv x.neg,ty,ss x.var,ii x.lo,ii x.hi]∧rd dSs h ty=some x.types:=by
 obtain⟨l,rfl,e1⟩:=yDr e;obtain⟨ty,rfl,h1⟩:=zD5 e1;exact⟨ty,rfl,h1⟩
section
variable {α β γ δ:Type} (ra:Rdr α) (rb:Rdr β) (rc:Rdr γ) (re:Rdr δ)
def de1 (h:Heap):List AV→Option α
 | [a]=>ra.run h a
 | _=>none
def de2 (h:Heap):List AV→Option (α×β)
 | [a,b]=>(ra.run h a).bind fun x=>(rb.run h b).map fun y=>(x,y)
 | _=>none
def de3 (h:Heap):List AV→Option (α×β×γ)
 | [a,b,c]=>(ra.run h a).bind fun x=>(rb.run h b).bind fun y=>(rc.run h c).map fun z=>(x,y,z)
 | _=>none
def de4 (h:Heap):List AV→Option (α×β×γ×δ)
 | [a,b,c,d]=>(ra.run h a).bind fun x=>(rb.run h b).bind fun y=>(rc.run h c).bind fun z=>(re.run h d).map fun u=>(x,y,z,u)
 | _=>none
variable {ra rb rc re}
theorem zK3 {h:Heap} {l:List AV} {q:α} (e:de1 ra h l=some q):∃a,l=[a]∧ra.run h a=some q:=by
 unfold de1 at e;split at e
 ·exact⟨_,rfl,e⟩
 ·cases e
theorem zBm {h:Heap} {l:List AV} {q:α×β} (e:de2 ra rb h l=some q):∃a b,l=[a,b]∧ra.run h a=some q.1∧rb.run h b=some q.2:=by
 unfold de2 at e;split at e
 ·simp only[xE,zV]at e
  obtain⟨x,e1,y,e2,rfl⟩:=e;exact⟨_,_,rfl,e1,e2⟩
 ·cases e
theorem zFg {h:Heap} {l:List AV} {q:α×β×γ} (e:de3 ra rb rc h l=some q):∃a b c,l=[a,b,c]∧ra.run h a=some q.1∧rb.run h b=some q.2.1∧rc.run h c=some q.2.2:=by
 unfold de3 at e;split at e
 ·simp only[xE,zV]at e
  obtain⟨x,e1,y,e2,z,e3,rfl⟩:=e;exact⟨_,_,_,rfl,e1,e2,e3⟩
 ·cases e
theorem zNu {h:Heap} {l:List AV} {q:α×β×γ×δ} (e:de4 ra rb rc re h l=some q):∃a b c d,l=[a,b,c,d]∧ra.run h a=some q.1∧rb.run h b=some q.2.1∧rc.run h c=some q.2.2.1∧re.run h d=some q.2.2.2:=by
 unfold de4 at e;split at e
 ·simp only[xE,zV]at e
  obtain⟨x,e1,y,e2,z,e3,u,e4,rfl⟩:=e;exact⟨_,_,_,_,rfl,e1,e2,e3,e4⟩
 ·cases e
theorem zNw (h h':Heap) (l:List AV) (q:α) (hh:h.le h') (e:de1 ra h l=some q):de1 ra h' l=some q:=by
 obtain⟨a,rfl,e1⟩:=zK3 e;exact ra.sim hh.sim e1
theorem zAz (h h':Heap) (l:List AV) (q:α×β) (hh:h.le h') (e:de2 ra rb h l=some q):de2 ra rb h' l=some q:=by
 obtain⟨a,b,rfl,e1,e2⟩:=zBm e;simp only[de2,ra.sim hh.sim e1,rb.sim hh.sim e2,zT,zK]
theorem zNv (h h':Heap) (l:List AV) (q:α×β×γ) (hh:h.le h') (e:de3 ra rb rc h l=some q):de3 ra rb rc h' l=some q:=by
 obtain⟨a,b,c,rfl,e1,e2,e3⟩:=zFg e;simp only[de3,ra.sim hh.sim e1,rb.sim hh.sim e2,rc.sim hh.sim e3,zT,zK]
theorem yCj (h h':Heap) (l:List AV) (q:α×β×γ×δ) (hh:h.le h') (e:de4 ra rb rc re h l=some q):de4 ra rb rc re h' l=some q:=by
 obtain⟨a,b,c,d,rfl,e1,e2,e3,e4⟩:=zNu e;simp only[de4,ra.sim hh.sim e1,rb.sim hh.sim e2,rc.sim hh.sim e3,re.sim hh.sim e4,zT,zK]
theorem zRj (h:Heap) (l:List AV) (q:α) (e:de1 ra h l=some q):l.length≤1:=by obtain⟨a,rfl,_⟩:=zK3 e;exact zC _
theorem zBx (h:Heap) (l:List AV) (q:α×β) (e:de2 ra rb h l=some q):l.length≤2:=by obtain⟨a,b,rfl,_⟩:=zBm e;exact zC _
theorem zRi (h:Heap) (l:List AV) (q:α×β×γ) (e:de3 ra rb rc h l=some q):l.length≤3:=by obtain⟨a,b,c,rfl,_⟩:=zFg e;exact zC _
theorem yHa (h:Heap) (l:List AV) (q:α×β×γ×δ) (e:de4 ra rb rc re h l=some q):l.length≤4:=by obtain⟨a,b,c,d,rfl,_⟩:=zNu e;exact zC _
theorem Rdr.agree (ra:Rdr α) {h:Heap} {n:Nat} {a:AV} {x:α} (hn:∀i,n≤i→h i=none) (e:ra.run h a=some x):∀h',agree n (roH h) h'→ra.run h' a=some x:=fun _ ha=>ra.sim (zE4 hn ha) e
end
theorem zDs {S0 S : List Nat} {pf : FuncId → Option (List AV → Heap → PRes)} {f : FuncId} {fn : Func} {g : List AV → Heap → PRes} (hs0 : ∀ x ∈ S0, x ∈ S) (hp : P0 S0 f g) (hf : Tryz.prog.funcs[f]? = some fn) (hn : (fn.name == "runtime.NumGoroutine") = false) (hb : fn.body.isNone = false) {args : List AV} {h : Heap} {n : Nat} (hs : (g args h).side) :
  ACall (cx S pf) f args h n fun v h' n'=>v=(g args h).val∧h'=h∧n'=n:=by
 have hp:zGp (cx S pf) f g:=zC4 hs0 hp;have hc:=xK hf hn hb S pf;refine⟨hc,fun K w0 ρ w vs r hv => ?_⟩
 have hm:∃m,∀j,m≤j→(∀ver,ρ j ver=none)∧h j=none:=⟨n,fun j hj=>r.free j hj⟩
 rcases hp.2 with ⟨_,h2⟩|h2
 ·exact (h2 ρ h w args vs r.ro hm hv hs).mono fun e w' ⟨y,h3,h4,h5⟩=>⟨y,h3,ρ,_,h,n,Ren.le_refl ρ,h4,r.below h5,rfl,rfl,rfl⟩
 ·obtain⟨y,e9,_⟩:=h2 ρ h w args vs hv hs
  rw[hc]at e9;cases e9
end
def GTy:=yH (de2 rSc rS) (fun q=>q.1.length<big) fun q=>ii (wF q.1 q.2)
theorem yDp {h:Heap} {a:AV} {x:ByteArray} (e:rS.run h a=some x):a=ss x:=by
 simp only[rS]at e;unfold deS at e;split at e
 ·cases e;rfl
 ·cases e
theorem zUc {sc:List Ty} {v:ByteArray} {j:Nat} (hj:j<sc.length) (hno:∀i,i<j→((sc.getD i ty0).name==v)=false) (hh:((sc.getD j ty0).name==v)=true):wF sc v=j:=by
 have hl:(sc.map (·.name)).length=sc.length:=by simp
 have hg:∀i,i<sc.length→(sc.map (·.name)).getD i ByteArray.empty=(sc.getD i ty0).name:=fun i hi=>by
  simp[zB,zA hi]
 have hf:=zTe (l:=sc.map (·.name)) (v:=v) (j:=j) (by omega) (fun i hi=>by rw[hg i (by omega)];exact hno i hi) (by rw[hg j hj];exact hh)
 unfold wF wY;rw[hf,if_pos (by omega)]
theorem zQq {sc:List Ty} {v:ByteArray} (hno:∀i,i<sc.length→((sc.getD i ty0).name==v)=false):wF sc v=-1:=by
 have hl:(sc.map (·.name)).length=sc.length:=by simp
 have hf:=zNh (l:=sc.map (·.name)) (v:=v) (fun i hi=>by
  have hi':i<sc.length:=by omega
  have:(sc.map (·.name)).getD i ByteArray.empty=(sc.getD i ty0).name:=by simp[zB,zA hi']
  rw[this];exact hno i hi')
 unfold wF wY;rw[hf,if_neg (by omega)]
theorem zAv {p:Nat→Prop} {j:Nat} (h:∀i,i<j→p i) (hj:p j):∀i,i<j+1→p i:=fun i hi=>by
 by_cases e:i=j
 ·rw[e];exact hj
 ·exact h i (by omega)
theorem yKq:P0 [] 112 GTy:=by
 refine mkH 2 (S:=[]) (l:=[]) yJ Tryz.func112 rfl (by kernel_rfl) zAz zBx (fun a=>rfl) (fun args q h n e hp hn => ?_)
 obtain⟨x,b,rfl,e1,e2⟩:=zBm e;obtain⟨sc,v⟩:=q;simp only[]at e1 e2 hp ⊢;have:=yDp e2;subst this;obtain⟨a,rfl,e3⟩:=zBd e1;obtain⟨s1,s2,s3,s4,s5⟩:=zN e3;have key:∀e:Nat→AV,e 0=.g [a]→e 1=ss v→awp (cx [] (pfL [])) (Tryz.f112.body.getD .skip) (zBc (cx [] (pfL [])) Tryz.f112 fun z _ _=>z=ii (wF sc v)) ⟨e,roH h,n⟩:=fun e q0 q1=>by
  simp[evx,Tryz.f112,q0,ii,s1,s2,s4];refine yN (fun s=>∃j:Nat,j≤sc.length∧s.e 1=ss v∧s.e 8=a∧s.e 9=ii sc.length∧s.e 10=ii j∧agree n (roH h) s.h∧n≤s.n∧∀i,i<j→((sc.getD i ty0).name==v)=false) (fun s=>sc.length-(s.e 10).i.toNat) ⟨0,by simp[up,q1,ii,ss,zD,zE]⟩ ?_
  rintro e' h' n' ⟨j,hj,q1,q8,q9,q10,hag,hnn,hno⟩;simp only[]at q1 q8 q9 q10 hag hnn;by_cases hlt:j<sc.length
  ·rcases zOg e3 with ⟨h0,_⟩|⟨id,off,k,rfl,hk,ho,hat⟩
   ·rw[h0]at hlt;simp at hlt
   obtain⟨r1,c,r2,r3⟩:=hat j hlt;have u1:=(zN r3).2.2.1;have u2:=(zN r3).2.2.2.1;have u3:=(zN r3).2.2.2.2;have ha':=wR hn hk hag;have hw:=yK (j:=j) (by omega)
   have hw1:off+(j*2+2)≤k.cells.length:=by omega
   have hgj:sc.getD j ty0=sc[j]:=by rw[zB,zA hlt];rfl
   have hhit:=zUc (v:=v) hlt hno;have hmiss:=fun hy=>zAv (p:=fun i=>((sc.getD i ty0).name==v)=false) hno hy
   rw[hgj]at hhit hmiss;have hne:=zJc hk hn;generalize sc[j].name=y at *;cases hy:(y==v)with
   | true =>
    have h1:=hhit hy;simp[evx,q1,q8,q9,q10,ii,ss,hlt,ha',r1,r2,hw1,u2,hy,h1]
   | false =>
    have h1:=hmiss hy;simp[evx,q1,q8,q9,q10,ii,ss,hlt,ha',r1,r2,hw1,u2,hy,hw,zD,hnn,hag];exact⟨⟨j+1,by omega,by omega,by omega,fun i hi=>by have:=h1 i hi;rwa [zB]at this⟩,by omega⟩
  ·obtain rfl:j=sc.length:=by omega
   have h1:=zQq hno;simp[evx,q9,q10,ii,h1]
 exact key _ rfl rfl
theorem zHv {h:Heap} {a:AV} {l:List It} (e:rd zG5 h a=some l) {i:Nat} (hi:i<l.length):∃id off k ty,a=.s id k.ver off l.length∧h id=some k∧off+l.length*5≤k.cells.length∧
  k.cells[off+i*5]? = some (bv (l.getD i it0).neg)∧k.cells[off+(i*5+1)]? = some ty∧k.cells[off+(i*5+2)]? = some (ss (l.getD i it0).var)∧k.cells[off+(i*5+3)]? = some (ii (l.getD i it0).lo)∧k.cells[off+(i*5+4)]? = some (ii (l.getD i it0).hi)∧rd dSs h ty=some (l.getD i it0).types:=by
 rcases zD8 e with ⟨h0,_⟩|⟨id,off,k,h1,h2,h3,h4⟩
 ·rw[h0]at hi;simp at hi
 ·have hg:l.getD i it0=l[i]:=by rw[zB,zA hi];rfl
  obtain⟨ty,h5,h6⟩:=zD5 (h4 i hi);have c0:=yI (c:=0) h5 rfl (by omega)
  have c1:=yI (c:=1) h5 rfl (by omega)
  have c2:=yI (c:=2) h5 rfl (by omega)
  have c3:=yI (c:=3) h5 rfl (by omega)
  have c4:=yI (c:=4) h5 rfl (by omega)
  simp only[yL]at c0;rw[xD]at c1 c2 c3 c4;rw[hg];exact⟨id,off,k,ty,h1,h2,h3,c0,c1,c2,c3,c4,h6⟩
theorem zIc {h:Heap} {a:AV} {l:List ByteArray} (e:rd dSs h a=some l) {i:Nat} (hi:i<l.length):∃id off k,a=.s id k.ver off l.length∧h id=some k∧off+l.length≤k.cells.length∧k.cells[off+i]? = some (ss (l.getD i ByteArray.empty)):=by
 rcases yAm e with ⟨h0,_⟩|⟨id,off,k,h1,h2,h3,h4⟩
 ·rw[h0]at hi;simp at hi
 ·have hg:l.getD i ByteArray.empty=l[i]:=by rw[zB,zA hi];rfl
  exact⟨id,off,k,h1,h2,h3,by rw[hg];exact h4 i hi⟩
theorem zFj {α:Type} {l:List α} {p:α→Bool} (d:α):l.all p=true↔∀i,i<l.length→p (l.getD i d)=true:=by
 rw[zR];constructor
 ·intro h i hi
  rw[zB,zA hi];exact h _ (zH hi)
 ·intro h x hx
  obtain⟨i,hi,rfl⟩:=xF.1 hx;have:=h i hi
  rwa [zB,zA hi]at this
theorem zLd {α:Type} {l:List α} {p:α→Bool} {d:α} {i:Nat} (hi:i<l.length) (h:p (l.getD i d)=false):l.all p=false:=by
 cases hx:l.all p with
 | false=>rfl
 | true=>rw[(zFj d).1 hx i hi]at h;cases h
def yC4:=yH (de3 rSc rIt rS) (fun q=>zCa q.1∧q.2.1.types.length<big) fun q=>bv (zN8 q.1 q.2.1 q.2.2)
def zWm:List (FuncId×(List AV→Heap→PRes)):=[(112,GTy),(116,GAt)]
theorem yNl:P0 [] 153 yC4:=by
 refine mkH 3 (S:=[]) (l:=zWm) (zS yKq (zS yM1 yJ)) Tryz.func153 rfl (by kernel_rfl) zNv zRi (fun a=>rfl) (fun args q h n e hp hn => ?_)
 obtain⟨x,b,c,rfl,e1,e2,e3⟩:=zFg e;obtain⟨sc,it,v⟩:=q;simp only[]at e1 e2 e3 hp ⊢;have:=yDp e3;subst this;obtain⟨ty,rfl,e4⟩:=zM0 e2;have g1:=zDq hn e1;obtain⟨a,rfl,e5⟩:=zBd e1;obtain⟨s1,s2,s3,s4,s5⟩:=zN e4;obtain⟨t1,t2,t3,t4,t5⟩:=zN e5;obtain⟨hp1,hp2⟩:=hp;have hp0:=hp1.1;have key:∀e:Nat→AV,e 0=.g [a]→e 1=.g [bv it.neg,ty,ss it.var,ii it.lo,ii it.hi]→e 2=ss v→awp (cx [] (pfL zWm)) (Tryz.f153.body.getD .skip) (zBc (cx [] (pfL zWm)) Tryz.f153 fun z _ _=>z=bv (zN8 sc it v)) ⟨e,roH h,n⟩:=fun e q0 q1 q2=>by
  simp[evx,Tryz.f153,q0,q1,ii,ss,bv,s1,s2,s4,t4];refine yN (fun s=>∃j:Nat,j≤it.types.length∧s.e 2=ss v∧s.e 3=.p n 0 0∧s.e 10=ty∧s.e 11=ii it.types.length∧s.e 12=ii j∧agree n (roH h) s.h∧s.h n=some ⟨[a],0,true,1⟩∧∀i,i<j→decide (zCn sc (wF sc (it.types.getD i ByteArray.empty)) v≠-1)=true) (fun s=>it.types.length-(s.e 12).i.toNat) ⟨0,by simp[up,q2,ii,ss,zD,zE]⟩ ?_
  rintro e' h' n' ⟨j,hj,q2,q3,q10,q11,q12,hag,hbk,hno⟩;simp only[]at q2 q3 q10 q11 q12 hag hbk;by_cases hlt:j<it.types.length
  ·obtain⟨id,off,k,rfl,hk,ho,hat⟩:=zIc e4 hlt
   have ha':=wR hn hk hag;have hw:=yK (j:=j) (by omega)
   have hw1:off+(j+1)≤k.cells.length:=by omega
   have hmiss:=fun hy=>zAv (p:=fun i=>decide (zCn sc (wF sc (it.types.getD i ByteArray.empty)) v≠-1)=true) hno hy
   have hhit:decide (zCn sc (wF sc (it.types.getD j ByteArray.empty)) v≠-1)=false→zN8 sc it v=false:=fun hy=>zLd (d:=ByteArray.empty) hlt hy
   generalize it.types.getD j ByteArray.empty=y at *;by_cases hy:zCn sc (wF sc y) v=-1
   ·have h1:=hhit (by simp[hy])
    simp[evx,q2,q3,q10,q11,q12,ii,ss,hlt,ha',hat,hw1,hbk,zWm,GTy,GAt,yH,de2,rSc,rS,zY9,deS,g1,hag,hp1,hp0,hy,h1]
   ·have h1:=hmiss (by simp[hy])
    simp[evx,q2,q3,q10,q11,q12,ii,ss,hlt,ha',hat,hw1,hbk,zWm,GTy,GAt,yH,de2,rSc,rS,zY9,deS,g1,hag,hp1,hp0,hy,hw];exact⟨⟨j+1,by omega,by omega,fun i hi=>by have:=h1 i hi;simpa using this⟩,by omega⟩
  ·obtain rfl:j=it.types.length:=by omega
   have h1:zN8 sc it v=true:=(zFj ByteArray.empty).2 hno;simp[evx,q11,q12,ii,h1]
 exact key _ rfl rfl rfl
end Go.Proofs.YtbffkkeieihpdaaGreatDoor
