import Derived.Test.YtbffkkeieihpdaaGreatDoorE20
import Derived.Test.YtbffkkeieihpdaaGreatDoorE35
import Derived.Test.YtbffkkeieihpdaaGreatDoorE36
import Derived.Test.YtbffkkeieihpdaaGreatDoorE33
import Derived.Test.YtbffkkeieihpdaaGreatDoorE26
import Derived.Test.YtbffkkeieihpdaaGreatDoorE28
import Derived.Test.YtbffkkeieihpdaaGreatDoorE34
import Derived.Test.YtbffkkeieihpdaaGreatDoorE23
import Derived.Test.YtbffkkeieihpdaaGreatDoorE14
import Derived.Test.YtbffkkeieihpdaaGreatDoorE21
set_option linter.unusedSimpArgs false
set_option linter.unusedVariables false
set_option linter.constructorNameAsVariable false
set_option maxRecDepth 100000
set_option maxHeartbeats 4000000
namespace Go.Proofs.YtbffkkeieihpdaaGreatDoor
open Go Go.Eng
def yMp:List AV→Option V
 | [.v (.bool k),.v (.int .i64 n)]=>some ⟨k,n⟩
 | _=>none
theorem yCe {l:List AV} {x:V} (h:yMp l=some x):l=zBv x:=by
 unfold yMp at h;split at h
 ·cases h;rfl
 ·cases h
def dV:De V where
 run _ l:=yMp l
 sim {h h' l x} hh e:=e
theorem Flat.v:Flat 2 dV zBv:=⟨fun _ _ _ e=>yCe e,fun _ _=>rfl,fun _=>rfl⟩
structure Eq38 where
 sc:List Ty
 q:Qu
 t:List Nd
 en:En
structure EqOk (v:Eq38):Prop where
 sc:zCa v.sc
 ln:v.q.items.length<big
 sm:xQ v.t
 rg:∀x∈v.t,Rng x.n
 en:EnOk v.en
section
section
variable {sc:List Ty} {q:Qu} {t:List Nd}
theorem zHp {i:Nat} (hi:i<q.items.length) (hn:(itA q i).neg=false):(xY sc q).comps[(zAq q i).length]? = some (zE3 sc q (zAl q) i):=by
 show (zBr sc q (zAl q) q.items.length)[(zAq q i).length]? = _;rw[zBr,xG];have:=zC5 hi hn;rw[show (zAq q i).length=rk q i from rfl,this];rfl
theorem zCb:(xY sc q).comps.length=(zAq q q.items.length).length:=by show (zBr sc q (zAl q) q.items.length).length=_;rw[zBr,zQ]
end
end

section
def zIn:Code→Code
 | .block _ (.loop c)=>c
 | _=>.skip
structure I42 (H:Heap) (n:Nat) (p:Pt) (P:Pl) (ba:AV) (i:Nat) (s:St):Prop where
 q1:s.e 1=ba
 q2:s.e 2=.p n 0 0
 q5:s.e 5=ii i
 b2:s.h n=some ⟨xR p P,0,true,16⟩
 ag:agree n H s.h
 fr:Fresh s.n s.h
 nn:n+1≤s.n
structure J42 (H:Heap) (n:Nat) (p:Pt) (P:Pl) (ba:AV) (i:Nat) (cm:Cmp) (m:Nat) (ty ow cn:AV) (s:St):Prop where
 a:I42 H n p P ba i s
 q6:s.e 6=.p m 0 0
 b6:s.h m=some ⟨[ii cm.item,ty,ii cm.lo,ii cm.hi,ow,cn],0,true,6⟩
theorem I42.up {H:Heap} {n:Nat} {p:Pt} {P:Pl} {ba:AV} {i:Nat} {s:St} (a:I42 H n p P ba i s) {e':Nat→AV} (he:∀j∈[1,2,5],e' j=s.e j):I42 H n p P ba i ⟨e',s.h,s.n⟩ :=
 ⟨(he 1 (by simp)).trans a.q1,(he 2 (by simp)).trans a.q2,(he 5 (by simp)).trans a.q5,a.b2,a.ag,a.fr,a.nn⟩
theorem J42.up {H:Heap} {n:Nat} {p:Pt} {P:Pl} {ba:AV} {i:Nat} {cm:Cmp} {m:Nat} {ty ow cn:AV} {s:St} (a:J42 H n p P ba i cm m ty ow cn s) {e':Nat→AV} (he:∀j∈[1,2,5,6],e' j=s.e j):J42 H n p P ba i cm m ty ow cn ⟨e',s.h,s.n⟩ :=
 ⟨a.a.up fun j hj=>he j (by simp at hj ⊢;omega),(he 6 (by simp)).trans a.q6,a.b6⟩
section
variable {H:Heap} {n:Nat} {p:Pt} {P:Pl} {ba:AV} {b:List (List Ev)} {i:Nat} {cm:Cmp} {m:Nat} {ty ow cn:AV}
end
end
section
section
variable {H:Heap} {n:Nat} {p:Pt} {P:Pl} {ba:AV} {b:List (List Ev)} {i:Nat} {cm:Cmp} {m:Nat} {ty ow cn:AV}
end
end
section
section
variable {H:Heap} {n:Nat} {p:Pt} {P:Pl} {ba:AV} {b:List (List Ev)}
end
end
section
def byE (q:Qu) (b:List (List Ev)) (k:Int) (x:Ev) (i:Nat):List Ev:=if (itA q i).neg=true then (if (i:Int)=k then [x]else [])else b.getD (rk q i) []
def byV (q:Qu) (b:List (List Ev)) (k:Int) (x:Ev):List (List Ev):=(List.range q.items.length).map (byE q b k x)
structure I44 (h:Heap) (n:Nat) (q:Qu) (qa qb qc ba:AV) (b:List (List Ev)) (k:Int) (x:Ev) (i:Nat) (s:St):Prop where
 q1:s.e 1=ba
 q2:s.e 2=ii k
 q4:s.e 4=.p n 0 0
 q7:s.e 7=.p (n+1) 0 0
 q10:s.e 10=ii (zAq q i).length
 q11:s.e 11=ii i
 b4:s.h n=some ⟨zA2 q qa qb qc,0,true,7⟩
 b7:s.h (n+1)=some ⟨zAo x,0,true,11⟩
 ag:agree n h s.h
 fr:Fresh s.n s.h
 nn:n+2≤s.n
 ow:∃(w u:Nat) (cs:List AV),cs.length=i∧((i=0∧cs=[]∧s.e 9=.v (.slice none 0 0))∨(s.e 9=.s w u 0 i∧s.h w=some ⟨cs,u,true,1⟩∧n+2≤w∧w<s.n))∧∀j,j<i→∃c,cs[j]? = some c∧rd dEs (up s.h w none) c=some (byE q b k x j)
theorem yD3 {h h':Heap} {n w:Nat} (hf:Fresh n h) (ha:∀i,i<n→i≠w→h' i=h i):Heap.le (up h w none) (up h' w none):=fun i k e=>by
 by_cases hw:i=w
 ·subst hw;rw[zJ]at e;cases e
 ·rw[zP _ _ hw]at e ⊢
  rw[ha i (xB e hf) hw];exact e
section
variable {h:Heap} {n:Nat} {q:Qu} {qa qb qc ba:AV} {b:List (List Ev)} {k:Int} {x:Ev}
end
end
section
section
variable {H:Heap} {n:Nat} {q:Qu} {qa qb qc ba:AV} {b:List (List Ev)} {k:Int} {x:Ev}
theorem I44.up {i:Nat} {e:Nat→AV} {h1:Heap} {n2:Nat} (a:I44 H n q qa qb qc ba b k x i ⟨e,h1,n2⟩) {e':Nat→AV} (he:∀j∈[1,2,4,7,9,10,11],e' j=e j):I44 H n q qa qb qc ba b k x i ⟨e',h1,n2⟩:=by
 obtain⟨q1,q2,q4,q7,q10,q11,b4,b7,ag,fr,nn,w,u,cs,hcl,hw,hcs⟩:=a;exact⟨(he 1 (by simp)).trans q1,(he 2 (by simp)).trans q2,(he 4 (by simp)).trans q4,(he 7 (by simp)).trans q7,(he 10 (by simp)).trans q10,(he 11 (by simp)).trans q11,b4,b7,ag,fr,nn,w,u,cs,hcl,by simp only[];rw[he 9 (by simp)];exact hw,hcs⟩
theorem I44.w {i:Nat} {e:Nat→AV} {h1:Heap} {n2:Nat} (a:I44 H n q qa qb qc ba b k x i ⟨e,h1,n2⟩) {w:Nat} (hc:(∃u cs,e 9=.s w u 0 i∧h1 w=some ⟨cs,u,true,1⟩)∨n2≤w):n+2≤w:=by
 rcases hc with ⟨u',cs',k1,k2⟩|hc
 ·obtain⟨_,_,_,_,hw,_⟩:=a.ow
  rcases hw with ⟨z1,z2,q9⟩|⟨q9,z1,w1,z2⟩
  ·have q9':e 9=_:=q9
   rw[q9']at k1;cases k1
  ·have q9':e 9=_:=q9
   rw[q9']at k1;injection k1 with k1;omega
 ·have:=a.nn;simp only[]at this;omega
end
end
section
section
variable {H:Heap} {n:Nat} {q:Qu} {qa qb qc ba:AV} {b:List (List Ev)} {k:Int} {x:Ev}
end
end


section
def yOt (q:Qu):List Int:=(zAj q.wh).map fun x:Nat=>(x:Int)
section
variable {H:Heap} {n:Nat} {q:Qu} {qa qb qc z:AV}
end
end
theorem zVb {sc:List Ty} {vs:List ByteArray} {t:List Nd} {en en':En} (hx:∀x∈t,1≤x.op→zCu vs t x=true→∀va vb,zJb sc (wA vs x) en' x va vb=zJb sc (wA vs x) en x va vb):zNi sc vs en' t=zNi sc vs en t:=by
 unfold zNi;split
 ·rename_i hr
  simp only[zI9,zO]at hr;have hall:∀x∈t,zCu vs t x=true:=by
   have:=hr.2;unfold zM6 at this
   rw[wW,zR]at this
   exact this
  have T:=zCt hr.1;have key:∀j,j≤t.length→zB9 sc (t.map (wA vs)) en' t j=zB9 sc (t.map (wA vs)) en t j:=by
   intro j
   induction j with
   | zero=>intro _;rfl
   | succ j ih =>
    intro hj;simp only[zB9];rw[ih (by omega)]
    have hg:t.getD j nd0=t[j]'(by omega):=by rw[zB,zA (by omega)];rfl
    have hi:(t.map (wA vs)).getD j 0=wA vs (t[j]'(by omega)):=by rw[zB,xG,zA (by omega)];rfl
    rw[hg,hi,hx _ (zH _) (yI3 T j (by omega)) (hall _ (zH _))]
  have hp:=T.pos;unfold zCp;rw[key _ (by omega)]
 ·rfl
theorem zUv {sc:List Ty} {vs:List ByteArray} {t:List Nd} {en en':En} {x:Nd} (h0:1≤x.op) (hx:x∈t) (hok:zCu vs t x=true)
  (hb:∀i∈zA0 wU vs t,0≤i→∀col,wG ⟨2,i,0,0,0⟩ col en'=wG ⟨2,i,0,0,0⟩ col en)
  (hp:∀i∈zA0 zDk vs t,0≤i→∀col,wG ⟨3,i,0,0,0⟩ col en'=wG ⟨3,i,0,0,0⟩ col en)
  (ha:∀i∈zA0 zC3 vs t,0≤i→zAn en'.ls i=zAn en.ls i) (va vb:V):zJb sc (wA vs x) en' x va vb=zJb sc (wA vs x) en x va vb:=by
 unfold zJb;by_cases h1:x.op=1
 ·rw[if_pos h1,if_pos h1]
 rw[if_neg h1,if_neg h1];by_cases h2:x.op=2
 ·rw[if_pos h2,if_pos h2]
 rw[if_neg h2,if_neg h2];by_cases h3:x.op=3
 ·rw[if_pos h3,if_pos h3]
 rw[if_neg h3,if_neg h3];by_cases h11:x.op≤11
 ·rw[if_pos h11,if_pos h11]
  have h4:¬x.op<4:=by omega
  have hi:0≤wY vs x.var:=by
   unfold zCu at hok;rw[if_neg h4,if_pos h11]at hok;simpa using hok
  have hit:wA vs x=wY vs x.var:=by unfold wA;rw[if_pos ⟨by omega,h11⟩]
  rw[hit];by_cases e4:x.op=4
  ·have hm:=zJh (p:=wU) hx (by simp[wU,e4]) hi
   have hc:zK6 x.op=2:=by simp[zK6,e4]
   rw[hc];exact hb _ hm hi _
  ·by_cases e11:x.op=11
   ·have hm:=zJh (p:=zDk) hx (by simp[zDk,e11]) hi
    have hc:zK6 x.op=3:=by simp[zK6,e11]
    rw[hc];exact hp _ hm hi _
   ·have hm:=zJh (p:=zC3) hx (by simp[zC3];omega) hi
    have hc2:¬zK6 x.op=2:=by simp[zK6];omega
    have hc3:¬zK6 x.op=3:=by simp[zK6];omega
    unfold wG;simp only[ha _ hm hi,hc2,hc3,if_false]
 ·rw[if_neg h11,if_neg h11]
section
variable {sc:List Ty} {q:Qu}
theorem zU5 {vs:List ByteArray} {en:En} {t:List Nd} (h:zI9 vs t=true):zDc (zAk sc vs t) en=zLi (zNi sc vs en t):=by
 unfold zDc;rw[yAr h];simp
theorem Wf.run (W:Wf sc q) {r:Nat} (hr:r∈zAj q.wh):zI9 (vars q.items) (zA6 q.wh r)=true:=by
 obtain⟨ht,hl⟩:=zHn hr;have h:=(W.wh (by omega)).1
 exact yE3 (yId ht h) hl
theorem Wf.agg (W:Wf sc q) {r:Nat} (hr:r∈zAj q.wh) {i:Int} (hi:i∈yHw q (zA6 q.wh r)):ngQ q i=false:=by
 obtain⟨ht,hl⟩:=zHn hr;have h:=(W.wh (by omega)).1
 obtain⟨h0,h1,x,hx,hp,rfl⟩:=zGq hi;obtain⟨y,hy,e1,e2,e3⟩:=yAl hx;obtain⟨k,hk,rfl⟩:=xF.1 hy;have hm:=(yDx (h k hk)).1;rw[zAx hk]at hm;have:=(zX4 hm (.inr (by rw[e1];exact hp))).2.2.1 (by rw[e1];exact hp)
 rw[e2]at this
 exact this
end
section
def zIo (q:Qu) (l:List Int):Int:=l.foldl (fun e i=>if 1<(itA q i.toNat).hi then i else e) (-1)
section
variable {sc:List Ty} {q:Qu}
theorem zPu {α:Type} (p:α→Bool):∀(l:List α) (d:α),l.foldl (fun e i=>if p i=true then i else e) d=(l.filter p).getLastD d
 | [],d=>rfl
 | x::l,d=>by
  rw[List.foldl_cons,zPu p l,List.filter_cons];cases h:p x with
  | true=>rw[if_pos rfl,if_pos rfl,List.getLastD_cons]
  | false=>rw[if_neg (by simp),if_neg (by simp)]
def zO1 (q:Qu) (i:Int):Bool:=decide (1<(itA q i.toNat).hi)
theorem zKu (l:List Int):zIo q l=(l.filter (zO1 q)).getLastD (-1):=by
 rw[←zPu];unfold zIo zO1;simp only[decide_eq_true_eq]
theorem yB9 {l:List Int} (h:∀i∈l,zO1 q i=false):zIo q l=-1:=by
 rw[zKu,List.filter_eq_nil_iff.2 fun i hi=>by rw[h i hi];simp];rfl
theorem Wf.rep (W:Wf sc q) {r:Nat} (hr:r∈zAj q.wh):((zA5 q (zA6 q.wh r)).filter (zO1 q)).length≤1:=by
 obtain⟨ht,hl⟩:=zHn hr;have h:=(W.wh (by omega)).2.2
 have hr':r∈zBj q.wh:=by unfold zAj at hr;rw[if_pos ht]at hr;exact hr
 obtain⟨k,hk,rfl⟩:=xF.1 hr';have h1:=h k hk;unfold zSy at h1;have hg:(zBj q.wh).getD k 0=(zBj q.wh)[k]:=by rw[zB,zA hk];rfl
 rw[hg]at h1;have h2:zSx q (zA5 q (zA6 q.wh (zBj q.wh)[k]))≤1:=by
  refine Nat.le_of_not_lt fun hlt => ?_
  rw[if_pos hlt]at h1;cases h1
 refine xL ?_ h2;unfold zSx;generalize zA5 q (zA6 q.wh (zBj q.wh)[k])=l
 induction l with
 | nil=>simp
 | cons x l ih =>
  rw[List.filter_cons,List.filter_cons];cases hx:zO1 q x with
  | true =>
   have:((q.items.getD x.toNat it0).neg||decide (1<(q.items.getD x.toNat it0).hi))=true:=by
    unfold zO1 itA at hx;rw[hx];simp
   rw[if_pos rfl,if_pos this];simp only[List.length_cons];omega
  | false =>
   rw[if_neg (by simp)]
   split
   ·simp only[List.length_cons];omega
   ·exact ih
theorem yB8 (W:Wf sc q) {r:Nat} (hr:r∈zAj q.wh) {i:Int} (hi:i∈zA5 q (zA6 q.wh r)) (h1:zO1 q i=true):zIo q (zA5 q (zA6 q.wh r))=i:=by
 have h2:=W.rep hr;have hm:i∈(zA5 q (zA6 q.wh r)).filter (zO1 q):=zBo.2 ⟨hi,h1⟩;rw[zKu];generalize (zA5 q (zA6 q.wh r)).filter (zO1 q)=l at *
 match l,h2,hm with
 | [y],_,hm=>rw[zDy.1 hm];rfl
 | _::_::_,h2,_=>simp only[List.length_cons]at h2;omega
theorem zYs (W:Wf sc q) {r:Nat} (hr:r∈zAj q.wh):zDf q (zA6 q.wh r)=zIo q (zA5 q (zA6 q.wh r)):=by
 have key:∀(l:List Int) (e:Int),(e=-1∨e=zIo q (zA5 q (zA6 q.wh r)))→(∀i∈l,i∈zA5 q (zA6 q.wh r)→zO1 q i=true→zIo q (zA5 q (zA6 q.wh r))=i)→(l.foldl (fun e i=>if 1<(itA q i.toNat).hi∧i∈zA5 q (zA6 q.wh r)then i else e) e=e∨l.foldl (fun e i=>if 1<(itA q i.toNat).hi∧i∈zA5 q (zA6 q.wh r)then i else e) e=zIo q (zA5 q (zA6 q.wh r)))∧((∃i∈l,i∈zA5 q (zA6 q.wh r)∧zO1 q i=true)→l.foldl (fun e i=>if 1<(itA q i.toNat).hi∧i∈zA5 q (zA6 q.wh r)then i else e) e=zIo q (zA5 q (zA6 q.wh r))):=by
  intro l
  induction l with
  | nil=>exact fun e _ _=>⟨.inl rfl,fun⟨i,hi,_⟩=>by cases hi⟩
  | cons x l ih =>
   intro e he hh;rw[List.foldl_cons];by_cases hx:1<(itA q x.toNat).hi∧x∈zA5 q (zA6 q.wh r)
   ·rw[if_pos hx]
    have hxx:=hh x (by simp) hx.2 (by unfold zO1;rw[decide_eq_true hx.1])
    obtain⟨k1,k2⟩:=ih x (.inr hxx.symm) fun i hi=>hh i (by simp[hi])
    have:l.foldl (fun e i=>if 1<(itA q i.toNat).hi∧i∈zA5 q (zA6 q.wh r)then i else e) x=zIo q (zA5 q (zA6 q.wh r)):=by
     rcases k1 with k|k
     ·rw[k];exact hxx.symm
     ·exact k
    exact⟨.inr this,fun _=>this⟩
   ·rw[if_neg hx]
    obtain⟨k1,k2⟩:=ih e he fun i hi=>hh i (by simp[hi])
    refine⟨k1,fun⟨i,hi,h1,h2⟩ => ?_⟩
    rcases yD.1 hi with rfl|hi
    ·exact absurd ⟨by unfold zO1 at h2;simpa using h2,h1⟩ hx
    ·exact k2 ⟨i,hi,h1,h2⟩
 obtain⟨k1,k2⟩:=key (xV q (zA6 q.wh r)) (-1) (.inl rfl) fun i _ hi h1=>yB8 W hr hi h1
 unfold zDf chL;by_cases hx:∃i∈zA5 q (zA6 q.wh r),zO1 q i=true
 ·obtain⟨i,hi,h1⟩:=hx
  exact k2 ⟨i,zCo _ hi,hi,h1⟩
 ·have h2:zIo q (zA5 q (zA6 q.wh r))=-1:=yB9 fun i hi=>by
   cases h:zO1 q i with
   | false=>rfl
   | true=>exact absurd ⟨i,hi,h⟩ hx
  rcases k1 with k|k
  ·rw[k,h2]
  ·exact k
end
end
section
section
variable {h:Heap} {n:Nat}
structure B34 (h:Heap) (n:Nat) (p:Pt) (s:St):Prop where
 m3:∃m,s.e 3=.p m 0 0∧s.h m=some ⟨xR p (xY sc0 q0),0,true,16⟩
 m4:∃m,s.e 4=.p m 0 0∧s.h m=some ⟨wT fl0,0,true,4⟩
 pl:PlR s.h p (xY sc0 q0)
 ag:agree n h s.h
 fr:Fresh s.n s.h
 nn:n≤s.n
theorem yP9 (e:Nat→AV) (h1:Heap) (n2:Nat) {sa qa qb qc:AV} (a:A34 h n sa qa qb qc ⟨e,h1,n2⟩) {Q}:awp (cz SP (pfL yDf)) (hdC 1 (tlC 4 (Tryz.f34.body.getD .skip))) (zAs (fun s=>∃p,B34 h n p s) Q) ⟨e,h1,n2⟩:=by
 obtain⟨⟨m1,r1,b1⟩,⟨m2,r2,b2⟩,e1,e2,ag,fr,nn⟩:=a;simp only[]at r1 b1 r2 b2 e1 e2 ag fr nn;have hb2:h1 m2=some ⟨[qa,.v (.int .i64 q0.mode),.v (.int .i64 q0.after),qb,.v (.int .i64 q0.within),.v (.string q0.par),qc],0,true,7⟩:=b2;simp[evz,hdC,tlC,Tryz.f34,yDf,r1,b1,r2,hb2];refine (zJ2 (S:=[3]) (by simp[SP]) (c17 e1 e2 sq0.ok fr)).mono ?_
 rintro z h2 n3 ⟨a1,a2,a3,hz⟩;rcases hz with ⟨hz,_⟩|⟨_,p,rfl,pl⟩
 ·exact absurd yNf hz
 obtain⟨o1,o2,o3,o4,o5,o6,o7,o8,o9,o10⟩:=pl.is;have fin:∀(e':Nat→AV) (h':Heap) (n':Nat) (m3 m4:Nat),e' 3=.p m3 0 0→e' 4=.p m4 0 0→h' m3=some ⟨xR p (xY sc0 q0),0,true,16⟩→h' m4=some ⟨wT fl0,0,true,4⟩→agree n3 h2 h'→Fresh n' h'→n3≤n'→∃p,B34 h n p ⟨e',h',n'⟩:=fun e' h' n' m3 m4 k1 k2 k3 k4 k5 k6 k7 =>
  ⟨p,⟨m3,k1,k3⟩,⟨m4,k2,k4⟩,pl.sim (zB8 a2 k5),yP ag (yP a1 k5 a3) nn,k6,xL nn (xL a3 k7)⟩
 simp only[xR,ff,wT,fl0,ii,ss,bv]at fin ⊢;generalize xY sc0 q0=P at *;simp[evz,o1,o2,o3,o4,o5,o6,o7,o8,o9,o10];exact fin _ _ _ n3 (n3+1) (by simp[up]) (by simp[up]) (by simp[up]) (by simp[up]) (by simp[zD,zE]) (by simp[zF,a2.add]) (by omega)
theorem yP8 (e:Nat→AV) (h1:Heap) (n2:Nat) {p:Pt} (a:B34 h n p ⟨e,h1,n2⟩):awp (cz SP (pfL yDf)) (tlC 5 (Tryz.f34.body.getD .skip)) (zBc (cz SP (pfL yDf)) Tryz.f34 fun z h' n'=>agree n h h'∧Fresh n' h'∧n≤n'∧z=bv true) ⟨e,h1,n2⟩:=by
 obtain⟨⟨m3,r3,b3⟩,⟨m4,r4,b4⟩,pl,ag,fr,nn⟩:=a;simp only[]at r3 b3 r4 b4 pl ag fr nn;have hP:=zXf wf0 sq0 (c:=0) (x:=yJu) (by simp[zHc,Rng,yJu])
 have hP1:=zXf wf0 sq0 (c:=0) (x:=yJt) (by simp[zHc,Rng,yJt])
 have hP2:=yFp wf0 sq0 (c:=0) (x:=evq2) (by simp[zHc,Rng,evq2])
 have v0:=yL7;have v1:=yL6;have v2:=yL5;have v3:=yL4;have l1:=yL3;have l2:=yL1;have l3:=yLz;have l4:=yL0;have l5:=yL2;generalize xY sc0 q0=P at *;obtain⟨o1,o2,o3,o4,o5,o6,o7,o8,o9,o10⟩:=pl.is;obtain⟨s1,s2,s3,s4,s5⟩:=zN pl.cm;obtain⟨t1,t2,t3,t4,t5⟩:=zN pl.ng;obtain⟨u1,u2,u3,u4,u5⟩:=zN pl.us;rw[l1]at s2;rw[l2]at t2;rw[l3]at u2;have gp:∀h',agree n2 h1 h'→rPl.run h' (.g (xR p P))=some P:=fun h' ha=>zPz (pl.sim (zB8 fr ha))
 have gt:∀h',agree n2 h1 h'→∀x:Ev,zT6 [.g (xR p P),ii 0,ee x] h'=⟨okTk (P,0,x),bv (zFz P 0 x)⟩:=fun h' ha x=>by
  have k1:=gp h' ha;have k2:rI.run h' (ii 0)=some 0:=rfl;have k3:rE.run h' (ee x)=some x:=zTm x;simp only[zT6,yH,de3,k1,k2,k3,zT,zK]
 have gg:∀h',agree n2 h1 h'→∀x:Ev,zN6 [.g (xR p P),ii 0,ee x] h'=⟨okGd (P,0,x),bv (zEm P 0 x)⟩:=fun h' ha x=>by
  have k1:=gp h' ha;have k2:rI.run h' (ii 0)=some 0:=rfl;have k3:rE.run h' (ee x)=some x:=zTm x;simp only[zN6,yH,de3,k1,k2,k3,zT,zK]
 have gi:∀h',agree n2 h1 h'→∀x:Ev,GIn [.g (xR p P),ee x] h'=⟨P.used.length<big,bv (zF3 P x.ty)⟩:=fun h' ha x=>by
  have k1:=gp h' ha;have k3:rE.run h' (ee x)=some x:=zTm x;simp only[GIn,yH,de2,k1,k3,zT,zK]
 have g0:=fun h' ha=>gt h' ha yJu
 have g1:=fun h' ha=>gt h' ha yJt
 have g2:=fun h' ha=>gg h' ha evq2
 have g3:=fun h' ha=>gi h' ha evq2
 rw[v0]at g0;rw[v1]at g1;rw[v2]at g2;have v3':zF3 P evq2.ty=true:=v3;rw[v3']at g3;simp only[xR,ee,zAo,yJu,yJt,evq2,ii,ss,bv,uu]at g0 g1 g2 g3 b3;simp only[wT,fl0,ii]at b4;have hb:P.used.length<big:=by rw[l3];unfold big;omega
 have nm3:¬m3=n2:=by have:=xB b3 fr;omega
 rw[l4,l5]at g0 g1 g2 g3 b3;simp[evz,tlC,Tryz.f34,yDf,r3,b3,r4,b4,s1,s2,t1,t2,u1,u2,g0,g1,g2,g3,zJt,zGg,zD,zE,nm3,bv];exact⟨hP,hP1,hP2,hb,(zD nn _).2 ((zD nn _).2 ((zD nn _).2 ag)),(zF (by omega) _).2 ((zF (by omega) _).2 ((zF (by omega) _).2 (fr.add 3))),by omega⟩
theorem c34 (hn:Fresh n h):ACall (cz SP (pfL yDf)) 34 [] h n fun z h' n'=>agree n h h'∧Fresh n' h'∧n≤n'∧z=bv true:=by
 refine yR (args:=[]) (zSi (zS P78 (zS P30 (zS P32 (zS P26 yJ))))) (zM8 _ _) Tryz.func34 (c:=Tryz.f34.body.getD .skip) rfl (by kernel_rfl) (xK Tryz.func34 rfl rfl [] (pfL [])) (show 0≤Tryz.f34.ntmps by decide +kernel) ?_
 refine zZ 4 _ _ (yQa hn (env0 [])) fun e1 h1 n1 ⟨sa,qa,qb,qc,A⟩ => ?_
 refine zZ 1 _ _ (yP9 e1 h1 n1 A) fun e2 h2 n2 ⟨p,B⟩ => ?_
 exact yP8 e2 h2 n2 B
end
end
section
structure AP (H:Heap) (n:Nat) (q:Qu) (sa qa qb qc:AV) (s:St):Prop where
 q2:s.e 2=.p n 0 0
 q3:s.e 3=.p (n+1) 0 0
 b2:s.h n=some ⟨[sa],0,true,1⟩
 b3:s.h (n+1)=some ⟨zA2 q qa qb qc,0,true,7⟩
 ag:agree n H s.h
 fr:Fresh s.n s.h
 nn:n+2≤s.n
theorem AP.up {H:Heap} {n:Nat} {q:Qu} {sa qa qb qc:AV} {s s':St} (a:AP H n q sa qa qb qc s) (he:∀i∈[2,3],s'.e i=s.e i) (ha:agree s.n s.h s'.h) (hf:Fresh s'.n s'.h) (hn:s.n≤s'.n):AP H n q sa qa qb qc s':=by
 have:=a.nn;exact⟨(he 2 (by simp)).trans a.q2,(he 3 (by simp)).trans a.q3,(ha _ (by omega)).trans a.b2,(ha _ (by omega)).trans a.b3,yP a.ag ha (by omega),hf,by omega⟩
structure BP (H:Heap) (n:Nat) (sc:List Ty) (q:Qu) (sa qa qb qc:AV) (k m:Nat) (p:Pt) (s:St):Prop where
 a:AP H n q sa qa qb qc s
 q5:s.e k=.p m 0 0
 b5:s.h m=some ⟨xR p (xY sc q),0,true,16⟩
 pl:PlR s.h p (xY sc q)
theorem BP.up {H:Heap} {n:Nat} {sc:List Ty} {q:Qu} {sa qa qb qc:AV} {k m:Nat} {p:Pt} {s s':St} (a:BP H n sc q sa qa qb qc k m p s) (he:∀i∈[2,3,k],s'.e i=s.e i) (ha:agree s.n s.h s'.h) (hf:Fresh s'.n s'.h) (hn:s.n≤s'.n):BP H n sc q sa qa qb qc k m p s' :=
 ⟨a.a.up (fun i hi=>he i (by simp at hi ⊢;omega)) ha hf hn,(he k (by simp)).trans a.q5,(ha _ (xB a.b5 a.a.fr)).trans a.b5,a.pl.sim (zB8 a.a.fr ha)⟩
section
variable {H:Heap} {n:Nat} {sc:List Ty} {q:Qu} {sa qa qb qc:AV}
end
end
section
structure AN (H:Heap) (n:Nat) (q:Qu) (sa qa qb qc ba:AV) (ng:Int) (x:Ev) (s:St):Prop where
 q2:s.e 2=ba
 q3:s.e 3=ii ng
 q5:s.e 5=.p n 0 0
 q6:s.e 6=.p (n+1) 0 0
 q9:s.e 9=.p (n+2) 0 0
 b0:s.h n=some ⟨[sa],0,true,1⟩
 b1:s.h (n+1)=some ⟨zA2 q qa qb qc,0,true,7⟩
 b2:s.h (n+2)=some ⟨zAo x,0,true,11⟩
 ag:agree n H s.h
 fr:Fresh s.n s.h
 nn:n+3≤s.n
theorem AN.up {H:Heap} {n:Nat} {q:Qu} {sa qa qb qc ba:AV} {ng:Int} {x:Ev} {s s':St} (a:AN H n q sa qa qb qc ba ng x s) (he:∀i∈[2,3,5,6,9],s'.e i=s.e i) (ha:agree s.n s.h s'.h) (hf:Fresh s'.n s'.h) (hn:s.n≤s'.n):AN H n q sa qa qb qc ba ng x s':=by
 have:=a.nn;exact⟨(he 2 (by simp)).trans a.q2,(he 3 (by simp)).trans a.q3,(he 5 (by simp)).trans a.q5,(he 6 (by simp)).trans a.q6,(he 9 (by simp)).trans a.q9,(ha _ (by omega)).trans a.b0,(ha _ (by omega)).trans a.b1,(ha _ (by omega)).trans a.b2,yP a.ag ha (by omega),hf,by omega⟩
structure BN (H:Heap) (n:Nat) (sc:List Ty) (q:Qu) (sa qa qb qc ba:AV) (ng:Int) (x:Ev) (m:Nat) (p:Pt) (s:St):Prop where
 a:AN H n q sa qa qb qc ba ng x s
 q11:s.e 11=.p m 0 0
 b11:s.h m=some ⟨xR p (xY sc q),0,true,16⟩
 pl:PlR s.h p (xY sc q)
theorem BN.up {H:Heap} {n:Nat} {sc:List Ty} {q:Qu} {sa qa qb qc ba:AV} {ng:Int} {x:Ev} {m:Nat} {p:Pt} {s s':St} (a:BN H n sc q sa qa qb qc ba ng x m p s) (he:∀i∈[2,3,5,6,9,11],s'.e i=s.e i) (ha:agree s.n s.h s'.h) (hf:Fresh s'.n s'.h) (hn:s.n≤s'.n):BN H n sc q sa qa qb qc ba ng x m p s' :=
 ⟨a.a.up (fun i hi=>he i (by simp at hi ⊢;omega)) ha hf hn,(he 11 (by simp)).trans a.q11,(ha _ (xB a.b11 a.a.fr)).trans a.b11,a.pl.sim (zB8 a.a.fr ha)⟩
section
variable {H:Heap} {n:Nat} {sc:List Ty} {q:Qu} {sa qa qb qc ba:AV} {ng:Int} {x:Ev}
end
end
section
section
variable {H:Heap} {n:Nat} {sc:List Ty} {q:Qu} {sa qa qb qc ba:AV} {ng:Int} {x:Ev} {b:List (List Ev)}
end
end
section
structure CN (H:Heap) (n:Nat) (sc:List Ty) (q:Qu) (sa qa qb qc ba:AV) (ng:Int) (x:Ev) (m:Nat) (p:Pt) (m2:Nat) (g:Ng) (ty ow cn:AV) (s:St):Prop where
 b:BN H n sc q sa qa qb qc ba ng x m p s
 q13:s.e 13=.p m2 0 0
 b13:s.h m2=some ⟨[ii g.item,ty,ii g.after,ii g.before,ow,cn],0,true,6⟩
 rt:rd dIs s.h ty=some g.types
 rr:rd zLg s.h cn=some g.rest
theorem CN.up {H:Heap} {n:Nat} {sc:List Ty} {q:Qu} {sa qa qb qc ba:AV} {ng:Int} {x:Ev} {m:Nat} {p:Pt} {m2:Nat} {g:Ng} {ty ow cn:AV} {s s':St} (a:CN H n sc q sa qa qb qc ba ng x m p m2 g ty ow cn s) (he:∀i∈[2,3,5,6,9,11,13],s'.e i=s.e i) (ha:agree s.n s.h s'.h) (hf:Fresh s'.n s'.h) (hn:s.n≤s'.n):CN H n sc q sa qa qb qc ba ng x m p m2 g ty ow cn s' :=
 ⟨a.b.up (fun i hi=>he i (by simp at hi ⊢;omega)) ha hf hn,(he 13 (by simp)).trans a.q13,(ha _ (xB a.b13 a.b.a.fr)).trans a.b13,yT a.b.a.fr a.rt _ ha,yT a.b.a.fr a.rr _ ha⟩
section
variable {H:Heap} {n:Nat} {sc:List Ty} {q:Qu} {sa qa qb qc ba:AV} {ng:Int} {x:Ev} {b:List (List Ev)} {m:Nat} {p:Pt}
end
end
section
section
variable {H:Heap} {n:Nat} {sc:List Ty} {q:Qu} {sa qa qb qc ba:AV} {ng:Int} {x:Ev} {b:List (List Ev)} {m:Nat} {p:Pt} {m2:Nat} {g:Ng} {ty ow cn:AV}
end
end
section
structure DN (H:Heap) (n:Nat) (sc:List Ty) (q:Qu) (sa qa qb qc ba:AV) (ng:Int) (x:Ev) (b:List (List Ev)) (m:Nat) (p:Pt) (m2:Nat) (g:Ng) (ty ow cn la:AV) (s:St):Prop where
 c:CN H n sc q sa qa qb qc ba ng x m p m2 g ty ow cn s
 q14:s.e 14=bv (decide (x.ty∈g.types))
 q16:s.e 16=la
 rl:rd zFr s.h la=some (byV q b g.item x)
theorem DN.up {H:Heap} {n:Nat} {sc:List Ty} {q:Qu} {sa qa qb qc ba:AV} {ng:Int} {x:Ev} {b:List (List Ev)} {m:Nat} {p:Pt} {m2:Nat} {g:Ng} {ty ow cn la:AV} {s s':St} (a:DN H n sc q sa qa qb qc ba ng x b m p m2 g ty ow cn la s) (he:∀i∈[2,3,5,6,9,11,13,14,16],s'.e i=s.e i) (ha:agree s.n s.h s'.h) (hf:Fresh s'.n s'.h) (hn:s.n≤s'.n):DN H n sc q sa qa qb qc ba ng x b m p m2 g ty ow cn la s' :=
 ⟨a.c.up (fun i hi=>he i (by simp at hi ⊢;omega)) ha hf hn,(he 14 (by simp)).trans a.q14,(he 16 (by simp)).trans a.q16,yT a.c.b.a.fr a.rl _ ha⟩
section
variable {H:Heap} {n:Nat} {sc:List Ty} {q:Qu} {sa qa qb qc ba:AV} {ng:Int} {x:Ev} {b:List (List Ev)} {m:Nat} {p:Pt} {m2:Nat} {g:Ng} {ty ow cn:AV}
end
end
section
section
variable {H:Heap} {n:Nat} {sc:List Ty} {q:Qu} {sa qa qb qc ba:AV} {ng:Int} {x:Ev} {b:List (List Ev)} {m:Nat} {p:Pt} {m2:Nat} {g:Ng} {ty ow cn la:AV} {K:Bool}
end
end
section
structure FN (H:Heap) (n:Nat) (sc:List Ty) (q:Qu) (sa qa qb qc ba:AV) (ng:Int) (x:Ev) (b:List (List Ev)) (m:Nat) (p:Pt) (m2:Nat) (g:Ng) (ty ow cn la:AV) (K:Bool) (z:AV) (s:St):Prop where
 d:DN H n sc q sa qa qb qc ba ng x b m p m2 g ty ow cn la s
 q17:s.e 17=bv K
 q20:s.e 20=z
 rz:rd dIs s.h z=some (yOt q)
theorem FN.up {H:Heap} {n:Nat} {sc:List Ty} {q:Qu} {sa qa qb qc ba:AV} {ng:Int} {x:Ev} {b:List (List Ev)} {m:Nat} {p:Pt} {m2:Nat} {g:Ng} {ty ow cn la:AV} {K:Bool} {z:AV} {s s':St} (a:FN H n sc q sa qa qb qc ba ng x b m p m2 g ty ow cn la K z s) (he:∀i∈[2,3,5,6,9,11,13,14,16,17,20],s'.e i=s.e i) (ha:agree s.n s.h s'.h) (hf:Fresh s'.n s'.h) (hn:s.n≤s'.n):FN H n sc q sa qa qb qc ba ng x b m p m2 g ty ow cn la K z s' :=
 ⟨a.d.up (fun i hi=>he i (by simp at hi ⊢;omega)) ha hf hn,(he 17 (by simp)).trans a.q17,(he 20 (by simp)).trans a.q20,yT a.d.c.b.a.fr a.rz _ ha⟩
section
variable {H:Heap} {n:Nat} {sc:List Ty} {q:Qu} {sa qa qb qc ba:AV} {ng:Int} {x:Ev} {b:List (List Ev)} {m:Nat} {p:Pt} {m2:Nat} {g:Ng} {ty ow cn la z:AV} {K:Bool}
end
end
section
section
variable {H:Heap} {n:Nat} {sc:List Ty} {q:Qu} {sa qa qb qc ba:AV} {ng:Int} {x:Ev} {b:List (List Ev)} {m:Nat} {p:Pt} {m2:Nat} {g:Ng} {ty ow cn la z:AV} {K:Bool}
end
end
section
section
variable {H:Heap} {n:Nat} {sc:List Ty} {q:Qu} {sa qa qb qc ba:AV} {ng:Int} {x:Ev} {b:List (List Ev)} {m:Nat} {p:Pt} {m2:Nat} {g:Ng} {ty ow cn la z:AV} {K:Bool}
end
end
section
section
variable {sc:List Ty} {q:Qu} {b:List (List Ev)} {x:Ev}
end
end
section
section
variable {sc:List Ty} {q:Qu}
theorem zPn {b:List (List Ev)} {x:Ev} {i:Nat} (hi:i<q.items.length) (hn:(itA q i).neg=false):zAn (byV q b (-1) x) i=b.getD (rk q i) []:=by
 unfold zAn;rw[if_neg (by omega),yF,zB,zA (by simp[byV];exact hi),wM]
 simp[byV,byE,hn]
theorem yCa {l:List Int}:zIo q l=-1∨zIo q l∈l:=by
 rw[zKu];cases hx:l.filter (zO1 q)with
 | nil=>exact .inl rfl
 | cons y m =>
  refine .inr ?_;have hm2:(y::m).getLastD (-1)∈l.filter (zO1 q):=by
   rw[hx,List.getLastD_cons];exact List.getLastD_mem_cons
  exact (zBo.1 hm2).1
end
end
section
section
variable {sc:List Ty} {q:Qu}
theorem yA0 {t:List Nd} {i:Int} (hi:i∈zCz q t):i∈zA5 q t:=by
 obtain⟨h0,h1,x,hx,hp,rfl⟩:=zGq (p:=zDk) hi;have hb:wU x.op=true:=by unfold zDk at hp;unfold wU;simp at hp ⊢;omega
 exact zJh (p:=wU) hx hb h0
theorem zUy {t:List Nd} {ls ls':List (List Ev)} (h:∀i∈xV q t,zAn ls' i=zAn ls i) (each pos:Int):zNi sc (vars q.items) ⟨ls',each,pos⟩ t=zNi sc (vars q.items) ⟨ls,each,pos⟩ t :=
 zVb fun y hy h0 hok va vb=>zUv h0 hy hok
  (fun i hi _ col=>by unfold wG;simp only[h i (zCo _ hi)])
  (fun i hi _ col=>by unfold wG;simp only[h i (zCo _ (yA0 hi))])
  (fun i hi _=>h i (List.mem_append_right _ hi)) va vb
theorem zRb (W:Wf sc q) {r:Nat} (hr:r∈zAj q.wh) {ls ls':List (List Ev)} (h:∀i∈xV q (zA6 q.wh r),zAn ls' i=zAn ls i) (pb:Bool):zB6 ⟨zAk sc (vars q.items) (zA6 q.wh r),zDf q (zA6 q.wh r),pb⟩ ls'=zB6 ⟨zAk sc (vars q.items) (zA6 q.wh r),zDf q (zA6 q.wh r),pb⟩ ls:=by
 have hrun:=W.run hr;have hh:∀(ls:List (List Ev)) (each pos:Int),zDc (zAk sc (vars q.items) (zA6 q.wh r)) ⟨ls,each,pos⟩=zLi (zNi sc (vars q.items) ⟨ls,each,pos⟩ (zA6 q.wh r)):=fun ls each pos=>zU5 hrun
 have hc:=zUy (sc:=sc) h;have hes:=zYs W hr;have hem:=yCa (q:=q) (l:=zA5 q (zA6 q.wh r));rw[←hes]at hem;unfold zB6;by_cases h0:zDf q (zA6 q.wh r)<0
 ·simp only[if_pos h0,hh,hc]
 ·simp only[if_neg h0]
  have hl:zAn ls' (zDf q (zA6 q.wh r))=zAn ls (zDf q (zA6 q.wh r)):=by
   rcases hem with e|e
   ·omega
   ·exact h _ (zCo _ e)
  unfold zDm;simp only[hh,hc,hl]
theorem yHi (W:Wf sc q) {i:Nat} (hi:i<q.items.length) (hn:(itA q i).neg=false) {cd:Cd} (h:cd∈zCq sc q (zAl q) i):∃r∈zAj q.wh,cd=⟨zAk sc (vars q.items) (zA6 q.wh r),zDf q (zA6 q.wh r),decide (0<(zCz q (zA6 q.wh r)).length)⟩∧
  (i:Int)∈xV q (zA6 q.wh r)∧∀j∈xV q (zA6 q.wh r),(itA q j.toNat).neg=false∧rk q i≤rk q j.toNat:=by
 obtain⟨t,ht,rfl⟩:=xU.1 h;obtain⟨h1,h2⟩:=zBo.1 ht;simp only[zO,decide_eq_true_eq]at h2;rw[zC1]at h1;obtain⟨r,hr,rfl⟩:=xU.1 h1;have hhome:=h2.2;refine⟨r,hr,rfl,?_⟩;generalize zA6 q.wh r=t at *;cases hf:(xV q t).find? (ngQ q)with
 | some j =>
  rw[zS7 hf]at hhome;have:=List.find?_some hf;unfold ngQ at this
  rw[hhome,yF,hn]at this;cases this
 | none =>
  have hpos:∀j∈xV q t,(itA q j.toNat).neg=false:=fun j hj=>by
   have:=List.find?_eq_none.1 hf j hj;simpa[ngQ]using this
  have hrk:∀j∈xV q t,(zAq q q.items.length)[rk q j.toNat]? = some j.toNat:=fun j hj=>zC5 (zIl hj).2 (hpos j hj)
  rw[zNc hf]at hhome;have hl:lsL q (xV q t)<(zAq q q.items.length).length:=by
   refine Nat.lt_of_not_le fun hle => ?_
   rw[if_neg (by omega)]at hhome;omega
  rw[if_pos hl]at hhome;have hgd:(zAq q q.items.length).getD (lsL q (xV q t)) 0=(zAq q q.items.length)[lsL q (xV q t)]:=by rw[zB,zA hl];rfl
  rw[hgd]at hhome;have hie:(zAq q q.items.length)[lsL q (xV q t)]=i:=by omega
  obtain⟨k1,k2⟩:=yB.1 (zC5 hi hn);have hli:lsL q (xV q t)=rk q i:=zPm (zM2 q q.items.length) hl k1 (hie.trans k2.symm);have hle:∀(l:List Int) (m:Nat),(∀j∈l,l.foldl (fun m i=>min m (rk q i.toNat)) m≤rk q j.toNat)∧(l.foldl (fun m i=>min m (rk q i.toNat)) m=m∨∃j∈l,l.foldl (fun m i=>min m (rk q i.toNat)) m=rk q j.toNat):=by
   intro l
   induction l with
   | nil=>exact fun m=>⟨fun j hj=>(by cases hj),.inl rfl⟩
   | cons y l ih =>
    intro m;rw[List.foldl_cons];obtain⟨a,b⟩:=ih (min m (rk q y.toNat));have hfl:=zNe (fun i:Int=>rk q i.toNat) l (min m (rk q y.toNat))
    refine⟨fun j hj => ?_,?_⟩
    ·rcases yD.1 hj with rfl|hj
     ·exact xL hfl (Nat.min_le_right _ _)
     ·exact a j hj
    ·rcases b with b|⟨j,hj,b⟩
     ·rw[b]
      rcases Nat.le_total m (rk q y.toNat)with h|h
      ·exact .inl (Nat.min_eq_left h)
      ·exact .inr ⟨y,by simp,Nat.min_eq_right h⟩
     ·exact .inr ⟨j,by simp[hj],b⟩
  obtain⟨a,b⟩:=hle (xV q t) (zAq q q.items.length).length;have hll:(xV q t).foldl (fun m i=>min m (rk q i.toNat)) (zAq q q.items.length).length=lsL q (xV q t):=rfl
  rw[hll,hli]at a b;refine⟨?_,fun j hj=>⟨hpos j hj,a j hj⟩⟩
  rcases b with b|⟨j,hj,b⟩
  ·omega
  ·have h3:=hrk j hj
   rw[←b,zC5 hi hn]at h3;have h4:=(zIl hj).1;have h5:j=(i:Int):=by have:=Option.some.inj h3;omega
   rw[←h5];exact hj
theorem yA4 {vs:List ByteArray} {t:List Nd} {x:Nd} (hx:x∈t):∃j,j<t.length∧t.getD j nd0=x∧zE6 vs t j∈zIs vs t:=by
 obtain⟨j,hj,rfl⟩:=xF.1 hx;refine⟨j,hj,zAx hj,?_⟩;unfold zIs;generalize hjmp:zI4 t (fun p=>zA1 t p+1)=g
 have:∀n,j<n→zE6 vs t j∈zGl t (zE6 vs t) g n:=by
  intro n
  induction n with
  | zero=>omega
  | succ n ih =>
   intro hjn;rw[zGl];by_cases e:j=n
   ·subst e;simp
   ·exact zCo _ (ih (by omega))
 exact this _ hj
theorem zXz (W:Wf sc q) {r:Nat} (hr:r∈zAj q.wh) {i:Int} (hi:i∈xV q (zA6 q.wh r)):∃I∈(zAk sc (vars q.items) (zA6 q.wh r)).code,2≤I.code∧I.code≤9∧I.item=i:=by
 have hrun:=W.run hr;have key:∃x∈zA6 q.wh r,4≤x.op∧x.op≤11∧wY (vars q.items) x.var=i:=by
  rcases wB.1 hi with h|h
  ·obtain⟨h0,h1,x,hx,hp,rfl⟩:=zGq (p:=wU) h
   exact⟨x,hx,by unfold wU at hp;simp at hp;omega,by unfold wU at hp;simp at hp;omega,rfl⟩
  ·obtain⟨h0,h1,x,hx,hp,rfl⟩:=zGq (p:=zC3) h
   exact⟨x,hx,by unfold zC3 at hp;simp at hp;omega,by unfold zC3 at hp;simp at hp;omega,rfl⟩
 obtain⟨x,hx,h4,h11,rfl⟩:=key;obtain⟨j,hj,hg,hm⟩:=yA4 (vs:=vars q.items) hx;have hc:(zAk sc (vars q.items) (zA6 q.wh r)).code=zIs (vars q.items) (zA6 q.wh r):=by unfold zAk;rw[if_pos hrun]
 rw[hc];refine⟨_,hm,?_⟩;unfold zE6;rw[hg];have hit:wA (vars q.items) x=wY (vars q.items) x.var:=by unfold wA;rw[if_pos ⟨h4,h11⟩]
 rw[hit];unfold zPa
 repeat' split
 all_goals first|omega|(refine⟨?_,?_,rfl⟩<;>simp only[]<;>omega)
def zPk (N c:Nat) (b other:List (List Ev)):List (List Ev):=(List.range N).map fun k=>if k<c then other.getD k []else b.getD k []
theorem yJa {N c k:Nat} {b other:List (List Ev)} (hk:k<N) (hc:c≤k):(zPk N c b other).getD k []=b.getD k []:=by
 unfold zPk;rw[zB,xG,zDh hk];simp only[zK,wM,if_neg (show ¬k<c by omega)]
theorem zYr (W:Wf sc q) {i:Nat} (hi:i<q.items.length) (hn:(itA q i).neg=false) {cd:Cd} (h:cd∈zCq sc q (zAl q) i) (b other:List (List Ev)) (x0:Ev) :
  zB6 cd (byV q b (-1) x0)=zB6 cd (byV q (zPk (zAq q q.items.length).length (rk q i) b other) (-1) x0)∧∃I∈cd.p.code,2≤I.code∧I.code≤9∧I.item=(i:Int):=by
 obtain⟨r,hr,rfl,hm,hall⟩:=yHi W hi hn h;refine⟨zRb W hr (fun j hj => ?_) _,zXz W hr hm⟩
 obtain⟨h1,h2⟩:=hall j hj;obtain⟨h3,h4⟩:=zIl hj;have hjj:j=((j.toNat:Nat):Int):=by omega
 rw[hjj,zPn h4 h1,zPn h4 h1,yJa (yB.1 (zC5 h4 h1)).1 h2]
end
end
theorem zN1 {X:Ctx} {r l:Code} {i:Nat} {I R:St→Prop} {Q:Ex→St→Prop} {s:St} (h1:awp X r (zAs I fun _ _=>False) s) (h2:∀e h n,I ⟨e,h,n⟩→awp X (.loop l) (fun y s=>y=.exit i∧R s) ⟨e,h,n⟩):awp X (.seq r (.block i (.loop l))) (zAs R Q) s:=by
 rw[zDn];refine zBk _ (fun y s hy => ?_) h1
 cases y with
 | normal =>
  obtain⟨e,h,n⟩:=s;rw[zAw]at hy;rw[zAw,zAy];refine zBk _ (fun y s hy => ?_) (h2 e h n hy)
  obtain⟨rfl,hr⟩:=hy;rw[zFh,if_pos rfl,zAw];exact hr
 | exit i=>exact (by simp[zIb]at hy:False).elim
 | ret=>exact (by simp[zFw]at hy:False).elim
end Go.Proofs.YtbffkkeieihpdaaGreatDoor
