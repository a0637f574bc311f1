import Derived.Test.YtbffkkeieihpdaaGreatDoorE12
import Derived.Test.YtbffkkeieihpdaaGreatDoorE10
import Derived.Test.YtbffkkeieihpdaaGreatDoorE09
import Derived.WalkKit
import Derived.Laws.IdiomStrings
import Derived.Laws.RangeAny
import Derived.Test.YtbffkkeieihpdaaGreatDoorE11
set_option linter.unusedSimpArgs false
set_option linter.unusedVariables false
set_option linter.constructorNameAsVariable false
set_option maxRecDepth 100000
set_option maxHeartbeats 4000000
namespace Go.Proofs.YtbffkkeieihpdaaGreatDoor
open Go Go.Eng
def zBv (v:V):List AV:=[.v (.bool v.k),.v (.int .i64 v.n)]
theorem zJ8 (l:List V):(l.flatMap zBv).length=l.length*2:=by
 induction l with
 | nil=>rfl
 | cons v l ih=>simp only[xZ,zM,ih,zBv,List.length_cons,zAc];omega
def yHz (h:Heap) (lo n:Nat) (a:AV) (st:List V):Prop :=
 (st=[]∧a=.v (.slice none 0 0))∨∃w u cs,a=.s w u 0 st.length∧h w=some ⟨cs,u,true,2⟩∧(∃r,cs=st.flatMap zBv++r)∧lo≤w∧w<n
theorem zFv {h:Heap} {lo n:Nat} {a:AV} {pre:List V} {x:V} (o:yHz h lo n a (pre++[x])):∃w u cs,a=.s w u 0 (pre.length+1)∧h w=some ⟨cs,u,true,2⟩∧lo≤w∧w<n∧
  cs[pre.length*2]? = some (.v (.bool x.k))∧cs[pre.length*2+1]? = some (.v (.int .i64 x.n))∧pre.length*2+2≤cs.length∧
  (∀c d,∃r,(cs.set (pre.length*2) c).set (pre.length*2+1) d=pre.flatMap zBv++([c,d]++r))∧∃r,cs=(pre++[x]).flatMap zBv++r:=by
 rcases o with ⟨h0,_⟩|⟨w,u,cs,h1,h2,⟨r,rfl⟩,h3,h4⟩
 ·simp at h0
 ·refine⟨w,u,_,by simpa using h1,h2,h3,h4,?_⟩
  have hl:=zJ8 pre;have e:(pre++[x]).flatMap zBv++r=pre.flatMap zBv++(.v (.bool x.k) :: .v (.int .i64 x.n)::r):=by simp[zBv]
  rw[e];refine⟨?_,?_,?_,fun c d=>⟨r,?_⟩,r,e.symm⟩
  ·rw[yG (by omega),hl];simp
  ·rw[yG (by omega),hl];simp
  ·simp only[zM,List.length_cons,hl];omega
  ·rw[←hl,zCf _ _ (zC _),zCf _ _ (by omega)]
   simp
theorem zUe {h:Heap} {lo n:Nat} {a:AV} {pre:List V} {y x:V} (o:yHz h lo n a (pre++[y]++[x])):∃w u cs,a=.s w u 0 (pre.length+1+1)∧h w=some ⟨cs,u,true,2⟩∧lo≤w∧w<n∧
  cs[pre.length*2]? = some (.v (.bool y.k))∧cs[pre.length*2+1]? = some (.v (.int .i64 y.n))∧cs[(pre.length+1)*2]? = some (.v (.bool x.k))∧cs[(pre.length+1)*2+1]? = some (.v (.int .i64 x.n))∧(pre.length+1)*2+2≤cs.length∧
  ∀c d,∃r,(cs.set (pre.length*2) c).set (pre.length*2+1) d=pre.flatMap zBv++([c,d]++r):=by
 obtain⟨w,u,cs,h1,h2,h3,h4,h5,h6,h7,_,r,hr⟩:=zFv o;refine⟨w,u,cs,by simpa using h1,h2,h3,h4,?_⟩
 have o2:yHz (fun _=>some ⟨cs,0,true,2⟩) 0 1 (.s 0 0 0 (pre++[y]).length) (pre++[y]):=.inr ⟨0,0,cs,rfl,rfl,⟨zBv x++r,by rw[hr];simp⟩,zC _,by omega⟩
 obtain⟨w',u',cs',k1,k2,_,_,k5,k6,k7,k8,_⟩:=zFv o2;simp only[Option.some.injEq,Blk.mk.injEq,and_true]at k2;obtain⟨rfl,_⟩:=k2;simp only[zM,List.length_cons,zAc]at h5 h6 h7;exact⟨k5,k6,by simpa using h5,by simpa using h6,by simpa using h7,k8⟩
theorem snoc {st:List V} (h:0<st.length):∃pre x,st=pre++[x]:=⟨st.dropLast,st.getLast (List.length_pos_iff.1 h),(List.dropLast_concat_getLast _).symm⟩
theorem yLx {st:List V} (h:2≤st.length):∃pre y x,st=pre++[y]++[x]:=by
 obtain⟨pre,x,rfl⟩:=snoc (st:=st) (by omega)
 obtain⟨pre',y,rfl⟩:=snoc (st:=pre) (by simp at h;omega)
 exact⟨pre',y,x,rfl⟩
structure PrOk (p:Pr):Prop where
 len:p.code.length*40≤140737488355328
 ok:∀i∈p.code,yKf i
 col:∀c∈p.cols,c.length<big
def okR (q:Pr×En):Prop:=PrOk q.1∧EnOk q.2
def deR (h:Heap):List AV→Option (Pr×En)
 | [p,e]=>match zLr h p,zTl h e with
  | some p,some e=>some (p,e)
  | _,_=>none
 | _=>none
theorem zKy {h:Heap} {args:List AV} {q:Pr×En} (e:deR h args=some q):∃x y,args=[x,y]∧zLr h x=some q.1∧zTl h y=some q.2:=by
 unfold deR at e;split at e
 ·split at e
  ·rename_i e1 e2
   cases e;exact⟨_,_,rfl,e1,e2⟩
  ·cases e
 ·cases e
theorem yG8 {h h':Heap} {args:List AV} {q:Pr×En} (hh:h.sim h') (e:deR h args=some q):deR h' args=some q:=by
 obtain⟨c,x,rfl,e1,e2⟩:=zKy e;simp only[deR,zJx hh e1,zNp hh e2]
theorem zTi (h h':Heap) (args:List AV) (q:Pr×En) (hh:h.le h') (e:deR h args=some q):deR h' args=some q:=yG8 hh.sim e
def zQl (q:V×Int):AV:=.t [vv q.1,.v (.int .i64 q.2)]
def G29:=yH deR okR fun q=>zQl (zSc q.1 q.2)
theorem yJp {l:List AV} {o:Nat} {i:Ins} (h:(l.drop o).take 5=zBb i):l[o]? = some (ii i.code)∧l[o+1]? = some (ii i.item)∧l[o+2]? = some (ii i.col)∧l[o+3]? = some (ii i.n)∧l[o+4]? = some (ii i.to) :=
 ⟨yI (c:=0) h rfl (by omega),yI (c:=1) h rfl (by omega),yI (c:=2) h rfl (by omega),yI (c:=3) h rfl (by omega),yI (c:=4) h rfl (by omega)⟩
theorem zSj {h:Heap} {lo n:Nat} {a:AV} {st:List V} (o:yHz h lo n a st):a.isS∧a.slen=st.length∧(∀g,AV.unc g a=a):=by
 rcases o with ⟨rfl,rfl⟩|⟨w,u,cs,rfl,_⟩
 ·exact⟨⟨rfl,rfl⟩,rfl,fun _=>rfl⟩
 ·exact⟨trivial,rfl,fun _=>rfl⟩
end Go.Proofs.YtbffkkeieihpdaaGreatDoor
namespace Go.Proofs.YtbffkkeieihpdaaGreatDoor
open Go Go.Eng
theorem zB8 {n:Nat} {h h':Heap} (hn:∀i,n≤i→h i=none) (ha:agree n h h'):h.sim h':=fun i k e=>⟨k,by rw[ha i (xB e hn)];exact e,rfl,rfl⟩
theorem zI7 {n:Nat} {h h':Heap} (hn:∀i,n≤i→h i=none) (ha:agree n h h'):h.le h':=fun i k e=>by rw[ha i (xB e hn)];exact e
theorem yT {α:Type} {d:De α} {h:Heap} {n:Nat} {a:AV} {x:α} (hn:∀i,n≤i→h i=none) (e:rd d h a=some x):∀h',agree n h h'→rd d h' a=some x:=fun _ ha=>zAe (zB8 hn ha) e
theorem yP {n m:Nat} {a b c:Heap} (h1:agree n a b) (h2:agree m b c) (hm:n≤m):agree n a c:=fun j hj=>by rw[h2 j (by omega),h1 j hj]
structure Flat {α:Type} (sz:Nat) (d:De α) (en:α→List AV):Prop where
 out:∀h l x,d.run h l=some x→l=en x
 inn:∀h x,d.run h (en x)=some x
 len:∀x,(en x).length=sz
theorem Flat.ev:Flat 11 dEv zAo:=⟨fun _ _ _ e=>zNq e,fun _ _=>rfl,fun _=>rfl⟩
theorem Flat.ins:Flat 5 yNc zBb:=⟨fun _ _ _ e=>zNo e,fun _ _=>rfl,fun _=>rfl⟩
theorem yGu (h:Heap) (l:List AV) (x:Int) (e:(De.int .i64).run h l=some x):l=[ii x]:=by
 simp only[De.int]at e;split at e
 ·split at e
  ·rename_i hk
   cases e;rw[hk];rfl
  ·cases e
 ·cases e
theorem Flat.int:Flat 1 (De.int .i64) (fun x=>[ii x]):=⟨yGu,fun _ _=>rfl,fun _=>rfl⟩
theorem zCl {α:Type} {sz:Nat} {d:De α} {en:α→List AV} (f:Flat sz d en) (l:List α):(l.flatMap en).length=l.length*sz:=by
 induction l with
 | nil=>simp
 | cons x l ih=>simp only[xZ,zM,f.len,ih,List.length_cons,wC];omega
theorem zPv {α:Type} {sz:Nat} {d:De α} {en:α→List AV} (f:Flat sz d en):∀(l:List α) (i:Nat) (hi:i<l.length) (r:List AV),((l.flatMap en++r).drop (i*sz)).take sz=en l[i]
 | [],_,h,_=>by simp at h
 | x::l,0,_,r=>by
  rw[zEd,List.drop_zero,xZ,xT,←f.len x,List.take_left']
  ·rfl
  ·rfl
 | x::l,i+1,h,r=>by
  have e:(i+1)*sz=(en x).length+i*sz:=by rw[f.len,wC];omega
  rw[xZ,xT,e,List.drop_append,List.getElem_cons_succ];have:List.drop ((en x).length+i*sz) (en x)=[]:=List.drop_eq_nil_of_le (by omega)
  rw[this,List.nil_append,show (en x).length+i*sz-(en x).length=i*sz by omega]
  exact zPv f l i (by simpa using h) r
theorem zB2 {α:Type} {sz:Nat} {d:De α} {en:α→List AV} (f:Flat sz d en) {h:Heap} {id ver:Nat} {k:Blk} {l:List α} (hk:h id=some k) (hv:k.ver=ver) {r:List AV} (hc:k.cells=l.flatMap en++r):rd (De.sl sz d) h (.s id ver 0 l.length)=some l:=by
 subst hv;refine De.sl_in hk (by rw[hc,zM,zCl f];omega) fun i hi => ?_
 rw[yQ,hc,zPv f l i hi];exact f.inn h _
theorem yGy {α:Type} {sz:Nat} {d:De α} {en:α→List AV} (f:Flat sz d en) {h:Heap} {a:AV} {l:List α} (e:rd (De.sl sz d) h a=some l):(l=[]∧(a=.v (.slice none 0 0)∨a=.e))∨
  ∃id off k,a=.s id k.ver off l.length∧h id=some k∧off+l.length*sz≤k.cells.length∧(k.cells.drop off).take (l.length*sz)=l.flatMap en:=by
 rcases zD8 e with h0|⟨id,off,k,h1,h2,h3,h4⟩
 ·exact .inl h0
 ·refine .inr ⟨id,off,k,h1,h2,h3,?_⟩
  have key:∀(m:List α) (o:Nat),o+m.length*sz≤k.cells.length→(∀i (hi:i<m.length),d.run h ((k.cells.drop (o+i*sz)).take sz)=some m[i])→(k.cells.drop o).take (m.length*sz)=m.flatMap en:=fun m=>by
   induction m with
   | nil=>intro o _ _;simp
   | cons x m ih =>
    intro o ho hm;have h0:=f.out _ _ _ (hm 0 (by simp))
    simp only[zEd,yL,List.getElem_cons_zero]at h0;rw[List.length_cons,wC]at ho;have h5:=ih (o+sz) (by omega) fun i hi=>by
     have:=hm (i+1) (by simpa using hi)
     rw[wC,show o+(i*sz+sz)=o+sz+i*sz by omega]at this
     simpa using this
    rw[xZ,←h0,←h5,List.length_cons,wC,Nat.add_comm (m.length*sz),List.take_add,zDp]
  exact key l off h3 h4
theorem zHy {α:Type} {sz:Nat} {d:De α} {en:α→List AV} (f:Flat sz d en) {h:Heap} {a:AV} {l:List α} (e:rd (De.sl sz d) h a=some l):sls h a 0 (l.length*sz)∧slc h a 0 (l.length*sz)=l.flatMap en:=by
 rcases yGy f e with ⟨rfl,rfl|rfl⟩|⟨id,off,k,rfl,h2,h3,h4⟩
 ·simp[sls,slc]
 ·simp[sls,slc]
 ·simp only[sls,slc,h2,yQ,yL,true_and]
  exact⟨h3,h4⟩
def zI2 {α:Type} (f:Nat→Nat) (ll:List (List α)) (j:Nat):List AV:=(List.range j).map fun i=>.s (f i) 1 0 (ll.getD i []).length
theorem zMa {α:Type} (f:Nat→Nat) (ll:List (List α)) (j:Nat):(zI2 f ll j).length=j:=by simp[zI2]
structure OwnF {α:Type} (en:α→List AV) (sz:Nat) (h:Heap) (lo hi:Nat) (f:Nat→Nat) (ll:List (List α)) (j:Nat):Prop where
 rng:∀i,i<j→lo≤f i∧f i<hi
 blk:∀i,i<j→h (f i)=some ⟨(ll.getD i []).flatMap en,1,true,sz⟩
 inj:∀i k,i<j→k<j→f i=f k→i=k
def OwnL {α:Type} (en:α→List AV) (sz:Nat) (h:Heap) (lo hi:Nat) (z:AV) (ll:List (List α)) (j:Nat):Prop :=
 ∃f,OwnF en sz h lo hi f ll j∧((j=0∧z=.v (.slice none 0 0))∨∃w u,z=.s w u 0 j∧h w=some ⟨zI2 f ll j,u,true,1⟩∧lo≤w∧w<hi∧∀i,i<j→f i≠w)
theorem OwnF.congr {α:Type} {en:α→List AV} {sz:Nat} {h h':Heap} {lo hi hi':Nat} {f:Nat→Nat} {ll:List (List α)} {j:Nat} (o:OwnF en sz h lo hi f ll j) (hh:∀q,lo≤q→q<hi→h' q=h q) (hi2:hi≤hi'):OwnF en sz h' lo hi' f ll j :=
 ⟨fun i hi=>⟨(o.rng i hi).1,by have:=(o.rng i hi).2;omega⟩,fun i hi=>by rw[hh _ (o.rng i hi).1 (o.rng i hi).2];exact o.blk i hi,o.inj⟩
theorem OwnL.congr {α:Type} {en:α→List AV} {sz:Nat} {h h':Heap} {lo hi hi':Nat} {z:AV} {ll:List (List α)} {j:Nat} (o:OwnL en sz h lo hi z ll j) (hh:∀q,lo≤q→q<hi→h' q=h q) (hi2:hi≤hi'):OwnL en sz h' lo hi' z ll j:=by
 obtain⟨f,o1,o2⟩:=o;refine⟨f,o1.congr hh hi2,?_⟩;rcases o2 with h0|⟨w,u,h1,h2,h3,h4,h5⟩
 ·exact .inl h0
 ·exact .inr ⟨w,u,h1,by rw[hh _ h3 h4];exact h2,h3,by omega,h5⟩
theorem OwnL.lo {α:Type} {en:α→List AV} {sz:Nat} {h:Heap} {lo lo' hi:Nat} {z:AV} {ll:List (List α)} {j:Nat} (o:OwnL en sz h lo hi z ll j) (hl:lo'≤lo):OwnL en sz h lo' hi z ll j:=by
 obtain⟨f,o1,o2⟩:=o;refine⟨f,⟨fun i hi=>⟨by have:=(o1.rng i hi).1;omega,(o1.rng i hi).2⟩,o1.blk,o1.inj⟩,?_⟩
 rcases o2 with h0|⟨w,u,h1,h2,h3,h4,h5⟩
 ·exact .inl h0
 ·exact .inr ⟨w,u,h1,h2,by omega,h4,h5⟩
theorem OwnL.rd {α:Type} {d:De α} {en:α→List AV} {sz:Nat} (fl:Flat sz d en) {h:Heap} {lo hi:Nat} {z:AV} {ll:List (List α)} (o:OwnL en sz h lo hi z ll ll.length):rd (De.sl 1 (De.sl sz d)) h z=some ll:=by
 obtain⟨f,o1,o2⟩:=o;rcases o2 with ⟨h0,rfl⟩|⟨w,u,rfl,h2,h3,h4,h5⟩
 ·have:ll=[]:=zU h0
  subst this;rfl
 ·have e1:(⟨zI2 f ll ll.length,u,true,1⟩:Blk).ver=u:=rfl
  refine De.sl_in (k:=⟨zI2 f ll ll.length,u,true,1⟩) h2 (by simp only[zMa];omega) fun i hi => ?_
  have hc:(zI2 f ll ll.length)[i]? = some (.s (f i) 1 0 (ll.getD i []).length):=by simp[zI2,hi]
  have hlt:i<(zI2 f ll ll.length).length:=by rw[zMa];exact hi
  simp only[yQ,xM];rw[List.take_one,List.head?_drop,hc];have hg:ll.getD i []=ll[i]:=by simp[zB,hi]
  have hb:=o1.blk i hi;rw[hg]at hb;rw[hg];exact zB2 fl hb rfl (r:=[]) (by simp)
end Go.Proofs.YtbffkkeieihpdaaGreatDoor
namespace Go.Proofs.YtbffkkeieihpdaaGreatDoor
open Go Go.Eng Go.RowKit Go.ChangeShapes Go.WideShapes Go.Joins
theorem yIu {S:List Nat} {pf:FuncId→Option (List AV→Heap→PRes)} {W:World} {ρ:Ren} {h:Heap} {m:Nat} (hb:Blks ρ h W m) (hg:∀g∈S,zGd W g):RoRel (cx S pf) ρ h W :=
 ⟨(yLy (S:=S) (pf:=pf) hg).glob,hb.blk⟩
theorem zGe {H:Type} {P:Program} {ts us:List TypeId} {ds gs:List (DataW H)} (h:(DataW.weightsEach P (ts++us) (ds++gs)).all (·≤reachBytes)=true) {j:Nat} {t:TypeId} {d:DataW H} (ht:ts[j]? = some t) (hd:ds[j]? = some d):∀n∈d.weights P t,n≤reachBytes:=fun n hn=>by
 have h1:j<ts.length:=(yB.1 ht).1;have h2:j<ds.length:=(yB.1 hd).1;have:=zR.1 h n (zDz (i:=j) (by rw[zL h1];exact ht) (by rw[zL h2];exact hd) hn)
 simpa using this
theorem yHy (ρ:Ren):VRs ρ [] []:=by simp[VRs]
theorem zJ3 {ρ:Ren} {a:AV} {v:Value} {l:List AV} {vs:List Value} (h:VR ρ a v) (k:VRs ρ l vs):VRs ρ (a::l) (v::vs):=by simp only[VRs];exact⟨v,vs,rfl,h,k⟩
theorem zCc {α β:Type} {n:Nat} {d1:De α} {d2:De β} {e1:α→List AV} {e2:β→List AV} (h1:∀h l x,d1.run h l=some x→l=e1 x) (h2:∀h l x,d2.run h l=some x→l=e2 x):∀h l x,(De.pair n d1 d2).run h l=some x→l=e1 x.1++e2 x.2:=fun h l x e=>by
 simp only[De.pair]at e;split at e
 ·rename_i q1 q2
  cases e;rw[←h1 _ _ _ q1,←h2 _ _ _ q2,zAb]
 ·cases e
theorem zB4 (k:IntKind):∀(h:Heap) (l:List AV) (x:Int),(De.int k).run h l=some x→l=[.v (.int k x)]:=fun h l x e=>by
 simp only[De.int]at e;split at e
 ·split at e
  ·rename_i hk
   cases e;rw[hk]
  ·cases e
 ·cases e
theorem yJr:∀l:List Int,l.flatMap (fun x=>[ii x])=l.map ii
 | []=>rfl
 | a::l=>by rw[xZ,yJr l];rfl
theorem yCt {n:Nat}:∀(h:Heap) (l:List AV) (x:List Int),(De.arr n 1 (De.int .i64)).run h l=some x→l=x.map ii:=fun h l x e=>by
 simp only[De.arr]at e;split at e
 ·rename_i hl
  have hx:=(De.chunks_iff.1 e).1;subst hx;rw[zK7 (en:=fun x=>[ii x]) (zB4 .i64) x l e hl]
  exact yJr x
 ·cases e
theorem Opens.conv {α β:Type} {P:Program} {t:TypeId} {d:De α} {ok:α→Prop} {d':De β} {ok':β→Prop} (h0:Opens P t d ok) (hc:∀h l x,d.run h l=some x→ok x→∃y,d'.run h l=some y∧ok' y):Opens P t d' ok':=fun h hw ρ hh m hb=>by
 obtain⟨ρ',h',m',l,v,e1,e2,e3,e4,e5,e6,e7,e8⟩:=h0 h hw ρ hh m hb;obtain⟨y,y1,y2⟩:=hc h' l v e7 e8;exact⟨ρ',h',m',l,y,e1,e2,e3,e4,e5,e6,y1,y2⟩
theorem zKi:Opens Tryz.prog 3 (De.int .i64) fun n=>(Lit.int .i64 n).wf=true:=Opens.int Tryz.underlying3
theorem zJp:Opens Tryz.prog 2 (De.int .i64) fun n=>(Lit.int .i64 n).wf=true:=Opens.int Tryz.underlying2
theorem yFx:Opens Tryz.prog 57 (De.int .u64) fun n=>(Lit.int .u64 n).wf=true:=Opens.int Tryz.underlying57
theorem yA6:Opens Tryz.prog 60 dEv zHc:=by
 refine Opens.conv (Opens.struct Tryz.underlying60 (tot:=11) (by kernel_rfl) (OpensF.cons rfl (n:=1) (by kernel_rfl) (by decide) zJp (OpensF.cons rfl (n:=1) (by kernel_rfl) (by decide) yFx (OpensF.cons rfl (n:=1) (by kernel_rfl) (by decide) zKi (OpensF.one rfl (by kernel_rfl) (Opens.arr Tryz.underlying58 (sz:=1) (by kernel_rfl) (by kernel_rfl) zJp)))))) fun h l x e ok => ?_
 have hl:=zCc (zB4 .i64) (zCc (zB4 .u64) (zCc (zB4 .i64) yCt)) h l x e;obtain⟨ts,id,ty,at_⟩:=x;obtain⟨o1,o2,o3,o4,o5⟩:=ok
 match at_,o4,o5 with
 | [a0,a1,a2,a3,a4,a5,a6,a7],_,o5 =>
  exact⟨⟨ts,id,ty,a0,a1,a2,a3,a4,a5,a6,a7⟩,by rw[hl];rfl,zF0 o1,zF0 o3,zF0 (o5 a0 (by simp)),zF0 (o5 a1 (by simp)),zF0 (o5 a2 (by simp)),zF0 (o5 a3 (by simp)),zF0 (o5 a4 (by simp)),zF0 (o5 a5 (by simp)),zF0 (o5 a6 (by simp)),zF0 (o5 a7 (by simp))⟩
theorem yA8:Opens Tryz.prog 61 dEs fun l=>l.length*88≤reachBytes∧∀x∈l,zHc x:=Opens.sl Tryz.underlying61 (sz:=11) (by kernel_rfl) (by decide) (by kernel_rfl) yA6
theorem zDr {α β:Type} {n:Nat} {d1:De α} {d2:De β} {h:Heap} {l:List AV} {x:α×β} (e:(De.pair n d1 d2).run h l=some x):d1.run h (l.take n)=some x.1∧d2.run h (l.drop n)=some x.2:=by
 simp only[De.pair]at e;split at e
 ·rename_i q1 q2
  cases e;exact⟨q1,q2⟩
 ·cases e
theorem zLw {α:Type} {sz:Nat} {d:De α} {h:Heap} {l:List AV} {x:List α} (e:(De.sl sz d).run h l=some x):∃a,l=[a]:=by
 rcases De.sl_out e with ⟨_,h1|h1⟩|⟨id,off,k,h1,_⟩<;>exact⟨_,h1⟩
theorem zSn {α:Type} {H:Type} {enc:TypeId×Value→H} {W:World} {base b0:Nat} {sp:Nat→Bool} {held:Bool} {r:Reach} {v:Value} {x:DataW H} {p:List MemPlace} {t:TypeId} {fs:Array Field} {d:De α} {ok:α→Prop} (h0:Opens Tryz.prog t d ok) (ht:Tryz.prog.underlying t=some (.struct fs)) (hv:Value.okWide Tryz.prog W r b0 t v) (h:DataW.Trod enc Tryz.prog W base sp held t v x p) (hw:∀n∈x.weights Tryz.prog t,n≤reachBytes) (ρ:Ren) (hh:Heap) (m:Nat) (hb:Blks ρ hh W m) :
  ∃ρ' h' m' l y,ρ.le ρ'∧hh.le h'∧m≤m'∧Blks ρ' h' W m'∧VR ρ' (.g l) v∧d.run h' l=some y∧ok y:=by
 obtain⟨cs,rfl,hsz⟩:=okWide_struct ht hv;obtain⟨fuel,hf⟩:=h;obtain⟨ρ',h',m',l,y,e1,e2,e3,e4,e5,e6,e7,e8⟩:=h0 hf hw ρ hh m hb;exact⟨ρ',h',m',l,y,e1,e2,e3,e4,by simp only[VR];exact⟨cs.toList,by simp,e5⟩,e7,e8⟩
end Go.Proofs.YtbffkkeieihpdaaGreatDoor
namespace Go.Proofs.YtbffkkeieihpdaaGreatDoor
open Go Go.Eng Go.RowKit
def upB (b:UInt8):UInt8:=if 97≤b.toNat∧b.toNat≤122 then UInt8.ofNat (b.toNat-32)else b
def upS (s:ByteArray):ByteArray:=⟨(s.data.toList.map upB).toArray⟩
def upK (s:ByteArray) (k:Nat) (j:Nat):UInt8:=if j<k then upB (s.data.toList.getD j 0)else s.data.toList.getD j 0
structure UpR (s:ByteArray) (w:World) (k:Nat) (wr:World):Prop where
 cell:∀j,j<s.size→wr.cell? ⟨w.heap.size,j,none⟩=some (.int .u8 (upK s k j).toNat)
 frozen:∀j,j<s.size→wr.frozen? ⟨w.heap.size,j,none⟩=false
 below:Below w.heap.size w wr
theorem zWa (s:ByteArray) (w:World) (cap:Nat):UpR s w 0 (w.drew.alloc (.cells (bytesRow s cap) 5 ((bytesRow s cap).size,(bytesRow s cap).size+1))) where
 cell j hj:=by
  have h:=World.cell?_alloc_mark w.drew (bytesRow s cap) 5 ((bytesRow s cap).size,(bytesRow s cap).size+1) j;have hj':j<s.data.size:=hj;have e:w.drew.heap.size=w.heap.size:=rfl;rw[e]at h;rw[h,bytesRow_at s cap j hj'];simp only[upK,Nat.not_lt_zero,if_false];rw[zB,zA (by simpa using hj')]
  simp
 frozen j hj:=by
  have h:=World.frozen?_alloc_mark w.drew (bytesRow s cap) 5 ((bytesRow s cap).size) ((bytesRow s cap).size+1) j;have e:w.drew.heap.size=w.heap.size:=rfl;rw[e]at h;rw[h];have hj':j<s.data.size:=hj;have:s.data.size≤(bytesRow s cap).size:=by unfold bytesRow;simp
  simp;omega
 below:=(Below.refl _ w).drew.alloc (zC _) _
theorem zQp (s:ByteArray) (k:Nat):upK s k k=s.data.toList.getD k 0:=by simp[upK]
theorem zWb (s:ByteArray) (k j:Nat) (h:j≠k):upK s (k+1) j=upK s k j:=by
 unfold upK;by_cases h1:j<k
 ·rw[if_pos h1,if_pos (by omega)]
 ·rw[if_neg h1,if_neg (by omega)]
theorem zR0 {s:ByteArray} {w wr:World} {k:Nat} (h:UpR s w k wr) (hm:¬(97≤(upK s k k).toNat∧(upK s k k).toNat≤122)):UpR s w (k+1) wr where
 cell j hj:=by
  rw[h.cell j hj];by_cases e:j=k
  ·subst e
   rw[zQp]at hm;simp only[zQp];simp only[upK,Nat.lt_succ_self,if_true,upB,if_neg hm]
  ·rw[zWb s k j e]
 frozen:=h.frozen
 below:=h.below
theorem yEr {s:ByteArray} {w wr:World} {k:Nat} (hk:k<s.size) (h:UpR s w k wr) (h1:97≤(upK s k k).toNat) (h2:(upK s k k).toNat≤122):UpR s w (k+1) (wr.setCell ⟨w.heap.size,k,none⟩ (.int .u8 ((upK s k k).toNat-97+65))) where
 cell j hj:=by
  by_cases e:j=k
  ·subst e
   rw[World.cell?_setCell_same _ _ _ (h.cell j hj)];have:upK s (j+1) j=UInt8.ofNat ((upK s j j).toNat-32):=by
    simp only[upK,Nat.lt_succ_self,if_true,Nat.lt_irrefl,if_false,upB];rw[if_pos];simpa only[zQp]using And.intro h1 h2
   rw[this,UInt8.toNat_ofNat_of_lt' (by have:=(upK s j j).toNat_lt;have e:UInt8.size=256:=rfl;omega)]
   congr 2;omega
  ·rw[World.cell?_setCell_other _ _ _ _ (by intro h;simp only[Addr.mk.injEq]at h;omega),zWb s k j e]
   exact h.cell j hj
 frozen j hj:=(World.frozen?_setCell _ _ _ _).trans (h.frozen j hj)
 below:=h.below.setCell (zC _) _
theorem zUa (s:ByteArray) (w:World) (hs:s.size≤1000000) :
  Calls Tryz.prog 198 #[.string s] w fun e w'=>e=.returned (.string (upS s))∧Below w.heap.size w w':=by
 have hconv:=run_bytes_of_string (P:=Tryz.prog) w 9 135 5 s Tryz.underlying9 Tryz.underlying135 Tryz.underlying5;have hst:=zWa s w (grownCap w s.size 0 5);generalize grownCap w s.size 0 5=cap at hconv hst
 go_enter Tryz.func198,Tryz.ntmps198
 go_wp2
 go_loopw [10] (fun i wr=>∃k:Nat,k≤s.size∧i=.int .i64 k∧UpR s w k wr) (fun i _=>s.size-(intOf i).toNat)
 case atStart=>exact⟨0,zDg _,rfl,hst⟩
 case round =>
  obtain⟨k,hk,rfl,hR⟩:=hrel;by_cases hlt:k<s.size
  ·have hcell:=hR.cell k hlt
   have hfr:=hR.frozen k hlt
   go_wp2
   ·have h1:97≤(upK s k k).toNat:=by omega
    have h2:(upK s k k).toNat≤122:=by omega
    exact⟨⟨k+1,by omega,by simp,yEr hlt hR h1 h2⟩,by simp[intOf];omega⟩
   ·exact⟨⟨k+1,by omega,by simp,zR0 hR (by omega)⟩,by simp[intOf];omega⟩
   ·exact⟨⟨k+1,by omega,by simp,zR0 hR (by omega)⟩,by simp[intOf];omega⟩
  ·obtain rfl:k=s.size:=by omega
   have hback:=run_convert_bytes_back (P:=Tryz.prog) wr 135 9 5 ⟨w.heap.size,0,none⟩ cap (s.data.toList.map upB) Tryz.underlying135 Tryz.underlying5 Tryz.underlying9 (fun j hj=>by
    have hj':j<s.size:=by simpa using hj
    have:=hR.cell j hj';have ea:(⟨w.heap.size,0,none⟩:Addr).add j=⟨w.heap.size,j,none⟩:=by
     cases j with
     | zero=>rfl
     | succ j=>simp[Addr.add]
    rw[ea,this];simp only[upK,hj',if_true,wN];rw[zB,zA (by simpa using hj'),wM])
   have hl:(s.data.toList.map upB).length=s.size:=by simp
   rw[hl]at hback
   go_wp2
   go_ret
   exact⟨rfl,hR.below⟩
def zIa (c:Int):Bool:=decide (65≤c∧c≤90)||decide (97≤c∧c≤122)||decide (48≤c∧c≤57)||decide (c=95)
theorem zHd (c:Int) (w:World):Calls Tryz.prog 197 #[.int .i32 c] w fun e w'=>e=.returned (.bool (zIa c))∧w'=w:=by
 go_enter Tryz.func197,Tryz.ntmps197
 go_wp2
 all_goals
  go_ret
  refine⟨?_,rfl⟩;refine congrArg (fun b=>Ending.returned (Value.bool b)) (?_:(_:Bool)=zIa c)
  rw[Bool.eq_iff_iff];simp[zIa]
  try omega
def xJ (s:ByteArray):Bool:=decide (s.size≠0)&&decide (s.size≤16) && !(decide (48≤zCj s 0∧zCj s 0≤57))&&s.data.toList.all (fun b=>zIa b.toNat)&&kwords.all fun k=>upS s != k
theorem zIw (s:ByteArray) (j:Nat) (h:j<s.size):zCj s j=(s[j]'h).toNat:=by
 have hl:j<s.data.toList.length:=by simpa using h
 rw[zCj,zB,zA hl];simp;rfl
theorem yCy (s:ByteArray) (h:∀j,j<s.size→zIa (zCj s j)=true):(s.data.toList.all fun b=>zIa b.toNat)=true:=by
 rw[zR];intro b hb;obtain⟨j,hj,rfl⟩:=xF.1 hb;have:=h j (by simpa using hj)
 rw[zCj,zB,zA hj]at this
 simpa using this
theorem yBg (s:ByteArray) (j:Nat) (hj:j<s.size) (h:zIa (zCj s j)=false):(s.data.toList.all fun b=>zIa b.toNat)=false:=by
 rw[List.all_eq_false];have hl:j<s.data.toList.length:=by simpa using hj
 refine⟨_,zH hl,?_⟩;rw[zCj,zB,zA hl]at h;simpa using h
theorem zOc (c:Int) (h:128≤c):zIa c=false:=by
 simp[zIa];omega
noncomputable def tail138:Code:=tlC 4 (Tryz.f149.body.getD .skip)
def zUw (u:ByteArray) (n:Nat):Bool:=(kwords.take n).all fun k=>u != k
theorem zXt (u:ByteArray) (j:Nat) (hj:j<27):zUw u (j+1)=(zUw u j&&(u != kwords.getD j ByteArray.empty)):=by
 have hj':j<kwords.length:=hj;unfold zUw;rw[zEo,zA hj',List.all_append,zB,zA hj'];simp
theorem yBj (u:ByteArray) (j:Nat) (hj:j<27) (hk:(u != kwords.getD j ByteArray.empty)=false):zUw u 27=false:=by
 have hl:j<kwords.length:=hj;unfold zUw;rw[List.all_eq_false];refine⟨kwords[j],?_,?_⟩
 ·show kwords[j]∈kwords
  exact zH hl
 ·rw[zB,zA hl,wM]at hk
  simp[hk]
theorem yBk (u:ByteArray):zUw u 27=kwords.all fun k=>u != k:=rfl
theorem yAk (u:ByteArray) (e:Nat→AV) (he:e 5=.v (.string u)) (h:Heap) (n:Nat):awp (cx [3] (pfL [])) tail138 (fun x s=>x=.ret∧s.e 2=bv (zUw u 27)) ⟨e,h,n⟩:=by
 simp[evv,tail138,tlC,Tryz.f149];refine⟨by decide,?_⟩
 refine yN (fun s=>∃j:Nat,j≤27∧s.e 5=.v (.string u)∧s.e 35=AV.g (kwords.map fun k=>AV.v (Value.string k))∧s.e 36=ii j∧zUw u j=true) (fun s=>27-(s.e 36).i.toNat) ⟨0,by omega,by simp[up,he],rfl,by simp[up,ii],by simp[zUw]⟩ ?_
 intro e h n;rintro⟨j,hj,q5,q35,q36,hno⟩;simp only[]at q5 q35 q36;by_cases hlt:j<27
 ·have hl:j<kwords.length:=hlt
  have hw:=yK (j:=j) (by unfold big;omega)
  have hke:kwords.getD j ByteArray.empty=kwords[j]:=by rw[zB,zA hl];rfl
  have hg:(kwords.map fun k=>AV.v (Value.string k))[j]? = some (AV.v (Value.string (kwords.getD j ByteArray.empty))):=by
   rw[xG,zA hl,zB,zA hl];rfl
  have hlt':(j:Int)<27:=by omega
  rw[hke]at hg;by_cases hk:(u==kwords[j])=true
  ·have hf:zUw u 27=false:=yBj u j hlt (by rw[hke,bne,hk];rfl)
   simp[evv,q5,q35,q36,ii,hlt',hl,hk,hf,bv]
  ·rw[Bool.not_eq_true]at hk
   have hs:=zXt u j hlt;rw[hno,hke,bne,hk]at hs;simp[evv,q5,q35,q36,ii,hlt',hl,hk,bv,hw];exact⟨⟨j+1,by omega,rfl,hs⟩,by omega⟩
 ·obtain rfl:j=27:=by omega
  simp[evv,q36,ii,hno,bv]
def KwAt (w:World):Prop:=∃arr el fr,w.heap[3]? = some (.cells arr el fr)∧arr.toList=kwords.map Value.string
theorem KwAt.below {w w':World} (h:KwAt w) (hb:Below w.heap.size w w'):KwAt w':=by
 obtain⟨arr,el,fr,h1,h2⟩:=h;refine⟨arr,el,fr,?_,h2⟩;rw[hb.block _ ?_]
 ·exact h1
 ·apply Classical.byContradiction
  intro hlt;rw[wK (by omega)]at h1;cases h1
theorem yE1 (u:ByteArray) (w:World) (hk:KwAt w) (a:Act) (hsz:a.tmps.size=43) (hd:a.defers=[]) (h5:a.tmps.getD 5 undef=.string u) (Qc:Exit→Act→World→Prop)
  (hQ:∀a' w',a'.defers=[]→a'.tmps.getD 2 undef=.bool (zUw u 27)→Below w.heap.size w w'→Qc .ret a' w'):tail138.wp Tryz.prog Qc a w:=by
 have r:RoRel (cx [3] (pfL [])) (fun _ _=>none) (fun _=>none) w:=by
  refine⟨fun g cs hg => ?_,fun _ _ h=>by cases h⟩
  simp only[zZx,globS]at hg;split at hg
  ·rename_i hm
   simp only[yD,yA,or_false]at hm;subst hm;simp only[glob,Option.some.injEq]at hg;subst hg;exact hk
  ·cases hg
 have r2:=r.rel (m:=0) fun j _=>⟨fun _=>rfl,rfl⟩
 refine zCm (X:=cx [3] (pfL [])) (K:=(· < w.heap.size)) (w0:=w) (sz:=43) (ρ:=fun _ _=>none) (zAr yJ) (zB3 _ _) tail138 (by kernel_rfl) (fun x s=>x=.ret∧s.e 2=bv (zUw u 27)) Qc (fun x s a' w' ρ' _ hq hr he => ?_) ⟨fun t=>if t=5 then .v (.string u)else .any,_,0⟩ a w _ (yAk u _ (by simp) _ _) (Ren.le_refl _) r2 ⟨hsz,hd,fun t ht => ?_⟩
 ·obtain⟨rfl,h2⟩:=hq
  refine hQ a' w' he.2.1 ?_ hr.gone;have:=he.2.2 2 (by omega)
  rw[h2]at this
  simpa[bv,VR]using this
 ·by_cases e:t=5
  ·subst e
   simp[VR,h5]
  ·simp[e,VR]
theorem zQ5 (s:ByteArray) (w:World) (hk:KwAt w) :
  Calls Tryz.prog 149 #[.string s] w fun e w'=>e=.returned (.bool (xJ s))∧Below w.heap.size w w':=by
 by_cases h1:s.size=0
 ·have hE:s.toList.isEmpty=true:=by
   rw[ByteArray.toList_eq,List.isEmpty_iff,←zX];simpa using h1
  go_enter Tryz.func149,Tryz.ntmps149
  go_wp2
  go_ret
  exact⟨by simp[xJ,h1],Below.refl _ _⟩
 have hE:s.toList.isEmpty=false:=by
  rw[ByteArray.toList_eq,List.isEmpty_eq_false_iff];intro e;apply h1;have:s.data.toList.length=0:=by rw[e];rfl
  simpa using this
 by_cases h2:16<(s.size:Int)
 ·go_enter Tryz.func149,Tryz.ntmps149
  go_wp2
  go_ret
  have:¬s.size≤16:=by omega
  exact⟨by simp[xJ,this],Below.refl _ _⟩
 have h0:0<s.size:=by omega
 have hb0:s[0]? = some (s[0]'h0):=by simp[h0]
 have hb1:=zIw s 0 h0;have h2':s.size≤16:=by omega
 by_cases h3:(48:Int)≤(s[0]'h0).toNat∧((s[0]'h0).toNat:Int)≤57
 ·obtain⟨h3,h4⟩:=h3
  go_enter Tryz.func149,Tryz.ntmps149
  go_wp2
  go_ret
  have e:decide (48≤zCj s 0∧zCj s 0≤57)=true:=by rw[hb1];simp;omega
  exact⟨by simp only[xJ,e];simp,Below.refl _ _⟩
 have hd:decide (48≤zCj s 0∧zCj s 0≤57)=false:=by rw[hb1];simp;omega
 have hsp:((s[0]'h0).toNat:Int)<48∨(48:Int)≤(s[0]'h0).toNat∧(57:Int)<(s[0]'h0).toNat:=by omega
 go_enter Tryz.func149,Tryz.ntmps149
 rcases hsp with h5|⟨h5,h6⟩
 all_goals
  go_wp2_with (go_at_call 197;refine (zHd _ _).mono ?_;rintro e w' ⟨rfl,rfl⟩)
  go_loopw [4] (fun _ wr=>∃pos:Nat,wr=w.iter s pos∧∀j,j<pos→j<s.size→zIa (zCj s j)=true) (fun _ wr=>s.size-wr.iterPos w.heap.size)
  case atStart=>exact⟨0,rfl,fun j hj=>by omega⟩
  case round =>
   obtain⟨pos,rfl,hw⟩:=hrel;by_cases hp:pos<s.size
   ·have hnx:∀ty,(Instr.next (.pointer (some ⟨w.heap.size,0,none⟩)) true ty).run Tryz.prog (w.iter s pos)=_:=fun ty=>run_next_any w s pos ty hp
    by_cases hword:zIa ((Utf8.decode s pos).1:Int)=true
    ·go_wp2_with (go_at_call 197;refine (zHd _ _).mono ?_;rintro e w' ⟨rfl,rfl⟩)
     have hdec:zCj s pos<128∧Utf8.decode s pos=(zCj s pos,1):=by
      rw[zIw s pos hp];by_cases ha:(s[pos]'hp).toNat<128
      ·exact⟨ha,decode_ascii s pos hp ha⟩
      ·have:=(decode_high s pos hp (by omega)).1
       rw[zOc _ (by omega)]at hword
       cases hword
     refine⟨⟨pos+1,by rw[hdec.2],fun j hj hjs => ?_⟩,?_⟩
     ·by_cases e:j=pos
      ·subst e
       rw[hdec.2]at hword;exact hword
      ·exact hw j (by omega) hjs
     ·simp[hdec.2];omega
    ·have hnw:zIa (zCj s pos)=false:=by
      rw[zIw s pos hp];by_cases ha:(s[pos]'hp).toNat<128
      ·rw[decode_ascii s pos hp ha]at hword
       simpa using hword
      ·exact zOc _ (by omega)
     go_wp2_with (go_at_call 197;refine (zHd _ _).mono ?_;rintro e w' ⟨rfl,rfl⟩)
     go_ret
     exact⟨by simp[xJ,yBg s pos hp hnw],(Below.refl _ w).alloc (zC _) _⟩
   ·have hnx:∀ty,(Instr.next (.pointer (some ⟨w.heap.size,0,none⟩)) true ty).run Tryz.prog (w.iter s pos)=_:=fun ty=>run_next_end w s pos ty hp
    have hall:=yCy s fun j hj=>hw j (by omega) hj
    have hb0:Below w.heap.size w (w.iter s pos):=(Below.refl _ w).alloc (zC _) _;generalize w.iter s pos=w1 at hnx hb0
    go_wp2_with (first
     | (go_at_call 197;refine (zHd _ _).mono ?_;rintro e w' ⟨rfl,rfl⟩)
     | (go_at_call 198;refine (zUa s _ (by omega)).mono ?_))
    rintro e w2 ⟨rfl,hb⟩;have hb1:Below w.heap.size w w2:=hb0.trans (hb.mono hb0.size);rename_i K3 a3 K2 a2 K a;show K _ w2;have HA:Hid (∀(a:Act) (w:World),Code.wp Tryz.prog _ _ a w→K2 a w):=a2;clear a2 a3 hnx;apply a;clear a
    go_wp2
    refine HA _ _ ?_;refine yE1 (upS s) w2 (hk.below hb1) _ rfl rfl rfl _ fun a' w' hd' hr' hb' => ?_
    refine bodyPost_ret (v:=.bool (xJ s)) ?_ hd' ⟨rfl,hb1.trans (hb'.mono hb1.size)⟩;have e:xJ s=zUw (upS s) 27:=by
     simp only[xJ,hd,hall,yBk];simp[h1,h2']
    rw[e,←hr'];exact results_tmp rfl _ _ _
end Go.Proofs.YtbffkkeieihpdaaGreatDoor
namespace Go.Proofs.YtbffkkeieihpdaaGreatDoor
open Go Go.Eng
def deS:AV→Option ByteArray
 | .v (.string s)=>some s
 | _=>none
def ss (s:ByteArray):AV:=.v (.string s)
theorem zRe {x:AV} {a:ByteArray} (h:deS x=some a):x=ss a:=by
 unfold deS at h;split at h
 ·cases h;rfl
 ·cases h
def zGm:=yV deS fun s=>bv (xJ s)
theorem yKk:P0 [3] 149 zGm:=by
 refine⟨fun args h h' hh hs => ?_,.inl ⟨xK Tryz.func149 rfl rfl _ _,fun ρ h w args vs r _ ha hs => ?_⟩⟩
 ·have:=zW6 deS (fun s=>bv (xJ s)) args h h'
  refine⟨?_,?_⟩
  ·show (yV _ _ args h').side
   rw[←this];exact hs
  ·show (yV _ _ args h').val=(yV _ _ args h).val
   rw[this]
 ·obtain⟨x,s,rfl,hx,hv⟩:=zO7 hs
  obtain rfl:=zRe hx;simp only[VRs,VR,ss]at ha;obtain⟨y,rest,rfl,rfl,rfl⟩:=ha;have hk:KwAt w:=r.glob 3 _ (by simp[zZx,globS,glob])
  refine (zQ5 s w hk).mono fun e w' ⟨he,hb⟩=>⟨_,he,?_,hb⟩
  rw[show (zGm [ss s] h).val=bv (xJ s) from hv]
  simp[VR,bv]
theorem zD6 (a b:ByteArray):((a==b)=true)=(a=b):=by
 refine propext ⟨fun h => ?_,fun h => ?_⟩
 ·obtain⟨x⟩:=a
  obtain⟨y⟩:=b;have:(x==y)=true:=h;rw[eq_of_beq this]
 ·subst h
  obtain⟨x⟩:=a;show (x==x)=true;exact beq_self_eq_true x
def zBg (o:Int):Int:=if 1≤o∧o≤11 then 0 else if o=12∨o=13 then 1 else if 14≤o∧o≤26 then 2 else -1
def wX (o:Int):Bool:=decide (o=2∨o=3∨o=13∨o=25∨o=26∨(19≤o∧o≤24))
def zPl (o:Int):Bool:=decide (4≤o∧o≤11)
def zOa:=yV deI fun o=>ii (zBg o)
def g92:=yV deI fun o=>bv (wX o)
theorem yOx:P0 [] 139 zOa:=by
 refine mk1 (S:=[]) yJ Tryz.func139 rfl (by kernel_rfl) ii (fun x a h=>zBu h) (fun a=>rfl) (fun o h n => ?_)
 simp[evv,ii,zBg]
 try grind
theorem p92:P0 [] 163 g92:=by
 refine mk1 (S:=[]) yJ Tryz.func163 rfl (by kernel_rfl) ii (fun x a h=>zBu h) (fun a=>rfl) (fun o h n => ?_)
 have hc:o=2∨o=3∨o=13∨o=25∨o=26∨o=19∨o=20∨o=21∨o=22∨o=23∨o=24∨wX o=false∧o≠2∧o≠3∧o≠13∧o≠25∧o≠26∧o≠19∧o≠20∧o≠21∧o≠22∧o≠23∧o≠24:=by
  simp only[wX,decide_eq_false_iff_not];omega
 rcases hc with rfl|rfl|rfl|rfl|rfl|rfl|rfl|rfl|rfl|rfl|rfl|⟨ht,h1,h2,h3,h4,h5,h6,h7,h8,h9,h10,h11⟩
 all_goals first|(simp[evv,ii,bv,wX];done)|simp[evv,ii,bv,ht,h1,h2,h3,h4,h5,h6,h7,h8,h9,h10,h11]
structure Nd where
 op:Int
 n:Int
 var:ByteArray
 attr:ByteArray
 a:Int
 b:Int
def yC (x:Nd):List AV:=[ii x.op,ii x.n,ss x.var,ss x.attr,ii x.a,ii x.b]
def yCg:List AV→Option Nd
 | [.v (.int .i64 op),.v (.int .i64 n),.v (.string var),.v (.string attr),.v (.int .i64 a),.v (.int .i64 b)]=>some ⟨op,n,var,attr,a,b⟩
 | _=>none
theorem zNn {l:List AV} {x:Nd} (h:yCg l=some x):l=yC x:=by
 unfold yCg at h;split at h
 ·cases h;rfl
 ·cases h
def deN:AV→Option Nd
 | .g l=>yCg l
 | _=>none
def nn (x:Nd):AV:=.g (yC x)
theorem zY0 {x:AV} {e:Nd} (h:deN x=some e):x=nn e:=by
 unfold deN at h;split at h
 ·rw[zNn h];rfl
 ·cases h
def emB (s:ByteArray):Bool:=s==ByteArray.empty
def zIx (x:Nd):Bool:=decide (x.n=0)&&emB x.var&&emB x.attr
def zGx (x:Nd):Bool:=decide (x.a=-1)&&decide (x.b=-1) &&
 (if x.op = 1 then decide (0 ≤ x.n) && emB x.var && emB x.attr
  else if x.op=2∨x.op=3 then zIx x
  else if x.op=5 then decide (x.n=0)&&xJ x.var&&emB x.attr
  else if 4≤x.op∧x.op≤11 then decide (x.n=0)&&xJ x.var&&xJ x.attr else false)
def zA3 (x:Nd):Bool :=
 (if x.op=1 then decide (0≤x.n)else decide (x.n=0)) &&
 (if 4≤x.op∧x.op≤11 then xJ x.var else emB x.var) &&
 (if 4≤x.op∧x.op≤11∧x.op≠5 then xJ x.attr else emB x.attr)
def zN9:=yV deN fun x=>bv (zA3 x)
def zUh:List (FuncId×(List AV→Heap→PRes)):=[(149,zGm)]
theorem yOw:P0 [3] 140 zN9:=by
 refine mk1 (S:=[3]) (l:=zUh) (zS yKk yJ) Tryz.func140 rfl (by kernel_rfl) nn (fun x a h=>zY0 h) (fun a=>rfl) (fun x h n => ?_)
 obtain⟨op,num,var,attr,a,b⟩:=x;have h0:ByteArray.mk #[]=ByteArray.empty:=rfl;have hne:∀z:ByteArray,(z != ByteArray.empty) = !(z==ByteArray.empty):=fun _=>rfl
 by_cases ho:op=1
 ·subst ho
  simp[evv,nn,yC,ii,ss,bv,zUh,zGm,yV,deS,zA3,emB,h0,hne];cases (var==ByteArray.empty)<;>cases (attr==ByteArray.empty)<;>simp
  all_goals omega
 by_cases h5:op=5
 ·subst h5
  simp[evv,nn,yC,ii,ss,bv,zUh,zGm,yV,deS,zA3,emB,h0,hne];cases xJ var<;>cases (attr==ByteArray.empty)<;>simp
 by_cases hm:4≤op∧op≤11
 ·have hm1:=hm.1
  have hm2:=hm.2;have h6:(op != 5)=true:=by simpa using h5
  simp[evv,nn,yC,ii,ss,bv,zUh,zGm,yV,deS,zA3,h0,hne,ho,h5,hm1,hm2,h6];cases xJ var<;>cases xJ attr<;>simp
 ·by_cases hlo:4≤op
  ·have hhi:¬op≤11:=fun h=>hm ⟨hlo,h⟩
   simp[evv,nn,yC,ii,ss,bv,zUh,zGm,yV,deS,zA3,emB,h0,hne,ho,h5,hlo,hhi];cases (var==ByteArray.empty)<;>cases (attr==ByteArray.empty)<;>simp
  ·simp[evv,nn,yC,ii,ss,bv,zUh,zGm,yV,deS,zA3,emB,h0,hne,ho,h5,hlo]
   cases (var==ByteArray.empty)<;>cases (attr==ByteArray.empty)<;>simp
end Go.Proofs.YtbffkkeieihpdaaGreatDoor
