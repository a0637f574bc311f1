import Derived.Test.YtbffkkeieihpdaaGreatDoorX11
import Derived.Test.YtbffkkeieihpdaaGreatDoorX08
set_option linter.unusedSimpArgs false
set_option linter.unusedVariables false
set_option linter.constructorNameAsVariable false
set_option maxRecDepth 100000
set_option maxHeartbeats 4000000
namespace Go.Proofs.YtbffkkeieihpdaaGreatDoor
open Go Go.Eng
theorem zHf (n:Int):Rng (zSo n).n:=by
 unfold zSo Rng;split
 ·assumption
 ·simp
theorem zVw (b:Bool):Rng (zGc b).n:=by cases b<;>simp[zGc,Rng]
def zJk (col:List Int) (e:Ev):Option Int:=if e.ty<0 then none else col[e.ty.toNat]?
def zHw (l:List Ev) (i:Int) (col:List Int):V:=if i<0 then unk else match l[i.toNat]? with
 | none=>unk
 | some e=>match zJk col e with
  | none=>unk
  | some p=>zEl e p
def evV (col:List Int) (e:Ev):V:=match zJk col e with
 | none=>unk
 | some p=>zEl e p
theorem yH7 {l:List Ev} {j:Nat} (h:j<l.length) (col:List Int):zHw l (j:Int) col=evV col l[j]:=by
 unfold zHw evV;rw[if_neg (by omega)]
 simp only[zV,zA h]
def zGg (e:Ev):Prop:=Rng e.ts∧Rng e.ty∧Rng e.a0∧Rng e.a1∧Rng e.a2∧Rng e.a3∧Rng e.a4∧Rng e.a5∧Rng e.a6∧Rng e.a7
theorem yEz {e:Ev} (h:zGg e):∀j,Rng (e.attr j):=by
 obtain⟨_,_,h0,h1,h2,h3,h4,h5,h6,h7⟩:=h;intro j;unfold Ev.attr;split<;>assumption
theorem zVt {e:Ev} (h:zGg e) (p:Int):Rng (zEl e p).n:=by
 unfold zEl;split
 ·exact h.1
 ·split
  ·exact yEz h _
  ·simp[unk,Rng]
theorem zLf:Rng unk.n:=by simp[unk,Rng]
theorem zOd {l:List Ev} (h:∀e∈l,zGg e) (i:Int) (col:List Int):Rng (zHw l i col).n:=by
 unfold zHw;split
 ·exact zLf
 ·split
  ·exact zLf
  ·rename_i e he
   split
   ·exact zLf
   ·exact zVt (h e (wJ he)) _
theorem zVs {e:Ev} {p:Int} (h:(zEl e p).k=false):zEl e p=unk:=by
 unfold zEl at h ⊢;split
 ·rename_i hc;rw[if_pos hc]at h;cases h
 ·rename_i hc
  rw[if_neg hc]at h;split
  ·rename_i hd;rw[if_pos hd]at h;cases h
  ·rfl
theorem zT7 {l:List Ev} {i:Int} {col:List Int} (h:(zHw l i col).k=false):zHw l i col=unk:=by
 unfold zHw at h ⊢;split
 ·rfl
 ·rename_i hc
  rw[if_neg hc]at h;split
  ·rfl
  ·rename_i e he
   simp only[he]at h;split
   ·rfl
   ·rename_i p hp
    simp only[hp]at h;exact zVs h
def zJa (l:List Ev) (col:List Int) (j:Nat):List Int:=(List.range j).map fun i:Nat=>(zHw l (i:Int) col).n
theorem yBa (l:List Ev) (col:List Int) (j:Nat):zJa l col (j+1)=zJa l col j++[(zHw l (j:Int) col).n]:=by simp[zJa,zCr]
theorem zK6 (l:List Ev) (col:List Int) (j:Nat):(zJa l col j).length=j:=by simp[zJa]
theorem yEt {l:List Ev} (h:∀e∈l,zGg e) (col:List Int) (j:Nat):All (zJa l col j):=fun x hx=>by
 simp only[zJa,xF]at hx;obtain⟨i,_,rfl⟩:=hx;exact zOd h _ _
def zDk (l:List Ev) (col:List Int) (j:Nat):Bool:=(List.range j).all fun i:Nat=>(zHw l (i:Int) col).k
theorem zE2 (l:List Ev) (col:List Int) (j:Nat):zDk l col (j+1)=(zDk l col j&&(zHw l (j:Int) col).k):=by simp[zDk,zCr]
theorem zWj {l:List Ev} {col:List Int} {j m:Nat} (hj:j≤m) (h:zDk l col m=true):zDk l col j=true:=by
 simp only[zDk,zJ,xQ]at h ⊢;exact fun i hi=>h i (by omega)
def yBm (l:List Ev) (col:List Int) (op:Int):V:=if zDk l col l.length=true then zG0 zYd op (zJa l col l.length)else unk
structure Ins where
 code:Int
 item:Int
 col:Int
 n:Int
 to:Int
deriving DecidableEq
def zBq (i:Ins):List AV:=[ii i.code,ii i.item,ii i.col,ii i.n,ii i.to]
def yMr (i:Ins):Prop:=Rng i.code∧Rng i.item∧Rng i.col∧Rng i.n∧Rng i.to
structure Pr where
 code:List Ins
 cols:List (List Int)
deriving DecidableEq
structure En where
 ls:List (List Ev)
 each:Int
 pos:Int
deriving DecidableEq
def zAm (ls:List (List Ev)) (i:Int):List Ev:=if i<0 then []else ls.getD i.toNat []
def wG (i:Ins) (col:List Int) (e:En):V :=
 if i.code=4 then wE (zAm e.ls i.item).length
 else if i.code=3 then (if (i.item=e.each∧0≤i.item)∧1≤e.pos then zHw (zAm e.ls i.item) (e.pos-1) col else unk)
 else if i.code=2 then (if i.item=e.each∧0≤i.item then zHw (zAm e.ls i.item) e.pos col else zHw (zAm e.ls i.item) 0 col)
 else yBm (zAm e.ls i.item) col (i.code+1)
def zBu (p:Pr) (e:En) (i:Ins) (pos:Nat) (st:List V):Option (Nat×List V) :=
 if zAx i.code<0∨(st.length:Int)<zAx i.code then none
 else if i.code=1 then some (pos+1,st++[wE i.n])
 else if i.code=4 then some (pos+1,st++[wG i [] e])
 else if i.code≤9 then (if i.col<0 then none else match p.cols[i.col.toNat]? with
  | none=>none
  | some c=>some (pos+1,st++[wG i c e]))
 else if i.code=10 then some (pos+1,st.dropLast++[zZp (st.getLastD unk)])
 else if i.code=11 then some (pos+1,st.dropLast++[yDm (st.getLastD unk)])
 else if 25≤i.code then (if i.to≤pos∨i.to > p.code.length then none
  else if (st.getLastD unk).k=true∧((st.getLastD unk).n≠0↔i.code=26)then some (i.to.toNat,st)else some (pos+1,st))
 else some (pos+1,st.dropLast.dropLast++[zCy (i.code+2) (st.dropLast.getLastD unk) (st.getLastD unk)])
def bad:V×Int:=(unk,70)
def yJb (st:List V):V×Int:=match st with
 | [v]=>(v,0)
 | _=>bad
def yBv (p:Pr) (e:En):Nat→Nat→List V→V×Int
 | 0,_,st=>yJb st
 | k+1,pos,st=>match p.code[pos]? with
  | none=>yJb st
  | some i=>match zBu p e i pos st with
   | none=>bad
   | some q=>yBv p e k q.1 q.2
def zTu (p:Pr) (e:En):V×Int:=yBv p e p.code.length 0 []
def zBe (p:Pr) (e:En):Bool:=(zTu p e).2==0&&zJ8 (zTu p e).1
theorem zR9 {p:Pr} {e:En} {i:Ins} {pos:Nat} {st:List V} {q:Nat×List V} (hp:pos<p.code.length) (h:zBu p e i pos st=some q):pos<q.1∧q.1≤p.code.length∧q.2.length≤st.length+1:=by
 unfold zBu at h;have hd:st.dropLast.length≤st.length:=by simp
 have hd2:st.dropLast.dropLast.length≤st.length:=by simp;omega
 repeat' split at h
 all_goals first|(cases h;done)|(simp only[Option.some.injEq]at h;subst h;simp only[zR,List.length_cons,zAi];omega)
section
variable {p:Pr} {e:En} {i:Ins} {pos:Nat} {st:List V} (hr:¬(zAx i.code<0∨(st.length:Int)<zAx i.code))
include hr
theorem zIk (h:i.code=1):zBu p e i pos st=some (pos+1,st++[wE i.n]):=by
 simp only[zBu,if_neg hr,if_pos h]
theorem zM1 (h:i.code=4):zBu p e i pos st=some (pos+1,st++[wG i [] e]):=by
 simp only[zBu,if_neg hr,if_neg (show ¬i.code=1 by omega),if_pos h]
theorem zYg (h:2≤i.code∧i.code≤9∧i.code≠4) (hc:i.col<0):zBu p e i pos st=none:=by
 simp only[zBu,if_neg hr,if_neg (show ¬i.code=1 by omega),if_neg h.2.2,if_pos h.2.1,if_pos hc]
theorem zYh (h:2≤i.code∧i.code≤9∧i.code≠4) (hc:(p.cols.length:Int)≤i.col):zBu p e i pos st=none:=by
 have:p.cols[i.col.toNat]? = none:=zL (by omega)
 simp only[zBu,if_neg hr,if_neg (show ¬i.code=1 by omega),if_neg h.2.2,if_pos h.2.1,if_neg (show ¬i.col<0 by omega),this]
theorem zKm (h:2≤i.code∧i.code≤9∧i.code≠4) {c:List Int} (h0:¬i.col<0) (hc:p.cols[i.col.toNat]? = some c):zBu p e i pos st=some (pos+1,st++[wG i c e]):=by
 simp only[zBu,if_neg hr,if_neg (show ¬i.code=1 by omega),if_neg h.2.2,if_pos h.2.1,if_neg h0,hc]
theorem zTr (h:i.code=10):zBu p e i pos st=some (pos+1,st.dropLast++[zZp (st.getLastD unk)]):=by
 simp only[zBu,if_neg hr,if_neg (show ¬i.code=1 by omega),if_neg (show ¬i.code=4 by omega),if_neg (show ¬i.code≤9 by omega),if_pos h]
theorem zTq (h:i.code=11):zBu p e i pos st=some (pos+1,st.dropLast++[yDm (st.getLastD unk)]):=by
 simp only[zBu,if_neg hr,if_neg (show ¬i.code=1 by omega),if_neg (show ¬i.code=4 by omega),if_neg (show ¬i.code≤9 by omega),if_neg (show ¬i.code=10 by omega),if_pos h]
theorem zQa (h:25≤i.code) (ht:i.to≤pos∨i.to > p.code.length):zBu p e i pos st=none:=by
 simp only[zBu,if_neg hr,if_neg (show ¬i.code=1 by omega),if_neg (show ¬i.code=4 by omega),if_neg (show ¬i.code≤9 by omega),if_neg (show ¬i.code=10 by omega),if_neg (show ¬i.code=11 by omega),if_pos h,if_pos ht]
theorem zP9 (h:25≤i.code) (ht:¬(i.to≤pos∨i.to > p.code.length)) (hj:(st.getLastD unk).k=true∧((st.getLastD unk).n≠0↔i.code=26)):zBu p e i pos st=some (i.to.toNat,st):=by
 simp only[zBu,if_neg hr,if_neg (show ¬i.code=1 by omega),if_neg (show ¬i.code=4 by omega),if_neg (show ¬i.code≤9 by omega),if_neg (show ¬i.code=10 by omega),if_neg (show ¬i.code=11 by omega),if_pos h,if_neg ht,if_pos hj]
theorem zP8 (h:25≤i.code) (ht:¬(i.to≤pos∨i.to > p.code.length)) (hj:¬((st.getLastD unk).k=true∧((st.getLastD unk).n≠0↔i.code=26))):zBu p e i pos st=some (pos+1,st):=by
 simp only[zBu,if_neg hr,if_neg (show ¬i.code=1 by omega),if_neg (show ¬i.code=4 by omega),if_neg (show ¬i.code≤9 by omega),if_neg (show ¬i.code=10 by omega),if_neg (show ¬i.code=11 by omega),if_pos h,if_neg ht,if_neg hj]
theorem zTp (h:12≤i.code∧i.code<25):zBu p e i pos st=some (pos+1,st.dropLast.dropLast++[zCy (i.code+2) (st.dropLast.getLastD unk) (st.getLastD unk)]):=by
 simp only[zBu,if_neg hr,if_neg (show ¬i.code=1 by omega),if_neg (show ¬i.code=4 by omega),if_neg (show ¬i.code≤9 by omega),if_neg (show ¬i.code=10 by omega),if_neg (show ¬i.code=11 by omega),if_neg (show ¬25≤i.code by omega)]
end
theorem zNk (p:Pr) (e:En):∀(k m pos:Nat) (st:List V),p.code.length-pos≤k→p.code.length-pos≤m→yBv p e k pos st=yBv p e m pos st
 | 0,0,_,_,_,_=>rfl
 | 0,m+1,pos,st,h,_=>by
  have:p.code[pos]? = none:=zL (by omega)
  simp only[yBv,this]
 | k+1,0,pos,st,_,h=>by
  have:p.code[pos]? = none:=zL (by omega)
  simp only[yBv,this]
 | k+1,m+1,pos,st,h1,h2=>by
  simp only[yBv];split
  ·rfl
  ·rename_i i hi
   split
   ·rfl
   ·rename_i q hq
    have hp:pos<p.code.length:=(zY.1 hi).1;have:=zR9 hp hq;exact zNk p e k m q.1 q.2 (by omega) (by omega)
def zIt (p:Pr) (e:En) (pos:Nat) (st:List V):V×Int:=yBv p e (p.code.length-pos) pos st
theorem yAh {p:Pr} {e:En} {pos:Nat} {st:List V} (h:pos<p.code.length) (hs:zBu p e p.code[pos] pos st=none):zIt p e pos st=bad:=by
 unfold zIt;obtain⟨k,hk⟩:∃k,p.code.length-pos=k+1:=⟨p.code.length-pos-1,by omega⟩
 rw[hk];simp only[yBv,zA h,hs]
theorem zFu {p:Pr} {e:En} {pos:Nat} {st:List V} {q:Nat×List V} (h:pos<p.code.length) (hs:zBu p e p.code[pos] pos st=some q):zIt p e pos st=zIt p e q.1 q.2:=by
 unfold zIt;obtain⟨k,hk⟩:∃k,p.code.length-pos=k+1:=⟨p.code.length-pos-1,by omega⟩
 rw[hk];simp only[yBv,zA h,hs];have:=zR9 h hs;exact zNk p e k _ q.1 q.2 (by omega) (by omega)
theorem zUt {p:Pr} {e:En} {pos:Nat} {st:List V} (h:p.code.length≤pos):zIt p e pos st=yJb st:=by
 unfold zIt;rw[show p.code.length-pos=0 by omega]
 rfl
theorem zTt (p:Pr) (e:En):zTu p e=zIt p e 0 []:=by unfold zTu zIt;rfl
end Go.Proofs.YtbffkkeieihpdaaGreatDoor
namespace Go.Proofs.YtbffkkeieihpdaaGreatDoor
open Go Go.Eng
theorem zYq:Rng 0:=by unfold Rng;omega
theorem zN7 (r:Int):Rng (zFm r).n:=by
 unfold zFm Rng;split
 ·simp only[];omega
 split
 ·simp only[];omega
 ·simp only[];omega
theorem yJt (o:Int) (a b:V):Rng (yJv o a b).n:=by
 unfold yJv
 repeat' split
 all_goals first|exact zVw _|exact zYq
theorem yBi (o:Int) {a b:V} (ha:Rng a.n) (hb:Rng b.n):Rng (zCy o a b).n:=by
 unfold zCy;split
 ·rw[yJ3 ha hb];unfold yPh on2;split<;>first|exact zHf _|exact zYq
 split
 ·rw[yHb ha hb];unfold yN8 on2;split<;>first|exact zHf _|exact zYq
 split
 ·rw[yIi ha hb];unfold yLg on2;split<;>first|exact zHf _|exact zYq
 split
 ·rw[yJd ha];unfold yO6 on2
  split
  ·simp only[]
   split
   ·exact zYq
   ·exact zHf _
  ·exact zYq
 split
 ·rw[yIl];unfold yOu on2
  split
  ·simp only[]
   split
   ·exact zYq
   ·rename_i h
    obtain⟨_,t1,t2,_,_⟩:=zR8 (x:=a.n) h;have t3:=Int.natAbs_tmod a.n b.n;have t4:a.n.natAbs%b.n.natAbs≤a.n.natAbs:=Nat.mod_le _ _;unfold Rng at ha ⊢;simp only[wE];rcases Int.le_total 0 a.n with h0|h0
    ·have:=t1 h0;omega
    ·have:=t2 h0;omega
  ·exact zYq
 split
 ·exact zN7 _
 split
 ·exact zN7 _
 ·exact yJt _ _ _
theorem yAk (g:Bool) (l:List Int) (h:0<l.length):∀j,zKg g l j∈l:=fun j=>by
 unfold zKg;have:∀(m:List Int) (x:Int),(∀y∈m,y∈l)→x∈l→m.foldl (fun (m x:Int)=>if (if g=true then decide (m<x)else decide (x<m))=true then x else m) x∈l:=fun m=>by
  induction m with
  | nil=>exact fun x _ hx=>hx
  | cons y m ih =>
   intro x hm hx;rw[List.foldl_cons];refine ih _ (fun z hz=>hm z (by simp[hz])) ?_
   generalize (if g=true then decide (x<y)else decide (y<x))=c
   cases c
   ·exact hx
   ·exact hm y (by simp)
 refine this _ _ (fun y hy=>List.mem_of_mem_take hy) ?_
 rw[zB,zA h];exact zF h
theorem yEa (o:Int) {l:List Int} (ha:All l) (hl:l.length≤2147483647):Rng (zG0 zYd o l).n:=by
 unfold zG0;split
 ·unfold Rng wE;simp only[];omega
 split
 ·rw[yG9 ha (by unfold big;omega)];exact zHf _
 split
 ·exact zYq
 rename_i hne;have hp:0<l.length:=List.length_pos_iff.2 hne;split
 ·exact ha _ (yAk _ _ hp _)
 split
 ·exact ha _ (yAk _ _ hp _)
 split
 ·simp only[wE];rw[zB,zA hp];exact ha _ (zF _)
 split
 ·simp only[wE];rw[zB,zA (by omega)];exact ha _ (zF _)
 ·exact zYq
theorem yIf {a:V} (ha:Rng a.n):Rng (zZp a).n:=by
 rw[yIg ha];unfold yOt;split
 ·exact zHf _
 ·exact zYq
theorem yIc (a:V):Rng (yDm a).n:=zN7 _
theorem yJ2 {l:List Ev} (h:∀e∈l,zGg e) (hl:l.length≤2147483647) (col:List Int) (op:Int):Rng (yBm l col op).n:=by
 unfold yBm;split
 ·exact yEa op (yEt h _ _) (by simp[zJa];omega)
 ·exact zLf
theorem zSj {i:Ins} {col:List Int} {e:En} (h:∀x∈zAm e.ls i.item,zGg x) (hl:(zAm e.ls i.item).length≤2147483647):Rng (wG i col e).n:=by
 unfold wG;split
 ·simp only[wE,Rng];omega
 split
 ·split
  ·exact zOd h _ _
  ·exact zLf
 split
 ·split<;>exact zOd h _ _
 ·exact yJ2 h hl _ _
end Go.Proofs.YtbffkkeieihpdaaGreatDoor
namespace Go.Proofs.YtbffkkeieihpdaaGreatDoor
open Go Go.Eng
def dEv:De Ev where
 run _ l:=yMz l
 sim _ e:=e
theorem zNo (e:Ev):deE (.g (zAk e))=some e:=rfl
def yGj:List AV→Option Ins
 | [.v (.int .i64 a),.v (.int .i64 b),.v (.int .i64 c),.v (.int .i64 d),.v (.int .i64 e)]=>some ⟨a,b,c,d,e⟩
 | _=>none
theorem zO0 {l:List AV} {i:Ins} (h:yGj l=some i):l=zBq i:=by
 unfold yGj at h;split at h
 ·cases h;rfl
 ·cases h
def yPv:De Ins where
 run _ l:=yGj l
 sim _ e:=e
def zRc:AV→Option Ins
 | .g l=>yGj l
 | _=>none
def iv (i:Ins):AV:=.g (zBq i)
theorem yAw {x:AV} {i:Ins} (h:zRc x=some i):x=iv i:=by
 unfold zRc at h;split at h
 ·rw[zO0 h];rfl
 ·cases h
def dEs:De (List Ev):=De.sl 11 dEv
def dIs:De (List Int):=De.sl 1 (De.int .i64)
def dPs:De (List Ins):=De.sl 5 yPv
def zDd:De (List (List Ev)):=De.sl 1 dEs
def yJi:De (List (List Int)):=De.sl 1 dIs
def rd {α:Type} (d:De α) (h:Heap) (a:AV):Option α:=d.run h [a]
theorem yU {α:Type} {d:De α} {h h':Heap} (hh:h.le h') {a:AV} {x:α} (e:rd d h a=some x):rd d h' a=some x:=d.mono hh e
theorem zAb {α:Type} {d:De α} {h h':Heap} (hh:h.sim h') {a:AV} {x:α} (e:rd d h a=some x):rd d h' a=some x:=d.sim hh e
theorem zK {α:Type} {sz:Nat} {d:De α} {h:Heap} {a:AV} {l:List α} (e:rd (De.sl sz d) h a=some l):a.isS∧a.slen=l.length∧(∀g,AV.unc g a=a)∧a.one∧a.cells=[a]:=by
 rcases De.sl_out e with ⟨h0,h1|h1⟩|⟨id,off,k,h1,h2,h3,h4⟩
 ·simp only[List.cons.injEq,and_true]at h1;subst h1;subst h0;exact⟨⟨rfl,rfl⟩,rfl,fun _=>rfl,rfl,rfl⟩
 ·simp only[List.cons.injEq,and_true]at h1;subst h1;subst h0;exact⟨trivial,rfl,fun _=>rfl,trivial,rfl⟩
 ·simp only[List.cons.injEq,and_true]at h1;subst h1;exact⟨trivial,rfl,fun _=>rfl,trivial,rfl⟩
theorem zEw {α:Type} {sz:Nat} {d:De α} {h:Heap} {a:AV} {l:List α} (e:rd (De.sl sz d) h a=some l):(l=[]∧(a=.v (.slice none 0 0)∨a=.e))∨
  ∃id off k,a=.s id k.ver off l.length∧h id=some k∧off+l.length*sz≤k.cells.length∧∀i (hi:i<l.length),d.run h ((k.cells.drop (off+i*sz)).take sz)=some l[i]:=by
 rcases De.sl_out e with ⟨h0,h1|h1⟩|⟨id,off,k,h1,h2,h3,h4⟩
 ·simp only[List.cons.injEq,and_true]at h1
  exact .inl ⟨h0,.inl h1⟩
 ·simp only[List.cons.injEq,and_true]at h1
  exact .inl ⟨h0,.inr h1⟩
 ·simp only[List.cons.injEq,and_true]at h1
  exact .inr ⟨id,off,k,h1,h2,h3,h4⟩
theorem yG {l r:List AV} {o n c:Nat} {x:AV} (h:(l.drop o).take n=r) (hc:r[c]? = some x) (hn:c<n):l[o+c]? = some x:=by
 rw[←h,yD hn,xH]at hc;exact hc
theorem yEc {h:Heap} {a:AV} {l:List Ev} (e:rd dEs h a=some l):(l=[]∧(a=.v (.slice none 0 0)∨a=.e))∨
  ∃id off k,a=.s id k.ver off l.length∧h id=some k∧off+l.length*11≤k.cells.length∧∀i (hi:i<l.length),(k.cells.drop (off+i*11)).take 11=zAk l[i]:=by
 rcases zEw e with h0|⟨id,off,k,h1,h2,h3,h4⟩
 ·exact .inl h0
 ·exact .inr ⟨id,off,k,h1,h2,h3,fun i hi=>zO1 (h4 i hi)⟩
theorem yOf {h:Heap} {a:AV} {l:List Ins} (e:rd dPs h a=some l):(l=[]∧(a=.v (.slice none 0 0)∨a=.e))∨
  ∃id off k,a=.s id k.ver off l.length∧h id=some k∧off+l.length*5≤k.cells.length∧∀i (hi:i<l.length),(k.cells.drop (off+i*5)).take 5=zBq l[i]:=by
 rcases zEw e with h0|⟨id,off,k,h1,h2,h3,h4⟩
 ·exact .inl h0
 ·exact .inr ⟨id,off,k,h1,h2,h3,fun i hi=>zO0 (h4 i hi)⟩
theorem zKe {h:Heap} {a:AV} {l:List Int} (e:rd dIs h a=some l):(l=[]∧(a=.v (.slice none 0 0)∨a=.e))∨
  ∃id off k,a=.s id k.ver off l.length∧h id=some k∧off+l.length≤k.cells.length∧∀i (hi:i<l.length),k.cells[off+i]? = some (ii l[i]):=by
 rcases zEw e with h0|⟨id,off,k,h1,h2,h3,h4⟩
 ·exact .inl h0
 ·rw[wA]at h3
  refine .inr ⟨id,off,k,h1,h2,h3,fun i hi => ?_⟩
  have:=h4 i hi;rw[wA]at this
  simp only[De.int]at this
  split at this
  ·rename_i k' n' hq
   split at this
   ·rename_i hkk
    have h5:=yG (c:=0) hq rfl (by omega)
    simp only[Option.some.injEq]at this
    rw[yO]at h5;rw[h5,hkk,this];rfl
   ·cases this
  ·cases this
theorem zM2 {α:Type} {sz:Nat} {d:De α} {h:Heap} {a:AV} {l:List (List α)} (e:rd (De.sl 1 (De.sl sz d)) h a=some l):(l=[]∧(a=.v (.slice none 0 0)∨a=.e))∨
  ∃id off k,a=.s id k.ver off l.length∧h id=some k∧off+l.length≤k.cells.length∧∀i (hi:i<l.length),∃c,k.cells[off+i]? = some c∧rd (De.sl sz d) h c=some l[i]:=by
 rcases zEw e with h0|⟨id,off,k,h1,h2,h3,h4⟩
 ·exact .inl h0
 ·rw[wA]at h3
  refine .inr ⟨id,off,k,h1,h2,h3,fun i hi => ?_⟩
  have:=h4 i hi;rw[wA]at this
  have hlt:off+i<k.cells.length:=by omega
  refine⟨k.cells[off+i],zA hlt,?_⟩;have e2:(k.cells.drop (off+i)).take 1=[k.cells[off+i]]:=by
   rw[List.take_one,List.head?_drop,zA hlt];rfl
  rw[e2]at this
  exact this
def zHn (h:Heap) (a:AV) (i:Nat):AV:=match a with
 | .s id _ off _=>match h id with
  | some k=>k.cells.getD (off+i) .any
  | none=>.any
 | _=>.any
theorem yEv {α:Type} {sz:Nat} {d:De α} {h:Heap} {a:AV} {l:List (List α)} (e:rd (De.sl 1 (De.sl sz d)) h a=some l) {i:Nat} (hi:i<l.length):rd (De.sl sz d) h (zHn h a i)=some l[i]:=by
 rcases zM2 e with ⟨h0,_⟩|⟨id,off,k,rfl,h2,h3,h4⟩
 ·subst h0;simp at hi
 ·obtain⟨c,h5,h6⟩:=h4 i hi
  simp only[zHn,h2,zB,h5,xB];exact h6
theorem yBc {α:Type} {d:De α} {h h':Heap} (hh:h.le h') {a:AV} {l:List α} (e:rd (De.sl 1 d) h a=some l) (i:Nat):zHn h' a i=zHn h a i:=by
 rcases zEw e with ⟨_,rfl|rfl⟩|⟨id,off,k,rfl,h2,_⟩
 ·rfl
 ·rfl
 ·simp only[zHn,h2,hh _ _ h2]
theorem yKz {α:Type} {sz:Nat} {d:De α} {h:Heap} {a:AV} {l:List α} (e:rd (De.sl sz d) h a=some l):a.inH h:=by
 rcases zEw e with ⟨_,rfl|rfl⟩|⟨id,off,k,rfl,h2,_⟩
 ·simp[AV.inH]
 ·simp[AV.inH]
 ·simp only[AV.inH];exact⟨k,h2,rfl⟩
def zMw (h:Heap):AV→Option Pr
 | .g [a,b]=>match rd dPs h a,rd yJi h b with
  | some x,some y=>some ⟨x,y⟩
  | _,_=>none
 | _=>none
theorem zE4 {h:Heap} {x:AV} {p:Pr} (e:zMw h x=some p):∃a b,x=.g [a,b]∧rd dPs h a=some p.code∧rd yJi h b=some p.cols:=by
 unfold zMw at e;split at e
 ·rename_i a b
  split at e
  ·rename_i x y e1 e2
   cases e;exact⟨a,b,rfl,e1,e2⟩
  ·cases e
 ·cases e
theorem zL2 {h:Heap} {a b:AV} {p:Pr} (h1:rd dPs h a=some p.code) (h2:rd yJi h b=some p.cols):zMw h (.g [a,b])=some p:=by simp only[zMw,h1,h2]
theorem zKy {h h':Heap} (hh:h.sim h') {x:AV} {p:Pr} (e:zMw h x=some p):zMw h' x=some p:=by
 obtain⟨a,b,rfl,e1,e2⟩:=zE4 e;exact zL2 (zAb hh e1) (zAb hh e2)
def zPp (h:Heap):AV→Option En
 | .g [a,.v (.int .i64 each),.v (.int .i64 pos)]=>match rd zDd h a with
  | some x=>some ⟨x,each,pos⟩
  | _=>none
 | _=>none
theorem zF8 {h:Heap} {x:AV} {p:En} (e:zPp h x=some p):∃a,x=.g [a,ii p.each,ii p.pos]∧rd zDd h a=some p.ls:=by
 unfold zPp at e;split at e
 ·rename_i a each pos
  split at e
  ·rename_i x e1
   cases e;exact⟨a,rfl,e1⟩
  ·cases e
 ·cases e
theorem zF9 {h:Heap} {a:AV} {e:En} (h1:rd zDd h a=some e.ls):zPp h (.g [a,.v (.int .i64 e.each),.v (.int .i64 e.pos)])=some e:=by simp only[zPp,h1]
theorem zK0 {h h':Heap} (hh:h.sim h') {x:AV} {p:En} (e:zPp h x=some p):zPp h' x=some p:=by
 obtain⟨a,rfl,e1⟩:=zF8 e;exact zF9 (zAb hh e1)
theorem zTv (h:Heap) {id:Nat} {k:Blk} (e:h id=some k):roH h id=some k.ro:=by simp[roH,e]
def agree (n:Nat) (h0 h:Heap):Prop:=∀j,j<n→h j=h0 j
theorem zE (n:Nat) (h:Heap):agree n h h:=fun _ _=>rfl
theorem zC {n:Nat} {h0 h:Heap} {i:Nat} (hi:n≤i) (b:Option Blk):agree n h0 (up h i b)↔agree n h0 h:=by
 constructor
 ·intro hh j hj
  have:=hh j hj
  rwa [zP _ _ (by omega)]at this
 ·intro hh j hj
  rw[zP _ _ (by omega)]
  exact hh j hj
theorem zEu {n:Nat} {h h':Heap} (hn:∀i,n≤i→h i=none) (ha:agree n (roH h) h'):h.sim h':=fun i k e=>by
 have hi:i<n:=by
  by_cases hi:i<n
  ·exact hi
  ·rw[hn i (by omega)]at e;cases e
 exact⟨k.ro,by rw[ha i hi];exact zTv h e,rfl,rfl⟩
theorem xL {α:Type} {d:De α} {h:Heap} {n:Nat} {a:AV} {x:α} (hn:∀i,n≤i→h i=none) (e:rd d h a=some x):∀h',agree n (roH h) h'→rd d h' a=some x:=fun _ ha=>zAb (zEu hn ha) e
theorem zTz {h:Heap} {n:Nat} {a:AV} {x:Pr} (hn:∀i,n≤i→h i=none) (e:zMw h a=some x):∀h',agree n (roH h) h'→zMw h' a=some x:=fun _ ha=>zKy (zEu hn ha) e
theorem zU0 {h:Heap} {n:Nat} {a:AV} {x:En} (hn:∀i,n≤i→h i=none) (e:zPp h a=some x):∀h',agree n (roH h) h'→zPp h' a=some x:=fun _ ha=>zK0 (zEu hn ha) e
theorem wQ {n id:Nat} {h h':Heap} {k:Blk} (hn:∀i,n≤i→h i=none) (hk:h id=some k) (ha:agree n (roH h) h'):h' id=some ⟨k.cells,k.ver,false,k.esz⟩:=by
 have hi:id<n:=by
  by_cases hi:id<n
  ·exact hi
  ·rw[hn id (by omega)]at hk;cases hk
 rw[ha id hi];exact zDv hk
theorem xI {h:Heap} {id n:Nat} {k:Blk} (hk:h id=some k) (hn:∀i,n≤i→h i=none):id<n:=by
 by_cases hi:id<n
 ·exact hi
 ·rw[hn id (by omega)]at hk;cases hk
def zCv {α:Type} (de:Heap→List AV→Option α) (f:Heap→List AV→α→AV):List AV→Heap→PRes:=fun args h=>match de h args with
 | some a=>⟨True,f h args a⟩
 | none=>⟨False,.any⟩
theorem mkS {S : List Nat} {l : List (FuncId × (List AV → Heap → PRes))} {f : FuncId} {fn : Func} {c : Code} (k : Nat) (ok : zRv S l) (hf : Tryz.prog.funcs[f]? = some fn) (hb : fn.body = some c) (hok : (!(fn.name == "runtime.NumGoroutine") && zWo (cx S (pfL l)) fn c && decide (k ≤ fn.ntmps)) = true)
  {α:Type} {de:Heap→List AV→Option α} {g:Heap→List AV→α→AV} (hm:∀h h' l x,h.le h'→de h l=some x→de h' l=some x∧g h' l x=g h l x) (hk:∀h l x,de h l=some x→l.length≤k) (hg:∀h l a,de h l=some a→(g h l a).inH h)
  (h1:∀args a h n,de h args=some a→(∀i,n≤i→h i=none)→awp (cx S (pfL l)) c (zA8 (cx S (pfL l)) fn fun z _ _=>z=g h args a) ⟨env0 args,roH h,n⟩):P0 S f (zCv de g):=by
 have hok':=yI3 hok;have hout:∀args h,(zCv de g args h).side→∃a,de h args=some a∧∀h',h.le h'→zCv de g args h'=⟨True,g h args a⟩:=fun args h hs=>by
  unfold zCv at hs;split at hs
  ·rename_i a e
   exact⟨a,e,fun h' hh=>by simp only[zCv,(hm _ _ _ _ hh e).1,(hm _ _ _ _ hh e).2]⟩
  ·exact hs.elim
 exact zDp (fun _ hx=>hx) (zQk (zA1 ok) (zCm _ _) hf hb hok'.2.1 (xM hf hok'.1 (by rw[hb];rfl) _ _) (fun args h h' hh hs=>by
   obtain⟨a,e,hall⟩:=hout args h hs;rw[hall h' hh,hall h (fun _ _ e=>e)]
   exact⟨trivial,rfl⟩) fun args h hs=>by
  obtain⟨a,e,hall⟩:=hout args h hs;have hv:=hall h (fun _ _ e=>e)
  exact⟨xE (hk _ _ _ e) hok'.2.2,by rw[hv];exact hg h args a e,fun n hn=>by rw[hv];exact h1 args a h n e hn⟩)
def Own (h:Heap) (lo n:Nat) (a:AV) (cnt:Nat) (cells:List AV) (esz:Nat):Prop :=
 (cnt=0∧cells=[]∧a=.v (.slice none 0 0))∨∃w u,a=.s w u 0 cnt∧h w=some ⟨cells,u,true,esz⟩∧lo≤w∧w<n
def Fresh (n:Nat) (h:Heap):Prop:=∀q,n≤q→h q=none
theorem zG {n:Nat} {h:Heap} {i:Nat} (hi:i<n) (b:Option Blk):Fresh n (up h i b)↔Fresh n h:=by
 constructor
 ·intro hh q hq
  have:=hh q hq
  rwa [zP _ _ (by omega)]at this
 ·intro hh q hq
  rw[zP _ _ (by omega)]
  exact hh q hq
theorem Fresh.add {n:Nat} {h:Heap} (hf:Fresh n h) (k:Nat):Fresh (n+k) h:=fun q hq=>hf q (by omega)
theorem Fresh.mono {n m:Nat} {h:Heap} (hf:Fresh n h) (hm:n≤m):Fresh m h:=fun q hq=>hf q (by omega)
def zYm (q:List Ev×Int×List Int):Prop:=q.1.length<big∧q.2.2.length<big
def zKi (h:Heap):List AV→Option (List Ev×Int×List Int)
 | [a,.v (.int .i64 x),c]=>match rd dEs h a,rd dIs h c with
  | some l,some col=>some (l,x,col)
  | _,_=>none
 | _=>none
theorem zMa {h:Heap} {args:List AV} {q:List Ev×Int×List Int} (e:zKi h args=some q):∃a c,args=[a,ii q.2.1,c]∧rd dEs h a=some q.1∧rd dIs h c=some q.2.2:=by
 unfold zKi at e;split at e
 ·split at e
  ·rename_i e1 e3
   cases e;exact⟨_,_,rfl,e1,e3⟩
  ·cases e
 ·cases e
theorem zWy (h h':Heap) (args:List AV) (q:List Ev×Int×List Int) (hh:h.le h') (e:zKi h args=some q):zKi h' args=some q:=by
 obtain⟨a,c,rfl,e1,e3⟩:=zMa e;simp only[zKi,yU hh e1,yU hh e3,ii]
def zXm:=yE zKi zYm fun q=>vv (zHw q.1 q.2.1 q.2.2)
theorem zZ0 {X:Ctx} {h:Heap} {id ver o:Nat} {k:Blk} {e:Ev} (hk:h id=some k) (he:(k.cells.drop o).take 11=zAk e):ldcs X h (.p id ver o) 0 11=zAk e:=by
 have hc:∀c x,(zAk e)[c]? = some x→c<11→ldc X h (.p id ver o) c=x:=fun c x hx hc=>by
  simp only[ldc,hk,zB,yG he hx hc,xB]
 simp only[ldcs,zAk];rw[hc 0 _ rfl (by omega),hc 1 _ rfl (by omega),hc 2 _ rfl (by omega),hc 3 _ rfl (by omega),hc 4 _ rfl (by omega),hc 5 _ rfl (by omega),hc 6 _ rfl (by omega),hc 7 _ rfl (by omega),hc 8 _ rfl (by omega),hc 9 _ rfl (by omega),hc 10 _ rfl (by omega)]
def yKx:List (FuncId×(List AV→Heap→PRes)):=[(212,yLv)]
theorem yPs:P0 [] 184 zXm:=by
 refine mkH 3 (S:=[]) (l:=yKx) (zS yPr yH) Tryz.func184 rfl (by kernel_rfl) zWy (fun h l x e=>by obtain⟨a,c,rfl,_⟩:=zMa e;exact zD _) (fun a=>rfl) (fun args q h n e hp hn => ?_)
 obtain⟨l,i,c'⟩:=q;obtain⟨a,c,rfl,e1,e3⟩:=zMa e;simp only[]at e1 e3 ⊢;obtain⟨s1,s2,s3,s4,s5⟩:=zK e1;obtain⟨t1,t2,t3,t4,t5⟩:=zK e3;by_cases hi:i<0
 ·simp[evw,ii,vv,zHw,unk,hi,s1,s2,s3]
 ·obtain⟨j,rfl⟩:∃j:Nat,i=j:=⟨i.toNat,by omega⟩
  have hbig:=hp.1;by_cases hj:j<l.length
  ·rcases yEc e1 with ⟨rfl,_⟩|⟨id,off,k,rfl,hk,ho,hat⟩
   ·simp at hj
   have hr:=hat j hj;have c2:=yG (c:=2) hr rfl (by omega)
   rw[xD]at c2;have hro:=zDv hk;have h0:=zFn hk hn 0;simp only[yO]at h0;have hle:∀(X:Ctx) (h':Heap),h' id=some ⟨k.cells,k.ver,false,k.esz⟩→ldcs X h' (.p id k.ver (off+j*11)) 0 11=zAk l[j]:=fun X h' e=>zZ0 e hr
   have hw:off+(j*11+11)≤k.cells.length:=by omega
   have hw2:off+(j*11+3)≤k.cells.length:=by omega
   have hj':¬l.length≤j:=by omega
   by_cases ht:l[j].ty<0
   ·simp[evw,ii,vv,zHw,zJk,unk,hj,hj',ht,hro,h0,c2,hw2,t1,t2,t3]
   ·obtain⟨t,htt⟩:∃t:Nat,l[j].ty=t:=⟨l[j].ty.toNat,by omega⟩
    rw[htt]at c2;by_cases hc:t<c'.length
    ·rcases zKe e3 with ⟨rfl,_⟩|⟨id',off',k',rfl,hk',ho',hat'⟩
     ·simp at hc
     have g2:=hat' t hc;have hro':=zDv hk';have h0':=zFn hk' hn 0;simp only[yO]at h0';have hc':¬c'.length≤t:=by omega
     have hw3:off'+(t+1)≤k'.cells.length:=by omega
     simp[evw,ii,vv,zHw,zJk,hj,hj',htt,hro,h0,c2,hc,hc',hro',h0',g2,hw,hw2,hw3,hle,yKx,yLv,zFi,zNo,deI]
    ·have hc':c'.length≤t:=by omega
     simp[evw,ii,vv,zHw,zJk,unk,hj,hj',htt,hro,h0,c2,hw2,hc',t1,t2,t3]
  ·have hj':l.length≤j:=by omega
   simp[evw,ii,vv,zHw,unk,hj',s1,s2,s3]
def yAv (h:Heap):List AV→Option (En×Int)
 | [e,.v (.int .i64 i)]=>(zPp h e).map fun x=>(x,i)
 | _=>none
theorem zKz {h:Heap} {args:List AV} {q:En×Int} (e:yAv h args=some q):∃a,args=[.g [a,ii q.1.each,ii q.1.pos],ii q.2]∧rd zDd h a=some q.1.ls:=by
 unfold yAv at e;split at e
 ·simp only[zW]at e
  obtain⟨x,e1,rfl⟩:=e;obtain⟨a,rfl,e2⟩:=zF8 e1;exact⟨a,rfl,e2⟩
 ·cases e
def fLI (h:Heap) (args:List AV) (q:En×Int):AV:=match args with
 | [.g [a,_,_],_]=>if q.2<0∨(q.1.ls.length:Int)≤q.2 then .v (.slice none 0 0)else zHn h a q.2.toNat
 | _=>.any
theorem yAu (h h':Heap) (args:List AV) (q:En×Int) (hh:h.le h') (e:yAv h args=some q):yAv h' args=some q∧fLI h' args q=fLI h args q:=by
 obtain⟨a,rfl,e1⟩:=zKz e;refine⟨?_,?_⟩
 ·simp only[yAv,ii,zF9 (yU hh e1),zM]
 ·simp only[fLI]
  rw[yBc hh e1]
theorem yGd {h:Heap} {args:List AV} {q:En×Int} (e:yAv h args=some q):rd dEs h (fLI h args q)=some (zAm q.1.ls q.2):=by
 obtain⟨a,rfl,e1⟩:=zKz e;simp only[fLI,zAm];by_cases h1:q.2<0
 ·rw[if_pos (.inl h1),if_pos h1];rfl
 ·rw[if_neg h1]
  by_cases h2:(q.1.ls.length:Int)≤q.2
  ·rw[if_pos (.inr h2),zB,zL (by omega)];rfl
  ·rw[if_neg (by omega)]
   have hlt:q.2.toNat<q.1.ls.length:=by omega
   rw[zB,zA hlt];exact yEv e1 hlt
def G65:=zCv yAv fLI
theorem P65:P0 [] 89 G65:=by
 refine mkS 2 (S:=[]) yH Tryz.func89 rfl (by kernel_rfl) yAu (fun h l x e=>by obtain⟨a,rfl,_⟩:=zKz e;exact zD _) (fun h l a e=>yKz (yGd e)) (fun args q h n e hn => ?_)
 obtain⟨⟨ls,each,pos⟩,i⟩:=q;obtain⟨a,rfl,e1⟩:=zKz e;simp only[]at e1 ⊢;obtain⟨s1,s2,s3,s4,s5⟩:=zK e1;by_cases hi:i<0
 ·simp[evw,ii,fLI,hi,s1,s2,s4]
 ·obtain⟨j,rfl⟩:∃j:Nat,i=j:=⟨i.toNat,by omega⟩
  by_cases hj:j<ls.length
  ·rcases zM2 e1 with ⟨rfl,_⟩|⟨id,off,k,rfl,hk,ho,hat⟩
   ·simp at hj
   have hj':¬ls.length≤j:=by omega
   have hro:=zDv hk;have h0:=zFn hk hn 0;simp only[yO]at h0;have hw:off+(j+1)≤k.cells.length:=by omega
   simp[evw,ii,fLI,hj,hj',s1,s2,s4,hro,h0,hw,zHn,hk]
  ·have hj':ls.length≤j:=by omega
   simp[evw,ii,fLI,hj',s1,s2,s4]
def okL (q:List Ev×List Int×Int):Prop:=q.1.length≤2147483647∧q.2.1.length<big∧∀e∈q.1,zGg e
def zS1 (h:Heap):List AV→Option (List Ev×List Int×Int)
 | [a,c,.v (.int .i64 o)]=>match rd dEs h a,rd dIs h c with
  | some l,some col=>some (l,col,o)
  | _,_=>none
 | _=>none
theorem zL9 {h:Heap} {args:List AV} {q:List Ev×List Int×Int} (e:zS1 h args=some q):∃a c,args=[a,c,ii q.2.2]∧rd dEs h a=some q.1∧rd dIs h c=some q.2.1:=by
 unfold zS1 at e;split at e
 ·split at e
  ·rename_i e1 e3
   cases e;exact⟨_,_,rfl,e1,e3⟩
  ·cases e
 ·cases e
theorem zWx (h h':Heap) (args:List AV) (q:List Ev×List Int×Int) (hh:h.le h') (e:zS1 h args=some q):zS1 h' args=some q:=by
 obtain⟨a,c,rfl,e1,e3⟩:=zL9 e;simp only[zS1,yU hh e1,yU hh e3,ii]
def yOx:=yE zS1 okL fun q=>vv (yBm q.1 q.2.1 q.2.2)
theorem zRk (l:List Ev) (c:List Int) (j:Nat):(zJa l c (j+1)).map ii=(zJa l c j).map ii++[ii (zHw l (j:Int) c).n]:=by rw[yBa];simp
theorem yGp {l:List Ev} {c:List Int} {j:Nat} (op:Int) (hj:j<l.length) (h:(zHw l (j:Int) c).k=false):yBm l c op=unk:=by
 have:zDk l c (j+1)=false:=by rw[zE2,h,Bool.and_false]
 unfold yBm;rw[if_neg fun e=>by rw[zWj (by omega) e]at this;cases this]
theorem yBl {l:List Ev} {c:List Int} (op:Int) (h:zDk l c l.length=true):yBm l c op=zG0 zYd op (zJa l c l.length):=if_pos h
def zV1:List (FuncId×(List AV→Heap→PRes)):=[(184,zXm),(213,g33)]
theorem yRh:P0 [1] 185 yOx:=by
 refine mkH 3 (S:=[1]) (l:=zV1) (zS yPs (zS p33 yH)) Tryz.func185 rfl (by kernel_rfl) zWx (fun h l x e=>by obtain⟨a,c,rfl,_⟩:=zL9 e;exact zD _) (fun a=>rfl) (fun args q h n e hp hn => ?_)
 obtain⟨l,c',op⟩:=q;obtain⟨a,c,rfl,e1,e3⟩:=zL9 e;obtain⟨hl,hc,hev⟩:=hp;simp only[]at e1 e3 hl hc hev ⊢;obtain⟨s1,s2,s3,s4,s5⟩:=zK e1;obtain⟨t1,t2,t3,t4,t5⟩:=zK e3;have key:∀e:Nat→AV,e 0=a→e 1=c→e 2=ii op→awp (cx [1] (pfL zV1)) (Tryz.f185.body.getD .skip) (zA8 (cx [1] (pfL zV1)) Tryz.f185 fun z _ _=>z=vv (yBm l c' op)) ⟨e,roH h,n⟩:=fun e q0 q1 q2=>by
  have hb1:(8:Int)*(l.length:Int)≤281474976710656:=by omega
  have hb2:(l.length:Int)≤9223372036854775807:=by omega
  simp[evw,Tryz.f185,q0,s1,s2,hb1,hb2];refine yK (fun s=>∃j,j≤l.length∧s.e 0=a∧s.e 1=c∧s.e 2=ii op∧s.e 6=.p n 0 0∧s.e 7=.s (n+1) j 0 j∧s.e 14=ii l.length∧s.e 15=ii j∧agree n (roH h) s.h∧s.h n=some ⟨[.v (.bool false),.v (.int .i64 0)],0,true,2⟩∧s.h (n+1)=some ⟨(zJa l c' j).map ii,j,true,1⟩∧n+2≤s.n∧zDk l c' j=true) (fun s=>l.length-(s.e 15).i.toNat) ⟨0,by simp[up,q0,q1,q2,ii,zC,zE,zJa,zDk]⟩ ?_
  rintro e' h' n' ⟨j,hj,q0,q1,q2,q6,q7,q14,q15,hag,hr,hk,hnn,hkn⟩;simp only[]at q0 q1 q2 q6 q7 q14 q15 hag hr hk hnn;have f1:n≤n':=by omega
  have f2:n≤n'+1:=by omega
  have f3:n≤n'+2:=by omega
  have z1:¬n=n':=by omega
  have z2:¬n=n'+1:=by omega
  have z3:¬n=n'+2:=by omega
  have z4:¬n+1=n':=by omega
  have g1:=xL hn e1;have g3:=xL hn e3;by_cases hlt:j<l.length
  ·have hw:=yF (j:=j) (by unfold big;omega)
   have hsm:zYm (l,(j:Int),c'):=⟨by simp only[big];omega,hc⟩
   have hcn:=zRk l c' j;have hcl:((zJa l c' j).map ii).length=j:=by rw[zO,zK6]
   generalize hx:zHw l (j:Int) c'=x at *;generalize (zJa l c' j).map ii=cs at *;have hb3:(j+1)*8≤140737488355328:=by omega
   have hb4:j+1≤9223372036854775807:=by omega
   cases hxk:x.k with
   | false =>
    have ha:=yGp op hlt (by rw[hx];exact hxk)
    have hu:x=unk:=by rw[←hx];exact zT7 (by rw[hx];exact hxk)
    subst hu;simp[evw,q0,q1,q6,q14,q15,ii,hlt,zV1,zXm,yE,zKi,g1,g3,hag,hsm,hx,vv,unk,z1,hr,ha]
   | true =>
    simp[evw,q0,q1,q2,q6,q7,q14,q15,ii,hlt,zV1,zXm,yE,zKi,g1,g3,hag,zC,f1,f3,hsm,hx,vv,z1,z2,z3,z4,hr,hk,hxk,hcl,hb3,hb4,hw];exact⟨⟨j+1,by omega,rfl,by omega,⟨by rw[hcn];rfl,rfl⟩,by rw[zE2,hkn,hx,hxk];rfl⟩,by omega⟩
  ·have hje:j=l.length:=by omega
   subst hje;have hay:=yBl op hkn;have hcl:(zJa l c' l.length).length=l.length:=zK6 ..;have hlb:l.length<big:=by unfold big;omega
   have hdi:yEl (List.take l.length ((zJa l c' l.length).map ii))=some (zJa l c' l.length):=by
    rw[yY (by rw[zO,hcl];exact zD _),zSw]
   generalize zJa l c' l.length=cn at *;simp[evw,q2,q6,q7,q14,q15,ii,zV1,g33,zIo,deI,zOl,vv,hr,hk,hay,hcl,hlb,hdi]
 exact key _ rfl rfl rfl
structure EnOk (e:En):Prop where
 len:∀l∈e.ls,l.length≤2147483647
 ev:∀l∈e.ls,∀x∈l,zGg x
 pos:Rng e.pos
theorem zNa {ls:List (List Ev)} {P:List Ev→Prop} (h0:P []) (h:∀l∈ls,P l) (i:Int):P (zAm ls i):=by
 unfold zAm;split
 ·exact h0
 ·rw[zB]
  cases e:ls[i.toNat]? with
  | none=>exact h0
  | some l=>exact h l (wJ e)
theorem EnOk.lenAt {e:En} (h:EnOk e) (i:Int):(zAm e.ls i).length≤2147483647:=zNa (P:=fun l=>l.length≤2147483647) (by simp) h.len i
theorem EnOk.evAt {e:En} (h:EnOk e) (i:Int):∀x∈zAm e.ls i,zGg x:=zNa (P:=fun l=>∀x∈l,zGg x) (by simp) h.ev i
def okM (q:Ins×List Int×En):Prop:=(1≤q.1.code∧q.1.code≤9)∧q.2.1.length<big∧EnOk q.2.2
def yBx (h:Heap):List AV→Option (Ins×List Int×En)
 | [i,c,e]=>match zRc i,rd dIs h c,zPp h e with
  | some i,some c,some e=>some (i,c,e)
  | _,_,_=>none
 | _=>none
theorem zO4 {h:Heap} {args:List AV} {q:Ins×List Int×En} (e:yBx h args=some q):∃c x,args=[iv q.1,c,x]∧rd dIs h c=some q.2.1∧zPp h x=some q.2.2:=by
 unfold yBx at e;split at e
 ·split at e
  ·rename_i e1 e2 e3
   cases e;exact⟨_,_,by rw[yAw e1],e2,e3⟩
  ·cases e
 ·cases e
theorem yEm (i:Ins):zRc (.g (zBq i))=some i:=rfl
theorem yA2 (h h':Heap) (args:List AV) (q:Ins×List Int×En) (hh:h.le h') (e:yBx h args=some q):yBx h' args=some q:=by
 obtain⟨c,x,rfl,e1,e2⟩:=zO4 e;simp only[yBx,iv,yEm,yU hh e1,zK0 hh.sim e2]
def yKb:=yE yBx okM fun q=>vv (wG q.1 q.2.1 q.2.2)
theorem zOi {h:Heap} {n:Nat} (hn:∀i,n≤i→h i=none) {a:AV} {e:En} (e1:rd zDd h a=some e.ls) (item:Int):∃c,(∀h',agree n (roH h) h'→yAv h' [.g [a,.v (.int .i64 e.each),.v (.int .i64 e.pos)],.v (.int .i64 item)]=some (e,item)∧fLI h' [.g [a,.v (.int .i64 e.each),.v (.int .i64 e.pos)],.v (.int .i64 item)] (e,item)=c)∧
  (∀h',agree n (roH h) h'→rd dEs h' c=some (zAm e.ls item))∧c.isS∧c.slen=(zAm e.ls item).length∧(∀g,AV.unc g c=c)∧c.one∧c.cells=[c]:=by
 have hq:yAv h [.g [a,.v (.int .i64 e.each),.v (.int .i64 e.pos)],.v (.int .i64 item)]=some (e,item):=by simp only[yAv,zF9 e1,zM]
 have hr:=yGd hq;have hat:∀h',agree n (roH h) h'→∀i,zHn h' a i=zHn h a i:=fun h' ha i=>by
  rcases zEw e1 with ⟨_,rfl|rfl⟩|⟨id,off,k,rfl,h2,_⟩
  ·rfl
  ·rfl
  ·simp only[zHn,h2,wQ hn h2 ha]
 refine⟨_,fun h' ha=>⟨?_,?_⟩,fun h' ha=>xL hn hr h' ha,zK hr⟩
 ·simp only[yAv,zF9 (xL hn e1 h' ha),zM]
 ·simp only[fLI]
  rw[hat h' ha]
def yBt:List (FuncId×(List AV→Heap→PRes)):=[(89,G65),(184,zXm),(185,yOx)]
theorem yRe:P0 [1] 142 yKb:=by
 refine mkH 3 (S:=[1]) (l:=yBt) (zS P65 (zS yPs (zS yRh yH))) Tryz.func142 rfl (by kernel_rfl) yA2 (fun h l x e=>by obtain⟨a,c,rfl,_⟩:=zO4 e;exact zD _) (fun a=>rfl) (fun args q h n e hp hn => ?_)
 obtain⟨⟨code,item,icol,iN,ito⟩,col,⟨ls,each,pos⟩⟩:=q;obtain⟨c,x,rfl,e1,e2⟩:=zO4 e;obtain⟨hcode,hc,hen⟩:=hp;obtain⟨a,rfl,e3⟩:=zF8 e2;simp only[]at e1 e2 e3 hcode hc hen ⊢;obtain⟨s1,s2,s3,s4,s5⟩:=zK e3;obtain⟨t1,t2,t3,t4,t5⟩:=zK e1;obtain⟨cl,f1,f2,u1,u2,u3,u4,u5⟩:=zOi (e:=⟨ls,each,pos⟩) hn e3 item;simp only[]at f1 f2 u1 u2 u3 u4 u5;have f0:=fun h' ha=>(f1 h' ha).1
 replace f1:=fun h' ha=>(f1 h' ha).2
 have hlen:=hen.lenAt item;have hev:=hen.evAt item;have hpos:=hen.pos;simp only[]at hlen hev hpos;have hsm:∀i:Int,zYm (zAm ls item,i,col):=fun i=>⟨by simp only[big];omega,hc⟩
 have hok:okL (zAm ls item,col,code+1):=⟨hlen,hc,hev⟩;have g1:=xL hn e1;have v1:n≤n+1:=by omega
 have v2:n≤n+2:=by omega
 have v3:n≤n+3:=by omega
 have hw1:IntKind.i64.wrap (6+IntKind.i64.wrap (code-5))=code+1:=by
  have h1:IntKind.i64.wrap (code-5)=code-5:=zMz (by unfold Rng;omega)
  rw[h1];have h2:IntKind.i64.wrap (6+(code-5))=6+(code-5):=zMz (by unfold Rng;omega)
  rw[h2];omega
 unfold Rng at hpos;by_cases c4:code=4
 ·subst c4
  simp[evw,iv,zBq,ii,vv,wG,wE,yBt,G65,zCv,f0,f1,zC,zE,v1,v2,s4,u1,u2]
 by_cases c3:code=3
 ·subst c3
  by_cases ht:item=each∧0≤item
  ·obtain⟨rfl,ht2⟩:=ht
   by_cases hp1:1≤pos
   ·have hw2:IntKind.i64.wrap (pos-1)=pos-1:=zMz (by unfold Rng;omega)
    have hp2:¬pos<1:=by omega
    simp[evw,iv,zBq,ii,vv,wG,yBt,G65,zCv,f0,f1,zC,zE,v1,v2,s4,ht2,hp1,hp2,hw2,zXm,yE,zKi,f2,g1,hsm]
   ·have hp2:pos<1:=by omega
    simp[evw,iv,zBq,ii,vv,wG,unk,yBt,G65,zCv,f0,f1,zC,zE,v1,v2,s4,ht2,hp1,hp2,zXm]
  ·by_cases ht3:item=each
   ·have ht2:¬0≤item:=fun h=>ht ⟨ht3,h⟩
    subst ht3;simp[evw,iv,zBq,ii,vv,wG,unk,yBt,G65,zCv,f0,f1,zC,zE,v1,v2,s4,ht2,zXm]
   ·simp[evw,iv,zBq,ii,vv,wG,unk,yBt,G65,zCv,f0,f1,zC,zE,v1,v2,s4,ht3,zXm]
 by_cases c2:code=2
 ·subst c2
  by_cases ht:item=each∧0≤item
  ·obtain⟨rfl,ht2⟩:=ht
   simp[evw,iv,zBq,ii,vv,wG,yBt,G65,zCv,f0,f1,zC,zE,v1,v2,s4,ht2,zXm,yE,zKi,f2,g1,hsm]
  ·by_cases ht3:item=each
   ·have ht2:¬0≤item:=fun h=>ht ⟨ht3,h⟩
    subst ht3;simp[evw,iv,zBq,ii,vv,wG,yBt,G65,zCv,f0,f1,zC,zE,v1,v2,s4,ht2,zXm,yE,zKi,f2,g1,hsm]
   ·simp[evw,iv,zBq,ii,vv,wG,yBt,G65,zCv,f0,f1,zC,zE,v1,v2,s4,ht3,zXm,yE,zKi,f2,g1,hsm]
 simp[evw,iv,zBq,ii,vv,wG,yBt,G65,zCv,f0,f1,zC,zE,v1,v2,s4,c4,c3,c2,hw1,yOx,yE,zS1,f2,g1,hok]
 try (by_cases ht:item=each<;>simp[ht])
end Go.Proofs.YtbffkkeieihpdaaGreatDoor
