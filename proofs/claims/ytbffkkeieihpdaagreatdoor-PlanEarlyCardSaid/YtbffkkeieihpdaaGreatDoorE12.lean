import Derived.Test.YtbffkkeieihpdaaGreatDoorE11
import Derived.Test.YtbffkkeieihpdaaGreatDoorE08
set_option linter.unusedSimpArgs false
set_option linter.unusedVariables false
set_option linter.constructorNameAsVariable false
set_option maxRecDepth 100000
set_option maxHeartbeats 4000000
namespace Go.Proofs.YtbffkkeieihpdaaGreatDoor
open Go Go.Eng
theorem zGi (n:Int):Rng (zQ9 n).n:=by
 unfold zQ9 Rng;split
 ·assumption
 ·simp
theorem zUd (b:Bool):Rng (zFk b).n:=by cases b<;>simp[zFk,Rng]
def zM3 (col:List Int) (e:Ev):Option Int:=if e.ty<0 then none else col[e.ty.toNat]?
def zLp (l:List Ev) (i:Int) (col:List Int):V:=if i<0 then unk else match l[i.toNat]? with
 | none=>unk
 | some e=>match zM3 col e with
  | none=>unk
  | some p=>zFt e p
def zHc (e:Ev):Prop:=Rng e.ts∧Rng e.ty∧Rng e.a0∧Rng e.a1∧Rng e.a2∧Rng e.a3∧Rng e.a4∧Rng e.a5∧Rng e.a6∧Rng e.a7
theorem yCr {e:Ev} (h:zHc e):∀j,Rng (e.attr j):=by
 obtain⟨_,_,h0,h1,h2,h3,h4,h5,h6,h7⟩:=h;intro j;unfold Ev.attr;split<;>assumption
theorem zT9 {e:Ev} (h:zHc e) (p:Int):Rng (zFt e p).n:=by
 unfold zFt;split
 ·exact h.1
 ·split
  ·exact yCr h _
  ·simp[unk,Rng]
theorem zJ9:Rng unk.n:=by simp[unk,Rng]
theorem zM5 {l:List Ev} (h:∀e∈l,zHc e) (i:Int) (col:List Int):Rng (zLp l i col).n:=by
 unfold zLp;split
 ·exact zJ9
 ·split
  ·exact zJ9
  ·rename_i e he
   split
   ·exact zJ9
   ·exact zT9 (h e (xW he)) _
theorem zT8 {e:Ev} {p:Int} (h:(zFt e p).k=false):zFt e p=unk:=by
 unfold zFt at h ⊢;split
 ·rename_i hc;rw[if_pos hc]at h;cases h
 ·rename_i hc
  rw[if_neg hc]at h;split
  ·rename_i hd;rw[if_pos hd]at h;cases h
  ·rfl
theorem yBf {l:List Ev} {i:Int} {col:List Int} (h:(zLp l i col).k=false):zLp l i col=unk:=by
 unfold zLp at h ⊢;split
 ·rfl
 ·rename_i hc
  rw[if_neg hc]at h;split
  ·rfl
  ·rename_i e he
   simp only[he]at h;split
   ·rfl
   ·rename_i p hp
    simp only[hp]at h;exact zT8 h
def zMi (l:List Ev) (col:List Int) (j:Nat):List Int:=(List.range j).map fun i:Nat=>(zLp l (i:Int) col).n
theorem zZf (l:List Ev) (col:List Int) (j:Nat):zMi l col (j+1)=zMi l col j++[(zLp l (j:Int) col).n]:=by simp[zMi,zCs]
theorem zTr (l:List Ev) (col:List Int) (j:Nat):(zMi l col j).length=j:=by simp[zMi]
theorem yCl {l:List Ev} (h:∀e∈l,zHc e) (col:List Int) (j:Nat):All (zMi l col j):=fun x hx=>by
 simp only[zMi,xU]at hx;obtain⟨i,_,rfl⟩:=hx;exact zM5 h _ _
def zD3 (l:List Ev) (col:List Int) (j:Nat):Bool:=(List.range j).all fun i:Nat=>(zLp l (i:Int) col).k
theorem zI3 (l:List Ev) (col:List Int) (j:Nat):zD3 l col (j+1)=(zD3 l col j&&(zLp l (j:Int) col).k):=by simp[zD3,zCs]
theorem zU1 {l:List Ev} {col:List Int} {j m:Nat} (hj:j≤m) (h:zD3 l col m=true):zD3 l col j=true:=by
 simp only[zD3,zR,zAm]at h ⊢;exact fun i hi=>h i (by omega)
def yEi (l:List Ev) (col:List Int) (op:Int):V:=if zD3 l col l.length=true then zF6 zWo op (zMi l col l.length)else unk
structure Ins where
 code:Int
 item:Int
 col:Int
 n:Int
 to:Int
deriving DecidableEq
def zBb (i:Ins):List AV:=[ii i.code,ii i.item,ii i.col,ii i.n,ii i.to]
def yKf (i:Ins):Prop:=Rng i.code∧Rng i.item∧Rng i.col∧Rng i.n∧Rng i.to
structure Pr where
 code:List Ins
 cols:List (List Int)
deriving DecidableEq
structure En where
 ls:List (List Ev)
 each:Int
 pos:Int
deriving DecidableEq
def zAn (ls:List (List Ev)) (i:Int):List Ev:=if i<0 then []else ls.getD i.toNat []
def wG (i:Ins) (col:List Int) (e:En):V :=
 if i.code=4 then xX (zAn e.ls i.item).length
 else if i.code=3 then (if (i.item=e.each∧0≤i.item)∧1≤e.pos then zLp (zAn e.ls i.item) (e.pos-1) col else unk)
 else if i.code=2 then (if i.item=e.each∧0≤i.item then zLp (zAn e.ls i.item) e.pos col else zLp (zAn e.ls i.item) 0 col)
 else yEi (zAn e.ls i.item) col (i.code+1)
def zBi (p:Pr) (e:En) (i:Ins) (pos:Nat) (st:List V):Option (Nat×List V) :=
 if zAf i.code<0∨(st.length:Int)<zAf i.code then none
 else if i.code=1 then some (pos+1,st++[xX i.n])
 else if i.code=4 then some (pos+1,st++[wG i [] e])
 else if i.code≤9 then (if i.col<0 then none else match p.cols[i.col.toNat]? with
  | none=>none
  | some c=>some (pos+1,st++[wG i c e]))
 else if i.code=10 then some (pos+1,st.dropLast++[zXw (st.getLastD unk)])
 else if i.code=11 then some (pos+1,st.dropLast++[yBh (st.getLastD unk)])
 else if 25≤i.code then (if i.to≤pos∨i.to > p.code.length then none
  else if (st.getLastD unk).k=true∧((st.getLastD unk).n≠0↔i.code=26)then some (i.to.toNat,st)else some (pos+1,st))
 else some (pos+1,st.dropLast.dropLast++[zCd (i.code+2) (st.dropLast.getLastD unk) (st.getLastD unk)])
def bad:V×Int:=(unk,70)
def yG4 (st:List V):V×Int:=match st with
 | [v]=>(v,0)
 | _=>bad
def zZv (p:Pr) (e:En):Nat→Nat→List V→V×Int
 | 0,_,st=>yG4 st
 | k+1,pos,st=>match p.code[pos]? with
  | none=>yG4 st
  | some i=>match zBi p e i pos st with
   | none=>bad
   | some q=>zZv p e k q.1 q.2
def zSc (p:Pr) (e:En):V×Int:=zZv p e p.code.length 0 []
def zDc (p:Pr) (e:En):Bool:=(zSc p e).2==0&&zLi (zSc p e).1
theorem zQu {p:Pr} {e:En} {i:Ins} {pos:Nat} {st:List V} {q:Nat×List V} (hp:pos<p.code.length) (h:zBi p e i pos st=some q):pos<q.1∧q.1≤p.code.length∧q.2.length≤st.length+1:=by
 unfold zBi at h;have hd:st.dropLast.length≤st.length:=by simp
 have hd2:st.dropLast.dropLast.length≤st.length:=by simp;omega
 repeat' split at h
 all_goals first|(cases h;done)|(simp only[Option.some.injEq]at h;subst h;simp only[zM,List.length_cons,zAc];omega)
section
variable {p:Pr} {e:En} {i:Ins} {pos:Nat} {st:List V} (hr:¬(zAf i.code<0∨(st.length:Int)<zAf i.code))
include hr
theorem zHi (h:i.code=1):zBi p e i pos st=some (pos+1,st++[xX i.n]):=by
 simp only[zBi,if_neg hr,if_pos h]
theorem zLt (h:i.code=4):zBi p e i pos st=some (pos+1,st++[wG i [] e]):=by
 simp only[zBi,if_neg hr,if_neg (show ¬i.code=1 by omega),if_pos h]
theorem zWr (h:2≤i.code∧i.code≤9∧i.code≠4) (hc:i.col<0):zBi p e i pos st=none:=by
 simp only[zBi,if_neg hr,if_neg (show ¬i.code=1 by omega),if_neg h.2.2,if_pos h.2.1,if_pos hc]
theorem zWs (h:2≤i.code∧i.code≤9∧i.code≠4) (hc:(p.cols.length:Int)≤i.col):zBi p e i pos st=none:=by
 have:p.cols[i.col.toNat]? = none:=zG (by omega)
 simp only[zBi,if_neg hr,if_neg (show ¬i.code=1 by omega),if_neg h.2.2,if_pos h.2.1,if_neg (show ¬i.col<0 by omega),this]
theorem zJj (h:2≤i.code∧i.code≤9∧i.code≠4) {c:List Int} (h0:¬i.col<0) (hc:p.cols[i.col.toNat]? = some c):zBi p e i pos st=some (pos+1,st++[wG i c e]):=by
 simp only[zBi,if_neg hr,if_neg (show ¬i.code=1 by omega),if_neg h.2.2,if_pos h.2.1,if_neg h0,hc]
theorem zR9 (h:i.code=10):zBi p e i pos st=some (pos+1,st.dropLast++[zXw (st.getLastD unk)]):=by
 simp only[zBi,if_neg hr,if_neg (show ¬i.code=1 by omega),if_neg (show ¬i.code=4 by omega),if_neg (show ¬i.code≤9 by omega),if_pos h]
theorem zR8 (h:i.code=11):zBi p e i pos st=some (pos+1,st.dropLast++[yBh (st.getLastD unk)]):=by
 simp only[zBi,if_neg hr,if_neg (show ¬i.code=1 by omega),if_neg (show ¬i.code=4 by omega),if_neg (show ¬i.code≤9 by omega),if_neg (show ¬i.code=10 by omega),if_pos h]
theorem zOs (h:25≤i.code) (ht:i.to≤pos∨i.to > p.code.length):zBi p e i pos st=none:=by
 simp only[zBi,if_neg hr,if_neg (show ¬i.code=1 by omega),if_neg (show ¬i.code=4 by omega),if_neg (show ¬i.code≤9 by omega),if_neg (show ¬i.code=10 by omega),if_neg (show ¬i.code=11 by omega),if_pos h,if_pos ht]
theorem zOr (h:25≤i.code) (ht:¬(i.to≤pos∨i.to > p.code.length)) (hj:(st.getLastD unk).k=true∧((st.getLastD unk).n≠0↔i.code=26)):zBi p e i pos st=some (i.to.toNat,st):=by
 simp only[zBi,if_neg hr,if_neg (show ¬i.code=1 by omega),if_neg (show ¬i.code=4 by omega),if_neg (show ¬i.code≤9 by omega),if_neg (show ¬i.code=10 by omega),if_neg (show ¬i.code=11 by omega),if_pos h,if_neg ht,if_pos hj]
theorem zOq (h:25≤i.code) (ht:¬(i.to≤pos∨i.to > p.code.length)) (hj:¬((st.getLastD unk).k=true∧((st.getLastD unk).n≠0↔i.code=26))):zBi p e i pos st=some (pos+1,st):=by
 simp only[zBi,if_neg hr,if_neg (show ¬i.code=1 by omega),if_neg (show ¬i.code=4 by omega),if_neg (show ¬i.code≤9 by omega),if_neg (show ¬i.code=10 by omega),if_neg (show ¬i.code=11 by omega),if_pos h,if_neg ht,if_neg hj]
theorem zR7 (h:12≤i.code∧i.code<25):zBi p e i pos st=some (pos+1,st.dropLast.dropLast++[zCd (i.code+2) (st.dropLast.getLastD unk) (st.getLastD unk)]):=by
 simp only[zBi,if_neg hr,if_neg (show ¬i.code=1 by omega),if_neg (show ¬i.code=4 by omega),if_neg (show ¬i.code≤9 by omega),if_neg (show ¬i.code=10 by omega),if_neg (show ¬i.code=11 by omega),if_neg (show ¬25≤i.code by omega)]
end
theorem zMe (p:Pr) (e:En):∀(k m pos:Nat) (st:List V),p.code.length-pos≤k→p.code.length-pos≤m→zZv p e k pos st=zZv p e m pos st
 | 0,0,_,_,_,_=>rfl
 | 0,m+1,pos,st,h,_=>by
  have:p.code[pos]? = none:=zG (by omega)
  simp only[zZv,this]
 | k+1,0,pos,st,_,h=>by
  have:p.code[pos]? = none:=zG (by omega)
  simp only[zZv,this]
 | k+1,m+1,pos,st,h1,h2=>by
  simp only[zZv];split
  ·rfl
  ·rename_i i hi
   split
   ·rfl
   ·rename_i q hq
    have hp:pos<p.code.length:=(yB.1 hi).1;have:=zQu hp hq;exact zMe p e k m q.1 q.2 (by omega) (by omega)
def zHx (p:Pr) (e:En) (pos:Nat) (st:List V):V×Int:=zZv p e (p.code.length-pos) pos st
theorem zYn {p:Pr} {e:En} {pos:Nat} {st:List V} (h:pos<p.code.length) (hs:zBi p e p.code[pos] pos st=none):zHx p e pos st=bad:=by
 unfold zHx;obtain⟨k,hk⟩:∃k,p.code.length-pos=k+1:=⟨p.code.length-pos-1,by omega⟩
 rw[hk];simp only[zZv,zA h,hs]
theorem zEz {p:Pr} {e:En} {pos:Nat} {st:List V} {q:Nat×List V} (h:pos<p.code.length) (hs:zBi p e p.code[pos] pos st=some q):zHx p e pos st=zHx p e q.1 q.2:=by
 unfold zHx;obtain⟨k,hk⟩:∃k,p.code.length-pos=k+1:=⟨p.code.length-pos-1,by omega⟩
 rw[hk];simp only[zZv,zA h,hs];have:=zQu h hs;exact zMe p e k _ q.1 q.2 (by omega) (by omega)
theorem zS8 {p:Pr} {e:En} {pos:Nat} {st:List V} (h:p.code.length≤pos):zHx p e pos st=yG4 st:=by
 unfold zHx;rw[show p.code.length-pos=0 by omega]
 rfl
theorem zSb (p:Pr) (e:En):zSc p e=zHx p e 0 []:=by unfold zSc zHx;rfl
end Go.Proofs.YtbffkkeieihpdaaGreatDoor
namespace Go.Proofs.YtbffkkeieihpdaaGreatDoor
open Go Go.Eng
theorem zWz:Rng 0:=by unfold Rng;omega
theorem zMz (r:Int):Rng (zEs r).n:=by
 unfold zEs Rng;split
 ·simp only[];omega
 split
 ·simp only[];omega
 ·simp only[];omega
theorem yHm (o:Int) (a b:V):Rng (yHo o a b).n:=by
 unfold yHo
 repeat' split
 all_goals first|exact zUd _|exact zWz
theorem zZm (o:Int) {a b:V} (ha:Rng a.n) (hb:Rng b.n):Rng (zCd o a b).n:=by
 unfold zCd;split
 ·rw[yHx ha hb];unfold yMz on2;split<;>first|exact zGi _|exact zWz
 split
 ·rw[yE4 ha hb];unfold yLs on2;split<;>first|exact zGi _|exact zWz
 split
 ·rw[yF8 ha hb];unfold yI8 on2;split<;>first|exact zGi _|exact zWz
 split
 ·rw[yG6 ha];unfold yMo on2
  split
  ·simp only[]
   split
   ·exact zWz
   ·exact zGi _
  ·exact zWz
 split
 ·rw[yGb];unfold yMb on2
  split
  ·simp only[]
   split
   ·exact zWz
   ·rename_i h
    obtain⟨_,t1,t2,_,_⟩:=zQt (x:=a.n) h;have t3:=Int.natAbs_tmod a.n b.n;have t4:a.n.natAbs%b.n.natAbs≤a.n.natAbs:=Nat.mod_le _ _;unfold Rng at ha ⊢;simp only[xX];rcases Int.le_total 0 a.n with h0|h0
    ·have:=t1 h0;omega
    ·have:=t2 h0;omega
  ·exact zWz
 split
 ·exact zMz _
 split
 ·exact zMz _
 ·exact yHm _ _ _
theorem zYp (g:Bool) (l:List Int) (h:0<l.length):∀j,zJe g l j∈l:=fun j=>by
 unfold zJe;have:∀(m:List Int) (x:Int),(∀y∈m,y∈l)→x∈l→m.foldl (fun (m x:Int)=>if (if g=true then decide (m<x)else decide (x<m))=true then x else m) x∈l:=fun m=>by
  induction m with
  | nil=>exact fun x _ hx=>hx
  | cons y m ih =>
   intro x hm hx;rw[List.foldl_cons];refine ih _ (fun z hz=>hm z (by simp[hz])) ?_
   generalize (if g=true then decide (x<y)else decide (y<x))=c
   cases c
   ·exact hx
   ·exact hm y (by simp)
 refine this _ _ (fun y hy=>List.mem_of_mem_take hy) ?_
 rw[zB,zA h];exact zH h
theorem yB6 (o:Int) {l:List Int} (ha:All l) (hl:l.length≤2199023255552):Rng (zF6 zWo o l).n:=by
 unfold zF6;split
 ·unfold Rng xX;simp only[];omega
 split
 ·rw[yE2 ha (by unfold big;omega)];exact zGi _
 split
 ·exact zWz
 rename_i hne;have hp:0<l.length:=List.length_pos_iff.2 hne;split
 ·exact ha _ (zYp _ _ hp _)
 split
 ·exact ha _ (zYp _ _ hp _)
 split
 ·simp only[xX];rw[zB,zA hp];exact ha _ (zH _)
 split
 ·simp only[xX];rw[zB,zA (by omega)];exact ha _ (zH _)
 ·exact zWz
theorem yF5 {a:V} (ha:Rng a.n):Rng (zXw a).n:=by
 rw[yF6 ha];unfold yL9;split
 ·exact zGi _
 ·exact zWz
theorem yF2 (a:V):Rng (yBh a).n:=zMz _
theorem yHv {l:List Ev} (h:∀e∈l,zHc e) (hl:l.length≤2199023255552) (col:List Int) (op:Int):Rng (yEi l col op).n:=by
 unfold yEi;split
 ·exact yB6 op (yCl h _ _) (by simp[zMi];omega)
 ·exact zJ9
theorem zQ3 {i:Ins} {col:List Int} {e:En} (h:∀x∈zAn e.ls i.item,zHc x) (hl:(zAn e.ls i.item).length≤2199023255552):Rng (wG i col e).n:=by
 unfold wG;split
 ·simp only[xX,Rng];omega
 split
 ·split
  ·exact zM5 h _ _
  ·exact zJ9
 split
 ·split<;>exact zM5 h _ _
 ·exact yHv h hl _ _
end Go.Proofs.YtbffkkeieihpdaaGreatDoor
namespace Go.Proofs.YtbffkkeieihpdaaGreatDoor
open Go Go.Eng
def dEv:De Ev where
 run _ l:=yKn l
 sim _ e:=e
theorem zTm (e:Ev):deE (.g (zAo e))=some e:=rfl
def yEc:List AV→Option Ins
 | [.v (.int .i64 a),.v (.int .i64 b),.v (.int .i64 c),.v (.int .i64 d),.v (.int .i64 e)]=>some ⟨a,b,c,d,e⟩
 | _=>none
theorem zNo {l:List AV} {i:Ins} (h:yEc l=some i):l=zBb i:=by
 unfold yEc at h;split at h
 ·cases h;rfl
 ·cases h
def yNc:De Ins where
 run _ l:=yEc l
 sim _ e:=e
def zP1:AV→Option Ins
 | .g l=>yEc l
 | _=>none
def iv (i:Ins):AV:=.g (zBb i)
theorem zY4 {x:AV} {i:Ins} (h:zP1 x=some i):x=iv i:=by
 unfold zP1 at h;split at h
 ·rw[zNo h];rfl
 ·cases h
def dEs:De (List Ev):=De.sl 11 dEv
def dIs:De (List Int):=De.sl 1 (De.int .i64)
def dPs:De (List Ins):=De.sl 5 yNc
def zFr:De (List (List Ev)):=De.sl 1 dEs
def yEd:De (List (List Int)):=De.sl 1 dIs
def rd {α:Type} (d:De α) (h:Heap) (a:AV):Option α:=d.run h [a]
theorem yZ {α:Type} {d:De α} {h h':Heap} (hh:h.le h') {a:AV} {x:α} (e:rd d h a=some x):rd d h' a=some x:=d.mono hh e
theorem zAe {α:Type} {d:De α} {h h':Heap} (hh:h.sim h') {a:AV} {x:α} (e:rd d h a=some x):rd d h' a=some x:=d.sim hh e
theorem zN {α:Type} {sz:Nat} {d:De α} {h:Heap} {a:AV} {l:List α} (e:rd (De.sl sz d) h a=some l):a.isS∧a.slen=l.length∧(∀g,AV.unc g a=a)∧a.one∧a.cells=[a]:=by
 rcases De.sl_out e with ⟨h0,h1|h1⟩|⟨id,off,k,h1,h2,h3,h4⟩
 ·simp only[List.cons.injEq,and_true]at h1;subst h1;subst h0;exact⟨⟨rfl,rfl⟩,rfl,fun _=>rfl,rfl,rfl⟩
 ·simp only[List.cons.injEq,and_true]at h1;subst h1;subst h0;exact⟨trivial,rfl,fun _=>rfl,trivial,rfl⟩
 ·simp only[List.cons.injEq,and_true]at h1;subst h1;exact⟨trivial,rfl,fun _=>rfl,trivial,rfl⟩
theorem zD8 {α:Type} {sz:Nat} {d:De α} {h:Heap} {a:AV} {l:List α} (e:rd (De.sl sz d) h a=some l):(l=[]∧(a=.v (.slice none 0 0)∨a=.e))∨
  ∃id off k,a=.s id k.ver off l.length∧h id=some k∧off+l.length*sz≤k.cells.length∧∀i (hi:i<l.length),d.run h ((k.cells.drop (off+i*sz)).take sz)=some l[i]:=by
 rcases De.sl_out e with ⟨h0,h1|h1⟩|⟨id,off,k,h1,h2,h3,h4⟩
 ·simp only[List.cons.injEq,and_true]at h1
  exact .inl ⟨h0,.inl h1⟩
 ·simp only[List.cons.injEq,and_true]at h1
  exact .inl ⟨h0,.inr h1⟩
 ·simp only[List.cons.injEq,and_true]at h1
  exact .inr ⟨id,off,k,h1,h2,h3,h4⟩
theorem yI {l r:List AV} {o n c:Nat} {x:AV} (h:(l.drop o).take n=r) (hc:r[c]? = some x) (hn:c<n):l[o+c]? = some x:=by
 rw[←h,zY hn,xA]at hc;exact hc
theorem yMm {h:Heap} {a:AV} {l:List Ev} (e:rd dEs h a=some l):(l=[]∧(a=.v (.slice none 0 0)∨a=.e))∨
  ∃id off k,a=.s id k.ver off l.length∧h id=some k∧off+l.length*11≤k.cells.length∧∀i (hi:i<l.length),(k.cells.drop (off+i*11)).take 11=zAo l[i]:=by
 rcases zD8 e with h0|⟨id,off,k,h1,h2,h3,h4⟩
 ·exact .inl h0
 ·exact .inr ⟨id,off,k,h1,h2,h3,fun i hi=>zNq (h4 i hi)⟩
theorem yIy {h:Heap} {a:AV} {l:List Ins} (e:rd dPs h a=some l):(l=[]∧(a=.v (.slice none 0 0)∨a=.e))∨
  ∃id off k,a=.s id k.ver off l.length∧h id=some k∧off+l.length*5≤k.cells.length∧∀i (hi:i<l.length),(k.cells.drop (off+i*5)).take 5=zBb l[i]:=by
 rcases zD8 e with h0|⟨id,off,k,h1,h2,h3,h4⟩
 ·exact .inl h0
 ·exact .inr ⟨id,off,k,h1,h2,h3,fun i hi=>zNo (h4 i hi)⟩
theorem zYh {h:Heap} {a:AV} {l:List Int} (e:rd dIs h a=some l):(l=[]∧(a=.v (.slice none 0 0)∨a=.e))∨
  ∃id off k,a=.s id k.ver off l.length∧h id=some k∧off+l.length≤k.cells.length∧∀i (hi:i<l.length),k.cells[off+i]? = some (ii l[i]):=by
 rcases zD8 e with h0|⟨id,off,k,h1,h2,h3,h4⟩
 ·exact .inl h0
 ·rw[xM]at h3
  refine .inr ⟨id,off,k,h1,h2,h3,fun i hi => ?_⟩
  have:=h4 i hi;rw[xM]at this
  simp only[De.int]at this
  split at this
  ·rename_i k' n' hq
   split at this
   ·rename_i hkk
    have h5:=yI (c:=0) hq rfl (by omega)
    simp only[Option.some.injEq]at this
    rw[yL]at h5;rw[h5,hkk,this];rfl
   ·cases this
  ·cases this
theorem zLu {α:Type} {sz:Nat} {d:De α} {h:Heap} {a:AV} {l:List (List α)} (e:rd (De.sl 1 (De.sl sz d)) h a=some l):(l=[]∧(a=.v (.slice none 0 0)∨a=.e))∨
  ∃id off k,a=.s id k.ver off l.length∧h id=some k∧off+l.length≤k.cells.length∧∀i (hi:i<l.length),∃c,k.cells[off+i]? = some c∧rd (De.sl sz d) h c=some l[i]:=by
 rcases zD8 e with h0|⟨id,off,k,h1,h2,h3,h4⟩
 ·exact .inl h0
 ·rw[xM]at h3
  refine .inr ⟨id,off,k,h1,h2,h3,fun i hi => ?_⟩
  have:=h4 i hi;rw[xM]at this
  have hlt:off+i<k.cells.length:=by omega
  refine⟨k.cells[off+i],zA hlt,?_⟩;have e2:(k.cells.drop (off+i)).take 1=[k.cells[off+i]]:=by
   rw[List.take_one,List.head?_drop,zA hlt];rfl
  rw[e2]at this
  exact this
def zGo (h:Heap) (a:AV) (i:Nat):AV:=match a with
 | .s id _ off _=>match h id with
  | some k=>k.cells.getD (off+i) .any
  | none=>.any
 | _=>.any
theorem yCn {α:Type} {sz:Nat} {d:De α} {h:Heap} {a:AV} {l:List (List α)} (e:rd (De.sl 1 (De.sl sz d)) h a=some l) {i:Nat} (hi:i<l.length):rd (De.sl sz d) h (zGo h a i)=some l[i]:=by
 rcases zLu e with ⟨h0,_⟩|⟨id,off,k,rfl,h2,h3,h4⟩
 ·subst h0;simp at hi
 ·obtain⟨c,h5,h6⟩:=h4 i hi
  simp only[zGo,h2,zB,h5,wM];exact h6
theorem zZi {α:Type} {d:De α} {h h':Heap} (hh:h.le h') {a:AV} {l:List α} (e:rd (De.sl 1 d) h a=some l) (i:Nat):zGo h' a i=zGo h a i:=by
 rcases zD8 e with ⟨_,rfl|rfl⟩|⟨id,off,k,rfl,h2,_⟩
 ·rfl
 ·rfl
 ·simp only[zGo,h2,hh _ _ h2]
theorem yIp {α:Type} {sz:Nat} {d:De α} {h:Heap} {a:AV} {l:List α} (e:rd (De.sl sz d) h a=some l):a.inH h:=by
 rcases zD8 e with ⟨_,rfl|rfl⟩|⟨id,off,k,rfl,h2,_⟩
 ·simp[AV.inH]
 ·simp[AV.inH]
 ·simp only[AV.inH];exact⟨k,h2,rfl⟩
def zLr (h:Heap):AV→Option Pr
 | .g [a,b]=>match rd dPs h a,rd yEd h b with
  | some x,some y=>some ⟨x,y⟩
  | _,_=>none
 | _=>none
theorem zFe {h:Heap} {x:AV} {p:Pr} (e:zLr h x=some p):∃a b,x=.g [a,b]∧rd dPs h a=some p.code∧rd yEd h b=some p.cols:=by
 unfold zLr at e;split at e
 ·rename_i a b
  split at e
  ·rename_i x y e1 e2
   cases e;exact⟨a,b,rfl,e1,e2⟩
  ·cases e
 ·cases e
theorem zKz {h:Heap} {a b:AV} {p:Pr} (h1:rd dPs h a=some p.code) (h2:rd yEd h b=some p.cols):zLr h (.g [a,b])=some p:=by simp only[zLr,h1,h2]
theorem zJx {h h':Heap} (hh:h.sim h') {x:AV} {p:Pr} (e:zLr h x=some p):zLr h' x=some p:=by
 obtain⟨a,b,rfl,e1,e2⟩:=zFe e;exact zKz (zAe hh e1) (zAe hh e2)
def zTl (h:Heap):AV→Option En
 | .g [a,.v (.int .i64 each),.v (.int .i64 pos)]=>match rd zFr h a with
  | some x=>some ⟨x,each,pos⟩
  | _=>none
 | _=>none
theorem zH1 {h:Heap} {x:AV} {p:En} (e:zTl h x=some p):∃a,x=.g [a,ii p.each,ii p.pos]∧rd zFr h a=some p.ls:=by
 unfold zTl at e;split at e
 ·rename_i a each pos
  split at e
  ·rename_i x e1
   cases e;exact⟨a,rfl,e1⟩
  ·cases e
 ·cases e
theorem zIq {h:Heap} {a:AV} {e:En} (h1:rd zFr h a=some e.ls):zTl h (.g [a,.v (.int .i64 e.each),.v (.int .i64 e.pos)])=some e:=by simp only[zTl,h1]
theorem zNp {h h':Heap} (hh:h.sim h') {x:AV} {p:En} (e:zTl h x=some p):zTl h' x=some p:=by
 obtain⟨a,rfl,e1⟩:=zH1 e;exact zIq (zAe hh e1)
theorem zSd (h:Heap) {id:Nat} {k:Blk} (e:h id=some k):roH h id=some k.ro:=by simp[roH,e]
def agree (n:Nat) (h0 h:Heap):Prop:=∀j,j<n→h j=h0 j
theorem zE (n:Nat) (h:Heap):agree n h h:=fun _ _=>rfl
theorem zD {n:Nat} {h0 h:Heap} {i:Nat} (hi:n≤i) (b:Option Blk):agree n h0 (up h i b)↔agree n h0 h:=by
 constructor
 ·intro hh j hj
  have:=hh j hj
  rwa [zP _ _ (by omega)]at this
 ·intro hh j hj
  rw[zP _ _ (by omega)]
  exact hh j hj
theorem zE4 {n:Nat} {h h':Heap} (hn:∀i,n≤i→h i=none) (ha:agree n (roH h) h'):h.sim h':=fun i k e=>by
 have hi:i<n:=by
  by_cases hi:i<n
  ·exact hi
  ·rw[hn i (by omega)]at e;cases e
 exact⟨k.ro,by rw[ha i hi];exact zSd h e,rfl,rfl⟩
theorem xP {α:Type} {d:De α} {h:Heap} {n:Nat} {a:AV} {x:α} (hn:∀i,n≤i→h i=none) (e:rd d h a=some x):∀h',agree n (roH h) h'→rd d h' a=some x:=fun _ ha=>zAe (zE4 hn ha) e
theorem zSh {h:Heap} {n:Nat} {a:AV} {x:Pr} (hn:∀i,n≤i→h i=none) (e:zLr h a=some x):∀h',agree n (roH h) h'→zLr h' a=some x:=fun _ ha=>zJx (zE4 hn ha) e
theorem zTg {h:Heap} {n:Nat} {a:AV} {x:En} (hn:∀i,n≤i→h i=none) (e:zTl h a=some x):∀h',agree n (roH h) h'→zTl h' a=some x:=fun _ ha=>zNp (zE4 hn ha) e
theorem wR {n id:Nat} {h h':Heap} {k:Blk} (hn:∀i,n≤i→h i=none) (hk:h id=some k) (ha:agree n (roH h) h'):h' id=some ⟨k.cells,k.ver,false,k.esz⟩:=by
 have hi:id<n:=by
  by_cases hi:id<n
  ·exact hi
  ·rw[hn id (by omega)]at hk;cases hk
 rw[ha id hi];exact zEj hk
theorem xB {h:Heap} {id n:Nat} {k:Blk} (hk:h id=some k) (hn:∀i,n≤i→h i=none):id<n:=by
 by_cases hi:id<n
 ·exact hi
 ·rw[hn id (by omega)]at hk;cases hk
def zGk {α:Type} (de:Heap→List AV→Option α) (f:Heap→List AV→α→AV):List AV→Heap→PRes:=fun args h=>match de h args with
 | some a=>⟨True,f h args a⟩
 | none=>⟨False,.any⟩
theorem mkS {S : List Nat} {l : List (FuncId × (List AV → Heap → PRes))} {f : FuncId} {fn : Func} {c : Code} (k : Nat) (ok : zQh S l) (hf : Tryz.prog.funcs[f]? = some fn) (hb : fn.body = some c) (hok : (!(fn.name == "runtime.NumGoroutine") && zU6 (cx S (pfL l)) fn c && decide (k ≤ fn.ntmps)) = true)
  {α:Type} {de:Heap→List AV→Option α} {g:Heap→List AV→α→AV} (hm:∀h h' l x,h.le h'→de h l=some x→de h' l=some x∧g h' l x=g h l x) (hk:∀h l x,de h l=some x→l.length≤k) (hg:∀h l a,de h l=some a→(g h l a).inH h)
  (h1:∀args a h n,de h args=some a→(∀i,n≤i→h i=none)→awp (cx S (pfL l)) c (zBc (cx S (pfL l)) fn fun z _ _=>z=g h args a) ⟨env0 args,roH h,n⟩):P0 S f (zGk de g):=by
 have hok':=yGw hok;have hout:∀args h,(zGk de g args h).side→∃a,de h args=some a∧∀h',h.le h'→zGk de g args h'=⟨True,g h args a⟩:=fun args h hs=>by
  unfold zGk at hs;split at hs
  ·rename_i a e
   exact⟨a,e,fun h' hh=>by simp only[zGk,(hm _ _ _ _ hh e).1,(hm _ _ _ _ hh e).2]⟩
  ·exact hs.elim
 exact zC4 (fun _ hx=>hx) (zO4 (zAr ok) (zB3 _ _) hf hb hok'.2.1 (xK hf hok'.1 (by rw[hb];rfl) _ _) (fun args h h' hh hs=>by
   obtain⟨a,e,hall⟩:=hout args h hs;rw[hall h' hh,hall h (fun _ _ e=>e)]
   exact⟨trivial,rfl⟩) fun args h hs=>by
  obtain⟨a,e,hall⟩:=hout args h hs;have hv:=hall h (fun _ _ e=>e)
  exact⟨xL (hk _ _ _ e) hok'.2.2,by rw[hv];exact hg h args a e,fun n hn=>by rw[hv];exact h1 args a h n e hn⟩)
def Own (h:Heap) (lo n:Nat) (a:AV) (cnt:Nat) (cells:List AV) (esz:Nat):Prop :=
 (cnt=0∧cells=[]∧a=.v (.slice none 0 0))∨∃w u,a=.s w u 0 cnt∧h w=some ⟨cells,u,true,esz⟩∧lo≤w∧w<n
def Fresh (n:Nat) (h:Heap):Prop:=∀q,n≤q→h q=none
theorem zF {n:Nat} {h:Heap} {i:Nat} (hi:i<n) (b:Option Blk):Fresh n (up h i b)↔Fresh n h:=by
 constructor
 ·intro hh q hq
  have:=hh q hq
  rwa [zP _ _ (by omega)]at this
 ·intro hh q hq
  rw[zP _ _ (by omega)]
  exact hh q hq
theorem Fresh.add {n:Nat} {h:Heap} (hf:Fresh n h) (k:Nat):Fresh (n+k) h:=fun q hq=>hf q (by omega)
theorem Fresh.mono {n m:Nat} {h:Heap} (hf:Fresh n h) (hm:n≤m):Fresh m h:=fun q hq=>hf q (by omega)
def zWw (q:List Ev×Int×List Int):Prop:=q.1.length<big∧q.2.2.length<big
def zJg (h:Heap):List AV→Option (List Ev×Int×List Int)
 | [a,.v (.int .i64 x),c]=>match rd dEs h a,rd dIs h c with
  | some l,some col=>some (l,x,col)
  | _,_=>none
 | _=>none
theorem zK5 {h:Heap} {args:List AV} {q:List Ev×Int×List Int} (e:zJg h args=some q):∃a c,args=[a,ii q.2.1,c]∧rd dEs h a=some q.1∧rd dIs h c=some q.2.2:=by
 unfold zJg at e;split at e
 ·split at e
  ·rename_i e1 e3
   cases e;exact⟨_,_,rfl,e1,e3⟩
  ·cases e
 ·cases e
theorem zVf (h h':Heap) (args:List AV) (q:List Ev×Int×List Int) (hh:h.le h') (e:zJg h args=some q):zJg h' args=some q:=by
 obtain⟨a,c,rfl,e1,e3⟩:=zK5 e;simp only[zJg,yZ hh e1,yZ hh e3,ii]
def zV0:=yH zJg zWw fun q=>vv (zLp q.1 q.2.1 q.2.2)
theorem yGe {X:Ctx} {h:Heap} {id ver o:Nat} {k:Blk} {e:Ev} (hk:h id=some k) (he:(k.cells.drop o).take 11=zAo e):ldcs X h (.p id ver o) 0 11=zAo e:=by
 have hc:∀c x,(zAo e)[c]? = some x→c<11→ldc X h (.p id ver o) c=x:=fun c x hx hc=>by
  simp only[ldc,hk,zB,yI he hx hc,wM]
 simp only[ldcs,zAo];rw[hc 0 _ rfl (by omega),hc 1 _ rfl (by omega),hc 2 _ rfl (by omega),hc 3 _ rfl (by omega),hc 4 _ rfl (by omega),hc 5 _ rfl (by omega),hc 6 _ rfl (by omega),hc 7 _ rfl (by omega),hc 8 _ rfl (by omega),hc 9 _ rfl (by omega),hc 10 _ rfl (by omega)]
def yIn:List (FuncId×(List AV→Heap→PRes)):=[(212,yMe)]
theorem yM9:P0 [] 184 zV0:=by
 refine mkH 3 (S:=[]) (l:=yIn) (zS yOv yJ) Tryz.func184 rfl (by kernel_rfl) zVf (fun h l x e=>by obtain⟨a,c,rfl,_⟩:=zK5 e;exact zC _) (fun a=>rfl) (fun args q h n e hp hn => ?_)
 obtain⟨l,i,c'⟩:=q;obtain⟨a,c,rfl,e1,e3⟩:=zK5 e;simp only[]at e1 e3 ⊢;obtain⟨s1,s2,s3,s4,s5⟩:=zN e1;obtain⟨t1,t2,t3,t4,t5⟩:=zN e3;by_cases hi:i<0
 ·simp[evw,ii,vv,zLp,unk,hi,s1,s2,s3]
 ·obtain⟨j,rfl⟩:∃j:Nat,i=j:=⟨i.toNat,by omega⟩
  have hbig:=hp.1;by_cases hj:j<l.length
  ·rcases yMm e1 with ⟨rfl,_⟩|⟨id,off,k,rfl,hk,ho,hat⟩
   ·simp at hj
   have hr:=hat j hj;have c2:=yI (c:=2) hr rfl (by omega)
   rw[xD]at c2;have hro:=zEj hk;have h0:=zJc hk hn 0;simp only[yL]at h0;have hle:∀(X:Ctx) (h':Heap),h' id=some ⟨k.cells,k.ver,false,k.esz⟩→ldcs X h' (.p id k.ver (off+j*11)) 0 11=zAo l[j]:=fun X h' e=>yGe e hr
   have hw:off+(j*11+11)≤k.cells.length:=by omega
   have hw2:off+(j*11+3)≤k.cells.length:=by omega
   have hj':¬l.length≤j:=by omega
   by_cases ht:l[j].ty<0
   ·simp[evw,ii,vv,zLp,zM3,unk,hj,hj',ht,hro,h0,c2,hw2,t1,t2,t3]
   ·obtain⟨t,htt⟩:∃t:Nat,l[j].ty=t:=⟨l[j].ty.toNat,by omega⟩
    rw[htt]at c2;by_cases hc:t<c'.length
    ·rcases zYh e3 with ⟨rfl,_⟩|⟨id',off',k',rfl,hk',ho',hat'⟩
     ·simp at hc
     have g2:=hat' t hc;have hro':=zEj hk';have h0':=zJc hk' hn 0;simp only[yL]at h0';have hc':¬c'.length≤t:=by omega
     have hw3:off'+(t+1)≤k'.cells.length:=by omega
     simp[evw,ii,vv,zLp,zM3,hj,hj',htt,hro,h0,c2,hc,hc',hro',h0',g2,hw,hw2,hw3,hle,yIn,yMe,zE9,zTm,deI]
    ·have hc':c'.length≤t:=by omega
     simp[evw,ii,vv,zLp,zM3,unk,hj,hj',htt,hro,h0,c2,hw2,hc',t1,t2,t3]
  ·have hj':l.length≤j:=by omega
   simp[evw,ii,vv,zLp,unk,hj',s1,s2,s3]
def zY2 (h:Heap):List AV→Option (En×Int)
 | [e,.v (.int .i64 i)]=>(zTl h e).map fun x=>(x,i)
 | _=>none
theorem zJy {h:Heap} {args:List AV} {q:En×Int} (e:zY2 h args=some q):∃a,args=[.g [a,ii q.1.each,ii q.1.pos],ii q.2]∧rd zFr h a=some q.1.ls:=by
 unfold zY2 at e;split at e
 ·simp only[zV]at e
  obtain⟨x,e1,rfl⟩:=e;obtain⟨a,rfl,e2⟩:=zH1 e1;exact⟨a,rfl,e2⟩
 ·cases e
def fLI (h:Heap) (args:List AV) (q:En×Int):AV:=match args with
 | [.g [a,_,_],_]=>if q.2<0∨(q.1.ls.length:Int)≤q.2 then .v (.slice none 0 0)else zGo h a q.2.toNat
 | _=>.any
theorem zY1 (h h':Heap) (args:List AV) (q:En×Int) (hh:h.le h') (e:zY2 h args=some q):zY2 h' args=some q∧fLI h' args q=fLI h args q:=by
 obtain⟨a,rfl,e1⟩:=zJy e;refine⟨?_,?_⟩
 ·simp only[zY2,ii,zIq (yZ hh e1),zK]
 ·simp only[fLI]
  rw[zZi hh e1]
theorem yD6 {h:Heap} {args:List AV} {q:En×Int} (e:zY2 h args=some q):rd dEs h (fLI h args q)=some (zAn q.1.ls q.2):=by
 obtain⟨a,rfl,e1⟩:=zJy e;simp only[fLI,zAn];by_cases h1:q.2<0
 ·rw[if_pos (.inl h1),if_pos h1];rfl
 ·rw[if_neg h1]
  by_cases h2:(q.1.ls.length:Int)≤q.2
  ·rw[if_pos (.inr h2),zB,zG (by omega)];rfl
  ·rw[if_neg (by omega)]
   have hlt:q.2.toNat<q.1.ls.length:=by omega
   rw[zB,zA hlt];exact yCn e1 hlt
def G65:=zGk zY2 fLI
theorem P65:P0 [] 89 G65:=by
 refine mkS 2 (S:=[]) yJ Tryz.func89 rfl (by kernel_rfl) zY1 (fun h l x e=>by obtain⟨a,rfl,_⟩:=zJy e;exact zC _) (fun h l a e=>yIp (yD6 e)) (fun args q h n e hn => ?_)
 obtain⟨⟨ls,each,pos⟩,i⟩:=q;obtain⟨a,rfl,e1⟩:=zJy e;simp only[]at e1 ⊢;obtain⟨s1,s2,s3,s4,s5⟩:=zN e1;by_cases hi:i<0
 ·simp[evw,ii,fLI,hi,s1,s2,s4]
 ·obtain⟨j,rfl⟩:∃j:Nat,i=j:=⟨i.toNat,by omega⟩
  by_cases hj:j<ls.length
  ·rcases zLu e1 with ⟨rfl,_⟩|⟨id,off,k,rfl,hk,ho,hat⟩
   ·simp at hj
   have hj':¬ls.length≤j:=by omega
   have hro:=zEj hk;have h0:=zJc hk hn 0;simp only[yL]at h0;have hw:off+(j+1)≤k.cells.length:=by omega
   simp[evw,ii,fLI,hj,hj',s1,s2,s4,hro,h0,hw,zGo,hk]
  ·have hj':ls.length≤j:=by omega
   simp[evw,ii,fLI,hj',s1,s2,s4]
def okL (q:List Ev×List Int×Int):Prop:=q.1.length≤2199023255552∧q.2.1.length<big∧∀e∈q.1,zHc e
def zRk (h:Heap):List AV→Option (List Ev×List Int×Int)
 | [a,c,.v (.int .i64 o)]=>match rd dEs h a,rd dIs h c with
  | some l,some col=>some (l,col,o)
  | _,_=>none
 | _=>none
theorem zK4 {h:Heap} {args:List AV} {q:List Ev×List Int×Int} (e:zRk h args=some q):∃a c,args=[a,c,ii q.2.2]∧rd dEs h a=some q.1∧rd dIs h c=some q.2.1:=by
 unfold zRk at e;split at e
 ·split at e
  ·rename_i e1 e3
   cases e;exact⟨_,_,rfl,e1,e3⟩
  ·cases e
 ·cases e
theorem zVe (h h':Heap) (args:List AV) (q:List Ev×List Int×Int) (hh:h.le h') (e:zRk h args=some q):zRk h' args=some q:=by
 obtain⟨a,c,rfl,e1,e3⟩:=zK4 e;simp only[zRk,yZ hh e1,yZ hh e3,ii]
def yMf:=yH zRk okL fun q=>vv (yEi q.1 q.2.1 q.2.2)
theorem zZg (l:List Ev) (c:List Int) (j:Nat):(zMi l c (j+1)).map ii=(zMi l c j).map ii++[ii (zLp l (j:Int) c).n]:=by rw[zZf];simp
theorem yKd {l:List Ev} {c:List Int} {j:Nat} (op:Int) (hj:j<l.length) (h:(zLp l (j:Int) c).k=false):yEi l c op=unk:=by
 have:zD3 l c (j+1)=false:=by rw[zI3,h,Bool.and_false]
 unfold yEi;rw[if_neg fun e=>by rw[zU1 (by omega) e]at this;cases this]
theorem yHu {l:List Ev} {c:List Int} (op:Int) (h:zD3 l c l.length=true):yEi l c op=zF6 zWo op (zMi l c l.length):=if_pos h
def zUi:List (FuncId×(List AV→Heap→PRes)):=[(184,zV0),(213,g33)]
theorem yOy:P0 [1] 185 yMf:=by
 refine mkH 3 (S:=[1]) (l:=zUi) (zS yM9 (zS p33 yJ)) Tryz.func185 rfl (by kernel_rfl) zVe (fun h l x e=>by obtain⟨a,c,rfl,_⟩:=zK4 e;exact zC _) (fun a=>rfl) (fun args q h n e hp hn => ?_)
 obtain⟨l,c',op⟩:=q;obtain⟨a,c,rfl,e1,e3⟩:=zK4 e;obtain⟨hl,hc,hev⟩:=hp;simp only[]at e1 e3 hl hc hev ⊢;obtain⟨s1,s2,s3,s4,s5⟩:=zN e1;obtain⟨t1,t2,t3,t4,t5⟩:=zN e3;have key:∀e:Nat→AV,e 0=a→e 1=c→e 2=ii op→awp (cx [1] (pfL zUi)) (Tryz.f185.body.getD .skip) (zBc (cx [1] (pfL zUi)) Tryz.f185 fun z _ _=>z=vv (yEi l c' op)) ⟨e,roH h,n⟩:=fun e q0 q1 q2=>by
  have hb1:(8:Int)*(l.length:Int)≤281474976710656:=by omega
  have hb2:(l.length:Int)≤9223372036854775807:=by omega
  simp[evw,Tryz.f185,q0,s1,s2,hb1,hb2];refine yN (fun s=>∃j,j≤l.length∧s.e 0=a∧s.e 1=c∧s.e 2=ii op∧s.e 6=.p n 0 0∧s.e 7=.s (n+1) j 0 j∧s.e 14=ii l.length∧s.e 15=ii j∧agree n (roH h) s.h∧s.h n=some ⟨[.v (.bool false),.v (.int .i64 0)],0,true,2⟩∧s.h (n+1)=some ⟨(zMi l c' j).map ii,j,true,1⟩∧n+2≤s.n∧zD3 l c' j=true) (fun s=>l.length-(s.e 15).i.toNat) ⟨0,by simp[up,q0,q1,q2,ii,zD,zE,zMi,zD3]⟩ ?_
  rintro e' h' n' ⟨j,hj,q0,q1,q2,q6,q7,q14,q15,hag,hr,hk,hnn,hkn⟩;simp only[]at q0 q1 q2 q6 q7 q14 q15 hag hr hk hnn;have f1:n≤n':=by omega
  have f2:n≤n'+1:=by omega
  have f3:n≤n'+2:=by omega
  have z1:¬n=n':=by omega
  have z2:¬n=n'+1:=by omega
  have z3:¬n=n'+2:=by omega
  have z4:¬n+1=n':=by omega
  have g1:=xP hn e1;have g3:=xP hn e3;by_cases hlt:j<l.length
  ·have hw:=yK (j:=j) (by unfold big;omega)
   have hsm:zWw (l,(j:Int),c'):=⟨by simp only[big];omega,hc⟩
   have hcn:=zZg l c' j;have hcl:((zMi l c' j).map ii).length=j:=by rw[zQ,zTr]
   generalize hx:zLp l (j:Int) c'=x at *;generalize (zMi l c' j).map ii=cs at *;have hb3:(j+1)*8≤140737488355328:=by omega
   have hb4:j+1≤9223372036854775807:=by omega
   cases hxk:x.k with
   | false =>
    have ha:=yKd op hlt (by rw[hx];exact hxk)
    have hu:x=unk:=by rw[←hx];exact yBf (by rw[hx];exact hxk)
    subst hu;simp[evw,q0,q1,q6,q14,q15,ii,hlt,zUi,zV0,yH,zJg,g1,g3,hag,hsm,hx,vv,unk,z1,hr,ha]
   | true =>
    simp[evw,q0,q1,q2,q6,q7,q14,q15,ii,hlt,zUi,zV0,yH,zJg,g1,g3,hag,zD,f1,f3,hsm,hx,vv,z1,z2,z3,z4,hr,hk,hxk,hcl,hb3,hb4,hw];exact⟨⟨j+1,by omega,rfl,by omega,⟨by rw[hcn];rfl,rfl⟩,by rw[zI3,hkn,hx,hxk];rfl⟩,by omega⟩
  ·have hje:j=l.length:=by omega
   subst hje;have hay:=yHu op hkn;have hcl:(zMi l c' l.length).length=l.length:=zTr ..;have hlb:l.length<big:=by unfold big;omega
   have hdi:yEb (List.take l.length ((zMi l c' l.length).map ii))=some (zMi l c' l.length):=by
    rw[yX (by rw[zQ,hcl];exact zC _),zY3]
   generalize zMi l c' l.length=cn at *;simp[evw,q2,q6,q7,q14,q15,ii,zUi,g33,zKf,deI,zPr,vv,hr,hk,hay,hcl,hlb,hdi]
 exact key _ rfl rfl rfl
structure EnOk (e:En):Prop where
 len:∀l∈e.ls,l.length≤2199023255552
 ev:∀l∈e.ls,∀x∈l,zHc x
 pos:Rng e.pos
theorem zL4 {ls:List (List Ev)} {P:List Ev→Prop} (h0:P []) (h:∀l∈ls,P l) (i:Int):P (zAn ls i):=by
 unfold zAn;split
 ·exact h0
 ·rw[zB]
  cases e:ls[i.toNat]? with
  | none=>exact h0
  | some l=>exact h l (xW e)
theorem EnOk.lenAt {e:En} (h:EnOk e) (i:Int):(zAn e.ls i).length≤2199023255552:=zL4 (P:=fun l=>l.length≤2199023255552) (by simp) h.len i
theorem EnOk.evAt {e:En} (h:EnOk e) (i:Int):∀x∈zAn e.ls i,zHc x:=zL4 (P:=fun l=>∀x∈l,zHc x) (by simp) h.ev i
def okM (q:Ins×List Int×En):Prop:=(1≤q.1.code∧q.1.code≤9)∧q.2.1.length<big∧EnOk q.2.2
def zZw (h:Heap):List AV→Option (Ins×List Int×En)
 | [i,c,e]=>match zP1 i,rd dIs h c,zTl h e with
  | some i,some c,some e=>some (i,c,e)
  | _,_,_=>none
 | _=>none
theorem zNs {h:Heap} {args:List AV} {q:Ins×List Int×En} (e:zZw h args=some q):∃c x,args=[iv q.1,c,x]∧rd dIs h c=some q.2.1∧zTl h x=some q.2.2:=by
 unfold zZw at e;split at e
 ·split at e
  ·rename_i e1 e2 e3
   cases e;exact⟨_,_,by rw[zY4 e1],e2,e3⟩
  ·cases e
 ·cases e
theorem yCh (i:Ins):zP1 (.g (zBb i))=some i:=rfl
theorem zZa (h h':Heap) (args:List AV) (q:Ins×List Int×En) (hh:h.le h') (e:zZw h args=some q):zZw h' args=some q:=by
 obtain⟨c,x,rfl,e1,e2⟩:=zNs e;simp only[zZw,iv,yCh,yZ hh e1,zNp hh.sim e2]
def yH4:=yH zZw okM fun q=>vv (wG q.1 q.2.1 q.2.2)
theorem zSz {h:Heap} {n:Nat} (hn:∀i,n≤i→h i=none) {a:AV} {e:En} (e1:rd zFr h a=some e.ls) (item:Int):∃c,(∀h',agree n (roH h) h'→zY2 h' [.g [a,.v (.int .i64 e.each),.v (.int .i64 e.pos)],.v (.int .i64 item)]=some (e,item)∧fLI h' [.g [a,.v (.int .i64 e.each),.v (.int .i64 e.pos)],.v (.int .i64 item)] (e,item)=c)∧
  (∀h',agree n (roH h) h'→rd dEs h' c=some (zAn e.ls item))∧c.isS∧c.slen=(zAn e.ls item).length∧(∀g,AV.unc g c=c)∧c.one∧c.cells=[c]:=by
 have hq:zY2 h [.g [a,.v (.int .i64 e.each),.v (.int .i64 e.pos)],.v (.int .i64 item)]=some (e,item):=by simp only[zY2,zIq e1,zK]
 have hr:=yD6 hq;have hat:∀h',agree n (roH h) h'→∀i,zGo h' a i=zGo h a i:=fun h' ha i=>by
  rcases zD8 e1 with ⟨_,rfl|rfl⟩|⟨id,off,k,rfl,h2,_⟩
  ·rfl
  ·rfl
  ·simp only[zGo,h2,wR hn h2 ha]
 refine⟨_,fun h' ha=>⟨?_,?_⟩,fun h' ha=>xP hn hr h' ha,zN hr⟩
 ·simp only[zY2,zIq (xP hn e1 h' ha),zK]
 ·simp only[fLI]
  rw[hat h' ha]
def zZt:List (FuncId×(List AV→Heap→PRes)):=[(89,G65),(184,zV0),(185,yMf)]
theorem yOu:P0 [1] 142 yH4:=by
 refine mkH 3 (S:=[1]) (l:=zZt) (zS P65 (zS yM9 (zS yOy yJ))) Tryz.func142 rfl (by kernel_rfl) zZa (fun h l x e=>by obtain⟨a,c,rfl,_⟩:=zNs e;exact zC _) (fun a=>rfl) (fun args q h n e hp hn => ?_)
 obtain⟨⟨code,item,icol,iN,ito⟩,col,⟨ls,each,pos⟩⟩:=q;obtain⟨c,x,rfl,e1,e2⟩:=zNs e;obtain⟨hcode,hc,hen⟩:=hp;obtain⟨a,rfl,e3⟩:=zH1 e2;simp only[]at e1 e2 e3 hcode hc hen ⊢;obtain⟨s1,s2,s3,s4,s5⟩:=zN e3;obtain⟨t1,t2,t3,t4,t5⟩:=zN e1;obtain⟨cl,f1,f2,u1,u2,u3,u4,u5⟩:=zSz (e:=⟨ls,each,pos⟩) hn e3 item;simp only[]at f1 f2 u1 u2 u3 u4 u5;have f0:=fun h' ha=>(f1 h' ha).1
 replace f1:=fun h' ha=>(f1 h' ha).2
 have hlen:=hen.lenAt item;have hev:=hen.evAt item;have hpos:=hen.pos;simp only[]at hlen hev hpos;have hsm:∀i:Int,zWw (zAn ls item,i,col):=fun i=>⟨by simp only[big];omega,hc⟩
 have hok:okL (zAn ls item,col,code+1):=⟨hlen,hc,hev⟩;have g1:=xP hn e1;have v1:n≤n+1:=by omega
 have v2:n≤n+2:=by omega
 have v3:n≤n+3:=by omega
 have hw1:IntKind.i64.wrap (6+IntKind.i64.wrap (code-5))=code+1:=by
  have h1:IntKind.i64.wrap (code-5)=code-5:=zMq (by unfold Rng;omega)
  rw[h1];have h2:IntKind.i64.wrap (6+(code-5))=6+(code-5):=zMq (by unfold Rng;omega)
  rw[h2];omega
 unfold Rng at hpos;by_cases c4:code=4
 ·subst c4
  simp[evw,iv,zBb,ii,vv,wG,xX,zZt,G65,zGk,f0,f1,zD,zE,v1,v2,s4,u1,u2]
 by_cases c3:code=3
 ·subst c3
  by_cases ht:item=each∧0≤item
  ·obtain⟨rfl,ht2⟩:=ht
   by_cases hp1:1≤pos
   ·have hw2:IntKind.i64.wrap (pos-1)=pos-1:=zMq (by unfold Rng;omega)
    have hp2:¬pos<1:=by omega
    simp[evw,iv,zBb,ii,vv,wG,zZt,G65,zGk,f0,f1,zD,zE,v1,v2,s4,ht2,hp1,hp2,hw2,zV0,yH,zJg,f2,g1,hsm]
   ·have hp2:pos<1:=by omega
    simp[evw,iv,zBb,ii,vv,wG,unk,zZt,G65,zGk,f0,f1,zD,zE,v1,v2,s4,ht2,hp1,hp2,zV0]
  ·by_cases ht3:item=each
   ·have ht2:¬0≤item:=fun h=>ht ⟨ht3,h⟩
    subst ht3;simp[evw,iv,zBb,ii,vv,wG,unk,zZt,G65,zGk,f0,f1,zD,zE,v1,v2,s4,ht2,zV0]
   ·simp[evw,iv,zBb,ii,vv,wG,unk,zZt,G65,zGk,f0,f1,zD,zE,v1,v2,s4,ht3,zV0]
 by_cases c2:code=2
 ·subst c2
  by_cases ht:item=each∧0≤item
  ·obtain⟨rfl,ht2⟩:=ht
   simp[evw,iv,zBb,ii,vv,wG,zZt,G65,zGk,f0,f1,zD,zE,v1,v2,s4,ht2,zV0,yH,zJg,f2,g1,hsm]
  ·by_cases ht3:item=each
   ·have ht2:¬0≤item:=fun h=>ht ⟨ht3,h⟩
    subst ht3;simp[evw,iv,zBb,ii,vv,wG,zZt,G65,zGk,f0,f1,zD,zE,v1,v2,s4,ht2,zV0,yH,zJg,f2,g1,hsm]
   ·simp[evw,iv,zBb,ii,vv,wG,zZt,G65,zGk,f0,f1,zD,zE,v1,v2,s4,ht3,zV0,yH,zJg,f2,g1,hsm]
 simp[evw,iv,zBb,ii,vv,wG,zZt,G65,zGk,f0,f1,zD,zE,v1,v2,s4,c4,c3,c2,hw1,yMf,yH,zRk,f2,g1,hok]
 try (by_cases ht:item=each<;>simp[ht])
end Go.Proofs.YtbffkkeieihpdaaGreatDoor
