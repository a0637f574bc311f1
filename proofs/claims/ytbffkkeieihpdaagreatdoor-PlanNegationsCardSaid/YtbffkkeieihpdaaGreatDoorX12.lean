import Derived.Test.YtbffkkeieihpdaaGreatDoorX11
import Derived.Test.YtbffkkeieihpdaaGreatDoorX08
set_option linter.unusedSimpArgs false
set_option linter.unusedVariables false
set_option linter.constructorNameAsVariable false
set_option maxRecDepth 100000
set_option maxHeartbeats 4000000
namespace Go.Proofs.YtbffkkeieihpdaaGreatDoor
open Go Go.Eng
theorem fitV_rng (n:Int):Rng (fitV n).n:=by
 unfold fitV Rng
 split
 ·assumption
 ·simp
theorem truthV_rng (b:Bool):Rng (truthV b).n:=by cases b<;>simp[truthV,Rng]
def placeOf (col:List Int) (e:Ev):Option Int:=if e.ty<0 then none else col[e.ty.toNat]?
def oneV (l:List Ev) (i:Int) (col:List Int):V:=if i<0 then unk else match l[i.toNat]? with
 | none=>unk
 | some e=>match placeOf col e with
  | none=>unk
  | some p=>valueV e p
def evV (col:List Int) (e:Ev):V:=match placeOf col e with
 | none=>unk
 | some p=>valueV e p
theorem oneV_at {l:List Ev} {j:Nat} (h:j<l.length) (col:List Int):oneV l (j:Int) col=evV col l[j]:=by
 unfold oneV evV
 rw[if_neg (by omega)]
 simp only[Int.toNat_natCast,List.getElem?_eq_getElem h]
def EvOk (e:Ev):Prop:=Rng e.ts∧Rng e.ty∧Rng e.a0∧Rng e.a1∧Rng e.a2∧Rng e.a3∧Rng e.a4∧Rng e.a5∧Rng e.a6∧Rng e.a7
theorem attr_rng {e:Ev} (h:EvOk e):∀j,Rng (e.attr j):=by
 obtain⟨_,_,h0,h1,h2,h3,h4,h5,h6,h7⟩:=h
 intro j
 unfold Ev.attr
 split<;>assumption
theorem valueV_rng {e:Ev} (h:EvOk e) (p:Int):Rng (valueV e p).n:=by
 unfold valueV
 split
 ·exact h.1
 ·split
  ·exact attr_rng h _
  ·simp[unk,Rng]
theorem unk_rng:Rng unk.n:=by simp[unk,Rng]
theorem oneV_rng {l:List Ev} (h:∀e∈l,EvOk e) (i:Int) (col:List Int):Rng (oneV l i col).n:=by
 unfold oneV
 split
 ·exact unk_rng
 ·split
  ·exact unk_rng
  ·rename_i e he
   split
   ·exact unk_rng
   ·exact valueV_rng (h e (List.mem_of_getElem? he)) _
theorem valueV_unk {e:Ev} {p:Int} (h:(valueV e p).k=false):valueV e p=unk:=by
 unfold valueV at h ⊢
 split
 ·rename_i hc;rw[if_pos hc]at h;cases h
 ·rename_i hc
  rw[if_neg hc]at h
  split
  ·rename_i hd;rw[if_pos hd]at h;cases h
  ·rfl
theorem oneV_unk {l:List Ev} {i:Int} {col:List Int} (h:(oneV l i col).k=false):oneV l i col=unk:=by
 unfold oneV at h ⊢
 split
 ·rfl
 ·rename_i hc
  rw[if_neg hc]at h
  split
  ·rfl
  ·rename_i e he
   simp only[he]at h
   split
   ·rfl
   ·rename_i p hp
    simp only[hp]at h
    exact valueV_unk h
def colN (l:List Ev) (col:List Int) (j:Nat):List Int:=(List.range j).map fun i:Nat=>(oneV l (i:Int) col).n
theorem colN_succ (l:List Ev) (col:List Int) (j:Nat):colN l col (j+1)=colN l col j++[(oneV l (j:Int) col).n]:=by simp[colN,List.range_succ]
theorem colN_len (l:List Ev) (col:List Int) (j:Nat):(colN l col j).length=j:=by simp[colN]
theorem colN_rng {l:List Ev} (h:∀e∈l,EvOk e) (col:List Int) (j:Nat):All (colN l col j):=fun x hx=>by
 simp only[colN,List.mem_map]at hx
 obtain⟨i,_,rfl⟩:=hx
 exact oneV_rng h _ _
def knownTo (l:List Ev) (col:List Int) (j:Nat):Bool:=(List.range j).all fun i:Nat=>(oneV l (i:Int) col).k
theorem knownTo_succ (l:List Ev) (col:List Int) (j:Nat):knownTo l col (j+1)=(knownTo l col j&&(oneV l (j:Int) col).k):=by simp[knownTo,List.range_succ]
theorem knownTo_le {l:List Ev} {col:List Int} {j m:Nat} (hj:j≤m) (h:knownTo l col m=true):knownTo l col j=true:=by
 simp only[knownTo,List.all_eq_true,List.mem_range]at h ⊢
 exact fun i hi=>h i (by omega)
def allV (l:List Ev) (col:List Int) (op:Int):V:=if knownTo l col l.length=true then foldG sumL op (colN l col l.length)else unk
structure Ins where
 code:Int
 item:Int
 col:Int
 n:Int
 to:Int
deriving DecidableEq
def icells (i:Ins):List AV:=[ii i.code,ii i.item,ii i.col,ii i.n,ii i.to]
def InsOk (i:Ins):Prop:=Rng i.code∧Rng i.item∧Rng i.col∧Rng i.n∧Rng i.to
structure Pr where
 code:List Ins
 cols:List (List Int)
deriving DecidableEq
structure En where
 ls:List (List Ev)
 each:Int
 pos:Int
deriving DecidableEq
def listAt (ls:List (List Ev)) (i:Int):List Ev:=if i<0 then []else ls.getD i.toNat []
def mentionV (i:Ins) (col:List Int) (e:En):V :=
 if i.code=4 then knownV (listAt e.ls i.item).length
 else if i.code=3 then (if (i.item=e.each∧0≤i.item)∧1≤e.pos then oneV (listAt e.ls i.item) (e.pos-1) col else unk)
 else if i.code=2 then (if i.item=e.each∧0≤i.item then oneV (listAt e.ls i.item) e.pos col else oneV (listAt e.ls i.item) 0 col)
 else allV (listAt e.ls i.item) col (i.code+1)
def stepV (p:Pr) (e:En) (i:Ins) (pos:Nat) (st:List V):Option (Nat×List V) :=
 if needsV i.code<0∨(st.length:Int)<needsV i.code then none
 else if i.code=1 then some (pos+1,st++[knownV i.n])
 else if i.code=4 then some (pos+1,st++[mentionV i [] e])
 else if i.code≤9 then (if i.col<0 then none else match p.cols[i.col.toNat]? with
  | none=>none
  | some c=>some (pos+1,st++[mentionV i c e]))
 else if i.code=10 then some (pos+1,st.dropLast++[negL (st.getLastD unk)])
 else if i.code=11 then some (pos+1,st.dropLast++[notV (st.getLastD unk)])
 else if 25≤i.code then (if i.to≤pos∨i.to > p.code.length then none
  else if (st.getLastD unk).k=true∧((st.getLastD unk).n≠0↔i.code=26)then some (i.to.toNat,st)else some (pos+1,st))
 else some (pos+1,st.dropLast.dropLast++[applyL (i.code+2) (st.dropLast.getLastD unk) (st.getLastD unk)])
def bad:V×Int:=(unk,70)
def endV (st:List V):V×Int:=match st with
 | [v]=>(v,0)
 | _=>bad
def finF (p:Pr) (e:En):Nat→Nat→List V→V×Int
 | 0,_,st=>endV st
 | k+1,pos,st=>match p.code[pos]? with
  | none=>endV st
  | some i=>match stepV p e i pos st with
   | none=>bad
   | some q=>finF p e k q.1 q.2
def runV (p:Pr) (e:En):V×Int:=finF p e p.code.length 0 []
def holdsV (p:Pr) (e:En):Bool:=(runV p e).2==0&&trueV (runV p e).1
theorem step_on {p:Pr} {e:En} {i:Ins} {pos:Nat} {st:List V} {q:Nat×List V} (hp:pos<p.code.length) (h:stepV p e i pos st=some q):pos<q.1∧q.1≤p.code.length∧q.2.length≤st.length+1:=by
 unfold stepV at h
 have hd:st.dropLast.length≤st.length:=by simp
 have hd2:st.dropLast.dropLast.length≤st.length:=by simp;omega
 repeat' split at h
 all_goals first|(cases h;done)|(simp only[Option.some.injEq]at h;subst h;simp only[List.length_append,List.length_cons,List.length_nil];omega)
section
variable {p:Pr} {e:En} {i:Ins} {pos:Nat} {st:List V} (hr:¬(needsV i.code<0∨(st.length:Int)<needsV i.code))
include hr
theorem step_push (h:i.code=1):stepV p e i pos st=some (pos+1,st++[knownV i.n]):=by
 simp only[stepV,if_neg hr,if_pos h]
theorem step_count (h:i.code=4):stepV p e i pos st=some (pos+1,st++[mentionV i [] e]):=by
 simp only[stepV,if_neg hr,if_neg (show ¬i.code=1 by omega),if_pos h]
theorem step_cneg (h:2≤i.code∧i.code≤9∧i.code≠4) (hc:i.col<0):stepV p e i pos st=none:=by
 simp only[stepV,if_neg hr,if_neg (show ¬i.code=1 by omega),if_neg h.2.2,if_pos h.2.1,if_pos hc]
theorem step_cbig (h:2≤i.code∧i.code≤9∧i.code≠4) (hc:(p.cols.length:Int)≤i.col):stepV p e i pos st=none:=by
 have:p.cols[i.col.toNat]? = none:=List.getElem?_eq_none (by omega)
 simp only[stepV,if_neg hr,if_neg (show ¬i.code=1 by omega),if_neg h.2.2,if_pos h.2.1,if_neg (show ¬i.col<0 by omega),this]
theorem step_col (h:2≤i.code∧i.code≤9∧i.code≠4) {c:List Int} (h0:¬i.col<0) (hc:p.cols[i.col.toNat]? = some c):stepV p e i pos st=some (pos+1,st++[mentionV i c e]):=by
 simp only[stepV,if_neg hr,if_neg (show ¬i.code=1 by omega),if_neg h.2.2,if_pos h.2.1,if_neg h0,hc]
theorem step_neg (h:i.code=10):stepV p e i pos st=some (pos+1,st.dropLast++[negL (st.getLastD unk)]):=by
 simp only[stepV,if_neg hr,if_neg (show ¬i.code=1 by omega),if_neg (show ¬i.code=4 by omega),if_neg (show ¬i.code≤9 by omega),if_pos h]
theorem step_not (h:i.code=11):stepV p e i pos st=some (pos+1,st.dropLast++[notV (st.getLastD unk)]):=by
 simp only[stepV,if_neg hr,if_neg (show ¬i.code=1 by omega),if_neg (show ¬i.code=4 by omega),if_neg (show ¬i.code≤9 by omega),if_neg (show ¬i.code=10 by omega),if_pos h]
theorem step_jbad (h:25≤i.code) (ht:i.to≤pos∨i.to > p.code.length):stepV p e i pos st=none:=by
 simp only[stepV,if_neg hr,if_neg (show ¬i.code=1 by omega),if_neg (show ¬i.code=4 by omega),if_neg (show ¬i.code≤9 by omega),if_neg (show ¬i.code=10 by omega),if_neg (show ¬i.code=11 by omega),if_pos h,if_pos ht]
theorem step_jump (h:25≤i.code) (ht:¬(i.to≤pos∨i.to > p.code.length)) (hj:(st.getLastD unk).k=true∧((st.getLastD unk).n≠0↔i.code=26)):stepV p e i pos st=some (i.to.toNat,st):=by
 simp only[stepV,if_neg hr,if_neg (show ¬i.code=1 by omega),if_neg (show ¬i.code=4 by omega),if_neg (show ¬i.code≤9 by omega),if_neg (show ¬i.code=10 by omega),if_neg (show ¬i.code=11 by omega),if_pos h,if_neg ht,if_pos hj]
theorem step_stay (h:25≤i.code) (ht:¬(i.to≤pos∨i.to > p.code.length)) (hj:¬((st.getLastD unk).k=true∧((st.getLastD unk).n≠0↔i.code=26))):stepV p e i pos st=some (pos+1,st):=by
 simp only[stepV,if_neg hr,if_neg (show ¬i.code=1 by omega),if_neg (show ¬i.code=4 by omega),if_neg (show ¬i.code≤9 by omega),if_neg (show ¬i.code=10 by omega),if_neg (show ¬i.code=11 by omega),if_pos h,if_neg ht,if_neg hj]
theorem step_two (h:12≤i.code∧i.code<25):stepV p e i pos st=some (pos+1,st.dropLast.dropLast++[applyL (i.code+2) (st.dropLast.getLastD unk) (st.getLastD unk)]):=by
 simp only[stepV,if_neg hr,if_neg (show ¬i.code=1 by omega),if_neg (show ¬i.code=4 by omega),if_neg (show ¬i.code≤9 by omega),if_neg (show ¬i.code=10 by omega),if_neg (show ¬i.code=11 by omega),if_neg (show ¬25≤i.code by omega)]
end
theorem fin_stable (p:Pr) (e:En):∀(k m pos:Nat) (st:List V),p.code.length-pos≤k→p.code.length-pos≤m→finF p e k pos st=finF p e m pos st
 | 0,0,_,_,_,_=>rfl
 | 0,m+1,pos,st,h,_=>by
  have:p.code[pos]? = none:=List.getElem?_eq_none (by omega)
  simp only[finF,this]
 | k+1,0,pos,st,_,h=>by
  have:p.code[pos]? = none:=List.getElem?_eq_none (by omega)
  simp only[finF,this]
 | k+1,m+1,pos,st,h1,h2=>by
  simp only[finF]
  split
  ·rfl
  ·rename_i i hi
   split
   ·rfl
   ·rename_i q hq
    have hp:pos<p.code.length:=(List.getElem?_eq_some_iff.1 hi).1
    have:=step_on hp hq
    exact fin_stable p e k m q.1 q.2 (by omega) (by omega)
def fromV (p:Pr) (e:En) (pos:Nat) (st:List V):V×Int:=finF p e (p.code.length-pos) pos st
theorem from_none {p:Pr} {e:En} {pos:Nat} {st:List V} (h:pos<p.code.length) (hs:stepV p e p.code[pos] pos st=none):fromV p e pos st=bad:=by
 unfold fromV
 obtain⟨k,hk⟩:∃k,p.code.length-pos=k+1:=⟨p.code.length-pos-1,by omega⟩
 rw[hk]
 simp only[finF,List.getElem?_eq_getElem h,hs]
theorem from_some {p:Pr} {e:En} {pos:Nat} {st:List V} {q:Nat×List V} (h:pos<p.code.length) (hs:stepV p e p.code[pos] pos st=some q):fromV p e pos st=fromV p e q.1 q.2:=by
 unfold fromV
 obtain⟨k,hk⟩:∃k,p.code.length-pos=k+1:=⟨p.code.length-pos-1,by omega⟩
 rw[hk]
 simp only[finF,List.getElem?_eq_getElem h,hs]
 have:=step_on h hs
 exact fin_stable p e k _ q.1 q.2 (by omega) (by omega)
theorem from_end {p:Pr} {e:En} {pos:Nat} {st:List V} (h:p.code.length≤pos):fromV p e pos st=endV st:=by
 unfold fromV
 rw[show p.code.length-pos=0 by omega]
 rfl
theorem run_from (p:Pr) (e:En):runV p e=fromV p e 0 []:=by unfold runV fromV;rfl
end Go.Proofs.YtbffkkeieihpdaaGreatDoor
namespace Go.Proofs.YtbffkkeieihpdaaGreatDoor
open Go Go.Eng
theorem rng0:Rng 0:=by unfold Rng;omega
theorem rank_rng (r:Int):Rng (ofRank r).n:=by
 unfold ofRank Rng
 split
 ·simp only[];omega
 split
 ·simp only[];omega
 ·simp only[];omega
theorem cmp_rng (o:Int) (a b:V):Rng (cmpV o a b).n:=by
 unfold cmpV
 repeat' split
 all_goals first|exact truthV_rng _|exact rng0
theorem apply_rng (o:Int) {a b:V} (ha:Rng a.n) (hb:Rng b.n):Rng (applyL o a b).n:=by
 unfold applyL
 split
 ·rw[addL_eq ha hb];unfold addV on2;split<;>first|exact fitV_rng _|exact rng0
 split
 ·rw[subL_eq ha hb];unfold subV on2;split<;>first|exact fitV_rng _|exact rng0
 split
 ·rw[mulL_eq ha hb];unfold mulV on2;split<;>first|exact fitV_rng _|exact rng0
 split
 ·rw[divL_eq ha];unfold divV on2
  split
  ·simp only[]
   split
   ·exact rng0
   ·exact fitV_rng _
  ·exact rng0
 split
 ·rw[modL_eq];unfold modV on2
  split
  ·simp only[]
   split
   ·exact rng0
   ·rename_i h
    obtain⟨_,t1,t2,_,_⟩:=tdiv_bounds (x:=a.n) h
    have t3:=Int.natAbs_tmod a.n b.n
    have t4:a.n.natAbs%b.n.natAbs≤a.n.natAbs:=Nat.mod_le _ _
    unfold Rng at ha ⊢
    simp only[knownV]
    rcases Int.le_total 0 a.n with h0|h0
    ·have:=t1 h0;omega
    ·have:=t2 h0;omega
  ·exact rng0
 split
 ·exact rank_rng _
 split
 ·exact rank_rng _
 ·exact cmp_rng _ _ _
theorem ext_mem (g:Bool) (l:List Int) (h:0<l.length):∀j,extAt g l j∈l:=fun j=>by
 unfold extAt
 have:∀(m:List Int) (x:Int),(∀y∈m,y∈l)→x∈l→m.foldl (fun (m x:Int)=>if (if g=true then decide (m<x)else decide (x<m))=true then x else m) x∈l:=fun m=>by
  induction m with
  | nil=>exact fun x _ hx=>hx
  | cons y m ih =>
   intro x hm hx
   rw[List.foldl_cons]
   refine ih _ (fun z hz=>hm z (by simp[hz])) ?_
   generalize (if g=true then decide (x<y)else decide (y<x))=c
   cases c
   ·exact hx
   ·exact hm y (by simp)
 refine this _ _ (fun y hy=>List.mem_of_mem_take hy) ?_
 rw[List.getD_eq_getElem?_getD,List.getElem?_eq_getElem h]
 exact List.getElem_mem h
theorem fold_rng (o:Int) {l:List Int} (ha:All l) (hl:l.length≤2147483647):Rng (foldG sumL o l).n:=by
 unfold foldG
 split
 ·unfold Rng knownV;simp only[];omega
 split
 ·rw[sumL_eq ha (by unfold big;omega)];exact fitV_rng _
 split
 ·exact rng0
 rename_i hne
 have hp:0<l.length:=List.length_pos_iff.2 hne
 split
 ·exact ha _ (ext_mem _ _ hp _)
 split
 ·exact ha _ (ext_mem _ _ hp _)
 split
 ·simp only[knownV];rw[List.getD_eq_getElem?_getD,List.getElem?_eq_getElem hp];exact ha _ (List.getElem_mem _)
 split
 ·simp only[knownV];rw[List.getD_eq_getElem?_getD,List.getElem?_eq_getElem (by omega)];exact ha _ (List.getElem_mem _)
 ·exact rng0
theorem neg_rng {a:V} (ha:Rng a.n):Rng (negL a).n:=by
 rw[negL_eq ha]
 unfold negV
 split
 ·exact fitV_rng _
 ·exact rng0
theorem not_rng (a:V):Rng (notV a).n:=rank_rng _
theorem all_rng {l:List Ev} (h:∀e∈l,EvOk e) (hl:l.length≤2147483647) (col:List Int) (op:Int):Rng (allV l col op).n:=by
 unfold allV
 split
 ·exact fold_rng op (colN_rng h _ _) (by simp[colN];omega)
 ·exact unk_rng
theorem mention_rng {i:Ins} {col:List Int} {e:En} (h:∀x∈listAt e.ls i.item,EvOk x) (hl:(listAt e.ls i.item).length≤2147483647):Rng (mentionV i col e).n:=by
 unfold mentionV
 split
 ·simp only[knownV,Rng];omega
 split
 ·split
  ·exact oneV_rng h _ _
  ·exact unk_rng
 split
 ·split<;>exact oneV_rng h _ _
 ·exact all_rng h hl _ _
end Go.Proofs.YtbffkkeieihpdaaGreatDoor
namespace Go.Proofs.YtbffkkeieihpdaaGreatDoor
open Go Go.Eng
def dEv:De Ev where
 run _ l:=deEc l
 sim _ e:=e
theorem deE_ee (e:Ev):deE (.g (ecells e))=some e:=rfl
def deIc:List AV→Option Ins
 | [.v (.int .i64 a),.v (.int .i64 b),.v (.int .i64 c),.v (.int .i64 d),.v (.int .i64 e)]=>some ⟨a,b,c,d,e⟩
 | _=>none
theorem deIc_out {l:List AV} {i:Ins} (h:deIc l=some i):l=icells i:=by
 unfold deIc at h
 split at h
 ·cases h;rfl
 ·cases h
def dIns:De Ins where
 run _ l:=deIc l
 sim _ e:=e
def deIns:AV→Option Ins
 | .g l=>deIc l
 | _=>none
def iv (i:Ins):AV:=.g (icells i)
theorem deIns_out {x:AV} {i:Ins} (h:deIns x=some i):x=iv i:=by
 unfold deIns at h
 split at h
 ·rw[deIc_out h];rfl
 ·cases h
def dEs:De (List Ev):=De.sl 11 dEv
def dIs:De (List Int):=De.sl 1 (De.int .i64)
def dPs:De (List Ins):=De.sl 5 dIns
def dEss:De (List (List Ev)):=De.sl 1 dEs
def dIss:De (List (List Int)):=De.sl 1 dIs
def rd {α:Type} (d:De α) (h:Heap) (a:AV):Option α:=d.run h [a]
theorem rd_mono {α:Type} {d:De α} {h h':Heap} (hh:h.le h') {a:AV} {x:α} (e:rd d h a=some x):rd d h' a=some x:=d.mono hh e
theorem rd_sim {α:Type} {d:De α} {h h':Heap} (hh:h.sim h') {a:AV} {x:α} (e:rd d h a=some x):rd d h' a=some x:=d.sim hh e
theorem sl_is {α:Type} {sz:Nat} {d:De α} {h:Heap} {a:AV} {l:List α} (e:rd (De.sl sz d) h a=some l):a.isS∧a.slen=l.length∧(∀g,AV.unc g a=a)∧a.one∧a.cells=[a]:=by
 rcases De.sl_out e with ⟨h0,h1|h1⟩|⟨id,off,k,h1,h2,h3,h4⟩
 ·simp only[List.cons.injEq,and_true]at h1;subst h1;subst h0;exact⟨⟨rfl,rfl⟩,rfl,fun _=>rfl,rfl,rfl⟩
 ·simp only[List.cons.injEq,and_true]at h1;subst h1;subst h0;exact⟨trivial,rfl,fun _=>rfl,trivial,rfl⟩
 ·simp only[List.cons.injEq,and_true]at h1;subst h1;exact⟨trivial,rfl,fun _=>rfl,trivial,rfl⟩
theorem sl_at {α:Type} {sz:Nat} {d:De α} {h:Heap} {a:AV} {l:List α} (e:rd (De.sl sz d) h a=some l):(l=[]∧(a=.v (.slice none 0 0)∨a=.e))∨
  ∃id off k,a=.s id k.ver off l.length∧h id=some k∧off+l.length*sz≤k.cells.length∧∀i (hi:i<l.length),d.run h ((k.cells.drop (off+i*sz)).take sz)=some l[i]:=by
 rcases De.sl_out e with ⟨h0,h1|h1⟩|⟨id,off,k,h1,h2,h3,h4⟩
 ·simp only[List.cons.injEq,and_true]at h1
  exact .inl ⟨h0,.inl h1⟩
 ·simp only[List.cons.injEq,and_true]at h1
  exact .inl ⟨h0,.inr h1⟩
 ·simp only[List.cons.injEq,and_true]at h1
  exact .inr ⟨id,off,k,h1,h2,h3,h4⟩
theorem cell_of {l r:List AV} {o n c:Nat} {x:AV} (h:(l.drop o).take n=r) (hc:r[c]? = some x) (hn:c<n):l[o+c]? = some x:=by
 rw[←h,List.getElem?_take_of_lt hn,List.getElem?_drop]at hc
 exact hc
theorem es_at {h:Heap} {a:AV} {l:List Ev} (e:rd dEs h a=some l):(l=[]∧(a=.v (.slice none 0 0)∨a=.e))∨
  ∃id off k,a=.s id k.ver off l.length∧h id=some k∧off+l.length*11≤k.cells.length∧∀i (hi:i<l.length),(k.cells.drop (off+i*11)).take 11=ecells l[i]:=by
 rcases sl_at e with h0|⟨id,off,k,h1,h2,h3,h4⟩
 ·exact .inl h0
 ·exact .inr ⟨id,off,k,h1,h2,h3,fun i hi=>deEc_out (h4 i hi)⟩
theorem ps_at {h:Heap} {a:AV} {l:List Ins} (e:rd dPs h a=some l):(l=[]∧(a=.v (.slice none 0 0)∨a=.e))∨
  ∃id off k,a=.s id k.ver off l.length∧h id=some k∧off+l.length*5≤k.cells.length∧∀i (hi:i<l.length),(k.cells.drop (off+i*5)).take 5=icells l[i]:=by
 rcases sl_at e with h0|⟨id,off,k,h1,h2,h3,h4⟩
 ·exact .inl h0
 ·exact .inr ⟨id,off,k,h1,h2,h3,fun i hi=>deIc_out (h4 i hi)⟩
theorem is_at {h:Heap} {a:AV} {l:List Int} (e:rd dIs h a=some l):(l=[]∧(a=.v (.slice none 0 0)∨a=.e))∨
  ∃id off k,a=.s id k.ver off l.length∧h id=some k∧off+l.length≤k.cells.length∧∀i (hi:i<l.length),k.cells[off+i]? = some (ii l[i]):=by
 rcases sl_at e with h0|⟨id,off,k,h1,h2,h3,h4⟩
 ·exact .inl h0
 ·rw[Nat.mul_one]at h3
  refine .inr ⟨id,off,k,h1,h2,h3,fun i hi => ?_⟩
  have:=h4 i hi
  rw[Nat.mul_one]at this
  simp only[De.int]at this
  split at this
  ·rename_i k' n' hq
   split at this
   ·rename_i hkk
    have h5:=cell_of (c:=0) hq rfl (by omega)
    simp only[Option.some.injEq]at this
    rw[Nat.add_zero]at h5
    rw[h5,hkk,this]
    rfl
   ·cases this
  ·cases this
theorem sls_at {α:Type} {sz:Nat} {d:De α} {h:Heap} {a:AV} {l:List (List α)} (e:rd (De.sl 1 (De.sl sz d)) h a=some l):(l=[]∧(a=.v (.slice none 0 0)∨a=.e))∨
  ∃id off k,a=.s id k.ver off l.length∧h id=some k∧off+l.length≤k.cells.length∧∀i (hi:i<l.length),∃c,k.cells[off+i]? = some c∧rd (De.sl sz d) h c=some l[i]:=by
 rcases sl_at e with h0|⟨id,off,k,h1,h2,h3,h4⟩
 ·exact .inl h0
 ·rw[Nat.mul_one]at h3
  refine .inr ⟨id,off,k,h1,h2,h3,fun i hi => ?_⟩
  have:=h4 i hi
  rw[Nat.mul_one]at this
  have hlt:off+i<k.cells.length:=by omega
  refine⟨k.cells[off+i],List.getElem?_eq_getElem hlt,?_⟩
  have e2:(k.cells.drop (off+i)).take 1=[k.cells[off+i]]:=by
   rw[List.take_one,List.head?_drop,List.getElem?_eq_getElem hlt]
   rfl
  rw[e2]at this
  exact this
def cellAt (h:Heap) (a:AV) (i:Nat):AV:=match a with
 | .s id _ off _=>match h id with
  | some k=>k.cells.getD (off+i) .any
  | none=>.any
 | _=>.any
theorem cell_sls {α:Type} {sz:Nat} {d:De α} {h:Heap} {a:AV} {l:List (List α)} (e:rd (De.sl 1 (De.sl sz d)) h a=some l) {i:Nat} (hi:i<l.length):rd (De.sl sz d) h (cellAt h a i)=some l[i]:=by
 rcases sls_at e with ⟨h0,_⟩|⟨id,off,k,rfl,h2,h3,h4⟩
 ·subst h0;simp at hi
 ·obtain⟨c,h5,h6⟩:=h4 i hi
  simp only[cellAt,h2,List.getD_eq_getElem?_getD,h5,Option.getD_some]
  exact h6
theorem cellAt_le {α:Type} {d:De α} {h h':Heap} (hh:h.le h') {a:AV} {l:List α} (e:rd (De.sl 1 d) h a=some l) (i:Nat):cellAt h' a i=cellAt h a i:=by
 rcases sl_at e with ⟨_,rfl|rfl⟩|⟨id,off,k,rfl,h2,_⟩
 ·rfl
 ·rfl
 ·simp only[cellAt,h2,hh _ _ h2]
theorem sl_inH {α:Type} {sz:Nat} {d:De α} {h:Heap} {a:AV} {l:List α} (e:rd (De.sl sz d) h a=some l):a.inH h:=by
 rcases sl_at e with ⟨_,rfl|rfl⟩|⟨id,off,k,rfl,h2,_⟩
 ·simp[AV.inH]
 ·simp[AV.inH]
 ·simp only[AV.inH];exact⟨k,h2,rfl⟩
def dePr (h:Heap):AV→Option Pr
 | .g [a,b]=>match rd dPs h a,rd dIss h b with
  | some x,some y=>some ⟨x,y⟩
  | _,_=>none
 | _=>none
theorem dePr_out {h:Heap} {x:AV} {p:Pr} (e:dePr h x=some p):∃a b,x=.g [a,b]∧rd dPs h a=some p.code∧rd dIss h b=some p.cols:=by
 unfold dePr at e
 split at e
 ·rename_i a b
  split at e
  ·rename_i x y e1 e2
   cases e
   exact⟨a,b,rfl,e1,e2⟩
  ·cases e
 ·cases e
theorem dePr_in {h:Heap} {a b:AV} {p:Pr} (h1:rd dPs h a=some p.code) (h2:rd dIss h b=some p.cols):dePr h (.g [a,b])=some p:=by simp only[dePr,h1,h2]
theorem dePr_sim {h h':Heap} (hh:h.sim h') {x:AV} {p:Pr} (e:dePr h x=some p):dePr h' x=some p:=by
 obtain⟨a,b,rfl,e1,e2⟩:=dePr_out e
 exact dePr_in (rd_sim hh e1) (rd_sim hh e2)
def deEn (h:Heap):AV→Option En
 | .g [a,.v (.int .i64 each),.v (.int .i64 pos)]=>match rd dEss h a with
  | some x=>some ⟨x,each,pos⟩
  | _=>none
 | _=>none
theorem deEn_out {h:Heap} {x:AV} {p:En} (e:deEn h x=some p):∃a,x=.g [a,ii p.each,ii p.pos]∧rd dEss h a=some p.ls:=by
 unfold deEn at e
 split at e
 ·rename_i a each pos
  split at e
  ·rename_i x e1
   cases e
   exact⟨a,rfl,e1⟩
  ·cases e
 ·cases e
theorem deEn_in {h:Heap} {a:AV} {e:En} (h1:rd dEss h a=some e.ls):deEn h (.g [a,.v (.int .i64 e.each),.v (.int .i64 e.pos)])=some e:=by simp only[deEn,h1]
theorem deEn_sim {h h':Heap} (hh:h.sim h') {x:AV} {p:En} (e:deEn h x=some p):deEn h' x=some p:=by
 obtain⟨a,rfl,e1⟩:=deEn_out e
 exact deEn_in (rd_sim hh e1)
theorem roH_le (h:Heap) {id:Nat} {k:Blk} (e:h id=some k):roH h id=some k.ro:=by simp[roH,e]
def agree (n:Nat) (h0 h:Heap):Prop:=∀j,j<n→h j=h0 j
theorem agree_refl (n:Nat) (h:Heap):agree n h h:=fun _ _=>rfl
theorem agree_up {n:Nat} {h0 h:Heap} {i:Nat} (hi:n≤i) (b:Option Blk):agree n h0 (up h i b)↔agree n h0 h:=by
 constructor
 ·intro hh j hj
  have:=hh j hj
  rwa [up_ne _ _ (by omega)]at this
 ·intro hh j hj
  rw[up_ne _ _ (by omega)]
  exact hh j hj
theorem agree_sim {n:Nat} {h h':Heap} (hn:∀i,n≤i→h i=none) (ha:agree n (roH h) h'):h.sim h':=fun i k e=>by
 have hi:i<n:=by
  by_cases hi:i<n
  ·exact hi
  ·rw[hn i (by omega)]at e;cases e
 exact⟨k.ro,by rw[ha i hi];exact roH_le h e,rfl,rfl⟩
theorem rd_agree {α:Type} {d:De α} {h:Heap} {n:Nat} {a:AV} {x:α} (hn:∀i,n≤i→h i=none) (e:rd d h a=some x):∀h',agree n (roH h) h'→rd d h' a=some x:=fun _ ha=>rd_sim (agree_sim hn ha) e
theorem pr_agree {h:Heap} {n:Nat} {a:AV} {x:Pr} (hn:∀i,n≤i→h i=none) (e:dePr h a=some x):∀h',agree n (roH h) h'→dePr h' a=some x:=fun _ ha=>dePr_sim (agree_sim hn ha) e
theorem en_agree {h:Heap} {n:Nat} {a:AV} {x:En} (hn:∀i,n≤i→h i=none) (e:deEn h a=some x):∀h',agree n (roH h) h'→deEn h' a=some x:=fun _ ha=>deEn_sim (agree_sim hn ha) e
theorem agree_at {n id:Nat} {h h':Heap} {k:Blk} (hn:∀i,n≤i→h i=none) (hk:h id=some k) (ha:agree n (roH h) h'):h' id=some ⟨k.cells,k.ver,false,k.esz⟩:=by
 have hi:id<n:=by
  by_cases hi:id<n
  ·exact hi
  ·rw[hn id (by omega)]at hk;cases hk
 rw[ha id hi]
 exact ro_at hk
theorem lt_of {h:Heap} {id n:Nat} {k:Blk} (hk:h id=some k) (hn:∀i,n≤i→h i=none):id<n:=by
 by_cases hi:id<n
 ·exact hi
 ·rw[hn id (by omega)]at hk;cases hk
def pureS {α:Type} (de:Heap→List AV→Option α) (f:Heap→List AV→α→AV):List AV→Heap→PRes:=fun args h=>match de h args with
 | some a=>⟨True,f h args a⟩
 | none=>⟨False,.any⟩
theorem mkS {S : List Nat} {l : List (FuncId × (List AV → Heap → PRes))} {f : FuncId} {fn : Func} {c : Code} (k : Nat) (ok : TbOk S l) (hf : Tryz.prog.funcs[f]? = some fn) (hb : fn.body = some c) (hok : (!(fn.name == "runtime.NumGoroutine") && fnOk (cx S (pfL l)) fn c && decide (k ≤ fn.ntmps)) = true)
  {α:Type} {de:Heap→List AV→Option α} {g:Heap→List AV→α→AV} (hm:∀h h' l x,h.le h'→de h l=some x→de h' l=some x∧g h' l x=g h l x) (hk:∀h l x,de h l=some x→l.length≤k) (hg:∀h l a,de h l=some a→(g h l a).inH h)
  (h1:∀args a h n,de h args=some a→(∀i,n≤i→h i=none)→awp (cx S (pfL l)) c (finQ (cx S (pfL l)) fn fun z _ _=>z=g h args a) ⟨env0 args,roH h,n⟩):P0 S f (pureS de g):=by
 have hok':=hok3 hok
 have hout:∀args h,(pureS de g args h).side→∃a,de h args=some a∧∀h',h.le h'→pureS de g args h'=⟨True,g h args a⟩:=fun args h hs=>by
  unfold pureS at hs
  split at hs
  ·rename_i a e
   exact⟨a,e,fun h' hh=>by simp only[pureS,(hm _ _ _ _ hh e).1,(hm _ _ _ _ hh e).2]⟩
  ·exact hs.elim
 exact pure_any (fun _ hx=>hx) (pure_of_awp' (pfL_ok ok) (mixed _ _) hf hb hok'.2.1 (callable hf hok'.1 (by rw[hb];rfl) _ _) (fun args h h' hh hs=>by
   obtain⟨a,e,hall⟩:=hout args h hs
   rw[hall h' hh,hall h (fun _ _ e=>e)]
   exact⟨trivial,rfl⟩) fun args h hs=>by
  obtain⟨a,e,hall⟩:=hout args h hs
  have hv:=hall h (fun _ _ e=>e)
  exact⟨Nat.le_trans (hk _ _ _ e) hok'.2.2,by rw[hv];exact hg h args a e,fun n hn=>by rw[hv];exact h1 args a h n e hn⟩)
def Own (h:Heap) (lo n:Nat) (a:AV) (cnt:Nat) (cells:List AV) (esz:Nat):Prop :=
 (cnt=0∧cells=[]∧a=.v (.slice none 0 0))∨∃w u,a=.s w u 0 cnt∧h w=some ⟨cells,u,true,esz⟩∧lo≤w∧w<n
def Fresh (n:Nat) (h:Heap):Prop:=∀q,n≤q→h q=none
theorem fresh_up {n:Nat} {h:Heap} {i:Nat} (hi:i<n) (b:Option Blk):Fresh n (up h i b)↔Fresh n h:=by
 constructor
 ·intro hh q hq
  have:=hh q hq
  rwa [up_ne _ _ (by omega)]at this
 ·intro hh q hq
  rw[up_ne _ _ (by omega)]
  exact hh q hq
theorem Fresh.add {n:Nat} {h:Heap} (hf:Fresh n h) (k:Nat):Fresh (n+k) h:=fun q hq=>hf q (by omega)
theorem Fresh.mono {n m:Nat} {h:Heap} (hf:Fresh n h) (hm:n≤m):Fresh m h:=fun q hq=>hf q (by omega)
def smallH (q:List Ev×Int×List Int):Prop:=q.1.length<big∧q.2.2.length<big
def de101 (h:Heap):List AV→Option (List Ev×Int×List Int)
 | [a,.v (.int .i64 x),c]=>match rd dEs h a,rd dIs h c with
  | some l,some col=>some (l,x,col)
  | _,_=>none
 | _=>none
theorem de101_out {h:Heap} {args:List AV} {q:List Ev×Int×List Int} (e:de101 h args=some q):∃a c,args=[a,ii q.2.1,c]∧rd dEs h a=some q.1∧rd dIs h c=some q.2.2:=by
 unfold de101 at e
 split at e
 ·split at e
  ·rename_i e1 e3
   cases e
   exact⟨_,_,rfl,e1,e3⟩
  ·cases e
 ·cases e
theorem de101_mono (h h':Heap) (args:List AV) (q:List Ev×Int×List Int) (hh:h.le h') (e:de101 h args=some q):de101 h' args=some q:=by
 obtain⟨a,c,rfl,e1,e3⟩:=de101_out e
 simp only[de101,rd_mono hh e1,rd_mono hh e3,ii]
def g101:=pureH de101 smallH fun q=>vv (oneV q.1 q.2.1 q.2.2)
theorem ldcs_ev {X:Ctx} {h:Heap} {id ver o:Nat} {k:Blk} {e:Ev} (hk:h id=some k) (he:(k.cells.drop o).take 11=ecells e):ldcs X h (.p id ver o) 0 11=ecells e:=by
 have hc:∀c x,(ecells e)[c]? = some x→c<11→ldc X h (.p id ver o) c=x:=fun c x hx hc=>by
  simp only[ldc,hk,List.getD_eq_getElem?_getD,cell_of he hx hc,Option.getD_some]
 simp only[ldcs,ecells]
 rw[hc 0 _ rfl (by omega),hc 1 _ rfl (by omega),hc 2 _ rfl (by omega),hc 3 _ rfl (by omega),hc 4 _ rfl (by omega),hc 5 _ rfl (by omega),hc 6 _ rfl (by omega),hc 7 _ rfl (by omega),hc 8 _ rfl (by omega),hc 9 _ rfl (by omega),hc 10 _ rfl (by omega)]
def tb101:List (FuncId×(List AV→Heap→PRes)):=[(212,g124)]
theorem p101:P0 [] 184 g101:=by
 refine mkH 3 (S:=[]) (l:=tb101) (tb_cons p124 tb_nil) Tryz.func184 rfl (by kernel_rfl) de101_mono (fun h l x e=>by obtain⟨a,c,rfl,_⟩:=de101_out e;exact Nat.le_refl _) (fun a=>rfl) (fun args q h n e hp hn => ?_)
 obtain⟨l,i,c'⟩:=q
 obtain⟨a,c,rfl,e1,e3⟩:=de101_out e
 simp only[]at e1 e3 ⊢
 obtain⟨s1,s2,s3,s4,s5⟩:=sl_is e1
 obtain⟨t1,t2,t3,t4,t5⟩:=sl_is e3
 by_cases hi:i<0
 ·simp[evw,ii,vv,oneV,unk,hi,s1,s2,s3]
 ·obtain⟨j,rfl⟩:∃j:Nat,i=j:=⟨i.toNat,by omega⟩
  have hbig:=hp.1
  by_cases hj:j<l.length
  ·rcases es_at e1 with ⟨rfl,_⟩|⟨id,off,k,rfl,hk,ho,hat⟩
   ·simp at hj
   have hr:=hat j hj
   have c2:=cell_of (c:=2) hr rfl (by omega)
   rw[Nat.add_assoc]at c2
   have hro:=ro_at hk
   have h0:=ne_of hk hn 0
   simp only[Nat.add_zero]at h0
   have hle:∀(X:Ctx) (h':Heap),h' id=some ⟨k.cells,k.ver,false,k.esz⟩→ldcs X h' (.p id k.ver (off+j*11)) 0 11=ecells l[j]:=fun X h' e=>ldcs_ev e hr
   have hw:off+(j*11+11)≤k.cells.length:=by omega
   have hw2:off+(j*11+3)≤k.cells.length:=by omega
   have hj':¬l.length≤j:=by omega
   by_cases ht:l[j].ty<0
   ·simp[evw,ii,vv,oneV,placeOf,unk,hj,hj',ht,hro,h0,c2,hw2,t1,t2,t3]
   ·obtain⟨t,htt⟩:∃t:Nat,l[j].ty=t:=⟨l[j].ty.toNat,by omega⟩
    rw[htt]at c2
    by_cases hc:t<c'.length
    ·rcases is_at e3 with ⟨rfl,_⟩|⟨id',off',k',rfl,hk',ho',hat'⟩
     ·simp at hc
     have g2:=hat' t hc
     have hro':=ro_at hk'
     have h0':=ne_of hk' hn 0
     simp only[Nat.add_zero]at h0'
     have hc':¬c'.length≤t:=by omega
     have hw3:off'+(t+1)≤k'.cells.length:=by omega
     simp[evw,ii,vv,oneV,placeOf,hj,hj',htt,hro,h0,c2,hc,hc',hro',h0',g2,hw,hw2,hw3,hle,tb101,g124,pure2,deE_ee,deI]
    ·have hc':c'.length≤t:=by omega
     simp[evw,ii,vv,oneV,placeOf,unk,hj,hj',htt,hro,h0,c2,hw2,hc',t1,t2,t3]
  ·have hj':l.length≤j:=by omega
   simp[evw,ii,vv,oneV,unk,hj',s1,s2,s3]
def deLI (h:Heap):List AV→Option (En×Int)
 | [e,.v (.int .i64 i)]=>(deEn h e).map fun x=>(x,i)
 | _=>none
theorem deLI_out {h:Heap} {args:List AV} {q:En×Int} (e:deLI h args=some q):∃a,args=[.g [a,ii q.1.each,ii q.1.pos],ii q.2]∧rd dEss h a=some q.1.ls:=by
 unfold deLI at e
 split at e
 ·simp only[Option.map_eq_some_iff]at e
  obtain⟨x,e1,rfl⟩:=e
  obtain⟨a,rfl,e2⟩:=deEn_out e1
  exact⟨a,rfl,e2⟩
 ·cases e
def fLI (h:Heap) (args:List AV) (q:En×Int):AV:=match args with
 | [.g [a,_,_],_]=>if q.2<0∨(q.1.ls.length:Int)≤q.2 then .v (.slice none 0 0)else cellAt h a q.2.toNat
 | _=>.any
theorem deLI_mono (h h':Heap) (args:List AV) (q:En×Int) (hh:h.le h') (e:deLI h args=some q):deLI h' args=some q∧fLI h' args q=fLI h args q:=by
 obtain⟨a,rfl,e1⟩:=deLI_out e
 refine⟨?_,?_⟩
 ·simp only[deLI,ii,deEn_in (rd_mono hh e1),Option.map_some]
 ·simp only[fLI]
  rw[cellAt_le hh e1]
theorem fLI_rd {h:Heap} {args:List AV} {q:En×Int} (e:deLI h args=some q):rd dEs h (fLI h args q)=some (listAt q.1.ls q.2):=by
 obtain⟨a,rfl,e1⟩:=deLI_out e
 simp only[fLI,listAt]
 by_cases h1:q.2<0
 ·rw[if_pos (.inl h1),if_pos h1];rfl
 ·rw[if_neg h1]
  by_cases h2:(q.1.ls.length:Int)≤q.2
  ·rw[if_pos (.inr h2),List.getD_eq_getElem?_getD,List.getElem?_eq_none (by omega)];rfl
  ·rw[if_neg (by omega)]
   have hlt:q.2.toNat<q.1.ls.length:=by omega
   rw[List.getD_eq_getElem?_getD,List.getElem?_eq_getElem hlt]
   exact cell_sls e1 hlt
def G65:=pureS deLI fLI
theorem P65:P0 [] 89 G65:=by
 refine mkS 2 (S:=[]) tb_nil Tryz.func89 rfl (by kernel_rfl) deLI_mono (fun h l x e=>by obtain⟨a,rfl,_⟩:=deLI_out e;exact Nat.le_refl _) (fun h l a e=>sl_inH (fLI_rd e)) (fun args q h n e hn => ?_)
 obtain⟨⟨ls,each,pos⟩,i⟩:=q
 obtain⟨a,rfl,e1⟩:=deLI_out e
 simp only[]at e1 ⊢
 obtain⟨s1,s2,s3,s4,s5⟩:=sl_is e1
 by_cases hi:i<0
 ·simp[evw,ii,fLI,hi,s1,s2,s4]
 ·obtain⟨j,rfl⟩:∃j:Nat,i=j:=⟨i.toNat,by omega⟩
  by_cases hj:j<ls.length
  ·rcases sls_at e1 with ⟨rfl,_⟩|⟨id,off,k,rfl,hk,ho,hat⟩
   ·simp at hj
   have hj':¬ls.length≤j:=by omega
   have hro:=ro_at hk
   have h0:=ne_of hk hn 0
   simp only[Nat.add_zero]at h0
   have hw:off+(j+1)≤k.cells.length:=by omega
   simp[evw,ii,fLI,hj,hj',s1,s2,s4,hro,h0,hw,cellAt,hk]
  ·have hj':ls.length≤j:=by omega
   simp[evw,ii,fLI,hj',s1,s2,s4]
def okL (q:List Ev×List Int×Int):Prop:=q.1.length≤2147483647∧q.2.1.length<big∧∀e∈q.1,EvOk e
def de102 (h:Heap):List AV→Option (List Ev×List Int×Int)
 | [a,c,.v (.int .i64 o)]=>match rd dEs h a,rd dIs h c with
  | some l,some col=>some (l,col,o)
  | _,_=>none
 | _=>none
theorem de102_out {h:Heap} {args:List AV} {q:List Ev×List Int×Int} (e:de102 h args=some q):∃a c,args=[a,c,ii q.2.2]∧rd dEs h a=some q.1∧rd dIs h c=some q.2.1:=by
 unfold de102 at e
 split at e
 ·split at e
  ·rename_i e1 e3
   cases e
   exact⟨_,_,rfl,e1,e3⟩
  ·cases e
 ·cases e
theorem de102_mono (h h':Heap) (args:List AV) (q:List Ev×List Int×Int) (hh:h.le h') (e:de102 h args=some q):de102 h' args=some q:=by
 obtain⟨a,c,rfl,e1,e3⟩:=de102_out e
 simp only[de102,rd_mono hh e1,rd_mono hh e3,ii]
def g102:=pureH de102 okL fun q=>vv (allV q.1 q.2.1 q.2.2)
theorem colN_ints (l:List Ev) (c:List Int) (j:Nat):(colN l c (j+1)).map ii=(colN l c j).map ii++[ii (oneV l (j:Int) c).n]:=by rw[colN_succ];simp
theorem all_no {l:List Ev} {c:List Int} {j:Nat} (op:Int) (hj:j<l.length) (h:(oneV l (j:Int) c).k=false):allV l c op=unk:=by
 have:knownTo l c (j+1)=false:=by rw[knownTo_succ,h,Bool.and_false]
 unfold allV
 rw[if_neg fun e=>by rw[knownTo_le (by omega) e]at this;cases this]
theorem all_yes {l:List Ev} {c:List Int} (op:Int) (h:knownTo l c l.length=true):allV l c op=foldG sumL op (colN l c l.length):=if_pos h
def tb102:List (FuncId×(List AV→Heap→PRes)):=[(184,g101),(213,g33)]
theorem p102:P0 [1] 185 g102:=by
 refine mkH 3 (S:=[1]) (l:=tb102) (tb_cons p101 (tb_cons p33 tb_nil)) Tryz.func185 rfl (by kernel_rfl) de102_mono (fun h l x e=>by obtain⟨a,c,rfl,_⟩:=de102_out e;exact Nat.le_refl _) (fun a=>rfl) (fun args q h n e hp hn => ?_)
 obtain⟨l,c',op⟩:=q
 obtain⟨a,c,rfl,e1,e3⟩:=de102_out e
 obtain⟨hl,hc,hev⟩:=hp
 simp only[]at e1 e3 hl hc hev ⊢
 obtain⟨s1,s2,s3,s4,s5⟩:=sl_is e1
 obtain⟨t1,t2,t3,t4,t5⟩:=sl_is e3
 have key:∀e:Nat→AV,e 0=a→e 1=c→e 2=ii op→awp (cx [1] (pfL tb102)) (Tryz.f185.body.getD .skip) (finQ (cx [1] (pfL tb102)) Tryz.f185 fun z _ _=>z=vv (allV l c' op)) ⟨e,roH h,n⟩:=fun e q0 q1 q2=>by
  have hb1:(8:Int)*(l.length:Int)≤281474976710656:=by omega
  have hb2:(l.length:Int)≤9223372036854775807:=by omega
  simp[evw,Tryz.f185,q0,s1,s2,hb1,hb2]
  refine awp_loop (fun s=>∃j,j≤l.length∧s.e 0=a∧s.e 1=c∧s.e 2=ii op∧s.e 6=.p n 0 0∧s.e 7=.s (n+1) j 0 j∧s.e 14=ii l.length∧s.e 15=ii j∧agree n (roH h) s.h∧s.h n=some ⟨[.v (.bool false),.v (.int .i64 0)],0,true,2⟩∧s.h (n+1)=some ⟨(colN l c' j).map ii,j,true,1⟩∧n+2≤s.n∧knownTo l c' j=true) (fun s=>l.length-(s.e 15).i.toNat) ⟨0,by simp[up,q0,q1,q2,ii,agree_up,agree_refl,colN,knownTo]⟩ ?_
  rintro e' h' n' ⟨j,hj,q0,q1,q2,q6,q7,q14,q15,hag,hr,hk,hnn,hkn⟩
  simp only[]at q0 q1 q2 q6 q7 q14 q15 hag hr hk hnn
  have f1:n≤n':=by omega
  have f2:n≤n'+1:=by omega
  have f3:n≤n'+2:=by omega
  have z1:¬n=n':=by omega
  have z2:¬n=n'+1:=by omega
  have z3:¬n=n'+2:=by omega
  have z4:¬n+1=n':=by omega
  have g1:=rd_agree hn e1
  have g3:=rd_agree hn e3
  by_cases hlt:j<l.length
  ·have hw:=wrap_nat (j:=j) (by unfold big;omega)
   have hsm:smallH (l,(j:Int),c'):=⟨by simp only[big];omega,hc⟩
   have hcn:=colN_ints l c' j
   have hcl:((colN l c' j).map ii).length=j:=by rw[List.length_map,colN_len]
   generalize hx:oneV l (j:Int) c'=x at *
   generalize (colN l c' j).map ii=cs at *
   have hb3:(j+1)*8≤140737488355328:=by omega
   have hb4:j+1≤9223372036854775807:=by omega
   cases hxk:x.k with
   | false =>
    have ha:=all_no op hlt (by rw[hx];exact hxk)
    have hu:x=unk:=by rw[←hx];exact oneV_unk (by rw[hx];exact hxk)
    subst hu
    simp[evw,q0,q1,q6,q14,q15,ii,hlt,tb102,g101,pureH,de101,g1,g3,hag,hsm,hx,vv,unk,z1,hr,ha]
   | true =>
    simp[evw,q0,q1,q2,q6,q7,q14,q15,ii,hlt,tb102,g101,pureH,de101,g1,g3,hag,agree_up,f1,f3,hsm,hx,vv,z1,z2,z3,z4,hr,hk,hxk,hcl,hb3,hb4,hw]
    exact⟨⟨j+1,by omega,rfl,by omega,⟨by rw[hcn];rfl,rfl⟩,by rw[knownTo_succ,hkn,hx,hxk];rfl⟩,by omega⟩
  ·have hje:j=l.length:=by omega
   subst hje
   have hay:=all_yes op hkn
   have hcl:(colN l c' l.length).length=l.length:=colN_len ..
   have hlb:l.length<big:=by unfold big;omega
   have hdi:deIs (List.take l.length ((colN l c' l.length).map ii))=some (colN l c' l.length):=by
    rw[List.take_of_length_le (by rw[List.length_map,hcl];exact Nat.le_refl _),deIs_ii]
   generalize colN l c' l.length=cn at *
   simp[evw,q2,q6,q7,q14,q15,ii,tb102,g33,pureAL,deI,ints,vv,hr,hk,hay,hcl,hlb,hdi]
 exact key _ rfl rfl rfl
structure EnOk (e:En):Prop where
 len:∀l∈e.ls,l.length≤2147483647
 ev:∀l∈e.ls,∀x∈l,EvOk x
 pos:Rng e.pos
theorem listAt_mem {ls:List (List Ev)} {P:List Ev→Prop} (h0:P []) (h:∀l∈ls,P l) (i:Int):P (listAt ls i):=by
 unfold listAt
 split
 ·exact h0
 ·rw[List.getD_eq_getElem?_getD]
  cases e:ls[i.toNat]? with
  | none=>exact h0
  | some l=>exact h l (List.mem_of_getElem? e)
theorem EnOk.lenAt {e:En} (h:EnOk e) (i:Int):(listAt e.ls i).length≤2147483647:=listAt_mem (P:=fun l=>l.length≤2147483647) (by simp) h.len i
theorem EnOk.evAt {e:En} (h:EnOk e) (i:Int):∀x∈listAt e.ls i,EvOk x:=listAt_mem (P:=fun l=>∀x∈l,EvOk x) (by simp) h.ev i
def okM (q:Ins×List Int×En):Prop:=(1≤q.1.code∧q.1.code≤9)∧q.2.1.length<big∧EnOk q.2.2
def de61 (h:Heap):List AV→Option (Ins×List Int×En)
 | [i,c,e]=>match deIns i,rd dIs h c,deEn h e with
  | some i,some c,some e=>some (i,c,e)
  | _,_,_=>none
 | _=>none
theorem de61_out {h:Heap} {args:List AV} {q:Ins×List Int×En} (e:de61 h args=some q):∃c x,args=[iv q.1,c,x]∧rd dIs h c=some q.2.1∧deEn h x=some q.2.2:=by
 unfold de61 at e
 split at e
 ·split at e
  ·rename_i e1 e2 e3
   cases e
   exact⟨_,_,by rw[deIns_out e1],e2,e3⟩
  ·cases e
 ·cases e
theorem deIns_in (i:Ins):deIns (.g (icells i))=some i:=rfl
theorem de61_mono (h h':Heap) (args:List AV) (q:Ins×List Int×En) (hh:h.le h') (e:de61 h args=some q):de61 h' args=some q:=by
 obtain⟨c,x,rfl,e1,e2⟩:=de61_out e
 simp only[de61,iv,deIns_in,rd_mono hh e1,deEn_sim hh.sim e2]
def g61m:=pureH de61 okM fun q=>vv (mentionV q.1 q.2.1 q.2.2)
theorem li_facts {h:Heap} {n:Nat} (hn:∀i,n≤i→h i=none) {a:AV} {e:En} (e1:rd dEss h a=some e.ls) (item:Int):∃c,(∀h',agree n (roH h) h'→deLI h' [.g [a,.v (.int .i64 e.each),.v (.int .i64 e.pos)],.v (.int .i64 item)]=some (e,item)∧fLI h' [.g [a,.v (.int .i64 e.each),.v (.int .i64 e.pos)],.v (.int .i64 item)] (e,item)=c)∧
  (∀h',agree n (roH h) h'→rd dEs h' c=some (listAt e.ls item))∧c.isS∧c.slen=(listAt e.ls item).length∧(∀g,AV.unc g c=c)∧c.one∧c.cells=[c]:=by
 have hq:deLI h [.g [a,.v (.int .i64 e.each),.v (.int .i64 e.pos)],.v (.int .i64 item)]=some (e,item):=by simp only[deLI,deEn_in e1,Option.map_some]
 have hr:=fLI_rd hq
 have hat:∀h',agree n (roH h) h'→∀i,cellAt h' a i=cellAt h a i:=fun h' ha i=>by
  rcases sl_at e1 with ⟨_,rfl|rfl⟩|⟨id,off,k,rfl,h2,_⟩
  ·rfl
  ·rfl
  ·simp only[cellAt,h2,agree_at hn h2 ha]
 refine⟨_,fun h' ha=>⟨?_,?_⟩,fun h' ha=>rd_agree hn hr h' ha,sl_is hr⟩
 ·simp only[deLI,deEn_in (rd_agree hn e1 h' ha),Option.map_some]
 ·simp only[fLI]
  rw[hat h' ha]
def tb61:List (FuncId×(List AV→Heap→PRes)):=[(89,G65),(184,g101),(185,g102)]
theorem p61m:P0 [1] 142 g61m:=by
 refine mkH 3 (S:=[1]) (l:=tb61) (tb_cons P65 (tb_cons p101 (tb_cons p102 tb_nil))) Tryz.func142 rfl (by kernel_rfl) de61_mono (fun h l x e=>by obtain⟨a,c,rfl,_⟩:=de61_out e;exact Nat.le_refl _) (fun a=>rfl) (fun args q h n e hp hn => ?_)
 obtain⟨⟨code,item,icol,iN,ito⟩,col,⟨ls,each,pos⟩⟩:=q
 obtain⟨c,x,rfl,e1,e2⟩:=de61_out e
 obtain⟨hcode,hc,hen⟩:=hp
 obtain⟨a,rfl,e3⟩:=deEn_out e2
 simp only[]at e1 e2 e3 hcode hc hen ⊢
 obtain⟨s1,s2,s3,s4,s5⟩:=sl_is e3
 obtain⟨t1,t2,t3,t4,t5⟩:=sl_is e1
 obtain⟨cl,f1,f2,u1,u2,u3,u4,u5⟩:=li_facts (e:=⟨ls,each,pos⟩) hn e3 item
 simp only[]at f1 f2 u1 u2 u3 u4 u5
 have f0:=fun h' ha=>(f1 h' ha).1
 replace f1:=fun h' ha=>(f1 h' ha).2
 have hlen:=hen.lenAt item
 have hev:=hen.evAt item
 have hpos:=hen.pos
 simp only[]at hlen hev hpos
 have hsm:∀i:Int,smallH (listAt ls item,i,col):=fun i=>⟨by simp only[big];omega,hc⟩
 have hok:okL (listAt ls item,col,code+1):=⟨hlen,hc,hev⟩
 have g1:=rd_agree hn e1
 have v1:n≤n+1:=by omega
 have v2:n≤n+2:=by omega
 have v3:n≤n+3:=by omega
 have hw1:IntKind.i64.wrap (6+IntKind.i64.wrap (code-5))=code+1:=by
  have h1:IntKind.i64.wrap (code-5)=code-5:=W_id (by unfold Rng;omega)
  rw[h1]
  have h2:IntKind.i64.wrap (6+(code-5))=6+(code-5):=W_id (by unfold Rng;omega)
  rw[h2]
  omega
 unfold Rng at hpos
 by_cases c4:code=4
 ·subst c4
  simp[evw,iv,icells,ii,vv,mentionV,knownV,tb61,G65,pureS,f0,f1,agree_up,agree_refl,v1,v2,s4,u1,u2]
 by_cases c3:code=3
 ·subst c3
  by_cases ht:item=each∧0≤item
  ·obtain⟨rfl,ht2⟩:=ht
   by_cases hp1:1≤pos
   ·have hw2:IntKind.i64.wrap (pos-1)=pos-1:=W_id (by unfold Rng;omega)
    have hp2:¬pos<1:=by omega
    simp[evw,iv,icells,ii,vv,mentionV,tb61,G65,pureS,f0,f1,agree_up,agree_refl,v1,v2,s4,ht2,hp1,hp2,hw2,g101,pureH,de101,f2,g1,hsm]
   ·have hp2:pos<1:=by omega
    simp[evw,iv,icells,ii,vv,mentionV,unk,tb61,G65,pureS,f0,f1,agree_up,agree_refl,v1,v2,s4,ht2,hp1,hp2,g101]
  ·by_cases ht3:item=each
   ·have ht2:¬0≤item:=fun h=>ht ⟨ht3,h⟩
    subst ht3
    simp[evw,iv,icells,ii,vv,mentionV,unk,tb61,G65,pureS,f0,f1,agree_up,agree_refl,v1,v2,s4,ht2,g101]
   ·simp[evw,iv,icells,ii,vv,mentionV,unk,tb61,G65,pureS,f0,f1,agree_up,agree_refl,v1,v2,s4,ht3,g101]
 by_cases c2:code=2
 ·subst c2
  by_cases ht:item=each∧0≤item
  ·obtain⟨rfl,ht2⟩:=ht
   simp[evw,iv,icells,ii,vv,mentionV,tb61,G65,pureS,f0,f1,agree_up,agree_refl,v1,v2,s4,ht2,g101,pureH,de101,f2,g1,hsm]
  ·by_cases ht3:item=each
   ·have ht2:¬0≤item:=fun h=>ht ⟨ht3,h⟩
    subst ht3
    simp[evw,iv,icells,ii,vv,mentionV,tb61,G65,pureS,f0,f1,agree_up,agree_refl,v1,v2,s4,ht2,g101,pureH,de101,f2,g1,hsm]
   ·simp[evw,iv,icells,ii,vv,mentionV,tb61,G65,pureS,f0,f1,agree_up,agree_refl,v1,v2,s4,ht3,g101,pureH,de101,f2,g1,hsm]
 simp[evw,iv,icells,ii,vv,mentionV,tb61,G65,pureS,f0,f1,agree_up,agree_refl,v1,v2,s4,c4,c3,c2,hw1,g102,pureH,de102,f2,g1,hok]
 try (by_cases ht:item=each<;>simp[ht])
end Go.Proofs.YtbffkkeieihpdaaGreatDoor
