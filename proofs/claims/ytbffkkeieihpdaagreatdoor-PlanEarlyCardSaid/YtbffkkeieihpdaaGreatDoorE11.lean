import Derived.Test.YtbffkkeieihpdaaGreatDoorE10
import Derived.Test.YtbffkkeieihpdaaGreatDoorE08
import Derived.Lib.SmallJoins
import Derived.ChangeSlices
set_option linter.unusedSimpArgs false
set_option linter.unusedVariables false
set_option linter.constructorNameAsVariable false
set_option maxRecDepth 100000
set_option maxHeartbeats 4000000
namespace Go.Proofs.YtbffkkeieihpdaaGreatDoor
open Go Go.Eng
theorem zU4 {h h':Heap} {a:AV} {l:List Int} (hh:∀id ver off len,a=.s id ver off len→∀k,h id=some k→∃k',h' id=some k'∧k'.cells=k.cells∧k'.ver=k.ver) (e:zPr h a=some l):zPr h' a=some l:=by
 unfold zPr at e ⊢;split at e
 ·split at e
  ·rename_i k hk
   obtain⟨k',q1,q2,q3⟩:=hh _ _ _ _ rfl k hk;simp only[q1,q2,q3];exact e
  ·cases e
 ·exact e
 ·cases e
theorem yGt {h:Heap} {n:Nat} {a:AV} {l:List Int} (e:zPr h a=some l) (hn:∀i,n≤i→h i=none) (b:Option Blk):zPr (up (roH h) n b) a=some l :=
 zU4 (fun id ver off len _ k hk=>⟨⟨k.cells,k.ver,false,k.esz⟩,by
  have:=zJc hk hn 0;simp only[yL]at this
  simp[up,this,zEj hk],rfl,rfl⟩) e
def zF6 (s:List Int→V) (o:Int) (l:List Int):V :=
 if o=5 then xX l.length else if o=6 then s l else if l=[]then unk else if o=7 then xX (zJe false l l.length)else if o=8 then xX (zJe true l l.length)else
 if o=9 then xX (l.getD 0 0)else if o=10 then xX (l.getD (l.length-1) 0)else unk
def g33:=zKf deI (fun _ _=>True) fun o l=>vv (zF6 zWo o l)
theorem zV4 {n:Nat} (h0:0<n) (h:n<big):IntKind.i64.wrap ((n:Int)-1)=((n-1:Nat):Int):=by
 unfold big at h;have e:IntKind.i64.wrap ((n:Int)-1)=(n:Int)-1:=zMq (by unfold Rng;omega)
 rw[e];omega
def zZu:List (FuncId×(List AV→Heap→PRes)):=[(186,g51),(228,g55)]
theorem p33:P0 [1] 213 g33:=by
 refine yOz (S:=[1]) (l:=zZu) (zS p51 (zS p55 yJ)) Tryz.func213 rfl (by kernel_rfl) ii (fun x a h=>zBu h) (fun a b=>rfl) (fun o a l h n hi hl _ hn => ?_)
 have hup:=yGt hi hn;have key:∀e:Nat→AV,e 0=ii o→e 1=a→awp (cx [1] (pfL zZu)) (Tryz.f213.body.getD .skip) (zBc (cx [1] (pfL zZu)) Tryz.f213 fun z _ _=>z=vv (zF6 zWo o l)) ⟨e,roH h,n⟩:=fun e he he1=>by
  rcases zMd hi with ⟨rfl,rfl⟩|⟨id,off,k,rfl,hk,hoff,hat⟩
  ·by_cases h5:o=5
   ·subst h5
    simp[evv,Tryz.f213,he,he1,ii,zZu,g51,yV,deI,vv,xX,zF6]
   by_cases h6:o=6
   ·subst h6
    simp[evv,Tryz.f213,he,he1,ii,zZu,g55,zO6,hup,vv,zF6,big]
   simp[evv,Tryz.f213,he,he1,ii,zZu,h5,h6,vv,unk,zF6]
  ·have h0:=zJc hk hn 0
   simp only[yL]at h0;have hro:=zEj hk;by_cases h5:o=5
   ·subst h5
    simp[evv,Tryz.f213,he,he1,ii,zZu,g51,yV,deI,vv,xX,zF6]
   by_cases h6:o=6
   ·subst h6
    simp[evv,Tryz.f213,he,he1,ii,zZu,g55,zO6,hup,vv,zF6,hl]
   by_cases hz:l=[]
   ·subst hz
    simp[evv,Tryz.f213,he,he1,ii,zZu,h5,h6,vv,unk,zF6]
   have hp:0<l.length:=List.length_pos_iff.2 hz;have hp':¬l.length=0:=by omega
   have hget0:=hat 0 hp;simp only[yL]at hget0;have ho1:off+1≤k.cells.length:=by omega
   have hgl:=hat (l.length-1) (by omega)
   have hwl:=zV4 hp hl;have hol:off+(l.length-1+1)≤k.cells.length:=by omega
   simp[evv,Tryz.f213,he,he1,ii,zZu,h5,h6,hz,hp,hro,h0,hget0,ho1];refine yN (fun s=>∃j,j≤l.length∧s.e 0=ii o∧s.e 1=.s id k.ver off l.length∧s.e 29=.s id k.ver off l.length∧s.e 30=ii l.length∧s.e 31=ii j∧s.e 4=.p n 0 0∧s.e 5=ii (zJe false l j)∧s.e 6=ii (zJe true l j)∧s.h n=some ⟨[.v (.bool false),.v (.int .i64 0)],0,true,2⟩∧s.h id=some ⟨k.cells,k.ver,false,k.esz⟩) (fun s=>l.length-(s.e 31).i.toNat) ⟨0,by simp[up,ii,he,he1,hro,h0,zJe,zB,hp]⟩ ?_
   rintro e' h' n' ⟨j,hj,q0,q1,q29,q30,q31,q4,q5,q6,hh,hh2⟩;simp only[]at q0 q1 q29 q30 q31 q4 q5 q6 hh hh2;by_cases hlt:j<l.length
   ·have hget:=hat j hlt
    have hw:=yK (j:=j) (by omega)
    have hs:=zMf (g:=false) hlt;have hs':=zMf (g:=true) hlt;have eg:l.getD j 0=l[j]:=by simp[zB,hlt]
    rw[eg]at hget;have ho:off+(j+1)≤k.cells.length:=by omega
    simp at hs hs';simp[evv,q0,q1,q29,q30,q31,q4,q5,q6,hh,hh2,ii,hlt,hget,hw,ho];exact⟨⟨j+1,by omega,by omega,by rw[hs],by rw[hs']⟩,by omega⟩
   ·have hje:j=l.length:=by omega
    subst hje;by_cases h7:o=7
    ·subst h7
     simp[evv,q0,q30,q31,q4,q5,hh,ii,g51,yV,deI,vv,xX,zF6,hz]
    by_cases h8:o=8
    ·subst h8
     simp[evv,q0,q30,q31,q4,q6,hh,ii,g51,yV,deI,vv,xX,zF6,hz]
    by_cases h9:o=9
    ·subst h9
     simp[evv,q0,q1,q30,q31,q4,hh,hh2,ii,g51,yV,deI,vv,xX,zF6,hz,hget0,ho1,hp]
    by_cases h10:o=10
    ·subst h10
     simp[evv,q0,q1,q30,q31,q4,hh,hh2,ii,g51,yV,deI,vv,xX,zF6,hz,hgl,hwl,hol];omega
    simp[evv,q0,q30,q31,q4,hh,ii,h7,h8,h9,h10,vv,unk,zF6,hz,h5,h6]
 exact key _ rfl rfl
def All (l:List Int):Prop:=∀x∈l,Rng x
theorem zR4 {l:List Int} {j:Nat} (h:j<l.length):(l.take (j+1)).sum=(l.take j).sum+l[j]:=by
 rw[zEo,zA h,Option.toList_some,List.sum_append,List.sum_cons,List.sum_nil,Int.add_zero]
theorem zOo {l:List Int} (ha:All l):∀j,j≤l.length→-(9223372036854775808*(j:Int))≤(l.take j).sum∧(l.take j).sum≤9223372036854775808*(j:Int)
 | 0,_=>by simp
 | j+1,h=>by
  have ih:=zOo ha j (by omega)
  have hx:=ha l[j] (zH _);rw[zR4 (by omega)]
  unfold Rng at hx;omega
theorem yDm {x:Int} (h:Rng x):sgn x=if x<0 then -1 else 0:=by
 unfold sgn;have e:(2:Int)^min 63 IntKind.i64.bits=9223372036854775808:=rfl;rw[e,Int.fdiv_eq_ediv_of_nonneg _ (by decide)]
 unfold Rng at h;split<;>omega
theorem zR5 {l:List Int} (ha:All l):∀j,j≤l.length→∃q:Int,(zD7 l j).1*18446744073709551616+(zD7 l j).2=(l.take j).sum+340282366920938463463374607431768211456*q
 | 0,_=>⟨0,by simp[zD7]⟩
 | j+1,h=>by
  obtain⟨q,ih⟩:=zR5 ha j (by omega)
  have hx:=ha l[j] (zH _);have eg:l.getD j 0=l[j]:=by simp[zB,show j<l.length by omega]
  rw[zR4 (by omega),zLs (by omega),eg]
  obtain⟨⟨r1,r2⟩,r3,r4⟩:=zKb l j;unfold zEi;simp only[];rw[yDm hx,zRt l[j]];generalize (zD7 l j).1=hi at *;generalize (zD7 l j).2=lo at *;generalize l[j]=x at *;generalize (List.take j l).sum=s at *;unfold Rng at hx;by_cases h0:x<0
  ·rw[if_pos h0]
   have e:U (-1)=18446744073709551615:=rfl;rw[e];have c:(lo+x%18446744073709551616+0)/18446744073709551616=0∨(lo+x%18446744073709551616+0)/18446744073709551616=1:=by omega
   have m:(hi+18446744073709551615+(lo+x%18446744073709551616+0)/18446744073709551616)/18446744073709551616=0∨(hi+18446744073709551615+(lo+x%18446744073709551616+0)/18446744073709551616)/18446744073709551616=1:=by omega
   rcases m with m|m
   ·exact⟨q+1,by omega⟩
   ·exact⟨q,by omega⟩
  ·rw[if_neg h0]
   have e:U 0=0:=rfl;rw[e];have m:(hi+0+(lo+x%18446744073709551616+0)/18446744073709551616)/18446744073709551616=0∨(hi+0+(lo+x%18446744073709551616+0)/18446744073709551616)/18446744073709551616=1:=by omega
   rcases m with m|m
   ·exact⟨q,by omega⟩
   ·exact⟨q-1,by omega⟩
theorem yE2 {l:List Int} (ha:All l) (hl:l.length<big):zWo l=zQ9 l.sum:=by
 obtain⟨q,e⟩:=zR5 ha l.length (zC _);have b:=zOo ha l.length (zC _);obtain⟨⟨r1,r2⟩,r3,r4⟩:=zKb l l.length;rw[wW]at e b;unfold zWo;have hw:=zT5 (zD7 l l.length).2;rw[yDm (by obtain⟨_,_,h⟩:=hw;exact h)]
 rw[yC1,yC1];unfold big at hl;generalize (zD7 l l.length).1=hi at *;generalize (zD7 l l.length).2=lo at *;generalize l.sum=s at *;have hb : -42535295865117307932921825928971026432<s∧s<42535295865117307932921825928971026432:=by omega
 unfold zQ9 unk xX;rw[show hi%18446744073709551616=hi by omega,show lo%18446744073709551616=lo by omega]
 by_cases c1:9223372036854775808≤hi<;>by_cases c2:9223372036854775808≤lo<;>simp only[c1,c2,if_true,if_false]
 ·rw[if_pos (show lo-18446744073709551616<0 by omega)]
  by_cases c3:hi-18446744073709551616=-1
  ·rw[if_neg (by simpa using c3),if_pos (by omega)]
   congr 1;omega
  ·rw[if_pos (by simpa using c3),if_neg (by omega)]
 ·rw[if_neg (show ¬lo<0 by omega)]
  rw[if_pos (by simp;omega),if_neg (by omega)]
 ·rw[if_pos (show lo-18446744073709551616<0 by omega)]
  rw[if_pos (by simp;omega),if_neg (by omega)]
 ·rw[if_neg (show ¬lo<0 by omega)]
  by_cases c3:hi=0
  ·rw[if_neg (by simpa using c3),if_pos (by omega)]
   congr 1;omega
  ·rw[if_pos (by simpa using c3),if_neg (by omega)]
end Go.Proofs.YtbffkkeieihpdaaGreatDoor
namespace Go.Eng
open Go Go.RowKit
structure Blks (ρ:Ren) (h:Heap) (W:World) (m:Nat):Prop where
 blk:∀id k,h id=some k→BlkRel ρ W id k
 free:∀j,m≤j→(∀ver,ρ j ver=none)∧h j=none
theorem Blks.nil (W:World):Blks (fun _ _=>none) (fun _=>none) W 0:=⟨fun _ _ h=>by (cases h),fun _ _=>⟨fun _=>rfl,rfl⟩⟩
def Heap.sim (h h':Heap):Prop:=∀i k,h i=some k→∃k',h' i=some k'∧k'.cells=k.cells∧k'.ver=k.ver
theorem Heap.le.sim {h h':Heap} (hh:h.le h'):h.sim h':=fun i k e=>⟨k,hh i k e,rfl,rfl⟩
theorem Heap.sim_trans {a b c:Heap} (h:a.sim b) (k:b.sim c):a.sim c:=fun i x e=>by
 obtain⟨y,e1,e2,e3⟩:=h i x e;obtain⟨z,e4,e5,e6⟩:=k i y e1;exact⟨z,e4,e5.trans e2,e6.trans e3⟩
structure De (α:Type) where
 run:Heap→List AV→Option α
 sim:∀{h h':Heap} {l:List AV} {x:α},h.sim h'→run h l=some x→run h' l=some x
theorem De.mono {α:Type} (d:De α) {h h':Heap} {l:List AV} {x:α} (hh:h.le h') (e:d.run h l=some x):d.run h' l=some x:=d.sim hh.sim e
def yDn {α:Type}:List (Option α)→Option (List α)
 | []=>some []
 | none::_=>none
 | some a::r=>(yDn r).map (a :: ·)
theorem seqO_iff {α:Type}:∀{l:List (Option α)} {xs:List α},yDn l=some xs↔l=xs.map some
 | [],xs=>by cases xs<;>simp[yDn]
 | none::r,xs=>by cases xs<;>simp[yDn]
 | some a::r,[]=>by simp[yDn]
 | some a::r,x::xs=>by
  simp only[yDn,zV,wE,List.cons.injEq,Option.some.injEq];constructor
  ·rintro⟨ys,h,rfl,rfl⟩
   exact⟨rfl,seqO_iff.1 h⟩
  ·rintro⟨rfl,h⟩
   exact⟨xs,seqO_iff.2 h,rfl,rfl⟩
namespace De
def int (k:IntKind):De Int where
 run _ l:=match l with
  | [.v (.int k' n)]=>if k'=k then some n else none
  | _=>none
 sim _ e:=e
def bool:De Bool where
 run _ l:=match l with
  | [.v (.bool b)]=>some b
  | _=>none
 sim _ e:=e
def str:De ByteArray where
 run _ l:=match l with
  | [.v (.string z)]=>some z
  | _=>none
 sim _ e:=e
variable {α β:Type}
def pair (n:Nat) (a:De α) (b:De β):De (α×β) where
 run h l:=match a.run h (l.take n),b.run h (l.drop n)with
  | some x,some y=>some (x,y)
  | _,_=>none
 sim {h h' l x} hh e:=by
  split at e
  ·rename_i e1 e2
   cases e;simp only[a.sim hh e1,b.sim hh e2]
  ·cases e
def map (f:α→β) (a:De α):De β where
 run h l:=(a.run h l).map f
 sim {h h' l x} hh e:=by
  simp only[zV]at e ⊢;obtain⟨y,e1,e2⟩:=e;exact⟨y,a.sim hh e1,e2⟩
def chunks (sz:Nat) (a:De α) (h:Heap) (l:List AV) (n:Nat):Option (List α):=yDn ((List.range n).map fun i=>a.run h ((l.drop (i*sz)).take sz))
theorem chunks_iff {sz:Nat} {a:De α} {h:Heap} {l:List AV} {n:Nat} {xs:List α}:chunks sz a h l n=some xs↔xs.length=n∧∀i (hi:i<xs.length),a.run h ((l.drop (i*sz)).take sz)=some xs[i]:=by
 unfold chunks;rw[seqO_iff];constructor
 ·intro e
  have hl:n=xs.length:=by simpa using congrArg List.length e
  refine⟨hl.symm,fun i hi => ?_⟩
  have:=congrArg (·[i]?) e;simpa[hi,show i<n by omega]using this
 ·rintro⟨rfl,e⟩
  apply List.ext_getElem
  ·simp
  ·intro i h1 h2
   simp only[zQ]at h2;simpa using e i h2
theorem zIv {sz:Nat} {a:De α} {h h':Heap} {l:List AV} {n:Nat} {xs:List α} (hh:h.sim h') (e:chunks sz a h l n=some xs):chunks sz a h' l n=some xs:=by
 rw[chunks_iff]at e ⊢;exact⟨e.1,fun i hi=>a.sim hh (e.2 i hi)⟩
theorem chunks_mono {sz:Nat} {a:De α} {h h':Heap} {l:List AV} {n:Nat} {xs:List α} (hh:h.le h') (e:chunks sz a h l n=some xs):chunks sz a h' l n=some xs:=zIv hh.sim e
def arr (n sz:Nat) (a:De α):De (List α) where
 run h l:=if l.length=n*sz then chunks sz a h l n else none
 sim {h h' l x} hh e:=by
  split at e
  ·rename_i hl
   rw[if_pos hl];exact zIv hh e
  ·cases e
def sl (sz:Nat) (a:De α):De (List α) where
 run h l:=match l with
  | [.s id ver off len]=>match h id with
   | some k=>if k.ver=ver∧off+len*sz≤k.cells.length then chunks sz a h (k.cells.drop off) len else none
   | none=>none
  | [.v (.slice none n m)]=>if n=0∧m=0 then some []else none
  | [.e]=>some []
  | _=>none
 sim {h h' l x} hh e:=by
  split at e
  ·split at e
   ·rename_i k hk
    split at e
    ·rename_i hc
     obtain⟨k',e1,e2,e3⟩:=hh _ _ hk;simp only[e1,e2,e3,if_pos hc];exact zIv hh e
    ·cases e
   ·cases e
  ·rename_i hc
   exact e
  ·exact e
  ·cases e
theorem sl_out {sz:Nat} {a:De α} {h:Heap} {l:List AV} {xs:List α} (e:(sl sz a).run h l=some xs):(xs=[]∧(l=[.v (.slice none 0 0)]∨l=[.e]))∨
  ∃id off k,l=[.s id k.ver off xs.length]∧h id=some k∧off+xs.length*sz≤k.cells.length∧∀i (hi:i<xs.length),a.run h ((k.cells.drop (off+i*sz)).take sz)=some xs[i]:=by
 simp only[sl]at e;split at e
 ·rename_i id ver off len
  split at e
  ·rename_i k hk
   split at e
   ·rename_i hc
    rw[chunks_iff]at e;obtain⟨rfl,e⟩:=e;refine .inr ⟨id,off,k,by rw[hc.1],hk,hc.2,fun i hi => ?_⟩
    have:=e i hi
    rwa [zDp]at this
   ·cases e
  ·cases e
 ·split at e
  ·rename_i hc
   cases e;exact .inl ⟨rfl,.inl (by rw[hc.1,hc.2])⟩
  ·cases e
 ·cases e
  exact .inl ⟨rfl,.inr rfl⟩
 ·cases e
theorem sl_in {sz:Nat} {a:De α} {h:Heap} {id off:Nat} {k:Blk} {xs:List α} (hk:h id=some k) (hl:off+xs.length*sz≤k.cells.length) (e:∀i (hi:i<xs.length),a.run h ((k.cells.drop (off+i*sz)).take sz)=some xs[i]) :
  (sl sz a).run h [.s id k.ver off xs.length]=some xs:=by
 simp only[sl,hk,true_and,if_pos hl];rw[chunks_iff];exact⟨rfl,fun i hi=>by rw[zDp];exact e i hi⟩
end De
section
variable {α β:Type}
def Opens (P:Program) (t:TypeId) (d:De α) (ok:α→Prop):Prop :=
 ∀{H:Type} {enc:TypeId×Value→H} {W:World} {base:Nat} {sp:Nat→Bool} {held:Bool} {fuel:Nat} {cs:List Value} {x:DataW H×List MemPlace},DataW.trod enc P W base sp held fuel t cs=some x→
  (∀n∈x.1.weights P t,n≤reachBytes)→∀(ρ:Ren) (h:Heap) (m:Nat),Blks ρ h W m→∃ρ' h' m' l v,ρ.le ρ'∧h.le h'∧m≤m'∧Blks ρ' h' W m'∧VRs ρ' l cs∧(∀y∈cs,y.oneCell'=true)∧d.run h' l=some v∧ok v
theorem zDz {H:Type} {P:Program}:∀{ts:List TypeId} {ds:List (DataW H)} {i:Nat} {t:TypeId} {d:DataW H} {n:Nat},ts[i]? = some t→ds[i]? = some d→n∈d.weights P t→n∈DataW.weightsEach P ts ds
 | [],_,_,_,_,_,h,_,_=>by simp at h
 | _::_,[],_,_,_,_,_,h,_=>by simp at h
 | t::ts,d::ds,0,_,_,n,h1,h2,h3=>by
  simp only[List.getElem?_cons_zero,Option.some.injEq]at h1 h2;subst h1 h2;simp only[DataW.weightsEach,wB];exact .inl h3
 | t::ts,d::ds,i+1,_,_,n,h1,h2,h3=>by
  simp only[List.getElem?_cons_succ]at h1 h2;simp only[DataW.weightsEach,wB];exact .inr (zDz h1 h2 h3)
theorem zEh {H:Type} {P:Program} {e:TypeId}:∀{ds:List (DataW H)} {d:DataW H} {n:Nat},d∈ds→n∈d.weights P e→n∈DataW.weightsAll P e ds
 | [],_,_,h,_=>by simp at h
 | d::ds,_,n,h,h3=>by
  simp only[DataW.weightsAll,wB];rcases yD.1 h with rfl|h
  ·exact .inl h3
  ·exact .inr (zEh h h3)
variable {P:Program}
theorem Opens.int {t:TypeId} {k:IntKind} (ht:P.underlying t=some (.int k)):Opens P t (De.int k) fun n=>(Lit.int k n).wf=true:=fun h _ ρ hh m hb=>by
 obtain⟨n,rfl,_,hw⟩:=DataW.trod_int ht h;exact⟨ρ,hh,m,[.v (.int k n)],n,Ren.le_refl _,Heap.le_refl _,zC _,hb,by simp[VRs,VR],by simp[Value.oneCell'],by simp[De.int],hw⟩
theorem Opens.bool {t:TypeId} (ht:P.underlying t=some .bool):Opens P t De.bool fun _=>True:=fun h _ ρ hh m hb=>by
 obtain⟨n,rfl,_⟩:=DataW.trod_bool ht h;exact⟨ρ,hh,m,[.v (.bool n)],n,Ren.le_refl _,Heap.le_refl _,zC _,hb,by simp[VRs,VR],by simp[Value.oneCell'],by simp[De.bool],trivial⟩
theorem Opens.str {t:TypeId} (ht:P.underlying t=some .string):Opens P t De.str fun s=>s.size≤maxLen:=fun h _ ρ hh m hb=>by
 obtain⟨n,rfl,_,hw⟩:=DataW.trod_string ht h;exact⟨ρ,hh,m,[.v (.string n)],n,Ren.le_refl _,Heap.le_refl _,zC _,hb,by simp[VRs,VR],by simp[Value.oneCell'],by simp[De.str],hw⟩
theorem Opens.map {t:TypeId} {d:De α} {ok:α→Prop} (f:α→β) {ok':β→Prop} (hf:∀x,ok x→ok' (f x)) (h0:Opens P t d ok):Opens P t (d.map f) ok':=fun h hw ρ hh m hb=>by
 obtain⟨ρ',h',m',l,v,e1,e2,e3,e4,e5,e6,e7,e8⟩:=h0 h hw ρ hh m hb;exact⟨ρ',h',m',l,f v,e1,e2,e3,e4,e5,e6,by simp[De.map,e7],hf v e8⟩
def OpensF (P:Program) (fs:List Field) (off tot:Nat) (d:De α) (ok:α→Prop):Prop :=
 ∀{H:Type} {enc:TypeId×Value→H} {W:World} {base:Nat} {sp:Nat→Bool} {held:Bool} {fuel:Nat} {cs:List Value},cs.length=tot→
  (∀f∈fs,∃x,DataW.trod enc P W base sp held fuel f.type ((cs.drop f.offset).take (P.cellsOf f.type))=some x∧∀n∈x.1.weights P f.type,n≤reachBytes)→
  ∀(ρ:Ren) (h:Heap) (m:Nat),Blks ρ h W m→∃ρ' h' m' l v,ρ.le ρ'∧h.le h'∧m≤m'∧Blks ρ' h' W m'∧VRs ρ' l (cs.drop off)∧(∀y∈cs.drop off,y.oneCell'=true)∧d.run h' l=some v∧ok v
theorem OpensF.one {f:Field} {off tot:Nat} {d:De α} {ok:α→Prop} (ho:f.offset=off) (ht:off+P.cellsOf f.type=tot) (h0:Opens P f.type d ok):OpensF P [f] off tot d ok:=fun hl hx ρ hh m hb=>by
 obtain⟨x,hx,hw⟩:=hx f (by simp)
 rw[ho,yX (by rw[yS];omega)]at hx
 exact h0 hx hw ρ hh m hb
theorem OpensF.cons {f:Field} {fs:List Field} {off n tot:Nat} {d1:De α} {ok1:α→Prop} {d2:De β} {ok2:β→Prop} (ho:f.offset=off) (hn:P.cellsOf f.type=n) (ht:off+n≤tot) (h1:Opens P f.type d1 ok1) (h2:OpensF P fs (off+n) tot d2 ok2) :
  OpensF P (f::fs) off tot (De.pair n d1 d2) fun x=>ok1 x.1∧ok2 x.2:=fun {H enc W base sp held fuel cs} hl hx ρ hh m hb=>by
 obtain⟨x,hx1,hw1⟩:=hx f (by simp)
 obtain⟨ρ1,h1',m1,l1,v1,a1,a2,a3,a4,a5,a6,a7,a8⟩:=h1 hx1 hw1 ρ hh m hb;obtain⟨ρ2,h2',m2,l2,v2,b1,b2,b3,b4,b5,b6,b7,b8⟩:=h2 hl (fun g hg=>hx g (by simp[hg])) ρ1 h1' m1 a4
 have e:cs.drop off=(cs.drop off).take n++cs.drop (off+n):=by rw[←zDp,zAb]
 rw[ho,hn]at a5 a6;have hl1:l1.length=n:=by rw[←a5.length,zW,yS];omega
 refine⟨ρ2,h2',m2,l1++l2,(v1,v2),Ren.le_trans a1 b1,Heap.le_trans a2 b2,by omega,b4,?_,?_,?_,a8,b8⟩
 ·rw[e];exact VRs.append (VRs.mono b1 _ _ a5) b5
 ·rw[e]
  intro y hy;rcases wB.1 hy with hy|hy
  ·exact a6 y hy
  ·exact b6 y hy
 ·simp only[De.pair]
  rw[←hl1,List.take_left,List.drop_left,d1.mono b2 a7,b7]
theorem Opens.struct {t:TypeId} {fs:Array Field} {tot:Nat} {d:De α} {ok:α→Prop} (ht:P.underlying t=some (.struct fs)) (hc:P.cellsOf t=tot) (h0:OpensF P fs.toList 0 tot d ok):Opens P t d ok:=fun h hw ρ hh m hb=>by
 obtain⟨xs,n,_,rfl,hl,hn,hf⟩:=DataW.trod_struct ht h;have:=h0 (by rw[hl,hc]) (fun f hm=>by
  obtain⟨i,hi,rfl⟩:=xF.1 hm;have hi':i<fs.size:=by simpa using hi
  refine⟨xs[i]'(by omega),by rw[show fs.toList[i]=fs[i] from by simp,hf i fs[i] (by simp[hi'])];simp,fun q hq=>hw q ?_⟩
  simp only[DataW.weights,ht];exact zDz (i:=i) (by simp[hi']) (by simp[show i<xs.length by omega]) hq) ρ hh m hb
 simpa only[List.drop_zero]using this
theorem zF2 {e:TypeId} {sz:Nat} {d:De α} {ok:α→Prop} (h0:Opens P e d ok) {H:Type} {enc:TypeId×Value→H} {W:World} {base:Nat} {sp:Nat→Bool} {held:Bool} {fuel:Nat} {ρ:Ren} {h:Heap} {m:Nat} (hb:Blks ρ h W m) (at_:Nat→Option (List Value)) :
  ∀(n:Nat),(∀i,i<n→∃cs x,at_ i=some cs∧cs.length=sz∧DataW.trod enc P W base sp held fuel e cs=some x∧∀n∈x.1.weights P e,n≤reachBytes)→
  ∃ρ' h' m' l ys v,ρ.le ρ'∧h.le h'∧m≤m'∧Blks ρ' h' W m'∧VRs ρ' l ys∧ys.length=n*sz∧(∀y∈ys,y.oneCell'=true)∧(∀i,i<n→at_ i=some ((ys.drop (i*sz)).take sz))∧De.chunks sz d h' l n=some v∧∀x∈v,ok x
 | 0,_=>⟨ρ,h,m,[],[],[],Ren.le_refl _,Heap.le_refl _,zC _,hb,by simp[VRs],by simp,by simp,by simp,by simp[De.chunks,yDn],by simp⟩
 | n+1,hall=>by
  obtain⟨ρ1,h1,m1,l1,ys1,v1,a1,a2,a3,a4,a5,a6,a7,a8,a9,a10⟩:=zF2 h0 hb at_ n fun i hi=>hall i (by omega)
  obtain⟨cs,x,c1,c2,c3,c4⟩:=hall n (by omega)
  obtain⟨ρ2,h2,m2,l2,v2,b1,b2,b3,b4,b5,b6,b7,b8⟩:=h0 c3 c4 ρ1 h1 m1 a4;have hl1:l1.length=n*sz:=by rw[←a5.length,a6]
  have hl2:l2.length=sz:=by rw[←b5.length,c2]
  refine⟨ρ2,h2,m2,l1++l2,ys1++cs,v1++[v2],Ren.le_trans a1 b1,Heap.le_trans a2 b2,by omega,b4,VRs.append (VRs.mono b1 _ _ a5) b5,by rw[zM,a6,c2,wC],?_,?_,?_,?_⟩
  ·intro y hy
   rcases wB.1 hy with hy|hy
   ·exact a7 y hy
   ·exact b6 y hy
  ·intro i hi
   by_cases hin:i<n
   ·rw[a8 i hin,List.drop_append_of_le_length (by rw[a6];exact yU _ (by omega)),zBw]
    rw[yS,a6];have:(i+1)*sz≤n*sz:=yU _ (by omega)
    rw[wC]at this
    omega
   ·obtain rfl:i=n:=by omega
    rw[c1,←a6,List.drop_left,yX (by omega)]
  ·rw[De.chunks_iff]at a9 ⊢
   obtain⟨q1,q2⟩:=a9;refine⟨by simp[q1],fun i hi => ?_⟩
   by_cases hin:i<n
   ·rw[List.getElem_append_left (by omega),List.drop_append_of_le_length (by rw[hl1];exact yU _ (by omega)),zBw]
    ·exact d.mono b2 (q2 i (by omega))
    ·rw[yS,hl1]
     have:(i+1)*sz≤n*sz:=yU _ (by omega)
     rw[wC]at this
     omega
   ·have hin':i=n:=by simp[q1]at hi;omega
    subst hin';rw[←hl1,List.drop_left,yX (by omega),b7]
    congr 1;rw[List.getElem_append_right (by omega)]
    simp[q1]
  ·intro y hy
   rcases wB.1 hy with hy|hy
   ·exact a10 y hy
   ·simp only[zDy]at hy
    rw[hy];exact b8
theorem Opens.arr {t e:TypeId} {n sz:Nat} {d:De α} {ok:α→Prop} (ht:P.underlying t=some (.array n e)) (hc:P.cellsOf e=sz) (hct:P.cellsOf t=n*sz) (h0:Opens P e d ok):Opens P t (De.arr n sz d) fun l=>l.length=n∧∀x∈l,ok x:=fun {H enc W base sp held fuel cs x} h hw ρ hh m hb=>by
 obtain⟨xs,fu,_,rfl,hl,hn,hel⟩:=DataW.trod_array ht h;obtain⟨ρ1,h1,m1,l1,ys1,v1,a1,a2,a3,a4,a5,a6,a7,a8,a9,a10⟩:=zF2 (sz:=sz) h0 hb (fun i=>some ((cs.drop (i*sz)).take sz)) n fun i hi=>by
  have:=hel i hi;rw[hc]at this
  refine⟨_,xs[i]'(by omega),rfl,?_,by rw[this];simp,fun q hq=>hw q (by
   simp only[DataW.weights,ht];exact zEh (xU.2 ⟨_,zH _,rfl⟩) hq)⟩
  have h2:(i+1)*sz≤n*sz:=yU _ (by omega)
  rw[wC]at h2;rw[zW,yS];omega
 have hys:ys1=cs:=by
  rcases Nat.eq_zero_or_pos sz with h0|hpos
  ·subst h0
   rw[zU (l:=cs) (by omega),zU (l:=ys1) (by omega)]
  apply zEp;intro q;by_cases hq:q<n*sz
  ·have hi:q/sz<n:=(Nat.div_lt_iff_lt_mul hpos).2 hq
   have:=Option.some.inj (a8 (q/sz) hi);have hm:q%sz<sz:=Nat.mod_lt _ hpos;have hqq:q/sz*sz+q%sz=q:=by rw[Nat.mul_comm];exact Nat.div_add_mod q sz
   have:=congrArg (·[q%sz]?) this;simp only[zCg,hm,if_true,xA,hqq]at this
   exact this.symm
  ·rw[zG (by omega),zG (by omega)]
 subst hys;refine⟨ρ1,h1,m1,l1,v1,a1,a2,a3,a4,a5,a7,?_,(De.chunks_iff.1 a9).1,a10⟩;simp only[De.arr];rw[if_pos (by rw[←a5.length,a6])]
 exact a9
theorem zTw {W:World} {b o:Nat} {v:Value} (h:W.cell? ⟨b,o,none⟩=some v):∃arr el fr,W.heap[b]? = some (.cells arr el fr)∧arr[o]? = some v:=by
 simp only[World.cell?]at h;split at h
 ·rename_i arr el fr e
  simp only[Option.isSome_none,yO,if_false]at h;exact⟨arr,el,fr,e,h⟩
 ·cases h
theorem yE8 {t e:TypeId} {sz by_:Nat} {d:De α} {ok:α→Prop} (ht:P.underlying t=some (.slice e)) (hc:P.cellsOf e=sz) (hp:0<sz) (hby:P.bytesOf e=by_) (h0:Opens P e d ok)
  {H:Type} {enc:TypeId×Value→H} {W:World} {base:Nat} {sp:Nat→Bool} {held:Bool} {fuel:Nat} {b o len cap:Nat} {x:DataW H×List MemPlace} (h:DataW.trod enc P W base sp held fuel t [.slice (some ⟨b,o,none⟩) len cap]=some x)
  (hw:∀n∈x.1.weights P t,n≤reachBytes) {arr:Array Value} {el:TypeId} {fr:Nat×Nat} (harr:W.heap[b]? = some (.cells arr el fr)) (ρ:Ren) (hh:Heap) (m:Nat) (hb:Blks ρ hh W m) :
  ∃ρ' h' m' id l cells,ρ.le ρ'∧hh.le h'∧m≤m'∧Blks ρ' h' W m'∧VR ρ' (.s id 0 0 len) (.slice (some ⟨b,o,none⟩) len cap)∧h' id=some ⟨cells,0,false,sz⟩∧(m≤id∧id<m')∧cells.length=l.length*sz∧l.length=len∧De.chunks sz d h' cells l.length=some l∧l.length*by_≤reachBytes∧∀x∈l,ok x:=by
 rcases DataW.trod_slice ht h with ⟨hcs,_⟩|⟨a,len,cap,elems,rest,n,_,hcs,rfl,hbb,hlc,hcm,hel,hall,_,_⟩
 ·simp at hcs
 ·simp only[List.cons.injEq,Value.slice.injEq,Option.some.injEq,and_true]at hcs
  obtain⟨rfl,rfl,rfl⟩:=hcs;have hlen:len*by_≤reachBytes:=by
   have:=hw ((elems.length+rest.length)*P.bytesOf e) (by simp[DataW.weights,ht])
   rw[hby,hel]at this
   refine xL (yU _ ?_) this;omega
  obtain⟨ρ1,h1,m1,l1,ys1,v1,a1,a2,a3,a4,a5,a6,a7,a8,a9,a10⟩:=zF2 (sz:=sz) (fuel:=n) (enc:=enc) (base:=base) (sp:=sp) (held:=held) h0 hb (fun i=>W.cells? base ((⟨b,o,none⟩:Addr).add (i*P.cellsOf e)) (P.cellsOf e)) len fun i hi=>by
   have hi':i<elems.length:=by omega
   have:=hall i hi;rw[zA hi',xE]at this
   obtain⟨cs,c1,c2⟩:=this;refine⟨cs,elems[i],c1,by rw[(World.cells?_some c1).2.1,hc],c2,fun q hq=>hw q ?_⟩
   simp only[DataW.weights,ht,yD,wB];exact .inr (.inl (zEh (xU.2 ⟨_,zH _,rfl⟩) hq))
  have hcell:∀q,q<len*sz→W.cell? ⟨b,o+q,none⟩=ys1[q]? := fun q hq=>by
   have hi:q/sz<len:=(Nat.div_lt_iff_lt_mul hp).2 hq;have hm:q%sz<sz:=Nat.mod_lt _ hp;have hqq:q/sz*sz+q%sz=q:=by rw[Nat.mul_comm];exact Nat.div_add_mod q sz
   have h2:=(World.cells?_some (a8 (q/sz) hi)).2.2 (q%sz) (by rw[hc];exact hm)
   simp only[zCg,hm,if_true,xA,hqq]at h2;rw[←h2,hc,Addr.add_mid,Addr.add_mid];congr 2;omega
  have hget:∀q,q<len*sz→arr[o+q]? = ys1[q]? := fun q hq=>by
   have h2:=hcell q hq;rw[zA (by omega)]at h2 ⊢
   obtain⟨arr',el',fr',e1,e2⟩:=zTw h2;rw[harr]at e1;cases e1;exact e2
  obtain⟨f1,f2⟩:=a4.free m1 (zC _)
  let ρ':Ren:=fun j ver=>if j=m1 then (if ver=0 then some (some (b,o),cap)else none)else ρ1 j ver
  have hle:ρ1.le ρ':=fun j ver y e=>by
   by_cases hj:j=m1
   ·subst hj;rw[f1]at e;cases e
   ·simp[ρ',hj,e]
  refine⟨ρ',up h1 m1 (some ⟨l1,0,false,sz⟩),m1+1,m1,v1,l1,Ren.le_trans a1 hle,fun i k hk => ?_,by omega,⟨fun id k hk => ?_,fun j hj => ?_⟩,?_,zJ _ _ _,⟨a3,by omega⟩,by rw[←a5.length,a6,(De.chunks_iff.1 a9).1],(De.chunks_iff.1 a9).1,?_,by rw[(De.chunks_iff.1 a9).1];exact hlen,a10⟩
  ·have:=a2 i k hk
   have hne:i≠m1:=fun e=>by subst e;rw[f2]at this;cases this
   rw[zP _ _ hne];exact this
  ·by_cases e:id=m1
   ·subst e
    simp only[zJ,Option.some.injEq]at hk;subst hk;refine .inl ⟨b,o,cap,arr,el,fr,by simp[ρ'],harr,fun e=>(by cases e),fun i c hi => ?_⟩
    obtain⟨y,y1,y2⟩:=a5.get i c hi;have hlt:i<ys1.length:=by
     by_cases hlt:i<ys1.length
     ·exact hlt
     ·rw[zG (by omega)]at y1;cases y1
    exact⟨y,by rw[hget i (by omega)];exact y1,VR.mono hle _ _ y2,a7 y (xW y1)⟩
   ·rw[zP _ _ e]at hk
    exact (a4.blk id k hk).mono hle fun _ _ _ _=>rfl
  ·obtain⟨g1,g2⟩:=a4.free j (by omega)
   have hne:j≠m1:=by omega
   exact⟨fun ver=>by simp[ρ',hne,g1],by rw[zP _ _ hne];exact g2⟩
  ·simp only[VR]
   exact⟨some (b,o),cap,cap,0,by simp[ρ'],hlc,fun _=>rfl,fun _=>rfl,fun e=>(by cases e),by simp⟩
  ·rw[(De.chunks_iff.1 a9).1]
   refine De.chunks_mono (h:=h1) (fun i k hk => ?_) a9
   have hne:i≠m1:=fun e=>by subst e;rw[f2]at hk;cases hk
   rw[zP _ _ hne];exact hk
theorem Opens.sl {t e:TypeId} {sz by_:Nat} {d:De α} {ok:α→Prop} (ht:P.underlying t=some (.slice e)) (hc:P.cellsOf e=sz) (hp:0<sz) (hby:P.bytesOf e=by_) (h0:Opens P e d ok) :
  Opens P t (De.sl sz d) fun l=>l.length*by_≤reachBytes∧∀x∈l,ok x:=fun {H enc W base sp held fuel cs x} h hw ρ hh m hb=>by
 rcases DataW.trod_slice ht h with ⟨rfl,rfl⟩|⟨a,len,cap,elems,rest,n,_,rfl,hx,hbb,hlc,hcm,hel,hall,_,_⟩
 ·exact⟨ρ,hh,m,[.v (.slice none 0 0)],[],Ren.le_refl _,Heap.le_refl _,zC _,hb,by simp[VRs,VR],by simp[Value.oneCell'],by simp[De.sl],by simp⟩
 ·by_cases hl0:len=0
  ·subst hl0
   exact⟨ρ,hh,m,[.e],[],Ren.le_refl _,Heap.le_refl _,zC _,hb,by simp[VRs,VR],by simp[Value.oneCell'],by simp[De.sl],by simp⟩
  ·have h2:=hall 0 (by omega)
   rw[zA (by omega),xE]at h2
   obtain⟨cs,c1,_⟩:=h2;have h3:=(World.cells?_some c1).2.2 0 (by omega)
   rw[zA (by rw[(World.cells?_some c1).2.1];omega)]at h3
   have hadd:(a.add (0*P.cellsOf e)).add 0=a:=by simp[Addr.add]
   rw[hadd]at h3;obtain⟨b,o,spot⟩:=a;obtain rfl:spot=none:=World.cell?_spot h3;obtain⟨arr,el,fr,harr,_⟩:=zTw h3;obtain⟨ρ',h',m',id,l,cells,q1,q2,q3,q4,q5,q6,_,q7,q8,q9,q10,q11⟩:=yE8 ht hc hp hby h0 h hw harr ρ hh m hb;refine⟨ρ',h',m',[.s id 0 0 len],l,q1,q2,q3,q4,by simp only[VRs];exact⟨_,[],rfl,q5,rfl⟩,by simp[Value.oneCell'],?_,q10,q11⟩
   subst q8;simp only[De.sl,q6,yQ,q7,zC,and_self,if_true,List.drop_zero];exact q9
section
variable {H:Type} {enc:TypeId×Value→H} {W:World} {base:Nat} {sp:Nat→Bool} {held:Bool} {r:Reach} {b0:Nat}
theorem yI4 {t:TypeId} {dd:TypeDesc} {v:Value} (ht:P.underlying t=some dd) (hd:dd=.bool∨(∃k,dd=.int k)∨dd=.string∨∃e,dd=.slice e) (h:Value.okWide P W r b0 t v):v.cells.toList=[v]∧v.oneCell'=true:=by
 unfold Value.okWide Cell.okWide Cell.ok at h;rcases hd with rfl|⟨k,rfl⟩|rfl|⟨e,rfl⟩<;>simp only[ht]at h<;>cases v<;>simp_all[Value.cells,Value.oneCell']
theorem zPc {t:TypeId} {dd:TypeDesc} {v:Value} {d:De α} {ok:α→Prop} (h0:Opens P t d ok) (ht:P.underlying t=some dd) (hd:dd=.bool∨(∃k,dd=.int k)∨dd=.string∨∃e,dd=.slice e) (hv:Value.okWide P W r b0 t v) {x:DataW H} {p:List MemPlace}
  (h:DataW.Trod enc P W base sp held t v x p) (hw:∀n∈x.weights P t,n≤reachBytes) (ρ:Ren) (hh:Heap) (m:Nat) (hb:Blks ρ hh W m) :
  ∃ρ' h' m' a y,ρ.le ρ'∧hh.le h'∧m≤m'∧Blks ρ' h' W m'∧VR ρ' a v∧d.run h' [a]=some y∧ok y:=by
 obtain⟨hc,ho⟩:=yI4 ht hd hv;obtain⟨fuel,hf⟩:=h;rw[hc]at hf;obtain⟨ρ',h',m',l,y,e1,e2,e3,e4,e5,e6,e7,e8⟩:=h0 hf hw ρ hh m hb;have hl:=e5.length
 match l,hl with
 | [a],_ =>
  simp only[VRs]at e5;obtain⟨y',rest,q1,q2,_⟩:=e5;cases q1;exact⟨ρ',h',m',a,y,e1,e2,e3,e4,q2,e7,e8⟩
theorem zK7 {sz:Nat} {d:De α} {en:α→List AV} (hf:∀h l x,d.run h l=some x→l=en x) {h:Heap}:∀(xs:List α) (cells:List AV),De.chunks sz d h cells xs.length=some xs→cells.length=xs.length*sz→cells=xs.flatMap en
 | [],cells,_,hl=>zU (by simpa using hl)
 | x::xs,cells,hc,hl=>by
  obtain⟨_,h2⟩:=De.chunks_iff.1 hc;have h0:=h2 0 (by simp)
  simp only[zEd,List.drop_zero,List.getElem_cons_zero]at h0;have ih:=zK7 hf xs (cells.drop sz) (De.chunks_iff.2 ⟨rfl,fun i hi=>by
   have:=h2 (i+1) (by simpa using hi)
   rw[zDp,show sz+i*sz=(i+1)*sz by rw[wC,Nat.add_comm]]
   simpa using this⟩) (by rw[yS,hl,List.length_cons,wC];omega)
  rw[xZ,←hf h _ x h0,←ih,zAb]
end
end
end Go.Eng
namespace Go.Proofs.YtbffkkeieihpdaaGreatDoor
open Go Go.Eng
theorem zY3:∀l:List Int,yEb (l.map ii)=some l
 | []=>rfl
 | n::l=>by simp[yEb,ii,deI,zY3 l]
def yH {α:Type} (de:Heap→List AV→Option α) (p:α→Prop) (f:α→AV):List AV→Heap→PRes:=fun args h=>match de h args with
 | some a=>⟨p a,f a⟩
 | none=>⟨False,.any⟩
theorem zF1 {α:Type} {de:Heap→List AV→Option α} {p:α→Prop} {f:α→AV} (hm:∀h h' l x,h.le h'→de h l=some x→de h' l=some x) {args:List AV} {h:Heap} (hs:(yH de p f args h).side) :
  ∃a,de h args=some a∧p a∧∀h',h.le h'→yH de p f args h'=⟨p a,f a⟩:=by
 unfold yH at hs;split at hs
 ·rename_i a e
  exact⟨a,e,hs,fun h' hh=>by simp only[yH,hm _ _ _ _ hh e]⟩
 ·exact hs.elim
theorem mkH {S : List Nat} {l : List (FuncId × (List AV → Heap → PRes))} {f : FuncId} {fn : Func} {c : Code} (k : Nat) (ok : zQh S l) (hf : Tryz.prog.funcs[f]? = some fn) (hb : fn.body = some c) (hok : (!(fn.name == "runtime.NumGoroutine") && zU6 (cx S (pfL l)) fn c && decide (k ≤ fn.ntmps)) = true)
  {α:Type} {de:Heap→List AV→Option α} {p:α→Prop} {g:α→AV} (hm:∀h h' l x,h.le h'→de h l=some x→de h' l=some x) (hk:∀h l x,de h l=some x→l.length≤k) (hg:∀a,(g a).free=true)
  (h1:∀args a h n,de h args=some a→p a→(∀i,n≤i→h i=none)→awp (cx S (pfL l)) c (zBc (cx S (pfL l)) fn fun z _ _=>z=g a) ⟨env0 args,roH h,n⟩):P0 S f (yH de p g):=by
 have hok':=yGw hok;exact zC4 (fun _ hx=>hx) (zCy (zAr ok) (zB3 _ _) hf hb hok'.2.1 (xK hf hok'.1 (by rw[hb];rfl) _ _) (fun args h h' hh hs=>by
   obtain⟨a,e,hp,hall⟩:=zF1 hm hs;rw[hall h' hh,hall h (fun _ _ e=>e)]
   exact⟨hp,rfl⟩) fun args h hs=>by
  obtain⟨a,e,hp,hall⟩:=zF1 hm hs;have ev:=hall h (fun _ _ e=>e)
  exact⟨xL (hk _ _ _ e) hok'.2.2,by rw[ev];exact hg a,fun n hn=>by rw[ev];exact h1 args a h n e hp hn⟩)
structure Ev where
 ts:Int
 id:Int
 ty:Int
 a0:Int
 a1:Int
 a2:Int
 a3:Int
 a4:Int
 a5:Int
 a6:Int
 a7:Int
deriving DecidableEq
def Ev.attr (e:Ev):Nat→Int
 | 0=>e.a0
 | 1=>e.a1
 | 2=>e.a2
 | 3=>e.a3
 | 4=>e.a4
 | 5=>e.a5
 | 6=>e.a6
 | _=>e.a7
def zAo (e:Ev):List AV:=[ii e.ts,uu e.id,ii e.ty,ii e.a0,ii e.a1,ii e.a2,ii e.a3,ii e.a4,ii e.a5,ii e.a6,ii e.a7]
def yKn:List AV→Option Ev
 | [.v (.int .i64 ts),.v (.int .u64 id),.v (.int .i64 ty),.v (.int .i64 a0),.v (.int .i64 a1),.v (.int .i64 a2),.v (.int .i64 a3),.v (.int .i64 a4),.v (.int .i64 a5),.v (.int .i64 a6),.v (.int .i64 a7)]=>some ⟨ts,id,ty,a0,a1,a2,a3,a4,a5,a6,a7⟩
 | _=>none
theorem zNq {l:List AV} {e:Ev} (h:yKn l=some e):l=zAo e:=by
 unfold yKn at h;split at h
 ·cases h;rfl
 ·cases h
def deE:AV→Option Ev
 | .g l=>yKn l
 | _=>none
def ee (e:Ev):AV:=.g (zAo e)
theorem zK1 {x:AV} {e:Ev} (h:deE x=some e):x=ee e:=by
 unfold deE at h;split at h
 ·rw[zNq h];rfl
 ·cases h
def zFt (e:Ev) (p:Int):V:=if p=-2 then xX e.ts else if 0≤p∧p<8 then xX (e.attr p.toNat)else unk
def zAf (c:Int):Int:=if c<1∨c > 26 then -1 else if c<10 then 0 else if c=10∨c=11∨c≥25 then 1 else 2
def yMe:=zE9 deE deI fun e p=>vv (zFt e p)
theorem yOv:P0 [] 212 yMe:=by
 refine mk2 (S:=[]) yJ Tryz.func212 rfl (by kernel_rfl) ee (fun x a h=>zK1 h) ii (fun x a h=>zBu h) (fun a b=>rfl) (fun e p h n => ?_)
 by_cases h1:p=-2
 ·subst h1
  simp[evv,ee,zAo,ii,uu,vv,zFt,xX]
 ·by_cases h2:0≤p∧p<8
  ·have:p=0∨p=1∨p=2∨p=3∨p=4∨p=5∨p=6∨p=7:=by omega
   rcases this with rfl|rfl|rfl|rfl|rfl|rfl|rfl|rfl<;>simp[evv,ee,zAo,ii,uu,vv,zFt,xX,Ev.attr]
  ·by_cases h3:0≤p
   ·have h4:¬p<8:=fun h=>h2 ⟨h3,h⟩
    simp[evv,ee,zAo,ii,uu,vv,zFt,unk,h1,h3,h4]
   ·simp[evv,ee,zAo,ii,uu,vv,zFt,unk,h1,h3]
end Go.Proofs.YtbffkkeieihpdaaGreatDoor
