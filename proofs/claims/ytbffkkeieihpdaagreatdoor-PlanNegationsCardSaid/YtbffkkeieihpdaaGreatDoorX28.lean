import Derived.Test.YtbffkkeieihpdaaGreatDoorX27
import Derived.Test.YtbffkkeieihpdaaGreatDoorX23
import Derived.Test.YtbffkkeieihpdaaGreatDoorX25
import Derived.Test.YtbffkkeieihpdaaGreatDoorX15
import Derived.Test.YtbffkkeieihpdaaGreatDoorX26
set_option linter.unusedSimpArgs false
set_option linter.unusedVariables false
set_option linter.constructorNameAsVariable false
set_option maxRecDepth 100000
set_option maxHeartbeats 4000000
namespace Go.Proofs.YtbffkkeieihpdaaGreatDoor
open Go Go.Eng
section
def plC (sc:List Ty) (q:Qu) (l:List (List Nd)):Pl:={plT sc q sc.length with comps:=cmpsOf sc q l q.items.length,negs:=ngsOf sc q l q.items.length,fixed:=fixL sc q l}
theorem plC_nil (sc:List Ty) (q:Qu):plC sc q []=plT sc q sc.length:=rfl
section
variable {sc:List Ty} {q:Qu} {l:List (List Nd)} {t:List Nd}
theorem ownL_snoc (i:Int):ownL sc q (l++[t]) i=if aloneT q t=true∧homeT q t=i then ownL sc q l i++[compP sc (vars q.items) t]else ownL sc q l i:=by
 unfold ownL
 rw[List.filter_append,List.map_append]
 by_cases h1:aloneT q t=true<;>by_cases h2:homeT q t=i<;>simp[h1,h2]
theorem restL_snoc (i:Int):restL sc q (l++[t]) i=if aloneT q t=false∧homeT q t=i then restL sc q l i++[compP sc (vars q.items) t]else restL sc q l i:=by
 unfold restL
 rw[List.filter_append,List.map_append]
 by_cases h1:aloneT q t=true<;>by_cases h2:homeT q t=i<;>simp[h1,h2]
theorem condL_snoc (i:Int):condL sc q (l++[t]) i=if aloneT q t=false∧homeT q t=i then condL sc q l i++[⟨compP sc (vars q.items) t,eachT q t,decide (0<(prevT q t).length)⟩]else condL sc q l i:=by
 unfold condL
 rw[List.filter_append,List.map_append]
 by_cases h1:aloneT q t=true<;>by_cases h2:homeT q t=i<;>simp[h1,h2]
theorem fixL_snoc:fixL sc q (l++[t])=if homeT q t=-1 then fixL sc q l++[compP sc (vars q.items) t]else fixL sc q l:=by
 unfold fixL
 rw[List.filter_append,List.map_append]
 by_cases h2:homeT q t=-1<;>simp[h2]
theorem cmpOf_ne {i:Nat} (h:homeT q t≠i):cmpOf sc q (l++[t]) i=cmpOf sc q l i:=by
 unfold cmpOf
 rw[ownL_snoc,condL_snoc,if_neg fun k=>h k.2,if_neg fun k=>h k.2]
theorem ngOf_ne {i:Nat} (h:homeT q t≠i):ngOf sc q (l++[t]) i=ngOf sc q l i:=by
 unfold ngOf
 rw[ownL_snoc,restL_snoc,if_neg fun k=>h k.2,if_neg fun k=>h k.2]
theorem cmpOf_own {i:Nat} (h:homeT q t=i) (ha:aloneT q t=true):cmpOf sc q (l++[t]) i={cmpOf sc q l i with own:=(cmpOf sc q l i).own++[compP sc (vars q.items) t]}:=by
 unfold cmpOf
 rw[ownL_snoc,condL_snoc,if_pos ⟨ha,h⟩,if_neg fun k=>by rw[ha]at k;exact absurd k.1 (by simp)]
theorem cmpOf_cond {i:Nat} (h:homeT q t=i) (ha:aloneT q t=false):cmpOf sc q (l++[t]) i={cmpOf sc q l i with conds:=(cmpOf sc q l i).conds++[⟨compP sc (vars q.items) t,eachT q t,decide (0<(prevT q t).length)⟩]}:=by
 unfold cmpOf
 rw[ownL_snoc,condL_snoc,if_neg (fun k=>by rw[ha]at k;exact absurd k.1 (by simp)),if_pos ⟨ha,h⟩]
theorem ngOf_own {i:Nat} (h:homeT q t=i) (ha:aloneT q t=true):ngOf sc q (l++[t]) i={ngOf sc q l i with own:=(ngOf sc q l i).own++[compP sc (vars q.items) t]}:=by
 unfold ngOf
 rw[ownL_snoc,restL_snoc,if_pos ⟨ha,h⟩,if_neg fun k=>by rw[ha]at k;exact absurd k.1 (by simp)]
theorem ngOf_rest {i:Nat} (h:homeT q t=i) (ha:aloneT q t=false):ngOf sc q (l++[t]) i={ngOf sc q l i with rest:=(ngOf sc q l i).rest++[compP sc (vars q.items) t]}:=by
 unfold ngOf
 rw[ownL_snoc,restL_snoc,if_neg (fun k=>by rw[ha]at k;exact absurd k.1 (by simp)),if_pos ⟨ha,h⟩]
theorem map_set {α β:Type} {f f':α→β} {l:List α} {k:Nat} (hk:k<l.length) (h:∀i (hi:i<l.length),i≠k→f' l[i]=f l[i]):l.map f'=(l.map f).set k (f' l[k]):=by
 apply List.ext_getElem
 ·simp
 ·intro i h1 h2
  rw[List.getElem_set]
  by_cases e:k=i
  ·subst e;simp
  ·rw[if_neg e];simp at h1;simp[h i h1 (Ne.symm e)]
theorem posI_lt (q:Qu) (N:Nat):(posI q N).Pairwise (· < ·):=List.Pairwise.filter _ List.pairwise_lt_range
theorem negI_lt (q:Qu) (N:Nat):(negI q N).Pairwise (· < ·):=List.Pairwise.filter _ List.pairwise_lt_range
theorem lt_inj {l:List Nat} (h:l.Pairwise (· < ·)) {i j:Nat} (hi:i<l.length) (hj:j<l.length) (e:l[i]=l[j]):i=j:=by
 rw[List.pairwise_iff_getElem]at h
 rcases Nat.lt_trichotomy i j with h1|h1|h1
 ·have:=h i j hi hj h1;omega
 ·exact h1
 ·have:=h j i hj hi h1;omega
theorem posI_mem {N j:Nat}:j∈posI q N↔j<N∧(itA q j).neg=false:=by simp[posI]
theorem negI_mem {N j:Nat}:j∈negI q N↔j<N∧(itA q j).neg=true:=by simp[negI]
theorem negI_get {N i:Nat} (hi:i<N) (hn:(itA q i).neg=true):(negI q N)[rn q i]? = some i:=by
 induction N with
 | zero=>omega
 | succ N ih =>
  rw[negI_succ]
  by_cases e:i=N
  ·subst e;rw[if_pos hn,rn];simp
  ·have h1:=ih (by omega)
   have h2:rn q i<(negI q N).length:=(List.getElem?_eq_some_iff.1 h1).1
   split
   ·rw[List.getElem?_append_left h2];exact h1
   ·exact h1
theorem slF_at {N:Nat} (hx:∀i,i<N→ixOf (vars q.items) (itA q i).var=i) {i:Nat}:∀{j:Nat},i<j→j≤N→slF q j (itA q i).var=some ((itA q i).neg,if (itA q i).neg=true then rn q i else rk q i)
 | 0,h,_=>by omega
 | j+1,h,hj=>by
  unfold slF
  by_cases e:i=j
  ·subst e;rw[if_pos rfl];rfl
  ·have hne:¬(itA q i).var=(itA q j).var:=fun k=>by
    have h1:=hx i (by omega)
    have h2:=hx j (by omega)
    rw[k,h2]at h1
    omega
   rw[if_neg hne]
   exact slF_at hx (by omega) (by omega)
def ngQ (q:Qu) (i:Int):Bool:=(itA q i.toNat).neg
theorem ment_lt {i:Int} (h:i∈mentL q t):0≤i∧i.toNat<q.items.length:=by
 have hl:(vars q.items).length=q.items.length:=by simp[vars]
 rcases List.mem_append.1 h with h|h
 ·obtain⟨h1,h2,_⟩:=uses_is (p:=bareO) h;omega
 ·obtain⟨h1,h2,_⟩:=uses_is (p:=aggO) h;omega
theorem home_neg {i:Int} (h:(mentL q t).find? (ngQ q)=some i):homeT q t=i:=by
 unfold homeT
 have:((mentL q t).find? fun i=>(itA q i.toNat).neg)=some i:=h
 rw[this]
theorem home_pos (h:(mentL q t).find? (ngQ q)=none):homeT q t=if lsL q (mentL q t)<(posI q q.items.length).length then (((posI q q.items.length).getD (lsL q (mentL q t)) 0:Nat):Int)else -1:=by
 unfold homeT
 have:((mentL q t).find? fun i=>(itA q i.toNat).neg)=none:=h
 rw[this]
theorem cmps_same (h:∀j∈posI q q.items.length,homeT q t≠(j:Nat)):cmpsOf sc q (l++[t]) q.items.length=cmpsOf sc q l q.items.length :=
 List.map_congr_left fun j hj=>cmpOf_ne (h j hj)
theorem ngs_same (h:∀j∈negI q q.items.length,homeT q t≠(j:Nat)):ngsOf sc q (l++[t]) q.items.length=ngsOf sc q l q.items.length :=
 List.map_congr_left fun j hj=>ngOf_ne (h j hj)
theorem plC_snoc:plC sc q (l++[t])={plC sc q l with comps:=cmpsOf sc q (l++[t]) q.items.length,negs:=ngsOf sc q (l++[t]) q.items.length,fixed:=fixL sc q (l++[t])}:=rfl
theorem plC_neg {i:Int} (h:(mentL q t).find? (ngQ q)=some i):rn q i.toNat<(plC sc q l).negs.length∧∀g,(plC sc q l).negs[rn q i.toNat]? = some g→plC sc q (l++[t])={plC sc q l with negs:=(plC sc q l).negs.set (rn q i.toNat) (if aloneT q t=true then {g with own:=g.own++[compP sc (vars q.items) t]}else {g with rest:=g.rest++[compP sc (vars q.items) t]})}:=by
 have hm:=List.mem_of_find?_eq_some h
 have hn0:ngQ q i=true:=List.find?_some h
 have hn:(itA q i.toNat).neg=true:=hn0
 obtain⟨h0,hi⟩:=ment_lt hm
 have hg:=negI_get hi hn
 obtain⟨hk,hg'⟩:=List.getElem?_eq_some_iff.1 hg
 have hh:=home_neg h
 have hih:homeT q t=((i.toNat:Nat):Int):=by omega
 have e1:(plC sc q l).negs=ngsOf sc q l q.items.length:=rfl
 refine⟨by rw[e1,ngsOf,List.length_map];exact hk,fun g hgg => ?_⟩
 have hgg':g=ngOf sc q l i.toNat:=by
  rw[e1,ngsOf,List.getElem?_map,hg]at hgg
  exact (Option.some.inj hgg).symm
 subst hgg'
 have e2:cmpsOf sc q (l++[t]) q.items.length=cmpsOf sc q l q.items.length:=cmps_same fun j hj e=>by
  have h1:=(posI_mem.1 hj).2
  have h3:j=i.toNat:=by omega
  rw[h3,hn]at h1
  cases h1
 have e3:ngsOf sc q (l++[t]) q.items.length=(ngsOf sc q l q.items.length).set (rn q i.toNat) (ngOf sc q (l++[t]) (negI q q.items.length)[rn q i.toNat]):=map_set hk fun j hj hjk=>ngOf_ne fun e=>hjk (lt_inj (negI_lt _ _) hj hk (by rw[hg'];omega))
 have e4:fixL sc q (l++[t])=fixL sc q l:=by rw[fixL_snoc,if_neg (by omega)]
 rw[plC_snoc,e2,e3,e4,e1,hg']
 cases ha:aloneT q t with
 | true=>rw[ngOf_own hih ha];rfl
 | false=>rw[ngOf_rest hih ha];rfl
theorem plC_fix (h:(mentL q t).find? (ngQ q)=none) (hl:¬lsL q (mentL q t)<(posI q q.items.length).length):plC sc q (l++[t])={plC sc q l with fixed:=(plC sc q l).fixed++[compP sc (vars q.items) t]}:=by
 have hh:=home_pos h
 rw[if_neg hl]at hh
 rw[plC_snoc,cmps_same fun j _=>by omega,ngs_same fun j _=>by omega,fixL_snoc,if_pos hh]
 rfl
theorem plC_pos (h:(mentL q t).find? (ngQ q)=none) (hl:lsL q (mentL q t)<(posI q q.items.length).length):∀g,(plC sc q l).comps[lsL q (mentL q t)]? = some g→plC sc q (l++[t])={plC sc q l with comps:=(plC sc q l).comps.set (lsL q (mentL q t)) (if aloneT q t=true then {g with own:=g.own++[compP sc (vars q.items) t]}else {g with conds:=g.conds++[⟨compP sc (vars q.items) t,eachT q t,decide (0<(prevT q t).length)⟩]})}:=by
 intro g hg
 have hh:=home_pos h
 rw[if_pos hl]at hh
 generalize lsL q (mentL q t)=k at *
 have hgk:(posI q q.items.length).getD k 0=(posI q q.items.length)[k]:=by rw[List.getD_eq_getElem?_getD,List.getElem?_eq_getElem hl];rfl
 rw[hgk]at hh
 have e1:(plC sc q l).comps=cmpsOf sc q l q.items.length:=rfl
 rw[e1,cmpsOf,List.getElem?_map,List.getElem?_eq_getElem hl]at hg
 obtain rfl:cmpOf sc q l (posI q q.items.length)[k]=g:=Option.some.inj hg
 have hmem:(posI q q.items.length)[k]∈posI q q.items.length:=List.getElem_mem hl
 have e2:ngsOf sc q (l++[t]) q.items.length=ngsOf sc q l q.items.length:=ngs_same fun j hj e=>by
  have h1:=(negI_mem.1 hj).2
  have h2:=(posI_mem.1 hmem).2
  have h3:j=(posI q q.items.length)[k]:=by omega
  rw[←h3,h1]at h2
  cases h2
 have e3:cmpsOf sc q (l++[t]) q.items.length=(cmpsOf sc q l q.items.length).set k (cmpOf sc q (l++[t]) (posI q q.items.length)[k]):=map_set hl fun j hj hjk=>cmpOf_ne fun e=>hjk (lt_inj (posI_lt _ _) hj hl (by omega))
 have e4:fixL sc q (l++[t])=fixL sc q l:=by rw[fixL_snoc,if_neg (by omega)]
 rw[plC_snoc,e2,e3,e4,e1]
 cases ha:aloneT q t with
 | true=>rw[cmpOf_own hh ha];rfl
 | false=>rw[cmpOf_cond hh ha];rfl
theorem lsL_snoc (a:List Int) (i:Int):lsL q (a++[i])=min (lsL q a) (rk q i.toNat):=by simp[lsL]
theorem chL_snoc (a:List Int) (i:Int):chL q t (a++[i])=if 1<(itA q i.toNat).hi∧i∈bareT q t then i else chL q t a:=by simp[chL]
theorem foldl_le (f:Int→Nat):∀(a:List Int) (m:Nat),a.foldl (fun m i=>min m (f i)) m≤m
 | [],m=>Nat.le_refl m
 | x::a,m=>Nat.le_trans (foldl_le f a (min m (f x))) (Nat.min_le_left _ _)
theorem lsL_le (a:List Int):lsL q a≤(posI q q.items.length).length:=foldl_le _ a _
end
end
section
def dPrs:De (List Pr):=De.sl 2 dPrg
def dCds:De (List Cd):=De.sl 4 dCdg
def deCmp (h:Heap):List AV→Option Cmp
 | [.v (.int .i64 i),ty,.v (.int .i64 lo),.v (.int .i64 hi),ow,cn]=>(rd dIs h ty).bind fun t=>(rd dPrs h ow).bind fun o=>(rd dCds h cn).map fun c=>⟨i,t,lo,hi,o,c⟩
 | _=>none
theorem deCmp_out {h:Heap} {l:List AV} {x:Cmp} (e:deCmp h l=some x):∃ty ow cn,l=[ii x.item,ty,ii x.lo,ii x.hi,ow,cn]∧rd dIs h ty=some x.types∧rd dPrs h ow=some x.own∧rd dCds h cn=some x.conds:=by
 unfold deCmp at e
 split at e
 ·simp only[Option.bind_eq_some_iff,Option.map_eq_some_iff]at e
  obtain⟨a,e1,b,e2,c,e3,rfl⟩:=e
  exact⟨_,_,_,rfl,e1,e2,e3⟩
 ·cases e
theorem deCmp_in {h:Heap} {ty ow cn:AV} {x:Cmp} (e1:rd dIs h ty=some x.types) (e2:rd dPrs h ow=some x.own) (e3:rd dCds h cn=some x.conds):deCmp h [ii x.item,ty,ii x.lo,ii x.hi,ow,cn]=some x:=by
 simp only[deCmp,ii,e1,e2,e3,Option.bind_some,Option.map_some]
def dCmp:De Cmp where
 run:=deCmp
 sim {h h' l x} hh e:=by
  obtain⟨ty,ow,cn,rfl,e1,e2,e3⟩:=deCmp_out e
  exact deCmp_in (rd_sim hh e1) (rd_sim hh e2) (rd_sim hh e3)
def deNg (h:Heap):List AV→Option Ng
 | [.v (.int .i64 i),ty,.v (.int .i64 lo),.v (.int .i64 hi),ow,cn]=>(rd dIs h ty).bind fun t=>(rd dPrs h ow).bind fun o=>(rd dPrs h cn).map fun c=>⟨i,t,lo,hi,o,c⟩
 | _=>none
theorem deNg_out {h:Heap} {l:List AV} {x:Ng} (e:deNg h l=some x):∃ty ow cn,l=[ii x.item,ty,ii x.after,ii x.before,ow,cn]∧rd dIs h ty=some x.types∧rd dPrs h ow=some x.own∧rd dPrs h cn=some x.rest:=by
 unfold deNg at e
 split at e
 ·simp only[Option.bind_eq_some_iff,Option.map_eq_some_iff]at e
  obtain⟨a,e1,b,e2,c,e3,rfl⟩:=e
  exact⟨_,_,_,rfl,e1,e2,e3⟩
 ·cases e
theorem deNg_in {h:Heap} {ty ow cn:AV} {x:Ng} (e1:rd dIs h ty=some x.types) (e2:rd dPrs h ow=some x.own) (e3:rd dPrs h cn=some x.rest):deNg h [ii x.item,ty,ii x.after,ii x.before,ow,cn]=some x:=by
 simp only[deNg,ii,e1,e2,e3,Option.bind_some,Option.map_some]
def dNg:De Ng where
 run:=deNg
 sim {h h' l x} hh e:=by
  obtain⟨ty,ow,cn,rfl,e1,e2,e3⟩:=deNg_out e
  exact deNg_in (rd_sim hh e1) (rd_sim hh e2) (rd_sim hh e3)
def dCmps:De (List Cmp):=De.sl 6 dCmp
def dNgs:De (List Ng):=De.sl 6 dNg
def dBs:De (List Bool):=De.sl 1 De.bool
def pcells (p:Pt) (P:Pl):List AV:=[p.sa,p.qa,ii P.q.mode,ii P.q.after,p.qb,ii P.q.within,ss P.q.par,p.qc,p.ca,p.na,p.fa,p.ua,p.la,p.ra,bv P.lead,bv P.tail]
structure PlR (h:Heap) (p:Pt) (P:Pl):Prop where
 sch:rd dTys h p.sa=some P.sc
 qa:rd dIts h p.qa=some P.q.items
 qb:rd dNs h p.qb=some P.q.wh
 qc:rd dNss h p.qc=some P.q.ret
 cm:rd dCmps h p.ca=some P.comps
 ng:rd dNgs h p.na=some P.negs
 fx:rd dPrs h p.fa=some P.fixed
 us:rd dBs h p.ua=some P.used
 cl:rd dIs h p.la=some P.cols
 rt:rd dPrs h p.ra=some P.ret
theorem PlR.sim {h h':Heap} (hh:h.sim h') {p:Pt} {P:Pl} (a:PlR h p P):PlR h' p P :=
 ⟨rd_sim hh a.sch,rd_sim hh a.qa,rd_sim hh a.qb,rd_sim hh a.qc,rd_sim hh a.cm,rd_sim hh a.ng,rd_sim hh a.fx,rd_sim hh a.us,rd_sim hh a.cl,rd_sim hh a.rt⟩
theorem PlR.qu {h:Heap} {p:Pt} {P:Pl} (a:PlR h p P):deQ h (.g [p.qa,ii P.q.mode,ii P.q.after,p.qb,ii P.q.within,ss P.q.par,p.qc])=some P.q:=deQ_in a.qa a.qb a.qc
theorem LR.rd {α:Type} {d:De α} {T:Nat→Nat} {k sz:Nat} {h h0:Heap} {a:AV} {xs:List α} {R:Nat→List AV→α→Prop} (g:LR T k sz h a xs R) (hh:∀id,T id=k→h0 id=h id) (hR:∀i l x,i<xs.length→R i l x→d.run h0 l=some x):rd (De.sl sz d) h0 a=some xs:=by
 obtain⟨cs,g1,g2⟩:=g
 refine g1.rd rfl (fun id ver e => ?_) fun i hi=>hR i _ _ hi (g2 i hi)
 rcases g1.2 with ⟨e1,_⟩|⟨id',ver',e1,e2,_⟩
 ·rw[e1]at e;cases e
 ·rw[e1]at e;cases e;exact hh _ e2
section
variable {T:Nat→Nat} {h h0:Heap} (hh:∀id,T id≠9→h0 id=h id)
include hh
theorem still9:(still T h).le h0:=fun i k e=>by
 unfold still at e
 split at e
 ·rename_i h1
  rw[hh i (by omega)];exact e
 ·cases e
theorem LL.rd {α:Type} {d:De α} {k sz:Nat} {a:AV} {xs:List α} (g:LL d sz T k h a xs) (hk:k≠9):rd (De.sl sz d) h0 a=some xs:=LR.rd g (fun id e=>hh id (by omega)) fun _ _ _ _ e=>d.mono (still9 hh) e
theorem CmpR.rd {i:Nat} {l:List AV} {c:Cmp} (g:CmpR T h i l c):dCmp.run h0 l=some c:=by
 obtain⟨ty,ow,cn,rfl,e2,e3,e4⟩:=g
 exact deCmp_in (rd_mono (still9 hh) e2) (LL.rd hh e3 (by omega)) (LL.rd hh e4 (by omega))
theorem NgR.rd {i:Nat} {l:List AV} {c:Ng} (g:NgR T h i l c):dNg.run h0 l=some c:=by
 obtain⟨ty,ow,cn,rfl,e2,e3,e4⟩:=g
 exact deNg_in (rd_mono (still9 hh) e2) (LL.rd hh e3 (by omega)) (LL.rd hh e4 (by omega))
theorem BI.plr {hB:Heap} {n1 bid mid:Nat} {n:Nat} {p:Pt} {P:Pl} {f:ByteArray→Option (Bool×Nat)} (b:BI hB n1 bid mid T h n p P f):PlR h0 p P:=by
 obtain⟨a',b',c',e0,x1,x2,x3⟩:=deQ_out b.s.qu
 cases e0
 exact⟨rd_mono (still9 hh) b.s.sch,rd_mono (still9 hh) x1,rd_mono (still9 hh) x2,rd_mono (still9 hh) x3,LR.rd b.cm (fun id e=>hh id (by omega)) fun _ _ _ _ e=>CmpR.rd hh e,LR.rd b.ng (fun id e=>hh id (by omega)) fun _ _ _ _ e=>NgR.rd hh e,LL.rd hh b.fx (by omega),LL.rd hh b.us (by omega),LL.rd hh b.cl (by omega),LL.rd hh b.rt (by omega)⟩
end
end
def dePlan (h:Heap):AV→Option Pl
 | .g [sa,qa,.v (.int .i64 m),.v (.int .i64 f),qb,.v (.int .i64 w),.v (.string p),qc,ca,na,fa,ua,la,ra,.v (.bool ld),.v (.bool tl)] =>
  (rd dTys h sa).bind fun sc=>(rd dIts h qa).bind fun q1=>(rd dNs h qb).bind fun q2=>(rd dNss h qc).bind fun q3=>(rd dCmps h ca).bind fun c=>(rd dNgs h na).bind fun g=>(rd dPrs h fa).bind fun fx=>(rd dBs h ua).bind fun us=>(rd dIs h la).bind fun cl=>(rd dPrs h ra).map fun rt=>⟨sc,⟨q1,m,f,q2,w,p,q3⟩,c,g,fx,us,cl,rt,ld,tl⟩
 | _=>none
theorem dePlan_out {h:Heap} {a:AV} {P:Pl} (e:dePlan h a=some P):∃p,a=.g (pcells p P)∧PlR h p P:=by
 unfold dePlan at e
 split at e
 ·simp only[Option.bind_eq_some_iff,Option.map_eq_some_iff]at e
  obtain⟨sc,e1,q1,e2,q2,e3,q3,e4,c,e5,g,e6,fx,e7,us,e8,cl,e9,rt,e10,rfl⟩:=e
  exact⟨⟨_,_,_,_,_,_,_,_,_,_⟩,rfl,e1,e2,e3,e4,e5,e6,e7,e8,e9,e10⟩
 ·cases e
theorem dePlan_in {h:Heap} {p:Pt} {P:Pl} (a:PlR h p P):dePlan h (.g (pcells p P))=some P:=by
 obtain⟨e1,e2,e3,e4,e5,e6,e7,e8,e9,e10⟩:=a
 simp only[dePlan,pcells,ii,ss,bv,e1,e2,e3,e4,e5,e6,e7,e8,e9,e10,Option.bind_some,Option.map_some]
def rPl:Rdr Pl where
 run:=dePlan
 sim hh e:=by
  obtain⟨p,rfl,a⟩:=dePlan_out e
  exact dePlan_in (a.sim hh)
def rE:Rdr Ev:=⟨fun _ a=>deE a,fun _ e=>e⟩
theorem PlR.is {h:Heap} {p:Pt} {P:Pl} (a:PlR h p P):p.sa.one∧p.qa.one∧p.qb.one∧p.qc.one∧p.ca.one∧p.na.one∧p.fa.one∧p.ua.one∧p.la.one∧p.ra.one :=
 ⟨(sl_is a.sch).2.2.2.1,(sl_is a.qa).2.2.2.1,(sl_is a.qb).2.2.2.1,(sl_is a.qc).2.2.2.1,(sl_is a.cm).2.2.2.1,(sl_is a.ng).2.2.2.1,(sl_is a.fx).2.2.2.1,(sl_is a.us).2.2.2.1,(sl_is a.cl).2.2.2.1,(sl_is a.rt).2.2.2.1⟩
theorem bool_flatQ:∀(h:Heap) (l:List AV) (x:Bool),De.bool.run h l=some x→l=[.v (.bool x)]:=fun h l x e=>by
 simp only[De.bool]at e
 split at e
 ·cases e;rfl
 ·cases e
theorem bs_at {h:Heap} {a:AV} {l:List Bool} (e:rd dBs h a=some l):(l=[]∧(a=.v (.slice none 0 0)∨a=.e))∨
  ∃id off k,a=.s id k.ver off l.length∧h id=some k∧off+l.length≤k.cells.length∧∀i (hi:i<l.length),k.cells[off+i]? = some (bv l[i]):=by
 rcases sl_at e with h0|⟨id,off,k,h1,h2,h3,h4⟩
 ·exact .inl h0
 ·rw[Nat.mul_one]at h3
  refine .inr ⟨id,off,k,h1,h2,h3,fun i hi => ?_⟩
  have h5:=bool_flatQ _ _ _ (h4 i hi)
  have:=cell_of (c:=0) h5 rfl (by omega)
  rw[Nat.mul_one,Nat.add_zero]at this
  exact this
def inStrV (P:Pl) (t:Int):Bool:=decide (0≤t)&&P.used.getD t.toNat false
def GIn:=pureH (de2 rPl rE) (fun q=>q.1.used.length<big) fun q=>bv (inStrV q.1 q.2.ty)
theorem P26:P0 [] 26 GIn:=by
 refine mkH 2 (S:=[]) (l:=[]) tb_nil Tryz.func26 rfl (by kernel_rfl) de2_mono de2_len (fun a=>rfl) (fun args q h n e hp hn => ?_)
 obtain⟨a,b,rfl,e1,e2⟩:=de2_out e
 obtain⟨P,x⟩:=q
 simp only[]at e1 e2 hp ⊢
 obtain⟨p,rfl,pr⟩:=dePlan_out e1
 have:=deE_out e2;subst this
 obtain⟨o1,o2,o3,o4,o5,o6,o7,o8,o9,o10⟩:=pr.is
 obtain⟨s1,s2,s3,s4,s5⟩:=sl_is pr.us
 have key:∀e:Nat→AV,e 0=.g (pcells p P)→e 1=ee x→awp (cx [] (pfL [])) (Tryz.f26.body.getD .skip) (finQ (cx [] (pfL [])) Tryz.f26 fun z _ _=>z=bv (inStrV P x.ty)) ⟨e,roH h,n⟩:=fun e q0 q1=>by
  by_cases h1:0≤x.ty
  ·obtain⟨t,ht⟩:=Int.eq_ofNat_of_zero_le h1
   by_cases h2:t<P.used.length
   ·rcases bs_at pr.us with ⟨h0,_⟩|⟨id,off,k,hu,hk,ho,hat⟩
    ·rw[h0]at h2;simp at h2
    have hr:=hat t h2
    have hk':=roH_le h hk
    have hne:¬id=n:=by have:=lt_of hk hn;omega
    have hne':¬id=n+1:=by have:=lt_of hk hn;omega
    have hw:off+t<k.cells.length:=by omega
    have hw1:off+(t+1)≤k.cells.length:=by omega
    have hr':∀hx,k.cells[off+t]'hx=bv P.used[t]:=fun hx=>by rw[List.getElem?_eq_getElem hx]at hr;exact Option.some.inj hr
    have hv:inStrV P (t:Int)=P.used[t]:=by simp[inStrV,h2]
    simp[evx,Tryz.f26,q0,q1,pcells,ee,ecells,ii,ss,bv,uu,o1,o2,o3,o4,o5,o6,o7,o9,o10,ht,h2,hu,hk',hne,hne',hr',hw,hw1,Blk.ro,hv]
   ·have h3:¬(t:Int)<(P.used.length:Int):=by omega
    have hv:inStrV P (t:Int)=false:=by simp[inStrV,List.getElem?_eq_none (Nat.le_of_not_lt h2)]
    simp[evx,Tryz.f26,q0,q1,pcells,ee,ecells,ii,ss,bv,uu,o1,o2,o3,o4,o5,o6,o7,o8,o9,o10,ht,s1,s2,h3,hv]
  ·have hv:inStrV P x.ty=false:=by simp[inStrV,h1]
   simp[evx,Tryz.f26,q0,q1,pcells,ee,ecells,ii,ss,bv,uu,o1,o2,o3,o4,o5,o6,o7,o8,o9,o10,h1,hv]
 exact key _ rfl rfl
def fiI (l:List Int) (v:Int):Int:=if l.findIdx (· == v)<l.length then l.findIdx (· == v)else -1
theorem fiI_mem (l:List Int) (v:Int):decide (0≤fiI l v)=decide (v∈l):=by
 unfold fiI
 by_cases h:l.findIdx (· == v)<l.length
 ·rw[if_pos h]
  obtain⟨x,hx,he⟩:=List.findIdx_lt_length.1 h
  have:v∈l:=by have:=beq_iff_eq.1 he;rwa [this]at hx
  rw[decide_eq_true this]
  exact decide_eq_true (Int.natCast_nonneg _)
 ·rw[if_neg h]
  have:¬v∈l:=fun hm=>h (List.findIdx_lt_length.2 ⟨v,hm,by simp⟩)
  rw[decide_eq_false this]
  decide
def GIxI:=pureH (de2 (rL dIs) rI) (fun q=>q.1.length<big) fun q=>ii (fiI q.1 q.2)
theorem P161:P0 [] 161 GIxI:=by
 refine mkH 2 (S:=[]) (l:=[]) tb_nil Tryz.func161 rfl (by kernel_rfl) de2_mono de2_len (fun a=>rfl) (fun args q h n e hp hn => ?_)
 obtain⟨a,b,rfl,e1,e2⟩:=de2_out e
 obtain⟨l,v⟩:=q
 simp only[]at e2 hp ⊢
 replace e1:rd dIs h a=some l:=e1
 have:=deI_out e2;subst this
 obtain⟨s1,s2,s3,s4,s5⟩:=sl_is e1
 have key:∀e:Nat→AV,e 0=a→e 1=ii v→awp (cx [] (pfL [])) (Tryz.f161.body.getD .skip) (finQ (cx [] (pfL [])) Tryz.f161 fun z _ _=>z=ii (fiI l v)) ⟨e,roH h,n⟩:=fun e q0 q1=>by
  simp[evx,Tryz.f161,q0,ii,s1,s2]
  refine awp_loop (fun s=>∃j:Nat,j≤l.length∧s.e 0=a∧s.e 1=ii v∧s.e 7=ii l.length∧s.e 8=ii j∧s.h=roH h∧∀i (hi:i<l.length),i<j→(l[i]==v)=false) (fun s=>l.length-(s.e 8).i.toNat) ⟨0,by simp[up,q0,q1,ii]⟩ ?_
  rintro e' h' n' ⟨j,hj,q0,q1,q7,q8,hh,hno⟩
  simp only[]at q0 q1 q7 q8 hh
  subst hh
  by_cases hlt:j<l.length
  ·rcases is_at e1 with ⟨h0,_⟩|⟨id,off,k,rfl,hk,ho,hat⟩
   ·rw[h0]at hlt;simp at hlt
   have hr:=hat j hlt
   have ha':=ro_at hk
   have hw:=wrap_nat (j:=j) (by omega)
   have hw1:off+(j+1)≤k.cells.length:=by omega
   by_cases hy:l[j]=v
   ·have hf:l.findIdx (· == v)=j:=(List.findIdx_eq hlt).2 ⟨by simpa using hy,fun i hi=>hno i (by omega) hi⟩
    have h1:fiI l v=(j:Int):=by rw[fiI,hf,if_pos hlt]
    simp[evx,q0,q1,q7,q8,ii,hlt,ha',hr,hw1,hy,h1]
   ·have hy':¬v=l[j]:=fun e=>hy e.symm
    simp[evx,q0,q1,q7,q8,ii,hlt,ha',hr,hw1,hy',hw]
    refine⟨⟨j+1,by omega,by omega,fun i hi hi2 => ?_⟩,by omega⟩
    by_cases e:i=j
    ·subst e;simpa using hy
    ·simpa using hno i hi (by omega)
  ·obtain rfl:j=l.length:=by omega
   have hf:l.findIdx (· == v)=l.length:=List.findIdx_eq_length.2 fun x hx=>by
    obtain⟨i,hi,rfl⟩:=List.mem_iff_getElem.1 hx
    exact hno i hi hi
   have h1:fiI l v=-1:=by rw[fiI,hf,if_neg (by omega)]
   simp[evx,q7,q8,ii,h1]
 exact key _ rfl rfl
def GHasI:=pureH (de2 (rL dIs) rI) (fun q=>q.1.length<big) fun q=>bv (decide (q.2∈q.1))
def tp118:List (FuncId×(List AV→Heap→PRes)):=[(161,GIxI)]
theorem P118:P0 [] 118 GHasI:=by
 refine mkH 2 (S:=[]) (l:=tp118) (tb_cons P161 tb_nil) Tryz.func118 rfl (by kernel_rfl) de2_mono de2_len (fun a=>rfl) (fun args q h n e hp hn => ?_)
 obtain⟨a,b,rfl,e1,e2⟩:=de2_out e
 obtain⟨l,v⟩:=q
 simp only[]at e2 hp ⊢
 replace e1:rd dIs h a=some l:=e1
 have:=deI_out e2;subst this
 obtain⟨s1,s2,s3,s4,s5⟩:=sl_is e1
 have g1:(rL dIs).run (roH h) a=some l:=rd_agree hn e1 _ (agree_refl _ _)
 have g2:rI.run (roH h) (.v (.int .i64 v))=some v:=rfl
 have hx:=fiI_mem l v
 have key:∀e:Nat→AV,e 0=a→e 1=ii v→awp (cx [] (pfL tp118)) (Tryz.f118.body.getD .skip) (finQ (cx [] (pfL tp118)) Tryz.f118 fun z _ _=>z=bv (decide (v∈l))) ⟨e,roH h,n⟩:=fun e q0 q1=>by
  rw[←hx]
  simp[evx,Tryz.f118,q0,q1,ii,bv,tp118,GIxI,pureH,de2,g1,g2,hp]
 exact key _ rfl rfl
theorem b117 {h:Heap} {n:Nat} {a:AV} {l:List Int} (e1:rd dIs h a=some l) (ha:a=.v (.slice none 0 0)∨0<l.length) (hl:l.length≤1099511627776) (hn:Fresh n h) :
  ACall (cx [] (pfL [])) 117 [a] h n fun z h' n'=>agree n h h'∧Fresh n' h'∧n≤n'∧((a=.v (.slice none 0 0)∧z=a∧n'=n)∨(z=.s n 1 0 l.length∧h' n=some ⟨l.map ii,1,true,1⟩∧n<n')):=by
 refine acall_of_awp (args:=[a]) (pfL_ok tb_nil) (mixed _ _) Tryz.func117 (c:=Tryz.f117.body.getD .skip) rfl (by kernel_rfl) (callable Tryz.func117 rfl rfl _ _) (show 1≤Tryz.f117.ntmps by decide +kernel) ?_
 obtain⟨s1,s2,s3,s4,s5⟩:=sl_is e1
 have hfa:=flat_app Flat.int e1
 have key:∀e:Nat→AV,e 0=a→awp (cx [] (pfL [])) (Tryz.f117.body.getD .skip) (finQ (cx [] (pfL [])) Tryz.f117 fun z h' n'=>agree n h h'∧Fresh n' h'∧n≤n'∧((a=.v (.slice none 0 0)∧z=a∧n'=n)∨(z=.s n 1 0 l.length∧h' n=some ⟨l.map ii,1,true,1⟩∧n<n'))) ⟨e,h,n⟩:=by
  intro e q0
  by_cases h0:a=.v (.slice none 0 0)
  ·subst h0
   simp[evx,Tryz.f117,q0,AV.isN,AV.nl,AV.isNl,agree_refl]
   exact hn
  ·have hpos:=ha.resolve_left h0
   rcases is_at e1 with ⟨h1,_⟩|⟨id,off,k,rfl,hk,ho,hat⟩
   ·rw[h1]at hpos;simp at hpos
   have hne:¬id=n:=by have:=lt_of hk hn;omega
   simp[evx,Tryz.f117,q0,AV.isN,AV.nl,AV.isNl,hpos,s1,s2,hk,hne,ho]
   refine⟨⟨by omega,by omega⟩,(agree_up (by omega) _).2 ((agree_up (by omega) _).2 (agree_refl _ _)),(fresh_up (by omega) _).2 ((fresh_up (by omega) _).2 (hn.add 2)),?_⟩
   have h4:=hfa.2
   simp only[slc,hk,Nat.mul_one,Nat.add_zero]at h4
   rw[h4,map_flat]
 exact key _ rfl
end Go.Proofs.YtbffkkeieihpdaaGreatDoor
