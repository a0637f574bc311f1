import Derived.Test.YtbffkkeieihpdaaGreatDoorX22
import Derived.Test.YtbffkkeieihpdaaGreatDoorX34
import Derived.Test.YtbffkkeieihpdaaGreatDoorX27
set_option linter.unusedSimpArgs false
set_option linter.unusedVariables false
set_option linter.constructorNameAsVariable false
set_option maxRecDepth 100000
set_option maxHeartbeats 4000000
namespace Go.Proofs.YtbffkkeieihpdaaGreatDoor
open Go Go.Eng
theorem lay_mem {t:List Nd} {f g:Nat→Ins} {i:Ins}:∀{n:Nat},i∈layT t f g n→(∃k,k<n∧i=f k)∨∃k,k<n∧(parT t k).isSome=true∧i=g k
 | 0,h=>by simp[layT]at h
 | n+1,h=>by
  simp only[layT,List.mem_append,List.mem_cons]at h
  rcases h with h|rfl|h
  ·rcases lay_mem h with ⟨k,h1,h2⟩|⟨k,h1,h2⟩
   ·exact .inl ⟨k,by omega,h2⟩
   ·exact .inr ⟨k,by omega,h2⟩
  ·exact .inl ⟨n,by omega,rfl⟩
  ·split at h
   ·rename_i hp
    simp only[List.mem_singleton]at h
    exact .inr ⟨n,by omega,hp,h⟩
   ·simp at h
theorem ix_lt (l:List ByteArray) (z:ByteArray) : -1≤ixOf l z∧ixOf l z<(l.length:Int):=by
 unfold ixOf
 split<;>omega
theorem rng_small {x:Int} (h1 : -1≤x) (h2:x≤4611686018427387904):Rng x:=by
 unfold Rng
 omega
theorem comp_ok {sc:List Ty} {vs:List ByteArray} {t:List Nd} (hvs:vs.length<big) (hp:smallT t) (htl:sc.length*8≤140737488355328) (hr:∀x∈t,Rng x.n):PrOk (compP sc vs t):=by
 have hp':t.length*64≤140737488355328:=hp
 unfold compP
 split
 ·rename_i hrun
  have T:=tre_of (show tree1 t=true by simp only[runT,Bool.and_eq_true]at hrun;exact hrun.1)
  have hf:=few T
  have hnl:=names_len t t.length
  have hb:vs.length<4611686018427387904:=hvs
  refine⟨by simp only[];rw[codeT,lay_len];omega,fun i hi => ?_,fun c hc => ?_⟩
  ·rcases lay_mem hi with ⟨k,h1,rfl⟩|⟨k,h1,h2,rfl⟩
   ·rw[ownT,getD_at h1]
    have hk:=T.kind k h1
    have ho:1≤t[k].op∧t[k].op≤26:=by
     rcases hk with ⟨h1,h2,_⟩|⟨h1,_⟩|⟨h1,h2,_⟩<;>omega
    have hit : -1≤itemV vs t[k]∧itemV vs t[k]≤9223372036854775806:=by
     unfold itemV
     have:=ix_lt vs t[k].var
     split<;>omega
    have hix:=ix_lt (namesOf t) t[k].attr
    have hn2:(namesOf t).length≤t.length:=hnl
    have hrn:=hr _ (List.getElem_mem h1)
    have hri:Rng (itemV vs t[k]):=by unfold Rng;omega
    have r0:Rng 0:=rng_small (by omega) (by omega)
    have rc:Rng (ixOf (namesOf t) t[k].attr):=rng_small (by omega) (by omega)
    unfold ownI InsOk
    repeat' split
    all_goals refine⟨?_,?_,?_,?_,?_⟩<;>first|exact r0|exact hrn|exact hri|exact rc|exact rng_small (by simp only[];omega) (by simp only[];omega)
   ·unfold jmpT
    split
    ·rename_i p hpp
     have hpl:p<t.length:=by
      have:=List.mem_of_find?_eq_some hpp
      simpa using this
     have hle:=pos_lt (t:=t) (k:=p) (n:=t.length) hpl
     have ho:1≤t[p].op∧t[p].op≤26:=by
      rcases T.kind p hpl with ⟨h1,h2,_⟩|⟨h1,_⟩|⟨h1,h2,_⟩<;>omega
     have r0:Rng 0:=rng_small (by omega) (by omega)
     have hpo:posT t p+1≤posT t t.length:=by split at hle<;>omega
     rw[getD_at hpl]
     refine⟨rng_small (by simp only[];omega) (by simp only[];omega),r0,r0,r0,rng_small (by simp only[];omega) (by simp only[];omega)⟩
    ·have r0:Rng 0:=rng_small (by omega) (by omega)
     exact⟨r0,r0,r0,r0,r0⟩
  ·obtain⟨a,_,rfl⟩:=List.mem_map.1 hc
   rw[colOf_len]
   unfold big
   omega
 ·exact⟨by simp,by simp,by simp⟩
def za:ByteArray:=⟨#[97]⟩
theorem conj_half {t:List Nd} {lo:Nat→Nat} (T:Tre t lo):∀i,i<t.length→2*(conjT t i).length≤i+2-lo i:=by
 intro i
 induction i using Nat.strongRecOn with
 | _ i ih =>
  intro hi
  have hl:=T.le i hi
  by_cases h:t[i].op=25
  ·obtain⟨k1,k2,_⟩:=conj_kids T hi h
   rw[conj_two T hi h,List.length_append]
   have c1:=ih _ k1 (by omega)
   have c2:=ih _ k2 (by omega)
   rcases T.kind i hi with ⟨b1,b2,b3,b4,b⟩|⟨b0,b1,b2,b3,b⟩|⟨b0,b0',b1,b2,a,b3,b4,b⟩
   ·omega
   ·omega
   ·have e1:t[i].a.toNat=a:=by omega
    have e2:t[i].b.toNat=i-1:=by omega
    have:=T.le (i-1) (by omega)
    have:=T.le a (by omega)
    rw[e1]at c1 ⊢
    rw[e2]at c2 ⊢
    omega
  ·rw[conj_one hi h]
   simp only[List.length_cons,List.length_nil]
   omega
def rootsQ (t:List Nd):List Nat:=if tree1 t=true then conjT t (t.length-1)else []
theorem roots_lt {t:List Nd} {r:Nat} (h:r∈rootsQ t):tree1 t=true∧r<t.length:=by
 unfold rootsQ at h
 split at h
 ·rename_i ht
  have T:=tre_of ht
  have:=(conj_all T (t.length-1) (by have:=T.pos;omega)).1 r h
  have:=T.pos
  exact⟨ht,by omega⟩
 ·simp at h
theorem roots_len {t:List Nd} (hs:smallT t):(rootsQ t).length≤1099511627776:=by
 unfold rootsQ
 unfold smallT at hs
 split
 ·rename_i ht
  have T:=tre_of ht
  have h1:=conj_half T (t.length-1) (by have:=T.pos;omega)
  have:=T.pos
  omega
 ·simp
theorem conjs_roots (q:Qu):conjs q=(rootsQ q.wh).map (subT q.wh):=by
 unfold conjs rootsQ conjW
 split<;>simp
theorem sub_small {t:List Nd} {r:Nat} (ht:tree1 t=true) (hr:r<t.length) (hs:smallT t):smallT (subT t r):=by
 have T:=tre_of ht
 have hl:(subT t r).length=r+1-loOf t r:=cut_len hr (T.le r hr)
 unfold smallT at *
 omega
theorem ix_is2 {vs:List ByteArray} {z:ByteArray} (h:0≤ixOf vs z):∃j:Nat,ixOf vs z=j∧∃hj:j<vs.length,vs.findIdx (· == z)=j∧vs[j]=z:=by
 unfold ixOf at h ⊢
 split at h
 ·rename_i hl
  refine⟨_,if_pos hl,hl,rfl,?_⟩
  have:=List.findIdx_getElem (w:=hl)
  rw[ba_beq]at this
  exact this
 ·omega
theorem ix_inj {l:List ByteArray} {a b:ByteArray} (ha:0≤ixOf l a) (h:ixOf l a=ixOf l b):a=b:=by
 obtain⟨i,h1,h2,h3,h4⟩:=ix_is2 ha
 obtain⟨j,k1,k2,k3,k4⟩:=ix_is2 (vs:=l) (z:=b) (by omega)
 have:i=j:=by omega
 subst this
 rw[←h4,k4]
theorem nodup_le:∀{l:List Nat} {n:Nat},l.Nodup→(∀x∈l,x<n)→l.length≤n
 | l,0,_,h=>by
  cases l with
  | nil=>simp
  | cons a r=>exact absurd (h a (by simp)) (by omega)
 | l,n+1,hd,h=>by
  have h1:(l.erase n).length≤n:=nodup_le (hd.erase n) fun x hx=>by
   have h2:=h x (List.mem_of_mem_erase hx)
   have h3:x≠n:=fun e=>by
    subst e
    exact (List.Nodup.not_mem_erase hd) hx
   omega
  have h4:l.length-1≤(l.erase n).length:=by rw[List.length_erase];split<;>omega
  omega
theorem dup_nodup {l:List ByteArray} (h:dupTo l l.length=false):l.Pairwise (·≠·):=by
 rw[List.pairwise_iff_getElem]
 intro i j hi hj hij e
 unfold dupTo at h
 rw[List.any_eq_false]at h
 refine h j (List.mem_range.2 hj) ?_
 rw[List.any_eq_true]
 refine⟨l[i],?_,?_⟩
 ·rw[List.mem_take_iff_getElem]
  exact⟨i,by omega,rfl⟩
 ·rw[e,List.getD_eq_getElem?_getD,List.getElem?_eq_getElem hj,Option.getD_some,ba_beq]
theorem types_le {sc:List Ty} {it:It} (h:itemE sc it=0):it.types.length≤sc.length:=by
 obtain⟨h1,h2,_⟩:=itemE_ok h
 have hd:=dup_nodup h2
 have h3:(it.types.map fun z=>(typeOf sc z).toNat).length≤sc.length:=by
  refine nodup_le ?_ fun x hx => ?_
  ·rw[List.nodup_iff_pairwise_ne,List.pairwise_map]
   refine List.Pairwise.imp_of_mem (fun {a b} ha hb hab e=>hab ?_) hd
   have:=h1 a ha
   have:=h1 b hb
   exact ix_inj (l:=sc.map fun x:Ty=>x.name) (h1 a ha) (by have e':(typeOf sc a).toNat=(typeOf sc b).toNat:=e;unfold typeOf at *;omega)
  ·obtain⟨z,hz,rfl⟩:=List.mem_map.1 hx
   have:=h1 z hz
   have h4:=(ix_lt (sc.map fun x:Ty=>x.name) z).2
   rw[List.length_map]at h4
   unfold typeOf at *
   omega
 rwa [List.length_map]at h3
theorem Wf.short {sc:List Ty} {q:Qu} (W:Wf sc q):0<sc.length∧sc.length≤16∧(∀t∈sc,t.attrs.length≤8)∧0<q.items.length∧(∀it∈q.items,it.types.length≤16):=by
 obtain⟨h1,h2,h3⟩:=sch_ok W.s0
 refine⟨h1,h2,fun t ht => ?_,?_,fun it hit => ?_⟩
 ·obtain⟨i,hi,rfl⟩:=List.mem_iff_getElem.1 ht
  have h4:=(schE_ok (h3 i hi)).2.2.1
  rwa [List.getD_eq_getElem?_getD,List.getElem?_eq_getElem hi,Option.getD_some]at h4
 ·have h5:=W.sh
  simp only[shQ,Bool.and_eq_true,decide_eq_true_eq]at h5
  omega
 ·obtain⟨i,hi,rfl⟩:=List.mem_iff_getElem.1 hit
  have h6:=types_le (itE_ok (W.it i hi)).1
  rw[List.getD_eq_getElem?_getD,List.getElem?_eq_getElem hi,Option.getD_some]at h6
  omega
theorem c35 {h:Heap} {n:Nat} {a:AV} {t:List Nd} (e1:rd dNs h a=some t) (hsm:smallT t) (hn:Fresh n h) :
  ACall (cx [3] (pfL tb51)) 35 [a] h n fun z h' n'=>agree n h h'∧Fresh n' h'∧n≤n'∧rd dIs (wtn n n' h') z=some ((rootsQ t).map fun x:Nat=>(x:Int)):=by
 cases ht:tree1 t with
 | true =>
  refine (c51 e1 ht hsm hn).mono ?_
  rintro z h' n' ⟨a1,a2,a3,w,u,rfl,hw,w1,w2⟩
  refine⟨a1,a2,a3,?_⟩
  rw[rootsQ,if_pos ht]
  generalize conjT t (t.length-1)=l at *
  have:=flat_in (h:=wtn n n' h') Flat.int (l:=l.map fun x:Nat=>(x:Int)) (id:=w) (ver:=u) (k:=⟨l.map fun x:Nat=>ii x,u,true,1⟩) (by rw[wtn_at w1 w2];exact hw) rfl (r:=[]) (by rw[List.append_nil,←map_flat,List.map_map];rfl)
  rwa [List.length_map]at this
 | false =>
  refine acall_of_awp (args:=[a]) (pfL_ok (tb_cons P70 tb_nil)) (mixed _ _) Tryz.func35 (c:=Tryz.f35.body.getD .skip) rfl (by kernel_rfl) (callable Tryz.func35 rfl rfl _ _) (show 1≤Tryz.f35.ntmps by decide +kernel) ?_
  obtain⟨s1,s2,s3,s4,s5⟩:=sl_is e1
  have g1:∀h',agree n h h'→rd dNs h' a=some t:=fun h' ha=>rd_agr hn e1 h' ha
  have key:∀e:Nat→AV,e 0=a→awp (cx [3] (pfL tb51)) (Tryz.f35.body.getD .skip) (finQ (cx [3] (pfL tb51)) Tryz.f35 fun z h' n'=>agree n h h'∧Fresh n' h'∧n≤n'∧rd dIs (wtn n n' h') z=some ((rootsQ t).map fun x:Nat=>(x:Int))) ⟨e,h,n⟩:=fun e q0=>by
   simp[evx,Tryz.f35,q0,s4,s5,tb51,G70,pureH,deT,g1,agree_up,agree_refl,hsm,ht,bv,fresh_up,hn.add,rootsQ]
   rfl
  exact key _ rfl
theorem ns_getD {h:Heap} {a:AV} {l:List Nd} (e:rd dNs h a=some l) {i:Nat} (hi:i<l.length):∃id off k,a=.s id k.ver off l.length∧h id=some k∧off+l.length*6≤k.cells.length∧
  k.cells[off+i*6]? = some (ii (l.getD i nd0).op)∧k.cells[off+(i*6+1)]? = some (ii (l.getD i nd0).n)∧k.cells[off+(i*6+2)]? = some (ss (l.getD i nd0).var)∧k.cells[off+(i*6+3)]? = some (ss (l.getD i nd0).attr)∧
  k.cells[off+(i*6+4)]? = some (ii (l.getD i nd0).a)∧k.cells[off+(i*6+5)]? = some (ii (l.getD i nd0).b):=by
 rcases ns_at e with ⟨h0,_⟩|⟨id,off,k,h1,h2,h3,h4⟩
 ·rw[h0]at hi;simp at hi
 ·have h5:=h4 i hi
  have c0:=cell_of (c:=0) h5 rfl (by omega)
  have c1:=cell_of (c:=1) h5 rfl (by omega)
  have c2:=cell_of (c:=2) h5 rfl (by omega)
  have c3:=cell_of (c:=3) h5 rfl (by omega)
  have c4:=cell_of (c:=4) h5 rfl (by omega)
  have c5:=cell_of (c:=5) h5 rfl (by omega)
  simp only[Nat.add_zero]at c0
  rw[Nat.add_assoc]at c1 c2 c3 c4 c5
  rw[getD_at hi]
  exact⟨id,off,k,h1,h2,h3,c0,c1,c2,c3,c4,c5⟩
def okKind (q:List Nd×Nd):Prop:=smallT q.1∧q.2.a<q.1.length∧q.2.b<q.1.length
def GKind:=pureH (de2 (rL dNs) rN) okKind fun q=>bv (kinB q.1 q.2)
def tbKind:List (FuncId×(List AV→Heap→PRes)):=[(200,g92)]
section
theorem P199:P0 [] 199 GKind:=by
 refine mkH 2 (S:=[]) (l:=tbKind) (tb_cons p73 tb_nil) Tryz.func199 rfl (by kernel_rfl) de2_mono de2_len (fun a=>rfl) (fun args q h n e hp hn => ?_)
 obtain⟨ta,d,rfl,e1,e2⟩:=de2_out e
 obtain⟨t,x⟩:=q
 obtain⟨hsm,hla,hlb⟩:=hp
 replace e1:rd dNs h ta=some t:=e1
 simp only[]at e2 hsm hla hlb ⊢
 have:=rN_out e2;subst this
 obtain⟨s1,s2,s3,s4,s5⟩:=sl_is e1
 obtain⟨op,num,var,attr,na,nb⟩:=x
 simp only[]at hla hlb
 have hw13:wantsT op=decide (op=13∨op=25∨op=26):=rfl
 generalize hwn:wantsT op=w at *
 have hk1:kinB t ⟨op,num,var,attr,na,nb⟩=(kidB t ⟨op,num,var,attr,na,nb⟩ na&&kidB t ⟨op,num,var,attr,na,nb⟩ nb):=rfl
 have hkid:∀k:Int,kidB t ⟨op,num,var,attr,na,nb⟩ k=(decide (k<0)||(truthO (t.getD k.toNat nd0).op==w)):=fun k=>by unfold kidB;rw[←hwn]
 generalize kinB t ⟨op,num,var,attr,na,nb⟩=kb at *
 rw[hkid na,hkid nb]at hk1
 clear hkid
 have w1:IntKind.i64.wrap 1=1:=by decide
 have w2:IntKind.i64.wrap 2=2:=by decide
 obtain⟨kA,hA⟩:∃kA,(decide (na<0)||(truthO (t.getD na.toNat nd0).op==w))=kA:=⟨_,rfl⟩
 obtain⟨kB,hB⟩:∃kB,(decide (nb<0)||(truthO (t.getD nb.toNat nd0).op==w))=kB:=⟨_,rfl⟩
 rw[hA,hB]at hk1
 have one:∀(k:Int),k<t.length→0≤k→∃id off kk,ta=.s id kk.ver off t.length∧h id=some kk∧off+(k.toNat*6+1)≤kk.cells.length∧kk.cells[off+k.toNat*6]? = some (.v (.int .i64 (t.getD k.toNat nd0).op)):=fun k h1 h2=>by
  obtain⟨id,off,kk,h3,h4,h5,h6,_⟩:=ns_getD e1 (i:=k.toNat) (by omega)
  exact⟨id,off,kk,h3,h4,by omega,h6⟩
 have key:∀e:Nat→AV,e 0=ta→e 1=.g [ii op,ii num,ss var,ss attr,ii na,ii nb]→awp (cx [] (pfL tbKind)) (Tryz.f199.body.getD .skip) (finQ (cx [] (pfL tbKind)) Tryz.f199 fun z _ _=>z=bv kb) ⟨e,roH h,n⟩:=fun e q0 q1=>by
  refine awp_cut 2 _ _ (R:=fun s=>s.e 0=ta∧s.e 3=.p n 0 0∧s.e 5=bv w∧agree n (roH h) s.h∧s.h n=some ⟨[ii op,ii num,ss var,ss attr,ii na,ii nb],0,true,6⟩) ?_ fun y1 h1 n1 hh => ?_
  ·by_cases c1:op=13<;>by_cases c2:op=25<;>by_cases c3:op=26<;>simp[evx,hdC,Tryz.f199,q0,q1,ii,ss,bv,c1,c2,c3,hw13]<;>simp[agree_up,agree_refl]
  obtain⟨q0,q3,q5,hag,hb0⟩:=hh
  simp only[ii,ss,bv]at q0 q3 q5 hag hb0
  simp[evx,tlC,Tryz.f199,q3,hb0,bv]
  refine awp_loop (fun s=>∃j:Nat,j≤2∧s.e 0=ta∧s.e 5=bv w∧s.e 25=.g [ii na,ii nb]∧s.e 26=ii j∧agree n (roH h) s.h∧(0<j→kA=true)∧(1<j→kB=true)) (fun s=>2-(s.e 26).i.toNat) ⟨0,by omega,by simp[up,q0],by simp[up,q5,bv],by simp[up,ii],by simp[up,ii],hag,by omega,by omega⟩ ?_
  rintro e' h' n' ⟨j,hj,q0,q5,q25,q26,hag,k0,k1⟩
  simp only[ii,bv]at q0 q5 q25 q26 hag
  have hc:j=0∨j=1∨j=2:=by omega
  rcases hc with rfl|rfl|rfl
  ·by_cases hneg:na<0
   ·have h0:¬0≤na:=by omega
    have hkA:kA=true:=by rw[←hA];simp[hneg]
    simp[evx,q0,q5,q25,q26,ii,bv,h0,w1]
    exact⟨1,by omega,by simp,hag,fun _=>hkA,by omega⟩
   ·have h0:0≤na:=by omega
    obtain⟨id,off,kk,rfl,hk,ho,hc⟩:=one na hla h0
    have ha':=agree_at hn hk hag
    generalize (t.getD na.toNat nd0).op=oa at *
    cases hy:(truthO oa==w)with
    | true =>
     have hy2:truthO oa=w:=by simpa using hy
     have hkA:kA=true:=by rw[←hA,hy];simp
     simp[evx,q0,q5,q25,q26,ii,bv,h0,hla,ha',hc,ho,tbKind,g92,pure1,deI,hy2,w1]
     exact⟨1,by omega,by simp,hag,fun _=>hkA,by omega⟩
    | false =>
     have hkb:kb=false:=by rw[hk1,←hA,hy];simp[hneg]
     have hy3:¬truthO oa=w:=by simpa using hy
     simp[evx,q0,q5,q25,q26,ii,bv,h0,hla,ha',hc,ho,tbKind,g92,pure1,deI,hy3,hkb]
  ·have k0:=k0 (by omega)
   by_cases hneg:nb<0
   ·have h0:¬0≤nb:=by omega
    have hkB:kB=true:=by rw[←hB];simp[hneg]
    simp[evx,q0,q5,q25,q26,ii,bv,h0,w2]
    exact⟨2,by omega,by simp,hag,fun _=>k0,fun _=>hkB⟩
   ·have h0:0≤nb:=by omega
    obtain⟨id,off,kk,rfl,hk,ho,hc⟩:=one nb hlb h0
    have ha':=agree_at hn hk hag
    generalize (t.getD nb.toNat nd0).op=ob at *
    cases hy:(truthO ob==w)with
    | true =>
     have hy2:truthO ob=w:=by simpa using hy
     have hkB:kB=true:=by rw[←hB,hy];simp
     simp[evx,q0,q5,q25,q26,ii,bv,h0,hlb,ha',hc,ho,tbKind,g92,pure1,deI,hy2,w2]
     exact⟨2,by omega,by simp,hag,fun _=>k0,fun _=>hkB⟩
    | false =>
     have hkb:kb=false:=by rw[hk1,←hB,hy];simp[hneg]
     have hy3:¬truthO ob=w:=by simpa using hy
     simp[evx,q0,q5,q25,q26,ii,bv,h0,hlb,ha',hc,ho,tbKind,g92,pure1,deI,hy3,hkb]
  ·have k0:=k0 (by omega)
   have k1:=k1 (by omega)
   have hkb:kb=true:=by rw[hk1,k0,k1];rfl
   simp[evx,q26,ii,bv,hkb]
 exact key _ rfl rfl
def okWalk (q:List Nd×Bool×Ask):Prop:=smallT q.1∧tree1 q.1=true∧okAsk q.2.2
def walkA (q:Int×Int):AV:=.t [ii q.1,ii q.2]
def GWalk:=pureH (de2 (rL dNs) rFn) okWalk fun q=>walkA (wlk q.2.2.1 q.2.2.2.1 q.1 q.2.1)
def tbWalk:List (FuncId×(List AV→Heap→PRes)):=[(199,GKind)]
theorem P154:P0 [] 154 GWalk:=by
 refine mkH 2 (S:=[]) (l:=tbWalk) (tb_cons P199 tb_nil) Tryz.func154 rfl (by kernel_rfl) de2_mono de2_len (fun a=>rfl) (fun args q h n e hp hn => ?_)
 obtain⟨ta,f,rfl,e1,e2⟩:=de2_out e
 obtain⟨t,b,x⟩:=q
 obtain⟨hsm,ht,hak⟩:=hp
 replace e1:rd dNs h ta=some t:=e1
 simp only[]at e2 hsm ht hak ⊢
 obtain⟨p,rfl,e3⟩:=rFn_out e2
 simp only[]at e3
 obtain⟨s1,s2,s3,s4,s5⟩:=sl_is e1
 have g1:=rd_agree hn e1
 have g3:=(rAt (rC rAsk)).agree hn e3
 have T:=tre_of ht
 have hsm':t.length*64≤140737488355328:=hsm
 have hwd:wlk x.1 x.2.1 t b=fstI (nodE x.1 x.2.1 t b) t.length:=rfl
 have key:∀e:Nat→AV,e 0=ta→e 1=.f (.func (if b=true then 158 else 155)) [] [p]→awp (cx [] (pfL tbWalk)) (Tryz.f154.body.getD .skip) (finQ (cx [] (pfL tbWalk)) Tryz.f154 fun z _ _=>z=walkA (wlk x.1 x.2.1 t b)) ⟨e,roH h,n⟩:=fun e q0 q1=>by
  simp[evx,Tryz.f154,q0,s1,s2]
  refine awp_loop (fun s=>∃j:Nat,j≤t.length∧s.e 0=ta∧s.e 1=.f (.func (if b=true then 158 else 155)) [] [p]∧s.e 9=ta∧s.e 10=ii t.length∧s.e 11=ii j∧agree n (roH h) s.h∧n≤s.n∧Fresh s.n s.h∧∀i,i<j→nodE x.1 x.2.1 t b i=0) (fun s=>t.length-(s.e 11).i.toNat) ⟨0,by omega,by simp[up,q0],by simp[up,q1],by simp[up],by simp[up,ii],by simp[up,ii],agree_refl _ _,by simp,fun i hi=>by simp[roH,hn i hi],by omega⟩ ?_
  rintro e' h' n' ⟨j,hj,q0,q1,q9,q10,q11,hag,hnn,hfr,hno⟩
  simp only[]at q0 q1 q9 q10 q11 hag hnn hfr
  by_cases hlt:j<t.length
  ·have hkd:=T.kind j hlt
   rw[←getD_at hlt]at hkd
   obtain⟨id,off,k,rfl,hk,ho,c0,c1,c2,c3,c4,c5⟩:=ns_getD e1 hlt
   have ha':=agree_at hn hk hag
   have hw:=wrap_nat (j:=j) (by unfold big;omega)
   have hw1:off+(j*6+6)≤k.cells.length:=by omega
   have hmiss:=fun hy=>upTo_succ (p:=fun i=>nodE x.1 x.2.1 t b i=0) hno hy
   have hhit:=fun hy:nodE x.1 x.2.1 t b j≠0=>fstI_at (f:=nodE x.1 x.2.1 t b) hno hy hlt
   have hE:nodE x.1 x.2.1 t b j=if mentE x.1 x.2.1 b (t.getD j nd0)≠0 then mentE x.1 x.2.1 b (t.getD j nd0)else if kinB t (t.getD j nd0)=true then 0 else 75:=rfl
   have hjn:((t.length-1:Nat):Int)<t.length:=by omega
   have hab:(t.getD j nd0).a<t.length∧(t.getD j nd0).b<t.length:=by
    rcases hkd with ⟨_,_,a1,a2,_⟩|⟨_,_,a1,a2,_⟩|⟨_,_,_,a1,a,a2,a3,a4⟩
    ·omega
    ·omega
    ·have:=T.le (j-1) (by omega);omega
   generalize hnd:t.getD j nd0=nd at *
   obtain⟨op,num,var,attr,na,nb⟩:=nd
   simp only[ii,ss]at c0 c1 c2 c3 c4 c5
   simp only[]at hab
   have zi:¬id=n':=by have:=lt_of hk hn;omega
   have hag2:∀b1 b2,agree n (roH h) (up (up h' n' b1) n' b2):=fun b1 b2=>by simp[agree_up,hnn,hag]
   have hfr2:∀b1 b2,Fresh (n'+2) (up (up h' n' b1) n' b2):=fun b1 b2=>by simp[fresh_up,hfr.add]
   have K:=cFn (S:=[]) (pf:=pfL tbWalk) (n:=n'+2) (nd:=⟨op,num,var,attr,na,nb⟩) (x:=(b,x)) (g3 _ (hag2 (some ⟨[.v (.int .i64 0),.v (.int .i64 0),.v (.string ByteArray.empty),.v (.string ByteArray.empty),.v (.int .i64 0),.v (.int .i64 0)],0,true,6⟩) (some ⟨[.v (.int .i64 op),.v (.int .i64 num),.v (.string var),.v (.string attr),.v (.int .i64 na),.v (.int .i64 nb)],0,true,6⟩))) hak
   simp only[nn,ncells,ii,ss]at K hE
   generalize hme:mentE x.1 x.2.1 b ⟨op,num,var,attr,na,nb⟩=me at *
   cases b<;>simp only[Bool.false_eq_true,if_false,if_true]at q1 K
   all_goals
    simp[evx,ldcs_6,q0,q1,q9,q10,q11,ii,hlt,ha',c0,c1,c2,c3,c4,c5,hw1,tbWalk]
    refine (acall_any (S:=[]) (by simp) K).mono ?_
    rintro v h2 n2 ⟨rfl,rfl,rfl⟩
    by_cases hm:me=0
    ·rw[if_neg (not_not_intro hm)]at hE
     cases hkb:kinB t ⟨op,num,var,attr,na,nb⟩with
     | true =>
      rw[hkb,if_pos rfl]at hE
      have h3:=hmiss hE
      simp[evx,hm,GKind,pureH,de2,rL,rN,deN,deNc,g1 _ (hag2 _ _),okKind,hsm,hab,hkb,bv,hw]
      exact⟨⟨j+1,by omega,by omega,hag2 _ _,by omega,hfr2 _ _,h3⟩,by omega⟩
     | false =>
      rw[hkb,if_neg (by simp)]at hE
      have h3:=hhit (by rw[hE];decide)
      simp[evx,ii,hm,GKind,pureH,de2,rL,rN,deN,deNc,g1 _ (hag2 _ _),okKind,hsm,hab,hkb,bv,walkA,hwd,h3,hE]
    ·rw[if_pos hm]at hE
     have h3:=hhit (by rw[hE];exact hm)
     simp[evx,ii,hm,walkA,hwd,h3,hE]
  ·obtain rfl:j=t.length:=by omega
   have h3:=fstI_none hno
   simp[evx,q10,q11,ii,walkA,hwd,h3]
 exact key _ rfl rfl
end
abbrev Use3:=List Int×List Int×List Int
def rUse:Rdr Use3 where
 run h a:=match a with
  | .g l=>de3 (rL dIs) (rL dIs) (rL dIs) h l
  | _=>none
 sim {h h' a x} hh e:=by
  split at e
  ·obtain⟨a,b,c,rfl,e1,e2,e3⟩:=de3_out e
   simp only[de3,(rL dIs).sim hh e1,(rL dIs).sim hh e2,(rL dIs).sim hh e3,Option.bind_some,Option.map_some]
  ·cases e
theorem rUse_out {h:Heap} {a:AV} {x:Use3} (e:rUse.run h a=some x):∃a1 a2 a3,a=.g [a1,a2,a3]∧rd dIs h a1=some x.1∧rd dIs h a2=some x.2.1∧rd dIs h a3=some x.2.2:=by
 simp only[rUse]at e
 split at e
 ·obtain⟨a,b,c,rfl,e1,e2,e3⟩:=de3_out e
  exact⟨a,b,c,rfl,e1,e2,e3⟩
 ·cases e
theorem is_getD {h:Heap} {a:AV} {l:List Int} (e:rd dIs h a=some l) {i:Nat} (hi:i<l.length):∃id off k,a=.s id k.ver off l.length∧h id=some k∧off+l.length≤k.cells.length∧k.cells[off+i]? = some (ii (l.getD i 0)):=by
 rcases is_at e with ⟨h0,_⟩|⟨id,off,k,h1,h2,h3,h4⟩
 ·rw[h0]at hi;simp at hi
 ·have hg:l.getD i 0=l[i]:=by rw[List.getD_eq_getElem?_getD,List.getElem?_eq_getElem hi];rfl
  exact⟨id,off,k,h1,h2,h3,by rw[hg];exact h4 i hi⟩
def touch (it:It):Bool:=it.neg||decide (1<it.hi)
theorem mixN_succ {q:Qu} {l:List Int} {j:Nat} (hj:j<l.length):mixN q (l.take (j+1))=mixN q (l.take j)+(touch (q.items.getD (l.getD j 0).toNat it0)).toNat:=by
 have hg:l.getD j 0=l[j]:=by rw[List.getD_eq_getElem?_getD,List.getElem?_eq_getElem hj];rfl
 have hm:∀l,mixN q l=(l.filter fun i=>touch (q.items.getD i.toNat it0)).length:=fun l=>rfl
 rw[hm,hm,List.take_succ_eq_append_getElem hj,List.filter_append,List.length_append,hg,List.filter_cons,List.filter_nil]
 cases touch (q.items.getD l[j].toNat it0)<;>rfl
theorem mixN_le (q:Qu) (l:List Int):mixN q l≤l.length:=List.length_filter_le _ _
def okMix (x:Qu×Use3):Prop:=QuSm x.1∧x.2.1.length<big∧∀i,i<x.2.1.length→0≤x.2.1.getD i 0∧x.2.1.getD i 0<x.1.items.length
def GMix:=pureH (de2 rQ rUse) okMix fun x=>bv (decide (1<mixN x.1 x.2.1))
section
theorem P157:P0 [] 157 GMix:=by
 refine mkH 2 (S:=[]) (l:=[]) tb_nil Tryz.func157 rfl (by kernel_rfl) de2_mono de2_len (fun a=>rfl) (fun args q h n e hp hn => ?_)
 obtain⟨x,u,rfl,e1,e2⟩:=de2_out e
 obtain⟨q,l,l2,l3⟩:=q
 obtain⟨hq,hl,hi⟩:=hp
 replace e1:deQ h x=some q:=e1
 simp only[]at e2 hq hl hi ⊢
 obtain⟨a1,a2,a3,rfl,f1,f2,f3⟩:=rUse_out e2
 simp only[]at f1 f2 f3
 obtain⟨a,b,c,rfl,x2,x3,x4⟩:=deQ_out e1
 have o1:=(sl_is x2).2.2.2.1
 have o2:=(sl_is x3).2.2.2.1
 have o3:=(sl_is x4).2.2.2.1
 have p2:=(sl_is f2).2.2.2.1
 have p3:=(sl_is f3).2.2.2.1
 obtain⟨s1,s2,s3,s4,s5⟩:=sl_is f1
 have key:∀e:Nat→AV,e 0=.g [a,ii q.mode,ii q.after,b,ii q.within,ss q.par,c]→e 1=.g [a1,a2,a3]→awp (cx [] (pfL [])) (Tryz.f157.body.getD .skip) (finQ (cx [] (pfL [])) Tryz.f157 fun z _ _=>z=bv (decide (1<mixN q l))) ⟨e,roH h,n⟩:=fun e q0 q1=>by
  simp[evx,Tryz.f157,q0,q1,ii,ss,bv,s1,s2,s4,o1,o2,o3,p2,p3]
  refine awp_loop (fun s=>∃(j u v:Nat),j≤l.length∧s.e 2=.p n 0 0∧s.e 5=ii u∧s.e 6=ii v∧s.e 10=a1∧s.e 11=ii l.length∧s.e 12=ii j∧agree n (roH h) s.h∧s.h n=some ⟨[a,ii q.mode,ii q.after,b,ii q.within,ss q.par,c],0,true,7⟩∧u+v=mixN q (l.take j)) (fun s=>l.length-(s.e 12).i.toNat) ⟨0,0,0,by simp[up,ii,ss,agree_up,agree_refl,mixN]⟩ ?_
  rintro e' h' n' ⟨j,u,v,hj,q2,q5,q6,q10,q11,q12,hag,hb0,huv⟩
  simp only[]at q2 q5 q6 q10 q11 q12 hag hb0
  have hle:=mixN_le q (l.take j)
  rw[List.length_take]at hle
  by_cases hlt:j<l.length
  ·obtain⟨id,off,k,rfl,hk,ho,hc⟩:=is_getD f1 hlt
   have ha':=agree_at hn hk hag
   have hw:=wrap_nat (j:=j) (by omega)
   have hwu:=wrap_nat (j:=u) (by omega)
   have hwv:=wrap_nat (j:=v) (by omega)
   have hw1:off+(j+1)≤k.cells.length:=by omega
   obtain⟨hi0,hi1⟩:=hi j hlt
   have hms:=mixN_succ (q:=q) hlt
   generalize l.getD j 0=i at *
   obtain⟨m,rfl⟩:∃m:Nat,i=m:=⟨i.toNat,by omega⟩
   have hm:m<q.items.length:=by omega
   obtain⟨id2,off2,k2,ty,rfl,hk2,ho2,c0,c1,c2,c3,c4,e6⟩:=its_getD x2 hm
   have ha2:=agree_at hn hk2 hag
   have hw2:off2+(m*5+5)≤k2.cells.length:=by omega
   have hw3:off2+(m*5+1)≤k2.cells.length:=by omega
   simp only[Int.toNat_natCast]at hms
   obtain⟨it,hit⟩:∃it,q.items.getD m it0=it:=⟨_,rfl⟩
   rw[hit]at hms c0 c2 c3 c4
   clear hit
   obtain⟨ng,types,var,lo,hi⟩:=it
   have htc:touch ⟨ng,types,var,lo,hi⟩=(ng||decide (1<hi)):=rfl
   rw[htc]at hms
   simp only[]at c0 c1 c2 c3 c4
   simp only[ii,ss,bv]at c0 c1 c2 c3 c4 hb0 hc q5 q6
   cases ng with
   | true =>
    simp only[Bool.true_or,Bool.toNat_true]at hms
    simp[evx,q2,q5,q6,q10,q11,q12,ii,hlt,ha',hc,hw1,hb0,hm,ha2,c0,hw3,hw,hwu]
    exact⟨⟨j+1,by omega,u+1,by omega,v,by omega,by omega,hag,by simp[ss],by omega⟩,by omega⟩
   | false =>
    by_cases hh:1<hi
    ·simp only[Bool.false_or,hh,decide_true,Bool.toNat_true]at hms
     simp[evx,q2,q5,q6,q10,q11,q12,ii,hlt,ha',hc,hw1,hb0,hm,ha2,c0,c4,hw2,hw3,hw,hwv,hh]
     exact⟨⟨j+1,by omega,u,by omega,v+1,by omega,by omega,hag,by simp[ss],by omega⟩,by omega⟩
    ·simp only[Bool.false_or,hh,decide_false,Bool.toNat_false]at hms
     simp[evx,q2,q5,q6,q10,q11,q12,ii,hlt,ha',hc,hw1,hb0,hm,ha2,c0,c4,hw2,hw3,hw,hh]
     exact⟨⟨j+1,by omega,u,by omega,v,by omega,by omega,hag,by simp[ss],by omega⟩,by omega⟩
  ·obtain rfl:j=l.length:=by omega
   rw[List.take_length]at huv hle
   have hws:IntKind.i64.wrap ((u:Int)+v)=(u:Int)+v:=wrap_sm (by omega) (by unfold big at hl;omega)
   simp[evx,q5,q6,q11,q12,ii,hws]
   rw[←huv];omega
 exact key _ rfl rfl
end
section
def prevL (q:Qu) (t:List Nd):List Int:=usesL prevO (vars q.items) t
def aggL (q:Qu) (t:List Nd):List Int:=usesL aggO (vars q.items) t
def okWh (x:Qu×Ask):Prop:=okAsk x.2∧QuSm x.1∧x.1.items.length≤10∧(x.1.wh.length=0∨tree1 x.1.wh=true)∧x.2.2.1=x.1
def GWh:=pureH (de2 rQ rAsk) okWh fun x=>ff (whF x.2.1 x.1)
def tbWh:List (FuncId×(List AV→Heap→PRes)):=[(154,GWalk),(156,G44),(157,GMix)]
section
variable {sc:List Ty} {q:Qu} {cs:List AV} {h:Heap} {n:Nat} {a b c:AV}
structure I104 (h:Heap) (n:Nat) (a b c:AV) (q:Qu) (s:St):Prop where
 q2:s.e 2=.p n 0 0
 q4:s.e 4=.p (n+2) 0 0
 ag:agree n (roH h) s.h
 b0:s.h n=some ⟨[a,ii q.mode,ii q.after,b,ii q.within,ss q.par,c],0,true,7⟩
 b2:s.h (n+2)=some ⟨[ii 0,ii 0,ii 0,ii 0],0,true,4⟩
 nn:n+3≤s.n
 fr:Fresh s.n s.h
theorem f104a {fv:AV} (e2:deQ h (.g [a,ii q.mode,ii q.after,b,ii q.within,ss q.par,c])=some q) (e3:rAsk.run h fv=some (sc,q,cs)) (hn:∀i,n≤i→h i=none) (hak:okAsk (sc,q,cs)) (hq:QuSm q) (h0:q.wh.length≠0) (ht:tree1 q.wh=true) (s:St) (q3:s.e 3=.p (n+1) 0 0) (b1:s.h (n+1)=some ⟨[fv],0,true,1⟩) (i:I104 h n a b c q s) {Q:Ex→St→Prop}
  (hQ:(wlkW sc q).2=0→∀s,I104 h n a b c q s→Q .normal s) (hR:(wlkW sc q).2≠0→∀s:St,s.e 4=.p (n+2) 0 0→s.h (n+2)=some ⟨fcells (whF sc q),0,true,4⟩→Q .ret s) :
  awp (cx [3] (pfL tbWh)) (hdC 3 (tlC 2 (Tryz.f104.body.getD .skip))) (fun x s=>Q x s) s:=by
 obtain⟨e',h',n'⟩:=s
 obtain⟨q2,q4,hag,hb0,hb2,hnn,hfr⟩:=i
 simp only[]at q2 q3 q4 hag hb0 b1 hb2 hnn hfr
 obtain⟨a',b',c',hx,x2,x3,x4⟩:=deQ_out e2
 cases hx
 obtain⟨s1,s2,s3,s4,s5⟩:=sl_is x3
 have g3:=rd_agree hn x3 _ hag
 have gf:=rAsk.agree hn e3 _ hag
 have hfn:rFn.run h' (.f (.func 155) [] [.p (n+1) 0 0])=some (false,sc,q,cs):=by
  simp only[rFn,rAt,rC,b1,Option.bind_some,if_true,gf,Option.map_some]
 have hwl:q.wh.length*64≤140737488355328:=hq.wh
 obtain⟨j,hj⟩:∃j,q.wh.length=j+1:=⟨q.wh.length-1,by omega⟩
 have hw1:=wrapm1 (e:=j) (by unfold big;omega)
 have hpos:0<q.wh.length:=by omega
 have hWW:wlkW sc q=if (wlk sc q q.wh false).2=0∧truthT q.wh=false then ((q.wh.length:Int)-1,75)else wlk sc q q.wh false:=rfl
 have hF:whF sc q=if (wlkW sc q).2≠0 then ⟨(wlkW sc q).2,4,(wlkW sc q).1,0⟩else mixF q:=by unfold whF;rw[if_neg h0]
 have hok:okWalk (q.wh,false,sc,q,cs):=⟨hq.wh,ht,hak⟩
 have hqw:=hq.wh
 simp only[ii,ss]at hb0 hb2
 have fin:∀e2,(∀i∈[2,4],e2 i=e' i)→I104 h n a b c q ⟨e2,h',n'⟩:=fun e2 he =>
  ⟨(he 2 (by simp)).trans q2,(he 4 (by simp)).trans q4,hag,by simpa[ii,ss]using hb0,by simpa[ii]using hb2,hnn,hfr⟩
 obtain⟨⟨wi,we⟩,hwk⟩:∃x,wlk sc q q.wh false=x:=⟨_,rfl⟩
 rw[hwk]at hWW
 simp only[]at hWW
 by_cases hwe:we=0
 ·subst hwe
  cases htr:truthT q.wh with
  | true =>
   rw[htr,if_neg (by simp)]at hWW
   have hQ':=hQ (by rw[hWW])
   simp[evx,hdC,tlC,Tryz.f104,q2,q3,hb0,ii,bv,tbWh,GWalk,pureH,de2,rL,g3,hfn,hok,walkA,hwk,G44,deT,hqw,htr,hpos]
   exact hQ' _ (fin _ (by simp[up]))
  | false =>
   rw[htr,if_pos ⟨rfl,rfl⟩]at hWW
   have hR':=hR (by rw[hWW];simp)
   rw[hWW,if_pos (by simp)]at hF
   simp[evx,hdC,tlC,Tryz.f104,q2,q3,q4,hb0,hb2,ii,bv,s1,s2,tbWh,GWalk,pureH,de2,rL,g3,hfn,hok,walkA,hwk,G44,deT,hqw,htr,hpos]
   refine hR' _ ?_ ?_
   ·simp[up,q4]
   ·simp[up,fcells,hF,ii,hj]
    simpa using hw1
 ·rw[if_neg (fun h=>hwe h.1)]at hWW
  have hR':=hR (by rw[hWW];exact hwe)
  rw[hWW,if_pos hwe]at hF
  simp[evx,hdC,tlC,Tryz.f104,q2,q3,q4,hb0,hb2,ii,tbWh,GWalk,pureH,de2,rL,g3,hfn,hok,walkA,hwk,hwe]
  refine hR' _ ?_ ?_
  ·simp[up,q4]
  ·simp[up,fcells,hF,ii]
structure J104 (h:Heap) (n:Nat) (a b c:AV) (q:Qu) (k:Nat) (s:St):Prop extends I104 h n a b c q s where
 q40:∃w u,s.e 40=.s w u 0 (conjW q.wh).length∧s.h w=some ⟨(conjW q.wh).map fun x:Nat=>ii x,u,true,1⟩∧n+3≤w∧w<s.n
 q41:s.e 41=ii (conjW q.wh).length
 q42:s.e 42=ii k
 no:∀i,i<k→mixE q i=0
theorem f104b (e2:deQ h (.g [a,ii q.mode,ii q.after,b,ii q.within,ss q.par,c])=some q) (hn:∀i,n≤i→h i=none) (hq:QuSm q) (h10:q.items.length≤10) (ht:tree1 q.wh=true) (s:St) (k:Nat) (hk:k<(conjW q.wh).length) (i:J104 h n a b c q k s) {Q:Ex→St→Prop}
  (hQ:∀s,J104 h n a b c q (k+1) s→Q .normal s) (hR:(mixF q).code≠0→∀s:St,s.e 4=.p (n+2) 0 0→s.h (n+2)=some ⟨fcells (mixF q),0,true,4⟩→Q .ret s) :
  awp (cx [3] (pfL tbWh)) (bodyL (hdC 1 (tlC 5 (Tryz.f104.body.getD .skip)))) Q s:=by
 obtain⟨e',h',n'⟩:=s
 obtain⟨⟨q2,q4,hag,hb0,hb2,hnn,hfr⟩,⟨w,u,q40,hwb,hw3,hwn⟩,q41,q42,hno⟩:=i
 simp only[]at q2 q4 hag hb0 hb2 hnn hfr q40 hwb hwn q41 q42
 have g2:=q_agree hn e2
 obtain⟨a',b',c',hx,x2,x3,x4⟩:=deQ_out e2
 cases hx
 have o1:=(sl_is x2).2.2.1
 have o2:=(sl_is x3).2.2.1
 have o3:=(sl_is x4).2.2.1
 have T:=tre_of ht
 have hwl:q.wh.length*64≤140737488355328:=hq.wh
 have hcl:(conjW q.wh).length≤q.wh.length:=by
  have:=conj_len T (q.wh.length-1) (by have:=T.pos;omega)
  unfold conjW;have:=T.pos;omega
 have hkw:=wrap_nat (j:=k) (by unfold big;omega)
 have hmiss:=fun hy=>upTo_succ (p:=fun i=>mixE q i=0) hno hy
 have hhit:=fun hy:mixE q k≠0=>fstI_at (f:=mixE q) hno hy hk
 have hE:mixE q k=if 1<mixN q (bareT q (subT q.wh ((conjW q.wh).getD k 0)))then 77 else 0:=rfl
 have hMF:mixF q=if (fstI (mixE q) (conjW q.wh).length).2≠0 then ⟨77,4,((conjW q.wh).getD (fstI (mixE q) (conjW q.wh).length).1.toNat 0:Nat),0⟩else fl0:=rfl
 have hrl:(conjW q.wh).getD k 0<q.wh.length:=by
  have hm:(conjW q.wh).getD k 0∈conjW q.wh:=by rw[List.getD_eq_getElem?_getD,List.getElem?_eq_getElem hk];exact List.getElem_mem hk
  have:=(conj_all T (q.wh.length-1) (by have:=T.pos;omega)).1 _ hm
  have:=T.pos;omega
 have hcs:((conjW q.wh).map fun x:Nat=>ii x)[k]? = some (ii ((conjW q.wh).getD k 0:Nat)):=by
  rw[List.getElem?_map,List.getD_eq_getElem?_getD,List.getElem?_eq_getElem hk];rfl
 have hcln:((conjW q.wh).map fun x:Nat=>ii x).length=(conjW q.wh).length:=by simp
 generalize hcc:((conjW q.wh).map fun x:Nat=>ii x)=cells at *
 generalize hrr:(conjW q.wh).getD k 0=r at *
 have hlt':(k:Int)<((conjW q.wh).length:Int):=by omega
 simp only[ii]at hcs
 have hcj:k<cells.length:=by omega
 have hcg:cells[k]'hcj=.v (.int .i64 r):=by rw[List.getElem?_eq_getElem hcj]at hcs;exact Option.some.inj hcs
 have hk1:k+1≤(conjW q.wh).length:=hk
 simp only[ii,ss]at hb0 hb2 g2
 have e3':=rd_agree hn x3 _ hag
 have eq':=g2 _ hag
 simp[evx,hdC,tlC,bodyL,Tryz.f104,q2,q4,q40,q41,q42,ii,hwb,hcg,hcln,hk,hlt',hk1,hb0,tbWh]
 refine (acall_any (S:=[3]) (by simp) (c52 e3' ht hq.wh hrl hfr)).mono ?_
 rintro z h2 n2 ⟨a1,a2,a3,m2,rfl,hm,hm1,hm2⟩
 have rs':rd dNs h2 (.s m2 0 0 (subT q.wh r).length)=some (subT q.wh r):=flat_in Flat.nd hm rfl (r:=[]) (by simp)
 have hss:smallT (subT q.wh r):=by
  have h3:=cut_len (lo:=loOf q.wh) hrl (T.le r hrl)
  unfold smallT subT;rw[h3];exact Nat.le_trans (Nat.mul_le_mul_right 64 (by omega)) hwl
 have eq2:=deQ_sim (agr_sim hfr a1) eq'
 refine⟨keep_le (agr_le hfr a1),?_⟩
 refine (acall_any (S:=[]) (by simp) (c49 eq2 rs' (by omega) hss a2)).mono ?_
 rintro z h3 n3 ⟨c1,c2,c3,y1,y2,y3,rfl,r1,r2,r3⟩
 refine⟨keep_le (agr_le a2 c1),?_⟩
 have eq3:=deQ_sim (agr_sim a2 c1) eq2
 have hag3:agree n' h' h3:=agree_trans a1 c1 a3
 have p1:=(sl_is r1).2.2.1
 have p2:=(sl_is r2).2.2.1
 have p3:=(sl_is r3).2.2.1
 have hbl:(bareT q (subT q.wh r)).length≤q.items.length:=by
  unfold bareT usesL
  refine Nat.le_trans (List.length_filter_le _ _) ?_
  simp[vars]
 have hok:okMix (q,bareT q (subT q.wh r),prevL q (subT q.wh r),aggL q (subT q.wh r)):=by
  refine⟨hq,by simp only[];have:=hq.it;omega,fun i hi => ?_⟩
  have hmem:(bareT q (subT q.wh r)).getD i 0∈bareT q (subT q.wh r):=by
   rw[List.getD_eq_getElem?_getD,List.getElem?_eq_getElem hi];exact List.getElem_mem hi
  obtain⟨u1,u2,_⟩:=uses_is hmem
  simp only[vars,List.length_map]at u2
  exact⟨u1,u2⟩
 have hmx:GMix [.g [a,.v (.int .i64 q.mode),.v (.int .i64 q.after),b,.v (.int .i64 q.within),.v (.string q.par),c],.g [y1,y2,y3]] h3=⟨okMix (q,bareT q (subT q.wh r),prevL q (subT q.wh r),aggL q (subT q.wh r)),bv (decide (1<mixN q (bareT q (subT q.wh r))))⟩:=by
  simp only[GMix,pureH,de2,rQ,eq3,rUse,de3,rL,bareT,r1,r2,r3,Option.bind_some,Option.map_some,prevL,aggL]
  rfl
 have z2:n+2<n':=by omega
 have b0':h3 n=_:=(hag3 n (by omega)).trans hb0
 have b2':h3 (n+2)=_:=(hag3 (n+2) (by omega)).trans hb2
 have wb':h3 w=_:=(hag3 w hwn).trans hwb
 have hag4:agree n (roH h) h3:=agree_trans hag hag3 (by omega)
 by_cases hmix:1<mixN q (bareT q (subT q.wh r))
 ·rw[if_pos hmix]at hE
  have hh:=hhit (by rw[hE];decide)
  rw[hh,hE,if_pos (by simp)]at hMF
  simp only[Int.toNat_natCast,hrr]at hMF
  have hR':=hR (by rw[hMF];simp)
  simp[evx,hmx,hok,hmix,bv,b2']
  refine hR' _ ?_ ?_
  ·simp[up,q4]
  ·simp[up,fcells,hMF,ii]
 ·rw[if_neg hmix]at hE
  have hh:=hmiss hE
  simp[evx,hmx,hok,hmix,bv,hkw]
  refine hQ _ ⟨⟨by simp[up,q2],by simp[up,q4],hag4,by simpa[ii,ss]using b0',by simpa[ii]using b2',by simp only[];omega,c2⟩,⟨w,u,by simp[up,q40],by simp only[];rw[hcc];exact wb',hw3,by simp only[];omega⟩,by simp[up,q41,ii],by simp[up,ii],hh⟩
theorem P104:P0 [3] 104 GWh:=by
 refine mkH 2 (S:=[3]) (l:=tbWh) (tb_cons P154 (tb_cons P44 (tb_cons P157 tb_nil))) Tryz.func104 rfl (by kernel_rfl) de2_mono de2_len (fun a=>rfl) (fun args q h n e hp hn => ?_)
 obtain⟨x,fv,rfl,e1,e2⟩:=de2_out e
 obtain⟨q,sc,q',cs⟩:=q
 obtain⟨hak,hq,h10,hwt,hqq⟩:=hp
 simp only[]at e1 e2 hak hq h10 hwt hqq ⊢
 subst hqq
 replace e1:deQ h x=some q':=e1
 obtain⟨a,b,c,rfl,x2,x3,x4⟩:=deQ_out e1
 have o1:=(sl_is x2).2.2.2.1
 have o3:=(sl_is x4).2.2.2.1
 obtain⟨s1,s2,s3,s4,s5⟩:=sl_is x3
 obtain⟨p1,p2,p3,rfl,f1,f2,f3⟩:=rAsk_out e2
 have key:∀e:Nat→AV,e 0=.g [a,ii q'.mode,ii q'.after,b,ii q'.within,ss q'.par,c]→e 1=.f (.func 102) [] [p1,p2,p3]→awp (cx [3] (pfL tbWh)) (Tryz.f104.body.getD .skip) (finQ (cx [3] (pfL tbWh)) Tryz.f104 fun z _ _=>z=ff (whF sc q')) ⟨e,roH h,n⟩:=fun e q0 q1=>by
  have hret:∀(s:St) (f:Fl),s.e 4=.p (n+2) 0 0→s.h (n+2)=some ⟨fcells f,0,true,4⟩→resAll (cx [3] (pfL tbWh)) s Tryz.f104.results.toList∧resVal (cx [3] (pfL tbWh)) s Tryz.f104.results.toList=ff f:=fun s f h4 hb=>by
   simp[evx,Tryz.f104,h4,hb,fcells,ff]
  by_cases h0:q'.wh.length=0
  ·have hF:whF sc q'=fl0:=by unfold whF;rw[if_pos h0]
   simp[evx,Tryz.f104,q0,q1,ii,ss,s1,s2,s4,o1,o3,h0,hF,ff,fcells,fl0]
  ·have ht:=hwt.resolve_left h0
   refine awp_cut 2 _ _ (R:=fun s=>s.e 3=.p (n+1) 0 0∧s.h (n+1)=some ⟨[.f (.func 102) [] [p1,p2,p3]],0,true,1⟩∧I104 h n a b c q' s) ?_ fun y1 h1 n1 ⟨q3,b1,i1⟩ => ?_
   ·simp[evx,hdC,Tryz.f104,q0,q1,ii,ss,s1,s2,s4,o1,o3,h0]
    exact⟨by simp[up],by simp[up],by simp[agree_up,agree_refl],by simp[up,ii,ss],by simp[up,ii],by simp,fun i hi=>by simp only[]at hi;simp only[];rw[up_ne _ _ (by omega),up_ne _ _ (by omega),up_ne _ _ (by omega)];simp[roH,hn i (by omega)]⟩
   refine awp_cut 3 _ _ (R:=fun s=>(wlkW sc q').2=0∧I104 h n a b c q' s) (f104a e1 e2 hn hak hq h0 ht _ q3 b1 i1 (fun h5 s i=>⟨h5,i⟩) fun h5 s h6 h7=>hret s _ h6 h7) fun y2 h2 n2 ⟨h5,i2⟩ => ?_
   have hF:whF sc q'=mixF q':=by unfold whF;rw[if_neg h0,if_neg (not_not_intro h5)]
   refine awp_cut 1 _ _ (R:=fun s=>(mixF q').code=0∧s.e 4=.p (n+2) 0 0∧s.h (n+2)=some ⟨[ii 0,ii 0,ii 0,ii 0],0,true,4⟩) ?_ fun y3 h3 n3 ⟨h6,q4,hb2⟩ => ?_
   ·show awp (cx [3] (pfL tbWh)) (.seq (hdC 1 (hdC 1 (tlC 5 (Tryz.f104.body.getD .skip)))) (.block 0 (.loop (bodyL (hdC 1 (tlC 5 (Tryz.f104.body.getD .skip))))))) _ _
    obtain⟨q2,q4,hag,hb0,hb2,hnn,hfr⟩:=i2
    simp only[ii,ss]at q2 q4 hag hb0 hb2 hnn hfr
    have g3:=rd_agree hn x3 _ hag
    simp[evx,hdC,tlC,Tryz.f104,q2,hb0,ii,tbWh]
    refine (acall_any (S:=[3]) (by simp) (c51 g3 ht hq.wh hfr)).mono ?_
    rintro z h3 n3 ⟨a1,a2,a3,w,u,rfl,hw,hw1,hw2⟩
    simp[evx]
    refine awp_loop (fun s=>∃k,k≤(conjW q'.wh).length∧J104 h n a b c q' k s) (fun s=>(conjW q'.wh).length-(s.e 42).i.toNat) ⟨0,by omega,⟨⟨by simp[up,q2],by simp[up,q4],agree_trans hag a1 (by omega),by simp only[];rw[a1 n (by omega)];simpa[ii,ss]using hb0,by simp only[];rw[a1 (n+2) (by omega)];simpa[ii]using hb2,by simp only[];omega,a2⟩,⟨w,u,by simp[up,conjW],hw,by omega,hw2⟩,by simp[up,ii,conjW],by simp[up,ii],by omega⟩⟩ ?_
    rintro e' h' n' ⟨k,hk,j⟩
    have j42:=j.q42
    have j41:=j.q41
    simp only[]at j42 j41
    by_cases hlt:k<(conjW q'.wh).length
    ·refine f104b e1 hn hq h10 ht _ k hlt j (fun s j' => ?_) fun h7 s h8 h9 => ?_
     ·have j42':=j'.q42
      simp only[thenQ_n]
      refine⟨⟨k+1,by omega,j'⟩,?_⟩
      rw[j42,j42']
      simp[ii,AV.i];omega
     ·simp only[thenQ_r,blockQ_r,finQ_r]
      have:=hret s (whF sc q') h8 (by rw[hF];exact h9)
      exact this
    ·obtain rfl:k=(conjW q'.wh).length:=by omega
     have j4:=j.q4
     have jb:=j.b2
     simp only[]at j4 jb
     have hmf:(mixF q').code=0:=by unfold mixF;rw[fstI_none j.no];rfl
     simp[evx,bodyL,j41,j42,ii]
     exact⟨hmf,j4,by simpa[ii]using jb⟩
   ·simp only[]at q4 hb2
    have hm:mixF q'=fl0:=(mixF_ok h6).1
    simp[evx,tlC,Tryz.f104,q4,hb2,ii,hF,hm,fl0,ff,fcells]
 exact key _ rfl rfl
end
end
end Go.Proofs.YtbffkkeieihpdaaGreatDoor
