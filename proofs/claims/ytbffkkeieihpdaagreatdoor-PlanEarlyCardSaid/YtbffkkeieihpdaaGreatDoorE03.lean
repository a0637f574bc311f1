import Derived.Test.YtbffkkeieihpdaaGreatDoorE02
import Derived.Laws.Slices
set_option linter.unusedSimpArgs false
set_option linter.unusedVariables false
set_option linter.constructorNameAsVariable false
set_option maxRecDepth 100000
set_option maxHeartbeats 4000000
namespace Go.Eng
open Go Go.RowKit
section
variable {X:Ctx} {K:Nat→Prop} {w0:World} {ρ:Ren} {F:Nat→Prop} {h:Heap} {w:World} {i:Nat} {hb:Bool}
theorem Rel.bump (r:Rel X K w0 ρ F h w) {id:Nat} {k k':Blk} {pl:zRu} {w':World} (hk:h id=some k) (hrw:k.rw=true) (hv:k'.ver=k.ver+1)
  (hold:∀j,j<w.heap.size→(∀p1,ρ id k.ver=some p1→zFq p1≠some j)→w'.heap[j]? = w.heap[j]?)
  (hpl:∀b,zFq pl=some b→w.heap.size≤b∨∃p1,ρ id k.ver=some p1∧zFq p1=some b)
  (hblk:∀ρ':Ren,ρ.le ρ'→ρ' id k'.ver=some pl→BlkRel ρ' w' id k') (hsz:w.heap.size≤w'.heap.size) (hos:w'.os=w.os) (ht:w'.tape=w.tape) (ho:w'.output=w.output) :
  ∃ρ':Ren,ρ.le ρ'∧ρ' id k'.ver=some pl∧Rel X K w0 ρ' F (up h id (some k')) w':=by
 let ρ':Ren:=fun j v=>if j=id∧v=k.ver+1 then some pl else ρ j v
 have hnone:=r.vers id k hk hrw;have hle:ρ.le ρ':=fun j v x e=>by
  by_cases hj:j=id∧v=k.ver+1
  ·rw[hj.1,hj.2,hnone _ (by omega)]at e;cases e
  ·simp[ρ',hj,e]
 have hid:ρ' id k'.ver=some pl:=by simp[ρ',hv]
 have hne:∀j,j≠id→ρ' j=ρ j:=fun j hj=>by funext v;simp[ρ',hj]
 have hmine:∀j,K j→∀p1,ρ id k.ver=some p1→zFq p1≠some j:=fun j hj p1 e e2=>r.mine id k j p1 hk hrw e e2 hj
 refine⟨ρ',hle,hid,⟨hos.trans r.os,ht.trans r.tape,ho.trans r.output,xL r.size hsz,?_,?_,?_,?_,?_,?_,?_,?_⟩⟩
 ·intro j hj
  rw[hold j (r.kold j hj) (hmine j hj)];exact r.keep j hj
 ·intro j hj;exact Nat.lt_of_lt_of_le (r.kold j hj) hsz
 ·intro g cs hg
  obtain⟨g1,arr2,el2,fr2,g2,g3⟩:=r.glob g cs hg;exact⟨g1,arr2,el2,fr2,by rw[hold g (r.kold g g1) (hmine g g1)];exact g2,g3⟩
 ·intro j kj hj
  by_cases e:j=id
  ·subst e
   simp only[zJ,Option.some.injEq]at hj;subst hj;exact hblk ρ' hle hid
  ·rw[zP _ _ e]at hj
   have hb:=r.blk j kj hj;refine hb.mono hle fun b2 p2 hp2 hb2=>hold b2 (hb.lt hp2 hb2) fun p1 e1 e2 => ?_
   exact e (r.apart id j k kj b2 p1 p2 hk hrw hj e1 hp2 e2 hb2).symm
 ·intro a b ka kb blk p1 p2 ha hrwa hb hpa hpb hb1 hb2
  by_cases ea:a=id
  ·by_cases eb:b=id
   ·rw[ea,eb]
   ·exfalso
    subst ea;simp only[zJ,Option.some.injEq]at ha;subst ha;rw[hid]at hpa;rw[zP _ _ eb]at hb;rw[hne b eb]at hpb;rcases hpl blk (by rw[Option.some.inj hpa];exact hb1)with hn|⟨q1,e1,e2⟩
    ·have:=(r.blk b kb hb).lt hpb hb2;omega
    ·exact eb (r.apart a b k kb blk q1 p2 hk hrw hb e1 hpb e2 hb2).symm
  ·rw[zP _ _ ea]at ha
   rw[hne a ea]at hpa;by_cases eb:b=id
   ·exfalso
    subst eb;simp only[zJ,Option.some.injEq]at hb;subst hb;rw[hid]at hpb;rcases hpl blk (by rw[Option.some.inj hpb];exact hb2)with hn|⟨q1,e1,e2⟩
    ·have:=(r.blk a ka ha).lt hpa hb1;omega
    ·exact ea (r.apart a b ka k blk p1 q1 ha hrwa hk hpa e1 hb1 e2)
   ·rw[zP _ _ eb]at hb
    rw[hne b eb]at hpb;exact r.apart a b ka kb blk p1 p2 ha hrwa hb hpa hpb hb1 hb2
 ·intro a ka b p1 ha hrwa hpa hb1
  by_cases ea:a=id
  ·subst ea
   simp only[zJ,Option.some.injEq]at ha;subst ha;rw[hid]at hpa;rcases hpl b (by rw[Option.some.inj hpa];exact hb1)with hn|⟨q1,e1,e2⟩
   ·intro hkb;have:=r.kold b hkb;omega
   ·exact r.mine a k b q1 hk hrw e1 e2
  ·rw[zP _ _ ea]at ha
   rw[hne a ea]at hpa;exact r.mine a ka b p1 ha hrwa hpa hb1
 ·intro j hj
  obtain⟨f1,f2⟩:=r.free j hj;have hne':j≠id:=fun e=>by subst e;rw[f2]at hk;cases hk
  exact⟨fun ver=>by rw[hne j hne'];exact f1 ver,by rw[zP _ _ hne'];exact f2⟩
 ·intro j kj hj hrj ver hver
  by_cases e:j=id
  ·subst e
   simp only[zJ,Option.some.injEq]at hj;subst hj;have h1:ver≠k.ver+1:=by omega
   simp only[ρ',h1,and_false,if_false];exact hnone ver (by omega)
  ·rw[zP _ _ e]at hj
   rw[hne j e];exact r.vers j kj hj hrj ver hver
theorem sl_out (r:Rel X K w0 ρ F h w) {x:AV} {y:Value} {sz:Nat} (hsz:0<sz) (hy:VR ρ x y) (hx:x.isS) (hs:sls h x 0 (x.slen*sz)) :
  ∃base c news,y=.slice base x.slen c∧news.length=x.slen*sz∧VRs ρ (slc h x 0 (x.slen*sz)) news∧(∀v∈news,v.oneCell'=true)∧
   ((base=none∧x.slen=0)∨∃a:Addr,base=some a∧∀(j:Nat) v,news[j]? = some v→w.cell? (a.add j)=some v):=by
 cases x with
 | s id ver off len =>
  simp only[VR]at hy;obtain⟨a,c,c',off',hp,hlc,_,hoff,hnz,rfl⟩:=hy;simp only[sls,AV.slen]at hs;cases hk:h id with
  | none=>simp[hk]at hs
  | some k =>
   simp only[hk,yQ]at hs;obtain⟨rfl,hlen⟩:=hs;simp only[AV.slen,slc,hk,yL];rcases r.blk id k hk with ⟨b',base',cap',arr,el,fr,g1,g2,_,g4⟩|⟨g1,g2⟩|⟨_,_,_,g1,_⟩
   ·rw[hp]at g1
    cases g1;by_cases h0:len=0
    ·subst h0
     exact⟨_,c',[],rfl,by simp,by simp[VRs],by simp,.inr ⟨_,rfl,by simp⟩⟩
    ·obtain rfl:=hoff (.inl (by omega))
     have hka:base'+k.cells.length≤arr.size:=by
      by_cases hq:base'+k.cells.length≤arr.size
      ·exact hq
      ·have hpos:0<len*sz:=Nat.mul_pos (by omega) hsz
       obtain⟨v,v1,_⟩:=g4 (k.cells.length-1) _ (zA (by omega))
       rw[wK (by omega)]at v1;cases v1
     have hvs:VRs ρ ((k.cells.drop off').take (len*sz)) ((arr.toList.drop (base'+off')).take (len*sz)):=VRs.mk (by simp;omega) fun q cc v h1 h2=>by
      have hq:q<len*sz:=by
       by_cases hq:q<len*sz
       ·exact hq
       ·rw[zG (by simp;omega)]at h1;cases h1
      rw[zY hq,xA]at h1 h2;obtain⟨u,u1,u2,_⟩:=g4 _ _ h1;rw[xC,xD,u1]at h2;cases h2;exact u2
     refine⟨_,c',(arr.toList.drop (base'+off')).take (len*sz),rfl,by simp;omega,hvs,fun v hv => ?_,.inr ⟨_,rfl,fun q v hv => ?_⟩⟩
     ·obtain⟨q,hq⟩:=zE5 hv
      have hql:q<len*sz:=by
       by_cases hq':q<len*sz
       ·exact hq'
       ·rw[zG (by simp;omega)]at hq;cases hq
      rw[zY hql,xA]at hq;obtain⟨u,u1,_,u3⟩:=g4 (off'+q) k.cells[off'+q] (zA (by omega))
      rw[xC,xD,u1]at hq;cases hq;exact u3
     ·have hql:q<len*sz:=by
       by_cases hq':q<len*sz
       ·exact hq'
       ·rw[zG (by simp;omega)]at hv;cases hv
      rw[zY hql,xA,xC]at hv;rw[Addr.add_mid];simp only[World.cell?,g2];simpa using hv
   ·rw[hp]at g1
    cases g1;have h0:len=0:=by
     rw[g2]at hlen;simp at hlen;rcases Nat.eq_zero_or_pos len with h1|h1
     ·exact h1
     ·have:=Nat.mul_pos h1 hsz;omega
    subst h0;exact⟨none,c',[],rfl,by simp,by simp[VRs],by simp,.inl ⟨rfl,rfl⟩⟩
   ·rw[hp]at g1
    cases g1;exact absurd (hnz rfl).2 (by omega)
 | v z =>
  unfold AV.isS at hx;split at hx
  ·rename_i e;cases e
  ·rename_i n m e
   cases e;obtain⟨rfl,rfl⟩:=hx;simp only[VR]at hy;subst hy;exact⟨none,0,[],rfl,by simp[AV.slen],by simp[slc,VRs],by simp,.inl ⟨rfl,rfl⟩⟩
  ·rename_i e;cases e
  ·exact hx.elim
 | e =>
  simp only[VR]at hy;obtain⟨b,c,rfl⟩:=hy;refine⟨b,c,[],rfl,by simp[AV.slen],by simp[slc,VRs],by simp,?_⟩
  cases b with
  | none=>exact .inl ⟨rfl,rfl⟩
  | some a=>exact .inr ⟨a,rfl,by simp⟩
 | _=>simp[AV.isS]at hx
theorem zBz {P:Program} (w:World) (t ty e:TypeId) (j:TypeInfo) (ht:P.underlying t=some (.slice e)) (hj:P.info? e=some j) (base:Option Addr) (n c c':Nat) (hnc:n≤c) :
  (Builtin.append_ #[t,t] ty #[.slice base n c,.slice none 0 c']).run P w=.ok (.slice base n c) w:=by
 cases base<;>simp[Builtin.append_,run_underlying ht,sizeOf,typeInfo,hj,Builtin.lenOf,Builtin.firstCells,hnc,storeCells]
theorem zD0 {P:Program} (w:World) (t ty e:TypeId) (j:TypeInfo) (ht:P.underlying t=some (.slice e)) (hj:P.info? e=some j) (a:Addr) (c':Nat) :
  (Builtin.append_ #[t,t] ty #[.slice none 0 0,.slice (some a) 0 c']).run P w=.ok (.slice none 0 0) w:=by
 simp[Builtin.append_,run_underlying ht,sizeOf,typeInfo,hj,Builtin.lenOf,Builtin.firstCells,loadCells,loadCellsFrom]
theorem zDi (z:Array Value) (n:Nat):(Builtin.zeroCells z n).toList.length=n*z.size:=by simp[Builtin.zeroCells]
theorem zVl (n:Nat) (l:List AV):(cut n l).length=min n l.length:=by
 unfold cut;split
 ·omega
 ·simp
theorem yHd {n:Nat} {l:List AV} {q:Nat} {c:AV} (h:(cut n l)[q]? = some c):l[q]? = some c:=by
 unfold cut at h;split at h
 ·exact h
 ·rw[zCg]at h
  split at h
  ·exact h
  ·cases h
theorem zUk (r:Rel X K w0 ρ F h w) {t e ty:TypeId} (hu:X.P.underlying t=some (.slice e)) (he:TyOk X e) (hsz:0<(X.ti e).size) {id ver len:Nat} {x:AV} {y u:Value} {k:Blk} (hy:VR ρ (.s id ver 0 len) y) (hx:VR ρ x u) (hxs:x.isS)
  (hs:sls h x 0 (x.slen*(X.ti e).size)) (hk:h id=some k) (hver:k.ver=ver) (hrw:k.rw=true) (hez:k.esz=(X.ti e).size) (hcl0:len*(X.ti e).size≤k.cells.length)
  (hb1:(len+x.slen)*(X.ti e).bytes≤140737488355328) (hb2:len+x.slen≤9223372036854775807) (sd:Prop) :
  Out X K w0 ρ F i hb (do pure (.value (←Builtin.append_ #[t,t] ty #[y,u]))) w ⟨sd,.s id (ver+1) 0 (len+x.slen),up h id (some {k with cells:=cut (len*(X.ti e).size) k.cells++slc h x 0 (x.slen*(X.ti e).size),ver:=ver+1})⟩:=by
 subst hver;obtain⟨kc,hkc⟩:∃kc,kc=cut (len*(X.ti e).size) k.cells:=⟨_,rfl⟩;have hcl:kc.length=len*(X.ti e).size:=by rw[hkc,zVl];omega
 have hsub:∀(q:Nat) c,kc[q]? = some c→k.cells[q]? = some c:=fun q c hq=>by rw[hkc]at hq;exact yHd hq
 rw[←hkc];obtain⟨j,z,hj,hjs,hjb,hz,hzc⟩:=he.info;have hzs:z.cells.size=(X.ti e).size:=by rw[←xN,hzc];exact he.zlen
 obtain⟨base,c,news,rfl,hnl,hnv,hn1,hnb⟩:=sl_out r hsz hx hxs hs;simp only[VR]at hy;obtain⟨pa,pc,c',off',hp,hlc,hcc,hoff,hnz,rfl⟩:=hy;obtain rfl:=hcc trivial;obtain rfl:=hoff (.inr trivial);have fin:∀(nx:Value) (w':World) (pl:zRu),(Builtin.append_ #[t,t] ty #[.slice (pa.map fun q=>⟨q.1,q.2+0,none⟩) len c',.slice base x.slen c]).run X.P w=.ok nx w'→
   (∀j,j<w.heap.size→(∀p1,ρ id k.ver=some p1→zFq p1≠some j)→w'.heap[j]? = w.heap[j]?)→
   (∀b,zFq pl=some b→w.heap.size≤b∨∃p1,ρ id k.ver=some p1∧zFq p1=some b)→
   (∀ρ':Ren,ρ.le ρ'→ρ' id (k.ver+1)=some pl→BlkRel ρ' w' id {k with cells:=kc++slc h x 0 (x.slen*(X.ti e).size),ver:=k.ver+1})→w.heap.size≤w'.heap.size→w'.os=w.os→w'.tape=w.tape→w'.output=w.output→
   (∃c2,nx=.slice (pl.1.map fun q=>⟨q.1,q.2+0,none⟩) (len+x.slen) c2∧len+x.slen≤c2∧pl.2=c2∧(pl.1=none→len+x.slen=0∧pl.2=0))→
   Out X K w0 ρ F i hb (do pure (.value (←Builtin.append_ #[t,t] ty #[.slice (pa.map fun q=>⟨q.1,q.2+0,none⟩) len c',.slice base x.slen c]))) w ⟨sd,.s id (k.ver+1) 0 (len+x.slen),up h id (some {k with cells:=kc++slc h x 0 (x.slen*(X.ti e).size),ver:=k.ver+1})⟩:=by
  intro nx w' pl hrun h1 h2 h3 h4 h5 h6 h7 ⟨c2,e1,e2,e3,e4⟩;obtain⟨ρ',q1,q2,q3⟩:=Rel.bump (k':={k with cells:=kc++slc h x 0 (x.slen*(X.ti e).size),ver:=k.ver+1}) r hk hrw rfl h1 h2 h3 h4 h5 h6 h7
  refine⟨.value nx,w',ρ',by rw[Sem.run_bind,hrun];rfl,q1,q3.anti fun _ hq=>hq.1,.inl ⟨nx,rfl,?_⟩⟩
  simp only[VR];exact⟨pl.1,pl.2,c2,0,q2,e2,fun _=>e3.symm,fun _=>rfl,e4,e1⟩
 have hgrow:∀(old:List Value) (nc:Nat),len+x.slen≤nc→VRs ρ kc old→(∀v∈old,v.oneCell'=true)→∀ρ':Ren,ρ.le ρ'→ρ' id (k.ver+1)=some (some (w.heap.size,0),nc)→
   BlkRel ρ' (w.drew.alloc (.cells (old.toArray++news.toArray++Builtin.zeroCells z.cells (nc-(len+x.slen))) e)) id {k with cells:=kc++slc h x 0 (x.slen*(X.ti e).size),ver:=k.ver+1}:=by
  intro old nc hnc hold ho1 ρ' hle hpl;refine .inl ⟨w.heap.size,0,nc,_,e,(0,0),hpl,heap_alloc_new w.drew _,fun _=>⟨rfl,rfl,?_⟩,fun q cc hq => ?_⟩
  ·have hol:=hold.length
   simp only[Array.size_append,zCr,size_zeroCells,hzs,hnl,hol,hcl,hez,←Nat.add_mul];congr 1;omega
  ·have hap:VRs ρ (kc++slc h x 0 (x.slen*(X.ti e).size)) (old++news):=VRs.append hold hnv
   obtain⟨v,v1,v2⟩:=hap.get q cc hq;refine⟨v,?_,VR.mono hle _ _ v2,?_⟩
   ·have hlt:q<(old++news).length:=by
     by_cases hq':q<(old++news).length
     ·exact hq'
     ·rw[zG (by omega)]at v1;cases v1
    simp only[yQ];rw[Array.getElem?_append_left (by simpa using hlt)]
    simpa using v1
   ·rcases wB.1 (xW v1)with hm|hm
    ·exact ho1 v hm
    ·exact hn1 v hm
 rcases r.blk id k hk with ⟨b,base',cap',arr,el,fr,g1,g2,g3,g4⟩|⟨g1,g2⟩|⟨_,_,_,g1,_⟩
 ·rw[hp]at g1
  cases g1;obtain⟨rfl,rfl,harr⟩:=g3 hrw;replace g4:=fun (q:Nat) c hq=>g4 q c (hsub q c hq)
  have hka:kc.length≤arr.size:=by
   by_cases hq:kc.length≤arr.size
   ·exact hq
   ·obtain⟨v,v1,_⟩:=g4 arr.size _ (zA (by omega))
    simp at v1
  have hola:VRs ρ kc (arr.toList.take kc.length):=VRs.mk (by simp;omega) fun q cc v h1 h2=>by
   obtain⟨u,u1,u2,_⟩:=g4 _ _ h1;have hq:q<kc.length:=by
    by_cases hq:q<kc.length
    ·exact hq
    ·rw[zG (by omega)]at h1;cases h1
   rw[zY hq,xC]at h2;rw[yQ,h2]at u1;cases u1;exact u2
  have hol1:∀v∈arr.toList.take kc.length,v.oneCell'=true:=fun v hv=>by
   obtain⟨q,hq⟩:=zE5 hv;have hql:q<kc.length:=by
    by_cases hq':q<kc.length
    ·exact hq'
    ·rw[zG (by simp;omega)]at hq;cases hq
   obtain⟨u,u1,_,u3⟩:=g4 q _ (zA hql);rw[zY hql,xC]at hq;rw[yQ,hq]at u1;cases u1;exact u3
  rcases hnb with ⟨rfl,h0⟩|⟨ad,rfl,had⟩
  ·-- nothing is appended
   have hnil:news=[]:=zU (by rw[hnl,h0];simp)
   refine fin _ w (some (b,0),c') (by rw[h0];exact zBz w t ty e j hu hj _ len c' c hlc) (fun _ _ _=>rfl) (fun b1 e1=>.inr ⟨_,hp,e1⟩) (fun ρ' hle hpl => ?_) (zC _) rfl rfl rfl ⟨c',by simp[h0],by omega,rfl,(fun e=>by cases e)⟩
   have hsl:slc h x 0 (x.slen*(X.ti e).size)=[]:=by have:=hnv.length;rw[hnil]at this;exact zU this.symm
   rw[hsl,List.append_nil];exact .inl ⟨b,0,c',arr,el,(0,0),hpl,g2,fun _=>⟨rfl,rfl,harr⟩,fun q cc hq=>by
    obtain⟨v,v1,v2,v3⟩:=g4 q cc hq;exact⟨v,v1,VR.mono hle _ _ v2,v3⟩⟩
  ·by_cases hroom:len+x.slen≤c'
   ·-- there is room
    have g2':w.heap[b]? = some (.cells arr el (0,0)):=g2;have hfit:len*j.size+news.length≤arr.size:=by rw[hnl,hjs,harr,hez,←Nat.add_mul];exact yU _ hroom
    have hr:(Builtin.append_ #[t,t] ty #[.slice (some ⟨b,0,none⟩) len c',.slice (some ad) x.slen c]).run X.P w=.ok (.slice (some ⟨b,0,none⟩) (len+x.slen) c') (w.setRow b (arr.toList.take (len*j.size)++news++arr.toList.drop (len*j.size+news.length)).toArray):=by
     have hf:=run_firstCells_some (P:=X.P) w j.size x.slen ad x.slen c news (by rw[hjs];exact hnl) had
     have hst:=run_storeCells_at X.P b (len*j.size) el news 0 arr w g2' (by simpa using hfit) hn1
     simp only[yL]at hst;have hadd:(⟨b,0,none⟩:Addr).add (len*j.size)=⟨b,len*j.size,none⟩:=by rw[Addr.add_mid,yQ]
     simp[Builtin.append_,run_underlying hu,sizeOf,typeInfo,hj,Builtin.lenOf,hroom,hf,hadd,hst]
    refine fin _ _ (some (b,0),c') (by simpa using hr) (fun q _ hq=>setRow_other w b q _ (fun e1=>hq _ hp (by rw[e1];rfl))) (fun b1 e1=>.inr ⟨_,hp,e1⟩) (fun ρ' hle hpl => ?_) (by simp[World.setRow]) rfl rfl rfl ⟨c',by simp,hroom,rfl,(fun e=>by cases e)⟩
    refine .inl ⟨b,0,c',_,el,(0,0),hpl,setRow_heap w b arr _ el _ g2',fun _=>⟨rfl,rfl,?_⟩,fun q cc hq => ?_⟩
    ·simp only[zCr,zM,zW,yS,xN]
     rw[←harr];omega
    ·have hap:VRs ρ (kc++slc h x 0 (x.slen*(X.ti e).size)) (arr.toList.take kc.length++news):=VRs.append hola hnv
     obtain⟨v,v1,v2⟩:=hap.get q cc hq;have hmem:=xW v1;refine⟨v,?_,VR.mono hle _ _ v2,?_⟩
     ·simp only[yQ,zBq]
      rw[hjs,←hcl];have hlt:q<(arr.toList.take kc.length++news).length:=by
       by_cases hq':q<(arr.toList.take kc.length++news).length
       ·exact hq'
       ·rw[zG (by omega)]at v1;cases v1
      rw[←xT,zL hlt];exact v1
     ·rcases wB.1 hmem with hm|hm
      ·exact hol1 v hm
      ·exact hn1 v hm
   ·-- it moves
    have hr:=run_append_grow (P:=X.P) w t ty e j z hu hj hz ⟨b,0,none⟩ len c' (arr.toList.take kc.length) (by simp[hjs,←hcl];omega) (fun q v hv=>by
     have hql:q<kc.length:=by
      by_cases hq':q<kc.length
      ·exact hq'
      ·rw[zG (by simp;omega)]at hv;cases hv
     rw[zY hql,xC]at hv;rw[Addr.add_mid];simp only[World.cell?,g2];simpa using hv) ad x.slen c news (by rw[hjs];exact hnl) had (by omega) (by omega) (growslice_fits (by omega) (by rw[hjb];exact hb1))
    have hge:=grownCap_ge w (len+x.slen) c' e;refine fin _ _ (some (w.heap.size,0),grownCap w (len+x.slen) c' e) (by simpa using hr) (fun q hq _=>heap_alloc_old w.drew _ q hq) (fun b1 e1=>.inl (by cases e1;exact zC _)) (fun ρ' hle hpl=>hgrow _ _ hge hola hol1 ρ' hle hpl) (by simp) rfl rfl rfl ⟨_,by simp,hge,rfl,(fun e=>by cases e)⟩
 ·rw[hp]at g1
  cases g1;have g2:kc=[]:=by rw[hkc,g2];rfl
  have hl0:len=0:=by
   rw[g2,zAc]at hcl;rcases Nat.mul_eq_zero.1 hcl.symm with h1|h1
   ·exact h1
   ·omega
  subst hl0;rcases hnb with ⟨rfl,h0⟩|⟨ad,rfl,had⟩
  ·have hnil:news=[]:=zU (by rw[hnl,h0];simp)
   have hsl:slc h x 0 (x.slen*(X.ti e).size)=[]:=by have:=hnv.length;rw[hnil]at this;exact zU this.symm
   refine fin _ w (none,0) (by rw[h0];exact zBz w t ty e j hu hj _ 0 0 c (zC _)) (fun _ _ _=>rfl) (fun b1 e1=>by cases e1) (fun ρ' hle hpl=>.inr (.inl ⟨hpl,by simp[hsl,g2]⟩)) (zC _) rfl rfl rfl ⟨0,by simp[h0],by omega,rfl,fun _=>⟨by omega,rfl⟩⟩
  ·by_cases h0:x.slen=0
   ·have hnil:news=[]:=zU (by rw[hnl,h0];simp)
    have hsl:slc h x 0 (x.slen*(X.ti e).size)=[]:=by have:=hnv.length;rw[hnil]at this;exact zU this.symm
    refine fin _ w (none,0) (by rw[h0];exact zD0 w t ty e j hu hj ad c) (fun _ _ _=>rfl) (fun b1 e1=>by cases e1) (fun ρ' hle hpl=>.inr (.inl ⟨hpl,by simp[hsl,g2]⟩)) (zC _) rfl rfl rfl ⟨0,by simp[h0],by omega,rfl,fun _=>⟨by omega,rfl⟩⟩
   ·have hr:=run_append_nil (P:=X.P) w t ty e j z hu hj hz ad x.slen c news (by rw[hjs];exact hnl) had (by omega) (by omega) (by rw[hjb];rw[yQ]at hb1;omega)
    have hge:=grownCap_ge w x.slen 0 e;refine fin _ _ (some (w.heap.size,0),grownCap w x.slen 0 e) (by simpa using hr) (fun q hq _=>heap_alloc_old w.drew _ q hq) (fun b1 e1=>.inl (by cases e1;exact zC _)) (fun ρ' hle hpl => ?_) (by simp) rfl rfl rfl ⟨_,by simp,by omega,rfl,(fun e=>by cases e)⟩
    have:=hgrow [] (grownCap w x.slen 0 e) (by omega) (by simp[g2,VRs]) (by simp) ρ' hle hpl
    simpa using this
 ·rw[hp]at g1
  cases g1;exact absurd (hnz rfl).2 (by omega)
theorem wQ {s:Sem Value} {y:Value} {P:Program} {w w':World} (hr:s.run P w=.ok y w'):(do pure (Next.value (←s)):Sem Next).run P w=.ok (.value y) w':=by rw[Sem.run_bind,hr];rfl
end
end Go.Eng
namespace Go.Eng
open Go Go.RowKit
section
variable {X:Ctx} {K:Nat→Prop} {w0:World} {ρ:Ren} {F:Nat→Prop} {h:Heap} {w:World} {i:Nat} {hb:Bool}
theorem Rel.ghost (r:Rel X K w0 ρ F h w) (hi:F i) (esz:Nat) :
  ∃ρ':Ren,ρ.le ρ'∧ρ' i 0=some (none,0)∧Rel X K w0 ρ' (fun j=>F j∧j≠i) (up h i (some ⟨[],0,true,esz⟩)) w:=by
 obtain⟨hf1,hf2⟩:=r.free i hi
 let ρ':Ren:=fun j ver=>if j=i then (if ver=0 then some (none,0)else none)else ρ j ver
 have hle:ρ.le ρ':=fun j ver x e=>by
  by_cases hj:j=i
  ·subst hj;rw[hf1]at e;cases e
  ·simp[ρ',hj,e]
 have hi':ρ' i 0=some (none,0):=by simp[ρ']
 have hj':∀j,j≠i→ρ' j=ρ j:=fun j hj=>by funext ver;simp[ρ',hj]
 have hin:∀ver p (b:Nat),ρ' i ver=some p→zFq p≠some b:=fun ver p b e e2=>by
  simp only[ρ',if_true]at e;split at e
  ·cases e;cases e2
  ·cases e
 refine⟨ρ',hle,hi',⟨r.os,r.tape,r.output,r.size,r.keep,r.kold,r.glob,?_,?_,?_,?_,?_⟩⟩
 ·intro j kj hj
  by_cases e:j=i
  ·subst e
   simp only[zJ,Option.some.injEq]at hj;subst hj;exact .inr (.inl ⟨hi',rfl⟩)
  ·rw[zP _ _ e]at hj
   exact (r.blk j kj hj).mono hle fun _ _ _ _=>rfl
 ·intro a b ka kb blk p1 p2 ha hrwa hb hpa hpb hb1 hb2
  by_cases ea:a=i
  ·subst ea;exact absurd hb1 (hin _ _ _ hpa)
  ·by_cases eb:b=i
   ·subst eb;exact absurd hb2 (hin _ _ _ hpb)
   ·rw[zP _ _ ea]at ha
    rw[zP _ _ eb]at hb;rw[hj' a ea]at hpa;rw[hj' b eb]at hpb;exact r.apart a b ka kb blk p1 p2 ha hrwa hb hpa hpb hb1 hb2
 ·intro a ka b p1 ha hrwa hpa hb1
  by_cases ea:a=i
  ·subst ea;exact absurd hb1 (hin _ _ _ hpa)
  ·rw[zP _ _ ea]at ha
   rw[hj' a ea]at hpa;exact r.mine a ka b p1 ha hrwa hpa hb1
 ·intro j ⟨hj,hne⟩
  obtain⟨f1,f2⟩:=r.free j hj;exact⟨fun ver=>by rw[hj' j hne];exact f1 ver,by rw[zP _ _ hne];exact f2⟩
 ·intro j kj hj hrj ver hv
  by_cases e:j=i
  ·subst e
   simp only[zJ,Option.some.injEq]at hj;subst hj;have:ver≠0:=by have:0<ver:=hv;omega
   simp[ρ',this]
  ·rw[zP _ _ e]at hj
   rw[hj' j e];exact r.vers j kj hj hrj ver hv
theorem zLn (r:Rel X K w0 ρ F h w) (hi:F i) {t e ty:TypeId} (hu:X.P.underlying t=some (.slice e)) (he:TyOk X e) (hsz:0<(X.ti e).size) {x:AV} {u:Value} (hx:VR ρ x u) (hxs:x.isS)
  (hs:sls h x 0 (x.slen*(X.ti e).size)) (hb1:x.slen*(X.ti e).bytes≤140737488355328) (hb2:x.slen≤9223372036854775807) (sd:Prop) :
  Out X K w0 ρ F i true (do pure (.value (←Builtin.append_ #[t,t] ty #[.slice none 0 0,u]))) w ⟨sd,.s i 0 0 x.slen,up h i (some ⟨slc h x 0 (x.slen*(X.ti e).size),0,true,(X.ti e).size⟩)⟩:=by
 obtain⟨j,z,hj,hjs,hjb,hz,hzc⟩:=he.info;have hzs:z.cells.size=(X.ti e).size:=by rw[←xN,hzc];exact he.zlen
 obtain⟨base,c,news,rfl,hnl,hnv,hn1,hnb⟩:=sl_out r hsz hx hxs hs;have nothing:x.slen=0→(Builtin.append_ #[t,t] ty #[.slice none 0 0,.slice base x.slen c]).run X.P w=.ok (.slice none 0 0) w→Out X K w0 ρ F i true (do pure (.value (←Builtin.append_ #[t,t] ty #[.slice none 0 0,.slice base x.slen c]))) w ⟨sd,.s i 0 0 x.slen,up h i (some ⟨slc h x 0 (x.slen*(X.ti e).size),0,true,(X.ti e).size⟩)⟩:=fun h0 hr=>by
  have hnil:news=[]:=zU (by rw[hnl,h0];simp)
  have hsl:slc h x 0 (x.slen*(X.ti e).size)=[]:=by have:=hnv.length;rw[hnil]at this;exact zU this.symm
  obtain⟨ρ',q1,q2,q3⟩:=Rel.ghost r hi (X.ti e).size;refine⟨_,w,ρ',wQ hr,q1,by simp only[hsl];exact q3.anti fun j hj=>⟨hj.1,hj.2 trivial⟩,.inl ⟨_,rfl,?_⟩⟩
  simp only[VR,h0];exact⟨none,0,0,0,q2,zC _,fun _=>rfl,fun _=>rfl,fun _=>⟨trivial,rfl⟩,rfl⟩
 rcases hnb with ⟨rfl,h0⟩|⟨ad,rfl,had⟩
 ·refine nothing h0 ?_
  rw[h0];exact zBz w t ty e j hu hj none 0 0 c (zC _)
 ·by_cases h0:x.slen=0
  ·refine nothing h0 ?_
   rw[h0];exact zD0 w t ty e j hu hj ad c
  ·have hr:=run_append_nil (P:=X.P) w t ty e j z hu hj hz ad x.slen c news (by rw[hjs];exact hnl) had (by omega) (by omega) (by rw[hjb];omega)
   have hge:=grownCap_ge w x.slen 0 e;have hw:(w.drew.alloc (.cells (news.toArray++Builtin.zeroCells z.cells (grownCap w x.slen 0 e-x.slen)) e))={w with heap:=w.heap.push (.cells (news++(Builtin.zeroCells z.cells (grownCap w x.slen 0 e-x.slen)).toList).toArray e),drawn:=w.drawn+1}:=by
    have hA:(news.toArray++Builtin.zeroCells z.cells (grownCap w x.slen 0 e-x.slen))=(news++(Builtin.zeroCells z.cells (grownCap w x.slen 0 e-x.slen)).toList).toArray:=by simp
    rw[hA];rfl
   rw[hw]at hr;refine Out.laid (cap:=grownCap w x.slen 0 e) r hi e hnv hn1 _ ?_ (w.drawn+1) _ (wQ hr) rfl (fun ρ' hp => ?_)
   ·rw[zM,zDi,hnl,hzs,←Nat.add_mul]
    congr 1;omega
   ·simp only[VR]
    exact⟨_,_,_,0,hp,hge,fun _=>rfl,fun _=>rfl,(fun e=>by cases e),rfl⟩
theorem zOt (r:Rel X K w0 ρ F h w) {t e:TypeId} (hu:X.P.underlying t=some (.slice e)) (he:TyOk X e) {x:AV} {y:Value} (hx:VR ρ x y) {lo hi:Option (Value)} {l hh:Int} (hlo:match lo with|some u=>∃k,u=.int k l|none=>l=0)
  (hhi:match hi with|some u=>∃k,u=.int k hh|none=>hh=(x.slen:Int)) (h0:0≤l) (h1:l≤hh) (h2:hh≤(x.slen:Int)) {z:ARes} (hz:z.h=h)
  (hv:(∃id ver off len,x=.s id ver off len∧0<(X.ti e).size∧z.val=.s id ver (off+l.toNat*(X.ti e).size) (hh.toNat-l.toNat))∨(x=.v (.slice none 0 0)∧z.val=.v (.slice none 0 0))) :
  Out X K w0 ρ F i hb (do pure (.value (←Instr.sliceAt t y lo hi none))) w z:=by
 obtain⟨j,_,hj,hjs,_⟩:=he.info;have hel:X.P.elem t=e:=by simp[Program.elem,hu]
 have hu':X.P.underlying t=some (.slice (X.P.elem t)):=by rw[hel];exact hu
 have hsz:(sizeOf (X.P.elem t)).run X.P w=.ok (X.ti e).size w:=by rw[hel,zAu hj,hjs]
 have key:∀(a:Option Addr) (cap:Nat),x.slen≤cap→(Instr.sliceAt t (.slice a x.slen cap) lo hi none).run X.P w=.ok (sliced a l.toNat hh.toNat cap (X.ti e).size) w:=fun a cap hc=>by
  rw[run_sliceAt_slice w t _ lo hi none hu'];cases lo with
  | none =>
   simp only at hlo;subst hlo;cases hi with
   | none =>
    simp only at hhi;subst hhi;rw[run_slice_all w t a x.slen cap hu',hsz];simp
   | some u =>
    obtain⟨k,rfl⟩:=hhi;rw[run_slice_h w t a x.slen cap hu' k hh h1 (by omega),hsz]
    simp
  | some v =>
   obtain⟨kl,rfl⟩:=hlo;cases hi with
   | none =>
    simp only at hhi;subst hhi;rw[run_slice_l w t a x.slen cap hu' kl l h0 h1,hsz];simp
   | some u =>
    obtain⟨k,rfl⟩:=hhi;rw[run_slice_lh w t a x.slen cap hu' kl k l hh h0 h1 (by omega),hsz]
    simp
 rcases hv with ⟨id,ver,off,len,rfl,hpos,hval⟩|⟨rfl,hval⟩
 ·simp only[VR]at hx
  obtain⟨pa,pc,c',off',hp,hlc,hcc,hoff,hnn,rfl⟩:=hx;simp only[AV.slen]at h2 key;refine Out.pure (y:=sliced _ l.toNat hh.toNat c' (X.ti e).size) r (wQ (key _ c' hlc)) hz ?_;rw[hval];simp only[VR];refine⟨pa,pc,c'-l.toNat,?_,hp,?_,?_,?_,(fun e=>by have:=hnn e;omega),?_⟩
  ·exact if c'=l.toNat then off' else off'+l.toNat*(X.ti e).size
  ·omega
  ·intro hz0
   have h5:l.toNat=0:=by
    rcases Nat.mul_eq_zero.1 (Nat.eq_zero_of_add_eq_zero_left hz0)with h6|h6
    ·exact h6
    ·omega
   rw[h5,Nat.sub_zero];exact hcc (Nat.eq_zero_of_add_eq_zero_right hz0)
  ·intro hcond
   rcases hcond with hc1|hc1
   ·have hne:c'≠l.toNat:=by omega
    rw[if_neg hne,hoff (.inl (by omega))]
   ·have h5:l.toNat=0:=by
     rcases Nat.mul_eq_zero.1 (Nat.eq_zero_of_add_eq_zero_left hc1)with h6|h6
     ·exact h6
     ·omega
    have h7:=Nat.eq_zero_of_add_eq_zero_right hc1;rw[hoff (.inr h7),h5,h7];simp
  ·simp only[sliced]
   by_cases hcl:c'=l.toNat
   ·simp[hcl]
   ·simp only[hcl,if_false]
    cases pa with
    | none=>simp
    | some q =>
     simp only[zK];rw[Addr.add_mid];simp[xD]
 ·simp only[VR]at hx
  subst hx;simp only[AV.slen]at h2 key;refine Out.pure (y:=sliced none l.toNat hh.toNat 0 (X.ti e).size) r (wQ (key none 0 (zC _))) hz ?_;rw[hval];have h5:l.toNat=0:=by omega
  have h6:hh.toNat=0:=by omega
  simp[VR,sliced,h5,h6]
abbrev vv (s:Sem Value):Sem Next:=do pure (.value (←s))
theorem yAs {op:BinOp} {k:IntKind} {a b:Int} {z:AV} (hz:binI op k a b=some z) (hdiv:isDiv op→b≠0) (xt:TypeId) (P:Program) (w:World):∃y,z=.v y∧(binOp op xt (.int k a) (.int k b)).run P w=.ok y w:=by
 cases op<;>simp only[binI,Option.some.injEq,reduceCtorEq]at hz<;>refine⟨_,hz.symm,?_⟩<;>first
   | (simp[binOp,Op.intArith,Op.intBits,Op.intCmp];done)
   | (have hb : b ≠ 0 := hdiv (by simp [isDiv])
      simp[binOp,Op.intDiv,hb];done)
theorem yAo (r:Rel X K w0 ρ F h w) {op:BinOp} {k:IntKind} {a b:Int} {z:AV} (hz:binI op k a b=some z) (hdiv:isDiv op→b≠0) (xt:TypeId) (ox oy:Operand) (sd:Prop) :
  Out X K w0 ρ F i hb (vv (do eqGuard op xt ox oy (.int k a) (.int k b);binOp op xt (.int k a) (.int k b))) w ⟨sd,z,h⟩:=by
 have heq:(eqGuard op xt ox oy (.int k a) (.int k b)).run X.P w=.ok () w:=by
  unfold eqGuard;cases op<;>simp
 obtain⟨y,rfl,hr⟩:=yAs hz hdiv xt X.P w;refine Out.pure (y:=y) r (wQ ?_) rfl (by simp only[VR])
 rw[Sem.run_bind,heq];exact hr
theorem zPs {op:BinOp} {t:TypeId} (hg:X.P.eqGuardType X.P.depth t=false) (ox oy:Operand) (xs ys:Array Value) (w:World):(eqGuard op t ox oy (.agg xs) (.agg ys)).run X.P w=.ok () w:=by
 unfold eqGuard;cases op<;>simp[hg]
end
end Go.Eng
