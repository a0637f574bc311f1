import Derived.Test.YtbffkkeieihpdaaGreatDoorE03
set_option linter.unusedSimpArgs false
set_option linter.unusedVariables false
set_option linter.constructorNameAsVariable false
set_option maxRecDepth 100000
set_option maxHeartbeats 4000000
namespace Go.Eng
open Go Go.RowKit
theorem yC5 (a b:ByteArray) (h:(a==b)=true):a=b:=by
 obtain⟨x⟩:=a;obtain⟨y⟩:=b;have:(x==y)=true:=h;rw[eq_of_beq this]
theorem zGv (e:MapEntry) (es:List MapEntry):wP (e::es)=.v e.key :: .v e.val::wP es:=rfl
theorem zRa (z:ByteArray):∀(es:List MapEntry) (i:Nat),mok (wP es)→
  (Instr.findNow .string (.string z) es i=some none∧zBn z (wP es)=none∧∀n,zEu z n (wP es)=wP es++[.v (.string z),n])∨
  ∃q n,Instr.findNow .string (.string z) es i=some (some (i+q,.int .i64 n))∧zBn z (wP es)=some (.v (.int .i64 n))∧(∃e,es[q]? = some e∧e.key=.string z)∧
   ∀v,zEu z (.v v) (wP es)=wP (es.modify q fun e=>{e with key:=.string z,val:=v})
 | [],i,_=>.inl ⟨rfl,rfl,fun n=>rfl⟩
 | e::es,i,h=>by
  obtain⟨key,val,born⟩:=e;rw[zGv]at h ⊢;simp only[]at h ⊢;obtain⟨k,n,rfl,rfl,h'⟩:∃k n,key=.string k∧val=.int .i64 n∧mok (wP es):=by
   unfold mok at h;split at h
   ·rename_i e1;cases e1
   ·rename_i e1
    simp only[List.cons.injEq,AV.v.injEq]at e1;obtain⟨rfl,rfl,rfl⟩:=e1;exact⟨_,_,rfl,rfl,h⟩
   ·exact h.elim
  cases hz:(z==k)with
  | true =>
   have hzk:=yC5 z k hz;subst hzk;refine .inr ⟨0,n,?_,?_,⟨_,rfl,rfl⟩,fun v => ?_⟩
   ·simp[Instr.findNow,Instr.sameNow,hz]
   ·simp[zBn,hz]
   ·simp[zEu,hz,wP]
  | false =>
   rcases zRa z es (i+1) h' with ⟨a1,a2,a3⟩|⟨q,m,a1,a2,⟨e,a3,a4⟩,a5⟩
   ·refine .inl ⟨?_,?_,fun m => ?_⟩
    ·simp[Instr.findNow,Instr.sameNow,hz,a1]
    ·simp[zBn,hz,a2]
    ·simp[zEu,hz,a3]
   ·refine .inr ⟨q+1,m,?_,?_,⟨e,by simpa using a3,a4⟩,fun v => ?_⟩
    ·simp[Instr.findNow,Instr.sameNow,hz,a1]
     omega
    ·simp[zBn,hz,a2]
    ·simp only[zEu,hz,a5 v]
     simp[wP]
theorem zNg (z:Int):∀(es:List MapEntry) (i:Nat),zSw (wP es)→
  (Instr.findNow (.int .i64) (.int .i64 z) es i=some none∧zCv z (wP es)=none∧∀n,zEt z n (wP es)=wP es++[.v (.int .i64 z),n])∨
  ∃q n,Instr.findNow (.int .i64) (.int .i64 z) es i=some (some (i+q,.int .i64 n))∧zCv z (wP es)=some (.v (.int .i64 n))∧(∃e,es[q]? = some e∧e.key=.int .i64 z)∧
   ∀v,zEt z (.v v) (wP es)=wP (es.modify q fun e=>{e with key:=.int .i64 z,val:=v})
 | [],i,_=>.inl ⟨rfl,rfl,fun n=>rfl⟩
 | e::es,i,h=>by
  obtain⟨key,val,born⟩:=e;rw[zGv]at h ⊢;simp only[]at h ⊢;obtain⟨k,n,rfl,rfl,h'⟩:∃k n,key=.int .i64 k∧val=.int .i64 n∧zSw (wP es):=by
   unfold zSw at h;split at h
   ·rename_i e1;cases e1
   ·rename_i e1
    simp only[List.cons.injEq,AV.v.injEq]at e1;obtain⟨rfl,rfl,rfl⟩:=e1;exact⟨_,_,rfl,rfl,h⟩
   ·exact h.elim
  cases hz:(z==k)with
  | true =>
   have hzk:=eq_of_beq hz;subst hzk;refine .inr ⟨0,n,?_,?_,⟨_,rfl,rfl⟩,fun v => ?_⟩
   ·simp[Instr.findNow,Instr.sameNow]
   ·simp[zCv]
   ·simp[zEt,wP]
  | false =>
   rcases zNg z es (i+1) h' with ⟨a1,a2,a3⟩|⟨q,m,a1,a2,⟨e,a3,a4⟩,a5⟩
   ·refine .inl ⟨?_,?_,fun m => ?_⟩
    ·simp[Instr.findNow,Instr.sameNow,hz,a1]
    ·simp[zCv,hz,a2]
    ·simp[zEt,hz,a3]
   ·refine .inr ⟨q+1,m,?_,?_,⟨e,by simpa using a3,a4⟩,fun v => ?_⟩
    ·simp[Instr.findNow,Instr.sameNow,hz,a1]
     omega
    ·simp[zCv,hz,a2]
    ·simp only[zEt,hz,a5 v]
     simp[wP]
theorem wV {P:Program} {w:World} {r:Nat} {es:Array MapEntry} {clock:Nat} (hb:w.heap[r]? = some (.map es clock)):(getObj r).run P w=.ok (.map es clock) w:=by simp[getObj,Sem.run,hb]
theorem zDu {P:Program} {w:World} {r:Nat} {es:Array MapEntry} {clock:Nat} (o:Obj) (hb:w.heap[r]? = some (.map es clock)):(setObj r o).run P w=.ok () {w with heap:=w.heap.setIfInBounds r o}:=by simp[setObj,Sem.run,hb]
section
variable {X:Ctx} {K:Nat→Prop} {w0:World} {ρ:Ren} {F:Nat→Prop} {h:Heap} {w:World} {i:Nat} {hb:Bool}
theorem zEe {P:Program} {w:World} {kt:TypeId} (hk:P.underlying kt=some .string) (b:Bool) (z:ByteArray):(Instr.checkKey b 10000 kt (.string z)).run P w=.ok () w:=by
 have key:∀m:Nat,(Instr.checkKey b (m+1) kt (.string z)).run P w=.ok () w:=fun m=>by
  rw[Instr.checkKey,Sem.run_bind,run_underlying hk];rfl
 exact key 9999
theorem zHm {P:Program} {w:World} {kt:TypeId} (hk:P.underlying kt=some (.int .i64)) (b:Bool) (z:Int):(Instr.checkKey b 10000 kt (.int .i64 z)).run P w=.ok () w:=by
 have key:∀m:Nat,(Instr.checkKey b (m+1) kt (.int .i64 z)).run P w=.ok () w:=fun m=>by
  rw[Instr.checkKey,Sem.run_bind,run_underlying hk];rfl
 exact key 9999
theorem zGr (r:Rel X K w0 ρ F h w) (hi:F i) (t:TypeId) (sd:Prop):Out X K w0 ρ F i true (do pure (Next.value (←Instr.makeMap t none))) w ⟨sd,.mv i 0,up h i (some ⟨[],0,true,0⟩)⟩:=by
 obtain⟨ρ',q1,q2,_,q4⟩:=r.newMap (w':=w.alloc (.map #[] 0)) hi rfl rfl rfl rfl;refine⟨.value (.map (some w.heap.size)),w.alloc (.map #[] 0),ρ',?_,q1,q4.anti (fun j hj=>⟨hj.1,hj.2 rfl⟩),.inl ⟨_,rfl,?_⟩⟩
 ·simp[Instr.makeMap]
 ·simp only[VR]
  exact⟨_,q2,rfl⟩
theorem zIz (r:Rel X K w0 ρ F h w) (hi:F i) {t kt vt:TypeId} (hu:X.P.underlying t=some (.map kt vt)) (k:IntKind) (m:Int) (sd:Prop):Out X K w0 ρ F i true (do pure (Next.value (←Instr.makeMap t (some (.int k m))))) w ⟨sd,.mv i 0,up h i (some ⟨[],0,true,0⟩)⟩:=by
 obtain⟨ρ',q1,q2,_,q4⟩:=r.newMap (w':=w.alloc (.map #[] 0)) hi rfl rfl rfl rfl;refine⟨.value (.map (some w.heap.size)),w.alloc (.map #[] 0),ρ',?_,q1,q4.anti (fun j hj=>⟨hj.1,hj.2 rfl⟩),.inl ⟨_,rfl,?_⟩⟩
 ·simp[Instr.makeMap,run_underlying hu,asInt,asIntOf]
 ·simp only[VR]
  exact⟨_,q2,rfl⟩
theorem zIm (r:Rel X K w0 ρ F h w) {id ver:Nat} {y:Value} (hy:VR ρ (.mv id ver) y) {k:Blk} (hk:h id=some k) (hv:k.ver=ver):∃b es cl,y=.map (some b)∧ρ id k.ver=some (none,b+1)∧w.heap[b]? = some (.map es cl)∧k.cells=wP es.toList:=by
 subst hv;simp only[VR]at hy;obtain⟨b,hp,rfl⟩:=hy;rcases r.blk id k hk with ⟨_,_,_,_,_,_,g1,_⟩|⟨g1,_⟩|⟨b',es,cl,g1,g2,g3⟩
 ·rw[hp]at g1;cases g1
 ·rw[hp]at g1;cases g1
 ·rw[hp]at g1
  cases g1;exact⟨b,es,cl,rfl,hp,g2,g3⟩
theorem zUj (r:Rel X K w0 ρ F h w) {t kt vt:TypeId} {j:TypeInfo} (hu:X.P.underlying t=some (.map kt vt)) (hku:X.P.underlying kt=some .string) (hj:X.P.info? vt=some j) (hjz:j.zero=some (.int .i64 0))
  {id ver:Nat} {y:Value} (hy:VR ρ (.mv id ver) y) {k:Blk} (hk:h id=some k) (hv:k.ver=ver) (hm:mok k.cells) (z:ByteArray) (cok:Bool) (sd:Prop) :
  Out X K w0 ρ F i hb (do pure (Next.value (←Instr.lookup t y (.string z) cok))) w ⟨sd,cond cok (.t [(zBn z k.cells).getD (.v (.int .i64 0)),.v (.bool (zBn z k.cells).isSome)]) ((zBn z k.cells).getD (.v (.int .i64 0))),h⟩:=by
 obtain⟨b,es,cl,rfl,_,g2,g3⟩:=zIm r hy hk hv;rw[g3]at hm ⊢;have hz:(zeroValue vt).run X.P w=.ok (.int .i64 0) w:=by simp[zeroValue,typeInfo,hj,hjz]
 have hck:=fun b=>zEe (w:=w) hku b z
 rcases zRa z es.toList 0 hm with ⟨a1,a2,_⟩|⟨q,n,a1,a2,_,_⟩
 ·cases cok with
  | true =>
   refine Out.pure (y:=.tuple #[.int .i64 0,.bool false]) r ?_ rfl ?_
   ·simp[Instr.lookup,run_underlying hu,wV g2,hck,Instr.findKey,run_underlying hku,a1,hz]
   ·simp only[a2,VR,cond_true]
    exact⟨[.int .i64 0,.bool false],rfl,by simp[VRs,VR]⟩
  | false =>
   refine Out.pure (y:=.int .i64 0) r ?_ rfl (by simp[a2,VR])
   simp[Instr.lookup,run_underlying hu,wV g2,hck,Instr.findKey,run_underlying hku,a1,hz]
 ·cases cok with
  | true =>
   refine Out.pure (y:=.tuple #[.int .i64 n,.bool true]) r ?_ rfl ?_
   ·simp[Instr.lookup,run_underlying hu,wV g2,hck,Instr.findKey,run_underlying hku,a1]
   ·simp only[a2,VR,cond_true]
    exact⟨[.int .i64 n,.bool true],rfl,by simp[VRs,VR]⟩
  | false =>
   refine Out.pure (y:=.int .i64 n) r ?_ rfl (by simp[a2,VR])
   simp[Instr.lookup,run_underlying hu,wV g2,hck,Instr.findKey,run_underlying hku,a1]
theorem zMu (r:Rel X K w0 ρ F h w) {t kt vt:TypeId} (hu:X.P.underlying t=some (.map kt vt)) (hku:X.P.underlying kt=some .string)
  {id ver:Nat} {y:Value} (hy:VR ρ (.mv id ver) y) {k:Blk} (hk:h id=some k) (hv:k.ver=ver) (hrw:k.rw=true) (hm:mok k.cells) (z:ByteArray) (n:Int) (sd:Prop) :
  Out X K w0 ρ F i hb (do Instr.mapUpdate t y (.string z) (.int .i64 n);pure Next.skip) w ⟨sd,.any,up h id (some {k with cells:=zEu z (.v (.int .i64 n)) k.cells})⟩:=by
 obtain⟨b,es,cl,rfl,hp,g2,g3⟩:=zIm r hy hk hv;rw[g3]at hm ⊢;have hck:=fun b=>zEe (w:=w) hku b z
 have hlt:b<w.heap.size:=by
  by_cases hq:b<w.heap.size
  ·exact hq
  ·rw[wK (by omega)]at g2;cases g2
 have fin:∀(es':Array MapEntry) (cl':Nat),(do Instr.mapUpdate t (.map (some b)) (.string z) (.int .i64 n);pure Next.skip:Sem Next).run X.P w=.ok .skip {w with heap:=w.heap.setIfInBounds b (.map es' cl')}→zEu z (.v (.int .i64 n)) (wP es.toList)=wP es'.toList→
   Out X K w0 ρ F i hb (do Instr.mapUpdate t (.map (some b)) (.string z) (.int .i64 n);pure Next.skip) w ⟨sd,.any,up h id (some {k with cells:=zEu z (.v (.int .i64 n)) (wP es.toList)})⟩:=fun es' cl' hr he=>by
  refine Out.skip hr ?_ (by simp[VR])
  refine r.setG hk hrw hp rfl rfl (.inr (.inr ⟨b,es',cl',hp,?_,he⟩)) (fun m hm => ?_) (by simp) rfl rfl rfl
  ·simp[hlt]
  ·simp only[Array.getElem?_setIfInBounds]
   rw[if_neg (fun e=>hm e.symm)]
 rcases zRa z es.toList 0 hm with ⟨a1,a2,a3⟩|⟨q,m,a1,a2,⟨e,a3,a4⟩,a5⟩
 ·refine fin (es.push ⟨.string z,.int .i64 n,cl⟩) (cl+1) ?_ ?_
  ·simp[Instr.mapUpdate,run_underlying hu,wV g2,hck,Instr.findKey,run_underlying hku,a1,zDu _ g2]
  ·rw[a3]
   simp[wP]
 ·refine fin (es.modify q fun e=>{e with key:=.string z,val:=.int .i64 n}) cl ?_ ?_
  ·have hes:es[q]? = some e:=by simpa using a3
   have hsb:Instr.sameBits 10000 (.string z) (.string z)=true:=by
    show (z==z)=true;obtain⟨x⟩:=z;show (x==x)=true;exact beq_self_eq_true x
   simp[Instr.mapUpdate,run_underlying hu,wV g2,hck,Instr.findKey,run_underlying hku,a1,hes,a4,Instr.keyThatStays,hsb,zDu _ g2]
  ·rw[a5]
   simp
theorem zQw (r:Rel X K w0 ρ F h w) {t kt vt:TypeId} {j:TypeInfo} (hu:X.P.underlying t=some (.map kt vt)) (hku:X.P.underlying kt=some (.int .i64)) (hj:X.P.info? vt=some j) (hjz:j.zero=some (.int .i64 0))
  {id ver:Nat} {y:Value} (hy:VR ρ (.mv id ver) y) {k:Blk} (hk:h id=some k) (hv:k.ver=ver) (hm:zSw k.cells) (z:Int) (cok:Bool) (sd:Prop) :
  Out X K w0 ρ F i hb (do pure (Next.value (←Instr.lookup t y (.int .i64 z) cok))) w ⟨sd,cond cok (.t [(zCv z k.cells).getD (.v (.int .i64 0)),.v (.bool (zCv z k.cells).isSome)]) ((zCv z k.cells).getD (.v (.int .i64 0))),h⟩:=by
 obtain⟨b,es,cl,rfl,_,g2,g3⟩:=zIm r hy hk hv;rw[g3]at hm ⊢;have hz:(zeroValue vt).run X.P w=.ok (.int .i64 0) w:=by simp[zeroValue,typeInfo,hj,hjz]
 have hck:=fun b=>zHm (w:=w) hku b z
 rcases zNg z es.toList 0 hm with ⟨a1,a2,_⟩|⟨q,n,a1,a2,_,_⟩
 ·cases cok with
  | true =>
   refine Out.pure (y:=.tuple #[.int .i64 0,.bool false]) r ?_ rfl ?_
   ·simp[Instr.lookup,run_underlying hu,wV g2,hck,Instr.findKey,run_underlying hku,a1,hz]
   ·simp only[a2,VR,cond_true]
    exact⟨[.int .i64 0,.bool false],rfl,by simp[VRs,VR]⟩
  | false =>
   refine Out.pure (y:=.int .i64 0) r ?_ rfl (by simp[a2,VR])
   simp[Instr.lookup,run_underlying hu,wV g2,hck,Instr.findKey,run_underlying hku,a1,hz]
 ·cases cok with
  | true =>
   refine Out.pure (y:=.tuple #[.int .i64 n,.bool true]) r ?_ rfl ?_
   ·simp[Instr.lookup,run_underlying hu,wV g2,hck,Instr.findKey,run_underlying hku,a1]
   ·simp only[a2,VR,cond_true]
    exact⟨[.int .i64 n,.bool true],rfl,by simp[VRs,VR]⟩
  | false =>
   refine Out.pure (y:=.int .i64 n) r ?_ rfl (by simp[a2,VR])
   simp[Instr.lookup,run_underlying hu,wV g2,hck,Instr.findKey,run_underlying hku,a1]
theorem zLl (r:Rel X K w0 ρ F h w) {t kt vt:TypeId} (hu:X.P.underlying t=some (.map kt vt)) (hku:X.P.underlying kt=some (.int .i64))
  {id ver:Nat} {y:Value} (hy:VR ρ (.mv id ver) y) {k:Blk} (hk:h id=some k) (hv:k.ver=ver) (hrw:k.rw=true) (hm:zSw k.cells) (z:Int) (n:Int) (sd:Prop) :
  Out X K w0 ρ F i hb (do Instr.mapUpdate t y (.int .i64 z) (.int .i64 n);pure Next.skip) w ⟨sd,.any,up h id (some {k with cells:=zEt z (.v (.int .i64 n)) k.cells})⟩:=by
 obtain⟨b,es,cl,rfl,hp,g2,g3⟩:=zIm r hy hk hv;rw[g3]at hm ⊢;have hck:=fun b=>zHm (w:=w) hku b z
 have hlt:b<w.heap.size:=by
  by_cases hq:b<w.heap.size
  ·exact hq
  ·rw[wK (by omega)]at g2;cases g2
 have fin:∀(es':Array MapEntry) (cl':Nat),(do Instr.mapUpdate t (.map (some b)) (.int .i64 z) (.int .i64 n);pure Next.skip:Sem Next).run X.P w=.ok .skip {w with heap:=w.heap.setIfInBounds b (.map es' cl')}→zEt z (.v (.int .i64 n)) (wP es.toList)=wP es'.toList→
   Out X K w0 ρ F i hb (do Instr.mapUpdate t (.map (some b)) (.int .i64 z) (.int .i64 n);pure Next.skip) w ⟨sd,.any,up h id (some {k with cells:=zEt z (.v (.int .i64 n)) (wP es.toList)})⟩:=fun es' cl' hr he=>by
  refine Out.skip hr ?_ (by simp[VR])
  refine r.setG hk hrw hp rfl rfl (.inr (.inr ⟨b,es',cl',hp,?_,he⟩)) (fun m hm => ?_) (by simp) rfl rfl rfl
  ·simp[hlt]
  ·simp only[Array.getElem?_setIfInBounds]
   rw[if_neg (fun e=>hm e.symm)]
 rcases zNg z es.toList 0 hm with ⟨a1,a2,a3⟩|⟨q,m,a1,a2,⟨e,a3,a4⟩,a5⟩
 ·refine fin (es.push ⟨.int .i64 z,.int .i64 n,cl⟩) (cl+1) ?_ ?_
  ·simp[Instr.mapUpdate,run_underlying hu,wV g2,hck,Instr.findKey,run_underlying hku,a1,zDu _ g2]
  ·rw[a3]
   simp[wP]
 ·refine fin (es.modify q fun e=>{e with key:=.int .i64 z,val:=.int .i64 n}) cl ?_ ?_
  ·have hes:es[q]? = some e:=by simpa using a3
   have hsb:Instr.sameBits 10000 (.int .i64 z) (.int .i64 z)=true:=by
    show (IntKind.i64==IntKind.i64&&z==z)=true;simp
   simp[Instr.mapUpdate,run_underlying hu,wV g2,hck,Instr.findKey,run_underlying hku,a1,hes,a4,Instr.keyThatStays,hsb,zDu _ g2]
  ·rw[a5]
   simp
theorem zNf (z:ByteArray):∀(es:List MapEntry) (i:Nat),zSv (wP es)→
  (Instr.findNow .string (.string z) es i=some none∧zBn z (wP es)=none∧∀n,zEu z n (wP es)=wP es++[.v (.string z),n])∨
  ∃q u,Instr.findNow .string (.string z) es i=some (some (i+q,u))∧zBn z (wP es)=some (.v u)∧(∃e,es[q]? = some e∧e.key=.string z)∧
   ∀v,zEu z (.v v) (wP es)=wP (es.modify q fun e=>{e with key:=.string z,val:=v})
 | [],i,_=>.inl ⟨rfl,rfl,fun n=>rfl⟩
 | e::es,i,h=>by
  obtain⟨key,val,born⟩:=e;rw[zGv]at h ⊢;simp only[]at h ⊢;obtain⟨k,rfl,h'⟩:∃k,key=.string k∧zSv (wP es):=by
   unfold zSv at h;split at h
   ·rename_i e1;cases e1
   ·rename_i e1
    simp only[List.cons.injEq,AV.v.injEq]at e1;obtain⟨rfl,rfl,rfl⟩:=e1;exact⟨_,rfl,h⟩
   ·exact h.elim
  cases hz:(z==k)with
  | true =>
   have hzk:=yC5 z k hz;subst hzk;refine .inr ⟨0,val,?_,?_,⟨_,rfl,rfl⟩,fun v => ?_⟩
   ·simp[Instr.findNow,Instr.sameNow,hz]
   ·simp[zBn,hz]
   ·simp[zEu,hz,wP]
  | false =>
   rcases zNf z es (i+1) h' with ⟨a1,a2,a3⟩|⟨q,m,a1,a2,⟨e,a3,a4⟩,a5⟩
   ·refine .inl ⟨?_,?_,fun m => ?_⟩
    ·simp[Instr.findNow,Instr.sameNow,hz,a1]
    ·simp[zBn,hz,a2]
    ·simp[zEu,hz,a3]
   ·refine .inr ⟨q+1,m,?_,?_,⟨e,by simpa using a3,a4⟩,fun v => ?_⟩
    ·simp[Instr.findNow,Instr.sameNow,hz,a1]
     omega
    ·simp[zBn,hz,a2]
    ·simp only[zEu,hz,a5 v]
     simp[wP]
theorem zQo {ρ:Ren}:∀(l:List Value),VRs ρ (l.map .v) l
 | []=>by simp[VRs]
 | x::l=>by simp only[wE,VRs,VR];exact⟨x,l,rfl,rfl,zQo l⟩
theorem yD4 {ρ:Ren} (u:Value):VR ρ (gOf (.v u)) u:=by
 unfold gOf;split
 ·rename_i e
  cases e;simp only[VR];exact⟨_,rfl,zQo _⟩
 ·simp only[VR]
theorem zTb {ρ:Ren}:∀{l:List AV} {ys:List Value},zQ8 l→VRs ρ l ys→ys=l.map AV.val
 | [],ys,_,h=>by simpa[VRs]using h
 | a::l,ys,hf,h=>by
  unfold zQ8 at hf;split at hf
  ·rename_i e;cases e
  ·rename_i x r e
   cases e;simp only[VRs,VR]at h;obtain⟨y,rest,rfl,rfl,h2⟩:=h;rw[zTb hf h2];rfl
  ·exact hf.elim
theorem zQv (r:Rel X K w0 ρ F h w) {t kt vt:TypeId} {j:TypeInfo} {zs:List Value} (hu:X.P.underlying t=some (.map kt vt)) (hku:X.P.underlying kt=some .string) (hj:X.P.info? vt=some j) (hjz:j.zero=some (.agg zs.toArray))
  {id ver:Nat} {y:Value} (hy:VR ρ (.mv id ver) y) {k:Blk} (hk:h id=some k) (hv:k.ver=ver) (hm:zSv k.cells) (z:ByteArray) (cok:Bool) (sd:Prop) :
  Out X K w0 ρ F i hb (do pure (Next.value (←Instr.lookup t y (.string z) cok))) w ⟨sd,cond cok (.t [gOf ((zBn z k.cells).getD (.g (zs.map .v))),.v (.bool (zBn z k.cells).isSome)]) (gOf ((zBn z k.cells).getD (.g (zs.map .v)))),h⟩:=by
 obtain⟨b,es,cl,rfl,_,g2,g3⟩:=zIm r hy hk hv;rw[g3]at hm ⊢;have hz:(zeroValue vt).run X.P w=.ok (.agg zs.toArray) w:=by simp[zeroValue,typeInfo,hj,hjz]
 have hck:=fun b=>zEe (w:=w) hku b z
 have hzr:VR ρ (gOf (.g (zs.map .v))) (.agg zs.toArray):=by simp only[gOf,VR];exact⟨zs,rfl,zQo zs⟩
 rcases zNf z es.toList 0 hm with ⟨a1,a2,_⟩|⟨q,n,a1,a2,_,_⟩
 ·cases cok with
  | true =>
   refine Out.pure (y:=.tuple #[.agg zs.toArray,.bool false]) r ?_ rfl ?_
   ·simp[Instr.lookup,run_underlying hu,wV g2,hck,Instr.findKey,run_underlying hku,a1,hz]
   ·simp only[a2,cond_true,Option.getD_none,Option.isSome_none]
    rw[VR];exact⟨[.agg zs.toArray,.bool false],rfl,by rw[VRs];exact⟨_,_,rfl,hzr,by simp[VRs,VR]⟩⟩
  | false =>
   refine Out.pure (y:=.agg zs.toArray) r ?_ rfl (by simp only[a2,cond_false,Option.getD_none];exact hzr)
   simp[Instr.lookup,run_underlying hu,wV g2,hck,Instr.findKey,run_underlying hku,a1,hz]
 ·cases cok with
  | true =>
   refine Out.pure (y:=.tuple #[n,.bool true]) r ?_ rfl ?_
   ·simp[Instr.lookup,run_underlying hu,wV g2,hck,Instr.findKey,run_underlying hku,a1]
   ·simp only[a2,cond_true,wM,zDv]
    rw[VR];exact⟨[n,.bool true],rfl,by rw[VRs];exact⟨_,_,rfl,yD4 n,by simp[VRs,VR]⟩⟩
  | false =>
   refine Out.pure (y:=n) r ?_ rfl (by simp only[a2,cond_false,wM];exact yD4 n)
   simp[Instr.lookup,run_underlying hu,wV g2,hck,Instr.findKey,run_underlying hku,a1]
theorem zLk (r:Rel X K w0 ρ F h w) {t kt vt:TypeId} (hu:X.P.underlying t=some (.map kt vt)) (hku:X.P.underlying kt=some .string)
  {id ver:Nat} {y:Value} (hy:VR ρ (.mv id ver) y) {k:Blk} (hk:h id=some k) (hv:k.ver=ver) (hrw:k.rw=true) (hm:zSv k.cells) (z:ByteArray) (n:Value) (sd:Prop) :
  Out X K w0 ρ F i hb (do Instr.mapUpdate t y (.string z) n;pure Next.skip) w ⟨sd,.any,up h id (some {k with cells:=zEu z (.v n) k.cells})⟩:=by
 obtain⟨b,es,cl,rfl,hp,g2,g3⟩:=zIm r hy hk hv;rw[g3]at hm ⊢;have hck:=fun b=>zEe (w:=w) hku b z
 have hlt:b<w.heap.size:=by
  by_cases hq:b<w.heap.size
  ·exact hq
  ·rw[wK (by omega)]at g2;cases g2
 have fin:∀(es':Array MapEntry) (cl':Nat),(do Instr.mapUpdate t (.map (some b)) (.string z) n;pure Next.skip:Sem Next).run X.P w=.ok .skip {w with heap:=w.heap.setIfInBounds b (.map es' cl')}→zEu z (.v n) (wP es.toList)=wP es'.toList→
   Out X K w0 ρ F i hb (do Instr.mapUpdate t (.map (some b)) (.string z) n;pure Next.skip) w ⟨sd,.any,up h id (some {k with cells:=zEu z (.v n) (wP es.toList)})⟩:=fun es' cl' hr he=>by
  refine Out.skip hr ?_ (by simp[VR])
  refine r.setG hk hrw hp rfl rfl (.inr (.inr ⟨b,es',cl',hp,?_,he⟩)) (fun m hm => ?_) (by simp) rfl rfl rfl
  ·simp[hlt]
  ·simp only[Array.getElem?_setIfInBounds]
   rw[if_neg (fun e=>hm e.symm)]
 rcases zNf z es.toList 0 hm with ⟨a1,a2,a3⟩|⟨q,m,a1,a2,⟨e,a3,a4⟩,a5⟩
 ·refine fin (es.push ⟨.string z,n,cl⟩) (cl+1) ?_ ?_
  ·simp[Instr.mapUpdate,run_underlying hu,wV g2,hck,Instr.findKey,run_underlying hku,a1,zDu _ g2]
  ·rw[a3]
   simp[wP]
 ·refine fin (es.modify q fun e=>{e with key:=.string z,val:=n}) cl ?_ ?_
  ·have hes:es[q]? = some e:=by simpa using a3
   have hsb:Instr.sameBits 10000 (.string z) (.string z)=true:=by
    show (z==z)=true;obtain⟨x⟩:=z;show (x==x)=true;exact beq_self_eq_true x
   simp[Instr.mapUpdate,run_underlying hu,wV g2,hck,Instr.findKey,run_underlying hku,a1,hes,a4,Instr.keyThatStays,hsb,zDu _ g2]
  ·rw[a5]
   simp
theorem zV9 {h:Heap} {id:Nat} {k:Blk} (hk:h id=some k):up h id (some k)=h:=by
 funext q;unfold up;split
 ·rename_i e;rw[e,hk]
 ·rfl
theorem yAn (r:Rel X K w0 ρ F h w) {t e ty:TypeId} (hu:X.P.underlying t=some (.slice e)) (he:TyOk X e) (hsz:0<(X.ti e).size) {id ver off len:Nat} {x:AV} {y u:Value} {k:Blk} (hy:VR ρ (.s id ver off len) y) (hx:VR ρ x u) (hxs:x.isS)
  (hs:sls h x 0 (x.slen*(X.ti e).size)) (hk:h id=some k) (hver:k.ver=ver) (hrw:k.rw=true) (hcl:off+len*(X.ti e).size≤k.cells.length) (sd:Prop) :
  Out X K w0 ρ F i hb (do pure (.value (←Builtin.copy_ #[t,t] ty #[y,u]))) w ⟨sd,.v (.int .i64 (min x.slen len:Nat)),up h id (some {k with cells:=wr k.cells off ((slc h x 0 (x.slen*(X.ti e).size)).take (min x.slen len*(X.ti e).size))})⟩:=by
 subst hver;obtain⟨j,z,hj,hjs,hjb,hz,hzc⟩:=he.info;obtain⟨base,c,news,rfl,hnl,hnv,hn1,hnb⟩:=sl_out r hsz hx hxs hs;simp only[VR]at hy;obtain⟨pa,pc,c',off',hp,hlc,hcc,hoff,hnz,rfl⟩:=hy;obtain⟨n,hn⟩:∃n,n=min x.slen len:=⟨_,rfl⟩;rw[←hn];have hmin:Nat.min x.slen len=n:=hn.symm;by_cases h0:n=0
 ·subst h0
  have hr:(Builtin.copy_ #[t,t] ty #[.slice (pa.map fun q=>⟨q.1,q.2+off',none⟩) len c',.slice base x.slen c]).run X.P w=.ok (.int .i64 0) w:=by
   have hf:(Builtin.firstCells j.size 0 (.slice base x.slen c)).run X.P w=.ok #[] w:=by
    cases base with
    | none=>exact run_firstCells_none w _ _ _ _
    | some ad=>exact run_firstCells_some w _ 0 ad _ _ [] (by simp) (by simp)
   cases pa with
   | none=>simp[Builtin.copy_,run_underlying hu,sizeOf,typeInfo,hj,Builtin.lenOf,hmin,hf,goInt]
   | some q=>simp[Builtin.copy_,run_underlying hu,sizeOf,typeInfo,hj,Builtin.lenOf,hmin,hf,goInt,storeCells]
  have hb0:({k with cells:=wr k.cells off ((slc h x 0 (x.slen*(X.ti e).size)).take (0*(X.ti e).size))}:Blk)=k:=by simp[wr]
  rw[hb0,zV9 hk];exact Out.pure (y:=.int .i64 0) r (by rw[Sem.run_bind,hr];rfl) rfl (by simp[VR])
 ·have hlen:0<len:=by omega
  have hsl:0<x.slen:=by omega
  obtain rfl:=hoff (.inl hlen);rcases hnb with ⟨_,hq⟩|⟨ad,rfl,had⟩
  ·omega
  rcases r.blk id k hk with ⟨b,base',cap',arr,el,fr,g1,g2,g3,g4⟩|⟨g1,g2⟩|⟨_,_,_,g1,_⟩
  ·rw[hp]at g1
   cases g1;obtain⟨rfl,rfl,harr⟩:=g3 hrw;have hka:k.cells.length≤arr.size:=by
    by_cases hq:k.cells.length≤arr.size
    ·exact hq
    ·obtain⟨v,v1,_⟩:=g4 arr.size _ (zA (by omega))
     simp at v1
   obtain⟨us,hus⟩:∃us,us=news.take (n*(X.ti e).size):=⟨_,rfl⟩;have hnx:n*(X.ti e).size≤x.slen*(X.ti e).size:=yU _ (by omega)
   have hnx2:n*(X.ti e).size≤len*(X.ti e).size:=yU _ (by omega)
   have hul:us.length=n*(X.ti e).size:=by rw[hus,zW];omega
   have hone:∀v∈us,v.oneCell'=true:=fun v hv=>hn1 v (by rw[hus]at hv;exact List.mem_of_mem_take hv)
   obtain⟨cs,hcs⟩:∃cs,cs=(slc h x 0 (x.slen*(X.ti e).size)).take (n*(X.ti e).size):=⟨_,rfl⟩;rw[←hcs];have hsll:=hnv.length;have hcsl:cs.length=n*(X.ti e).size:=by rw[hcs,zW];omega
   have hc:VRs ρ cs us:=VRs.mk (by rw[hcsl,hul]) fun q cc v h1 h2=>by
    rw[hcs,zCg]at h1;rw[hus,zCg]at h2;split at h1
    ·rename_i hq
     rw[if_pos hq]at h2;obtain⟨u,u1,u2⟩:=hnv.get _ _ h1;rw[u1]at h2;cases h2;exact u2
    ·cases h1
   have hfit:off'+0+us.length≤arr.size:=by omega
   have hst:=run_storeCells_at X.P b off' el us 0 arr w g2 hfit hone;simp only[yL]at hst;have hf:(Builtin.firstCells j.size n (.slice (some ad) x.slen c)).run X.P w=.ok us.toArray w:=run_firstCells_some w _ n ad _ _ us (by rw[hul,hjs]) fun q v hq=>had q v (by
    rw[hus,zCg]at hq;split at hq
    ·exact hq
    ·cases hq)
   have hr:(Builtin.copy_ #[t,t] ty #[.slice (some ⟨b,0+off',none⟩) len c',.slice (some ad) x.slen c]).run X.P w=.ok (.int .i64 n) (w.setRow b (arr.toList.take off'++us++arr.toList.drop (off'+us.length)).toArray):=by
    simp[Builtin.copy_,run_underlying hu,sizeOf,typeInfo,hj,Builtin.lenOf,hmin,hf,goInt,hst]
   refine⟨.value (.int .i64 n),_,ρ,wQ hr,Ren.le_refl ρ,?_,.inl ⟨_,rfl,by simp[VR]⟩⟩
   refine Rel.anti ?_ fun _ hq=>hq.1
   refine Rel.set r hk hrw hp g2 rfl hrw (arr':=(arr.toList.take off'++us++arr.toList.drop (off'+us.length)).toArray) ?_ ?_ (setRow_heap w b arr _ el _ g2) (fun m hm=>setRow_other w b m _ hm) ?_ rfl rfl rfl
   ·simp only[zCr,zM,zW,yS,xN]
    rw[←harr];omega
   ·intro m cc hm
    rw[zV5 _ _ _ _ (by omega)]at hm
    simp only[zBq];by_cases h1:m<off'
    ·rw[if_neg (by omega)]at hm
     obtain⟨v,v1,v2,v3⟩:=g4 m cc hm;refine⟨v,?_,v2,v3⟩;rw[xT,zL (by simp;omega),zY h1]
     simpa using v1
    ·by_cases h2:m<off'+cs.length
     ·rw[if_pos (by omega)]at hm
      obtain⟨v,v1,v2⟩:=hc.get _ _ hm;refine⟨v,?_,v2,hone v (xW v1)⟩;rw[xT,yG (by simp;omega),zL (by simp;omega)]
      rw[←v1];congr 1;simp;omega
     ·rw[if_neg (by omega)]at hm
      obtain⟨v,v1,v2,v3⟩:=g4 m cc hm;refine⟨v,?_,v2,v3⟩;rw[yG (by simp;omega),xA]
      rw[←v1];simp only[yQ,zM,zW,xN,xC];congr 1;omega
   ·simp[World.setRow]
  ·rw[hp]at g1
   cases g1;rw[g2,zAc]at hcl;have:=Nat.mul_pos hlen hsz;omega
  ·rw[hp]at g1
   cases g1;exact absurd (hnz rfl).2 (by omega)
theorem yE6 (r:Rel X K w0 ρ F h w) (hi:F i) {t e ty:TypeId} (hu:X.P.underlying t=some (.slice e)) (he:TyOk X e) (hsz:0<(X.ti e).size) {id ver len:Nat} {x:AV} {y u:Value} {k:Blk} (hy:VR ρ (.s id ver 0 len) y) (hx:VR ρ x u) (hxs:x.isS)
  (hs:sls h x 0 (x.slen*(X.ti e).size)) (hk:h id=some k) (hver:k.ver=ver) (hrw:k.rw=true) (hez:k.esz=(X.ti e).size) (hcl:k.cells.length=len*(X.ti e).size)
  (hb1:(len+x.slen)*(X.ti e).bytes≤140737488355328) (hb2:len+x.slen≤9223372036854775807) (sd sd':Prop) :
  Out X K w0 ρ F i true (do pure (.value (←Builtin.append_ #[t,t] ty #[y,u]))) w ⟨sd,.s id ver 0 (len+x.slen),up h id (some {k with cells:=k.cells++slc h x 0 (x.slen*(X.ti e).size)})⟩∨
  Out X K w0 ρ F i true (do pure (.value (←Builtin.append_ #[t,t] ty #[y,u]))) w ⟨sd',.s i 0 0 (len+x.slen),up h i (some ⟨k.cells++slc h x 0 (x.slen*(X.ti e).size),0,true,(X.ti e).size⟩)⟩:=by
 subst hver;obtain⟨j,z,hj,hjs,hjb,hz,hzc⟩:=he.info;have hzs:z.cells.size=(X.ti e).size:=by rw[←xN,hzc];exact he.zlen
 obtain⟨base,c,news,rfl,hnl,hnv,hn1,hnb⟩:=sl_out r hsz hx hxs hs;have hy0:=hy;simp only[VR]at hy;obtain⟨pa,pc,c',off',hp,hlc,hcc,hoff,hnz,rfl⟩:=hy;obtain rfl:=hcc trivial;obtain rfl:=hoff (.inr trivial);have hsn:x.slen=0→slc h x 0 (x.slen*(X.ti e).size)=[]:=fun h0=>zU (by rw[←hnv.length,hnl,h0,zEd])
 -- nothing is appended
 have nothing:x.slen=0→(Builtin.append_ #[t,t] ty #[.slice (pa.map fun q=>⟨q.1,q.2+0,none⟩) len c',.slice base x.slen c]).run X.P w=.ok (.slice (pa.map fun q=>⟨q.1,q.2+0,none⟩) len c') w→
   Out X K w0 ρ F i true (do pure (.value (←Builtin.append_ #[t,t] ty #[.slice (pa.map fun q=>⟨q.1,q.2+0,none⟩) len c',.slice base x.slen c]))) w ⟨sd,.s id k.ver 0 (len+x.slen),up h id (some {k with cells:=k.cells++slc h x 0 (x.slen*(X.ti e).size)})⟩:=fun h0 hr=>by
  have hk2:({k with cells:=k.cells++slc h x 0 (x.slen*(X.ti e).size)}:Blk)=k:=by rw[hsn h0,List.append_nil]
  rw[hk2,zV9 hk,h0,yL];refine Out.pure (y:=.slice (pa.map fun q=>⟨q.1,q.2+0,none⟩) len c') r ?_ rfl hy0
  rw[h0]at hr;exact wQ hr
 rcases r.blk id k hk with ⟨b,base',cap',arr,el,fr,g1,g2,g3,g4⟩|⟨g1,g2⟩|⟨_,_,_,g1,_⟩
 ·rw[hp]at g1
  cases g1;obtain⟨rfl,rfl,harr⟩:=g3 hrw;have hka:k.cells.length≤arr.size:=by
   by_cases hq:k.cells.length≤arr.size
   ·exact hq
   ·obtain⟨v,v1,_⟩:=g4 arr.size _ (zA (by omega))
    simp at v1
  have hola:VRs ρ k.cells (arr.toList.take k.cells.length):=VRs.mk (by simp;omega) fun q cc v h1 h2=>by
   obtain⟨u,u1,u2,_⟩:=g4 _ _ h1;have hq:q<k.cells.length:=by
    by_cases hq:q<k.cells.length
    ·exact hq
    ·rw[zG (by omega)]at h1;cases h1
   rw[zY hq,xC]at h2;rw[yQ,h2]at u1;cases u1;exact u2
  have hol1:∀v∈arr.toList.take k.cells.length,v.oneCell'=true:=fun v hv=>by
   obtain⟨q,hq⟩:=zE5 hv;have hql:q<k.cells.length:=by
    by_cases hq':q<k.cells.length
    ·exact hq'
    ·rw[zG (by simp;omega)]at hq;cases hq
   obtain⟨u,u1,_,u3⟩:=g4 q _ (zA hql);rw[zY hql,xC]at hq;rw[yQ,hq]at u1;cases u1;exact u3
  have hap:VRs ρ (k.cells++slc h x 0 (x.slen*(X.ti e).size)) (arr.toList.take k.cells.length++news):=VRs.append hola hnv;have hap1:∀v∈arr.toList.take k.cells.length++news,v.oneCell'=true:=fun v hv=>by
   rcases wB.1 hv with hm|hm
   ·exact hol1 v hm
   ·exact hn1 v hm
  rcases hnb with ⟨rfl,h0⟩|⟨ad,rfl,had⟩
  ·exact .inl (nothing h0 (by rw[h0];exact zBz w t ty e j hu hj _ len c' c hlc))
  ·by_cases hroom:len+x.slen≤c'
   ·-- there is room
    left;have g2':w.heap[b]? = some (.cells arr el (0,0)):=g2;have hfit:len*j.size+news.length≤arr.size:=by rw[hnl,hjs,harr,hez,←Nat.add_mul];exact yU _ hroom
    have hr:(Builtin.append_ #[t,t] ty #[.slice (some ⟨b,0,none⟩) len c',.slice (some ad) x.slen c]).run X.P w=.ok (.slice (some ⟨b,0,none⟩) (len+x.slen) c') (w.setRow b (arr.toList.take (len*j.size)++news++arr.toList.drop (len*j.size+news.length)).toArray):=by
     have hf:=run_firstCells_some (P:=X.P) w j.size x.slen ad x.slen c news (by rw[hjs];exact hnl) had
     have hst:=run_storeCells_at X.P b (len*j.size) el news 0 arr w g2' (by simpa using hfit) hn1
     simp only[yL]at hst;have hadd:(⟨b,0,none⟩:Addr).add (len*j.size)=⟨b,len*j.size,none⟩:=by rw[Addr.add_mid,yQ]
     simp[Builtin.append_,run_underlying hu,sizeOf,typeInfo,hj,Builtin.lenOf,hroom,hf,hadd,hst]
    refine⟨.value (.slice (some ⟨b,0,none⟩) (len+x.slen) c'),w.setRow b (arr.toList.take (len*j.size)++news++arr.toList.drop (len*j.size+news.length)).toArray,ρ,wQ (by simpa using hr),Ren.le_refl ρ,?_,.inl ⟨_,rfl,?_⟩⟩
    ·refine Rel.anti ?_ fun _ hq=>hq.1
     refine Rel.set r hk hrw hp g2' rfl hrw (arr':=(arr.toList.take (len*j.size)++news++arr.toList.drop (len*j.size+news.length)).toArray) ?_ (fun q cc hq => ?_) (setRow_heap w b arr _ el _ g2') (fun m hm=>setRow_other w b m _ hm) ?_ rfl rfl rfl
     ·simp only[zCr,zM,zW,yS,xN]
      rw[←harr];omega
     ·obtain⟨v,v1,v2⟩:=hap.get q cc hq
      refine⟨v,?_,v2,hap1 v (xW v1)⟩;simp only[zBq];rw[hjs,←hcl];have hlt:q<(arr.toList.take k.cells.length++news).length:=by
       by_cases hq':q<(arr.toList.take k.cells.length++news).length
       ·exact hq'
       ·rw[zG (by omega)]at v1;cases v1
      rw[zL hlt];exact v1
     ·simp[World.setRow]
    ·simp only[VR]
     exact⟨some (b,0),c',c',0,hp,hroom,fun _=>rfl,fun _=>rfl,(fun e=>by cases e),rfl⟩
   ·-- it moves
    right;have hr:=run_append_grow (P:=X.P) w t ty e j z hu hj hz ⟨b,0,none⟩ len c' (arr.toList.take k.cells.length) (by simp[hjs,←hcl];omega) (fun q v hv=>by
     have hql:q<k.cells.length:=by
      by_cases hq':q<k.cells.length
      ·exact hq'
      ·rw[zG (by simp;omega)]at hv;cases hv
     rw[zY hql,xC]at hv;rw[Addr.add_mid];simp only[World.cell?,g2];simpa using hv) ad x.slen c news (by rw[hjs];exact hnl) had (by omega) (by omega) (growslice_fits (by omega) (by rw[hjb];exact hb1))
    have hge:=grownCap_ge w (len+x.slen) c' e;have hw:(w.drew.alloc (.cells ((arr.toList.take k.cells.length).toArray++news.toArray++Builtin.zeroCells z.cells (grownCap w (len+x.slen) c' e-(len+x.slen))) e))={w with heap:=w.heap.push (.cells ((arr.toList.take k.cells.length++news)++(Builtin.zeroCells z.cells (grownCap w (len+x.slen) c' e-(len+x.slen))).toList).toArray e),drawn:=w.drawn+1}:=by
     have hA:((arr.toList.take k.cells.length).toArray++news.toArray++Builtin.zeroCells z.cells (grownCap w (len+x.slen) c' e-(len+x.slen)))=((arr.toList.take k.cells.length++news)++(Builtin.zeroCells z.cells (grownCap w (len+x.slen) c' e-(len+x.slen))).toList).toArray:=by simp
     rw[hA];rfl
    rw[hw]at hr;refine Out.laid (cap:=grownCap w (len+x.slen) c' e) r hi e hap hap1 _ ?_ (w.drawn+1) _ (wQ (by simpa using hr)) rfl (fun ρ' hp' => ?_)
    ·have hol:=hap.length
     rw[zM,zDi,hol,hzs,zM,hcl,←hnv.length,hnl,←Nat.add_mul,←Nat.add_mul];congr 1;omega
    ·simp only[VR]
     exact⟨_,_,_,0,hp',hge,fun _=>rfl,fun _=>rfl,(fun e=>by cases e),by simp⟩
 ·rw[hp]at g1
  cases g1;have hl0:len=0:=by
   rw[g2,zAc]at hcl;rcases Nat.mul_eq_zero.1 hcl.symm with h1|h1
   ·exact h1
   ·omega
  subst hl0;rcases hnb with ⟨rfl,h0⟩|⟨ad,rfl,had⟩
  ·exact .inl (nothing h0 (by rw[h0];exact zBz w t ty e j hu hj _ 0 0 c (zC _)))
  ·by_cases h0:x.slen=0
   ·exact .inl (nothing h0 (by rw[h0];exact zD0 w t ty e j hu hj ad c))
   ·right
    have hr:=run_append_nil (P:=X.P) w t ty e j z hu hj hz ad x.slen c news (by rw[hjs];exact hnl) had (by omega) (by omega) (by rw[hjb];rw[yQ]at hb1;omega)
    have hge:=grownCap_ge w x.slen 0 e;have hw:(w.drew.alloc (.cells (news.toArray++Builtin.zeroCells z.cells (grownCap w x.slen 0 e-x.slen)) e))={w with heap:=w.heap.push (.cells (news++(Builtin.zeroCells z.cells (grownCap w x.slen 0 e-x.slen)).toList).toArray e),drawn:=w.drawn+1}:=by
     have hA:(news.toArray++Builtin.zeroCells z.cells (grownCap w x.slen 0 e-x.slen))=(news++(Builtin.zeroCells z.cells (grownCap w x.slen 0 e-x.slen)).toList).toArray:=by simp
     rw[hA];rfl
    rw[hw]at hr;rw[g2,List.nil_append];refine Out.laid (cap:=grownCap w x.slen 0 e) r hi e hnv hn1 _ ?_ (w.drawn+1) _ (wQ (by simpa using hr)) rfl (fun ρ' hp' => ?_)
    ·rw[zM,zDi,hnl,hzs,←Nat.add_mul]
     congr 1;omega
    ·simp only[VR]
     exact⟨_,_,_,0,hp',by omega,fun _=>rfl,fun _=>rfl,(fun e=>by cases e),by simp⟩
 ·rw[hp]at g1
  cases g1;exact absurd (hnz rfl).2 (by omega)
end
end Go.Eng
