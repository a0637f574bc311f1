import Derived.Test.YtbffkkeieihpdaaGreatDoorE04
import Derived.Laws.StructEq
import Derived.Laws.Concat
set_option linter.unusedSimpArgs false
set_option linter.unusedVariables false
set_option linter.constructorNameAsVariable false
set_option maxRecDepth 100000
set_option maxHeartbeats 4000000
namespace Go.Eng
open Go Go.RowKit
section
variable {X:Ctx} {K:Nat→Prop} {w0:World} {ρ:Ren} {F:Nat→Prop} {h:Heap} {w:World} {i:Nat} {hp:Heap}
theorem yGs {x:AV} {y:Value} (hy:VR ρ x y) (hx:x.isS):∃a c,y=.slice a x.slen c∧(x.slen=0∨x.slen≤c):=by
 cases x with
 | s id ver off len =>
  simp only[VR]at hy;obtain⟨a,c,c',off',_,h2,_,_,_,rfl⟩:=hy;exact⟨_,_,rfl,.inr h2⟩
 | v z =>
  unfold AV.isS at hx;split at hx
  ·rename_i e;cases e
  ·rename_i n m e
   cases e;obtain⟨rfl,rfl⟩:=hx;simp only[VR]at hy;subst hy;exact⟨none,0,rfl,.inl rfl⟩
  ·rename_i e;cases e
  ·exact hx.elim
 | e =>
  simp only[VR]at hy;obtain⟨b,c,rfl⟩:=hy;exact⟨b,c,rfl,.inl rfl⟩
 | _=>simp[AV.isS]at hx
theorem zKq {x:AV} {y:Value} (hy:VR ρ x y) (hx:x.isG):∃ys:List Value,y=.agg ys.toArray∧VRs ρ x.gl ys:=by
 cases x with
 | g l=>simpa only[VR,AV.gl]using hy
 | _=>simp[AV.isG]at hx
theorem yFl {x:AV} {y:Value} (hy:VR ρ x y) (hx:x.isPtr):∃a,y=.pointer (some a):=by
 cases x with
 | p id ver off=>simp only[VR]at hy;obtain⟨b,base,c,_,rfl⟩:=hy;exact⟨_,rfl⟩
 | gp g off=>simp only[VR]at hy;exact⟨_,hy⟩
 | _=>simp[AV.isPtr]at hx
theorem zEw {op:BinOp} {t:TypeId} {y u:Value} (hy:y.oneCell'=true) (hn:y≠.nilIface) (ox oy:Operand) (P:Program) (w:World):(eqGuard op t ox oy y u).run P w=.ok () w:=by
 unfold eqGuard;cases op<;>cases y<;>simp_all[Value.oneCell']
theorem zOv {op:BinOp} {t:TypeId} {q n c} {u:Value} (ox oy:Operand) (P:Program) (w:World):(eqGuard op t ox oy (.slice q n c) u).run P w=.ok () w:=by
 unfold eqGuard;cases op<;>simp
theorem zHl {P:Program} (w:World) (xt:TypeId) (q:Option Addr) (n c m d:Nat) {el:TypeId} (hu:P.underlying xt=some (.slice el)):(Op.equal xt (.slice q n c) (.slice none m d)).run P w=.ok q.isNone w:=by
 have h:∀f:Nat,(Op.equalIn (f+1) xt (.slice q n c) (.slice none m d)).run P w=.ok q.isNone w:=fun f=>by
  cases q<;>simp[Op.equalIn,run_underlying hu]
 exact h 9999
theorem zQz {P:Program} (w:World) (xt:TypeId) (q:Option Addr) (n c m d:Nat) {el:TypeId} (hu:P.underlying xt=some (.slice el)):(binOp .eql xt (.slice q n c) (.slice none m d)).run P w=.ok (.bool q.isNone) w:=by
 simp only[binOp];simp[zHl w xt q n c m d hu]
theorem zQy {P:Program} (w:World) (xt:TypeId) (q:Option Addr) (n c m d:Nat) {el:TypeId} (hu:P.underlying xt=some (.slice el)):(binOp .neq xt (.slice q n c) (.slice none m d)).run P w=.ok (.bool (!q.isNone)) w:=by
 simp only[binOp];simp[zHl w xt q n c m d hu]
theorem zRs (ok:Ok X) (r:Rel X K w0 ρ F h w) (hi:F i) {ev:Operand→AV} {a:Operand→Value} (hv:∀x,VR ρ (ev x) (a x)) (o:Oper) (hop:∀c f,o.op=.call c→c.callee≠.value f) (hs:(aeval X o.op ev h i hp).side) :
  Out X K w0 ρ F i (heapOp o.op) (execOp a o) w (aeval X o.op ev h i hp):=by
 obtain⟨dst,op,ty,pos,after,guard⟩:=o;simp only at hs hop ⊢;cases op with
 | move x=>exact Out.pure (y:=a x) r (by simp[execOp]) rfl (hv x)
 | assign x=>exact Out.pure (y:=a x) r (by simp[execOp]) rfl (hv x)
 | pick c x y =>
  simp only[aeval]at hs ⊢;obtain⟨h1,h2,h3⟩:=hs;have e1:=zD4 (hv c) h1;cases hb:(ev c).b with
  | true =>
   have e2:=zXn (hv x) (h2 hb);exact Out.pure (y:=a x) r (by simp[execOp,e1,hb,asBool]) rfl (by simp[VR,hb,e2])
  | false =>
   have e2:=zXn (hv y) (h3 hb);exact Out.pure (y:=a y) r (by simp[execOp,e1,hb,asBool]) rfl (by simp[VR,hb,e2])
 | alloc t =>
  simp only[aeval]at hs ⊢;exact zWv r hi (ok.ty t hs) _
 | box t x =>
  simp only[aeval]at hs ⊢;exact yE7 r hi (hv x) (ok.ty t hs.1) hs.2.1 hs.2.2 _
 | build t ps =>
  simp only[aeval]at hs ⊢;refine zWu r hv (ok.ty t ?_) ps _ hs.1 hs.2;intro e;rw[e]at hs;exact hs.1
 | buildSlice t len ps =>
  cases hd:(X.ti t).d with
  | slice e =>
   simp only[aeval,hd]at hs ⊢;obtain⟨h1,h2,h3,h4,h5⟩:=hs;have hde:=(ok.ty t (by rw[hd];simp)).desc
   simp only[xI,hd]at hde;exact zLm r hi hv hde (ok.ty e h1) len ps _ h2 h3 h4 h5
  | _=>simp[aeval,hd]at hs
 | load t x =>
  have hne:(X.ti t).d≠.other:=fun e=>by simp[aeval,e]at hs
  have ht:=ok.ty t hne;have hde:=ht.desc;cases hd:(X.ti t).d with
  | other=>exact absurd hd hne
  | struct fs eq =>
   simp only[xI,hd]at hde;obtain⟨⟨E,hu,_⟩,_⟩:=hde;simp only[aeval,hd]at hs ⊢;exact zI0 r ht hu rfl (hv x) hs
  | arr n e =>
   simp only[xI,hd]at hde;simp only[aeval,hd]at hs ⊢;exact zI0 r ht hde.1 rfl (hv x) hs
  | ptr =>
   simp only[xI,hd]at hde;obtain⟨e,hu⟩:=hde;simp only[aeval,hd]at hs ⊢;exact zA9 r hu rfl (hv x) hs
  | func =>
   simp only[xI,hd]at hde;obtain⟨p,q,b,hu⟩:=hde;simp only[aeval,hd]at hs ⊢;exact zA9 r hu rfl (hv x) hs
  | int k=>simp only[xI,hd]at hde;simp only[aeval,hd]at hs ⊢;exact zA9 r hde rfl (hv x) hs
  | map =>
   simp only[xI,hd]at hde;obtain⟨kt,vt,hu,_⟩:=hde;simp only[aeval,hd]at hs ⊢;exact zA9 r hu rfl (hv x) hs
  | mapI =>
   simp only[xI,hd]at hde;obtain⟨kt,vt,hu,_⟩:=hde;simp only[aeval,hd]at hs ⊢;exact zA9 r hu rfl (hv x) hs
  | mapS e =>
   simp only[xI,hd]at hde;obtain⟨kt,hu,_⟩:=hde;simp only[aeval,hd]at hs ⊢;exact zA9 r hu rfl (hv x) hs
  | bool=>simp only[xI,hd]at hde;simp only[aeval,hd]at hs ⊢;exact zA9 r hde rfl (hv x) hs
  | str=>simp only[xI,hd]at hde;simp only[aeval,hd]at hs ⊢;exact zA9 r hde rfl (hv x) hs
  | slice e=>simp only[xI,hd]at hde;simp only[aeval,hd]at hs ⊢;exact zA9 r hde rfl (hv x) hs
 | store t x y =>
  simp only[aeval]at hs ⊢;obtain⟨h1,h2,h3,h4⟩:=hs;exact zWt r (ok.ty t h1) (hv x) (hv y) h2 h3 h4 _
 | nilCheck x =>
  simp only[aeval]at hs ⊢;obtain⟨b,hb⟩:=yFl (hv x) hs;exact Out.pure (y:=a x) r (by simp[execOp,hb]) rfl (hv x)
 | binOp op xt x y yt =>
  cases hd:(X.ti xt).d with
  | int k =>
   have hde:=(ok.ty xt (by rw[hd];simp)).desc
   simp only[xI,hd]at hde;have main:∀z,binI op k (ev x).i (ev y).i=some z→(ev x).isI k∧(ev y).isI k∧(isDiv op→(ev y).i≠0)→∀sd,Out X K w0 ρ F i false (execOp a ⟨dst,.binOp op xt x y yt,ty,pos,after,guard⟩) w ⟨sd,z,h⟩:=fun z hz h3 sd=>by
    have e1:=zG0 (hv x) h3.1;have e2:=zG0 (hv y) h3.2.1;have:=yAo (i:=i) (hb:=false) r hz h3.2.2 xt x y sd;simpa only[execOp,e1,e2]using this
   have shifts:∀(z:Value) sd,(ev x).isI k→(∃k',a y=.int k' (ev y).i∧(Op.shift op k (ev x).i k' (ev y).i).run X.P w=.ok z w)→(op=.shl∨op=.shr)→Out X K w0 ρ F i false (execOp a ⟨dst,.binOp op xt x y yt,ty,pos,after,guard⟩) w ⟨sd,.v z,h⟩:=fun z sd h1 ⟨k',h2,h3⟩ h4=>by
    have e1:=zG0 (hv x) h1;refine Out.pure (y:=z) r (wQ ?_) rfl (by simp only[VR])
    rw[Sem.run_bind,e1,zEw rfl (by simp),h2]
    rcases h4 with rfl|rfl<;>exact h3
   cases op with
   | shl =>
    simp only[aeval,hd]at hs ⊢;obtain⟨k',e2⟩:=zBa (hv y) hs.2.1;refine shifts _ _ hs.1 ⟨k',e2,?_⟩ (.inl rfl);have:¬(ev y).i<0:=by omega
    simp[Op.shift,this]
   | shr =>
    simp only[aeval,hd]at hs ⊢;obtain⟨k',e2⟩:=zBa (hv y) hs.2.1;refine shifts _ _ hs.1 ⟨k',e2,?_⟩ (.inr rfl);have:¬(ev y).i<0:=by omega
    simp[Op.shift,this]
   | andNot=>simp[aeval,hd,binI]at hs
   | _ =>
    simp only[aeval,hd,binI]at hs ⊢;exact main _ rfl hs _
  | bool =>
   have hde:=(ok.ty xt (by rw[hd];simp)).desc
   simp only[xI,hd]at hde;cases op with
   | eql =>
    simp only[aeval,hd]at hs ⊢;have e1:=zD4 (hv x) hs.1;have e2:=zD4 (hv y) hs.2;refine Out.pure (y:=.bool ((ev x).b==(ev y).b)) r (wQ ?_) rfl (by simp only[VR])
    rw[Sem.run_bind,e1,e2,zEw rfl (by simp)]
    exact run_eql_bool w xt _ _ hde
   | neq =>
    simp only[aeval,hd]at hs ⊢;have e1:=zD4 (hv x) hs.1;have e2:=zD4 (hv y) hs.2;refine Out.pure (y:=.bool (!((ev x).b==(ev y).b))) r (wQ ?_) rfl (by simp only[VR])
    rw[Sem.run_bind,e1,e2,zEw rfl (by simp)]
    exact run_neq_bool w xt _ _ hde
   | _=>simp[aeval,hd]at hs
  | str =>
   cases op with
   | eql =>
    simp only[aeval,hd,binS]at hs ⊢;have e1:=zBl (hv x) hs.1;have e2:=zBl (hv y) hs.2;refine Out.pure (y:=.bool ((ev x).str==(ev y).str)) r (wQ ?_) rfl (by simp only[VR])
    rw[Sem.run_bind,e1,e2,zEw rfl (by simp)]
    simp[binOp,Op.stringOp,beq_toListBytes,bne]
   | neq =>
    simp only[aeval,hd,binS]at hs ⊢;have e1:=zBl (hv x) hs.1;have e2:=zBl (hv y) hs.2;refine Out.pure (y:=.bool ((ev x).str != (ev y).str)) r (wQ ?_) rfl (by simp only[VR])
    rw[Sem.run_bind,e1,e2,zEw rfl (by simp)]
    simp[binOp,Op.stringOp,beq_toListBytes,bne]
   | add =>
    simp only[aeval,hd,binS]at hs ⊢;have e1:=zBl (hv x) hs.1;have e2:=zBl (hv y) hs.2.1;refine Out.pure (y:=.string ((ev x).str++(ev y).str)) r (wQ ?_) rfl (by simp only[VR])
    rw[Sem.run_bind,e1,e2,zEw rfl (by simp)]
    simp only[binOp,Result.andThen_ok];exact run_string_add_sum w _ _ hs.2.2
   | _=>simp[aeval,hd,binS]at hs
  | struct fs eq =>
   cases eq with
   | none=>simp[aeval,hd]at hs
   | some eks =>
    have hde:=(ok.ty xt (by rw[hd];simp)).desc
    simp only[xI,hd]at hde;obtain⟨hg,heq⟩:=hde.2 eks rfl;cases op with
    | eql =>
     simp only[aeval,hd]at hs ⊢;obtain⟨xs,e1,e2⟩:=zKq (hv x) hs.1;obtain⟨ys,e3,e4⟩:=zKq (hv y) hs.2.1;refine Out.pure (y:=.bool (eksEq eks (ev x).gl (ev y).gl)) r (wQ ?_) rfl (by simp only[VR])
     rw[Sem.run_bind,e1,e3,zPs hg];simp[binOp,heq ρ w _ _ _ _ hs.2.2.1 hs.2.2.2 e2 e4]
    | neq =>
     simp only[aeval,hd]at hs ⊢;obtain⟨xs,e1,e2⟩:=zKq (hv x) hs.1;obtain⟨ys,e3,e4⟩:=zKq (hv y) hs.2.1;refine Out.pure (y:=.bool (!(eksEq eks (ev x).gl (ev y).gl))) r (wQ ?_) rfl (by simp only[VR])
     rw[Sem.run_bind,e1,e3,zPs hg];simp[binOp,heq ρ w _ _ _ _ hs.2.2.1 hs.2.2.2 e2 e4]
    | _=>simp[aeval,hd]at hs
  | slice el =>
   have hde:=(ok.ty xt (by rw[hd];simp)).desc
   simp only[xI,hd]at hde;cases op with
   | eql =>
    simp only[aeval,hd]at hs ⊢;obtain⟨q,n,c,e1,e2⟩:=zYi (hv x) hs.1;obtain⟨m,d,e3⟩:=zS6 (hv y) hs.2;refine Out.pure (y:=.bool (ev x).nl) r (wQ ?_) rfl (by simp only[VR])
    rw[Sem.run_bind,e1,e3,zOv,←e2];exact zQz w xt q n c m d hde
   | neq =>
    simp only[aeval,hd]at hs ⊢;obtain⟨q,n,c,e1,e2⟩:=zYi (hv x) hs.1;obtain⟨m,d,e3⟩:=zS6 (hv y) hs.2;refine Out.pure (y:=.bool (!(ev x).nl)) r (wQ ?_) rfl (by simp only[VR])
    rw[Sem.run_bind,e1,e3,zOv,←e2];exact zQy w xt q n c m d hde
   | _=>simp[aeval,hd]at hs
  | _=>simp[aeval,hd]at hs
 | unOp op xt x =>
  cases op with
  | not =>
   simp only[aeval]at hs ⊢;have e1:=zD4 (hv x) hs;exact Out.pure (y:=.bool (!(ev x).b)) r (by simp[execOp,e1,Op.unary]) rfl (by simp only[VR])
  | neg =>
   simp only[aeval]at hs ⊢;split at hs
   ·rename_i k n e
    have e1:=hv x;rw[e]at e1;simp only[VR]at e1
    try simp only[e]
    exact Out.pure (y:=.int k (k.wrap (0-n))) r (by simp[execOp,e1,Op.unary,Op.intArith]) rfl (by simp only[VR])
   ·exact hs.elim
  | _=>simp[aeval]at hs
 | convert s d x =>
  simp only[aeval]at hs ⊢;split at hs
  ·rename_i ks kd e1 e2
   try simp only[e1,e2]
   have h1:=(ok.ty s (by rw[e1];simp)).desc
   have h2:=(ok.ty d (by rw[e2];simp)).desc
   simp only[xI,e1]at h1;simp only[xI,e2]at h2;obtain⟨k,e3⟩:=zBa (hv x) hs;refine Out.pure (y:=.int kd (kd.wrap (ev x).i)) r (wQ ?_) rfl (by simp only[VR])
   simp[e3,convert,run_underlying h1,run_underlying h2,Conv.intToInt]
  ·rename_i e1 e2
   try simp only[e1,e2]
   have h1:=(ok.ty s (by rw[e1];simp)).desc
   have h2:=(ok.ty d (by rw[e2];simp)).desc
   simp only[xI,e1]at h1;simp only[xI,e2]at h2;have e3:=zBl (hv x) hs;refine Out.pure (y:=a x) r (wQ ?_) rfl (hv x);simp[e3,convert,run_underlying h1,run_underlying h2]
  ·exact hs.elim
 | makeSlice t l c =>
  cases hd:(X.ti t).d with
  | slice e =>
   simp only[aeval,hd]at hs ⊢;obtain⟨h1,h2,h3,h4,h5,h6,h7,h8⟩:=hs;have hde:=(ok.ty t (by rw[hd];simp)).desc
   simp only[xI,hd]at hde;have he:=ok.ty e h1;obtain⟨j,z,hj,hjs,hjb,hz,hzc⟩:=he.info;obtain⟨kl,e1⟩:=zBa (hv l) h3;obtain⟨kc,e2⟩:=zBa (hv c) h4;have hr:=run_make (P:=X.P) w t e j z hde hj hz kl kc (ev l).i (ev c).i h5 h6 (by rw[hjb];exact h7) h8
   have hzl:z.cells.size=(X.ti e).size:=by rw[←xN,hzc];exact he.zlen
   have hmc:madeCells z.cells ((ev c).i.toNat*j.size)=((List.replicate (ev c).i.toNat (X.ti e).zero).flatten).toArray:=by
    have:=zO2 (X.ti e).zero (by rw[he.zlen];exact h2) (ev c).i.toNat
    rw[he.zlen]at this
    rw[←this,hjs];unfold madeCells;have hz2:z.cells=(X.ti e).zero.toArray:=by rw[←hzc]
    rw[hzl,hz2]
   have hsplit:(List.replicate (ev c).i.toNat (X.ti e).zero).flatten=(List.replicate (ev l).i.toNat (X.ti e).zero).flatten++(List.replicate ((ev c).i.toNat-(ev l).i.toNat) (X.ti e).zero).flatten:=by
    rw[←List.flatten_append,List.replicate_append_replicate];congr 2;omega
   rw[hmc,hsplit]at hr;rw[←e1,←e2]at hr;refine Out.laid (cap:=(ev c).i.toNat) r hi e (zJl _ _) (fun y hy=>he.zone y (yGd hy)) (List.replicate ((ev c).i.toNat-(ev l).i.toNat) (X.ti e).zero).flatten ?_ w.drawn _ (wQ (w':={w with heap:=w.heap.push (.cells ((List.replicate (ev l).i.toNat (X.ti e).zero).flatten++(List.replicate ((ev c).i.toNat-(ev l).i.toNat) (X.ti e).zero).flatten).toArray e),drawn:=w.drawn}) hr) rfl (fun ρ' hp => ?_)
   ·rw[←hsplit]
    have:=(zJl (ρ:=ρ) (X.ti e).zero (ev c).i.toNat).length;rw[this,zCx,he.zlen]
   ·simp only[VR]
    exact⟨_,_,_,0,hp,by omega,fun _=>rfl,fun _=>rfl,(fun e=>by cases e),rfl⟩
  | _=>simp[aeval,hd]at hs
 | slice t x lo hi' mx =>
  cases hd:(X.ti t).d with
  | slice e =>
   have hde:=(ok.ty t (by rw[hd];simp)).desc
   simp only[xI,hd]at hde;cases mx with
   | some _=>simp[aeval,hd]at hs
   | none =>
    simp only[aeval,hd]at hs ⊢;have hlo:optInt ev lo→(match lo.map a with|some u=>∃k,u=.int k (optI ev 0 lo)|none=>optI ev 0 lo=0):=fun hp=>by
     cases lo with
     | none=>rfl
     | some o=>exact zBa (hv o) hp
    have hhi:∀n:Nat,optInt ev hi'→(match hi'.map a with|some u=>∃k,u=.int k (optI ev n hi')|none=>optI ev n hi'=(n:Int)):=fun n hp=>by
     cases hi' with
     | none=>rfl
     | some o=>exact zBa (hv o) hp
    split at hs
    ·rename_i id ver off n e1
     obtain⟨h1,h2,h3,h4,h5,h6,h7⟩:=hs;have hn:(ev x).slen=n:=by rw[e1];rfl
     exact zOt r hde (ok.ty e h6) (hv x) (hlo h1) (by rw[hn];exact hhi n h2) h3 h4 (by rw[hn];exact h5) rfl (.inl ⟨id,ver,off,n,e1,h7,rfl⟩)
    ·rename_i n c e1
     obtain⟨h1,h2,h3,h4,h5,rfl,rfl,h6⟩:=hs;have hn:(ev x).slen=0:=by rw[e1];rfl
     exact zOt r hde (ok.ty e h6) (hv x) (hlo h1) (by rw[hn];exact hhi 0 h2) h3 h4 (by rw[hn];exact h5) rfl (.inr ⟨e1,rfl⟩)
    ·exact hs.elim
  | _=>simp[aeval,hd]at hs
 | fieldAddr t x f =>
  cases hd:(X.ti t).d with
  | struct fs eq =>
   have hde:=(ok.ty t (by rw[hd];simp)).desc
   simp only[xI,hd]at hde;obtain⟨⟨E,hu,hfs,hfi⟩,_⟩:=hde;simp only[aeval,hd]at hs ⊢;have key:∀off ft,fs[f]? = some (off,ft)→(X.ti ft).size≠0→∀b o,(Instr.fieldAt t (.pointer (some ⟨b,o,none⟩)) f).run X.P w=.ok (.pointer (some ⟨b,o+off,none⟩)) w:=fun off ft hf h0 b o=>by
    rw[←hfs,xG]at hf;cases hE:E.toList[f]? with
    | none=>simp[hE]at hf
    | some g =>
     simp only[hE,zK,Option.some.injEq,Prod.mk.injEq]at hf;obtain⟨rfl,rfl⟩:=hf;obtain⟨j,hj,hjs⟩:=hfi g (xW hE);have hE2:E[f]? = some g:=by rw[←xC];exact hE
     have hne:¬j.size=0:=by rw[hjs];exact h0
     simp only[Instr.fieldAt,Sem.run_bind,run_underlying hu,Result.andThen_ok,hE2,Instr.sureAddr,Sem.run_pure,fieldPlace,zAu hj,hne,if_false,Addr.add_mid]
   split at hs
   ·rename_i off ft id ver o e1 e2
    try simp only[e1,e2]
    have hx:=hv x;rw[e2]at hx;simp only[VR]at hx;obtain⟨b,base,c,hp,hx⟩:=hx;refine Out.pure (y:=.pointer (some ⟨b,base+o+off,none⟩)) r (wQ (by rw[hx];exact key off ft e1 hs.2 b (base+o))) rfl ?_
    simp only[VR];exact⟨b,base,c,hp,by rw[xD]⟩
   ·rename_i off ft g o e1 e2
    try simp only[e1,e2]
    have hx:=hv x;rw[e2]at hx;simp only[VR]at hx;refine Out.pure (y:=.pointer (some ⟨g,o+off,none⟩)) r (wQ (by rw[hx];exact key off ft e1 hs.2 g o)) rfl ?_
    simp only[VR]
   ·exact hs.elim
  | _=>simp[aeval,hd]at hs
 | indexAddr t x ix =>
  cases hd:(X.ti t).d with
  | slice e =>
   have hde:=(ok.ty t (by rw[hd];simp)).desc
   simp only[xI,hd]at hde;have hel:X.P.elem t=e:=by simp[Program.elem,hde]
   simp only[aeval,hd]at hs ⊢;split at hs
   ·rename_i id ver off len e1
    obtain⟨h1,h2,h3,h4⟩:=hs;obtain⟨j,_,hj,hjs,_⟩:=(ok.ty e h1).info;obtain⟨k,e2⟩:=zBa (hv ix) h2;have hx:=hv x;rw[e1]at hx;simp only[VR]at hx;obtain⟨pa,pc,c',off',hp,hlc,hcc,hoff,hnn,hx⟩:=hx;have ho:=hoff (.inl (by omega))
    subst ho;cases pa with
    | none=>have:=hnn rfl;omega
    | some q =>
     refine Out.pure (y:=.pointer (some ⟨q.1,q.2+off'+(ev ix).i.toNat*(X.ti e).size,none⟩)) r (wQ ?_) rfl ?_
     ·rw[hx,e2]
      simp only[zK];rw[run_indexAt_slice w t _ len c' k _ (by rw[hel];exact hde),if_pos ⟨h3,h4⟩,hel,zAu hj,hjs]
      simp only[Result.andThen_ok,Addr.add_mid]
     ·simp only[VR]
      exact⟨q.1,q.2,pc,hp,by rw[xD]⟩
   ·exact hs.elim
  | arr len e =>
   have hde:=(ok.ty t (by rw[hd];simp)).desc
   simp only[xI,hd]at hde;have hel:X.P.elem t=e:=by simp[Program.elem,hde.1]
   have hal:X.P.arrayLen t=len:=by simp[Program.arrayLen,hde.1]
   obtain⟨j,hj,hjs⟩:=hde.2;simp only[aeval,hd]at hs ⊢;have key:∀b o k,0≤(ev ix).i→(ev ix).i<len→(Instr.indexAt t (.pointer (some ⟨b,o,none⟩)) (.int k (ev ix).i)).run X.P w=.ok (.pointer (some ⟨b,o+(ev ix).i.toNat*(X.ti e).size,none⟩)) w:=fun b o k h3 h4=>by
    rw[run_indexAt_array w t _ k _ (by rw[hel,hal];exact hde.1),hal,if_pos ⟨h3,h4⟩,hel,zAu hj,hjs]
    simp only[Result.andThen_ok,Addr.add_mid]
   split at hs
   ·rename_i id ver off e1
    obtain⟨h1,h2,h3,h4⟩:=hs;obtain⟨k,e2⟩:=zBa (hv ix) h2;have hx:=hv x;rw[e1]at hx;simp only[VR]at hx;obtain⟨b,base,c,hp,hx⟩:=hx;refine Out.pure (y:=.pointer (some ⟨b,base+off+(ev ix).i.toNat*(X.ti e).size,none⟩)) r (wQ (by rw[hx,e2];exact key b (base+off) k h3 h4)) rfl ?_
    simp only[VR];exact⟨b,base,c,hp,by rw[xD]⟩
   ·rename_i g off e1
    obtain⟨h1,h2,h3,h4⟩:=hs;obtain⟨k,e2⟩:=zBa (hv ix) h2;have hx:=hv x;rw[e1]at hx;simp only[VR]at hx;refine Out.pure (y:=.pointer (some ⟨g,off+(ev ix).i.toNat*(X.ti e).size,none⟩)) r (wQ (by rw[hx,e2];exact key g off k h3 h4)) rfl ?_
    simp only[VR]
   ·exact hs.elim
  | _=>simp[aeval,hd]at hs
 | index t x ix =>
  cases hd:(X.ti t).d with
  | str =>
   have hde:=(ok.ty t (by rw[hd];simp)).desc
   simp only[xI,hd]at hde;simp only[aeval,hd]at hs ⊢;obtain⟨h1,h2,h3,h4⟩:=hs;obtain⟨k,e2⟩:=zBa (hv ix) h2;have e1:=zBl (hv x) h1;refine Out.pure (y:=.int .u8 (zCj (ev x).str (ev ix).i.toNat)) r (wQ ?_) rfl (by simp only[VR])
   rw[e1,e2];have hlt:(ev ix).i.toNat<(ev x).str.size:=by omega
   simp only[Instr.index,asIntOf,Sem.run_bind,Sem.run_pure,Result.andThen_ok,run_underlying hde,if_pos h3,getElem?_pos (ev x).str (ev ix).i.toNat hlt];have hb:((ev x).str[(ev ix).i.toNat]'hlt).toNat=zCj (ev x).str (ev ix).i.toNat:=by
    have hl:(ev ix).i.toNat<(ev x).str.data.toList.length:=by simpa using hlt
    rw[zCj,zB,zA hl];simp;rfl
   rw[hb]
  | arr n e =>
   have hde:=(ok.ty t (by rw[hd];simp)).desc
   simp only[xI,hd]at hde;obtain⟨j,hj,hjs⟩:=hde.2;simp only[aeval,hd]at hs ⊢;have one:∀td,X.P.underlying e=some td→TypeDesc.isRow td=false→((X.ti e).size=1∧(ev x).isG∧(ev ix).isInt∧0≤(ev ix).i∧(ev ix).i<n∧(ev ix).i.toNat<(ev x).gl.length)→∃y,(Instr.index t (a x) (a ix)).run X.P w=.ok y w∧VR ρ ((ev x).gl.getD (ev ix).i.toNat .any) y:=fun td hde2 hrow hs=>by
    obtain⟨h0,h1,h2,h3,h4,h5⟩:=hs;obtain⟨k,e2⟩:=zBa (hv ix) h2;have hx:=hv x;cases e1:ev x with
    | g l =>
     rw[e1]at hx;simp only[VR]at hx;obtain⟨ys,y1,y2⟩:=hx;simp only[e1,AV.gl]at h5 ⊢;obtain⟨y,y3,y4⟩:=y2.get _ _ (zA h5);refine⟨y,?_,?_⟩
     ·rw[y1,e2]
      rw[h0]at hjs;simp only[Instr.index,asIntOf,Sem.run_bind,Sem.run_pure,Result.andThen_ok,run_underlying hde.1,if_pos (show 0≤(ev ix).i∧(ev ix).i<n from ⟨h3,h4⟩),zAu hj,hjs,xM,part,zG1 hde2 hrow,yO,if_false,zBq,y3]
     ·rw[zB,zA h5]
      exact y4
    | _=>simp[e1,AV.isG]at h1
   cases hd2:(X.ti e).d with
   | str =>
    have hde2:=(ok.ty e (by rw[hd2];simp)).desc
    simp only[xI,hd2]at hde2;simp only[hd2]at hs ⊢;obtain⟨y,y1,y2⟩:=one _ hde2 rfl hs;exact Out.pure (y:=y) r (wQ y1) rfl y2
   | int k =>
    have hde2:=(ok.ty e (by rw[hd2];simp)).desc
    simp only[xI,hd2]at hde2;simp only[hd2]at hs ⊢;obtain⟨y,y1,y2⟩:=one _ hde2 rfl hs;exact Out.pure (y:=y) r (wQ y1) rfl y2
   | _=>simp[hd2]at hs
  | _=>simp[aeval,hd]at hs
 | extract x j =>
  simp only[aeval]at hs ⊢;split at hs
  ·rename_i l e1
   have hx:=hv x;rw[e1]at hx;simp only[VR]at hx;obtain⟨ys,e2,e3⟩:=hx;obtain⟨y,y1,y2⟩:=e3.get j _ (zA hs);refine Out.pure (y:=y) r (wQ ?_) rfl ?_
   ·simp[e2,Instr.extract,y1]
   ·try simp only[e1]
    rw[zB,zA hs];exact y2
  ·exact hs.elim
 | makeMap t rsv =>
  cases hd:(X.ti t).d with
  | map =>
   cases rsv with
   | some x =>
    have hde:=(ok.ty t (by rw[hd];simp)).desc
    simp only[xI,hd]at hde;obtain⟨kt,vt,hu,_⟩:=hde;simp only[aeval,hd]at hs ⊢;obtain⟨k,e2⟩:=zBa (hv x) hs;have:=zIz r hi hu k (ev x).i (ev x).isInt;simpa only[execOp,heapOp,zK,e2]using this
   | none =>
    simp only[aeval,hd];have:=zGr r hi t True;simpa only[execOp,heapOp,Option.map_none]using this
  | mapS e =>
   cases rsv with
   | some x=>simp[aeval,hd]at hs
   | none =>
    simp only[aeval,hd];have:=zGr r hi t True;simpa only[execOp,heapOp,Option.map_none]using this
  | mapI =>
   cases rsv with
   | some x =>
    have hde:=(ok.ty t (by rw[hd];simp)).desc
    simp only[xI,hd]at hde;obtain⟨kt,vt,hu,_⟩:=hde;simp only[aeval,hd]at hs ⊢;obtain⟨k,e2⟩:=zBa (hv x) hs;have:=zIz r hi hu k (ev x).i (ev x).isInt;simpa only[execOp,heapOp,zK,e2]using this
   | none =>
    simp only[aeval,hd];have:=zGr r hi t True;simpa only[execOp,heapOp,Option.map_none]using this
  | _=>simp[aeval,hd]at hs
 | lookup t x ix cok =>
  cases hd:(X.ti t).d with
  | map =>
   have hde:=(ok.ty t (by rw[hd];simp)).desc
   simp only[xI,hd]at hde;obtain⟨kt,vt,hu,hku,_,j,hj,hjz⟩:=hde;cases hx:ev x with
   | mv id ver =>
    cases hk:h id with
    | none=>simp[aeval,hd,hx,hk]at hs
    | some k =>
     simp only[aeval,hd,hx,hk]at hs ⊢;obtain⟨h1,h2,h3⟩:=hs;have e3:=zBl (hv ix) h3;have hy:=hv x;rw[hx]at hy;have:=zUj (i:=i) (hb:=false) r hu hku hj hjz hy hk h1 h2 (ev ix).str cok (k.ver=ver∧mok k.cells∧(ev ix).isStr);simpa only[execOp,e3,heapOp]using this
   | _=>simp[aeval,hd,hx]at hs
  | mapS e =>
   have hde:=(ok.ty t (by rw[hd];simp)).desc
   simp only[xI,hd]at hde;obtain⟨kt,hu,hku,j,hj,hjz⟩:=hde;cases hx:ev x with
   | mv id ver =>
    cases hk:h id with
    | none=>simp[aeval,hd,hx,hk]at hs
    | some k =>
     simp only[aeval,hd,hx,hk]at hs ⊢;obtain⟨h1,h2,h3⟩:=hs;have e3:=zBl (hv ix) h3;have hy:=hv x;rw[hx]at hy;have:=zQv (i:=i) (hb:=false) r hu hku hj hjz hy hk h1 h2 (ev ix).str cok (k.ver=ver∧zSv k.cells∧(ev ix).isStr);simpa only[execOp,e3,heapOp]using this
   | _=>simp[aeval,hd,hx]at hs
  | mapI =>
   have hde:=(ok.ty t (by rw[hd];simp)).desc
   simp only[xI,hd]at hde;obtain⟨kt,vt,hu,hku,_,j,hj,hjz⟩:=hde;cases hx:ev x with
   | mv id ver =>
    cases hk:h id with
    | none=>simp[aeval,hd,hx,hk]at hs
    | some k =>
     simp only[aeval,hd,hx,hk]at hs ⊢;obtain⟨h1,h2,h3⟩:=hs;have e3:=zG0 (hv ix) h3;have hy:=hv x;rw[hx]at hy;have:=zQw (i:=i) (hb:=false) r hu hku hj hjz hy hk h1 h2 (ev ix).i cok (k.ver=ver∧zSw k.cells∧(ev ix).isI .i64);simpa only[execOp,e3,heapOp]using this
   | _=>simp[aeval,hd,hx]at hs
  | _=>simp[aeval,hd]at hs
 | mapUpdate t x ix y =>
  cases hd:(X.ti t).d with
  | map =>
   have hde:=(ok.ty t (by rw[hd];simp)).desc
   simp only[xI,hd]at hde;obtain⟨kt,vt,hu,hku,_⟩:=hde;cases hx:ev x with
   | mv id ver =>
    cases hk:h id with
    | none=>simp[aeval,hd,hx,hk]at hs
    | some k =>
     simp only[aeval,hd,hx,hk]at hs ⊢;obtain⟨h1,h2,h3,h4,h5⟩:=hs;have e3:=zBl (hv ix) h4;have e4:=zG0 (hv y) h5;have hy:=hv x;rw[hx]at hy;have:=zMu (i:=i) (hb:=true) r hu hku hy hk h1 h2 h3 (ev ix).str (ev y).i (k.ver=ver∧k.rw=true∧mok k.cells∧(ev ix).isStr∧(ev y).isI .i64);simpa only[execOp,e3,e4,heapOp]using this
   | _=>simp[aeval,hd,hx]at hs
  | mapS e =>
   have hde:=(ok.ty t (by rw[hd];simp)).desc
   simp only[xI,hd]at hde;obtain⟨kt,hu,hku,_⟩:=hde;cases hx:ev x with
   | mv id ver =>
    cases hk:h id with
    | none=>simp[aeval,hd,hx,hk]at hs
    | some k =>
     simp only[aeval,hd,hx,hk]at hs ⊢;obtain⟨h1,h2,h3,h4,h5,h6⟩:=hs;have e3:=zBl (hv ix) h4;obtain⟨ys,e4,hys⟩:=zKq (hv y) h5;have e5:=zTb h6 hys;subst e5;have hy:=hv x;rw[hx]at hy;have:=zLk (i:=i) (hb:=true) r hu hku hy hk h1 h2 h3 (ev ix).str (.agg ((ev y).gl.map AV.val).toArray) (k.ver=ver∧k.rw=true∧zSv k.cells∧(ev ix).isStr∧(ev y).isG∧zQ8 (ev y).gl);simpa only[execOp,e3,e4,heapOp]using this
   | _=>simp[aeval,hd,hx]at hs
  | mapI =>
   have hde:=(ok.ty t (by rw[hd];simp)).desc
   simp only[xI,hd]at hde;obtain⟨kt,vt,hu,hku,_⟩:=hde;cases hx:ev x with
   | mv id ver =>
    cases hk:h id with
    | none=>simp[aeval,hd,hx,hk]at hs
    | some k =>
     simp only[aeval,hd,hx,hk]at hs ⊢;obtain⟨h1,h2,h3,h4,h5⟩:=hs;have e3:=zG0 (hv ix) h4;have e4:=zG0 (hv y) h5;have hy:=hv x;rw[hx]at hy;have:=zLl (i:=i) (hb:=true) r hu hku hy hk h1 h2 h3 (ev ix).i (ev y).i (k.ver=ver∧k.rw=true∧zSw k.cells∧(ev ix).isI .i64∧(ev y).isI .i64);simpa only[execOp,e3,e4,heapOp]using this
   | _=>simp[aeval,hd,hx]at hs
  | _=>simp[aeval,hd]at hs
 | field t x f =>
  cases hd:(X.ti t).d with
  | struct fs eq =>
   have hde:=(ok.ty t (by rw[hd];simp)).desc
   simp only[xI,hd]at hde;obtain⟨⟨E,hu,hfs,hfi⟩,_⟩:=hde;cases hx:ev x with
   | g l =>
    cases hf:fs[f]? with
    | none=>simp[aeval,hd,hx,hf]at hs
    | some p =>
     obtain⟨off,ft⟩:=p;have hy:=hv x;rw[hx]at hy;simp only[VR]at hy;obtain⟨ys,y1,y2⟩:=hy;have hE0:=hf;rw[←hfs,xG]at hE0;cases hE:E.toList[f]? with
     | none=>simp[hE]at hE0
     | some g =>
      simp only[hE,zK,Option.some.injEq,Prod.mk.injEq]at hE0;obtain⟨rfl,rfl⟩:=hE0;obtain⟨j,hj,hjs⟩:=hfi g (xW hE);have hE2:E[f]? = some g:=by rw[←xC];exact hE
      have hex:execOp a ⟨dst,.field t x f,ty,pos,after,guard⟩=(do pure (.value (←Instr.field t (a x) f))):=rfl
      rw[hex];have row:∀d,X.P.underlying g.type=some d→TypeDesc.isRow d=true→g.offset+(X.ti g.type).size≤l.length→∀sd:Prop,
        Out X K w0 ρ F i (heapOp (.field t x f)) (do pure (.value (←Instr.field t (a x) f))) w ⟨sd,.g ((l.drop g.offset).take (X.ti g.type).size),h⟩:=fun d hu2 hr hl sd=>by
       refine Out.pure (y:=.agg (ys.toArray.extract g.offset (g.offset+(X.ti g.type).size))) r ?_ rfl ?_
       ·refine wQ ?_
        rw[y1];simp only[Instr.field,Sem.run_bind,run_underlying hu,Result.andThen_ok,hE2,asAgg,Sem.run_pure,part,zU3 hu2 hr,if_true,zAu hj,hjs]
       ·simp only[VR]
        refine⟨(ys.drop g.offset).take (X.ti g.type).size,?_,?_⟩
        ·apply congrArg Value.agg
         apply Array.ext';simp[Array.toList_extract,List.extract_eq_take_drop]
        ·refine VRs.mk ?_ fun q c y h1 h2 => ?_
         ·have:=y2.length;simp;omega
         ·rw[zCg]at h1 h2
          split at h1
          ·rename_i hq
           rw[if_pos hq]at h2;rw[xA]at h1 h2;obtain⟨u,u1,u2⟩:=y2.get _ _ h1;rw[u1]at h2;cases h2;exact u2
          ·cases h1
      have one:∀d,X.P.underlying g.type=some d→TypeDesc.isRow d=false→g.offset<l.length→∀sd:Prop,
        Out X K w0 ρ F i (heapOp (.field t x f)) (do pure (.value (←Instr.field t (a x) f))) w ⟨sd,l.getD g.offset .any,h⟩:=fun d hu2 hr hl sd=>by
       obtain⟨u,u1,u2⟩:=y2.get _ _ (zA hl);refine Out.pure (y:=u) r ?_ rfl ?_
       ·refine wQ ?_
        rw[y1];simp only[Instr.field,Sem.run_bind,run_underlying hu,Result.andThen_ok,hE2,asAgg,Sem.run_pure,part,zG1 hu2 hr,yO,if_false,zBq,u1]
       ·rw[zB,zA hl]
        exact u2
      have hdd:(X.ti g.type).d≠.other→xI X g.type:=fun hne=>(ok.ty g.type hne).desc
      cases hd2:(X.ti g.type).d with
      | other=>simp[aeval,hd,hx,hf,hd2]at hs
      | struct fs2 eq2 =>
       simp only[aeval,hd,hx,hf,hd2]at hs ⊢;have hq:=hdd (by rw[hd2];simp)
       simp only[xI,hd2]at hq;obtain⟨⟨E2,hu2,_⟩,_⟩:=hq;exact row _ hu2 rfl hs _
      | arr n2 e2 =>
       simp only[aeval,hd,hx,hf,hd2]at hs ⊢;have hq:=hdd (by rw[hd2];simp)
       simp only[xI,hd2]at hq;exact row _ hq.1 rfl hs _
      | int k => 
       simp only[aeval,hd,hx,hf,hd2]at hs ⊢;have hq:=hdd (by rw[hd2];simp)
       simp only[xI,hd2]at hq;exact one _ hq rfl hs _
      | bool => 
       simp only[aeval,hd,hx,hf,hd2]at hs ⊢;have hq:=hdd (by rw[hd2];simp)
       simp only[xI,hd2]at hq;exact one _ hq rfl hs _
      | str => 
       simp only[aeval,hd,hx,hf,hd2]at hs ⊢;have hq:=hdd (by rw[hd2];simp)
       simp only[xI,hd2]at hq;exact one _ hq rfl hs _
      | ptr => 
       simp only[aeval,hd,hx,hf,hd2]at hs ⊢;have hq:=hdd (by rw[hd2];simp)
       simp only[xI,hd2]at hq;obtain⟨_,hq⟩:=hq;exact one _ hq rfl hs _
      | func => 
       simp only[aeval,hd,hx,hf,hd2]at hs ⊢;have hq:=hdd (by rw[hd2];simp)
       simp only[xI,hd2]at hq;obtain⟨_,_,_,hq⟩:=hq;exact one _ hq rfl hs _
      | slice e2 => 
       simp only[aeval,hd,hx,hf,hd2]at hs ⊢;have hq:=hdd (by rw[hd2];simp)
       simp only[xI,hd2]at hq;exact one _ hq rfl hs _
      | map => 
       simp only[aeval,hd,hx,hf,hd2]at hs ⊢;have hq:=hdd (by rw[hd2];simp)
       simp only[xI,hd2]at hq;obtain⟨_,_,hq,_⟩:=hq;exact one _ hq rfl hs _
      | mapI => 
       simp only[aeval,hd,hx,hf,hd2]at hs ⊢;have hq:=hdd (by rw[hd2];simp)
       simp only[xI,hd2]at hq;obtain⟨_,_,hq,_⟩:=hq;exact one _ hq rfl hs _
      | mapS _ => 
       simp only[aeval,hd,hx,hf,hd2]at hs ⊢;have hq:=hdd (by rw[hd2];simp)
       simp only[xI,hd2]at hq;obtain⟨_,hq,_⟩:=hq;exact one _ hq rfl hs _
   | _=>simp[aeval,hd,hx]at hs
  | _=>simp[aeval,hd]at hs
 | makeFunc fn fi ca =>
  refine Out.pure (y:=.func fn (fi.map a) (ca.map a)) r (by simp[execOp,Instr.makeFunc]) rfl ?_
  simp only[aeval,VR];exact⟨fi.toList.map a,ca.toList.map a,by simp[Array.ext_iff],zKs hv _,zKs hv _⟩
 | call c =>
  obtain⟨callee,args,argTypes⟩:=c;obtain⟨args⟩:=args;obtain⟨argTypes⟩:=argTypes;simp only[aeval]at hs ⊢;split at hs
  ·-- len
   rename_i x t;cases hd:(X.ti t).d with
   | slice e =>
    have hde:=(ok.ty t (by rw[hd];simp)).desc
    simp only[xI,hd]at hde;simp only[hd]at hs ⊢;obtain⟨pa,pc,e1,_⟩:=yGs (hv x) hs;refine Out.pure (y:=.int .i64 (ev x).slen) r ?_ rfl (by simp only[VR])
    simp[execOp,resolve,invoke,builtin,e1,Builtin.len_,run_underlying hde,goInt]
   | str =>
    have hde:=(ok.ty t (by rw[hd];simp)).desc
    simp only[xI,hd]at hde;simp only[hd]at hs ⊢;have e1:=zBl (hv x) hs;refine Out.pure (y:=.int .i64 (ev x).str.size) r ?_ rfl (by simp only[VR])
    simp[execOp,resolve,invoke,builtin,e1,Builtin.len_,run_underlying hde,goInt]
   | _=>simp[hd]at hs
  ·-- min
   rename_i x y;split at hs
   ·rename_i k p k' q e1 e2
    have hx:=hv x;have hy:=hv y;rw[e1]at hx;rw[e2]at hy;simp only[VR]at hx hy;refine Out.pure (y:=.int k (if q<p then q else p)) r ?_ rfl (by simp only[e1,e2,VR])
    simp[execOp,resolve,invoke,builtin,hx,hy,run_min_int2]
   ·exact hs.elim
  ·-- max
   rename_i x y;split at hs
   ·rename_i k p k' q e1 e2
    have hx:=hv x;have hy:=hv y;rw[e1]at hx;rw[e2]at hy;simp only[VR]at hx hy;refine Out.pure (y:=.int k (if p<q then q else p)) r ?_ rfl (by simp only[e1,e2,VR])
    simp[execOp,resolve,invoke,builtin,hx,hy,run_max_int2]
   ·exact hs.elim
  ·-- append
   rename_i s x t t';have hexe:execOp a ⟨dst,.call ⟨.builtin .append,[s,x].toArray,[t,t'].toArray⟩,ty,pos,after,guard⟩=(do pure (.value (←Builtin.append_ #[t,t'] ty #[a s,a x]))):=by
    simp[execOp,resolve,invoke,builtin]
   rw[hexe];cases hd:(X.ti t).d with
   | slice e =>
    have hde:=(ok.ty t (by rw[hd];simp)).desc
    simp only[xI,hd]at hde;simp only[hd]at hs ⊢;split at hs
    ·rename_i id ver off len e1
     have hx:=hv s;rw[e1]at hx
     try simp only[e1]
     cases hk:h id with
     | none=>simp[hk]at hs
     | some k =>
      simp only[hk]at hs ⊢;obtain⟨rfl,h2,h3,h4,h5,h6,rfl,h8,h9,h10,h11,h12⟩:=hs;exact zUk r hde (ok.ty e h2) h3 hx (hv x) h4 h5 hk h6 h8 h9 h10 h11 h12 _
    ·rename_i n c e1
     have hx:=hv s;rw[e1]at hx
     try simp only[e1]
     obtain⟨rfl,rfl,rfl,h2,h3,h4,h5,h6,h7⟩:=hs;simp only[VR]at hx;rw[hx];exact zLn r hi hde (ok.ty e h2) h3 (hv x) h4 h5 h6 h7 _
    ·exact hs.elim
   | _=>simp[hd]at hs
  ·-- copy
   rename_i d x t t';have hexe:execOp a ⟨dst,.call ⟨.builtin .copy,[d,x].toArray,[t,t'].toArray⟩,ty,pos,after,guard⟩=(do pure (.value (←Builtin.copy_ #[t,t'] ty #[a d,a x]))):=by
    simp[execOp,resolve,invoke,builtin]
   rw[hexe];split at hs
   ·rename_i e id ver off len hd e1
    have hde:=(ok.ty t (by rw[hd];simp)).desc
    simp only[xI,hd]at hde;have hx:=hv d;rw[e1]at hx
    try simp only[hd,e1]
    cases hk:h id with
    | none=>simp[hk]at hs
    | some k =>
     simp only[hk]at hs ⊢;obtain⟨rfl,h2,h3,h4,h5,h6,h8,h9⟩:=hs;exact yAn r hde (ok.ty e h2) h3 hx (hv x) h4 h5 hk h6 h8 h9 _
   ·exact hs.elim
  ·rename_i f as e1
   exact absurd rfl (hop _ _ rfl)
  ·exact hs.elim
 | _=>simp[aeval]at hs
theorem zWg (ok:Ok X) (r:Rel X K w0 ρ F h w) (hi:F i) {ev:Operand→AV} {a:Operand→Value} (hv:∀x,VR ρ (ev x) (a x)) (o:Oper) {q:ARes×ARes} (ht:two X o.op ev h i=some q) (hs:q.1.side) :
  Out X K w0 ρ F i true (execOp a o) w q.1∨Out X K w0 ρ F i true (execOp a o) w q.2:=by
 obtain⟨dst,op,ty,pos,after,guard⟩:=o;simp only at ht;cases op with
 | call c =>
  obtain⟨callee,⟨args⟩,⟨at'⟩⟩:=c;simp only[two]at ht;split at ht
  rotate_left
  ·cases ht
  rename_i s x t t' ;have hexe:execOp a ⟨dst,.call ⟨.builtin .append,[s,x].toArray,[t,t'].toArray⟩,ty,pos,after,guard⟩=(do pure (.value (←Builtin.append_ #[t,t'] ty #[a s,a x]))):=by
   simp[execOp,resolve,invoke,builtin]
  rw[hexe];split at ht
  rotate_left
  ·cases ht
  rename_i e id ver off len hd e1;have hde:=(ok.ty t (by rw[hd];simp)).desc
  simp only[xI,hd]at hde;have hx:=hv s;rw[e1]at hx;cases hk:h id with
  | none=>simp[hk]at ht
  | some k =>
   simp only[hk,Option.some.injEq]at ht;subst ht;obtain⟨rfl,h2,h3,h4,h5,h6,rfl,h8,h9,h10,h11,h12⟩:=hs;exact yE6 r hi hde (ok.ty e h2) h3 hx (hv x) h4 h5 hk h6 h8 h9 h10 h11 h12 _ _
 | _=>simp[two]at ht
end
end Go.Eng
