import Derived.Test.YtbffkkeieihpdaaGreatDoorE01
import Derived.Laws.Panics
set_option linter.unusedSimpArgs false
set_option linter.unusedVariables false
set_option linter.constructorNameAsVariable false
set_option maxRecDepth 100000
set_option maxHeartbeats 4000000
namespace Go.Eng
open Go Go.RowKit
def EqOk (X:Ctx) (t:TypeId) (eks:List EK):Prop :=
 X.P.eqGuardType X.P.depth t=false∧∀(ρ:Ren) (w:World) (as bs:List AV) (xs ys:List Value),eksOk eks as→eksOk eks bs→VRs ρ as xs→VRs ρ bs ys→
  (Op.equal t (.agg xs.toArray) (.agg ys.toArray)).run X.P w=.ok (eksEq eks as bs) w
def xI (X:Ctx) (t:TypeId):Prop :=
 match (X.ti t).d with
 | .other=>True
 | .int k=>X.P.underlying t=some (.int k)
 | .bool=>X.P.underlying t=some .bool
 | .str=>X.P.underlying t=some .string
 | .ptr=>∃e,X.P.underlying t=some (.pointer e)
 | .func=>∃p q b,X.P.underlying t=some (.func p q b)
 | .slice e=>X.P.underlying t=some (.slice e)
 | .arr n e=>X.P.underlying t=some (.array n e)∧∃j,X.P.info? e=some j∧j.size=(X.ti e).size
 | .struct fs eq=>(∃E,X.P.underlying t=some (.struct E)∧E.toList.map (fun f=>(f.offset,f.type))=fs∧∀f∈E.toList,∃j,X.P.info? f.type=some j∧j.size=(X.ti f.type).size)∧
   ∀eks,eq=some eks→EqOk X t eks
 | .map=>∃kt vt,X.P.underlying t=some (.map kt vt)∧X.P.underlying kt=some .string∧X.P.underlying vt=some (.int .i64)∧∃j,X.P.info? vt=some j∧j.zero=some (.int .i64 0)
 | .mapI=>∃kt vt,X.P.underlying t=some (.map kt vt)∧X.P.underlying kt=some (.int .i64)∧X.P.underlying vt=some (.int .i64)∧∃j,X.P.info? vt=some j∧j.zero=some (.int .i64 0)
 | .mapS e=>∃kt,X.P.underlying t=some (.map kt e)∧X.P.underlying kt=some .string∧∃j,X.P.info? e=some j∧j.zero=some (.agg (X.ti e).zero.toArray)
structure TyOk (X:Ctx) (t:TypeId):Prop where
 info:∃j z,X.P.info? t=some j∧j.size=(X.ti t).size∧j.bytes=(X.ti t).bytes∧j.zero=some z∧z.cells.toList=(X.ti t).zero
 zlen:(X.ti t).zero.length=(X.ti t).size
 zone:∀x∈(X.ti t).zero,x.oneCell'=true
 desc:xI X t
def zGp (X:Ctx) (f:FuncId) (g:List AV→Heap→PRes):Prop :=
 (∀args h h',(∀i k,h i=some k→h' i=some k)→(g args h).side→(g args h').side∧(g args h').val=(g args h).val)∧
 (((∀ args w, (callFunc f args).run X.P w = .ok (.enter f args) w) ∧
   ∀ρ h w (args:List AV) (vs:List Value),RoRel X ρ h w→(∃m,∀j,m≤j→(∀ver,ρ j ver=none)∧h j=none)→VRs ρ args vs→(g args h).side→
   Calls X.P f vs.toArray w fun e w'=>∃y,e=.returned y∧VR ρ (g args h).val y∧Below w.heap.size w w')∨
  ∀ρ h w (args:List AV) (vs:List Value),VRs ρ args vs→(g args h).side→∃y,(callFunc f vs.toArray).run X.P w=.ok (.value y) w∧VR ρ (g args h).val y)
structure Ok (X:Ctx):Prop where
 ty:∀t,(X.ti t).d≠.other→TyOk X t
 pf:∀f g,X.pf f=some g→zGp X f g
def Out (X:Ctx) (K:Nat→Prop) (w0:World) (ρ:Ren) (F:Nat→Prop) (i:Nat) (hb:Bool) (s:Sem Next) (w:World) (z:ARes):Prop :=
 ∃nx w' ρ',s.run X.P w=.ok nx w'∧ρ.le ρ'∧Rel X K w0 ρ' (fun j=>F j∧(hb=true→j≠i)) z.h w'∧((∃y,nx=.value y∧VR ρ' z.val y)∨(nx=.skip∧VR ρ' z.val undef))
section
variable {X:Ctx} {K:Nat→Prop} {w0:World} {ρ:Ren} {F:Nat→Prop} {h:Heap} {w:World} {i:Nat} {hb:Bool}
theorem Out.pure {s:Sem Next} {z:ARes} {y:Value} (r:Rel X K w0 ρ F h w) (hr:s.run X.P w=.ok (.value y) w) (hz:z.h=h) (hy:VR ρ z.val y):Out X K w0 ρ F i hb s w z :=
 ⟨_,w,ρ,hr,Ren.le_refl ρ,by rw[hz];exact r.anti fun _ hj=>hj.1,.inl ⟨y,rfl,hy⟩⟩
theorem Out.skip {s:Sem Next} {z:ARes} {w':World} (hr:s.run X.P w=.ok .skip w') (hR:Rel X K w0 ρ F z.h w') (hv:VR ρ z.val undef):Out X K w0 ρ F i hb s w z :=
 ⟨_,w',ρ,hr,Ren.le_refl ρ,hR.anti fun _ hj=>hj.1,.inr ⟨rfl,hv⟩⟩
theorem zJq:∀{l:List AV},AV.ones l→∀a∈l,a.one
 | [],_,a,h=>by simp at h
 | b::l,h,a,hm=>by
  simp only[AV.ones]at h;rcases yD.1 hm with rfl|hm
  ·exact h.1
  ·exact zJq h.2 a hm
theorem VR.one {a:AV} {y:Value} (h:VR ρ a y) (k:a.one):y.oneCell'=true:=by
 cases a<;>simp only[AV.one]at k<;>simp only[VR]at h
 ·rw[h];exact k
 ·rw[h];rfl
 ·obtain⟨_,_,_,_,rfl⟩:=h;rfl
 ·obtain⟨_,_,_,_,_,_,_,_,_,rfl⟩:=h;rfl
 ·obtain⟨_,_,rfl,_⟩:=h;rfl
 ·obtain⟨_,_,rfl⟩:=h;rfl
 ·obtain⟨_,_,rfl⟩:=h;rfl
theorem zD4 {a:AV} {y:Value} (h:VR ρ a y) (k:a.isB):y=.bool a.b:=by
 unfold AV.isB at k;split at k
 ·simpa[VR,AV.b]using h
 ·exact k.elim
theorem zYi {a:AV} {y:Value} (h:VR ρ a y) (k:a.isN):∃q n c,y=.slice q n c∧q.isNone=a.nl:=by
 unfold AV.isN at k;split at k
 ·simp only[VR]at h
  exact⟨_,_,_,h,rfl⟩
 ·simp only[VR]at h
  obtain⟨q,c,c',o,_,_,_,_,h5,h6⟩:=h;refine⟨_,_,_,h6,?_⟩;cases q with
  | none=>have:=(h5 rfl).1;omega
  | some q=>rfl
 ·exact k.elim
theorem zS6 {a:AV} {y:Value} (h:VR ρ a y) (k:a.isNl):∃n c,y=.slice none n c:=by
 unfold AV.isNl at k;split at k
 ·simp only[VR]at h
  exact⟨_,_,h⟩
 ·exact k.elim
theorem zG0 {k:IntKind} {a:AV} {y:Value} (h:VR ρ a y) (hk:a.isI k):y=.int k a.i:=by
 unfold AV.isI at hk;split at hk
 ·subst hk;simpa[VR,AV.i]using h
 ·exact hk.elim
theorem zBa {a:AV} {y:Value} (h:VR ρ a y) (hk:a.isInt):∃k,y=.int k a.i:=by
 unfold AV.isInt at hk;split at hk
 ·exact⟨_,by simpa[VR,AV.i]using h⟩
 ·exact hk.elim
theorem zBl {a:AV} {y:Value} (h:VR ρ a y) (k:a.isStr):y=.string a.str:=by
 unfold AV.isStr at k;split at k
 ·simpa[VR,AV.str]using h
 ·exact k.elim
theorem zXn {a:AV} {y:Value} (h:VR ρ a y) (k:a.okb):y=.bool a.bb:=by
 cases a with
 | c b x =>
  simp only[AV.okb]at k;simp only[VR]at h;exact zD4 (h.1 k.1) k.2
 | _=>exact zD4 h k
theorem zXm {a:AV} {y:Value} (h:VR ρ a y) (k:a.okg) (want:Bool):(∃b,y=.bool b∧a.gd want=(b==want))∨(y=undef∧a.gd want=false):=by
 cases a with
 | c b x =>
  simp only[AV.okg]at k;simp only[VR]at h;cases b with
  | false=>exact .inr ⟨h.2 rfl,rfl⟩
  | true=>exact .inl ⟨_,zD4 (h.1 rfl) (k rfl),by simp[AV.gd]⟩
 | _=>exact .inl ⟨_,zD4 h k,by simp[AV.gd]⟩
theorem zK8 {a:AV} {y:Value} (h:VR ρ a y) (k:AV.ones a.cells):VRs ρ a.cells y.cells.toList:=by
 cases a with
 | g l =>
  simp only[VR]at h;obtain⟨ys,rfl,h2⟩:=h;simpa[Value.cells,AV.cells]using h2
 | _ =>
  have h1:=VR.one h (by simpa[AV.cells,AV.ones]using k)
  simp only[AV.cells,VRs];refine⟨y,[],?_,h,rfl⟩;cases y<;>simp_all[Value.cells,Value.oneCell']
theorem zOd:∀(l:List Value),VRs ρ (l.map .v) l
 | []=>by simp[VRs]
 | a::l=>by simp only[wE,VRs,VR];exact⟨a,l,rfl,rfl,zOd l⟩
theorem Rel.newRow (r:Rel X K w0 ρ F h w) (hi:F i) {cs:List AV} {ys:List Value} {esz cap:Nat} (el:TypeId) (hys:VRs ρ cs ys) (h1:∀y∈ys,y.oneCell'=true) (rest:List Value) (hsz:(ys++rest).length=cap*esz) (n:Nat) :
  ∃ρ':Ren,ρ.le ρ'∧ρ' i 0=some (some (w.heap.size,0),cap)∧Rel X K w0 ρ' (fun j=>F j∧j≠i) (up h i (some ⟨cs,0,true,esz⟩)) {w with heap:=w.heap.push (.cells (ys++rest).toArray el),drawn:=n}:=by
 obtain⟨ρ',e1,e2,_,e4⟩:=Rel.new (w':={w with heap:=w.heap.push (.cells (ys++rest).toArray el),drawn:=n}) r hi (k:=⟨cs,0,true,esz⟩) (arr:=(ys++rest).toArray) (el:=el) (cap:=cap) rfl (by simpa using hsz) (fun j c hc=>by
  obtain⟨y,g1,g2⟩:=hys.get j c hc;have hlt:j<ys.length:=by
   by_cases hj:j<ys.length
   ·exact hj
   ·rw[zG (by omega)]at g1;cases g1
  refine⟨y,?_,g2,h1 y (xW g1)⟩;simp only[zBq];rw[zL hlt];exact g1) rfl rfl rfl rfl
 exact⟨ρ',e1,e2,e4⟩
theorem zPo (r:Rel X K w0 ρ F h w) {a:AV} {n:Nat} (hs:lds X h a n) {y:Value} (hy:VR ρ a y) :
  ∃b o,y=.pointer (some ⟨b,o,none⟩)∧∀j,j<n→∃u,w.cell? ⟨b,o+j,none⟩=some u∧VR ρ (ldc X h a j) u:=by
 cases a with
 | p id ver off =>
  simp only[VR]at hy;obtain⟨b,base,c,hp,rfl⟩:=hy;simp only[lds]at hs;cases hk:h id with
  | none=>simp[hk]at hs
  | some k =>
   simp only[hk]at hs;obtain⟨rfl,hlen⟩:=hs;refine⟨b,base+off,rfl,fun j hj => ?_⟩
   rcases r.blk id k hk with ⟨b',base',cap',arr,el,fr,g1,g2,_,g4⟩|⟨g1,_⟩|⟨_,_,_,g1,_⟩
   ·rw[hp]at g1
    cases g1;have hjl:off+j<k.cells.length:=by omega
    obtain⟨u,u1,u2,_⟩:=g4 (off+j) k.cells[off+j] (zA hjl);refine⟨u,?_,?_⟩
    ·simp only[World.cell?,g2]
     simpa[xD]using u1
    ·simp only[ldc,hk]
     rw[zB,zA hjl];exact u2
   ·rw[hp]at g1;cases g1
   ·rw[hp]at g1;cases g1
 | gp g off =>
  simp only[VR]at hy;subst hy;simp only[lds]at hs;cases hk:X.G g with
  | none=>simp[hk]at hs
  | some cs =>
   simp only[hk]at hs;refine⟨g,off,rfl,fun j hj => ?_⟩
   obtain⟨_,arr,el,fr,g2,g3⟩:=r.glob g cs hk;have hjl:off+j<cs.length:=by omega
   have:=yGx g3 (off+j) cs[off+j] (zA hjl);refine⟨cs[off+j],?_,?_⟩
   ·simp only[World.cell?,g2]
    simpa using this
   ·simp only[ldc,hk]
    rw[zB,zA hjl];simp[VR]
 | _=>simp[lds]at hs
theorem zGy (a:AV):∀(n i:Nat),(ldcs X h a i n).length=n
 | 0,_=>rfl
 | n+1,i=>by simp[ldcs,zGy a n]
theorem zS0 (a:AV):∀(n i j:Nat),j<n→(ldcs X h a i n)[j]? = some (ldc X h a (i+j))
 | 0,_,_,hj=>by omega
 | n+1,i,0,_=>by simp[ldcs]
 | n+1,i,j+1,hj=>by
  simp only[ldcs,List.getElem?_cons_succ];rw[zS0 a n (i+1) j (by omega)]
  congr 2;omega
theorem zU3 {t:TypeId} {d:TypeDesc} (hu:X.P.underlying t=some d) (hd:TypeDesc.isRow d=true):(isAgg t).run X.P w=.ok true w:=by
 unfold isAgg;rw[Sem.run_bind,run_underlying hu w];cases d<;>simp_all
theorem zG1 {t:TypeId} {d:TypeDesc} (hu:X.P.underlying t=some d) (hd:TypeDesc.isRow d=false):(isAgg t).run X.P w=.ok false w:=by
 unfold isAgg;rw[Sem.run_bind,run_underlying hu w];cases d<;>simp_all
theorem zAu {t:TypeId} {j:TypeInfo} (hj:X.P.info? t=some j):(sizeOf t).run X.P w=.ok j.size w:=by simp[sizeOf,typeInfo,hj]
theorem zM9 (r:Rel X K w0 ρ F h w) {t:TypeId} (ht:TyOk X t) {d:TypeDesc} (hu:X.P.underlying t=some d) (hd:TypeDesc.isRow d=true) {a:AV} {y:Value} (hy:VR ρ a y) (hs:lds X h a (X.ti t).size) :
  ∃b u,y=.pointer (some b)∧(loadVar t b).run X.P w=.ok u w∧VR ρ (.g (ldcs X h a 0 (X.ti t).size)) u:=by
 obtain⟨b,o,rfl,hc⟩:=zPo r hs hy;obtain⟨j,z,hj,hsz,_,_,_⟩:=ht.info;have hch:∀m:Nat,∃u,m<(X.ti t).size→w.cell? ⟨b,o+m,none⟩=some u∧VR ρ (ldc X h a m) u:=fun m=>by
  by_cases hm:m<(X.ti t).size
  ·obtain⟨u,hu1⟩:=hc m hm;exact⟨u,fun _=>hu1⟩
  ·exact⟨undef,fun hm'=>absurd hm' hm⟩
 obtain⟨fu,hfu⟩:=Classical.axiomOfChoice hch;have hrun:=run_loadVar_mid (P:=X.P) w b o t ((List.range (X.ti t).size).map fu) d (fun m v hv=>by
  have hm:m<(X.ti t).size:=by
   by_cases hm:m<(X.ti t).size
   ·exact hm
   ·rw[zG (by simp;omega)]at hv;cases hv
  rw[xG,zDh hm]at hv;simp at hv;rw[←hv];exact (hfu m hm).1) hu hd (by rw[hj];simp[hsz])
 refine⟨_,_,rfl,hrun,?_⟩;simp only[VR];refine⟨_,rfl,VRs.mk (by simp[zGy]) fun m c u hm1 hm2 => ?_⟩
 have hm:m<(X.ti t).size:=by
  by_cases hm:m<(X.ti t).size
  ·exact hm
  ·rw[zG (by rw[zGy];omega)]at hm1;cases hm1
 rw[zS0 a _ 0 m hm]at hm1;rw[xG,zDh hm]at hm2;simp at hm1 hm2;subst hm1 hm2;exact (hfu m hm).2
theorem zC6 (r:Rel X K w0 ρ F h w) {t:TypeId} {d:TypeDesc} (hu:X.P.underlying t=some d) (hd:TypeDesc.isRow d=false) {a:AV} {y:Value} (hy:VR ρ a y) (hs:lds X h a 1) :
  ∃b u,y=.pointer (some b)∧(loadVar t b).run X.P w=.ok u w∧VR ρ (ldc X h a 0) u:=by
 obtain⟨b,o,rfl,hc⟩:=zPo r hs hy;obtain⟨u,u1,u2⟩:=hc 0 (by omega)
 simp only[yL]at u1;exact⟨_,u,rfl,by simp[loadVar,zG1 hu hd,u1],u2⟩
theorem zI0 (r:Rel X K w0 ρ F h w) {t:TypeId} (ht:TyOk X t) {d:TypeDesc} (hu:X.P.underlying t=some d) (hd:TypeDesc.isRow d=true) {a:AV} {y:Value} (hy:VR ρ a y) (hs:lds X h a (X.ti t).size) :
  Out X K w0 ρ F i hb (do pure (.value (←Instr.loadAt t y))) w ⟨lds X h a (X.ti t).size,.g (ldcs X h a 0 (X.ti t).size),h⟩:=by
 obtain⟨b,u,rfl,h1,h2⟩:=zM9 r ht hu hd hy hs;exact Out.pure (y:=u) r (by simp[Instr.loadAt,Instr.sureAddr,h1]) rfl h2
theorem zA9 (r:Rel X K w0 ρ F h w) {t:TypeId} {d:TypeDesc} (hu:X.P.underlying t=some d) (hd:TypeDesc.isRow d=false) {a:AV} {y:Value} (hy:VR ρ a y) (hs:lds X h a 1) :
  Out X K w0 ρ F i hb (do pure (.value (←Instr.loadAt t y))) w ⟨lds X h a 1,ldc X h a 0,h⟩:=by
 obtain⟨b,u,rfl,h1,h2⟩:=zC6 r hu hd hy hs;exact Out.pure (y:=u) r (by simp[Instr.loadAt,Instr.sureAddr,h1]) rfl h2
theorem zJ5 {α:Type}:∀(cs l:List α) (o:Nat),(wr l o cs).length=l.length
 | [],_,_=>rfl
 | _::r,l,o=>by simp[wr,zJ5 r]
theorem zV5 {α:Type}:∀(cs l:List α) (o j:Nat),o+cs.length≤l.length→(wr l o cs)[j]? = if o≤j∧j<o+cs.length then cs[j-o]? else l[j]?
 | [],l,o,j,_=>by simp[wr];omega
 | c::r,l,o,j,hl=>by
  simp only[wr,List.length_cons]at hl ⊢;rw[zV5 r (l.set o c) (o+1) j (by rw[zBp];omega)]
  by_cases h1:j=o
  ·subst h1
   rw[if_neg (by omega),if_pos (by omega),zB7 (by omega)]
   simp
  ·by_cases h2:o+1≤j∧j<o+1+r.length
   ·rw[if_pos h2,if_pos (by omega)]
    obtain⟨m,rfl⟩:∃m,j=o+1+m:=⟨j-o-1,by omega⟩
    rw[show o+1+m-o=m+1 by omega,show o+1+m-(o+1)=m by omega]
    simp
   ·rw[if_neg h2,if_neg (by omega)]
    rw[zAi (by omega)]
theorem zWt (r:Rel X K w0 ρ F h w) {t:TypeId} (ht:TyOk X t) {a x:AV} {y u:Value} (hy:VR ρ a y) (hu:VR ρ x u) (hs:sts h a (X.ti t).size) (hl:x.cells.length=(X.ti t).size) (ho:AV.ones x.cells) (sd:Prop) :
  Out X K w0 ρ F i hb (do Instr.storeAt t y u;pure .skip) w ⟨sd,.any,sth h a x.cells⟩:=by
 obtain⟨j,z,hj,hsz,_,_,_⟩:=ht.info;have hc:=zK8 hu ho;have hcl:u.cells.size=j.size:=by have:=hc.length;rw[xN]at this;omega
 have hone:∀v∈u.cells.toList,v.oneCell'=true:=fun v hv=>by
  obtain⟨m,hm⟩:=zE5 hv;have hml:m<x.cells.length:=by
   have:=hc.length;by_cases hq:m<x.cells.length
   ·exact hq
   ·rw[zG (by omega)]at hm;cases hm
  obtain⟨v',g1,g2⟩:=hc.get m _ (zA hml);rw[hm]at g1;cases g1;exact VR.one g2 (zJq ho _ (zH hml))
 cases a with
 | p id ver off =>
  simp only[VR]at hy;obtain⟨b,base,c,hp,rfl⟩:=hy;simp only[sts]at hs;cases hk:h id with
  | none=>simp[hk]at hs
  | some k =>
   simp only[hk]at hs;obtain⟨rfl,hrw,hlen⟩:=hs;rcases r.blk id k hk with ⟨b',base',cap',arr,el,fr,g1,g2,g3,g4⟩|⟨g1,_⟩|⟨_,_,_,g1,_⟩
   ·rw[hp]at g1
    cases g1;obtain⟨rfl,rfl,harr⟩:=g3 hrw;have hka:k.cells.length≤arr.size:=by
     by_cases hq:k.cells.length≤arr.size
     ·exact hq
     ·obtain⟨v,v1,_⟩:=g4 arr.size _ (zA (by omega))
      simp at v1
    have hfit:off+0+u.cells.toList.length≤arr.size:=by rw[xN];omega
    have hst:=run_storeCells_at X.P b off el u.cells.toList 0 arr w g2 hfit hone;simp only[yL]at hst;refine Out.skip (w':=w.setRow b (arr.toList.take off++u.cells.toList++arr.toList.drop (off+u.cells.toList.length)).toArray) ?_ ?_ (by simp[VR])
    ·simp only[Instr.storeAt,Instr.sureAddr,storeVar,Sem.run_bind,Sem.run_pure,Result.andThen_ok,yQ]
     rw[zAu hj];simp[hcl,hst]
    ·simp only[sth,hk]
     refine Rel.set r hk hrw hp g2 rfl hrw (arr':=(arr.toList.take off++u.cells.toList++arr.toList.drop (off+u.cells.toList.length)).toArray) ?_ ?_ (setRow_heap w b arr _ el _ g2) (fun m hm=>setRow_other w b m _ hm) ?_ rfl rfl rfl
     ·have hul:u.cells.toList.length=x.cells.length:=hc.length
      simp only[zCr,zM,zW,yS,xN]at hul ⊢;rw[←harr];omega
     ·intro m cc hm
      rw[zV5 _ _ _ _ (by omega)]at hm
      have hul:u.cells.toList.length=x.cells.length:=hc.length;simp only[zBq];by_cases h1:m<off
      ·rw[if_neg (by omega)]at hm
       obtain⟨v,v1,v2,v3⟩:=g4 m cc hm;refine⟨v,?_,v2,v3⟩;rw[xT,zL (by simp;omega),zY h1]
       simpa using v1
      ·by_cases h2:m<off+x.cells.length
       ·rw[if_pos (by omega)]at hm
        obtain⟨v,v1,v2⟩:=hc.get _ _ hm;refine⟨v,?_,v2,hone v (xW v1)⟩;rw[xT,yG (by simp;omega),zL (by simp at hul ⊢;omega)]
        rw[←v1];congr 1;simp;omega
       ·rw[if_neg (by omega)]at hm
        obtain⟨v,v1,v2,v3⟩:=g4 m cc hm;refine⟨v,?_,v2,v3⟩;have hoa:off≤arr.size:=by omega
        rw[yG (by simp at hul ⊢;omega),xA]
        rw[←v1];simp only[yQ,zM,zW,xN,hul,xC]at hul ⊢;congr 1;omega
     ·simp[World.setRow]
   ·rw[hp]at g1;cases g1
   ·rw[hp]at g1;cases g1
 | _=>simp[sts]at hs
end
end Go.Eng
namespace Go.Eng
open Go Go.RowKit
section
variable {X:Ctx} {K:Nat→Prop} {w0:World} {ρ:Ren} {F:Nat→Prop} {h:Heap} {w:World} {i:Nat} {hb:Bool}
theorem Out.laid {s:Sem Next} {z:ARes} {cs:List AV} {ys:List Value} {esz cap:Nat} (r:Rel X K w0 ρ F h w) (hi:F i) (el:TypeId) (hys:VRs ρ cs ys) (h1:∀y∈ys,y.oneCell'=true) (rest:List Value)
  (hsz:(ys++rest).length=cap*esz) (n:Nat) (y:Value) (hr:s.run X.P w=.ok (.value y) {w with heap:=w.heap.push (.cells (ys++rest).toArray el),drawn:=n})
  (hz:z.h=up h i (some ⟨cs,0,true,esz⟩)) (hv:∀ρ':Ren,ρ' i 0=some (some (w.heap.size,0),cap)→VR ρ' z.val y):Out X K w0 ρ F i true s w z:=by
 obtain⟨ρ',e1,e2,e3⟩:=Rel.newRow r hi el hys h1 rest hsz n;exact⟨_,_,ρ',hr,e1,by rw[hz];exact e3.anti fun j hj=>⟨hj.1,hj.2 rfl⟩,.inl ⟨y,rfl,hv ρ' e2⟩⟩
theorem zWv (r:Rel X K w0 ρ F h w) (hi:F i) {t:TypeId} (ht:TyOk X t) (sd:Prop) :
  Out X K w0 ρ F i true (do pure (.value (←Instr.alloc t true (.tuple #[])))) w ⟨sd,.p i 0 0,up h i (some ⟨(X.ti t).zero.map .v,0,true,(X.ti t).size⟩)⟩:=by
 obtain⟨j,z,hj,hsz,_,hz,hzc⟩:=ht.info;refine Out.laid (cs:=(X.ti t).zero.map .v) (ys:=(X.ti t).zero) (cap:=1) r hi t (zOd _) ht.zone [] (by simp[ht.zlen]) w.drawn (.pointer (some ⟨w.heap.size,0,none⟩)) ?_ rfl (fun ρ' e => ?_)
 ·simp[Instr.alloc,zeroValue,typeInfo,hj,hz,newVar,newRow,←hzc]
 ·simp only[VR];exact⟨_,_,_,e,rfl⟩
theorem yE7 (r:Rel X K w0 ρ F h w) (hi:F i) {t:TypeId} {x:AV} {u:Value} (hu:VR ρ x u) (ht:TyOk X t) (hl:x.cells.length=(X.ti t).size) (ho:AV.ones x.cells) (sd:Prop) :
  Out X K w0 ρ F i true (do pure (.value (←Instr.box t u))) w ⟨sd,.p i 0 0,up h i (some ⟨x.cells,0,true,(X.ti t).size⟩)⟩:=by
 obtain⟨j,z,hj,hsz,_,hz,hzc⟩:=ht.info;have hc:=zK8 hu ho;have hone:∀v∈u.cells.toList,v.oneCell'=true:=fun v hv=>by
  obtain⟨m,hm⟩:=zE5 hv;have hml:m<x.cells.length:=by
   have:=hc.length;by_cases hq:m<x.cells.length
   ·exact hq
   ·rw[zG (by omega)]at hm;cases hm
  obtain⟨v',g1,g2⟩:=hc.get m _ (zA hml);rw[hm]at g1;cases g1;exact VR.one g2 (zJq ho _ (zH hml))
 refine Out.laid (cs:=x.cells) (ys:=u.cells.toList) (cap:=1) r hi t hc hone [] (by have:=hc.length;simp at this ⊢;omega) w.drawn (.pointer (some ⟨w.heap.size,0,none⟩)) ?_ rfl (fun ρ' e => ?_)
 ·simp[Instr.box,newVar,newRow]
 ·simp only[VR];exact⟨_,_,_,e,rfl⟩
theorem VRs.set:∀{l:List AV} {ys:List Value} {c:AV} {y:Value} (o:Nat),VRs ρ l ys→VR ρ c y→VRs ρ (l.set o c) (ys.set o y)
 | [],_,_,_,_,h,_=>by simp[VRs]at h;subst h;simp[VRs]
 | _::as,_,_,_,o,h,k=>by
  simp only[VRs]at h;obtain⟨y',rest,rfl,h2,h3⟩:=h;cases o with
  | zero=>simp only[List.set_cons_zero,VRs];exact⟨_,_,rfl,k,h3⟩
  | succ o=>simp only[List.set_cons_succ,VRs];exact⟨_,_,rfl,h2,VRs.set o h3 k⟩
theorem VRs.wr:∀{cs l:List AV} {us ys:List Value} (o:Nat),VRs ρ l ys→VRs ρ cs us→VRs ρ (wr l o cs) (wr ys o us)
 | [],_,_,_,_,h,k=>by simp[VRs]at k;subst k;simpa[Eng.wr]using h
 | c::r,_,_,_,o,h,k=>by
  simp only[VRs]at k;obtain⟨y',rest,rfl,k2,k3⟩:=k;simp only[Eng.wr];exact VRs.wr (o+1) (VRs.set o h k2) k3
theorem zS9:∀(us:List Value) (cells:Array Value) (off k:Nat),(us.zipIdx k).foldl (fun (cs:Array Value) (p:Value×Nat)=>cs.setIfInBounds (off+p.2) p.1) cells=(wr cells.toList (off+k) us).toArray
 | [],cells,off,k=>by simp[wr]
 | u::us,cells,off,k=>by
  simp only[List.zipIdx_cons,List.foldl_cons,Eng.wr];rw[zS9 us _ off (k+1)];simp[xD]
theorem zJk {pl pl':Nat→Option (Nat×Nat)} (hpl:∀j,pl j=pl' j):∀(parts:List (Nat×AV)) (vals:List (Nat×Value)) (acs:List AV) (cells:Array Value),fillOk pl cells.size parts→VRs ρ acs cells.toList→
  parts.map (·.1)=vals.map (·.1)→VRs ρ (parts.map (·.2)) (vals.map (·.2))→∃cells',Instr.fill pl' cells vals=some cells'∧cells'.size=cells.size∧VRs ρ (fillC pl acs parts) cells'.toList
 | [],vals,acs,cells,_,hc,h1,_=>by
  have:vals=[]:=by simpa using h1.symm
  subst this;exact⟨cells,rfl,rfl,by simpa[fillC]using hc⟩
 | (j,x)::parts,[],acs,cells,_,_,h1,_=>by simp at h1
 | (j,x)::parts,(j',u)::vals,acs,cells,hok,hc,h1,h2=>by
  simp only[wE,List.cons.injEq]at h1;obtain⟨rfl,h1⟩:=h1;simp only[wE,VRs]at h2;obtain⟨y,rest,he,hx,h2⟩:=h2;simp only[List.cons.injEq]at he;obtain⟨rfl,rfl⟩:=he;simp only[fillOk]at hok;obtain⟨hp,ho,hok⟩:=hok;cases hj:pl j with
  | none=>simp[hj]at hp
  | some q =>
   obtain⟨off,size⟩:=q;simp only[hj]at hp;have hxc:=zK8 hx ho;have hus:u.cells.size=x.cells.length:=by have:=hxc.length;rw[xN]at this;omega
   have hcond:(u.cells.size≠size||off+u.cells.size > cells.size)=false:=by
    simp only[ne_eq,Bool.or_eq_false_iff,decide_eq_false_iff_not,Decidable.not_not];omega
   have hf:=zS9 u.cells.toList cells off 0;simp only[yL]at hf;obtain⟨cells',e1,e2,e3⟩:=zJk hpl parts vals (wr acs off x.cells) (wr cells.toList off u.cells.toList).toArray (by simpa[zJ5]using hok) (by simpa using VRs.wr off hc hxc) h1 h2
   refine⟨cells',?_,?_,?_⟩
   ·simp only[Instr.fill,←hpl,hj]
    rw[hcond];simp only[yO,if_false];rw[←e1,←hf];congr 1;rw[←Array.foldl_toList,Array.toList_zipIdx]
   ·rw[e2];simp[zJ5]
   ·simp only[fillC,hj];exact e3
theorem zHk {α β:Type} {P:Program} {q:α→Sem β} {k:α→β}:∀(l:List α),(∀f∈l,(q f).run P w=.ok (k f) w)→(l.mapM q).run P w=.ok (l.map k) w
 | [],_=>by simp
 | a::l,hl=>by
  rw[List.mapM_cons];simp only[Sem.run_bind,hl a (by simp),Result.andThen_ok,zHk l (fun f hf=>hl f (by simp[hf])),Sem.run_pure,wE]
theorem zKs {ev:Operand→AV} {a:Operand→Value} (hv:∀x,VR ρ (ev x) (a x)):∀(l:List Operand),VRs ρ (l.map ev) (l.map a)
 | []=>by simp[VRs]
 | x::l=>by simp only[wE,VRs];exact⟨_,_,rfl,hv x,zKs hv l⟩
theorem zJv {ev:Operand→AV} {a:Operand→Value} (hv:∀x,VR ρ (ev x) (a x)):∀(l:List (Nat×Operand)),VRs ρ ((l.map fun p=>(p.1,ev p.2)).map (·.2)) ((l.map fun p=>(p.1,a p.2)).map (·.2))
 | []=>by simp[VRs]
 | x::l=>by simp only[wE,VRs];exact⟨_,_,rfl,hv _,zJv hv l⟩
theorem zWu (r:Rel X K w0 ρ F h w) {ev:Operand→AV} {a:Operand→Value} (hv:∀x,VR ρ (ev x) (a x)) {t:TypeId} (ht:TyOk X t) (ps:Array (Nat×Operand)) (sd:Prop)
  (hd:match (X.ti t).d with | .struct _ _=>True | .arr _ _=>True|_=>False) (hok:fillOk (place X t) (X.ti t).size (ps.toList.map fun p=>(p.1,ev p.2))) :
  Out X K w0 ρ F i hb (do pure (.value (←Instr.build t (ps.map fun (i,x)=>(i,a x))))) w ⟨sd,.g (fillC (place X t) ((X.ti t).zero.map .v) (ps.toList.map fun p=>(p.1,ev p.2))),h⟩:=by
 obtain⟨j,z,hj,hsz,_,hz,hzc⟩:=ht.info;have hzs:z.cells.size=(X.ti t).size:=by rw[←xN,hzc];exact ht.zlen
 have hzv:VRs ρ ((X.ti t).zero.map .v) z.cells.toList:=by rw[hzc];exact zOd _
 have key:∀pl':Nat→Option (Nat×Nat),(∀q,place X t q=pl' q)→∃cells',Instr.fill pl' z.cells (ps.toList.map fun p=>(p.1,a p.2))=some cells'∧VRs ρ (fillC (place X t) ((X.ti t).zero.map .v) (ps.toList.map fun p=>(p.1,ev p.2))) cells'.toList:=fun pl' hp=>by
  obtain⟨c',e1,_,e3⟩:=zJk (ρ:=ρ) hp (ps.toList.map fun p=>(p.1,ev p.2)) (ps.toList.map fun p=>(p.1,a p.2)) ((X.ti t).zero.map .v) z.cells (by rw[hzs];exact hok) hzv (by simp) (zJv hv _)
  exact⟨c',e1,e3⟩
 have hde:=ht.desc;have hpm:(ps.map fun (x:Nat×Operand)=>match x with|(i,x)=>(i,a x)).toList=ps.toList.map fun p=>(p.1,a p.2):=by simp
 unfold xI at hde;cases hdd:(X.ti t).d with
 | struct fs eq =>
  rw[hdd]at hde;obtain⟨⟨E,hu,hfs,hfi⟩,_⟩:=hde;have hm:(E.mapM fun f:Field=>do pure (f.offset,←sizeOf f.type)).run X.P w=.ok (E.map fun f:Field=>(f.offset,(X.ti f.type).size)) w:=by
   rw[Array.mapM_eq_mapM_toList,Sem.run_map,zHk (k:=fun f:Field=>(f.offset,(X.ti f.type).size)) E.toList (fun f hf=>by
    obtain⟨jf,hjf,hjs⟩:=hfi f hf;simp[zAu hjf,hjs])]
   simp[Array.ext_iff]
  obtain⟨c',e1,e2⟩:=key (fun q=>(E.map fun f:Field=>(f.offset,(X.ti f.type).size))[q]?) (fun q=>by
   simp only[place,hdd,←hfs];simp[Function.comp_def])
  refine Out.pure (y:=.agg c') r ?_ rfl (by simp only[VR];exact⟨c'.toList,by simp,e2⟩)
  simp only[Instr.build,Sem.run_bind,zeroValue,typeInfo,run_program,Result.andThen_ok,hj,hz,Sem.run_pure,run_underlying hu,hm];rw[hpm,e1];simp
 | arr n e =>
  rw[hdd]at hde;obtain⟨hu,je,hje,hjes⟩:=hde;have hok2:fillOk (fun q=>some (q*(X.ti e).size,(X.ti e).size)) (X.ti t).size (ps.toList.map fun p=>(p.1,ev p.2))∧fillC (fun q=>some (q*(X.ti e).size,(X.ti e).size)) ((X.ti t).zero.map .v) (ps.toList.map fun p=>(p.1,ev p.2))=fillC (place X t) ((X.ti t).zero.map .v) (ps.toList.map fun p=>(p.1,ev p.2)):=by
   clear key;generalize (ps.toList.map fun p=>(p.1,ev p.2))=l at hok
   generalize (X.ti t).zero.map AV.v=cs;clear hzv
   induction l generalizing cs with
   | nil=>simp[fillOk,fillC]
   | cons q l ih =>
    obtain⟨q1,q2⟩:=q;simp only[fillOk,place,hdd]at hok;by_cases hq:q1<n
    ·simp only[hq,if_true]at hok
     have:=ih hok.2.2 (wr cs (q1*(X.ti e).size) q2.cells);exact⟨by simp only[fillOk];exact⟨hok.1,hok.2.1,this.1⟩,by simp only[fillC,place,hdd,hq,if_true];simpa only[place,hdd]using this.2⟩
    ·simp[hq]at hok
  obtain⟨c',e1,_,e3⟩:=zJk (ρ:=ρ) (pl:=fun q=>some (q*(X.ti e).size,(X.ti e).size)) (pl':=fun q=>some (q*je.size,je.size)) (fun q=>by simp[hjes]) (ps.toList.map fun p=>(p.1,ev p.2)) (ps.toList.map fun p=>(p.1,a p.2)) ((X.ti t).zero.map .v) z.cells (by rw[hzs];exact hok2.1) hzv (by simp) (zJv hv _)
  rw[hok2.2]at e3;refine Out.pure (y:=.agg c') r ?_ rfl (by simp only[VR];exact⟨c'.toList,by simp,e3⟩)
  simp only[Instr.build,Sem.run_bind,zeroValue,typeInfo,run_program,Result.andThen_ok,hj,hz,Sem.run_pure,run_underlying hu,zAu hje];rw[hpm,e1];simp
 | _=>rw[hdd]at hd;exact hd.elim
theorem zJl (z:List Value):∀n,VRs ρ (repZ z n) ((List.replicate n z).flatten)
 | 0=>by simp[repZ,VRs]
 | n+1=>by
  simp only[repZ,List.replicate_succ,List.flatten_cons];exact VRs.append (zOd z) (zJl z n)
theorem zCx (z:List Value):∀n,(repZ z n).length=n*z.length
 | 0=>by simp[repZ]
 | n+1=>by simp[repZ,zCx z n,wC,Nat.add_comm]
theorem zO2 (z:List Value) (hz:0<z.length) (n:Nat):(Array.range (n*z.length)).map (fun j=>z.toArray[j%z.length]!)=((List.replicate n z).flatten).toArray:=by
 apply Array.ext_getElem?;intro q;simp only[Array.getElem?_map,zBq];by_cases hq:q<n*z.length
 ·rw[Array.getElem?_eq_getElem (by simpa using hq)]
  simp only[Array.getElem_range,zK];have hm:q%z.length<z.length:=Nat.mod_lt _ hz
  induction n generalizing q with
  | zero=>simp at hq
  | succ n ih =>
   simp only[List.replicate_succ,List.flatten_cons];by_cases h1:q<z.length
   ·rw[zL h1,Nat.mod_eq_of_lt h1]
    simp[h1]
   ·rw[yG (by omega),←ih (q-z.length) (by rw[wC]at hq;omega) (Nat.mod_lt _ hz)]
    rw[Nat.mod_eq_sub_mod (by omega)]
 ·rw[wK (by simpa using hq),zG (by simp;omega)]
  rfl
theorem yGd {z:List Value} {n:Nat} {y:Value} (h:y∈(List.replicate n z).flatten):y∈z:=by
 simp only[List.mem_flatten,List.mem_replicate]at h;obtain⟨l,⟨_,rfl⟩,hy⟩:=h;exact hy
theorem VRs.ones {l:List AV} {ys:List Value} (hr:VRs ρ l ys) (ho:AV.ones l):∀y∈ys,y.oneCell'=true:=fun v hv=>by
 obtain⟨m,hm⟩:=zE5 hv;have hml:m<l.length:=by
  have:=hr.length;by_cases hq:m<l.length
  ·exact hq
  ·rw[zG (by omega)]at hm;cases hm
 obtain⟨v',g1,g2⟩:=hr.get m _ (zA hml);rw[hm]at g1;cases g1;exact VR.one g2 (zJq ho _ (zH hml))
theorem zLm (r:Rel X K w0 ρ F h w) (hi:F i) {ev:Operand→AV} {a:Operand→Value} (hv:∀x,VR ρ (ev x) (a x)) {t e:TypeId} (hu:X.P.underlying t=some (.slice e)) (he:TyOk X e) (len:Nat) (ps:Array (Nat×Operand)) (sd:Prop)
  (hpos:0<(X.ti e).size) (hmx:len*(X.ti e).size≤16777216) (hok:fillOk (fun j=>some (j*(X.ti e).size,(X.ti e).size)) (len*(X.ti e).size) (ps.toList.map fun p=>(p.1,ev p.2)))
  (ho:AV.ones (fillC (fun j=>some (j*(X.ti e).size,(X.ti e).size)) (repZ (X.ti e).zero len) (ps.toList.map fun p=>(p.1,ev p.2)))) :
  Out X K w0 ρ F i true (do pure (.value (←Instr.buildSlice t len (ps.map fun (i,x)=>(i,a x))))) w ⟨sd,.s i 0 0 len,up h i (some ⟨fillC (fun j=>some (j*(X.ti e).size,(X.ti e).size)) (repZ (X.ti e).zero len) (ps.toList.map fun p=>(p.1,ev p.2)),0,true,(X.ti e).size⟩)⟩:=by
 obtain⟨j,z,hj,hsz,_,hz,hzc⟩:=he.info;have hzl:z.cells.toList.length=(X.ti e).size:=by rw[hzc];exact he.zlen
 have hra:(Array.range (len*(X.ti e).size)).map (fun q=>z.cells[q%z.cells.size]!)=((List.replicate len z.cells.toList).flatten).toArray:=by
  have:=zO2 z.cells.toList (by omega) len
  rw[hzl]at this
  have hzs:z.cells.size=(X.ti e).size:=by rw[←xN];exact hzl
  rw[←this,hzs]
 have hrep:VRs ρ (repZ (X.ti e).zero len) ((List.replicate len z.cells.toList).flatten):=by rw[←hzc];exact zJl _ _
 have hrl:((List.replicate len z.cells.toList).flatten).length=len*(X.ti e).size:=by have:=hrep.length;rw[zCx,he.zlen]at this;exact this
 obtain⟨c',e1,e2,e3⟩:=zJk (ρ:=ρ) (pl:=fun q=>some (q*(X.ti e).size,(X.ti e).size)) (pl':=fun q=>some (q*j.size,j.size)) (fun q=>by simp[hsz]) (ps.toList.map fun p=>(p.1,ev p.2)) (ps.toList.map fun p=>(p.1,a p.2)) (repZ (X.ti e).zero len) ((List.replicate len z.cells.toList).flatten).toArray (by simpa only[zCr,hrl]using hok) (by simpa using hrep) (by simp) (zJv hv _)
 have hpm:(ps.map fun (x:Nat×Operand)=>match x with|(i,x)=>(i,a x)).toList=ps.toList.map fun p=>(p.1,a p.2):=by simp
 have hcs:c'.size=len*(X.ti e).size:=by rw[e2];simpa only[zCr]using hrl
 refine Out.laid (cap:=len) r hi e e3 (e3.ones ho) [] (by simp[hcs]) w.drawn (.slice (some ⟨w.heap.size,0,none⟩) len len) ?_ rfl (fun ρ' hp => ?_)
 ·have h2:¬(len*j.size > 2^24):=by rw[hsz];omega
  by_cases hl0:len=0
  ·subst hl0
   simp only[zEd,List.replicate_zero,List.flatten_nil]at e1;simp only[Instr.buildSlice,Sem.run_bind,run_underlying hu,Result.andThen_ok,zAu hj,zEd,if_true,Sem.run_pure,Sem.run_ite,show ¬(0 > 2^24) by decide,if_false]
   rw[hpm];have e0:(Array.map (fun x=>(#[]:Array Value)[x%(#[]:Array Value).size]!) (Array.range 0)) = #[]:=by simp[Array.range]
   rw[e0,e1];simp[newRow]
  ·have h3:¬(len*j.size=0):=by
    rw[hsz];have:=Nat.mul_pos (Nat.pos_of_ne_zero hl0) hpos;omega
   simp only[Instr.buildSlice,Sem.run_bind,run_underlying hu,Result.andThen_ok,zAu hj,h2,if_false,zeroValue,typeInfo,run_program,hj,hz,Sem.run_pure,h3,Sem.run_ite];rw[hsz,hra,hpm];rw[hsz]at e1;rw[e1];simp[newRow]
 ·simp only[VR]
  exact⟨_,_,_,0,hp,zC _,fun _=>rfl,fun _=>rfl,(fun e=>by cases e),rfl⟩
end
end Go.Eng
