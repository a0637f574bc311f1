import Derived.Test.YtbffkkeieihpdaaGreatDoorX20
import Derived.Test.YtbffkkeieihpdaaGreatDoorX37
import Derived.Test.YtbffkkeieihpdaaGreatDoorX38
import Derived.Test.YtbffkkeieihpdaaGreatDoorX34
import Derived.Test.YtbffkkeieihpdaaGreatDoorX27
import Derived.Test.YtbffkkeieihpdaaGreatDoorX29
import Derived.Test.YtbffkkeieihpdaaGreatDoorX36
set_option linter.unusedSimpArgs false
set_option linter.unusedVariables false
set_option linter.constructorNameAsVariable false
set_option maxRecDepth 100000
set_option maxHeartbeats 4000000
namespace Go.Proofs.YtbffkkeieihpdaaGreatDoor
open Go Go.Eng
def deVc:List AV→Option V
 | [.v (.bool k),.v (.int .i64 n)]=>some ⟨k,n⟩
 | _=>none
theorem deVc_out {l:List AV} {x:V} (h:deVc l=some x):l=vcells x:=by
 unfold deVc at h
 split at h
 ·cases h;rfl
 ·cases h
def dV:De V where
 run _ l:=deVc l
 sim {h h' l x} hh e:=e
theorem Flat.v:Flat 2 dV vcells:=⟨fun _ _ _ e=>deVc_out e,fun _ _=>rfl,fun _=>rfl⟩
def G67a:=pureH de67 (fun q=>TrOk q.1∧0≤q.2∧q.2<(q.1.t.length:Int)) fun q=>vv (valAt q.1.sc q.1.its q.1.en q.1.t q.2.toNat)
theorem P67a:P0 S67 148 G67a:=by
 refine⟨fun args h h' hh hs => ?_,.inl ⟨callable Tryz.func148 rfl rfl _ _,fun ρ h w args vs r hmx ha hs => ?_⟩⟩
 ·obtain⟨a,e,hp,hall⟩:=pureH_out de67_mono hs
  have e1:G67a args h'=_:=hall h' hh
  have e2:G67a args h=_:=hall h (fun _ _ e=>e)
  rw[e1,e2]
  exact⟨hp,rfl⟩
 ·obtain⟨a,e,hp,hall⟩:=pureH_out de67_mono hs
  have e2:G67a args h=_:=hall h (fun _ _ e=>e)
  have e3:G67 a.1.t.length args h=⟨TrOk a.1∧0≤a.2∧a.2<(a.1.t.length:Int)∧a.2<(a.1.t.length:Int),vv (valAt a.1.sc a.1.its a.1.en a.1.t a.2.toNat)⟩:=by simp only[G67,pureH,e]
  have hs':(G67 a.1.t.length args h).side:=by rw[e3];exact⟨hp.1,hp.2.1,hp.2.2,hp.2.2⟩
  have hv:(G67 a.1.t.length args h).val=(G67a args h).val:=by rw[e3,e2]
  rcases (P67 a.1.t.length).2 with ⟨_,k⟩|k
  ·have:=k ρ h w args vs r hmx ha hs'
   rwa [hv]at this
  ·obtain⟨y,e9,_⟩:=k ρ h w args vs ha hs'
   rw[callable (S:=S67) Tryz.func148 rfl rfl]at e9
   cases e9
theorem okTo_get {vs:List ByteArray} {t:List Nd} (h:okTo vs t t.length=true) (i:Nat) (hi:i<t.length):nodeOk vs t t[i]=true:=by
 unfold okTo at h
 rw[List.take_length,List.all_eq_true]at h
 exact h _ (List.getElem_mem hi)
theorem run_trok {sc:List Ty} {vs:List ByteArray} {t:List Nd} {en:En} (h1:smallS sc) (h2:smallT t) (h3:EnOk en) (hr:runT vs t=true):TrOk ⟨sc,t,t.map (itemV vs),en⟩:=by
 simp only[runT,Bool.and_eq_true]at hr
 refine⟨h1,h2,hr.1,by simp,fun i hi h4 h11 => ?_,h3⟩
 have:=okTo_get hr.2 i hi
 simp only[]at hi h4 h11 ⊢
 rw[nodeOk,if_neg (by omega),if_pos h11,decide_eq_true_eq]at this
 rw[List.getD_eq_getElem?_getD,List.getElem?_map,List.getElem?_eq_getElem hi]
 simp only[Option.map_some,Option.getD_some,itemV,if_pos (And.intro h4 h11)]
 exact this
theorem map_flatT (l:List Int):l.map ii=l.flatMap fun x=>[ii x]:=by
 induction l with
 | nil=>rfl
 | cons x l ih=>rw[List.map_cons,List.flatMap_cons,ih];rfl
theorem ints_in {h:Heap} {w:Nat} {l:List Int} {u:Nat} {own:Bool} {esz:Nat} (hk:h w=some ⟨l.map ii,u,own,esz⟩):rd dIs h (.s w u 0 l.length)=some l:=by
 refine flat_in Flat.int hk rfl (r:=[]) ?_
 simp only[List.append_nil,map_flatT]
structure Eq38 where
 sc:List Ty
 q:Qu
 t:List Nd
 en:En
structure EqOk (v:Eq38):Prop where
 sc:smallS v.sc
 ln:v.q.items.length<big
 sm:smallT v.t
 rg:∀x∈v.t,Rng x.n
 en:EnOk v.en
def de38 (h:Heap):List AV→Option Eq38
 | [s,q,t,e]=>match deSc h s,deQ h q,rd dNs h t,deEn h e with
  | some s,some q,some t,some e=>some ⟨s,q,t,e⟩
  | _,_,_,_=>none
 | _=>none
theorem de38_out {h:Heap} {args:List AV} {v:Eq38} (e:de38 h args=some v):∃s q t e,args=[s,q,t,e]∧deSc h s=some v.sc∧deQ h q=some v.q∧rd dNs h t=some v.t∧deEn h e=some v.en:=by
 unfold de38 at e
 split at e
 ·split at e
  ·rename_i e1 e2 e3 e4
   cases e
   exact⟨_,_,_,_,rfl,e1,e2,e3,e4⟩
  ·cases e
 ·cases e
theorem de38_in {h:Heap} {s q t e:AV} {v:Eq38} (e1:deSc h s=some v.sc) (e2:deQ h q=some v.q) (e3:rd dNs h t=some v.t) (e4:deEn h e=some v.en):de38 h [s,q,t,e]=some v:=by
 simp only[de38,e1,e2,e3,e4]
theorem de38_mono (h h':Heap) (args:List AV) (v:Eq38) (hh:h.le h') (e:de38 h args=some v):de38 h' args=some v:=by
 obtain⟨s,q,t,x,rfl,e1,e2,e3,e4⟩:=de38_out e
 exact de38_in (deSc_sim hh.sim e1) (deQ_sim hh.sim e2) (rd_mono hh e3) (deEn_sim hh.sim e4)
def G38:=pureH de38 EqOk fun v=>vv (evalV v.sc (vars v.q.items) v.en v.t)
def tb37:List (FuncId×(List AV→Heap→PRes)):=[(148,G67a)]
theorem P37:P0 (3::S67) 98 G38:=by
 refine mkH 4 (S:=3::S67) (l:=tb37) (tb_cons P67a tb_nil) Tryz.func98 rfl (by kernel_rfl) de38_mono (fun h l x e=>by obtain⟨s,q,t,y,rfl,_⟩:=de38_out e;exact Nat.le_refl _) (fun a=>rfl) (fun args v h n e hp hn => ?_)
 obtain⟨sa,qa,ta,ea,rfl,e1,e2,e3,e4⟩:=de38_out e
 obtain⟨sc,q,t,en⟩:=v
 obtain⟨hsc,hqb,hsm,hrg,hen⟩:=hp
 simp only[]at e1 e2 e3 e4 hsc hqb hsm hrg hen ⊢
 have g2:=q_agree hn e2
 have g3:=rd_agree hn e3
 obtain⟨c1,rfl,r1⟩:=deSc_out e1
 obtain⟨qa1,qa2,qa3,rfl,e5,e6,e7⟩:=deQ_out e2
 obtain⟨la,rfl,e8⟩:=deEn_out e4
 have t1:=(sl_is r1).2.2.2.1
 have t2:=(sl_is e5).2.2.2.1
 have t3:=(sl_is e6).2.2.2.1
 have t4:=(sl_is e7).2.2.2.1
 have t5:=(sl_is e8).2.2.2.1
 obtain⟨s1,s2,s3,s4,s5⟩:=sl_is e3
 have p1:=rd_agree hn r1
 have p4:=rd_agree hn e8
 simp only[ii,ss]at g2
 simp[evx,ii,ss,t1,t2,t3,t4,t5,s1,s2,s3,s4,s5,tb37]
 have ag:∀b1 b2 b3 b4:Option Blk,agree n (roH h) (up (up (up (up (roH h) n b1) (n+1) b2) (n+2) b3) (n+3) b4):=fun b1 b2 b3 b4=>by simp[agree_up,agree_refl]
 have fr:∀b1 b2 b3 b4:Option Blk,Fresh (n+4) (up (up (up (up (roH h) n b1) (n+1) b2) (n+2) b3) (n+3) b4):=fun b1 b2 b3 b4=>by simp[fresh_up,(roH_fresh hn).add]
 refine (acall_any (S:=[3]) (by simp) (c54 (g2 _ (ag _ _ _ _)) (g3 _ (ag _ _ _ _)) hqb hsm (fr _ _ _ _))).mono ?_
 rintro v h2 n2 ⟨a1,a2,a3,a4⟩
 have b0:h2 n=some ⟨[c1],0,true,1⟩:=by rw[a1 n (by omega)];simp[up]
 have b3:h2 (n+3)=some ⟨[.v (.bool false),.v (.int .i64 0)],0,true,2⟩:=by rw[a1 (n+3) (by omega)];simp[up]
 have b2:h2 (n+2)=some ⟨[la,.v (.int .i64 en.each),.v (.int .i64 en.pos)],0,true,3⟩:=by rw[a1 (n+2) (by omega)];simp[up]
 have ag2:agree n (roH h) h2:=fun j hj=>by rw[a1 j (by omega)];exact ag _ _ _ _ j hj
 unfold runPost at a4
 cases hr:runT (vars q.items) t with
 | false =>
  rw[hr]at a4
  simp only[Bool.false_eq_true,if_false]at a4
  subst a4
  have hv:evalV sc (vars q.items) en t=unk:=by simp[evalV,hr]
  simp[evx,b3,hv,vv,unk,bv]
 | true =>
  rw[hr]at a4
  simp only[if_true]at a4
  obtain⟨w,rfl,hw,hw1,hw2⟩:=a4
  have hv:evalV sc (vars q.items) en t=valAt sc (t.map (itemV (vars q.items))) en t (t.length-1):=by simp[evalV,hr]
  have hto:=run_trok hsc hsm hen hr
  have hpos:=tree_pos hto.tr
  simp only[]at hpos
  have hl1:IntKind.i64.wrap ((t.length:Int)-1)=((t.length-1:Nat):Int):=by
   have:=wrapm1 (e:=t.length-1) (by have:t.length*64≤140737488355328:=hsm;unfold big;omega)
   rwa [show t.length-1+1=t.length by omega]at this
  have hlt:((t.length-1:Nat):Int)<t.length:=by omega
  have hlt2:t.length-1<t.length:=by omega
  have hpos0:0<t.length:=hpos
  have gev:∀h',agree n2 h2 h'→h' n2=some ⟨[c1,ta,.s w 0 0 t.length,la,.v (.int .i64 en.each),.v (.int .i64 en.pos)],0,true,6⟩→deEvr h' (.p n2 0 0)=some ⟨sc,t,t.map (itemV (vars q.items)),en⟩:=fun h' ha hb=>by
   have ag3:agree n (roH h) h':=fun j hj=>by rw[ha j (by omega)];exact ag2 j hj
   have hiw:rd dIs h' (.s w 0 0 t.length)=some (t.map (itemV (vars q.items))):=by
    have:=ints_in (h:=h') (w:=w) (l:=t.map (itemV (vars q.items))) (by rw[ha w hw2];exact hw)
    rwa [List.length_map]at this
   exact deEvr_in (q:=⟨sc,t,t.map (itemV (vars q.items)),en⟩) hb (p1 _ ag3) (g3 _ ag3) hiw (p4 _ ag3)
  have z1:¬n=n2:=by omega
  have z2:¬n+2=n2:=by omega
  have z3:¬n+3=n2:=by omega
  generalize hcast:((t.length-1:Nat):Int)=lm at *
  have hlm:lm.toNat=t.length-1:=by omega
  have hlm0:0≤lm:=by omega
  simp[evx,b0,b2,b3,t1,t5,s1,s2,s3,s4,s5,bv,hv,G67a,pureH,de67,gev,agree_up,agree_refl,hl1,hto,hlt,hlm,hlm0,vv,z1,z2,z3]
section
section
variable {sc:List Ty} {q:Qu} {t:List Nd}
theorem plan_comps_len:(planOf sc q).comps.length=(posI q q.items.length).length:=by show (cmpsOf sc q (conjs q) q.items.length).length=_;rw[cmpsOf,List.length_map]
end
end
structure Us where
 bare:List Int
 prev:List Int
 agg:List Int
def deUs (h:Heap):AV→Option Us
 | .g [a,b,c]=>(rd dIs h a).bind fun x=>(rd dIs h b).bind fun y=>(rd dIs h c).map fun z=>⟨x,y,z⟩
 | _=>none
theorem deUs_out {h:Heap} {a:AV} {u:Us} (e:deUs h a=some u):∃x y z,a=.g [x,y,z]∧rd dIs h x=some u.bare∧rd dIs h y=some u.prev∧rd dIs h z=some u.agg:=by
 unfold deUs at e
 split at e
 ·simp only[Option.bind_eq_some_iff,Option.map_eq_some_iff]at e
  obtain⟨x,e1,y,e2,z,e3,rfl⟩:=e
  exact⟨_,_,_,rfl,e1,e2,e3⟩
 ·cases e
theorem deUs_in {h:Heap} {x y z:AV} {u:Us} (e1:rd dIs h x=some u.bare) (e2:rd dIs h y=some u.prev) (e3:rd dIs h z=some u.agg):deUs h (.g [x,y,z])=some u:=by
 simp only[deUs,e1,e2,e3,Option.bind_some,Option.map_some]
def rUz:Rdr Us where
 run:=deUs
 sim hh e:=by
  obtain⟨x,y,z,rfl,e1,e2,e3⟩:=deUs_out e
  exact deUs_in (rd_sim hh e1) (rd_sim hh e2) (rd_sim hh e3)
def okNm (q:Qu×Us):Prop:=q.1.items.length<big∧q.2.bare.length<big
def namedV (q:Qu) (l:List Int):Bool:=l.all fun i=>decide (0≤i)&&decide (i<(q.items.length:Int))
def GNamed:=pureH (de2 rQ rUz) okNm fun q=>bv (namedV q.1 q.2.bare)
theorem P90:P0 [] 90 GNamed:=by
 refine mkH 2 (S:=[]) (l:=[]) tb_nil Tryz.func90 rfl (by kernel_rfl) de2_mono de2_len (fun a=>rfl) (fun args v h n e hp hn => ?_)
 obtain⟨a,b,rfl,e1,e2⟩:=de2_out e
 obtain⟨q,u⟩:=v
 simp only[]at e1 e2 hp ⊢
 obtain⟨qa,qb,qc,rfl,x1,x2,x3⟩:=deQ_out e1
 obtain⟨ua,ub,uc,rfl,y1,y2,y3⟩:=deUs_out e2
 obtain⟨hq,hu⟩:=hp
 simp only[]at hq hu
 have o1:=(sl_is x2).2.2.2.1
 have o2:=(sl_is x3).2.2.2.1
 have o3:=(sl_is y2).2.2.2.1
 have o4:=(sl_is y3).2.2.2.1
 obtain⟨s1,s2,s3,s4,s5⟩:=sl_is x1
 obtain⟨t1,t2,t3,t4,t5⟩:=sl_is y1
 have key:∀e:Nat→AV,e 0=.g [qa,ii q.mode,ii q.after,qb,ii q.within,ss q.par,qc]→e 1=.g [ua,ub,uc]→awp (cx [] (pfL [])) (Tryz.f90.body.getD .skip) (finQ (cx [] (pfL [])) Tryz.f90 fun z _ _=>z=bv (namedV q u.bare)) ⟨e,roH h,n⟩:=fun e q0 q1=>by
  simp[evx,Tryz.f90,q0,q1,ii,ss,o1,o2,o3,o4,s4,t4]
  refine awp_loop (fun s=>∃j:Nat,j≤u.bare.length∧s.e 2=.p n 0 0∧s.e 3=.p (n+1) 0 0∧s.e 5=ii j∧agree n (roH h) s.h∧s.h n=some ⟨[qa,ii q.mode,ii q.after,qb,ii q.within,ss q.par,qc],0,true,7⟩∧s.h (n+1)=some ⟨[ua,ub,uc],0,true,3⟩∧∀i (hi:i<u.bare.length),i<j→0≤u.bare[i]∧u.bare[i]<(q.items.length:Int)) (fun s=>u.bare.length-(s.e 5).i.toNat) ⟨0,by simp[up,ii,ss,agree_up,agree_refl]⟩ ?_
  rintro e' h' n' ⟨j,hj,q2,q3,q5,hag,b2,b3,hno⟩
  simp only[ii,ss]at q2 q3 q5 hag b2 b3
  by_cases hlt:j<u.bare.length
  ·rcases is_at y1 with ⟨h0,_⟩|⟨id,off,k,rfl,hk,ho,hat⟩
   ·rw[h0]at hlt;simp at hlt
   have hr:=hat j hlt
   have ha':=agree_at hn hk hag
   have hw:=wrap_nat (j:=j) (by omega)
   have hw1:off+(j+1)≤k.cells.length:=by omega
   by_cases c0:0≤u.bare[j]
   ·by_cases c1:u.bare[j]<(q.items.length:Int)
    ·have c1':¬(q.items.length:Int)≤u.bare[j]:=by omega
     have c0':¬u.bare[j]<0:=by omega
     simp[evx,q2,q3,q5,b2,b3,ii,bv,hlt,ha',hr,hw1,s1,s2,s3,c0,c0',c1,c1',hw,ss]
     refine⟨⟨j+1,by omega,by omega,hag,fun i hi h1 => ?_⟩,by omega⟩
     by_cases e:i=j
     ·subst e;exact⟨c0,c1⟩
     ·exact hno i hi (by omega)
    ·have c1':(q.items.length:Int)≤u.bare[j]:=by omega
     have c0':¬u.bare[j]<0:=by omega
     have hv:namedV q u.bare=false:=by
      unfold namedV
      rw[List.all_eq_false]
      exact⟨u.bare[j],List.getElem_mem hlt,by simp[c1]⟩
     simp[evx,q2,q3,q5,b2,b3,ii,bv,hlt,ha',hr,hw1,s1,s2,s3,c0,c0',c1,c1',hv]
   ·have c0':u.bare[j]<0:=by omega
    have hv:namedV q u.bare=false:=by
     unfold namedV
     rw[List.all_eq_false]
     exact⟨u.bare[j],List.getElem_mem hlt,by simp[c0]⟩
    simp[evx,q2,q3,q5,b2,b3,ii,bv,hlt,ha',hr,hw1,c0,c0',hv]
  ·obtain rfl:j=u.bare.length:=by omega
   have hv:namedV q u.bare=true:=by
    unfold namedV
    rw[List.all_eq_true]
    intro x hx
    obtain⟨i,hi,rfl⟩:=List.mem_iff_getElem.1 hx
    obtain⟨h1,h2⟩:=hno i hi hi
    simp[h1,h2]
   simp[evx,q2,q3,q5,b2,b3,ii,bv,t1,t2,t3,hv]
 exact key _ rfl rfl
def ngdV (q:Qu) (l:List Int):Int:=match l.find? (ngQ q)with
 | some i=>i
 | none=>-1
def okNg (q:Qu×Us):Prop:=q.1.items.length<big∧q.2.bare.length<big∧∀i∈q.2.bare,0≤i∧i<(q.1.items.length:Int)
def GNeg:=pureH (de2 rQ rUz) okNg fun q=>ii (ngdV q.1 q.2.bare)
theorem P48:P0 [] 48 GNeg:=by
 refine mkH 2 (S:=[]) (l:=[]) tb_nil Tryz.func48 rfl (by kernel_rfl) de2_mono de2_len (fun a=>rfl) (fun args v h n e hp hn => ?_)
 obtain⟨a,b,rfl,e1,e2⟩:=de2_out e
 obtain⟨q,u⟩:=v
 simp only[]at e1 e2 hp ⊢
 obtain⟨qa,qb,qc,rfl,x1,x2,x3⟩:=deQ_out e1
 obtain⟨ua,ub,uc,rfl,y1,y2,y3⟩:=deUs_out e2
 obtain⟨hq,hu,hin⟩:=hp
 simp only[]at hq hu hin
 have o1:=(sl_is x2).2.2.2.1
 have o2:=(sl_is x3).2.2.2.1
 have o3:=(sl_is y2).2.2.2.1
 have o4:=(sl_is y3).2.2.2.1
 obtain⟨s1,s2,s3,s4,s5⟩:=sl_is x1
 obtain⟨t1,t2,t3,t4,t5⟩:=sl_is y1
 have key:∀e:Nat→AV,e 0=.g [qa,ii q.mode,ii q.after,qb,ii q.within,ss q.par,qc]→e 1=.g [ua,ub,uc]→awp (cx [] (pfL [])) (Tryz.f48.body.getD .skip) (finQ (cx [] (pfL [])) Tryz.f48 fun z _ _=>z=ii (ngdV q u.bare)) ⟨e,roH h,n⟩:=fun e q0 q1=>by
  simp[evx,Tryz.f48,q0,q1,ii,ss,o1,o2,o3,o4,s4,t4]
  refine awp_loop (fun s=>∃j:Nat,j≤u.bare.length∧s.e 2=.p n 0 0∧s.e 3=.p (n+1) 0 0∧s.e 5=ii j∧agree n (roH h) s.h∧s.h n=some ⟨[qa,ii q.mode,ii q.after,qb,ii q.within,ss q.par,qc],0,true,7⟩∧s.h (n+1)=some ⟨[ua,ub,uc],0,true,3⟩∧∀i∈u.bare.take j,ngQ q i=false) (fun s=>u.bare.length-(s.e 5).i.toNat) ⟨0,by simp[up,ii,ss,agree_up,agree_refl]⟩ ?_
  rintro e' h' n' ⟨j,hj,q2,q3,q5,hag,b2,b3,hno⟩
  simp only[ii,ss]at q2 q3 q5 hag b2 b3
  by_cases hlt:j<u.bare.length
  ·rcases is_at y1 with ⟨h0,_⟩|⟨id,off,k,rfl,hk,ho,hat⟩
   ·rw[h0]at hlt;simp at hlt
   have hr:=hat j hlt
   have ha':=agree_at hn hk hag
   have hw:=wrap_nat (j:=j) (by omega)
   have hw1:off+(j+1)≤k.cells.length:=by omega
   obtain⟨c0,c1⟩:=hin _ (List.getElem_mem hlt)
   obtain⟨m,hm⟩:=Int.eq_ofNat_of_zero_le c0
   have hml:m<q.items.length:=by omega
   obtain⟨iid,ioff,ik,ty,z1,z2,z3,z4,z5,z6,z7,z8,z9⟩:=its_cell x1 hml
   have hi':=agree_at hn z2 hag
   have hib:ioff+(m*5+1)≤ik.cells.length:=by omega
   rw[←itA_at hml]at z5
   have hng:ngQ q u.bare[j]=(itA q m).neg:=by rw[hm];rfl
   have hms:=hm
   cases hn2:(itA q m).neg with
   | true =>
    rw[hn2]at hng
    have hv:ngdV q u.bare=(m:Int):=by
     unfold ngdV
     rw[find_at hlt hno hng]
     exact hm
    simp[evx,q2,q3,q5,b2,b3,ii,bv,hlt,ha',hr,hw1,hm,hml,z1,hi',hib,z5,hn2,hv]
   | false =>
    rw[hn2]at hng
    simp[evx,q2,q3,q5,b2,b3,ii,bv,hlt,ha',hr,hw1,hm,hml,z1,hi',hib,z5,hn2,hw,ss]
    refine⟨⟨j+1,by omega,by omega,hag,fun i hi => ?_⟩,by omega⟩
    rw[List.take_succ_eq_append_getElem hlt]at hi
    rcases List.mem_append.1 hi with hi|hi
    ·exact hno i hi
    ·rw[List.mem_singleton.1 hi];exact hng
  ·obtain rfl:j=u.bare.length:=by omega
   have hv:ngdV q u.bare=-1:=by
    unfold ngdV
    rw[find_none fun x hx=>hno x (by rw[List.take_length];exact hx)]
   simp[evx,q2,q3,q5,b2,b3,ii,bv,t1,t2,t3,hv]
 exact key _ rfl rfl
section
def bindE (P:Pl) (b:List (List Ev)) (i:Nat):Bool:=decide ((P.comps.getD i cmp0).lo≤((b.getD i []).length:Int))&&decide (((b.getD i []).length:Int)≤(P.comps.getD i cmp0).hi)&&(b.getD i []).all fun x=>decide (x.ty∈(P.comps.getD i cmp0).types)
def bindsV (P:Pl) (b:List (List Ev)):Bool:=decide (b.length=P.comps.length)&&(List.range b.length).all (bindE P b)
structure okBn (q:Pl×List (List Ev)):Prop where
 ln:q.1.comps.length<big
 bl:q.2.length<big
 bs:∀l∈q.2,l.length<big
 cs:∀k∈q.1.comps,k.types.length<big
def rEss:Rdr (List (List Ev)):=rL dEss
def GBinds:=pureH (de2 rPl rEss) okBn fun q=>bv (bindsV q.1 q.2)
def loopB:Code→Code
 | .block _ (.loop c)=>c
 | _=>.skip
noncomputable def c42A:Code:=bodyL (hdC 1 (tlC 2 (Tryz.f42.body.getD .skip)))
noncomputable def c42i:Code:=inB (hdC 1 (tlC 1 c42A))
noncomputable def c42B:Code:=loopB (tlC 3 c42i)
noncomputable def c42k:Code:=inB (hdC 1 (tlC 1 c42B))
noncomputable def c42C:Code:=bodyL (hdC 1 (tlC 1 c42k))
theorem mem_snoc (A:List Int) (c y:Int):decide (y∈A++[c])=(decide (y∈A)||decide (c=y)):=by
 by_cases h1:y∈A<;>by_cases h2:c=y<;>simp[h1,h2,@eq_comm _ y c]
structure I42 (H:Heap) (n:Nat) (p:Pt) (P:Pl) (ba:AV) (i:Nat) (s:St):Prop where
 q1:s.e 1=ba
 q2:s.e 2=.p n 0 0
 q5:s.e 5=ii i
 b2:s.h n=some ⟨pcells p P,0,true,16⟩
 ag:agree n H s.h
 fr:Fresh s.n s.h
 nn:n+1≤s.n
structure J42 (H:Heap) (n:Nat) (p:Pt) (P:Pl) (ba:AV) (i:Nat) (cm:Cmp) (m:Nat) (ty ow cn:AV) (s:St):Prop where
 a:I42 H n p P ba i s
 q6:s.e 6=.p m 0 0
 b6:s.h m=some ⟨[ii cm.item,ty,ii cm.lo,ii cm.hi,ow,cn],0,true,6⟩
theorem I42.up {H:Heap} {n:Nat} {p:Pt} {P:Pl} {ba:AV} {i:Nat} {s:St} (a:I42 H n p P ba i s) {e':Nat→AV} (he:∀j∈[1,2,5],e' j=s.e j):I42 H n p P ba i ⟨e',s.h,s.n⟩ :=
 ⟨(he 1 (by simp)).trans a.q1,(he 2 (by simp)).trans a.q2,(he 5 (by simp)).trans a.q5,a.b2,a.ag,a.fr,a.nn⟩
theorem J42.up {H:Heap} {n:Nat} {p:Pt} {P:Pl} {ba:AV} {i:Nat} {cm:Cmp} {m:Nat} {ty ow cn:AV} {s:St} (a:J42 H n p P ba i cm m ty ow cn s) {e':Nat→AV} (he:∀j∈[1,2,5,6],e' j=s.e j):J42 H n p P ba i cm m ty ow cn ⟨e',s.h,s.n⟩ :=
 ⟨a.a.up fun j hj=>he j (by simp at hj ⊢;omega),(he 6 (by simp)).trans a.q6,a.b6⟩
def V42 (H:Heap) (n:Nat) (p:Pt) (P:Pl) (ba:AV) (i:Nat) (cm:Cmp) (m:Nat) (ty ow cn:AV) (k:Nat) (x:Ev) (h1:Heap) (n2:Nat) (s:St):Prop :=
 ∃j:Nat,j≤cm.types.length∧J42 H n p P ba i cm m ty ow cn s∧s.e 7=ii k∧s.e 8=bv (decide (x.ty∈cm.types.take j))∧s.e 9=ii j∧s.h=h1∧s.n=n2
section
variable {H:Heap} {n:Nat} {p:Pt} {P:Pl} {ba:AV} {b:List (List Ev)} {i:Nat} {cm:Cmp} {m:Nat} {ty ow cn:AV}
theorem b42C (hn:Fresh n H) (rb:rd dEss H ba=some b) (rt:rd dIs H ty=some cm.types) (htl:cm.types.length<big) {k:Nat} (hi:i<b.length) (hk:k<(b.getD i []).length) (e:Nat→AV) (h1:Heap) (n2:Nat) (a:J42 H n p P ba i cm m ty ow cn ⟨e,h1,n2⟩) (q7:e 7=ii k) (q8:e 8=bv false) (q9:e 9=ii 0) {Q:Ex→St→Prop}
  (hQ:∀e',J42 H n p P ba i cm m ty ow cn ⟨e',h1,n2⟩→e' 7=ii k→e' 8=bv (decide ((b.getD i [])[k].ty∈cm.types))→Q (.exit 4) ⟨e',h1,n2⟩) :
  awp (cx [] (pfL [])) (.loop c42C) Q ⟨e,h1,n2⟩:=by
 refine awp_loop (V42 H n p P ba i cm m ty ow cn k (b.getD i [])[k] h1 n2) (fun s=>cm.types.length-(s.e 9).i.toNat) ⟨0,Nat.zero_le _,a,q7,by simp[q8],q9,rfl,rfl⟩ ?_
 rintro e' h' n' ⟨j,hj,J,q7,q8,q9,rfl,rfl⟩
 have J0:=J
 obtain⟨⟨q1,q2,q5,b2,ag,fr,nn⟩,q6,b6⟩:=J
 simp only[]at q1 q2 q5 b2 ag fr nn q6 b6 q7 q8 q9
 obtain⟨t1,t2,t3,t4,t5⟩:=sl_is rt
 by_cases hlt:j<cm.types.length
 ·rcases is_at rt with ⟨h0,_⟩|⟨tid,toff,tk,rfl,htk,tho,that⟩
  ·rw[h0]at hlt;simp at hlt
  have tr:=that j hlt
  have htk':h' tid=some tk:=(ag _ (lt_of htk hn)).trans htk
  have tw1:toff+(j+1)≤tk.cells.length:=by omega
  obtain⟨bid,boff,bk,c,rfl,hbk,bho,bc,brd⟩:=sls_getD rb hi
  have hbk':h' bid=some bk:=(ag _ (lt_of hbk hn)).trans hbk
  have bw1:boff+(i+1)≤bk.cells.length:=by omega
  rcases es_at brd with ⟨h0,_⟩|⟨cid,coff,ck,rfl,hck,cho,chat⟩
  ·rw[h0]at hk;simp at hk
  have hck':h' cid=some ck:=(ag _ (lt_of hck hn)).trans hck
  have cr:=cell_of (c:=2) (chat k hk) rfl (by omega)
  rw[Nat.add_assoc]at cr
  have cw1:coff+(k*11+3)≤ck.cells.length:=by omega
  have hkk:k<b[i].length:=by rw[List.getD_eq_getElem?_getD,List.getElem?_eq_getElem hi]at hk;exact hk
  have hw:=wrap_nat (j:=j) (by omega)
  have hm:∀y:Int,decide (y∈cm.types.take (j+1))=(decide (y∈cm.types.take j)||decide (cm.types[j]=y)):=fun y=>by
   rw[List.take_succ_eq_append_getElem hlt,mem_snoc]
  generalize (b.getD i [])[k]=x at *
  have fin:∀e'',(∀j∈[1,2,5,6],e'' j=e' j)→e'' 7=ii k→e'' 8=bv (decide (x.ty∈cm.types.take (j+1)))→e'' 9=ii (j+1:Nat)→V42 H n p P (.s bid bk.ver boff b.length) i cm m (.s tid tk.ver toff cm.types.length) ow cn k x h' n' ⟨e'',h',n'⟩:=fun e'' k1 k2 k3 k4=>⟨j+1,hlt,J0.up k1,k2,k3,k4,rfl,rfl⟩
  rw[hm]at fin
  by_cases hy:cm.types[j]=x.ty
  ·rw[decide_eq_true hy,Bool.or_true]at fin
   simp[evx,c42C,c42k,c42B,c42i,c42A,inB,bodyL,loopB,hdC,tlC,Tryz.f42,q1,q5,q6,q7,q8,q9,b6,ii,ss,bv,t1,t2,t3,hlt,htk',tr,tw1,hbk',bc,bw1,hi,hck',cr,cw1,hkk,hy,hw]
   refine⟨fin _ (by simp[up]) (by simp[up,q7]) (by simp[up,bv]) (by simp[up,ii]),by omega⟩
  ·rw[decide_eq_false hy,Bool.or_false]at fin
   simp[evx,c42C,c42k,c42B,c42i,c42A,inB,bodyL,loopB,hdC,tlC,Tryz.f42,q1,q5,q6,q7,q8,q9,b6,ii,ss,bv,t1,t2,t3,hlt,htk',tr,tw1,hbk',bc,bw1,hi,hck',cr,cw1,hkk,hy,hw]
   refine⟨fin _ (by simp[up]) (by simp[up,q7]) (by simp[up,q8]) (by simp[up,ii]),by omega⟩
 ·obtain rfl:j=cm.types.length:=by omega
  rw[List.take_length]at q8
  simp[evx,c42C,c42k,c42B,c42i,c42A,inB,bodyL,loopB,hdC,tlC,Tryz.f42,q6,q9,b6,ii,t1,t2,t3]
  exact hQ _ (J0.up (by simp[up])) (by simp[up,q7]) (by simp[up,q8])
end
end
section
def U42 (H:Heap) (n:Nat) (p:Pt) (P:Pl) (ba:AV) (i:Nat) (cm:Cmp) (m:Nat) (ty ow cn:AV) (l:List Ev) (h1:Heap) (n2:Nat) (s:St):Prop :=
 ∃k:Nat,k≤l.length∧J42 H n p P ba i cm m ty ow cn s∧s.e 7=ii k∧s.h=h1∧s.n=n2∧∀j (hj:j<l.length),j<k→decide (l[j].ty∈cm.types)=true
section
variable {H:Heap} {n:Nat} {p:Pt} {P:Pl} {ba:AV} {b:List (List Ev)} {i:Nat} {cm:Cmp} {m:Nat} {ty ow cn:AV}
theorem b42B (hn:Fresh n H) (rb:rd dEss H ba=some b) (rt:rd dIs H ty=some cm.types) (htl:cm.types.length<big) (hbl:∀l∈b,l.length<big) (hi:i<b.length) (e:Nat→AV) (h1:Heap) (n2:Nat) (a:J42 H n p P ba i cm m ty ow cn ⟨e,h1,n2⟩) (q7:e 7=ii 0) {Q:Ex→St→Prop}
  (hQ1:((b.getD i []).all fun x=>decide (x.ty∈cm.types))=true→∀e',J42 H n p P ba i cm m ty ow cn ⟨e',h1,n2⟩→Q (.exit 2) ⟨e',h1,n2⟩)
  (hQ2:((b.getD i []).all fun x=>decide (x.ty∈cm.types))=false→∀e',e' 4=bv false→Q .ret ⟨e',h1,n2⟩) :
  awp (cx [] (pfL [])) (.loop c42B) Q ⟨e,h1,n2⟩:=by
 refine awp_loop (U42 H n p P ba i cm m ty ow cn (b.getD i []) h1 n2) (fun s=>(b.getD i []).length-(s.e 7).i.toNat) ⟨0,Nat.zero_le _,a,q7,rfl,rfl,fun j hj h=>by omega⟩ ?_
 rintro e' h' n' ⟨k,hk,J,q7,rfl,rfl,hno⟩
 have J0:=J
 obtain⟨⟨q1,q2,q5,b2,ag,fr,nn⟩,q6,b6⟩:=J
 simp only[]at q1 q2 q5 b2 ag fr nn q6 b6 q7
 obtain⟨bid,boff,bk,c,rfl,hbk,bho,bc,brd⟩:=sls_getD rb hi
 have hbk':h' bid=some bk:=(ag _ (lt_of hbk hn)).trans hbk
 have bw1:boff+(i+1)≤bk.cells.length:=by omega
 obtain⟨c1,c2,c3,c4,c5⟩:=sl_is brd
 have hgl:b.getD i []=b[i]:=by rw[List.getD_eq_getElem?_getD,List.getElem?_eq_getElem hi];rfl
 have hlb:=hbl _ (List.getElem_mem hi)
 rw[←hgl]at hlb
 by_cases hlt:k<(b.getD i []).length
 ·have hlt':k<b[i].length:=by rw[←hgl];exact hlt
  refine awp_cut 1 _ _ (R:=fun s=>J42 H n p P (.s bid bk.ver boff b.length) i cm m ty ow cn s∧s.e 7=ii k∧s.h=h'∧s.n=n') ?_ fun e2 h2 n3 ⟨J2,k7,k8,k9⟩ => ?_
  ·simp[evx,c42B,c42i,c42A,inB,bodyL,loopB,hdC,tlC,Tryz.f42,q1,q5,q7,ii,hbk',bc,bw1,hi,c1,c2,c3,hlt']
   exact J0.up (by simp[up])
  ·simp only[]at k7 k8 k9
   subst k8
   subst k9
   show awp _ (.seq (.block 3 c42k) (tlC 2 c42B)) _ _
   rw[awp_seq,awp_block]
   refine awp_cut 1 _ _ (R:=fun s=>J42 H n p P (.s bid bk.ver boff b.length) i cm m ty ow cn s∧s.e 7=ii k∧s.e 8=bv false∧s.h=h2∧s.n=n3) ?_ fun e3 h3 n4 ⟨J3,z7,z8,z9,z10⟩ => ?_
   ·simp[evx,c42k,c42B,c42i,c42A,inB,bodyL,loopB,hdC,tlC,Tryz.f42]
    exact⟨J2.up (by simp[up]),by simp[up,k7],by simp[up,bv]⟩
   simp only[]at z7 z8 z9 z10
   subst z9
   subst z10
   refine awp_cut 1 _ _ (R:=fun s=>J42 H n p P (.s bid bk.ver boff b.length) i cm m ty ow cn s∧s.e 7=ii k∧s.e 8=bv (decide ((b.getD i [])[k].ty∈cm.types))∧s.h=h3∧s.n=n4) ?_ fun e5 h5 n6 ⟨J5,y7,y8,y9,y10⟩ => ?_
   ·show awp _ (.seq (hdC 1 (hdC 1 (tlC 1 c42k))) (.block 4 (.loop c42C))) _ _
    rw[awp_seq]
    refine awp_mono _ (fun x s hxx => ?_) (show awp (cx [] (pfL [])) (hdC 1 (hdC 1 (tlC 1 c42k))) (thenQ (fun s=>J42 H n p P (.s bid bk.ver boff b.length) i cm m ty ow cn s∧s.e 7=ii k∧s.e 8=bv false∧s.e 9=ii 0∧s.h=h3∧s.n=n4) fun _ _=>False) ⟨e3,h3,n4⟩ from ?_)
    ·cases x with
     | normal =>
      obtain⟨e6,h6,n7⟩:=s
      rw[thenQ_n]at hxx
      obtain⟨J6,x7,x8,x9,rfl,rfl⟩:=hxx
      rw[thenQ_n,awp_block]
      refine b42C hn rb rt htl hi hlt e6 _ _ J6 x7 x8 x9 fun e7 J7 v7 v8 => ?_
      rw[blockQ_e,if_pos rfl,thenQ_n]
      exact⟨J7,v7,v8,rfl,rfl⟩
     | exit i=>exact (by simp[thenQ_e]at hxx:False).elim
     | ret=>exact (by simp[thenQ_r]at hxx:False).elim
    ·simp[evx,c42k,c42B,c42i,c42A,inB,bodyL,loopB,hdC,tlC,Tryz.f42]
     exact⟨J3.up (by simp[up]),by simp[up,z7],by simp[up,z8],by simp[up,ii]⟩
   simp only[]at y7 y8 y9 y10
   subst y9
   subst y10
   have hw:=wrap_nat (j:=k) (by omega)
   cases hd:decide ((b.getD i [])[k].ty∈cm.types)with
   | true =>
    rw[hd]at y8
    simp[evx,c42k,c42B,c42i,c42A,inB,bodyL,loopB,hdC,tlC,Tryz.f42,y7,y8,ii,bv,hw]
    refine⟨⟨k+1,hlt,J5.up (by simp[up]),by simp[up,ii],rfl,rfl,fun j hj h => ?_⟩,?_⟩
    ·by_cases e:j=k
     ·subst e;exact hd
     ·exact hno j hj (by omega)
    ·have hk7:(e' 7).i.toNat=k:=by rw[q7];simp[ii,AV.i]
     rw[hk7]
     rw[←List.getD_eq_getElem?_getD,hgl]
     try simp[up,ii,AV.i]
     omega
   | false =>
    rw[hd]at y8
    simp[evx,c42k,c42B,c42i,c42A,inB,bodyL,loopB,hdC,tlC,Tryz.f42,y7,y8,ii,bv,hw]
    refine hQ2 ?_ _ (by simp[up,bv])
    rw[List.all_eq_false]
    exact⟨_,List.getElem_mem hlt,by rw[hd];simp⟩
 ·obtain rfl:k=(b.getD i []).length:=by omega
  have hall:((b.getD i []).all fun x=>decide (x.ty∈cm.types))=true:=by
   rw[List.all_eq_true]
   intro x hx
   obtain⟨j,hj,rfl⟩:=List.mem_iff_getElem.1 hx
   exact hno j hj hj
  rw[hgl]at c2 q7
  simp[evx,c42B,c42i,c42A,inB,bodyL,loopB,hdC,tlC,Tryz.f42,q1,q5,q7,ii,hbk',bc,bw1,hi,c1,c2,c3]
  exact hQ1 hall _ (J0.up (by simp[up]))
end
end
section
def T42 (H:Heap) (n:Nat) (p:Pt) (P:Pl) (ba:AV) (b:List (List Ev)) (s:St):Prop :=
 ∃i:Nat,i≤b.length∧I42 H n p P ba i s∧∀j,j<i→bindE P b j=true
section
variable {H:Heap} {n:Nat} {p:Pt} {P:Pl} {ba:AV} {b:List (List Ev)}
theorem b42A (hn:Fresh n H) (pl:PlR H p P) (rb:rd dEss H ba=some b) (ok:okBn (P,b)) (hlen:b.length=P.comps.length) (e:Nat→AV) (h1:Heap) (n2:Nat) (a:I42 H n p P ba 0 ⟨e,h1,n2⟩) {Q:Ex→St→Prop}
  (hQ1:(List.range b.length).all (bindE P b)=true→∀s',Q (.exit 0) s')
  (hQ2:(List.range b.length).all (bindE P b)=false→∀s',s'.e 4=bv false→Q .ret s') :
  awp (cx [] (pfL [])) (.loop c42A) Q ⟨e,h1,n2⟩:=by
 refine awp_loop (T42 H n p P ba b) (fun s=>b.length-(s.e 5).i.toNat) ⟨0,Nat.zero_le _,a,fun j h=>by omega⟩ ?_
 rintro e' h' n' ⟨i,hi,J,hno⟩
 have J0:=J
 obtain⟨q1,q2,q5,b2,ag,fr,nn⟩:=J
 simp only[]at q1 q2 q5 b2 ag fr nn
 obtain⟨t1,t2,t3,t4,t5⟩:=sl_is rb
 have hbl:=ok.bl
 simp only[]at hbl
 by_cases hlt:i<b.length
 ·have hno':∀(hf:bindE P b i=false),(List.range b.length).all (bindE P b)=false:=fun hf=>by
   rw[List.all_eq_false]
   exact⟨i,List.mem_range.2 hlt,by rw[hf];simp⟩
  have hic:i<P.comps.length:=by omega
  obtain⟨id,off,k,ty,ow,cn,hu,hk,ho,r1,r2,r3,z0,z1,z2,z3,z4,z5⟩:=cmp_cell pl.cm hic
  have hk':h' id=some k:=(ag _ (lt_of hk hn)).trans hk
  have hg:P.comps.getD i cmp0=P.comps[i]:=by rw[List.getD_eq_getElem?_getD,List.getElem?_eq_getElem hic];rfl
  have htl:=ok.cs _ (List.getElem_mem hic)
  have hbE:bindE P b i=(decide ((P.comps[i]).lo≤((b.getD i []).length:Int))&&decide (((b.getD i []).length:Int)≤(P.comps[i]).hi)&&(b.getD i []).all fun x=>decide (x.ty∈(P.comps[i]).types)):=by unfold bindE;rw[hg]
  have v1:=(sl_is r1).2.2.2.1
  have v2:=(sl_is r2).2.2.2.1
  have v3:=(sl_is r3).2.2.2.1
  generalize P.comps[i]=cm at *
  refine awp_cut 1 _ _ (R:=fun s=>I42 H n p P ba i s) ?_ fun e2 h2 n3 J2 => ?_
  ·simp[evx,c42A,bodyL,hdC,tlC,Tryz.f42,q1,q5,ii,t1,t2,t3,hlt]
   exact J0.up (by simp[up])
  ·show awp _ (.seq (.block 1 c42i) (tlC 2 c42A)) _ _
   rw[awp_seq,awp_block]
   have J2':=J2
   obtain⟨q1,q2,q5,b2,ag,fr,nn⟩:=J2
   simp only[]at q1 q2 q5 b2 ag fr nn
   have hk2:h2 id=some k:=(ag _ (lt_of hk hn)).trans hk
   have nid:¬n=n3:=by omega
   refine awp_cut 1 _ _ (R:=fun s=>J42 H n p P ba i cm n3 ty ow cn s) ?_ fun e4 h4 n5 J4 => ?_
   ·simp[evx,c42i,c42A,inB,bodyL,hdC,tlC,Tryz.f42,q2,q5,b2,pcells,ii,ss,bv,hu,hk2,ho,hic,z0,z1,z2,z3,z4,z5,v1,v2,v3,ldcs_6]
    exact⟨⟨by simp[up,q1],by simp[up,q2],by simp[up,q5],by simp only[];rw[up_ne _ _ (by omega),up_ne _ _ (by omega)];exact b2,(agree_up (by omega) _).2 ((agree_up (by omega) _).2 ag),(show Fresh (n3+2) _ from (fresh_up (by omega) _).2 ((fresh_up (by omega) _).2 (fr.add 2))),by simp only[];omega⟩,by simp[up],by simp[up,ii]⟩
   have J4':=J4
   obtain⟨⟨q1,q2,q5,b2,ag,fr,nn⟩,q6,b6⟩:=J4
   simp only[]at q1 q2 q5 b2 ag fr nn q6 b6
   obtain⟨bid,boff,bk,c,rfl,hbk,bho,bc,brd⟩:=sls_getD rb hlt
   have hbk':h4 bid=some bk:=(ag _ (lt_of hbk hn)).trans hbk
   have bw1:boff+(i+1)≤bk.cells.length:=by omega
   obtain⟨c1,c2,c3,c4,c5⟩:=sl_is brd
   have hgl:b.getD i []=b[i]:=by rw[List.getD_eq_getElem?_getD,List.getElem?_eq_getElem hlt];rfl
   have hlo:((b.getD i []).length:Int)=(b[i].length:Int):=by rw[hgl]
   by_cases hlo:cm.lo≤((b.getD i []).length:Int)
   ·by_cases hhi:((b.getD i []).length:Int)≤cm.hi
    ·have hlo':¬(b[i].length:Int)<cm.lo:=by rw[←hgl];omega
     have hhi':¬cm.hi<(b[i].length:Int):=by rw[←hgl];omega
     refine awp_cut 2 _ _ (R:=fun s=>J42 H n p P (.s bid bk.ver boff b.length) i cm n3 ty ow cn s∧s.e 7=ii 0) ?_ fun e6 h6 n7 ⟨J6,k7⟩ => ?_
     ·simp[evx,c42i,c42A,inB,bodyL,hdC,tlC,Tryz.f42,q1,q5,q6,b6,ii,hbk',bc,bw1,hlt,c1,c2,c3,hlo',hhi']
      exact J4'.up (by simp[up])
     ·simp only[]at k7
      show awp _ (.block 2 (.loop c42B)) _ _
      rw[awp_block]
      refine b42B hn rb r1 htl ok.bs hlt e6 h6 n7 J6 k7 (fun hall e8 J8 => ?_) fun hall e8 h8 => ?_
      ·rw[blockQ_e,if_pos rfl,blockQ_n,thenQ_n]
       have hbt:bindE P b i=true:=by rw[hbE,decide_eq_true hlo,decide_eq_true hhi,hall];rfl
       have q5':=J8.a.q5
       simp only[]at q5'
       have hw:=wrap_nat (j:=i) (by omega)
       simp[evx,c42A,bodyL,hdC,tlC,Tryz.f42,q5',ii,hw]
       have g1:=J8.a.q1
       have g2:=J8.a.q2
       simp only[]at g1 g2
       refine⟨⟨i+1,hlt,⟨by simp[up,g1],by simp[up,g2],by simp[up,ii],J8.a.b2,J8.a.ag,J8.a.fr,J8.a.nn⟩,fun j hj => ?_⟩,?_⟩
       ·by_cases e:j=i
        ·subst e;exact hbt
        ·exact hno j (by omega)
       ·have hk5:(e' 5).i.toNat=i:=by have:=J0.q5;simp only[]at this;rw[this];simp[ii,AV.i]
        rw[hk5]
        omega
      ·rw[blockQ_r,blockQ_r,thenQ_r]
       exact hQ2 (hno' (by rw[hbE,hall,Bool.and_false])) _ h8
    ·have hlo':¬(b[i].length:Int)<cm.lo:=by rw[←hgl];omega
     have hhi':cm.hi<(b[i].length:Int):=by rw[←hgl];omega
     simp[evx,c42i,c42A,inB,bodyL,hdC,tlC,Tryz.f42,q1,q5,q6,b6,ii,hbk',bc,bw1,hlt,c1,c2,c3,hlo',hhi']
     exact hQ2 (hno' (by rw[hbE,decide_eq_false hhi];simp)) _ (by simp[up,bv])
   ·have hlo':(b[i].length:Int)<cm.lo:=by rw[←hgl];omega
    simp[evx,c42i,c42A,inB,bodyL,hdC,tlC,Tryz.f42,q1,q5,q6,b6,ii,hbk',bc,bw1,hlt,c1,c2,c3,hlo']
    exact hQ2 (hno' (by rw[hbE,decide_eq_false hlo];simp)) _ (by simp[up,bv])
 ·obtain rfl:i=b.length:=by omega
  simp[evx,c42A,bodyL,hdC,tlC,Tryz.f42,q1,q5,ii,t1,t2,t3]
  exact hQ1 (by rw[List.all_eq_true];intro j hj;exact hno j (List.mem_range.1 hj)) _
end
theorem P42:P0 [] 42 GBinds:=by
 refine mkH 2 (S:=[]) (l:=[]) tb_nil Tryz.func42 rfl (by kernel_rfl) de2_mono de2_len (fun a=>rfl) (fun args v h n e hp hn => ?_)
 obtain⟨a,ba,rfl,e1,e2⟩:=de2_out e
 obtain⟨P,b⟩:=v
 simp only[]at e1 e2 hp ⊢
 have pl0:=rPl.agree hn e1 _ (agree_refl _ _)
 have rb:rd dEss (roH h) ba=some b:=rEss.agree hn e2 _ (agree_refl _ _)
 obtain⟨p,rfl,pl⟩:=dePlan_out pl0
 obtain⟨o1,o2,o3,o4,o5,o6,o7,o8,o9,o10⟩:=pl.is
 obtain⟨s1,s2,s3,s4,s5⟩:=sl_is pl.cm
 obtain⟨t1,t2,t3,t4,t5⟩:=sl_is rb
 have frh:=roH_fresh hn
 have key:∀e:Nat→AV,e 0=.g (pcells p P)→e 1=ba→awp (cx [] (pfL [])) (Tryz.f42.body.getD .skip) (finQ (cx [] (pfL [])) Tryz.f42 fun z _ _=>z=bv (bindsV P b)) ⟨e,roH h,n⟩:=fun e q0 q1=>by
  by_cases hl:b.length=P.comps.length
  ·have hv:bindsV P b=(List.range b.length).all (bindE P b):=by unfold bindsV;rw[decide_eq_true hl,Bool.true_and]
   have hl':(b.length:Int)=(P.comps.length:Int):=by omega
   rw[hv]
   refine awp_cut 2 _ _ (R:=fun s=>I42 (roH h) n p P ba 0 ⟨fun j=>if j=5 then ii 0 else s.e j,s.h,s.n⟩) ?_ fun e2 h2 n3 J => ?_
   ·simp[evx,hdC,Tryz.f42,q0,q1,pcells,ii,ss,bv,o1,o2,o3,o4,o5,o6,o7,o8,o9,o10,s1,s2,s3,t1,t2,t3,hl']
    exact⟨by simp[up,q1],by simp[up],by simp[ii],by simp[up,pcells,ii,ss,bv],by simp[agree_up,agree_refl],by simp[fresh_up,frh.add],by simp⟩
   ·refine awp_cut 1 _ _ (R:=fun _=>(List.range b.length).all (bindE P b)=true) ?_ fun e6 h6 n7 hall => ?_
    ·show awp _ (.seq (hdC 1 (hdC 1 (tlC 2 (Tryz.f42.body.getD .skip)))) (.block 0 (.loop c42A))) _ _
     obtain⟨q1,q2,q5,b2,ag,fr,nn⟩:=J
     simp only[]at q1 q2 q5 b2 ag fr nn
     simp at q1 q2
     simp[evx,hdC,tlC,Tryz.f42]
     refine b42A frh pl rb hp hl _ _ _ (⟨by simp[up,q1],by simp[up,q2],by simp[up,ii],b2,ag,fr,nn⟩:I42 (roH h) n p P ba 0 _) (fun hall s' => ?_) fun hall s' h4 => ?_
     ·rw[blockQ_e,if_pos rfl,thenQ_n]
      simpa using hall
     ·rw[blockQ_r,thenQ_r,finQ_r,hall]
      refine⟨?_,?_⟩
      ·simp[resAll,resOne,Tryz.f42]
      ·simp[resVal,resOne,Tryz.f42,h4]
    ·rw[hall]
     simp[evx,tlC,Tryz.f42,bv]
  ·have hv:bindsV P b=false:=by unfold bindsV;rw[decide_eq_false hl,Bool.false_and]
   have hl':¬(b.length:Int)=(P.comps.length:Int):=by omega
   simp[evx,Tryz.f42,q0,q1,pcells,ii,ss,bv,o1,o2,o3,o4,o5,o6,o7,o8,o9,o10,s1,s2,s3,t1,t2,t3,hl',hv]
 exact key _ rfl rfl
end
section
def byE (q:Qu) (b:List (List Ev)) (k:Int) (x:Ev) (i:Nat):List Ev:=if (itA q i).neg=true then (if (i:Int)=k then [x]else [])else b.getD (rk q i) []
def byV (q:Qu) (b:List (List Ev)) (k:Int) (x:Ev):List (List Ev):=(List.range q.items.length).map (byE q b k x)
structure I44 (h:Heap) (n:Nat) (q:Qu) (qa qb qc ba:AV) (b:List (List Ev)) (k:Int) (x:Ev) (i:Nat) (s:St):Prop where
 q1:s.e 1=ba
 q2:s.e 2=ii k
 q4:s.e 4=.p n 0 0
 q7:s.e 7=.p (n+1) 0 0
 q10:s.e 10=ii (posI q i).length
 q11:s.e 11=ii i
 b4:s.h n=some ⟨qcells q qa qb qc,0,true,7⟩
 b7:s.h (n+1)=some ⟨ecells x,0,true,11⟩
 ag:agree n h s.h
 fr:Fresh s.n s.h
 nn:n+2≤s.n
 ow:∃(w u:Nat) (cs:List AV),cs.length=i∧((i=0∧cs=[]∧s.e 9=.v (.slice none 0 0))∨(s.e 9=.s w u 0 i∧s.h w=some ⟨cs,u,true,1⟩∧n+2≤w∧w<s.n))∧∀j,j<i→∃c,cs[j]? = some c∧rd dEs (up s.h w none) c=some (byE q b k x j)
noncomputable def c44L:Code:=bodyL (hdC 1 (tlC 3 (Tryz.f44.body.getD .skip)))
noncomputable def c44B:Code:=inB (hdC 1 (tlC 1 c44L))
theorem hid_le {h h':Heap} {n w:Nat} (hf:Fresh n h) (ha:∀i,i<n→i≠w→h' i=h i):Heap.le (up h w none) (up h' w none):=fun i k e=>by
 by_cases hw:i=w
 ·subst hw;rw[up_same]at e;cases e
 ·rw[up_ne _ _ hw]at e ⊢
  rw[ha i (lt_of e hf) hw];exact e
section
variable {h:Heap} {n:Nat} {q:Qu} {qa qb qc ba:AV} {b:List (List Ev)} {k:Int} {x:Ev}
theorem b44e {i:Nat} (hi:i<q.items.length) (hq:q.items.length≤1000000) (e:Nat→AV) (h1:Heap) (n2:Nat) (a:I44 h n q qa qb qc ba b k x i ⟨fun j=>if j=10 then ii (posI q i).length else e j,h1,n2⟩) (q10:e 10=ii (posI q (i+1)).length) {c:AV} (q12:e 12=c) (hc:c.one∧c.cells=[c]) {h0:Heap} (hr:rd dEs h0 c=some (byE q b k x i)) (h0l:∀w,(∃u cs,e 9=.s w u 0 i∧h1 w=some ⟨cs,u,true,1⟩)∨n2≤w→Heap.le h0 (up h1 w none)) {Q:Ex→St→Prop}
  (hQ:∀s',I44 h n q qa qb qc ba b k x (i+1) s'→Q .normal s') :
  awp (cx [] (pfL [])) (.seq (tlC 2 c44B) (tlC 2 c44L)) Q ⟨e,h1,n2⟩:=by
 obtain⟨q1,q2,q4,q7,_,q11,b4,b7,ag,fr,nn,w,u,cs,hcl,hw,hcs⟩:=a
 simp at q1 q2 q4 q7 q11
 simp only[]at b4 b7 ag fr nn hcl hw hcs
 simp at hw
 obtain⟨d1,d2⟩:=hc
 have hwr:=wrap_nat (j:=i) (by unfold big;omega)
 rcases hw with ⟨rfl,rfl,q9⟩|⟨q9,hb,w1,w2⟩
 ·simp[evx,c44B,c44L,inB,bodyL,hdC,tlC,Tryz.f44,q9,q11,q12,ii,d1,d2,hwr,show IntKind.i64.wrap 1=1 from by decide]
  refine hQ _ ⟨by simp[up,q1],by simp[up,q2],by simp[up,q4],by simp[up,q7],by simp[up,q10],by simp[up,ii],?_,?_,(agree_up (by omega) _).2 ((agree_up (by omega) _).2 ag),(show Fresh (n2+2) _ from (fresh_up (by omega) _).2 ((fresh_up (by omega) _).2 (fr.add 2))),by simp only[];omega,n2+1,0,[c],rfl,.inr ⟨by simp[up],by simp[up],by omega,by simp only[];omega⟩,fun j hj => ?_⟩
  ·simp only[];rw[up_ne _ _ (by omega),up_ne _ _ (by omega)];exact b4
  ·simp only[];rw[up_ne _ _ (by omega),up_ne _ _ (by omega)];exact b7
  ·obtain rfl:j=0:=by omega
   refine⟨c,rfl,rd_mono ?_ hr⟩
   refine Heap.le_trans (h0l (n2+1) (.inr (by omega))) (hid_le (n:=n2) ?_ fun i h1 h2 => ?_)
   ·exact fr
   ·simp only[];rw[up_ne _ _ (by omega),up_ne _ _ (by omega)]
 ·have g1:¬w=n2:=by omega
  have g2:¬n=w:=by omega
  have g3:¬n+1=w:=by omega
  simp[evx,c44B,c44L,inB,bodyL,hdC,tlC,Tryz.f44,q9,q11,q12,ii,d1,d2,hwr,hb,g1,hcl]
  refine⟨⟨by omega,by omega⟩,hQ _ ⟨by simp[up,q1],by simp[up,q2],by simp[up,q4],by simp[up,q7],by simp[up,q10],by simp[up,ii],?_,?_,(agree_up (by omega) _).2 ((agree_up (by omega) _).2 ag),(show Fresh (n2+2) _ from (fresh_up (by omega) _).2 ((fresh_up (by omega) _).2 (fr.add 2))),by simp only[];omega,w,u+1,cs++[c],by simp[hcl],.inr ⟨by simp[up],by simp[up],by omega,by simp only[];omega⟩,fun j hj => ?_⟩⟩
  ·simp only[];rw[up_ne _ _ g2,up_ne _ _ (by omega)];exact b4
  ·simp only[];rw[up_ne _ _ g3,up_ne _ _ (by omega)];exact b7
  ·have hle:Heap.le (up h1 w none) (up (up (up h1 n2 (some ⟨[c],0,true,1⟩)) w (some ⟨cs++[c],u+1,true,1⟩)) w none):=hid_le (n:=n2) fr fun i h1 h2=>by rw[up_ne _ _ h2,up_ne _ _ (by omega)]
   by_cases hjl:j<i
   ·obtain⟨c',k1,k2⟩:=hcs j hjl
    exact⟨c',by rw[List.getElem?_append_left (by omega)];exact k1,rd_mono hle k2⟩
   ·obtain rfl:j=i:=by omega
    exact⟨c,by rw[←hcl];simp,rd_mono (Heap.le_trans (h0l w (.inl ⟨u,cs,by rw[q9],hb⟩)) hle) hr⟩
end
end
end Go.Proofs.YtbffkkeieihpdaaGreatDoor
