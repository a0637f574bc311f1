import Derived.Test.YtbffkkeieihpdaaGreatDoorX19
set_option linter.unusedSimpArgs false
set_option linter.unusedVariables false
set_option linter.constructorNameAsVariable false
set_option maxRecDepth 100000
set_option maxHeartbeats 4000000
namespace Go.Proofs.YtbffkkeieihpdaaGreatDoor
open Go Go.Eng
def itC (vs:List ByteArray) (t:List Nd) (j:Nat):List AV:=(List.range t.length).map fun i=>if i<j then ii (itemV vs (t.getD i nd0))else ii 0
theorem itC_len (vs:List ByteArray) (t:List Nd) (j:Nat):(itC vs t j).length=t.length:=by simp[itC]
theorem itC_zero (vs:List ByteArray) (t:List Nd):repZ [Value.int .i64 0] t.length=itC vs t 0:=by
 have:∀m,repZ [Value.int .i64 0] m=(List.range m).map fun _=>ii 0:=fun m=>by
  induction m with
  | zero=>rfl
  | succ m ih=>rw[List.range_succ_eq_map,List.map_cons,List.map_map];simp only[repZ,ih];rfl
 rw[this]
 simp[itC]
theorem itC_end (vs:List ByteArray) (t:List Nd):itC vs t t.length=(t.map (itemV vs)).map ii:=by
 apply List.ext_getElem
 ·simp[itC]
 ·intro i h1 h2
  have hi:i<t.length:=by simpa[itC]using h1
  simp[itC,hi]
theorem itC_skip {vs:List ByteArray} {t:List Nd} {j:Nat} (hj:j<t.length) (h0:itemV vs t[j]=0):itC vs t (j+1)=itC vs t j:=by
 unfold itC
 apply List.map_congr_left
 intro i hi
 have hi:=List.mem_range.1 hi
 by_cases e:i=j
 ·subst e
  rw[if_pos (by omega),if_neg (by omega),List.getD_eq_getElem?_getD,List.getElem?_eq_getElem hj,Option.getD_some,h0]
 ·by_cases h:i<j
  ·rw[if_pos h,if_pos (by omega)]
  ·rw[if_neg h,if_neg (by omega)]
theorem itC_set {vs:List ByteArray} {t:List Nd} {j:Nat} (hj:j<t.length):(itC vs t j).set j (ii (itemV vs t[j]))=itC vs t (j+1):=by
 apply List.ext_getElem
 ·simp[itC]
 ·intro i h1 h2
  have hi:i<t.length:=by simpa[itC]using h2
  rw[List.getElem_set]
  by_cases e:j=i
  ·subst e
   simp[itC,hj]
  ·rw[if_neg e]
   simp only[itC,List.getElem_map,List.getElem_range]
   by_cases h:i<j
   ·rw[if_pos h,if_pos (by omega)]
   ·rw[if_neg h,if_neg (by omega)]
def runPost (vs:List ByteArray) (t:List Nd) (n:Nat) (z:AV) (h':Heap) (n':Nat):Prop:=if runT vs t=true then ∃w,z=.t [.s w 0 0 t.length,bv true]∧h' w=some ⟨(t.map (itemV vs)).map ii,0,true,1⟩∧n≤w∧w<n' else z=.t [.v (.slice none 0 0),bv false]
def tb54:List (FuncId×(List AV→Heap→PRes)):=[(79,G70),(162,G91),(163,g92)]
theorem tb54_ok:TbOk [3] tb54:=tb_cons P70 (tb_cons P91 (tb_cons p92 tb_nil))
theorem c54 {h:Heap} {n:Nat} {x ta:AV} {q:Qu} {t:List Nd} (e1:deQ h x=some q) (e5:rd dNs h ta=some t) (hp1:q.items.length<big) (hp2:smallT t) (hn:Fresh n h) :
  ACall (cx [3] (pfL tb54)) 119 [x,ta] h n fun z h' n'=>agree n h h'∧Fresh n' h'∧n≤n'∧runPost (vars q.items) t n z h' n':=by
 refine acall_of_awp (args:=[x,ta]) (pfL_ok tb54_ok) (mixed _ _) Tryz.func119 (c:=Tryz.f119.body.getD .skip) rfl (by kernel_rfl) (callable Tryz.func119 rfl rfl _ _) (show 2≤Tryz.f119.ntmps by decide +kernel) ?_
 obtain⟨a,b,c,rfl,e2,e3,e4⟩:=deQ_out e1
 have hp':t.length*64≤140737488355328:=hp2
 obtain⟨s1,s2,s3,s4,s5⟩:=sl_is e5
 have o1:=(sl_is e2).2.2.2.1
 have o2:=(sl_is e3).2.2.2.1
 have o3:=(sl_is e4).2.2.2.1
 have g5:=rd_agr hn e5
 have gq:∀h',agree n h h'→deQ h' (.g [a,ii q.mode,ii q.after,b,ii q.within,ss q.par,c])=some q:=fun h' ha=>deQ_sim (agr_sim hn ha) e1
 simp only[ii,ss]at gq
 have hrp:runT (vars q.items) t=false→∀h2 n2,runPost (vars q.items) t n (.t [.v (.slice none 0 0),.v (.bool false)]) h2 n2:=fun e h2 n2=>by simp only[runPost,e,bv];simp
 have key:∀e:Nat→AV,e 0=.g [a,ii q.mode,ii q.after,b,ii q.within,ss q.par,c]→e 1=ta→awp (cx [3] (pfL tb54)) (Tryz.f119.body.getD .skip) (finQ (cx [3] (pfL tb54)) Tryz.f119 fun z h' n'=>agree n h h'∧Fresh n' h'∧n≤n'∧runPost (vars q.items) t n z h' n') ⟨e,h,n⟩:=fun e q0 q1=>by
  cases ht:tree1 t with
  | false =>
   have hf:runT (vars q.items) t=false:=by simp[runT,ht]
   simp[evx,Tryz.f119,q0,q1,ii,ss,o1,o2,o3,tb54,G70,pureH,deT,g5,agree_up,agree_refl,hp2,ht,bv,hrp hf,fresh_up,hn.add]
  | true =>
   have hrt:runT (vars q.items) t=okTo (vars q.items) t t.length:=by simp[runT,ht]
   have hb1:(8:Int)*(t.length:Int)≤281474976710656:=by omega
   have hb2:(t.length:Int)≤9223372036854775807:=by omega
   have hz:=itC_zero (vars q.items) t
   simp[evx,Tryz.f119,q0,q1,ii,ss,s1,s2,o1,o2,o3,tb54,G70,pureH,deT,g5,agree_up,agree_refl,hp2,ht,bv,hb1,hb2,hz]
   refine awp_loop (fun s=>∃j:Nat,j≤t.length∧okTo (vars q.items) t j=true∧s.e 1=ta∧s.e 2=.p n 0 0∧s.e 4=.s (n+1) 0 0 t.length∧s.e 15=ta∧s.e 16=ii t.length∧s.e 17=ii j∧agree n h s.h∧s.h n=some ⟨[a,ii q.mode,ii q.after,b,ii q.within,ss q.par,c],0,true,7⟩∧s.h (n+1)=some ⟨itC (vars q.items) t j,0,true,1⟩∧Fresh s.n s.h∧n+2≤s.n) (fun s=>t.length-(s.e 17).i.toNat) ⟨0,by simp[ii,ss,agree_refl,okTo,agree_up,fresh_up,hn.add];simp[up,q1]⟩ ?_
   rintro e' h' n' ⟨j,hj,hok,q1,q2,q4,q15,q16,q17,hag,hbk,hbi,hfr,hnn⟩
   simp only[]at q1 q2 q4 q15 q16 q17 hag hbk hbi hfr hnn
   by_cases hlt:j<t.length
   ·rcases ns_at e5 with ⟨h0,_⟩|⟨id,off,k,rfl,hk,ho',hat⟩
    ·rw[h0]at hlt;simp at hlt
    have hr:=hat j hlt
    have hko:=tree_kids ht j hlt
    have hid:=lt_of hk hn
    have hk':h' id=some k:=by rw[hag id hid];exact hk
    have y0:¬id=n':=by omega
    have y1:¬id=n+1:=by omega
    have y2:¬n=n':=by omega
    have y3:¬n+1=n':=by omega
    have y4:n≤n':=by omega
    have y5:n≤n+1:=by omega
    have hw:=wrap_nat (j:=j) (by unfold big;omega)
    have hle:∀(X:Ctx) (h':Heap),h' id=some k→ldcs X h' (.p id k.ver (off+j*6)) 0 6=ncells t[j]:=fun X h' e=>ldcs_nd e hr
    have hw6:off+(j*6+6)≤k.cells.length:=by omega
    have hA:∀c,c<t.length→k.cells[off+c*6]? = some (ii (t.getD c nd0).op)∧off+(c*6+1)≤k.cells.length:=fun c hc=>by
     have:=cell_of (c:=0) (hat c hc) rfl (by omega)
     rw[List.getD_eq_getElem?_getD,List.getElem?_eq_getElem hc]
     exact⟨this,by omega⟩
    have hsu:=okTo_succ (vs:=vars q.items) hlt
    have hno:=okTo_no (vs:=vars q.items) hlt
    have hoe:=nodeOk_eq (vars q.items) t t[j]
    have hsk:=itC_skip (vs:=vars q.items) hlt
    have hst:=itC_set (vs:=vars q.items) hlt
    have hcl:=itC_len (vars q.items) t j
    rw[←hrt]at hno
    generalize t[j]=x at *
    generalize hcs:itC (vars q.items) t j=cs at *
    obtain⟨op,num,var,attr,xa,xb⟩:=x
    simp only[]at hoe
    have hj1:j+1≤t.length:=hlt
    by_cases h4:4≤op
    ·by_cases h11:op≤11
     ·have hm:mentO op=true:=by simp[mentO,h4,h11]
      have hkb : kindB t ⟨op, num, var, attr, xa, xb⟩ = true := by have : op < 12 := by omega
                                                                   simp[kindB,this]
      have hiv:itemV (vars q.items) ⟨op,num,var,attr,xa,xb⟩=ixOf (vars q.items) var:=by simp only[itemV,if_pos (And.intro h4 h11)]
      rw[hiv]at hst
      rw[hm,hkb]at hoe
      have y6:n+1<n'+3:=by omega
      have y7:n≤n'+3:=by omega
      by_cases hneg:ixOf (vars q.items) var<0
      ·have hng:¬0≤ixOf (vars q.items) var:=by omega
       have hf:=hno (by rw[hoe];simp[hng])
       simp[evx,q2,q4,q15,q16,q17,ii,ss,hlt,hk',y2,y3,y4,y5,hle,hw6,ncells,agree_up,hag,hbk,hbi,hcl,hj1,bv,fresh_up,hfr.add,h4,h11,G91,pureH,deQS,gq,hp1,hneg,hng,hrp hf,y6,y7]
      ·have hng:0≤ixOf (vars q.items) var:=by omega
       have hs1:okTo (vars q.items) t (j+1)=true:=by rw[hsu,hok,hoe];simp[hng]
       simp only[ii]at hst
       simp[evx,q1,q2,q4,q15,q16,q17,ii,ss,hlt,hk',y2,y3,y4,y5,hle,hw6,ncells,agree_up,hag,hbk,hbi,hcl,hj1,bv,fresh_up,hfr.add,h4,h11,G91,pureH,deQS,gq,hp1,hneg,hng,hw,y6,hst]
       exact⟨⟨j+1,by omega,hs1,by omega,rfl,by omega⟩,by omega⟩
     ·have har:1≤arity op:=by have:=hko.ar;simp only[]at this;unfold arity at this ⊢;grind
      have hm:mentO op=false:=by simp[mentO];omega
      have hiv:itemV (vars q.items) ⟨op,num,var,attr,xa,xb⟩=0:=by simp only[itemV];rw[if_neg (by omega)]
      rw[hm]at hoe
      have hsk':=hsk hiv
      obtain⟨k1,_,k2,k3,k4,_⟩:=hko
      simp only[]at k1 k2 k3 k4
      obtain⟨c,rfl⟩:∃c:Nat,xa=c:=⟨xa.toNat,by have:=(k2 har).1;omega⟩
      have hcl2:c<t.length:=by have:=(k2 har).2;omega
      obtain⟨hcA,hwA⟩:=hA c hcl2
      generalize hoa:(t.getD c nd0).op=oa at *
      have hoa':=hoa
      rw[List.getD_eq_getElem?_getD]at hoa'
      have m1:12≤op:=by omega
      have y6:n+1<n'+2:=by omega
      have y7:n≤n'+2:=by omega
      have hwt:wantsT op=(decide (op=13)||decide (op=25)||decide (op=26)):=by simp[wantsT,Bool.or_assoc]
      have fin:∀(e2:Nat→AV) (h2:Heap) (n2:Nat),kindB t ⟨op,num,var,attr,(c:Int),xb⟩=true→okTo (vars q.items) t (j+1)=true:=fun _ _ _ hk=>by rw[hsu,hok,hoe,hk];rfl
      have hopc:op=13∨op=25∨op=26∨(op≠13∧op≠25∧op≠26):=by omega
      by_cases h14:op<14
      ·have hb:xb=-1:=k4 (by unfold arity;grind)
       subst hb
       rcases (show op=12∨op=13 by omega)with rfl|rfl
       ·cases hta:truthO oa
        ·have hkb:kindB t ⟨12,num,var,attr,(c:Int),-1⟩=true:=by simp[kindB,wantsT,hoa',hta]
         have hs1:=fin e' h' n' hkb
         simp[evx,q1,q2,q4,q15,q16,q17,ii,ss,hlt,hk',y0,y2,y3,y4,hle,hw6,ncells,agree_up,hag,hbk,hbi,bv,fresh_up,hfr.add,h4,h11,hcl2,hcA,hwA,g92,pure1,deI,hta,hw]
         exact⟨⟨j+1,by omega,hs1,by omega,hsk'.symm⟩,by omega⟩
        ·have hkb:kindB t ⟨12,num,var,attr,(c:Int),-1⟩=false:=by simp[kindB,wantsT,hoa',hta]
         have hf:=hno (by rw[hoe,hkb];rfl)
         simp[evx,q1,q15,q16,q17,ii,ss,hlt,hk',y0,y4,hle,hw6,ncells,agree_up,hag,bv,fresh_up,hfr.add,h4,h11,hcl2,hcA,hwA,g92,pure1,deI,hta,hrp hf,y7]
       ·cases hta:truthO oa
        ·have hkb:kindB t ⟨13,num,var,attr,(c:Int),-1⟩=false:=by simp[kindB,wantsT,hoa',hta]
         have hf:=hno (by rw[hoe,hkb];rfl)
         simp[evx,q1,q15,q16,q17,ii,ss,hlt,hk',y0,y4,hle,hw6,ncells,agree_up,hag,bv,fresh_up,hfr.add,h4,h11,m1,hcl2,hcA,hwA,g92,pure1,deI,hta,hrp hf,y7]
        ·have hkb:kindB t ⟨13,num,var,attr,(c:Int),-1⟩=true:=by simp[kindB,wantsT,hoa',hta]
         have hs1:=fin e' h' n' hkb
         simp[evx,q1,q2,q4,q15,q16,q17,ii,ss,hlt,hk',y0,y2,y3,y4,hle,hw6,ncells,agree_up,hag,hbk,hbi,bv,fresh_up,hfr.add,h4,h11,m1,hcl2,hcA,hwA,g92,pure1,deI,hta,hw]
         exact⟨⟨j+1,by omega,hs1,by omega,hsk'.symm⟩,by omega⟩
      have har2:arity op=2:=by unfold arity at k1 ⊢;grind
      obtain⟨d,rfl⟩:∃d:Nat,xb=d:=⟨xb.toNat,by have:=(k3 har2).1;omega⟩
      have hdl:d<t.length:=by have:=(k3 har2).2;omega
      obtain⟨hdA,hwD⟩:=hA d hdl
      generalize hob:(t.getD d nd0).op=ob at *
      have hob':=hob
      rw[List.getD_eq_getElem?_getD]at hob'
      have n8:¬(d:Int)<0:=by omega
      have n9:(0:Int)≤d:=by omega
      by_cases h24:op≤24
      ·have q13:¬op=13:=by omega
       have q25:¬op=25:=by omega
       have q26:¬op=26:=by omega
       have q12:¬op<12:=by omega
       cases hta:truthO oa
       ·cases htb:truthO ob
        ·have hkb:kindB t ⟨op,num,var,attr,(c:Int),(d:Int)⟩=true:=by simp[kindB,wantsT,hoa',hob',hta,htb,n8,q13,q25,q26,q12]
         have hs1:=fin e' h' n' hkb
         simp[evx,q1,q2,q4,q15,q16,q17,ii,ss,hlt,hk',y0,y2,y3,y4,hle,hw6,ncells,agree_up,hag,hbk,hbi,bv,fresh_up,hfr.add,h4,h11,m1,hcl2,hcA,hwA,g92,pure1,deI,hdl,hdA,hwD,n9,hta,htb,q13,q25,q26,hw]
         exact⟨⟨j+1,by omega,hs1,by omega,hsk'.symm⟩,by omega⟩
        ·have hkb:kindB t ⟨op,num,var,attr,(c:Int),(d:Int)⟩=false:=by simp[kindB,wantsT,hoa',hob',hta,htb,n8,q13,q25,q26,q12]
         have hf:=hno (by rw[hoe,hkb];rfl)
         simp[evx,q1,q15,q16,q17,ii,ss,hlt,hk',y0,y4,hle,hw6,ncells,agree_up,hag,bv,fresh_up,hfr.add,h4,h11,m1,hcl2,hcA,hwA,g92,pure1,deI,hdl,hdA,hwD,n9,hta,htb,q13,q25,q26,hrp hf,y7]
       ·cases htb:truthO ob
        ·have hkb:kindB t ⟨op,num,var,attr,(c:Int),(d:Int)⟩=false:=by simp[kindB,wantsT,hoa',hob',hta,htb,n8,q13,q25,q26,q12]
         have hf:=hno (by rw[hoe,hkb];rfl)
         simp[evx,q1,q15,q16,q17,ii,ss,hlt,hk',y0,y4,hle,hw6,ncells,agree_up,hag,bv,fresh_up,hfr.add,h4,h11,m1,hcl2,hcA,hwA,g92,pure1,deI,hdl,hdA,hwD,n9,hta,htb,q13,q25,q26,hrp hf,y7]
        ·have hkb:kindB t ⟨op,num,var,attr,(c:Int),(d:Int)⟩=false:=by simp[kindB,wantsT,hoa',hob',hta,htb,n8,q13,q25,q26,q12]
         have hf:=hno (by rw[hoe,hkb];rfl)
         simp[evx,q1,q15,q16,q17,ii,ss,hlt,hk',y0,y4,hle,hw6,ncells,agree_up,hag,bv,fresh_up,hfr.add,h4,h11,m1,hcl2,hcA,hwA,g92,pure1,deI,hdl,hdA,hwD,n9,hta,htb,q13,q25,q26,hrp hf,y7]
      ·have hop:op=25∨op=26:=by unfold arity at har2;grind
       rcases hop with rfl|rfl
       ·skip
        cases hta:truthO oa
        ·cases htb:truthO ob
         ·have hkb:kindB t ⟨25,num,var,attr,(c:Int),(d:Int)⟩=false:=by simp[kindB,wantsT,hoa',hob',hta,htb,n8]
          have hf:=hno (by rw[hoe,hkb];rfl)
          simp[evx,q1,q15,q16,q17,ii,ss,hlt,hk',y0,y4,hle,hw6,ncells,agree_up,hag,bv,fresh_up,hfr.add,h4,h11,m1,hcl2,hcA,hwA,g92,pure1,deI,hdl,hdA,hwD,n9,hta,htb,hrp hf,y7]
         ·have hkb:kindB t ⟨25,num,var,attr,(c:Int),(d:Int)⟩=false:=by simp[kindB,wantsT,hoa',hob',hta,htb,n8]
          have hf:=hno (by rw[hoe,hkb];rfl)
          simp[evx,q1,q15,q16,q17,ii,ss,hlt,hk',y0,y4,hle,hw6,ncells,agree_up,hag,bv,fresh_up,hfr.add,h4,h11,m1,hcl2,hcA,hwA,g92,pure1,deI,hdl,hdA,hwD,n9,hta,htb,hrp hf,y7]
        ·cases htb:truthO ob
         ·have hkb:kindB t ⟨25,num,var,attr,(c:Int),(d:Int)⟩=false:=by simp[kindB,wantsT,hoa',hob',hta,htb,n8]
          have hf:=hno (by rw[hoe,hkb];rfl)
          simp[evx,q1,q15,q16,q17,ii,ss,hlt,hk',y0,y4,hle,hw6,ncells,agree_up,hag,bv,fresh_up,hfr.add,h4,h11,m1,hcl2,hcA,hwA,g92,pure1,deI,hdl,hdA,hwD,n9,hta,htb,hrp hf,y7]
         ·have hkb:kindB t ⟨25,num,var,attr,(c:Int),(d:Int)⟩=true:=by simp[kindB,wantsT,hoa',hob',hta,htb,n8]
          have hs1:=fin e' h' n' hkb
          simp[evx,q1,q2,q4,q15,q16,q17,ii,ss,hlt,hk',y0,y2,y3,y4,hle,hw6,ncells,agree_up,hag,hbk,hbi,bv,fresh_up,hfr.add,h4,h11,m1,hcl2,hcA,hwA,g92,pure1,deI,hdl,hdA,hwD,n9,hta,htb,hw]
          exact⟨⟨j+1,by omega,hs1,by omega,hsk'.symm⟩,by omega⟩
       ·skip
        cases hta:truthO oa
        ·cases htb:truthO ob
         ·have hkb:kindB t ⟨26,num,var,attr,(c:Int),(d:Int)⟩=false:=by simp[kindB,wantsT,hoa',hob',hta,htb,n8]
          have hf:=hno (by rw[hoe,hkb];rfl)
          simp[evx,q1,q15,q16,q17,ii,ss,hlt,hk',y0,y4,hle,hw6,ncells,agree_up,hag,bv,fresh_up,hfr.add,h4,h11,m1,hcl2,hcA,hwA,g92,pure1,deI,hdl,hdA,hwD,n9,hta,htb,hrp hf,y7]
         ·have hkb:kindB t ⟨26,num,var,attr,(c:Int),(d:Int)⟩=false:=by simp[kindB,wantsT,hoa',hob',hta,htb,n8]
          have hf:=hno (by rw[hoe,hkb];rfl)
          simp[evx,q1,q15,q16,q17,ii,ss,hlt,hk',y0,y4,hle,hw6,ncells,agree_up,hag,bv,fresh_up,hfr.add,h4,h11,m1,hcl2,hcA,hwA,g92,pure1,deI,hdl,hdA,hwD,n9,hta,htb,hrp hf,y7]
        ·cases htb:truthO ob
         ·have hkb:kindB t ⟨26,num,var,attr,(c:Int),(d:Int)⟩=false:=by simp[kindB,wantsT,hoa',hob',hta,htb,n8]
          have hf:=hno (by rw[hoe,hkb];rfl)
          simp[evx,q1,q15,q16,q17,ii,ss,hlt,hk',y0,y4,hle,hw6,ncells,agree_up,hag,bv,fresh_up,hfr.add,h4,h11,m1,hcl2,hcA,hwA,g92,pure1,deI,hdl,hdA,hwD,n9,hta,htb,hrp hf,y7]
         ·have hkb:kindB t ⟨26,num,var,attr,(c:Int),(d:Int)⟩=true:=by simp[kindB,wantsT,hoa',hob',hta,htb,n8]
          have hs1:=fin e' h' n' hkb
          simp[evx,q1,q2,q4,q15,q16,q17,ii,ss,hlt,hk',y0,y2,y3,y4,hle,hw6,ncells,agree_up,hag,hbk,hbi,bv,fresh_up,hfr.add,h4,h11,m1,hcl2,hcA,hwA,g92,pure1,deI,hdl,hdA,hwD,n9,hta,htb,hw]
          exact⟨⟨j+1,by omega,hs1,by omega,hsk'.symm⟩,by omega⟩
    ·have h3:op<4:=by omega
     have hm:mentO op=false:=by simp[mentO,h4]
     have hkb : kindB t ⟨op, num, var, attr, xa, xb⟩ = true := by have : op < 12 := by omega
                                                                  simp[kindB,this]
     have hiv:itemV (vars q.items) ⟨op,num,var,attr,xa,xb⟩=0:=by simp only[itemV];rw[if_neg (by omega)]
     have hsk':=hsk hiv
     have hs1:okTo (vars q.items) t (j+1)=true:=by rw[hsu,hok,hoe,hm,hkb];rfl
     have m1:¬12≤op:=by omega
     have y6:n+1<n'+2:=by omega
     have y7:n≤n'+2:=by omega
     simp[evx,q1,q2,q4,q15,q16,q17,ii,ss,hlt,hk',y2,y3,y4,hle,hw6,ncells,agree_up,hag,hbk,hbi,fresh_up,hfr.add,h4,m1,hw]
     exact⟨⟨j+1,by omega,hs1,by omega,hsk'.symm⟩,by omega⟩
   ·obtain rfl:j=t.length:=by omega
    have hpo:runPost (vars q.items) t n (.t [.s (n+1) 0 0 t.length,.v (.bool true)]) h' n':=by
     simp only[runPost,hrt,hok,if_true]
     exact⟨n+1,rfl,by rw[hbi,itC_end],by omega,by omega⟩
    simp[evx,q4,q16,q17,ii]
    exact⟨hag,hfr,by omega,hpo⟩
 exact key _ rfl rfl
end Go.Proofs.YtbffkkeieihpdaaGreatDoor
