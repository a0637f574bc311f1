import Derived.Test.YtbffkkeieihpdaaGreatDoorX19
set_option linter.unusedSimpArgs false
set_option linter.unusedVariables false
set_option linter.constructorNameAsVariable false
set_option maxRecDepth 100000
set_option maxHeartbeats 4000000
namespace Go.Proofs.YtbffkkeieihpdaaGreatDoor
open Go Go.Eng
def itC (vs:List ByteArray) (t:List Nd) (j:Nat):List AV:=(List.range t.length).map fun i=>if i<j then ii (wK vs (t.getD i nd0))else ii 0
theorem yIv (vs:List ByteArray) (t:List Nd) (j:Nat):(itC vs t j).length=t.length:=by simp[itC]
theorem yD7 (vs:List ByteArray) (t:List Nd):repZ [Value.int .i64 0] t.length=itC vs t 0:=by
 have:∀m,repZ [Value.int .i64 0] m=(List.range m).map fun _=>ii 0:=fun m=>by
  induction m with
  | zero=>rfl
  | succ m ih=>rw[List.range_succ_eq_map,wO,List.map_map];simp only[repZ,ih];rfl
 rw[this];simp[itC]
theorem yIw (vs:List ByteArray) (t:List Nd):itC vs t t.length=(t.map (wK vs)).map ii:=by
 apply List.ext_getElem
 ·simp[itC]
 ·intro i h1 h2
  have hi:i<t.length:=by simpa[itC]using h1
  simp[itC,hi]
theorem yD8 {vs:List ByteArray} {t:List Nd} {j:Nat} (hj:j<t.length) (h0:wK vs t[j]=0):itC vs t (j+1)=itC vs t j:=by
 unfold itC;apply zCs;intro i hi;have hi:=xQ.1 hi;by_cases e:i=j
 ·subst e
  rw[if_pos (by omega),if_neg (by omega),zB,zA hj,xB,h0]
 ·by_cases h:i<j
  ·rw[if_pos h,if_pos (by omega)]
  ·rw[if_neg h,if_neg (by omega)]
theorem yIu {vs:List ByteArray} {t:List Nd} {j:Nat} (hj:j<t.length):(itC vs t j).set j (ii (wK vs t[j]))=itC vs t (j+1):=by
 apply List.ext_getElem
 ·simp[itC]
 ·intro i h1 h2
  have hi:i<t.length:=by simpa[itC]using h2
  rw[List.getElem_set];by_cases e:j=i
  ·subst e
   simp[itC,hj]
  ·rw[if_neg e]
   simp only[itC,wZ,List.getElem_range];by_cases h:i<j
   ·rw[if_pos h,if_pos (by omega)]
   ·rw[if_neg h,if_neg (by omega)]
def zGt (vs:List ByteArray) (t:List Nd) (n:Nat) (z:AV) (h':Heap) (n':Nat):Prop:=if zI9 vs t=true then ∃w,z=.t [.s w 0 0 t.length,bv true]∧h' w=some ⟨(t.map (wK vs)).map ii,0,true,1⟩∧n≤w∧w<n' else z=.t [.v (.slice none 0 0),bv false]
def yKa:List (FuncId×(List AV→Heap→PRes)):=[(79,G70),(162,G91),(163,g92)]
theorem yG4:zRv [3] yKa:=zS P70 (zS P91 (zS p92 yH))
theorem c54 {h:Heap} {n:Nat} {x ta:AV} {q:Qu} {t:List Nd} (e1:deQ h x=some q) (e5:rd dNs h ta=some t) (hp1:q.items.length<big) (hp2:xO t) (hn:Fresh n h) :
  ACall (cx [3] (pfL yKa)) 119 [x,ta] h n fun z h' n'=>agree n h h'∧Fresh n' h'∧n≤n'∧zGt (vars q.items) t n z h' n':=by
 refine yV (args:=[x,ta]) (zA1 yG4) (zCm _ _) Tryz.func119 (c:=Tryz.f119.body.getD .skip) rfl (by kernel_rfl) (xM Tryz.func119 rfl rfl _ _) (show 2≤Tryz.f119.ntmps by decide +kernel) ?_
 obtain⟨a,b,c,rfl,e2,e3,e4⟩:=xP e1;have hp':t.length*64≤140737488355328:=hp2;obtain⟨s1,s2,s3,s4,s5⟩:=zK e5;have o1:=(zK e2).2.2.2.1;have o2:=(zK e3).2.2.2.1;have o3:=(zK e4).2.2.2.1;have g5:=yS hn e5;have gq:∀h',agree n h h'→deQ h' (.g [a,ii q.mode,ii q.after,b,ii q.within,ss q.par,c])=some q:=fun h' ha=>zAp (zAh hn ha) e1
 simp only[ii,ss]at gq;have hrp:zI9 (vars q.items) t=false→∀h2 n2,zGt (vars q.items) t n (.t [.v (.slice none 0 0),.v (.bool false)]) h2 n2:=fun e h2 n2=>by simp only[zGt,e,bv];simp
 have key:∀e:Nat→AV,e 0=.g [a,ii q.mode,ii q.after,b,ii q.within,ss q.par,c]→e 1=ta→awp (cx [3] (pfL yKa)) (Tryz.f119.body.getD .skip) (zA8 (cx [3] (pfL yKa)) Tryz.f119 fun z h' n'=>agree n h h'∧Fresh n' h'∧n≤n'∧zGt (vars q.items) t n z h' n') ⟨e,h,n⟩:=fun e q0 q1=>by
  cases ht:zAu t with
  | false =>
   have hf:zI9 (vars q.items) t=false:=by simp[zI9,ht]
   simp[evx,Tryz.f119,q0,q1,ii,ss,o1,o2,o3,yKa,G70,yE,deT,g5,zC,zE,hp2,ht,bv,hrp hf,zG,hn.add]
  | true =>
   have hrt:zI9 (vars q.items) t=zMv (vars q.items) t t.length:=by simp[zI9,ht]
   have hb1:(8:Int)*(t.length:Int)≤281474976710656:=by omega
   have hb2:(t.length:Int)≤9223372036854775807:=by omega
   have hz:=yD7 (vars q.items) t;simp[evx,Tryz.f119,q0,q1,ii,ss,s1,s2,o1,o2,o3,yKa,G70,yE,deT,g5,zC,zE,hp2,ht,bv,hb1,hb2,hz];refine yK (fun s=>∃j:Nat,j≤t.length∧zMv (vars q.items) t j=true∧s.e 1=ta∧s.e 2=.p n 0 0∧s.e 4=.s (n+1) 0 0 t.length∧s.e 15=ta∧s.e 16=ii t.length∧s.e 17=ii j∧agree n h s.h∧s.h n=some ⟨[a,ii q.mode,ii q.after,b,ii q.within,ss q.par,c],0,true,7⟩∧s.h (n+1)=some ⟨itC (vars q.items) t j,0,true,1⟩∧Fresh s.n s.h∧n+2≤s.n) (fun s=>t.length-(s.e 17).i.toNat) ⟨0,by simp[ii,ss,zE,zMv,zC,zG,hn.add];simp[up,q1]⟩ ?_
   rintro e' h' n' ⟨j,hj,hok,q1,q2,q4,q15,q16,q17,hag,hbk,hbi,hfr,hnn⟩;simp only[]at q1 q2 q4 q15 q16 q17 hag hbk hbi hfr hnn;by_cases hlt:j<t.length
   ·rcases zKb e5 with ⟨h0,_⟩|⟨id,off,k,rfl,hk,ho',hat⟩
    ·rw[h0]at hlt;simp at hlt
    have hr:=hat j hlt;have hko:=zLg ht j hlt;have hid:=xI hk hn;have hk':h' id=some k:=by rw[hag id hid];exact hk
    have y0:¬id=n':=by omega
    have y1:¬id=n+1:=by omega
    have y2:¬n=n':=by omega
    have y3:¬n+1=n':=by omega
    have y4:n≤n':=by omega
    have y5:n≤n+1:=by omega
    have hw:=yF (j:=j) (by unfold big;omega)
    have hle:∀(X:Ctx) (h':Heap),h' id=some k→ldcs X h' (.p id k.ver (off+j*6)) 0 6=yA t[j]:=fun X h' e=>zJq e hr
    have hw6:off+(j*6+6)≤k.cells.length:=by omega
    have hA:∀c,c<t.length→k.cells[off+c*6]? = some (ii (t.getD c nd0).op)∧off+(c*6+1)≤k.cells.length:=fun c hc=>by
     have:=yG (c:=0) (hat c hc) rfl (by omega)
     rw[zB,zA hc];exact⟨this,by omega⟩
    have hsu:=zZh (vs:=vars q.items) hlt;have hno:=yH8 (vs:=vars q.items) hlt;have hoe:=zZl (vars q.items) t t[j];have hsk:=yD8 (vs:=vars q.items) hlt;have hst:=yIu (vs:=vars q.items) hlt;have hcl:=yIv (vars q.items) t j;rw[←hrt]at hno;generalize t[j]=x at *;generalize hcs:itC (vars q.items) t j=cs at *;obtain⟨op,num,var,attr,xa,xb⟩:=x;simp only[]at hoe;have hj1:j+1≤t.length:=hlt;by_cases h4:4≤op
    ·by_cases h11:op≤11
     ·have hm:zQz op=true:=by simp[zQz,h4,h11]
      have hkb : zB5   t ⟨op, num, var, attr, xa, xb⟩ = true := by have : op < 12 := by omega
                                                                   simp[zB5,this]
      have hiv:wK (vars q.items) ⟨op,num,var,attr,xa,xb⟩=zAn (vars q.items) var:=by simp only[wK,if_pos (And.intro h4 h11)]
      rw[hiv]at hst;rw[hm,hkb]at hoe;have y6:n+1<n'+3:=by omega
      have y7:n≤n'+3:=by omega
      by_cases hneg:zAn (vars q.items) var<0
      ·have hng:¬0≤zAn (vars q.items) var:=by omega
       have hf:=hno (by rw[hoe];simp[hng])
       simp[evx,q2,q4,q15,q16,q17,ii,ss,hlt,hk',y2,y3,y4,y5,hle,hw6,yA,zC,hag,hbk,hbi,hcl,hj1,bv,zG,hfr.add,h4,h11,G91,yE,yEj,gq,hp1,hneg,hng,hrp hf,y6,y7]
      ·have hng:0≤zAn (vars q.items) var:=by omega
       have hs1:zMv (vars q.items) t (j+1)=true:=by rw[hsu,hok,hoe];simp[hng]
       simp only[ii]at hst;simp[evx,q1,q2,q4,q15,q16,q17,ii,ss,hlt,hk',y2,y3,y4,y5,hle,hw6,yA,zC,hag,hbk,hbi,hcl,hj1,bv,zG,hfr.add,h4,h11,G91,yE,yEj,gq,hp1,hneg,hng,hw,y6,hst];exact⟨⟨j+1,by omega,hs1,by omega,rfl,by omega⟩,by omega⟩
     ·have har:1≤zBc op:=by have:=hko.ar;simp only[]at this;unfold zBc at this ⊢;grind
      have hm:zQz op=false:=by simp[zQz];omega
      have hiv:wK (vars q.items) ⟨op,num,var,attr,xa,xb⟩=0:=by simp only[wK];rw[if_neg (by omega)]
      rw[hm]at hoe;have hsk':=hsk hiv;obtain⟨k1,_,k2,k3,k4,_⟩:=hko;simp only[]at k1 k2 k3 k4;obtain⟨c,rfl⟩:∃c:Nat,xa=c:=⟨xa.toNat,by have:=(k2 har).1;omega⟩
      have hcl2:c<t.length:=by have:=(k2 har).2;omega
      obtain⟨hcA,hwA⟩:=hA c hcl2;generalize hoa:(t.getD c nd0).op=oa at *;have hoa':=hoa;rw[zB]at hoa';have m1:12≤op:=by omega
      have y6:n+1<n'+2:=by omega
      have y7:n≤n'+2:=by omega
      have hwt:zBt op=(decide (op=13)||decide (op=25)||decide (op=26)):=by simp[zBt,Bool.or_assoc]
      have fin:∀(e2:Nat→AV) (h2:Heap) (n2:Nat),zB5 t ⟨op,num,var,attr,(c:Int),xb⟩=true→zMv (vars q.items) t (j+1)=true:=fun _ _ _ hk=>by rw[hsu,hok,hoe,hk];rfl
      have hopc:op=13∨op=25∨op=26∨(op≠13∧op≠25∧op≠26):=by omega
      by_cases h14:op<14
      ·have hb:xb=-1:=k4 (by unfold zBc;grind)
       subst hb;rcases (show op=12∨op=13 by omega)with rfl|rfl
       ·cases hta:zAj oa
        ·have hkb:zB5 t ⟨12,num,var,attr,(c:Int),-1⟩=true:=by simp[zB5,zBt,hoa',hta]
         have hs1:=fin e' h' n' hkb;simp[evx,q1,q2,q4,q15,q16,q17,ii,ss,hlt,hk',y0,y2,y3,y4,hle,hw6,yA,zC,hag,hbk,hbi,bv,zG,hfr.add,h4,h11,hcl2,hcA,hwA,g92,yZ,deI,hta,hw];exact⟨⟨j+1,by omega,hs1,by omega,hsk'.symm⟩,by omega⟩
        ·have hkb:zB5 t ⟨12,num,var,attr,(c:Int),-1⟩=false:=by simp[zB5,zBt,hoa',hta]
         have hf:=hno (by rw[hoe,hkb];rfl)
         simp[evx,q1,q15,q16,q17,ii,ss,hlt,hk',y0,y4,hle,hw6,yA,zC,hag,bv,zG,hfr.add,h4,h11,hcl2,hcA,hwA,g92,yZ,deI,hta,hrp hf,y7]
       ·cases hta:zAj oa
        ·have hkb:zB5 t ⟨13,num,var,attr,(c:Int),-1⟩=false:=by simp[zB5,zBt,hoa',hta]
         have hf:=hno (by rw[hoe,hkb];rfl)
         simp[evx,q1,q15,q16,q17,ii,ss,hlt,hk',y0,y4,hle,hw6,yA,zC,hag,bv,zG,hfr.add,h4,h11,m1,hcl2,hcA,hwA,g92,yZ,deI,hta,hrp hf,y7]
        ·have hkb:zB5 t ⟨13,num,var,attr,(c:Int),-1⟩=true:=by simp[zB5,zBt,hoa',hta]
         have hs1:=fin e' h' n' hkb;simp[evx,q1,q2,q4,q15,q16,q17,ii,ss,hlt,hk',y0,y2,y3,y4,hle,hw6,yA,zC,hag,hbk,hbi,bv,zG,hfr.add,h4,h11,m1,hcl2,hcA,hwA,g92,yZ,deI,hta,hw];exact⟨⟨j+1,by omega,hs1,by omega,hsk'.symm⟩,by omega⟩
      have har2:zBc op=2:=by unfold zBc at k1 ⊢;grind
      obtain⟨d,rfl⟩:∃d:Nat,xb=d:=⟨xb.toNat,by have:=(k3 har2).1;omega⟩
      have hdl:d<t.length:=by have:=(k3 har2).2;omega
      obtain⟨hdA,hwD⟩:=hA d hdl;generalize hob:(t.getD d nd0).op=ob at *;have hob':=hob;rw[zB]at hob';have n8:¬(d:Int)<0:=by omega
      have n9:(0:Int)≤d:=by omega
      by_cases h24:op≤24
      ·have q13:¬op=13:=by omega
       have q25:¬op=25:=by omega
       have q26:¬op=26:=by omega
       have q12:¬op<12:=by omega
       cases hta:zAj oa
       ·cases htb:zAj ob
        ·have hkb:zB5 t ⟨op,num,var,attr,(c:Int),(d:Int)⟩=true:=by simp[zB5,zBt,hoa',hob',hta,htb,n8,q13,q25,q26,q12]
         have hs1:=fin e' h' n' hkb;simp[evx,q1,q2,q4,q15,q16,q17,ii,ss,hlt,hk',y0,y2,y3,y4,hle,hw6,yA,zC,hag,hbk,hbi,bv,zG,hfr.add,h4,h11,m1,hcl2,hcA,hwA,g92,yZ,deI,hdl,hdA,hwD,n9,hta,htb,q13,q25,q26,hw];exact⟨⟨j+1,by omega,hs1,by omega,hsk'.symm⟩,by omega⟩
        ·have hkb:zB5 t ⟨op,num,var,attr,(c:Int),(d:Int)⟩=false:=by simp[zB5,zBt,hoa',hob',hta,htb,n8,q13,q25,q26,q12]
         have hf:=hno (by rw[hoe,hkb];rfl)
         simp[evx,q1,q15,q16,q17,ii,ss,hlt,hk',y0,y4,hle,hw6,yA,zC,hag,bv,zG,hfr.add,h4,h11,m1,hcl2,hcA,hwA,g92,yZ,deI,hdl,hdA,hwD,n9,hta,htb,q13,q25,q26,hrp hf,y7]
       ·cases htb:zAj ob
        ·have hkb:zB5 t ⟨op,num,var,attr,(c:Int),(d:Int)⟩=false:=by simp[zB5,zBt,hoa',hob',hta,htb,n8,q13,q25,q26,q12]
         have hf:=hno (by rw[hoe,hkb];rfl)
         simp[evx,q1,q15,q16,q17,ii,ss,hlt,hk',y0,y4,hle,hw6,yA,zC,hag,bv,zG,hfr.add,h4,h11,m1,hcl2,hcA,hwA,g92,yZ,deI,hdl,hdA,hwD,n9,hta,htb,q13,q25,q26,hrp hf,y7]
        ·have hkb:zB5 t ⟨op,num,var,attr,(c:Int),(d:Int)⟩=false:=by simp[zB5,zBt,hoa',hob',hta,htb,n8,q13,q25,q26,q12]
         have hf:=hno (by rw[hoe,hkb];rfl)
         simp[evx,q1,q15,q16,q17,ii,ss,hlt,hk',y0,y4,hle,hw6,yA,zC,hag,bv,zG,hfr.add,h4,h11,m1,hcl2,hcA,hwA,g92,yZ,deI,hdl,hdA,hwD,n9,hta,htb,q13,q25,q26,hrp hf,y7]
      ·have hop:op=25∨op=26:=by unfold zBc at har2;grind
       rcases hop with rfl|rfl
       ·skip
        cases hta:zAj oa
        ·cases htb:zAj ob
         ·have hkb:zB5 t ⟨25,num,var,attr,(c:Int),(d:Int)⟩=false:=by simp[zB5,zBt,hoa',hob',hta,htb,n8]
          have hf:=hno (by rw[hoe,hkb];rfl)
          simp[evx,q1,q15,q16,q17,ii,ss,hlt,hk',y0,y4,hle,hw6,yA,zC,hag,bv,zG,hfr.add,h4,h11,m1,hcl2,hcA,hwA,g92,yZ,deI,hdl,hdA,hwD,n9,hta,htb,hrp hf,y7]
         ·have hkb:zB5 t ⟨25,num,var,attr,(c:Int),(d:Int)⟩=false:=by simp[zB5,zBt,hoa',hob',hta,htb,n8]
          have hf:=hno (by rw[hoe,hkb];rfl)
          simp[evx,q1,q15,q16,q17,ii,ss,hlt,hk',y0,y4,hle,hw6,yA,zC,hag,bv,zG,hfr.add,h4,h11,m1,hcl2,hcA,hwA,g92,yZ,deI,hdl,hdA,hwD,n9,hta,htb,hrp hf,y7]
        ·cases htb:zAj ob
         ·have hkb:zB5 t ⟨25,num,var,attr,(c:Int),(d:Int)⟩=false:=by simp[zB5,zBt,hoa',hob',hta,htb,n8]
          have hf:=hno (by rw[hoe,hkb];rfl)
          simp[evx,q1,q15,q16,q17,ii,ss,hlt,hk',y0,y4,hle,hw6,yA,zC,hag,bv,zG,hfr.add,h4,h11,m1,hcl2,hcA,hwA,g92,yZ,deI,hdl,hdA,hwD,n9,hta,htb,hrp hf,y7]
         ·have hkb:zB5 t ⟨25,num,var,attr,(c:Int),(d:Int)⟩=true:=by simp[zB5,zBt,hoa',hob',hta,htb,n8]
          have hs1:=fin e' h' n' hkb;simp[evx,q1,q2,q4,q15,q16,q17,ii,ss,hlt,hk',y0,y2,y3,y4,hle,hw6,yA,zC,hag,hbk,hbi,bv,zG,hfr.add,h4,h11,m1,hcl2,hcA,hwA,g92,yZ,deI,hdl,hdA,hwD,n9,hta,htb,hw];exact⟨⟨j+1,by omega,hs1,by omega,hsk'.symm⟩,by omega⟩
       ·skip
        cases hta:zAj oa
        ·cases htb:zAj ob
         ·have hkb:zB5 t ⟨26,num,var,attr,(c:Int),(d:Int)⟩=false:=by simp[zB5,zBt,hoa',hob',hta,htb,n8]
          have hf:=hno (by rw[hoe,hkb];rfl)
          simp[evx,q1,q15,q16,q17,ii,ss,hlt,hk',y0,y4,hle,hw6,yA,zC,hag,bv,zG,hfr.add,h4,h11,m1,hcl2,hcA,hwA,g92,yZ,deI,hdl,hdA,hwD,n9,hta,htb,hrp hf,y7]
         ·have hkb:zB5 t ⟨26,num,var,attr,(c:Int),(d:Int)⟩=false:=by simp[zB5,zBt,hoa',hob',hta,htb,n8]
          have hf:=hno (by rw[hoe,hkb];rfl)
          simp[evx,q1,q15,q16,q17,ii,ss,hlt,hk',y0,y4,hle,hw6,yA,zC,hag,bv,zG,hfr.add,h4,h11,m1,hcl2,hcA,hwA,g92,yZ,deI,hdl,hdA,hwD,n9,hta,htb,hrp hf,y7]
        ·cases htb:zAj ob
         ·have hkb:zB5 t ⟨26,num,var,attr,(c:Int),(d:Int)⟩=false:=by simp[zB5,zBt,hoa',hob',hta,htb,n8]
          have hf:=hno (by rw[hoe,hkb];rfl)
          simp[evx,q1,q15,q16,q17,ii,ss,hlt,hk',y0,y4,hle,hw6,yA,zC,hag,bv,zG,hfr.add,h4,h11,m1,hcl2,hcA,hwA,g92,yZ,deI,hdl,hdA,hwD,n9,hta,htb,hrp hf,y7]
         ·have hkb:zB5 t ⟨26,num,var,attr,(c:Int),(d:Int)⟩=true:=by simp[zB5,zBt,hoa',hob',hta,htb,n8]
          have hs1:=fin e' h' n' hkb;simp[evx,q1,q2,q4,q15,q16,q17,ii,ss,hlt,hk',y0,y2,y3,y4,hle,hw6,yA,zC,hag,hbk,hbi,bv,zG,hfr.add,h4,h11,m1,hcl2,hcA,hwA,g92,yZ,deI,hdl,hdA,hwD,n9,hta,htb,hw];exact⟨⟨j+1,by omega,hs1,by omega,hsk'.symm⟩,by omega⟩
    ·have h3:op<4:=by omega
     have hm:zQz op=false:=by simp[zQz,h4]
     have hkb : zB5   t ⟨op, num, var, attr, xa, xb⟩ = true := by have : op < 12 := by omega
                                                                  simp[zB5,this]
     have hiv:wK (vars q.items) ⟨op,num,var,attr,xa,xb⟩=0:=by simp only[wK];rw[if_neg (by omega)]
     have hsk':=hsk hiv;have hs1:zMv (vars q.items) t (j+1)=true:=by rw[hsu,hok,hoe,hm,hkb];rfl
     have m1:¬12≤op:=by omega
     have y6:n+1<n'+2:=by omega
     have y7:n≤n'+2:=by omega
     simp[evx,q1,q2,q4,q15,q16,q17,ii,ss,hlt,hk',y2,y3,y4,hle,hw6,yA,zC,hag,hbk,hbi,zG,hfr.add,h4,m1,hw];exact⟨⟨j+1,by omega,hs1,by omega,hsk'.symm⟩,by omega⟩
   ·obtain rfl:j=t.length:=by omega
    have hpo:zGt (vars q.items) t n (.t [.s (n+1) 0 0 t.length,.v (.bool true)]) h' n':=by
     simp only[zGt,hrt,hok,if_true];exact⟨n+1,rfl,by rw[hbi,yIw],by omega,by omega⟩
    simp[evx,q4,q16,q17,ii];exact⟨hag,hfr,by omega,hpo⟩
 exact key _ rfl rfl
end Go.Proofs.YtbffkkeieihpdaaGreatDoor
