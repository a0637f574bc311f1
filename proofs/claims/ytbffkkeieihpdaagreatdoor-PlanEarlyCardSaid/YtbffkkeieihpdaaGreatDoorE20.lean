import Derived.Test.YtbffkkeieihpdaaGreatDoorE19
set_option linter.unusedSimpArgs false
set_option linter.unusedVariables false
set_option linter.constructorNameAsVariable false
set_option maxRecDepth 100000
set_option maxHeartbeats 4000000
namespace Go.Proofs.YtbffkkeieihpdaaGreatDoor
open Go Go.Eng
def itC (vs:List ByteArray) (t:List Nd) (j:Nat):List AV:=(List.range t.length).map fun i=>if i<j then ii (wA vs (t.getD i nd0))else ii 0
theorem yGo (vs:List ByteArray) (t:List Nd) (j:Nat):(itC vs t j).length=t.length:=by simp[itC]
theorem yB2 (vs:List ByteArray) (t:List Nd):repZ [Value.int .i64 0] t.length=itC vs t 0:=by
 have:∀m,repZ [Value.int .i64 0] m=(List.range m).map fun _=>ii 0:=fun m=>by
  induction m with
  | zero=>rfl
  | succ m ih=>rw[List.range_succ_eq_map,wE,List.map_map];simp only[repZ,ih];rfl
 rw[this];simp[itC]
theorem yGp (vs:List ByteArray) (t:List Nd):itC vs t t.length=(t.map (wA vs)).map ii:=by
 apply List.ext_getElem
 ·simp[itC]
 ·intro i h1 h2
  have hi:i<t.length:=by simpa[itC]using h1
  simp[itC,hi]
theorem yB3 {vs:List ByteArray} {t:List Nd} {j:Nat} (hj:j<t.length) (h0:wA vs t[j]=0):itC vs t (j+1)=itC vs t j:=by
 unfold itC;apply zB5;intro i hi;have hi:=zAm.1 hi;by_cases e:i=j
 ·subst e
  rw[if_pos (by omega),if_neg (by omega),zB,zA hj,wM,h0]
 ·by_cases h:i<j
  ·rw[if_pos h,if_pos (by omega)]
  ·rw[if_neg h,if_neg (by omega)]
theorem yGn {vs:List ByteArray} {t:List Nd} {j:Nat} (hj:j<t.length):(itC vs t j).set j (ii (wA vs t[j]))=itC vs t (j+1):=by
 apply List.ext_getElem
 ·simp[itC]
 ·intro i h1 h2
  have hi:i<t.length:=by simpa[itC]using h2
  rw[List.getElem_set];by_cases e:j=i
  ·subst e
   simp[itC,hj]
  ·rw[if_neg e]
   simp only[itC,wN,List.getElem_range];by_cases h:i<j
   ·rw[if_pos h,if_pos (by omega)]
   ·rw[if_neg h,if_neg (by omega)]
def zGs (vs:List ByteArray) (t:List Nd) (n:Nat) (z:AV) (h':Heap) (n':Nat):Prop:=if zI9 vs t=true then ∃w,z=.t [.s w 0 0 t.length,bv true]∧h' w=some ⟨(t.map (wA vs)).map ii,0,true,1⟩∧n≤w∧w<n' else z=.t [.v (.slice none 0 0),bv false]
def yH3:List (FuncId×(List AV→Heap→PRes)):=[(79,G70),(162,G91),(163,g92)]
theorem yEx:zQh [3] yH3:=zS P70 (zS P91 (zS p92 yJ))
theorem c54 {h:Heap} {n:Nat} {x ta:AV} {q:Qu} {t:List Nd} (e1:deQ h x=some q) (e5:rd dNs h ta=some t) (hp1:q.items.length<big) (hp2:xQ t) (hn:Fresh n h) :
  ACall (cx [3] (pfL yH3)) 119 [x,ta] h n fun z h' n'=>agree n h h'∧Fresh n' h'∧n≤n'∧zGs (vars q.items) t n z h' n':=by
 refine yR (args:=[x,ta]) (zAr yEx) (zB3 _ _) Tryz.func119 (c:=Tryz.f119.body.getD .skip) rfl (by kernel_rfl) (xK Tryz.func119 rfl rfl _ _) (show 2≤Tryz.f119.ntmps by decide +kernel) ?_
 obtain⟨a,b,c,rfl,e2,e3,e4⟩:=wH e1;have hp':t.length*64≤140737488355328:=hp2;obtain⟨s1,s2,s3,s4,s5⟩:=zN e5;have o1:=(zN e2).2.2.2.1;have o2:=(zN e3).2.2.2.1;have o3:=(zN e4).2.2.2.1;have g5:=yT hn e5;have gq:∀h',agree n h h'→deQ h' (.g [a,ii q.mode,ii q.after,b,ii q.within,ss q.par,c])=some q:=fun h' ha=>zC0 (zB8 hn ha) e1
 simp only[ii,ss]at gq;have hrp:zI9 (vars q.items) t=false→∀h2 n2,zGs (vars q.items) t n (.t [.v (.slice none 0 0),.v (.bool false)]) h2 n2:=fun e h2 n2=>by simp only[zGs,e,bv];simp
 have key:∀e:Nat→AV,e 0=.g [a,ii q.mode,ii q.after,b,ii q.within,ss q.par,c]→e 1=ta→awp (cx [3] (pfL yH3)) (Tryz.f119.body.getD .skip) (zBc (cx [3] (pfL yH3)) Tryz.f119 fun z h' n'=>agree n h h'∧Fresh n' h'∧n≤n'∧zGs (vars q.items) t n z h' n') ⟨e,h,n⟩:=fun e q0 q1=>by
  cases ht:zAh t with
  | false =>
   have hf:zI9 (vars q.items) t=false:=by simp[zI9,ht]
   simp[evx,Tryz.f119,q0,q1,ii,ss,o1,o2,o3,yH3,G70,yH,deT,g5,zD,zE,hp2,ht,bv,hrp hf,zF,hn.add]
  | true =>
   have hrt:zI9 (vars q.items) t=zM6 (vars q.items) t t.length:=by simp[zI9,ht]
   have hb1:(8:Int)*(t.length:Int)≤281474976710656:=by omega
   have hb2:(t.length:Int)≤9223372036854775807:=by omega
   have hz:=yB2 (vars q.items) t;simp[evx,Tryz.f119,q0,q1,ii,ss,s1,s2,o1,o2,o3,yH3,G70,yH,deT,g5,zD,zE,hp2,ht,bv,hb1,hb2,hz];refine yN (fun s=>∃j:Nat,j≤t.length∧zM6 (vars q.items) t j=true∧s.e 1=ta∧s.e 2=.p n 0 0∧s.e 4=.s (n+1) 0 0 t.length∧s.e 15=ta∧s.e 16=ii t.length∧s.e 17=ii j∧agree n h s.h∧s.h n=some ⟨[a,ii q.mode,ii q.after,b,ii q.within,ss q.par,c],0,true,7⟩∧s.h (n+1)=some ⟨itC (vars q.items) t j,0,true,1⟩∧Fresh s.n s.h∧n+2≤s.n) (fun s=>t.length-(s.e 17).i.toNat) ⟨0,by simp[ii,ss,zE,zM6,zD,zF,hn.add];simp[up,q1]⟩ ?_
   rintro e' h' n' ⟨j,hj,hok,q1,q2,q4,q15,q16,q17,hag,hbk,hbi,hfr,hnn⟩;simp only[]at q1 q2 q4 q15 q16 q17 hag hbk hbi hfr hnn;by_cases hlt:j<t.length
   ·rcases zKk e5 with ⟨h0,_⟩|⟨id,off,k,rfl,hk,ho',hat⟩
    ·rw[h0]at hlt;simp at hlt
    have hr:=hat j hlt;have hko:=zOj ht j hlt;have hid:=xB hk hn;have hk':h' id=some k:=by rw[hag id hid];exact hk
    have y0:¬id=n':=by omega
    have y1:¬id=n+1:=by omega
    have y2:¬n=n':=by omega
    have y3:¬n+1=n':=by omega
    have y4:n≤n':=by omega
    have y5:n≤n+1:=by omega
    have hw:=yK (j:=j) (by unfold big;omega)
    have hle:∀(X:Ctx) (h':Heap),h' id=some k→ldcs X h' (.p id k.ver (off+j*6)) 0 6=yC t[j]:=fun X h' e=>zKo e hr
    have hw6:off+(j*6+6)≤k.cells.length:=by omega
    have hA:∀c,c<t.length→k.cells[off+c*6]? = some (ii (t.getD c nd0).op)∧off+(c*6+1)≤k.cells.length:=fun c hc=>by
     have:=yI (c:=0) (hat c hc) rfl (by omega)
     rw[zB,zA hc];exact⟨this,by omega⟩
    have hsu:=zXp (vs:=vars q.items) hlt;have hno:=yFz (vs:=vars q.items) hlt;have hoe:=zXs (vars q.items) t t[j];have hsk:=yB3 (vs:=vars q.items) hlt;have hst:=yGn (vs:=vars q.items) hlt;have hcl:=yGo (vars q.items) t j;rw[←hrt]at hno;generalize t[j]=x at *;generalize hcs:itC (vars q.items) t j=cs at *;obtain⟨op,num,var,attr,xa,xb⟩:=x;simp only[]at hoe;have hj1:j+1≤t.length:=hlt;by_cases h4:4≤op
    ·by_cases h11:op≤11
     ·have hm:zPl op=true:=by simp[zPl,h4,h11]
      have hkb : zBt   t ⟨op, num, var, attr, xa, xb⟩ = true := by have : op < 12 := by omega
                                                                   simp[zBt,this]
      have hiv:wA (vars q.items) ⟨op,num,var,attr,xa,xb⟩=wY (vars q.items) var:=by simp only[wA,if_pos (And.intro h4 h11)]
      rw[hiv]at hst;rw[hm,hkb]at hoe;have y6:n+1<n'+3:=by omega
      have y7:n≤n'+3:=by omega
      by_cases hneg:wY (vars q.items) var<0
      ·have hng:¬0≤wY (vars q.items) var:=by omega
       have hf:=hno (by rw[hoe];simp[hng])
       simp[evx,q2,q4,q15,q16,q17,ii,ss,hlt,hk',y2,y3,y4,y5,hle,hw6,yC,zD,hag,hbk,hbi,hcl,hj1,bv,zF,hfr.add,h4,h11,G91,yH,yCf,gq,hp1,hneg,hng,hrp hf,y6,y7]
      ·have hng:0≤wY (vars q.items) var:=by omega
       have hs1:zM6 (vars q.items) t (j+1)=true:=by rw[hsu,hok,hoe];simp[hng]
       simp only[ii]at hst;simp[evx,q1,q2,q4,q15,q16,q17,ii,ss,hlt,hk',y2,y3,y4,y5,hle,hw6,yC,zD,hag,hbk,hbi,hcl,hj1,bv,zF,hfr.add,h4,h11,G91,yH,yCf,gq,hp1,hneg,hng,hw,y6,hst];exact⟨⟨j+1,by omega,hs1,by omega,rfl,by omega⟩,by omega⟩
     ·have har:1≤zBg op:=by have:=hko.ar;simp only[]at this;unfold zBg at this ⊢;grind
      have hm:zPl op=false:=by simp[zPl];omega
      have hiv:wA (vars q.items) ⟨op,num,var,attr,xa,xb⟩=0:=by simp only[wA];rw[if_neg (by omega)]
      rw[hm]at hoe;have hsk':=hsk hiv;obtain⟨k1,_,k2,k3,k4,_⟩:=hko;simp only[]at k1 k2 k3 k4;obtain⟨c,rfl⟩:∃c:Nat,xa=c:=⟨xa.toNat,by have:=(k2 har).1;omega⟩
      have hcl2:c<t.length:=by have:=(k2 har).2;omega
      obtain⟨hcA,hwA⟩:=hA c hcl2;generalize hoa:(t.getD c nd0).op=oa at *;have hoa':=hoa;rw[zB]at hoa';have m1:12≤op:=by omega
      have y6:n+1<n'+2:=by omega
      have y7:n≤n'+2:=by omega
      have hwt:zBh op=(decide (op=13)||decide (op=25)||decide (op=26)):=by simp[zBh,Bool.or_assoc]
      have fin:∀(e2:Nat→AV) (h2:Heap) (n2:Nat),zBt t ⟨op,num,var,attr,(c:Int),xb⟩=true→zM6 (vars q.items) t (j+1)=true:=fun _ _ _ hk=>by rw[hsu,hok,hoe,hk];rfl
      have hopc:op=13∨op=25∨op=26∨(op≠13∧op≠25∧op≠26):=by omega
      by_cases h14:op<14
      ·have hb:xb=-1:=k4 (by unfold zBg;grind)
       subst hb;rcases (show op=12∨op=13 by omega)with rfl|rfl
       ·cases hta:wX oa
        ·have hkb:zBt t ⟨12,num,var,attr,(c:Int),-1⟩=true:=by simp[zBt,zBh,hoa',hta]
         have hs1:=fin e' h' n' hkb;simp[evx,q1,q2,q4,q15,q16,q17,ii,ss,hlt,hk',y0,y2,y3,y4,hle,hw6,yC,zD,hag,hbk,hbi,bv,zF,hfr.add,h4,h11,hcl2,hcA,hwA,g92,yV,deI,hta,hw];exact⟨⟨j+1,by omega,hs1,by omega,hsk'.symm⟩,by omega⟩
        ·have hkb:zBt t ⟨12,num,var,attr,(c:Int),-1⟩=false:=by simp[zBt,zBh,hoa',hta]
         have hf:=hno (by rw[hoe,hkb];rfl)
         simp[evx,q1,q15,q16,q17,ii,ss,hlt,hk',y0,y4,hle,hw6,yC,zD,hag,bv,zF,hfr.add,h4,h11,hcl2,hcA,hwA,g92,yV,deI,hta,hrp hf,y7]
       ·cases hta:wX oa
        ·have hkb:zBt t ⟨13,num,var,attr,(c:Int),-1⟩=false:=by simp[zBt,zBh,hoa',hta]
         have hf:=hno (by rw[hoe,hkb];rfl)
         simp[evx,q1,q15,q16,q17,ii,ss,hlt,hk',y0,y4,hle,hw6,yC,zD,hag,bv,zF,hfr.add,h4,h11,m1,hcl2,hcA,hwA,g92,yV,deI,hta,hrp hf,y7]
        ·have hkb:zBt t ⟨13,num,var,attr,(c:Int),-1⟩=true:=by simp[zBt,zBh,hoa',hta]
         have hs1:=fin e' h' n' hkb;simp[evx,q1,q2,q4,q15,q16,q17,ii,ss,hlt,hk',y0,y2,y3,y4,hle,hw6,yC,zD,hag,hbk,hbi,bv,zF,hfr.add,h4,h11,m1,hcl2,hcA,hwA,g92,yV,deI,hta,hw];exact⟨⟨j+1,by omega,hs1,by omega,hsk'.symm⟩,by omega⟩
      have har2:zBg op=2:=by unfold zBg at k1 ⊢;grind
      obtain⟨d,rfl⟩:∃d:Nat,xb=d:=⟨xb.toNat,by have:=(k3 har2).1;omega⟩
      have hdl:d<t.length:=by have:=(k3 har2).2;omega
      obtain⟨hdA,hwD⟩:=hA d hdl;generalize hob:(t.getD d nd0).op=ob at *;have hob':=hob;rw[zB]at hob';have n8:¬(d:Int)<0:=by omega
      have n9:(0:Int)≤d:=by omega
      by_cases h24:op≤24
      ·have q13:¬op=13:=by omega
       have q25:¬op=25:=by omega
       have q26:¬op=26:=by omega
       have q12:¬op<12:=by omega
       cases hta:wX oa
       ·cases htb:wX ob
        ·have hkb:zBt t ⟨op,num,var,attr,(c:Int),(d:Int)⟩=true:=by simp[zBt,zBh,hoa',hob',hta,htb,n8,q13,q25,q26,q12]
         have hs1:=fin e' h' n' hkb;simp[evx,q1,q2,q4,q15,q16,q17,ii,ss,hlt,hk',y0,y2,y3,y4,hle,hw6,yC,zD,hag,hbk,hbi,bv,zF,hfr.add,h4,h11,m1,hcl2,hcA,hwA,g92,yV,deI,hdl,hdA,hwD,n9,hta,htb,q13,q25,q26,hw];exact⟨⟨j+1,by omega,hs1,by omega,hsk'.symm⟩,by omega⟩
        ·have hkb:zBt t ⟨op,num,var,attr,(c:Int),(d:Int)⟩=false:=by simp[zBt,zBh,hoa',hob',hta,htb,n8,q13,q25,q26,q12]
         have hf:=hno (by rw[hoe,hkb];rfl)
         simp[evx,q1,q15,q16,q17,ii,ss,hlt,hk',y0,y4,hle,hw6,yC,zD,hag,bv,zF,hfr.add,h4,h11,m1,hcl2,hcA,hwA,g92,yV,deI,hdl,hdA,hwD,n9,hta,htb,q13,q25,q26,hrp hf,y7]
       ·cases htb:wX ob
        ·have hkb:zBt t ⟨op,num,var,attr,(c:Int),(d:Int)⟩=false:=by simp[zBt,zBh,hoa',hob',hta,htb,n8,q13,q25,q26,q12]
         have hf:=hno (by rw[hoe,hkb];rfl)
         simp[evx,q1,q15,q16,q17,ii,ss,hlt,hk',y0,y4,hle,hw6,yC,zD,hag,bv,zF,hfr.add,h4,h11,m1,hcl2,hcA,hwA,g92,yV,deI,hdl,hdA,hwD,n9,hta,htb,q13,q25,q26,hrp hf,y7]
        ·have hkb:zBt t ⟨op,num,var,attr,(c:Int),(d:Int)⟩=false:=by simp[zBt,zBh,hoa',hob',hta,htb,n8,q13,q25,q26,q12]
         have hf:=hno (by rw[hoe,hkb];rfl)
         simp[evx,q1,q15,q16,q17,ii,ss,hlt,hk',y0,y4,hle,hw6,yC,zD,hag,bv,zF,hfr.add,h4,h11,m1,hcl2,hcA,hwA,g92,yV,deI,hdl,hdA,hwD,n9,hta,htb,q13,q25,q26,hrp hf,y7]
      ·have hop:op=25∨op=26:=by unfold zBg at har2;grind
       rcases hop with rfl|rfl
       ·skip
        cases hta:wX oa
        ·cases htb:wX ob
         ·have hkb:zBt t ⟨25,num,var,attr,(c:Int),(d:Int)⟩=false:=by simp[zBt,zBh,hoa',hob',hta,htb,n8]
          have hf:=hno (by rw[hoe,hkb];rfl)
          simp[evx,q1,q15,q16,q17,ii,ss,hlt,hk',y0,y4,hle,hw6,yC,zD,hag,bv,zF,hfr.add,h4,h11,m1,hcl2,hcA,hwA,g92,yV,deI,hdl,hdA,hwD,n9,hta,htb,hrp hf,y7]
         ·have hkb:zBt t ⟨25,num,var,attr,(c:Int),(d:Int)⟩=false:=by simp[zBt,zBh,hoa',hob',hta,htb,n8]
          have hf:=hno (by rw[hoe,hkb];rfl)
          simp[evx,q1,q15,q16,q17,ii,ss,hlt,hk',y0,y4,hle,hw6,yC,zD,hag,bv,zF,hfr.add,h4,h11,m1,hcl2,hcA,hwA,g92,yV,deI,hdl,hdA,hwD,n9,hta,htb,hrp hf,y7]
        ·cases htb:wX ob
         ·have hkb:zBt t ⟨25,num,var,attr,(c:Int),(d:Int)⟩=false:=by simp[zBt,zBh,hoa',hob',hta,htb,n8]
          have hf:=hno (by rw[hoe,hkb];rfl)
          simp[evx,q1,q15,q16,q17,ii,ss,hlt,hk',y0,y4,hle,hw6,yC,zD,hag,bv,zF,hfr.add,h4,h11,m1,hcl2,hcA,hwA,g92,yV,deI,hdl,hdA,hwD,n9,hta,htb,hrp hf,y7]
         ·have hkb:zBt t ⟨25,num,var,attr,(c:Int),(d:Int)⟩=true:=by simp[zBt,zBh,hoa',hob',hta,htb,n8]
          have hs1:=fin e' h' n' hkb;simp[evx,q1,q2,q4,q15,q16,q17,ii,ss,hlt,hk',y0,y2,y3,y4,hle,hw6,yC,zD,hag,hbk,hbi,bv,zF,hfr.add,h4,h11,m1,hcl2,hcA,hwA,g92,yV,deI,hdl,hdA,hwD,n9,hta,htb,hw];exact⟨⟨j+1,by omega,hs1,by omega,hsk'.symm⟩,by omega⟩
       ·skip
        cases hta:wX oa
        ·cases htb:wX ob
         ·have hkb:zBt t ⟨26,num,var,attr,(c:Int),(d:Int)⟩=false:=by simp[zBt,zBh,hoa',hob',hta,htb,n8]
          have hf:=hno (by rw[hoe,hkb];rfl)
          simp[evx,q1,q15,q16,q17,ii,ss,hlt,hk',y0,y4,hle,hw6,yC,zD,hag,bv,zF,hfr.add,h4,h11,m1,hcl2,hcA,hwA,g92,yV,deI,hdl,hdA,hwD,n9,hta,htb,hrp hf,y7]
         ·have hkb:zBt t ⟨26,num,var,attr,(c:Int),(d:Int)⟩=false:=by simp[zBt,zBh,hoa',hob',hta,htb,n8]
          have hf:=hno (by rw[hoe,hkb];rfl)
          simp[evx,q1,q15,q16,q17,ii,ss,hlt,hk',y0,y4,hle,hw6,yC,zD,hag,bv,zF,hfr.add,h4,h11,m1,hcl2,hcA,hwA,g92,yV,deI,hdl,hdA,hwD,n9,hta,htb,hrp hf,y7]
        ·cases htb:wX ob
         ·have hkb:zBt t ⟨26,num,var,attr,(c:Int),(d:Int)⟩=false:=by simp[zBt,zBh,hoa',hob',hta,htb,n8]
          have hf:=hno (by rw[hoe,hkb];rfl)
          simp[evx,q1,q15,q16,q17,ii,ss,hlt,hk',y0,y4,hle,hw6,yC,zD,hag,bv,zF,hfr.add,h4,h11,m1,hcl2,hcA,hwA,g92,yV,deI,hdl,hdA,hwD,n9,hta,htb,hrp hf,y7]
         ·have hkb:zBt t ⟨26,num,var,attr,(c:Int),(d:Int)⟩=true:=by simp[zBt,zBh,hoa',hob',hta,htb,n8]
          have hs1:=fin e' h' n' hkb;simp[evx,q1,q2,q4,q15,q16,q17,ii,ss,hlt,hk',y0,y2,y3,y4,hle,hw6,yC,zD,hag,hbk,hbi,bv,zF,hfr.add,h4,h11,m1,hcl2,hcA,hwA,g92,yV,deI,hdl,hdA,hwD,n9,hta,htb,hw];exact⟨⟨j+1,by omega,hs1,by omega,hsk'.symm⟩,by omega⟩
    ·have h3:op<4:=by omega
     have hm:zPl op=false:=by simp[zPl,h4]
     have hkb : zBt   t ⟨op, num, var, attr, xa, xb⟩ = true := by have : op < 12 := by omega
                                                                  simp[zBt,this]
     have hiv:wA (vars q.items) ⟨op,num,var,attr,xa,xb⟩=0:=by simp only[wA];rw[if_neg (by omega)]
     have hsk':=hsk hiv;have hs1:zM6 (vars q.items) t (j+1)=true:=by rw[hsu,hok,hoe,hm,hkb];rfl
     have m1:¬12≤op:=by omega
     have y6:n+1<n'+2:=by omega
     have y7:n≤n'+2:=by omega
     simp[evx,q1,q2,q4,q15,q16,q17,ii,ss,hlt,hk',y2,y3,y4,hle,hw6,yC,zD,hag,hbk,hbi,zF,hfr.add,h4,m1,hw];exact⟨⟨j+1,by omega,hs1,by omega,hsk'.symm⟩,by omega⟩
   ·obtain rfl:j=t.length:=by omega
    have hpo:zGs (vars q.items) t n (.t [.s (n+1) 0 0 t.length,.v (.bool true)]) h' n':=by
     simp only[zGs,hrt,hok,if_true];exact⟨n+1,rfl,by rw[hbi,yGp],by omega,by omega⟩
    simp[evx,q4,q16,q17,ii];exact⟨hag,hfr,by omega,hpo⟩
 exact key _ rfl rfl
end Go.Proofs.YtbffkkeieihpdaaGreatDoor
