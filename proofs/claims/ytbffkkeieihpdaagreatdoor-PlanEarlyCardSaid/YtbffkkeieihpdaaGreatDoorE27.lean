import Derived.Test.YtbffkkeieihpdaaGreatDoorE24
import Derived.Test.YtbffkkeieihpdaaGreatDoorE26
import Derived.Test.YtbffkkeieihpdaaGreatDoorE23
import Derived.Test.YtbffkkeieihpdaaGreatDoorE25
import Derived.Test.YtbffkkeieihpdaaGreatDoorE15
set_option linter.unusedSimpArgs false
set_option linter.unusedVariables false
set_option linter.constructorNameAsVariable false
set_option maxRecDepth 100000
set_option maxHeartbeats 4000000
namespace Go.Proofs.YtbffkkeieihpdaaGreatDoor
open Go Go.Eng
section
noncomputable def zRm:Code:=yW (tlC 1 (Tryz.f58.body.getD .skip))
noncomputable def zV2:Code:=inB (hdC 1 (tlC 2 zRm))
def zZs:List (FuncId×(List AV→Heap→PRes)):=[(113,GUs),(116,GAt)]
structure J58 (hB:Heap) (n1 bid mid:Nat) (T:Nat→Nat) (p:Pt) (P:Pl) (f:ByteArray→Option (Bool×Nat)) (j:Nat) (s:St):Prop where
 q2:s.e 2=.p bid 0 0
 q14:s.e 14=p.sa
 q15:s.e 15=ii P.sc.length
 q16:s.e 16=ii j
 bi:BI hB n1 bid mid T s.h s.n p P f
section
variable {hB:Heap} {n1 bid mid:Nat} {T:Nat→Nat} {p:Pt} {P:Pl} {f:ByteArray→Option (Bool×Nat)} {j:Nat}
theorem yPx {u:Bool} {c:Int} (hl:P.used.length≤1099511627776) (s:St) {Q} (J:J58 hB n1 bid mid T p P f j s) (q5:s.e 5=bv u) (q6:s.e 6=ii c) :
  awp (cx [] (pfL zZs)) (hdC 1 (tlC 4 zV2)) (zAs (fun s'=>(∃T' p',J58 hB n1 bid mid T' p' {P with used:=P.used++[u]} f j s')∧s'.e 6=ii c) Q) s:=by
 obtain⟨e,h0,n0⟩:=s;obtain⟨q2,q14,q15,q16,bi⟩:=J;simp only[]at q2 q14 q15 q16 bi q5 q6;obtain⟨lb,lm,nbm⟩:=bi.low;obtain⟨cs,gl,gR⟩:=bi.us;have x4:¬bid=n0+1:=by omega
 have x5:¬bid=n0:=by omega
 have hbb:=bi.bb;rcases gl.at with ⟨ga,g0,rfl⟩|⟨id,ver,ga,gT,gh⟩
 ·simp[evx,hdC,tlC,zV2,zRm,inB,yW,Tryz.f58,q2,q5,hbb,xH,ii,ss,bv,ga,x4,x5]
  have V:=Mv.three_nil (n':=n0+3) bi.s (k:=4) (by omega) ⟨[bv u],0,true,1⟩ ⟨[bv u],0,true,1⟩ ⟨xH {p with ua:=.s (n0+1) 0 0 1} P mid,0,true,17⟩ (by omega)
  refine⟨⟨fun i=>if i=n0+1 then 4 else T i,{p with ua:=.s (n0+1) 0 0 1},by simp[up,q2],by simp[up,q14],by simp[up,q15],by simp[up,q16],bi.usapp V _ _ (zJ _ _ _) ?_⟩,by simpa[ii]using q6⟩
  have hne:P.used=[]:=zX.1 g0;rw[hne];exact LR.app (xs:=[]) (cs:=[]) (ns:=[bv u]) (by simp) (by rfl) (if_pos rfl) (by rw[zP _ _ (Ne.symm x4),zJ];rfl) (fun i hi=>by simp at hi) rfl
 ·have y1:¬id=n0:=by have:=xB gh bi.s.fr;omega
  have y3:¬id=bid:=fun e=>by rw[e,bi.s.tb]at gT;cases gT
  have y4:¬bid=id:=fun e=>y3 e.symm
  have hcl:=gl.1;have hcl1:=hcl;simp only[xM]at hcl;simp[evx,hdC,tlC,zV2,zRm,inB,yW,Tryz.f58,q2,q5,hbb,xH,ii,ss,bv,ga,gh,x5,y1,y4,hcl];have V:=Mv.three (n':=n0+3) bi.s (k:=4) (by omega) gT (xB gh bi.s.fr) ⟨[bv u],0,true,1⟩ ⟨cs++[bv u],ver+1,true,1⟩ ⟨xH {p with ua:=.s id (ver+1) 0 (P.used.length+1)} P mid,0,true,17⟩ (by omega)
  refine⟨⟨by omega,by omega⟩,⟨T,{p with ua:=.s id (ver+1) 0 (P.used.length+1)},by simp[up,q2],by simp[up,q14],by simp[up,q15],by simp[up,q16],bi.usapp V _ _ (zJ _ _ _) ?_⟩,by simpa[ii]using q6⟩
  exact LR.app (cs:=cs) (ns:=[bv u]) hcl1 (by rfl) gT (by rw[zP _ _ y3,zJ]) (fun i hi=>De.bool.mono (V.still bi.s.fr) (gR i hi)) rfl
theorem yPz {c:Int} (hl:P.cols.length≤1099511627776) (s:St) {Q} (J:J58 hB n1 bid mid T p P f j s) (q6:s.e 6=ii c) (hQ:∀s',(∃T' p',J58 hB n1 bid mid T' p' {P with cols:=P.cols++[c]} f j s')→Q .normal s') :
  awp (cx [] (pfL zZs)) (tlC 5 zV2) Q s:=by
 obtain⟨e,h0,n0⟩:=s;obtain⟨q2,q14,q15,q16,bi⟩:=J;simp only[]at q2 q14 q15 q16 bi q6;obtain⟨lb,lm,nbm⟩:=bi.low;obtain⟨cs,gl,gR⟩:=bi.cl;have x4:¬bid=n0+1:=by omega
 have x5:¬bid=n0:=by omega
 have hbb:=bi.bb;rcases gl.at with ⟨ga,g0,rfl⟩|⟨id,ver,ga,gT,gh⟩
 ·simp[evx,hdC,tlC,zV2,zRm,inB,yW,Tryz.f58,q2,q6,hbb,xH,ii,ss,bv,ga,x4,x5]
  have V:=Mv.three_nil (n':=n0+3) bi.s (k:=5) (by omega) ⟨[ii c],0,true,1⟩ ⟨[ii c],0,true,1⟩ ⟨xH {p with la:=.s (n0+1) 0 0 1} P mid,0,true,17⟩ (by omega)
  refine hQ _ ⟨fun i=>if i=n0+1 then 5 else T i,{p with la:=.s (n0+1) 0 0 1},by simp[up,q2],by simp[up,q14],by simp[up,q15],by simp[up,q16],bi.clapp V _ _ (zJ _ _ _) ?_⟩
  have hne:P.cols=[]:=zX.1 g0;rw[hne];exact LR.app (xs:=[]) (cs:=[]) (ns:=[ii c]) (by simp) (by rfl) (if_pos rfl) (by rw[zP _ _ (Ne.symm x4),zJ];rfl) (fun i hi=>by simp at hi) rfl
 ·have y1:¬id=n0:=by have:=xB gh bi.s.fr;omega
  have y3:¬id=bid:=fun e=>by rw[e,bi.s.tb]at gT;cases gT
  have y4:¬bid=id:=fun e=>y3 e.symm
  have hcl:=gl.1;have hcl1:=hcl;simp only[xM]at hcl;simp[evx,hdC,tlC,zV2,zRm,inB,yW,Tryz.f58,q2,q6,hbb,xH,ii,ss,bv,ga,gh,x5,y1,y4,hcl];have V:=Mv.three (n':=n0+3) bi.s (k:=5) (by omega) gT (xB gh bi.s.fr) ⟨[ii c],0,true,1⟩ ⟨cs++[ii c],ver+1,true,1⟩ ⟨xH {p with la:=.s id (ver+1) 0 (P.cols.length+1)} P mid,0,true,17⟩ (by omega)
  refine⟨⟨by omega,by omega⟩,hQ _ ⟨T,{p with la:=.s id (ver+1) 0 (P.cols.length+1)},by simp[up,q2],by simp[up,q14],by simp[up,q15],by simp[up,q16],bi.clapp V _ _ (zJ _ _ _) ?_⟩⟩
  exact LR.app (cs:=cs) (ns:=[ii c]) hcl1 (by rfl) gT (by rw[zP _ _ y3,zJ]) (fun i hi=>(De.int .i64).mono (V.still bi.s.fr) (gR i hi)) rfl
end
end
section
section
variable {hB:Heap} {n1 bid mid:Nat} {T:Nat→Nat} {p:Pt} {P:Pl} {f:ByteArray→Option (Bool×Nat)} {j:Nat}
theorem yP0 (hsc:zCa P.sc) (hus:P.q.items.length<big∧∀it∈P.q.items,it.types.length<big) (hj:j<P.sc.length) (s:St) {Q} (J:J58 hB n1 bid mid T p P f j s) :
  awp (cx [] (pfL zZs)) (hdC 4 zV2) (zAs (fun s=>J58 hB n1 bid mid T p P f j s∧s.e 5=bv (zOf P.sc P.q j)∧s.e 6=ii (yH6 P.sc P.q j)) Q) s:=by
 obtain⟨e,h0,n0⟩:=s;obtain⟨q2,q14,q15,q16,bi⟩:=J;simp only[]at q2 q14 q15 q16 bi;obtain⟨lb,lm,nbm⟩:=bi.low;obtain⟨a',b',c',e0,x1,x2,x3⟩:=wH bi.s.qu;cases e0;rcases zOg bi.s.sch with ⟨h9,_⟩|⟨id,off,k,y1,y2,y3,hat⟩
 ·rw[h9]at hj;simp at hj
 obtain⟨y4,c,y5,y6⟩:=hat j hj;have y2':h0 id=some k:=zA8 _ _ _ _ y2;obtain⟨t1,t2,t3,t4,t5⟩:=zN y6;have y3':off+(j*2+2)≤k.cells.length:=by omega
 have hg:P.sc.getD j ty0=P.sc[j]:=by rw[zB,zA hj];rfl
 have hU:zOf P.sc P.q j=P.q.items.any (zFu P.sc[j]):=by unfold zOf;rw[hg];rfl
 have hC:yH6 P.sc P.q j=if P.q.items.any (zFu P.sc[j])=true∧emB P.q.par=false then zCn P.sc j P.q.par else -1:=by unfold yH6;rw[hU]
 have hsm:=hsc.2 _ (zH hj);rw[hU,hC];generalize hty:P.sc[j]=ty at *;refine zZ 1 _ _ (R:=fun s=>agree n0 h0 s.h∧Fresh s.n s.h∧n0≤s.n∧(∀i∈[2,14,15,16],s.e i=e i)∧s.e 3=ii j∧s.e 4=.p n0 0 0∧s.h n0=some ⟨[ss ty.name,c],0,true,2⟩∧n0<s.n) ?_ ?_
 ·simp[evx,hdC,zV2,zRm,inB,yW,tlC,Tryz.f58,q14,q16,ii,y1,hj,y2',y3',y4,y5,t4]
  exact⟨rfl,(zD (by omega) _).2 ((zD (by omega) _).2 (zE _ _)),(zF (by omega) _).2 ((zF (by omega) _).2 (bi.s.fr.add 2))⟩
 ·rintro e1 h1 n2 ⟨ag,fr,nn,he,q3,q4,b4,nn2⟩
  simp only[]at ag fr nn he q3 q4 b4 nn2;have hbb:h1 bid=some ⟨xH p P mid,0,true,17⟩:=(ag _ lb).trans bi.bb;have z2:=(he 2 (by simp)).trans q2
  have r1:rd zG5 h1 p.qa=some P.q.items:=yT bi.s.fr (yZ (zA8 _ _) x1) _ ag;have r2:rTyP.run h1 (.p n0 0 0)=some ty:=yIw (k:=⟨[ss ty.name,c],0,true,2⟩) b4 (zFd (yT bi.s.fr (yZ (zA8 _ _) y6) _ ag));have r3:zIp h1 (.g [p.sa])=some P.sc:=yT bi.s.fr (yZ (zA8 _ _) bi.s.sch) _ ag;have g1:GUs [p.qa,.f (.func 114) [] [.p n0 0 0]] h1=⟨yKl (P.q.items,ty),bv (P.q.items.any (zFu ty))⟩:=by
   have k1:(rL zG5).run h1 p.qa=some P.q.items:=r1;have k2:rUs.run h1 (.f (.func 114) [] [.p n0 0 0])=some ty:=r2;simp only[GUs,yH,de2,k1,k2,zT,zK]
  have g2:yKl (P.q.items,ty):=hus;have g3:GAt [.g [p.sa],ii j,ss P.q.par] h1=⟨zCa P.sc,ii (zCn P.sc j P.q.par)⟩:=by
   simp only[GAt,yH,zY9,ii,ss,r3,zK]
  have V:Mv (fun _=>False) T h0 n0 T h1 n2:=Mv.of_agree bi.s.tn (by omega) ag fr
  have bi':=bi.mv V;simp only[ii,ss]at g3;have fin:∀(e':Nat→AV),(∀i∈[2,14,15,16],e' i=e1 i)→J58 hB n1 bid mid T p P f j ⟨e',h1,n2⟩:=fun e' h=>⟨(h 2 (by simp)).trans z2,(h 14 (by simp)).trans ((he 14 (by simp)).trans q14),(h 15 (by simp)).trans ((he 15 (by simp)).trans q15),(h 16 (by simp)).trans ((he 16 (by simp)).trans q16),bi'⟩
  cases hu:P.q.items.any (zFu ty)with
  | false =>
   rw[hu]at g1;simp[evx,hdC,tlC,zV2,zRm,inB,yW,Tryz.f58,z2,q4,hbb,xH,ii,ss,bv,zZs,g1,g2];exact fin _ (by simp[up])
  | true =>
   rw[hu]at g1;cases hp:emB P.q.par with
   | true =>
    have hpar:(P.q.par != (⟨#[]⟩:ByteArray))=false:=by
     show (!(emB P.q.par))=_;rw[hp];rfl
    simp[evx,hdC,tlC,zV2,zRm,inB,yW,Tryz.f58,z2,q4,hbb,xH,ii,ss,bv,zZs,g1,g2,hpar];exact fin _ (by simp[up])
   | false =>
    have hpar:(P.q.par != (⟨#[]⟩:ByteArray))=true:=by
     show (!(emB P.q.par))=_;rw[hp];rfl
    simp[evx,hdC,tlC,zV2,zRm,inB,yW,Tryz.f58,z2,q3,q4,hbb,xH,ii,ss,bv,zZs,g1,g2,g3,hsc,hpar];exact fin _ (by simp[up])
end
end
section
def plT (sc:List Ty) (q:Qu) (j:Nat):Pl:={plJ sc q with used:=(List.range j).map (zOf sc q),cols:=(List.range j).map (yH6 sc q)}
theorem yA1 (sc:List Ty) (q:Qu) (j:Nat):({ {plT sc q j with used:=(plT sc q j).used++[zOf sc q j]}with cols:=(plT sc q j).cols++[yH6 sc q j]}:Pl)=plT sc q (j+1):=by
 simp only[plT,zCs,yE,wE,List.map_nil]
theorem yM3:P0 [] 116 GAt:=yM1
section
variable {hB:Heap} {n1 bid mid:Nat} {sc:List Ty} {q:Qu} {f:ByteArray→Option (Bool×Nat)}
theorem yPy (hsc:zCa sc) (hsl:sc.length≤1099511627776) (hus:q.items.length<big∧∀it∈q.items,it.types.length<big) {T:Nat→Nat} {p:Pt} {j:Nat} (hj:j<sc.length) (s:St) {Q} (J:J58 hB n1 bid mid T p (plT sc q j) f j s)
  (hQ:∀s',(∃T' p',J58 hB n1 bid mid T' p' (plT sc q (j+1)) f (j+1) s')→Q .normal s') :
  awp (cx [] (pfL zZs)) zRm Q s:=by
 have hul:(plT sc q j).used.length=j:=by simp[plT]
 have hcl:(plT sc q j).cols.length=j:=by simp[plT]
 refine zZ 2 _ _ (R:=fun s=>J58 hB n1 bid mid T p (plT sc q j) f j s) ?_ fun e2 h2 n2 J => ?_
 ·obtain⟨e,h0,n0⟩:=s
  obtain⟨q2,q14,q15,q16,bi⟩:=J;simp only[]at q2 q14 q15 q16 bi;have q15':e 15=ii sc.length:=q15;simp[evx,tlC,zRm,yW,hdC,Tryz.f58,q15',q16,ii,hj];exact⟨by simp[up,q2],by simp[up,q14],by simp[up,q15],by simp[up,q16],bi⟩
 ·show awp (cx [] (pfL zZs)) (.seq (.block 1 zV2) (tlC 3 zRm)) Q _
  rw[zDn,zAy];refine zZ 4 _ _ (yP0 (P:=plT sc q j) hsc hus hj _ J) fun e3 h3 n3 ⟨J3,k5,k6⟩ => ?_
  refine zZ 1 _ _ (yPx (P:=plT sc q j) (by omega) _ J3 k5 k6) fun e4 h4 n4 ⟨⟨T4,p4,J4⟩,k6'⟩ => ?_
  refine yPz (P:={plT sc q j with used:=(plT sc q j).used++[zOf sc q j]}) (by show (plT sc q j).cols.length≤_;omega) _ J4 k6' fun s' h => ?_
  rw[zH6,zAw];obtain⟨T',p',J'⟩:=h;replace J':J58 hB n1 bid mid T' p' (plT sc q (j+1)) f j s':=by rw[←yA1];exact J'
  obtain⟨e',h',n'⟩:=s';obtain⟨q2,q14,q15,q16,bi⟩:=J';simp only[]at q2 q14 q15 q16 bi;have hw:=yK (j:=j) (by unfold big;omega)
  simp[evx,tlC,zRm,yW,Tryz.f58,q16,ii,hw];exact hQ _ ⟨T',p',by simp[up,q2],by simp[up,q14],by simp[up,q15],by simp[up,ii],bi⟩
theorem b58 (hsc:zCa sc) (hsl:sc.length≤1099511627776) (hus:q.items.length<big∧∀it∈q.items,it.types.length<big) {T:Nat→Nat} {p:Pt} {h:Heap} {n:Nat} (b:BI hB n1 bid mid T h n p (plJ sc q) f) :
  ACall (cx [] (pfL zZs)) 58 [.p bid 0 0] h n fun z h' n'=>∃T' p',BI hB n1 bid mid T' h' n' p' (plT sc q sc.length) f:=by
 refine yR (args:=[.p bid 0 0]) (zAr (zS yM4 (zS yM3 yJ))) (zB3 _ _) Tryz.func58 (c:=Tryz.f58.body.getD .skip) rfl (by kernel_rfl) (xK Tryz.func58 rfl rfl _ _) (show 1≤Tryz.f58.ntmps by decide +kernel) ?_
 refine zZ 1 _ _ (R:=fun s=>s.e 2=.p bid 0 0∧s.h=h∧s.n=n) ?_ fun e1 h1 n2 ⟨q2,r1,r2⟩ => ?_
 ·simp[evx,hdC,Tryz.f58,env0]
 simp only[]at q2 r1 r2;subst r1;subst r2;show awp (cx [] (pfL zZs)) (.seq (hdC 1 (tlC 1 (Tryz.f58.body.getD .skip))) (.block 0 (.loop zRm))) _ _;obtain⟨t1,t2,t3,t4,t5⟩:=zN b.s.sch;have t2':p.sa.slen=sc.length:=t2;simp[evx,hdC,tlC,Tryz.f58,q2,b.bb,xH,t1,t2'];refine yN (fun s=>∃j T p,j≤sc.length∧J58 hB n1 bid mid T p (plT sc q j) f j s) (fun s=>sc.length-(s.e 16).i.toNat) ⟨0,T,p,by omega,by simp[up,q2],by simp[up],by simp[up,ii];rfl,by simp[up,ii],b⟩ ?_
 rintro e' h' n' ⟨j,T',p',hj,J⟩;by_cases hlt:j<sc.length
 ·have k1:=J.q16
  simp only[]at k1;refine yPy hsc hsl hus hlt _ J fun s' ⟨T'',p'',J'⟩ => ?_
  rw[zAw];refine⟨⟨j+1,T'',p'',hlt,J'⟩,?_⟩;show sc.length-(s'.e 16).i.toNat<sc.length-(e' 16).i.toNat;rw[k1,J'.q16];simp[ii,AV.i];omega
 ·obtain rfl:j=sc.length:=by omega
  obtain⟨q2,q14,q15,q16,bi⟩:=J;simp only[]at q2 q14 q15 q16 bi;have q15':e' 15=ii sc.length:=q15;simp[evx,tlC,zRm,yW,Tryz.f58,q15',q16,ii];exact⟨T',p',bi⟩
end
end
section
def plC (sc:List Ty) (q:Qu) (l:List (List Nd)):Pl:={plT sc q sc.length with comps:=zBr sc q l q.items.length,negs:=zD9 sc q l q.items.length,fixed:=zU9 sc q l}
theorem yFu (sc:List Ty) (q:Qu):plC sc q []=plT sc q sc.length:=rfl
section
variable {sc:List Ty} {q:Qu} {l:List (List Nd)} {t:List Nd}
theorem zEr (i:Int):zVy sc q (l++[t]) i=if zAa q t=true∧zDl q t=i then zVy sc q l i++[zAk sc (vars q.items) t]else zVy sc q l i:=by
 unfold zVy;rw[zCh,yE];by_cases h1:zAa q t=true<;>by_cases h2:zDl q t=i<;>simp[h1,h2]
theorem zIf (i:Int):zQ0 sc q (l++[t]) i=if zAa q t=false∧zDl q t=i then zQ0 sc q l i++[zAk sc (vars q.items) t]else zQ0 sc q l i:=by
 unfold zQ0;rw[zCh,yE];by_cases h1:zAa q t=true<;>by_cases h2:zDl q t=i<;>simp[h1,h2]
theorem zIr (i:Int):zCq sc q (l++[t]) i=if zAa q t=false∧zDl q t=i then zCq sc q l i++[⟨zAk sc (vars q.items) t,zDf q t,decide (0<(zCz q t).length)⟩]else zCq sc q l i:=by
 unfold zCq;rw[zCh,yE];by_cases h1:zAa q t=true<;>by_cases h2:zDl q t=i<;>simp[h1,h2]
theorem zKr:zU9 sc q (l++[t])=if zDl q t=-1 then zU9 sc q l++[zAk sc (vars q.items) t]else zU9 sc q l:=by
 unfold zU9;rw[zCh,yE];by_cases h2:zDl q t=-1<;>simp[h2]
theorem zTt {i:Nat} (h:zDl q t≠i):zE3 sc q (l++[t]) i=zE3 sc q l i:=by
 unfold zE3;rw[zEr,zIr,if_neg fun k=>h k.2,if_neg fun k=>h k.2]
theorem zXv {i:Nat} (h:zDl q t≠i):zPf sc q (l++[t]) i=zPf sc q l i:=by
 unfold zPf;rw[zEr,zIf,if_neg fun k=>h k.2,if_neg fun k=>h k.2]
theorem zZh {i:Nat} (h:zDl q t=i) (ha:zAa q t=true):zE3 sc q (l++[t]) i={zE3 sc q l i with own:=(zE3 sc q l i).own++[zAk sc (vars q.items) t]}:=by
 unfold zE3;rw[zEr,zIr,if_pos ⟨ha,h⟩,if_neg fun k=>by rw[ha]at k;exact absurd k.1 (by simp)]
theorem zVo {i:Nat} (h:zDl q t=i) (ha:zAa q t=false):zE3 sc q (l++[t]) i={zE3 sc q l i with conds:=(zE3 sc q l i).conds++[⟨zAk sc (vars q.items) t,zDf q t,decide (0<(zCz q t).length)⟩]}:=by
 unfold zE3;rw[zEr,zIr,if_neg (fun k=>by rw[ha]at k;exact absurd k.1 (by simp)),if_pos ⟨ha,h⟩]
theorem yBl {i:Nat} (h:zDl q t=i) (ha:zAa q t=true):zPf sc q (l++[t]) i={zPf sc q l i with own:=(zPf sc q l i).own++[zAk sc (vars q.items) t]}:=by
 unfold zPf;rw[zEr,zIf,if_pos ⟨ha,h⟩,if_neg fun k=>by rw[ha]at k;exact absurd k.1 (by simp)]
theorem zXu {i:Nat} (h:zDl q t=i) (ha:zAa q t=false):zPf sc q (l++[t]) i={zPf sc q l i with rest:=(zPf sc q l i).rest++[zAk sc (vars q.items) t]}:=by
 unfold zPf;rw[zEr,zIf,if_neg (fun k=>by rw[ha]at k;exact absurd k.1 (by simp)),if_pos ⟨ha,h⟩]
theorem map_set {α β:Type} {f f':α→β} {l:List α} {k:Nat} (hk:k<l.length) (h:∀i (hi:i<l.length),i≠k→f' l[i]=f l[i]):l.map f'=(l.map f).set k (f' l[k]):=by
 apply List.ext_getElem
 ·simp
 ·intro i h1 h2
  rw[List.getElem_set];by_cases e:k=i
  ·subst e;simp
  ·rw[if_neg e];simp at h1;simp[h i h1 (Ne.symm e)]
theorem zM2 (q:Qu) (N:Nat):(zAq q N).Pairwise (· < ·):=List.Pairwise.filter _ List.pairwise_lt_range
theorem yF7 (q:Qu) (N:Nat):(zPh q N).Pairwise (· < ·):=List.Pairwise.filter _ List.pairwise_lt_range
theorem zPm {l:List Nat} (h:l.Pairwise (· < ·)) {i j:Nat} (hi:i<l.length) (hj:j<l.length) (e:l[i]=l[j]):i=j:=by
 rw[List.pairwise_iff_getElem]at h;rcases Nat.lt_trichotomy i j with h1|h1|h1
 ·have:=h i j hi hj h1;omega
 ·exact h1
 ·have:=h j i hj hi h1;omega
theorem posI_mem {N j:Nat}:j∈zAq q N↔j<N∧(itA q j).neg=false:=by simp[zAq]
theorem negI_mem {N j:Nat}:j∈zPh q N↔j<N∧(itA q j).neg=true:=by simp[zPh]
theorem yBm {N i:Nat} (hi:i<N) (hn:(itA q i).neg=true):(zPh q N)[rn q i]? = some i:=by
 induction N with
 | zero=>omega
 | succ N ih =>
  rw[zHr];by_cases e:i=N
  ·subst e;rw[if_pos hn,rn];simp
  ·have h1:=ih (by omega)
   have h2:rn q i<(zPh q N).length:=(yB.1 h1).1;split
   ·rw[zL h2];exact h1
   ·exact h1
theorem zC5 {N i:Nat} (hi:i<N) (hn:(itA q i).neg=false):(zAq q N)[rk q i]? = some i:=by
 induction N with
 | zero=>omega
 | succ N ih =>
  rw[zHo];by_cases e:i=N
  ·subst e;rw[if_neg (by simp[hn]),rk];simp
  ·have h1:=ih (by omega)
   have h2:rk q i<(zAq q N).length:=(yB.1 h1).1;split
   ·exact h1
   ·rw[zL h2];exact h1
theorem yDl {N:Nat} (hx:∀i,i<N→wY (vars q.items) (itA q i).var=i) {i:Nat}:∀{j:Nat},i<j→j≤N→slF q j (itA q i).var=some ((itA q i).neg,if (itA q i).neg=true then rn q i else rk q i)
 | 0,h,_=>by omega
 | j+1,h,hj=>by
  unfold slF;by_cases e:i=j
  ·subst e;rw[if_pos rfl];rfl
  ·have hne:¬(itA q i).var=(itA q j).var:=fun k=>by
    have h1:=hx i (by omega)
    have h2:=hx j (by omega)
    rw[k,h2]at h1;omega
   rw[if_neg hne];exact yDl hx (by omega) (by omega)
def ngQ (q:Qu) (i:Int):Bool:=(itA q i.toNat).neg
theorem zIl {i:Int} (h:i∈xV q t):0≤i∧i.toNat<q.items.length:=by
 have hl:(vars q.items).length=q.items.length:=by simp[vars]
 rcases wB.1 h with h|h
 ·obtain⟨h1,h2,_⟩:=zGq (p:=wU) h;omega
 ·obtain⟨h1,h2,_⟩:=zGq (p:=zC3) h;omega
theorem zS7 {i:Int} (h:(xV q t).find? (ngQ q)=some i):zDl q t=i:=by
 unfold zDl;have:((xV q t).find? fun i=>(itA q i.toNat).neg)=some i:=h
 rw[this]
theorem zNc (h:(xV q t).find? (ngQ q)=none):zDl q t=if lsL q (xV q t)<(zAq q q.items.length).length then (((zAq q q.items.length).getD (lsL q (xV q t)) 0:Nat):Int)else -1:=by
 unfold zDl;have:((xV q t).find? fun i=>(itA q i.toNat).neg)=none:=h
 rw[this]
theorem zP8 (h:∀j∈zAq q q.items.length,zDl q t≠(j:Nat)):zBr sc q (l++[t]) q.items.length=zBr sc q l q.items.length :=
 zB5 fun j hj=>zTt (h j hj)
theorem zSq (h:∀j∈zPh q q.items.length,zDl q t≠(j:Nat)):zD9 sc q (l++[t]) q.items.length=zD9 sc q l q.items.length :=
 zB5 fun j hj=>zXv (h j hj)
theorem zM4:plC sc q (l++[t])={plC sc q l with comps:=zBr sc q (l++[t]) q.items.length,negs:=zD9 sc q (l++[t]) q.items.length,fixed:=zU9 sc q (l++[t])}:=rfl
theorem yFv {i:Int} (h:(xV q t).find? (ngQ q)=some i):rn q i.toNat<(plC sc q l).negs.length∧∀g,(plC sc q l).negs[rn q i.toNat]? = some g→plC sc q (l++[t])={plC sc q l with negs:=(plC sc q l).negs.set (rn q i.toNat) (if zAa q t=true then {g with own:=g.own++[zAk sc (vars q.items) t]}else {g with rest:=g.rest++[zAk sc (vars q.items) t]})}:=by
 have hm:=List.mem_of_find?_eq_some h;have hn0:ngQ q i=true:=List.find?_some h;have hn:(itA q i.toNat).neg=true:=hn0;obtain⟨h0,hi⟩:=zIl hm;have hg:=yBm hi hn;obtain⟨hk,hg'⟩:=yB.1 hg;have hh:=zS7 h;have hih:zDl q t=((i.toNat:Nat):Int):=by omega
 have e1:(plC sc q l).negs=zD9 sc q l q.items.length:=rfl;refine⟨by rw[e1,zD9,zQ];exact hk,fun g hgg => ?_⟩
 have hgg':g=zPf sc q l i.toNat:=by
  rw[e1,zD9,xG,hg]at hgg;exact (Option.some.inj hgg).symm
 subst hgg';have e2:zBr sc q (l++[t]) q.items.length=zBr sc q l q.items.length:=zP8 fun j hj e=>by
  have h1:=(posI_mem.1 hj).2;have h3:j=i.toNat:=by omega
  rw[h3,hn]at h1;cases h1
 have e3:zD9 sc q (l++[t]) q.items.length=(zD9 sc q l q.items.length).set (rn q i.toNat) (zPf sc q (l++[t]) (zPh q q.items.length)[rn q i.toNat]):=map_set hk fun j hj hjk=>zXv fun e=>hjk (zPm (yF7 _ _) hj hk (by rw[hg'];omega))
 have e4:zU9 sc q (l++[t])=zU9 sc q l:=by rw[zKr,if_neg (by omega)]
 rw[zM4,e2,e3,e4,e1,hg'];cases ha:zAa q t with
 | true=>rw[yBl hih ha];rfl
 | false=>rw[zXu hih ha];rfl
theorem yFw (h:(xV q t).find? (ngQ q)=none) (hl:¬lsL q (xV q t)<(zAq q q.items.length).length):plC sc q (l++[t])={plC sc q l with fixed:=(plC sc q l).fixed++[zAk sc (vars q.items) t]}:=by
 have hh:=zNc h;rw[if_neg hl]at hh;rw[zM4,zP8 fun j _=>by omega,zSq fun j _=>by omega,zKr,if_pos hh]
 rfl
theorem yFt (h:(xV q t).find? (ngQ q)=none) (hl:lsL q (xV q t)<(zAq q q.items.length).length):∀g,(plC sc q l).comps[lsL q (xV q t)]? = some g→plC sc q (l++[t])={plC sc q l with comps:=(plC sc q l).comps.set (lsL q (xV q t)) (if zAa q t=true then {g with own:=g.own++[zAk sc (vars q.items) t]}else {g with conds:=g.conds++[⟨zAk sc (vars q.items) t,zDf q t,decide (0<(zCz q t).length)⟩]})}:=by
 intro g hg;have hh:=zNc h;rw[if_pos hl]at hh;generalize lsL q (xV q t)=k at *;have hgk:(zAq q q.items.length).getD k 0=(zAq q q.items.length)[k]:=by rw[zB,zA hl];rfl
 rw[hgk]at hh;have e1:(plC sc q l).comps=zBr sc q l q.items.length:=rfl;rw[e1,zBr,xG,zA hl]at hg;obtain rfl:zE3 sc q l (zAq q q.items.length)[k]=g:=Option.some.inj hg;have hmem:(zAq q q.items.length)[k]∈zAq q q.items.length:=zH hl;have e2:zD9 sc q (l++[t]) q.items.length=zD9 sc q l q.items.length:=zSq fun j hj e=>by
  have h1:=(negI_mem.1 hj).2;have h2:=(posI_mem.1 hmem).2;have h3:j=(zAq q q.items.length)[k]:=by omega
  rw[←h3,h1]at h2;cases h2
 have e3:zBr sc q (l++[t]) q.items.length=(zBr sc q l q.items.length).set k (zE3 sc q (l++[t]) (zAq q q.items.length)[k]):=map_set hl fun j hj hjk=>zTt fun e=>hjk (zPm (zM2 _ _) hj hl (by omega))
 have e4:zU9 sc q (l++[t])=zU9 sc q l:=by rw[zKr,if_neg (by omega)]
 rw[zM4,e2,e3,e4,e1];cases ha:zAa q t with
 | true=>rw[zZh hh ha];rfl
 | false=>rw[zVo hh ha];rfl
theorem yBr (a:List Int) (i:Int):lsL q (a++[i])=min (lsL q a) (rk q i.toNat):=by simp[lsL]
theorem yCm (a:List Int) (i:Int):chL q t (a++[i])=if 1<(itA q i.toNat).hi∧i∈zA5 q t then i else chL q t a:=by simp[chL]
theorem zNe (f:Int→Nat):∀(a:List Int) (m:Nat),a.foldl (fun m i=>min m (f i)) m≤m
 | [],m=>zC m
 | x::a,m=>xL (zNe f a (min m (f x))) (Nat.min_le_left _ _)
theorem yJb (a:List Int):lsL q a≤(zAq q q.items.length).length:=zNe _ a _
end
end
section
def zLg:De (List Pr):=De.sl 2 dPrg
def yJ3:De (List Cd):=De.sl 4 dCdg
def zY5 (h:Heap):List AV→Option Cmp
 | [.v (.int .i64 i),ty,.v (.int .i64 lo),.v (.int .i64 hi),ow,cn]=>(rd dIs h ty).bind fun t=>(rd zLg h ow).bind fun o=>(rd yJ3 h cn).map fun c=>⟨i,t,lo,hi,o,c⟩
 | _=>none
theorem zP2 {h:Heap} {l:List AV} {x:Cmp} (e:zY5 h l=some x):∃ty ow cn,l=[ii x.item,ty,ii x.lo,ii x.hi,ow,cn]∧rd dIs h ty=some x.types∧rd zLg h ow=some x.own∧rd yJ3 h cn=some x.conds:=by
 unfold zY5 at e;split at e
 ·simp only[xE,zV]at e
  obtain⟨a,e1,b,e2,c,e3,rfl⟩:=e;exact⟨_,_,_,rfl,e1,e2,e3⟩
 ·cases e
theorem zTn {h:Heap} {ty ow cn:AV} {x:Cmp} (e1:rd dIs h ty=some x.types) (e2:rd zLg h ow=some x.own) (e3:rd yJ3 h cn=some x.conds):zY5 h [ii x.item,ty,ii x.lo,ii x.hi,ow,cn]=some x:=by
 simp only[zY5,ii,e1,e2,e3,zT,zK]
def dCmp:De Cmp where
 run:=zY5
 sim {h h' l x} hh e:=by
  obtain⟨ty,ow,cn,rfl,e1,e2,e3⟩:=zP2 e;exact zTn (zAe hh e1) (zAe hh e2) (zAe hh e3)
def yJ2 (h:Heap):List AV→Option Ng
 | [.v (.int .i64 i),ty,.v (.int .i64 lo),.v (.int .i64 hi),ow,cn]=>(rd dIs h ty).bind fun t=>(rd zLg h ow).bind fun o=>(rd zLg h cn).map fun c=>⟨i,t,lo,hi,o,c⟩
 | _=>none
theorem zTj {h:Heap} {l:List AV} {x:Ng} (e:yJ2 h l=some x):∃ty ow cn,l=[ii x.item,ty,ii x.after,ii x.before,ow,cn]∧rd dIs h ty=some x.types∧rd zLg h ow=some x.own∧rd zLg h cn=some x.rest:=by
 unfold yJ2 at e;split at e
 ·simp only[xE,zV]at e
  obtain⟨a,e1,b,e2,c,e3,rfl⟩:=e;exact⟨_,_,_,rfl,e1,e2,e3⟩
 ·cases e
theorem zYz {h:Heap} {ty ow cn:AV} {x:Ng} (e1:rd dIs h ty=some x.types) (e2:rd zLg h ow=some x.own) (e3:rd zLg h cn=some x.rest):yJ2 h [ii x.item,ty,ii x.after,ii x.before,ow,cn]=some x:=by
 simp only[yJ2,ii,e1,e2,e3,zT,zK]
def dNg:De Ng where
 run:=yJ2
 sim {h h' l x} hh e:=by
  obtain⟨ty,ow,cn,rfl,e1,e2,e3⟩:=zTj e;exact zYz (zAe hh e1) (zAe hh e2) (zAe hh e3)
def yHb:De (List Cmp):=De.sl 6 dCmp
def yMq:De (List Ng):=De.sl 6 dNg
def dBs:De (List Bool):=De.sl 1 De.bool
def xR (p:Pt) (P:Pl):List AV:=[p.sa,p.qa,ii P.q.mode,ii P.q.after,p.qb,ii P.q.within,ss P.q.par,p.qc,p.ca,p.na,p.fa,p.ua,p.la,p.ra,bv P.lead,bv P.tail]
structure PlR (h:Heap) (p:Pt) (P:Pl):Prop where
 sch:rd zE7 h p.sa=some P.sc
 qa:rd zG5 h p.qa=some P.q.items
 qb:rd dNs h p.qb=some P.q.wh
 qc:rd zTp h p.qc=some P.q.ret
 cm:rd yHb h p.ca=some P.comps
 ng:rd yMq h p.na=some P.negs
 fx:rd zLg h p.fa=some P.fixed
 us:rd dBs h p.ua=some P.used
 cl:rd dIs h p.la=some P.cols
 rt:rd zLg h p.ra=some P.ret
theorem PlR.sim {h h':Heap} (hh:h.sim h') {p:Pt} {P:Pl} (a:PlR h p P):PlR h' p P :=
 ⟨zAe hh a.sch,zAe hh a.qa,zAe hh a.qb,zAe hh a.qc,zAe hh a.cm,zAe hh a.ng,zAe hh a.fx,zAe hh a.us,zAe hh a.cl,zAe hh a.rt⟩
theorem PlR.qu {h:Heap} {p:Pt} {P:Pl} (a:PlR h p P):deQ h (.g [p.qa,ii P.q.mode,ii P.q.after,p.qb,ii P.q.within,ss P.q.par,p.qc])=some P.q:=zF9 a.qa a.qb a.qc
theorem LR.rd {α:Type} {d:De α} {T:Nat→Nat} {k sz:Nat} {h h0:Heap} {a:AV} {xs:List α} {R:Nat→List AV→α→Prop} (g:LR T k sz h a xs R) (hh:∀id,T id=k→h0 id=h id) (hR:∀i l x,i<xs.length→R i l x→d.run h0 l=some x):rd (De.sl sz d) h0 a=some xs:=by
 obtain⟨cs,g1,g2⟩:=g;refine g1.rd rfl (fun id ver e => ?_) fun i hi=>hR i _ _ hi (g2 i hi)
 rcases g1.2 with ⟨e1,_⟩|⟨id',ver',e1,e2,_⟩
 ·rw[e1]at e;cases e
 ·rw[e1]at e;cases e;exact hh _ e2
section
variable {T:Nat→Nat} {h h0:Heap} (hh:∀id,T id≠9→h0 id=h id)
include hh
theorem zKd:(still T h).le h0:=fun i k e=>by
 unfold still at e;split at e
 ·rename_i h1
  rw[hh i (by omega)];exact e
 ·cases e
theorem LL.rd {α:Type} {d:De α} {k sz:Nat} {a:AV} {xs:List α} (g:LL d sz T k h a xs) (hk:k≠9):rd (De.sl sz d) h0 a=some xs:=LR.rd g (fun id e=>hh id (by omega)) fun _ _ _ _ e=>d.mono (zKd hh) e
theorem CmpR.rd {i:Nat} {l:List AV} {c:Cmp} (g:CmpR T h i l c):dCmp.run h0 l=some c:=by
 obtain⟨ty,ow,cn,rfl,e2,e3,e4⟩:=g;exact zTn (yZ (zKd hh) e2) (LL.rd hh e3 (by omega)) (LL.rd hh e4 (by omega))
theorem NgR.rd {i:Nat} {l:List AV} {c:Ng} (g:NgR T h i l c):dNg.run h0 l=some c:=by
 obtain⟨ty,ow,cn,rfl,e2,e3,e4⟩:=g;exact zYz (yZ (zKd hh) e2) (LL.rd hh e3 (by omega)) (LL.rd hh e4 (by omega))
theorem BI.plr {hB:Heap} {n1 bid mid:Nat} {n:Nat} {p:Pt} {P:Pl} {f:ByteArray→Option (Bool×Nat)} (b:BI hB n1 bid mid T h n p P f):PlR h0 p P:=by
 obtain⟨a',b',c',e0,x1,x2,x3⟩:=wH b.s.qu;cases e0;exact⟨yZ (zKd hh) b.s.sch,yZ (zKd hh) x1,yZ (zKd hh) x2,yZ (zKd hh) x3,LR.rd b.cm (fun id e=>hh id (by omega)) fun _ _ _ _ e=>CmpR.rd hh e,LR.rd b.ng (fun id e=>hh id (by omega)) fun _ _ _ _ e=>NgR.rd hh e,LL.rd hh b.fx (by omega),LL.rd hh b.us (by omega),LL.rd hh b.cl (by omega),LL.rd hh b.rt (by omega)⟩
end
end
def zP0 (h:Heap):AV→Option Pl
 | .g [sa,qa,.v (.int .i64 m),.v (.int .i64 f),qb,.v (.int .i64 w),.v (.string p),qc,ca,na,fa,ua,la,ra,.v (.bool ld),.v (.bool tl)] =>
  (rd zE7 h sa).bind fun sc=>(rd zG5 h qa).bind fun q1=>(rd dNs h qb).bind fun q2=>(rd zTp h qc).bind fun q3=>(rd yHb h ca).bind fun c=>(rd yMq h na).bind fun g=>(rd zLg h fa).bind fun fx=>(rd dBs h ua).bind fun us=>(rd dIs h la).bind fun cl=>(rd zLg h ra).map fun rt=>⟨sc,⟨q1,m,f,q2,w,p,q3⟩,c,g,fx,us,cl,rt,ld,tl⟩
 | _=>none
theorem zE1 {h:Heap} {a:AV} {P:Pl} (e:zP0 h a=some P):∃p,a=.g (xR p P)∧PlR h p P:=by
 unfold zP0 at e;split at e
 ·simp only[xE,zV]at e
  obtain⟨sc,e1,q1,e2,q2,e3,q3,e4,c,e5,g,e6,fx,e7,us,e8,cl,e9,rt,e10,rfl⟩:=e;exact⟨⟨_,_,_,_,_,_,_,_,_,_⟩,rfl,e1,e2,e3,e4,e5,e6,e7,e8,e9,e10⟩
 ·cases e
theorem zPz {h:Heap} {p:Pt} {P:Pl} (a:PlR h p P):zP0 h (.g (xR p P))=some P:=by
 obtain⟨e1,e2,e3,e4,e5,e6,e7,e8,e9,e10⟩:=a;simp only[zP0,xR,ii,ss,bv,e1,e2,e3,e4,e5,e6,e7,e8,e9,e10,zT,zK]
def rPl:Rdr Pl where
 run:=zP0
 sim hh e:=by
  obtain⟨p,rfl,a⟩:=zE1 e;exact zPz (a.sim hh)
def rE:Rdr Ev:=⟨fun _ a=>deE a,fun _ e=>e⟩
theorem PlR.is {h:Heap} {p:Pt} {P:Pl} (a:PlR h p P):p.sa.one∧p.qa.one∧p.qb.one∧p.qc.one∧p.ca.one∧p.na.one∧p.fa.one∧p.ua.one∧p.la.one∧p.ra.one :=
 ⟨(zN a.sch).2.2.2.1,(zN a.qa).2.2.2.1,(zN a.qb).2.2.2.1,(zN a.qc).2.2.2.1,(zN a.cm).2.2.2.1,(zN a.ng).2.2.2.1,(zN a.fx).2.2.2.1,(zN a.us).2.2.2.1,(zN a.cl).2.2.2.1,(zN a.rt).2.2.2.1⟩
theorem zVr:∀(h:Heap) (l:List AV) (x:Bool),De.bool.run h l=some x→l=[.v (.bool x)]:=fun h l x e=>by
 simp only[De.bool]at e;split at e
 ·cases e;rfl
 ·cases e
theorem yMx {h:Heap} {a:AV} {l:List Bool} (e:rd dBs h a=some l):(l=[]∧(a=.v (.slice none 0 0)∨a=.e))∨
  ∃id off k,a=.s id k.ver off l.length∧h id=some k∧off+l.length≤k.cells.length∧∀i (hi:i<l.length),k.cells[off+i]? = some (bv l[i]):=by
 rcases zD8 e with h0|⟨id,off,k,h1,h2,h3,h4⟩
 ·exact .inl h0
 ·rw[xM]at h3
  refine .inr ⟨id,off,k,h1,h2,h3,fun i hi => ?_⟩
  have h5:=zVr _ _ _ (h4 i hi);have:=yI (c:=0) h5 rfl (by omega)
  rw[xM,yL]at this
  exact this
def zF3 (P:Pl) (t:Int):Bool:=decide (0≤t)&&P.used.getD t.toNat false
def GIn:=yH (de2 rPl rE) (fun q=>q.1.used.length<big) fun q=>bv (zF3 q.1 q.2.ty)
theorem P26:P0 [] 26 GIn:=by
 refine mkH 2 (S:=[]) (l:=[]) yJ Tryz.func26 rfl (by kernel_rfl) zAz zBx (fun a=>rfl) (fun args q h n e hp hn => ?_)
 obtain⟨a,b,rfl,e1,e2⟩:=zBm e;obtain⟨P,x⟩:=q;simp only[]at e1 e2 hp ⊢;obtain⟨p,rfl,pr⟩:=zE1 e1;have:=zK1 e2;subst this;obtain⟨o1,o2,o3,o4,o5,o6,o7,o8,o9,o10⟩:=pr.is;obtain⟨s1,s2,s3,s4,s5⟩:=zN pr.us;have key:∀e:Nat→AV,e 0=.g (xR p P)→e 1=ee x→awp (cx [] (pfL [])) (Tryz.f26.body.getD .skip) (zBc (cx [] (pfL [])) Tryz.f26 fun z _ _=>z=bv (zF3 P x.ty)) ⟨e,roH h,n⟩:=fun e q0 q1=>by
  by_cases h1:0≤x.ty
  ·obtain⟨t,ht⟩:=Int.eq_ofNat_of_zero_le h1
   by_cases h2:t<P.used.length
   ·rcases yMx pr.us with ⟨h0,_⟩|⟨id,off,k,hu,hk,ho,hat⟩
    ·rw[h0]at h2;simp at h2
    have hr:=hat t h2;have hk':=zSd h hk;have hne:¬id=n:=by have:=xB hk hn;omega
    have hne':¬id=n+1:=by have:=xB hk hn;omega
    have hw:off+t<k.cells.length:=by omega
    have hw1:off+(t+1)≤k.cells.length:=by omega
    have hr':∀hx,k.cells[off+t]'hx=bv P.used[t]:=fun hx=>by rw[zA hx]at hr;exact Option.some.inj hr
    have hv:zF3 P (t:Int)=P.used[t]:=by simp[zF3,h2]
    simp[evx,Tryz.f26,q0,q1,xR,ee,zAo,ii,ss,bv,uu,o1,o2,o3,o4,o5,o6,o7,o9,o10,ht,h2,hu,hk',hne,hne',hr',hw,hw1,Blk.ro,hv]
   ·have h3:¬(t:Int)<(P.used.length:Int):=by omega
    have hv:zF3 P (t:Int)=false:=by simp[zF3,zG (Nat.le_of_not_lt h2)]
    simp[evx,Tryz.f26,q0,q1,xR,ee,zAo,ii,ss,bv,uu,o1,o2,o3,o4,o5,o6,o7,o8,o9,o10,ht,s1,s2,h3,hv]
  ·have hv:zF3 P x.ty=false:=by simp[zF3,h1]
   simp[evx,Tryz.f26,q0,q1,xR,ee,zAo,ii,ss,bv,uu,o1,o2,o3,o4,o5,o6,o7,o8,o9,o10,h1,hv]
 exact key _ rfl rfl
def fiI (l:List Int) (v:Int):Int:=if l.findIdx (· == v)<l.length then l.findIdx (· == v)else -1
theorem yG1 (l:List Int) (v:Int):decide (0≤fiI l v)=decide (v∈l):=by
 unfold fiI;by_cases h:l.findIdx (· == v)<l.length
 ·rw[if_pos h]
  obtain⟨x,hx,he⟩:=zDt.1 h;have:v∈l:=by have:=beq_iff_eq.1 he;rwa [this]at hx
  rw[decide_eq_true this];exact decide_eq_true (Int.natCast_nonneg _)
 ·rw[if_neg h]
  have:¬v∈l:=fun hm=>h (zDt.2 ⟨v,hm,by simp⟩)
  rw[decide_eq_false this];decide
def yM6:=yH (de2 (rL dIs) rI) (fun q=>q.1.length<big) fun q=>ii (fiI q.1 q.2)
theorem yQo:P0 [] 161 yM6:=by
 refine mkH 2 (S:=[]) (l:=[]) yJ Tryz.func161 rfl (by kernel_rfl) zAz zBx (fun a=>rfl) (fun args q h n e hp hn => ?_)
 obtain⟨a,b,rfl,e1,e2⟩:=zBm e;obtain⟨l,v⟩:=q;simp only[]at e2 hp ⊢;replace e1:rd dIs h a=some l:=e1;have:=zBu e2;subst this;obtain⟨s1,s2,s3,s4,s5⟩:=zN e1;have key:∀e:Nat→AV,e 0=a→e 1=ii v→awp (cx [] (pfL [])) (Tryz.f161.body.getD .skip) (zBc (cx [] (pfL [])) Tryz.f161 fun z _ _=>z=ii (fiI l v)) ⟨e,roH h,n⟩:=fun e q0 q1=>by
  simp[evx,Tryz.f161,q0,ii,s1,s2];refine yN (fun s=>∃j:Nat,j≤l.length∧s.e 0=a∧s.e 1=ii v∧s.e 7=ii l.length∧s.e 8=ii j∧s.h=roH h∧∀i (hi:i<l.length),i<j→(l[i]==v)=false) (fun s=>l.length-(s.e 8).i.toNat) ⟨0,by simp[up,q0,q1,ii]⟩ ?_
  rintro e' h' n' ⟨j,hj,q0,q1,q7,q8,hh,hno⟩;simp only[]at q0 q1 q7 q8 hh;subst hh;by_cases hlt:j<l.length
  ·rcases zYh e1 with ⟨h0,_⟩|⟨id,off,k,rfl,hk,ho,hat⟩
   ·rw[h0]at hlt;simp at hlt
   have hr:=hat j hlt;have ha':=zEj hk;have hw:=yK (j:=j) (by omega)
   have hw1:off+(j+1)≤k.cells.length:=by omega
   by_cases hy:l[j]=v
   ·have hf:l.findIdx (· == v)=j:=(List.findIdx_eq hlt).2 ⟨by simpa using hy,fun i hi=>hno i (by omega) hi⟩
    have h1:fiI l v=(j:Int):=by rw[fiI,hf,if_pos hlt]
    simp[evx,q0,q1,q7,q8,ii,hlt,ha',hr,hw1,hy,h1]
   ·have hy':¬v=l[j]:=fun e=>hy e.symm
    simp[evx,q0,q1,q7,q8,ii,hlt,ha',hr,hw1,hy',hw];refine⟨⟨j+1,by omega,by omega,fun i hi hi2 => ?_⟩,by omega⟩
    by_cases e:i=j
    ·subst e;simpa using hy
    ·simpa using hno i hi (by omega)
  ·obtain rfl:j=l.length:=by omega
   have hf:l.findIdx (· == v)=l.length:=List.findIdx_eq_length.2 fun x hx=>by
    obtain⟨i,hi,rfl⟩:=xF.1 hx;exact hno i hi hi
   have h1:fiI l v=-1:=by rw[fiI,hf,if_neg (by omega)]
   simp[evx,q7,q8,ii,h1]
 exact key _ rfl rfl
def zRv:=yH (de2 (rL dIs) rI) (fun q=>q.1.length<big) fun q=>bv (decide (q.2∈q.1))
def yAa:List (FuncId×(List AV→Heap→PRes)):=[(161,yM6)]
theorem yNo:P0 [] 118 zRv:=by
 refine mkH 2 (S:=[]) (l:=yAa) (zS yQo yJ) Tryz.func118 rfl (by kernel_rfl) zAz zBx (fun a=>rfl) (fun args q h n e hp hn => ?_)
 obtain⟨a,b,rfl,e1,e2⟩:=zBm e;obtain⟨l,v⟩:=q;simp only[]at e2 hp ⊢;replace e1:rd dIs h a=some l:=e1;have:=zBu e2;subst this;obtain⟨s1,s2,s3,s4,s5⟩:=zN e1;have g1:(rL dIs).run (roH h) a=some l:=xP hn e1 _ (zE _ _);have g2:rI.run (roH h) (.v (.int .i64 v))=some v:=rfl;have hx:=yG1 l v;have key:∀e:Nat→AV,e 0=a→e 1=ii v→awp (cx [] (pfL yAa)) (Tryz.f118.body.getD .skip) (zBc (cx [] (pfL yAa)) Tryz.f118 fun z _ _=>z=bv (decide (v∈l))) ⟨e,roH h,n⟩:=fun e q0 q1=>by
  rw[←hx];simp[evx,Tryz.f118,q0,q1,ii,bv,yAa,yM6,yH,de2,g1,g2,hp]
 exact key _ rfl rfl
theorem yQl {h:Heap} {n:Nat} {a:AV} {l:List Int} (e1:rd dIs h a=some l) (ha:a=.v (.slice none 0 0)∨0<l.length) (hl:l.length≤1099511627776) (hn:Fresh n h) :
  ACall (cx [] (pfL [])) 117 [a] h n fun z h' n'=>agree n h h'∧Fresh n' h'∧n≤n'∧((a=.v (.slice none 0 0)∧z=a∧n'=n)∨(z=.s n 1 0 l.length∧h' n=some ⟨l.map ii,1,true,1⟩∧n<n')):=by
 refine yR (args:=[a]) (zAr yJ) (zB3 _ _) Tryz.func117 (c:=Tryz.f117.body.getD .skip) rfl (by kernel_rfl) (xK Tryz.func117 rfl rfl _ _) (show 1≤Tryz.f117.ntmps by decide +kernel) ?_
 obtain⟨s1,s2,s3,s4,s5⟩:=zN e1;have hfa:=zHy Flat.int e1;have key:∀e:Nat→AV,e 0=a→awp (cx [] (pfL [])) (Tryz.f117.body.getD .skip) (zBc (cx [] (pfL [])) Tryz.f117 fun z h' n'=>agree n h h'∧Fresh n' h'∧n≤n'∧((a=.v (.slice none 0 0)∧z=a∧n'=n)∨(z=.s n 1 0 l.length∧h' n=some ⟨l.map ii,1,true,1⟩∧n<n'))) ⟨e,h,n⟩:=by
  intro e q0;by_cases h0:a=.v (.slice none 0 0)
  ·subst h0
   simp[evx,Tryz.f117,q0,AV.isN,AV.nl,AV.isNl,zE];exact hn
  ·have hpos:=ha.resolve_left h0
   rcases zYh e1 with ⟨h1,_⟩|⟨id,off,k,rfl,hk,ho,hat⟩
   ·rw[h1]at hpos;simp at hpos
   have hne:¬id=n:=by have:=xB hk hn;omega
   simp[evx,Tryz.f117,q0,AV.isN,AV.nl,AV.isNl,hpos,s1,s2,hk,hne,ho];refine⟨⟨by omega,by omega⟩,(zD (by omega) _).2 ((zD (by omega) _).2 (zE _ _)),(zF (by omega) _).2 ((zF (by omega) _).2 (hn.add 2)),?_⟩
   have h4:=hfa.2;simp only[slc,hk,xM,yL]at h4;rw[h4,zJs]
 exact key _ rfl
end Go.Proofs.YtbffkkeieihpdaaGreatDoor
