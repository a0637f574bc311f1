import Derived.Test.YtbffkkeieihpdaaGreatDoorE16
set_option linter.unusedSimpArgs false
set_option linter.unusedVariables false
set_option linter.constructorNameAsVariable false
set_option maxRecDepth 100000
set_option maxHeartbeats 4000000
namespace Go.Proofs.YtbffkkeieihpdaaGreatDoor
open Go Go.Eng
section
def wL (t:List Nd):Nat→List ByteArray
 | 0=>[]
 | k+1=>zLh (wL t k) (t.getD k nd0)
def zBf (t:List Nd):List ByteArray:=wL t t.length
theorem yD0 {l:List ByteArray} {z:ByteArray} (m:List ByteArray) (h:l.findIdx (· == z)<l.length):wY (l++m) z=wY l z∧(l++m).findIdx (· == z)<(l++m).length:=by
 have hf:(l++m).findIdx (· == z)=l.findIdx (· == z):=by rw[List.findIdx_append,if_pos h]
 have h2:l.findIdx (· == z)<(l++m).length:=by rw[zM];omega
 unfold wY;rw[hf,if_pos h,if_pos h2];exact⟨rfl,h2⟩
theorem zZp (l:List ByteArray) (z:ByteArray):(zI8 l z).findIdx (· == z)<(zI8 l z).length:=by
 unfold zI8;split
 ·assumption
 ·exact List.findIdx_lt_length_of_exists ⟨z,by simp,by rw[zD6]⟩
theorem yC0 (l:List ByteArray) (x:Nd):∃m,zLh l x=l++m:=by
 unfold zLh zI8;split
 ·split
  ·exact⟨[],by simp⟩
  ·exact⟨_,rfl⟩
 ·exact⟨[],by simp⟩
theorem zKm (t:List Nd) (k:Nat):∀d,∃m,wL t (k+d)=wL t k++m
 | 0=>⟨[],by simp⟩
 | d+1=>by
  obtain⟨m,h⟩:=zKm t k d;obtain⟨m',h'⟩:=yC0 (wL t (k+d)) (t.getD (k+d) nd0);exact⟨m++m',by show wL t (k+d+1)=_;rw[wL,h',h,xT]⟩
def zE6 (vs:List ByteArray) (t:List Nd) (j:Nat):Ins:=zPa (zBf t) (wA vs (t.getD j nd0)) (t.getD j nd0)
theorem zUu {vs:List ByteArray} {t:List Nd} {k:Nat} (hk:k<t.length) (h1:1≤(t.getD k nd0).op):zPa (wL t (k+1)) (wA vs (t.getD k nd0)) (t.getD k nd0)=zE6 vs t k:=by
 obtain⟨m,hm⟩:=zKm t (k+1) (t.length-(k+1));rw[show k+1+(t.length-(k+1))=t.length by omega]at hm
 unfold zE6 zBf;rw[hm];generalize hx:t.getD k nd0=x at *;have key:4≤x.op∧x.op≤11∧x.op≠5→wY (wL t (k+1)++m) x.attr=wY (wL t (k+1)) x.attr:=fun h=>by
  have:wL t (k+1)=zI8 (wL t k) x.attr:=by rw[wL,hx,zLh,if_pos h]
  exact (yD0 m (by rw[this];exact zZp _ _)).1
 unfold zPa;by_cases h4:4≤x.op∧x.op≤11∧x.op≠5
 ·rw[key h4]
 ·repeat' (first|rfl|split)
  all_goals (exfalso;omega)
theorem zKl (t:List Nd):∀k,(wL t k).length≤k
 | 0=>zC _
 | k+1=>by
  have:=zKl t k;simp only[wL,zLh,zI8];split
  ·split
   ·omega
   ·simp;omega
  ·omega
def zI4 (t:List Nd) (to:Nat→Nat) (j:Nat):Ins:=match zGf t j with
 | some p=>⟨(t.getD p nd0).op,0,0,0,to p⟩
 | none=>zI
def toP (t:List Nd) (i p:Nat):Nat:=if p<i then zA1 t p+1 else 0
def zIs (vs:List ByteArray) (t:List Nd):List Ins:=zGl t (zE6 vs t) (zI4 t fun p=>zA1 t p+1) t.length
def zAk (sc:List Ty) (vs:List ByteArray) (t:List Nd):Pr:=if zI9 vs t=true then ⟨zIs vs t,(zBf t).map (zEc sc)⟩else ⟨[],[]⟩
def bhT (t:List Nd) (k j:Nat):Int:=match zGf t j with
 | some p=>if p<k then (t.getD p nd0).op else 0
 | none=>0
def bhL (t:List Nd) (k:Nat):List Int:=(List.range t.length).map (bhT t k)
def jpL (t:List Nd) (i:Nat):List Int:=(List.range t.length).map fun j=>if j<i∧(zGf t j).isSome=true then (zA1 t j:Int)+1 else 0
theorem zAx {t:List Nd} {i:Nat} (hi:i<t.length):t.getD i nd0=t[i]:=by rw[zB,zA hi];rfl
section
variable {t:List Nd}
theorem zGb (k:Nat):(bhL t k).length=t.length:=by simp[bhL]
theorem zGz (k:Nat):(jpL t k).length=t.length:=by simp[jpL]
theorem yCo:bhL t 0=List.replicate t.length 0:=by
 refine List.eq_replicate_iff.2 ⟨zGb 0,fun b hb => ?_⟩
 obtain⟨j,_,rfl⟩:=xU.1 hb;unfold bhT;split
 ·rw[if_neg (by omega)]
 ·rfl
theorem yBx:jpL t 0=List.replicate t.length 0:=by
 refine List.eq_replicate_iff.2 ⟨zGz 0,fun b hb => ?_⟩
 obtain⟨j,_,rfl⟩:=xU.1 hb;rw[if_neg (by omega)]
theorem zZj (j:Nat):bhT t t.length j=match zGf t j with
  | some p=>(t.getD p nd0).op
  | none=>0:=by
 unfold bhT;cases h:zGf t j with
 | none=>rfl
 | some p=>simp only;rw[if_pos (zFm h).1]
theorem zTx {j:Nat} (hj:j<t.length) (k:Nat):(bhL t k)[j]? = some (bhT t k j):=by
 rw[bhL,xG,zDh hj];rfl
theorem zS5 {j:Nat} (hj:j<t.length) (k:Nat):(jpL t k)[j]? = some (if j<k∧(zGf t j).isSome=true then (zA1 t j:Int)+1 else 0):=by
 rw[jpL,xG,zDh hj];rfl
theorem yBy {i:Nat} (h:zGf t i=none):jpL t (i+1)=jpL t i:=by
 refine zB5 fun j _ => ?_
 by_cases e:j=i
 ·subst e;rw[h];simp
 ·have:j<i+1↔j<i:=by omega
  simp only[this]
theorem yGj {i:Nat} (hi:i<t.length) (h:(zGf t i).isSome=true):(jpL t i).set i ((zA1 t i:Int)+1)=jpL t (i+1):=by
 refine zEp fun j => ?_
 rw[List.getElem?_set];by_cases e:i=j
 ·subst e
  rw[if_pos rfl,if_pos (by rw[zGz];exact hi),zS5 hi,if_pos ⟨by omega,h⟩]
 ·rw[if_neg e]
  by_cases hj:j<t.length
  ·rw[zS5 hj,zS5 hj]
   have:j<i+1↔j<i:=by omega
   simp only[this]
  ·rw[zG (by rw[zGz];omega),zG (by rw[zGz];omega)]
theorem yCp {k:Nat} (hk:k<t.length) (h:t[k].op<25):bhL t (k+1)=bhL t k:=by
 refine zB5 fun j _ => ?_
 unfold bhT;cases hp:zGf t j with
 | none=>rfl
 | some p =>
  obtain⟨h1,h2,_⟩:=zFm hp;have:p≠k:=fun e=>by subst e;omega
  have:p<k+1↔p<k:=by omega
  simp only[this]
variable {lo:Nat→Nat} (T:Tre t lo)
include T
theorem yHr {k a:Nat} (hk:k<t.length) (h:25≤t[k].op) (ha:t[k].a=(a:Int)):(bhL t k).set a t[k].op=bhL t (k+1):=by
 have hpa:=zO9 T hk h ha;refine zEp fun j => ?_
 rw[List.getElem?_set];by_cases e:a=j
 ·subst e
  have hal:a<t.length:=by
   obtain⟨h1,h2,_⟩:=zOn T hk (by omega)
   omega
  rw[if_pos rfl,if_pos (by rw[zGb];exact hal),zTx hal,bhT,hpa]
  simp only;rw[if_pos (by omega),zAx hk]
 ·rw[if_neg e]
  by_cases hj:j<t.length
  ·rw[zTx hj,zTx hj]
   unfold bhT;cases hp:zGf t j with
   | none=>rfl
   | some p =>
    have:p≠k:=fun e2=>by
     subst e2;obtain⟨_,_,h3⟩:=zFm hp;omega
    have:p<k+1↔p<k:=by omega
    simp only[this]
  ·rw[zG (by rw[zGb];omega),zG (by rw[zGb];omega)]
def zD2 (vs:List ByteArray) (t:List Nd) (i:Nat):List Ins:=zGl t (zE6 vs t) (zI4 t (toP t i)) i
omit T in
theorem zM1 (vs:List ByteArray) (i:Nat):(zD2 vs t i).length=zA1 t i:=zBs _ _ _
omit T in
theorem yAy {vs:List ByteArray} {i:Nat} (hi:i<t.length) (h:t[i].op<25):zD2 vs t i=zGl t (zE6 vs t) (zI4 t (toP t (i+1))) i:=by
 refine zKp i (fun _ _=>rfl) fun j hj hp => ?_
 unfold zI4;cases hq:zGf t j with
 | none=>rfl
 | some p =>
  obtain⟨h1,h2,_⟩:=zFm hq;have:p≠i:=fun e=>by subst e;omega
  have:p<i+1↔p<i:=by omega
  simp only[toP,this]
theorem yAx {vs:List ByteArray} {i a:Nat} (hi:i<t.length) (h:25≤t[i].op) (ha:t[i].a=(a:Int)) :
  (zD2 vs t i).set (zA1 t a+1) ⟨t[i].op,0,0,0,(zA1 t i:Int)+1⟩=zGl t (zE6 vs t) (zI4 t (toP t (i+1))) i∧(zD2 vs t i)[zA1 t a+1]? = some ⟨t[i].op,0,0,0,0⟩:=by
 have hpa:=zO9 T hi h ha;have hai:a<i:=by
  obtain⟨h1,h2,_⟩:=zOn T hi (by omega)
  omega
 have hset:=zS1 (t:=t) (f:=zE6 vs t) (g:=zI4 t (toP t i)) (k:=a) ⟨t[i].op,0,0,0,(zA1 t i:Int)+1⟩ (by rw[hpa];rfl) hai
 refine⟨?_,?_⟩
 ·unfold zD2
  rw[hset];refine zKp i (fun _ _=>rfl) fun j hj hp => ?_
  unfold yEq;by_cases e:j=a
  ·subst e
   rw[if_pos rfl,zI4,hpa];simp only[toP];rw[if_pos (by omega),zAx hi]
   simp
  ·rw[if_neg e]
   unfold zI4;cases hq:zGf t j with
   | none=>rfl
   | some p =>
    have:p≠i:=fun e2=>by
     subst e2;obtain⟨_,_,h3⟩:=zFm hq;omega
    have:p<i+1↔p<i:=by omega
    simp only[toP,this]
 ·unfold zD2
  have hg:∀(n:Nat),a<n→(zGl t (zE6 vs t) (zI4 t (toP t i)) n)[zA1 t a+1]? = some (zI4 t (toP t i) a):=by
   intro n
   induction n with
   | zero=>intro h;omega
   | succ n ih =>
    intro hn;simp only[zGl];by_cases e:a=n
    ·subst e
     rw[yG (by rw[zBs];omega),zBs,Nat.add_sub_cancel_left,hpa]
     rfl
    ·have hl:=zFl (t:=t) (k:=a) (n:=n) (by omega)
     rw[hpa]at hl;simp only[zDv,if_true]at hl;rw[zL (by rw[zBs];omega)]
     exact ih (by omega)
  rw[hg i hai,zI4,hpa];simp only[toP];rw[if_neg (by omega),zAx hi]
  rfl
theorem zW7 (vs:List ByteArray) (i:Nat):zD2 vs t (i+1)=zGl t (zE6 vs t) (zI4 t (toP t (i+1))) i++zE6 vs t i::(if (zGf t i).isSome=true then [⟨bhT t t.length i,0,0,0,0⟩]else []):=by
 unfold zD2;simp only[zGl];congr 2;cases h:zGf t i with
 | none=>rfl
 | some p =>
  obtain⟨h1,h2,h3⟩:=zFm h;simp only[zDv,if_true];rw[zZj,h,zI4,h];simp only[toP];rw[if_neg]
  ·rfl
  ·obtain⟨k1,k2,_⟩:=zOn T h1 (by omega)
   omega
omit T in
theorem yAz (vs:List ByteArray):zD2 vs t t.length=zIs vs t:=by
 refine zKp _ (fun _ _=>rfl) fun j hj hp => ?_
 unfold zI4;cases h:zGf t j with
 | none=>rfl
 | some p=>simp only[toP];rw[if_pos (zFm h).1]
end
end
end Go.Proofs.YtbffkkeieihpdaaGreatDoor
