import Derived.Test.YtbffkkeieihpdaaGreatDoorX16
set_option linter.unusedSimpArgs false
set_option linter.unusedVariables false
set_option linter.constructorNameAsVariable false
set_option maxRecDepth 100000
set_option maxHeartbeats 4000000
namespace Go.Proofs.YtbffkkeieihpdaaGreatDoor
open Go Go.Eng
section
def wY (t:List Nd):Nat→List ByteArray
 | 0=>[]
 | k+1=>zMo (wY t k) (t.getD k nd0)
def zBr (t:List Nd):List ByteArray:=wY t t.length
theorem yF9 {l:List ByteArray} {z:ByteArray} (m:List ByteArray) (h:l.findIdx (· == z)<l.length):zAn (l++m) z=zAn l z∧(l++m).findIdx (· == z)<(l++m).length:=by
 have hf:(l++m).findIdx (· == z)=l.findIdx (· == z):=by rw[List.findIdx_append,if_pos h]
 have h2:l.findIdx (· == z)<(l++m).length:=by rw[zR];omega
 unfold zAn;rw[hf,if_pos h,if_pos h2];exact⟨rfl,h2⟩
theorem yBo (l:List ByteArray) (z:ByteArray):(zJ7 l z).findIdx (· == z)<(zJ7 l z).length:=by
 unfold zJ7;split
 ·assumption
 ·exact List.findIdx_lt_length_of_exists ⟨z,by simp,by rw[zEt]⟩
theorem yE7 (l:List ByteArray) (x:Nd):∃m,zMo l x=l++m:=by
 unfold zMo zJ7;split
 ·split
  ·exact⟨[],by simp⟩
  ·exact⟨_,rfl⟩
 ·exact⟨[],by simp⟩
theorem zLq (t:List Nd) (k:Nat):∀d,∃m,wY t (k+d)=wY t k++m
 | 0=>⟨[],by simp⟩
 | d+1=>by
  obtain⟨m,h⟩:=zLq t k d;obtain⟨m',h'⟩:=yE7 (wY t (k+d)) (t.getD (k+d) nd0);exact⟨m++m',by show wY t (k+d+1)=_;rw[wY,h',h,wI]⟩
def zGl (vs:List ByteArray) (t:List Nd) (j:Nat):Ins:=zR0 (zBr t) (wK vs (t.getD j nd0)) (t.getD j nd0)
theorem zWd {vs:List ByteArray} {t:List Nd} {k:Nat} (hk:k<t.length) (h1:1≤(t.getD k nd0).op):zR0 (wY t (k+1)) (wK vs (t.getD k nd0)) (t.getD k nd0)=zGl vs t k:=by
 obtain⟨m,hm⟩:=zLq t (k+1) (t.length-(k+1));rw[show k+1+(t.length-(k+1))=t.length by omega]at hm
 unfold zGl zBr;rw[hm];generalize hx:t.getD k nd0=x at *;have key:4≤x.op∧x.op≤11∧x.op≠5→zAn (wY t (k+1)++m) x.attr=zAn (wY t (k+1)) x.attr:=fun h=>by
  have:wY t (k+1)=zJ7 (wY t k) x.attr:=by rw[wY,hx,zMo,if_pos h]
  exact (yF9 m (by rw[this];exact yBo _ _)).1
 unfold zR0;by_cases h4:4≤x.op∧x.op≤11∧x.op≠5
 ·rw[key h4]
 ·repeat' (first|rfl|split)
  all_goals (exfalso;omega)
theorem zLp (t:List Nd):∀k,(wY t k).length≤k
 | 0=>zD _
 | k+1=>by
  have:=zLp t k;simp only[wY,zMo,zJ7];split
  ·split
   ·omega
   ·simp;omega
  ·omega
def zKd (t:List Nd) (to:Nat→Nat) (j:Nat):Ins:=match zHc t j with
 | some p=>⟨(t.getD p nd0).op,0,0,0,to p⟩
 | none=>zI
def toP (t:List Nd) (i p:Nat):Nat:=if p<i then zBg t p+1 else 0
def zMx (vs:List ByteArray) (t:List Nd):List Ins:=zH1 t (zGl vs t) (zKd t fun p=>zBg t p+1) t.length
def zA2 (sc:List Ty) (vs:List ByteArray) (t:List Nd):Pr:=if zI9 vs t=true then ⟨zMx vs t,(zBr t).map (zC7 sc)⟩else ⟨[],[]⟩
def bhT (t:List Nd) (k j:Nat):Int:=match zHc t j with
 | some p=>if p<k then (t.getD p nd0).op else 0
 | none=>0
def bhL (t:List Nd) (k:Nat):List Int:=(List.range t.length).map (bhT t k)
def jpL (t:List Nd) (i:Nat):List Int:=(List.range t.length).map fun j=>if j<i∧(zHc t j).isSome=true then (zBg t j:Int)+1 else 0
theorem zBh {t:List Nd} {i:Nat} (hi:i<t.length):t.getD i nd0=t[i]:=by rw[zB,zA hi];rfl
section
variable {t:List Nd}
theorem zG9 (k:Nat):(bhL t k).length=t.length:=by simp[bhL]
theorem zH2 (k:Nat):(jpL t k).length=t.length:=by simp[jpL]
theorem yEw:bhL t 0=List.replicate t.length 0:=by
 refine List.eq_replicate_iff.2 ⟨zG9 0,fun b hb => ?_⟩
 obtain⟨j,_,rfl⟩:=xF.1 hb;unfold bhT;split
 ·rw[if_neg (by omega)]
 ·rfl
theorem yD3:jpL t 0=List.replicate t.length 0:=by
 refine List.eq_replicate_iff.2 ⟨zH2 0,fun b hb => ?_⟩
 obtain⟨j,_,rfl⟩:=xF.1 hb;rw[if_neg (by omega)]
theorem yBf (j:Nat):bhT t t.length j=match zHc t j with
  | some p=>(t.getD p nd0).op
  | none=>0:=by
 unfold bhT;cases h:zHc t j with
 | none=>rfl
 | some p=>simp only;rw[if_pos (zGe h).1]
theorem zVh {j:Nat} (hj:j<t.length) (k:Nat):(bhL t k)[j]? = some (bhT t k j):=by
 rw[bhL,xJ,zD1 hj];rfl
theorem zUp {j:Nat} (hj:j<t.length) (k:Nat):(jpL t k)[j]? = some (if j<k∧(zHc t j).isSome=true then (zBg t j:Int)+1 else 0):=by
 rw[jpL,xJ,zD1 hj];rfl
theorem yD4 {i:Nat} (h:zHc t i=none):jpL t (i+1)=jpL t i:=by
 refine zCs fun j _ => ?_
 by_cases e:j=i
 ·subst e;rw[h];simp
 ·have:j<i+1↔j<i:=by omega
  simp only[this]
theorem yIq {i:Nat} (hi:i<t.length) (h:(zHc t i).isSome=true):(jpL t i).set i ((zBg t i:Int)+1)=jpL t (i+1):=by
 refine zFf fun j => ?_
 rw[List.getElem?_set];by_cases e:i=j
 ·subst e
  rw[if_pos rfl,if_pos (by rw[zH2];exact hi),zUp hi,if_pos ⟨by omega,h⟩]
 ·rw[if_neg e]
  by_cases hj:j<t.length
  ·rw[zUp hj,zUp hj]
   have:j<i+1↔j<i:=by omega
   simp only[this]
  ·rw[zL (by rw[zH2];omega),zL (by rw[zH2];omega)]
theorem yEx {k:Nat} (hk:k<t.length) (h:t[k].op<25):bhL t (k+1)=bhL t k:=by
 refine zCs fun j _ => ?_
 unfold bhT;cases hp:zHc t j with
 | none=>rfl
 | some p =>
  obtain⟨h1,h2,_⟩:=zGe hp;have:p≠k:=fun e=>by subst e;omega
  have:p<k+1↔p<k:=by omega
  simp only[this]
variable {lo:Nat→Nat} (T:Tre t lo)
include T
theorem yJz {k a:Nat} (hk:k<t.length) (h:25≤t[k].op) (ha:t[k].a=(a:Int)):(bhL t k).set a t[k].op=bhL t (k+1):=by
 have hpa:=zQq T hk h ha;refine zFf fun j => ?_
 rw[List.getElem?_set];by_cases e:a=j
 ·subst e
  have hal:a<t.length:=by
   obtain⟨h1,h2,_⟩:=zP5 T hk (by omega)
   omega
  rw[if_pos rfl,if_pos (by rw[zG9];exact hal),zVh hal,bhT,hpa]
  simp only;rw[if_pos (by omega),zBh hk]
 ·rw[if_neg e]
  by_cases hj:j<t.length
  ·rw[zVh hj,zVh hj]
   unfold bhT;cases hp:zHc t j with
   | none=>rfl
   | some p =>
    have:p≠k:=fun e2=>by
     subst e2;obtain⟨_,_,h3⟩:=zGe hp;omega
    have:p<k+1↔p<k:=by omega
    simp only[this]
  ·rw[zL (by rw[zG9];omega),zL (by rw[zG9];omega)]
def zEp (vs:List ByteArray) (t:List Nd) (i:Nat):List Ins:=zH1 t (zGl vs t) (zKd t (toP t i)) i
omit T in
theorem zOa (vs:List ByteArray) (i:Nat):(zEp vs t i).length=zBg t i:=zB4 _ _ _
omit T in
theorem yC3 {vs:List ByteArray} {i:Nat} (hi:i<t.length) (h:t[i].op<25):zEp vs t i=zH1 t (zGl vs t) (zKd t (toP t (i+1))) i:=by
 refine zLs i (fun _ _=>rfl) fun j hj hp => ?_
 unfold zKd;cases hq:zHc t j with
 | none=>rfl
 | some p =>
  obtain⟨h1,h2,_⟩:=zGe hq;have:p≠i:=fun e=>by subst e;omega
  have:p<i+1↔p<i:=by omega
  simp only[toP,this]
theorem yC2 {vs:List ByteArray} {i a:Nat} (hi:i<t.length) (h:25≤t[i].op) (ha:t[i].a=(a:Int)) :
  (zEp vs t i).set (zBg t a+1) ⟨t[i].op,0,0,0,(zBg t i:Int)+1⟩=zH1 t (zGl vs t) (zKd t (toP t (i+1))) i∧(zEp vs t i)[zBg t a+1]? = some ⟨t[i].op,0,0,0,0⟩:=by
 have hpa:=zQq T hi h ha;have hai:a<i:=by
  obtain⟨h1,h2,_⟩:=zP5 T hi (by omega)
  omega
 have hset:=zUl (t:=t) (f:=zGl vs t) (g:=zKd t (toP t i)) (k:=a) ⟨t[i].op,0,0,0,(zBg t i:Int)+1⟩ (by rw[hpa];rfl) hai
 refine⟨?_,?_⟩
 ·unfold zEp
  rw[hset];refine zLs i (fun _ _=>rfl) fun j hj hp => ?_
  unfold yGx;by_cases e:j=a
  ·subst e
   rw[if_pos rfl,zKd,hpa];simp only[toP];rw[if_pos (by omega),zBh hi]
   simp
  ·rw[if_neg e]
   unfold zKd;cases hq:zHc t j with
   | none=>rfl
   | some p =>
    have:p≠i:=fun e2=>by
     subst e2;obtain⟨_,_,h3⟩:=zGe hq;omega
    have:p<i+1↔p<i:=by omega
    simp only[toP,this]
 ·unfold zEp
  have hg:∀(n:Nat),a<n→(zH1 t (zGl vs t) (zKd t (toP t i)) n)[zBg t a+1]? = some (zKd t (toP t i) a):=by
   intro n
   induction n with
   | zero=>intro h;omega
   | succ n ih =>
    intro hn;simp only[zH1];by_cases e:a=n
    ·subst e
     rw[yN (by rw[zB4];omega),zB4,Nat.add_sub_cancel_left,hpa]
     rfl
    ·have hl:=zGd (t:=t) (k:=a) (n:=n) (by omega)
     rw[hpa]at hl;simp only[zEh,if_true]at hl;rw[zQ (by rw[zB4];omega)]
     exact ih (by omega)
  rw[hg i hai,zKd,hpa];simp only[toP];rw[if_neg (by omega),zBh hi]
  rfl
theorem zYy (vs:List ByteArray) (i:Nat):zEp vs t (i+1)=zH1 t (zGl vs t) (zKd t (toP t (i+1))) i++zGl vs t i::(if (zHc t i).isSome=true then [⟨bhT t t.length i,0,0,0,0⟩]else []):=by
 unfold zEp;simp only[zH1];congr 2;cases h:zHc t i with
 | none=>rfl
 | some p =>
  obtain⟨h1,h2,h3⟩:=zGe h;simp only[zEh,if_true];rw[yBf,h,zKd,h];simp only[toP];rw[if_neg]
  ·rfl
  ·obtain⟨k1,k2,_⟩:=zP5 T h1 (by omega)
   omega
omit T in
theorem yC4 (vs:List ByteArray):zEp vs t t.length=zMx vs t:=by
 refine zLs _ (fun _ _=>rfl) fun j hj hp => ?_
 unfold zKd;cases h:zHc t j with
 | none=>rfl
 | some p=>simp only[toP];rw[if_pos (zGe h).1]
end
end
end Go.Proofs.YtbffkkeieihpdaaGreatDoor
