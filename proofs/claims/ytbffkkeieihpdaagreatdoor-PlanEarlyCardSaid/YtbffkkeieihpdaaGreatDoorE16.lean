import Derived.Test.YtbffkkeieihpdaaGreatDoorE15
import Derived.Test.YtbffkkeieihpdaaGreatDoorE14
import Derived.Test.YtbffkkeieihpdaaGreatDoorE13
set_option linter.unusedSimpArgs false
set_option linter.unusedVariables false
set_option linter.constructorNameAsVariable false
set_option maxRecDepth 100000
set_option maxHeartbeats 4000000
namespace Go.Proofs.YtbffkkeieihpdaaGreatDoor
open Go Go.Eng
section
def yEj (t:List Nd) (lo:Nat→Nat) (x:Nd) (i:Nat):Prop :=
 (1≤x.op∧x.op≤11∧x.a=-1∧x.b=-1∧lo i=i)∨((x.op=12∨x.op=13)∧1≤i∧x.a=((i-1:Nat):Int)∧x.b=-1∧lo i=lo (i-1))∨
 (14≤x.op∧x.op≤26∧1≤i∧x.b=((i-1:Nat):Int)∧∃a:Nat,x.a=(a:Int)∧lo (i-1)=a+1∧lo i=lo a)
structure Tre (t:List Nd) (lo:Nat→Nat):Prop where
 pos:0<t.length
 root:lo (t.length-1)=0
 le:∀i,i<t.length→lo i≤i
 kind:∀i (hi:i<t.length),yEj t lo t[i] i
def zU2 (l:List Int) (x:Nd) (i:Nat):Prop:=0≤l.getD i 0∧l.getD i 0≤i∧
 ((1≤x.op∧x.op≤11∧x.a=-1∧x.b=-1∧l.getD i 0=i)∨((x.op=12∨x.op=13)∧1≤i∧x.a=(i:Int)-1∧x.b=-1∧l.getD i 0=l.getD (i-1) 0)∨
 (14≤x.op∧x.op≤26∧1≤i∧x.b=(i:Int)-1∧1≤l.getD (i-1) 0∧x.a=l.getD (i-1) 0-1∧l.getD i 0=l.getD x.a.toNat 0))
theorem zGh {l m:List Int} {i:Nat} (h:i<l.length):(l++m).getD i 0=l.getD i 0:=by
 simp only[zB,zL h]
theorem zF4 {l:List Int} {z:Int} {i:Nat} (h:i=l.length):(l++[z]).getD i 0=z:=by
 subst h;simp only[zB,yG (zC _),zC7];rfl
theorem zYa {l l':List Int} {x:Nd} {j:Nat} (hl:l.length=j) (hb:∀i,i<j→0≤l.getD i 0∧l.getD i 0≤i) (h:zAg l x j=some l'):zU2 l' x j∧l'.length=j+1∧∃z,l'=l++[z]:=by
 have hlf:=zGw x;unfold zAg at h;split at h
 ·rename_i h1
  cases h;rw[h1]at hlf;have hlf':=hlf.symm;simp only[zO,decide_eq_true_eq]at hlf';obtain⟨⟨⟨f0,f1⟩,f2⟩,f3⟩:=hlf';have hop:1≤x.op∧x.op≤11:=by
   unfold zBg at f0;split at f0
   ·assumption
   ·split at f0
    ·cases f0
    ·split at f0<;>cases f0
  refine⟨⟨?_,?_,.inl ⟨hop.1,hop.2,f2,f3,zF4 hl.symm⟩⟩,by simp[hl],_,rfl⟩
  ·rw[zF4 hl.symm];omega
  ·rw[zF4 hl.symm];omega
 split at h
 ·rename_i h1 h2
  split at h
  ·cases h
  rename_i h3;cases h;simp only[not_or,Decidable.not_not]at h3;obtain⟨_,h4,h5,h6⟩:=h3;have hp:=hb (j-1) (by omega)
  have e1:(l++[l.getD (j-1) 0]).getD j 0=l.getD (j-1) 0:=zF4 hl.symm;have e2:(l++[l.getD (j-1) 0]).getD (j-1) 0=l.getD (j-1) 0:=zGh (by omega)
  refine⟨⟨by rw[e1];omega,by rw[e1];omega,.inr (.inl ⟨h2,by omega,h5,h6,by rw[e1,e2]⟩)⟩,by simp[hl],_,rfl⟩
 split at h
 ·rename_i h1 h2 h2'
  split at h
  ·cases h
  rename_i h3;cases h;simp only[not_or,Decidable.not_not]at h3;obtain⟨_,h4,h5,h6,h7⟩:=h3;have hp:=hb (j-1) (by omega)
  have hq:=hb x.a.toNat (by omega)
  have e1:(l++[l.getD x.a.toNat 0]).getD j 0=l.getD x.a.toNat 0:=zF4 hl.symm;have e2:(l++[l.getD x.a.toNat 0]).getD (j-1) 0=l.getD (j-1) 0:=zGh (by omega)
  have e3:(l++[l.getD x.a.toNat 0]).getD x.a.toNat 0=l.getD x.a.toNat 0:=zGh (by omega)
  refine⟨⟨by rw[e1];omega,by rw[e1];omega,.inr (.inr ⟨h2'.1,h2'.2,by omega,h5,by rw[e2];omega,by rw[e2];exact h7,by rw[e1,e3]⟩)⟩,by simp[hl],_,rfl⟩
 ·cases h
theorem zYb {l:List Int} {x:Nd} {i:Nat} (z:Int) (hb:∀q,q<l.length→l.getD q 0≤q) (hi:i<l.length) (h:zU2 l x i):zU2 (l++[z]) x i:=by
 unfold zU2 at h ⊢;have e1:(l++[z]).getD i 0=l.getD i 0:=zGh hi;have e2:(l++[z]).getD (i-1) 0=l.getD (i-1) 0:=zGh (by omega)
 rw[e1,e2];obtain⟨h1,h2,h3⟩:=h;refine⟨h1,h2,?_⟩;rcases h3 with h3|h3|⟨k1,k2,k3,k4,k5,k6,k7⟩
 ·exact .inl h3
 ·exact .inr (.inl h3)
 ·by_cases ha:x.a.toNat<l.length
  ·exact .inr (.inr ⟨k1,k2,k3,k4,k5,k6,by rw[zGh ha];exact k7⟩)
  ·have:=hb (i-1) (by omega)
   exfalso;omega
theorem zS3 {t:List Nd}:∀{j:Nat} {l:List Int},j≤t.length→zC2 t j=some l→l.length=j∧∀i,i<j→zU2 l (t.getD i nd0) i
 | 0,l,_,h=>by simp[zC2]at h;subst h;exact⟨rfl,fun i hi=>by omega⟩
 | j+1,l,hj,h=>by
  simp only[zC2,xE]at h;obtain⟨p,h1,h2⟩:=h;obtain⟨i1,i2⟩:=zS3 (by omega) h1
  obtain⟨k1,k2,z,rfl⟩:=zYa i1 (fun i hi=>⟨(i2 i hi).1,(i2 i hi).2.1⟩) h2
  refine⟨k2,fun i hi => ?_⟩
  by_cases e:i=j
  ·subst e;exact k1
  ·exact zYb z (fun q hq=>(i2 q (by omega)).2.1) (by omega) (i2 i (by omega))
def zN7 (t:List Nd) (i:Nat):Nat:=match zC2 t t.length with
 | some l=>(l.getD i 0).toNat
 | none=>0
theorem zCt {t:List Nd} (h:zAh t=true):Tre t (zN7 t):=by
 rw[←zOi]at h;unfold zZ8 at h;split at h
 ·rename_i l hl
  obtain⟨k1,k2⟩:=zS3 (zC _) hl;simp only[zO,decide_eq_true_eq]at h;obtain⟨h1,h2⟩:=h;have hlo:∀i,zN7 t i=(l.getD i 0).toNat:=fun i=>by unfold zN7;rw[hl]
  have hk:∀i (hi:i<t.length),zU2 l t[i] i:=fun i hi=>by
   have:=k2 i hi
   rwa [zB,zA hi]at this
  refine⟨h1,by rw[hlo,h2];rfl,fun i hi => ?_,fun i hi => ?_⟩
  ·have:=(hk i hi).2.1
   rw[hlo];omega
  ·obtain⟨a1,a2,a3⟩:=hk i hi
   unfold yEj;rw[hlo];rcases a3 with ⟨b1,b2,b3,b4,b5⟩|⟨b1,b2,b3,b4,b5⟩|⟨b1,b2,b3,b4,b5,b6,b7⟩
   ·exact .inl ⟨b1,b2,b3,b4,by omega⟩
   ·exact .inr (.inl ⟨b1,b2,by omega,b4,by rw[hlo];omega⟩)
   ·exact .inr (.inr ⟨b1,b2,b3,by omega,t[i].a.toNat,by omega,by rw[hlo];omega,by rw[hlo];omega⟩)
 ·cases h
section
variable {t:List Nd} {lo:Nat→Nat} (T:Tre t lo)
include T
theorem lam:∀(k i:Nat),k<t.length→i<k→lo k≤lo i∨i<lo k:=by
 intro k
 induction k using Nat.strongRecOn with
 | _ k ih =>
  intro i hk hik;rcases T.kind k hk with ⟨_,_,_,_,b⟩|⟨_,b1,_,_,b⟩|⟨_,_,b1,_,a,_,b2,b⟩
  ·omega
  ·by_cases e:i=k-1
   ·subst e;omega
   ·rw[b];exact ih (k-1) (by omega) i (by omega) (by omega)
  ·have hle:=T.le (k-1) (by omega)
   have hla:=T.le a (by omega)
   by_cases e:i=k-1
   ·subst e;omega
   ·by_cases e2:i=a
    ·subst e2;omega
    ·by_cases e3:a<i
     ·rcases ih (k-1) (by omega) i (by omega) (by omega)with h|h
      ·omega
      ·omega
     ·rcases ih a (by omega) i (by omega) (by omega)with h|h
      ·omega
      ·omega
theorem zXg {i k:Nat} {a:Nat} (hi:i<t.length) (hk:k<t.length) (oi:14≤t[i].op) (ok:14≤t[k].op) (ai:t[i].a=(a:Int)) (ak:t[k].a=(a:Int)):i=k:=by
 have key:∀i k (hi:i<t.length) (hk:k<t.length),14≤t[i].op→14≤t[k].op→t[i].a=(a:Int)→t[k].a=(a:Int)→i<k→False:=by
  intro i k hi hk oi ok ai ak hik;rcases T.kind i hi with ⟨_,_,_⟩|⟨_,_⟩|⟨_,_,b1,b2,a1,b3,b4,b5⟩
  ·omega
  ·omega
  rcases T.kind k hk with ⟨_,_,_⟩|⟨_,_⟩|⟨_,_,c1,c2,a2,c3,c4,c5⟩
  ·omega
  ·omega
  obtain rfl:a1=a:=by omega
  obtain rfl:a2=a1:=by omega
  have hla:=T.le a2 (by have:=T.le (i-1) (by omega);omega)
  by_cases e:i=k-1
  ·subst e;omega
  ·rcases lam T (k-1) i (by omega) (by omega)with h|h
   ·omega
   ·have:=T.le (i-1) (by omega)
    omega
 rcases Nat.lt_trichotomy i k with h|h|h
 ·exact (key i k hi hk oi ok ai ak h).elim
 ·exact h
 ·exact (key k i hk hi ok oi ak ai h).elim
theorem yGf {i k:Nat} (hi:i<t.length) (hk:k<t.length) (oi:12≤t[i].op) (ok:14≤t[k].op) (ak:t[k].a=((i-1:Nat):Int)):False:=by
 rcases T.kind k hk with ⟨_,_,_⟩|⟨_,_⟩|⟨_,_,c1,c2,a2,c3,c4,c5⟩
 ·omega
 ·omega
 have hle:=T.le (k-1) (by omega)
 have hi1:1≤i∧lo i≤i-1:=by
  rcases T.kind i hi with ⟨_,_,_⟩|⟨_,b1,_,_,b5⟩|⟨_,_,b1,_,a1,_,b4,b5⟩
  ·omega
  ·have:=T.le (i-1) (by omega);omega
  ·have:=T.le (i-1) (by omega)
   have:=T.le a1 (by omega)
   omega
 by_cases e:i=k
 ·subst e;omega
 ·have hik:i<k:=by omega
  by_cases e2:i=k-1
  ·subst e2;omega
  ·rcases lam T (k-1) i (by omega) (by omega)with h|h<;>omega
end
end
section
def zGf (t:List Nd) (j:Nat):Option Nat:=(List.range t.length).find? fun i=>decide (25≤(t.getD i nd0).op)&&decide ((t.getD i nd0).a=(j:Int))
def zA1 (t:List Nd):Nat→Nat
 | 0=>0
 | k+1=>zA1 t k+1+if (zGf t k).isSome=true then 1 else 0
def zGl (t:List Nd) (f g:Nat→Ins):Nat→List Ins
 | 0=>[]
 | k+1=>zGl t f g k++f k::if (zGf t k).isSome=true then [g k]else []
def zI:Ins:=⟨0,0,0,0,0⟩
section
variable {t:List Nd}
theorem zBs (f g:Nat→Ins):∀n,(zGl t f g n).length=zA1 t n
 | 0=>rfl
 | n+1=>by
  simp only[zGl,zA1,zM,zBs f g n,List.length_cons];split<;>simp
theorem zKp {f f' g g':Nat→Ins}:∀n,(∀j,j<n→f j=f' j)→(∀j,j<n→(zGf t j).isSome=true→g j=g' j)→zGl t f g n=zGl t f' g' n
 | 0,_,_=>rfl
 | n+1,h1,h2=>by
  simp only[zGl,zKp n (fun j hj=>h1 j (by omega)) (fun j hj=>h2 j (by omega)),h1 n (by omega)]
  split
  ·rename_i h;rw[h2 n (by omega) h]
  ·rfl
theorem zFl {k:Nat}:∀{n:Nat},k<n→zA1 t k+1+(if (zGf t k).isSome=true then 1 else 0)≤zA1 t n
 | 0,h=>by omega
 | n+1,h=>by
  by_cases e:k=n
  ·subst e;exact zC _
  ·have:=zFl (k:=k) (n:=n) (by omega)
   simp only[zA1];omega
def yEq (f:Nat→Ins) (k:Nat) (x:Ins):Nat→Ins:=fun j=>if j=k then x else f j
theorem zS1 {f g:Nat→Ins} {k:Nat} (x:Ins) (hp:(zGf t k).isSome=true):∀{n:Nat},k<n→(zGl t f g n).set (zA1 t k+1) x=zGl t f (yEq g k x) n
 | 0,h=>by omega
 | n+1,h=>by
  simp only[zGl];by_cases e:k=n
  ·subst e
   rw[zCf _ _ (by rw[zBs];omega),zBs,Nat.add_sub_cancel_left,if_pos hp,if_pos hp,List.set_cons_succ,List.set_cons_zero]
   rw[zKp (f':=f) (g':=yEq g k x) k (fun _ _=>rfl) (fun j hj _=>by simp only[yEq];rw[if_neg (by omega)])]
   simp[yEq]
  ·have hl:=zFl (t:=t) (k:=k) (n:=n) (by omega)
   rw[if_pos hp]at hl;rw[List.set_append_left _ _ (by rw[zBs];omega),zS1 x hp (by omega)]
   have:yEq g k x n=g n:=by simp only[yEq];rw[if_neg (fun h=>e h.symm)]
   rw[this]
theorem zFm {i j:Nat} (h:zGf t j=some i):∃hi:i<t.length,25≤t[i].op∧t[i].a=(j:Int):=by
 unfold zGf at h;have h1:=List.mem_of_find?_eq_some h;have h2:=List.find?_some h;have hi:i<t.length:=by simpa using h1
 have hg:t.getD i nd0=t[i]:=by rw[zB,zA hi];rfl
 rw[hg]at h2;simp only[zO,decide_eq_true_eq]at h2;exact⟨hi,h2⟩
variable {lo:Nat→Nat} (T:Tre t lo)
include T
theorem zO9 {i j:Nat} (hi:i<t.length) (ho:25≤t[i].op) (ha:t[i].a=(j:Int)):zGf t j=some i:=by
 have hg:t.getD i nd0=t[i]:=by rw[zB,zA hi];rfl
 cases h:zGf t j with
 | none =>
  unfold zGf at h;rw[List.find?_eq_none]at h;have:=h i (zAm.2 hi);rw[hg,ha]at this
  simp[ho]at this
 | some k =>
  obtain⟨hk,h1,h2⟩:=zFm h;rw[zXg T hi hk (by omega) (by omega) ha h2]
theorem yI0 {i:Nat} (hi:i<t.length) (ho:12≤t[i].op):zGf t (i-1)=none:=by
 cases h:zGf t (i-1)with
 | none=>rfl
 | some k =>
  obtain⟨hk,h1,h2⟩:=zFm h;exact (yGf T hi hk ho (by omega) h2).elim
theorem yI1 {i a:Nat} (hi:i<t.length) (ho:14≤t[i].op) (h25:t[i].op<25) (ha:t[i].a=(a:Int)):zGf t a=none:=by
 cases h:zGf t a with
 | none=>rfl
 | some k =>
  obtain⟨hk,h1,h2⟩:=zFm h;have:=zXg T hi hk ho (by omega) ha h2
  subst this;omega
theorem yA3:zGf t (t.length-1)=none:=by
 cases h:zGf t (t.length-1)with
 | none=>rfl
 | some k =>
  obtain⟨hk,h1,h2⟩:=zFm h;have:=T.pos;rcases T.kind k hk with ⟨_,_,_⟩|⟨_,_⟩|⟨_,_,c1,c2,a2,c3,c4,c5⟩
  ·omega
  ·omega
  ·have:=T.le (k-1) (by omega)
   omega
theorem zXb:zA1 t t.length=zA1 t (t.length-1)+1:=by
 have:=T.pos;obtain⟨m,hm⟩:∃m,t.length=m+1:=⟨t.length-1,by omega⟩
 have hr:=yA3 T;rw[hm,zDw]at hr ⊢;simp[zA1,hr]
theorem zO8 {i:Nat} (hi:i<t.length) (ho:12≤t[i].op) (h1:1≤i):zA1 t i=zA1 t (i-1)+1:=by
 obtain⟨m,rfl⟩:∃m,i=m+1:=⟨i-1,by omega⟩
 have hr:=yI0 T hi ho;rw[zDw]at hr ⊢;simp[zA1,hr]
theorem zXa {i a:Nat} (hi:i<t.length) (ho:14≤t[i].op) (ha:t[i].a=(a:Int)):zA1 t (a+1)=zA1 t a+if 25≤t[i].op then 2 else 1:=by
 by_cases h:25≤t[i].op
 ·have:=zO9 T hi h ha
  simp[zA1,this,h]
 ·have:=yI1 T hi ho (by omega) ha
  simp[zA1,this,h]
theorem yJs:∀(k i:Nat),i=k→i<t.length→2*(zA1 t i-zA1 t (lo i))≤3*(i-lo i)∧zA1 t (lo i)≤zA1 t i:=by
 intro k
 induction k using Nat.strongRecOn with
 | _ k ih =>
  rintro i rfl hi;rcases T.kind i hi with ⟨_,_,_,_,b⟩|⟨b0,b1,_,_,b⟩|⟨b0,_,b1,_,a,b2,b3,b⟩
  ·rw[b];omega
  ·have h1:=zO8 T hi (by omega) b1
   obtain⟨h2,h3⟩:=ih (i-1) (by omega) _ rfl (by omega)
   have:=T.le (i-1) (by omega)
   rw[b];omega
  ·have h1:=zO8 T hi (by omega) b1
   have h4:=zXa T hi b0 b2;have hle:=T.le (i-1) (by omega)
   have hla:=T.le a (by omega)
   obtain⟨h2,h3⟩:=ih (i-1) (by omega) _ rfl (by omega)
   obtain⟨h5,h6⟩:=ih a (by omega) _ rfl (by omega)
   rw[b3]at h2 h3;rw[b];split at h4<;>omega
theorem few:2*zA1 t t.length≤3*t.length:=by
 have h1:=zXb T;have:=T.pos;obtain⟨h2,h3⟩:=yJs T _ _ rfl (show t.length-1<t.length by omega)
 rw[T.root]at h2;simp only[zA1]at h2;omega
end
def szT (t:List Nd) (lo:Nat→Nat) (i:Nat):Int:=(zA1 t i:Int)-zA1 t (lo i)+1
section
variable {t:List Nd} {lo:Nat→Nat} (T:Tre t lo)
include T
theorem zOn {i:Nat} (hi:i<t.length) (ho:14≤t[i].op):0≤t[i].a∧t[i].a<i∧0≤t[i].b∧t[i].b<i∧t[i].a≠t[i].b∧
  szT t lo i=szT t lo t[i].a.toNat+szT t lo t[i].b.toNat+(if 25≤t[i].op then 2 else 1)∧zA1 t (lo t[i].a.toNat)=zA1 t (lo i)∧
  (zA1 t (lo t[i].b.toNat):Int)=zA1 t t[i].a.toNat+(if 25≤t[i].op then 2 else 1)∧(zA1 t (lo i):Int)+szT t lo t[i].a.toNat=zA1 t t[i].a.toNat+1:=by
 rcases T.kind i hi with ⟨_,b0,_⟩|⟨b0,b1,b2,_,b⟩|⟨b0,_,b1,b2,a,b3,b4,b⟩
 ·omega
 ·omega
 ·have h1:=zO8 T hi (by omega) b1
  have h2:=zXa T hi ho b3;have hle:=T.le (i-1) (by omega)
  have e:t[i].b.toNat=i-1:=by omega
  have e2:t[i].a.toNat=a:=by omega
  rw[e,e2,b4];unfold szT;rw[b,b4];refine⟨by omega,by omega,by omega,by omega,by omega,?_,rfl,?_,by omega⟩
  ·split at h2<;>(rename_i h;simp only[h,if_true,if_false]<;>omega)
  ·split at h2<;>(rename_i h;simp only[h,if_true,if_false]<;>omega)
theorem zQr {i:Nat} (hi:i<t.length):1≤t[i].op∧t[i].op≤26:=by
 rcases T.kind i hi with ⟨_,b0,_⟩|⟨b0,_⟩|⟨b0,_⟩<;>omega
end
end
def sid:AV→Nat→Prop
 | .s id _ _ _,b=>id=b
 | _,_=>False
def Ear (cs:List AV) (i b:Nat):Prop:=∃j c,j<i∧cs[j]? = some c∧sid c b
def mpc (names:List ByteArray):List AV:=names.zipIdx.flatMap fun p=>[ss p.1,ii p.2]
def KC (h:Heap) (G:Nat→Prop) (hi:Nat) (bad:Nat→Prop) (c:AV) (l:List Int):Prop :=
 (l=[]∧c=.v (.slice none 0 0))∨∃b v,c=.s b v 0 l.length∧h b=some ⟨l.map ii,v,true,1⟩∧G b∧b<hi∧¬bad b
theorem KC.up {h h':Heap} {G:Nat→Prop} {hi hi':Nat} {bad bad':Nat→Prop} {c:AV} {l:List Int} (k:KC h G hi bad c l) (hh:∀q,G q→q<hi→¬bad q→h' q=h q) (hb:∀q,G q→q<hi→bad' q→bad q) (hi2:hi≤hi'):KC h' G hi' bad' c l:=by
 rcases k with h0|⟨b,v,k1,k2,k3,k4,k5⟩
 ·exact .inl h0
 ·exact .inr ⟨b,v,k1,by rw[hh b k3 k4 k5];exact k2,k3,by omega,fun hx=>k5 (hb b k3 k4 hx)⟩
def zEb (G:Nat→Prop) (n:Nat) (h h':Heap):Prop:=∀q,q<n→¬G q→h' q=h q
structure CS (h:Heap) (G:Nat→Prop) (hi m:Nat) (tys:List Ty) (sa ca la:AV) (mm:Nat) (code:List Ins) (names:List ByteArray):Prop where
 hm:h m=some ⟨[sa,ca,la,.mv mm 0],0,true,4⟩
 m1:G m∧m<hi
 sch:rd zE7 h sa=some tys
 hc:(code=[]∧ca=.v (.slice none 0 0))∨∃w u,ca=.s w u 0 code.length∧h w=some ⟨code.flatMap zBb,u,true,5⟩∧G w∧w<hi∧w≠m∧w≠mm
 hl:(names=[]∧la=.v (.slice none 0 0))∨∃w u cs,la=.s w u 0 names.length∧h w=some ⟨cs,u,true,1⟩∧G w∧w<hi∧w≠m∧w≠mm∧¬sid ca w∧cs.length=names.length∧
  ∀i (hi':i<names.length),∃c,cs[i]? = some c∧KC h G hi (fun b=>b=m∨b=mm∨sid ca b∨b=w∨Ear cs i b) c (zEc tys names[i])
 mp:h mm=some ⟨mpc names,0,true,0⟩
 mm1:G mm∧mm<hi∧mm≠m
theorem CS.lay {h h':Heap} {G:Nat→Prop} {n n' m mm:Nat} {tys:List Ty} {sa ca ca' la:AV} {code code':List Ins} {names:List ByteArray} (c:CS h G n m tys sa ca la mm code names) (hm:h' m=some ⟨[sa,ca',la,.mv mm 0],0,true,4⟩) (hsc:rd zE7 h' sa=some tys)
  (hoth:∀q,G q→q<n→q≠m→¬sid ca q→h' q=h q) (hn:n≤n') (hsid:∀q,sid ca' q→sid ca q∨n≤q) (hc:(code'=[]∧ca'=.v (.slice none 0 0))∨∃w u,ca'=.s w u 0 code'.length∧h' w=some ⟨code'.flatMap zBb,u,true,5⟩∧G w∧w<n'∧w≠m∧w≠mm) :
  CS h' G n' m tys sa ca' la mm code' names:=by
 obtain⟨x1,x2,x3,x4,x5,x6,x7⟩:=c;have hmm:¬sid ca mm:=by
  rcases x4 with ⟨_,rfl⟩|⟨w,u,rfl,_,_,_,_,k⟩
  ·exact id
  ·exact fun e=>k e
 refine⟨hm,⟨x2.1,by omega⟩,hsc,hc,?_,by rw[hoth mm x7.1 x7.2.1 x7.2.2 hmm];exact x6,⟨x7.1,by omega,x7.2.2⟩⟩
 rcases x5 with h0|⟨w,u,cs,k1,k2,k3,k4,k5,k6,k7,k8,k9⟩
 ·exact .inl h0
 ·have hw:∀q,q<n→sid ca' q→sid ca q:=fun q hq hs=>(hsid q hs).resolve_right (by omega)
  refine .inr ⟨w,u,cs,k1,by rw[hoth w k3 k4 k5 k7];exact k2,k3,by omega,k5,k6,fun hs=>k7 (hw w k4 hs),k8,fun i hi' => ?_⟩
  obtain⟨cc,j1,j2⟩:=k9 i hi';refine⟨cc,j1,j2.up (fun q h1 h2 h3=>hoth q h1 h2 (fun e=>h3 (.inl e)) (fun e=>h3 (.inr (.inr (.inl e))))) (fun q _ hq hx => ?_) hn⟩
  rcases hx with hx|hx|hx|hx|hx
  ·exact .inl hx
  ·exact .inr (.inl hx)
  ·exact .inr (.inr (.inl (hw q hq hx)))
  ·exact .inr (.inr (.inr (.inl hx)))
  ·exact .inr (.inr (.inr (.inr hx)))
theorem c56 {h:Heap} {G:Nat→Prop} {n m mm:Nat} {tys:List Ty} {sa ca la:AV} {code:List Ins} {names:List ByteArray} (c:CS h G n m tys sa ca la mm code names) (i:Ins) (hlen:(code.length+1)*40≤140737488355328) (hG:∀q,n≤q→G q) (hsc:∀h',zEb G n h h'→rd zE7 h' sa=some tys) (hn:Fresh n h) :
  ACall (cx [] (pfL [])) 121 [.p m 0 0,iv i] h n fun _ h' n'=>zEb G n h h'∧Fresh n' h'∧n≤n'∧∃ca',CS h' G n' m tys sa ca' la mm (code++[i]) names:=by
 refine yR (args:=[.p m 0 0,iv i]) (zAr yJ) (zB3 _ _) Tryz.func121 (c:=Tryz.f121.body.getD .skip) rfl (by kernel_rfl) (xK Tryz.func121 rfl rfl _ _) (show 2≤Tryz.f121.ntmps by decide +kernel) ?_
 obtain⟨code9,item,icol,iN,ito⟩:=i;have key:∀e:Nat→AV,e 0=.p m 0 0→e 1=iv ⟨code9,item,icol,iN,ito⟩→awp (cx [] (pfL [])) (Tryz.f121.body.getD .skip) (zBc (cx [] (pfL [])) Tryz.f121 fun _ h' n'=>zEb G n h h'∧Fresh n' h'∧n≤n'∧∃ca',CS h' G n' m tys sa ca' la mm (code++[⟨code9,item,icol,iN,ito⟩]) names) ⟨e,h,n⟩:=fun e q0 q1=>by
  have c0:=c;obtain⟨hm,m1,hsc0,hc,hl,mp,mm1⟩:=c;have z1:¬m=n:=by omega
  have z2:¬m=n+1:=by omega
  have z3:¬m=n+2:=by omega
  have z4:m<n+4:=by omega
  have b1:code.length≤9223372036854775806:=by omega
  have hci:code.flatMap zBb++zBb ⟨code9,item,icol,iN,ito⟩=(code++[(⟨code9,item,icol,iN,ito⟩:Ins)]).flatMap zBb:=by simp
  rcases hc with ⟨rfl,rfl⟩|⟨w,u,rfl,hw,hw1,hw2,hw3,hw4⟩
  ·have hagH:∀b1 b2 b3 b4:Option Blk,zEb G n h (up (up (up (up h n b1) (n+1) b2) (n+2) b3) m b4):=fun b1 b2 b3 b4 q hq hg=>by rw[zP _ _ (fun e=>hg (by rw[e];exact m1.1)),zP _ _ (by omega),zP _ _ (by omega),zP _ _ (by omega)]
   simp[evx,Tryz.f121,q0,q1,iv,zBb,ii,hm,z1,z2,z3,z4,zF,hn.add];refine⟨hagH _ _ _ _,.s (n+2) 0 0 1,c0.lay (by simp[up]) (hsc _ (hagH _ _ _ _)) (fun q h1 h2 h3 h4 => ?_) (by omega) (fun q hq=>.inr (by simp only[sid]at hq;omega)) (.inr ⟨n+2,0,rfl,by rw[zP _ _ (by omega),zJ];rfl,hG _ (by omega),by omega,by omega,by omega⟩)⟩
   rw[zP _ _ h3,zP _ _ (by omega),zP _ _ (by omega),zP _ _ (by omega)]
  ·have y1:¬w=n:=by omega
   have y2:¬w=n+1:=by omega
   have y3:¬m=w:=fun e=>hw3 e.symm
   have y4:w<n+4:=by omega
   have hcl:(code.flatMap zBb).length=code.length*5:=zCl Flat.ins code;generalize code.flatMap zBb=cs at *;have hagH:∀b1 b2 b3 b4:Option Blk,zEb G n h (up (up (up (up h n b1) (n+1) b2) w b3) m b4):=fun b1 b2 b3 b4 q hq hg=>by rw[zP _ _ (fun e=>hg (by rw[e];exact m1.1)),zP _ _ (fun e=>hg (by rw[e];exact hw1)),zP _ _ (by omega),zP _ _ (by omega)]
   simp[evx,Tryz.f121,q0,q1,iv,zBb,ii,hm,z1,z2,z4,hw,y1,y2,y3,y4,hcl,hlen,b1,zF,hn.add];refine⟨hagH _ _ _ _,.s w (u+1) 0 (code.length+1),c0.lay (by simp[up]) (hsc _ (hagH _ _ _ _)) (fun q h1 h2 h3 h4 => ?_) (by omega) (fun q hq=>.inl hq) (.inr ⟨w,u+1,by simp,by rw[zP _ _ hw3,zJ,←hci];rfl,hw1,by omega,hw3,hw4⟩)⟩
   simp only[sid]at h4;rw[zP _ _ h3,zP _ _ (fun e=>h4 e.symm),zP _ _ (by omega),zP _ _ (by omega)]
 exact key _ rfl rfl
def yBq (k:Nat) (names:List ByteArray):List AV:=(names.zipIdx k).flatMap fun p=>[ss p.1,ii p.2]
theorem zPj (k:Nat) (s:ByteArray) (r:List ByteArray):yBq k (s::r)=.v (.string s) :: .v (.int .i64 (k:Int))::yBq (k+1) r:=by simp[yBq,ss,ii]
theorem yDy:∀(names:List ByteArray) (k:Nat),mok (yBq k names)
 | [],_=>trivial
 | s::r,k=>by rw[zPj];exact yDy r (k+1)
theorem zSu (z:ByteArray):∀(names:List ByteArray) (k:Nat),(names.findIdx (· == z)<names.length→zBn z (yBq k names)=some (.v (.int .i64 ((k+names.findIdx (· == z):Nat):Int))))∧(¬names.findIdx (· == z)<names.length→zBn z (yBq k names)=none∧∀n,zEu z n (yBq k names)=yBq k names++[.v (.string z),n])
 | [],k=>⟨fun h=>by simp at h,fun _=>⟨rfl,fun _=>rfl⟩⟩
 | s::r,k=>by
  rw[zPj];have hsym:(z==s)=(s==z):=by
   cases h1:(z==s)with
   | true=>rw[zD6]at h1;subst h1;symm;rw[zD6]
   | false =>
    cases h2:(s==z)with
    | true=>rw[zD6]at h2;subst h2;rw[show (s==s)=true by rw[zD6]]at h1;cases h1
    | false=>rfl
  obtain⟨i1,i2⟩:=zSu z r (k+1);cases h:(s==z)with
  | true =>
   refine⟨fun _ => ?_,fun hn => ?_⟩
   ·simp[zBn,hsym,h,List.findIdx_cons]
   ·simp[List.findIdx_cons,h]at hn
  | false =>
   have hf:(s::r).findIdx (· == z)=r.findIdx (· == z)+1:=by simp[List.findIdx_cons,h]
   rw[hf];refine⟨fun hl => ?_,fun hn => ?_⟩
   ·have:=i1 (by simpa using hl)
    simp only[zBn,hsym,h,yO,if_false,this];congr 3;omega
   ·obtain⟨j1,j2⟩:=i2 (by simpa using hn)
    refine⟨by simp only[zBn,hsym,h,yO,if_false,j1],fun n => ?_⟩
    simp only[zEu,hsym,h,yO,if_false,j2];rfl
theorem yBp (names:List ByteArray) (z:ByteArray):mpc names++[.v (.string z),.v (.int .i64 (names.length:Int))]=mpc (names++[z]):=by
 simp[mpc,List.zipIdx_append,ss,ii]
theorem CS.addcol {h h':Heap} {G:Nat→Prop} {n n' m mm w u:Nat} {tys:List Ty} {sa ca la x:AV} {code:List Ins} {names:List ByteArray} {name:ByteArray} {cs:List AV} (c:CS h G n m tys sa ca la mm code names) (hm:h' m=some ⟨[sa,ca,.s w u 0 (names.length+1),.mv mm 0],0,true,4⟩) (hsc:rd zE7 h' sa=some tys)
  (hoth:∀q,G q→q<n→q≠m→q≠mm→¬sid la q→h' q=h q) (hn:n≤n') (hmm:h' mm=some ⟨mpc (names++[name]),0,true,0⟩)
  (hw:h' w=some ⟨cs++[x],u,true,1⟩) (hcs:(la=.v (.slice none 0 0)∧cs=[])∨∃u0,la=.s w u0 0 names.length∧h w=some ⟨cs,u0,true,1⟩) (hwn:(la=.v (.slice none 0 0)∧n≤w)∨¬la=.v (.slice none 0 0)) (hw1:G w) (hw2:w<n') (hw3:w≠m) (hw4:w≠mm) (hG:∀q,n≤q→G q) (hk:KC h' (fun q=>n≤q) n' (fun b=>b=w) x (zEc tys name)) :
  CS h' G n' m tys sa ca (.s w u 0 (names.length+1)) mm code (names++[name]):=by
 obtain⟨x1,x2,x3,x4,x5,x6,x7⟩:=c;have hnw:¬sid ca w:=by
  rcases x5 with ⟨_,k0⟩|⟨w0,u0,cs0,k1,k2,k3,k4,k5,k6,k7,_⟩
  ·rcases hwn with ⟨_,hnw⟩|hx
   ·rcases x4 with ⟨_,rfl⟩|⟨wc,uc,rfl,_,_,j,_⟩
    ·exact id
    ·intro e;simp only[sid]at e;omega
   ·exact absurd k0 hx
  ·rcases hcs with ⟨e,_⟩|⟨u9,e,_⟩
   ·rw[k1]at e;cases e
   ·rw[k1]at e
    simp only[AV.s.injEq]at e;obtain⟨rfl,_⟩:=e;exact k7
 refine⟨hm,⟨x2.1,by omega⟩,hsc,?_,.inr ⟨w,u,cs++[x],by simp,hw,hw1,hw2,hw3,hw4,hnw,?_⟩,hmm,⟨x7.1,by omega,x7.2.2⟩⟩
 ·rcases x4 with h0|⟨wc,uc,k1,k2,k3,k4,k5,k6⟩
  ·exact .inl h0
  ·refine .inr ⟨wc,uc,k1,?_,k3,by omega,k5,k6⟩
   rw[hoth wc k3 k4 k5 k6]
   ·exact k2
   ·rcases x5 with ⟨_,rfl⟩|⟨w0,u0,cs0,j1,_,_,_,_,_,j7,_⟩
    ·exact id
    ·rw[j1]
     intro e;simp only[sid]at e;subst e;rw[k1]at j7;exact j7 rfl
 ·have hlen:cs.length=names.length:=by
   rcases x5 with ⟨rfl,k0⟩|⟨w0,u0,cs0,k1,k2,_,_,_,_,_,k8,_⟩
   ·rcases hcs with ⟨_,rfl⟩|⟨u9,e,_⟩
    ·rfl
    ·rw[k0]at e;cases e
   ·rcases hcs with ⟨e,_⟩|⟨u9,e,e2⟩
    ·rw[k1]at e;cases e
    ·rw[k1]at e
     simp only[AV.s.injEq]at e;obtain⟨rfl,rfl,_⟩:=e;rw[k2]at e2;cases e2;exact k8
  refine⟨by simp[hlen],fun i hi => ?_⟩
  have hi':i<names.length+1:=by simpa using hi
  by_cases e:i=names.length
  ·subst e
   refine⟨x,by rw[yG (by omega),hlen,zC7];rfl,?_⟩
   simp only[List.getElem_append_right (zC _),zC7,List.getElem_cons_zero];rcases hk with h0|⟨b,v,k1,k2,k3,k4,k5⟩
   ·exact .inl h0
   ·refine .inr ⟨b,v,k1,k2,hG b k3,k4,fun hx => ?_⟩
    rcases hx with hx|hx|hx|hx|⟨j,cc,hj,hcc,hsd⟩
    ·have:=x2.2;omega
    ·have:=x7.2.1;omega
    ·rcases x4 with ⟨_,rfl⟩|⟨wc,uc,rfl,_,_,j,_⟩
     ·exact hx
     ·simp only[sid]at hx;omega
    ·exact k5 hx
    ·rw[zL (by omega)]at hcc
     rcases x5 with ⟨rfl,_⟩|⟨w0,u0,cs0,e1,e2,_,_,_,_,_,k8,k9⟩
     ·simp at hj
     ·rcases hcs with ⟨e3,_⟩|⟨u9,e3,e4⟩
      ·rw[e1]at e3;cases e3
      ·rw[e1]at e3
       simp only[AV.s.injEq]at e3;obtain⟨rfl,rfl,_⟩:=e3;rw[e2]at e4;cases e4;obtain⟨cc',j1,j2⟩:=k9 j hj;rw[hcc]at j1;cases j1;rcases j2 with ⟨_,rfl⟩|⟨b',v',rfl,_,_,j3,_⟩
       ·exact hsd
       ·simp only[sid]at hsd
        omega
  ·have hlt:i<names.length:=by omega
   rcases x5 with ⟨rfl,_⟩|⟨w0,u0,cs0,k1,k2,k3,k4,k5,k6,k7,k8,k9⟩
   ·simp at hlt
   ·rcases hcs with ⟨e1,_⟩|⟨u9,e1,e2⟩
    ·rw[k1]at e1;cases e1
    ·rw[k1]at e1
     simp only[AV.s.injEq]at e1;obtain⟨rfl,rfl,_⟩:=e1;rw[k2]at e2;cases e2;obtain⟨cc,j1,j2⟩:=k9 i hlt;refine⟨cc,by rw[zL (by omega)];exact j1,?_⟩
     rw[List.getElem_append_left hlt];refine j2.up (fun q h1 h2 h3=>hoth q h1 h2 (fun e=>h3 (.inl e)) (fun e=>h3 (.inr (.inl e))) (by rw[k1];intro e;simp only[sid]at e;exact h3 (.inr (.inr (.inr (.inl e.symm)))))) (fun q _ _ hx => ?_) hn
     rcases hx with hx|hx|hx|hx|⟨j,c',hj,hc',hsd⟩
     ·exact .inl hx
     ·exact .inr (.inl hx)
     ·exact .inr (.inr (.inl hx))
     ·exact .inr (.inr (.inr (.inl hx)))
     ·rw[zL (by omega)]at hc'
      exact .inr (.inr (.inr (.inr ⟨j,c',hj,hc',hsd⟩)))
def zI8 (names:List ByteArray) (z:ByteArray):List ByteArray:=if names.findIdx (· == z)<names.length then names else names++[z]
theorem yJn (names:List ByteArray) (z:ByteArray):wY (zI8 names z) z=if names.findIdx (· == z)<names.length then (names.findIdx (· == z):Int)else (names.length:Int):=by
 unfold zI8;split
 ·rename_i h
  rw[wY,if_pos h]
 ·rename_i h
  have hall:∀i (hi:i<names.length),(names[i]==z)=false:=fun i hi=>by
   cases hz:(names[i]==z)with
   | false=>rfl
   | true=>exact absurd (List.findIdx_lt_length_of_exists ⟨names[i],zH hi,hz⟩) h
  have hf:(names++[z]).findIdx (· == z)=names.length:=by
   refine (List.findIdx_eq (by simp)).2 ⟨?_,fun j hj => ?_⟩
   ·rw[List.getElem_append_right (zC _)]
    simp only[zC7,List.getElem_cons_zero];rw[zD6]
   ·rw[List.getElem_append_left hj]
    exact hall j hj
  rw[wY,hf,if_pos (by simp)]
theorem zVn {tys:List Ty} {name:ByteArray} {j:Nat} (hj:j<tys.length):(zEc tys name).take (j+1)=(zEc tys name).take j++[zCn tys (j:Int) name]:=by
 rw[zEo];congr 1;simp[zEc,hj]
def yEw:List (FuncId×(List AV→Heap→PRes)):=[(116,GAt)]
theorem yEv:zQh [] yEw:=zS yM1 yJ
theorem yJk {h:Heap} {G:Nat→Prop} {hi m mm:Nat} {tys:List Ty} {sa ca la:AV} {code:List Ins} {names:List ByteArray} (c:CS h G hi m tys sa ca la mm code names):la.isS∧la.slen=names.length∧(∀g,AV.unc g la=la)∧la.one∧la.cells=[la]:=by
 rcases c.hl with ⟨rfl,rfl⟩|⟨w,u,cs,rfl,_⟩
 ·exact⟨⟨rfl,rfl⟩,rfl,fun _=>rfl,rfl,rfl⟩
 ·exact⟨trivial,rfl,fun _=>rfl,trivial,rfl⟩
theorem yHq {h:Heap} {G:Nat→Prop} {hi m mm:Nat} {tys:List Ty} {sa ca la:AV} {code:List Ins} {names:List ByteArray} (c:CS h G hi m tys sa ca la mm code names):ca.isS∧ca.slen=code.length∧(∀g,AV.unc g ca=ca)∧ca.one∧ca.cells=[ca]:=by
 rcases c.hc with ⟨rfl,rfl⟩|⟨w,u,rfl,_⟩
 ·exact⟨⟨rfl,rfl⟩,rfl,fun _=>rfl,rfl,rfl⟩
 ·exact⟨trivial,rfl,fun _=>rfl,trivial,rfl⟩
theorem c93 {h:Heap} {G:Nat→Prop} {n m mm:Nat} {tys:List Ty} {sa ca la:AV} {code:List Ins} {names:List ByteArray} (c:CS h G n m tys sa ca la mm code names) (name:ByteArray) (hlen:(names.length+1)*24≤140737488355328) (htl:tys.length*8≤140737488355328) (hst:zCa tys) (hG:∀q,n≤q→G q) (hsc:∀h',zEb G n h h'→rd zE7 h' sa=some tys) (hn:Fresh n h) :
  ACall (cx [] (pfL yEw)) 164 [.p m 0 0,ss name] h n fun z h' n'=>zEb G n h h'∧Fresh n' h'∧n≤n'∧z=ii (wY (zI8 names name) name)∧∃la',CS h' G n' m tys sa ca la' mm code (zI8 names name):=by
 refine yR (args:=[.p m 0 0,ss name]) (zAr yEv) (zB3 _ _) Tryz.func164 (c:=Tryz.f164.body.getD .skip) rfl (by kernel_rfl) (xK Tryz.func164 rfl rfl _ _) (show 2≤Tryz.f164.ntmps by decide +kernel) ?_
 have hix:=yJn names name;obtain⟨mf1,mf2⟩:=zSu name names 0;have hmp0:yBq 0 names=mpc names:=rfl;have hmk:mok (mpc names):=yDy names 0;rw[hmp0]at mf1 mf2;simp only[yQ]at mf1;obtain⟨l1,l2,l3,l4,l5⟩:=yJk c;obtain⟨k1,k2,k3,k4,k5⟩:=yHq c;have t4:=(zN c.sch).2.2.2.1;have t2:=(zN c.sch).2.1;have t1:=(zN c.sch).1;have t3:=(zN c.sch).2.2.1;have key:∀e:Nat→AV,e 0=.p m 0 0→e 1=ss name→awp (cx [] (pfL yEw)) (Tryz.f164.body.getD .skip) (zBc (cx [] (pfL yEw)) Tryz.f164 fun z h' n'=>zEb G n h h'∧Fresh n' h'∧n≤n'∧z=ii (wY (zI8 names name) name)∧∃la',CS h' G n' m tys sa ca la' mm code (zI8 names name)) ⟨e,h,n⟩:=fun e q0 q1=>by
  have c0:=c;obtain⟨hm,m1,hsc0,hc,hl,mp,mm1⟩:=c;by_cases hf:names.findIdx (· == name)<names.length
  ·have hmf:=mf1 hf
   have ha:zI8 names name=names:=if_pos hf;rw[if_pos hf,ha]at hix;simp[evx,Tryz.f164,q0,q1,ii,ss,hm,mp,hmk,hmf,ha,hix];exact⟨fun _ _ _=>rfl,hn,la,c0⟩
  ·obtain⟨hmf,hms⟩:=mf2 hf
   have ha:zI8 names name=names++[name]:=if_neg hf;rw[if_neg hf]at hix;rw[ha]at hix ⊢;have gsc:∀h'',agree n h h''→zIp h'' (.g [sa])=some tys:=fun h'' hag=>hsc h'' (fun j hj _=>hag j hj)
   simp[evx,Tryz.f164,q0,q1,ii,ss,hm,mp,hmk,hmf,t1,t2];refine yN (fun s=>∃j,j≤tys.length∧s.e 0=.p m 0 0∧s.e 1=ss name∧s.e 26=ii tys.length∧s.e 27=ii j∧Own s.h n s.n (s.e 7) j (((zEc tys name).take j).map ii) 1∧agree n h s.h∧Fresh s.n s.h∧n≤s.n) (fun s=>tys.length-(s.e 27).i.toNat) ⟨0,by simp[up,q0,q1,ii,ss,zE,Own,hn]⟩ ?_
   rintro e' h' n' ⟨j,hj,q0,q1,q26,q27,hown,hag,hfr,hnn⟩;simp only[]at q0 q1 q26 q27 hown hag hfr hnn;have hm':h' m=some ⟨[sa,ca,la,.mv mm 0],0,true,4⟩:=by rw[hag m m1.2];exact hm
   have hmp':h' mm=some ⟨mpc names,0,true,0⟩:=by rw[hag mm mm1.2.1];exact mp
   by_cases hlt:j<tys.length
   ·have hw:=yK (j:=j) (by unfold big;omega)
    have hct:=zVn (name:=name) hlt;have hcl:(((zEc tys name).take j).map ii).length=j:=by rw[zQ,zW,zH4];omega
    have hb3:(j+1)*8≤140737488355328:=by omega
    have hb4:j≤9223372036854775806:=by omega
    have hb5:j+1≤9223372036854775807:=by omega
    have y0:¬m=n':=by omega
    have f0:n≤n'+1:=by omega
    have hct2:((zEc tys name).map ii).take (j+1)=((zEc tys name).take j).map ii++[ii (zCn tys (j:Int) name)]:=by rw[←List.map_take,hct,yE];rfl
    generalize hat:zCn tys (j:Int) name=at9 at *;generalize (zEc tys name).take j=tk at *;rcases hown with ⟨hj0,hnil,q7⟩|⟨w,u,q7,hk3,hw1,hw2⟩
    ·simp[evx,q0,q1,q7,q26,q27,ii,ss,hlt,hm',yEw,GAt,yH,zY9,gsc,hag,hst,hat,hw,zD,hnn,f0,zF,hfr.add]
     exact⟨⟨j+1,by omega,by omega,.inr ⟨n'+1,0,by rw[hj0],by rw[zJ,hct2,hnil];rfl,by omega,by omega⟩,by omega⟩,by omega⟩
    ·have z1:¬w=n':=by omega
     have z2:w<n'+2:=by omega
     simp[evx,q0,q1,q7,q26,q27,ii,ss,hlt,hm',yEw,GAt,yH,zY9,gsc,hag,hst,hat,hw,hb3,hb5,hk3,hcl,z1,z2,hw1,zD,hnn,zF,hfr.add];exact⟨⟨j+1,by omega,by omega,.inr ⟨w,u+1,rfl,by rw[zJ,hct2];rfl,by omega,by omega⟩,by omega⟩,by omega⟩
   ·obtain rfl:j=tys.length:=by omega
    have htk:(zEc tys name).take tys.length=zEc tys name:=yX (by rw[zH4];exact zC _)
    rw[htk]at hown;have hsn:=yBp names name;have hms1:=hms (.v (.int .i64 (names.length:Int)));rw[hsn]at hms1;have y0:¬m=n':=by omega
    have y1:¬mm=n':=by omega
    have y2:¬m=mm:=fun e=>mm1.2.2 e.symm
    have y3:¬mm=m:=mm1.2.2;have y4:¬m=n'+1:=by omega
    have y5:¬m=n'+2:=by omega
    have hb6:names.length≤9223372036854775806:=by omega
    have s7:(e' 7).one∧(∀g,AV.unc g (e' 7)=e' 7)∧(e' 7).cells=[e' 7]:=by
     rcases hown with ⟨_,_,q7⟩|⟨w,u,q7,_⟩
     ·rw[q7];exact⟨rfl,fun _=>rfl,rfl⟩
     ·rw[q7];exact⟨trivial,fun _=>rfl,rfl⟩
    obtain⟨r1,r2,r3⟩:=s7;obtain⟨z7,q7⟩:∃z,e' 7=z:=⟨_,rfl⟩;rw[q7]at hown r1 r2 r3;have kc:∀(H:Heap) (w:Nat) (hi:Nat),(∀q,n≤q→q<n'→q≠w→H q=h' q)→n'≤hi→(w<n∨n'≤w)→KC H (fun q=>n≤q) hi (fun b=>b=w) z7 (zEc tys name):=fun H w hi hH hhi hw9=>by
     rcases hown with ⟨d0,dnil,d1⟩|⟨b,v,d1,d2,d3,d4⟩
     ·exact .inl ⟨by simpa using dnil,d1⟩
     ·exact .inr ⟨b,v,by rw[d1,zH4],by rw[hH b d3 d4 (by omega)];exact d2,d3,by omega,by omega⟩
    rcases hl with ⟨h0,rfl⟩|⟨w,u,cs,rfl,x2,x3,x4,x5,x6,x7,x8,x9⟩
    ·subst h0
     have hms2:zEu name (.v (.int .i64 0)) (mpc [])=mpc ([]++[name]):=by simpa using hms1
     have f3:mm<n'+4:=by omega
     have f4:m<n'+4:=by omega
     have f5:n≤n'+4:=by omega
     have hH:∀b1 b2 b3 b4:Option Blk,∀q,q≠mm→q≠n'+1→q≠n'+2→q≠m→up (up (up (up h' mm b1) (n'+1) b2) (n'+2) b3) m b4 q=h' q:=fun b1 b2 b3 b4 q w1 w2 w3 w4=>by rw[zP _ _ w4,zP _ _ w3,zP _ _ w2,zP _ _ w1]
     have hagH:∀b1 b2 b3 b4:Option Blk,zEb G n h (up (up (up (up h' mm b1) (n'+1) b2) (n'+2) b3) m b4):=fun b1 b2 b3 b4 q hq hg=>by rw[hH _ _ _ _ q (fun e=>hg (by rw[e];exact mm1.1)) (by omega) (by omega) (fun e=>hg (by rw[e];exact m1.1))];exact hag q hq
     simp[evx,q0,q1,q7,q26,q27,ii,ss,hm',hmp',hmk,y2,y4,y5,r1,r3,hms2,zF,hfr.add,f3,f4,f5];refine⟨hagH _ _ _ _,by simpa using hix.symm,.s (n'+2) 0 0 1,CS.addcol (cs:=[]) (x:=z7) c0 (by simp[up]) (hsc _ (hagH _ _ _ _)) (fun q p1 p2 p3 p4 _ => ?_) f5 ?_ ?_ (.inl ⟨rfl,rfl⟩) (.inl ⟨rfl,by omega⟩) (hG _ (by omega)) (by omega) (by have:=m1.2;omega) (by have:=mm1.2.1;omega) hG (kc _ _ _ (fun q p1 p2 p3 => ?_) (by omega) (.inr (by omega)))⟩
     ·rw[hH _ _ _ _ q p4 (by omega) (by omega) p3];exact hag q p2
     ·rw[zP _ _ mm1.2.2,zP _ _ (by omega),zP _ _ (by omega),zJ];rfl
     ·rw[zP _ _ (by omega),zJ];rfl
     ·rw[hH _ _ _ _ q (by omega) (by omega) p3 (by omega)]
    ·have x10:¬w=mm:=x6
     have hw':h' w=some ⟨cs,u,true,1⟩:=by rw[hag w x4];exact x2
     have x11:¬w=n'+1:=by omega
     have x12:¬m=w:=fun e=>x5 e.symm
     have f3:mm<n'+4:=by omega
     have f4:m<n'+4:=by omega
     have f5:n≤n'+4:=by omega
     have f6:w<n'+4:=by omega
     have hH:∀b1 b2 b3 b4:Option Blk,∀q,q≠mm→q≠n'+1→q≠w→q≠m→up (up (up (up h' mm b1) (n'+1) b2) w b3) m b4 q=h' q:=fun b1 b2 b3 b4 q w1 w2 w3 w4=>by rw[zP _ _ w4,zP _ _ w3,zP _ _ w2,zP _ _ w1]
     have hagH:∀b1 b2 b3 b4:Option Blk,zEb G n h (up (up (up (up h' mm b1) (n'+1) b2) w b3) m b4):=fun b1 b2 b3 b4 q hq hg=>by rw[hH _ _ _ _ q (fun e=>hg (by rw[e];exact mm1.1)) (by omega) (fun e=>hg (by rw[e];exact x3)) (fun e=>hg (by rw[e];exact m1.1))];exact hag q hq
     simp[evx,q0,q1,q7,q26,q27,ii,ss,hm',hmp',hmk,y2,y4,r1,r3,hb6,hw',x10,x11,x12,x8,hlen,hms1,zF,hfr.add,f3,f4,f5,f6];refine⟨hagH _ _ _ _,hix.symm,.s w (u+1) 0 (names.length+1),CS.addcol (cs:=cs) (x:=z7) c0 (by simp[up]) (hsc _ (hagH _ _ _ _)) (fun q p1 p2 p3 p4 p5 => ?_) f5 ?_ ?_ (.inr ⟨u,rfl,x2⟩) (.inr (by simp)) x3 (by omega) x5 x6 hG (kc _ _ _ (fun q p1 p2 p3 => ?_) (by omega) (.inl x4))⟩
     ·rw[hH _ _ _ _ q p4 (by omega) (fun e=>p5 (by simp only[sid];exact e.symm)) p3];exact hag q p2
     ·rw[zP _ _ mm1.2.2,zP _ _ (fun e=>x6 e.symm),zP _ _ (by omega),zJ]
     ·rw[zP _ _ x5,zJ]
     ·rw[hH _ _ _ _ q (by omega) (by omega) p3 (by omega)]
 exact key _ rfl rfl
theorem CS.up {h h':Heap} {G:Nat→Prop} {n n' m mm:Nat} {tys:List Ty} {sa ca la:AV} {code:List Ins} {names:List ByteArray} (c:CS h G n m tys sa ca la mm code names) (hf:Fresh n h) (ha:agree n h h') (hn:n≤n'):CS h' G n' m tys sa ca la mm code names:=by
 obtain⟨x1,x2,x3,x4,x5,x6,x7⟩:=c;refine⟨by rw[ha m x2.2];exact x1,⟨x2.1,by omega⟩,yT hf x3 _ ha,?_,?_,by rw[ha mm x7.2.1];exact x6,⟨x7.1,by omega,x7.2.2⟩⟩
 ·rcases x4 with h0|⟨w,u,k1,k2,k3,k4,k5⟩
  ·exact .inl h0
  ·exact .inr ⟨w,u,k1,by rw[ha w k4];exact k2,k3,by omega,k5⟩
 ·rcases x5 with h0|⟨w,u,cs,k1,k2,k3,k4,k5,k6,k7,k8,k9⟩
  ·exact .inl h0
  ·refine .inr ⟨w,u,cs,k1,by rw[ha w k4];exact k2,k3,by omega,k5,k6,k7,k8,fun i hi => ?_⟩
   obtain⟨cc,j1,j2⟩:=k9 i hi;exact⟨cc,j1,j2.up (fun q _ hq _=>ha q hq) (fun _ _ _ hx=>hx) hn⟩
theorem KC.wk {h:Heap} {G G':Nat→Prop} {hi:Nat} {bad:Nat→Prop} {c:AV} {l:List Int} (k:KC h G hi bad c l) (hg:∀q,G q→q<hi→G' q):KC h G' hi bad c l:=by
 rcases k with h0|⟨b,v,k1,k2,k3,k4,k5⟩
 ·exact .inl h0
 ·exact .inr ⟨b,v,k1,k2,hg b k3 k4,k4,k5⟩
theorem CS.wk {h:Heap} {G G':Nat→Prop} {n m mm:Nat} {tys:List Ty} {sa ca la:AV} {code:List Ins} {names:List ByteArray} (c:CS h G n m tys sa ca la mm code names) (hg:∀q,G q→q<n→G' q):CS h G' n m tys sa ca la mm code names:=by
 obtain⟨x1,x2,x3,x4,x5,x6,x7⟩:=c;refine⟨x1,⟨hg _ x2.1 x2.2,x2.2⟩,x3,?_,?_,x6,⟨hg _ x7.1 x7.2.1,x7.2⟩⟩
 ·rcases x4 with h0|⟨w,u,k1,k2,k3,k4,k5⟩
  ·exact .inl h0
  ·exact .inr ⟨w,u,k1,k2,hg w k3 k4,k4,k5⟩
 ·rcases x5 with h0|⟨w,u,cs,k1,k2,k3,k4,k5,k6,k7,k8,k9⟩
  ·exact .inl h0
  ·refine .inr ⟨w,u,cs,k1,k2,hg w k3 k4,k4,k5,k6,k7,k8,fun i hi => ?_⟩
   obtain⟨cc,j1,j2⟩:=k9 i hi;exact⟨cc,j1,j2.wk hg⟩
def zPa (names:List ByteArray) (it:Int) (x:Nd):Ins :=
 if x.op=1 then ⟨1,0,0,x.n,0⟩else if x.op=2 then ⟨1,0,0,1,0⟩else if x.op=3 then ⟨1,0,0,0,0⟩
 else if x.op=4 then ⟨2,it,wY names x.attr,0,0⟩else if x.op=11 then ⟨3,it,wY names x.attr,0,0⟩else if x.op=5 then ⟨4,it,0,0,0⟩
 else if x.op<11 then ⟨x.op-1,it,wY names x.attr,0,0⟩else ⟨x.op-2,0,0,0,0⟩
def zLh (names:List ByteArray) (x:Nd):List ByteArray:=if 4≤x.op∧x.op≤11∧x.op≠5 then zI8 names x.attr else names
theorem c55 {h:Heap} {G:Nat→Prop} {n m mm:Nat} {tys:List Ty} {sa ca la:AV} {code:List Ins} {names:List ByteArray} (c:CS h G n m tys sa ca la mm code names) (x:Nd) (it:Int) (hop:1≤x.op∧x.op≤26) (hcl:(code.length+1)*40≤140737488355328) (hlen:(names.length+1)*24≤140737488355328) (htl:tys.length*8≤140737488355328) (hst:zCa tys)
  (hG:∀q,n≤q→G q) (hsc:∀h',zEb G n h h'→rd zE7 h' sa=some tys) (hn:Fresh n h) :
  ACall (cx [] (pfL [])) 120 [.p m 0 0,nn x,ii it] h n fun _ h' n'=>zEb G n h h'∧Fresh n' h'∧n≤n'∧∃ca' la',CS h' G n' m tys sa ca' la' mm (code++[zPa (zLh names x) it x]) (zLh names x):=by
 refine yR (args:=[.p m 0 0,nn x,ii it]) (zAr yJ) (zB3 _ _) Tryz.func120 (c:=Tryz.f120.body.getD .skip) rfl (by kernel_rfl) (xK Tryz.func120 rfl rfl _ _) (show 3≤Tryz.f120.ntmps by decide +kernel) ?_
 obtain⟨op,num,var,attr,xa,xb⟩:=x;simp only[]at hop;obtain⟨hop1,hop2⟩:=hop;have hkeep:∀(b:Option Blk) (h2:Heap) (n2:Nat),n+1≤n2→zEb G (n+1) (Eng.up h n b) h2→zEb G n h h2:=fun b h2 n2 _ k q hq hg=>by rw[k q (by omega) hg,zP _ _ (by omega)]
 have L1:∀(b:Option Blk) (I:Ins),ACall (cx [] (pfL [])) 121 [.p m 0 0,iv I] (Eng.up h n b) (n+1) fun _ h' n'=>zEb G n h h'∧Fresh n' h'∧n≤n'∧∃ca' la',CS h' G n' m tys sa ca' la' mm (code++[I]) names:=fun b I =>
  (c56 (c.up hn (by simp[zD,zE]) (Nat.le_succ n)) I hcl (fun q hq=>hG q (by omega)) (fun h' k=>hsc h' (hkeep b h' (n+1) (zC _) k)) ((zF (by omega) _).2 (hn.add 1))).mono fun v h2 n2 ⟨a1,a2,a3,ca',a4⟩=>⟨hkeep b h2 n2 a3 a1,a2,by omega,ca',la,a4⟩
 have hkeep':∀(b:Option Blk) (h2:Heap) (n2:Nat),n+1≤n2→zEb (fun q=>G q∧q≠n) (n+1) (Eng.up h n b) h2→zEb G n h h2∧h2 n=b:=fun b h2 n2 _ k=>⟨fun q hq hg=>by rw[k q (by omega) (fun hx=>hg hx.1),zP _ _ (by omega)],by rw[k n (by omega) (fun hx=>hx.2 rfl),zJ]⟩
 have L2:∀(b:Option Blk),ACall (cx [] (pfL yEw)) 164 [.p m 0 0,ss attr] (Eng.up h n b) (n+1) fun z h' n'=>zEb G n h h'∧h' n=b∧Fresh n' h'∧n+1≤n'∧z=ii (wY (zI8 names attr) attr)∧∃la',CS h' (fun q=>G q∧q≠n) n' m tys sa ca la' mm code (zI8 names attr):=fun b =>
  (c93 ((c.wk (G':=fun q=>G q∧q≠n) (fun q hq hl=>⟨hq,by omega⟩)).up hn (by simp[zD,zE]) (Nat.le_succ n)) attr hlen htl hst (fun q hq=>⟨hG q (by omega),by omega⟩) (fun h' k=>hsc h' (hkeep' b h' (n+1) (zC _) k).1) ((zF (by omega) _).2 (hn.add 1))).mono fun v h2 n2 ⟨a1,a2,a3,a4,la',a5⟩=>⟨(hkeep' b h2 n2 a3 a1).1,(hkeep' b h2 n2 a3 a1).2,a2,a3,a4,la',a5⟩
 have L3:∀(h2:Heap) (n2:Nat) (la':AV) (names':List ByteArray) (I:Ins),zEb G n h h2→Fresh n2 h2→n+1≤n2→CS h2 (fun q=>G q∧q≠n) n2 m tys sa ca la' mm code names'→ACall (cx [] (pfL [])) 121 [.p m 0 0,iv I] h2 n2 fun _ h' n'=>h' n=h2 n∧zEb G n h h'∧Fresh n' h'∧n≤n'∧∃ca' la',CS h' G n' m tys sa ca' la' mm (code++[I]) names':=fun h2 n2 la' names' I k1 k2 k3 k4 =>
  (c56 k4 I hcl (fun q hq=>⟨hG q (by omega),by omega⟩) (fun h' k=>hsc h' (fun q hq hg=>by rw[k q (by omega) (fun hx=>hg hx.1)];exact k1 q hq hg)) k2).mono fun v h3 n3 ⟨a1,a2,a3,ca',a4⟩=>⟨a1 n (by omega) (fun hx=>hx.2 rfl),fun q hq hg=>by rw[a1 q (by omega) (fun hx=>hg hx.1)];exact k1 q hq hg,a2,by omega,ca',la',a4.wk fun q hq _=>hq.1⟩
 have key:∀e:Nat→AV,e 0=.p m 0 0→e 1=nn ⟨op,num,var,attr,xa,xb⟩→e 2=ii it→awp (cx [] (pfL [])) (Tryz.f120.body.getD .skip) (zBc (cx [] (pfL [])) Tryz.f120 fun _ h' n'=>zEb G n h h'∧Fresh n' h'∧n≤n'∧∃ca' la',CS h' G n' m tys sa ca' la' mm (code++[zPa (zLh names ⟨op,num,var,attr,xa,xb⟩) it ⟨op,num,var,attr,xa,xb⟩]) (zLh names ⟨op,num,var,attr,xa,xb⟩)) ⟨e,h,n⟩:=fun e q0 q1 q2=>by
  by_cases o1:op=1
  ·subst o1
   simp[evx,Tryz.f120,q0,q1,nn,yC,ii,ss];refine (wD (S:=[]) (by simp) (L1 _ ⟨1,0,0,num,0⟩)).mono ?_
   rintro v h2 n2 ⟨a1,a2,a3,ca',la',a4⟩;exact⟨a1,a2,a3,ca',la',a4⟩
  by_cases o2:op=2
  ·subst o2
   simp[evx,Tryz.f120,q0,q1,nn,yC,ii,ss];refine (wD (S:=[]) (by simp) (L1 _ ⟨1,0,0,1,0⟩)).mono ?_
   rintro v h2 n2 ⟨a1,a2,a3,ca',la',a4⟩;exact⟨a1,a2,a3,ca',la',a4⟩
  by_cases o3:op=3
  ·subst o3
   simp[evx,Tryz.f120,q0,q1,nn,yC,ii,ss];refine (wD (S:=[]) (by simp) (L1 _ ⟨1,0,0,0,0⟩)).mono ?_
   rintro v h2 n2 ⟨a1,a2,a3,ca',la',a4⟩;exact⟨a1,a2,a3,ca',la',a4⟩
  by_cases o4:op=4
  ·subst o4
   have hax:zLh names ⟨4,num,var,attr,xa,xb⟩=zI8 names attr:=by simp[zLh]
   rw[hax];simp[evx,Tryz.f120,q0,q1,q2,nn,yC,ii,ss];refine (wD (S:=[]) (by simp) (L2 _)).mono ?_
   rintro v h2 n2 ⟨a1,a0,a2,a3,rfl,la',a4⟩;simp[evx,ii];refine (wD (S:=[]) (by simp) (L3 h2 n2 la' _ ⟨2,it,wY (zI8 names attr) attr,0,0⟩ a1 a2 a3 a4)).mono ?_
   rintro v h3 n3 ⟨b0,b1,b2,b3,ca',la'',b4⟩;exact⟨b1,b2,b3,ca',la'',b4⟩
  by_cases o11:op=11
  ·subst o11
   have hax:zLh names ⟨11,num,var,attr,xa,xb⟩=zI8 names attr:=by simp[zLh]
   rw[hax];simp[evx,Tryz.f120,q0,q1,q2,nn,yC,ii,ss];refine (wD (S:=[]) (by simp) (L2 _)).mono ?_
   rintro v h2 n2 ⟨a1,a0,a2,a3,rfl,la',a4⟩;simp[evx,ii];refine (wD (S:=[]) (by simp) (L3 h2 n2 la' _ ⟨3,it,wY (zI8 names attr) attr,0,0⟩ a1 a2 a3 a4)).mono ?_
   rintro v h3 n3 ⟨b0,b1,b2,b3,ca',la'',b4⟩;exact⟨b1,b2,b3,ca',la'',b4⟩
  by_cases o5:op=5
  ·subst o5
   have hax:zLh names ⟨5,num,var,attr,xa,xb⟩=names:=by simp[zLh]
   rw[hax];simp[evx,Tryz.f120,q0,q1,q2,nn,yC,ii,ss];refine (wD (S:=[]) (by simp) (L1 _ ⟨4,it,0,0,0⟩)).mono ?_
   rintro v h2 n2 ⟨a1,a2,a3,ca',la',a4⟩;exact⟨a1,a2,a3,ca',la',a4⟩
  by_cases o10:op<11
  ·have hax:zLh names ⟨op,num,var,attr,xa,xb⟩=zI8 names attr:=by
    unfold zLh;rw[if_pos ⟨by simp only[];omega,by simp only[];omega,o5⟩]
   have how:zPa (zI8 names attr) it ⟨op,num,var,attr,xa,xb⟩=⟨op-1,it,wY (zI8 names attr) attr,0,0⟩:=by
    unfold zPa;rw[if_neg o1,if_neg o2,if_neg o3,if_neg o4,if_neg o11,if_neg o5,if_pos o10]
   rw[hax,how];have w1:IntKind.i64.wrap (op-6)=op-6:=zMq (by unfold Rng;omega)
   have w2:IntKind.i64.wrap (5+(op-6))=op-1:=(zMq (by unfold Rng;omega)).trans (by omega)
   simp[evx,Tryz.f120,q0,q1,q2,nn,yC,ii,ss,o1,o2,o3,o4,o11,o5,o10,w1,w2];refine (wD (S:=[]) (by simp) (L2 _)).mono ?_
   rintro v h2 n2 ⟨a1,a0,a2,a3,rfl,la',a4⟩;simp[evx,ii];refine⟨.inr ⟨rfl,fun t ht => ?_⟩,?_⟩
   ·simp[wZ]at ht
    rcases ht with ht|ht<;>subst ht<;>simp[zEy,Eng.up,a0]
   refine (wD (S:=[]) (by simp) (L3 h2 n2 la' _ ⟨op-1,it,wY (zI8 names attr) attr,0,0⟩ a1 a2 a3 a4)).mono ?_
   rintro v h3 n3 ⟨b0,b1,b2,b3,ca',la'',b4⟩;refine⟨.inr ⟨rfl,fun t ht => ?_⟩,?_⟩
   ·simp[wZ]at ht
    rcases ht with ht|ht<;>subst ht<;>simp[zEy,Eng.up,b0,a0]
   exact⟨b1,b2,b3,ca',la'',b4⟩
  ·have hax:zLh names ⟨op,num,var,attr,xa,xb⟩=names:=by
    unfold zLh;rw[if_neg];simp only[];omega
   have how:zPa names it ⟨op,num,var,attr,xa,xb⟩=⟨op-2,0,0,0,0⟩:=by
    unfold zPa;rw[if_neg o1,if_neg o2,if_neg o3,if_neg o4,if_neg o11,if_neg o5,if_neg o10]
   rw[hax,how];have w1:IntKind.i64.wrap (op-12)=op-12:=zMq (by unfold Rng;omega)
   have w2:IntKind.i64.wrap (10+(op-12))=op-2:=(zMq (by unfold Rng;omega)).trans (by omega)
   simp[evx,Tryz.f120,q0,q1,nn,yC,ii,ss,o1,o2,o3,o4,o11,o5,o10,w1,w2];refine (wD (S:=[]) (by simp) (L1 _ ⟨op-2,0,0,0,0⟩)).mono ?_
   rintro v h2 n2 ⟨a1,a2,a3,ca',la',a4⟩;exact⟨a1,a2,a3,ca',la',a4⟩
 exact key _ rfl rfl rfl
end Go.Proofs.YtbffkkeieihpdaaGreatDoor
