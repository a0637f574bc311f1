import Derived.Test.YtbffkkeieihpdaaGreatDoorX15
import Derived.Test.YtbffkkeieihpdaaGreatDoorX14
import Derived.Test.YtbffkkeieihpdaaGreatDoorX13
set_option linter.unusedSimpArgs false
set_option linter.unusedVariables false
set_option linter.constructorNameAsVariable false
set_option maxRecDepth 100000
set_option maxHeartbeats 4000000
namespace Go.Proofs.YtbffkkeieihpdaaGreatDoor
open Go Go.Eng
def beginStep (l:List Int) (x:Nd) (i:Nat):Option (List Int) :=
 if leafB x=true then some (l++[(i:Int)])
 else if x.op=12∨x.op=13 then
  if bareB x=false∨i<1∨x.a≠(i:Int)-1∨x.b≠-1 then none else some (l++[l.getD (i-1) 0])
 else if 14≤x.op∧x.op≤26 then
  if bareB x=false∨i<1∨x.b≠(i:Int)-1∨l.getD (i-1) 0<1∨x.a≠l.getD (i-1) 0-1 then none else some (l++[l.getD x.a.toNat 0])
 else none
def beginTo (t:List Nd):Nat→Option (List Int)
 | 0=>some []
 | j+1=>(beginTo t j).bind fun l=>beginStep l (t.getD j nd0) j
def tree2 (t:List Nd):Bool:=match beginTo t t.length with
 | some l=>decide (0<t.length)&&decide (l.getD (t.length-1) 0=0)
 | none=>false
inductive StR (l:List Int):Nat→List Int→Prop
 | nil:StR l 0 []
 | cons {e b:Nat} {o:List Int}:l[e]? = some (b:Int)→b≤e→StR l b o→StR l (e+1) (o++[(e:Int)])
theorem StR.grow {l:List Int} {e:Nat} {o:List Int} (h:StR l e o) (m:List Int):StR (l++m) e o:=by
 induction h with
 | nil=>exact .nil
 | cons h1 h2 _ ih=>exact .cons (by rw[List.getElem?_append_left (by rw[List.getElem?_eq_some_iff]at h1;exact h1.1)];exact h1) h2 ih
theorem StR.zero {l o:List Int} (h:StR l 0 o):o=[]:=by
 generalize he:0=e at h
 cases h with
 | nil=>rfl
 | cons=>omega
theorem StR.succ {l o:List Int} {e:Nat} (h:StR l (e+1) o):∃(b:Nat) (p:List Int),o=p++[(e:Int)]∧l[e]? = some (b:Int)∧b≤e∧StR l b p:=by
 generalize he:e+1=e' at h
 cases h with
 | nil=>omega
 | cons h1 h2 h3 =>
  obtain rfl:=Nat.succ.inj he
  exact⟨_,_,rfl,h1,h2,h3⟩
theorem leaf_fields (x:Nd):leafB x=(decide (arity x.op=0)&&fieldsB x&&decide (x.a=-1)&&decide (x.b=-1)):=by
 obtain⟨op,n,var,attr,a,b⟩:=x
 by_cases h1:op=1
 ·subst h1
  simp[leafB,fieldsB,arity,emB]
  grind
 by_cases h2:op=2
 ·subst h2
  simp[leafB,fieldsB,arity,emB,bareB]
  grind
 by_cases h3:op=3
 ·subst h3
  simp[leafB,fieldsB,arity,emB,bareB]
  grind
 by_cases h5:op=5
 ·subst h5
  simp[leafB,fieldsB,arity,emB]
  grind
 by_cases h4:4≤op∧op≤11
 ·have h6:1≤op∧op≤11:=by omega
  simp[leafB,fieldsB,arity,h1,h2,h3,h4,h5,h6]
  grind
 ·have h6:¬(1≤op∧op≤11):=by omega
  simp only[leafB,fieldsB,arity,h1,h2,h3,h4,h5,h6]
  simp
  split<;>(try split)<;>simp
theorem bare_fields (x:Nd) (h:12≤x.op):fieldsB x=bareB x:=by
 obtain⟨op,n,var,attr,a,b⟩:=x
 simp only[]at h
 have h1:¬op=1:=by omega
 have h2:¬op≤11:=by omega
 simp[fieldsB,bareB,h1,h2]
theorem step_same {l o:List Int} {j:Nat} (x:Nd) (hl:l.length=j) (hs:StR l j o):(treeStep o x j=none∧beginStep l x j=none)∨∃o' l',treeStep o x j=some o'∧beginStep l x j=some l'∧l'.length=j+1∧StR l' (j+1) o':=by
 have hlf:=leaf_fields x
 have hbf:=bare_fields x
 have hlast:∀z:Int,(l++[z])[j]? = some z:=fun z=>by rw[List.getElem?_append_right (by omega),hl,Nat.sub_self];rfl
 rcases arity_is x.op with har|har|har|har
 ·have h1:¬(x.op=12∨x.op=13):=fun h=>by unfold arity at har;grind
  have h2:¬(14≤x.op∧x.op≤26):=fun h=>by unfold arity at har;grind
  refine .inl ⟨by simp[treeStep,har],?_⟩
  rw[har]at hlf
  simp only[beginStep,hlf,h1,h2,if_false]
  simp
 ·have h1:¬(x.op=12∨x.op=13):=fun h=>by unfold arity at har;grind
  have h2:¬(14≤x.op∧x.op≤26):=fun h=>by unfold arity at har;grind
  have hA:opA o 0=-1:=by simp[opA]
  have hB:opB o 0=-1:=by simp[opB]
  rw[har]at hlf
  simp only[decide_true,Bool.true_and]at hlf
  by_cases hf:leafB x=true
  ·rw[hf]at hlf
   have hlf':=hlf.symm
   simp only[Bool.and_eq_true,decide_eq_true_eq]at hlf'
   obtain⟨⟨f1,f2⟩,f3⟩:=hlf'
   refine .inr ⟨o++[(j:Int)],l++[(j:Int)],?_,by simp only[beginStep,hf,if_true],by simp[hl],.cons (hlast _) (Nat.le_refl _) (hs.grow _)⟩
   have h3:¬((0:Int) > o.length):=by omega
   simp[treeStep,har,f1,f2,f3,hA,hB,h3]
  ·have hf':leafB x=false:=by simpa using hf
   refine .inl ⟨?_,by simp[beginStep,hf',h1,h2]⟩
   rw[hf']at hlf
   have hlf':=hlf.symm
   simp only[Bool.and_eq_false_iff,decide_eq_false_iff_not]at hlf'
   simp only[treeStep,har,hA,hB]
   grind
 ·have h1:x.op=12∨x.op=13:=by unfold arity at har;grind
  have hnl:leafB x=false:=by rw[hlf,har];simp
  have hb:=hbf (by omega)
  cases j with
  | zero =>
   have:=hs.zero
   subst this
   exact .inl ⟨by simp[treeStep,har],by simp[beginStep,hnl,h1]⟩
  | succ e =>
   obtain⟨b,p,rfl,hb1,hb2,hb3⟩:=hs.succ
   have hA:opA (p++[(e:Int)]) 1=e:=by simp[opA]
   have hB:opB (p++[(e:Int)]) 1=-1:=by simp[opB]
   have hg:l.getD e 0=b:=by rw[List.getD_eq_getElem?_getD,hb1];rfl
   have h3:¬((1:Int) > ((p++[(e:Int)]).length:Nat)):=by simp;omega
   have h4:((e+1:Nat):Int)-1=e:=by omega
   have h5:¬e+1<1:=by omega
   by_cases hok:bareB x=true∧x.a=e∧x.b=-1
   ·obtain⟨k1,k2,k3⟩:=hok
    refine .inr ⟨p++[((e+1:Nat):Int)],l++[(b:Int)],?_,?_,by simp[hl],.cons (hlast _) (by omega) (hb3.grow _)⟩
    ·simp[treeStep,har,hb,k1,k2,k3,hA,hB]
     omega
    ·simp only[beginStep,hnl,h1,if_true,k1,k2,k3,h4,h5,Nat.add_sub_cancel,hg]
     simp
   ·refine .inl ⟨?_,?_⟩
    ·simp only[treeStep,har,hb,hA,hB,h3]
     cases hbb:bareB x<;>grind
    ·simp only[beginStep,hnl,h1,if_true,h4,h5]
     cases hbb:bareB x<;>grind
 ·have h1:14≤x.op∧x.op≤26:=by unfold arity at har;grind
  have h0:¬(x.op=12∨x.op=13):=by omega
  have hnl:leafB x=false:=by rw[hlf,har];simp
  have hb:=hbf (by omega)
  cases j with
  | zero =>
   have:=hs.zero
   subst this
   exact .inl ⟨by simp[treeStep,har],by simp[beginStep,hnl,h0,h1]⟩
  | succ e =>
   obtain⟨b,p,rfl,hb1,hb2,hb3⟩:=hs.succ
   have hg:l.getD e 0=b:=by rw[List.getD_eq_getElem?_getD,hb1];rfl
   have h4:((e+1:Nat):Int)-1=e:=by omega
   have h5:¬e+1<1:=by omega
   cases b with
   | zero =>
    have:=hb3.zero
    subst this
    exact .inl ⟨by simp[treeStep,har],by simp only[beginStep,hnl,h0,h1,Nat.add_sub_cancel,hg];simp⟩
   | succ c =>
    obtain⟨d,q,rfl,hd1,hd2,hd3⟩:=hb3.succ
    have hA:opA (q++[(c:Int)]++[(e:Int)]) 2=c:=by simp[opA]
    have hB:opB (q++[(c:Int)]++[(e:Int)]) 2=e:=by simp[opB]
    have hgd:l.getD c 0=d:=by rw[List.getD_eq_getElem?_getD,hd1];rfl
    have h3:¬((2:Int) > ((q++[(c:Int)]++[(e:Int)]).length:Nat)):=by simp;omega
    have h6:((c+1:Nat):Int)-1=c:=by omega
    have h7:¬((c+1:Nat):Int)<1:=by omega
    by_cases hok:bareB x=true∧x.a=c∧x.b=e
    ·obtain⟨k1,k2,k3⟩:=hok
     refine .inr ⟨q++[((e+1:Nat):Int)],l++[(d:Int)],?_,?_,by simp[hl],.cons (hlast _) (by omega) (hd3.grow _)⟩
     ·have hA':opA (q++[(c:Int),(e:Int)]) 2=c:=by simp[opA]
      have hB':opB (q++[(c:Int),(e:Int)]) 2=e:=by simp[opB]
      simp[treeStep,har,hb,k1,k2,k3,hA',hB']
      omega
     ·simp only[beginStep,hnl,h0,h1,k1,k2,k3,h4,h5,h6,h7,Nat.add_sub_cancel,hg,Int.toNat_natCast,hgd]
      simp
    ·refine .inl ⟨?_,?_⟩
     ·simp only[treeStep,har,hb,hA,hB,h3]
      cases hbb:bareB x<;>grind
     ·simp only[beginStep,hnl,h0,h1,h4,h5,Nat.add_sub_cancel,hg,h6,h7]
      cases hbb:bareB x<;>grind
theorem to_same (t:List Nd):∀j,(openTo t j=none∧beginTo t j=none)∨∃o l,openTo t j=some o∧beginTo t j=some l∧l.length=j∧StR l j o
 | 0=>.inr ⟨[],[],rfl,rfl,rfl,.nil⟩
 | j+1=>by
  rcases to_same t j with ⟨h1,h2⟩|⟨o,l,h1,h2,h3,h4⟩
  ·exact .inl ⟨by simp only[openTo,h1,Option.bind_none],by simp only[beginTo,h2,Option.bind_none]⟩
  ·rcases step_same (t.getD j nd0) h3 h4 with ⟨k1,k2⟩|⟨o',l',k1,k2,k3,k4⟩
   ·exact .inl ⟨by simp only[openTo,h1,Option.bind_some,k1],by simp only[beginTo,h2,Option.bind_some,k2]⟩
   ·exact .inr ⟨o',l',by simp only[openTo,h1,Option.bind_some,k1],by simp only[beginTo,h2,Option.bind_some,k2],k3,k4⟩
theorem tree_same (t:List Nd):tree2 t=tree1 t:=by
 unfold tree1 tree2
 rcases to_same t t.length with ⟨h1,h2⟩|⟨o,l,h1,h2,h3,h4⟩
 ·rw[h1,h2]
 ·rw[h1,h2]
  simp only[]
  generalize t.length=e at *
  cases e with
  | zero=>rw[h4.zero];simp
  | succ e =>
   obtain⟨b,p,rfl,hb1,hb2,hb3⟩:=h4.succ
   have hg:l.getD e 0=b:=by rw[List.getD_eq_getElem?_getD,hb1];rfl
   rw[Nat.add_sub_cancel,hg]
   cases b with
   | zero=>rw[hb3.zero];simp
   | succ c =>
    obtain⟨d,q,rfl,hd1,hd2,hd3⟩:=hb3.succ
    simp
    omega
structure KidOk (x:Nd) (i:Nat):Prop where
 ar:0≤arity x.op
 fl:fieldsB x=true
 a1:1≤arity x.op→0≤x.a∧x.a<i
 b2:arity x.op=2→0≤x.b∧x.b<i
 b1:arity x.op≤1→x.b=-1
 a0:arity x.op=0→x.a=-1
theorem kid_step {o:List Int} {x:Nd} {i:Nat} {o':List Int} (ho:∀y∈o,0≤y∧y<(i:Int)) (h:treeStep o x i=some o'):KidOk x i∧∀y∈o',0≤y∧y<((i+1:Nat):Int):=by
 have hm:∀k,k<o.length→0≤o.getD k 0∧o.getD k 0<(i:Int):=fun k hk=>by
  rw[List.getD_eq_getElem?_getD,List.getElem?_eq_getElem hk]
  exact ho _ (List.getElem_mem hk)
 unfold treeStep at h
 split at h
 ·cases h
 rename_i h1
 split at h
 ·cases h
 rename_i h2
 cases h
 simp only[not_or,Decidable.not_not]at h1 h2
 obtain⟨h1a,h1b,h1c⟩:=h1
 obtain⟨h2a,h2b⟩:=h2
 refine⟨⟨by omega,by simpa using h1c,fun h => ?_,fun h => ?_,fun h => ?_,fun h => ?_⟩,fun y hy => ?_⟩
 ·rcases arity_is x.op with har|har|har|har
  ·omega
  ·omega
  ·rw[h2a,har]
   simp only[opA,if_true]
   exact hm _ (by omega)
  ·rw[h2a,har]
   simp only[opA]
   exact hm _ (by omega)
 ·rw[h2b,h]
  simp only[opB,if_true]
  exact hm _ (by omega)
 ·rw[h2b,opB,if_neg (by omega)]
 ·rw[h2a,opA,if_neg (by omega),if_neg (by omega)]
 ·rw[List.mem_append]at hy
  rcases hy with hy|hy
  ·have:=ho y (List.mem_of_mem_take hy);omega
  ·simp at hy;omega
theorem kids_to {t:List Nd}:∀{j:Nat} {o:List Int},j≤t.length→openTo t j=some o→(∀y∈o,0≤y∧y<(j:Int))∧∀i (hi:i<t.length),i<j→KidOk t[i] i
 | 0,o,_,h=>by simp[openTo]at h;subst h;exact⟨by simp,fun i _ hi=>by omega⟩
 | j+1,o,hj,h=>by
  simp only[openTo,Option.bind_eq_some_iff]at h
  obtain⟨p,h1,h2⟩:=h
  obtain⟨i1,i2⟩:=kids_to (by omega) h1
  obtain⟨k1,k2⟩:=kid_step i1 h2
  refine⟨k2,fun i hi hij => ?_⟩
  by_cases e:i=j
  ·subst e
   rw[List.getD_eq_getElem?_getD,List.getElem?_eq_getElem hi]at k1
   exact k1
  ·exact i2 i hi (by omega)
theorem tree_kids {t:List Nd} (h:tree1 t=true) (i:Nat) (hi:i<t.length):KidOk t[i] i:=by
 unfold tree1 at h
 split at h
 ·rename_i o ho
  exact (kids_to (Nat.le_refl _) ho).2 i hi hi
 ·cases h
theorem tree_pos {t:List Nd} (h:tree1 t=true):0<t.length:=by
 cases t with
 | nil=>simp[tree1,openTo]at h
 | cons=>simp
section
def colOf (sc:List Ty) (name:ByteArray):List Int:=(List.range sc.length).map fun (i:Nat)=>attrOf sc (i:Int) name
theorem colOf_len (sc:List Ty) (name:ByteArray):(colOf sc name).length=sc.length:=by simp[colOf]
theorem attrOf_out {sc:List Ty} {ty:Int} {name:ByteArray} (h:ty<0∨(sc.length:Int)≤ty):attrOf sc ty name=-1:=by rw[attrOf,if_pos h]
theorem one_col {sc:List Ty} {name:ByteArray} {l:List Ev} {j:Nat} (hj:j<l.length):oneV l (j:Int) (colOf sc name)=valueV l[j] (attrOf sc l[j].ty name):=by
 rw[oneV_at hj]
 unfold evV placeOf
 by_cases h:l[j].ty<0∨(sc.length:Int)≤l[j].ty
 ·rw[attrOf_out h]
  have hv:valueV l[j] (-1)=unk:=by simp[valueV]
  rw[hv]
  rcases h with h|h
  ·simp[h]
  ·have h1:¬l[j].ty<0:=by omega
   have h2:(colOf sc name)[l[j].ty.toNat]? = none:=List.getElem?_eq_none (by rw[colOf_len];omega)
   simp[h1,h2]
 ·obtain⟨t,ht⟩:∃t:Nat,l[j].ty=t:=⟨l[j].ty.toNat,by omega⟩
  have h1:¬l[j].ty<0:=by omega
  have h2:(colOf sc name)[t]? = some (attrOf sc t name):=by
   rw[colOf,List.getElem?_map,List.getElem?_range (by omega)];rfl
  have h3:¬(t:Int)<0:=by omega
  simp[ht,h2,h3]
theorem one_low {l:List Ev} {i:Int} (c:List Int) (h:i<0):oneV l i c=unk:=by unfold oneV;rw[if_pos h]
theorem one_high {l:List Ev} {i:Int} (c:List Int) (h:(l.length:Int)≤i):oneV l i c=unk:=by
 unfold oneV
 rw[if_neg (by omega),List.getElem?_eq_none (by omega)]
def codeM (o:Int):Int:=if o=5 then 4 else if o=11 then 3 else if o=4 then 2 else o-1
def nodeV (sc:List Ty) (it:Int) (en:En) (x:Nd) (va vb:V):V :=
 if x.op=1 then knownV x.n else if x.op=2 then knownV 1 else if x.op=3 then knownV 0
 else if x.op≤11 then mentionV ⟨codeM x.op,it,0,0,0⟩ (colOf sc x.attr) en
 else if x.op=12 then negL va else if x.op=13 then notV va else applyL x.op va vb
def getV (l:List V) (i:Int):V:=l.getD i.toNat unk
def valsTo (sc:List Ty) (its:List Int) (en:En) (t:List Nd):Nat→List V
 | 0=>[]
 | j+1=>valsTo sc its en t j++[nodeV sc (its.getD j 0) en (t.getD j nd0) (getV (valsTo sc its en t j) (t.getD j nd0).a) (getV (valsTo sc its en t j) (t.getD j nd0).b)]
section
variable {sc:List Ty} {its:List Int} {en:En} {t:List Nd}
theorem vals_len:∀j,(valsTo sc its en t j).length=j
 | 0=>rfl
 | j+1=>by simp only[valsTo,List.length_append,vals_len j,List.length_cons,List.length_nil]
theorem vals_get {i:Nat}:∀{j:Nat},i<j→(valsTo sc its en t j).getD i unk=(valsTo sc its en t (i+1)).getD i unk
 | 0,h=>by omega
 | j+1,h=>by
  by_cases e:i=j
  ·subst e;rfl
  ·have hl:i<(valsTo sc its en t j).length:=by rw[vals_len];omega
   rw[←vals_get (j:=j) (by omega)]
   simp only[valsTo,List.getD_eq_getElem?_getD,List.getElem?_append_left hl]
end
def valAt (sc:List Ty) (its:List Int) (en:En) (t:List Nd) (i:Nat):V:=(valsTo sc its en t (i+1)).getD i unk
theorem valAt_eq {sc:List Ty} {its:List Int} {en:En} {t:List Nd} {i:Nat} (hi:i<t.length):valAt sc its en t i=nodeV sc (its.getD i 0) en t[i] (getV (valsTo sc its en t i) t[i].a) (getV (valsTo sc its en t i) t[i].b):=by
 have hg:t.getD i nd0=t[i]:=by rw[List.getD_eq_getElem?_getD,List.getElem?_eq_getElem hi];rfl
 unfold valAt
 simp only[valsTo,hg]
 have hl:=vals_len (sc:=sc) (its:=its) (en:=en) (t:=t) i
 generalize valsTo sc its en t i=l at *
 rw[List.getD_eq_getElem?_getD,List.getElem?_append_right (by omega),hl,Nat.sub_self]
 rfl
theorem get_val {sc:List Ty} {its:List Int} {en:En} {t:List Nd} {i:Nat} {a:Int} (h0:0≤a) (h1:a<i):getV (valsTo sc its en t i) a=valAt sc its en t a.toNat:=by
 unfold getV valAt
 exact vals_get (by omega)
def wantsT (o:Int):Bool:=decide (o=13∨o=25∨o=26)
def nodeOk (vs:List ByteArray) (t:List Nd) (x:Nd):Bool :=
 if x.op<4 then true
 else if x.op≤11 then decide (0≤ixOf vs x.var)
 else (truthO (t.getD x.a.toNat nd0).op==wantsT x.op)&&(decide (x.b<0)||(truthO (t.getD x.b.toNat nd0).op==wantsT x.op))
def okTo (vs:List ByteArray) (t:List Nd) (j:Nat):Bool:=(t.take j).all (nodeOk vs t)
def runT (vs:List ByteArray) (t:List Nd):Bool:=tree1 t&&okTo vs t t.length
theorem okTo_succ {vs:List ByteArray} {t:List Nd} {j:Nat} (hj:j<t.length):okTo vs t (j+1)=(okTo vs t j&&nodeOk vs t t[j]):=by
 unfold okTo
 rw[List.take_add_one,List.getElem?_eq_getElem hj,List.all_append,Option.toList_some]
 simp
theorem okTo_no {vs:List ByteArray} {t:List Nd} {j:Nat} (hj:j<t.length) (h:nodeOk vs t t[j]=false):okTo vs t t.length=false:=by
 unfold okTo
 rw[List.take_length,List.all_eq_false]
 exact⟨t[j],List.getElem_mem hj,by rw[h];simp⟩
def itemV (vs:List ByteArray) (x:Nd):Int:=if 4≤x.op∧x.op≤11 then ixOf vs x.var else 0
def evalV (sc:List Ty) (vs:List ByteArray) (en:En) (t:List Nd):V:=if runT vs t=true then valAt sc (t.map (itemV vs)) en t (t.length-1)else unk
end
section
def KindAt (t:List Nd) (lo:Nat→Nat) (x:Nd) (i:Nat):Prop :=
 (1≤x.op∧x.op≤11∧x.a=-1∧x.b=-1∧lo i=i)∨((x.op=12∨x.op=13)∧1≤i∧x.a=((i-1:Nat):Int)∧x.b=-1∧lo i=lo (i-1))∨
 (14≤x.op∧x.op≤26∧1≤i∧x.b=((i-1:Nat):Int)∧∃a:Nat,x.a=(a:Int)∧lo (i-1)=a+1∧lo i=lo a)
structure Tre (t:List Nd) (lo:Nat→Nat):Prop where
 pos:0<t.length
 root:lo (t.length-1)=0
 le:∀i,i<t.length→lo i≤i
 kind:∀i (hi:i<t.length),KindAt t lo t[i] i
def kindL (l:List Int) (x:Nd) (i:Nat):Prop:=0≤l.getD i 0∧l.getD i 0≤i∧
 ((1≤x.op∧x.op≤11∧x.a=-1∧x.b=-1∧l.getD i 0=i)∨((x.op=12∨x.op=13)∧1≤i∧x.a=(i:Int)-1∧x.b=-1∧l.getD i 0=l.getD (i-1) 0)∨
 (14≤x.op∧x.op≤26∧1≤i∧x.b=(i:Int)-1∧1≤l.getD (i-1) 0∧x.a=l.getD (i-1) 0-1∧l.getD i 0=l.getD x.a.toNat 0))
theorem getD_app {l m:List Int} {i:Nat} (h:i<l.length):(l++m).getD i 0=l.getD i 0:=by
 simp only[List.getD_eq_getElem?_getD,List.getElem?_append_left h]
theorem getD_last {l:List Int} {z:Int} {i:Nat} (h:i=l.length):(l++[z]).getD i 0=z:=by
 subst h
 simp only[List.getD_eq_getElem?_getD,List.getElem?_append_right (Nat.le_refl _),Nat.sub_self]
 rfl
theorem kind_step {l l':List Int} {x:Nd} {j:Nat} (hl:l.length=j) (hb:∀i,i<j→0≤l.getD i 0∧l.getD i 0≤i) (h:beginStep l x j=some l'):kindL l' x j∧l'.length=j+1∧∃z,l'=l++[z]:=by
 have hlf:=leaf_fields x
 unfold beginStep at h
 split at h
 ·rename_i h1
  cases h
  rw[h1]at hlf
  have hlf':=hlf.symm
  simp only[Bool.and_eq_true,decide_eq_true_eq]at hlf'
  obtain⟨⟨⟨f0,f1⟩,f2⟩,f3⟩:=hlf'
  have hop:1≤x.op∧x.op≤11:=by
   unfold arity at f0
   split at f0
   ·assumption
   ·split at f0
    ·cases f0
    ·split at f0<;>cases f0
  refine⟨⟨?_,?_,.inl ⟨hop.1,hop.2,f2,f3,getD_last hl.symm⟩⟩,by simp[hl],_,rfl⟩
  ·rw[getD_last hl.symm];omega
  ·rw[getD_last hl.symm];omega
 split at h
 ·rename_i h1 h2
  split at h
  ·cases h
  rename_i h3
  cases h
  simp only[not_or,Decidable.not_not]at h3
  obtain⟨_,h4,h5,h6⟩:=h3
  have hp:=hb (j-1) (by omega)
  have e1:(l++[l.getD (j-1) 0]).getD j 0=l.getD (j-1) 0:=getD_last hl.symm
  have e2:(l++[l.getD (j-1) 0]).getD (j-1) 0=l.getD (j-1) 0:=getD_app (by omega)
  refine⟨⟨by rw[e1];omega,by rw[e1];omega,.inr (.inl ⟨h2,by omega,h5,h6,by rw[e1,e2]⟩)⟩,by simp[hl],_,rfl⟩
 split at h
 ·rename_i h1 h2 h2'
  split at h
  ·cases h
  rename_i h3
  cases h
  simp only[not_or,Decidable.not_not]at h3
  obtain⟨_,h4,h5,h6,h7⟩:=h3
  have hp:=hb (j-1) (by omega)
  have hq:=hb x.a.toNat (by omega)
  have e1:(l++[l.getD x.a.toNat 0]).getD j 0=l.getD x.a.toNat 0:=getD_last hl.symm
  have e2:(l++[l.getD x.a.toNat 0]).getD (j-1) 0=l.getD (j-1) 0:=getD_app (by omega)
  have e3:(l++[l.getD x.a.toNat 0]).getD x.a.toNat 0=l.getD x.a.toNat 0:=getD_app (by omega)
  refine⟨⟨by rw[e1];omega,by rw[e1];omega,.inr (.inr ⟨h2'.1,h2'.2,by omega,h5,by rw[e2];omega,by rw[e2];exact h7,by rw[e1,e3]⟩)⟩,by simp[hl],_,rfl⟩
 ·cases h
theorem kindL_app {l:List Int} {x:Nd} {i:Nat} (z:Int) (hb:∀q,q<l.length→l.getD q 0≤q) (hi:i<l.length) (h:kindL l x i):kindL (l++[z]) x i:=by
 unfold kindL at h ⊢
 have e1:(l++[z]).getD i 0=l.getD i 0:=getD_app hi
 have e2:(l++[z]).getD (i-1) 0=l.getD (i-1) 0:=getD_app (by omega)
 rw[e1,e2]
 obtain⟨h1,h2,h3⟩:=h
 refine⟨h1,h2,?_⟩
 rcases h3 with h3|h3|⟨k1,k2,k3,k4,k5,k6,k7⟩
 ·exact .inl h3
 ·exact .inr (.inl h3)
 ·by_cases ha:x.a.toNat<l.length
  ·exact .inr (.inr ⟨k1,k2,k3,k4,k5,k6,by rw[getD_app ha];exact k7⟩)
  ·have:=hb (i-1) (by omega)
   exfalso
   omega
theorem kinds_to {t:List Nd}:∀{j:Nat} {l:List Int},j≤t.length→beginTo t j=some l→l.length=j∧∀i,i<j→kindL l (t.getD i nd0) i
 | 0,l,_,h=>by simp[beginTo]at h;subst h;exact⟨rfl,fun i hi=>by omega⟩
 | j+1,l,hj,h=>by
  simp only[beginTo,Option.bind_eq_some_iff]at h
  obtain⟨p,h1,h2⟩:=h
  obtain⟨i1,i2⟩:=kinds_to (by omega) h1
  obtain⟨k1,k2,z,rfl⟩:=kind_step i1 (fun i hi=>⟨(i2 i hi).1,(i2 i hi).2.1⟩) h2
  refine⟨k2,fun i hi => ?_⟩
  by_cases e:i=j
  ·subst e;exact k1
  ·exact kindL_app z (fun q hq=>(i2 q (by omega)).2.1) (by omega) (i2 i (by omega))
def loOf (t:List Nd) (i:Nat):Nat:=match beginTo t t.length with
 | some l=>(l.getD i 0).toNat
 | none=>0
theorem tre_of {t:List Nd} (h:tree1 t=true):Tre t (loOf t):=by
 rw[←tree_same]at h
 unfold tree2 at h
 split at h
 ·rename_i l hl
  obtain⟨k1,k2⟩:=kinds_to (Nat.le_refl _) hl
  simp only[Bool.and_eq_true,decide_eq_true_eq]at h
  obtain⟨h1,h2⟩:=h
  have hlo:∀i,loOf t i=(l.getD i 0).toNat:=fun i=>by unfold loOf;rw[hl]
  have hk:∀i (hi:i<t.length),kindL l t[i] i:=fun i hi=>by
   have:=k2 i hi
   rwa [List.getD_eq_getElem?_getD,List.getElem?_eq_getElem hi]at this
  refine⟨h1,by rw[hlo,h2];rfl,fun i hi => ?_,fun i hi => ?_⟩
  ·have:=(hk i hi).2.1
   rw[hlo];omega
  ·obtain⟨a1,a2,a3⟩:=hk i hi
   unfold KindAt
   rw[hlo]
   rcases a3 with ⟨b1,b2,b3,b4,b5⟩|⟨b1,b2,b3,b4,b5⟩|⟨b1,b2,b3,b4,b5,b6,b7⟩
   ·exact .inl ⟨b1,b2,b3,b4,by omega⟩
   ·exact .inr (.inl ⟨b1,b2,by omega,b4,by rw[hlo];omega⟩)
   ·exact .inr (.inr ⟨b1,b2,b3,by omega,t[i].a.toNat,by omega,by rw[hlo];omega,by rw[hlo];omega⟩)
 ·cases h
section
variable {t:List Nd} {lo:Nat→Nat} (T:Tre t lo)
include T
theorem lam:∀(k i:Nat),k<t.length→i<k→lo k≤lo i∨i<lo k:=by
 intro k
 induction k using Nat.strongRecOn with
 | _ k ih =>
  intro i hk hik
  rcases T.kind k hk with ⟨_,_,_,_,b⟩|⟨_,b1,_,_,b⟩|⟨_,_,b1,_,a,_,b2,b⟩
  ·omega
  ·by_cases e:i=k-1
   ·subst e;omega
   ·rw[b];exact ih (k-1) (by omega) i (by omega) (by omega)
  ·have hle:=T.le (k-1) (by omega)
   have hla:=T.le a (by omega)
   by_cases e:i=k-1
   ·subst e;omega
   ·by_cases e2:i=a
    ·subst e2;omega
    ·by_cases e3:a<i
     ·rcases ih (k-1) (by omega) i (by omega) (by omega)with h|h
      ·omega
      ·omega
     ·rcases ih a (by omega) i (by omega) (by omega)with h|h
      ·omega
      ·omega
theorem par_one {i k:Nat} {a:Nat} (hi:i<t.length) (hk:k<t.length) (oi:14≤t[i].op) (ok:14≤t[k].op) (ai:t[i].a=(a:Int)) (ak:t[k].a=(a:Int)):i=k:=by
 have key:∀i k (hi:i<t.length) (hk:k<t.length),14≤t[i].op→14≤t[k].op→t[i].a=(a:Int)→t[k].a=(a:Int)→i<k→False:=by
  intro i k hi hk oi ok ai ak hik
  rcases T.kind i hi with ⟨_,_,_⟩|⟨_,_⟩|⟨_,_,b1,b2,a1,b3,b4,b5⟩
  ·omega
  ·omega
  rcases T.kind k hk with ⟨_,_,_⟩|⟨_,_⟩|⟨_,_,c1,c2,a2,c3,c4,c5⟩
  ·omega
  ·omega
  obtain rfl:a1=a:=by omega
  obtain rfl:a2=a1:=by omega
  have hla:=T.le a2 (by have:=T.le (i-1) (by omega);omega)
  by_cases e:i=k-1
  ·subst e;omega
  ·rcases lam T (k-1) i (by omega) (by omega)with h|h
   ·omega
   ·have:=T.le (i-1) (by omega)
    omega
 rcases Nat.lt_trichotomy i k with h|h|h
 ·exact (key i k hi hk oi ok ai ak h).elim
 ·exact h
 ·exact (key k i hk hi ok oi ak ai h).elim
theorem last_nl {i k:Nat} (hi:i<t.length) (hk:k<t.length) (oi:12≤t[i].op) (ok:14≤t[k].op) (ak:t[k].a=((i-1:Nat):Int)):False:=by
 rcases T.kind k hk with ⟨_,_,_⟩|⟨_,_⟩|⟨_,_,c1,c2,a2,c3,c4,c5⟩
 ·omega
 ·omega
 have hle:=T.le (k-1) (by omega)
 have hi1:1≤i∧lo i≤i-1:=by
  rcases T.kind i hi with ⟨_,_,_⟩|⟨_,b1,_,_,b5⟩|⟨_,_,b1,_,a1,_,b4,b5⟩
  ·omega
  ·have:=T.le (i-1) (by omega);omega
  ·have:=T.le (i-1) (by omega)
   have:=T.le a1 (by omega)
   omega
 by_cases e:i=k
 ·subst e;omega
 ·have hik:i<k:=by omega
  by_cases e2:i=k-1
  ·subst e2;omega
  ·rcases lam T (k-1) i (by omega) (by omega)with h|h<;>omega
end
end
section
def parT (t:List Nd) (j:Nat):Option Nat:=(List.range t.length).find? fun i=>decide (25≤(t.getD i nd0).op)&&decide ((t.getD i nd0).a=(j:Int))
def posT (t:List Nd):Nat→Nat
 | 0=>0
 | k+1=>posT t k+1+if (parT t k).isSome=true then 1 else 0
def layT (t:List Nd) (f g:Nat→Ins):Nat→List Ins
 | 0=>[]
 | k+1=>layT t f g k++f k::if (parT t k).isSome=true then [g k]else []
def zI:Ins:=⟨0,0,0,0,0⟩
section
variable {t:List Nd}
theorem lay_len (f g:Nat→Ins):∀n,(layT t f g n).length=posT t n
 | 0=>rfl
 | n+1=>by
  simp only[layT,posT,List.length_append,lay_len f g n,List.length_cons]
  split<;>simp
theorem lay_ext {f f' g g':Nat→Ins}:∀n,(∀j,j<n→f j=f' j)→(∀j,j<n→(parT t j).isSome=true→g j=g' j)→layT t f g n=layT t f' g' n
 | 0,_,_=>rfl
 | n+1,h1,h2=>by
  simp only[layT,lay_ext n (fun j hj=>h1 j (by omega)) (fun j hj=>h2 j (by omega)),h1 n (by omega)]
  split
  ·rename_i h;rw[h2 n (by omega) h]
  ·rfl
theorem pos_lt {k:Nat}:∀{n:Nat},k<n→posT t k+1+(if (parT t k).isSome=true then 1 else 0)≤posT t n
 | 0,h=>by omega
 | n+1,h=>by
  by_cases e:k=n
  ·subst e;exact Nat.le_refl _
  ·have:=pos_lt (k:=k) (n:=n) (by omega)
   simp only[posT]
   omega
def updF (f:Nat→Ins) (k:Nat) (x:Ins):Nat→Ins:=fun j=>if j=k then x else f j
theorem lay_setj {f g:Nat→Ins} {k:Nat} (x:Ins) (hp:(parT t k).isSome=true):∀{n:Nat},k<n→(layT t f g n).set (posT t k+1) x=layT t f (updF g k x) n
 | 0,h=>by omega
 | n+1,h=>by
  simp only[layT]
  by_cases e:k=n
  ·subst e
   rw[List.set_append_right _ _ (by rw[lay_len];omega),lay_len,Nat.add_sub_cancel_left,if_pos hp,if_pos hp,List.set_cons_succ,List.set_cons_zero]
   rw[lay_ext (f':=f) (g':=updF g k x) k (fun _ _=>rfl) (fun j hj _=>by simp only[updF];rw[if_neg (by omega)])]
   simp[updF]
  ·have hl:=pos_lt (t:=t) (k:=k) (n:=n) (by omega)
   rw[if_pos hp]at hl
   rw[List.set_append_left _ _ (by rw[lay_len];omega),lay_setj x hp (by omega)]
   have:updF g k x n=g n:=by simp only[updF];rw[if_neg (fun h=>e h.symm)]
   rw[this]
theorem par_is {i j:Nat} (h:parT t j=some i):∃hi:i<t.length,25≤t[i].op∧t[i].a=(j:Int):=by
 unfold parT at h
 have h1:=List.mem_of_find?_eq_some h
 have h2:=List.find?_some h
 have hi:i<t.length:=by simpa using h1
 have hg:t.getD i nd0=t[i]:=by rw[List.getD_eq_getElem?_getD,List.getElem?_eq_getElem hi];rfl
 rw[hg]at h2
 simp only[Bool.and_eq_true,decide_eq_true_eq]at h2
 exact⟨hi,h2⟩
variable {lo:Nat→Nat} (T:Tre t lo)
include T
theorem par_at {i j:Nat} (hi:i<t.length) (ho:25≤t[i].op) (ha:t[i].a=(j:Int)):parT t j=some i:=by
 have hg:t.getD i nd0=t[i]:=by rw[List.getD_eq_getElem?_getD,List.getElem?_eq_getElem hi];rfl
 cases h:parT t j with
 | none =>
  unfold parT at h
  rw[List.find?_eq_none]at h
  have:=h i (List.mem_range.2 hi)
  rw[hg,ha]at this
  simp[ho]at this
 | some k =>
  obtain⟨hk,h1,h2⟩:=par_is h
  rw[par_one T hi hk (by omega) (by omega) ha h2]
theorem par_nl {i:Nat} (hi:i<t.length) (ho:12≤t[i].op):parT t (i-1)=none:=by
 cases h:parT t (i-1)with
 | none=>rfl
 | some k =>
  obtain⟨hk,h1,h2⟩:=par_is h
  exact (last_nl T hi hk ho (by omega) h2).elim
theorem par_na {i a:Nat} (hi:i<t.length) (ho:14≤t[i].op) (h25:t[i].op<25) (ha:t[i].a=(a:Int)):parT t a=none:=by
 cases h:parT t a with
 | none=>rfl
 | some k =>
  obtain⟨hk,h1,h2⟩:=par_is h
  have:=par_one T hi hk ho (by omega) ha h2
  subst this
  omega
theorem par_root:parT t (t.length-1)=none:=by
 cases h:parT t (t.length-1)with
 | none=>rfl
 | some k =>
  obtain⟨hk,h1,h2⟩:=par_is h
  have:=T.pos
  rcases T.kind k hk with ⟨_,_,_⟩|⟨_,_⟩|⟨_,_,c1,c2,a2,c3,c4,c5⟩
  ·omega
  ·omega
  ·have:=T.le (k-1) (by omega)
   omega
theorem pos_end:posT t t.length=posT t (t.length-1)+1:=by
 have:=T.pos
 obtain⟨m,hm⟩:∃m,t.length=m+1:=⟨t.length-1,by omega⟩
 have hr:=par_root T
 rw[hm,Nat.add_sub_cancel]at hr ⊢
 simp[posT,hr]
theorem pos_un {i:Nat} (hi:i<t.length) (ho:12≤t[i].op) (h1:1≤i):posT t i=posT t (i-1)+1:=by
 obtain⟨m,rfl⟩:∃m,i=m+1:=⟨i-1,by omega⟩
 have hr:=par_nl T hi ho
 rw[Nat.add_sub_cancel]at hr ⊢
 simp[posT,hr]
theorem pos_sk {i a:Nat} (hi:i<t.length) (ho:14≤t[i].op) (ha:t[i].a=(a:Int)):posT t (a+1)=posT t a+if 25≤t[i].op then 2 else 1:=by
 by_cases h:25≤t[i].op
 ·have:=par_at T hi h ha
  simp[posT,this,h]
 ·have:=par_na T hi ho (by omega) ha
  simp[posT,this,h]
theorem few_to:∀(k i:Nat),i=k→i<t.length→2*(posT t i-posT t (lo i))≤3*(i-lo i)∧posT t (lo i)≤posT t i:=by
 intro k
 induction k using Nat.strongRecOn with
 | _ k ih =>
  rintro i rfl hi
  rcases T.kind i hi with ⟨_,_,_,_,b⟩|⟨b0,b1,_,_,b⟩|⟨b0,_,b1,_,a,b2,b3,b⟩
  ·rw[b];omega
  ·have h1:=pos_un T hi (by omega) b1
   obtain⟨h2,h3⟩:=ih (i-1) (by omega) _ rfl (by omega)
   have:=T.le (i-1) (by omega)
   rw[b];omega
  ·have h1:=pos_un T hi (by omega) b1
   have h4:=pos_sk T hi b0 b2
   have hle:=T.le (i-1) (by omega)
   have hla:=T.le a (by omega)
   obtain⟨h2,h3⟩:=ih (i-1) (by omega) _ rfl (by omega)
   obtain⟨h5,h6⟩:=ih a (by omega) _ rfl (by omega)
   rw[b3]at h2 h3
   rw[b]
   split at h4<;>omega
theorem few:2*posT t t.length≤3*t.length:=by
 have h1:=pos_end T
 have:=T.pos
 obtain⟨h2,h3⟩:=few_to T _ _ rfl (show t.length-1<t.length by omega)
 rw[T.root]at h2
 simp only[posT]at h2
 omega
end
def szT (t:List Nd) (lo:Nat→Nat) (i:Nat):Int:=(posT t i:Int)-posT t (lo i)+1
section
variable {t:List Nd} {lo:Nat→Nat} (T:Tre t lo)
include T
theorem sz_bin {i:Nat} (hi:i<t.length) (ho:14≤t[i].op):0≤t[i].a∧t[i].a<i∧0≤t[i].b∧t[i].b<i∧t[i].a≠t[i].b∧
  szT t lo i=szT t lo t[i].a.toNat+szT t lo t[i].b.toNat+(if 25≤t[i].op then 2 else 1)∧posT t (lo t[i].a.toNat)=posT t (lo i)∧
  (posT t (lo t[i].b.toNat):Int)=posT t t[i].a.toNat+(if 25≤t[i].op then 2 else 1)∧(posT t (lo i):Int)+szT t lo t[i].a.toNat=posT t t[i].a.toNat+1:=by
 rcases T.kind i hi with ⟨_,b0,_⟩|⟨b0,b1,b2,_,b⟩|⟨b0,_,b1,b2,a,b3,b4,b⟩
 ·omega
 ·omega
 ·have h1:=pos_un T hi (by omega) b1
  have h2:=pos_sk T hi ho b3
  have hle:=T.le (i-1) (by omega)
  have e:t[i].b.toNat=i-1:=by omega
  have e2:t[i].a.toNat=a:=by omega
  rw[e,e2,b4]
  unfold szT
  rw[b,b4]
  refine⟨by omega,by omega,by omega,by omega,by omega,?_,rfl,?_,by omega⟩
  ·split at h2<;>(rename_i h;simp only[h,if_true,if_false]<;>omega)
  ·split at h2<;>(rename_i h;simp only[h,if_true,if_false]<;>omega)
theorem tree_op {i:Nat} (hi:i<t.length):1≤t[i].op∧t[i].op≤26:=by
 rcases T.kind i hi with ⟨_,b0,_⟩|⟨b0,_⟩|⟨b0,_⟩<;>omega
end
end
def sid:AV→Nat→Prop
 | .s id _ _ _,b=>id=b
 | _,_=>False
def Ear (cs:List AV) (i b:Nat):Prop:=∃j c,j<i∧cs[j]? = some c∧sid c b
def mpc (names:List ByteArray):List AV:=names.zipIdx.flatMap fun p=>[ss p.1,ii p.2]
def KC (h:Heap) (G:Nat→Prop) (hi:Nat) (bad:Nat→Prop) (c:AV) (l:List Int):Prop :=
 (l=[]∧c=.v (.slice none 0 0))∨∃b v,c=.s b v 0 l.length∧h b=some ⟨l.map ii,v,true,1⟩∧G b∧b<hi∧¬bad b
theorem KC.up {h h':Heap} {G:Nat→Prop} {hi hi':Nat} {bad bad':Nat→Prop} {c:AV} {l:List Int} (k:KC h G hi bad c l) (hh:∀q,G q→q<hi→¬bad q→h' q=h q) (hb:∀q,G q→q<hi→bad' q→bad q) (hi2:hi≤hi'):KC h' G hi' bad' c l:=by
 rcases k with h0|⟨b,v,k1,k2,k3,k4,k5⟩
 ·exact .inl h0
 ·exact .inr ⟨b,v,k1,by rw[hh b k3 k4 k5];exact k2,k3,by omega,fun hx=>k5 (hb b k3 k4 hx)⟩
def keepG (G:Nat→Prop) (n:Nat) (h h':Heap):Prop:=∀q,q<n→¬G q→h' q=h q
structure CS (h:Heap) (G:Nat→Prop) (hi m:Nat) (tys:List Ty) (sa ca la:AV) (mm:Nat) (code:List Ins) (names:List ByteArray):Prop where
 hm:h m=some ⟨[sa,ca,la,.mv mm 0],0,true,4⟩
 m1:G m∧m<hi
 sch:rd dTys h sa=some tys
 hc:(code=[]∧ca=.v (.slice none 0 0))∨∃w u,ca=.s w u 0 code.length∧h w=some ⟨code.flatMap icells,u,true,5⟩∧G w∧w<hi∧w≠m∧w≠mm
 hl:(names=[]∧la=.v (.slice none 0 0))∨∃w u cs,la=.s w u 0 names.length∧h w=some ⟨cs,u,true,1⟩∧G w∧w<hi∧w≠m∧w≠mm∧¬sid ca w∧cs.length=names.length∧
  ∀i (hi':i<names.length),∃c,cs[i]? = some c∧KC h G hi (fun b=>b=m∨b=mm∨sid ca b∨b=w∨Ear cs i b) c (colOf tys names[i])
 mp:h mm=some ⟨mpc names,0,true,0⟩
 mm1:G mm∧mm<hi∧mm≠m
theorem CS.lay {h h':Heap} {G:Nat→Prop} {n n' m mm:Nat} {tys:List Ty} {sa ca ca' la:AV} {code code':List Ins} {names:List ByteArray} (c:CS h G n m tys sa ca la mm code names) (hm:h' m=some ⟨[sa,ca',la,.mv mm 0],0,true,4⟩) (hsc:rd dTys h' sa=some tys)
  (hoth:∀q,G q→q<n→q≠m→¬sid ca q→h' q=h q) (hn:n≤n') (hsid:∀q,sid ca' q→sid ca q∨n≤q) (hc:(code'=[]∧ca'=.v (.slice none 0 0))∨∃w u,ca'=.s w u 0 code'.length∧h' w=some ⟨code'.flatMap icells,u,true,5⟩∧G w∧w<n'∧w≠m∧w≠mm) :
  CS h' G n' m tys sa ca' la mm code' names:=by
 obtain⟨x1,x2,x3,x4,x5,x6,x7⟩:=c
 have hmm:¬sid ca mm:=by
  rcases x4 with ⟨_,rfl⟩|⟨w,u,rfl,_,_,_,_,k⟩
  ·exact id
  ·exact fun e=>k e
 refine⟨hm,⟨x2.1,by omega⟩,hsc,hc,?_,by rw[hoth mm x7.1 x7.2.1 x7.2.2 hmm];exact x6,⟨x7.1,by omega,x7.2.2⟩⟩
 rcases x5 with h0|⟨w,u,cs,k1,k2,k3,k4,k5,k6,k7,k8,k9⟩
 ·exact .inl h0
 ·have hw:∀q,q<n→sid ca' q→sid ca q:=fun q hq hs=>(hsid q hs).resolve_right (by omega)
  refine .inr ⟨w,u,cs,k1,by rw[hoth w k3 k4 k5 k7];exact k2,k3,by omega,k5,k6,fun hs=>k7 (hw w k4 hs),k8,fun i hi' => ?_⟩
  obtain⟨cc,j1,j2⟩:=k9 i hi'
  refine⟨cc,j1,j2.up (fun q h1 h2 h3=>hoth q h1 h2 (fun e=>h3 (.inl e)) (fun e=>h3 (.inr (.inr (.inl e))))) (fun q _ hq hx => ?_) hn⟩
  rcases hx with hx|hx|hx|hx|hx
  ·exact .inl hx
  ·exact .inr (.inl hx)
  ·exact .inr (.inr (.inl (hw q hq hx)))
  ·exact .inr (.inr (.inr (.inl hx)))
  ·exact .inr (.inr (.inr (.inr hx)))
theorem c56 {h:Heap} {G:Nat→Prop} {n m mm:Nat} {tys:List Ty} {sa ca la:AV} {code:List Ins} {names:List ByteArray} (c:CS h G n m tys sa ca la mm code names) (i:Ins) (hlen:(code.length+1)*40≤140737488355328) (hG:∀q,n≤q→G q) (hsc:∀h',keepG G n h h'→rd dTys h' sa=some tys) (hn:Fresh n h) :
  ACall (cx [] (pfL [])) 121 [.p m 0 0,iv i] h n fun _ h' n'=>keepG G n h h'∧Fresh n' h'∧n≤n'∧∃ca',CS h' G n' m tys sa ca' la mm (code++[i]) names:=by
 refine acall_of_awp (args:=[.p m 0 0,iv i]) (pfL_ok tb_nil) (mixed _ _) Tryz.func121 (c:=Tryz.f121.body.getD .skip) rfl (by kernel_rfl) (callable Tryz.func121 rfl rfl _ _) (show 2≤Tryz.f121.ntmps by decide +kernel) ?_
 obtain⟨code9,item,icol,iN,ito⟩:=i
 have key:∀e:Nat→AV,e 0=.p m 0 0→e 1=iv ⟨code9,item,icol,iN,ito⟩→awp (cx [] (pfL [])) (Tryz.f121.body.getD .skip) (finQ (cx [] (pfL [])) Tryz.f121 fun _ h' n'=>keepG G n h h'∧Fresh n' h'∧n≤n'∧∃ca',CS h' G n' m tys sa ca' la mm (code++[⟨code9,item,icol,iN,ito⟩]) names) ⟨e,h,n⟩:=fun e q0 q1=>by
  have c0:=c
  obtain⟨hm,m1,hsc0,hc,hl,mp,mm1⟩:=c
  have z1:¬m=n:=by omega
  have z2:¬m=n+1:=by omega
  have z3:¬m=n+2:=by omega
  have z4:m<n+4:=by omega
  have b1:code.length≤9223372036854775806:=by omega
  have hci:code.flatMap icells++icells ⟨code9,item,icol,iN,ito⟩=(code++[(⟨code9,item,icol,iN,ito⟩:Ins)]).flatMap icells:=by simp
  rcases hc with ⟨rfl,rfl⟩|⟨w,u,rfl,hw,hw1,hw2,hw3,hw4⟩
  ·have hagH:∀b1 b2 b3 b4:Option Blk,keepG G n h (up (up (up (up h n b1) (n+1) b2) (n+2) b3) m b4):=fun b1 b2 b3 b4 q hq hg=>by rw[up_ne _ _ (fun e=>hg (by rw[e];exact m1.1)),up_ne _ _ (by omega),up_ne _ _ (by omega),up_ne _ _ (by omega)]
   simp[evx,Tryz.f121,q0,q1,iv,icells,ii,hm,z1,z2,z3,z4,fresh_up,hn.add]
   refine⟨hagH _ _ _ _,.s (n+2) 0 0 1,c0.lay (by simp[up]) (hsc _ (hagH _ _ _ _)) (fun q h1 h2 h3 h4 => ?_) (by omega) (fun q hq=>.inr (by simp only[sid]at hq;omega)) (.inr ⟨n+2,0,rfl,by rw[up_ne _ _ (by omega),up_same];rfl,hG _ (by omega),by omega,by omega,by omega⟩)⟩
   rw[up_ne _ _ h3,up_ne _ _ (by omega),up_ne _ _ (by omega),up_ne _ _ (by omega)]
  ·have y1:¬w=n:=by omega
   have y2:¬w=n+1:=by omega
   have y3:¬m=w:=fun e=>hw3 e.symm
   have y4:w<n+4:=by omega
   have hcl:(code.flatMap icells).length=code.length*5:=flat_len Flat.ins code
   generalize code.flatMap icells=cs at *
   have hagH:∀b1 b2 b3 b4:Option Blk,keepG G n h (up (up (up (up h n b1) (n+1) b2) w b3) m b4):=fun b1 b2 b3 b4 q hq hg=>by rw[up_ne _ _ (fun e=>hg (by rw[e];exact m1.1)),up_ne _ _ (fun e=>hg (by rw[e];exact hw1)),up_ne _ _ (by omega),up_ne _ _ (by omega)]
   simp[evx,Tryz.f121,q0,q1,iv,icells,ii,hm,z1,z2,z4,hw,y1,y2,y3,y4,hcl,hlen,b1,fresh_up,hn.add]
   refine⟨hagH _ _ _ _,.s w (u+1) 0 (code.length+1),c0.lay (by simp[up]) (hsc _ (hagH _ _ _ _)) (fun q h1 h2 h3 h4 => ?_) (by omega) (fun q hq=>.inl hq) (.inr ⟨w,u+1,by simp,by rw[up_ne _ _ hw3,up_same,←hci];rfl,hw1,by omega,hw3,hw4⟩)⟩
   simp only[sid]at h4
   rw[up_ne _ _ h3,up_ne _ _ (fun e=>h4 e.symm),up_ne _ _ (by omega),up_ne _ _ (by omega)]
 exact key _ rfl rfl
def mpcK (k:Nat) (names:List ByteArray):List AV:=(names.zipIdx k).flatMap fun p=>[ss p.1,ii p.2]
theorem mpcK_cons (k:Nat) (s:ByteArray) (r:List ByteArray):mpcK k (s::r)=.v (.string s) :: .v (.int .i64 (k:Int))::mpcK (k+1) r:=by simp[mpcK,ss,ii]
theorem mpc_ok:∀(names:List ByteArray) (k:Nat),mok (mpcK k names)
 | [],_=>trivial
 | s::r,k=>by rw[mpcK_cons];exact mpc_ok r (k+1)
theorem mpc_find (z:ByteArray):∀(names:List ByteArray) (k:Nat),(names.findIdx (· == z)<names.length→mfind z (mpcK k names)=some (.v (.int .i64 ((k+names.findIdx (· == z):Nat):Int))))∧(¬names.findIdx (· == z)<names.length→mfind z (mpcK k names)=none∧∀n,mset z n (mpcK k names)=mpcK k names++[.v (.string z),n])
 | [],k=>⟨fun h=>by simp at h,fun _=>⟨rfl,fun _=>rfl⟩⟩
 | s::r,k=>by
  rw[mpcK_cons]
  have hsym:(z==s)=(s==z):=by
   cases h1:(z==s)with
   | true=>rw[ba_beq]at h1;subst h1;symm;rw[ba_beq]
   | false =>
    cases h2:(s==z)with
    | true=>rw[ba_beq]at h2;subst h2;rw[show (s==s)=true by rw[ba_beq]]at h1;cases h1
    | false=>rfl
  obtain⟨i1,i2⟩:=mpc_find z r (k+1)
  cases h:(s==z)with
  | true =>
   refine⟨fun _ => ?_,fun hn => ?_⟩
   ·simp[mfind,hsym,h,List.findIdx_cons]
   ·simp[List.findIdx_cons,h]at hn
  | false =>
   have hf:(s::r).findIdx (· == z)=r.findIdx (· == z)+1:=by simp[List.findIdx_cons,h]
   rw[hf]
   refine⟨fun hl => ?_,fun hn => ?_⟩
   ·have:=i1 (by simpa using hl)
    simp only[mfind,hsym,h,Bool.false_eq_true,if_false,this]
    congr 3
    omega
   ·obtain⟨j1,j2⟩:=i2 (by simpa using hn)
    refine⟨by simp only[mfind,hsym,h,Bool.false_eq_true,if_false,j1],fun n => ?_⟩
    simp only[mset,hsym,h,Bool.false_eq_true,if_false,j2]
    rfl
theorem mpc_snoc (names:List ByteArray) (z:ByteArray):mpc names++[.v (.string z),.v (.int .i64 (names.length:Int))]=mpc (names++[z]):=by
 simp[mpc,List.zipIdx_append,ss,ii]
theorem CS.addcol {h h':Heap} {G:Nat→Prop} {n n' m mm w u:Nat} {tys:List Ty} {sa ca la x:AV} {code:List Ins} {names:List ByteArray} {name:ByteArray} {cs:List AV} (c:CS h G n m tys sa ca la mm code names) (hm:h' m=some ⟨[sa,ca,.s w u 0 (names.length+1),.mv mm 0],0,true,4⟩) (hsc:rd dTys h' sa=some tys)
  (hoth:∀q,G q→q<n→q≠m→q≠mm→¬sid la q→h' q=h q) (hn:n≤n') (hmm:h' mm=some ⟨mpc (names++[name]),0,true,0⟩)
  (hw:h' w=some ⟨cs++[x],u,true,1⟩) (hcs:(la=.v (.slice none 0 0)∧cs=[])∨∃u0,la=.s w u0 0 names.length∧h w=some ⟨cs,u0,true,1⟩) (hwn:(la=.v (.slice none 0 0)∧n≤w)∨¬la=.v (.slice none 0 0)) (hw1:G w) (hw2:w<n') (hw3:w≠m) (hw4:w≠mm) (hG:∀q,n≤q→G q) (hk:KC h' (fun q=>n≤q) n' (fun b=>b=w) x (colOf tys name)) :
  CS h' G n' m tys sa ca (.s w u 0 (names.length+1)) mm code (names++[name]):=by
 obtain⟨x1,x2,x3,x4,x5,x6,x7⟩:=c
 have hnw:¬sid ca w:=by
  rcases x5 with ⟨_,k0⟩|⟨w0,u0,cs0,k1,k2,k3,k4,k5,k6,k7,_⟩
  ·rcases hwn with ⟨_,hnw⟩|hx
   ·rcases x4 with ⟨_,rfl⟩|⟨wc,uc,rfl,_,_,j,_⟩
    ·exact id
    ·intro e;simp only[sid]at e;omega
   ·exact absurd k0 hx
  ·rcases hcs with ⟨e,_⟩|⟨u9,e,_⟩
   ·rw[k1]at e;cases e
   ·rw[k1]at e
    simp only[AV.s.injEq]at e
    obtain⟨rfl,_⟩:=e
    exact k7
 refine⟨hm,⟨x2.1,by omega⟩,hsc,?_,.inr ⟨w,u,cs++[x],by simp,hw,hw1,hw2,hw3,hw4,hnw,?_⟩,hmm,⟨x7.1,by omega,x7.2.2⟩⟩
 ·rcases x4 with h0|⟨wc,uc,k1,k2,k3,k4,k5,k6⟩
  ·exact .inl h0
  ·refine .inr ⟨wc,uc,k1,?_,k3,by omega,k5,k6⟩
   rw[hoth wc k3 k4 k5 k6]
   ·exact k2
   ·rcases x5 with ⟨_,rfl⟩|⟨w0,u0,cs0,j1,_,_,_,_,_,j7,_⟩
    ·exact id
    ·rw[j1]
     intro e
     simp only[sid]at e
     subst e
     rw[k1]at j7
     exact j7 rfl
 ·have hlen:cs.length=names.length:=by
   rcases x5 with ⟨rfl,k0⟩|⟨w0,u0,cs0,k1,k2,_,_,_,_,_,k8,_⟩
   ·rcases hcs with ⟨_,rfl⟩|⟨u9,e,_⟩
    ·rfl
    ·rw[k0]at e;cases e
   ·rcases hcs with ⟨e,_⟩|⟨u9,e,e2⟩
    ·rw[k1]at e;cases e
    ·rw[k1]at e
     simp only[AV.s.injEq]at e
     obtain⟨rfl,rfl,_⟩:=e
     rw[k2]at e2
     cases e2
     exact k8
  refine⟨by simp[hlen],fun i hi => ?_⟩
  have hi':i<names.length+1:=by simpa using hi
  by_cases e:i=names.length
  ·subst e
   refine⟨x,by rw[List.getElem?_append_right (by omega),hlen,Nat.sub_self];rfl,?_⟩
   simp only[List.getElem_append_right (Nat.le_refl _),Nat.sub_self,List.getElem_cons_zero]
   rcases hk with h0|⟨b,v,k1,k2,k3,k4,k5⟩
   ·exact .inl h0
   ·refine .inr ⟨b,v,k1,k2,hG b k3,k4,fun hx => ?_⟩
    rcases hx with hx|hx|hx|hx|⟨j,cc,hj,hcc,hsd⟩
    ·have:=x2.2;omega
    ·have:=x7.2.1;omega
    ·rcases x4 with ⟨_,rfl⟩|⟨wc,uc,rfl,_,_,j,_⟩
     ·exact hx
     ·simp only[sid]at hx;omega
    ·exact k5 hx
    ·rw[List.getElem?_append_left (by omega)]at hcc
     rcases x5 with ⟨rfl,_⟩|⟨w0,u0,cs0,e1,e2,_,_,_,_,_,k8,k9⟩
     ·simp at hj
     ·rcases hcs with ⟨e3,_⟩|⟨u9,e3,e4⟩
      ·rw[e1]at e3;cases e3
      ·rw[e1]at e3
       simp only[AV.s.injEq]at e3
       obtain⟨rfl,rfl,_⟩:=e3
       rw[e2]at e4
       cases e4
       obtain⟨cc',j1,j2⟩:=k9 j hj
       rw[hcc]at j1
       cases j1
       rcases j2 with ⟨_,rfl⟩|⟨b',v',rfl,_,_,j3,_⟩
       ·exact hsd
       ·simp only[sid]at hsd
        omega
  ·have hlt:i<names.length:=by omega
   rcases x5 with ⟨rfl,_⟩|⟨w0,u0,cs0,k1,k2,k3,k4,k5,k6,k7,k8,k9⟩
   ·simp at hlt
   ·rcases hcs with ⟨e1,_⟩|⟨u9,e1,e2⟩
    ·rw[k1]at e1;cases e1
    ·rw[k1]at e1
     simp only[AV.s.injEq]at e1
     obtain⟨rfl,rfl,_⟩:=e1
     rw[k2]at e2
     cases e2
     obtain⟨cc,j1,j2⟩:=k9 i hlt
     refine⟨cc,by rw[List.getElem?_append_left (by omega)];exact j1,?_⟩
     rw[List.getElem_append_left hlt]
     refine j2.up (fun q h1 h2 h3=>hoth q h1 h2 (fun e=>h3 (.inl e)) (fun e=>h3 (.inr (.inl e))) (by rw[k1];intro e;simp only[sid]at e;exact h3 (.inr (.inr (.inr (.inl e.symm)))))) (fun q _ _ hx => ?_) hn
     rcases hx with hx|hx|hx|hx|⟨j,c',hj,hc',hsd⟩
     ·exact .inl hx
     ·exact .inr (.inl hx)
     ·exact .inr (.inr (.inl hx))
     ·exact .inr (.inr (.inr (.inl hx)))
     ·rw[List.getElem?_append_left (by omega)]at hc'
      exact .inr (.inr (.inr (.inr ⟨j,c',hj,hc',hsd⟩)))
end Go.Proofs.YtbffkkeieihpdaaGreatDoor
