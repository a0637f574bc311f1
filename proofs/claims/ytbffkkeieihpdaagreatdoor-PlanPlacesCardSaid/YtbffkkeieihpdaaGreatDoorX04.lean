import Derived.Test.YtbffkkeieihpdaaGreatDoorX03
import Derived.Laws.Slices
set_option linter.unusedSimpArgs false
set_option linter.unusedVariables false
set_option linter.constructorNameAsVariable false
set_option maxRecDepth 100000
set_option maxHeartbeats 4000000
namespace Go.Eng
open Go Go.RowKit
section
variable {X : Ctx} {K : Nat → Prop} {w0 : World} {ρ : Ren} {F : Nat → Prop} {h : Heap} {w : World} {i : Nat} {hb : Bool}
theorem Rel.ghost (r : Rel X K w0 ρ F h w) (hi : F i) (esz : Nat) :
  ∃ ρ' : Ren, ρ.le ρ' ∧ ρ' i 0 = some (none, 0) ∧ Rel X K w0 ρ' (fun j => F j ∧ j ≠ i) (up h i (some ⟨[], 0, true, esz⟩)) w := by
 obtain ⟨hf1, hf2⟩ := r.free i hi
 let ρ' : Ren := fun j ver => if j = i then (if ver = 0 then some (none, 0) else none) else ρ j ver
 have hle : ρ.le ρ' := fun j ver x e => by
  by_cases hj : j = i
  ·subst hj; rw [hf1] at e; cases e
  ·simp [ρ', hj, e]
 have hi' : ρ' i 0 = some (none, 0) := by simp [ρ']
 have hj' : ∀ j, j ≠ i → ρ' j = ρ j := fun j hj => by funext ver; simp [ρ', hj]
 have hin : ∀ ver p (b : Nat), ρ' i ver = some p → blkOf p ≠ some b := fun ver p b e e2 => by
  simp only [ρ', if_true] at e
  split at e
  ·cases e; cases e2
  ·cases e
 refine ⟨ρ', hle, hi', ⟨r.os, r.tape, r.output, r.size, r.keep, r.kold, r.glob, ?_, ?_, ?_, ?_, ?_⟩⟩
 ·intro j kj hj
  by_cases e : j = i
  ·subst e
   simp only [up_same, Option.some.injEq] at hj
   subst hj
   exact .inr (.inl ⟨hi', rfl⟩)
  ·rw [up_ne _ _ e] at hj
   exact (r.blk j kj hj).mono hle fun _ _ _ _ => rfl
 ·intro a b ka kb blk p1 p2 ha hrwa hb hpa hpb hb1 hb2
  by_cases ea : a = i
  ·subst ea; exact absurd hb1 (hin _ _ _ hpa)
  ·by_cases eb : b = i
   ·subst eb; exact absurd hb2 (hin _ _ _ hpb)
   ·rw [up_ne _ _ ea] at ha
    rw [up_ne _ _ eb] at hb
    rw [hj' a ea] at hpa
    rw [hj' b eb] at hpb
    exact r.apart a b ka kb blk p1 p2 ha hrwa hb hpa hpb hb1 hb2
 ·intro a ka b p1 ha hrwa hpa hb1
  by_cases ea : a = i
  ·subst ea; exact absurd hb1 (hin _ _ _ hpa)
  ·rw [up_ne _ _ ea] at ha
   rw [hj' a ea] at hpa
   exact r.mine a ka b p1 ha hrwa hpa hb1
 ·intro j ⟨hj, hne⟩
  obtain ⟨f1, f2⟩ := r.free j hj
  exact ⟨fun ver => by rw [hj' j hne]; exact f1 ver, by rw [up_ne _ _ hne]; exact f2⟩
 ·intro j kj hj hrj ver hv
  by_cases e : j = i
  ·subst e
   simp only [up_same, Option.some.injEq] at hj
   subst hj
   have : ver ≠ 0 := by have : 0 < ver := hv; omega
   simp [ρ', this]
  ·rw [up_ne _ _ e] at hj
   rw [hj' j e]
   exact r.vers j kj hj hrj ver hv
theorem snd_append_new (r : Rel X K w0 ρ F h w) (hi : F i) {t e ty : TypeId} (hu : X.P.underlying t = some (.slice e)) (he : TyOk X e) (hsz : 0 < (X.ti e).size) {x : AV} {u : Value} (hx : VR ρ x u) (hxs : x.isS)
  (hs : sls h x 0 (x.slen * (X.ti e).size)) (hb1 : x.slen * (X.ti e).bytes ≤ 140737488355328) (hb2 : x.slen ≤ 9223372036854775807) (sd : Prop) :
  Out X K w0 ρ F i true (do pure (.value (← Builtin.append_ #[t, t] ty #[.slice none 0 0, u]))) w ⟨sd, .s i 0 0 x.slen, up h i (some ⟨slc h x 0 (x.slen * (X.ti e).size), 0, true, (X.ti e).size⟩)⟩ := by
 obtain ⟨j, z, hj, hjs, hjb, hz, hzc⟩ := he.info
 have hzs : z.cells.size = (X.ti e).size := by rw [← Array.length_toList, hzc]; exact he.zlen
 obtain ⟨base, c, news, rfl, hnl, hnv, hn1, hnb⟩ := sl_out r hsz hx hxs hs
 have nothing : x.slen = 0 → (Builtin.append_ #[t, t] ty #[.slice none 0 0, .slice base x.slen c]).run X.P w = .ok (.slice none 0 0) w → Out X K w0 ρ F i true (do pure (.value (← Builtin.append_ #[t, t] ty #[.slice none 0 0, .slice base x.slen c]))) w ⟨sd, .s i 0 0 x.slen, up h i (some ⟨slc h x 0 (x.slen * (X.ti e).size), 0, true, (X.ti e).size⟩)⟩ := fun h0 hr => by
  have hnil : news = [] := List.eq_nil_of_length_eq_zero (by rw [hnl, h0]; simp)
  have hsl : slc h x 0 (x.slen * (X.ti e).size) = [] := by have := hnv.length; rw [hnil] at this; exact List.eq_nil_of_length_eq_zero this.symm
  obtain ⟨ρ', q1, q2, q3⟩ := Rel.ghost r hi (X.ti e).size
  refine ⟨_, w, ρ', run_fst hr, q1, by simp only [hsl]; exact q3.anti fun j hj => ⟨hj.1, hj.2 trivial⟩, .inl ⟨_, rfl, ?_⟩⟩
  simp only [VR, h0]
  exact ⟨none, 0, 0, 0, q2, Nat.le_refl _, fun _ => rfl, fun _ => rfl, fun _ => ⟨trivial, rfl⟩, rfl⟩
 rcases hnb with ⟨rfl, h0⟩ | ⟨ad, rfl, had⟩
 ·refine nothing h0 ?_
  rw [h0]
  exact run_append_none w t ty e j hu hj none 0 0 c (Nat.le_refl _)
 ·by_cases h0 : x.slen = 0
  ·refine nothing h0 ?_
   rw [h0]
   exact run_append_zero w t ty e j hu hj ad c
  ·have hr := run_append_nil (P := X.P) w t ty e j z hu hj hz ad x.slen c news (by rw [hjs]; exact hnl) had (by omega) (by omega) (by rw [hjb]; omega)
   have hge := grownCap_ge w x.slen 0 e
   have hw : (w.drew.alloc (.cells (news.toArray ++ Builtin.zeroCells z.cells (grownCap w x.slen 0 e - x.slen)) e)) = { w with heap := w.heap.push (.cells (news ++ (Builtin.zeroCells z.cells (grownCap w x.slen 0 e - x.slen)).toList).toArray e), drawn := w.drawn + 1 } := by
    have hA : (news.toArray ++ Builtin.zeroCells z.cells (grownCap w x.slen 0 e - x.slen)) = (news ++ (Builtin.zeroCells z.cells (grownCap w x.slen 0 e - x.slen)).toList).toArray := by simp
    rw [hA]
    rfl
   rw [hw] at hr
   refine Out.laid (cap := grownCap w x.slen 0 e) r hi e hnv hn1 _ ?_ (w.drawn + 1) _ (run_fst hr) rfl (fun ρ' hp => ?_)
   ·rw [List.length_append, zeroCells_toList, hnl, hzs, ← Nat.add_mul]
    congr 1
    omega
   ·simp only [VR]
    exact ⟨_, _, _, 0, hp, hge, fun _ => rfl, fun _ => rfl, (fun e => by cases e), rfl⟩
theorem snd_slice (r : Rel X K w0 ρ F h w) {t e : TypeId} (hu : X.P.underlying t = some (.slice e)) (he : TyOk X e) {x : AV} {y : Value} (hx : VR ρ x y) {lo hi : Option (Value)} {l hh : Int} (hlo : match lo with | some u => ∃ k, u = .int k l | none => l = 0)
  (hhi : match hi with | some u => ∃ k, u = .int k hh | none => hh = (x.slen : Int)) (h0 : 0 ≤ l) (h1 : l ≤ hh) (h2 : hh ≤ (x.slen : Int)) {z : ARes} (hz : z.h = h)
  (hv : (∃ id ver off len, x = .s id ver off len ∧ 0 < (X.ti e).size ∧ z.val = .s id ver (off + l.toNat * (X.ti e).size) (hh.toNat - l.toNat)) ∨ (x = .v (.slice none 0 0) ∧ z.val = .v (.slice none 0 0))) :
  Out X K w0 ρ F i hb (do pure (.value (← Instr.sliceAt t y lo hi none))) w z := by
 obtain ⟨j, _, hj, hjs, _⟩ := he.info
 have hel : X.P.elem t = e := by simp [Program.elem, hu]
 have hu' : X.P.underlying t = some (.slice (X.P.elem t)) := by rw [hel]; exact hu
 have hsz : (sizeOf (X.P.elem t)).run X.P w = .ok (X.ti e).size w := by rw [hel, run_sizeOf hj, hjs]
 have key : ∀ (a : Option Addr) (cap : Nat), x.slen ≤ cap → (Instr.sliceAt t (.slice a x.slen cap) lo hi none).run X.P w = .ok (sliced a l.toNat hh.toNat cap (X.ti e).size) w := fun a cap hc => by
  rw [run_sliceAt_slice w t _ lo hi none hu']
  cases lo with
  | none =>
   simp only at hlo
   subst hlo
   cases hi with
   | none =>
    simp only at hhi
    subst hhi
    rw [run_slice_all w t a x.slen cap hu', hsz]
    simp
   | some u =>
    obtain ⟨k, rfl⟩ := hhi
    rw [run_slice_h w t a x.slen cap hu' k hh h1 (by omega), hsz]
    simp
  | some v =>
   obtain ⟨kl, rfl⟩ := hlo
   cases hi with
   | none =>
    simp only at hhi
    subst hhi
    rw [run_slice_l w t a x.slen cap hu' kl l h0 h1, hsz]
    simp
   | some u =>
    obtain ⟨k, rfl⟩ := hhi
    rw [run_slice_lh w t a x.slen cap hu' kl k l hh h0 h1 (by omega), hsz]
    simp
 rcases hv with ⟨id, ver, off, len, rfl, hpos, hval⟩ | ⟨rfl, hval⟩
 ·simp only [VR] at hx
  obtain ⟨pa, pc, c', off', hp, hlc, hcc, hoff, hnn, rfl⟩ := hx
  simp only [AV.slen] at h2 key
  refine Out.pure (y := sliced _ l.toNat hh.toNat c' (X.ti e).size) r (run_fst (key _ c' hlc)) hz ?_
  rw [hval]
  simp only [VR]
  refine ⟨pa, pc, c' - l.toNat, ?_, hp, ?_, ?_, ?_, (fun e => by have := hnn e; omega), ?_⟩
  ·exact if c' = l.toNat then off' else off' + l.toNat * (X.ti e).size
  ·omega
  ·intro hz0
   have h5 : l.toNat = 0 := by
    rcases Nat.mul_eq_zero.1 (Nat.eq_zero_of_add_eq_zero_left hz0) with h6 | h6
    ·exact h6
    ·omega
   rw [h5, Nat.sub_zero]
   exact hcc (Nat.eq_zero_of_add_eq_zero_right hz0)
  ·intro hcond
   rcases hcond with hc1 | hc1
   ·have hne : c' ≠ l.toNat := by omega
    rw [if_neg hne, hoff (.inl (by omega))]
   ·have h5 : l.toNat = 0 := by
     rcases Nat.mul_eq_zero.1 (Nat.eq_zero_of_add_eq_zero_left hc1) with h6 | h6
     ·exact h6
     ·omega
    have h7 := Nat.eq_zero_of_add_eq_zero_right hc1
    rw [hoff (.inr h7), h5, h7]
    simp
  ·simp only [sliced]
   by_cases hcl : c' = l.toNat
   ·simp [hcl]
   ·simp only [hcl, if_false]
    cases pa with
    | none => simp
    | some q =>
     simp only [Option.map_some]
     rw [Addr.add_mid]
     simp [Nat.add_assoc]
 ·simp only [VR] at hx
  subst hx
  simp only [AV.slen] at h2 key
  refine Out.pure (y := sliced none l.toNat hh.toNat 0 (X.ti e).size) r (run_fst (key none 0 (Nat.le_refl _))) hz ?_
  rw [hval]
  have h5 : l.toNat = 0 := by omega
  have h6 : hh.toNat = 0 := by omega
  simp [VR, sliced, h5, h6]
abbrev vv (s : Sem Value) : Sem Next := do pure (.value (← s))
theorem run_binI {op : BinOp} {k : IntKind} {a b : Int} {z : AV} (hz : binI op k a b = some z) (hdiv : isDiv op → b ≠ 0) (xt : TypeId) (P : Program) (w : World) : ∃ y, z = .v y ∧ (binOp op xt (.int k a) (.int k b)).run P w = .ok y w := by
 cases op <;> simp only [binI, Option.some.injEq, reduceCtorEq] at hz <;> refine ⟨_, hz.symm, ?_⟩ <;> first
   | (simp [binOp, Op.intArith, Op.intBits, Op.intCmp]; done)
   | (have hb : b ≠ 0 := hdiv (by simp [isDiv])
      simp [binOp, Op.intDiv, hb]; done)
theorem snd_binI (r : Rel X K w0 ρ F h w) {op : BinOp} {k : IntKind} {a b : Int} {z : AV} (hz : binI op k a b = some z) (hdiv : isDiv op → b ≠ 0) (xt : TypeId) (ox oy : Operand) (sd : Prop) :
  Out X K w0 ρ F i hb (vv (do eqGuard op xt ox oy (.int k a) (.int k b); binOp op xt (.int k a) (.int k b))) w ⟨sd, z, h⟩ := by
 have heq : (eqGuard op xt ox oy (.int k a) (.int k b)).run X.P w = .ok () w := by
  unfold eqGuard
  cases op <;> simp
 obtain ⟨y, rfl, hr⟩ := run_binI hz hdiv xt X.P w
 refine Out.pure (y := y) r (run_fst ?_) rfl (by simp only [VR])
 rw [Sem.run_bind, heq]
 exact hr
theorem guard_agg {op : BinOp} {t : TypeId} (hg : X.P.eqGuardType X.P.depth t = false) (ox oy : Operand) (xs ys : Array Value) (w : World) : (eqGuard op t ox oy (.agg xs) (.agg ys)).run X.P w = .ok () w := by
 unfold eqGuard
 cases op <;> simp [hg]
end
end Go.Eng
