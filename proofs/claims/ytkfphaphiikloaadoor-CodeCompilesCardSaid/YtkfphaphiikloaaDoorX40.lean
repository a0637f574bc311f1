/-
  OUR OWN TOOL, PART M: the rest of a region that draws, where it only looks: done in the order of the text.
-/
import Derived.Test.YtkfphaphiikloaaDoorX08
import Derived.Test.YtkfphaphiikloaaDoorX39
set_option linter.unusedSimpArgs false
set_option linter.unusedVariables false
set_option linter.constructorNameAsVariable false
namespace Go.Eng
open Go Go.RowKit

theorem evq : type_of% (
  And.intro @awp_skip <|
  And.intro @awp_label <|
  And.intro @awp_region <|
  And.intro @awp_seq <|
  And.intro @awp_if <|
  And.intro @awp_block <|
  And.intro @awp_ret <|
  And.intro @awp_scope <|
  And.intro @awp_exit <|
  And.intro @thenQ_n <|
  And.intro @thenQ_e <|
  And.intro @thenQ_r <|
  And.intro @blockQ_n <|
  And.intro @blockQ_e <|
  And.intro @blockQ_r <|
  And.intro @finQ_n <|
  And.intro @finQ_r <|
  And.intro @finQ_e <|
  And.intro @aops_nil <|
  And.intro @aops_cons <|
  And.intro @atl_nil <|
  And.intro @List.filter_cons.{0} <|
  And.intro @List.filter_nil.{0} <|
  And.intro @adraw_eq <|
  And.intro @adrawA_nil <|
  And.intro @adrawA_cons <|
  And.intro @Heap.le_refl <|
  And.intro @keepL_refl <|
  And.intro @AV.b.eq_1 <|
  And.intro @AV.b.eq_2 <|
  And.intro @AV.isB.eq_1 <|
  And.intro @AV.isB.eq_2 <|
  And.intro @unc_same <|
  And.intro @unc_tt <|
  And.intro @unc_tf <|
  And.intro @unc_f <|
  And.intro @unc_any <|
  And.intro @unc_v <|
  And.intro @unc_gp <|
  And.intro @unc_p <|
  And.intro @unc_s <|
  And.intro @unc_g <|
  And.intro @unc_e <|
  And.intro @unc_m <|
  And.intro @unc_t <|
  And.intro @unc_fn <|
  And.intro @unc_okb <|
  And.intro @unc_bb <|
  And.intro @unc_isB <|
  And.intro @unc_b <|
  And.intro @AV.bb.eq_1 <|
  And.intro @AV.bb.eq_2 <|
  And.intro @AV.okb.eq_1 <|
  And.intro @AV.okb.eq_2 <|
  And.intro @AV.okg.eq_1 <|
  And.intro @AV.okg.eq_2 <|
  And.intro @AV.gd.eq_1 <|
  And.intro @AV.gd.eq_2 <|
  And.intro @AV.cells.eq_1 <|
  And.intro @AV.cells.eq_2 <|
  And.intro @AV.one.eq_1 <|
  And.intro @AV.one.eq_2 <|
  And.intro @AV.one.eq_3 <|
  And.intro @AV.one.eq_4 <|
  And.intro @AV.one.eq_5 <|
  And.intro @AV.one.eq_6 <|
  And.intro @AV.one.eq_7 <|
  And.intro @AV.slen.eq_1 <|
  And.intro @AV.slen.eq_2 <|
  And.intro @AV.isS.eq_1 <|
  And.intro @AV.isS.eq_2 <|
  And.intro @AV.isS.eq_3 <|
  And.intro @Nat.add_assoc <|
  And.intro @cut_of_le <|
  And.intro @nat_lt0 <| @nat_le0) :=
  And.intro @awp_skip <|
  And.intro @awp_label <|
  And.intro @awp_region <|
  And.intro @awp_seq <|
  And.intro @awp_if <|
  And.intro @awp_block <|
  And.intro @awp_ret <|
  And.intro @awp_scope <|
  And.intro @awp_exit <|
  And.intro @thenQ_n <|
  And.intro @thenQ_e <|
  And.intro @thenQ_r <|
  And.intro @blockQ_n <|
  And.intro @blockQ_e <|
  And.intro @blockQ_r <|
  And.intro @finQ_n <|
  And.intro @finQ_r <|
  And.intro @finQ_e <|
  And.intro @aops_nil <|
  And.intro @aops_cons <|
  And.intro @atl_nil <|
  And.intro @List.filter_cons.{0} <|
  And.intro @List.filter_nil.{0} <|
  And.intro @adraw_eq <|
  And.intro @adrawA_nil <|
  And.intro @adrawA_cons <|
  And.intro @Heap.le_refl <|
  And.intro @keepL_refl <|
  And.intro @AV.b.eq_1 <|
  And.intro @AV.b.eq_2 <|
  And.intro @AV.isB.eq_1 <|
  And.intro @AV.isB.eq_2 <|
  And.intro @unc_same <|
  And.intro @unc_tt <|
  And.intro @unc_tf <|
  And.intro @unc_f <|
  And.intro @unc_any <|
  And.intro @unc_v <|
  And.intro @unc_gp <|
  And.intro @unc_p <|
  And.intro @unc_s <|
  And.intro @unc_g <|
  And.intro @unc_e <|
  And.intro @unc_m <|
  And.intro @unc_t <|
  And.intro @unc_fn <|
  And.intro @unc_okb <|
  And.intro @unc_bb <|
  And.intro @unc_isB <|
  And.intro @unc_b <|
  And.intro @AV.bb.eq_1 <|
  And.intro @AV.bb.eq_2 <|
  And.intro @AV.okb.eq_1 <|
  And.intro @AV.okb.eq_2 <|
  And.intro @AV.okg.eq_1 <|
  And.intro @AV.okg.eq_2 <|
  And.intro @AV.gd.eq_1 <|
  And.intro @AV.gd.eq_2 <|
  And.intro @AV.cells.eq_1 <|
  And.intro @AV.cells.eq_2 <|
  And.intro @AV.one.eq_1 <|
  And.intro @AV.one.eq_2 <|
  And.intro @AV.one.eq_3 <|
  And.intro @AV.one.eq_4 <|
  And.intro @AV.one.eq_5 <|
  And.intro @AV.one.eq_6 <|
  And.intro @AV.one.eq_7 <|
  And.intro @AV.slen.eq_1 <|
  And.intro @AV.slen.eq_2 <|
  And.intro @AV.isS.eq_1 <|
  And.intro @AV.isS.eq_2 <|
  And.intro @AV.isS.eq_3 <|
  And.intro @Nat.add_assoc <|
  And.intro @cut_of_le <|
  And.intro @nat_lt0 <| @nat_le0

section
variable {X : Ctx} {ops : Array Oper} {K : St → Prop}
theorem quiet_gocall {o : Oper} (hq : quietOp X o = true) (e : Nat → AV) : gocall X ops o e = none := by
  unfold quietOp at hq
  unfold gocall
  cases ho : o.op <;> simp only [ho] at hq ⊢
  rename_i c
  cases hc : c.callee <;> simp only [hc] at hq ⊢
  rename_i fo
  cases fo <;> simp only at hq <;> try (cases hq)
  simp [ev, hq]
theorem quiet_new {o : Oper} (hq : quietOp X o = true) : appNew ops o = false := by
  unfold quietOp at hq
  unfold appNew
  cases ho : o.op <;> simp only [ho] at hq ⊢
  rename_i c
  cases hc : c.callee <;> simp only [hc] at hq ⊢
  rename_i b
  cases b <;> simp only at hq ⊢ <;> cases hq
/-- One behind the other. -/
def qseq (X : Ctx) (ops : Array Oper) (K : St → Prop) : List (Nat × Oper) → St → Prop
  | [], s => K s
  | p :: r, s => (aop X ops p.2 s.e s.h s.n s.h).side ∧ qseq X ops K r ⟨setd s.e p.2.dst (aop X ops p.2 s.e s.h s.n s.h).val, s.h, s.n⟩
theorem qseq_nil (s : St) : qseq X ops K [] s = K s := propext ⟨id, id⟩
theorem qseq_cons (p : Nat × Oper) (r : List (Nat × Oper)) (s : St) : qseq X ops K (p :: r) s = ((aop X ops p.2 s.e s.h s.n s.h).side ∧ qseq X ops K r ⟨setd s.e p.2.dst (aop X ops p.2 s.e s.h s.n s.h).val, s.h, s.n⟩) := propext ⟨id, id⟩
def ind2 (ops : Array Oper) (p q : Nat × Oper) : Bool := (match q.2.dst with | some t => !(looks ops p.2).contains t | none => true) && (match p.2.dst with | some t => !(looks ops q.2).contains t | none => true) && (p.2.dst == none || p.2.dst != q.2.dst)
def pairOk (ops : Array Oper) (q p : Nat × Oper) : Bool := p.1 != q.1 && ((p.2.after.toList.any fun e => Region.binds .any e && e.on == q.1) || ind2 ops p q)
def qok (X : Ctx) (ops : Array Oper) : List (Nat × Oper) → Bool
  | [] => true
  | q :: r => quietOp X q.2 && r.all (pairOk ops q) && qok X ops r
theorem qok_is : ∀ {l : List (Nat × Oper)}, qok X ops l = true → (∀ p ∈ l, quietOp X p.2 = true) ∧ l.Pairwise fun q p => pairOk ops q p = true
  | [], _ => ⟨fun _ h => (by cases h), .nil⟩
  | q :: r, h => by
    simp only [qok, Bool.and_eq_true] at h
    obtain ⟨h1, h2⟩ := qok_is h.2
    refine ⟨fun p hp => ?_, .cons (fun p hp => List.all_eq_true.1 h.1.2 p hp) h2⟩
    rcases List.mem_cons.1 hp with rfl | hp
    · exact h.1.1
    · exact h1 p hp
theorem setd_ne {e : Nat → AV} {d : Option Tmp} {v : AV} {t : Tmp} (h : d ≠ some t) : setd e d v t = e t := by
  cases d with
  | none => rfl
  | some d => exact up_ne _ _ fun hh => h (by rw [hh])
theorem setd_comm {e : Nat → AV} {d d' : Option Tmp} {v v' : AV} (h : d = none ∨ d ≠ d') : setd (setd e d v) d' v' = setd (setd e d' v') d v := by
  cases d with
  | none => rfl
  | some a =>
    cases d' with
    | none => rfl
    | some b =>
      have hab : a ≠ b := fun hh => by
        rcases h with h | h
        · cases h
        · exact h (by rw [hh])
      funext t
      simp only [setd]
      by_cases h1 : t = b
      · subst h1
        rw [up_same, up_ne _ _ (Ne.symm hab), up_same]
      · rw [up_ne _ _ h1]
        by_cases h2 : t = a
        · subst h2
          rw [up_same, up_same]
        · rw [up_ne _ _ h2, up_ne _ _ h2, up_ne _ _ h1]
theorem qseq_swap {p q : Nat × Oper} {r : List (Nat × Oper)} {s : St} (i : ind2 ops p q = true) (h : qseq X ops K (q :: p :: r) s) : qseq X ops K (p :: q :: r) s := by
  simp only [ind2, Bool.and_eq_true] at i
  obtain ⟨⟨i1, i2⟩, i3⟩ := i
  have e1 : ∀ v, aop X ops p.2 (setd s.e q.2.dst v) s.h s.n s.h = aop X ops p.2 s.e s.h s.n s.h := fun v => aop_congr fun t ht => setd_ne fun hd => by
    rw [hd] at i1
    simp [ht] at i1
  have e2 : ∀ v, aop X ops q.2 (setd s.e p.2.dst v) s.h s.n s.h = aop X ops q.2 s.e s.h s.n s.h := fun v => aop_congr fun t ht => setd_ne fun hd => by
    rw [hd] at i2
    simp [ht] at i2
  have hd : p.2.dst = none ∨ p.2.dst ≠ q.2.dst := by simpa using i3
  simp only [qseq, e1] at h
  simp only [qseq, e2]
  refine ⟨h.2.1, h.1, ?_⟩
  rw [setd_comm hd]
  exact h.2.2
theorem qseq_move {p : Nat × Oper} {post : List (Nat × Oper)} : ∀ (pre : List (Nat × Oper)) {s : St}, (∀ q ∈ pre, ind2 ops p q = true) → qseq X ops K (pre ++ p :: post) s → qseq X ops K (p :: (pre ++ post)) s
  | [], s, _, h => h
  | q :: pre, s, hi, h => by
    refine qseq_swap (hi q (by simp)) ?_
    simp only [List.cons_append, qseq] at h
    have := qseq_move pre (fun q hq => hi q (by simp [hq])) h.2
    exact ⟨h.1, this⟩
/-- What is left of a region, where it only looks. -/
theorem atl_q {h0 : Heap} : ∀ (f : Nat) {rem : List (Nat × Oper)} {s : St}, rem.length ≤ f → (∀ p ∈ rem, quietOp X p.2 = true) → (rem.Pairwise fun q p => pairOk ops q p = true) → qseq X ops K rem s → atl X ops h0 K f rem s
  | 0, rem, s, _, _, _, h => fun hr => by subst hr; exact h
  | f + 1, rem, s, hl, h1, h2, h => by
    refine ⟨fun hr => (by subst hr; exact h), fun p hp hfree => ?_⟩
    obtain ⟨pre, post, rfl⟩ := List.append_of_mem hp
    have hq := h1 p (by simp)
    obtain ⟨w1, w2, w3⟩ := List.pairwise_append.1 h2
    have hmv := qseq_move pre (fun q hqm => by
      have hpo := w3 q hqm p (by simp)
      simp only [pairOk, Bool.and_eq_true, Bool.or_eq_true] at hpo
      rcases hpo.2 with he | he
      · obtain ⟨ed, hed, hb⟩ := List.any_eq_true.1 he
        simp only [Bool.and_eq_true, beq_iff_eq] at hb
        have := List.all_eq_true.1 hfree ed hed
        rw [hb.1] at this
        simp only [Bool.not_true, Bool.false_or] at this
        have := List.all_eq_true.1 this q (by simp [hqm])
        rw [hb.2] at this
        simp at this
      · exact he) h
    simp only [qseq] at hmv
    have hfl : (pre ++ p :: post).filter (fun q => q.1 != p.1) = pre ++ post := by
      rw [List.filter_append, List.filter_cons_of_neg (by simp)]
      congr 1
      · refine List.filter_eq_self.2 fun q hqm => ?_
        have hpo := w3 q hqm p (by simp)
        simp only [pairOk, Bool.and_eq_true] at hpo
        have := hpo.1
        simp only [bne_iff_ne, ne_eq] at this ⊢
        exact fun hh => this hh.symm
      · refine List.filter_eq_self.2 fun q hqm => ?_
        have hpo := List.rel_of_pairwise_cons w2 hqm
        simp only [pairOk, Bool.and_eq_true] at hpo
        exact hpo.1
    unfold astep
    rw [quiet_gocall hq, aop_quiet hq, quiet_heap hq]
    refine ⟨hmv.1, fun _ => keep_le (Heap.le_refl _), fun hn => (by rw [quiet_new hq] at hn; cases hn), ?_⟩
    rw [hfl]
    refine atl_q f (by simp at hl ⊢; omega) (fun q hqm => h1 q (by rcases List.mem_append.1 hqm with h | h <;> simp [h])) ?_ hmv.2
    exact List.pairwise_append.2 ⟨w1, (List.pairwise_cons.1 w2).2, fun a ha b hb => w3 a ha b (by simp [hb])⟩
theorem atl_quiet {h0 : Heap} {f : Nat} {rem : List (Nat × Oper)} {s : St} (hl : decide (rem.length ≤ f) = true) (hk : qok X ops rem = true) (h : qseq X ops K rem s) : atl X ops h0 K f rem s :=
  atl_q f (by simpa using hl) (qok_is hk).1 (qok_is hk).2 h
/-- A call comes first. -/
theorem atl_call {h0 : Heap} {f : Nat} {p : Nat × Oper} {r : List (Nat × Oper)} {s : St} {g : FuncId} {ags : List AV} (hr : (r.all fun q => !freeOp q.2 (p :: r)) = true) (hg : p.2.guard = none) (hn : appNew ops p.2 = false) (hc : gocall X ops p.2 s.e = some (g, ags))
    (h : ACall X g ags s.h s.n fun v h n => keepL X ops s.e s.h h ∧ atl X ops h0 K f (r.filter fun q => q.1 != p.1) ⟨setd s.e p.2.dst v, h, n⟩) : atl X ops h0 K (f + 1) (p :: r) s := by
  refine ⟨fun hr => (by cases hr), fun q hq hfree => ?_⟩
  rcases List.mem_cons.1 hq with rfl | hq
  · unfold astep
    rw [hc]
    simp only [hg]
    refine h.mono fun v h n hv => ⟨fun _ => hv.1, fun hh => (by rw [hn] at hh; cases hh), ?_⟩
    rw [List.filter_cons_of_neg (by simp)]
    exact hv.2
  · have := List.all_eq_true.1 hr q hq
    rw [hfree] at this
    cases this
end
end Go.Eng

/-
  CodeCompiles: the law's own code, on.
-/
namespace Go.Proofs.YtkfphaphiikloaaDoor
open Go Go.Eng

section
set_option maxRecDepth 100000
set_option maxHeartbeats 4000000
variable {h : Heap} {n : Nat} {sa qa qb qc ta : AV} {v : V3}
theorem law3g1 (w : W3 v) (h6 : Heap) (k wr' p hi : Nat) (e : Nat → AV) (h' : Heap) (n' : Nat) (hpn : p ≤ n') (b : F3 v h6 k ⟨e, h', n'⟩) (c : Room3 ⟨e, h', n'⟩ k wr' p v.t.length v.t) (d : HasP ⟨e, h', n'⟩ 11 p hi (compP v.sc (vars v.q.items) v.t)) {R : St → Prop} (hR : ∀ (e2 : Nat → AV) (h2 : Heap) (n2 : Nat), e2 62 = .v (.bool false) → (∀ i ∈ [2, 3, 4, 7, 8, 9, 10, 11], e2 i = e i) → agree n' h' h2 → Fresh n2 h2 → n' ≤ n2 → R ⟨e2, h2, n2⟩) {Q : Ex → St → Prop} :
    awp (cx S3 (pfL tbl3)) (hdC 1 (hdC 1 (tlC 7 (Tryd.f3.body.getD .skip)))) (thenQ R Q) ⟨e, h', n'⟩ := by
  have at2 := rd_agr b.fr6 b.at2 _ b.ag
  have bt9 := rd_agr b.fr6 b.bt9 _ b.ag
  obtain ⟨m4, a4, q4, b4, r4⟩ := b.as3.up b.fr6 b.ag
  obtain ⟨m5, a5, x5, y5, q5, b5, r5, r5', r5''⟩ := b.aq4.up b.fr6 b.ag
  obtain ⟨m7, a7, q7, b7, r7⟩ := b.bs7.up b.fr6 b.ag
  obtain ⟨m8, a8, x8, y8, q8, b8, r8, r8', r8''⟩ := b.bq8.up b.fr6 b.ag
  have fr := b.frs
  obtain ⟨q13, hw, hw1, hw2, _⟩ := c
  obtain ⟨m11, ca, la, q11, j1, j2, j3, b11, o11⟩ := d
  simp only [] at at2 bt9 fr q4 b4 r4 q5 b5 r5 r5' r5'' q7 b7 r7 q8 b8 r8 r8' r8'' q13 hw hw1 hw2 q11 j3 b11 o11
  obtain ⟨ta, q2⟩ : ∃ x, e 2 = x := ⟨_, rfl⟩
  obtain ⟨tb, q9⟩ : ∃ x, e 9 = x := ⟨_, rfl⟩
  rw [q2] at at2
  rw [q9] at bt9
  obtain ⟨s1, s2, s3, s4, s5⟩ := sl_is at2
  have u3 := (sl_is bt9).2.2.1
  have o4 := (sl_is r4).2.2.2.1
  have o5 := (sl_is r5).2.2.2.1
  have o5' := (sl_is r5').2.2.2.1
  have o5'' := (sl_is r5'').2.2.2.1
  have o7 := (sl_is r7).2.2.2.1
  have o8 := (sl_is r8).2.2.2.1
  have o8' := (sl_is r8').2.2.2.1
  have o8'' := (sl_is r8'').2.2.2.1
  obtain ⟨ca', la', hz, k1, k2, k3, k4, k5, k6⟩ := o11.is
  obtain ⟨rfl, rfl⟩ : ca = ca' ∧ la = la' := by injection hz with hz; injection hz with h1 h2; injection h2 with h2 _; exact ⟨h1, h2⟩
  have hcl : ((v.t ++ marks 40).flatMap ncells).length = (v.t.length + 40) * 6 := by rw [flat_len Flat.nd, List.length_append, marks_len]
  have hl1 : (v.t.length : Int) ≤ (v.t.length : Int) + 40 := by omega
  have hl2 : ((v.t.length : Int) + 40 - (v.t.length : Int)) = 40 := by omega
  have hl3 : v.t.length + 40 - v.t.length = 40 := by omega
  have hl4 : ((v.t.length : Int) + 40).toNat - v.t.length = 40 := by omega
  have rr := room_rd hw
  have gq := deQ_has (q := v.q) r8 r8' r8''
  have L := c22 r7 gq bt9 w.it w.sm w.tl w.sc fr
  generalize hcs : (v.t ++ marks 40).flatMap ncells = cs at *
  simp [evq, resAll, resVal, resOne, freeOp, isA, goOp, appNew, mkOp, gev, Region.binds, aop, aeval, gocall, heapOp, quietOp, ev, constAV, setd, yav, ystop, up, env0, cx_ti, cx_G, cx_pf, ti, globS, glob, pfL, lds, ldc, ldcs_1, ldcs_2, ldcs_3, ldcs_4, ldcs_5, ldcs_7, sts, sth, sls.eq_1, slc.eq_1, wr, place, fillOk, fillC, repZ, binI, isDiv, optInt, optI, eksOk, eksEq, EK.ok, EK.eq, AV.i, AV.isI, AV.isInt, AV.str, AV.isStr, AV.ones, AV.isPtr, AV.gl, AV.isG, Value.oneCell', hdC, tlC, Tryd.f3, q2, q4, q5, q7, q8, q9, q11, q13, b4, b5, b7, b8, b11, s1, s2, s3, u3, o4, o5, o5', o5'', o7, o8, o8', o8'', k1, k2, k3, k4, tbl3]
  refine atl_call (by kernel_rfl) rfl rfl rfl ?_
  refine (acall_any (S := [7]) (by simp [S3]) L).mono ?_
  rintro z h2 n2 ⟨a1, a2, a3, a4'⟩
  refine ⟨keep_le (agr_le fr a1), atl_quiet (by kernel_rfl) (by kernel_rfl) ?_⟩
  obtain ⟨za, zb, rfl, z1, z2⟩ := dePr_out a4'
  obtain ⟨y1, y2, y3, y4, y5'⟩ := sl_is z1
  obtain ⟨x1, x2, x3, x4, x5'⟩ := sl_is z2
  have hP : dePr h2 (.g [ca, la]) = some (compP v.sc (vars v.q.items) v.t) := (o11.up (h' := h2) (fun q _ hq => a1 q (by omega)) (Nat.le_refl _) (Nat.le_refl _)).rd
  have hd21 : de21 h2 [.g [ca, la], .g [za, zb]] = some (compP v.sc (vars v.q.items) v.t, compP v.sc (vars v.q.items) v.t) := by simp only [de21, hP, a4']
  have hok := comp_big (vs := vars v.q.items) (t := v.t) w.tl w.sm
  have hwr2 : h2 wr' = some ⟨(v.t ++ marks 40).flatMap ncells, 41, true, 6⟩ := by rw [a1 wr' (by omega), hw, hcs]
  have hdx : de23 h2 [.g [a4], .g [a7], .g [a5, .v (.int .i64 v.q.mode), .v (.int .i64 v.q.after), x5, .v (.int .i64 v.q.within), .v (.string v.q.par), y5], .g [a8, .v (.int .i64 v.q.mode), .v (.int .i64 v.q.after), x8, .v (.int .i64 v.q.within), .v (.string v.q.par), y8], .s wr' 41 0 v.t.length, tb] = some ⟨v.sc, v.sc, v.q, v.q, v.t, v.t⟩ := by
    have k1 : deSc h2 (.g [a4]) = some v.sc := rd_agr fr r4 _ a1
    have k2 : deSc h2 (.g [a7]) = some v.sc := rd_agr fr r7 _ a1
    have k3 := deQ_has (q := v.q) (rd_agr fr r5 _ a1) (rd_agr fr r5' _ a1) (rd_agr fr r5'' _ a1)
    have k4 := deQ_has (q := v.q) (rd_agr fr r8 _ a1) (rd_agr fr r8' _ a1) (rd_agr fr r8'' _ a1)
    simp only [de23, k1, k2, k3, k4, room_rd hwr2, rd_agr fr bt9 _ a1]
  have htx : TxOk ⟨v.sc, v.sc, v.q, v.q, v.t, v.t⟩ := ⟨rfl, rfl, rfl, w.sc, w.it, w.sm⟩
  have hdt : rd dNs h2 (.s wr' 41 (v.t.length * 6) 40) = some (marks 40) := room_tail hwr2
  have d4 := (a1 m4 (lt_of b4 fr)).trans b4
  have d5 := (a1 m5 (lt_of b5 fr)).trans b5
  have d7 := (a1 m7 (lt_of b7 fr)).trans b7
  have d8 := (a1 m8 (lt_of b8 fr)).trans b8
  generalize compP v.sc (vars v.q.items) v.t = P at *
  simp [evq, resAll, resVal, resOne, freeOp, isA, goOp, appNew, mkOp, gev, Region.binds, aop, aeval, gocall, heapOp, quietOp, ev, constAV, setd, yav, ystop, up, env0, cx_ti, cx_G, cx_pf, ti, globS, glob, pfL, lds, ldc, ldcs_1, ldcs_2, ldcs_3, ldcs_4, ldcs_5, ldcs_7, sts, sth, sls.eq_1, slc.eq_1, wr, place, fillOk, fillC, repZ, binI, isDiv, optInt, optI, eksOk, eksEq, EK.ok, EK.eq, AV.i, AV.isI, AV.isInt, AV.str, AV.isStr, AV.ones, AV.isPtr, AV.gl, AV.isG, Value.oneCell', qseq_nil, qseq_cons, d4, d5, d7, d8, y3, y4, x3, x4, q2, q4, q5, q7, q8, q9, q11, q13, s1, s2, s3, u3, o4, o5, o5', o5'', o7, o8, o8', o8'', k1, k2, k3, k4, tbl3, hl1, hl2, hl3, hl4, G21, pureH, hd21, hok, bv, G23, hdx, htx, G24, deT, hdt]
  exact ⟨hok.2.2, hR _ _ _ (by simp [up]) (by simp [up, q2, q9]) a1 a2 a3⟩
end
end Go.Proofs.YtkfphaphiikloaaDoor

/-
  CodeCompiles: the law's own code, the rest but one.
-/
namespace Go.Proofs.YtkfphaphiikloaaDoor
open Go Go.Eng

section
set_option maxRecDepth 100000
set_option maxHeartbeats 4000000
variable {h : Heap} {n : Nat} {sa qa qb qc ta : AV} {v : V3}
theorem law3g (w : W3 v) (h6 : Heap) (k wr' p hi : Nat) (e : Nat → AV) (h' : Heap) (n' : Nat) (hpn : p ≤ n') (b : F3 v h6 k ⟨e, h', n'⟩) (c : Room3 ⟨e, h', n'⟩ k wr' p v.t.length v.t) (d : HasP ⟨e, h', n'⟩ 11 p hi (compP v.sc (vars v.q.items) v.t)) {Q : Ex → St → Prop} :
    awp (cx S3 (pfL tbl3)) (hdC 1 (tlC 7 (Tryd.f3.body.getD .skip))) (thenQ (fun s => n' ≤ s.n ∧ F3 v h6 k s ∧ Room3 s k wr' p v.t.length v.t ∧ HasP s 11 p hi (compP v.sc (vars v.q.items) v.t)) Q) ⟨e, h', n'⟩ := by
  obtain ⟨cd, e0⟩ : ∃ cd, hdC 1 (tlC 7 (Tryd.f3.body.getD .skip)) = .seq (hdC 1 (hdC 1 (tlC 7 (Tryd.f3.body.getD .skip)))) cd := ⟨_, rfl⟩
  rw [e0, awp_seq]
  refine law3g1 w h6 k wr' p hi e h' n' hpn b c d ?_
  intro e2 h2 n2 q62 he a1 a2 a3
  have hn := d.choose_spec.choose_spec.choose_spec.2.2.2.1
  simp only [] at hn
  have hc : cd = _ := (Code.seq.inj e0).2.symm
  subst hc
  simp [evs, resAll, resVal, resOne, freeOp, isA, goOp, appNew, mkOp, gev, Region.binds, aop, aeval, gocall, heapOp, quietOp, ev, constAV, setd, yav, ystop, up, env0, cx_ti, cx_G, cx_pf, ti, globS, glob, pfL, lds, ldc, ldcs_1, ldcs_2, ldcs_3, ldcs_4, ldcs_5, ldcs_7, sts, sth, sls.eq_1, slc.eq_1, wr, place, fillOk, fillC, repZ, binI, isDiv, optInt, optI, eksOk, eksEq, EK.ok, EK.eq, AV.i, AV.isI, AV.isInt, AV.str, AV.isStr, AV.ones, AV.isPtr, AV.gl, AV.isG, Value.oneCell', hdC, tlC, Tryd.f3, q62]
  have kn := b.kn
  simp only [] at kn
  exact ⟨a3, b.up (fun i hi => he i (by revert hi; simp; omega)) (fun j hj => a1 j (by omega)) a2 a3, c.up (he 10 (by simp)) (a1 _ (by have := c.2.2.2.1; omega)) (Nat.le_refl _), d.up (he 11 (by simp)) (fun q _ hq => a1 q (by omega)) a3⟩
theorem law3h (w : W3 v) (h6 : Heap) (k wr' p hi : Nat) (e : Nat → AV) (h' : Heap) (n' : Nat) (hpn : p ≤ n') (b : F3 v h6 k ⟨e, h', n'⟩) (c : Room3 ⟨e, h', n'⟩ k wr' p v.t.length v.t) (d : HasP ⟨e, h', n'⟩ 11 p hi (compP v.sc (vars v.q.items) v.t)) {Q : Ex → St → Prop} :
    awp (cx S3 (pfL tbl3)) (hdC 1 (tlC 8 (Tryd.f3.body.getD .skip))) (thenQ (fun s => n' ≤ s.n ∧ F3 v h6 k s ∧ Room3 s k wr' p v.t.length v.t ∧ HasP s 11 p hi (compP v.sc (vars v.q.items) v.t) ∧ HasT s 12 n' s.n (compP v.sc (vars v.q.items) v.t)) Q) ⟨e, h', n'⟩ := by
  have b0 := b
  have c0 := c
  have d0 := d
  have fr := b.frs
  have kn := b.kn
  have hsm := comp_sm (vs := vars v.q.items) w.tl w.sm
  have hw2 := c.2.2.2.1
  obtain ⟨m11, ca, la, q11, j1, j2, j3, b11, o11⟩ := d
  simp only [] at fr kn q11 j3 b11 o11
  simp [evs, resAll, resVal, resOne, freeOp, isA, goOp, appNew, mkOp, gev, Region.binds, aop, aeval, gocall, heapOp, quietOp, ev, constAV, setd, yav, ystop, up, env0, cx_ti, cx_G, cx_pf, ti, globS, glob, pfL, lds, ldc, ldcs_1, ldcs_2, ldcs_3, ldcs_4, ldcs_5, ldcs_7, sts, sth, sls.eq_1, slc.eq_1, wr, place, fillOk, fillC, repZ, binI, isDiv, optInt, optI, eksOk, eksEq, EK.ok, EK.eq, AV.i, AV.isI, AV.isInt, AV.str, AV.isStr, AV.ones, AV.isPtr, AV.gl, AV.isG, Value.oneCell', hdC, tlC, Tryd.f3, q11, b11, tbl3]
  refine (acall_any (S := []) (by simp) (c25 o11.rd hsm fr)).mono ?_
  rintro z h2 n2 ⟨a1, a2, a3, a4⟩
  obtain ⟨w', zb, rfl, o2, o3, o4, o5⟩ := a4
  obtain ⟨v1, v2, v3, v4, v5⟩ := o5.is
  simp [evs, resAll, resVal, resOne, freeOp, isA, goOp, appNew, mkOp, gev, Region.binds, aop, aeval, gocall, heapOp, quietOp, ev, constAV, setd, yav, ystop, up, env0, cx_ti, cx_G, cx_pf, ti, globS, glob, pfL, lds, ldc, ldcs_1, ldcs_2, ldcs_3, ldcs_4, ldcs_5, ldcs_7, sts, sth, sls.eq_1, slc.eq_1, wr, place, fillOk, fillC, repZ, binI, isDiv, optInt, optI, eksOk, eksEq, EK.ok, EK.eq, AV.i, AV.isI, AV.isInt, AV.str, AV.isStr, AV.ones, AV.isPtr, AV.gl, AV.isG, Value.oneCell', v4]
  generalize compP v.sc (vars v.q.items) v.t = P at *
  have hag : ∀ b1 b2, agree n' h' (up (up h2 n2 b1) n2 b2) := fun b1 b2 => by simp [agree_up, a1, a3]
  refine ⟨by omega, b0.up (by simp [up]) (fun j hj => hag _ _ j (by omega)) (by simp [fresh_up, a2.add]) (by first | omega | (simp only []; omega)), c0.up (by simp [up]) (hag _ _ _ (by omega)) (Nat.le_refl _), d0.up (by simp [up]) (fun q _ hq => hag _ _ q (by omega)) (by first | omega | (simp only []; omega)), n2, .s w' 1 0 P.code.length, zb, by simp [up], by omega, by simp, by simp, by simp [up], ?_⟩
  refine OwnP.congr ⟨w', zb, rfl, o2, Nat.le_trans (by omega) o3, o4, o5⟩ (fun q h1 h2 => ?_) (by first | omega | (simp only []; omega))
  simp only []
  rw [up_ne _ _ (by omega), up_ne _ _ (by omega)]
theorem law3i (w : W3 v) (h6 : Heap) (k wr' p hi lo hi' : Nat) (e : Nat → AV) (h' : Heap) (n' : Nat) (hpn : p ≤ n') (hpl : p ≤ lo) (b : F3 v h6 k ⟨e, h', n'⟩) (c : Room3 ⟨e, h', n'⟩ k wr' p v.t.length v.t) {P : Pr} (d : HasP ⟨e, h', n'⟩ 11 p hi P) (f : HasT ⟨e, h', n'⟩ 12 lo hi' P) {Q : Ex → St → Prop} :
    awp (cx S3 (pfL tbl3)) (hdC 1 (tlC 9 (Tryd.f3.body.getD .skip))) (thenQ (fun s => n' ≤ s.n ∧ F3 v h6 k s ∧ (∃ t, Room3 s k wr' p v.t.length t) ∧ HasP s 11 p hi P ∧ HasT s 12 lo hi' P) Q) ⟨e, h', n'⟩ := by
  have b0 := b
  have d0 := d
  have f0 := f
  have at2 := rd_agr b.fr6 b.at2 _ b.ag
  have fr := b.frs
  obtain ⟨q13, hw, hw1, hw2, _⟩ := c
  simp only [] at at2 fr q13 hw hw1 hw2
  obtain ⟨ta, q2⟩ : ∃ x, e 2 = x := ⟨_, rfl⟩
  rw [q2] at at2
  obtain ⟨s1, s2, s3, s4, s5⟩ := sl_is at2
  have hcl : ((v.t ++ marks 40).flatMap ncells).length = (v.t.length + 40) * 6 := by rw [flat_len Flat.nd, List.length_append, marks_len]
  have hl1 : (v.t.length : Int) ≤ (v.t.length : Int) + 40 := by omega
  have hw' : h' wr' = some ⟨v.t.flatMap ncells ++ (marks 40).flatMap ncells, 41, true, 6⟩ := by rw [hw, List.flatMap_append]
  simp [evs, resAll, resVal, resOne, freeOp, isA, goOp, appNew, mkOp, gev, Region.binds, aop, aeval, gocall, heapOp, quietOp, ev, constAV, setd, yav, ystop, up, env0, cx_ti, cx_G, cx_pf, ti, globS, glob, pfL, lds, ldc, ldcs_1, ldcs_2, ldcs_3, ldcs_4, ldcs_5, ldcs_7, sts, sth, sls.eq_1, slc.eq_1, wr, place, fillOk, fillC, repZ, binI, isDiv, optInt, optI, eksOk, eksEq, EK.ok, EK.eq, AV.i, AV.isI, AV.isInt, AV.str, AV.isStr, AV.ones, AV.isPtr, AV.gl, AV.isG, Value.oneCell', hdC, tlC, Tryd.f3, q2, q13, s1, s2, s3, tbl3, hl1]
  refine (acall_any (S := []) (by simp) (c26 hw' (by have := w.t1; unfold smallT; omega) w.t2 fr (by omega))).mono ?_
  rintro z h2 n2 ⟨a1, a2, a3, t', a4, a5, a6⟩
  try simp [evs, resAll, resVal, resOne, freeOp, isA, goOp, appNew, mkOp, gev, Region.binds, aop, aeval, gocall, heapOp, quietOp, ev, constAV, setd, yav, ystop, up, env0, cx_ti, cx_G, cx_pf, ti, globS, glob, pfL, lds, ldc, ldcs_1, ldcs_2, ldcs_3, ldcs_4, ldcs_5, ldcs_7, sts, sth, sls.eq_1, slc.eq_1, wr, place, fillOk, fillC, repZ, binI, isDiv, optInt, optI, eksOk, eksEq, EK.ok, EK.eq, AV.i, AV.isI, AV.isInt, AV.str, AV.isStr, AV.ones, AV.isPtr, AV.gl, AV.isG, Value.oneCell']
  exact ⟨a3, b0.up (by simp [up, q2]) (fun j hj => a1 j (by omega)) a2 a3, ⟨t', by simp [up, q13], by rw [List.flatMap_append]; exact a6, hw1, hw2, a4⟩, d0.up (by simp [up]) (fun m hm _ => a1 m (by omega)) a3, f0.up (by simp [up]) (fun m hm _ => a1 m (by omega)) a3⟩
theorem law3j (w : W3 v) (h6 : Heap) (k wr' p hi lo hi' : Nat) (t : List Nd) (e : Nat → AV) (h' : Heap) (n' : Nat) (hpn : p ≤ n') (b : F3 v h6 k ⟨e, h', n'⟩) (c : Room3 ⟨e, h', n'⟩ k wr' p v.t.length t) {P : Pr} (d : HasP ⟨e, h', n'⟩ 11 p hi P) (f : HasT ⟨e, h', n'⟩ 12 lo hi' P) {Q : Ex → St → Prop} :
    awp (cx S3 (pfL tbl3)) (hdC 1 (tlC 10 (Tryd.f3.body.getD .skip))) (thenQ (fun s => n' ≤ s.n ∧ F3 v h6 k s ∧ Room3 s k wr' p v.t.length t ∧ HasP s 11 p hi P ∧ HasT s 12 lo hi' P ∧ HasP s 13 n' s.n (compP v.sc (vars v.q.items) t)) Q) ⟨e, h', n'⟩ := by
  have b0 := b
  have c0 := c
  have d0 := d
  have f0 := f
  have at2 := rd_agr b.fr6 b.at2 _ b.ag
  obtain ⟨m4, a4, q4, b4, r4⟩ := b.as3.up b.fr6 b.ag
  obtain ⟨m5, a5, x5, y5, q5, b5, r5, r5', r5''⟩ := b.aq4.up b.fr6 b.ag
  have fr := b.frs
  have kn := b.kn
  obtain ⟨q13, hw, hw1, hw2, htl⟩ := c
  have dn := d.choose_spec.choose_spec.choose_spec.2.2.2.1
  have fn := f.choose_spec.choose_spec.choose_spec.2.2.2.1
  simp only [] at at2 fr kn q4 b4 r4 q5 b5 r5 r5' r5'' q13 hw hw1 hw2 dn fn
  have tsm : smallT t := by have := w.sm; unfold smallT at *; omega
  obtain ⟨ta, q2⟩ : ∃ x, e 2 = x := ⟨_, rfl⟩
  rw [q2] at at2
  obtain ⟨s1, s2, s3, s4, s5⟩ := sl_is at2
  have o4 := (sl_is r4).2.2.2.1
  have o5 := (sl_is r5).2.2.2.1
  have o5' := (sl_is r5').2.2.2.1
  have o5'' := (sl_is r5'').2.2.2.1
  have hcl : ((t ++ marks 40).flatMap ncells).length = (v.t.length + 40) * 6 := by rw [flat_len Flat.nd, List.length_append, marks_len, htl]
  have hl1 : (v.t.length : Int) ≤ (v.t.length : Int) + 40 := by omega
  have rr : rd dNs h' (.s wr' 41 0 v.t.length) = some t := by rw [← htl]; exact room_rd hw
  have gq := deQ_has (q := v.q) r5 r5' r5''
  simp [evs, resAll, resVal, resOne, freeOp, isA, goOp, appNew, mkOp, gev, Region.binds, aop, aeval, gocall, heapOp, quietOp, ev, constAV, setd, yav, ystop, up, env0, cx_ti, cx_G, cx_pf, ti, globS, glob, pfL, lds, ldc, ldcs_1, ldcs_2, ldcs_3, ldcs_4, ldcs_5, ldcs_7, sts, sth, sls.eq_1, slc.eq_1, wr, place, fillOk, fillC, repZ, binI, isDiv, optInt, optI, eksOk, eksEq, EK.ok, EK.eq, AV.i, AV.isI, AV.isInt, AV.str, AV.isStr, AV.ones, AV.isPtr, AV.gl, AV.isG, Value.oneCell', hdC, tlC, Tryd.f3, q2, q4, q5, q13, b4, b5, s1, s2, s3, o4, o5, o5', o5'', tbl3, hl1]
  have fin : ∀ (e2 : Nat → AV) (h3 : Heap) (n3 m : Nat) (ca la : AV), (∀ i ∈ [2, 3, 4, 7, 8, 9], e2 i = e i) → e2 10 = e 10 → e2 11 = e 11 → e2 12 = e 12 → e2 13 = .p m 0 0 → agree n' h' h3 → Fresh n3 h3 → n' ≤ n3 → n' ≤ m → m < n3 → h3 m = some ⟨[ca, la], 0, true, 2⟩ → OwnQ h3 n' n3 (.g [ca, la]) (compP v.sc (vars v.q.items) t) → n' ≤ n3 ∧ F3 v h6 k ⟨e2, h3, n3⟩ ∧ Room3 ⟨e2, h3, n3⟩ k wr' p v.t.length t ∧ HasP ⟨e2, h3, n3⟩ 11 p hi P ∧ HasT ⟨e2, h3, n3⟩ 12 lo hi' P ∧ HasP ⟨e2, h3, n3⟩ 13 n' n3 (compP v.sc (vars v.q.items) t) :=
    fun e2 h3 n3 m ca la k1 k10 k11 k12 k13 ka kf kn3 km km2 kb ko => ⟨kn3, b0.up k1 (fun j hj => ka j (by omega)) kf kn3, c0.up k10 (ka _ (by omega)) (Nat.le_refl _), d0.up k11 (fun q _ hq => ka q (by omega)) kn3, f0.up k12 (fun q _ hq => ka q (by omega)) kn3, m, ca, la, k13, km, km2, Nat.le_refl _, kb, ko⟩
  refine ⟨?_, ?_⟩
  · refine (acall_any (S := [7]) (by simp [S3]) (c20 r4 gq rr w.it tsm w.tl w.sc fr)).mono ?_
    rintro z h2 n2 ⟨a1, a2, a3, a4⟩
    refine ⟨keep_le (agr_le fr a1), ?_⟩
    obtain ⟨ca, la, rfl, k1, k2, k3, k4, k5, k6⟩ := a4.is
    have ho : ∀ b1 b2 : Option Blk, OwnQ (up (up h2 n2 b1) n2 b2) n' (n2 + 2) (.g [ca, la]) (compP v.sc (vars v.q.items) t) := fun b1 b2 => a4.up (fun q h1 h2 => by rw [up_ne _ _ (by omega), up_ne _ _ (by omega)]) (Nat.le_refl _) (by omega)
    have hf2 : ∀ b1 b2 : Option Blk, Fresh (n2 + 2) (up (up h2 n2 b1) n2 b2) := fun b1 b2 => by simp [fresh_up, a2.add]
    have hg2 : ∀ b1 b2 : Option Blk, agree n' h' (up (up h2 n2 b1) n2 b2) := fun b1 b2 => by simp [agree_up, a1, a3]
    simp [evs, resAll, resVal, resOne, freeOp, isA, goOp, appNew, mkOp, gev, Region.binds, aop, aeval, gocall, heapOp, quietOp, ev, constAV, setd, yav, ystop, up, env0, cx_ti, cx_G, cx_pf, ti, globS, glob, pfL, lds, ldc, ldcs_1, ldcs_2, ldcs_3, ldcs_4, ldcs_5, ldcs_7, sts, sth, sls.eq_1, slc.eq_1, wr, place, fillOk, fillC, repZ, binI, isDiv, optInt, optI, eksOk, eksEq, EK.ok, EK.eq, AV.i, AV.isI, AV.isInt, AV.str, AV.isStr, AV.ones, AV.isPtr, AV.gl, AV.isG, Value.oneCell', k1, k2, k3, k4, k5, k6]
    exact fin _ _ _ n2 ca la (by simp [up]) (by simp [up]) (by simp [up]) (by simp [up]) (by simp [up]) (hg2 _ _) (hf2 _ _) (by omega) (by omega) (by omega) (by simp [up]) (ho _ _)
  · have frA : ∀ b, Fresh (n' + 1) (up h' n' b) := fun b => (fresh_up (by omega) b).2 (fr.add 1)
    have agA : ∀ b, agree n' h' (up h' n' b) := fun b => (agree_up (by omega) b).2 (agree_refl _ _)
    refine (acall_any (S := [7]) (by simp [S3]) (c20 (rd_agr fr r4 _ (agA _)) (deQ_has (q := v.q) (rd_agr fr r5 _ (agA _)) (rd_agr fr r5' _ (agA _)) (rd_agr fr r5'' _ (agA _))) (rd_agr fr rr _ (agA _)) w.it tsm w.tl w.sc (frA _))).mono ?_
    rintro z h2 n2 ⟨a1, a2, a3, a4⟩
    refine ⟨keep_le (agr_le (frA _) a1), ?_⟩
    obtain ⟨ca, la, rfl, k1, k2, k3, k4, k5, k6⟩ := a4.is
    have hx : h2 n' = some ⟨[.v (.slice none 0 0), .v (.slice none 0 0)], 0, true, 2⟩ := by rw [a1 n' (by omega), up_same]
    have ho : ∀ b1 : Option Blk, OwnQ (up h2 n' b1) n' (n2 + 1) (.g [ca, la]) (compP v.sc (vars v.q.items) t) := fun b1 => a4.up (fun q h1 h2 => by rw [up_ne _ _ (by omega)]) (by omega) (by omega)
    have hf2 : ∀ b1 : Option Blk, Fresh (n2 + 1) (up h2 n' b1) := fun b1 => (fresh_up (by omega) b1).2 (a2.add 1)
    have hg2 : ∀ b1 : Option Blk, agree n' h' (up h2 n' b1) := fun b1 j hj => by rw [up_ne _ _ (by omega), a1 j (by omega), up_ne _ _ (by omega)]
    simp [evs, resAll, resVal, resOne, freeOp, isA, goOp, appNew, mkOp, gev, Region.binds, aop, aeval, gocall, heapOp, quietOp, ev, constAV, setd, yav, ystop, up, env0, cx_ti, cx_G, cx_pf, ti, globS, glob, pfL, lds, ldc, ldcs_1, ldcs_2, ldcs_3, ldcs_4, ldcs_5, ldcs_7, sts, sth, sls.eq_1, slc.eq_1, wr, place, fillOk, fillC, repZ, binI, isDiv, optInt, optI, eksOk, eksEq, EK.ok, EK.eq, AV.i, AV.isI, AV.isInt, AV.str, AV.isStr, AV.ones, AV.isPtr, AV.gl, AV.isG, Value.oneCell', k1, k2, k3, k4, k5, k6, hx]
    exact fin _ _ _ n' ca la (by simp [up]) (by simp [up]) (by simp [up]) (by simp [up]) (by simp [up]) (hg2 _) (hf2 _) (by omega) (by omega) (by omega) (by simp [up]) (ho _)
end
end Go.Proofs.YtkfphaphiikloaaDoor

/-
  CodeCompiles: the law's own code, its end.
-/
namespace Go.Proofs.YtkfphaphiikloaaDoor
open Go Go.Eng

section
set_option maxRecDepth 100000
set_option maxHeartbeats 4000000
variable {h : Heap} {n : Nat} {sa qa qb qc ta : AV} {v : V3}
theorem law3k (w : W3 v) (h6 : Heap) (k wr' p hi lo hi' lo2 hi2 : Nat) (t : List Nd) (e : Nat → AV) (h' : Heap) (n' : Nat) (hpn : p ≤ n') (b : F3 v h6 k ⟨e, h', n'⟩) (c : Room3 ⟨e, h', n'⟩ k wr' p v.t.length t) (d : HasP ⟨e, h', n'⟩ 11 p hi (compP v.sc (vars v.q.items) v.t)) (f : HasT ⟨e, h', n'⟩ 12 lo hi' (compP v.sc (vars v.q.items) v.t)) (g : HasP ⟨e, h', n'⟩ 13 lo2 hi2 (compP v.sc (vars v.q.items) t)) :
    awp (cx S3 (pfL tbl3)) (tlC 11 (Tryd.f3.body.getD .skip)) (finQ (cx S3 (pfL tbl3)) Tryd.f3 fun z _ _ => z = bv true) ⟨e, h', n'⟩ := by
  have at2 := rd_agr b.fr6 b.at2 _ b.ag
  obtain ⟨m7, a7, q7, b7, r7⟩ := b.bs7.up b.fr6 b.ag
  obtain ⟨m8, a8, x8, y8, q8, b8, r8, r8', r8''⟩ := b.bq8.up b.fr6 b.ag
  have fr := b.frs
  obtain ⟨q13, hw, hw1, hw2, htl⟩ := c
  obtain ⟨m11, ca, la, q11, j1, j2, j3, b11, o11⟩ := d
  obtain ⟨m12, cb, lb, q12, i1, i2, i3, b12, o12⟩ := f
  obtain ⟨m13, cc, lc, q10, g1, g2, g3, b13, o13⟩ := g
  simp only [] at at2 fr q7 b7 r7 q8 b8 r8 r8' r8'' q13 hw hw1 hw2 q11 j3 b11 o11 q12 i3 b12 o12 q10 g3 b13 o13
  obtain ⟨ta, q2⟩ : ∃ x, e 2 = x := ⟨_, rfl⟩
  rw [q2] at at2
  obtain ⟨s1, s2, s3, s4, s5⟩ := sl_is at2
  have tsm : smallT t := by have := w.sm; unfold smallT at *; omega
  have o7 := (sl_is r7).2.2.2.1
  have o8 := (sl_is r8).2.2.2.1
  have o8' := (sl_is r8').2.2.2.1
  have o8'' := (sl_is r8'').2.2.2.1
  have hcl : ((t ++ marks 40).flatMap ncells).length = (v.t.length + 40) * 6 := by rw [flat_len Flat.nd, List.length_append, marks_len, htl]
  have hl1 : (v.t.length : Int) ≤ (v.t.length : Int) + 40 := by omega
  have rr : rd dNs h' (.s wr' 41 0 v.t.length) = some t := by rw [← htl]; exact room_rd hw
  obtain ⟨ca1, la1, hz, k1, k2, k3, k4, k5, k6⟩ := o11.is
  obtain ⟨rfl, rfl⟩ : ca = ca1 ∧ la = la1 := by injection hz with hz; injection hz with h1 h2; injection h2 with h2 _; exact ⟨h1, h2⟩
  obtain ⟨cc1, lc1, hz2, kc1, kc2, kc3, kc4, kc5, kc6⟩ := o13.is
  obtain ⟨rfl, rfl⟩ : cc = cc1 ∧ lc = lc1 := by injection hz2 with hz; injection hz with h1 h2; injection h2 with h2 _; exact ⟨h1, h2⟩
  obtain ⟨db, eb, e12, r12, r12'⟩ := dePr_out o12.rd
  obtain ⟨rfl, rfl⟩ : cb = db ∧ lb = eb := by injection e12 with hz; injection hz with h1 h2; injection h2 with h2 _; exact ⟨h1, h2⟩
  obtain ⟨u1, u2, u3, u4, u5⟩ := sl_is r12
  obtain ⟨v1, v2, v3, v4, v5⟩ := sl_is r12'
  generalize hcs : (t ++ marks 40).flatMap ncells = cs at *
  simp [evq, resAll, resVal, resOne, freeOp, isA, goOp, appNew, mkOp, gev, Region.binds, aop, aeval, gocall, heapOp, quietOp, ev, constAV, setd, yav, ystop, up, env0, cx_ti, cx_G, cx_pf, ti, globS, glob, pfL, lds, ldc, ldcs_1, ldcs_2, ldcs_3, ldcs_4, ldcs_5, ldcs_7, sts, sth, sls.eq_1, slc.eq_1, wr, place, fillOk, fillC, repZ, binI, isDiv, optInt, optI, eksOk, eksEq, EK.ok, EK.eq, AV.i, AV.isI, AV.isInt, AV.str, AV.isStr, AV.ones, AV.isPtr, AV.gl, AV.isG, Value.oneCell', hdC, tlC, Tryd.f3, q2, q7, q8, q10, q11, q12, q13, b7, b8, b11, b12, b13, s1, s2, s3, o7, o8, o8', o8'', k1, k2, k3, k4, kc1, kc2, kc3, kc4, u3, u4, u5, v3, v4, v5, tbl3, hl1]
  refine atl_call (by kernel_rfl) rfl rfl rfl ?_
  refine (acall_any (S := []) (by simp) (c18 rr tsm fr)).mono ?_
  rintro z h2 n2 ⟨a1, a2, a3, w2, rfl, hw9, hw10, hw11⟩
  refine ⟨keep_le (agr_le fr a1), ?_⟩
  have rt2 : rd dNs h2 (.s w2 1 0 t.length) = some t := flat_in Flat.nd (l := t) hw9 rfl (r := []) (by simp)
  have y3 := (sl_is rt2).2.2.1
  simp [evq, resAll, resVal, resOne, freeOp, isA, goOp, appNew, mkOp, gev, Region.binds, aop, aeval, gocall, heapOp, quietOp, ev, constAV, setd, yav, ystop, up, env0, cx_ti, cx_G, cx_pf, ti, globS, glob, pfL, lds, ldc, ldcs_1, ldcs_2, ldcs_3, ldcs_4, ldcs_5, ldcs_7, sts, sth, sls.eq_1, slc.eq_1, wr, place, fillOk, fillC, repZ, binI, isDiv, optInt, optI, eksOk, eksEq, EK.ok, EK.eq, AV.i, AV.isI, AV.isInt, AV.str, AV.isStr, AV.ones, AV.isPtr, AV.gl, AV.isG, Value.oneCell', y3, tbl3]
  refine atl_call (by kernel_rfl) rfl rfl rfl ?_
  refine (acall_any (S := [7]) (by simp [S3]) (c22 (rd_agr fr r7 _ a1) (deQ_has (q := v.q) (rd_agr fr r8 _ a1) (rd_agr fr r8' _ a1) (rd_agr fr r8'' _ a1)) rt2 w.it tsm w.tl w.sc a2)).mono ?_
  rintro z3 h3 n3 ⟨c1, c2, c3, c4⟩
  refine ⟨keep_le (agr_le a2 c1), atl_quiet (by kernel_rfl) (by kernel_rfl) ?_⟩
  have ag3 : agree n' h' h3 := agree_trans a1 c1 a3
  obtain ⟨za, zb, rfl, z1, z2⟩ := dePr_out c4
  have hP : dePr h3 (.g [ca, la]) = some (compP v.sc (vars v.q.items) v.t) := (o11.up (h' := h3) (fun q _ hq => ag3 q (by omega)) (Nat.le_refl _) (Nat.le_refl _)).rd
  have hT : dePr h3 (.g [cb, lb]) = some (compP v.sc (vars v.q.items) v.t) := dePr_in (rd_agr fr r12 _ ag3) (rd_agr fr r12' _ ag3)
  have hA : dePr h3 (.g [cc, lc]) = some (compP v.sc (vars v.q.items) t) := (o13.up (h' := h3) (fun q _ hq => ag3 q (by omega)) (Nat.le_refl _) (Nat.le_refl _)).rd
  have hd1 : de21 h3 [.g [cc, lc], .g [za, zb]] = some (compP v.sc (vars v.q.items) t, compP v.sc (vars v.q.items) t) := by simp only [de21, hA, c4]
  have hd2 : de21 h3 [.g [ca, la], .g [cb, lb]] = some (compP v.sc (vars v.q.items) v.t, compP v.sc (vars v.q.items) v.t) := by simp only [de21, hP, hT]
  have hok := comp_big (vs := vars v.q.items) (t := v.t) w.tl w.sm
  have hok2 := comp_big (vs := vars v.q.items) (t := t) w.tl tsm
  have d11 := (ag3 m11 (lt_of b11 fr)).trans b11
  have d12 := (ag3 m12 (lt_of b12 fr)).trans b12
  generalize compP v.sc (vars v.q.items) v.t = P at *
  generalize compP v.sc (vars v.q.items) t = P2 at *
  simp [evq, resAll, resVal, resOne, freeOp, isA, goOp, appNew, mkOp, gev, Region.binds, aop, aeval, gocall, heapOp, quietOp, ev, constAV, setd, yav, ystop, up, env0, cx_ti, cx_G, cx_pf, ti, globS, glob, pfL, lds, ldc, ldcs_1, ldcs_2, ldcs_3, ldcs_4, ldcs_5, ldcs_7, sts, sth, sls.eq_1, slc.eq_1, wr, place, fillOk, fillC, repZ, binI, isDiv, optInt, optI, eksOk, eksEq, EK.ok, EK.eq, AV.i, AV.isI, AV.isInt, AV.str, AV.isStr, AV.ones, AV.isPtr, AV.gl, AV.isG, Value.oneCell', qseq_nil, qseq_cons, d11, d12, q2, q7, q8, q10, q11, q12, q13, k1, k2, k3, k4, kc1, kc2, kc3, kc4, u3, u4, u5, v3, v4, v5, tbl3, G21, pureH, hd1, hd2, hok, hok2, bv]
  exact ⟨hok2.2.2, hok.2.2⟩
theorem law3 (e1 : rd dTys h sa = some v.sc) (e2 : rd dIts h qa = some v.q.items) (e3 : rd dNs h qb = some v.q.wh) (e4 : rd dNss h qc = some v.q.ret) (e5 : rd dNs h ta = some v.t) (w : W3 v) (hn : Fresh n h) :
    awp (cx S3 (pfL tbl3)) (Tryd.f3.body.getD .skip) (finQ (cx S3 (pfL tbl3)) Tryd.f3 fun z _ _ => z = bv true) ⟨env0 [.g [sa], .g [qa, .v (.int .i64 v.q.mode), .v (.int .i64 v.q.after), qb, .v (.int .i64 v.q.within), .v (.string v.q.par), qc], ta], roH h, n⟩ := by
  refine awp_cut 2 _ _ (law3a e1 e2 e3 e4 e5 w hn _ rfl rfl rfl) fun x1 h1 n1 b1 => ?_
  refine awp_cut 1 _ _ (law3b w x1 h1 n1 b1) fun x2 h2 n2 ⟨b2, c2⟩ => ?_
  refine awp_cut 1 _ _ (law3c w x2 h2 n2 b2 c2) fun x3 h3 n3 ⟨b3, c3, d3⟩ => ?_
  refine awp_cut 1 _ _ (law3d w x3 h3 n3 b3 c3 d3) fun x4 h4 n4 b4 => ?_
  refine awp_cut 1 _ _ (law3e w h4 n4 x4 h4 n4 b4) fun x5 h5 n5 ⟨b5, wr', c5⟩ => ?_
  refine awp_cut 1 _ _ (law3f w h4 n4 wr' x5 h5 n5 b5 c5) fun x6 h6 n6 ⟨b6, c6, d6⟩ => ?_
  have i6 : n5 ≤ n6 := by obtain ⟨m, _, _, _, j1, j2, _⟩ := d6; simp only [] at j1 j2; omega
  refine awp_cut 1 _ _ (law3g w h4 n4 wr' n5 n6 x6 h6 n6 i6 b6 c6 d6) fun x7 h7 n7 ⟨i7, b7, c7, d7⟩ => ?_
  simp only [] at i7
  refine awp_cut 1 _ _ (law3h w h4 n4 wr' n5 n6 x7 h7 n7 (by omega) b7 c7 d7) fun x8 h8 n8 ⟨i8, b8, c8, d8, f8⟩ => ?_
  simp only [] at i8
  refine awp_cut 1 _ _ (law3i w h4 n4 wr' n5 n6 n7 n8 x8 h8 n8 (by omega) (by omega) b8 c8 d8 f8) fun x9 h9 n9 ⟨i9, b9, ⟨t', c9⟩, d9, f9⟩ => ?_
  simp only [] at i9
  refine awp_cut 1 _ _ (law3j w h4 n4 wr' n5 n6 n7 n8 t' x9 h9 n9 (by omega) b9 c9 d9 f9) fun x10 h10 n10 ⟨i10, b10, c10, d10, f10, g10⟩ => ?_
  simp only [] at i10
  exact law3k w h4 n4 wr' n5 n6 n7 n8 n9 n10 t' x10 h10 n10 (by omega) b10 c10 d10 f10 g10
end
end Go.Proofs.YtkfphaphiikloaaDoor
