/-
  CodeEvals: the law's own code.
-/
import Derived.Test.YtkfphaphiikloaaDoorX27
import Derived.Test.YtkfphaphiikloaaDoorX29
import Derived.Test.YtkfphaphiikloaaDoorX30
import Derived.Test.YtkfphaphiikloaaDoorX31
set_option linter.unusedSimpArgs false
set_option linter.unusedVariables false
set_option linter.constructorNameAsVariable false
namespace Go.Proofs.YtkfphaphiikloaaDoor
open Go Go.Eng

def S6 : List Nat := 7 :: S67
def tbl6 : List (FuncId × (List AV → Heap → PRes)) := [(14, G14), (15, G15), (23, G23), (24, G24), (27, G27), (33, G33), (37, G38), (38, G38)]
theorem tbl6_ok : TbOk S6 tbl6 := tb_cons P14 (tb_cons P15 (tb_cons P23 (tb_cons P24 (tb_cons P27 (tb_cons P33 (tb_cons P37 (tb_cons P38 tb_nil)))))))
/-- Arguments of a size that a machine holds. -/
structure W6 (v : Eq38) : Prop where
  s1 : v.sc.length * 40 ≤ 140737488355328
  s2 : ∀ t ∈ v.sc, t.attrs.length * 16 ≤ 140737488355328
  q1 : v.q.items.length * 64 ≤ 140737488355328
  q2 : smallT v.q.wh
  q3 : v.q.ret.length < big
  q4 : ∀ t ∈ v.q.ret, smallT t
  t1 : (v.t.length + 40) * 64 ≤ 140737488355328
  t2 : ∀ x ∈ v.t, Rng x.n
  e1 : v.en.ls.length * 24 ≤ 140737488355328
  e2 : ∀ l ∈ v.en.ls, l.length * 88 ≤ 140737488355328
  e3 : ∀ l ∈ v.en.ls, ∀ x ∈ l, EvOk x
  e4 : Rng v.en.pos
theorem W6.eq {v : Eq38} (w : W6 v) (hb : beyondV v.en.ls = false) : EqOk v :=
  ⟨⟨by have := w.s1; unfold big; omega, fun t ht => by have := w.s2 t ht; unfold big; omega⟩, by have := w.q1; unfold big; omega, by have := w.t1; unfold smallT; omega, w.t2, ⟨beyond_len hb, w.e3, w.e4⟩⟩
/-- A schema, a query, an environment in a cell. -/
def HasS (h : Heap) (x : AV) (sc : List Ty) : Prop := ∃ m a, x = .p m 0 0 ∧ h m = some ⟨[a], 0, true, 1⟩ ∧ rd dTys h a = some sc
def HasQ (h : Heap) (x : AV) (q : Qu) : Prop := ∃ m a b c, x = .p m 0 0 ∧ h m = some ⟨[a, .v (.int .i64 q.mode), .v (.int .i64 q.after), b, .v (.int .i64 q.within), .v (.string q.par), c], 0, true, 7⟩ ∧ rd dIts h a = some q.items ∧ rd dNs h b = some q.wh ∧ rd dNss h c = some q.ret
def HasE (h : Heap) (x : AV) (en : En) : Prop := ∃ m a, x = .p m 0 0 ∧ h m = some ⟨[a, .v (.int .i64 en.each), .v (.int .i64 en.pos)], 0, true, 3⟩ ∧ rd dEss h a = some en.ls
theorem HasS.up {h h' : Heap} {n : Nat} {x : AV} {sc : List Ty} (a : HasS h x sc) (hn : Fresh n h) (ha : agree n h h') : HasS h' x sc := by
  obtain ⟨m, b, rfl, h1, h2⟩ := a
  exact ⟨m, b, rfl, by rw [ha m (lt_of h1 hn)]; exact h1, rd_agr hn h2 _ ha⟩
theorem HasQ.up {h h' : Heap} {n : Nat} {x : AV} {q : Qu} (a : HasQ h x q) (hn : Fresh n h) (ha : agree n h h') : HasQ h' x q := by
  obtain ⟨m, b, c, d, rfl, h1, h2, h3, h4⟩ := a
  exact ⟨m, b, c, d, rfl, by rw [ha m (lt_of h1 hn)]; exact h1, rd_agr hn h2 _ ha, rd_agr hn h3 _ ha, rd_agr hn h4 _ ha⟩
theorem HasE.up {h h' : Heap} {n : Nat} {x : AV} {en : En} (a : HasE h x en) (hn : Fresh n h) (ha : agree n h h') : HasE h' x en := by
  obtain ⟨m, b, rfl, h1, h2⟩ := a
  exact ⟨m, b, rfl, by rw [ha m (lt_of h1 hn)]; exact h1, rd_agr hn h2 _ ha⟩
/-- What was handed in. -/
structure A6 (v : Eq38) (s : St) : Prop where
  at2 : rd dNs s.h (s.e 2) = some v.t
  as4 : HasS s.h (s.e 4) v.sc
  aq5 : HasQ s.h (s.e 5) v.q
  ae7 : HasE s.h (s.e 7) v.en
  frs : Fresh s.n s.h
theorem A6.up {v : Eq38} {s s' : St} (a : A6 v s) (h2 : s'.e 2 = s.e 2) (h4 : s'.e 4 = s.e 4) (h5 : s'.e 5 = s.e 5) (h7 : s'.e 7 = s.e 7) (ha : agree s.n s.h s'.h) (hf : Fresh s'.n s'.h) : A6 v s' :=
  ⟨by rw [h2]; exact rd_agr a.frs a.at2 _ ha, by rw [h4]; exact a.as4.up a.frs ha, by rw [h5]; exact a.aq5.up a.frs ha, by rw [h7]; exact a.ae7.up a.frs ha, hf⟩
/-- And its copies, from a state on. -/
structure F6 (v : Eq38) (h6 : Heap) (k : Nat) (s : St) : Prop where
  at2 : rd dNs h6 (s.e 2) = some v.t
  as4 : HasS h6 (s.e 4) v.sc
  aq5 : HasQ h6 (s.e 5) v.q
  ae7 : HasE h6 (s.e 7) v.en
  bs9 : HasS h6 (s.e 9) v.sc
  bq10 : HasQ h6 (s.e 10) v.q
  bt11 : rd dNs h6 (s.e 11) = some v.t
  be12 : HasE h6 (s.e 12) v.en
  fr6 : Fresh k h6
  ag : agree k h6 s.h
  frs : Fresh s.n s.h
  kn : k ≤ s.n
theorem F6.up {v : Eq38} {h6 : Heap} {k : Nat} {s s' : St} (a : F6 v h6 k s) (he : ∀ i ∈ [2, 4, 5, 7, 9, 10, 11, 12], s'.e i = s.e i) (ha : agree k s.h s'.h) (hf : Fresh s'.n s'.h) (hn : s.n ≤ s'.n) : F6 v h6 k s' := by
  obtain ⟨a1, a2, a3, a4, a5, a6, a7, a8, a9, a10, a11, a12⟩ := a
  exact ⟨by rw [he 2 (by simp)]; exact a1, by rw [he 4 (by simp)]; exact a2, by rw [he 5 (by simp)]; exact a3, by rw [he 7 (by simp)]; exact a4, by rw [he 9 (by simp)]; exact a5, by rw [he 10 (by simp)]; exact a6, by rw [he 11 (by simp)]; exact a7, by rw [he 12 (by simp)]; exact a8, a9, fun j hj => (ha j hj).trans (a10 j hj), hf, by omega⟩
/-- A tree with room. -/
def Room (s : St) (k w p : Nat) (len : Nat) (t : List Nd) : Prop := s.e 13 = .s w 41 0 (len + 40) ∧ s.h w = some ⟨(t ++ marks 40).flatMap ncells, 41, true, 6⟩ ∧ k ≤ w ∧ w < p ∧ t.length = len
theorem Room.up {s s' : St} {k w p p' len : Nat} {t : List Nd} (r : Room s k w p len t) (he : s'.e 13 = s.e 13) (hh : s'.h w = s.h w) (hp : p ≤ p') : Room s' k w p' len t := by
  obtain ⟨a, b, c, d, f⟩ := r
  exact ⟨he.trans a, hh.trans b, c, by omega, f⟩
/-- A value in a cell. -/
def Val (s : St) (w k p : Nat) (x : V) : Prop := ∃ m, s.e 14 = .p m 0 0 ∧ s.h m = some ⟨[.v (.bool x.k), .v (.int .i64 x.n)], 0, true, 2⟩ ∧ k ≤ m ∧ m < p ∧ m ≠ w
theorem Val.up {s s' : St} {w k p : Nat} {x : V} (r : Val s w k p x) (he : s'.e 14 = s.e 14) (hh : ∀ m, m < p → m ≠ w → s'.h m = s.h m) : Val s' w k p x := by
  obtain ⟨m, a, b, c, d, f⟩ := r
  exact ⟨m, he.trans a, (hh m d f).trans b, c, d, f⟩
/-- Lists of one's own in a cell. -/
def Mine (s : St) (p lo hi : Nat) (en : En) : Prop := ∃ m zl, s.e 15 = .p m 0 0 ∧ s.h m = some ⟨[zl, .v (.int .i64 en.each), .v (.int .i64 en.pos)], 0, true, 3⟩ ∧ OwnL ecells 11 s.h lo hi zl en.ls en.ls.length ∧ p ≤ m ∧ p ≤ lo ∧ m < s.n ∧ hi ≤ s.n ∧ ¬ (lo ≤ m ∧ m < hi)
theorem Mine.up {s s' : St} {p lo hi : Nat} {en : En} (r : Mine s p lo hi en) (he : s'.e 15 = s.e 15) (hh : ∀ m, p ≤ m → m < s.n → s'.h m = s.h m) (hn : s.n ≤ s'.n) : Mine s' p lo hi en := by
  obtain ⟨m, zl, a, b, c, d, f, g, i, j⟩ := r
  exact ⟨m, zl, he.trans a, (hh m d g).trans b, c.congr (fun q h1 h2 => hh q (by omega) (by omega)) (Nat.le_refl _), d, f, by omega, by omega, j⟩
theorem room_rd {h : Heap} {w : Nat} {t : List Nd} (hw : h w = some ⟨(t ++ marks 40).flatMap ncells, 41, true, 6⟩) : rd dNs h (.s w 41 0 t.length) = some t :=
  flat_in Flat.nd hw rfl (r := (marks 40).flatMap ncells) (by simp only [List.flatMap_append])
theorem room_tail {h : Heap} {w : Nat} {t : List Nd} (hw : h w = some ⟨(t ++ marks 40).flatMap ncells, 41, true, 6⟩) : rd dNs h (.s w 41 (t.length * 6) 40) = some (marks 40) := by
  have hl := flat_len Flat.nd t
  have hm := marks_len 40
  have : rd (De.sl 6 dN) h (.s w 41 (t.length * 6) (marks 40).length) = some (marks 40) := by
    refine De.sl_in (off := t.length * 6) (k := ⟨(t ++ marks 40).flatMap ncells, 41, true, 6⟩) hw (by simp only [flat_len Flat.nd, List.length_append, hm]; omega) (fun i hi => ?_)
    have := flat_drop Flat.nd (marks 40) i hi []
    rw [List.append_nil] at this
    simp only [List.flatMap_append]
    rw [List.drop_append, List.drop_eq_nil_of_le (by omega), List.nil_append, hl, show t.length * 6 + i * 6 - t.length * 6 = i * 6 by omega, this]
    rfl
  rwa [hm] at this
theorem flip6_len (ll : List (List Ev)) : (flipLL ll).length = ll.length := by simp [flipLL]
theorem flip6_mem {ll : List (List Ev)} {P : List Ev → Prop} (h : ∀ l ∈ ll, P (l.map flipE)) : ∀ l ∈ flipLL ll, P l := fun l hl => by
  simp only [flipLL, List.mem_map] at hl
  obtain ⟨m, hm, rfl⟩ := hl
  exact h m hm
theorem flip6_beyond (ll : List (List Ev)) : beyondV (flipLL ll) = beyondV ll := by
  have : ∀ j, sumTo (flipLL ll) j = sumTo ll j := fun j => by
    unfold sumTo flipLL
    rw [← List.map_take, List.map_map]
    congr 2
    funext l
    simp
  unfold beyondV
  rw [this, flip6_len]
theorem W6.flip {v : Eq38} (w : W6 v) {t : List Nd} (ht : t.length = v.t.length) (hr : ∀ x ∈ t, Rng x.n) : W6 ⟨v.sc, v.q, t, ⟨flipLL v.en.ls, v.en.each, v.en.pos⟩⟩ :=
  ⟨w.s1, w.s2, w.q1, w.q2, w.q3, w.q4, by simp only [ht]; exact w.t1, hr, by simp only [flip6_len]; exact w.e1, flip6_mem fun l hl => by rw [List.length_map]; exact w.e2 l hl, flip6_mem fun l hl x hx => by
    obtain ⟨y, hy, rfl⟩ := List.mem_map.1 hx
    exact flip_ok (w.e3 l hl y hy), w.e4⟩
theorem deEn_has {h : Heap} {a : AV} {en : En} (e : rd dEss h a = some en.ls) : deEn h (.g [a, .v (.int .i64 en.each), .v (.int .i64 en.pos)]) = some en := deEn_in e
theorem deQ_has {h : Heap} {a b c : AV} {q : Qu} (h1 : rd dIts h a = some q.items) (h2 : rd dNs h b = some q.wh) (h3 : rd dNss h c = some q.ret) : deQ h (.g [a, .v (.int .i64 q.mode), .v (.int .i64 q.after), b, .v (.int .i64 q.within), .v (.string q.par), c]) = some q := deQ_in h1 h2 h3
section
set_option maxRecDepth 100000
set_option maxHeartbeats 4000000
variable {h : Heap} {n : Nat} {sa qa qb qc ta la : AV} {v : Eq38}
theorem law6a (e1 : rd dTys h sa = some v.sc) (e2 : rd dIts h qa = some v.q.items) (e3 : rd dNs h qb = some v.q.wh) (e4 : rd dNss h qc = some v.q.ret) (e5 : rd dNs h ta = some v.t) (e6 : rd dEss h la = some v.en.ls) (w : W6 v) (hn : Fresh n h) (e : Nat → AV)
    (q0 : e 0 = .g [sa]) (q1 : e 1 = .g [qa, .v (.int .i64 v.q.mode), .v (.int .i64 v.q.after), qb, .v (.int .i64 v.q.within), .v (.string v.q.par), qc]) (q2 : e 2 = ta) (q3 : e 3 = .g [la, .v (.int .i64 v.en.each), .v (.int .i64 v.en.pos)]) :
    awp (cx S6 (pfL tbl6)) (hdC 2 (Tryd.f6.body.getD .skip)) (thenQ (fun s => A6 v s ∧ beyondV v.en.ls = false) (finQ (cx S6 (pfL tbl6)) Tryd.f6 fun z _ _ => z = bv true)) ⟨e, roH h, n⟩ := by
  have o1 := (sl_is e1).2.2.2.1
  have o2 := (sl_is e2).2.2.2.1
  have o3 := (sl_is e3).2.2.2.1
  have o4 := (sl_is e4).2.2.2.1
  have o5 := (sl_is e6).2.2.2.1
  obtain ⟨s1, s2, s3, s4, s5⟩ := sl_is e5
  have r3 := (sl_is e6).2.2.1
  have g6 := rd_agree hn e6
  have g5 := rd_agree hn e5
  have gq : ∀ h', agree n (roH h) h' → deQ h' (.g [qa, .v (.int .i64 v.q.mode), .v (.int .i64 v.q.after), qb, .v (.int .i64 v.q.within), .v (.string v.q.par), qc]) = some v.q := fun h' ha => deQ_has (rd_agree hn e2 h' ha) (rd_agree hn e3 h' ha) (rd_agree hn e4 h' ha)
  have w1 : v.en.ls.length < big := by have := w.e1; unfold big; omega
  have w2 : ∀ l ∈ v.en.ls, l.length < big := fun l hl => by have := w.e2 l hl; unfold big; omega
  have w3 : smallT v.q.wh ∧ v.q.ret.length < big ∧ ∀ t ∈ v.q.ret, smallT t := ⟨w.q2, w.q3, w.q4⟩
  have w4 : smallT v.t := by have := w.t1; unfold smallT; omega
  have fr := roH_fresh hn
  cases hb : beyondV v.en.ls with
  | true =>
    simp [evs, resAll, resVal, resOne, freeOp, isA, goOp, appNew, mkOp, gev, Region.binds, aop, aeval, gocall, heapOp, quietOp, ev, constAV, setd, yav, ystop, up, env0, cx_ti, cx_G, cx_pf, ti, globS, glob, pfL, lds, ldc, ldcs_1, ldcs_2, ldcs_3, ldcs_4, ldcs_5, ldcs_7, sts, sth, sls.eq_1, slc.eq_1, wr, place, fillOk, fillC, repZ, binI, isDiv, optInt, optI, eksOk, eksEq, EK.ok, EK.eq, AV.i, AV.isI, AV.isInt, AV.str, AV.isStr, AV.ones, AV.isPtr, AV.gl, AV.isG, Value.oneCell', hdC, Tryd.f6, q0, q1, q2, q3, o1, o2, o3, o4, o5, s3, r3, bv, tbl6, G27, pureH, deLL, g6, agree_up, agree_refl, w1, hb]
    exact w2
  | false =>
    cases hq : qdeep v.q with
    | true =>
      simp [evs, resAll, resVal, resOne, freeOp, isA, goOp, appNew, mkOp, gev, Region.binds, aop, aeval, gocall, heapOp, quietOp, ev, constAV, setd, yav, ystop, up, env0, cx_ti, cx_G, cx_pf, ti, globS, glob, pfL, lds, ldc, ldcs_1, ldcs_2, ldcs_3, ldcs_4, ldcs_5, ldcs_7, sts, sth, sls.eq_1, slc.eq_1, wr, place, fillOk, fillC, repZ, binI, isDiv, optInt, optI, eksOk, eksEq, EK.ok, EK.eq, AV.i, AV.isI, AV.isInt, AV.str, AV.isStr, AV.ones, AV.isPtr, AV.gl, AV.isG, Value.oneCell', hdC, Tryd.f6, q0, q1, q2, q3, o1, o2, o3, o4, o5, s3, r3, bv, tbl6, G27, pureH, deLL, g6, agree_up, agree_refl, w1, hb, G14, deQ1, gq, hq]
      exact ⟨w2, w3⟩
    | false =>
      cases ht : deepB v.t with
      | true =>
        simp [evs, resAll, resVal, resOne, freeOp, isA, goOp, appNew, mkOp, gev, Region.binds, aop, aeval, gocall, heapOp, quietOp, ev, constAV, setd, yav, ystop, up, env0, cx_ti, cx_G, cx_pf, ti, globS, glob, pfL, lds, ldc, ldcs_1, ldcs_2, ldcs_3, ldcs_4, ldcs_5, ldcs_7, sts, sth, sls.eq_1, slc.eq_1, wr, place, fillOk, fillC, repZ, binI, isDiv, optInt, optI, eksOk, eksEq, EK.ok, EK.eq, AV.i, AV.isI, AV.isInt, AV.str, AV.isStr, AV.ones, AV.isPtr, AV.gl, AV.isG, Value.oneCell', hdC, Tryd.f6, q0, q1, q2, q3, o1, o2, o3, o4, o5, s3, r3, bv, tbl6, G27, pureH, deLL, g6, agree_up, agree_refl, w1, hb, G14, deQ1, gq, hq, G15, deT, g5, ht]
        exact ⟨w2, w3, w4⟩
      | false =>
        simp [evs, resAll, resVal, resOne, freeOp, isA, goOp, appNew, mkOp, gev, Region.binds, aop, aeval, gocall, heapOp, quietOp, ev, constAV, setd, yav, ystop, up, env0, cx_ti, cx_G, cx_pf, ti, globS, glob, pfL, lds, ldc, ldcs_1, ldcs_2, ldcs_3, ldcs_4, ldcs_5, ldcs_7, sts, sth, sls.eq_1, slc.eq_1, wr, place, fillOk, fillC, repZ, binI, isDiv, optInt, optI, eksOk, eksEq, EK.ok, EK.eq, AV.i, AV.isI, AV.isInt, AV.str, AV.isStr, AV.ones, AV.isPtr, AV.gl, AV.isG, Value.oneCell', hdC, Tryd.f6, q0, q1, q2, q3, o1, o2, o3, o4, o5, s3, r3, bv, tbl6, G27, pureH, deLL, g6, agree_up, agree_refl, w1, hb, G14, deQ1, gq, hq, G15, deT, g5, ht]
        refine ⟨w2, w3, w4, ?_⟩
        have ag : ∀ b1 b2 b3 : Option Blk, agree n (roH h) (up (up (up (roH h) n b1) (n + 1) b2) (n + 2) b3) := fun b1 b2 b3 => by simp [agree_up, agree_refl]
        exact ⟨by simpa [up, q2] using g5 _ (ag _ _ _), ⟨n, sa, by simp [up], by simp [up], rd_agree hn e1 _ (ag _ _ _)⟩, ⟨n + 1, qa, qb, qc, by simp [up], by simp [up], rd_agree hn e2 _ (ag _ _ _), rd_agree hn e3 _ (ag _ _ _), rd_agree hn e4 _ (ag _ _ _)⟩, ⟨n + 2, la, by simp [up], by simp [up], g6 _ (ag _ _ _)⟩, by simp [fresh_up, fr.add]⟩
theorem law6b (w : W6 v) (e : Nat → AV) (h' : Heap) (n' : Nat) (b : A6 v ⟨e, h', n'⟩) {Q : Ex → St → Prop} :
    awp (cx S6 (pfL tbl6)) (hdC 1 (tlC 2 (Tryd.f6.body.getD .skip))) (thenQ (fun s => A6 v s ∧ HasS s.h (s.e 9) v.sc) Q) ⟨e, h', n'⟩ := by
  have b0 := b
  obtain ⟨_, ⟨m, a, q4, b4, r4⟩, _, _, fr⟩ := b
  simp only [] at q4 b4 r4 fr
  have o4 := (sl_is r4).2.2.2.1
  simp [evs, resAll, resVal, resOne, freeOp, isA, goOp, appNew, mkOp, gev, Region.binds, aop, aeval, gocall, heapOp, quietOp, ev, constAV, setd, yav, ystop, up, env0, cx_ti, cx_G, cx_pf, ti, globS, glob, pfL, lds, ldc, ldcs_1, ldcs_2, ldcs_3, ldcs_4, ldcs_5, ldcs_7, sts, sth, sls.eq_1, slc.eq_1, wr, place, fillOk, fillC, repZ, binI, isDiv, optInt, optI, eksOk, eksEq, EK.ok, EK.eq, AV.i, AV.isI, AV.isInt, AV.str, AV.isStr, AV.ones, AV.isPtr, AV.gl, AV.isG, Value.oneCell', hdC, tlC, Tryd.f6, q4, b4, o4, tbl6]
  refine (acall_any (S := []) (by simp) (c16 (x := .g [a]) r4 w.s1 w.s2 fr)).mono ?_
  rintro z h2 n2 ⟨a1, a2, a3, a4⟩
  obtain ⟨zs, rfl, r9⟩ := deSc_out a4
  obtain ⟨v1, v2, v3, v4, v5⟩ := sl_is r9
  have ag2 : ∀ b1 b2 : Option Blk, agree n2 h2 (up (up h2 n2 b1) n2 b2) := fun b1 b2 => by simp [agree_up, agree_refl]
  simp [evs, resAll, resVal, resOne, freeOp, isA, goOp, appNew, mkOp, gev, Region.binds, aop, aeval, gocall, heapOp, quietOp, ev, constAV, setd, yav, ystop, up, env0, cx_ti, cx_G, cx_pf, ti, globS, glob, pfL, lds, ldc, ldcs_1, ldcs_2, ldcs_3, ldcs_4, ldcs_5, ldcs_7, sts, sth, sls.eq_1, slc.eq_1, wr, place, fillOk, fillC, repZ, binI, isDiv, optInt, optI, eksOk, eksEq, EK.ok, EK.eq, AV.i, AV.isI, AV.isInt, AV.str, AV.isStr, AV.ones, AV.isPtr, AV.gl, AV.isG, Value.oneCell', v4, v5]
  exact ⟨b0.up (by simp [up]) (by simp [up]) (by simp [up]) (by simp [up]) (by simp [agree_up, a1, a3]) (by simp [fresh_up, a2.add]), n2, zs, by simp [up], by simp [up], rd_agr a2 r9 _ (ag2 _ _)⟩
theorem law6c (w : W6 v) (e : Nat → AV) (h' : Heap) (n' : Nat) (b : A6 v ⟨e, h', n'⟩) (c : HasS h' (e 9) v.sc) {Q : Ex → St → Prop} :
    awp (cx S6 (pfL tbl6)) (hdC 1 (tlC 3 (Tryd.f6.body.getD .skip))) (thenQ (fun s => A6 v s ∧ HasS s.h (s.e 9) v.sc ∧ HasQ s.h (s.e 10) v.q) Q) ⟨e, h', n'⟩ := by
  have b0 := b
  obtain ⟨_, _, ⟨m, qa, qb, qc, q5, b5, r1, r2, r3⟩, _, fr⟩ := b
  simp only [] at q5 b5 r1 r2 r3 fr
  have o1 := (sl_is r1).2.2.2.1
  have o2 := (sl_is r2).2.2.2.1
  have o3 := (sl_is r3).2.2.2.1
  simp [evs, resAll, resVal, resOne, freeOp, isA, goOp, appNew, mkOp, gev, Region.binds, aop, aeval, gocall, heapOp, quietOp, ev, constAV, setd, yav, ystop, up, env0, cx_ti, cx_G, cx_pf, ti, globS, glob, pfL, lds, ldc, ldcs_1, ldcs_2, ldcs_3, ldcs_4, ldcs_5, ldcs_7, sts, sth, sls.eq_1, slc.eq_1, wr, place, fillOk, fillC, repZ, binI, isDiv, optInt, optI, eksOk, eksEq, EK.ok, EK.eq, AV.i, AV.isI, AV.isInt, AV.str, AV.isStr, AV.ones, AV.isPtr, AV.gl, AV.isG, Value.oneCell', hdC, tlC, Tryd.f6, q5, b5, o1, o2, o3, tbl6]
  refine (acall_any (S := []) (by simp) (c17 (deQ_has r1 r2 r3) w.q1 fr)).mono ?_
  rintro z h2 n2 ⟨a1, a2, a3, a4⟩
  obtain ⟨za, zb, zc, rfl, z1, z2, z3⟩ := deQ_out a4
  have y1 := (sl_is z1).2.2.2.1
  have y2 := (sl_is z2).2.2.2.1
  have y3 := (sl_is z3).2.2.2.1
  have ag2 : ∀ b1 b2 : Option Blk, agree n2 h2 (up (up h2 n2 b1) n2 b2) := fun b1 b2 => by simp [agree_up, agree_refl]
  simp [evs, resAll, resVal, resOne, freeOp, isA, goOp, appNew, mkOp, gev, Region.binds, aop, aeval, gocall, heapOp, quietOp, ev, constAV, setd, yav, ystop, up, env0, cx_ti, cx_G, cx_pf, ti, globS, glob, pfL, lds, ldc, ldcs_1, ldcs_2, ldcs_3, ldcs_4, ldcs_5, ldcs_7, sts, sth, sls.eq_1, slc.eq_1, wr, place, fillOk, fillC, repZ, binI, isDiv, optInt, optI, eksOk, eksEq, EK.ok, EK.eq, AV.i, AV.isI, AV.isInt, AV.str, AV.isStr, AV.ones, AV.isPtr, AV.gl, AV.isG, Value.oneCell', ii, ss, y1, y2, y3]
  have ag3 : ∀ b1 b2 : Option Blk, agree n' h' (up (up h2 n2 b1) n2 b2) := fun b1 b2 => by simp [agree_up, a1, a3]
  exact ⟨b0.up (by simp [up]) (by simp [up]) (by simp [up]) (by simp [up]) (ag3 _ _) (by simp [fresh_up, a2.add]), by simpa [up] using c.up fr (ag3 _ _), n2, za, zb, zc, by simp [up], by simp [up], rd_agr a2 z1 _ (ag2 _ _), rd_agr a2 z2 _ (ag2 _ _), rd_agr a2 z3 _ (ag2 _ _)⟩
theorem law6d (w : W6 v) (e : Nat → AV) (h' : Heap) (n' : Nat) (b : A6 v ⟨e, h', n'⟩) (c : HasS h' (e 9) v.sc) (d : HasQ h' (e 10) v.q) {Q : Ex → St → Prop} :
    awp (cx S6 (pfL tbl6)) (hdC 1 (tlC 4 (Tryd.f6.body.getD .skip))) (thenQ (fun s => A6 v s ∧ HasS s.h (s.e 9) v.sc ∧ HasQ s.h (s.e 10) v.q ∧ rd dNs s.h (s.e 11) = some v.t) Q) ⟨e, h', n'⟩ := by
  have b0 := b
  obtain ⟨at2, _, _, _, fr⟩ := b
  simp only [] at at2 fr
  obtain ⟨ta, q2⟩ : ∃ x, e 2 = x := ⟨_, rfl⟩
  rw [q2] at at2
  obtain ⟨s1, s2, s3, s4, s5⟩ := sl_is at2
  simp [evs, resAll, resVal, resOne, freeOp, isA, goOp, appNew, mkOp, gev, Region.binds, aop, aeval, gocall, heapOp, quietOp, ev, constAV, setd, yav, ystop, up, env0, cx_ti, cx_G, cx_pf, ti, globS, glob, pfL, lds, ldc, ldcs_1, ldcs_2, ldcs_3, ldcs_4, ldcs_5, ldcs_7, sts, sth, sls.eq_1, slc.eq_1, wr, place, fillOk, fillC, repZ, binI, isDiv, optInt, optI, eksOk, eksEq, EK.ok, EK.eq, AV.i, AV.isI, AV.isInt, AV.str, AV.isStr, AV.ones, AV.isPtr, AV.gl, AV.isG, Value.oneCell', hdC, tlC, Tryd.f6, q2, s3, tbl6]
  refine (acall_any (S := []) (by simp) (c18 at2 (by have := w.t1; unfold smallT; omega) fr)).mono ?_
  rintro z h2 n2 ⟨a1, a2, a3, w', rfl, hw, hw1, hw2⟩
  try simp [evs, resAll, resVal, resOne, freeOp, isA, goOp, appNew, mkOp, gev, Region.binds, aop, aeval, gocall, heapOp, quietOp, ev, constAV, setd, yav, ystop, up, env0, cx_ti, cx_G, cx_pf, ti, globS, glob, pfL, lds, ldc, ldcs_1, ldcs_2, ldcs_3, ldcs_4, ldcs_5, ldcs_7, sts, sth, sls.eq_1, slc.eq_1, wr, place, fillOk, fillC, repZ, binI, isDiv, optInt, optI, eksOk, eksEq, EK.ok, EK.eq, AV.i, AV.isI, AV.isInt, AV.str, AV.isStr, AV.ones, AV.isPtr, AV.gl, AV.isG, Value.oneCell']
  exact ⟨b0.up (by simp [up, q2]) (by simp [up]) (by simp [up]) (by simp [up]) a1 a2, by simpa [up] using c.up fr a1, by simpa [up] using d.up fr a1, by simpa [up] using (show rd dNs h2 (.s w' 1 0 v.t.length) = some v.t from flat_in Flat.nd (l := v.t) hw rfl (r := []) (by simp))⟩
theorem law6e (w : W6 v) (hb : beyondV v.en.ls = false) (e : Nat → AV) (h' : Heap) (n' : Nat) (b : A6 v ⟨e, h', n'⟩) (c : HasS h' (e 9) v.sc) (d : HasQ h' (e 10) v.q) (t : rd dNs h' (e 11) = some v.t) {Q : Ex → St → Prop} :
    awp (cx S6 (pfL tbl6)) (hdC 1 (tlC 5 (Tryd.f6.body.getD .skip))) (thenQ (fun s => F6 v s.h s.n s) Q) ⟨e, h', n'⟩ := by
  have b0 := b
  obtain ⟨_, _, _, ⟨m, la, q7, b7, r7⟩, fr⟩ := b
  simp only [] at q7 b7 r7 fr
  obtain ⟨o1, o2, o3, o4, o5⟩ := sl_is r7
  have fin : ∀ (e2 : Nat → AV) (h3 : Heap) (n3 : Nat), e2 2 = e 2 → e2 4 = e 4 → e2 5 = e 5 → e2 7 = e 7 → e2 9 = e 9 → e2 10 = e 10 → e2 11 = e 11 → agree n' h' h3 → Fresh n3 h3 → HasE h3 (e2 12) v.en → F6 v h3 n3 ⟨e2, h3, n3⟩ := fun e2 h3 n3 k2 k4 k5 k7 k9 k10 k11 ka kf ke => by
    obtain ⟨x1, x2, x3, x4, x5⟩ := b0.up (s' := ⟨e2, h3, n3⟩) k2 k4 k5 k7 ka kf
    exact ⟨x1, x2, x3, x4, by simp only [k9]; exact c.up fr ka, by simp only [k10]; exact d.up fr ka, by simp only [k11]; exact rd_agr fr t _ ka, ke, kf, agree_refl _ _, kf, Nat.le_refl _⟩
  simp [evs, resAll, resVal, resOne, freeOp, isA, goOp, appNew, mkOp, gev, Region.binds, aop, aeval, gocall, heapOp, quietOp, ev, constAV, setd, yav, ystop, up, env0, cx_ti, cx_G, cx_pf, ti, globS, glob, pfL, lds, ldc, ldcs_1, ldcs_2, ldcs_3, ldcs_4, ldcs_5, ldcs_7, sts, sth, sls.eq_1, slc.eq_1, wr, place, fillOk, fillC, repZ, binI, isDiv, optInt, optI, eksOk, eksEq, EK.ok, EK.eq, AV.i, AV.isI, AV.isInt, AV.str, AV.isStr, AV.ones, AV.isPtr, AV.gl, AV.isG, Value.oneCell', hdC, tlC, Tryd.f6, q7, b7, o3, o4, tbl6]
  refine ⟨?_, ?_⟩
  · refine (acall_any (S := []) (by simp) (c28 r7 (beyond_len hb) w.e1 fr)).mono ?_
    rintro z h2 n2 ⟨a1, a2, a3, a4⟩
    obtain ⟨v1, v2, v3, v4, v5⟩ := sl_is (a4.rd Flat.ev)
    refine ⟨agr_le fr a1, ?_⟩
    simp [evs, resAll, resVal, resOne, freeOp, isA, goOp, appNew, mkOp, gev, Region.binds, aop, aeval, gocall, heapOp, quietOp, ev, constAV, setd, yav, ystop, up, env0, cx_ti, cx_G, cx_pf, ti, globS, glob, pfL, lds, ldc, ldcs_1, ldcs_2, ldcs_3, ldcs_4, ldcs_5, ldcs_7, sts, sth, sls.eq_1, slc.eq_1, wr, place, fillOk, fillC, repZ, binI, isDiv, optInt, optI, eksOk, eksEq, EK.ok, EK.eq, AV.i, AV.isI, AV.isInt, AV.str, AV.isStr, AV.ones, AV.isPtr, AV.gl, AV.isG, Value.oneCell', v4, v5]
    have hr := a4.rd Flat.ev
    have hg3 : ∀ b1 b2 : Option Blk, agree n2 h2 (up (up h2 n2 b1) n2 b2) := fun b1 b2 => by simp [agree_up, agree_refl]
    have hf2 : ∀ b1 b2 : Option Blk, Fresh (n2 + 2) (up (up h2 n2 b1) n2 b2) := fun b1 b2 => by simp [fresh_up, a2.add]
    have hg2 : ∀ b1 b2 : Option Blk, agree n' h' (up (up h2 n2 b1) n2 b2) := fun b1 b2 => by simp [agree_up, a1, a3]
    exact ⟨fin _ _ _ (by simp [up]) (by simp [up]) (by simp [up]) (by simp [up, q7]) (by simp [up]) (by simp [up]) (by simp [up]) (hg2 _ _) (hf2 _ _) ⟨n2, z, by simp [up], by simp [up], rd_agr a2 hr _ (hg3 _ _)⟩, fin _ _ _ (by simp [up]) (by simp [up]) (by simp [up]) (by simp [up, q7]) (by simp [up]) (by simp [up]) (by simp [up]) (hg2 _ _) (hf2 _ _) ⟨n2, z, by simp [up], by simp [up], rd_agr a2 hr _ (hg3 _ _)⟩⟩
  · have frA : ∀ b, Fresh (n' + 1) (up h' n' b) := fun b => (fresh_up (by omega) b).2 (fr.add 1)
    have agA : ∀ b, agree n' h' (up h' n' b) := fun b => (agree_up (by omega) b).2 (agree_refl _ _)
    refine (acall_any (S := []) (by simp) (c28 (rd_agr fr r7 _ (agA _)) (beyond_len hb) w.e1 (frA _))).mono ?_
    rintro z h2 n2 ⟨a1, a2, a3, a4⟩
    obtain ⟨v1, v2, v3, v4, v5⟩ := sl_is (a4.rd Flat.ev)
    refine ⟨agr_le (frA _) a1, ?_⟩
    have hx : h2 n' = some ⟨[.v (.slice none 0 0), .v (.int .i64 0), .v (.int .i64 0)], 0, true, 3⟩ := by rw [a1 n' (by omega), up_same]
    simp [evs, resAll, resVal, resOne, freeOp, isA, goOp, appNew, mkOp, gev, Region.binds, aop, aeval, gocall, heapOp, quietOp, ev, constAV, setd, yav, ystop, up, env0, cx_ti, cx_G, cx_pf, ti, globS, glob, pfL, lds, ldc, ldcs_1, ldcs_2, ldcs_3, ldcs_4, ldcs_5, ldcs_7, sts, sth, sls.eq_1, slc.eq_1, wr, place, fillOk, fillC, repZ, binI, isDiv, optInt, optI, eksOk, eksEq, EK.ok, EK.eq, AV.i, AV.isI, AV.isInt, AV.str, AV.isStr, AV.ones, AV.isPtr, AV.gl, AV.isG, Value.oneCell', v4, v5, hx]
    have hf2 : ∀ b1 : Option Blk, Fresh (n2 + 1) (up h2 n' b1) := fun b1 => (fresh_up (by omega) b1).2 (a2.add 1)
    have hg2 : ∀ b1 : Option Blk, agree n' h' (up h2 n' b1) := fun b1 j hj => by rw [up_ne _ _ (by omega), a1 j (by omega), up_ne _ _ (by omega)]
    have hr : ∀ b1 : Option Blk, rd dEss (up h2 n' b1) z = some v.en.ls := fun b1 => OwnL.rd Flat.ev (lo := n' + 1) (hi := n2) (a4.congr (fun q h1 h2 => up_ne _ _ (by omega)) (Nat.le_refl _))
    exact fin _ _ _ (by simp [up]) (by simp [up]) (by simp [up]) (by simp [up, q7]) (by simp [up]) (by simp [up]) (by simp [up]) (hg2 _) (hf2 _) ⟨n', z, by simp [up], by simp [up], hr _⟩
theorem law6f (w : W6 v) (h6 : Heap) (k : Nat) (e : Nat → AV) (h' : Heap) (n' : Nat) (b : F6 v h6 k ⟨e, h', n'⟩) {Q : Ex → St → Prop} :
    awp (cx S6 (pfL tbl6)) (hdC 1 (tlC 6 (Tryd.f6.body.getD .skip))) (thenQ (fun s => F6 v h6 k s ∧ ∃ w, Room s k w s.n v.t.length v.t) Q) ⟨e, h', n'⟩ := by
  have b0 := b
  have at2 := rd_agr b.fr6 b.at2 _ b.ag
  have fr := b.frs
  have kn := b.kn
  simp only [] at at2 fr kn
  obtain ⟨ta, q2⟩ : ∃ x, e 2 = x := ⟨_, rfl⟩
  rw [q2] at at2
  obtain ⟨s1, s2, s3, s4, s5⟩ := sl_is at2
  simp [evs, resAll, resVal, resOne, freeOp, isA, goOp, appNew, mkOp, gev, Region.binds, aop, aeval, gocall, heapOp, quietOp, ev, constAV, setd, yav, ystop, up, env0, cx_ti, cx_G, cx_pf, ti, globS, glob, pfL, lds, ldc, ldcs_1, ldcs_2, ldcs_3, ldcs_4, ldcs_5, ldcs_7, sts, sth, sls.eq_1, slc.eq_1, wr, place, fillOk, fillC, repZ, binI, isDiv, optInt, optI, eksOk, eksEq, EK.ok, EK.eq, AV.i, AV.isI, AV.isInt, AV.str, AV.isStr, AV.ones, AV.isPtr, AV.gl, AV.isG, Value.oneCell', hdC, tlC, Tryd.f6, q2, s3, tbl6]
  refine (acall_any (S := []) (by simp) (c19 at2 w.t1 fr)).mono ?_
  rintro z h2 n2 ⟨a1, a2, a3, w', rfl, hw, hw1, hw2⟩
  try simp [evs, resAll, resVal, resOne, freeOp, isA, goOp, appNew, mkOp, gev, Region.binds, aop, aeval, gocall, heapOp, quietOp, ev, constAV, setd, yav, ystop, up, env0, cx_ti, cx_G, cx_pf, ti, globS, glob, pfL, lds, ldc, ldcs_1, ldcs_2, ldcs_3, ldcs_4, ldcs_5, ldcs_7, sts, sth, sls.eq_1, slc.eq_1, wr, place, fillOk, fillC, repZ, binI, isDiv, optInt, optI, eksOk, eksEq, EK.ok, EK.eq, AV.i, AV.isI, AV.isInt, AV.str, AV.isStr, AV.ones, AV.isPtr, AV.gl, AV.isG, Value.oneCell']
  exact ⟨b0.up (by simp [up, q2]) (fun j hj => a1 j (by omega)) a2 a3, w', by simp [up], hw, by omega, hw2, rfl⟩
theorem law6g (w : W6 v) (hb : beyondV v.en.ls = false) (h6 : Heap) (k wr' : Nat) (e : Nat → AV) (h' : Heap) (n' : Nat) (b : F6 v h6 k ⟨e, h', n'⟩) (c : Room ⟨e, h', n'⟩ k wr' n' v.t.length v.t) {Q : Ex → St → Prop} :
    awp (cx S6 (pfL tbl6)) (hdC 1 (tlC 7 (Tryd.f6.body.getD .skip))) (thenQ (fun s => F6 v h6 k s ∧ Room s k wr' s.n v.t.length v.t ∧ Val s wr' k s.n (evalV v.sc (vars v.q.items) v.en v.t)) Q) ⟨e, h', n'⟩ := by
  have b0 := b
  have c0 := c
  have at2 := rd_agr b.fr6 b.at2 _ b.ag
  obtain ⟨m4, a4, q4, b4, r4⟩ := b.as4.up b.fr6 b.ag
  obtain ⟨m5, a5, x5, y5, q5, b5, r5, r5', r5''⟩ := b.aq5.up b.fr6 b.ag
  obtain ⟨m7, a7, q7, b7, r7⟩ := b.ae7.up b.fr6 b.ag
  have fr := b.frs
  have kn := b.kn
  obtain ⟨q13, hw, hw1, hw2, _⟩ := c
  simp only [] at at2 fr kn q4 b4 r4 q5 b5 r5 r5' r5'' q7 b7 r7 q13 hw hw1 hw2
  obtain ⟨ta, q2⟩ : ∃ x, e 2 = x := ⟨_, rfl⟩
  rw [q2] at at2
  obtain ⟨s1, s2, s3, s4, s5⟩ := sl_is at2
  have o4 := (sl_is r4).2.2.2.1
  have o5 := (sl_is r5).2.2.2.1
  have o5' := (sl_is r5').2.2.2.1
  have o5'' := (sl_is r5'').2.2.2.1
  have o7 := (sl_is r7).2.2.2.1
  have hok := w.eq hb
  have hcl : ((v.t ++ marks 40).flatMap ncells).length = (v.t.length + 40) * 6 := by rw [flat_len Flat.nd, List.length_append, marks_len]
  have hde : de38 h' [.g [a4], .g [a5, .v (.int .i64 v.q.mode), .v (.int .i64 v.q.after), x5, .v (.int .i64 v.q.within), .v (.string v.q.par), y5], .s wr' 41 0 v.t.length, .g [a7, .v (.int .i64 v.en.each), .v (.int .i64 v.en.pos)]] = some v :=
    de38_in r4 (deQ_has r5 r5' r5'') (room_rd hw) (deEn_has r7)
  generalize hev : evalV v.sc (vars v.q.items) v.en v.t = y at *
  generalize (v.t ++ marks 40).flatMap ncells = cs at *
  simp [evs, resAll, resVal, resOne, freeOp, isA, goOp, appNew, mkOp, gev, Region.binds, aop, aeval, gocall, heapOp, quietOp, ev, constAV, setd, yav, ystop, up, env0, cx_ti, cx_G, cx_pf, ti, globS, glob, pfL, lds, ldc, ldcs_1, ldcs_2, ldcs_3, ldcs_4, ldcs_5, ldcs_7, sts, sth, sls.eq_1, slc.eq_1, wr, place, fillOk, fillC, repZ, binI, isDiv, optInt, optI, eksOk, eksEq, EK.ok, EK.eq, AV.i, AV.isI, AV.isInt, AV.str, AV.isStr, AV.ones, AV.isPtr, AV.gl, AV.isG, Value.oneCell', hdC, tlC, Tryd.f6, q2, q4, q5, q7, q13, b4, b5, b7, s1, s2, s3, o4, o5, o5', o5'', o7, tbl6, G38, pureH, hde, hok, hev, vv]
  have y0 : ¬ wr' = n' := by omega
  exact ⟨by omega, b0.up (by simp [up]) (by simp [agree_up, kn, agree_refl]) (by simp [fresh_up, fr.add]) (by simp), c0.up (by simp [up]) (by simp [up, y0]) (by simp), n', by simp [up], by simp [up], by omega, by simp, by omega⟩
theorem law6h (w : W6 v) (hb : beyondV v.en.ls = false) (h6 : Heap) (k wr' p : Nat) (e : Nat → AV) (h' : Heap) (n' : Nat) (b : F6 v h6 k ⟨e, h', n'⟩) (c : Room ⟨e, h', n'⟩ k wr' p v.t.length v.t) (d : Val ⟨e, h', n'⟩ wr' k p (evalV v.sc (vars v.q.items) v.en v.t)) {Q : Ex → St → Prop} :
    awp (cx S6 (pfL tbl6)) (hdC 1 (tlC 8 (Tryd.f6.body.getD .skip))) (thenQ (fun s => n' ≤ s.n ∧ F6 v h6 k s ∧ Room s k wr' p v.t.length v.t ∧ Val s wr' k p (evalV v.sc (vars v.q.items) v.en v.t)) Q) ⟨e, h', n'⟩ := by
  have b0 := b
  have c0 := c
  have d0 := d
  have at2 := rd_agr b.fr6 b.at2 _ b.ag
  have bt11 := rd_agr b.fr6 b.bt11 _ b.ag
  obtain ⟨m4, a4, q4, b4, r4⟩ := b.as4.up b.fr6 b.ag
  obtain ⟨m5, a5, x5, y5, q5, b5, r5, r5', r5''⟩ := b.aq5.up b.fr6 b.ag
  obtain ⟨m7, a7, q7, b7, r7⟩ := b.ae7.up b.fr6 b.ag
  obtain ⟨m9, a9, q9, b9, r9⟩ := b.bs9.up b.fr6 b.ag
  obtain ⟨m10, a10, x10, y10, q10, b10, r10, r10', r10''⟩ := b.bq10.up b.fr6 b.ag
  obtain ⟨m12, a12, q12, b12, r12⟩ := b.be12.up b.fr6 b.ag
  have fr := b.frs
  obtain ⟨q13, hw, hw1, hw2, _⟩ := c
  obtain ⟨m14, q14, b14, _⟩ := d
  simp only [] at at2 bt11 fr q4 b4 r4 q5 b5 r5 r5' r5'' q7 b7 r7 q9 b9 r9 q10 b10 r10 r10' r10'' q12 b12 r12 q13 hw hw1 hw2 q14 b14
  obtain ⟨ta, q2⟩ : ∃ x, e 2 = x := ⟨_, rfl⟩
  obtain ⟨tb, q11⟩ : ∃ x, e 11 = x := ⟨_, rfl⟩
  rw [q2] at at2
  rw [q11] at bt11
  obtain ⟨s1, s2, s3, s4, s5⟩ := sl_is at2
  have u3 := (sl_is bt11).2.2.1
  have o4 := (sl_is r4).2.2.2.1
  have o5 := (sl_is r5).2.2.2.1
  have o5' := (sl_is r5').2.2.2.1
  have o5'' := (sl_is r5'').2.2.2.1
  have o7 := (sl_is r7).2.2.2.1
  have o9 := (sl_is r9).2.2.2.1
  have o10 := (sl_is r10).2.2.2.1
  have o10' := (sl_is r10').2.2.2.1
  have o10'' := (sl_is r10'').2.2.2.1
  have o12 := (sl_is r12).2.2.2.1
  have i7 := (sl_is r7).2.2.2.2
  have i12 := (sl_is r12).2.2.2.2
  have n7 := (sl_is r7).2.2.1
  have n12 := (sl_is r12).2.2.1
  have hok := w.eq hb
  have hde : de38 h' [.g [a9], .g [a10, .v (.int .i64 v.q.mode), .v (.int .i64 v.q.after), x10, .v (.int .i64 v.q.within), .v (.string v.q.par), y10], tb, .g [a12, .v (.int .i64 v.en.each), .v (.int .i64 v.en.pos)]] = some v :=
    de38_in r9 (deQ_has r10 r10' r10'') bt11 (deEn_has r12)
  have hdx : de23 h' [.g [a4], .g [a9], .g [a5, .v (.int .i64 v.q.mode), .v (.int .i64 v.q.after), x5, .v (.int .i64 v.q.within), .v (.string v.q.par), y5], .g [a10, .v (.int .i64 v.q.mode), .v (.int .i64 v.q.after), x10, .v (.int .i64 v.q.within), .v (.string v.q.par), y10], .s wr' 41 0 v.t.length, tb] = some ⟨v.sc, v.sc, v.q, v.q, v.t, v.t⟩ := by
    have k1 : deSc h' (.g [a4]) = some v.sc := r4
    have k2 : deSc h' (.g [a9]) = some v.sc := r9
    simp only [de23, k1, k2, deQ_has r5 r5' r5'', deQ_has r10 r10' r10'', room_rd hw, bt11]
  have htx : TxOk ⟨v.sc, v.sc, v.q, v.q, v.t, v.t⟩ := ⟨rfl, rfl, rfl, hok.sc, hok.ln, hok.sm⟩
  have hdt : rd dNs h' (.s wr' 41 (v.t.length * 6) 40) = some (marks 40) := room_tail hw
  have hdl : de33 h' [a7, a12] = some (v.en.ls, v.en.ls) := by simp only [de33, r7, r12]
  have w1 : v.en.ls.length < big := by have := w.e1; unfold big; omega
  have w2 : ∀ l ∈ v.en.ls, l.length < big := fun l hl => by have := w.e2 l hl; unfold big; omega
  have hcl : ((v.t ++ marks 40).flatMap ncells).length = (v.t.length + 40) * 6 := by rw [flat_len Flat.nd, List.length_append, marks_len]
  have hl1 : (v.t.length : Int) ≤ (v.t.length : Int) + 40 := by omega
  have hl2 : ((v.t.length : Int) + 40 - (v.t.length : Int)) = 40 := by omega
  have hl3 : v.t.length + 40 - v.t.length = 40 := by omega
  have hl4 : ((v.t.length : Int) + 40).toNat - v.t.length = 40 := by omega
  generalize hev : evalV v.sc (vars v.q.items) v.en v.t = y at *
  generalize (v.t ++ marks 40).flatMap ncells = cs at *
  simp [evs, resAll, resVal, resOne, freeOp, isA, goOp, appNew, mkOp, gev, Region.binds, aop, aeval, gocall, heapOp, quietOp, ev, constAV, setd, yav, ystop, up, env0, cx_ti, cx_G, cx_pf, ti, globS, glob, pfL, lds, ldc, ldcs_1, ldcs_2, ldcs_3, ldcs_4, ldcs_5, ldcs_7, sts, sth, sls.eq_1, slc.eq_1, wr, place, fillOk, fillC, repZ, binI, isDiv, optInt, optI, eksOk, eksEq, EK.ok, EK.eq, AV.i, AV.isI, AV.isInt, AV.str, AV.isStr, AV.ones, AV.isPtr, AV.gl, AV.isG, Value.oneCell', hdC, tlC, Tryd.f6, q2, q4, q5, q7, q9, q10, q11, q12, q13, q14, b4, b5, b7, b9, b10, b12, b14, s1, s2, s3, u3, n7, n12, o4, o5, o5', o5'', o7, o9, o10, o10', o10'', o12, tbl6, G38, pureH, hde, hok, hev, vv, G23, hdx, htx, bv, G24, deT, hdt, G33, hdl, w1, hl1, hl2, hl3, hl4]
  exact ⟨w2, b0.up (by simp [up]) (agree_refl _ _) fr (Nat.le_refl _), c0.up (by simp [up]) rfl (Nat.le_refl _), d0.up (by simp [up]) (fun _ _ _ => rfl)⟩
theorem law6i (w : W6 v) (hb : beyondV v.en.ls = false) (h6 : Heap) (k wr' p : Nat) (hkp : k ≤ p) (e : Nat → AV) (h' : Heap) (n' : Nat) (hpn : p ≤ n') (b : F6 v h6 k ⟨e, h', n'⟩) (c : Room ⟨e, h', n'⟩ k wr' p v.t.length v.t) (d : Val ⟨e, h', n'⟩ wr' k p (evalV v.sc (vars v.q.items) v.en v.t)) {Q : Ex → St → Prop} :
    awp (cx S6 (pfL tbl6)) (hdC 1 (tlC 9 (Tryd.f6.body.getD .skip))) (thenQ (fun s => n' ≤ s.n ∧ F6 v h6 k s ∧ Room s k wr' p v.t.length v.t ∧ Val s wr' k p (evalV v.sc (vars v.q.items) v.en v.t) ∧ ∃ lo hi, Mine s p lo hi v.en) Q) ⟨e, h', n'⟩ := by
  have b0 := b
  have c0 := c
  have d0 := d
  obtain ⟨m7, a7, q7, b7, r7⟩ := b.ae7.up b.fr6 b.ag
  have fr := b.frs
  have kn := b.kn
  obtain ⟨_, _, hw1, hw2, _⟩ := c
  simp only [] at fr kn q7 b7 r7
  obtain ⟨o1, o2, o3, o4, o5⟩ := sl_is r7
  have fin : ∀ (e2 : Nat → AV) (h3 : Heap) (n3 m : Nat) (lo hi : Nat) (z : AV), (∀ i ∈ [2, 4, 5, 7, 9, 10, 11, 12], e2 i = e i) → e2 13 = e 13 → e2 14 = e 14 → e2 15 = .p m 0 0 → agree n' h' h3 → Fresh n3 h3 → n' ≤ n3 → n' ≤ m → m < n3 → n' ≤ lo → hi ≤ n3 → ¬ (lo ≤ m ∧ m < hi) → h3 m = some ⟨[z, .v (.int .i64 v.en.each), .v (.int .i64 v.en.pos)], 0, true, 3⟩ → OwnL ecells 11 h3 lo hi z v.en.ls v.en.ls.length → n' ≤ n3 ∧ F6 v h6 k ⟨e2, h3, n3⟩ ∧ Room ⟨e2, h3, n3⟩ k wr' p v.t.length v.t ∧ Val ⟨e2, h3, n3⟩ wr' k p (evalV v.sc (vars v.q.items) v.en v.t) ∧ ∃ lo hi, Mine ⟨e2, h3, n3⟩ p lo hi v.en :=
    fun e2 h3 n3 m lo hi z k1 k13 k14 k15 ka kf kn3 km km2 klo khi kne kb ko => ⟨kn3, b0.up k1 (fun j hj => ka j (by omega)) kf kn3, c0.up k13 (ka _ (by omega)) (Nat.le_refl _), d0.up k14 (fun m hm _ => ka m (by omega)), lo, hi, m, z, k15, kb, ko, by omega, by omega, km2, khi, kne⟩
  simp [evs, resAll, resVal, resOne, freeOp, isA, goOp, appNew, mkOp, gev, Region.binds, aop, aeval, gocall, heapOp, quietOp, ev, constAV, setd, yav, ystop, up, env0, cx_ti, cx_G, cx_pf, ti, globS, glob, pfL, lds, ldc, ldcs_1, ldcs_2, ldcs_3, ldcs_4, ldcs_5, ldcs_7, sts, sth, sls.eq_1, slc.eq_1, wr, place, fillOk, fillC, repZ, binI, isDiv, optInt, optI, eksOk, eksEq, EK.ok, EK.eq, AV.i, AV.isI, AV.isInt, AV.str, AV.isStr, AV.ones, AV.isPtr, AV.gl, AV.isG, Value.oneCell', hdC, tlC, Tryd.f6, q7, b7, o3, o4, tbl6]
  refine ⟨?_, ?_⟩
  · refine (acall_any (S := []) (by simp) (c28 r7 (beyond_len hb) w.e1 fr)).mono ?_
    rintro z h2 n2 ⟨a1, a2, a3, a4⟩
    obtain ⟨v1, v2, v3, v4, v5⟩ := sl_is (a4.rd Flat.ev)
    refine ⟨agr_le fr a1, ?_⟩
    simp [evs, resAll, resVal, resOne, freeOp, isA, goOp, appNew, mkOp, gev, Region.binds, aop, aeval, gocall, heapOp, quietOp, ev, constAV, setd, yav, ystop, up, env0, cx_ti, cx_G, cx_pf, ti, globS, glob, pfL, lds, ldc, ldcs_1, ldcs_2, ldcs_3, ldcs_4, ldcs_5, ldcs_7, sts, sth, sls.eq_1, slc.eq_1, wr, place, fillOk, fillC, repZ, binI, isDiv, optInt, optI, eksOk, eksEq, EK.ok, EK.eq, AV.i, AV.isI, AV.isInt, AV.str, AV.isStr, AV.ones, AV.isPtr, AV.gl, AV.isG, Value.oneCell', v4, v5]
    have hf2 : ∀ b1 b2 : Option Blk, Fresh (n2 + 2) (up (up h2 n2 b1) n2 b2) := fun b1 b2 => by simp [fresh_up, a2.add]
    have hg2 : ∀ b1 b2 : Option Blk, agree n' h' (up (up h2 n2 b1) n2 b2) := fun b1 b2 => by simp [agree_up, a1, a3]
    have ho : ∀ b1 b2 : Option Blk, OwnL ecells 11 (up (up h2 n2 b1) n2 b2) n' n2 z v.en.ls v.en.ls.length := fun b1 b2 => a4.congr (fun q h1 h2 => by rw [up_ne _ _ (by omega), up_ne _ _ (by omega)]) (Nat.le_refl _)
    exact ⟨fin _ _ _ n2 n' n2 z (by simp [up]) (by simp [up]) (by simp [up]) (by simp [up]) (hg2 _ _) (hf2 _ _) (by omega) a3 (by omega) (Nat.le_refl _) (by omega) (by omega) (by simp [up]) (ho _ _), fin _ _ _ n2 n' n2 z (by simp [up]) (by simp [up]) (by simp [up]) (by simp [up]) (hg2 _ _) (hf2 _ _) (by omega) a3 (by omega) (Nat.le_refl _) (by omega) (by omega) (by simp [up]) (ho _ _)⟩
  · have frA : ∀ b, Fresh (n' + 1) (up h' n' b) := fun b => (fresh_up (by omega) b).2 (fr.add 1)
    have agA : ∀ b, agree n' h' (up h' n' b) := fun b => (agree_up (by omega) b).2 (agree_refl _ _)
    refine (acall_any (S := []) (by simp) (c28 (rd_agr fr r7 _ (agA _)) (beyond_len hb) w.e1 (frA _))).mono ?_
    rintro z h2 n2 ⟨a1, a2, a3, a4⟩
    obtain ⟨v1, v2, v3, v4, v5⟩ := sl_is (a4.rd Flat.ev)
    refine ⟨agr_le (frA _) a1, ?_⟩
    have hx : h2 n' = some ⟨[.v (.slice none 0 0), .v (.int .i64 0), .v (.int .i64 0)], 0, true, 3⟩ := by rw [a1 n' (by omega), up_same]
    simp [evs, resAll, resVal, resOne, freeOp, isA, goOp, appNew, mkOp, gev, Region.binds, aop, aeval, gocall, heapOp, quietOp, ev, constAV, setd, yav, ystop, up, env0, cx_ti, cx_G, cx_pf, ti, globS, glob, pfL, lds, ldc, ldcs_1, ldcs_2, ldcs_3, ldcs_4, ldcs_5, ldcs_7, sts, sth, sls.eq_1, slc.eq_1, wr, place, fillOk, fillC, repZ, binI, isDiv, optInt, optI, eksOk, eksEq, EK.ok, EK.eq, AV.i, AV.isI, AV.isInt, AV.str, AV.isStr, AV.ones, AV.isPtr, AV.gl, AV.isG, Value.oneCell', v4, v5, hx]
    have hf2 : ∀ b1 : Option Blk, Fresh (n2 + 1) (up h2 n' b1) := fun b1 => (fresh_up (by omega) b1).2 (a2.add 1)
    have hg2 : ∀ b1 : Option Blk, agree n' h' (up h2 n' b1) := fun b1 j hj => by rw [up_ne _ _ (by omega), a1 j (by omega), up_ne _ _ (by omega)]
    have ho : ∀ b1 : Option Blk, OwnL ecells 11 (up h2 n' b1) (n' + 1) n2 z v.en.ls v.en.ls.length := fun b1 => a4.congr (fun q h1 h2 => up_ne _ _ (by omega)) (Nat.le_refl _)
    exact fin _ _ _ n' (n' + 1) n2 z (by simp [up]) (by simp [up]) (by simp [up]) (by simp [up]) (hg2 _) (hf2 _) (by omega) (Nat.le_refl _) (by omega) (by omega) (by omega) (by omega) (by simp [up]) (ho _)
theorem law6j (w : W6 v) (hb : beyondV v.en.ls = false) (h6 : Heap) (k wr' p lo hi : Nat) (e : Nat → AV) (h' : Heap) (n' : Nat) (b : F6 v h6 k ⟨e, h', n'⟩) (c : Room ⟨e, h', n'⟩ k wr' p v.t.length v.t) (d : Val ⟨e, h', n'⟩ wr' k p (evalV v.sc (vars v.q.items) v.en v.t)) (f : Mine ⟨e, h', n'⟩ p lo hi v.en) {Q : Ex → St → Prop} :
    awp (cx S6 (pfL tbl6)) (hdC 1 (tlC 10 (Tryd.f6.body.getD .skip))) (thenQ (fun s => n' ≤ s.n ∧ F6 v h6 k s ∧ Room s k wr' p v.t.length v.t ∧ Mine s p lo hi v.en) Q) ⟨e, h', n'⟩ := by
  have b0 := b
  have c0 := c
  have f0 := f
  have at2 := rd_agr b.fr6 b.at2 _ b.ag
  obtain ⟨m4, a4, q4, b4, r4⟩ := b.as4.up b.fr6 b.ag
  obtain ⟨m5, a5, x5, y5, q5, b5, r5, r5', r5''⟩ := b.aq5.up b.fr6 b.ag
  have fr := b.frs
  obtain ⟨q13, hw, hw1, hw2, _⟩ := c
  obtain ⟨m14, q14, b14, _⟩ := d
  obtain ⟨m15, zl, q15, b15, r15, _⟩ := f
  simp only [] at at2 fr q4 b4 r4 q5 b5 r5 r5' r5'' q13 hw hw1 hw2 q14 b14 q15 b15 r15
  obtain ⟨ta, q2⟩ : ∃ x, e 2 = x := ⟨_, rfl⟩
  rw [q2] at at2
  obtain ⟨s1, s2, s3, s4, s5⟩ := sl_is at2
  have rl := r15.rd Flat.ev
  have o4 := (sl_is r4).2.2.2.1
  have o5 := (sl_is r5).2.2.2.1
  have o5' := (sl_is r5').2.2.2.1
  have o5'' := (sl_is r5'').2.2.2.1
  have o7 := (sl_is rl).2.2.2.1
  have hok := w.eq hb
  have hde : de38 h' [.g [a4], .g [a5, .v (.int .i64 v.q.mode), .v (.int .i64 v.q.after), x5, .v (.int .i64 v.q.within), .v (.string v.q.par), y5], .s wr' 41 0 v.t.length, .g [zl, .v (.int .i64 v.en.each), .v (.int .i64 v.en.pos)]] = some v :=
    de38_in r4 (deQ_has r5 r5' r5'') (room_rd hw) (deEn_has rl)
  have hcl : ((v.t ++ marks 40).flatMap ncells).length = (v.t.length + 40) * 6 := by rw [flat_len Flat.nd, List.length_append, marks_len]
  have hl1 : (v.t.length : Int) ≤ (v.t.length : Int) + 40 := by omega
  generalize hev : evalV v.sc (vars v.q.items) v.en v.t = y at *
  generalize (v.t ++ marks 40).flatMap ncells = cs at *
  simp [evs, resAll, resVal, resOne, freeOp, isA, goOp, appNew, mkOp, gev, Region.binds, aop, aeval, gocall, heapOp, quietOp, ev, constAV, setd, yav, ystop, up, env0, cx_ti, cx_G, cx_pf, ti, globS, glob, pfL, lds, ldc, ldcs_1, ldcs_2, ldcs_3, ldcs_4, ldcs_5, ldcs_7, sts, sth, sls.eq_1, slc.eq_1, wr, place, fillOk, fillC, repZ, binI, isDiv, optInt, optI, eksOk, eksEq, EK.ok, EK.eq, AV.i, AV.isI, AV.isInt, AV.str, AV.isStr, AV.ones, AV.isPtr, AV.gl, AV.isG, Value.oneCell', hdC, tlC, Tryd.f6, q2, q4, q5, q13, q14, q15, b4, b5, b14, b15, s1, s2, s3, o4, o5, o5', o5'', o7, tbl6, G38, pureH, hde, hok, hev, vv, bv, hl1]
  exact ⟨b0.up (by simp [up]) (agree_refl _ _) fr (Nat.le_refl _), c0.up (by simp [up]) rfl (Nat.le_refl _), f0.up (by simp [up]) (fun _ _ _ => rfl) (Nat.le_refl _)⟩
theorem law6k (w : W6 v) (h6 : Heap) (k wr' p lo hi : Nat) (e : Nat → AV) (h' : Heap) (n' : Nat) (hpn : p ≤ n') (b : F6 v h6 k ⟨e, h', n'⟩) (c : Room ⟨e, h', n'⟩ k wr' p v.t.length v.t) (f : Mine ⟨e, h', n'⟩ p lo hi v.en) {Q : Ex → St → Prop} :
    awp (cx S6 (pfL tbl6)) (hdC 1 (tlC 11 (Tryd.f6.body.getD .skip))) (thenQ (fun s => n' ≤ s.n ∧ F6 v h6 k s ∧ (∃ t, (∀ x ∈ t, Rng x.n) ∧ Room s k wr' p v.t.length t) ∧ Mine s p lo hi v.en) Q) ⟨e, h', n'⟩ := by
  have b0 := b
  have f0 := f
  have at2 := rd_agr b.fr6 b.at2 _ b.ag
  have fr := b.frs
  obtain ⟨q13, hw, hw1, hw2, _⟩ := c
  simp only [] at at2 fr q13 hw hw1 hw2
  obtain ⟨ta, q2⟩ : ∃ x, e 2 = x := ⟨_, rfl⟩
  rw [q2] at at2
  obtain ⟨s1, s2, s3, s4, s5⟩ := sl_is at2
  have hcl : ((v.t ++ marks 40).flatMap ncells).length = (v.t.length + 40) * 6 := by rw [flat_len Flat.nd, List.length_append, marks_len]
  have hl1 : (v.t.length : Int) ≤ (v.t.length : Int) + 40 := by omega
  have hw' : h' wr' = some ⟨v.t.flatMap ncells ++ (marks 40).flatMap ncells, 41, true, 6⟩ := by rw [hw, List.flatMap_append]
  simp [evs, resAll, resVal, resOne, freeOp, isA, goOp, appNew, mkOp, gev, Region.binds, aop, aeval, gocall, heapOp, quietOp, ev, constAV, setd, yav, ystop, up, env0, cx_ti, cx_G, cx_pf, ti, globS, glob, pfL, lds, ldc, ldcs_1, ldcs_2, ldcs_3, ldcs_4, ldcs_5, ldcs_7, sts, sth, sls.eq_1, slc.eq_1, wr, place, fillOk, fillC, repZ, binI, isDiv, optInt, optI, eksOk, eksEq, EK.ok, EK.eq, AV.i, AV.isI, AV.isInt, AV.str, AV.isStr, AV.ones, AV.isPtr, AV.gl, AV.isG, Value.oneCell', hdC, tlC, Tryd.f6, q2, q13, s1, s2, s3, tbl6, hl1]
  refine (acall_any (S := []) (by simp) (c26 hw' (by have := w.t1; unfold smallT; omega) w.t2 fr (by omega))).mono ?_
  rintro z h2 n2 ⟨a1, a2, a3, t', a4, a5, a6⟩
  try simp [evs, resAll, resVal, resOne, freeOp, isA, goOp, appNew, mkOp, gev, Region.binds, aop, aeval, gocall, heapOp, quietOp, ev, constAV, setd, yav, ystop, up, env0, cx_ti, cx_G, cx_pf, ti, globS, glob, pfL, lds, ldc, ldcs_1, ldcs_2, ldcs_3, ldcs_4, ldcs_5, ldcs_7, sts, sth, sls.eq_1, slc.eq_1, wr, place, fillOk, fillC, repZ, binI, isDiv, optInt, optI, eksOk, eksEq, EK.ok, EK.eq, AV.i, AV.isI, AV.isInt, AV.str, AV.isStr, AV.ones, AV.isPtr, AV.gl, AV.isG, Value.oneCell']
  exact ⟨a3, b0.up (by simp [up, q2]) (fun j hj => a1 j (by omega)) a2 a3, ⟨t', a5, by simp [up, q13], by rw [List.flatMap_append]; exact a6, hw1, hw2, a4⟩, f0.up (by simp [up]) (fun m hm _ => a1 m (by omega)) a3⟩
theorem law6l (w : W6 v) (hb : beyondV v.en.ls = false) (h6 : Heap) (k wr' p lo hi : Nat) (hkp : k ≤ p) (t : List Nd) (e : Nat → AV) (h' : Heap) (n' : Nat) (hpn : p ≤ n') (b : F6 v h6 k ⟨e, h', n'⟩) (c : Room ⟨e, h', n'⟩ k wr' p v.t.length t) (f : Mine ⟨e, h', n'⟩ p lo hi v.en) {Q : Ex → St → Prop} :
    awp (cx S6 (pfL tbl6)) (hdC 1 (tlC 12 (Tryd.f6.body.getD .skip))) (thenQ (fun s => n' ≤ s.n ∧ F6 v h6 k s ∧ Room s k wr' p v.t.length t ∧ Mine s p lo hi ⟨flipLL v.en.ls, v.en.each, v.en.pos⟩) Q) ⟨e, h', n'⟩ := by
  have b0 := b
  have c0 := c
  have fr := b.frs
  have hw2 := c.2.2.2.1
  obtain ⟨m15, zl, q15, b15, r15, j1, j2, j3, j4, j5⟩ := f
  simp only [] at fr hw2 q15 b15 r15 j3 j4
  obtain ⟨v1, v2, v3, v4, v5⟩ := sl_is (r15.rd Flat.ev)
  simp [evs, resAll, resVal, resOne, freeOp, isA, goOp, appNew, mkOp, gev, Region.binds, aop, aeval, gocall, heapOp, quietOp, ev, constAV, setd, yav, ystop, up, env0, cx_ti, cx_G, cx_pf, ti, globS, glob, pfL, lds, ldc, ldcs_1, ldcs_2, ldcs_3, ldcs_4, ldcs_5, ldcs_7, sts, sth, sls.eq_1, slc.eq_1, wr, place, fillOk, fillC, repZ, binI, isDiv, optInt, optI, eksOk, eksEq, EK.ok, EK.eq, AV.i, AV.isI, AV.isInt, AV.str, AV.isStr, AV.ones, AV.isPtr, AV.gl, AV.isG, Value.oneCell', hdC, tlC, Tryd.f6, q15, b15, v3, tbl6]
  refine (acall_any (S := []) (by simp) (c34 r15 (beyond_len hb) w.e1 j4 fr)).mono ?_
  rintro z h2 n2 ⟨a1, a2, a3, a4⟩
  try simp [evs, resAll, resVal, resOne, freeOp, isA, goOp, appNew, mkOp, gev, Region.binds, aop, aeval, gocall, heapOp, quietOp, ev, constAV, setd, yav, ystop, up, env0, cx_ti, cx_G, cx_pf, ti, globS, glob, pfL, lds, ldc, ldcs_1, ldcs_2, ldcs_3, ldcs_4, ldcs_5, ldcs_7, sts, sth, sls.eq_1, slc.eq_1, wr, place, fillOk, fillC, repZ, binI, isDiv, optInt, optI, eksOk, eksEq, EK.ok, EK.eq, AV.i, AV.isI, AV.isInt, AV.str, AV.isStr, AV.ones, AV.isPtr, AV.gl, AV.isG, Value.oneCell']
  exact ⟨a3, b0.up (by simp [up, q15]) (fun j hj => a1 j (by omega)) a2 a3, c0.up (by simp [up]) (a1 _ (by omega)) (Nat.le_refl _), m15, zl, by simp [up, q15], (a1 m15 j5).trans b15, a4, j1, j2, by simp only []; omega, by simp only []; omega, j5⟩
theorem law6m (w : W6 v) (hb : beyondV v.en.ls = false) (h6 : Heap) (k wr' p lo hi : Nat) (t : List Nd) (ht : ∀ x ∈ t, Rng x.n) (e : Nat → AV) (h' : Heap) (n' : Nat) (hpn : p ≤ n') (b : F6 v h6 k ⟨e, h', n'⟩) (c : Room ⟨e, h', n'⟩ k wr' p v.t.length t) (f : Mine ⟨e, h', n'⟩ p lo hi ⟨flipLL v.en.ls, v.en.each, v.en.pos⟩) :
    awp (cx S6 (pfL tbl6)) (tlC 13 (Tryd.f6.body.getD .skip)) (finQ (cx S6 (pfL tbl6)) Tryd.f6 fun z _ _ => z = bv true) ⟨e, h', n'⟩ := by
  have at2 := rd_agr b.fr6 b.at2 _ b.ag
  obtain ⟨m4, a4, q4, b4, r4⟩ := b.as4.up b.fr6 b.ag
  obtain ⟨m5, a5, x5, y5, q5, b5, r5, r5', r5''⟩ := b.aq5.up b.fr6 b.ag
  obtain ⟨m7, a7, q7, b7, r7⟩ := b.ae7.up b.fr6 b.ag
  obtain ⟨m9, a9, q9, b9, r9⟩ := b.bs9.up b.fr6 b.ag
  obtain ⟨m10, a10, x10, y10, q10, b10, r10, r10', r10''⟩ := b.bq10.up b.fr6 b.ag
  have fr := b.frs
  obtain ⟨q13, hw, hw1, hw2, htl⟩ := c
  obtain ⟨m15, zl, q15, b15, r15, _⟩ := f
  simp only [] at at2 fr q4 b4 r4 q5 b5 r5 r5' r5'' q7 b7 q9 b9 r9 q10 b10 r10 r10' r10'' q13 hw hw1 hw2 q15 b15 r15
  obtain ⟨ta, q2⟩ : ∃ x, e 2 = x := ⟨_, rfl⟩
  rw [q2] at at2
  obtain ⟨s1, s2, s3, s4, s5⟩ := sl_is at2
  have rl := r15.rd Flat.ev
  have o4 := (sl_is r4).2.2.2.1
  have o5 := (sl_is r5).2.2.2.1
  have o5' := (sl_is r5').2.2.2.1
  have o5'' := (sl_is r5'').2.2.2.1
  have o7 := (sl_is r7).2.2.2.1
  have o15 := (sl_is rl).2.2.2.1
  have n15 := (sl_is rl).2.2.1
  have o9 := (sl_is r9).2.2.2.1
  have o10 := (sl_is r10).2.2.2.1
  have o10' := (sl_is r10').2.2.2.1
  have o10'' := (sl_is r10'').2.2.2.1
  obtain ⟨v', hv'⟩ : ∃ v' : Eq38, v' = ⟨v.sc, v.q, t, ⟨flipLL v.en.ls, v.en.each, v.en.pos⟩⟩ := ⟨_, rfl⟩
  have w' : W6 v' := by rw [hv']; exact w.flip htl ht
  have hok : EqOk v' := w'.eq (by rw [hv']; simp only []; rw [flip6_beyond]; exact hb)
  have rt : rd dNs h' (.s wr' 41 0 v.t.length) = some t := by rw [← htl]; exact room_rd hw
  have hde : de38 h' [.g [a4], .g [a5, .v (.int .i64 v.q.mode), .v (.int .i64 v.q.after), x5, .v (.int .i64 v.q.within), .v (.string v.q.par), y5], .s wr' 41 0 v.t.length, .g [zl, .v (.int .i64 v.en.each), .v (.int .i64 v.en.pos)]] = some v' := by
    rw [hv']
    exact de38_in (v := ⟨v.sc, v.q, t, ⟨flipLL v.en.ls, v.en.each, v.en.pos⟩⟩) r4 (deQ_has r5 r5' r5'') rt (deEn_has (en := ⟨flipLL v.en.ls, v.en.each, v.en.pos⟩) rl)
  have hcl : ((t ++ marks 40).flatMap ncells).length = (v.t.length + 40) * 6 := by rw [flat_len Flat.nd, List.length_append, marks_len, htl]
  have hl1 : (v.t.length : Int) ≤ (v.t.length : Int) + 40 := by omega
  have hbl := beyond_len (ll := flipLL v.en.ls) (by rw [flip6_beyond]; exact hb)
  have hlb : (flipLL v.en.ls).length * 24 ≤ 140737488355328 := by rw [flip6_len]; exact w.e1
  try simp only [] at b15 rl
  generalize hev : evalV v'.sc (vars v'.q.items) v'.en v'.t = y at *
  simp [evs, resAll, resVal, resOne, freeOp, isA, goOp, appNew, mkOp, gev, Region.binds, aop, aeval, gocall, heapOp, quietOp, ev, constAV, setd, yav, ystop, up, env0, cx_ti, cx_G, cx_pf, ti, globS, glob, pfL, lds, ldc, ldcs_1, ldcs_2, ldcs_3, ldcs_4, ldcs_5, ldcs_7, sts, sth, sls.eq_1, slc.eq_1, wr, place, fillOk, fillC, repZ, binI, isDiv, optInt, optI, eksOk, eksEq, EK.ok, EK.eq, AV.i, AV.isI, AV.isInt, AV.str, AV.isStr, AV.ones, AV.isPtr, AV.gl, AV.isG, Value.oneCell', tlC, Tryd.f6, q2, q4, q5, q7, q9, q10, q13, q15, b4, b5, b7, b9, b10, b15, s1, s2, s3, n15, o4, o5, o5', o5'', o7, o9, o10, o10', o10'', o15, tbl6, G38, pureH, hde, hok, hev, vv, bv, hl1]
  refine (acall_any (S := []) (by simp) (c18 rt (by have := w.t1; unfold smallT; omega) fr)).mono ?_
  rintro z h2 n2 ⟨a1, a2, a3, w2, rfl, hw9, hw10, hw11⟩
  refine ⟨agr_le fr a1, ?_⟩
  have rt2 : rd dNs h2 (.s w2 1 0 t.length) = some t := flat_in Flat.nd (l := t) hw9 rfl (r := []) (by simp)
  try simp [evs, resAll, resVal, resOne, freeOp, isA, goOp, appNew, mkOp, gev, Region.binds, aop, aeval, gocall, heapOp, quietOp, ev, constAV, setd, yav, ystop, up, env0, cx_ti, cx_G, cx_pf, ti, globS, glob, pfL, lds, ldc, ldcs_1, ldcs_2, ldcs_3, ldcs_4, ldcs_5, ldcs_7, sts, sth, sls.eq_1, slc.eq_1, wr, place, fillOk, fillC, repZ, binI, isDiv, optInt, optI, eksOk, eksEq, EK.ok, EK.eq, AV.i, AV.isI, AV.isInt, AV.str, AV.isStr, AV.ones, AV.isPtr, AV.gl, AV.isG, Value.oneCell', n15]
  refine (acall_any (S := []) (by simp) (c28 (rd_agr fr rl _ a1) hbl hlb a2)).mono ?_
  rintro z3 h3 n3 ⟨c1, c2, c3, c4⟩
  refine ⟨agr_le a2 c1, ?_⟩
  have rl3 := c4.rd Flat.ev
  obtain ⟨v1, v2, v3, v4, v5⟩ := sl_is rl3
  have ag3 : agree n' h' h3 := agree_trans a1 c1 a3
  have hde3 : de38 h3 [.g [a9], .g [a10, .v (.int .i64 v.q.mode), .v (.int .i64 v.q.after), x10, .v (.int .i64 v.q.within), .v (.string v.q.par), y10], .s w2 1 0 t.length, .g [z3, .v (.int .i64 v.en.each), .v (.int .i64 v.en.pos)]] = some v' := by
    rw [hv']
    exact de38_in (v := ⟨v.sc, v.q, t, ⟨flipLL v.en.ls, v.en.each, v.en.pos⟩⟩) (rd_agr fr r9 _ ag3) (deQ_has (rd_agr fr r10 _ ag3) (rd_agr fr r10' _ ag3) (rd_agr fr r10'' _ ag3)) (rd_agr a2 rt2 _ c1) (deEn_has (en := ⟨flipLL v.en.ls, v.en.each, v.en.pos⟩) rl3)
  simp [evs, resAll, resVal, resOne, freeOp, isA, goOp, appNew, mkOp, gev, Region.binds, aop, aeval, gocall, heapOp, quietOp, ev, constAV, setd, yav, ystop, up, env0, cx_ti, cx_G, cx_pf, ti, globS, glob, pfL, lds, ldc, ldcs_1, ldcs_2, ldcs_3, ldcs_4, ldcs_5, ldcs_7, sts, sth, sls.eq_1, slc.eq_1, wr, place, fillOk, fillC, repZ, binI, isDiv, optInt, optI, eksOk, eksEq, EK.ok, EK.eq, AV.i, AV.isI, AV.isInt, AV.str, AV.isStr, AV.ones, AV.isPtr, AV.gl, AV.isG, Value.oneCell', v3, v4, v5, G38, pureH, hde3, hok, hev, vv, bv]
  done
theorem law6 (e1 : rd dTys h sa = some v.sc) (e2 : rd dIts h qa = some v.q.items) (e3 : rd dNs h qb = some v.q.wh) (e4 : rd dNss h qc = some v.q.ret) (e5 : rd dNs h ta = some v.t) (e6 : rd dEss h la = some v.en.ls) (w : W6 v) (hn : Fresh n h) :
    awp (cx S6 (pfL tbl6)) (Tryd.f6.body.getD .skip) (finQ (cx S6 (pfL tbl6)) Tryd.f6 fun z _ _ => z = bv true) ⟨env0 [.g [sa], .g [qa, .v (.int .i64 v.q.mode), .v (.int .i64 v.q.after), qb, .v (.int .i64 v.q.within), .v (.string v.q.par), qc], ta, .g [la, .v (.int .i64 v.en.each), .v (.int .i64 v.en.pos)]], roH h, n⟩ := by
  refine awp_cut 2 _ _ (law6a e1 e2 e3 e4 e5 e6 w hn _ rfl rfl rfl rfl) fun x1 h1 n1 ⟨b1, hb⟩ => ?_
  refine awp_cut 1 _ _ (law6b w x1 h1 n1 b1) fun x2 h2 n2 ⟨b2, c2⟩ => ?_
  refine awp_cut 1 _ _ (law6c w x2 h2 n2 b2 c2) fun x3 h3 n3 ⟨b3, c3, d3⟩ => ?_
  refine awp_cut 1 _ _ (law6d w x3 h3 n3 b3 c3 d3) fun x4 h4 n4 ⟨b4, c4, d4, t4⟩ => ?_
  refine awp_cut 1 _ _ (law6e w hb x4 h4 n4 b4 c4 d4 t4) fun x5 h5 n5 b5 => ?_
  refine awp_cut 1 _ _ (law6f w h5 n5 x5 h5 n5 b5) fun x6 h6 n6 ⟨b6, wr', c6⟩ => ?_
  refine awp_cut 1 _ _ (law6g w hb h5 n5 wr' x6 h6 n6 b6 c6) fun x7 h7 n7 ⟨b7, c7, d7⟩ => ?_
  refine awp_cut 1 _ _ (law6h w hb h5 n5 wr' n7 x7 h7 n7 b7 c7 d7) fun x8 h8 n8 ⟨i8, b8, c8, d8⟩ => ?_
  have hkp : n5 ≤ n7 := b7.kn
  refine awp_cut 1 _ _ (law6i w hb h5 n5 wr' n7 hkp x8 h8 n8 i8 b8 c8 d8) fun x9 h9 n9 ⟨i9, b9, c9, d9, lo, hi, f9⟩ => ?_
  simp only [] at i8 i9
  refine awp_cut 1 _ _ (law6j w hb h5 n5 wr' n7 lo hi x9 h9 n9 b9 c9 d9 f9) fun x10 h10 n10 ⟨i10, b10, c10, f10⟩ => ?_
  simp only [] at i10
  refine awp_cut 1 _ _ (law6k w h5 n5 wr' n7 lo hi x10 h10 n10 (by omega) b10 c10 f10) fun x11 h11 n11 ⟨i11, b11, ⟨t', ht', c11⟩, f11⟩ => ?_
  simp only [] at i11
  refine awp_cut 1 _ _ (law6l w hb h5 n5 wr' n7 lo hi hkp t' x11 h11 n11 (by omega) b11 c11 f11) fun x12 h12 n12 ⟨i12, b12, c12, f12⟩ => ?_
  simp only [] at i12
  exact law6m w hb h5 n5 wr' n7 lo hi t' ht' x12 h12 n12 (by omega) b12 c12 f12
end
end Go.Proofs.YtkfphaphiikloaaDoor
