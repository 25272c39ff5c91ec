import Derived.Test.YtcdgojonaloclaaG8
set_option linter.all false
open List renaming map_cons → Qb, map_nil → Qc, length_map → Qd, length_cons → Qe, take_succ_cons → Qf, length_nil → Qg, append_nil → Qi, drop_succ_cons → Qj, getD_eq_getElem?_getD → Ql, replicate_zero → Qo, getElem?_cons_zero → Qp, all_nil → Qr, headD_cons → Qs, take_nil → Qt, all_cons → Qu, drop_zero → Qw, cons_append → Qx, replicate_succ → Qy, getElem?_eq_getElem → Qz, nil_append → Q0, set_cons_zero → Q1, getElem?_cons_succ → Q2, take_zero → Q3, getElem?_nil → Q6, contains_nil → Q7, drop_nil → Q8, isEmpty_nil → Zb, set_cons_succ → Zg, contains_cons → Zh, isEmpty_cons → Zj, any_nil → Zk, getElem?_map → Zm, flatten_nil → Zn, take_length → Zp
open Nat renaming zero_add → Qh
open Bool renaming false_eq_true → Qa, or_false → Qk, and_self → Qm, and_true → Qn, not_eq_true' → Qv, or_eq_false_iff → Q4, and_false → Q5, false_and → Zc, not_false → Zd, decide_eq_true → Ze, not_true → Zf
open Option renaming getD_some → Qq, getD_none → Za, map_some → Zs
open Int renaming lt_irrefl → Q9, natCast_nonneg → Zi, toNat_natCast → Zl, natCast_zero → Zo, natCast_add → Zq, natCast_one → Zr
set_option linter.unusedSimpArgs false
set_option linter.unusedVariables false
namespace Go.C02
open Go.Fam Go.Proofs
theorem far_ok22 {d : Dome} (h : far d = false) : Ok22 d := by
  unfold far at h
  split at h
  · cases h
  rename_i h1
  split at h
  · cases h
  rename_i h2
  have h1 : bigs d = false := by simpa using h1
  unfold bigs at h1
  simp only [Q4, decide_eq_false_iff_not] at h1
  refine ⟨by omega, by omega, by omega, by omega, fun b hb => ?_⟩
  have h2 : d.bolts.any (fun b => decide ((60 : Int) < b.strips.length)) = false := by simpa using h2
  have := List.any_eq_false.1 h2 b hb
  simp only [decide_eq_true_eq] at this
  omega
theorem z61 (f : Fig) (n : Int) : H25 61 [.ag (eFig f), .i n] = (f.starts.length < 10000000 ∧ f.times.length < 10000000, .i (openE f (within n 0 (f.dome.gores.length - 1)))) := q61 f n
theorem z57 (d : Dome) : H25 57 [.ag (eDome d)] = (True, .b (far d)) :=
  (show H25 57 _ = r21 [.ag (eDome d)] from rfl).trans (fnG_at (e := fun d => [.ag (eDome d)]) _ (dDome_e _))
theorem z55 (d : Dome) : H25 55 [.ag (eDome d)] = (Ok22 d, .ag (eDome d)) :=
  (show H25 55 _ = r22 [.ag (eDome d)] from rfl).trans (fnG_at (e := fun d => [.ag (eDome d)]) _ (dDome_e _))
theorem W36 (f : Fig) (hs : f.starts.length < 10000000) (ht : f.times.length < 10000000) : PureCall Try.prog 36 [.ag (eFig f)] (.i (openE f true)) := by
  refine pure_body okH25 hmix Try.func36 cb36 cc36 cs36 cn36 ?_
  have g1 := z61 f 0
  rw [openE0] at g1
  unfold eFig at g1
  simp only [rc36, rs36, g1, ru_reg, ru_seq, ru_ret, ru_keep, thenQ, run_nil, run_cons, Fam.step, stepQ, evO, opv, qv, ldV, callV, V.cells, solid, hasRef, hasRefL, flat, upd_some, lkp_cons, lkp_nil, ↓reduceIte, Nat.reduceEqDiff, Nat.reduceAdd, Nat.reduceLT, Nat.reduceLeDiff, Qb, Qc, Qe, Qg, Qf, Qt, Qi, endQ, rvs, rv1, resV, vw_i, vw_sl, vw_ag, zipA, Qh, Qk, Qa, true_and, and_true, and_self, implies_true, eFig]
  exact ⟨hs, ht⟩
def farRing (f : Fig) : Bool := far f.dome || decide (60 < f.starts.length) || decide (60 < f.times.length)
theorem W24 (f : Fig) : PureCall Try.prog 24 [.ag (eFig f)] (.b (farRing f)) := by
  refine pure_body okH25 hmix Try.func24 cb24 cc24 cs24 cn24 ?_
  have g1 := z57 f.dome
  unfold eDome at g1
  simp only [rc24, rs24, g1, ru_reg, ru_seq, ru_ret, ru_keep, thenQ, run_nil, run_cons, Fam.step, stepQ, needQ, condB, ug, evO, opv, qv, pickV_bb, binV, ldV, lenV, callV, V.cells, solid, hasRef, hasRefL, flat, upd_some, lkp_cons, lkp_nil, ↓reduceIte, Nat.reduceEqDiff, Nat.reduceAdd, Nat.reduceLT, Nat.reduceLeDiff, Qb, Qc, Qu, Qr, Qe, Qg, Qj, Qw, Qf, Q3, Qs, Qi, endQ, rvs, rv1, resV, vw_i, vw_b, vw_sl, vw_ag, zipA, Qh, V.b.injEq, Qm, Qn, Qk, Qa, true_and, and_true, and_self, implies_true, beq_false, Qv, ite_t, Ze, imp_self, Qd, eFig]
  have e1 : decide ((60 : Int) < f.starts.length) = decide (60 < f.starts.length) := by simp only [decide_eq_decide]; omega
  have e2 : decide ((60 : Int) < f.times.length) = decide (60 < f.times.length) := by simp only [decide_eq_decide]; omega
  simp only [farRing, e1, e2]
structure Ok21 (f : Fig) : Prop where
  d : Ok22 f.dome
  s : f.starts.length < 1000000
  t : f.times.length < 1000000
theorem farRing_ok {f : Fig} (h : farRing f = false) : Ok21 f := by
  unfold farRing at h
  simp only [Q4, decide_eq_false_iff_not] at h
  exact ⟨far_ok22 h.1.1, by omega, by omega⟩
theorem W21 (f : Fig) (h : Ok21 f) : PureCall Try.prog 21 [.ag (eFig f)] (.ag (eFig f)) := by
  refine pure_body okH25 hmix Try.func21 cb21 cc21 cs21 cn21 ?_
  have g1 := z55 f.dome
  unfold eDome at g1
  have hs := h.s
  have ht := h.t
  simp only [rc21, rs21, g1, Zn, len_I, Nat.mul_one, Qd, Nat.le_refl, chunk_I, vw_I, ru_reg, ru_any, ru_seq, ru_ret, ru_keep, putBs, optL, putB, thenQ, run_nil, run_cons, Fam.step, stepQ, stepW, needW, runX, eff, nextD, fpR, fpQ, fpV, disjB, hits, putB, nv, sv, newsV, evO, opv, qv, ldV, curG, callV, foldParts, putAt, partsOk, partsOne, V.cells, solid, cellOk, hasRef, hasRefL, flat, flatL, upd_some, upd_none, lkp_cons, lkp_nil, ↓reduceIte, Nat.reduceEqDiff, Nat.reduceAdd, Nat.reduceLT, Nat.reduceLeDiff, Nat.reduceBEq, Qb, Qc, Qu, Qr, Qe, Qg, Qj, Qw, Q8, Qf, Q3, Qt, Qs, Qx, Q0, Qi, Qp, Q2, Q6, Qq, Za, Q1, Zg, Qo, Qy, Zb, Zj, endQ, rvs, rv1, resV, vw_i, vw_sl, vw_ag, vw_rf, zipA, beq_self_eq_true, Qh, Nat.add_zero, Qm, Qn, Bool.true_and, Zc, Q5, Qk, Bool.false_or, Zf, Zd, Qa, true_and, and_true, and_self, List.any_cons, Zk, Zh, Q7, imp_self, Qd, Ql, eFig]
  exact ⟨h.d, by unfold fitsLen; omega, by unfold fitsLen; omega⟩
def copyF (f : Fig) : List V := [.sl 4 (f.dome.bolts.map eBolt), .sl 1 (f.dome.gores.map eI), .i f.dome.loss, .sl 2 (f.dome.rounds.map eSpan), .sl 1 (f.dome.widths.map eI), .i f.dome.slope,
  .i f.period, .i f.run, .i f.near, .rf 2 1 0 f.starts.length 1, .rf 4 1 0 f.times.length 1]
def copyFH (f : Fig) : List Blk := [.cells 0 (copyF f), .cells 0 (copyF f), .cells 1 (f.starts.map eI).flatten, .hole, .cells 1 (f.times.map eI).flatten, .hole]
theorem O21 (f : Fig) (h : Ok21 f) : OwnCall Try.prog 21 [.ag (eFig f)] (.ag (copyF f)) (copyFH f) := by
  refine own_body okH25 hmix Try.func21 cb21 cc21 cs21 cn21 ?_
  have g1 := z55 f.dome
  unfold eDome at g1
  have hs := h.s
  have ht := h.t
  simp only [rc21, rs21, g1, endO, Zn, copyF, copyFH, Qd, ru_reg, ru_any, ru_seq, ru_ret, ru_keep, putBs, optL, putB, endO, thenQ, run_nil, run_cons, Fam.step, stepQ, stepW, needW, runX, eff, nextD, fpR, fpQ, fpV, disjB, hits, putB, nv, sv, newsV, evO, opv, qv, ldV, curG, callV, foldParts, putAt, partsOk, partsOne, V.cells, solid, cellOk, hasRef, hasRefL, flat, flatL, upd_some, upd_none, lkp_cons, lkp_nil, ↓reduceIte, Nat.reduceEqDiff, Nat.reduceAdd, Nat.reduceMul, Nat.reduceLT, Nat.reduceLeDiff, Nat.reduceBEq, Qb, Qc, Qu, Qr, Qe, Qg, Qj, Qw, Q8, Qf, Q3, Qt, Qs, Qx, Q0, Qi, Qp, Q2, Q6, Qq, Za, Q1, Zg, Qo, Qy, Zb, Zj, rvs, rv1, resV, vw_i, vw_sl, vw_ag, zipA, beq_self_eq_true, Qh, Nat.add_zero, Qm, Qn, Bool.true_and, Zc, Q5, Qk, Bool.false_or, Zf, Zd, Qa, true_and, and_true, and_self, List.any_cons, Zk, Zh, Q7, imp_self, Qd, Ql, eFig]
  exact ⟨h.d, by unfold fitsLen; omega, by unfold fitsLen; omega⟩
theorem mem_take_succ {l : List Int} {i : Nat} {x n : Int} (hx : l[i]? = some x) : n ∈ l.take (i + 1) ↔ n ∈ l.take i ∨ n = x := by
  rw [take_succ_of hx]; simp
theorem W23 (l : List Int) (n : Int) (h : l.length < 10000000) : PureCall Try.prog 23 [.sl 1 (l.map eI), .i n] (.b (decide (n ∈ l))) := by
  refine pure_body okH25 hmix Try.func23 cb23 cc23 cs23 cn23 ?_
  simp only [rc23, rs23, ru_reg, ru_seq, ru_block, ru_keep, thenQ, run_nil, run_cons, Fam.step, stepQ, evO, opv, qv, upd_some, lkp_cons, lkp_nil, ↓reduceIte, Nat.reduceEqDiff, Qb, Qc, zipA, Qh, true_and, reduceCtorEq]
  refine ru_countC l.length (fun i => ⟨lkp [(0, .sl 1 (l.map eI)), (1, .i n), (5, .i i)], []⟩) (fun i => n ∉ l.take i) ?_ (by simp) ?_ ?_
  · simp only [Zo, kp, lkp_cons, lkp_nil, ↓reduceIte, Nat.reduceEqDiff, Qb, Qc, reduceCtorEq]
  · intro i hi hC
    obtain ⟨x, hx⟩ : ∃ x, l[i]? = some x := ⟨_, Qz hi⟩
    have hlt : (i : Int) < l.length := by omega
    have h3 : inI ((i : Int) + 1) := by unfold inI; omega
    simp only [hx, hlt, h3, Zq, Zr, ru_skip, ru_reg, ru_seq, ru_cnd, ite_P, ru_block, ru_ret, ru_keep, thenQ, blockQ, run_nil, run_cons, Fam.step, stepQ, evO, opv, qv, binV, ldV, iadV, lenV, kp, upd_some, lkp_cons, lkp_nil, ↓reduceIte, Nat.reduceEqDiff, Nat.reduceLeDiff, Qb, Qc, Qe, Qg, Qs, Qq, endQ, rvs, rv1, resV, vw_b, Zi, Qh, V.b.injEq, Qa, decide_true, decide_eq_true_eq, true_and, and_true, and_self, reduceCtorEq, Zs, Qd, Zl, Ql, Zm, eI]
    refine ⟨fun e => ?_, fun e => ?_⟩
    · rw [decide_eq_true]
      rw [← e]; exact List.mem_of_getElem? hx
    · rw [mem_take_succ hx]
      rintro (h | h)
      · exact hC h
      · exact e h.symm
  · intro hC
    rw [Zp] at hC
    simp only [Q9, ru_reg, ru_seq, ru_cnd, ru_exit, ru_ret, ru_keep, thenQ, blockQ, run_nil, run_cons, Fam.step, stepQ, evO, opv, qv, binV, lenV, upd_some, lkp_cons, lkp_nil, ↓reduceIte, Nat.reduceEqDiff, Qb, Qc, endQ, rvs, rv1, resV, vw_b, Q9, V.b.injEq, Qa, decide_false, true_and, and_self, reduceCtorEq, Qd]
    rw [decide_eq_false hC]
theorem W32 (a b : List Int) (h : a.length < 10000000) : PureCall Try.prog 32 [.sl 1 (a.map eI), .sl 1 (b.map eI)] (.b (decide (a = b))) := by
  refine pure_body okH25 hmix Try.func32 cb32 cc32 cs32 cn32 ?_
  simp only [rc32, rs32, ru_skip, ru_reg, ru_seq, ru_cnd, ite_P, ru_block, ru_ret, ru_keep, thenQ, run_nil, run_cons, Fam.step, stepQ, evO, opv, qv, binV, lenV, upd_some, lkp_cons, lkp_nil, ↓reduceIte, Nat.reduceEqDiff, Qb, Qc, endQ, rvs, rv1, resV, vw_b, zipA, Qh, V.b.injEq, decide_eq_false_iff_not, true_and, and_self, reduceCtorEq, Qv, Qd, Classical.not_not]
  refine ⟨fun e => ?_, fun e => ?_⟩
  · have : ¬ a = b := fun h => e (by rw [h])
    rw [decide_eq_false this]
  have e : a.length = b.length := by omega
  refine ru_countC a.length (fun i => ⟨lkp [(0, .sl 1 (a.map eI)), (1, .sl 1 (b.map eI)), (5, .i i)], []⟩) (fun i => a.take i = b.take i) ?_ rfl ?_ ?_
  · simp only [Zo, kp, lkp_cons, lkp_nil, ↓reduceIte, Nat.reduceEqDiff, Qb, Qc, reduceCtorEq]
  · intro i hi hC
    obtain ⟨x, hx⟩ : ∃ x, a[i]? = some x := ⟨_, Qz hi⟩
    obtain ⟨y, hy⟩ : ∃ y, b[i]? = some y := ⟨_, Qz (by omega)⟩
    have hlt : (i : Int) < a.length := by omega
    have hlt2 : (i : Int) < b.length := by omega
    have h3 : inI ((i : Int) + 1) := by unfold inI; omega
    simp only [hx, hy, hlt, hlt2, h3, Zq, Zr, ru_skip, ru_reg, ru_any, ru_seq, ru_cnd, ite_P, ru_block, ru_ret, ru_keep, putBs, thenQ, blockQ, run_nil, run_cons, Fam.step, stepQ, runX, eff, nextD, fpR, fpQ, fpV, disjB, hits, evO, opv, qv, binV, ldV, iadV, lenV, kp, upd_some, lkp_cons, lkp_nil, ↓reduceIte, Nat.reduceEqDiff, Nat.reduceLeDiff, Qb, Qc, Qr, Qe, Qg, Qs, Qx, Q0, Qi, Q6, Qq, Za, Qo, Zb, endQ, rvs, rv1, resV, vw_b, Zi, Qh, V.b.injEq, Qm, Qn, Zc, Qk, Zf, Zd, Qa, decide_true, decide_eq_false_iff_not, true_and, and_true, and_self, reduceCtorEq, Zs, Zk, Q7, Qv, Qd, Zl, Ql, Zm, Classical.not_not, eI]
    refine ⟨fun e1 => ?_, fun e1 => ?_⟩
    · have : ¬ a = b := fun h => e1 (by rw [h, hy] at hx; exact (Option.some.inj hx).symm)
      rw [decide_eq_false this]
    · rw [take_succ_of hx, take_succ_of hy, hC, e1]
  · intro hC
    have : a = b := by
      rw [Zp] at hC
      rw [hC, List.take_of_length_le (by omega)]
    simp only [Q9, ru_reg, ru_seq, ru_cnd, ru_exit, ru_ret, ru_keep, thenQ, blockQ, run_nil, run_cons, Fam.step, stepQ, evO, opv, qv, binV, lenV, upd_some, lkp_cons, lkp_nil, ↓reduceIte, Nat.reduceEqDiff, Qb, Qc, endQ, rvs, rv1, resV, vw_b, Q9, V.b.injEq, Qa, decide_false, true_and, and_self, reduceCtorEq, Qd]
    rw [decide_eq_true this]
def s23 : List V → Prop × V | [.sl 1 l, .i n] => (l = (l.map dI).map eI ∧ l.length < 10000000, .b (decide (n ∈ l.map dI))) | _ => (False, .u)
def s32 : List V → Prop × V | [.sl 1 l, .sl 1 k] => ((l = (l.map dI).map eI ∧ k = (k.map dI).map eI) ∧ l.length < 10000000, .b (decide (l.map dI = k.map dI))) | _ => (False, .u)
theorem s23_ok (vs : List V) (h : (s23 vs).1) : PureCall Try.prog 23 vs (s23 vs).2 := by
  unfold s23 at h ⊢
  split at h
  · rename_i l n
    have := W23 (l.map dI) n (by simpa using h.2)
    rw [← h.1] at this
    exact this
  · exact h.elim
theorem s32_ok (vs : List V) (h : (s32 vs).1) : PureCall Try.prog 32 vs (s32 vs).2 := by
  unfold s32 at h ⊢
  split at h
  · rename_i l k
    have := W32 (l.map dI) (k.map dI) (by simpa using h.2)
    rw [← h.1.1, ← h.1.2] at this
    exact this
  · exact h.elim
def s21o : List V → Prop × V := fnG (fun f => [.ag (eFig f)]) decF Ok21 (fun f => f) (fun f => .tp [.ag (copyF f), .tp ((copyFH f).map bV)])
theorem copyFH_vB (f : Fig) : ((copyFH f).map bV).map vB = copyFH f := by simp [copyFH, copyF, bV, vB]
noncomputable def H26 : Gam := ((((((H25.ext 36 (fnG (fun f => [.ag (eFig f)]) decF (fun f => f.starts.length < 10000000 ∧ f.times.length < 10000000) (fun f => openE f true) .i)).ext 24 (fnG (fun f => [.ag (eFig f)]) decF (fun _ => True) farRing .b)).ext 21 (fnG (fun f => [.ag (eFig f)]) decF Ok21 (fun f => f) (fun f => .ag (eFig f)))).ext 23 s23).ext 32 s32).ext 1000021 s21o)
theorem okH26 : GOk Try.prog H26 := by
  have k1 := okH25.ext (f := 36) (fun a w => Try.call36 a w) (fnG_ok (e := fun f => [.ag (eFig f)]) (d := decF) (ok := fun f => f.starts.length < 10000000 ∧ f.times.length < 10000000) (g := fun f => openE f true) (eb := V.i) fun f h => W36 f h.1 h.2)
  have k2 := k1.ext (f := 24) (fun a w => Try.call24 a w) (fnG_ok (e := fun f => [.ag (eFig f)]) (d := decF) (ok := fun _ => True) (g := farRing) (eb := V.b) fun f _ => W24 f)
  have k3 := k2.ext (f := 21) (fun a w => Try.call21 a w) (fnG_ok (e := fun f => [.ag (eFig f)]) (d := decF) (ok := Ok21) (g := fun f => f) (eb := fun f => V.ag (eFig f)) fun f h => W21 f h)
  have k4 := k3.ext (f := 23) (r := s23) (fun a w => Try.call23 a w) s23_ok
  have k5 := k4.ext (f := 32) (r := s32) (fun a w => Try.call32 a w) s32_ok
  exact k5.extO (f := 21) (r := s21o) (fun a w => Try.call21 a w) fun vs v bs h e => fnO_ok (e := fun f => [.ag (eFig f)]) (d := decF) (ok := Ok21) (v := fun f => .ag (copyF f)) (hp := copyFH) copyFH_vB (fun f h => O21 f h) vs v bs h e
theorem z36 (f : Fig) : H26 36 [.ag (eFig f)] = (f.starts.length < 10000000 ∧ f.times.length < 10000000, .i (openE f true)) :=
  (show H26 36 _ = fnG (fun f => [.ag (eFig f)]) decF (fun f => f.starts.length < 10000000 ∧ f.times.length < 10000000) (fun f => openE f true) .i [.ag (eFig f)] from rfl).trans (fnG_at _ (dFig_e _))
theorem z24 (f : Fig) : H26 24 [.ag (eFig f)] = (True, .b (farRing f)) :=
  (show H26 24 _ = fnG (fun f => [.ag (eFig f)]) decF (fun _ => True) farRing .b [.ag (eFig f)] from rfl).trans (fnG_at _ (dFig_e _))
theorem z21 (f : Fig) : H26 21 [.ag (eFig f)] = (Ok21 f, .ag (eFig f)) :=
  (show H26 21 _ = fnG (fun f => [.ag (eFig f)]) decF Ok21 (fun f => f) (fun f => .ag (eFig f)) [.ag (eFig f)] from rfl).trans (fnG_at _ (dFig_e _))
theorem z21o (f : Fig) : H26 1000021 [.ag (eFig f)] = (Ok21 f, .tp [.ag (copyF f), .tp ((copyFH f).map bV)]) :=
  (show H26 1000021 _ = s21o [.ag (eFig f)] from rfl).trans (fnG_at _ (dFig_e _))
theorem z23 (l : List Int) (n : Int) : H26 23 [.sl 1 (l.map eI), .i n] = (l.length < 10000000, .b (decide (n ∈ l))) := by
  refine (show H26 23 _ = s23 [.sl 1 (l.map eI), .i n] from rfl).trans ?_
  simp [s23, map_de dI_eI]
theorem z32 (l k : List Int) : H26 32 [.sl 1 (l.map eI), .sl 1 (k.map eI)] = (l.length < 10000000, .b (decide (l = k))) := by
  refine (show H26 32 _ = s32 [.sl 1 (l.map eI), .sl 1 (k.map eI)] from rfl).trans ?_
  simp [s32, map_de dI_eI]
def farF (f : Fig) : Bool := farRing f || (decide (figCheck f = 0) && (decide (5 < f.starts.length) || decide (8 < f.period)))
theorem z25' (f : Fig) : H26 25 [.ag (eFig f)] = (f.starts.length < 10000000 ∧ f.times.length < 10000000, .i (figCheck f)) := q25 f
theorem W29 (f : Fig) : PureCall Try.prog 29 [.ag (eFig f)] (.b (farF f)) := by
  refine pure_body okH26 hmix Try.func29 cb29 cc29 cs29 cn29 ?_
  have g1 := z24 f
  have g2 := z25' f
  unfold eFig at g1 g2
  have e1 : decide ((5 : Int) < f.starts.length) = decide (5 < f.starts.length) := by simp only [decide_eq_decide]; omega
  simp only [rc29, rs29, g1, g2, e1, farF, ru_reg, ru_seq, ru_ret, ru_keep, thenQ, run_nil, run_cons, Fam.step, stepQ, needQ, condB, ug, evO, opv, qv, pickV_bb, binV, ldV, lenV, callV, V.cells, solid, hasRef, hasRefL, flat, upd_some, lkp_cons, lkp_nil, ↓reduceIte, Nat.reduceEqDiff, Nat.reduceAdd, Nat.reduceLT, Nat.reduceLeDiff, Qb, Qc, Qu, Qr, Qe, Qg, Qj, Qw, Qf, Qt, Qs, Qi, endQ, rvs, rv1, resV, vw_i, vw_b, vw_sl, vw_ag, zipA, Qh, Qm, Qn, Qk, Qa, decide_eq_true_eq, decide_eq_false_iff_not, true_and, and_true, and_self, implies_true, beq_true, beq_false, Qv, ite_f, ite_t, Ze, imp_self, Qd, eFig]
  refine ⟨fun h => ⟨h, ?_⟩, fun h => ⟨h, fun h2 => by rw [h]; simpa using h2⟩, fun h => ⟨h, fun h2 => by simp [h, h2]⟩⟩
  have := farRing_ok h
  have := this.s
  have := ‹Ok21 f›.t
  omega
noncomputable def H27 : Gam := H26.ext 29 (fnG (fun f => [.ag (eFig f)]) decF (fun _ => True) farF .b)
theorem okH27 : GOk Try.prog H27 := okH26.ext (f := 29) (fun a w => Try.call29 a w) (fnG_ok (e := fun f => [.ag (eFig f)]) (d := decF) (ok := fun _ => True) (g := farF) (eb := V.b) fun f _ => W29 f)
theorem z29 (f : Fig) : H27 29 [.ag (eFig f)] = (True, .b (farF f)) :=
  (show H27 29 _ = fnG (fun f => [.ag (eFig f)]) decF (fun _ => True) farF .b [.ag (eFig f)] from rfl).trans (fnG_at _ (dFig_e _))
theorem z36' (f : Fig) : H27 36 [.ag (eFig f)] = (f.starts.length < 10000000 ∧ f.times.length < 10000000, .i (openE f true)) := z36 f
def readyF (f : Fig) : Bool := !farF f && decide (openE f true = 0)
theorem farF_ring {f : Fig} (h : farF f = false) : farRing f = false := by
  unfold farF at h
  rw [Q4] at h
  exact h.1
theorem W16 (f : Fig) : PureCall Try.prog 16 [.ag (eFig f)] (.b (readyF f)) := by
  refine pure_body okH27 hmix Try.func16 cb16 cc16 cs16 cn16 ?_
  have g1 := z29 f
  have g2 := z36' f
  unfold eFig at g1 g2
  simp only [rc16, rs16, g1, g2, readyF, ru_reg, ru_seq, ru_ret, ru_keep, thenQ, run_nil, run_cons, Fam.step, stepQ, needQ, condB, ug, evO, opv, qv, pickV_bb, binV, ldV, callV, V.cells, solid, hasRef, hasRefL, flat, upd_some, lkp_cons, lkp_nil, ↓reduceIte, Nat.reduceEqDiff, Nat.reduceAdd, Nat.reduceLT, Nat.reduceLeDiff, Qb, Qc, Qu, Qr, Qe, Qg, Qf, Qt, Qi, endQ, rvs, rv1, resV, vw_i, vw_b, vw_sl, vw_ag, zipA, Qh, Qm, Qn, Qk, Qa, true_and, and_true, and_self, implies_true, beq_true, Bool.not_eq_false', Qv, ite_f, Bool.decide_eq_false, imp_self, eFig]
  intro h
  have := farRing_ok (farF_ring h)
  have := this.s
  have := ‹Ok21 f›.t
  exact ⟨h, by omega, by omega⟩
def exF : Fig := ⟨exD, 12, 100, 1, [0, 3, 8, 0], [5, 3, 8, 2]⟩
def exF2 : Fig := { exF with near := 2 }
theorem exF_ok : figCheck exF = 0 := by kernel_rfl
theorem exF_open : openE exF true = 0 := by kernel_rfl
theorem exF2_open : openE exF2 true = 0 := by kernel_rfl
theorem exF2_ok : figCheck exF2 = 0 := by kernel_rfl
theorem exF_bad : badR exF = ([0, 3], 0) := by kernel_rfl
theorem exF_plan : maxL (endsN exF.times (planN exF.times)) = 13 := by kernel_rfl
theorem exF_soon : soonR exF = (13, 0) := by
  unfold soonR
  rw [exF_ok, exF_plan]; rfl
theorem exF_b : boltsOf exF = [[5, 6, 7, 8, 9, 10], [5, 6, 7, 8, 9, 10], [0, 1, 2, 3, 4, 5, 6, 7, 8, 9, 10], [0, 1, 2, 3, 4, 5, 6, 7, 8, 9, 10]] := by kernel_rfl
def exBs : List (List Int) := [[5, 6, 7, 8, 9, 10], [5, 6, 7, 8, 9, 10], [0, 1, 2, 3, 4, 5, 6, 7, 8, 9, 10], [0, 1, 2, 3, 4, 5, 6, 7, 8, 9, 10]]
theorem ex_least0 : leastF (withNear exF 0) exBs 4 [] = -1 := by kernel_rfl
theorem ex_least1 : leastF (withNear exF 1) exBs 4 [] = -1 := by kernel_rfl
theorem ex_least2 : leastF (withNear exF 2) exBs 4 [] = 12 := by kernel_rfl
theorem exF_closed : closestR exF = (2, 0) := by
  unfold closestR
  rw [exF_open, if_pos rfl]
  obtain ⟨h1, h2, h3⟩ := closestN_spec (okR_of exF_ok)
  have e0 : leastV (withNear exF 0) [] = -1 := by unfold leastV; rw [show boltsOf (withNear exF 0) = exBs from exF_b]; exact ex_least0
  have e1 : leastV (withNear exF 1) [] = -1 := by unfold leastV; rw [show boltsOf (withNear exF 1) = exBs from exF_b]; exact ex_least1
  have e2 : leastV (withNear exF 2) [] = 12 := by unfold leastV; rw [show boltsOf (withNear exF 2) = exBs from exF_b]; exact ex_least2
  have c0 := (least_closed exF_ok (n := 0) (by decide)).1 (by rw [e0]; decide)
  have c1 := (least_closed exF_ok (n := 1) (by decide)).1 (by rw [e1]; decide)
  have c2 : ¬ closedB (ringOf exF) 2 = false := fun h => by
    have := (least_closed exF_ok (n := 2) (by decide)).2 h
    rw [e2] at this; exact absurd this (by decide)
  have : closestN (ringOf exF) = 2 := by
    rcases Nat.lt_trichotomy (closestN (ringOf exF)) 2 with h | h | h
    · exfalso
      rcases (show closestN (ringOf exF) = 0 ∨ closestN (ringOf exF) = 1 by omega) with e | e
      · rw [e] at h2; rw [show ((0 : Nat) : Int) = 0 from rfl, c0] at h2; cases h2
      · rw [e] at h2; rw [show ((1 : Nat) : Int) = 1 from rfl, c1] at h2; cases h2
    · exact h
    · exact absurd (h3 2 h) c2
  rw [this]; rfl
theorem exF_least : leastR exF2 = (12, 0) := by
  unfold leastR
  rw [exF2_open, if_pos rfl]
  have e2 : leastV exF2 [] = 12 := by unfold leastV; rw [show boltsOf exF2 = exBs from exF_b]; exact ex_least2
  obtain ⟨b1, b2⟩ := leastV_best exF2_ok
  rw [e2] at b1
  cases hb : leastB (Begs (ringOf exF2) exF2.near) with
  | none => have := b2.2 hb; rw [e2] at this; exact absurd this (by decide)
  | some n => rw [hb] at b1; simp only [Qq] at b1; rw [← b1]
theorem PX78 : PureCall Try.prog 78 [] (.ag (eDome exD)) := by
  have := O44.toPure
  exact this
noncomputable def H28 : Gam := ((H27.ext 16 (fnG (fun f => [.ag (eFig f)]) decF (fun _ => True) readyF .b)).ext 78 (fnG (fun _ : Unit => []) (fun _ => ()) (fun _ => True) (fun a => a) (fun _ => .ag (eDome exD))))
theorem okH28 : GOk Try.prog H28 := by
  have k1 := okH27.ext (f := 16) (fun a w => Try.call16 a w) (fnG_ok (e := fun f => [.ag (eFig f)]) (d := decF) (ok := fun _ => True) (g := readyF) (eb := V.b) fun f _ => W16 f)
  exact k1.ext (f := 78) (fun a w => Try.call78 a w) (fnG_ok (e := fun _ : Unit => []) (d := fun _ => ()) (ok := fun _ => True) (g := fun a => a) (eb := fun _ => V.ag (eDome exD)) fun _ _ => PX78)
theorem z78 : H28 78 [] = (True, .ag (eDome exD)) := by
  refine (show H28 78 [] = fnG (fun _ : Unit => []) (fun _ => ()) (fun _ => True) (fun a => a) (fun _ => .ag (eDome exD)) [] from rfl).trans ?_
  simp [fnG]
theorem W49 : PureCall Try.prog 49 [] (.ag (eFig exF)) := by
  refine pure_body okH28 hmix Try.func49 cb49 cc49 cs49 cn49 ?_
  have g1 := z78
  simp only [rc49, rs49, g1, ru_reg, ru_seq, ru_ret, ru_keep, putB, thenQ, run_nil, run_cons, Fam.step, stepQ, stepW, needW, putB, nv, sv, evO, opv, qv, ldV, callV, foldParts, putAt, partsOk, partsOne, V.cells, solid, cellOk, hasRef, hasRefL, flat, flatL, upd_some, upd_none, lkp_cons, lkp_nil, ↓reduceIte, Nat.reduceEqDiff, Nat.reduceAdd, Nat.reduceMul, Nat.reduceLT, Nat.reduceLeDiff, Qb, Qc, Qu, Qr, Qe, Qg, Qj, Qw, Q8, Qf, Q3, Qt, Qx, Q0, Qi, Qp, Q1, Qo, Qy, endQ, rvs, rv1, resV, vw_i, vw_sl, vw_ag, zipA, Qh, Qm, Qn, Q5, Qk, Qa, true_and, and_self, reduceCtorEq, not_false_eq_true, ne_eq, imp_self, eDome, eFig]
  rfl
end Go.C02
set_option linter.unusedSimpArgs false
set_option linter.unusedVariables false
namespace Go.C02
open Go.Fam Go.Proofs
def eNE (r : Int × Int) : V := .tp [.i r.1, .i r.2]
theorem W38' (f : Fig) (seam : Int) : f.dome.gores.length < 1000000 → PureCall Try.prog 38 [.ag (eFig f), .i seam] (eNE (meetsR f seam)) := fun h => W38 f seam h
noncomputable def HA1 : Gam := ((((H28.ext 18 (fnG (fun f => [.ag (eFig f)]) decF (fun _ => True) leastR eNE)).ext 22 (fnG (fun f => [.ag (eFig f)]) decF (fun _ => True) closestR eNE)).ext 26 (fnG (fun f => [.ag (eFig f)]) decF (fun _ => True) soonR eNE)).ext 19 (fnG (fun f => [.ag (eFig f)]) decF (fun _ => True) badR eLE)).ext 38 (fnG eFN dFN (fun a => a.1.dome.gores.length < 1000000) (fun a => meetsR a.1 a.2) eNE)
noncomputable def HA2 : Gam := ((((HA1.ext 49 (fnG (fun _ : Unit => []) (fun _ => ()) (fun _ => True) (fun a => a) (fun _ => .ag (eFig exF)))).ext 34 (fnG (fun f => [.ag (eFig f)]) decF (fun f => f.starts.length < 10000000 ∧ f.times.length < 10000000) soonestR eNE)).ext 20 (fnG (fun a : Fig × List Int => [.ag (eFig a.1), .sl 1 (a.2.map eI)]) (fun vs => match vs with | [.ag r, .sl _ k] => (dFig r, k.map dI) | _ => (dFig [], [])) (fun a => (figCheck a.1 = 0 ∧ pitchE a.1.dome true = 0) ∧ a.2.length < 10000000) (fun a => areR a.1 a.2) .b)).ext 27 (fnG (fun a : Fig × List Int => [.ag (eFig a.1), .sl 1 (a.2.map eI)]) (fun vs => match vs with | [.ag r, .sl _ k] => (dFig r, k.map dI) | _ => (dFig [], [])) (fun a => OkT a.1.times ∧ a.2.length < 10000000) (fun a => canSewR a.1.times a.2) .b)).ext 28 (fnG (fun a : Fig × List Int => [.ag (eFig a.1), .sl 1 (a.2.map eI)]) (fun vs => match vs with | [.ag r, .sl _ k] => (dFig r, k.map dI) | _ => (dFig [], [])) (fun a => (a.2.length ≤ a.1.times.length ∧ a.1.times.length < 100000) ∧ (∀ x ∈ a.1.times, tame 1000000 x) ∧ ∀ x ∈ a.2, tame 10000000 x) (fun a => endF a.1.times a.2 a.2.length) .i)
theorem okHA1 : GOk Try.prog HA1 := by
  have k1 := okH28.ext (f := 18) (fun a w => Try.call18 a w) (fnG_ok (e := fun f => [.ag (eFig f)]) (d := decF) (ok := fun _ => True) (g := leastR) (eb := eNE) fun f _ => W18 f)
  have k2 := k1.ext (f := 22) (fun a w => Try.call22 a w) (fnG_ok (e := fun f => [.ag (eFig f)]) (d := decF) (ok := fun _ => True) (g := closestR) (eb := eNE) fun f _ => W22 f)
  have k3 := k2.ext (f := 26) (fun a w => Try.call26 a w) (fnG_ok (e := fun f => [.ag (eFig f)]) (d := decF) (ok := fun _ => True) (g := soonR) (eb := eNE) fun f _ => W26 f)
  have k4 := k3.ext (f := 19) (fun a w => Try.call19 a w) (fnG_ok (e := fun f => [.ag (eFig f)]) (d := decF) (ok := fun _ => True) (g := badR) (eb := eLE) fun f _ => W19 f)
  exact k4.ext (f := 38) (fun a w => Try.call38 a w) (fnG_ok (e := eFN) (d := dFN) (ok := fun a => a.1.dome.gores.length < 1000000) (g := fun a => meetsR a.1 a.2) (eb := eNE) fun a h => W38' a.1 a.2 h)
theorem okHA2 : GOk Try.prog HA2 := by
  have k1 := okHA1.ext (f := 49) (fun a w => Try.call49 a w) (fnG_ok (e := fun _ : Unit => []) (d := fun _ => ()) (ok := fun _ => True) (g := fun a => a) (eb := fun _ => V.ag (eFig exF)) fun _ _ => W49)
  have k2 := k1.ext (f := 34) (fun a w => Try.call34 a w) (fnG_ok (e := fun f => [.ag (eFig f)]) (d := decF) (ok := fun f => f.starts.length < 10000000 ∧ f.times.length < 10000000) (g := soonestR) (eb := eNE) fun f h => W34 f h.1 h.2)
  have k3 := k2.ext (f := 20) (fun a w => Try.call20 a w) (fnG_ok (e := fun a : Fig × List Int => [.ag (eFig a.1), .sl 1 (a.2.map eI)]) (d := fun vs => match vs with | [.ag r, .sl _ k] => (dFig r, k.map dI) | _ => (dFig [], [])) (ok := fun a => (figCheck a.1 = 0 ∧ pitchE a.1.dome true = 0) ∧ a.2.length < 10000000) (g := fun a => areR a.1 a.2) (eb := V.b) fun a h => W20 a.1 a.2 h.1.1 h.1.2 h.2)
  have k4 := k3.ext (f := 27) (fun a w => Try.call27 a w) (fnG_ok (e := fun a : Fig × List Int => [.ag (eFig a.1), .sl 1 (a.2.map eI)]) (d := fun vs => match vs with | [.ag r, .sl _ k] => (dFig r, k.map dI) | _ => (dFig [], [])) (ok := fun a => OkT a.1.times ∧ a.2.length < 10000000) (g := fun a => canSewR a.1.times a.2) (eb := V.b) fun a h => W27 a.1 a.2 h.1 h.2)
  exact k4.ext (f := 28) (fun a w => Try.call28 a w) (fnG_ok (e := fun a : Fig × List Int => [.ag (eFig a.1), .sl 1 (a.2.map eI)]) (d := fun vs => match vs with | [.ag r, .sl _ k] => (dFig r, k.map dI) | _ => (dFig [], [])) (ok := fun a => (a.2.length ≤ a.1.times.length ∧ a.1.times.length < 100000) ∧ (∀ x ∈ a.1.times, tame 1000000 x) ∧ ∀ x ∈ a.2, tame 10000000 x) (g := fun a => endF a.1.times a.2 a.2.length) (eb := V.i) fun a h => W28 a.1 a.2 h.1.1 h.1.2 h.2.1 h.2.2)
section
variable (f : Fig) (l : List Int) (n : Int)
theorem y18 : HA2 18 [.ag (eFig f)] = (True, eNE (leastR f)) := (show HA2 18 _ = fnG (fun f => [.ag (eFig f)]) decF (fun _ => True) leastR eNE [.ag (eFig f)] from rfl).trans (fnG_at _ (dFig_e _))
theorem y22 : HA2 22 [.ag (eFig f)] = (True, eNE (closestR f)) := (show HA2 22 _ = fnG (fun f => [.ag (eFig f)]) decF (fun _ => True) closestR eNE [.ag (eFig f)] from rfl).trans (fnG_at _ (dFig_e _))
theorem y26 : HA2 26 [.ag (eFig f)] = (True, eNE (soonR f)) := (show HA2 26 _ = fnG (fun f => [.ag (eFig f)]) decF (fun _ => True) soonR eNE [.ag (eFig f)] from rfl).trans (fnG_at _ (dFig_e _))
theorem y19 : HA2 19 [.ag (eFig f)] = (True, eLE (badR f)) := (show HA2 19 _ = fnG (fun f => [.ag (eFig f)]) decF (fun _ => True) badR eLE [.ag (eFig f)] from rfl).trans (fnG_at _ (dFig_e _))
theorem y38 : HA2 38 [.ag (eFig f), .i n] = (f.dome.gores.length < 1000000, eNE (meetsR f n)) := (show HA2 38 _ = fnG eFN dFN (fun a => a.1.dome.gores.length < 1000000) (fun a => meetsR a.1 a.2) eNE (eFN (f, n)) from rfl).trans (fnG_at _ (dFN_e _))
theorem y49 : HA2 49 [] = (True, .ag (eFig exF)) := by
  refine (show HA2 49 [] = fnG (fun _ : Unit => []) (fun _ => ()) (fun _ => True) (fun a => a) (fun _ => .ag (eFig exF)) [] from rfl).trans ?_
  simp [fnG]
theorem y34 : HA2 34 [.ag (eFig f)] = (f.starts.length < 10000000 ∧ f.times.length < 10000000, eNE (soonestR f)) := (show HA2 34 _ = fnG (fun f => [.ag (eFig f)]) decF (fun f => f.starts.length < 10000000 ∧ f.times.length < 10000000) soonestR eNE [.ag (eFig f)] from rfl).trans (fnG_at _ (dFig_e _))
theorem y20 : HA2 20 [.ag (eFig f), .sl 1 (l.map eI)] = ((figCheck f = 0 ∧ pitchE f.dome true = 0) ∧ l.length < 10000000, .b (areR f l)) :=
  (show HA2 20 _ = fnG (fun a : Fig × List Int => [.ag (eFig a.1), .sl 1 (a.2.map eI)]) (fun vs => match vs with | [.ag r, .sl _ k] => (dFig r, k.map dI) | _ => (dFig [], [])) (fun a => (figCheck a.1 = 0 ∧ pitchE a.1.dome true = 0) ∧ a.2.length < 10000000) (fun a => areR a.1 a.2) .b _ from rfl).trans (fnG_at (f, l) (by simp [dFig_e, Function.comp_def, dI_eI]))
theorem y27 : HA2 27 [.ag (eFig f), .sl 1 (l.map eI)] = (OkT f.times ∧ l.length < 10000000, .b (canSewR f.times l)) :=
  (show HA2 27 _ = fnG (fun a : Fig × List Int => [.ag (eFig a.1), .sl 1 (a.2.map eI)]) (fun vs => match vs with | [.ag r, .sl _ k] => (dFig r, k.map dI) | _ => (dFig [], [])) (fun a => OkT a.1.times ∧ a.2.length < 10000000) (fun a => canSewR a.1.times a.2) .b _ from rfl).trans (fnG_at (f, l) (by simp [dFig_e, Function.comp_def, dI_eI]))
theorem y28 : HA2 28 [.ag (eFig f), .sl 1 (l.map eI)] = ((l.length ≤ f.times.length ∧ f.times.length < 100000) ∧ (∀ x ∈ f.times, tame 1000000 x) ∧ ∀ x ∈ l, tame 10000000 x, .i (endF f.times l l.length)) :=
  (show HA2 28 _ = fnG (fun a : Fig × List Int => [.ag (eFig a.1), .sl 1 (a.2.map eI)]) (fun vs => match vs with | [.ag r, .sl _ k] => (dFig r, k.map dI) | _ => (dFig [], [])) (fun a => (a.2.length ≤ a.1.times.length ∧ a.1.times.length < 100000) ∧ (∀ x ∈ a.1.times, tame 1000000 x) ∧ ∀ x ∈ a.2, tame 10000000 x) (fun a => endF a.1.times a.2 a.2.length) .i _ from rfl).trans (fnG_at (f, l) (by simp [dFig_e, Function.comp_def, dI_eI]))
theorem y32 (k : List Int) : HA2 32 [.sl 1 (l.map eI), .sl 1 (k.map eI)] = (l.length < 10000000, .b (decide (l = k))) := z32 l k
end
theorem W17 : PureCall Try.prog 17 [] (.b true) := by
  refine pure_body okHA2 hmix Try.func17 cb17 cc17 cs17 cn17 ?_
  have g1 := y49
  have g2 := y19 exF
  have g3 := y22 exF
  have g4 := y26 exF
  have g5 := y18 exF2
  have g6 := y32 [0, 3] [0, 3]
  rw [exF_bad] at g2
  rw [exF_closed] at g3
  rw [exF_soon] at g4
  rw [exF_least] at g5
  simp only [eFig, exF, exF2, eLE, eNE, Qb, Qc, eI] at g1 g2 g3 g4 g5 g6
  have hc : chunk 1 (V.i 0 :: V.i 3 :: List.drop 1 (List.drop 1 [[V.i 0], [V.i 0]].flatten)) 0 2 = [[V.i 0], [V.i 3]] := rfl
  simp only [rc17, rs17, g1, g2, g3, g4, g5, hc, g6, ru_reg, ru_seq, ru_ret, ru_keep, putB, thenQ, run_nil, run_cons, Fam.step, stepQ, stepW, needQ, needW, condB, ug, putB, nv, sv, evO, opv, qv, pickV_bb, binV, ldV, curG, callV, foldParts, putAt, partsOk, partsOne, V.cells, solid, cellOk, hasRef, hasRefL, flat, flatL, upd_some, upd_none, lkp_cons, lkp_nil, ↓reduceIte, Nat.reduceEqDiff, Nat.reduceAdd, Nat.reduceMul, Nat.reduceLT, Nat.reduceLeDiff, Qb, Qc, Qu, Qr, Qe, Qg, Qj, Qw, Q8, Qf, Q3, Qt, Qx, Q0, Qi, Qp, Q2, Qq, Q1, Qo, Qy, endQ, rvs, rv1, resV, vw_i, vw_b, vw_sl, vw_ag, zipA, beq_self_eq_true, Qh, Qm, Qn, Q5, Qk, Qa, Bool.true_eq_false, decide_true, and_self, forall_const, implies_true, reduceCtorEq, not_false_eq_true, ne_eq, imp_self]
noncomputable def HB : Gam := HA2.ext 17 (fnG (fun _ : Unit => []) (fun _ => ()) (fun _ => True) (fun a => a) (fun _ => .b true))
theorem okHB : GOk Try.prog HB := okHA2.ext (f := 17) (fun a w => Try.call17 a w) (fnG_ok (e := fun _ : Unit => []) (d := fun _ => ()) (ok := fun _ => True) (g := fun a => a) (eb := fun _ => V.b true) fun _ _ => W17)
theorem b17 : HB 17 [] = (True, .b true) := by
  refine (show HB 17 [] = fnG (fun _ : Unit => []) (fun _ => ()) (fun _ => True) (fun a => a) (fun _ => .b true) [] from rfl).trans ?_
  simp [fnG]
end Go.C02
