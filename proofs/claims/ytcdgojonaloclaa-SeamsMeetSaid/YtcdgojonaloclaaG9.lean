import Derived.Test.YtcdgojonaloclaaG8
import Derived.Test.YtcdgojonaloclaaG3
import Derived.Test.YtcdgojonaloclaaChecked
set_option linter.all false
open List renaming map_cons → Qb, map_nil → Qc, take_succ_cons → Qd, length_cons → Qe, length_nil → Qf, append_nil → Qg, length_map → Qh, getD_eq_getElem?_getD → Qk, drop_succ_cons → Ql, getElem?_cons_zero → Qm, replicate_zero → Qn, take_nil → Qo, headD_cons → Qs, all_nil → Qt, all_cons → Qu, drop_zero → Qv, cons_append → Qw, getElem?_cons_succ → Qx, set_cons_zero → Qy, nil_append → Qz, take_zero → Q1, replicate_succ → Q2, getElem?_eq_getElem → Q3, getElem?_nil → Q4, contains_nil → Q6, isEmpty_nil → Q8, drop_nil → Q9, contains_cons → Zd, any_nil → Zg, set_cons_succ → Zi, isEmpty_cons → Zl, getElem?_map → Zo, flatten_nil → Zp, take_length → Zr
open Nat renaming zero_add → Qi, add_zero → Zm
open Bool renaming false_eq_true → Qa, or_false → Qj, and_self → Qp, and_true → Qq, not_eq_true' → Q0, and_false → Q5, or_eq_false_iff → Za, false_and → Zb, not_false → Zc, not_true → Ze, decide_eq_true → Zh, true_eq_false → Zk
open Option renaming getD_some → Qr, getD_none → Q7, map_some → Zu
open Int renaming lt_irrefl → Zf, natCast_nonneg → Zj, toNat_natCast → Zn, natCast_zero → Zq, natCast_add → Zs, natCast_one → Zt
set_option linter.unusedSimpArgs false
set_option linter.unusedVariables false
namespace Go.C02
open Go.Fam Go.Proofs
theorem far_ok22 {d : Dome} (h : far d = false) : Ok22 d := by
  unfold far at h
  split at h
  · cases h
  rename_i h1
  split at h
  · cases h
  rename_i h2
  have h1 : bigs d = false := by simpa using h1
  unfold bigs at h1
  simp only [Za, decide_eq_false_iff_not] at h1
  refine ⟨by omega, by omega, by omega, by omega, fun b hb => ?_⟩
  have h2 : d.bolts.any (fun b => decide ((60 : Int) < b.strips.length)) = false := by simpa using h2
  have := List.any_eq_false.1 h2 b hb
  simp only [decide_eq_true_eq] at this
  omega
theorem z61 (f : Fig) (n : Int) : H25 61 [.ag (eFig f), .i n] = (f.starts.length < 10000000 ∧ f.times.length < 10000000, .i (openE f (within n 0 (f.dome.gores.length - 1)))) := q61 f n
theorem z57 (d : Dome) : H25 57 [.ag (eDome d)] = (True, .b (far d)) :=
  (show H25 57 _ = r21 [.ag (eDome d)] from rfl).trans (fnG_at (e := fun d => [.ag (eDome d)]) _ (dDome_e _))
theorem z55 (d : Dome) : H25 55 [.ag (eDome d)] = (Ok22 d, .ag (eDome d)) :=
  (show H25 55 _ = r22 [.ag (eDome d)] from rfl).trans (fnG_at (e := fun d => [.ag (eDome d)]) _ (dDome_e _))
theorem W36 (f : Fig) (hs : f.starts.length < 10000000) (ht : f.times.length < 10000000) : PureCall Try.prog 36 [.ag (eFig f)] (.i (openE f true)) := by
  refine pure_body okH25 hmix Try.func36 cb36 cc36 cs36 cn36 ?_
  have g1 := z61 f 0
  rw [openE0] at g1
  unfold eFig at g1
  simp only [rc36, rs36, g1, ru_reg, ru_seq, ru_ret, ru_keep, thenQ, run_nil, run_cons, Fam.step, stepQ, evO, opv, qv, ldV, callV, V.cells, solid, hasRef, hasRefL, flat, upd_some, lkp_cons, lkp_nil, ↓reduceIte, Nat.reduceEqDiff, Nat.reduceAdd, Nat.reduceLT, Nat.reduceLeDiff, Qb, Qc, Qe, Qf, Qd, Qo, Qg, endQ, rvs, rv1, resV, vw_i, vw_sl, vw_ag, zipA, Qi, Qj, Qa, true_and, and_true, and_self, implies_true, eFig]
  exact ⟨hs, ht⟩
def farRing (f : Fig) : Bool := far f.dome || decide (60 < f.starts.length) || decide (60 < f.times.length)
theorem W24 (f : Fig) : PureCall Try.prog 24 [.ag (eFig f)] (.b (farRing f)) := by
  refine pure_body okH25 hmix Try.func24 cb24 cc24 cs24 cn24 ?_
  have g1 := z57 f.dome
  unfold eDome at g1
  simp only [rc24, rs24, g1, ru_reg, ru_seq, ru_ret, ru_keep, thenQ, run_nil, run_cons, Fam.step, stepQ, needQ, condB, ug, evO, opv, qv, pickV_bb, binV, ldV, lenV, callV, V.cells, solid, hasRef, hasRefL, flat, upd_some, lkp_cons, lkp_nil, ↓reduceIte, Nat.reduceEqDiff, Nat.reduceAdd, Nat.reduceLT, Nat.reduceLeDiff, Qb, Qc, Qu, Qt, Qe, Qf, Ql, Qv, Qd, Q1, Qs, Qg, endQ, rvs, rv1, resV, vw_i, vw_b, vw_sl, vw_ag, zipA, Qi, V.b.injEq, Qp, Qq, Qj, Qa, true_and, and_true, and_self, implies_true, beq_false, Q0, ite_t, Zh, imp_self, Qh, eFig]
  have e1 : decide ((60 : Int) < f.starts.length) = decide (60 < f.starts.length) := by simp only [decide_eq_decide]; omega
  have e2 : decide ((60 : Int) < f.times.length) = decide (60 < f.times.length) := by simp only [decide_eq_decide]; omega
  simp only [farRing, e1, e2]
structure Ok21 (f : Fig) : Prop where
  d : Ok22 f.dome
  s : f.starts.length < 1000000
  t : f.times.length < 1000000
theorem farRing_ok {f : Fig} (h : farRing f = false) : Ok21 f := by
  unfold farRing at h
  simp only [Za, decide_eq_false_iff_not] at h
  exact ⟨far_ok22 h.1.1, by omega, by omega⟩
theorem W21 (f : Fig) (h : Ok21 f) : PureCall Try.prog 21 [.ag (eFig f)] (.ag (eFig f)) := by
  refine pure_body okH25 hmix Try.func21 cb21 cc21 cs21 cn21 ?_
  have g1 := z55 f.dome
  unfold eDome at g1
  have hs := h.s
  have ht := h.t
  simp only [rc21, rs21, g1, Zp, len_I, Nat.mul_one, Qh, Nat.le_refl, chunk_I, vw_I, ru_reg, ru_any, ru_seq, ru_ret, ru_keep, putBs, optL, putB, thenQ, run_nil, run_cons, Fam.step, stepQ, stepW, needW, runX, eff, nextD, fpR, fpQ, fpV, disjB, hits, putB, nv, sv, newsV, evO, opv, qv, ldV, curG, callV, foldParts, putAt, partsOk, partsOne, V.cells, solid, cellOk, hasRef, hasRefL, flat, flatL, upd_some, upd_none, lkp_cons, lkp_nil, ↓reduceIte, Nat.reduceEqDiff, Nat.reduceAdd, Nat.reduceLT, Nat.reduceLeDiff, Nat.reduceBEq, Qb, Qc, Qu, Qt, Qe, Qf, Ql, Qv, Q9, Qd, Q1, Qo, Qs, Qw, Qz, Qg, Qm, Qx, Q4, Qr, Q7, Qy, Zi, Qn, Q2, Q8, Zl, endQ, rvs, rv1, resV, vw_i, vw_sl, vw_ag, vw_rf, zipA, beq_self_eq_true, Qi, Zm, Qp, Qq, Bool.true_and, Zb, Q5, Qj, Bool.false_or, Ze, Zc, Qa, true_and, and_true, and_self, List.any_cons, Zg, Zd, Q6, imp_self, Qh, Qk, eFig]
  exact ⟨h.d, by unfold fitsLen; omega, by unfold fitsLen; omega⟩
def copyF (f : Fig) : List V := [.sl 4 (f.dome.bolts.map eBolt), .sl 1 (f.dome.gores.map eI), .i f.dome.loss, .sl 2 (f.dome.rounds.map eSpan), .sl 1 (f.dome.widths.map eI), .i f.dome.slope,
  .i f.period, .i f.run, .i f.near, .rf 2 1 0 f.starts.length 1, .rf 4 1 0 f.times.length 1]
def copyFH (f : Fig) : List Blk := [.cells 0 (copyF f), .cells 0 (copyF f), .cells 1 (f.starts.map eI).flatten, .hole, .cells 1 (f.times.map eI).flatten, .hole]
theorem O21 (f : Fig) (h : Ok21 f) : OwnCall Try.prog 21 [.ag (eFig f)] (.ag (copyF f)) (copyFH f) := by
  refine own_body okH25 hmix Try.func21 cb21 cc21 cs21 cn21 ?_
  have g1 := z55 f.dome
  unfold eDome at g1
  have hs := h.s
  have ht := h.t
  simp only [rc21, rs21, g1, endO, Zp, copyF, copyFH, Qh, ru_reg, ru_any, ru_seq, ru_ret, ru_keep, putBs, optL, putB, endO, thenQ, run_nil, run_cons, Fam.step, stepQ, stepW, needW, runX, eff, nextD, fpR, fpQ, fpV, disjB, hits, putB, nv, sv, newsV, evO, opv, qv, ldV, curG, callV, foldParts, putAt, partsOk, partsOne, V.cells, solid, cellOk, hasRef, hasRefL, flat, flatL, upd_some, upd_none, lkp_cons, lkp_nil, ↓reduceIte, Nat.reduceEqDiff, Nat.reduceAdd, Nat.reduceMul, Nat.reduceLT, Nat.reduceLeDiff, Nat.reduceBEq, Qb, Qc, Qu, Qt, Qe, Qf, Ql, Qv, Q9, Qd, Q1, Qo, Qs, Qw, Qz, Qg, Qm, Qx, Q4, Qr, Q7, Qy, Zi, Qn, Q2, Q8, Zl, rvs, rv1, resV, vw_i, vw_sl, vw_ag, zipA, beq_self_eq_true, Qi, Zm, Qp, Qq, Bool.true_and, Zb, Q5, Qj, Bool.false_or, Ze, Zc, Qa, true_and, and_true, and_self, List.any_cons, Zg, Zd, Q6, imp_self, Qh, Qk, eFig]
  exact ⟨h.d, by unfold fitsLen; omega, by unfold fitsLen; omega⟩
theorem mem_take_succ {l : List Int} {i : Nat} {x n : Int} (hx : l[i]? = some x) : n ∈ l.take (i + 1) ↔ n ∈ l.take i ∨ n = x := by
  rw [take_succ_of hx]; simp
theorem W23 (l : List Int) (n : Int) (h : l.length < 10000000) : PureCall Try.prog 23 [.sl 1 (l.map eI), .i n] (.b (decide (n ∈ l))) := by
  refine pure_body okH25 hmix Try.func23 cb23 cc23 cs23 cn23 ?_
  simp only [rc23, rs23, ru_reg, ru_seq, ru_block, ru_keep, thenQ, run_nil, run_cons, Fam.step, stepQ, evO, opv, qv, upd_some, lkp_cons, lkp_nil, ↓reduceIte, Nat.reduceEqDiff, Qb, Qc, zipA, Qi, true_and, reduceCtorEq]
  refine ru_countC l.length (fun i => ⟨lkp [(0, .sl 1 (l.map eI)), (1, .i n), (5, .i i)], []⟩) (fun i => n ∉ l.take i) ?_ (by simp) ?_ ?_
  · simp only [Zq, kp, lkp_cons, lkp_nil, ↓reduceIte, Nat.reduceEqDiff, Qb, Qc, reduceCtorEq]
  · intro i hi hC
    obtain ⟨x, hx⟩ : ∃ x, l[i]? = some x := ⟨_, Q3 hi⟩
    have hlt : (i : Int) < l.length := by omega
    have h3 : inI ((i : Int) + 1) := by unfold inI; omega
    simp only [hx, hlt, h3, Zs, Zt, ru_skip, ru_reg, ru_seq, ru_cnd, ite_P, ru_block, ru_ret, ru_keep, thenQ, blockQ, run_nil, run_cons, Fam.step, stepQ, evO, opv, qv, binV, ldV, iadV, lenV, kp, upd_some, lkp_cons, lkp_nil, ↓reduceIte, Nat.reduceEqDiff, Nat.reduceLeDiff, Qb, Qc, Qe, Qf, Qs, Qr, endQ, rvs, rv1, resV, vw_b, Zj, Qi, V.b.injEq, Qa, decide_true, decide_eq_true_eq, true_and, and_true, and_self, reduceCtorEq, Zu, Qh, Zn, Qk, Zo, eI]
    refine ⟨fun e => ?_, fun e => ?_⟩
    · rw [decide_eq_true]
      rw [← e]; exact List.mem_of_getElem? hx
    · rw [mem_take_succ hx]
      rintro (h | h)
      · exact hC h
      · exact e h.symm
  · intro hC
    rw [Zr] at hC
    simp only [Zf, ru_reg, ru_seq, ru_cnd, ru_exit, ru_ret, ru_keep, thenQ, blockQ, run_nil, run_cons, Fam.step, stepQ, evO, opv, qv, binV, lenV, upd_some, lkp_cons, lkp_nil, ↓reduceIte, Nat.reduceEqDiff, Qb, Qc, endQ, rvs, rv1, resV, vw_b, Zf, V.b.injEq, Qa, decide_false, true_and, and_self, reduceCtorEq, Qh]
    rw [decide_eq_false hC]
theorem W32 (a b : List Int) (h : a.length < 10000000) : PureCall Try.prog 32 [.sl 1 (a.map eI), .sl 1 (b.map eI)] (.b (decide (a = b))) := by
  refine pure_body okH25 hmix Try.func32 cb32 cc32 cs32 cn32 ?_
  simp only [rc32, rs32, ru_skip, ru_reg, ru_seq, ru_cnd, ite_P, ru_block, ru_ret, ru_keep, thenQ, run_nil, run_cons, Fam.step, stepQ, evO, opv, qv, binV, lenV, upd_some, lkp_cons, lkp_nil, ↓reduceIte, Nat.reduceEqDiff, Qb, Qc, endQ, rvs, rv1, resV, vw_b, zipA, Qi, V.b.injEq, decide_eq_false_iff_not, true_and, and_self, reduceCtorEq, Q0, Qh, Classical.not_not]
  refine ⟨fun e => ?_, fun e => ?_⟩
  · have : ¬ a = b := fun h => e (by rw [h])
    rw [decide_eq_false this]
  have e : a.length = b.length := by omega
  refine ru_countC a.length (fun i => ⟨lkp [(0, .sl 1 (a.map eI)), (1, .sl 1 (b.map eI)), (5, .i i)], []⟩) (fun i => a.take i = b.take i) ?_ rfl ?_ ?_
  · simp only [Zq, kp, lkp_cons, lkp_nil, ↓reduceIte, Nat.reduceEqDiff, Qb, Qc, reduceCtorEq]
  · intro i hi hC
    obtain ⟨x, hx⟩ : ∃ x, a[i]? = some x := ⟨_, Q3 hi⟩
    obtain ⟨y, hy⟩ : ∃ y, b[i]? = some y := ⟨_, Q3 (by omega)⟩
    have hlt : (i : Int) < a.length := by omega
    have hlt2 : (i : Int) < b.length := by omega
    have h3 : inI ((i : Int) + 1) := by unfold inI; omega
    simp only [hx, hy, hlt, hlt2, h3, Zs, Zt, ru_skip, ru_reg, ru_any, ru_seq, ru_cnd, ite_P, ru_block, ru_ret, ru_keep, putBs, thenQ, blockQ, run_nil, run_cons, Fam.step, stepQ, runX, eff, nextD, fpR, fpQ, fpV, disjB, hits, evO, opv, qv, binV, ldV, iadV, lenV, kp, upd_some, lkp_cons, lkp_nil, ↓reduceIte, Nat.reduceEqDiff, Nat.reduceLeDiff, Qb, Qc, Qt, Qe, Qf, Qs, Qw, Qz, Qg, Q4, Qr, Q7, Qn, Q8, endQ, rvs, rv1, resV, vw_b, Zj, Qi, V.b.injEq, Qp, Qq, Zb, Qj, Ze, Zc, Qa, decide_true, decide_eq_false_iff_not, true_and, and_true, and_self, reduceCtorEq, Zu, Zg, Q6, Q0, Qh, Zn, Qk, Zo, Classical.not_not, eI]
    refine ⟨fun e1 => ?_, fun e1 => ?_⟩
    · have : ¬ a = b := fun h => e1 (by rw [h, hy] at hx; exact (Option.some.inj hx).symm)
      rw [decide_eq_false this]
    · rw [take_succ_of hx, take_succ_of hy, hC, e1]
  · intro hC
    have : a = b := by
      rw [Zr] at hC
      rw [hC, List.take_of_length_le (by omega)]
    simp only [Zf, ru_reg, ru_seq, ru_cnd, ru_exit, ru_ret, ru_keep, thenQ, blockQ, run_nil, run_cons, Fam.step, stepQ, evO, opv, qv, binV, lenV, upd_some, lkp_cons, lkp_nil, ↓reduceIte, Nat.reduceEqDiff, Qb, Qc, endQ, rvs, rv1, resV, vw_b, Zf, V.b.injEq, Qa, decide_false, true_and, and_self, reduceCtorEq, Qh]
    rw [decide_eq_true this]
def s23 : List V → Prop × V | [.sl 1 l, .i n] => (l = (l.map dI).map eI ∧ l.length < 10000000, .b (decide (n ∈ l.map dI))) | _ => (False, .u)
def s32 : List V → Prop × V | [.sl 1 l, .sl 1 k] => ((l = (l.map dI).map eI ∧ k = (k.map dI).map eI) ∧ l.length < 10000000, .b (decide (l.map dI = k.map dI))) | _ => (False, .u)
theorem s23_ok (vs : List V) (h : (s23 vs).1) : PureCall Try.prog 23 vs (s23 vs).2 := by
  unfold s23 at h ⊢
  split at h
  · rename_i l n
    have := W23 (l.map dI) n (by simpa using h.2)
    rw [← h.1] at this
    exact this
  · exact h.elim
theorem s32_ok (vs : List V) (h : (s32 vs).1) : PureCall Try.prog 32 vs (s32 vs).2 := by
  unfold s32 at h ⊢
  split at h
  · rename_i l k
    have := W32 (l.map dI) (k.map dI) (by simpa using h.2)
    rw [← h.1.1, ← h.1.2] at this
    exact this
  · exact h.elim
def s21o : List V → Prop × V := fnG (fun f => [.ag (eFig f)]) decF Ok21 (fun f => f) (fun f => .tp [.ag (copyF f), .tp ((copyFH f).map bV)])
theorem copyFH_vB (f : Fig) : ((copyFH f).map bV).map vB = copyFH f := by simp [copyFH, copyF, bV, vB]
noncomputable def H26 : Gam := ((((((H25.ext 36 (fnG (fun f => [.ag (eFig f)]) decF (fun f => f.starts.length < 10000000 ∧ f.times.length < 10000000) (fun f => openE f true) .i)).ext 24 (fnG (fun f => [.ag (eFig f)]) decF (fun _ => True) farRing .b)).ext 21 (fnG (fun f => [.ag (eFig f)]) decF Ok21 (fun f => f) (fun f => .ag (eFig f)))).ext 23 s23).ext 32 s32).ext 1000021 s21o)
theorem okH26 : GOk Try.prog H26 := by
  have k1 := okH25.ext (f := 36) (fun a w => Try.call36 a w) (fnG_ok (e := fun f => [.ag (eFig f)]) (d := decF) (ok := fun f => f.starts.length < 10000000 ∧ f.times.length < 10000000) (g := fun f => openE f true) (eb := V.i) fun f h => W36 f h.1 h.2)
  have k2 := k1.ext (f := 24) (fun a w => Try.call24 a w) (fnG_ok (e := fun f => [.ag (eFig f)]) (d := decF) (ok := fun _ => True) (g := farRing) (eb := V.b) fun f _ => W24 f)
  have k3 := k2.ext (f := 21) (fun a w => Try.call21 a w) (fnG_ok (e := fun f => [.ag (eFig f)]) (d := decF) (ok := Ok21) (g := fun f => f) (eb := fun f => V.ag (eFig f)) fun f h => W21 f h)
  have k4 := k3.ext (f := 23) (r := s23) (fun a w => Try.call23 a w) s23_ok
  have k5 := k4.ext (f := 32) (r := s32) (fun a w => Try.call32 a w) s32_ok
  exact k5.extO (f := 21) (r := s21o) (fun a w => Try.call21 a w) fun vs v bs h e => fnO_ok (e := fun f => [.ag (eFig f)]) (d := decF) (ok := Ok21) (v := fun f => .ag (copyF f)) (hp := copyFH) copyFH_vB (fun f h => O21 f h) vs v bs h e
theorem z36 (f : Fig) : H26 36 [.ag (eFig f)] = (f.starts.length < 10000000 ∧ f.times.length < 10000000, .i (openE f true)) :=
  (show H26 36 _ = fnG (fun f => [.ag (eFig f)]) decF (fun f => f.starts.length < 10000000 ∧ f.times.length < 10000000) (fun f => openE f true) .i [.ag (eFig f)] from rfl).trans (fnG_at _ (dFig_e _))
theorem z24 (f : Fig) : H26 24 [.ag (eFig f)] = (True, .b (farRing f)) :=
  (show H26 24 _ = fnG (fun f => [.ag (eFig f)]) decF (fun _ => True) farRing .b [.ag (eFig f)] from rfl).trans (fnG_at _ (dFig_e _))
theorem z21 (f : Fig) : H26 21 [.ag (eFig f)] = (Ok21 f, .ag (eFig f)) :=
  (show H26 21 _ = fnG (fun f => [.ag (eFig f)]) decF Ok21 (fun f => f) (fun f => .ag (eFig f)) [.ag (eFig f)] from rfl).trans (fnG_at _ (dFig_e _))
theorem z32 (l k : List Int) : H26 32 [.sl 1 (l.map eI), .sl 1 (k.map eI)] = (l.length < 10000000, .b (decide (l = k))) := by
  refine (show H26 32 _ = s32 [.sl 1 (l.map eI), .sl 1 (k.map eI)] from rfl).trans ?_
  simp [s32, map_de dI_eI]
def farF (f : Fig) : Bool := farRing f || (decide (figCheck f = 0) && (decide (5 < f.starts.length) || decide (8 < f.period)))
theorem z25' (f : Fig) : H26 25 [.ag (eFig f)] = (f.starts.length < 10000000 ∧ f.times.length < 10000000, .i (figCheck f)) := q25 f
theorem W29 (f : Fig) : PureCall Try.prog 29 [.ag (eFig f)] (.b (farF f)) := by
  refine pure_body okH26 hmix Try.func29 cb29 cc29 cs29 cn29 ?_
  have g1 := z24 f
  have g2 := z25' f
  unfold eFig at g1 g2
  have e1 : decide ((5 : Int) < f.starts.length) = decide (5 < f.starts.length) := by simp only [decide_eq_decide]; omega
  simp only [rc29, rs29, g1, g2, e1, farF, ru_reg, ru_seq, ru_ret, ru_keep, thenQ, run_nil, run_cons, Fam.step, stepQ, needQ, condB, ug, evO, opv, qv, pickV_bb, binV, ldV, lenV, callV, V.cells, solid, hasRef, hasRefL, flat, upd_some, lkp_cons, lkp_nil, ↓reduceIte, Nat.reduceEqDiff, Nat.reduceAdd, Nat.reduceLT, Nat.reduceLeDiff, Qb, Qc, Qu, Qt, Qe, Qf, Ql, Qv, Qd, Qo, Qs, Qg, endQ, rvs, rv1, resV, vw_i, vw_b, vw_sl, vw_ag, zipA, Qi, Qp, Qq, Qj, Qa, decide_eq_true_eq, decide_eq_false_iff_not, true_and, and_true, and_self, implies_true, beq_true, beq_false, Q0, ite_f, ite_t, Zh, imp_self, Qh, eFig]
  refine ⟨fun h => ⟨h, ?_⟩, fun h => ⟨h, fun h2 => by rw [h]; simpa using h2⟩, fun h => ⟨h, fun h2 => by simp [h, h2]⟩⟩
  have := farRing_ok h
  have := this.s
  have := ‹Ok21 f›.t
  omega
noncomputable def H27 : Gam := H26.ext 29 (fnG (fun f => [.ag (eFig f)]) decF (fun _ => True) farF .b)
theorem okH27 : GOk Try.prog H27 := okH26.ext (f := 29) (fun a w => Try.call29 a w) (fnG_ok (e := fun f => [.ag (eFig f)]) (d := decF) (ok := fun _ => True) (g := farF) (eb := V.b) fun f _ => W29 f)
theorem z29 (f : Fig) : H27 29 [.ag (eFig f)] = (True, .b (farF f)) :=
  (show H27 29 _ = fnG (fun f => [.ag (eFig f)]) decF (fun _ => True) farF .b [.ag (eFig f)] from rfl).trans (fnG_at _ (dFig_e _))
theorem z36' (f : Fig) : H27 36 [.ag (eFig f)] = (f.starts.length < 10000000 ∧ f.times.length < 10000000, .i (openE f true)) := z36 f
def readyF (f : Fig) : Bool := !farF f && decide (openE f true = 0)
theorem farF_ring {f : Fig} (h : farF f = false) : farRing f = false := by
  unfold farF at h
  rw [Za] at h
  exact h.1
theorem W16 (f : Fig) : PureCall Try.prog 16 [.ag (eFig f)] (.b (readyF f)) := by
  refine pure_body okH27 hmix Try.func16 cb16 cc16 cs16 cn16 ?_
  have g1 := z29 f
  have g2 := z36' f
  unfold eFig at g1 g2
  simp only [rc16, rs16, g1, g2, readyF, ru_reg, ru_seq, ru_ret, ru_keep, thenQ, run_nil, run_cons, Fam.step, stepQ, needQ, condB, ug, evO, opv, qv, pickV_bb, binV, ldV, callV, V.cells, solid, hasRef, hasRefL, flat, upd_some, lkp_cons, lkp_nil, ↓reduceIte, Nat.reduceEqDiff, Nat.reduceAdd, Nat.reduceLT, Nat.reduceLeDiff, Qb, Qc, Qu, Qt, Qe, Qf, Qd, Qo, Qg, endQ, rvs, rv1, resV, vw_i, vw_b, vw_sl, vw_ag, zipA, Qi, Qp, Qq, Qj, Qa, true_and, and_true, and_self, implies_true, beq_true, Bool.not_eq_false', Q0, ite_f, Bool.decide_eq_false, imp_self, eFig]
  intro h
  have := farRing_ok (farF_ring h)
  have := this.s
  have := ‹Ok21 f›.t
  exact ⟨h, by omega, by omega⟩
def exF : Fig := ⟨exD, 12, 100, 1, [0, 3, 8, 0], [5, 3, 8, 2]⟩
def exF2 : Fig := { exF with near := 2 }
theorem exF_ok : figCheck exF = 0 := by kernel_rfl
theorem exF_open : openE exF true = 0 := by kernel_rfl
theorem exF2_open : openE exF2 true = 0 := by kernel_rfl
theorem exF2_ok : figCheck exF2 = 0 := by kernel_rfl
theorem exF_bad : badR exF = ([0, 3], 0) := by kernel_rfl
theorem exF_plan : maxL (endsN exF.times (planN exF.times)) = 13 := by kernel_rfl
theorem exF_soon : soonR exF = (13, 0) := by
  unfold soonR
  rw [exF_ok, exF_plan]; rfl
theorem exF_b : boltsOf exF = [[5, 6, 7, 8, 9, 10], [5, 6, 7, 8, 9, 10], [0, 1, 2, 3, 4, 5, 6, 7, 8, 9, 10], [0, 1, 2, 3, 4, 5, 6, 7, 8, 9, 10]] := by kernel_rfl
def exBs : List (List Int) := [[5, 6, 7, 8, 9, 10], [5, 6, 7, 8, 9, 10], [0, 1, 2, 3, 4, 5, 6, 7, 8, 9, 10], [0, 1, 2, 3, 4, 5, 6, 7, 8, 9, 10]]
theorem ex_least0 : leastF (withNear exF 0) exBs 4 [] = -1 := by kernel_rfl
theorem ex_least1 : leastF (withNear exF 1) exBs 4 [] = -1 := by kernel_rfl
theorem ex_least2 : leastF (withNear exF 2) exBs 4 [] = 12 := by kernel_rfl
theorem exF_closed : closestR exF = (2, 0) := by
  unfold closestR
  rw [exF_open, if_pos rfl]
  obtain ⟨h1, h2, h3⟩ := closestN_spec (okR_of exF_ok)
  have e0 : leastV (withNear exF 0) [] = -1 := by unfold leastV; rw [show boltsOf (withNear exF 0) = exBs from exF_b]; exact ex_least0
  have e1 : leastV (withNear exF 1) [] = -1 := by unfold leastV; rw [show boltsOf (withNear exF 1) = exBs from exF_b]; exact ex_least1
  have e2 : leastV (withNear exF 2) [] = 12 := by unfold leastV; rw [show boltsOf (withNear exF 2) = exBs from exF_b]; exact ex_least2
  have c0 := (least_closed exF_ok (n := 0) (by decide)).1 (by rw [e0]; decide)
  have c1 := (least_closed exF_ok (n := 1) (by decide)).1 (by rw [e1]; decide)
  have c2 : ¬ closedB (ringOf exF) 2 = false := fun h => by
    have := (least_closed exF_ok (n := 2) (by decide)).2 h
    rw [e2] at this; exact absurd this (by decide)
  have : closestN (ringOf exF) = 2 := by
    rcases Nat.lt_trichotomy (closestN (ringOf exF)) 2 with h | h | h
    · exfalso
      rcases (show closestN (ringOf exF) = 0 ∨ closestN (ringOf exF) = 1 by omega) with e | e
      · rw [e] at h2; rw [show ((0 : Nat) : Int) = 0 from rfl, c0] at h2; cases h2
      · rw [e] at h2; rw [show ((1 : Nat) : Int) = 1 from rfl, c1] at h2; cases h2
    · exact h
    · exact absurd (h3 2 h) c2
  rw [this]; rfl
theorem exF_least : leastR exF2 = (12, 0) := by
  unfold leastR
  rw [exF2_open, if_pos rfl]
  have e2 : leastV exF2 [] = 12 := by unfold leastV; rw [show boltsOf exF2 = exBs from exF_b]; exact ex_least2
  obtain ⟨b1, b2⟩ := leastV_best exF2_ok
  rw [e2] at b1
  cases hb : leastB (Begs (ringOf exF2) exF2.near) with
  | none => have := b2.2 hb; rw [e2] at this; exact absurd this (by decide)
  | some n => rw [hb] at b1; simp only [Qr] at b1; rw [← b1]
theorem PX78 : PureCall Try.prog 78 [] (.ag (eDome exD)) := by
  have := O44.toPure
  exact this
noncomputable def H28 : Gam := ((H27.ext 16 (fnG (fun f => [.ag (eFig f)]) decF (fun _ => True) readyF .b)).ext 78 (fnG (fun _ : Unit => []) (fun _ => ()) (fun _ => True) (fun a => a) (fun _ => .ag (eDome exD))))
theorem okH28 : GOk Try.prog H28 := by
  have k1 := okH27.ext (f := 16) (fun a w => Try.call16 a w) (fnG_ok (e := fun f => [.ag (eFig f)]) (d := decF) (ok := fun _ => True) (g := readyF) (eb := V.b) fun f _ => W16 f)
  exact k1.ext (f := 78) (fun a w => Try.call78 a w) (fnG_ok (e := fun _ : Unit => []) (d := fun _ => ()) (ok := fun _ => True) (g := fun a => a) (eb := fun _ => V.ag (eDome exD)) fun _ _ => PX78)
theorem z78 : H28 78 [] = (True, .ag (eDome exD)) := by
  refine (show H28 78 [] = fnG (fun _ : Unit => []) (fun _ => ()) (fun _ => True) (fun a => a) (fun _ => .ag (eDome exD)) [] from rfl).trans ?_
  simp [fnG]
theorem W49 : PureCall Try.prog 49 [] (.ag (eFig exF)) := by
  refine pure_body okH28 hmix Try.func49 cb49 cc49 cs49 cn49 ?_
  have g1 := z78
  simp only [rc49, rs49, g1, ru_reg, ru_seq, ru_ret, ru_keep, putB, thenQ, run_nil, run_cons, Fam.step, stepQ, stepW, needW, putB, nv, sv, evO, opv, qv, ldV, callV, foldParts, putAt, partsOk, partsOne, V.cells, solid, cellOk, hasRef, hasRefL, flat, flatL, upd_some, upd_none, lkp_cons, lkp_nil, ↓reduceIte, Nat.reduceEqDiff, Nat.reduceAdd, Nat.reduceMul, Nat.reduceLT, Nat.reduceLeDiff, Qb, Qc, Qu, Qt, Qe, Qf, Ql, Qv, Q9, Qd, Q1, Qo, Qw, Qz, Qg, Qm, Qy, Qn, Q2, endQ, rvs, rv1, resV, vw_i, vw_sl, vw_ag, zipA, Qi, Qp, Qq, Q5, Qj, Qa, true_and, and_self, reduceCtorEq, not_false_eq_true, ne_eq, imp_self, eDome, eFig]
  rfl
end Go.C02
set_option linter.unusedSimpArgs false
set_option linter.unusedVariables false
namespace Go.C02
open Go.Fam Go.Proofs
def eNE (r : Int × Int) : V := .tp [.i r.1, .i r.2]
theorem W38' (f : Fig) (seam : Int) : f.dome.gores.length < 1000000 → PureCall Try.prog 38 [.ag (eFig f), .i seam] (eNE (meetsR f seam)) := fun h => W38 f seam h
noncomputable def HA1 : Gam := ((((H28.ext 18 (fnG (fun f => [.ag (eFig f)]) decF (fun _ => True) leastR eNE)).ext 22 (fnG (fun f => [.ag (eFig f)]) decF (fun _ => True) closestR eNE)).ext 26 (fnG (fun f => [.ag (eFig f)]) decF (fun _ => True) soonR eNE)).ext 19 (fnG (fun f => [.ag (eFig f)]) decF (fun _ => True) badR eLE)).ext 38 (fnG eFN dFN (fun a => a.1.dome.gores.length < 1000000) (fun a => meetsR a.1 a.2) eNE)
noncomputable def HA2 : Gam := ((((HA1.ext 49 (fnG (fun _ : Unit => []) (fun _ => ()) (fun _ => True) (fun a => a) (fun _ => .ag (eFig exF)))).ext 34 (fnG (fun f => [.ag (eFig f)]) decF (fun f => f.starts.length < 10000000 ∧ f.times.length < 10000000) soonestR eNE)).ext 20 (fnG (fun a : Fig × List Int => [.ag (eFig a.1), .sl 1 (a.2.map eI)]) (fun vs => match vs with | [.ag r, .sl _ k] => (dFig r, k.map dI) | _ => (dFig [], [])) (fun a => (figCheck a.1 = 0 ∧ pitchE a.1.dome true = 0) ∧ a.2.length < 10000000) (fun a => areR a.1 a.2) .b)).ext 27 (fnG (fun a : Fig × List Int => [.ag (eFig a.1), .sl 1 (a.2.map eI)]) (fun vs => match vs with | [.ag r, .sl _ k] => (dFig r, k.map dI) | _ => (dFig [], [])) (fun a => OkT a.1.times ∧ a.2.length < 10000000) (fun a => canSewR a.1.times a.2) .b)).ext 28 (fnG (fun a : Fig × List Int => [.ag (eFig a.1), .sl 1 (a.2.map eI)]) (fun vs => match vs with | [.ag r, .sl _ k] => (dFig r, k.map dI) | _ => (dFig [], [])) (fun a => (a.2.length ≤ a.1.times.length ∧ a.1.times.length < 100000) ∧ (∀ x ∈ a.1.times, tame 1000000 x) ∧ ∀ x ∈ a.2, tame 10000000 x) (fun a => endF a.1.times a.2 a.2.length) .i)
theorem okHA1 : GOk Try.prog HA1 := by
  have k1 := okH28.ext (f := 18) (fun a w => Try.call18 a w) (fnG_ok (e := fun f => [.ag (eFig f)]) (d := decF) (ok := fun _ => True) (g := leastR) (eb := eNE) fun f _ => W18 f)
  have k2 := k1.ext (f := 22) (fun a w => Try.call22 a w) (fnG_ok (e := fun f => [.ag (eFig f)]) (d := decF) (ok := fun _ => True) (g := closestR) (eb := eNE) fun f _ => W22 f)
  have k3 := k2.ext (f := 26) (fun a w => Try.call26 a w) (fnG_ok (e := fun f => [.ag (eFig f)]) (d := decF) (ok := fun _ => True) (g := soonR) (eb := eNE) fun f _ => W26 f)
  have k4 := k3.ext (f := 19) (fun a w => Try.call19 a w) (fnG_ok (e := fun f => [.ag (eFig f)]) (d := decF) (ok := fun _ => True) (g := badR) (eb := eLE) fun f _ => W19 f)
  exact k4.ext (f := 38) (fun a w => Try.call38 a w) (fnG_ok (e := eFN) (d := dFN) (ok := fun a => a.1.dome.gores.length < 1000000) (g := fun a => meetsR a.1 a.2) (eb := eNE) fun a h => W38' a.1 a.2 h)
theorem okHA2 : GOk Try.prog HA2 := by
  have k1 := okHA1.ext (f := 49) (fun a w => Try.call49 a w) (fnG_ok (e := fun _ : Unit => []) (d := fun _ => ()) (ok := fun _ => True) (g := fun a => a) (eb := fun _ => V.ag (eFig exF)) fun _ _ => W49)
  have k2 := k1.ext (f := 34) (fun a w => Try.call34 a w) (fnG_ok (e := fun f => [.ag (eFig f)]) (d := decF) (ok := fun f => f.starts.length < 10000000 ∧ f.times.length < 10000000) (g := soonestR) (eb := eNE) fun f h => W34 f h.1 h.2)
  have k3 := k2.ext (f := 20) (fun a w => Try.call20 a w) (fnG_ok (e := fun a : Fig × List Int => [.ag (eFig a.1), .sl 1 (a.2.map eI)]) (d := fun vs => match vs with | [.ag r, .sl _ k] => (dFig r, k.map dI) | _ => (dFig [], [])) (ok := fun a => (figCheck a.1 = 0 ∧ pitchE a.1.dome true = 0) ∧ a.2.length < 10000000) (g := fun a => areR a.1 a.2) (eb := V.b) fun a h => W20 a.1 a.2 h.1.1 h.1.2 h.2)
  have k4 := k3.ext (f := 27) (fun a w => Try.call27 a w) (fnG_ok (e := fun a : Fig × List Int => [.ag (eFig a.1), .sl 1 (a.2.map eI)]) (d := fun vs => match vs with | [.ag r, .sl _ k] => (dFig r, k.map dI) | _ => (dFig [], [])) (ok := fun a => OkT a.1.times ∧ a.2.length < 10000000) (g := fun a => canSewR a.1.times a.2) (eb := V.b) fun a h => W27 a.1 a.2 h.1 h.2)
  exact k4.ext (f := 28) (fun a w => Try.call28 a w) (fnG_ok (e := fun a : Fig × List Int => [.ag (eFig a.1), .sl 1 (a.2.map eI)]) (d := fun vs => match vs with | [.ag r, .sl _ k] => (dFig r, k.map dI) | _ => (dFig [], [])) (ok := fun a => (a.2.length ≤ a.1.times.length ∧ a.1.times.length < 100000) ∧ (∀ x ∈ a.1.times, tame 1000000 x) ∧ ∀ x ∈ a.2, tame 10000000 x) (g := fun a => endF a.1.times a.2 a.2.length) (eb := V.i) fun a h => W28 a.1 a.2 h.1.1 h.1.2 h.2.1 h.2.2)
section
variable (f : Fig) (l : List Int) (n : Int)
theorem y18 : HA2 18 [.ag (eFig f)] = (True, eNE (leastR f)) := (show HA2 18 _ = fnG (fun f => [.ag (eFig f)]) decF (fun _ => True) leastR eNE [.ag (eFig f)] from rfl).trans (fnG_at _ (dFig_e _))
theorem y22 : HA2 22 [.ag (eFig f)] = (True, eNE (closestR f)) := (show HA2 22 _ = fnG (fun f => [.ag (eFig f)]) decF (fun _ => True) closestR eNE [.ag (eFig f)] from rfl).trans (fnG_at _ (dFig_e _))
theorem y26 : HA2 26 [.ag (eFig f)] = (True, eNE (soonR f)) := (show HA2 26 _ = fnG (fun f => [.ag (eFig f)]) decF (fun _ => True) soonR eNE [.ag (eFig f)] from rfl).trans (fnG_at _ (dFig_e _))
theorem y19 : HA2 19 [.ag (eFig f)] = (True, eLE (badR f)) := (show HA2 19 _ = fnG (fun f => [.ag (eFig f)]) decF (fun _ => True) badR eLE [.ag (eFig f)] from rfl).trans (fnG_at _ (dFig_e _))
theorem y38 : HA2 38 [.ag (eFig f), .i n] = (f.dome.gores.length < 1000000, eNE (meetsR f n)) := (show HA2 38 _ = fnG eFN dFN (fun a => a.1.dome.gores.length < 1000000) (fun a => meetsR a.1 a.2) eNE (eFN (f, n)) from rfl).trans (fnG_at _ (dFN_e _))
theorem y49 : HA2 49 [] = (True, .ag (eFig exF)) := by
  refine (show HA2 49 [] = fnG (fun _ : Unit => []) (fun _ => ()) (fun _ => True) (fun a => a) (fun _ => .ag (eFig exF)) [] from rfl).trans ?_
  simp [fnG]
theorem y32 (k : List Int) : HA2 32 [.sl 1 (l.map eI), .sl 1 (k.map eI)] = (l.length < 10000000, .b (decide (l = k))) := z32 l k
end
theorem W17 : PureCall Try.prog 17 [] (.b true) := by
  refine pure_body okHA2 hmix Try.func17 cb17 cc17 cs17 cn17 ?_
  have g1 := y49
  have g2 := y19 exF
  have g3 := y22 exF
  have g4 := y26 exF
  have g5 := y18 exF2
  have g6 := y32 [0, 3] [0, 3]
  rw [exF_bad] at g2
  rw [exF_closed] at g3
  rw [exF_soon] at g4
  rw [exF_least] at g5
  simp only [eFig, exF, exF2, eLE, eNE, Qb, Qc, eI] at g1 g2 g3 g4 g5 g6
  have hc : chunk 1 (V.i 0 :: V.i 3 :: List.drop 1 (List.drop 1 [[V.i 0], [V.i 0]].flatten)) 0 2 = [[V.i 0], [V.i 3]] := rfl
  simp only [rc17, rs17, g1, g2, g3, g4, g5, hc, g6, ru_reg, ru_seq, ru_ret, ru_keep, putB, thenQ, run_nil, run_cons, Fam.step, stepQ, stepW, needQ, needW, condB, ug, putB, nv, sv, evO, opv, qv, pickV_bb, binV, ldV, curG, callV, foldParts, putAt, partsOk, partsOne, V.cells, solid, cellOk, hasRef, hasRefL, flat, flatL, upd_some, upd_none, lkp_cons, lkp_nil, ↓reduceIte, Nat.reduceEqDiff, Nat.reduceAdd, Nat.reduceMul, Nat.reduceLT, Nat.reduceLeDiff, Qb, Qc, Qu, Qt, Qe, Qf, Ql, Qv, Q9, Qd, Q1, Qo, Qw, Qz, Qg, Qm, Qx, Qr, Qy, Qn, Q2, endQ, rvs, rv1, resV, vw_i, vw_b, vw_sl, vw_ag, zipA, beq_self_eq_true, Qi, Qp, Qq, Q5, Qj, Qa, Zk, decide_true, and_self, forall_const, implies_true, reduceCtorEq, not_false_eq_true, ne_eq, imp_self]
noncomputable def HB : Gam := HA2.ext 17 (fnG (fun _ : Unit => []) (fun _ => ()) (fun _ => True) (fun a => a) (fun _ => .b true))
theorem okHB : GOk Try.prog HB := okHA2.ext (f := 17) (fun a w => Try.call17 a w) (fnG_ok (e := fun _ : Unit => []) (d := fun _ => ()) (ok := fun _ => True) (g := fun a => a) (eb := fun _ => V.b true) fun _ _ => W17)
theorem b17 : HB 17 [] = (True, .b true) := by
  refine (show HB 17 [] = fnG (fun _ : Unit => []) (fun _ => ()) (fun _ => True) (fun a => a) (fun _ => .b true) [] from rfl).trans ?_
  simp [fnG]
end Go.C02
set_option maxRecDepth 8000
namespace Go.C02
open Go.Fam Go.Proofs
def rc13 : RC := (.seq (.reg false [(cX 2 0), (cQ 4 [] (.mv (kB false)))]) (.keep [1,2] (.seq (.seq (.reg false [(cLd 14 2 true 11), (cQ 15 [14] (.call (kF 24) [(.t 14)]))]) (.keep [1,2,15] (.cond (.t 15) (.seq (.reg false [(cQ 16 [] (.call (kF 17) [])), (cMv 4 16)]) .ret) .skip))) (.keep [1,2] (.seq (.reg false [(cLd 17 2 true 11), (cQ 18 [17] (.call (kF 21) [(.t 17)])), ⟨(some 5), none, [], none, .w (.alc [(.z 4), (.z 1), (.i 0), (.z 2), (.z 1), (.i 0), (.i 0), (.i 0), (.i 0), (.z 1), (.z 1)])⟩, ⟨none, none, [5,18], none, .w (.st 11 (.t 5) (.t 18))⟩]) (.keep [1,2,5] (.seq (.seq (.any false 0 [⟨(cLd 19 5 true 11), [], []⟩, ⟨(cQ 20 [19] (.call (kF 41) [(.t 19)])), [], [0]⟩, ⟨(cLd 21 2 true 11), [], []⟩, ⟨(cQ 22 [21] (.call (kF 25) [(.t 21)])), [], [2,1,0]⟩, ⟨(cB 23 .neq 20 22), [], [1,0,3,2]⟩]) (.keep [1,2,5,23] (.cond (.t 23) (.seq (.reg false [(cQ 4 [] (.mv (kB false)))]) .ret) .skip))) (.keep [1,2,5] (.seq (.reg false [(cLd 25 5 true 11), (cMv 26 1), (cQ 27 [25,26] (.call (kF 38) [(.t 25), (.t 26)])), (cMv 24 27), (cEx 28 24 0), (cEx 29 24 1), (cMv 6 28), (cMv 7 29)]) (.keep [1,2,5,6,7] (.seq (.reg false [(cLd 31 2 true 11), (cMv 32 1), (cQ 33 [31,32] (.call (kF 42) [(.t 31), (.t 32)])), (cMv 30 33), (cEx 34 30 0), (cEx 35 30 1), (cMv 8 34), (cMv 9 35)]) (.keep [2,5,6,7,8,9] (.seq (.reg false [(cLd 37 5 true 11), (cQ 38 [37] (.call (kF 19) [(.t 37)])), (cMv 36 38), (cEx 39 36 0), (cEx 40 36 1), (cMv 10 39), (cMv 11 40)]) (.keep [2,5,6,7,8,9,10,11] (.seq (.reg false [(cLd 42 2 true 11), (cQ 43 [42] (.call (kF 43) [(.t 42)])), (cMv 41 43), (cEx 44 41 0), (cEx 45 41 1), (cMv 12 44), (cMv 13 45)]) (.keep [2,5,6,7,8,9,10,11,12,13] (.seq (.reg true [(cMv 46 6), (cMv 47 8), (cB 48 .eql 46 47), (cMv 49 48), (gMv 50 49 true 7), (gMv 51 49 true 9), (gQ 52 49 true [50,51] (.bin .eql (.t 50) (.t 51))), (cQ 53 [49,52] (.pick (.t 49) (.t 52) (kB false))), (cMv 54 53), (gMv 55 54 true 10), (gMv 56 54 true 12), (gQ 57 54 true [55,56] (.call (kF 32) [(.t 55), (.t 56)])), (cQ 58 [54,57] (.pick (.t 54) (.t 57) (kB false))), (cMv 59 58), (gMv 60 59 true 11), (gMv 61 59 true 13), (gQ 62 59 true [60,61] (.bin .eql (.t 60) (.t 61))), (cQ 63 [59,62] (.pick (.t 59) (.t 62) (kB false))), (cMv 64 63), (gQ 65 64 true [5] (.fad 9 (.t 5))), (gQ 66 64 true [65] (.ld false 1 (.t 65))), (gQ 67 64 true [2] (.fad 9 (.t 2))), (gQ 68 64 true [67] (.ld false 1 (.t 67))), (gQ 69 64 true [66,68] (.call (kF 32) [(.t 66), (.t 68)])), (cQ 70 [64,69] (.pick (.t 64) (.t 69) (kB false))), (cMv 71 70), (gQ 72 71 true [5] (.fad 10 (.t 5))), (gQ 73 71 true [72] (.ld false 1 (.t 72))), (gQ 74 71 true [2] (.fad 10 (.t 2))), (gQ 75 71 true [74] (.ld false 1 (.t 74))), (gQ 76 71 true [73,75] (.call (kF 32) [(.t 73), (.t 75)])), (cQ 77 [71,76] (.pick (.t 71) (.t 76) (kB false))), (cMv 78 77), (gQ 79 78 true [5] (.fad 0 (.t 5))), (gQ 80 78 true [79] (.fad 1 (.t 79))), (gQ 81 78 true [80] (.ld false 1 (.t 80))), (gQ 82 78 true [2] (.fad 0 (.t 2))), (gQ 83 78 true [82] (.fad 1 (.t 82))), (gQ 84 78 true [83] (.ld false 1 (.t 83))), (gQ 85 78 true [81,84] (.call (kF 32) [(.t 81), (.t 84)])), (cQ 86 [78,85] (.pick (.t 78) (.t 85) (kB false))), (cMv 87 86), (gQ 88 87 true [] (.call (kF 17) [])), (cQ 89 [87,88] (.pick (.t 87) (.t 88) (kB false))), (cMv 4 89)]) .ret)))))))))))))))))
def pu13 : List Nat := [2]
def rs13 : List RV := [.t 4]
theorem cc13 : comp Try.prog pu13 (Try.f13.ntmps, 0) 0 1 rc13 (Try.f13.body.getD .skip) = some rc13 := by kernel_rfl
theorem cb13 : Try.f13.body = some (Try.f13.body.getD .skip) := by kernel_rfl
theorem cs13 : resRV Try.prog Try.f13.results.toList = some rs13 := by kernel_rfl
theorem cn13 : 2 ≤ Try.f13.ntmps := by decide
end Go.C02
set_option linter.unusedSimpArgs false
set_option linter.unusedVariables false
namespace Go.C02
open Go.Fam Go.Proofs
section
variable (f : Fig) (l k : List Int) (n : Int)
theorem b19 : HB 19 [.ag (eFig f)] = (True, eLE (badR f)) := y19 f
theorem b38 : HB 38 [.ag (eFig f), .i n] = (f.dome.gores.length < 1000000, eNE (meetsR f n)) := y38 f n
theorem b41 : HB 41 [.ag (eFig f)] = (True, .i (figCheck f)) := h41 f
theorem b25 : HB 25 [.ag (eFig f)] = (f.starts.length < 10000000 ∧ f.times.length < 10000000, .i (figCheck f)) := q25 f
theorem b24 : HB 24 [.ag (eFig f)] = (True, .b (farRing f)) := z24 f
theorem b21 : HB 21 [.ag (eFig f)] = (Ok21 f, .ag (eFig f)) := z21 f
theorem b42 : HB 42 [.ag (eFig f), .i n] = (f.starts.length < 10000000 ∧ f.times.length < 10000000, eNE (meetsR f n)) := q42 f n
theorem b43 : HB 43 [.ag (eFig f)] = (f.starts.length < 10000000 ∧ f.times.length < 10000000, eLE (badR f)) :=
  (show HB 43 _ = fnG (fun f => [.ag (eFig f)]) decF (fun f => f.starts.length < 10000000 ∧ f.times.length < 10000000) badR eLE [.ag (eFig f)] from rfl).trans (fnG_at _ (dFig_e _))
theorem b32 : HB 32 [.sl 1 (l.map eI), .sl 1 (k.map eI)] = (l.length < 10000000, .b (decide (l = k))) := z32 l k
end
theorem Ok21.lens {f : Fig} (h : Ok21 f) : f.starts.length < 10000000 ∧ f.times.length < 10000000 := ⟨by have := h.s; omega, by have := h.t; omega⟩
theorem bad_len (f : Fig) : (badR f).1.length ≤ f.dome.gores.length := by
  unfold badR
  split
  · exact badTo_len _ _
  · simp
theorem ring_gores {f : Fig} (h : farRing f = false) : f.dome.gores.length < 1000000 := (farRing_ok h).d.g
set_option maxRecDepth 20000 in
set_option maxHeartbeats 4000000 in
theorem P13 (f : Fig) (seam : Int) : PureCall Try.prog 13 [.ag (eFig f), .i seam] (.b true) := by
  refine pure_body okHB hmix Try.func13 cb13 cc13 cs13 cn13 ?_
  have g1 := b24 f
  have g2 := b21 f
  have g3 := b41 f
  have g4 := b25 f
  have g5 := b38 f seam
  have g6 := b42 f seam
  have g7 := b19 f
  have g8 := b43 f
  have g9 := b17
  simp only [eFig, eNE, eLE] at g1 g2 g3 g4 g5 g6 g7 g8
  cases hf : farRing f with
  | true => simp only [rc13, rs13, g1, g9, hf, ru_reg, ru_seq, ru_cnd, ru_ret, ru_keep, thenQ, run_nil, run_cons, Fam.step, stepQ, evO, opv, qv, ldV, callV, V.cells, solid, hasRef, hasRefL, flat, upd_some, lkp_cons, lkp_nil, ↓reduceIte, Nat.reduceEqDiff, Nat.reduceAdd, Nat.reduceLT, Nat.reduceLeDiff, Qb, Qc, Qe, Qf, Qd, Qo, Qg, endQ, rvs, rv1, resV, vw_i, vw_b, vw_sl, vw_ag, zipA, Qi, Qj, Qa, and_self, implies_true, reduceCtorEq, eFig]
  | false =>
    have h21 := farRing_ok hf
    obtain ⟨hs, ht⟩ := h21.lens
    have hg := ring_gores hf
    have hbl : (badR f).1.length < 10000000 := by have := bad_len f; omega
    have hg2 : f.dome.gores.length < 10000000 := by omega
    simp only [rc13, rs13, g1, g2, g3, g4, g5, g6, g7, g8, g9, b32, eq_self, hf, h21, hs, ht, hg, hg2, hbl, ru_skip, ru_reg, ru_any, ru_seq, ru_cnd, ru_ret, ru_keep, putBs, putB, thenQ, run_nil, run_cons, Fam.step, stepQ, stepW, needQ, needW, condB, ug, runX, eff, nextD, fpR, fpQ, fpV, disjB, hits, putB, nv, sv, evO, opv, qv, pickV_bb, binV, ldV, curG, callV, putAt, V.cells, solid, cellOk, hasRef, hasRefL, flat, flatL, upd_some, upd_none, lkp_cons, lkp_nil, ↓reduceIte, Nat.reduceEqDiff, Nat.reduceAdd, Nat.reduceLT, Nat.reduceLeDiff, Qb, Qc, Qu, Qt, Qe, Qf, Ql, Qv, Q9, Qd, Q1, Qo, Qs, Qw, Qz, Qg, Qm, Qx, Q4, Qr, Q7, Qy, Qn, Q8, endQ, rvs, rv1, resV, vw_i, vw_b, vw_sl, vw_ag, zipA, beq_self_eq_true, Qi, Zm, Qp, Qq, Zb, Q5, Qj, Ze, Zc, Qa, Zk, decide_true, and_self, forall_const, implies_true, reduceCtorEq, Zg, Zd, Q6, imp_self, Qk, eFig]
end Go.C02
