import Derived.Test.YtgcinomjcgebhaaC02C
set_option linter.all false
set_option linter.unusedSimpArgs false
set_option linter.unusedVariables false
namespace Go.C02
open Go.Fam Go.Proofs
def headOk (d : Dome) : Bool := within d.bolts.length 1 4 && within d.gores.length 3 16 && within d.loss 0 20 && within d.rounds.length 1 12 && decide (d.widths.length = d.rounds.length) && within d.slope 0 500
def goreOk (d : Dome) (g : Int) : Bool := within g 0 (d.bolts.length - 1)
def roundOk (s : Span) : Bool := isSpan s 40000
def widthOk (d : Dome) (n : Int) : Bool := within n (2 * d.loss) 2000
def isDome (d : Dome) : Bool := headOk d && d.gores.all (goreOk d) && d.rounds.all roundOk && d.widths.all (widthOk d)
def check (d : Dome) : Int := if isDome d then (if d.bolts.all isBolt then 0 else 21) else 20

theorem P39 (d : Dome) : PureCall Try.prog 39 [.ag (eDome d)] (.i (check d)) := by
  refine pure_body okC hmix Try.func39 cb39 cc39 cs39 cn39 ?_
  simp only [rc39, rs39, gC54, ru_skip, ru_reg, ru_seq, ru_cond, ru_block, ru_ret, ru_keep, thenQ, run_nil, run_cons, Fam.step, stepQ, needQ, condB, ug, evO, opv, qv, pickV, binV, ldV, lenV, callV, V.cells, solid, hasRef, hasRefL, flat, upd_some, lkp_cons, lkp_nil, ↓reduceIte, Nat.reduceEqDiff, Nat.reduceAdd, Nat.reduceLT, Nat.reduceLeDiff, List.map_cons, List.map_nil, List.all_cons, List.all_nil, List.length_cons, List.length_nil, List.drop_succ_cons, List.drop_zero, List.headD_cons, List.append_nil, endQ, rvs, rv1, resV, vw_i, vw_sl, vw_ag, zipA, Nat.zero_add, V.i.injEq, Bool.and_self, Bool.and_true, Bool.or_false, Bool.false_eq_true, true_and, and_true, and_self, implies_true, beq_false, Bool.not_not, Bool.not_eq_false', Bool.not_eq_true', ite_t, Bool.decide_eq_true, Bool.decide_eq_false, imp_self, List.length_map, eDome]
  refine ⟨fun h => ?_, fun h => ?_⟩
  · have h1 : headOk d = false := by
      unfold headOk
      cases h1 : within (↑d.bolts.length) 1 4 <;> cases h2 : within (↑d.gores.length) 3 16 <;> cases h3 : within d.loss 0 20 <;> cases h4 : within (↑d.rounds.length) 1 12 <;> cases h5 : within d.slope 0 500 <;>
        simp [h1, h2, h3, h4, h5] at h ⊢
      omega
    simp [check, isDome, h1]
  have hh : headOk d = true := by
    unfold headOk
    cases h1 : within (↑d.bolts.length) 1 4 <;> cases h2 : within (↑d.gores.length) 3 16 <;> cases h3 : within d.loss 0 20 <;> cases h4 : within (↑d.rounds.length) 1 12 <;> cases h5 : within d.slope 0 500 <;>
      simp [h1, h2, h3, h4, h5] at h ⊢
    omega
  have hs : d.bolts.length ≤ 4 ∧ d.gores.length ≤ 16 ∧ (0 ≤ d.loss ∧ d.loss ≤ 20) ∧ d.rounds.length ≤ 12 ∧ d.widths.length = d.rounds.length := by
    simp [headOk, within] at hh
    omega
  have hin : inI (2 * d.loss) := by unfold inI; omega
  have hin2 : inI ((d.bolts.length : Int) - 1) := by unfold inI; omega
  refine ru_countC d.gores.length (fun i => ⟨lkp [(1, .pa (eDome d)), (3, .i i)], []⟩) (fun i => (d.gores.take i).all (goreOk d) = true) ?_ ?_ ?_ ?_
  · simp only [Int.natCast_zero, kp, lkp_cons, lkp_nil, ↓reduceIte, Nat.reduceEqDiff, List.map_cons, List.map_nil, eDome]
  · rfl
  · intro i hi hc
    obtain ⟨x, hx⟩ : ∃ x, d.gores[i]? = some x := ⟨_, List.getElem?_eq_getElem hi⟩
    have hlt : (i : Int) < d.gores.length := by omega
    have h3 : inI ((i : Int) + 1) := by unfold inI; omega
    simp only [gC54, hx, hlt, Int.natCast_add, Int.natCast_one, all_take_succ hx, hc, h3, hin2, ru_skip, ru_reg, ru_any, ru_seq, ru_cond, ru_block, ru_exit, ru_ret, ru_keep, putB, thenQ, blockQ, run_nil, run_cons, Fam.step, stepQ, runX, eff, nextD, fpR, fpQ, fpV, disjB, hits, putB, evO, opv, qv, pickV, binV, ldV, iadV, lenV, callV, hasRef, hasRefL, flat, kp, upd_some, lkp_cons, lkp_nil, ↓reduceIte, Nat.reduceEqDiff, Nat.reduceAdd, Nat.reduceLT, Nat.reduceLeDiff, List.map_cons, List.map_nil, List.all_nil, List.length_cons, List.length_nil, List.drop_succ_cons, List.drop_zero, List.headD_cons, List.cons_append, List.nil_append, List.append_nil, List.getElem?_nil, Option.getD_some, Option.getD_none, List.replicate_zero, List.isEmpty_nil, endQ, rvs, rv1, resV, vw_i, Int.natCast_nonneg, Nat.zero_add, V.i.injEq, Bool.and_self, Bool.and_true, Bool.true_and, Bool.false_and, Bool.or_false, Bool.not_true, Bool.not_false, Bool.false_eq_true, Bool.true_eq_false, decide_true, true_and, and_true, and_self, forall_const, false_implies, implies_true, Option.map_some, List.any_nil, List.contains_nil, Bool.not_eq_false', Bool.not_eq_true', List.length_map, Int.toNat_natCast, List.getD_eq_getElem?_getD, List.getElem?_map, eDome, eI]
    refine ⟨fun h => ?_, fun h => ?_⟩
    · have h5 : goreOk d x = false := h
      simp [check, isDome, all_of_mem hx h5]
    · exact h
  intro hc1
  rw [List.take_length] at hc1
  simp only [ru_skip, ru_reg, ru_any, ru_seq, ru_cond, ru_block, ru_exit, ru_ret, ru_keep, putB, thenQ, blockQ, run_nil, run_cons, Fam.step, stepQ, runX, eff, nextD, fpR, fpQ, fpV, disjB, hits, putB, evO, opv, qv, pickV, binV, ldV, iadV, lenV, callV, hasRef, hasRefL, upd_some, lkp_cons, lkp_nil, ↓reduceIte, Nat.reduceEqDiff, Nat.reduceAdd, Nat.reduceLT, Nat.reduceLeDiff, List.map_cons, List.map_nil, List.all_nil, List.length_cons, List.length_nil, List.drop_succ_cons, List.drop_zero, List.headD_cons, List.cons_append, List.nil_append, List.append_nil, List.getElem?_nil, Option.getD_none, List.replicate_zero, List.isEmpty_nil, endQ, rvs, rv1, resV, vw_i, Int.lt_irrefl, Int.natCast_nonneg, Nat.zero_add, V.i.injEq, Bool.and_self, Bool.and_true, Bool.false_and, Bool.or_false, Bool.not_true, Bool.not_false, Bool.false_eq_true, decide_false, true_and, and_self, false_and, and_false, forall_const, List.any_nil, List.contains_nil, imp_self, List.length_map, Int.toNat_natCast, List.getD_eq_getElem?_getD, List.getElem?_map, eDome]
  refine ru_countC d.rounds.length (fun i => ⟨lkp [(1, .pa (eDome d)), (4, .i i)], []⟩) (fun i => (d.rounds.take i).all roundOk = true ∧ (d.widths.take i).all (widthOk d) = true) ?_ ?_ ?_ ?_
  · simp only [Int.natCast_zero, kp, lkp_cons, lkp_nil, ↓reduceIte, Nat.reduceEqDiff, List.map_cons, List.map_nil, eDome]
  · exact ⟨rfl, rfl⟩
  · intro i hi hc
    obtain ⟨x, hx⟩ : ∃ x, d.rounds[i]? = some x := ⟨_, List.getElem?_eq_getElem hi⟩
    obtain ⟨y, hy⟩ : ∃ y, d.widths[i]? = some y := ⟨_, List.getElem?_eq_getElem (by omega)⟩
    have hlt : (i : Int) < d.rounds.length := by omega
    have hlt' : (i : Int) < d.widths.length := by omega
    have h3 : inI ((i : Int) + 1) := by unfold inI; omega
    simp only [gC54, gC58, hx, hy, hlt, hlt', Int.natCast_add, Int.natCast_one, all_take_succ hx, all_take_succ hy, hc.1, hc.2, h3, hin, ru_skip, ru_reg, ru_any, ru_seq, ru_cond, ru_block, ru_exit, ru_ret, ru_keep, putB, thenQ, blockQ, run_nil, run_cons, Fam.step, stepQ, needQ, condB, ug, runX, eff, nextD, fpR, fpQ, fpV, disjB, hits, putB, evO, opv, qv, pickV, binV, ldV, iadV, lenV, callV, hasRef, hasRefL, flat, kp, upd_some, lkp_cons, lkp_nil, ↓reduceIte, Nat.reduceEqDiff, Nat.reduceAdd, Nat.reduceLT, Nat.reduceLeDiff, List.map_cons, List.map_nil, List.all_cons, List.all_nil, List.length_cons, List.length_nil, List.drop_succ_cons, List.drop_zero, List.take_succ_cons, List.take_nil, List.headD_cons, List.cons_append, List.nil_append, List.append_nil, List.getElem?_nil, Option.getD_some, Option.getD_none, List.replicate_zero, List.isEmpty_nil, endQ, rvs, rv1, resV, vw_i, vw_ag, Int.natCast_nonneg, Nat.zero_add, V.i.injEq, Bool.and_self, Bool.and_true, Bool.true_and, Bool.false_and, Bool.or_false, Bool.not_true, Bool.not_false, Bool.false_eq_true, Bool.true_eq_false, decide_true, true_and, and_true, and_self, forall_const, false_implies, implies_true, Option.map_some, List.any_nil, List.contains_nil, beq_false, Bool.not_not, Bool.not_eq_false', Bool.not_eq_true', ite_t, Bool.decide_eq_false, imp_self, List.length_map, Int.toNat_natCast, List.getD_eq_getElem?_getD, List.getElem?_map, spanE, eSpan, eDome, eI]
    refine ⟨fun h => ?_, fun h => ?_⟩
    · by_cases h5 : isSpan x 40000 = true
      · have h6 : widthOk d y = false := by simpa [h5, widthOk] using h
        simp [check, isDome, all_of_mem hy h6]
      · have h6 : roundOk x = false := by simpa [roundOk] using h5
        simp [check, isDome, all_of_mem hx h6]
    · have h7 : isSpan x 40000 = true ∧ within y (2 * d.loss) 2000 = true := by
        cases h1 : isSpan x 40000 <;> cases h2 : within y (2 * d.loss) 2000 <;> simp [h1, h2] at h ⊢
      exact ⟨h7.1, h7.2⟩
  intro hc2
  rw [List.take_length, ← hs.2.2.2.2, List.take_length] at hc2
  simp only [ru_skip, ru_reg, ru_any, ru_seq, ru_cond, ru_block, ru_exit, ru_ret, ru_keep, putB, thenQ, blockQ, run_nil, run_cons, Fam.step, stepQ, needQ, condB, ug, runX, eff, nextD, fpR, fpQ, fpV, disjB, hits, putB, evO, opv, qv, pickV, binV, ldV, iadV, lenV, callV, hasRef, hasRefL, upd_some, lkp_cons, lkp_nil, ↓reduceIte, Nat.reduceEqDiff, Nat.reduceAdd, Nat.reduceLT, Nat.reduceLeDiff, List.map_cons, List.map_nil, List.all_cons, List.all_nil, List.length_cons, List.length_nil, List.drop_succ_cons, List.drop_zero, List.headD_cons, List.cons_append, List.nil_append, List.append_nil, List.getElem?_nil, Option.getD_none, List.replicate_zero, List.isEmpty_nil, endQ, rvs, rv1, resV, vw_i, vw_ag, Int.lt_irrefl, Int.natCast_nonneg, Nat.zero_add, V.i.injEq, Bool.and_self, Bool.and_true, Bool.false_and, Bool.or_false, Bool.not_true, Bool.not_false, Bool.false_eq_true, decide_false, true_and, and_true, and_self, false_and, and_false, forall_const, implies_true, List.any_nil, List.contains_nil, beq_false, imp_self, List.length_map, Int.toNat_natCast, List.getD_eq_getElem?_getD, List.getElem?_map, eDome]
  refine ru_countC d.bolts.length (fun i => ⟨lkp [(1, .pa (eDome d)), (5, .i i)], []⟩) (fun i => (d.bolts.take i).all isBolt = true) ?_ ?_ ?_ ?_
  · simp only [Int.natCast_zero, kp, lkp_cons, lkp_nil, ↓reduceIte, Nat.reduceEqDiff, List.map_cons, List.map_nil, eDome]
  · rfl
  · intro i hi hc
    obtain ⟨x, hx⟩ : ∃ x, d.bolts[i]? = some x := ⟨_, List.getElem?_eq_getElem hi⟩
    have hlt : (i : Int) < d.bolts.length := by omega
    have h3 : inI ((i : Int) + 1) := by unfold inI; omega
    simp only [gC59, hx, hlt, Int.natCast_add, Int.natCast_one, all_take_succ hx, hc, h3, ru_skip, ru_reg, ru_seq, ru_cond, ru_block, ru_exit, ru_ret, ru_keep, thenQ, blockQ, run_nil, run_cons, Fam.step, stepQ, evO, opv, qv, pickV, binV, ldV, iadV, lenV, callV, hasRef, hasRefL, flat, kp, upd_some, lkp_cons, lkp_nil, ↓reduceIte, Nat.reduceEqDiff, Nat.reduceAdd, Nat.reduceLT, Nat.reduceLeDiff, List.map_cons, List.map_nil, List.length_cons, List.length_nil, List.drop_zero, List.take_succ_cons, List.take_nil, List.headD_cons, List.append_nil, Option.getD_some, endQ, rvs, rv1, resV, vw_i, vw_sl, vw_ag, Int.natCast_nonneg, Nat.zero_add, V.i.injEq, Bool.true_and, Bool.or_false, Bool.false_eq_true, Bool.true_eq_false, decide_true, true_and, and_true, and_self, forall_const, false_implies, implies_true, Option.map_some, Bool.not_eq_false', Bool.not_eq_true', imp_self, List.length_map, Int.toNat_natCast, List.getD_eq_getElem?_getD, List.getElem?_map, spanE, boltE, eBolt, eDome]
    intro h
    simp [check, isDome, hh, hc1, hc2, all_of_mem hx h]
  intro hc3
  rw [List.take_length] at hc3
  simp only [ru_skip, ru_reg, ru_seq, ru_cond, ru_block, ru_exit, ru_ret, ru_keep, thenQ, blockQ, run_nil, run_cons, Fam.step, stepQ, evO, opv, qv, pickV, binV, ldV, iadV, lenV, callV, hasRef, hasRefL, upd_some, lkp_cons, lkp_nil, ↓reduceIte, Nat.reduceEqDiff, Nat.reduceAdd, Nat.reduceLT, Nat.reduceLeDiff, List.map_cons, List.map_nil, List.length_cons, List.length_nil, List.drop_zero, List.headD_cons, List.append_nil, endQ, rvs, rv1, resV, vw_i, vw_ag, Int.lt_irrefl, Int.natCast_nonneg, Nat.zero_add, V.i.injEq, Bool.or_false, Bool.false_eq_true, decide_false, true_and, and_self, false_and, and_false, forall_const, imp_self, List.length_map, Int.toNat_natCast, List.getD_eq_getElem?_getD, List.getElem?_map, eDome]
  simp [check, isDome, hh, hc1, hc2, hc3]
end Go.C02
