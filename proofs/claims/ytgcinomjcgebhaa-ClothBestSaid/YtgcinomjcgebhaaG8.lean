import Derived.Test.YtgcinomjcgebhaaG7
import Derived.Test.YtgcinomjcgebhaaG6
import Derived.Test.YtgcinomjcgebhaaG3
set_option linter.all false
set_option linter.unusedSimpArgs false
set_option linter.unusedVariables false
namespace Go.C02
open Go.Fam Go.Proofs
/-! The least cloth. -/
def turnS (d : Dome) (i : Nat) : List Span := d.rounds.reverse.take i ++ d.rounds.drop i
def turnW (d : Dome) (i : Nat) : List Int := d.widths.reverse.take i ++ d.widths.drop i
theorem turn_len {α : Type} (l : List α) {i : Nat} (h : i ≤ l.length) : (l.reverse.take i ++ l.drop i).length = l.length := by simp; omega
theorem turn_set {α : Type} {l : List α} {i : Nat} {x : α} (h : i < l.length) (hx : l.reverse[i]? = some x) : (l.reverse.take i ++ l.drop i).set i x = l.reverse.take (i + 1) ++ l.drop (i + 1) := by
  have h1 : (l.reverse.take i).length = i := by simp; omega
  rw [List.set_append_right _ _ (by omega), h1, Nat.sub_self, List.drop_eq_getElem_cons h, List.set_cons_zero, take_succ_of hx]
  simp
theorem spans_put {l : List Span} {j : Nat} {x : Span} (h : j < l.length) : List.take (j * 2) (l.map eSpan).flatten ++ eSpan x ++ List.drop (j * 2 + 2) (l.map eSpan).flatten = ((l.set j x).map eSpan).flatten := by
  induction l generalizing j with
  | nil => simp at h
  | cons y l ih =>
    cases j with
    | zero => simp [eSpan]
    | succ j =>
      have := ih (j := j) (by simpa using h)
      simp only [List.map_cons, List.flatten_cons, List.set_cons_succ]
      rw [← this]
      have e : (j + 1) * 2 = 2 + j * 2 := by omega
      have e2 : (j + 1) * 2 + 2 = 2 + (j * 2 + 2) := by omega
      rw [e2, e]
      have hl : (eSpan y).length = 2 := rfl
      rw [List.take_append, List.drop_append, hl]
      simp only [Nat.add_sub_cancel_left]
      rw [List.take_of_length_le (by rw [hl]; omega), List.drop_of_length_le (by rw [hl]; omega)]
      simp
set_option maxRecDepth 20000 in
set_option maxHeartbeats 8000000 in
theorem P12 (d : Dome) (ws : List Int) (m : Int) (hm : inI m) (hwl : inI ws.length) : PureCall Try.prog 12 [.ag (eDome d), .sl 1 (ws.map eI), .i m] (.b true) := by
  refine pure_body okB1 hmix Try.func12 cb12 cc12 cs12 cn12 ?_
  by_cases hr : ready d 0 = true
  · obtain ⟨hv, hc, hir, r1, r2⟩ := ready_of hr
    have hnb := hv.nb
    have hnr := hv.nr
    have hs := hv.slope
    have i1 : inI (500 - d.slope) := by unfold inI; omega
    by_cases h1 : (40 : Int) < ws.length
    · simp only [rc12, rs12, gB15, gB16, hr, h1, ru_reg, ru_seq, ru_cnd, ru_ret, ru_keep, thenQ, run_nil, run_cons, Fam.step, stepQ, needQ, condB, ug, evO, opv, qv, pickV_bb, binV, ldV, lenV, callV, V.cells, solid, hasRef, hasRefL, flat, upd_some, lkp_cons, lkp_nil, ↓reduceIte, Nat.reduceEqDiff, Nat.reduceAdd, Nat.reduceLT, Nat.reduceLeDiff, List.map_cons, List.map_nil, List.all_cons, List.all_nil, List.length_cons, List.length_nil, List.drop_succ_cons, List.drop_zero, List.take_succ_cons, List.take_nil, List.headD_cons, List.append_nil, endQ, rvs, rv1, resV, vw_i, vw_b, vw_sl, vw_ag, zipA, beq_self_eq_true, Nat.zero_add, Bool.and_self, Bool.and_true, Bool.or_false, Bool.not_true, Bool.false_eq_true, Bool.true_eq_false, decide_true, and_true, and_self, false_and, forall_const, implies_true, reduceCtorEq, beq_false, imp_self, List.length_map, domeE, eDome]
    by_cases h2 : m < 0
    · simp only [rc12, rs12, gB15, gB16, hr, h1, h2, ru_reg, ru_seq, ru_cnd, ru_ret, ru_keep, thenQ, run_nil, run_cons, Fam.step, stepQ, needQ, condB, ug, evO, opv, qv, pickV_bb, binV, ldV, lenV, callV, V.cells, solid, hasRef, hasRefL, flat, upd_some, lkp_cons, lkp_nil, ↓reduceIte, Nat.reduceEqDiff, Nat.reduceAdd, Nat.reduceLT, Nat.reduceLeDiff, List.map_cons, List.map_nil, List.all_cons, List.all_nil, List.length_cons, List.length_nil, List.drop_succ_cons, List.drop_zero, List.take_succ_cons, List.take_nil, List.headD_cons, List.append_nil, endQ, rvs, rv1, resV, vw_i, vw_b, vw_sl, vw_ag, zipA, beq_self_eq_true, Nat.zero_add, Bool.and_self, Bool.and_true, Bool.or_false, Bool.not_true, Bool.false_eq_true, Bool.true_eq_false, decide_true, decide_false, and_true, and_self, false_and, forall_const, implies_true, reduceCtorEq, beq_false, imp_self, List.length_map, domeE, eDome]
    by_cases h3 : 500 - d.slope < m
    · simp only [rc12, rs12, gB15, gB16, hr, h1, h2, h3, i1, ru_reg, ru_seq, ru_cnd, ru_ret, ru_keep, thenQ, run_nil, run_cons, Fam.step, stepQ, needQ, condB, ug, evO, opv, qv, pickV_bb, binV, ldV, lenV, callV, V.cells, solid, hasRef, hasRefL, flat, upd_some, lkp_cons, lkp_nil, ↓reduceIte, Nat.reduceEqDiff, Nat.reduceAdd, Nat.reduceLT, Nat.reduceLeDiff, List.map_cons, List.map_nil, List.all_cons, List.all_nil, List.length_cons, List.length_nil, List.drop_succ_cons, List.drop_zero, List.take_succ_cons, List.take_nil, List.headD_cons, List.append_nil, endQ, rvs, rv1, resV, vw_i, vw_b, vw_sl, vw_ag, zipA, beq_self_eq_true, Nat.zero_add, Bool.and_self, Bool.or_false, Bool.not_true, Bool.false_eq_true, decide_true, decide_false, and_self, forall_const, implies_true, reduceCtorEq, List.length_map, domeE, eDome]
    have h22 := hv.ok22
    have hbl : d.bolts.length < 1000 := by omega
    have i2 : inI (d.slope + m) := by unfold inI; omega
    have hsD : (⟨d.bolts, d.gores, d.loss, d.rounds, d.widths, d.slope + m⟩ : Dome) = slopeD d m := rfl
    have lb : leastR ⟨d.bolts, d.gores, d.loss, d.rounds.reverse, d.widths.reverse, d.slope⟩ = leastR d := least_back hc
    have hlv := least_vals hc
    have hmm : 0 ≤ m ∧ m ≤ 500 - d.slope := by omega
    have hws : d.widths.length = d.rounds.length := hv.nw
    obtain ⟨n, e, hne⟩ : ∃ n e, leastR d = (n, e) := ⟨_, _, rfl⟩
    obtain ⟨n', e', hne'⟩ : ∃ n e, leastR (slopeD d m) = (n, e) := ⟨_, _, rfl⟩
    have hsl : e = 0 → e' = 0 ∧ n' ≤ n := fun h => by
      have := least_slope hc hmm.1 hmm.2 (by rw [hne]; exact h)
      rw [hne, hne'] at this
      exact this
    have hev : e = 0 ∨ e = 3 := by rw [hne] at hlv; simp only at hlv; omega
    have hcurve : isCurve d ws = true → pitchE d true = 0 → e = 0 ∧ ws.length = d.rounds.length ∧ n ≤ sumI ws ws.length ∧ ∀ x ∈ ws, 0 ≤ x ∧ x ≤ 2000 := fun hcw hp => by
      obtain ⟨hg, _⟩ := pitchE_zero hp
      obtain ⟨f1, f2, f3, f4⟩ := isCurve_feas hg hcw
      have := least_of hp f2 f3
      rw [hne] at this
      have hsum := sumI_to ws ws.length (Nat.le_refl _)
      refine ⟨this.1, f1, ?_, f4⟩
      rw [hsum, f1]
      exact this.2.1
    have hst : stretchesR d 0 = if pitchE d true = 0 then (numbersOf (boltAt d 0), 0) else ([], 3) := by
      unfold stretchesR
      rw [bolt0 hv]
      rcases pitch_vals hc with hp | hp <;> rw [hp] <;> rfl
    have nb := hasRefL_flat (e := eBolt) (fun _ => rfl) d.bolts
    have hnum : pitchE d true = 0 → 0 < (numbersOf (boltAt d 0)).length := fun hp => by
      obtain ⟨hg, _⟩ := pitchE_zero hp
      exact List.length_pos_iff.2 (good_mem hg (i := 0) (by omega))
    have e3 : pitchE d true = 3 → e = 3 := fun hp => by
      rcases hev with h | h
      · have := (least_is (d := d) (by rw [hne]; exact h)).1
        omega
      · exact h
    rcases pitch_vals hc with hp | hp
    · have hst' : stretchesR d 0 = (numbersOf (boltAt d 0), 0) := by rw [hst, if_pos hp]
      have hpos := hnum hp
      have hpos' : (0 : Int) < (numbersOf (boltAt d 0)).length := by omega
      cases hcw : isCurve d ws with
      | false =>
        rcases hev with he | he
        · simp only [rc12, rs12, gB15, gB31, gB34, gB36, hr, h1, h2, h3, i1, hbl, hne, he, eNE, eLE, hst', hpos', hv, hcw, ru_skip, ru_reg, ru_seq, ru_cnd, ru_keep, thenQ, run_nil, run_cons, Fam.step, stepQ, needQ, condB, ug, evO, opv, qv, pickV_bb, binV, ldV, lenV, callV, V.cells, solid, hasRef, hasRefL, flat, flatL, upd_some, lkp_cons, lkp_nil, ↓reduceIte, Nat.reduceEqDiff, Nat.reduceAdd, Nat.reduceLT, Nat.reduceLeDiff, Int.reduceEq, List.map_cons, List.map_nil, List.all_cons, List.all_nil, List.length_cons, List.length_nil, List.drop_succ_cons, List.drop_zero, List.take_succ_cons, List.take_nil, List.headD_cons, List.append_nil, List.getElem?_cons_zero, List.getElem?_cons_succ, Option.getD_some, vw_i, vw_sl, vw_ag, zipA, beq_self_eq_true, Nat.zero_add, Bool.and_self, Bool.and_true, Bool.or_false, Bool.not_true, Bool.not_false, Bool.false_eq_true, Bool.true_eq_false, decide_true, decide_false, true_and, and_true, and_self, forall_const, implies_true, reduceCtorEq, beq_true, imp_self, List.length_map, domeE, eDome]
          simp only [gB22, gB22o, h22, copyV, copyHp, copyCs, hole_vb, shL_noref _ _ nb, shL_noref _ _ (noref_I _), shL_noref _ _ (noref_S _), i2, ru_reg, ru_any, ru_seq, ru_block, ru_keep, effO, holesB, setsL, putBs, optL, upTo, rids, ridsL, rflat, rflatL, rflatB, shV, shL, shB, vB_cells, putB, thenQ, run_nil, run_cons, Fam.step, stepQ, stepW, needW, runX, eff, nextD, fpR, fpQ, fpV, disjB, hits, putB, nv, sv, evO, opv, qv, binV, ldV, curG, callV, putAt, V.cells, solid, cellOk, hasRef, hasRefL, flat, flatL, upd_some, upd_none, lkp_cons, lkp_nil, ↓reduceIte, Nat.reduceEqDiff, Nat.reduceAdd, Nat.reduceLT, Nat.reduceLeDiff, Nat.reduceBEq, List.map_cons, List.map_nil, List.all_cons, List.all_nil, List.length_cons, List.length_nil, List.drop_succ_cons, List.drop_zero, List.drop_nil, List.take_succ_cons, List.take_zero, List.take_nil, List.headD_cons, List.cons_append, List.nil_append, List.append_nil, List.getElem?_cons_zero, List.getElem?_cons_succ, List.getElem?_nil, Option.getD_some, Option.getD_none, List.set_cons_zero, List.set_cons_succ, List.replicate_zero, List.replicate_succ, List.isEmpty_nil, List.isEmpty_cons, vw_i, vw_sl, vw_ag, beq_self_eq_true, Nat.zero_add, Nat.add_zero, Bool.and_self, Bool.and_true, Bool.true_and, Bool.false_and, Bool.and_false, Bool.or_false, Bool.false_or, Bool.not_true, Bool.not_false, Bool.false_eq_true, true_and, and_self, List.any_cons, List.any_nil, List.contains_cons, List.contains_nil, imp_self, List.getD_eq_getElem?_getD, domeE, eDome]
          refine ru_count d.rounds.length (fun i => ⟨lkp [(3, .pa (eDome d)), (7, .i n), (8, .i e), (13, .ad 9 0 0), (14, .ad 10 0 0), (15, .i i)],
            [.cells 0 (copyCs d), .cells 0 (copyCs d), .cells 1 (d.bolts.map eBolt).flatten, .cells 1 (d.gores.map eI).flatten, .hole, .cells 1 ((turnS d i).map eSpan).flatten, .hole, .cells 1 ((turnW d i).map eI).flatten, .hole,
              .cells 0 [.sl 4 (d.bolts.map eBolt), .sl 1 (d.gores.map eI), .i d.loss, .sl 2 (d.rounds.map eSpan), .sl 1 (d.widths.map eI), .i (d.slope + m)], .cells 0 (copyCs d)]⟩) ?_ ?_ ?_
          · simp only [he, copyCs, Int.natCast_zero, turnS, turnW, kp, lkp_cons, lkp_nil, ↓reduceIte, Nat.reduceEqDiff, List.map_cons, List.map_nil, List.drop_zero, List.take_zero, List.nil_append, eDome]
          · intro i hi
            have hlt : (i : Int) < d.rounds.length := by omega
            have i3 : inI ((i : Int) + 1) := by unfold inI; omega
            have j1 : inI ((d.rounds.length : Int) - 1) := by unfold inI; omega
            have j2 : inI ((d.rounds.length : Int) - 1 - i) := by unfold inI; omega
            have j3 : (0 : Int) ≤ (d.rounds.length : Int) - 1 - i := by omega
            have j4 : (d.rounds.length : Int) - 1 - i < d.rounds.length := by omega
            have j5 : (d.rounds.length : Int) - 1 - i < d.widths.length := by omega
            have j6 : (i : Int) < d.widths.length := by omega
            have j7 : ((d.rounds.length : Int) - 1 - i).toNat = d.rounds.length - 1 - i := by omega
            obtain ⟨x, hx⟩ : ∃ x, d.rounds[d.rounds.length - 1 - i]? = some x := ⟨_, List.getElem?_eq_getElem (by omega)⟩
            obtain ⟨y, hy⟩ : ∃ y, d.widths[d.rounds.length - 1 - i]? = some y := ⟨_, List.getElem?_eq_getElem (by omega)⟩
            have hx' : d.rounds.reverse[i]? = some x := by rw [List.getElem?_reverse hi]; exact hx
            have hy' : d.widths.reverse[i]? = some y := by rw [List.getElem?_reverse (by omega), hws]; exact hy
            have l1 : (turnS d i).length = d.rounds.length := turn_len _ (by omega)
            have l2 : (turnW d i).length = d.widths.length := turn_len _ (by omega)
            have p1 : List.take (i * 2) ((turnS d i).map eSpan).flatten ++ [V.i x.low, V.i x.high] ++ List.drop (i * 2 + 2) ((turnS d i).map eSpan).flatten = ((turnS d (i + 1)).map eSpan).flatten := by
              have := spans_put (l := turnS d i) (j := i) (x := x) (by omega)
              rw [turnS, turn_set hi hx'] at this
              exact this
            have p2 : List.take i ((turnW d i).map eI).flatten ++ [V.i y] ++ List.drop (i + 1) ((turnW d i).map eI).flatten = ((turnW d (i + 1)).map eI).flatten := by
              have := put_I (l := turnW d i) (k := i) (x := y) (by omega)
              rw [turnW, turn_set (by omega) hy'] at this
              exact this
            have q1 : i * 2 + 2 ≤ d.rounds.length * 2 := by omega
            have q2 : i + 1 ≤ d.widths.length := by omega
            simp only [he, copyCs, hlt, i3, j1, j2, j3, j4, j5, j6, j7, hx, hy, len_I, len_S, l1, l2, p1, p2, q1, q2, Nat.mul_one, Int.natCast_add, Int.natCast_one, ru_skip, ru_reg, ru_any, ru_seq, ru_cnd, ru_block, ru_keep, putBs, optL, thenQ, blockQ, run_nil, run_cons, Fam.step, stepQ, needW, runX, eff, nextD, fpR, fpQ, fpV, disjB, hits, nv, sv, evO, opv, qv, binV, ldV, iadV, lenV, curG, putAt, V.cells, solid, cellOk, kp, upd_some, upd_none, lkp_cons, lkp_nil, ↓reduceIte, Nat.reduceEqDiff, Nat.reduceAdd, Nat.reduceLeDiff, Nat.reduceBEq, List.map_cons, List.map_nil, List.all_cons, List.all_nil, List.length_cons, List.length_nil, List.drop_succ_cons, List.drop_zero, List.take_succ_cons, List.take_nil, List.headD_cons, List.cons_append, List.nil_append, List.append_nil, List.getElem?_cons_zero, List.getElem?_cons_succ, List.getElem?_nil, Option.getD_some, Option.getD_none, List.set_cons_zero, List.set_cons_succ, List.replicate_zero, List.isEmpty_nil, List.isEmpty_cons, Int.natCast_nonneg, beq_self_eq_true, Nat.zero_add, Bool.and_self, Bool.and_true, Bool.true_and, Bool.false_and, Bool.or_false, Bool.false_or, Bool.not_true, Bool.not_false, Bool.false_eq_true, decide_true, and_self, Option.map_some, List.any_cons, List.any_nil, List.contains_cons, List.contains_nil, List.length_map, Int.toNat_natCast, List.getD_eq_getElem?_getD, List.getElem?_map, eSpan, eDome, eI]
          · have hgt : ¬ ((d.rounds.length : Int) < d.rounds.length) := by omega
            have t1 : turnS d d.rounds.length = d.rounds.reverse := by unfold turnS; rw [List.drop_length, List.append_nil, List.take_of_length_le (by simp)]
            have t2 : turnW d d.rounds.length = d.widths.reverse := by unfold turnW; rw [← hws, List.drop_length, List.append_nil, List.take_of_length_le (by simp)]
            have c1 := chunk_I d.widths.reverse
            rw [List.length_reverse] at c1
            have c2 := chunk_flat (e := eSpan) (k := 2) (fun _ => rfl) d.rounds.reverse
            rw [List.length_reverse] at c2
            first
            | simp only [he, copyCs, hgt, t1, t2, c1, c2, gB31, gB16, hsD, hne', lb, hne, eNE, flat_len (e := eBolt) (k := 4) (fun _ => rfl), len_I, len_S, List.length_reverse, chunk_I, chunk_flat (e := eBolt) (k := 4) (fun _ => rfl), vw_I, vw_S, vw_B, Nat.mul_one, Nat.le_refl, (hsl he).1, (hsl he).2, ru_reg, ru_seq, ru_cnd, ru_exit, ru_ret, ru_keep, thenQ, blockQ, run_nil, run_cons, Fam.step, stepQ, needQ, condB, ug, evO, opv, qv, pickV_bb, binV, ldV, lenV, callV, hasRef, hasRefL, flat, flatL, upd_some, lkp_cons, lkp_nil, ↓reduceIte, Nat.reduceEqDiff, Nat.reduceAdd, Nat.reduceLT, Nat.reduceLeDiff, List.map_cons, List.map_nil, List.all_cons, List.all_nil, List.length_cons, List.length_nil, List.drop_succ_cons, List.drop_zero, List.take_succ_cons, List.take_nil, List.headD_cons, List.append_nil, List.getElem?_cons_zero, List.getElem?_cons_succ, Option.getD_some, endQ, rvs, rv1, resV, vw_i, vw_b, vw_sl, vw_ag, vw_rf, beq_self_eq_true, Nat.zero_add, Bool.and_self, Bool.or_false, Bool.or_true, Bool.not_true, Bool.false_eq_true, Bool.true_eq_false, decide_true, decide_false, and_self, forall_const, implies_true, List.length_map, eDome]
            | simp only [he, copyCs, hgt, t1, t2, c1, c2, gB31, gB16, hsD, hne', lb, hne, eNE, flat_len (e := eBolt) (k := 4) (fun _ => rfl), len_I, len_S, List.length_reverse, chunk_I, chunk_flat (e := eBolt) (k := 4) (fun _ => rfl), vw_I, vw_S, vw_B, Nat.mul_one, Nat.le_refl, ru_skip, ru_reg, ru_any, ru_seq, ru_cnd, ite_P, ru_block, ru_exit, ru_ret, ru_keep, ru_drp, ru_own, ru_ownc, ru_swp, ru_nxt, ru_yrg, ru_crl, chunk1, ↓cut_lkp, ↓ren_lkp, rnQ, rndQ, updL, sfree, yres, slots, ghO, stepO, ocV, effO, nidQ, plO, plQ, plB, setBs, holesB, setsL, killL, putBs, optL, upTo, rids, ridsL, leafB, killB, kill1, List.foldl_cons, List.foldl_nil, rflat, rflatL, rflatB, shV, shL, shB, vB_cells, vB_map, swH, sw, renV, renL, renB, cutH, putB, lkpV, keyL, entV, mlenV, keyV, keyFits, endO, endK, endI, thenQ, blockQ, run_nil, run_cons, step_q, Fam.step, stepQ, stepW, needQ, needW, condB, ug, runX, eff_q, eff, nextD, fpR, fpQ, fpV, disjB, hits, putB, nv, sv, newsV, evO, opv, qv, pickV_bb, pickV_t, pickV_f, binV, ldV, iadV, lenV, curG, slcV, intOr, callV, foldParts, putAt, partsOk, partsOne, V.cells, solid, cellOk, intsOf, hasRef, hasRefL, flat, flatL, kp, cutV, cutL, cutB, upd_some, upd_none, lkp_cons, lkp_nil, ↓reduceIte, Nat.reduceEqDiff, Nat.reduceAdd, Nat.reduceSub, Nat.reduceMul, Nat.reduceLT, Nat.reduceLeDiff, Nat.reduceBEq, Int.reduceNeg, Int.reduceToNat, Int.add_sub_cancel, Int.toNat_zero, Int.reduceLT, Int.reduceLE, Int.reduceAdd, Int.reduceSub, Int.reduceMul, Int.reduceEq, List.map_cons, List.map_nil, List.all_cons, List.all_nil, List.length_cons, List.length_nil, List.drop_succ_cons, List.drop_zero, List.drop_nil, List.take_succ_cons, List.take_zero, List.take_nil, List.headD_cons, List.headD_nil, List.cons_append, List.nil_append, List.append_nil, List.getElem?_cons_zero, List.getElem?_cons_succ, List.getElem?_nil, Option.getD_some, Option.getD_none, List.set_cons_zero, List.set_cons_succ, List.set_nil, List.replicate_zero, List.replicate_succ, List.getD_cons_zero, List.getD_cons_succ, List.isEmpty_nil, List.isEmpty_cons, endQ, rvs, rv1, resV, vw_i, vw_b, vw_u, vw_pn, vw_z, vw_sl, vw_pa, vw_ag, vw_tp, vw_fn, vw_ad, vw_rf, zipA, Int.lt_irrefl, Int.natCast_nonneg, beq_self_eq_true, Nat.zero_add, Nat.add_zero, Option.some.injEq, V.i.injEq, V.b.injEq, Bool.and_self, Bool.and_true, Bool.true_and, Bool.false_and, Bool.and_false, Bool.or_false, Bool.false_or, Bool.or_true, Bool.true_or, Bool.not_true, Bool.not_false, Bool.false_eq_true, Bool.true_eq_false, decide_true, decide_false, decide_eq_true_eq, decide_eq_false_iff_not, true_and, and_true, and_self, false_and, and_false, forall_const, false_implies, true_implies, implies_true, reduceCtorEq, ite_true, ite_false, not_true_eq_false, not_false_eq_true, ne_eq, Option.map_some, Option.map_none, List.any_cons, List.any_nil, List.contains_cons, List.contains_nil, beq_true, beq_false, Bool.not_not, Bool.not_eq_false', Bool.not_eq_true', ite_f, ite_t, Bool.decide_eq_true, Bool.decide_eq_false, Bool.xor_self, imp_self, List.length_map, Int.toNat_natCast, List.getD_eq_getElem?_getD, List.getElem?_map, Bool.not_eq_true, Bool.not_eq_false, Classical.not_not, List.length_replicate, spanE, boltE, stripE, domeE, tentE, eSpan, eStrip, eBolt, eDome, eI, eIs, eCan, eTent]
        · simp only [rc12, rs12, gB15, gB31, gB34, gB36, hr, h1, h2, h3, i1, hbl, hne, he, eNE, eLE, hst', hpos', hv, hcw, ru_skip, ru_reg, ru_seq, ru_cnd, ru_keep, thenQ, run_nil, run_cons, Fam.step, stepQ, needQ, condB, ug, evO, opv, qv, pickV_bb, binV, ldV, lenV, callV, V.cells, solid, hasRef, hasRefL, flat, flatL, upd_some, lkp_cons, lkp_nil, ↓reduceIte, Nat.reduceEqDiff, Nat.reduceAdd, Nat.reduceLT, Nat.reduceLeDiff, Int.reduceEq, List.map_cons, List.map_nil, List.all_cons, List.all_nil, List.length_cons, List.length_nil, List.drop_succ_cons, List.drop_zero, List.take_succ_cons, List.take_nil, List.headD_cons, List.append_nil, List.getElem?_cons_zero, List.getElem?_cons_succ, Option.getD_some, vw_i, vw_sl, vw_ag, zipA, beq_self_eq_true, Nat.zero_add, Bool.and_self, Bool.and_true, Bool.or_false, Bool.not_true, Bool.not_false, Bool.false_eq_true, Bool.true_eq_false, decide_true, decide_false, true_and, and_self, forall_const, implies_true, reduceCtorEq, imp_self, List.length_map, domeE, eDome]
          simp only [gB22, gB22o, h22, copyV, copyHp, copyCs, hole_vb, shL_noref _ _ nb, shL_noref _ _ (noref_I _), shL_noref _ _ (noref_S _), i2, ru_reg, ru_any, ru_seq, ru_block, ru_keep, effO, holesB, setsL, putBs, optL, upTo, rids, ridsL, rflat, rflatL, rflatB, shV, shL, shB, vB_cells, putB, thenQ, run_nil, run_cons, Fam.step, stepQ, stepW, needW, runX, eff, nextD, fpR, fpQ, fpV, disjB, hits, putB, nv, sv, evO, opv, qv, binV, ldV, curG, callV, putAt, V.cells, solid, cellOk, hasRef, hasRefL, flat, flatL, upd_some, upd_none, lkp_cons, lkp_nil, ↓reduceIte, Nat.reduceEqDiff, Nat.reduceAdd, Nat.reduceLT, Nat.reduceLeDiff, Nat.reduceBEq, List.map_cons, List.map_nil, List.all_cons, List.all_nil, List.length_cons, List.length_nil, List.drop_succ_cons, List.drop_zero, List.drop_nil, List.take_succ_cons, List.take_zero, List.take_nil, List.headD_cons, List.cons_append, List.nil_append, List.append_nil, List.getElem?_cons_zero, List.getElem?_cons_succ, List.getElem?_nil, Option.getD_some, Option.getD_none, List.set_cons_zero, List.set_cons_succ, List.replicate_zero, List.replicate_succ, List.isEmpty_nil, List.isEmpty_cons, vw_i, vw_sl, vw_ag, beq_self_eq_true, Nat.zero_add, Nat.add_zero, Bool.and_self, Bool.and_true, Bool.true_and, Bool.false_and, Bool.and_false, Bool.or_false, Bool.false_or, Bool.not_true, Bool.not_false, Bool.false_eq_true, true_and, and_self, List.any_cons, List.any_nil, List.contains_cons, List.contains_nil, imp_self, List.getD_eq_getElem?_getD, domeE, eDome]
          refine ru_count d.rounds.length (fun i => ⟨lkp [(3, .pa (eDome d)), (7, .i n), (8, .i e), (13, .ad 9 0 0), (14, .ad 10 0 0), (15, .i i)],
            [.cells 0 (copyCs d), .cells 0 (copyCs d), .cells 1 (d.bolts.map eBolt).flatten, .cells 1 (d.gores.map eI).flatten, .hole, .cells 1 ((turnS d i).map eSpan).flatten, .hole, .cells 1 ((turnW d i).map eI).flatten, .hole,
              .cells 0 [.sl 4 (d.bolts.map eBolt), .sl 1 (d.gores.map eI), .i d.loss, .sl 2 (d.rounds.map eSpan), .sl 1 (d.widths.map eI), .i (d.slope + m)], .cells 0 (copyCs d)]⟩) ?_ ?_ ?_
          · simp only [he, copyCs, Int.natCast_zero, turnS, turnW, kp, lkp_cons, lkp_nil, ↓reduceIte, Nat.reduceEqDiff, List.map_cons, List.map_nil, List.drop_zero, List.take_zero, List.nil_append, eDome]
          · intro i hi
            have hlt : (i : Int) < d.rounds.length := by omega
            have i3 : inI ((i : Int) + 1) := by unfold inI; omega
            have j1 : inI ((d.rounds.length : Int) - 1) := by unfold inI; omega
            have j2 : inI ((d.rounds.length : Int) - 1 - i) := by unfold inI; omega
            have j3 : (0 : Int) ≤ (d.rounds.length : Int) - 1 - i := by omega
            have j4 : (d.rounds.length : Int) - 1 - i < d.rounds.length := by omega
            have j5 : (d.rounds.length : Int) - 1 - i < d.widths.length := by omega
            have j6 : (i : Int) < d.widths.length := by omega
            have j7 : ((d.rounds.length : Int) - 1 - i).toNat = d.rounds.length - 1 - i := by omega
            obtain ⟨x, hx⟩ : ∃ x, d.rounds[d.rounds.length - 1 - i]? = some x := ⟨_, List.getElem?_eq_getElem (by omega)⟩
            obtain ⟨y, hy⟩ : ∃ y, d.widths[d.rounds.length - 1 - i]? = some y := ⟨_, List.getElem?_eq_getElem (by omega)⟩
            have hx' : d.rounds.reverse[i]? = some x := by rw [List.getElem?_reverse hi]; exact hx
            have hy' : d.widths.reverse[i]? = some y := by rw [List.getElem?_reverse (by omega), hws]; exact hy
            have l1 : (turnS d i).length = d.rounds.length := turn_len _ (by omega)
            have l2 : (turnW d i).length = d.widths.length := turn_len _ (by omega)
            have p1 : List.take (i * 2) ((turnS d i).map eSpan).flatten ++ [V.i x.low, V.i x.high] ++ List.drop (i * 2 + 2) ((turnS d i).map eSpan).flatten = ((turnS d (i + 1)).map eSpan).flatten := by
              have := spans_put (l := turnS d i) (j := i) (x := x) (by omega)
              rw [turnS, turn_set hi hx'] at this
              exact this
            have p2 : List.take i ((turnW d i).map eI).flatten ++ [V.i y] ++ List.drop (i + 1) ((turnW d i).map eI).flatten = ((turnW d (i + 1)).map eI).flatten := by
              have := put_I (l := turnW d i) (k := i) (x := y) (by omega)
              rw [turnW, turn_set (by omega) hy'] at this
              exact this
            have q1 : i * 2 + 2 ≤ d.rounds.length * 2 := by omega
            have q2 : i + 1 ≤ d.widths.length := by omega
            simp only [he, copyCs, hlt, i3, j1, j2, j3, j4, j5, j6, j7, hx, hy, len_I, len_S, l1, l2, p1, p2, q1, q2, Nat.mul_one, Int.natCast_add, Int.natCast_one, ru_skip, ru_reg, ru_any, ru_seq, ru_cnd, ru_block, ru_keep, putBs, optL, thenQ, blockQ, run_nil, run_cons, Fam.step, stepQ, needW, runX, eff, nextD, fpR, fpQ, fpV, disjB, hits, nv, sv, evO, opv, qv, binV, ldV, iadV, lenV, curG, putAt, V.cells, solid, cellOk, kp, upd_some, upd_none, lkp_cons, lkp_nil, ↓reduceIte, Nat.reduceEqDiff, Nat.reduceAdd, Nat.reduceLeDiff, Nat.reduceBEq, List.map_cons, List.map_nil, List.all_cons, List.all_nil, List.length_cons, List.length_nil, List.drop_succ_cons, List.drop_zero, List.take_succ_cons, List.take_nil, List.headD_cons, List.cons_append, List.nil_append, List.append_nil, List.getElem?_cons_zero, List.getElem?_cons_succ, List.getElem?_nil, Option.getD_some, Option.getD_none, List.set_cons_zero, List.set_cons_succ, List.replicate_zero, List.isEmpty_nil, List.isEmpty_cons, Int.natCast_nonneg, beq_self_eq_true, Nat.zero_add, Bool.and_self, Bool.and_true, Bool.true_and, Bool.false_and, Bool.or_false, Bool.false_or, Bool.not_true, Bool.not_false, Bool.false_eq_true, decide_true, and_self, Option.map_some, List.any_cons, List.any_nil, List.contains_cons, List.contains_nil, List.length_map, Int.toNat_natCast, List.getD_eq_getElem?_getD, List.getElem?_map, eSpan, eDome, eI]
          · have hgt : ¬ ((d.rounds.length : Int) < d.rounds.length) := by omega
            have t1 : turnS d d.rounds.length = d.rounds.reverse := by unfold turnS; rw [List.drop_length, List.append_nil, List.take_of_length_le (by simp)]
            have t2 : turnW d d.rounds.length = d.widths.reverse := by unfold turnW; rw [← hws, List.drop_length, List.append_nil, List.take_of_length_le (by simp)]
            have c1 := chunk_I d.widths.reverse
            rw [List.length_reverse] at c1
            have c2 := chunk_flat (e := eSpan) (k := 2) (fun _ => rfl) d.rounds.reverse
            rw [List.length_reverse] at c2
            first
            | simp only [he, copyCs, hgt, t1, t2, c1, c2, gB31, gB16, hsD, hne', lb, hne, eNE, flat_len (e := eBolt) (k := 4) (fun _ => rfl), len_I, len_S, List.length_reverse, chunk_I, chunk_flat (e := eBolt) (k := 4) (fun _ => rfl), vw_I, vw_S, vw_B, Nat.mul_one, Nat.le_refl, (hsl he).1, (hsl he).2, ru_skip, ru_reg, ru_any, ru_seq, ru_cnd, ite_P, ru_block, ru_exit, ru_ret, ru_keep, ru_drp, ru_own, ru_ownc, ru_swp, ru_nxt, ru_yrg, ru_crl, chunk1, ↓cut_lkp, ↓ren_lkp, rnQ, rndQ, updL, sfree, yres, slots, ghO, stepO, ocV, effO, nidQ, plO, plQ, plB, setBs, holesB, setsL, killL, putBs, optL, upTo, rids, ridsL, leafB, killB, kill1, List.foldl_cons, List.foldl_nil, rflat, rflatL, rflatB, shV, shL, shB, vB_cells, vB_map, swH, sw, renV, renL, renB, cutH, putB, lkpV, keyL, entV, mlenV, keyV, keyFits, endO, endK, endI, thenQ, blockQ, run_nil, run_cons, step_q, Fam.step, stepQ, stepW, needQ, needW, condB, ug, runX, eff_q, eff, nextD, fpR, fpQ, fpV, disjB, hits, putB, nv, sv, newsV, evO, opv, qv, pickV_bb, pickV_t, pickV_f, binV, ldV, iadV, lenV, curG, slcV, intOr, callV, foldParts, putAt, partsOk, partsOne, V.cells, solid, cellOk, intsOf, hasRef, hasRefL, flat, flatL, kp, cutV, cutL, cutB, upd_some, upd_none, lkp_cons, lkp_nil, ↓reduceIte, Nat.reduceEqDiff, Nat.reduceAdd, Nat.reduceSub, Nat.reduceMul, Nat.reduceLT, Nat.reduceLeDiff, Nat.reduceBEq, Int.reduceNeg, Int.reduceToNat, Int.add_sub_cancel, Int.toNat_zero, Int.reduceLT, Int.reduceLE, Int.reduceAdd, Int.reduceSub, Int.reduceMul, Int.reduceEq, List.map_cons, List.map_nil, List.all_cons, List.all_nil, List.length_cons, List.length_nil, List.drop_succ_cons, List.drop_zero, List.drop_nil, List.take_succ_cons, List.take_zero, List.take_nil, List.headD_cons, List.headD_nil, List.cons_append, List.nil_append, List.append_nil, List.getElem?_cons_zero, List.getElem?_cons_succ, List.getElem?_nil, Option.getD_some, Option.getD_none, List.set_cons_zero, List.set_cons_succ, List.set_nil, List.replicate_zero, List.replicate_succ, List.getD_cons_zero, List.getD_cons_succ, List.isEmpty_nil, List.isEmpty_cons, endQ, rvs, rv1, resV, vw_i, vw_b, vw_u, vw_pn, vw_z, vw_sl, vw_pa, vw_ag, vw_tp, vw_fn, vw_ad, vw_rf, zipA, Int.lt_irrefl, Int.natCast_nonneg, beq_self_eq_true, Nat.zero_add, Nat.add_zero, Option.some.injEq, V.i.injEq, V.b.injEq, Bool.and_self, Bool.and_true, Bool.true_and, Bool.false_and, Bool.and_false, Bool.or_false, Bool.false_or, Bool.or_true, Bool.true_or, Bool.not_true, Bool.not_false, Bool.false_eq_true, Bool.true_eq_false, decide_true, decide_false, decide_eq_true_eq, decide_eq_false_iff_not, true_and, and_true, and_self, false_and, and_false, forall_const, false_implies, true_implies, implies_true, reduceCtorEq, ite_true, ite_false, not_true_eq_false, not_false_eq_true, ne_eq, Option.map_some, Option.map_none, List.any_cons, List.any_nil, List.contains_cons, List.contains_nil, beq_true, beq_false, Bool.not_not, Bool.not_eq_false', Bool.not_eq_true', ite_f, ite_t, Bool.decide_eq_true, Bool.decide_eq_false, Bool.xor_self, imp_self, List.length_map, Int.toNat_natCast, List.getD_eq_getElem?_getD, List.getElem?_map, Bool.not_eq_true, Bool.not_eq_false, Classical.not_not, List.length_replicate, spanE, boltE, stripE, domeE, tentE, eSpan, eStrip, eBolt, eDome, eI, eIs, eCan, eTent]
            | simp only [he, copyCs, hgt, t1, t2, c1, c2, gB31, gB16, hsD, hne', lb, hne, eNE, flat_len (e := eBolt) (k := 4) (fun _ => rfl), len_I, len_S, List.length_reverse, chunk_I, chunk_flat (e := eBolt) (k := 4) (fun _ => rfl), vw_I, vw_S, vw_B, Nat.mul_one, Nat.le_refl, ru_reg, ru_seq, ru_cnd, ru_exit, ru_ret, ru_keep, thenQ, blockQ, run_nil, run_cons, Fam.step, stepQ, needQ, condB, ug, evO, opv, qv, pickV_bb, binV, ldV, lenV, callV, hasRef, hasRefL, flat, flatL, upd_some, lkp_cons, lkp_nil, ↓reduceIte, Nat.reduceEqDiff, Nat.reduceAdd, Nat.reduceLT, Nat.reduceLeDiff, Int.reduceEq, List.map_cons, List.map_nil, List.all_cons, List.all_nil, List.length_cons, List.length_nil, List.drop_succ_cons, List.drop_zero, List.take_succ_cons, List.take_nil, List.headD_cons, List.append_nil, List.getElem?_cons_zero, List.getElem?_cons_succ, Option.getD_some, endQ, rvs, rv1, resV, vw_i, vw_b, vw_sl, vw_ag, vw_rf, beq_self_eq_true, Nat.zero_add, Bool.and_self, Bool.and_true, Bool.false_and, Bool.or_false, Bool.or_true, Bool.not_true, Bool.not_false, Bool.false_eq_true, Bool.true_eq_false, decide_true, decide_false, decide_eq_true_eq, decide_eq_false_iff_not, and_true, and_self, false_and, forall_const, implies_true, beq_true, beq_false, ite_f, imp_self, List.length_map, eDome]
      | true =>
        obtain ⟨he, c1, c2, c3⟩ := hcurve hcw hp
        simp only [rc12, rs12, gB15, gB31, gB34, gB36, hr, h1, h2, h3, i1, hbl, hne, he, eNE, eLE, hst', hpos', hv, hcw, ru_skip, ru_reg, ru_seq, ru_cnd, ru_block, ru_keep, thenQ, run_nil, run_cons, Fam.step, stepQ, needQ, condB, ug, evO, opv, qv, pickV_bb, binV, ldV, lenV, callV, V.cells, solid, hasRef, hasRefL, flat, flatL, upd_some, lkp_cons, lkp_nil, ↓reduceIte, Nat.reduceEqDiff, Nat.reduceAdd, Nat.reduceLT, Nat.reduceLeDiff, Int.reduceEq, List.map_cons, List.map_nil, List.all_cons, List.all_nil, List.length_cons, List.length_nil, List.drop_succ_cons, List.drop_zero, List.take_succ_cons, List.take_nil, List.headD_cons, List.append_nil, List.getElem?_cons_zero, List.getElem?_cons_succ, Option.getD_some, vw_i, vw_sl, vw_ag, zipA, beq_self_eq_true, Nat.zero_add, Bool.and_self, Bool.and_true, Bool.or_false, Bool.not_true, Bool.not_false, Bool.false_eq_true, Bool.true_eq_false, decide_true, decide_false, true_and, and_true, and_self, forall_const, implies_true, reduceCtorEq, beq_true, imp_self, List.length_map, domeE, eDome]
        refine ru_count ws.length (fun i => ⟨lkp [(1, .sl 1 (ws.map eI)), (2, .i m), (3, .pa (eDome d)), (7, .i n), (8, .i e), (11, .i (sumI ws i)), (12, .i i)], []⟩) ?_ ?_ ?_
        · simp only [he, Int.natCast_zero, sumI, List.sum_nil, kp, lkp_cons, lkp_nil, ↓reduceIte, Nat.reduceEqDiff, List.map_cons, List.map_nil, List.take_zero, eDome]
        · intro i hi
          obtain ⟨x, hx⟩ : ∃ x, ws[i]? = some x := ⟨_, List.getElem?_eq_getElem hi⟩
          have hlt : (i : Int) < ws.length := by omega
          have i3 : inI ((i : Int) + 1) := by unfold inI; omega
          have hxr := c3 x (List.mem_of_getElem? hx)
          have hsr := sumI_in (M := 2000) (by decide) c3 i
          have i4 : inI (sumI ws i + x) := by unfold inI; omega
          simp only [he, hx, hlt, i3, i4, sumI_succ hx, Int.natCast_add, Int.natCast_one, ru_skip, ru_reg, ru_seq, ru_cnd, ru_block, ru_keep, thenQ, blockQ, run_nil, run_cons, Fam.step, stepQ, evO, opv, qv, binV, ldV, iadV, lenV, kp, upd_some, lkp_cons, lkp_nil, ↓reduceIte, Nat.reduceEqDiff, Nat.reduceLeDiff, List.map_cons, List.map_nil, List.length_cons, List.length_nil, List.headD_cons, Option.getD_some, Int.natCast_nonneg, Nat.zero_add, Bool.false_eq_true, decide_true, and_self, Option.map_some, List.length_map, Int.toNat_natCast, List.getD_eq_getElem?_getD, List.getElem?_map, eDome, eI]
        · have hgt : ¬ ((ws.length : Int) < ws.length) := by omega
          have hns : ¬ sumI ws ws.length < n := by omega
          simp only [hgt, hns, he, ru_skip, ru_reg, ru_seq, ru_cnd, ru_exit, ru_keep, thenQ, blockQ, run_nil, run_cons, Fam.step, stepQ, needQ, condB, ug, evO, opv, qv, pickV_bb, binV, lenV, upd_some, lkp_cons, lkp_nil, ↓reduceIte, Nat.reduceEqDiff, List.map_cons, List.map_nil, List.all_cons, List.all_nil, beq_self_eq_true, Bool.and_self, Bool.not_true, Bool.false_eq_true, decide_true, decide_false, true_and, and_self, forall_const, implies_true, List.length_map, eDome]
          simp only [gB22, gB22o, h22, copyV, copyHp, copyCs, hole_vb, shL_noref _ _ nb, shL_noref _ _ (noref_I _), shL_noref _ _ (noref_S _), i2, ru_reg, ru_any, ru_seq, ru_block, ru_keep, effO, holesB, setsL, putBs, optL, upTo, rids, ridsL, rflat, rflatL, rflatB, shV, shL, shB, vB_cells, putB, thenQ, run_nil, run_cons, Fam.step, stepQ, stepW, needW, runX, eff, nextD, fpR, fpQ, fpV, disjB, hits, putB, nv, sv, evO, opv, qv, binV, ldV, curG, callV, putAt, V.cells, solid, cellOk, hasRef, hasRefL, flat, flatL, upd_some, upd_none, lkp_cons, lkp_nil, ↓reduceIte, Nat.reduceEqDiff, Nat.reduceAdd, Nat.reduceLT, Nat.reduceLeDiff, Nat.reduceBEq, List.map_cons, List.map_nil, List.all_cons, List.all_nil, List.length_cons, List.length_nil, List.drop_succ_cons, List.drop_zero, List.drop_nil, List.take_succ_cons, List.take_zero, List.take_nil, List.headD_cons, List.cons_append, List.nil_append, List.append_nil, List.getElem?_cons_zero, List.getElem?_cons_succ, List.getElem?_nil, Option.getD_some, Option.getD_none, List.set_cons_zero, List.set_cons_succ, List.replicate_zero, List.replicate_succ, List.isEmpty_nil, List.isEmpty_cons, vw_i, vw_sl, vw_ag, beq_self_eq_true, Nat.zero_add, Nat.add_zero, Bool.and_self, Bool.and_true, Bool.true_and, Bool.false_and, Bool.and_false, Bool.or_false, Bool.false_or, Bool.not_true, Bool.not_false, Bool.false_eq_true, true_and, and_self, List.any_cons, List.any_nil, List.contains_cons, List.contains_nil, imp_self, List.getD_eq_getElem?_getD, domeE, eDome]
          refine ru_count d.rounds.length (fun i => ⟨lkp [(3, .pa (eDome d)), (7, .i n), (8, .i e), (13, .ad 9 0 0), (14, .ad 10 0 0), (15, .i i)],
            [.cells 0 (copyCs d), .cells 0 (copyCs d), .cells 1 (d.bolts.map eBolt).flatten, .cells 1 (d.gores.map eI).flatten, .hole, .cells 1 ((turnS d i).map eSpan).flatten, .hole, .cells 1 ((turnW d i).map eI).flatten, .hole,
              .cells 0 [.sl 4 (d.bolts.map eBolt), .sl 1 (d.gores.map eI), .i d.loss, .sl 2 (d.rounds.map eSpan), .sl 1 (d.widths.map eI), .i (d.slope + m)], .cells 0 (copyCs d)]⟩) ?_ ?_ ?_
          · simp only [he, copyCs, Int.natCast_zero, turnS, turnW, kp, lkp_cons, lkp_nil, ↓reduceIte, Nat.reduceEqDiff, List.map_cons, List.map_nil, List.drop_zero, List.take_zero, List.nil_append, eDome]
          · intro i hi
            have hlt : (i : Int) < d.rounds.length := by omega
            have i3 : inI ((i : Int) + 1) := by unfold inI; omega
            have j1 : inI ((d.rounds.length : Int) - 1) := by unfold inI; omega
            have j2 : inI ((d.rounds.length : Int) - 1 - i) := by unfold inI; omega
            have j3 : (0 : Int) ≤ (d.rounds.length : Int) - 1 - i := by omega
            have j4 : (d.rounds.length : Int) - 1 - i < d.rounds.length := by omega
            have j5 : (d.rounds.length : Int) - 1 - i < d.widths.length := by omega
            have j6 : (i : Int) < d.widths.length := by omega
            have j7 : ((d.rounds.length : Int) - 1 - i).toNat = d.rounds.length - 1 - i := by omega
            obtain ⟨x, hx⟩ : ∃ x, d.rounds[d.rounds.length - 1 - i]? = some x := ⟨_, List.getElem?_eq_getElem (by omega)⟩
            obtain ⟨y, hy⟩ : ∃ y, d.widths[d.rounds.length - 1 - i]? = some y := ⟨_, List.getElem?_eq_getElem (by omega)⟩
            have hx' : d.rounds.reverse[i]? = some x := by rw [List.getElem?_reverse hi]; exact hx
            have hy' : d.widths.reverse[i]? = some y := by rw [List.getElem?_reverse (by omega), hws]; exact hy
            have l1 : (turnS d i).length = d.rounds.length := turn_len _ (by omega)
            have l2 : (turnW d i).length = d.widths.length := turn_len _ (by omega)
            have p1 : List.take (i * 2) ((turnS d i).map eSpan).flatten ++ [V.i x.low, V.i x.high] ++ List.drop (i * 2 + 2) ((turnS d i).map eSpan).flatten = ((turnS d (i + 1)).map eSpan).flatten := by
              have := spans_put (l := turnS d i) (j := i) (x := x) (by omega)
              rw [turnS, turn_set hi hx'] at this
              exact this
            have p2 : List.take i ((turnW d i).map eI).flatten ++ [V.i y] ++ List.drop (i + 1) ((turnW d i).map eI).flatten = ((turnW d (i + 1)).map eI).flatten := by
              have := put_I (l := turnW d i) (k := i) (x := y) (by omega)
              rw [turnW, turn_set (by omega) hy'] at this
              exact this
            have q1 : i * 2 + 2 ≤ d.rounds.length * 2 := by omega
            have q2 : i + 1 ≤ d.widths.length := by omega
            simp only [he, copyCs, hlt, i3, j1, j2, j3, j4, j5, j6, j7, hx, hy, len_I, len_S, l1, l2, p1, p2, q1, q2, Nat.mul_one, Int.natCast_add, Int.natCast_one, ru_skip, ru_reg, ru_any, ru_seq, ru_cnd, ru_block, ru_keep, putBs, optL, thenQ, blockQ, run_nil, run_cons, Fam.step, stepQ, needW, runX, eff, nextD, fpR, fpQ, fpV, disjB, hits, nv, sv, evO, opv, qv, binV, ldV, iadV, lenV, curG, putAt, V.cells, solid, cellOk, kp, upd_some, upd_none, lkp_cons, lkp_nil, ↓reduceIte, Nat.reduceEqDiff, Nat.reduceAdd, Nat.reduceLeDiff, Nat.reduceBEq, List.map_cons, List.map_nil, List.all_cons, List.all_nil, List.length_cons, List.length_nil, List.drop_succ_cons, List.drop_zero, List.take_succ_cons, List.take_nil, List.headD_cons, List.cons_append, List.nil_append, List.append_nil, List.getElem?_cons_zero, List.getElem?_cons_succ, List.getElem?_nil, Option.getD_some, Option.getD_none, List.set_cons_zero, List.set_cons_succ, List.replicate_zero, List.isEmpty_nil, List.isEmpty_cons, Int.natCast_nonneg, beq_self_eq_true, Nat.zero_add, Bool.and_self, Bool.and_true, Bool.true_and, Bool.false_and, Bool.or_false, Bool.false_or, Bool.not_true, Bool.not_false, Bool.false_eq_true, decide_true, and_self, Option.map_some, List.any_cons, List.any_nil, List.contains_cons, List.contains_nil, List.length_map, Int.toNat_natCast, List.getD_eq_getElem?_getD, List.getElem?_map, eSpan, eDome, eI]
          · have hgt : ¬ ((d.rounds.length : Int) < d.rounds.length) := by omega
            have t1 : turnS d d.rounds.length = d.rounds.reverse := by unfold turnS; rw [List.drop_length, List.append_nil, List.take_of_length_le (by simp)]
            have t2 : turnW d d.rounds.length = d.widths.reverse := by unfold turnW; rw [← hws, List.drop_length, List.append_nil, List.take_of_length_le (by simp)]
            have c1 := chunk_I d.widths.reverse
            rw [List.length_reverse] at c1
            have c2 := chunk_flat (e := eSpan) (k := 2) (fun _ => rfl) d.rounds.reverse
            rw [List.length_reverse] at c2
            first
            | simp only [he, copyCs, hgt, t1, t2, c1, c2, gB31, gB16, hsD, hne', lb, hne, eNE, flat_len (e := eBolt) (k := 4) (fun _ => rfl), len_I, len_S, List.length_reverse, chunk_I, chunk_flat (e := eBolt) (k := 4) (fun _ => rfl), vw_I, vw_S, vw_B, Nat.mul_one, Nat.le_refl, (hsl he).1, (hsl he).2, ru_reg, ru_seq, ru_cnd, ru_exit, ru_ret, ru_keep, thenQ, blockQ, run_nil, run_cons, Fam.step, stepQ, needQ, condB, ug, evO, opv, qv, pickV_bb, binV, ldV, lenV, callV, hasRef, hasRefL, flat, flatL, upd_some, lkp_cons, lkp_nil, ↓reduceIte, Nat.reduceEqDiff, Nat.reduceAdd, Nat.reduceLT, Nat.reduceLeDiff, List.map_cons, List.map_nil, List.all_cons, List.all_nil, List.length_cons, List.length_nil, List.drop_succ_cons, List.drop_zero, List.take_succ_cons, List.take_nil, List.headD_cons, List.append_nil, List.getElem?_cons_zero, List.getElem?_cons_succ, Option.getD_some, endQ, rvs, rv1, resV, vw_i, vw_b, vw_sl, vw_ag, vw_rf, beq_self_eq_true, Nat.zero_add, Bool.and_self, Bool.or_false, Bool.or_true, Bool.not_true, Bool.false_eq_true, Bool.true_eq_false, decide_true, decide_false, and_self, forall_const, implies_true, List.length_map, eDome]
            | simp only [he, copyCs, hgt, t1, t2, c1, c2, gB31, gB16, hsD, hne', lb, hne, eNE, flat_len (e := eBolt) (k := 4) (fun _ => rfl), len_I, len_S, List.length_reverse, chunk_I, chunk_flat (e := eBolt) (k := 4) (fun _ => rfl), vw_I, vw_S, vw_B, Nat.mul_one, Nat.le_refl, ru_skip, ru_reg, ru_any, ru_seq, ru_cnd, ite_P, ru_block, ru_exit, ru_ret, ru_keep, ru_drp, ru_own, ru_ownc, ru_swp, ru_nxt, ru_yrg, ru_crl, chunk1, ↓cut_lkp, ↓ren_lkp, rnQ, rndQ, updL, sfree, yres, slots, ghO, stepO, ocV, effO, nidQ, plO, plQ, plB, setBs, holesB, setsL, killL, putBs, optL, upTo, rids, ridsL, leafB, killB, kill1, List.foldl_cons, List.foldl_nil, rflat, rflatL, rflatB, shV, shL, shB, vB_cells, vB_map, swH, sw, renV, renL, renB, cutH, putB, lkpV, keyL, entV, mlenV, keyV, keyFits, endO, endK, endI, thenQ, blockQ, run_nil, run_cons, step_q, Fam.step, stepQ, stepW, needQ, needW, condB, ug, runX, eff_q, eff, nextD, fpR, fpQ, fpV, disjB, hits, putB, nv, sv, newsV, evO, opv, qv, pickV_bb, pickV_t, pickV_f, binV, ldV, iadV, lenV, curG, slcV, intOr, callV, foldParts, putAt, partsOk, partsOne, V.cells, solid, cellOk, intsOf, hasRef, hasRefL, flat, flatL, kp, cutV, cutL, cutB, upd_some, upd_none, lkp_cons, lkp_nil, ↓reduceIte, Nat.reduceEqDiff, Nat.reduceAdd, Nat.reduceSub, Nat.reduceMul, Nat.reduceLT, Nat.reduceLeDiff, Nat.reduceBEq, Int.reduceNeg, Int.reduceToNat, Int.add_sub_cancel, Int.toNat_zero, Int.reduceLT, Int.reduceLE, Int.reduceAdd, Int.reduceSub, Int.reduceMul, Int.reduceEq, List.map_cons, List.map_nil, List.all_cons, List.all_nil, List.length_cons, List.length_nil, List.drop_succ_cons, List.drop_zero, List.drop_nil, List.take_succ_cons, List.take_zero, List.take_nil, List.headD_cons, List.headD_nil, List.cons_append, List.nil_append, List.append_nil, List.getElem?_cons_zero, List.getElem?_cons_succ, List.getElem?_nil, Option.getD_some, Option.getD_none, List.set_cons_zero, List.set_cons_succ, List.set_nil, List.replicate_zero, List.replicate_succ, List.getD_cons_zero, List.getD_cons_succ, List.isEmpty_nil, List.isEmpty_cons, endQ, rvs, rv1, resV, vw_i, vw_b, vw_u, vw_pn, vw_z, vw_sl, vw_pa, vw_ag, vw_tp, vw_fn, vw_ad, vw_rf, zipA, Int.lt_irrefl, Int.natCast_nonneg, beq_self_eq_true, Nat.zero_add, Nat.add_zero, Option.some.injEq, V.i.injEq, V.b.injEq, Bool.and_self, Bool.and_true, Bool.true_and, Bool.false_and, Bool.and_false, Bool.or_false, Bool.false_or, Bool.or_true, Bool.true_or, Bool.not_true, Bool.not_false, Bool.false_eq_true, Bool.true_eq_false, decide_true, decide_false, decide_eq_true_eq, decide_eq_false_iff_not, true_and, and_true, and_self, false_and, and_false, forall_const, false_implies, true_implies, implies_true, reduceCtorEq, ite_true, ite_false, not_true_eq_false, not_false_eq_true, ne_eq, Option.map_some, Option.map_none, List.any_cons, List.any_nil, List.contains_cons, List.contains_nil, beq_true, beq_false, Bool.not_not, Bool.not_eq_false', Bool.not_eq_true', ite_f, ite_t, Bool.decide_eq_true, Bool.decide_eq_false, Bool.xor_self, imp_self, List.length_map, Int.toNat_natCast, List.getD_eq_getElem?_getD, List.getElem?_map, Bool.not_eq_true, Bool.not_eq_false, Classical.not_not, List.length_replicate, spanE, boltE, stripE, domeE, tentE, eSpan, eStrip, eBolt, eDome, eI, eIs, eCan, eTent]
    · have hst' : stretchesR d 0 = ([], 3) := by rw [hst, hp]; rfl
      have he := e3 hp
      simp only [rc12, rs12, gB15, gB31, gB36, hr, h1, h2, h3, i1, hbl, hne, he, eNE, eLE, hst', ru_skip, ru_reg, ru_seq, ru_cnd, ru_keep, thenQ, run_nil, run_cons, Fam.step, stepQ, needQ, condB, ug, evO, opv, qv, pickV_bb, pickV_f, binV, ldV, lenV, callV, V.cells, solid, hasRef, hasRefL, flat, flatL, upd_some, lkp_cons, lkp_nil, ↓reduceIte, Nat.reduceEqDiff, Nat.reduceAdd, Nat.reduceLT, Nat.reduceLeDiff, Int.reduceEq, List.map_cons, List.map_nil, List.all_cons, List.all_nil, List.length_cons, List.length_nil, List.drop_succ_cons, List.drop_zero, List.take_succ_cons, List.take_nil, List.headD_cons, List.append_nil, List.getElem?_cons_zero, List.getElem?_cons_succ, Option.getD_some, vw_i, vw_sl, vw_ag, zipA, beq_self_eq_true, Nat.zero_add, Bool.and_self, Bool.and_true, Bool.or_false, Bool.not_true, Bool.not_false, Bool.false_eq_true, Bool.true_eq_false, decide_true, decide_false, true_and, and_true, and_self, false_and, forall_const, false_implies, implies_true, reduceCtorEq, beq_true, imp_self, List.length_map, domeE, eDome]
      simp only [gB22, gB22o, h22, copyV, copyHp, copyCs, hole_vb, shL_noref _ _ nb, shL_noref _ _ (noref_I _), shL_noref _ _ (noref_S _), i2, ru_reg, ru_any, ru_seq, ru_block, ru_keep, effO, holesB, setsL, putBs, optL, upTo, rids, ridsL, rflat, rflatL, rflatB, shV, shL, shB, vB_cells, putB, thenQ, run_nil, run_cons, Fam.step, stepQ, stepW, needW, runX, eff, nextD, fpR, fpQ, fpV, disjB, hits, putB, nv, sv, evO, opv, qv, binV, ldV, curG, callV, putAt, V.cells, solid, cellOk, hasRef, hasRefL, flat, flatL, upd_some, upd_none, lkp_cons, lkp_nil, ↓reduceIte, Nat.reduceEqDiff, Nat.reduceAdd, Nat.reduceLT, Nat.reduceLeDiff, Nat.reduceBEq, List.map_cons, List.map_nil, List.all_cons, List.all_nil, List.length_cons, List.length_nil, List.drop_succ_cons, List.drop_zero, List.drop_nil, List.take_succ_cons, List.take_zero, List.take_nil, List.headD_cons, List.cons_append, List.nil_append, List.append_nil, List.getElem?_cons_zero, List.getElem?_cons_succ, List.getElem?_nil, Option.getD_some, Option.getD_none, List.set_cons_zero, List.set_cons_succ, List.replicate_zero, List.replicate_succ, List.isEmpty_nil, List.isEmpty_cons, vw_i, vw_sl, vw_ag, beq_self_eq_true, Nat.zero_add, Nat.add_zero, Bool.and_self, Bool.and_true, Bool.true_and, Bool.false_and, Bool.and_false, Bool.or_false, Bool.false_or, Bool.not_true, Bool.not_false, Bool.false_eq_true, true_and, and_self, List.any_cons, List.any_nil, List.contains_cons, List.contains_nil, imp_self, List.getD_eq_getElem?_getD, domeE, eDome]
      refine ru_count d.rounds.length (fun i => ⟨lkp [(3, .pa (eDome d)), (7, .i n), (8, .i e), (13, .ad 9 0 0), (14, .ad 10 0 0), (15, .i i)],
        [.cells 0 (copyCs d), .cells 0 (copyCs d), .cells 1 (d.bolts.map eBolt).flatten, .cells 1 (d.gores.map eI).flatten, .hole, .cells 1 ((turnS d i).map eSpan).flatten, .hole, .cells 1 ((turnW d i).map eI).flatten, .hole,
          .cells 0 [.sl 4 (d.bolts.map eBolt), .sl 1 (d.gores.map eI), .i d.loss, .sl 2 (d.rounds.map eSpan), .sl 1 (d.widths.map eI), .i (d.slope + m)], .cells 0 (copyCs d)]⟩) ?_ ?_ ?_
      · simp only [he, copyCs, Int.natCast_zero, turnS, turnW, kp, lkp_cons, lkp_nil, ↓reduceIte, Nat.reduceEqDiff, List.map_cons, List.map_nil, List.drop_zero, List.take_zero, List.nil_append, eDome]
      · intro i hi
        have hlt : (i : Int) < d.rounds.length := by omega
        have i3 : inI ((i : Int) + 1) := by unfold inI; omega
        have j1 : inI ((d.rounds.length : Int) - 1) := by unfold inI; omega
        have j2 : inI ((d.rounds.length : Int) - 1 - i) := by unfold inI; omega
        have j3 : (0 : Int) ≤ (d.rounds.length : Int) - 1 - i := by omega
        have j4 : (d.rounds.length : Int) - 1 - i < d.rounds.length := by omega
        have j5 : (d.rounds.length : Int) - 1 - i < d.widths.length := by omega
        have j6 : (i : Int) < d.widths.length := by omega
        have j7 : ((d.rounds.length : Int) - 1 - i).toNat = d.rounds.length - 1 - i := by omega
        obtain ⟨x, hx⟩ : ∃ x, d.rounds[d.rounds.length - 1 - i]? = some x := ⟨_, List.getElem?_eq_getElem (by omega)⟩
        obtain ⟨y, hy⟩ : ∃ y, d.widths[d.rounds.length - 1 - i]? = some y := ⟨_, List.getElem?_eq_getElem (by omega)⟩
        have hx' : d.rounds.reverse[i]? = some x := by rw [List.getElem?_reverse hi]; exact hx
        have hy' : d.widths.reverse[i]? = some y := by rw [List.getElem?_reverse (by omega), hws]; exact hy
        have l1 : (turnS d i).length = d.rounds.length := turn_len _ (by omega)
        have l2 : (turnW d i).length = d.widths.length := turn_len _ (by omega)
        have p1 : List.take (i * 2) ((turnS d i).map eSpan).flatten ++ [V.i x.low, V.i x.high] ++ List.drop (i * 2 + 2) ((turnS d i).map eSpan).flatten = ((turnS d (i + 1)).map eSpan).flatten := by
          have := spans_put (l := turnS d i) (j := i) (x := x) (by omega)
          rw [turnS, turn_set hi hx'] at this
          exact this
        have p2 : List.take i ((turnW d i).map eI).flatten ++ [V.i y] ++ List.drop (i + 1) ((turnW d i).map eI).flatten = ((turnW d (i + 1)).map eI).flatten := by
          have := put_I (l := turnW d i) (k := i) (x := y) (by omega)
          rw [turnW, turn_set (by omega) hy'] at this
          exact this
        have q1 : i * 2 + 2 ≤ d.rounds.length * 2 := by omega
        have q2 : i + 1 ≤ d.widths.length := by omega
        simp only [he, copyCs, hlt, i3, j1, j2, j3, j4, j5, j6, j7, hx, hy, len_I, len_S, l1, l2, p1, p2, q1, q2, Nat.mul_one, Int.natCast_add, Int.natCast_one, ru_skip, ru_reg, ru_any, ru_seq, ru_cnd, ru_block, ru_keep, putBs, optL, thenQ, blockQ, run_nil, run_cons, Fam.step, stepQ, needW, runX, eff, nextD, fpR, fpQ, fpV, disjB, hits, nv, sv, evO, opv, qv, binV, ldV, iadV, lenV, curG, putAt, V.cells, solid, cellOk, kp, upd_some, upd_none, lkp_cons, lkp_nil, ↓reduceIte, Nat.reduceEqDiff, Nat.reduceAdd, Nat.reduceLeDiff, Nat.reduceBEq, List.map_cons, List.map_nil, List.all_cons, List.all_nil, List.length_cons, List.length_nil, List.drop_succ_cons, List.drop_zero, List.take_succ_cons, List.take_nil, List.headD_cons, List.cons_append, List.nil_append, List.append_nil, List.getElem?_cons_zero, List.getElem?_cons_succ, List.getElem?_nil, Option.getD_some, Option.getD_none, List.set_cons_zero, List.set_cons_succ, List.replicate_zero, List.isEmpty_nil, List.isEmpty_cons, Int.natCast_nonneg, beq_self_eq_true, Nat.zero_add, Bool.and_self, Bool.and_true, Bool.true_and, Bool.false_and, Bool.or_false, Bool.false_or, Bool.not_true, Bool.not_false, Bool.false_eq_true, decide_true, and_self, Option.map_some, List.any_cons, List.any_nil, List.contains_cons, List.contains_nil, List.length_map, Int.toNat_natCast, List.getD_eq_getElem?_getD, List.getElem?_map, eSpan, eDome, eI]
      · have hgt : ¬ ((d.rounds.length : Int) < d.rounds.length) := by omega
        have t1 : turnS d d.rounds.length = d.rounds.reverse := by unfold turnS; rw [List.drop_length, List.append_nil, List.take_of_length_le (by simp)]
        have t2 : turnW d d.rounds.length = d.widths.reverse := by unfold turnW; rw [← hws, List.drop_length, List.append_nil, List.take_of_length_le (by simp)]
        have c1 := chunk_I d.widths.reverse
        rw [List.length_reverse] at c1
        have c2 := chunk_flat (e := eSpan) (k := 2) (fun _ => rfl) d.rounds.reverse
        rw [List.length_reverse] at c2
        first
        | simp only [he, copyCs, hgt, t1, t2, c1, c2, gB31, gB16, hsD, hne', lb, hne, eNE, flat_len (e := eBolt) (k := 4) (fun _ => rfl), len_I, len_S, List.length_reverse, chunk_I, chunk_flat (e := eBolt) (k := 4) (fun _ => rfl), vw_I, vw_S, vw_B, Nat.mul_one, Nat.le_refl, (hsl he).1, (hsl he).2, ru_skip, ru_reg, ru_any, ru_seq, ru_cnd, ite_P, ru_block, ru_exit, ru_ret, ru_keep, ru_drp, ru_own, ru_ownc, ru_swp, ru_nxt, ru_yrg, ru_crl, chunk1, ↓cut_lkp, ↓ren_lkp, rnQ, rndQ, updL, sfree, yres, slots, ghO, stepO, ocV, effO, nidQ, plO, plQ, plB, setBs, holesB, setsL, killL, putBs, optL, upTo, rids, ridsL, leafB, killB, kill1, List.foldl_cons, List.foldl_nil, rflat, rflatL, rflatB, shV, shL, shB, vB_cells, vB_map, swH, sw, renV, renL, renB, cutH, putB, lkpV, keyL, entV, mlenV, keyV, keyFits, endO, endK, endI, thenQ, blockQ, run_nil, run_cons, step_q, Fam.step, stepQ, stepW, needQ, needW, condB, ug, runX, eff_q, eff, nextD, fpR, fpQ, fpV, disjB, hits, putB, nv, sv, newsV, evO, opv, qv, pickV_bb, pickV_t, pickV_f, binV, ldV, iadV, lenV, curG, slcV, intOr, callV, foldParts, putAt, partsOk, partsOne, V.cells, solid, cellOk, intsOf, hasRef, hasRefL, flat, flatL, kp, cutV, cutL, cutB, upd_some, upd_none, lkp_cons, lkp_nil, ↓reduceIte, Nat.reduceEqDiff, Nat.reduceAdd, Nat.reduceSub, Nat.reduceMul, Nat.reduceLT, Nat.reduceLeDiff, Nat.reduceBEq, Int.reduceNeg, Int.reduceToNat, Int.add_sub_cancel, Int.toNat_zero, Int.reduceLT, Int.reduceLE, Int.reduceAdd, Int.reduceSub, Int.reduceMul, Int.reduceEq, List.map_cons, List.map_nil, List.all_cons, List.all_nil, List.length_cons, List.length_nil, List.drop_succ_cons, List.drop_zero, List.drop_nil, List.take_succ_cons, List.take_zero, List.take_nil, List.headD_cons, List.headD_nil, List.cons_append, List.nil_append, List.append_nil, List.getElem?_cons_zero, List.getElem?_cons_succ, List.getElem?_nil, Option.getD_some, Option.getD_none, List.set_cons_zero, List.set_cons_succ, List.set_nil, List.replicate_zero, List.replicate_succ, List.getD_cons_zero, List.getD_cons_succ, List.isEmpty_nil, List.isEmpty_cons, endQ, rvs, rv1, resV, vw_i, vw_b, vw_u, vw_pn, vw_z, vw_sl, vw_pa, vw_ag, vw_tp, vw_fn, vw_ad, vw_rf, zipA, Int.lt_irrefl, Int.natCast_nonneg, beq_self_eq_true, Nat.zero_add, Nat.add_zero, Option.some.injEq, V.i.injEq, V.b.injEq, Bool.and_self, Bool.and_true, Bool.true_and, Bool.false_and, Bool.and_false, Bool.or_false, Bool.false_or, Bool.or_true, Bool.true_or, Bool.not_true, Bool.not_false, Bool.false_eq_true, Bool.true_eq_false, decide_true, decide_false, decide_eq_true_eq, decide_eq_false_iff_not, true_and, and_true, and_self, false_and, and_false, forall_const, false_implies, true_implies, implies_true, reduceCtorEq, ite_true, ite_false, not_true_eq_false, not_false_eq_true, ne_eq, Option.map_some, Option.map_none, List.any_cons, List.any_nil, List.contains_cons, List.contains_nil, beq_true, beq_false, Bool.not_not, Bool.not_eq_false', Bool.not_eq_true', ite_f, ite_t, Bool.decide_eq_true, Bool.decide_eq_false, Bool.xor_self, imp_self, List.length_map, Int.toNat_natCast, List.getD_eq_getElem?_getD, List.getElem?_map, Bool.not_eq_true, Bool.not_eq_false, Classical.not_not, List.length_replicate, spanE, boltE, stripE, domeE, tentE, eSpan, eStrip, eBolt, eDome, eI, eIs, eCan, eTent]
        | simp only [he, copyCs, hgt, t1, t2, c1, c2, gB31, gB16, hsD, hne', lb, hne, eNE, flat_len (e := eBolt) (k := 4) (fun _ => rfl), len_I, len_S, List.length_reverse, chunk_I, chunk_flat (e := eBolt) (k := 4) (fun _ => rfl), vw_I, vw_S, vw_B, Nat.mul_one, Nat.le_refl, ru_reg, ru_seq, ru_cnd, ru_exit, ru_ret, ru_keep, thenQ, blockQ, run_nil, run_cons, Fam.step, stepQ, needQ, condB, ug, evO, opv, qv, pickV_bb, binV, ldV, lenV, callV, hasRef, hasRefL, flat, flatL, upd_some, lkp_cons, lkp_nil, ↓reduceIte, Nat.reduceEqDiff, Nat.reduceAdd, Nat.reduceLT, Nat.reduceLeDiff, Int.reduceEq, List.map_cons, List.map_nil, List.all_cons, List.all_nil, List.length_cons, List.length_nil, List.drop_succ_cons, List.drop_zero, List.take_succ_cons, List.take_nil, List.headD_cons, List.append_nil, List.getElem?_cons_zero, List.getElem?_cons_succ, Option.getD_some, endQ, rvs, rv1, resV, vw_i, vw_b, vw_sl, vw_ag, vw_rf, beq_self_eq_true, Nat.zero_add, Bool.and_self, Bool.and_true, Bool.false_and, Bool.or_false, Bool.or_true, Bool.not_true, Bool.not_false, Bool.false_eq_true, Bool.true_eq_false, decide_true, decide_false, decide_eq_true_eq, decide_eq_false_iff_not, and_true, and_self, false_and, forall_const, implies_true, beq_true, beq_false, ite_f, imp_self, List.length_map, eDome]
  · have hr' : ready d 0 = false := by simpa using hr
    simp only [rc12, rs12, gB15, gB16, hr', ru_reg, ru_seq, ru_cnd, ru_ret, ru_keep, thenQ, run_nil, run_cons, Fam.step, stepQ, needQ, condB, ug, evO, opv, qv, pickV_bb, binV, ldV, lenV, callV, V.cells, solid, hasRef, hasRefL, flat, upd_some, lkp_cons, lkp_nil, ↓reduceIte, Nat.reduceEqDiff, Nat.reduceAdd, Nat.reduceLT, Nat.reduceLeDiff, List.map_cons, List.map_nil, List.all_cons, List.all_nil, List.length_cons, List.length_nil, List.drop_succ_cons, List.drop_zero, List.take_succ_cons, List.take_nil, List.headD_cons, List.append_nil, endQ, rvs, rv1, resV, vw_i, vw_b, vw_sl, vw_ag, zipA, Nat.zero_add, Bool.and_self, Bool.and_true, Bool.or_false, Bool.not_true, Bool.not_false, Bool.false_eq_true, Bool.true_eq_false, and_true, and_self, false_and, forall_const, implies_true, reduceCtorEq, beq_false, imp_self, List.length_map, domeE, eDome]
end Go.C02
set_option linter.unusedSimpArgs false
set_option linter.unusedVariables false
namespace Go.C02
open Go.Fam Go.Proofs Go.ChangeAt
variable {H : Type} {enc : TypeId × Value → H} {W : World}
theorem rdIntsL : Rd enc Try.prog W 23 (fun l : List Int => [.sl 1 (l.map eI)]) (fun l => inI l.length) :=
  (rd_slice (el := 3) (es := 1) (by kernel_rfl) (by kernel_rfl) (by decide) rdInt).map id (fun _ => rfl) fun l h => by
    have := h.2
    unfold maxLen at this
    show inI (l.length : Int)
    unfold inI
    omega
theorem aIntsL : RdV enc Try.prog W 23 (fun l : List Int => .sl 1 (l.map eI)) (fun l => inI l.length) := Rd.one (one_slice (el := 3) (by kernel_rfl)) rdIntsL
end Go.C02
set_option linter.unusedSimpArgs false
set_option linter.unusedVariables false
namespace Go.C02
open Go.Fam Go.Proofs Go.ChangeAt
variable {H : Type} {enc : TypeId × Value → H} {W : World}
end Go.C02
