import Derived.Test.YtgcinomjcgebhaaC02J
set_option linter.all false
set_option linter.unusedSimpArgs false
set_option linter.unusedVariables false
namespace Go.C02
open Go.Fam Go.Proofs
theorem flat_snoc {α : Type} (e : α → List V) (l : List α) (x : α) : ((l ++ [x]).map e).flatten = (l.map e).flatten ++ e x := by simp
theorem filter_snoc {α : Type} (p : α → Bool) {l : List α} {k : Nat} {x : α} (h : l[k]? = some x) : (l.take (k + 1)).filter p = (l.take k).filter p ++ (if p x then [x] else []) := by
  rw [take_succ_of h, List.filter_append]
  congr 1
  by_cases hp : p x <;> simp [hp]
theorem chunk_I (l : List Int) : chunk 1 ((l.map eI).flatten) 0 l.length = l.map eI := chunk_flat (e := eI) (k := 1) (fun _ => rfl) l
theorem len_I (l : List Int) : ((l.map eI).flatten).length = l.length * 1 := flat_len (e := eI) (k := 1) (fun _ => rfl) l
theorem vw_I (hp : List Blk) (n : Nat) (l : List Int) : (l.map eI).map (fun r => r.map (vw hp (n + 1))) = l.map eI := map_vw_rows (e := eI) hp (n + 1) (fun _ => rfl) l
theorem noref_I (l : List Int) : hasRefL ((l.map eI).flatten) = false := hasRefL_flat (e := eI) (fun _ => rfl) l

def numbersOf (b : Bolt) : List Int := (ints b.stretch.low b.stretch.high).filter (can b)
def numbersTo (b : Bolt) (k : Nat) : List Int := ((ints b.stretch.low b.stretch.high).take k).filter (can b)
theorem numbersTo_succ {b : Bolt} {k : Nat} (h : k < (b.stretch.high + 1 - b.stretch.low).toNat) : numbersTo b (k + 1) = numbersTo b k ++ (if can b (b.stretch.low + k) then [b.stretch.low + k] else []) :=
  filter_snoc _ (ints_get h)
theorem numbersTo_all (b : Bolt) : numbersTo b (b.stretch.high + 1 - b.stretch.low).toNat = numbersOf b := by
  unfold numbersTo numbersOf
  rw [← ints_len, List.take_length]
theorem numbersTo_len (b : Bolt) (k : Nat) : (numbersTo b k).length ≤ k := by
  unfold numbersTo
  exact Nat.le_trans (List.length_filter_le _ _) (List.length_take_le _ _)
theorem P65 (b : Bolt) (hv : ValidB b) : PureCall Try.prog 65 [.ag (eBolt b)] (eIs (numbersOf b)) := by
  refine pure_body okJ hmix Try.func65 cb65 cc65 cs65 cn65 ?_
  have hst := hv.st
  simp only [rc65, rs65, ru_reg, ru_seq, ru_block, ru_keep, ru_own, thenQ, run_nil, run_cons, Fam.step, stepQ, evO, opv, qv, pickV, ldV, V.cells, solid, hasRef, hasRefL, upd_some, lkp_cons, lkp_nil, ↓reduceIte, Nat.reduceEqDiff, Nat.reduceAdd, Nat.reduceLeDiff, List.map_cons, List.map_nil, List.length_cons, List.length_nil, List.drop_zero, List.headD_cons, List.nil_append, vw_i, vw_sl, vw_ag, zipA, Nat.zero_add, Bool.or_false, Bool.false_eq_true, true_and, and_self, eBolt, eIs]
  refine ru_count (b.stretch.high + 1 - b.stretch.low).toNat (fun i => ⟨lkp [(1, .pa (eBolt b)), (3, .rf 0 (numbersTo b i).length 0 (numbersTo b i).length 1), (4, .i (b.stretch.low + i))], [.cells (numbersTo b i).length ((numbersTo b i).map eI).flatten]⟩) ?_ ?_ ?_
  · simp only [Int.natCast_zero, Int.add_zero, numbersTo, List.filter_nil, List.flatten_nil, kp, lkp_cons, lkp_nil, ↓reduceIte, Nat.reduceEqDiff, List.map_cons, List.map_nil, List.length_nil, List.take_zero, eBolt]
  · intro i hi
    have hlt : b.stretch.low + (i : Int) ≤ b.stretch.high := by omega
    have h3 : inI (b.stretch.low + (i : Int) + 1) := by unfold inI; omega
    have h4 := hv.ok66 (s := b.stretch.low + i) (by omega)
    have h5 := numbersTo_len b i
    simp only [hlt, h4, gJ49, numbersTo_succ hi, Int.natCast_add, Int.natCast_one, Int.add_assoc, boltE, spanE, ru_skip, ru_reg, ru_seq, ru_cond, ru_block, ru_exit, ru_ret, ru_keep, chunk1, putB, thenQ, blockQ, run_nil, run_cons, Fam.step, stepQ, stepW, needW, putB, nv, sv, newsV, evO, opv, qv, pickV, binV, ldV, callV, foldParts, putAt, partsOk, partsOne, V.cells, solid, cellOk, hasRef, hasRefL, flat, kp, upd_some, lkp_cons, lkp_nil, ↓reduceIte, Nat.reduceEqDiff, Nat.reduceAdd, Nat.reduceMul, Nat.reduceLT, Nat.reduceLeDiff, List.map_cons, List.map_nil, List.all_cons, List.all_nil, List.length_cons, List.length_nil, List.drop_succ_cons, List.drop_zero, List.take_succ_cons, List.take_zero, List.take_nil, List.headD_cons, List.cons_append, List.nil_append, List.append_nil, List.getElem?_cons_zero, List.set_cons_zero, List.replicate_zero, List.replicate_succ, endQ, rvs, rv1, resV, vw_i, vw_sl, vw_ag, vw_rf, Nat.zero_add, Bool.and_self, Bool.or_false, Bool.false_eq_true, Bool.true_eq_false, decide_true, true_and, and_true, and_self, forall_const, false_implies, implies_true, reduceCtorEq, not_false_eq_true, ne_eq, spanE, boltE, eBolt]
    rw [Int.add_assoc] at h3
    refine ⟨fun h => ?_, fun h => ?_⟩
    · simp only [h, h3, len_I, Nat.mul_one, List.length_append, List.map_append, List.flatten_append, List.flatten_cons, List.flatten_nil, ↓reduceIte, List.map_cons, List.map_nil, List.length_cons, List.length_nil, List.append_nil, Nat.zero_add, true_and, and_true, and_self, eI]
      unfold fitsLen; omega
    · simp only [h, h3, ↓reduceIte, List.append_nil, Bool.false_eq_true, and_self]
  · have hgt : ¬ (b.stretch.low + ((b.stretch.high + 1 - b.stretch.low).toNat : Int) ≤ b.stretch.high) := by omega
    simp only [hgt, vw8, len_I, Nat.mul_one, Nat.le_refl, chunk_I, vw_I, numbersTo_all, ru_skip, ru_reg, ru_seq, ru_cond, ru_block, ru_exit, ru_ret, ru_keep, chunk1, putB, thenQ, blockQ, run_nil, run_cons, Fam.step, stepQ, stepW, needW, putB, nv, sv, newsV, evO, opv, qv, pickV, binV, ldV, callV, foldParts, putAt, partsOk, partsOne, V.cells, solid, cellOk, hasRef, hasRefL, upd_some, lkp_cons, lkp_nil, ↓reduceIte, Nat.reduceEqDiff, Nat.reduceAdd, Nat.reduceLT, Nat.reduceLeDiff, List.map_cons, List.map_nil, List.all_cons, List.all_nil, List.length_cons, List.length_nil, List.drop_succ_cons, List.drop_zero, List.take_succ_cons, List.take_zero, List.take_nil, List.headD_cons, List.cons_append, List.nil_append, List.append_nil, List.getElem?_cons_zero, List.set_cons_zero, List.replicate_zero, List.replicate_succ, endQ, rvs, rv1, resV, vw_i, vw_sl, vw_ag, vw_rf, Nat.zero_add, Bool.and_self, Bool.or_false, Bool.false_eq_true, decide_false, true_and, and_true, and_self, and_false, forall_const, false_implies, reduceCtorEq, not_false_eq_true, ne_eq, eBolt]

def cansOf (d : Dome) : List (List Int) := d.bolts.map numbersOf
theorem chunk_C (l : List (List Int)) : chunk 1 ((l.map eCan).flatten) 0 l.length = l.map eCan := chunk_flat (e := eCan) (k := 1) (fun _ => rfl) l
theorem len_C (l : List (List Int)) : ((l.map eCan).flatten).length = l.length * 1 := flat_len (e := eCan) (k := 1) (fun _ => rfl) l
theorem vw_C (hp : List Blk) (n : Nat) (l : List (List Int)) : (l.map eCan).map (fun r => r.map (vw hp (n + 1))) = l.map eCan := map_vw_rows (e := eCan) hp (n + 1) (fun _ => rfl) l
theorem noref_C (l : List (List Int)) : hasRefL ((l.map eCan).flatten) = false := hasRefL_flat (e := eCan) (fun _ => rfl) l
def pitchE (d : Dome) (is : Bool) : Int := if check d ≠ 0 then check d else if is then (if (cansOf d).any List.isEmpty then 3 else 0) else 1
def pitchV (d : Dome) (is : Bool) : V := .tp [if pitchE d is = 0 then .pa (eTent ⟨d, cansOf d⟩) else .pn, .i (pitchE d is)]
theorem filter_can (b : Bolt) {s : Int} (h1 : b.stretch.low ≤ s) (h2 : s ≤ b.stretch.high) : can b s = decide ((falses b.strips s : Int) ≤ b.wrong) := by
  simp [can, within, h1, h2]
theorem P45 (d : Dome) (is : Bool) : PureCall Try.prog 45 [.ag (eDome d), .b is] (pitchV d is) := by
  refine pure_body okJ hmix Try.func45 cb45 cc45 cs45 cn45 ?_
  have g1 := gJ41 d
  unfold eDome at g1
  simp only [rc45, rs45, g1, pitchV, ru_skip, ru_reg, ru_seq, ru_cond, ru_block, ru_ret, ru_keep, ru_ownc, thenQ, run_nil, run_cons, Fam.step, stepQ, stepW, needW, nv, evO, opv, qv, pickV, binV, ldV, lenV, callV, foldParts, putAt, partsOk, V.cells, solid, cellOk, hasRef, hasRefL, flat, upd_some, lkp_cons, lkp_nil, ↓reduceIte, Nat.reduceEqDiff, Nat.reduceAdd, Nat.reduceLT, Nat.reduceLeDiff, List.map_cons, List.map_nil, List.all_cons, List.all_nil, List.length_cons, List.length_nil, List.drop_succ_cons, List.drop_zero, List.take_succ_cons, List.take_zero, List.take_nil, List.headD_cons, List.cons_append, List.nil_append, List.append_nil, List.getElem?_cons_zero, List.getElem?_cons_succ, List.getElem?_nil, List.set_cons_zero, List.set_cons_succ, endQ, rvs, rv1, resV, vw_i, vw_pn, vw_sl, vw_ag, vw_tp, zipA, Nat.zero_add, Bool.and_self, Bool.or_false, Bool.false_eq_true, decide_eq_true_eq, decide_eq_false_iff_not, true_and, and_self, implies_true, reduceCtorEq, Bool.not_eq_false', Bool.not_eq_true', List.length_map, eDome, eTent]
  refine ⟨fun h => ?_, fun h => ⟨fun h2 => ?_, fun h2 => ?_⟩⟩
  · have e : pitchE d is = check d := by simp [pitchE, h]
    rw [e, if_neg h]
  · have e : pitchE d is = 1 := by simp [pitchE, h, h2]
    rw [e]; rfl
  have hv := valid_of h
  have hnb := hv.nb
  refine ru_countC d.bolts.length (fun i => ⟨lkp [(7, .ad 0 0 0), (23, .sl 4 (d.bolts.map eBolt)), (24, .i d.bolts.length), (25, .i i), (31, .u)],
    [.cells 0 (eDome d ++ [.rf 1 i 0 i 1]), .cells i (((cansOf d).take i).map eCan).flatten]⟩) (fun i => ((cansOf d).take i).any List.isEmpty = false) ?_ ?_ ?_ ?_
  · simp only [Int.natCast_zero, List.flatten_nil, cutH, kp, cutV, cutL, cutB, lkp_cons, lkp_nil, ↓reduceIte, Nat.reduceEqDiff, Nat.reduceLT, List.map_cons, List.map_nil, List.take_succ_cons, List.take_zero, List.take_nil, List.cons_append, List.nil_append, eDome]
  · rfl
  · intro i hi hC
    obtain ⟨b, hb⟩ : ∃ b, d.bolts[i]? = some b := ⟨_, List.getElem?_eq_getElem hi⟩
    have hvb := hv.bolts b (List.mem_of_getElem? hb)
    have hst := hvb.st
    have hlt : (i : Int) < d.bolts.length := by omega
    have h3 : inI ((i : Int) + 1) := by unfold inI; omega
    have hcan : (cansOf d)[i]? = some (numbersOf b) := by simp [cansOf, hb]
    have hti := take_succ_of hcan
    have hlen : ((cansOf d).take i).length = i := by simp [cansOf]; omega
    have g3 := gJ60 b
    unfold eBolt at g3
    have g4 := gJ70 b
    unfold eBolt at g4
    simp only [hb, hlt, g3, ru_skip, ru_reg, ru_seq, ru_cond, ru_block, ru_exit, ru_ret, ru_keep, ru_ownc, cutH, putB, thenQ, blockQ, run_nil, run_cons, Fam.step, stepQ, stepW, needW, putB, nv, sv, evO, opv, qv, pickV, binV, ldV, iadV, callV, putAt, V.cells, solid, cellOk, hasRef, hasRefL, flat, kp, upd_some, upd_none, lkp_cons, lkp_nil, ↓reduceIte, Nat.reduceEqDiff, Nat.reduceAdd, Nat.reduceLT, Nat.reduceLeDiff, List.map_cons, List.map_nil, List.all_cons, List.all_nil, List.length_cons, List.length_nil, List.drop_succ_cons, List.drop_zero, List.drop_nil, List.take_succ_cons, List.take_zero, List.take_nil, List.cons_append, List.nil_append, List.append_nil, List.getElem?_cons_zero, List.getElem?_cons_succ, Option.getD_some, List.set_cons_zero, List.set_cons_succ, endQ, rvs, rv1, resV, vw_i, vw_sl, vw_ag, vw_tp, vw_ad, vw_rf, Int.natCast_nonneg, Nat.zero_add, Nat.add_zero, Bool.and_self, Bool.or_false, Bool.false_eq_true, Bool.true_eq_false, decide_true, true_and, and_true, and_self, forall_const, false_implies, Option.map_some, imp_self, List.length_map, Int.toNat_natCast, List.getD_eq_getElem?_getD, List.getElem?_map, eBolt, eDome]
    refine ru_rfnC (gf := 70) (caps := [.pa (eBolt b)]) (ok := tame 1000 b.stretch.low ∧ tame 1000 b.stretch.high) (ys := ysB b)
      (fun k => [.cells 0 (eDome d ++ [.rf 1 i 0 i 1]), .cells i (((cansOf d).take i).map eCan).flatten, .cells 0 (eBolt b), .cells 0 [.rf 4 (numbersTo b k).length 0 (numbersTo b k).length 1], .cells (numbersTo b k).length ((numbersTo b k).map eI).flatten]) (fun _ => True) ?_ ?_ (by decide) ?_ rfl ?_ ?_ trivial ?_ ?_
    · simp only [evO, lkp_cons, ↓reduceIte, Nat.reduceEqDiff, eBolt]
    · simp only [g4, Nat.reduceAdd, List.map_cons, List.map_nil, vw_pa, eBolt]
    · unfold tame; omega
    · intro x hx
      obtain ⟨k, hk⟩ := List.getElem?_of_mem hx
      rw [(ysB_get hk).1]; rfl
    · simp only [numbersTo, List.filter_nil, List.flatten_nil, cutL_noref _ _ _ (noref_C ((cansOf d).take i)), cutH, cutV, cutL, cutB, ↓reduceIte, Nat.reduceLT, List.map_cons, List.map_nil, List.length_nil, List.take_succ_cons, List.take_zero, List.take_nil, List.cons_append, List.nil_append, eBolt, eDome]
    · intro k x hx _
      obtain ⟨rfl, hk⟩ := ysB_get hx
      have h4 := hvb.ok66 (s := b.stretch.low + k) (by omega)
      have h5 := numbersTo_len b k
      simp only [gJ61, h4, numbersTo_succ hk, filter_can b (s := b.stretch.low + k) (by omega) (by omega), ru_skip, ru_reg, ru_any, ru_seq, ru_cond, ru_block, ru_keep, chunk1, ↓cut_lkp, rnQ, rndQ, updL, cutH, putB, thenQ, blockQ, run_nil, run_cons, Fam.step, stepQ, stepW, needW, runX, eff, nextD, fpR, fpQ, fpV, disjB, hits, putB, nv, sv, newsV, evO, opv, qv, pickV, binV, ldV, curG, callV, foldParts, putAt, partsOk, partsOne, V.cells, solid, cellOk, hasRef, hasRefL, flat, cutV, cutL, cutB, upd_some, upd_none, lkp_cons, lkp_nil, ↓reduceIte, Nat.reduceEqDiff, Nat.reduceAdd, Nat.reduceMul, Nat.reduceLT, Nat.reduceLeDiff, List.map_cons, List.map_nil, List.all_cons, List.all_nil, List.length_cons, List.length_nil, List.drop_succ_cons, List.drop_zero, List.drop_nil, List.take_succ_cons, List.take_zero, List.take_nil, List.headD_cons, List.cons_append, List.nil_append, List.append_nil, List.getElem?_cons_zero, List.getElem?_cons_succ, List.getElem?_nil, Option.getD_none, List.set_cons_zero, List.set_cons_succ, List.replicate_zero, List.replicate_succ, List.isEmpty_nil, vw_i, vw_sl, vw_ag, beq_self_eq_true, Nat.zero_add, Bool.and_self, Bool.and_true, Bool.false_and, Bool.or_false, Bool.not_true, Bool.not_false, Bool.false_eq_true, decide_eq_true_eq, decide_eq_false_iff_not, true_and, and_self, implies_true, reduceCtorEq, not_false_eq_true, ne_eq, List.any_nil, List.contains_cons, List.contains_nil, List.getD_eq_getElem?_getD, eBolt, eDome]
      refine ⟨fun h => ?_, fun h => ?_⟩
      · simp only [h, len_I, Nat.mul_one, List.length_append, List.map_append, List.flatten_append, List.flatten_cons, List.flatten_nil, cutL_noref _ _ _ (noref_C ((cansOf d).take i)), cutL_append, cutL_noref _ _ _ (noref_I (numbersTo b k)), cutV, cutL, ↓reduceIte, List.map_cons, List.map_nil, List.length_cons, List.length_nil, List.append_nil, Nat.zero_add, true_and, and_true, eI]
        unfold fitsLen; omega
      · simp only [h, cutL_noref _ _ _ (noref_C ((cansOf d).take i)), cutL_noref _ _ _ (noref_I (numbersTo b k)), ↓reduceIte, List.append_nil]
    · intro _
      have hdrop : ∀ hp : List Blk, True := fun _ => trivial
      simp only [ysB_len, numbersTo_all, cutL_noref _ _ _ (noref_C ((cansOf d).take i)), hpF, upB, upL, upV, upL_noref _ _ (noref_I (numbersOf b)), len_I, Nat.mul_one, Nat.le_refl, chunk_I, vw_I, vw8, ru_skip, ru_reg, ru_any, ru_seq, ru_cond, ru_ret, ru_keep, ru_drp, chunk1, ↓cut_lkp, cutH, putB, thenQ, blockQ, run_nil, run_cons, Fam.step, stepQ, needW, runX, eff, nextD, fpR, fpQ, fpV, disjB, hits, putB, nv, sv, newsV, evO, opv, qv, pickV, binV, ldV, lenV, curG, foldParts, putAt, partsOk, partsOne, V.cells, solid, cellOk, hasRef, hasRefL, cutV, cutL, cutB, upd_some, upd_none, lkp_cons, lkp_nil, ↓reduceIte, Nat.reduceEqDiff, Nat.reduceAdd, Nat.reduceLT, List.map_cons, List.map_nil, List.all_cons, List.all_nil, List.length_cons, List.length_nil, List.drop_succ_cons, List.drop_zero, List.drop_nil, List.take_succ_cons, List.take_zero, List.take_nil, List.headD_cons, List.cons_append, List.nil_append, List.append_nil, List.getElem?_cons_zero, List.getElem?_cons_succ, List.getElem?_nil, Option.getD_some, Option.getD_none, List.set_cons_zero, List.set_cons_succ, List.replicate_zero, List.replicate_succ, List.isEmpty_nil, List.isEmpty_cons, endQ, rvs, rv1, resV, vw_i, vw_pn, vw_sl, vw_tp, vw_ad, vw_rf, beq_self_eq_true, Nat.zero_add, Bool.and_self, Bool.and_true, Bool.true_and, Bool.false_and, Bool.or_false, Bool.false_or, Bool.not_true, Bool.not_false, Bool.false_eq_true, decide_eq_true_eq, decide_eq_false_iff_not, true_and, and_self, reduceCtorEq, not_false_eq_true, ne_eq, List.any_cons, List.any_nil, List.contains_cons, List.contains_nil, List.getD_eq_getElem?_getD, eBolt, eDome]
      refine ⟨fun h => ?_, fun h => ?_⟩
      · have e : pitchE d is = 3 := by
          have : (cansOf d).any List.isEmpty = true := List.any_eq_true.2 ⟨_, List.mem_of_getElem? hcan, by simpa using h⟩
          simp [pitchE, h2, this, ‹check d = 0›]
        rw [e]; rfl
      · refine ⟨⟨by rw [len_C, hlen, Nat.mul_one], by unfold fitsLen; omega⟩, h3, ?_, ?_⟩
        · rw [hti, List.any_append, hC]
          simpa using h
        · simp only [cutL_append, cutL_noref _ _ _ (noref_C ((cansOf d).take i)), hti, flat_snoc, Int.natCast_add, Int.natCast_one, List.flatten_cons, List.flatten_nil, cutV, cutL, List.append_nil, eCan]
  · intro hC
    have e : pitchE d is = 0 := by
      have hl : (cansOf d).take d.bolts.length = cansOf d := by rw [show d.bolts.length = (cansOf d).length from by simp [cansOf], List.take_length]
      rw [hl] at hC
      simp [pitchE, h2, hC, ‹check d = 0›]
    have hl : (cansOf d).take d.bolts.length = cansOf d := by rw [show d.bolts.length = (cansOf d).length from by simp [cansOf], List.take_length]
    have hl2 : d.bolts.length = (cansOf d).length := by simp [cansOf]
    simp only [e, len_C, Nat.mul_one, hl2, List.take_length, Nat.le_refl, chunk_C, vw_C, ru_skip, ru_reg, ru_seq, ru_cond, ru_block, ru_exit, ru_ret, ru_keep, ru_ownc, putB, thenQ, blockQ, run_nil, run_cons, Fam.step, stepQ, stepW, needW, putB, nv, sv, evO, opv, qv, pickV, binV, ldV, iadV, callV, putAt, V.cells, solid, hasRef, hasRefL, upd_some, upd_none, lkp_cons, lkp_nil, ↓reduceIte, Nat.reduceEqDiff, Nat.reduceAdd, Nat.reduceLT, List.map_cons, List.map_nil, List.length_cons, List.length_nil, List.drop_zero, List.take_zero, List.cons_append, List.nil_append, List.append_nil, List.getElem?_cons_zero, List.getElem?_cons_succ, List.set_cons_zero, List.set_cons_succ, endQ, rvs, rv1, resV, vw_i, vw_sl, vw_ag, vw_tp, vw_ad, vw_rf, Int.lt_irrefl, Int.natCast_nonneg, Nat.zero_add, Nat.add_zero, Bool.or_false, Bool.false_eq_true, decide_false, true_and, and_self, false_and, and_false, forall_const, imp_self, List.length_map, Int.toNat_natCast, List.getD_eq_getElem?_getD, List.getElem?_map, eDome]
end Go.C02
