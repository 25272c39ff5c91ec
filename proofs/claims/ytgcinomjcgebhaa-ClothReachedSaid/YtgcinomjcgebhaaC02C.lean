import Derived.Test.YtgcinomjcgebhaaC02B
set_option linter.all false
set_option linter.unusedSimpArgs false
set_option linter.unusedVariables false
namespace Go.C02
open Go.Fam Go.Proofs
def can (b : Bolt) (s : Int) : Bool := within s b.stretch.low b.stretch.high && decide ((falses b.strips s : Int) ≤ b.wrong)
theorem P49 (b : Bolt) (s : Int) (h : ok66 b.strips s) : PureCall Try.prog 49 [.ag (eBolt b), .i s] (.b (can b s)) := by
  refine pure_body okB hmix Try.func49 cb49 cc49 cs49 cn49 ?_
  simp only [rc49, rs49, eBolt, gB54, gB66, h, ru_reg, ru_any, ru_seq, ru_ret, ru_keep, putB, thenQ, run_nil, run_cons, Fam.step, stepQ, needQ, condB, ug, runX, eff, nextD, fpR, fpQ, fpV, disjB, hits, putB, evO, opv, qv, pickV, binV, ldV, callV, V.cells, solid, hasRef, hasRefL, flat, upd_some, lkp_cons, lkp_nil, ↓reduceIte, Nat.reduceEqDiff, Nat.reduceAdd, Nat.reduceLT, Nat.reduceLeDiff, List.map_cons, List.map_nil, List.all_cons, List.all_nil, List.length_cons, List.length_nil, List.drop_succ_cons, List.drop_zero, List.take_succ_cons, List.take_nil, List.headD_cons, List.cons_append, List.nil_append, List.append_nil, List.getElem?_nil, Option.getD_none, List.replicate_zero, List.isEmpty_nil, endQ, rvs, rv1, resV, vw_i, vw_b, vw_sl, vw_ag, zipA, Nat.zero_add, V.b.injEq, Bool.and_self, Bool.and_true, Bool.false_and, Bool.or_false, Bool.not_true, Bool.not_false, Bool.false_eq_true, true_and, and_true, and_self, implies_true, reduceCtorEq, List.any_nil, List.contains_nil, beq_true, ite_f, Bool.decide_eq_true, imp_self, List.getD_eq_getElem?_getD, eBolt]
  rfl
def isStrip (x : Strip) : Bool := within x.long 1 2000 && isSpan x.pulled 4000
theorem P80 (s : Strip) : PureCall Try.prog 80 [.ag (eStrip s)] (.b (isStrip s)) := by
  refine pure_body okB hmix Try.func80 cb80 cc80 cs80 cn80 ?_
  simp only [rc80, rs80, eStrip, gB67, gB73, ru_reg, ru_seq, ru_ret, ru_keep, thenQ, run_nil, run_cons, Fam.step, stepQ, needQ, condB, ug, evO, opv, qv, pickV, ldV, callV, V.cells, solid, hasRef, hasRefL, flat, upd_some, lkp_cons, lkp_nil, ↓reduceIte, Nat.reduceEqDiff, Nat.reduceAdd, Nat.reduceLT, Nat.reduceLeDiff, List.map_cons, List.map_nil, List.all_cons, List.all_nil, List.length_cons, List.length_nil, List.drop_succ_cons, List.drop_zero, List.take_succ_cons, List.take_nil, List.headD_cons, List.append_nil, endQ, rvs, rv1, resV, vw_i, vw_b, vw_ag, zipA, Nat.zero_add, V.b.injEq, Bool.and_self, Bool.and_true, Bool.or_false, Bool.false_eq_true, true_and, and_true, and_self, implies_true, beq_true, ite_f, Bool.decide_eq_true, imp_self, spanE, eStrip]
  rfl
def isBolt (b : Bolt) : Bool := isSpan b.stretch 60 && decide (b.strips.length ≤ 8) && within b.wrong 0 2 && b.strips.all isStrip
theorem P59 (b : Bolt) : PureCall Try.prog 59 [.ag (eBolt b)] (.b (isBolt b)) := by
  refine pure_body okB hmix Try.func59 cb59 cc59 cs59 cn59 ?_
  simp only [rc59, rs59, gB54, gB58, ru_skip, ru_reg, ru_seq, ru_cond, ru_block, ru_ret, ru_keep, thenQ, run_nil, run_cons, Fam.step, stepQ, needQ, condB, ug, evO, opv, qv, pickV, binV, ldV, lenV, callV, V.cells, solid, hasRef, hasRefL, flat, upd_some, lkp_cons, lkp_nil, ↓reduceIte, Nat.reduceEqDiff, Nat.reduceAdd, Nat.reduceLT, Nat.reduceLeDiff, List.map_cons, List.map_nil, List.all_cons, List.all_nil, List.length_cons, List.length_nil, List.drop_succ_cons, List.drop_zero, List.take_succ_cons, List.take_zero, List.headD_cons, List.append_nil, endQ, rvs, rv1, resV, vw_i, vw_b, vw_sl, vw_ag, zipA, Nat.zero_add, V.b.injEq, Bool.and_self, Bool.and_true, Bool.or_false, Bool.false_eq_true, true_and, and_true, and_self, implies_true, beq_false, Bool.not_not, Bool.not_eq_false', Bool.not_eq_true', ite_t, Bool.decide_eq_true, Bool.decide_eq_false, imp_self, List.length_map, spanE, eBolt]
  refine ⟨fun h => ?_, fun h => ?_⟩
  · unfold isBolt
    cases h1 : isSpan b.stretch 60 <;> cases h2 : within b.wrong 0 2 <;> simp [h1, h2] at h ⊢
    intro h3; omega
  · have hb : isSpan b.stretch 60 = true ∧ b.strips.length ≤ 8 ∧ within b.wrong 0 2 = true := by
      cases h1 : isSpan b.stretch 60 <;> cases h2 : within b.wrong 0 2 <;> simp [h1, h2] at h ⊢
      omega
    refine ru_countC b.strips.length (fun i => ⟨lkp [(1, .pa (eBolt b)), (3, .i i)], []⟩) (fun i => (b.strips.take i).all isStrip = true) ?_ ?_ ?_ ?_
    · simp only [Int.natCast_zero, kp, lkp_cons, lkp_nil, ↓reduceIte, Nat.reduceEqDiff, List.map_cons, List.map_nil, eBolt]
    · rfl
    · intro i hi hc
      obtain ⟨x, hx⟩ : ∃ x, b.strips[i]? = some x := ⟨_, List.getElem?_eq_getElem hi⟩
      have hlt : (i : Int) < b.strips.length := by omega
      have h3 : inI ((i : Int) + 1) := by unfold inI; omega
      simp only [gB54, gB58, hx, hlt, Int.natCast_add, Int.natCast_one, all_take_succ hx, hc, h3, ru_skip, ru_reg, ru_seq, ru_cond, ru_block, ru_exit, ru_ret, ru_keep, thenQ, blockQ, run_nil, run_cons, Fam.step, stepQ, needQ, condB, ug, evO, opv, qv, pickV, binV, ldV, iadV, lenV, callV, hasRef, hasRefL, flat, kp, upd_some, lkp_cons, lkp_nil, ↓reduceIte, Nat.reduceEqDiff, Nat.reduceAdd, Nat.reduceLT, Nat.reduceLeDiff, List.map_cons, List.map_nil, List.all_cons, List.all_nil, List.length_cons, List.length_nil, List.drop_succ_cons, List.drop_zero, List.take_succ_cons, List.take_nil, List.headD_cons, List.append_nil, Option.getD_some, endQ, rvs, rv1, resV, vw_i, vw_b, vw_ag, Int.natCast_nonneg, Nat.zero_add, V.b.injEq, Bool.and_self, Bool.and_true, Bool.true_and, Bool.or_false, Bool.false_eq_true, Bool.true_eq_false, decide_true, true_and, and_true, and_self, forall_const, false_implies, implies_true, Option.map_some, beq_false, Bool.not_not, Bool.not_eq_false', Bool.not_eq_true', ite_t, Bool.decide_eq_false, imp_self, List.length_map, Int.toNat_natCast, List.getD_eq_getElem?_getD, List.getElem?_map, spanE, eStrip, eBolt]
      refine ⟨fun h => ?_, fun h => ?_⟩
      · have h5 : isStrip x = false := by cases h1 : within x.long 1 2000 <;> cases h2 : isSpan x.pulled 4000 <;> simp [isStrip, h1, h2] at h ⊢
        simp [isBolt, all_of_mem hx h5]
      · unfold isStrip
        cases h1 : within x.long 1 2000 <;> cases h2 : isSpan x.pulled 4000 <;> simp [h1, h2] at h ⊢
    · intro hc
      rw [List.take_length] at hc
      simp only [ru_skip, ru_reg, ru_seq, ru_cond, ru_block, ru_exit, ru_ret, ru_keep, thenQ, blockQ, run_nil, run_cons, Fam.step, stepQ, needQ, condB, ug, evO, opv, qv, pickV, binV, ldV, iadV, lenV, curG, callV, hasRef, hasRefL, upd_some, lkp_cons, lkp_nil, ↓reduceIte, Nat.reduceEqDiff, Nat.reduceAdd, Nat.reduceLT, Nat.reduceLeDiff, List.map_cons, List.map_nil, List.all_cons, List.all_nil, List.length_cons, List.length_nil, List.drop_succ_cons, List.drop_zero, List.headD_cons, List.append_nil, List.getElem?_nil, endQ, rvs, rv1, resV, vw_i, vw_b, Int.lt_irrefl, Int.natCast_nonneg, Nat.zero_add, V.b.injEq, Bool.and_self, Bool.and_true, Bool.or_false, Bool.false_eq_true, decide_false, true_and, and_true, and_self, false_and, and_false, forall_const, implies_true, beq_false, imp_self, List.length_map, Int.toNat_natCast, List.getD_eq_getElem?_getD, List.getElem?_map, eBolt]
      simp [isBolt, hb, hc]

def dB : List V → Bolt | [.ag cs] => dBolt cs | _ => ⟨⟨0, 0⟩, [], 0⟩
def r49 : List V → Prop × V := fnG eBI dBI (fun a => ok66 a.1.strips a.2) (fun a => can a.1 a.2) .b
def r59 : List V → Prop × V := fnG (fun b => [.ag (eBolt b)]) dB (fun _ => True) isBolt .b
def r80 : List V → Prop × V | [.ag [.i a, .i b, .i c]] => (True, .b (isStrip ⟨a, ⟨b, c⟩⟩)) | _ => (False, .u)
theorem h80 (vs : List V) (h : (r80 vs).1) : PureCall Try.prog 80 vs (r80 vs).2 := by
  unfold r80 at h ⊢; split at h <;> first | exact P80 ⟨_, ⟨_, _⟩⟩ | exact h.elim
def GC : Gam := ((GB.ext 49 r49).ext 59 r59).ext 80 r80
theorem okC : GOk Try.prog GC :=
  ((okB.ext (fun a w => Try.call49 a w) (fnG_ok fun a h => P49 a.1 a.2 h)).ext (fun a w => Try.call59 a w) (fnG_ok fun a _ => P59 a)).ext (fun a w => Try.call80 a w) h80
theorem gC54 (n lo hi : Int) : GC 54 [.i n, .i lo, .i hi] = (True, .b (within n lo hi)) := rfl
theorem gC67 (n lo hi : Int) : GC 67 [.i n, .i lo, .i hi] = (True, .b (within n lo hi)) := rfl
theorem gC57 (l s : Int) : GC 57 [.i l, .i s] = (tame 1000000 l ∧ tame 1000000 s, .i (pull l s)) := rfl
theorem gC69 (l s : Int) : GC 69 [.i l, .i s] = (tame 1000000 l ∧ tame 1000000 s, .i (pull l s)) := rfl
theorem gC73 (a b m : Int) : GC 73 [.ag [.i a, .i b], .i m] = (True, .b (isSpan ⟨a, b⟩ m)) := rfl
theorem gC58 (a b m : Int) : GC 58 [.ag [.i a, .i b], .i m] = (True, .b (isSpan ⟨a, b⟩ m)) := rfl
theorem gC66 (a b : Int) (l : List Strip) (w s : Int) : GC 66 [.ag [.i a, .i b, .sl 3 (l.map eStrip), .i w], .i s] = (ok66 l s, .i (falses l s)) := gB66 a b l w s
theorem gC49 (a b : Int) (l : List Strip) (w s : Int) : GC 49 [.ag [.i a, .i b, .sl 3 (l.map eStrip), .i w], .i s] = (ok66 l s, .b (can ⟨⟨a, b⟩, l, w⟩ s)) :=
  (show GC 49 _ = r49 (eBI (⟨⟨a, b⟩, l, w⟩, s)) from rfl).trans (fnG_at _ (dBI_e _))
theorem gC59 (a b : Int) (l : List Strip) (w : Int) : GC 59 [.ag [.i a, .i b, .sl 3 (l.map eStrip), .i w]] = (True, .b (isBolt ⟨⟨a, b⟩, l, w⟩)) :=
  (show GC 59 _ = r59 [.ag (eBolt ⟨⟨a, b⟩, l, w⟩)] from rfl).trans (fnG_at (e := fun b => [.ag (eBolt b)]) (⟨⟨a, b⟩, l, w⟩ : Bolt) (dBolt_e _))
theorem gC80 (a b c : Int) : GC 80 [.ag [.i a, .i b, .i c]] = (True, .b (isStrip ⟨a, ⟨b, c⟩⟩)) := rfl
end Go.C02
