import Derived.Test.YtgcinomjcgebhaaC02A
set_option linter.all false
set_option linter.unusedSimpArgs false
set_option linter.unusedVariables false
namespace Go.C02
open Go.Fam Go.Proofs
def isSpan (s : Span) (most : Int) : Bool := within s.low 0 s.high && decide (s.high ≤ most)
theorem P73 (s : Span) (m : Int) : PureCall Try.prog 73 [.ag (eSpan s), .i m] (.b (isSpan s m)) := by
  refine pure_body okA hmix Try.func73 cb73 cc73 cs73 cn73 ?_
  simp only [rc73, rs73, eSpan, gA67, ru_reg, ru_seq, ru_ret, ru_keep, thenQ, run_nil, run_cons, Fam.step, stepQ, needQ, condB, ug, evO, opv, qv, pickV, binV, ldV, callV, V.cells, solid, hasRef, hasRefL, flat, upd_some, lkp_cons, lkp_nil, ↓reduceIte, Nat.reduceEqDiff, Nat.reduceAdd, Nat.reduceLT, Nat.reduceLeDiff, List.map_cons, List.map_nil, List.all_cons, List.all_nil, List.length_cons, List.length_nil, List.drop_succ_cons, List.drop_zero, List.headD_cons, List.append_nil, endQ, rvs, rv1, resV, vw_i, vw_b, vw_ag, zipA, Nat.zero_add, V.b.injEq, Bool.and_self, Bool.and_true, Bool.or_false, Bool.false_eq_true, true_and, and_true, and_self, implies_true, reduceCtorEq, beq_true, ite_f, Bool.decide_eq_true, imp_self, eSpan]
  by_cases h : within s.low 0 s.high = true <;> simp [h, isSpan]
theorem P58 (s : Span) (m : Int) : PureCall Try.prog 58 [.ag (eSpan s), .i m] (.b (isSpan s m)) := by
  refine pure_body okA hmix Try.func58 cb58 cc58 cs58 cn58 ?_
  simp only [rc58, rs58, eSpan, ru_reg, ru_seq, ru_ret, ru_keep, thenQ, run_nil, run_cons, Fam.step, stepQ, needQ, condB, ug, evO, opv, qv, pickV, binV, ldV, V.cells, solid, hasRef, hasRefL, upd_some, lkp_cons, lkp_nil, ↓reduceIte, Nat.reduceEqDiff, Nat.reduceAdd, Nat.reduceLeDiff, List.map_cons, List.map_nil, List.all_cons, List.all_nil, List.length_cons, List.length_nil, List.drop_succ_cons, List.drop_zero, List.headD_cons, endQ, rvs, rv1, resV, vw_i, vw_b, vw_ag, zipA, Nat.zero_add, V.b.injEq, Bool.and_self, Bool.and_true, Bool.or_false, Bool.false_eq_true, decide_eq_true_eq, decide_eq_false_iff_not, true_and, and_true, and_self, implies_true, reduceCtorEq, beq_true, ite_f, Bool.decide_eq_true, imp_self, eSpan]
  by_cases h : 0 ≤ s.low <;> by_cases h' : s.low ≤ s.high <;> simp [h, h', isSpan, within]
def isFalse (s : Int) (x : Strip) : Bool := !(within (pull x.long s) x.pulled.low x.pulled.high)
def falses (l : List Strip) (s : Int) : Nat := l.countP (isFalse s)
theorem take_succ_of {α : Type} {l : List α} {i : Nat} {x : α} (h : l[i]? = some x) : l.take (i + 1) = l.take i ++ [x] := by
  rw [List.take_add_one, h]; rfl
theorem P66 (b : Bolt) (s : Int) (hs : tame 1000 s) (hb : ∀ x ∈ b.strips, tame 10000 x.long) (hl : b.strips.length < 1000) : PureCall Try.prog 66 [.ag (eBolt b), .i s] (.i (falses b.strips s)) := by
  refine pure_body okA hmix Try.func66 cb66 cc66 cs66 cn66 ?_
  simp only [rc66, rs66, eBolt, ru_reg, ru_seq, ru_block, ru_keep, thenQ, run_nil, run_cons, Fam.step, stepQ, evO, opv, qv, pickV, V.cells, solid, hasRef, hasRefL, upd_some, lkp_cons, lkp_nil, ↓reduceIte, Nat.reduceEqDiff, List.map_cons, List.map_nil, vw_i, vw_sl, vw_ag, zipA, Nat.zero_add, Bool.or_false, true_and, and_self, reduceCtorEq, eBolt]
  refine ru_count b.strips.length (fun i => ⟨lkp [(1, .i s), (2, .pa (eBolt b)), (5, .i (falses (b.strips.take i) s)), (6, .i i)], []⟩) ?_ ?_ ?_
  · simp only [eBolt, falses, List.countP_nil, Int.natCast_zero, kp, lkp_cons, lkp_nil, ↓reduceIte, Nat.reduceEqDiff, List.map_cons, List.map_nil, List.take_zero, eBolt]
  · intro i hi
    obtain ⟨x, hx⟩ : ∃ x, b.strips[i]? = some x := ⟨_, List.getElem?_eq_getElem hi⟩
    have hlt : (i : Int) < b.strips.length := by omega
    have hm := List.mem_of_getElem? hx
    have hc : falses (b.strips.take i) s ≤ i := Nat.le_trans List.countP_le_length (by simp; omega)
    simp only [eBolt, gA54, gA57, hx, eStrip, hlt, take_succ_of hx, falses, List.countP_append, List.countP_singleton, Int.natCast_add, Int.natCast_one, ru_skip, ru_reg, ru_any, ru_seq, ru_cond, ru_block, ru_exit, ru_ret, ru_keep, putB, thenQ, blockQ, run_nil, run_cons, Fam.step, stepQ, runX, eff, nextD, fpR, fpQ, fpV, disjB, hits, putB, evO, opv, qv, pickV, binV, ldV, iadV, lenV, callV, hasRef, hasRefL, flat, kp, upd_some, lkp_cons, lkp_nil, ↓reduceIte, Nat.reduceEqDiff, Nat.reduceAdd, Nat.reduceLT, Nat.reduceLeDiff, List.map_cons, List.map_nil, List.all_nil, List.length_cons, List.length_nil, List.drop_succ_cons, List.drop_zero, List.headD_cons, List.cons_append, List.nil_append, List.append_nil, List.getElem?_nil, Option.getD_some, Option.getD_none, List.replicate_zero, List.isEmpty_nil, endQ, rvs, rv1, resV, vw_i, Int.natCast_nonneg, Nat.zero_add, V.i.injEq, Bool.and_self, Bool.and_true, Bool.false_and, Bool.or_false, Bool.not_true, Bool.not_false, Bool.false_eq_true, Bool.true_eq_false, decide_true, true_and, and_true, and_self, forall_const, false_implies, implies_true, Option.map_some, List.any_nil, List.contains_nil, Bool.not_eq_false', Bool.not_eq_true', List.length_map, Int.toNat_natCast, List.getD_eq_getElem?_getD, List.getElem?_map, eStrip, eBolt]
    have h1 := hb x hm
    have h2 : tame 1000000 x.long ∧ tame 1000000 s := by unfold tame at *; omega
    have h3 : inI ((i : Int) + 1) := by unfold inI; omega
    unfold falses at hc
    refine ⟨h2, fun h => ?_, fun h => ?_⟩
    · have h4 : inI (((b.strips.take i).countP (isFalse s) : Int) + 1) := by unfold inI; omega
      have h5 : isFalse s x = true := by simpa [isFalse] using h
      exact ⟨h4, h3, by simp [h5]⟩
    · have h5 : isFalse s x = false := by simpa [isFalse] using h
      exact ⟨h3, by simp [h5]⟩
  · simp only [eBolt, List.take_length, ru_skip, ru_reg, ru_any, ru_seq, ru_cond, ru_block, ru_exit, ru_ret, ru_keep, putB, thenQ, blockQ, run_nil, run_cons, Fam.step, stepQ, runX, eff, nextD, fpR, fpQ, fpV, disjB, hits, putB, evO, opv, qv, pickV, binV, ldV, iadV, lenV, callV, hasRef, hasRefL, upd_some, lkp_cons, lkp_nil, ↓reduceIte, Nat.reduceEqDiff, Nat.reduceAdd, Nat.reduceLT, Nat.reduceLeDiff, List.map_cons, List.map_nil, List.all_nil, List.length_cons, List.length_nil, List.drop_succ_cons, List.drop_zero, List.headD_cons, List.cons_append, List.nil_append, List.append_nil, List.getElem?_nil, Option.getD_none, List.replicate_zero, List.isEmpty_nil, endQ, rvs, rv1, resV, vw_i, Int.lt_irrefl, Int.natCast_nonneg, Nat.zero_add, Bool.and_self, Bool.and_true, Bool.false_and, Bool.or_false, Bool.not_true, Bool.not_false, Bool.false_eq_true, decide_false, true_and, and_self, false_and, and_false, forall_const, List.any_nil, List.contains_nil, imp_self, List.length_map, Int.toNat_natCast, List.getD_eq_getElem?_getD, List.getElem?_map, eBolt]

def r73 : List V → Prop × V | [.ag [.i a, .i b], .i m] => (True, .b (isSpan ⟨a, b⟩ m)) | _ => (False, .u)
theorem h73 (vs : List V) (h : (r73 vs).1) : PureCall Try.prog 73 vs (r73 vs).2 := by
  unfold r73 at h ⊢; split at h <;> first | exact P73 ⟨_, _⟩ _ | exact h.elim
theorem h58 (vs : List V) (h : (r73 vs).1) : PureCall Try.prog 58 vs (r73 vs).2 := by
  unfold r73 at h ⊢; split at h <;> first | exact P58 ⟨_, _⟩ _ | exact h.elim
def eBI (a : Bolt × Int) : List V := [.ag (eBolt a.1), .i a.2]
def dBI : List V → Bolt × Int | [.ag cs, .i n] => (dBolt cs, n) | _ => (⟨⟨0, 0⟩, [], 0⟩, 0)
theorem dBI_e (a : Bolt × Int) : dBI (eBI a) = a := by simp [dBI, eBI, dBolt_e]
def ok66 (l : List Strip) (s : Int) : Prop := tame 1000 s ∧ (∀ x ∈ l, tame 10000 x.long) ∧ l.length < 1000
def r66 : List V → Prop × V := fnG eBI dBI (fun a => ok66 a.1.strips a.2) (fun a => (falses a.1.strips a.2 : Int)) .i
def GB : Gam := ((GA.ext 73 r73).ext 58 r73).ext 66 r66
theorem okB : GOk Try.prog GB :=
  ((okA.ext (fun a w => Try.call73 a w) h73).ext (fun a w => Try.call58 a w) h58).ext (fun a w => Try.call66 a w) (fnG_ok fun a h => P66 a.1 a.2 h.1 h.2.1 h.2.2)
theorem gB54 (n lo hi : Int) : GB 54 [.i n, .i lo, .i hi] = (True, .b (within n lo hi)) := rfl
theorem gB67 (n lo hi : Int) : GB 67 [.i n, .i lo, .i hi] = (True, .b (within n lo hi)) := rfl
theorem gB57 (l s : Int) : GB 57 [.i l, .i s] = (tame 1000000 l ∧ tame 1000000 s, .i (pull l s)) := rfl
theorem gB69 (l s : Int) : GB 69 [.i l, .i s] = (tame 1000000 l ∧ tame 1000000 s, .i (pull l s)) := rfl
theorem gB73 (a b m : Int) : GB 73 [.ag [.i a, .i b], .i m] = (True, .b (isSpan ⟨a, b⟩ m)) := rfl
theorem gB58 (a b m : Int) : GB 58 [.ag [.i a, .i b], .i m] = (True, .b (isSpan ⟨a, b⟩ m)) := rfl
theorem gB66 (a b : Int) (l : List Strip) (w s : Int) : GB 66 [.ag [.i a, .i b, .sl 3 (l.map eStrip), .i w], .i s] = (ok66 l s, .i (falses l s)) :=
  (show GB 66 _ = r66 (eBI (⟨⟨a, b⟩, l, w⟩, s)) from rfl).trans (fnG_at _ (dBI_e _))
end Go.C02
