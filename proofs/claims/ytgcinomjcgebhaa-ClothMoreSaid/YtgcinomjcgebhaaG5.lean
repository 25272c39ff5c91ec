import Derived.Test.YtgcinomjcgebhaaG4
set_option linter.all false
set_option linter.unusedSimpArgs false
set_option linter.unusedVariables false
namespace Go.C02
open Go.Fam Go.Proofs
def isSpan (s : Span) (most : Int) : Bool := within s.low 0 s.high && decide (s.high ≤ most)
theorem P73 (s : Span) (m : Int) : PureCall Try.prog 73 [.ag (eSpan s), .i m] (.b (isSpan s m)) := by
  refine pure_body okA hmix Try.func73 cb73 cc73 cs73 cn73 ?_
  simp only [rc73, rs73, eSpan, gA67, ru_reg, ru_seq, ru_ret, ru_keep, thenQ, run_nil, run_cons, Fam.step, stepQ, needQ, condB, ug, evO, opv, qv, pickV_bb, binV, ldV, callV, V.cells, solid, hasRef, hasRefL, flat, upd_some, lkp_cons, lkp_nil, ↓reduceIte, Nat.reduceEqDiff, Nat.reduceAdd, Nat.reduceLT, Nat.reduceLeDiff, List.map_cons, List.map_nil, List.all_cons, List.all_nil, List.length_cons, List.length_nil, List.drop_succ_cons, List.drop_zero, List.headD_cons, List.append_nil, endQ, rvs, rv1, resV, vw_i, vw_b, vw_ag, zipA, Nat.zero_add, V.b.injEq, Bool.and_self, Bool.and_true, Bool.or_false, Bool.false_eq_true, true_and, and_true, and_self, implies_true, reduceCtorEq, beq_true, ite_f, Bool.decide_eq_true, imp_self, eSpan]
  by_cases h : within s.low 0 s.high = true <;> simp [h, isSpan]
theorem P58 (s : Span) (m : Int) : PureCall Try.prog 58 [.ag (eSpan s), .i m] (.b (isSpan s m)) := by
  refine pure_body okA hmix Try.func58 cb58 cc58 cs58 cn58 ?_
  simp only [rc58, rs58, eSpan, ru_reg, ru_seq, ru_ret, ru_keep, thenQ, run_nil, run_cons, Fam.step, stepQ, needQ, condB, ug, evO, opv, qv, pickV_bb, binV, ldV, V.cells, solid, hasRef, hasRefL, upd_some, lkp_cons, lkp_nil, ↓reduceIte, Nat.reduceEqDiff, Nat.reduceAdd, Nat.reduceLeDiff, List.map_cons, List.map_nil, List.all_cons, List.all_nil, List.length_cons, List.length_nil, List.drop_succ_cons, List.drop_zero, List.headD_cons, endQ, rvs, rv1, resV, vw_i, vw_b, vw_ag, zipA, Nat.zero_add, V.b.injEq, Bool.and_self, Bool.and_true, Bool.or_false, Bool.false_eq_true, decide_eq_true_eq, decide_eq_false_iff_not, true_and, and_true, and_self, implies_true, reduceCtorEq, beq_true, ite_f, Bool.decide_eq_true, imp_self, eSpan]
  by_cases h : 0 ≤ s.low <;> by_cases h' : s.low ≤ s.high <;> simp [h, h', isSpan, within]
def isFalse (s : Int) (x : Strip) : Bool := !(within (pull x.long s) x.pulled.low x.pulled.high)
def falses (l : List Strip) (s : Int) : Nat := l.countP (isFalse s)
theorem take_succ_of {α : Type} {l : List α} {i : Nat} {x : α} (h : l[i]? = some x) : l.take (i + 1) = l.take i ++ [x] := by
  rw [List.take_add_one, h]; rfl
theorem P66 (b : Bolt) (s : Int) (hs : tame 1000 s) (hb : ∀ x ∈ b.strips, tame 10000 x.long) (hl : b.strips.length < 1000) : PureCall Try.prog 66 [.ag (eBolt b), .i s] (.i (falses b.strips s)) := by
  refine pure_body okA hmix Try.func66 cb66 cc66 cs66 cn66 ?_
  simp only [rc66, rs66, eBolt, ru_reg, ru_seq, ru_block, ru_keep, thenQ, run_nil, run_cons, Fam.step, stepQ, evO, opv, qv, V.cells, solid, hasRef, hasRefL, upd_some, lkp_cons, lkp_nil, ↓reduceIte, Nat.reduceEqDiff, List.map_cons, List.map_nil, vw_i, vw_sl, vw_ag, zipA, Nat.zero_add, Bool.or_false, true_and, and_self, reduceCtorEq, eBolt]
  refine ru_count b.strips.length (fun i => ⟨lkp [(1, .i s), (2, .pa (eBolt b)), (5, .i (falses (b.strips.take i) s)), (6, .i i)], []⟩) ?_ ?_ ?_
  · simp only [eBolt, falses, List.countP_nil, Int.natCast_zero, kp, lkp_cons, lkp_nil, ↓reduceIte, Nat.reduceEqDiff, List.map_cons, List.map_nil, List.take_zero, eBolt]
  · intro i hi
    obtain ⟨x, hx⟩ : ∃ x, b.strips[i]? = some x := ⟨_, List.getElem?_eq_getElem hi⟩
    have hlt : (i : Int) < b.strips.length := by omega
    have hm := List.mem_of_getElem? hx
    have hc : falses (b.strips.take i) s ≤ i := Nat.le_trans List.countP_le_length (by simp; omega)
    simp only [eBolt, gA54, gA57, hx, eStrip, hlt, take_succ_of hx, falses, List.countP_append, List.countP_singleton, Int.natCast_add, Int.natCast_one, ru_skip, ru_reg, ru_any, ru_seq, ru_cnd, ite_P, ru_block, ru_keep, putBs, thenQ, blockQ, run_nil, run_cons, Fam.step, stepQ, runX, eff, nextD, fpR, fpQ, fpV, disjB, hits, evO, opv, qv, binV, ldV, iadV, lenV, callV, hasRef, hasRefL, flat, kp, upd_some, lkp_cons, lkp_nil, ↓reduceIte, Nat.reduceEqDiff, Nat.reduceAdd, Nat.reduceLT, Nat.reduceLeDiff, List.map_cons, List.map_nil, List.all_nil, List.length_cons, List.length_nil, List.drop_succ_cons, List.drop_zero, List.headD_cons, List.cons_append, List.nil_append, List.append_nil, List.getElem?_nil, Option.getD_some, Option.getD_none, List.replicate_zero, List.isEmpty_nil, vw_i, Int.natCast_nonneg, Nat.zero_add, Bool.and_self, Bool.and_true, Bool.false_and, Bool.or_false, Bool.not_true, Bool.not_false, Bool.false_eq_true, decide_true, true_and, and_true, and_self, implies_true, Option.map_some, List.any_nil, List.contains_nil, Bool.not_eq_true', List.length_map, Int.toNat_natCast, List.getD_eq_getElem?_getD, List.getElem?_map, Bool.not_eq_false, eStrip, eBolt]
    have h1 := hb x hm
    have h2 : tame 1000000 x.long ∧ tame 1000000 s := by unfold tame at *; omega
    have h3 : inI ((i : Int) + 1) := by unfold inI; omega
    unfold falses at hc
    refine ⟨h2, fun h => ?_, fun h => ?_⟩
    · have h4 : inI (((b.strips.take i).countP (isFalse s) : Int) + 1) := by unfold inI; omega
      have h5 : isFalse s x = true := by simpa [isFalse] using h
      exact ⟨h4, h3, by simp [h5]⟩
    · have h5 : isFalse s x = false := by simpa [isFalse] using h
      exact ⟨h3, by simp [h5]⟩
  · simp only [eBolt, List.take_length, ru_reg, ru_seq, ru_cnd, ru_exit, ru_ret, ru_keep, thenQ, blockQ, run_nil, run_cons, Fam.step, stepQ, evO, opv, qv, binV, ldV, lenV, upd_some, lkp_cons, lkp_nil, ↓reduceIte, Nat.reduceEqDiff, Nat.reduceAdd, Nat.reduceLeDiff, List.map_cons, List.map_nil, List.length_cons, List.length_nil, List.drop_succ_cons, List.drop_zero, List.headD_cons, endQ, rvs, rv1, resV, vw_i, Int.lt_irrefl, Nat.zero_add, Bool.false_eq_true, decide_false, and_self, List.length_map, eBolt]

def r73 : List V → Prop × V | [.ag [.i a, .i b], .i m] => (True, .b (isSpan ⟨a, b⟩ m)) | _ => (False, .u)
theorem h73 (vs : List V) (h : (r73 vs).1) : PureCall Try.prog 73 vs (r73 vs).2 := by
  unfold r73 at h ⊢; split at h <;> first | exact P73 ⟨_, _⟩ _ | exact h.elim
theorem h58 (vs : List V) (h : (r73 vs).1) : PureCall Try.prog 58 vs (r73 vs).2 := by
  unfold r73 at h ⊢; split at h <;> first | exact P58 ⟨_, _⟩ _ | exact h.elim
def eBI (a : Bolt × Int) : List V := [.ag (eBolt a.1), .i a.2]
def dBI : List V → Bolt × Int | [.ag cs, .i n] => (dBolt cs, n) | _ => (⟨⟨0, 0⟩, [], 0⟩, 0)
theorem dBI_e (a : Bolt × Int) : dBI (eBI a) = a := by simp [dBI, eBI, dBolt_e]
def ok66 (l : List Strip) (s : Int) : Prop := tame 1000 s ∧ (∀ x ∈ l, tame 10000 x.long) ∧ l.length < 1000
def r66 : List V → Prop × V := fnG eBI dBI (fun a => ok66 a.1.strips a.2) (fun a => (falses a.1.strips a.2 : Int)) .i
def GB : Gam := ((GA.ext 73 r73).ext 58 r73).ext 66 r66
theorem okB : GOk Try.prog GB :=
  ((okA.ext (fun a w => Try.call73 a w) h73).ext (fun a w => Try.call58 a w) h58).ext (fun a w => Try.call66 a w) (fnG_ok fun a h => P66 a.1 a.2 h.1 h.2.1 h.2.2)
theorem gB54 (n lo hi : Int) : GB 54 [.i n, .i lo, .i hi] = (True, .b (within n lo hi)) := rfl
theorem gB67 (n lo hi : Int) : GB 67 [.i n, .i lo, .i hi] = (True, .b (within n lo hi)) := rfl
theorem gB73 (a b m : Int) : GB 73 [.ag [.i a, .i b], .i m] = (True, .b (isSpan ⟨a, b⟩ m)) := rfl
theorem gB58 (a b m : Int) : GB 58 [.ag [.i a, .i b], .i m] = (True, .b (isSpan ⟨a, b⟩ m)) := rfl
theorem gB66 (a b : Int) (l : List Strip) (w s : Int) : GB 66 [.ag [.i a, .i b, .sl 3 (l.map eStrip), .i w], .i s] = (ok66 l s, .i (falses l s)) :=
  (show GB 66 _ = r66 (eBI (⟨⟨a, b⟩, l, w⟩, s)) from rfl).trans (fnG_at _ (dBI_e _))
end Go.C02
set_option linter.unusedSimpArgs false
set_option linter.unusedVariables false
namespace Go.C02
open Go.Fam Go.Proofs
def can (b : Bolt) (s : Int) : Bool := within s b.stretch.low b.stretch.high && decide ((falses b.strips s : Int) ≤ b.wrong)
theorem P49 (b : Bolt) (s : Int) (h : ok66 b.strips s) : PureCall Try.prog 49 [.ag (eBolt b), .i s] (.b (can b s)) := by
  refine pure_body okB hmix Try.func49 cb49 cc49 cs49 cn49 ?_
  simp only [rc49, rs49, eBolt, gB54, gB66, h, ru_reg, ru_any, ru_seq, ru_ret, ru_keep, putBs, thenQ, run_nil, run_cons, Fam.step, stepQ, needQ, condB, ug, runX, eff, nextD, fpR, fpQ, fpV, disjB, hits, evO, opv, qv, pickV_bb, binV, ldV, callV, V.cells, solid, hasRef, hasRefL, flat, upd_some, lkp_cons, lkp_nil, ↓reduceIte, Nat.reduceEqDiff, Nat.reduceAdd, Nat.reduceLT, Nat.reduceLeDiff, List.map_cons, List.map_nil, List.all_cons, List.all_nil, List.length_cons, List.length_nil, List.drop_succ_cons, List.drop_zero, List.take_succ_cons, List.take_nil, List.headD_cons, List.cons_append, List.nil_append, List.append_nil, List.getElem?_nil, Option.getD_none, List.replicate_zero, List.isEmpty_nil, endQ, rvs, rv1, resV, vw_i, vw_b, vw_sl, vw_ag, zipA, Nat.zero_add, V.b.injEq, Bool.and_self, Bool.and_true, Bool.false_and, Bool.or_false, Bool.not_true, Bool.not_false, Bool.false_eq_true, true_and, and_true, and_self, implies_true, reduceCtorEq, List.any_nil, List.contains_nil, beq_true, ite_f, Bool.decide_eq_true, imp_self, List.getD_eq_getElem?_getD, eBolt]
  rfl
def isStrip (x : Strip) : Bool := within x.long 1 2000 && isSpan x.pulled 4000
theorem P80 (s : Strip) : PureCall Try.prog 80 [.ag (eStrip s)] (.b (isStrip s)) := by
  refine pure_body okB hmix Try.func80 cb80 cc80 cs80 cn80 ?_
  simp only [rc80, rs80, eStrip, gB67, gB73, ru_reg, ru_seq, ru_ret, ru_keep, thenQ, run_nil, run_cons, Fam.step, stepQ, needQ, condB, ug, evO, opv, qv, pickV_bb, ldV, callV, V.cells, solid, hasRef, hasRefL, flat, upd_some, lkp_cons, lkp_nil, ↓reduceIte, Nat.reduceEqDiff, Nat.reduceAdd, Nat.reduceLT, Nat.reduceLeDiff, List.map_cons, List.map_nil, List.all_cons, List.all_nil, List.length_cons, List.length_nil, List.drop_succ_cons, List.drop_zero, List.take_succ_cons, List.take_nil, List.headD_cons, List.append_nil, endQ, rvs, rv1, resV, vw_i, vw_b, vw_ag, zipA, Nat.zero_add, V.b.injEq, Bool.and_self, Bool.and_true, Bool.or_false, Bool.false_eq_true, true_and, and_true, and_self, implies_true, beq_true, ite_f, Bool.decide_eq_true, imp_self, spanE, eStrip]
  rfl
def isBolt (b : Bolt) : Bool := isSpan b.stretch 60 && decide (b.strips.length ≤ 8) && within b.wrong 0 2 && b.strips.all isStrip
theorem P59 (b : Bolt) : PureCall Try.prog 59 [.ag (eBolt b)] (.b (isBolt b)) := by
  refine pure_body okB hmix Try.func59 cb59 cc59 cs59 cn59 ?_
  simp only [rc59, rs59, gB54, gB58, ru_skip, ru_reg, ru_seq, ru_cnd, ite_P, ru_block, ru_ret, ru_keep, thenQ, run_nil, run_cons, Fam.step, stepQ, needQ, condB, ug, evO, opv, qv, pickV_bb, binV, ldV, lenV, callV, V.cells, solid, hasRef, hasRefL, flat, upd_some, lkp_cons, lkp_nil, ↓reduceIte, Nat.reduceEqDiff, Nat.reduceAdd, Nat.reduceLT, Nat.reduceLeDiff, List.map_cons, List.map_nil, List.all_cons, List.all_nil, List.length_cons, List.length_nil, List.drop_succ_cons, List.drop_zero, List.take_succ_cons, List.take_zero, List.headD_cons, List.append_nil, endQ, rvs, rv1, resV, vw_i, vw_b, vw_sl, vw_ag, zipA, Nat.zero_add, V.b.injEq, Bool.and_self, Bool.and_true, Bool.or_false, Bool.false_eq_true, true_and, and_true, and_self, implies_true, beq_false, Bool.not_not, Bool.not_eq_false', Bool.not_eq_true', ite_t, Bool.decide_eq_true, Bool.decide_eq_false, imp_self, List.length_map, Bool.not_eq_true, spanE, eBolt]
  refine ⟨fun h => ?_, fun h => ?_⟩
  · unfold isBolt
    cases h1 : isSpan b.stretch 60 <;> cases h2 : within b.wrong 0 2 <;> simp [h1, h2] at h ⊢
    intro h3; omega
  · have hb : isSpan b.stretch 60 = true ∧ b.strips.length ≤ 8 ∧ within b.wrong 0 2 = true := by
      cases h1 : isSpan b.stretch 60 <;> cases h2 : within b.wrong 0 2 <;> simp [h1, h2] at h ⊢
      omega
    refine ru_countC b.strips.length (fun i => ⟨lkp [(1, .pa (eBolt b)), (3, .i i)], []⟩) (fun i => (b.strips.take i).all isStrip = true) ?_ ?_ ?_ ?_
    · simp only [Int.natCast_zero, kp, lkp_cons, lkp_nil, ↓reduceIte, Nat.reduceEqDiff, List.map_cons, List.map_nil, eBolt]
    · rfl
    · intro i hi hc
      obtain ⟨x, hx⟩ : ∃ x, b.strips[i]? = some x := ⟨_, List.getElem?_eq_getElem hi⟩
      have hlt : (i : Int) < b.strips.length := by omega
      have h3 : inI ((i : Int) + 1) := by unfold inI; omega
      simp only [gB54, gB58, hx, hlt, Int.natCast_add, Int.natCast_one, all_take_succ hx, hc, h3, ru_skip, ru_reg, ru_seq, ru_cnd, ite_P, ru_block, ru_ret, ru_keep, thenQ, blockQ, run_nil, run_cons, Fam.step, stepQ, needQ, condB, ug, evO, opv, qv, pickV_bb, binV, ldV, iadV, lenV, callV, hasRef, hasRefL, flat, kp, upd_some, lkp_cons, lkp_nil, ↓reduceIte, Nat.reduceEqDiff, Nat.reduceAdd, Nat.reduceLT, Nat.reduceLeDiff, List.map_cons, List.map_nil, List.all_cons, List.all_nil, List.length_cons, List.length_nil, List.drop_succ_cons, List.drop_zero, List.take_succ_cons, List.take_nil, List.headD_cons, List.append_nil, Option.getD_some, endQ, rvs, rv1, resV, vw_i, vw_b, vw_ag, Int.natCast_nonneg, Nat.zero_add, V.b.injEq, Bool.and_self, Bool.and_true, Bool.true_and, Bool.or_false, Bool.false_eq_true, decide_true, true_and, and_true, and_self, implies_true, Option.map_some, beq_false, Bool.not_not, Bool.not_eq_false', Bool.not_eq_true', ite_t, Bool.decide_eq_false, imp_self, List.length_map, Int.toNat_natCast, List.getD_eq_getElem?_getD, List.getElem?_map, Bool.not_eq_true, spanE, eStrip, eBolt]
      refine ⟨fun h => ?_, fun h => ?_⟩
      · have h5 : isStrip x = false := by cases h1 : within x.long 1 2000 <;> cases h2 : isSpan x.pulled 4000 <;> simp [isStrip, h1, h2] at h ⊢
        simp [isBolt, all_of_mem hx h5]
      · unfold isStrip
        cases h1 : within x.long 1 2000 <;> cases h2 : isSpan x.pulled 4000 <;> simp [h1, h2] at h ⊢
    · intro hc
      rw [List.take_length] at hc
      simp only [ru_reg, ru_seq, ru_cnd, ru_exit, ru_ret, ru_keep, thenQ, blockQ, run_nil, run_cons, Fam.step, stepQ, evO, opv, qv, binV, ldV, lenV, upd_some, lkp_cons, lkp_nil, ↓reduceIte, Nat.reduceEqDiff, Nat.reduceAdd, Nat.reduceLeDiff, List.map_cons, List.map_nil, List.length_cons, List.length_nil, List.drop_succ_cons, List.drop_zero, List.headD_cons, endQ, rvs, rv1, resV, vw_b, Int.lt_irrefl, Nat.zero_add, V.b.injEq, Bool.false_eq_true, decide_false, true_and, and_self, List.length_map, eBolt]
      simp [isBolt, hb, hc]

def dB : List V → Bolt | [.ag cs] => dBolt cs | _ => ⟨⟨0, 0⟩, [], 0⟩
def r49 : List V → Prop × V := fnG eBI dBI (fun a => ok66 a.1.strips a.2) (fun a => can a.1 a.2) .b
def r59 : List V → Prop × V := fnG (fun b => [.ag (eBolt b)]) dB (fun _ => True) isBolt .b
def r80 : List V → Prop × V | [.ag [.i a, .i b, .i c]] => (True, .b (isStrip ⟨a, ⟨b, c⟩⟩)) | _ => (False, .u)
theorem h80 (vs : List V) (h : (r80 vs).1) : PureCall Try.prog 80 vs (r80 vs).2 := by
  unfold r80 at h ⊢; split at h <;> first | exact P80 ⟨_, ⟨_, _⟩⟩ | exact h.elim
def GC : Gam := ((GB.ext 49 r49).ext 59 r59).ext 80 r80
theorem okC : GOk Try.prog GC :=
  ((okB.ext (fun a w => Try.call49 a w) (fnG_ok fun a h => P49 a.1 a.2 h)).ext (fun a w => Try.call59 a w) (fnG_ok fun a _ => P59 a)).ext (fun a w => Try.call80 a w) h80
theorem gC54 (n lo hi : Int) : GC 54 [.i n, .i lo, .i hi] = (True, .b (within n lo hi)) := rfl
theorem gC67 (n lo hi : Int) : GC 67 [.i n, .i lo, .i hi] = (True, .b (within n lo hi)) := rfl
theorem gC57 (l s : Int) : GC 57 [.i l, .i s] = (tame 1000000 l ∧ tame 1000000 s, .i (pull l s)) := rfl
theorem gC69 (l s : Int) : GC 69 [.i l, .i s] = (tame 1000000 l ∧ tame 1000000 s, .i (pull l s)) := rfl
theorem gC73 (a b m : Int) : GC 73 [.ag [.i a, .i b], .i m] = (True, .b (isSpan ⟨a, b⟩ m)) := rfl
theorem gC58 (a b m : Int) : GC 58 [.ag [.i a, .i b], .i m] = (True, .b (isSpan ⟨a, b⟩ m)) := rfl
theorem gC59 (a b : Int) (l : List Strip) (w : Int) : GC 59 [.ag [.i a, .i b, .sl 3 (l.map eStrip), .i w]] = (True, .b (isBolt ⟨⟨a, b⟩, l, w⟩)) :=
  (show GC 59 _ = r59 [.ag (eBolt ⟨⟨a, b⟩, l, w⟩)] from rfl).trans (fnG_at (e := fun b => [.ag (eBolt b)]) (⟨⟨a, b⟩, l, w⟩ : Bolt) (dBolt_e _))
end Go.C02
set_option linter.unusedSimpArgs false
set_option linter.unusedVariables false
namespace Go.C02
open Go.Fam Go.Proofs
def headOk (d : Dome) : Bool := within d.bolts.length 1 4 && within d.gores.length 3 16 && within d.loss 0 20 && within d.rounds.length 1 12 && decide (d.widths.length = d.rounds.length) && within d.slope 0 500
def goreOk (d : Dome) (g : Int) : Bool := within g 0 (d.bolts.length - 1)
def roundOk (s : Span) : Bool := isSpan s 40000
def widthOk (d : Dome) (n : Int) : Bool := within n (2 * d.loss) 2000
def isDome (d : Dome) : Bool := headOk d && d.gores.all (goreOk d) && d.rounds.all roundOk && d.widths.all (widthOk d)
def check (d : Dome) : Int := if isDome d then (if d.bolts.all isBolt then 0 else 21) else 20

theorem P39 (d : Dome) : PureCall Try.prog 39 [.ag (eDome d)] (.i (check d)) := by
  refine pure_body okC hmix Try.func39 cb39 cc39 cs39 cn39 ?_
  simp only [rc39, rs39, gC54, ru_skip, ru_reg, ru_seq, ru_cnd, ite_P, ru_block, ru_ret, ru_keep, thenQ, run_nil, run_cons, Fam.step, stepQ, needQ, condB, ug, evO, opv, qv, pickV_bb, binV, ldV, lenV, callV, V.cells, solid, hasRef, hasRefL, flat, upd_some, lkp_cons, lkp_nil, ↓reduceIte, Nat.reduceEqDiff, Nat.reduceAdd, Nat.reduceLT, Nat.reduceLeDiff, List.map_cons, List.map_nil, List.all_cons, List.all_nil, List.length_cons, List.length_nil, List.drop_succ_cons, List.drop_zero, List.headD_cons, List.append_nil, endQ, rvs, rv1, resV, vw_i, vw_sl, vw_ag, zipA, Nat.zero_add, V.i.injEq, Bool.and_self, Bool.and_true, Bool.or_false, Bool.false_eq_true, true_and, and_true, and_self, implies_true, beq_false, Bool.not_not, Bool.not_eq_false', Bool.not_eq_true', ite_t, Bool.decide_eq_true, Bool.decide_eq_false, imp_self, List.length_map, Bool.not_eq_true, eDome]
  refine ⟨fun h => ?_, fun h => ?_⟩
  · have h1 : headOk d = false := by
      unfold headOk
      cases h1 : within (↑d.bolts.length) 1 4 <;> cases h2 : within (↑d.gores.length) 3 16 <;> cases h3 : within d.loss 0 20 <;> cases h4 : within (↑d.rounds.length) 1 12 <;> cases h5 : within d.slope 0 500 <;>
        simp [h1, h2, h3, h4, h5] at h ⊢
      omega
    simp [check, isDome, h1]
  have hh : headOk d = true := by
    unfold headOk
    cases h1 : within (↑d.bolts.length) 1 4 <;> cases h2 : within (↑d.gores.length) 3 16 <;> cases h3 : within d.loss 0 20 <;> cases h4 : within (↑d.rounds.length) 1 12 <;> cases h5 : within d.slope 0 500 <;>
      simp [h1, h2, h3, h4, h5] at h ⊢
    omega
  have hs : d.bolts.length ≤ 4 ∧ d.gores.length ≤ 16 ∧ (0 ≤ d.loss ∧ d.loss ≤ 20) ∧ d.rounds.length ≤ 12 ∧ d.widths.length = d.rounds.length := by
    simp [headOk, within] at hh
    omega
  have hin : inI (2 * d.loss) := by unfold inI; omega
  have hin2 : inI ((d.bolts.length : Int) - 1) := by unfold inI; omega
  refine ru_countC d.gores.length (fun i => ⟨lkp [(1, .pa (eDome d)), (3, .i i)], []⟩) (fun i => (d.gores.take i).all (goreOk d) = true) ?_ ?_ ?_ ?_
  · simp only [Int.natCast_zero, kp, lkp_cons, lkp_nil, ↓reduceIte, Nat.reduceEqDiff, List.map_cons, List.map_nil, eDome]
  · rfl
  · intro i hi hc
    obtain ⟨x, hx⟩ : ∃ x, d.gores[i]? = some x := ⟨_, List.getElem?_eq_getElem hi⟩
    have hlt : (i : Int) < d.gores.length := by omega
    have h3 : inI ((i : Int) + 1) := by unfold inI; omega
    simp only [gC54, hx, hlt, Int.natCast_add, Int.natCast_one, all_take_succ hx, hc, h3, hin2, ru_skip, ru_reg, ru_any, ru_seq, ru_cnd, ite_P, ru_block, ru_ret, ru_keep, putBs, thenQ, blockQ, run_nil, run_cons, Fam.step, stepQ, runX, eff, nextD, fpR, fpQ, fpV, disjB, hits, evO, opv, qv, binV, ldV, iadV, lenV, callV, hasRef, hasRefL, flat, kp, upd_some, lkp_cons, lkp_nil, ↓reduceIte, Nat.reduceEqDiff, Nat.reduceAdd, Nat.reduceLT, Nat.reduceLeDiff, List.map_cons, List.map_nil, List.all_nil, List.length_cons, List.length_nil, List.drop_succ_cons, List.drop_zero, List.headD_cons, List.cons_append, List.nil_append, List.append_nil, List.getElem?_nil, Option.getD_some, Option.getD_none, List.replicate_zero, List.isEmpty_nil, endQ, rvs, rv1, resV, vw_i, Int.natCast_nonneg, Nat.zero_add, V.i.injEq, Bool.and_self, Bool.and_true, Bool.true_and, Bool.false_and, Bool.or_false, Bool.not_true, Bool.not_false, Bool.false_eq_true, decide_true, true_and, and_true, and_self, implies_true, Option.map_some, List.any_nil, List.contains_nil, Bool.not_eq_true', List.length_map, Int.toNat_natCast, List.getD_eq_getElem?_getD, List.getElem?_map, Bool.not_eq_false, eDome, eI]
    refine ⟨fun h => ?_, fun h => ?_⟩
    · have h5 : goreOk d x = false := h
      simp [check, isDome, all_of_mem hx h5]
    · exact h
  intro hc1
  rw [List.take_length] at hc1
  simp only [ru_reg, ru_seq, ru_cnd, ru_block, ru_exit, ru_keep, thenQ, blockQ, run_nil, run_cons, Fam.step, stepQ, evO, opv, qv, binV, ldV, lenV, upd_some, lkp_cons, lkp_nil, ↓reduceIte, Nat.reduceEqDiff, Nat.reduceAdd, Nat.reduceLeDiff, List.map_cons, List.map_nil, List.length_cons, List.length_nil, List.drop_succ_cons, List.drop_zero, List.headD_cons, Int.lt_irrefl, Nat.zero_add, Bool.false_eq_true, decide_false, true_and, List.length_map, eDome]
  refine ru_countC d.rounds.length (fun i => ⟨lkp [(1, .pa (eDome d)), (4, .i i)], []⟩) (fun i => (d.rounds.take i).all roundOk = true ∧ (d.widths.take i).all (widthOk d) = true) ?_ ?_ ?_ ?_
  · simp only [Int.natCast_zero, kp, lkp_cons, lkp_nil, ↓reduceIte, Nat.reduceEqDiff, List.map_cons, List.map_nil, eDome]
  · exact ⟨rfl, rfl⟩
  · intro i hi hc
    obtain ⟨x, hx⟩ : ∃ x, d.rounds[i]? = some x := ⟨_, List.getElem?_eq_getElem hi⟩
    obtain ⟨y, hy⟩ : ∃ y, d.widths[i]? = some y := ⟨_, List.getElem?_eq_getElem (by omega)⟩
    have hlt : (i : Int) < d.rounds.length := by omega
    have hlt' : (i : Int) < d.widths.length := by omega
    have h3 : inI ((i : Int) + 1) := by unfold inI; omega
    simp only [gC54, gC58, hx, hy, hlt, hlt', Int.natCast_add, Int.natCast_one, all_take_succ hx, all_take_succ hy, hc.1, hc.2, h3, hin, ru_skip, ru_reg, ru_any, ru_seq, ru_cnd, ite_P, ru_block, ru_ret, ru_keep, putBs, thenQ, blockQ, run_nil, run_cons, Fam.step, stepQ, needQ, condB, ug, runX, eff, nextD, fpR, fpQ, fpV, disjB, hits, evO, opv, qv, pickV_bb, binV, ldV, iadV, lenV, callV, hasRef, hasRefL, flat, kp, upd_some, lkp_cons, lkp_nil, ↓reduceIte, Nat.reduceEqDiff, Nat.reduceAdd, Nat.reduceLT, Nat.reduceLeDiff, List.map_cons, List.map_nil, List.all_cons, List.all_nil, List.length_cons, List.length_nil, List.drop_succ_cons, List.drop_zero, List.take_succ_cons, List.take_nil, List.headD_cons, List.cons_append, List.nil_append, List.append_nil, List.getElem?_nil, Option.getD_some, Option.getD_none, List.replicate_zero, List.isEmpty_nil, endQ, rvs, rv1, resV, vw_i, vw_ag, Int.natCast_nonneg, Nat.zero_add, V.i.injEq, Bool.and_self, Bool.and_true, Bool.true_and, Bool.false_and, Bool.or_false, Bool.not_true, Bool.not_false, Bool.false_eq_true, decide_true, true_and, and_true, and_self, implies_true, Option.map_some, List.any_nil, List.contains_nil, beq_false, Bool.not_not, Bool.not_eq_false', Bool.not_eq_true', ite_t, Bool.decide_eq_false, imp_self, List.length_map, Int.toNat_natCast, List.getD_eq_getElem?_getD, List.getElem?_map, Bool.not_eq_true, spanE, eSpan, eDome, eI]
    refine ⟨fun h => ?_, fun h => ?_⟩
    · by_cases h5 : isSpan x 40000 = true
      · have h6 : widthOk d y = false := by simpa [h5, widthOk] using h
        simp [check, isDome, all_of_mem hy h6]
      · have h6 : roundOk x = false := by simpa [roundOk] using h5
        simp [check, isDome, all_of_mem hx h6]
    · have h7 : isSpan x 40000 = true ∧ within y (2 * d.loss) 2000 = true := by
        cases h1 : isSpan x 40000 <;> cases h2 : within y (2 * d.loss) 2000 <;> simp [h1, h2] at h ⊢
      exact ⟨h7.1, h7.2⟩
  intro hc2
  rw [List.take_length, ← hs.2.2.2.2, List.take_length] at hc2
  simp only [ru_reg, ru_seq, ru_cnd, ru_block, ru_exit, ru_keep, thenQ, blockQ, run_nil, run_cons, Fam.step, stepQ, evO, opv, qv, binV, ldV, lenV, upd_some, lkp_cons, lkp_nil, ↓reduceIte, Nat.reduceEqDiff, Nat.reduceAdd, Nat.reduceLeDiff, List.map_cons, List.map_nil, List.length_cons, List.length_nil, List.drop_succ_cons, List.drop_zero, List.headD_cons, Int.lt_irrefl, Nat.zero_add, Bool.false_eq_true, decide_false, true_and, List.length_map, eDome]
  refine ru_countC d.bolts.length (fun i => ⟨lkp [(1, .pa (eDome d)), (5, .i i)], []⟩) (fun i => (d.bolts.take i).all isBolt = true) ?_ ?_ ?_ ?_
  · simp only [Int.natCast_zero, kp, lkp_cons, lkp_nil, ↓reduceIte, Nat.reduceEqDiff, List.map_cons, List.map_nil, eDome]
  · rfl
  · intro i hi hc
    obtain ⟨x, hx⟩ : ∃ x, d.bolts[i]? = some x := ⟨_, List.getElem?_eq_getElem hi⟩
    have hlt : (i : Int) < d.bolts.length := by omega
    have h3 : inI ((i : Int) + 1) := by unfold inI; omega
    simp only [gC59, hx, hlt, Int.natCast_add, Int.natCast_one, all_take_succ hx, hc, h3, ru_skip, ru_reg, ru_seq, ru_cnd, ite_P, ru_block, ru_ret, ru_keep, thenQ, blockQ, run_nil, run_cons, Fam.step, stepQ, evO, opv, qv, binV, ldV, iadV, lenV, callV, hasRef, hasRefL, flat, kp, upd_some, lkp_cons, lkp_nil, ↓reduceIte, Nat.reduceEqDiff, Nat.reduceAdd, Nat.reduceLT, Nat.reduceLeDiff, List.map_cons, List.map_nil, List.length_cons, List.length_nil, List.drop_zero, List.take_succ_cons, List.take_nil, List.headD_cons, List.append_nil, Option.getD_some, endQ, rvs, rv1, resV, vw_i, vw_sl, vw_ag, Int.natCast_nonneg, Nat.zero_add, V.i.injEq, Bool.true_and, Bool.or_false, Bool.false_eq_true, decide_true, true_and, and_true, and_self, implies_true, Option.map_some, Bool.not_eq_true', imp_self, List.length_map, Int.toNat_natCast, List.getD_eq_getElem?_getD, List.getElem?_map, Bool.not_eq_false, spanE, boltE, eBolt, eDome]
    intro h
    simp [check, isDome, hh, hc1, hc2, all_of_mem hx h]
  intro hc3
  rw [List.take_length] at hc3
  simp only [ru_reg, ru_seq, ru_cnd, ru_exit, ru_ret, ru_keep, thenQ, blockQ, run_nil, run_cons, Fam.step, stepQ, evO, opv, qv, binV, ldV, lenV, upd_some, lkp_cons, lkp_nil, ↓reduceIte, Nat.reduceEqDiff, Nat.reduceAdd, Nat.reduceLeDiff, List.map_cons, List.map_nil, List.length_cons, List.length_nil, List.drop_zero, List.headD_cons, endQ, rvs, rv1, resV, vw_i, Int.lt_irrefl, Nat.zero_add, V.i.injEq, Bool.false_eq_true, decide_false, true_and, and_self, List.length_map, eDome]
  simp [check, isDome, hh, hc1, hc2, hc3]
end Go.C02
set_option linter.unusedSimpArgs false
set_option linter.unusedVariables false
namespace Go.C02
open Go.Fam Go.Proofs
def dD : List V → Dome | [.ag cs] => dDome cs | _ => ⟨[], [], 0, [], [], 0⟩
def r39 : List V → Prop × V := fnG (fun d => [.ag (eDome d)]) dD (fun _ => True) check .i
theorem P20 (s : Span) (n : Int) : PureCall Try.prog 20 [.ag (eSpan s), .i n] (.b (within n s.low s.high)) := by
  refine pure_body okC hmix Try.func20 cb20 cc20 cs20 cn20 ?_
  simp only [rc20, rs20, ru_reg, ru_seq, ru_ret, ru_keep, thenQ, run_nil, run_cons, Fam.step, stepQ, needQ, condB, ug, evO, opv, qv, pickV_bb, binV, ldV, V.cells, solid, hasRef, hasRefL, upd_some, lkp_cons, lkp_nil, ↓reduceIte, Nat.reduceEqDiff, Nat.reduceAdd, Nat.reduceLeDiff, List.map_cons, List.map_nil, List.all_cons, List.all_nil, List.length_cons, List.length_nil, List.drop_succ_cons, List.drop_zero, List.headD_cons, endQ, rvs, rv1, resV, vw_i, vw_b, vw_ag, zipA, Nat.zero_add, V.b.injEq, Bool.and_self, Bool.and_true, Bool.or_false, Bool.false_eq_true, decide_eq_true_eq, decide_eq_false_iff_not, true_and, and_true, and_self, implies_true, reduceCtorEq, beq_true, ite_f, imp_self, eSpan]
  rfl
theorem P46 (d : Dome) (n : Int) (h : d.rounds.length < 1000) : PureCall Try.prog 46 [.ag (eDome d), .i n] (.b (within n 0 (d.rounds.length - 1))) := by
  refine pure_body okC hmix Try.func46 cb46 cc46 cs46 cn46 ?_
  simp only [rc46, rs46, gC67, ru_reg, ru_seq, ru_ret, ru_keep, thenQ, run_nil, run_cons, Fam.step, stepQ, evO, opv, qv, binV, ldV, lenV, callV, V.cells, solid, hasRef, hasRefL, flat, upd_some, lkp_cons, lkp_nil, ↓reduceIte, Nat.reduceEqDiff, Nat.reduceAdd, Nat.reduceLT, Nat.reduceLeDiff, List.map_cons, List.map_nil, List.length_cons, List.length_nil, List.drop_succ_cons, List.drop_zero, List.headD_cons, List.append_nil, endQ, rvs, rv1, resV, vw_i, vw_b, vw_sl, vw_ag, zipA, Nat.zero_add, Bool.or_false, Bool.false_eq_true, true_and, and_true, and_self, implies_true, reduceCtorEq, List.length_map, eDome]
  unfold inI; omega
theorem P56 (d : Dome) (n : Int) (h : d.bolts.length < 1000) : PureCall Try.prog 56 [.ag (eDome d), .i n] (.b (within n 0 (d.bolts.length - 1))) := by
  refine pure_body okC hmix Try.func56 cb56 cc56 cs56 cn56 ?_
  simp only [rc56, rs56, gC67, ru_reg, ru_seq, ru_ret, ru_keep, thenQ, run_nil, run_cons, Fam.step, stepQ, evO, opv, qv, binV, ldV, lenV, callV, V.cells, solid, hasRef, hasRefL, flat, upd_some, lkp_cons, lkp_nil, ↓reduceIte, Nat.reduceEqDiff, Nat.reduceAdd, Nat.reduceLT, Nat.reduceLeDiff, List.map_cons, List.map_nil, List.length_cons, List.length_nil, List.drop_zero, List.headD_cons, List.append_nil, endQ, rvs, rv1, resV, vw_i, vw_b, vw_sl, vw_ag, zipA, Nat.zero_add, Bool.or_false, Bool.false_eq_true, true_and, and_true, and_self, implies_true, reduceCtorEq, List.length_map, eDome]
  unfold inI; omega
theorem take_eq_of {α : Type} {a b : List α} {i : Nat} {x y : α} (hx : a[i]? = some x) (hy : b[i]? = some y) (h : a.take i = b.take i) (e : x = y) : a.take (i + 1) = b.take (i + 1) := by
  rw [List.take_add_one, List.take_add_one, hx, hy, h, e]
theorem P28 (a b : List Int) (h : a.length < 10000000) : PureCall Try.prog 28 [.sl 1 (a.map eI), .sl 1 (b.map eI)] (.b (decide (a = b))) := by
  refine pure_body okC hmix Try.func28 cb28 cc28 cs28 cn28 ?_
  simp only [rc28, rs28, ru_skip, ru_reg, ru_seq, ru_cnd, ite_P, ru_block, ru_ret, ru_keep, thenQ, run_nil, run_cons, Fam.step, stepQ, evO, opv, qv, binV, lenV, upd_some, lkp_cons, lkp_nil, ↓reduceIte, Nat.reduceEqDiff, List.map_cons, List.map_nil, endQ, rvs, rv1, resV, vw_b, zipA, Nat.zero_add, V.b.injEq, decide_eq_false_iff_not, true_and, and_self, reduceCtorEq, Bool.not_eq_true', List.length_map, Classical.not_not]
  refine ⟨fun hn => ?_, fun hn => ?_⟩
  · have : a ≠ b := fun e => hn (by rw [e])
    simp [this]
  have hn : a.length = b.length := by omega
  refine ru_countC a.length (fun i => ⟨lkp [(0, .sl 1 (a.map eI)), (1, .sl 1 (b.map eI)), (5, .i i)], []⟩) (fun i => a.take i = b.take i) ?_ ?_ ?_ ?_
  · simp only [Int.natCast_zero, kp, lkp_cons, lkp_nil, ↓reduceIte, Nat.reduceEqDiff, List.map_cons, List.map_nil, reduceCtorEq]
  · simp
  · intro i hi hc
    obtain ⟨x, hx⟩ : ∃ x, a[i]? = some x := ⟨_, List.getElem?_eq_getElem hi⟩
    obtain ⟨y, hy⟩ : ∃ y, b[i]? = some y := ⟨_, List.getElem?_eq_getElem (by omega)⟩
    have hlt : (i : Int) < a.length := by omega
    have hlt' : (i : Int) < b.length := by omega
    have h3 : inI ((i : Int) + 1) := by unfold inI; omega
    simp only [hx, hy, hlt, hlt', Int.natCast_add, Int.natCast_one, h3, ru_skip, ru_reg, ru_any, ru_seq, ru_cnd, ite_P, ru_block, ru_ret, ru_keep, putBs, thenQ, blockQ, run_nil, run_cons, Fam.step, stepQ, runX, eff, nextD, fpR, fpQ, fpV, disjB, hits, evO, opv, qv, binV, ldV, iadV, lenV, kp, upd_some, lkp_cons, lkp_nil, ↓reduceIte, Nat.reduceEqDiff, Nat.reduceLeDiff, List.map_cons, List.map_nil, List.all_nil, List.length_cons, List.length_nil, List.headD_cons, List.cons_append, List.nil_append, List.append_nil, List.getElem?_nil, Option.getD_some, Option.getD_none, List.replicate_zero, List.isEmpty_nil, endQ, rvs, rv1, resV, vw_b, Int.natCast_nonneg, Nat.zero_add, V.b.injEq, Bool.and_self, Bool.and_true, Bool.false_and, Bool.or_false, Bool.not_true, Bool.not_false, Bool.false_eq_true, decide_true, decide_eq_false_iff_not, true_and, and_true, and_self, reduceCtorEq, Option.map_some, List.any_nil, List.contains_nil, Bool.not_eq_true', List.length_map, Int.toNat_natCast, List.getD_eq_getElem?_getD, List.getElem?_map, Classical.not_not, eI]
    refine ⟨fun h => ?_, fun h => ?_⟩
    · have : a ≠ b := fun e => h (by rw [e, hy] at hx; exact (Option.some.inj hx).symm)
      simp [this]
    · exact take_eq_of hx hy hc h
  · intro hc
    have : a = b := by rwa [List.take_length, hn, List.take_length] at hc
    subst this
    simp only [ru_reg, ru_seq, ru_cnd, ru_exit, ru_ret, ru_keep, thenQ, blockQ, run_nil, run_cons, Fam.step, stepQ, evO, opv, qv, binV, lenV, upd_some, lkp_cons, lkp_nil, ↓reduceIte, Nat.reduceEqDiff, List.map_cons, List.map_nil, endQ, rvs, rv1, resV, vw_b, Int.lt_irrefl, Bool.false_eq_true, decide_true, decide_false, and_self, reduceCtorEq, List.length_map]
theorem P37 (l : List Int) (n : Int) (h : l.length < 10000000) : PureCall Try.prog 37 [.sl 1 (l.map eI), .i n] (.b (decide (n ∈ l))) := by
  refine pure_body okC hmix Try.func37 cb37 cc37 cs37 cn37 ?_
  simp only [rc37, rs37, ru_reg, ru_seq, ru_block, ru_keep, thenQ, run_nil, run_cons, Fam.step, stepQ, evO, opv, qv, upd_some, lkp_cons, lkp_nil, ↓reduceIte, Nat.reduceEqDiff, List.map_cons, List.map_nil, zipA, Nat.zero_add, true_and, reduceCtorEq]
  refine ru_countC l.length (fun i => ⟨lkp [(0, .sl 1 (l.map eI)), (1, .i n), (5, .i i)], []⟩) (fun i => n ∉ l.take i) ?_ ?_ ?_ ?_
  · simp only [Int.natCast_zero, kp, lkp_cons, lkp_nil, ↓reduceIte, Nat.reduceEqDiff, List.map_cons, List.map_nil, reduceCtorEq]
  · simp
  · intro i hi hc
    obtain ⟨x, hx⟩ : ∃ x, l[i]? = some x := ⟨_, List.getElem?_eq_getElem hi⟩
    have hlt : (i : Int) < l.length := by omega
    have h3 : inI ((i : Int) + 1) := by unfold inI; omega
    simp only [hx, hlt, Int.natCast_add, Int.natCast_one, take_succ_of hx, hc, h3, List.mem_append, List.mem_singleton, ru_skip, ru_reg, ru_seq, ru_cnd, ite_P, ru_block, ru_ret, ru_keep, thenQ, blockQ, run_nil, run_cons, Fam.step, stepQ, evO, opv, qv, binV, ldV, iadV, lenV, kp, upd_some, lkp_cons, lkp_nil, ↓reduceIte, Nat.reduceEqDiff, Nat.reduceLeDiff, List.map_cons, List.map_nil, List.length_cons, List.length_nil, List.headD_cons, Option.getD_some, endQ, rvs, rv1, resV, vw_b, Int.natCast_nonneg, Nat.zero_add, V.b.injEq, Bool.false_eq_true, decide_true, decide_eq_true_eq, true_and, and_true, and_self, reduceCtorEq, Option.map_some, List.length_map, Int.toNat_natCast, List.getD_eq_getElem?_getD, List.getElem?_map, eI]
    refine ⟨fun e => ?_, fun e => ?_⟩
    · subst e
      simp [List.mem_of_getElem? hx]
    · rintro (h | h)
      · exact h
      · exact e h.symm
  · intro hc
    rw [List.take_length] at hc
    simp only [ru_reg, ru_seq, ru_cnd, ru_exit, ru_ret, ru_keep, thenQ, blockQ, run_nil, run_cons, Fam.step, stepQ, evO, opv, qv, binV, lenV, upd_some, lkp_cons, lkp_nil, ↓reduceIte, Nat.reduceEqDiff, List.map_cons, List.map_nil, endQ, rvs, rv1, resV, vw_b, Int.lt_irrefl, V.b.injEq, Bool.false_eq_true, decide_false, true_and, and_self, reduceCtorEq, List.length_map]
    simp [hc]

theorem pull_tame {l s : Int} (hl : tame 1000000 l) (hs : tame 1000000 s) : tame 1001000000000 (pull l s) := by
  have h1 : tame 1001000 (1000 + s) := by unfold tame at *; omega
  have h2 := mul_tame hl h1 (by decide) (by decide)
  unfold pull
  unfold tame at *
  generalize l * (1000 + s) = x at *
  constructor
  · by_cases h : 0 ≤ x
    · rw [Int.tdiv_eq_ediv_of_nonneg h]; omega
    · have e : x = -(-x) := by omega
      rw [e, Int.neg_tdiv, Int.tdiv_eq_ediv_of_nonneg (by omega)]; omega
  · by_cases h : 0 ≤ x
    · rw [Int.tdiv_eq_ediv_of_nonneg h]; omega
    · have e : x = -(-x) := by omega
      rw [e, Int.neg_tdiv, Int.tdiv_eq_ediv_of_nonneg (by omega)]; omega
theorem sum_tame {M : Int} (hM : 0 ≤ M) : ∀ (l : List Int), (∀ x ∈ l, tame M x) → tame (M * l.length) l.sum
  | [], _ => by simp [tame]
  | x :: l, h => by
    have h1 := h x (by simp)
    have h2 := sum_tame hM l fun y hy => h y (by simp [hy])
    have h3 : M * ((x :: l).length : Int) = M * l.length + M := by rw [List.length_cons, Int.natCast_add, Int.mul_add]; simp
    rw [h3, List.sum_cons]
    unfold tame at *
    omega

def sumBy (l : List Int) (f : Int → Int) : Int := (l.map f).sum
theorem sumBy_succ {l : List Int} {f : Int → Int} {i : Nat} {x : Int} (h : l[i]? = some x) : sumBy (l.take (i + 1)) f = sumBy (l.take i) f + f x := by
  simp [sumBy, take_succ_of h]
theorem sumBy_in {l : List Int} {f : Int → Int} (i : Nat) (hl : l.length ≤ 100000) (hf : ∀ x ∈ l, tame 1001000000000 (f x)) : tame 100100000000000000 (sumBy (l.take i) f) := by
  have := sum_tame (M := 1001000000000) (by decide) ((l.take i).map f) (fun y hy => by
    obtain ⟨x, hx, rfl⟩ := List.mem_map.1 hy
    exact hf x (List.mem_of_mem_take hx))
  have h2 : ((l.take i).map f).length ≤ l.length := by simp; omega
  unfold sumBy
  unfold tame at *
  omega
def roundBy (d : Dome) (w : Int) (t : List Int) : Int := sumBy d.gores fun g => pull (w - 2 * d.loss) (t[g.toNat]?.getD 0)
theorem P38 (d : Dome) (w : Int) (t : List Int) (h1 : tame 100000 w) (h2 : tame 100000 d.loss) (h3 : ∀ g ∈ d.gores, 0 ≤ g ∧ g < t.length) (h4 : ∀ s ∈ t, tame 100000 s) (h5 : d.gores.length < 100000) :
    PureCall Try.prog 38 [.ag (eDome d), .i w, .sl 1 (t.map eI)] (.i (roundBy d w t)) := by
  refine pure_body okC hmix Try.func38 cb38 cc38 cs38 cn38 ?_
  simp only [rc38, rs38, ru_reg, ru_seq, ru_block, ru_keep, thenQ, run_nil, run_cons, Fam.step, stepQ, evO, opv, qv, V.cells, solid, hasRef, hasRefL, upd_some, lkp_cons, lkp_nil, ↓reduceIte, Nat.reduceEqDiff, Nat.reduceAdd, List.map_cons, List.map_nil, vw_i, vw_sl, vw_ag, zipA, Nat.zero_add, Bool.or_false, true_and, and_self, reduceCtorEq, eDome]
  have i1 : inI (2 * d.loss) := by unfold inI tame at *; omega
  have i2 : inI (w - 2 * d.loss) := by unfold inI tame at *; omega
  have i3 : tame 1000000 (w - 2 * d.loss) := by unfold tame at *; omega
  have hf : ∀ g ∈ d.gores, tame 1001000000000 (pull (w - 2 * d.loss) (t[g.toNat]?.getD 0)) := by
    intro g hg
    refine pull_tame i3 ?_
    obtain ⟨h6, h7⟩ := h3 g hg
    obtain ⟨y, hy⟩ : ∃ y, t[g.toNat]? = some y := ⟨_, List.getElem?_eq_getElem (by omega)⟩
    have := h4 y (List.mem_of_getElem? hy)
    rw [hy]; unfold tame at *; simp; omega
  refine ru_count d.gores.length (fun i => ⟨lkp [(1, .i w), (2, .sl 1 (t.map eI)), (3, .pa (eDome d)), (7, .i (sumBy (d.gores.take i) fun g => pull (w - 2 * d.loss) (t[g.toNat]?.getD 0))), (8, .i i)], []⟩) ?_ ?_ ?_
  · simp only [Int.natCast_zero, kp, lkp_cons, lkp_nil, ↓reduceIte, Nat.reduceEqDiff, List.map_cons, List.map_nil, List.take_zero, eDome]
    rfl
  · intro i hi
    obtain ⟨x, hx⟩ : ∃ x, d.gores[i]? = some x := ⟨_, List.getElem?_eq_getElem hi⟩
    obtain ⟨h6, h7⟩ := h3 x (List.mem_of_getElem? hx)
    obtain ⟨y, hy⟩ : ∃ y, t[x.toNat]? = some y := ⟨_, List.getElem?_eq_getElem (by omega)⟩
    have hlt : (i : Int) < d.gores.length := by omega
    have i4 : inI ((i : Int) + 1) := by unfold inI; omega
    have i5 : tame 1000000 y := by have := h4 y (List.mem_of_getElem? hy); unfold tame at *; omega
    have i6 := sumBy_in i (by omega) hf
    have i7 := hf x (List.mem_of_getElem? hx)
    have i8 : inI (sumBy (d.gores.take i) (fun g => pull (w - 2 * d.loss) (t[g.toNat]?.getD 0)) + pull (w - 2 * d.loss) y) := by
      rw [hy] at i7
      simp only [Option.getD_some] at i7
      unfold inI tame at *; omega
    simp only [gC57, hx, hlt, Int.natCast_add, Int.natCast_one, sumBy_succ hx, hy, h6, h7, i1, i2, i3, i4, i5, i8, ru_skip, ru_reg, ru_any, ru_seq, ru_cnd, ru_block, ru_keep, putBs, thenQ, blockQ, run_nil, run_cons, Fam.step, stepQ, runX, eff, nextD, fpR, fpQ, fpV, disjB, hits, evO, opv, qv, binV, ldV, iadV, lenV, callV, hasRef, hasRefL, flat, kp, upd_some, lkp_cons, lkp_nil, ↓reduceIte, Nat.reduceEqDiff, Nat.reduceAdd, Nat.reduceLT, Nat.reduceLeDiff, List.map_cons, List.map_nil, List.all_nil, List.length_cons, List.length_nil, List.drop_succ_cons, List.drop_zero, List.headD_cons, List.cons_append, List.nil_append, List.append_nil, List.getElem?_nil, Option.getD_some, Option.getD_none, List.replicate_zero, List.isEmpty_nil, vw_i, Int.natCast_nonneg, Nat.zero_add, Bool.and_self, Bool.and_true, Bool.false_and, Bool.or_false, Bool.not_true, Bool.not_false, Bool.false_eq_true, decide_true, and_self, implies_true, Option.map_some, List.any_nil, List.contains_nil, List.length_map, Int.toNat_natCast, List.getD_eq_getElem?_getD, List.getElem?_map, eDome, eI]
  · simp only [List.take_length, roundBy, ru_reg, ru_seq, ru_cnd, ru_exit, ru_ret, ru_keep, thenQ, blockQ, run_nil, run_cons, Fam.step, stepQ, evO, opv, qv, binV, ldV, lenV, upd_some, lkp_cons, lkp_nil, ↓reduceIte, Nat.reduceEqDiff, Nat.reduceAdd, Nat.reduceLeDiff, List.map_cons, List.map_nil, List.length_cons, List.length_nil, List.drop_succ_cons, List.drop_zero, List.headD_cons, endQ, rvs, rv1, resV, vw_i, Int.lt_irrefl, Nat.zero_add, Bool.false_eq_true, decide_false, and_self, List.length_map, eDome]

theorem P61 (b : Bolt) (s : Int) (h : ok66 b.strips s) : PureCall Try.prog 61 [.ag (eBolt b), .i s] (.i (falses b.strips s)) := by
  refine pure_body okC hmix Try.func61 cb61 cc61 cs61 cn61 ?_
  obtain ⟨hs, hb, hl⟩ := h
  simp only [rc61, rs61, ru_reg, ru_seq, ru_block, ru_keep, thenQ, run_nil, run_cons, Fam.step, stepQ, evO, opv, qv, ldV, lenV, V.cells, solid, hasRef, hasRefL, upd_some, lkp_cons, lkp_nil, ↓reduceIte, Nat.reduceEqDiff, Nat.reduceAdd, Nat.reduceLeDiff, List.map_cons, List.map_nil, List.length_cons, List.length_nil, List.drop_succ_cons, List.drop_zero, List.headD_cons, vw_i, vw_sl, vw_ag, zipA, Nat.zero_add, Bool.or_false, Bool.false_eq_true, true_and, and_self, reduceCtorEq, List.length_map, eBolt]
  refine ru_count b.strips.length (fun i => ⟨lkp [(1, .i s), (4, .i (falses (b.strips.take i) s)), (8, .sl 3 (b.strips.map eStrip)), (9, .i b.strips.length), (10, .i i)], []⟩) ?_ ?_ ?_
  · simp only [falses, List.countP_nil, Int.natCast_zero, cutH, kp, cutV, lkp_cons, lkp_nil, ↓reduceIte, Nat.reduceEqDiff, List.map_cons, List.map_nil, List.take_zero, List.take_nil]
  · intro i hi
    obtain ⟨x, hx⟩ : ∃ x, b.strips[i]? = some x := ⟨_, List.getElem?_eq_getElem hi⟩
    have hlt : (i : Int) < b.strips.length := by omega
    have hm := List.mem_of_getElem? hx
    have hc : falses (b.strips.take i) s ≤ i := Nat.le_trans List.countP_le_length (by simp; omega)
    simp only [gC67, gC69, hx, hlt, take_succ_of hx, falses, List.countP_append, List.countP_singleton, Int.natCast_add, Int.natCast_one, ru_skip, ru_reg, ru_any, ru_seq, ru_cnd, ite_P, ru_block, ru_keep, ru_drp, ↓cut_lkp, putBs, cutH, putB, thenQ, blockQ, run_nil, run_cons, Fam.step, stepQ, stepW, needW, runX, eff, nextD, fpR, fpQ, fpV, disjB, hits, putB, nv, sv, evO, opv, qv, binV, ldV, iadV, curG, callV, putAt, V.cells, solid, cellOk, hasRef, hasRefL, flat, kp, cutV, upd_some, upd_none, lkp_cons, lkp_nil, ↓reduceIte, Nat.reduceEqDiff, Nat.reduceAdd, Nat.reduceLT, Nat.reduceLeDiff, List.map_cons, List.map_nil, List.all_cons, List.all_nil, List.length_cons, List.length_nil, List.drop_succ_cons, List.drop_zero, List.drop_nil, List.take_succ_cons, List.take_zero, List.take_nil, List.headD_cons, List.cons_append, List.nil_append, List.append_nil, List.getElem?_cons_zero, List.getElem?_nil, Option.getD_some, Option.getD_none, List.set_cons_zero, List.replicate_zero, List.isEmpty_nil, vw_i, Int.natCast_nonneg, beq_self_eq_true, Nat.zero_add, Nat.add_zero, Bool.and_self, Bool.and_true, Bool.false_and, Bool.or_false, Bool.not_true, Bool.not_false, Bool.false_eq_true, decide_true, true_and, and_true, and_self, implies_true, Option.map_some, List.any_nil, List.contains_cons, List.contains_nil, Bool.not_eq_true', List.length_map, Int.toNat_natCast, List.getD_eq_getElem?_getD, List.getElem?_map, Bool.not_eq_false, eStrip]
    have h1 := hb x hm
    have h2 : tame 1000000 x.long ∧ tame 1000000 s := by unfold tame at *; omega
    have h3 : inI ((i : Int) + 1) := by unfold inI; omega
    unfold falses at hc
    refine ⟨h2, fun h => ?_, fun h => ?_⟩
    · have h4 : inI (((b.strips.take i).countP (isFalse s) : Int) + 1) := by unfold inI; omega
      have h5 : isFalse s x = true := by simpa [isFalse] using h
      exact ⟨h4, h3, by simp [h5]⟩
    · have h5 : isFalse s x = false := by simpa [isFalse] using h
      exact ⟨h3, by simp [h5]⟩
  · simp only [List.take_length, ru_reg, ru_seq, ru_cnd, ru_exit, ru_ret, ru_keep, thenQ, blockQ, run_nil, run_cons, Fam.step, stepQ, evO, opv, qv, binV, upd_some, lkp_cons, lkp_nil, ↓reduceIte, Nat.reduceEqDiff, List.map_cons, List.map_nil, endQ, rvs, rv1, resV, vw_i, Int.lt_irrefl, Bool.false_eq_true, decide_false, and_self]
def lowOf (t : Tent) (g : Int) : Int := ((t.can[g.toNat]?).getD []).headD 0
def highOf (t : Tent) (g : Int) : Int := ((t.can[g.toNat]?).getD []).getLastD 0
def roundOf (t : Tent) (w : Int) : Span := ⟨sumBy t.dome.gores fun g => pull (w - 2 * t.dome.loss) (lowOf t g), sumBy t.dome.gores fun g => pull (w - 2 * t.dome.loss) (highOf t g)⟩
def ok50 (t : Tent) (w : Int) : Prop := tame 100000 w ∧ tame 100000 t.dome.loss ∧ (∀ g ∈ t.dome.gores, 0 ≤ g ∧ g < t.can.length) ∧ (∀ l ∈ t.can, l ≠ [] ∧ l.length < 100000 ∧ ∀ s ∈ l, tame 100000 s) ∧ t.dome.gores.length < 100000
theorem P50 (t : Tent) (w : Int) (h : ok50 t w) : PureCall Try.prog 50 [.pa (eTent t), .i w] (.ag (eSpan (roundOf t w))) := by
  refine pure_body okC hmix Try.func50 cb50 cc50 cs50 cn50 ?_
  obtain ⟨h1, h2, h3, h4, h5⟩ := h
  simp only [rc50, rs50, ru_reg, ru_seq, ru_block, ru_keep, thenQ, run_nil, run_cons, Fam.step, stepQ, stepW, needW, nv, evO, opv, qv, ldV, lenV, upd_some, lkp_cons, lkp_nil, ↓reduceIte, Nat.reduceEqDiff, Nat.reduceAdd, Nat.reduceLeDiff, List.map_cons, List.map_nil, List.length_cons, List.length_nil, List.drop_succ_cons, List.drop_zero, List.headD_cons, List.cons_append, List.nil_append, zipA, Nat.zero_add, Bool.false_eq_true, true_and, and_self, reduceCtorEq, List.length_map, eSpan, eDome, eTent]
  have i1 : inI (2 * t.dome.loss) := by unfold inI tame at *; omega
  have i2 : inI (w - 2 * t.dome.loss) := by unfold inI tame at *; omega
  have i3 : tame 1000000 (w - 2 * t.dome.loss) := by unfold tame at *; omega
  have hget : ∀ g ∈ t.dome.gores, ∃ x l', t.can[g.toNat]? = some (x :: l') ∧ (∀ s ∈ x :: l', tame 100000 s) ∧ (x :: l').length < 100000 := by
    intro g hg
    obtain ⟨h6, h7⟩ := h3 g hg
    obtain ⟨y, hy⟩ : ∃ y, t.can[g.toNat]? = some y := ⟨_, List.getElem?_eq_getElem (by omega)⟩
    obtain ⟨a1, a2, a3⟩ := h4 y (List.mem_of_getElem? hy)
    cases y with
    | nil => exact absurd rfl a1
    | cons x l' => exact ⟨x, l', hy, a3, a2⟩
  have hlast : ∀ (x : Int) (l' : List Int), (x :: l')[l'.length]? = some ((x :: l').getLastD 0) := by
    intro x l'
    have := List.getLast?_eq_getElem? (l := x :: l')
    simp only [List.length_cons, Nat.add_sub_cancel] at this
    rw [← this, List.getLastD_eq_getLast?, List.getLast?_cons]
    rfl
  have hf1 : ∀ g ∈ t.dome.gores, tame 1001000000000 (pull (w - 2 * t.dome.loss) (lowOf t g)) := by
    intro g hg
    obtain ⟨x, l', e, a, _⟩ := hget g hg
    refine pull_tame i3 ?_
    have := a x (by simp)
    simp only [lowOf, e, Option.getD_some, List.headD_cons]
    unfold tame at *; omega
  have hf2 : ∀ g ∈ t.dome.gores, tame 1001000000000 (pull (w - 2 * t.dome.loss) (highOf t g)) := by
    intro g hg
    obtain ⟨x, l', e, a, _⟩ := hget g hg
    refine pull_tame i3 ?_
    have := a ((x :: l').getLastD 0) (List.mem_of_getElem? (hlast x l'))
    simp only [highOf, e, Option.getD_some]
    unfold tame at *; omega
  refine ru_count t.dome.gores.length (fun i => ⟨lkp [(0, .pa (eTent t)), (1, .i w), (4, .ad 0 0 0), (12, .sl 1 (t.dome.gores.map eI)), (13, .i t.dome.gores.length), (14, .i i)],
    [.cells 0 [.i (sumBy (t.dome.gores.take i) fun g => pull (w - 2 * t.dome.loss) (lowOf t g)), .i (sumBy (t.dome.gores.take i) fun g => pull (w - 2 * t.dome.loss) (highOf t g))]]⟩) ?_ ?_ ?_
  · simp only [Int.natCast_zero, kp, lkp_cons, lkp_nil, ↓reduceIte, Nat.reduceEqDiff, List.map_cons, List.map_nil, List.take_zero, List.cons_append, List.nil_append, reduceCtorEq, eDome, eTent]
    rfl
  · intro i hi
    obtain ⟨g, hg⟩ : ∃ g, t.dome.gores[i]? = some g := ⟨_, List.getElem?_eq_getElem hi⟩
    have hm := List.mem_of_getElem? hg
    obtain ⟨h6, h7⟩ := h3 g hm
    obtain ⟨x, l', hy, hc, hlen⟩ := hget g hm
    have hl := hlast x l'
    have hlt : (i : Int) < t.dome.gores.length := by omega
    have i4 : inI ((i : Int) + 1) := by unfold inI; omega
    have e1 : lowOf t g = x := by simp [lowOf, hy]
    have e2 : highOf t g = (x :: l').getLastD 0 := by simp only [highOf, hy, Option.getD_some]
    have i5 : tame 1000000 x := by have := hc x (by simp); unfold tame at *; omega
    have i6 : tame 1000000 ((x :: l').getLastD 0) := by have := hc _ (List.mem_of_getElem? hl); unfold tame at *; omega
    have j1 := sumBy_in i (by omega) hf1
    have j2 := sumBy_in i (by omega) hf2
    have j3 := hf1 g hm
    have j4 := hf2 g hm
    generalize hL : (x :: l').getLastD 0 = z at *
    have hl' : ([V.i x] :: l'.map eI)[l'.length]? = some [V.i z] := by
      have : ((x :: l').map eI)[l'.length]? = some (eI z) := by rw [List.getElem?_map, hl]; rfl
      exact this
    have k3 : inI (l'.length : Int) := by simp at hlen; unfold inI; omega
    have k4 : (0 : Int) < l'.length + 1 := by omega
    have k5 : (l'.length : Int) < l'.length + 1 := by omega
    have k1 : inI ((sumBy (t.dome.gores.take i) fun g => pull (w - 2 * t.dome.loss) (lowOf t g)) + pull (w - 2 * t.dome.loss) x) := by rw [e1] at j3; unfold inI tame at *; omega
    have k2 : inI ((sumBy (t.dome.gores.take i) fun g => pull (w - 2 * t.dome.loss) (highOf t g)) + pull (w - 2 * t.dome.loss) z) := by rw [e2] at j4; unfold inI tame at *; omega
    simp only [gC69, hg, hlt, Int.natCast_add, Int.natCast_one, sumBy_succ hg, hy, h6, h7, i1, i2, i3, i4, i5, i6, k1, k2, k3, k4, k5, hl', e1, e2, ru_skip, ru_reg, ru_any, ru_seq, ru_cnd, ru_block, ru_keep, putBs, optL, thenQ, blockQ, run_nil, run_cons, Fam.step, stepQ, needW, runX, eff, nextD, fpR, fpQ, fpV, disjB, hits, nv, sv, evO, opv, qv, binV, ldV, iadV, lenV, curG, callV, putAt, V.cells, solid, cellOk, hasRef, hasRefL, flat, kp, upd_some, upd_none, lkp_cons, lkp_nil, ↓reduceIte, Nat.reduceEqDiff, Nat.reduceAdd, Nat.reduceLT, Nat.reduceLeDiff, Int.add_sub_cancel, Int.toNat_zero, Int.reduceLE, List.map_cons, List.map_nil, List.all_cons, List.all_nil, List.length_cons, List.length_nil, List.drop_succ_cons, List.drop_zero, List.drop_nil, List.take_succ_cons, List.take_zero, List.headD_cons, List.cons_append, List.nil_append, List.append_nil, List.getElem?_cons_zero, List.getElem?_nil, Option.getD_some, Option.getD_none, List.set_cons_zero, List.replicate_zero, List.isEmpty_nil, List.isEmpty_cons, vw_i, Int.natCast_nonneg, beq_self_eq_true, Nat.zero_add, Nat.add_zero, Bool.and_self, Bool.and_true, Bool.true_and, Bool.false_and, Bool.or_false, Bool.false_or, Bool.not_true, Bool.not_false, Bool.false_eq_true, decide_true, and_self, implies_true, reduceCtorEq, Option.map_some, List.any_cons, List.any_nil, List.contains_cons, List.contains_nil, List.length_map, Int.toNat_natCast, List.getD_eq_getElem?_getD, List.getElem?_map, eDome, eI, eCan, eTent]
  · simp only [List.take_length, roundOf, ru_reg, ru_seq, ru_cnd, ru_exit, ru_ret, ru_keep, putB, thenQ, blockQ, run_nil, run_cons, Fam.step, stepQ, stepW, needW, putB, nv, sv, evO, opv, qv, binV, ldV, putAt, V.cells, solid, cellOk, upd_some, upd_none, lkp_cons, lkp_nil, ↓reduceIte, Nat.reduceEqDiff, Nat.reduceAdd, Nat.reduceLeDiff, List.map_cons, List.map_nil, List.all_cons, List.all_nil, List.length_cons, List.length_nil, List.drop_succ_cons, List.drop_zero, List.drop_nil, List.take_succ_cons, List.take_zero, List.take_nil, List.cons_append, List.nil_append, List.append_nil, List.getElem?_cons_zero, List.set_cons_zero, endQ, rvs, rv1, resV, vw_i, vw_ag, Int.lt_irrefl, Nat.zero_add, Bool.and_self, Bool.false_eq_true, decide_false, and_self, reduceCtorEq, eDome, eTent]
end Go.C02
set_option linter.unusedSimpArgs false
set_option linter.unusedVariables false
namespace Go.C02
open Go.Fam Go.Proofs
variable {Γ : Gam}
def idxOf {α : Type} (p : α → Bool) (l : List α) : Int := if l.any p then (l.findIdx p : Int) else -1
theorem idxOf_at {α : Type} {p : α → Bool} {l : List α} {i : Nat} {x : α} (hx : l[i]? = some x) (e : p x = true) (hc : ∀ j x, j < i → l[j]? = some x → p x = false) : idxOf p l = i := by
  have h1 : l.any p = true := List.any_eq_true.2 ⟨x, List.mem_of_getElem? hx, e⟩
  have hl := getElemLt hx
  have h2 : l[i] = x := by have := List.getElem?_eq_getElem hl; rw [this] at hx; exact Option.some.inj hx
  have h3 : l.findIdx p = i := (List.findIdx_eq hl).2 ⟨by rw [h2]; exact e, fun j hj => hc j _ hj (List.getElem?_eq_getElem (by omega))⟩
  simp [idxOf, h1, h3]
theorem idxOf_none {α : Type} {p : α → Bool} {l : List α} (h : ∀ x ∈ l, p x = false) : idxOf p l = -1 := by
  have : l.any p = false := by simpa using h
  simp [idxOf, this]
theorem idxOf_any {α : Type} (p : α → Bool) (l : List α) : decide (0 ≤ idxOf p l) = l.any p := by
  unfold idxOf
  cases h : l.any p <;> simp

theorem P87 (hG : GOk Try.prog Γ) (x : Strip) (f : Nat) (hf : f < 1000000) (caps : List V) (b : Bool) (hv : caps.map (vw [] 8) = caps) (hr : hasRefL caps = false) (h : Γ f (V.ag (eStrip x) :: caps) = (True, .b b)) :
    PureCall Try.prog 87 [V.ag (eStrip x), .pa [.fn f caps]] (.b (!b)) := by
  refine pure_body hG hmix Try.func87 cb87 cc87 cs87 cn87 ?_
  simp only [rc87, rs87, ru_reg, ru_seq, ru_ret, ru_keep, thenQ, run_nil, run_cons, Fam.step, stepQ, evO, opv, qv, ldV, callV, V.cells, solid, hasRef, hasRefL, upd_some, lkp_cons, lkp_nil, ↓reduceIte, Nat.reduceEqDiff, Nat.reduceAdd, Nat.reduceLeDiff, List.map_cons, List.map_nil, List.length_cons, List.length_nil, List.take_succ_cons, List.take_nil, List.headD_cons, List.cons_append, List.nil_append, endQ, rvs, rv1, resV, vw_i, vw_ag, zipA, Nat.zero_add, Bool.or_false, Bool.false_or, Bool.false_eq_true, true_and, and_self, reduceCtorEq, eStrip]
  try simp only [eStrip] at h
  simp only [h, hv, hr, hf, flat, vw_b, Bool.false_eq_true, and_self, implies_true]
theorem P90 (hG : GOk Try.prog Γ) (l : List Strip) (f : Nat) (hf : f < 1000000) (caps : List V) (p : Strip → Bool) (hv : caps.map (vw [] 8) = caps) (hr : hasRefL caps = false) (hl : l.length < 10000000)
    (h : ∀ x ∈ l, Γ f (V.ag (eStrip x) :: caps) = (True, .b (p x))) : PureCall Try.prog 90 [.sl 3 (l.map eStrip), .fn f caps] (.i (idxOf p l)) := by
  refine pure_body hG hmix Try.func90 cb90 cc90 cs90 cn90 ?_
  simp only [rc90, rs90, ru_reg, ru_seq, ru_block, ru_keep, thenQ, run_nil, run_cons, Fam.step, stepQ, evO, opv, qv, lenV, upd_some, lkp_cons, lkp_nil, ↓reduceIte, Nat.reduceEqDiff, Int.reduceNeg, List.map_cons, List.map_nil, zipA, Nat.zero_add, true_and, reduceCtorEq, List.length_map]
  refine ru_countC l.length (fun i => ⟨lkp [(0, .sl 3 (l.map eStrip)), (1, .fn f caps), (7, .i l.length), (8, .i i)], []⟩) (fun i => ∀ j x, j < i → l[j]? = some x → p x = false) ?_ ?_ ?_ ?_
  · simp only [Int.natCast_zero, kp, lkp_cons, lkp_nil, ↓reduceIte, Nat.reduceEqDiff, List.map_cons, List.map_nil, reduceCtorEq]
  · intro j x h; omega
  · intro i hi hc
    obtain ⟨x, hx⟩ : ∃ x, l[i]? = some x := ⟨_, List.getElem?_eq_getElem hi⟩
    have hlt : (i : Int) < l.length := by omega
    have h3 : inI ((i : Int) + 1) := by unfold inI; omega
    have hp := h x (List.mem_of_getElem? hx)
    try simp only [eStrip] at hp
    simp only [hx, hlt, Int.natCast_add, Int.natCast_one, h3, hp, hv, hr, hf, ru_skip, ru_reg, ru_seq, ru_cnd, ite_P, ru_block, ru_ret, ru_keep, thenQ, blockQ, run_nil, run_cons, Fam.step, stepQ, evO, opv, qv, binV, ldV, iadV, callV, hasRef, hasRefL, flat, kp, upd_some, lkp_cons, lkp_nil, ↓reduceIte, Nat.reduceEqDiff, Nat.reduceAdd, Nat.reduceLeDiff, Int.reduceNeg, List.map_cons, List.map_nil, List.length_cons, List.length_nil, List.take_succ_cons, List.take_nil, List.cons_append, List.nil_append, Option.getD_some, endQ, rvs, rv1, resV, vw_i, vw_ag, Int.natCast_nonneg, Nat.zero_add, V.i.injEq, Bool.or_false, Bool.false_eq_true, decide_true, true_and, and_true, and_self, implies_true, reduceCtorEq, Option.map_some, List.length_map, Int.toNat_natCast, List.getD_eq_getElem?_getD, List.getElem?_map, Bool.not_eq_true, eStrip]
    refine ⟨fun e => ?_, fun e => ?_⟩
    · rw [idxOf_at hx e hc]
    · intro j y hj hy
      by_cases hji : j < i
      · exact hc j y hji hy
      · have : j = i := by omega
        subst this
        rw [hx] at hy; cases hy; exact e
  · intro hc
    simp only [ru_reg, ru_seq, ru_cnd, ru_exit, ru_ret, ru_keep, thenQ, blockQ, run_nil, run_cons, Fam.step, stepQ, evO, opv, qv, binV, upd_some, lkp_cons, lkp_nil, ↓reduceIte, Nat.reduceEqDiff, Int.reduceNeg, List.map_cons, List.map_nil, endQ, rvs, rv1, resV, vw_i, Int.lt_irrefl, V.i.injEq, Bool.false_eq_true, decide_false, true_and, and_self, reduceCtorEq]
    exact (idxOf_none fun x hx => by
      obtain ⟨j, hj⟩ := List.getElem?_of_mem hx
      exact hc j x (by have := getElemLt hj; exact this) hj).symm
theorem P86 (hG : GOk Try.prog Γ) (l : List Strip) (f : Nat) (caps : List V) (p : Strip → Bool) (hv : caps.map (vw [] 7) = caps) (hr : hasRefL caps = false)
    (h : Γ 90 [.sl 3 (l.map eStrip), .fn f caps] = (True, .i (idxOf p l))) : PureCall Try.prog 86 [.sl 3 (l.map eStrip), .fn f caps] (.b (l.any p)) := by
  refine pure_body hG hmix Try.func86 cb86 cc86 cs86 cn86 ?_
  simp only [rc86, rs86, hv, hr, h, ru_reg, ru_seq, ru_ret, ru_keep, thenQ, run_nil, run_cons, Fam.step, stepQ, evO, opv, qv, binV, callV, hasRef, hasRefL, flat, upd_some, lkp_cons, lkp_nil, ↓reduceIte, Nat.reduceEqDiff, Nat.reduceLT, List.map_cons, List.map_nil, List.append_nil, endQ, rvs, rv1, resV, vw_b, vw_sl, vw_fn, zipA, Nat.zero_add, V.b.injEq, Bool.or_false, Bool.false_eq_true, true_and, and_self, implies_true, reduceCtorEq]
  rw [idxOf_any]
theorem P79 (hG : GOk Try.prog Γ) (l : List Strip) (f : Nat) (caps : List V) (p : Strip → Bool) (hv : caps.map (vw [] 7) = caps) (hr : hasRefL caps = false)
    (h : Γ 86 [.sl 3 (l.map eStrip), .fn 87 [.pa [.fn f caps]]] = (True, .b (l.any fun x => !p x))) : PureCall Try.prog 79 [.sl 3 (l.map eStrip), .fn f caps] (.b (l.all p)) := by
  refine pure_body hG hmix Try.func79 cb79 cc79 cs79 cn79 ?_
  simp only [rc79, rs79, hv, hr, h, ru_reg, ru_seq, ru_ret, ru_keep, thenQ, run_nil, run_cons, Fam.step, stepQ, evO, opv, qv, callV, V.cells, solid, hasRef, hasRefL, flat, upd_some, lkp_cons, lkp_nil, ↓reduceIte, Nat.reduceEqDiff, Nat.reduceLT, List.map_cons, List.map_nil, List.append_nil, endQ, rvs, rv1, resV, vw_b, vw_sl, vw_pa, vw_fn, zipA, Nat.zero_add, V.b.injEq, Bool.or_false, Bool.false_eq_true, true_and, and_self, implies_true, reduceCtorEq]
  simp [List.any_eq_not_all_not]

theorem P78 (hG : GOk Try.prog Γ) (x : Bolt) (f : Nat) (hf : f < 1000000) (caps : List V) (b : Bool) (hv : caps.map (vw [] 8) = caps) (hr : hasRefL caps = false) (h : Γ f (V.ag (eBolt x) :: caps) = (True, .b b)) :
    PureCall Try.prog 78 [V.ag (eBolt x), .pa [.fn f caps]] (.b (!b)) := by
  refine pure_body hG hmix Try.func78 cb78 cc78 cs78 cn78 ?_
  simp only [rc78, rs78, ru_reg, ru_seq, ru_ret, ru_keep, thenQ, run_nil, run_cons, Fam.step, stepQ, evO, opv, qv, ldV, callV, V.cells, solid, hasRef, hasRefL, upd_some, lkp_cons, lkp_nil, ↓reduceIte, Nat.reduceEqDiff, Nat.reduceAdd, Nat.reduceLeDiff, List.map_cons, List.map_nil, List.length_cons, List.length_nil, List.take_succ_cons, List.take_nil, List.headD_cons, List.cons_append, List.nil_append, endQ, rvs, rv1, resV, vw_i, vw_sl, vw_ag, zipA, Nat.zero_add, Bool.or_false, Bool.false_or, Bool.false_eq_true, true_and, and_self, reduceCtorEq, eBolt]
  try simp only [eBolt] at h
  simp only [h, hv, hr, hf, flat, vw_b, Bool.false_eq_true, and_self, implies_true]
theorem P85 (hG : GOk Try.prog Γ) (l : List Bolt) (f : Nat) (hf : f < 1000000) (caps : List V) (p : Bolt → Bool) (hv : caps.map (vw [] 8) = caps) (hr : hasRefL caps = false) (hl : l.length < 10000000)
    (h : ∀ x ∈ l, Γ f (V.ag (eBolt x) :: caps) = (True, .b (p x))) : PureCall Try.prog 85 [.sl 4 (l.map eBolt), .fn f caps] (.i (idxOf p l)) := by
  refine pure_body hG hmix Try.func85 cb85 cc85 cs85 cn85 ?_
  simp only [rc85, rs85, ru_reg, ru_seq, ru_block, ru_keep, thenQ, run_nil, run_cons, Fam.step, stepQ, evO, opv, qv, lenV, upd_some, lkp_cons, lkp_nil, ↓reduceIte, Nat.reduceEqDiff, Int.reduceNeg, List.map_cons, List.map_nil, zipA, Nat.zero_add, true_and, reduceCtorEq, List.length_map]
  refine ru_countC l.length (fun i => ⟨lkp [(0, .sl 4 (l.map eBolt)), (1, .fn f caps), (7, .i l.length), (8, .i i)], []⟩) (fun i => ∀ j x, j < i → l[j]? = some x → p x = false) ?_ ?_ ?_ ?_
  · simp only [Int.natCast_zero, kp, lkp_cons, lkp_nil, ↓reduceIte, Nat.reduceEqDiff, List.map_cons, List.map_nil, reduceCtorEq]
  · intro j x h; omega
  · intro i hi hc
    obtain ⟨x, hx⟩ : ∃ x, l[i]? = some x := ⟨_, List.getElem?_eq_getElem hi⟩
    have hlt : (i : Int) < l.length := by omega
    have h3 : inI ((i : Int) + 1) := by unfold inI; omega
    have hp := h x (List.mem_of_getElem? hx)
    try simp only [eBolt] at hp
    simp only [hx, hlt, Int.natCast_add, Int.natCast_one, h3, hp, hv, hr, hf, ru_skip, ru_reg, ru_seq, ru_cnd, ite_P, ru_block, ru_ret, ru_keep, thenQ, blockQ, run_nil, run_cons, Fam.step, stepQ, evO, opv, qv, binV, ldV, iadV, callV, hasRef, hasRefL, flat, kp, upd_some, lkp_cons, lkp_nil, ↓reduceIte, Nat.reduceEqDiff, Nat.reduceAdd, Nat.reduceLeDiff, Int.reduceNeg, List.map_cons, List.map_nil, List.length_cons, List.length_nil, List.take_succ_cons, List.take_nil, List.cons_append, List.nil_append, Option.getD_some, endQ, rvs, rv1, resV, vw_i, vw_sl, vw_ag, Int.natCast_nonneg, Nat.zero_add, V.i.injEq, Bool.or_false, Bool.false_eq_true, decide_true, true_and, and_true, and_self, implies_true, reduceCtorEq, Option.map_some, List.length_map, Int.toNat_natCast, List.getD_eq_getElem?_getD, List.getElem?_map, Bool.not_eq_true, eBolt]
    refine ⟨fun e => ?_, fun e => ?_⟩
    · rw [idxOf_at hx e hc]
    · intro j y hj hy
      by_cases hji : j < i
      · exact hc j y hji hy
      · have : j = i := by omega
        subst this
        rw [hx] at hy; cases hy; exact e
  · intro hc
    simp only [ru_reg, ru_seq, ru_cnd, ru_exit, ru_ret, ru_keep, thenQ, blockQ, run_nil, run_cons, Fam.step, stepQ, evO, opv, qv, binV, upd_some, lkp_cons, lkp_nil, ↓reduceIte, Nat.reduceEqDiff, Int.reduceNeg, List.map_cons, List.map_nil, endQ, rvs, rv1, resV, vw_i, Int.lt_irrefl, V.i.injEq, Bool.false_eq_true, decide_false, true_and, and_self, reduceCtorEq]
    exact (idxOf_none fun x hx => by
      obtain ⟨j, hj⟩ := List.getElem?_of_mem hx
      exact hc j x (by have := getElemLt hj; exact this) hj).symm
theorem P77 (hG : GOk Try.prog Γ) (l : List Bolt) (f : Nat) (caps : List V) (p : Bolt → Bool) (hv : caps.map (vw [] 7) = caps) (hr : hasRefL caps = false)
    (h : Γ 85 [.sl 4 (l.map eBolt), .fn f caps] = (True, .i (idxOf p l))) : PureCall Try.prog 77 [.sl 4 (l.map eBolt), .fn f caps] (.b (l.any p)) := by
  refine pure_body hG hmix Try.func77 cb77 cc77 cs77 cn77 ?_
  simp only [rc77, rs77, hv, hr, h, ru_reg, ru_seq, ru_ret, ru_keep, thenQ, run_nil, run_cons, Fam.step, stepQ, evO, opv, qv, binV, callV, hasRef, hasRefL, flat, upd_some, lkp_cons, lkp_nil, ↓reduceIte, Nat.reduceEqDiff, Nat.reduceLT, List.map_cons, List.map_nil, List.append_nil, endQ, rvs, rv1, resV, vw_b, vw_sl, vw_fn, zipA, Nat.zero_add, V.b.injEq, Bool.or_false, Bool.false_eq_true, true_and, and_self, implies_true, reduceCtorEq]
  rw [idxOf_any]
theorem P63 (hG : GOk Try.prog Γ) (l : List Bolt) (f : Nat) (caps : List V) (p : Bolt → Bool) (hv : caps.map (vw [] 7) = caps) (hr : hasRefL caps = false)
    (h : Γ 77 [.sl 4 (l.map eBolt), .fn 78 [.pa [.fn f caps]]] = (True, .b (l.any fun x => !p x))) : PureCall Try.prog 63 [.sl 4 (l.map eBolt), .fn f caps] (.b (l.all p)) := by
  refine pure_body hG hmix Try.func63 cb63 cc63 cs63 cn63 ?_
  simp only [rc63, rs63, hv, hr, h, ru_reg, ru_seq, ru_ret, ru_keep, thenQ, run_nil, run_cons, Fam.step, stepQ, evO, opv, qv, callV, V.cells, solid, hasRef, hasRefL, flat, upd_some, lkp_cons, lkp_nil, ↓reduceIte, Nat.reduceEqDiff, Nat.reduceLT, List.map_cons, List.map_nil, List.append_nil, endQ, rvs, rv1, resV, vw_b, vw_sl, vw_pa, vw_fn, zipA, Nat.zero_add, V.b.injEq, Bool.or_false, Bool.false_eq_true, true_and, and_self, implies_true, reduceCtorEq]
  simp [List.any_eq_not_all_not]

theorem P84 (hG : GOk Try.prog Γ) (x : Span) (f : Nat) (hf : f < 1000000) (caps : List V) (b : Bool) (hv : caps.map (vw [] 8) = caps) (hr : hasRefL caps = false) (h : Γ f (V.ag (eSpan x) :: caps) = (True, .b b)) :
    PureCall Try.prog 84 [V.ag (eSpan x), .pa [.fn f caps]] (.b (!b)) := by
  refine pure_body hG hmix Try.func84 cb84 cc84 cs84 cn84 ?_
  simp only [rc84, rs84, ru_reg, ru_seq, ru_ret, ru_keep, thenQ, run_nil, run_cons, Fam.step, stepQ, evO, opv, qv, ldV, callV, V.cells, solid, hasRef, hasRefL, upd_some, lkp_cons, lkp_nil, ↓reduceIte, Nat.reduceEqDiff, Nat.reduceAdd, Nat.reduceLeDiff, List.map_cons, List.map_nil, List.length_cons, List.length_nil, List.take_succ_cons, List.take_nil, List.headD_cons, List.cons_append, List.nil_append, endQ, rvs, rv1, resV, vw_i, vw_ag, zipA, Nat.zero_add, Bool.or_false, Bool.false_or, Bool.false_eq_true, true_and, and_self, reduceCtorEq, eSpan]
  try simp only [eSpan] at h
  simp only [h, hv, hr, hf, flat, vw_b, Bool.false_eq_true, and_self, implies_true]
theorem P89 (hG : GOk Try.prog Γ) (l : List Span) (f : Nat) (hf : f < 1000000) (caps : List V) (p : Span → Bool) (hv : caps.map (vw [] 8) = caps) (hr : hasRefL caps = false) (hl : l.length < 10000000)
    (h : ∀ x ∈ l, Γ f (V.ag (eSpan x) :: caps) = (True, .b (p x))) : PureCall Try.prog 89 [.sl 2 (l.map eSpan), .fn f caps] (.i (idxOf p l)) := by
  refine pure_body hG hmix Try.func89 cb89 cc89 cs89 cn89 ?_
  simp only [rc89, rs89, ru_reg, ru_seq, ru_block, ru_keep, thenQ, run_nil, run_cons, Fam.step, stepQ, evO, opv, qv, lenV, upd_some, lkp_cons, lkp_nil, ↓reduceIte, Nat.reduceEqDiff, Int.reduceNeg, List.map_cons, List.map_nil, zipA, Nat.zero_add, true_and, reduceCtorEq, List.length_map]
  refine ru_countC l.length (fun i => ⟨lkp [(0, .sl 2 (l.map eSpan)), (1, .fn f caps), (7, .i l.length), (8, .i i)], []⟩) (fun i => ∀ j x, j < i → l[j]? = some x → p x = false) ?_ ?_ ?_ ?_
  · simp only [Int.natCast_zero, kp, lkp_cons, lkp_nil, ↓reduceIte, Nat.reduceEqDiff, List.map_cons, List.map_nil, reduceCtorEq]
  · intro j x h; omega
  · intro i hi hc
    obtain ⟨x, hx⟩ : ∃ x, l[i]? = some x := ⟨_, List.getElem?_eq_getElem hi⟩
    have hlt : (i : Int) < l.length := by omega
    have h3 : inI ((i : Int) + 1) := by unfold inI; omega
    have hp := h x (List.mem_of_getElem? hx)
    try simp only [eSpan] at hp
    simp only [hx, hlt, Int.natCast_add, Int.natCast_one, h3, hp, hv, hr, hf, ru_skip, ru_reg, ru_seq, ru_cnd, ite_P, ru_block, ru_ret, ru_keep, thenQ, blockQ, run_nil, run_cons, Fam.step, stepQ, evO, opv, qv, binV, ldV, iadV, callV, hasRef, hasRefL, flat, kp, upd_some, lkp_cons, lkp_nil, ↓reduceIte, Nat.reduceEqDiff, Nat.reduceAdd, Nat.reduceLeDiff, Int.reduceNeg, List.map_cons, List.map_nil, List.length_cons, List.length_nil, List.take_succ_cons, List.take_nil, List.cons_append, List.nil_append, Option.getD_some, endQ, rvs, rv1, resV, vw_i, vw_ag, Int.natCast_nonneg, Nat.zero_add, V.i.injEq, Bool.or_false, Bool.false_eq_true, decide_true, true_and, and_true, and_self, implies_true, reduceCtorEq, Option.map_some, List.length_map, Int.toNat_natCast, List.getD_eq_getElem?_getD, List.getElem?_map, Bool.not_eq_true, eSpan]
    refine ⟨fun e => ?_, fun e => ?_⟩
    · rw [idxOf_at hx e hc]
    · intro j y hj hy
      by_cases hji : j < i
      · exact hc j y hji hy
      · have : j = i := by omega
        subst this
        rw [hx] at hy; cases hy; exact e
  · intro hc
    simp only [ru_reg, ru_seq, ru_cnd, ru_exit, ru_ret, ru_keep, thenQ, blockQ, run_nil, run_cons, Fam.step, stepQ, evO, opv, qv, binV, upd_some, lkp_cons, lkp_nil, ↓reduceIte, Nat.reduceEqDiff, Int.reduceNeg, List.map_cons, List.map_nil, endQ, rvs, rv1, resV, vw_i, Int.lt_irrefl, V.i.injEq, Bool.false_eq_true, decide_false, true_and, and_self, reduceCtorEq]
    exact (idxOf_none fun x hx => by
      obtain ⟨j, hj⟩ := List.getElem?_of_mem hx
      exact hc j x (by have := getElemLt hj; exact this) hj).symm
theorem P83 (hG : GOk Try.prog Γ) (l : List Span) (f : Nat) (caps : List V) (p : Span → Bool) (hv : caps.map (vw [] 7) = caps) (hr : hasRefL caps = false)
    (h : Γ 89 [.sl 2 (l.map eSpan), .fn f caps] = (True, .i (idxOf p l))) : PureCall Try.prog 83 [.sl 2 (l.map eSpan), .fn f caps] (.b (l.any p)) := by
  refine pure_body hG hmix Try.func83 cb83 cc83 cs83 cn83 ?_
  simp only [rc83, rs83, hv, hr, h, ru_reg, ru_seq, ru_ret, ru_keep, thenQ, run_nil, run_cons, Fam.step, stepQ, evO, opv, qv, binV, callV, hasRef, hasRefL, flat, upd_some, lkp_cons, lkp_nil, ↓reduceIte, Nat.reduceEqDiff, Nat.reduceLT, List.map_cons, List.map_nil, List.append_nil, endQ, rvs, rv1, resV, vw_b, vw_sl, vw_fn, zipA, Nat.zero_add, V.b.injEq, Bool.or_false, Bool.false_eq_true, true_and, and_self, implies_true, reduceCtorEq]
  rw [idxOf_any]
theorem P76 (hG : GOk Try.prog Γ) (l : List Span) (f : Nat) (caps : List V) (p : Span → Bool) (hv : caps.map (vw [] 7) = caps) (hr : hasRefL caps = false)
    (h : Γ 83 [.sl 2 (l.map eSpan), .fn 84 [.pa [.fn f caps]]] = (True, .b (l.any fun x => !p x))) : PureCall Try.prog 76 [.sl 2 (l.map eSpan), .fn f caps] (.b (l.all p)) := by
  refine pure_body hG hmix Try.func76 cb76 cc76 cs76 cn76 ?_
  simp only [rc76, rs76, hv, hr, h, ru_reg, ru_seq, ru_ret, ru_keep, thenQ, run_nil, run_cons, Fam.step, stepQ, evO, opv, qv, callV, V.cells, solid, hasRef, hasRefL, flat, upd_some, lkp_cons, lkp_nil, ↓reduceIte, Nat.reduceEqDiff, Nat.reduceLT, List.map_cons, List.map_nil, List.append_nil, endQ, rvs, rv1, resV, vw_b, vw_sl, vw_pa, vw_fn, zipA, Nat.zero_add, V.b.injEq, Bool.or_false, Bool.false_eq_true, true_and, and_self, implies_true, reduceCtorEq]
  simp [List.any_eq_not_all_not]

theorem P82 (hG : GOk Try.prog Γ) (x : Int) (f : Nat) (hf : f < 1000000) (caps : List V) (b : Bool) (hv : caps.map (vw [] 8) = caps) (hr : hasRefL caps = false) (h : Γ f (V.i x :: caps) = (True, .b b)) :
    PureCall Try.prog 82 [V.i x, .pa [.fn f caps]] (.b (!b)) := by
  refine pure_body hG hmix Try.func82 cb82 cc82 cs82 cn82 ?_
  simp only [rc82, rs82, ru_reg, ru_seq, ru_ret, ru_keep, thenQ, run_nil, run_cons, Fam.step, stepQ, evO, opv, qv, ldV, callV, hasRef, hasRefL, upd_some, lkp_cons, lkp_nil, ↓reduceIte, Nat.reduceEqDiff, Nat.reduceLeDiff, List.map_cons, List.map_nil, List.length_cons, List.length_nil, List.headD_cons, List.cons_append, List.nil_append, endQ, rvs, rv1, resV, vw_i, zipA, Nat.zero_add, Bool.false_or, Bool.false_eq_true, true_and, and_self, reduceCtorEq]
  try simp only [ru_skip, ru_reg, ru_any, ru_seq, ru_cnd, ite_P, ru_block, ru_exit, ru_ret, ru_keep, ru_drp, ru_own, ru_ownc, ru_swp, ru_nxt, ru_yrg, ru_crl, chunk1, ↓cut_lkp, ↓ren_lkp, rnQ, rndQ, updL, sfree, yres, slots, ghO, stepO, ocV, effO, nidQ, plO, plQ, plB, setBs, holesB, setsL, killL, putBs, optL, upTo, rids, ridsL, leafB, killB, kill1, List.foldl_cons, List.foldl_nil, rflat, rflatL, rflatB, shV, shL, shB, vB_cells, vB_map, swH, sw, renV, renL, renB, cutH, putB, lkpV, keyL, entV, mlenV, keyV, keyFits, endO, endK, endI, thenQ, blockQ, run_nil, run_cons, step_q, Fam.step, stepQ, stepW, needQ, needW, condB, ug, runX, eff_q, eff, nextD, fpR, fpQ, fpV, disjB, hits, putB, nv, sv, newsV, evO, opv, qv, pickV_bb, pickV_t, pickV_f, binV, ldV, iadV, lenV, curG, slcV, intOr, callV, foldParts, putAt, partsOk, partsOne, V.cells, solid, cellOk, intsOf, hasRef, hasRefL, flat, flatL, kp, cutV, cutL, cutB, upd_some, upd_none, lkp_cons, lkp_nil, ↓reduceIte, Nat.reduceEqDiff, Nat.reduceAdd, Nat.reduceSub, Nat.reduceMul, Nat.reduceLT, Nat.reduceLeDiff, Nat.reduceBEq, Int.reduceNeg, Int.reduceToNat, Int.add_sub_cancel, Int.toNat_zero, Int.reduceLT, Int.reduceLE, Int.reduceAdd, Int.reduceSub, Int.reduceMul, Int.reduceEq, List.map_cons, List.map_nil, List.all_cons, List.all_nil, List.length_cons, List.length_nil, List.drop_succ_cons, List.drop_zero, List.drop_nil, List.take_succ_cons, List.take_zero, List.take_nil, List.headD_cons, List.headD_nil, List.cons_append, List.nil_append, List.append_nil, List.getElem?_cons_zero, List.getElem?_cons_succ, List.getElem?_nil, Option.getD_some, Option.getD_none, List.set_cons_zero, List.set_cons_succ, List.set_nil, List.replicate_zero, List.replicate_succ, List.getD_cons_zero, List.getD_cons_succ, List.isEmpty_nil, List.isEmpty_cons, endQ, rvs, rv1, resV, vw_i, vw_b, vw_u, vw_pn, vw_z, vw_sl, vw_pa, vw_ag, vw_tp, vw_fn, vw_ad, vw_rf, zipA, Int.lt_irrefl, Int.natCast_nonneg, beq_self_eq_true, Nat.zero_add, Nat.add_zero, Option.some.injEq, V.i.injEq, V.b.injEq, Bool.and_self, Bool.and_true, Bool.true_and, Bool.false_and, Bool.and_false, Bool.or_false, Bool.false_or, Bool.or_true, Bool.true_or, Bool.not_true, Bool.not_false, Bool.false_eq_true, Bool.true_eq_false, decide_true, decide_false, decide_eq_true_eq, decide_eq_false_iff_not, true_and, and_true, and_self, false_and, and_false, forall_const, false_implies, true_implies, implies_true, reduceCtorEq, ite_true, ite_false, not_true_eq_false, not_false_eq_true, ne_eq, Option.map_some, Option.map_none, List.any_cons, List.any_nil, List.contains_cons, List.contains_nil, beq_true, beq_false, Bool.not_not, Bool.not_eq_false', Bool.not_eq_true', ite_f, ite_t, Bool.decide_eq_true, Bool.decide_eq_false, Bool.xor_self, imp_self, List.length_map, Int.toNat_natCast, List.getD_eq_getElem?_getD, List.getElem?_map, Bool.not_eq_true, Bool.not_eq_false, Classical.not_not, List.length_replicate, spanE, boltE, stripE, domeE, tentE, eSpan, eStrip, eBolt, eDome, eI, eIs, eCan, eTent] at h
  simp only [h, hv, hr, hf, flat, vw_b, Bool.false_eq_true, and_self, implies_true]
theorem P88 (hG : GOk Try.prog Γ) (l : List Int) (f : Nat) (hf : f < 1000000) (caps : List V) (p : Int → Bool) (hv : caps.map (vw [] 8) = caps) (hr : hasRefL caps = false) (hl : l.length < 10000000)
    (h : ∀ x ∈ l, Γ f (V.i x :: caps) = (True, .b (p x))) : PureCall Try.prog 88 [.sl 1 (l.map eI), .fn f caps] (.i (idxOf p l)) := by
  refine pure_body hG hmix Try.func88 cb88 cc88 cs88 cn88 ?_
  simp only [rc88, rs88, ru_reg, ru_seq, ru_block, ru_keep, thenQ, run_nil, run_cons, Fam.step, stepQ, evO, opv, qv, lenV, upd_some, lkp_cons, lkp_nil, ↓reduceIte, Nat.reduceEqDiff, Int.reduceNeg, List.map_cons, List.map_nil, zipA, Nat.zero_add, true_and, reduceCtorEq, List.length_map]
  refine ru_countC l.length (fun i => ⟨lkp [(0, .sl 1 (l.map eI)), (1, .fn f caps), (7, .i l.length), (8, .i i)], []⟩) (fun i => ∀ j x, j < i → l[j]? = some x → p x = false) ?_ ?_ ?_ ?_
  · simp only [Int.natCast_zero, kp, lkp_cons, lkp_nil, ↓reduceIte, Nat.reduceEqDiff, List.map_cons, List.map_nil, reduceCtorEq]
  · intro j x h; omega
  · intro i hi hc
    obtain ⟨x, hx⟩ : ∃ x, l[i]? = some x := ⟨_, List.getElem?_eq_getElem hi⟩
    have hlt : (i : Int) < l.length := by omega
    have h3 : inI ((i : Int) + 1) := by unfold inI; omega
    have hp := h x (List.mem_of_getElem? hx)
    try simp only [ru_skip, ru_reg, ru_any, ru_seq, ru_cnd, ite_P, ru_block, ru_exit, ru_ret, ru_keep, ru_drp, ru_own, ru_ownc, ru_swp, ru_nxt, ru_yrg, ru_crl, chunk1, ↓cut_lkp, ↓ren_lkp, rnQ, rndQ, updL, sfree, yres, slots, ghO, stepO, ocV, effO, nidQ, plO, plQ, plB, setBs, holesB, setsL, killL, putBs, optL, upTo, rids, ridsL, leafB, killB, kill1, List.foldl_cons, List.foldl_nil, rflat, rflatL, rflatB, shV, shL, shB, vB_cells, vB_map, swH, sw, renV, renL, renB, cutH, putB, lkpV, keyL, entV, mlenV, keyV, keyFits, endO, endK, endI, thenQ, blockQ, run_nil, run_cons, step_q, Fam.step, stepQ, stepW, needQ, needW, condB, ug, runX, eff_q, eff, nextD, fpR, fpQ, fpV, disjB, hits, putB, nv, sv, newsV, evO, opv, qv, pickV_bb, pickV_t, pickV_f, binV, ldV, iadV, lenV, curG, slcV, intOr, callV, foldParts, putAt, partsOk, partsOne, V.cells, solid, cellOk, intsOf, hasRef, hasRefL, flat, flatL, kp, cutV, cutL, cutB, upd_some, upd_none, lkp_cons, lkp_nil, ↓reduceIte, Nat.reduceEqDiff, Nat.reduceAdd, Nat.reduceSub, Nat.reduceMul, Nat.reduceLT, Nat.reduceLeDiff, Nat.reduceBEq, Int.reduceNeg, Int.reduceToNat, Int.add_sub_cancel, Int.toNat_zero, Int.reduceLT, Int.reduceLE, Int.reduceAdd, Int.reduceSub, Int.reduceMul, Int.reduceEq, List.map_cons, List.map_nil, List.all_cons, List.all_nil, List.length_cons, List.length_nil, List.drop_succ_cons, List.drop_zero, List.drop_nil, List.take_succ_cons, List.take_zero, List.take_nil, List.headD_cons, List.headD_nil, List.cons_append, List.nil_append, List.append_nil, List.getElem?_cons_zero, List.getElem?_cons_succ, List.getElem?_nil, Option.getD_some, Option.getD_none, List.set_cons_zero, List.set_cons_succ, List.set_nil, List.replicate_zero, List.replicate_succ, List.getD_cons_zero, List.getD_cons_succ, List.isEmpty_nil, List.isEmpty_cons, endQ, rvs, rv1, resV, vw_i, vw_b, vw_u, vw_pn, vw_z, vw_sl, vw_pa, vw_ag, vw_tp, vw_fn, vw_ad, vw_rf, zipA, Int.lt_irrefl, Int.natCast_nonneg, beq_self_eq_true, Nat.zero_add, Nat.add_zero, Option.some.injEq, V.i.injEq, V.b.injEq, Bool.and_self, Bool.and_true, Bool.true_and, Bool.false_and, Bool.and_false, Bool.or_false, Bool.false_or, Bool.or_true, Bool.true_or, Bool.not_true, Bool.not_false, Bool.false_eq_true, Bool.true_eq_false, decide_true, decide_false, decide_eq_true_eq, decide_eq_false_iff_not, true_and, and_true, and_self, false_and, and_false, forall_const, false_implies, true_implies, implies_true, reduceCtorEq, ite_true, ite_false, not_true_eq_false, not_false_eq_true, ne_eq, Option.map_some, Option.map_none, List.any_cons, List.any_nil, List.contains_cons, List.contains_nil, beq_true, beq_false, Bool.not_not, Bool.not_eq_false', Bool.not_eq_true', ite_f, ite_t, Bool.decide_eq_true, Bool.decide_eq_false, Bool.xor_self, imp_self, List.length_map, Int.toNat_natCast, List.getD_eq_getElem?_getD, List.getElem?_map, Bool.not_eq_true, Bool.not_eq_false, Classical.not_not, List.length_replicate, spanE, boltE, stripE, domeE, tentE, eSpan, eStrip, eBolt, eDome, eI, eIs, eCan, eTent] at hp
    simp only [hx, hlt, Int.natCast_add, Int.natCast_one, h3, hp, hv, hr, hf, ru_skip, ru_reg, ru_seq, ru_cnd, ite_P, ru_block, ru_ret, ru_keep, thenQ, blockQ, run_nil, run_cons, Fam.step, stepQ, evO, opv, qv, binV, ldV, iadV, callV, hasRef, hasRefL, flat, kp, upd_some, lkp_cons, lkp_nil, ↓reduceIte, Nat.reduceEqDiff, Nat.reduceLeDiff, Int.reduceNeg, List.map_cons, List.map_nil, List.length_cons, List.length_nil, List.headD_cons, List.cons_append, List.nil_append, Option.getD_some, endQ, rvs, rv1, resV, vw_i, Int.natCast_nonneg, Nat.zero_add, V.i.injEq, Bool.or_false, Bool.false_eq_true, decide_true, true_and, and_true, and_self, implies_true, reduceCtorEq, Option.map_some, List.length_map, Int.toNat_natCast, List.getD_eq_getElem?_getD, List.getElem?_map, Bool.not_eq_true, eI]
    refine ⟨fun e => ?_, fun e => ?_⟩
    · rw [idxOf_at hx e hc]
    · intro j y hj hy
      by_cases hji : j < i
      · exact hc j y hji hy
      · have : j = i := by omega
        subst this
        rw [hx] at hy; cases hy; exact e
  · intro hc
    simp only [ru_reg, ru_seq, ru_cnd, ru_exit, ru_ret, ru_keep, thenQ, blockQ, run_nil, run_cons, Fam.step, stepQ, evO, opv, qv, binV, upd_some, lkp_cons, lkp_nil, ↓reduceIte, Nat.reduceEqDiff, Int.reduceNeg, List.map_cons, List.map_nil, endQ, rvs, rv1, resV, vw_i, Int.lt_irrefl, V.i.injEq, Bool.false_eq_true, decide_false, true_and, and_self, reduceCtorEq]
    exact (idxOf_none fun x hx => by
      obtain ⟨j, hj⟩ := List.getElem?_of_mem hx
      exact hc j x (by have := getElemLt hj; exact this) hj).symm
theorem P81 (hG : GOk Try.prog Γ) (l : List Int) (f : Nat) (caps : List V) (p : Int → Bool) (hv : caps.map (vw [] 7) = caps) (hr : hasRefL caps = false)
    (h : Γ 88 [.sl 1 (l.map eI), .fn f caps] = (True, .i (idxOf p l))) : PureCall Try.prog 81 [.sl 1 (l.map eI), .fn f caps] (.b (l.any p)) := by
  refine pure_body hG hmix Try.func81 cb81 cc81 cs81 cn81 ?_
  simp only [rc81, rs81, hv, hr, h, ru_reg, ru_seq, ru_ret, ru_keep, thenQ, run_nil, run_cons, Fam.step, stepQ, evO, opv, qv, binV, callV, hasRef, hasRefL, flat, upd_some, lkp_cons, lkp_nil, ↓reduceIte, Nat.reduceEqDiff, Nat.reduceLT, List.map_cons, List.map_nil, List.append_nil, endQ, rvs, rv1, resV, vw_b, vw_sl, vw_fn, zipA, Nat.zero_add, V.b.injEq, Bool.or_false, Bool.false_eq_true, true_and, and_self, implies_true, reduceCtorEq]
  rw [idxOf_any]
theorem P75 (hG : GOk Try.prog Γ) (l : List Int) (f : Nat) (caps : List V) (p : Int → Bool) (hv : caps.map (vw [] 7) = caps) (hr : hasRefL caps = false)
    (h : Γ 81 [.sl 1 (l.map eI), .fn 82 [.pa [.fn f caps]]] = (True, .b (l.any fun x => !p x))) : PureCall Try.prog 75 [.sl 1 (l.map eI), .fn f caps] (.b (l.all p)) := by
  refine pure_body hG hmix Try.func75 cb75 cc75 cs75 cn75 ?_
  simp only [rc75, rs75, hv, hr, h, ru_reg, ru_seq, ru_ret, ru_keep, thenQ, run_nil, run_cons, Fam.step, stepQ, evO, opv, qv, callV, V.cells, solid, hasRef, hasRefL, flat, upd_some, lkp_cons, lkp_nil, ↓reduceIte, Nat.reduceEqDiff, Nat.reduceLT, List.map_cons, List.map_nil, List.append_nil, endQ, rvs, rv1, resV, vw_b, vw_sl, vw_pa, vw_fn, zipA, Nat.zero_add, V.b.injEq, Bool.or_false, Bool.false_eq_true, true_and, and_self, implies_true, reduceCtorEq]
  simp [List.any_eq_not_all_not]
end Go.C02
set_option linter.unusedSimpArgs false
set_option linter.unusedVariables false
namespace Go.C02
open Go.Fam Go.Proofs
variable {Γ : Gam}
def okStrip (_ : Unit) : Prop := True
def prStrip (_ : Unit) : Strip → Bool := isStrip
def okBolt (_ : Unit) : Prop := True
def prBolt (_ : Unit) : Bolt → Bool := isBolt
def okSpan (_ : Unit) : Prop := True
def prSpan (_ : Unit) : Span → Bool := roundOk
def okInt (k : Dome × Bool) : Prop := if k.2 then k.1.bolts.length < 1000000 else inI (2 * k.1.loss)
def prInt (k : Dome × Bool) : Int → Bool := if k.2 then goreOk k.1 else widthOk k.1
def D0 : Dome := ⟨[], [], 0, [], [], 0⟩
def aC : V → List V | .ag cs => cs | _ => []
def pC : V → List V | .pa cs => cs | _ => []

/-! ### all[Strip] -/
def cvStrip (k : Unit) : V := .fn 80 []
def dkStrip : V → Unit := fun _ => ()
theorem dkStrip_e (k : Unit) : dkStrip (cvStrip k) = k := rfl
def capStrip (k : Unit) : List V := []
theorem capStrip_v (k : Unit) (n : Nat) : (capStrip k).map (vw [] (n + 1)) = capStrip k := rfl
theorem capStrip_r (k : Unit) : hasRefL (capStrip k) = false := rfl
def eCStrip (a : Strip × Unit) : List V := [.ag (eStrip a.1), .pa [cvStrip a.2]]
def dCStrip : List V → Strip × Unit | [v, .pa [c]] => (dStrip (aC v), dkStrip c) | _ => (⟨0, ⟨0, 0⟩⟩, ())
theorem dCStrip_e (a : Strip × Unit) : dCStrip (eCStrip a) = a := by obtain ⟨x, k⟩ := a; simp only [eCStrip, dCStrip, dkStrip_e]; simp [aC, dStrip_e]
def eXStrip (a : List Strip × Unit) : List V := [.sl 3 (a.1.map eStrip), .fn 87 [.pa [cvStrip a.2]]]
def dXStrip : List V → List Strip × Unit | [.sl _ rows, .fn _ [.pa [c]]] => (rows.map dStrip, dkStrip c) | _ => ([], ())
theorem dXStrip_e (a : List Strip × Unit) : dXStrip (eXStrip a) = a := by obtain ⟨x, k⟩ := a; simp only [eXStrip, dXStrip, dkStrip_e, map_de dStrip_e]
def eLStrip (a : List Strip × Unit) : List V := [.sl 3 (a.1.map eStrip), cvStrip a.2]
def dLStrip : List V → List Strip × Unit | [.sl _ rows, c] => (rows.map dStrip, dkStrip c) | _ => ([], ())
theorem dLStrip_e (a : List Strip × Unit) : dLStrip (eLStrip a) = a := by obtain ⟨x, k⟩ := a; simp only [eLStrip, dLStrip, dkStrip_e, map_de dStrip_e]
def okLStrip (a : List Strip × Unit) : Prop := a.1.length < 10000000 ∧ okStrip a.2
def r87 : List V → Prop × V := fnG eCStrip dCStrip (fun a => okStrip a.2) (fun a => !prStrip a.2 a.1) .b
def r90 : List V → Prop × V := fnG eXStrip dXStrip okLStrip (fun a => idxOf (fun x => !prStrip a.2 x) a.1) .i
def r86 : List V → Prop × V := fnG eXStrip dXStrip okLStrip (fun a => a.1.any fun x => !prStrip a.2 x) .b
def r79 : List V → Prop × V := fnG eLStrip dLStrip okLStrip (fun a => a.1.all (prStrip a.2)) .b
def famStrip (Γ : Gam) : Gam := (((Γ.ext 87 r87).ext 90 r90).ext 86 r86).ext 79 r79
theorem famStrip_ok (hG : GOk Try.prog Γ) (hb : ∀ (k : Unit) (x : Strip), okStrip k → Γ 80 (V.ag (eStrip x) :: capStrip k) = (True, .b (prStrip k x))) : GOk Try.prog (famStrip Γ) := by
  have g1 : GOk Try.prog (Γ.ext 87 r87) := hG.ext (fun a w => Try.call87 a w) (fnG_ok fun a h => P87 hG a.1 _ (by decide) _ _ (capStrip_v a.2 7) (capStrip_r a.2) (hb a.2 a.1 h))
  have g2 : GOk Try.prog ((Γ.ext 87 r87).ext 90 r90) := g1.ext (fun a w => Try.call90 a w) (fnG_ok fun a h => P90 g1 a.1 _ (by decide) _ _ rfl rfl h.1 fun x hx =>
    (show (Γ.ext 87 r87) 87 _ = r87 (eCStrip (x, a.2)) from rfl).trans ((fnG_at (x, a.2) (dCStrip_e _)).trans (by rw [eq_true h.2])))
  have g3 : GOk Try.prog (((Γ.ext 87 r87).ext 90 r90).ext 86 r86) := g2.ext (fun a w => Try.call86 a w) (fnG_ok fun a h => P86 g2 a.1 _ _ _ rfl rfl
    ((show ((Γ.ext 87 r87).ext 90 r90) 90 _ = r90 (eXStrip a) from rfl).trans ((fnG_at a (dXStrip_e _)).trans (by rw [eq_true h]))))
  exact g3.ext (fun a w => Try.call79 a w) (fnG_ok fun a h => P79 g3 a.1 _ _ _ (capStrip_v a.2 6) (capStrip_r a.2)
    ((show (((Γ.ext 87 r87).ext 90 r90).ext 86 r86) 86 _ = r86 (eXStrip a) from rfl).trans ((fnG_at a (dXStrip_e _)).trans (by rw [eq_true h]))))
theorem famStrip_all (Γ : Gam) (l : List Strip) (k : Unit) : famStrip Γ 79 [.sl 3 (l.map eStrip), cvStrip k] = (okLStrip (l, k), .b (l.all (prStrip k))) :=
  (show famStrip Γ 79 _ = r79 (eLStrip (l, k)) from rfl).trans (fnG_at (l, k) (dLStrip_e _))

/-! ### all[Bolt] -/
def cvBolt (k : Unit) : V := .fn 64 []
def dkBolt : V → Unit := fun _ => ()
theorem dkBolt_e (k : Unit) : dkBolt (cvBolt k) = k := rfl
def capBolt (k : Unit) : List V := []
theorem capBolt_v (k : Unit) (n : Nat) : (capBolt k).map (vw [] (n + 1)) = capBolt k := rfl
theorem capBolt_r (k : Unit) : hasRefL (capBolt k) = false := rfl
def eCBolt (a : Bolt × Unit) : List V := [.ag (eBolt a.1), .pa [cvBolt a.2]]
def dCBolt : List V → Bolt × Unit | [v, .pa [c]] => (dBolt (aC v), dkBolt c) | _ => (⟨⟨0, 0⟩, [], 0⟩, ())
theorem dCBolt_e (a : Bolt × Unit) : dCBolt (eCBolt a) = a := by obtain ⟨x, k⟩ := a; simp only [eCBolt, dCBolt, dkBolt_e]; simp [aC, dBolt_e]
def eXBolt (a : List Bolt × Unit) : List V := [.sl 4 (a.1.map eBolt), .fn 78 [.pa [cvBolt a.2]]]
def dXBolt : List V → List Bolt × Unit | [.sl _ rows, .fn _ [.pa [c]]] => (rows.map dBolt, dkBolt c) | _ => ([], ())
theorem dXBolt_e (a : List Bolt × Unit) : dXBolt (eXBolt a) = a := by obtain ⟨x, k⟩ := a; simp only [eXBolt, dXBolt, dkBolt_e, map_de dBolt_e]
def eLBolt (a : List Bolt × Unit) : List V := [.sl 4 (a.1.map eBolt), cvBolt a.2]
def dLBolt : List V → List Bolt × Unit | [.sl _ rows, c] => (rows.map dBolt, dkBolt c) | _ => ([], ())
theorem dLBolt_e (a : List Bolt × Unit) : dLBolt (eLBolt a) = a := by obtain ⟨x, k⟩ := a; simp only [eLBolt, dLBolt, dkBolt_e, map_de dBolt_e]
def okLBolt (a : List Bolt × Unit) : Prop := a.1.length < 10000000 ∧ okBolt a.2
def r78 : List V → Prop × V := fnG eCBolt dCBolt (fun a => okBolt a.2) (fun a => !prBolt a.2 a.1) .b
def r85 : List V → Prop × V := fnG eXBolt dXBolt okLBolt (fun a => idxOf (fun x => !prBolt a.2 x) a.1) .i
def r77 : List V → Prop × V := fnG eXBolt dXBolt okLBolt (fun a => a.1.any fun x => !prBolt a.2 x) .b
def r63 : List V → Prop × V := fnG eLBolt dLBolt okLBolt (fun a => a.1.all (prBolt a.2)) .b
def famBolt (Γ : Gam) : Gam := (((Γ.ext 78 r78).ext 85 r85).ext 77 r77).ext 63 r63
theorem famBolt_ok (hG : GOk Try.prog Γ) (hb : ∀ (k : Unit) (x : Bolt), okBolt k → Γ 64 (V.ag (eBolt x) :: capBolt k) = (True, .b (prBolt k x))) : GOk Try.prog (famBolt Γ) := by
  have g1 : GOk Try.prog (Γ.ext 78 r78) := hG.ext (fun a w => Try.call78 a w) (fnG_ok fun a h => P78 hG a.1 _ (by decide) _ _ (capBolt_v a.2 7) (capBolt_r a.2) (hb a.2 a.1 h))
  have g2 : GOk Try.prog ((Γ.ext 78 r78).ext 85 r85) := g1.ext (fun a w => Try.call85 a w) (fnG_ok fun a h => P85 g1 a.1 _ (by decide) _ _ rfl rfl h.1 fun x hx =>
    (show (Γ.ext 78 r78) 78 _ = r78 (eCBolt (x, a.2)) from rfl).trans ((fnG_at (x, a.2) (dCBolt_e _)).trans (by rw [eq_true h.2])))
  have g3 : GOk Try.prog (((Γ.ext 78 r78).ext 85 r85).ext 77 r77) := g2.ext (fun a w => Try.call77 a w) (fnG_ok fun a h => P77 g2 a.1 _ _ _ rfl rfl
    ((show ((Γ.ext 78 r78).ext 85 r85) 85 _ = r85 (eXBolt a) from rfl).trans ((fnG_at a (dXBolt_e _)).trans (by rw [eq_true h]))))
  exact g3.ext (fun a w => Try.call63 a w) (fnG_ok fun a h => P63 g3 a.1 _ _ _ (capBolt_v a.2 6) (capBolt_r a.2)
    ((show (((Γ.ext 78 r78).ext 85 r85).ext 77 r77) 77 _ = r77 (eXBolt a) from rfl).trans ((fnG_at a (dXBolt_e _)).trans (by rw [eq_true h]))))
theorem famBolt_all (Γ : Gam) (l : List Bolt) (k : Unit) : famBolt Γ 63 [.sl 4 (l.map eBolt), cvBolt k] = (okLBolt (l, k), .b (l.all (prBolt k))) :=
  (show famBolt Γ 63 _ = r63 (eLBolt (l, k)) from rfl).trans (fnG_at (l, k) (dLBolt_e _))

/-! ### all[Span] -/
def cvSpan (k : Unit) : V := .fn 72 []
def dkSpan : V → Unit := fun _ => ()
theorem dkSpan_e (k : Unit) : dkSpan (cvSpan k) = k := rfl
def capSpan (k : Unit) : List V := []
theorem capSpan_v (k : Unit) (n : Nat) : (capSpan k).map (vw [] (n + 1)) = capSpan k := rfl
theorem capSpan_r (k : Unit) : hasRefL (capSpan k) = false := rfl
def eCSpan (a : Span × Unit) : List V := [.ag (eSpan a.1), .pa [cvSpan a.2]]
def dCSpan : List V → Span × Unit | [v, .pa [c]] => (dSpan (aC v), dkSpan c) | _ => (⟨0, 0⟩, ())
theorem dCSpan_e (a : Span × Unit) : dCSpan (eCSpan a) = a := by obtain ⟨x, k⟩ := a; simp only [eCSpan, dCSpan, dkSpan_e]; simp [aC, dSpan_e]
def eXSpan (a : List Span × Unit) : List V := [.sl 2 (a.1.map eSpan), .fn 84 [.pa [cvSpan a.2]]]
def dXSpan : List V → List Span × Unit | [.sl _ rows, .fn _ [.pa [c]]] => (rows.map dSpan, dkSpan c) | _ => ([], ())
theorem dXSpan_e (a : List Span × Unit) : dXSpan (eXSpan a) = a := by obtain ⟨x, k⟩ := a; simp only [eXSpan, dXSpan, dkSpan_e, map_de dSpan_e]
def eLSpan (a : List Span × Unit) : List V := [.sl 2 (a.1.map eSpan), cvSpan a.2]
def dLSpan : List V → List Span × Unit | [.sl _ rows, c] => (rows.map dSpan, dkSpan c) | _ => ([], ())
theorem dLSpan_e (a : List Span × Unit) : dLSpan (eLSpan a) = a := by obtain ⟨x, k⟩ := a; simp only [eLSpan, dLSpan, dkSpan_e, map_de dSpan_e]
def okLSpan (a : List Span × Unit) : Prop := a.1.length < 10000000 ∧ okSpan a.2
def r84 : List V → Prop × V := fnG eCSpan dCSpan (fun a => okSpan a.2) (fun a => !prSpan a.2 a.1) .b
def r89 : List V → Prop × V := fnG eXSpan dXSpan okLSpan (fun a => idxOf (fun x => !prSpan a.2 x) a.1) .i
def r83 : List V → Prop × V := fnG eXSpan dXSpan okLSpan (fun a => a.1.any fun x => !prSpan a.2 x) .b
def r76 : List V → Prop × V := fnG eLSpan dLSpan okLSpan (fun a => a.1.all (prSpan a.2)) .b
def famSpan (Γ : Gam) : Gam := (((Γ.ext 84 r84).ext 89 r89).ext 83 r83).ext 76 r76
theorem famSpan_ok (hG : GOk Try.prog Γ) (hb : ∀ (k : Unit) (x : Span), okSpan k → Γ 72 (V.ag (eSpan x) :: capSpan k) = (True, .b (prSpan k x))) : GOk Try.prog (famSpan Γ) := by
  have g1 : GOk Try.prog (Γ.ext 84 r84) := hG.ext (fun a w => Try.call84 a w) (fnG_ok fun a h => P84 hG a.1 _ (by decide) _ _ (capSpan_v a.2 7) (capSpan_r a.2) (hb a.2 a.1 h))
  have g2 : GOk Try.prog ((Γ.ext 84 r84).ext 89 r89) := g1.ext (fun a w => Try.call89 a w) (fnG_ok fun a h => P89 g1 a.1 _ (by decide) _ _ rfl rfl h.1 fun x hx =>
    (show (Γ.ext 84 r84) 84 _ = r84 (eCSpan (x, a.2)) from rfl).trans ((fnG_at (x, a.2) (dCSpan_e _)).trans (by rw [eq_true h.2])))
  have g3 : GOk Try.prog (((Γ.ext 84 r84).ext 89 r89).ext 83 r83) := g2.ext (fun a w => Try.call83 a w) (fnG_ok fun a h => P83 g2 a.1 _ _ _ rfl rfl
    ((show ((Γ.ext 84 r84).ext 89 r89) 89 _ = r89 (eXSpan a) from rfl).trans ((fnG_at a (dXSpan_e _)).trans (by rw [eq_true h]))))
  exact g3.ext (fun a w => Try.call76 a w) (fnG_ok fun a h => P76 g3 a.1 _ _ _ (capSpan_v a.2 6) (capSpan_r a.2)
    ((show (((Γ.ext 84 r84).ext 89 r89).ext 83 r83) 83 _ = r83 (eXSpan a) from rfl).trans ((fnG_at a (dXSpan_e _)).trans (by rw [eq_true h]))))
theorem famSpan_all (Γ : Gam) (l : List Span) (k : Unit) : famSpan Γ 76 [.sl 2 (l.map eSpan), cvSpan k] = (okLSpan (l, k), .b (l.all (prSpan k))) :=
  (show famSpan Γ 76 _ = r76 (eLSpan (l, k)) from rfl).trans (fnG_at (l, k) (dLSpan_e _))

/-! ### all[Int] -/
def cvInt (k : (Dome × Bool)) : V := .fn (if k.2 then 71 else 74) [.pa (eDome k.1)]
def dkInt : V → (Dome × Bool) | .fn f caps => (dDome (pC (caps.headD .u)), f == 71) | _ => (D0, false)
theorem dkInt_e (k : (Dome × Bool)) : dkInt (cvInt k) = k := by obtain ⟨d, b⟩ := k; cases b <;> simp [dkInt, cvInt, pC, dDome_e]
def capInt (k : (Dome × Bool)) : List V := [.pa (eDome k.1)]
theorem capInt_v (k : (Dome × Bool)) (n : Nat) : (capInt k).map (vw [] (n + 1)) = capInt k := rfl
theorem capInt_r (k : (Dome × Bool)) : hasRefL (capInt k) = false := rfl
def eCInt (a : Int × (Dome × Bool)) : List V := [.i a.1, .pa [cvInt a.2]]
def dCInt : List V → Int × (Dome × Bool) | [v, .pa [c]] => (gI v, dkInt c) | _ => (0, (D0, false))
theorem dCInt_e (a : Int × (Dome × Bool)) : dCInt (eCInt a) = a := by obtain ⟨x, k⟩ := a; simp only [eCInt, dCInt, dkInt_e]; simp [gI]
def eXInt (a : List Int × (Dome × Bool)) : List V := [.sl 1 (a.1.map eI), .fn 82 [.pa [cvInt a.2]]]
def dXInt : List V → List Int × (Dome × Bool) | [.sl _ rows, .fn _ [.pa [c]]] => (rows.map dI, dkInt c) | _ => ([], (D0, false))
theorem dXInt_e (a : List Int × (Dome × Bool)) : dXInt (eXInt a) = a := by obtain ⟨x, k⟩ := a; simp only [eXInt, dXInt, dkInt_e, map_de dI_eI]
def eLInt (a : List Int × (Dome × Bool)) : List V := [.sl 1 (a.1.map eI), cvInt a.2]
def dLInt : List V → List Int × (Dome × Bool) | [.sl _ rows, c] => (rows.map dI, dkInt c) | _ => ([], (D0, false))
theorem dLInt_e (a : List Int × (Dome × Bool)) : dLInt (eLInt a) = a := by obtain ⟨x, k⟩ := a; simp only [eLInt, dLInt, dkInt_e, map_de dI_eI]
def okLInt (a : List Int × (Dome × Bool)) : Prop := a.1.length < 10000000 ∧ okInt a.2
def r82 : List V → Prop × V := fnG eCInt dCInt (fun a => okInt a.2) (fun a => !prInt a.2 a.1) .b
def r88 : List V → Prop × V := fnG eXInt dXInt okLInt (fun a => idxOf (fun x => !prInt a.2 x) a.1) .i
def r81 : List V → Prop × V := fnG eXInt dXInt okLInt (fun a => a.1.any fun x => !prInt a.2 x) .b
def r75 : List V → Prop × V := fnG eLInt dLInt okLInt (fun a => a.1.all (prInt a.2)) .b
def famInt (Γ : Gam) : Gam := (((Γ.ext 82 r82).ext 88 r88).ext 81 r81).ext 75 r75
theorem famInt_ok (hG : GOk Try.prog Γ) (hb : ∀ (k : (Dome × Bool)) (x : Int), okInt k → Γ (if k.2 then 71 else 74) (V.i x :: capInt k) = (True, .b (prInt k x))) : GOk Try.prog (famInt Γ) := by
  have g1 : GOk Try.prog (Γ.ext 82 r82) := hG.ext (fun a w => Try.call82 a w) (fnG_ok fun a h => P82 hG a.1 _ (by split <;> decide) _ _ (capInt_v a.2 7) (capInt_r a.2) (hb a.2 a.1 h))
  have g2 : GOk Try.prog ((Γ.ext 82 r82).ext 88 r88) := g1.ext (fun a w => Try.call88 a w) (fnG_ok fun a h => P88 g1 a.1 _ (by decide) _ _ rfl rfl h.1 fun x hx =>
    (show (Γ.ext 82 r82) 82 _ = r82 (eCInt (x, a.2)) from rfl).trans ((fnG_at (x, a.2) (dCInt_e _)).trans (by rw [eq_true h.2])))
  have g3 : GOk Try.prog (((Γ.ext 82 r82).ext 88 r88).ext 81 r81) := g2.ext (fun a w => Try.call81 a w) (fnG_ok fun a h => P81 g2 a.1 _ _ _ rfl rfl
    ((show ((Γ.ext 82 r82).ext 88 r88) 88 _ = r88 (eXInt a) from rfl).trans ((fnG_at a (dXInt_e _)).trans (by rw [eq_true h]))))
  exact g3.ext (fun a w => Try.call75 a w) (fnG_ok fun a h => P75 g3 a.1 _ _ _ (capInt_v a.2 6) (capInt_r a.2)
    ((show (((Γ.ext 82 r82).ext 88 r88).ext 81 r81) 81 _ = r81 (eXInt a) from rfl).trans ((fnG_at a (dXInt_e _)).trans (by rw [eq_true h]))))
theorem famInt_all (Γ : Gam) (l : List Int) (k : (Dome × Bool)) : famInt Γ 75 [.sl 1 (l.map eI), cvInt k] = (okLInt (l, k), .b (l.all (prInt k))) :=
  (show famInt Γ 75 _ = r75 (eLInt (l, k)) from rfl).trans (fnG_at (l, k) (dLInt_e _))
end Go.C02
set_option linter.unusedSimpArgs false
set_option linter.unusedVariables false
namespace Go.C02
open Go.Fam Go.Proofs
theorem P71 (d : Dome) (n : Int) (h : d.bolts.length < 1000000) : PureCall Try.prog 71 [.i n, .pa (eDome d)] (.b (goreOk d n)) := by
  refine pure_body okC hmix Try.func71 cb71 cc71 cs71 cn71 ?_
  have h1 : inI ((d.bolts.length : Int) - 1) := by unfold inI; omega
  simp only [rc71, rs71, gC67, h1, ru_reg, ru_seq, ru_ret, ru_keep, thenQ, run_nil, run_cons, Fam.step, stepQ, evO, opv, qv, binV, ldV, lenV, callV, hasRef, hasRefL, flat, upd_some, lkp_cons, lkp_nil, ↓reduceIte, Nat.reduceEqDiff, Nat.reduceAdd, Nat.reduceLT, Nat.reduceLeDiff, List.map_cons, List.map_nil, List.length_cons, List.length_nil, List.drop_zero, List.headD_cons, List.append_nil, endQ, rvs, rv1, resV, vw_i, vw_b, zipA, Nat.zero_add, V.b.injEq, Bool.or_false, Bool.false_eq_true, true_and, and_self, implies_true, reduceCtorEq, List.length_map, eDome]
  rfl
theorem P74 (d : Dome) (n : Int) (h : inI (2 * d.loss)) : PureCall Try.prog 74 [.i n, .pa (eDome d)] (.b (widthOk d n)) := by
  refine pure_body okC hmix Try.func74 cb74 cc74 cs74 cn74 ?_
  simp only [rc74, rs74, gC67, h, ru_reg, ru_seq, ru_ret, ru_keep, thenQ, run_nil, run_cons, Fam.step, stepQ, evO, opv, qv, binV, ldV, callV, hasRef, hasRefL, flat, upd_some, lkp_cons, lkp_nil, ↓reduceIte, Nat.reduceEqDiff, Nat.reduceAdd, Nat.reduceLT, Nat.reduceLeDiff, List.map_cons, List.map_nil, List.length_cons, List.length_nil, List.drop_succ_cons, List.drop_zero, List.headD_cons, List.append_nil, endQ, rvs, rv1, resV, vw_i, vw_b, zipA, Nat.zero_add, V.b.injEq, Bool.or_false, Bool.false_eq_true, true_and, and_self, implies_true, reduceCtorEq, eDome]
  rfl
theorem P72 (s : Span) : PureCall Try.prog 72 [.ag (eSpan s)] (.b (roundOk s)) := by
  refine pure_body okC hmix Try.func72 cb72 cc72 cs72 cn72 ?_
  simp only [rc72, rs72, gC73, ru_reg, ru_seq, ru_ret, ru_keep, thenQ, run_nil, run_cons, Fam.step, stepQ, evO, opv, qv, ldV, callV, V.cells, solid, hasRef, hasRefL, flat, upd_some, lkp_cons, lkp_nil, ↓reduceIte, Nat.reduceEqDiff, Nat.reduceAdd, Nat.reduceLT, Nat.reduceLeDiff, List.map_cons, List.map_nil, List.length_cons, List.length_nil, List.take_succ_cons, List.take_nil, List.append_nil, endQ, rvs, rv1, resV, vw_i, vw_b, vw_ag, zipA, Nat.zero_add, V.b.injEq, Bool.or_false, Bool.false_eq_true, true_and, and_self, implies_true, spanE, eSpan]
  rfl
def eND (a : Int × Dome) : List V := [.i a.1, .pa (eDome a.2)]
def dND : List V → Int × Dome | [.i n, .pa cs] => (n, dDome cs) | _ => (0, D0)
theorem dND_e (a : Int × Dome) : dND (eND a) = a := by simp [dND, eND, dDome_e]
def r71 : List V → Prop × V := fnG eND dND (fun a => a.2.bolts.length < 1000000) (fun a => goreOk a.2 a.1) .b
def r74 : List V → Prop × V := fnG eND dND (fun a => inI (2 * a.2.loss)) (fun a => widthOk a.2 a.1) .b
def r72 : List V → Prop × V := fnG (fun s => [.ag (eSpan s)]) (fun vs => dSpan (aC (vs.headD .u))) (fun _ => True) roundOk .b
def GD : Gam := ((GC.ext 71 r71).ext 74 r74).ext 72 r72
theorem okD : GOk Try.prog GD :=
  ((okC.ext (fun a w => Try.call71 a w) (fnG_ok fun a h => P71 a.2 a.1 h)).ext (fun a w => Try.call74 a w) (fnG_ok fun a h => P74 a.2 a.1 h)).ext (fun a w => Try.call72 a w) (fnG_ok fun a _ => P72 a)
theorem bStrip (k : Unit) (x : Strip) (h : okStrip k) : GD 80 (V.ag (eStrip x) :: capStrip k) = (True, .b (prStrip k x)) := rfl
theorem bSpan (Γ : Gam) (hΓ : Γ 72 = r72) (k : Unit) (x : Span) (h : okSpan k) : Γ 72 (V.ag (eSpan x) :: capSpan k) = (True, .b (prSpan k x)) := by
  rw [hΓ]
  exact (show r72 _ = r72 [.ag (eSpan x)] from rfl).trans ((fnG_at (e := fun s => [.ag (eSpan s)]) x rfl).trans (by rfl))
theorem bInt (Γ : Gam) (h1 : Γ 71 = r71) (h2 : Γ 74 = r74) (k : Dome × Bool) (x : Int) (h : okInt k) : Γ (if k.2 then 71 else 74) (V.i x :: capInt k) = (True, .b (prInt k x)) := by
  obtain ⟨d, b⟩ := k
  cases b
  · exact (show Γ 74 _ = r74 (eND (x, d)) from by rw [h2]; rfl).trans ((fnG_at (x, d) (dND_e _)).trans (by rw [eq_true (show inI (2 * d.loss) from h)]; rfl))
  · exact (show Γ 71 _ = r71 (eND (x, d)) from by rw [h1]; rfl).trans ((fnG_at (x, d) (dND_e _)).trans (by rw [eq_true (show d.bolts.length < 1000000 from h)]; rfl))
def GE : Gam := famInt (famSpan (famStrip GD))
theorem okE : GOk Try.prog GE := famInt_ok (famSpan_ok (famStrip_ok okD bStrip) (bSpan _ rfl)) (bInt _ rfl rfl)
theorem gE67 (n lo hi : Int) : GE 67 [.i n, .i lo, .i hi] = (True, .b (within n lo hi)) := rfl
theorem gE73 (a b m : Int) : GE 73 [.ag [.i a, .i b], .i m] = (True, .b (isSpan ⟨a, b⟩ m)) := rfl
theorem gE79 (l : List Strip) : GE 79 [.sl 3 (l.map eStrip), .fn 80 []] = (l.length < 10000000, .b (l.all isStrip)) :=
  (show GE 79 _ = famStrip GD 79 [.sl 3 (l.map eStrip), cvStrip ()] from rfl).trans ((famStrip_all GD l ()).trans (by simp [okLStrip, okStrip]; rfl))
theorem P64 (b : Bolt) : PureCall Try.prog 64 [.ag (eBolt b)] (.b (isBolt b)) := by
  refine pure_body okE hmix Try.func64 cb64 cc64 cs64 cn64 ?_
  simp only [rc64, rs64, gE67, gE73, gE79, ru_reg, ru_seq, ru_ret, ru_keep, thenQ, run_nil, run_cons, Fam.step, stepQ, needQ, condB, ug, evO, opv, qv, pickV_bb, binV, ldV, lenV, callV, V.cells, solid, hasRef, hasRefL, flat, upd_some, lkp_cons, lkp_nil, ↓reduceIte, Nat.reduceEqDiff, Nat.reduceAdd, Nat.reduceLT, Nat.reduceLeDiff, List.map_cons, List.map_nil, List.all_cons, List.all_nil, List.length_cons, List.length_nil, List.drop_succ_cons, List.drop_zero, List.take_succ_cons, List.take_zero, List.headD_cons, List.append_nil, endQ, rvs, rv1, resV, vw_i, vw_b, vw_sl, vw_ag, vw_fn, zipA, Nat.zero_add, V.b.injEq, Bool.and_self, Bool.and_true, Bool.or_false, Bool.false_eq_true, true_and, and_true, and_self, implies_true, beq_true, ite_f, Bool.decide_eq_true, imp_self, List.length_map, spanE, eBolt]
  have e : isBolt b = (isSpan b.stretch 60 && decide ((b.strips.length : Int) ≤ 8) && b.strips.all isStrip && within b.wrong 0 2) := by
    unfold isBolt
    have : decide ((b.strips.length : Int) ≤ 8) = decide (b.strips.length ≤ 8) := by congr 1; simp; omega
    rw [this]
    cases isSpan b.stretch 60 <;> cases within b.wrong 0 2 <;> cases b.strips.all isStrip <;> simp
  refine ⟨fun h => ⟨h, ?_⟩, e.symm⟩
  have : b.strips.length ≤ 8 := by cases h1 : isSpan b.stretch 60 <;> simp [h1] at h; omega
  omega
def r64 : List V → Prop × V := fnG (fun b => [.ag (eBolt b)]) dB (fun _ => True) isBolt .b
def GF : Gam := GE.ext 64 r64
theorem okF : GOk Try.prog GF := okE.ext (fun a w => Try.call64 a w) (fnG_ok fun a _ => P64 a)
theorem bBolt (Γ : Gam) (h1 : Γ 64 = r64) (k : Unit) (x : Bolt) (h : okBolt k) : Γ 64 (V.ag (eBolt x) :: capBolt k) = (True, .b (prBolt k x)) := by
  rw [h1]
  exact (show r64 _ = r64 [.ag (eBolt x)] from rfl).trans ((fnG_at (e := fun b => [.ag (eBolt b)]) x (dBolt_e _)).trans (by rfl))
def GG : Gam := famBolt GF
theorem okG : GOk Try.prog GG := famBolt_ok okF (bBolt _ rfl)
theorem gG67 (n lo hi : Int) : GG 67 [.i n, .i lo, .i hi] = (True, .b (within n lo hi)) := rfl
theorem gG75 (l : List Int) (d : Dome) : GG 75 [.sl 1 (l.map eI), .fn 71 [.pa (eDome d)]] = (l.length < 10000000 ∧ d.bolts.length < 1000000, .b (l.all (goreOk d))) :=
  (show GG 75 _ = famInt (famSpan (famStrip GD)) 75 [.sl 1 (l.map eI), cvInt (d, true)] from rfl).trans ((famInt_all _ l (d, true)).trans (by rfl))
theorem gG75' (l : List Int) (d : Dome) : GG 75 [.sl 1 (l.map eI), .fn 74 [.pa (eDome d)]] = (l.length < 10000000 ∧ inI (2 * d.loss), .b (l.all (widthOk d))) :=
  (show GG 75 _ = famInt (famSpan (famStrip GD)) 75 [.sl 1 (l.map eI), cvInt (d, false)] from rfl).trans ((famInt_all _ l (d, false)).trans (by rfl))
theorem gG76 (l : List Span) : GG 76 [.sl 2 (l.map eSpan), .fn 72 []] = (l.length < 10000000, .b (l.all roundOk)) :=
  (show GG 76 _ = famSpan (famStrip GD) 76 [.sl 2 (l.map eSpan), cvSpan ()] from rfl).trans ((famSpan_all _ l ()).trans (by simp [okLSpan, okSpan]; rfl))
theorem gG63 (l : List Bolt) : GG 63 [.sl 4 (l.map eBolt), .fn 64 []] = (l.length < 10000000, .b (l.all isBolt)) :=
  (show GG 63 _ = famBolt GF 63 [.sl 4 (l.map eBolt), cvBolt ()] from rfl).trans ((famBolt_all _ l ()).trans (by simp [okLBolt, okBolt]; rfl))
theorem P62 (d : Dome) : PureCall Try.prog 62 [.ag (eDome d)] (.b (isDome d)) := by
  refine pure_body okG hmix Try.func62 cb62 cc62 cs62 cn62 ?_
  have g1 := gG75 d.gores d
  have g2 := gG75' d.widths d
  unfold eDome at g1 g2
  simp only [rc62, rs62, gG67, g1, g2, gG76, ru_reg, ru_seq, ru_ret, ru_keep, thenQ, run_nil, run_cons, Fam.step, stepQ, needQ, condB, ug, evO, opv, qv, pickV_bb, binV, ldV, lenV, callV, V.cells, solid, hasRef, hasRefL, flat, upd_some, lkp_cons, lkp_nil, ↓reduceIte, Nat.reduceEqDiff, Nat.reduceAdd, Nat.reduceLT, Nat.reduceLeDiff, List.map_cons, List.map_nil, List.all_cons, List.all_nil, List.length_cons, List.length_nil, List.drop_succ_cons, List.drop_zero, List.headD_cons, List.append_nil, endQ, rvs, rv1, resV, vw_i, vw_b, vw_sl, vw_pa, vw_ag, vw_fn, zipA, Nat.zero_add, V.b.injEq, Bool.and_self, Bool.and_true, Bool.or_false, Bool.false_eq_true, true_and, and_true, and_self, implies_true, beq_true, ite_f, Bool.decide_eq_true, imp_self, List.length_map, eDome]
  have e : isDome d = (within (↑d.bolts.length) 1 4 && within (↑d.gores.length) 3 16 && d.gores.all (goreOk d) && within d.loss 0 20 && within (↑d.rounds.length) 1 12 && d.rounds.all roundOk &&
      decide ((d.widths.length : Int) = d.rounds.length) && d.widths.all (widthOk d) && within d.slope 0 500) := by
    have : decide ((d.widths.length : Int) = d.rounds.length) = decide (d.widths.length = d.rounds.length) := by congr 1; simp; omega
    rw [this]
    unfold isDome headOk
    ac_rfl
  refine ⟨fun h => ⟨h, ?_⟩, fun h => ⟨h, ?_⟩, fun h => ⟨h, ?_⟩, e.symm⟩
  · simp [within] at h; omega
  · simp [within] at h; omega
  · simp [within] at h; unfold inI; omega
def r62 : List V → Prop × V := fnG (fun d => [.ag (eDome d)]) dD (fun _ => True) isDome .b
def GH : Gam := GG.ext 62 r62
theorem okH : GOk Try.prog GH := okG.ext (fun a w => Try.call62 a w) (fnG_ok fun a _ => P62 a)
theorem gH63 (l : List Bolt) : GH 63 [.sl 4 (l.map eBolt), .fn 64 []] = (l.length < 10000000, .b (l.all isBolt)) := gG63 l
theorem gH62 (d : Dome) : GH 62 [.ag (eDome d)] = (True, .b (isDome d)) :=
  (show GH 62 _ = r62 [.ag (eDome d)] from rfl).trans (fnG_at (e := fun d => [.ag (eDome d)]) d (dDome_e _))
theorem P41 (d : Dome) : PureCall Try.prog 41 [.ag (eDome d)] (.i (check d)) := by
  refine pure_body okH hmix Try.func41 cb41 cc41 cs41 cn41 ?_
  have g1 := gH62 d
  unfold eDome at g1
  simp only [rc41, rs41, g1, gH63, ru_skip, ru_reg, ru_seq, ru_cnd, ite_P, ru_block, ru_ret, ru_keep, thenQ, blockQ, run_nil, run_cons, Fam.step, stepQ, evO, opv, qv, ldV, callV, V.cells, solid, hasRef, hasRefL, flat, upd_some, lkp_cons, lkp_nil, ↓reduceIte, Nat.reduceEqDiff, Nat.reduceAdd, Nat.reduceLT, Nat.reduceLeDiff, List.map_cons, List.map_nil, List.length_cons, List.length_nil, List.drop_zero, List.take_succ_cons, List.take_nil, List.headD_cons, List.append_nil, endQ, rvs, rv1, resV, vw_i, vw_sl, vw_ag, vw_fn, zipA, Nat.zero_add, V.i.injEq, Bool.or_false, Bool.false_eq_true, true_and, and_true, and_self, implies_true, Bool.not_eq_true', Bool.not_eq_false, eDome]
  refine ⟨fun h => by simp [check, h], fun h => ⟨?_, fun h' => by simp [check, h, h'], fun h' => by simp [check, h, h']⟩⟩
  simp [isDome, headOk, within] at h
  omega
end Go.C02
set_option linter.unusedSimpArgs false
set_option linter.unusedVariables false
namespace Go.C02
open Go.Fam Go.Proofs
theorem flat_len {α : Type} {e : α → List V} {k : Nat} (h : ∀ x, (e x).length = k) : ∀ l : List α, ((l.map e).flatten).length = l.length * k
  | [] => by simp
  | x :: l => by rw [List.map_cons, List.flatten_cons, List.length_append, h, flat_len h l, List.length_cons, Nat.succ_mul]; omega
mutual
theorem cutV_noref (hp : List Blk) (n : Nat) : ∀ v : V, hasRef v = false → cutV hp n v = v
  | .u, _ | .b _, _ | .i _, _ | .z _, _ | .sl _ _, _ | .pa _, _ | .pn, _ | .yl _, _ => by simp [cutV]
  | .ag cs, h | .tp cs, h => by simp only [hasRef] at h; simp only [cutV, cutL_noref hp n cs h]
  | .fn f cs, h => by simp only [hasRef] at h; simp only [cutV, cutL_noref hp n cs h]
  | .gv q v, h => by simp only [hasRef] at h; simp only [cutV, cutV_noref hp n v h]
  | .ad _ _ _, h | .rf _ _ _ _ _, h | .mp _ _, h | .it _ _, h => by simp [hasRef] at h
theorem cutL_noref (hp : List Blk) (n : Nat) : ∀ vs : List V, hasRefL vs = false → cutL hp n vs = vs
  | [], _ => rfl
  | v :: vs, h => by
    simp only [hasRefL, Bool.or_eq_false_iff] at h
    simp only [cutL, cutV_noref hp n v h.1, cutL_noref hp n vs h.2]
end
theorem cutL_append (hp : List Blk) (n : Nat) : ∀ (a b : List V), cutL hp n (a ++ b) = cutL hp n a ++ cutL hp n b
  | [], b => rfl
  | v :: a, b => by simp only [List.cons_append, cutL, cutL_append hp n a b]
theorem hasRefL_append : ∀ (a b : List V), hasRefL (a ++ b) = (hasRefL a || hasRefL b)
  | [], b => by simp [hasRefL]
  | v :: a, b => by simp only [List.cons_append, hasRefL, hasRefL_append a b, Bool.or_assoc]
mutual
theorem upV_noref (n : Nat) : ∀ v : V, hasRef v = false → upV n v = v
  | .u, _ | .b _, _ | .i _, _ | .z _, _ | .sl _ _, _ | .pa _, _ | .pn, _ | .yl _, _ => by simp [upV]
  | .ag cs, h | .tp cs, h => by simp only [hasRef] at h; simp only [upV, upL_noref n cs h]
  | .fn f cs, h => by simp only [hasRef] at h; simp only [upV, upL_noref n cs h]
  | .gv q v, h => by simp only [hasRef] at h; simp only [upV, upV_noref n v h]
  | .ad _ _ _, h | .rf _ _ _ _ _, h | .mp _ _, h | .it _ _, h => by simp [hasRef] at h
theorem upL_noref (n : Nat) : ∀ vs : List V, hasRefL vs = false → upL n vs = vs
  | [], _ => rfl
  | v :: vs, h => by
    simp only [hasRefL, Bool.or_eq_false_iff] at h
    simp only [upL, upV_noref n v h.1, upL_noref n vs h.2]
end
theorem hasRefL_flat {α : Type} {e : α → List V} (h : ∀ x, hasRefL (e x) = false) : ∀ l : List α, hasRefL (l.map e).flatten = false
  | [] => rfl
  | x :: l => by simp only [List.map_cons, List.flatten_cons, hasRefL_append, h, hasRefL_flat h l, Bool.or_false]
theorem hasRefL_take (vs : List V) (n : Nat) (h : hasRefL vs = false) : hasRefL (vs.take n) = false := by
  have := hasRefL_append (vs.take n) (vs.drop n)
  rw [List.take_append_drop, h] at this
  exact (Bool.or_eq_false_iff.1 this.symm).1
theorem hasRefL_drop (vs : List V) (n : Nat) (h : hasRefL vs = false) : hasRefL (vs.drop n) = false := by
  have := hasRefL_append (vs.take n) (vs.drop n)
  rw [List.take_append_drop, h] at this
  exact (Bool.or_eq_false_iff.1 this.symm).2
theorem put_same {vs : List V} {k : Nat} {v : V} (h : vs[k]? = some v) : vs.take k ++ [v] ++ vs.drop (k + 1) = vs := by
  have hl := getElemLt h
  have e : vs[k] = v := by rw [List.getElem?_eq_getElem hl] at h; exact Option.some.inj h
  rw [← e, List.append_assoc, List.singleton_append, ← List.drop_eq_getElem_cons hl, List.take_append_drop]
theorem flat_get {α : Type} {e : α → List V} {k : Nat} (h : ∀ x, (e x).length = k) : ∀ (l : List α) (i j : Nat) (x : α), l[i]? = some x → j < k → ((l.map e).flatten)[i * k + j]? = (e x)[j]?
  | [], i, j, x, hx, _ => by simp at hx
  | y :: l, 0, j, x, hx, hj => by
    simp at hx; subst hx
    rw [List.map_cons, List.flatten_cons, List.getElem?_append_left (by rw [h]; omega)]
    congr 1; omega
  | y :: l, i + 1, j, x, hx, hj => by
    rw [List.map_cons, List.flatten_cons, List.getElem?_append_right (by rw [h, Nat.succ_mul]; omega), h]
    have := flat_get h l i j x (by simpa using hx) hj
    rw [← this]; congr 1; rw [Nat.succ_mul]; omega
theorem chunk_flat {α : Type} {e : α → List V} {k : Nat} (h : ∀ x, (e x).length = k) : ∀ (l : List α), chunk k ((l.map e).flatten) 0 l.length = l.map e
  | [] => by simp [chunk]
  | x :: l => by
    rw [List.length_cons, chunk_succ, List.map_cons, List.flatten_cons, Nat.zero_add, List.drop_zero]
    have e1 : (e x ++ (l.map e).flatten).take k = e x := by rw [List.take_append_of_le_length (by rw [h]; exact Nat.le_refl _), List.take_of_length_le (by rw [h]; exact Nat.le_refl _)]
    rw [e1]
    congr 1
    have ih := chunk_flat h l
    unfold chunk at ih ⊢
    conv => rhs; rw [← ih]
    apply List.map_congr_left
    intro j _
    congr 1
    have e2 : k + j * k = (e x).length + j * k := by rw [h]
    rw [e2, List.drop_append, Nat.zero_add]
    simp
theorem map_vw_rows {α : Type} {e : α → List V} (hp : List Blk) (n : Nat) (h : ∀ x, (e x).map (vw hp n) = e x) (l : List α) : (l.map e).map (fun r => r.map (vw hp n)) = l.map e := by
  rw [List.map_map]
  exact List.map_congr_left fun x _ => h x
theorem P22 (d : Dome) (h : d.bolts.length < 1000000 ∧ d.gores.length < 1000000 ∧ d.rounds.length < 1000000 ∧ d.widths.length < 1000000 ∧ ∀ b ∈ d.bolts, b.strips.length < 1000000) : PureCall Try.prog 22 [.ag (eDome d)] (.ag (eDome d)) := by
  refine pure_body okH hmix Try.func22 cb22 cc22 cs22 cn22 ?_
  simp only [rc22, rs22, List.flatten_nil, ru_reg, ru_seq, ru_block, ru_keep, putB, thenQ, run_nil, run_cons, Fam.step, stepQ, stepW, needW, putB, nv, sv, newsV, evO, opv, qv, ldV, curG, foldParts, putAt, partsOk, partsOne, V.cells, solid, cellOk, hasRef, hasRefL, upd_some, upd_none, lkp_cons, lkp_nil, ↓reduceIte, Nat.reduceEqDiff, Nat.reduceAdd, Nat.reduceMul, Nat.reduceLeDiff, List.map_cons, List.map_nil, List.all_cons, List.all_nil, List.length_cons, List.length_nil, List.drop_succ_cons, List.drop_zero, List.drop_nil, List.take_succ_cons, List.take_zero, List.take_nil, List.headD_cons, List.cons_append, List.nil_append, List.append_nil, List.getElem?_cons_zero, List.getElem?_cons_succ, List.set_cons_zero, List.set_cons_succ, List.replicate_zero, vw_i, vw_sl, vw_ag, zipA, beq_self_eq_true, Nat.zero_add, Nat.add_zero, Bool.and_self, Bool.or_false, Bool.false_eq_true, true_and, and_self, List.length_map, eDome]
  refine ⟨by unfold fitsLen; omega, ?_⟩
  refine ru_count d.bolts.length (fun i => ⟨lkp [(1, .pa (eDome d)), (2, .ad 0 0 0), (3, .ad 1 0 0), (4, .i i)], [.cells 0 [.z 4, .z 1, .i 0, .z 2, .z 1, .i 0], .cells 0 [.rf 2 1 0 d.bolts.length 4, .sl 1 (d.gores.map eI), .i d.loss, .sl 2 (d.rounds.map eSpan), .sl 1 (d.widths.map eI), .i d.slope], .cells 1 (d.bolts.map eBolt).flatten]⟩) ?_ ?_ ?_
  · simp only [Int.natCast_zero, cutL_noref _ _ _ (hasRefL_flat (e := eBolt) (fun _ => rfl) d.bolts), cutH, kp, cutV, cutL, cutB, lkp_cons, lkp_nil, ↓reduceIte, Nat.reduceEqDiff, Nat.reduceLT, List.map_cons, List.map_nil, List.take_succ_cons, List.take_nil, eDome]
  · intro i hi
    obtain ⟨x, hx⟩ : ∃ x, d.bolts[i]? = some x := ⟨_, List.getElem?_eq_getElem hi⟩
    have hlt : (i : Int) < d.bolts.length := by omega
    have h3 : inI ((i : Int) + 1) := by unfold inI; omega
    have hfl := flat_len (e := eBolt) (k := 4) (fun _ => rfl) d.bolts
    have hst : fitsLen x.strips.length := by have := h.2.2.2.2 x (List.mem_of_getElem? hx); unfold fitsLen; omega
    have hoff : i * 4 + 2 + 1 ≤ d.bolts.length * 4 := by omega
    have hnr := hasRefL_flat (e := eBolt) (fun _ => rfl) d.bolts
    have hns := hasRefL_flat (e := eStrip) (fun _ => rfl) x.strips
    have hsl := flat_len (e := eStrip) (k := 3) (fun _ => rfl) x.strips
    have hvw : ∀ hp, (x.strips.map eStrip).map (fun r => r.map (vw hp 7)) = x.strips.map eStrip := fun hp => map_vw_rows (e := eStrip) hp 7 (fun _ => rfl) _
    have hput : List.take (i * 4 + 2) (d.bolts.map eBolt).flatten ++ [V.sl 3 (x.strips.map eStrip)] ++ List.drop (i * 4 + 2 + 1) (d.bolts.map eBolt).flatten = (d.bolts.map eBolt).flatten :=
      put_same (flat_get (k := 4) (fun _ => rfl) d.bolts i 2 x hx (by decide))
    simp only [hx, hlt, Int.natCast_add, Int.natCast_one, h3, List.flatten_nil, hfl, hst, hoff, cutL_append, cutL_noref _ _ _ (hasRefL_take _ _ hnr), cutL_noref _ _ _ (hasRefL_drop _ _ hnr), cutL_noref _ _ _ hnr, hpF, upB, upL_noref _ _ hns, chunk_flat (e := eStrip) (k := 3) (fun _ => rfl), hsl, hvw, Nat.le_refl, hput, ru_skip, ru_reg, ru_any, ru_seq, ru_cnd, ru_block, ru_keep, ru_drp, ↓cut_lkp, putBs, optL, cutH, thenQ, blockQ, run_nil, run_cons, Fam.step, stepQ, needW, runX, eff, nextD, fpR, fpQ, fpV, disjB, hits, nv, sv, newsV, evO, opv, qv, binV, ldV, iadV, lenV, curG, foldParts, putAt, partsOk, partsOne, V.cells, solid, cellOk, kp, cutV, cutL, cutB, upd_some, upd_none, lkp_cons, lkp_nil, ↓reduceIte, Nat.reduceEqDiff, Nat.reduceAdd, Nat.reduceMul, Nat.reduceLT, Nat.reduceLeDiff, Nat.reduceBEq, List.map_cons, List.map_nil, List.all_cons, List.all_nil, List.length_cons, List.length_nil, List.drop_succ_cons, List.drop_zero, List.take_succ_cons, List.take_zero, List.take_nil, List.headD_cons, List.cons_append, List.nil_append, List.getElem?_cons_zero, List.getElem?_cons_succ, List.getElem?_nil, Option.getD_some, Option.getD_none, List.set_cons_zero, List.set_cons_succ, List.replicate_zero, List.replicate_succ, List.isEmpty_nil, List.isEmpty_cons, vw_rf, Int.natCast_nonneg, beq_self_eq_true, Nat.zero_add, Nat.add_zero, Bool.and_self, Bool.and_true, Bool.true_and, Bool.false_and, Bool.and_false, Bool.or_false, Bool.false_or, Bool.not_true, Bool.not_false, Bool.false_eq_true, decide_true, and_self, false_and, reduceCtorEq, Option.map_some, List.any_cons, List.any_nil, List.contains_cons, List.contains_nil, List.length_map, Int.toNat_natCast, List.getD_eq_getElem?_getD, List.getElem?_map, eBolt, eDome]
  · have v1 : ∀ hp, (d.bolts.map eBolt).map (fun r => r.map (vw hp 6)) = d.bolts.map eBolt := fun hp => map_vw_rows (e := eBolt) hp 6 (fun _ => rfl) _
    have v2 : ∀ hp, (d.gores.map eI).map (fun r => r.map (vw hp 6)) = d.gores.map eI := fun hp => map_vw_rows (e := eI) hp 6 (fun _ => rfl) _
    have v3 : ∀ hp, (d.rounds.map eSpan).map (fun r => r.map (vw hp 6)) = d.rounds.map eSpan := fun hp => map_vw_rows (e := eSpan) hp 6 (fun _ => rfl) _
    have v4 : ∀ hp, (d.widths.map eI).map (fun r => r.map (vw hp 6)) = d.widths.map eI := fun hp => map_vw_rows (e := eI) hp 6 (fun _ => rfl) _
    simp only [List.flatten_nil, flat_len (e := eBolt) (k := 4) (fun _ => rfl), flat_len (e := eI) (k := 1) (fun _ => rfl), flat_len (e := eSpan) (k := 2) (fun _ => rfl), chunk_flat (e := eBolt) (k := 4) (fun _ => rfl), chunk_flat (e := eI) (k := 1) (fun _ => rfl), chunk_flat (e := eSpan) (k := 2) (fun _ => rfl), v1, v2, v3, v4, Nat.le_refl, ru_reg, ru_any, ru_seq, ru_cnd, ru_exit, ru_ret, ru_keep, putBs, optL, putB, thenQ, blockQ, run_nil, run_cons, Fam.step, stepQ, stepW, needW, runX, eff, nextD, fpR, fpQ, fpV, disjB, hits, putB, nv, sv, newsV, evO, opv, qv, binV, ldV, lenV, curG, foldParts, putAt, partsOk, partsOne, V.cells, solid, cellOk, upd_some, upd_none, lkp_cons, lkp_nil, ↓reduceIte, Nat.reduceEqDiff, Nat.reduceAdd, Nat.reduceMul, Nat.reduceLeDiff, Nat.reduceBEq, List.map_cons, List.map_nil, List.all_cons, List.all_nil, List.length_cons, List.length_nil, List.drop_succ_cons, List.drop_zero, List.drop_nil, List.take_succ_cons, List.take_zero, List.take_nil, List.headD_cons, List.cons_append, List.nil_append, List.append_nil, List.getElem?_cons_zero, List.getElem?_cons_succ, List.getElem?_nil, Option.getD_some, Option.getD_none, List.set_cons_zero, List.set_cons_succ, List.replicate_zero, List.replicate_succ, List.isEmpty_nil, List.isEmpty_cons, endQ, rvs, rv1, resV, vw_i, vw_ag, vw_rf, Int.lt_irrefl, beq_self_eq_true, Nat.zero_add, Nat.add_zero, Bool.and_self, Bool.and_true, Bool.true_and, Bool.false_and, Bool.and_false, Bool.or_false, Bool.false_or, Bool.not_true, Bool.not_false, Bool.false_eq_true, decide_false, true_and, and_true, and_self, List.any_cons, List.any_nil, List.contains_cons, List.contains_nil, List.length_map, List.getD_eq_getElem?_getD, eDome]
    unfold fitsLen
    omega
end Go.C02
set_option linter.unusedSimpArgs false
set_option linter.unusedVariables false
namespace Go.C02
open Go.Fam Go.Proofs
/-- the numbers from lo to hi -/
def ints (lo hi : Int) : List Int := (List.range (hi + 1 - lo).toNat).map fun (k : Nat) => lo + k
theorem ints_len (lo hi : Int) : (ints lo hi).length = (hi + 1 - lo).toNat := by simp [ints]
theorem ints_get {lo hi : Int} {k : Nat} (h : k < (hi + 1 - lo).toNat) : (ints lo hi)[k]? = some (lo + k) := by simp [ints, h]
theorem ints_get' {lo hi : Int} {k : Nat} {x : Int} (h : (ints lo hi)[k]? = some x) : x = lo + k ∧ k < (hi + 1 - lo).toNat := by
  have hl := getElemLt h
  rw [ints_len] at hl
  rw [ints_get hl] at h
  exact ⟨(Option.some.inj h).symm, hl⟩
theorem mem_ints {lo hi n : Int} : n ∈ ints lo hi ↔ lo ≤ n ∧ n ≤ hi := by
  simp only [ints, List.mem_map, List.mem_range]
  constructor
  · rintro ⟨k, hk, rfl⟩; omega
  · rintro ⟨h1, h2⟩; exact ⟨(n - lo).toNat, by omega, by omega⟩
theorem drop_cons {α : Type} {l : List α} {k : Nat} {x : α} (h : l[k]? = some x) : l.drop k = x :: l.drop (k + 1) := by
  have hl := getElemLt h
  rw [List.drop_eq_getElem_cons hl]
  rw [List.getElem?_eq_getElem hl] at h
  rw [Option.some.inj h]
def ysB (b : Bolt) : List (List V) := (ints b.stretch.low b.stretch.high).map fun n => [.i n]
theorem I70 (b : Bolt) (h1 : tame 1000 b.stretch.low) (h2 : tame 1000 b.stretch.high) : IterCall Try.prog 70 [.pa (eBolt b)] (ysB b) := by
  refine iter_body okH hmix Try.func70 cb70 (md := 2) rfl cc70 cs70 cn70 ?_
  intro l
  simp only [rc70, ru_reg, ru_seq, ru_block, ru_keep, thenQ, run_nil, run_cons, Fam.step, stepQ, evO, opv, qv, ldV, upd_some, lkp_cons, lkp_nil, ↓reduceIte, Nat.reduceEqDiff, Nat.reduceAdd, Nat.reduceLeDiff, List.map_cons, List.map_nil, List.length_cons, List.length_nil, List.drop_zero, List.headD_cons, zipA, Nat.zero_add, Bool.false_eq_true, true_and, reduceCtorEq, eBolt]
  have hN : ∀ i, i < (b.stretch.high + 1 - b.stretch.low).toNat → (ysB b)[i]? = some [.i (b.stretch.low + i)] := fun i hi => by simp only [ysB, List.getElem?_map, ints_get hi, Option.map_some]
  refine ru_count (b.stretch.high + 1 - b.stretch.low).toNat (fun i => ⟨lkp [(0, .yl l), (1, .pa (eBolt b)), (3, .i (b.stretch.low + i))], [.gh [.yl l, .pa (eBolt b)] (some ((ysB b).drop i))]⟩) ?_ ?_ ?_
  · simp only [Int.natCast_zero, Int.add_zero, kp, lkp_cons, lkp_nil, ↓reduceIte, Nat.reduceEqDiff, List.map_cons, List.map_nil, List.drop_zero, reduceCtorEq, eBolt]
  · intro i hi
    have hy := drop_cons (hN i hi)
    have hlt : b.stretch.low + (i : Int) ≤ b.stretch.high := by omega
    have h3 : inI (b.stretch.low + (i : Int) + 1) := by unfold inI; unfold tame at *; omega
    simp only [hy, hlt, Int.natCast_add, Int.natCast_one, Int.add_assoc, ru_skip, ru_reg, ru_seq, ru_cnd, ite_P, ru_block, ru_ret, ru_keep, ru_yrg, sfree, yres, slots, endI, thenQ, blockQ, run_nil, run_cons, Fam.step, stepQ, needW, condB, evO, opv, qv, binV, ldV, flat, flatL, kp, upd_some, lkp_cons, lkp_nil, ↓reduceIte, Nat.reduceEqDiff, Nat.reduceAdd, Nat.reduceLeDiff, List.map_cons, List.map_nil, List.length_cons, List.length_nil, List.drop_succ_cons, List.drop_zero, List.headD_cons, List.getElem?_cons_zero, Nat.zero_add, Bool.and_self, Bool.false_eq_true, decide_true, true_and, reduceCtorEq, Bool.not_eq_true', Bool.not_eq_false, eBolt]
    refine ⟨?_, ?_⟩
    · simp [flat]
    · intro bb
      cases bb <;> simp only [↓reduceIte, Bool.false_eq_true, Bool.true_eq_false, true_and, and_true, and_self, forall_const, false_implies]
      rw [Int.add_assoc] at h3
      exact h3
  · have hgt : ¬ (b.stretch.low + ((b.stretch.high + 1 - b.stretch.low).toNat : Int) ≤ b.stretch.high) := by omega
    have hnil : (ysB b).drop (b.stretch.high + 1 - b.stretch.low).toNat = [] := by rw [List.drop_eq_nil_iff]; simp [ysB, ints_len]
    simp only [hgt, hnil, ru_reg, ru_seq, ru_cnd, ru_exit, ru_keep, endI, thenQ, blockQ, run_nil, run_cons, Fam.step, stepQ, evO, opv, qv, binV, ldV, upd_some, lkp_cons, lkp_nil, ↓reduceIte, Nat.reduceEqDiff, Nat.reduceAdd, Nat.reduceLeDiff, List.map_cons, List.map_nil, List.length_cons, List.length_nil, List.drop_succ_cons, List.drop_zero, List.headD_cons, List.getElem?_cons_zero, Nat.zero_add, Bool.false_eq_true, decide_false, and_self, reduceCtorEq, eBolt]

structure ValidB (b : Bolt) : Prop where
  st : 0 ≤ b.stretch.low ∧ b.stretch.low ≤ b.stretch.high ∧ b.stretch.high ≤ 60
  n : b.strips.length ≤ 8
  wr : 0 ≤ b.wrong ∧ b.wrong ≤ 2
  sp : ∀ x ∈ b.strips, 1 ≤ x.long ∧ x.long ≤ 2000 ∧ 0 ≤ x.pulled.low ∧ x.pulled.low ≤ x.pulled.high ∧ x.pulled.high ≤ 4000
structure Valid (d : Dome) : Prop where
  nb : 1 ≤ d.bolts.length ∧ d.bolts.length ≤ 4
  ng : 3 ≤ d.gores.length ∧ d.gores.length ≤ 16
  nr : 1 ≤ d.rounds.length ∧ d.rounds.length ≤ 12
  nw : d.widths.length = d.rounds.length
  loss : 0 ≤ d.loss ∧ d.loss ≤ 20
  slope : 0 ≤ d.slope ∧ d.slope ≤ 500
  gores : ∀ g ∈ d.gores, 0 ≤ g ∧ g < d.bolts.length
  rounds : ∀ s ∈ d.rounds, 0 ≤ s.low ∧ s.low ≤ s.high ∧ s.high ≤ 40000
  widths : ∀ n ∈ d.widths, 2 * d.loss ≤ n ∧ n ≤ 2000
  bolts : ∀ b ∈ d.bolts, ValidB b
theorem validB_of {b : Bolt} (h : isBolt b = true) : ValidB b := by
  simp only [isBolt, isSpan, within, Bool.and_eq_true, decide_eq_true_eq, List.all_eq_true, isStrip] at h
  refine ⟨by omega, by omega, by omega, fun x hx => ?_⟩
  have := h.2 x hx
  omega
theorem isDome_of {d : Dome} (h : check d = 0) : isDome d = true ∧ d.bolts.all isBolt = true := by
  unfold check at h
  cases h1 : isDome d <;> cases h2 : d.bolts.all isBolt <;> simp [h1, h2] at h ⊢
theorem valid_of {d : Dome} (h : check d = 0) : Valid d := by
  obtain ⟨h1, h2⟩ := isDome_of h
  simp only [isDome, headOk, within, Bool.and_eq_true, decide_eq_true_eq, List.all_eq_true, goreOk, roundOk, isSpan, widthOk] at h1
  rw [List.all_eq_true] at h2
  refine ⟨by omega, by omega, by omega, by omega, by omega, by omega, fun g hg => ?_, fun s hs => ?_, fun n hn => ?_, fun b hb => validB_of (h2 b hb)⟩
  · have := h1.1.1.2 g hg; omega
  · have := h1.1.2 s hs; omega
  · have := h1.2 n hn; omega
theorem ValidB.ok66 {b : Bolt} (h : ValidB b) {s : Int} (hs : 0 ≤ s ∧ s ≤ 60) : ok66 b.strips s := by
  refine ⟨by unfold tame; omega, fun x hx => ?_, by have := h.n; omega⟩
  have := h.sp x hx
  unfold tame; omega
theorem P60 (b : Bolt) : PureCall Try.prog 60 [.ag (eBolt b)] (.fn 70 [.pa (eBolt b)]) := by
  refine pure_body okH hmix Try.func60 cb60 cc60 cs60 cn60 ?_
  simp only [rc60, rs60, eBolt, ru_reg, ru_seq, ru_ret, ru_keep, thenQ, run_nil, run_cons, Fam.step, stepQ, evO, opv, qv, V.cells, solid, hasRef, hasRefL, upd_some, lkp_cons, lkp_nil, ↓reduceIte, Nat.reduceEqDiff, List.map_cons, List.map_nil, endQ, rvs, rv1, resV, vw_i, vw_sl, vw_pa, vw_ag, vw_fn, zipA, Bool.or_false, and_self, eBolt]
def rI70 : List V → Prop × V := fnG (fun b => [.pa (eBolt b)]) (fun vs => dBolt (pC (vs.headD .u))) (fun b => tame 1000 b.stretch.low ∧ tame 1000 b.stretch.high) ysB (.sl 0)
def r60 : List V → Prop × V := fnG (fun b => [.ag (eBolt b)]) dB (fun _ => True) (fun b => b) (fun b => .fn 70 [.pa (eBolt b)])
def r41 : List V → Prop × V := fnG (fun d => [.ag (eDome d)]) dD (fun _ => True) check .i
def eDN (a : Dome × Int) : List V := [.ag (eDome a.1), .i a.2]
def dDN : List V → Dome × Int | [.ag cs, .i n] => (dDome cs, n) | _ => (D0, 0)
theorem dDN_e (a : Dome × Int) : dDN (eDN a) = a := by simp [dDN, eDN, dDome_e]
def r46 : List V → Prop × V := fnG eDN dDN (fun a => a.1.rounds.length < 1000) (fun a => within a.2 0 (a.1.rounds.length - 1)) .b
def r56 : List V → Prop × V := fnG eDN dDN (fun a => a.1.bolts.length < 1000) (fun a => within a.2 0 (a.1.bolts.length - 1)) .b
def r61 : List V → Prop × V := fnG eBI dBI (fun a => ok66 a.1.strips a.2) (fun a => (falses a.1.strips a.2 : Int)) .i
def GJ : Gam := ((((((GH.ext 41 r41).ext 46 r46).ext 56 r56).ext 61 r61).ext 39 r39).ext 60 r60).ext 2000070 rI70
theorem okJ : GOk Try.prog GJ := by
  have k1 := okH.ext (f := 41) (r := r41) (fun a w => Try.call41 a w) (fnG_ok fun a _ => P41 a)
  have k2 := k1.ext (f := 46) (r := r46) (fun a w => Try.call46 a w) (fnG_ok fun a h => P46 a.1 a.2 h)
  have k3 := k2.ext (f := 56) (r := r56) (fun a w => Try.call56 a w) (fnG_ok fun a h => P56 a.1 a.2 h)
  have k4 := k3.ext (f := 61) (r := r61) (fun a w => Try.call61 a w) (fnG_ok fun a h => P61 a.1 a.2 h)
  have k5 := k4.ext (f := 39) (r := r39) (fun a w => Try.call39 a w) (fnG_ok fun a _ => P39 a)
  have k6 := k5.ext (f := 60) (r := r60) (fun a w => Try.call60 a w) (fnG_ok fun a _ => P60 a)
  refine k6.extI (f := 70) (r := rI70) (fun a w => Try.call70 a w) fun vs ys h1 h2 => ?_
  simp only [rI70, fnG, V.sl.injEq, true_and] at h1 h2
  rw [← h1.1, ← h2]
  exact I70 _ h1.2.1 h1.2.2
theorem gJ54 (n lo hi : Int) : GJ 54 [.i n, .i lo, .i hi] = (True, .b (within n lo hi)) := rfl
theorem gJ66 (a b : Int) (l : List Strip) (w s : Int) : GJ 66 [.ag [.i a, .i b, .sl 3 (l.map eStrip), .i w], .i s] = (ok66 l s, .i (falses l s)) :=
  (show GJ 66 _ = r66 (eBI (⟨⟨a, b⟩, l, w⟩, s)) from rfl).trans (fnG_at _ (dBI_e _))
theorem gJ61 (a b : Int) (l : List Strip) (w s : Int) : GJ 61 [.ag [.i a, .i b, .sl 3 (l.map eStrip), .i w], .i s] = (ok66 l s, .i (falses l s)) :=
  (show GJ 61 _ = r61 (eBI (⟨⟨a, b⟩, l, w⟩, s)) from rfl).trans (fnG_at _ (dBI_e _))
theorem gJ49 (a b : Int) (l : List Strip) (w s : Int) : GJ 49 [.ag [.i a, .i b, .sl 3 (l.map eStrip), .i w], .i s] = (ok66 l s, .b (can ⟨⟨a, b⟩, l, w⟩ s)) :=
  (show GJ 49 _ = r49 (eBI (⟨⟨a, b⟩, l, w⟩, s)) from rfl).trans (fnG_at _ (dBI_e _))
theorem gJ41 (d : Dome) : GJ 41 [.ag (eDome d)] = (True, .i (check d)) := (show GJ 41 _ = r41 [.ag (eDome d)] from rfl).trans (fnG_at (e := fun d => [.ag (eDome d)]) d (dDome_e _))
theorem gJ39 (d : Dome) : GJ 39 [.ag (eDome d)] = (True, .i (check d)) := (show GJ 39 _ = r39 [.ag (eDome d)] from rfl).trans (fnG_at (e := fun d => [.ag (eDome d)]) d (dDome_e _))
theorem gJ46 (d : Dome) (n : Int) : GJ 46 [.ag (eDome d), .i n] = (d.rounds.length < 1000, .b (within n 0 (d.rounds.length - 1))) := (show GJ 46 _ = r46 (eDN (d, n)) from rfl).trans (fnG_at _ (dDN_e _))
theorem gJ56 (d : Dome) (n : Int) : GJ 56 [.ag (eDome d), .i n] = (d.bolts.length < 1000, .b (within n 0 (d.bolts.length - 1))) := (show GJ 56 _ = r56 (eDN (d, n)) from rfl).trans (fnG_at _ (dDN_e _))
theorem gJ60 (b : Bolt) : GJ 60 [.ag (eBolt b)] = (True, .fn 70 [.pa (eBolt b)]) := (show GJ 60 _ = r60 [.ag (eBolt b)] from rfl).trans (fnG_at (e := fun b => [.ag (eBolt b)]) b (dBolt_e _))
theorem gJ70 (b : Bolt) : GJ 2000070 [.pa (eBolt b)] = (tame 1000 b.stretch.low ∧ tame 1000 b.stretch.high, .sl 0 (ysB b)) := (show GJ 2000070 _ = rI70 [.pa (eBolt b)] from rfl).trans (fnG_at (e := fun b => [.pa (eBolt b)]) b (dBolt_e _))

theorem ysB_get {b : Bolt} {k : Nat} {x : List V} (h : (ysB b)[k]? = some x) : x = [.i (b.stretch.low + k)] ∧ k < (b.stretch.high + 1 - b.stretch.low).toNat := by
  simp only [ysB, List.getElem?_map, Option.map_eq_some_iff] at h
  obtain ⟨n, hn, rfl⟩ := h
  obtain ⟨rfl, h2⟩ := ints_get' hn
  exact ⟨rfl, h2⟩
theorem ysB_len (b : Bolt) : (ysB b).length = (b.stretch.high + 1 - b.stretch.low).toNat := by simp [ysB, ints_len]
def fewestTo (b : Bolt) (k : Nat) : Int := ((ints b.stretch.low b.stretch.high).take k).foldl (fun m s => min m (falses b.strips s : Int)) b.strips.length
def fewestOf (b : Bolt) : Int := fewestTo b (ints b.stretch.low b.stretch.high).length
theorem fewestTo_succ {b : Bolt} {k : Nat} (h : k < (b.stretch.high + 1 - b.stretch.low).toNat) : fewestTo b (k + 1) = min (fewestTo b k) (falses b.strips (b.stretch.low + k)) := by
  unfold fewestTo
  rw [take_succ_of (ints_get h), List.foldl_append]; rfl
def boltAt (d : Dome) (n : Int) : Bolt := (d.bolts[n.toNat]?).getD ⟨⟨0, 0⟩, [], 0⟩
def eNE (a : Int × Int) : V := .tp [.i a.1, .i a.2]
def fewest (d : Dome) (n : Int) : Int × Int := if check d ≠ 0 then (0, check d) else if within n 0 (d.bolts.length - 1) then (fewestOf (boltAt d n), 0) else (0, 1)
theorem within_nat {n : Int} {k : Nat} (h : within n 0 ((k : Int) - 1) = true) : 0 ≤ n ∧ n < k := by simp only [within, Bool.and_eq_true, decide_eq_true_eq] at h; omega

theorem P43 (d : Dome) (n : Int) (hb : d.bolts.length < 1000000) : PureCall Try.prog 43 [.ag (eDome d), .i n] (eNE (fewest d n)) := by
  refine pure_body okJ hmix Try.func43 cb43 cc43 cs43 cn43 ?_
  have g1 := gJ39 d
  unfold eDome at g1
  simp only [rc43, rs43, g1, gJ54, eNE, ru_skip, ru_reg, ru_seq, ru_cnd, ite_P, ru_block, ru_ret, ru_keep, putB, thenQ, run_nil, run_cons, Fam.step, stepQ, stepW, needW, putB, nv, sv, evO, opv, qv, binV, ldV, iadV, lenV, curG, callV, putAt, V.cells, solid, hasRef, hasRefL, flat, upd_some, upd_none, lkp_cons, lkp_nil, ↓reduceIte, Nat.reduceEqDiff, Nat.reduceAdd, Nat.reduceLT, Nat.reduceLeDiff, List.map_cons, List.map_nil, List.length_cons, List.length_nil, List.drop_zero, List.take_succ_cons, List.take_zero, List.take_nil, List.headD_cons, List.nil_append, List.append_nil, List.getElem?_cons_zero, List.getElem?_nil, List.set_cons_zero, endQ, rvs, rv1, resV, vw_i, vw_sl, vw_ag, vw_tp, zipA, beq_self_eq_true, Nat.zero_add, Nat.add_zero, Bool.or_false, Bool.false_eq_true, decide_eq_false_iff_not, true_and, and_self, implies_true, reduceCtorEq, Bool.not_eq_true', List.length_map, List.getD_eq_getElem?_getD, List.getElem?_map, Bool.not_eq_false, Classical.not_not, eDome]
  refine ⟨fun h => by simp [fewest, h], fun h => ?_⟩
  have hv := valid_of h
  refine ⟨by unfold inI; omega, fun h2 => by simp [fewest, h, h2], fun h2 => ?_⟩
  obtain ⟨k1, k2⟩ := within_nat h2
  obtain ⟨b, hbo⟩ : ∃ b, d.bolts[n.toNat]? = some b := ⟨_, List.getElem?_eq_getElem (by omega)⟩
  have hvb := hv.bolts b (List.mem_of_getElem? hbo)
  have hba : boltAt d n = b := by simp [boltAt, hbo]
  have hst := hvb.st
  simp only [k1, k2, hbo, cellOk, Nat.reduceAdd, Nat.reduceLeDiff, List.all_cons, List.all_nil, List.length_cons, List.length_nil, List.drop_succ_cons, List.drop_zero, List.drop_nil, List.take_succ_cons, List.take_nil, List.headD_cons, List.append_nil, Option.getD_some, Nat.zero_add, Bool.and_self, true_and, and_self, Option.map_some, List.length_map, eBolt]
  refine ru_count (b.stretch.high + 1 - b.stretch.low).toNat (fun i => ⟨lkp [(7, .ad 0 0 0), (8, .i (fewestTo b i)), (9, .i (b.stretch.low + i))], [.cells 0 (eBolt b)]⟩) ?_ ?_ ?_
  · simp only [Int.natCast_zero, Int.add_zero, fewestTo, List.foldl_nil, List.foldl_nil, kp, lkp_cons, lkp_nil, ↓reduceIte, Nat.reduceEqDiff, List.map_cons, List.map_nil, List.take_zero, eBolt]
  · intro i hi
    have hlt : b.stretch.low + (i : Int) ≤ b.stretch.high := by omega
    have h3 : inI (b.stretch.low + (i : Int) + 1) := by unfold inI; omega
    have h4 := hvb.ok66 (s := b.stretch.low + i) (by omega)
    simp only [hlt, h4, gJ66, fewestTo_succ hi, Int.natCast_add, Int.natCast_one, Int.add_assoc, ru_skip, ru_reg, ru_seq, ru_cnd, ru_block, ru_keep, thenQ, blockQ, run_nil, run_cons, Fam.step, stepQ, evO, opv, qv, binV, ldV, curG, callV, hasRef, hasRefL, flat, kp, upd_some, lkp_cons, lkp_nil, ↓reduceIte, Nat.reduceEqDiff, Nat.reduceAdd, Nat.reduceLT, Nat.reduceLeDiff, List.map_cons, List.map_nil, List.length_cons, List.length_nil, List.drop_succ_cons, List.drop_zero, List.take_succ_cons, List.take_nil, List.headD_cons, List.append_nil, List.getElem?_cons_zero, vw_i, vw_sl, vw_ag, beq_self_eq_true, Nat.zero_add, Nat.add_zero, Bool.or_false, Bool.false_eq_true, decide_true, true_and, and_true, and_self, implies_true, eBolt]
    rw [Int.add_assoc] at h3
    exact h3
  · have hgt : ¬ (b.stretch.low + ((b.stretch.high + 1 - b.stretch.low).toNat : Int) ≤ b.stretch.high) := by omega
    simp only [hgt, ru_reg, ru_seq, ru_cnd, ru_exit, ru_ret, ru_keep, thenQ, blockQ, run_nil, run_cons, Fam.step, stepQ, evO, opv, qv, binV, ldV, curG, upd_some, lkp_cons, lkp_nil, ↓reduceIte, Nat.reduceEqDiff, Nat.reduceAdd, Nat.reduceLeDiff, List.map_cons, List.map_nil, List.length_cons, List.length_nil, List.drop_succ_cons, List.drop_zero, List.headD_cons, List.getElem?_cons_zero, endQ, rvs, rv1, resV, vw_i, vw_tp, beq_self_eq_true, Nat.zero_add, Nat.add_zero, Bool.false_eq_true, decide_false, true_and, and_self, eBolt]
    simp [fewest, h, h2, hba, fewestOf, ints_len]
theorem P40 (d : Dome) (n : Int) (hb : d.bolts.length < 1000000) : PureCall Try.prog 40 [.ag (eDome d), .i n] (eNE (fewest d n)) := by
  refine pure_body okJ hmix Try.func40 cb40 cc40 cs40 cn40 ?_
  have g1 := gJ41 d
  have g2 := gJ56 d n
  unfold eDome at g1 g2
  simp only [rc40, rs40, g1, g2, eNE, ru_skip, ru_reg, ru_seq, ru_cnd, ite_P, ru_block, ru_ret, ru_keep, putB, thenQ, run_nil, run_cons, Fam.step, stepQ, stepW, needW, putB, nv, sv, evO, opv, qv, binV, ldV, iadV, lenV, curG, callV, putAt, V.cells, solid, hasRef, hasRefL, flat, upd_some, upd_none, lkp_cons, lkp_nil, ↓reduceIte, Nat.reduceEqDiff, Nat.reduceAdd, Nat.reduceLT, Nat.reduceLeDiff, List.map_cons, List.map_nil, List.length_cons, List.length_nil, List.drop_zero, List.take_succ_cons, List.take_zero, List.take_nil, List.headD_cons, List.cons_append, List.nil_append, List.append_nil, List.getElem?_cons_zero, List.getElem?_cons_succ, List.getElem?_nil, List.set_cons_zero, List.set_cons_succ, endQ, rvs, rv1, resV, vw_i, vw_sl, vw_ag, vw_tp, zipA, beq_self_eq_true, Nat.zero_add, Bool.or_false, Bool.false_eq_true, decide_eq_false_iff_not, true_and, and_true, and_self, implies_true, reduceCtorEq, Bool.not_eq_true', List.length_map, List.getD_eq_getElem?_getD, List.getElem?_map, Bool.not_eq_false, Classical.not_not, eDome]
  refine ⟨fun h => by simp [fewest, h], fun h => ?_⟩
  have hv := valid_of h
  refine ⟨by have := hv.nb; omega, fun h2 => by simp [fewest, h, h2], fun h2 => ?_⟩
  obtain ⟨k1, k2⟩ := within_nat h2
  obtain ⟨b, hbo⟩ : ∃ b, d.bolts[n.toNat]? = some b := ⟨_, List.getElem?_eq_getElem (by omega)⟩
  have hvb := hv.bolts b (List.mem_of_getElem? hbo)
  have hba : boltAt d n = b := by simp [boltAt, hbo]
  have hst := hvb.st
  have g3 := gJ60 b
  unfold eBolt at g3
  have g4 := gJ70 b
  unfold eBolt at g4
  simp only [k1, k2, hbo, g3, cellOk, hasRef, hasRefL, flat, Nat.reduceAdd, Nat.reduceLeDiff, List.map_cons, List.map_nil, List.all_cons, List.all_nil, List.length_cons, List.length_nil, List.drop_succ_cons, List.drop_zero, List.drop_nil, List.take_succ_cons, List.take_nil, List.headD_cons, List.append_nil, Option.getD_some, vw_i, vw_sl, Nat.zero_add, Bool.and_self, Bool.or_false, Bool.false_eq_true, true_and, and_self, Option.map_some, imp_self, List.length_map, eBolt]
  refine ru_rfnC (gf := 70) (caps := [.pa (eBolt b)]) (ok := tame 1000 b.stretch.low ∧ tame 1000 b.stretch.high) (ys := ysB b) (fun k => [.cells 0 (eBolt b), .cells 0 [.i (fewestTo b k)]]) (fun _ => True) ?_ ?_ (by decide) ?_ rfl ?_ ?_ trivial ?_ ?_
  · simp only [evO, lkp_cons, ↓reduceIte, Nat.reduceEqDiff, eBolt]
  · simp only [g4, Nat.reduceAdd, List.map_cons, List.map_nil, vw_pa, eBolt]
  · unfold tame; omega
  · intro x hx
    obtain ⟨k, hk⟩ := List.getElem?_of_mem hx
    rw [(ysB_get hk).1]; rfl
  · simp only [fewestTo, List.foldl_nil, List.foldl_nil, cutH, cutV, cutL, cutB, List.map_cons, List.map_nil, List.take_succ_cons, List.take_zero, List.take_nil, eBolt]
  · intro k x hx _
    obtain ⟨rfl, hk⟩ := ysB_get hx
    have h4 := hvb.ok66 (s := b.stretch.low + k) (by omega)
    simp only [gJ61, h4, fewestTo_succ hk, ru_reg, ru_any, ru_block, ↓cut_lkp, rnQ, rndQ, updL, putBs, optL, cutH, blockQ, run_nil, run_cons, Fam.step, stepQ, needW, runX, eff, nextD, fpR, fpQ, fpV, disjB, hits, nv, sv, evO, opv, qv, ldV, callV, putAt, V.cells, solid, cellOk, hasRef, hasRefL, flat, cutV, cutL, cutB, upd_some, upd_none, lkp_cons, ↓reduceIte, Nat.reduceEqDiff, Nat.reduceAdd, Nat.reduceLT, Nat.reduceLeDiff, List.map_cons, List.map_nil, List.all_cons, List.all_nil, List.length_cons, List.length_nil, List.drop_succ_cons, List.drop_zero, List.drop_nil, List.take_succ_cons, List.take_zero, List.take_nil, List.headD_cons, List.cons_append, List.nil_append, List.append_nil, List.getElem?_cons_zero, List.getElem?_cons_succ, List.getElem?_nil, Option.getD_none, List.set_cons_zero, List.set_cons_succ, List.replicate_zero, List.isEmpty_nil, List.isEmpty_cons, vw_i, vw_sl, vw_ag, Nat.zero_add, Bool.and_self, Bool.and_true, Bool.true_and, Bool.false_and, Bool.or_false, Bool.false_or, Bool.not_true, Bool.not_false, Bool.false_eq_true, true_and, and_self, implies_true, List.any_cons, List.any_nil, List.contains_cons, List.contains_nil, List.getD_eq_getElem?_getD, eBolt]
  · intro _
    simp only [ysB_len, ru_reg, ru_seq, ru_ret, ru_keep, ↓cut_lkp, thenQ, blockQ, run_nil, run_cons, Fam.step, stepQ, evO, opv, qv, ldV, cutV, cutL, upd_some, lkp_cons, lkp_nil, ↓reduceIte, Nat.reduceEqDiff, Nat.reduceLT, Nat.reduceLeDiff, List.map_cons, List.map_nil, List.length_cons, List.length_nil, List.drop_zero, List.headD_cons, List.getElem?_cons_zero, List.getElem?_cons_succ, endQ, rvs, rv1, resV, vw_i, vw_tp, Nat.zero_add, Bool.false_eq_true, true_and, and_self, eBolt]
    simp [fewest, h, h2, hba, fewestOf, ints_len]
end Go.C02
set_option linter.unusedSimpArgs false
set_option linter.unusedVariables false
namespace Go.C02
open Go.Fam Go.Proofs
theorem flat_snoc {α : Type} (e : α → List V) (l : List α) (x : α) : ((l ++ [x]).map e).flatten = (l.map e).flatten ++ e x := by simp
theorem filter_snoc {α : Type} (p : α → Bool) {l : List α} {k : Nat} {x : α} (h : l[k]? = some x) : (l.take (k + 1)).filter p = (l.take k).filter p ++ (if p x then [x] else []) := by
  rw [take_succ_of h, List.filter_append]
  congr 1
  by_cases hp : p x <;> simp [hp]
theorem chunk_I (l : List Int) : chunk 1 ((l.map eI).flatten) 0 l.length = l.map eI := chunk_flat (e := eI) (k := 1) (fun _ => rfl) l
theorem len_I (l : List Int) : ((l.map eI).flatten).length = l.length * 1 := flat_len (e := eI) (k := 1) (fun _ => rfl) l
theorem vw_I (hp : List Blk) (n : Nat) (l : List Int) : (l.map eI).map (fun r => r.map (vw hp (n + 1))) = l.map eI := map_vw_rows (e := eI) hp (n + 1) (fun _ => rfl) l
theorem noref_I (l : List Int) : hasRefL ((l.map eI).flatten) = false := hasRefL_flat (e := eI) (fun _ => rfl) l

def numbersOf (b : Bolt) : List Int := (ints b.stretch.low b.stretch.high).filter (can b)
def numbersTo (b : Bolt) (k : Nat) : List Int := ((ints b.stretch.low b.stretch.high).take k).filter (can b)
theorem numbersTo_succ {b : Bolt} {k : Nat} (h : k < (b.stretch.high + 1 - b.stretch.low).toNat) : numbersTo b (k + 1) = numbersTo b k ++ (if can b (b.stretch.low + k) then [b.stretch.low + k] else []) :=
  filter_snoc _ (ints_get h)
theorem numbersTo_all (b : Bolt) : numbersTo b (b.stretch.high + 1 - b.stretch.low).toNat = numbersOf b := by
  unfold numbersTo numbersOf
  rw [← ints_len, List.take_length]
theorem numbersTo_len (b : Bolt) (k : Nat) : (numbersTo b k).length ≤ k := by
  unfold numbersTo
  exact Nat.le_trans (List.length_filter_le _ _) (List.length_take_le _ _)
theorem P65 (b : Bolt) (hv : ValidB b) : PureCall Try.prog 65 [.ag (eBolt b)] (eIs (numbersOf b)) := by
  refine pure_body okJ hmix Try.func65 cb65 cc65 cs65 cn65 ?_
  have hst := hv.st
  simp only [rc65, rs65, ru_reg, ru_seq, ru_block, ru_keep, ru_own, thenQ, run_nil, run_cons, Fam.step, stepQ, evO, opv, qv, ldV, V.cells, solid, hasRef, hasRefL, upd_some, lkp_cons, lkp_nil, ↓reduceIte, Nat.reduceEqDiff, Nat.reduceAdd, Nat.reduceLeDiff, List.map_cons, List.map_nil, List.length_cons, List.length_nil, List.drop_zero, List.headD_cons, List.nil_append, vw_i, vw_sl, vw_ag, zipA, Nat.zero_add, Bool.or_false, Bool.false_eq_true, true_and, and_self, eBolt, eIs]
  refine ru_count (b.stretch.high + 1 - b.stretch.low).toNat (fun i => ⟨lkp [(1, .pa (eBolt b)), (3, .rf 0 (numbersTo b i).length 0 (numbersTo b i).length 1), (4, .i (b.stretch.low + i))], [.cells (numbersTo b i).length ((numbersTo b i).map eI).flatten]⟩) ?_ ?_ ?_
  · simp only [Int.natCast_zero, Int.add_zero, numbersTo, List.filter_nil, List.flatten_nil, kp, lkp_cons, lkp_nil, ↓reduceIte, Nat.reduceEqDiff, List.map_cons, List.map_nil, List.length_nil, List.take_zero, eBolt]
  · intro i hi
    have hlt : b.stretch.low + (i : Int) ≤ b.stretch.high := by omega
    have h3 : inI (b.stretch.low + (i : Int) + 1) := by unfold inI; omega
    have h4 := hv.ok66 (s := b.stretch.low + i) (by omega)
    have h5 := numbersTo_len b i
    simp only [hlt, h4, gJ49, numbersTo_succ hi, Int.natCast_add, Int.natCast_one, Int.add_assoc, boltE, spanE, ru_skip, ru_reg, ru_seq, ru_cnd, ite_P, ru_block, ru_keep, chunk1, putB, thenQ, blockQ, run_nil, run_cons, Fam.step, stepQ, stepW, needW, putB, nv, sv, newsV, evO, opv, qv, binV, ldV, callV, foldParts, putAt, partsOk, partsOne, V.cells, solid, cellOk, hasRef, hasRefL, flat, kp, upd_some, lkp_cons, lkp_nil, ↓reduceIte, Nat.reduceEqDiff, Nat.reduceAdd, Nat.reduceMul, Nat.reduceLT, Nat.reduceLeDiff, List.map_cons, List.map_nil, List.all_cons, List.all_nil, List.length_cons, List.length_nil, List.drop_succ_cons, List.drop_zero, List.take_succ_cons, List.take_zero, List.take_nil, List.headD_cons, List.cons_append, List.nil_append, List.append_nil, List.getElem?_cons_zero, List.set_cons_zero, List.replicate_zero, List.replicate_succ, vw_i, vw_sl, vw_ag, Nat.zero_add, Bool.and_self, Bool.or_false, Bool.false_eq_true, decide_true, true_and, and_self, implies_true, reduceCtorEq, not_false_eq_true, ne_eq, Bool.not_eq_true, spanE, boltE, eBolt]
    rw [Int.add_assoc] at h3
    refine ⟨fun h => ?_, fun h => ?_⟩
    · simp only [h, h3, len_I, Nat.mul_one, List.length_append, List.map_append, List.flatten_append, List.flatten_cons, List.flatten_nil, ↓reduceIte, List.map_cons, List.map_nil, List.length_cons, List.length_nil, List.append_nil, Nat.zero_add, true_and, and_true, and_self, eI]
      unfold fitsLen; omega
    · simp only [h, h3, ↓reduceIte, List.append_nil, Bool.false_eq_true, and_self]
  · have hgt : ¬ (b.stretch.low + ((b.stretch.high + 1 - b.stretch.low).toNat : Int) ≤ b.stretch.high) := by omega
    simp only [hgt, len_I, Nat.mul_one, Nat.le_refl, chunk_I, vw_I, numbersTo_all, ru_reg, ru_seq, ru_cnd, ru_exit, ru_ret, ru_keep, thenQ, blockQ, run_nil, run_cons, Fam.step, stepQ, evO, opv, qv, binV, ldV, upd_some, lkp_cons, lkp_nil, ↓reduceIte, Nat.reduceEqDiff, Nat.reduceAdd, Nat.reduceLeDiff, List.map_cons, List.map_nil, List.length_cons, List.length_nil, List.drop_succ_cons, List.drop_zero, List.headD_cons, List.getElem?_cons_zero, endQ, rvs, rv1, resV, vw_rf, Nat.zero_add, Bool.false_eq_true, decide_false, and_self, eBolt]

def cansOf (d : Dome) : List (List Int) := d.bolts.map numbersOf
theorem chunk_C (l : List (List Int)) : chunk 1 ((l.map eCan).flatten) 0 l.length = l.map eCan := chunk_flat (e := eCan) (k := 1) (fun _ => rfl) l
theorem len_C (l : List (List Int)) : ((l.map eCan).flatten).length = l.length * 1 := flat_len (e := eCan) (k := 1) (fun _ => rfl) l
theorem vw_C (hp : List Blk) (n : Nat) (l : List (List Int)) : (l.map eCan).map (fun r => r.map (vw hp (n + 1))) = l.map eCan := map_vw_rows (e := eCan) hp (n + 1) (fun _ => rfl) l
theorem noref_C (l : List (List Int)) : hasRefL ((l.map eCan).flatten) = false := hasRefL_flat (e := eCan) (fun _ => rfl) l
def pitchE (d : Dome) (is : Bool) : Int := if check d ≠ 0 then check d else if is then (if (cansOf d).any List.isEmpty then 3 else 0) else 1
def pitchV (d : Dome) (is : Bool) : V := .tp [if pitchE d is = 0 then .pa (eTent ⟨d, cansOf d⟩) else .pn, .i (pitchE d is)]
theorem filter_can (b : Bolt) {s : Int} (h1 : b.stretch.low ≤ s) (h2 : s ≤ b.stretch.high) : can b s = decide ((falses b.strips s : Int) ≤ b.wrong) := by
  simp [can, within, h1, h2]
theorem P45 (d : Dome) (is : Bool) : PureCall Try.prog 45 [.ag (eDome d), .b is] (pitchV d is) := by
  refine pure_body okJ hmix Try.func45 cb45 cc45 cs45 cn45 ?_
  have g1 := gJ41 d
  unfold eDome at g1
  simp only [rc45, rs45, g1, pitchV, ru_skip, ru_reg, ru_seq, ru_cnd, ite_P, ru_block, ru_ret, ru_keep, ru_ownc, thenQ, run_nil, run_cons, Fam.step, stepQ, stepW, needW, nv, evO, opv, qv, binV, ldV, lenV, callV, foldParts, putAt, partsOk, V.cells, solid, cellOk, hasRef, hasRefL, flat, upd_some, lkp_cons, lkp_nil, ↓reduceIte, Nat.reduceEqDiff, Nat.reduceAdd, Nat.reduceLT, Nat.reduceLeDiff, List.map_cons, List.map_nil, List.all_cons, List.all_nil, List.length_cons, List.length_nil, List.drop_succ_cons, List.drop_zero, List.take_succ_cons, List.take_zero, List.take_nil, List.headD_cons, List.cons_append, List.nil_append, List.append_nil, List.getElem?_cons_zero, List.getElem?_cons_succ, List.getElem?_nil, List.set_cons_zero, List.set_cons_succ, endQ, rvs, rv1, resV, vw_i, vw_pn, vw_sl, vw_ag, vw_tp, zipA, Nat.zero_add, Bool.and_self, Bool.or_false, Bool.false_eq_true, decide_eq_false_iff_not, true_and, and_self, implies_true, reduceCtorEq, Bool.not_eq_true', List.length_map, Bool.not_eq_false, Classical.not_not, eDome, eTent]
  refine ⟨fun h => ?_, fun h => ⟨fun h2 => ?_, fun h2 => ?_⟩⟩
  · have e : pitchE d is = check d := by simp [pitchE, h]
    rw [e, if_neg h]
  · have e : pitchE d is = 1 := by simp [pitchE, h, h2]
    rw [e]; rfl
  have hv := valid_of h
  have hnb := hv.nb
  refine ru_countC d.bolts.length (fun i => ⟨lkp [(7, .ad 0 0 0), (23, .sl 4 (d.bolts.map eBolt)), (24, .i d.bolts.length), (25, .i i), (31, .u)],
    [.cells 0 (eDome d ++ [.rf 1 i 0 i 1]), .cells i (((cansOf d).take i).map eCan).flatten]⟩) (fun i => ((cansOf d).take i).any List.isEmpty = false) ?_ ?_ ?_ ?_
  · simp only [Int.natCast_zero, List.flatten_nil, cutH, kp, cutV, cutL, cutB, lkp_cons, lkp_nil, ↓reduceIte, Nat.reduceEqDiff, Nat.reduceLT, List.map_cons, List.map_nil, List.take_succ_cons, List.take_zero, List.take_nil, List.cons_append, List.nil_append, eDome]
  · rfl
  · intro i hi hC
    obtain ⟨b, hb⟩ : ∃ b, d.bolts[i]? = some b := ⟨_, List.getElem?_eq_getElem hi⟩
    have hvb := hv.bolts b (List.mem_of_getElem? hb)
    have hst := hvb.st
    have hlt : (i : Int) < d.bolts.length := by omega
    have h3 : inI ((i : Int) + 1) := by unfold inI; omega
    have hcan : (cansOf d)[i]? = some (numbersOf b) := by simp [cansOf, hb]
    have hti := take_succ_of hcan
    have hlen : ((cansOf d).take i).length = i := by simp [cansOf]; omega
    have g3 := gJ60 b
    unfold eBolt at g3
    have g4 := gJ70 b
    unfold eBolt at g4
    simp only [hb, hlt, g3, ru_skip, ru_reg, ru_seq, ru_cnd, ru_block, ru_keep, ru_ownc, cutH, putB, thenQ, run_nil, run_cons, Fam.step, stepQ, stepW, needW, putB, nv, sv, evO, opv, qv, binV, ldV, iadV, callV, putAt, V.cells, solid, cellOk, hasRef, hasRefL, flat, kp, upd_some, upd_none, lkp_cons, lkp_nil, ↓reduceIte, Nat.reduceEqDiff, Nat.reduceAdd, Nat.reduceLT, Nat.reduceLeDiff, List.map_cons, List.map_nil, List.all_cons, List.all_nil, List.length_cons, List.length_nil, List.drop_succ_cons, List.drop_zero, List.drop_nil, List.take_succ_cons, List.take_zero, List.take_nil, List.cons_append, List.nil_append, List.append_nil, List.getElem?_cons_zero, List.getElem?_cons_succ, Option.getD_some, List.set_cons_zero, List.set_cons_succ, vw_i, vw_sl, vw_ag, Int.natCast_nonneg, Nat.zero_add, Nat.add_zero, Bool.and_self, Bool.or_false, Bool.false_eq_true, decide_true, true_and, and_self, Option.map_some, imp_self, List.length_map, Int.toNat_natCast, List.getD_eq_getElem?_getD, List.getElem?_map, eBolt, eDome]
    refine ru_rfnC (gf := 70) (caps := [.pa (eBolt b)]) (ok := tame 1000 b.stretch.low ∧ tame 1000 b.stretch.high) (ys := ysB b)
      (fun k => [.cells 0 (eDome d ++ [.rf 1 i 0 i 1]), .cells i (((cansOf d).take i).map eCan).flatten, .cells 0 (eBolt b), .cells 0 [.rf 4 (numbersTo b k).length 0 (numbersTo b k).length 1], .cells (numbersTo b k).length ((numbersTo b k).map eI).flatten]) (fun _ => True) ?_ ?_ (by decide) ?_ rfl ?_ ?_ trivial ?_ ?_
    · simp only [evO, lkp_cons, ↓reduceIte, Nat.reduceEqDiff, eBolt]
    · simp only [g4, Nat.reduceAdd, List.map_cons, List.map_nil, vw_pa, eBolt]
    · unfold tame; omega
    · intro x hx
      obtain ⟨k, hk⟩ := List.getElem?_of_mem hx
      rw [(ysB_get hk).1]; rfl
    · simp only [numbersTo, List.filter_nil, List.flatten_nil, cutL_noref _ _ _ (noref_C ((cansOf d).take i)), cutH, cutV, cutL, cutB, ↓reduceIte, Nat.reduceLT, List.map_cons, List.map_nil, List.length_nil, List.take_succ_cons, List.take_zero, List.take_nil, List.cons_append, List.nil_append, eBolt, eDome]
    · intro k x hx _
      obtain ⟨rfl, hk⟩ := ysB_get hx
      have h4 := hvb.ok66 (s := b.stretch.low + k) (by omega)
      have h5 := numbersTo_len b k
      simp only [gJ61, h4, numbersTo_succ hk, filter_can b (s := b.stretch.low + k) (by omega) (by omega), ru_skip, ru_reg, ru_any, ru_seq, ru_cnd, ite_P, ru_block, ru_keep, chunk1, ↓cut_lkp, rnQ, rndQ, updL, putBs, cutH, putB, thenQ, blockQ, run_nil, run_cons, Fam.step, stepQ, stepW, needW, runX, eff, nextD, fpR, fpQ, fpV, disjB, hits, putB, nv, sv, newsV, evO, opv, qv, binV, ldV, curG, callV, foldParts, putAt, partsOk, partsOne, V.cells, solid, cellOk, hasRef, hasRefL, flat, cutV, cutL, cutB, upd_some, upd_none, lkp_cons, lkp_nil, ↓reduceIte, Nat.reduceEqDiff, Nat.reduceAdd, Nat.reduceMul, Nat.reduceLT, Nat.reduceLeDiff, List.map_cons, List.map_nil, List.all_cons, List.all_nil, List.length_cons, List.length_nil, List.drop_succ_cons, List.drop_zero, List.drop_nil, List.take_succ_cons, List.take_zero, List.take_nil, List.headD_cons, List.cons_append, List.nil_append, List.append_nil, List.getElem?_cons_zero, List.getElem?_cons_succ, List.getElem?_nil, Option.getD_none, List.set_cons_zero, List.set_cons_succ, List.replicate_zero, List.replicate_succ, List.isEmpty_nil, vw_i, vw_sl, vw_ag, beq_self_eq_true, Nat.zero_add, Bool.and_self, Bool.and_true, Bool.false_and, Bool.or_false, Bool.not_true, Bool.not_false, Bool.false_eq_true, decide_eq_true_eq, true_and, and_self, implies_true, reduceCtorEq, not_false_eq_true, ne_eq, List.any_nil, List.contains_cons, List.contains_nil, List.getD_eq_getElem?_getD, eBolt, eDome]
      refine ⟨fun h => ?_, fun h => ?_⟩
      · simp only [h, len_I, Nat.mul_one, List.length_append, List.map_append, List.flatten_append, List.flatten_cons, List.flatten_nil, cutL_noref _ _ _ (noref_C ((cansOf d).take i)), cutL_append, cutL_noref _ _ _ (noref_I (numbersTo b k)), cutV, cutL, ↓reduceIte, List.map_cons, List.map_nil, List.length_cons, List.length_nil, List.append_nil, Nat.zero_add, true_and, and_true, eI]
        unfold fitsLen; omega
      · simp only [h, cutL_noref _ _ _ (noref_C ((cansOf d).take i)), cutL_noref _ _ _ (noref_I (numbersTo b k)), ↓reduceIte, List.append_nil]
    · intro _
      have hdrop : ∀ hp : List Blk, True := fun _ => trivial
      simp only [ysB_len, numbersTo_all, cutL_noref _ _ _ (noref_C ((cansOf d).take i)), hpF, upB, upL, upV, upL_noref _ _ (noref_I (numbersOf b)), len_I, Nat.mul_one, Nat.le_refl, chunk_I, vw_I, vw8, ru_skip, ru_reg, ru_any, ru_seq, ru_cnd, ite_P, ru_ret, ru_keep, ru_drp, chunk1, ↓cut_lkp, putBs, optL, cutH, thenQ, blockQ, run_nil, run_cons, Fam.step, stepQ, needW, runX, eff, nextD, fpR, fpQ, fpV, disjB, hits, nv, sv, newsV, evO, opv, qv, binV, ldV, lenV, curG, foldParts, putAt, partsOk, partsOne, V.cells, solid, cellOk, hasRef, hasRefL, cutV, cutL, cutB, upd_some, upd_none, lkp_cons, lkp_nil, ↓reduceIte, Nat.reduceEqDiff, Nat.reduceAdd, Nat.reduceLT, List.map_cons, List.map_nil, List.all_cons, List.all_nil, List.length_cons, List.length_nil, List.drop_succ_cons, List.drop_zero, List.drop_nil, List.take_succ_cons, List.take_zero, List.take_nil, List.headD_cons, List.cons_append, List.nil_append, List.append_nil, List.getElem?_cons_zero, List.getElem?_cons_succ, List.getElem?_nil, Option.getD_some, Option.getD_none, List.set_cons_zero, List.set_cons_succ, List.replicate_zero, List.replicate_succ, List.isEmpty_nil, List.isEmpty_cons, endQ, rvs, rv1, resV, vw_i, vw_pn, vw_sl, vw_tp, vw_ad, vw_rf, beq_self_eq_true, Nat.zero_add, Bool.and_self, Bool.and_true, Bool.true_and, Bool.false_and, Bool.or_false, Bool.false_or, Bool.not_true, Bool.not_false, Bool.false_eq_true, decide_eq_true_eq, true_and, and_self, reduceCtorEq, not_false_eq_true, ne_eq, List.any_cons, List.any_nil, List.contains_cons, List.contains_nil, List.getD_eq_getElem?_getD, eBolt, eDome]
      refine ⟨fun h => ?_, fun h => ?_⟩
      · have e : pitchE d is = 3 := by
          have : (cansOf d).any List.isEmpty = true := List.any_eq_true.2 ⟨_, List.mem_of_getElem? hcan, by simpa using h⟩
          simp [pitchE, h2, this, ‹check d = 0›]
        rw [e]; rfl
      · refine ⟨⟨by rw [len_C, hlen, Nat.mul_one], by unfold fitsLen; omega⟩, h3, ?_, ?_⟩
        · rw [hti, List.any_append, hC]
          simpa using h
        · simp only [cutL_append, cutL_noref _ _ _ (noref_C ((cansOf d).take i)), hti, flat_snoc, Int.natCast_add, Int.natCast_one, List.flatten_cons, List.flatten_nil, cutV, cutL, List.append_nil, eCan]
  · intro hC
    have e : pitchE d is = 0 := by
      have hl : (cansOf d).take d.bolts.length = cansOf d := by rw [show d.bolts.length = (cansOf d).length from by simp [cansOf], List.take_length]
      rw [hl] at hC
      simp [pitchE, h2, hC, ‹check d = 0›]
    have hl : (cansOf d).take d.bolts.length = cansOf d := by rw [show d.bolts.length = (cansOf d).length from by simp [cansOf], List.take_length]
    have hl2 : d.bolts.length = (cansOf d).length := by simp [cansOf]
    simp only [e, len_C, Nat.mul_one, hl2, List.take_length, Nat.le_refl, chunk_C, vw_C, ru_reg, ru_seq, ru_cnd, ru_exit, ru_ret, ru_keep, thenQ, blockQ, run_nil, run_cons, Fam.step, stepQ, evO, opv, qv, binV, ldV, upd_some, lkp_cons, lkp_nil, ↓reduceIte, Nat.reduceEqDiff, List.map_cons, List.map_nil, List.drop_zero, List.cons_append, List.nil_append, List.getElem?_cons_zero, List.getElem?_cons_succ, endQ, rvs, rv1, resV, vw_i, vw_sl, vw_tp, vw_ad, vw_rf, Int.lt_irrefl, Nat.zero_add, Bool.false_eq_true, decide_false, and_self, eDome]
end Go.C02
