import Derived.Test.YtgcinomjcgebhaaC02D
set_option linter.all false
set_option linter.unusedSimpArgs false
set_option linter.unusedVariables false
namespace Go.C02
open Go.Fam Go.Proofs
def dD : List V → Dome | [.ag cs] => dDome cs | _ => ⟨[], [], 0, [], [], 0⟩
def r39 : List V → Prop × V := fnG (fun d => [.ag (eDome d)]) dD (fun _ => True) check .i
theorem P20 (s : Span) (n : Int) : PureCall Try.prog 20 [.ag (eSpan s), .i n] (.b (within n s.low s.high)) := by
  refine pure_body okC hmix Try.func20 cb20 cc20 cs20 cn20 ?_
  simp only [rc20, rs20, ru_reg, ru_seq, ru_ret, ru_keep, thenQ, run_nil, run_cons, Fam.step, stepQ, needQ, condB, ug, evO, opv, qv, pickV, binV, ldV, V.cells, solid, hasRef, hasRefL, upd_some, lkp_cons, lkp_nil, ↓reduceIte, Nat.reduceEqDiff, Nat.reduceAdd, Nat.reduceLeDiff, List.map_cons, List.map_nil, List.all_cons, List.all_nil, List.length_cons, List.length_nil, List.drop_succ_cons, List.drop_zero, List.headD_cons, endQ, rvs, rv1, resV, vw_i, vw_b, vw_ag, zipA, Nat.zero_add, V.b.injEq, Bool.and_self, Bool.and_true, Bool.or_false, Bool.false_eq_true, decide_eq_true_eq, decide_eq_false_iff_not, true_and, and_true, and_self, implies_true, reduceCtorEq, beq_true, ite_f, imp_self, eSpan]
  rfl
theorem P46 (d : Dome) (n : Int) (h : d.rounds.length < 1000) : PureCall Try.prog 46 [.ag (eDome d), .i n] (.b (within n 0 (d.rounds.length - 1))) := by
  refine pure_body okC hmix Try.func46 cb46 cc46 cs46 cn46 ?_
  simp only [rc46, rs46, gC67, ru_reg, ru_seq, ru_ret, ru_keep, thenQ, run_nil, run_cons, Fam.step, stepQ, evO, opv, qv, pickV, binV, ldV, lenV, callV, V.cells, solid, hasRef, hasRefL, flat, upd_some, lkp_cons, lkp_nil, ↓reduceIte, Nat.reduceEqDiff, Nat.reduceAdd, Nat.reduceLT, Nat.reduceLeDiff, List.map_cons, List.map_nil, List.length_cons, List.length_nil, List.drop_succ_cons, List.drop_zero, List.headD_cons, List.append_nil, endQ, rvs, rv1, resV, vw_i, vw_b, vw_sl, vw_ag, zipA, Nat.zero_add, Bool.or_false, Bool.false_eq_true, true_and, and_true, and_self, implies_true, reduceCtorEq, List.length_map, eDome]
  unfold inI; omega
theorem P56 (d : Dome) (n : Int) (h : d.bolts.length < 1000) : PureCall Try.prog 56 [.ag (eDome d), .i n] (.b (within n 0 (d.bolts.length - 1))) := by
  refine pure_body okC hmix Try.func56 cb56 cc56 cs56 cn56 ?_
  simp only [rc56, rs56, gC67, ru_reg, ru_seq, ru_ret, ru_keep, thenQ, run_nil, run_cons, Fam.step, stepQ, evO, opv, qv, pickV, binV, ldV, lenV, callV, V.cells, solid, hasRef, hasRefL, flat, upd_some, lkp_cons, lkp_nil, ↓reduceIte, Nat.reduceEqDiff, Nat.reduceAdd, Nat.reduceLT, Nat.reduceLeDiff, List.map_cons, List.map_nil, List.length_cons, List.length_nil, List.drop_zero, List.headD_cons, List.append_nil, endQ, rvs, rv1, resV, vw_i, vw_b, vw_sl, vw_ag, zipA, Nat.zero_add, Bool.or_false, Bool.false_eq_true, true_and, and_true, and_self, implies_true, reduceCtorEq, List.length_map, eDome]
  unfold inI; omega
theorem take_eq_of {α : Type} {a b : List α} {i : Nat} {x y : α} (hx : a[i]? = some x) (hy : b[i]? = some y) (h : a.take i = b.take i) (e : x = y) : a.take (i + 1) = b.take (i + 1) := by
  rw [List.take_add_one, List.take_add_one, hx, hy, h, e]
theorem P28 (a b : List Int) (h : a.length < 10000000) : PureCall Try.prog 28 [.sl 1 (a.map eI), .sl 1 (b.map eI)] (.b (decide (a = b))) := by
  refine pure_body okC hmix Try.func28 cb28 cc28 cs28 cn28 ?_
  simp only [rc28, rs28, ru_skip, ru_reg, ru_seq, ru_cond, ru_block, ru_ret, ru_keep, thenQ, run_nil, run_cons, Fam.step, stepQ, evO, opv, qv, pickV, binV, lenV, upd_some, lkp_cons, lkp_nil, ↓reduceIte, Nat.reduceEqDiff, List.map_cons, List.map_nil, endQ, rvs, rv1, resV, vw_b, zipA, Nat.zero_add, V.b.injEq, decide_eq_true_eq, decide_eq_false_iff_not, true_and, and_self, reduceCtorEq, Bool.not_eq_false', Bool.not_eq_true', List.length_map]
  refine ⟨fun hn => ?_, fun hn => ?_⟩
  · have : a ≠ b := fun e => hn (by rw [e])
    simp [this]
  have hn : a.length = b.length := by omega
  refine ru_countC a.length (fun i => ⟨lkp [(0, .sl 1 (a.map eI)), (1, .sl 1 (b.map eI)), (5, .i i)], []⟩) (fun i => a.take i = b.take i) ?_ ?_ ?_ ?_
  · simp only [Int.natCast_zero, kp, lkp_cons, lkp_nil, ↓reduceIte, Nat.reduceEqDiff, List.map_cons, List.map_nil, reduceCtorEq]
  · simp
  · intro i hi hc
    obtain ⟨x, hx⟩ : ∃ x, a[i]? = some x := ⟨_, List.getElem?_eq_getElem hi⟩
    obtain ⟨y, hy⟩ : ∃ y, b[i]? = some y := ⟨_, List.getElem?_eq_getElem (by omega)⟩
    have hlt : (i : Int) < a.length := by omega
    have hlt' : (i : Int) < b.length := by omega
    have h3 : inI ((i : Int) + 1) := by unfold inI; omega
    simp only [hx, hy, hlt, hlt', Int.natCast_add, Int.natCast_one, h3, ru_skip, ru_reg, ru_any, ru_seq, ru_cond, ru_block, ru_exit, ru_ret, ru_keep, putB, thenQ, blockQ, run_nil, run_cons, Fam.step, stepQ, runX, eff, nextD, fpR, fpQ, fpV, disjB, hits, putB, evO, opv, qv, pickV, binV, ldV, iadV, lenV, kp, upd_some, lkp_cons, lkp_nil, ↓reduceIte, Nat.reduceEqDiff, Nat.reduceLeDiff, List.map_cons, List.map_nil, List.all_nil, List.length_cons, List.length_nil, List.headD_cons, List.cons_append, List.nil_append, List.append_nil, List.getElem?_nil, Option.getD_some, Option.getD_none, List.replicate_zero, List.isEmpty_nil, endQ, rvs, rv1, resV, vw_b, Int.natCast_nonneg, Nat.zero_add, V.b.injEq, Bool.and_self, Bool.and_true, Bool.false_and, Bool.or_false, Bool.not_true, Bool.not_false, Bool.false_eq_true, Bool.true_eq_false, decide_true, decide_eq_true_eq, decide_eq_false_iff_not, true_and, and_true, and_self, forall_const, false_implies, reduceCtorEq, Option.map_some, List.any_nil, List.contains_nil, Bool.not_eq_false', Bool.not_eq_true', List.length_map, Int.toNat_natCast, List.getD_eq_getElem?_getD, List.getElem?_map, eI]
    refine ⟨fun h => ?_, fun h => ?_⟩
    · have : a ≠ b := fun e => h (by rw [e, hy] at hx; exact (Option.some.inj hx).symm)
      simp [this]
    · exact take_eq_of hx hy hc h
  · intro hc
    have : a = b := by rwa [List.take_length, hn, List.take_length] at hc
    subst this
    simp only [ru_skip, ru_reg, ru_any, ru_seq, ru_cond, ru_block, ru_exit, ru_ret, ru_keep, putB, thenQ, blockQ, run_nil, run_cons, Fam.step, stepQ, runX, eff, nextD, fpR, fpQ, fpV, disjB, hits, putB, evO, opv, qv, pickV, binV, ldV, iadV, lenV, upd_some, lkp_cons, lkp_nil, ↓reduceIte, Nat.reduceEqDiff, List.map_cons, List.map_nil, List.all_nil, List.cons_append, List.nil_append, List.append_nil, List.getElem?_nil, Option.getD_none, List.replicate_zero, List.isEmpty_nil, endQ, rvs, rv1, resV, vw_b, Int.lt_irrefl, Int.natCast_nonneg, V.b.injEq, Bool.and_self, Bool.and_true, Bool.false_and, Bool.or_false, Bool.not_true, Bool.not_false, Bool.false_eq_true, decide_true, decide_false, true_and, and_self, false_and, and_false, forall_const, reduceCtorEq, List.any_nil, List.contains_nil, imp_self, List.length_map, Int.toNat_natCast, List.getD_eq_getElem?_getD, List.getElem?_map]
theorem P37 (l : List Int) (n : Int) (h : l.length < 10000000) : PureCall Try.prog 37 [.sl 1 (l.map eI), .i n] (.b (decide (n ∈ l))) := by
  refine pure_body okC hmix Try.func37 cb37 cc37 cs37 cn37 ?_
  simp only [rc37, rs37, ru_reg, ru_seq, ru_block, ru_keep, thenQ, run_nil, run_cons, Fam.step, stepQ, evO, opv, qv, pickV, upd_some, lkp_cons, lkp_nil, ↓reduceIte, Nat.reduceEqDiff, List.map_cons, List.map_nil, zipA, Nat.zero_add, true_and, reduceCtorEq]
  refine ru_countC l.length (fun i => ⟨lkp [(0, .sl 1 (l.map eI)), (1, .i n), (5, .i i)], []⟩) (fun i => n ∉ l.take i) ?_ ?_ ?_ ?_
  · simp only [Int.natCast_zero, kp, lkp_cons, lkp_nil, ↓reduceIte, Nat.reduceEqDiff, List.map_cons, List.map_nil, reduceCtorEq]
  · simp
  · intro i hi hc
    obtain ⟨x, hx⟩ : ∃ x, l[i]? = some x := ⟨_, List.getElem?_eq_getElem hi⟩
    have hlt : (i : Int) < l.length := by omega
    have h3 : inI ((i : Int) + 1) := by unfold inI; omega
    simp only [hx, hlt, Int.natCast_add, Int.natCast_one, take_succ_of hx, hc, h3, List.mem_append, List.mem_singleton, ru_skip, ru_reg, ru_seq, ru_cond, ru_block, ru_exit, ru_ret, ru_keep, thenQ, blockQ, run_nil, run_cons, Fam.step, stepQ, evO, opv, qv, pickV, binV, ldV, iadV, lenV, kp, upd_some, lkp_cons, lkp_nil, ↓reduceIte, Nat.reduceEqDiff, Nat.reduceLeDiff, List.map_cons, List.map_nil, List.length_cons, List.length_nil, List.headD_cons, Option.getD_some, endQ, rvs, rv1, resV, vw_b, Int.natCast_nonneg, Nat.zero_add, V.b.injEq, Bool.false_eq_true, Bool.true_eq_false, decide_true, decide_eq_true_eq, decide_eq_false_iff_not, true_and, and_true, and_self, forall_const, false_implies, reduceCtorEq, Option.map_some, List.length_map, Int.toNat_natCast, List.getD_eq_getElem?_getD, List.getElem?_map, eI]
    refine ⟨fun e => ?_, fun e => ?_⟩
    · subst e
      simp [List.mem_of_getElem? hx]
    · rintro (h | h)
      · exact h
      · exact e h.symm
  · intro hc
    rw [List.take_length] at hc
    simp only [ru_skip, ru_reg, ru_seq, ru_cond, ru_block, ru_exit, ru_ret, ru_keep, thenQ, blockQ, run_nil, run_cons, Fam.step, stepQ, evO, opv, qv, pickV, binV, ldV, iadV, lenV, upd_some, lkp_cons, lkp_nil, ↓reduceIte, Nat.reduceEqDiff, List.map_cons, List.map_nil, endQ, rvs, rv1, resV, vw_b, Int.lt_irrefl, Int.natCast_nonneg, V.b.injEq, Bool.false_eq_true, decide_false, true_and, and_self, false_and, and_false, forall_const, reduceCtorEq, imp_self, List.length_map, Int.toNat_natCast, List.getD_eq_getElem?_getD, List.getElem?_map]
    simp [hc]

theorem pull_tame {l s : Int} (hl : tame 1000000 l) (hs : tame 1000000 s) : tame 1001000000000 (pull l s) := by
  have h1 : tame 1001000 (1000 + s) := by unfold tame at *; omega
  have h2 := mul_tame hl h1 (by decide) (by decide)
  unfold pull
  unfold tame at *
  generalize l * (1000 + s) = x at *
  constructor
  · by_cases h : 0 ≤ x
    · rw [Int.tdiv_eq_ediv_of_nonneg h]; omega
    · have e : x = -(-x) := by omega
      rw [e, Int.neg_tdiv, Int.tdiv_eq_ediv_of_nonneg (by omega)]; omega
  · by_cases h : 0 ≤ x
    · rw [Int.tdiv_eq_ediv_of_nonneg h]; omega
    · have e : x = -(-x) := by omega
      rw [e, Int.neg_tdiv, Int.tdiv_eq_ediv_of_nonneg (by omega)]; omega
theorem sum_tame {M : Int} (hM : 0 ≤ M) : ∀ (l : List Int), (∀ x ∈ l, tame M x) → tame (M * l.length) l.sum
  | [], _ => by simp [tame]
  | x :: l, h => by
    have h1 := h x (by simp)
    have h2 := sum_tame hM l fun y hy => h y (by simp [hy])
    have h3 : M * ((x :: l).length : Int) = M * l.length + M := by rw [List.length_cons, Int.natCast_add, Int.mul_add]; simp
    rw [h3, List.sum_cons]
    unfold tame at *
    omega

def sumBy (l : List Int) (f : Int → Int) : Int := (l.map f).sum
theorem sumBy_succ {l : List Int} {f : Int → Int} {i : Nat} {x : Int} (h : l[i]? = some x) : sumBy (l.take (i + 1)) f = sumBy (l.take i) f + f x := by
  simp [sumBy, take_succ_of h]
theorem sumBy_in {l : List Int} {f : Int → Int} (i : Nat) (hl : l.length ≤ 100000) (hf : ∀ x ∈ l, tame 1001000000000 (f x)) : tame 100100000000000000 (sumBy (l.take i) f) := by
  have := sum_tame (M := 1001000000000) (by decide) ((l.take i).map f) (fun y hy => by
    obtain ⟨x, hx, rfl⟩ := List.mem_map.1 hy
    exact hf x (List.mem_of_mem_take hx))
  have h2 : ((l.take i).map f).length ≤ l.length := by simp; omega
  unfold sumBy
  unfold tame at *
  omega
def roundBy (d : Dome) (w : Int) (t : List Int) : Int := sumBy d.gores fun g => pull (w - 2 * d.loss) (t[g.toNat]?.getD 0)
theorem P38 (d : Dome) (w : Int) (t : List Int) (h1 : tame 100000 w) (h2 : tame 100000 d.loss) (h3 : ∀ g ∈ d.gores, 0 ≤ g ∧ g < t.length) (h4 : ∀ s ∈ t, tame 100000 s) (h5 : d.gores.length < 100000) :
    PureCall Try.prog 38 [.ag (eDome d), .i w, .sl 1 (t.map eI)] (.i (roundBy d w t)) := by
  refine pure_body okC hmix Try.func38 cb38 cc38 cs38 cn38 ?_
  simp only [rc38, rs38, ru_reg, ru_seq, ru_block, ru_keep, thenQ, run_nil, run_cons, Fam.step, stepQ, evO, opv, qv, pickV, V.cells, solid, hasRef, hasRefL, upd_some, lkp_cons, lkp_nil, ↓reduceIte, Nat.reduceEqDiff, Nat.reduceAdd, List.map_cons, List.map_nil, vw_i, vw_sl, vw_ag, zipA, Nat.zero_add, Bool.or_false, true_and, and_self, reduceCtorEq, eDome]
  have i1 : inI (2 * d.loss) := by unfold inI tame at *; omega
  have i2 : inI (w - 2 * d.loss) := by unfold inI tame at *; omega
  have i3 : tame 1000000 (w - 2 * d.loss) := by unfold tame at *; omega
  have hf : ∀ g ∈ d.gores, tame 1001000000000 (pull (w - 2 * d.loss) (t[g.toNat]?.getD 0)) := by
    intro g hg
    refine pull_tame i3 ?_
    obtain ⟨h6, h7⟩ := h3 g hg
    obtain ⟨y, hy⟩ : ∃ y, t[g.toNat]? = some y := ⟨_, List.getElem?_eq_getElem (by omega)⟩
    have := h4 y (List.mem_of_getElem? hy)
    rw [hy]; unfold tame at *; simp; omega
  refine ru_count d.gores.length (fun i => ⟨lkp [(1, .i w), (2, .sl 1 (t.map eI)), (3, .pa (eDome d)), (7, .i (sumBy (d.gores.take i) fun g => pull (w - 2 * d.loss) (t[g.toNat]?.getD 0))), (8, .i i)], []⟩) ?_ ?_ ?_
  · simp only [Int.natCast_zero, kp, lkp_cons, lkp_nil, ↓reduceIte, Nat.reduceEqDiff, List.map_cons, List.map_nil, List.take_zero, eDome]
    rfl
  · intro i hi
    obtain ⟨x, hx⟩ : ∃ x, d.gores[i]? = some x := ⟨_, List.getElem?_eq_getElem hi⟩
    obtain ⟨h6, h7⟩ := h3 x (List.mem_of_getElem? hx)
    obtain ⟨y, hy⟩ : ∃ y, t[x.toNat]? = some y := ⟨_, List.getElem?_eq_getElem (by omega)⟩
    have hlt : (i : Int) < d.gores.length := by omega
    have i4 : inI ((i : Int) + 1) := by unfold inI; omega
    have i5 : tame 1000000 y := by have := h4 y (List.mem_of_getElem? hy); unfold tame at *; omega
    have i6 := sumBy_in i (by omega) hf
    have i7 := hf x (List.mem_of_getElem? hx)
    have i8 : inI (sumBy (d.gores.take i) (fun g => pull (w - 2 * d.loss) (t[g.toNat]?.getD 0)) + pull (w - 2 * d.loss) y) := by
      rw [hy] at i7
      simp only [Option.getD_some] at i7
      unfold inI tame at *; omega
    simp only [gC57, hx, hlt, Int.natCast_add, Int.natCast_one, sumBy_succ hx, hy, h6, h7, i1, i2, i3, i4, i5, i8, ru_skip, ru_reg, ru_any, ru_seq, ru_cond, ru_block, ru_exit, ru_ret, ru_keep, putB, thenQ, blockQ, run_nil, run_cons, Fam.step, stepQ, runX, eff, nextD, fpR, fpQ, fpV, disjB, hits, putB, evO, opv, qv, pickV, binV, ldV, iadV, lenV, callV, hasRef, hasRefL, flat, kp, upd_some, lkp_cons, lkp_nil, ↓reduceIte, Nat.reduceEqDiff, Nat.reduceAdd, Nat.reduceLT, Nat.reduceLeDiff, List.map_cons, List.map_nil, List.all_nil, List.length_cons, List.length_nil, List.drop_succ_cons, List.drop_zero, List.headD_cons, List.cons_append, List.nil_append, List.append_nil, List.getElem?_nil, Option.getD_some, Option.getD_none, List.replicate_zero, List.isEmpty_nil, endQ, rvs, rv1, resV, vw_i, Int.natCast_nonneg, Nat.zero_add, V.i.injEq, Bool.and_self, Bool.and_true, Bool.false_and, Bool.or_false, Bool.not_true, Bool.not_false, Bool.false_eq_true, Bool.true_eq_false, decide_true, true_and, and_self, forall_const, false_implies, implies_true, Option.map_some, List.any_nil, List.contains_nil, List.length_map, Int.toNat_natCast, List.getD_eq_getElem?_getD, List.getElem?_map, eDome, eI]
  · simp only [List.take_length, roundBy, ru_skip, ru_reg, ru_any, ru_seq, ru_cond, ru_block, ru_exit, ru_ret, ru_keep, putB, thenQ, blockQ, run_nil, run_cons, Fam.step, stepQ, runX, eff, nextD, fpR, fpQ, fpV, disjB, hits, putB, evO, opv, qv, pickV, binV, ldV, iadV, lenV, callV, hasRef, hasRefL, upd_some, lkp_cons, lkp_nil, ↓reduceIte, Nat.reduceEqDiff, Nat.reduceAdd, Nat.reduceLT, Nat.reduceLeDiff, List.map_cons, List.map_nil, List.all_nil, List.length_cons, List.length_nil, List.drop_succ_cons, List.drop_zero, List.headD_cons, List.cons_append, List.nil_append, List.append_nil, List.getElem?_nil, Option.getD_none, List.replicate_zero, List.isEmpty_nil, endQ, rvs, rv1, resV, vw_i, Int.lt_irrefl, Int.natCast_nonneg, Nat.zero_add, Bool.and_self, Bool.and_true, Bool.false_and, Bool.or_false, Bool.false_or, Bool.not_true, Bool.not_false, Bool.false_eq_true, decide_false, true_and, and_self, and_false, forall_const, List.any_nil, List.contains_nil, imp_self, List.length_map, Int.toNat_natCast, List.getD_eq_getElem?_getD, List.getElem?_map, eDome]

theorem P61 (b : Bolt) (s : Int) (h : ok66 b.strips s) : PureCall Try.prog 61 [.ag (eBolt b), .i s] (.i (falses b.strips s)) := by
  refine pure_body okC hmix Try.func61 cb61 cc61 cs61 cn61 ?_
  obtain ⟨hs, hb, hl⟩ := h
  simp only [rc61, rs61, ru_reg, ru_seq, ru_block, ru_keep, thenQ, run_nil, run_cons, Fam.step, stepQ, evO, opv, qv, pickV, ldV, lenV, V.cells, solid, hasRef, hasRefL, upd_some, lkp_cons, lkp_nil, ↓reduceIte, Nat.reduceEqDiff, Nat.reduceAdd, Nat.reduceLeDiff, List.map_cons, List.map_nil, List.length_cons, List.length_nil, List.drop_succ_cons, List.drop_zero, List.headD_cons, vw_i, vw_sl, vw_ag, zipA, Nat.zero_add, Bool.or_false, Bool.false_eq_true, true_and, and_self, reduceCtorEq, List.length_map, eBolt]
  refine ru_count b.strips.length (fun i => ⟨lkp [(1, .i s), (4, .i (falses (b.strips.take i) s)), (8, .sl 3 (b.strips.map eStrip)), (9, .i b.strips.length), (10, .i i)], []⟩) ?_ ?_ ?_
  · simp only [falses, List.countP_nil, Int.natCast_zero, cutH, kp, cutV, lkp_cons, lkp_nil, ↓reduceIte, Nat.reduceEqDiff, List.map_cons, List.map_nil, List.take_zero, List.take_nil]
  · intro i hi
    obtain ⟨x, hx⟩ : ∃ x, b.strips[i]? = some x := ⟨_, List.getElem?_eq_getElem hi⟩
    have hlt : (i : Int) < b.strips.length := by omega
    have hm := List.mem_of_getElem? hx
    have hc : falses (b.strips.take i) s ≤ i := Nat.le_trans List.countP_le_length (by simp; omega)
    simp only [gC67, gC69, hx, hlt, take_succ_of hx, falses, List.countP_append, List.countP_singleton, Int.natCast_add, Int.natCast_one, ru_skip, ru_reg, ru_any, ru_seq, ru_cond, ru_block, ru_exit, ru_ret, ru_keep, ru_drp, ↓cut_lkp, cutH, putB, thenQ, blockQ, run_nil, run_cons, Fam.step, stepQ, stepW, needW, runX, eff, nextD, fpR, fpQ, fpV, disjB, hits, putB, nv, sv, evO, opv, qv, pickV, binV, ldV, iadV, curG, callV, putAt, V.cells, solid, cellOk, hasRef, hasRefL, flat, kp, cutV, upd_some, upd_none, lkp_cons, lkp_nil, ↓reduceIte, Nat.reduceEqDiff, Nat.reduceAdd, Nat.reduceLT, Nat.reduceLeDiff, List.map_cons, List.map_nil, List.all_cons, List.all_nil, List.length_cons, List.length_nil, List.drop_succ_cons, List.drop_zero, List.drop_nil, List.take_succ_cons, List.take_zero, List.take_nil, List.headD_cons, List.cons_append, List.nil_append, List.append_nil, List.getElem?_cons_zero, List.getElem?_nil, Option.getD_some, Option.getD_none, List.set_cons_zero, List.replicate_zero, List.isEmpty_nil, endQ, rvs, rv1, resV, vw_i, Int.natCast_nonneg, beq_self_eq_true, Nat.zero_add, Nat.add_zero, V.i.injEq, Bool.and_self, Bool.and_true, Bool.false_and, Bool.or_false, Bool.not_true, Bool.not_false, Bool.false_eq_true, Bool.true_eq_false, decide_true, true_and, and_true, and_self, forall_const, false_implies, implies_true, Option.map_some, List.any_nil, List.contains_cons, List.contains_nil, Bool.not_eq_false', Bool.not_eq_true', List.length_map, Int.toNat_natCast, List.getD_eq_getElem?_getD, List.getElem?_map, eStrip]
    have h1 := hb x hm
    have h2 : tame 1000000 x.long ∧ tame 1000000 s := by unfold tame at *; omega
    have h3 : inI ((i : Int) + 1) := by unfold inI; omega
    unfold falses at hc
    refine ⟨h2, fun h => ?_, fun h => ?_⟩
    · have h4 : inI (((b.strips.take i).countP (isFalse s) : Int) + 1) := by unfold inI; omega
      have h5 : isFalse s x = true := by simpa [isFalse] using h
      exact ⟨h4, h3, by simp [h5]⟩
    · have h5 : isFalse s x = false := by simpa [isFalse] using h
      exact ⟨h3, by simp [h5]⟩
  · simp only [List.take_length, ru_skip, ru_reg, ru_any, ru_seq, ru_cond, ru_block, ru_exit, ru_ret, ru_keep, ru_drp, ↓cut_lkp, cutH, putB, thenQ, blockQ, run_nil, run_cons, Fam.step, stepQ, stepW, needW, runX, eff, nextD, fpR, fpQ, fpV, disjB, hits, putB, nv, sv, evO, opv, qv, pickV, binV, ldV, iadV, curG, callV, putAt, V.cells, solid, hasRef, hasRefL, cutV, upd_some, upd_none, lkp_cons, lkp_nil, ↓reduceIte, Nat.reduceEqDiff, Nat.reduceAdd, Nat.reduceLT, Nat.reduceLeDiff, List.map_cons, List.map_nil, List.all_nil, List.length_cons, List.length_nil, List.drop_zero, List.take_zero, List.cons_append, List.nil_append, List.append_nil, List.getElem?_cons_zero, List.getElem?_nil, Option.getD_none, List.set_cons_zero, List.replicate_zero, List.isEmpty_nil, endQ, rvs, rv1, resV, vw_i, Int.lt_irrefl, Int.natCast_nonneg, beq_self_eq_true, Nat.zero_add, Nat.add_zero, Bool.and_self, Bool.and_true, Bool.false_and, Bool.or_false, Bool.not_true, Bool.not_false, Bool.false_eq_true, decide_false, true_and, and_self, false_and, and_false, forall_const, List.any_nil, List.contains_cons, List.contains_nil, imp_self, List.length_map, Int.toNat_natCast, List.getD_eq_getElem?_getD, List.getElem?_map]
def lowOf (t : Tent) (g : Int) : Int := ((t.can[g.toNat]?).getD []).headD 0
def highOf (t : Tent) (g : Int) : Int := ((t.can[g.toNat]?).getD []).getLastD 0
def roundOf (t : Tent) (w : Int) : Span := ⟨sumBy t.dome.gores fun g => pull (w - 2 * t.dome.loss) (lowOf t g), sumBy t.dome.gores fun g => pull (w - 2 * t.dome.loss) (highOf t g)⟩
def ok50 (t : Tent) (w : Int) : Prop := tame 100000 w ∧ tame 100000 t.dome.loss ∧ (∀ g ∈ t.dome.gores, 0 ≤ g ∧ g < t.can.length) ∧ (∀ l ∈ t.can, l ≠ [] ∧ l.length < 100000 ∧ ∀ s ∈ l, tame 100000 s) ∧ t.dome.gores.length < 100000
theorem P50 (t : Tent) (w : Int) (h : ok50 t w) : PureCall Try.prog 50 [.pa (eTent t), .i w] (.ag (eSpan (roundOf t w))) := by
  refine pure_body okC hmix Try.func50 cb50 cc50 cs50 cn50 ?_
  obtain ⟨h1, h2, h3, h4, h5⟩ := h
  simp only [rc50, rs50, ru_reg, ru_seq, ru_block, ru_keep, thenQ, run_nil, run_cons, Fam.step, stepQ, stepW, needW, nv, evO, opv, qv, pickV, ldV, lenV, upd_some, lkp_cons, lkp_nil, ↓reduceIte, Nat.reduceEqDiff, Nat.reduceAdd, Nat.reduceLeDiff, List.map_cons, List.map_nil, List.length_cons, List.length_nil, List.drop_succ_cons, List.drop_zero, List.headD_cons, List.cons_append, List.nil_append, zipA, Nat.zero_add, Bool.false_eq_true, true_and, and_self, reduceCtorEq, List.length_map, eSpan, eDome, eTent]
  have i1 : inI (2 * t.dome.loss) := by unfold inI tame at *; omega
  have i2 : inI (w - 2 * t.dome.loss) := by unfold inI tame at *; omega
  have i3 : tame 1000000 (w - 2 * t.dome.loss) := by unfold tame at *; omega
  have hget : ∀ g ∈ t.dome.gores, ∃ x l', t.can[g.toNat]? = some (x :: l') ∧ (∀ s ∈ x :: l', tame 100000 s) ∧ (x :: l').length < 100000 := by
    intro g hg
    obtain ⟨h6, h7⟩ := h3 g hg
    obtain ⟨y, hy⟩ : ∃ y, t.can[g.toNat]? = some y := ⟨_, List.getElem?_eq_getElem (by omega)⟩
    obtain ⟨a1, a2, a3⟩ := h4 y (List.mem_of_getElem? hy)
    cases y with
    | nil => exact absurd rfl a1
    | cons x l' => exact ⟨x, l', hy, a3, a2⟩
  have hlast : ∀ (x : Int) (l' : List Int), (x :: l')[l'.length]? = some ((x :: l').getLastD 0) := by
    intro x l'
    have := List.getLast?_eq_getElem? (l := x :: l')
    simp only [List.length_cons, Nat.add_sub_cancel] at this
    rw [← this, List.getLastD_eq_getLast?, List.getLast?_cons]
    rfl
  have hf1 : ∀ g ∈ t.dome.gores, tame 1001000000000 (pull (w - 2 * t.dome.loss) (lowOf t g)) := by
    intro g hg
    obtain ⟨x, l', e, a, _⟩ := hget g hg
    refine pull_tame i3 ?_
    have := a x (by simp)
    simp only [lowOf, e, Option.getD_some, List.headD_cons]
    unfold tame at *; omega
  have hf2 : ∀ g ∈ t.dome.gores, tame 1001000000000 (pull (w - 2 * t.dome.loss) (highOf t g)) := by
    intro g hg
    obtain ⟨x, l', e, a, _⟩ := hget g hg
    refine pull_tame i3 ?_
    have := a ((x :: l').getLastD 0) (List.mem_of_getElem? (hlast x l'))
    simp only [highOf, e, Option.getD_some]
    unfold tame at *; omega
  refine ru_count t.dome.gores.length (fun i => ⟨lkp [(0, .pa (eTent t)), (1, .i w), (4, .ad 0 0 0), (12, .sl 1 (t.dome.gores.map eI)), (13, .i t.dome.gores.length), (14, .i i)],
    [.cells 0 [.i (sumBy (t.dome.gores.take i) fun g => pull (w - 2 * t.dome.loss) (lowOf t g)), .i (sumBy (t.dome.gores.take i) fun g => pull (w - 2 * t.dome.loss) (highOf t g))]]⟩) ?_ ?_ ?_
  · simp only [Int.natCast_zero, kp, lkp_cons, lkp_nil, ↓reduceIte, Nat.reduceEqDiff, List.map_cons, List.map_nil, List.take_zero, List.cons_append, List.nil_append, reduceCtorEq, eDome, eTent]
    rfl
  · intro i hi
    obtain ⟨g, hg⟩ : ∃ g, t.dome.gores[i]? = some g := ⟨_, List.getElem?_eq_getElem hi⟩
    have hm := List.mem_of_getElem? hg
    obtain ⟨h6, h7⟩ := h3 g hm
    obtain ⟨x, l', hy, hc, hlen⟩ := hget g hm
    have hl := hlast x l'
    have hlt : (i : Int) < t.dome.gores.length := by omega
    have i4 : inI ((i : Int) + 1) := by unfold inI; omega
    have e1 : lowOf t g = x := by simp [lowOf, hy]
    have e2 : highOf t g = (x :: l').getLastD 0 := by simp only [highOf, hy, Option.getD_some]
    have i5 : tame 1000000 x := by have := hc x (by simp); unfold tame at *; omega
    have i6 : tame 1000000 ((x :: l').getLastD 0) := by have := hc _ (List.mem_of_getElem? hl); unfold tame at *; omega
    have j1 := sumBy_in i (by omega) hf1
    have j2 := sumBy_in i (by omega) hf2
    have j3 := hf1 g hm
    have j4 := hf2 g hm
    generalize hL : (x :: l').getLastD 0 = z at *
    have hl' : ([V.i x] :: l'.map eI)[l'.length]? = some [V.i z] := by
      have : ((x :: l').map eI)[l'.length]? = some (eI z) := by rw [List.getElem?_map, hl]; rfl
      exact this
    have k3 : inI (l'.length : Int) := by simp at hlen; unfold inI; omega
    have k4 : (0 : Int) < l'.length + 1 := by omega
    have k5 : (l'.length : Int) < l'.length + 1 := by omega
    have k1 : inI ((sumBy (t.dome.gores.take i) fun g => pull (w - 2 * t.dome.loss) (lowOf t g)) + pull (w - 2 * t.dome.loss) x) := by rw [e1] at j3; unfold inI tame at *; omega
    have k2 : inI ((sumBy (t.dome.gores.take i) fun g => pull (w - 2 * t.dome.loss) (highOf t g)) + pull (w - 2 * t.dome.loss) z) := by rw [e2] at j4; unfold inI tame at *; omega
    simp only [gC69, hg, hlt, Int.natCast_add, Int.natCast_one, sumBy_succ hg, hy, h6, h7, i1, i2, i3, i4, i5, i6, k1, k2, k3, k4, k5, hl', e1, e2, ru_skip, ru_reg, ru_any, ru_seq, ru_cond, ru_block, ru_exit, ru_ret, ru_keep, putB, thenQ, blockQ, run_nil, run_cons, Fam.step, stepQ, stepW, needW, runX, eff, nextD, fpR, fpQ, fpV, disjB, hits, putB, nv, sv, evO, opv, qv, pickV, binV, ldV, iadV, lenV, curG, callV, putAt, V.cells, solid, cellOk, hasRef, hasRefL, flat, kp, upd_some, upd_none, lkp_cons, lkp_nil, ↓reduceIte, Nat.reduceEqDiff, Nat.reduceAdd, Nat.reduceLT, Nat.reduceLeDiff, Int.add_sub_cancel, Int.toNat_zero, Int.reduceLE, List.map_cons, List.map_nil, List.all_cons, List.all_nil, List.length_cons, List.length_nil, List.drop_succ_cons, List.drop_zero, List.drop_nil, List.take_succ_cons, List.take_zero, List.take_nil, List.headD_cons, List.cons_append, List.nil_append, List.append_nil, List.getElem?_cons_zero, List.getElem?_nil, Option.getD_some, Option.getD_none, List.set_cons_zero, List.replicate_zero, List.isEmpty_nil, List.isEmpty_cons, endQ, rvs, rv1, resV, vw_i, vw_ag, Int.natCast_nonneg, beq_self_eq_true, Nat.zero_add, Nat.add_zero, Bool.and_self, Bool.and_true, Bool.true_and, Bool.false_and, Bool.or_false, Bool.false_or, Bool.not_true, Bool.not_false, Bool.false_eq_true, Bool.true_eq_false, decide_true, true_and, and_self, forall_const, false_implies, implies_true, reduceCtorEq, Option.map_some, List.any_cons, List.any_nil, List.contains_cons, List.contains_nil, List.length_map, Int.toNat_natCast, List.getD_eq_getElem?_getD, List.getElem?_map, eDome, eI, eCan, eTent]
  · simp only [List.take_length, roundOf, ru_skip, ru_reg, ru_any, ru_seq, ru_cond, ru_block, ru_exit, ru_ret, ru_keep, putB, thenQ, blockQ, run_nil, run_cons, Fam.step, stepQ, stepW, needW, runX, eff, nextD, fpR, fpQ, fpV, disjB, hits, putB, nv, sv, evO, opv, qv, pickV, binV, ldV, iadV, lenV, curG, callV, putAt, V.cells, solid, cellOk, hasRef, hasRefL, upd_some, upd_none, lkp_cons, lkp_nil, ↓reduceIte, Nat.reduceEqDiff, Nat.reduceAdd, Nat.reduceMul, Nat.reduceLT, Nat.reduceLeDiff, Int.toNat_zero, Int.reduceLE, List.map_cons, List.map_nil, List.all_cons, List.all_nil, List.length_cons, List.length_nil, List.drop_succ_cons, List.drop_zero, List.drop_nil, List.take_succ_cons, List.take_zero, List.take_nil, List.headD_cons, List.cons_append, List.nil_append, List.append_nil, List.getElem?_cons_zero, List.getElem?_nil, Option.getD_none, List.set_cons_zero, List.replicate_zero, List.isEmpty_nil, List.isEmpty_cons, endQ, rvs, rv1, resV, vw_i, vw_ag, Int.lt_irrefl, Int.natCast_nonneg, beq_self_eq_true, Nat.zero_add, Nat.add_zero, Bool.and_self, Bool.and_true, Bool.true_and, Bool.false_and, Bool.or_false, Bool.false_or, Bool.not_true, Bool.not_false, Bool.false_eq_true, decide_false, true_and, and_self, and_false, forall_const, reduceCtorEq, List.any_cons, List.any_nil, List.contains_cons, List.contains_nil, imp_self, List.length_map, Int.toNat_natCast, List.getD_eq_getElem?_getD, List.getElem?_map, eDome, eTent]
end Go.C02
