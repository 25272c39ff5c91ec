import Derived.Test.YtgcinomjcgebhaaC02E
set_option linter.all false
set_option linter.unusedSimpArgs false
set_option linter.unusedVariables false
namespace Go.C02
open Go.Fam Go.Proofs
variable {Γ : Gam}
def idxOf {α : Type} (p : α → Bool) (l : List α) : Int := if l.any p then (l.findIdx p : Int) else -1
theorem idxOf_at {α : Type} {p : α → Bool} {l : List α} {i : Nat} {x : α} (hx : l[i]? = some x) (e : p x = true) (hc : ∀ j x, j < i → l[j]? = some x → p x = false) : idxOf p l = i := by
  have h1 : l.any p = true := List.any_eq_true.2 ⟨x, List.mem_of_getElem? hx, e⟩
  have hl := getElemLt hx
  have h2 : l[i] = x := by have := List.getElem?_eq_getElem hl; rw [this] at hx; exact Option.some.inj hx
  have h3 : l.findIdx p = i := (List.findIdx_eq hl).2 ⟨by rw [h2]; exact e, fun j hj => hc j _ hj (List.getElem?_eq_getElem (by omega))⟩
  simp [idxOf, h1, h3]
theorem idxOf_none {α : Type} {p : α → Bool} {l : List α} (h : ∀ x ∈ l, p x = false) : idxOf p l = -1 := by
  have : l.any p = false := by simpa using h
  simp [idxOf, this]
theorem idxOf_any {α : Type} (p : α → Bool) (l : List α) : decide (0 ≤ idxOf p l) = l.any p := by
  unfold idxOf
  cases h : l.any p <;> simp

theorem P87 (hG : GOk Try.prog Γ) (x : Strip) (f : Nat) (hf : f < 1000000) (caps : List V) (b : Bool) (hv : caps.map (vw [] 8) = caps) (hr : hasRefL caps = false) (h : Γ f (V.ag (eStrip x) :: caps) = (True, .b b)) :
    PureCall Try.prog 87 [V.ag (eStrip x), .pa [.fn f caps]] (.b (!b)) := by
  refine pure_body hG hmix Try.func87 cb87 cc87 cs87 cn87 ?_
  simp only [rc87, rs87, ru_reg, ru_seq, ru_ret, ru_keep, thenQ, run_nil, run_cons, Fam.step, stepQ, evO, opv, qv, pickV, ldV, callV, V.cells, solid, hasRef, hasRefL, upd_some, lkp_cons, lkp_nil, ↓reduceIte, Nat.reduceEqDiff, Nat.reduceAdd, Nat.reduceLeDiff, List.map_cons, List.map_nil, List.length_cons, List.length_nil, List.take_succ_cons, List.take_nil, List.headD_cons, List.cons_append, List.nil_append, endQ, rvs, rv1, resV, vw_i, vw_ag, zipA, Nat.zero_add, Bool.or_false, Bool.false_or, Bool.false_eq_true, true_and, and_self, reduceCtorEq, eStrip]
  try simp only [eStrip] at h
  simp only [h, hv, hr, hf, flat, vw_b, Bool.false_eq_true, and_self, implies_true]
theorem P90 (hG : GOk Try.prog Γ) (l : List Strip) (f : Nat) (hf : f < 1000000) (caps : List V) (p : Strip → Bool) (hv : caps.map (vw [] 8) = caps) (hr : hasRefL caps = false) (hl : l.length < 10000000)
    (h : ∀ x ∈ l, Γ f (V.ag (eStrip x) :: caps) = (True, .b (p x))) : PureCall Try.prog 90 [.sl 3 (l.map eStrip), .fn f caps] (.i (idxOf p l)) := by
  refine pure_body hG hmix Try.func90 cb90 cc90 cs90 cn90 ?_
  simp only [rc90, rs90, ru_reg, ru_seq, ru_block, ru_keep, thenQ, run_nil, run_cons, Fam.step, stepQ, evO, opv, qv, pickV, lenV, upd_some, lkp_cons, lkp_nil, ↓reduceIte, Nat.reduceEqDiff, Int.reduceNeg, List.map_cons, List.map_nil, zipA, Nat.zero_add, true_and, reduceCtorEq, List.length_map]
  refine ru_countC l.length (fun i => ⟨lkp [(0, .sl 3 (l.map eStrip)), (1, .fn f caps), (7, .i l.length), (8, .i i)], []⟩) (fun i => ∀ j x, j < i → l[j]? = some x → p x = false) ?_ ?_ ?_ ?_
  · simp only [Int.natCast_zero, kp, lkp_cons, lkp_nil, ↓reduceIte, Nat.reduceEqDiff, List.map_cons, List.map_nil, reduceCtorEq]
  · intro j x h; omega
  · intro i hi hc
    obtain ⟨x, hx⟩ : ∃ x, l[i]? = some x := ⟨_, List.getElem?_eq_getElem hi⟩
    have hlt : (i : Int) < l.length := by omega
    have h3 : inI ((i : Int) + 1) := by unfold inI; omega
    have hp := h x (List.mem_of_getElem? hx)
    try simp only [eStrip] at hp
    simp only [hx, hlt, Int.natCast_add, Int.natCast_one, h3, hp, hv, hr, hf, ru_skip, ru_reg, ru_seq, ru_cond, ru_block, ru_exit, ru_ret, ru_keep, thenQ, blockQ, run_nil, run_cons, Fam.step, stepQ, evO, opv, qv, pickV, binV, ldV, iadV, callV, hasRef, hasRefL, flat, kp, upd_some, lkp_cons, lkp_nil, ↓reduceIte, Nat.reduceEqDiff, Nat.reduceAdd, Nat.reduceLeDiff, Int.reduceNeg, List.map_cons, List.map_nil, List.length_cons, List.length_nil, List.take_succ_cons, List.take_nil, List.cons_append, List.nil_append, Option.getD_some, endQ, rvs, rv1, resV, vw_i, vw_ag, Int.natCast_nonneg, Nat.zero_add, V.i.injEq, Bool.or_false, Bool.false_eq_true, Bool.true_eq_false, decide_true, true_and, and_true, and_self, forall_const, false_implies, implies_true, reduceCtorEq, Option.map_some, List.length_map, Int.toNat_natCast, List.getD_eq_getElem?_getD, List.getElem?_map, eStrip]
    refine ⟨fun e => ?_, fun e => ?_⟩
    · rw [idxOf_at hx e hc]
    · intro j y hj hy
      by_cases hji : j < i
      · exact hc j y hji hy
      · have : j = i := by omega
        subst this
        rw [hx] at hy; cases hy; exact e
  · intro hc
    simp only [ru_skip, ru_reg, ru_seq, ru_cond, ru_block, ru_exit, ru_ret, ru_keep, thenQ, blockQ, run_nil, run_cons, Fam.step, stepQ, evO, opv, qv, pickV, binV, ldV, iadV, callV, hasRef, hasRefL, upd_some, lkp_cons, lkp_nil, ↓reduceIte, Nat.reduceEqDiff, Int.reduceNeg, List.map_cons, List.map_nil, List.cons_append, List.nil_append, endQ, rvs, rv1, resV, vw_i, vw_ag, Int.lt_irrefl, Int.natCast_nonneg, V.i.injEq, Bool.false_eq_true, decide_false, true_and, and_self, false_and, and_false, forall_const, reduceCtorEq, imp_self, List.length_map, Int.toNat_natCast, List.getD_eq_getElem?_getD, List.getElem?_map]
    exact (idxOf_none fun x hx => by
      obtain ⟨j, hj⟩ := List.getElem?_of_mem hx
      exact hc j x (by have := getElemLt hj; exact this) hj).symm
theorem P86 (hG : GOk Try.prog Γ) (l : List Strip) (f : Nat) (caps : List V) (p : Strip → Bool) (hv : caps.map (vw [] 7) = caps) (hr : hasRefL caps = false)
    (h : Γ 90 [.sl 3 (l.map eStrip), .fn f caps] = (True, .i (idxOf p l))) : PureCall Try.prog 86 [.sl 3 (l.map eStrip), .fn f caps] (.b (l.any p)) := by
  refine pure_body hG hmix Try.func86 cb86 cc86 cs86 cn86 ?_
  simp only [rc86, rs86, hv, hr, h, ru_reg, ru_seq, ru_ret, ru_keep, thenQ, run_nil, run_cons, Fam.step, stepQ, evO, opv, qv, pickV, binV, callV, hasRef, hasRefL, flat, upd_some, lkp_cons, lkp_nil, ↓reduceIte, Nat.reduceEqDiff, Nat.reduceLT, List.map_cons, List.map_nil, List.append_nil, endQ, rvs, rv1, resV, vw_b, vw_sl, vw_fn, zipA, Nat.zero_add, V.b.injEq, Bool.or_false, Bool.false_eq_true, true_and, and_self, implies_true, reduceCtorEq]
  rw [idxOf_any]
theorem P79 (hG : GOk Try.prog Γ) (l : List Strip) (f : Nat) (caps : List V) (p : Strip → Bool) (hv : caps.map (vw [] 7) = caps) (hr : hasRefL caps = false)
    (h : Γ 86 [.sl 3 (l.map eStrip), .fn 87 [.pa [.fn f caps]]] = (True, .b (l.any fun x => !p x))) : PureCall Try.prog 79 [.sl 3 (l.map eStrip), .fn f caps] (.b (l.all p)) := by
  refine pure_body hG hmix Try.func79 cb79 cc79 cs79 cn79 ?_
  simp only [rc79, rs79, hv, hr, h, ru_reg, ru_seq, ru_ret, ru_keep, thenQ, run_nil, run_cons, Fam.step, stepQ, evO, opv, qv, pickV, callV, V.cells, solid, hasRef, hasRefL, flat, upd_some, lkp_cons, lkp_nil, ↓reduceIte, Nat.reduceEqDiff, Nat.reduceLT, List.map_cons, List.map_nil, List.append_nil, endQ, rvs, rv1, resV, vw_b, vw_sl, vw_pa, vw_fn, zipA, Nat.zero_add, V.b.injEq, Bool.or_false, Bool.false_eq_true, true_and, and_self, implies_true, reduceCtorEq]
  simp [List.any_eq_not_all_not]

theorem P78 (hG : GOk Try.prog Γ) (x : Bolt) (f : Nat) (hf : f < 1000000) (caps : List V) (b : Bool) (hv : caps.map (vw [] 8) = caps) (hr : hasRefL caps = false) (h : Γ f (V.ag (eBolt x) :: caps) = (True, .b b)) :
    PureCall Try.prog 78 [V.ag (eBolt x), .pa [.fn f caps]] (.b (!b)) := by
  refine pure_body hG hmix Try.func78 cb78 cc78 cs78 cn78 ?_
  simp only [rc78, rs78, ru_reg, ru_seq, ru_ret, ru_keep, thenQ, run_nil, run_cons, Fam.step, stepQ, evO, opv, qv, pickV, ldV, callV, V.cells, solid, hasRef, hasRefL, upd_some, lkp_cons, lkp_nil, ↓reduceIte, Nat.reduceEqDiff, Nat.reduceAdd, Nat.reduceLeDiff, List.map_cons, List.map_nil, List.length_cons, List.length_nil, List.take_succ_cons, List.take_nil, List.headD_cons, List.cons_append, List.nil_append, endQ, rvs, rv1, resV, vw_i, vw_sl, vw_ag, zipA, Nat.zero_add, Bool.or_false, Bool.false_or, Bool.false_eq_true, true_and, and_self, reduceCtorEq, eBolt]
  try simp only [eBolt] at h
  simp only [h, hv, hr, hf, flat, vw_b, Bool.false_eq_true, and_self, implies_true]
theorem P85 (hG : GOk Try.prog Γ) (l : List Bolt) (f : Nat) (hf : f < 1000000) (caps : List V) (p : Bolt → Bool) (hv : caps.map (vw [] 8) = caps) (hr : hasRefL caps = false) (hl : l.length < 10000000)
    (h : ∀ x ∈ l, Γ f (V.ag (eBolt x) :: caps) = (True, .b (p x))) : PureCall Try.prog 85 [.sl 4 (l.map eBolt), .fn f caps] (.i (idxOf p l)) := by
  refine pure_body hG hmix Try.func85 cb85 cc85 cs85 cn85 ?_
  simp only [rc85, rs85, ru_reg, ru_seq, ru_block, ru_keep, thenQ, run_nil, run_cons, Fam.step, stepQ, evO, opv, qv, pickV, lenV, upd_some, lkp_cons, lkp_nil, ↓reduceIte, Nat.reduceEqDiff, Int.reduceNeg, List.map_cons, List.map_nil, zipA, Nat.zero_add, true_and, reduceCtorEq, List.length_map]
  refine ru_countC l.length (fun i => ⟨lkp [(0, .sl 4 (l.map eBolt)), (1, .fn f caps), (7, .i l.length), (8, .i i)], []⟩) (fun i => ∀ j x, j < i → l[j]? = some x → p x = false) ?_ ?_ ?_ ?_
  · simp only [Int.natCast_zero, kp, lkp_cons, lkp_nil, ↓reduceIte, Nat.reduceEqDiff, List.map_cons, List.map_nil, reduceCtorEq]
  · intro j x h; omega
  · intro i hi hc
    obtain ⟨x, hx⟩ : ∃ x, l[i]? = some x := ⟨_, List.getElem?_eq_getElem hi⟩
    have hlt : (i : Int) < l.length := by omega
    have h3 : inI ((i : Int) + 1) := by unfold inI; omega
    have hp := h x (List.mem_of_getElem? hx)
    try simp only [eBolt] at hp
    simp only [hx, hlt, Int.natCast_add, Int.natCast_one, h3, hp, hv, hr, hf, ru_skip, ru_reg, ru_seq, ru_cond, ru_block, ru_exit, ru_ret, ru_keep, thenQ, blockQ, run_nil, run_cons, Fam.step, stepQ, evO, opv, qv, pickV, binV, ldV, iadV, callV, hasRef, hasRefL, flat, kp, upd_some, lkp_cons, lkp_nil, ↓reduceIte, Nat.reduceEqDiff, Nat.reduceAdd, Nat.reduceLeDiff, Int.reduceNeg, List.map_cons, List.map_nil, List.length_cons, List.length_nil, List.take_succ_cons, List.take_nil, List.cons_append, List.nil_append, Option.getD_some, endQ, rvs, rv1, resV, vw_i, vw_sl, vw_ag, Int.natCast_nonneg, Nat.zero_add, V.i.injEq, Bool.or_false, Bool.false_eq_true, Bool.true_eq_false, decide_true, true_and, and_true, and_self, forall_const, false_implies, implies_true, reduceCtorEq, Option.map_some, List.length_map, Int.toNat_natCast, List.getD_eq_getElem?_getD, List.getElem?_map, eBolt]
    refine ⟨fun e => ?_, fun e => ?_⟩
    · rw [idxOf_at hx e hc]
    · intro j y hj hy
      by_cases hji : j < i
      · exact hc j y hji hy
      · have : j = i := by omega
        subst this
        rw [hx] at hy; cases hy; exact e
  · intro hc
    simp only [ru_skip, ru_reg, ru_seq, ru_cond, ru_block, ru_exit, ru_ret, ru_keep, thenQ, blockQ, run_nil, run_cons, Fam.step, stepQ, evO, opv, qv, pickV, binV, ldV, iadV, callV, hasRef, hasRefL, upd_some, lkp_cons, lkp_nil, ↓reduceIte, Nat.reduceEqDiff, Int.reduceNeg, List.map_cons, List.map_nil, List.cons_append, List.nil_append, endQ, rvs, rv1, resV, vw_i, vw_ag, Int.lt_irrefl, Int.natCast_nonneg, V.i.injEq, Bool.false_eq_true, decide_false, true_and, and_self, false_and, and_false, forall_const, reduceCtorEq, imp_self, List.length_map, Int.toNat_natCast, List.getD_eq_getElem?_getD, List.getElem?_map]
    exact (idxOf_none fun x hx => by
      obtain ⟨j, hj⟩ := List.getElem?_of_mem hx
      exact hc j x (by have := getElemLt hj; exact this) hj).symm
theorem P77 (hG : GOk Try.prog Γ) (l : List Bolt) (f : Nat) (caps : List V) (p : Bolt → Bool) (hv : caps.map (vw [] 7) = caps) (hr : hasRefL caps = false)
    (h : Γ 85 [.sl 4 (l.map eBolt), .fn f caps] = (True, .i (idxOf p l))) : PureCall Try.prog 77 [.sl 4 (l.map eBolt), .fn f caps] (.b (l.any p)) := by
  refine pure_body hG hmix Try.func77 cb77 cc77 cs77 cn77 ?_
  simp only [rc77, rs77, hv, hr, h, ru_reg, ru_seq, ru_ret, ru_keep, thenQ, run_nil, run_cons, Fam.step, stepQ, evO, opv, qv, pickV, binV, callV, hasRef, hasRefL, flat, upd_some, lkp_cons, lkp_nil, ↓reduceIte, Nat.reduceEqDiff, Nat.reduceLT, List.map_cons, List.map_nil, List.append_nil, endQ, rvs, rv1, resV, vw_b, vw_sl, vw_fn, zipA, Nat.zero_add, V.b.injEq, Bool.or_false, Bool.false_eq_true, true_and, and_self, implies_true, reduceCtorEq]
  rw [idxOf_any]
theorem P63 (hG : GOk Try.prog Γ) (l : List Bolt) (f : Nat) (caps : List V) (p : Bolt → Bool) (hv : caps.map (vw [] 7) = caps) (hr : hasRefL caps = false)
    (h : Γ 77 [.sl 4 (l.map eBolt), .fn 78 [.pa [.fn f caps]]] = (True, .b (l.any fun x => !p x))) : PureCall Try.prog 63 [.sl 4 (l.map eBolt), .fn f caps] (.b (l.all p)) := by
  refine pure_body hG hmix Try.func63 cb63 cc63 cs63 cn63 ?_
  simp only [rc63, rs63, hv, hr, h, ru_reg, ru_seq, ru_ret, ru_keep, thenQ, run_nil, run_cons, Fam.step, stepQ, evO, opv, qv, pickV, callV, V.cells, solid, hasRef, hasRefL, flat, upd_some, lkp_cons, lkp_nil, ↓reduceIte, Nat.reduceEqDiff, Nat.reduceLT, List.map_cons, List.map_nil, List.append_nil, endQ, rvs, rv1, resV, vw_b, vw_sl, vw_pa, vw_fn, zipA, Nat.zero_add, V.b.injEq, Bool.or_false, Bool.false_eq_true, true_and, and_self, implies_true, reduceCtorEq]
  simp [List.any_eq_not_all_not]

theorem P84 (hG : GOk Try.prog Γ) (x : Span) (f : Nat) (hf : f < 1000000) (caps : List V) (b : Bool) (hv : caps.map (vw [] 8) = caps) (hr : hasRefL caps = false) (h : Γ f (V.ag (eSpan x) :: caps) = (True, .b b)) :
    PureCall Try.prog 84 [V.ag (eSpan x), .pa [.fn f caps]] (.b (!b)) := by
  refine pure_body hG hmix Try.func84 cb84 cc84 cs84 cn84 ?_
  simp only [rc84, rs84, ru_reg, ru_seq, ru_ret, ru_keep, thenQ, run_nil, run_cons, Fam.step, stepQ, evO, opv, qv, pickV, ldV, callV, V.cells, solid, hasRef, hasRefL, upd_some, lkp_cons, lkp_nil, ↓reduceIte, Nat.reduceEqDiff, Nat.reduceAdd, Nat.reduceLeDiff, List.map_cons, List.map_nil, List.length_cons, List.length_nil, List.take_succ_cons, List.take_nil, List.headD_cons, List.cons_append, List.nil_append, endQ, rvs, rv1, resV, vw_i, vw_ag, zipA, Nat.zero_add, Bool.or_false, Bool.false_or, Bool.false_eq_true, true_and, and_self, reduceCtorEq, eSpan]
  try simp only [eSpan] at h
  simp only [h, hv, hr, hf, flat, vw_b, Bool.false_eq_true, and_self, implies_true]
theorem P89 (hG : GOk Try.prog Γ) (l : List Span) (f : Nat) (hf : f < 1000000) (caps : List V) (p : Span → Bool) (hv : caps.map (vw [] 8) = caps) (hr : hasRefL caps = false) (hl : l.length < 10000000)
    (h : ∀ x ∈ l, Γ f (V.ag (eSpan x) :: caps) = (True, .b (p x))) : PureCall Try.prog 89 [.sl 2 (l.map eSpan), .fn f caps] (.i (idxOf p l)) := by
  refine pure_body hG hmix Try.func89 cb89 cc89 cs89 cn89 ?_
  simp only [rc89, rs89, ru_reg, ru_seq, ru_block, ru_keep, thenQ, run_nil, run_cons, Fam.step, stepQ, evO, opv, qv, pickV, lenV, upd_some, lkp_cons, lkp_nil, ↓reduceIte, Nat.reduceEqDiff, Int.reduceNeg, List.map_cons, List.map_nil, zipA, Nat.zero_add, true_and, reduceCtorEq, List.length_map]
  refine ru_countC l.length (fun i => ⟨lkp [(0, .sl 2 (l.map eSpan)), (1, .fn f caps), (7, .i l.length), (8, .i i)], []⟩) (fun i => ∀ j x, j < i → l[j]? = some x → p x = false) ?_ ?_ ?_ ?_
  · simp only [Int.natCast_zero, kp, lkp_cons, lkp_nil, ↓reduceIte, Nat.reduceEqDiff, List.map_cons, List.map_nil, reduceCtorEq]
  · intro j x h; omega
  · intro i hi hc
    obtain ⟨x, hx⟩ : ∃ x, l[i]? = some x := ⟨_, List.getElem?_eq_getElem hi⟩
    have hlt : (i : Int) < l.length := by omega
    have h3 : inI ((i : Int) + 1) := by unfold inI; omega
    have hp := h x (List.mem_of_getElem? hx)
    try simp only [eSpan] at hp
    simp only [hx, hlt, Int.natCast_add, Int.natCast_one, h3, hp, hv, hr, hf, ru_skip, ru_reg, ru_seq, ru_cond, ru_block, ru_exit, ru_ret, ru_keep, thenQ, blockQ, run_nil, run_cons, Fam.step, stepQ, evO, opv, qv, pickV, binV, ldV, iadV, callV, hasRef, hasRefL, flat, kp, upd_some, lkp_cons, lkp_nil, ↓reduceIte, Nat.reduceEqDiff, Nat.reduceAdd, Nat.reduceLeDiff, Int.reduceNeg, List.map_cons, List.map_nil, List.length_cons, List.length_nil, List.take_succ_cons, List.take_nil, List.cons_append, List.nil_append, Option.getD_some, endQ, rvs, rv1, resV, vw_i, vw_ag, Int.natCast_nonneg, Nat.zero_add, V.i.injEq, Bool.or_false, Bool.false_eq_true, Bool.true_eq_false, decide_true, true_and, and_true, and_self, forall_const, false_implies, implies_true, reduceCtorEq, Option.map_some, List.length_map, Int.toNat_natCast, List.getD_eq_getElem?_getD, List.getElem?_map, eSpan]
    refine ⟨fun e => ?_, fun e => ?_⟩
    · rw [idxOf_at hx e hc]
    · intro j y hj hy
      by_cases hji : j < i
      · exact hc j y hji hy
      · have : j = i := by omega
        subst this
        rw [hx] at hy; cases hy; exact e
  · intro hc
    simp only [ru_skip, ru_reg, ru_seq, ru_cond, ru_block, ru_exit, ru_ret, ru_keep, thenQ, blockQ, run_nil, run_cons, Fam.step, stepQ, evO, opv, qv, pickV, binV, ldV, iadV, callV, hasRef, hasRefL, upd_some, lkp_cons, lkp_nil, ↓reduceIte, Nat.reduceEqDiff, Int.reduceNeg, List.map_cons, List.map_nil, List.cons_append, List.nil_append, endQ, rvs, rv1, resV, vw_i, vw_ag, Int.lt_irrefl, Int.natCast_nonneg, V.i.injEq, Bool.false_eq_true, decide_false, true_and, and_self, false_and, and_false, forall_const, reduceCtorEq, imp_self, List.length_map, Int.toNat_natCast, List.getD_eq_getElem?_getD, List.getElem?_map]
    exact (idxOf_none fun x hx => by
      obtain ⟨j, hj⟩ := List.getElem?_of_mem hx
      exact hc j x (by have := getElemLt hj; exact this) hj).symm
theorem P83 (hG : GOk Try.prog Γ) (l : List Span) (f : Nat) (caps : List V) (p : Span → Bool) (hv : caps.map (vw [] 7) = caps) (hr : hasRefL caps = false)
    (h : Γ 89 [.sl 2 (l.map eSpan), .fn f caps] = (True, .i (idxOf p l))) : PureCall Try.prog 83 [.sl 2 (l.map eSpan), .fn f caps] (.b (l.any p)) := by
  refine pure_body hG hmix Try.func83 cb83 cc83 cs83 cn83 ?_
  simp only [rc83, rs83, hv, hr, h, ru_reg, ru_seq, ru_ret, ru_keep, thenQ, run_nil, run_cons, Fam.step, stepQ, evO, opv, qv, pickV, binV, callV, hasRef, hasRefL, flat, upd_some, lkp_cons, lkp_nil, ↓reduceIte, Nat.reduceEqDiff, Nat.reduceLT, List.map_cons, List.map_nil, List.append_nil, endQ, rvs, rv1, resV, vw_b, vw_sl, vw_fn, zipA, Nat.zero_add, V.b.injEq, Bool.or_false, Bool.false_eq_true, true_and, and_self, implies_true, reduceCtorEq]
  rw [idxOf_any]
theorem P76 (hG : GOk Try.prog Γ) (l : List Span) (f : Nat) (caps : List V) (p : Span → Bool) (hv : caps.map (vw [] 7) = caps) (hr : hasRefL caps = false)
    (h : Γ 83 [.sl 2 (l.map eSpan), .fn 84 [.pa [.fn f caps]]] = (True, .b (l.any fun x => !p x))) : PureCall Try.prog 76 [.sl 2 (l.map eSpan), .fn f caps] (.b (l.all p)) := by
  refine pure_body hG hmix Try.func76 cb76 cc76 cs76 cn76 ?_
  simp only [rc76, rs76, hv, hr, h, ru_reg, ru_seq, ru_ret, ru_keep, thenQ, run_nil, run_cons, Fam.step, stepQ, evO, opv, qv, pickV, callV, V.cells, solid, hasRef, hasRefL, flat, upd_some, lkp_cons, lkp_nil, ↓reduceIte, Nat.reduceEqDiff, Nat.reduceLT, List.map_cons, List.map_nil, List.append_nil, endQ, rvs, rv1, resV, vw_b, vw_sl, vw_pa, vw_fn, zipA, Nat.zero_add, V.b.injEq, Bool.or_false, Bool.false_eq_true, true_and, and_self, implies_true, reduceCtorEq]
  simp [List.any_eq_not_all_not]

theorem P82 (hG : GOk Try.prog Γ) (x : Int) (f : Nat) (hf : f < 1000000) (caps : List V) (b : Bool) (hv : caps.map (vw [] 8) = caps) (hr : hasRefL caps = false) (h : Γ f (V.i x :: caps) = (True, .b b)) :
    PureCall Try.prog 82 [V.i x, .pa [.fn f caps]] (.b (!b)) := by
  refine pure_body hG hmix Try.func82 cb82 cc82 cs82 cn82 ?_
  simp only [rc82, rs82, ru_reg, ru_seq, ru_ret, ru_keep, thenQ, run_nil, run_cons, Fam.step, stepQ, evO, opv, qv, pickV, ldV, callV, hasRef, hasRefL, upd_some, lkp_cons, lkp_nil, ↓reduceIte, Nat.reduceEqDiff, Nat.reduceLeDiff, List.map_cons, List.map_nil, List.length_cons, List.length_nil, List.headD_cons, List.cons_append, List.nil_append, endQ, rvs, rv1, resV, vw_i, zipA, Nat.zero_add, Bool.false_or, Bool.false_eq_true, true_and, and_self, reduceCtorEq]
  try simp only [ru_skip, ru_reg, ru_any, ru_seq, ru_cond, ru_block, ru_exit, ru_ret, ru_keep, ru_drp, ru_own, ru_ownc, ru_swp, ru_nxt, ru_yrg, ru_crl, chunk1, ↓cut_lkp, ↓ren_lkp, rnQ, rndQ, updL, sfree, yres, slots, ghO, stepO, ocV, rflat, rflatL, rflatB, shV, shL, shB, vB_cells, vB_map, swH, sw, renV, renL, renB, cutH, putB, lkpV, keyL, entV, mlenV, keyV, keyFits, endO, endK, endI, thenQ, blockQ, run_nil, run_cons, step_q, Fam.step, stepQ, stepW, needQ, needW, condB, ug, runX, eff_q, eff, nextD, fpR, fpQ, fpV, disjB, hits, putB, nv, sv, newsV, evO, opv, qv, pickV, binV, ldV, iadV, lenV, curG, slcV, intOr, callV, foldParts, putAt, partsOk, partsOne, V.cells, solid, cellOk, intsOf, hasRef, hasRefL, flat, flatL, kp, cutV, cutL, cutB, upd_some, upd_none, lkp_cons, lkp_nil, ↓reduceIte, Nat.reduceEqDiff, Nat.reduceAdd, Nat.reduceSub, Nat.reduceMul, Nat.reduceLT, Nat.reduceLeDiff, Nat.reduceBEq, Int.reduceNeg, Int.reduceToNat, Int.add_sub_cancel, Int.toNat_zero, Int.reduceLT, Int.reduceLE, Int.reduceAdd, Int.reduceSub, Int.reduceMul, Int.reduceEq, List.map_cons, List.map_nil, List.all_cons, List.all_nil, List.length_cons, List.length_nil, List.drop_succ_cons, List.drop_zero, List.drop_nil, List.take_succ_cons, List.take_zero, List.take_nil, List.headD_cons, List.headD_nil, List.cons_append, List.nil_append, List.append_nil, List.getElem?_cons_zero, List.getElem?_cons_succ, List.getElem?_nil, Option.getD_some, Option.getD_none, List.set_cons_zero, List.set_cons_succ, List.set_nil, List.replicate_zero, List.replicate_succ, List.getD_cons_zero, List.getD_cons_succ, List.isEmpty_nil, List.isEmpty_cons, endQ, rvs, rv1, resV, vw_i, vw_b, vw_u, vw_pn, vw_z, vw_sl, vw_pa, vw_ag, vw_tp, vw_fn, vw_ad, vw_rf, zipA, Int.lt_irrefl, Int.natCast_nonneg, beq_self_eq_true, Nat.zero_add, Nat.add_zero, Option.some.injEq, V.i.injEq, V.b.injEq, Bool.and_self, Bool.and_true, Bool.true_and, Bool.false_and, Bool.and_false, Bool.or_false, Bool.false_or, Bool.or_true, Bool.true_or, Bool.not_true, Bool.not_false, Bool.false_eq_true, Bool.true_eq_false, decide_true, decide_false, decide_eq_true_eq, decide_eq_false_iff_not, true_and, and_true, and_self, false_and, and_false, forall_const, false_implies, true_implies, implies_true, reduceCtorEq, ite_true, ite_false, not_true_eq_false, not_false_eq_true, ne_eq, Option.map_some, Option.map_none, List.any_cons, List.any_nil, List.contains_cons, List.contains_nil, beq_true, beq_false, Bool.not_not, Bool.not_eq_false', Bool.not_eq_true', ite_f, ite_t, Bool.decide_eq_true, Bool.decide_eq_false, imp_self, List.length_map, Int.toNat_natCast, List.getD_eq_getElem?_getD, List.getElem?_map, Bool.not_eq_true, List.length_replicate, spanE, boltE, stripE, domeE, tentE, eSpan, eStrip, eBolt, eDome, eI, eIs, eCan, eTent] at h
  simp only [h, hv, hr, hf, flat, vw_b, Bool.false_eq_true, and_self, implies_true]
theorem P88 (hG : GOk Try.prog Γ) (l : List Int) (f : Nat) (hf : f < 1000000) (caps : List V) (p : Int → Bool) (hv : caps.map (vw [] 8) = caps) (hr : hasRefL caps = false) (hl : l.length < 10000000)
    (h : ∀ x ∈ l, Γ f (V.i x :: caps) = (True, .b (p x))) : PureCall Try.prog 88 [.sl 1 (l.map eI), .fn f caps] (.i (idxOf p l)) := by
  refine pure_body hG hmix Try.func88 cb88 cc88 cs88 cn88 ?_
  simp only [rc88, rs88, ru_reg, ru_seq, ru_block, ru_keep, thenQ, run_nil, run_cons, Fam.step, stepQ, evO, opv, qv, pickV, lenV, upd_some, lkp_cons, lkp_nil, ↓reduceIte, Nat.reduceEqDiff, Int.reduceNeg, List.map_cons, List.map_nil, zipA, Nat.zero_add, true_and, reduceCtorEq, List.length_map]
  refine ru_countC l.length (fun i => ⟨lkp [(0, .sl 1 (l.map eI)), (1, .fn f caps), (7, .i l.length), (8, .i i)], []⟩) (fun i => ∀ j x, j < i → l[j]? = some x → p x = false) ?_ ?_ ?_ ?_
  · simp only [Int.natCast_zero, kp, lkp_cons, lkp_nil, ↓reduceIte, Nat.reduceEqDiff, List.map_cons, List.map_nil, reduceCtorEq]
  · intro j x h; omega
  · intro i hi hc
    obtain ⟨x, hx⟩ : ∃ x, l[i]? = some x := ⟨_, List.getElem?_eq_getElem hi⟩
    have hlt : (i : Int) < l.length := by omega
    have h3 : inI ((i : Int) + 1) := by unfold inI; omega
    have hp := h x (List.mem_of_getElem? hx)
    try simp only [ru_skip, ru_reg, ru_any, ru_seq, ru_cond, ru_block, ru_exit, ru_ret, ru_keep, ru_drp, ru_own, ru_ownc, ru_swp, ru_nxt, ru_yrg, ru_crl, chunk1, ↓cut_lkp, ↓ren_lkp, rnQ, rndQ, updL, sfree, yres, slots, ghO, stepO, ocV, rflat, rflatL, rflatB, shV, shL, shB, vB_cells, vB_map, swH, sw, renV, renL, renB, cutH, putB, lkpV, keyL, entV, mlenV, keyV, keyFits, endO, endK, endI, thenQ, blockQ, run_nil, run_cons, step_q, Fam.step, stepQ, stepW, needQ, needW, condB, ug, runX, eff_q, eff, nextD, fpR, fpQ, fpV, disjB, hits, putB, nv, sv, newsV, evO, opv, qv, pickV, binV, ldV, iadV, lenV, curG, slcV, intOr, callV, foldParts, putAt, partsOk, partsOne, V.cells, solid, cellOk, intsOf, hasRef, hasRefL, flat, flatL, kp, cutV, cutL, cutB, upd_some, upd_none, lkp_cons, lkp_nil, ↓reduceIte, Nat.reduceEqDiff, Nat.reduceAdd, Nat.reduceSub, Nat.reduceMul, Nat.reduceLT, Nat.reduceLeDiff, Nat.reduceBEq, Int.reduceNeg, Int.reduceToNat, Int.add_sub_cancel, Int.toNat_zero, Int.reduceLT, Int.reduceLE, Int.reduceAdd, Int.reduceSub, Int.reduceMul, Int.reduceEq, List.map_cons, List.map_nil, List.all_cons, List.all_nil, List.length_cons, List.length_nil, List.drop_succ_cons, List.drop_zero, List.drop_nil, List.take_succ_cons, List.take_zero, List.take_nil, List.headD_cons, List.headD_nil, List.cons_append, List.nil_append, List.append_nil, List.getElem?_cons_zero, List.getElem?_cons_succ, List.getElem?_nil, Option.getD_some, Option.getD_none, List.set_cons_zero, List.set_cons_succ, List.set_nil, List.replicate_zero, List.replicate_succ, List.getD_cons_zero, List.getD_cons_succ, List.isEmpty_nil, List.isEmpty_cons, endQ, rvs, rv1, resV, vw_i, vw_b, vw_u, vw_pn, vw_z, vw_sl, vw_pa, vw_ag, vw_tp, vw_fn, vw_ad, vw_rf, zipA, Int.lt_irrefl, Int.natCast_nonneg, beq_self_eq_true, Nat.zero_add, Nat.add_zero, Option.some.injEq, V.i.injEq, V.b.injEq, Bool.and_self, Bool.and_true, Bool.true_and, Bool.false_and, Bool.and_false, Bool.or_false, Bool.false_or, Bool.or_true, Bool.true_or, Bool.not_true, Bool.not_false, Bool.false_eq_true, Bool.true_eq_false, decide_true, decide_false, decide_eq_true_eq, decide_eq_false_iff_not, true_and, and_true, and_self, false_and, and_false, forall_const, false_implies, true_implies, implies_true, reduceCtorEq, ite_true, ite_false, not_true_eq_false, not_false_eq_true, ne_eq, Option.map_some, Option.map_none, List.any_cons, List.any_nil, List.contains_cons, List.contains_nil, beq_true, beq_false, Bool.not_not, Bool.not_eq_false', Bool.not_eq_true', ite_f, ite_t, Bool.decide_eq_true, Bool.decide_eq_false, imp_self, List.length_map, Int.toNat_natCast, List.getD_eq_getElem?_getD, List.getElem?_map, Bool.not_eq_true, List.length_replicate, spanE, boltE, stripE, domeE, tentE, eSpan, eStrip, eBolt, eDome, eI, eIs, eCan, eTent] at hp
    simp only [hx, hlt, Int.natCast_add, Int.natCast_one, h3, hp, hv, hr, hf, ru_skip, ru_reg, ru_seq, ru_cond, ru_block, ru_exit, ru_ret, ru_keep, thenQ, blockQ, run_nil, run_cons, Fam.step, stepQ, evO, opv, qv, pickV, binV, ldV, iadV, callV, hasRef, hasRefL, flat, kp, upd_some, lkp_cons, lkp_nil, ↓reduceIte, Nat.reduceEqDiff, Nat.reduceLeDiff, Int.reduceNeg, List.map_cons, List.map_nil, List.length_cons, List.length_nil, List.headD_cons, List.cons_append, List.nil_append, Option.getD_some, endQ, rvs, rv1, resV, vw_i, Int.natCast_nonneg, Nat.zero_add, V.i.injEq, Bool.or_false, Bool.false_eq_true, Bool.true_eq_false, decide_true, true_and, and_true, and_self, forall_const, false_implies, implies_true, reduceCtorEq, Option.map_some, List.length_map, Int.toNat_natCast, List.getD_eq_getElem?_getD, List.getElem?_map, eI]
    refine ⟨fun e => ?_, fun e => ?_⟩
    · rw [idxOf_at hx e hc]
    · intro j y hj hy
      by_cases hji : j < i
      · exact hc j y hji hy
      · have : j = i := by omega
        subst this
        rw [hx] at hy; cases hy; exact e
  · intro hc
    simp only [ru_skip, ru_reg, ru_seq, ru_cond, ru_block, ru_exit, ru_ret, ru_keep, thenQ, blockQ, run_nil, run_cons, Fam.step, stepQ, evO, opv, qv, pickV, binV, ldV, iadV, callV, hasRefL, upd_some, lkp_cons, lkp_nil, ↓reduceIte, Nat.reduceEqDiff, Int.reduceNeg, List.map_cons, List.map_nil, List.cons_append, List.nil_append, endQ, rvs, rv1, resV, vw_i, Int.lt_irrefl, Int.natCast_nonneg, V.i.injEq, Bool.false_eq_true, decide_false, true_and, and_self, false_and, and_false, forall_const, reduceCtorEq, imp_self, List.length_map, Int.toNat_natCast, List.getD_eq_getElem?_getD, List.getElem?_map]
    exact (idxOf_none fun x hx => by
      obtain ⟨j, hj⟩ := List.getElem?_of_mem hx
      exact hc j x (by have := getElemLt hj; exact this) hj).symm
theorem P81 (hG : GOk Try.prog Γ) (l : List Int) (f : Nat) (caps : List V) (p : Int → Bool) (hv : caps.map (vw [] 7) = caps) (hr : hasRefL caps = false)
    (h : Γ 88 [.sl 1 (l.map eI), .fn f caps] = (True, .i (idxOf p l))) : PureCall Try.prog 81 [.sl 1 (l.map eI), .fn f caps] (.b (l.any p)) := by
  refine pure_body hG hmix Try.func81 cb81 cc81 cs81 cn81 ?_
  simp only [rc81, rs81, hv, hr, h, ru_reg, ru_seq, ru_ret, ru_keep, thenQ, run_nil, run_cons, Fam.step, stepQ, evO, opv, qv, pickV, binV, callV, hasRef, hasRefL, flat, upd_some, lkp_cons, lkp_nil, ↓reduceIte, Nat.reduceEqDiff, Nat.reduceLT, List.map_cons, List.map_nil, List.append_nil, endQ, rvs, rv1, resV, vw_b, vw_sl, vw_fn, zipA, Nat.zero_add, V.b.injEq, Bool.or_false, Bool.false_eq_true, true_and, and_self, implies_true, reduceCtorEq]
  rw [idxOf_any]
theorem P75 (hG : GOk Try.prog Γ) (l : List Int) (f : Nat) (caps : List V) (p : Int → Bool) (hv : caps.map (vw [] 7) = caps) (hr : hasRefL caps = false)
    (h : Γ 81 [.sl 1 (l.map eI), .fn 82 [.pa [.fn f caps]]] = (True, .b (l.any fun x => !p x))) : PureCall Try.prog 75 [.sl 1 (l.map eI), .fn f caps] (.b (l.all p)) := by
  refine pure_body hG hmix Try.func75 cb75 cc75 cs75 cn75 ?_
  simp only [rc75, rs75, hv, hr, h, ru_reg, ru_seq, ru_ret, ru_keep, thenQ, run_nil, run_cons, Fam.step, stepQ, evO, opv, qv, pickV, callV, V.cells, solid, hasRef, hasRefL, flat, upd_some, lkp_cons, lkp_nil, ↓reduceIte, Nat.reduceEqDiff, Nat.reduceLT, List.map_cons, List.map_nil, List.append_nil, endQ, rvs, rv1, resV, vw_b, vw_sl, vw_pa, vw_fn, zipA, Nat.zero_add, V.b.injEq, Bool.or_false, Bool.false_eq_true, true_and, and_self, implies_true, reduceCtorEq]
  simp [List.any_eq_not_all_not]
end Go.C02
