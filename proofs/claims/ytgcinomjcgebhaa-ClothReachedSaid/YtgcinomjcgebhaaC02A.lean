import Derived.Test.YtgcinomjcgebhaaC02T
import Derived.Test.YtgcinomjcgebhaaC02Rc1
import Derived.Test.YtgcinomjcgebhaaC02Rc2
set_option linter.all false
set_option linter.unusedSimpArgs false
set_option linter.unusedVariables false
namespace Go.C02
open Go.Fam Go.Proofs
theorem hmix : Try.prog.follows .mixedOrders = true := by kernel_rfl
variable {Γ : Gam}

def within (n lo hi : Int) : Bool := decide (lo ≤ n) && decide (n ≤ hi)
def pull (l s : Int) : Int := (l * (1000 + s)).tdiv 1000
def tame (m n : Int) : Prop := -m ≤ n ∧ n ≤ m

theorem P54 (hG : GOk Try.prog Γ) (n lo hi : Int) : PureCall Try.prog 54 [.i n, .i lo, .i hi] (.b (within n lo hi)) := by
  refine pure_body hG hmix Try.func54 cb54 cc54 cs54 cn54 ?_
  simp only [rc54, rs54, ru_reg, ru_seq, ru_ret, ru_keep, thenQ, run_nil, run_cons, Fam.step, stepQ, needQ, condB, ug, evO, opv, qv, pickV, binV, upd_some, lkp_cons, lkp_nil, ↓reduceIte, Nat.reduceEqDiff, Nat.reduceAdd, List.map_cons, List.map_nil, List.all_cons, List.all_nil, endQ, rvs, rv1, resV, vw_b, zipA, Nat.zero_add, V.b.injEq, Bool.and_self, Bool.and_true, decide_eq_true_eq, decide_eq_false_iff_not, true_and, and_true, and_self, implies_true, reduceCtorEq, beq_true, ite_f, imp_self]
  by_cases h : lo ≤ n <;> simp [h, within]
theorem P67 (hG : GOk Try.prog Γ) (n lo hi : Int) : PureCall Try.prog 67 [.i n, .i lo, .i hi] (.b (within n lo hi)) := by
  refine pure_body hG hmix Try.func67 cb67 cc67 cs67 cn67 ?_
  simp only [rc67, rs67, ru_reg, ru_seq, ru_ret, ru_keep, thenQ, run_nil, run_cons, Fam.step, stepQ, needQ, condB, ug, evO, opv, qv, pickV, binV, upd_some, lkp_cons, lkp_nil, ↓reduceIte, Nat.reduceEqDiff, Nat.reduceAdd, List.map_cons, List.map_nil, List.all_cons, List.all_nil, endQ, rvs, rv1, resV, vw_b, zipA, Nat.zero_add, V.b.injEq, Bool.and_self, Bool.and_true, decide_eq_true_eq, decide_eq_false_iff_not, true_and, and_true, and_self, implies_true, reduceCtorEq, beq_true, ite_f, imp_self]
  by_cases h : lo ≤ n <;> simp [h, within]

theorem mul_tame {a b m n : Int} (ha : tame m a) (hb : tame n b) (hm : 0 ≤ m) (hn : 0 ≤ n) : tame (m * n) (a * b) := by
  unfold tame at *
  constructor
  · by_cases h : 0 ≤ a
    · by_cases h' : 0 ≤ b
      · have := Int.mul_nonneg h h'; have := Int.mul_nonneg hm hn; omega
      · have := Int.mul_le_mul ha.2 (show -b ≤ n by omega) (by omega) hm
        have e := Int.mul_neg a b
        omega
    · by_cases h' : 0 ≤ b
      · have := Int.mul_le_mul (show -a ≤ m by omega) hb.2 (by omega) hm
        have e := Int.neg_mul a b
        omega
      · have := Int.mul_nonneg (show 0 ≤ -a by omega) (show 0 ≤ -b by omega)
        have e := Int.neg_mul_neg a b
        have := Int.mul_nonneg hm hn
        omega
  · by_cases h : 0 ≤ a
    · by_cases h' : 0 ≤ b
      · exact Int.mul_le_mul ha.2 hb.2 h' hm
      · have := Int.mul_nonneg h (show 0 ≤ -b by omega)
        have e := Int.mul_neg a b
        have := Int.mul_nonneg hm hn
        omega
    · by_cases h' : 0 ≤ b
      · have := Int.mul_nonneg (show 0 ≤ -a by omega) h'
        have e := Int.neg_mul a b
        have := Int.mul_nonneg hm hn
        omega
      · have := Int.mul_le_mul (show -a ≤ m by omega) (show -b ≤ n by omega) (by omega) hm
        have e := Int.neg_mul_neg a b
        omega

theorem pull_in {l s : Int} (hl : tame 1000000 l) (hs : tame 1000000 s) : inI (1000 + s) ∧ inI (l * (1000 + s)) ∧ inI (pull l s) := by
  have h1 : tame 1001000 (1000 + s) := by unfold tame at *; omega
  have h2 := mul_tame hl h1 (by decide) (by decide)
  unfold pull inI
  unfold tame at *
  have h3 : (l * (1000 + s)).tdiv 1000 ≤ 1000000 * 1001000 ∧ -(1000000 * 1001000) ≤ (l * (1000 + s)).tdiv 1000 := by
    generalize l * (1000 + s) = x at *
    constructor
    · by_cases h : 0 ≤ x
      · rw [Int.tdiv_eq_ediv_of_nonneg h]; omega
      · have : x.tdiv 1000 ≤ 0 := by
          have e : x = -(-x) := by omega
          rw [e, Int.neg_tdiv, Int.tdiv_eq_ediv_of_nonneg (by omega)]; omega
        omega
    · by_cases h : 0 ≤ x
      · rw [Int.tdiv_eq_ediv_of_nonneg h]; omega
      · have e : x = -(-x) := by omega
        rw [e, Int.neg_tdiv, Int.tdiv_eq_ediv_of_nonneg (by omega)]; omega
  omega

theorem P57 (hG : GOk Try.prog Γ) (l s : Int) (hl : tame 1000000 l) (hs : tame 1000000 s) : PureCall Try.prog 57 [.i l, .i s] (.i (pull l s)) := by
  obtain ⟨h1, h2, h3⟩ := pull_in hl hs
  refine pure_body hG hmix Try.func57 cb57 cc57 cs57 cn57 ?_
  simp only [rc57, rs57, ru_reg, ru_seq, ru_ret, ru_keep, thenQ, run_nil, run_cons, Fam.step, stepQ, evO, opv, qv, pickV, binV, upd_some, lkp_cons, lkp_nil, ↓reduceIte, Nat.reduceEqDiff, Int.reduceEq, List.map_cons, List.map_nil, endQ, rvs, rv1, resV, vw_i, zipA, Nat.zero_add, V.i.injEq, true_and, and_self, reduceCtorEq, not_false_eq_true, ne_eq]
  exact ⟨h1, h2, by simpa [pull] using h3, rfl⟩
theorem P69 (hG : GOk Try.prog Γ) (l s : Int) (hl : tame 1000000 l) (hs : tame 1000000 s) : PureCall Try.prog 69 [.i l, .i s] (.i (pull l s)) := by
  obtain ⟨h1, h2, h3⟩ := pull_in hl hs
  refine pure_body hG hmix Try.func69 cb69 cc69 cs69 cn69 ?_
  simp only [rc69, rs69, ru_reg, ru_seq, ru_ret, ru_keep, thenQ, run_nil, run_cons, Fam.step, stepQ, evO, opv, qv, pickV, binV, upd_some, lkp_cons, lkp_nil, ↓reduceIte, Nat.reduceEqDiff, Int.reduceEq, List.map_cons, List.map_nil, endQ, rvs, rv1, resV, vw_i, zipA, Nat.zero_add, V.i.injEq, true_and, and_self, reduceCtorEq, not_false_eq_true, ne_eq]
  exact ⟨h1, h2, by simpa [pull] using h3, rfl⟩

def r54 : List V → Prop × V | [.i n, .i lo, .i hi] => (True, .b (within n lo hi)) | _ => (False, .u)
def r57 : List V → Prop × V | [.i l, .i s] => (tame 1000000 l ∧ tame 1000000 s, .i (pull l s)) | _ => (False, .u)
theorem h54 (hG : GOk Try.prog Γ) (vs : List V) (h : (r54 vs).1) : PureCall Try.prog 54 vs (r54 vs).2 := by
  unfold r54 at h ⊢; split at h <;> first | exact P54 hG _ _ _ | exact h.elim
theorem h67 (hG : GOk Try.prog Γ) (vs : List V) (h : (r54 vs).1) : PureCall Try.prog 67 vs (r54 vs).2 := by
  unfold r54 at h ⊢; split at h <;> first | exact P67 hG _ _ _ | exact h.elim
theorem h57 (hG : GOk Try.prog Γ) (vs : List V) (h : (r57 vs).1) : PureCall Try.prog 57 vs (r57 vs).2 := by
  unfold r57 at h ⊢; split at h <;> first | exact P57 hG _ _ h.1 h.2 | exact h.elim
theorem h69 (hG : GOk Try.prog Γ) (vs : List V) (h : (r57 vs).1) : PureCall Try.prog 69 vs (r57 vs).2 := by
  unfold r57 at h ⊢; split at h <;> first | exact P69 hG _ _ h.1 h.2 | exact h.elim
def GA : Gam := (((Γ0.ext 54 r54).ext 67 r54).ext 57 r57).ext 69 r57
theorem okA : GOk Try.prog GA :=
  (((g0_ok.ext (fun a w => Try.call54 a w) (h54 g0_ok)).ext (fun a w => Try.call67 a w) (h67 g0_ok)).ext (fun a w => Try.call57 a w) (h57 g0_ok)).ext (fun a w => Try.call69 a w) (h69 g0_ok)
theorem gA54 (n lo hi : Int) : GA 54 [.i n, .i lo, .i hi] = (True, .b (within n lo hi)) := rfl
theorem gA67 (n lo hi : Int) : GA 67 [.i n, .i lo, .i hi] = (True, .b (within n lo hi)) := rfl
theorem gA57 (l s : Int) : GA 57 [.i l, .i s] = (tame 1000000 l ∧ tame 1000000 s, .i (pull l s)) := rfl
theorem gA69 (l s : Int) : GA 69 [.i l, .i s] = (tame 1000000 l ∧ tame 1000000 s, .i (pull l s)) := rfl
end Go.C02
