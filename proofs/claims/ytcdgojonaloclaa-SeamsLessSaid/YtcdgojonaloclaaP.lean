import Derived.Test.YtcdgojonaloclaaG3
import Derived.Test.YtcdgojonaloclaaChecked
import Derived.Test.YtcdgojonaloclaaG9
set_option linter.all false
open List renaming length_map → Qb, map_cons → Qc, take_succ_cons → Qd, length_cons → Qe, map_nil → Qf, length_nil → Qg, append_nil → Qh, all_cons → Qi, getElem?_cons_zero → Qk, getElem?_cons_succ → Ql, all_nil → Qm, take_nil → Qq, headD_cons → Qt, drop_succ_cons → Qu, getD_eq_getElem?_getD → Qv, drop_zero → Qz
open Nat renaming zero_add → Qn
open Bool renaming false_eq_true → Qa, and_self → Qj, and_eq_true → Qo, or_false → Qr, not_true → Qs, not_false → Qw, true_eq_false → Qx, and_true → Qy, xor_self → Q0
open Option renaming getD_some → Qp
open Int renaming toNat_natCast → Q1, natCast_add → Q2, natCast_one → Q3
set_option maxRecDepth 8000
namespace Go.C02
open Go.Fam Go.Proofs
def rc3 : RC := (.seq (.reg false [(cX 2 0), (cQ 4 [] (.mv (kB false)))]) (.keep [1,2] (.seq (.seq (.reg true [(cLd 11 2 true 11), (cQ 12 [11] (.call (kF 16) [(.t 11)])), (cN 13 12), (cMv 14 13), (gMv 15 14 false 1), (gQ 16 14 false [15] (.len (.t 15))), (gQ 17 14 false [16] (.bin .gtr (.t 16) (kI 20))), (cQ 18 [14,17] (.pick (.t 14) (kB true) (.t 17)))]) (.keep [1,2,18] (.cond (.t 18) (.seq (.reg false [(cQ 19 [] (.call (kF 17) [])), (cMv 4 19)]) .ret) .skip))) (.keep [1,2] (.seq (.reg false [(cLd 21 2 true 11), (cQ 22 [21] (.call (kF 18) [(.t 21)])), (cMv 20 22), (cEx 23 20 0), (cEx 24 20 1), (cMv 5 23), (cMv 6 24)]) (.keep [1,2,5,6] (.seq (.reg false [(cLd 26 2 true 11), (cQ 27 [26] (.call (kF 19) [(.t 26)])), (cMv 25 27), (cEx 28 25 0), (cEx 29 25 1), (cMv 7 28), (cMv 8 29)]) (.keep [1,2,5,6,7,8] (.seq (.seq (.reg true [(cMv 30 6), (cC 31 .neq 30 0), (cMv 32 31), (gMv 33 32 true 6), (gQ 34 32 true [33] (.bin .neq (.t 33) (kI 3))), (cQ 35 [32,34] (.pick (.t 32) (.t 34) (kB false))), (cMv 36 35), (gMv 37 36 false 8), (gQ 38 36 false [37] (.bin .neq (.t 37) (kI 0))), (cQ 39 [36,38] (.pick (.t 36) (kB true) (.t 38))), (cMv 40 39), (gMv 41 40 false 7), (gQ 42 40 false [41] (.len (.t 41))), (gQ 43 40 false [42] (.bin .eql (.t 42) (kI 0))), (gQ 44 40 false [2] (.ld true 11 (.t 2))), (gQ 45 40 false [2] (.fad 9 (.t 2))), (gQ 46 40 false [45] (.ld false 1 (.t 45))), (gQ 47 40 false [44,46] (.call (kF 20) [(.t 44), (.t 46)])), (gQ 48 40 false [43,47] (.bq true (.t 43) (.t 47))), (cQ 49 [40,48] (.pick (.t 40) (kB true) (.t 48)))]) (.keep [1,2,5,6,49] (.cond (.t 49) (.seq (.reg false [(cQ 4 [] (.mv (kB false)))]) .ret) .skip))) (.keep [1,2,5,6] (.seq (.seq (.reg false [(cLd 50 2 true 11), (cMv 51 1), (cQ 52 [50,51] (.call (kF 20) [(.t 50), (.t 51)])), (cN 53 52)]) (.keep [1,5,6,53] (.cond (.t 53) (.seq (.reg false [(cQ 54 [] (.call (kF 17) [])), (cMv 4 54)]) .ret) .skip))) (.keep [1,5,6] (.seq (.reg false [(cI 9 0)]) (.keep [1,5,6,9] (.seq (.seq (.reg false [(cI 10 0)]) (.keep [1,5,6,9,10] (.block 0 (.loop [1,5,6,9,10] none (.seq (.seq (.reg false [(cMv 55 10), (cMv 56 1), (cLn 57 56), (cB 58 .lss 55 57)]) (.keep [1,5,6,9,10,58] (.cond (.t 58) .skip (.exit 0)))) (.keep [1,5,6,9,10] (.seq (.block 1 (.reg false [(cMv 61 9), (cMv 62 1), (cMv 63 10), (cA 64 1 62 63), (cLd 65 64 false 1), (cB 66 .add 61 65), (cMv 9 66)])) (.keep [1,5,6,9,10] (.reg false [(cMv 59 10), (cC 60 .add 59 1), (cMv 10 60)]))))))))) (.keep [5,6,9] (.seq (.reg true [(cMv 67 6), (cC 68 .eql 67 0), (cMv 69 68), (gMv 70 69 true 5), (gQ 71 69 true [70] (.bin .geq (.t 70) (kI 0))), (cQ 72 [69,71] (.pick (.t 69) (.t 71) (kB false))), (cMv 73 72), (gMv 74 73 true 5), (gMv 75 73 true 9), (gQ 76 73 true [74,75] (.bin .leq (.t 74) (.t 75))), (cQ 77 [73,76] (.pick (.t 73) (.t 76) (kB false))), (cMv 78 77), (gQ 79 78 true [] (.call (kF 17) [])), (cQ 80 [78,79] (.pick (.t 78) (.t 79) (kB false))), (cMv 4 80)]) .ret)))))))))))))))))
def pu3 : List Nat := [2]
def rs3 : List RV := [.t 4]
theorem cc3 : comp Try.prog pu3 (Try.f3.ntmps, 0) 0 1 rc3 (Try.f3.body.getD .skip) = some rc3 := by kernel_rfl
theorem cb3 : Try.f3.body = some (Try.f3.body.getD .skip) := by kernel_rfl
theorem cs3 : resRV Try.prog Try.f3.results.toList = some rs3 := by kernel_rfl
theorem cn3 : 2 ≤ Try.f3.ntmps := by decide
end Go.C02
set_option linter.unusedSimpArgs false
set_option linter.unusedVariables false
namespace Go.C02
open Go.Fam Go.Proofs
section
variable (f : Fig) (l k : List Int) (n : Int)
theorem b18 : HB 18 [.ag (eFig f)] = (True, eNE (leastR f)) := y18 f
theorem b19 : HB 19 [.ag (eFig f)] = (True, eLE (badR f)) := y19 f
theorem b16 : HB 16 [.ag (eFig f)] = (True, .b (readyF f)) :=
  (show HB 16 _ = fnG (fun f => [.ag (eFig f)]) decF (fun _ => True) readyF .b [.ag (eFig f)] from rfl).trans (fnG_at _ (dFig_e _))
theorem b20 : HB 20 [.ag (eFig f), .sl 1 (l.map eI)] = ((figCheck f = 0 ∧ pitchE f.dome true = 0) ∧ l.length < 10000000, .b (areR f l)) := y20 f l
end
theorem Ok21.lens {f : Fig} (h : Ok21 f) : f.starts.length < 10000000 ∧ f.times.length < 10000000 := ⟨by have := h.s; omega, by have := h.t; omega⟩
end Go.C02
set_option maxRecDepth 8000
namespace Go.C02.N
open Go.Fam Go.Proofs
end Go.C02.N
set_option linter.unusedSimpArgs false
set_option linter.unusedVariables false
namespace Go.C02
open Go.Fam Go.Proofs
theorem ownN_get {f : Fig} (h : figCheck f = 0) {i : Nat} (hi : i < f.starts.length) :
    ownN (ringOf f) i = meetsN f.period (movesAt (ringOf f) i) (modN (f.starts.getD ((i + 1) % f.starts.length) 0 - f.starts.getD i 0) f.period) f.near := by
  have hns := (validF_of h).ns
  have hml : (ringOf f).moves.length = f.starts.length := by rw [hns]; simp [ringOf]
  have e1 : ((i : Int) + 1).tmod f.starts.length = (((i + 1) % f.starts.length : Nat) : Int) := by
    rw [Int.tmod_eq_emod_of_nonneg (by omega), Int.natCast_emod]; simp only [Q2, Q3]
  unfold ownN
  rw [hml, e1]
  have hs : ∀ k : Nat, startAt f (k : Nat) = f.starts.getD k 0 := fun k => by unfold startAt; rw [Q1, Qv]
  show meetsN f.period _ (modN (startAt f _ - startAt f _) f.period) f.near = _
  rw [hs, hs]
theorem nb_own {f : Fig} (h : figCheck f = 0) : NB (ringOf f) f.near f.starts ↔ ∀ i : Nat, i < f.starts.length → ownN (ringOf f) i = 1 := by
  have hv := validF_of h
  have hns := hv.ns
  have hml : (ringOf f).moves.length = f.starts.length := by rw [hns]; simp [ringOf]
  constructor
  · intro hn i hi
    rw [ownN_get h hi]
    have := hn.meet i (by omega)
    rw [hml] at this
    exact this
  · intro ha
    refine ⟨by omega, hv.starts, fun i hi => ?_⟩
    have := ha i (by omega)
    rw [ownN_get h (by omega)] at this
    rw [hml]
    exact this
theorem mem_bad {f : Fig} {n : Nat} {x : Int} : x ∈ badTo f n ↔ (0 ≤ x ∧ x < n) ∧ ownN (ringOf f) x ≠ 1 := by
  unfold badTo
  simp only [List.mem_filter, List.mem_map, List.mem_range, decide_eq_true_eq]
  constructor
  · rintro ⟨⟨i, hi, rfl⟩, h⟩
    exact ⟨by omega, h⟩
  · rintro ⟨h1, h2⟩
    exact ⟨⟨x.toNat, by omega, by omega⟩, h2⟩
theorem bad_nil {f : Fig} (h : figCheck f = 0) : badTo f f.dome.gores.length = [] ↔ NB (ringOf f) f.near f.starts := by
  have hns := (validF_of h).ns
  rw [nb_own h, List.eq_nil_iff_forall_not_mem]
  constructor
  · intro ha i hi
    refine Classical.byContradiction fun hne => ha i (mem_bad.2 ⟨by omega, hne⟩)
  · intro ha x hx
    obtain ⟨h1, h2⟩ := mem_bad.1 hx
    have := ha x.toNat (by omega)
    rw [show ((x.toNat : Nat) : Int) = x by omega] at this
    exact h2 this
theorem are_iff {f : Fig} (h : figCheck f = 0) (l : List Int) : areR f l = true ↔ NB (ringOf f) f.near l := by
  rw [← isB_iff h]
  unfold areR IsB
  rw [allN_eq, Qo, Qo, decide_eq_true_eq, List.all_eq_true]
  simp only [within, Qo, decide_eq_true_eq]
  constructor
  · rintro ⟨⟨h1, h2⟩, h3⟩
    exact ⟨h1, fun x hx => by have := h2 x hx; omega, h3⟩
  · rintro ⟨h1, h2, h3⟩
    exact ⟨⟨h1, fun x hx => by have := h2 x hx; omega⟩, h3⟩
theorem least_cases {f : Fig} (h : openE f true = 0) : (leastR f = (0, 3) ∧ ∀ l, ¬ NB (ringOf f) f.near l) ∨ (∃ l, NB (ringOf f) f.near l ∧ leastR f = (l.sum, 0) ∧ 0 ≤ l.sum ∧ ∀ l', NB (ringOf f) f.near l' → l.sum ≤ l'.sum) := by
  obtain ⟨h1, _, _⟩ := openE_ok h
  have hb := fun l => begs_iff (okR_of h1) f.near l
  unfold leastR
  rw [if_pos h]
  rcases leastV_spec h1 with ⟨e, hno⟩ | ⟨l, hl, e, h0, hmin⟩
  · have : BestOf (Begs (ringOf f) f.near) none := fun l hl => hno l ((hb l).1 hl)
    rw [leastB_eq this]
    exact .inl ⟨rfl, hno⟩
  · have : BestOf (Begs (ringOf f) f.near) (some l) := ⟨(hb l).2 hl, fun l' hl' => hmin l' ((hb l').1 hl')⟩
    rw [leastB_eq this]
    exact .inr ⟨l, hl, rfl, h0, hmin⟩
end Go.C02
set_option linter.unusedSimpArgs false
set_option linter.unusedVariables false
namespace Go.C02
open Go.Fam Go.Proofs
theorem isB_bounds {f : Fig} (h : figCheck f = 0) {l : List Int} (hl : NB (ringOf f) f.near l) : l.length ≤ 16 ∧ ∀ x ∈ l, 0 ≤ x ∧ x < 60 := by
  have hlen := (okR_of h).len
  have hp := (validF_of h).period
  have := hl.len
  exact ⟨by omega, fun x hx => by have h2 : 0 ≤ x ∧ x < f.period := hl.in_ x hx; omega⟩
theorem P3 (f : Fig) (starts : List Int) : PureCall Try.prog 3 [.ag (eFig f), .sl 1 (starts.map eI)] (.b true) := by
  refine pure_body okHB hmix Try.func3 cb3 cc3 cs3 cn3 ?_
  have g1 := b16 f
  have g2 := b18 f
  have g3 := b19 f
  have g4 := b20 f f.starts
  have g5 := b20 f starts
  have g9 := b17
  simp only [eFig, eNE, eLE] at g1 g2 g3 g4 g5
  cases hf : readyF f with
  | false => simp only [rc3, rs3, g1, g9, hf, ru_reg, ru_seq, ru_cnd, ru_ret, ru_keep, thenQ, run_nil, run_cons, Fam.step, stepQ, needQ, condB, ug, evO, opv, qv, pickV_bb, binV, ldV, lenV, callV, V.cells, solid, hasRef, hasRefL, flat, upd_some, lkp_cons, lkp_nil, ↓reduceIte, Nat.reduceEqDiff, Nat.reduceAdd, Nat.reduceLT, Nat.reduceLeDiff, Qc, Qf, Qi, Qm, Qe, Qg, Qd, Qq, Qh, endQ, rvs, rv1, resV, vw_i, vw_b, vw_sl, vw_ag, zipA, Qn, Qj, Qy, Qr, Qs, Qw, Qa, Qx, and_true, and_self, forall_const, implies_true, reduceCtorEq, beq_false, imp_self, Qb, eFig]
  | true =>
    have hf' := hf
    unfold readyF at hf'
    rw [Qo, Bool.not_eq_true', decide_eq_true_eq] at hf'
    obtain ⟨hfar, he⟩ := hf'
    obtain ⟨h1, _, hp⟩ := openE_ok he
    have hv := validF_of h1
    have h21 := farRing_ok (farF_ring hfar)
    obtain ⟨hs, ht⟩ := h21.lens
    by_cases hl20 : (20 : Int) < starts.length
    case pos => simp only [rc3, rs3, g1, g9, hf, hl20, ru_reg, ru_seq, ru_cnd, ru_ret, ru_keep, thenQ, run_nil, run_cons, Fam.step, stepQ, needQ, condB, ug, evO, opv, qv, pickV_bb, binV, ldV, lenV, callV, V.cells, solid, hasRef, hasRefL, flat, upd_some, lkp_cons, lkp_nil, ↓reduceIte, Nat.reduceEqDiff, Nat.reduceAdd, Nat.reduceLT, Nat.reduceLeDiff, Qc, Qf, Qi, Qm, Qe, Qg, Qd, Qq, Qh, endQ, rvs, rv1, resV, vw_i, vw_b, vw_sl, vw_ag, zipA, beq_self_eq_true, Qn, Qj, Qr, Qs, Qa, decide_true, and_self, forall_const, implies_true, reduceCtorEq, Qb, eFig]
    have hsl : starts.length < 10000000 := by omega
    have hbr : badR f = (badTo f f.dome.gores.length, 0) := by unfold badR; rw [if_pos he]
    rw [hbr] at g3
    have hlen : decide (((badTo f f.dome.gores.length).length : Int) = 0) = areR f f.starts := by
      rw [Bool.eq_iff_iff, decide_eq_true_eq, are_iff h1, ← bad_nil h1]
      constructor
      · intro h; exact List.eq_nil_of_length_eq_zero (by omega)
      · intro h; rw [h]; rfl
    have hnone : areR f starts = true → ∀ i, 0 ≤ (starts.take i).sum ∧ (starts.take i).sum ≤ 960 := fun ha i => by
      obtain ⟨b1, b2⟩ := isB_bounds h1 ((are_iff h1 starts).1 ha)
      have h1 := sum_le (l := starts) (fun x hx => (b2 x hx).1) i
      have h2 := sum_le_mul (l := starts) (b := 60) fun x hx => by have := b2 x hx; omega
      omega
    rcases least_cases he with ⟨hle, hno⟩ | ⟨l, hl, hle, h0, hmin⟩
    · rw [hle] at g2
      have ha : areR f starts = false := by
        rw [Bool.eq_false_iff]; intro h; exact hno _ ((are_iff h1 _).1 h)
      simp only [rc3, rs3, g1, g2, g3, g4, g5, g9, hf, hl20, h1, hp, hs, hsl, hlen, ha, ru_skip, ru_reg, ru_seq, ru_cnd, ru_ret, ru_keep, thenQ, run_nil, run_cons, Fam.step, stepQ, needQ, condB, ug, evO, opv, qv, pickV_bb, binV, ldV, lenV, callV, V.cells, solid, hasRef, hasRefL, flat, flatL, upd_some, lkp_cons, lkp_nil, ↓reduceIte, Nat.reduceEqDiff, Nat.reduceAdd, Nat.reduceLT, Nat.reduceLeDiff, Int.reduceEq, Qc, Qf, Qi, Qm, Qe, Qg, Qu, Qz, Qd, Qq, Qt, Qh, Qk, Ql, Qp, endQ, rvs, rv1, resV, vw_i, vw_b, vw_sl, vw_ag, zipA, beq_self_eq_true, Qn, Qj, Qy, Qr, Qs, Qw, Qa, Qx, decide_true, decide_false, and_self, forall_const, implies_true, reduceCtorEq, Q0, imp_self, Qb, eFig]
    · rw [hle] at g2
      cases ha : areR f starts with
      | false =>
        simp only [rc3, rs3, g1, g2, g3, g4, g5, g9, hf, hl20, h1, hp, hs, hsl, hlen, ha, ru_skip, ru_reg, ru_seq, ru_cnd, ru_ret, ru_keep, thenQ, run_nil, run_cons, Fam.step, stepQ, needQ, condB, ug, evO, opv, qv, pickV_bb, binV, ldV, lenV, callV, V.cells, solid, hasRef, hasRefL, flat, flatL, upd_some, lkp_cons, lkp_nil, ↓reduceIte, Nat.reduceEqDiff, Nat.reduceAdd, Nat.reduceLT, Nat.reduceLeDiff, Int.reduceEq, Qc, Qf, Qi, Qm, Qe, Qg, Qu, Qz, Qd, Qq, Qt, Qh, Qk, Ql, Qp, endQ, rvs, rv1, resV, vw_i, vw_b, vw_sl, vw_ag, zipA, beq_self_eq_true, Qn, Qj, Qy, Qr, Qs, Qw, Qa, decide_true, decide_false, and_true, and_self, forall_const, implies_true, reduceCtorEq, beq_true, Q0, imp_self, Qb, eFig]
      | true =>
        simp only [rc3, rs3, g1, g2, g3, g4, g5, hf, hl20, h1, hp, hs, hsl, hlen, ha, ru_skip, ru_reg, ru_seq, ru_cnd, ru_block, ru_keep, thenQ, run_nil, run_cons, Fam.step, stepQ, needQ, condB, ug, evO, opv, qv, pickV_bb, binV, ldV, lenV, callV, V.cells, solid, hasRef, hasRefL, flat, flatL, upd_some, lkp_cons, lkp_nil, ↓reduceIte, Nat.reduceEqDiff, Nat.reduceAdd, Nat.reduceLT, Nat.reduceLeDiff, Int.reduceEq, Qc, Qf, Qi, Qm, Qe, Qg, Qu, Qz, Qd, Qq, Qt, Qh, Qk, Ql, Qp, vw_i, vw_sl, vw_ag, zipA, beq_self_eq_true, Qn, Qj, Qy, Qr, Qs, Qw, Qa, decide_true, decide_false, true_and, and_true, and_self, forall_const, implies_true, reduceCtorEq, beq_true, Q0, imp_self, Qb, eFig]
        have hmn := hmin starts ((are_iff h1 starts).1 ha)
        have hsb := hnone ha
        refine ru_count starts.length (fun i => ⟨lkp [(1, .sl 1 (starts.map eI)), (5, .i l.sum), (6, .i 0), (9, .i (starts.take i).sum), (10, .i i)], []⟩) ?_ ?_ ?_
        · simp only [Int.natCast_zero, List.sum_nil, kp, lkp_cons, lkp_nil, ↓reduceIte, Nat.reduceEqDiff, Qc, Qf, List.take_zero]
        · intro i hi
          obtain ⟨x, hx⟩ : ∃ x, starts[i]? = some x := ⟨_, List.getElem?_eq_getElem hi⟩
          have hlt : (i : Int) < starts.length := by omega
          have h3 : inI ((i : Int) + 1) := by unfold inI; omega
          have h5 := hsb (i + 1)
          rw [sum_take hx] at h5
          have h6 : inI ((starts.take i).sum + x) := by unfold inI; omega
          simp only [hx, hlt, h3, h6, sum_take hx, Q2, Q3, ru_skip, ru_reg, ru_seq, ru_cnd, ru_block, ru_keep, thenQ, blockQ, run_nil, run_cons, Fam.step, stepQ, evO, opv, qv, binV, ldV, iadV, lenV, kp, upd_some, lkp_cons, lkp_nil, ↓reduceIte, Nat.reduceEqDiff, Nat.reduceLeDiff, Qc, Qf, Qe, Qg, Qt, Qp, Int.natCast_nonneg, Qn, Qa, decide_true, and_self, Option.map_some, Qb, Q1, Qv, List.getElem?_map, eI]
        · simp only [List.take_length, Int.lt_irrefl, h0, hmn, g9, ru_reg, ru_seq, ru_cnd, ru_exit, ru_ret, ru_keep, thenQ, blockQ, run_nil, run_cons, Fam.step, stepQ, needQ, condB, ug, evO, opv, qv, pickV_bb, binV, lenV, callV, hasRefL, flat, upd_some, lkp_cons, lkp_nil, ↓reduceIte, Nat.reduceEqDiff, Nat.reduceLT, Qc, Qf, Qi, Qm, Qh, endQ, rvs, rv1, resV, vw_b, Int.lt_irrefl, beq_self_eq_true, Qj, Qa, Qx, decide_true, decide_false, and_self, forall_const, implies_true, Qb]
end Go.C02
