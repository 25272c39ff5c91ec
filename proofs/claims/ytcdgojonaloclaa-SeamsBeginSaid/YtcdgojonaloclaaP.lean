import Derived.Test.YtcdgojonaloclaaG3
import Derived.Test.YtcdgojonaloclaaChecked
import Derived.Test.YtcdgojonaloclaaG9
set_option linter.all false
open List renaming length_cons → Qb, map_nil → Qc, length_nil → Qd, getElem?_cons_zero → Qf, getElem?_cons_succ → Qg, map_cons → Qi, append_nil → Qn, length_map → Qo, take_succ_cons → Qq, getElem?_map → Qs
open Nat renaming zero_add → Qh
open Bool renaming false_eq_true → Qa, and_self → Qj, true_eq_false → Qk, and_eq_true → Ql, not_false → Qp, not_true → Qr
open Option renaming getD_some → Qe, getD_none → Qt
open Int renaming natCast_zero → Qm
set_option maxRecDepth 8000
namespace Go.C02
open Go.Fam Go.Proofs
def rc8 : RC := (.seq (.reg false [(cX 1 0), (cQ 2 [] (.mv (kB false)))]) (.keep [1] (.seq (.seq (.reg false [(cLd 9 1 true 11), (cQ 10 [9] (.call (kF 29) [(.t 9)]))]) (.keep [1,10] (.cond (.t 10) (.seq (.reg false [(cQ 11 [] (.call (kF 17) [])), (cMv 2 11)]) .ret) .skip))) (.keep [1] (.seq (.reg false [(cLd 13 1 true 11), (cQ 14 [13] (.call (kF 21) [(.t 13)])), (cQ 15 [14] (.call (kF 33) [(.t 14)])), (cMv 12 15), (cEx 16 12 0), (cEx 17 12 1), (cMv 3 16), (cMv 4 17)]) (.keep [1,3,4] (.seq (.reg false [(cLd 19 1 true 11), (cQ 20 [19] (.call (kF 30) [(.t 19)])), (cMv 18 20), (cEx 21 18 0), (cEx 22 18 1), (cMv 5 21), (cMv 6 22)]) (.keep [1,3,4,5,6] (.seq (.seq (.reg true [(cMv 23 4), (cMv 24 6), (cB 25 .neq 23 24), (cMv 26 25), (gMv 27 26 false 4), (gQ 28 26 false [27] (.bin .neq (.t 27) (kI 0))), (cQ 29 [26,28] (.pick (.t 26) (kB true) (.t 28)))]) (.keep [1,3,4,5,6,29] (.cond (.t 29) (.seq (.reg true [(cMv 30 4), (cMv 31 6), (cB 32 .eql 30 31), (cMv 33 32), (gMv 34 33 true 3), (gQ 35 33 true [34] (.len (.t 34))), (gQ 36 33 true [35] (.bin .eql (.t 35) (kI 0))), (cQ 37 [33,36] (.pick (.t 33) (.t 36) (kB false))), (cMv 38 37), (gQ 39 38 true [] (.call (kF 17) [])), (cQ 40 [38,39] (.pick (.t 38) (.t 39) (kB false))), (cMv 2 40)]) .ret) .skip))) (.keep [1,3,5] (.seq (.seq (.reg false [(cLd 41 1 true 11), (cMv 42 3), (cQ 43 [41,42] (.call (kF 20) [(.t 41), (.t 42)])), (cN 44 43)]) (.keep [3,5,44] (.cond (.t 44) (.seq (.reg false [(cQ 2 [] (.mv (kB false)))]) .ret) .skip))) (.keep [3,5] (.seq (.reg false [(cI 7 0)]) (.keep [3,5,7] (.seq (.seq (.reg false [(cI 8 0)]) (.keep [3,5,7,8] (.block 0 (.loop [3,5,7,8] none (.seq (.seq (.reg false [(cMv 45 8), (cMv 46 3), (cLn 47 46), (cB 48 .lss 45 47)]) (.keep [3,5,7,8,48] (.cond (.t 48) .skip (.exit 0)))) (.keep [3,5,7,8] (.seq (.block 1 (.reg false [(cMv 51 7), (cMv 52 3), (cMv 53 8), (cA 54 1 52 53), (cLd 55 54 false 1), (cB 56 .add 51 55), (cMv 7 56)])) (.keep [3,5,7,8] (.reg false [(cMv 49 8), (cC 50 .add 49 1), (cMv 8 50)]))))))))) (.keep [5,7] (.seq (.reg true [(cMv 57 7), (cMv 58 5), (cB 59 .eql 57 58), (cMv 60 59), (gQ 61 60 true [] (.call (kF 17) [])), (cQ 62 [60,61] (.pick (.t 60) (.t 61) (kB false))), (cMv 2 62)]) .ret)))))))))))))))))
def pu8 : List Nat := [1]
def rs8 : List RV := [.t 2]
theorem cc8 : comp Try.prog pu8 (Try.f8.ntmps, 0) 0 1 rc8 (Try.f8.body.getD .skip) = some rc8 := by kernel_rfl
theorem cb8 : Try.f8.body = some (Try.f8.body.getD .skip) := by kernel_rfl
theorem cs8 : resRV Try.prog Try.f8.results.toList = some rs8 := by kernel_rfl
theorem cn8 : 1 ≤ Try.f8.ntmps := by decide
end Go.C02
set_option linter.unusedSimpArgs false
set_option linter.unusedVariables false
namespace Go.C02
open Go.Fam Go.Proofs
section
variable (f : Fig) (l k : List Int) (n : Int)
theorem b29 : HB 29 [.ag (eFig f)] = (True, .b (farF f)) := z29 f
theorem b21 : HB 21 [.ag (eFig f)] = (Ok21 f, .ag (eFig f)) := z21 f
theorem b30 : HB 30 [.ag (eFig f)] = (f.starts.length < 10000000 ∧ f.times.length < 10000000, eNE (leastR f)) :=
  (show HB 30 _ = fnG (fun f => [.ag (eFig f)]) decF (fun f => f.starts.length < 10000000 ∧ f.times.length < 10000000) leastR eNE [.ag (eFig f)] from rfl).trans (fnG_at _ (dFig_e _))
theorem b20 : HB 20 [.ag (eFig f), .sl 1 (l.map eI)] = ((figCheck f = 0 ∧ pitchE f.dome true = 0) ∧ l.length < 10000000, .b (areR f l)) := y20 f l
theorem b33 : HB 3000033 [.ag (eFig f)] = (True, .u) := h33 f
theorem b33' (x : V) (bs : List V) : HB 4000033 [.tp (x :: bs), .ag (eFig f)] = (bs = [] ∧ ∃ o, x = begV f o ∧ (openE f true = 0 → BestOf (Begs (ringOf f) f.near) o), .u) := h33' f x bs
end
theorem Ok21.lens {f : Fig} (h : Ok21 f) : f.starts.length < 10000000 ∧ f.times.length < 10000000 := ⟨by have := h.s; omega, by have := h.t; omega⟩
end Go.C02
set_option maxRecDepth 8000
namespace Go.C02.N
open Go.Fam Go.Proofs
def rc8 : RC := (.seq (.reg false [(cX 1 0), (cQ 2 [] (.mv (kB false)))]) (.keep [1] (.seq (.seq (.reg false [(cLd 9 1 true 11), (cQ 10 [9] (.call (kF 29) [(.t 9)]))]) (.keep [1,10] (.cond (.t 10) (.seq (.reg false [(cQ 11 [] (.call (kF 17) [])), (cMv 2 11)]) .ret) .skip))) (.keep [1] (.seq (.crl false [(cLd 13 1 true 11), (cQ 14 [13] (.call (kF 21) [(.t 13)]))] ⟨(some 15), none, [14], none, .o (kF 33) [(.t 14)]⟩ [(cMv 12 15), (cEx 16 12 0), (cEx 17 12 1), (cMv 3 16), (cMv 4 17)]) (.keep [1,3,4] (.seq (.reg false [(cLd 19 1 true 11), (cQ 20 [19] (.call (kF 30) [(.t 19)])), (cMv 18 20), (cEx 21 18 0), (cEx 22 18 1), (cMv 5 21), (cMv 6 22)]) (.keep [1,3,4,5,6] (.seq (.seq (.reg true [(cMv 23 4), (cMv 24 6), (cB 25 .neq 23 24), (cMv 26 25), (gMv 27 26 false 4), (gQ 28 26 false [27] (.bin .neq (.t 27) (kI 0))), (cQ 29 [26,28] (.pick (.t 26) (kB true) (.t 28)))]) (.keep [1,3,4,5,6,29] (.cond (.t 29) (.seq (.reg true [(cMv 30 4), (cMv 31 6), (cB 32 .eql 30 31), (cMv 33 32), (gMv 34 33 true 3), (gQ 35 33 true [34] (.len (.t 34))), (gQ 36 33 true [35] (.bin .eql (.t 35) (kI 0))), (cQ 37 [33,36] (.pick (.t 33) (.t 36) (kB false))), (cMv 38 37), (gQ 39 38 true [] (.call (kF 17) [])), (cQ 40 [38,39] (.pick (.t 38) (.t 39) (kB false))), (cMv 2 40)]) .ret) .skip))) (.keep [1,3,5] (.seq (.seq (.reg false [(cLd 41 1 true 11), (cMv 42 3), (cQ 43 [41,42] (.call (kF 20) [(.t 41), (.t 42)])), (cN 44 43)]) (.keep [3,5,44] (.cond (.t 44) (.seq (.reg false [(cQ 2 [] (.mv (kB false)))]) .ret) .skip))) (.keep [3,5] (.seq (.reg false [(cI 7 0)]) (.keep [3,5,7] (.seq (.seq (.reg false [(cI 8 0)]) (.keep [3,5,7,8] (.block 0 (.loop [3,5,7,8] none (.seq (.seq (.reg false [(cMv 45 8), (cMv 46 3), (cLn 47 46), (cB 48 .lss 45 47)]) (.keep [3,5,7,8,48] (.cond (.t 48) .skip (.exit 0)))) (.keep [3,5,7,8] (.seq (.block 1 (.reg false [(cMv 51 7), (cMv 52 3), (cMv 53 8), (cA 54 1 52 53), (cLd 55 54 false 1), (cB 56 .add 51 55), (cMv 7 56)])) (.keep [3,5,7,8] (.reg false [(cMv 49 8), (cC 50 .add 49 1), (cMv 8 50)]))))))))) (.keep [5,7] (.seq (.reg true [(cMv 57 7), (cMv 58 5), (cB 59 .eql 57 58), (cMv 60 59), (gQ 61 60 true [] (.call (kF 17) [])), (cQ 62 [60,61] (.pick (.t 60) (.t 61) (kB false))), (cMv 2 62)]) .ret)))))))))))))))))
def pu8 : List Nat := [1]
def rs8 : List RV := [.t 2]
theorem cc8 : comp Try.prog pu8 (Try.f8.ntmps, 0) 0 1 rc8 (Try.f8.body.getD .skip) = some rc8 := by kernel_rfl
theorem cb8 : Try.f8.body = some (Try.f8.body.getD .skip) := by kernel_rfl
theorem cs8 : resRV Try.prog Try.f8.results.toList = some rs8 := by kernel_rfl
theorem cn8 : 1 ≤ Try.f8.ntmps := by decide
end Go.C02.N
set_option linter.unusedSimpArgs false
set_option linter.unusedVariables false
namespace Go.C02
open Go.Fam Go.Proofs
theorem are_iff {f : Fig} (h : figCheck f = 0) (l : List Int) : areR f l = true ↔ NB (ringOf f) f.near l := by
  rw [← isB_iff h]
  unfold areR IsB
  rw [allN_eq, Ql, Ql, decide_eq_true_eq, List.all_eq_true]
  simp only [within, Ql, decide_eq_true_eq]
  constructor
  · rintro ⟨⟨h1, h2⟩, h3⟩
    exact ⟨h1, fun x hx => by have := h2 x hx; omega, h3⟩
  · rintro ⟨h1, h2, h3⟩
    exact ⟨⟨h1, fun x hx => by have := h2 x hx; omega⟩, h3⟩
end Go.C02
set_option linter.unusedSimpArgs false
set_option linter.unusedVariables false
namespace Go.C02
open Go.Fam Go.Proofs
theorem isB_bounds {f : Fig} (h : figCheck f = 0) {l : List Int} (hl : NB (ringOf f) f.near l) : l.length ≤ 16 ∧ ∀ x ∈ l, 0 ≤ x ∧ x < 60 := by
  have hlen := (okR_of h).len
  have hp := (validF_of h).period
  have := hl.len
  exact ⟨by omega, fun x hx => by have h2 : 0 ≤ x ∧ x < f.period := hl.in_ x hx; omega⟩
theorem P8 (f : Fig) : PureCall Try.prog 8 [.ag (eFig f)] (.b true) := by
  refine pure_body okHB hmix Try.func8 N.cb8 N.cc8 N.cs8 N.cn8 ?_
  have g1 := b29 f
  have g2 := b21 f
  have g3 := b30 f
  have g4 := b33 f
  have g5 := b33' f
  have g9 := b17
  simp only [eFig, eNE] at g1 g2 g3 g4 g5
  cases hf : farF f with
  | true => simp only [N.rc8, N.rs8, g1, g9, hf, ru_reg, ru_seq, ru_cnd, ru_ret, ru_keep, thenQ, run_nil, run_cons, Fam.step, stepQ, evO, opv, qv, ldV, callV, V.cells, solid, hasRef, hasRefL, flat, upd_some, lkp_cons, lkp_nil, ↓reduceIte, Nat.reduceEqDiff, Nat.reduceAdd, Nat.reduceLT, Nat.reduceLeDiff, Qi, Qc, Qb, Qd, Qq, List.take_nil, Qn, endQ, rvs, rv1, resV, vw_i, vw_b, vw_sl, vw_ag, zipA, Qh, Bool.or_false, Qa, and_self, implies_true, eFig]
  | false =>
    have h21 := farRing_ok (farF_ring hf)
    obtain ⟨hs, ht⟩ := h21.lens
    simp only [N.rc8, N.rs8, g1, g2, g4, g5, g9, hf, h21, ru_skip, ru_reg, ru_seq, ru_cnd, ite_P, ru_block, ru_ret, ru_keep, ru_crl, thenQ, run_nil, run_cons, Fam.step, stepQ, needQ, needW, condB, ug, evO, opv, qv, binV, ldV, lenV, callV, V.cells, solid, hasRef, hasRefL, flat, flatL, upd_some, lkp_cons, lkp_nil, ↓reduceIte, Nat.reduceEqDiff, Nat.reduceAdd, Nat.reduceLT, Nat.reduceLeDiff, Qi, Qc, List.all_cons, List.all_nil, Qb, Qd, Qq, List.take_nil, List.nil_append, Qn, endQ, rvs, rv1, resV, vw_i, vw_b, vw_sl, vw_ag, zipA, Qh, V.b.injEq, Qj, Bool.and_true, Bool.and_false, Bool.or_false, Bool.false_or, Qa, true_and, and_true, and_self, and_false, false_implies, implies_true, beq_true, beq_false, imp_self, Qs, Bool.not_eq_true, eFig]
    rintro r bs ⟨rfl, o, rfl, hb⟩
    by_cases he : openE f true = 0
    case neg =>
      have hle : leastR f = (0, openE f true) := by unfold leastR; rw [if_neg he]
      rw [hle] at g3
      simp only [begV, g3, hs, ht, he, eq_self, Qm, shV, shL, pickV_bb, hasRef, ↓reduceIte, Nat.reduceAdd, Nat.reduceLT, Qc, Qb, Qd, Qf, Qg, Qe, vw_b, vw_sl, Qh, Qj, Qr, Qp, Qa, Qk, decide_true, decide_false, and_true, and_self, forall_const, false_implies]
    have hb := hb he
    obtain ⟨h1, _, hp⟩ := openE_ok he
    have hbi := fun l => begs_iff (okR_of h1) f.near l
    have hle := leastB_eq hb
    cases o with
    | none =>
      have hle : leastR f = (0, 3) := by unfold leastR; rw [if_pos he, hle]; rfl
      rw [hle] at g3
      simp only [begV, g3, hs, ht, he, eq_self, Option.isSome_none, Qt, Qm, shV, shL, pickV_bb, hasRef, ↓reduceIte, Nat.reduceAdd, Nat.reduceLT, Int.reduceEq, Qc, Qb, Qd, Qf, Qg, Qe, Qt, vw_b, vw_sl, Qh, Qj, Qr, Qp, Qa, Qk, decide_true, decide_false, and_true, and_self, forall_const, false_implies]
    | some l =>
      have hle : leastR f = (l.sum, 0) := by unfold leastR; rw [if_pos he, hle]; rfl
      rw [hle] at g3
      have hnb := (hbi l).1 hb.1
      have ha := (are_iff h1 l).2 hnb
      obtain ⟨c1, c2⟩ := isB_bounds h1 hnb
      have g6 := b20 f l
      simp only [eFig] at g6
      have hll : l.length < 10000000 := by omega
      simp only [begV, g3, hs, ht, he, eq_self, Option.isSome_some, Qe, g6, h1, hp, hll, ha, shV, shL, pickV_bb, hasRef, flat, ↓reduceIte, Nat.reduceAdd, Nat.reduceLT, Qc, Qb, Qd, Qf, Qg, Qe, vw_b, vw_sl, Qh, V.b.injEq, Qj, Bool.and_true, Qr, Qp, Qa, decide_true, decide_eq_true_eq, true_and, and_self, forall_const, false_implies, implies_true, ite_f, imp_self, Qo]
      refine ru_count l.length (fun i => ⟨lkp [(3, .sl 1 (l.map eI)), (5, .i l.sum), (7, .i (l.take i).sum), (8, .i i)], []⟩) ?_ ?_ ?_
      · simp only [Qm, List.sum_nil, kp, lkp_cons, lkp_nil, ↓reduceIte, Nat.reduceEqDiff, Qi, Qc, List.take_zero]
      · intro i hi
        obtain ⟨x, hx⟩ : ∃ x, l[i]? = some x := ⟨_, List.getElem?_eq_getElem hi⟩
        have hlt : (i : Int) < l.length := by omega
        have h3 : inI ((i : Int) + 1) := by unfold inI; omega
        have h4 := sum_le (l := l) (fun x hx => (c2 x hx).1) (i + 1)
        have h5 := sum_le_mul (l := l) (b := 60) fun x hx => by have := c2 x hx; omega
        rw [sum_take hx] at h4
        have h6 : inI ((l.take i).sum + x) := by unfold inI; omega
        simp only [hx, hlt, h3, h6, sum_take hx, Int.natCast_add, Int.natCast_one, ru_skip, ru_reg, ru_seq, ru_cnd, ru_block, ru_keep, thenQ, blockQ, run_nil, run_cons, Fam.step, stepQ, evO, opv, qv, binV, ldV, iadV, lenV, kp, upd_some, lkp_cons, lkp_nil, ↓reduceIte, Nat.reduceEqDiff, Nat.reduceLeDiff, Qi, Qc, Qb, Qd, List.headD_cons, Qe, Int.natCast_nonneg, Qh, Qa, decide_true, and_self, Option.map_some, Qo, Int.toNat_natCast, List.getD_eq_getElem?_getD, Qs, eI]
      · simp only [List.take_length, Int.lt_irrefl, g9, eq_self, ru_reg, ru_seq, ru_cnd, ru_exit, ru_ret, ru_keep, thenQ, blockQ, run_nil, run_cons, Fam.step, stepQ, needQ, condB, ug, evO, opv, qv, pickV_bb, binV, lenV, callV, hasRefL, flat, upd_some, lkp_cons, lkp_nil, ↓reduceIte, Nat.reduceEqDiff, Nat.reduceLT, Qi, Qc, List.all_cons, List.all_nil, Qn, endQ, rvs, rv1, resV, vw_b, Int.lt_irrefl, beq_self_eq_true, Qj, Qa, Qk, decide_true, decide_false, and_self, forall_const, implies_true, Qo]
end Go.C02
