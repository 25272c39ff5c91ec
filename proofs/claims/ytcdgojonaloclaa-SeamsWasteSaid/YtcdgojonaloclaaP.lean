import Derived.Test.YtcdgojonaloclaaG3
import Derived.Test.YtcdgojonaloclaaChecked
import Derived.Test.YtcdgojonaloclaaG9
set_option linter.all false
open List renaming take_succ_cons → Qa, length_cons → Qc, length_nil → Qd, append_nil → Qe
open Bool renaming false_eq_true → Qb
set_option maxRecDepth 8000
namespace Go.C02
open Go.Fam Go.Proofs
def rc7 : RC := (.seq (.reg false [(cX 1 0), (cQ 2 [] (.mv (kB false)))]) (.keep [1] (.seq (.seq (.reg false [(cLd 12 1 true 11), (cQ 13 [12] (.call (kF 29) [(.t 12)]))]) (.keep [1,13] (.cond (.t 13) (.seq (.reg false [(cQ 14 [] (.call (kF 17) [])), (cMv 2 14)]) .ret) .skip))) (.keep [1] (.seq (.reg false [(cLd 15 1 true 11), (cQ 16 [15] (.call (kF 21) [(.t 15)])), ⟨(some 3), none, [], none, .w (.alc [(.z 4), (.z 1), (.i 0), (.z 2), (.z 1), (.i 0), (.i 0), (.i 0), (.i 0), (.z 1), (.z 1)])⟩, ⟨none, none, [3,16], none, .w (.st 11 (.t 3) (.t 16))⟩]) (.keep [1,3] (.seq (.reg false [(cLd 18 3 true 11), (cQ 19 [18] (.call (kF 18) [(.t 18)])), (cMv 17 19), (cEx 20 17 0), (cEx 21 17 1), (cMv 4 20), (cMv 5 21)]) (.keep [1,3,4,5] (.seq (.reg false [(cLd 23 1 true 11), (cQ 24 [23] (.call (kF 30) [(.t 23)])), (cMv 22 24), (cEx 25 22 0), (cEx 26 22 1), (cMv 6 25), (cMv 7 26)]) (.keep [1,3,4,5,6,7] (.seq (.reg false [(cLd 28 3 true 11), (cQ 29 [28] (.call (kF 22) [(.t 28)])), (cMv 27 29), (cEx 30 27 0), (cEx 31 27 1), (cMv 8 30), (cMv 9 31)]) (.keep [1,3,4,5,6,7,8,9] (.seq (.reg false [(cLd 33 1 true 11), (cQ 34 [33] (.call (kF 31) [(.t 33)])), (cMv 32 34), (cEx 35 32 0), (cEx 36 32 1), (cMv 10 35), (cMv 11 36)]) (.keep [1,3,4,5,6,7,8,9,10,11] (.seq (.reg true [(cMv 37 4), (cMv 38 6), (cB 39 .eql 37 38), (cMv 40 39), (gMv 41 40 true 5), (gMv 42 40 true 7), (gQ 43 40 true [41,42] (.bin .eql (.t 41) (.t 42))), (cQ 44 [40,43] (.pick (.t 40) (.t 43) (kB false))), (cMv 45 44), (gMv 46 45 true 8), (gMv 47 45 true 10), (gQ 48 45 true [46,47] (.bin .eql (.t 46) (.t 47))), (cQ 49 [45,48] (.pick (.t 45) (.t 48) (kB false))), (cMv 50 49), (gMv 51 50 true 9), (gMv 52 50 true 11), (gQ 53 50 true [51,52] (.bin .eql (.t 51) (.t 52))), (cQ 54 [50,53] (.pick (.t 50) (.t 53) (kB false))), (cMv 55 54), (gQ 56 55 true [3] (.fad 9 (.t 3))), (gQ 57 55 true [56] (.ld false 1 (.t 56))), (gQ 58 55 true [1] (.fad 9 (.t 1))), (gQ 59 55 true [58] (.ld false 1 (.t 58))), (gQ 60 55 true [57,59] (.call (kF 32) [(.t 57), (.t 59)])), (cQ 61 [55,60] (.pick (.t 55) (.t 60) (kB false))), (cMv 62 61), (gQ 63 62 true [] (.call (kF 17) [])), (cQ 64 [62,63] (.pick (.t 62) (.t 63) (kB false))), (cMv 2 64)]) .ret)))))))))))))))
def pu7 : List Nat := [1]
def rs7 : List RV := [.t 2]
theorem cc7 : comp Try.prog pu7 (Try.f7.ntmps, 0) 0 1 rc7 (Try.f7.body.getD .skip) = some rc7 := by kernel_rfl
theorem cb7 : Try.f7.body = some (Try.f7.body.getD .skip) := by kernel_rfl
theorem cs7 : resRV Try.prog Try.f7.results.toList = some rs7 := by kernel_rfl
theorem cn7 : 1 ≤ Try.f7.ntmps := by decide
end Go.C02
set_option linter.unusedSimpArgs false
set_option linter.unusedVariables false
namespace Go.C02
open Go.Fam Go.Proofs
section
variable (f : Fig) (l k : List Int) (n : Int)
theorem b18 : HB 18 [.ag (eFig f)] = (True, eNE (leastR f)) := y18 f
theorem b22 : HB 22 [.ag (eFig f)] = (True, eNE (closestR f)) := y22 f
theorem b29 : HB 29 [.ag (eFig f)] = (True, .b (farF f)) := z29 f
theorem b21 : HB 21 [.ag (eFig f)] = (Ok21 f, .ag (eFig f)) := z21 f
theorem b30 : HB 30 [.ag (eFig f)] = (f.starts.length < 10000000 ∧ f.times.length < 10000000, eNE (leastR f)) :=
  (show HB 30 _ = fnG (fun f => [.ag (eFig f)]) decF (fun f => f.starts.length < 10000000 ∧ f.times.length < 10000000) leastR eNE [.ag (eFig f)] from rfl).trans (fnG_at _ (dFig_e _))
theorem b31 : HB 31 [.ag (eFig f)] = (f.starts.length < 10000000 ∧ f.times.length < 10000000, eNE (closestR f)) :=
  (show HB 31 _ = fnG (fun f => [.ag (eFig f)]) decF (fun f => f.starts.length < 10000000 ∧ f.times.length < 10000000) closestR eNE [.ag (eFig f)] from rfl).trans (fnG_at _ (dFig_e _))
theorem b32 : HB 32 [.sl 1 (l.map eI), .sl 1 (k.map eI)] = (l.length < 10000000, .b (decide (l = k))) := z32 l k
end
theorem Ok21.lens {f : Fig} (h : Ok21 f) : f.starts.length < 10000000 ∧ f.times.length < 10000000 := ⟨by have := h.s; omega, by have := h.t; omega⟩
set_option maxRecDepth 20000 in
set_option maxHeartbeats 4000000 in
theorem P7 (f : Fig) : PureCall Try.prog 7 [.ag (eFig f)] (.b true) := by
  refine pure_body okHB hmix Try.func7 cb7 cc7 cs7 cn7 ?_
  have g1 := b29 f
  have g2 := b21 f
  have g3 := b18 f
  have g4 := b30 f
  have g5 := b22 f
  have g6 := b31 f
  have g9 := b17
  simp only [eFig, eNE] at g1 g2 g3 g4 g5 g6
  cases hf : farF f with
  | true => simp only [rc7, rs7, g1, g9, hf, ru_reg, ru_seq, ru_cnd, ru_ret, ru_keep, thenQ, run_nil, run_cons, Fam.step, stepQ, evO, opv, qv, ldV, callV, V.cells, solid, hasRef, hasRefL, flat, upd_some, lkp_cons, lkp_nil, ↓reduceIte, Nat.reduceEqDiff, Nat.reduceAdd, Nat.reduceLT, Nat.reduceLeDiff, List.map_cons, List.map_nil, Qc, Qd, Qa, List.take_nil, Qe, endQ, rvs, rv1, resV, vw_i, vw_b, vw_sl, vw_ag, zipA, Nat.zero_add, Bool.or_false, Qb, and_self, implies_true, eFig]
  | false =>
    have h21 := farRing_ok (farF_ring hf)
    obtain ⟨hs, ht⟩ := h21.lens
    simp only [rc7, rs7, g1, g2, g3, g4, g5, g6, g9, b32, eq_self, hf, h21, hs, ht, ru_skip, ru_reg, ru_seq, ru_cnd, ru_ret, ru_keep, putB, thenQ, run_nil, run_cons, Fam.step, stepQ, stepW, needQ, needW, condB, ug, putB, nv, sv, evO, opv, qv, pickV_bb, binV, ldV, curG, callV, putAt, V.cells, solid, cellOk, hasRef, hasRefL, flat, flatL, upd_some, upd_none, lkp_cons, lkp_nil, ↓reduceIte, Nat.reduceEqDiff, Nat.reduceAdd, Nat.reduceLT, Nat.reduceLeDiff, List.map_cons, List.map_nil, List.all_cons, List.all_nil, Qc, Qd, List.drop_succ_cons, List.drop_zero, List.drop_nil, Qa, List.take_zero, List.take_nil, List.headD_cons, List.nil_append, Qe, List.getElem?_cons_zero, List.getElem?_cons_succ, Option.getD_some, List.set_cons_zero, endQ, rvs, rv1, resV, vw_i, vw_b, vw_sl, vw_ag, zipA, beq_self_eq_true, Nat.zero_add, Bool.and_self, Bool.and_true, Bool.and_false, Bool.or_false, Qb, Bool.true_eq_false, decide_true, and_self, forall_const, implies_true, imp_self, eFig]
end Go.C02
