import Derived.Test.YtcdgojonaloclaaG3
import Derived.Test.YtcdgojonaloclaaChecked
import Derived.Test.YtcdgojonaloclaaG9
set_option linter.all false
open List renaming map_cons → Qa, map_nil → Qb, length_map → Qd, length_cons → Qe, getElem?_eq_getElem → Qf, length_nil → Qg, append_nil → Qh, take_succ_cons → Qm, all_nil → Qn, all_cons → Qp, getD_eq_getElem?_getD → Qr, cons_append → Qs, replicate_zero → Qt, nil_append → Qw, getElem?_cons_zero → Qx, getElem?_cons_succ → Qy, all_eq_true → Q3, take_nil → Q4, headD_cons → Q8, take_zero → Za, getElem?_nil → Zd, contains_nil → Ze, getElem?_map → Zf, isEmpty_nil → Zh, take_length → Zi, drop_zero → Zj, mem_of_getElem? → Zl, drop_succ_cons → Zm, set_cons_zero → Zn, pairwise_cons → Zo, any_nil → Zp, mem_range → Zs
open Nat renaming zero_add → Qi
open Bool renaming false_eq_true → Qc, and_self → Qk, or_false → Ql, true_eq_false → Qo, and_true → Qq, not_true → Qu, not_eq_true' → Qz, not_false → Q0, false_and → Zk, and_eq_true → Zq, and_false → Zr
open Option renaming getD_some → Qj, map_some → Q5, getD_none → Zg
open Int renaming lt_irrefl → Qv, toNat_natCast → Q1, natCast_zero → Q2, natCast_add → Q6, natCast_one → Q7, le_trans → Q9, natCast_nonneg → Zb, tdiv_eq_ediv_of_nonneg → Zc
set_option maxRecDepth 8000
namespace Go.C02
open Go.Fam Go.Proofs
def rc15 : RC := (.seq (.reg false [(cX 1 0), (cQ 2 [] (.mv (kB false)))]) (.keep [1] (.seq (.seq (.reg true [(cLd 20 1 true 11), (cQ 21 [20] (.call (kF 29) [(.t 20)])), (cMv 22 21), (gQ 23 22 false [1] (.ld true 11 (.t 1))), (gQ 24 22 false [23] (.call (kF 36) [(.t 23)])), (gQ 25 22 false [24] (.bin .neq (.t 24) (kI 0))), (cQ 26 [22,25] (.pick (.t 22) (kB true) (.t 25)))]) (.keep [1,26] (.cond (.t 26) (.seq (.reg false [(cQ 27 [] (.call (kF 44) [])), (cMv 2 27)]) .ret) .skip))) (.keep [1] (.seq (.reg false [(cFa 29 1 0), (cLd 30 29 true 6), (cQ 31 [30] (.call (kF 47) [(.t 30)])), (cMv 28 31), (cEx 32 28 0), (cEx 33 28 1), (cMv 3 32), (cMv 4 33)]) (.keep [1,3,4] (.seq (.seq (.reg false [(cMv 34 4), (cC 35 .neq 34 0)]) (.keep [1,3,4,35] (.cond (.t 35) (.seq (.reg true [(cMv 36 4), (cC 37 .eql 36 3), (cMv 38 37), (gQ 39 38 true [] (.call (kF 44) [])), (cQ 40 [38,39] (.pick (.t 38) (.t 39) (kB false))), (cMv 2 40)]) .ret) .skip))) (.keep [1,3] (.seq (.seq (.reg false [(cMv 41 3), (cLn 42 41), (cFa 43 1 0), (cFa 44 43 4), (cLd 45 44 false 1), (cLn 46 45), (cB 47 .neq 42 46)]) (.keep [1,3,47] (.cond (.t 47) (.seq (.reg false [(cQ 2 [] (.mv (kB false)))]) .ret) .skip))) (.keep [1,3] (.seq (.reg false [(cLd 48 1 true 11), (cQ 49 [48] (.call (kF 21) [(.t 48)])), ⟨(some 5), none, [], none, .w (.alc [(.z 4), (.z 1), (.i 0), (.z 2), (.z 1), (.i 0), (.i 0), (.i 0), (.i 0), (.z 1), (.z 1)])⟩, ⟨none, none, [5,49], none, .w (.st 11 (.t 5) (.t 49))⟩]) (.keep [1,3,5] (.seq (.reg false [⟨(some 50), none, [], none, .w (.bso 1 0 [(.i 0)] [])⟩, (cMv 51 3), ⟨(some 52), none, [50,51], none, .w (.app 1 (.t 50) (.t 51))⟩, (cFa 53 5 0), (cFa 54 53 4), ⟨none, none, [54,52], none, .w (.st 1 (.t 54) (.t 52))⟩]) (.keep [1,5] (.seq (.seq (.reg false [(cLd 55 5 true 11), (cQ 56 [55] (.call (kF 25) [(.t 55)])), (cC 57 .neq 56 0)]) (.keep [1,5,57] (.cond (.t 57) (.seq (.reg false [(cQ 2 [] (.mv (kB false)))]) .ret) .skip))) (.keep [1,5] (.seq (.reg false [(cFa 59 5 0), (cLd 60 59 true 6), (cQ 61 [60] (.call (kF 45) [(.t 60)])), (cMv 58 61), (cEx 62 58 0), (cEx 63 58 1), (cMv 6 62), (cMv 7 63)]) (.keep [1,5,6,7] (.seq (.reg false [(cLd 65 1 true 11), (cQ 66 [65] (.call (kF 19) [(.t 65)])), (cMv 64 66), (cEx 67 64 0), (cEx 68 64 1), (cMv 8 67), (cMv 9 68)]) (.keep [1,5,6,7,8,9] (.seq (.reg false [(cLd 70 5 true 11), (cQ 71 [70] (.call (kF 19) [(.t 70)])), (cMv 69 71), (cEx 72 69 0), (cEx 73 69 1), (cMv 10 72), (cMv 11 73)]) (.keep [1,5,6,7,8,9,10,11] (.seq (.reg false [(cLd 75 1 true 11), (cQ 76 [75] (.call (kF 18) [(.t 75)])), (cMv 74 76), (cEx 77 74 0), (cEx 78 74 1), (cMv 12 77), (cMv 13 78)]) (.keep [1,5,6,7,8,9,10,11,12,13] (.seq (.reg false [(cLd 80 5 true 11), (cQ 81 [80] (.call (kF 18) [(.t 80)])), (cMv 79 81), (cEx 82 79 0), (cEx 83 79 1), (cMv 14 82), (cMv 15 83)]) (.keep [1,5,6,7,8,9,10,11,12,13,14,15] (.seq (.reg false [(cLd 85 1 true 11), (cQ 86 [85] (.call (kF 22) [(.t 85)])), (cMv 84 86), (cEx 87 84 0), (cEx 88 84 1), (cMv 16 87), (cMv 17 88)]) (.keep [5,6,7,8,9,10,11,12,13,14,15,16,17] (.seq (.reg false [(cLd 90 5 true 11), (cQ 91 [90] (.call (kF 22) [(.t 90)])), (cMv 89 91), (cEx 92 89 0), (cEx 93 89 1), (cMv 18 92), (cMv 19 93)]) (.keep [6,7,8,9,10,11,12,13,14,15,16,17,18,19] (.seq (.reg true [(cMv 94 7), (cC 95 .eql 94 0), (cMv 96 95), (gMv 97 96 true 6), (gQ 98 96 true [97] (.len (.t 97))), (gQ 99 96 true [98] (.bin .eql (.t 98) (kI 0))), (cQ 100 [96,99] (.pick (.t 96) (.t 99) (kB false))), (cMv 101 100), (gMv 102 101 true 8), (gMv 103 101 true 10), (gQ 104 101 true [102,103] (.call (kF 48) [(.t 102), (.t 103)])), (cQ 105 [101,104] (.pick (.t 101) (.t 104) (kB false))), (cMv 106 105), (gMv 107 106 true 9), (gMv 108 106 true 11), (gQ 109 106 true [107,108] (.bin .eql (.t 107) (.t 108))), (cQ 110 [106,109] (.pick (.t 106) (.t 109) (kB false))), (cMv 111 110), (gMv 112 111 true 12), (gMv 113 111 true 14), (gQ 114 111 true [112,113] (.bin .eql (.t 112) (.t 113))), (cQ 115 [111,114] (.pick (.t 111) (.t 114) (kB false))), (cMv 116 115), (gMv 117 116 true 13), (gMv 118 116 true 15), (gQ 119 116 true [117,118] (.bin .eql (.t 117) (.t 118))), (cQ 120 [116,119] (.pick (.t 116) (.t 119) (kB false))), (cMv 121 120), (gMv 122 121 true 16), (gMv 123 121 true 18), (gQ 124 121 true [122,123] (.bin .eql (.t 122) (.t 123))), (cQ 125 [121,124] (.pick (.t 121) (.t 124) (kB false))), (cMv 126 125), (gMv 127 126 true 17), (gMv 128 126 true 19), (gQ 129 126 true [127,128] (.bin .eql (.t 127) (.t 128))), (cQ 130 [126,129] (.pick (.t 126) (.t 129) (kB false))), (cMv 131 130), (gQ 132 131 true [] (.call (kF 44) [])), (cQ 133 [131,132] (.pick (.t 131) (.t 132) (kB false))), (cMv 2 133)]) .ret)))))))))))))))))))))))))))))))
def pu15 : List Nat := [1]
def rs15 : List RV := [.t 2]
theorem cc15 : comp Try.prog pu15 (Try.f15.ntmps, 0) 0 1 rc15 (Try.f15.body.getD .skip) = some rc15 := by kernel_rfl
theorem cb15 : Try.f15.body = some (Try.f15.body.getD .skip) := by kernel_rfl
theorem cs15 : resRV Try.prog Try.f15.results.toList = some rs15 := by kernel_rfl
theorem cn15 : 1 ≤ Try.f15.ntmps := by decide
end Go.C02
set_option linter.unusedSimpArgs false
set_option linter.unusedVariables false
namespace Go.C02
open Go.Fam Go.Proofs
section
variable (f : Fig) (l k : List Int) (n : Int)
theorem b18 : HB 18 [.ag (eFig f)] = (True, eNE (leastR f)) := y18 f
theorem b22 : HB 22 [.ag (eFig f)] = (True, eNE (closestR f)) := y22 f
theorem b19 : HB 19 [.ag (eFig f)] = (True, eLE (badR f)) := y19 f
theorem b25 : HB 25 [.ag (eFig f)] = (f.starts.length < 10000000 ∧ f.times.length < 10000000, .i (figCheck f)) := q25 f
theorem b29 : HB 29 [.ag (eFig f)] = (True, .b (farF f)) := z29 f
theorem b21 : HB 21 [.ag (eFig f)] = (Ok21 f, .ag (eFig f)) := z21 f
theorem b36 : HB 36 [.ag (eFig f)] = (f.starts.length < 10000000 ∧ f.times.length < 10000000, .i (openE f true)) := z36 f
end
theorem Ok21.lens {f : Fig} (h : Ok21 f) : f.starts.length < 10000000 ∧ f.times.length < 10000000 := ⟨by have := h.s; omega, by have := h.t; omega⟩
theorem bad_len (f : Fig) : (badR f).1.length ≤ f.dome.gores.length := by
 unfold badR
 split
 ·exact badTo_len _ _
 ·simp
end Go.C02
set_option maxRecDepth 8000
namespace Go.C02.N
open Go.Fam Go.Proofs
end Go.C02.N
set_option linter.unusedSimpArgs false
set_option linter.unusedVariables false
namespace Go.C02
open Go.Fam Go.Proofs
end Go.C02
set_option linter.unusedSimpArgs false
set_option linter.unusedVariables false
namespace Go.C02
open Go.Fam Go.Proofs
end Go.C02
set_option linter.unusedSimpArgs false
set_option linter.unusedVariables false
namespace Go.C02
open Go.Fam Go.Proofs
end Go.C02
set_option linter.unusedSimpArgs false
set_option linter.unusedVariables false
namespace Go.C02
open Go.Fam Go.Proofs
theorem fl_I (l : List Int) : (l.map eI).flatten = l.map V.i := by
 induction l with
 | nil => rfl
 | cons a l ih => rw [Qa, List.flatten_cons, ih]; rfl
theorem nr_i (o : List Int) : hasRefL (o.map V.i) = false := by induction o <;> simp_all [hasRefL, hasRef]
end Go.C02
set_option linter.unusedSimpArgs false
set_option linter.unusedVariables false
namespace Go.C02
open Go.Fam Go.Proofs
theorem e47 (d : Dome) : HB 47 [.ag (eDome d)] = (True, eLE (curveR d)) :=
 (show HB 47 _ = r33 [.ag (eDome d)] from rfl).trans (fnG_at _ (dDome_e _))
theorem e45 (d : Dome) : HB 45 [.ag (eDome d)] = (True, eLE (looseR d)) :=
 (show HB 45 _ = r26 [.ag (eDome d)] from rfl).trans (fnG_at _ (dDome_e _))
theorem e77 (d : Dome) (n : Int) : HB 77 [.ag (eDome d), .i n] = (d.rounds.length < 1000, eSE (roundR d n)) :=
 (show HB 77 _ = r23 (eDN (d, n)) from rfl).trans (fnG_at _ (dDN_e _))
theorem e78 : HB 78 [] = (True, .ag (eDome exD)) := z78
theorem e49 : HB 49 [] = (True, .ag (eFig exF)) := y49
theorem exD_round : roundR exD 2 = (⟨802, 808⟩, 0) := by kernel_rfl
theorem eqSpan4 : EqFlat Try.prog 50 2 := EqFlat.of (fs := _) (show Try.prog.underlying 50 = some (.struct (Try.prog.fieldsOf 50)) by kernel_rfl) (by kernel_rfl) (by kernel_rfl)
theorem W44 : PureCall Try.prog 44 [] (.b true) := by
 refine pure_body okHB hmix Try.func44 cb44 cc44 cs44 cn44 ?_
 have g1 := e78
 have g2 := e77 exD 2
 have g3 := e49
 have g4 := b22 exF
 rw [exF_closed] at g4
 rw [exD_round] at g2
 have hr : exD.rounds.length < 1000 := by decide
 have g2 := g2.trans (congrArg (fun p => (p, _)) (eq_true hr))
 simp only [eFig, exF, eNE, Qa, Qb, eI] at g3 g4
 simp only [eDome, eSE, eSpan] at g1 g2
 simp only [rc44, rs44, g1, g2, g3, g4, eqSpan4, ru_reg, ru_seq, ru_ret, ru_keep, putB, thenQ, run_nil, run_cons, Fam.step, stepQ, stepW, needQ, needW, condB, ug, putB, nv, sv, evO, opv, qv, pickV_bb, binV, ldV, callV, foldParts, putAt, partsOk, V.cells, solid, cellOk, intsOf, hasRef, hasRefL, flat, flatL, upd_some, upd_none, lkp_cons, lkp_nil, ↓reduceIte, Nat.reduceEqDiff, Nat.reduceAdd, Nat.reduceLT, Nat.reduceLeDiff, Qa, Qb, Qp, Qn, Qe, Qg, Zm, Zj, List.drop_nil, Qm, Za, Q4, Qs, Qw, Qh, Qx, Qy, Qj, Zn, endQ, rvs, rv1, resV, vw_i, vw_b, vw_sl, vw_ag, zipA, beq_self_eq_true, Qi, V.b.injEq, Qk, Qq, Zr, Ql, Qc, Qo, decide_true, true_and, and_true, and_self, forall_const, implies_true, Q5, beq_true, ite_f, Bool.decide_eq_true, imp_self]
 rfl
theorem W48 (a b : List Int) (h : a.length < 10000000) : PureCall Try.prog 48 [.sl 1 (a.map eI), .sl 1 (b.map eI)] (.b (decide (a = b))) := by
 refine pure_body okHB hmix Try.func48 cb48 cc48 cs48 cn48 ?_
 simp only [rc48, rs48, ru_skip, ru_reg, ru_seq, ru_cnd, ite_P, ru_block, ru_ret, ru_keep, thenQ, run_nil, run_cons, Fam.step, stepQ, evO, opv, qv, binV, lenV, upd_some, lkp_cons, lkp_nil, ↓reduceIte, Nat.reduceEqDiff, Qa, Qb, endQ, rvs, rv1, resV, vw_b, zipA, Qi, V.b.injEq, decide_eq_false_iff_not, true_and, and_self, reduceCtorEq, Qz, Qd, Classical.not_not]
 refine ⟨fun e => ?_, fun e => ?_⟩
 ·have : ¬ a = b := fun h => e (by rw [h])
  rw [decide_eq_false this]
 have e : a.length = b.length := by omega
 refine ru_countC a.length (fun i => ⟨lkp [(0, .sl 1 (a.map eI)), (1, .sl 1 (b.map eI)), (5, .i i)], []⟩) (fun i => a.take i = b.take i) ?_ rfl ?_ ?_
 ·simp only [Q2, kp, lkp_cons, lkp_nil, ↓reduceIte, Nat.reduceEqDiff, Qa, Qb, reduceCtorEq]
 ·intro i hi hC
  obtain ⟨x, hx⟩ : ∃ x, a[i]? = some x := ⟨_, Qf hi⟩
  obtain ⟨y, hy⟩ : ∃ y, b[i]? = some y := ⟨_, Qf (by omega)⟩
  have hlt : (i : Int) < a.length := by omega
  have hlt2 : (i : Int) < b.length := by omega
  have h3 : inI ((i : Int) + 1) := by unfold inI; omega
  simp only [hx, hy, hlt, hlt2, h3, Q6, Q7, ru_skip, ru_reg, ru_any, ru_seq, ru_cnd, ite_P, ru_block, ru_ret, ru_keep, putBs, thenQ, blockQ, run_nil, run_cons, Fam.step, stepQ, runX, eff, nextD, fpR, fpQ, fpV, disjB, hits, evO, opv, qv, binV, ldV, iadV, lenV, kp, upd_some, lkp_cons, lkp_nil, ↓reduceIte, Nat.reduceEqDiff, Nat.reduceLeDiff, Qa, Qb, Qn, Qe, Qg, Q8, Qs, Qw, Qh, Zd, Qj, Zg, Qt, Zh, endQ, rvs, rv1, resV, vw_b, Zb, Qi, V.b.injEq, Qk, Qq, Zk, Ql, Qu, Q0, Qc, decide_true, decide_eq_false_iff_not, true_and, and_true, and_self, reduceCtorEq, Q5, Zp, Ze, Qz, Qd, Q1, Qr, Zf, Classical.not_not, eI]
  refine ⟨fun e1 => ?_, fun e1 => ?_⟩
  ·have : ¬ a = b := fun h => e1 (by rw [h, hy] at hx; exact (Option.some.inj hx).symm)
   rw [decide_eq_false this]
  ·rw [take_succ_of hx, take_succ_of hy, hC, e1]
 ·intro hC
  have : a = b := by
   rw [Zi] at hC
   rw [hC, List.take_of_length_le (by omega)]
  simp only [Qv, ru_reg, ru_seq, ru_cnd, ru_exit, ru_ret, ru_keep, thenQ, blockQ, run_nil, run_cons, Fam.step, stepQ, evO, opv, qv, binV, lenV, upd_some, lkp_cons, lkp_nil, ↓reduceIte, Nat.reduceEqDiff, Qa, Qb, endQ, rvs, rv1, resV, vw_b, Qv, V.b.injEq, Qc, decide_false, true_and, and_self, reduceCtorEq, Qd]
  rw [decide_eq_true this]
def subB (a b : List Int) : Bool := a.all fun x => decide (x ∈ b)
theorem W46 (a b : List Int) (h : a.length < 10000000) (hb : b.length < 10000000) : PureCall Try.prog 46 [.sl 1 (a.map eI), .sl 1 (b.map eI)] (.b (subB a b)) := by
 refine pure_body okHB hmix Try.func46 cb46 cc46 cs46 cn46 ?_
 simp only [rc46, rs46, ru_reg, ru_seq, ru_block, ru_keep, thenQ, run_nil, run_cons, Fam.step, stepQ, evO, opv, qv, upd_some, lkp_cons, lkp_nil, ↓reduceIte, Nat.reduceEqDiff, Qa, Qb, zipA, Qi, true_and, reduceCtorEq]
 refine ru_countC a.length (fun i => ⟨lkp [(0, .sl 1 (a.map eI)), (1, .sl 1 (b.map eI)), (5, .i i)], []⟩) (fun i => subB (a.take i) b = true) ?_ rfl ?_ ?_
 ·simp only [Q2, kp, lkp_cons, lkp_nil, ↓reduceIte, Nat.reduceEqDiff, Qa, Qb, reduceCtorEq]
 ·intro i hi hC
  obtain ⟨x, hx⟩ : ∃ x, a[i]? = some x := ⟨_, Qf hi⟩
  have hlt : (i : Int) < a.length := by omega
  have h3 : inI ((i : Int) + 1) := by unfold inI; omega
  simp only [hlt, ru_skip, ru_reg, ru_seq, ru_cnd, ru_block, ru_keep, thenQ, run_nil, run_cons, Fam.step, stepQ, evO, opv, qv, binV, lenV, kp, upd_some, lkp_cons, lkp_nil, ↓reduceIte, Nat.reduceEqDiff, Qa, Qb, decide_true, true_and, reduceCtorEq, Qd]
  refine ru_count b.length (fun k => ⟨lkp [(0, .sl 1 (a.map eI)), (1, .sl 1 (b.map eI)), (5, .i i), (6, .b (decide (x ∈ b.take k))), (7, .i k)], []⟩) ?_ ?_ ?_
  ·simp only [Q2, List.not_mem_nil, kp, lkp_cons, lkp_nil, ↓reduceIte, Nat.reduceEqDiff, Qa, Qb, Za, decide_false, reduceCtorEq]
  ·intro k hk
   obtain ⟨y, hy⟩ : ∃ y, b[k]? = some y := ⟨_, Qf hk⟩
   have hlt2 : (k : Int) < b.length := by omega
   have h4 : inI ((k : Int) + 1) := by unfold inI; omega
   have hm : decide (x ∈ b.take (k + 1)) = (decide (x ∈ b.take k) || decide (x = y)) := by
    rw [Bool.eq_iff_iff, decide_eq_true_eq, Bool.or_eq_true, decide_eq_true_eq, decide_eq_true_eq, mem_take_succ hy]
   cases hd : decide (x ∈ b.take k) with
   | true => simp only [hx, hy, hlt, hlt2, h4, hm, hd, Q6, Q7, ru_skip, ru_reg, ru_any, ru_seq, ru_cnd, ru_block, ru_keep, putBs, thenQ, blockQ, run_nil, run_cons, Fam.step, stepQ, needQ, condB, ug, runX, eff, nextD, fpR, fpQ, fpV, disjB, hits, evO, opv, qv, pickV_bb, binV, ldV, iadV, lenV, kp, upd_some, lkp_cons, lkp_nil, ↓reduceIte, Nat.reduceEqDiff, Nat.reduceLeDiff, Qa, Qb, Qp, Qn, Qe, Qg, Q8, Qs, Qw, Qh, Zd, Qj, Zg, Qt, Zh, Zb, Qi, Qk, Qq, Zk, Ql, Bool.true_or, Qu, Q0, Qc, Qo, decide_true, and_true, and_self, forall_const, implies_true, reduceCtorEq, Q5, Zp, Ze, beq_false, imp_self, Qd, Q1, Qr, Zf, eI]
   | false => simp only [hx, hy, hlt, hlt2, h4, hm, hd, Q6, Q7, ru_skip, ru_reg, ru_any, ru_seq, ru_cnd, ru_block, ru_keep, putBs, thenQ, blockQ, run_nil, run_cons, Fam.step, stepQ, needQ, condB, ug, runX, eff, nextD, fpR, fpQ, fpV, disjB, hits, evO, opv, qv, pickV_bb, binV, ldV, iadV, lenV, kp, upd_some, lkp_cons, lkp_nil, ↓reduceIte, Nat.reduceEqDiff, Nat.reduceLeDiff, Qa, Qb, Qp, Qn, Qe, Qg, Q8, Qs, Qw, Qh, Zd, Qj, Zg, Qt, Zh, Zb, beq_self_eq_true, Qi, Qk, Qq, Zk, Ql, Bool.false_or, Qu, Q0, Qc, decide_true, and_self, forall_const, implies_true, reduceCtorEq, Q5, Zp, Ze, Qd, Q1, Qr, Zf, eI]
  ·simp only [Qv, Zi, ru_skip, ru_reg, ru_seq, ru_cnd, ite_P, ru_exit, ru_ret, ru_keep, thenQ, blockQ, run_nil, run_cons, Fam.step, stepQ, evO, opv, qv, binV, lenV, upd_some, lkp_cons, lkp_nil, ↓reduceIte, Nat.reduceEqDiff, Qa, Qb, endQ, rvs, rv1, resV, vw_b, Qv, V.b.injEq, Qc, decide_false, decide_eq_false_iff_not, true_and, and_self, reduceCtorEq, Qz, Qd, Classical.not_not]
   refine ⟨fun e => ?_, fun e => ?_⟩
   ·have : subB a b = false := by
     rw [Bool.eq_false_iff]
     intro h
     unfold subB at h
     rw [Q3] at h
     have := h x (Zl hx)
     rw [decide_eq_true_eq] at this
     exact e this
    rw [this]
   ·simp only [h3, Q6, Q7, true_and, and_true]
    unfold subB at hC ⊢
    rw [take_succ_of hx, List.all_append, hC]
    simpa using e
 ·intro hC
  rw [Zi] at hC
  simp only [Qv, hC, ru_reg, ru_seq, ru_cnd, ru_exit, ru_ret, ru_keep, thenQ, blockQ, run_nil, run_cons, Fam.step, stepQ, evO, opv, qv, binV, lenV, upd_some, lkp_cons, lkp_nil, ↓reduceIte, Nat.reduceEqDiff, Qa, Qb, endQ, rvs, rv1, resV, vw_b, Qv, Qc, decide_false, and_self, reduceCtorEq, Qd]
def s46 : List V → Prop × V | [.sl 1 l, .sl 1 k] => ((l = (l.map dI).map eI ∧ k = (k.map dI).map eI) ∧ l.length < 10000000 ∧ k.length < 10000000, .b (subB (l.map dI) (k.map dI))) | _ => (False, .u)
theorem s46_ok (vs : List V) (h : (s46 vs).1) : PureCall Try.prog 46 vs (s46 vs).2 := by
 unfold s46 at h ⊢
 split at h
 ·rename_i l k
  have := W46 (l.map dI) (k.map dI) (by simpa using h.2.1) (by simpa using h.2.2)
  rw [← h.1.1, ← h.1.2] at this
  exact this
 ·exact h.elim
theorem s48_ok (vs : List V) (h : (s32 vs).1) : PureCall Try.prog 48 vs (s32 vs).2 := by
 unfold s32 at h ⊢
 split at h
 ·rename_i l k
  have := W48 (l.map dI) (k.map dI) (by simpa using h.2)
  rw [← h.1.1, ← h.1.2] at this
  exact this
 ·exact h.elim
noncomputable def HE : Gam := ((HB.ext 44 (fnG (fun _ : Unit => []) (fun _ => ()) (fun _ => True) (fun a => a) (fun _ => .b true))).ext 46 s46).ext 48 s32
theorem okHE : GOk Try.prog HE := by
 have k1 := okHB.ext (f := 44) (fun a w => Try.call44 a w) (fnG_ok (e := fun _ : Unit => []) (d := fun _ => ()) (ok := fun _ => True) (g := fun a => a) (eb := fun _ => V.b true) fun _ _ => W44)
 have k2 := k1.ext (f := 46) (r := s46) (fun a w => Try.call46 a w) s46_ok
 exact k2.ext (f := 48) (r := s32) (fun a w => Try.call48 a w) s48_ok
theorem h44 : HE 44 [] = (True, .b true) := by
 refine (show HE 44 [] = fnG (fun _ : Unit => []) (fun _ => ()) (fun _ => True) (fun a => a) (fun _ => .b true) [] from rfl).trans ?_
 simp [fnG]
theorem h48 (l k : List Int) : HE 48 [.sl 1 (l.map eI), .sl 1 (k.map eI)] = (l.length < 10000000, .b (decide (l = k))) := by
 refine (show HE 48 _ = s32 [.sl 1 (l.map eI), .sl 1 (k.map eI)] from rfl).trans ?_
 simp [s32, map_de dI_eI]
theorem h47e (d : Dome) : HE 47 [.ag (eDome d)] = (True, eLE (curveR d)) := e47 d
theorem h45e (d : Dome) : HE 45 [.ag (eDome d)] = (True, eLE (looseR d)) := e45 d
theorem h18e (f : Fig) : HE 18 [.ag (eFig f)] = (True, eNE (leastR f)) := b18 f
theorem h22e (f : Fig) : HE 22 [.ag (eFig f)] = (True, eNE (closestR f)) := b22 f
theorem h19e (f : Fig) : HE 19 [.ag (eFig f)] = (True, eLE (badR f)) := b19 f
theorem h25e (f : Fig) : HE 25 [.ag (eFig f)] = (f.starts.length < 10000000 ∧ f.times.length < 10000000, .i (figCheck f)) := b25 f
theorem h29e (f : Fig) : HE 29 [.ag (eFig f)] = (True, .b (farF f)) := b29 f
theorem h21e (f : Fig) : HE 21 [.ag (eFig f)] = (Ok21 f, .ag (eFig f)) := b21 f
theorem h36e (f : Fig) : HE 36 [.ag (eFig f)] = (f.starts.length < 10000000 ∧ f.times.length < 10000000, .i (openE f true)) := b36 f
end Go.C02
set_option linter.unusedSimpArgs false
set_option linter.unusedVariables false
namespace Go.C02
open Go.Fam Go.Proofs
theorem pull_mono {a b s : Int} (h : 0 ≤ a) (hab : a ≤ b) (hs : 0 ≤ s) : pull a s ≤ pull b s := by
 have h1 : a * (1000 + s) ≤ b * (1000 + s) := Int.mul_le_mul_of_nonneg_right hab (by omega)
 have h2 : 0 ≤ a * (1000 + s) := Int.mul_nonneg h (by omega)
 unfold pull
 rw [Zc h2, Zc (Q9 h2 h1)]
 exact Int.ediv_le_ediv (by decide) h1
theorem sumBy_mono {l : List Int} {f g : Int → Int} (h : ∀ x ∈ l, f x ≤ g x) : sumBy l f ≤ sumBy l g := by
 unfold sumBy
 induction l with
 | nil => simp
 | cons x l ih =>
  simp only [Qa, List.sum_cons]
  have := h x (by simp)
  have := ih fun y hy => h y (by simp [hy])
  omega
theorem sorted_bounds {l : List Int} (h : l.Pairwise (· < ·)) {x : Int} (hx : x ∈ l) : l.headD 0 ≤ x ∧ x ≤ l.getLastD 0 := by
 constructor
 ·cases l with
  | nil => cases hx
  | cons y l =>
   rw [Zo] at h
   rcases List.mem_cons.1 hx with rfl | hx
   ·simp
   ·have := h.1 x hx; simp; omega
 ·induction l generalizing x with
  | nil => cases hx
  | cons y l ih =>
   rw [Zo] at h
   cases l with
   | nil => simp at hx; subst hx; simp
   | cons z l =>
    have e : (y :: z :: l).getLastD 0 = (z :: l).getLastD 0 := by simp [List.getLastD_eq_getLast?, List.getLast?_cons]
    rw [e]
    rcases List.mem_cons.1 hx with rfl | hx
    ·have h1 := h.1 z (by simp)
     have h2 := ih h.2 (x := z) (by simp)
     omega
    ·exact ih h.2 hx
theorem ints_sorted (lo hi : Int) : (ints lo hi).Pairwise (· < ·) := by
 unfold ints
 rw [List.pairwise_map]
 exact List.Pairwise.imp (fun h => by omega) List.pairwise_lt_range
theorem goods_sorted (t : Tent) (row : Int) : (goods t row).Pairwise (· < ·) := (ints_sorted _ _).filter _
theorem canTent_low {d : Dome} (h : Good d) {g : Int} (hg : g ∈ d.gores) : 0 ≤ lowOf (tentOf d) g ∧ lowOf (tentOf d) g ≤ highOf (tentOf d) g := by
 have hgg := h.v.gores g hg
 obtain ⟨b, hb⟩ : ∃ b, d.bolts[g.toNat]? = some b := ⟨_, Qf (by omega)⟩
 have hbm := Zl hb
 have hc : (tentOf d).can[g.toNat]? = some (numbersOf b) := by simp [tentOf, cansOf, hb]
 have hne := h.ne b hbm
 have hs : (numbersOf b).Pairwise (· < ·) := (ints_sorted _ _).filter _
 simp only [lowOf, highOf, hc, Qj]
 have h1 := headD_mem hne
 have h2 := numbersOf_range (h.v.bolts b hbm) h1
 exact ⟨h2.1, (sorted_bounds hs h1).2⟩
theorem round_mono {d : Dome} (h : Good d) {a b : Int} (ha : 2 * d.loss ≤ a) (hab : a ≤ b) : (roundOf (tentOf d) a).low ≤ (roundOf (tentOf d) b).low ∧ (roundOf (tentOf d) a).high ≤ (roundOf (tentOf d) b).high := by
 refine ⟨sumBy_mono fun g hg => ?_, sumBy_mono fun g hg => ?_⟩
 ·have := canTent_low h hg
  exact pull_mono (by simp only [tentOf]; omega) (by simp only [tentOf]; omega) (by omega)
 ·have := canTent_low h hg
  exact pull_mono (by simp only [tentOf]; omega) (by simp only [tentOf]; omega) (by omega)
theorem fits_iff {t : Tent} {row w : Int} : fits t row w = true ↔ (wantAt t.dome row).low ≤ (roundOf t w).low ∧ (roundOf t w).high ≤ (wantAt t.dome row).high := by
 unfold fits
 simp
theorem goods_between {d : Dome} (h : Good d) {row w : Int} (hw : 2 * d.loss ≤ w ∧ w ≤ 2000) (hne : goods (tentOf d) row ≠ []) : fits (tentOf d) row w = true ↔ lowAt d row ≤ w ∧ w ≤ highAt d row := by
 constructor
 ·intro hf
  exact sorted_bounds (goods_sorted _ _) (mem_goods.2 ⟨hw, hf⟩)
 ·rintro ⟨h1, h2⟩
  have m1 := mem_goods.1 (headD_mem hne)
  have m2 := mem_goods.1 (getLastD_mem hne)
  have f1 := fits_iff.1 m1.2
  have f2 := fits_iff.1 m2.2
  have r1 := round_mono h m1.1.1 h1
  have r2 := round_mono h hw.1 h2
  rw [fits_iff]
  exact ⟨Q9 f1.1 r1.1, Q9 r2.2 f2.2⟩
theorem curve_cases (d : Dome) : (pitchE d true = 0 ∧ hasCuts d d.rounds.length = true ∧ fitsAll d d.rounds.length d.rounds.length = true ∧ curveR d = (outsTo d d.rounds.length d.rounds.length, 0)) ∨ ((curveR d).2 ≠ 0 ∧ (curveR d).1 = []) := by
 unfold curveR
 by_cases h : pitchE d true = 0
 ·rw [if_pos h]
  by_cases h2 : (hasCuts d d.rounds.length && fitsAll d d.rounds.length d.rounds.length) = true
  ·rw [if_pos h2]
   rw [Zq] at h2
   exact .inl ⟨h, h2.1, h2.2, rfl⟩
  ·rw [if_neg h2]; exact .inr ⟨by decide, rfl⟩
 ·rw [if_neg h]; exact .inr ⟨h, rfl⟩
theorem outs_get {d : Dome} {n k i : Nat} (h : i < k) : (outsTo d n k)[i]? = some (needTo d i n) := by simp [outsTo, h]
theorem cut_goods {d : Dome} (hg : Good d) {r : Nat} {w : Int} (hne : (goods (tentOf d) r).isEmpty = false) (hw : lowAt d r ≤ w ∧ w ≤ highAt d r) : 2 * d.loss ≤ w ∧ w ≤ 2000 ∧ fits (tentOf d) r w = true := by
 have hne' : goods (tentOf d) r ≠ [] := by intro h; rw [h] at hne; cases hne
 have m1 := mem_goods.1 (headD_mem hne')
 have m2 := mem_goods.1 (getLastD_mem hne')
 have b1 : 2 * d.loss ≤ w ∧ w ≤ 2000 := ⟨Q9 m1.1.1 hw.1, Q9 hw.2 m2.1.2⟩
 exact ⟨b1.1, b1.2, (goods_between hg b1 hne').2 hw⟩
theorem need_ge' {d : Dome} (r k : Nat) : lowAt d r ≤ needTo d r k := ((need_le k).1 (Int.le_refl _)).1
theorem curve_err {d : Dome} (h : pitchE d true = 0) : (curveR d).2 = 0 ∨ curveR d = ([], 3) := by
 unfold curveR
 rw [if_pos h]
 split
 ·exact .inl rfl
 ·exact .inr rfl
def widF (d : Dome) (l : List Int) : Dome := { d with widths := l }
theorem curve_wid {d : Dome} (h0 : (curveR d).2 = 0) : (curveR d).1.length = d.widths.length ∧ pitchE (widF d (curveR d).1) true = 0 ∧ looseR (widF d (curveR d).1) = ([], 0) := by
 rcases curve_cases d with ⟨hp, hc, hf, he⟩ | ⟨hn, _⟩
 ·obtain ⟨hg, _⟩ := pitchE_zero hp
  have hv := hg.v
  rw [he]
  obtain ⟨L, hL⟩ : ∃ L, L = outsTo d d.rounds.length d.rounds.length := ⟨_, rfl⟩
  have hLl : L.length = d.rounds.length := by rw [hL, outsTo_len]
  have hLg : ∀ r, r < d.rounds.length → L[r]? = some (needTo d r d.rounds.length) := fun r hr => by rw [hL]; exact outs_get hr
  have hgood : ∀ r : Nat, r < d.rounds.length → 2 * d.loss ≤ needTo d r d.rounds.length ∧ needTo d r d.rounds.length ≤ 2000 ∧ fits (tentOf d) r (needTo d r d.rounds.length) = true := fun r hr => by
   simp only [hasCuts, Q3, Zs, Qz] at hc
   simp only [fitsAll, Q3, Zs, decide_eq_true_eq] at hf
   exact cut_goods hg (hc r hr) ⟨need_ge' r _, hf r hr⟩
  dsimp only
  rw [← hL]
  have hch : check (widF d L) = 0 := by
   obtain ⟨h1, h2⟩ := isDome_of hg.c
   have h3 : isDome (widF d L) = true := by
    show isDome ⟨d.bolts, d.gores, d.loss, d.rounds, L, d.slope⟩ = true
    simp only [isDome, headOk, within, Zq, decide_eq_true_eq, Q3, goreOk, roundOk, widthOk] at h1 ⊢
    obtain ⟨⟨⟨⟨⟨⟨⟨⟨a1, a2⟩, a3⟩, a4⟩, a5⟩, a6⟩, a7⟩, a8⟩, a9⟩ := h1
    refine ⟨⟨⟨⟨⟨⟨⟨⟨a1, a2⟩, a3⟩, a4⟩, hLl⟩, a6⟩, a7⟩, a8⟩, fun x hx => ?_⟩
    obtain ⟨r, hr⟩ := List.getElem?_of_mem hx
    have hrl := getElemLt hr
    rw [hLg r (by omega)] at hr
    have := hgood r (by omega)
    rw [Option.some.inj hr] at this
    exact ⟨this.1, this.2.1⟩
   have h4 : (widF d L).bolts.all isBolt = true := h2
   unfold check
   rw [if_pos h3, if_pos h4]
  have hpi : pitchE (widF d L) true = 0 := by
   unfold pitchE at hp ⊢
   rw [if_neg (by simp [hch]), if_pos rfl]
   split at hp
   ·rename_i h5; exact absurd hg.c h5
   ·exact hp
  refine ⟨by rw [hLl, hv.nw], hpi, ?_⟩
  unfold looseR
  rw [if_pos hpi]
  congr 1
  unfold looseTo
  rw [List.filter_eq_nil_iff]
  intro x hx
  have hx := List.mem_of_mem_take hx
  rw [mem_ints] at hx
  have hw : (widF d L).widths.length = d.rounds.length := hLl
  rw [hw] at hx
  obtain ⟨r, hr⟩ : ∃ r : Nat, x = r := ⟨x.toNat, by omega⟩
  subst hr
  have hrr : r < d.rounds.length := by omega
  obtain ⟨c1, c2, c3⟩ := hgood r hrr
  have hwa : widthAt (widF d L) r = needTo d r d.rounds.length := by
   show (L[(r : Int).toNat]?).getD 0 = _
   rw [Q1, hLg r hrr]; rfl
  rw [hwa]
  have : tightOf (tentOf (widF d L)) r (needTo d r d.rounds.length) = 1 := by
   rw [fits_iff] at c3
   unfold tightOf
   exact if_pos c3
  simp [this]
 ·exact absurd h0 hn
end Go.C02
set_option maxRecDepth 8000
namespace Go.C02.N
open Go.Fam Go.Proofs
def rc15 : RC := (.seq (.reg false [(cX 1 0), (cQ 2 [] (.mv (kB false)))]) (.keep [1] (.seq (.seq (.reg true [(cLd 20 1 true 11), (cQ 21 [20] (.call (kF 29) [(.t 20)])), (cMv 22 21), (gQ 23 22 false [1] (.ld true 11 (.t 1))), (gQ 24 22 false [23] (.call (kF 36) [(.t 23)])), (gQ 25 22 false [24] (.bin .neq (.t 24) (kI 0))), (cQ 26 [22,25] (.pick (.t 22) (kB true) (.t 25)))]) (.keep [1,26] (.cond (.t 26) (.seq (.reg false [(cQ 27 [] (.call (kF 44) [])), (cMv 2 27)]) .ret) .skip))) (.keep [1] (.seq (.reg false [(cFa 29 1 0), (cLd 30 29 true 6), (cQ 31 [30] (.call (kF 47) [(.t 30)])), (cMv 28 31), (cEx 32 28 0), (cEx 33 28 1), (cMv 3 32), (cMv 4 33)]) (.keep [1,3,4] (.seq (.seq (.reg false [(cMv 34 4), (cC 35 .neq 34 0)]) (.keep [1,3,4,35] (.cond (.t 35) (.seq (.reg true [(cMv 36 4), (cC 37 .eql 36 3), (cMv 38 37), (gQ 39 38 true [] (.call (kF 44) [])), (cQ 40 [38,39] (.pick (.t 38) (.t 39) (kB false))), (cMv 2 40)]) .ret) .skip))) (.keep [1,3] (.seq (.seq (.reg false [(cMv 41 3), (cLn 42 41), (cFa 43 1 0), (cFa 44 43 4), (cLd 45 44 false 1), (cLn 46 45), (cB 47 .neq 42 46)]) (.keep [1,3,47] (.cond (.t 47) (.seq (.reg false [(cQ 2 [] (.mv (kB false)))]) .ret) .skip))) (.keep [1,3] (.seq (.reg false [(cLd 48 1 true 11), (cQ 49 [48] (.call (kF 21) [(.t 48)])), ⟨(some 5), none, [], none, .w (.alc [(.z 4), (.z 1), (.i 0), (.z 2), (.z 1), (.i 0), (.i 0), (.i 0), (.i 0), (.z 1), (.z 1)])⟩, ⟨none, none, [5,49], none, .w (.st 11 (.t 5) (.t 49))⟩]) (.keep [1,3,5] (.seq (.reg false [⟨(some 50), none, [], none, .w (.bso 1 0 [(.i 0)] [])⟩, (cMv 51 3), ⟨(some 52), none, [50,51], none, .w (.app 1 (.t 50) (.t 51))⟩, (cFa 53 5 0), (cFa 54 53 4), ⟨none, none, [54,52], none, .w (.st 1 (.t 54) (.t 52))⟩]) (.keep [1,5] (.seq (.seq (.drp 0 (.reg false [(cLd 55 5 true 11), (cQ 56 [55] (.call (kF 25) [(.t 55)])), (cC 57 .neq 56 0)])) (.keep [1,5,57] (.cond (.t 57) (.seq (.reg false [(cQ 2 [] (.mv (kB false)))]) .ret) .skip))) (.keep [1,5] (.seq (.reg false [(cFa 59 5 0), (cLd 60 59 true 6), (cQ 61 [60] (.call (kF 45) [(.t 60)])), (cMv 58 61), (cEx 62 58 0), (cEx 63 58 1), (cMv 6 62), (cMv 7 63)]) (.keep [1,5,6,7] (.seq (.reg false [(cLd 65 1 true 11), (cQ 66 [65] (.call (kF 19) [(.t 65)])), (cMv 64 66), (cEx 67 64 0), (cEx 68 64 1), (cMv 8 67), (cMv 9 68)]) (.keep [1,5,6,7,8,9] (.seq (.reg false [(cLd 70 5 true 11), (cQ 71 [70] (.call (kF 19) [(.t 70)])), (cMv 69 71), (cEx 72 69 0), (cEx 73 69 1), (cMv 10 72), (cMv 11 73)]) (.keep [1,5,6,7,8,9,10,11] (.seq (.reg false [(cLd 75 1 true 11), (cQ 76 [75] (.call (kF 18) [(.t 75)])), (cMv 74 76), (cEx 77 74 0), (cEx 78 74 1), (cMv 12 77), (cMv 13 78)]) (.keep [1,5,6,7,8,9,10,11,12,13] (.seq (.reg false [(cLd 80 5 true 11), (cQ 81 [80] (.call (kF 18) [(.t 80)])), (cMv 79 81), (cEx 82 79 0), (cEx 83 79 1), (cMv 14 82), (cMv 15 83)]) (.keep [1,5,6,7,8,9,10,11,12,13,14,15] (.seq (.reg false [(cLd 85 1 true 11), (cQ 86 [85] (.call (kF 22) [(.t 85)])), (cMv 84 86), (cEx 87 84 0), (cEx 88 84 1), (cMv 16 87), (cMv 17 88)]) (.keep [5,6,7,8,9,10,11,12,13,14,15,16,17] (.seq (.reg false [(cLd 90 5 true 11), (cQ 91 [90] (.call (kF 22) [(.t 90)])), (cMv 89 91), (cEx 92 89 0), (cEx 93 89 1), (cMv 18 92), (cMv 19 93)]) (.keep [6,7,8,9,10,11,12,13,14,15,16,17,18,19] (.seq (.reg true [(cMv 94 7), (cC 95 .eql 94 0), (cMv 96 95), (gMv 97 96 true 6), (gQ 98 96 true [97] (.len (.t 97))), (gQ 99 96 true [98] (.bin .eql (.t 98) (kI 0))), (cQ 100 [96,99] (.pick (.t 96) (.t 99) (kB false))), (cMv 101 100), (gMv 102 101 true 8), (gMv 103 101 true 10), (gQ 104 101 true [102,103] (.call (kF 48) [(.t 102), (.t 103)])), (cQ 105 [101,104] (.pick (.t 101) (.t 104) (kB false))), (cMv 106 105), (gMv 107 106 true 9), (gMv 108 106 true 11), (gQ 109 106 true [107,108] (.bin .eql (.t 107) (.t 108))), (cQ 110 [106,109] (.pick (.t 106) (.t 109) (kB false))), (cMv 111 110), (gMv 112 111 true 12), (gMv 113 111 true 14), (gQ 114 111 true [112,113] (.bin .eql (.t 112) (.t 113))), (cQ 115 [111,114] (.pick (.t 111) (.t 114) (kB false))), (cMv 116 115), (gMv 117 116 true 13), (gMv 118 116 true 15), (gQ 119 116 true [117,118] (.bin .eql (.t 117) (.t 118))), (cQ 120 [116,119] (.pick (.t 116) (.t 119) (kB false))), (cMv 121 120), (gMv 122 121 true 16), (gMv 123 121 true 18), (gQ 124 121 true [122,123] (.bin .eql (.t 122) (.t 123))), (cQ 125 [121,124] (.pick (.t 121) (.t 124) (kB false))), (cMv 126 125), (gMv 127 126 true 17), (gMv 128 126 true 19), (gQ 129 126 true [127,128] (.bin .eql (.t 127) (.t 128))), (cQ 130 [126,129] (.pick (.t 126) (.t 129) (kB false))), (cMv 131 130), (gQ 132 131 true [] (.call (kF 44) [])), (cQ 133 [131,132] (.pick (.t 131) (.t 132) (kB false))), (cMv 2 133)]) .ret)))))))))))))))))))))))))))))))
def pu15 : List Nat := [1]
def rs15 : List RV := [.t 2]
theorem cc15 : comp Try.prog pu15 (Try.f15.ntmps, 0) 0 1 rc15 (Try.f15.body.getD .skip) = some rc15 := by kernel_rfl
theorem cb15 : Try.f15.body = some (Try.f15.body.getD .skip) := by kernel_rfl
theorem cs15 : resRV Try.prog Try.f15.results.toList = some rs15 := by kernel_rfl
theorem cn15 : 1 ≤ Try.f15.ntmps := by decide
end Go.C02.N
set_option linter.unusedSimpArgs false
set_option linter.unusedVariables false
namespace Go.C02
open Go.Fam Go.Proofs
def widFig (f : Fig) (l : List Int) : Fig := { f with dome := widF f.dome l }
theorem wid_check {f : Fig} (h : figCheck f = 0) {l : List Int} (hc : check (widF f.dome l) = 0) : figCheck (widFig f l) = 0 := by
 unfold figCheck at h ⊢
 have hc2 : check (widFig f l).dome = 0 := hc
 rw [if_neg (Classical.not_not.2 hc2)]
 split at h
 ·rename_i h1; exact absurd h h1
 ·split at h
  ·rename_i h2
   exact if_pos h2
  ·cases h
theorem wid_open {f : Fig} (h : figCheck f = 0) {l : List Int} (hp : pitchE (widF f.dome l) true = 0) : openE (widFig f l) true = 0 := by
 obtain ⟨hg, _⟩ := pitchE_zero hp
 unfold openE
 rw [if_neg (Classical.not_not.2 (wid_check h hg.c)), if_pos rfl]
 exact hp
theorem wid_bad {f : Fig} (he : openE f true = 0) {l : List Int} (he' : openE (widFig f l) true = 0) : badR (widFig f l) = badR f := by
 unfold badR
 rw [if_pos he, if_pos he']; rfl
theorem wid_least {f : Fig} (he : openE f true = 0) {l : List Int} (he' : openE (widFig f l) true = 0) : leastR (widFig f l) = leastR f := by
 unfold leastR
 rw [if_pos he, if_pos he']; rfl
theorem wid_closest {f : Fig} (he : openE f true = 0) {l : List Int} (he' : openE (widFig f l) true = 0) : closestR (widFig f l) = closestR f := by
 unfold closestR
 rw [if_pos he, if_pos he']; rfl
set_option maxRecDepth 20000 in
set_option maxHeartbeats 4000000 in
theorem P15 (f : Fig) : PureCall Try.prog 15 [.ag (eFig f)] (.b true) := by
 refine pure_body okHE hmix Try.func15 N.cb15 N.cc15 N.cs15 N.cn15 ?_
 have g1 := h29e f
 have g2 := h36e f
 have g3 := h47e f.dome
 have g9 := h44
 simp only [eFig] at g1 g2
 cases hf : farF f with
 | true => simp only [N.rc15, N.rs15, g1, g9, hf, ru_reg, ru_seq, ru_cnd, ru_ret, ru_keep, thenQ, run_nil, run_cons, Fam.step, stepQ, needQ, condB, ug, evO, opv, qv, pickV_t, binV, ldV, callV, V.cells, solid, hasRef, hasRefL, flat, upd_some, lkp_cons, lkp_nil, ↓reduceIte, Nat.reduceEqDiff, Nat.reduceAdd, Nat.reduceLT, Nat.reduceLeDiff, Qa, Qb, Qp, Qn, Qe, Qg, Qm, Q4, Qh, endQ, rvs, rv1, resV, vw_i, vw_b, vw_sl, vw_ag, zipA, Qi, Qk, Qq, Ql, Qu, Qc, Qo, true_and, and_true, and_self, false_and, forall_const, false_implies, implies_true, beq_false, imp_self, eFig]
 | false =>
  have h21 := farRing_ok (farF_ring hf)
  obtain ⟨hs, ht⟩ := h21.lens
  by_cases he : openE f true = 0
  case neg => simp only [N.rc15, N.rs15, g1, g2, g9, hf, hs, ht, he, eq_self, ru_reg, ru_seq, ru_cnd, ru_ret, ru_keep, thenQ, run_nil, run_cons, Fam.step, stepQ, needQ, condB, ug, evO, opv, qv, pickV_bb, binV, ldV, callV, V.cells, solid, hasRef, hasRefL, flat, upd_some, lkp_cons, lkp_nil, ↓reduceIte, Nat.reduceEqDiff, Nat.reduceAdd, Nat.reduceLT, Nat.reduceLeDiff, Qa, Qb, Qp, Qn, Qe, Qg, Qm, Q4, Qh, endQ, rvs, rv1, resV, vw_i, vw_b, vw_sl, vw_ag, zipA, beq_self_eq_true, Qi, Qk, Ql, Q0, Qc, decide_false, and_self, forall_const, implies_true, eFig]
  obtain ⟨h1, _, hp⟩ := openE_ok he
  rcases curve_err hp with h0 | h3
  case inr =>
   rw [h3] at g3
   simp only [eDome, eLE] at g3
   simp only [N.rc15, N.rs15, g1, g2, g3, g9, hf, hs, ht, he, eq_self, ru_skip, ru_reg, ru_seq, ru_cnd, ru_ret, ru_keep, thenQ, run_nil, run_cons, Fam.step, stepQ, needQ, condB, ug, evO, opv, qv, pickV_bb, binV, ldV, callV, V.cells, solid, hasRef, hasRefL, flat, flatL, upd_some, lkp_cons, lkp_nil, ↓reduceIte, Nat.reduceEqDiff, Nat.reduceAdd, Nat.reduceLT, Nat.reduceLeDiff, Int.reduceEq, Qa, Qb, Qp, Qn, Qe, Qg, Zj, Qm, Za, Q4, Qh, Qx, Qy, Qj, endQ, rvs, rv1, resV, vw_i, vw_b, vw_sl, vw_ag, zipA, beq_self_eq_true, Qi, Qk, Qq, Ql, Qu, Q0, Qc, Qo, decide_true, decide_false, and_self, forall_const, implies_true, imp_self, eFig]
  obtain ⟨hl, hpi, hlo⟩ := curve_wid h0
  obtain ⟨L, hL⟩ : ∃ L, L = (curveR f.dome).1 := ⟨_, rfl⟩
  have hcr : curveR f.dome = (L, 0) := by rw [hL, ← h0]
  rw [← hL] at hl hpi hlo
  rw [hcr] at g3
  have he' := wid_open h1 hpi
  have hc' := (openE_ok he').1
  have hns := (validF_of h1).ns
  have hng := (validF_of h1).dome.ng
  have hnw := (validF_of h1).dome.nw
  have hnr := (validF_of h1).dome.nr
  have k1 := h21e f
  have k2 := h25e (widFig f L)
  have k3 := h45e (widF f.dome L)
  have k4 := h19e f
  have k5 := h19e (widFig f L)
  have k6 := h18e f
  have k7 := h18e (widFig f L)
  have k8 := h22e f
  have k10 := h22e (widFig f L)
  rw [hlo] at k3
  rw [hc'] at k2
  rw [wid_bad he he'] at k5
  rw [wid_least he he'] at k7
  rw [wid_closest he he'] at k10
  have hfl : fitsLen L.length := by unfold fitsLen; omega
  have hc1 := chunk_i L
  rw [hl] at hc1 hfl
  have hbl : (badR f).1.length < 10000000 := by have := bad_len f; omega
  simp only [eFig, eDome, eNE, eLE, show (widFig f L).dome.bolts = f.dome.bolts from rfl, show (widFig f L).dome.gores = f.dome.gores from rfl, show (widFig f L).dome.loss = f.dome.loss from rfl, show (widFig f L).dome.rounds = f.dome.rounds from rfl, show (widFig f L).dome.widths = L from rfl, show (widFig f L).dome.slope = f.dome.slope from rfl, show (widFig f L).period = f.period from rfl, show (widFig f L).run = f.run from rfl, show (widFig f L).near = f.near from rfl, show (widFig f L).starts = f.starts from rfl, show (widFig f L).times = f.times from rfl, show (widF f.dome L).bolts = f.dome.bolts from rfl, show (widF f.dome L).gores = f.dome.gores from rfl, show (widF f.dome L).loss = f.dome.loss from rfl, show (widF f.dome L).rounds = f.dome.rounds from rfl, show (widF f.dome L).widths = L from rfl, show (widF f.dome L).slope = f.dome.slope from rfl] at g3 k1 k2 k3 k4 k5 k6 k7 k8 k10
  simp only [N.rc15, N.rs15, g1, g2, g3, g9, hf, hs, ht, he, eq_self, hl, h21, hfl, hpF, upB, upL, upV, upL_noref _ _ (nr_i _), fl_I, Nat.mul_one, Nat.le_refl, hc1, vw_I, k1, k2, k3, k4, k5, k6, k7, k8, k10, hbl, h48, List.flatten_nil, Qd, Q2, ru_skip, ru_reg, ru_seq, ru_cnd, ru_ret, ru_keep, ru_drp, ↓cut_lkp, cutH, putB, thenQ, run_nil, run_cons, Fam.step, stepQ, stepW, needQ, needW, condB, ug, putB, nv, sv, newsV, evO, opv, qv, pickV_bb, binV, ldV, lenV, curG, callV, foldParts, putAt, partsOk, partsOne, V.cells, solid, cellOk, hasRef, hasRefL, flat, flatL, cutV, upd_some, upd_none, lkp_cons, lkp_nil, ↓reduceIte, Nat.reduceEqDiff, Nat.reduceAdd, Nat.reduceLT, Nat.reduceLeDiff, Qa, Qb, Qp, Qn, Qe, Qg, Zm, Zj, List.drop_nil, Qm, Za, Q4, Q8, Qs, Qw, Qh, Qx, Qy, Qj, Zn, List.set_cons_succ, Qt, endQ, rvs, rv1, resV, vw_i, vw_b, vw_sl, vw_ag, vw_ad, vw_rf, zipA, beq_self_eq_true, Qi, Nat.add_zero, Qk, Qq, Zr, Ql, Qu, Qc, Qo, decide_true, and_self, forall_const, implies_true, imp_self, Qd, eFig]
end Go.C02
