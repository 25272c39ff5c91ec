import Derived.Test.YtcdgojonaloclaaG3
import Derived.Test.YtcdgojonaloclaaChecked
import Derived.Test.YtcdgojonaloclaaG9
set_option linter.all false
open List renaming drop_succ_cons → Qa, take_succ_cons → Qb, length_map → Qd, length_cons → Qe, length_nil → Qg, headD_cons → Qh, append_nil → Qi, drop_zero → Qj, take_zero → Qk, map_cons → Ql, all_cons → Qm, take_nil → Qn, map_nil → Qr, all_nil → Qs, getD_eq_getElem?_getD → Qv, getElem?_cons_zero → Qw, getElem?_cons_succ → Qx, mem_of_getElem? → Q0, replicate_zero → Q1, getElem?_nil → Q2, contains_nil → Q3, getElem?_map → Q4, getElem?_eq_getElem → Q5, cons_append → Q7, isEmpty_nil → Q9, nil_append → Za, any_nil → Ze, mem_filter → Zf, mem_range → Zg
open Nat renaming zero_add → Qt
open Bool renaming false_eq_true → Qc, true_eq_false → Qf, and_self → Qo, or_false → Qp, not_true → Qq, and_true → Qu, not_false → Qy, and_eq_true → Q6, false_and → Zc, xor_self → Zd
open Option renaming getD_some → Qz, getD_none → Q8, map_some → Zb
set_option maxRecDepth 8000
namespace Go.C02
open Go.Fam Go.Proofs
def rc10 : RC := (.seq (.reg false [(cX 3 0), (cQ 6 [] (.mv (kB false)))]) (.keep [1,2,3] (.seq (.seq (.reg true [(cLd 12 3 true 11), (cQ 13 [12] (.call (kF 24) [(.t 12)])), (cMv 14 13), (gQ 15 14 false [3] (.ld true 11 (.t 3))), (gQ 16 14 false [15] (.call (kF 36) [(.t 15)])), (gQ 17 14 false [16] (.bin .neq (.t 16) (kI 0))), (cQ 18 [14,17] (.pick (.t 14) (kB true) (.t 17))), (cMv 19 18), (gQ 20 19 false [3] (.fad 0 (.t 3))), (gQ 21 19 false [20] (.ld true 6 (.t 20))), (gMv 22 19 false 1), (gQ 23 19 false [21,22] (.call (kF 37) [(.t 21), (.t 22)])), (gQ 24 19 false [23] (.not (.t 23))), (cQ 25 [19,24] (.pick (.t 19) (kB true) (.t 24))), (cMv 26 25), (gMv 27 26 false 2), (gQ 28 26 false [27] (.bin .lss (.t 27) (kI 0))), (cQ 29 [26,28] (.pick (.t 26) (kB true) (.t 28))), (cMv 30 29), (gMv 31 30 false 2), (gQ 32 30 false [3] (.fad 9 (.t 3))), (gQ 33 30 false [32] (.ld false 1 (.t 32))), (gQ 34 30 false [33] (.len (.t 33))), (gQ 35 30 false [31,34] (.bin .geq (.t 31) (.t 34))), (cQ 36 [30,35] (.pick (.t 30) (kB true) (.t 35)))]) (.keep [1,2,3,36] (.cond (.t 36) (.seq (.reg false [(cQ 37 [] (.call (kF 17) [])), (cMv 6 37)]) .ret) .skip))) (.keep [1,2,3] (.seq (.reg false [(cLd 39 3 true 11), (cMv 40 2), (cQ 41 [39,40] (.call (kF 38) [(.t 39), (.t 40)])), (cMv 38 41), (cEx 42 38 0), (cEx 43 38 1), (cMv 7 42), (cMv 8 43)]) (.keep [1,2,3,7,8] (.seq (.reg false [(cLd 45 3 true 11), (cQ 46 [45] (.call (kF 19) [(.t 45)])), (cMv 44 46), (cEx 47 44 0), (cEx 48 44 1), (cMv 9 47), (cMv 10 48)]) (.keep [1,2,3,7,8,9,10] (.seq (.seq (.reg true [(cMv 49 8), (cC 50 .neq 49 0), (cMv 51 50), (gMv 52 51 false 10), (gQ 53 51 false [52] (.bin .neq (.t 52) (kI 0))), (cQ 54 [51,53] (.pick (.t 51) (kB true) (.t 53))), (cMv 55 54), (gMv 56 55 false 9), (gMv 57 55 false 2), (gQ 58 55 false [56,57] (.call (kF 23) [(.t 56), (.t 57)])), (gMv 59 55 false 7), (gQ 60 55 false [59] (.bin .neq (.t 59) (kI 1))), (gQ 61 55 false [58,60] (.bq true (.t 58) (.t 60))), (cQ 62 [55,61] (.pick (.t 55) (kB true) (.t 61)))]) (.keep [1,2,3,7,62] (.cond (.t 62) (.seq (.reg false [(cQ 6 [] (.mv (kB false)))]) .ret) .skip))) (.keep [1,2,3,7] (.seq (.any false 0 [⟨(cLd 63 3 true 11), [], []⟩, ⟨(cFa 64 3 9), [], []⟩, ⟨(cLd 65 64 false 1), [], [1]⟩, ⟨(cMv 66 2), [], []⟩, ⟨(cMv 67 1), [], []⟩, ⟨(cFa 68 3 0), [], []⟩, ⟨(cFa 69 68 1), [], [5]⟩, ⟨(cLd 70 69 false 1), [], [6,5]⟩, ⟨(cMv 71 2), [], []⟩, ⟨(cA 72 1 70 71), [], [7,6,5,8]⟩, ⟨(cLd 73 72 false 1), [], [9,7,6,5,8]⟩, ⟨(cA 74 1 67 73), [], [4,10,9,7,6,5,8]⟩, ⟨(cLd 75 74 false 1), [], [11,4,10,9,7,6,5,8]⟩, ⟨(cQ 76 [63,65,66,75] (.call (kF 39) [(.t 63), (.t 65), (.t 66), (.t 75)])), [], [0,2,1,3,12,11,4,10,9,7,6,5,8]⟩, ⟨(cMv 11 76), [], [13,0,2,1,3,12,11,4,10,9,7,6,5,8]⟩]) (.keep [7,11] (.seq (.reg true [(cMv 77 7), (cC 78 .eql 77 1), (cMv 79 78), (gMv 80 79 true 11), (cQ 81 [79,80] (.pick (.t 79) (.t 80) (kB false))), (cMv 82 81), (gMv 83 82 false 7), (gQ 84 82 false [83] (.bin .eql (.t 83) (kI 2))), (gMv 85 82 false 84), (gMv 86 85 true 11), (gQ 87 85 true [86] (.not (.t 86))), (gQ 88 82 false [85,87] (.pick (.t 85) (.t 87) (kB false))), (cQ 89 [82,88] (.pick (.t 82) (kB true) (.t 88))), (cMv 90 89), (gMv 91 90 false 7), (gQ 92 90 false [91] (.bin .eql (.t 91) (kI 3))), (cQ 93 [90,92] (.pick (.t 90) (kB true) (.t 92))), (cMv 94 93), (gQ 95 94 true [] (.call (kF 17) [])), (cQ 96 [94,95] (.pick (.t 94) (.t 95) (kB false))), (cMv 6 96)]) .ret)))))))))))))
def pu10 : List Nat := [3]
def rs10 : List RV := [.t 6]
theorem cc10 : comp Try.prog pu10 (Try.f10.ntmps, 0) 0 1 rc10 (Try.f10.body.getD .skip) = some rc10 := by kernel_rfl
theorem cb10 : Try.f10.body = some (Try.f10.body.getD .skip) := by kernel_rfl
theorem cs10 : resRV Try.prog Try.f10.results.toList = some rs10 := by kernel_rfl
theorem cn10 : 3 ≤ Try.f10.ntmps := by decide
end Go.C02
set_option linter.unusedSimpArgs false
set_option linter.unusedVariables false
namespace Go.C02
open Go.Fam Go.Proofs
section
variable (f : Fig) (l k : List Int) (n : Int)
theorem b19 : HB 19 [.ag (eFig f)] = (True, eLE (badR f)) := y19 f
theorem b38 : HB 38 [.ag (eFig f), .i n] = (f.dome.gores.length < 1000000, eNE (meetsR f n)) := y38 f n
theorem b24 : HB 24 [.ag (eFig f)] = (True, .b (farRing f)) := z24 f
theorem b23 : HB 23 [.sl 1 (l.map eI), .i n] = (l.length < 10000000, .b (decide (n ∈ l))) := z23 l n
theorem b36 : HB 36 [.ag (eFig f)] = (f.starts.length < 10000000 ∧ f.times.length < 10000000, .i (openE f true)) := z36 f
end
theorem Ok21.lens {f : Fig} (h : Ok21 f) : f.starts.length < 10000000 ∧ f.times.length < 10000000 := ⟨by have := h.s; omega, by have := h.t; omega⟩
end Go.C02
set_option maxRecDepth 8000
namespace Go.C02.N
open Go.Fam Go.Proofs
end Go.C02.N
set_option linter.unusedSimpArgs false
set_option linter.unusedVariables false
namespace Go.C02
open Go.Fam Go.Proofs
theorem mem_bad {f : Fig} {n : Nat} {x : Int} : x ∈ badTo f n ↔ (0 ≤ x ∧ x < n) ∧ ownN (ringOf f) x ≠ 1 := by
  unfold badTo
  simp only [Zf, List.mem_map, Zg, decide_eq_true_eq]
  constructor
  · rintro ⟨⟨i, hi, rfl⟩, h⟩
    exact ⟨by omega, h⟩
  · rintro ⟨h1, h2⟩
    exact ⟨⟨x.toNat, by omega, by omega⟩, h2⟩
theorem ownN_many {f : Fig} (h : figCheck f = 0) {seam : Int} (hs : 0 ≤ seam ∧ seam < f.starts.length) {l : List Int} (hl : (boltsOf f)[seam.toNat]? = some l) :
    ownN (ringOf f) seam = if manyBy f l f.starts seam = l.length then 1 else if manyBy f l f.starts seam = 0 then 2 else 3 := by
  have hv := validF_of h
  have hns := hv.ns
  obtain ⟨hl1, hl2⟩ := numbers_in h l (Q0 hl)
  unfold ownN meetsN
  rw [movesAt_bolts hl, manyBy_eq hv.period.1 hv.run (fun s hs => by have := hl2 s hs; omega), Qd]
  have hml : (ringOf f).moves.length = f.starts.length := by rw [hns]; simp [ringOf]
  rw [hml]; rfl
theorem truth_mem {d : Dome} (hd : Valid d) {l : List Int} (h : isTruth d l = true) {g : Int} (hg : 0 ≤ g ∧ g < d.bolts.length) : l.length = d.bolts.length ∧ ∃ s, l[g.toNat]? = some s ∧ s ∈ numbersOf (boltAt d g) := by
  unfold isTruth at h
  rw [Q6, decide_eq_true_eq, List.all_eq_true] at h
  obtain ⟨h1, h2⟩ := h
  refine ⟨h1, ?_⟩
  obtain ⟨s, hs⟩ : ∃ s, l[g.toNat]? = some s := ⟨_, Q5 (by omega)⟩
  refine ⟨s, hs, ?_⟩
  have := h2 g.toNat (Zg.2 (by omega))
  rw [hs, Qz, show ((g.toNat : Nat) : Int) = g by omega] at this
  simp only [numbersOf, Zf, mem_ints]
  refine ⟨?_, this⟩
  unfold can at this
  simp only [Q6, within, decide_eq_true_eq] at this
  omega
end Go.C02
set_option linter.unusedSimpArgs false
set_option linter.unusedVariables false
namespace Go.C02
open Go.Fam Go.Proofs
theorem b37 (d : Dome) (l : List Int) : HB 37 [.ag (eDome d), .sl 1 (l.map eI)] = (Valid d, .b (isTruth d l)) :=
  (show HB 37 _ = r35 (eDL (d, l)) from rfl).trans (fnG_at _ (dDL_e _))
theorem b39 (f : Fig) (l : List Int) (n m : Int) : HB 39 [.ag (eFig f), .sl 1 (l.map eI), .i n, .i m] = (Ok39 f l n m, .b (meetsBy f l n m)) := q39 f l n m
set_option maxRecDepth 20000 in
set_option maxHeartbeats 4000000 in
theorem P10 (f : Fig) (truth : List Int) (seam : Int) : PureCall Try.prog 10 [.ag (eFig f), .sl 1 (truth.map eI), .i seam] (.b true) := by
  refine pure_body okHB hmix Try.func10 cb10 cc10 cs10 cn10 ?_
  have g1 := b24 f
  have g2 := b36 f
  have g3 := b37 f.dome truth
  have g4 := b38 f seam
  have g5 := b19 f
  have g9 := b17
  simp only [eFig, eDome, eNE, eLE] at g1 g2 g3 g4 g5
  cases hf : farRing f with
  | true => simp only [rc10, rs10, g1, g9, hf, ru_reg, ru_seq, ru_cnd, ru_ret, ru_keep, thenQ, run_nil, run_cons, Fam.step, stepQ, needQ, condB, ug, evO, opv, qv, pickV_bb, pickV_t, binV, ldV, lenV, callV, V.cells, solid, hasRef, hasRefL, flat, upd_some, lkp_cons, lkp_nil, ↓reduceIte, Nat.reduceEqDiff, Nat.reduceAdd, Nat.reduceLT, Nat.reduceLeDiff, Ql, Qr, Qm, Qs, Qe, Qg, Qa, Qj, Qb, Qk, Qn, Qh, Qi, endQ, rvs, rv1, resV, vw_i, vw_b, vw_sl, vw_ag, zipA, Qt, Qo, Qu, Qp, Qq, Qc, Qf, true_and, and_true, and_self, false_and, forall_const, false_implies, implies_true, reduceCtorEq, beq_false, imp_self, Qd, eFig]
  | false =>
    have h21 := farRing_ok hf
    obtain ⟨hs, ht⟩ := h21.lens
    by_cases he : openE f true = 0
    case neg => simp only [rc10, rs10, g1, g2, g9, hf, hs, ht, he, ru_reg, ru_seq, ru_cnd, ru_ret, ru_keep, thenQ, run_nil, run_cons, Fam.step, stepQ, needQ, condB, ug, evO, opv, qv, pickV_bb, pickV_t, binV, ldV, lenV, callV, V.cells, solid, hasRef, hasRefL, flat, upd_some, lkp_cons, lkp_nil, ↓reduceIte, Nat.reduceEqDiff, Nat.reduceAdd, Nat.reduceLT, Nat.reduceLeDiff, Ql, Qr, Qm, Qs, Qe, Qg, Qa, Qj, Qb, Qk, Qn, Qh, Qi, endQ, rvs, rv1, resV, vw_i, vw_b, vw_sl, vw_ag, zipA, beq_self_eq_true, Qt, Qo, Qu, Qp, Qq, Qy, Qc, Qf, decide_false, true_and, and_true, and_self, false_and, forall_const, false_implies, implies_true, reduceCtorEq, beq_false, imp_self, Qd, eFig]
    obtain ⟨h1, _, hp⟩ := openE_ok he
    have hv := validF_of h1
    have hd := hv.dome
    have hns := hv.ns
    have hng := hd.ng
    cases hT : isTruth f.dome truth with
    | false => simp only [rc10, rs10, g1, g2, g3, g9, hf, hs, ht, he, hd, hT, ru_reg, ru_seq, ru_cnd, ru_ret, ru_keep, thenQ, run_nil, run_cons, Fam.step, stepQ, needQ, condB, ug, evO, opv, qv, pickV_bb, binV, ldV, lenV, callV, V.cells, solid, hasRef, hasRefL, flat, upd_some, lkp_cons, lkp_nil, ↓reduceIte, Nat.reduceEqDiff, Nat.reduceAdd, Nat.reduceLT, Nat.reduceLeDiff, Ql, Qr, Qm, Qs, Qe, Qg, Qa, Qj, Qb, Qk, Qn, Qh, Qi, endQ, rvs, rv1, resV, vw_i, vw_b, vw_sl, vw_ag, zipA, beq_self_eq_true, Qt, Qo, Qu, Qp, Qq, Qy, Qc, Qf, decide_true, and_true, and_self, forall_const, implies_true, reduceCtorEq, beq_false, imp_self, Qd, eFig]
    | true =>
      by_cases hs1 : seam < 0
      · simp only [rc10, rs10, g1, g2, g3, g9, hf, hs, ht, he, hd, hT, hs1, ru_reg, ru_seq, ru_cnd, ru_ret, ru_keep, thenQ, run_nil, run_cons, Fam.step, stepQ, needQ, condB, ug, evO, opv, qv, pickV_bb, binV, ldV, lenV, callV, V.cells, solid, hasRef, hasRefL, flat, upd_some, lkp_cons, lkp_nil, ↓reduceIte, Nat.reduceEqDiff, Nat.reduceAdd, Nat.reduceLT, Nat.reduceLeDiff, Ql, Qr, Qm, Qs, Qe, Qg, Qa, Qj, Qb, Qk, Qn, Qh, Qi, endQ, rvs, rv1, resV, vw_i, vw_b, vw_sl, vw_ag, zipA, beq_self_eq_true, Qt, Qo, Qu, Qp, Qq, Qc, Qf, decide_true, and_true, and_self, forall_const, implies_true, reduceCtorEq, beq_false, imp_self, Qd, eFig]
      by_cases hs2 : (f.starts.length : Int) ≤ seam
      · simp only [rc10, rs10, g1, g2, g3, g9, hf, hs, ht, he, hd, hT, hs1, hs2, ru_reg, ru_seq, ru_cnd, ru_ret, ru_keep, thenQ, run_nil, run_cons, Fam.step, stepQ, needQ, condB, ug, evO, opv, qv, pickV_bb, binV, ldV, lenV, callV, V.cells, solid, hasRef, hasRefL, flat, upd_some, lkp_cons, lkp_nil, ↓reduceIte, Nat.reduceEqDiff, Nat.reduceAdd, Nat.reduceLT, Nat.reduceLeDiff, Ql, Qr, Qm, Qs, Qe, Qg, Qa, Qj, Qb, Qk, Qn, Qh, Qi, endQ, rvs, rv1, resV, vw_i, vw_b, vw_sl, vw_ag, zipA, beq_self_eq_true, Qt, Qo, Qp, Qq, Qc, decide_true, decide_false, and_self, forall_const, implies_true, reduceCtorEq, Qd, eFig]
      have hw : within seam 0 ((f.dome.gores.length : Int) - 1) = true := by simp only [within, Q6, decide_eq_true_eq]; omega
      obtain ⟨g, hg⟩ : ∃ g, f.dome.gores[seam.toNat]? = some g := ⟨_, Q5 (by omega)⟩
      have hgm := hd.gores g (Q0 hg)
      obtain ⟨htl, s, hs0, hsm⟩ := truth_mem hd hT (g := g) (by omega)
      have hlb : (boltsOf f)[seam.toNat]? = some (numbersOf (boltAt f.dome g)) := by simp [boltsOf, hg]
      have hom := ownN_many h1 (seam := seam) (by omega) hlb
      obtain ⟨hl1, hl2⟩ := numbers_in h1 _ (Q0 hlb)
      have hss := hl2 s hsm
      have g6 := b39 f f.starts seam s
      unfold eFig at g6
      have hok : Ok39 f f.starts seam s := ⟨hv.period, hv.run, by omega, by omega, by omega, fun x hx => by have := hv.starts x hx; have := hv.period; unfold tame; omega⟩
      have hme : meetsR f seam = (ownN (ringOf f) seam, 0) := by unfold meetsR; rw [hw, if_pos he]
      have hbr : badR f = (badTo f f.dome.gores.length, 0) := by unfold badR; rw [if_pos he]
      rw [hme] at g4
      rw [hbr] at g5
      have hbl : (badTo f f.dome.gores.length).length < 10000000 := by have := badTo_len f f.dome.gores.length; omega
      have hmb : decide (seam ∈ badTo f f.dome.gores.length) = decide (ownN (ringOf f) seam ≠ 1) := by
        simp only [decide_eq_decide, mem_bad]
        exact ⟨fun h => h.2, fun h => ⟨by omega, h⟩⟩
      have hgl : f.dome.gores.length < 1000000 := by omega
      have i1 : 0 ≤ seam := by omega
      have i2 : seam < f.dome.gores.length := by omega
      have i3 : 0 ≤ g := by omega
      have i4 : g < truth.length := by omega
      have g7 := b23 (badTo f f.dome.gores.length) seam
      rw [hmb] at g7
      have hmany : (ownN (ringOf f) seam = 1 → meetsBy f f.starts seam s = true) ∧ (ownN (ringOf f) seam = 2 → meetsBy f f.starts seam s = false) := by
        rw [hom]
        constructor
        · intro h
          have : manyBy f (numbersOf (boltAt f.dome g)) f.starts seam = (numbersOf (boltAt f.dome g)).length := by
            refine Classical.byContradiction fun hn => ?_
            rw [if_neg hn] at h
            split at h <;> cases h
          exact List.filter_eq_self.1 (List.Sublist.eq_of_length List.filter_sublist this) s hsm
        · intro h
          have : manyBy f (numbersOf (boltAt f.dome g)) f.starts seam = 0 := by
            refine Classical.byContradiction fun hn => ?_
            split at h
            · cases h
            · first | (rw [if_neg hn] at h; cases h) | cases h
          have := List.filter_eq_nil_iff.1 (List.eq_nil_of_length_eq_zero this) s hsm
          simpa using this
      have hthree : ownN (ringOf f) seam = 1 ∨ ownN (ringOf f) seam = 2 ∨ ownN (ringOf f) seam = 3 := by
        rw [hom]; split
        · exact .inl rfl
        · split
          · exact .inr (.inl rfl)
          · exact .inr (.inr rfl)
      rcases hthree with hm | hm | hm
      · have hmt := hmany.1 hm
        rw [hm] at g4 g7
        simp only [ne_eq, not_true_eq_false, decide_false] at g7
        simp only [rc10, rs10, g1, g2, g3, g4, g5, g6, g7, g9, hf, hs, ht, he, hd, hT, hs1, hs2, hgl, hbl, hg, i1, i2, i3, i4, hs0, hok, hmt, ru_skip, ru_reg, ru_any, ru_seq, ru_cnd, ru_ret, ru_keep, putBs, thenQ, run_nil, run_cons, Fam.step, stepQ, needQ, condB, ug, runX, eff, nextD, fpR, fpQ, fpV, disjB, hits, evO, opv, qv, pickV_bb, binV, ldV, iadV, lenV, callV, V.cells, solid, hasRef, hasRefL, flat, flatL, upd_some, lkp_cons, lkp_nil, ↓reduceIte, Nat.reduceEqDiff, Nat.reduceAdd, Nat.reduceLT, Nat.reduceLeDiff, Int.reduceEq, Ql, Qr, Qm, Qs, Qe, Qg, Qa, Qj, Qb, Qk, Qn, Qh, Q7, Za, Qi, Qw, Qx, Q2, Qz, Q8, Q1, Q9, endQ, rvs, rv1, resV, vw_i, vw_b, vw_sl, vw_ag, zipA, beq_self_eq_true, Qt, Qo, Qu, Zc, Qp, Qq, Qy, Qc, Qf, decide_true, decide_false, and_true, and_self, forall_const, implies_true, reduceCtorEq, Zb, Ze, Q3, beq_true, beq_false, Zd, imp_self, Qd, Qv, Q4, eI, eFig]
      · have hmt := hmany.2 hm
        rw [hm] at g4 g7
        simp only [ne_eq, Int.reduceEq, not_false_eq_true, decide_true] at g7
        simp only [rc10, rs10, g1, g2, g3, g4, g5, g6, g7, g9, hf, hs, ht, he, hd, hT, hs1, hs2, hgl, hbl, hg, i1, i2, i3, i4, hs0, hok, hmt, ru_skip, ru_reg, ru_any, ru_seq, ru_cnd, ru_ret, ru_keep, putBs, thenQ, run_nil, run_cons, Fam.step, stepQ, needQ, condB, ug, runX, eff, nextD, fpR, fpQ, fpV, disjB, hits, evO, opv, qv, pickV_bb, binV, ldV, iadV, lenV, callV, V.cells, solid, hasRef, hasRefL, flat, flatL, upd_some, lkp_cons, lkp_nil, ↓reduceIte, Nat.reduceEqDiff, Nat.reduceAdd, Nat.reduceLT, Nat.reduceLeDiff, Int.reduceEq, Ql, Qr, Qm, Qs, Qe, Qg, Qa, Qj, Qb, Qk, Qn, Qh, Q7, Za, Qi, Qw, Qx, Q2, Qz, Q8, Q1, Q9, endQ, rvs, rv1, resV, vw_i, vw_b, vw_sl, vw_ag, zipA, beq_self_eq_true, Qt, Qo, Qu, Zc, Qp, Qq, Qy, Qc, Qf, decide_true, decide_false, and_true, and_self, forall_const, implies_true, reduceCtorEq, Zb, Ze, Q3, beq_true, beq_false, Zd, imp_self, Qd, Qv, Q4, eI, eFig]
      · rw [hm] at g4 g7
        simp only [ne_eq, Int.reduceEq, not_false_eq_true, decide_true] at g7
        simp only [rc10, rs10, g1, g2, g3, g4, g5, g6, g7, g9, hf, hs, ht, he, hd, hT, hs1, hs2, hgl, hbl, hg, i1, i2, i3, i4, hs0, hok, ru_skip, ru_reg, ru_any, ru_seq, ru_cnd, ru_ret, ru_keep, putBs, thenQ, run_nil, run_cons, Fam.step, stepQ, needQ, condB, ug, runX, eff, nextD, fpR, fpQ, fpV, disjB, hits, evO, opv, qv, pickV_bb, binV, ldV, iadV, lenV, callV, V.cells, solid, hasRef, hasRefL, flat, flatL, upd_some, lkp_cons, lkp_nil, ↓reduceIte, Nat.reduceEqDiff, Nat.reduceAdd, Nat.reduceLT, Nat.reduceLeDiff, Int.reduceEq, Ql, Qr, Qm, Qs, Qe, Qg, Qa, Qj, Qb, Qk, Qn, Qh, Q7, Za, Qi, Qw, Qx, Q2, Qz, Q8, Q1, Q9, endQ, rvs, rv1, resV, vw_i, vw_b, vw_sl, vw_ag, zipA, beq_self_eq_true, Qt, Qo, Qu, Zc, Bool.and_false, Qp, Qq, Qy, Qc, Qf, decide_true, decide_false, and_true, and_self, forall_const, implies_true, reduceCtorEq, Zb, Ze, Q3, beq_true, Zd, imp_self, Qd, Qv, Q4, eI, eFig]
end Go.C02
