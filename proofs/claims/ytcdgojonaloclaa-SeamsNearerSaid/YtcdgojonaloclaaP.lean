import Derived.Test.YtcdgojonaloclaaG3
import Derived.Test.YtcdgojonaloclaaChecked
import Derived.Test.YtcdgojonaloclaaG9
set_option linter.all false
open List renaming map_cons → Qb, append_nil → Qc, map_nil → Qd, length_cons → Qe, length_nil → Qf, take_succ_cons → Qg, headD_cons → Qm, length_map → Qn, getD_eq_getElem?_getD → Qp, all_cons → Qq, take_nil → Qr, getElem?_eq_getElem → Qt, getElem?_cons_zero → Qu, getElem?_cons_succ → Qv, all_nil → Qw, mem_of_getElem? → Qy, drop_succ_cons → Qz, set_cons_zero → Q1, getElem?_map → Q4, cons_append → Q5, nil_append → Q7, drop_zero → Zb, take_zero → Zc, filter_eq_self → Ze, drop_nil → Zf
open Nat renaming zero_add → Qj
open Bool renaming false_eq_true → Qa, or_false → Qh, not_true → Qi, true_eq_false → Ql, and_self → Qs, and_true → Qx, not_false → Q0, and_false → Zd, xor_self → Zg
open Option renaming getD_some → Qk, map_some → Za
open Int renaming lt_irrefl → Qo, natCast_nonneg → Q2, toNat_natCast → Q3, natCast_zero → Q6, natCast_add → Q8, natCast_one → Q9
set_option maxRecDepth 8000
namespace Go.C02
open Go.Fam Go.Proofs
def rc4 : RC := (.seq (.reg false [(cX 2 0), (cQ 4 [] (.mv (kB false)))]) (.keep [1,2] (.seq (.seq (.reg true [(cLd 19 2 true 11), (cQ 20 [19] (.call (kF 16) [(.t 19)])), (cN 21 20), (cMv 22 21), (gMv 23 22 false 1), (gQ 24 22 false [23] (.bin .lss (.t 23) (kI 0))), (cQ 25 [22,24] (.pick (.t 22) (kB true) (.t 24))), (cMv 26 25), (gMv 27 26 false 1), (gQ 28 26 false [27] (.bin .gtr (.t 27) (kI 60))), (cQ 29 [26,28] (.pick (.t 26) (kB true) (.t 28)))]) (.keep [1,2,29] (.cond (.t 29) (.seq (.reg false [(cQ 30 [] (.call (kF 17) [])), (cMv 4 30)]) .ret) .skip))) (.keep [1,2] (.seq (.reg false [(cLd 31 2 true 11), (cQ 32 [31] (.call (kF 21) [(.t 31)])), ⟨(some 5), none, [], none, .w (.alc [(.z 4), (.z 1), (.i 0), (.z 2), (.z 1), (.i 0), (.i 0), (.i 0), (.i 0), (.z 1), (.z 1)])⟩, ⟨none, none, [5,32], none, .w (.st 11 (.t 5) (.t 32))⟩]) (.keep [1,2,5] (.seq (.reg false [(cFa 33 2 6), (cLd 34 33 false 1), (cC 35 .quo 34 2), (cFa 36 2 8), (cLd 37 36 false 1), (cMv 38 1), (cB 39 .add 37 38), (cQ 40 [35,39] (.mn (.t 35) (.t 39))), (cFa 41 5 8), ⟨none, none, [41,40], none, .w (.st 1 (.t 41) (.t 40))⟩]) (.keep [2,5] (.seq (.reg false [(cLd 43 2 true 11), (cQ 44 [43] (.call (kF 18) [(.t 43)])), (cMv 42 44), (cEx 45 42 0), (cEx 46 42 1), (cMv 6 45), (cMv 7 46)]) (.keep [2,5,6,7] (.seq (.reg false [(cLd 48 5 true 11), (cQ 49 [48] (.call (kF 18) [(.t 48)])), (cMv 47 49), (cEx 50 47 0), (cEx 51 47 1), (cMv 8 50), (cMv 9 51)]) (.keep [2,5,6,7,8,9] (.seq (.reg false [(cLd 53 2 true 11), (cQ 54 [53] (.call (kF 22) [(.t 53)])), (cMv 52 54), (cEx 55 52 0), (cEx 56 52 1), (cMv 10 55), (cMv 11 56)]) (.keep [2,5,6,7,8,9,10,11] (.seq (.reg false [(cLd 58 5 true 11), (cQ 59 [58] (.call (kF 22) [(.t 58)])), (cMv 57 59), (cEx 60 57 0), (cEx 61 57 1), (cMv 12 60), (cMv 13 61)]) (.keep [2,5,6,7,8,9,10,11,12,13] (.seq (.reg false [(cLd 63 2 true 11), (cQ 64 [63] (.call (kF 19) [(.t 63)])), (cMv 62 64), (cEx 65 62 0), (cEx 66 62 1), (cMv 14 65), (cMv 15 66)]) (.keep [2,5,6,7,8,9,10,11,12,13,14,15] (.seq (.reg false [(cLd 68 5 true 11), (cQ 69 [68] (.call (kF 19) [(.t 68)])), (cMv 67 69), (cEx 70 67 0), (cEx 71 67 1), (cMv 16 70), (cMv 17 71)]) (.keep [2,5,6,7,8,9,10,11,12,13,14,15,16,17] (.seq (.seq (.reg true [(cMv 72 11), (cC 73 .neq 72 0), (cMv 74 73), (gMv 75 74 false 13), (gQ 76 74 false [75] (.bin .neq (.t 75) (kI 0))), (cQ 77 [74,76] (.pick (.t 74) (kB true) (.t 76))), (cMv 78 77), (gMv 79 78 false 15), (gQ 80 78 false [79] (.bin .neq (.t 79) (kI 0))), (cQ 81 [78,80] (.pick (.t 78) (kB true) (.t 80))), (cMv 82 81), (gMv 83 82 false 17), (gQ 84 82 false [83] (.bin .neq (.t 83) (kI 0))), (cQ 85 [82,84] (.pick (.t 82) (kB true) (.t 84))), (cMv 86 85), (gMv 87 86 false 10), (gMv 88 86 false 12), (gQ 89 86 false [87,88] (.bin .neq (.t 87) (.t 88))), (cQ 90 [86,89] (.pick (.t 86) (kB true) (.t 89))), (cMv 91 90), (gMv 92 91 false 10), (gQ 93 91 false [92] (.bin .lss (.t 92) (kI 0))), (cQ 94 [91,93] (.pick (.t 91) (kB true) (.t 93))), (cMv 95 94), (gMv 96 95 false 10), (gQ 97 95 false [2] (.fad 6 (.t 2))), (gQ 98 95 false [97] (.ld false 1 (.t 97))), (gQ 99 95 false [98] (.bin .quo (.t 98) (kI 2))), (gQ 100 95 false [96,99] (.bin .gtr (.t 96) (.t 99))), (cQ 101 [95,100] (.pick (.t 95) (kB true) (.t 100))), (cMv 102 101), (gMv 103 102 false 7), (gQ 104 102 false [103] (.bin .neq (.t 103) (kI 0))), (gMv 105 102 false 104), (gMv 106 105 true 7), (gQ 107 105 true [106] (.bin .neq (.t 106) (kI 3))), (gQ 108 102 false [105,107] (.pick (.t 105) (.t 107) (kB false))), (cQ 109 [102,108] (.pick (.t 102) (kB true) (.t 108))), (cMv 110 109), (gMv 111 110 false 7), (gQ 112 110 false [111] (.bin .eql (.t 111) (kI 0))), (gQ 113 110 false [2] (.fad 8 (.t 2))), (gQ 114 110 false [113] (.ld false 1 (.t 113))), (gMv 115 110 false 10), (gQ 116 110 false [114,115] (.bin .geq (.t 114) (.t 115))), (gQ 117 110 false [112,116] (.bq true (.t 112) (.t 116))), (cQ 118 [110,117] (.pick (.t 110) (kB true) (.t 117))), (cMv 119 118), (gMv 120 119 false 9), (gQ 121 119 false [120] (.bin .eql (.t 120) (kI 0))), (gQ 122 119 false [5] (.fad 8 (.t 5))), (gQ 123 119 false [122] (.ld false 1 (.t 122))), (gMv 124 119 false 10), (gQ 125 119 false [123,124] (.bin .geq (.t 123) (.t 124))), (gQ 126 119 false [121,125] (.bq true (.t 121) (.t 125))), (cQ 127 [119,126] (.pick (.t 119) (kB true) (.t 126))), (cMv 128 127), (gMv 129 128 false 7), (gQ 130 128 false [129] (.bin .eql (.t 129) (kI 0))), (gMv 131 128 false 130), (gMv 132 131 true 8), (gMv 133 131 true 6), (gQ 134 131 true [132,133] (.bin .gtr (.t 132) (.t 133))), (gQ 135 128 false [131,134] (.pick (.t 131) (.t 134) (kB false))), (cQ 136 [128,135] (.pick (.t 128) (kB true) (.t 135)))]) (.keep [14,16,136] (.cond (.t 136) (.seq (.reg false [(cQ 4 [] (.mv (kB false)))]) .ret) .skip))) (.keep [14,16] (.seq (.seq (.reg false [(cI 18 0)]) (.keep [14,16,18] (.block 0 (.loop [14,16,18] none (.seq (.seq (.reg false [(cMv 137 18), (cMv 138 16), (cLn 139 138), (cB 140 .lss 137 139)]) (.keep [14,16,18,140] (.cond (.t 140) .skip (.exit 0)))) (.keep [14,16,18] (.seq (.block 1 (.seq (.reg false [(cMv 143 14), (cMv 144 16), (cMv 145 18), (cA 146 1 144 145), (cLd 147 146 false 1), (cQ 148 [143,147] (.call (kF 23) [(.t 143), (.t 147)])), (cN 149 148)]) (.keep [14,16,18,149] (.cond (.t 149) (.seq (.reg false [(cQ 4 [] (.mv (kB false)))]) .ret) .skip)))) (.keep [14,16,18] (.reg false [(cMv 141 18), (cC 142 .add 141 1), (cMv 18 142)]))))))))) (.keep [] (.seq (.reg false [(cQ 150 [] (.call (kF 17) [])), (cMv 4 150)]) .ret)))))))))))))))))))))))))
def pu4 : List Nat := [2]
def rs4 : List RV := [.t 4]
theorem cc4 : comp Try.prog pu4 (Try.f4.ntmps, 0) 0 1 rc4 (Try.f4.body.getD .skip) = some rc4 := by kernel_rfl
theorem cb4 : Try.f4.body = some (Try.f4.body.getD .skip) := by kernel_rfl
theorem cs4 : resRV Try.prog Try.f4.results.toList = some rs4 := by kernel_rfl
theorem cn4 : 2 ≤ Try.f4.ntmps := by decide
end Go.C02
set_option linter.unusedSimpArgs false
set_option linter.unusedVariables false
namespace Go.C02
open Go.Fam Go.Proofs
section
variable (f : Fig) (l k : List Int) (n : Int)
theorem b18 : HB 18 [.ag (eFig f)] = (True, eNE (leastR f)) := y18 f
theorem b22 : HB 22 [.ag (eFig f)] = (True, eNE (closestR f)) := y22 f
theorem b19 : HB 19 [.ag (eFig f)] = (True, eLE (badR f)) := y19 f
theorem b21 : HB 21 [.ag (eFig f)] = (Ok21 f, .ag (eFig f)) := z21 f
theorem b23 : HB 23 [.sl 1 (l.map eI), .i n] = (l.length < 10000000, .b (decide (n ∈ l))) := z23 l n
theorem b16 : HB 16 [.ag (eFig f)] = (True, .b (readyF f)) :=
  (show HB 16 _ = fnG (fun f => [.ag (eFig f)]) decF (fun _ => True) readyF .b [.ag (eFig f)] from rfl).trans (fnG_at _ (dFig_e _))
end
end Go.C02
set_option maxRecDepth 8000
namespace Go.C02.N
open Go.Fam Go.Proofs
end Go.C02.N
set_option linter.unusedSimpArgs false
set_option linter.unusedVariables false
namespace Go.C02
open Go.Fam Go.Proofs
theorem mem_bad {f : Fig} {n : Nat} {x : Int} : x ∈ badTo f n ↔ (0 ≤ x ∧ x < n) ∧ ownN (ringOf f) x ≠ 1 := by
  unfold badTo
  simp only [List.mem_filter, List.mem_map, List.mem_range, decide_eq_true_eq]
  constructor
  · rintro ⟨⟨i, hi, rfl⟩, h⟩
    exact ⟨by omega, h⟩
  · rintro ⟨h1, h2⟩
    exact ⟨⟨x.toNat, by omega, by omega⟩, h2⟩
theorem least_cases {f : Fig} (h : openE f true = 0) : (leastR f = (0, 3) ∧ ∀ l, ¬ NB (ringOf f) f.near l) ∨ (∃ l, NB (ringOf f) f.near l ∧ leastR f = (l.sum, 0) ∧ 0 ≤ l.sum ∧ ∀ l', NB (ringOf f) f.near l' → l.sum ≤ l'.sum) := by
  obtain ⟨h1, _, _⟩ := openE_ok h
  have hb := fun l => begs_iff (okR_of h1) f.near l
  unfold leastR
  rw [if_pos h]
  rcases leastV_spec h1 with ⟨e, hno⟩ | ⟨l, hl, e, h0, hmin⟩
  · have : BestOf (Begs (ringOf f) f.near) none := fun l hl => hno l ((hb l).1 hl)
    rw [leastB_eq this]
    exact .inl ⟨rfl, hno⟩
  · have : BestOf (Begs (ringOf f) f.near) (some l) := ⟨(hb l).2 hl, fun l' hl' => hmin l' ((hb l').1 hl')⟩
    rw [leastB_eq this]
    exact .inr ⟨l, hl, rfl, h0, hmin⟩
end Go.C02
set_option linter.unusedSimpArgs false
set_option linter.unusedVariables false
namespace Go.C02
open Go.Fam Go.Proofs
end Go.C02
set_option linter.unusedSimpArgs false
set_option linter.unusedVariables false
namespace Go.C02
open Go.Fam Go.Proofs
theorem good_all {p : Int} {ms : List Int} {later near : Int} : goodN p ms later near = ms.length ↔ ∀ x ∈ ms, farN p x later ≤ near := by
  unfold goodN
  constructor
  · intro h x hx
    have := Ze.1 (List.Sublist.eq_of_length List.filter_sublist h) x hx
    simpa using this
  · intro h
    rw [Ze.2 fun x hx => decide_eq_true (h x hx)]
theorem meets_mono {p : Int} {ms : List Int} {later near near' : Int} (h : meetsN p ms later near = 1) (hn : near ≤ near') : meetsN p ms later near' = 1 := by
  rw [meets_one, good_all] at h ⊢
  intro x hx
  have := h x hx
  omega
theorem nb_mono {r : Ring} {near near' : Int} (hn : near ≤ near') {l : List Int} (h : NB r near l) : NB r near' l :=
  ⟨h.len, h.in_, fun i hi => meets_mono (h.meet i hi) hn⟩
theorem closest_iff {r : Ring} (h : OkR r) {near : Int} (h0 : 0 ≤ near) : (∃ l, NB r near l) ↔ (closestN r : Int) ≤ near := by
  obtain ⟨c1, c2, c3⟩ := closestN_spec h
  constructor
  · intro hx
    rw [← closed_iff h near, ← closedB_iff] at hx
    refine Classical.byContradiction fun hn => ?_
    have := c3 near.toNat (by omega)
    rw [show ((near.toNat : Nat) : Int) = near by omega, hx] at this
    cases this
  · intro hx
    rw [closedB_iff, closed_iff h] at c2
    obtain ⟨l, hl⟩ := c2
    exact ⟨l, nb_mono hx hl⟩
theorem closest_near (f : Fig) (n : Int) : closestN (ringOf (withNear f n)) = closestN (ringOf f) := rfl
set_option maxRecDepth 20000 in
set_option maxHeartbeats 4000000 in
theorem P4 (f : Fig) (more : Int) : PureCall Try.prog 4 [.ag (eFig f), .i more] (.b true) := by
  refine pure_body okHB hmix Try.func4 cb4 cc4 cs4 cn4 ?_
  have g1 := b16 f
  have g2 := b21 f
  have g9 := b17
  simp only [eFig] at g1 g2
  cases hf : readyF f with
  | false => simp only [rc4, rs4, g1, g9, hf, ru_reg, ru_seq, ru_cnd, ru_ret, ru_keep, thenQ, run_nil, run_cons, Fam.step, stepQ, needQ, condB, ug, evO, opv, qv, pickV_bb, binV, ldV, callV, V.cells, solid, hasRef, hasRefL, flat, upd_some, lkp_cons, lkp_nil, ↓reduceIte, Nat.reduceEqDiff, Nat.reduceAdd, Nat.reduceLT, Nat.reduceLeDiff, Qb, Qd, Qq, Qw, Qe, Qf, Qg, Qr, Qc, endQ, rvs, rv1, resV, vw_i, vw_b, vw_sl, vw_ag, zipA, Qj, Qs, Qx, Qh, Qi, Q0, Qa, Ql, and_true, and_self, forall_const, implies_true, reduceCtorEq, beq_false, imp_self, eFig]
  | true =>
    have hf' := hf
    unfold readyF at hf'
    rw [Bool.and_eq_true, Bool.not_eq_true', decide_eq_true_eq] at hf'
    obtain ⟨hfar, he⟩ := hf'
    obtain ⟨h1, _, hp⟩ := openE_ok he
    have hv := validF_of h1
    have h21 := farRing_ok (farF_ring hfar)
    by_cases hm1 : more < 0
    case pos => simp only [rc4, rs4, g1, g9, hf, hm1, ru_reg, ru_seq, ru_cnd, ru_ret, ru_keep, thenQ, run_nil, run_cons, Fam.step, stepQ, needQ, condB, ug, evO, opv, qv, pickV_bb, binV, ldV, callV, V.cells, solid, hasRef, hasRefL, flat, upd_some, lkp_cons, lkp_nil, ↓reduceIte, Nat.reduceEqDiff, Nat.reduceAdd, Nat.reduceLT, Nat.reduceLeDiff, Qb, Qd, Qq, Qw, Qe, Qf, Qg, Qr, Qc, endQ, rvs, rv1, resV, vw_i, vw_b, vw_sl, vw_ag, zipA, beq_self_eq_true, Qj, Qs, Qx, Qh, Qi, Qa, Ql, decide_true, and_true, and_self, forall_const, implies_true, reduceCtorEq, beq_false, imp_self, eFig]
    by_cases hm2 : 60 < more
    case pos => simp only [rc4, rs4, g1, g9, hf, hm1, hm2, ru_reg, ru_seq, ru_cnd, ru_ret, ru_keep, thenQ, run_nil, run_cons, Fam.step, stepQ, needQ, condB, ug, evO, opv, qv, pickV_bb, binV, ldV, callV, V.cells, solid, hasRef, hasRefL, flat, upd_some, lkp_cons, lkp_nil, ↓reduceIte, Nat.reduceEqDiff, Nat.reduceAdd, Nat.reduceLT, Nat.reduceLeDiff, Qb, Qd, Qq, Qw, Qe, Qf, Qg, Qr, Qc, endQ, rvs, rv1, resV, vw_i, vw_b, vw_sl, vw_ag, zipA, beq_self_eq_true, Qj, Qs, Qh, Qi, Qa, decide_true, decide_false, and_self, forall_const, implies_true, reduceCtorEq, eFig]
    have hper := hv.period
    have hnear := hv.near
    have hng := hv.dome.ng
    have e2 : f.period.tdiv 2 = f.period / 2 := Int.tdiv_eq_ediv_of_nonneg (by omega)
    obtain ⟨n', hn'⟩ : ∃ n', n' = min (f.period / 2) (f.near + more) := ⟨_, rfl⟩
    have i1 : inI (f.period / 2) := by unfold inI; omega
    have i2 : inI (f.near + more) := by unfold inI; omega
    have hn1 : 0 ≤ n' ∧ n' ≤ f.period / 2 := by omega
    have hn2 : f.near ≤ n' := by omega
    have hw := withNear_ok h1 hn1
    have he' : openE (withNear f n') true = 0 := by simp [openE, hw]; exact hp
    have g3 := b18 f
    have g4 := b18 (withNear f n')
    have g5 := b22 f
    have g6 := b22 (withNear f n')
    have g7 := b19 f
    have g8 := b19 (withNear f n')
    have hR := okR_of h1
    obtain ⟨c1, c2, c3⟩ := closestN_spec hR
    have hpe : (ringOf f).fig.period = f.period := rfl
    rw [hpe] at c1
    obtain ⟨c, hc⟩ : ∃ c : Int, c = (closestN (ringOf f) : Nat) := ⟨_, rfl⟩
    have hcl : closestR f = (c, 0) := by unfold closestR; rw [if_pos he, hc]
    have hcl' : closestR (withNear f n') = (c, 0) := by unfold closestR; rw [if_pos he', closest_near, hc]
    have hbr : badR f = (badTo f f.dome.gores.length, 0) := by unfold badR; rw [if_pos he]
    have hbr' : badR (withNear f n') = (badTo (withNear f n') f.dome.gores.length, 0) := by unfold badR; rw [if_pos he']; rfl
    have hci := closest_iff hR (near := f.near) hnear.1
    have hci' := closest_iff hR (near := n') hn1.1
    rw [← hc] at hci hci'
    rw [hcl] at g5
    rw [hcl'] at g6
    rw [hbr] at g7
    rw [hbr'] at g8
    have hsub : ∀ x, x ∈ badTo (withNear f n') f.dome.gores.length → x ∈ badTo f f.dome.gores.length := by
      intro x hx
      rw [mem_bad] at hx ⊢
      refine ⟨hx.1, fun h => hx.2 ?_⟩
      exact meets_mono h hn2
    obtain ⟨B, hB⟩ : ∃ B, B = badTo (withNear f n') f.dome.gores.length := ⟨_, rfl⟩
    rw [← hB] at g8 hsub
    have hBl : B.length < 10000000 := by have := badTo_len (withNear f n') f.dome.gores.length; rw [hB]; omega
    have hAl : (badTo f f.dome.gores.length).length < 10000000 := by have := badTo_len f f.dome.gores.length; omega
    have i3 : ¬ c < 0 := by omega
    have i4 : ¬ f.period / 2 < c := by omega
    simp only [eFig, eNE, eLE, withNear] at g3 g4 g5 g6 g7 g8
    rcases least_cases he with ⟨hle, hno⟩ | ⟨l, hl, hle, h0, hmin⟩
    · have k1 : ¬ c ≤ f.near := fun h => by obtain ⟨l, hl⟩ := hci.2 h; exact hno l hl
      rw [hle] at g3
      rcases least_cases he' with ⟨hle', hno'⟩ | ⟨l', hl', hle', h0', hmin'⟩
      · have k2 : ¬ c ≤ n' := fun h => by obtain ⟨l, hl⟩ := hci'.2 h; exact hno' l ((nb_near f n' n' l).2 hl)
        simp only [withNear] at hle'
        rw [hle'] at g4
        simp only [rc4, rs4, g1, g2, g3, g4, g5, g6, g7, g8, hf, hm1, hm2, h21, e2, i1, i2, i3, i4, ← hn', k1, k2, ru_skip, ru_reg, ru_seq, ru_cnd, ru_block, ru_keep, putB, thenQ, run_nil, run_cons, Fam.step, stepQ, stepW, needQ, needW, condB, ug, putB, nv, sv, evO, opv, qv, pickV_bb, binV, ldV, curG, callV, putAt, V.cells, solid, cellOk, hasRef, hasRefL, flat, flatL, upd_some, upd_none, lkp_cons, lkp_nil, ↓reduceIte, Nat.reduceEqDiff, Nat.reduceAdd, Nat.reduceLT, Nat.reduceLeDiff, Int.reduceEq, Qb, Qd, Qq, Qw, Qe, Qf, Qz, Zb, Zf, Qg, Zc, Qr, Qm, Q5, Q7, Qc, Qu, Qv, Qk, Q1, vw_i, vw_sl, vw_ag, zipA, Qo, beq_self_eq_true, Qj, Qs, Qx, Zd, Qh, Qi, Q0, Qa, Ql, decide_true, decide_false, true_and, and_true, and_self, forall_const, implies_true, reduceCtorEq, not_false_eq_true, ne_eq, beq_true, Zg, imp_self, eFig]
        refine ru_count B.length (fun i => ⟨lkp [(14, .sl 1 ((badTo f f.dome.gores.length).map eI)), (16, .sl 1 (B.map eI)), (18, .i i)], [.cells 0 (eFig (withNear f n'))]⟩) ?_ ?_ ?_
        · simp only [Q6, withNear, kp, lkp_cons, lkp_nil, ↓reduceIte, Nat.reduceEqDiff, Qb, Qd, eFig]
        · intro i hi
          obtain ⟨x, hx⟩ : ∃ x, B[i]? = some x := ⟨_, Qt hi⟩
          have hlt : (i : Int) < B.length := by omega
          have h3 : inI ((i : Int) + 1) := by unfold inI; omega
          have h4 := b23 (badTo f f.dome.gores.length) x
          rw [decide_eq_true (hsub x (Qy hx))] at h4
          simp only [hx, hlt, h3, h4, hAl, withNear, Q8, Q9, ru_skip, ru_reg, ru_seq, ru_cnd, ru_block, ru_keep, thenQ, blockQ, run_nil, run_cons, Fam.step, stepQ, evO, opv, qv, binV, ldV, iadV, lenV, callV, hasRef, hasRefL, flat, kp, upd_some, lkp_cons, lkp_nil, ↓reduceIte, Nat.reduceEqDiff, Nat.reduceLT, Nat.reduceLeDiff, Qb, Qd, Qe, Qf, Qm, Qc, Qk, vw_i, vw_sl, Q2, Qj, Qh, Qi, Qa, decide_true, and_self, implies_true, Za, Qn, Q3, Qp, Q4, eI, eFig]
        · simp only [Qo, g9, ru_reg, ru_seq, ru_cnd, ru_exit, ru_ret, ru_keep, thenQ, blockQ, run_nil, run_cons, Fam.step, stepQ, evO, opv, qv, binV, lenV, callV, hasRefL, flat, upd_some, lkp_cons, lkp_nil, ↓reduceIte, Nat.reduceEqDiff, Nat.reduceLT, Qb, Qd, Qc, endQ, rvs, rv1, resV, vw_b, Qo, Qa, decide_false, and_self, implies_true, Qn, eFig]
      · have k2 : c ≤ n' := hci'.1 ⟨l', (nb_near f n' n' l').1 hl'⟩
        simp only [withNear] at hle'
        rw [hle'] at g4
        simp only [rc4, rs4, g1, g2, g3, g4, g5, g6, g7, g8, hf, hm1, hm2, h21, e2, i1, i2, i3, i4, ← hn', k1, k2, ru_skip, ru_reg, ru_seq, ru_cnd, ru_block, ru_keep, putB, thenQ, run_nil, run_cons, Fam.step, stepQ, stepW, needQ, needW, condB, ug, putB, nv, sv, evO, opv, qv, pickV_bb, binV, ldV, curG, callV, putAt, V.cells, solid, cellOk, hasRef, hasRefL, flat, flatL, upd_some, upd_none, lkp_cons, lkp_nil, ↓reduceIte, Nat.reduceEqDiff, Nat.reduceAdd, Nat.reduceLT, Nat.reduceLeDiff, Int.reduceEq, Qb, Qd, Qq, Qw, Qe, Qf, Qz, Zb, Zf, Qg, Zc, Qr, Qm, Q5, Q7, Qc, Qu, Qv, Qk, Q1, vw_i, vw_sl, vw_ag, zipA, beq_self_eq_true, Qj, Qs, Qx, Zd, Qh, Qi, Q0, Qa, Ql, decide_true, decide_false, true_and, and_true, and_self, forall_const, implies_true, reduceCtorEq, not_false_eq_true, ne_eq, beq_true, Zg, imp_self, eFig]
        refine ru_count B.length (fun i => ⟨lkp [(14, .sl 1 ((badTo f f.dome.gores.length).map eI)), (16, .sl 1 (B.map eI)), (18, .i i)], [.cells 0 (eFig (withNear f n'))]⟩) ?_ ?_ ?_
        · simp only [Q6, withNear, kp, lkp_cons, lkp_nil, ↓reduceIte, Nat.reduceEqDiff, Qb, Qd, eFig]
        · intro i hi
          obtain ⟨x, hx⟩ : ∃ x, B[i]? = some x := ⟨_, Qt hi⟩
          have hlt : (i : Int) < B.length := by omega
          have h3 : inI ((i : Int) + 1) := by unfold inI; omega
          have h4 := b23 (badTo f f.dome.gores.length) x
          rw [decide_eq_true (hsub x (Qy hx))] at h4
          simp only [hx, hlt, h3, h4, hAl, withNear, Q8, Q9, ru_skip, ru_reg, ru_seq, ru_cnd, ru_block, ru_keep, thenQ, blockQ, run_nil, run_cons, Fam.step, stepQ, evO, opv, qv, binV, ldV, iadV, lenV, callV, hasRef, hasRefL, flat, kp, upd_some, lkp_cons, lkp_nil, ↓reduceIte, Nat.reduceEqDiff, Nat.reduceLT, Nat.reduceLeDiff, Qb, Qd, Qe, Qf, Qm, Qc, Qk, vw_i, vw_sl, Q2, Qj, Qh, Qi, Qa, decide_true, and_self, implies_true, Za, Qn, Q3, Qp, Q4, eI, eFig]
        · simp only [Qo, g9, ru_reg, ru_seq, ru_cnd, ru_exit, ru_ret, ru_keep, thenQ, blockQ, run_nil, run_cons, Fam.step, stepQ, evO, opv, qv, binV, lenV, callV, hasRefL, flat, upd_some, lkp_cons, lkp_nil, ↓reduceIte, Nat.reduceEqDiff, Nat.reduceLT, Qb, Qd, Qc, endQ, rvs, rv1, resV, vw_b, Qo, Qa, decide_false, and_self, implies_true, Qn, eFig]
    · have k1 : c ≤ f.near := hci.1 ⟨l, hl⟩
      have k2 : c ≤ n' := by omega
      rw [hle] at g3
      rcases least_cases he' with ⟨hle', hno'⟩ | ⟨l', hl', hle', h0', hmin'⟩
      · exact absurd ((nb_near f n' n' l).2 (nb_mono hn2 hl)) (hno' l)
      · have hlt : ¬ l.sum < l'.sum := by
          have := hmin' l ((nb_near f n' n' l).2 (nb_mono hn2 hl)); omega
        simp only [withNear] at hle'
        rw [hle'] at g4
        simp only [rc4, rs4, g1, g2, g3, g4, g5, g6, g7, g8, hf, hm1, hm2, h21, e2, i1, i2, i3, i4, ← hn', k1, k2, hlt, ru_skip, ru_reg, ru_seq, ru_cnd, ru_block, ru_keep, putB, thenQ, run_nil, run_cons, Fam.step, stepQ, stepW, needQ, needW, condB, ug, putB, nv, sv, evO, opv, qv, pickV_bb, binV, ldV, curG, callV, putAt, V.cells, solid, cellOk, hasRef, hasRefL, flat, flatL, upd_some, upd_none, lkp_cons, lkp_nil, ↓reduceIte, Nat.reduceEqDiff, Nat.reduceAdd, Nat.reduceLT, Nat.reduceLeDiff, Int.reduceEq, Qb, Qd, Qq, Qw, Qe, Qf, Qz, Zb, Zf, Qg, Zc, Qr, Qm, Q5, Q7, Qc, Qu, Qv, Qk, Q1, vw_i, vw_sl, vw_ag, zipA, beq_self_eq_true, Qj, Qs, Qx, Zd, Qh, Qi, Q0, Qa, Ql, decide_true, decide_false, true_and, and_true, and_self, forall_const, implies_true, reduceCtorEq, not_false_eq_true, ne_eq, beq_true, Zg, imp_self, eFig]
        refine ru_count B.length (fun i => ⟨lkp [(14, .sl 1 ((badTo f f.dome.gores.length).map eI)), (16, .sl 1 (B.map eI)), (18, .i i)], [.cells 0 (eFig (withNear f n'))]⟩) ?_ ?_ ?_
        · simp only [Q6, withNear, kp, lkp_cons, lkp_nil, ↓reduceIte, Nat.reduceEqDiff, Qb, Qd, eFig]
        · intro i hi
          obtain ⟨x, hx⟩ : ∃ x, B[i]? = some x := ⟨_, Qt hi⟩
          have hlt : (i : Int) < B.length := by omega
          have h3 : inI ((i : Int) + 1) := by unfold inI; omega
          have h4 := b23 (badTo f f.dome.gores.length) x
          rw [decide_eq_true (hsub x (Qy hx))] at h4
          simp only [hx, hlt, h3, h4, hAl, withNear, Q8, Q9, ru_skip, ru_reg, ru_seq, ru_cnd, ru_block, ru_keep, thenQ, blockQ, run_nil, run_cons, Fam.step, stepQ, evO, opv, qv, binV, ldV, iadV, lenV, callV, hasRef, hasRefL, flat, kp, upd_some, lkp_cons, lkp_nil, ↓reduceIte, Nat.reduceEqDiff, Nat.reduceLT, Nat.reduceLeDiff, Qb, Qd, Qe, Qf, Qm, Qc, Qk, vw_i, vw_sl, Q2, Qj, Qh, Qi, Qa, decide_true, and_self, implies_true, Za, Qn, Q3, Qp, Q4, eI, eFig]
        · simp only [Qo, g9, ru_reg, ru_seq, ru_cnd, ru_exit, ru_ret, ru_keep, thenQ, blockQ, run_nil, run_cons, Fam.step, stepQ, evO, opv, qv, binV, lenV, callV, hasRefL, flat, upd_some, lkp_cons, lkp_nil, ↓reduceIte, Nat.reduceEqDiff, Nat.reduceLT, Qb, Qd, Qc, endQ, rvs, rv1, resV, vw_b, Qo, Qa, decide_false, and_self, implies_true, Qn, eFig]
end Go.C02
