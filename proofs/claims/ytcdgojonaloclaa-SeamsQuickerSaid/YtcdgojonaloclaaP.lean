import Derived.Test.YtcdgojonaloclaaG3
import Derived.Test.YtcdgojonaloclaaChecked
import Derived.Test.YtcdgojonaloclaaG9
set_option linter.all false
open List renaming getD_eq_getElem?_getD → Qa, getElem?_eq_getElem → Qb, length_map → Qd, length_nil → Qe, map_cons → Qf, drop_succ_cons → Qg, take_succ_cons → Qi, length_cons → Qk, getElem?_map → Ql, drop_zero → Qm, headD_cons → Qn, append_nil → Qo, map_nil → Qp, all_cons → Qq, mem_of_getElem? → Qs, all_nil → Qu, take_nil → Qw, all_eq_true → Q2, length_drop → Q3, getElem?_cons_zero → Q4, getElem?_cons_succ → Q5, eq_nil_of_length_eq_zero → Q7, length_set → Q8, length_take → Q9, drop_eq_getElem_cons → Za, map_congr_left → Zb, nil_append → Zd, getElem?_of_mem → Zg, map_append → Zh, mem_range → Zj, take_zero → Zk, getElem?_set → Zm, getElem?_take_of_lt → Zo, sum_cons → Zp, map_map → Zr, sum_append → Zt, getElem?_eq_none → Zu, take_append_drop → Zv, map_drop → Zz, getElem?_drop → Z0, set_cons_zero → Z1, set_cons_succ → Z2, drop → Z4, cons_append → Z5, foldl_cons → Z9
open Nat renaming mod_lt → Qc, mod_add_mod → Qt, zero_add → Qv, mod_eq_of_lt → Q0, le_refl → Q6, mul_one → Ze, lt_or_gt_of_ne → Zi, lt_trichotomy → Zl, add_assoc → Zn, mul_le_mul_left → Zy, add_mod_right → Z3, div_add_mod → Z6, strongRecOn → Z8
open Bool renaming false_eq_true → Qh, and_self → Qr, or_false → Qx, not_true → Qy, and_eq_true → Qz, true_eq_false → Q1, and_true → Zc, not_false → Zx, or_eq_true → Z7
open Option renaming getD_some → Qj, some → Zf, map_some → Zs
open Int renaming lt_irrefl → Zq, le_refl → Zw
set_option maxRecDepth 8000
namespace Go.C02
open Go.Fam Go.Proofs
def rc6 : RC := (.seq (.reg false [(cX 3 0), (cQ 6 [] (.mv (kB false)))]) (.keep [1,2,3] (.seq (.seq (.reg true [(cLd 16 3 true 11), (cQ 17 [16] (.call (kF 24) [(.t 16)])), (cMv 18 17), (gQ 19 18 false [3] (.ld true 11 (.t 3))), (gQ 20 18 false [19] (.call (kF 25) [(.t 19)])), (gQ 21 18 false [20] (.bin .neq (.t 20) (kI 0))), (cQ 22 [18,21] (.pick (.t 18) (kB true) (.t 21))), (cMv 23 22), (gMv 24 23 false 1), (gQ 25 23 false [24] (.bin .lss (.t 24) (kI 0))), (cQ 26 [23,25] (.pick (.t 23) (kB true) (.t 25))), (cMv 27 26), (gMv 28 27 false 1), (gQ 29 27 false [3] (.fad 10 (.t 3))), (gQ 30 27 false [29] (.ld false 1 (.t 29))), (gQ 31 27 false [30] (.len (.t 30))), (gQ 32 27 false [28,31] (.bin .geq (.t 28) (.t 31))), (cQ 33 [27,32] (.pick (.t 27) (kB true) (.t 32))), (cMv 34 33), (gMv 35 34 false 2), (gQ 36 34 false [35] (.bin .lss (.t 35) (kI 0))), (cQ 37 [34,36] (.pick (.t 34) (kB true) (.t 36))), (cMv 38 37), (gMv 39 38 false 2), (gQ 40 38 false [3] (.fad 10 (.t 3))), (gQ 41 38 false [40] (.ld false 1 (.t 40))), (gMv 42 38 false 1), (gQ 43 38 false [41,42] (.iad 1 (.t 41) (.t 42))), (gQ 44 38 false [43] (.ld false 1 (.t 43))), (gQ 45 38 false [39,44] (.bin .geq (.t 39) (.t 44))), (cQ 46 [38,45] (.pick (.t 38) (kB true) (.t 45)))]) (.keep [1,2,3,46] (.cond (.t 46) (.seq (.reg false [(cQ 47 [] (.call (kF 17) [])), (cMv 6 47)]) .ret) .skip))) (.keep [1,2,3] (.seq (.any false 2 [⟨(cLd 48 3 true 11), [], []⟩, ⟨(cQ 49 [48] (.call (kF 21) [(.t 48)])), [], [0]⟩, ⟨(cLd 50 3 true 11), [], []⟩, ⟨(cQ 51 [50] (.call (kF 21) [(.t 50)])), [], [2,1,0]⟩, ⟨⟨(some 7), none, [], (some 0), .w (.alc [(.z 4), (.z 1), (.i 0), (.z 2), (.z 1), (.i 0), (.i 0), (.i 0), (.i 0), (.z 1), (.z 1)])⟩, [0,1,2,3], []⟩, ⟨⟨(some 8), none, [], (some 1), .w (.alc [(.z 4), (.z 1), (.i 0), (.z 2), (.z 1), (.i 0), (.i 0), (.i 0), (.i 0), (.z 1), (.z 1)])⟩, [0,1,2,3,4], []⟩, ⟨⟨none, none, [7,49], none, .w (.st 11 (.t 7) (.t 49))⟩, [], [4,1,0,3,2,5]⟩, ⟨⟨none, none, [8,51], none, .w (.st 11 (.t 8) (.t 51))⟩, [], [5,3,2,1,0,6,4]⟩]) (.keep [1,2,3,7,8] (.seq (.reg false [(cFa 52 7 10), (cLd 53 52 false 1), (cMv 54 1), (cA 55 1 53 54), (cLd 56 55 false 1), (cMv 57 2), (cB 58 .sub 56 57), (cA 59 1 53 54), ⟨none, none, [59,58], none, .w (.st 1 (.t 59) (.t 58))⟩]) (.keep [2,3,7,8] (.seq (.seq (.reg false [(cI 9 0)]) (.keep [2,3,7,8,9] (.block 0 (.loop [2,3,7,8,9] none (.seq (.seq (.reg false [(cMv 60 9), (cFa 61 3 10), (cLd 62 61 false 1), (cLn 63 62), (cB 64 .lss 60 63)]) (.keep [2,3,7,8,9,64] (.cond (.t 64) .skip (.exit 0)))) (.keep [2,3,7,8,9] (.seq (.block 1 (.reg false [(cFa 67 8 10), (cLd 68 67 false 1), (cMv 69 9), (cA 70 1 68 69), (cLd 71 70 false 1), (cC 72 .mul 71 2), (cA 73 1 68 69), ⟨none, none, [73,72], none, .w (.st 1 (.t 73) (.t 72))⟩])) (.keep [2,3,7,8,9] (.reg false [(cMv 65 9), (cC 66 .add 65 1), (cMv 9 66)]))))))))) (.keep [2,3,7,8] (.seq (.reg false [(cLd 75 3 true 11), (cQ 76 [75] (.call (kF 26) [(.t 75)])), (cMv 74 76), (cEx 77 74 0), (cEx 78 74 1), (cMv 10 77), (cMv 11 78)]) (.keep [2,7,8,10,11] (.seq (.reg false [(cLd 80 7 true 11), (cQ 81 [80] (.call (kF 26) [(.t 80)])), (cMv 79 81), (cEx 82 79 0), (cEx 83 79 1), (cMv 12 82), (cMv 13 83)]) (.keep [2,8,10,11,12,13] (.seq (.seq (.reg true [(cMv 84 11), (cC 85 .neq 84 0), (cMv 86 85), (gMv 87 86 false 13), (gQ 88 86 false [87] (.bin .neq (.t 87) (kI 0))), (cQ 89 [86,88] (.pick (.t 86) (kB true) (.t 88))), (cMv 90 89), (gMv 91 90 false 12), (gMv 92 90 false 10), (gQ 93 90 false [91,92] (.bin .gtr (.t 91) (.t 92))), (cQ 94 [90,93] (.pick (.t 90) (kB true) (.t 93))), (cMv 95 94), (gMv 96 95 false 10), (gMv 97 95 false 12), (gQ 98 95 false [96,97] (.bin .sub (.t 96) (.t 97))), (gMv 99 95 false 2), (gQ 100 95 false [98,99] (.bin .gtr (.t 98) (.t 99))), (cQ 101 [95,100] (.pick (.t 95) (kB true) (.t 100)))]) (.keep [8,10,101] (.cond (.t 101) (.seq (.reg false [(cQ 6 [] (.mv (kB false)))]) .ret) .skip))) (.keep [8,10] (.seq (.seq (.reg false [(cLd 102 8 true 11), (cQ 103 [102] (.call (kF 25) [(.t 102)])), (cC 104 .neq 103 0)]) (.keep [8,10,104] (.cond (.t 104) (.seq (.reg false [(cQ 105 [] (.call (kF 17) [])), (cMv 6 105)]) .ret) .skip))) (.keep [8,10] (.seq (.reg false [(cLd 107 8 true 11), (cQ 108 [107] (.call (kF 26) [(.t 107)])), (cMv 106 108), (cEx 109 106 0), (cEx 110 106 1), (cMv 14 109), (cMv 15 110)]) (.keep [10,14,15] (.seq (.reg true [(cMv 111 15), (cC 112 .eql 111 0), (cMv 113 112), (gMv 114 113 true 14), (gMv 115 113 true 10), (gQ 116 113 true [115] (.bin .mul (kI 2) (.t 115))), (gQ 117 113 true [114,116] (.bin .eql (.t 114) (.t 116))), (cQ 118 [113,117] (.pick (.t 113) (.t 117) (kB false))), (cMv 119 118), (gQ 120 119 true [] (.call (kF 17) [])), (cQ 121 [119,120] (.pick (.t 119) (.t 120) (kB false))), (cMv 6 121)]) .ret)))))))))))))))))))))
def pu6 : List Nat := [3]
def rs6 : List RV := [.t 6]
theorem cc6 : comp Try.prog pu6 (Try.f6.ntmps, 0) 0 1 rc6 (Try.f6.body.getD .skip) = some rc6 := by kernel_rfl
theorem cb6 : Try.f6.body = some (Try.f6.body.getD .skip) := by kernel_rfl
theorem cs6 : resRV Try.prog Try.f6.results.toList = some rs6 := by kernel_rfl
theorem cn6 : 3 ≤ Try.f6.ntmps := by decide
end Go.C02
set_option linter.unusedSimpArgs false
set_option linter.unusedVariables false
namespace Go.C02
open Go.Fam Go.Proofs
section
variable (f : Fig) (l k : List Int) (n : Int)
theorem b26 : HB 26 [.ag (eFig f)] = (True, eNE (soonR f)) := y26 f
theorem b25 : HB 25 [.ag (eFig f)] = (f.starts.length < 10000000 ∧ f.times.length < 10000000, .i (figCheck f)) := q25 f
theorem b24 : HB 24 [.ag (eFig f)] = (True, .b (farRing f)) := z24 f
theorem b21o : HB 1000021 [.ag (eFig f)] = (Ok21 f, .tp [.ag (copyF f), .tp ((copyFH f).map bV)]) := z21o f
end
theorem Ok21.lens {f : Fig} (h : Ok21 f) : f.starts.length < 10000000 ∧ f.times.length < 10000000 := ⟨by have := h.s; omega, by have := h.t; omega⟩
end Go.C02
set_option maxRecDepth 8000
namespace Go.C02.N
open Go.Fam Go.Proofs
def rc6 : RC := (.seq (.reg false [(cX 3 0), (cQ 6 [] (.mv (kB false)))]) (.keep [1,2,3] (.seq (.seq (.reg true [(cLd 16 3 true 11), (cQ 17 [16] (.call (kF 24) [(.t 16)])), (cMv 18 17), (gQ 19 18 false [3] (.ld true 11 (.t 3))), (gQ 20 18 false [19] (.call (kF 25) [(.t 19)])), (gQ 21 18 false [20] (.bin .neq (.t 20) (kI 0))), (cQ 22 [18,21] (.pick (.t 18) (kB true) (.t 21))), (cMv 23 22), (gMv 24 23 false 1), (gQ 25 23 false [24] (.bin .lss (.t 24) (kI 0))), (cQ 26 [23,25] (.pick (.t 23) (kB true) (.t 25))), (cMv 27 26), (gMv 28 27 false 1), (gQ 29 27 false [3] (.fad 10 (.t 3))), (gQ 30 27 false [29] (.ld false 1 (.t 29))), (gQ 31 27 false [30] (.len (.t 30))), (gQ 32 27 false [28,31] (.bin .geq (.t 28) (.t 31))), (cQ 33 [27,32] (.pick (.t 27) (kB true) (.t 32))), (cMv 34 33), (gMv 35 34 false 2), (gQ 36 34 false [35] (.bin .lss (.t 35) (kI 0))), (cQ 37 [34,36] (.pick (.t 34) (kB true) (.t 36))), (cMv 38 37), (gMv 39 38 false 2), (gQ 40 38 false [3] (.fad 10 (.t 3))), (gQ 41 38 false [40] (.ld false 1 (.t 40))), (gMv 42 38 false 1), (gQ 43 38 false [41,42] (.iad 1 (.t 41) (.t 42))), (gQ 44 38 false [43] (.ld false 1 (.t 43))), (gQ 45 38 false [39,44] (.bin .geq (.t 39) (.t 44))), (cQ 46 [38,45] (.pick (.t 38) (kB true) (.t 45)))]) (.keep [1,2,3,46] (.cond (.t 46) (.seq (.reg false [(cQ 47 [] (.call (kF 17) [])), (cMv 6 47)]) .ret) .skip))) (.keep [1,2,3] (.seq (.any false 14 [⟨(cLd 48 3 true 11), [], []⟩, ⟨⟨(some 49), none, [48], (some 0), .o (kF 21) [(.t 48)]⟩, [], [0]⟩, ⟨(cLd 50 3 true 11), [1], []⟩, ⟨⟨(some 51), none, [50], (some 6), .o (kF 21) [(.t 50)]⟩, [], [2,1,0]⟩, ⟨⟨(some 7), none, [], (some 12), .w (.alc [(.z 4), (.z 1), (.i 0), (.z 2), (.z 1), (.i 0), (.i 0), (.i 0), (.i 0), (.z 1), (.z 1)])⟩, [0,1,2,3], []⟩, ⟨⟨(some 8), none, [], (some 13), .w (.alc [(.z 4), (.z 1), (.i 0), (.z 2), (.z 1), (.i 0), (.i 0), (.i 0), (.i 0), (.z 1), (.z 1)])⟩, [0,1,2,3,4], []⟩, ⟨⟨none, none, [7,49], none, .w (.st 11 (.t 7) (.t 49))⟩, [], [4,1,0,3,2,5]⟩, ⟨⟨none, none, [8,51], none, .w (.st 11 (.t 8) (.t 51))⟩, [], [5,3,2,1,0,6,4]⟩]) (.keep [1,2,3,7,8] (.seq (.reg false [(cFa 52 7 10), (cLd 53 52 false 1), (cMv 54 1), (cA 55 1 53 54), (cLd 56 55 false 1), (cMv 57 2), (cB 58 .sub 56 57), (cA 59 1 53 54), ⟨none, none, [59,58], none, .w (.st 1 (.t 59) (.t 58))⟩]) (.keep [2,3,7,8] (.seq (.seq (.reg false [(cI 9 0)]) (.keep [2,3,7,8,9] (.block 0 (.loop [2,3,7,8,9] none (.seq (.seq (.reg false [(cMv 60 9), (cFa 61 3 10), (cLd 62 61 false 1), (cLn 63 62), (cB 64 .lss 60 63)]) (.keep [2,3,7,8,9,64] (.cond (.t 64) .skip (.exit 0)))) (.keep [2,3,7,8,9] (.seq (.block 1 (.reg false [(cFa 67 8 10), (cLd 68 67 false 1), (cMv 69 9), (cA 70 1 68 69), (cLd 71 70 false 1), (cC 72 .mul 71 2), (cA 73 1 68 69), ⟨none, none, [73,72], none, .w (.st 1 (.t 73) (.t 72))⟩])) (.keep [2,3,7,8,9] (.reg false [(cMv 65 9), (cC 66 .add 65 1), (cMv 9 66)]))))))))) (.keep [2,3,7,8] (.seq (.drp 0 (.reg false [(cLd 75 3 true 11), (cQ 76 [75] (.call (kF 26) [(.t 75)])), (cMv 74 76), (cEx 77 74 0), (cEx 78 74 1), (cMv 10 77), (cMv 11 78)])) (.keep [2,7,8,10,11] (.seq (.reg false [(cLd 80 7 true 11), (cQ 81 [80] (.call (kF 26) [(.t 80)])), (cMv 79 81), (cEx 82 79 0), (cEx 83 79 1), (cMv 12 82), (cMv 13 83)]) (.keep [2,8,10,11,12,13] (.seq (.seq (.reg true [(cMv 84 11), (cC 85 .neq 84 0), (cMv 86 85), (gMv 87 86 false 13), (gQ 88 86 false [87] (.bin .neq (.t 87) (kI 0))), (cQ 89 [86,88] (.pick (.t 86) (kB true) (.t 88))), (cMv 90 89), (gMv 91 90 false 12), (gMv 92 90 false 10), (gQ 93 90 false [91,92] (.bin .gtr (.t 91) (.t 92))), (cQ 94 [90,93] (.pick (.t 90) (kB true) (.t 93))), (cMv 95 94), (gMv 96 95 false 10), (gMv 97 95 false 12), (gQ 98 95 false [96,97] (.bin .sub (.t 96) (.t 97))), (gMv 99 95 false 2), (gQ 100 95 false [98,99] (.bin .gtr (.t 98) (.t 99))), (cQ 101 [95,100] (.pick (.t 95) (kB true) (.t 100)))]) (.keep [8,10,101] (.cond (.t 101) (.seq (.reg false [(cQ 6 [] (.mv (kB false)))]) .ret) .skip))) (.keep [8,10] (.seq (.seq (.reg false [(cLd 102 8 true 11), (cQ 103 [102] (.call (kF 25) [(.t 102)])), (cC 104 .neq 103 0)]) (.keep [8,10,104] (.cond (.t 104) (.seq (.reg false [(cQ 105 [] (.call (kF 17) [])), (cMv 6 105)]) .ret) .skip))) (.keep [8,10] (.seq (.reg false [(cLd 107 8 true 11), (cQ 108 [107] (.call (kF 26) [(.t 107)])), (cMv 106 108), (cEx 109 106 0), (cEx 110 106 1), (cMv 14 109), (cMv 15 110)]) (.keep [10,14,15] (.seq (.reg true [(cMv 111 15), (cC 112 .eql 111 0), (cMv 113 112), (gMv 114 113 true 14), (gMv 115 113 true 10), (gQ 116 113 true [115] (.bin .mul (kI 2) (.t 115))), (gQ 117 113 true [114,116] (.bin .eql (.t 114) (.t 116))), (cQ 118 [113,117] (.pick (.t 113) (.t 117) (kB false))), (cMv 119 118), (gQ 120 119 true [] (.call (kF 17) [])), (cQ 121 [119,120] (.pick (.t 119) (.t 120) (kB false))), (cMv 6 121)]) .ret)))))))))))))))))))))
def pu6 : List Nat := [1000049,1000051,3]
def rs6 : List RV := [.t 6]
theorem cc6 : comp Try.prog pu6 (Try.f6.ntmps, 0) 0 1 rc6 (Try.f6.body.getD .skip) = some rc6 := by kernel_rfl
theorem cb6 : Try.f6.body = some (Try.f6.body.getD .skip) := by kernel_rfl
theorem cs6 : resRV Try.prog Try.f6.results.toList = some rs6 := by kernel_rfl
theorem cn6 : 3 ≤ Try.f6.ntmps := by decide
end Go.C02.N
set_option linter.unusedSimpArgs false
set_option linter.unusedVariables false
namespace Go.C02
open Go.Fam Go.Proofs
end Go.C02
set_option linter.unusedSimpArgs false
set_option linter.unusedVariables false
namespace Go.C02
open Go.Fam Go.Proofs
end Go.C02
set_option linter.unusedSimpArgs false
set_option linter.unusedVariables false
namespace Go.C02
open Go.Fam Go.Proofs
end Go.C02
set_option linter.unusedSimpArgs false
set_option linter.unusedVariables false
namespace Go.C02
open Go.Fam Go.Proofs
theorem fl_I (l : List Int) : (l.map eI).flatten = l.map V.i := by
 induction l with
 | nil => rfl
 | cons a l ih => rw [Qf, List.flatten_cons, ih]; rfl
theorem nr_i (o : List Int) : hasRefL (o.map V.i) = false := by induction o <;> simp_all [hasRefL, hasRef]
theorem good_starts {f f' : Fig} (h : figCheck f = 0) (hd : f'.dome = f.dome) (hp : f'.period = f.period) (hr : f'.run = f.run) (hn : f'.near = f.near) (ht : f'.times.length = f.times.length ∧ ∀ x ∈ f'.times, 1 ≤ x ∧ x ≤ 99) (hs : f'.starts.length = f.starts.length ∧ ∀ x ∈ f'.starts, 0 ≤ x ∧ x < f.period) : figCheck f' = 0 := by
 have hv := validF_of h
 have hper := hv.period
 unfold figCheck at h ⊢
 rw [hd]
 split at h
 ·rename_i h1; exact absurd h h1
 ·rename_i h1
  rw [if_neg h1, if_pos]
  have hg : goodFig f = true := by
   split at h
   ·assumption
   ·cases h
  unfold goodFig at hg ⊢
  rw [hp, hr, hn, hd, hs.1, ht.1]
  simp only [Qz] at hg ⊢
  obtain ⟨⟨⟨⟨⟨⟨a1, a2⟩, a3⟩, a4⟩, a5⟩, a6⟩, a7⟩ := hg
  refine ⟨⟨⟨⟨⟨⟨a1, a2⟩, a3⟩, a4⟩, a5⟩, ?_⟩, ?_⟩
  ·rw [Q2]
   intro x hx
   have := hs.2 x hx
   simp only [within, Qz, decide_eq_true_eq]; omega
  ·rw [Q2]
   intro x hx
   have := ht.2 x hx
   simp only [within, Qz, decide_eq_true_eq]; omega
end Go.C02
set_option linter.unusedSimpArgs false
set_option linter.unusedVariables false
namespace Go.C02
open Go.Fam Go.Proofs
inductive Sch (t : List Int) (b : Nat → Int) : Nat → Nat → Int → Prop
 | nil (f : Nat) : Sch t b f 0 0
 | cut (f c k : Nat) (D1 D2 : Int) (hk : k < c) (h1 : Sch t b f k D1) (h2 : Sch t b (f + k + 1) (c - k - 1) D2) (hb : b (f + k) = max D1 D2) : Sch t b f c (max D1 D2 + t.getD ((f + k) % t.length) 0)
theorem Sch.congr {t : List Int} {b b' : Nat → Int} {f c : Nat} {D : Int} (h : Sch t b f c D) : (∀ q, f ≤ q → q < f + c → b q = b' q) → Sch t b' f c D := by
 induction h with
 | nil f => intro _; exact .nil f
 | cut f c k D1 D2 hk h1 h2 hb ih1 ih2 =>
  intro he
  exact .cut f c k D1 D2 hk (ih1 fun q h3 h4 => he q h3 (by omega)) (ih2 fun q h3 h4 => he q (by omega) (by omega)) (by rw [← he _ (by omega) (by omega)]; exact hb)
theorem Sch.in_ {t : List Int} (ht : ∀ x ∈ t, 1 ≤ x) (hn : 0 < t.length) {b : Nat → Int} {f c : Nat} {D : Int} (h : Sch t b f c D) : 0 ≤ D ∧ ∀ q, f ≤ q → q < f + c → 0 ≤ b q ∧ b q + t.getD (q % t.length) 0 ≤ D := by
 induction h with
 | nil f => exact ⟨by omega, fun q h1 h2 => by omega⟩
 | cut f c k D1 D2 hk h1 h2 hb ih1 ih2 =>
  obtain ⟨a1, a2⟩ := ih1
  obtain ⟨b1, b2⟩ := ih2
  have hx := getD_in (P := fun x => 1 ≤ x) (Qc (f + k) hn) ht
  refine ⟨by omega, fun q h3 h4 => ?_⟩
  rcases Zl q (f + k) with h | h | h
  ·have := a2 q h3 (by omega); omega
  ·subst h
   rw [hb]
   have := Zw (max D1 D2 + t.getD ((f + k) % t.length) 0)
   omega
  ·have := b2 q (by omega) (by omega); omega
theorem Sch.apart {t : List Int} (ht : ∀ x ∈ t, 1 ≤ x) (hn : 0 < t.length) {b : Nat → Int} {f c : Nat} {D : Int} (h : Sch t b f c D) : ∀ q, f ≤ q → q < f + c → ∃ lo hi, (f ≤ lo ∧ lo ≤ q ∧ q < hi ∧ hi ≤ f + c) ∧
  (lo = f ∨ b q < b (lo - 1) + t.getD ((lo - 1) % t.length) 0 ∧ b q + t.getD (q % t.length) 0 ≤ b (lo - 1)) ∧ (hi = f + c ∨ b q < b hi + t.getD (hi % t.length) 0 ∧ b q + t.getD (q % t.length) 0 ≤ b hi) ∧
  ∀ q', f ≤ q' → q' < f + c → q' ≠ q → (lo ≤ q' ∧ q' < hi → b q' + t.getD (q' % t.length) 0 ≤ b q) := by
 induction h with
 | nil f => intro q h1 h2; omega
 | cut f c k D1 D2 hk h1 h2 hb ih1 ih2 =>
  intro q h3 h4
  have i1 := h1.in_ ht hn
  have i2 := h2.in_ ht hn
  rcases Zl q (f + k) with h | h | h
  ·obtain ⟨lo, hi, hr, hl, hh, hin⟩ := ih1 q h3 h
   have hq := i1.2 q h3 h
   have htq := getD_in (P := fun x => 1 ≤ x) (Qc q hn) ht
   have htk := getD_in (P := fun x => 1 ≤ x) (Qc (f + k) hn) ht
   refine ⟨lo, hi, by omega, hl, ?_, fun q' h5 h6 hne h7 => hin q' h5 (by omega) hne h7⟩
   right
   rcases hh with hh | hh
   ·subst hh; rw [hb]; omega
   ·exact hh
  ·subst h
   refine ⟨f, f + c, by omega, .inl rfl, .inl rfl, fun q' h5 h6 hne _ => ?_⟩
   rw [hb]
   rcases Zi hne with h7 | h7
   ·have := i1.2 q' h5 h7; omega
   ·have := i2.2 q' (by omega) (by omega); omega
  ·obtain ⟨lo, hi, hr, hl, hh, hin⟩ := ih2 q (by omega) (by omega)
   have hq := i2.2 q (by omega) (by omega)
   have htq := getD_in (P := fun x => 1 ≤ x) (Qc q hn) ht
   have htk := getD_in (P := fun x => 1 ≤ x) (Qc (f + k) hn) ht
   refine ⟨lo, hi, by omega, ?_, ?_, fun q' h5 h6 hne h7 => hin q' (by omega) (by omega) hne h7⟩
   ·right
    rcases hl with hl | hl
    ·subst hl
     rw [show f + k + 1 - 1 = f + k by omega, hb]; omega
    ·exact hl
   ·rcases hh with hh | hh
    ·left; omega
    ·exact .inr hh
def atB (t out : List Int) (q : Nat) : Int := out.getD (q % t.length) 0
theorem getD_set {l : List Int} {i j : Nat} {v : Int} (hi : i < l.length) : (l.set i v).getD j 0 = if j = i then v else l.getD j 0 := by
 simp only [Qa, Zm]
 by_cases h : i = j
 ·subst h; simp [hi]
 ·rw [if_neg h, if_neg (fun e => h e.symm)]
theorem mod_inj {n f q q' : Nat} (h1 : f ≤ q ∧ q < f + n) (h2 : f ≤ q' ∧ q' < f + n) (h : q % n = q' % n) : q = q' := by
 have hn : 0 < n := by omega
 have a1 := Z6 q n
 have a2 := Z6 q' n
 rcases Zl (q / n) (q' / n) with e | e | e
 ·have : n * (q / n + 1) ≤ n * (q' / n) := Zy n e
  rw [Nat.mul_add, Ze] at this; omega
 ·rw [e] at a1; omega
 ·have : n * (q' / n + 1) ≤ n * (q / n) := Zy n e
  rw [Nat.mul_add, Ze] at this; omega
theorem begF_out {t : List Int} (hn : 0 < t.length) : ∀ (k f c : Nat) (out : List Int), out.length = t.length → c ≤ t.length → ∀ j, j < t.length → (∀ q, f ≤ q → q < f + c → q % t.length ≠ j) → (begF k t (f % t.length) c out).getD j 0 = out.getD j 0 := by
 intro k
 induction k with
 | zero => intros; rfl
 | succ k ih =>
  intro f c out ho hc j hj hne
  simp only [begF]
  split
  ·rfl
  ·rename_i h0
   rw [seg_mod]
   obtain ⟨b, hb⟩ : ∃ b, b = lastOf (seg t f c) := ⟨_, rfl⟩
   rw [← hb]
   have hbc : b < c := by rw [hb]; exact last_lt h0
   have e1 : (f % t.length + b) % t.length = (f + b) % t.length := Qt _ _ _
   have e2 : (f % t.length + b + 1) % t.length = (f + b + 1) % t.length := by rw [Zn, Qt, Zn]
   rw [e1, e2]
   have hlen : (begF k t (f % t.length) b (out.set ((f + b) % t.length) (max (Dn (seg t (f % t.length) b)) (Dn (seg t ((f + b + 1) % t.length) (c - b - 1)))))).length = t.length := by rw [begF_len, Q8, ho]
   rw [ih (f + b + 1) (c - b - 1) _ hlen (by omega) j hj fun q h1 h2 => hne q (by omega) (by omega)]
   rw [ih f b _ (by rw [Q8, ho]) (by omega) j hj fun q h1 h2 => hne q h1 (by omega)]
   rw [getD_set (by rw [ho]; exact Qc _ hn), if_neg (fun e => hne (f + b) (by omega) (by omega) e.symm)]
theorem begF_sch {t : List Int} (hn : 0 < t.length) : ∀ (k f c : Nat) (out : List Int), out.length = t.length → c ≤ t.length → c ≤ k → Sch t (atB t (begF k t (f % t.length) c out)) f c (Dn (seg t f c)) := by
 intro k
 induction k with
 | zero =>
  intro f c out ho hc hk
  have : c = 0 := by omega
  subst this
  exact .nil f
 | succ k ih =>
  intro f c out ho hc hk
  by_cases h0 : c = 0
  ·subst h0; exact .nil f
  ·simp only [begF, if_neg h0]
   rw [seg_mod]
   obtain ⟨b, hb⟩ : ∃ b, b = lastOf (seg t f c) := ⟨_, rfl⟩
   rw [← hb]
   have hbc : b < c := by rw [hb]; exact last_lt h0
   have e1 : (f % t.length + b) % t.length = (f + b) % t.length := Qt _ _ _
   have e2 : (f % t.length + b + 1) % t.length = (f + b + 1) % t.length := by rw [Zn, Qt, Zn]
   rw [e1, e2, seg_mod, seg_mod]
   obtain ⟨v, hv⟩ : ∃ v, v = max (Dn (seg t f b)) (Dn (seg t (f + b + 1) (c - b - 1))) := ⟨_, rfl⟩
   rw [← hv]
   obtain ⟨o1, ho1⟩ : ∃ o1, o1 = begF k t (f % t.length) b (out.set ((f + b) % t.length) v) := ⟨_, rfl⟩
   have ho1l : o1.length = t.length := by rw [ho1, begF_len, Q8, ho]
   rw [← ho1]
   have hne : seg t f c ≠ [] := fun e => h0 (by rw [← seg_len t f c, e]; rfl)
   have hD := Dn_cut hne
   rw [← hb, seg_take (Nat.le_of_lt hbc), seg_get hbc, seg_drop, seg_mod, ← hv] at hD
   rw [hD, hv]
   have s1 := ih f b (out.set ((f + b) % t.length) v) (by rw [Q8, ho]) (by omega) (by omega)
   rw [← ho1] at s1
   have s2 := ih (f + b + 1) (c - b - 1) o1 ho1l (by omega) (by omega)
   have hrest : ∀ q, f ≤ q → q ≤ f + b → atB t (begF k t ((f + b + 1) % t.length) (c - b - 1) o1) q = atB t o1 q := fun q h1 h2 => by
    unfold atB
    refine begF_out hn k (f + b + 1) (c - b - 1) o1 ho1l (by omega) _ (Qc _ hn) fun q' h3 h4 e => ?_
    have := mod_inj (n := t.length) (f := f) (q := q') (q' := q) (by omega) (by omega) e
    omega
   refine .cut f c b _ _ hbc (s1.congr fun q h1 h2 => (hrest q h1 (by omega)).symm) s2 ?_
   rw [hrest _ (by omega) (by omega), ← hv, ho1]
   unfold atB
   rw [begF_out hn k f b _ (by rw [Q8, ho]) (by omega) _ (Qc _ hn) fun q' h3 h4 e => by
    have := mod_inj (n := t.length) (f := f) (q := q') (q' := f + b) (by omega) (by omega) e
    omega]
   rw [getD_set (by rw [ho]; exact Qc _ hn), if_pos rfl]
end Go.C02
set_option linter.unusedSimpArgs false
set_option linter.unusedVariables false
namespace Go.C02
open Go.Fam Go.Proofs
theorem getDB_set {l : List Bool} {i j : Nat} {v : Bool} (hi : i < l.length) : (l.set i v).getD j false = if j = i then v else l.getD j false := by
 simp only [Qa, Zm]
 by_cases h : i = j
 ·subst h; simp [hi]
 ·rw [if_neg h, if_neg (fun e => h e.symm)]
theorem occ1_get {t b : List Int} {seam : Nat} {out : List Bool} {i g : Nat} (hl : out.length = b.length) (hi : i < b.length) :
  (occ1 t b seam out i).getD g false = true ↔ out.getD g false = true ∨ ((b.getD i 0 + t.getD i 0 ≤ b.getD seam 0 ∧ (out.getD i false = true ∨ out.getD ((i + 1) % b.length) false = true)) ∧ (g = i ∨ g = (i + 1) % b.length)) := by
 unfold occ1
 have hn : (i + 1) % b.length < b.length := Qc _ (by omega)
 split
 ·rename_i h
  rw [getDB_set (by rw [Q8]; omega), getDB_set (by omega)]
  by_cases h1 : g = (i + 1) % b.length
  ·rw [if_pos h1]
   exact ⟨fun _ => .inr ⟨h, .inr h1⟩, fun _ => rfl⟩
  ·rw [if_neg h1]
   by_cases h2 : g = i
   ·rw [if_pos h2]
    exact ⟨fun _ => .inr ⟨h, .inl h2⟩, fun _ => rfl⟩
   ·rw [if_neg h2]
    exact ⟨.inl, fun h' => h'.resolve_right fun h'' => h''.2.elim h2 h1⟩
 ·rename_i h
  constructor
  ·exact .inl
  ·rintro (h' | ⟨h', _⟩)
   ·exact h'
   ·exact absurd h' h
theorem occR_mono {t b : List Int} {seam : Nat} {out : List Bool} (hl : out.length = b.length) {g : Nat} (hg : out.getD g false = true) : ∀ j, j ≤ b.length → (occR t b seam out j).getD g false = true := by
 intro j
 induction j with
 | zero => intro _; exact hg
 | succ j ih =>
  intro hj
  rw [occR_succ, occ1_get (by rw [occR_len, hl]) (by omega)]
  exact .inl (ih (by omega))
theorem occR_step {t b : List Int} {seam : Nat} {out : List Bool} (hl : out.length = b.length) {i : Nat} (hi : i < b.length) (he : b.getD i 0 + t.getD i 0 ≤ b.getD seam 0) (ho : out.getD i false = true ∨ out.getD ((i + 1) % b.length) false = true) :
  (occR t b seam out b.length).getD i false = true ∧ (occR t b seam out b.length).getD ((i + 1) % b.length) false = true := by
 have key : ∀ j, i < j → j ≤ b.length → (occR t b seam out j).getD i false = true ∧ (occR t b seam out j).getD ((i + 1) % b.length) false = true := by
  intro j
  induction j with
  | zero => intro h; omega
  | succ j ih =>
   intro h1 h2
   rw [occR_succ, occ1_get (by rw [occR_len, hl]) (by omega), occ1_get (by rw [occR_len, hl]) (by omega)]
   by_cases e : i = j
   ·subst e
    have := ho.imp (fun h => occR_mono (t := t) (seam := seam) hl h i (by omega)) (fun h => occR_mono (t := t) (seam := seam) hl h i (by omega))
    exact ⟨.inr ⟨⟨he, this⟩, .inl rfl⟩, .inr ⟨⟨he, this⟩, .inr rfl⟩⟩
   ·obtain ⟨k1, k2⟩ := ih (by omega) (by omega)
    exact ⟨.inl k1, .inl k2⟩
 exact key b.length hi (Q6 _)
theorem occI_mono {t b : List Int} {seam g k : Nat} (hg : (occI t b seam k).getD g false = true) : ∀ j, k ≤ j → (occI t b seam j).getD g false = true := by
  intro j hj
  induction j with
  | zero => have : k = 0 := by omega
            subst this; exact hg
  | succ j ih =>
    by_cases e : k = j + 1
    · subst e; exact hg
    · exact occR_mono (occI_len _ _ _ _) (ih (by omega)) _ (Q6 _)
theorem occI_start {t b : List Int} {seam : Nat} (hs : seam < b.length) (k : Nat) : (occI t b seam k).getD seam false = true ∧ (occI t b seam k).getD ((seam + 1) % b.length) false = true := by
 have hn : (seam + 1) % b.length < b.length := Qc _ (by omega)
 have h0 : (occI t b seam 0).getD seam false = true ∧ (occI t b seam 0).getD ((seam + 1) % b.length) false = true := by
  unfold occI occ0
  constructor
  ·rw [getDB_set (by simp; omega), getDB_set (by simp; omega)]
   split <;> simp
  ·rw [getDB_set (by simp; omega), if_pos rfl]
 exact ⟨occI_mono h0.1 k (Nat.zero_le _), occI_mono h0.2 k (Nat.zero_le _)⟩
theorem occ_right {t b : List Int} {q : Nat} (hn : 0 < b.length) : ∀ r, r < b.length → (∀ j, 1 ≤ j → j ≤ r → b.getD ((q + j) % b.length) 0 + t.getD ((q + j) % b.length) 0 ≤ b.getD (q % b.length) 0) → (occI t b (q % b.length) r).getD ((q + r + 1) % b.length) false = true := by
 intro r
 induction r with
 | zero =>
  intro _ _
  have := (occI_start (t := t) (b := b) (seam := q % b.length) (Qc _ hn) 0).2
  rwa [Qt] at this
 | succ r ih =>
  intro hr he
  have h1 := ih (by omega) fun j h1 h2 => he j h1 (by omega)
  have := (occR_step (t := t) (b := b) (seam := q % b.length) (out := occI t b (q % b.length) r) (i := (q + (r + 1)) % b.length) (occI_len _ _ _ _) (Qc _ hn) (he (r + 1) (by omega) (Q6 _)) (.inl h1)).2
  rw [Qt] at this
  exact this
theorem occ_left {t b : List Int} {q : Nat} (hn : 0 < b.length) : ∀ r, r < b.length → r ≤ q → (∀ j, 1 ≤ j → j ≤ r → b.getD ((q - j) % b.length) 0 + t.getD ((q - j) % b.length) 0 ≤ b.getD (q % b.length) 0) → (occI t b (q % b.length) r).getD ((q - r) % b.length) false = true := by
 intro r
 induction r with
 | zero =>
  intro _ _ _
  exact (occI_start (t := t) (b := b) (seam := q % b.length) (Qc _ hn) 0).1
 | succ r ih =>
  intro hr hq he
  have h1 := ih (by omega) (by omega) fun j h1 h2 => he j h1 (by omega)
  have e1 : ((q - (r + 1)) % b.length + 1) % b.length = (q - r) % b.length := by rw [Qt, show q - (r + 1) + 1 = q - r by omega]
  exact (occR_step (t := t) (b := b) (seam := q % b.length) (out := occI t b (q % b.length) r) (i := (q - (r + 1)) % b.length) (occI_len _ _ _ _) (Qc _ hn) (he (r + 1) (by omega) (Q6 _)) (.inr (by rw [e1]; exact h1))).1
theorem no_clash {t b : List Int} (hc : canSewR t b = true) {x y : Nat} (hx : x < b.length) (hy : y < b.length) (hne : x ≠ y) (h1 : ¬ b.getD x 0 + t.getD x 0 ≤ b.getD y 0) (h2 : ¬ b.getD y 0 + t.getD y 0 ≤ b.getD x 0) (g : Nat) (hg : g < b.length) : ¬ ((occN t b x).getD g false = true ∧ (occN t b y).getD g false = true) := by
 unfold canSewR at hc
 rw [Qz, Q2] at hc
 have key : ∀ a c, a < b.length → c < a → ¬ b.getD a 0 + t.getD a 0 ≤ b.getD c 0 → ¬ b.getD c 0 + t.getD c 0 ≤ b.getD a 0 → ¬ ((occN t b a).getD g false = true ∧ (occN t b c).getD g false = true) := by
  intro a c ha hca k1 k2 k3
  have := Q2.1 (hc.2 a (Zj.2 ha)) c (Zj.2 hca)
  unfold noClash at this
  rw [Z7, Z7, decide_eq_true_eq, decide_eq_true_eq, Q2] at this
  rcases this with (h | h) | h
  ·exact k2 h
  ·exact k1 h
  ·have := h g (Zj.2 hg)
   rw [k3.1, k3.2] at this
   cases this
 rcases Zi hne with h | h
 ·exact fun hh => key y x hy h h2 h1 ⟨hh.2, hh.1⟩
 ·exact key x y hx h h1 h2
theorem last_ended {t b : List Int} (ht : ∀ x ∈ t, 1 ≤ x) (hbt : b.length = t.length) (hc : canSewR t b = true) {f c q0 : Nat} (hcn : c ≤ b.length) (h0 : f ≤ q0 ∧ q0 < f + c) (hmax : ∀ q, f ≤ q → q < f + c → b.getD (q % b.length) 0 ≤ b.getD (q0 % b.length) 0) :
  ∀ q, f ≤ q → q < f + c → q ≠ q0 → b.getD (q % b.length) 0 + t.getD (q % b.length) 0 ≤ b.getD (q0 % b.length) 0 := by
 have hn : 0 < b.length := by omega
 have htp : ∀ q, 1 ≤ t.getD (q % b.length) 0 := fun q => getD_in (P := fun x => 1 ≤ x) (by rw [← hbt]; exact Qc _ hn) ht
 have right : ∀ r, q0 + r < f + c → 1 ≤ r → b.getD ((q0 + r) % b.length) 0 + t.getD ((q0 + r) % b.length) 0 ≤ b.getD (q0 % b.length) 0 := by
  intro r
  induction r using Z8 with
  | _ r ih =>
   intro h1 h2
   refine Classical.byContradiction fun hne => ?_
   have hocc := occ_right (t := t) (b := b) (q := q0) hn (r - 1) (by omega) fun j hj1 hj2 => ih j (by omega) (by omega) hj1
   rw [show q0 + (r - 1) + 1 = q0 + r by omega] at hocc
   have hocc := occI_mono hocc b.length (by omega)
   have hself := (occI_start (t := t) (b := b) (seam := (q0 + r) % b.length) (Qc _ hn) b.length).1
   have hm := hmax (q0 + r) (by omega) h1
   have hp := htp q0
   exact no_clash hc (x := (q0 + r) % b.length) (y := q0 % b.length) (Qc _ hn) (Qc _ hn) (fun e => by
    have := mod_inj (n := b.length) (f := f) (q := q0 + r) (q' := q0) (by omega) (by omega) e; omega) hne (by omega) _ (Qc _ hn) ⟨hself, hocc⟩
 have left : ∀ r, r ≤ q0 → f ≤ q0 - r → 1 ≤ r → b.getD ((q0 - r) % b.length) 0 + t.getD ((q0 - r) % b.length) 0 ≤ b.getD (q0 % b.length) 0 := by
  intro r
  induction r using Z8 with
  | _ r ih =>
   intro h0' h1 h2
   refine Classical.byContradiction fun hne => ?_
   have hocc := occ_left (t := t) (b := b) (q := q0) hn (r - 1) (by omega) (by omega) fun j hj1 hj2 => ih j (by omega) (by omega) (by omega) hj1
   have hocc := occI_mono hocc b.length (by omega)
   have hself := (occI_start (t := t) (b := b) (seam := (q0 - r) % b.length) (Qc _ hn) b.length).2
   rw [Qt, show q0 - r + 1 = q0 - (r - 1) by omega] at hself
   have hm := hmax (q0 - r) (by omega) (by omega)
   have hp := htp q0
   exact no_clash hc (x := (q0 - r) % b.length) (y := q0 % b.length) (Qc _ hn) (Qc _ hn) (fun e => by
    have := mod_inj (n := b.length) (f := f) (q := q0 - r) (q' := q0) (by omega) (by omega) e; omega) hne (by omega) _ (Qc _ hn) ⟨hself, hocc⟩
 intro q h1 h2 h3
 rcases Zi h3 with h | h
 ·have := left (q0 - q) (by omega) (by omega) (by omega)
  rwa [show q0 - (q0 - q) = q by omega] at this
 ·have := right (q - q0) (by omega) (by omega)
  rwa [show q0 + (q - q0) = q by omega] at this
theorem exists_max (g : Nat → Int) : ∀ (c f : Nat), 0 < c → ∃ q0, (f ≤ q0 ∧ q0 < f + c) ∧ ∀ q, f ≤ q → q < f + c → g q ≤ g q0 := by
  intro c
  induction c with
  | zero => intro f h; omega
  | succ c ih =>
    intro f _
    by_cases h0 : c = 0
    · subst h0
      exact ⟨f, by omega, fun q h1 h2 => by have : q = f := by omega
                                            rw [this]; exact Zw _⟩
    · obtain ⟨q0, h1, h2⟩ := ih f (by omega)
      by_cases h : g q0 ≤ g (f + c)
      · refine ⟨f + c, by omega, fun q h3 h4 => ?_⟩
        by_cases e : q = f + c
        · rw [e]; exact Zw _
        · have := h2 q h3 (by omega); omega
      · refine ⟨q0, by omega, fun q h3 h4 => ?_⟩
        by_cases e : q = f + c
        · rw [e]; omega
        · exact h2 q h3 (by omega)
theorem row_lower {t b : List Int} (ht : ∀ x ∈ t, 1 ≤ x) (hb0 : ∀ x ∈ b, 0 ≤ x) (hbt : b.length = t.length) (hc : canSewR t b = true) : ∀ (n c f : Nat) (M : Int), c ≤ n → c ≤ b.length → 0 ≤ M → (∀ q, f ≤ q → q < f + c → b.getD (q % b.length) 0 + t.getD (q % b.length) 0 ≤ M) → Dn (seg t f c) ≤ M := by
 intro n
 induction n with
 | zero =>
  intro c f M h1 _ hM _
  have : c = 0 := by omega
  subst this
  exact hM
 | succ n ih =>
  intro c f M h1 h2 hM hq
  by_cases h0 : c = 0
  ·subst h0; exact hM
  obtain ⟨q0, hq0, hmax⟩ := exists_max (fun q => b.getD (q % b.length) 0) c f (by omega)
  have hend := last_ended ht hbt hc h2 hq0 hmax
  obtain ⟨k, rfl⟩ : ∃ k, q0 = f + k := ⟨q0 - f, by omega⟩
  have hbp : 0 ≤ b.getD ((f + k) % b.length) 0 := getD_in (P := fun x => 0 ≤ x) (Qc _ (by omega)) hb0
  have d1 := ih k f _ (by omega) (by omega) hbp fun q h3 h4 => hend q h3 (by omega) (by omega)
  have d2 := ih (c - k - 1) (f + k + 1) _ (by omega) (by omega) hbp fun q h3 h4 => hend q (by omega) (by omega) (by omega)
  have d3 := Dn_le (l := seg t f c) (i := k) (by rw [seg_len]; omega)
  rw [seg_take (by omega), seg_get (by omega), seg_drop, seg_mod] at d3
  have d4 := hq (f + k) (by omega) (by omega)
  rw [hbt] at d4 d1 d2
  omega
theorem endF_ge (t b : List Int) : ∀ (n i : Nat), i < n → b.getD i 0 + t.getD i 0 ≤ endF t b n ∧ 0 ≤ endF t b n := by
 intro n
 induction n with
 | zero => intro i h; omega
 | succ n ih =>
  intro i hi
  unfold endF
  by_cases e : i = n
  ·subst e
   refine ⟨by omega, ?_⟩
   cases i with
   | zero => unfold endF; omega
   | succ i => have := (ih 0 (by omega)).2; omega
  ·have := ih i (by omega); omega
theorem sooner {t b : List Int} (hT : OkT t) (hc : canSewR t b = true) : minL (ringC t) ≤ endF t b b.length := by
 have hT1 := hT.1
 have ht : ∀ x ∈ t, 1 ≤ x := fun x hx => (hT.2.2 x hx).1
 have hc' := hc
 unfold canSewR at hc'
 rw [Qz, allN_eq, Qz, decide_eq_true_eq, Q2] at hc'
 obtain ⟨⟨hbt, hbx⟩, _⟩ := hc'
 have hb0 : ∀ x ∈ b, 0 ≤ x := fun x hx => by have := hbx x hx; simp only [within, Qz, decide_eq_true_eq] at this; omega
 obtain ⟨q0, hq0, hmax⟩ := exists_max (fun q => b.getD (q % b.length) 0) b.length 0 (by omega)
 have hend := last_ended ht hbt hc (Q6 _) hq0 hmax
 have hq0m : q0 % b.length = q0 := Q0 (by omega)
 have hbp : 0 ≤ b.getD (q0 % b.length) 0 := getD_in (P := fun x => 0 ≤ x) (Qc _ (by omega)) hb0
 have d1 := row_lower ht hb0 hbt hc b.length (b.length - 1) (q0 + 1) _ (by omega) (by omega) hbp fun q h1 h2 => by
  have h3 : q % b.length < b.length := Qc _ (by omega)
  have h4 : q % b.length ≠ q0 := fun e => by
   have := mod_inj (n := b.length) (f := q0) (q := q) (q' := q0) (by omega) (by omega) (by rw [e, hq0m]); omega
  have := hend (q % b.length) (by omega) (by omega) h4
  rwa [Nat.mod_mod] at this
 have hg := ringC_get (t := t) (s := q0) (by omega)
 rw [seg_mod, ← hbt] at hg
 have h5 := minL_le (Qs hg)
 have h6 := (endF_ge t b b.length q0 (by omega)).1
 rw [hq0m] at d1
 omega
end Go.C02
set_option linter.unusedSimpArgs false
set_option linter.unusedVariables false
namespace Go.C02
open Go.Fam Go.Proofs
theorem plan_sch {t : List Int} (h : OkT t) : Sch t (atB t (planN t)) (closeN t + 1) (t.length - 1) (restN t) ∧ (planN t).getD (closeN t) 0 = restN t := by
 have h1 := h.1
 have hcl := closeN_lt h
 have hl : ((List.replicate t.length (0 : Int)).set (closeN t) (restN t)).length = t.length := by simp
 have e : restN t = Dn (seg t (closeN t + 1) (t.length - 1)) := by unfold restN; rw [seg_mod]
 constructor
 ·rw [e]
  unfold planN begN
  rw [e]
  exact begF_sch (by omega) (t.length - 1) (closeN t + 1) (t.length - 1) _ (by simp) (by omega) (Q6 _)
 ·unfold planN begN
  rw [begF_out (by omega) (t.length - 1) (closeN t + 1) (t.length - 1) _ hl (by omega) _ hcl fun q h3 h4 e => by
   have := mod_inj (n := t.length) (f := closeN t) (q := q) (q' := closeN t) (by omega) (by omega) (by rw [e, Q0 hcl])
   omega]
  rw [getD_set (by simp; omega), if_pos rfl]
theorem min_ring {t : List Int} (h : OkT t) : minL (ringC t) = restN t + t.getD (closeN t) 0 := by
 have h1 := h.1
 have hne : ringC t ≠ [] := fun e => by have := ringC_len t; rw [e, Qe] at this; omega
 have h2 := argL_get hne
 have h3 := ringC_get (closeN_lt h)
 unfold closeN at h3 ⊢
 rw [h2] at h3
 exact Zf.inj h3
theorem pos_of {t : List Int} {c i : Nat} (hc : c < t.length) (hi : i < t.length) (hne : i ≠ c) : ∃ q, (c + 1 ≤ q ∧ q < c + t.length) ∧ q % t.length = i := by
 by_cases h : c < i
 ·exact ⟨i, by omega, Q0 hi⟩
 ·exact ⟨i + t.length, by omega, by rw [Z3, Q0 hi]⟩
theorem plan_ends {t : List Int} (h : OkT t) : ∀ i, i < t.length → i ≠ closeN t → 0 ≤ (planN t).getD i 0 ∧ (planN t).getD i 0 + t.getD i 0 ≤ restN t := by
 intro i hi hne
 obtain ⟨s1, s2⟩ := plan_sch h
 have h1 := h.1
 have ht : ∀ x ∈ t, 1 ≤ x := fun x hx => (h.2.2 x hx).1
 obtain ⟨q, hq, he⟩ := pos_of (closeN_lt h) hi hne
 have := (s1.in_ ht (by omega)).2 q hq.1 (by omega)
 unfold atB at this
 rwa [he] at this
theorem maxL_ge {l : List Int} {x : Int} (h : x ∈ l) : x ≤ maxL l := by
 have key : ∀ (l : List Int) (a : Int), a ≤ l.foldl max a ∧ ∀ x ∈ l, x ≤ l.foldl max a := by
  intro l
  induction l with
  | nil => intro a; simp
  | cons y l ih =>
   intro a
   obtain ⟨h1, h2⟩ := ih (max a y)
   rw [Z9]
   refine ⟨by omega, fun x hx => ?_⟩
   rcases List.mem_cons.1 hx with rfl | hx
   ·omega
   ·exact h2 x hx
 cases l with
 | nil => cases h
 | cons a l =>
  obtain ⟨h1, h2⟩ := key l a
  rcases List.mem_cons.1 h with rfl | h
  ·exact h1
  ·exact h2 x h
theorem maxL_le {l : List Int} {M : Int} (hne : l ≠ []) (h : ∀ x ∈ l, x ≤ M) : maxL l ≤ M := by
 have key : ∀ (l : List Int) (a : Int), a ≤ M → (∀ x ∈ l, x ≤ M) → l.foldl max a ≤ M := by
  intro l
  induction l with
  | nil => intro a ha _; exact ha
  | cons y l ih =>
   intro a ha hl
   rw [Z9]
   have := hl y (by simp)
   exact ih _ (by omega) fun x hx => hl x (by simp [hx])
 cases l with
 | nil => exact absurd rfl hne
 | cons a l => exact key l a (h a (by simp)) fun x hx => h x (by simp [hx])
theorem endsN_getD {t b : List Int} (hl : b.length = t.length) {i : Nat} (hi : i < t.length) : (endsN t b)[i]? = some (b.getD i 0 + t.getD i 0) := by
 refine endsN_get ?_ ?_
 ·rw [Qb hi, Qa, Qb hi]; rfl
 ·rw [Qb (by omega), Qa, Qb (by omega)]; rfl
theorem soon_eq {t : List Int} (h : OkT t) : maxL (endsN t (planN t)) = minL (ringC t) := by
 have h1 := h.1
 have hpl := planN_len t
 have hcl := closeN_lt h
 have hmr := min_ring h
 obtain ⟨s1, s2⟩ := plan_sch h
 have hg := endsN_getD hpl hcl
 rw [s2] at hg
 have h2 := maxL_ge (Qs hg)
 have h3 : maxL (endsN t (planN t)) ≤ minL (ringC t) := by
  refine maxL_le (fun e => by have := endsN_len hpl; rw [e, Qe] at this; omega) fun x hx => ?_
  obtain ⟨i, hi⟩ := Zg hx
  have hil := getElemLt hi
  rw [endsN_len hpl] at hil
  rw [endsN_getD hpl hil] at hi
  have hi := Zf.inj hi
  have htc := getD_in (P := fun x => 1 ≤ x ∧ x ≤ 99) hcl h.2.2
  by_cases e : i = closeN t
  ·rw [e, s2] at hi; omega
  ·have := plan_ends h i hil e; omega
 omega
end Go.C02
set_option linter.unusedSimpArgs false
set_option linter.unusedVariables false
namespace Go.C02
open Go.Fam Go.Proofs
theorem seg_all {t : List Int} {s : Nat} (h : s ≤ t.length) (hn : 0 < t.length) : seg t s t.length = t.drop s ++ t.take s := by
 apply List.ext_getElem?
 intro i
 unfold seg
 rw [Ql]
 by_cases hi : i < t.length
 ·rw [List.getElem?_range hi, Zs]
  by_cases h1 : i < t.length - s
  ·rw [List.getElem?_append_left (by rw [Q3]; exact h1), Z0, Q0 (by omega), Qa, Qb (by omega)]; rfl
  ·rw [List.getElem?_append_right (by rw [Q3]; omega), Q3, Zo (by omega)]
   have e : (s + i) % t.length = i - (t.length - s) := by
    rw [show s + i = i - (t.length - s) + t.length by omega, Z3, Q0 (by omega)]
   rw [e, Qa, Qb (by omega)]; rfl
 ·rw [Zu (by simp; omega), Zu (by simp; omega)]; rfl
theorem seg_cons {t : List Int} {s m : Nat} : seg t s (m + 1) = t.getD (s % t.length) 0 :: seg t (s + 1) m := by
 unfold seg
 rw [List.range_succ_eq_map, Qf, Zr]
 congr 1
 refine Zb fun q _ => ?_
 simp only [Function.comp_apply]
 rw [show s + (q + 1) = s + 1 + q by omega]
theorem seg_sum {t : List Int} {s : Nat} (h : s < t.length) : t.getD s 0 + (seg t (s + 1) (t.length - 1)).sum = t.sum := by
 have h1 := seg_cons (t := t) (s := s) (m := t.length - 1)
 rw [show t.length - 1 + 1 = t.length by omega, seg_all (by omega) (by omega), Q0 h] at h1
 have h2 := congrArg List.sum h1
 rw [Zt, Zp] at h2
 have h3 : t.sum = (t.take s).sum + (t.drop s).sum := by rw [← Zt, Zv]
 omega
theorem ring_get {t : List Int} {s : Nat} (h : s < t.length) : (ringC t)[s]? = some (Dn (seg t (s + 1) (t.length - 1)) + t.getD s 0) := by
 have := ringC_get h
 rwa [seg_mod] at this
def Below (l' l : List Int) : Prop := l'.length = l.length ∧ ∀ i, i < l.length → l'.getD i 0 ≤ l.getD i 0
theorem getD_take {l : List Int} {k i : Nat} (h : i < k) : (l.take k).getD i 0 = l.getD i 0 := by
 simp only [Qa]; rw [Zo h]
theorem getD_drop {l : List Int} {k i : Nat} : (l.drop k).getD i 0 = l.getD (k + i) 0 := by
 simp only [Qa]; rw [Z0]
theorem Below.take {l' l : List Int} (h : Below l' l) (k : Nat) : Below (l'.take k) (l.take k) :=
 ⟨by rw [Q9, Q9, h.1], fun i hi => by
  rw [Q9] at hi
  rw [getD_take (by omega), getD_take (by omega)]; exact h.2 i (by omega)⟩
theorem Below.drop {l' l : List Int} (h : Below l' l) (k : Nat) : Below (l'.drop k) (l.drop k) :=
 ⟨by rw [Q3, Q3, h.1], fun i hi => by
  rw [Q3] at hi
  rw [getD_drop, getD_drop]; exact h.2 _ (by omega)⟩
theorem sum_cut {l : List Int} {k : Nat} (h : k < l.length) : l.sum = (l.take k).sum + l.getD k 0 + (l.drop (k + 1)).sum := by
 have h1 : l.sum = (l.take k).sum + (l.drop k).sum := by rw [← Zt, Zv]
 rw [Za h, Zp] at h1
 rw [Qa, Qb h]
 simp only [Qj]
 omega
theorem below_sum (l : List Int) : ∀ l', Below l' l → l'.sum ≤ l.sum := by
  induction l with
  | nil => intro l' h; have : l' = [] := Q7 h.1
           subst this; exact Zw _
  | cons a l ih =>
    intro l' h
    obtain ⟨h1, h2⟩ := h
    cases l' with
    | nil => simp at h1
    | cons a' l' =>
      have h3 := h2 0 (by simp)
      have h4 := ih l' ⟨by simpa using h1, fun i hi => by have := h2 (i + 1) (by simpa using hi); simpa using this⟩
      simp at h3
      rw [Zp, Zp]; omega
theorem Dn_below (l : List Int) : ∀ l', Below l' l → Dn l' ≤ Dn l ∧ Dn l ≤ Dn l' + (l.sum - l'.sum) := by
 refine row_ind (p := fun l => ∀ l', Below l' l → Dn l' ≤ Dn l ∧ Dn l ≤ Dn l' + (l.sum - l'.sum)) (fun l' h => ?_) (fun l ih hne l' h => ?_) l
 ·have : l' = [] := Q7 h.1
  subst this; simp
 ·have hne' : l' ≠ [] := fun e => hne (Q7 (by rw [← h.1, e]; rfl))
  constructor
  ·have hc := lastOf_lt hne
   have h1 := ((ih _ hc).1 _ (h.take _)).1
   have h2 := ((ih _ hc).2 _ (h.drop _)).1
   have h3 := h.2 _ hc
   have h4 := Dn_cut hne
   have h5 := Dn_le (l := l') (i := lastOf l) (by rw [h.1]; exact hc)
   omega
  ·have hc := lastOf_lt hne'
   have hc' : lastOf l' < l.length := by rw [← h.1]; exact hc
   have h1 := ((ih _ hc').1 _ (h.take _)).2
   have h2 := ((ih _ hc').2 _ (h.drop _)).2
   have b1 := below_sum _ _ (h.take (lastOf l'))
   have b2 := below_sum _ _ (h.drop (lastOf l' + 1))
   have h3 := h.2 _ hc'
   have h4 := Dn_cut hne'
   have h5 := Dn_le (l := l) (i := lastOf l') hc'
   have s1 := sum_cut hc
   have s2 := sum_cut hc'
   omega
theorem soon_below {t t' : List Int} (h : OkT t) (hb : Below t' t) : minL (ringC t') ≤ minL (ringC t) ∧ minL (ringC t) ≤ minL (ringC t') + (t.sum - t'.sum) := by
 have h1 := h.1
 have hseg : ∀ s m, Below (seg t' s m) (seg t s m) := fun s m => ⟨by rw [seg_len, seg_len], fun i hi => by
  rw [seg_len] at hi
  rw [seg_get hi, seg_get hi, hb.1]
  exact hb.2 _ (Qc _ (by omega))⟩
 have hne : ∀ u : List Int, u.length = t.length → ringC u ≠ [] := fun u hu e => by have := ringC_len u; rw [e, Qe] at this; omega
 constructor
 ·obtain ⟨s, hs⟩ := Zg (minL_mem (hne t rfl))
  have hsl := getElemLt hs
  rw [ringC_len] at hsl
  rw [ring_get hsl] at hs
  have hs := Zf.inj hs
  have h2 := minL_le (Qs (ring_get (t := t') (s := s) (by rw [hb.1]; exact hsl)))
  have h3 := (Dn_below _ _ (hseg (s + 1) (t.length - 1))).1
  have h4 := hb.2 s hsl
  rw [hb.1] at h2
  omega
 ·obtain ⟨s, hs⟩ := Zg (minL_mem (hne t' hb.1))
  have hsl := getElemLt hs
  rw [ringC_len, hb.1] at hsl
  rw [ring_get (by rw [hb.1]; exact hsl), hb.1] at hs
  have hs := Zf.inj hs
  have h2 := minL_le (Qs (ring_get (t := t) (s := s) hsl))
  have h3 := (Dn_below _ _ (hseg (s + 1) (t.length - 1))).2
  have s1 := seg_sum (t := t) hsl
  have s2 := seg_sum (t := t') (s := s) (by rw [hb.1]; exact hsl)
  rw [hb.1] at s2
  omega
theorem minL_twice {l : List Int} (h : l ≠ []) : minL (l.map fun x => 2 * x) = 2 * minL l := by
 refine minL_eq (List.mem_map.2 ⟨_, minL_mem h, rfl⟩) fun x hx => ?_
 obtain ⟨y, hy, rfl⟩ := List.mem_map.1 hx
 have := minL_le hy
 omega
theorem getD_twice (l : List Int) (i : Nat) : (l.map fun x => 2 * x).getD i 0 = 2 * l.getD i 0 := by
 simp only [Qa, Ql]
 cases l[i]? <;> rfl
theorem Dn_twice (l : List Int) : Dn (l.map fun x => 2 * x) = 2 * Dn l := by
 refine row_ind (p := fun l => Dn (l.map fun x => 2 * x) = 2 * Dn l) rfl (fun l ih hne => ?_) l
 rw [Dn_eq, Dn_eq l, ← minL_twice (costs_ne hne)]
 congr 1
 unfold costs
 rw [Qd, Zr]
 refine Zb fun i hi => ?_
 rw [Zj] at hi
 simp only [Function.comp_apply]
 rw [← List.map_take, ← Zz, (ih i hi).1, (ih i hi).2, getD_twice]
 omega
theorem soon_twice {t : List Int} (h : OkT t) : minL (ringC (t.map fun x => 2 * x)) = 2 * minL (ringC t) := by
 have h1 := h.1
 have hne : ringC t ≠ [] := fun e => by have := ringC_len t; rw [e, Qe] at this; omega
 rw [← minL_twice hne]
 congr 1
 unfold ringC
 rw [Qd, Zr]
 refine Zb fun s _ => ?_
 simp only [Function.comp_apply]
 have hs : ∀ s m, seg (t.map fun x => 2 * x) s m = (seg t s m).map fun x => 2 * x := fun s m => by
  unfold seg
  rw [Zr, Qd]
  refine Zb fun q _ => ?_
  simp only [Function.comp_apply]
  rw [getD_twice]
 rw [hs, Dn_twice, getD_twice]; omega
end Go.C02
set_option maxRecDepth 8000
set_option linter.unusedSimpArgs false
namespace Go.C02
open Go.Fam Go.Proofs
end Go.C02
set_option linter.unusedSimpArgs false
set_option linter.unusedVariables false
namespace Go.C02
open Go.Fam Go.Proofs
def fewF (f : Fig) (s : Nat) (k : Int) : Fig := { f with times := f.times.set s (f.times.getD s 0 - k) }
def twiF (f : Fig) : Fig := { f with times := f.times.map fun x => 2 * x }
def copyF6 (f : Fig) : List V := [.sl 4 (f.dome.bolts.map eBolt), .sl 1 (f.dome.gores.map eI), .i f.dome.loss, .sl 2 (f.dome.rounds.map eSpan), .sl 1 (f.dome.widths.map eI), .i f.dome.slope,
 .i f.period, .i f.run, .i f.near, .rf 8 1 0 f.starts.length 1, .rf 10 1 0 f.times.length 1]
theorem few_ok {f : Fig} (h : figCheck f = 0) {s : Nat} (hs : s < f.times.length) {k : Int} (hk : 0 ≤ k) (hk2 : k < f.times.getD s 0) : figCheck (fewF f s k) = 0 := by
 have hv := validF_of h
 refine good_starts h rfl rfl rfl rfl ⟨by simp [fewF], fun x hx => ?_⟩ ⟨rfl, hv.starts⟩
 rcases List.mem_or_eq_of_mem_set hx with hx | rfl
 ·exact hv.times x hx
 ·have := hv.times _ (List.getElem_mem hs)
  rw [Qa, Qb hs, Qj] at hk2 ⊢
  omega
set_option maxRecDepth 20000 in
set_option maxHeartbeats 4000000 in
theorem P6 (f : Fig) (seam fewer : Int) : PureCall Try.prog 6 [.ag (eFig f), .i seam, .i fewer] (.b true) := by
  refine pure_body okHB hmix Try.func6 N.cb6 N.cc6 N.cs6 N.cn6 ?_
  have g1 := b24 f
  have g2 := b25 f
  have g3 := b21o f
  have g9 := b17
  simp only [eFig] at g1 g2 g3
  cases hf : farRing f with
  | true => simp only [N.rc6, N.rs6, g1, g9, hf, ru_reg, ru_seq, ru_cnd, ru_ret, ru_keep, thenQ, run_nil, run_cons, Fam.step, stepQ, needQ, condB, ug, evO, opv, qv, pickV_bb, pickV_t, binV, ldV, iadV, lenV, callV, V.cells, solid, hasRef, hasRefL, flat, upd_some, lkp_cons, lkp_nil, ↓reduceIte, Nat.reduceEqDiff, Nat.reduceAdd, Nat.reduceLT, Nat.reduceLeDiff, Qf, Qp, Qq, Qu, Qk, Qe, Qg, Qm, Qi, Qw, Qn, Qo, endQ, rvs, rv1, resV, vw_i, vw_b, vw_sl, vw_ag, zipA, Qv, Qr, Zc, Qx, Qy, Qh, Q1, true_and, and_true, and_self, false_and, forall_const, false_implies, implies_true, reduceCtorEq, beq_false, imp_self, Qd, Qa, Ql, eFig]
  | false =>
    have h21 := farRing_ok hf
    obtain ⟨hs, ht⟩ := h21.lens
    by_cases hc : figCheck f = 0
    case neg => simp only [N.rc6, N.rs6, g1, g2, g9, hf, hs, ht, hc, eq_self, ru_reg, ru_seq, ru_cnd, ru_ret, ru_keep, thenQ, run_nil, run_cons, Fam.step, stepQ, needQ, condB, ug, evO, opv, qv, pickV_bb, pickV_t, binV, ldV, iadV, lenV, callV, V.cells, solid, hasRef, hasRefL, flat, upd_some, lkp_cons, lkp_nil, ↓reduceIte, Nat.reduceEqDiff, Nat.reduceAdd, Nat.reduceLT, Nat.reduceLeDiff, Qf, Qp, Qq, Qu, Qk, Qe, Qg, Qm, Qi, Qw, Qn, Qo, endQ, rvs, rv1, resV, vw_i, vw_b, vw_sl, vw_ag, zipA, beq_self_eq_true, Qv, Qr, Zc, Qx, Qy, Zx, Qh, Q1, decide_false, true_and, and_true, and_self, false_and, forall_const, implies_true, reduceCtorEq, beq_false, imp_self, Qd, Qa, Ql, eFig]
    by_cases hs1 : seam < 0
    case pos => simp only [N.rc6, N.rs6, g1, g2, g9, hf, hs, ht, hc, hs1, eq_self, ru_reg, ru_seq, ru_cnd, ru_ret, ru_keep, thenQ, run_nil, run_cons, Fam.step, stepQ, needQ, condB, ug, evO, opv, qv, pickV_bb, pickV_t, binV, ldV, iadV, lenV, callV, V.cells, solid, hasRef, hasRefL, flat, upd_some, lkp_cons, lkp_nil, ↓reduceIte, Nat.reduceEqDiff, Nat.reduceAdd, Nat.reduceLT, Nat.reduceLeDiff, Qf, Qp, Qq, Qu, Qk, Qe, Qg, Qm, Qi, Qw, Qn, Qo, endQ, rvs, rv1, resV, vw_i, vw_b, vw_sl, vw_ag, zipA, beq_self_eq_true, Qv, Qr, Zc, Qx, Qy, Qh, Q1, decide_true, true_and, and_true, and_self, false_and, forall_const, implies_true, reduceCtorEq, beq_false, imp_self, Qd, Qa, Ql, eFig]
    by_cases hs2 : (f.times.length : Int) ≤ seam
    case pos => simp only [N.rc6, N.rs6, g1, g2, g9, hf, hs, ht, hc, hs1, hs2, eq_self, ru_reg, ru_seq, ru_cnd, ru_ret, ru_keep, thenQ, run_nil, run_cons, Fam.step, stepQ, needQ, condB, ug, evO, opv, qv, pickV_bb, pickV_t, binV, ldV, iadV, lenV, callV, V.cells, solid, hasRef, hasRefL, flat, upd_some, lkp_cons, lkp_nil, ↓reduceIte, Nat.reduceEqDiff, Nat.reduceAdd, Nat.reduceLT, Nat.reduceLeDiff, Qf, Qp, Qq, Qu, Qk, Qe, Qg, Qm, Qi, Qw, Qn, Qo, endQ, rvs, rv1, resV, vw_i, vw_b, vw_sl, vw_ag, zipA, beq_self_eq_true, Qv, Qr, Zc, Qx, Qy, Qh, Q1, decide_true, decide_false, true_and, and_true, and_self, false_and, forall_const, implies_true, reduceCtorEq, beq_false, imp_self, Qd, Qa, Ql, eFig]
    by_cases hm1 : fewer < 0
    case pos => simp only [N.rc6, N.rs6, g1, g2, g9, hf, hs, ht, hc, hs1, hs2, hm1, eq_self, ru_reg, ru_seq, ru_cnd, ru_ret, ru_keep, thenQ, run_nil, run_cons, Fam.step, stepQ, needQ, condB, ug, evO, opv, qv, pickV_bb, pickV_t, binV, ldV, iadV, lenV, callV, V.cells, solid, hasRef, hasRefL, flat, upd_some, lkp_cons, lkp_nil, ↓reduceIte, Nat.reduceEqDiff, Nat.reduceAdd, Nat.reduceLT, Nat.reduceLeDiff, Qf, Qp, Qq, Qu, Qk, Qe, Qg, Qm, Qi, Qw, Qn, Qo, endQ, rvs, rv1, resV, vw_i, vw_b, vw_sl, vw_ag, zipA, beq_self_eq_true, Qv, Qr, Zc, Qx, Qy, Qh, Q1, decide_true, decide_false, true_and, and_true, and_self, false_and, forall_const, implies_true, reduceCtorEq, beq_false, imp_self, Qd, Qa, Ql, eFig]
    have hsl : seam.toNat < f.times.length := by omega
    obtain ⟨x, hx⟩ : ∃ x, f.times[seam.toNat]? = some x := ⟨_, Qb hsl⟩
    have i1 : 0 ≤ seam := by omega
    have i2 : seam < f.times.length := by omega
    by_cases hm2 : x ≤ fewer
    case pos => simp only [N.rc6, N.rs6, g1, g2, g9, hf, hs, ht, hc, hs1, hs2, hm1, hm2, hx, i1, i2, eq_self, ru_reg, ru_seq, ru_cnd, ru_ret, ru_keep, thenQ, run_nil, run_cons, Fam.step, stepQ, needQ, condB, ug, evO, opv, qv, pickV_bb, binV, ldV, iadV, lenV, callV, V.cells, solid, hasRef, hasRefL, flat, upd_some, lkp_cons, lkp_nil, ↓reduceIte, Nat.reduceEqDiff, Nat.reduceAdd, Nat.reduceLT, Nat.reduceLeDiff, Qf, Qp, Qq, Qu, Qk, Qe, Qg, Qm, Qi, Qw, Qn, Qo, Qj, endQ, rvs, rv1, resV, vw_i, vw_b, vw_sl, vw_ag, zipA, beq_self_eq_true, Qv, Qr, Qx, Qy, Qh, decide_true, decide_false, and_self, forall_const, implies_true, reduceCtorEq, Zs, Qd, Qa, Ql, eI, eFig]
    have hT := okT_of hc
    have hxb := hT.2.2 x (Qs hx)
    have hns0 : ∀ k, shL k (f.starts.map V.i) = f.starts.map V.i := fun k => shL_noref k _ (nr_i _)
    have hnt0 : ∀ k, shL k (f.times.map V.i) = f.times.map V.i := fun k => shL_noref k _ (nr_i _)
    have hin : inI (x - fewer) := by unfold inI; omega
    obtain ⟨pre, hpre⟩ : ∃ pre, pre = (f.times.take seam.toNat).map V.i := ⟨_, rfl⟩
    obtain ⟨post, hpost⟩ : ∃ post, post = (f.times.drop (seam.toNat + 1)).map V.i := ⟨_, rfl⟩
    have hpl : pre.length = seam.toNat := by rw [hpre, Qd, Q9]; omega
    have hd1 : Z4 seam.toNat (f.times.map V.i) = V.i x :: post := by
      rw [← Zz, Za hsl, Qf, ← hpost]
      rw [Qb hsl] at hx
      rw [Zf.inj hx]
    have hd2 : List.take seam.toNat (f.times.map V.i) = pre := by rw [← List.map_take, hpre]
    have hd3 : Z4 (seam.toNat + 1) (f.times.map V.i) = post := by rw [← Zz, hpost]
    have hle : seam.toNat + 1 ≤ f.times.length := by omega
    simp only [N.rc6, N.rs6, g1, g2, g3, hf, hs, ht, hc, hs1, hs2, hm1, hm2, hx, i1, i2, h21, hin, copyF, copyFH, fl_I, hns0, hnt0, hd1, hd2, hd3, hle, Ze, eq_self, ru_skip, ru_reg, ru_any, ru_seq, ru_cnd, ru_block, ru_keep, effO, holesB, setsL, putBs, optL, upTo, rids, ridsL, rflat, rflatL, rflatB, shV, shL, shB, vB_cells, putB, thenQ, run_nil, run_cons, Fam.step, stepQ, stepW, needQ, needW, condB, ug, runX, eff, nextD, fpR, fpQ, fpV, disjB, hits, putB, nv, sv, evO, opv, qv, pickV_bb, binV, ldV, iadV, lenV, curG, callV, putAt, V.cells, solid, cellOk, hasRef, hasRefL, flat, upd_some, upd_none, lkp_cons, lkp_nil, ↓reduceIte, Nat.reduceEqDiff, Nat.reduceAdd, Nat.reduceLT, Nat.reduceLeDiff, Nat.reduceBEq, Qf, Qp, Qq, Qu, Qk, Qe, Qg, Qm, List.drop_nil, Qi, Zk, Qw, Qn, Z5, Zd, Qo, Q4, Q5, List.getElem?_nil, Qj, Option.getD_none, Z1, Z2, List.replicate_zero, List.replicate_succ, List.isEmpty_nil, List.isEmpty_cons, vw_i, vw_sl, vw_ag, zipA, beq_self_eq_true, Qv, Nat.add_zero, Qr, Zc, Bool.true_and, Bool.false_and, Bool.and_false, Qx, Bool.false_or, Qy, Zx, Qh, decide_true, decide_false, true_and, and_self, forall_const, implies_true, reduceCtorEq, Zs, List.any_cons, List.any_nil, List.contains_cons, List.contains_nil, Qd, Qa, Ql, eI, eFig]
    have e0 : pre ++ [V.i (x - fewer)] ++ post = (fewF f seam.toNat fewer).times.map V.i := by
      have e00 : (fewF f seam.toNat fewer).times = f.times.set seam.toNat (x - fewer) := by
        unfold fewF
        rw [Qa, hx, Qj]
      rw [e00, List.set_eq_take_append_cons_drop, if_pos hsl, Zh, Qf, ← hpre, ← hpost]
      simp
    rw [e0]
    have hx' : f.times.getD seam.toNat 0 = x := by rw [Qa, hx, Qj]
    have hok' := few_ok hc hsl (k := fewer) (by omega) (by omega)
    obtain ⟨L, hL⟩ : ∃ L, L = (twiF f).times := ⟨_, rfl⟩
    have hLl : L.length = f.times.length := by rw [hL]; simp [twiF]
    obtain ⟨K, hK⟩ : ∃ K, K = (fewF f seam.toNat fewer).times := ⟨_, rfl⟩
    have hKl : K.length = f.times.length := by rw [hK]; simp [fewF]
    rw [← hK]
    refine ru_count f.times.length (fun i => ⟨lkp [(2, .i fewer), (3, .pa (eFig f)), (7, .ad 12 0 0), (8, .ad 13 0 0), (9, .i i)],
      [.cells 0 (copyF f), .cells 0 (copyF f), .cells 1 (f.starts.map V.i), .hole, .cells 1 (K.map V.i), .hole,
       .cells 0 (copyF6 f), .cells 0 (copyF6 f), .cells 1 (f.starts.map V.i), .hole, .cells 1 ((L.take i ++ f.times.drop i).map V.i), .hole, .cells 0 (copyF f), .cells 0 (copyF6 f)]⟩) ?_ ?_ ?_
    · simp only [Int.natCast_zero, copyF, copyF6, kp, lkp_cons, lkp_nil, ↓reduceIte, Nat.reduceEqDiff, Qf, Qp, Qm, Zk, Zd, eFig]
      rfl
    · intro i hi
      obtain ⟨y, hy⟩ : ∃ y, f.times[i]? = some y := ⟨_, Qb hi⟩
      have hy2 : L[i]? = some (2 * y) := by rw [hL]; simp [twiF, hy]
      have hyb := hT.2.2 y (Qs hy)
      have hlt : (i : Int) < f.times.length := by omega
      have hl16 := hT.2.1
      have h3 : inI ((i : Int) + 1) := by unfold inI; omega
      have h4 : inI (y * 2) := by unfold inI; omega
      have hyc : y * 2 = 2 * y := by omega
      obtain ⟨pre, hpre⟩ : ∃ pre, pre = (L.take i).map V.i := ⟨_, rfl⟩
      obtain ⟨post, hpost⟩ : ∃ post, post = (f.times.drop (i + 1)).map V.i := ⟨_, rfl⟩
      have hpl : pre.length = i := by rw [hpre, Qd, Q9]; omega
      have e1 : (L.take i ++ f.times.drop i).map V.i = pre ++ V.i y :: post := by
        rw [Zh, ← hpre, Za hi, Qf, ← hpost]
        rw [Qb hi] at hy
        rw [Zf.inj hy]
      have e2 : (L.take (i + 1) ++ f.times.drop (i + 1)).map V.i = pre ++ V.i (y * 2) :: post := by
        rw [take_succ_of hy2, Zh, Zh, ← hpre, ← hpost, hyc]; simp
      rw [e1, e2]
      have hdrop : ∀ x : V, Z4 i (pre ++ x :: post) = x :: post := fun x => by simp [hpl]
      have htake : ∀ x : V, List.take i (pre ++ x :: post) = pre := fun x => List.take_left' hpl
      have hdrop1 : ∀ x : V, Z4 (i + 1) (pre ++ x :: post) = post := fun x => by simp [List.drop_append, hpl]
      have hle : i + 1 ≤ i + (post.length + 1) := by omega
      simp only [copyF, copyF6, hlt, h3, h4, Ze, hdrop, htake, hdrop1, List.append_assoc, List.length_append, hpl, hle, Int.natCast_add, Int.natCast_one, ru_skip, ru_reg, ru_seq, ru_cnd, ru_block, ru_keep, putB, thenQ, blockQ, run_nil, run_cons, Fam.step, stepQ, stepW, needW, putB, nv, sv, evO, opv, qv, binV, ldV, iadV, lenV, curG, putAt, V.cells, solid, cellOk, kp, upd_some, upd_none, lkp_cons, lkp_nil, ↓reduceIte, Nat.reduceEqDiff, Nat.reduceAdd, Nat.reduceLeDiff, Qf, Qp, Qq, Qu, Qk, Qe, Qg, Qm, Qn, Z5, Zd, Q4, Q5, Z1, Z2, Int.natCast_nonneg, beq_self_eq_true, Qv, Qr, Qh, decide_true, and_self, Qd, Int.toNat_natCast, eFig]
    · have e3 : (L.take f.times.length ++ f.times.drop f.times.length) = L := by
        rw [List.take_of_length_le (by omega), List.drop_of_length_le (by omega), Qo]
      rw [e3]
      have hc0 := chunk_i f.starts
      have hc1 := chunk_i L
      rw [hLl] at hc1
      have hc2 := chunk_i K
      rw [hKl] at hc2
      have g5 := b26 f
      have g6 := b26 (fewF f seam.toNat fewer)
      have g7 := b25 (twiF f)
      have g8 := b26 (twiF f)
      have r1 : soonR f = (minL (ringC f.times), 0) := by unfold soonR; rw [if_neg (by simp [hc]), soon_eq hT]
      have r2 : soonR (fewF f seam.toNat fewer) = (minL (ringC K), 0) := by unfold soonR; rw [if_neg (by simp [hok']), soon_eq (okT_of hok'), hK]
      have hbel : Below K f.times := by
        refine ⟨hKl, fun i hi => ?_⟩
        rw [hK]
        unfold fewF
        simp only [Qa, Zm]
        split
        · subst_vars; simp [hsl]; omega
        · omega
      have hsum : f.times.sum - K.sum = fewer := by
        have s1 := sum_cut hsl
        have s2 := sum_cut (l := K) (k := seam.toNat) (by omega)
        have e00 : K = f.times.set seam.toNat (x - fewer) := by
          rw [hK]; unfold fewF
          rw [Qa, hx, Qj]
        have t1 : K.take seam.toNat = f.times.take seam.toNat := by rw [e00, List.take_set_of_le (Q6 _)]
        have t2 : K.drop (seam.toNat + 1) = f.times.drop (seam.toNat + 1) := by rw [e00, List.drop_set_of_lt (by omega)]
        have t3 : K.getD seam.toNat 0 = x - fewer := by rw [e00, Qa, List.getElem?_set_self (by omega), Qj]
        rw [t1, t2, t3] at s2
        omega
      obtain ⟨n1, n2⟩ := soon_below hT hbel
      rw [hsum] at n2
      rw [r1] at g5
      rw [r2] at g6
      have ne1 : ringC f.times ≠ [] := by
        intro e
        have := ringC_len f.times
        rw [e] at this
        have := hT.1
        simp at *; omega
      have ne2 : ringC K ≠ [] := by
        intro e
        have := ringC_len K
        rw [e, hKl] at this
        have := hT.1
        simp at *; omega
      have q1 := ringC_pos hT _ (minL_mem ne1)
      have hTK : OkT K := by rw [hK]; exact okT_of hok'
      have q2 := ringC_pos hTK _ (minL_mem ne2)
      have q3 : inI (minL (ringC f.times) - minL (ringC K)) := by unfold inI; omega
      have q4 : ¬ minL (ringC f.times) < minL (ringC K) := by omega
      have q5 : ¬ fewer < minL (ringC f.times) - minL (ringC K) := by omega
      have q6 : inI (2 * minL (ringC f.times)) := by unfold inI; omega
      have hst : (twiF f).starts.length < 10000000 := hs
      have htt : (twiF f).times.length < 10000000 := by rw [← hL, hLl]; exact ht
      have hst : f.starts.length < 10000000 := hs
      have htt : f.times.length < 10000000 := ht
      by_cases hcc : figCheck (twiF f) = 0
      case neg =>
        simp only [eFig, eNE, show (fewF f seam.toNat fewer).dome = f.dome from rfl, show (fewF f seam.toNat fewer).period = f.period from rfl, show (fewF f seam.toNat fewer).run = f.run from rfl, show (fewF f seam.toNat fewer).near = f.near from rfl, show (fewF f seam.toNat fewer).starts = f.starts from rfl, ← hK, show (twiF f).dome = f.dome from rfl, show (twiF f).period = f.period from rfl, show (twiF f).run = f.run from rfl, show (twiF f).near = f.near from rfl, show (twiF f).starts = f.starts from rfl, ← hL, hLl] at g5 g6 g7 g8
        simp only [copyF, copyF6, Zq, hpF, upB, upL, upV, upL_noref _ _ (nr_i _), Ze, Qd, hLl, hKl, Q6, hc0, hc1, hc2, vw_I, g5, g6, g7, g9, q3, q4, q5, hst, htt, hcc, eq_self, ru_skip, ru_reg, ru_seq, ru_cnd, ru_exit, ru_ret, ru_keep, ru_drp, ↓cut_lkp, cutH, thenQ, blockQ, run_nil, run_cons, Fam.step, stepQ, needQ, condB, ug, evO, opv, qv, pickV_bb, binV, ldV, lenV, callV, hasRef, hasRefL, flat, flatL, cutV, upd_some, lkp_cons, lkp_nil, ↓reduceIte, Nat.reduceEqDiff, Nat.reduceAdd, Nat.reduceLT, Qf, Qp, Qq, Qu, Qk, Qe, Qg, Qm, Qi, Zk, Qw, Qn, Zd, Qo, Q4, Q5, Qj, endQ, rvs, rv1, resV, vw_i, vw_b, vw_sl, vw_ag, vw_ad, vw_rf, Zq, beq_self_eq_true, Qv, Qr, Qx, Qy, Zx, Qh, decide_true, decide_false, and_self, forall_const, implies_true, Qd, eFig]
      case pos =>
        have r3 : soonR (twiF f) = (2 * minL (ringC f.times), 0) := by
          unfold soonR
          rw [if_neg (by simp [hcc]), soon_eq (okT_of hcc)]
          show (minL (ringC (f.times.map fun x => 2 * x)), (0 : Int)) = _
          rw [soon_twice hT]
        rw [r3] at g8
        simp only [eFig, eNE, show (fewF f seam.toNat fewer).dome = f.dome from rfl, show (fewF f seam.toNat fewer).period = f.period from rfl, show (fewF f seam.toNat fewer).run = f.run from rfl, show (fewF f seam.toNat fewer).near = f.near from rfl, show (fewF f seam.toNat fewer).starts = f.starts from rfl, ← hK, show (twiF f).dome = f.dome from rfl, show (twiF f).period = f.period from rfl, show (twiF f).run = f.run from rfl, show (twiF f).near = f.near from rfl, show (twiF f).starts = f.starts from rfl, ← hL, hLl] at g5 g6 g7 g8
        simp only [copyF, copyF6, Zq, hpF, upB, upL, upV, upL_noref _ _ (nr_i _), Ze, Qd, hLl, hKl, Q6, hc0, hc1, hc2, vw_I, g5, g6, g7, g8, g9, q3, q4, q5, q6, hst, htt, hcc, eq_self, ru_skip, ru_reg, ru_seq, ru_cnd, ru_exit, ru_ret, ru_keep, ru_drp, ↓cut_lkp, cutH, thenQ, blockQ, run_nil, run_cons, Fam.step, stepQ, needQ, condB, ug, evO, opv, qv, pickV_bb, binV, ldV, lenV, callV, hasRef, hasRefL, flat, flatL, cutV, upd_some, lkp_cons, lkp_nil, ↓reduceIte, Nat.reduceEqDiff, Nat.reduceAdd, Nat.reduceLT, Qf, Qp, Qq, Qu, Qk, Qe, Qg, Qm, Qi, Zk, Qw, Qn, Zd, Qo, Q4, Q5, Qj, endQ, rvs, rv1, resV, vw_i, vw_b, vw_sl, vw_ag, vw_ad, vw_rf, Zq, beq_self_eq_true, Qv, Qr, Qx, Qy, Qh, Q1, decide_true, decide_false, and_self, forall_const, implies_true, Qd, eFig]
end Go.C02
