import Derived.Test.YtoeiaekighfifaaG3
import Derived.Test.YtoeiaekighfifaaChecked
import Derived.Test.YtoeiaekighfifaaG6
set_option linter.all false
open List renaming map_cons → Qb, length_cons → Qc, map_nil → Qd, length_nil → Qe, drop_succ_cons → Qf, headD_cons → Qg, length_map → Qh, drop_zero → Qj, getD_eq_getElem?_getD → Qk, take_succ_cons → Ql, append_nil → Qo, all_nil → Qp, all_cons → Qr, getElem?_map → Qu, replicate_zero → Qw, getElem?_eq_getElem → Qx, cons_append → Qy, nil_append → Q0, take_nil → Q1, getElem?_nil → Q5, contains_nil → Q6, isEmpty_nil → Q9, any_nil → Zb, mem_range → Zc, any_eq_true → Ze, getElem?_cons_zero → Zg, nodup_iff_pairwise_ne → Zh, mem_filter → Zj, all_eq_true → Zk, mem_of_getElem? → Zl, getElem?_cons_succ → Zn, getElem?_of_mem → Zp, flatten_cons → Zq, take_zero → Zr, set_cons_zero → Zs, any_eq_false → Zt, mem_map → Zw, pairwise_map → Zz, range → Z0, flatten_nil → Z1, replicate_succ → Z3, pairwise_iff_getElem → Z4, all_eq_false → Z5, filter_congr → Z7, drop_nil → Z9, Pairwise → Xa, length_eq_zero_iff → Xb, pairwise_lt_range → Xc, getElem?_eq_none → Xe, length_filter_le → Xf, take_append_drop → Xg, set_cons_succ → Xh, range_succ → Xk
open Nat renaming zero_add → Qi, le_refl → Z6
open Bool renaming false_eq_true → Qa, or_false → Qm, and_self → Qn, true_eq_false → Qs, and_true → Qt, not_true → Qv, not_false → Qz, false_and → Q7, and_eq_true → Za, or_eq_false_iff → Zm, eq_iff_iff → Zo, and_false → Zv, true_and → Zx, not_eq_true' → Zy, false_or → Z8, and_eq_false_iff → Xd, or_eq_true → Xj
open Option renaming getD_some → Qq, map_some → Q2, getD_none → Q8, map_none → Z2, some → Xi
open Int renaming natCast_nonneg → Q3, toNat_natCast → Q4, natCast_zero → Zd, natCast_one → Zf, natCast_add → Zi, toNat_zero → Zu
set_option maxRecDepth 8000
namespace Go.C10
open Go.Fam Go.Proofs
def rc36 : RC := (.seq (.reg false [(cX 1 0), (cI 2 0)]) (.keep [1] (.seq (.seq (.reg true [(cFa 4 1 0), (cLd 5 4 false 1), (cC 6 .lss 5 0), (cMv 7 6), (gQ 8 7 false [1] (.fad 0 (.t 1))), (gQ 9 7 false [8] (.ld false 1 (.t 8))), (gQ 10 7 false [9] (.bin .gtr (.t 9) (kI 7))), (cQ 11 [7,10] (.pick (.t 7) (kB true) (.t 10))), (cMv 12 11), (gQ 13 12 false [1] (.fad 2 (.t 1))), (gQ 14 12 false [13] (.ld false 1 (.t 13))), (gQ 15 12 false [14] (.bin .lss (.t 14) (kI 0))), (cQ 16 [12,15] (.pick (.t 12) (kB true) (.t 15))), (cMv 17 16), (gQ 18 17 false [1] (.fad 2 (.t 1))), (gQ 19 17 false [18] (.ld false 1 (.t 18))), (gQ 20 17 false [19] (.bin .gtr (.t 19) (kI 7))), (cQ 21 [17,20] (.pick (.t 17) (kB true) (.t 20)))]) (.keep [1,21] (.cond (.t 21) (.seq (.reg false [(cI 2 100)]) .ret) .skip))) (.keep [1] (.seq (.seq (.reg false [(cFa 22 1 1), (cLd 23 22 false 1), (cLn 24 23), (cC 25 .gtr 24 20)]) (.keep [1,25] (.cond (.t 25) (.seq (.reg false [(cI 2 101)]) .ret) .skip))) (.keep [1] (.seq (.seq (.reg false [(cI 3 0)]) (.keep [1,3] (.block 0 (.loop [1,3] none (.seq (.seq (.reg false [(cMv 26 3), (cFa 27 1 1), (cLd 28 27 false 1), (cLn 29 28), (cB 30 .lss 26 29)]) (.keep [1,3,30] (.cond (.t 30) .skip (.exit 0)))) (.keep [1,3] (.seq (.block 1 (.seq (.any false 0 [⟨(cLd 33 1 true 3), [], []⟩, ⟨(cFa 34 1 1), [], []⟩, ⟨(cLd 35 34 false 1), [], [1]⟩, ⟨(cMv 36 3), [], []⟩, ⟨(cA 37 4 35 36), [], [2,1,3]⟩, ⟨(cLd 38 37 true 4), [], [4,2,1,3]⟩, ⟨(cQ 39 [33,38] (.call (kF 65) [(.t 33), (.t 38)])), [], [0,5,4,2,1,3]⟩, ⟨(cN 40 39), [], [6,0,5,4,2,1,3]⟩]) (.keep [1,3,40] (.cond (.t 40) (.seq (.reg false [(cI 2 101)]) .ret) .skip)))) (.keep [1,3] (.reg false [(cMv 31 3), (cC 32 .add 31 1), (cMv 3 32)]))))))))) (.keep [] (.seq (.reg false [(cI 2 0)]) .ret)))))))))
def pu36 : List Nat := [1]
def rs36 : List RV := [.t 2]
theorem cc36 : CCx Try.prog Try.f36 pu36 rc36 := by unfold CCx; kernel_rfl
theorem cb36 : CBx Try.f36 := by unfold CBx; kernel_rfl
theorem cs36 : CSx Try.prog Try.f36 rs36 := by unfold CSx; kernel_rfl
theorem cn36 : 1 ≤ Try.f36.ntmps := by decide
def rc65 : RC := (.seq (.reg false [(cX 2 0), (cX 3 1), (cQ 4 [] (.mv (kB false)))]) (.keep [2,3] (.seq (.seq (.reg true [(cLd 6 2 true 3), (cFa 7 3 1), (cLd 8 7 false 1), (cQ 9 [6,8] (.call (kF 62) [(.t 6), (.t 8)])), (cN 10 9), (cMv 11 10), (gQ 12 11 false [2] (.ld true 3 (.t 2))), (gQ 13 11 false [3] (.fad 2 (.t 3))), (gQ 14 11 false [13] (.ld false 1 (.t 13))), (gQ 15 11 false [12,14] (.call (kF 62) [(.t 12), (.t 14)])), (gQ 16 11 false [15] (.not (.t 15))), (cQ 17 [11,16] (.pick (.t 11) (kB true) (.t 16)))]) (.keep [2,3,17] (.cond (.t 17) (.seq (.reg false [(cQ 4 [] (.mv (kB false)))]) .ret) .skip))) (.keep [2,3] (.seq (.seq (.reg true [(cFa 18 3 0), (cLd 19 18 false 1), (cC 20 .eql 19 3), (cMv 21 20), (gQ 22 21 false [3] (.fad 0 (.t 3))), (gQ 23 21 false [22] (.ld false 1 (.t 22))), (gQ 24 21 false [23] (.bin .eql (.t 23) (kI 4))), (cQ 25 [21,24] (.pick (.t 21) (kB true) (.t 24)))]) (.keep [2,3,25] (.cond (.t 25) (.seq (.reg true [(cFa 26 3 3), (cLd 27 26 false 1), (cLn 28 27), (cC 29 .eql 28 0), (cMv 30 29), (gQ 31 30 true [3] (.fad 1 (.t 3))), (gQ 32 30 true [31] (.ld false 1 (.t 31))), (gQ 33 30 true [3] (.fad 2 (.t 3))), (gQ 34 30 true [33] (.ld false 1 (.t 33))), (gQ 35 30 true [32,34] (.bin .neq (.t 32) (.t 34))), (cQ 36 [30,35] (.pick (.t 30) (.t 35) (kB false))), (cMv 4 36)]) .ret) .skip))) (.keep [2,3] (.seq (.seq (.reg true [(cFa 37 3 0), (cLd 38 37 false 1), (cC 39 .neq 38 1), (cMv 40 39), (gQ 41 40 true [3] (.fad 0 (.t 3))), (gQ 42 40 true [41] (.ld false 1 (.t 41))), (gQ 43 40 true [42] (.bin .neq (.t 42) (kI 2))), (cQ 44 [40,43] (.pick (.t 40) (.t 43) (kB false))), (cMv 45 44), (gQ 46 45 false [3] (.fad 3 (.t 3))), (gQ 47 45 false [46] (.ld false 1 (.t 46))), (gQ 48 45 false [47] (.len (.t 47))), (gQ 49 45 false [48] (.bin .eql (.t 48) (kI 0))), (cQ 50 [45,49] (.pick (.t 45) (kB true) (.t 49))), (cMv 51 50), (gQ 52 51 false [3] (.fad 2 (.t 3))), (gQ 53 51 false [52] (.ld false 1 (.t 52))), (gQ 54 51 false [53] (.bin .neq (.t 53) (kI 0))), (cQ 55 [51,54] (.pick (.t 51) (kB true) (.t 54)))]) (.keep [2,3,55] (.cond (.t 55) (.seq (.reg false [(cQ 4 [] (.mv (kB false)))]) .ret) .skip))) (.keep [2,3] (.seq (.seq (.reg false [(cI 5 0)]) (.keep [2,3,5] (.block 0 (.loop [2,3,5] none (.seq (.seq (.reg false [(cMv 56 5), (cFa 57 3 3), (cLd 58 57 false 1), (cLn 59 58), (cB 60 .lss 56 59)]) (.keep [2,3,5,60] (.cond (.t 60) .skip (.exit 0)))) (.keep [2,3,5] (.seq (.block 1 (.seq (.any true 0 [⟨(cLd 63 2 true 3), [], []⟩, ⟨(cFa 64 3 3), [], []⟩, ⟨(cLd 65 64 false 1), [], [1]⟩, ⟨(cMv 66 5), [], []⟩, ⟨(cA 67 1 65 66), [], [2,1,3]⟩, ⟨(cLd 68 67 false 1), [], [4,2,1,3]⟩, ⟨(cQ 69 [63,68] (.call (kF 62) [(.t 63), (.t 68)])), [], [0,5,4,2,1,3]⟩, ⟨(cN 70 69), [], [6,0,5,4,2,1,3]⟩, ⟨(cMv 71 70), [], [7,6,0,5,4,2,1,3]⟩, ⟨(gMv 72 71 false 5), [], [8,7,6,0,5,4,2,1,3]⟩, ⟨(gQ 73 71 false [72] (.bin .gtr (.t 72) (kI 0))), [], [9,8,7,6,0,5,4,2,1,3]⟩, ⟨(gMv 74 71 false 73), [], [10,9,8,7,6,0,5,4,2,1,3]⟩, ⟨(gQ 75 74 true [3] (.fad 3 (.t 3))), [], [11,10,9,8,7,6,0,5,4,2,1,3]⟩, ⟨(gQ 76 74 true [75] (.ld false 1 (.t 75))), [], [12,11,10,9,8,7,6,0,5,4,2,1,3]⟩, ⟨(gMv 77 74 true 5), [], [11,10,9,8,7,6,0,5,4,2,1,3]⟩, ⟨(gQ 78 74 true [76,77] (.iad 1 (.t 76) (.t 77))), [], [13,12,11,10,9,8,7,6,0,5,4,2,1,3,14]⟩, ⟨(gQ 79 74 true [78] (.ld false 1 (.t 78))), [], [15,13,12,11,10,9,8,7,6,0,5,4,2,1,3,14]⟩, ⟨(gQ 80 74 true [3] (.fad 3 (.t 3))), [], [11,10,9,8,7,6,0,5,4,2,1,3]⟩, ⟨(gQ 81 74 true [80] (.ld false 1 (.t 80))), [], [17,11,10,9,8,7,6,0,5,4,2,1,3]⟩, ⟨(gMv 82 74 true 5), [], [11,10,9,8,7,6,0,5,4,2,1,3]⟩, ⟨(gQ 83 74 true [82] (.bin .sub (.t 82) (kI 1))), [], [19,11,10,9,8,7,6,0,5,4,2,1,3]⟩, ⟨(gQ 84 74 true [81,83] (.iad 1 (.t 81) (.t 83))), [], [18,17,11,10,9,8,7,6,0,5,4,2,1,3,20,19]⟩, ⟨(gQ 85 74 true [84] (.ld false 1 (.t 84))), [], [21,18,17,11,10,9,8,7,6,0,5,4,2,1,3,20,19]⟩, ⟨(gQ 86 74 true [79,85] (.bin .leq (.t 79) (.t 85))), [], [16,15,13,12,11,10,9,8,7,6,0,5,4,2,1,3,14,22,21,18,17,20,19]⟩, ⟨(gQ 87 71 false [74,86] (.pick (.t 74) (.t 86) (kB false))), [], [11,10,9,8,7,6,0,5,4,2,1,3,23,16,15,13,12,14,22,21,18,17,20,19]⟩, ⟨(cQ 88 [71,87] (.pick (.t 71) (kB true) (.t 87))), [], [8,7,6,0,5,4,2,1,3,24,11,10,9,23,16,15,13,12,14,22,21,18,17,20,19]⟩]) (.keep [2,3,5,88] (.cond (.t 88) (.seq (.reg false [(cQ 4 [] (.mv (kB false)))]) .ret) .skip)))) (.keep [2,3,5] (.reg false [(cMv 61 5), (cC 62 .add 61 1), (cMv 5 62)]))))))))) (.keep [] (.seq (.reg false [(cQ 4 [] (.mv (kB true)))]) .ret)))))))))))
def pu65 : List Nat := [2,3]
def rs65 : List RV := [.t 4]
theorem cc65 : CCx Try.prog Try.f65 pu65 rc65 := by unfold CCx; kernel_rfl
theorem cb65 : CBx Try.f65 := by unfold CBx; kernel_rfl
theorem cs65 : CSx Try.prog Try.f65 rs65 := by unfold CSx; kernel_rfl
theorem cn65 : 2 ≤ Try.f65.ntmps := by decide
def rc62 : RC := (.seq (.reg false [(cX 2 0), (cQ 4 [] (.mv (kB false)))]) (.keep [1,2] (.seq (.reg true [(cMv 5 1), (cC 6 .geq 5 0), (cMv 7 6), (gMv 8 7 true 1), (gQ 9 7 true [2] (.fad 0 (.t 2))), (gQ 10 7 true [9] (.ld false 1 (.t 9))), (gQ 11 7 true [8,10] (.bin .lss (.t 8) (.t 10))), (cQ 12 [7,11] (.pick (.t 7) (.t 11) (kB false))), (cMv 4 12)]) .ret)))
def pu62 : List Nat := [2]
def rs62 : List RV := [.t 4]
theorem cc62 : CCx Try.prog Try.f62 pu62 rc62 := by unfold CCx; kernel_rfl
theorem cb62 : CBx Try.f62 := by unfold CBx; kernel_rfl
theorem cs62 : CSx Try.prog Try.f62 rs62 := by unfold CSx; kernel_rfl
theorem cn62 : 2 ≤ Try.f62.ntmps := by decide
def rc52 : RC := (.seq (.reg false [(cQ 4 [] (.mv (kB false)))]) (.keep [0,1] (.seq (.seq (.reg false [(cI 5 0)]) (.keep [0,1,5] (.block 0 (.loop [0,1,5] none (.seq (.seq (.reg false [(cMv 6 5), (cMv 7 0), (cLn 8 7), (cB 9 .lss 6 8)]) (.keep [0,1,5,9] (.cond (.t 9) .skip (.exit 0)))) (.keep [0,1,5] (.seq (.block 1 (.seq (.reg false [(cMv 12 0), (cMv 13 5), (cA 14 1 12 13), (cLd 15 14 false 1), (cMv 16 1), (cB 17 .eql 15 16)]) (.keep [0,1,5,17] (.cond (.t 17) (.seq (.reg false [(cQ 4 [] (.mv (kB true)))]) .ret) .skip)))) (.keep [0,1,5] (.reg false [(cMv 10 5), (cC 11 .add 10 1), (cMv 5 11)]))))))))) (.keep [] (.seq (.reg false [(cQ 4 [] (.mv (kB false)))]) .ret)))))
def pu52 : List Nat := []
def rs52 : List RV := [.t 4]
theorem cc52 : CCx Try.prog Try.f52 pu52 rc52 := by unfold CCx; kernel_rfl
theorem cb52 : CBx Try.f52 := by unfold CBx; kernel_rfl
theorem cs52 : CSx Try.prog Try.f52 rs52 := by unfold CSx; kernel_rfl
theorem cn52 : 2 ≤ Try.f52.ntmps := by decide
def rc38 : RC := (.seq (.reg false [(cQ 4 [] (.mv (kB false)))]) (.keep [0,1] (.seq (.seq (.reg false [(cI 5 0)]) (.keep [0,1,5] (.block 0 (.loop [0,1,5] none (.seq (.seq (.reg false [(cMv 6 5), (cMv 7 0), (cLn 8 7), (cB 9 .lss 6 8)]) (.keep [0,1,5,9] (.cond (.t 9) .skip (.exit 0)))) (.keep [0,1,5] (.seq (.block 1 (.seq (.reg false [(cMv 12 0), (cMv 13 5), (cA 14 1 12 13), (cLd 15 14 false 1), (cMv 16 1), (cB 17 .eql 15 16)]) (.keep [0,1,5,17] (.cond (.t 17) (.seq (.reg false [(cQ 4 [] (.mv (kB true)))]) .ret) .skip)))) (.keep [0,1,5] (.reg false [(cMv 10 5), (cC 11 .add 10 1), (cMv 5 11)]))))))))) (.keep [] (.seq (.reg false [(cQ 4 [] (.mv (kB false)))]) .ret)))))
def pu38 : List Nat := []
def rs38 : List RV := [.t 4]
theorem cc38 : CCx Try.prog Try.f38 pu38 rc38 := by unfold CCx; kernel_rfl
theorem cb38 : CBx Try.f38 := by unfold CBx; kernel_rfl
theorem cs38 : CSx Try.prog Try.f38 rs38 := by unfold CSx; kernel_rfl
theorem cn38 : 2 ≤ Try.f38.ntmps := by decide
def rc43 : RC := (.seq (.reg false [(cX 2 0), (cQ 4 [] (.mv (kB false)))]) (.keep [1,2] (.seq (.seq (.reg false [(cFa 5 2 0), (cLd 6 5 false 1)]) (.keep [1,2,6] (.block 0 (.seq (.reg false [(cC 8 .eql 6 1), (cMv 7 8)]) (.keep [1,2,6,7] (.cond (.t 7) (.seq (.any false 0 [⟨(cFa 9 2 3), [], []⟩, ⟨(cLd 10 9 false 1), [], [0]⟩, ⟨(cMv 11 1), [], []⟩, ⟨(cFa 12 2 1), [], []⟩, ⟨(cLd 13 12 false 1), [], [3]⟩, ⟨(cA 14 1 11 13), [], [2,4,3]⟩, ⟨(cLd 15 14 false 1), [], [5,2,4,3]⟩, ⟨(cQ 16 [10,15] (.call (kF 52) [(.t 10), (.t 15)])), [], [1,0,6,5,2,4,3]⟩, ⟨(cMv 4 16), [], [7,1,0,6,5,2,4,3]⟩]) .ret) (.seq (.reg false [(cC 18 .eql 6 2), (cMv 17 18)]) (.keep [1,2,6,17] (.cond (.t 17) (.seq (.any false 0 [⟨(cFa 19 2 3), [], []⟩, ⟨(cLd 20 19 false 1), [], [0]⟩, ⟨(cMv 21 1), [], []⟩, ⟨(cFa 22 2 1), [], []⟩, ⟨(cLd 23 22 false 1), [], [3]⟩, ⟨(cA 24 1 21 23), [], [2,4,3]⟩, ⟨(cLd 25 24 false 1), [], [5,2,4,3]⟩, ⟨(cQ 26 [20,25] (.call (kF 52) [(.t 20), (.t 25)])), [], [1,0,6,5,2,4,3]⟩, ⟨(cN 27 26), [], [7,1,0,6,5,2,4,3]⟩, ⟨(cMv 4 27), [], [8,7,1,0,6,5,2,4,3]⟩]) .ret) (.seq (.reg false [(cC 29 .eql 6 3), (cMv 28 29)]) (.keep [1,2,28] (.cond (.t 28) (.seq (.any true 0 [⟨(cMv 30 1), [], []⟩, ⟨(cFa 31 2 1), [], []⟩, ⟨(cLd 32 31 false 1), [], [1]⟩, ⟨(cA 33 1 30 32), [], [0,2,1]⟩, ⟨(cLd 34 33 false 1), [], [3,0,2,1]⟩, ⟨(cFa 35 2 2), [], []⟩, ⟨(cLd 36 35 false 1), [], [5]⟩, ⟨(cB 37 .eql 34 36), [], [4,3,0,2,1,6,5]⟩, ⟨(cMv 38 37), [], [7,4,3,0,2,1,6,5]⟩, ⟨(gMv 39 38 true 1), [], [8,7,4,3,0,2,1,6,5]⟩, ⟨(gQ 40 38 true [2] (.fad 2 (.t 2))), [], [8,7,4,3,0,2,1,6,5]⟩, ⟨(gQ 41 38 true [40] (.ld false 1 (.t 40))), [], [10,8,7,4,3,0,2,1,6,5]⟩, ⟨(gQ 42 38 true [39,41] (.iad 1 (.t 39) (.t 41))), [], [9,8,7,4,3,0,2,1,6,5,11,10]⟩, ⟨(gQ 43 38 true [42] (.ld false 1 (.t 42))), [], [12,9,8,7,4,3,0,2,1,6,5,11,10]⟩, ⟨(gQ 44 38 true [2] (.fad 1 (.t 2))), [], [8,7,4,3,0,2,1,6,5]⟩, ⟨(gQ 45 38 true [44] (.ld false 1 (.t 44))), [], [14,8,7,4,3,0,2,1,6,5]⟩, ⟨(gQ 46 38 true [43,45] (.bin .eql (.t 43) (.t 45))), [], [13,12,9,8,7,4,3,0,2,1,6,5,11,10,15,14]⟩, ⟨(cQ 47 [38,46] (.pick (.t 38) (.t 46) (kB false))), [], [8,7,4,3,0,2,1,6,5,16,13,12,9,11,10,15,14]⟩, ⟨(cMv 4 47), [], [17,8,7,4,3,0,2,1,6,5,16,13,12,9,11,10,15,14]⟩]) .ret) .skip)))))))))))) (.keep [1,2] (.seq (.any true 0 [⟨(cMv 48 1), [], []⟩, ⟨(cFa 49 2 1), [], []⟩, ⟨(cLd 50 49 false 1), [], [1]⟩, ⟨(cA 51 1 48 50), [], [0,2,1]⟩, ⟨(cLd 52 51 false 1), [], [3,0,2,1]⟩, ⟨(cFa 53 2 1), [], []⟩, ⟨(cLd 54 53 false 1), [], [5]⟩, ⟨(cB 55 .eql 52 54), [], [4,3,0,2,1,6,5]⟩, ⟨(cMv 56 55), [], [7,4,3,0,2,1,6,5]⟩, ⟨(gMv 57 56 false 1), [], [8,7,4,3,0,2,1,6,5]⟩, ⟨(gQ 58 56 false [2] (.fad 2 (.t 2))), [], [8,7,4,3,0,2,1,6,5]⟩, ⟨(gQ 59 56 false [58] (.ld false 1 (.t 58))), [], [10,8,7,4,3,0,2,1,6,5]⟩, ⟨(gQ 60 56 false [57,59] (.iad 1 (.t 57) (.t 59))), [], [9,8,7,4,3,0,2,1,6,5,11,10]⟩, ⟨(gQ 61 56 false [60] (.ld false 1 (.t 60))), [], [12,9,8,7,4,3,0,2,1,6,5,11,10]⟩, ⟨(gQ 62 56 false [2] (.fad 2 (.t 2))), [], [8,7,4,3,0,2,1,6,5]⟩, ⟨(gQ 63 56 false [62] (.ld false 1 (.t 62))), [], [14,8,7,4,3,0,2,1,6,5]⟩, ⟨(gQ 64 56 false [61,63] (.bin .eql (.t 61) (.t 63))), [], [13,12,9,8,7,4,3,0,2,1,6,5,11,10,15,14]⟩, ⟨(cQ 65 [56,64] (.pick (.t 56) (kB true) (.t 64))), [], [8,7,4,3,0,2,1,6,5,16,13,12,9,11,10,15,14]⟩, ⟨(cMv 4 65), [], [17,8,7,4,3,0,2,1,6,5,16,13,12,9,11,10,15,14]⟩]) .ret)))))
def pu43 : List Nat := [2]
def rs43 : List RV := [.t 4]
theorem cc43 : CCx Try.prog Try.f43 pu43 rc43 := by unfold CCx; kernel_rfl
theorem cb43 : CBx Try.f43 := by unfold CBx; kernel_rfl
theorem cs43 : CSx Try.prog Try.f43 rs43 := by unfold CSx; kernel_rfl
theorem cn43 : 2 ≤ Try.f43.ntmps := by decide
def rc18 : RC := (.seq (.reg false [(cQ 2 [] (.mv (kB false)))]) (.keep [0] (.seq (.seq (.reg false [(cI 3 0)]) (.keep [0,3] (.block 0 (.loop [0,3] none (.seq (.seq (.reg false [(cMv 4 3), (cMv 5 0), (cLn 6 5), (cB 7 .lss 4 6)]) (.keep [0,3,7] (.cond (.t 7) .skip (.exit 0)))) (.keep [0,3] (.seq (.block 1 (.seq (.any true 0 [⟨(cMv 10 0), [], []⟩, ⟨(cMv 11 3), [], []⟩, ⟨(cA 12 1 10 11), [], [0,1]⟩, ⟨(cLd 13 12 false 1), [], [2,0,1]⟩, ⟨(cC 14 .lss 13 0), [], [3,2,0,1]⟩, ⟨(cMv 15 14), [], [4,3,2,0,1]⟩, ⟨(gMv 16 15 false 0), [], [5,4,3,2,0,1]⟩, ⟨(gMv 17 15 false 3), [], [5,4,3,2,0,1]⟩, ⟨(gQ 18 15 false [16,17] (.iad 1 (.t 16) (.t 17))), [], [6,5,4,3,2,0,1,7]⟩, ⟨(gQ 19 15 false [18] (.ld false 1 (.t 18))), [], [8,6,5,4,3,2,0,1,7]⟩, ⟨(gMv 20 15 false 0), [], [5,4,3,2,0,1]⟩, ⟨(gQ 21 15 false [20] (.len (.t 20))), [], [10,5,4,3,2,0,1]⟩, ⟨(gQ 22 15 false [19,21] (.bin .geq (.t 19) (.t 21))), [], [9,8,6,5,4,3,2,0,1,7,11,10]⟩, ⟨(cQ 23 [15,22] (.pick (.t 15) (kB true) (.t 22))), [], [5,4,3,2,0,1,12,9,8,6,7,11,10]⟩, ⟨(cMv 24 23), [], [13,5,4,3,2,0,1,12,9,8,6,7,11,10]⟩, ⟨(gMv 25 24 false 0), [], [14,13,5,4,3,2,0,1,12,9,8,6,7,11,10]⟩, ⟨(gMv 26 24 false 3), [], [14,13,5,4,3,2,0,1,12,9,8,6,7,11,10]⟩, ⟨(gQ 27 24 false [25,26] (.slc 1 (.t 25) none (some (.t 26)))), [], [15,14,13,5,4,3,2,0,1,12,9,8,6,7,11,10,16]⟩, ⟨(gMv 28 24 false 0), [], [14,13,5,4,3,2,0,1,12,9,8,6,7,11,10]⟩, ⟨(gMv 29 24 false 3), [], [14,13,5,4,3,2,0,1,12,9,8,6,7,11,10]⟩, ⟨(gQ 30 24 false [28,29] (.iad 1 (.t 28) (.t 29))), [], [18,14,13,5,4,3,2,0,1,12,9,8,6,7,11,10,19]⟩, ⟨(gQ 31 24 false [30] (.ld false 1 (.t 30))), [], [20,18,14,13,5,4,3,2,0,1,12,9,8,6,7,11,10,19]⟩, ⟨(gQ 32 24 false [27,31] (.call (kF 52) [(.t 27), (.t 31)])), [], [17,15,14,13,5,4,3,2,0,1,12,9,8,6,7,11,10,16,21,20,18,19]⟩, ⟨(cQ 33 [24,32] (.pick (.t 24) (kB true) (.t 32))), [], [14,13,5,4,3,2,0,1,12,9,8,6,7,11,10,22,17,15,16,21,20,18,19]⟩]) (.keep [0,3,33] (.cond (.t 33) (.seq (.reg false [(cQ 2 [] (.mv (kB false)))]) .ret) .skip)))) (.keep [0,3] (.reg false [(cMv 8 3), (cC 9 .add 8 1), (cMv 3 9)]))))))))) (.keep [0] (.seq (.reg false [(cMv 34 0), (cLn 35 34), (cC 36 .leq 35 7), (cMv 2 36)]) .ret)))))
def pu18 : List Nat := []
def rs18 : List RV := [.t 2]
theorem cc18 : CCx Try.prog Try.f18 pu18 rc18 := by unfold CCx; kernel_rfl
theorem cb18 : CBx Try.f18 := by unfold CBx; kernel_rfl
theorem cs18 : CSx Try.prog Try.f18 rs18 := by unfold CSx; kernel_rfl
theorem cn18 : 1 ≤ Try.f18.ntmps := by decide
def rc35 : RC := (.seq (.reg false [(cX 1 0), (cQ 2 [] (.mv (kB false)))]) (.keep [1] (.seq (.seq (.reg false [(cFa 4 1 1), (cLd 5 4 false 1), (cLn 6 5), (cC 7 .gtr 6 60)]) (.keep [1,7] (.cond (.t 7) (.seq (.reg false [(cQ 2 [] (.mv (kB true)))]) .ret) .skip))) (.keep [1] (.seq (.seq (.reg false [(cI 3 0)]) (.keep [1,3] (.block 0 (.loop [1,3] none (.seq (.seq (.reg false [(cMv 8 3), (cFa 9 1 1), (cLd 10 9 false 1), (cLn 11 10), (cB 12 .lss 8 11)]) (.keep [1,3,12] (.cond (.t 12) .skip (.exit 0)))) (.keep [1,3] (.seq (.block 1 (.seq (.reg false [(cFa 15 1 1), (cLd 16 15 false 1), (cMv 17 3), (cA 18 4 16 17), (cFa 19 18 3), (cLd 20 19 false 1), (cLn 21 20), (cC 22 .gtr 21 60)]) (.keep [1,3,22] (.cond (.t 22) (.seq (.reg false [(cQ 2 [] (.mv (kB true)))]) .ret) .skip)))) (.keep [1,3] (.reg false [(cMv 13 3), (cC 14 .add 13 1), (cMv 3 14)]))))))))) (.keep [1] (.seq (.reg true [(cLd 23 1 true 3), (cQ 24 [23] (.call (kF 36) [(.t 23)])), (cC 25 .eql 24 0), (cMv 26 25), (gQ 27 26 true [1] (.fad 0 (.t 1))), (gQ 28 26 true [27] (.ld false 1 (.t 27))), (gQ 29 26 true [28] (.bin .gtr (.t 28) (kI 6))), (cQ 30 [26,29] (.pick (.t 26) (.t 29) (kB false))), (cMv 2 30)]) .ret)))))))
def pu35 : List Nat := [1]
def rs35 : List RV := [.t 2]
theorem cc35 : CCx Try.prog Try.f35 pu35 rc35 := by unfold CCx; kernel_rfl
theorem cb35 : CBx Try.f35 := by unfold CBx; kernel_rfl
theorem cs35 : CSx Try.prog Try.f35 rs35 := by unfold CSx; kernel_rfl
theorem cn35 : 1 ≤ Try.f35.ntmps := by decide
def rc29 : RC := (.seq (.reg false [(cX 1 0), (cQ 2 [] (.mv (kB false)))]) (.keep [1] (.seq (.reg true [(cLd 3 1 true 3), (cQ 4 [3] (.call (kF 35) [(.t 3)])), (cMv 5 4), (gQ 6 5 false [1] (.ld true 3 (.t 1))), (gQ 7 5 false [6] (.call (kF 36) [(.t 6)])), (gQ 8 5 false [7] (.bin .eql (.t 7) (kI 0))), (gMv 9 5 false 8), (gQ 10 9 true [1] (.fad 0 (.t 1))), (gQ 11 9 true [10] (.ld false 1 (.t 10))), (gQ 12 9 true [11] (.bin .gtr (.t 11) (kI 4))), (gQ 13 5 false [9,12] (.pick (.t 9) (.t 12) (kB false))), (cQ 14 [5,13] (.pick (.t 5) (kB true) (.t 13))), (cMv 2 14)]) .ret)))
def pu29 : List Nat := [1]
def rs29 : List RV := [.t 2]
theorem cc29 : CCx Try.prog Try.f29 pu29 rc29 := by unfold CCx; kernel_rfl
theorem cb29 : CBx Try.f29 := by unfold CBx; kernel_rfl
theorem cs29 : CSx Try.prog Try.f29 rs29 := by unfold CSx; kernel_rfl
theorem cn29 : 1 ≤ Try.f29.ntmps := by decide
def rc14 : RC := (.seq (.reg false [(cX 1 0), (cQ 2 [] (.mv (kB false)))]) (.keep [1] (.seq (.reg true [(cLd 3 1 true 3), (cQ 4 [3] (.call (kF 29) [(.t 3)])), (cN 5 4), (cMv 6 5), (gQ 7 6 true [1] (.ld true 3 (.t 1))), (gQ 8 6 true [7] (.call (kF 36) [(.t 7)])), (gQ 9 6 true [8] (.bin .eql (.t 8) (kI 0))), (cQ 10 [6,9] (.pick (.t 6) (.t 9) (kB false))), (cMv 2 10)]) .ret)))
def pu14 : List Nat := [1]
def rs14 : List RV := [.t 2]
theorem cc14 : CCx Try.prog Try.f14 pu14 rc14 := by unfold CCx; kernel_rfl
theorem cb14 : CBx Try.f14 := by unfold CBx; kernel_rfl
theorem cs14 : CSx Try.prog Try.f14 rs14 := by unfold CSx; kernel_rfl
theorem cn14 : 1 ≤ Try.f14.ntmps := by decide
def rc49 : RC := (.seq (.reg false [⟨(some 0), none, [], none, .w (.alc [(.i 0), (.z 4), (.i 0)])⟩]) (.keep [0] (.seq (.reg false [(cQ 1 [] (.bsl 1 2 [(.i 0)] [(0,1, (kI 1)), (1,1, (kI 2))])), (cQ 2 [1] (.bld [(.i 0), (.i 0), (.i 0), (.z 1)] [(0,1, (kI 1)), (3,1, (.t 1))])), (cQ 3 [] (.bsl 1 1 [(.i 0)] [(0,1, (kI 3))])), (cQ 4 [3] (.bld [(.i 0), (.i 0), (.i 0), (.z 1)] [(0,1, (kI 2)), (1,1, (kI 3)), (3,1, (.t 3))])), (cQ 5 [] (.bld [(.i 0), (.i 0), (.i 0), (.z 1)] [(0,1, (kI 4)), (1,1, (kI 1)), (2,1, (kI 2))])), (cQ 6 [2,4,5] (.bsl 4 3 [(.i 0), (.i 0), (.i 0), (.z 1)] [(0,4, (.t 2)), (4,4, (.t 4)), (8,4, (.t 5))])), (cQ 7 [6] (.bld [(.i 0), (.z 4), (.i 0)] [(0,1, (kI 4)), (1,1, (.t 6))])), ⟨none, none, [0,7], none, .w (.st 3 (.t 0) (.t 7))⟩]) .ret)))
def pu49 : List Nat := [1,3,6]
def rs49 : List RV := [.c 0 true 3]
theorem cc49 : CCx Try.prog Try.f49 pu49 rc49 := by unfold CCx; kernel_rfl
theorem cb49 : CBx Try.f49 := by unfold CBx; kernel_rfl
theorem cs49 : CSx Try.prog Try.f49 rs49 := by unfold CSx; kernel_rfl
theorem cn49 : 0 ≤ Try.f49.ntmps := by decide
def rc15 : RC := (.seq (.reg false [(cQ 0 [] (.mv (kB false)))]) (.keep [] (.seq (.reg false [(cQ 13 [] (.call (kF 49) [])), ⟨(some 1), none, [], none, .w (.alc [(.i 0), (.z 4), (.i 0)])⟩, ⟨none, none, [1,13], none, .w (.st 3 (.t 1) (.t 13))⟩]) (.keep [1] (.seq (.reg false [(cLd 15 1 true 3), (cQ 16 [15] (.call (kF 16) [(.t 15)])), (cMv 14 16), (cEx 17 14 0), (cEx 18 14 1), (cMv 2 17), (cMv 3 18)]) (.keep [1,2,3] (.seq (.reg false [(cLd 20 1 true 3), (cQ 21 [20] (.call (kF 41) [(.t 20)])), (cMv 19 21), (cEx 22 19 0), (cEx 23 19 1), (cMv 4 22), (cMv 5 23)]) (.keep [1,2,3,4,5] (.seq (.reg false [(cLd 25 1 true 3), (cQ 26 [25] (.call (kF 17) [(.t 25)])), (cMv 24 26), (cEx 27 24 0), (cEx 28 24 1), (cMv 6 27), (cMv 7 28)]) (.keep [2,3,4,5,6,7] (.seq (.reg false [(cQ 30 [] (.bsl 1 4 [(.i 0)] [(0,1, (kI 1)), (1,1, (kI 2)), (2,1, (kI 0)), (3,1, (kI 3))])), (cQ 31 [30] (.call (kF 19) [(.t 30)])), (cMv 29 31), (cEx 32 29 0), (cEx 33 29 1), (cMv 8 32), (cMv 9 33)]) (.keep [2,3,4,5,6,7,8,9] (.seq (.reg false [(cQ 35 [] (.bsl 1 4 [(.i 0)] [(0,1, (kI 1)), (1,1, (kI 2)), (2,1, (kI 0)), (3,1, (kI 3))])), (cQ 36 [35] (.call (kF 24) [(.t 35)])), (cMv 34 36), (cEx 37 34 0), (cEx 38 34 1), (cEx 39 34 2), (cMv 10 37), (cMv 11 38), (cMv 12 39)]) (.keep [2,3,4,5,6,7,8,9,10,11,12] (.seq (.reg true [(cMv 40 3), (cC 41 .eql 40 0), (cMv 42 41), (gMv 43 42 true 5), (gQ 44 42 true [43] (.bin .eql (.t 43) (kI 0))), (cQ 45 [42,44] (.pick (.t 42) (.t 44) (kB false))), (cMv 46 45), (gMv 47 46 true 7), (gQ 48 46 true [47] (.bin .eql (.t 47) (kI 0))), (cQ 49 [46,48] (.pick (.t 46) (.t 48) (kB false))), (cMv 50 49), (gMv 51 50 true 9), (gQ 52 50 true [51] (.bin .eql (.t 51) (kI 0))), (cQ 53 [50,52] (.pick (.t 50) (.t 52) (kB false))), (cMv 54 53), (gMv 55 54 true 12), (gQ 56 54 true [55] (.bin .eql (.t 55) (kI 0))), (cQ 57 [54,56] (.pick (.t 54) (.t 56) (kB false))), (cMv 58 57), (gMv 59 58 true 2), (gQ 60 58 true [59] (.bin .eql (.t 59) (kI 2))), (cQ 61 [58,60] (.pick (.t 58) (.t 60) (kB false))), (cMv 62 61), (gMv 63 62 true 4), (gQ 64 62 true [] (.bsl 1 4 [(.i 0)] [(0,1, (.k (.i (-1)))), (1,1, (.k (.i (-1)))), (2,1, (.k (.i (-1)))), (3,1, (kI 0))])), (gQ 65 62 true [63,64] (.call (kF 28) [(.t 63), (.t 64)])), (cQ 66 [62,65] (.pick (.t 62) (.t 65) (kB false))), (cMv 67 66), (gMv 68 67 true 6), (gQ 69 67 true [68] (.bin .eql (.t 68) (kI 1))), (cQ 70 [67,69] (.pick (.t 67) (.t 69) (kB false))), (cMv 71 70), (gMv 72 71 true 8), (gQ 73 71 true [72] (.bin .eql (.t 72) (kI 2))), (cQ 74 [71,73] (.pick (.t 71) (.t 73) (kB false))), (cMv 75 74), (gMv 76 75 true 10), (gQ 77 75 true [76] (.len (.t 76))), (gMv 78 75 true 11), (gQ 79 75 true [78] (.len (.t 78))), (gQ 80 75 true [77,79] (.bin .add (.t 77) (.t 79))), (gQ 81 75 true [80] (.bin .gtr (.t 80) (kI 0))), (cQ 82 [75,81] (.pick (.t 75) (.t 81) (kB false))), (cMv 0 82)]) .ret)))))))))))))))
def pu15 : List Nat := [30,35,64]
def rs15 : List RV := [.t 0]
theorem cc15 : CCx Try.prog Try.f15 pu15 rc15 := by unfold CCx; kernel_rfl
theorem cb15 : CBx Try.f15 := by unfold CBx; kernel_rfl
theorem cs15 : CSx Try.prog Try.f15 rs15 := by unfold CSx; kernel_rfl
theorem cn15 : 0 ≤ Try.f15.ntmps := by decide
def rc28 : RC := (.seq (.reg false [(cQ 4 [] (.mv (kB false)))]) (.keep [0,1] (.seq (.seq (.reg false [(cMv 6 0), (cLn 7 6), (cMv 8 1), (cLn 9 8), (cB 10 .neq 7 9)]) (.keep [0,1,10] (.cond (.t 10) (.seq (.reg false [(cQ 4 [] (.mv (kB false)))]) .ret) .skip))) (.keep [0,1] (.seq (.seq (.reg false [(cI 5 0)]) (.keep [0,1,5] (.block 0 (.loop [0,1,5] none (.seq (.seq (.reg false [(cMv 11 5), (cMv 12 0), (cLn 13 12), (cB 14 .lss 11 13)]) (.keep [0,1,5,14] (.cond (.t 14) .skip (.exit 0)))) (.keep [0,1,5] (.seq (.block 1 (.seq (.any false 0 [⟨(cMv 17 0), [], []⟩, ⟨(cMv 18 5), [], []⟩, ⟨(cA 19 1 17 18), [], [0,1]⟩, ⟨(cLd 20 19 false 1), [], [2,0,1]⟩, ⟨(cMv 21 1), [], []⟩, ⟨(cMv 22 5), [], []⟩, ⟨(cA 23 1 21 22), [], [4,5]⟩, ⟨(cLd 24 23 false 1), [], [6,4,5]⟩, ⟨(cB 25 .neq 20 24), [], [3,2,0,1,7,6,4,5]⟩]) (.keep [0,1,5,25] (.cond (.t 25) (.seq (.reg false [(cQ 4 [] (.mv (kB false)))]) .ret) .skip)))) (.keep [0,1,5] (.reg false [(cMv 15 5), (cC 16 .add 15 1), (cMv 5 16)]))))))))) (.keep [] (.seq (.reg false [(cQ 4 [] (.mv (kB true)))]) .ret)))))))
def pu28 : List Nat := []
def rs28 : List RV := [.t 4]
theorem cc28 : CCx Try.prog Try.f28 pu28 rc28 := by unfold CCx; kernel_rfl
theorem cb28 : CBx Try.f28 := by unfold CBx; kernel_rfl
theorem cs28 : CSx Try.prog Try.f28 rs28 := by unfold CSx; kernel_rfl
theorem cn28 : 2 ≤ Try.f28.ntmps := by decide
end Go.C10
set_option linter.unusedSimpArgs false
set_option linter.unusedVariables false
namespace Go.C10
open Go.Fam Go.Proofs
variable {Γ : Gam}
theorem W62 (s : Stand) (n : Int) : Qal Try.prog 62 [.ag (Qa4 s), .i n] (.b (Qao s.guests n)) := by
 refine Qak Qrv hmix Try.func62 cb62 cc62 cs62 cn62 ?_
 have e : Qao s.guests n = (decide (0 ≤ n) && decide (n < s.guests)) := by
  unfold Qao Qaz
  congr 1
  rw [decide_eq_decide]; omega
 by_cases h : 0 ≤ n <;> simp only [rc62, rs62, h, e, Qa9, Qa8, Qah, Qa6, Qae, Qa7, Qa2, Fam.step, Qaf, Qay, Qat, ug, evO, opv, qv, Qai, binV, ldV, V.cells, Qav, Qab, Qa5, Qa1, Qa0, Qa3, ↓reduceIte, Nat.reduceEqDiff, Nat.reduceAdd, Nat.reduceLeDiff, Qb, Qd, Qr, Qp, Qc, Qe, Qj, Qg, endQ, rvs, rv1, resV, vw_i, vw_b, Qam, Qau, zipA, beq_self_eq_true, Qi, Qn, Qt, Zx, Q7, Qm, Qa, Qs, decide_true, decide_false, and_true, and_self, forall_const, implies_true, reduceCtorEq, beq_true, imp_self, Qa4]
theorem W52 (l : List Int) (n : Int) (h : l.length ≤ 1000000) : Qal Try.prog 52 [.sl 1 (l.map eI), .i n] (.b (decide (n ∈ l))) := by
 refine Qak Qrv hmix Try.func52 cb52 cc52 cs52 cn52 ?_
 simp only [rc52, rs52, Qa9, Qa8, Qad, Qa6, Qae, Qa7, Qa2, Fam.step, Qaf, evO, opv, qv, Qa1, Qa0, Qa3, ↓reduceIte, Nat.reduceEqDiff, Qb, Qd, zipA, Qi, true_and, reduceCtorEq]
 refine Qbs l.length (fun i => ⟨lkp [(0, .sl 1 (l.map eI)), (1, .i n), (5, .i i)], []⟩) (fun i => ∀ j : Nat, j < i → ¬ l[j]? = some n) ?_ ?_ ?_ ?_
 ·simp only [Zd, kp, Qa0, Qa3, ↓reduceIte, Nat.reduceEqDiff, Qb, Qd, reduceCtorEq]
 ·intro j hj; omega
 ·intro i hi hc
  obtain ⟨x, hx⟩ : ∃ x, l[i]? = some x := ⟨_, Qx hi⟩
  have hlt : (i : Int) < l.length := by omega
  have h3 : inI ((i : Int) + 1) := by unfold inI; omega
  by_cases e : x = n
  ·have hm : n ∈ l := by rw [← e]; exact Zl hx
   simp only [hx, hlt, e, hm, Qag, Qa9, Qa8, Qac, Qad, Qah, Qa6, Qae, Qaj, Qa7, Qa2, Fam.step, Qaf, evO, opv, qv, binV, ldV, iadV, lenV, kp, Qa1, Qa0, Qa3, ↓reduceIte, Nat.reduceEqDiff, Nat.reduceLeDiff, Qb, Qd, Qc, Qe, Qg, Qq, endQ, rvs, rv1, resV, vw_b, Q3, Qi, Qa, decide_true, and_self, reduceCtorEq, Q2, Qh, Q4, Qk, Qu, eI]
  ·simp only [hx, hlt, e, h3, Zi, Zf, Qag, Qa9, Qa8, Qac, Qad, Qa6, Qae, Qaj, Qa7, Qa2, Fam.step, Qaf, evO, opv, qv, binV, ldV, iadV, lenV, kp, Qa1, Qa0, Qa3, ↓reduceIte, Nat.reduceEqDiff, Nat.reduceLeDiff, Qb, Qd, Qc, Qe, Qg, Qq, Q3, Qi, Qa, decide_true, decide_false, true_and, and_true, and_self, reduceCtorEq, Q2, Qh, Q4, Qk, Qu, eI]
   intro j hj hjx
   by_cases hji : j < i
   ·exact hc j hji hjx
   ·have : j = i := by omega
    subst this
    rw [hx] at hjx
    exact e (Xi.inj hjx)
 ·intro hc
  have hlt : ¬ ((l.length : Int) < l.length) := by omega
  have hm : n ∉ l := fun hm => by
   obtain ⟨j, hj⟩ := Zp hm
   exact hc j (Qan hj) hj
  simp only [hlt, hm, Qa9, Qa8, Qac, Qb1, Qah, Qa6, Qae, Qaj, Qa7, Qa2, Fam.step, Qaf, evO, opv, qv, binV, lenV, Qa1, Qa0, Qa3, ↓reduceIte, Nat.reduceEqDiff, Qb, Qd, endQ, rvs, rv1, resV, vw_b, Qa, decide_false, and_self, reduceCtorEq, Qh]
theorem W38 (l : List Int) (n : Int) (h : l.length ≤ 1000000) : Qal Try.prog 38 [.sl 1 (l.map eI), .i n] (.b (decide (n ∈ l))) := by
 refine Qak Qrv hmix Try.func38 cb38 cc38 cs38 cn38 ?_
 simp only [rc38, rs38, Qa9, Qa8, Qad, Qa6, Qae, Qa7, Qa2, Fam.step, Qaf, evO, opv, qv, Qa1, Qa0, Qa3, ↓reduceIte, Nat.reduceEqDiff, Qb, Qd, zipA, Qi, true_and, reduceCtorEq]
 refine Qbs l.length (fun i => ⟨lkp [(0, .sl 1 (l.map eI)), (1, .i n), (5, .i i)], []⟩) (fun i => ∀ j : Nat, j < i → ¬ l[j]? = some n) ?_ ?_ ?_ ?_
 ·simp only [Zd, kp, Qa0, Qa3, ↓reduceIte, Nat.reduceEqDiff, Qb, Qd, reduceCtorEq]
 ·intro j hj; omega
 ·intro i hi hc
  obtain ⟨x, hx⟩ : ∃ x, l[i]? = some x := ⟨_, Qx hi⟩
  have hlt : (i : Int) < l.length := by omega
  have h3 : inI ((i : Int) + 1) := by unfold inI; omega
  by_cases e : x = n
  ·have hm : n ∈ l := by rw [← e]; exact Zl hx
   simp only [hx, hlt, e, hm, Qag, Qa9, Qa8, Qac, Qad, Qah, Qa6, Qae, Qaj, Qa7, Qa2, Fam.step, Qaf, evO, opv, qv, binV, ldV, iadV, lenV, kp, Qa1, Qa0, Qa3, ↓reduceIte, Nat.reduceEqDiff, Nat.reduceLeDiff, Qb, Qd, Qc, Qe, Qg, Qq, endQ, rvs, rv1, resV, vw_b, Q3, Qi, Qa, decide_true, and_self, reduceCtorEq, Q2, Qh, Q4, Qk, Qu, eI]
  ·simp only [hx, hlt, e, h3, Zi, Zf, Qag, Qa9, Qa8, Qac, Qad, Qa6, Qae, Qaj, Qa7, Qa2, Fam.step, Qaf, evO, opv, qv, binV, ldV, iadV, lenV, kp, Qa1, Qa0, Qa3, ↓reduceIte, Nat.reduceEqDiff, Nat.reduceLeDiff, Qb, Qd, Qc, Qe, Qg, Qq, Q3, Qi, Qa, decide_true, decide_false, true_and, and_true, and_self, reduceCtorEq, Q2, Qh, Q4, Qk, Qu, eI]
   intro j hj hjx
   by_cases hji : j < i
   ·exact hc j hji hjx
   ·have : j = i := by omega
    subst this
    rw [hx] at hjx
    exact e (Xi.inj hjx)
 ·intro hc
  have hlt : ¬ ((l.length : Int) < l.length) := by omega
  have hm : n ∉ l := fun hm => by
   obtain ⟨j, hj⟩ := Zp hm
   exact hc j (Qan hj) hj
  simp only [hlt, hm, Qa9, Qa8, Qac, Qb1, Qah, Qa6, Qae, Qaj, Qa7, Qa2, Fam.step, Qaf, evO, opv, qv, binV, lenV, Qa1, Qa0, Qa3, ↓reduceIte, Nat.reduceEqDiff, Qb, Qd, endQ, rvs, rv1, resV, vw_b, Qa, decide_false, and_self, reduceCtorEq, Qh]
def e62 (a : Stand × Int) : List V := [.ag (Qa4 a.1), .i a.2]
def d62 : List V → Stand × Int | [.ag x0, .i x1] => (Qb2 x0, x1) | _ => (Qb2 [], 0)
theorem Qy6 (a : Stand × Int) : d62 (e62 a) = a := by simp [d62, e62, Qbc]
noncomputable def HM1 : Gam := HL2.ext 62 (fnG e62 d62 (fun a => (fun (s : Stand) (n : Int) => True) a.1 a.2) (fun a => (fun (s : Stand) (n : Int) => Qao s.guests n) a.1 a.2) .b)
theorem Qyr : GOk Try.prog HM1 := Qrv.ext (f := 62) (fun a w => Try.call62 a w) (Qb9 (e := e62) (d := d62) (ok := (fun a => (fun (s : Stand) (n : Int) => True) a.1 a.2)) (g := (fun a => (fun (s : Stand) (n : Int) => Qao s.guests n) a.1 a.2)) (eb := .b) fun a h => W62 a.1 a.2)
theorem h62 (s : Stand) (n : Int) : HM1 62 [.ag (Qa4 s), .i n] = (True, .b (Qao s.guests n)) :=
 (show HM1 62 _ = fnG e62 d62 (fun a => (fun (s : Stand) (n : Int) => True) a.1 a.2) (fun a => (fun (s : Stand) (n : Int) => Qao s.guests n) a.1 a.2) .b (e62 (s, n)) from rfl).trans (Qb5 _ (Qy6 _))
def e52 (a : List Int × Int) : List V := [.sl 1 (a.1.map eI), .i a.2]
def d52 : List V → List Int × Int | [.sl _ x0, .i x1] => (x0.map dI, x1) | _ => ([], 0)
theorem Qxz (a : List Int × Int) : d52 (e52 a) = a := by simp [d52, e52, Function.comp_def, Qd8]
noncomputable def HM2 : Gam := HM1.ext 52 (fnG e52 d52 (fun a => (fun (l : List Int) (n : Int) => l.length ≤ 1000000) a.1 a.2) (fun a => (fun (l : List Int) (n : Int) => decide (n ∈ l)) a.1 a.2) .b)
theorem Qys : GOk Try.prog HM2 := Qyr.ext (f := 52) (fun a w => Try.call52 a w) (Qb9 (e := e52) (d := d52) (ok := (fun a => (fun (l : List Int) (n : Int) => l.length ≤ 1000000) a.1 a.2)) (g := (fun a => (fun (l : List Int) (n : Int) => decide (n ∈ l)) a.1 a.2)) (eb := .b) fun a h => W52 a.1 a.2 h)
theorem h52 (l : List Int) (n : Int) : HM2 52 [.sl 1 (l.map eI), .i n] = (l.length ≤ 1000000, .b (decide (n ∈ l))) :=
 (show HM2 52 _ = fnG e52 d52 (fun a => (fun (l : List Int) (n : Int) => l.length ≤ 1000000) a.1 a.2) (fun a => (fun (l : List Int) (n : Int) => decide (n ∈ l)) a.1 a.2) .b (e52 (l, n)) from rfl).trans (Qb5 _ (Qxz _))
def e38 (a : List Int × Int) : List V := [.sl 1 (a.1.map eI), .i a.2]
def d38 : List V → List Int × Int | [.sl _ x0, .i x1] => (x0.map dI, x1) | _ => ([], 0)
theorem Qxs (a : List Int × Int) : d38 (e38 a) = a := by simp [d38, e38, Function.comp_def, Qd8]
noncomputable def HM3 : Gam := HM2.ext 38 (fnG e38 d38 (fun a => (fun (l : List Int) (n : Int) => l.length ≤ 1000000) a.1 a.2) (fun a => (fun (l : List Int) (n : Int) => decide (n ∈ l)) a.1 a.2) .b)
theorem Qws : GOk Try.prog HM3 := Qys.ext (f := 38) (fun a w => Try.call38 a w) (Qb9 (e := e38) (d := d38) (ok := (fun a => (fun (l : List Int) (n : Int) => l.length ≤ 1000000) a.1 a.2)) (g := (fun a => (fun (l : List Int) (n : Int) => decide (n ∈ l)) a.1 a.2)) (eb := .b) fun a h => W38 a.1 a.2 h)
theorem h38 (l : List Int) (n : Int) : HM3 38 [.sl 1 (l.map eI), .i n] = (l.length ≤ 1000000, .b (decide (n ∈ l))) :=
 (show HM3 38 _ = fnG e38 d38 (fun a => (fun (l : List Int) (n : Int) => l.length ≤ 1000000) a.1 a.2) (fun a => (fun (l : List Int) (n : Int) => decide (n ∈ l)) a.1 a.2) .b (e38 (l, n)) from rfl).trans (Qb5 _ (Qxs _))
theorem Qv0 (s : Stand) (n : Int)  : HM3 62 [.ag (Qa4 s), .i n] = (True, .b (Qao s.guests n)) := h62 s n
theorem Qon {g : Int} {w : Word} (hg : Qao g w.guest = true) (ho : Qao g w.other = false) : Qfn g w = false := by
 unfold Qfn
 split
 ·by_cases h : w.other = 0
  ·rw [h] at ho
   simp only [Qao, Qaz, Za, decide_eq_true_eq, Xd, decide_eq_false_iff_not] at hg ho
   omega
  ·simp [h]
 ·split
  ·rw [ho]; simp
  ·rfl
set_option maxHeartbeats 4000000 in
theorem W65 (s : Stand) (w : Word) (h : w.among.length ≤ 1000000) : Qal Try.prog 65 [.ag (Qa4 s), .ag (eWord w)] (.b (Qbe s.guests w)) := by
 refine Qak Qws hmix Try.func65 cb65 cc65 cs65 cn65 ?_
 have g1 := fun n => Qv0 s n
 simp only [Qa4] at g1
 by_cases hg : Qao s.guests w.guest = true
 rotate_left
 ·have e : Qbe s.guests w = false := by unfold Qbe; simp [hg]
  simp only [rc65, rs65, g1, hg, e, Qa9, Qa8, Qac, Qah, Qa6, Qae, Qa7, Qa2, Fam.step, Qaf, Qay, Qat, ug, evO, opv, qv, Qai, ldV, Qap, V.cells, Qav, Qab, Qa5, flat, Qa1, Qa0, Qa3, ↓reduceIte, Nat.reduceEqDiff, Nat.reduceAdd, Nat.reduceLT, Nat.reduceLeDiff, Qb, Qd, Qr, Qp, Qc, Qe, Qf, Qj, Ql, Q1, Qg, Qo, endQ, rvs, rv1, resV, vw_i, vw_b, Qam, Qau, zipA, Qi, Qn, Qt, Qm, Qv, Qz, Qa, Qs, and_true, and_self, forall_const, implies_true, reduceCtorEq, beq_false, imp_self, eWord, Qa4]
 by_cases ho : Qao s.guests w.other = true
 rotate_left
 ·have e : Qbe s.guests w = false := by unfold Qbe; rw [Qon hg (by simpa using ho)]; simp
  simp only [rc65, rs65, g1, hg, ho, e, Qa9, Qa8, Qac, Qah, Qa6, Qae, Qa7, Qa2, Fam.step, Qaf, Qay, Qat, ug, evO, opv, qv, Qai, ldV, Qap, V.cells, Qav, Qab, Qa5, flat, Qa1, Qa0, Qa3, ↓reduceIte, Nat.reduceEqDiff, Nat.reduceAdd, Nat.reduceLT, Nat.reduceLeDiff, Qb, Qd, Qr, Qp, Qc, Qe, Qf, Qj, Ql, Q1, Qg, Qo, endQ, rvs, rv1, resV, vw_i, vw_b, Qam, Qau, zipA, beq_self_eq_true, Qi, Qn, Qm, Qv, Qz, Qa, and_self, forall_const, implies_true, reduceCtorEq, eWord, Qa4]
 by_cases k3 : w.kind = 3 ∨ w.kind = 4
 ·have k12 : ¬ (w.kind = 1 ∨ w.kind = 2) := by omega
  by_cases hl : (w.among.length : Int) = 0
  ·have hl0 : w.among = [] := List.eq_nil_of_length_eq_zero (by omega)
   have e : Qbe s.guests w = decide (w.other ≠ w.guest) := by unfold Qbe Qfn Qd7; rw [if_neg k12, if_pos k3, hg, ho, hl0]; simp
   by_cases hn : w.guest = w.other
   ·have hn' := hn.symm
    rcases k3 with k3 | k3 <;> simp only [rc65, rs65, g1, ho, k3, hl, hn, e, eq_self, Qag, Qa9, Qa8, Qac, Qah, Qa6, Qae, Qa7, Qa2, Fam.step, Qaf, Qay, Qat, ug, evO, opv, qv, Qai, binV, ldV, lenV, Qap, V.cells, Qav, Qab, Qa5, flat, Qa1, Qa0, Qa3, ↓reduceIte, Nat.reduceEqDiff, Nat.reduceAdd, Nat.reduceLT, Nat.reduceLeDiff, Int.reduceEq, Qb, Qd, Qr, Qp, Qc, Qe, Qf, Qj, Ql, Q1, Qg, Qo, endQ, rvs, rv1, resV, vw_i, vw_b, Qam, Qau, zipA, beq_self_eq_true, Qi, Qn, Qt, Qm, Qv, Qa, Qs, decide_true, decide_false, and_true, and_self, forall_const, implies_true, reduceCtorEq, not_true_eq_false, ne_eq, beq_false, imp_self, Qh, eWord, Qa4]
   ·have hn' : ¬ w.other = w.guest := fun e => hn e.symm
    rcases k3 with k3 | k3 <;> simp only [rc65, rs65, g1, hg, ho, k3, hl, hn, hn', e, Qag, Qa9, Qa8, Qac, Qah, Qa6, Qae, Qa7, Qa2, Fam.step, Qaf, Qay, Qat, ug, evO, opv, qv, Qai, binV, ldV, lenV, Qap, V.cells, Qav, Qab, Qa5, flat, Qa1, Qa0, Qa3, ↓reduceIte, Nat.reduceEqDiff, Nat.reduceAdd, Nat.reduceLT, Nat.reduceLeDiff, Int.reduceEq, Qb, Qd, Qr, Qp, Qc, Qe, Qf, Qj, Ql, Q1, Qg, Qo, endQ, rvs, rv1, resV, vw_i, vw_b, Qam, Qau, zipA, beq_self_eq_true, Qi, Qn, Qt, Qm, Qv, Qz, Qa, Qs, decide_true, decide_false, and_true, and_self, forall_const, implies_true, reduceCtorEq, not_false_eq_true, ne_eq, beq_false, imp_self, Qh, eWord, Qa4]
  ·have e : Qbe s.guests w = false := by
    unfold Qbe Qfn; rw [if_neg k12, if_pos k3]
    have : ¬ w.among.length = 0 := by omega
    simp [this]
   rcases k3 with k3 | k3 <;> simp only [rc65, rs65, g1, hg, ho, k3, hl, e, Qag, Qa9, Qa8, Qac, Qah, Qa6, Qae, Qa7, Qa2, Fam.step, Qaf, Qay, Qat, ug, evO, opv, qv, Qai, binV, ldV, lenV, Qap, V.cells, Qav, Qab, Qa5, flat, Qa1, Qa0, Qa3, ↓reduceIte, Nat.reduceEqDiff, Nat.reduceAdd, Nat.reduceLT, Nat.reduceLeDiff, Int.reduceEq, Qb, Qd, Qr, Qp, Qc, Qe, Qf, Qj, Ql, Q1, Qg, Qo, endQ, rvs, rv1, resV, vw_i, vw_b, Qam, Qau, zipA, beq_self_eq_true, Qi, Qn, Qt, Qm, Qv, Qa, Qs, decide_true, decide_false, and_true, and_self, forall_const, implies_true, reduceCtorEq, beq_true, beq_false, imp_self, Qh, eWord, Qa4]
 have k3' : ¬ w.kind = 3 := by omega
 have k4' : ¬ w.kind = 4 := by omega
 by_cases hbad : (¬ w.kind = 1 ∧ ¬ w.kind = 2) ∨ (w.among.length : Int) = 0 ∨ ¬ w.other = 0
 ·have e : Qbe s.guests w = false := by
   unfold Qbe Qfn
   rw [if_neg k3]
   by_cases k12 : w.kind = 1 ∨ w.kind = 2
   ·rw [if_pos k12]
    rcases hbad with hb | hb | hb
    ·omega
    ·have : ¬ 0 < w.among.length := by omega
     simp [this]
    ·simp [hb]
   ·rw [if_neg k12]; simp
  by_cases k1 : w.kind = 1
  ·by_cases hl : (w.among.length : Int) = 0
   ·simp only [rc65, rs65, g1, hg, ho, k1, hl, e, Qag, Qa9, Qa8, Qac, Qah, Qa6, Qae, Qa7, Qa2, Fam.step, Qaf, Qay, Qat, ug, evO, opv, qv, Qai, binV, ldV, lenV, Qap, V.cells, Qav, Qab, Qa5, flat, Qa1, Qa0, Qa3, ↓reduceIte, Nat.reduceEqDiff, Nat.reduceAdd, Nat.reduceLT, Nat.reduceLeDiff, Int.reduceEq, Qb, Qd, Qr, Qp, Qc, Qe, Qf, Qj, Ql, Q1, Qg, Qo, endQ, rvs, rv1, resV, vw_i, vw_b, Qam, Qau, zipA, beq_self_eq_true, Qi, Qn, Qt, Qm, Qv, Qz, Qa, Qs, decide_true, decide_false, and_true, and_self, forall_const, implies_true, reduceCtorEq, beq_true, beq_false, imp_self, Qh, eWord, Qa4]
   ·have ho0 : ¬ w.other = 0 := by omega
    simp only [rc65, rs65, g1, hg, ho, k1, hl, ho0, e, Qag, Qa9, Qa8, Qac, Qah, Qa6, Qae, Qa7, Qa2, Fam.step, Qaf, Qay, Qat, ug, evO, opv, qv, Qai, binV, ldV, lenV, Qap, V.cells, Qav, Qab, Qa5, flat, Qa1, Qa0, Qa3, ↓reduceIte, Nat.reduceEqDiff, Nat.reduceAdd, Nat.reduceLT, Nat.reduceLeDiff, Int.reduceEq, Qb, Qd, Qr, Qp, Qc, Qe, Qf, Qj, Ql, Q1, Qg, Qo, endQ, rvs, rv1, resV, vw_i, vw_b, Qam, Qau, zipA, beq_self_eq_true, Qi, Qn, Qt, Qm, Qv, Qz, Qa, decide_true, decide_false, and_true, and_self, forall_const, implies_true, reduceCtorEq, beq_true, imp_self, Qh, eWord, Qa4]
  ·by_cases k2 : w.kind = 2
   ·by_cases hl : (w.among.length : Int) = 0
    ·simp only [rc65, rs65, g1, hg, ho, k2, hl, e, Qag, Qa9, Qa8, Qac, Qah, Qa6, Qae, Qa7, Qa2, Fam.step, Qaf, Qay, Qat, ug, evO, opv, qv, Qai, binV, ldV, lenV, Qap, V.cells, Qav, Qab, Qa5, flat, Qa1, Qa0, Qa3, ↓reduceIte, Nat.reduceEqDiff, Nat.reduceAdd, Nat.reduceLT, Nat.reduceLeDiff, Int.reduceEq, Qb, Qd, Qr, Qp, Qc, Qe, Qf, Qj, Ql, Q1, Qg, Qo, endQ, rvs, rv1, resV, vw_i, vw_b, Qam, Qau, zipA, beq_self_eq_true, Qi, Qn, Qt, Qm, Qv, Qz, Qa, Qs, decide_true, decide_false, and_true, and_self, forall_const, implies_true, reduceCtorEq, beq_false, imp_self, Qh, eWord, Qa4]
    ·have ho0 : ¬ w.other = 0 := by omega
     simp only [rc65, rs65, g1, hg, ho, k2, hl, ho0, e, Qag, Qa9, Qa8, Qac, Qah, Qa6, Qae, Qa7, Qa2, Fam.step, Qaf, Qay, Qat, ug, evO, opv, qv, Qai, binV, ldV, lenV, Qap, V.cells, Qav, Qab, Qa5, flat, Qa1, Qa0, Qa3, ↓reduceIte, Nat.reduceEqDiff, Nat.reduceAdd, Nat.reduceLT, Nat.reduceLeDiff, Int.reduceEq, Qb, Qd, Qr, Qp, Qc, Qe, Qf, Qj, Ql, Q1, Qg, Qo, endQ, rvs, rv1, resV, vw_i, vw_b, Qam, Qau, zipA, beq_self_eq_true, Qi, Qn, Qm, Qv, Qz, Qa, Qs, decide_true, decide_false, and_self, forall_const, implies_true, reduceCtorEq, Qh, eWord, Qa4]
   ·simp only [rc65, rs65, g1, hg, ho, k3', k4', k1, k2, e, Qag, Qa9, Qa8, Qac, Qah, Qa6, Qae, Qa7, Qa2, Fam.step, Qaf, Qay, Qat, ug, evO, opv, qv, Qai, binV, ldV, lenV, Qap, V.cells, Qav, Qab, Qa5, flat, Qa1, Qa0, Qa3, ↓reduceIte, Nat.reduceEqDiff, Nat.reduceAdd, Nat.reduceLT, Nat.reduceLeDiff, Qb, Qd, Qr, Qp, Qc, Qe, Qf, Qj, Ql, Q1, Qg, Qo, endQ, rvs, rv1, resV, vw_i, vw_b, Qam, Qau, zipA, beq_self_eq_true, Qi, Qn, Qt, Qm, Qv, Qz, Qa, Qs, decide_false, and_true, and_self, forall_const, implies_true, reduceCtorEq, beq_false, imp_self, Qh, eWord, Qa4]
 ·have hl : ¬ (w.among.length : Int) = 0 := by omega
  have ho0 : w.other = 0 := by omega
  have k12 : w.kind = 1 ∨ w.kind = 2 := by omega
  have ew : Qbe s.guests w = Qd7 s.guests w.among := by
   unfold Qbe Qfn
   have : 0 < w.among.length := by omega
   rw [if_pos k12, hg]; simp [this, ho0]
  have k1or : w.kind = 1 ∨ (¬ w.kind = 1 ∧ w.kind = 2) := by omega
  have ho' := ho
  rw [ho0] at ho'
  rcases k1or with k1 | ⟨k1, k2⟩
  ·simp only [rc65, rs65, g1, hg, k1, hl, ho0, ho', Qag, Qa9, Qa8, Qac, Qad, Qa6, Qae, Qa7, Qa2, Fam.step, Qaf, Qay, Qat, ug, evO, opv, qv, Qai, binV, ldV, lenV, Qap, V.cells, Qav, Qab, Qa5, flat, Qa1, Qa0, Qa3, ↓reduceIte, Nat.reduceEqDiff, Nat.reduceAdd, Nat.reduceLT, Nat.reduceLeDiff, Int.reduceEq, Qb, Qd, Qr, Qp, Qc, Qe, Qf, Qj, Ql, Q1, Qg, Qo, vw_i, Qam, Qau, zipA, beq_self_eq_true, Qi, Qn, Qt, Qm, Qv, Qz, Qa, decide_true, decide_false, true_and, and_true, and_self, forall_const, implies_true, reduceCtorEq, beq_true, imp_self, Qh, eWord, Qa4]
   refine Qbs w.among.length (fun i => ⟨lkp [(2, .pa (Qa4 s)), (3, .pa (eWord w)), (5, .i i)], []⟩) (fun i => ∀ j : Nat, j < i → (Qao s.guests (w.among[j]?.getD 0) && (decide (j = 0) || decide (w.among[j - 1]?.getD 0 < w.among[j]?.getD 0))) = true) ?_ ?_ ?_ ?_
   ·simp only [Zd, k1, ho0, kp, Qa0, Qa3, ↓reduceIte, Nat.reduceEqDiff, Qb, Qd, eWord, Qa4]
   ·intro j hj; omega
   ·intro i hi hc
    obtain ⟨x, hx⟩ : ∃ x, w.among[i]? = some x := ⟨_, Qx hi⟩
    have hlt : (i : Int) < w.among.length := by omega
    have h3 : inI ((i : Int) + 1) ∧ inI ((i : Int) - 1) := by unfold inI; omega
    have hgd : w.among[i]?.getD 0 = x := by rw [hx]; rfl
    have fin : (Qao s.guests x && (decide (i = 0) || decide (w.among[i - 1]?.getD 0 < x))) = false → Qbe s.guests w = false := fun e => by
     rw [ew]; unfold Qd7
     rw [Z5]
     exact ⟨i, Zc.2 hi, by rw [hgd, e]; simp⟩
    have con : (Qao s.guests x && (decide (i = 0) || decide (w.among[i - 1]?.getD 0 < x))) = true → ∀ j : Nat, j < i + 1 → (Qao s.guests (w.among[j]?.getD 0) && (decide (j = 0) || decide (w.among[j - 1]?.getD 0 < w.among[j]?.getD 0))) = true := fun e j hj => by
     by_cases hji : j < i
     ·exact hc j hji
     ·have : j = i := by omega
      subst this
      rw [hgd]; exact e
    by_cases hgx : Qao s.guests x = true
    ·by_cases hi0 : i = 0
     ·subst hi0
      have hlt0 : (0 : Int) < w.among.length := by omega
      have i10 : inI 1 := by unfold inI; omega
      have hcon := con (by simp [hgx])
      rw [Qi] at hcon
      simp only [hx, hlt0, g1, hgx, Zd, i10, Zf, Qag, Qa9, Qbo, Qa8, Qac, Qad, Qa6, Qba, Qae, Qaj, Qa7, Qa2, Fam.step, Qaf, Qay, Qat, ug, runX, eff, Qb8, fpR, fpQ, fpV, Qc3, hits, evO, opv, qv, Qai, binV, ldV, iadV, lenV, Qap, Qab, Qa5, flat, kp, Qa1, Qa0, Qa3, ↓reduceIte, Nat.reduceEqDiff, Nat.reduceAdd, Nat.reduceLT, Nat.reduceLeDiff, Int.reduceNeg, Int.reduceToNat, Zu, Int.reduceLE, Int.reduceAdd, Int.reduceSub, Qb, Qd, Qr, Qp, Qc, Qe, Qf, Qj, Ql, Q1, Qg, Qy, Q0, Qo, Q5, Qq, Q8, Qw, Q9, vw_i, Qam, Qau, Int.lt_irrefl, beq_self_eq_true, Qi, Qn, Qt, Q7, Zv, Qm, Qv, Qz, Qa, decide_true, decide_false, true_and, and_true, and_self, false_and, and_false, forall_const, implies_true, Q2, Zb, Q6, beq_true, imp_self, Qh, Qk, Qu, eWord, Qa4, eI]
      exact hcon
     ·have hpos : (0 : Int) < i := by omega
      obtain ⟨y, hy⟩ : ∃ y, w.among[i - 1]? = some y := ⟨_, Qx (by omega)⟩
      have hyd : w.among[i - 1]?.getD 0 = y := by rw [hy]; rfl
      have e1 : ((i : Int) - 1).toNat = i - 1 := by omega
      have e2 : (0 : Int) ≤ (i : Int) - 1 ∧ (i : Int) - 1 < w.among.length := by omega
      rw [hyd] at fin con
      by_cases hxy : x ≤ y
      ·simp only [hx, hlt, h3, g1, hgx, hpos, e1, e2, hy, hxy, Qag, Qa9, Qbo, Qa8, Qac, Qad, Qah, Qa6, Qba, Qae, Qaj, Qa7, Qa2, Fam.step, Qaf, Qay, Qat, ug, runX, eff, Qb8, fpR, fpQ, fpV, Qc3, hits, evO, opv, qv, Qai, binV, ldV, iadV, lenV, Qap, Qab, Qa5, flat, kp, Qa1, Qa0, Qa3, ↓reduceIte, Nat.reduceEqDiff, Nat.reduceAdd, Nat.reduceLT, Nat.reduceLeDiff, Qb, Qd, Qr, Qp, Qc, Qe, Qf, Qj, Ql, Q1, Qg, Qy, Q0, Qo, Q5, Qq, Q8, Qw, Q9, endQ, rvs, rv1, resV, vw_i, vw_b, Qam, Qau, Q3, beq_self_eq_true, Qi, V.b.injEq, Qn, Qt, Q7, Qm, Qv, Qz, Qa, Qs, decide_true, true_and, and_self, forall_const, implies_true, Q2, Zb, Q6, Qh, Q4, Qk, Qu, eWord, Qa4, eI]
       exact (fin (by simp [hi0]; intro _; omega)).symm
      ·simp only [hx, hlt, h3, g1, hgx, hpos, e1, e2, hy, hxy, Zi, Zf, Qag, Qa9, Qbo, Qa8, Qac, Qad, Qa6, Qba, Qae, Qaj, Qa7, Qa2, Fam.step, Qaf, Qay, Qat, ug, runX, eff, Qb8, fpR, fpQ, fpV, Qc3, hits, evO, opv, qv, Qai, binV, ldV, iadV, lenV, Qap, Qab, Qa5, flat, kp, Qa1, Qa0, Qa3, ↓reduceIte, Nat.reduceEqDiff, Nat.reduceAdd, Nat.reduceLT, Nat.reduceLeDiff, Qb, Qd, Qr, Qp, Qc, Qe, Qf, Qj, Ql, Q1, Qg, Qy, Q0, Qo, Q5, Qq, Q8, Qw, Q9, vw_i, Qam, Qau, Q3, beq_self_eq_true, Qi, Qn, Qt, Q7, Qm, Qv, Qz, Qa, Qs, decide_true, decide_false, true_and, and_true, and_self, forall_const, implies_true, Q2, Zb, Q6, Qh, Q4, Qk, Qu, eWord, Qa4, eI]
       exact con (by simp [hgx]; right; omega)
    ·simp only [hx, hlt, h3, g1, hgx, Qag, Qa9, Qbo, Qa8, Qac, Qad, Qah, Qa6, Qba, Qae, Qaj, Qa7, Qa2, Fam.step, Qaf, Qay, Qat, ug, runX, eff, Qb8, fpR, fpQ, fpV, Qc3, hits, evO, opv, qv, Qdp, binV, ldV, iadV, lenV, Qap, Qab, Qa5, flat, kp, Qa1, Qa0, Qa3, ↓reduceIte, Nat.reduceEqDiff, Nat.reduceAdd, Nat.reduceLT, Nat.reduceLeDiff, Qb, Qd, Qr, Qp, Qc, Qe, Qf, Qj, Ql, Q1, Qg, Qy, Q0, Qo, Q5, Qq, Q8, Qw, Q9, endQ, rvs, rv1, resV, vw_i, vw_b, Qam, Qau, Q3, Qi, V.b.injEq, Qn, Qt, Q7, Qm, Qv, Qz, Qa, Qs, decide_true, decide_eq_true_eq, decide_eq_false_iff_not, true_and, and_true, and_self, false_and, forall_const, implies_true, Q2, Zb, Q6, beq_true, beq_false, imp_self, Qh, Q4, Qk, Qu, eWord, Qa4, eI]
     exact (fin (by simp [hgx])).symm
   ·intro hc
    have ha : Qbe s.guests w = true := by
     rw [ew]; unfold Qd7
     rw [Zk]
     intro i hi
     exact hc i (Zc.1 hi)
    have hlt : ¬ ((w.among.length : Int) < w.among.length) := by omega
    simp only [hlt, ha, Qa9, Qa8, Qac, Qb1, Qah, Qa6, Qae, Qaj, Qa7, Qa2, Fam.step, Qaf, evO, opv, qv, binV, ldV, lenV, Qa1, Qa0, Qa3, ↓reduceIte, Nat.reduceEqDiff, Nat.reduceLeDiff, Qb, Qd, Qc, Qe, Qf, Qj, Qg, endQ, rvs, rv1, resV, vw_b, Qi, Qa, decide_false, and_self, Qh, eWord, Qa4]
  ·simp only [rc65, rs65, g1, hg, k2, hl, ho0, ho', Qag, Qa9, Qa8, Qac, Qad, Qa6, Qae, Qa7, Qa2, Fam.step, Qaf, Qay, Qat, ug, evO, opv, qv, Qai, binV, ldV, lenV, Qap, V.cells, Qav, Qab, Qa5, flat, Qa1, Qa0, Qa3, ↓reduceIte, Nat.reduceEqDiff, Nat.reduceAdd, Nat.reduceLT, Nat.reduceLeDiff, Int.reduceEq, Qb, Qd, Qr, Qp, Qc, Qe, Qf, Qj, Ql, Q1, Qg, Qo, vw_i, Qam, Qau, zipA, beq_self_eq_true, Qi, Qn, Qm, Qv, Qz, Qa, Qs, decide_true, decide_false, true_and, and_self, forall_const, implies_true, reduceCtorEq, Qh, eWord, Qa4]
   refine Qbs w.among.length (fun i => ⟨lkp [(2, .pa (Qa4 s)), (3, .pa (eWord w)), (5, .i i)], []⟩) (fun i => ∀ j : Nat, j < i → (Qao s.guests (w.among[j]?.getD 0) && (decide (j = 0) || decide (w.among[j - 1]?.getD 0 < w.among[j]?.getD 0))) = true) ?_ ?_ ?_ ?_
   ·simp only [Zd, k2, ho0, kp, Qa0, Qa3, ↓reduceIte, Nat.reduceEqDiff, Qb, Qd, eWord, Qa4]
   ·intro j hj; omega
   ·intro i hi hc
    obtain ⟨x, hx⟩ : ∃ x, w.among[i]? = some x := ⟨_, Qx hi⟩
    have hlt : (i : Int) < w.among.length := by omega
    have h3 : inI ((i : Int) + 1) ∧ inI ((i : Int) - 1) := by unfold inI; omega
    have hgd : w.among[i]?.getD 0 = x := by rw [hx]; rfl
    have fin : (Qao s.guests x && (decide (i = 0) || decide (w.among[i - 1]?.getD 0 < x))) = false → Qbe s.guests w = false := fun e => by
     rw [ew]; unfold Qd7
     rw [Z5]
     exact ⟨i, Zc.2 hi, by rw [hgd, e]; simp⟩
    have con : (Qao s.guests x && (decide (i = 0) || decide (w.among[i - 1]?.getD 0 < x))) = true → ∀ j : Nat, j < i + 1 → (Qao s.guests (w.among[j]?.getD 0) && (decide (j = 0) || decide (w.among[j - 1]?.getD 0 < w.among[j]?.getD 0))) = true := fun e j hj => by
     by_cases hji : j < i
     ·exact hc j hji
     ·have : j = i := by omega
      subst this
      rw [hgd]; exact e
    by_cases hgx : Qao s.guests x = true
    ·by_cases hi0 : i = 0
     ·subst hi0
      have hlt0 : (0 : Int) < w.among.length := by omega
      have i10 : inI 1 := by unfold inI; omega
      have hcon := con (by simp [hgx])
      rw [Qi] at hcon
      simp only [hx, hlt0, g1, hgx, Zd, i10, Zf, Qag, Qa9, Qbo, Qa8, Qac, Qad, Qa6, Qba, Qae, Qaj, Qa7, Qa2, Fam.step, Qaf, Qay, Qat, ug, runX, eff, Qb8, fpR, fpQ, fpV, Qc3, hits, evO, opv, qv, Qai, binV, ldV, iadV, lenV, Qap, Qab, Qa5, flat, kp, Qa1, Qa0, Qa3, ↓reduceIte, Nat.reduceEqDiff, Nat.reduceAdd, Nat.reduceLT, Nat.reduceLeDiff, Int.reduceNeg, Int.reduceToNat, Zu, Int.reduceLE, Int.reduceAdd, Int.reduceSub, Qb, Qd, Qr, Qp, Qc, Qe, Qf, Qj, Ql, Q1, Qg, Qy, Q0, Qo, Q5, Qq, Q8, Qw, Q9, vw_i, Qam, Qau, Int.lt_irrefl, beq_self_eq_true, Qi, Qn, Qt, Q7, Zv, Qm, Qv, Qz, Qa, decide_true, decide_false, true_and, and_true, and_self, false_and, and_false, forall_const, implies_true, Q2, Zb, Q6, beq_true, imp_self, Qh, Qk, Qu, eWord, Qa4, eI]
      exact hcon
     ·have hpos : (0 : Int) < i := by omega
      obtain ⟨y, hy⟩ : ∃ y, w.among[i - 1]? = some y := ⟨_, Qx (by omega)⟩
      have hyd : w.among[i - 1]?.getD 0 = y := by rw [hy]; rfl
      have e1 : ((i : Int) - 1).toNat = i - 1 := by omega
      have e2 : (0 : Int) ≤ (i : Int) - 1 ∧ (i : Int) - 1 < w.among.length := by omega
      rw [hyd] at fin con
      by_cases hxy : x ≤ y
      ·simp only [hx, hlt, h3, g1, hgx, hpos, e1, e2, hy, hxy, Qag, Qa9, Qbo, Qa8, Qac, Qad, Qah, Qa6, Qba, Qae, Qaj, Qa7, Qa2, Fam.step, Qaf, Qay, Qat, ug, runX, eff, Qb8, fpR, fpQ, fpV, Qc3, hits, evO, opv, qv, Qai, binV, ldV, iadV, lenV, Qap, Qab, Qa5, flat, kp, Qa1, Qa0, Qa3, ↓reduceIte, Nat.reduceEqDiff, Nat.reduceAdd, Nat.reduceLT, Nat.reduceLeDiff, Qb, Qd, Qr, Qp, Qc, Qe, Qf, Qj, Ql, Q1, Qg, Qy, Q0, Qo, Q5, Qq, Q8, Qw, Q9, endQ, rvs, rv1, resV, vw_i, vw_b, Qam, Qau, Q3, beq_self_eq_true, Qi, V.b.injEq, Qn, Qt, Q7, Qm, Qv, Qz, Qa, Qs, decide_true, true_and, and_self, forall_const, implies_true, Q2, Zb, Q6, Qh, Q4, Qk, Qu, eWord, Qa4, eI]
       exact (fin (by simp [hi0]; intro _; omega)).symm
      ·simp only [hx, hlt, h3, g1, hgx, hpos, e1, e2, hy, hxy, Zi, Zf, Qag, Qa9, Qbo, Qa8, Qac, Qad, Qa6, Qba, Qae, Qaj, Qa7, Qa2, Fam.step, Qaf, Qay, Qat, ug, runX, eff, Qb8, fpR, fpQ, fpV, Qc3, hits, evO, opv, qv, Qai, binV, ldV, iadV, lenV, Qap, Qab, Qa5, flat, kp, Qa1, Qa0, Qa3, ↓reduceIte, Nat.reduceEqDiff, Nat.reduceAdd, Nat.reduceLT, Nat.reduceLeDiff, Qb, Qd, Qr, Qp, Qc, Qe, Qf, Qj, Ql, Q1, Qg, Qy, Q0, Qo, Q5, Qq, Q8, Qw, Q9, vw_i, Qam, Qau, Q3, beq_self_eq_true, Qi, Qn, Qt, Q7, Qm, Qv, Qz, Qa, Qs, decide_true, decide_false, true_and, and_true, and_self, forall_const, implies_true, Q2, Zb, Q6, Qh, Q4, Qk, Qu, eWord, Qa4, eI]
       exact con (by simp [hgx]; right; omega)
    ·simp only [hx, hlt, h3, g1, hgx, Qag, Qa9, Qbo, Qa8, Qac, Qad, Qah, Qa6, Qba, Qae, Qaj, Qa7, Qa2, Fam.step, Qaf, Qay, Qat, ug, runX, eff, Qb8, fpR, fpQ, fpV, Qc3, hits, evO, opv, qv, Qdp, binV, ldV, iadV, lenV, Qap, Qab, Qa5, flat, kp, Qa1, Qa0, Qa3, ↓reduceIte, Nat.reduceEqDiff, Nat.reduceAdd, Nat.reduceLT, Nat.reduceLeDiff, Qb, Qd, Qr, Qp, Qc, Qe, Qf, Qj, Ql, Q1, Qg, Qy, Q0, Qo, Q5, Qq, Q8, Qw, Q9, endQ, rvs, rv1, resV, vw_i, vw_b, Qam, Qau, Q3, Qi, V.b.injEq, Qn, Qt, Q7, Qm, Qv, Qz, Qa, Qs, decide_true, decide_eq_true_eq, decide_eq_false_iff_not, true_and, and_true, and_self, false_and, forall_const, implies_true, Q2, Zb, Q6, beq_true, beq_false, imp_self, Qh, Q4, Qk, Qu, eWord, Qa4, eI]
     exact (fin (by simp [hgx])).symm
   ·intro hc
    have ha : Qbe s.guests w = true := by
     rw [ew]; unfold Qd7
     rw [Zk]
     intro i hi
     exact hc i (Zc.1 hi)
    have hlt : ¬ ((w.among.length : Int) < w.among.length) := by omega
    simp only [hlt, ha, Qa9, Qa8, Qac, Qb1, Qah, Qa6, Qae, Qaj, Qa7, Qa2, Fam.step, Qaf, evO, opv, qv, binV, ldV, lenV, Qa1, Qa0, Qa3, ↓reduceIte, Nat.reduceEqDiff, Nat.reduceLeDiff, Qb, Qd, Qc, Qe, Qf, Qj, Qg, endQ, rvs, rv1, resV, vw_b, Qi, Qa, decide_false, and_self, Qh, eWord, Qa4]
end Go.C10
set_option linter.unusedSimpArgs false
set_option linter.unusedVariables false
namespace Go.C10
open Go.Fam Go.Proofs
variable {Γ : Gam}
def e65 (a : Stand × Word) : List V := [.ag (Qa4 a.1), .ag (eWord a.2)]
def d65 : List V → Stand × Word | [.ag x0, .ag x1] => (Qb2 x0, Qep x1) | _ => (Qb2 [], Qep [])
theorem Qy7 (a : Stand × Word) : d65 (e65 a) = a := by simp [d65, e65, Qbc, Qet]
noncomputable def HN1 : Gam := HM3.ext 65 (fnG e65 d65 (fun a => (fun (s : Stand) (w : Word) => w.among.length ≤ 1000000) a.1 a.2) (fun a => (fun (s : Stand) (w : Word) => Qbe s.guests w) a.1 a.2) .b)
theorem Qwt : GOk Try.prog HN1 := Qws.ext (f := 65) (fun a w => Try.call65 a w) (Qb9 (e := e65) (d := d65) (ok := (fun a => (fun (s : Stand) (w : Word) => w.among.length ≤ 1000000) a.1 a.2)) (g := (fun a => (fun (s : Stand) (w : Word) => Qbe s.guests w) a.1 a.2)) (eb := .b) fun a h => W65 a.1 a.2 h)
theorem h65 (s : Stand) (w : Word) : HN1 65 [.ag (Qa4 s), .ag (eWord w)] = (w.among.length ≤ 1000000, .b (Qbe s.guests w)) :=
 (show HN1 65 _ = fnG e65 d65 (fun a => (fun (s : Stand) (w : Word) => w.among.length ≤ 1000000) a.1 a.2) (fun a => (fun (s : Stand) (w : Word) => Qbe s.guests w) a.1 a.2) .b (e65 (s, w)) from rfl).trans (Qb5 _ (Qy7 _))
theorem W36 (s : Stand) (h : Qaq s) : Qal Try.prog 36 [.ag (Qa4 s)] (.i (Qaw s)) := by
 refine Qak Qwt hmix Try.func36 cb36 cc36 cs36 cn36 ?_
 by_cases hg : Qaz s.guests 0 7 = true
 rotate_left
 ·have e : Qaw s = 100 := by unfold Qaw; rw [if_pos (by simp [hg])]
  unfold Qaz at hg
  simp only [Za, decide_eq_true_eq, not_and] at hg
  by_cases h1 : s.guests < 0
  ·simp only [rc36, rs36, h1, e, Qa9, Qa8, Qac, Qah, Qa6, Qae, Qa7, Qa2, Fam.step, Qaf, Qay, Qat, ug, evO, opv, qv, Qai, binV, ldV, V.cells, Qav, Qab, Qa5, Qa1, Qa0, Qa3, ↓reduceIte, Nat.reduceEqDiff, Nat.reduceAdd, Nat.reduceLeDiff, Qb, Qd, Qr, Qp, Qc, Qe, Qf, Qj, Qg, endQ, rvs, rv1, resV, vw_i, Qam, Qau, zipA, Qi, Qn, Qt, Qm, Qv, Qa, Qs, decide_true, and_true, and_self, forall_const, implies_true, beq_false, imp_self, Qa4]
  ·have h2 : 7 < s.guests := by have := hg (by omega); omega
   simp only [rc36, rs36, h1, h2, e, Qa9, Qa8, Qac, Qah, Qa6, Qae, Qa7, Qa2, Fam.step, Qaf, Qay, Qat, ug, evO, opv, qv, Qai, binV, ldV, V.cells, Qav, Qab, Qa5, Qa1, Qa0, Qa3, ↓reduceIte, Nat.reduceEqDiff, Nat.reduceAdd, Nat.reduceLeDiff, Qb, Qd, Qr, Qp, Qc, Qe, Qf, Qj, Qg, endQ, rvs, rv1, resV, vw_i, Qam, Qau, zipA, beq_self_eq_true, Qi, Qn, Qt, Qm, Qv, Qa, Qs, decide_true, decide_false, and_true, and_self, forall_const, implies_true, beq_false, imp_self, Qa4]
 have hg2 : ¬ s.guests < 0 ∧ ¬ 7 < s.guests := by
  unfold Qaz at hg
  simp only [Za, decide_eq_true_eq] at hg; omega
 by_cases hw : Qaz s.wrong 0 7 = true
 rotate_left
 ·have e : Qaw s = 100 := by unfold Qaw; rw [if_pos (by simp [hw])]
  unfold Qaz at hw
  simp only [Za, decide_eq_true_eq, not_and] at hw
  by_cases h1 : s.wrong < 0
  ·simp only [rc36, rs36, hg2, h1, e, Qa9, Qa8, Qac, Qah, Qa6, Qae, Qa7, Qa2, Fam.step, Qaf, Qay, Qat, ug, evO, opv, qv, Qai, binV, ldV, V.cells, Qav, Qab, Qa5, Qa1, Qa0, Qa3, ↓reduceIte, Nat.reduceEqDiff, Nat.reduceAdd, Nat.reduceLeDiff, Qb, Qd, Qr, Qp, Qc, Qe, Qf, Qj, Qg, endQ, rvs, rv1, resV, vw_i, Qam, Qau, zipA, beq_self_eq_true, Qi, Qn, Qt, Qm, Qv, Qa, Qs, decide_true, decide_false, and_true, and_self, forall_const, implies_true, beq_false, imp_self, Qa4]
  ·have h2 : 7 < s.wrong := by have := hw (by omega); omega
   simp only [rc36, rs36, hg2, h1, h2, e, Qa9, Qa8, Qac, Qah, Qa6, Qae, Qa7, Qa2, Fam.step, Qaf, Qay, Qat, ug, evO, opv, qv, Qai, binV, ldV, V.cells, Qav, Qab, Qa5, Qa1, Qa0, Qa3, ↓reduceIte, Nat.reduceEqDiff, Nat.reduceAdd, Nat.reduceLeDiff, Qb, Qd, Qr, Qp, Qc, Qe, Qf, Qj, Qg, endQ, rvs, rv1, resV, vw_i, Qam, Qau, zipA, beq_self_eq_true, Qi, Qn, Qm, Qa, decide_true, decide_false, and_self, forall_const, implies_true, Qa4]
 have hw2 : ¬ s.wrong < 0 ∧ ¬ 7 < s.wrong := by
  unfold Qaz at hw
  simp only [Za, decide_eq_true_eq] at hw; omega
 by_cases h20 : (20 : Int) < s.words.length
 ·have e : Qaw s = 101 := by unfold Qaw; rw [if_neg (by simp [hg, hw]), if_pos (.inl (by omega))]
  simp only [rc36, rs36, hg2, hw2, h20, e, Qag, Qa9, Qa8, Qac, Qah, Qa6, Qae, Qa7, Qa2, Fam.step, Qaf, Qay, Qat, ug, evO, opv, qv, Qai, binV, ldV, lenV, V.cells, Qav, Qab, Qa5, Qa1, Qa0, Qa3, ↓reduceIte, Nat.reduceEqDiff, Nat.reduceAdd, Nat.reduceLeDiff, Qb, Qd, Qr, Qp, Qc, Qe, Qf, Qj, Qg, endQ, rvs, rv1, resV, vw_i, Qam, Qau, zipA, beq_self_eq_true, Qi, Qn, Qm, Qa, decide_true, decide_false, and_self, forall_const, implies_true, Qh, Qa4]
 ·simp only [rc36, rs36, hg2, hw2, h20, Qag, Qa9, Qa8, Qac, Qad, Qa6, Qae, Qa7, Qa2, Fam.step, Qaf, Qay, Qat, ug, evO, opv, qv, Qai, binV, ldV, lenV, V.cells, Qav, Qab, Qa5, Qa1, Qa0, Qa3, ↓reduceIte, Nat.reduceEqDiff, Nat.reduceAdd, Nat.reduceLeDiff, Qb, Qd, Qr, Qp, Qc, Qe, Qf, Qj, Qg, vw_i, Qam, Qau, zipA, beq_self_eq_true, Qi, Qn, Qm, Qa, decide_false, true_and, and_self, forall_const, implies_true, Qh, Qa4]
  have hck : Qaw s = if (s.words.any fun w => !Qbe s.guests w) = true then 101 else 0 := by
   unfold Qaw
   rw [if_neg (by simp [hg, hw])]
   have : ¬ 20 < s.words.length := by omega
   simp only [this, false_or]
  refine Qbs s.words.length (fun i => ⟨lkp [(1, .pa (Qa4 s)), (3, .i i)], []⟩) (fun i => ∀ j w, j < i → s.words[j]? = some w → Qbe s.guests w = true) ?_ ?_ ?_ ?_
  ·simp only [Zd, kp, Qa0, Qa3, ↓reduceIte, Nat.reduceEqDiff, Qb, Qd, Qa4]
  ·intro j w hj; omega
  ·intro i hi hc
   obtain ⟨w, hw⟩ : ∃ x, s.words[i]? = some x := ⟨_, Qx hi⟩
   have hlt : (i : Int) < s.words.length := by omega
   have h3 : inI ((i : Int) + 1) := by unfold inI; omega
   have g1 := h65 s w
   simp only [Qa4, eWord] at g1
   have hs := h w (Zl hw)
   by_cases e : Qbe s.guests w = true
   ·simp only [hw, hlt, h3, g1, hs, e, Zi, Zf, Qag, Qa9, Qbo, Qa8, Qac, Qad, Qa6, Qba, Qae, Qaj, Qa7, Qa2, Fam.step, Qaf, runX, eff, Qb8, fpR, fpQ, fpV, Qc3, hits, evO, opv, qv, binV, ldV, iadV, lenV, Qap, Qab, Qa5, flat, kp, Qa1, Qa0, Qa3, ↓reduceIte, Nat.reduceEqDiff, Nat.reduceAdd, Nat.reduceLT, Nat.reduceLeDiff, Qb, Qd, Qp, Qc, Qe, Qf, Qj, Ql, Q1, Qg, Qy, Q0, Qo, Q5, Qq, Q8, Qw, Q9, vw_i, Qam, Qau, Q3, Qi, Qn, Qt, Q7, Qm, Qv, Qz, Qa, decide_true, true_and, and_true, and_self, implies_true, Q2, Zb, Q6, Qh, Q4, Qk, Qu, eWord, Qa4]
    intro j w' hj hjw
    by_cases hji : j < i
    ·exact hc j w' hji hjw
    ·have : j = i := by omega
     subst this
     rw [hw] at hjw; cases hjw; exact e
   ·have he : Qaw s = 101 := by
     rw [hck, if_pos]
     rw [Ze]
     exact ⟨w, Zl hw, by simp [e]⟩
    simp only [hw, hlt, g1, hs, e, he, Qag, Qa9, Qbo, Qa8, Qac, Qad, Qah, Qa6, Qba, Qae, Qaj, Qa7, Qa2, Fam.step, Qaf, runX, eff, Qb8, fpR, fpQ, fpV, Qc3, hits, evO, opv, qv, binV, ldV, iadV, lenV, Qap, Qab, Qa5, flat, kp, Qa1, Qa0, Qa3, ↓reduceIte, Nat.reduceEqDiff, Nat.reduceAdd, Nat.reduceLT, Nat.reduceLeDiff, Qb, Qd, Qp, Qc, Qe, Qf, Qj, Ql, Q1, Qg, Qy, Q0, Qo, Q5, Qq, Q8, Qw, Q9, endQ, rvs, rv1, resV, vw_i, Qam, Qau, Q3, Qi, Qn, Qt, Q7, Qm, Qv, Qz, Qa, decide_true, and_self, implies_true, Q2, Zb, Q6, Qh, Q4, Qk, Qu, eWord, Qa4]
  ·intro hc
   have hlt : ¬ ((s.words.length : Int) < s.words.length) := by omega
   have he : Qaw s = 0 := by
    rw [hck, if_neg]
    rw [Ze]
    rintro ⟨w, hw, e⟩
    obtain ⟨j, hj⟩ := Zp hw
    rw [hc j w (Qan hj) hj] at e
    cases e
   simp only [hlt, he, Qa9, Qa8, Qac, Qb1, Qah, Qa6, Qae, Qaj, Qa7, Qa2, Fam.step, Qaf, evO, opv, qv, binV, ldV, lenV, Qa1, Qa0, Qa3, ↓reduceIte, Nat.reduceEqDiff, Nat.reduceAdd, Nat.reduceLeDiff, Qb, Qd, Qc, Qe, Qf, Qj, Qg, endQ, rvs, rv1, resV, vw_i, Qi, Qa, decide_false, and_self, Qh, Qa4]
def e36 (a : Stand) : List V := [.ag (Qa4 a)]
def d36 : List V → Stand | [.ag x0] => (Qb2 x0) | _ => (Qb2 [])
theorem Qxq (a : Stand) : d36 (e36 a) = a := by simp [d36, e36, Qbc]
noncomputable def HN2 : Gam := HN1.ext 36 (fnG e36 d36 (fun a => (fun (s : Stand) => Qaq s) a) (fun a => (fun (s : Stand) => Qaw s) a) .i)
theorem Qwu : GOk Try.prog HN2 := Qwt.ext (f := 36) (fun a w => Try.call36 a w) (Qb9 (e := e36) (d := d36) (ok := (fun a => (fun (s : Stand) => Qaq s) a)) (g := (fun a => (fun (s : Stand) => Qaw s) a)) (eb := .i) fun a h => W36 a h)
theorem h36 (s : Stand) : HN2 36 [.ag (Qa4 s)] = (Qaq s, .i (Qaw s)) :=
 (show HN2 36 _ = fnG e36 d36 (fun a => (fun (s : Stand) => Qaq s) a) (fun a => (fun (s : Stand) => Qaw s) a) .i (e36 (s)) from rfl).trans (Qb5 _ (Qxq _))
def Qlv (s : Stand) : Bool := decide (60 < s.words.length) || s.words.any fun w => decide (60 < w.among.length)
def farB (s : Stand) : Bool := Qlv s || (decide (Qaw s = 0) && decide (6 < s.guests))
theorem Qgv {s : Stand} (h : Qlv s = false) : Qaq s ∧ s.words.length ≤ 60 := by
 unfold Qlv at h
 simp only [Zm, decide_eq_false_iff_not, Zt, decide_eq_true_eq] at h
 exact ⟨fun w hw => by have := h.2 w hw; omega, by omega⟩
theorem W35 (s : Stand) : Qal Try.prog 35 [.ag (Qa4 s)] (.b (farB s)) := by
 refine Qak Qwu hmix Try.func35 cb35 cc35 cs35 cn35 ?_
 by_cases h60 : (60 : Int) < s.words.length
 ·have e : farB s = true := by
   unfold farB Qlv
   have : 60 < s.words.length := by omega
   simp [this]
  simp only [rc35, rs35, h60, e, Qa9, Qa8, Qac, Qah, Qa6, Qae, Qa7, Qa2, Fam.step, Qaf, evO, opv, qv, binV, ldV, lenV, V.cells, Qav, Qab, Qa5, Qa1, Qa0, Qa3, ↓reduceIte, Nat.reduceEqDiff, Nat.reduceAdd, Nat.reduceLeDiff, Qb, Qd, Qc, Qe, Qf, Qj, Qg, endQ, rvs, rv1, resV, vw_i, vw_b, Qam, Qau, zipA, Qi, Qm, Qa, decide_true, and_self, Qh, Qa4]
 ·have h60' : ¬ 60 < s.words.length := by omega
  simp only [rc35, rs35, h60, Qag, Qa9, Qa8, Qac, Qad, Qa6, Qae, Qa7, Qa2, Fam.step, Qaf, evO, opv, qv, binV, ldV, lenV, V.cells, Qav, Qab, Qa5, Qa1, Qa0, Qa3, ↓reduceIte, Nat.reduceEqDiff, Nat.reduceAdd, Nat.reduceLeDiff, Qb, Qd, Qc, Qe, Qf, Qj, Qg, vw_i, Qam, Qau, zipA, Qi, Qm, Qa, decide_false, true_and, and_self, Qh, Qa4]
  refine Qbs s.words.length (fun i => ⟨lkp [(1, .pa (Qa4 s)), (3, .i i)], []⟩) (fun i => ∀ j w, j < i → s.words[j]? = some w → ¬ 60 < w.among.length) ?_ ?_ ?_ ?_
  ·simp only [Zd, kp, Qa0, Qa3, ↓reduceIte, Nat.reduceEqDiff, Qb, Qd, Qa4]
  ·intro j w hj; omega
  ·intro i hi hc
   obtain ⟨w, hw⟩ : ∃ x, s.words[i]? = some x := ⟨_, Qx hi⟩
   have hlt : (i : Int) < s.words.length := by omega
   have h3 : inI ((i : Int) + 1) := by unfold inI; omega
   by_cases e : (60 : Int) < w.among.length
   ·have he : farB s = true := by
     unfold farB Qlv
     have : (s.words.any fun w => decide (60 < w.among.length)) = true := Ze.2 ⟨w, Zl hw, by simp; omega⟩
     simp [this]
    simp only [hw, hlt, e, he, Qag, Qa9, Qa8, Qac, Qad, Qah, Qa6, Qae, Qaj, Qa7, Qa2, Fam.step, Qaf, evO, opv, qv, binV, ldV, iadV, lenV, kp, Qa1, Qa0, Qa3, ↓reduceIte, Nat.reduceEqDiff, Nat.reduceAdd, Nat.reduceLeDiff, Qb, Qd, Qc, Qe, Qf, Qj, Qg, Qq, endQ, rvs, rv1, resV, vw_b, Q3, Qi, Qa, decide_true, and_self, Q2, Qh, Q4, Qk, Qu, eWord, Qa4]
   ·simp only [hw, hlt, h3, e, Zi, Zf, Qag, Qa9, Qa8, Qac, Qad, Qa6, Qae, Qaj, Qa7, Qa2, Fam.step, Qaf, evO, opv, qv, binV, ldV, iadV, lenV, kp, Qa1, Qa0, Qa3, ↓reduceIte, Nat.reduceEqDiff, Nat.reduceAdd, Nat.reduceLeDiff, Qb, Qd, Qc, Qe, Qf, Qj, Qg, Qq, Q3, Qi, Qa, decide_true, decide_false, true_and, and_true, and_self, Q2, Qh, Q4, Qk, Qu, eWord, Qa4]
    intro j w' hj hjw
    by_cases hji : j < i
    ·exact hc j w' hji hjw
    ·have : j = i := by omega
     subst this
     rw [hw] at hjw; cases hjw; omega
  ·intro hc
   have hlt : ¬ ((s.words.length : Int) < s.words.length) := by omega
   have hlong : Qlv s = false := by
    unfold Qlv
    simp only [Zm, decide_eq_false_iff_not, Zt, decide_eq_true_eq]
    refine ⟨h60', fun w hw => ?_⟩
    obtain ⟨j, hj⟩ := Zp hw
    exact hc j w (Qan hj) hj
   obtain ⟨hs, _⟩ := Qgv hlong
   have g1 := h36 s
   simp only [Qa4] at g1
   by_cases h0 : Qaw s = 0
   ·simp only [hlt, g1, hs, h0, farB, hlong, Qa9, Qa8, Qac, Qb1, Qah, Qa6, Qae, Qaj, Qa7, Qa2, Fam.step, Qaf, Qay, Qat, ug, evO, opv, qv, Qai, binV, ldV, lenV, Qap, Qab, Qa5, flat, Qa1, Qa0, Qa3, ↓reduceIte, Nat.reduceEqDiff, Nat.reduceAdd, Nat.reduceLT, Nat.reduceLeDiff, Qb, Qd, Qr, Qp, Qc, Qe, Qf, Qj, Ql, Q1, Qg, Qo, endQ, rvs, rv1, resV, vw_i, vw_b, Qam, Qau, beq_self_eq_true, Qi, Qn, Zx, Qm, Z8, Qa, Qs, decide_true, decide_false, and_self, forall_const, implies_true, Qh, Qa4]
   ·simp only [hlt, g1, hs, h0, farB, hlong, Qa9, Qa8, Qac, Qb1, Qah, Qa6, Qae, Qaj, Qa7, Qa2, Fam.step, Qaf, Qay, Qat, ug, evO, opv, qv, Qai, binV, ldV, lenV, Qap, Qab, Qa5, flat, Qa1, Qa0, Qa3, ↓reduceIte, Nat.reduceEqDiff, Nat.reduceAdd, Nat.reduceLT, Nat.reduceLeDiff, Qb, Qd, Qr, Qp, Qc, Qe, Qf, Qj, Ql, Q1, Qg, Qo, endQ, rvs, rv1, resV, vw_i, vw_b, Qam, Qau, Qi, Qn, Qt, Q7, Qm, Qa, decide_false, and_true, and_self, forall_const, implies_true, beq_true, imp_self, Qh, Qa4]
def e35 (a : Stand) : List V := [.ag (Qa4 a)]
def d35 : List V → Stand | [.ag x0] => (Qb2 x0) | _ => (Qb2 [])
theorem Qxp (a : Stand) : d35 (e35 a) = a := by simp [d35, e35, Qbc]
noncomputable def HN3 : Gam := HN2.ext 35 (fnG e35 d35 (fun a => (fun (s : Stand) => True) a) (fun a => (fun (s : Stand) => farB s) a) .b)
theorem Qwv : GOk Try.prog HN3 := Qwu.ext (f := 35) (fun a w => Try.call35 a w) (Qb9 (e := e35) (d := d35) (ok := (fun a => (fun (s : Stand) => True) a)) (g := (fun a => (fun (s : Stand) => farB s) a)) (eb := .b) fun a h => W35 a)
theorem h35 (s : Stand) : HN3 35 [.ag (Qa4 s)] = (True, .b (farB s)) :=
 (show HN3 35 _ = fnG e35 d35 (fun a => (fun (s : Stand) => True) a) (fun a => (fun (s : Stand) => farB s) a) .b (e35 (s)) from rfl).trans (Qb5 _ (Qxp _))
theorem Qv1 (s : Stand)  : HN3 36 [.ag (Qa4 s)] = (Qaq s, .i (Qaw s)) := h36 s
def Qh5 (s : Stand) : Bool := farB s || (decide (Qaw s = 0) && decide (4 < s.guests))
theorem Qi0 {s : Stand} (h : farB s = false) : Qlv s = false := by unfold farB at h; rw [Zm] at h; exact h.1
theorem W29 (s : Stand) : Qal Try.prog 29 [.ag (Qa4 s)] (.b (Qh5 s)) := by
 refine Qak Qwv hmix Try.func29 cb29 cc29 cs29 cn29 ?_
 have g1 := h35 s
 have g2 := Qv1 s
 simp only [Qa4] at g1 g2
 cases hf : farB s with
 | true => simp only [rc29, rs29, g1, g2, hf, Qh5, Qa9, Qa8, Qah, Qa6, Qae, Qa7, Qa2, Fam.step, Qaf, Qay, Qat, ug, evO, opv, qv, Qai, binV, ldV, Qap, V.cells, Qav, Qab, Qa5, flat, Qa1, Qa0, Qa3, ↓reduceIte, Nat.reduceEqDiff, Nat.reduceAdd, Nat.reduceLT, Nat.reduceLeDiff, Qb, Qd, Qr, Qp, Qc, Qe, Qj, Ql, Q1, Qg, Qo, endQ, rvs, rv1, resV, vw_i, vw_b, Qam, Qau, zipA, Qi, Qn, Qt, Q7, Qm, Bool.true_or, Qv, Qa, Qs, decide_eq_true_eq, decide_eq_false_iff_not, true_and, and_true, and_self, false_and, forall_const, implies_true, beq_true, beq_false, Qol, imp_self, Qa4]
 | false =>
  obtain ⟨hs, _⟩ := Qgv (Qi0 hf)
  by_cases h0 : Qaw s = 0 <;> simp only [rc29, rs29, g1, g2, hs, hf, h0, Qh5, Qa9, Qa8, Qah, Qa6, Qae, Qa7, Qa2, Fam.step, Qaf, Qay, Qat, ug, evO, opv, qv, Qai, binV, ldV, Qap, V.cells, Qav, Qab, Qa5, flat, Qa1, Qa0, Qa3, ↓reduceIte, Nat.reduceEqDiff, Nat.reduceAdd, Nat.reduceLT, Nat.reduceLeDiff, Qb, Qd, Qr, Qp, Qc, Qe, Qj, Ql, Q1, Qg, Qo, endQ, rvs, rv1, resV, vw_i, vw_b, Qam, Qau, zipA, beq_self_eq_true, Qi, Qn, Qt, Zx, Q7, Zv, Qm, Z8, Qa, Qs, decide_true, decide_false, and_true, and_self, forall_const, implies_true, beq_true, imp_self, Qa4]
def e29 (a : Stand) : List V := [.ag (Qa4 a)]
def d29 : List V → Stand | [.ag x0] => (Qb2 x0) | _ => (Qb2 [])
theorem Qxn (a : Stand) : d29 (e29 a) = a := by simp [d29, e29, Qbc]
noncomputable def HN4 : Gam := HN3.ext 29 (fnG e29 d29 (fun a => (fun (s : Stand) => True) a) (fun a => (fun (s : Stand) => Qh5 s) a) .b)
theorem Qww : GOk Try.prog HN4 := Qwv.ext (f := 29) (fun a w => Try.call29 a w) (Qb9 (e := e29) (d := d29) (ok := (fun a => (fun (s : Stand) => True) a)) (g := (fun a => (fun (s : Stand) => Qh5 s) a)) (eb := .b) fun a h => W29 a)
theorem h29 (s : Stand) : HN4 29 [.ag (Qa4 s)] = (True, .b (Qh5 s)) :=
 (show HN4 29 _ = fnG e29 d29 (fun a => (fun (s : Stand) => True) a) (fun a => (fun (s : Stand) => Qh5 s) a) .b (e29 (s)) from rfl).trans (Qb5 _ (Qxn _))
theorem Qv2 (s : Stand)  : HN4 36 [.ag (Qa4 s)] = (Qaq s, .i (Qaw s)) := h36 s
def Qdz (s : Stand) : Bool := !Qh5 s && decide (Qaw s = 0)
theorem Qnb {s : Stand} (h : Qh5 s = false) : farB s = false := by unfold Qh5 at h; rw [Zm] at h; exact h.1
theorem W14 (s : Stand) : Qal Try.prog 14 [.ag (Qa4 s)] (.b (Qdz s)) := by
 refine Qak Qww hmix Try.func14 cb14 cc14 cs14 cn14 ?_
 have g1 := h29 s
 have g2 := Qv2 s
 simp only [Qa4] at g1 g2
 cases hf : Qh5 s with
 | true => simp only [rc14, rs14, g1, hf, Qdz, Qa9, Qa8, Qah, Qa6, Qae, Qa7, Qa2, Fam.step, Qaf, Qay, Qat, ug, evO, opv, qv, Qqg, binV, ldV, Qap, V.cells, Qav, Qab, Qa5, flat, Qa1, Qa0, Qa3, ↓reduceIte, Nat.reduceEqDiff, Nat.reduceAdd, Nat.reduceLT, Nat.reduceLeDiff, Qb, Qd, Qr, Qp, Qc, Qe, Ql, Q1, Qo, endQ, rvs, rv1, resV, vw_i, vw_b, Qam, Qau, zipA, Qi, Qn, Qt, Q7, Qm, Qv, Qa, true_and, and_true, and_self, false_and, forall_const, false_implies, implies_true, beq_true, imp_self, Qa4]
 | false =>
  obtain ⟨hs, _⟩ := Qgv (Qi0 (Qnb hf))
  by_cases h0 : Qaw s = 0 <;> simp only [rc14, rs14, g1, g2, hs, hf, h0, Qdz, Qa9, Qa8, Qah, Qa6, Qae, Qa7, Qa2, Fam.step, Qaf, Qay, Qat, ug, evO, opv, qv, Qai, binV, ldV, Qap, V.cells, Qav, Qab, Qa5, flat, Qa1, Qa0, Qa3, ↓reduceIte, Nat.reduceEqDiff, Nat.reduceAdd, Nat.reduceLT, Nat.reduceLeDiff, Qb, Qd, Qr, Qp, Qc, Qe, Ql, Q1, Qo, endQ, rvs, rv1, resV, vw_i, vw_b, Qam, Qau, zipA, beq_self_eq_true, Qi, Qn, Zv, Qm, Qz, Qa, Qs, decide_true, decide_false, and_self, forall_const, implies_true, Qa4]
def e14 (a : Stand) : List V := [.ag (Qa4 a)]
def d14 : List V → Stand | [.ag x0] => (Qb2 x0) | _ => (Qb2 [])
theorem Qxf (a : Stand) : d14 (e14 a) = a := by simp [d14, e14, Qbc]
noncomputable def HN5 : Gam := HN4.ext 14 (fnG e14 d14 (fun a => (fun (s : Stand) => True) a) (fun a => (fun (s : Stand) => Qdz s) a) .b)
theorem Qwx : GOk Try.prog HN5 := Qww.ext (f := 14) (fun a w => Try.call14 a w) (Qb9 (e := e14) (d := d14) (ok := (fun a => (fun (s : Stand) => True) a)) (g := (fun a => (fun (s : Stand) => Qdz s) a)) (eb := .b) fun a h => W14 a)
theorem h14 (s : Stand) : HN5 14 [.ag (Qa4 s)] = (True, .b (Qdz s)) :=
 (show HN5 14 _ = fnG e14 d14 (fun a => (fun (s : Stand) => True) a) (fun a => (fun (s : Stand) => Qdz s) a) .b (e14 (s)) from rfl).trans (Qb5 _ (Qxf _))
theorem Qv3 (l : List Int) (n : Int)  : HN5 52 [.sl 1 (l.map eI), .i n] = (l.length ≤ 1000000, .b (decide (n ∈ l))) := h52 l n
theorem W43 (w : Word) (t : List Int) (h : OkSo w t.length) : Qal Try.prog 43 [.ag (eWord w), .sl 1 (t.map eI)] (.b (soB w t)) := by
 refine Qak Qwx hmix Try.func43 cb43 cc43 cs43 cn43 ?_
 have g1 := fun n => Qv3 w.among n
 simp only [rc43, rs43, Qa9, Qa8, Qad, Qa6, Qae, Qa7, Qa2, Fam.step, Qaf, evO, opv, qv, binV, ldV, V.cells, Qav, Qab, Qa5, Qa1, Qa0, Qa3, ↓reduceIte, Nat.reduceEqDiff, Nat.reduceAdd, Nat.reduceLeDiff, Qb, Qd, Qc, Qe, Qj, Qg, vw_i, Qam, Qau, zipA, Qi, Qm, Qa, true_and, and_self, reduceCtorEq, eWord]
 obtain ⟨⟨a1, a2⟩, ⟨b1, b2⟩, hl⟩ := h
 obtain ⟨x, hx⟩ : ∃ x, t[w.guest.toNat]? = some x := ⟨_, Qx (by omega)⟩
 obtain ⟨y, hy⟩ : ∃ x, t[w.other.toNat]? = some x := ⟨_, Qx (by omega)⟩
 have ex : atN t w.guest = x := by unfold atN; rw [hx]; rfl
 have ey : atN t w.other = y := by unfold atN; rw [hy]; rfl
 by_cases k1 : w.kind = 1
 ·simp only [k1, a1, a2, hx, g1, hl, soB, ex, Qbo, Qa8, Qac, Qah, Qba, Qae, Qaj, Qaf, runX, eff, Qb8, fpR, fpQ, fpV, Qc3, hits, evO, opv, qv, ldV, iadV, Qap, Qab, Qa5, flat, Qa1, Qa0, ↓reduceIte, Nat.reduceEqDiff, Nat.reduceAdd, Nat.reduceLT, Nat.reduceLeDiff, Qb, Qd, Qp, Qc, Qe, Qf, Qj, Qg, Qy, Q0, Qo, Q5, Qq, Q8, Qw, Q9, endQ, rvs, rv1, resV, vw_i, vw_b, Qam, Qi, Qn, Qt, Q7, Qm, Qv, Qz, Qa, decide_true, and_self, implies_true, Q2, Zb, Q6, Qh, Qk, Qu, eI]
 by_cases k2 : w.kind = 2
 ·simp only [k2, a1, a2, hx, g1, hl, soB, ex, Qa9, Qbo, Qa8, Qac, Qah, Qa6, Qba, Qae, Qaj, Qa7, Qa2, Fam.step, Qaf, runX, eff, Qb8, fpR, fpQ, fpV, Qc3, hits, evO, opv, qv, binV, ldV, iadV, Qap, Qab, Qa5, flat, Qa1, Qa0, Qa3, ↓reduceIte, Nat.reduceEqDiff, Nat.reduceAdd, Nat.reduceLT, Nat.reduceLeDiff, Int.reduceEq, Qb, Qd, Qp, Qc, Qe, Qf, Qj, Qg, Qy, Q0, Qo, Q5, Qq, Q8, Qw, Q9, endQ, rvs, rv1, resV, vw_i, vw_b, Qam, Qi, Qn, Qt, Q7, Qm, Qv, Qz, Qa, decide_true, decide_false, and_self, implies_true, Q2, Zb, Q6, Qh, Qk, Qu, eI]
 by_cases k3 : w.kind = 3
 ·by_cases e : x = w.other <;> simp only [k3, a1, a2, b1, b2, hx, hy, soB, ex, ey, e, Qa9, Qbo, Qa8, Qac, Qah, Qa6, Qba, Qae, Qaj, Qa7, Qa2, Fam.step, Qaf, Qay, Qat, ug, runX, eff, Qb8, fpR, fpQ, fpV, Qc3, hits, evO, opv, qv, Qai, binV, ldV, iadV, Qa1, Qa0, Qa3, ↓reduceIte, Nat.reduceEqDiff, Nat.reduceAdd, Nat.reduceLeDiff, Int.reduceEq, Qb, Qd, Qr, Qp, Qc, Qe, Qf, Qj, Qg, Qy, Q0, Qo, Q5, Qq, Q8, Qw, Q9, endQ, rvs, rv1, resV, vw_b, beq_self_eq_true, Qi, Qn, Qt, Zx, Q7, Qm, Qv, Qz, Qa, Qs, decide_true, decide_false, and_true, and_self, forall_const, implies_true, Q2, Zb, Q6, beq_true, imp_self, Qh, Qk, Qu, eI]
 ·by_cases e : x = w.guest <;> simp only [k1, k2, k3, a1, a2, b1, b2, hx, hy, soB, ex, ey, e, Qag, Qa9, Qbo, Qa8, Qac, Qah, Qa6, Qba, Qae, Qaj, Qa7, Qa2, Fam.step, Qaf, Qay, Qat, ug, runX, eff, Qb8, fpR, fpQ, fpV, Qc3, hits, evO, opv, qv, Qai, binV, ldV, iadV, Qa1, Qa0, Qa3, ↓reduceIte, Nat.reduceEqDiff, Nat.reduceAdd, Nat.reduceLeDiff, Qb, Qd, Qr, Qp, Qc, Qe, Qf, Qj, Qg, Qy, Q0, Qo, Q5, Qq, Q8, Qw, Q9, endQ, rvs, rv1, resV, vw_b, beq_self_eq_true, Qi, Qn, Qt, Q7, Qm, Z8, Bool.true_or, Qv, Qz, Qa, Qs, decide_true, decide_false, and_true, and_self, forall_const, implies_true, Q2, Zb, Q6, beq_false, imp_self, Qh, Qk, Qu, eI]
def e43 (a : Word × List Int) : List V := [.ag (eWord a.1), .sl 1 (a.2.map eI)]
def d43 : List V → Word × List Int | [.ag x0, .sl _ x1] => (Qep x0, x1.map dI) | _ => (Qep [], [])
noncomputable def HN6 : Gam := HN5.ext 43 (fnG e43 d43 (fun a => (fun (w : Word) (t : List Int) => OkSo w t.length) a.1 a.2) (fun a => (fun (w : Word) (t : List Int) => soB w t) a.1 a.2) .b)
theorem Qwy : GOk Try.prog HN6 := Qwx.ext (f := 43) (fun a w => Try.call43 a w) (Qb9 (e := e43) (d := d43) (ok := (fun a => (fun (w : Word) (t : List Int) => OkSo w t.length) a.1 a.2)) (g := (fun a => (fun (w : Word) (t : List Int) => soB w t) a.1 a.2)) (eb := .b) fun a h => W43 a.1 a.2 h)
theorem Qv4 (l : List Int) (n : Int)  : HN6 52 [.sl 1 (l.map eI), .i n] = (l.length ≤ 1000000, .b (decide (n ∈ l))) := h52 l n
theorem W18 (t : List Int) (h : t.length ≤ 1000000) : Qal Try.prog 18 [.sl 1 (t.map eI)] (.b (takB t)) := by
 refine Qak Qwy hmix Try.func18 cb18 cc18 cs18 cn18 ?_
 simp only [rc18, rs18, Qa9, Qa8, Qad, Qa6, Qae, Qa7, Qa2, Fam.step, Qaf, evO, opv, qv, Qa1, Qa0, Qa3, ↓reduceIte, Qb, Qd, zipA, true_and, reduceCtorEq]
 refine Qbs t.length (fun i => ⟨lkp [(0, .sl 1 (t.map eI)), (3, .i i)], []⟩) (fun i => ∀ j : Nat, j < i → (Qaz (t[j]?.getD 0) 0 (t.length - 1) && !decide (t[j]?.getD 0 ∈ t.take j)) = true) ?_ ?_ ?_ ?_
 ·simp only [Zd, kp, Qa0, Qa3, ↓reduceIte, Qb, Qd, reduceCtorEq]
 ·intro j hj; omega
 ·intro i hi hc
  obtain ⟨x, hx⟩ : ∃ x, t[i]? = some x := ⟨_, Qx hi⟩
  have hlt : (i : Int) < t.length := by omega
  have h3 : inI ((i : Int) + 1) := by unfold inI; omega
  have hle : (i : Int) ≤ t.length := by omega
  have g2 := Qv4 (t.take i) x
  have htl : (t.take i).length ≤ 1000000 := by rw [List.length_take]; omega
  have hmt : List.take i (t.map eI) = (t.take i).map eI := by rw [List.map_take]
  have bad : (Qaz x 0 (t.length - 1) && !decide (x ∈ t.take i)) = false → takB t = false := fun e => by
   unfold takB
   rw [Xd]; right
   rw [Z5]
   exact ⟨i, Zc.2 hi, by rw [hx, Qq, e]; simp⟩
  have good : (Qaz x 0 (t.length - 1) && !decide (x ∈ t.take i)) = true → ∀ j : Nat, j < i + 1 → (Qaz (t[j]?.getD 0) 0 (t.length - 1) && !decide (t[j]?.getD 0 ∈ t.take j)) = true := fun e j hj => by
   by_cases hji : j < i
   ·exact hc j hji
   ·have : j = i := by omega
    subst this
    rw [hx, Qq]; exact e
  by_cases hx0 : x < 0
  ·simp only [hx, hlt, hle, hx0, Qag, Qa9, Qbo, Qa8, Qac, Qad, Qah, Qa6, Qba, Qae, Qaj, Qa7, Qa2, Fam.step, Qaf, Qay, Qat, ug, runX, eff, Qb8, fpR, fpQ, fpV, Qc3, hits, evO, opv, qv, Qai, Qdp, binV, ldV, iadV, lenV, slcV, Qh7, Qap, Qab, Qa5, kp, Qa1, Qa0, Qa3, ↓reduceIte, Nat.reduceEqDiff, Nat.reduceLT, Nat.reduceLeDiff, Zu, Int.reduceLE, Qb, Qd, Qr, Qp, Qc, Qe, Qj, Qg, Qy, Q0, Qo, Q5, Qq, Q8, Qw, Q9, endQ, rvs, rv1, resV, vw_i, vw_b, Qam, Q3, Qi, V.b.injEq, Qn, Qt, Q7, Qm, Qv, Qz, Qa, Qs, decide_true, true_and, and_true, and_self, false_and, forall_const, false_implies, implies_true, reduceCtorEq, Q2, Z2, Zb, Q6, beq_false, imp_self, Qh, Q4, Qk, Qu, eI]
   exact (bad (by unfold Qaz; simp; intro h5; omega)).symm
  ·by_cases hx1 : (t.length : Int) ≤ x
   ·simp only [hx, hlt, hle, hx0, hx1, Qag, Qa9, Qbo, Qa8, Qac, Qad, Qah, Qa6, Qba, Qae, Qaj, Qa7, Qa2, Fam.step, Qaf, Qay, Qat, ug, runX, eff, Qb8, fpR, fpQ, fpV, Qc3, hits, evO, opv, qv, Qai, Qdp, binV, ldV, iadV, lenV, slcV, Qh7, Qap, Qab, Qa5, kp, Qa1, Qa0, Qa3, ↓reduceIte, Nat.reduceEqDiff, Nat.reduceLT, Nat.reduceLeDiff, Zu, Int.reduceLE, Qb, Qd, Qr, Qp, Qc, Qe, Qj, Qg, Qy, Q0, Qo, Q5, Qq, Q8, Qw, Q9, endQ, rvs, rv1, resV, vw_i, vw_b, Qam, Q3, beq_self_eq_true, Qi, V.b.injEq, Qn, Qt, Q7, Qm, Qv, Qz, Qa, Qs, decide_true, decide_false, true_and, and_true, and_self, false_and, forall_const, false_implies, implies_true, reduceCtorEq, Q2, Z2, Zb, Q6, beq_false, imp_self, Qh, Q4, Qk, Qu, eI]
    exact (bad (by unfold Qaz; simp; intro; omega)).symm
   ·have hw : Qaz x 0 (t.length - 1) = true := by unfold Qaz; simp; omega
    by_cases hm : x ∈ t.take i
    ·simp only [hx, hlt, hle, hx0, hx1, g2, htl, hmt, hm, Qag, Qa9, Qbo, Qa8, Qac, Qad, Qah, Qa6, Qba, Qae, Qaj, Qa7, Qa2, Fam.step, Qaf, Qay, Qat, ug, runX, eff, Qb8, fpR, fpQ, fpV, Qc3, hits, evO, opv, qv, Qai, binV, ldV, iadV, lenV, slcV, Qh7, Qap, Qab, Qa5, flat, kp, Qa1, Qa0, Qa3, ↓reduceIte, Nat.reduceEqDiff, Nat.reduceLT, Nat.reduceLeDiff, Zu, Int.reduceLE, Qb, Qd, Qr, Qp, Qc, Qe, Qj, Qg, Qy, Q0, Qo, Q5, Qq, Q8, Qw, Q9, endQ, rvs, rv1, resV, vw_i, vw_b, Qam, Q3, beq_self_eq_true, Qi, V.b.injEq, Qn, Qt, Q7, Qm, Qv, Qz, Qa, decide_true, decide_false, true_and, and_self, forall_const, implies_true, reduceCtorEq, Q2, Z2, Zb, Q6, Qh, Q4, Qk, Qu, eI]
     exact (bad (by simp [hm])).symm
    ·simp only [hx, hlt, h3, hle, hx0, hx1, g2, htl, hmt, hm, Zi, Zf, Qag, Qa9, Qbo, Qa8, Qac, Qad, Qa6, Qba, Qae, Qaj, Qa7, Qa2, Fam.step, Qaf, Qay, Qat, ug, runX, eff, Qb8, fpR, fpQ, fpV, Qc3, hits, evO, opv, qv, Qai, binV, ldV, iadV, lenV, slcV, Qh7, Qap, Qab, Qa5, flat, kp, Qa1, Qa0, Qa3, ↓reduceIte, Nat.reduceEqDiff, Nat.reduceLT, Nat.reduceLeDiff, Zu, Int.reduceLE, Qb, Qd, Qr, Qp, Qc, Qe, Qj, Qg, Qy, Q0, Qo, Q5, Qq, Q8, Qw, Q9, vw_i, Qam, Q3, beq_self_eq_true, Qi, Qn, Qt, Q7, Qm, Qv, Qz, Qa, decide_true, decide_false, true_and, and_true, and_self, forall_const, implies_true, reduceCtorEq, Q2, Z2, Zb, Q6, Qh, Q4, Qk, Qu, eI]
     exact good (by simp [hw, hm])
 ·intro hc
  have hlt : ¬ ((t.length : Int) < t.length) := by omega
  have e : takB t = decide (t.length ≤ 7) := by
   unfold takB
   have : ((Z0 t.length).all fun i => Qaz (t[i]?.getD 0) 0 (t.length - 1) && !decide (t[i]?.getD 0 ∈ t.take i)) = true := by
    rw [Zk]
    exact fun i hi => hc i (Zc.1 hi)
   rw [this, Qt]
  simp only [hlt, e, Qa9, Qa8, Qac, Qb1, Qah, Qa6, Qae, Qaj, Qa7, Qa2, Fam.step, Qaf, evO, opv, qv, binV, lenV, Qa1, Qa0, Qa3, ↓reduceIte, Nat.reduceEqDiff, Qb, Qd, endQ, rvs, rv1, resV, vw_b, V.b.injEq, Qa, decide_false, true_and, and_self, reduceCtorEq, Qh]
  rw [decide_eq_decide]; omega
def e18 (a : List Int) : List V := [.sl 1 (a.map eI)]
def d18 : List V → List Int | [.sl _ x0] => (x0.map dI) | _ => ([])
theorem Qxi (a : List Int) : d18 (e18 a) = a := by simp [d18, e18, Function.comp_def, Qd8]
noncomputable def HN7 : Gam := HN6.ext 18 (fnG e18 d18 (fun a => (fun (t : List Int) => t.length ≤ 1000000) a) (fun a => (fun (t : List Int) => takB t) a) .b)
theorem Qwz : GOk Try.prog HN7 := Qwy.ext (f := 18) (fun a w => Try.call18 a w) (Qb9 (e := e18) (d := d18) (ok := (fun a => (fun (t : List Int) => t.length ≤ 1000000) a)) (g := (fun a => (fun (t : List Int) => takB t) a)) (eb := .b) fun a h => W18 a h)
theorem h18 (t : List Int) : HN7 18 [.sl 1 (t.map eI)] = (t.length ≤ 1000000, .b (takB t)) :=
 (show HN7 18 _ = fnG e18 d18 (fun a => (fun (t : List Int) => t.length ≤ 1000000) a) (fun a => (fun (t : List Int) => takB t) a) .b (e18 (t)) from rfl).trans (Qb5 _ (Qxi _))
theorem W28 (l m : List Int) (h : l.length ≤ 1000000) : Qal Try.prog 28 [.sl 1 (l.map eI), .sl 1 (m.map eI)] (.b (decide (l = m))) := by
 refine Qak Qwz hmix Try.func28 cb28 cc28 cs28 cn28 ?_
 simp only [rc28, rs28, Qag, Qa9, Qa8, Qac, Qj9, Qad, Qah, Qa6, Qae, Qa7, Qa2, Fam.step, Qaf, evO, opv, qv, binV, lenV, Qa1, Qa0, Qa3, ↓reduceIte, Nat.reduceEqDiff, Qb, Qd, endQ, rvs, rv1, resV, vw_b, zipA, Qi, V.b.injEq, decide_eq_false_iff_not, true_and, and_self, reduceCtorEq, Zy, Qh, Classical.not_not]
 refine ⟨fun h1 => ?_, fun h1 => ?_⟩
 ·have : ¬ l = m := fun e => by rw [e] at h1; omega
  simp only [this, decide_false]
 ·have hlm : l.length = m.length := by omega
  refine Qbs l.length (fun i => ⟨lkp [(0, .sl 1 (l.map eI)), (1, .sl 1 (m.map eI)), (5, .i i)], []⟩) (fun i => ∀ j : Nat, j < i → l[j]? = m[j]?) ?_ ?_ ?_ ?_
  ·simp only [Zd, kp, Qa0, Qa3, ↓reduceIte, Nat.reduceEqDiff, Qb, Qd, reduceCtorEq]
  ·intro j hj; omega
  ·intro i hi hc
   obtain ⟨n, hn⟩ : ∃ n, l[i]? = some n := ⟨_, Qx hi⟩
   obtain ⟨n', hn'⟩ : ∃ n, m[i]? = some n := ⟨_, Qx (by omega)⟩
   have hlt : (i : Int) < l.length := by omega
   have hlt2 : (i : Int) < m.length := by omega
   have h3 : inI ((i : Int) + 1) := by unfold inI; omega
   by_cases e : n = n'
   ·subst e
    simp only [hn, hn', hlt, hlt2, h3, Zi, Zf, Qag, Qa9, Qbo, Qa8, Qac, Qad, Qa6, Qba, Qae, Qaj, Qa7, Qa2, Fam.step, Qaf, runX, eff, Qb8, fpR, fpQ, fpV, Qc3, hits, evO, opv, qv, binV, ldV, iadV, lenV, kp, Qa1, Qa0, Qa3, ↓reduceIte, Nat.reduceEqDiff, Nat.reduceLeDiff, Qb, Qd, Qp, Qc, Qe, Qg, Qy, Q0, Qo, Q5, Qq, Q8, Qw, Q9, Q3, Qi, Qn, Qt, Q7, Qm, Qv, Qz, Qa, decide_true, true_and, and_true, and_self, reduceCtorEq, Q2, Zb, Q6, Qh, Q4, Qk, Qu, eI]
    intro j hj
    by_cases hji : j < i
    ·exact hc j hji
    ·have : j = i := by omega
     subst this
     rw [hn, hn']
   ·have : ¬ l = m := fun e2 => by rw [e2, hn'] at hn; exact e (Xi.inj hn).symm
    simp only [hn, hn', hlt, hlt2, e, this, Qag, Qa9, Qbo, Qa8, Qac, Qad, Qah, Qa6, Qba, Qae, Qaj, Qa7, Qa2, Fam.step, Qaf, runX, eff, Qb8, fpR, fpQ, fpV, Qc3, hits, evO, opv, qv, binV, ldV, iadV, lenV, kp, Qa1, Qa0, Qa3, ↓reduceIte, Nat.reduceEqDiff, Nat.reduceLeDiff, Qb, Qd, Qp, Qc, Qe, Qg, Qy, Q0, Qo, Q5, Qq, Q8, Qw, Q9, endQ, rvs, rv1, resV, vw_b, Q3, Qi, Qn, Qt, Q7, Qm, Qv, Qz, Qa, decide_true, decide_false, and_self, reduceCtorEq, Q2, Zb, Q6, Qh, Q4, Qk, Qu, eI]
  ·intro hc
   have hlt : ¬ ((l.length : Int) < l.length) := by omega
   have e : l = m := by
    apply List.ext_getElem?
    intro j
    by_cases hj : j < l.length
    ·exact hc j hj
    ·rw [Xe (by omega), Xe (by omega)]
   subst e
   simp only [hlt, eq_self, Qa9, Qa8, Qac, Qb1, Qah, Qa6, Qae, Qaj, Qa7, Qa2, Fam.step, Qaf, evO, opv, qv, binV, lenV, Qa1, Qa0, Qa3, ↓reduceIte, Nat.reduceEqDiff, Qb, Qd, endQ, rvs, rv1, resV, vw_b, Qa, decide_true, decide_false, and_self, reduceCtorEq, Qh]
def e28 (a : List Int × List Int) : List V := [.sl 1 (a.1.map eI), .sl 1 (a.2.map eI)]
def d28 : List V → List Int × List Int | [.sl _ x0, .sl _ x1] => (x0.map dI, x1.map dI) | _ => ([], [])
theorem Qxm (a : List Int × List Int) : d28 (e28 a) = a := by simp [d28, e28, Function.comp_def, Qd8]
noncomputable def HN8 : Gam := HN7.ext 28 (fnG e28 d28 (fun a => (fun (l : List Int) (m : List Int) => l.length ≤ 1000000) a.1 a.2) (fun a => (fun (l : List Int) (m : List Int) => decide (l = m)) a.1 a.2) .b)
theorem Qx0 : GOk Try.prog HN8 := Qwz.ext (f := 28) (fun a w => Try.call28 a w) (Qb9 (e := e28) (d := d28) (ok := (fun a => (fun (l : List Int) (m : List Int) => l.length ≤ 1000000) a.1 a.2)) (g := (fun a => (fun (l : List Int) (m : List Int) => decide (l = m)) a.1 a.2)) (eb := .b) fun a h => W28 a.1 a.2 h)
theorem h28 (l : List Int) (m : List Int) : HN8 28 [.sl 1 (l.map eI), .sl 1 (m.map eI)] = (l.length ≤ 1000000, .b (decide (l = m))) :=
 (show HN8 28 _ = fnG e28 d28 (fun a => (fun (l : List Int) (m : List Int) => l.length ≤ 1000000) a.1 a.2) (fun a => (fun (l : List Int) (m : List Int) => decide (l = m)) a.1 a.2) .b (e28 (l, m)) from rfl).trans (Qb5 _ (Qxm _))
def exS0 : Stand := ⟨4, [⟨1, 0, 0, [1, 2]⟩, ⟨2, 3, 0, [3]⟩, ⟨4, 1, 2, []⟩], 0⟩
theorem W49 : Qal Try.prog 49 [] (.ag (Qa4 exS0)) := by
 refine Qak Qx0 hmix Try.func49 cb49 cc49 cs49 cn49 ?_
 simp only [rc49, rs49, exS0, Zq, Z1, Qa9, Qa8, Qah, Qa6, Qck, putB, Qae, Qa7, Qa2, Fam.step, Qaf, Qcf, Qb6, putB, nv, sv, evO, opv, qv, ldV, Qas, putAt, Qb7, Qb4, V.cells, Qav, Qbm, Qab, Qa5, Qa1, Qbn, Qa0, Qa3, ↓reduceIte, Nat.reduceEqDiff, Nat.reduceAdd, Nat.reduceMul, Nat.reduceLeDiff, Qb, Qd, Qr, Qp, Qc, Qe, Qf, Qj, Z9, Ql, Zr, Q1, Qy, Q0, Qo, Zg, Zs, Qw, Z3, endQ, rvs, rv1, resV, vw_i, vw_z, Qam, Qau, zipA, Qi, Qn, Qm, true_and, and_self, reduceCtorEq, not_false_eq_true, ne_eq, eWord, Qa4, eI]
 rfl
noncomputable def HN9 : Gam := HN8.ext 49 fun vs => (vs = [], .ag (Qa4 exS0))
theorem Qx1 : GOk Try.prog HN9 := Qx0.ext (f := 49) (fun a w => Try.call49 a w) fun vs h => by
 have e : vs = [] := h
 subst e
 exact W49
theorem h49 : HN9 49 [] = (True, .ag (Qa4 exS0)) := by
 refine (show HN9 49 [] = ((([] : List V) = []), V.ag (Qa4 exS0)) from rfl).trans ?_
 simp
theorem Qk0 : Qaq exS0 := by
 intro w hw
 simp [exS0] at hw
 rcases hw with rfl | rfl | rfl <;> simp
theorem Qhy : Qaw exS0 = 0 := by decide
theorem Qdt : Qaa exS0 = [[1, 3, 2, 0], [2, 1, 3, 0]] := by decide +kernel
theorem Qn9 : Qbr exS0 [] = ([[1, 3, 2, 0], [2, 1, 3, 0]], 0) := by
 unfold Qbr
 rw [if_neg (by rw [Qhy]; simp), if_neg (by simp), Qdt]
 rfl
theorem Qj4 {l : List (List Int)} {g n : Int} (h : ∀ t ∈ l, 0 ≤ atN t g ∧ atN t g ≤ n - 1) : Qc1 l g = (ints 0 (n - 1)).filter fun u => l.any fun t => decide (atN t g = u) := by
 have hd := Qid (colN l g)
 refine Qjs hd.1 ?_ fun x => ?_
 ·refine Xa.filter _ ?_
  unfold ints
  rw [Zz]
  refine Xa.imp ?_ Xc
  intro a b hab; omega
 ·unfold Qc1
  rw [hd.2, Zj, Qch, Ze]
  unfold colN
  rw [Zw]
  constructor
  ·rintro ⟨t, ht, rfl⟩
   exact ⟨h t ht, t, ht, by simp⟩
  ·rintro ⟨_, t, ht, e⟩
   exact ⟨t, ht, by simpa using e⟩
theorem Qk1 : ∀ g : Int, 0 ≤ g → g ≤ 3 → Qc1 (Qaa exS0) g = (ints 0 3).filter fun u => (Qaa exS0).any fun t => decide (atN t g = u) := fun g h1 h2 => by
 refine Qj4 (n := 4) fun t ht => ?_
 have hS : OkS exS0 := Qdj Qhy Qk0
 have := (Qbp (n := 4) (Qcd.1 ht).1 (x := g) (by omega)).2
 omega
theorem Qpq : Qdb exS0 = ([-1, -1, -1, 0], 0) := by
 unfold Qdb Qd6
 rw [Qn9, if_pos rfl]
 have e : ints 0 (exS0.guests - 1) = [0, 1, 2, 3] := by decide
 rw [e]
 simp only [Qb, Qd]
 rw [Qk1 0 (by decide) (by decide), Qk1 1 (by decide) (by decide), Qk1 2 (by decide) (by decide), Qk1 3 (by decide) (by decide), Qdt]
 decide +kernel
theorem Qti : Qdn exS0 = (2, 0) := by
 unfold Qdn
 rw [if_pos Qhy, Qdt]; rfl
theorem Qrl : (Qbu exS0).1 = 1 ∧ (Qbu exS0).2.2 = 0 := by
 have hS : OkS exS0 := Qdj Qhy Qk0
 have hT := Qc9 hS
 have hne : Qaa exS0 ≠ [] := by rw [Qdt]; simp
 obtain ⟨h1, h2⟩ := Qd2 hT hne
 have c1 : canB 1 (Qaa exS0) = true := by rw [Qdt]; decide +kernel
 have c0 : ¬ canB 0 (Qaa exS0) = true := by rw [Qdt]; decide +kernel
 have hle := h2 1 c1
 have hge : Qc5 (Qaa exS0) ≠ 0 := fun e => by rw [e] at h1; exact c0 h1
 have e1 : Qc5 (Qaa exS0) = 1 := by omega
 unfold Qbu
 rw [Qn9, if_pos rfl]
 exact ⟨by show (Qc5 (Qaa exS0) : Int) = 1; rw [e1]; rfl, rfl⟩
theorem Qth : ((Qeu [1, 2, 0, 3]).1.length, (Qeu [1, 2, 0, 3]).2) = (2, 0) := by decide +kernel
theorem Qpr : (Qco [1, 2, 0, 3]).2.2 = 0 ∧ 0 < (Qco [1, 2, 0, 3]).1.length + (Qco [1, 2, 0, 3]).2.1.length ∧ (Qco [1, 2, 0, 3]).1.length + (Qco [1, 2, 0, 3]).2.1.length ≤ 100 := by decide +kernel
theorem Qv5 (s : Stand)  : HN9 16 [.ag (Qa4 s)] = (Qaq s, ((fun r => .tp [.i r.1, .i r.2])) (Qdn s)) := h16 s
theorem Qva (s : Stand)  : HN9 41 [.ag (Qa4 s)] = (Qaq s, ((fun r => .tp [.sl 1 (r.1.map eI), .i r.2])) (Qdb s)) := h41 s
theorem Qv6 (s : Stand)  : HN9 17 [.ag (Qa4 s)] = (Qaq s, ((fun r => .tp [.i r.1, .i r.2.2])) (Qbu s)) := h17 s
theorem Qv7 (t : List Int)  : HN9 19 [.sl 1 (t.map eI)] = (t.length ≤ 1000000, ((fun r => .tp [.i r.1.length, .i r.2])) (Qeu t)) := h19 t
theorem Qv8 (t : List Int)  : HN9 24 [.sl 1 (t.map eI)] = (t.length ≤ 1000000, r3V (Qco t)) := h24 t
theorem Qv9 (l : List Int) (m : List Int)  : HN9 28 [.sl 1 (l.map eI), .sl 1 (m.map eI)] = (l.length ≤ 1000000, .b (decide (l = m))) := h28 l m
set_option maxHeartbeats 1000000 in
theorem W15 : Qal Try.prog 15 [] (.b true) := by
 refine Qak Qx1 hmix Try.func15 cb15 cc15 cs15 cn15 ?_
 have g1 := Qv5 exS0
 have g2 := Qva exS0
 have g3 := Qv6 exS0
 have g4 := Qv7 [1, 2, 0, 3]
 have g5 := Qv8 [1, 2, 0, 3]
 have g6 := Qv9 [-1, -1, -1, 0] [-1, -1, -1, 0]
 obtain ⟨e1, e2⟩ := Qrl
 obtain ⟨e3, e4, e5⟩ := Qpr
 have e6 := Qth
 rw [Prod.mk.injEq] at e6
 rw [Qti] at g1
 rw [Qpq] at g2
 simp only [e1, e2] at g3
 simp only [e6.1, e6.2] at g4
 simp only [r3V, e3] at g5
 have hsh := Qk0
 obtain ⟨X, hX⟩ : ∃ X, X = exS0 := ⟨_, rfl⟩
 have hE := h49
 have eX : Qa4 exS0 = [V.i 4, V.sl 4 (exS0.words.map eWord), V.i 0] := rfl
 rw [eX] at g1 g2 g3 hE
 simp only [eI, Qb, Qd, Qc, Qe] at g2 g4 g5 g6
 have c2 : ∀ a b c d : V, Qcj 1 [a, b, c, d] 0 4 = [[a], [b], [c], [d]] := fun _ _ _ _ => rfl
 simp only [rc15, rs15, hE, g1, g2, g3, g4, g5, g6, hsh, Zq, Z1, c2, Qa9, Qa8, Qah, Qa6, putB, Qae, Qa7, Qa2, Fam.step, Qaf, Qcf, Qay, Qb6, Qat, ug, putB, nv, sv, evO, opv, qv, Qai, binV, ldV, lenV, Qap, Qas, putAt, Qb7, Qb4, V.cells, Qav, Qbm, Qab, Qa5, flat, Qcx, Qa1, Qbn, Qa0, Qa3, ↓reduceIte, Nat.reduceEqDiff, Nat.reduceAdd, Nat.reduceMul, Nat.reduceLT, Nat.reduceLeDiff, Int.reduceNeg, Qb, Qd, Qr, Qp, Qc, Qe, Qf, Qj, Z9, Ql, Zr, Q1, Qy, Q0, Qo, Zg, Zn, Qq, Zs, Qw, Z3, endQ, rvs, rv1, resV, vw_i, vw_b, Qam, Qau, zipA, beq_self_eq_true, Qi, V.b.injEq, Qn, Qt, Zv, Qm, Qa, Qs, decide_true, decide_eq_true_eq, decide_eq_false_iff_not, true_and, and_true, and_self, forall_const, implies_true, reduceCtorEq, not_false_eq_true, ne_eq, beq_true, Qol, imp_self, Qh]
 have i1 : inI (((Qco [1, 2, 0, 3]).1.length : Int) + (Qco [1, 2, 0, 3]).2.1.length) := by unfold inI; omega
 have i2 : (0 : Int) < ((Qco [1, 2, 0, 3]).1.length : Int) + (Qco [1, 2, 0, 3]).2.1.length := by omega
 have i3 : ((2 : Nat) : Int) = 2 := rfl
 simp only [i1, i2, i3, and_self, decide_true, Qn, implies_true]
theorem call15 (hG : GOk Try.prog Γ) : GOk Try.prog (Γ.ext 15 fun vs => (vs = [], .b true)) := hG.ext (f := 15) (fun a w => Try.call15 a w) fun vs h => by
 have e : vs = [] := h
 subst e
 exact W15
noncomputable def HN10 : Gam := HN9.ext 15 fun vs => (vs = [], .b true)
theorem Qlx : GOk Try.prog HN10 := call15 Qx1
theorem h15 : HN10 15 [] = (True, .b true) := by
 refine (show HN10 15 [] = ((([] : List V) = []), V.b true) from rfl).trans ?_
 simp
end Go.C10
set_option linter.unusedSimpArgs false
set_option linter.unusedVariables false
namespace Go.C10
open Go.Fam Go.Proofs
def renN (l v : List Int) (n : Nat) : List Int := (Z0 n).flatMap fun (k : Nat) => (l.filter fun x => decide (atN v x = k)).map fun _ => (k : Int)
theorem Qq9 {l v : List Int} {n : Nat} {y : Int} : y ∈ renN l v n ↔ ∃ x ∈ l, atN v x = y ∧ 0 ≤ y ∧ y < n := by
 unfold renN
 rw [List.mem_flatMap]
 constructor
 ·rintro ⟨k, hk, h⟩
  rw [Zc] at hk
  obtain ⟨x, hx, rfl⟩ := Zw.1 h
  obtain ⟨h1, h2⟩ := Zj.1 hx
  rw [decide_eq_true_eq] at h2
  exact ⟨x, h1, h2, by omega, by omega⟩
 ·rintro ⟨x, hx, h, h0, h1⟩
  refine ⟨y.toNat, Zc.2 (by omega), Zw.2 ⟨x, Zj.2 ⟨hx, ?_⟩, by omega⟩⟩
  rw [decide_eq_true_eq, h]; omega
def renT (t v : List Int) : List Int := (Z0 t.length).map fun (k : Nat) => atN v (atN t (atN (bkN v v.length) k))
theorem Qdq {n : Nat} {t v : List Int} (hT : IsTak n t) (hV : IsTak n v) {x : Int} (hx : 0 ≤ x ∧ x < n) : atN (renT t v) (atN v x) = atN v (atN t x) := by
 have hb := Qpa hV
 have hvs := hV.size
 have h1 := (Qbp hV hx).2
 have hts := hT.size
 unfold renT
 have e1 : atN ((Z0 t.length).map fun (k : Nat) => atN v (atN t (atN (bkN v v.length) k))) (atN v x) = atN v (atN t (atN (bkN v v.length) ((atN v x).toNat : Nat))) := by
  show ((Z0 t.length).map fun (k : Nat) => atN v (atN t (atN (bkN v v.length) k)))[(atN v x).toNat]?.getD 0 = _
  rw [Qu, List.getElem?_range (by omega)]
  rfl
 have hbx := hb x.toNat (by omega)
 rw [show ((x.toNat : Nat) : Int) = x by omega] at hbx
 rw [e1, show (((atN v x).toNat : Nat) : Int) = atN v x by omega, hvs, hbx]
theorem Qqp {t v : List Int} : (renT t v).length = t.length := by unfold renT; rw [Qh, List.length_range]
theorem Qj2 {n : Nat} {v : List Int} (hV : IsTak n v) {y : Int} (hy : 0 ≤ y ∧ y < n) : ∃ x : Int, (0 ≤ x ∧ x < n) ∧ atN v x = y := by
 obtain ⟨i, hi, e⟩ := Qkx hV (u := y.toNat) (by omega)
 exact ⟨i, by omega, by rw [e]; omega⟩
theorem Qft {n : Nat} {v : List Int} (hV : IsTak n v) {x y : Int} (hx : 0 ≤ x ∧ x < n) (hy : 0 ≤ y ∧ y < n) (e : atN v x = atN v y) : x = y := by
 have h1 : ((x.toNat : Nat) : Int) = x := by omega
 have h2 : ((y.toNat : Nat) : Int) = y := by omega
 have := Qj3 hV (i := x.toNat) (j := y.toNat) (by omega) (by omega) (by rw [h1, h2]; exact e)
 omega
theorem Qi4 {n : Nat} {t v : List Int} (hT : IsTak n t) (hV : IsTak n v) : IsTak n (renT t v) := by
 refine Qr7 (by rw [Qqp, hT.size]) (fun y hy => ?_) (fun y z hy hz e => ?_)
 ·obtain ⟨x, hx, e⟩ := Qj2 hV (y := y) (by omega)
  rw [← e, Qdq hT hV hx]
  exact (Qbp hV (Qbp hT hx).2).2
 ·obtain ⟨x, hx, e1⟩ := Qj2 hV (y := y) (by omega)
  obtain ⟨x', hx', e2⟩ := Qj2 hV (y := z) (by omega)
  rw [← e1, ← e2, Qdq hT hV hx, Qdq hT hV hx'] at e
  have h1 := Qft hV (Qbp hT hx).2 (Qbp hT hx').2 e
  have h2 := Qft hT hx hx' h1
  rw [h2, e2] at e1
  omega
theorem Qs2 {n : Nat} {t u v : List Int} (hT : IsTak n t) (hU : IsTak n u) (hV : IsTak n v) (e : renT t v = renT u v) : t = u := by
 refine Qmx hT hU fun i hi => ?_
 have h1 := Qdq hT hV (x := i) (by omega)
 have h2 := Qdq hU hV (x := i) (by omega)
 rw [e] at h1
 exact Qft hV (hT.at hi) (hU.at hi) (h1.symm.trans h2)
theorem Qvk {n : Nat} {v : List Int} (hV : IsTak n v) {x : Int} (hx : 0 ≤ x ∧ x < n) : atN (bkN v n) (atN v x) = x := by
 have := Qpa hV x.toNat (by omega)
 rwa [show ((x.toNat : Nat) : Int) = x by omega] at this
theorem Qyk {n : Nat} {v : List Int} (hV : IsTak n v) {y : Int} (hy : 0 ≤ y ∧ y < n) : atN v (atN (bkN v n) y) = y := by
 obtain ⟨x, hx, e⟩ := Qj2 hV hy
 rw [← e, Qvk hV hx]
theorem Qqo {n : Nat} {u v : List Int} (hU : IsTak n u) (hV : IsTak n v) : renT (renT u (bkN v n)) v = u := by
 have hb := Qsk hV
 have hR := Qi4 hU hb
 refine Qmx (Qi4 hR hV) hU fun i hi => ?_
 obtain ⟨x, hx, e⟩ := Qj2 hV (y := (i : Int)) (by omega)
 rw [← e, Qdq hR hV hx]
 have hvx := (Qbp hV hx).2
 have h1 := Qdq hU hb hvx
 rw [Qvk hV hx] at h1
 rw [h1, Qyk hV (Qbp hU hvx).2]
def renW (w : Word) (v : List Int) (n : Nat) : Word := ⟨w.kind, atN v w.guest, if w.kind = 3 ∨ w.kind = 4 then atN v w.other else 0, renN w.among v n⟩
theorem Ql3 {n : Nat} {v l : List Int} (hV : IsTak n v) (hl : ∀ x ∈ l, 0 ≤ x ∧ x < n) {x : Int} (hx : 0 ≤ x ∧ x < n) : atN v x ∈ renN l v n ↔ x ∈ l := by
 rw [Qq9]
 constructor
 ·rintro ⟨y, hy, e, _⟩
  rw [← Qft hV (hl y hy) hx e]; exact hy
 ·intro h
  have := (Qbp hV hx).2
  exact ⟨x, h, rfl, this.1, this.2⟩
theorem Qx8 {n : Nat} {t v : List Int} (hT : IsTak n t) (hV : IsTak n v) {w : Word} (hk : w.kind = 1 ∨ w.kind = 2 ∨ w.kind = 3 ∨ w.kind = 4) (hg : 0 ≤ w.guest ∧ w.guest < n) (ho : 0 ≤ w.other ∧ w.other < n) (hl : ∀ x ∈ w.among, 0 ≤ x ∧ x < n) :
  soB (renW w v n) (renT t v) = soB w t := by
 have e1 := Qdq hT hV hg
 have e2 := Qdq hT hV ho
 have t1 := (Qbp hT hg).2
 have t2 := (Qbp hT ho).2
 have hi : ∀ x y : Int, 0 ≤ x ∧ x < n → 0 ≤ y ∧ y < n → (atN v x = atN v y ↔ x = y) := fun x y hx hy => ⟨fun e => Qft hV hx hy e, fun e => by rw [e]⟩
 have hm := Ql3 hV hl t1
 rcases hk with k | k | k | k
 ·simp [soB, renW, k, e1, hm]
 ·simp [soB, renW, k, e1, hm]
 ·simp [soB, renW, k, e1, e2, hi _ _ t1 ho, hi _ _ t2 hg]
 ·simp [soB, renW, k, e1, e2, hi _ _ t1 hg, hi _ _ t2 ho]
def renS (s : Stand) (v : List Int) : Stand := ⟨s.guests, s.words.map fun w => renW w v s.guests.toNat, s.wrong⟩
theorem Qma {g : Int} {w : Word} (h : Qbe g w = true) : w.kind = 1 ∨ w.kind = 2 ∨ w.kind = 3 ∨ w.kind = 4 := by
 unfold Qbe Qfn at h
 simp only [Za] at h
 obtain ⟨_, h2, _⟩ := h
 split at h2
 ·rename_i k; rcases k with k | k
  ·exact .inl k
  ·exact .inr (.inl k)
 ·split at h2
  ·rename_i k; rcases k with k | k
   ·exact .inr (.inr (.inl k))
   ·exact .inr (.inr (.inr k))
  ·cases h2
theorem Qhg {g : Int} {w : Word} (h : Qbe g w = true) : ∀ x ∈ w.among, 0 ≤ x ∧ x ≤ g - 1 := by
 unfold Qbe Qd7 at h
 simp only [Za, Zk] at h
 intro x hx
 obtain ⟨i, hi⟩ := Zp hx
 have h1 := h.1 i (Zc.2 (Qan hi))
 rw [hi, Qq] at h1
 have h2 := h1.1
 simpa [Qao, Qaz] using h2
theorem Qm7 {s : Stand} {t v : List Int} (hS : OkS s) (hT : IsTak s.guests t) (hV : IsTak s.guests v) : Qci (renS s v) (renT t v) = Qci s t := by
 have hg := hS.guests
 have e : ((s.guests.toNat : Nat) : Int) = s.guests := by omega
 have hT' : IsTak (s.guests.toNat : Nat) t := by rw [e]; exact hT
 have hV' : IsTak (s.guests.toNat : Nat) v := by rw [e]; exact hV
 have key : ∀ w ∈ s.words, soB (renW w v s.guests.toNat) (renT t v) = soB w t := fun w hw => by
  have h1 := hS.word w hw
  have h2 := Qkl h1 (hS.short w hw)
  exact Qx8 hT' hV' (Qma h1) ⟨h2.guest.1, h2.guest.2⟩ ⟨h2.other.1, h2.other.2⟩ fun x hx => by have := Qhg h1 x hx; omega
 have hw : Qc6 (renS s v).words (renT t v) = Qc6 s.words t := by
  unfold Qc6 renS
  rw [List.countP_map]
  refine List.countP_congr fun w hw => ?_
  simp only [Function.comp, key w hw]
 have e2 : (renS s v).wrong = s.wrong := rfl
 unfold Qci
 rw [hw, e2]
theorem Qrs {s : Stand} {v u : List Int} (hS : OkS s) (hV : IsTak s.guests v) : u ∈ Qaa (renS s v) ↔ ∃ t ∈ Qaa s, u = renT t v := by
 have hg := hS.guests
 have e : ((s.guests.toNat : Nat) : Int) = s.guests := by omega
 have hV' : IsTak (s.guests.toNat : Nat) v := by rw [e]; exact hV
 rw [Qcd]
 have eg : (renS s v).guests = s.guests := rfl
 rw [eg]
 constructor
 ·rintro ⟨h1, h2⟩
  have h1' : IsTak (s.guests.toNat : Nat) u := by rw [e]; exact h1
  have hb := Qqo h1' hV'
  have hR := Qi4 h1' (Qsk hV')
  refine ⟨_, Qcd.2 ⟨by rw [← e]; exact hR, ?_⟩, hb.symm⟩
  rw [← Qm7 hS (by rw [← e]; exact hR) hV, hb]
  exact h2
 ·rintro ⟨t, ht, rfl⟩
  obtain ⟨h1, h2⟩ := Qcd.1 ht
  have h1' : IsTak (s.guests.toNat : Nat) t := by rw [e]; exact h1
  refine ⟨by rw [← e]; exact Qi4 h1' hV', ?_⟩
  rw [Qm7 hS h1 hV]; exact h2
end Go.C10
set_option maxRecDepth 8000
namespace Go.C10
open Go.Fam Go.Proofs
end Go.C10
set_option linter.unusedSimpArgs false
set_option linter.unusedVariables false
namespace Go.C10
open Go.Fam Go.Proofs
variable {Γ : Gam}
theorem Qnx {s : Stand} (h : Qdz s = true) : OkS s ∧ s.guests ≤ 4 ∧ Qaw s = 0 ∧ Qaq s ∧ Qh5 s = false := by
 unfold Qdz at h
 rw [Za, decide_eq_true_eq, Zy] at h
 obtain ⟨h1, h2⟩ := h
 have hs := (Qgv (Qi0 (Qnb h1))).1
 refine ⟨Qdj h2 hs, ?_, h2, hs, h1⟩
 unfold Qh5 at h1
 rw [Zm, h2] at h1
 simpa using h1.2
theorem Qgi {s : Stand} (hc : Qaw s = 0) : Qbr s [] = if Qaa s = [] then ([], 3) else (Qaa s, 0) := by
 unfold Qbr
 rw [if_neg (by simpa using hc)]
 simp
theorem Qha {s : Stand} (hc : Qaw s = 0) (ht : Qaa s = []) : Qbu s = (0, 0, 3) := by
 unfold Qbu
 rw [Qgi hc, if_pos ht]
 rfl
theorem Qfg {s : Stand} (hc : Qaw s = 0) (ht : Qaa s ≠ []) : Qbu s = ((Qc5 (Qaa s) : Int), (askN (Qc5 (Qaa s)) (Qaa s)).getD (-1), 0) := by
 unfold Qbu
 rw [Qgi hc, if_neg ht]
 rfl
theorem Qp0 (s : Stand)  : HN10 16 [.ag (Qa4 s)] = (Qaq s, ((fun r => .tp [.i r.1, .i r.2])) (Qdn s)) := h16 s
theorem Qt3 (s : Stand)  : HN10 35 [.ag (Qa4 s)] = (True, .b (farB s)) := h35 s
theorem Qp1 (s : Stand)  : HN10 36 [.ag (Qa4 s)] = (Qaq s, .i (Qaw s)) := h36 s
theorem Qp2 (s : Stand) (g : Int)  : HN10 37 [.ag (Qa4 s), .i g] = (Qaq s, ((fun r => .tp [.sl 1 (r.1.map eI), .i r.2])) (canR s g)) := h37 s g
theorem Qt4 (l : List Int) (n : Int)  : HN10 38 [.sl 1 (l.map eI), .i n] = (l.length ≤ 1000000, .b (decide (n ∈ l))) := h38 l n
theorem Qt5 (s : Stand)  : HN10 42 [.ag (Qa4 s)] = (Qaq s, ((fun r => .tp [.sl 1 (r.1.map eI), .i r.2])) (Qdv s)) := h42 s
end Go.C10
set_option maxRecDepth 8000
namespace Go.C10
open Go.Fam Go.Proofs
def rc30 : RC := (.seq (.reg false [(cX 1 0), ⟨(some 2), none, [], none, .w (.alc [(.i 0), (.z 4), (.i 0)])⟩]) (.keep [1,2] (.seq (.reg false [(cLd 5 1 true 3), ⟨(some 3), none, [], none, .w (.alc [(.i 0), (.z 4), (.i 0)])⟩, ⟨none, none, [3,5], none, .w (.st 3 (.t 3) (.t 5))⟩]) (.keep [1,2,3] (.seq (.reg false [⟨(some 6), none, [], none, .w (.bso 4 0 [(.i 0), (.i 0), (.i 0), (.z 1)] [])⟩, (cFa 7 1 1), (cLd 8 7 false 1), ⟨(some 9), none, [6,8], none, .w (.app 4 (.t 6) (.t 8))⟩, (cFa 10 3 1), ⟨none, none, [10,9], none, .w (.st 1 (.t 10) (.t 9))⟩]) (.keep [1,2,3] (.seq (.seq (.reg false [(cI 4 0)]) (.keep [1,2,3,4] (.block 0 (.loop [1,2,3,4] (some 3) (.seq (.seq (.reg false [(cMv 11 4), (cFa 12 3 1), (cLd 13 12 false 1), (cLn 14 13), (cB 15 .lss 11 14)]) (.keep [1,2,3,4,15] (.cond (.t 15) .skip (.exit 0)))) (.keep [1,2,3,4] (.seq (.block 1 (.any false 2 [⟨(cFa 18 3 1), [], []⟩, ⟨(cLd 19 18 false 1), [], [0]⟩, ⟨(cMv 20 4), [], []⟩, ⟨⟨(some 21), none, [], (some 0), .w (.bso 1 0 [(.i 0)] [])⟩, [0,1,2], []⟩, ⟨(cFa 22 1 1), [3], []⟩, ⟨(cLd 23 22 false 1), [3], [4]⟩, ⟨(cMv 24 4), [3], []⟩, ⟨(cA 25 4 23 24), [3], [5,4,6]⟩, ⟨(cFa 26 25 3), [3], [7,5,4,6]⟩, ⟨(cLd 27 26 false 1), [3], [8,7,5,4,6]⟩, ⟨⟨(some 28), none, [21,27], (some 1), .w (.app 1 (.t 21) (.t 27))⟩, [0,1,2], [3,9,8,7,5,4,6]⟩, ⟨(cA 29 4 19 20), [], [1,0,2,3,4,5,6,7,8,9,10]⟩, ⟨(cFa 30 29 3), [], [11,1,0,2,3,4,5,6,7,8,9,10]⟩, ⟨⟨none, none, [30,28], none, .w (.st 1 (.t 30) (.t 28))⟩, [], [12,11,1,0,2,3,4,5,6,7,8,9,10]⟩])) (.drp 3 (.keep [1,2,3,4] (.reg false [(cMv 16 4), (cC 17 .add 16 1), (cMv 4 17)])))))))))) (.keep [2,3] (.seq (.reg false [(cLd 31 3 true 3), ⟨none, none, [2,31], none, .w (.st 3 (.t 2) (.t 31))⟩]) .ret)))))))))
def pu30 : List Nat := [1]
def rs30 : List RV := [.c 2 true 3]
theorem cc30 : CCx Try.prog Try.f30 pu30 rc30 := by unfold CCx; kernel_rfl
theorem cb30 : CBx Try.f30 := by unfold CBx; kernel_rfl
theorem cs30 : CSx Try.prog Try.f30 rs30 := by unfold CSx; kernel_rfl
theorem cn30 : 1 ≤ Try.f30.ntmps := by decide
end Go.C10
set_option linter.unusedSimpArgs false
set_option linter.unusedVariables false
namespace Go.C10
open Go.Fam Go.Proofs
variable {Γ : Gam}
def Qrq (s : Stand) (t : List Int) : Bool := decide ((t.length : Int) = s.guests) && (takB t && Qci s t)
def e40 (a : Stand × List Int) : List V := [.ag (Qa4 a.1), .sl 1 (a.2.map eI)]
def d40 : List V → Stand × List Int | [.ag x0, .sl _ x1] => (Qb2 x0, x1.map dI) | _ => (Qb2 [], [])
noncomputable def HQ1 : Gam := HN10.ext 40 (fnG e40 d40 (fun a => (fun (s : Stand) (t : List Int) => OkS s) a.1 a.2) (fun a => (fun (s : Stand) (t : List Int) => Qrq s t) a.1 a.2) .b)
theorem Qrr {s : Stand} {n : Nat} {x : Int} : x ∈ Qcn s n ↔ ∃ i : Nat, i < n ∧ x = i ∧ ∃ w, s.words[i]? = some w ∧ ∀ t ∈ Qaa s, soB w t = false := by
 unfold Qcn
 rw [Zw]
 constructor
 ·rintro ⟨i, hi, rfl⟩
  rw [Zj, Zc] at hi
  obtain ⟨h1, h2⟩ := hi
  cases hw : s.words[i]? with
  | none => rw [hw] at h2; cases h2
  | some w =>
   rw [hw] at h2
   simp only [Zy, Zt] at h2
   exact ⟨i, h1, rfl, w, hw, fun t ht => by simpa using h2 t ht⟩
 ·rintro ⟨i, h1, rfl, w, hw, h2⟩
  refine ⟨i, ?_, rfl⟩
  rw [Zj, Zc, hw]
  refine ⟨h1, ?_⟩
  simp only [Zy, Zt]
  intro t ht
  simp [h2 t ht]
end Go.C10
set_option linter.unusedSimpArgs false
set_option linter.unusedVariables false
namespace Go.C10
open Go.Fam Go.Proofs
variable {Γ : Gam}
end Go.C10
set_option linter.unusedSimpArgs false
set_option linter.unusedVariables false
namespace Go.C10
open Go.Fam Go.Proofs
variable {Γ : Gam}
def e64n (s : Stand) : List V := [.ag (Qa4 s), .sl 1 []]
def d64n : List V → Stand | [.ag s, _] => Qb2 s | _ => Qb2 []
noncomputable def HR1 : Gam := HQ1.ext 64 (fnG e64n d64n OkS Qaa (fun l => .sl 1 (l.map eCan)))
def Qq3 (s : Stand) (g : Int) : List (List Int) × Int :=
 if Qaw s ≠ 0 then ([], Qaw s) else if g ≠ -1000000 ∧ Qao s.guests g = false then ([], 1) else if Qaa s = [] then ([], 3) else (Qaa s, 0)
def e60 (a : Stand × Int) : List V := [.ag (Qa4 a.1), .i a.2]
def d60 : List V → Stand × Int | [.ag x0, .i x1] => (Qb2 x0, x1) | _ => (Qb2 [], 0)
theorem Qy5 (a : Stand × Int) : d60 (e60 a) = a := by simp [d60, e60, Qbc]
noncomputable def HR2 : Gam := HR1.ext 60 (fnG e60 d60 (fun a => (fun (s : Stand) (g : Int) => Qaq s) a.1 a.2) (fun a => (fun (s : Stand) (g : Int) => Qq3 s g) a.1 a.2) (fun r => .tp [.sl 1 (r.1.map eCan), .i r.2]))
theorem h60 (s : Stand) (g : Int) : HR2 60 [.ag (Qa4 s), .i g] = (Qaq s, ((fun r => .tp [.sl 1 (r.1.map eCan), .i r.2])) (Qq3 s g)) :=
 (show HR2 60 _ = fnG e60 d60 (fun a => (fun (s : Stand) (g : Int) => Qaq s) a.1 a.2) (fun a => (fun (s : Stand) (g : Int) => Qq3 s g) a.1 a.2) (fun r => .tp [.sl 1 (r.1.map eCan), .i r.2]) (e60 (s, g)) from rfl).trans (Qb5 _ (Qy5 _))
structure OkL (l : List (List Int)) (g : Int) : Prop where
 len : l.length ≤ 1000000
 gd : 0 ≤ g ∧ g ≤ 1000
 at_ : ∀ t ∈ l, (t.length : Int) = g
theorem OkL.where_ {l : List (List Int)} {g x u : Int} (h : OkL l g) : OkL (Qc7 l x u) g := by
 refine ⟨?_, h.gd, fun t ht => h.at_ t (Zj.1 ht).1⟩
 have := Xf (fun t => decide (atN t x = u)) l
 have := h.len
 unfold Qc7; omega
end Go.C10
set_option linter.unusedSimpArgs false
set_option linter.unusedVariables false
namespace Go.C10
open Go.Fam Go.Proofs
variable {Γ : Gam}
end Go.C10
set_option linter.unusedSimpArgs false
set_option linter.unusedVariables false
namespace Go.C10
open Go.Fam Go.Proofs
variable {Γ : Gam}
end Go.C10
set_option linter.unusedSimpArgs false
set_option linter.unusedVariables false
namespace Go.C10
open Go.Fam Go.Proofs
variable {Γ : Gam}
def okC (s : Stand) : Prop := s.words.length ≤ 1000000 ∧ Qaq s
theorem Qeg : ∀ ws : List Word, Qa5 (ws.map eWord).flatten = false
 | [] => rfl
 | w :: ws => by rw [Qb, Zq, Qbi, Qeg ws]; rfl
theorem Qkc (ws : List Word) : (ws.map eWord).flatten.length = ws.length * 4 := Qi1 (e := eWord) (k := 4) (fun _ => rfl) ws
theorem Qpg (ws : List Word) : Qcj 4 (ws.map eWord).flatten 0 ws.length = ws.map eWord := Qds (e := eWord) (k := 4) (fun _ => rfl) ws
theorem vw_W (hp : List Blk) (n : Nat) (ws : List Word) : (ws.map eWord).map (fun r => r.map (vw hp (n + 1))) = ws.map eWord := Qg4 (e := eWord) hp (n + 1) (fun _ => rfl) ws
theorem Qlg : ∀ (ws : List Word) (i : Nat) (w : Word), ws[i]? = some w → (ws.map eWord).flatten[i * 4 + 3]? = some (.sl 1 (w.among.map eI))
 | [], i, w, h => by cases h
 | a :: ws, 0, w, h => by cases h; rfl
 | a :: ws, i + 1, w, h => by
  rw [Qb, Zq, List.getElem?_append_right (by show 4 ≤ _; omega)]
  rw [show (i + 1) * 4 + 3 - (eWord a).length = i * 4 + 3 from by show (i + 1) * 4 + 3 - 4 = _; omega]
  exact Qlg ws i w (by simpa using h)
theorem Qs6 {α : Type} {l : List α} {k : Nat} {x : α} (h : l[k]? = some x) : l.take k ++ [x] ++ l.drop (k + 1) = l := by
 obtain ⟨hk, rfl⟩ := List.getElem?_eq_some_iff.1 h
 rw [List.append_assoc, List.singleton_append, ← List.drop_eq_getElem_cons hk, Xg]
theorem Qjy (hp : List Blk) (n : Nat) : ∀ (a b : List V), cutL hp n (a ++ b) = cutL hp n a ++ cutL hp n b
 | [], b => rfl
 | v :: a, b => by simp only [Qy, cutL, Qjy hp n a b]
theorem Qjm {l : List V} (h : Qa5 l = false) (k : Nat) : Qa5 (l.take k) = false ∧ Qa5 (l.drop k) = false := by
 have := h
 rw [← Xg k l, Qbi, Zm] at this
 exact this
theorem Qxa (n : Nat) : ∀ l : List Int, upL n (l.map eI).flatten = (l.map eI).flatten
 | [] => rfl
 | a :: l => by
  have := Qxa n l
  simp only [Qb, Zq, eI, Qy, Q0, upL, upV] at this ⊢
  rw [this]
theorem Qtc {hp : List Blk} {n i : Nat} {ws : List Word} {w : Word} {v : V} (hw : ws[i]? = some w) (hv : cutV hp n v = .sl 1 (w.among.map eI)) :
  cutL hp n ((ws.map eWord).flatten.take (i * 4 + 3) ++ [v] ++ (ws.map eWord).flatten.drop (i * 4 + 3 + 1)) = (ws.map eWord).flatten := by
 have h1 := Qjm (Qeg ws) (i * 4 + 3)
 have h2 := Qjm (Qeg ws) (i * 4 + 3 + 1)
 rw [Qjy, Qjy, Qar _ _ _ h1.1, Qar _ _ _ h2.2]
 have e : cutL hp n [v] = [.sl 1 (w.among.map eI)] := by simp only [cutL, hv]
 rw [e]
 exact Qs6 (Qlg ws i w hw)
end Go.C10
set_option maxRecDepth 8000
namespace Go.C10
open Go.Fam Go.Proofs
end Go.C10
set_option linter.unusedSimpArgs false
set_option linter.unusedVariables false
namespace Go.C10
open Go.Fam Go.Proofs
variable {Γ : Gam}
def Qjx (s : Stand) : List V := [.i s.guests, .rf 2 1 0 s.words.length 4, .i s.wrong]
def Qmg (s : Stand) : List V := [bV (.cells 0 (Qjx s)), bV (.cells 0 (Qjx s)), bV (.cells 1 (s.words.map eWord).flatten)]
theorem W30o (s : Stand) (h : okC s) : Qdl Try.prog 30 [.ag (Qa4 s)] (.ag (Qjx s)) ((Qmg s).map vB) := by
 refine Qkm Qlx hmix Try.func30 cb30 cc30 cs30 cn30 ?_
 obtain ⟨hl, hs⟩ := h
 have hfl : Qax s.words.length := by unfold Qax; omega
 have hfl0 : Qax (0 + s.words.length) := by unfold Qax; omega
 simp only [rc30, rs30, Z1, Q0, hfl, Z6, Qa9, Qa8, Qad, Qa6, putB, Qae, Qa7, Qa2, Fam.step, Qaf, Qcf, Qb6, putB, nv, sv, Qc8, evO, opv, qv, ldV, curG, Qas, putAt, Qb7, Qb4, V.cells, Qav, Qbm, Qab, Qa5, Qa1, Qbn, Qa0, Qa3, ↓reduceIte, Nat.reduceEqDiff, Nat.reduceAdd, Nat.reduceMul, Nat.reduceLeDiff, Qb, Qd, Qr, Qp, Qc, Qe, Qf, Qj, Z9, Ql, Zr, Q1, Qg, Qy, Q0, Qo, Zg, Zn, Zs, Xh, Qw, vw_i, Qam, Qau, zipA, beq_self_eq_true, Qi, Qn, Qm, Qa, true_and, and_self, Qh, Qa4]
 refine Qc2 s.words.length (fun i => ⟨lkp [(1, .pa (Qa4 s)), (2, .ad 0 0 0), (3, .ad 1 0 0), (4, .i i)], [.cells 0 [.i 0, .z 4, .i 0], .cells 0 [.i s.guests, .rf 2 1 0 s.words.length 4, .i s.wrong], .cells 1 (s.words.map eWord).flatten]⟩) ?_ ?_ ?_
 ·simp only [Zd, Qar _ _ _ (Qeg _), cutH, kp, cutV, cutL, cutB, Qa0, Qa3, ↓reduceIte, Nat.reduceEqDiff, Nat.reduceLT, Qb, Qd, Ql, Q1, Qa4]
 ·intro i hi
  obtain ⟨w, hw⟩ : ∃ w, s.words[i]? = some w := ⟨_, Qx hi⟩
  have hlt : (i : Int) < s.words.length := by omega
  have h4 : inI ((i : Int) + 1) := by unfold inI; omega
  have h5 := hs w (Zl hw)
  have f1 : Qax w.among.length := by unfold Qax; omega
  simp only [hw, hlt, h4, f1, Zi, Zf, Z1, Q0, Qag, Qa9, Qbo, Qa8, Qac, Qad, Qa6, Qcb, ↓Qbq, Qba, optL, cutH, Qae, Qaj, Qa7, Qa2, Fam.step, Qaf, Qb6, runX, eff, Qb8, fpR, fpQ, fpV, Qc3, hits, nv, sv, Qc8, evO, opv, qv, binV, ldV, iadV, lenV, curG, Qas, putAt, Qb7, Qb4, V.cells, Qav, Qbm, kp, cutV, cutL, cutB, Qa1, Qbn, Qa0, Qa3, ↓reduceIte, Nat.reduceEqDiff, Nat.reduceAdd, Nat.reduceMul, Nat.reduceLT, Nat.reduceLeDiff, Nat.reduceBEq, Qb, Qd, Qr, Qp, Qc, Qe, Qf, Qj, Ql, Zr, Q1, Qg, Qy, Q0, Zg, Zn, Q5, Qq, Q8, Zs, Xh, Qw, Z3, Q9, List.isEmpty_cons, Qe8, Q3, beq_self_eq_true, Qi, Nat.add_zero, Qn, Qt, Zx, Q7, Zv, Qm, Z8, Qv, Qz, Qa, decide_true, true_and, and_true, and_self, Q2, List.any_cons, Zb, List.contains_cons, Q6, Qh, Q4, Qk, Qu, eWord, Qa4]
  have hm : i * 4 + 3 + 1 ≤ s.words.length * 4 := by omega
  have hv : ∀ (g1 g2 g3 : Nat) (a b c : List V), cutV [.cells g1 a, .cells g2 b, .cells g3 c, .cells 1 (w.among.map eI).flatten, .hole] 3 (.rf 3 1 0 w.among.length 1) = .sl 1 (w.among.map eI) := fun g1 g2 g3 a b c => by
   have := Qfy w.among
   have hu := Qxa 3 w.among
   simp only [Qgj, Nat.mul_one, Z6, this, vw_I, hpF, upB, Ql, Zr, Qf, Qj, hu, cutV, ↓reduceIte, Nat.reduceLT, Qb, Qd, Qf, Qj, Ql, Zr, Qy, Q0, Zg, Zn, Qe8, Qi, and_self]
  simp only [Qkc, hm, true_and]
  rw [Qtc hw (hv _ _ _ _ _ _), Qar _ _ _ (Qeg _)]
 ·have h77 : ¬ ((s.words.length : Int) < s.words.length) := by omega
  simp only [h77, Z6, Qmg, Qjx, Qa9, Qa8, Qac, Qb1, Qah, Qa6, Qek, putB, endO, Qae, Qaj, Qa7, Qa2, Fam.step, Qaf, Qcf, Qb6, putB, nv, sv, evO, opv, qv, binV, ldV, lenV, curG, putAt, V.cells, Qav, Qbm, Qa1, Qbn, Qa0, Qa3, ↓reduceIte, Nat.reduceEqDiff, Nat.reduceAdd, Nat.reduceLeDiff, Qb, Qd, Qr, Qp, Qc, Qe, Qf, Qj, Z9, Ql, Zr, Q1, Qg, Q0, Qo, Zg, Zn, Zs, rvs, rv1, resV, beq_self_eq_true, Qi, Qn, Qa, decide_false, and_self, Qa4]
end Go.C10
set_option linter.unusedSimpArgs false
set_option linter.unusedVariables false
namespace Go.C10
open Go.Fam Go.Proofs
variable {Γ : Gam}
def e30o (s : Stand) : List V := [.ag (Qa4 s)]
def d30o : List V → Stand | [.ag s] => Qb2 s | _ => Qb2 []
theorem Qvo (s : Stand) : d30o (e30o s) = s := by simp [d30o, e30o, Qbc]
noncomputable def HY1 : Gam := HN10.ext 1000030 (fnG e30o d30o okC (fun s => s) fun s => .tp [.ag (Qjx s), .tp (Qmg s)])
theorem Qyu : GOk Try.prog HY1 := by
 exact Qlx.extO (f := 30) (r := fnG e30o d30o okC (fun s => s) fun s => .tp [.ag (Qjx s), .tp (Qmg s)]) (fun a w => Try.call30 a w) fun vs v bs h1 h2 => by
  simp only [fnG, V.tp.injEq, List.cons.injEq, and_true] at h1 h2
  obtain ⟨h3, h4⟩ := h2
  rw [← h1.1, ← h3, ← h4]
  exact W30o _ h1.2
theorem h30o (s : Stand) : HY1 1000030 [.ag (Qa4 s)] = (okC s, .tp [.ag (Qjx s), .tp (Qmg s)]) :=
 (show HY1 1000030 _ = fnG e30o d30o okC (fun s => s) (fun s => .tp [.ag (Qjx s), .tp (Qmg s)]) (e30o s) from rfl).trans (Qb5 _ (Qvo _))
def Qf0 (s : Stand) (w : Word) : Stand := ⟨s.guests, s.words ++ [w], s.wrong⟩
theorem Qov {s : Stand} {w : Word} {t : List Int} (h : Qci (Qf0 s w) t = true) : Qci s t = true := by
 unfold Qci Qc6 Qf0 at h
 unfold Qci Qc6
 simp only [List.countP_append, decide_eq_true_eq] at h ⊢
 omega
theorem Qmy (s : Stand) (w : Word) : Qaa (Qf0 s w) = (Qaa s).filter (Qci (Qf0 s w)) := by
 unfold Qaa Qcg
 rw [List.filter_filter]
 refine Z7 fun t _ => ?_
 cases h : Qci (Qf0 s w) t with
 | false => simp
 | true => rw [Qov h]; rfl
theorem Qfx {s : Stand} (hc : Qaw s = 0) {g : Int} (hg : Qao s.guests g = true) : canR s g = if Qaa s = [] then ([], 3) else (Qc1 (Qaa s) g, 0) := by
 have e : Qbr s [g] = if Qaa s = [] then ([], 3) else (Qaa s, 0) := by
  unfold Qbr
  rw [if_neg (by simpa using hc), if_neg (by simp [hg])]
 unfold canR
 rw [e]
 by_cases ht : Qaa s = []
 ·rw [if_pos ht, if_pos ht]; rfl
 ·rw [if_neg ht, if_neg ht]; rfl
theorem Qei {s : Stand} (hS : OkS s) {g : Int} (hg : Qao s.guests g = true) : Qc1 (Qaa s) g = (ints 0 (s.guests - 1)).filter fun u => (Qaa s).any fun t => decide (atN t g = u) := by
 refine Qj4 fun t ht => ?_
 have hgs := hS.guests
 simp only [Qao, Qaz, Za, decide_eq_true_eq] at hg
 have hT := (Qcd.1 ht).1
 have e : ((s.guests.toNat : Nat) : Int) = s.guests := by omega
 have := (Qbp (n := s.guests.toNat) (by rw [e]; exact hT) (x := g) (by omega)).2
 omega
theorem Qvg (s : Stand) (g : Int)  : HY1 37 [.ag (Qa4 s), .i g] = (Qaq s, ((fun r => .tp [.sl 1 (r.1.map eI), .i r.2])) (canR s g)) := h37 s g
theorem h15V : HY1 15 [] = (True, .b true) := (show HY1 15 [] = HN10 15 [] from rfl).trans h15
theorem Qr9 (n : Nat) : ∀ a b : List V, upL n (a ++ b) = upL n a ++ upL n b
 | [], b => rfl
 | v :: a, b => by simp only [Qy, upL, Qr9 n a b]
theorem Qui (n : Nat) : ∀ ws : List Word, upL n (ws.map eWord).flatten = (ws.map eWord).flatten
 | [] => rfl
 | w :: ws => by
  rw [Qb, Zq, Qr9, Qui n ws]
  have : upL n (eWord w) = eWord w := by simp [eWord, upL, upV]
  rw [this]
end Go.C10
set_option linter.unusedSimpArgs false
set_option linter.unusedVariables false
namespace Go.C10
open Go.Fam Go.Proofs
structure Ren (n : Nat) (v : List Int) (l l' : List (List Int)) : Prop where
 tk : IsTak n v
 a : Taks n l
 b : Taks n l'
 m : ∀ u, u ∈ l' ↔ ∃ t ∈ l, u = renT t v
theorem Ren.perm {n : Nat} {v : List Int} {l l' : List (List Int)} (h : Ren n v l l') : l'.Perm (l.map fun t => renT t v) := by
 refine (List.perm_ext_iff_of_nodup h.b.nd ?_).2 fun u => ?_
 ·rw [Zh, Zz]
  refine Xa.imp_of_mem ?_ (Zh.1 h.a.nd)
  intro a b ha hb hab e
  exact hab (Qs2 (h.a.tak a ha) (h.a.tak b hb) h.tk e)
 ·rw [h.m, Zw]
  constructor
  ·rintro ⟨t, ht, e⟩; exact ⟨t, ht, e.symm⟩
  ·rintro ⟨t, ht, e⟩; exact ⟨t, ht, e.symm⟩
theorem Ren.len {n : Nat} {v : List Int} {l l' : List (List Int)} (h : Ren n v l l') : l'.length = l.length := by
 rw [h.perm.length_eq, Qh]
theorem Ren.nil {n : Nat} {v : List Int} {l l' : List (List Int)} (h : Ren n v l l') : l' = [] ↔ l = [] := by
 have := h.len
 rw [← Xb, ← Xb]; omega
theorem Ren.at {n : Nat} {v : List Int} {l l' : List (List Int)} (h : Ren n v l l') {t : List Int} (ht : t ∈ l) {g : Int} (hg : 0 ≤ g ∧ g < n) : atN (renT t v) (atN v g) = atN v (atN t g) := Qdq (h.a.tak t ht) h.tk hg
theorem Ren.where_ {n : Nat} {v : List Int} {l l' : List (List Int)} (h : Ren n v l l') {g u : Int} (hg : 0 ≤ g ∧ g < n) (hu : 0 ≤ u ∧ u < n) : Ren n v (Qc7 l g u) (Qc7 l' (atN v g) (atN v u)) := by
 refine ⟨h.tk, h.a.where_ _ _, h.b.where_ _ _, fun x => ?_⟩
 rw [Qdc, h.m]
 constructor
 ·rintro ⟨⟨t, ht, rfl⟩, e⟩
  rw [h.at ht hg] at e
  exact ⟨t, Qdc.2 ⟨ht, Qft h.tk (Qbp (h.a.tak t ht) hg).2 hu e⟩, rfl⟩
 ·rintro ⟨t, ht, rfl⟩
  obtain ⟨h1, h2⟩ := Qdc.1 ht
  exact ⟨⟨t, h1, rfl⟩, by rw [h.at h1 hg, h2]⟩
theorem Ren.multi {n : Nat} {v : List Int} {l l' : List (List Int)} (h : Ren n v l l') (hne : l ≠ []) {g : Int} (hg : 0 ≤ g ∧ g < n) : Qde l' (atN v g) = Qde l g := by
 have hne' : l' ≠ [] := fun e => hne (h.nil.1 e)
 rw [Zo, Qgm hne, Qgm hne']
 constructor
 ·rintro ⟨u, hu, u', hu', e⟩
  obtain ⟨t, ht, rfl⟩ := (h.m u).1 hu
  obtain ⟨t', ht', rfl⟩ := (h.m u').1 hu'
  rw [h.at ht hg, h.at ht' hg] at e
  exact ⟨t, ht, t', ht', fun e2 => e (by rw [e2])⟩
 ·rintro ⟨t, ht, t', ht', e⟩
  refine ⟨_, (h.m _).2 ⟨t, ht, rfl⟩, _, (h.m _).2 ⟨t', ht', rfl⟩, fun e2 => e ?_⟩
  rw [h.at ht hg, h.at ht' hg] at e2
  exact Qft h.tk (Qbp (h.a.tak t ht) hg).2 (Qbp (h.a.tak t' ht') hg).2 e2
theorem Ren.can : ∀ (q : Nat) {n : Nat} {v : List Int} {l l' : List (List Int)} (h : Ren n v l l'), canB q l' = canB q l
 | 0, n, v, l, l', h => by rw [Zo, Qhx, Qhx, h.len]
 | q + 1, n, v, l, l', h => by
  by_cases h1 : l.length = 1
  ·rw [Qer h1, Qer (by rw [h.len]; exact h1)]
  have h1' : ¬ l'.length = 1 := by rw [h.len]; exact h1
  by_cases hne : l = []
  ·rw [hne, h.nil.2 hne]
  have hne' : l' ≠ [] := fun e => hne (h.nil.1 e)
  rw [Qhw h1, Qhw h1', h.a.head hne, h.b.head hne', Zo, Ze, Ze]
  have key : ∀ g : Int, 0 ≤ g ∧ g < n → ((l'.all fun t => canB q (Qc7 l' (atN v g) (atN t (atN v g)))) = l.all fun t => canB q (Qc7 l g (atN t g))) := fun g hg => by
   rw [Zo, Zk, Zk]
   constructor
   ·intro hh t ht
    have h2 := hh _ ((h.m _).2 ⟨t, ht, rfl⟩)
    rw [h.at ht hg] at h2
    rw [← Ren.can q (h.where_ hg (Qbp (h.a.tak t ht) hg).2)]; exact h2
   ·intro hh u hu
    obtain ⟨t, ht, rfl⟩ := (h.m u).1 hu
    rw [h.at ht hg, Ren.can q (h.where_ hg (Qbp (h.a.tak t ht) hg).2)]
    exact hh t ht
  constructor
  ·rintro ⟨y, hy, e⟩
   rw [Qch] at hy
   obtain ⟨g, hg, rfl⟩ := Qj2 h.tk (y := y) (by omega)
   rw [h.multi hne hg, key g hg] at e
   exact ⟨g, Qch.2 (by omega), e⟩
  ·rintro ⟨g, hg, e⟩
   rw [Qch] at hg
   have hg' : 0 ≤ g ∧ g < n := by omega
   have h3 := (Qbp h.tk hg').2
   refine ⟨atN v g, Qch.2 (by omega), ?_⟩
   rw [h.multi hne hg', key g hg']; exact e
theorem Ren.least {n : Nat} {v : List Int} {l l' : List (List Int)} (h : Ren n v l l') : Qc5 l' = Qc5 l := by
 unfold Qc5
 congr 1
 funext q
 rw [h.can q]
theorem Qp8 {g : Int} {l : List Int} (hp : l.Pairwise (· < ·)) (hin : ∀ x ∈ l, Qao g x = true) : Qd7 g l = true := by
 unfold Qd7
 rw [Zk]
 intro i hi
 rw [Zc] at hi
 rw [Qx hi, Qq, hin _ (List.getElem_mem hi), Zx, Xj, decide_eq_true_eq, decide_eq_true_eq]
 by_cases h0 : i = 0
 ·exact .inl h0
 ·right
  rw [Qx (by omega), Qq]
  exact Z4.1 hp _ _ _ _ (by omega)
theorem Qme {g : Int} {l : List Int} (h : Qd7 g l = true) : l.Nodup := by
 have h1 : ∀ i, i + 1 < l.length → l[i]?.getD 0 < l[i + 1]?.getD 0 := fun i hi => by
  unfold Qd7 at h
  rw [Zk] at h
  have := h (i + 1) (Zc.2 hi)
  simp only [Za, Xj, decide_eq_true_eq] at this
  rcases this.2 with h | h
  ·omega
  ·simpa using h
 have h2 : ∀ (d i : Nat), i + d + 1 < l.length → l[i]?.getD 0 < l[i + d + 1]?.getD 0 := by
  intro d
  induction d with
  | zero => intro i hi; exact h1 i hi
  | succ d ih => intro i hi; exact Int.lt_trans (ih i (by omega)) (h1 (i + d + 1) (by omega))
 rw [Zh, Z4]
 intro i j hi hj hij e
 have := h2 (j - i - 1) i (by omega)
 rw [show i + (j - i - 1) + 1 = j by omega, Qx hi, Qx hj, Qq, Qq, e] at this
 omega
theorem Qkq (l v : List Int) (n : Nat) : renN l v (n + 1) = renN l v n ++ (l.filter fun x => decide (atN v x = (n : Int))).map fun _ => (n : Int) := by
 unfold renN
 rw [Xk, List.flatMap_append, List.flatMap_cons, List.flatMap_nil, Qo]
theorem Qmt (l v : List Int) : ∀ n : Nat, (renN l v n).length = (l.filter fun x => decide (0 ≤ atN v x ∧ atN v x < (n : Int))).length
 | 0 => by
  rw [show renN l v 0 = [] from rfl, List.filter_eq_nil_iff.2 (fun x _ => by simp)]
 | n + 1 => by
  rw [Qkq, List.length_append, Qmt l v n, Qh]
  clear Qmt
  induction l with
  | nil => rfl
  | cons x l ih =>
   simp only [List.filter_cons, decide_eq_true_eq]
   by_cases h1 : 0 ≤ atN v x ∧ atN v x < (n : Int)
   ·rw [if_pos h1, if_neg (by omega), if_pos (by omega)]; simp only [Qc]; omega
   ·by_cases h2 : atN v x = (n : Int)
    ·rw [if_neg h1, if_pos h2, if_pos (by omega)]; simp only [Qc]; omega
    ·rw [if_neg h1, if_neg h2, if_neg (by omega)]; exact ih
theorem Qny (l v : List Int) (n : Nat) : (renN l v n).length ≤ l.length := by rw [Qmt]; exact Xf _ _
theorem Qhb {n : Nat} {l v : List Int} (hV : IsTak n v) (hl : ∀ x ∈ l, 0 ≤ x ∧ x < n) (hd : l.Nodup) : ∀ m : Nat, m ≤ n → renN l v m = ((Z0 m).map fun (k : Nat) => (k : Int)).filter fun u => l.any fun x => decide (atN v x = u)
 | 0, _ => rfl
 | m + 1, hm => by
  rw [Qkq, Qhb hV hl hd m (by omega), Xk, List.map_append, List.filter_append]
  congr 1
  obtain ⟨x, hx, e⟩ := Qj2 hV (y := (m : Int)) (by omega)
  have h1 : (l.filter fun y => decide (atN v y = (m : Int))) = l.filter (· == x) := Z7 fun y hy => by
   rw [Zo, decide_eq_true_eq, beq_iff_eq]
   exact ⟨fun e2 => Qft hV (hl y hy) hx (e2.trans e.symm), fun e2 => by rw [e2]; exact e⟩
  rw [h1, List.filter_beq, List.Nodup.count hd]
  have h2 : (l.any fun x => decide (atN v x = (m : Int))) = decide (x ∈ l) := by
   rw [Zo, Ze, decide_eq_true_eq]
   constructor
   ·rintro ⟨y, hy, e2⟩
    rw [decide_eq_true_eq] at e2
    rw [← Qft hV (hl y hy) hx (e2.trans e.symm)]; exact hy
   ·intro h; exact ⟨x, h, by rw [decide_eq_true_eq]; exact e⟩
  by_cases hxl : x ∈ l
  ·simp [hxl, h2]
  ·simp [hxl, h2]
theorem Qu5 {n : Nat} {l v : List Int} (hV : IsTak n v) (hl : ∀ x ∈ l, 0 ≤ x ∧ x < n) (hd : l.Nodup) : (renN l v n).Pairwise (· < ·) := by
 rw [Qhb hV hl hd n (Z6 _)]
 refine Xa.filter _ ?_
 rw [Zz]
 refine Xc.imp ?_
 intro a b h; omega
theorem Qsd {g : Int} {v : List Int} {w : Word} (hg : 0 ≤ g) (hV : IsTak g v) (h : Qbe g w = true) : Qbe g (renW w v g.toNat) = true := by
 have e : ((g.toNat : Nat) : Int) = g := by omega
 have hV' : IsTak (g.toNat : Nat) v := by rw [e]; exact hV
 have hk := Qma h
 have ha := Qhg h
 have hin : ∀ x ∈ w.among, 0 ≤ x ∧ x < (g.toNat : Nat) := fun x hx => by have := ha x hx; omega
 unfold Qbe Qfn at h ⊢
 simp only [Za] at h ⊢
 obtain ⟨h1, h2, h3⟩ := h
 have gB : ∀ x, Qao g x = true ↔ 0 ≤ x ∧ x < (g.toNat : Nat) := fun x => by simp only [Qao, Qaz, Za, decide_eq_true_eq]; omega
 have hgw := (gB _).1 h3
 refine ⟨Qp8 (Qu5 hV' hin (Qme h1)) fun y hy => ?_, ?_, (gB _).2 (Qbp hV' hgw).2⟩
 ·obtain ⟨x, hx, e1, h4, h5⟩ := Qq9.1 hy
  exact (gB _).2 ⟨h4, h5⟩
 ·by_cases k : w.kind = 3 ∨ w.kind = 4
  ·have k12 : ¬ (w.kind = 1 ∨ w.kind = 2) := by omega
   rw [if_neg k12, if_pos k] at h2
   simp only [Za, decide_eq_true_eq] at h2
   have e1 : (renW w v g.toNat).kind = w.kind := rfl
   have e2 : (renW w v g.toNat).other = atN v w.other := by show (if w.kind = 3 ∨ w.kind = 4 then atN v w.other else 0) = _; rw [if_pos k]
   have e3 : (renW w v g.toNat).guest = atN v w.guest := rfl
   have ho := (gB _).1 h2.2.1
   have hl : (renW w v g.toNat).among.length = 0 := by have := Qny w.among v g.toNat; show (renN w.among v g.toNat).length = 0; omega
   rw [e1, e2, e3, if_neg k12, if_pos k]
   simp only [Za, decide_eq_true_eq]
   exact ⟨by omega, (gB _).2 (Qbp hV' ho).2, fun e4 => h2.2.2 (Qft hV' ho hgw e4)⟩
  ·have k12 : w.kind = 1 ∨ w.kind = 2 := by omega
   rw [if_pos k12] at h2
   simp only [Za, decide_eq_true_eq] at h2
   have e1 : (renW w v g.toNat).kind = w.kind := rfl
   have e2 : (renW w v g.toNat).other = 0 := by show (if w.kind = 3 ∨ w.kind = 4 then atN v w.other else 0) = _; rw [if_neg k]
   rw [e1, e2, if_pos k12]
   simp only [Za, decide_eq_true_eq]
   refine ⟨?_, trivial⟩
   have hpos : ∃ x, x ∈ w.among := by
    cases hl : w.among with
    | nil => rw [hl] at h2; simp at h2
    | cons a l => exact ⟨a, by simp⟩
   obtain ⟨x, hx⟩ := hpos
   have hm := (Ql3 hV' hin (hin x hx)).2 hx
   have := List.length_pos_iff.2 (List.ne_nil_of_mem hm)
   show 0 < (renN w.among v g.toNat).length
   omega
theorem Qr3 {s : Stand} {v : List Int} (h : Qaq s) : Qaq (renS s v) := by
 intro w hw
 obtain ⟨w', hw', rfl⟩ := Zw.1 hw
 exact Nat.le_trans (Qny w'.among v _) (h w' hw')
theorem Qpf {s : Stand} {v : List Int} (hc : Qaw s = 0) (hsh : Qaq s) (hV : IsTak s.guests v) : Qaw (renS s v) = 0 := by
 have hS := Qdj hc hsh
 have hgs := hS.guests
 have hw := hS.wrong
 have k1 : Qaz (renS s v).guests 0 7 = true := by unfold Qaz; simp only [Za, decide_eq_true_eq]; exact hgs
 have k2 : Qaz (renS s v).wrong 0 7 = true := by unfold Qaz; simp only [Za, decide_eq_true_eq]; exact hw
 have k3 : ((renS s v).words.any fun w => !Qbe (renS s v).guests w) = false := by
  rw [Zt]
  intro w hw
  obtain ⟨w', hw', rfl⟩ := Zw.1 hw
  have e2 : (renS s v).guests = s.guests := rfl
  rw [e2, Qsd hgs.1 hV (hS.word w' hw')]; simp
 unfold Qaw
 simp [k1, k2, k3]
 show (s.words.map _).length ≤ 20
 rw [Qh]; exact hS.words
theorem Qjq {s : Stand} {v : List Int} (hS : OkS s) (hO : OkS (renS s v)) (hV : IsTak s.guests v) : Ren s.guests.toNat v (Qaa s) (Qaa (renS s v)) := by
 have hg := hS.guests
 have e : ((s.guests.toNat : Nat) : Int) = s.guests := by omega
 exact ⟨by rw [e]; exact hV, Qc9 hS, Qc9 hO, fun u => Qrs hS hV⟩
theorem Qsa {s : Stand} {v : List Int} (hS : OkS s) (hO : OkS (renS s v)) (hV : IsTak s.guests v) {g : Int} (hg : 0 ≤ g ∧ g < s.guests) :
  Qc1 (Qaa (renS s v)) (atN v g) = renN (Qc1 (Qaa s) g) v s.guests.toNat := by
 have hgs := hS.guests
 have e : ((s.guests.toNat : Nat) : Int) = s.guests := by omega
 have hR := Qjq hS hO hV
 have hg' : 0 ≤ g ∧ g < (s.guests.toNat : Nat) := by omega
 have gB : ∀ x : Int, 0 ≤ x ∧ x < (s.guests.toNat : Nat) → Qao s.guests x = true := fun x hx => by simp only [Qao, Qaz, Za, decide_eq_true_eq]; omega
 have hvg := (Qbp hR.tk hg').2
 have eg : (renS s v).guests = s.guests := rfl
 rw [Qei hO (by rw [eg]; exact gB _ hvg), Qei hS (gB _ hg'), eg]
 rw [Qhb hR.tk (fun x hx => by rw [Zj, Qch] at hx; omega) ?_ _ (Z6 _)]
 ·have e1 : (Z0 s.guests.toNat).map (fun (k : Nat) => (k : Int)) = ints 0 (s.guests - 1) := by
   unfold ints
   rw [show (s.guests - 1 + 1 - 0).toNat = s.guests.toNat by omega]
   exact List.map_congr_left fun k _ => by omega
  rw [e1]
  refine Z7 fun u hu => ?_
  rw [Qch] at hu
  rw [Zo, Ze, Ze]
  constructor
  ·rintro ⟨t', ht', h⟩
   obtain ⟨t, ht, rfl⟩ := (hR.m t').1 ht'
   rw [decide_eq_true_eq, hR.at ht hg'] at h
   have h6 := (Qbp (hR.a.tak t ht) hg').2
   refine ⟨atN t g, ?_, by rw [decide_eq_true_eq]; exact h⟩
   rw [Zj, Qch, Ze]
   exact ⟨by omega, t, ht, by rw [decide_eq_true_eq]⟩
  ·rintro ⟨x, hx, h⟩
   rw [Zj, Ze] at hx
   obtain ⟨_, t, ht, h7⟩ := hx
   rw [decide_eq_true_eq] at h h7
   exact ⟨_, (hR.m _).2 ⟨t, ht, rfl⟩, by rw [decide_eq_true_eq, hR.at ht hg', h7]; exact h⟩
 ·refine List.Nodup.sublist List.filter_sublist ?_
  unfold ints
  rw [Zh, Zz]
  refine (Zh.1 List.nodup_range).imp ?_
  intro a b hab e; exact hab (by omega)
end Go.C10
set_option maxRecDepth 8000
namespace Go.C10
open Go.Fam Go.Proofs
def rc39 : RC := (.seq (.reg false [(cQ 4 [] (.mv (.k (.z 1))))]) (.keep [0,1] (.seq (.reg false [(cQ 5 [] (.mv (.k (.z 1))))]) (.keep [0,1,5] (.seq (.seq (.reg false [(cI 6 0)]) (.keep [0,1,5,6] (.block 0 (.own 5 1 (.loop [0,1,5,6] none (.seq (.seq (.reg false [(cMv 8 6), (cMv 9 1), (cLn 10 9), (cB 11 .lss 8 10)]) (.keep [0,1,5,6,11] (.cond (.t 11) .skip (.exit 0)))) (.keep [0,1,5,6] (.seq (.block 1 (.seq (.reg false [(cI 7 0)]) (.keep [0,1,5,6,7] (.block 2 (.loop [0,1,5,6,7] none (.seq (.seq (.reg false [(cMv 14 7), (cMv 15 0), (cLn 16 15), (cB 17 .lss 14 16)]) (.keep [0,1,5,6,7,17] (.cond (.t 17) .skip (.exit 2)))) (.keep [0,1,5,6,7] (.seq (.block 3 (.seq (.reg false [(cMv 20 1), (cMv 21 0), (cMv 22 7), (cA 23 1 21 22), (cLd 24 23 false 1), (cA 25 1 20 24), (cLd 26 25 false 1), (cMv 27 6), (cB 28 .eql 26 27)]) (.keep [0,1,5,6,7,28] (.cond (.t 28) (.reg false [(cMv 29 5), (cMv 30 6), (cQ 31 [30] (.bsl 1 1 [(.i 0)] [(0,1, (.t 30))])), ⟨(some 32), none, [29,31], none, .w (.app 1 (.t 29) (.t 31))⟩, (cMv 5 32)]) .skip)))) (.keep [0,1,5,6,7] (.reg false [(cMv 18 7), (cC 19 .add 18 1), (cMv 7 19)])))))))))) (.keep [0,1,5,6] (.reg false [(cMv 12 6), (cC 13 .add 12 1), (cMv 6 13)])))))))))) (.keep [5] (.seq (.reg false [(cMv 33 5), (cMv 4 33)]) .ret)))))))
def pu39 : List Nat := [31]
def rs39 : List RV := [.t 4]
theorem cc39 : CCx Try.prog Try.f39 pu39 rc39 := by unfold CCx; kernel_rfl
theorem cb39 : CBx Try.f39 := by unfold CBx; kernel_rfl
theorem cs39 : CSx Try.prog Try.f39 rs39 := by unfold CSx; kernel_rfl
theorem cn39 : 2 ≤ Try.f39.ntmps := by decide
def rc9 : RC := (.seq (.reg false [(cX 3 0), (cQ 6 [] (.mv (kB false)))]) (.keep [1,2,3] (.seq (.seq (.reg true [(cLd 24 3 true 3), (cQ 25 [24] (.call (kF 14) [(.t 24)])), (cN 26 25), (cMv 27 26), (gMv 28 27 false 1), (gQ 29 27 false [28] (.len (.t 28))), (gQ 30 27 false [3] (.fad 0 (.t 3))), (gQ 31 27 false [30] (.ld false 1 (.t 30))), (gQ 32 27 false [29,31] (.bin .neq (.t 29) (.t 31))), (cQ 33 [27,32] (.pick (.t 27) (kB true) (.t 32))), (cMv 34 33), (gMv 35 34 false 1), (gQ 36 34 false [35] (.call (kF 18) [(.t 35)])), (gQ 37 34 false [36] (.not (.t 36))), (cQ 38 [34,37] (.pick (.t 34) (kB true) (.t 37))), (cMv 39 38), (gMv 40 39 false 2), (gQ 41 39 false [40] (.bin .lss (.t 40) (kI 0))), (cQ 42 [39,41] (.pick (.t 39) (kB true) (.t 41))), (cMv 43 42), (gMv 44 43 false 2), (gQ 45 43 false [3] (.fad 0 (.t 3))), (gQ 46 43 false [45] (.ld false 1 (.t 45))), (gQ 47 43 false [44,46] (.bin .geq (.t 44) (.t 46))), (cQ 48 [43,47] (.pick (.t 43) (kB true) (.t 47)))]) (.keep [1,2,3,48] (.cond (.t 48) (.seq (.reg false [(cQ 49 [] (.call (kF 15) [])), (cMv 6 49)]) .ret) .skip))) (.keep [1,2,3] (.seq (.reg false [(cFa 50 3 0), (cLd 51 50 false 1), (cFa 52 3 2), (cLd 53 52 false 1), (cQ 54 [51,53] (.bld [(.i 0), (.z 4), (.i 0)] [(0,1, (.t 51)), (2,1, (.t 53))])), ⟨(some 7), none, [], none, .w (.alc [(.i 0), (.z 4), (.i 0)])⟩, ⟨none, none, [7,54], none, .w (.st 3 (.t 7) (.t 54))⟩]) (.keep [1,2,3,7] (.seq (.seq (.reg false [(cI 8 0)]) (.keep [1,2,3,7,8] (.block 0 (.ownc 7 1 4 (.loop [1,2,3,7,8] (some 2) (.seq (.seq (.reg false [(cMv 55 8), (cFa 56 3 1), (cLd 57 56 false 1), (cLn 58 57), (cB 59 .lss 55 58)]) (.keep [1,2,3,7,8,59] (.cond (.t 59) .skip (.exit 0)))) (.keep [1,2,3,7,8] (.seq (.block 1 (.seq (.reg false [(cFa 62 3 1), (cLd 63 62 false 1), (cMv 64 8), (cA 65 4 63 64), (cLd 66 65 true 4), ⟨(some 9), none, [], none, .w (.alc [(.i 0), (.i 0), (.i 0), (.z 1)])⟩, ⟨none, none, [9,66], none, .w (.st 4 (.t 9) (.t 66))⟩]) (.keep [1,2,3,7,8,9] (.seq (.any false 1 [⟨(cFa 67 9 0), [], []⟩, ⟨(cLd 68 67 false 1), [], [0]⟩, ⟨(cMv 69 1), [], []⟩, ⟨(cFa 70 9 1), [], []⟩, ⟨(cLd 71 70 false 1), [], [3]⟩, ⟨(cA 72 1 69 71), [], [2,4,3]⟩, ⟨(cLd 73 72 false 1), [], [5,2,4,3]⟩, ⟨(cFa 74 9 3), [], []⟩, ⟨(cLd 75 74 false 1), [], [7]⟩, ⟨(cMv 76 1), [], []⟩, ⟨(cQ 77 [75,76] (.call (kF 39) [(.t 75), (.t 76)])), [], [8,7,9]⟩, ⟨(cQ 78 [68,73,77] (.bld [(.i 0), (.i 0), (.i 0), (.z 1)] [(0,1, (.t 68)), (1,1, (.t 73)), (3,1, (.t 77))])), [], [1,0,6,5,2,4,3,10,8,7,9]⟩, ⟨⟨(some 10), none, [], (some 0), .w (.alc [(.i 0), (.i 0), (.i 0), (.z 1)])⟩, [0,1,2,3,4,5,6,7,8,9,10,11], []⟩, ⟨⟨none, none, [10,78], none, .w (.st 4 (.t 10) (.t 78))⟩, [], [12,11,1,0,6,5,2,4,3,10,8,7,9]⟩]) (.keep [1,2,3,7,8,9,10] (.seq (.seq (.reg true [(cFa 79 9 0), (cLd 80 79 false 1), (cC 81 .eql 80 3), (cMv 82 81), (gQ 83 82 false [9] (.fad 0 (.t 9))), (gQ 84 82 false [83] (.ld false 1 (.t 83))), (gQ 85 82 false [84] (.bin .eql (.t 84) (kI 4))), (cQ 86 [82,85] (.pick (.t 82) (kB true) (.t 85)))]) (.keep [1,2,3,7,8,9,10,86] (.cond (.t 86) (.reg false [(cMv 87 1), (cFa 88 9 2), (cLd 89 88 false 1), (cA 90 1 87 89), (cLd 91 90 false 1), (cFa 92 10 2), ⟨none, none, [92,91], none, .w (.st 1 (.t 92) (.t 91))⟩]) .skip))) (.keep [1,2,3,7,8,10] (.reg false [(cFa 93 7 1), (cLd 94 93 false 1), (cLd 95 10 true 4), (cQ 96 [95] (.bsl 4 1 [(.i 0), (.i 0), (.i 0), (.z 1)] [(0,4, (.t 95))])), ⟨(some 97), none, [94,96], none, .w (.app 4 (.t 94) (.t 96))⟩, (cFa 98 7 1), ⟨none, none, [98,97], none, .w (.st 1 (.t 98) (.t 97))⟩])))))))) (.drp 2 (.keep [1,2,3,7,8] (.reg false [(cMv 60 8), (cC 61 .add 60 1), (cMv 8 61)]))))))))))) (.keep [1,2,3,7] (.seq (.drp 0 (.reg false [(cLd 100 3 true 3), (cQ 101 [100] (.call (kF 16) [(.t 100)])), (cMv 99 101), (cEx 102 99 0), (cEx 103 99 1), (cMv 11 102), (cMv 12 103)])) (.keep [1,2,3,7,11,12] (.seq (.reg false [(cLd 105 7 true 3), (cQ 106 [105] (.call (kF 16) [(.t 105)])), (cMv 104 106), (cEx 107 104 0), (cEx 108 104 1), (cMv 13 107), (cMv 14 108)]) (.keep [1,2,3,7,11,12,13,14] (.seq (.reg false [(cLd 110 3 true 3), (cQ 111 [110] (.call (kF 17) [(.t 110)])), (cMv 109 111), (cEx 112 109 0), (cEx 113 109 1), (cMv 15 112), (cMv 16 113)]) (.keep [1,2,3,7,11,12,13,14,15,16] (.seq (.reg false [(cLd 115 7 true 3), (cQ 116 [115] (.call (kF 17) [(.t 115)])), (cMv 114 116), (cEx 117 114 0), (cEx 118 114 1), (cMv 17 117), (cMv 18 118)]) (.keep [1,2,3,7,11,12,13,14,15,16,17,18] (.seq (.reg false [(cLd 120 3 true 3), (cMv 121 2), (cQ 122 [120,121] (.call (kF 37) [(.t 120), (.t 121)])), (cMv 119 122), (cEx 123 119 0), (cEx 124 119 1), (cMv 19 123), (cMv 20 124)]) (.keep [1,2,3,7,11,12,13,14,15,16,17,18,19,20] (.seq (.any false 0 [⟨(cLd 126 7 true 3), [], []⟩, ⟨(cMv 127 1), [], []⟩, ⟨(cMv 128 2), [], []⟩, ⟨(cA 129 1 127 128), [], [1,2]⟩, ⟨(cLd 130 129 false 1), [], [3,1,2]⟩, ⟨(cQ 131 [126,130] (.call (kF 37) [(.t 126), (.t 130)])), [], [0,4,3,1,2]⟩, ⟨(cMv 125 131), [], [5,0,4,3,1,2]⟩, ⟨(cEx 132 125 0), [], [6,5,0,4,3,1,2]⟩, ⟨(cEx 133 125 1), [], [6,5,0,4,3,1,2]⟩, ⟨(cMv 21 132), [], [7,6,5,0,4,3,1,2]⟩, ⟨(cMv 22 133), [], [8,6,5,0,4,3,1,2,9,7]⟩]) (.keep [1,3,11,12,13,14,15,16,17,18,19,20,21,22] (.seq (.seq (.reg true [(cMv 134 12), (cMv 135 14), (cB 136 .neq 134 135), (cMv 137 136), (gMv 138 137 false 11), (gMv 139 137 false 13), (gQ 140 137 false [138,139] (.bin .neq (.t 138) (.t 139))), (cQ 141 [137,140] (.pick (.t 137) (kB true) (.t 140))), (cMv 142 141), (gMv 143 142 false 15), (gMv 144 142 false 17), (gQ 145 142 false [143,144] (.bin .neq (.t 143) (.t 144))), (cQ 146 [142,145] (.pick (.t 142) (kB true) (.t 145))), (cMv 147 146), (gMv 148 147 false 16), (gMv 149 147 false 18), (gQ 150 147 false [148,149] (.bin .neq (.t 148) (.t 149))), (cQ 151 [147,150] (.pick (.t 147) (kB true) (.t 150))), (cMv 152 151), (gMv 153 152 false 20), (gMv 154 152 false 22), (gQ 155 152 false [153,154] (.bin .neq (.t 153) (.t 154))), (cQ 156 [152,155] (.pick (.t 152) (kB true) (.t 155))), (cMv 157 156), (gMv 158 157 false 19), (gQ 159 157 false [158] (.len (.t 158))), (gQ 160 157 false [3] (.fad 0 (.t 3))), (gQ 161 157 false [160] (.ld false 1 (.t 160))), (gQ 162 157 false [159,161] (.bin .gtr (.t 159) (.t 161))), (cQ 163 [157,162] (.pick (.t 157) (kB true) (.t 162)))]) (.keep [1,3,19,21,163] (.cond (.t 163) (.seq (.reg false [(cQ 6 [] (.mv (kB false)))]) .ret) .skip))) (.keep [1,3,19,21] (.seq (.seq (.reg false [(cI 23 0)]) (.keep [1,3,19,21,23] (.block 2 (.loop [1,3,19,21,23] none (.seq (.seq (.reg false [(cMv 164 23), (cMv 165 19), (cLn 166 165), (cB 167 .lss 164 166)]) (.keep [1,3,19,21,23,167] (.cond (.t 167) .skip (.exit 2)))) (.keep [1,3,19,21,23] (.seq (.block 3 (.seq (.any true 0 [⟨(cMv 170 19), [], []⟩, ⟨(cMv 171 23), [], []⟩, ⟨(cA 172 1 170 171), [], [0,1]⟩, ⟨(cLd 173 172 false 1), [], [2,0,1]⟩, ⟨(cC 174 .lss 173 0), [], [3,2,0,1]⟩, ⟨(cMv 175 174), [], [4,3,2,0,1]⟩, ⟨(gMv 176 175 false 19), [], [5,4,3,2,0,1]⟩, ⟨(gMv 177 175 false 23), [], [5,4,3,2,0,1]⟩, ⟨(gQ 178 175 false [176,177] (.iad 1 (.t 176) (.t 177))), [], [6,5,4,3,2,0,1,7]⟩, ⟨(gQ 179 175 false [178] (.ld false 1 (.t 178))), [], [8,6,5,4,3,2,0,1,7]⟩, ⟨(gQ 180 175 false [3] (.fad 0 (.t 3))), [], [5,4,3,2,0,1]⟩, ⟨(gQ 181 175 false [180] (.ld false 1 (.t 180))), [], [10,5,4,3,2,0,1]⟩, ⟨(gQ 182 175 false [179,181] (.bin .geq (.t 179) (.t 181))), [], [9,8,6,5,4,3,2,0,1,7,11,10]⟩, ⟨(cQ 183 [175,182] (.pick (.t 175) (kB true) (.t 182))), [], [5,4,3,2,0,1,12,9,8,6,7,11,10]⟩]) (.keep [1,3,19,21,23,183] (.cond (.t 183) (.seq (.reg false [(cQ 6 [] (.mv (kB false)))]) .ret) .skip)))) (.keep [1,3,19,21,23] (.reg false [(cMv 168 23), (cC 169 .add 168 1), (cMv 23 169)]))))))))) (.keep [1,19,21] (.seq (.reg true [(cMv 184 19), (cMv 185 1), (cQ 186 [184,185] (.call (kF 39) [(.t 184), (.t 185)])), (cMv 187 21), (cQ 188 [186,187] (.call (kF 28) [(.t 186), (.t 187)])), (cMv 189 188), (gQ 190 189 true [] (.call (kF 15) [])), (cQ 191 [189,190] (.pick (.t 189) (.t 190) (kB false))), (cMv 6 191)]) .ret)))))))))))))))))))))))))
def pu9 : List Nat := [3,96]
def rs9 : List RV := [.t 6]
theorem cc9 : CCx Try.prog Try.f9 pu9 rc9 := by unfold CCx; kernel_rfl
theorem cb9 : CBx Try.f9 := by unfold CBx; kernel_rfl
theorem cs9 : CSx Try.prog Try.f9 rs9 := by unfold CSx; kernel_rfl
theorem cn9 : 3 ≤ Try.f9.ntmps := by decide
end Go.C10
