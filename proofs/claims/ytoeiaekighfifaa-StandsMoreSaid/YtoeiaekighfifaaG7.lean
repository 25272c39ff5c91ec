import Derived.Test.YtoeiaekighfifaaG3
import Derived.Test.YtoeiaekighfifaaChecked
import Derived.Test.YtoeiaekighfifaaG6
set_option linter.all false
open List renaming map_cons → Qb, length_cons → Qc, drop_succ_cons → Qd, length_nil → Qe, map_nil → Qf, headD_cons → Qg, length_map → Qh, drop_zero → Qj, take_succ_cons → Qk, append_nil → Ql, getD_eq_getElem?_getD → Qm, all_nil → Qp, all_cons → Qq, take_nil → Qu, replicate_zero → Qw, getElem?_map → Qx, cons_append → Qy, nil_append → Q0, getElem?_eq_getElem → Q4, getElem?_nil → Q6, contains_nil → Q7, isEmpty_nil → Q9, any_nil → Za, getElem?_cons_zero → Zc, getElem?_cons_succ → Ze, mem_of_getElem? → Zg, flatten_cons → Zh, set_cons_zero → Zi, take_zero → Zj, replicate_succ → Zm, flatten_nil → Zn, getElem?_of_mem → Zp, mem_range → Zq, any_eq_true → Zt, drop_nil → Zu, set_cons_succ → Zv, length_filter_le → Zw, eq_nil_of_length_eq_zero → Zx, all_eq_false → Zz, all_eq_true → Z2, mem_filter → Z3, getElem?_eq_none → Z5, take_append_drop → Z6, length_pos_iff → Z7, filter_filter → Z8, any_eq_false → Z9, filter_congr → Xa
open Nat renaming zero_add → Qi, le_refl → Z0
open Bool renaming false_eq_true → Qa, or_false → Qn, and_self → Qo, true_eq_false → Qr, and_true → Qs, not_true → Qt, not_false → Qz, false_and → Q3, and_eq_true → Zk, or_eq_false_iff → Zl, true_and → Zo, and_false → Zs, false_or → Z1, and_eq_false_iff → Z4
open Option renaming getD_some → Qv, map_some → Q1, getD_none → Q8, map_none → Zy, some → Xb
open Int renaming natCast_nonneg → Q2, toNat_natCast → Q5, natCast_zero → Zb, natCast_one → Zd, natCast_add → Zf, toNat_zero → Zr
set_option maxRecDepth 8000
namespace Go.C10
open Go.Fam Go.Proofs
def rc36 : RC := (.seq (.reg false [(cX 1 0), (cI 2 0)]) (.keep [1] (.seq (.seq (.reg true [(cFa 4 1 0), (cLd 5 4 false 1), (cC 6 .lss 5 0), (cMv 7 6), (gQ 8 7 false [1] (.fad 0 (.t 1))), (gQ 9 7 false [8] (.ld false 1 (.t 8))), (gQ 10 7 false [9] (.bin .gtr (.t 9) (kI 7))), (cQ 11 [7,10] (.pick (.t 7) (kB true) (.t 10))), (cMv 12 11), (gQ 13 12 false [1] (.fad 2 (.t 1))), (gQ 14 12 false [13] (.ld false 1 (.t 13))), (gQ 15 12 false [14] (.bin .lss (.t 14) (kI 0))), (cQ 16 [12,15] (.pick (.t 12) (kB true) (.t 15))), (cMv 17 16), (gQ 18 17 false [1] (.fad 2 (.t 1))), (gQ 19 17 false [18] (.ld false 1 (.t 18))), (gQ 20 17 false [19] (.bin .gtr (.t 19) (kI 7))), (cQ 21 [17,20] (.pick (.t 17) (kB true) (.t 20)))]) (.keep [1,21] (.cond (.t 21) (.seq (.reg false [(cI 2 100)]) .ret) .skip))) (.keep [1] (.seq (.seq (.reg false [(cFa 22 1 1), (cLd 23 22 false 1), (cLn 24 23), (cC 25 .gtr 24 20)]) (.keep [1,25] (.cond (.t 25) (.seq (.reg false [(cI 2 101)]) .ret) .skip))) (.keep [1] (.seq (.seq (.reg false [(cI 3 0)]) (.keep [1,3] (.block 0 (.loop [1,3] none (.seq (.seq (.reg false [(cMv 26 3), (cFa 27 1 1), (cLd 28 27 false 1), (cLn 29 28), (cB 30 .lss 26 29)]) (.keep [1,3,30] (.cond (.t 30) .skip (.exit 0)))) (.keep [1,3] (.seq (.block 1 (.seq (.any false 0 [⟨(cLd 33 1 true 3), [], []⟩, ⟨(cFa 34 1 1), [], []⟩, ⟨(cLd 35 34 false 1), [], [1]⟩, ⟨(cMv 36 3), [], []⟩, ⟨(cA 37 4 35 36), [], [2,1,3]⟩, ⟨(cLd 38 37 true 4), [], [4,2,1,3]⟩, ⟨(cQ 39 [33,38] (.call (kF 65) [(.t 33), (.t 38)])), [], [0,5,4,2,1,3]⟩, ⟨(cN 40 39), [], [6,0,5,4,2,1,3]⟩]) (.keep [1,3,40] (.cond (.t 40) (.seq (.reg false [(cI 2 101)]) .ret) .skip)))) (.keep [1,3] (.reg false [(cMv 31 3), (cC 32 .add 31 1), (cMv 3 32)]))))))))) (.keep [] (.seq (.reg false [(cI 2 0)]) .ret)))))))))
def pu36 : List Nat := [1]
def rs36 : List RV := [.t 2]
theorem cc36 : CCx Try.prog Try.f36 pu36 rc36 := by unfold CCx; kernel_rfl
theorem cb36 : CBx Try.f36 := by unfold CBx; kernel_rfl
theorem cs36 : CSx Try.prog Try.f36 rs36 := by unfold CSx; kernel_rfl
theorem cn36 : 1 ≤ Try.f36.ntmps := by decide
def rc65 : RC := (.seq (.reg false [(cX 2 0), (cX 3 1), (cQ 4 [] (.mv (kB false)))]) (.keep [2,3] (.seq (.seq (.reg true [(cLd 6 2 true 3), (cFa 7 3 1), (cLd 8 7 false 1), (cQ 9 [6,8] (.call (kF 62) [(.t 6), (.t 8)])), (cN 10 9), (cMv 11 10), (gQ 12 11 false [2] (.ld true 3 (.t 2))), (gQ 13 11 false [3] (.fad 2 (.t 3))), (gQ 14 11 false [13] (.ld false 1 (.t 13))), (gQ 15 11 false [12,14] (.call (kF 62) [(.t 12), (.t 14)])), (gQ 16 11 false [15] (.not (.t 15))), (cQ 17 [11,16] (.pick (.t 11) (kB true) (.t 16)))]) (.keep [2,3,17] (.cond (.t 17) (.seq (.reg false [(cQ 4 [] (.mv (kB false)))]) .ret) .skip))) (.keep [2,3] (.seq (.seq (.reg true [(cFa 18 3 0), (cLd 19 18 false 1), (cC 20 .eql 19 3), (cMv 21 20), (gQ 22 21 false [3] (.fad 0 (.t 3))), (gQ 23 21 false [22] (.ld false 1 (.t 22))), (gQ 24 21 false [23] (.bin .eql (.t 23) (kI 4))), (cQ 25 [21,24] (.pick (.t 21) (kB true) (.t 24)))]) (.keep [2,3,25] (.cond (.t 25) (.seq (.reg true [(cFa 26 3 3), (cLd 27 26 false 1), (cLn 28 27), (cC 29 .eql 28 0), (cMv 30 29), (gQ 31 30 true [3] (.fad 1 (.t 3))), (gQ 32 30 true [31] (.ld false 1 (.t 31))), (gQ 33 30 true [3] (.fad 2 (.t 3))), (gQ 34 30 true [33] (.ld false 1 (.t 33))), (gQ 35 30 true [32,34] (.bin .neq (.t 32) (.t 34))), (cQ 36 [30,35] (.pick (.t 30) (.t 35) (kB false))), (cMv 4 36)]) .ret) .skip))) (.keep [2,3] (.seq (.seq (.reg true [(cFa 37 3 0), (cLd 38 37 false 1), (cC 39 .neq 38 1), (cMv 40 39), (gQ 41 40 true [3] (.fad 0 (.t 3))), (gQ 42 40 true [41] (.ld false 1 (.t 41))), (gQ 43 40 true [42] (.bin .neq (.t 42) (kI 2))), (cQ 44 [40,43] (.pick (.t 40) (.t 43) (kB false))), (cMv 45 44), (gQ 46 45 false [3] (.fad 3 (.t 3))), (gQ 47 45 false [46] (.ld false 1 (.t 46))), (gQ 48 45 false [47] (.len (.t 47))), (gQ 49 45 false [48] (.bin .eql (.t 48) (kI 0))), (cQ 50 [45,49] (.pick (.t 45) (kB true) (.t 49))), (cMv 51 50), (gQ 52 51 false [3] (.fad 2 (.t 3))), (gQ 53 51 false [52] (.ld false 1 (.t 52))), (gQ 54 51 false [53] (.bin .neq (.t 53) (kI 0))), (cQ 55 [51,54] (.pick (.t 51) (kB true) (.t 54)))]) (.keep [2,3,55] (.cond (.t 55) (.seq (.reg false [(cQ 4 [] (.mv (kB false)))]) .ret) .skip))) (.keep [2,3] (.seq (.seq (.reg false [(cI 5 0)]) (.keep [2,3,5] (.block 0 (.loop [2,3,5] none (.seq (.seq (.reg false [(cMv 56 5), (cFa 57 3 3), (cLd 58 57 false 1), (cLn 59 58), (cB 60 .lss 56 59)]) (.keep [2,3,5,60] (.cond (.t 60) .skip (.exit 0)))) (.keep [2,3,5] (.seq (.block 1 (.seq (.any true 0 [⟨(cLd 63 2 true 3), [], []⟩, ⟨(cFa 64 3 3), [], []⟩, ⟨(cLd 65 64 false 1), [], [1]⟩, ⟨(cMv 66 5), [], []⟩, ⟨(cA 67 1 65 66), [], [2,1,3]⟩, ⟨(cLd 68 67 false 1), [], [4,2,1,3]⟩, ⟨(cQ 69 [63,68] (.call (kF 62) [(.t 63), (.t 68)])), [], [0,5,4,2,1,3]⟩, ⟨(cN 70 69), [], [6,0,5,4,2,1,3]⟩, ⟨(cMv 71 70), [], [7,6,0,5,4,2,1,3]⟩, ⟨(gMv 72 71 false 5), [], [8,7,6,0,5,4,2,1,3]⟩, ⟨(gQ 73 71 false [72] (.bin .gtr (.t 72) (kI 0))), [], [9,8,7,6,0,5,4,2,1,3]⟩, ⟨(gMv 74 71 false 73), [], [10,9,8,7,6,0,5,4,2,1,3]⟩, ⟨(gQ 75 74 true [3] (.fad 3 (.t 3))), [], [11,10,9,8,7,6,0,5,4,2,1,3]⟩, ⟨(gQ 76 74 true [75] (.ld false 1 (.t 75))), [], [12,11,10,9,8,7,6,0,5,4,2,1,3]⟩, ⟨(gMv 77 74 true 5), [], [11,10,9,8,7,6,0,5,4,2,1,3]⟩, ⟨(gQ 78 74 true [76,77] (.iad 1 (.t 76) (.t 77))), [], [13,12,11,10,9,8,7,6,0,5,4,2,1,3,14]⟩, ⟨(gQ 79 74 true [78] (.ld false 1 (.t 78))), [], [15,13,12,11,10,9,8,7,6,0,5,4,2,1,3,14]⟩, ⟨(gQ 80 74 true [3] (.fad 3 (.t 3))), [], [11,10,9,8,7,6,0,5,4,2,1,3]⟩, ⟨(gQ 81 74 true [80] (.ld false 1 (.t 80))), [], [17,11,10,9,8,7,6,0,5,4,2,1,3]⟩, ⟨(gMv 82 74 true 5), [], [11,10,9,8,7,6,0,5,4,2,1,3]⟩, ⟨(gQ 83 74 true [82] (.bin .sub (.t 82) (kI 1))), [], [19,11,10,9,8,7,6,0,5,4,2,1,3]⟩, ⟨(gQ 84 74 true [81,83] (.iad 1 (.t 81) (.t 83))), [], [18,17,11,10,9,8,7,6,0,5,4,2,1,3,20,19]⟩, ⟨(gQ 85 74 true [84] (.ld false 1 (.t 84))), [], [21,18,17,11,10,9,8,7,6,0,5,4,2,1,3,20,19]⟩, ⟨(gQ 86 74 true [79,85] (.bin .leq (.t 79) (.t 85))), [], [16,15,13,12,11,10,9,8,7,6,0,5,4,2,1,3,14,22,21,18,17,20,19]⟩, ⟨(gQ 87 71 false [74,86] (.pick (.t 74) (.t 86) (kB false))), [], [11,10,9,8,7,6,0,5,4,2,1,3,23,16,15,13,12,14,22,21,18,17,20,19]⟩, ⟨(cQ 88 [71,87] (.pick (.t 71) (kB true) (.t 87))), [], [8,7,6,0,5,4,2,1,3,24,11,10,9,23,16,15,13,12,14,22,21,18,17,20,19]⟩]) (.keep [2,3,5,88] (.cond (.t 88) (.seq (.reg false [(cQ 4 [] (.mv (kB false)))]) .ret) .skip)))) (.keep [2,3,5] (.reg false [(cMv 61 5), (cC 62 .add 61 1), (cMv 5 62)]))))))))) (.keep [] (.seq (.reg false [(cQ 4 [] (.mv (kB true)))]) .ret)))))))))))
def pu65 : List Nat := [2,3]
def rs65 : List RV := [.t 4]
theorem cc65 : CCx Try.prog Try.f65 pu65 rc65 := by unfold CCx; kernel_rfl
theorem cb65 : CBx Try.f65 := by unfold CBx; kernel_rfl
theorem cs65 : CSx Try.prog Try.f65 rs65 := by unfold CSx; kernel_rfl
theorem cn65 : 2 ≤ Try.f65.ntmps := by decide
def rc62 : RC := (.seq (.reg false [(cX 2 0), (cQ 4 [] (.mv (kB false)))]) (.keep [1,2] (.seq (.reg true [(cMv 5 1), (cC 6 .geq 5 0), (cMv 7 6), (gMv 8 7 true 1), (gQ 9 7 true [2] (.fad 0 (.t 2))), (gQ 10 7 true [9] (.ld false 1 (.t 9))), (gQ 11 7 true [8,10] (.bin .lss (.t 8) (.t 10))), (cQ 12 [7,11] (.pick (.t 7) (.t 11) (kB false))), (cMv 4 12)]) .ret)))
def pu62 : List Nat := [2]
def rs62 : List RV := [.t 4]
theorem cc62 : CCx Try.prog Try.f62 pu62 rc62 := by unfold CCx; kernel_rfl
theorem cb62 : CBx Try.f62 := by unfold CBx; kernel_rfl
theorem cs62 : CSx Try.prog Try.f62 rs62 := by unfold CSx; kernel_rfl
theorem cn62 : 2 ≤ Try.f62.ntmps := by decide
def rc52 : RC := (.seq (.reg false [(cQ 4 [] (.mv (kB false)))]) (.keep [0,1] (.seq (.seq (.reg false [(cI 5 0)]) (.keep [0,1,5] (.block 0 (.loop [0,1,5] none (.seq (.seq (.reg false [(cMv 6 5), (cMv 7 0), (cLn 8 7), (cB 9 .lss 6 8)]) (.keep [0,1,5,9] (.cond (.t 9) .skip (.exit 0)))) (.keep [0,1,5] (.seq (.block 1 (.seq (.reg false [(cMv 12 0), (cMv 13 5), (cA 14 1 12 13), (cLd 15 14 false 1), (cMv 16 1), (cB 17 .eql 15 16)]) (.keep [0,1,5,17] (.cond (.t 17) (.seq (.reg false [(cQ 4 [] (.mv (kB true)))]) .ret) .skip)))) (.keep [0,1,5] (.reg false [(cMv 10 5), (cC 11 .add 10 1), (cMv 5 11)]))))))))) (.keep [] (.seq (.reg false [(cQ 4 [] (.mv (kB false)))]) .ret)))))
def pu52 : List Nat := []
def rs52 : List RV := [.t 4]
theorem cc52 : CCx Try.prog Try.f52 pu52 rc52 := by unfold CCx; kernel_rfl
theorem cb52 : CBx Try.f52 := by unfold CBx; kernel_rfl
theorem cs52 : CSx Try.prog Try.f52 rs52 := by unfold CSx; kernel_rfl
theorem cn52 : 2 ≤ Try.f52.ntmps := by decide
def rc38 : RC := (.seq (.reg false [(cQ 4 [] (.mv (kB false)))]) (.keep [0,1] (.seq (.seq (.reg false [(cI 5 0)]) (.keep [0,1,5] (.block 0 (.loop [0,1,5] none (.seq (.seq (.reg false [(cMv 6 5), (cMv 7 0), (cLn 8 7), (cB 9 .lss 6 8)]) (.keep [0,1,5,9] (.cond (.t 9) .skip (.exit 0)))) (.keep [0,1,5] (.seq (.block 1 (.seq (.reg false [(cMv 12 0), (cMv 13 5), (cA 14 1 12 13), (cLd 15 14 false 1), (cMv 16 1), (cB 17 .eql 15 16)]) (.keep [0,1,5,17] (.cond (.t 17) (.seq (.reg false [(cQ 4 [] (.mv (kB true)))]) .ret) .skip)))) (.keep [0,1,5] (.reg false [(cMv 10 5), (cC 11 .add 10 1), (cMv 5 11)]))))))))) (.keep [] (.seq (.reg false [(cQ 4 [] (.mv (kB false)))]) .ret)))))
def pu38 : List Nat := []
def rs38 : List RV := [.t 4]
theorem cc38 : CCx Try.prog Try.f38 pu38 rc38 := by unfold CCx; kernel_rfl
theorem cb38 : CBx Try.f38 := by unfold CBx; kernel_rfl
theorem cs38 : CSx Try.prog Try.f38 rs38 := by unfold CSx; kernel_rfl
theorem cn38 : 2 ≤ Try.f38.ntmps := by decide
def rc43 : RC := (.seq (.reg false [(cX 2 0), (cQ 4 [] (.mv (kB false)))]) (.keep [1,2] (.seq (.seq (.reg false [(cFa 5 2 0), (cLd 6 5 false 1)]) (.keep [1,2,6] (.block 0 (.seq (.reg false [(cC 8 .eql 6 1), (cMv 7 8)]) (.keep [1,2,6,7] (.cond (.t 7) (.seq (.any false 0 [⟨(cFa 9 2 3), [], []⟩, ⟨(cLd 10 9 false 1), [], [0]⟩, ⟨(cMv 11 1), [], []⟩, ⟨(cFa 12 2 1), [], []⟩, ⟨(cLd 13 12 false 1), [], [3]⟩, ⟨(cA 14 1 11 13), [], [2,4,3]⟩, ⟨(cLd 15 14 false 1), [], [5,2,4,3]⟩, ⟨(cQ 16 [10,15] (.call (kF 52) [(.t 10), (.t 15)])), [], [1,0,6,5,2,4,3]⟩, ⟨(cMv 4 16), [], [7,1,0,6,5,2,4,3]⟩]) .ret) (.seq (.reg false [(cC 18 .eql 6 2), (cMv 17 18)]) (.keep [1,2,6,17] (.cond (.t 17) (.seq (.any false 0 [⟨(cFa 19 2 3), [], []⟩, ⟨(cLd 20 19 false 1), [], [0]⟩, ⟨(cMv 21 1), [], []⟩, ⟨(cFa 22 2 1), [], []⟩, ⟨(cLd 23 22 false 1), [], [3]⟩, ⟨(cA 24 1 21 23), [], [2,4,3]⟩, ⟨(cLd 25 24 false 1), [], [5,2,4,3]⟩, ⟨(cQ 26 [20,25] (.call (kF 52) [(.t 20), (.t 25)])), [], [1,0,6,5,2,4,3]⟩, ⟨(cN 27 26), [], [7,1,0,6,5,2,4,3]⟩, ⟨(cMv 4 27), [], [8,7,1,0,6,5,2,4,3]⟩]) .ret) (.seq (.reg false [(cC 29 .eql 6 3), (cMv 28 29)]) (.keep [1,2,28] (.cond (.t 28) (.seq (.any true 0 [⟨(cMv 30 1), [], []⟩, ⟨(cFa 31 2 1), [], []⟩, ⟨(cLd 32 31 false 1), [], [1]⟩, ⟨(cA 33 1 30 32), [], [0,2,1]⟩, ⟨(cLd 34 33 false 1), [], [3,0,2,1]⟩, ⟨(cFa 35 2 2), [], []⟩, ⟨(cLd 36 35 false 1), [], [5]⟩, ⟨(cB 37 .eql 34 36), [], [4,3,0,2,1,6,5]⟩, ⟨(cMv 38 37), [], [7,4,3,0,2,1,6,5]⟩, ⟨(gMv 39 38 true 1), [], [8,7,4,3,0,2,1,6,5]⟩, ⟨(gQ 40 38 true [2] (.fad 2 (.t 2))), [], [8,7,4,3,0,2,1,6,5]⟩, ⟨(gQ 41 38 true [40] (.ld false 1 (.t 40))), [], [10,8,7,4,3,0,2,1,6,5]⟩, ⟨(gQ 42 38 true [39,41] (.iad 1 (.t 39) (.t 41))), [], [9,8,7,4,3,0,2,1,6,5,11,10]⟩, ⟨(gQ 43 38 true [42] (.ld false 1 (.t 42))), [], [12,9,8,7,4,3,0,2,1,6,5,11,10]⟩, ⟨(gQ 44 38 true [2] (.fad 1 (.t 2))), [], [8,7,4,3,0,2,1,6,5]⟩, ⟨(gQ 45 38 true [44] (.ld false 1 (.t 44))), [], [14,8,7,4,3,0,2,1,6,5]⟩, ⟨(gQ 46 38 true [43,45] (.bin .eql (.t 43) (.t 45))), [], [13,12,9,8,7,4,3,0,2,1,6,5,11,10,15,14]⟩, ⟨(cQ 47 [38,46] (.pick (.t 38) (.t 46) (kB false))), [], [8,7,4,3,0,2,1,6,5,16,13,12,9,11,10,15,14]⟩, ⟨(cMv 4 47), [], [17,8,7,4,3,0,2,1,6,5,16,13,12,9,11,10,15,14]⟩]) .ret) .skip)))))))))))) (.keep [1,2] (.seq (.any true 0 [⟨(cMv 48 1), [], []⟩, ⟨(cFa 49 2 1), [], []⟩, ⟨(cLd 50 49 false 1), [], [1]⟩, ⟨(cA 51 1 48 50), [], [0,2,1]⟩, ⟨(cLd 52 51 false 1), [], [3,0,2,1]⟩, ⟨(cFa 53 2 1), [], []⟩, ⟨(cLd 54 53 false 1), [], [5]⟩, ⟨(cB 55 .eql 52 54), [], [4,3,0,2,1,6,5]⟩, ⟨(cMv 56 55), [], [7,4,3,0,2,1,6,5]⟩, ⟨(gMv 57 56 false 1), [], [8,7,4,3,0,2,1,6,5]⟩, ⟨(gQ 58 56 false [2] (.fad 2 (.t 2))), [], [8,7,4,3,0,2,1,6,5]⟩, ⟨(gQ 59 56 false [58] (.ld false 1 (.t 58))), [], [10,8,7,4,3,0,2,1,6,5]⟩, ⟨(gQ 60 56 false [57,59] (.iad 1 (.t 57) (.t 59))), [], [9,8,7,4,3,0,2,1,6,5,11,10]⟩, ⟨(gQ 61 56 false [60] (.ld false 1 (.t 60))), [], [12,9,8,7,4,3,0,2,1,6,5,11,10]⟩, ⟨(gQ 62 56 false [2] (.fad 2 (.t 2))), [], [8,7,4,3,0,2,1,6,5]⟩, ⟨(gQ 63 56 false [62] (.ld false 1 (.t 62))), [], [14,8,7,4,3,0,2,1,6,5]⟩, ⟨(gQ 64 56 false [61,63] (.bin .eql (.t 61) (.t 63))), [], [13,12,9,8,7,4,3,0,2,1,6,5,11,10,15,14]⟩, ⟨(cQ 65 [56,64] (.pick (.t 56) (kB true) (.t 64))), [], [8,7,4,3,0,2,1,6,5,16,13,12,9,11,10,15,14]⟩, ⟨(cMv 4 65), [], [17,8,7,4,3,0,2,1,6,5,16,13,12,9,11,10,15,14]⟩]) .ret)))))
def pu43 : List Nat := [2]
def rs43 : List RV := [.t 4]
theorem cc43 : CCx Try.prog Try.f43 pu43 rc43 := by unfold CCx; kernel_rfl
theorem cb43 : CBx Try.f43 := by unfold CBx; kernel_rfl
theorem cs43 : CSx Try.prog Try.f43 rs43 := by unfold CSx; kernel_rfl
theorem cn43 : 2 ≤ Try.f43.ntmps := by decide
def rc18 : RC := (.seq (.reg false [(cQ 2 [] (.mv (kB false)))]) (.keep [0] (.seq (.seq (.reg false [(cI 3 0)]) (.keep [0,3] (.block 0 (.loop [0,3] none (.seq (.seq (.reg false [(cMv 4 3), (cMv 5 0), (cLn 6 5), (cB 7 .lss 4 6)]) (.keep [0,3,7] (.cond (.t 7) .skip (.exit 0)))) (.keep [0,3] (.seq (.block 1 (.seq (.any true 0 [⟨(cMv 10 0), [], []⟩, ⟨(cMv 11 3), [], []⟩, ⟨(cA 12 1 10 11), [], [0,1]⟩, ⟨(cLd 13 12 false 1), [], [2,0,1]⟩, ⟨(cC 14 .lss 13 0), [], [3,2,0,1]⟩, ⟨(cMv 15 14), [], [4,3,2,0,1]⟩, ⟨(gMv 16 15 false 0), [], [5,4,3,2,0,1]⟩, ⟨(gMv 17 15 false 3), [], [5,4,3,2,0,1]⟩, ⟨(gQ 18 15 false [16,17] (.iad 1 (.t 16) (.t 17))), [], [6,5,4,3,2,0,1,7]⟩, ⟨(gQ 19 15 false [18] (.ld false 1 (.t 18))), [], [8,6,5,4,3,2,0,1,7]⟩, ⟨(gMv 20 15 false 0), [], [5,4,3,2,0,1]⟩, ⟨(gQ 21 15 false [20] (.len (.t 20))), [], [10,5,4,3,2,0,1]⟩, ⟨(gQ 22 15 false [19,21] (.bin .geq (.t 19) (.t 21))), [], [9,8,6,5,4,3,2,0,1,7,11,10]⟩, ⟨(cQ 23 [15,22] (.pick (.t 15) (kB true) (.t 22))), [], [5,4,3,2,0,1,12,9,8,6,7,11,10]⟩, ⟨(cMv 24 23), [], [13,5,4,3,2,0,1,12,9,8,6,7,11,10]⟩, ⟨(gMv 25 24 false 0), [], [14,13,5,4,3,2,0,1,12,9,8,6,7,11,10]⟩, ⟨(gMv 26 24 false 3), [], [14,13,5,4,3,2,0,1,12,9,8,6,7,11,10]⟩, ⟨(gQ 27 24 false [25,26] (.slc 1 (.t 25) none (some (.t 26)))), [], [15,14,13,5,4,3,2,0,1,12,9,8,6,7,11,10,16]⟩, ⟨(gMv 28 24 false 0), [], [14,13,5,4,3,2,0,1,12,9,8,6,7,11,10]⟩, ⟨(gMv 29 24 false 3), [], [14,13,5,4,3,2,0,1,12,9,8,6,7,11,10]⟩, ⟨(gQ 30 24 false [28,29] (.iad 1 (.t 28) (.t 29))), [], [18,14,13,5,4,3,2,0,1,12,9,8,6,7,11,10,19]⟩, ⟨(gQ 31 24 false [30] (.ld false 1 (.t 30))), [], [20,18,14,13,5,4,3,2,0,1,12,9,8,6,7,11,10,19]⟩, ⟨(gQ 32 24 false [27,31] (.call (kF 52) [(.t 27), (.t 31)])), [], [17,15,14,13,5,4,3,2,0,1,12,9,8,6,7,11,10,16,21,20,18,19]⟩, ⟨(cQ 33 [24,32] (.pick (.t 24) (kB true) (.t 32))), [], [14,13,5,4,3,2,0,1,12,9,8,6,7,11,10,22,17,15,16,21,20,18,19]⟩]) (.keep [0,3,33] (.cond (.t 33) (.seq (.reg false [(cQ 2 [] (.mv (kB false)))]) .ret) .skip)))) (.keep [0,3] (.reg false [(cMv 8 3), (cC 9 .add 8 1), (cMv 3 9)]))))))))) (.keep [0] (.seq (.reg false [(cMv 34 0), (cLn 35 34), (cC 36 .leq 35 7), (cMv 2 36)]) .ret)))))
def pu18 : List Nat := []
def rs18 : List RV := [.t 2]
theorem cc18 : CCx Try.prog Try.f18 pu18 rc18 := by unfold CCx; kernel_rfl
theorem cb18 : CBx Try.f18 := by unfold CBx; kernel_rfl
theorem cs18 : CSx Try.prog Try.f18 rs18 := by unfold CSx; kernel_rfl
theorem cn18 : 1 ≤ Try.f18.ntmps := by decide
def rc35 : RC := (.seq (.reg false [(cX 1 0), (cQ 2 [] (.mv (kB false)))]) (.keep [1] (.seq (.seq (.reg false [(cFa 4 1 1), (cLd 5 4 false 1), (cLn 6 5), (cC 7 .gtr 6 60)]) (.keep [1,7] (.cond (.t 7) (.seq (.reg false [(cQ 2 [] (.mv (kB true)))]) .ret) .skip))) (.keep [1] (.seq (.seq (.reg false [(cI 3 0)]) (.keep [1,3] (.block 0 (.loop [1,3] none (.seq (.seq (.reg false [(cMv 8 3), (cFa 9 1 1), (cLd 10 9 false 1), (cLn 11 10), (cB 12 .lss 8 11)]) (.keep [1,3,12] (.cond (.t 12) .skip (.exit 0)))) (.keep [1,3] (.seq (.block 1 (.seq (.reg false [(cFa 15 1 1), (cLd 16 15 false 1), (cMv 17 3), (cA 18 4 16 17), (cFa 19 18 3), (cLd 20 19 false 1), (cLn 21 20), (cC 22 .gtr 21 60)]) (.keep [1,3,22] (.cond (.t 22) (.seq (.reg false [(cQ 2 [] (.mv (kB true)))]) .ret) .skip)))) (.keep [1,3] (.reg false [(cMv 13 3), (cC 14 .add 13 1), (cMv 3 14)]))))))))) (.keep [1] (.seq (.reg true [(cLd 23 1 true 3), (cQ 24 [23] (.call (kF 36) [(.t 23)])), (cC 25 .eql 24 0), (cMv 26 25), (gQ 27 26 true [1] (.fad 0 (.t 1))), (gQ 28 26 true [27] (.ld false 1 (.t 27))), (gQ 29 26 true [28] (.bin .gtr (.t 28) (kI 6))), (cQ 30 [26,29] (.pick (.t 26) (.t 29) (kB false))), (cMv 2 30)]) .ret)))))))
def pu35 : List Nat := [1]
def rs35 : List RV := [.t 2]
theorem cc35 : CCx Try.prog Try.f35 pu35 rc35 := by unfold CCx; kernel_rfl
theorem cb35 : CBx Try.f35 := by unfold CBx; kernel_rfl
theorem cs35 : CSx Try.prog Try.f35 rs35 := by unfold CSx; kernel_rfl
theorem cn35 : 1 ≤ Try.f35.ntmps := by decide
def rc29 : RC := (.seq (.reg false [(cX 1 0), (cQ 2 [] (.mv (kB false)))]) (.keep [1] (.seq (.reg true [(cLd 3 1 true 3), (cQ 4 [3] (.call (kF 35) [(.t 3)])), (cMv 5 4), (gQ 6 5 false [1] (.ld true 3 (.t 1))), (gQ 7 5 false [6] (.call (kF 36) [(.t 6)])), (gQ 8 5 false [7] (.bin .eql (.t 7) (kI 0))), (gMv 9 5 false 8), (gQ 10 9 true [1] (.fad 0 (.t 1))), (gQ 11 9 true [10] (.ld false 1 (.t 10))), (gQ 12 9 true [11] (.bin .gtr (.t 11) (kI 4))), (gQ 13 5 false [9,12] (.pick (.t 9) (.t 12) (kB false))), (cQ 14 [5,13] (.pick (.t 5) (kB true) (.t 13))), (cMv 2 14)]) .ret)))
def pu29 : List Nat := [1]
def rs29 : List RV := [.t 2]
theorem cc29 : CCx Try.prog Try.f29 pu29 rc29 := by unfold CCx; kernel_rfl
theorem cb29 : CBx Try.f29 := by unfold CBx; kernel_rfl
theorem cs29 : CSx Try.prog Try.f29 rs29 := by unfold CSx; kernel_rfl
theorem cn29 : 1 ≤ Try.f29.ntmps := by decide
def rc14 : RC := (.seq (.reg false [(cX 1 0), (cQ 2 [] (.mv (kB false)))]) (.keep [1] (.seq (.reg true [(cLd 3 1 true 3), (cQ 4 [3] (.call (kF 29) [(.t 3)])), (cN 5 4), (cMv 6 5), (gQ 7 6 true [1] (.ld true 3 (.t 1))), (gQ 8 6 true [7] (.call (kF 36) [(.t 7)])), (gQ 9 6 true [8] (.bin .eql (.t 8) (kI 0))), (cQ 10 [6,9] (.pick (.t 6) (.t 9) (kB false))), (cMv 2 10)]) .ret)))
def pu14 : List Nat := [1]
def rs14 : List RV := [.t 2]
theorem cc14 : CCx Try.prog Try.f14 pu14 rc14 := by unfold CCx; kernel_rfl
theorem cb14 : CBx Try.f14 := by unfold CBx; kernel_rfl
theorem cs14 : CSx Try.prog Try.f14 rs14 := by unfold CSx; kernel_rfl
theorem cn14 : 1 ≤ Try.f14.ntmps := by decide
def rc49 : RC := (.seq (.reg false [⟨(some 0), none, [], none, .w (.alc [(.i 0), (.z 4), (.i 0)])⟩]) (.keep [0] (.seq (.reg false [(cQ 1 [] (.bsl 1 2 [(.i 0)] [(0,1, (kI 1)), (1,1, (kI 2))])), (cQ 2 [1] (.bld [(.i 0), (.i 0), (.i 0), (.z 1)] [(0,1, (kI 1)), (3,1, (.t 1))])), (cQ 3 [] (.bsl 1 1 [(.i 0)] [(0,1, (kI 3))])), (cQ 4 [3] (.bld [(.i 0), (.i 0), (.i 0), (.z 1)] [(0,1, (kI 2)), (1,1, (kI 3)), (3,1, (.t 3))])), (cQ 5 [] (.bld [(.i 0), (.i 0), (.i 0), (.z 1)] [(0,1, (kI 4)), (1,1, (kI 1)), (2,1, (kI 2))])), (cQ 6 [2,4,5] (.bsl 4 3 [(.i 0), (.i 0), (.i 0), (.z 1)] [(0,4, (.t 2)), (4,4, (.t 4)), (8,4, (.t 5))])), (cQ 7 [6] (.bld [(.i 0), (.z 4), (.i 0)] [(0,1, (kI 4)), (1,1, (.t 6))])), ⟨none, none, [0,7], none, .w (.st 3 (.t 0) (.t 7))⟩]) .ret)))
def pu49 : List Nat := [1,3,6]
def rs49 : List RV := [.c 0 true 3]
theorem cc49 : CCx Try.prog Try.f49 pu49 rc49 := by unfold CCx; kernel_rfl
theorem cb49 : CBx Try.f49 := by unfold CBx; kernel_rfl
theorem cs49 : CSx Try.prog Try.f49 rs49 := by unfold CSx; kernel_rfl
theorem cn49 : 0 ≤ Try.f49.ntmps := by decide
def rc15 : RC := (.seq (.reg false [(cQ 0 [] (.mv (kB false)))]) (.keep [] (.seq (.reg false [(cQ 13 [] (.call (kF 49) [])), ⟨(some 1), none, [], none, .w (.alc [(.i 0), (.z 4), (.i 0)])⟩, ⟨none, none, [1,13], none, .w (.st 3 (.t 1) (.t 13))⟩]) (.keep [1] (.seq (.reg false [(cLd 15 1 true 3), (cQ 16 [15] (.call (kF 16) [(.t 15)])), (cMv 14 16), (cEx 17 14 0), (cEx 18 14 1), (cMv 2 17), (cMv 3 18)]) (.keep [1,2,3] (.seq (.reg false [(cLd 20 1 true 3), (cQ 21 [20] (.call (kF 41) [(.t 20)])), (cMv 19 21), (cEx 22 19 0), (cEx 23 19 1), (cMv 4 22), (cMv 5 23)]) (.keep [1,2,3,4,5] (.seq (.reg false [(cLd 25 1 true 3), (cQ 26 [25] (.call (kF 17) [(.t 25)])), (cMv 24 26), (cEx 27 24 0), (cEx 28 24 1), (cMv 6 27), (cMv 7 28)]) (.keep [2,3,4,5,6,7] (.seq (.reg false [(cQ 30 [] (.bsl 1 4 [(.i 0)] [(0,1, (kI 1)), (1,1, (kI 2)), (2,1, (kI 0)), (3,1, (kI 3))])), (cQ 31 [30] (.call (kF 19) [(.t 30)])), (cMv 29 31), (cEx 32 29 0), (cEx 33 29 1), (cMv 8 32), (cMv 9 33)]) (.keep [2,3,4,5,6,7,8,9] (.seq (.reg false [(cQ 35 [] (.bsl 1 4 [(.i 0)] [(0,1, (kI 1)), (1,1, (kI 2)), (2,1, (kI 0)), (3,1, (kI 3))])), (cQ 36 [35] (.call (kF 24) [(.t 35)])), (cMv 34 36), (cEx 37 34 0), (cEx 38 34 1), (cEx 39 34 2), (cMv 10 37), (cMv 11 38), (cMv 12 39)]) (.keep [2,3,4,5,6,7,8,9,10,11,12] (.seq (.reg true [(cMv 40 3), (cC 41 .eql 40 0), (cMv 42 41), (gMv 43 42 true 5), (gQ 44 42 true [43] (.bin .eql (.t 43) (kI 0))), (cQ 45 [42,44] (.pick (.t 42) (.t 44) (kB false))), (cMv 46 45), (gMv 47 46 true 7), (gQ 48 46 true [47] (.bin .eql (.t 47) (kI 0))), (cQ 49 [46,48] (.pick (.t 46) (.t 48) (kB false))), (cMv 50 49), (gMv 51 50 true 9), (gQ 52 50 true [51] (.bin .eql (.t 51) (kI 0))), (cQ 53 [50,52] (.pick (.t 50) (.t 52) (kB false))), (cMv 54 53), (gMv 55 54 true 12), (gQ 56 54 true [55] (.bin .eql (.t 55) (kI 0))), (cQ 57 [54,56] (.pick (.t 54) (.t 56) (kB false))), (cMv 58 57), (gMv 59 58 true 2), (gQ 60 58 true [59] (.bin .eql (.t 59) (kI 2))), (cQ 61 [58,60] (.pick (.t 58) (.t 60) (kB false))), (cMv 62 61), (gMv 63 62 true 4), (gQ 64 62 true [] (.bsl 1 4 [(.i 0)] [(0,1, (.k (.i (-1)))), (1,1, (.k (.i (-1)))), (2,1, (.k (.i (-1)))), (3,1, (kI 0))])), (gQ 65 62 true [63,64] (.call (kF 28) [(.t 63), (.t 64)])), (cQ 66 [62,65] (.pick (.t 62) (.t 65) (kB false))), (cMv 67 66), (gMv 68 67 true 6), (gQ 69 67 true [68] (.bin .eql (.t 68) (kI 1))), (cQ 70 [67,69] (.pick (.t 67) (.t 69) (kB false))), (cMv 71 70), (gMv 72 71 true 8), (gQ 73 71 true [72] (.bin .eql (.t 72) (kI 2))), (cQ 74 [71,73] (.pick (.t 71) (.t 73) (kB false))), (cMv 75 74), (gMv 76 75 true 10), (gQ 77 75 true [76] (.len (.t 76))), (gMv 78 75 true 11), (gQ 79 75 true [78] (.len (.t 78))), (gQ 80 75 true [77,79] (.bin .add (.t 77) (.t 79))), (gQ 81 75 true [80] (.bin .gtr (.t 80) (kI 0))), (cQ 82 [75,81] (.pick (.t 75) (.t 81) (kB false))), (cMv 0 82)]) .ret)))))))))))))))
def pu15 : List Nat := [30,35,64]
def rs15 : List RV := [.t 0]
theorem cc15 : CCx Try.prog Try.f15 pu15 rc15 := by unfold CCx; kernel_rfl
theorem cb15 : CBx Try.f15 := by unfold CBx; kernel_rfl
theorem cs15 : CSx Try.prog Try.f15 rs15 := by unfold CSx; kernel_rfl
theorem cn15 : 0 ≤ Try.f15.ntmps := by decide
def rc28 : RC := (.seq (.reg false [(cQ 4 [] (.mv (kB false)))]) (.keep [0,1] (.seq (.seq (.reg false [(cMv 6 0), (cLn 7 6), (cMv 8 1), (cLn 9 8), (cB 10 .neq 7 9)]) (.keep [0,1,10] (.cond (.t 10) (.seq (.reg false [(cQ 4 [] (.mv (kB false)))]) .ret) .skip))) (.keep [0,1] (.seq (.seq (.reg false [(cI 5 0)]) (.keep [0,1,5] (.block 0 (.loop [0,1,5] none (.seq (.seq (.reg false [(cMv 11 5), (cMv 12 0), (cLn 13 12), (cB 14 .lss 11 13)]) (.keep [0,1,5,14] (.cond (.t 14) .skip (.exit 0)))) (.keep [0,1,5] (.seq (.block 1 (.seq (.any false 0 [⟨(cMv 17 0), [], []⟩, ⟨(cMv 18 5), [], []⟩, ⟨(cA 19 1 17 18), [], [0,1]⟩, ⟨(cLd 20 19 false 1), [], [2,0,1]⟩, ⟨(cMv 21 1), [], []⟩, ⟨(cMv 22 5), [], []⟩, ⟨(cA 23 1 21 22), [], [4,5]⟩, ⟨(cLd 24 23 false 1), [], [6,4,5]⟩, ⟨(cB 25 .neq 20 24), [], [3,2,0,1,7,6,4,5]⟩]) (.keep [0,1,5,25] (.cond (.t 25) (.seq (.reg false [(cQ 4 [] (.mv (kB false)))]) .ret) .skip)))) (.keep [0,1,5] (.reg false [(cMv 15 5), (cC 16 .add 15 1), (cMv 5 16)]))))))))) (.keep [] (.seq (.reg false [(cQ 4 [] (.mv (kB true)))]) .ret)))))))
def pu28 : List Nat := []
def rs28 : List RV := [.t 4]
theorem cc28 : CCx Try.prog Try.f28 pu28 rc28 := by unfold CCx; kernel_rfl
theorem cb28 : CBx Try.f28 := by unfold CBx; kernel_rfl
theorem cs28 : CSx Try.prog Try.f28 rs28 := by unfold CSx; kernel_rfl
theorem cn28 : 2 ≤ Try.f28.ntmps := by decide
end Go.C10
set_option linter.unusedSimpArgs false
set_option linter.unusedVariables false
namespace Go.C10
open Go.Fam Go.Proofs
variable {Γ : Gam}
theorem W62 (s : Stand) (n : Int) : Qal Try.prog 62 [.ag (Qa7 s), .i n] (.b (Qao s.guests n)) := by
 refine Qak Qqe hmix Try.func62 cb62 cc62 cs62 cn62 ?_
 have e : Qao s.guests n = (decide (0 ≤ n) && decide (n < s.guests)) := by
  unfold Qao Qba
  congr 1
  rw [decide_eq_decide]; omega
 by_cases h : 0 ≤ n <;> simp only [rc62, rs62, h, e, Qa9, Qa8, Qaf, Qa5, Qad, Qa6, Qa2, Fam.step, Qae, Qb1, Qat, ug, evO, opv, qv, Qai, binV, ldV, V.cells, Qaw, Qaa, Qa4, Qa1, Qa0, Qa3, ↓reduceIte, Nat.reduceEqDiff, Nat.reduceAdd, Nat.reduceLeDiff, Qb, Qf, Qq, Qp, Qc, Qe, Qj, Qg, endQ, rvs, rv1, resV, vw_i, vw_b, Qan, Qax, zipA, beq_self_eq_true, Qi, Qo, Qs, Zo, Q3, Qn, Qa, Qr, decide_true, decide_false, and_true, and_self, forall_const, implies_true, reduceCtorEq, beq_true, imp_self, Qa7]
theorem W52 (l : List Int) (n : Int) (h : l.length ≤ 1000000) : Qal Try.prog 52 [.sl 1 (l.map eI), .i n] (.b (decide (n ∈ l))) := by
 refine Qak Qqe hmix Try.func52 cb52 cc52 cs52 cn52 ?_
 simp only [rc52, rs52, Qa9, Qa8, Qac, Qa5, Qad, Qa6, Qa2, Fam.step, Qae, evO, opv, qv, Qa1, Qa0, Qa3, ↓reduceIte, Nat.reduceEqDiff, Qb, Qf, zipA, Qi, true_and, reduceCtorEq]
 refine Qbk l.length (fun i => ⟨lkp [(0, .sl 1 (l.map eI)), (1, .i n), (5, .i i)], []⟩) (fun i => ∀ j : Nat, j < i → ¬ l[j]? = some n) ?_ ?_ ?_ ?_
 ·simp only [Zb, kp, Qa0, Qa3, ↓reduceIte, Nat.reduceEqDiff, Qb, Qf, reduceCtorEq]
 ·intro j hj; omega
 ·intro i hi hc
  obtain ⟨x, hx⟩ : ∃ x, l[i]? = some x := ⟨_, Q4 hi⟩
  have hlt : (i : Int) < l.length := by omega
  have h3 : inI ((i : Int) + 1) := by unfold inI; omega
  by_cases e : x = n
  ·have hm : n ∈ l := by rw [← e]; exact Zg hx
   simp only [hx, hlt, e, hm, Qah, Qa9, Qa8, Qab, Qac, Qaf, Qa5, Qad, Qaj, Qa6, Qa2, Fam.step, Qae, evO, opv, qv, binV, ldV, iadV, lenV, kp, Qa1, Qa0, Qa3, ↓reduceIte, Nat.reduceEqDiff, Nat.reduceLeDiff, Qb, Qf, Qc, Qe, Qg, Qv, endQ, rvs, rv1, resV, vw_b, Q2, Qi, Qa, decide_true, and_self, reduceCtorEq, Q1, Qh, Q5, Qm, Qx, eI]
  ·simp only [hx, hlt, e, h3, Zf, Zd, Qah, Qa9, Qa8, Qab, Qac, Qa5, Qad, Qaj, Qa6, Qa2, Fam.step, Qae, evO, opv, qv, binV, ldV, iadV, lenV, kp, Qa1, Qa0, Qa3, ↓reduceIte, Nat.reduceEqDiff, Nat.reduceLeDiff, Qb, Qf, Qc, Qe, Qg, Qv, Q2, Qi, Qa, decide_true, decide_false, true_and, and_true, and_self, reduceCtorEq, Q1, Qh, Q5, Qm, Qx, eI]
   intro j hj hjx
   by_cases hji : j < i
   ·exact hc j hji hjx
   ·have : j = i := by omega
    subst this
    rw [hx] at hjx
    exact e (Xb.inj hjx)
 ·intro hc
  have hlt : ¬ ((l.length : Int) < l.length) := by omega
  have hm : n ∉ l := fun hm => by
   obtain ⟨j, hj⟩ := Zp hm
   exact hc j (Qam hj) hj
  simp only [hlt, hm, Qa9, Qa8, Qab, Qb0, Qaf, Qa5, Qad, Qaj, Qa6, Qa2, Fam.step, Qae, evO, opv, qv, binV, lenV, Qa1, Qa0, Qa3, ↓reduceIte, Nat.reduceEqDiff, Qb, Qf, endQ, rvs, rv1, resV, vw_b, Qa, decide_false, and_self, reduceCtorEq, Qh]
theorem W38 (l : List Int) (n : Int) (h : l.length ≤ 1000000) : Qal Try.prog 38 [.sl 1 (l.map eI), .i n] (.b (decide (n ∈ l))) := by
 refine Qak Qqe hmix Try.func38 cb38 cc38 cs38 cn38 ?_
 simp only [rc38, rs38, Qa9, Qa8, Qac, Qa5, Qad, Qa6, Qa2, Fam.step, Qae, evO, opv, qv, Qa1, Qa0, Qa3, ↓reduceIte, Nat.reduceEqDiff, Qb, Qf, zipA, Qi, true_and, reduceCtorEq]
 refine Qbk l.length (fun i => ⟨lkp [(0, .sl 1 (l.map eI)), (1, .i n), (5, .i i)], []⟩) (fun i => ∀ j : Nat, j < i → ¬ l[j]? = some n) ?_ ?_ ?_ ?_
 ·simp only [Zb, kp, Qa0, Qa3, ↓reduceIte, Nat.reduceEqDiff, Qb, Qf, reduceCtorEq]
 ·intro j hj; omega
 ·intro i hi hc
  obtain ⟨x, hx⟩ : ∃ x, l[i]? = some x := ⟨_, Q4 hi⟩
  have hlt : (i : Int) < l.length := by omega
  have h3 : inI ((i : Int) + 1) := by unfold inI; omega
  by_cases e : x = n
  ·have hm : n ∈ l := by rw [← e]; exact Zg hx
   simp only [hx, hlt, e, hm, Qah, Qa9, Qa8, Qab, Qac, Qaf, Qa5, Qad, Qaj, Qa6, Qa2, Fam.step, Qae, evO, opv, qv, binV, ldV, iadV, lenV, kp, Qa1, Qa0, Qa3, ↓reduceIte, Nat.reduceEqDiff, Nat.reduceLeDiff, Qb, Qf, Qc, Qe, Qg, Qv, endQ, rvs, rv1, resV, vw_b, Q2, Qi, Qa, decide_true, and_self, reduceCtorEq, Q1, Qh, Q5, Qm, Qx, eI]
  ·simp only [hx, hlt, e, h3, Zf, Zd, Qah, Qa9, Qa8, Qab, Qac, Qa5, Qad, Qaj, Qa6, Qa2, Fam.step, Qae, evO, opv, qv, binV, ldV, iadV, lenV, kp, Qa1, Qa0, Qa3, ↓reduceIte, Nat.reduceEqDiff, Nat.reduceLeDiff, Qb, Qf, Qc, Qe, Qg, Qv, Q2, Qi, Qa, decide_true, decide_false, true_and, and_true, and_self, reduceCtorEq, Q1, Qh, Q5, Qm, Qx, eI]
   intro j hj hjx
   by_cases hji : j < i
   ·exact hc j hji hjx
   ·have : j = i := by omega
    subst this
    rw [hx] at hjx
    exact e (Xb.inj hjx)
 ·intro hc
  have hlt : ¬ ((l.length : Int) < l.length) := by omega
  have hm : n ∉ l := fun hm => by
   obtain ⟨j, hj⟩ := Zp hm
   exact hc j (Qam hj) hj
  simp only [hlt, hm, Qa9, Qa8, Qab, Qb0, Qaf, Qa5, Qad, Qaj, Qa6, Qa2, Fam.step, Qae, evO, opv, qv, binV, lenV, Qa1, Qa0, Qa3, ↓reduceIte, Nat.reduceEqDiff, Qb, Qf, endQ, rvs, rv1, resV, vw_b, Qa, decide_false, and_self, reduceCtorEq, Qh]
def e62 (a : Stand × Int) : List V := [.ag (Qa7 a.1), .i a.2]
def d62 : List V → Stand × Int | [.ag x0, .i x1] => (Qav x0, x1) | _ => (Qav [], 0)
theorem Qw1 (a : Stand × Int) : d62 (e62 a) = a := by simp [d62, e62, Qbe]
noncomputable def HM1 : Gam := HL2.ext 62 (fnG e62 d62 (fun a => (fun (s : Stand) (n : Int) => True) a.1 a.2) (fun a => (fun (s : Stand) (n : Int) => Qao s.guests n) a.1 a.2) .b)
theorem Qwl : GOk Try.prog HM1 := Qqe.ext (f := 62) (fun a w => Try.call62 a w) (Qb4 (e := e62) (d := d62) (ok := (fun a => (fun (s : Stand) (n : Int) => True) a.1 a.2)) (g := (fun a => (fun (s : Stand) (n : Int) => Qao s.guests n) a.1 a.2)) (eb := .b) fun a h => W62 a.1 a.2)
theorem h62 (s : Stand) (n : Int) : HM1 62 [.ag (Qa7 s), .i n] = (True, .b (Qao s.guests n)) :=
 (show HM1 62 _ = fnG e62 d62 (fun a => (fun (s : Stand) (n : Int) => True) a.1 a.2) (fun a => (fun (s : Stand) (n : Int) => Qao s.guests n) a.1 a.2) .b (e62 (s, n)) from rfl).trans (Qb6 _ (Qw1 _))
def e52 (a : List Int × Int) : List V := [.sl 1 (a.1.map eI), .i a.2]
def d52 : List V → List Int × Int | [.sl _ x0, .i x1] => (x0.map dI, x1) | _ => ([], 0)
theorem Qvu (a : List Int × Int) : d52 (e52 a) = a := by simp [d52, e52, Function.comp_def, Qd4]
noncomputable def HM2 : Gam := HM1.ext 52 (fnG e52 d52 (fun a => (fun (l : List Int) (n : Int) => l.length ≤ 1000000) a.1 a.2) (fun a => (fun (l : List Int) (n : Int) => decide (n ∈ l)) a.1 a.2) .b)
theorem Qwm : GOk Try.prog HM2 := Qwl.ext (f := 52) (fun a w => Try.call52 a w) (Qb4 (e := e52) (d := d52) (ok := (fun a => (fun (l : List Int) (n : Int) => l.length ≤ 1000000) a.1 a.2)) (g := (fun a => (fun (l : List Int) (n : Int) => decide (n ∈ l)) a.1 a.2)) (eb := .b) fun a h => W52 a.1 a.2 h)
theorem h52 (l : List Int) (n : Int) : HM2 52 [.sl 1 (l.map eI), .i n] = (l.length ≤ 1000000, .b (decide (n ∈ l))) :=
 (show HM2 52 _ = fnG e52 d52 (fun a => (fun (l : List Int) (n : Int) => l.length ≤ 1000000) a.1 a.2) (fun a => (fun (l : List Int) (n : Int) => decide (n ∈ l)) a.1 a.2) .b (e52 (l, n)) from rfl).trans (Qb6 _ (Qvu _))
def e38 (a : List Int × Int) : List V := [.sl 1 (a.1.map eI), .i a.2]
def d38 : List V → List Int × Int | [.sl _ x0, .i x1] => (x0.map dI, x1) | _ => ([], 0)
theorem Qvp (a : List Int × Int) : d38 (e38 a) = a := by simp [d38, e38, Function.comp_def, Qd4]
noncomputable def HM3 : Gam := HM2.ext 38 (fnG e38 d38 (fun a => (fun (l : List Int) (n : Int) => l.length ≤ 1000000) a.1 a.2) (fun a => (fun (l : List Int) (n : Int) => decide (n ∈ l)) a.1 a.2) .b)
theorem Qus : GOk Try.prog HM3 := Qwm.ext (f := 38) (fun a w => Try.call38 a w) (Qb4 (e := e38) (d := d38) (ok := (fun a => (fun (l : List Int) (n : Int) => l.length ≤ 1000000) a.1 a.2)) (g := (fun a => (fun (l : List Int) (n : Int) => decide (n ∈ l)) a.1 a.2)) (eb := .b) fun a h => W38 a.1 a.2 h)
theorem h38 (l : List Int) (n : Int) : HM3 38 [.sl 1 (l.map eI), .i n] = (l.length ≤ 1000000, .b (decide (n ∈ l))) :=
 (show HM3 38 _ = fnG e38 d38 (fun a => (fun (l : List Int) (n : Int) => l.length ≤ 1000000) a.1 a.2) (fun a => (fun (l : List Int) (n : Int) => decide (n ∈ l)) a.1 a.2) .b (e38 (l, n)) from rfl).trans (Qb6 _ (Qvp _))
theorem Qt6 (s : Stand) (n : Int)  : HM3 62 [.ag (Qa7 s), .i n] = (True, .b (Qao s.guests n)) := h62 s n
theorem Qnj {g : Int} {w : Word} (hg : Qao g w.guest = true) (ho : Qao g w.other = false) : Qgo g w = false := by
 unfold Qgo
 split
 ·by_cases h : w.other = 0
  ·rw [h] at ho
   simp only [Qao, Qba, Zk, decide_eq_true_eq, Z4, decide_eq_false_iff_not] at hg ho
   omega
  ·simp [h]
 ·split
  ·rw [ho]; simp
  ·rfl
set_option maxHeartbeats 4000000 in
theorem W65 (s : Stand) (w : Word) (h : w.among.length ≤ 1000000) : Qal Try.prog 65 [.ag (Qa7 s), .ag (eWord w)] (.b (Qbj s.guests w)) := by
 refine Qak Qus hmix Try.func65 cb65 cc65 cs65 cn65 ?_
 have g1 := fun n => Qt6 s n
 simp only [Qa7] at g1
 by_cases hg : Qao s.guests w.guest = true
 rotate_left
 ·have e : Qbj s.guests w = false := by unfold Qbj; simp [hg]
  simp only [rc65, rs65, g1, hg, e, Qa9, Qa8, Qab, Qaf, Qa5, Qad, Qa6, Qa2, Fam.step, Qae, Qb1, Qat, ug, evO, opv, qv, Qai, ldV, Qap, V.cells, Qaw, Qaa, Qa4, flat, Qa1, Qa0, Qa3, ↓reduceIte, Nat.reduceEqDiff, Nat.reduceAdd, Nat.reduceLT, Nat.reduceLeDiff, Qb, Qf, Qq, Qp, Qc, Qe, Qd, Qj, Qk, Qu, Qg, Ql, endQ, rvs, rv1, resV, vw_i, vw_b, Qan, Qax, zipA, Qi, Qo, Qs, Qn, Qt, Qz, Qa, Qr, and_true, and_self, forall_const, implies_true, reduceCtorEq, beq_false, imp_self, eWord, Qa7]
 by_cases ho : Qao s.guests w.other = true
 rotate_left
 ·have e : Qbj s.guests w = false := by unfold Qbj; rw [Qnj hg (by simpa using ho)]; simp
  simp only [rc65, rs65, g1, hg, ho, e, Qa9, Qa8, Qab, Qaf, Qa5, Qad, Qa6, Qa2, Fam.step, Qae, Qb1, Qat, ug, evO, opv, qv, Qai, ldV, Qap, V.cells, Qaw, Qaa, Qa4, flat, Qa1, Qa0, Qa3, ↓reduceIte, Nat.reduceEqDiff, Nat.reduceAdd, Nat.reduceLT, Nat.reduceLeDiff, Qb, Qf, Qq, Qp, Qc, Qe, Qd, Qj, Qk, Qu, Qg, Ql, endQ, rvs, rv1, resV, vw_i, vw_b, Qan, Qax, zipA, beq_self_eq_true, Qi, Qo, Qn, Qt, Qz, Qa, and_self, forall_const, implies_true, reduceCtorEq, eWord, Qa7]
 by_cases k3 : w.kind = 3 ∨ w.kind = 4
 ·have k12 : ¬ (w.kind = 1 ∨ w.kind = 2) := by omega
  by_cases hl : (w.among.length : Int) = 0
  ·have hl0 : w.among = [] := Zx (by omega)
   have e : Qbj s.guests w = decide (w.other ≠ w.guest) := by unfold Qbj Qgo Qf6; rw [if_neg k12, if_pos k3, hg, ho, hl0]; simp
   by_cases hn : w.guest = w.other
   ·have hn' := hn.symm
    rcases k3 with k3 | k3 <;> simp only [rc65, rs65, g1, ho, k3, hl, hn, e, eq_self, Qah, Qa9, Qa8, Qab, Qaf, Qa5, Qad, Qa6, Qa2, Fam.step, Qae, Qb1, Qat, ug, evO, opv, qv, Qai, binV, ldV, lenV, Qap, V.cells, Qaw, Qaa, Qa4, flat, Qa1, Qa0, Qa3, ↓reduceIte, Nat.reduceEqDiff, Nat.reduceAdd, Nat.reduceLT, Nat.reduceLeDiff, Int.reduceEq, Qb, Qf, Qq, Qp, Qc, Qe, Qd, Qj, Qk, Qu, Qg, Ql, endQ, rvs, rv1, resV, vw_i, vw_b, Qan, Qax, zipA, beq_self_eq_true, Qi, Qo, Qs, Qn, Qt, Qa, Qr, decide_true, decide_false, and_true, and_self, forall_const, implies_true, reduceCtorEq, not_true_eq_false, ne_eq, beq_false, imp_self, Qh, eWord, Qa7]
   ·have hn' : ¬ w.other = w.guest := fun e => hn e.symm
    rcases k3 with k3 | k3 <;> simp only [rc65, rs65, g1, hg, ho, k3, hl, hn, hn', e, Qah, Qa9, Qa8, Qab, Qaf, Qa5, Qad, Qa6, Qa2, Fam.step, Qae, Qb1, Qat, ug, evO, opv, qv, Qai, binV, ldV, lenV, Qap, V.cells, Qaw, Qaa, Qa4, flat, Qa1, Qa0, Qa3, ↓reduceIte, Nat.reduceEqDiff, Nat.reduceAdd, Nat.reduceLT, Nat.reduceLeDiff, Int.reduceEq, Qb, Qf, Qq, Qp, Qc, Qe, Qd, Qj, Qk, Qu, Qg, Ql, endQ, rvs, rv1, resV, vw_i, vw_b, Qan, Qax, zipA, beq_self_eq_true, Qi, Qo, Qs, Qn, Qt, Qz, Qa, Qr, decide_true, decide_false, and_true, and_self, forall_const, implies_true, reduceCtorEq, not_false_eq_true, ne_eq, beq_false, imp_self, Qh, eWord, Qa7]
  ·have e : Qbj s.guests w = false := by
    unfold Qbj Qgo; rw [if_neg k12, if_pos k3]
    have : ¬ w.among.length = 0 := by omega
    simp [this]
   rcases k3 with k3 | k3 <;> simp only [rc65, rs65, g1, hg, ho, k3, hl, e, Qah, Qa9, Qa8, Qab, Qaf, Qa5, Qad, Qa6, Qa2, Fam.step, Qae, Qb1, Qat, ug, evO, opv, qv, Qai, binV, ldV, lenV, Qap, V.cells, Qaw, Qaa, Qa4, flat, Qa1, Qa0, Qa3, ↓reduceIte, Nat.reduceEqDiff, Nat.reduceAdd, Nat.reduceLT, Nat.reduceLeDiff, Int.reduceEq, Qb, Qf, Qq, Qp, Qc, Qe, Qd, Qj, Qk, Qu, Qg, Ql, endQ, rvs, rv1, resV, vw_i, vw_b, Qan, Qax, zipA, beq_self_eq_true, Qi, Qo, Qs, Qn, Qt, Qa, Qr, decide_true, decide_false, and_true, and_self, forall_const, implies_true, reduceCtorEq, beq_true, beq_false, imp_self, Qh, eWord, Qa7]
 have k3' : ¬ w.kind = 3 := by omega
 have k4' : ¬ w.kind = 4 := by omega
 by_cases hbad : (¬ w.kind = 1 ∧ ¬ w.kind = 2) ∨ (w.among.length : Int) = 0 ∨ ¬ w.other = 0
 ·have e : Qbj s.guests w = false := by
   unfold Qbj Qgo
   rw [if_neg k3]
   by_cases k12 : w.kind = 1 ∨ w.kind = 2
   ·rw [if_pos k12]
    rcases hbad with hb | hb | hb
    ·omega
    ·have : ¬ 0 < w.among.length := by omega
     simp [this]
    ·simp [hb]
   ·rw [if_neg k12]; simp
  by_cases k1 : w.kind = 1
  ·by_cases hl : (w.among.length : Int) = 0
   ·simp only [rc65, rs65, g1, hg, ho, k1, hl, e, Qah, Qa9, Qa8, Qab, Qaf, Qa5, Qad, Qa6, Qa2, Fam.step, Qae, Qb1, Qat, ug, evO, opv, qv, Qai, binV, ldV, lenV, Qap, V.cells, Qaw, Qaa, Qa4, flat, Qa1, Qa0, Qa3, ↓reduceIte, Nat.reduceEqDiff, Nat.reduceAdd, Nat.reduceLT, Nat.reduceLeDiff, Int.reduceEq, Qb, Qf, Qq, Qp, Qc, Qe, Qd, Qj, Qk, Qu, Qg, Ql, endQ, rvs, rv1, resV, vw_i, vw_b, Qan, Qax, zipA, beq_self_eq_true, Qi, Qo, Qs, Qn, Qt, Qz, Qa, Qr, decide_true, decide_false, and_true, and_self, forall_const, implies_true, reduceCtorEq, beq_true, beq_false, imp_self, Qh, eWord, Qa7]
   ·have ho0 : ¬ w.other = 0 := by omega
    simp only [rc65, rs65, g1, hg, ho, k1, hl, ho0, e, Qah, Qa9, Qa8, Qab, Qaf, Qa5, Qad, Qa6, Qa2, Fam.step, Qae, Qb1, Qat, ug, evO, opv, qv, Qai, binV, ldV, lenV, Qap, V.cells, Qaw, Qaa, Qa4, flat, Qa1, Qa0, Qa3, ↓reduceIte, Nat.reduceEqDiff, Nat.reduceAdd, Nat.reduceLT, Nat.reduceLeDiff, Int.reduceEq, Qb, Qf, Qq, Qp, Qc, Qe, Qd, Qj, Qk, Qu, Qg, Ql, endQ, rvs, rv1, resV, vw_i, vw_b, Qan, Qax, zipA, beq_self_eq_true, Qi, Qo, Qs, Qn, Qt, Qz, Qa, decide_true, decide_false, and_true, and_self, forall_const, implies_true, reduceCtorEq, beq_true, imp_self, Qh, eWord, Qa7]
  ·by_cases k2 : w.kind = 2
   ·by_cases hl : (w.among.length : Int) = 0
    ·simp only [rc65, rs65, g1, hg, ho, k2, hl, e, Qah, Qa9, Qa8, Qab, Qaf, Qa5, Qad, Qa6, Qa2, Fam.step, Qae, Qb1, Qat, ug, evO, opv, qv, Qai, binV, ldV, lenV, Qap, V.cells, Qaw, Qaa, Qa4, flat, Qa1, Qa0, Qa3, ↓reduceIte, Nat.reduceEqDiff, Nat.reduceAdd, Nat.reduceLT, Nat.reduceLeDiff, Int.reduceEq, Qb, Qf, Qq, Qp, Qc, Qe, Qd, Qj, Qk, Qu, Qg, Ql, endQ, rvs, rv1, resV, vw_i, vw_b, Qan, Qax, zipA, beq_self_eq_true, Qi, Qo, Qs, Qn, Qt, Qz, Qa, Qr, decide_true, decide_false, and_true, and_self, forall_const, implies_true, reduceCtorEq, beq_false, imp_self, Qh, eWord, Qa7]
    ·have ho0 : ¬ w.other = 0 := by omega
     simp only [rc65, rs65, g1, hg, ho, k2, hl, ho0, e, Qah, Qa9, Qa8, Qab, Qaf, Qa5, Qad, Qa6, Qa2, Fam.step, Qae, Qb1, Qat, ug, evO, opv, qv, Qai, binV, ldV, lenV, Qap, V.cells, Qaw, Qaa, Qa4, flat, Qa1, Qa0, Qa3, ↓reduceIte, Nat.reduceEqDiff, Nat.reduceAdd, Nat.reduceLT, Nat.reduceLeDiff, Int.reduceEq, Qb, Qf, Qq, Qp, Qc, Qe, Qd, Qj, Qk, Qu, Qg, Ql, endQ, rvs, rv1, resV, vw_i, vw_b, Qan, Qax, zipA, beq_self_eq_true, Qi, Qo, Qn, Qt, Qz, Qa, Qr, decide_true, decide_false, and_self, forall_const, implies_true, reduceCtorEq, Qh, eWord, Qa7]
   ·simp only [rc65, rs65, g1, hg, ho, k3', k4', k1, k2, e, Qah, Qa9, Qa8, Qab, Qaf, Qa5, Qad, Qa6, Qa2, Fam.step, Qae, Qb1, Qat, ug, evO, opv, qv, Qai, binV, ldV, lenV, Qap, V.cells, Qaw, Qaa, Qa4, flat, Qa1, Qa0, Qa3, ↓reduceIte, Nat.reduceEqDiff, Nat.reduceAdd, Nat.reduceLT, Nat.reduceLeDiff, Qb, Qf, Qq, Qp, Qc, Qe, Qd, Qj, Qk, Qu, Qg, Ql, endQ, rvs, rv1, resV, vw_i, vw_b, Qan, Qax, zipA, beq_self_eq_true, Qi, Qo, Qs, Qn, Qt, Qz, Qa, Qr, decide_false, and_true, and_self, forall_const, implies_true, reduceCtorEq, beq_false, imp_self, Qh, eWord, Qa7]
 ·have hl : ¬ (w.among.length : Int) = 0 := by omega
  have ho0 : w.other = 0 := by omega
  have k12 : w.kind = 1 ∨ w.kind = 2 := by omega
  have ew : Qbj s.guests w = Qf6 s.guests w.among := by
   unfold Qbj Qgo
   have : 0 < w.among.length := by omega
   rw [if_pos k12, hg]; simp [this, ho0]
  have k1or : w.kind = 1 ∨ (¬ w.kind = 1 ∧ w.kind = 2) := by omega
  have ho' := ho
  rw [ho0] at ho'
  rcases k1or with k1 | ⟨k1, k2⟩
  ·simp only [rc65, rs65, g1, hg, k1, hl, ho0, ho', Qah, Qa9, Qa8, Qab, Qac, Qa5, Qad, Qa6, Qa2, Fam.step, Qae, Qb1, Qat, ug, evO, opv, qv, Qai, binV, ldV, lenV, Qap, V.cells, Qaw, Qaa, Qa4, flat, Qa1, Qa0, Qa3, ↓reduceIte, Nat.reduceEqDiff, Nat.reduceAdd, Nat.reduceLT, Nat.reduceLeDiff, Int.reduceEq, Qb, Qf, Qq, Qp, Qc, Qe, Qd, Qj, Qk, Qu, Qg, Ql, vw_i, Qan, Qax, zipA, beq_self_eq_true, Qi, Qo, Qs, Qn, Qt, Qz, Qa, decide_true, decide_false, true_and, and_true, and_self, forall_const, implies_true, reduceCtorEq, beq_true, imp_self, Qh, eWord, Qa7]
   refine Qbk w.among.length (fun i => ⟨lkp [(2, .pa (Qa7 s)), (3, .pa (eWord w)), (5, .i i)], []⟩) (fun i => ∀ j : Nat, j < i → (Qao s.guests (w.among[j]?.getD 0) && (decide (j = 0) || decide (w.among[j - 1]?.getD 0 < w.among[j]?.getD 0))) = true) ?_ ?_ ?_ ?_
   ·simp only [Zb, k1, ho0, kp, Qa0, Qa3, ↓reduceIte, Nat.reduceEqDiff, Qb, Qf, eWord, Qa7]
   ·intro j hj; omega
   ·intro i hi hc
    obtain ⟨x, hx⟩ : ∃ x, w.among[i]? = some x := ⟨_, Q4 hi⟩
    have hlt : (i : Int) < w.among.length := by omega
    have h3 : inI ((i : Int) + 1) ∧ inI ((i : Int) - 1) := by unfold inI; omega
    have hgd : w.among[i]?.getD 0 = x := by rw [hx]; rfl
    have fin : (Qao s.guests x && (decide (i = 0) || decide (w.among[i - 1]?.getD 0 < x))) = false → Qbj s.guests w = false := fun e => by
     rw [ew]; unfold Qf6
     rw [Zz]
     exact ⟨i, Zq.2 hi, by rw [hgd, e]; simp⟩
    have con : (Qao s.guests x && (decide (i = 0) || decide (w.among[i - 1]?.getD 0 < x))) = true → ∀ j : Nat, j < i + 1 → (Qao s.guests (w.among[j]?.getD 0) && (decide (j = 0) || decide (w.among[j - 1]?.getD 0 < w.among[j]?.getD 0))) = true := fun e j hj => by
     by_cases hji : j < i
     ·exact hc j hji
     ·have : j = i := by omega
      subst this
      rw [hgd]; exact e
    by_cases hgx : Qao s.guests x = true
    ·by_cases hi0 : i = 0
     ·subst hi0
      have hlt0 : (0 : Int) < w.among.length := by omega
      have i10 : inI 1 := by unfold inI; omega
      have hcon := con (by simp [hgx])
      rw [Qi] at hcon
      simp only [hx, hlt0, g1, hgx, Zb, i10, Zd, Qah, Qa9, Qbv, Qa8, Qab, Qac, Qa5, Qbb, Qad, Qaj, Qa6, Qa2, Fam.step, Qae, Qb1, Qat, ug, runX, eff, Qb9, fpR, fpQ, fpV, Qc4, hits, evO, opv, qv, Qai, binV, ldV, iadV, lenV, Qap, Qaa, Qa4, flat, kp, Qa1, Qa0, Qa3, ↓reduceIte, Nat.reduceEqDiff, Nat.reduceAdd, Nat.reduceLT, Nat.reduceLeDiff, Int.reduceNeg, Int.reduceToNat, Zr, Int.reduceLE, Int.reduceAdd, Int.reduceSub, Qb, Qf, Qq, Qp, Qc, Qe, Qd, Qj, Qk, Qu, Qg, Qy, Q0, Ql, Q6, Qv, Q8, Qw, Q9, vw_i, Qan, Qax, Int.lt_irrefl, beq_self_eq_true, Qi, Qo, Qs, Q3, Zs, Qn, Qt, Qz, Qa, decide_true, decide_false, true_and, and_true, and_self, false_and, and_false, forall_const, implies_true, Q1, Za, Q7, beq_true, imp_self, Qh, Qm, Qx, eWord, Qa7, eI]
      exact hcon
     ·have hpos : (0 : Int) < i := by omega
      obtain ⟨y, hy⟩ : ∃ y, w.among[i - 1]? = some y := ⟨_, Q4 (by omega)⟩
      have hyd : w.among[i - 1]?.getD 0 = y := by rw [hy]; rfl
      have e1 : ((i : Int) - 1).toNat = i - 1 := by omega
      have e2 : (0 : Int) ≤ (i : Int) - 1 ∧ (i : Int) - 1 < w.among.length := by omega
      rw [hyd] at fin con
      by_cases hxy : x ≤ y
      ·simp only [hx, hlt, h3, g1, hgx, hpos, e1, e2, hy, hxy, Qah, Qa9, Qbv, Qa8, Qab, Qac, Qaf, Qa5, Qbb, Qad, Qaj, Qa6, Qa2, Fam.step, Qae, Qb1, Qat, ug, runX, eff, Qb9, fpR, fpQ, fpV, Qc4, hits, evO, opv, qv, Qai, binV, ldV, iadV, lenV, Qap, Qaa, Qa4, flat, kp, Qa1, Qa0, Qa3, ↓reduceIte, Nat.reduceEqDiff, Nat.reduceAdd, Nat.reduceLT, Nat.reduceLeDiff, Qb, Qf, Qq, Qp, Qc, Qe, Qd, Qj, Qk, Qu, Qg, Qy, Q0, Ql, Q6, Qv, Q8, Qw, Q9, endQ, rvs, rv1, resV, vw_i, vw_b, Qan, Qax, Q2, beq_self_eq_true, Qi, V.b.injEq, Qo, Qs, Q3, Qn, Qt, Qz, Qa, Qr, decide_true, true_and, and_self, forall_const, implies_true, Q1, Za, Q7, Qh, Q5, Qm, Qx, eWord, Qa7, eI]
       exact (fin (by simp [hi0]; intro _; omega)).symm
      ·simp only [hx, hlt, h3, g1, hgx, hpos, e1, e2, hy, hxy, Zf, Zd, Qah, Qa9, Qbv, Qa8, Qab, Qac, Qa5, Qbb, Qad, Qaj, Qa6, Qa2, Fam.step, Qae, Qb1, Qat, ug, runX, eff, Qb9, fpR, fpQ, fpV, Qc4, hits, evO, opv, qv, Qai, binV, ldV, iadV, lenV, Qap, Qaa, Qa4, flat, kp, Qa1, Qa0, Qa3, ↓reduceIte, Nat.reduceEqDiff, Nat.reduceAdd, Nat.reduceLT, Nat.reduceLeDiff, Qb, Qf, Qq, Qp, Qc, Qe, Qd, Qj, Qk, Qu, Qg, Qy, Q0, Ql, Q6, Qv, Q8, Qw, Q9, vw_i, Qan, Qax, Q2, beq_self_eq_true, Qi, Qo, Qs, Q3, Qn, Qt, Qz, Qa, Qr, decide_true, decide_false, true_and, and_true, and_self, forall_const, implies_true, Q1, Za, Q7, Qh, Q5, Qm, Qx, eWord, Qa7, eI]
       exact con (by simp [hgx]; right; omega)
    ·simp only [hx, hlt, h3, g1, hgx, Qah, Qa9, Qbv, Qa8, Qab, Qac, Qaf, Qa5, Qbb, Qad, Qaj, Qa6, Qa2, Fam.step, Qae, Qb1, Qat, ug, runX, eff, Qb9, fpR, fpQ, fpV, Qc4, hits, evO, opv, qv, Qek, binV, ldV, iadV, lenV, Qap, Qaa, Qa4, flat, kp, Qa1, Qa0, Qa3, ↓reduceIte, Nat.reduceEqDiff, Nat.reduceAdd, Nat.reduceLT, Nat.reduceLeDiff, Qb, Qf, Qq, Qp, Qc, Qe, Qd, Qj, Qk, Qu, Qg, Qy, Q0, Ql, Q6, Qv, Q8, Qw, Q9, endQ, rvs, rv1, resV, vw_i, vw_b, Qan, Qax, Q2, Qi, V.b.injEq, Qo, Qs, Q3, Qn, Qt, Qz, Qa, Qr, decide_true, decide_eq_true_eq, decide_eq_false_iff_not, true_and, and_true, and_self, false_and, forall_const, implies_true, Q1, Za, Q7, beq_true, beq_false, imp_self, Qh, Q5, Qm, Qx, eWord, Qa7, eI]
     exact (fin (by simp [hgx])).symm
   ·intro hc
    have ha : Qbj s.guests w = true := by
     rw [ew]; unfold Qf6
     rw [Z2]
     intro i hi
     exact hc i (Zq.1 hi)
    have hlt : ¬ ((w.among.length : Int) < w.among.length) := by omega
    simp only [hlt, ha, Qa9, Qa8, Qab, Qb0, Qaf, Qa5, Qad, Qaj, Qa6, Qa2, Fam.step, Qae, evO, opv, qv, binV, ldV, lenV, Qa1, Qa0, Qa3, ↓reduceIte, Nat.reduceEqDiff, Nat.reduceLeDiff, Qb, Qf, Qc, Qe, Qd, Qj, Qg, endQ, rvs, rv1, resV, vw_b, Qi, Qa, decide_false, and_self, Qh, eWord, Qa7]
  ·simp only [rc65, rs65, g1, hg, k2, hl, ho0, ho', Qah, Qa9, Qa8, Qab, Qac, Qa5, Qad, Qa6, Qa2, Fam.step, Qae, Qb1, Qat, ug, evO, opv, qv, Qai, binV, ldV, lenV, Qap, V.cells, Qaw, Qaa, Qa4, flat, Qa1, Qa0, Qa3, ↓reduceIte, Nat.reduceEqDiff, Nat.reduceAdd, Nat.reduceLT, Nat.reduceLeDiff, Int.reduceEq, Qb, Qf, Qq, Qp, Qc, Qe, Qd, Qj, Qk, Qu, Qg, Ql, vw_i, Qan, Qax, zipA, beq_self_eq_true, Qi, Qo, Qn, Qt, Qz, Qa, Qr, decide_true, decide_false, true_and, and_self, forall_const, implies_true, reduceCtorEq, Qh, eWord, Qa7]
   refine Qbk w.among.length (fun i => ⟨lkp [(2, .pa (Qa7 s)), (3, .pa (eWord w)), (5, .i i)], []⟩) (fun i => ∀ j : Nat, j < i → (Qao s.guests (w.among[j]?.getD 0) && (decide (j = 0) || decide (w.among[j - 1]?.getD 0 < w.among[j]?.getD 0))) = true) ?_ ?_ ?_ ?_
   ·simp only [Zb, k2, ho0, kp, Qa0, Qa3, ↓reduceIte, Nat.reduceEqDiff, Qb, Qf, eWord, Qa7]
   ·intro j hj; omega
   ·intro i hi hc
    obtain ⟨x, hx⟩ : ∃ x, w.among[i]? = some x := ⟨_, Q4 hi⟩
    have hlt : (i : Int) < w.among.length := by omega
    have h3 : inI ((i : Int) + 1) ∧ inI ((i : Int) - 1) := by unfold inI; omega
    have hgd : w.among[i]?.getD 0 = x := by rw [hx]; rfl
    have fin : (Qao s.guests x && (decide (i = 0) || decide (w.among[i - 1]?.getD 0 < x))) = false → Qbj s.guests w = false := fun e => by
     rw [ew]; unfold Qf6
     rw [Zz]
     exact ⟨i, Zq.2 hi, by rw [hgd, e]; simp⟩
    have con : (Qao s.guests x && (decide (i = 0) || decide (w.among[i - 1]?.getD 0 < x))) = true → ∀ j : Nat, j < i + 1 → (Qao s.guests (w.among[j]?.getD 0) && (decide (j = 0) || decide (w.among[j - 1]?.getD 0 < w.among[j]?.getD 0))) = true := fun e j hj => by
     by_cases hji : j < i
     ·exact hc j hji
     ·have : j = i := by omega
      subst this
      rw [hgd]; exact e
    by_cases hgx : Qao s.guests x = true
    ·by_cases hi0 : i = 0
     ·subst hi0
      have hlt0 : (0 : Int) < w.among.length := by omega
      have i10 : inI 1 := by unfold inI; omega
      have hcon := con (by simp [hgx])
      rw [Qi] at hcon
      simp only [hx, hlt0, g1, hgx, Zb, i10, Zd, Qah, Qa9, Qbv, Qa8, Qab, Qac, Qa5, Qbb, Qad, Qaj, Qa6, Qa2, Fam.step, Qae, Qb1, Qat, ug, runX, eff, Qb9, fpR, fpQ, fpV, Qc4, hits, evO, opv, qv, Qai, binV, ldV, iadV, lenV, Qap, Qaa, Qa4, flat, kp, Qa1, Qa0, Qa3, ↓reduceIte, Nat.reduceEqDiff, Nat.reduceAdd, Nat.reduceLT, Nat.reduceLeDiff, Int.reduceNeg, Int.reduceToNat, Zr, Int.reduceLE, Int.reduceAdd, Int.reduceSub, Qb, Qf, Qq, Qp, Qc, Qe, Qd, Qj, Qk, Qu, Qg, Qy, Q0, Ql, Q6, Qv, Q8, Qw, Q9, vw_i, Qan, Qax, Int.lt_irrefl, beq_self_eq_true, Qi, Qo, Qs, Q3, Zs, Qn, Qt, Qz, Qa, decide_true, decide_false, true_and, and_true, and_self, false_and, and_false, forall_const, implies_true, Q1, Za, Q7, beq_true, imp_self, Qh, Qm, Qx, eWord, Qa7, eI]
      exact hcon
     ·have hpos : (0 : Int) < i := by omega
      obtain ⟨y, hy⟩ : ∃ y, w.among[i - 1]? = some y := ⟨_, Q4 (by omega)⟩
      have hyd : w.among[i - 1]?.getD 0 = y := by rw [hy]; rfl
      have e1 : ((i : Int) - 1).toNat = i - 1 := by omega
      have e2 : (0 : Int) ≤ (i : Int) - 1 ∧ (i : Int) - 1 < w.among.length := by omega
      rw [hyd] at fin con
      by_cases hxy : x ≤ y
      ·simp only [hx, hlt, h3, g1, hgx, hpos, e1, e2, hy, hxy, Qah, Qa9, Qbv, Qa8, Qab, Qac, Qaf, Qa5, Qbb, Qad, Qaj, Qa6, Qa2, Fam.step, Qae, Qb1, Qat, ug, runX, eff, Qb9, fpR, fpQ, fpV, Qc4, hits, evO, opv, qv, Qai, binV, ldV, iadV, lenV, Qap, Qaa, Qa4, flat, kp, Qa1, Qa0, Qa3, ↓reduceIte, Nat.reduceEqDiff, Nat.reduceAdd, Nat.reduceLT, Nat.reduceLeDiff, Qb, Qf, Qq, Qp, Qc, Qe, Qd, Qj, Qk, Qu, Qg, Qy, Q0, Ql, Q6, Qv, Q8, Qw, Q9, endQ, rvs, rv1, resV, vw_i, vw_b, Qan, Qax, Q2, beq_self_eq_true, Qi, V.b.injEq, Qo, Qs, Q3, Qn, Qt, Qz, Qa, Qr, decide_true, true_and, and_self, forall_const, implies_true, Q1, Za, Q7, Qh, Q5, Qm, Qx, eWord, Qa7, eI]
       exact (fin (by simp [hi0]; intro _; omega)).symm
      ·simp only [hx, hlt, h3, g1, hgx, hpos, e1, e2, hy, hxy, Zf, Zd, Qah, Qa9, Qbv, Qa8, Qab, Qac, Qa5, Qbb, Qad, Qaj, Qa6, Qa2, Fam.step, Qae, Qb1, Qat, ug, runX, eff, Qb9, fpR, fpQ, fpV, Qc4, hits, evO, opv, qv, Qai, binV, ldV, iadV, lenV, Qap, Qaa, Qa4, flat, kp, Qa1, Qa0, Qa3, ↓reduceIte, Nat.reduceEqDiff, Nat.reduceAdd, Nat.reduceLT, Nat.reduceLeDiff, Qb, Qf, Qq, Qp, Qc, Qe, Qd, Qj, Qk, Qu, Qg, Qy, Q0, Ql, Q6, Qv, Q8, Qw, Q9, vw_i, Qan, Qax, Q2, beq_self_eq_true, Qi, Qo, Qs, Q3, Qn, Qt, Qz, Qa, Qr, decide_true, decide_false, true_and, and_true, and_self, forall_const, implies_true, Q1, Za, Q7, Qh, Q5, Qm, Qx, eWord, Qa7, eI]
       exact con (by simp [hgx]; right; omega)
    ·simp only [hx, hlt, h3, g1, hgx, Qah, Qa9, Qbv, Qa8, Qab, Qac, Qaf, Qa5, Qbb, Qad, Qaj, Qa6, Qa2, Fam.step, Qae, Qb1, Qat, ug, runX, eff, Qb9, fpR, fpQ, fpV, Qc4, hits, evO, opv, qv, Qek, binV, ldV, iadV, lenV, Qap, Qaa, Qa4, flat, kp, Qa1, Qa0, Qa3, ↓reduceIte, Nat.reduceEqDiff, Nat.reduceAdd, Nat.reduceLT, Nat.reduceLeDiff, Qb, Qf, Qq, Qp, Qc, Qe, Qd, Qj, Qk, Qu, Qg, Qy, Q0, Ql, Q6, Qv, Q8, Qw, Q9, endQ, rvs, rv1, resV, vw_i, vw_b, Qan, Qax, Q2, Qi, V.b.injEq, Qo, Qs, Q3, Qn, Qt, Qz, Qa, Qr, decide_true, decide_eq_true_eq, decide_eq_false_iff_not, true_and, and_true, and_self, false_and, forall_const, implies_true, Q1, Za, Q7, beq_true, beq_false, imp_self, Qh, Q5, Qm, Qx, eWord, Qa7, eI]
     exact (fin (by simp [hgx])).symm
   ·intro hc
    have ha : Qbj s.guests w = true := by
     rw [ew]; unfold Qf6
     rw [Z2]
     intro i hi
     exact hc i (Zq.1 hi)
    have hlt : ¬ ((w.among.length : Int) < w.among.length) := by omega
    simp only [hlt, ha, Qa9, Qa8, Qab, Qb0, Qaf, Qa5, Qad, Qaj, Qa6, Qa2, Fam.step, Qae, evO, opv, qv, binV, ldV, lenV, Qa1, Qa0, Qa3, ↓reduceIte, Nat.reduceEqDiff, Nat.reduceLeDiff, Qb, Qf, Qc, Qe, Qd, Qj, Qg, endQ, rvs, rv1, resV, vw_b, Qi, Qa, decide_false, and_self, Qh, eWord, Qa7]
end Go.C10
set_option linter.unusedSimpArgs false
set_option linter.unusedVariables false
namespace Go.C10
open Go.Fam Go.Proofs
variable {Γ : Gam}
def e65 (a : Stand × Word) : List V := [.ag (Qa7 a.1), .ag (eWord a.2)]
def d65 : List V → Stand × Word | [.ag x0, .ag x1] => (Qav x0, Qe8 x1) | _ => (Qav [], Qe8 [])
theorem Qw2 (a : Stand × Word) : d65 (e65 a) = a := by simp [d65, e65, Qbe, Qed]
noncomputable def HN1 : Gam := HM3.ext 65 (fnG e65 d65 (fun a => (fun (s : Stand) (w : Word) => w.among.length ≤ 1000000) a.1 a.2) (fun a => (fun (s : Stand) (w : Word) => Qbj s.guests w) a.1 a.2) .b)
theorem Qut : GOk Try.prog HN1 := Qus.ext (f := 65) (fun a w => Try.call65 a w) (Qb4 (e := e65) (d := d65) (ok := (fun a => (fun (s : Stand) (w : Word) => w.among.length ≤ 1000000) a.1 a.2)) (g := (fun a => (fun (s : Stand) (w : Word) => Qbj s.guests w) a.1 a.2)) (eb := .b) fun a h => W65 a.1 a.2 h)
theorem h65 (s : Stand) (w : Word) : HN1 65 [.ag (Qa7 s), .ag (eWord w)] = (w.among.length ≤ 1000000, .b (Qbj s.guests w)) :=
 (show HN1 65 _ = fnG e65 d65 (fun a => (fun (s : Stand) (w : Word) => w.among.length ≤ 1000000) a.1 a.2) (fun a => (fun (s : Stand) (w : Word) => Qbj s.guests w) a.1 a.2) .b (e65 (s, w)) from rfl).trans (Qb6 _ (Qw2 _))
theorem W36 (s : Stand) (h : Qas s) : Qal Try.prog 36 [.ag (Qa7 s)] (.i (Qb2 s)) := by
 refine Qak Qut hmix Try.func36 cb36 cc36 cs36 cn36 ?_
 by_cases hg : Qba s.guests 0 7 = true
 rotate_left
 ·have e : Qb2 s = 100 := by unfold Qb2; rw [if_pos (by simp [hg])]
  unfold Qba at hg
  simp only [Zk, decide_eq_true_eq, not_and] at hg
  by_cases h1 : s.guests < 0
  ·simp only [rc36, rs36, h1, e, Qa9, Qa8, Qab, Qaf, Qa5, Qad, Qa6, Qa2, Fam.step, Qae, Qb1, Qat, ug, evO, opv, qv, Qai, binV, ldV, V.cells, Qaw, Qaa, Qa4, Qa1, Qa0, Qa3, ↓reduceIte, Nat.reduceEqDiff, Nat.reduceAdd, Nat.reduceLeDiff, Qb, Qf, Qq, Qp, Qc, Qe, Qd, Qj, Qg, endQ, rvs, rv1, resV, vw_i, Qan, Qax, zipA, Qi, Qo, Qs, Qn, Qt, Qa, Qr, decide_true, and_true, and_self, forall_const, implies_true, beq_false, imp_self, Qa7]
  ·have h2 : 7 < s.guests := by have := hg (by omega); omega
   simp only [rc36, rs36, h1, h2, e, Qa9, Qa8, Qab, Qaf, Qa5, Qad, Qa6, Qa2, Fam.step, Qae, Qb1, Qat, ug, evO, opv, qv, Qai, binV, ldV, V.cells, Qaw, Qaa, Qa4, Qa1, Qa0, Qa3, ↓reduceIte, Nat.reduceEqDiff, Nat.reduceAdd, Nat.reduceLeDiff, Qb, Qf, Qq, Qp, Qc, Qe, Qd, Qj, Qg, endQ, rvs, rv1, resV, vw_i, Qan, Qax, zipA, beq_self_eq_true, Qi, Qo, Qs, Qn, Qt, Qa, Qr, decide_true, decide_false, and_true, and_self, forall_const, implies_true, beq_false, imp_self, Qa7]
 have hg2 : ¬ s.guests < 0 ∧ ¬ 7 < s.guests := by
  unfold Qba at hg
  simp only [Zk, decide_eq_true_eq] at hg; omega
 by_cases hw : Qba s.wrong 0 7 = true
 rotate_left
 ·have e : Qb2 s = 100 := by unfold Qb2; rw [if_pos (by simp [hw])]
  unfold Qba at hw
  simp only [Zk, decide_eq_true_eq, not_and] at hw
  by_cases h1 : s.wrong < 0
  ·simp only [rc36, rs36, hg2, h1, e, Qa9, Qa8, Qab, Qaf, Qa5, Qad, Qa6, Qa2, Fam.step, Qae, Qb1, Qat, ug, evO, opv, qv, Qai, binV, ldV, V.cells, Qaw, Qaa, Qa4, Qa1, Qa0, Qa3, ↓reduceIte, Nat.reduceEqDiff, Nat.reduceAdd, Nat.reduceLeDiff, Qb, Qf, Qq, Qp, Qc, Qe, Qd, Qj, Qg, endQ, rvs, rv1, resV, vw_i, Qan, Qax, zipA, beq_self_eq_true, Qi, Qo, Qs, Qn, Qt, Qa, Qr, decide_true, decide_false, and_true, and_self, forall_const, implies_true, beq_false, imp_self, Qa7]
  ·have h2 : 7 < s.wrong := by have := hw (by omega); omega
   simp only [rc36, rs36, hg2, h1, h2, e, Qa9, Qa8, Qab, Qaf, Qa5, Qad, Qa6, Qa2, Fam.step, Qae, Qb1, Qat, ug, evO, opv, qv, Qai, binV, ldV, V.cells, Qaw, Qaa, Qa4, Qa1, Qa0, Qa3, ↓reduceIte, Nat.reduceEqDiff, Nat.reduceAdd, Nat.reduceLeDiff, Qb, Qf, Qq, Qp, Qc, Qe, Qd, Qj, Qg, endQ, rvs, rv1, resV, vw_i, Qan, Qax, zipA, beq_self_eq_true, Qi, Qo, Qn, Qa, decide_true, decide_false, and_self, forall_const, implies_true, Qa7]
 have hw2 : ¬ s.wrong < 0 ∧ ¬ 7 < s.wrong := by
  unfold Qba at hw
  simp only [Zk, decide_eq_true_eq] at hw; omega
 by_cases h20 : (20 : Int) < s.words.length
 ·have e : Qb2 s = 101 := by unfold Qb2; rw [if_neg (by simp [hg, hw]), if_pos (.inl (by omega))]
  simp only [rc36, rs36, hg2, hw2, h20, e, Qah, Qa9, Qa8, Qab, Qaf, Qa5, Qad, Qa6, Qa2, Fam.step, Qae, Qb1, Qat, ug, evO, opv, qv, Qai, binV, ldV, lenV, V.cells, Qaw, Qaa, Qa4, Qa1, Qa0, Qa3, ↓reduceIte, Nat.reduceEqDiff, Nat.reduceAdd, Nat.reduceLeDiff, Qb, Qf, Qq, Qp, Qc, Qe, Qd, Qj, Qg, endQ, rvs, rv1, resV, vw_i, Qan, Qax, zipA, beq_self_eq_true, Qi, Qo, Qn, Qa, decide_true, decide_false, and_self, forall_const, implies_true, Qh, Qa7]
 ·simp only [rc36, rs36, hg2, hw2, h20, Qah, Qa9, Qa8, Qab, Qac, Qa5, Qad, Qa6, Qa2, Fam.step, Qae, Qb1, Qat, ug, evO, opv, qv, Qai, binV, ldV, lenV, V.cells, Qaw, Qaa, Qa4, Qa1, Qa0, Qa3, ↓reduceIte, Nat.reduceEqDiff, Nat.reduceAdd, Nat.reduceLeDiff, Qb, Qf, Qq, Qp, Qc, Qe, Qd, Qj, Qg, vw_i, Qan, Qax, zipA, beq_self_eq_true, Qi, Qo, Qn, Qa, decide_false, true_and, and_self, forall_const, implies_true, Qh, Qa7]
  have hck : Qb2 s = if (s.words.any fun w => !Qbj s.guests w) = true then 101 else 0 := by
   unfold Qb2
   rw [if_neg (by simp [hg, hw])]
   have : ¬ 20 < s.words.length := by omega
   simp only [this, false_or]
  refine Qbk s.words.length (fun i => ⟨lkp [(1, .pa (Qa7 s)), (3, .i i)], []⟩) (fun i => ∀ j w, j < i → s.words[j]? = some w → Qbj s.guests w = true) ?_ ?_ ?_ ?_
  ·simp only [Zb, kp, Qa0, Qa3, ↓reduceIte, Nat.reduceEqDiff, Qb, Qf, Qa7]
  ·intro j w hj; omega
  ·intro i hi hc
   obtain ⟨w, hw⟩ : ∃ x, s.words[i]? = some x := ⟨_, Q4 hi⟩
   have hlt : (i : Int) < s.words.length := by omega
   have h3 : inI ((i : Int) + 1) := by unfold inI; omega
   have g1 := h65 s w
   simp only [Qa7, eWord] at g1
   have hs := h w (Zg hw)
   by_cases e : Qbj s.guests w = true
   ·simp only [hw, hlt, h3, g1, hs, e, Zf, Zd, Qah, Qa9, Qbv, Qa8, Qab, Qac, Qa5, Qbb, Qad, Qaj, Qa6, Qa2, Fam.step, Qae, runX, eff, Qb9, fpR, fpQ, fpV, Qc4, hits, evO, opv, qv, binV, ldV, iadV, lenV, Qap, Qaa, Qa4, flat, kp, Qa1, Qa0, Qa3, ↓reduceIte, Nat.reduceEqDiff, Nat.reduceAdd, Nat.reduceLT, Nat.reduceLeDiff, Qb, Qf, Qp, Qc, Qe, Qd, Qj, Qk, Qu, Qg, Qy, Q0, Ql, Q6, Qv, Q8, Qw, Q9, vw_i, Qan, Qax, Q2, Qi, Qo, Qs, Q3, Qn, Qt, Qz, Qa, decide_true, true_and, and_true, and_self, implies_true, Q1, Za, Q7, Qh, Q5, Qm, Qx, eWord, Qa7]
    intro j w' hj hjw
    by_cases hji : j < i
    ·exact hc j w' hji hjw
    ·have : j = i := by omega
     subst this
     rw [hw] at hjw; cases hjw; exact e
   ·have he : Qb2 s = 101 := by
     rw [hck, if_pos]
     rw [Zt]
     exact ⟨w, Zg hw, by simp [e]⟩
    simp only [hw, hlt, g1, hs, e, he, Qah, Qa9, Qbv, Qa8, Qab, Qac, Qaf, Qa5, Qbb, Qad, Qaj, Qa6, Qa2, Fam.step, Qae, runX, eff, Qb9, fpR, fpQ, fpV, Qc4, hits, evO, opv, qv, binV, ldV, iadV, lenV, Qap, Qaa, Qa4, flat, kp, Qa1, Qa0, Qa3, ↓reduceIte, Nat.reduceEqDiff, Nat.reduceAdd, Nat.reduceLT, Nat.reduceLeDiff, Qb, Qf, Qp, Qc, Qe, Qd, Qj, Qk, Qu, Qg, Qy, Q0, Ql, Q6, Qv, Q8, Qw, Q9, endQ, rvs, rv1, resV, vw_i, Qan, Qax, Q2, Qi, Qo, Qs, Q3, Qn, Qt, Qz, Qa, decide_true, and_self, implies_true, Q1, Za, Q7, Qh, Q5, Qm, Qx, eWord, Qa7]
  ·intro hc
   have hlt : ¬ ((s.words.length : Int) < s.words.length) := by omega
   have he : Qb2 s = 0 := by
    rw [hck, if_neg]
    rw [Zt]
    rintro ⟨w, hw, e⟩
    obtain ⟨j, hj⟩ := Zp hw
    rw [hc j w (Qam hj) hj] at e
    cases e
   simp only [hlt, he, Qa9, Qa8, Qab, Qb0, Qaf, Qa5, Qad, Qaj, Qa6, Qa2, Fam.step, Qae, evO, opv, qv, binV, ldV, lenV, Qa1, Qa0, Qa3, ↓reduceIte, Nat.reduceEqDiff, Nat.reduceAdd, Nat.reduceLeDiff, Qb, Qf, Qc, Qe, Qd, Qj, Qg, endQ, rvs, rv1, resV, vw_i, Qi, Qa, decide_false, and_self, Qh, Qa7]
def e36 (a : Stand) : List V := [.ag (Qa7 a)]
def d36 : List V → Stand | [.ag x0] => (Qav x0) | _ => (Qav [])
theorem Qvn (a : Stand) : d36 (e36 a) = a := by simp [d36, e36, Qbe]
noncomputable def HN2 : Gam := HN1.ext 36 (fnG e36 d36 (fun a => (fun (s : Stand) => Qas s) a) (fun a => (fun (s : Stand) => Qb2 s) a) .i)
theorem Quu : GOk Try.prog HN2 := Qut.ext (f := 36) (fun a w => Try.call36 a w) (Qb4 (e := e36) (d := d36) (ok := (fun a => (fun (s : Stand) => Qas s) a)) (g := (fun a => (fun (s : Stand) => Qb2 s) a)) (eb := .i) fun a h => W36 a h)
theorem h36 (s : Stand) : HN2 36 [.ag (Qa7 s)] = (Qas s, .i (Qb2 s)) :=
 (show HN2 36 _ = fnG e36 d36 (fun a => (fun (s : Stand) => Qas s) a) (fun a => (fun (s : Stand) => Qb2 s) a) .i (e36 (s)) from rfl).trans (Qb6 _ (Qvn _))
def Ql2 (s : Stand) : Bool := decide (60 < s.words.length) || s.words.any fun w => decide (60 < w.among.length)
def farB (s : Stand) : Bool := Ql2 s || (decide (Qb2 s = 0) && decide (6 < s.guests))
theorem Qhi {s : Stand} (h : Ql2 s = false) : Qas s ∧ s.words.length ≤ 60 := by
 unfold Ql2 at h
 simp only [Zl, decide_eq_false_iff_not, Z9, decide_eq_true_eq] at h
 exact ⟨fun w hw => by have := h.2 w hw; omega, by omega⟩
theorem W35 (s : Stand) : Qal Try.prog 35 [.ag (Qa7 s)] (.b (farB s)) := by
 refine Qak Quu hmix Try.func35 cb35 cc35 cs35 cn35 ?_
 by_cases h60 : (60 : Int) < s.words.length
 ·have e : farB s = true := by
   unfold farB Ql2
   have : 60 < s.words.length := by omega
   simp [this]
  simp only [rc35, rs35, h60, e, Qa9, Qa8, Qab, Qaf, Qa5, Qad, Qa6, Qa2, Fam.step, Qae, evO, opv, qv, binV, ldV, lenV, V.cells, Qaw, Qaa, Qa4, Qa1, Qa0, Qa3, ↓reduceIte, Nat.reduceEqDiff, Nat.reduceAdd, Nat.reduceLeDiff, Qb, Qf, Qc, Qe, Qd, Qj, Qg, endQ, rvs, rv1, resV, vw_i, vw_b, Qan, Qax, zipA, Qi, Qn, Qa, decide_true, and_self, Qh, Qa7]
 ·have h60' : ¬ 60 < s.words.length := by omega
  simp only [rc35, rs35, h60, Qah, Qa9, Qa8, Qab, Qac, Qa5, Qad, Qa6, Qa2, Fam.step, Qae, evO, opv, qv, binV, ldV, lenV, V.cells, Qaw, Qaa, Qa4, Qa1, Qa0, Qa3, ↓reduceIte, Nat.reduceEqDiff, Nat.reduceAdd, Nat.reduceLeDiff, Qb, Qf, Qc, Qe, Qd, Qj, Qg, vw_i, Qan, Qax, zipA, Qi, Qn, Qa, decide_false, true_and, and_self, Qh, Qa7]
  refine Qbk s.words.length (fun i => ⟨lkp [(1, .pa (Qa7 s)), (3, .i i)], []⟩) (fun i => ∀ j w, j < i → s.words[j]? = some w → ¬ 60 < w.among.length) ?_ ?_ ?_ ?_
  ·simp only [Zb, kp, Qa0, Qa3, ↓reduceIte, Nat.reduceEqDiff, Qb, Qf, Qa7]
  ·intro j w hj; omega
  ·intro i hi hc
   obtain ⟨w, hw⟩ : ∃ x, s.words[i]? = some x := ⟨_, Q4 hi⟩
   have hlt : (i : Int) < s.words.length := by omega
   have h3 : inI ((i : Int) + 1) := by unfold inI; omega
   by_cases e : (60 : Int) < w.among.length
   ·have he : farB s = true := by
     unfold farB Ql2
     have : (s.words.any fun w => decide (60 < w.among.length)) = true := Zt.2 ⟨w, Zg hw, by simp; omega⟩
     simp [this]
    simp only [hw, hlt, e, he, Qah, Qa9, Qa8, Qab, Qac, Qaf, Qa5, Qad, Qaj, Qa6, Qa2, Fam.step, Qae, evO, opv, qv, binV, ldV, iadV, lenV, kp, Qa1, Qa0, Qa3, ↓reduceIte, Nat.reduceEqDiff, Nat.reduceAdd, Nat.reduceLeDiff, Qb, Qf, Qc, Qe, Qd, Qj, Qg, Qv, endQ, rvs, rv1, resV, vw_b, Q2, Qi, Qa, decide_true, and_self, Q1, Qh, Q5, Qm, Qx, eWord, Qa7]
   ·simp only [hw, hlt, h3, e, Zf, Zd, Qah, Qa9, Qa8, Qab, Qac, Qa5, Qad, Qaj, Qa6, Qa2, Fam.step, Qae, evO, opv, qv, binV, ldV, iadV, lenV, kp, Qa1, Qa0, Qa3, ↓reduceIte, Nat.reduceEqDiff, Nat.reduceAdd, Nat.reduceLeDiff, Qb, Qf, Qc, Qe, Qd, Qj, Qg, Qv, Q2, Qi, Qa, decide_true, decide_false, true_and, and_true, and_self, Q1, Qh, Q5, Qm, Qx, eWord, Qa7]
    intro j w' hj hjw
    by_cases hji : j < i
    ·exact hc j w' hji hjw
    ·have : j = i := by omega
     subst this
     rw [hw] at hjw; cases hjw; omega
  ·intro hc
   have hlt : ¬ ((s.words.length : Int) < s.words.length) := by omega
   have hlong : Ql2 s = false := by
    unfold Ql2
    simp only [Zl, decide_eq_false_iff_not, Z9, decide_eq_true_eq]
    refine ⟨h60', fun w hw => ?_⟩
    obtain ⟨j, hj⟩ := Zp hw
    exact hc j w (Qam hj) hj
   obtain ⟨hs, _⟩ := Qhi hlong
   have g1 := h36 s
   simp only [Qa7] at g1
   by_cases h0 : Qb2 s = 0
   ·simp only [hlt, g1, hs, h0, farB, hlong, Qa9, Qa8, Qab, Qb0, Qaf, Qa5, Qad, Qaj, Qa6, Qa2, Fam.step, Qae, Qb1, Qat, ug, evO, opv, qv, Qai, binV, ldV, lenV, Qap, Qaa, Qa4, flat, Qa1, Qa0, Qa3, ↓reduceIte, Nat.reduceEqDiff, Nat.reduceAdd, Nat.reduceLT, Nat.reduceLeDiff, Qb, Qf, Qq, Qp, Qc, Qe, Qd, Qj, Qk, Qu, Qg, Ql, endQ, rvs, rv1, resV, vw_i, vw_b, Qan, Qax, beq_self_eq_true, Qi, Qo, Zo, Qn, Z1, Qa, Qr, decide_true, decide_false, and_self, forall_const, implies_true, Qh, Qa7]
   ·simp only [hlt, g1, hs, h0, farB, hlong, Qa9, Qa8, Qab, Qb0, Qaf, Qa5, Qad, Qaj, Qa6, Qa2, Fam.step, Qae, Qb1, Qat, ug, evO, opv, qv, Qai, binV, ldV, lenV, Qap, Qaa, Qa4, flat, Qa1, Qa0, Qa3, ↓reduceIte, Nat.reduceEqDiff, Nat.reduceAdd, Nat.reduceLT, Nat.reduceLeDiff, Qb, Qf, Qq, Qp, Qc, Qe, Qd, Qj, Qk, Qu, Qg, Ql, endQ, rvs, rv1, resV, vw_i, vw_b, Qan, Qax, Qi, Qo, Qs, Q3, Qn, Qa, decide_false, and_true, and_self, forall_const, implies_true, beq_true, imp_self, Qh, Qa7]
def e35 (a : Stand) : List V := [.ag (Qa7 a)]
def d35 : List V → Stand | [.ag x0] => (Qav x0) | _ => (Qav [])
theorem Qvm (a : Stand) : d35 (e35 a) = a := by simp [d35, e35, Qbe]
noncomputable def HN3 : Gam := HN2.ext 35 (fnG e35 d35 (fun a => (fun (s : Stand) => True) a) (fun a => (fun (s : Stand) => farB s) a) .b)
theorem Quv : GOk Try.prog HN3 := Quu.ext (f := 35) (fun a w => Try.call35 a w) (Qb4 (e := e35) (d := d35) (ok := (fun a => (fun (s : Stand) => True) a)) (g := (fun a => (fun (s : Stand) => farB s) a)) (eb := .b) fun a h => W35 a)
theorem h35 (s : Stand) : HN3 35 [.ag (Qa7 s)] = (True, .b (farB s)) :=
 (show HN3 35 _ = fnG e35 d35 (fun a => (fun (s : Stand) => True) a) (fun a => (fun (s : Stand) => farB s) a) .b (e35 (s)) from rfl).trans (Qb6 _ (Qvm _))
theorem Qt7 (s : Stand)  : HN3 36 [.ag (Qa7 s)] = (Qas s, .i (Qb2 s)) := h36 s
def Qht (s : Stand) : Bool := farB s || (decide (Qb2 s = 0) && decide (4 < s.guests))
theorem Qjg {s : Stand} (h : farB s = false) : Ql2 s = false := by unfold farB at h; rw [Zl] at h; exact h.1
theorem W29 (s : Stand) : Qal Try.prog 29 [.ag (Qa7 s)] (.b (Qht s)) := by
 refine Qak Quv hmix Try.func29 cb29 cc29 cs29 cn29 ?_
 have g1 := h35 s
 have g2 := Qt7 s
 simp only [Qa7] at g1 g2
 cases hf : farB s with
 | true => simp only [rc29, rs29, g1, g2, hf, Qht, Qa9, Qa8, Qaf, Qa5, Qad, Qa6, Qa2, Fam.step, Qae, Qb1, Qat, ug, evO, opv, qv, Qai, binV, ldV, Qap, V.cells, Qaw, Qaa, Qa4, flat, Qa1, Qa0, Qa3, ↓reduceIte, Nat.reduceEqDiff, Nat.reduceAdd, Nat.reduceLT, Nat.reduceLeDiff, Qb, Qf, Qq, Qp, Qc, Qe, Qj, Qk, Qu, Qg, Ql, endQ, rvs, rv1, resV, vw_i, vw_b, Qan, Qax, zipA, Qi, Qo, Qs, Q3, Qn, Bool.true_or, Qt, Qa, Qr, decide_eq_true_eq, decide_eq_false_iff_not, true_and, and_true, and_self, false_and, forall_const, implies_true, beq_true, beq_false, Qnh, imp_self, Qa7]
 | false =>
  obtain ⟨hs, _⟩ := Qhi (Qjg hf)
  by_cases h0 : Qb2 s = 0 <;> simp only [rc29, rs29, g1, g2, hs, hf, h0, Qht, Qa9, Qa8, Qaf, Qa5, Qad, Qa6, Qa2, Fam.step, Qae, Qb1, Qat, ug, evO, opv, qv, Qai, binV, ldV, Qap, V.cells, Qaw, Qaa, Qa4, flat, Qa1, Qa0, Qa3, ↓reduceIte, Nat.reduceEqDiff, Nat.reduceAdd, Nat.reduceLT, Nat.reduceLeDiff, Qb, Qf, Qq, Qp, Qc, Qe, Qj, Qk, Qu, Qg, Ql, endQ, rvs, rv1, resV, vw_i, vw_b, Qan, Qax, zipA, beq_self_eq_true, Qi, Qo, Qs, Zo, Q3, Zs, Qn, Z1, Qa, Qr, decide_true, decide_false, and_true, and_self, forall_const, implies_true, beq_true, imp_self, Qa7]
def e29 (a : Stand) : List V := [.ag (Qa7 a)]
def d29 : List V → Stand | [.ag x0] => (Qav x0) | _ => (Qav [])
theorem Qvl (a : Stand) : d29 (e29 a) = a := by simp [d29, e29, Qbe]
noncomputable def HN4 : Gam := HN3.ext 29 (fnG e29 d29 (fun a => (fun (s : Stand) => True) a) (fun a => (fun (s : Stand) => Qht s) a) .b)
theorem Quw : GOk Try.prog HN4 := Quv.ext (f := 29) (fun a w => Try.call29 a w) (Qb4 (e := e29) (d := d29) (ok := (fun a => (fun (s : Stand) => True) a)) (g := (fun a => (fun (s : Stand) => Qht s) a)) (eb := .b) fun a h => W29 a)
theorem h29 (s : Stand) : HN4 29 [.ag (Qa7 s)] = (True, .b (Qht s)) :=
 (show HN4 29 _ = fnG e29 d29 (fun a => (fun (s : Stand) => True) a) (fun a => (fun (s : Stand) => Qht s) a) .b (e29 (s)) from rfl).trans (Qb6 _ (Qvl _))
theorem Qt8 (s : Stand)  : HN4 36 [.ag (Qa7 s)] = (Qas s, .i (Qb2 s)) := h36 s
def Ql8 (s : Stand) : Bool := !Qht s && decide (Qb2 s = 0)
theorem Qq5 {s : Stand} (h : Qht s = false) : farB s = false := by unfold Qht at h; rw [Zl] at h; exact h.1
theorem W14 (s : Stand) : Qal Try.prog 14 [.ag (Qa7 s)] (.b (Ql8 s)) := by
 refine Qak Quw hmix Try.func14 cb14 cc14 cs14 cn14 ?_
 have g1 := h29 s
 have g2 := Qt8 s
 simp only [Qa7] at g1 g2
 cases hf : Qht s with
 | true => simp only [rc14, rs14, g1, hf, Ql8, Qa9, Qa8, Qaf, Qa5, Qad, Qa6, Qa2, Fam.step, Qae, Qb1, Qat, ug, evO, opv, qv, Qp0, binV, ldV, Qap, V.cells, Qaw, Qaa, Qa4, flat, Qa1, Qa0, Qa3, ↓reduceIte, Nat.reduceEqDiff, Nat.reduceAdd, Nat.reduceLT, Nat.reduceLeDiff, Qb, Qf, Qq, Qp, Qc, Qe, Qk, Qu, Ql, endQ, rvs, rv1, resV, vw_i, vw_b, Qan, Qax, zipA, Qi, Qo, Qs, Q3, Qn, Qt, Qa, true_and, and_true, and_self, false_and, forall_const, false_implies, implies_true, beq_true, imp_self, Qa7]
 | false =>
  obtain ⟨hs, _⟩ := Qhi (Qjg (Qq5 hf))
  by_cases h0 : Qb2 s = 0 <;> simp only [rc14, rs14, g1, g2, hs, hf, h0, Ql8, Qa9, Qa8, Qaf, Qa5, Qad, Qa6, Qa2, Fam.step, Qae, Qb1, Qat, ug, evO, opv, qv, Qai, binV, ldV, Qap, V.cells, Qaw, Qaa, Qa4, flat, Qa1, Qa0, Qa3, ↓reduceIte, Nat.reduceEqDiff, Nat.reduceAdd, Nat.reduceLT, Nat.reduceLeDiff, Qb, Qf, Qq, Qp, Qc, Qe, Qk, Qu, Ql, endQ, rvs, rv1, resV, vw_i, vw_b, Qan, Qax, zipA, beq_self_eq_true, Qi, Qo, Zs, Qn, Qz, Qa, Qr, decide_true, decide_false, and_self, forall_const, implies_true, Qa7]
def e14 (a : Stand) : List V := [.ag (Qa7 a)]
def d14 : List V → Stand | [.ag x0] => (Qav x0) | _ => (Qav [])
noncomputable def HN5 : Gam := HN4.ext 14 (fnG e14 d14 (fun a => (fun (s : Stand) => True) a) (fun a => (fun (s : Stand) => Ql8 s) a) .b)
theorem Qux : GOk Try.prog HN5 := Quw.ext (f := 14) (fun a w => Try.call14 a w) (Qb4 (e := e14) (d := d14) (ok := (fun a => (fun (s : Stand) => True) a)) (g := (fun a => (fun (s : Stand) => Ql8 s) a)) (eb := .b) fun a h => W14 a)
theorem Qt9 (l : List Int) (n : Int)  : HN5 52 [.sl 1 (l.map eI), .i n] = (l.length ≤ 1000000, .b (decide (n ∈ l))) := h52 l n
theorem W43 (w : Word) (t : List Int) (h : OkSo w t.length) : Qal Try.prog 43 [.ag (eWord w), .sl 1 (t.map eI)] (.b (soB w t)) := by
 refine Qak Qux hmix Try.func43 cb43 cc43 cs43 cn43 ?_
 have g1 := fun n => Qt9 w.among n
 simp only [rc43, rs43, Qa9, Qa8, Qac, Qa5, Qad, Qa6, Qa2, Fam.step, Qae, evO, opv, qv, binV, ldV, V.cells, Qaw, Qaa, Qa4, Qa1, Qa0, Qa3, ↓reduceIte, Nat.reduceEqDiff, Nat.reduceAdd, Nat.reduceLeDiff, Qb, Qf, Qc, Qe, Qj, Qg, vw_i, Qan, Qax, zipA, Qi, Qn, Qa, true_and, and_self, reduceCtorEq, eWord]
 obtain ⟨⟨a1, a2⟩, ⟨b1, b2⟩, hl⟩ := h
 obtain ⟨x, hx⟩ : ∃ x, t[w.guest.toNat]? = some x := ⟨_, Q4 (by omega)⟩
 obtain ⟨y, hy⟩ : ∃ x, t[w.other.toNat]? = some x := ⟨_, Q4 (by omega)⟩
 have ex : atN t w.guest = x := by unfold atN; rw [hx]; rfl
 have ey : atN t w.other = y := by unfold atN; rw [hy]; rfl
 by_cases k1 : w.kind = 1
 ·simp only [k1, a1, a2, hx, g1, hl, soB, ex, Qbv, Qa8, Qab, Qaf, Qbb, Qad, Qaj, Qae, runX, eff, Qb9, fpR, fpQ, fpV, Qc4, hits, evO, opv, qv, ldV, iadV, Qap, Qaa, Qa4, flat, Qa1, Qa0, ↓reduceIte, Nat.reduceEqDiff, Nat.reduceAdd, Nat.reduceLT, Nat.reduceLeDiff, Qb, Qf, Qp, Qc, Qe, Qd, Qj, Qg, Qy, Q0, Ql, Q6, Qv, Q8, Qw, Q9, endQ, rvs, rv1, resV, vw_i, vw_b, Qan, Qi, Qo, Qs, Q3, Qn, Qt, Qz, Qa, decide_true, and_self, implies_true, Q1, Za, Q7, Qh, Qm, Qx, eI]
 by_cases k2 : w.kind = 2
 ·simp only [k2, a1, a2, hx, g1, hl, soB, ex, Qa9, Qbv, Qa8, Qab, Qaf, Qa5, Qbb, Qad, Qaj, Qa6, Qa2, Fam.step, Qae, runX, eff, Qb9, fpR, fpQ, fpV, Qc4, hits, evO, opv, qv, binV, ldV, iadV, Qap, Qaa, Qa4, flat, Qa1, Qa0, Qa3, ↓reduceIte, Nat.reduceEqDiff, Nat.reduceAdd, Nat.reduceLT, Nat.reduceLeDiff, Int.reduceEq, Qb, Qf, Qp, Qc, Qe, Qd, Qj, Qg, Qy, Q0, Ql, Q6, Qv, Q8, Qw, Q9, endQ, rvs, rv1, resV, vw_i, vw_b, Qan, Qi, Qo, Qs, Q3, Qn, Qt, Qz, Qa, decide_true, decide_false, and_self, implies_true, Q1, Za, Q7, Qh, Qm, Qx, eI]
 by_cases k3 : w.kind = 3
 ·by_cases e : x = w.other <;> simp only [k3, a1, a2, b1, b2, hx, hy, soB, ex, ey, e, Qa9, Qbv, Qa8, Qab, Qaf, Qa5, Qbb, Qad, Qaj, Qa6, Qa2, Fam.step, Qae, Qb1, Qat, ug, runX, eff, Qb9, fpR, fpQ, fpV, Qc4, hits, evO, opv, qv, Qai, binV, ldV, iadV, Qa1, Qa0, Qa3, ↓reduceIte, Nat.reduceEqDiff, Nat.reduceAdd, Nat.reduceLeDiff, Int.reduceEq, Qb, Qf, Qq, Qp, Qc, Qe, Qd, Qj, Qg, Qy, Q0, Ql, Q6, Qv, Q8, Qw, Q9, endQ, rvs, rv1, resV, vw_b, beq_self_eq_true, Qi, Qo, Qs, Zo, Q3, Qn, Qt, Qz, Qa, Qr, decide_true, decide_false, and_true, and_self, forall_const, implies_true, Q1, Za, Q7, beq_true, imp_self, Qh, Qm, Qx, eI]
 ·by_cases e : x = w.guest <;> simp only [k1, k2, k3, a1, a2, b1, b2, hx, hy, soB, ex, ey, e, Qah, Qa9, Qbv, Qa8, Qab, Qaf, Qa5, Qbb, Qad, Qaj, Qa6, Qa2, Fam.step, Qae, Qb1, Qat, ug, runX, eff, Qb9, fpR, fpQ, fpV, Qc4, hits, evO, opv, qv, Qai, binV, ldV, iadV, Qa1, Qa0, Qa3, ↓reduceIte, Nat.reduceEqDiff, Nat.reduceAdd, Nat.reduceLeDiff, Qb, Qf, Qq, Qp, Qc, Qe, Qd, Qj, Qg, Qy, Q0, Ql, Q6, Qv, Q8, Qw, Q9, endQ, rvs, rv1, resV, vw_b, beq_self_eq_true, Qi, Qo, Qs, Q3, Qn, Z1, Bool.true_or, Qt, Qz, Qa, Qr, decide_true, decide_false, and_true, and_self, forall_const, implies_true, Q1, Za, Q7, beq_false, imp_self, Qh, Qm, Qx, eI]
def e43 (a : Word × List Int) : List V := [.ag (eWord a.1), .sl 1 (a.2.map eI)]
def d43 : List V → Word × List Int | [.ag x0, .sl _ x1] => (Qe8 x0, x1.map dI) | _ => (Qe8 [], [])
noncomputable def HN6 : Gam := HN5.ext 43 (fnG e43 d43 (fun a => (fun (w : Word) (t : List Int) => OkSo w t.length) a.1 a.2) (fun a => (fun (w : Word) (t : List Int) => soB w t) a.1 a.2) .b)
theorem Quy : GOk Try.prog HN6 := Qux.ext (f := 43) (fun a w => Try.call43 a w) (Qb4 (e := e43) (d := d43) (ok := (fun a => (fun (w : Word) (t : List Int) => OkSo w t.length) a.1 a.2)) (g := (fun a => (fun (w : Word) (t : List Int) => soB w t) a.1 a.2)) (eb := .b) fun a h => W43 a.1 a.2 h)
theorem Qta (l : List Int) (n : Int)  : HN6 52 [.sl 1 (l.map eI), .i n] = (l.length ≤ 1000000, .b (decide (n ∈ l))) := h52 l n
theorem W18 (t : List Int) (h : t.length ≤ 1000000) : Qal Try.prog 18 [.sl 1 (t.map eI)] (.b (takB t)) := by
 refine Qak Quy hmix Try.func18 cb18 cc18 cs18 cn18 ?_
 simp only [rc18, rs18, Qa9, Qa8, Qac, Qa5, Qad, Qa6, Qa2, Fam.step, Qae, evO, opv, qv, Qa1, Qa0, Qa3, ↓reduceIte, Qb, Qf, zipA, true_and, reduceCtorEq]
 refine Qbk t.length (fun i => ⟨lkp [(0, .sl 1 (t.map eI)), (3, .i i)], []⟩) (fun i => ∀ j : Nat, j < i → (Qba (t[j]?.getD 0) 0 (t.length - 1) && !decide (t[j]?.getD 0 ∈ t.take j)) = true) ?_ ?_ ?_ ?_
 ·simp only [Zb, kp, Qa0, Qa3, ↓reduceIte, Qb, Qf, reduceCtorEq]
 ·intro j hj; omega
 ·intro i hi hc
  obtain ⟨x, hx⟩ : ∃ x, t[i]? = some x := ⟨_, Q4 hi⟩
  have hlt : (i : Int) < t.length := by omega
  have h3 : inI ((i : Int) + 1) := by unfold inI; omega
  have hle : (i : Int) ≤ t.length := by omega
  have g2 := Qta (t.take i) x
  have htl : (t.take i).length ≤ 1000000 := by rw [List.length_take]; omega
  have hmt : List.take i (t.map eI) = (t.take i).map eI := by rw [List.map_take]
  have bad : (Qba x 0 (t.length - 1) && !decide (x ∈ t.take i)) = false → takB t = false := fun e => by
   unfold takB
   rw [Z4]; right
   rw [Zz]
   exact ⟨i, Zq.2 hi, by rw [hx, Qv, e]; simp⟩
  have good : (Qba x 0 (t.length - 1) && !decide (x ∈ t.take i)) = true → ∀ j : Nat, j < i + 1 → (Qba (t[j]?.getD 0) 0 (t.length - 1) && !decide (t[j]?.getD 0 ∈ t.take j)) = true := fun e j hj => by
   by_cases hji : j < i
   ·exact hc j hji
   ·have : j = i := by omega
    subst this
    rw [hx, Qv]; exact e
  by_cases hx0 : x < 0
  ·simp only [hx, hlt, hle, hx0, Qah, Qa9, Qbv, Qa8, Qab, Qac, Qaf, Qa5, Qbb, Qad, Qaj, Qa6, Qa2, Fam.step, Qae, Qb1, Qat, ug, runX, eff, Qb9, fpR, fpQ, fpV, Qc4, hits, evO, opv, qv, Qai, Qek, binV, ldV, iadV, lenV, slcV, Qgm, Qap, Qaa, Qa4, kp, Qa1, Qa0, Qa3, ↓reduceIte, Nat.reduceEqDiff, Nat.reduceLT, Nat.reduceLeDiff, Zr, Int.reduceLE, Qb, Qf, Qq, Qp, Qc, Qe, Qj, Qg, Qy, Q0, Ql, Q6, Qv, Q8, Qw, Q9, endQ, rvs, rv1, resV, vw_i, vw_b, Qan, Q2, Qi, V.b.injEq, Qo, Qs, Q3, Qn, Qt, Qz, Qa, Qr, decide_true, true_and, and_true, and_self, false_and, forall_const, false_implies, implies_true, reduceCtorEq, Q1, Zy, Za, Q7, beq_false, imp_self, Qh, Q5, Qm, Qx, eI]
   exact (bad (by unfold Qba; simp; intro h5; omega)).symm
  ·by_cases hx1 : (t.length : Int) ≤ x
   ·simp only [hx, hlt, hle, hx0, hx1, Qah, Qa9, Qbv, Qa8, Qab, Qac, Qaf, Qa5, Qbb, Qad, Qaj, Qa6, Qa2, Fam.step, Qae, Qb1, Qat, ug, runX, eff, Qb9, fpR, fpQ, fpV, Qc4, hits, evO, opv, qv, Qai, Qek, binV, ldV, iadV, lenV, slcV, Qgm, Qap, Qaa, Qa4, kp, Qa1, Qa0, Qa3, ↓reduceIte, Nat.reduceEqDiff, Nat.reduceLT, Nat.reduceLeDiff, Zr, Int.reduceLE, Qb, Qf, Qq, Qp, Qc, Qe, Qj, Qg, Qy, Q0, Ql, Q6, Qv, Q8, Qw, Q9, endQ, rvs, rv1, resV, vw_i, vw_b, Qan, Q2, beq_self_eq_true, Qi, V.b.injEq, Qo, Qs, Q3, Qn, Qt, Qz, Qa, Qr, decide_true, decide_false, true_and, and_true, and_self, false_and, forall_const, false_implies, implies_true, reduceCtorEq, Q1, Zy, Za, Q7, beq_false, imp_self, Qh, Q5, Qm, Qx, eI]
    exact (bad (by unfold Qba; simp; intro; omega)).symm
   ·have hw : Qba x 0 (t.length - 1) = true := by unfold Qba; simp; omega
    by_cases hm : x ∈ t.take i
    ·simp only [hx, hlt, hle, hx0, hx1, g2, htl, hmt, hm, Qah, Qa9, Qbv, Qa8, Qab, Qac, Qaf, Qa5, Qbb, Qad, Qaj, Qa6, Qa2, Fam.step, Qae, Qb1, Qat, ug, runX, eff, Qb9, fpR, fpQ, fpV, Qc4, hits, evO, opv, qv, Qai, binV, ldV, iadV, lenV, slcV, Qgm, Qap, Qaa, Qa4, flat, kp, Qa1, Qa0, Qa3, ↓reduceIte, Nat.reduceEqDiff, Nat.reduceLT, Nat.reduceLeDiff, Zr, Int.reduceLE, Qb, Qf, Qq, Qp, Qc, Qe, Qj, Qg, Qy, Q0, Ql, Q6, Qv, Q8, Qw, Q9, endQ, rvs, rv1, resV, vw_i, vw_b, Qan, Q2, beq_self_eq_true, Qi, V.b.injEq, Qo, Qs, Q3, Qn, Qt, Qz, Qa, decide_true, decide_false, true_and, and_self, forall_const, implies_true, reduceCtorEq, Q1, Zy, Za, Q7, Qh, Q5, Qm, Qx, eI]
     exact (bad (by simp [hm])).symm
    ·simp only [hx, hlt, h3, hle, hx0, hx1, g2, htl, hmt, hm, Zf, Zd, Qah, Qa9, Qbv, Qa8, Qab, Qac, Qa5, Qbb, Qad, Qaj, Qa6, Qa2, Fam.step, Qae, Qb1, Qat, ug, runX, eff, Qb9, fpR, fpQ, fpV, Qc4, hits, evO, opv, qv, Qai, binV, ldV, iadV, lenV, slcV, Qgm, Qap, Qaa, Qa4, flat, kp, Qa1, Qa0, Qa3, ↓reduceIte, Nat.reduceEqDiff, Nat.reduceLT, Nat.reduceLeDiff, Zr, Int.reduceLE, Qb, Qf, Qq, Qp, Qc, Qe, Qj, Qg, Qy, Q0, Ql, Q6, Qv, Q8, Qw, Q9, vw_i, Qan, Q2, beq_self_eq_true, Qi, Qo, Qs, Q3, Qn, Qt, Qz, Qa, decide_true, decide_false, true_and, and_true, and_self, forall_const, implies_true, reduceCtorEq, Q1, Zy, Za, Q7, Qh, Q5, Qm, Qx, eI]
     exact good (by simp [hw, hm])
 ·intro hc
  have hlt : ¬ ((t.length : Int) < t.length) := by omega
  have e : takB t = decide (t.length ≤ 7) := by
   unfold takB
   have : ((List.range t.length).all fun i => Qba (t[i]?.getD 0) 0 (t.length - 1) && !decide (t[i]?.getD 0 ∈ t.take i)) = true := by
    rw [Z2]
    exact fun i hi => hc i (Zq.1 hi)
   rw [this, Qs]
  simp only [hlt, e, Qa9, Qa8, Qab, Qb0, Qaf, Qa5, Qad, Qaj, Qa6, Qa2, Fam.step, Qae, evO, opv, qv, binV, lenV, Qa1, Qa0, Qa3, ↓reduceIte, Nat.reduceEqDiff, Qb, Qf, endQ, rvs, rv1, resV, vw_b, V.b.injEq, Qa, decide_false, true_and, and_self, reduceCtorEq, Qh]
  rw [decide_eq_decide]; omega
def e18 (a : List Int) : List V := [.sl 1 (a.map eI)]
def d18 : List V → List Int | [.sl _ x0] => (x0.map dI) | _ => ([])
noncomputable def HN7 : Gam := HN6.ext 18 (fnG e18 d18 (fun a => (fun (t : List Int) => t.length ≤ 1000000) a) (fun a => (fun (t : List Int) => takB t) a) .b)
theorem Quz : GOk Try.prog HN7 := Quy.ext (f := 18) (fun a w => Try.call18 a w) (Qb4 (e := e18) (d := d18) (ok := (fun a => (fun (t : List Int) => t.length ≤ 1000000) a)) (g := (fun a => (fun (t : List Int) => takB t) a)) (eb := .b) fun a h => W18 a h)
theorem W28 (l m : List Int) (h : l.length ≤ 1000000) : Qal Try.prog 28 [.sl 1 (l.map eI), .sl 1 (m.map eI)] (.b (decide (l = m))) := by
 refine Qak Quz hmix Try.func28 cb28 cc28 cs28 cn28 ?_
 simp only [rc28, rs28, Qah, Qa9, Qa8, Qab, Qin, Qac, Qaf, Qa5, Qad, Qa6, Qa2, Fam.step, Qae, evO, opv, qv, binV, lenV, Qa1, Qa0, Qa3, ↓reduceIte, Nat.reduceEqDiff, Qb, Qf, endQ, rvs, rv1, resV, vw_b, zipA, Qi, V.b.injEq, decide_eq_false_iff_not, true_and, and_self, reduceCtorEq, Bool.not_eq_true', Qh, Classical.not_not]
 refine ⟨fun h1 => ?_, fun h1 => ?_⟩
 ·have : ¬ l = m := fun e => by rw [e] at h1; omega
  simp only [this, decide_false]
 ·have hlm : l.length = m.length := by omega
  refine Qbk l.length (fun i => ⟨lkp [(0, .sl 1 (l.map eI)), (1, .sl 1 (m.map eI)), (5, .i i)], []⟩) (fun i => ∀ j : Nat, j < i → l[j]? = m[j]?) ?_ ?_ ?_ ?_
  ·simp only [Zb, kp, Qa0, Qa3, ↓reduceIte, Nat.reduceEqDiff, Qb, Qf, reduceCtorEq]
  ·intro j hj; omega
  ·intro i hi hc
   obtain ⟨n, hn⟩ : ∃ n, l[i]? = some n := ⟨_, Q4 hi⟩
   obtain ⟨n', hn'⟩ : ∃ n, m[i]? = some n := ⟨_, Q4 (by omega)⟩
   have hlt : (i : Int) < l.length := by omega
   have hlt2 : (i : Int) < m.length := by omega
   have h3 : inI ((i : Int) + 1) := by unfold inI; omega
   by_cases e : n = n'
   ·subst e
    simp only [hn, hn', hlt, hlt2, h3, Zf, Zd, Qah, Qa9, Qbv, Qa8, Qab, Qac, Qa5, Qbb, Qad, Qaj, Qa6, Qa2, Fam.step, Qae, runX, eff, Qb9, fpR, fpQ, fpV, Qc4, hits, evO, opv, qv, binV, ldV, iadV, lenV, kp, Qa1, Qa0, Qa3, ↓reduceIte, Nat.reduceEqDiff, Nat.reduceLeDiff, Qb, Qf, Qp, Qc, Qe, Qg, Qy, Q0, Ql, Q6, Qv, Q8, Qw, Q9, Q2, Qi, Qo, Qs, Q3, Qn, Qt, Qz, Qa, decide_true, true_and, and_true, and_self, reduceCtorEq, Q1, Za, Q7, Qh, Q5, Qm, Qx, eI]
    intro j hj
    by_cases hji : j < i
    ·exact hc j hji
    ·have : j = i := by omega
     subst this
     rw [hn, hn']
   ·have : ¬ l = m := fun e2 => by rw [e2, hn'] at hn; exact e (Xb.inj hn).symm
    simp only [hn, hn', hlt, hlt2, e, this, Qah, Qa9, Qbv, Qa8, Qab, Qac, Qaf, Qa5, Qbb, Qad, Qaj, Qa6, Qa2, Fam.step, Qae, runX, eff, Qb9, fpR, fpQ, fpV, Qc4, hits, evO, opv, qv, binV, ldV, iadV, lenV, kp, Qa1, Qa0, Qa3, ↓reduceIte, Nat.reduceEqDiff, Nat.reduceLeDiff, Qb, Qf, Qp, Qc, Qe, Qg, Qy, Q0, Ql, Q6, Qv, Q8, Qw, Q9, endQ, rvs, rv1, resV, vw_b, Q2, Qi, Qo, Qs, Q3, Qn, Qt, Qz, Qa, decide_true, decide_false, and_self, reduceCtorEq, Q1, Za, Q7, Qh, Q5, Qm, Qx, eI]
  ·intro hc
   have hlt : ¬ ((l.length : Int) < l.length) := by omega
   have e : l = m := by
    apply List.ext_getElem?
    intro j
    by_cases hj : j < l.length
    ·exact hc j hj
    ·rw [Z5 (by omega), Z5 (by omega)]
   subst e
   simp only [hlt, eq_self, Qa9, Qa8, Qab, Qb0, Qaf, Qa5, Qad, Qaj, Qa6, Qa2, Fam.step, Qae, evO, opv, qv, binV, lenV, Qa1, Qa0, Qa3, ↓reduceIte, Nat.reduceEqDiff, Qb, Qf, endQ, rvs, rv1, resV, vw_b, Qa, decide_true, decide_false, and_self, reduceCtorEq, Qh]
def e28 (a : List Int × List Int) : List V := [.sl 1 (a.1.map eI), .sl 1 (a.2.map eI)]
def d28 : List V → List Int × List Int | [.sl _ x0, .sl _ x1] => (x0.map dI, x1.map dI) | _ => ([], [])
theorem Qvk (a : List Int × List Int) : d28 (e28 a) = a := by simp [d28, e28, Function.comp_def, Qd4]
noncomputable def HN8 : Gam := HN7.ext 28 (fnG e28 d28 (fun a => (fun (l : List Int) (m : List Int) => l.length ≤ 1000000) a.1 a.2) (fun a => (fun (l : List Int) (m : List Int) => decide (l = m)) a.1 a.2) .b)
theorem Qv0 : GOk Try.prog HN8 := Quz.ext (f := 28) (fun a w => Try.call28 a w) (Qb4 (e := e28) (d := d28) (ok := (fun a => (fun (l : List Int) (m : List Int) => l.length ≤ 1000000) a.1 a.2)) (g := (fun a => (fun (l : List Int) (m : List Int) => decide (l = m)) a.1 a.2)) (eb := .b) fun a h => W28 a.1 a.2 h)
theorem h28 (l : List Int) (m : List Int) : HN8 28 [.sl 1 (l.map eI), .sl 1 (m.map eI)] = (l.length ≤ 1000000, .b (decide (l = m))) :=
 (show HN8 28 _ = fnG e28 d28 (fun a => (fun (l : List Int) (m : List Int) => l.length ≤ 1000000) a.1 a.2) (fun a => (fun (l : List Int) (m : List Int) => decide (l = m)) a.1 a.2) .b (e28 (l, m)) from rfl).trans (Qb6 _ (Qvk _))
def exS0 : Stand := ⟨4, [⟨1, 0, 0, [1, 2]⟩, ⟨2, 3, 0, [3]⟩, ⟨4, 1, 2, []⟩], 0⟩
theorem W49 : Qal Try.prog 49 [] (.ag (Qa7 exS0)) := by
 refine Qak Qv0 hmix Try.func49 cb49 cc49 cs49 cn49 ?_
 simp only [rc49, rs49, exS0, Zh, Zn, Qa9, Qa8, Qaf, Qa5, Qcl, putB, Qad, Qa6, Qa2, Fam.step, Qae, Qce, Qb7, putB, nv, sv, evO, opv, qv, ldV, Qar, putAt, Qbd, Qb3, V.cells, Qaw, Qbq, Qaa, Qa4, Qa1, Qbw, Qa0, Qa3, ↓reduceIte, Nat.reduceEqDiff, Nat.reduceAdd, Nat.reduceMul, Nat.reduceLeDiff, Qb, Qf, Qq, Qp, Qc, Qe, Qd, Qj, Zu, Qk, Zj, Qu, Qy, Q0, Ql, Zc, Zi, Qw, Zm, endQ, rvs, rv1, resV, vw_i, vw_z, Qan, Qax, zipA, Qi, Qo, Qn, true_and, and_self, reduceCtorEq, not_false_eq_true, ne_eq, eWord, Qa7, eI]
 rfl
noncomputable def HN9 : Gam := HN8.ext 49 fun vs => (vs = [], .ag (Qa7 exS0))
theorem Qv1 : GOk Try.prog HN9 := Qv0.ext (f := 49) (fun a w => Try.call49 a w) fun vs h => by
 have e : vs = [] := h
 subst e
 exact W49
theorem h49 : HN9 49 [] = (True, .ag (Qa7 exS0)) := by
 refine (show HN9 49 [] = ((([] : List V) = []), V.ag (Qa7 exS0)) from rfl).trans ?_
 simp
theorem Qjc : Qas exS0 := by
 intro w hw
 simp [exS0] at hw
 rcases hw with rfl | rfl | rfl <;> simp
theorem Qhb : Qb2 exS0 = 0 := by decide
theorem Qdg : Qag exS0 = [[1, 3, 2, 0], [2, 1, 3, 0]] := by decide +kernel
theorem Qm7 : Qbo exS0 [] = ([[1, 3, 2, 0], [2, 1, 3, 0]], 0) := by
 unfold Qbo
 rw [if_neg (by rw [Qhb]; simp), if_neg (by simp), Qdg]
 rfl
theorem Qih {l : List (List Int)} {g n : Int} (h : ∀ t ∈ l, 0 ≤ atN t g ∧ atN t g ≤ n - 1) : Qc1 l g = (ints 0 (n - 1)).filter fun u => l.any fun t => decide (atN t g = u) := by
 have hd := Qkj (colN l g)
 refine Qj5 hd.1 ?_ fun x => ?_
 ·refine List.Pairwise.filter _ ?_
  unfold ints
  rw [List.pairwise_map]
  refine List.Pairwise.imp ?_ List.pairwise_lt_range
  intro a b hab; omega
 ·unfold Qc1
  rw [hd.2, Z3, Qhf, Zt]
  unfold colN
  rw [List.mem_map]
  constructor
  ·rintro ⟨t, ht, rfl⟩
   exact ⟨h t ht, t, ht, by simp⟩
  ·rintro ⟨_, t, ht, e⟩
   exact ⟨t, ht, by simpa using e⟩
theorem Qjd : ∀ g : Int, 0 ≤ g → g ≤ 3 → Qc1 (Qag exS0) g = (ints 0 3).filter fun u => (Qag exS0).any fun t => decide (atN t g = u) := fun g h1 h2 => by
 refine Qih (n := 4) fun t ht => ?_
 have hS : OkS exS0 := Qfa Qhb Qjc
 have := (Qeb (n := 4) (Qdq.1 ht).1 (x := g) (by omega)).2
 omega
theorem Qoc : Qcz exS0 = ([-1, -1, -1, 0], 0) := by
 unfold Qcz Qcw
 rw [Qm7, if_pos rfl]
 have e : ints 0 (exS0.guests - 1) = [0, 1, 2, 3] := by decide
 rw [e]
 simp only [Qb, Qf]
 rw [Qjd 0 (by decide) (by decide), Qjd 1 (by decide) (by decide), Qjd 2 (by decide) (by decide), Qjd 3 (by decide) (by decide), Qdg]
 decide +kernel
theorem Qrq : Qf4 exS0 = (2, 0) := by
 unfold Qf4
 rw [if_pos Qhb, Qdg]; rfl
theorem Qq4 : (Qcd exS0).1 = 1 ∧ (Qcd exS0).2.2 = 0 := by
 have hS : OkS exS0 := Qfa Qhb Qjc
 have hT := Qd3 hS
 have hne : Qag exS0 ≠ [] := by rw [Qdg]; simp
 obtain ⟨h1, h2⟩ := Qfj hT hne
 have c1 : canB 1 (Qag exS0) = true := by rw [Qdg]; decide +kernel
 have c0 : ¬ canB 0 (Qag exS0) = true := by rw [Qdg]; decide +kernel
 have hle := h2 1 c1
 have hge : Qe6 (Qag exS0) ≠ 0 := fun e => by rw [e] at h1; exact c0 h1
 have e1 : Qe6 (Qag exS0) = 1 := by omega
 unfold Qcd
 rw [Qm7, if_pos rfl]
 exact ⟨by show (Qe6 (Qag exS0) : Int) = 1; rw [e1]; rfl, rfl⟩
theorem Qrp : ((Qee [1, 2, 0, 3]).1.length, (Qee [1, 2, 0, 3]).2) = (2, 0) := by decide +kernel
theorem Qod : (Qc9 [1, 2, 0, 3]).2.2 = 0 ∧ 0 < (Qc9 [1, 2, 0, 3]).1.length + (Qc9 [1, 2, 0, 3]).2.1.length ∧ (Qc9 [1, 2, 0, 3]).1.length + (Qc9 [1, 2, 0, 3]).2.1.length ≤ 100 := by decide +kernel
theorem Qtb (s : Stand)  : HN9 16 [.ag (Qa7 s)] = (Qas s, ((fun r => .tp [.i r.1, .i r.2])) (Qf4 s)) := h16 s
theorem Qtg (s : Stand)  : HN9 41 [.ag (Qa7 s)] = (Qas s, ((fun r => .tp [.sl 1 (r.1.map eI), .i r.2])) (Qcz s)) := h41 s
theorem Qtc (s : Stand)  : HN9 17 [.ag (Qa7 s)] = (Qas s, ((fun r => .tp [.i r.1, .i r.2.2])) (Qcd s)) := h17 s
theorem Qtd (t : List Int)  : HN9 19 [.sl 1 (t.map eI)] = (t.length ≤ 1000000, ((fun r => .tp [.i r.1.length, .i r.2])) (Qee t)) := h19 t
theorem Qte (t : List Int)  : HN9 24 [.sl 1 (t.map eI)] = (t.length ≤ 1000000, r3V (Qc9 t)) := h24 t
theorem Qtf (l : List Int) (m : List Int)  : HN9 28 [.sl 1 (l.map eI), .sl 1 (m.map eI)] = (l.length ≤ 1000000, .b (decide (l = m))) := h28 l m
set_option maxHeartbeats 1000000 in
theorem W15 : Qal Try.prog 15 [] (.b true) := by
 refine Qak Qv1 hmix Try.func15 cb15 cc15 cs15 cn15 ?_
 have g1 := Qtb exS0
 have g2 := Qtg exS0
 have g3 := Qtc exS0
 have g4 := Qtd [1, 2, 0, 3]
 have g5 := Qte [1, 2, 0, 3]
 have g6 := Qtf [-1, -1, -1, 0] [-1, -1, -1, 0]
 obtain ⟨e1, e2⟩ := Qq4
 obtain ⟨e3, e4, e5⟩ := Qod
 have e6 := Qrp
 rw [Prod.mk.injEq] at e6
 rw [Qrq] at g1
 rw [Qoc] at g2
 simp only [e1, e2] at g3
 simp only [e6.1, e6.2] at g4
 simp only [r3V, e3] at g5
 have hsh := Qjc
 obtain ⟨X, hX⟩ : ∃ X, X = exS0 := ⟨_, rfl⟩
 have hE := h49
 have eX : Qa7 exS0 = [V.i 4, V.sl 4 (exS0.words.map eWord), V.i 0] := rfl
 rw [eX] at g1 g2 g3 hE
 simp only [eI, Qb, Qf, Qc, Qe] at g2 g4 g5 g6
 have c2 : ∀ a b c d : V, Qc5 1 [a, b, c, d] 0 4 = [[a], [b], [c], [d]] := fun _ _ _ _ => rfl
 simp only [rc15, rs15, hE, g1, g2, g3, g4, g5, g6, hsh, Zh, Zn, c2, Qa9, Qa8, Qaf, Qa5, putB, Qad, Qa6, Qa2, Fam.step, Qae, Qce, Qb1, Qb7, Qat, ug, putB, nv, sv, evO, opv, qv, Qai, binV, ldV, lenV, Qap, Qar, putAt, Qbd, Qb3, V.cells, Qaw, Qbq, Qaa, Qa4, flat, Qd5, Qa1, Qbw, Qa0, Qa3, ↓reduceIte, Nat.reduceEqDiff, Nat.reduceAdd, Nat.reduceMul, Nat.reduceLT, Nat.reduceLeDiff, Int.reduceNeg, Qb, Qf, Qq, Qp, Qc, Qe, Qd, Qj, Zu, Qk, Zj, Qu, Qy, Q0, Ql, Zc, Ze, Qv, Zi, Qw, Zm, endQ, rvs, rv1, resV, vw_i, vw_b, Qan, Qax, zipA, beq_self_eq_true, Qi, V.b.injEq, Qo, Qs, Zs, Qn, Qa, Qr, decide_true, decide_eq_true_eq, decide_eq_false_iff_not, true_and, and_true, and_self, forall_const, implies_true, reduceCtorEq, not_false_eq_true, ne_eq, beq_true, Qnh, imp_self, Qh]
 have i1 : inI (((Qc9 [1, 2, 0, 3]).1.length : Int) + (Qc9 [1, 2, 0, 3]).2.1.length) := by unfold inI; omega
 have i2 : (0 : Int) < ((Qc9 [1, 2, 0, 3]).1.length : Int) + (Qc9 [1, 2, 0, 3]).2.1.length := by omega
 have i3 : ((2 : Nat) : Int) = 2 := rfl
 simp only [i1, i2, i3, and_self, decide_true, Qo, implies_true]
theorem call15 (hG : GOk Try.prog Γ) : GOk Try.prog (Γ.ext 15 fun vs => (vs = [], .b true)) := hG.ext (f := 15) (fun a w => Try.call15 a w) fun vs h => by
 have e : vs = [] := h
 subst e
 exact W15
noncomputable def HN10 : Gam := HN9.ext 15 fun vs => (vs = [], .b true)
theorem Qr5 : GOk Try.prog HN10 := call15 Qv1
theorem h15 : HN10 15 [] = (True, .b true) := by
 refine (show HN10 15 [] = ((([] : List V) = []), V.b true) from rfl).trans ?_
 simp
end Go.C10
set_option maxRecDepth 8000
namespace Go.C10
open Go.Fam Go.Proofs
end Go.C10
set_option linter.unusedSimpArgs false
set_option linter.unusedVariables false
namespace Go.C10
open Go.Fam Go.Proofs
variable {Γ : Gam}
end Go.C10
set_option maxRecDepth 8000
namespace Go.C10
open Go.Fam Go.Proofs
def rc30 : RC := (.seq (.reg false [(cX 1 0), ⟨(some 2), none, [], none, .w (.alc [(.i 0), (.z 4), (.i 0)])⟩]) (.keep [1,2] (.seq (.reg false [(cLd 5 1 true 3), ⟨(some 3), none, [], none, .w (.alc [(.i 0), (.z 4), (.i 0)])⟩, ⟨none, none, [3,5], none, .w (.st 3 (.t 3) (.t 5))⟩]) (.keep [1,2,3] (.seq (.reg false [⟨(some 6), none, [], none, .w (.bso 4 0 [(.i 0), (.i 0), (.i 0), (.z 1)] [])⟩, (cFa 7 1 1), (cLd 8 7 false 1), ⟨(some 9), none, [6,8], none, .w (.app 4 (.t 6) (.t 8))⟩, (cFa 10 3 1), ⟨none, none, [10,9], none, .w (.st 1 (.t 10) (.t 9))⟩]) (.keep [1,2,3] (.seq (.seq (.reg false [(cI 4 0)]) (.keep [1,2,3,4] (.block 0 (.loop [1,2,3,4] (some 3) (.seq (.seq (.reg false [(cMv 11 4), (cFa 12 3 1), (cLd 13 12 false 1), (cLn 14 13), (cB 15 .lss 11 14)]) (.keep [1,2,3,4,15] (.cond (.t 15) .skip (.exit 0)))) (.keep [1,2,3,4] (.seq (.block 1 (.any false 2 [⟨(cFa 18 3 1), [], []⟩, ⟨(cLd 19 18 false 1), [], [0]⟩, ⟨(cMv 20 4), [], []⟩, ⟨⟨(some 21), none, [], (some 0), .w (.bso 1 0 [(.i 0)] [])⟩, [0,1,2], []⟩, ⟨(cFa 22 1 1), [3], []⟩, ⟨(cLd 23 22 false 1), [3], [4]⟩, ⟨(cMv 24 4), [3], []⟩, ⟨(cA 25 4 23 24), [3], [5,4,6]⟩, ⟨(cFa 26 25 3), [3], [7,5,4,6]⟩, ⟨(cLd 27 26 false 1), [3], [8,7,5,4,6]⟩, ⟨⟨(some 28), none, [21,27], (some 1), .w (.app 1 (.t 21) (.t 27))⟩, [0,1,2], [3,9,8,7,5,4,6]⟩, ⟨(cA 29 4 19 20), [], [1,0,2,3,4,5,6,7,8,9,10]⟩, ⟨(cFa 30 29 3), [], [11,1,0,2,3,4,5,6,7,8,9,10]⟩, ⟨⟨none, none, [30,28], none, .w (.st 1 (.t 30) (.t 28))⟩, [], [12,11,1,0,2,3,4,5,6,7,8,9,10]⟩])) (.drp 3 (.keep [1,2,3,4] (.reg false [(cMv 16 4), (cC 17 .add 16 1), (cMv 4 17)])))))))))) (.keep [2,3] (.seq (.reg false [(cLd 31 3 true 3), ⟨none, none, [2,31], none, .w (.st 3 (.t 2) (.t 31))⟩]) .ret)))))))))
def pu30 : List Nat := [1]
def rs30 : List RV := [.c 2 true 3]
theorem cc30 : CCx Try.prog Try.f30 pu30 rc30 := by unfold CCx; kernel_rfl
theorem cb30 : CBx Try.f30 := by unfold CBx; kernel_rfl
theorem cs30 : CSx Try.prog Try.f30 rs30 := by unfold CSx; kernel_rfl
theorem cn30 : 1 ≤ Try.f30.ntmps := by decide
end Go.C10
set_option linter.unusedSimpArgs false
set_option linter.unusedVariables false
namespace Go.C10
open Go.Fam Go.Proofs
variable {Γ : Gam}
def Qqa (s : Stand) (t : List Int) : Bool := decide ((t.length : Int) = s.guests) && (takB t && Qda s t)
def e40 (a : Stand × List Int) : List V := [.ag (Qa7 a.1), .sl 1 (a.2.map eI)]
def d40 : List V → Stand × List Int | [.ag x0, .sl _ x1] => (Qav x0, x1.map dI) | _ => (Qav [], [])
noncomputable def HQ1 : Gam := HN10.ext 40 (fnG e40 d40 (fun a => (fun (s : Stand) (t : List Int) => OkS s) a.1 a.2) (fun a => (fun (s : Stand) (t : List Int) => Qqa s t) a.1 a.2) .b)
end Go.C10
set_option linter.unusedSimpArgs false
set_option linter.unusedVariables false
namespace Go.C10
open Go.Fam Go.Proofs
variable {Γ : Gam}
end Go.C10
set_option linter.unusedSimpArgs false
set_option linter.unusedVariables false
namespace Go.C10
open Go.Fam Go.Proofs
variable {Γ : Gam}
def e64n (s : Stand) : List V := [.ag (Qa7 s), .sl 1 []]
def d64n : List V → Stand | [.ag s, _] => Qav s | _ => Qav []
noncomputable def HR1 : Gam := HQ1.ext 64 (fnG e64n d64n OkS Qag (fun l => .sl 1 (l.map eCan)))
def Qop (s : Stand) (g : Int) : List (List Int) × Int :=
 if Qb2 s ≠ 0 then ([], Qb2 s) else if g ≠ -1000000 ∧ Qao s.guests g = false then ([], 1) else if Qag s = [] then ([], 3) else (Qag s, 0)
def e60 (a : Stand × Int) : List V := [.ag (Qa7 a.1), .i a.2]
def d60 : List V → Stand × Int | [.ag x0, .i x1] => (Qav x0, x1) | _ => (Qav [], 0)
theorem Qw0 (a : Stand × Int) : d60 (e60 a) = a := by simp [d60, e60, Qbe]
noncomputable def HR2 : Gam := HR1.ext 60 (fnG e60 d60 (fun a => (fun (s : Stand) (g : Int) => Qas s) a.1 a.2) (fun a => (fun (s : Stand) (g : Int) => Qop s g) a.1 a.2) (fun r => .tp [.sl 1 (r.1.map eCan), .i r.2]))
theorem h60 (s : Stand) (g : Int) : HR2 60 [.ag (Qa7 s), .i g] = (Qas s, ((fun r => .tp [.sl 1 (r.1.map eCan), .i r.2])) (Qop s g)) :=
 (show HR2 60 _ = fnG e60 d60 (fun a => (fun (s : Stand) (g : Int) => Qas s) a.1 a.2) (fun a => (fun (s : Stand) (g : Int) => Qop s g) a.1 a.2) (fun r => .tp [.sl 1 (r.1.map eCan), .i r.2]) (e60 (s, g)) from rfl).trans (Qb6 _ (Qw0 _))
structure OkL (l : List (List Int)) (g : Int) : Prop where
 len : l.length ≤ 1000000
 gd : 0 ≤ g ∧ g ≤ 1000
 at_ : ∀ t ∈ l, (t.length : Int) = g
theorem OkL.where_ {l : List (List Int)} {g x u : Int} (h : OkL l g) : OkL (Qcv l x u) g := by
 refine ⟨?_, h.gd, fun t ht => h.at_ t (Z3.1 ht).1⟩
 have := Zw (fun t => decide (atN t x = u)) l
 have := h.len
 unfold Qcv; omega
end Go.C10
set_option linter.unusedSimpArgs false
set_option linter.unusedVariables false
namespace Go.C10
open Go.Fam Go.Proofs
variable {Γ : Gam}
end Go.C10
set_option linter.unusedSimpArgs false
set_option linter.unusedVariables false
namespace Go.C10
open Go.Fam Go.Proofs
variable {Γ : Gam}
end Go.C10
set_option linter.unusedSimpArgs false
set_option linter.unusedVariables false
namespace Go.C10
open Go.Fam Go.Proofs
variable {Γ : Gam}
def okC (s : Stand) : Prop := s.words.length ≤ 1000000 ∧ Qas s
theorem Qfm : ∀ ws : List Word, Qa4 (ws.map eWord).flatten = false
 | [] => rfl
 | w :: ws => by rw [Qb, Zh, Qbx, Qfm ws]; rfl
theorem Qqb (ws : List Word) : (ws.map eWord).flatten.length = ws.length * 4 := Qhd (e := eWord) (k := 4) (fun _ => rfl) ws
theorem vw_W (hp : List Blk) (n : Nat) (ws : List Word) : (ws.map eWord).map (fun r => r.map (vw hp (n + 1))) = ws.map eWord := Qfk (e := eWord) hp (n + 1) (fun _ => rfl) ws
theorem Qko : ∀ (ws : List Word) (i : Nat) (w : Word), ws[i]? = some w → (ws.map eWord).flatten[i * 4 + 3]? = some (.sl 1 (w.among.map eI))
 | [], i, w, h => by cases h
 | a :: ws, 0, w, h => by cases h; rfl
 | a :: ws, i + 1, w, h => by
  rw [Qb, Zh, List.getElem?_append_right (by show 4 ≤ _; omega)]
  rw [show (i + 1) * 4 + 3 - (eWord a).length = i * 4 + 3 from by show (i + 1) * 4 + 3 - 4 = _; omega]
  exact Qko ws i w (by simpa using h)
theorem Qqm {α : Type} {l : List α} {k : Nat} {x : α} (h : l[k]? = some x) : l.take k ++ [x] ++ l.drop (k + 1) = l := by
 obtain ⟨hk, rfl⟩ := List.getElem?_eq_some_iff.1 h
 rw [List.append_assoc, List.singleton_append, ← List.drop_eq_getElem_cons hk, Z6]
theorem Qja (hp : List Blk) (n : Nat) : ∀ (a b : List V), cutL hp n (a ++ b) = cutL hp n a ++ cutL hp n b
 | [], b => rfl
 | v :: a, b => by simp only [Qy, cutL, Qja hp n a b]
theorem Qj0 {l : List V} (h : Qa4 l = false) (k : Nat) : Qa4 (l.take k) = false ∧ Qa4 (l.drop k) = false := by
 have := h
 rw [← Z6 k l, Qbx, Zl] at this
 exact this
theorem Qv9 (n : Nat) : ∀ l : List Int, upL n (l.map eI).flatten = (l.map eI).flatten
 | [] => rfl
 | a :: l => by
  have := Qv9 n l
  simp only [Qb, Zh, eI, Qy, Q0, upL, upV] at this ⊢
  rw [this]
theorem Qrk {hp : List Blk} {n i : Nat} {ws : List Word} {w : Word} {v : V} (hw : ws[i]? = some w) (hv : cutV hp n v = .sl 1 (w.among.map eI)) :
  cutL hp n ((ws.map eWord).flatten.take (i * 4 + 3) ++ [v] ++ (ws.map eWord).flatten.drop (i * 4 + 3 + 1)) = (ws.map eWord).flatten := by
 have h1 := Qj0 (Qfm ws) (i * 4 + 3)
 have h2 := Qj0 (Qfm ws) (i * 4 + 3 + 1)
 rw [Qja, Qja, Qaq _ _ _ h1.1, Qaq _ _ _ h2.2]
 have e : cutL hp n [v] = [.sl 1 (w.among.map eI)] := by simp only [cutL, hv]
 rw [e]
 exact Qqm (Qko ws i w hw)
end Go.C10
set_option maxRecDepth 8000
namespace Go.C10
open Go.Fam Go.Proofs
def rc8 : RC := (.seq (.reg false [(cX 3 0), (cX 4 1), (cQ 6 [] (.mv (kB false)))]) (.keep [2,3,4] (.seq (.seq (.reg true [(cLd 17 3 true 3), (cQ 18 [17] (.call (kF 35) [(.t 17)])), (cMv 19 18), (gQ 20 19 false [3] (.ld true 3 (.t 3))), (gQ 21 19 false [20] (.call (kF 36) [(.t 20)])), (gQ 22 19 false [21] (.bin .neq (.t 21) (kI 0))), (cQ 23 [19,22] (.pick (.t 19) (kB true) (.t 22))), (cMv 24 23), (gQ 25 24 false [3] (.fad 1 (.t 3))), (gQ 26 24 false [25] (.ld false 1 (.t 25))), (gQ 27 24 false [26] (.len (.t 26))), (gQ 28 24 false [27] (.bin .geq (.t 27) (kI 20))), (cQ 29 [24,28] (.pick (.t 24) (kB true) (.t 28))), (cMv 30 29), (gQ 31 30 false [4] (.fad 3 (.t 4))), (gQ 32 30 false [31] (.ld false 1 (.t 31))), (gQ 33 30 false [32] (.len (.t 32))), (gQ 34 30 false [33] (.bin .gtr (.t 33) (kI 20))), (cQ 35 [30,34] (.pick (.t 30) (kB true) (.t 34))), (cMv 36 35), (gMv 37 36 false 2), (gQ 38 36 false [37] (.bin .lss (.t 37) (kI 0))), (cQ 39 [36,38] (.pick (.t 36) (kB true) (.t 38))), (cMv 40 39), (gMv 41 40 false 2), (gQ 42 40 false [3] (.fad 0 (.t 3))), (gQ 43 40 false [42] (.ld false 1 (.t 42))), (gQ 44 40 false [41,43] (.bin .geq (.t 41) (.t 43))), (cQ 45 [40,44] (.pick (.t 40) (kB true) (.t 44)))]) (.keep [2,3,4,45] (.cond (.t 45) (.seq (.reg false [(cQ 46 [] (.call (kF 15) [])), (cMv 6 46)]) .ret) .skip))) (.keep [2,3,4] (.seq (.reg false [(cLd 47 3 true 3), ⟨(some 48), none, [47], none, .o (kF 30) [(.t 47)]⟩, ⟨(some 7), none, [], none, .w (.alc [(.i 0), (.z 4), (.i 0)])⟩, ⟨none, none, [7,48], none, .w (.st 3 (.t 7) (.t 48))⟩]) (.keep [2,3,4,7] (.seq (.reg false [(cFa 49 7 1), (cLd 50 49 false 1), (cLd 51 4 true 4), (cQ 52 [51] (.bsl 4 1 [(.i 0), (.i 0), (.i 0), (.z 1)] [(0,4, (.t 51))])), ⟨(some 53), none, [50,52], none, .w (.app 4 (.t 50) (.t 52))⟩, (cFa 54 7 1), ⟨none, none, [54,53], none, .w (.st 1 (.t 54) (.t 53))⟩]) (.keep [2,3,7] (.seq (.seq (.drp 0 (.reg false [(cLd 55 7 true 3), (cQ 56 [55] (.call (kF 36) [(.t 55)])), (cC 57 .neq 56 0)])) (.keep [2,3,7,57] (.cond (.t 57) (.seq (.reg false [(cQ 58 [] (.call (kF 15) [])), (cMv 6 58)]) .ret) .skip))) (.keep [2,3,7] (.seq (.reg false [(cLd 60 3 true 3), (cQ 61 [60] (.call (kF 16) [(.t 60)])), (cMv 59 61), (cEx 62 59 0), (cEx 63 59 1), (cMv 8 62), (cMv 9 63)]) (.keep [2,3,7,8,9] (.seq (.reg false [(cLd 65 7 true 3), (cQ 66 [65] (.call (kF 16) [(.t 65)])), (cMv 64 66), (cEx 67 64 0), (cEx 68 64 1), (cMv 10 67), (cMv 11 68)]) (.keep [2,3,7,8,9,10,11] (.seq (.reg false [(cLd 70 3 true 3), (cMv 71 2), (cQ 72 [70,71] (.call (kF 37) [(.t 70), (.t 71)])), (cMv 69 72), (cEx 73 69 0), (cEx 74 69 1), (cMv 12 73), (cMv 13 74)]) (.keep [2,3,7,8,9,10,11,12,13] (.seq (.reg false [(cLd 76 7 true 3), (cMv 77 2), (cQ 78 [76,77] (.call (kF 37) [(.t 76), (.t 77)])), (cMv 75 78), (cEx 79 75 0), (cEx 80 75 1), (cMv 14 79), (cMv 15 80)]) (.keep [3,8,9,10,11,12,13,14,15] (.seq (.seq (.reg true [(cMv 81 9), (cC 82 .neq 81 0), (cMv 83 82), (gMv 84 83 false 11), (gQ 85 83 false [84] (.bin .neq (.t 84) (kI 0))), (cQ 86 [83,85] (.pick (.t 83) (kB true) (.t 85))), (cMv 87 86), (gMv 88 87 false 10), (gMv 89 87 false 8), (gQ 90 87 false [88,89] (.bin .gtr (.t 88) (.t 89))), (cQ 91 [87,90] (.pick (.t 87) (kB true) (.t 90))), (cMv 92 91), (gMv 93 92 false 10), (gQ 94 92 false [93] (.bin .lss (.t 93) (kI 0))), (cQ 95 [92,94] (.pick (.t 92) (kB true) (.t 94))), (cMv 96 95), (gMv 97 96 false 13), (gQ 98 96 false [97] (.bin .eql (.t 97) (kI 0))), (gMv 99 96 false 8), (gQ 100 96 false [99] (.bin .gtr (.t 99) (kI 0))), (gQ 101 96 false [98,100] (.bq true (.t 98) (.t 100))), (cQ 102 [96,101] (.pick (.t 96) (kB true) (.t 101))), (cMv 103 102), (gMv 104 103 false 15), (gQ 105 103 false [104] (.bin .eql (.t 104) (kI 0))), (gMv 106 103 false 10), (gQ 107 103 false [106] (.bin .gtr (.t 106) (kI 0))), (gQ 108 103 false [105,107] (.bq true (.t 105) (.t 107))), (cQ 109 [103,108] (.pick (.t 103) (kB true) (.t 108))), (cMv 110 109), (gMv 111 110 false 12), (gQ 112 110 false [111] (.len (.t 111))), (gQ 113 110 false [3] (.fad 0 (.t 3))), (gQ 114 110 false [113] (.ld false 1 (.t 113))), (gQ 115 110 false [112,114] (.bin .gtr (.t 112) (.t 114))), (cQ 116 [110,115] (.pick (.t 110) (kB true) (.t 115))), (cMv 117 116), (gMv 118 117 false 14), (gQ 119 117 false [118] (.len (.t 118))), (gMv 120 117 false 12), (gQ 121 117 false [120] (.len (.t 120))), (gQ 122 117 false [119,121] (.bin .gtr (.t 119) (.t 121))), (cQ 123 [117,122] (.pick (.t 117) (kB true) (.t 122)))]) (.keep [12,14,123] (.cond (.t 123) (.seq (.reg false [(cQ 6 [] (.mv (kB false)))]) .ret) .skip))) (.keep [12,14] (.seq (.seq (.reg false [(cI 16 0)]) (.keep [12,14,16] (.block 0 (.loop [12,14,16] none (.seq (.seq (.reg false [(cMv 124 16), (cMv 125 14), (cLn 126 125), (cB 127 .lss 124 126)]) (.keep [12,14,16,127] (.cond (.t 127) .skip (.exit 0)))) (.keep [12,14,16] (.seq (.block 1 (.seq (.reg false [(cMv 130 12), (cMv 131 14), (cMv 132 16), (cA 133 1 131 132), (cLd 134 133 false 1), (cQ 135 [130,134] (.call (kF 38) [(.t 130), (.t 134)])), (cN 136 135)]) (.keep [12,14,16,136] (.cond (.t 136) (.seq (.reg false [(cQ 6 [] (.mv (kB false)))]) .ret) .skip)))) (.keep [12,14,16] (.reg false [(cMv 128 16), (cC 129 .add 128 1), (cMv 16 129)]))))))))) (.keep [] (.seq (.reg false [(cQ 137 [] (.call (kF 15) [])), (cMv 6 137)]) .ret)))))))))))))))))))))))
def pu8 : List Nat := [1000048,3,4,52]
def rs8 : List RV := [.t 6]
theorem cc8 : CCx Try.prog Try.f8 pu8 rc8 := by unfold CCx; kernel_rfl
theorem cb8 : CBx Try.f8 := by unfold CBx; kernel_rfl
theorem cs8 : CSx Try.prog Try.f8 rs8 := by unfold CSx; kernel_rfl
theorem cn8 : 3 ≤ Try.f8.ntmps := by decide
end Go.C10
set_option linter.unusedSimpArgs false
set_option linter.unusedVariables false
namespace Go.C10
open Go.Fam Go.Proofs
variable {Γ : Gam}
def Qil (s : Stand) : List V := [.i s.guests, .rf 2 1 0 s.words.length 4, .i s.wrong]
def Qkf (s : Stand) : List V := [bV (.cells 0 (Qil s)), bV (.cells 0 (Qil s)), bV (.cells 1 (s.words.map eWord).flatten)]
theorem W30o (s : Stand) (h : okC s) : Qdd Try.prog 30 [.ag (Qa7 s)] (.ag (Qil s)) ((Qkf s).map vB) := by
 refine Qjx Qr5 hmix Try.func30 cb30 cc30 cs30 cn30 ?_
 obtain ⟨hl, hs⟩ := h
 have hfl : Qaz s.words.length := by unfold Qaz; omega
 have hfl0 : Qaz (0 + s.words.length) := by unfold Qaz; omega
 simp only [rc30, rs30, Zn, Q0, hfl, Z0, Qa9, Qa8, Qac, Qa5, putB, Qad, Qa6, Qa2, Fam.step, Qae, Qce, Qb7, putB, nv, sv, Qc8, evO, opv, qv, ldV, curG, Qar, putAt, Qbd, Qb3, V.cells, Qaw, Qbq, Qaa, Qa4, Qa1, Qbw, Qa0, Qa3, ↓reduceIte, Nat.reduceEqDiff, Nat.reduceAdd, Nat.reduceMul, Nat.reduceLeDiff, Qb, Qf, Qq, Qp, Qc, Qe, Qd, Qj, Zu, Qk, Zj, Qu, Qg, Qy, Q0, Ql, Zc, Ze, Zi, Zv, Qw, vw_i, Qan, Qax, zipA, beq_self_eq_true, Qi, Qo, Qn, Qa, true_and, and_self, Qh, Qa7]
 refine Qch s.words.length (fun i => ⟨lkp [(1, .pa (Qa7 s)), (2, .ad 0 0 0), (3, .ad 1 0 0), (4, .i i)], [.cells 0 [.i 0, .z 4, .i 0], .cells 0 [.i s.guests, .rf 2 1 0 s.words.length 4, .i s.wrong], .cells 1 (s.words.map eWord).flatten]⟩) ?_ ?_ ?_
 ·simp only [Zb, Qaq _ _ _ (Qfm _), cutH, kp, cutV, cutL, cutB, Qa0, Qa3, ↓reduceIte, Nat.reduceEqDiff, Nat.reduceLT, Qb, Qf, Qk, Qu, Qa7]
 ·intro i hi
  obtain ⟨w, hw⟩ : ∃ w, s.words[i]? = some w := ⟨_, Q4 hi⟩
  have hlt : (i : Int) < s.words.length := by omega
  have h4 : inI ((i : Int) + 1) := by unfold inI; omega
  have h5 := hs w (Zg hw)
  have f1 : Qaz w.among.length := by unfold Qaz; omega
  simp only [hw, hlt, h4, f1, Zf, Zd, Zn, Q0, Qah, Qa9, Qbv, Qa8, Qab, Qac, Qa5, Qco, ↓Qby, Qbb, optL, cutH, Qad, Qaj, Qa6, Qa2, Fam.step, Qae, Qb7, runX, eff, Qb9, fpR, fpQ, fpV, Qc4, hits, nv, sv, Qc8, evO, opv, qv, binV, ldV, iadV, lenV, curG, Qar, putAt, Qbd, Qb3, V.cells, Qaw, Qbq, kp, cutV, cutL, cutB, Qa1, Qbw, Qa0, Qa3, ↓reduceIte, Nat.reduceEqDiff, Nat.reduceAdd, Nat.reduceMul, Nat.reduceLT, Nat.reduceLeDiff, Nat.reduceBEq, Qb, Qf, Qq, Qp, Qc, Qe, Qd, Qj, Qk, Zj, Qu, Qg, Qy, Q0, Zc, Ze, Q6, Qv, Q8, Zi, Zv, Qw, Zm, Q9, List.isEmpty_cons, Qe9, Q2, beq_self_eq_true, Qi, Nat.add_zero, Qo, Qs, Zo, Q3, Zs, Qn, Z1, Qt, Qz, Qa, decide_true, true_and, and_true, and_self, Q1, List.any_cons, Za, List.contains_cons, Q7, Qh, Q5, Qm, Qx, eWord, Qa7]
  have hm : i * 4 + 3 + 1 ≤ s.words.length * 4 := by omega
  have hv : ∀ (g1 g2 g3 : Nat) (a b c : List V), cutV [.cells g1 a, .cells g2 b, .cells g3 c, .cells 1 (w.among.map eI).flatten, .hole] 3 (.rf 3 1 0 w.among.length 1) = .sl 1 (w.among.map eI) := fun g1 g2 g3 a b c => by
   have := Qgh w.among
   have hu := Qv9 3 w.among
   simp only [Qh6, Nat.mul_one, Z0, this, vw_I, hpF, upB, Qk, Zj, Qd, Qj, hu, cutV, ↓reduceIte, Nat.reduceLT, Qb, Qf, Qd, Qj, Qk, Zj, Qy, Q0, Zc, Ze, Qe9, Qi, and_self]
  simp only [Qqb, hm, true_and]
  rw [Qrk hw (hv _ _ _ _ _ _), Qaq _ _ _ (Qfm _)]
 ·have h77 : ¬ ((s.words.length : Int) < s.words.length) := by omega
  simp only [h77, Z0, Qkf, Qil, Qa9, Qa8, Qab, Qb0, Qaf, Qa5, Qdb, putB, endO, Qad, Qaj, Qa6, Qa2, Fam.step, Qae, Qce, Qb7, putB, nv, sv, evO, opv, qv, binV, ldV, lenV, curG, putAt, V.cells, Qaw, Qbq, Qa1, Qbw, Qa0, Qa3, ↓reduceIte, Nat.reduceEqDiff, Nat.reduceAdd, Nat.reduceLeDiff, Qb, Qf, Qq, Qp, Qc, Qe, Qd, Qj, Zu, Qk, Zj, Qu, Qg, Q0, Ql, Zc, Ze, Zi, rvs, rv1, resV, beq_self_eq_true, Qi, Qo, Qa, decide_false, and_self, Qa7]
end Go.C10
set_option linter.unusedSimpArgs false
set_option linter.unusedVariables false
namespace Go.C10
open Go.Fam Go.Proofs
variable {Γ : Gam}
def e30o (s : Stand) : List V := [.ag (Qa7 s)]
def d30o : List V → Stand | [.ag s] => Qav s | _ => Qav []
theorem Qto (s : Stand) : d30o (e30o s) = s := by simp [d30o, e30o, Qbe]
noncomputable def HY1 : Gam := HN10.ext 1000030 (fnG e30o d30o okC (fun s => s) fun s => .tp [.ag (Qil s), .tp (Qkf s)])
theorem Qwn : GOk Try.prog HY1 := by
 exact Qr5.extO (f := 30) (r := fnG e30o d30o okC (fun s => s) fun s => .tp [.ag (Qil s), .tp (Qkf s)]) (fun a w => Try.call30 a w) fun vs v bs h1 h2 => by
  simp only [fnG, V.tp.injEq, List.cons.injEq, and_true] at h1 h2
  obtain ⟨h3, h4⟩ := h2
  rw [← h1.1, ← h3, ← h4]
  exact W30o _ h1.2
theorem h30o (s : Stand) : HY1 1000030 [.ag (Qa7 s)] = (okC s, .tp [.ag (Qil s), .tp (Qkf s)]) :=
 (show HY1 1000030 _ = fnG e30o d30o okC (fun s => s) (fun s => .tp [.ag (Qil s), .tp (Qkf s)]) (e30o s) from rfl).trans (Qb6 _ (Qto _))
def Qgp (s : Stand) (w : Word) : Stand := ⟨s.guests, s.words ++ [w], s.wrong⟩
theorem Qnq {s : Stand} {w : Word} {t : List Int} (h : Qda (Qgp s w) t = true) : Qda s t = true := by
 unfold Qda Qdt Qgp at h
 unfold Qda Qdt
 simp only [List.countP_append, decide_eq_true_eq] at h ⊢
 omega
theorem Qii (s : Stand) (w : Word) : Qag (Qgp s w) = (Qag s).filter (Qda (Qgp s w)) := by
 unfold Qag Qca
 rw [Z8]
 refine Xa fun t _ => ?_
 cases h : Qda (Qgp s w) t with
 | false => simp
 | true => rw [Qnq h]; rfl
theorem Qo1 {s : Stand} (hc : Qb2 s = 0) {g : Int} (hg : Qao s.guests g = true) : canR s g = if Qag s = [] then ([], 3) else (Qc1 (Qag s) g, 0) := by
 have e : Qbo s [g] = if Qag s = [] then ([], 3) else (Qag s, 0) := by
  unfold Qbo
  rw [if_neg (by simpa using hc), if_neg (by simp [hg])]
 unfold canR
 rw [e]
 by_cases ht : Qag s = []
 ·rw [if_pos ht, if_pos ht]; rfl
 ·rw [if_neg ht, if_neg ht]; rfl
theorem Qn6 {s : Stand} (hS : OkS s) {g : Int} (hg : Qao s.guests g = true) : Qc1 (Qag s) g = (ints 0 (s.guests - 1)).filter fun u => (Qag s).any fun t => decide (atN t g = u) := by
 refine Qih fun t ht => ?_
 have hgs := hS.guests
 simp only [Qao, Qba, Zk, decide_eq_true_eq] at hg
 have hT := (Qdq.1 ht).1
 have e : ((s.guests.toNat : Nat) : Int) = s.guests := by omega
 have := (Qeb (n := s.guests.toNat) (by rw [e]; exact hT) (x := g) (by omega)).2
 omega
theorem Qnf {l : List Int} {p q : Int → Bool} (h : ∀ u, p u = true → q u = true) : (l.filter p).Sublist (l.filter q) := by
 have : l.filter p = (l.filter q).filter p := by
  rw [Z8]
  refine Xa fun u _ => ?_
  cases hp : p u with
  | false => simp
  | true => rw [h u hp]; rfl
 rw [this]
 exact List.filter_sublist
theorem Qpq {s : Stand} {w : Word} (hS : OkS s) (hO : OkS (Qgp s w)) {g : Int} (hg : Qao s.guests g = true) :
  (Qc1 (Qag (Qgp s w)) g).length ≤ (Qc1 (Qag s) g).length ∧ (∀ u ∈ Qc1 (Qag (Qgp s w)) g, u ∈ Qc1 (Qag s) g) ∧ ((Qc1 (Qag s) g).length : Int) ≤ s.guests := by
 have hgs := hS.guests
 have e1 := Qn6 hS hg
 have e2 := Qn6 hO (g := g) hg
 have hsub : ∀ u, (((Qag (Qgp s w)).any fun t => decide (atN t g = u)) = true) → (((Qag s).any fun t => decide (atN t g = u)) = true) := fun u h => by
  rw [Zt] at h ⊢
  obtain ⟨t, ht, h2⟩ := h
  rw [Qii] at ht
  exact ⟨t, (Z3.1 ht).1, h2⟩
 have hgg : (Qgp s w).guests = s.guests := rfl
 rw [hgg] at e2
 have hss : (Qc1 (Qag (Qgp s w)) g).Sublist (Qc1 (Qag s) g) := by
  rw [e1, e2]
  exact Qnf hsub
 refine ⟨hss.length_le, fun u hu => hss.subset hu, ?_⟩
 rw [e1]
 have := Zw (fun u => (Qag s).any fun t => decide (atN t g = u)) (ints 0 (s.guests - 1))
 rw [Qfz] at this
 omega
theorem Qqt (s : Stand)  : HY1 16 [.ag (Qa7 s)] = (Qas s, ((fun r => .tp [.i r.1, .i r.2])) (Qf4 s)) := h16 s
theorem Qth (s : Stand)  : HY1 35 [.ag (Qa7 s)] = (True, .b (farB s)) := h35 s
theorem Qqu (s : Stand)  : HY1 36 [.ag (Qa7 s)] = (Qas s, .i (Qb2 s)) := h36 s
theorem Qqv (s : Stand) (g : Int)  : HY1 37 [.ag (Qa7 s), .i g] = (Qas s, ((fun r => .tp [.sl 1 (r.1.map eI), .i r.2])) (canR s g)) := h37 s g
theorem Qti (l : List Int) (n : Int)  : HY1 38 [.sl 1 (l.map eI), .i n] = (l.length ≤ 1000000, .b (decide (n ∈ l))) := h38 l n
theorem h15V : HY1 15 [] = (True, .b true) := (show HY1 15 [] = HN10 15 [] from rfl).trans h15
theorem Qpr (n : Nat) : ∀ a b : List V, upL n (a ++ b) = upL n a ++ upL n b
 | [], b => rfl
 | v :: a, b => by simp only [Qy, upL, Qpr n a b]
theorem Qva (n : Nat) : ∀ ws : List Word, upL n (ws.map eWord).flatten = (ws.map eWord).flatten
 | [] => rfl
 | w :: ws => by
  rw [Qb, Zh, Qpr, Qva n ws]
  have : upL n (eWord w) = eWord w := by simp [eWord, upL, upV]
  rw [this]
set_option maxRecDepth 100000 in
set_option maxHeartbeats 4000000 in
theorem P8 (s : Stand) (w : Word) (g : Int) : Qal Try.prog 8 [.ag (Qa7 s), .ag (eWord w), .i g] (.b true) := by
 refine Qak Qwn hmix Try.func8 cb8 cc8 cs8 cn8 ?_
 have g1 := Qth s
 have g2 := Qqu s
 have g3 := h30o s
 simp only [Qa7] at g1 g2 g3
 by_cases hf : farB s = true
 ·simp only [rc8, rs8, eWord, g1, hf, h15V, Qa9, Qa8, Qab, Qaf, Qa5, Qad, Qa6, Qa2, Fam.step, Qae, Qb1, Qat, ug, evO, opv, qv, Qai, Qek, binV, ldV, lenV, Qap, V.cells, Qaw, Qaa, Qa4, flat, Qa1, Qa0, Qa3, ↓reduceIte, Nat.reduceEqDiff, Nat.reduceAdd, Nat.reduceLT, Nat.reduceLeDiff, Qb, Qf, Qq, Qp, Qc, Qe, Qd, Qj, Qk, Qu, Qg, Ql, endQ, rvs, rv1, resV, vw_i, vw_b, Qan, Qax, zipA, Qi, Qo, Qs, Qn, Qt, Qa, Qr, true_and, and_true, and_self, false_and, forall_const, false_implies, implies_true, reduceCtorEq, beq_false, imp_self, Qh, eWord, Qa7]
 have hf' : farB s = false := by simpa using hf
 have hlg := Qhi (Qjg hf')
 have hsh := hlg.1
 by_cases hc : Qb2 s = 0
 rotate_left
 ·simp only [rc8, rs8, eWord, g1, g2, hf, hsh, hc, h15V, Qa9, Qa8, Qab, Qaf, Qa5, Qad, Qa6, Qa2, Fam.step, Qae, Qb1, Qat, ug, evO, opv, qv, Qai, binV, ldV, lenV, Qap, V.cells, Qaw, Qaa, Qa4, flat, Qa1, Qa0, Qa3, ↓reduceIte, Nat.reduceEqDiff, Nat.reduceAdd, Nat.reduceLT, Nat.reduceLeDiff, Qb, Qf, Qq, Qp, Qc, Qe, Qd, Qj, Qk, Qu, Qg, Ql, endQ, rvs, rv1, resV, vw_i, vw_b, Qan, Qax, zipA, beq_self_eq_true, Qi, Qo, Qs, Qn, Qt, Qz, Qa, Qr, decide_false, and_true, and_self, forall_const, implies_true, reduceCtorEq, beq_false, imp_self, Qh, eWord, Qa7]
 have hS := Qfa hc hsh
 have hgs := hS.guests
 by_cases h20 : (20 : Int) ≤ s.words.length
 ·simp only [rc8, rs8, eWord, g1, g2, hf, hsh, hc, h20, h15V, Qa9, Qa8, Qab, Qaf, Qa5, Qad, Qa6, Qa2, Fam.step, Qae, Qb1, Qat, ug, evO, opv, qv, Qai, binV, ldV, lenV, Qap, V.cells, Qaw, Qaa, Qa4, flat, Qa1, Qa0, Qa3, ↓reduceIte, Nat.reduceEqDiff, Nat.reduceAdd, Nat.reduceLT, Nat.reduceLeDiff, Qb, Qf, Qq, Qp, Qc, Qe, Qd, Qj, Qk, Qu, Qg, Ql, endQ, rvs, rv1, resV, vw_i, vw_b, Qan, Qax, zipA, beq_self_eq_true, Qi, Qo, Qs, Qn, Qt, Qa, Qr, decide_true, and_true, and_self, forall_const, implies_true, reduceCtorEq, beq_false, imp_self, Qh, eWord, Qa7]
 by_cases a20 : (20 : Int) < w.among.length
 ·simp only [rc8, rs8, eWord, g1, g2, hf, hsh, hc, h20, a20, h15V, Qa9, Qa8, Qab, Qaf, Qa5, Qad, Qa6, Qa2, Fam.step, Qae, Qb1, Qat, ug, evO, opv, qv, Qai, binV, ldV, lenV, Qap, V.cells, Qaw, Qaa, Qa4, flat, Qa1, Qa0, Qa3, ↓reduceIte, Nat.reduceEqDiff, Nat.reduceAdd, Nat.reduceLT, Nat.reduceLeDiff, Qb, Qf, Qq, Qp, Qc, Qe, Qd, Qj, Qk, Qu, Qg, Ql, endQ, rvs, rv1, resV, vw_i, vw_b, Qan, Qax, zipA, beq_self_eq_true, Qi, Qo, Qs, Qn, Qt, Qa, Qr, decide_true, decide_false, and_true, and_self, forall_const, implies_true, reduceCtorEq, beq_false, imp_self, Qh, eWord, Qa7]
 by_cases k0 : g < 0
 ·simp only [rc8, rs8, eWord, g1, g2, hf, hsh, hc, h20, a20, k0, h15V, Qa9, Qa8, Qab, Qaf, Qa5, Qad, Qa6, Qa2, Fam.step, Qae, Qb1, Qat, ug, evO, opv, qv, Qai, binV, ldV, lenV, Qap, V.cells, Qaw, Qaa, Qa4, flat, Qa1, Qa0, Qa3, ↓reduceIte, Nat.reduceEqDiff, Nat.reduceAdd, Nat.reduceLT, Nat.reduceLeDiff, Qb, Qf, Qq, Qp, Qc, Qe, Qd, Qj, Qk, Qu, Qg, Ql, endQ, rvs, rv1, resV, vw_i, vw_b, Qan, Qax, zipA, beq_self_eq_true, Qi, Qo, Qs, Qn, Qt, Qa, Qr, decide_true, decide_false, and_true, and_self, forall_const, implies_true, reduceCtorEq, beq_false, imp_self, Qh, eWord, Qa7]
 by_cases k1 : s.guests ≤ g
 ·simp only [rc8, rs8, eWord, g1, g2, hf, hsh, hc, h20, a20, k0, k1, h15V, Qa9, Qa8, Qab, Qaf, Qa5, Qad, Qa6, Qa2, Fam.step, Qae, Qb1, Qat, ug, evO, opv, qv, Qai, binV, ldV, lenV, Qap, V.cells, Qaw, Qaa, Qa4, flat, Qa1, Qa0, Qa3, ↓reduceIte, Nat.reduceEqDiff, Nat.reduceAdd, Nat.reduceLT, Nat.reduceLeDiff, Qb, Qf, Qq, Qp, Qc, Qe, Qd, Qj, Qk, Qu, Qg, Ql, endQ, rvs, rv1, resV, vw_i, vw_b, Qan, Qax, zipA, beq_self_eq_true, Qi, Qo, Qn, Qt, Qa, decide_true, decide_false, and_self, forall_const, implies_true, reduceCtorEq, Qh, eWord, Qa7]
 have hC : okC s := ⟨by omega, hsh⟩
 have hgb : Qao s.guests g = true := by simp only [Qao, Qba, Zk, decide_eq_true_eq]; omega
 obtain ⟨o, ho⟩ : ∃ o, o = Qgp s w := ⟨_, rfl⟩
 have o1 : o.guests = s.guests := by rw [ho]; rfl
 have o2 : o.wrong = s.wrong := by rw [ho]; rfl
 have hck : Qc5 4 ((s.words.map eWord).flatten ++ eWord w) 0 (s.words.length + 1) = o.words.map eWord := by
  have := Qeq (e := eWord) (k := 4) (fun _ => rfl) (s.words ++ [w])
  rw [ho]
  simpa [Qgp] using this
 have hup : upL 0 ((s.words.map eWord).flatten ++ eWord w) = (s.words.map eWord).flatten ++ eWord w := by
  have := Qva 0 (s.words ++ [w])
  simpa using this
 have hlw : ((s.words.map eWord).flatten ++ eWord w).length = (s.words.length + 1) * 4 := by
  rw [List.length_append, Qqb]; show _ + 4 = _; omega
 simp only [eWord] at hck hup hlw
 have hf1 : Qaz (s.words.length + 1) := by unfold Qaz; omega
 have hso : Qas o := by
  rw [ho]
  intro v hv
  rcases List.mem_append.1 hv with hv | hv
  ·exact hsh v hv
  ·rw [List.mem_singleton] at hv; rw [hv]; omega
 have p1 := Qqu o
 simp only [Qa7, o1, o2] at p1
 by_cases hco : Qb2 o = 0
 rotate_left
 ·simp only [rc8, rs8, eWord, g1, g2, g3, hf, hsh, hc, h20, a20, k0, k1, hC, Qil, Qkf, hf1, Qqb, Qct _ _ (Qfm _), upL, upV, Zh, Zn, hpF, upB, hck, hup, hlw, Z0, vw_W, p1, hso, h15V, hco, Qah, Qa9, Qa8, Qab, Qaf, Qa5, Qco, Qcl, ↓Qby, Qif, ocV, nidQ, plO, plQ, plB, Qd6, Qg6, Qd9, shV, shL, shB, Qdb, cutH, putB, Qad, Qa6, Qa2, Fam.step, Qae, Qce, Qb1, Qb7, Qat, ug, putB, nv, sv, Qc8, evO, opv, qv, Qai, binV, ldV, lenV, curG, Qap, Qar, putAt, Qbd, Qb3, V.cells, Qaw, Qbq, Qaa, Qa4, flat, cutV, Qa1, Qbw, Qa0, Qa3, ↓reduceIte, Nat.reduceEqDiff, Nat.reduceAdd, Nat.reduceMul, Nat.reduceLT, Nat.reduceLeDiff, Qb, Qf, Qq, Qp, Qc, Qe, Qd, Qj, Zu, Qk, Zj, Qu, Qg, Qy, Q0, Ql, Zc, Ze, Zi, Zv, Qw, Zm, endQ, rvs, rv1, resV, vw_i, vw_b, Qan, Qax, Qnr, Qe9, zipA, beq_self_eq_true, Qi, Qo, Qs, Zo, Q3, Qn, Qt, Qz, Qa, decide_true, decide_false, and_self, forall_const, implies_true, reduceCtorEq, not_false_eq_true, ne_eq, Qh, eWord, Qa7]
 have hO := Qfa hco hso
 have hgo : Qao o.guests g = true := by rw [o1]; exact hgb
 have m1 : Qf4 s = (((Qag s).length : Int), 0) := by unfold Qf4; rw [if_pos hc]
 have m2 : Qf4 o = (((Qag o).length : Int), 0) := by unfold Qf4; rw [if_pos hco]
 have g4 := Qqt s
 have g5 := Qqt o
 have g6 := Qqv s g
 have g7 := Qqv o g
 have hlen : (Qag o).length ≤ (Qag s).length := by rw [ho, Qii]; exact Zw _ _
 have tail : ∃ a b ea eb, canR s g = (a, ea) ∧ canR o g = (b, eb) ∧ decide (ea = 0) = decide ((0 : Int) < (Qag s).length) ∧ decide (eb = 0) = decide ((0 : Int) < (Qag o).length) ∧ (a.length : Int) ≤ s.guests ∧ b.length ≤ a.length ∧ ∀ u ∈ b, u ∈ a := by
  rw [Qo1 hc hgb, Qo1 hco hgo]
  have tk := Qpq (w := w) hS (by rw [← ho]; exact hO) hgb
  rw [← ho] at tk
  by_cases t1 : Qag s = []
  ·have t2 : Qag o = [] := Zx (by rw [t1] at hlen; simpa using hlen)
   rw [if_pos t1, if_pos t2]
   exact ⟨[], [], 3, 3, rfl, rfl, by rw [t1]; rfl, by rw [t2]; rfl, by simp; omega, by simp, by simp⟩
  ·have q1 : (0 : Int) < (Qag s).length := by have := Z7.2 t1; omega
   rw [if_neg t1]
   by_cases t2 : Qag o = []
   ·rw [if_pos t2]
    exact ⟨_, [], 0, 3, rfl, rfl, by rw [decide_eq_true q1]; rfl, by rw [t2]; rfl, tk.2.2, by simp, by simp⟩
   ·have q2 : (0 : Int) < (Qag o).length := by have := Z7.2 t2; omega
    rw [if_neg t2]
    exact ⟨_, _, 0, 0, rfl, rfl, by rw [decide_eq_true q1]; rfl, by rw [decide_eq_true q2]; rfl, tk.2.2, tk.1, tk.2.1⟩
 obtain ⟨a, b, ea, eb, c1, c2, d1, d2, la, lb, hin⟩ := tail
 obtain ⟨M, hM⟩ : ∃ M : Int, M = ((Qag s).length : Int) := ⟨_, rfl⟩
 obtain ⟨N, hN⟩ : ∃ N : Int, N = ((Qag o).length : Int) := ⟨_, rfl⟩
 simp only [Qa7, m1, ← hM] at g4
 simp only [Qa7, o1, o2, m2, ← hN] at g5
 simp only [Qa7, c1] at g6
 simp only [Qa7, o1, o2, c2] at g7
 rw [← hM] at d1
 rw [← hN] at d2
 obtain ⟨r1, hr1⟩ : ∃ r, r = decide (0 < M) := ⟨_, rfl⟩
 obtain ⟨r2, hr2⟩ : ∃ r, r = decide (0 < N) := ⟨_, rfl⟩
 rw [← hr1] at d1
 rw [← hr2] at d2
 have n1 : ¬ M < N ∧ ¬ N < 0 := by omega
 have n2 : ¬ s.guests < (a.length : Int) := by omega
 have n3 : ¬ (a.length : Int) < b.length := by omega
 simp only [rc8, rs8, eWord, g1, g2, g3, hf, hsh, hc, h20, a20, k0, k1, hC, Qil, Qkf, hf1, Qqb, Qct _ _ (Qfm _), upL, upV, Zh, Zn, hpF, upB, hck, hup, hlw, Z0, vw_W, p1, hso, hco, g4, g5, g6, g7, n1, n2, n3, d1, d2, ← hr1, ← hr2, Qah, Qa9, Qa8, Qab, Qac, Qa5, Qco, Qcl, ↓Qby, Qif, ocV, nidQ, plO, plQ, plB, Qd6, Qg6, Qd9, shV, shL, shB, Qdb, cutH, putB, Qad, Qa6, Qa2, Fam.step, Qae, Qce, Qb1, Qb7, Qat, ug, putB, nv, sv, Qc8, evO, opv, qv, Qai, binV, ldV, lenV, curG, Qap, Qar, putAt, Qbd, Qb3, V.cells, Qaw, Qbq, Qaa, Qa4, flat, Qd5, cutV, Qa1, Qbw, Qa0, Qa3, ↓reduceIte, Nat.reduceEqDiff, Nat.reduceAdd, Nat.reduceMul, Nat.reduceLT, Nat.reduceLeDiff, Qb, Qf, Qq, Qp, Qc, Qe, Qd, Qj, Zu, Qk, Zj, Qu, Qg, Qy, Q0, Ql, Zc, Ze, Qv, Zi, Zv, Qw, Zm, vw_i, Qan, Qax, Qnr, Qe9, zipA, beq_self_eq_true, Qi, Qo, Qs, Zo, Q3, Qn, Qt, Qa, decide_true, decide_false, true_and, and_self, forall_const, implies_true, reduceCtorEq, not_false_eq_true, ne_eq, Bool.xor_self, imp_self, Qh, eWord, Qa7]
 refine Qch b.length (fun i => ⟨lkp [(12, .sl 1 (a.map eI)), (14, .sl 1 (b.map eI)), (16, .i i)], []⟩) ?_ ?_ ?_
 ·simp only [Zb, kp, Qa0, Qa3, ↓reduceIte, Nat.reduceEqDiff, Qb, Qf]
 ·intro i hi
  obtain ⟨u, hu⟩ : ∃ u, b[i]? = some u := ⟨_, Q4 hi⟩
  have hlt : (i : Int) < b.length := by omega
  have h3 : inI ((i : Int) + 1) := by unfold inI; omega
  have g8 := Qti a u
  have ha6 : a.length ≤ 1000000 := by omega
  have hm := hin u (Zg hu)
  simp only [hu, hlt, h3, g8, ha6, hm, Zf, Zd, Qah, Qa9, Qa8, Qab, Qac, Qa5, Qad, Qaj, Qa6, Qa2, Fam.step, Qae, evO, opv, qv, binV, ldV, iadV, lenV, Qap, Qaa, Qa4, flat, kp, Qa1, Qa0, Qa3, ↓reduceIte, Nat.reduceEqDiff, Nat.reduceLT, Nat.reduceLeDiff, Qb, Qf, Qc, Qe, Qg, Ql, Qv, vw_i, Qan, Q2, Qi, Qn, Qt, Qa, decide_true, and_self, implies_true, Q1, Qh, Q5, Qm, Qx, eI]
 ·have hlt : ¬ ((b.length : Int) < b.length) := by omega
  simp only [hlt, h15V, Qa9, Qa8, Qab, Qb0, Qaf, Qa5, Qad, Qaj, Qa6, Qa2, Fam.step, Qae, evO, opv, qv, binV, lenV, Qap, Qa4, flat, Qa1, Qa0, Qa3, ↓reduceIte, Nat.reduceEqDiff, Nat.reduceLT, Qb, Qf, Ql, endQ, rvs, rv1, resV, vw_b, Qa, decide_false, and_self, implies_true, Qh]
end Go.C10
