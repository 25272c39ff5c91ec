import Derived.Test.YtoeiaekighfifaaG3
import Derived.Test.YtoeiaekighfifaaChecked
import Derived.Test.YtoeiaekighfifaaG6
set_option linter.all false
open List renaming map_cons → Qb, length_cons → Qc, length_nil → Qd, map_nil → Qe, headD_cons → Qf, length_map → Qg, drop_succ_cons → Qh, drop_zero → Qj, getD_eq_getElem?_getD → Qk, append_nil → Ql, take_succ_cons → Qn, all_nil → Qp, all_cons → Qq, getElem?_map → Qv, take_nil → Qx, replicate_zero → Qy, cons_append → Q3, getElem?_nil → Q4, contains_nil → Q5, getElem?_eq_getElem → Q6, nil_append → Q7, isEmpty_nil → Q9, any_nil → Za, mem_of_getElem? → Ze, getElem?_cons_zero → Zg, mem_range → Zh, getElem?_cons_succ → Zj, getElem?_of_mem → Zk, any_eq_false → Zn, any_eq_true → Zo, eq_nil_of_length_eq_zero → Zq, take_zero → Zs, all_eq_false → Zt, all_eq_true → Zv, mem_filter → Zw, getElem?_eq_none → Zy, replicate_succ → Zz, set_cons_zero → Z2, flatten_cons → Z3, mem_map → Z4, length_take → Z5, flatten_nil → Z6
open Nat renaming zero_add → Qi
open Bool renaming false_eq_true → Qa, or_false → Qm, and_self → Qo, not_true → Qr, true_eq_false → Qs, and_true → Qt, not_false → Qw, false_and → Q2, and_eq_true → Zf, and_false → Zi, or_eq_false_iff → Zm, true_and → Zp, not_eq_true' → Zu, and_eq_false_iff → Zx, false_or → Z0, xor_self → Z1
open Option renaming getD_some → Qu, map_some → Qz, getD_none → Q8, map_none → Zr, some → Z7
open Int renaming natCast_nonneg → Q0, toNat_natCast → Q1, natCast_one → Zb, natCast_zero → Zc, natCast_add → Zd, toNat_zero → Zl
set_option maxRecDepth 8000
namespace Go.C10
open Go.Fam Go.Proofs
def rc36 : RC := (.seq (.reg false [(cX 1 0), (cI 2 0)]) (.keep [1] (.seq (.seq (.reg true [(cFa 4 1 0), (cLd 5 4 false 1), (cC 6 .lss 5 0), (cMv 7 6), (gQ 8 7 false [1] (.fad 0 (.t 1))), (gQ 9 7 false [8] (.ld false 1 (.t 8))), (gQ 10 7 false [9] (.bin .gtr (.t 9) (kI 7))), (cQ 11 [7,10] (.pick (.t 7) (kB true) (.t 10))), (cMv 12 11), (gQ 13 12 false [1] (.fad 2 (.t 1))), (gQ 14 12 false [13] (.ld false 1 (.t 13))), (gQ 15 12 false [14] (.bin .lss (.t 14) (kI 0))), (cQ 16 [12,15] (.pick (.t 12) (kB true) (.t 15))), (cMv 17 16), (gQ 18 17 false [1] (.fad 2 (.t 1))), (gQ 19 17 false [18] (.ld false 1 (.t 18))), (gQ 20 17 false [19] (.bin .gtr (.t 19) (kI 7))), (cQ 21 [17,20] (.pick (.t 17) (kB true) (.t 20)))]) (.keep [1,21] (.cond (.t 21) (.seq (.reg false [(cI 2 100)]) .ret) .skip))) (.keep [1] (.seq (.seq (.reg false [(cFa 22 1 1), (cLd 23 22 false 1), (cLn 24 23), (cC 25 .gtr 24 20)]) (.keep [1,25] (.cond (.t 25) (.seq (.reg false [(cI 2 101)]) .ret) .skip))) (.keep [1] (.seq (.seq (.reg false [(cI 3 0)]) (.keep [1,3] (.block 0 (.loop [1,3] none (.seq (.seq (.reg false [(cMv 26 3), (cFa 27 1 1), (cLd 28 27 false 1), (cLn 29 28), (cB 30 .lss 26 29)]) (.keep [1,3,30] (.cond (.t 30) .skip (.exit 0)))) (.keep [1,3] (.seq (.block 1 (.seq (.any false 0 [⟨(cLd 33 1 true 3), [], []⟩, ⟨(cFa 34 1 1), [], []⟩, ⟨(cLd 35 34 false 1), [], [1]⟩, ⟨(cMv 36 3), [], []⟩, ⟨(cA 37 4 35 36), [], [2,1,3]⟩, ⟨(cLd 38 37 true 4), [], [4,2,1,3]⟩, ⟨(cQ 39 [33,38] (.call (kF 65) [(.t 33), (.t 38)])), [], [0,5,4,2,1,3]⟩, ⟨(cN 40 39), [], [6,0,5,4,2,1,3]⟩]) (.keep [1,3,40] (.cond (.t 40) (.seq (.reg false [(cI 2 101)]) .ret) .skip)))) (.keep [1,3] (.reg false [(cMv 31 3), (cC 32 .add 31 1), (cMv 3 32)]))))))))) (.keep [] (.seq (.reg false [(cI 2 0)]) .ret)))))))))
def pu36 : List Nat := [1]
def rs36 : List RV := [.t 2]
theorem cc36 : CCx Try.prog Try.f36 pu36 rc36 := by unfold CCx; kernel_rfl
theorem cb36 : CBx Try.f36 := by unfold CBx; kernel_rfl
theorem cs36 : CSx Try.prog Try.f36 rs36 := by unfold CSx; kernel_rfl
theorem cn36 : 1 ≤ Try.f36.ntmps := by decide
def rc65 : RC := (.seq (.reg false [(cX 2 0), (cX 3 1), (cQ 4 [] (.mv (kB false)))]) (.keep [2,3] (.seq (.seq (.reg true [(cLd 6 2 true 3), (cFa 7 3 1), (cLd 8 7 false 1), (cQ 9 [6,8] (.call (kF 62) [(.t 6), (.t 8)])), (cN 10 9), (cMv 11 10), (gQ 12 11 false [2] (.ld true 3 (.t 2))), (gQ 13 11 false [3] (.fad 2 (.t 3))), (gQ 14 11 false [13] (.ld false 1 (.t 13))), (gQ 15 11 false [12,14] (.call (kF 62) [(.t 12), (.t 14)])), (gQ 16 11 false [15] (.not (.t 15))), (cQ 17 [11,16] (.pick (.t 11) (kB true) (.t 16)))]) (.keep [2,3,17] (.cond (.t 17) (.seq (.reg false [(cQ 4 [] (.mv (kB false)))]) .ret) .skip))) (.keep [2,3] (.seq (.seq (.reg true [(cFa 18 3 0), (cLd 19 18 false 1), (cC 20 .eql 19 3), (cMv 21 20), (gQ 22 21 false [3] (.fad 0 (.t 3))), (gQ 23 21 false [22] (.ld false 1 (.t 22))), (gQ 24 21 false [23] (.bin .eql (.t 23) (kI 4))), (cQ 25 [21,24] (.pick (.t 21) (kB true) (.t 24)))]) (.keep [2,3,25] (.cond (.t 25) (.seq (.reg true [(cFa 26 3 3), (cLd 27 26 false 1), (cLn 28 27), (cC 29 .eql 28 0), (cMv 30 29), (gQ 31 30 true [3] (.fad 1 (.t 3))), (gQ 32 30 true [31] (.ld false 1 (.t 31))), (gQ 33 30 true [3] (.fad 2 (.t 3))), (gQ 34 30 true [33] (.ld false 1 (.t 33))), (gQ 35 30 true [32,34] (.bin .neq (.t 32) (.t 34))), (cQ 36 [30,35] (.pick (.t 30) (.t 35) (kB false))), (cMv 4 36)]) .ret) .skip))) (.keep [2,3] (.seq (.seq (.reg true [(cFa 37 3 0), (cLd 38 37 false 1), (cC 39 .neq 38 1), (cMv 40 39), (gQ 41 40 true [3] (.fad 0 (.t 3))), (gQ 42 40 true [41] (.ld false 1 (.t 41))), (gQ 43 40 true [42] (.bin .neq (.t 42) (kI 2))), (cQ 44 [40,43] (.pick (.t 40) (.t 43) (kB false))), (cMv 45 44), (gQ 46 45 false [3] (.fad 3 (.t 3))), (gQ 47 45 false [46] (.ld false 1 (.t 46))), (gQ 48 45 false [47] (.len (.t 47))), (gQ 49 45 false [48] (.bin .eql (.t 48) (kI 0))), (cQ 50 [45,49] (.pick (.t 45) (kB true) (.t 49))), (cMv 51 50), (gQ 52 51 false [3] (.fad 2 (.t 3))), (gQ 53 51 false [52] (.ld false 1 (.t 52))), (gQ 54 51 false [53] (.bin .neq (.t 53) (kI 0))), (cQ 55 [51,54] (.pick (.t 51) (kB true) (.t 54)))]) (.keep [2,3,55] (.cond (.t 55) (.seq (.reg false [(cQ 4 [] (.mv (kB false)))]) .ret) .skip))) (.keep [2,3] (.seq (.seq (.reg false [(cI 5 0)]) (.keep [2,3,5] (.block 0 (.loop [2,3,5] none (.seq (.seq (.reg false [(cMv 56 5), (cFa 57 3 3), (cLd 58 57 false 1), (cLn 59 58), (cB 60 .lss 56 59)]) (.keep [2,3,5,60] (.cond (.t 60) .skip (.exit 0)))) (.keep [2,3,5] (.seq (.block 1 (.seq (.any true 0 [⟨(cLd 63 2 true 3), [], []⟩, ⟨(cFa 64 3 3), [], []⟩, ⟨(cLd 65 64 false 1), [], [1]⟩, ⟨(cMv 66 5), [], []⟩, ⟨(cA 67 1 65 66), [], [2,1,3]⟩, ⟨(cLd 68 67 false 1), [], [4,2,1,3]⟩, ⟨(cQ 69 [63,68] (.call (kF 62) [(.t 63), (.t 68)])), [], [0,5,4,2,1,3]⟩, ⟨(cN 70 69), [], [6,0,5,4,2,1,3]⟩, ⟨(cMv 71 70), [], [7,6,0,5,4,2,1,3]⟩, ⟨(gMv 72 71 false 5), [], [8,7,6,0,5,4,2,1,3]⟩, ⟨(gQ 73 71 false [72] (.bin .gtr (.t 72) (kI 0))), [], [9,8,7,6,0,5,4,2,1,3]⟩, ⟨(gMv 74 71 false 73), [], [10,9,8,7,6,0,5,4,2,1,3]⟩, ⟨(gQ 75 74 true [3] (.fad 3 (.t 3))), [], [11,10,9,8,7,6,0,5,4,2,1,3]⟩, ⟨(gQ 76 74 true [75] (.ld false 1 (.t 75))), [], [12,11,10,9,8,7,6,0,5,4,2,1,3]⟩, ⟨(gMv 77 74 true 5), [], [11,10,9,8,7,6,0,5,4,2,1,3]⟩, ⟨(gQ 78 74 true [76,77] (.iad 1 (.t 76) (.t 77))), [], [13,12,11,10,9,8,7,6,0,5,4,2,1,3,14]⟩, ⟨(gQ 79 74 true [78] (.ld false 1 (.t 78))), [], [15,13,12,11,10,9,8,7,6,0,5,4,2,1,3,14]⟩, ⟨(gQ 80 74 true [3] (.fad 3 (.t 3))), [], [11,10,9,8,7,6,0,5,4,2,1,3]⟩, ⟨(gQ 81 74 true [80] (.ld false 1 (.t 80))), [], [17,11,10,9,8,7,6,0,5,4,2,1,3]⟩, ⟨(gMv 82 74 true 5), [], [11,10,9,8,7,6,0,5,4,2,1,3]⟩, ⟨(gQ 83 74 true [82] (.bin .sub (.t 82) (kI 1))), [], [19,11,10,9,8,7,6,0,5,4,2,1,3]⟩, ⟨(gQ 84 74 true [81,83] (.iad 1 (.t 81) (.t 83))), [], [18,17,11,10,9,8,7,6,0,5,4,2,1,3,20,19]⟩, ⟨(gQ 85 74 true [84] (.ld false 1 (.t 84))), [], [21,18,17,11,10,9,8,7,6,0,5,4,2,1,3,20,19]⟩, ⟨(gQ 86 74 true [79,85] (.bin .leq (.t 79) (.t 85))), [], [16,15,13,12,11,10,9,8,7,6,0,5,4,2,1,3,14,22,21,18,17,20,19]⟩, ⟨(gQ 87 71 false [74,86] (.pick (.t 74) (.t 86) (kB false))), [], [11,10,9,8,7,6,0,5,4,2,1,3,23,16,15,13,12,14,22,21,18,17,20,19]⟩, ⟨(cQ 88 [71,87] (.pick (.t 71) (kB true) (.t 87))), [], [8,7,6,0,5,4,2,1,3,24,11,10,9,23,16,15,13,12,14,22,21,18,17,20,19]⟩]) (.keep [2,3,5,88] (.cond (.t 88) (.seq (.reg false [(cQ 4 [] (.mv (kB false)))]) .ret) .skip)))) (.keep [2,3,5] (.reg false [(cMv 61 5), (cC 62 .add 61 1), (cMv 5 62)]))))))))) (.keep [] (.seq (.reg false [(cQ 4 [] (.mv (kB true)))]) .ret)))))))))))
def pu65 : List Nat := [2,3]
def rs65 : List RV := [.t 4]
theorem cc65 : CCx Try.prog Try.f65 pu65 rc65 := by unfold CCx; kernel_rfl
theorem cb65 : CBx Try.f65 := by unfold CBx; kernel_rfl
theorem cs65 : CSx Try.prog Try.f65 rs65 := by unfold CSx; kernel_rfl
theorem cn65 : 2 ≤ Try.f65.ntmps := by decide
def rc62 : RC := (.seq (.reg false [(cX 2 0), (cQ 4 [] (.mv (kB false)))]) (.keep [1,2] (.seq (.reg true [(cMv 5 1), (cC 6 .geq 5 0), (cMv 7 6), (gMv 8 7 true 1), (gQ 9 7 true [2] (.fad 0 (.t 2))), (gQ 10 7 true [9] (.ld false 1 (.t 9))), (gQ 11 7 true [8,10] (.bin .lss (.t 8) (.t 10))), (cQ 12 [7,11] (.pick (.t 7) (.t 11) (kB false))), (cMv 4 12)]) .ret)))
def pu62 : List Nat := [2]
def rs62 : List RV := [.t 4]
theorem cc62 : CCx Try.prog Try.f62 pu62 rc62 := by unfold CCx; kernel_rfl
theorem cb62 : CBx Try.f62 := by unfold CBx; kernel_rfl
theorem cs62 : CSx Try.prog Try.f62 rs62 := by unfold CSx; kernel_rfl
theorem cn62 : 2 ≤ Try.f62.ntmps := by decide
def rc52 : RC := (.seq (.reg false [(cQ 4 [] (.mv (kB false)))]) (.keep [0,1] (.seq (.seq (.reg false [(cI 5 0)]) (.keep [0,1,5] (.block 0 (.loop [0,1,5] none (.seq (.seq (.reg false [(cMv 6 5), (cMv 7 0), (cLn 8 7), (cB 9 .lss 6 8)]) (.keep [0,1,5,9] (.cond (.t 9) .skip (.exit 0)))) (.keep [0,1,5] (.seq (.block 1 (.seq (.reg false [(cMv 12 0), (cMv 13 5), (cA 14 1 12 13), (cLd 15 14 false 1), (cMv 16 1), (cB 17 .eql 15 16)]) (.keep [0,1,5,17] (.cond (.t 17) (.seq (.reg false [(cQ 4 [] (.mv (kB true)))]) .ret) .skip)))) (.keep [0,1,5] (.reg false [(cMv 10 5), (cC 11 .add 10 1), (cMv 5 11)]))))))))) (.keep [] (.seq (.reg false [(cQ 4 [] (.mv (kB false)))]) .ret)))))
def pu52 : List Nat := []
def rs52 : List RV := [.t 4]
theorem cc52 : CCx Try.prog Try.f52 pu52 rc52 := by unfold CCx; kernel_rfl
theorem cb52 : CBx Try.f52 := by unfold CBx; kernel_rfl
theorem cs52 : CSx Try.prog Try.f52 rs52 := by unfold CSx; kernel_rfl
theorem cn52 : 2 ≤ Try.f52.ntmps := by decide
def rc38 : RC := (.seq (.reg false [(cQ 4 [] (.mv (kB false)))]) (.keep [0,1] (.seq (.seq (.reg false [(cI 5 0)]) (.keep [0,1,5] (.block 0 (.loop [0,1,5] none (.seq (.seq (.reg false [(cMv 6 5), (cMv 7 0), (cLn 8 7), (cB 9 .lss 6 8)]) (.keep [0,1,5,9] (.cond (.t 9) .skip (.exit 0)))) (.keep [0,1,5] (.seq (.block 1 (.seq (.reg false [(cMv 12 0), (cMv 13 5), (cA 14 1 12 13), (cLd 15 14 false 1), (cMv 16 1), (cB 17 .eql 15 16)]) (.keep [0,1,5,17] (.cond (.t 17) (.seq (.reg false [(cQ 4 [] (.mv (kB true)))]) .ret) .skip)))) (.keep [0,1,5] (.reg false [(cMv 10 5), (cC 11 .add 10 1), (cMv 5 11)]))))))))) (.keep [] (.seq (.reg false [(cQ 4 [] (.mv (kB false)))]) .ret)))))
def pu38 : List Nat := []
def rs38 : List RV := [.t 4]
theorem cc38 : CCx Try.prog Try.f38 pu38 rc38 := by unfold CCx; kernel_rfl
theorem cb38 : CBx Try.f38 := by unfold CBx; kernel_rfl
theorem cs38 : CSx Try.prog Try.f38 rs38 := by unfold CSx; kernel_rfl
theorem cn38 : 2 ≤ Try.f38.ntmps := by decide
def rc43 : RC := (.seq (.reg false [(cX 2 0), (cQ 4 [] (.mv (kB false)))]) (.keep [1,2] (.seq (.seq (.reg false [(cFa 5 2 0), (cLd 6 5 false 1)]) (.keep [1,2,6] (.block 0 (.seq (.reg false [(cC 8 .eql 6 1), (cMv 7 8)]) (.keep [1,2,6,7] (.cond (.t 7) (.seq (.any false 0 [⟨(cFa 9 2 3), [], []⟩, ⟨(cLd 10 9 false 1), [], [0]⟩, ⟨(cMv 11 1), [], []⟩, ⟨(cFa 12 2 1), [], []⟩, ⟨(cLd 13 12 false 1), [], [3]⟩, ⟨(cA 14 1 11 13), [], [2,4,3]⟩, ⟨(cLd 15 14 false 1), [], [5,2,4,3]⟩, ⟨(cQ 16 [10,15] (.call (kF 52) [(.t 10), (.t 15)])), [], [1,0,6,5,2,4,3]⟩, ⟨(cMv 4 16), [], [7,1,0,6,5,2,4,3]⟩]) .ret) (.seq (.reg false [(cC 18 .eql 6 2), (cMv 17 18)]) (.keep [1,2,6,17] (.cond (.t 17) (.seq (.any false 0 [⟨(cFa 19 2 3), [], []⟩, ⟨(cLd 20 19 false 1), [], [0]⟩, ⟨(cMv 21 1), [], []⟩, ⟨(cFa 22 2 1), [], []⟩, ⟨(cLd 23 22 false 1), [], [3]⟩, ⟨(cA 24 1 21 23), [], [2,4,3]⟩, ⟨(cLd 25 24 false 1), [], [5,2,4,3]⟩, ⟨(cQ 26 [20,25] (.call (kF 52) [(.t 20), (.t 25)])), [], [1,0,6,5,2,4,3]⟩, ⟨(cN 27 26), [], [7,1,0,6,5,2,4,3]⟩, ⟨(cMv 4 27), [], [8,7,1,0,6,5,2,4,3]⟩]) .ret) (.seq (.reg false [(cC 29 .eql 6 3), (cMv 28 29)]) (.keep [1,2,28] (.cond (.t 28) (.seq (.any true 0 [⟨(cMv 30 1), [], []⟩, ⟨(cFa 31 2 1), [], []⟩, ⟨(cLd 32 31 false 1), [], [1]⟩, ⟨(cA 33 1 30 32), [], [0,2,1]⟩, ⟨(cLd 34 33 false 1), [], [3,0,2,1]⟩, ⟨(cFa 35 2 2), [], []⟩, ⟨(cLd 36 35 false 1), [], [5]⟩, ⟨(cB 37 .eql 34 36), [], [4,3,0,2,1,6,5]⟩, ⟨(cMv 38 37), [], [7,4,3,0,2,1,6,5]⟩, ⟨(gMv 39 38 true 1), [], [8,7,4,3,0,2,1,6,5]⟩, ⟨(gQ 40 38 true [2] (.fad 2 (.t 2))), [], [8,7,4,3,0,2,1,6,5]⟩, ⟨(gQ 41 38 true [40] (.ld false 1 (.t 40))), [], [10,8,7,4,3,0,2,1,6,5]⟩, ⟨(gQ 42 38 true [39,41] (.iad 1 (.t 39) (.t 41))), [], [9,8,7,4,3,0,2,1,6,5,11,10]⟩, ⟨(gQ 43 38 true [42] (.ld false 1 (.t 42))), [], [12,9,8,7,4,3,0,2,1,6,5,11,10]⟩, ⟨(gQ 44 38 true [2] (.fad 1 (.t 2))), [], [8,7,4,3,0,2,1,6,5]⟩, ⟨(gQ 45 38 true [44] (.ld false 1 (.t 44))), [], [14,8,7,4,3,0,2,1,6,5]⟩, ⟨(gQ 46 38 true [43,45] (.bin .eql (.t 43) (.t 45))), [], [13,12,9,8,7,4,3,0,2,1,6,5,11,10,15,14]⟩, ⟨(cQ 47 [38,46] (.pick (.t 38) (.t 46) (kB false))), [], [8,7,4,3,0,2,1,6,5,16,13,12,9,11,10,15,14]⟩, ⟨(cMv 4 47), [], [17,8,7,4,3,0,2,1,6,5,16,13,12,9,11,10,15,14]⟩]) .ret) .skip)))))))))))) (.keep [1,2] (.seq (.any true 0 [⟨(cMv 48 1), [], []⟩, ⟨(cFa 49 2 1), [], []⟩, ⟨(cLd 50 49 false 1), [], [1]⟩, ⟨(cA 51 1 48 50), [], [0,2,1]⟩, ⟨(cLd 52 51 false 1), [], [3,0,2,1]⟩, ⟨(cFa 53 2 1), [], []⟩, ⟨(cLd 54 53 false 1), [], [5]⟩, ⟨(cB 55 .eql 52 54), [], [4,3,0,2,1,6,5]⟩, ⟨(cMv 56 55), [], [7,4,3,0,2,1,6,5]⟩, ⟨(gMv 57 56 false 1), [], [8,7,4,3,0,2,1,6,5]⟩, ⟨(gQ 58 56 false [2] (.fad 2 (.t 2))), [], [8,7,4,3,0,2,1,6,5]⟩, ⟨(gQ 59 56 false [58] (.ld false 1 (.t 58))), [], [10,8,7,4,3,0,2,1,6,5]⟩, ⟨(gQ 60 56 false [57,59] (.iad 1 (.t 57) (.t 59))), [], [9,8,7,4,3,0,2,1,6,5,11,10]⟩, ⟨(gQ 61 56 false [60] (.ld false 1 (.t 60))), [], [12,9,8,7,4,3,0,2,1,6,5,11,10]⟩, ⟨(gQ 62 56 false [2] (.fad 2 (.t 2))), [], [8,7,4,3,0,2,1,6,5]⟩, ⟨(gQ 63 56 false [62] (.ld false 1 (.t 62))), [], [14,8,7,4,3,0,2,1,6,5]⟩, ⟨(gQ 64 56 false [61,63] (.bin .eql (.t 61) (.t 63))), [], [13,12,9,8,7,4,3,0,2,1,6,5,11,10,15,14]⟩, ⟨(cQ 65 [56,64] (.pick (.t 56) (kB true) (.t 64))), [], [8,7,4,3,0,2,1,6,5,16,13,12,9,11,10,15,14]⟩, ⟨(cMv 4 65), [], [17,8,7,4,3,0,2,1,6,5,16,13,12,9,11,10,15,14]⟩]) .ret)))))
def pu43 : List Nat := [2]
def rs43 : List RV := [.t 4]
theorem cc43 : CCx Try.prog Try.f43 pu43 rc43 := by unfold CCx; kernel_rfl
theorem cb43 : CBx Try.f43 := by unfold CBx; kernel_rfl
theorem cs43 : CSx Try.prog Try.f43 rs43 := by unfold CSx; kernel_rfl
theorem cn43 : 2 ≤ Try.f43.ntmps := by decide
def rc18 : RC := (.seq (.reg false [(cQ 2 [] (.mv (kB false)))]) (.keep [0] (.seq (.seq (.reg false [(cI 3 0)]) (.keep [0,3] (.block 0 (.loop [0,3] none (.seq (.seq (.reg false [(cMv 4 3), (cMv 5 0), (cLn 6 5), (cB 7 .lss 4 6)]) (.keep [0,3,7] (.cond (.t 7) .skip (.exit 0)))) (.keep [0,3] (.seq (.block 1 (.seq (.any true 0 [⟨(cMv 10 0), [], []⟩, ⟨(cMv 11 3), [], []⟩, ⟨(cA 12 1 10 11), [], [0,1]⟩, ⟨(cLd 13 12 false 1), [], [2,0,1]⟩, ⟨(cC 14 .lss 13 0), [], [3,2,0,1]⟩, ⟨(cMv 15 14), [], [4,3,2,0,1]⟩, ⟨(gMv 16 15 false 0), [], [5,4,3,2,0,1]⟩, ⟨(gMv 17 15 false 3), [], [5,4,3,2,0,1]⟩, ⟨(gQ 18 15 false [16,17] (.iad 1 (.t 16) (.t 17))), [], [6,5,4,3,2,0,1,7]⟩, ⟨(gQ 19 15 false [18] (.ld false 1 (.t 18))), [], [8,6,5,4,3,2,0,1,7]⟩, ⟨(gMv 20 15 false 0), [], [5,4,3,2,0,1]⟩, ⟨(gQ 21 15 false [20] (.len (.t 20))), [], [10,5,4,3,2,0,1]⟩, ⟨(gQ 22 15 false [19,21] (.bin .geq (.t 19) (.t 21))), [], [9,8,6,5,4,3,2,0,1,7,11,10]⟩, ⟨(cQ 23 [15,22] (.pick (.t 15) (kB true) (.t 22))), [], [5,4,3,2,0,1,12,9,8,6,7,11,10]⟩, ⟨(cMv 24 23), [], [13,5,4,3,2,0,1,12,9,8,6,7,11,10]⟩, ⟨(gMv 25 24 false 0), [], [14,13,5,4,3,2,0,1,12,9,8,6,7,11,10]⟩, ⟨(gMv 26 24 false 3), [], [14,13,5,4,3,2,0,1,12,9,8,6,7,11,10]⟩, ⟨(gQ 27 24 false [25,26] (.slc 1 (.t 25) none (some (.t 26)))), [], [15,14,13,5,4,3,2,0,1,12,9,8,6,7,11,10,16]⟩, ⟨(gMv 28 24 false 0), [], [14,13,5,4,3,2,0,1,12,9,8,6,7,11,10]⟩, ⟨(gMv 29 24 false 3), [], [14,13,5,4,3,2,0,1,12,9,8,6,7,11,10]⟩, ⟨(gQ 30 24 false [28,29] (.iad 1 (.t 28) (.t 29))), [], [18,14,13,5,4,3,2,0,1,12,9,8,6,7,11,10,19]⟩, ⟨(gQ 31 24 false [30] (.ld false 1 (.t 30))), [], [20,18,14,13,5,4,3,2,0,1,12,9,8,6,7,11,10,19]⟩, ⟨(gQ 32 24 false [27,31] (.call (kF 52) [(.t 27), (.t 31)])), [], [17,15,14,13,5,4,3,2,0,1,12,9,8,6,7,11,10,16,21,20,18,19]⟩, ⟨(cQ 33 [24,32] (.pick (.t 24) (kB true) (.t 32))), [], [14,13,5,4,3,2,0,1,12,9,8,6,7,11,10,22,17,15,16,21,20,18,19]⟩]) (.keep [0,3,33] (.cond (.t 33) (.seq (.reg false [(cQ 2 [] (.mv (kB false)))]) .ret) .skip)))) (.keep [0,3] (.reg false [(cMv 8 3), (cC 9 .add 8 1), (cMv 3 9)]))))))))) (.keep [0] (.seq (.reg false [(cMv 34 0), (cLn 35 34), (cC 36 .leq 35 7), (cMv 2 36)]) .ret)))))
def pu18 : List Nat := []
def rs18 : List RV := [.t 2]
theorem cc18 : CCx Try.prog Try.f18 pu18 rc18 := by unfold CCx; kernel_rfl
theorem cb18 : CBx Try.f18 := by unfold CBx; kernel_rfl
theorem cs18 : CSx Try.prog Try.f18 rs18 := by unfold CSx; kernel_rfl
theorem cn18 : 1 ≤ Try.f18.ntmps := by decide
def rc40 : RC := (.seq (.reg false [(cX 2 0), (cQ 4 [] (.mv (kB false)))]) (.keep [1,2] (.seq (.seq (.reg true [(cMv 7 1), (cLn 8 7), (cFa 9 2 0), (cLd 10 9 false 1), (cB 11 .neq 8 10), (cMv 12 11), (gMv 13 12 false 1), (gQ 14 12 false [13] (.call (kF 18) [(.t 13)])), (gQ 15 12 false [14] (.not (.t 14))), (cQ 16 [12,15] (.pick (.t 12) (kB true) (.t 15)))]) (.keep [1,2,16] (.cond (.t 16) (.seq (.reg false [(cQ 4 [] (.mv (kB false)))]) .ret) .skip))) (.keep [1,2] (.seq (.reg false [(cI 5 0)]) (.keep [1,2,5] (.seq (.seq (.reg false [(cI 6 0)]) (.keep [1,2,5,6] (.block 0 (.loop [1,2,5,6] none (.seq (.seq (.reg false [(cMv 17 6), (cFa 18 2 1), (cLd 19 18 false 1), (cLn 20 19), (cB 21 .lss 17 20)]) (.keep [1,2,5,6,21] (.cond (.t 21) .skip (.exit 0)))) (.keep [1,2,5,6] (.seq (.block 1 (.seq (.reg false [(cFa 24 2 1), (cLd 25 24 false 1), (cMv 26 6), (cA 27 4 25 26), (cLd 28 27 true 4), (cMv 29 1), (cQ 30 [28,29] (.call (kF 43) [(.t 28), (.t 29)])), (cN 31 30)]) (.keep [1,2,5,6,31] (.cond (.t 31) (.reg false [(cMv 32 5), (cC 33 .add 32 1), (cMv 5 33)]) .skip)))) (.keep [1,2,5,6] (.reg false [(cMv 22 6), (cC 23 .add 22 1), (cMv 6 23)]))))))))) (.keep [2,5] (.seq (.reg false [(cMv 34 5), (cFa 35 2 2), (cLd 36 35 false 1), (cB 37 .leq 34 36), (cMv 4 37)]) .ret)))))))))
def pu40 : List Nat := [2]
def rs40 : List RV := [.t 4]
theorem cc40 : CCx Try.prog Try.f40 pu40 rc40 := by unfold CCx; kernel_rfl
theorem cb40 : CBx Try.f40 := by unfold CBx; kernel_rfl
theorem cs40 : CSx Try.prog Try.f40 rs40 := by unfold CSx; kernel_rfl
theorem cn40 : 2 ≤ Try.f40.ntmps := by decide
def rc35 : RC := (.seq (.reg false [(cX 1 0), (cQ 2 [] (.mv (kB false)))]) (.keep [1] (.seq (.seq (.reg false [(cFa 4 1 1), (cLd 5 4 false 1), (cLn 6 5), (cC 7 .gtr 6 60)]) (.keep [1,7] (.cond (.t 7) (.seq (.reg false [(cQ 2 [] (.mv (kB true)))]) .ret) .skip))) (.keep [1] (.seq (.seq (.reg false [(cI 3 0)]) (.keep [1,3] (.block 0 (.loop [1,3] none (.seq (.seq (.reg false [(cMv 8 3), (cFa 9 1 1), (cLd 10 9 false 1), (cLn 11 10), (cB 12 .lss 8 11)]) (.keep [1,3,12] (.cond (.t 12) .skip (.exit 0)))) (.keep [1,3] (.seq (.block 1 (.seq (.reg false [(cFa 15 1 1), (cLd 16 15 false 1), (cMv 17 3), (cA 18 4 16 17), (cFa 19 18 3), (cLd 20 19 false 1), (cLn 21 20), (cC 22 .gtr 21 60)]) (.keep [1,3,22] (.cond (.t 22) (.seq (.reg false [(cQ 2 [] (.mv (kB true)))]) .ret) .skip)))) (.keep [1,3] (.reg false [(cMv 13 3), (cC 14 .add 13 1), (cMv 3 14)]))))))))) (.keep [1] (.seq (.reg true [(cLd 23 1 true 3), (cQ 24 [23] (.call (kF 36) [(.t 23)])), (cC 25 .eql 24 0), (cMv 26 25), (gQ 27 26 true [1] (.fad 0 (.t 1))), (gQ 28 26 true [27] (.ld false 1 (.t 27))), (gQ 29 26 true [28] (.bin .gtr (.t 28) (kI 6))), (cQ 30 [26,29] (.pick (.t 26) (.t 29) (kB false))), (cMv 2 30)]) .ret)))))))
def pu35 : List Nat := [1]
def rs35 : List RV := [.t 2]
theorem cc35 : CCx Try.prog Try.f35 pu35 rc35 := by unfold CCx; kernel_rfl
theorem cb35 : CBx Try.f35 := by unfold CBx; kernel_rfl
theorem cs35 : CSx Try.prog Try.f35 rs35 := by unfold CSx; kernel_rfl
theorem cn35 : 1 ≤ Try.f35.ntmps := by decide
def rc29 : RC := (.seq (.reg false [(cX 1 0), (cQ 2 [] (.mv (kB false)))]) (.keep [1] (.seq (.reg true [(cLd 3 1 true 3), (cQ 4 [3] (.call (kF 35) [(.t 3)])), (cMv 5 4), (gQ 6 5 false [1] (.ld true 3 (.t 1))), (gQ 7 5 false [6] (.call (kF 36) [(.t 6)])), (gQ 8 5 false [7] (.bin .eql (.t 7) (kI 0))), (gMv 9 5 false 8), (gQ 10 9 true [1] (.fad 0 (.t 1))), (gQ 11 9 true [10] (.ld false 1 (.t 10))), (gQ 12 9 true [11] (.bin .gtr (.t 11) (kI 4))), (gQ 13 5 false [9,12] (.pick (.t 9) (.t 12) (kB false))), (cQ 14 [5,13] (.pick (.t 5) (kB true) (.t 13))), (cMv 2 14)]) .ret)))
def pu29 : List Nat := [1]
def rs29 : List RV := [.t 2]
theorem cc29 : CCx Try.prog Try.f29 pu29 rc29 := by unfold CCx; kernel_rfl
theorem cb29 : CBx Try.f29 := by unfold CBx; kernel_rfl
theorem cs29 : CSx Try.prog Try.f29 rs29 := by unfold CSx; kernel_rfl
theorem cn29 : 1 ≤ Try.f29.ntmps := by decide
def rc14 : RC := (.seq (.reg false [(cX 1 0), (cQ 2 [] (.mv (kB false)))]) (.keep [1] (.seq (.reg true [(cLd 3 1 true 3), (cQ 4 [3] (.call (kF 29) [(.t 3)])), (cN 5 4), (cMv 6 5), (gQ 7 6 true [1] (.ld true 3 (.t 1))), (gQ 8 6 true [7] (.call (kF 36) [(.t 7)])), (gQ 9 6 true [8] (.bin .eql (.t 8) (kI 0))), (cQ 10 [6,9] (.pick (.t 6) (.t 9) (kB false))), (cMv 2 10)]) .ret)))
def pu14 : List Nat := [1]
def rs14 : List RV := [.t 2]
theorem cc14 : CCx Try.prog Try.f14 pu14 rc14 := by unfold CCx; kernel_rfl
theorem cb14 : CBx Try.f14 := by unfold CBx; kernel_rfl
theorem cs14 : CSx Try.prog Try.f14 rs14 := by unfold CSx; kernel_rfl
theorem cn14 : 1 ≤ Try.f14.ntmps := by decide
def rc49 : RC := (.seq (.reg false [⟨(some 0), none, [], none, .w (.alc [(.i 0), (.z 4), (.i 0)])⟩]) (.keep [0] (.seq (.reg false [(cQ 1 [] (.bsl 1 2 [(.i 0)] [(0,1, (kI 1)), (1,1, (kI 2))])), (cQ 2 [1] (.bld [(.i 0), (.i 0), (.i 0), (.z 1)] [(0,1, (kI 1)), (3,1, (.t 1))])), (cQ 3 [] (.bsl 1 1 [(.i 0)] [(0,1, (kI 3))])), (cQ 4 [3] (.bld [(.i 0), (.i 0), (.i 0), (.z 1)] [(0,1, (kI 2)), (1,1, (kI 3)), (3,1, (.t 3))])), (cQ 5 [] (.bld [(.i 0), (.i 0), (.i 0), (.z 1)] [(0,1, (kI 4)), (1,1, (kI 1)), (2,1, (kI 2))])), (cQ 6 [2,4,5] (.bsl 4 3 [(.i 0), (.i 0), (.i 0), (.z 1)] [(0,4, (.t 2)), (4,4, (.t 4)), (8,4, (.t 5))])), (cQ 7 [6] (.bld [(.i 0), (.z 4), (.i 0)] [(0,1, (kI 4)), (1,1, (.t 6))])), ⟨none, none, [0,7], none, .w (.st 3 (.t 0) (.t 7))⟩]) .ret)))
def pu49 : List Nat := [1,3,6]
def rs49 : List RV := [.c 0 true 3]
theorem cc49 : CCx Try.prog Try.f49 pu49 rc49 := by unfold CCx; kernel_rfl
theorem cb49 : CBx Try.f49 := by unfold CBx; kernel_rfl
theorem cs49 : CSx Try.prog Try.f49 rs49 := by unfold CSx; kernel_rfl
theorem cn49 : 0 ≤ Try.f49.ntmps := by decide
def rc15 : RC := (.seq (.reg false [(cQ 0 [] (.mv (kB false)))]) (.keep [] (.seq (.reg false [(cQ 13 [] (.call (kF 49) [])), ⟨(some 1), none, [], none, .w (.alc [(.i 0), (.z 4), (.i 0)])⟩, ⟨none, none, [1,13], none, .w (.st 3 (.t 1) (.t 13))⟩]) (.keep [1] (.seq (.reg false [(cLd 15 1 true 3), (cQ 16 [15] (.call (kF 16) [(.t 15)])), (cMv 14 16), (cEx 17 14 0), (cEx 18 14 1), (cMv 2 17), (cMv 3 18)]) (.keep [1,2,3] (.seq (.reg false [(cLd 20 1 true 3), (cQ 21 [20] (.call (kF 41) [(.t 20)])), (cMv 19 21), (cEx 22 19 0), (cEx 23 19 1), (cMv 4 22), (cMv 5 23)]) (.keep [1,2,3,4,5] (.seq (.reg false [(cLd 25 1 true 3), (cQ 26 [25] (.call (kF 17) [(.t 25)])), (cMv 24 26), (cEx 27 24 0), (cEx 28 24 1), (cMv 6 27), (cMv 7 28)]) (.keep [2,3,4,5,6,7] (.seq (.reg false [(cQ 30 [] (.bsl 1 4 [(.i 0)] [(0,1, (kI 1)), (1,1, (kI 2)), (2,1, (kI 0)), (3,1, (kI 3))])), (cQ 31 [30] (.call (kF 19) [(.t 30)])), (cMv 29 31), (cEx 32 29 0), (cEx 33 29 1), (cMv 8 32), (cMv 9 33)]) (.keep [2,3,4,5,6,7,8,9] (.seq (.reg false [(cQ 35 [] (.bsl 1 4 [(.i 0)] [(0,1, (kI 1)), (1,1, (kI 2)), (2,1, (kI 0)), (3,1, (kI 3))])), (cQ 36 [35] (.call (kF 24) [(.t 35)])), (cMv 34 36), (cEx 37 34 0), (cEx 38 34 1), (cEx 39 34 2), (cMv 10 37), (cMv 11 38), (cMv 12 39)]) (.keep [2,3,4,5,6,7,8,9,10,11,12] (.seq (.reg true [(cMv 40 3), (cC 41 .eql 40 0), (cMv 42 41), (gMv 43 42 true 5), (gQ 44 42 true [43] (.bin .eql (.t 43) (kI 0))), (cQ 45 [42,44] (.pick (.t 42) (.t 44) (kB false))), (cMv 46 45), (gMv 47 46 true 7), (gQ 48 46 true [47] (.bin .eql (.t 47) (kI 0))), (cQ 49 [46,48] (.pick (.t 46) (.t 48) (kB false))), (cMv 50 49), (gMv 51 50 true 9), (gQ 52 50 true [51] (.bin .eql (.t 51) (kI 0))), (cQ 53 [50,52] (.pick (.t 50) (.t 52) (kB false))), (cMv 54 53), (gMv 55 54 true 12), (gQ 56 54 true [55] (.bin .eql (.t 55) (kI 0))), (cQ 57 [54,56] (.pick (.t 54) (.t 56) (kB false))), (cMv 58 57), (gMv 59 58 true 2), (gQ 60 58 true [59] (.bin .eql (.t 59) (kI 2))), (cQ 61 [58,60] (.pick (.t 58) (.t 60) (kB false))), (cMv 62 61), (gMv 63 62 true 4), (gQ 64 62 true [] (.bsl 1 4 [(.i 0)] [(0,1, (.k (.i (-1)))), (1,1, (.k (.i (-1)))), (2,1, (.k (.i (-1)))), (3,1, (kI 0))])), (gQ 65 62 true [63,64] (.call (kF 28) [(.t 63), (.t 64)])), (cQ 66 [62,65] (.pick (.t 62) (.t 65) (kB false))), (cMv 67 66), (gMv 68 67 true 6), (gQ 69 67 true [68] (.bin .eql (.t 68) (kI 1))), (cQ 70 [67,69] (.pick (.t 67) (.t 69) (kB false))), (cMv 71 70), (gMv 72 71 true 8), (gQ 73 71 true [72] (.bin .eql (.t 72) (kI 2))), (cQ 74 [71,73] (.pick (.t 71) (.t 73) (kB false))), (cMv 75 74), (gMv 76 75 true 10), (gQ 77 75 true [76] (.len (.t 76))), (gMv 78 75 true 11), (gQ 79 75 true [78] (.len (.t 78))), (gQ 80 75 true [77,79] (.bin .add (.t 77) (.t 79))), (gQ 81 75 true [80] (.bin .gtr (.t 80) (kI 0))), (cQ 82 [75,81] (.pick (.t 75) (.t 81) (kB false))), (cMv 0 82)]) .ret)))))))))))))))
def pu15 : List Nat := [30,35,64]
def rs15 : List RV := [.t 0]
theorem cc15 : CCx Try.prog Try.f15 pu15 rc15 := by unfold CCx; kernel_rfl
theorem cb15 : CBx Try.f15 := by unfold CBx; kernel_rfl
theorem cs15 : CSx Try.prog Try.f15 rs15 := by unfold CSx; kernel_rfl
theorem cn15 : 0 ≤ Try.f15.ntmps := by decide
def rc28 : RC := (.seq (.reg false [(cQ 4 [] (.mv (kB false)))]) (.keep [0,1] (.seq (.seq (.reg false [(cMv 6 0), (cLn 7 6), (cMv 8 1), (cLn 9 8), (cB 10 .neq 7 9)]) (.keep [0,1,10] (.cond (.t 10) (.seq (.reg false [(cQ 4 [] (.mv (kB false)))]) .ret) .skip))) (.keep [0,1] (.seq (.seq (.reg false [(cI 5 0)]) (.keep [0,1,5] (.block 0 (.loop [0,1,5] none (.seq (.seq (.reg false [(cMv 11 5), (cMv 12 0), (cLn 13 12), (cB 14 .lss 11 13)]) (.keep [0,1,5,14] (.cond (.t 14) .skip (.exit 0)))) (.keep [0,1,5] (.seq (.block 1 (.seq (.any false 0 [⟨(cMv 17 0), [], []⟩, ⟨(cMv 18 5), [], []⟩, ⟨(cA 19 1 17 18), [], [0,1]⟩, ⟨(cLd 20 19 false 1), [], [2,0,1]⟩, ⟨(cMv 21 1), [], []⟩, ⟨(cMv 22 5), [], []⟩, ⟨(cA 23 1 21 22), [], [4,5]⟩, ⟨(cLd 24 23 false 1), [], [6,4,5]⟩, ⟨(cB 25 .neq 20 24), [], [3,2,0,1,7,6,4,5]⟩]) (.keep [0,1,5,25] (.cond (.t 25) (.seq (.reg false [(cQ 4 [] (.mv (kB false)))]) .ret) .skip)))) (.keep [0,1,5] (.reg false [(cMv 15 5), (cC 16 .add 15 1), (cMv 5 16)]))))))))) (.keep [] (.seq (.reg false [(cQ 4 [] (.mv (kB true)))]) .ret)))))))
def pu28 : List Nat := []
def rs28 : List RV := [.t 4]
theorem cc28 : CCx Try.prog Try.f28 pu28 rc28 := by unfold CCx; kernel_rfl
theorem cb28 : CBx Try.f28 := by unfold CBx; kernel_rfl
theorem cs28 : CSx Try.prog Try.f28 rs28 := by unfold CSx; kernel_rfl
theorem cn28 : 2 ≤ Try.f28.ntmps := by decide
end Go.C10
set_option linter.unusedSimpArgs false
set_option linter.unusedVariables false
namespace Go.C10
open Go.Fam Go.Proofs
variable {Γ : Gam}
theorem W62 (s : Stand) (n : Int) : Qal Try.prog 62 [.ag (Qa6 s), .i n] (.b (Qaq s.guests n)) := by
 refine Qak Qq4 hmix Try.func62 cb62 cc62 cs62 cn62 ?_
 have e : Qaq s.guests n = (decide (0 ≤ n) && decide (n < s.guests)) := by
  unfold Qaq Qbb
  congr 1
  rw [decide_eq_decide]; omega
 by_cases h : 0 ≤ n <;> simp only [rc62, rs62, h, e, Qa9, Qa8, Qag, Qa4, Qad, Qa5, Qa2, Fam.step, Qae, Qb0, Qas, ug, evO, opv, qv, Qai, binV, ldV, V.cells, Qay, Qaa, Qa7, Qa1, Qa0, Qa3, ↓reduceIte, Nat.reduceEqDiff, Nat.reduceAdd, Nat.reduceLeDiff, Qb, Qe, Qq, Qp, Qc, Qd, Qj, Qf, endQ, rvs, rv1, resV, vw_i, vw_b, Qan, Qav, zipA, beq_self_eq_true, Qi, Qo, Qt, Zp, Q2, Qm, Qa, Qs, decide_true, decide_false, and_true, and_self, forall_const, implies_true, reduceCtorEq, beq_true, imp_self, Qa6]
theorem W52 (l : List Int) (n : Int) (h : l.length ≤ 1000000) : Qal Try.prog 52 [.sl 1 (l.map eI), .i n] (.b (decide (n ∈ l))) := by
 refine Qak Qq4 hmix Try.func52 cb52 cc52 cs52 cn52 ?_
 simp only [rc52, rs52, Qa9, Qa8, Qac, Qa4, Qad, Qa5, Qa2, Fam.step, Qae, evO, opv, qv, Qa1, Qa0, Qa3, ↓reduceIte, Nat.reduceEqDiff, Qb, Qe, zipA, Qi, true_and, reduceCtorEq]
 refine Qbm l.length (fun i => ⟨lkp [(0, .sl 1 (l.map eI)), (1, .i n), (5, .i i)], []⟩) (fun i => ∀ j : Nat, j < i → ¬ l[j]? = some n) ?_ ?_ ?_ ?_
 ·simp only [Zc, kp, Qa0, Qa3, ↓reduceIte, Nat.reduceEqDiff, Qb, Qe, reduceCtorEq]
 ·intro j hj; omega
 ·intro i hi hc
  obtain ⟨x, hx⟩ : ∃ x, l[i]? = some x := ⟨_, Q6 hi⟩
  have hlt : (i : Int) < l.length := by omega
  have h3 : inI ((i : Int) + 1) := by unfold inI; omega
  by_cases e : x = n
  ·have hm : n ∈ l := by rw [← e]; exact Ze hx
   simp only [hx, hlt, e, hm, Qaf, Qa9, Qa8, Qab, Qac, Qag, Qa4, Qad, Qah, Qa5, Qa2, Fam.step, Qae, evO, opv, qv, binV, ldV, iadV, lenV, kp, Qa1, Qa0, Qa3, ↓reduceIte, Nat.reduceEqDiff, Nat.reduceLeDiff, Qb, Qe, Qc, Qd, Qf, Qu, endQ, rvs, rv1, resV, vw_b, Q0, Qi, Qa, decide_true, and_self, reduceCtorEq, Qz, Qg, Q1, Qk, Qv, eI]
  ·simp only [hx, hlt, e, h3, Zd, Zb, Qaf, Qa9, Qa8, Qab, Qac, Qa4, Qad, Qah, Qa5, Qa2, Fam.step, Qae, evO, opv, qv, binV, ldV, iadV, lenV, kp, Qa1, Qa0, Qa3, ↓reduceIte, Nat.reduceEqDiff, Nat.reduceLeDiff, Qb, Qe, Qc, Qd, Qf, Qu, Q0, Qi, Qa, decide_true, decide_false, true_and, and_true, and_self, reduceCtorEq, Qz, Qg, Q1, Qk, Qv, eI]
   intro j hj hjx
   by_cases hji : j < i
   ·exact hc j hji hjx
   ·have : j = i := by omega
    subst this
    rw [hx] at hjx
    exact e (Z7.inj hjx)
 ·intro hc
  have hlt : ¬ ((l.length : Int) < l.length) := by omega
  have hm : n ∉ l := fun hm => by
   obtain ⟨j, hj⟩ := Zk hm
   exact hc j (Qam hj) hj
  simp only [hlt, hm, Qa9, Qa8, Qab, Qaz, Qag, Qa4, Qad, Qah, Qa5, Qa2, Fam.step, Qae, evO, opv, qv, binV, lenV, Qa1, Qa0, Qa3, ↓reduceIte, Nat.reduceEqDiff, Qb, Qe, endQ, rvs, rv1, resV, vw_b, Qa, decide_false, and_self, reduceCtorEq, Qg]
theorem W38 (l : List Int) (n : Int) (h : l.length ≤ 1000000) : Qal Try.prog 38 [.sl 1 (l.map eI), .i n] (.b (decide (n ∈ l))) := by
 refine Qak Qq4 hmix Try.func38 cb38 cc38 cs38 cn38 ?_
 simp only [rc38, rs38, Qa9, Qa8, Qac, Qa4, Qad, Qa5, Qa2, Fam.step, Qae, evO, opv, qv, Qa1, Qa0, Qa3, ↓reduceIte, Nat.reduceEqDiff, Qb, Qe, zipA, Qi, true_and, reduceCtorEq]
 refine Qbm l.length (fun i => ⟨lkp [(0, .sl 1 (l.map eI)), (1, .i n), (5, .i i)], []⟩) (fun i => ∀ j : Nat, j < i → ¬ l[j]? = some n) ?_ ?_ ?_ ?_
 ·simp only [Zc, kp, Qa0, Qa3, ↓reduceIte, Nat.reduceEqDiff, Qb, Qe, reduceCtorEq]
 ·intro j hj; omega
 ·intro i hi hc
  obtain ⟨x, hx⟩ : ∃ x, l[i]? = some x := ⟨_, Q6 hi⟩
  have hlt : (i : Int) < l.length := by omega
  have h3 : inI ((i : Int) + 1) := by unfold inI; omega
  by_cases e : x = n
  ·have hm : n ∈ l := by rw [← e]; exact Ze hx
   simp only [hx, hlt, e, hm, Qaf, Qa9, Qa8, Qab, Qac, Qag, Qa4, Qad, Qah, Qa5, Qa2, Fam.step, Qae, evO, opv, qv, binV, ldV, iadV, lenV, kp, Qa1, Qa0, Qa3, ↓reduceIte, Nat.reduceEqDiff, Nat.reduceLeDiff, Qb, Qe, Qc, Qd, Qf, Qu, endQ, rvs, rv1, resV, vw_b, Q0, Qi, Qa, decide_true, and_self, reduceCtorEq, Qz, Qg, Q1, Qk, Qv, eI]
  ·simp only [hx, hlt, e, h3, Zd, Zb, Qaf, Qa9, Qa8, Qab, Qac, Qa4, Qad, Qah, Qa5, Qa2, Fam.step, Qae, evO, opv, qv, binV, ldV, iadV, lenV, kp, Qa1, Qa0, Qa3, ↓reduceIte, Nat.reduceEqDiff, Nat.reduceLeDiff, Qb, Qe, Qc, Qd, Qf, Qu, Q0, Qi, Qa, decide_true, decide_false, true_and, and_true, and_self, reduceCtorEq, Qz, Qg, Q1, Qk, Qv, eI]
   intro j hj hjx
   by_cases hji : j < i
   ·exact hc j hji hjx
   ·have : j = i := by omega
    subst this
    rw [hx] at hjx
    exact e (Z7.inj hjx)
 ·intro hc
  have hlt : ¬ ((l.length : Int) < l.length) := by omega
  have hm : n ∉ l := fun hm => by
   obtain ⟨j, hj⟩ := Zk hm
   exact hc j (Qam hj) hj
  simp only [hlt, hm, Qa9, Qa8, Qab, Qaz, Qag, Qa4, Qad, Qah, Qa5, Qa2, Fam.step, Qae, evO, opv, qv, binV, lenV, Qa1, Qa0, Qa3, ↓reduceIte, Nat.reduceEqDiff, Qb, Qe, endQ, rvs, rv1, resV, vw_b, Qa, decide_false, and_self, reduceCtorEq, Qg]
def e62 (a : Stand × Int) : List V := [.ag (Qa6 a.1), .i a.2]
def d62 : List V → Stand × Int | [.ag x0, .i x1] => (Qb1 x0, x1) | _ => (Qb1 [], 0)
theorem Qvv (a : Stand × Int) : d62 (e62 a) = a := by simp [d62, e62, Qbe]
noncomputable def HM1 : Gam := HL2.ext 62 (fnG e62 d62 (fun a => (fun (s : Stand) (n : Int) => True) a.1 a.2) (fun a => (fun (s : Stand) (n : Int) => Qaq s.guests n) a.1 a.2) .b)
theorem Qwf : GOk Try.prog HM1 := Qq4.ext (f := 62) (fun a w => Try.call62 a w) (Qb4 (e := e62) (d := d62) (ok := (fun a => (fun (s : Stand) (n : Int) => True) a.1 a.2)) (g := (fun a => (fun (s : Stand) (n : Int) => Qaq s.guests n) a.1 a.2)) (eb := .b) fun a h => W62 a.1 a.2)
theorem h62 (s : Stand) (n : Int) : HM1 62 [.ag (Qa6 s), .i n] = (True, .b (Qaq s.guests n)) :=
 (show HM1 62 _ = fnG e62 d62 (fun a => (fun (s : Stand) (n : Int) => True) a.1 a.2) (fun a => (fun (s : Stand) (n : Int) => Qaq s.guests n) a.1 a.2) .b (e62 (s, n)) from rfl).trans (Qb3 _ (Qvv _))
def e52 (a : List Int × Int) : List V := [.sl 1 (a.1.map eI), .i a.2]
def d52 : List V → List Int × Int | [.sl _ x0, .i x1] => (x0.map dI, x1) | _ => ([], 0)
theorem Qvp (a : List Int × Int) : d52 (e52 a) = a := by simp [d52, e52, Function.comp_def, Qcz]
noncomputable def HM2 : Gam := HM1.ext 52 (fnG e52 d52 (fun a => (fun (l : List Int) (n : Int) => l.length ≤ 1000000) a.1 a.2) (fun a => (fun (l : List Int) (n : Int) => decide (n ∈ l)) a.1 a.2) .b)
theorem Qwg : GOk Try.prog HM2 := Qwf.ext (f := 52) (fun a w => Try.call52 a w) (Qb4 (e := e52) (d := d52) (ok := (fun a => (fun (l : List Int) (n : Int) => l.length ≤ 1000000) a.1 a.2)) (g := (fun a => (fun (l : List Int) (n : Int) => decide (n ∈ l)) a.1 a.2)) (eb := .b) fun a h => W52 a.1 a.2 h)
theorem h52 (l : List Int) (n : Int) : HM2 52 [.sl 1 (l.map eI), .i n] = (l.length ≤ 1000000, .b (decide (n ∈ l))) :=
 (show HM2 52 _ = fnG e52 d52 (fun a => (fun (l : List Int) (n : Int) => l.length ≤ 1000000) a.1 a.2) (fun a => (fun (l : List Int) (n : Int) => decide (n ∈ l)) a.1 a.2) .b (e52 (l, n)) from rfl).trans (Qb3 _ (Qvp _))
def e38 (a : List Int × Int) : List V := [.sl 1 (a.1.map eI), .i a.2]
def d38 : List V → List Int × Int | [.sl _ x0, .i x1] => (x0.map dI, x1) | _ => ([], 0)
theorem Qvh (a : List Int × Int) : d38 (e38 a) = a := by simp [d38, e38, Function.comp_def, Qcz]
noncomputable def HM3 : Gam := HM2.ext 38 (fnG e38 d38 (fun a => (fun (l : List Int) (n : Int) => l.length ≤ 1000000) a.1 a.2) (fun a => (fun (l : List Int) (n : Int) => decide (n ∈ l)) a.1 a.2) .b)
theorem Qul : GOk Try.prog HM3 := Qwg.ext (f := 38) (fun a w => Try.call38 a w) (Qb4 (e := e38) (d := d38) (ok := (fun a => (fun (l : List Int) (n : Int) => l.length ≤ 1000000) a.1 a.2)) (g := (fun a => (fun (l : List Int) (n : Int) => decide (n ∈ l)) a.1 a.2)) (eb := .b) fun a h => W38 a.1 a.2 h)
theorem h38 (l : List Int) (n : Int) : HM3 38 [.sl 1 (l.map eI), .i n] = (l.length ≤ 1000000, .b (decide (n ∈ l))) :=
 (show HM3 38 _ = fnG e38 d38 (fun a => (fun (l : List Int) (n : Int) => l.length ≤ 1000000) a.1 a.2) (fun a => (fun (l : List Int) (n : Int) => decide (n ∈ l)) a.1 a.2) .b (e38 (l, n)) from rfl).trans (Qb3 _ (Qvh _))
theorem Qsu (s : Stand) (n : Int)  : HM3 62 [.ag (Qa6 s), .i n] = (True, .b (Qaq s.guests n)) := h62 s n
theorem Qne {g : Int} {w : Word} (hg : Qaq g w.guest = true) (ho : Qaq g w.other = false) : Qgn g w = false := by
 unfold Qgn
 split
 ·by_cases h : w.other = 0
  ·rw [h] at ho
   simp only [Qaq, Qbb, Zf, decide_eq_true_eq, Zx, decide_eq_false_iff_not] at hg ho
   omega
  ·simp [h]
 ·split
  ·rw [ho]; simp
  ·rfl
set_option maxHeartbeats 4000000 in
theorem W65 (s : Stand) (w : Word) (h : w.among.length ≤ 1000000) : Qal Try.prog 65 [.ag (Qa6 s), .ag (Qap w)] (.b (Qbk s.guests w)) := by
 refine Qak Qul hmix Try.func65 cb65 cc65 cs65 cn65 ?_
 have g1 := fun n => Qsu s n
 simp only [Qa6] at g1
 by_cases hg : Qaq s.guests w.guest = true
 rotate_left
 ·have e : Qbk s.guests w = false := by unfold Qbk; simp [hg]
  simp only [rc65, rs65, g1, hg, e, Qa9, Qa8, Qab, Qag, Qa4, Qad, Qa5, Qa2, Fam.step, Qae, Qb0, Qas, ug, evO, opv, qv, Qai, ldV, Qao, V.cells, Qay, Qaa, Qa7, flat, Qa1, Qa0, Qa3, ↓reduceIte, Nat.reduceEqDiff, Nat.reduceAdd, Nat.reduceLT, Nat.reduceLeDiff, Qb, Qe, Qq, Qp, Qc, Qd, Qh, Qj, Qn, Qx, Qf, Ql, endQ, rvs, rv1, resV, vw_i, vw_b, Qan, Qav, zipA, Qi, Qo, Qt, Qm, Qr, Qw, Qa, Qs, and_true, and_self, forall_const, implies_true, reduceCtorEq, beq_false, imp_self, Qap, Qa6]
 by_cases ho : Qaq s.guests w.other = true
 rotate_left
 ·have e : Qbk s.guests w = false := by unfold Qbk; rw [Qne hg (by simpa using ho)]; simp
  simp only [rc65, rs65, g1, hg, ho, e, Qa9, Qa8, Qab, Qag, Qa4, Qad, Qa5, Qa2, Fam.step, Qae, Qb0, Qas, ug, evO, opv, qv, Qai, ldV, Qao, V.cells, Qay, Qaa, Qa7, flat, Qa1, Qa0, Qa3, ↓reduceIte, Nat.reduceEqDiff, Nat.reduceAdd, Nat.reduceLT, Nat.reduceLeDiff, Qb, Qe, Qq, Qp, Qc, Qd, Qh, Qj, Qn, Qx, Qf, Ql, endQ, rvs, rv1, resV, vw_i, vw_b, Qan, Qav, zipA, beq_self_eq_true, Qi, Qo, Qm, Qr, Qw, Qa, and_self, forall_const, implies_true, reduceCtorEq, Qap, Qa6]
 by_cases k3 : w.kind = 3 ∨ w.kind = 4
 ·have k12 : ¬ (w.kind = 1 ∨ w.kind = 2) := by omega
  by_cases hl : (w.among.length : Int) = 0
  ·have hl0 : w.among = [] := Zq (by omega)
   have e : Qbk s.guests w = decide (w.other ≠ w.guest) := by unfold Qbk Qgn Qf4; rw [if_neg k12, if_pos k3, hg, ho, hl0]; simp
   by_cases hn : w.guest = w.other
   ·have hn' := hn.symm
    rcases k3 with k3 | k3 <;> simp only [rc65, rs65, g1, ho, k3, hl, hn, e, eq_self, Qaf, Qa9, Qa8, Qab, Qag, Qa4, Qad, Qa5, Qa2, Fam.step, Qae, Qb0, Qas, ug, evO, opv, qv, Qai, binV, ldV, lenV, Qao, V.cells, Qay, Qaa, Qa7, flat, Qa1, Qa0, Qa3, ↓reduceIte, Nat.reduceEqDiff, Nat.reduceAdd, Nat.reduceLT, Nat.reduceLeDiff, Int.reduceEq, Qb, Qe, Qq, Qp, Qc, Qd, Qh, Qj, Qn, Qx, Qf, Ql, endQ, rvs, rv1, resV, vw_i, vw_b, Qan, Qav, zipA, beq_self_eq_true, Qi, Qo, Qt, Qm, Qr, Qa, Qs, decide_true, decide_false, and_true, and_self, forall_const, implies_true, reduceCtorEq, not_true_eq_false, ne_eq, beq_false, imp_self, Qg, Qap, Qa6]
   ·have hn' : ¬ w.other = w.guest := fun e => hn e.symm
    rcases k3 with k3 | k3 <;> simp only [rc65, rs65, g1, hg, ho, k3, hl, hn, hn', e, Qaf, Qa9, Qa8, Qab, Qag, Qa4, Qad, Qa5, Qa2, Fam.step, Qae, Qb0, Qas, ug, evO, opv, qv, Qai, binV, ldV, lenV, Qao, V.cells, Qay, Qaa, Qa7, flat, Qa1, Qa0, Qa3, ↓reduceIte, Nat.reduceEqDiff, Nat.reduceAdd, Nat.reduceLT, Nat.reduceLeDiff, Int.reduceEq, Qb, Qe, Qq, Qp, Qc, Qd, Qh, Qj, Qn, Qx, Qf, Ql, endQ, rvs, rv1, resV, vw_i, vw_b, Qan, Qav, zipA, beq_self_eq_true, Qi, Qo, Qt, Qm, Qr, Qw, Qa, Qs, decide_true, decide_false, and_true, and_self, forall_const, implies_true, reduceCtorEq, not_false_eq_true, ne_eq, beq_false, imp_self, Qg, Qap, Qa6]
  ·have e : Qbk s.guests w = false := by
    unfold Qbk Qgn; rw [if_neg k12, if_pos k3]
    have : ¬ w.among.length = 0 := by omega
    simp [this]
   rcases k3 with k3 | k3 <;> simp only [rc65, rs65, g1, hg, ho, k3, hl, e, Qaf, Qa9, Qa8, Qab, Qag, Qa4, Qad, Qa5, Qa2, Fam.step, Qae, Qb0, Qas, ug, evO, opv, qv, Qai, binV, ldV, lenV, Qao, V.cells, Qay, Qaa, Qa7, flat, Qa1, Qa0, Qa3, ↓reduceIte, Nat.reduceEqDiff, Nat.reduceAdd, Nat.reduceLT, Nat.reduceLeDiff, Int.reduceEq, Qb, Qe, Qq, Qp, Qc, Qd, Qh, Qj, Qn, Qx, Qf, Ql, endQ, rvs, rv1, resV, vw_i, vw_b, Qan, Qav, zipA, beq_self_eq_true, Qi, Qo, Qt, Qm, Qr, Qa, Qs, decide_true, decide_false, and_true, and_self, forall_const, implies_true, reduceCtorEq, beq_true, beq_false, imp_self, Qg, Qap, Qa6]
 have k3' : ¬ w.kind = 3 := by omega
 have k4' : ¬ w.kind = 4 := by omega
 by_cases hbad : (¬ w.kind = 1 ∧ ¬ w.kind = 2) ∨ (w.among.length : Int) = 0 ∨ ¬ w.other = 0
 ·have e : Qbk s.guests w = false := by
   unfold Qbk Qgn
   rw [if_neg k3]
   by_cases k12 : w.kind = 1 ∨ w.kind = 2
   ·rw [if_pos k12]
    rcases hbad with hb | hb | hb
    ·omega
    ·have : ¬ 0 < w.among.length := by omega
     simp [this]
    ·simp [hb]
   ·rw [if_neg k12]; simp
  by_cases k1 : w.kind = 1
  ·by_cases hl : (w.among.length : Int) = 0
   ·simp only [rc65, rs65, g1, hg, ho, k1, hl, e, Qaf, Qa9, Qa8, Qab, Qag, Qa4, Qad, Qa5, Qa2, Fam.step, Qae, Qb0, Qas, ug, evO, opv, qv, Qai, binV, ldV, lenV, Qao, V.cells, Qay, Qaa, Qa7, flat, Qa1, Qa0, Qa3, ↓reduceIte, Nat.reduceEqDiff, Nat.reduceAdd, Nat.reduceLT, Nat.reduceLeDiff, Int.reduceEq, Qb, Qe, Qq, Qp, Qc, Qd, Qh, Qj, Qn, Qx, Qf, Ql, endQ, rvs, rv1, resV, vw_i, vw_b, Qan, Qav, zipA, beq_self_eq_true, Qi, Qo, Qt, Qm, Qr, Qw, Qa, Qs, decide_true, decide_false, and_true, and_self, forall_const, implies_true, reduceCtorEq, beq_true, beq_false, imp_self, Qg, Qap, Qa6]
   ·have ho0 : ¬ w.other = 0 := by omega
    simp only [rc65, rs65, g1, hg, ho, k1, hl, ho0, e, Qaf, Qa9, Qa8, Qab, Qag, Qa4, Qad, Qa5, Qa2, Fam.step, Qae, Qb0, Qas, ug, evO, opv, qv, Qai, binV, ldV, lenV, Qao, V.cells, Qay, Qaa, Qa7, flat, Qa1, Qa0, Qa3, ↓reduceIte, Nat.reduceEqDiff, Nat.reduceAdd, Nat.reduceLT, Nat.reduceLeDiff, Int.reduceEq, Qb, Qe, Qq, Qp, Qc, Qd, Qh, Qj, Qn, Qx, Qf, Ql, endQ, rvs, rv1, resV, vw_i, vw_b, Qan, Qav, zipA, beq_self_eq_true, Qi, Qo, Qt, Qm, Qr, Qw, Qa, decide_true, decide_false, and_true, and_self, forall_const, implies_true, reduceCtorEq, beq_true, imp_self, Qg, Qap, Qa6]
  ·by_cases k2 : w.kind = 2
   ·by_cases hl : (w.among.length : Int) = 0
    ·simp only [rc65, rs65, g1, hg, ho, k2, hl, e, Qaf, Qa9, Qa8, Qab, Qag, Qa4, Qad, Qa5, Qa2, Fam.step, Qae, Qb0, Qas, ug, evO, opv, qv, Qai, binV, ldV, lenV, Qao, V.cells, Qay, Qaa, Qa7, flat, Qa1, Qa0, Qa3, ↓reduceIte, Nat.reduceEqDiff, Nat.reduceAdd, Nat.reduceLT, Nat.reduceLeDiff, Int.reduceEq, Qb, Qe, Qq, Qp, Qc, Qd, Qh, Qj, Qn, Qx, Qf, Ql, endQ, rvs, rv1, resV, vw_i, vw_b, Qan, Qav, zipA, beq_self_eq_true, Qi, Qo, Qt, Qm, Qr, Qw, Qa, Qs, decide_true, decide_false, and_true, and_self, forall_const, implies_true, reduceCtorEq, beq_false, imp_self, Qg, Qap, Qa6]
    ·have ho0 : ¬ w.other = 0 := by omega
     simp only [rc65, rs65, g1, hg, ho, k2, hl, ho0, e, Qaf, Qa9, Qa8, Qab, Qag, Qa4, Qad, Qa5, Qa2, Fam.step, Qae, Qb0, Qas, ug, evO, opv, qv, Qai, binV, ldV, lenV, Qao, V.cells, Qay, Qaa, Qa7, flat, Qa1, Qa0, Qa3, ↓reduceIte, Nat.reduceEqDiff, Nat.reduceAdd, Nat.reduceLT, Nat.reduceLeDiff, Int.reduceEq, Qb, Qe, Qq, Qp, Qc, Qd, Qh, Qj, Qn, Qx, Qf, Ql, endQ, rvs, rv1, resV, vw_i, vw_b, Qan, Qav, zipA, beq_self_eq_true, Qi, Qo, Qm, Qr, Qw, Qa, Qs, decide_true, decide_false, and_self, forall_const, implies_true, reduceCtorEq, Qg, Qap, Qa6]
   ·simp only [rc65, rs65, g1, hg, ho, k3', k4', k1, k2, e, Qaf, Qa9, Qa8, Qab, Qag, Qa4, Qad, Qa5, Qa2, Fam.step, Qae, Qb0, Qas, ug, evO, opv, qv, Qai, binV, ldV, lenV, Qao, V.cells, Qay, Qaa, Qa7, flat, Qa1, Qa0, Qa3, ↓reduceIte, Nat.reduceEqDiff, Nat.reduceAdd, Nat.reduceLT, Nat.reduceLeDiff, Qb, Qe, Qq, Qp, Qc, Qd, Qh, Qj, Qn, Qx, Qf, Ql, endQ, rvs, rv1, resV, vw_i, vw_b, Qan, Qav, zipA, beq_self_eq_true, Qi, Qo, Qt, Qm, Qr, Qw, Qa, Qs, decide_false, and_true, and_self, forall_const, implies_true, reduceCtorEq, beq_false, imp_self, Qg, Qap, Qa6]
 ·have hl : ¬ (w.among.length : Int) = 0 := by omega
  have ho0 : w.other = 0 := by omega
  have k12 : w.kind = 1 ∨ w.kind = 2 := by omega
  have ew : Qbk s.guests w = Qf4 s.guests w.among := by
   unfold Qbk Qgn
   have : 0 < w.among.length := by omega
   rw [if_pos k12, hg]; simp [this, ho0]
  have k1or : w.kind = 1 ∨ (¬ w.kind = 1 ∧ w.kind = 2) := by omega
  have ho' := ho
  rw [ho0] at ho'
  rcases k1or with k1 | ⟨k1, k2⟩
  ·simp only [rc65, rs65, g1, hg, k1, hl, ho0, ho', Qaf, Qa9, Qa8, Qab, Qac, Qa4, Qad, Qa5, Qa2, Fam.step, Qae, Qb0, Qas, ug, evO, opv, qv, Qai, binV, ldV, lenV, Qao, V.cells, Qay, Qaa, Qa7, flat, Qa1, Qa0, Qa3, ↓reduceIte, Nat.reduceEqDiff, Nat.reduceAdd, Nat.reduceLT, Nat.reduceLeDiff, Int.reduceEq, Qb, Qe, Qq, Qp, Qc, Qd, Qh, Qj, Qn, Qx, Qf, Ql, vw_i, Qan, Qav, zipA, beq_self_eq_true, Qi, Qo, Qt, Qm, Qr, Qw, Qa, decide_true, decide_false, true_and, and_true, and_self, forall_const, implies_true, reduceCtorEq, beq_true, imp_self, Qg, Qap, Qa6]
   refine Qbm w.among.length (fun i => ⟨lkp [(2, .pa (Qa6 s)), (3, .pa (Qap w)), (5, .i i)], []⟩) (fun i => ∀ j : Nat, j < i → (Qaq s.guests (w.among[j]?.getD 0) && (decide (j = 0) || decide (w.among[j - 1]?.getD 0 < w.among[j]?.getD 0))) = true) ?_ ?_ ?_ ?_
   ·simp only [Zc, k1, ho0, kp, Qa0, Qa3, ↓reduceIte, Nat.reduceEqDiff, Qb, Qe, Qap, Qa6]
   ·intro j hj; omega
   ·intro i hi hc
    obtain ⟨x, hx⟩ : ∃ x, w.among[i]? = some x := ⟨_, Q6 hi⟩
    have hlt : (i : Int) < w.among.length := by omega
    have h3 : inI ((i : Int) + 1) ∧ inI ((i : Int) - 1) := by unfold inI; omega
    have hgd : w.among[i]?.getD 0 = x := by rw [hx]; rfl
    have fin : (Qaq s.guests x && (decide (i = 0) || decide (w.among[i - 1]?.getD 0 < x))) = false → Qbk s.guests w = false := fun e => by
     rw [ew]; unfold Qf4
     rw [Zt]
     exact ⟨i, Zh.2 hi, by rw [hgd, e]; simp⟩
    have con : (Qaq s.guests x && (decide (i = 0) || decide (w.among[i - 1]?.getD 0 < x))) = true → ∀ j : Nat, j < i + 1 → (Qaq s.guests (w.among[j]?.getD 0) && (decide (j = 0) || decide (w.among[j - 1]?.getD 0 < w.among[j]?.getD 0))) = true := fun e j hj => by
     by_cases hji : j < i
     ·exact hc j hji
     ·have : j = i := by omega
      subst this
      rw [hgd]; exact e
    by_cases hgx : Qaq s.guests x = true
    ·by_cases hi0 : i = 0
     ·subst hi0
      have hlt0 : (0 : Int) < w.among.length := by omega
      have i10 : inI 1 := by unfold inI; omega
      have hcon := con (by simp [hgx])
      rw [Qi] at hcon
      simp only [hx, hlt0, g1, hgx, Zc, i10, Zb, Qaf, Qa9, Qbu, Qa8, Qab, Qac, Qa4, Qb8, Qad, Qah, Qa5, Qa2, Fam.step, Qae, Qb0, Qas, ug, runX, eff, Qb7, fpR, fpQ, fpV, Qc0, hits, evO, opv, qv, Qai, binV, ldV, iadV, lenV, Qao, Qaa, Qa7, flat, kp, Qa1, Qa0, Qa3, ↓reduceIte, Nat.reduceEqDiff, Nat.reduceAdd, Nat.reduceLT, Nat.reduceLeDiff, Int.reduceNeg, Int.reduceToNat, Zl, Int.reduceLE, Int.reduceAdd, Int.reduceSub, Qb, Qe, Qq, Qp, Qc, Qd, Qh, Qj, Qn, Qx, Qf, Q3, Q7, Ql, Q4, Qu, Q8, Qy, Q9, vw_i, Qan, Qav, Int.lt_irrefl, beq_self_eq_true, Qi, Qo, Qt, Q2, Zi, Qm, Qr, Qw, Qa, decide_true, decide_false, true_and, and_true, and_self, false_and, and_false, forall_const, implies_true, Qz, Za, Q5, beq_true, imp_self, Qg, Qk, Qv, Qap, Qa6, eI]
      exact hcon
     ·have hpos : (0 : Int) < i := by omega
      obtain ⟨y, hy⟩ : ∃ y, w.among[i - 1]? = some y := ⟨_, Q6 (by omega)⟩
      have hyd : w.among[i - 1]?.getD 0 = y := by rw [hy]; rfl
      have e1 : ((i : Int) - 1).toNat = i - 1 := by omega
      have e2 : (0 : Int) ≤ (i : Int) - 1 ∧ (i : Int) - 1 < w.among.length := by omega
      rw [hyd] at fin con
      by_cases hxy : x ≤ y
      ·simp only [hx, hlt, h3, g1, hgx, hpos, e1, e2, hy, hxy, Qaf, Qa9, Qbu, Qa8, Qab, Qac, Qag, Qa4, Qb8, Qad, Qah, Qa5, Qa2, Fam.step, Qae, Qb0, Qas, ug, runX, eff, Qb7, fpR, fpQ, fpV, Qc0, hits, evO, opv, qv, Qai, binV, ldV, iadV, lenV, Qao, Qaa, Qa7, flat, kp, Qa1, Qa0, Qa3, ↓reduceIte, Nat.reduceEqDiff, Nat.reduceAdd, Nat.reduceLT, Nat.reduceLeDiff, Qb, Qe, Qq, Qp, Qc, Qd, Qh, Qj, Qn, Qx, Qf, Q3, Q7, Ql, Q4, Qu, Q8, Qy, Q9, endQ, rvs, rv1, resV, vw_i, vw_b, Qan, Qav, Q0, beq_self_eq_true, Qi, V.b.injEq, Qo, Qt, Q2, Qm, Qr, Qw, Qa, Qs, decide_true, true_and, and_self, forall_const, implies_true, Qz, Za, Q5, Qg, Q1, Qk, Qv, Qap, Qa6, eI]
       exact (fin (by simp [hi0]; intro _; omega)).symm
      ·simp only [hx, hlt, h3, g1, hgx, hpos, e1, e2, hy, hxy, Zd, Zb, Qaf, Qa9, Qbu, Qa8, Qab, Qac, Qa4, Qb8, Qad, Qah, Qa5, Qa2, Fam.step, Qae, Qb0, Qas, ug, runX, eff, Qb7, fpR, fpQ, fpV, Qc0, hits, evO, opv, qv, Qai, binV, ldV, iadV, lenV, Qao, Qaa, Qa7, flat, kp, Qa1, Qa0, Qa3, ↓reduceIte, Nat.reduceEqDiff, Nat.reduceAdd, Nat.reduceLT, Nat.reduceLeDiff, Qb, Qe, Qq, Qp, Qc, Qd, Qh, Qj, Qn, Qx, Qf, Q3, Q7, Ql, Q4, Qu, Q8, Qy, Q9, vw_i, Qan, Qav, Q0, beq_self_eq_true, Qi, Qo, Qt, Q2, Qm, Qr, Qw, Qa, Qs, decide_true, decide_false, true_and, and_true, and_self, forall_const, implies_true, Qz, Za, Q5, Qg, Q1, Qk, Qv, Qap, Qa6, eI]
       exact con (by simp [hgx]; right; omega)
    ·simp only [hx, hlt, h3, g1, hgx, Qaf, Qa9, Qbu, Qa8, Qab, Qac, Qag, Qa4, Qb8, Qad, Qah, Qa5, Qa2, Fam.step, Qae, Qb0, Qas, ug, runX, eff, Qb7, fpR, fpQ, fpV, Qc0, hits, evO, opv, qv, Qek, binV, ldV, iadV, lenV, Qao, Qaa, Qa7, flat, kp, Qa1, Qa0, Qa3, ↓reduceIte, Nat.reduceEqDiff, Nat.reduceAdd, Nat.reduceLT, Nat.reduceLeDiff, Qb, Qe, Qq, Qp, Qc, Qd, Qh, Qj, Qn, Qx, Qf, Q3, Q7, Ql, Q4, Qu, Q8, Qy, Q9, endQ, rvs, rv1, resV, vw_i, vw_b, Qan, Qav, Q0, Qi, V.b.injEq, Qo, Qt, Q2, Qm, Qr, Qw, Qa, Qs, decide_true, decide_eq_true_eq, decide_eq_false_iff_not, true_and, and_true, and_self, false_and, forall_const, implies_true, Qz, Za, Q5, beq_true, beq_false, imp_self, Qg, Q1, Qk, Qv, Qap, Qa6, eI]
     exact (fin (by simp [hgx])).symm
   ·intro hc
    have ha : Qbk s.guests w = true := by
     rw [ew]; unfold Qf4
     rw [Zv]
     intro i hi
     exact hc i (Zh.1 hi)
    have hlt : ¬ ((w.among.length : Int) < w.among.length) := by omega
    simp only [hlt, ha, Qa9, Qa8, Qab, Qaz, Qag, Qa4, Qad, Qah, Qa5, Qa2, Fam.step, Qae, evO, opv, qv, binV, ldV, lenV, Qa1, Qa0, Qa3, ↓reduceIte, Nat.reduceEqDiff, Nat.reduceLeDiff, Qb, Qe, Qc, Qd, Qh, Qj, Qf, endQ, rvs, rv1, resV, vw_b, Qi, Qa, decide_false, and_self, Qg, Qap, Qa6]
  ·simp only [rc65, rs65, g1, hg, k2, hl, ho0, ho', Qaf, Qa9, Qa8, Qab, Qac, Qa4, Qad, Qa5, Qa2, Fam.step, Qae, Qb0, Qas, ug, evO, opv, qv, Qai, binV, ldV, lenV, Qao, V.cells, Qay, Qaa, Qa7, flat, Qa1, Qa0, Qa3, ↓reduceIte, Nat.reduceEqDiff, Nat.reduceAdd, Nat.reduceLT, Nat.reduceLeDiff, Int.reduceEq, Qb, Qe, Qq, Qp, Qc, Qd, Qh, Qj, Qn, Qx, Qf, Ql, vw_i, Qan, Qav, zipA, beq_self_eq_true, Qi, Qo, Qm, Qr, Qw, Qa, Qs, decide_true, decide_false, true_and, and_self, forall_const, implies_true, reduceCtorEq, Qg, Qap, Qa6]
   refine Qbm w.among.length (fun i => ⟨lkp [(2, .pa (Qa6 s)), (3, .pa (Qap w)), (5, .i i)], []⟩) (fun i => ∀ j : Nat, j < i → (Qaq s.guests (w.among[j]?.getD 0) && (decide (j = 0) || decide (w.among[j - 1]?.getD 0 < w.among[j]?.getD 0))) = true) ?_ ?_ ?_ ?_
   ·simp only [Zc, k2, ho0, kp, Qa0, Qa3, ↓reduceIte, Nat.reduceEqDiff, Qb, Qe, Qap, Qa6]
   ·intro j hj; omega
   ·intro i hi hc
    obtain ⟨x, hx⟩ : ∃ x, w.among[i]? = some x := ⟨_, Q6 hi⟩
    have hlt : (i : Int) < w.among.length := by omega
    have h3 : inI ((i : Int) + 1) ∧ inI ((i : Int) - 1) := by unfold inI; omega
    have hgd : w.among[i]?.getD 0 = x := by rw [hx]; rfl
    have fin : (Qaq s.guests x && (decide (i = 0) || decide (w.among[i - 1]?.getD 0 < x))) = false → Qbk s.guests w = false := fun e => by
     rw [ew]; unfold Qf4
     rw [Zt]
     exact ⟨i, Zh.2 hi, by rw [hgd, e]; simp⟩
    have con : (Qaq s.guests x && (decide (i = 0) || decide (w.among[i - 1]?.getD 0 < x))) = true → ∀ j : Nat, j < i + 1 → (Qaq s.guests (w.among[j]?.getD 0) && (decide (j = 0) || decide (w.among[j - 1]?.getD 0 < w.among[j]?.getD 0))) = true := fun e j hj => by
     by_cases hji : j < i
     ·exact hc j hji
     ·have : j = i := by omega
      subst this
      rw [hgd]; exact e
    by_cases hgx : Qaq s.guests x = true
    ·by_cases hi0 : i = 0
     ·subst hi0
      have hlt0 : (0 : Int) < w.among.length := by omega
      have i10 : inI 1 := by unfold inI; omega
      have hcon := con (by simp [hgx])
      rw [Qi] at hcon
      simp only [hx, hlt0, g1, hgx, Zc, i10, Zb, Qaf, Qa9, Qbu, Qa8, Qab, Qac, Qa4, Qb8, Qad, Qah, Qa5, Qa2, Fam.step, Qae, Qb0, Qas, ug, runX, eff, Qb7, fpR, fpQ, fpV, Qc0, hits, evO, opv, qv, Qai, binV, ldV, iadV, lenV, Qao, Qaa, Qa7, flat, kp, Qa1, Qa0, Qa3, ↓reduceIte, Nat.reduceEqDiff, Nat.reduceAdd, Nat.reduceLT, Nat.reduceLeDiff, Int.reduceNeg, Int.reduceToNat, Zl, Int.reduceLE, Int.reduceAdd, Int.reduceSub, Qb, Qe, Qq, Qp, Qc, Qd, Qh, Qj, Qn, Qx, Qf, Q3, Q7, Ql, Q4, Qu, Q8, Qy, Q9, vw_i, Qan, Qav, Int.lt_irrefl, beq_self_eq_true, Qi, Qo, Qt, Q2, Zi, Qm, Qr, Qw, Qa, decide_true, decide_false, true_and, and_true, and_self, false_and, and_false, forall_const, implies_true, Qz, Za, Q5, beq_true, imp_self, Qg, Qk, Qv, Qap, Qa6, eI]
      exact hcon
     ·have hpos : (0 : Int) < i := by omega
      obtain ⟨y, hy⟩ : ∃ y, w.among[i - 1]? = some y := ⟨_, Q6 (by omega)⟩
      have hyd : w.among[i - 1]?.getD 0 = y := by rw [hy]; rfl
      have e1 : ((i : Int) - 1).toNat = i - 1 := by omega
      have e2 : (0 : Int) ≤ (i : Int) - 1 ∧ (i : Int) - 1 < w.among.length := by omega
      rw [hyd] at fin con
      by_cases hxy : x ≤ y
      ·simp only [hx, hlt, h3, g1, hgx, hpos, e1, e2, hy, hxy, Qaf, Qa9, Qbu, Qa8, Qab, Qac, Qag, Qa4, Qb8, Qad, Qah, Qa5, Qa2, Fam.step, Qae, Qb0, Qas, ug, runX, eff, Qb7, fpR, fpQ, fpV, Qc0, hits, evO, opv, qv, Qai, binV, ldV, iadV, lenV, Qao, Qaa, Qa7, flat, kp, Qa1, Qa0, Qa3, ↓reduceIte, Nat.reduceEqDiff, Nat.reduceAdd, Nat.reduceLT, Nat.reduceLeDiff, Qb, Qe, Qq, Qp, Qc, Qd, Qh, Qj, Qn, Qx, Qf, Q3, Q7, Ql, Q4, Qu, Q8, Qy, Q9, endQ, rvs, rv1, resV, vw_i, vw_b, Qan, Qav, Q0, beq_self_eq_true, Qi, V.b.injEq, Qo, Qt, Q2, Qm, Qr, Qw, Qa, Qs, decide_true, true_and, and_self, forall_const, implies_true, Qz, Za, Q5, Qg, Q1, Qk, Qv, Qap, Qa6, eI]
       exact (fin (by simp [hi0]; intro _; omega)).symm
      ·simp only [hx, hlt, h3, g1, hgx, hpos, e1, e2, hy, hxy, Zd, Zb, Qaf, Qa9, Qbu, Qa8, Qab, Qac, Qa4, Qb8, Qad, Qah, Qa5, Qa2, Fam.step, Qae, Qb0, Qas, ug, runX, eff, Qb7, fpR, fpQ, fpV, Qc0, hits, evO, opv, qv, Qai, binV, ldV, iadV, lenV, Qao, Qaa, Qa7, flat, kp, Qa1, Qa0, Qa3, ↓reduceIte, Nat.reduceEqDiff, Nat.reduceAdd, Nat.reduceLT, Nat.reduceLeDiff, Qb, Qe, Qq, Qp, Qc, Qd, Qh, Qj, Qn, Qx, Qf, Q3, Q7, Ql, Q4, Qu, Q8, Qy, Q9, vw_i, Qan, Qav, Q0, beq_self_eq_true, Qi, Qo, Qt, Q2, Qm, Qr, Qw, Qa, Qs, decide_true, decide_false, true_and, and_true, and_self, forall_const, implies_true, Qz, Za, Q5, Qg, Q1, Qk, Qv, Qap, Qa6, eI]
       exact con (by simp [hgx]; right; omega)
    ·simp only [hx, hlt, h3, g1, hgx, Qaf, Qa9, Qbu, Qa8, Qab, Qac, Qag, Qa4, Qb8, Qad, Qah, Qa5, Qa2, Fam.step, Qae, Qb0, Qas, ug, runX, eff, Qb7, fpR, fpQ, fpV, Qc0, hits, evO, opv, qv, Qek, binV, ldV, iadV, lenV, Qao, Qaa, Qa7, flat, kp, Qa1, Qa0, Qa3, ↓reduceIte, Nat.reduceEqDiff, Nat.reduceAdd, Nat.reduceLT, Nat.reduceLeDiff, Qb, Qe, Qq, Qp, Qc, Qd, Qh, Qj, Qn, Qx, Qf, Q3, Q7, Ql, Q4, Qu, Q8, Qy, Q9, endQ, rvs, rv1, resV, vw_i, vw_b, Qan, Qav, Q0, Qi, V.b.injEq, Qo, Qt, Q2, Qm, Qr, Qw, Qa, Qs, decide_true, decide_eq_true_eq, decide_eq_false_iff_not, true_and, and_true, and_self, false_and, forall_const, implies_true, Qz, Za, Q5, beq_true, beq_false, imp_self, Qg, Q1, Qk, Qv, Qap, Qa6, eI]
     exact (fin (by simp [hgx])).symm
   ·intro hc
    have ha : Qbk s.guests w = true := by
     rw [ew]; unfold Qf4
     rw [Zv]
     intro i hi
     exact hc i (Zh.1 hi)
    have hlt : ¬ ((w.among.length : Int) < w.among.length) := by omega
    simp only [hlt, ha, Qa9, Qa8, Qab, Qaz, Qag, Qa4, Qad, Qah, Qa5, Qa2, Fam.step, Qae, evO, opv, qv, binV, ldV, lenV, Qa1, Qa0, Qa3, ↓reduceIte, Nat.reduceEqDiff, Nat.reduceLeDiff, Qb, Qe, Qc, Qd, Qh, Qj, Qf, endQ, rvs, rv1, resV, vw_b, Qi, Qa, decide_false, and_self, Qg, Qap, Qa6]
end Go.C10
set_option linter.unusedSimpArgs false
set_option linter.unusedVariables false
namespace Go.C10
open Go.Fam Go.Proofs
variable {Γ : Gam}
def e65 (a : Stand × Word) : List V := [.ag (Qa6 a.1), .ag (Qap a.2)]
def d65 : List V → Stand × Word | [.ag x0, .ag x1] => (Qb1 x0, Qe9 x1) | _ => (Qb1 [], Qe9 [])
theorem Qvw (a : Stand × Word) : d65 (e65 a) = a := by simp [d65, e65, Qbe, Qdw]
noncomputable def HN1 : Gam := HM3.ext 65 (fnG e65 d65 (fun a => (fun (s : Stand) (w : Word) => w.among.length ≤ 1000000) a.1 a.2) (fun a => (fun (s : Stand) (w : Word) => Qbk s.guests w) a.1 a.2) .b)
theorem Qum : GOk Try.prog HN1 := Qul.ext (f := 65) (fun a w => Try.call65 a w) (Qb4 (e := e65) (d := d65) (ok := (fun a => (fun (s : Stand) (w : Word) => w.among.length ≤ 1000000) a.1 a.2)) (g := (fun a => (fun (s : Stand) (w : Word) => Qbk s.guests w) a.1 a.2)) (eb := .b) fun a h => W65 a.1 a.2 h)
theorem h65 (s : Stand) (w : Word) : HN1 65 [.ag (Qa6 s), .ag (Qap w)] = (w.among.length ≤ 1000000, .b (Qbk s.guests w)) :=
 (show HN1 65 _ = fnG e65 d65 (fun a => (fun (s : Stand) (w : Word) => w.among.length ≤ 1000000) a.1 a.2) (fun a => (fun (s : Stand) (w : Word) => Qbk s.guests w) a.1 a.2) .b (e65 (s, w)) from rfl).trans (Qb3 _ (Qvw _))
theorem W36 (s : Stand) (h : Qar s) : Qal Try.prog 36 [.ag (Qa6 s)] (.i (Qb2 s)) := by
 refine Qak Qum hmix Try.func36 cb36 cc36 cs36 cn36 ?_
 by_cases hg : Qbb s.guests 0 7 = true
 rotate_left
 ·have e : Qb2 s = 100 := by unfold Qb2; rw [if_pos (by simp [hg])]
  unfold Qbb at hg
  simp only [Zf, decide_eq_true_eq, not_and] at hg
  by_cases h1 : s.guests < 0
  ·simp only [rc36, rs36, h1, e, Qa9, Qa8, Qab, Qag, Qa4, Qad, Qa5, Qa2, Fam.step, Qae, Qb0, Qas, ug, evO, opv, qv, Qai, binV, ldV, V.cells, Qay, Qaa, Qa7, Qa1, Qa0, Qa3, ↓reduceIte, Nat.reduceEqDiff, Nat.reduceAdd, Nat.reduceLeDiff, Qb, Qe, Qq, Qp, Qc, Qd, Qh, Qj, Qf, endQ, rvs, rv1, resV, vw_i, Qan, Qav, zipA, Qi, Qo, Qt, Qm, Qr, Qa, Qs, decide_true, and_true, and_self, forall_const, implies_true, beq_false, imp_self, Qa6]
  ·have h2 : 7 < s.guests := by have := hg (by omega); omega
   simp only [rc36, rs36, h1, h2, e, Qa9, Qa8, Qab, Qag, Qa4, Qad, Qa5, Qa2, Fam.step, Qae, Qb0, Qas, ug, evO, opv, qv, Qai, binV, ldV, V.cells, Qay, Qaa, Qa7, Qa1, Qa0, Qa3, ↓reduceIte, Nat.reduceEqDiff, Nat.reduceAdd, Nat.reduceLeDiff, Qb, Qe, Qq, Qp, Qc, Qd, Qh, Qj, Qf, endQ, rvs, rv1, resV, vw_i, Qan, Qav, zipA, beq_self_eq_true, Qi, Qo, Qt, Qm, Qr, Qa, Qs, decide_true, decide_false, and_true, and_self, forall_const, implies_true, beq_false, imp_self, Qa6]
 have hg2 : ¬ s.guests < 0 ∧ ¬ 7 < s.guests := by
  unfold Qbb at hg
  simp only [Zf, decide_eq_true_eq] at hg; omega
 by_cases hw : Qbb s.wrong 0 7 = true
 rotate_left
 ·have e : Qb2 s = 100 := by unfold Qb2; rw [if_pos (by simp [hw])]
  unfold Qbb at hw
  simp only [Zf, decide_eq_true_eq, not_and] at hw
  by_cases h1 : s.wrong < 0
  ·simp only [rc36, rs36, hg2, h1, e, Qa9, Qa8, Qab, Qag, Qa4, Qad, Qa5, Qa2, Fam.step, Qae, Qb0, Qas, ug, evO, opv, qv, Qai, binV, ldV, V.cells, Qay, Qaa, Qa7, Qa1, Qa0, Qa3, ↓reduceIte, Nat.reduceEqDiff, Nat.reduceAdd, Nat.reduceLeDiff, Qb, Qe, Qq, Qp, Qc, Qd, Qh, Qj, Qf, endQ, rvs, rv1, resV, vw_i, Qan, Qav, zipA, beq_self_eq_true, Qi, Qo, Qt, Qm, Qr, Qa, Qs, decide_true, decide_false, and_true, and_self, forall_const, implies_true, beq_false, imp_self, Qa6]
  ·have h2 : 7 < s.wrong := by have := hw (by omega); omega
   simp only [rc36, rs36, hg2, h1, h2, e, Qa9, Qa8, Qab, Qag, Qa4, Qad, Qa5, Qa2, Fam.step, Qae, Qb0, Qas, ug, evO, opv, qv, Qai, binV, ldV, V.cells, Qay, Qaa, Qa7, Qa1, Qa0, Qa3, ↓reduceIte, Nat.reduceEqDiff, Nat.reduceAdd, Nat.reduceLeDiff, Qb, Qe, Qq, Qp, Qc, Qd, Qh, Qj, Qf, endQ, rvs, rv1, resV, vw_i, Qan, Qav, zipA, beq_self_eq_true, Qi, Qo, Qm, Qa, decide_true, decide_false, and_self, forall_const, implies_true, Qa6]
 have hw2 : ¬ s.wrong < 0 ∧ ¬ 7 < s.wrong := by
  unfold Qbb at hw
  simp only [Zf, decide_eq_true_eq] at hw; omega
 by_cases h20 : (20 : Int) < s.words.length
 ·have e : Qb2 s = 101 := by unfold Qb2; rw [if_neg (by simp [hg, hw]), if_pos (.inl (by omega))]
  simp only [rc36, rs36, hg2, hw2, h20, e, Qaf, Qa9, Qa8, Qab, Qag, Qa4, Qad, Qa5, Qa2, Fam.step, Qae, Qb0, Qas, ug, evO, opv, qv, Qai, binV, ldV, lenV, V.cells, Qay, Qaa, Qa7, Qa1, Qa0, Qa3, ↓reduceIte, Nat.reduceEqDiff, Nat.reduceAdd, Nat.reduceLeDiff, Qb, Qe, Qq, Qp, Qc, Qd, Qh, Qj, Qf, endQ, rvs, rv1, resV, vw_i, Qan, Qav, zipA, beq_self_eq_true, Qi, Qo, Qm, Qa, decide_true, decide_false, and_self, forall_const, implies_true, Qg, Qa6]
 ·simp only [rc36, rs36, hg2, hw2, h20, Qaf, Qa9, Qa8, Qab, Qac, Qa4, Qad, Qa5, Qa2, Fam.step, Qae, Qb0, Qas, ug, evO, opv, qv, Qai, binV, ldV, lenV, V.cells, Qay, Qaa, Qa7, Qa1, Qa0, Qa3, ↓reduceIte, Nat.reduceEqDiff, Nat.reduceAdd, Nat.reduceLeDiff, Qb, Qe, Qq, Qp, Qc, Qd, Qh, Qj, Qf, vw_i, Qan, Qav, zipA, beq_self_eq_true, Qi, Qo, Qm, Qa, decide_false, true_and, and_self, forall_const, implies_true, Qg, Qa6]
  have hck : Qb2 s = if (s.words.any fun w => !Qbk s.guests w) = true then 101 else 0 := by
   unfold Qb2
   rw [if_neg (by simp [hg, hw])]
   have : ¬ 20 < s.words.length := by omega
   simp only [this, false_or]
  refine Qbm s.words.length (fun i => ⟨lkp [(1, .pa (Qa6 s)), (3, .i i)], []⟩) (fun i => ∀ j w, j < i → s.words[j]? = some w → Qbk s.guests w = true) ?_ ?_ ?_ ?_
  ·simp only [Zc, kp, Qa0, Qa3, ↓reduceIte, Nat.reduceEqDiff, Qb, Qe, Qa6]
  ·intro j w hj; omega
  ·intro i hi hc
   obtain ⟨w, hw⟩ : ∃ x, s.words[i]? = some x := ⟨_, Q6 hi⟩
   have hlt : (i : Int) < s.words.length := by omega
   have h3 : inI ((i : Int) + 1) := by unfold inI; omega
   have g1 := h65 s w
   simp only [Qa6, Qap] at g1
   have hs := h w (Ze hw)
   by_cases e : Qbk s.guests w = true
   ·simp only [hw, hlt, h3, g1, hs, e, Zd, Zb, Qaf, Qa9, Qbu, Qa8, Qab, Qac, Qa4, Qb8, Qad, Qah, Qa5, Qa2, Fam.step, Qae, runX, eff, Qb7, fpR, fpQ, fpV, Qc0, hits, evO, opv, qv, binV, ldV, iadV, lenV, Qao, Qaa, Qa7, flat, kp, Qa1, Qa0, Qa3, ↓reduceIte, Nat.reduceEqDiff, Nat.reduceAdd, Nat.reduceLT, Nat.reduceLeDiff, Qb, Qe, Qp, Qc, Qd, Qh, Qj, Qn, Qx, Qf, Q3, Q7, Ql, Q4, Qu, Q8, Qy, Q9, vw_i, Qan, Qav, Q0, Qi, Qo, Qt, Q2, Qm, Qr, Qw, Qa, decide_true, true_and, and_true, and_self, implies_true, Qz, Za, Q5, Qg, Q1, Qk, Qv, Qap, Qa6]
    intro j w' hj hjw
    by_cases hji : j < i
    ·exact hc j w' hji hjw
    ·have : j = i := by omega
     subst this
     rw [hw] at hjw; cases hjw; exact e
   ·have he : Qb2 s = 101 := by
     rw [hck, if_pos]
     rw [Zo]
     exact ⟨w, Ze hw, by simp [e]⟩
    simp only [hw, hlt, g1, hs, e, he, Qaf, Qa9, Qbu, Qa8, Qab, Qac, Qag, Qa4, Qb8, Qad, Qah, Qa5, Qa2, Fam.step, Qae, runX, eff, Qb7, fpR, fpQ, fpV, Qc0, hits, evO, opv, qv, binV, ldV, iadV, lenV, Qao, Qaa, Qa7, flat, kp, Qa1, Qa0, Qa3, ↓reduceIte, Nat.reduceEqDiff, Nat.reduceAdd, Nat.reduceLT, Nat.reduceLeDiff, Qb, Qe, Qp, Qc, Qd, Qh, Qj, Qn, Qx, Qf, Q3, Q7, Ql, Q4, Qu, Q8, Qy, Q9, endQ, rvs, rv1, resV, vw_i, Qan, Qav, Q0, Qi, Qo, Qt, Q2, Qm, Qr, Qw, Qa, decide_true, and_self, implies_true, Qz, Za, Q5, Qg, Q1, Qk, Qv, Qap, Qa6]
  ·intro hc
   have hlt : ¬ ((s.words.length : Int) < s.words.length) := by omega
   have he : Qb2 s = 0 := by
    rw [hck, if_neg]
    rw [Zo]
    rintro ⟨w, hw, e⟩
    obtain ⟨j, hj⟩ := Zk hw
    rw [hc j w (Qam hj) hj] at e
    cases e
   simp only [hlt, he, Qa9, Qa8, Qab, Qaz, Qag, Qa4, Qad, Qah, Qa5, Qa2, Fam.step, Qae, evO, opv, qv, binV, ldV, lenV, Qa1, Qa0, Qa3, ↓reduceIte, Nat.reduceEqDiff, Nat.reduceAdd, Nat.reduceLeDiff, Qb, Qe, Qc, Qd, Qh, Qj, Qf, endQ, rvs, rv1, resV, vw_i, Qi, Qa, decide_false, and_self, Qg, Qa6]
def e36 (a : Stand) : List V := [.ag (Qa6 a)]
def d36 : List V → Stand | [.ag x0] => (Qb1 x0) | _ => (Qb1 [])
theorem Qvf (a : Stand) : d36 (e36 a) = a := by simp [d36, e36, Qbe]
noncomputable def HN2 : Gam := HN1.ext 36 (fnG e36 d36 (fun a => (fun (s : Stand) => Qar s) a) (fun a => (fun (s : Stand) => Qb2 s) a) .i)
theorem Qun : GOk Try.prog HN2 := Qum.ext (f := 36) (fun a w => Try.call36 a w) (Qb4 (e := e36) (d := d36) (ok := (fun a => (fun (s : Stand) => Qar s) a)) (g := (fun a => (fun (s : Stand) => Qb2 s) a)) (eb := .i) fun a h => W36 a h)
theorem h36 (s : Stand) : HN2 36 [.ag (Qa6 s)] = (Qar s, .i (Qb2 s)) :=
 (show HN2 36 _ = fnG e36 d36 (fun a => (fun (s : Stand) => Qar s) a) (fun a => (fun (s : Stand) => Qb2 s) a) .i (e36 (s)) from rfl).trans (Qb3 _ (Qvf _))
def Qkx (s : Stand) : Bool := decide (60 < s.words.length) || s.words.any fun w => decide (60 < w.among.length)
def farB (s : Stand) : Bool := Qkx s || (decide (Qb2 s = 0) && decide (6 < s.guests))
theorem Qhf {s : Stand} (h : Qkx s = false) : Qar s ∧ s.words.length ≤ 60 := by
 unfold Qkx at h
 simp only [Zm, decide_eq_false_iff_not, Zn, decide_eq_true_eq] at h
 exact ⟨fun w hw => by have := h.2 w hw; omega, by omega⟩
theorem W35 (s : Stand) : Qal Try.prog 35 [.ag (Qa6 s)] (.b (farB s)) := by
 refine Qak Qun hmix Try.func35 cb35 cc35 cs35 cn35 ?_
 by_cases h60 : (60 : Int) < s.words.length
 ·have e : farB s = true := by
   unfold farB Qkx
   have : 60 < s.words.length := by omega
   simp [this]
  simp only [rc35, rs35, h60, e, Qa9, Qa8, Qab, Qag, Qa4, Qad, Qa5, Qa2, Fam.step, Qae, evO, opv, qv, binV, ldV, lenV, V.cells, Qay, Qaa, Qa7, Qa1, Qa0, Qa3, ↓reduceIte, Nat.reduceEqDiff, Nat.reduceAdd, Nat.reduceLeDiff, Qb, Qe, Qc, Qd, Qh, Qj, Qf, endQ, rvs, rv1, resV, vw_i, vw_b, Qan, Qav, zipA, Qi, Qm, Qa, decide_true, and_self, Qg, Qa6]
 ·have h60' : ¬ 60 < s.words.length := by omega
  simp only [rc35, rs35, h60, Qaf, Qa9, Qa8, Qab, Qac, Qa4, Qad, Qa5, Qa2, Fam.step, Qae, evO, opv, qv, binV, ldV, lenV, V.cells, Qay, Qaa, Qa7, Qa1, Qa0, Qa3, ↓reduceIte, Nat.reduceEqDiff, Nat.reduceAdd, Nat.reduceLeDiff, Qb, Qe, Qc, Qd, Qh, Qj, Qf, vw_i, Qan, Qav, zipA, Qi, Qm, Qa, decide_false, true_and, and_self, Qg, Qa6]
  refine Qbm s.words.length (fun i => ⟨lkp [(1, .pa (Qa6 s)), (3, .i i)], []⟩) (fun i => ∀ j w, j < i → s.words[j]? = some w → ¬ 60 < w.among.length) ?_ ?_ ?_ ?_
  ·simp only [Zc, kp, Qa0, Qa3, ↓reduceIte, Nat.reduceEqDiff, Qb, Qe, Qa6]
  ·intro j w hj; omega
  ·intro i hi hc
   obtain ⟨w, hw⟩ : ∃ x, s.words[i]? = some x := ⟨_, Q6 hi⟩
   have hlt : (i : Int) < s.words.length := by omega
   have h3 : inI ((i : Int) + 1) := by unfold inI; omega
   by_cases e : (60 : Int) < w.among.length
   ·have he : farB s = true := by
     unfold farB Qkx
     have : (s.words.any fun w => decide (60 < w.among.length)) = true := Zo.2 ⟨w, Ze hw, by simp; omega⟩
     simp [this]
    simp only [hw, hlt, e, he, Qaf, Qa9, Qa8, Qab, Qac, Qag, Qa4, Qad, Qah, Qa5, Qa2, Fam.step, Qae, evO, opv, qv, binV, ldV, iadV, lenV, kp, Qa1, Qa0, Qa3, ↓reduceIte, Nat.reduceEqDiff, Nat.reduceAdd, Nat.reduceLeDiff, Qb, Qe, Qc, Qd, Qh, Qj, Qf, Qu, endQ, rvs, rv1, resV, vw_b, Q0, Qi, Qa, decide_true, and_self, Qz, Qg, Q1, Qk, Qv, Qap, Qa6]
   ·simp only [hw, hlt, h3, e, Zd, Zb, Qaf, Qa9, Qa8, Qab, Qac, Qa4, Qad, Qah, Qa5, Qa2, Fam.step, Qae, evO, opv, qv, binV, ldV, iadV, lenV, kp, Qa1, Qa0, Qa3, ↓reduceIte, Nat.reduceEqDiff, Nat.reduceAdd, Nat.reduceLeDiff, Qb, Qe, Qc, Qd, Qh, Qj, Qf, Qu, Q0, Qi, Qa, decide_true, decide_false, true_and, and_true, and_self, Qz, Qg, Q1, Qk, Qv, Qap, Qa6]
    intro j w' hj hjw
    by_cases hji : j < i
    ·exact hc j w' hji hjw
    ·have : j = i := by omega
     subst this
     rw [hw] at hjw; cases hjw; omega
  ·intro hc
   have hlt : ¬ ((s.words.length : Int) < s.words.length) := by omega
   have hlong : Qkx s = false := by
    unfold Qkx
    simp only [Zm, decide_eq_false_iff_not, Zn, decide_eq_true_eq]
    refine ⟨h60', fun w hw => ?_⟩
    obtain ⟨j, hj⟩ := Zk hw
    exact hc j w (Qam hj) hj
   obtain ⟨hs, _⟩ := Qhf hlong
   have g1 := h36 s
   simp only [Qa6] at g1
   by_cases h0 : Qb2 s = 0
   ·simp only [hlt, g1, hs, h0, farB, hlong, Qa9, Qa8, Qab, Qaz, Qag, Qa4, Qad, Qah, Qa5, Qa2, Fam.step, Qae, Qb0, Qas, ug, evO, opv, qv, Qai, binV, ldV, lenV, Qao, Qaa, Qa7, flat, Qa1, Qa0, Qa3, ↓reduceIte, Nat.reduceEqDiff, Nat.reduceAdd, Nat.reduceLT, Nat.reduceLeDiff, Qb, Qe, Qq, Qp, Qc, Qd, Qh, Qj, Qn, Qx, Qf, Ql, endQ, rvs, rv1, resV, vw_i, vw_b, Qan, Qav, beq_self_eq_true, Qi, Qo, Zp, Qm, Z0, Qa, Qs, decide_true, decide_false, and_self, forall_const, implies_true, Qg, Qa6]
   ·simp only [hlt, g1, hs, h0, farB, hlong, Qa9, Qa8, Qab, Qaz, Qag, Qa4, Qad, Qah, Qa5, Qa2, Fam.step, Qae, Qb0, Qas, ug, evO, opv, qv, Qai, binV, ldV, lenV, Qao, Qaa, Qa7, flat, Qa1, Qa0, Qa3, ↓reduceIte, Nat.reduceEqDiff, Nat.reduceAdd, Nat.reduceLT, Nat.reduceLeDiff, Qb, Qe, Qq, Qp, Qc, Qd, Qh, Qj, Qn, Qx, Qf, Ql, endQ, rvs, rv1, resV, vw_i, vw_b, Qan, Qav, Qi, Qo, Qt, Q2, Qm, Qa, decide_false, and_true, and_self, forall_const, implies_true, beq_true, imp_self, Qg, Qa6]
def e35 (a : Stand) : List V := [.ag (Qa6 a)]
def d35 : List V → Stand | [.ag x0] => (Qb1 x0) | _ => (Qb1 [])
theorem Qve (a : Stand) : d35 (e35 a) = a := by simp [d35, e35, Qbe]
noncomputable def HN3 : Gam := HN2.ext 35 (fnG e35 d35 (fun a => (fun (s : Stand) => True) a) (fun a => (fun (s : Stand) => farB s) a) .b)
theorem Quo : GOk Try.prog HN3 := Qun.ext (f := 35) (fun a w => Try.call35 a w) (Qb4 (e := e35) (d := d35) (ok := (fun a => (fun (s : Stand) => True) a)) (g := (fun a => (fun (s : Stand) => farB s) a)) (eb := .b) fun a h => W35 a)
theorem h35 (s : Stand) : HN3 35 [.ag (Qa6 s)] = (True, .b (farB s)) :=
 (show HN3 35 _ = fnG e35 d35 (fun a => (fun (s : Stand) => True) a) (fun a => (fun (s : Stand) => farB s) a) .b (e35 (s)) from rfl).trans (Qb3 _ (Qve _))
theorem Qsv (s : Stand)  : HN3 36 [.ag (Qa6 s)] = (Qar s, .i (Qb2 s)) := h36 s
def Qhs (s : Stand) : Bool := farB s || (decide (Qb2 s = 0) && decide (4 < s.guests))
theorem Qjd {s : Stand} (h : farB s = false) : Qkx s = false := by unfold farB at h; rw [Zm] at h; exact h.1
theorem W29 (s : Stand) : Qal Try.prog 29 [.ag (Qa6 s)] (.b (Qhs s)) := by
 refine Qak Quo hmix Try.func29 cb29 cc29 cs29 cn29 ?_
 have g1 := h35 s
 have g2 := Qsv s
 simp only [Qa6] at g1 g2
 cases hf : farB s with
 | true => simp only [rc29, rs29, g1, g2, hf, Qhs, Qa9, Qa8, Qag, Qa4, Qad, Qa5, Qa2, Fam.step, Qae, Qb0, Qas, ug, evO, opv, qv, Qai, binV, ldV, Qao, V.cells, Qay, Qaa, Qa7, flat, Qa1, Qa0, Qa3, ↓reduceIte, Nat.reduceEqDiff, Nat.reduceAdd, Nat.reduceLT, Nat.reduceLeDiff, Qb, Qe, Qq, Qp, Qc, Qd, Qj, Qn, Qx, Qf, Ql, endQ, rvs, rv1, resV, vw_i, vw_b, Qan, Qav, zipA, Qi, Qo, Qt, Q2, Qm, Bool.true_or, Qr, Qa, Qs, decide_eq_true_eq, decide_eq_false_iff_not, true_and, and_true, and_self, false_and, forall_const, implies_true, beq_true, beq_false, Qnc, imp_self, Qa6]
 | false =>
  obtain ⟨hs, _⟩ := Qhf (Qjd hf)
  by_cases h0 : Qb2 s = 0 <;> simp only [rc29, rs29, g1, g2, hs, hf, h0, Qhs, Qa9, Qa8, Qag, Qa4, Qad, Qa5, Qa2, Fam.step, Qae, Qb0, Qas, ug, evO, opv, qv, Qai, binV, ldV, Qao, V.cells, Qay, Qaa, Qa7, flat, Qa1, Qa0, Qa3, ↓reduceIte, Nat.reduceEqDiff, Nat.reduceAdd, Nat.reduceLT, Nat.reduceLeDiff, Qb, Qe, Qq, Qp, Qc, Qd, Qj, Qn, Qx, Qf, Ql, endQ, rvs, rv1, resV, vw_i, vw_b, Qan, Qav, zipA, beq_self_eq_true, Qi, Qo, Qt, Zp, Q2, Zi, Qm, Z0, Qa, Qs, decide_true, decide_false, and_true, and_self, forall_const, implies_true, beq_true, imp_self, Qa6]
def e29 (a : Stand) : List V := [.ag (Qa6 a)]
def d29 : List V → Stand | [.ag x0] => (Qb1 x0) | _ => (Qb1 [])
theorem Qvd (a : Stand) : d29 (e29 a) = a := by simp [d29, e29, Qbe]
noncomputable def HN4 : Gam := HN3.ext 29 (fnG e29 d29 (fun a => (fun (s : Stand) => True) a) (fun a => (fun (s : Stand) => Qhs s) a) .b)
theorem Qup : GOk Try.prog HN4 := Quo.ext (f := 29) (fun a w => Try.call29 a w) (Qb4 (e := e29) (d := d29) (ok := (fun a => (fun (s : Stand) => True) a)) (g := (fun a => (fun (s : Stand) => Qhs s) a)) (eb := .b) fun a h => W29 a)
theorem h29 (s : Stand) : HN4 29 [.ag (Qa6 s)] = (True, .b (Qhs s)) :=
 (show HN4 29 _ = fnG e29 d29 (fun a => (fun (s : Stand) => True) a) (fun a => (fun (s : Stand) => Qhs s) a) .b (e29 (s)) from rfl).trans (Qb3 _ (Qvd _))
theorem Qsw (s : Stand)  : HN4 36 [.ag (Qa6 s)] = (Qar s, .i (Qb2 s)) := h36 s
def Ql3 (s : Stand) : Bool := !Qhs s && decide (Qb2 s = 0)
theorem Qpv {s : Stand} (h : Qhs s = false) : farB s = false := by unfold Qhs at h; rw [Zm] at h; exact h.1
theorem W14 (s : Stand) : Qal Try.prog 14 [.ag (Qa6 s)] (.b (Ql3 s)) := by
 refine Qak Qup hmix Try.func14 cb14 cc14 cs14 cn14 ?_
 have g1 := h29 s
 have g2 := Qsw s
 simp only [Qa6] at g1 g2
 cases hf : Qhs s with
 | true => simp only [rc14, rs14, g1, hf, Ql3, Qa9, Qa8, Qag, Qa4, Qad, Qa5, Qa2, Fam.step, Qae, Qb0, Qas, ug, evO, opv, qv, Qos, binV, ldV, Qao, V.cells, Qay, Qaa, Qa7, flat, Qa1, Qa0, Qa3, ↓reduceIte, Nat.reduceEqDiff, Nat.reduceAdd, Nat.reduceLT, Nat.reduceLeDiff, Qb, Qe, Qq, Qp, Qc, Qd, Qn, Qx, Ql, endQ, rvs, rv1, resV, vw_i, vw_b, Qan, Qav, zipA, Qi, Qo, Qt, Q2, Qm, Qr, Qa, true_and, and_true, and_self, false_and, forall_const, false_implies, implies_true, beq_true, imp_self, Qa6]
 | false =>
  obtain ⟨hs, _⟩ := Qhf (Qjd (Qpv hf))
  by_cases h0 : Qb2 s = 0 <;> simp only [rc14, rs14, g1, g2, hs, hf, h0, Ql3, Qa9, Qa8, Qag, Qa4, Qad, Qa5, Qa2, Fam.step, Qae, Qb0, Qas, ug, evO, opv, qv, Qai, binV, ldV, Qao, V.cells, Qay, Qaa, Qa7, flat, Qa1, Qa0, Qa3, ↓reduceIte, Nat.reduceEqDiff, Nat.reduceAdd, Nat.reduceLT, Nat.reduceLeDiff, Qb, Qe, Qq, Qp, Qc, Qd, Qn, Qx, Ql, endQ, rvs, rv1, resV, vw_i, vw_b, Qan, Qav, zipA, beq_self_eq_true, Qi, Qo, Zi, Qm, Qw, Qa, Qs, decide_true, decide_false, and_self, forall_const, implies_true, Qa6]
def e14 (a : Stand) : List V := [.ag (Qa6 a)]
def d14 : List V → Stand | [.ag x0] => (Qb1 x0) | _ => (Qb1 [])
noncomputable def HN5 : Gam := HN4.ext 14 (fnG e14 d14 (fun a => (fun (s : Stand) => True) a) (fun a => (fun (s : Stand) => Ql3 s) a) .b)
theorem Quq : GOk Try.prog HN5 := Qup.ext (f := 14) (fun a w => Try.call14 a w) (Qb4 (e := e14) (d := d14) (ok := (fun a => (fun (s : Stand) => True) a)) (g := (fun a => (fun (s : Stand) => Ql3 s) a)) (eb := .b) fun a h => W14 a)
theorem Qsx (l : List Int) (n : Int)  : HN5 52 [.sl 1 (l.map eI), .i n] = (l.length ≤ 1000000, .b (decide (n ∈ l))) := h52 l n
theorem W43 (w : Word) (t : List Int) (h : OkSo w t.length) : Qal Try.prog 43 [.ag (Qap w), .sl 1 (t.map eI)] (.b (soB w t)) := by
 refine Qak Quq hmix Try.func43 cb43 cc43 cs43 cn43 ?_
 have g1 := fun n => Qsx w.among n
 simp only [rc43, rs43, Qa9, Qa8, Qac, Qa4, Qad, Qa5, Qa2, Fam.step, Qae, evO, opv, qv, binV, ldV, V.cells, Qay, Qaa, Qa7, Qa1, Qa0, Qa3, ↓reduceIte, Nat.reduceEqDiff, Nat.reduceAdd, Nat.reduceLeDiff, Qb, Qe, Qc, Qd, Qj, Qf, vw_i, Qan, Qav, zipA, Qi, Qm, Qa, true_and, and_self, reduceCtorEq, Qap]
 obtain ⟨⟨a1, a2⟩, ⟨b1, b2⟩, hl⟩ := h
 obtain ⟨x, hx⟩ : ∃ x, t[w.guest.toNat]? = some x := ⟨_, Q6 (by omega)⟩
 obtain ⟨y, hy⟩ : ∃ x, t[w.other.toNat]? = some x := ⟨_, Q6 (by omega)⟩
 have ex : atN t w.guest = x := by unfold atN; rw [hx]; rfl
 have ey : atN t w.other = y := by unfold atN; rw [hy]; rfl
 by_cases k1 : w.kind = 1
 ·simp only [k1, a1, a2, hx, g1, hl, soB, ex, Qbu, Qa8, Qab, Qag, Qb8, Qad, Qah, Qae, runX, eff, Qb7, fpR, fpQ, fpV, Qc0, hits, evO, opv, qv, ldV, iadV, Qao, Qaa, Qa7, flat, Qa1, Qa0, ↓reduceIte, Nat.reduceEqDiff, Nat.reduceAdd, Nat.reduceLT, Nat.reduceLeDiff, Qb, Qe, Qp, Qc, Qd, Qh, Qj, Qf, Q3, Q7, Ql, Q4, Qu, Q8, Qy, Q9, endQ, rvs, rv1, resV, vw_i, vw_b, Qan, Qi, Qo, Qt, Q2, Qm, Qr, Qw, Qa, decide_true, and_self, implies_true, Qz, Za, Q5, Qg, Qk, Qv, eI]
 by_cases k2 : w.kind = 2
 ·simp only [k2, a1, a2, hx, g1, hl, soB, ex, Qa9, Qbu, Qa8, Qab, Qag, Qa4, Qb8, Qad, Qah, Qa5, Qa2, Fam.step, Qae, runX, eff, Qb7, fpR, fpQ, fpV, Qc0, hits, evO, opv, qv, binV, ldV, iadV, Qao, Qaa, Qa7, flat, Qa1, Qa0, Qa3, ↓reduceIte, Nat.reduceEqDiff, Nat.reduceAdd, Nat.reduceLT, Nat.reduceLeDiff, Int.reduceEq, Qb, Qe, Qp, Qc, Qd, Qh, Qj, Qf, Q3, Q7, Ql, Q4, Qu, Q8, Qy, Q9, endQ, rvs, rv1, resV, vw_i, vw_b, Qan, Qi, Qo, Qt, Q2, Qm, Qr, Qw, Qa, decide_true, decide_false, and_self, implies_true, Qz, Za, Q5, Qg, Qk, Qv, eI]
 by_cases k3 : w.kind = 3
 ·by_cases e : x = w.other <;> simp only [k3, a1, a2, b1, b2, hx, hy, soB, ex, ey, e, Qa9, Qbu, Qa8, Qab, Qag, Qa4, Qb8, Qad, Qah, Qa5, Qa2, Fam.step, Qae, Qb0, Qas, ug, runX, eff, Qb7, fpR, fpQ, fpV, Qc0, hits, evO, opv, qv, Qai, binV, ldV, iadV, Qa1, Qa0, Qa3, ↓reduceIte, Nat.reduceEqDiff, Nat.reduceAdd, Nat.reduceLeDiff, Int.reduceEq, Qb, Qe, Qq, Qp, Qc, Qd, Qh, Qj, Qf, Q3, Q7, Ql, Q4, Qu, Q8, Qy, Q9, endQ, rvs, rv1, resV, vw_b, beq_self_eq_true, Qi, Qo, Qt, Zp, Q2, Qm, Qr, Qw, Qa, Qs, decide_true, decide_false, and_true, and_self, forall_const, implies_true, Qz, Za, Q5, beq_true, imp_self, Qg, Qk, Qv, eI]
 ·by_cases e : x = w.guest <;> simp only [k1, k2, k3, a1, a2, b1, b2, hx, hy, soB, ex, ey, e, Qaf, Qa9, Qbu, Qa8, Qab, Qag, Qa4, Qb8, Qad, Qah, Qa5, Qa2, Fam.step, Qae, Qb0, Qas, ug, runX, eff, Qb7, fpR, fpQ, fpV, Qc0, hits, evO, opv, qv, Qai, binV, ldV, iadV, Qa1, Qa0, Qa3, ↓reduceIte, Nat.reduceEqDiff, Nat.reduceAdd, Nat.reduceLeDiff, Qb, Qe, Qq, Qp, Qc, Qd, Qh, Qj, Qf, Q3, Q7, Ql, Q4, Qu, Q8, Qy, Q9, endQ, rvs, rv1, resV, vw_b, beq_self_eq_true, Qi, Qo, Qt, Q2, Qm, Z0, Bool.true_or, Qr, Qw, Qa, Qs, decide_true, decide_false, and_true, and_self, forall_const, implies_true, Qz, Za, Q5, beq_false, imp_self, Qg, Qk, Qv, eI]
def e43 (a : Word × List Int) : List V := [.ag (Qap a.1), .sl 1 (a.2.map eI)]
def d43 : List V → Word × List Int | [.ag x0, .sl _ x1] => (Qe9 x0, x1.map dI) | _ => (Qe9 [], [])
theorem Qvl (a : Word × List Int) : d43 (e43 a) = a := by simp [d43, e43, Qdw, Function.comp_def, Qcz]
noncomputable def HN6 : Gam := HN5.ext 43 (fnG e43 d43 (fun a => (fun (w : Word) (t : List Int) => OkSo w t.length) a.1 a.2) (fun a => (fun (w : Word) (t : List Int) => soB w t) a.1 a.2) .b)
theorem Qur : GOk Try.prog HN6 := Quq.ext (f := 43) (fun a w => Try.call43 a w) (Qb4 (e := e43) (d := d43) (ok := (fun a => (fun (w : Word) (t : List Int) => OkSo w t.length) a.1 a.2)) (g := (fun a => (fun (w : Word) (t : List Int) => soB w t) a.1 a.2)) (eb := .b) fun a h => W43 a.1 a.2 h)
theorem h43 (w : Word) (t : List Int) : HN6 43 [.ag (Qap w), .sl 1 (t.map eI)] = (OkSo w t.length, .b (soB w t)) :=
 (show HN6 43 _ = fnG e43 d43 (fun a => (fun (w : Word) (t : List Int) => OkSo w t.length) a.1 a.2) (fun a => (fun (w : Word) (t : List Int) => soB w t) a.1 a.2) .b (e43 (w, t)) from rfl).trans (Qb3 _ (Qvl _))
theorem Qsy (l : List Int) (n : Int)  : HN6 52 [.sl 1 (l.map eI), .i n] = (l.length ≤ 1000000, .b (decide (n ∈ l))) := h52 l n
theorem W18 (t : List Int) (h : t.length ≤ 1000000) : Qal Try.prog 18 [.sl 1 (t.map eI)] (.b (takB t)) := by
 refine Qak Qur hmix Try.func18 cb18 cc18 cs18 cn18 ?_
 simp only [rc18, rs18, Qa9, Qa8, Qac, Qa4, Qad, Qa5, Qa2, Fam.step, Qae, evO, opv, qv, Qa1, Qa0, Qa3, ↓reduceIte, Qb, Qe, zipA, true_and, reduceCtorEq]
 refine Qbm t.length (fun i => ⟨lkp [(0, .sl 1 (t.map eI)), (3, .i i)], []⟩) (fun i => ∀ j : Nat, j < i → (Qbb (t[j]?.getD 0) 0 (t.length - 1) && !decide (t[j]?.getD 0 ∈ t.take j)) = true) ?_ ?_ ?_ ?_
 ·simp only [Zc, kp, Qa0, Qa3, ↓reduceIte, Qb, Qe, reduceCtorEq]
 ·intro j hj; omega
 ·intro i hi hc
  obtain ⟨x, hx⟩ : ∃ x, t[i]? = some x := ⟨_, Q6 hi⟩
  have hlt : (i : Int) < t.length := by omega
  have h3 : inI ((i : Int) + 1) := by unfold inI; omega
  have hle : (i : Int) ≤ t.length := by omega
  have g2 := Qsy (t.take i) x
  have htl : (t.take i).length ≤ 1000000 := by rw [Z5]; omega
  have hmt : List.take i (t.map eI) = (t.take i).map eI := by rw [List.map_take]
  have bad : (Qbb x 0 (t.length - 1) && !decide (x ∈ t.take i)) = false → takB t = false := fun e => by
   unfold takB
   rw [Zx]; right
   rw [Zt]
   exact ⟨i, Zh.2 hi, by rw [hx, Qu, e]; simp⟩
  have good : (Qbb x 0 (t.length - 1) && !decide (x ∈ t.take i)) = true → ∀ j : Nat, j < i + 1 → (Qbb (t[j]?.getD 0) 0 (t.length - 1) && !decide (t[j]?.getD 0 ∈ t.take j)) = true := fun e j hj => by
   by_cases hji : j < i
   ·exact hc j hji
   ·have : j = i := by omega
    subst this
    rw [hx, Qu]; exact e
  by_cases hx0 : x < 0
  ·simp only [hx, hlt, hle, hx0, Qaf, Qa9, Qbu, Qa8, Qab, Qac, Qag, Qa4, Qb8, Qad, Qah, Qa5, Qa2, Fam.step, Qae, Qb0, Qas, ug, runX, eff, Qb7, fpR, fpQ, fpV, Qc0, hits, evO, opv, qv, Qai, Qek, binV, ldV, iadV, lenV, slcV, Qgl, Qao, Qaa, Qa7, kp, Qa1, Qa0, Qa3, ↓reduceIte, Nat.reduceEqDiff, Nat.reduceLT, Nat.reduceLeDiff, Zl, Int.reduceLE, Qb, Qe, Qq, Qp, Qc, Qd, Qj, Qf, Q3, Q7, Ql, Q4, Qu, Q8, Qy, Q9, endQ, rvs, rv1, resV, vw_i, vw_b, Qan, Q0, Qi, V.b.injEq, Qo, Qt, Q2, Qm, Qr, Qw, Qa, Qs, decide_true, true_and, and_true, and_self, false_and, forall_const, false_implies, implies_true, reduceCtorEq, Qz, Zr, Za, Q5, beq_false, imp_self, Qg, Q1, Qk, Qv, eI]
   exact (bad (by unfold Qbb; simp; intro h5; omega)).symm
  ·by_cases hx1 : (t.length : Int) ≤ x
   ·simp only [hx, hlt, hle, hx0, hx1, Qaf, Qa9, Qbu, Qa8, Qab, Qac, Qag, Qa4, Qb8, Qad, Qah, Qa5, Qa2, Fam.step, Qae, Qb0, Qas, ug, runX, eff, Qb7, fpR, fpQ, fpV, Qc0, hits, evO, opv, qv, Qai, Qek, binV, ldV, iadV, lenV, slcV, Qgl, Qao, Qaa, Qa7, kp, Qa1, Qa0, Qa3, ↓reduceIte, Nat.reduceEqDiff, Nat.reduceLT, Nat.reduceLeDiff, Zl, Int.reduceLE, Qb, Qe, Qq, Qp, Qc, Qd, Qj, Qf, Q3, Q7, Ql, Q4, Qu, Q8, Qy, Q9, endQ, rvs, rv1, resV, vw_i, vw_b, Qan, Q0, beq_self_eq_true, Qi, V.b.injEq, Qo, Qt, Q2, Qm, Qr, Qw, Qa, Qs, decide_true, decide_false, true_and, and_true, and_self, false_and, forall_const, false_implies, implies_true, reduceCtorEq, Qz, Zr, Za, Q5, beq_false, imp_self, Qg, Q1, Qk, Qv, eI]
    exact (bad (by unfold Qbb; simp; intro; omega)).symm
   ·have hw : Qbb x 0 (t.length - 1) = true := by unfold Qbb; simp; omega
    by_cases hm : x ∈ t.take i
    ·simp only [hx, hlt, hle, hx0, hx1, g2, htl, hmt, hm, Qaf, Qa9, Qbu, Qa8, Qab, Qac, Qag, Qa4, Qb8, Qad, Qah, Qa5, Qa2, Fam.step, Qae, Qb0, Qas, ug, runX, eff, Qb7, fpR, fpQ, fpV, Qc0, hits, evO, opv, qv, Qai, binV, ldV, iadV, lenV, slcV, Qgl, Qao, Qaa, Qa7, flat, kp, Qa1, Qa0, Qa3, ↓reduceIte, Nat.reduceEqDiff, Nat.reduceLT, Nat.reduceLeDiff, Zl, Int.reduceLE, Qb, Qe, Qq, Qp, Qc, Qd, Qj, Qf, Q3, Q7, Ql, Q4, Qu, Q8, Qy, Q9, endQ, rvs, rv1, resV, vw_i, vw_b, Qan, Q0, beq_self_eq_true, Qi, V.b.injEq, Qo, Qt, Q2, Qm, Qr, Qw, Qa, decide_true, decide_false, true_and, and_self, forall_const, implies_true, reduceCtorEq, Qz, Zr, Za, Q5, Qg, Q1, Qk, Qv, eI]
     exact (bad (by simp [hm])).symm
    ·simp only [hx, hlt, h3, hle, hx0, hx1, g2, htl, hmt, hm, Zd, Zb, Qaf, Qa9, Qbu, Qa8, Qab, Qac, Qa4, Qb8, Qad, Qah, Qa5, Qa2, Fam.step, Qae, Qb0, Qas, ug, runX, eff, Qb7, fpR, fpQ, fpV, Qc0, hits, evO, opv, qv, Qai, binV, ldV, iadV, lenV, slcV, Qgl, Qao, Qaa, Qa7, flat, kp, Qa1, Qa0, Qa3, ↓reduceIte, Nat.reduceEqDiff, Nat.reduceLT, Nat.reduceLeDiff, Zl, Int.reduceLE, Qb, Qe, Qq, Qp, Qc, Qd, Qj, Qf, Q3, Q7, Ql, Q4, Qu, Q8, Qy, Q9, vw_i, Qan, Q0, beq_self_eq_true, Qi, Qo, Qt, Q2, Qm, Qr, Qw, Qa, decide_true, decide_false, true_and, and_true, and_self, forall_const, implies_true, reduceCtorEq, Qz, Zr, Za, Q5, Qg, Q1, Qk, Qv, eI]
     exact good (by simp [hw, hm])
 ·intro hc
  have hlt : ¬ ((t.length : Int) < t.length) := by omega
  have e : takB t = decide (t.length ≤ 7) := by
   unfold takB
   have : ((List.range t.length).all fun i => Qbb (t[i]?.getD 0) 0 (t.length - 1) && !decide (t[i]?.getD 0 ∈ t.take i)) = true := by
    rw [Zv]
    exact fun i hi => hc i (Zh.1 hi)
   rw [this, Qt]
  simp only [hlt, e, Qa9, Qa8, Qab, Qaz, Qag, Qa4, Qad, Qah, Qa5, Qa2, Fam.step, Qae, evO, opv, qv, binV, lenV, Qa1, Qa0, Qa3, ↓reduceIte, Nat.reduceEqDiff, Qb, Qe, endQ, rvs, rv1, resV, vw_b, V.b.injEq, Qa, decide_false, true_and, and_self, reduceCtorEq, Qg]
  rw [decide_eq_decide]; omega
def e18 (a : List Int) : List V := [.sl 1 (a.map eI)]
def d18 : List V → List Int | [.sl _ x0] => (x0.map dI) | _ => ([])
theorem Qv8 (a : List Int) : d18 (e18 a) = a := by simp [d18, e18, Function.comp_def, Qcz]
noncomputable def HN7 : Gam := HN6.ext 18 (fnG e18 d18 (fun a => (fun (t : List Int) => t.length ≤ 1000000) a) (fun a => (fun (t : List Int) => takB t) a) .b)
theorem Qus : GOk Try.prog HN7 := Qur.ext (f := 18) (fun a w => Try.call18 a w) (Qb4 (e := e18) (d := d18) (ok := (fun a => (fun (t : List Int) => t.length ≤ 1000000) a)) (g := (fun a => (fun (t : List Int) => takB t) a)) (eb := .b) fun a h => W18 a h)
theorem h18 (t : List Int) : HN7 18 [.sl 1 (t.map eI)] = (t.length ≤ 1000000, .b (takB t)) :=
 (show HN7 18 _ = fnG e18 d18 (fun a => (fun (t : List Int) => t.length ≤ 1000000) a) (fun a => (fun (t : List Int) => takB t) a) .b (e18 (t)) from rfl).trans (Qb3 _ (Qv8 _))
theorem W28 (l m : List Int) (h : l.length ≤ 1000000) : Qal Try.prog 28 [.sl 1 (l.map eI), .sl 1 (m.map eI)] (.b (decide (l = m))) := by
 refine Qak Qus hmix Try.func28 cb28 cc28 cs28 cn28 ?_
 simp only [rc28, rs28, Qaf, Qa9, Qa8, Qab, Qil, Qac, Qag, Qa4, Qad, Qa5, Qa2, Fam.step, Qae, evO, opv, qv, binV, lenV, Qa1, Qa0, Qa3, ↓reduceIte, Nat.reduceEqDiff, Qb, Qe, endQ, rvs, rv1, resV, vw_b, zipA, Qi, V.b.injEq, decide_eq_false_iff_not, true_and, and_self, reduceCtorEq, Zu, Qg, Classical.not_not]
 refine ⟨fun h1 => ?_, fun h1 => ?_⟩
 ·have : ¬ l = m := fun e => by rw [e] at h1; omega
  simp only [this, decide_false]
 ·have hlm : l.length = m.length := by omega
  refine Qbm l.length (fun i => ⟨lkp [(0, .sl 1 (l.map eI)), (1, .sl 1 (m.map eI)), (5, .i i)], []⟩) (fun i => ∀ j : Nat, j < i → l[j]? = m[j]?) ?_ ?_ ?_ ?_
  ·simp only [Zc, kp, Qa0, Qa3, ↓reduceIte, Nat.reduceEqDiff, Qb, Qe, reduceCtorEq]
  ·intro j hj; omega
  ·intro i hi hc
   obtain ⟨n, hn⟩ : ∃ n, l[i]? = some n := ⟨_, Q6 hi⟩
   obtain ⟨n', hn'⟩ : ∃ n, m[i]? = some n := ⟨_, Q6 (by omega)⟩
   have hlt : (i : Int) < l.length := by omega
   have hlt2 : (i : Int) < m.length := by omega
   have h3 : inI ((i : Int) + 1) := by unfold inI; omega
   by_cases e : n = n'
   ·subst e
    simp only [hn, hn', hlt, hlt2, h3, Zd, Zb, Qaf, Qa9, Qbu, Qa8, Qab, Qac, Qa4, Qb8, Qad, Qah, Qa5, Qa2, Fam.step, Qae, runX, eff, Qb7, fpR, fpQ, fpV, Qc0, hits, evO, opv, qv, binV, ldV, iadV, lenV, kp, Qa1, Qa0, Qa3, ↓reduceIte, Nat.reduceEqDiff, Nat.reduceLeDiff, Qb, Qe, Qp, Qc, Qd, Qf, Q3, Q7, Ql, Q4, Qu, Q8, Qy, Q9, Q0, Qi, Qo, Qt, Q2, Qm, Qr, Qw, Qa, decide_true, true_and, and_true, and_self, reduceCtorEq, Qz, Za, Q5, Qg, Q1, Qk, Qv, eI]
    intro j hj
    by_cases hji : j < i
    ·exact hc j hji
    ·have : j = i := by omega
     subst this
     rw [hn, hn']
   ·have : ¬ l = m := fun e2 => by rw [e2, hn'] at hn; exact e (Z7.inj hn).symm
    simp only [hn, hn', hlt, hlt2, e, this, Qaf, Qa9, Qbu, Qa8, Qab, Qac, Qag, Qa4, Qb8, Qad, Qah, Qa5, Qa2, Fam.step, Qae, runX, eff, Qb7, fpR, fpQ, fpV, Qc0, hits, evO, opv, qv, binV, ldV, iadV, lenV, kp, Qa1, Qa0, Qa3, ↓reduceIte, Nat.reduceEqDiff, Nat.reduceLeDiff, Qb, Qe, Qp, Qc, Qd, Qf, Q3, Q7, Ql, Q4, Qu, Q8, Qy, Q9, endQ, rvs, rv1, resV, vw_b, Q0, Qi, Qo, Qt, Q2, Qm, Qr, Qw, Qa, decide_true, decide_false, and_self, reduceCtorEq, Qz, Za, Q5, Qg, Q1, Qk, Qv, eI]
  ·intro hc
   have hlt : ¬ ((l.length : Int) < l.length) := by omega
   have e : l = m := by
    apply List.ext_getElem?
    intro j
    by_cases hj : j < l.length
    ·exact hc j hj
    ·rw [Zy (by omega), Zy (by omega)]
   subst e
   simp only [hlt, eq_self, Qa9, Qa8, Qab, Qaz, Qag, Qa4, Qad, Qah, Qa5, Qa2, Fam.step, Qae, evO, opv, qv, binV, lenV, Qa1, Qa0, Qa3, ↓reduceIte, Nat.reduceEqDiff, Qb, Qe, endQ, rvs, rv1, resV, vw_b, Qa, decide_true, decide_false, and_self, reduceCtorEq, Qg]
def e28 (a : List Int × List Int) : List V := [.sl 1 (a.1.map eI), .sl 1 (a.2.map eI)]
def d28 : List V → List Int × List Int | [.sl _ x0, .sl _ x1] => (x0.map dI, x1.map dI) | _ => ([], [])
theorem Qvc (a : List Int × List Int) : d28 (e28 a) = a := by simp [d28, e28, Function.comp_def, Qcz]
noncomputable def HN8 : Gam := HN7.ext 28 (fnG e28 d28 (fun a => (fun (l : List Int) (m : List Int) => l.length ≤ 1000000) a.1 a.2) (fun a => (fun (l : List Int) (m : List Int) => decide (l = m)) a.1 a.2) .b)
theorem Qut : GOk Try.prog HN8 := Qus.ext (f := 28) (fun a w => Try.call28 a w) (Qb4 (e := e28) (d := d28) (ok := (fun a => (fun (l : List Int) (m : List Int) => l.length ≤ 1000000) a.1 a.2)) (g := (fun a => (fun (l : List Int) (m : List Int) => decide (l = m)) a.1 a.2)) (eb := .b) fun a h => W28 a.1 a.2 h)
theorem h28 (l : List Int) (m : List Int) : HN8 28 [.sl 1 (l.map eI), .sl 1 (m.map eI)] = (l.length ≤ 1000000, .b (decide (l = m))) :=
 (show HN8 28 _ = fnG e28 d28 (fun a => (fun (l : List Int) (m : List Int) => l.length ≤ 1000000) a.1 a.2) (fun a => (fun (l : List Int) (m : List Int) => decide (l = m)) a.1 a.2) .b (e28 (l, m)) from rfl).trans (Qb3 _ (Qvc _))
def exS0 : Stand := ⟨4, [⟨1, 0, 0, [1, 2]⟩, ⟨2, 3, 0, [3]⟩, ⟨4, 1, 2, []⟩], 0⟩
theorem W49 : Qal Try.prog 49 [] (.ag (Qa6 exS0)) := by
 refine Qak Qut hmix Try.func49 cb49 cc49 cs49 cn49 ?_
 simp only [rc49, rs49, exS0, Z3, Z6, Qa9, Qa8, Qag, Qa4, Qcx, putB, Qad, Qa5, Qa2, Fam.step, Qae, Qct, Qbd, putB, nv, sv, evO, opv, qv, ldV, Qaw, putAt, Qbj, Qba, V.cells, Qay, Qbw, Qaa, Qa7, Qa1, Qck, Qa0, Qa3, ↓reduceIte, Nat.reduceEqDiff, Nat.reduceAdd, Nat.reduceMul, Nat.reduceLeDiff, Qb, Qe, Qq, Qp, Qc, Qd, Qh, Qj, List.drop_nil, Qn, Zs, Qx, Q3, Q7, Ql, Zg, Z2, Qy, Zz, endQ, rvs, rv1, resV, vw_i, vw_z, Qan, Qav, zipA, Qi, Qo, Qm, true_and, and_self, reduceCtorEq, not_false_eq_true, ne_eq, Qap, Qa6, eI]
 rfl
noncomputable def HN9 : Gam := HN8.ext 49 fun vs => (vs = [], .ag (Qa6 exS0))
theorem Quu : GOk Try.prog HN9 := Qut.ext (f := 49) (fun a w => Try.call49 a w) fun vs h => by
 have e : vs = [] := h
 subst e
 exact W49
theorem h49 : HN9 49 [] = (True, .ag (Qa6 exS0)) := by
 refine (show HN9 49 [] = ((([] : List V) = []), V.ag (Qa6 exS0)) from rfl).trans ?_
 simp
theorem Qj9 : Qar exS0 := by
 intro w hw
 simp [exS0] at hw
 rcases hw with rfl | rfl | rfl <;> simp
theorem Qh8 : Qb2 exS0 = 0 := by decide
theorem Qdf : Qaj exS0 = [[1, 3, 2, 0], [2, 1, 3, 0]] := by decide +kernel
theorem Qm4 : Qbl exS0 [] = ([[1, 3, 2, 0], [2, 1, 3, 0]], 0) := by
 unfold Qbl
 rw [if_neg (by rw [Qh8]; simp), if_neg (by simp), Qdf]
 rfl
theorem Qlu {l : List (List Int)} {g n : Int} (h : ∀ t ∈ l, 0 ≤ atN t g ∧ atN t g ≤ n - 1) : Qca l g = (ints 0 (n - 1)).filter fun u => l.any fun t => decide (atN t g = u) := by
 have hd := Qho (colN l g)
 refine Qj2 hd.1 ?_ fun x => ?_
 ·refine List.Pairwise.filter _ ?_
  unfold ints
  rw [List.pairwise_map]
  refine List.Pairwise.imp ?_ List.pairwise_lt_range
  intro a b hab; omega
 ·unfold Qca
  rw [hd.2, Zw, Qhc, Zo]
  unfold colN
  rw [Z4]
  constructor
  ·rintro ⟨t, ht, rfl⟩
   exact ⟨h t ht, t, ht, by simp⟩
  ·rintro ⟨_, t, ht, e⟩
   exact ⟨t, ht, by simpa using e⟩
theorem Qja : ∀ g : Int, 0 ≤ g → g ≤ 3 → Qca (Qaj exS0) g = (ints 0 3).filter fun u => (Qaj exS0).any fun t => decide (atN t g = u) := fun g h1 h2 => by
 refine Qlu (n := 4) fun t ht => ?_
 have hS : OkS exS0 := Qfz Qh8 Qj9
 have := (Qeb (n := 4) (Qd2.1 ht).1 (x := g) (by omega)).2
 omega
theorem Qo4 : Qcp exS0 = ([-1, -1, -1, 0], 0) := by
 unfold Qcp Qbz
 rw [Qm4, if_pos rfl]
 have e : ints 0 (exS0.guests - 1) = [0, 1, 2, 3] := by decide
 rw [e]
 simp only [Qb, Qe]
 rw [Qja 0 (by decide) (by decide), Qja 1 (by decide) (by decide), Qja 2 (by decide) (by decide), Qja 3 (by decide) (by decide), Qdf]
 decide +kernel
theorem Qre : Qfx exS0 = (2, 0) := by
 unfold Qfx
 rw [if_pos Qh8, Qdf]; rfl
theorem Qpu : (Qcf exS0).1 = 1 ∧ (Qcf exS0).2.2 = 0 := by
 have hS : OkS exS0 := Qfz Qh8 Qj9
 have hT := Qd9 hS
 have hne : Qaj exS0 ≠ [] := by rw [Qdf]; simp
 obtain ⟨h1, h2⟩ := Qfg hT hne
 have c1 : canB 1 (Qaj exS0) = true := by rw [Qdf]; decide +kernel
 have c0 : ¬ canB 0 (Qaj exS0) = true := by rw [Qdf]; decide +kernel
 have hle := h2 1 c1
 have hge : Qe6 (Qaj exS0) ≠ 0 := fun e => by rw [e] at h1; exact c0 h1
 have e1 : Qe6 (Qaj exS0) = 1 := by omega
 unfold Qcf
 rw [Qm4, if_pos rfl]
 exact ⟨by show (Qe6 (Qaj exS0) : Int) = 1; rw [e1]; rfl, rfl⟩
theorem Qrd : ((Qed [1, 2, 0, 3]).1.length, (Qed [1, 2, 0, 3]).2) = (2, 0) := by decide +kernel
theorem Qo5 : (Qc7 [1, 2, 0, 3]).2.2 = 0 ∧ 0 < (Qc7 [1, 2, 0, 3]).1.length + (Qc7 [1, 2, 0, 3]).2.1.length ∧ (Qc7 [1, 2, 0, 3]).1.length + (Qc7 [1, 2, 0, 3]).2.1.length ≤ 100 := by decide +kernel
theorem Qsz (s : Stand)  : HN9 16 [.ag (Qa6 s)] = (Qar s, ((fun r => .tp [.i r.1, .i r.2])) (Qfx s)) := h16 s
theorem Qt4 (s : Stand)  : HN9 41 [.ag (Qa6 s)] = (Qar s, ((fun r => .tp [.sl 1 (r.1.map eI), .i r.2])) (Qcp s)) := h41 s
theorem Qt0 (s : Stand)  : HN9 17 [.ag (Qa6 s)] = (Qar s, ((fun r => .tp [.i r.1, .i r.2.2])) (Qcf s)) := h17 s
theorem Qt1 (t : List Int)  : HN9 19 [.sl 1 (t.map eI)] = (t.length ≤ 1000000, ((fun r => .tp [.i r.1.length, .i r.2])) (Qed t)) := h19 t
theorem Qt2 (t : List Int)  : HN9 24 [.sl 1 (t.map eI)] = (t.length ≤ 1000000, r3V (Qc7 t)) := h24 t
theorem Qt3 (l : List Int) (m : List Int)  : HN9 28 [.sl 1 (l.map eI), .sl 1 (m.map eI)] = (l.length ≤ 1000000, .b (decide (l = m))) := h28 l m
set_option maxHeartbeats 1000000 in
theorem W15 : Qal Try.prog 15 [] (.b true) := by
 refine Qak Quu hmix Try.func15 cb15 cc15 cs15 cn15 ?_
 have g1 := Qsz exS0
 have g2 := Qt4 exS0
 have g3 := Qt0 exS0
 have g4 := Qt1 [1, 2, 0, 3]
 have g5 := Qt2 [1, 2, 0, 3]
 have g6 := Qt3 [-1, -1, -1, 0] [-1, -1, -1, 0]
 obtain ⟨e1, e2⟩ := Qpu
 obtain ⟨e3, e4, e5⟩ := Qo5
 have e6 := Qrd
 rw [Prod.mk.injEq] at e6
 rw [Qre] at g1
 rw [Qo4] at g2
 simp only [e1, e2] at g3
 simp only [e6.1, e6.2] at g4
 simp only [r3V, e3] at g5
 have hsh := Qj9
 obtain ⟨X, hX⟩ : ∃ X, X = exS0 := ⟨_, rfl⟩
 have hE := h49
 have eX : Qa6 exS0 = [V.i 4, V.sl 4 (exS0.words.map Qap), V.i 0] := rfl
 rw [eX] at g1 g2 g3 hE
 simp only [eI, Qb, Qe, Qc, Qd] at g2 g4 g5 g6
 have c2 : ∀ a b c d : V, Qc8 1 [a, b, c, d] 0 4 = [[a], [b], [c], [d]] := fun _ _ _ _ => rfl
 simp only [rc15, rs15, hE, g1, g2, g3, g4, g5, g6, hsh, Z3, Z6, c2, Qa9, Qa8, Qag, Qa4, putB, Qad, Qa5, Qa2, Fam.step, Qae, Qct, Qb0, Qbd, Qas, ug, putB, nv, sv, evO, opv, qv, Qai, binV, ldV, lenV, Qao, Qaw, putAt, Qbj, Qba, V.cells, Qay, Qbw, Qaa, Qa7, flat, Qd1, Qa1, Qck, Qa0, Qa3, ↓reduceIte, Nat.reduceEqDiff, Nat.reduceAdd, Nat.reduceMul, Nat.reduceLT, Nat.reduceLeDiff, Int.reduceNeg, Qb, Qe, Qq, Qp, Qc, Qd, Qh, Qj, List.drop_nil, Qn, Zs, Qx, Q3, Q7, Ql, Zg, Zj, Qu, Z2, Qy, Zz, endQ, rvs, rv1, resV, vw_i, vw_b, Qan, Qav, zipA, beq_self_eq_true, Qi, V.b.injEq, Qo, Qt, Zi, Qm, Qa, Qs, decide_true, decide_eq_true_eq, decide_eq_false_iff_not, true_and, and_true, and_self, forall_const, implies_true, reduceCtorEq, not_false_eq_true, ne_eq, beq_true, Qnc, imp_self, Qg]
 have i1 : inI (((Qc7 [1, 2, 0, 3]).1.length : Int) + (Qc7 [1, 2, 0, 3]).2.1.length) := by unfold inI; omega
 have i2 : (0 : Int) < ((Qc7 [1, 2, 0, 3]).1.length : Int) + (Qc7 [1, 2, 0, 3]).2.1.length := by omega
 have i3 : ((2 : Nat) : Int) = 2 := rfl
 simp only [i1, i2, i3, and_self, decide_true, Qo, implies_true]
theorem call15 (hG : GOk Try.prog Γ) : GOk Try.prog (Γ.ext 15 fun vs => (vs = [], .b true)) := hG.ext (f := 15) (fun a w => Try.call15 a w) fun vs h => by
 have e : vs = [] := h
 subst e
 exact W15
noncomputable def HN10 : Gam := HN9.ext 15 fun vs => (vs = [], .b true)
theorem Qqs : GOk Try.prog HN10 := call15 Quu
theorem h15 : HN10 15 [] = (True, .b true) := by
 refine (show HN10 15 [] = ((([] : List V) = []), V.b true) from rfl).trans ?_
 simp
end Go.C10
set_option maxRecDepth 8000
namespace Go.C10
open Go.Fam Go.Proofs
def rc11 : RC := (.seq (.reg false [(cX 2 0), (cQ 4 [] (.mv (kB false)))]) (.keep [1,2] (.seq (.seq (.reg true [(cLd 15 2 true 3), (cQ 16 [15] (.call (kF 35) [(.t 15)])), (cMv 17 16), (gQ 18 17 false [2] (.ld true 3 (.t 2))), (gQ 19 17 false [18] (.call (kF 36) [(.t 18)])), (gQ 20 17 false [19] (.bin .neq (.t 19) (kI 0))), (cQ 21 [17,20] (.pick (.t 17) (kB true) (.t 20))), (cMv 22 21), (gQ 23 22 false [2] (.ld true 3 (.t 2))), (gMv 24 22 false 1), (gQ 25 22 false [23,24] (.call (kF 40) [(.t 23), (.t 24)])), (gQ 26 22 false [25] (.not (.t 25))), (cQ 27 [22,26] (.pick (.t 22) (kB true) (.t 26)))]) (.keep [1,2,27] (.cond (.t 27) (.seq (.reg false [(cQ 28 [] (.call (kF 15) [])), (cMv 4 28)]) .ret) .skip))) (.keep [1,2] (.seq (.reg false [(cLd 30 2 true 3), (cQ 31 [30] (.call (kF 16) [(.t 30)])), (cMv 29 31), (cEx 32 29 0), (cEx 33 29 1), (cMv 5 32), (cMv 6 33)]) (.keep [1,2,5,6] (.seq (.reg false [(cLd 35 2 true 3), (cQ 36 [35] (.call (kF 41) [(.t 35)])), (cMv 34 36), (cEx 37 34 0), (cEx 38 34 1), (cMv 7 37), (cMv 8 38)]) (.keep [1,2,5,6,7,8] (.seq (.reg false [(cLd 40 2 true 3), (cQ 41 [40] (.call (kF 42) [(.t 40)])), (cMv 39 41), (cEx 42 39 0), (cEx 43 39 1), (cMv 9 42), (cMv 10 43)]) (.keep [1,2,5,6,7,8,9,10] (.seq (.seq (.reg true [(cMv 44 6), (cC 45 .neq 44 0), (cMv 46 45), (gMv 47 46 false 8), (gQ 48 46 false [47] (.bin .neq (.t 47) (kI 0))), (cQ 49 [46,48] (.pick (.t 46) (kB true) (.t 48))), (cMv 50 49), (gMv 51 50 false 10), (gQ 52 50 false [51] (.bin .neq (.t 51) (kI 0))), (cQ 53 [50,52] (.pick (.t 50) (kB true) (.t 52))), (cMv 54 53), (gMv 55 54 false 5), (gQ 56 54 false [55] (.bin .lss (.t 55) (kI 1))), (cQ 57 [54,56] (.pick (.t 54) (kB true) (.t 56))), (cMv 58 57), (gMv 59 58 false 7), (gQ 60 58 false [59] (.len (.t 59))), (gQ 61 58 false [2] (.fad 0 (.t 2))), (gQ 62 58 false [61] (.ld false 1 (.t 61))), (gQ 63 58 false [60,62] (.bin .neq (.t 60) (.t 62))), (cQ 64 [58,63] (.pick (.t 58) (kB true) (.t 63))), (cMv 65 64), (gMv 66 65 false 9), (gQ 67 65 false [66] (.len (.t 66))), (gQ 68 65 false [2] (.fad 1 (.t 2))), (gQ 69 65 false [68] (.ld false 1 (.t 68))), (gQ 70 65 false [69] (.len (.t 69))), (gQ 71 65 false [67,70] (.bin .gtr (.t 67) (.t 70))), (cQ 72 [65,71] (.pick (.t 65) (kB true) (.t 71)))]) (.keep [1,2,7,9,72] (.cond (.t 72) (.seq (.reg false [(cQ 4 [] (.mv (kB false)))]) .ret) .skip))) (.keep [1,2,7,9] (.seq (.seq (.reg false [(cI 11 0)]) (.keep [1,2,7,9,11] (.block 0 (.loop [1,2,7,9,11] none (.seq (.seq (.reg false [(cMv 73 11), (cFa 74 2 0), (cLd 75 74 false 1), (cB 76 .lss 73 75)]) (.keep [1,2,7,9,11,76] (.cond (.t 76) .skip (.exit 0)))) (.keep [1,2,7,9,11] (.seq (.block 1 (.seq (.reg false [(cLd 80 2 true 3), (cMv 81 11), (cQ 82 [80,81] (.call (kF 37) [(.t 80), (.t 81)])), (cMv 79 82), (cEx 83 79 0), (cEx 84 79 1), (cMv 12 83), (cMv 13 84)]) (.keep [1,2,7,9,11,12,13] (.seq (.any true 0 [⟨(cMv 85 13), [], []⟩, ⟨(cC 86 .neq 85 0), [], [0]⟩, ⟨(cMv 87 86), [], [1,0]⟩, ⟨(gMv 88 87 false 12), [], [2,1,0]⟩, ⟨(gMv 89 87 false 1), [], [2,1,0]⟩, ⟨(gMv 90 87 false 11), [], [2,1,0]⟩, ⟨(gQ 91 87 false [89,90] (.iad 1 (.t 89) (.t 90))), [], [4,2,1,0,5]⟩, ⟨(gQ 92 87 false [91] (.ld false 1 (.t 91))), [], [6,4,2,1,0,5]⟩, ⟨(gQ 93 87 false [88,92] (.call (kF 38) [(.t 88), (.t 92)])), [], [3,2,1,0,7,6,4,5]⟩, ⟨(gQ 94 87 false [93] (.not (.t 93))), [], [8,3,2,1,0,7,6,4,5]⟩, ⟨(cQ 95 [87,94] (.pick (.t 87) (kB true) (.t 94))), [], [2,1,0,9,8,3,7,6,4,5]⟩, ⟨(cMv 96 95), [], [10,2,1,0,9,8,3,7,6,4,5]⟩, ⟨(gMv 97 96 false 7), [], [11,10,2,1,0,9,8,3,7,6,4,5]⟩, ⟨(gMv 98 96 false 11), [], [11,10,2,1,0,9,8,3,7,6,4,5]⟩, ⟨(gQ 99 96 false [97,98] (.iad 1 (.t 97) (.t 98))), [], [12,11,10,2,1,0,9,8,3,7,6,4,5,13]⟩, ⟨(gQ 100 96 false [99] (.ld false 1 (.t 99))), [], [14,12,11,10,2,1,0,9,8,3,7,6,4,5,13]⟩, ⟨(gQ 101 96 false [100] (.bin .eql (.t 100) (.k (.i (-1))))), [], [15,14,12,11,10,2,1,0,9,8,3,7,6,4,5,13]⟩, ⟨(gMv 102 96 false 12), [], [11,10,2,1,0,9,8,3,7,6,4,5]⟩, ⟨(gQ 103 96 false [102] (.len (.t 102))), [], [17,11,10,2,1,0,9,8,3,7,6,4,5]⟩, ⟨(gQ 104 96 false [103] (.bin .gtr (.t 103) (kI 1))), [], [18,17,11,10,2,1,0,9,8,3,7,6,4,5]⟩, ⟨(gQ 105 96 false [101,104] (.bq true (.t 101) (.t 104))), [], [16,15,14,12,11,10,2,1,0,9,8,3,7,6,4,5,13,19,18,17]⟩, ⟨(cQ 106 [96,105] (.pick (.t 96) (kB true) (.t 105))), [], [11,10,2,1,0,9,8,3,7,6,4,5,20,16,15,14,12,13,19,18,17]⟩, ⟨(cMv 107 106), [], [21,11,10,2,1,0,9,8,3,7,6,4,5,20,16,15,14,12,13,19,18,17]⟩, ⟨(gMv 108 107 false 7), [], [22,21,11,10,2,1,0,9,8,3,7,6,4,5,20,16,15,14,12,13,19,18,17]⟩, ⟨(gMv 109 107 false 11), [], [22,21,11,10,2,1,0,9,8,3,7,6,4,5,20,16,15,14,12,13,19,18,17]⟩, ⟨(gQ 110 107 false [108,109] (.iad 1 (.t 108) (.t 109))), [], [23,22,21,11,10,2,1,0,9,8,3,7,6,4,5,20,16,15,14,12,13,19,18,17,24]⟩, ⟨(gQ 111 107 false [110] (.ld false 1 (.t 110))), [], [25,23,22,21,11,10,2,1,0,9,8,3,7,6,4,5,20,16,15,14,12,13,19,18,17,24]⟩, ⟨(gQ 112 107 false [111] (.bin .neq (.t 111) (.k (.i (-1))))), [], [26,25,23,22,21,11,10,2,1,0,9,8,3,7,6,4,5,20,16,15,14,12,13,19,18,17,24]⟩, ⟨(gMv 113 107 false 112), [], [27,26,25,23,22,21,11,10,2,1,0,9,8,3,7,6,4,5,20,16,15,14,12,13,19,18,17,24]⟩, ⟨(gMv 114 113 true 7), [], [28,27,26,25,23,22,21,11,10,2,1,0,9,8,3,7,6,4,5,20,16,15,14,12,13,19,18,17,24]⟩, ⟨(gMv 115 113 true 11), [], [28,27,26,25,23,22,21,11,10,2,1,0,9,8,3,7,6,4,5,20,16,15,14,12,13,19,18,17,24]⟩, ⟨(gQ 116 113 true [114,115] (.iad 1 (.t 114) (.t 115))), [], [29,28,27,26,25,23,22,21,11,10,2,1,0,9,8,3,7,6,4,5,20,16,15,14,12,13,19,18,17,24,30]⟩, ⟨(gQ 117 113 true [116] (.ld false 1 (.t 116))), [], [31,29,28,27,26,25,23,22,21,11,10,2,1,0,9,8,3,7,6,4,5,20,16,15,14,12,13,19,18,17,24,30]⟩, ⟨(gMv 118 113 true 1), [], [28,27,26,25,23,22,21,11,10,2,1,0,9,8,3,7,6,4,5,20,16,15,14,12,13,19,18,17,24]⟩, ⟨(gMv 119 113 true 11), [], [28,27,26,25,23,22,21,11,10,2,1,0,9,8,3,7,6,4,5,20,16,15,14,12,13,19,18,17,24]⟩, ⟨(gQ 120 113 true [118,119] (.iad 1 (.t 118) (.t 119))), [], [33,28,27,26,25,23,22,21,11,10,2,1,0,9,8,3,7,6,4,5,20,16,15,14,12,13,19,18,17,24,34]⟩, ⟨(gQ 121 113 true [120] (.ld false 1 (.t 120))), [], [35,33,28,27,26,25,23,22,21,11,10,2,1,0,9,8,3,7,6,4,5,20,16,15,14,12,13,19,18,17,24,34]⟩, ⟨(gQ 122 113 true [117,121] (.bin .neq (.t 117) (.t 121))), [], [32,31,29,28,27,26,25,23,22,21,11,10,2,1,0,9,8,3,7,6,4,5,20,16,15,14,12,13,19,18,17,24,30,36,35,33,34]⟩, ⟨(gQ 123 107 false [113,122] (.pick (.t 113) (.t 122) (kB false))), [], [28,27,26,25,23,22,21,11,10,2,1,0,9,8,3,7,6,4,5,20,16,15,14,12,13,19,18,17,24,37,32,31,29,30,36,35,33,34]⟩, ⟨(cQ 124 [107,123] (.pick (.t 107) (kB true) (.t 123))), [], [22,21,11,10,2,1,0,9,8,3,7,6,4,5,20,16,15,14,12,13,19,18,17,38,28,27,26,25,23,24,37,32,31,29,30,36,35,33,34]⟩]) (.keep [1,2,7,9,11,124] (.cond (.t 124) (.seq (.reg false [(cQ 4 [] (.mv (kB false)))]) .ret) .skip)))))) (.keep [1,2,7,9,11] (.reg false [(cMv 77 11), (cC 78 .add 77 1), (cMv 11 78)]))))))))) (.keep [1,2,9] (.seq (.seq (.reg false [(cI 14 0)]) (.keep [1,2,9,14] (.block 2 (.loop [1,2,9,14] none (.seq (.seq (.reg false [(cMv 125 14), (cMv 126 9), (cLn 127 126), (cB 128 .lss 125 127)]) (.keep [1,2,9,14,128] (.cond (.t 128) .skip (.exit 2)))) (.keep [1,2,9,14] (.seq (.block 3 (.seq (.any true 0 [⟨(cMv 131 9), [], []⟩, ⟨(cMv 132 14), [], []⟩, ⟨(cA 133 1 131 132), [], [0,1]⟩, ⟨(cLd 134 133 false 1), [], [2,0,1]⟩, ⟨(cC 135 .lss 134 0), [], [3,2,0,1]⟩, ⟨(cMv 136 135), [], [4,3,2,0,1]⟩, ⟨(gMv 137 136 false 9), [], [5,4,3,2,0,1]⟩, ⟨(gMv 138 136 false 14), [], [5,4,3,2,0,1]⟩, ⟨(gQ 139 136 false [137,138] (.iad 1 (.t 137) (.t 138))), [], [6,5,4,3,2,0,1,7]⟩, ⟨(gQ 140 136 false [139] (.ld false 1 (.t 139))), [], [8,6,5,4,3,2,0,1,7]⟩, ⟨(gQ 141 136 false [2] (.fad 1 (.t 2))), [], [5,4,3,2,0,1]⟩, ⟨(gQ 142 136 false [141] (.ld false 1 (.t 141))), [], [10,5,4,3,2,0,1]⟩, ⟨(gQ 143 136 false [142] (.len (.t 142))), [], [11,10,5,4,3,2,0,1]⟩, ⟨(gQ 144 136 false [140,143] (.bin .geq (.t 140) (.t 143))), [], [9,8,6,5,4,3,2,0,1,7,12,11,10]⟩, ⟨(cQ 145 [136,144] (.pick (.t 136) (kB true) (.t 144))), [], [5,4,3,2,0,1,13,9,8,6,7,12,11,10]⟩, ⟨(cMv 146 145), [], [14,5,4,3,2,0,1,13,9,8,6,7,12,11,10]⟩, ⟨(gQ 147 146 false [2] (.fad 1 (.t 2))), [], [15,14,5,4,3,2,0,1,13,9,8,6,7,12,11,10]⟩, ⟨(gQ 148 146 false [147] (.ld false 1 (.t 147))), [], [16,15,14,5,4,3,2,0,1,13,9,8,6,7,12,11,10]⟩, ⟨(gMv 149 146 false 9), [], [15,14,5,4,3,2,0,1,13,9,8,6,7,12,11,10]⟩, ⟨(gMv 150 146 false 14), [], [15,14,5,4,3,2,0,1,13,9,8,6,7,12,11,10]⟩, ⟨(gQ 151 146 false [149,150] (.iad 1 (.t 149) (.t 150))), [], [18,15,14,5,4,3,2,0,1,13,9,8,6,7,12,11,10,19]⟩, ⟨(gQ 152 146 false [151] (.ld false 1 (.t 151))), [], [20,18,15,14,5,4,3,2,0,1,13,9,8,6,7,12,11,10,19]⟩, ⟨(gQ 153 146 false [148,152] (.iad 4 (.t 148) (.t 152))), [], [17,16,15,14,5,4,3,2,0,1,13,9,8,6,7,12,11,10,21,20,18,19]⟩, ⟨(gQ 154 146 false [153] (.ld true 4 (.t 153))), [], [22,17,16,15,14,5,4,3,2,0,1,13,9,8,6,7,12,11,10,21,20,18,19]⟩, ⟨(gMv 155 146 false 1), [], [15,14,5,4,3,2,0,1,13,9,8,6,7,12,11,10]⟩, ⟨(gQ 156 146 false [154,155] (.call (kF 43) [(.t 154), (.t 155)])), [], [23,22,17,16,15,14,5,4,3,2,0,1,13,9,8,6,7,12,11,10,21,20,18,19,24]⟩, ⟨(cQ 157 [146,156] (.pick (.t 146) (kB true) (.t 156))), [], [15,14,5,4,3,2,0,1,13,9,8,6,7,12,11,10,25,23,22,17,16,21,20,18,19,24]⟩]) (.keep [1,2,9,14,157] (.cond (.t 157) (.seq (.reg false [(cQ 4 [] (.mv (kB false)))]) .ret) .skip)))) (.keep [1,2,9,14] (.reg false [(cMv 129 14), (cC 130 .add 129 1), (cMv 14 130)]))))))))) (.keep [] (.seq (.reg false [(cQ 158 [] (.call (kF 15) [])), (cMv 4 158)]) .ret)))))))))))))))))
def pu11 : List Nat := [2]
def rs11 : List RV := [.t 4]
theorem cc11 : CCx Try.prog Try.f11 pu11 rc11 := by unfold CCx; kernel_rfl
theorem cb11 : CBx Try.f11 := by unfold CBx; kernel_rfl
theorem cs11 : CSx Try.prog Try.f11 rs11 := by unfold CSx; kernel_rfl
theorem cn11 : 2 ≤ Try.f11.ntmps := by decide
end Go.C10
set_option linter.unusedSimpArgs false
set_option linter.unusedVariables false
namespace Go.C10
open Go.Fam Go.Proofs
variable {Γ : Gam}
theorem Qlq {s : Stand} (h : farB s = false) : Qar s := (Qhf (Qjd h)).1
theorem Qoh {s : Stand} (hc : Qb2 s = 0) : Qbl s [] = if Qaj s = [] then ([], 3) else (Qaj s, 0) := by
 unfold Qbl
 rw [if_neg (by simpa using hc)]
 simp
theorem Qr2 (w : Word) (t : List Int)  : HN10 43 [.ag (Qap w), .sl 1 (t.map eI)] = (OkSo w t.length, .b (soB w t)) := h43 w t
end Go.C10
set_option maxRecDepth 8000
namespace Go.C10
open Go.Fam Go.Proofs
end Go.C10
set_option linter.unusedSimpArgs false
set_option linter.unusedVariables false
namespace Go.C10
open Go.Fam Go.Proofs
variable {Γ : Gam}
theorem Qr1 (t : List Int)  : HN10 18 [.sl 1 (t.map eI)] = (t.length ≤ 1000000, .b (takB t)) := h18 t
def Qco (s : Stand) (t : List Int) : Bool := decide ((t.length : Int) = s.guests) && (takB t && Qg8 s t)
theorem W40 (s : Stand) (t : List Int) (h : OkS s) : Qal Try.prog 40 [.ag (Qa6 s), .sl 1 (t.map eI)] (.b (Qco s t)) := by
 refine Qak Qqs hmix Try.func40 cb40 cc40 cs40 cn40 ?_
 have hg := h.guests
 have hw20 := h.words
 by_cases hl : (t.length : Int) = s.guests
 rotate_left
 ·simp only [rc40, rs40, hl, Qco, Qa9, Qa8, Qab, Qag, Qa4, Qad, Qa5, Qa2, Fam.step, Qae, Qb0, Qas, ug, evO, opv, qv, Qek, binV, ldV, lenV, Qao, V.cells, Qay, Qaa, Qa7, Qa1, Qa0, Qa3, ↓reduceIte, Nat.reduceEqDiff, Nat.reduceAdd, Nat.reduceLT, Nat.reduceLeDiff, Qb, Qe, Qq, Qp, Qc, Qd, Qj, Qf, Ql, endQ, rvs, rv1, resV, vw_i, vw_b, Qan, Qav, zipA, Qi, Qo, Qt, Q2, Qm, Qr, Qw, Qa, Qs, decide_false, true_and, and_true, and_self, false_and, forall_const, false_implies, implies_true, reduceCtorEq, beq_false, imp_self, Qg, Qa6]
 have g1 := Qr1 t
 have htl : t.length ≤ 1000000 := by omega
 by_cases ht : takB t = true
 rotate_left
 ·simp only [rc40, rs40, hl, g1, htl, ht, Qco, Qa9, Qa8, Qab, Qag, Qa4, Qad, Qa5, Qa2, Fam.step, Qae, Qb0, Qas, ug, evO, opv, qv, Qai, binV, ldV, lenV, Qao, V.cells, Qay, Qaa, Qa7, flat, Qa1, Qa0, Qa3, ↓reduceIte, Nat.reduceEqDiff, Nat.reduceAdd, Nat.reduceLT, Nat.reduceLeDiff, Qb, Qe, Qq, Qp, Qc, Qd, Qj, Qf, Ql, endQ, rvs, rv1, resV, vw_i, vw_b, Qan, Qav, zipA, beq_self_eq_true, Qi, Qo, Q2, Zi, Qm, Qr, Qw, Qa, decide_true, and_self, forall_const, implies_true, reduceCtorEq, Qg, Qa6]
 simp only [rc40, rs40, hl, g1, htl, ht, Qaf, Qa9, Qa8, Qab, Qac, Qa4, Qad, Qa5, Qa2, Fam.step, Qae, Qb0, Qas, ug, evO, opv, qv, Qai, binV, ldV, lenV, Qao, V.cells, Qay, Qaa, Qa7, flat, Qa1, Qa0, Qa3, ↓reduceIte, Nat.reduceEqDiff, Nat.reduceAdd, Nat.reduceLT, Nat.reduceLeDiff, Qb, Qe, Qq, Qp, Qc, Qd, Qj, Qf, Ql, vw_i, Qan, Qav, zipA, beq_self_eq_true, Qi, Qo, Qm, Qr, Qa, decide_true, true_and, and_self, forall_const, implies_true, reduceCtorEq, Qg, Qa6]
 refine Qc9 s.words.length (fun i => ⟨lkp [(1, .sl 1 (t.map eI)), (2, .pa (Qa6 s)), (5, .i (Qcr (s.words.take i) t)), (6, .i i)], []⟩) ?_ ?_ ?_
 ·simp only [Zc, Zs, Qcr, List.countP_nil, kp, Qa0, Qa3, ↓reduceIte, Nat.reduceEqDiff, Qb, Qe, Zs, Qa6]
 ·intro i hi
  obtain ⟨w, hw⟩ : ∃ x, s.words[i]? = some x := ⟨_, Q6 hi⟩
  have hlt : (i : Int) < s.words.length := by omega
  have hm := Ze hw
  have hok : OkSo w t.length := by
   have := Qlp (h.word w hm) (h.short w hm)
   rwa [show s.guests.toNat = t.length by omega] at this
  have g2 := Qr2 w t
  simp only [Qap] at g2
  have h3 : inI ((i : Int) + 1) := by unfold inI; omega
  have hcp : Qcr (s.words.take i) t ≤ i := by
   unfold Qcr
   refine Nat.le_trans List.countP_le_length ?_
   rw [Z5]; omega
  have h4 : inI ((Qcr (s.words.take i) t : Int) + 1) := by unfold inI; omega
  have hst : Qcr (s.words.take (i + 1)) t = Qcr (s.words.take i) t + if soB w t then 0 else 1 := by
   unfold Qcr
   rw [Qbo hw, List.countP_append]
   cases h : soB w t <;> simp [h]
  by_cases hs : soB w t = true
  ·simp only [hw, hlt, g2, hok, hs, h3, hst, Zd, Zb, Qaf, Qa9, Qa8, Qab, Qac, Qa4, Qad, Qah, Qa5, Qa2, Fam.step, Qae, evO, opv, qv, binV, ldV, iadV, lenV, Qao, Qaa, Qa7, flat, kp, Qa1, Qa0, Qa3, ↓reduceIte, Nat.reduceEqDiff, Nat.reduceAdd, Nat.reduceLT, Nat.reduceLeDiff, Qb, Qe, Qc, Qd, Qh, Qj, Qn, Qx, Qf, Ql, Qu, vw_i, Qan, Qav, Q0, Qi, Nat.add_zero, Qm, Qr, Qa, decide_true, and_self, implies_true, Qz, Qg, Q1, Qk, Qv, Qap, Qa6]
  ·simp only [hw, hlt, g2, hok, hs, h3, h4, hst, Zd, Zb, Qaf, Qa9, Qa8, Qab, Qac, Qa4, Qad, Qah, Qa5, Qa2, Fam.step, Qae, evO, opv, qv, binV, ldV, iadV, lenV, Qao, Qaa, Qa7, flat, kp, Qa1, Qa0, Qa3, ↓reduceIte, Nat.reduceEqDiff, Nat.reduceAdd, Nat.reduceLT, Nat.reduceLeDiff, Qb, Qe, Qc, Qd, Qh, Qj, Qn, Qx, Qf, Ql, Qu, vw_i, Qan, Qav, Q0, Qi, Qm, Qw, Qa, decide_true, and_self, implies_true, Qz, Qg, Q1, Qk, Qv, Qap, Qa6]
 ·have hlt : ¬ ((s.words.length : Int) < s.words.length) := by omega
  simp only [hlt, List.take_length, Qco, hl, ht, Qg8, Qa9, Qa8, Qab, Qaz, Qag, Qa4, Qad, Qah, Qa5, Qa2, Fam.step, Qae, evO, opv, qv, binV, ldV, lenV, Qa1, Qa0, Qa3, ↓reduceIte, Nat.reduceEqDiff, Nat.reduceAdd, Nat.reduceLeDiff, Qb, Qe, Qc, Qd, Qh, Qj, Qf, endQ, rvs, rv1, resV, vw_b, Qi, Zp, Qa, decide_true, decide_false, and_self, Qg, Qa6]
def e40 (a : Stand × List Int) : List V := [.ag (Qa6 a.1), .sl 1 (a.2.map eI)]
def d40 : List V → Stand × List Int | [.ag x0, .sl _ x1] => (Qb1 x0, x1.map dI) | _ => (Qb1 [], [])
theorem Qvi (a : Stand × List Int) : d40 (e40 a) = a := by simp [d40, e40, Qbe, Function.comp_def, Qcz]
noncomputable def HQ1 : Gam := HN10.ext 40 (fnG e40 d40 (fun a => (fun (s : Stand) (t : List Int) => OkS s) a.1 a.2) (fun a => (fun (s : Stand) (t : List Int) => Qco s t) a.1 a.2) .b)
theorem Qwh : GOk Try.prog HQ1 := Qqs.ext (f := 40) (fun a w => Try.call40 a w) (Qb4 (e := e40) (d := d40) (ok := (fun a => (fun (s : Stand) (t : List Int) => OkS s) a.1 a.2)) (g := (fun a => (fun (s : Stand) (t : List Int) => Qco s t) a.1 a.2)) (eb := .b) fun a h => W40 a.1 a.2 h)
theorem h40 (s : Stand) (t : List Int) : HQ1 40 [.ag (Qa6 s), .sl 1 (t.map eI)] = (OkS s, .b (Qco s t)) :=
 (show HQ1 40 _ = fnG e40 d40 (fun a => (fun (s : Stand) (t : List Int) => OkS s) a.1 a.2) (fun a => (fun (s : Stand) (t : List Int) => Qco s t) a.1 a.2) .b (e40 (s, t)) from rfl).trans (Qb3 _ (Qvi _))
theorem Qlk {s : Stand} (h : OkS s) {t : List Int} : Qco s t = true ↔ t ∈ Qaj s := by
 have hg := h.guests
 rw [Qd2]
 unfold Qco
 rw [Zf, Zf, decide_eq_true_eq, Qk3]
 constructor
 ·rintro ⟨h1, ⟨h2, h3⟩, h4⟩
  rw [h1] at h3
  exact ⟨h3, h4⟩
 ·rintro ⟨h1, h2⟩
  have hl := h1.len
  have : (t.length : Int) = s.guests := by omega
  exact ⟨this, ⟨by omega, by rw [this]; exact h1⟩, h2⟩
theorem Qt6 (s : Stand)  : HQ1 35 [.ag (Qa6 s)] = (True, .b (farB s)) := h35 s
theorem Qt7 (s : Stand)  : HQ1 36 [.ag (Qa6 s)] = (Qar s, .i (Qb2 s)) := h36 s
theorem Qt5 (s : Stand)  : HQ1 16 [.ag (Qa6 s)] = (Qar s, ((fun r => .tp [.i r.1, .i r.2])) (Qfx s)) := h16 s
theorem Qta (s : Stand)  : HQ1 41 [.ag (Qa6 s)] = (Qar s, ((fun r => .tp [.sl 1 (r.1.map eI), .i r.2])) (Qcp s)) := h41 s
theorem Qtb (s : Stand)  : HQ1 42 [.ag (Qa6 s)] = (Qar s, ((fun r => .tp [.sl 1 (r.1.map eI), .i r.2])) (Qej s)) := h42 s
theorem Qt8 (s : Stand) (g : Int)  : HQ1 37 [.ag (Qa6 s), .i g] = (Qar s, ((fun r => .tp [.sl 1 (r.1.map eI), .i r.2])) (canR s g)) := h37 s g
theorem Qt9 (l : List Int) (n : Int)  : HQ1 38 [.sl 1 (l.map eI), .i n] = (l.length ≤ 1000000, .b (decide (n ∈ l))) := h38 l n
theorem Qtc (w : Word) (t : List Int)  : HQ1 43 [.ag (Qap w), .sl 1 (t.map eI)] = (OkSo w t.length, .b (soB w t)) := h43 w t
theorem Qq0 {s : Stand} {n : Nat} {x : Int} : x ∈ Qby s n ↔ ∃ i : Nat, i < n ∧ x = i ∧ ∃ w, s.words[i]? = some w ∧ ∀ t ∈ Qaj s, soB w t = false := by
 unfold Qby
 rw [Z4]
 constructor
 ·rintro ⟨i, hi, rfl⟩
  rw [Zw, Zh] at hi
  obtain ⟨h1, h2⟩ := hi
  cases hw : s.words[i]? with
  | none => rw [hw] at h2; cases h2
  | some w =>
   rw [hw] at h2
   simp only [Zu, Zn] at h2
   exact ⟨i, h1, rfl, w, hw, fun t ht => by simpa using h2 t ht⟩
 ·rintro ⟨i, h1, rfl, w, hw, h2⟩
  refine ⟨i, ?_, rfl⟩
  rw [Zw, Zh, hw]
  refine ⟨h1, ?_⟩
  simp only [Zu, Zn]
  intro t ht
  simp [h2 t ht]
theorem Qrk {s : Stand} (hc : Qb2 s = 0) {g : Int} (hg : Qaq s.guests g = true) (ht : Qaj s ≠ []) : canR s g = (Qca (Qaj s) g, 0) := by
 have : (Qbl s [g]).2 = 0 := by
  unfold Qbl
  rw [if_neg (by simpa using hc), if_neg (by simp [hg]), if_neg ht]
 unfold canR
 rw [if_pos this]
theorem Qq1 {l : List (List Int)} {g x : Int} : x ∈ Qca l g ↔ ∃ t ∈ l, atN t g = x := by
 unfold Qca
 rw [(Qho _).2]
 unfold colN
 rw [Z4]
set_option maxHeartbeats 4000000 in
theorem P11 (s : Stand) (t : List Int) : Qal Try.prog 11 [.ag (Qa6 s), .sl 1 (t.map eI)] (.b true) := by
 refine Qak Qwh hmix Try.func11 cb11 cc11 cs11 cn11 ?_
 have g1 := Qt6 s
 have g2 := Qt7 s
 have g3 := h40 s t
 have g4 := Qt5 s
 have g5 := Qta s
 have g6 := Qtb s
 have h15' : HQ1 15 [] = (True, .b true) := h15
 simp only [Qa6] at g1 g2 g3 g4 g5 g6
 cases hf : farB s with
 | true => simp only [rc11, rs11, g1, g2, g3, hf, h15', Qa9, Qa8, Qab, Qag, Qa4, Qad, Qa5, Qa2, Fam.step, Qae, Qb0, Qas, ug, evO, opv, qv, Qai, binV, ldV, Qao, V.cells, Qay, Qaa, Qa7, flat, Qa1, Qa0, Qa3, ↓reduceIte, Nat.reduceEqDiff, Nat.reduceAdd, Nat.reduceLT, Nat.reduceLeDiff, Int.reduceNeg, Qb, Qe, Qq, Qp, Qc, Qd, Qn, Qx, Ql, endQ, rvs, rv1, resV, vw_i, vw_b, Qan, Qav, zipA, Qi, Qo, Qt, Qm, Qr, Qa, Qs, true_and, and_true, and_self, false_and, forall_const, implies_true, reduceCtorEq, beq_false, imp_self, Qa6]
 | false =>
  have hs := Qlq hf
  by_cases hc : Qb2 s = 0
  rotate_left
  ·simp only [rc11, rs11, g1, g2, g3, hf, hs, hc, h15', Qa9, Qa8, Qab, Qag, Qa4, Qad, Qa5, Qa2, Fam.step, Qae, Qb0, Qas, ug, evO, opv, qv, Qai, binV, ldV, Qao, V.cells, Qay, Qaa, Qa7, flat, Qa1, Qa0, Qa3, ↓reduceIte, Nat.reduceEqDiff, Nat.reduceAdd, Nat.reduceLT, Nat.reduceLeDiff, Int.reduceNeg, Qb, Qe, Qq, Qp, Qc, Qd, Qn, Qx, Ql, endQ, rvs, rv1, resV, vw_i, vw_b, Qan, Qav, zipA, beq_self_eq_true, Qi, Qo, Qt, Qm, Qr, Qw, Qa, Qs, decide_false, true_and, and_true, and_self, false_and, forall_const, implies_true, reduceCtorEq, beq_false, imp_self, Qa6]
  have hS := Qfz hc hs
  have hgs := hS.guests
  by_cases hi : Qco s t = true
  rotate_left
  ·simp only [rc11, rs11, g1, g2, g3, hf, hs, hc, hS, hi, h15', Qa9, Qa8, Qab, Qag, Qa4, Qad, Qa5, Qa2, Fam.step, Qae, Qb0, Qas, ug, evO, opv, qv, Qai, binV, ldV, Qao, V.cells, Qay, Qaa, Qa7, flat, Qa1, Qa0, Qa3, ↓reduceIte, Nat.reduceEqDiff, Nat.reduceAdd, Nat.reduceLT, Nat.reduceLeDiff, Int.reduceNeg, Qb, Qe, Qq, Qp, Qc, Qd, Qn, Qx, Ql, endQ, rvs, rv1, resV, vw_i, vw_b, Qan, Qav, zipA, beq_self_eq_true, Qi, Qo, Qm, Qr, Qw, Qa, decide_true, and_self, forall_const, implies_true, reduceCtorEq, Qa6]
  have ht := (Qlk hS).1 hi
  have hne : Qaj s ≠ [] := List.ne_nil_of_mem ht
  have hT := (Qd2.1 ht).1
  have hm : Qfx s = (((Qaj s).length : Int), 0) := by unfold Qfx; rw [if_pos hc]
  have hk0 : (Qbl s []).2 = 0 := by rw [Qoh hc, if_neg hne]
  have hk : Qcp s = (Qbz s, 0) := by unfold Qcp; rw [if_pos hk0]
  have hl : Qej s = (Qby s s.words.length, 0) := by unfold Qej; rw [if_pos hk0]
  simp only [hm] at g4
  simp only [hk] at g5
  simp only [hl] at g6
  have hpos := List.length_pos_iff.2 hne
  have n1 : ¬ ((Qaj s).length : Int) < 1 := by omega
  have hkl : ((Qbz s).length : Int) = s.guests := by unfold Qbz; rw [Qg, Qfu]; omega
  have hll : (Qby s s.words.length).length ≤ s.words.length := by
   unfold Qby
   rw [Qg]
   refine Nat.le_trans (List.length_filter_le _ _) ?_
   rw [List.length_range]; exact Nat.le_refl _
  have hll2 : ¬ (s.words.length : Int) < (Qby s s.words.length).length := by omega
  simp only [rc11, rs11, g1, g2, g3, g4, g5, g6, hf, hs, hc, hS, hi, n1, hkl, hll2, Qaf, Qa9, Qa8, Qab, Qac, Qa4, Qad, Qa5, Qa2, Fam.step, Qae, Qb0, Qas, ug, evO, opv, qv, Qai, binV, ldV, lenV, Qao, V.cells, Qay, Qaa, Qa7, flat, Qd1, Qa1, Qa0, Qa3, ↓reduceIte, Nat.reduceEqDiff, Nat.reduceAdd, Nat.reduceLT, Nat.reduceLeDiff, Int.reduceNeg, Qb, Qe, Qq, Qp, Qc, Qd, Qh, Qj, Qn, Qx, Qf, Ql, Zg, Zj, Qu, vw_i, Qan, Qav, zipA, beq_self_eq_true, Qi, Qo, Qt, Qm, Qr, Qa, decide_true, decide_false, true_and, and_self, forall_const, implies_true, reduceCtorEq, imp_self, Qg, Qa6]
  refine Qc9 s.guests.toNat (fun i => ⟨lkp [(1, .sl 1 (t.map eI)), (2, .pa (Qa6 s)), (7, .sl 1 ((Qbz s).map eI)), (9, .sl 1 ((Qby s s.words.length).map eI)), (11, .i i)], []⟩) ?_ ?_ ?_
  ·simp only [Zc, kp, Qa0, Qa3, ↓reduceIte, Nat.reduceEqDiff, Qb, Qe, Qa6]
  ·intro i hi
   have hlt : (i : Int) < s.guests := by omega
   have hg : Qaq s.guests i = true := by simp only [Qaq, Qbb, Zf, decide_eq_true_eq]; omega
   have g7 := Qt8 s i
   have hcan := Qrk hc hg hne
   simp only [Qa6] at g7
   simp only [hcan] at g7
   obtain ⟨d, hd⟩ : ∃ d, d = Qca (Qaj s) i := ⟨_, rfl⟩
   rw [← hd] at g7
   have e : ((s.guests.toNat : Nat) : Int) = s.guests := by omega
   have hat := Qeb (n := s.guests.toNat) (by rw [e]; exact hT) (x := i) (by omega)
   rw [Q1] at hat
   obtain ⟨hat1, hat2⟩ := hat
   have hmem : atN t i ∈ d := by rw [hd]; exact Qq1.2 ⟨t, ht, rfl⟩
   have hdl : d.length ≤ 1000000 := by
    have h1 := Qj7 (colN (Qaj s) i)
    have h2 := Qd8 hS
    have h3 : (colN (Qaj s) i).length = (Qaj s).length := by unfold colN; rw [Qg]
    rw [hd]; unfold Qca; omega
   have g8 := Qt9 d (atN t i)
   have hki : (Qbz s)[i]? = some (oneN d) := by
    unfold Qbz
    rw [Qv, Qha (by omega), hd]
    simp
   have hkl2 : (i : Int) < (Qbz s).length := by omega
   have htl : (i : Int) < t.length := by have := hT.len; omega
   have h3 : inI ((i : Int) + 1) := by unfold inI; omega
   by_cases h1 : (1 : Int) < d.length
   ·have e2 : oneN d = -1 := by unfold oneN; rw [if_pos h1]
    rw [e2] at hki
    simp only [hlt, g7, hs, hat1, htl, g8, hdl, hmem, hki, hkl2, h1, h3, Zd, Zb, Z1, Qaf, Qa9, Qbu, Qa8, Qab, Qac, Qa4, Qb8, Qad, Qah, Qa5, Qa2, Fam.step, Qae, Qb0, Qas, ug, runX, eff, Qb7, fpR, fpQ, fpV, Qc0, hits, evO, opv, qv, Qai, binV, ldV, iadV, lenV, Qao, Qaa, Qa7, flat, Qd1, kp, Qa1, Qa0, Qa3, ↓reduceIte, Nat.reduceEqDiff, Nat.reduceAdd, Nat.reduceLT, Nat.reduceLeDiff, Int.reduceNeg, Qb, Qe, Qq, Qp, Qc, Qd, Qj, Qn, Qx, Qf, Q3, Q7, Ql, Zg, Zj, Q4, Qu, Q8, Qy, Q9, vw_i, Qan, Qav, Q0, beq_self_eq_true, Qi, Qo, Qt, Q2, Zi, Qm, Qr, Qw, Qa, decide_true, and_true, and_self, forall_const, implies_true, Qz, Za, Q5, beq_true, Z1, imp_self, Qg, Q1, Qk, Qv, Qa6, eI]
   ·have hd1 : d = [atN t i] := by
     cases hdd : d with
     | nil => rw [hdd] at hmem; cases hmem
     | cons a b =>
      rw [hdd] at hmem h1
      have : b = [] := Zq (by simp at h1; omega)
      subst this
      rw [List.mem_singleton] at hmem
      rw [hmem]
    have e2 : oneN d = atN t i := by unfold oneN; rw [if_neg h1, hd1]; rfl
    rw [e2] at hki
    have hne1 : ¬ atN t i = -1 := by omega
    simp only [hlt, g7, hs, hat1, htl, g8, hdl, hmem, hki, hkl2, h1, h3, hne1, Zd, Zb, Qaf, Qa9, Qbu, Qa8, Qab, Qac, Qa4, Qb8, Qad, Qah, Qa5, Qa2, Fam.step, Qae, Qb0, Qas, ug, runX, eff, Qb7, fpR, fpQ, fpV, Qc0, hits, evO, opv, qv, Qai, binV, ldV, iadV, lenV, Qao, Qaa, Qa7, flat, Qd1, kp, Qa1, Qa0, Qa3, ↓reduceIte, Nat.reduceEqDiff, Nat.reduceAdd, Nat.reduceLT, Nat.reduceLeDiff, Int.reduceNeg, Qb, Qe, Qq, Qp, Qc, Qd, Qj, Qn, Qx, Qf, Q3, Q7, Ql, Zg, Zj, Q4, Qu, Q8, Qy, Q9, vw_i, Qan, Qav, Q0, beq_self_eq_true, Qi, Qo, Qt, Q2, Qm, Qr, Qw, Qa, Qs, decide_true, decide_false, and_self, forall_const, implies_true, Qz, Za, Q5, Z1, imp_self, Qg, Q1, Qk, Qv, Qa6, eI]
  ·have hlt : ¬ ((s.guests.toNat : Int) < s.guests) := by omega
   simp only [hlt, Qa9, Qa8, Qab, Qac, Qaz, Qa4, Qad, Qah, Qa5, Qa2, Fam.step, Qae, evO, opv, qv, binV, ldV, Qa1, Qa0, Qa3, ↓reduceIte, Nat.reduceEqDiff, Nat.reduceAdd, Nat.reduceLeDiff, Int.reduceNeg, Qb, Qe, Qc, Qd, Qj, Qf, Qi, Qa, decide_false, true_and, Qa6]
   refine Qc9 (Qby s s.words.length).length (fun i => ⟨lkp [(1, .sl 1 (t.map eI)), (2, .pa (Qa6 s)), (9, .sl 1 ((Qby s s.words.length).map eI)), (14, .i i)], []⟩) ?_ ?_ ?_
   ·simp only [Zc, kp, Qa0, Qa3, ↓reduceIte, Nat.reduceEqDiff, Qb, Qe, Qa6]
   ·intro i hi
    obtain ⟨x, hx⟩ : ∃ x, (Qby s s.words.length)[i]? = some x := ⟨_, Q6 hi⟩
    obtain ⟨j, hj, rfl, w, hw, hbad⟩ := Qq0.1 (Ze hx)
    have hlt2 : (i : Int) < (Qby s s.words.length).length := by omega
    have hj0 : ¬ (j : Int) < 0 ∧ ¬ (s.words.length : Int) ≤ j ∧ (j : Int) < s.words.length ∧ (0 : Int) ≤ j := by omega
    have g9 := Qtc w t
    simp only [Qap] at g9
    have hok := (Qiy hS (Ze hw)).2 t ht
    have hw20 := hS.words
    have h3 : inI ((i : Int) + 1) := by unfold inI; omega
    have hso := hbad t ht
    simp only [hx, hlt2, hj0, hw, g9, hok, hso, h3, Zd, Zb, Qaf, Qa9, Qbu, Qa8, Qab, Qac, Qa4, Qb8, Qad, Qah, Qa5, Qa2, Fam.step, Qae, Qb0, Qas, ug, runX, eff, Qb7, fpR, fpQ, fpV, Qc0, hits, evO, opv, qv, Qai, binV, ldV, iadV, lenV, Qao, Qaa, Qa7, flat, kp, Qa1, Qa0, Qa3, ↓reduceIte, Nat.reduceEqDiff, Nat.reduceAdd, Nat.reduceLT, Nat.reduceLeDiff, Qb, Qe, Qq, Qp, Qc, Qd, Qh, Qj, Qn, Qx, Qf, Q3, Q7, Ql, Q4, Qu, Q8, Qy, Q9, vw_i, Qan, Qav, Q0, beq_self_eq_true, Qi, Qo, Qt, Q2, Qm, Qr, Qw, Qa, decide_true, decide_false, and_self, forall_const, implies_true, Qz, Za, Q5, Qg, Q1, Qk, Qv, Qap, Qa6, eI]
   ·have hlt2 : ¬ (((Qby s s.words.length).length : Int) < (Qby s s.words.length).length) := by omega
    simp only [hlt2, h15', Qa9, Qa8, Qab, Qaz, Qag, Qa4, Qad, Qah, Qa5, Qa2, Fam.step, Qae, evO, opv, qv, binV, lenV, Qao, Qa7, flat, Qa1, Qa0, Qa3, ↓reduceIte, Nat.reduceEqDiff, Nat.reduceLT, Qb, Qe, Ql, endQ, rvs, rv1, resV, vw_b, Qa, decide_false, and_self, implies_true, Qg, Qa6]
end Go.C10
