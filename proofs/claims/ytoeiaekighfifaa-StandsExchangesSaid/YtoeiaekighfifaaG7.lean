import Derived.Test.YtoeiaekighfifaaG3
import Derived.Test.YtoeiaekighfifaaChecked
import Derived.Test.YtoeiaekighfifaaG6
set_option linter.all false
open List renaming map_cons → Qb, length_cons → Qc, length_nil → Qd, map_nil → Qe, length_map → Qf, drop_succ_cons → Qg, headD_cons → Qh, append_nil → Qj, drop_zero → Qk, getD_eq_getElem?_getD → Qp, all_nil → Qq, all_cons → Qr, getElem?_cons_zero → Qu, take_succ_cons → Qw, getElem?_cons_succ → Qx, getElem?_map → Qy, replicate_zero → Qz, getElem?_eq_getElem → Q0, nil_append → Q3, getElem?_nil → Q5, cons_append → Q6, contains_nil → Q7, take_nil → Q9, isEmpty_nil → Zb, any_nil → Zc, mem_of_getElem? → Zj, set_cons_zero → Zk, getElem?_of_mem → Zl, mem_range → Zm, any_eq_true → Zp, flatten_nil → Zq, take_zero → Zt, all_eq_false → Zu, flatten_cons → Zv, all_eq_true → Zz, getElem?_eq_none → Z1, replicate_succ → Z3, any_eq_false → Z4, append_assoc → Z5, take_length → Z7
open Nat renaming zero_add → Qi, mul_one → Zw, le_refl → Zx
open Bool renaming false_eq_true → Qa, or_false → Ql, and_self → Qm, true_eq_false → Qo, and_true → Qs, not_true → Qt, not_false → Qv, false_and → Q8, xor_self → Zd, and_false → Zh, or_eq_false_iff → Zn, and_eq_true → Zo, true_and → Zr, false_or → Zy, and_eq_false_iff → Z0
open Option renaming getD_some → Qn, map_some → Q4, getD_none → Za, map_none → Zs, some → Z2, bind_some → Z6
open Int renaming toNat_natCast → Q1, natCast_nonneg → Q2, natCast_zero → Ze, natCast_one → Zf, natCast_add → Zg, toNat_zero → Zi
set_option maxRecDepth 8000
namespace Go.C10
open Go.Fam Go.Proofs
def rc36 : RC := (.seq (.reg false [(cX 1 0), (cI 2 0)]) (.keep [1] (.seq (.seq (.reg true [(cFa 4 1 0), (cLd 5 4 false 1), (cC 6 .lss 5 0), (cMv 7 6), (gQ 8 7 false [1] (.fad 0 (.t 1))), (gQ 9 7 false [8] (.ld false 1 (.t 8))), (gQ 10 7 false [9] (.bin .gtr (.t 9) (kI 7))), (cQ 11 [7,10] (.pick (.t 7) (kB true) (.t 10))), (cMv 12 11), (gQ 13 12 false [1] (.fad 2 (.t 1))), (gQ 14 12 false [13] (.ld false 1 (.t 13))), (gQ 15 12 false [14] (.bin .lss (.t 14) (kI 0))), (cQ 16 [12,15] (.pick (.t 12) (kB true) (.t 15))), (cMv 17 16), (gQ 18 17 false [1] (.fad 2 (.t 1))), (gQ 19 17 false [18] (.ld false 1 (.t 18))), (gQ 20 17 false [19] (.bin .gtr (.t 19) (kI 7))), (cQ 21 [17,20] (.pick (.t 17) (kB true) (.t 20)))]) (.keep [1,21] (.cond (.t 21) (.seq (.reg false [(cI 2 100)]) .ret) .skip))) (.keep [1] (.seq (.seq (.reg false [(cFa 22 1 1), (cLd 23 22 false 1), (cLn 24 23), (cC 25 .gtr 24 20)]) (.keep [1,25] (.cond (.t 25) (.seq (.reg false [(cI 2 101)]) .ret) .skip))) (.keep [1] (.seq (.seq (.reg false [(cI 3 0)]) (.keep [1,3] (.block 0 (.loop [1,3] none (.seq (.seq (.reg false [(cMv 26 3), (cFa 27 1 1), (cLd 28 27 false 1), (cLn 29 28), (cB 30 .lss 26 29)]) (.keep [1,3,30] (.cond (.t 30) .skip (.exit 0)))) (.keep [1,3] (.seq (.block 1 (.seq (.any false 0 [⟨(cLd 33 1 true 3), [], []⟩, ⟨(cFa 34 1 1), [], []⟩, ⟨(cLd 35 34 false 1), [], [1]⟩, ⟨(cMv 36 3), [], []⟩, ⟨(cA 37 4 35 36), [], [2,1,3]⟩, ⟨(cLd 38 37 true 4), [], [4,2,1,3]⟩, ⟨(cQ 39 [33,38] (.call (kF 65) [(.t 33), (.t 38)])), [], [0,5,4,2,1,3]⟩, ⟨(cN 40 39), [], [6,0,5,4,2,1,3]⟩]) (.keep [1,3,40] (.cond (.t 40) (.seq (.reg false [(cI 2 101)]) .ret) .skip)))) (.keep [1,3] (.reg false [(cMv 31 3), (cC 32 .add 31 1), (cMv 3 32)]))))))))) (.keep [] (.seq (.reg false [(cI 2 0)]) .ret)))))))))
def pu36 : List Nat := [1]
def rs36 : List RV := [.t 2]
theorem cc36 : CCx Try.prog Try.f36 pu36 rc36 := by unfold CCx; kernel_rfl
theorem cb36 : CBx Try.f36 := by unfold CBx; kernel_rfl
theorem cs36 : CSx Try.prog Try.f36 rs36 := by unfold CSx; kernel_rfl
theorem cn36 : 1 ≤ Try.f36.ntmps := by decide
def rc65 : RC := (.seq (.reg false [(cX 2 0), (cX 3 1), (cQ 4 [] (.mv (kB false)))]) (.keep [2,3] (.seq (.seq (.reg true [(cLd 6 2 true 3), (cFa 7 3 1), (cLd 8 7 false 1), (cQ 9 [6,8] (.call (kF 62) [(.t 6), (.t 8)])), (cN 10 9), (cMv 11 10), (gQ 12 11 false [2] (.ld true 3 (.t 2))), (gQ 13 11 false [3] (.fad 2 (.t 3))), (gQ 14 11 false [13] (.ld false 1 (.t 13))), (gQ 15 11 false [12,14] (.call (kF 62) [(.t 12), (.t 14)])), (gQ 16 11 false [15] (.not (.t 15))), (cQ 17 [11,16] (.pick (.t 11) (kB true) (.t 16)))]) (.keep [2,3,17] (.cond (.t 17) (.seq (.reg false [(cQ 4 [] (.mv (kB false)))]) .ret) .skip))) (.keep [2,3] (.seq (.seq (.reg true [(cFa 18 3 0), (cLd 19 18 false 1), (cC 20 .eql 19 3), (cMv 21 20), (gQ 22 21 false [3] (.fad 0 (.t 3))), (gQ 23 21 false [22] (.ld false 1 (.t 22))), (gQ 24 21 false [23] (.bin .eql (.t 23) (kI 4))), (cQ 25 [21,24] (.pick (.t 21) (kB true) (.t 24)))]) (.keep [2,3,25] (.cond (.t 25) (.seq (.reg true [(cFa 26 3 3), (cLd 27 26 false 1), (cLn 28 27), (cC 29 .eql 28 0), (cMv 30 29), (gQ 31 30 true [3] (.fad 1 (.t 3))), (gQ 32 30 true [31] (.ld false 1 (.t 31))), (gQ 33 30 true [3] (.fad 2 (.t 3))), (gQ 34 30 true [33] (.ld false 1 (.t 33))), (gQ 35 30 true [32,34] (.bin .neq (.t 32) (.t 34))), (cQ 36 [30,35] (.pick (.t 30) (.t 35) (kB false))), (cMv 4 36)]) .ret) .skip))) (.keep [2,3] (.seq (.seq (.reg true [(cFa 37 3 0), (cLd 38 37 false 1), (cC 39 .neq 38 1), (cMv 40 39), (gQ 41 40 true [3] (.fad 0 (.t 3))), (gQ 42 40 true [41] (.ld false 1 (.t 41))), (gQ 43 40 true [42] (.bin .neq (.t 42) (kI 2))), (cQ 44 [40,43] (.pick (.t 40) (.t 43) (kB false))), (cMv 45 44), (gQ 46 45 false [3] (.fad 3 (.t 3))), (gQ 47 45 false [46] (.ld false 1 (.t 46))), (gQ 48 45 false [47] (.len (.t 47))), (gQ 49 45 false [48] (.bin .eql (.t 48) (kI 0))), (cQ 50 [45,49] (.pick (.t 45) (kB true) (.t 49))), (cMv 51 50), (gQ 52 51 false [3] (.fad 2 (.t 3))), (gQ 53 51 false [52] (.ld false 1 (.t 52))), (gQ 54 51 false [53] (.bin .neq (.t 53) (kI 0))), (cQ 55 [51,54] (.pick (.t 51) (kB true) (.t 54)))]) (.keep [2,3,55] (.cond (.t 55) (.seq (.reg false [(cQ 4 [] (.mv (kB false)))]) .ret) .skip))) (.keep [2,3] (.seq (.seq (.reg false [(cI 5 0)]) (.keep [2,3,5] (.block 0 (.loop [2,3,5] none (.seq (.seq (.reg false [(cMv 56 5), (cFa 57 3 3), (cLd 58 57 false 1), (cLn 59 58), (cB 60 .lss 56 59)]) (.keep [2,3,5,60] (.cond (.t 60) .skip (.exit 0)))) (.keep [2,3,5] (.seq (.block 1 (.seq (.any true 0 [⟨(cLd 63 2 true 3), [], []⟩, ⟨(cFa 64 3 3), [], []⟩, ⟨(cLd 65 64 false 1), [], [1]⟩, ⟨(cMv 66 5), [], []⟩, ⟨(cA 67 1 65 66), [], [2,1,3]⟩, ⟨(cLd 68 67 false 1), [], [4,2,1,3]⟩, ⟨(cQ 69 [63,68] (.call (kF 62) [(.t 63), (.t 68)])), [], [0,5,4,2,1,3]⟩, ⟨(cN 70 69), [], [6,0,5,4,2,1,3]⟩, ⟨(cMv 71 70), [], [7,6,0,5,4,2,1,3]⟩, ⟨(gMv 72 71 false 5), [], [8,7,6,0,5,4,2,1,3]⟩, ⟨(gQ 73 71 false [72] (.bin .gtr (.t 72) (kI 0))), [], [9,8,7,6,0,5,4,2,1,3]⟩, ⟨(gMv 74 71 false 73), [], [10,9,8,7,6,0,5,4,2,1,3]⟩, ⟨(gQ 75 74 true [3] (.fad 3 (.t 3))), [], [11,10,9,8,7,6,0,5,4,2,1,3]⟩, ⟨(gQ 76 74 true [75] (.ld false 1 (.t 75))), [], [12,11,10,9,8,7,6,0,5,4,2,1,3]⟩, ⟨(gMv 77 74 true 5), [], [11,10,9,8,7,6,0,5,4,2,1,3]⟩, ⟨(gQ 78 74 true [76,77] (.iad 1 (.t 76) (.t 77))), [], [13,12,11,10,9,8,7,6,0,5,4,2,1,3,14]⟩, ⟨(gQ 79 74 true [78] (.ld false 1 (.t 78))), [], [15,13,12,11,10,9,8,7,6,0,5,4,2,1,3,14]⟩, ⟨(gQ 80 74 true [3] (.fad 3 (.t 3))), [], [11,10,9,8,7,6,0,5,4,2,1,3]⟩, ⟨(gQ 81 74 true [80] (.ld false 1 (.t 80))), [], [17,11,10,9,8,7,6,0,5,4,2,1,3]⟩, ⟨(gMv 82 74 true 5), [], [11,10,9,8,7,6,0,5,4,2,1,3]⟩, ⟨(gQ 83 74 true [82] (.bin .sub (.t 82) (kI 1))), [], [19,11,10,9,8,7,6,0,5,4,2,1,3]⟩, ⟨(gQ 84 74 true [81,83] (.iad 1 (.t 81) (.t 83))), [], [18,17,11,10,9,8,7,6,0,5,4,2,1,3,20,19]⟩, ⟨(gQ 85 74 true [84] (.ld false 1 (.t 84))), [], [21,18,17,11,10,9,8,7,6,0,5,4,2,1,3,20,19]⟩, ⟨(gQ 86 74 true [79,85] (.bin .leq (.t 79) (.t 85))), [], [16,15,13,12,11,10,9,8,7,6,0,5,4,2,1,3,14,22,21,18,17,20,19]⟩, ⟨(gQ 87 71 false [74,86] (.pick (.t 74) (.t 86) (kB false))), [], [11,10,9,8,7,6,0,5,4,2,1,3,23,16,15,13,12,14,22,21,18,17,20,19]⟩, ⟨(cQ 88 [71,87] (.pick (.t 71) (kB true) (.t 87))), [], [8,7,6,0,5,4,2,1,3,24,11,10,9,23,16,15,13,12,14,22,21,18,17,20,19]⟩]) (.keep [2,3,5,88] (.cond (.t 88) (.seq (.reg false [(cQ 4 [] (.mv (kB false)))]) .ret) .skip)))) (.keep [2,3,5] (.reg false [(cMv 61 5), (cC 62 .add 61 1), (cMv 5 62)]))))))))) (.keep [] (.seq (.reg false [(cQ 4 [] (.mv (kB true)))]) .ret)))))))))))
def pu65 : List Nat := [2,3]
def rs65 : List RV := [.t 4]
theorem cc65 : CCx Try.prog Try.f65 pu65 rc65 := by unfold CCx; kernel_rfl
theorem cb65 : CBx Try.f65 := by unfold CBx; kernel_rfl
theorem cs65 : CSx Try.prog Try.f65 rs65 := by unfold CSx; kernel_rfl
theorem cn65 : 2 ≤ Try.f65.ntmps := by decide
def rc62 : RC := (.seq (.reg false [(cX 2 0), (cQ 4 [] (.mv (kB false)))]) (.keep [1,2] (.seq (.reg true [(cMv 5 1), (cC 6 .geq 5 0), (cMv 7 6), (gMv 8 7 true 1), (gQ 9 7 true [2] (.fad 0 (.t 2))), (gQ 10 7 true [9] (.ld false 1 (.t 9))), (gQ 11 7 true [8,10] (.bin .lss (.t 8) (.t 10))), (cQ 12 [7,11] (.pick (.t 7) (.t 11) (kB false))), (cMv 4 12)]) .ret)))
def pu62 : List Nat := [2]
def rs62 : List RV := [.t 4]
theorem cc62 : CCx Try.prog Try.f62 pu62 rc62 := by unfold CCx; kernel_rfl
theorem cb62 : CBx Try.f62 := by unfold CBx; kernel_rfl
theorem cs62 : CSx Try.prog Try.f62 rs62 := by unfold CSx; kernel_rfl
theorem cn62 : 2 ≤ Try.f62.ntmps := by decide
def rc52 : RC := (.seq (.reg false [(cQ 4 [] (.mv (kB false)))]) (.keep [0,1] (.seq (.seq (.reg false [(cI 5 0)]) (.keep [0,1,5] (.block 0 (.loop [0,1,5] none (.seq (.seq (.reg false [(cMv 6 5), (cMv 7 0), (cLn 8 7), (cB 9 .lss 6 8)]) (.keep [0,1,5,9] (.cond (.t 9) .skip (.exit 0)))) (.keep [0,1,5] (.seq (.block 1 (.seq (.reg false [(cMv 12 0), (cMv 13 5), (cA 14 1 12 13), (cLd 15 14 false 1), (cMv 16 1), (cB 17 .eql 15 16)]) (.keep [0,1,5,17] (.cond (.t 17) (.seq (.reg false [(cQ 4 [] (.mv (kB true)))]) .ret) .skip)))) (.keep [0,1,5] (.reg false [(cMv 10 5), (cC 11 .add 10 1), (cMv 5 11)]))))))))) (.keep [] (.seq (.reg false [(cQ 4 [] (.mv (kB false)))]) .ret)))))
def pu52 : List Nat := []
def rs52 : List RV := [.t 4]
theorem cc52 : CCx Try.prog Try.f52 pu52 rc52 := by unfold CCx; kernel_rfl
theorem cb52 : CBx Try.f52 := by unfold CBx; kernel_rfl
theorem cs52 : CSx Try.prog Try.f52 rs52 := by unfold CSx; kernel_rfl
theorem cn52 : 2 ≤ Try.f52.ntmps := by decide
def rc38 : RC := (.seq (.reg false [(cQ 4 [] (.mv (kB false)))]) (.keep [0,1] (.seq (.seq (.reg false [(cI 5 0)]) (.keep [0,1,5] (.block 0 (.loop [0,1,5] none (.seq (.seq (.reg false [(cMv 6 5), (cMv 7 0), (cLn 8 7), (cB 9 .lss 6 8)]) (.keep [0,1,5,9] (.cond (.t 9) .skip (.exit 0)))) (.keep [0,1,5] (.seq (.block 1 (.seq (.reg false [(cMv 12 0), (cMv 13 5), (cA 14 1 12 13), (cLd 15 14 false 1), (cMv 16 1), (cB 17 .eql 15 16)]) (.keep [0,1,5,17] (.cond (.t 17) (.seq (.reg false [(cQ 4 [] (.mv (kB true)))]) .ret) .skip)))) (.keep [0,1,5] (.reg false [(cMv 10 5), (cC 11 .add 10 1), (cMv 5 11)]))))))))) (.keep [] (.seq (.reg false [(cQ 4 [] (.mv (kB false)))]) .ret)))))
def pu38 : List Nat := []
def rs38 : List RV := [.t 4]
theorem cc38 : CCx Try.prog Try.f38 pu38 rc38 := by unfold CCx; kernel_rfl
theorem cb38 : CBx Try.f38 := by unfold CBx; kernel_rfl
theorem cs38 : CSx Try.prog Try.f38 rs38 := by unfold CSx; kernel_rfl
theorem cn38 : 2 ≤ Try.f38.ntmps := by decide
def rc43 : RC := (.seq (.reg false [(cX 2 0), (cQ 4 [] (.mv (kB false)))]) (.keep [1,2] (.seq (.seq (.reg false [(cFa 5 2 0), (cLd 6 5 false 1)]) (.keep [1,2,6] (.block 0 (.seq (.reg false [(cC 8 .eql 6 1), (cMv 7 8)]) (.keep [1,2,6,7] (.cond (.t 7) (.seq (.any false 0 [⟨(cFa 9 2 3), [], []⟩, ⟨(cLd 10 9 false 1), [], [0]⟩, ⟨(cMv 11 1), [], []⟩, ⟨(cFa 12 2 1), [], []⟩, ⟨(cLd 13 12 false 1), [], [3]⟩, ⟨(cA 14 1 11 13), [], [2,4,3]⟩, ⟨(cLd 15 14 false 1), [], [5,2,4,3]⟩, ⟨(cQ 16 [10,15] (.call (kF 52) [(.t 10), (.t 15)])), [], [1,0,6,5,2,4,3]⟩, ⟨(cMv 4 16), [], [7,1,0,6,5,2,4,3]⟩]) .ret) (.seq (.reg false [(cC 18 .eql 6 2), (cMv 17 18)]) (.keep [1,2,6,17] (.cond (.t 17) (.seq (.any false 0 [⟨(cFa 19 2 3), [], []⟩, ⟨(cLd 20 19 false 1), [], [0]⟩, ⟨(cMv 21 1), [], []⟩, ⟨(cFa 22 2 1), [], []⟩, ⟨(cLd 23 22 false 1), [], [3]⟩, ⟨(cA 24 1 21 23), [], [2,4,3]⟩, ⟨(cLd 25 24 false 1), [], [5,2,4,3]⟩, ⟨(cQ 26 [20,25] (.call (kF 52) [(.t 20), (.t 25)])), [], [1,0,6,5,2,4,3]⟩, ⟨(cN 27 26), [], [7,1,0,6,5,2,4,3]⟩, ⟨(cMv 4 27), [], [8,7,1,0,6,5,2,4,3]⟩]) .ret) (.seq (.reg false [(cC 29 .eql 6 3), (cMv 28 29)]) (.keep [1,2,28] (.cond (.t 28) (.seq (.any true 0 [⟨(cMv 30 1), [], []⟩, ⟨(cFa 31 2 1), [], []⟩, ⟨(cLd 32 31 false 1), [], [1]⟩, ⟨(cA 33 1 30 32), [], [0,2,1]⟩, ⟨(cLd 34 33 false 1), [], [3,0,2,1]⟩, ⟨(cFa 35 2 2), [], []⟩, ⟨(cLd 36 35 false 1), [], [5]⟩, ⟨(cB 37 .eql 34 36), [], [4,3,0,2,1,6,5]⟩, ⟨(cMv 38 37), [], [7,4,3,0,2,1,6,5]⟩, ⟨(gMv 39 38 true 1), [], [8,7,4,3,0,2,1,6,5]⟩, ⟨(gQ 40 38 true [2] (.fad 2 (.t 2))), [], [8,7,4,3,0,2,1,6,5]⟩, ⟨(gQ 41 38 true [40] (.ld false 1 (.t 40))), [], [10,8,7,4,3,0,2,1,6,5]⟩, ⟨(gQ 42 38 true [39,41] (.iad 1 (.t 39) (.t 41))), [], [9,8,7,4,3,0,2,1,6,5,11,10]⟩, ⟨(gQ 43 38 true [42] (.ld false 1 (.t 42))), [], [12,9,8,7,4,3,0,2,1,6,5,11,10]⟩, ⟨(gQ 44 38 true [2] (.fad 1 (.t 2))), [], [8,7,4,3,0,2,1,6,5]⟩, ⟨(gQ 45 38 true [44] (.ld false 1 (.t 44))), [], [14,8,7,4,3,0,2,1,6,5]⟩, ⟨(gQ 46 38 true [43,45] (.bin .eql (.t 43) (.t 45))), [], [13,12,9,8,7,4,3,0,2,1,6,5,11,10,15,14]⟩, ⟨(cQ 47 [38,46] (.pick (.t 38) (.t 46) (kB false))), [], [8,7,4,3,0,2,1,6,5,16,13,12,9,11,10,15,14]⟩, ⟨(cMv 4 47), [], [17,8,7,4,3,0,2,1,6,5,16,13,12,9,11,10,15,14]⟩]) .ret) .skip)))))))))))) (.keep [1,2] (.seq (.any true 0 [⟨(cMv 48 1), [], []⟩, ⟨(cFa 49 2 1), [], []⟩, ⟨(cLd 50 49 false 1), [], [1]⟩, ⟨(cA 51 1 48 50), [], [0,2,1]⟩, ⟨(cLd 52 51 false 1), [], [3,0,2,1]⟩, ⟨(cFa 53 2 1), [], []⟩, ⟨(cLd 54 53 false 1), [], [5]⟩, ⟨(cB 55 .eql 52 54), [], [4,3,0,2,1,6,5]⟩, ⟨(cMv 56 55), [], [7,4,3,0,2,1,6,5]⟩, ⟨(gMv 57 56 false 1), [], [8,7,4,3,0,2,1,6,5]⟩, ⟨(gQ 58 56 false [2] (.fad 2 (.t 2))), [], [8,7,4,3,0,2,1,6,5]⟩, ⟨(gQ 59 56 false [58] (.ld false 1 (.t 58))), [], [10,8,7,4,3,0,2,1,6,5]⟩, ⟨(gQ 60 56 false [57,59] (.iad 1 (.t 57) (.t 59))), [], [9,8,7,4,3,0,2,1,6,5,11,10]⟩, ⟨(gQ 61 56 false [60] (.ld false 1 (.t 60))), [], [12,9,8,7,4,3,0,2,1,6,5,11,10]⟩, ⟨(gQ 62 56 false [2] (.fad 2 (.t 2))), [], [8,7,4,3,0,2,1,6,5]⟩, ⟨(gQ 63 56 false [62] (.ld false 1 (.t 62))), [], [14,8,7,4,3,0,2,1,6,5]⟩, ⟨(gQ 64 56 false [61,63] (.bin .eql (.t 61) (.t 63))), [], [13,12,9,8,7,4,3,0,2,1,6,5,11,10,15,14]⟩, ⟨(cQ 65 [56,64] (.pick (.t 56) (kB true) (.t 64))), [], [8,7,4,3,0,2,1,6,5,16,13,12,9,11,10,15,14]⟩, ⟨(cMv 4 65), [], [17,8,7,4,3,0,2,1,6,5,16,13,12,9,11,10,15,14]⟩]) .ret)))))
def pu43 : List Nat := [2]
def rs43 : List RV := [.t 4]
theorem cc43 : CCx Try.prog Try.f43 pu43 rc43 := by unfold CCx; kernel_rfl
theorem cb43 : CBx Try.f43 := by unfold CBx; kernel_rfl
theorem cs43 : CSx Try.prog Try.f43 rs43 := by unfold CSx; kernel_rfl
theorem cn43 : 2 ≤ Try.f43.ntmps := by decide
def rc18 : RC := (.seq (.reg false [(cQ 2 [] (.mv (kB false)))]) (.keep [0] (.seq (.seq (.reg false [(cI 3 0)]) (.keep [0,3] (.block 0 (.loop [0,3] none (.seq (.seq (.reg false [(cMv 4 3), (cMv 5 0), (cLn 6 5), (cB 7 .lss 4 6)]) (.keep [0,3,7] (.cond (.t 7) .skip (.exit 0)))) (.keep [0,3] (.seq (.block 1 (.seq (.any true 0 [⟨(cMv 10 0), [], []⟩, ⟨(cMv 11 3), [], []⟩, ⟨(cA 12 1 10 11), [], [0,1]⟩, ⟨(cLd 13 12 false 1), [], [2,0,1]⟩, ⟨(cC 14 .lss 13 0), [], [3,2,0,1]⟩, ⟨(cMv 15 14), [], [4,3,2,0,1]⟩, ⟨(gMv 16 15 false 0), [], [5,4,3,2,0,1]⟩, ⟨(gMv 17 15 false 3), [], [5,4,3,2,0,1]⟩, ⟨(gQ 18 15 false [16,17] (.iad 1 (.t 16) (.t 17))), [], [6,5,4,3,2,0,1,7]⟩, ⟨(gQ 19 15 false [18] (.ld false 1 (.t 18))), [], [8,6,5,4,3,2,0,1,7]⟩, ⟨(gMv 20 15 false 0), [], [5,4,3,2,0,1]⟩, ⟨(gQ 21 15 false [20] (.len (.t 20))), [], [10,5,4,3,2,0,1]⟩, ⟨(gQ 22 15 false [19,21] (.bin .geq (.t 19) (.t 21))), [], [9,8,6,5,4,3,2,0,1,7,11,10]⟩, ⟨(cQ 23 [15,22] (.pick (.t 15) (kB true) (.t 22))), [], [5,4,3,2,0,1,12,9,8,6,7,11,10]⟩, ⟨(cMv 24 23), [], [13,5,4,3,2,0,1,12,9,8,6,7,11,10]⟩, ⟨(gMv 25 24 false 0), [], [14,13,5,4,3,2,0,1,12,9,8,6,7,11,10]⟩, ⟨(gMv 26 24 false 3), [], [14,13,5,4,3,2,0,1,12,9,8,6,7,11,10]⟩, ⟨(gQ 27 24 false [25,26] (.slc 1 (.t 25) none (some (.t 26)))), [], [15,14,13,5,4,3,2,0,1,12,9,8,6,7,11,10,16]⟩, ⟨(gMv 28 24 false 0), [], [14,13,5,4,3,2,0,1,12,9,8,6,7,11,10]⟩, ⟨(gMv 29 24 false 3), [], [14,13,5,4,3,2,0,1,12,9,8,6,7,11,10]⟩, ⟨(gQ 30 24 false [28,29] (.iad 1 (.t 28) (.t 29))), [], [18,14,13,5,4,3,2,0,1,12,9,8,6,7,11,10,19]⟩, ⟨(gQ 31 24 false [30] (.ld false 1 (.t 30))), [], [20,18,14,13,5,4,3,2,0,1,12,9,8,6,7,11,10,19]⟩, ⟨(gQ 32 24 false [27,31] (.call (kF 52) [(.t 27), (.t 31)])), [], [17,15,14,13,5,4,3,2,0,1,12,9,8,6,7,11,10,16,21,20,18,19]⟩, ⟨(cQ 33 [24,32] (.pick (.t 24) (kB true) (.t 32))), [], [14,13,5,4,3,2,0,1,12,9,8,6,7,11,10,22,17,15,16,21,20,18,19]⟩]) (.keep [0,3,33] (.cond (.t 33) (.seq (.reg false [(cQ 2 [] (.mv (kB false)))]) .ret) .skip)))) (.keep [0,3] (.reg false [(cMv 8 3), (cC 9 .add 8 1), (cMv 3 9)]))))))))) (.keep [0] (.seq (.reg false [(cMv 34 0), (cLn 35 34), (cC 36 .leq 35 7), (cMv 2 36)]) .ret)))))
def pu18 : List Nat := []
def rs18 : List RV := [.t 2]
theorem cc18 : CCx Try.prog Try.f18 pu18 rc18 := by unfold CCx; kernel_rfl
theorem cb18 : CBx Try.f18 := by unfold CBx; kernel_rfl
theorem cs18 : CSx Try.prog Try.f18 rs18 := by unfold CSx; kernel_rfl
theorem cn18 : 1 ≤ Try.f18.ntmps := by decide
def rc35 : RC := (.seq (.reg false [(cX 1 0), (cQ 2 [] (.mv (kB false)))]) (.keep [1] (.seq (.seq (.reg false [(cFa 4 1 1), (cLd 5 4 false 1), (cLn 6 5), (cC 7 .gtr 6 60)]) (.keep [1,7] (.cond (.t 7) (.seq (.reg false [(cQ 2 [] (.mv (kB true)))]) .ret) .skip))) (.keep [1] (.seq (.seq (.reg false [(cI 3 0)]) (.keep [1,3] (.block 0 (.loop [1,3] none (.seq (.seq (.reg false [(cMv 8 3), (cFa 9 1 1), (cLd 10 9 false 1), (cLn 11 10), (cB 12 .lss 8 11)]) (.keep [1,3,12] (.cond (.t 12) .skip (.exit 0)))) (.keep [1,3] (.seq (.block 1 (.seq (.reg false [(cFa 15 1 1), (cLd 16 15 false 1), (cMv 17 3), (cA 18 4 16 17), (cFa 19 18 3), (cLd 20 19 false 1), (cLn 21 20), (cC 22 .gtr 21 60)]) (.keep [1,3,22] (.cond (.t 22) (.seq (.reg false [(cQ 2 [] (.mv (kB true)))]) .ret) .skip)))) (.keep [1,3] (.reg false [(cMv 13 3), (cC 14 .add 13 1), (cMv 3 14)]))))))))) (.keep [1] (.seq (.reg true [(cLd 23 1 true 3), (cQ 24 [23] (.call (kF 36) [(.t 23)])), (cC 25 .eql 24 0), (cMv 26 25), (gQ 27 26 true [1] (.fad 0 (.t 1))), (gQ 28 26 true [27] (.ld false 1 (.t 27))), (gQ 29 26 true [28] (.bin .gtr (.t 28) (kI 6))), (cQ 30 [26,29] (.pick (.t 26) (.t 29) (kB false))), (cMv 2 30)]) .ret)))))))
def pu35 : List Nat := [1]
def rs35 : List RV := [.t 2]
theorem cc35 : CCx Try.prog Try.f35 pu35 rc35 := by unfold CCx; kernel_rfl
theorem cb35 : CBx Try.f35 := by unfold CBx; kernel_rfl
theorem cs35 : CSx Try.prog Try.f35 rs35 := by unfold CSx; kernel_rfl
theorem cn35 : 1 ≤ Try.f35.ntmps := by decide
def rc29 : RC := (.seq (.reg false [(cX 1 0), (cQ 2 [] (.mv (kB false)))]) (.keep [1] (.seq (.reg true [(cLd 3 1 true 3), (cQ 4 [3] (.call (kF 35) [(.t 3)])), (cMv 5 4), (gQ 6 5 false [1] (.ld true 3 (.t 1))), (gQ 7 5 false [6] (.call (kF 36) [(.t 6)])), (gQ 8 5 false [7] (.bin .eql (.t 7) (kI 0))), (gMv 9 5 false 8), (gQ 10 9 true [1] (.fad 0 (.t 1))), (gQ 11 9 true [10] (.ld false 1 (.t 10))), (gQ 12 9 true [11] (.bin .gtr (.t 11) (kI 4))), (gQ 13 5 false [9,12] (.pick (.t 9) (.t 12) (kB false))), (cQ 14 [5,13] (.pick (.t 5) (kB true) (.t 13))), (cMv 2 14)]) .ret)))
def pu29 : List Nat := [1]
def rs29 : List RV := [.t 2]
theorem cc29 : CCx Try.prog Try.f29 pu29 rc29 := by unfold CCx; kernel_rfl
theorem cb29 : CBx Try.f29 := by unfold CBx; kernel_rfl
theorem cs29 : CSx Try.prog Try.f29 rs29 := by unfold CSx; kernel_rfl
theorem cn29 : 1 ≤ Try.f29.ntmps := by decide
def rc14 : RC := (.seq (.reg false [(cX 1 0), (cQ 2 [] (.mv (kB false)))]) (.keep [1] (.seq (.reg true [(cLd 3 1 true 3), (cQ 4 [3] (.call (kF 29) [(.t 3)])), (cN 5 4), (cMv 6 5), (gQ 7 6 true [1] (.ld true 3 (.t 1))), (gQ 8 6 true [7] (.call (kF 36) [(.t 7)])), (gQ 9 6 true [8] (.bin .eql (.t 8) (kI 0))), (cQ 10 [6,9] (.pick (.t 6) (.t 9) (kB false))), (cMv 2 10)]) .ret)))
def pu14 : List Nat := [1]
def rs14 : List RV := [.t 2]
theorem cc14 : CCx Try.prog Try.f14 pu14 rc14 := by unfold CCx; kernel_rfl
theorem cb14 : CBx Try.f14 := by unfold CBx; kernel_rfl
theorem cs14 : CSx Try.prog Try.f14 rs14 := by unfold CSx; kernel_rfl
theorem cn14 : 1 ≤ Try.f14.ntmps := by decide
def rc49 : RC := (.seq (.reg false [⟨(some 0), none, [], none, .w (.alc [(.i 0), (.z 4), (.i 0)])⟩]) (.keep [0] (.seq (.reg false [(cQ 1 [] (.bsl 1 2 [(.i 0)] [(0,1, (kI 1)), (1,1, (kI 2))])), (cQ 2 [1] (.bld [(.i 0), (.i 0), (.i 0), (.z 1)] [(0,1, (kI 1)), (3,1, (.t 1))])), (cQ 3 [] (.bsl 1 1 [(.i 0)] [(0,1, (kI 3))])), (cQ 4 [3] (.bld [(.i 0), (.i 0), (.i 0), (.z 1)] [(0,1, (kI 2)), (1,1, (kI 3)), (3,1, (.t 3))])), (cQ 5 [] (.bld [(.i 0), (.i 0), (.i 0), (.z 1)] [(0,1, (kI 4)), (1,1, (kI 1)), (2,1, (kI 2))])), (cQ 6 [2,4,5] (.bsl 4 3 [(.i 0), (.i 0), (.i 0), (.z 1)] [(0,4, (.t 2)), (4,4, (.t 4)), (8,4, (.t 5))])), (cQ 7 [6] (.bld [(.i 0), (.z 4), (.i 0)] [(0,1, (kI 4)), (1,1, (.t 6))])), ⟨none, none, [0,7], none, .w (.st 3 (.t 0) (.t 7))⟩]) .ret)))
def pu49 : List Nat := [1,3,6]
def rs49 : List RV := [.c 0 true 3]
theorem cc49 : CCx Try.prog Try.f49 pu49 rc49 := by unfold CCx; kernel_rfl
theorem cb49 : CBx Try.f49 := by unfold CBx; kernel_rfl
theorem cs49 : CSx Try.prog Try.f49 rs49 := by unfold CSx; kernel_rfl
theorem cn49 : 0 ≤ Try.f49.ntmps := by decide
def rc15 : RC := (.seq (.reg false [(cQ 0 [] (.mv (kB false)))]) (.keep [] (.seq (.reg false [(cQ 13 [] (.call (kF 49) [])), ⟨(some 1), none, [], none, .w (.alc [(.i 0), (.z 4), (.i 0)])⟩, ⟨none, none, [1,13], none, .w (.st 3 (.t 1) (.t 13))⟩]) (.keep [1] (.seq (.reg false [(cLd 15 1 true 3), (cQ 16 [15] (.call (kF 16) [(.t 15)])), (cMv 14 16), (cEx 17 14 0), (cEx 18 14 1), (cMv 2 17), (cMv 3 18)]) (.keep [1,2,3] (.seq (.reg false [(cLd 20 1 true 3), (cQ 21 [20] (.call (kF 41) [(.t 20)])), (cMv 19 21), (cEx 22 19 0), (cEx 23 19 1), (cMv 4 22), (cMv 5 23)]) (.keep [1,2,3,4,5] (.seq (.reg false [(cLd 25 1 true 3), (cQ 26 [25] (.call (kF 17) [(.t 25)])), (cMv 24 26), (cEx 27 24 0), (cEx 28 24 1), (cMv 6 27), (cMv 7 28)]) (.keep [2,3,4,5,6,7] (.seq (.reg false [(cQ 30 [] (.bsl 1 4 [(.i 0)] [(0,1, (kI 1)), (1,1, (kI 2)), (2,1, (kI 0)), (3,1, (kI 3))])), (cQ 31 [30] (.call (kF 19) [(.t 30)])), (cMv 29 31), (cEx 32 29 0), (cEx 33 29 1), (cMv 8 32), (cMv 9 33)]) (.keep [2,3,4,5,6,7,8,9] (.seq (.reg false [(cQ 35 [] (.bsl 1 4 [(.i 0)] [(0,1, (kI 1)), (1,1, (kI 2)), (2,1, (kI 0)), (3,1, (kI 3))])), (cQ 36 [35] (.call (kF 24) [(.t 35)])), (cMv 34 36), (cEx 37 34 0), (cEx 38 34 1), (cEx 39 34 2), (cMv 10 37), (cMv 11 38), (cMv 12 39)]) (.keep [2,3,4,5,6,7,8,9,10,11,12] (.seq (.reg true [(cMv 40 3), (cC 41 .eql 40 0), (cMv 42 41), (gMv 43 42 true 5), (gQ 44 42 true [43] (.bin .eql (.t 43) (kI 0))), (cQ 45 [42,44] (.pick (.t 42) (.t 44) (kB false))), (cMv 46 45), (gMv 47 46 true 7), (gQ 48 46 true [47] (.bin .eql (.t 47) (kI 0))), (cQ 49 [46,48] (.pick (.t 46) (.t 48) (kB false))), (cMv 50 49), (gMv 51 50 true 9), (gQ 52 50 true [51] (.bin .eql (.t 51) (kI 0))), (cQ 53 [50,52] (.pick (.t 50) (.t 52) (kB false))), (cMv 54 53), (gMv 55 54 true 12), (gQ 56 54 true [55] (.bin .eql (.t 55) (kI 0))), (cQ 57 [54,56] (.pick (.t 54) (.t 56) (kB false))), (cMv 58 57), (gMv 59 58 true 2), (gQ 60 58 true [59] (.bin .eql (.t 59) (kI 2))), (cQ 61 [58,60] (.pick (.t 58) (.t 60) (kB false))), (cMv 62 61), (gMv 63 62 true 4), (gQ 64 62 true [] (.bsl 1 4 [(.i 0)] [(0,1, (.k (.i (-1)))), (1,1, (.k (.i (-1)))), (2,1, (.k (.i (-1)))), (3,1, (kI 0))])), (gQ 65 62 true [63,64] (.call (kF 28) [(.t 63), (.t 64)])), (cQ 66 [62,65] (.pick (.t 62) (.t 65) (kB false))), (cMv 67 66), (gMv 68 67 true 6), (gQ 69 67 true [68] (.bin .eql (.t 68) (kI 1))), (cQ 70 [67,69] (.pick (.t 67) (.t 69) (kB false))), (cMv 71 70), (gMv 72 71 true 8), (gQ 73 71 true [72] (.bin .eql (.t 72) (kI 2))), (cQ 74 [71,73] (.pick (.t 71) (.t 73) (kB false))), (cMv 75 74), (gMv 76 75 true 10), (gQ 77 75 true [76] (.len (.t 76))), (gMv 78 75 true 11), (gQ 79 75 true [78] (.len (.t 78))), (gQ 80 75 true [77,79] (.bin .add (.t 77) (.t 79))), (gQ 81 75 true [80] (.bin .gtr (.t 80) (kI 0))), (cQ 82 [75,81] (.pick (.t 75) (.t 81) (kB false))), (cMv 0 82)]) .ret)))))))))))))))
def pu15 : List Nat := [30,35,64]
def rs15 : List RV := [.t 0]
theorem cc15 : CCx Try.prog Try.f15 pu15 rc15 := by unfold CCx; kernel_rfl
theorem cb15 : CBx Try.f15 := by unfold CBx; kernel_rfl
theorem cs15 : CSx Try.prog Try.f15 rs15 := by unfold CSx; kernel_rfl
theorem cn15 : 0 ≤ Try.f15.ntmps := by decide
def rc28 : RC := (.seq (.reg false [(cQ 4 [] (.mv (kB false)))]) (.keep [0,1] (.seq (.seq (.reg false [(cMv 6 0), (cLn 7 6), (cMv 8 1), (cLn 9 8), (cB 10 .neq 7 9)]) (.keep [0,1,10] (.cond (.t 10) (.seq (.reg false [(cQ 4 [] (.mv (kB false)))]) .ret) .skip))) (.keep [0,1] (.seq (.seq (.reg false [(cI 5 0)]) (.keep [0,1,5] (.block 0 (.loop [0,1,5] none (.seq (.seq (.reg false [(cMv 11 5), (cMv 12 0), (cLn 13 12), (cB 14 .lss 11 13)]) (.keep [0,1,5,14] (.cond (.t 14) .skip (.exit 0)))) (.keep [0,1,5] (.seq (.block 1 (.seq (.any false 0 [⟨(cMv 17 0), [], []⟩, ⟨(cMv 18 5), [], []⟩, ⟨(cA 19 1 17 18), [], [0,1]⟩, ⟨(cLd 20 19 false 1), [], [2,0,1]⟩, ⟨(cMv 21 1), [], []⟩, ⟨(cMv 22 5), [], []⟩, ⟨(cA 23 1 21 22), [], [4,5]⟩, ⟨(cLd 24 23 false 1), [], [6,4,5]⟩, ⟨(cB 25 .neq 20 24), [], [3,2,0,1,7,6,4,5]⟩]) (.keep [0,1,5,25] (.cond (.t 25) (.seq (.reg false [(cQ 4 [] (.mv (kB false)))]) .ret) .skip)))) (.keep [0,1,5] (.reg false [(cMv 15 5), (cC 16 .add 15 1), (cMv 5 16)]))))))))) (.keep [] (.seq (.reg false [(cQ 4 [] (.mv (kB true)))]) .ret)))))))
def pu28 : List Nat := []
def rs28 : List RV := [.t 4]
theorem cc28 : CCx Try.prog Try.f28 pu28 rc28 := by unfold CCx; kernel_rfl
theorem cb28 : CBx Try.f28 := by unfold CBx; kernel_rfl
theorem cs28 : CSx Try.prog Try.f28 rs28 := by unfold CSx; kernel_rfl
theorem cn28 : 2 ≤ Try.f28.ntmps := by decide
end Go.C10
set_option linter.unusedSimpArgs false
set_option linter.unusedVariables false
namespace Go.C10
open Go.Fam Go.Proofs
variable {Γ : Gam}
theorem W62 (s : Stand) (n : Int) : Qak Try.prog 62 [.ag (Qa7 s), .i n] (.b (Qaq s.guests n)) := by
 refine Qaj Qqw hmix Try.func62 cb62 cc62 cs62 cn62 ?_
 have e : Qaq s.guests n = (decide (0 ≤ n) && decide (n < s.guests)) := by
  unfold Qaq Qbd
  congr 1
  rw [decide_eq_decide]; omega
 by_cases h : 0 ≤ n <;> simp only [rc62, rs62, h, e, Qa9, Qa8, Qaf, Qa4, Qae, Qa5, Qa2, Fam.step, Qag, Qau, Qap, ug, evO, opv, qv, Qah, binV, ldV, V.cells, Qar, Qaa, Qa6, Qa1, Qa0, Qa3, ↓reduceIte, Nat.reduceEqDiff, Nat.reduceAdd, Nat.reduceLeDiff, Qb, Qe, Qr, Qq, Qc, Qd, Qk, Qh, endQ, rvs, rv1, resV, vw_i, vw_b, Qal, Qas, zipA, beq_self_eq_true, Qi, Qm, Qs, Zr, Q8, Ql, Qa, Qo, decide_true, decide_false, and_true, and_self, forall_const, implies_true, reduceCtorEq, beq_true, imp_self, Qa7]
theorem W52 (l : List Int) (n : Int) (h : l.length ≤ 1000000) : Qak Try.prog 52 [.sl 1 (l.map eI), .i n] (.b (decide (n ∈ l))) := by
 refine Qaj Qqw hmix Try.func52 cb52 cc52 cs52 cn52 ?_
 simp only [rc52, rs52, Qa9, Qa8, Qac, Qa4, Qae, Qa5, Qa2, Fam.step, Qag, evO, opv, qv, Qa1, Qa0, Qa3, ↓reduceIte, Nat.reduceEqDiff, Qb, Qe, zipA, Qi, true_and, reduceCtorEq]
 refine Qbh l.length (fun i => ⟨lkp [(0, .sl 1 (l.map eI)), (1, .i n), (5, .i i)], []⟩) (fun i => ∀ j : Nat, j < i → ¬ l[j]? = some n) ?_ ?_ ?_ ?_
 ·simp only [Ze, kp, Qa0, Qa3, ↓reduceIte, Nat.reduceEqDiff, Qb, Qe, reduceCtorEq]
 ·intro j hj; omega
 ·intro i hi hc
  obtain ⟨x, hx⟩ : ∃ x, l[i]? = some x := ⟨_, Q0 hi⟩
  have hlt : (i : Int) < l.length := by omega
  have h3 : inI ((i : Int) + 1) := by unfold inI; omega
  by_cases e : x = n
  ·have hm : n ∈ l := by rw [← e]; exact Zj hx
   simp only [hx, hlt, e, hm, Qad, Qa9, Qa8, Qab, Qac, Qaf, Qa4, Qae, Qai, Qa5, Qa2, Fam.step, Qag, evO, opv, qv, binV, ldV, iadV, lenV, kp, Qa1, Qa0, Qa3, ↓reduceIte, Nat.reduceEqDiff, Nat.reduceLeDiff, Qb, Qe, Qc, Qd, Qh, Qn, endQ, rvs, rv1, resV, vw_b, Q2, Qi, Qa, decide_true, and_self, reduceCtorEq, Q4, Qf, Q1, Qp, Qy, eI]
  ·simp only [hx, hlt, e, h3, Zg, Zf, Qad, Qa9, Qa8, Qab, Qac, Qa4, Qae, Qai, Qa5, Qa2, Fam.step, Qag, evO, opv, qv, binV, ldV, iadV, lenV, kp, Qa1, Qa0, Qa3, ↓reduceIte, Nat.reduceEqDiff, Nat.reduceLeDiff, Qb, Qe, Qc, Qd, Qh, Qn, Q2, Qi, Qa, decide_true, decide_false, true_and, and_true, and_self, reduceCtorEq, Q4, Qf, Q1, Qp, Qy, eI]
   intro j hj hjx
   by_cases hji : j < i
   ·exact hc j hji hjx
   ·have : j = i := by omega
    subst this
    rw [hx] at hjx
    exact e (Z2.inj hjx)
 ·intro hc
  have hlt : ¬ ((l.length : Int) < l.length) := by omega
  have hm : n ∉ l := fun hm => by
   obtain ⟨j, hj⟩ := Zl hm
   exact hc j (Qam hj) hj
  simp only [hlt, hm, Qa9, Qa8, Qab, Qb1, Qaf, Qa4, Qae, Qai, Qa5, Qa2, Fam.step, Qag, evO, opv, qv, binV, lenV, Qa1, Qa0, Qa3, ↓reduceIte, Nat.reduceEqDiff, Qb, Qe, endQ, rvs, rv1, resV, vw_b, Qa, decide_false, and_self, reduceCtorEq, Qf]
theorem W38 (l : List Int) (n : Int) (h : l.length ≤ 1000000) : Qak Try.prog 38 [.sl 1 (l.map eI), .i n] (.b (decide (n ∈ l))) := by
 refine Qaj Qqw hmix Try.func38 cb38 cc38 cs38 cn38 ?_
 simp only [rc38, rs38, Qa9, Qa8, Qac, Qa4, Qae, Qa5, Qa2, Fam.step, Qag, evO, opv, qv, Qa1, Qa0, Qa3, ↓reduceIte, Nat.reduceEqDiff, Qb, Qe, zipA, Qi, true_and, reduceCtorEq]
 refine Qbh l.length (fun i => ⟨lkp [(0, .sl 1 (l.map eI)), (1, .i n), (5, .i i)], []⟩) (fun i => ∀ j : Nat, j < i → ¬ l[j]? = some n) ?_ ?_ ?_ ?_
 ·simp only [Ze, kp, Qa0, Qa3, ↓reduceIte, Nat.reduceEqDiff, Qb, Qe, reduceCtorEq]
 ·intro j hj; omega
 ·intro i hi hc
  obtain ⟨x, hx⟩ : ∃ x, l[i]? = some x := ⟨_, Q0 hi⟩
  have hlt : (i : Int) < l.length := by omega
  have h3 : inI ((i : Int) + 1) := by unfold inI; omega
  by_cases e : x = n
  ·have hm : n ∈ l := by rw [← e]; exact Zj hx
   simp only [hx, hlt, e, hm, Qad, Qa9, Qa8, Qab, Qac, Qaf, Qa4, Qae, Qai, Qa5, Qa2, Fam.step, Qag, evO, opv, qv, binV, ldV, iadV, lenV, kp, Qa1, Qa0, Qa3, ↓reduceIte, Nat.reduceEqDiff, Nat.reduceLeDiff, Qb, Qe, Qc, Qd, Qh, Qn, endQ, rvs, rv1, resV, vw_b, Q2, Qi, Qa, decide_true, and_self, reduceCtorEq, Q4, Qf, Q1, Qp, Qy, eI]
  ·simp only [hx, hlt, e, h3, Zg, Zf, Qad, Qa9, Qa8, Qab, Qac, Qa4, Qae, Qai, Qa5, Qa2, Fam.step, Qag, evO, opv, qv, binV, ldV, iadV, lenV, kp, Qa1, Qa0, Qa3, ↓reduceIte, Nat.reduceEqDiff, Nat.reduceLeDiff, Qb, Qe, Qc, Qd, Qh, Qn, Q2, Qi, Qa, decide_true, decide_false, true_and, and_true, and_self, reduceCtorEq, Q4, Qf, Q1, Qp, Qy, eI]
   intro j hj hjx
   by_cases hji : j < i
   ·exact hc j hji hjx
   ·have : j = i := by omega
    subst this
    rw [hx] at hjx
    exact e (Z2.inj hjx)
 ·intro hc
  have hlt : ¬ ((l.length : Int) < l.length) := by omega
  have hm : n ∉ l := fun hm => by
   obtain ⟨j, hj⟩ := Zl hm
   exact hc j (Qam hj) hj
  simp only [hlt, hm, Qa9, Qa8, Qab, Qb1, Qaf, Qa4, Qae, Qai, Qa5, Qa2, Fam.step, Qag, evO, opv, qv, binV, lenV, Qa1, Qa0, Qa3, ↓reduceIte, Nat.reduceEqDiff, Qb, Qe, endQ, rvs, rv1, resV, vw_b, Qa, decide_false, and_self, reduceCtorEq, Qf]
def e62 (a : Stand × Int) : List V := [.ag (Qa7 a.1), .i a.2]
def d62 : List V → Stand × Int | [.ag x0, .i x1] => (Qb3 x0, x1) | _ => (Qb3 [], 0)
theorem Qx1 (a : Stand × Int) : d62 (e62 a) = a := by simp [d62, e62, Qbl]
noncomputable def HM1 : Gam := HL2.ext 62 (fnG e62 d62 (fun a => (fun (s : Stand) (n : Int) => True) a.1 a.2) (fun a => (fun (s : Stand) (n : Int) => Qaq s.guests n) a.1 a.2) .b)
theorem Qxl : GOk Try.prog HM1 := Qqw.ext (f := 62) (fun a w => Try.call62 a w) (Qb2 (e := e62) (d := d62) (ok := (fun a => (fun (s : Stand) (n : Int) => True) a.1 a.2)) (g := (fun a => (fun (s : Stand) (n : Int) => Qaq s.guests n) a.1 a.2)) (eb := .b) fun a h => W62 a.1 a.2)
theorem h62 (s : Stand) (n : Int) : HM1 62 [.ag (Qa7 s), .i n] = (True, .b (Qaq s.guests n)) :=
 (show HM1 62 _ = fnG e62 d62 (fun a => (fun (s : Stand) (n : Int) => True) a.1 a.2) (fun a => (fun (s : Stand) (n : Int) => Qaq s.guests n) a.1 a.2) .b (e62 (s, n)) from rfl).trans (Qb4 _ (Qx1 _))
def e52 (a : List Int × Int) : List V := [.sl 1 (a.1.map eI), .i a.2]
def d52 : List V → List Int × Int | [.sl _ x0, .i x1] => (x0.map dI, x1) | _ => ([], 0)
theorem Qwu (a : List Int × Int) : d52 (e52 a) = a := by simp [d52, e52, Function.comp_def, Qcx]
noncomputable def HM2 : Gam := HM1.ext 52 (fnG e52 d52 (fun a => (fun (l : List Int) (n : Int) => l.length ≤ 1000000) a.1 a.2) (fun a => (fun (l : List Int) (n : Int) => decide (n ∈ l)) a.1 a.2) .b)
theorem Qxm : GOk Try.prog HM2 := Qxl.ext (f := 52) (fun a w => Try.call52 a w) (Qb2 (e := e52) (d := d52) (ok := (fun a => (fun (l : List Int) (n : Int) => l.length ≤ 1000000) a.1 a.2)) (g := (fun a => (fun (l : List Int) (n : Int) => decide (n ∈ l)) a.1 a.2)) (eb := .b) fun a h => W52 a.1 a.2 h)
theorem h52 (l : List Int) (n : Int) : HM2 52 [.sl 1 (l.map eI), .i n] = (l.length ≤ 1000000, .b (decide (n ∈ l))) :=
 (show HM2 52 _ = fnG e52 d52 (fun a => (fun (l : List Int) (n : Int) => l.length ≤ 1000000) a.1 a.2) (fun a => (fun (l : List Int) (n : Int) => decide (n ∈ l)) a.1 a.2) .b (e52 (l, n)) from rfl).trans (Qb4 _ (Qwu _))
def e38 (a : List Int × Int) : List V := [.sl 1 (a.1.map eI), .i a.2]
def d38 : List V → List Int × Int | [.sl _ x0, .i x1] => (x0.map dI, x1) | _ => ([], 0)
noncomputable def HM3 : Gam := HM2.ext 38 (fnG e38 d38 (fun a => (fun (l : List Int) (n : Int) => l.length ≤ 1000000) a.1 a.2) (fun a => (fun (l : List Int) (n : Int) => decide (n ∈ l)) a.1 a.2) .b)
theorem Qvn : GOk Try.prog HM3 := Qxm.ext (f := 38) (fun a w => Try.call38 a w) (Qb2 (e := e38) (d := d38) (ok := (fun a => (fun (l : List Int) (n : Int) => l.length ≤ 1000000) a.1 a.2)) (g := (fun a => (fun (l : List Int) (n : Int) => decide (n ∈ l)) a.1 a.2)) (eb := .b) fun a h => W38 a.1 a.2 h)
theorem Qtt (s : Stand) (n : Int)  : HM3 62 [.ag (Qa7 s), .i n] = (True, .b (Qaq s.guests n)) := h62 s n
theorem Qo3 {g : Int} {w : Word} (hg : Qaq g w.guest = true) (ho : Qaq g w.other = false) : Qgx g w = false := by
 unfold Qgx
 split
 ·by_cases h : w.other = 0
  ·rw [h] at ho
   simp only [Qaq, Qbd, Zo, decide_eq_true_eq, Z0, decide_eq_false_iff_not] at hg ho
   omega
  ·simp [h]
 ·split
  ·rw [ho]; simp
  ·rfl
set_option maxHeartbeats 4000000 in
theorem W65 (s : Stand) (w : Word) (h : w.among.length ≤ 1000000) : Qak Try.prog 65 [.ag (Qa7 s), .ag (Qat w)] (.b (Qbk s.guests w)) := by
 refine Qaj Qvn hmix Try.func65 cb65 cc65 cs65 cn65 ?_
 have g1 := fun n => Qtt s n
 simp only [Qa7] at g1
 by_cases hg : Qaq s.guests w.guest = true
 rotate_left
 ·have e : Qbk s.guests w = false := by unfold Qbk; simp [hg]
  simp only [rc65, rs65, g1, hg, e, Qa9, Qa8, Qab, Qaf, Qa4, Qae, Qa5, Qa2, Fam.step, Qag, Qau, Qap, ug, evO, opv, qv, Qah, ldV, Qao, V.cells, Qar, Qaa, Qa6, flat, Qa1, Qa0, Qa3, ↓reduceIte, Nat.reduceEqDiff, Nat.reduceAdd, Nat.reduceLT, Nat.reduceLeDiff, Qb, Qe, Qr, Qq, Qc, Qd, Qg, Qk, Qw, Q9, Qh, Qj, endQ, rvs, rv1, resV, vw_i, vw_b, Qal, Qas, zipA, Qi, Qm, Qs, Ql, Qt, Qv, Qa, Qo, and_true, and_self, forall_const, implies_true, reduceCtorEq, beq_false, imp_self, Qat, Qa7]
 by_cases ho : Qaq s.guests w.other = true
 rotate_left
 ·have e : Qbk s.guests w = false := by unfold Qbk; rw [Qo3 hg (by simpa using ho)]; simp
  simp only [rc65, rs65, g1, hg, ho, e, Qa9, Qa8, Qab, Qaf, Qa4, Qae, Qa5, Qa2, Fam.step, Qag, Qau, Qap, ug, evO, opv, qv, Qah, ldV, Qao, V.cells, Qar, Qaa, Qa6, flat, Qa1, Qa0, Qa3, ↓reduceIte, Nat.reduceEqDiff, Nat.reduceAdd, Nat.reduceLT, Nat.reduceLeDiff, Qb, Qe, Qr, Qq, Qc, Qd, Qg, Qk, Qw, Q9, Qh, Qj, endQ, rvs, rv1, resV, vw_i, vw_b, Qal, Qas, zipA, beq_self_eq_true, Qi, Qm, Ql, Qt, Qv, Qa, and_self, forall_const, implies_true, reduceCtorEq, Qat, Qa7]
 by_cases k3 : w.kind = 3 ∨ w.kind = 4
 ·have k12 : ¬ (w.kind = 1 ∨ w.kind = 2) := by omega
  by_cases hl : (w.among.length : Int) = 0
  ·have hl0 : w.among = [] := List.eq_nil_of_length_eq_zero (by omega)
   have e : Qbk s.guests w = decide (w.other ≠ w.guest) := by unfold Qbk Qgx Qfi; rw [if_neg k12, if_pos k3, hg, ho, hl0]; simp
   by_cases hn : w.guest = w.other
   ·have hn' := hn.symm
    rcases k3 with k3 | k3 <;> simp only [rc65, rs65, g1, ho, k3, hl, hn, e, eq_self, Qad, Qa9, Qa8, Qab, Qaf, Qa4, Qae, Qa5, Qa2, Fam.step, Qag, Qau, Qap, ug, evO, opv, qv, Qah, binV, ldV, lenV, Qao, V.cells, Qar, Qaa, Qa6, flat, Qa1, Qa0, Qa3, ↓reduceIte, Nat.reduceEqDiff, Nat.reduceAdd, Nat.reduceLT, Nat.reduceLeDiff, Int.reduceEq, Qb, Qe, Qr, Qq, Qc, Qd, Qg, Qk, Qw, Q9, Qh, Qj, endQ, rvs, rv1, resV, vw_i, vw_b, Qal, Qas, zipA, beq_self_eq_true, Qi, Qm, Qs, Ql, Qt, Qa, Qo, decide_true, decide_false, and_true, and_self, forall_const, implies_true, reduceCtorEq, not_true_eq_false, ne_eq, beq_false, imp_self, Qf, Qat, Qa7]
   ·have hn' : ¬ w.other = w.guest := fun e => hn e.symm
    rcases k3 with k3 | k3 <;> simp only [rc65, rs65, g1, hg, ho, k3, hl, hn, hn', e, Qad, Qa9, Qa8, Qab, Qaf, Qa4, Qae, Qa5, Qa2, Fam.step, Qag, Qau, Qap, ug, evO, opv, qv, Qah, binV, ldV, lenV, Qao, V.cells, Qar, Qaa, Qa6, flat, Qa1, Qa0, Qa3, ↓reduceIte, Nat.reduceEqDiff, Nat.reduceAdd, Nat.reduceLT, Nat.reduceLeDiff, Int.reduceEq, Qb, Qe, Qr, Qq, Qc, Qd, Qg, Qk, Qw, Q9, Qh, Qj, endQ, rvs, rv1, resV, vw_i, vw_b, Qal, Qas, zipA, beq_self_eq_true, Qi, Qm, Qs, Ql, Qt, Qv, Qa, Qo, decide_true, decide_false, and_true, and_self, forall_const, implies_true, reduceCtorEq, not_false_eq_true, ne_eq, beq_false, imp_self, Qf, Qat, Qa7]
  ·have e : Qbk s.guests w = false := by
    unfold Qbk Qgx; rw [if_neg k12, if_pos k3]
    have : ¬ w.among.length = 0 := by omega
    simp [this]
   rcases k3 with k3 | k3 <;> simp only [rc65, rs65, g1, hg, ho, k3, hl, e, Qad, Qa9, Qa8, Qab, Qaf, Qa4, Qae, Qa5, Qa2, Fam.step, Qag, Qau, Qap, ug, evO, opv, qv, Qah, binV, ldV, lenV, Qao, V.cells, Qar, Qaa, Qa6, flat, Qa1, Qa0, Qa3, ↓reduceIte, Nat.reduceEqDiff, Nat.reduceAdd, Nat.reduceLT, Nat.reduceLeDiff, Int.reduceEq, Qb, Qe, Qr, Qq, Qc, Qd, Qg, Qk, Qw, Q9, Qh, Qj, endQ, rvs, rv1, resV, vw_i, vw_b, Qal, Qas, zipA, beq_self_eq_true, Qi, Qm, Qs, Ql, Qt, Qa, Qo, decide_true, decide_false, and_true, and_self, forall_const, implies_true, reduceCtorEq, beq_true, beq_false, imp_self, Qf, Qat, Qa7]
 have k3' : ¬ w.kind = 3 := by omega
 have k4' : ¬ w.kind = 4 := by omega
 by_cases hbad : (¬ w.kind = 1 ∧ ¬ w.kind = 2) ∨ (w.among.length : Int) = 0 ∨ ¬ w.other = 0
 ·have e : Qbk s.guests w = false := by
   unfold Qbk Qgx
   rw [if_neg k3]
   by_cases k12 : w.kind = 1 ∨ w.kind = 2
   ·rw [if_pos k12]
    rcases hbad with hb | hb | hb
    ·omega
    ·have : ¬ 0 < w.among.length := by omega
     simp [this]
    ·simp [hb]
   ·rw [if_neg k12]; simp
  by_cases k1 : w.kind = 1
  ·by_cases hl : (w.among.length : Int) = 0
   ·simp only [rc65, rs65, g1, hg, ho, k1, hl, e, Qad, Qa9, Qa8, Qab, Qaf, Qa4, Qae, Qa5, Qa2, Fam.step, Qag, Qau, Qap, ug, evO, opv, qv, Qah, binV, ldV, lenV, Qao, V.cells, Qar, Qaa, Qa6, flat, Qa1, Qa0, Qa3, ↓reduceIte, Nat.reduceEqDiff, Nat.reduceAdd, Nat.reduceLT, Nat.reduceLeDiff, Int.reduceEq, Qb, Qe, Qr, Qq, Qc, Qd, Qg, Qk, Qw, Q9, Qh, Qj, endQ, rvs, rv1, resV, vw_i, vw_b, Qal, Qas, zipA, beq_self_eq_true, Qi, Qm, Qs, Ql, Qt, Qv, Qa, Qo, decide_true, decide_false, and_true, and_self, forall_const, implies_true, reduceCtorEq, beq_true, beq_false, imp_self, Qf, Qat, Qa7]
   ·have ho0 : ¬ w.other = 0 := by omega
    simp only [rc65, rs65, g1, hg, ho, k1, hl, ho0, e, Qad, Qa9, Qa8, Qab, Qaf, Qa4, Qae, Qa5, Qa2, Fam.step, Qag, Qau, Qap, ug, evO, opv, qv, Qah, binV, ldV, lenV, Qao, V.cells, Qar, Qaa, Qa6, flat, Qa1, Qa0, Qa3, ↓reduceIte, Nat.reduceEqDiff, Nat.reduceAdd, Nat.reduceLT, Nat.reduceLeDiff, Int.reduceEq, Qb, Qe, Qr, Qq, Qc, Qd, Qg, Qk, Qw, Q9, Qh, Qj, endQ, rvs, rv1, resV, vw_i, vw_b, Qal, Qas, zipA, beq_self_eq_true, Qi, Qm, Qs, Ql, Qt, Qv, Qa, decide_true, decide_false, and_true, and_self, forall_const, implies_true, reduceCtorEq, beq_true, imp_self, Qf, Qat, Qa7]
  ·by_cases k2 : w.kind = 2
   ·by_cases hl : (w.among.length : Int) = 0
    ·simp only [rc65, rs65, g1, hg, ho, k2, hl, e, Qad, Qa9, Qa8, Qab, Qaf, Qa4, Qae, Qa5, Qa2, Fam.step, Qag, Qau, Qap, ug, evO, opv, qv, Qah, binV, ldV, lenV, Qao, V.cells, Qar, Qaa, Qa6, flat, Qa1, Qa0, Qa3, ↓reduceIte, Nat.reduceEqDiff, Nat.reduceAdd, Nat.reduceLT, Nat.reduceLeDiff, Int.reduceEq, Qb, Qe, Qr, Qq, Qc, Qd, Qg, Qk, Qw, Q9, Qh, Qj, endQ, rvs, rv1, resV, vw_i, vw_b, Qal, Qas, zipA, beq_self_eq_true, Qi, Qm, Qs, Ql, Qt, Qv, Qa, Qo, decide_true, decide_false, and_true, and_self, forall_const, implies_true, reduceCtorEq, beq_false, imp_self, Qf, Qat, Qa7]
    ·have ho0 : ¬ w.other = 0 := by omega
     simp only [rc65, rs65, g1, hg, ho, k2, hl, ho0, e, Qad, Qa9, Qa8, Qab, Qaf, Qa4, Qae, Qa5, Qa2, Fam.step, Qag, Qau, Qap, ug, evO, opv, qv, Qah, binV, ldV, lenV, Qao, V.cells, Qar, Qaa, Qa6, flat, Qa1, Qa0, Qa3, ↓reduceIte, Nat.reduceEqDiff, Nat.reduceAdd, Nat.reduceLT, Nat.reduceLeDiff, Int.reduceEq, Qb, Qe, Qr, Qq, Qc, Qd, Qg, Qk, Qw, Q9, Qh, Qj, endQ, rvs, rv1, resV, vw_i, vw_b, Qal, Qas, zipA, beq_self_eq_true, Qi, Qm, Ql, Qt, Qv, Qa, Qo, decide_true, decide_false, and_self, forall_const, implies_true, reduceCtorEq, Qf, Qat, Qa7]
   ·simp only [rc65, rs65, g1, hg, ho, k3', k4', k1, k2, e, Qad, Qa9, Qa8, Qab, Qaf, Qa4, Qae, Qa5, Qa2, Fam.step, Qag, Qau, Qap, ug, evO, opv, qv, Qah, binV, ldV, lenV, Qao, V.cells, Qar, Qaa, Qa6, flat, Qa1, Qa0, Qa3, ↓reduceIte, Nat.reduceEqDiff, Nat.reduceAdd, Nat.reduceLT, Nat.reduceLeDiff, Qb, Qe, Qr, Qq, Qc, Qd, Qg, Qk, Qw, Q9, Qh, Qj, endQ, rvs, rv1, resV, vw_i, vw_b, Qal, Qas, zipA, beq_self_eq_true, Qi, Qm, Qs, Ql, Qt, Qv, Qa, Qo, decide_false, and_true, and_self, forall_const, implies_true, reduceCtorEq, beq_false, imp_self, Qf, Qat, Qa7]
 ·have hl : ¬ (w.among.length : Int) = 0 := by omega
  have ho0 : w.other = 0 := by omega
  have k12 : w.kind = 1 ∨ w.kind = 2 := by omega
  have ew : Qbk s.guests w = Qfi s.guests w.among := by
   unfold Qbk Qgx
   have : 0 < w.among.length := by omega
   rw [if_pos k12, hg]; simp [this, ho0]
  have k1or : w.kind = 1 ∨ (¬ w.kind = 1 ∧ w.kind = 2) := by omega
  have ho' := ho
  rw [ho0] at ho'
  rcases k1or with k1 | ⟨k1, k2⟩
  ·simp only [rc65, rs65, g1, hg, k1, hl, ho0, ho', Qad, Qa9, Qa8, Qab, Qac, Qa4, Qae, Qa5, Qa2, Fam.step, Qag, Qau, Qap, ug, evO, opv, qv, Qah, binV, ldV, lenV, Qao, V.cells, Qar, Qaa, Qa6, flat, Qa1, Qa0, Qa3, ↓reduceIte, Nat.reduceEqDiff, Nat.reduceAdd, Nat.reduceLT, Nat.reduceLeDiff, Int.reduceEq, Qb, Qe, Qr, Qq, Qc, Qd, Qg, Qk, Qw, Q9, Qh, Qj, vw_i, Qal, Qas, zipA, beq_self_eq_true, Qi, Qm, Qs, Ql, Qt, Qv, Qa, decide_true, decide_false, true_and, and_true, and_self, forall_const, implies_true, reduceCtorEq, beq_true, imp_self, Qf, Qat, Qa7]
   refine Qbh w.among.length (fun i => ⟨lkp [(2, .pa (Qa7 s)), (3, .pa (Qat w)), (5, .i i)], []⟩) (fun i => ∀ j : Nat, j < i → (Qaq s.guests (w.among[j]?.getD 0) && (decide (j = 0) || decide (w.among[j - 1]?.getD 0 < w.among[j]?.getD 0))) = true) ?_ ?_ ?_ ?_
   ·simp only [Ze, k1, ho0, kp, Qa0, Qa3, ↓reduceIte, Nat.reduceEqDiff, Qb, Qe, Qat, Qa7]
   ·intro j hj; omega
   ·intro i hi hc
    obtain ⟨x, hx⟩ : ∃ x, w.among[i]? = some x := ⟨_, Q0 hi⟩
    have hlt : (i : Int) < w.among.length := by omega
    have h3 : inI ((i : Int) + 1) ∧ inI ((i : Int) - 1) := by unfold inI; omega
    have hgd : w.among[i]?.getD 0 = x := by rw [hx]; rfl
    have fin : (Qaq s.guests x && (decide (i = 0) || decide (w.among[i - 1]?.getD 0 < x))) = false → Qbk s.guests w = false := fun e => by
     rw [ew]; unfold Qfi
     rw [Zu]
     exact ⟨i, Zm.2 hi, by rw [hgd, e]; simp⟩
    have con : (Qaq s.guests x && (decide (i = 0) || decide (w.among[i - 1]?.getD 0 < x))) = true → ∀ j : Nat, j < i + 1 → (Qaq s.guests (w.among[j]?.getD 0) && (decide (j = 0) || decide (w.among[j - 1]?.getD 0 < w.among[j]?.getD 0))) = true := fun e j hj => by
     by_cases hji : j < i
     ·exact hc j hji
     ·have : j = i := by omega
      subst this
      rw [hgd]; exact e
    by_cases hgx : Qaq s.guests x = true
    ·by_cases hi0 : i = 0
     ·subst hi0
      have hlt0 : (0 : Int) < w.among.length := by omega
      have i10 : inI 1 := by unfold inI; omega
      have hcon := con (by simp [hgx])
      rw [Qi] at hcon
      simp only [hx, hlt0, g1, hgx, Ze, i10, Zf, Qad, Qa9, Qbr, Qa8, Qab, Qac, Qa4, Qb9, Qae, Qai, Qa5, Qa2, Fam.step, Qag, Qau, Qap, ug, runX, eff, Qb7, fpR, fpQ, fpV, Qc3, hits, evO, opv, qv, Qah, binV, ldV, iadV, lenV, Qao, Qaa, Qa6, flat, kp, Qa1, Qa0, Qa3, ↓reduceIte, Nat.reduceEqDiff, Nat.reduceAdd, Nat.reduceLT, Nat.reduceLeDiff, Int.reduceNeg, Int.reduceToNat, Zi, Int.reduceLE, Int.reduceAdd, Int.reduceSub, Qb, Qe, Qr, Qq, Qc, Qd, Qg, Qk, Qw, Q9, Qh, Q6, Q3, Qj, Q5, Qn, Za, Qz, Zb, vw_i, Qal, Qas, Int.lt_irrefl, beq_self_eq_true, Qi, Qm, Qs, Q8, Zh, Ql, Qt, Qv, Qa, decide_true, decide_false, true_and, and_true, and_self, false_and, and_false, forall_const, implies_true, Q4, Zc, Q7, beq_true, imp_self, Qf, Qp, Qy, Qat, Qa7, eI]
      exact hcon
     ·have hpos : (0 : Int) < i := by omega
      obtain ⟨y, hy⟩ : ∃ y, w.among[i - 1]? = some y := ⟨_, Q0 (by omega)⟩
      have hyd : w.among[i - 1]?.getD 0 = y := by rw [hy]; rfl
      have e1 : ((i : Int) - 1).toNat = i - 1 := by omega
      have e2 : (0 : Int) ≤ (i : Int) - 1 ∧ (i : Int) - 1 < w.among.length := by omega
      rw [hyd] at fin con
      by_cases hxy : x ≤ y
      ·simp only [hx, hlt, h3, g1, hgx, hpos, e1, e2, hy, hxy, Qad, Qa9, Qbr, Qa8, Qab, Qac, Qaf, Qa4, Qb9, Qae, Qai, Qa5, Qa2, Fam.step, Qag, Qau, Qap, ug, runX, eff, Qb7, fpR, fpQ, fpV, Qc3, hits, evO, opv, qv, Qah, binV, ldV, iadV, lenV, Qao, Qaa, Qa6, flat, kp, Qa1, Qa0, Qa3, ↓reduceIte, Nat.reduceEqDiff, Nat.reduceAdd, Nat.reduceLT, Nat.reduceLeDiff, Qb, Qe, Qr, Qq, Qc, Qd, Qg, Qk, Qw, Q9, Qh, Q6, Q3, Qj, Q5, Qn, Za, Qz, Zb, endQ, rvs, rv1, resV, vw_i, vw_b, Qal, Qas, Q2, beq_self_eq_true, Qi, V.b.injEq, Qm, Qs, Q8, Ql, Qt, Qv, Qa, Qo, decide_true, true_and, and_self, forall_const, implies_true, Q4, Zc, Q7, Qf, Q1, Qp, Qy, Qat, Qa7, eI]
       exact (fin (by simp [hi0]; intro _; omega)).symm
      ·simp only [hx, hlt, h3, g1, hgx, hpos, e1, e2, hy, hxy, Zg, Zf, Qad, Qa9, Qbr, Qa8, Qab, Qac, Qa4, Qb9, Qae, Qai, Qa5, Qa2, Fam.step, Qag, Qau, Qap, ug, runX, eff, Qb7, fpR, fpQ, fpV, Qc3, hits, evO, opv, qv, Qah, binV, ldV, iadV, lenV, Qao, Qaa, Qa6, flat, kp, Qa1, Qa0, Qa3, ↓reduceIte, Nat.reduceEqDiff, Nat.reduceAdd, Nat.reduceLT, Nat.reduceLeDiff, Qb, Qe, Qr, Qq, Qc, Qd, Qg, Qk, Qw, Q9, Qh, Q6, Q3, Qj, Q5, Qn, Za, Qz, Zb, vw_i, Qal, Qas, Q2, beq_self_eq_true, Qi, Qm, Qs, Q8, Ql, Qt, Qv, Qa, Qo, decide_true, decide_false, true_and, and_true, and_self, forall_const, implies_true, Q4, Zc, Q7, Qf, Q1, Qp, Qy, Qat, Qa7, eI]
       exact con (by simp [hgx]; right; omega)
    ·simp only [hx, hlt, h3, g1, hgx, Qad, Qa9, Qbr, Qa8, Qab, Qac, Qaf, Qa4, Qb9, Qae, Qai, Qa5, Qa2, Fam.step, Qag, Qau, Qap, ug, runX, eff, Qb7, fpR, fpQ, fpV, Qc3, hits, evO, opv, qv, Qe9, binV, ldV, iadV, lenV, Qao, Qaa, Qa6, flat, kp, Qa1, Qa0, Qa3, ↓reduceIte, Nat.reduceEqDiff, Nat.reduceAdd, Nat.reduceLT, Nat.reduceLeDiff, Qb, Qe, Qr, Qq, Qc, Qd, Qg, Qk, Qw, Q9, Qh, Q6, Q3, Qj, Q5, Qn, Za, Qz, Zb, endQ, rvs, rv1, resV, vw_i, vw_b, Qal, Qas, Q2, Qi, V.b.injEq, Qm, Qs, Q8, Ql, Qt, Qv, Qa, Qo, decide_true, decide_eq_true_eq, decide_eq_false_iff_not, true_and, and_true, and_self, false_and, forall_const, implies_true, Q4, Zc, Q7, beq_true, beq_false, imp_self, Qf, Q1, Qp, Qy, Qat, Qa7, eI]
     exact (fin (by simp [hgx])).symm
   ·intro hc
    have ha : Qbk s.guests w = true := by
     rw [ew]; unfold Qfi
     rw [Zz]
     intro i hi
     exact hc i (Zm.1 hi)
    have hlt : ¬ ((w.among.length : Int) < w.among.length) := by omega
    simp only [hlt, ha, Qa9, Qa8, Qab, Qb1, Qaf, Qa4, Qae, Qai, Qa5, Qa2, Fam.step, Qag, evO, opv, qv, binV, ldV, lenV, Qa1, Qa0, Qa3, ↓reduceIte, Nat.reduceEqDiff, Nat.reduceLeDiff, Qb, Qe, Qc, Qd, Qg, Qk, Qh, endQ, rvs, rv1, resV, vw_b, Qi, Qa, decide_false, and_self, Qf, Qat, Qa7]
  ·simp only [rc65, rs65, g1, hg, k2, hl, ho0, ho', Qad, Qa9, Qa8, Qab, Qac, Qa4, Qae, Qa5, Qa2, Fam.step, Qag, Qau, Qap, ug, evO, opv, qv, Qah, binV, ldV, lenV, Qao, V.cells, Qar, Qaa, Qa6, flat, Qa1, Qa0, Qa3, ↓reduceIte, Nat.reduceEqDiff, Nat.reduceAdd, Nat.reduceLT, Nat.reduceLeDiff, Int.reduceEq, Qb, Qe, Qr, Qq, Qc, Qd, Qg, Qk, Qw, Q9, Qh, Qj, vw_i, Qal, Qas, zipA, beq_self_eq_true, Qi, Qm, Ql, Qt, Qv, Qa, Qo, decide_true, decide_false, true_and, and_self, forall_const, implies_true, reduceCtorEq, Qf, Qat, Qa7]
   refine Qbh w.among.length (fun i => ⟨lkp [(2, .pa (Qa7 s)), (3, .pa (Qat w)), (5, .i i)], []⟩) (fun i => ∀ j : Nat, j < i → (Qaq s.guests (w.among[j]?.getD 0) && (decide (j = 0) || decide (w.among[j - 1]?.getD 0 < w.among[j]?.getD 0))) = true) ?_ ?_ ?_ ?_
   ·simp only [Ze, k2, ho0, kp, Qa0, Qa3, ↓reduceIte, Nat.reduceEqDiff, Qb, Qe, Qat, Qa7]
   ·intro j hj; omega
   ·intro i hi hc
    obtain ⟨x, hx⟩ : ∃ x, w.among[i]? = some x := ⟨_, Q0 hi⟩
    have hlt : (i : Int) < w.among.length := by omega
    have h3 : inI ((i : Int) + 1) ∧ inI ((i : Int) - 1) := by unfold inI; omega
    have hgd : w.among[i]?.getD 0 = x := by rw [hx]; rfl
    have fin : (Qaq s.guests x && (decide (i = 0) || decide (w.among[i - 1]?.getD 0 < x))) = false → Qbk s.guests w = false := fun e => by
     rw [ew]; unfold Qfi
     rw [Zu]
     exact ⟨i, Zm.2 hi, by rw [hgd, e]; simp⟩
    have con : (Qaq s.guests x && (decide (i = 0) || decide (w.among[i - 1]?.getD 0 < x))) = true → ∀ j : Nat, j < i + 1 → (Qaq s.guests (w.among[j]?.getD 0) && (decide (j = 0) || decide (w.among[j - 1]?.getD 0 < w.among[j]?.getD 0))) = true := fun e j hj => by
     by_cases hji : j < i
     ·exact hc j hji
     ·have : j = i := by omega
      subst this
      rw [hgd]; exact e
    by_cases hgx : Qaq s.guests x = true
    ·by_cases hi0 : i = 0
     ·subst hi0
      have hlt0 : (0 : Int) < w.among.length := by omega
      have i10 : inI 1 := by unfold inI; omega
      have hcon := con (by simp [hgx])
      rw [Qi] at hcon
      simp only [hx, hlt0, g1, hgx, Ze, i10, Zf, Qad, Qa9, Qbr, Qa8, Qab, Qac, Qa4, Qb9, Qae, Qai, Qa5, Qa2, Fam.step, Qag, Qau, Qap, ug, runX, eff, Qb7, fpR, fpQ, fpV, Qc3, hits, evO, opv, qv, Qah, binV, ldV, iadV, lenV, Qao, Qaa, Qa6, flat, kp, Qa1, Qa0, Qa3, ↓reduceIte, Nat.reduceEqDiff, Nat.reduceAdd, Nat.reduceLT, Nat.reduceLeDiff, Int.reduceNeg, Int.reduceToNat, Zi, Int.reduceLE, Int.reduceAdd, Int.reduceSub, Qb, Qe, Qr, Qq, Qc, Qd, Qg, Qk, Qw, Q9, Qh, Q6, Q3, Qj, Q5, Qn, Za, Qz, Zb, vw_i, Qal, Qas, Int.lt_irrefl, beq_self_eq_true, Qi, Qm, Qs, Q8, Zh, Ql, Qt, Qv, Qa, decide_true, decide_false, true_and, and_true, and_self, false_and, and_false, forall_const, implies_true, Q4, Zc, Q7, beq_true, imp_self, Qf, Qp, Qy, Qat, Qa7, eI]
      exact hcon
     ·have hpos : (0 : Int) < i := by omega
      obtain ⟨y, hy⟩ : ∃ y, w.among[i - 1]? = some y := ⟨_, Q0 (by omega)⟩
      have hyd : w.among[i - 1]?.getD 0 = y := by rw [hy]; rfl
      have e1 : ((i : Int) - 1).toNat = i - 1 := by omega
      have e2 : (0 : Int) ≤ (i : Int) - 1 ∧ (i : Int) - 1 < w.among.length := by omega
      rw [hyd] at fin con
      by_cases hxy : x ≤ y
      ·simp only [hx, hlt, h3, g1, hgx, hpos, e1, e2, hy, hxy, Qad, Qa9, Qbr, Qa8, Qab, Qac, Qaf, Qa4, Qb9, Qae, Qai, Qa5, Qa2, Fam.step, Qag, Qau, Qap, ug, runX, eff, Qb7, fpR, fpQ, fpV, Qc3, hits, evO, opv, qv, Qah, binV, ldV, iadV, lenV, Qao, Qaa, Qa6, flat, kp, Qa1, Qa0, Qa3, ↓reduceIte, Nat.reduceEqDiff, Nat.reduceAdd, Nat.reduceLT, Nat.reduceLeDiff, Qb, Qe, Qr, Qq, Qc, Qd, Qg, Qk, Qw, Q9, Qh, Q6, Q3, Qj, Q5, Qn, Za, Qz, Zb, endQ, rvs, rv1, resV, vw_i, vw_b, Qal, Qas, Q2, beq_self_eq_true, Qi, V.b.injEq, Qm, Qs, Q8, Ql, Qt, Qv, Qa, Qo, decide_true, true_and, and_self, forall_const, implies_true, Q4, Zc, Q7, Qf, Q1, Qp, Qy, Qat, Qa7, eI]
       exact (fin (by simp [hi0]; intro _; omega)).symm
      ·simp only [hx, hlt, h3, g1, hgx, hpos, e1, e2, hy, hxy, Zg, Zf, Qad, Qa9, Qbr, Qa8, Qab, Qac, Qa4, Qb9, Qae, Qai, Qa5, Qa2, Fam.step, Qag, Qau, Qap, ug, runX, eff, Qb7, fpR, fpQ, fpV, Qc3, hits, evO, opv, qv, Qah, binV, ldV, iadV, lenV, Qao, Qaa, Qa6, flat, kp, Qa1, Qa0, Qa3, ↓reduceIte, Nat.reduceEqDiff, Nat.reduceAdd, Nat.reduceLT, Nat.reduceLeDiff, Qb, Qe, Qr, Qq, Qc, Qd, Qg, Qk, Qw, Q9, Qh, Q6, Q3, Qj, Q5, Qn, Za, Qz, Zb, vw_i, Qal, Qas, Q2, beq_self_eq_true, Qi, Qm, Qs, Q8, Ql, Qt, Qv, Qa, Qo, decide_true, decide_false, true_and, and_true, and_self, forall_const, implies_true, Q4, Zc, Q7, Qf, Q1, Qp, Qy, Qat, Qa7, eI]
       exact con (by simp [hgx]; right; omega)
    ·simp only [hx, hlt, h3, g1, hgx, Qad, Qa9, Qbr, Qa8, Qab, Qac, Qaf, Qa4, Qb9, Qae, Qai, Qa5, Qa2, Fam.step, Qag, Qau, Qap, ug, runX, eff, Qb7, fpR, fpQ, fpV, Qc3, hits, evO, opv, qv, Qe9, binV, ldV, iadV, lenV, Qao, Qaa, Qa6, flat, kp, Qa1, Qa0, Qa3, ↓reduceIte, Nat.reduceEqDiff, Nat.reduceAdd, Nat.reduceLT, Nat.reduceLeDiff, Qb, Qe, Qr, Qq, Qc, Qd, Qg, Qk, Qw, Q9, Qh, Q6, Q3, Qj, Q5, Qn, Za, Qz, Zb, endQ, rvs, rv1, resV, vw_i, vw_b, Qal, Qas, Q2, Qi, V.b.injEq, Qm, Qs, Q8, Ql, Qt, Qv, Qa, Qo, decide_true, decide_eq_true_eq, decide_eq_false_iff_not, true_and, and_true, and_self, false_and, forall_const, implies_true, Q4, Zc, Q7, beq_true, beq_false, imp_self, Qf, Q1, Qp, Qy, Qat, Qa7, eI]
     exact (fin (by simp [hgx])).symm
   ·intro hc
    have ha : Qbk s.guests w = true := by
     rw [ew]; unfold Qfi
     rw [Zz]
     intro i hi
     exact hc i (Zm.1 hi)
    have hlt : ¬ ((w.among.length : Int) < w.among.length) := by omega
    simp only [hlt, ha, Qa9, Qa8, Qab, Qb1, Qaf, Qa4, Qae, Qai, Qa5, Qa2, Fam.step, Qag, evO, opv, qv, binV, ldV, lenV, Qa1, Qa0, Qa3, ↓reduceIte, Nat.reduceEqDiff, Nat.reduceLeDiff, Qb, Qe, Qc, Qd, Qg, Qk, Qh, endQ, rvs, rv1, resV, vw_b, Qi, Qa, decide_false, and_self, Qf, Qat, Qa7]
end Go.C10
set_option linter.unusedSimpArgs false
set_option linter.unusedVariables false
namespace Go.C10
open Go.Fam Go.Proofs
variable {Γ : Gam}
def e65 (a : Stand × Word) : List V := [.ag (Qa7 a.1), .ag (Qat a.2)]
def d65 : List V → Stand × Word | [.ag x0, .ag x1] => (Qb3 x0, Qei x1) | _ => (Qb3 [], Qei [])
theorem Qx2 (a : Stand × Word) : d65 (e65 a) = a := by simp [d65, e65, Qbl, Qem]
noncomputable def HN1 : Gam := HM3.ext 65 (fnG e65 d65 (fun a => (fun (s : Stand) (w : Word) => w.among.length ≤ 1000000) a.1 a.2) (fun a => (fun (s : Stand) (w : Word) => Qbk s.guests w) a.1 a.2) .b)
theorem Qvo : GOk Try.prog HN1 := Qvn.ext (f := 65) (fun a w => Try.call65 a w) (Qb2 (e := e65) (d := d65) (ok := (fun a => (fun (s : Stand) (w : Word) => w.among.length ≤ 1000000) a.1 a.2)) (g := (fun a => (fun (s : Stand) (w : Word) => Qbk s.guests w) a.1 a.2)) (eb := .b) fun a h => W65 a.1 a.2 h)
theorem h65 (s : Stand) (w : Word) : HN1 65 [.ag (Qa7 s), .ag (Qat w)] = (w.among.length ≤ 1000000, .b (Qbk s.guests w)) :=
 (show HN1 65 _ = fnG e65 d65 (fun a => (fun (s : Stand) (w : Word) => w.among.length ≤ 1000000) a.1 a.2) (fun a => (fun (s : Stand) (w : Word) => Qbk s.guests w) a.1 a.2) .b (e65 (s, w)) from rfl).trans (Qb4 _ (Qx2 _))
theorem W36 (s : Stand) (h : Qb0 s) : Qak Try.prog 36 [.ag (Qa7 s)] (.i (Qba s)) := by
 refine Qaj Qvo hmix Try.func36 cb36 cc36 cs36 cn36 ?_
 by_cases hg : Qbd s.guests 0 7 = true
 rotate_left
 ·have e : Qba s = 100 := by unfold Qba; rw [if_pos (by simp [hg])]
  unfold Qbd at hg
  simp only [Zo, decide_eq_true_eq, not_and] at hg
  by_cases h1 : s.guests < 0
  ·simp only [rc36, rs36, h1, e, Qa9, Qa8, Qab, Qaf, Qa4, Qae, Qa5, Qa2, Fam.step, Qag, Qau, Qap, ug, evO, opv, qv, Qah, binV, ldV, V.cells, Qar, Qaa, Qa6, Qa1, Qa0, Qa3, ↓reduceIte, Nat.reduceEqDiff, Nat.reduceAdd, Nat.reduceLeDiff, Qb, Qe, Qr, Qq, Qc, Qd, Qg, Qk, Qh, endQ, rvs, rv1, resV, vw_i, Qal, Qas, zipA, Qi, Qm, Qs, Ql, Qt, Qa, Qo, decide_true, and_true, and_self, forall_const, implies_true, beq_false, imp_self, Qa7]
  ·have h2 : 7 < s.guests := by have := hg (by omega); omega
   simp only [rc36, rs36, h1, h2, e, Qa9, Qa8, Qab, Qaf, Qa4, Qae, Qa5, Qa2, Fam.step, Qag, Qau, Qap, ug, evO, opv, qv, Qah, binV, ldV, V.cells, Qar, Qaa, Qa6, Qa1, Qa0, Qa3, ↓reduceIte, Nat.reduceEqDiff, Nat.reduceAdd, Nat.reduceLeDiff, Qb, Qe, Qr, Qq, Qc, Qd, Qg, Qk, Qh, endQ, rvs, rv1, resV, vw_i, Qal, Qas, zipA, beq_self_eq_true, Qi, Qm, Qs, Ql, Qt, Qa, Qo, decide_true, decide_false, and_true, and_self, forall_const, implies_true, beq_false, imp_self, Qa7]
 have hg2 : ¬ s.guests < 0 ∧ ¬ 7 < s.guests := by
  unfold Qbd at hg
  simp only [Zo, decide_eq_true_eq] at hg; omega
 by_cases hw : Qbd s.wrong 0 7 = true
 rotate_left
 ·have e : Qba s = 100 := by unfold Qba; rw [if_pos (by simp [hw])]
  unfold Qbd at hw
  simp only [Zo, decide_eq_true_eq, not_and] at hw
  by_cases h1 : s.wrong < 0
  ·simp only [rc36, rs36, hg2, h1, e, Qa9, Qa8, Qab, Qaf, Qa4, Qae, Qa5, Qa2, Fam.step, Qag, Qau, Qap, ug, evO, opv, qv, Qah, binV, ldV, V.cells, Qar, Qaa, Qa6, Qa1, Qa0, Qa3, ↓reduceIte, Nat.reduceEqDiff, Nat.reduceAdd, Nat.reduceLeDiff, Qb, Qe, Qr, Qq, Qc, Qd, Qg, Qk, Qh, endQ, rvs, rv1, resV, vw_i, Qal, Qas, zipA, beq_self_eq_true, Qi, Qm, Qs, Ql, Qt, Qa, Qo, decide_true, decide_false, and_true, and_self, forall_const, implies_true, beq_false, imp_self, Qa7]
  ·have h2 : 7 < s.wrong := by have := hw (by omega); omega
   simp only [rc36, rs36, hg2, h1, h2, e, Qa9, Qa8, Qab, Qaf, Qa4, Qae, Qa5, Qa2, Fam.step, Qag, Qau, Qap, ug, evO, opv, qv, Qah, binV, ldV, V.cells, Qar, Qaa, Qa6, Qa1, Qa0, Qa3, ↓reduceIte, Nat.reduceEqDiff, Nat.reduceAdd, Nat.reduceLeDiff, Qb, Qe, Qr, Qq, Qc, Qd, Qg, Qk, Qh, endQ, rvs, rv1, resV, vw_i, Qal, Qas, zipA, beq_self_eq_true, Qi, Qm, Ql, Qa, decide_true, decide_false, and_self, forall_const, implies_true, Qa7]
 have hw2 : ¬ s.wrong < 0 ∧ ¬ 7 < s.wrong := by
  unfold Qbd at hw
  simp only [Zo, decide_eq_true_eq] at hw; omega
 by_cases h20 : (20 : Int) < s.words.length
 ·have e : Qba s = 101 := by unfold Qba; rw [if_neg (by simp [hg, hw]), if_pos (.inl (by omega))]
  simp only [rc36, rs36, hg2, hw2, h20, e, Qad, Qa9, Qa8, Qab, Qaf, Qa4, Qae, Qa5, Qa2, Fam.step, Qag, Qau, Qap, ug, evO, opv, qv, Qah, binV, ldV, lenV, V.cells, Qar, Qaa, Qa6, Qa1, Qa0, Qa3, ↓reduceIte, Nat.reduceEqDiff, Nat.reduceAdd, Nat.reduceLeDiff, Qb, Qe, Qr, Qq, Qc, Qd, Qg, Qk, Qh, endQ, rvs, rv1, resV, vw_i, Qal, Qas, zipA, beq_self_eq_true, Qi, Qm, Ql, Qa, decide_true, decide_false, and_self, forall_const, implies_true, Qf, Qa7]
 ·simp only [rc36, rs36, hg2, hw2, h20, Qad, Qa9, Qa8, Qab, Qac, Qa4, Qae, Qa5, Qa2, Fam.step, Qag, Qau, Qap, ug, evO, opv, qv, Qah, binV, ldV, lenV, V.cells, Qar, Qaa, Qa6, Qa1, Qa0, Qa3, ↓reduceIte, Nat.reduceEqDiff, Nat.reduceAdd, Nat.reduceLeDiff, Qb, Qe, Qr, Qq, Qc, Qd, Qg, Qk, Qh, vw_i, Qal, Qas, zipA, beq_self_eq_true, Qi, Qm, Ql, Qa, decide_false, true_and, and_self, forall_const, implies_true, Qf, Qa7]
  have hck : Qba s = if (s.words.any fun w => !Qbk s.guests w) = true then 101 else 0 := by
   unfold Qba
   rw [if_neg (by simp [hg, hw])]
   have : ¬ 20 < s.words.length := by omega
   simp only [this, false_or]
  refine Qbh s.words.length (fun i => ⟨lkp [(1, .pa (Qa7 s)), (3, .i i)], []⟩) (fun i => ∀ j w, j < i → s.words[j]? = some w → Qbk s.guests w = true) ?_ ?_ ?_ ?_
  ·simp only [Ze, kp, Qa0, Qa3, ↓reduceIte, Nat.reduceEqDiff, Qb, Qe, Qa7]
  ·intro j w hj; omega
  ·intro i hi hc
   obtain ⟨w, hw⟩ : ∃ x, s.words[i]? = some x := ⟨_, Q0 hi⟩
   have hlt : (i : Int) < s.words.length := by omega
   have h3 : inI ((i : Int) + 1) := by unfold inI; omega
   have g1 := h65 s w
   simp only [Qa7, Qat] at g1
   have hs := h w (Zj hw)
   by_cases e : Qbk s.guests w = true
   ·simp only [hw, hlt, h3, g1, hs, e, Zg, Zf, Qad, Qa9, Qbr, Qa8, Qab, Qac, Qa4, Qb9, Qae, Qai, Qa5, Qa2, Fam.step, Qag, runX, eff, Qb7, fpR, fpQ, fpV, Qc3, hits, evO, opv, qv, binV, ldV, iadV, lenV, Qao, Qaa, Qa6, flat, kp, Qa1, Qa0, Qa3, ↓reduceIte, Nat.reduceEqDiff, Nat.reduceAdd, Nat.reduceLT, Nat.reduceLeDiff, Qb, Qe, Qq, Qc, Qd, Qg, Qk, Qw, Q9, Qh, Q6, Q3, Qj, Q5, Qn, Za, Qz, Zb, vw_i, Qal, Qas, Q2, Qi, Qm, Qs, Q8, Ql, Qt, Qv, Qa, decide_true, true_and, and_true, and_self, implies_true, Q4, Zc, Q7, Qf, Q1, Qp, Qy, Qat, Qa7]
    intro j w' hj hjw
    by_cases hji : j < i
    ·exact hc j w' hji hjw
    ·have : j = i := by omega
     subst this
     rw [hw] at hjw; cases hjw; exact e
   ·have he : Qba s = 101 := by
     rw [hck, if_pos]
     rw [Zp]
     exact ⟨w, Zj hw, by simp [e]⟩
    simp only [hw, hlt, g1, hs, e, he, Qad, Qa9, Qbr, Qa8, Qab, Qac, Qaf, Qa4, Qb9, Qae, Qai, Qa5, Qa2, Fam.step, Qag, runX, eff, Qb7, fpR, fpQ, fpV, Qc3, hits, evO, opv, qv, binV, ldV, iadV, lenV, Qao, Qaa, Qa6, flat, kp, Qa1, Qa0, Qa3, ↓reduceIte, Nat.reduceEqDiff, Nat.reduceAdd, Nat.reduceLT, Nat.reduceLeDiff, Qb, Qe, Qq, Qc, Qd, Qg, Qk, Qw, Q9, Qh, Q6, Q3, Qj, Q5, Qn, Za, Qz, Zb, endQ, rvs, rv1, resV, vw_i, Qal, Qas, Q2, Qi, Qm, Qs, Q8, Ql, Qt, Qv, Qa, decide_true, and_self, implies_true, Q4, Zc, Q7, Qf, Q1, Qp, Qy, Qat, Qa7]
  ·intro hc
   have hlt : ¬ ((s.words.length : Int) < s.words.length) := by omega
   have he : Qba s = 0 := by
    rw [hck, if_neg]
    rw [Zp]
    rintro ⟨w, hw, e⟩
    obtain ⟨j, hj⟩ := Zl hw
    rw [hc j w (Qam hj) hj] at e
    cases e
   simp only [hlt, he, Qa9, Qa8, Qab, Qb1, Qaf, Qa4, Qae, Qai, Qa5, Qa2, Fam.step, Qag, evO, opv, qv, binV, ldV, lenV, Qa1, Qa0, Qa3, ↓reduceIte, Nat.reduceEqDiff, Nat.reduceAdd, Nat.reduceLeDiff, Qb, Qe, Qc, Qd, Qg, Qk, Qh, endQ, rvs, rv1, resV, vw_i, Qi, Qa, decide_false, and_self, Qf, Qa7]
def e36 (a : Stand) : List V := [.ag (Qa7 a)]
def d36 : List V → Stand | [.ag x0] => (Qb3 x0) | _ => (Qb3 [])
theorem Qwp (a : Stand) : d36 (e36 a) = a := by simp [d36, e36, Qbl]
noncomputable def HN2 : Gam := HN1.ext 36 (fnG e36 d36 (fun a => (fun (s : Stand) => Qb0 s) a) (fun a => (fun (s : Stand) => Qba s) a) .i)
theorem Qvp : GOk Try.prog HN2 := Qvo.ext (f := 36) (fun a w => Try.call36 a w) (Qb2 (e := e36) (d := d36) (ok := (fun a => (fun (s : Stand) => Qb0 s) a)) (g := (fun a => (fun (s : Stand) => Qba s) a)) (eb := .i) fun a h => W36 a h)
theorem h36 (s : Stand) : HN2 36 [.ag (Qa7 s)] = (Qb0 s, .i (Qba s)) :=
 (show HN2 36 _ = fnG e36 d36 (fun a => (fun (s : Stand) => Qb0 s) a) (fun a => (fun (s : Stand) => Qba s) a) .i (e36 (s)) from rfl).trans (Qb4 _ (Qwp _))
def Qlf (s : Stand) : Bool := decide (60 < s.words.length) || s.words.any fun w => decide (60 < w.among.length)
def farB (s : Stand) : Bool := Qlf s || (decide (Qba s = 0) && decide (6 < s.guests))
theorem Qkg {s : Stand} (h : Qlf s = false) : Qb0 s ∧ s.words.length ≤ 60 := by
 unfold Qlf at h
 simp only [Zn, decide_eq_false_iff_not, Z4, decide_eq_true_eq] at h
 exact ⟨fun w hw => by have := h.2 w hw; omega, by omega⟩
theorem W35 (s : Stand) : Qak Try.prog 35 [.ag (Qa7 s)] (.b (farB s)) := by
 refine Qaj Qvp hmix Try.func35 cb35 cc35 cs35 cn35 ?_
 by_cases h60 : (60 : Int) < s.words.length
 ·have e : farB s = true := by
   unfold farB Qlf
   have : 60 < s.words.length := by omega
   simp [this]
  simp only [rc35, rs35, h60, e, Qa9, Qa8, Qab, Qaf, Qa4, Qae, Qa5, Qa2, Fam.step, Qag, evO, opv, qv, binV, ldV, lenV, V.cells, Qar, Qaa, Qa6, Qa1, Qa0, Qa3, ↓reduceIte, Nat.reduceEqDiff, Nat.reduceAdd, Nat.reduceLeDiff, Qb, Qe, Qc, Qd, Qg, Qk, Qh, endQ, rvs, rv1, resV, vw_i, vw_b, Qal, Qas, zipA, Qi, Ql, Qa, decide_true, and_self, Qf, Qa7]
 ·have h60' : ¬ 60 < s.words.length := by omega
  simp only [rc35, rs35, h60, Qad, Qa9, Qa8, Qab, Qac, Qa4, Qae, Qa5, Qa2, Fam.step, Qag, evO, opv, qv, binV, ldV, lenV, V.cells, Qar, Qaa, Qa6, Qa1, Qa0, Qa3, ↓reduceIte, Nat.reduceEqDiff, Nat.reduceAdd, Nat.reduceLeDiff, Qb, Qe, Qc, Qd, Qg, Qk, Qh, vw_i, Qal, Qas, zipA, Qi, Ql, Qa, decide_false, true_and, and_self, Qf, Qa7]
  refine Qbh s.words.length (fun i => ⟨lkp [(1, .pa (Qa7 s)), (3, .i i)], []⟩) (fun i => ∀ j w, j < i → s.words[j]? = some w → ¬ 60 < w.among.length) ?_ ?_ ?_ ?_
  ·simp only [Ze, kp, Qa0, Qa3, ↓reduceIte, Nat.reduceEqDiff, Qb, Qe, Qa7]
  ·intro j w hj; omega
  ·intro i hi hc
   obtain ⟨w, hw⟩ : ∃ x, s.words[i]? = some x := ⟨_, Q0 hi⟩
   have hlt : (i : Int) < s.words.length := by omega
   have h3 : inI ((i : Int) + 1) := by unfold inI; omega
   by_cases e : (60 : Int) < w.among.length
   ·have he : farB s = true := by
     unfold farB Qlf
     have : (s.words.any fun w => decide (60 < w.among.length)) = true := Zp.2 ⟨w, Zj hw, by simp; omega⟩
     simp [this]
    simp only [hw, hlt, e, he, Qad, Qa9, Qa8, Qab, Qac, Qaf, Qa4, Qae, Qai, Qa5, Qa2, Fam.step, Qag, evO, opv, qv, binV, ldV, iadV, lenV, kp, Qa1, Qa0, Qa3, ↓reduceIte, Nat.reduceEqDiff, Nat.reduceAdd, Nat.reduceLeDiff, Qb, Qe, Qc, Qd, Qg, Qk, Qh, Qn, endQ, rvs, rv1, resV, vw_b, Q2, Qi, Qa, decide_true, and_self, Q4, Qf, Q1, Qp, Qy, Qat, Qa7]
   ·simp only [hw, hlt, h3, e, Zg, Zf, Qad, Qa9, Qa8, Qab, Qac, Qa4, Qae, Qai, Qa5, Qa2, Fam.step, Qag, evO, opv, qv, binV, ldV, iadV, lenV, kp, Qa1, Qa0, Qa3, ↓reduceIte, Nat.reduceEqDiff, Nat.reduceAdd, Nat.reduceLeDiff, Qb, Qe, Qc, Qd, Qg, Qk, Qh, Qn, Q2, Qi, Qa, decide_true, decide_false, true_and, and_true, and_self, Q4, Qf, Q1, Qp, Qy, Qat, Qa7]
    intro j w' hj hjw
    by_cases hji : j < i
    ·exact hc j w' hji hjw
    ·have : j = i := by omega
     subst this
     rw [hw] at hjw; cases hjw; omega
  ·intro hc
   have hlt : ¬ ((s.words.length : Int) < s.words.length) := by omega
   have hlong : Qlf s = false := by
    unfold Qlf
    simp only [Zn, decide_eq_false_iff_not, Z4, decide_eq_true_eq]
    refine ⟨h60', fun w hw => ?_⟩
    obtain ⟨j, hj⟩ := Zl hw
    exact hc j w (Qam hj) hj
   obtain ⟨hs, _⟩ := Qkg hlong
   have g1 := h36 s
   simp only [Qa7] at g1
   by_cases h0 : Qba s = 0
   ·simp only [hlt, g1, hs, h0, farB, hlong, Qa9, Qa8, Qab, Qb1, Qaf, Qa4, Qae, Qai, Qa5, Qa2, Fam.step, Qag, Qau, Qap, ug, evO, opv, qv, Qah, binV, ldV, lenV, Qao, Qaa, Qa6, flat, Qa1, Qa0, Qa3, ↓reduceIte, Nat.reduceEqDiff, Nat.reduceAdd, Nat.reduceLT, Nat.reduceLeDiff, Qb, Qe, Qr, Qq, Qc, Qd, Qg, Qk, Qw, Q9, Qh, Qj, endQ, rvs, rv1, resV, vw_i, vw_b, Qal, Qas, beq_self_eq_true, Qi, Qm, Zr, Ql, Zy, Qa, Qo, decide_true, decide_false, and_self, forall_const, implies_true, Qf, Qa7]
   ·simp only [hlt, g1, hs, h0, farB, hlong, Qa9, Qa8, Qab, Qb1, Qaf, Qa4, Qae, Qai, Qa5, Qa2, Fam.step, Qag, Qau, Qap, ug, evO, opv, qv, Qah, binV, ldV, lenV, Qao, Qaa, Qa6, flat, Qa1, Qa0, Qa3, ↓reduceIte, Nat.reduceEqDiff, Nat.reduceAdd, Nat.reduceLT, Nat.reduceLeDiff, Qb, Qe, Qr, Qq, Qc, Qd, Qg, Qk, Qw, Q9, Qh, Qj, endQ, rvs, rv1, resV, vw_i, vw_b, Qal, Qas, Qi, Qm, Qs, Q8, Ql, Qa, decide_false, and_true, and_self, forall_const, implies_true, beq_true, imp_self, Qf, Qa7]
def e35 (a : Stand) : List V := [.ag (Qa7 a)]
def d35 : List V → Stand | [.ag x0] => (Qb3 x0) | _ => (Qb3 [])
theorem Qwo (a : Stand) : d35 (e35 a) = a := by simp [d35, e35, Qbl]
noncomputable def HN3 : Gam := HN2.ext 35 (fnG e35 d35 (fun a => (fun (s : Stand) => True) a) (fun a => (fun (s : Stand) => farB s) a) .b)
theorem Qvq : GOk Try.prog HN3 := Qvp.ext (f := 35) (fun a w => Try.call35 a w) (Qb2 (e := e35) (d := d35) (ok := (fun a => (fun (s : Stand) => True) a)) (g := (fun a => (fun (s : Stand) => farB s) a)) (eb := .b) fun a h => W35 a)
theorem h35 (s : Stand) : HN3 35 [.ag (Qa7 s)] = (True, .b (farB s)) :=
 (show HN3 35 _ = fnG e35 d35 (fun a => (fun (s : Stand) => True) a) (fun a => (fun (s : Stand) => farB s) a) .b (e35 (s)) from rfl).trans (Qb4 _ (Qwo _))
theorem Qtu (s : Stand)  : HN3 36 [.ag (Qa7 s)] = (Qb0 s, .i (Qba s)) := h36 s
def Qi2 (s : Stand) : Bool := farB s || (decide (Qba s = 0) && decide (4 < s.guests))
theorem Qmv {s : Stand} (h : farB s = false) : Qlf s = false := by unfold farB at h; rw [Zn] at h; exact h.1
theorem W29 (s : Stand) : Qak Try.prog 29 [.ag (Qa7 s)] (.b (Qi2 s)) := by
 refine Qaj Qvq hmix Try.func29 cb29 cc29 cs29 cn29 ?_
 have g1 := h35 s
 have g2 := Qtu s
 simp only [Qa7] at g1 g2
 cases hf : farB s with
 | true => simp only [rc29, rs29, g1, g2, hf, Qi2, Qa9, Qa8, Qaf, Qa4, Qae, Qa5, Qa2, Fam.step, Qag, Qau, Qap, ug, evO, opv, qv, Qah, binV, ldV, Qao, V.cells, Qar, Qaa, Qa6, flat, Qa1, Qa0, Qa3, ↓reduceIte, Nat.reduceEqDiff, Nat.reduceAdd, Nat.reduceLT, Nat.reduceLeDiff, Qb, Qe, Qr, Qq, Qc, Qd, Qk, Qw, Q9, Qh, Qj, endQ, rvs, rv1, resV, vw_i, vw_b, Qal, Qas, zipA, Qi, Qm, Qs, Q8, Ql, Bool.true_or, Qt, Qa, Qo, decide_eq_true_eq, decide_eq_false_iff_not, true_and, and_true, and_self, false_and, forall_const, implies_true, beq_true, beq_false, Qo1, imp_self, Qa7]
 | false =>
  obtain ⟨hs, _⟩ := Qkg (Qmv hf)
  by_cases h0 : Qba s = 0 <;> simp only [rc29, rs29, g1, g2, hs, hf, h0, Qi2, Qa9, Qa8, Qaf, Qa4, Qae, Qa5, Qa2, Fam.step, Qag, Qau, Qap, ug, evO, opv, qv, Qah, binV, ldV, Qao, V.cells, Qar, Qaa, Qa6, flat, Qa1, Qa0, Qa3, ↓reduceIte, Nat.reduceEqDiff, Nat.reduceAdd, Nat.reduceLT, Nat.reduceLeDiff, Qb, Qe, Qr, Qq, Qc, Qd, Qk, Qw, Q9, Qh, Qj, endQ, rvs, rv1, resV, vw_i, vw_b, Qal, Qas, zipA, beq_self_eq_true, Qi, Qm, Qs, Zr, Q8, Zh, Ql, Zy, Qa, Qo, decide_true, decide_false, and_true, and_self, forall_const, implies_true, beq_true, imp_self, Qa7]
def e29 (a : Stand) : List V := [.ag (Qa7 a)]
def d29 : List V → Stand | [.ag x0] => (Qb3 x0) | _ => (Qb3 [])
theorem Qwn (a : Stand) : d29 (e29 a) = a := by simp [d29, e29, Qbl]
noncomputable def HN4 : Gam := HN3.ext 29 (fnG e29 d29 (fun a => (fun (s : Stand) => True) a) (fun a => (fun (s : Stand) => Qi2 s) a) .b)
theorem Qvr : GOk Try.prog HN4 := Qvq.ext (f := 29) (fun a w => Try.call29 a w) (Qb2 (e := e29) (d := d29) (ok := (fun a => (fun (s : Stand) => True) a)) (g := (fun a => (fun (s : Stand) => Qi2 s) a)) (eb := .b) fun a h => W29 a)
theorem h29 (s : Stand) : HN4 29 [.ag (Qa7 s)] = (True, .b (Qi2 s)) :=
 (show HN4 29 _ = fnG e29 d29 (fun a => (fun (s : Stand) => True) a) (fun a => (fun (s : Stand) => Qi2 s) a) .b (e29 (s)) from rfl).trans (Qb4 _ (Qwn _))
theorem Qtv (s : Stand)  : HN4 36 [.ag (Qa7 s)] = (Qb0 s, .i (Qba s)) := h36 s
def Qlm (s : Stand) : Bool := !Qi2 s && decide (Qba s = 0)
theorem Qqo {s : Stand} (h : Qi2 s = false) : farB s = false := by unfold Qi2 at h; rw [Zn] at h; exact h.1
theorem W14 (s : Stand) : Qak Try.prog 14 [.ag (Qa7 s)] (.b (Qlm s)) := by
 refine Qaj Qvr hmix Try.func14 cb14 cc14 cs14 cn14 ?_
 have g1 := h29 s
 have g2 := Qtv s
 simp only [Qa7] at g1 g2
 cases hf : Qi2 s with
 | true => simp only [rc14, rs14, g1, hf, Qlm, Qa9, Qa8, Qaf, Qa4, Qae, Qa5, Qa2, Fam.step, Qag, Qau, Qap, ug, evO, opv, qv, Qdl, binV, ldV, Qao, V.cells, Qar, Qaa, Qa6, flat, Qa1, Qa0, Qa3, ↓reduceIte, Nat.reduceEqDiff, Nat.reduceAdd, Nat.reduceLT, Nat.reduceLeDiff, Qb, Qe, Qr, Qq, Qc, Qd, Qw, Q9, Qj, endQ, rvs, rv1, resV, vw_i, vw_b, Qal, Qas, zipA, Qi, Qm, Qs, Q8, Ql, Qt, Qa, true_and, and_true, and_self, false_and, forall_const, false_implies, implies_true, beq_true, imp_self, Qa7]
 | false =>
  obtain ⟨hs, _⟩ := Qkg (Qmv (Qqo hf))
  by_cases h0 : Qba s = 0 <;> simp only [rc14, rs14, g1, g2, hs, hf, h0, Qlm, Qa9, Qa8, Qaf, Qa4, Qae, Qa5, Qa2, Fam.step, Qag, Qau, Qap, ug, evO, opv, qv, Qah, binV, ldV, Qao, V.cells, Qar, Qaa, Qa6, flat, Qa1, Qa0, Qa3, ↓reduceIte, Nat.reduceEqDiff, Nat.reduceAdd, Nat.reduceLT, Nat.reduceLeDiff, Qb, Qe, Qr, Qq, Qc, Qd, Qw, Q9, Qj, endQ, rvs, rv1, resV, vw_i, vw_b, Qal, Qas, zipA, beq_self_eq_true, Qi, Qm, Zh, Ql, Qv, Qa, Qo, decide_true, decide_false, and_self, forall_const, implies_true, Qa7]
def e14 (a : Stand) : List V := [.ag (Qa7 a)]
def d14 : List V → Stand | [.ag x0] => (Qb3 x0) | _ => (Qb3 [])
noncomputable def HN5 : Gam := HN4.ext 14 (fnG e14 d14 (fun a => (fun (s : Stand) => True) a) (fun a => (fun (s : Stand) => Qlm s) a) .b)
theorem Qvs : GOk Try.prog HN5 := Qvr.ext (f := 14) (fun a w => Try.call14 a w) (Qb2 (e := e14) (d := d14) (ok := (fun a => (fun (s : Stand) => True) a)) (g := (fun a => (fun (s : Stand) => Qlm s) a)) (eb := .b) fun a h => W14 a)
theorem Qtw (l : List Int) (n : Int)  : HN5 52 [.sl 1 (l.map eI), .i n] = (l.length ≤ 1000000, .b (decide (n ∈ l))) := h52 l n
theorem W43 (w : Word) (t : List Int) (h : OkSo w t.length) : Qak Try.prog 43 [.ag (Qat w), .sl 1 (t.map eI)] (.b (soB w t)) := by
 refine Qaj Qvs hmix Try.func43 cb43 cc43 cs43 cn43 ?_
 have g1 := fun n => Qtw w.among n
 simp only [rc43, rs43, Qa9, Qa8, Qac, Qa4, Qae, Qa5, Qa2, Fam.step, Qag, evO, opv, qv, binV, ldV, V.cells, Qar, Qaa, Qa6, Qa1, Qa0, Qa3, ↓reduceIte, Nat.reduceEqDiff, Nat.reduceAdd, Nat.reduceLeDiff, Qb, Qe, Qc, Qd, Qk, Qh, vw_i, Qal, Qas, zipA, Qi, Ql, Qa, true_and, and_self, reduceCtorEq, Qat]
 obtain ⟨⟨a1, a2⟩, ⟨b1, b2⟩, hl⟩ := h
 obtain ⟨x, hx⟩ : ∃ x, t[w.guest.toNat]? = some x := ⟨_, Q0 (by omega)⟩
 obtain ⟨y, hy⟩ : ∃ x, t[w.other.toNat]? = some x := ⟨_, Q0 (by omega)⟩
 have ex : atN t w.guest = x := by unfold atN; rw [hx]; rfl
 have ey : atN t w.other = y := by unfold atN; rw [hy]; rfl
 by_cases k1 : w.kind = 1
 ·simp only [k1, a1, a2, hx, g1, hl, soB, ex, Qbr, Qa8, Qab, Qaf, Qb9, Qae, Qai, Qag, runX, eff, Qb7, fpR, fpQ, fpV, Qc3, hits, evO, opv, qv, ldV, iadV, Qao, Qaa, Qa6, flat, Qa1, Qa0, ↓reduceIte, Nat.reduceEqDiff, Nat.reduceAdd, Nat.reduceLT, Nat.reduceLeDiff, Qb, Qe, Qq, Qc, Qd, Qg, Qk, Qh, Q6, Q3, Qj, Q5, Qn, Za, Qz, Zb, endQ, rvs, rv1, resV, vw_i, vw_b, Qal, Qi, Qm, Qs, Q8, Ql, Qt, Qv, Qa, decide_true, and_self, implies_true, Q4, Zc, Q7, Qf, Qp, Qy, eI]
 by_cases k2 : w.kind = 2
 ·simp only [k2, a1, a2, hx, g1, hl, soB, ex, Qa9, Qbr, Qa8, Qab, Qaf, Qa4, Qb9, Qae, Qai, Qa5, Qa2, Fam.step, Qag, runX, eff, Qb7, fpR, fpQ, fpV, Qc3, hits, evO, opv, qv, binV, ldV, iadV, Qao, Qaa, Qa6, flat, Qa1, Qa0, Qa3, ↓reduceIte, Nat.reduceEqDiff, Nat.reduceAdd, Nat.reduceLT, Nat.reduceLeDiff, Int.reduceEq, Qb, Qe, Qq, Qc, Qd, Qg, Qk, Qh, Q6, Q3, Qj, Q5, Qn, Za, Qz, Zb, endQ, rvs, rv1, resV, vw_i, vw_b, Qal, Qi, Qm, Qs, Q8, Ql, Qt, Qv, Qa, decide_true, decide_false, and_self, implies_true, Q4, Zc, Q7, Qf, Qp, Qy, eI]
 by_cases k3 : w.kind = 3
 ·by_cases e : x = w.other <;> simp only [k3, a1, a2, b1, b2, hx, hy, soB, ex, ey, e, Qa9, Qbr, Qa8, Qab, Qaf, Qa4, Qb9, Qae, Qai, Qa5, Qa2, Fam.step, Qag, Qau, Qap, ug, runX, eff, Qb7, fpR, fpQ, fpV, Qc3, hits, evO, opv, qv, Qah, binV, ldV, iadV, Qa1, Qa0, Qa3, ↓reduceIte, Nat.reduceEqDiff, Nat.reduceAdd, Nat.reduceLeDiff, Int.reduceEq, Qb, Qe, Qr, Qq, Qc, Qd, Qg, Qk, Qh, Q6, Q3, Qj, Q5, Qn, Za, Qz, Zb, endQ, rvs, rv1, resV, vw_b, beq_self_eq_true, Qi, Qm, Qs, Zr, Q8, Ql, Qt, Qv, Qa, Qo, decide_true, decide_false, and_true, and_self, forall_const, implies_true, Q4, Zc, Q7, beq_true, imp_self, Qf, Qp, Qy, eI]
 ·by_cases e : x = w.guest <;> simp only [k1, k2, k3, a1, a2, b1, b2, hx, hy, soB, ex, ey, e, Qad, Qa9, Qbr, Qa8, Qab, Qaf, Qa4, Qb9, Qae, Qai, Qa5, Qa2, Fam.step, Qag, Qau, Qap, ug, runX, eff, Qb7, fpR, fpQ, fpV, Qc3, hits, evO, opv, qv, Qah, binV, ldV, iadV, Qa1, Qa0, Qa3, ↓reduceIte, Nat.reduceEqDiff, Nat.reduceAdd, Nat.reduceLeDiff, Qb, Qe, Qr, Qq, Qc, Qd, Qg, Qk, Qh, Q6, Q3, Qj, Q5, Qn, Za, Qz, Zb, endQ, rvs, rv1, resV, vw_b, beq_self_eq_true, Qi, Qm, Qs, Q8, Ql, Zy, Bool.true_or, Qt, Qv, Qa, Qo, decide_true, decide_false, and_true, and_self, forall_const, implies_true, Q4, Zc, Q7, beq_false, imp_self, Qf, Qp, Qy, eI]
def e43 (a : Word × List Int) : List V := [.ag (Qat a.1), .sl 1 (a.2.map eI)]
def d43 : List V → Word × List Int | [.ag x0, .sl _ x1] => (Qei x0, x1.map dI) | _ => (Qei [], [])
noncomputable def HN6 : Gam := HN5.ext 43 (fnG e43 d43 (fun a => (fun (w : Word) (t : List Int) => OkSo w t.length) a.1 a.2) (fun a => (fun (w : Word) (t : List Int) => soB w t) a.1 a.2) .b)
theorem Qvt : GOk Try.prog HN6 := Qvs.ext (f := 43) (fun a w => Try.call43 a w) (Qb2 (e := e43) (d := d43) (ok := (fun a => (fun (w : Word) (t : List Int) => OkSo w t.length) a.1 a.2)) (g := (fun a => (fun (w : Word) (t : List Int) => soB w t) a.1 a.2)) (eb := .b) fun a h => W43 a.1 a.2 h)
theorem Qtx (l : List Int) (n : Int)  : HN6 52 [.sl 1 (l.map eI), .i n] = (l.length ≤ 1000000, .b (decide (n ∈ l))) := h52 l n
theorem W18 (t : List Int) (h : t.length ≤ 1000000) : Qak Try.prog 18 [.sl 1 (t.map eI)] (.b (takB t)) := by
 refine Qaj Qvt hmix Try.func18 cb18 cc18 cs18 cn18 ?_
 simp only [rc18, rs18, Qa9, Qa8, Qac, Qa4, Qae, Qa5, Qa2, Fam.step, Qag, evO, opv, qv, Qa1, Qa0, Qa3, ↓reduceIte, Qb, Qe, zipA, true_and, reduceCtorEq]
 refine Qbh t.length (fun i => ⟨lkp [(0, .sl 1 (t.map eI)), (3, .i i)], []⟩) (fun i => ∀ j : Nat, j < i → (Qbd (t[j]?.getD 0) 0 (t.length - 1) && !decide (t[j]?.getD 0 ∈ t.take j)) = true) ?_ ?_ ?_ ?_
 ·simp only [Ze, kp, Qa0, Qa3, ↓reduceIte, Qb, Qe, reduceCtorEq]
 ·intro j hj; omega
 ·intro i hi hc
  obtain ⟨x, hx⟩ : ∃ x, t[i]? = some x := ⟨_, Q0 hi⟩
  have hlt : (i : Int) < t.length := by omega
  have h3 : inI ((i : Int) + 1) := by unfold inI; omega
  have hle : (i : Int) ≤ t.length := by omega
  have g2 := Qtx (t.take i) x
  have htl : (t.take i).length ≤ 1000000 := by rw [List.length_take]; omega
  have hmt : List.take i (t.map eI) = (t.take i).map eI := by rw [List.map_take]
  have bad : (Qbd x 0 (t.length - 1) && !decide (x ∈ t.take i)) = false → takB t = false := fun e => by
   unfold takB
   rw [Z0]; right
   rw [Zu]
   exact ⟨i, Zm.2 hi, by rw [hx, Qn, e]; simp⟩
  have good : (Qbd x 0 (t.length - 1) && !decide (x ∈ t.take i)) = true → ∀ j : Nat, j < i + 1 → (Qbd (t[j]?.getD 0) 0 (t.length - 1) && !decide (t[j]?.getD 0 ∈ t.take j)) = true := fun e j hj => by
   by_cases hji : j < i
   ·exact hc j hji
   ·have : j = i := by omega
    subst this
    rw [hx, Qn]; exact e
  by_cases hx0 : x < 0
  ·simp only [hx, hlt, hle, hx0, Qad, Qa9, Qbr, Qa8, Qab, Qac, Qaf, Qa4, Qb9, Qae, Qai, Qa5, Qa2, Fam.step, Qag, Qau, Qap, ug, runX, eff, Qb7, fpR, fpQ, fpV, Qc3, hits, evO, opv, qv, Qah, Qe9, binV, ldV, iadV, lenV, slcV, Qgv, Qao, Qaa, Qa6, kp, Qa1, Qa0, Qa3, ↓reduceIte, Nat.reduceEqDiff, Nat.reduceLT, Nat.reduceLeDiff, Zi, Int.reduceLE, Qb, Qe, Qr, Qq, Qc, Qd, Qk, Qh, Q6, Q3, Qj, Q5, Qn, Za, Qz, Zb, endQ, rvs, rv1, resV, vw_i, vw_b, Qal, Q2, Qi, V.b.injEq, Qm, Qs, Q8, Ql, Qt, Qv, Qa, Qo, decide_true, true_and, and_true, and_self, false_and, forall_const, false_implies, implies_true, reduceCtorEq, Q4, Zs, Zc, Q7, beq_false, imp_self, Qf, Q1, Qp, Qy, eI]
   exact (bad (by unfold Qbd; simp; intro h5; omega)).symm
  ·by_cases hx1 : (t.length : Int) ≤ x
   ·simp only [hx, hlt, hle, hx0, hx1, Qad, Qa9, Qbr, Qa8, Qab, Qac, Qaf, Qa4, Qb9, Qae, Qai, Qa5, Qa2, Fam.step, Qag, Qau, Qap, ug, runX, eff, Qb7, fpR, fpQ, fpV, Qc3, hits, evO, opv, qv, Qah, Qe9, binV, ldV, iadV, lenV, slcV, Qgv, Qao, Qaa, Qa6, kp, Qa1, Qa0, Qa3, ↓reduceIte, Nat.reduceEqDiff, Nat.reduceLT, Nat.reduceLeDiff, Zi, Int.reduceLE, Qb, Qe, Qr, Qq, Qc, Qd, Qk, Qh, Q6, Q3, Qj, Q5, Qn, Za, Qz, Zb, endQ, rvs, rv1, resV, vw_i, vw_b, Qal, Q2, beq_self_eq_true, Qi, V.b.injEq, Qm, Qs, Q8, Ql, Qt, Qv, Qa, Qo, decide_true, decide_false, true_and, and_true, and_self, false_and, forall_const, false_implies, implies_true, reduceCtorEq, Q4, Zs, Zc, Q7, beq_false, imp_self, Qf, Q1, Qp, Qy, eI]
    exact (bad (by unfold Qbd; simp; intro; omega)).symm
   ·have hw : Qbd x 0 (t.length - 1) = true := by unfold Qbd; simp; omega
    by_cases hm : x ∈ t.take i
    ·simp only [hx, hlt, hle, hx0, hx1, g2, htl, hmt, hm, Qad, Qa9, Qbr, Qa8, Qab, Qac, Qaf, Qa4, Qb9, Qae, Qai, Qa5, Qa2, Fam.step, Qag, Qau, Qap, ug, runX, eff, Qb7, fpR, fpQ, fpV, Qc3, hits, evO, opv, qv, Qah, binV, ldV, iadV, lenV, slcV, Qgv, Qao, Qaa, Qa6, flat, kp, Qa1, Qa0, Qa3, ↓reduceIte, Nat.reduceEqDiff, Nat.reduceLT, Nat.reduceLeDiff, Zi, Int.reduceLE, Qb, Qe, Qr, Qq, Qc, Qd, Qk, Qh, Q6, Q3, Qj, Q5, Qn, Za, Qz, Zb, endQ, rvs, rv1, resV, vw_i, vw_b, Qal, Q2, beq_self_eq_true, Qi, V.b.injEq, Qm, Qs, Q8, Ql, Qt, Qv, Qa, decide_true, decide_false, true_and, and_self, forall_const, implies_true, reduceCtorEq, Q4, Zs, Zc, Q7, Qf, Q1, Qp, Qy, eI]
     exact (bad (by simp [hm])).symm
    ·simp only [hx, hlt, h3, hle, hx0, hx1, g2, htl, hmt, hm, Zg, Zf, Qad, Qa9, Qbr, Qa8, Qab, Qac, Qa4, Qb9, Qae, Qai, Qa5, Qa2, Fam.step, Qag, Qau, Qap, ug, runX, eff, Qb7, fpR, fpQ, fpV, Qc3, hits, evO, opv, qv, Qah, binV, ldV, iadV, lenV, slcV, Qgv, Qao, Qaa, Qa6, flat, kp, Qa1, Qa0, Qa3, ↓reduceIte, Nat.reduceEqDiff, Nat.reduceLT, Nat.reduceLeDiff, Zi, Int.reduceLE, Qb, Qe, Qr, Qq, Qc, Qd, Qk, Qh, Q6, Q3, Qj, Q5, Qn, Za, Qz, Zb, vw_i, Qal, Q2, beq_self_eq_true, Qi, Qm, Qs, Q8, Ql, Qt, Qv, Qa, decide_true, decide_false, true_and, and_true, and_self, forall_const, implies_true, reduceCtorEq, Q4, Zs, Zc, Q7, Qf, Q1, Qp, Qy, eI]
     exact good (by simp [hw, hm])
 ·intro hc
  have hlt : ¬ ((t.length : Int) < t.length) := by omega
  have e : takB t = decide (t.length ≤ 7) := by
   unfold takB
   have : ((List.range t.length).all fun i => Qbd (t[i]?.getD 0) 0 (t.length - 1) && !decide (t[i]?.getD 0 ∈ t.take i)) = true := by
    rw [Zz]
    exact fun i hi => hc i (Zm.1 hi)
   rw [this, Qs]
  simp only [hlt, e, Qa9, Qa8, Qab, Qb1, Qaf, Qa4, Qae, Qai, Qa5, Qa2, Fam.step, Qag, evO, opv, qv, binV, lenV, Qa1, Qa0, Qa3, ↓reduceIte, Nat.reduceEqDiff, Qb, Qe, endQ, rvs, rv1, resV, vw_b, V.b.injEq, Qa, decide_false, true_and, and_self, reduceCtorEq, Qf]
  rw [decide_eq_decide]; omega
def e18 (a : List Int) : List V := [.sl 1 (a.map eI)]
def d18 : List V → List Int | [.sl _ x0] => (x0.map dI) | _ => ([])
theorem Qwe (a : List Int) : d18 (e18 a) = a := by simp [d18, e18, Function.comp_def, Qcx]
noncomputable def HN7 : Gam := HN6.ext 18 (fnG e18 d18 (fun a => (fun (t : List Int) => t.length ≤ 1000000) a) (fun a => (fun (t : List Int) => takB t) a) .b)
theorem Qvu : GOk Try.prog HN7 := Qvt.ext (f := 18) (fun a w => Try.call18 a w) (Qb2 (e := e18) (d := d18) (ok := (fun a => (fun (t : List Int) => t.length ≤ 1000000) a)) (g := (fun a => (fun (t : List Int) => takB t) a)) (eb := .b) fun a h => W18 a h)
theorem h18 (t : List Int) : HN7 18 [.sl 1 (t.map eI)] = (t.length ≤ 1000000, .b (takB t)) :=
 (show HN7 18 _ = fnG e18 d18 (fun a => (fun (t : List Int) => t.length ≤ 1000000) a) (fun a => (fun (t : List Int) => takB t) a) .b (e18 (t)) from rfl).trans (Qb4 _ (Qwe _))
theorem W28 (l m : List Int) (h : l.length ≤ 1000000) : Qak Try.prog 28 [.sl 1 (l.map eI), .sl 1 (m.map eI)] (.b (decide (l = m))) := by
 refine Qaj Qvu hmix Try.func28 cb28 cc28 cs28 cn28 ?_
 simp only [rc28, rs28, Qad, Qa9, Qa8, Qab, Qix, Qac, Qaf, Qa4, Qae, Qa5, Qa2, Fam.step, Qag, evO, opv, qv, binV, lenV, Qa1, Qa0, Qa3, ↓reduceIte, Nat.reduceEqDiff, Qb, Qe, endQ, rvs, rv1, resV, vw_b, zipA, Qi, V.b.injEq, decide_eq_false_iff_not, true_and, and_self, reduceCtorEq, Bool.not_eq_true', Qf, Classical.not_not]
 refine ⟨fun h1 => ?_, fun h1 => ?_⟩
 ·have : ¬ l = m := fun e => by rw [e] at h1; omega
  simp only [this, decide_false]
 ·have hlm : l.length = m.length := by omega
  refine Qbh l.length (fun i => ⟨lkp [(0, .sl 1 (l.map eI)), (1, .sl 1 (m.map eI)), (5, .i i)], []⟩) (fun i => ∀ j : Nat, j < i → l[j]? = m[j]?) ?_ ?_ ?_ ?_
  ·simp only [Ze, kp, Qa0, Qa3, ↓reduceIte, Nat.reduceEqDiff, Qb, Qe, reduceCtorEq]
  ·intro j hj; omega
  ·intro i hi hc
   obtain ⟨n, hn⟩ : ∃ n, l[i]? = some n := ⟨_, Q0 hi⟩
   obtain ⟨n', hn'⟩ : ∃ n, m[i]? = some n := ⟨_, Q0 (by omega)⟩
   have hlt : (i : Int) < l.length := by omega
   have hlt2 : (i : Int) < m.length := by omega
   have h3 : inI ((i : Int) + 1) := by unfold inI; omega
   by_cases e : n = n'
   ·subst e
    simp only [hn, hn', hlt, hlt2, h3, Zg, Zf, Qad, Qa9, Qbr, Qa8, Qab, Qac, Qa4, Qb9, Qae, Qai, Qa5, Qa2, Fam.step, Qag, runX, eff, Qb7, fpR, fpQ, fpV, Qc3, hits, evO, opv, qv, binV, ldV, iadV, lenV, kp, Qa1, Qa0, Qa3, ↓reduceIte, Nat.reduceEqDiff, Nat.reduceLeDiff, Qb, Qe, Qq, Qc, Qd, Qh, Q6, Q3, Qj, Q5, Qn, Za, Qz, Zb, Q2, Qi, Qm, Qs, Q8, Ql, Qt, Qv, Qa, decide_true, true_and, and_true, and_self, reduceCtorEq, Q4, Zc, Q7, Qf, Q1, Qp, Qy, eI]
    intro j hj
    by_cases hji : j < i
    ·exact hc j hji
    ·have : j = i := by omega
     subst this
     rw [hn, hn']
   ·have : ¬ l = m := fun e2 => by rw [e2, hn'] at hn; exact e (Z2.inj hn).symm
    simp only [hn, hn', hlt, hlt2, e, this, Qad, Qa9, Qbr, Qa8, Qab, Qac, Qaf, Qa4, Qb9, Qae, Qai, Qa5, Qa2, Fam.step, Qag, runX, eff, Qb7, fpR, fpQ, fpV, Qc3, hits, evO, opv, qv, binV, ldV, iadV, lenV, kp, Qa1, Qa0, Qa3, ↓reduceIte, Nat.reduceEqDiff, Nat.reduceLeDiff, Qb, Qe, Qq, Qc, Qd, Qh, Q6, Q3, Qj, Q5, Qn, Za, Qz, Zb, endQ, rvs, rv1, resV, vw_b, Q2, Qi, Qm, Qs, Q8, Ql, Qt, Qv, Qa, decide_true, decide_false, and_self, reduceCtorEq, Q4, Zc, Q7, Qf, Q1, Qp, Qy, eI]
  ·intro hc
   have hlt : ¬ ((l.length : Int) < l.length) := by omega
   have e : l = m := by
    apply List.ext_getElem?
    intro j
    by_cases hj : j < l.length
    ·exact hc j hj
    ·rw [Z1 (by omega), Z1 (by omega)]
   subst e
   simp only [hlt, eq_self, Qa9, Qa8, Qab, Qb1, Qaf, Qa4, Qae, Qai, Qa5, Qa2, Fam.step, Qag, evO, opv, qv, binV, lenV, Qa1, Qa0, Qa3, ↓reduceIte, Nat.reduceEqDiff, Qb, Qe, endQ, rvs, rv1, resV, vw_b, Qa, decide_true, decide_false, and_self, reduceCtorEq, Qf]
def e28 (a : List Int × List Int) : List V := [.sl 1 (a.1.map eI), .sl 1 (a.2.map eI)]
def d28 : List V → List Int × List Int | [.sl _ x0, .sl _ x1] => (x0.map dI, x1.map dI) | _ => ([], [])
theorem Qwm (a : List Int × List Int) : d28 (e28 a) = a := by simp [d28, e28, Function.comp_def, Qcx]
noncomputable def HN8 : Gam := HN7.ext 28 (fnG e28 d28 (fun a => (fun (l : List Int) (m : List Int) => l.length ≤ 1000000) a.1 a.2) (fun a => (fun (l : List Int) (m : List Int) => decide (l = m)) a.1 a.2) .b)
theorem Qvv : GOk Try.prog HN8 := Qvu.ext (f := 28) (fun a w => Try.call28 a w) (Qb2 (e := e28) (d := d28) (ok := (fun a => (fun (l : List Int) (m : List Int) => l.length ≤ 1000000) a.1 a.2)) (g := (fun a => (fun (l : List Int) (m : List Int) => decide (l = m)) a.1 a.2)) (eb := .b) fun a h => W28 a.1 a.2 h)
theorem h28 (l : List Int) (m : List Int) : HN8 28 [.sl 1 (l.map eI), .sl 1 (m.map eI)] = (l.length ≤ 1000000, .b (decide (l = m))) :=
 (show HN8 28 _ = fnG e28 d28 (fun a => (fun (l : List Int) (m : List Int) => l.length ≤ 1000000) a.1 a.2) (fun a => (fun (l : List Int) (m : List Int) => decide (l = m)) a.1 a.2) .b (e28 (l, m)) from rfl).trans (Qb4 _ (Qwm _))
def exS0 : Stand := ⟨4, [⟨1, 0, 0, [1, 2]⟩, ⟨2, 3, 0, [3]⟩, ⟨4, 1, 2, []⟩], 0⟩
theorem W49 : Qak Try.prog 49 [] (.ag (Qa7 exS0)) := by
 refine Qaj Qvv hmix Try.func49 cb49 cc49 cs49 cn49 ?_
 simp only [rc49, rs49, exS0, Zv, Zq, Qa9, Qa8, Qaf, Qa4, Qd1, putB, Qae, Qa5, Qa2, Fam.step, Qag, Qck, Qb8, putB, nv, sv, evO, opv, qv, ldV, Qav, putAt, Qbf, Qb6, V.cells, Qar, Qbw, Qaa, Qa6, Qa1, Qc8, Qa0, Qa3, ↓reduceIte, Nat.reduceEqDiff, Nat.reduceAdd, Nat.reduceMul, Nat.reduceLeDiff, Qb, Qe, Qr, Qq, Qc, Qd, Qg, Qk, List.drop_nil, Qw, Zt, Q9, Q6, Q3, Qj, Qu, Zk, Qz, Z3, endQ, rvs, rv1, resV, vw_i, vw_z, Qal, Qas, zipA, Qi, Qm, Ql, true_and, and_self, reduceCtorEq, not_false_eq_true, ne_eq, Qat, Qa7, eI]
 rfl
noncomputable def HN9 : Gam := HN8.ext 49 fun vs => (vs = [], .ag (Qa7 exS0))
theorem Qvw : GOk Try.prog HN9 := Qvv.ext (f := 49) (fun a w => Try.call49 a w) fun vs h => by
 have e : vs = [] := h
 subst e
 exact W49
theorem h49 : HN9 49 [] = (True, .ag (Qa7 exS0)) := by
 refine (show HN9 49 [] = ((([] : List V) = []), V.ag (Qa7 exS0)) from rfl).trans ?_
 simp
theorem Qjn : Qb0 exS0 := by
 intro w hw
 simp [exS0] at hw
 rcases hw with rfl | rfl | rfl <;> simp
theorem Qhl : Qba exS0 = 0 := by decide
theorem Qdm : Qan exS0 = [[1, 3, 2, 0], [2, 1, 3, 0]] := by decide +kernel
theorem Qmt : Qbt exS0 [] = ([[1, 3, 2, 0], [2, 1, 3, 0]], 0) := by
 unfold Qbt
 rw [if_neg (by rw [Qhl]; simp), if_neg (by simp), Qdm]
 rfl
theorem Qmh {l : List (List Int)} {g n : Int} (h : ∀ t ∈ l, 0 ≤ atN t g ∧ atN t g ≤ n - 1) : Qct l g = (ints 0 (n - 1)).filter fun u => l.any fun t => decide (atN t g = u) := by
 have hd := Qkv (colN l g)
 refine Qjh hd.1 ?_ fun x => ?_
 ·refine List.Pairwise.filter _ ?_
  unfold ints
  rw [List.pairwise_map]
  refine List.Pairwise.imp ?_ List.pairwise_lt_range
  intro a b hab; omega
 ·unfold Qct
  rw [hd.2, List.mem_filter, Qhp, Zp]
  unfold colN
  rw [List.mem_map]
  constructor
  ·rintro ⟨t, ht, rfl⟩
   exact ⟨h t ht, t, ht, by simp⟩
  ·rintro ⟨_, t, ht, e⟩
   exact ⟨t, ht, by simpa using e⟩
theorem Qjo : ∀ g : Int, 0 ≤ g → g ≤ 3 → Qct (Qan exS0) g = (ints 0 3).filter fun u => (Qan exS0).any fun t => decide (atN t g = u) := fun g h1 h2 => by
 refine Qmh (n := 4) fun t ht => ?_
 have hS : OkS exS0 := Qhb Qhl Qjn
 have := (Qd6 (n := 4) (Qfe.1 ht).1 (x := g) (by omega)).2
 omega
theorem Qow : Qd8 exS0 = ([-1, -1, -1, 0], 0) := by
 unfold Qd8 Qd2
 rw [Qmt, if_pos rfl]
 have e : ints 0 (exS0.guests - 1) = [0, 1, 2, 3] := by decide
 rw [e]
 simp only [Qb, Qe]
 rw [Qjo 0 (by decide) (by decide), Qjo 1 (by decide) (by decide), Qjo 2 (by decide) (by decide), Qjo 3 (by decide) (by decide), Qdm]
 decide +kernel
theorem Qsb : Qic exS0 = (2, 0) := by
 unfold Qic
 rw [if_pos Qhl, Qdm]; rfl
theorem Qqn : (Qcj exS0).1 = 1 ∧ (Qcj exS0).2.2 = 0 := by
 have hS : OkS exS0 := Qhb Qhl Qjn
 have hT := Qdc hS
 have hne : Qan exS0 ≠ [] := by rw [Qdm]; simp
 obtain ⟨h1, h2⟩ := Qfu hT hne
 have c1 : canB 1 (Qan exS0) = true := by rw [Qdm]; decide +kernel
 have c0 : ¬ canB 0 (Qan exS0) = true := by rw [Qdm]; decide +kernel
 have hle := h2 1 c1
 have hge : Qef (Qan exS0) ≠ 0 := fun e => by rw [e] at h1; exact c0 h1
 have e1 : Qef (Qan exS0) = 1 := by omega
 unfold Qcj
 rw [Qmt, if_pos rfl]
 exact ⟨by show (Qef (Qan exS0) : Int) = 1; rw [e1]; rfl, rfl⟩
theorem Qsa : ((Qde [1, 2, 0, 3]).1.length, (Qde [1, 2, 0, 3]).2) = (2, 0) := by decide +kernel
theorem Qox : (Qcc [1, 2, 0, 3]).2.2 = 0 ∧ 0 < (Qcc [1, 2, 0, 3]).1.length + (Qcc [1, 2, 0, 3]).2.1.length ∧ (Qcc [1, 2, 0, 3]).1.length + (Qcc [1, 2, 0, 3]).2.1.length ≤ 100 := by decide +kernel
theorem Qty (s : Stand)  : HN9 16 [.ag (Qa7 s)] = (Qb0 s, ((fun r => .tp [.i r.1, .i r.2])) (Qic s)) := h16 s
theorem Qu3 (s : Stand)  : HN9 41 [.ag (Qa7 s)] = (Qb0 s, ((fun r => .tp [.sl 1 (r.1.map eI), .i r.2])) (Qd8 s)) := h41 s
theorem Qtz (s : Stand)  : HN9 17 [.ag (Qa7 s)] = (Qb0 s, ((fun r => .tp [.i r.1, .i r.2.2])) (Qcj s)) := h17 s
theorem Qu0 (t : List Int)  : HN9 19 [.sl 1 (t.map eI)] = (t.length ≤ 1000000, ((fun r => .tp [.i r.1.length, .i r.2])) (Qde t)) := h19 t
theorem Qu1 (t : List Int)  : HN9 24 [.sl 1 (t.map eI)] = (t.length ≤ 1000000, r3V (Qcc t)) := h24 t
theorem Qu2 (l : List Int) (m : List Int)  : HN9 28 [.sl 1 (l.map eI), .sl 1 (m.map eI)] = (l.length ≤ 1000000, .b (decide (l = m))) := h28 l m
set_option maxHeartbeats 1000000 in
theorem W15 : Qak Try.prog 15 [] (.b true) := by
 refine Qaj Qvw hmix Try.func15 cb15 cc15 cs15 cn15 ?_
 have g1 := Qty exS0
 have g2 := Qu3 exS0
 have g3 := Qtz exS0
 have g4 := Qu0 [1, 2, 0, 3]
 have g5 := Qu1 [1, 2, 0, 3]
 have g6 := Qu2 [-1, -1, -1, 0] [-1, -1, -1, 0]
 obtain ⟨e1, e2⟩ := Qqn
 obtain ⟨e3, e4, e5⟩ := Qox
 have e6 := Qsa
 rw [Prod.mk.injEq] at e6
 rw [Qsb] at g1
 rw [Qow] at g2
 simp only [e1, e2] at g3
 simp only [e6.1, e6.2] at g4
 simp only [r3V, e3] at g5
 have hsh := Qjn
 obtain ⟨X, hX⟩ : ∃ X, X = exS0 := ⟨_, rfl⟩
 have hE := h49
 have eX : Qa7 exS0 = [V.i 4, V.sl 4 (exS0.words.map Qat), V.i 0] := rfl
 rw [eX] at g1 g2 g3 hE
 simp only [eI, Qb, Qe, Qc, Qd] at g2 g4 g5 g6
 have c2 : ∀ a b c d : V, Qcd 1 [a, b, c, d] 0 4 = [[a], [b], [c], [d]] := fun _ _ _ _ => rfl
 simp only [rc15, rs15, hE, g1, g2, g3, g4, g5, g6, hsh, Zv, Zq, c2, Qa9, Qa8, Qaf, Qa4, putB, Qae, Qa5, Qa2, Fam.step, Qag, Qck, Qau, Qb8, Qap, ug, putB, nv, sv, evO, opv, qv, Qah, binV, ldV, lenV, Qao, Qav, putAt, Qbf, Qb6, V.cells, Qar, Qbw, Qaa, Qa6, flat, Qby, Qa1, Qc8, Qa0, Qa3, ↓reduceIte, Nat.reduceEqDiff, Nat.reduceAdd, Nat.reduceMul, Nat.reduceLT, Nat.reduceLeDiff, Int.reduceNeg, Qb, Qe, Qr, Qq, Qc, Qd, Qg, Qk, List.drop_nil, Qw, Zt, Q9, Q6, Q3, Qj, Qu, Qx, Qn, Zk, Qz, Z3, endQ, rvs, rv1, resV, vw_i, vw_b, Qal, Qas, zipA, beq_self_eq_true, Qi, V.b.injEq, Qm, Qs, Zh, Ql, Qa, Qo, decide_true, decide_eq_true_eq, decide_eq_false_iff_not, true_and, and_true, and_self, forall_const, implies_true, reduceCtorEq, not_false_eq_true, ne_eq, beq_true, Qo1, imp_self, Qf]
 have i1 : inI (((Qcc [1, 2, 0, 3]).1.length : Int) + (Qcc [1, 2, 0, 3]).2.1.length) := by unfold inI; omega
 have i2 : (0 : Int) < ((Qcc [1, 2, 0, 3]).1.length : Int) + (Qcc [1, 2, 0, 3]).2.1.length := by omega
 have i3 : ((2 : Nat) : Int) = 2 := rfl
 simp only [i1, i2, i3, and_self, decide_true, Qm, implies_true]
theorem call15 (hG : GOk Try.prog Γ) : GOk Try.prog (Γ.ext 15 fun vs => (vs = [], .b true)) := hG.ext (f := 15) (fun a w => Try.call15 a w) fun vs h => by
 have e : vs = [] := h
 subst e
 exact W15
noncomputable def HN10 : Gam := HN9.ext 15 fun vs => (vs = [], .b true)
theorem Qrp : GOk Try.prog HN10 := call15 Qvw
theorem h15 : HN10 15 [] = (True, .b true) := by
 refine (show HN10 15 [] = ((([] : List V) = []), V.b true) from rfl).trans ?_
 simp
end Go.C10
set_option maxRecDepth 8000
namespace Go.C10
open Go.Fam Go.Proofs
def rc20 : RC := (.seq (.reg false [(cQ 2 [] (.mv (kB false)))]) (.keep [0] (.seq (.seq (.reg false [(cI 3 0)]) (.keep [0,3] (.block 0 (.loop [0,3] none (.seq (.seq (.reg false [(cMv 4 3), (cMv 5 0), (cLn 6 5), (cB 7 .lss 4 6)]) (.keep [0,3,7] (.cond (.t 7) .skip (.exit 0)))) (.keep [0,3] (.seq (.block 1 (.seq (.reg false [(cMv 10 0), (cMv 11 3), (cA 12 1 10 11), (cLd 13 12 false 1), (cMv 14 3), (cB 15 .neq 13 14)]) (.keep [0,3,15] (.cond (.t 15) (.seq (.reg false [(cQ 2 [] (.mv (kB false)))]) .ret) .skip)))) (.keep [0,3] (.reg false [(cMv 8 3), (cC 9 .add 8 1), (cMv 3 9)]))))))))) (.keep [] (.seq (.reg false [(cQ 2 [] (.mv (kB true)))]) .ret)))))
def pu20 : List Nat := []
def rs20 : List RV := [.t 2]
theorem cc20 : CCx Try.prog Try.f20 pu20 rc20 := by unfold CCx; kernel_rfl
theorem cb20 : CBx Try.f20 := by unfold CBx; kernel_rfl
theorem cs20 : CSx Try.prog Try.f20 rs20 := by unfold CSx; kernel_rfl
theorem cn20 : 1 ≤ Try.f20.ntmps := by decide
def rc21 : RC := (.seq (.reg false [(cQ 6 [] (.mv (.k (.z 1))))]) (.keep [0,1,2] (.seq (.reg false [⟨(some 8), none, [], none, .w (.bso 1 0 [(.i 0)] [])⟩, (cMv 9 0), ⟨(some 10), none, [8,9], none, .w (.app 1 (.t 8) (.t 9))⟩, (cMv 7 10)]) (.keep [1,2,7] (.seq (.any false 0 [⟨(cMv 11 7), [], []⟩, ⟨(cMv 12 1), [], []⟩, ⟨(cMv 13 7), [], []⟩, ⟨(cMv 14 2), [], []⟩, ⟨(cMv 15 7), [], []⟩, ⟨(cMv 16 2), [], []⟩, ⟨(cA 17 1 15 16), [], [4,5]⟩, ⟨(cLd 18 17 false 1), [], [6,4,5]⟩, ⟨(cMv 19 7), [], []⟩, ⟨(cMv 20 1), [], []⟩, ⟨(cA 21 1 19 20), [], [8,9]⟩, ⟨(cLd 22 21 false 1), [], [10,8,9]⟩, ⟨(cA 23 1 11 12), [], [0,1,4,5,6,7,11,10,8,9]⟩, ⟨⟨none, none, [23,18], none, .w (.st 1 (.t 23) (.t 18))⟩, [2,3], [12,0,1,4,5,6,7,11,10,8,9]⟩, ⟨(cA 24 1 13 14), [], [2,3,0,1,4,5,6,7,8,9,10,11,12,13]⟩, ⟨⟨none, none, [24,22], none, .w (.st 1 (.t 24) (.t 22))⟩, [], [14,2,3,0,1,4,5,6,7,8,9,10,11,12,13]⟩]) (.keep [7] (.seq (.reg false [(cMv 25 7), (cMv 6 25)]) .ret)))))))
def pu21 : List Nat := []
def rs21 : List RV := [.t 6]
theorem cc21 : CCx Try.prog Try.f21 pu21 rc21 := by unfold CCx; kernel_rfl
theorem cb21 : CBx Try.f21 := by unfold CBx; kernel_rfl
theorem cs21 : CSx Try.prog Try.f21 rs21 := by unfold CSx; kernel_rfl
theorem cn21 : 3 ≤ Try.f21.ntmps := by decide
def rc53 : RC := (.seq (.reg false [(cQ 4 [] (.mv (kB false)))]) (.keep [0,1] (.seq (.any true 0 [⟨(cMv 5 0), [], []⟩, ⟨(cLn 6 5), [], [0]⟩, ⟨(cC 7 .eql 6 2), [], [1,0]⟩, ⟨(cMv 8 7), [], [2,1,0]⟩, ⟨(gMv 9 8 true 0), [], [3,2,1,0]⟩, ⟨(gQ 10 8 true [9] (.iad 1 (.t 9) (kI 0))), [], [4,3,2,1,0]⟩, ⟨(gQ 11 8 true [10] (.ld false 1 (.t 10))), [], [5,4,3,2,1,0]⟩, ⟨(gQ 12 8 true [11] (.bin .geq (.t 11) (kI 0))), [], [6,5,4,3,2,1,0]⟩, ⟨(cQ 13 [8,12] (.pick (.t 8) (.t 12) (kB false))), [], [3,2,1,0,7,6,5,4]⟩, ⟨(cMv 14 13), [], [8,3,2,1,0,7,6,5,4]⟩, ⟨(gMv 15 14 true 0), [], [9,8,3,2,1,0,7,6,5,4]⟩, ⟨(gQ 16 14 true [15] (.iad 1 (.t 15) (kI 0))), [], [10,9,8,3,2,1,0,7,6,5,4]⟩, ⟨(gQ 17 14 true [16] (.ld false 1 (.t 16))), [], [11,10,9,8,3,2,1,0,7,6,5,4]⟩, ⟨(gMv 18 14 true 0), [], [9,8,3,2,1,0,7,6,5,4]⟩, ⟨(gQ 19 14 true [18] (.iad 1 (.t 18) (kI 1))), [], [13,9,8,3,2,1,0,7,6,5,4]⟩, ⟨(gQ 20 14 true [19] (.ld false 1 (.t 19))), [], [14,13,9,8,3,2,1,0,7,6,5,4]⟩, ⟨(gQ 21 14 true [17,20] (.bin .lss (.t 17) (.t 20))), [], [12,11,10,9,8,3,2,1,0,7,6,5,4,15,14,13]⟩, ⟨(cQ 22 [14,21] (.pick (.t 14) (.t 21) (kB false))), [], [9,8,3,2,1,0,7,6,5,4,16,12,11,10,15,14,13]⟩, ⟨(cMv 23 22), [], [17,9,8,3,2,1,0,7,6,5,4,16,12,11,10,15,14,13]⟩, ⟨(gMv 24 23 true 0), [], [18,17,9,8,3,2,1,0,7,6,5,4,16,12,11,10,15,14,13]⟩, ⟨(gQ 25 23 true [24] (.iad 1 (.t 24) (kI 1))), [], [19,18,17,9,8,3,2,1,0,7,6,5,4,16,12,11,10,15,14,13]⟩, ⟨(gQ 26 23 true [25] (.ld false 1 (.t 25))), [], [20,19,18,17,9,8,3,2,1,0,7,6,5,4,16,12,11,10,15,14,13]⟩, ⟨(gMv 27 23 true 1), [], [18,17,9,8,3,2,1,0,7,6,5,4,16,12,11,10,15,14,13]⟩, ⟨(gQ 28 23 true [26,27] (.bin .lss (.t 26) (.t 27))), [], [21,20,19,18,17,9,8,3,2,1,0,7,6,5,4,16,12,11,10,15,14,13,22]⟩, ⟨(cQ 29 [23,28] (.pick (.t 23) (.t 28) (kB false))), [], [18,17,9,8,3,2,1,0,7,6,5,4,16,12,11,10,15,14,13,23,21,20,19,22]⟩, ⟨(cMv 4 29), [], [24,18,17,9,8,3,2,1,0,7,6,5,4,16,12,11,10,15,14,13,23,21,20,19,22]⟩]) .ret)))
def pu53 : List Nat := []
def rs53 : List RV := [.t 4]
theorem cc53 : CCx Try.prog Try.f53 pu53 rc53 := by unfold CCx; kernel_rfl
theorem cb53 : CBx Try.f53 := by unfold CBx; kernel_rfl
theorem cs53 : CSx Try.prog Try.f53 rs53 := by unfold CSx; kernel_rfl
theorem cn53 : 2 ≤ Try.f53.ntmps := by decide
def rc23 : RC := (.seq (.reg false [(cQ 2 [] (.mv (.k (.z 1))))]) (.keep [0] (.seq (.reg false [(cMv 5 0), (cLn 6 5), ⟨(some 7), none, [6,6], none, .w (.mks 1 [(.i 0)] (.t 6) (.t 6))⟩, (cMv 3 7)]) (.keep [0,3] (.seq (.seq (.reg false [(cI 4 0)]) (.keep [0,3,4] (.block 0 (.loop [0,3,4] none (.seq (.seq (.reg false [(cMv 8 4), (cMv 9 0), (cLn 10 9), (cB 11 .lss 8 10)]) (.keep [0,3,4,11] (.cond (.t 11) .skip (.exit 0)))) (.keep [0,3,4] (.seq (.block 1 (.reg false [(cMv 14 3), (cMv 15 0), (cMv 16 4), (cA 17 1 15 16), (cLd 18 17 false 1), (cMv 19 4), (cA 20 1 14 18), ⟨none, none, [20,19], none, .w (.st 1 (.t 20) (.t 19))⟩])) (.keep [0,3,4] (.reg false [(cMv 12 4), (cC 13 .add 12 1), (cMv 4 13)]))))))))) (.keep [3] (.seq (.reg false [(cMv 21 3), (cMv 2 21)]) .ret)))))))
def pu23 : List Nat := []
def rs23 : List RV := [.t 2]
theorem cc23 : CCx Try.prog Try.f23 pu23 rc23 := by unfold CCx; kernel_rfl
theorem cb23 : CBx Try.f23 := by unfold CBx; kernel_rfl
theorem cs23 : CSx Try.prog Try.f23 rs23 := by unfold CSx; kernel_rfl
theorem cn23 : 1 ≤ Try.f23.ntmps := by decide
end Go.C10
set_option maxRecDepth 8000
namespace Go.C10
open Go.Fam Go.Proofs
def rc22 : RC := (.seq (.reg false [(cQ 4 [] (.mv (.k (.z 1)))), (cQ 5 [] (.mv (kB false)))]) (.keep [0,1] (.seq (.reg false [⟨(some 8), none, [], none, .w (.bso 1 0 [(.i 0)] [])⟩, (cMv 9 0), ⟨(some 10), none, [8,9], none, .w (.app 1 (.t 8) (.t 9))⟩, (cMv 6 10)]) (.keep [0,1,6] (.seq (.seq (.drp 0 (.reg false [(cI 7 0)])) (.keep [0,1,6,7] (.block 0 (.loop [0,1,6,7] none (.seq (.seq (.reg false [(cMv 11 7), (cMv 12 1), (cLn 13 12), (cB 14 .lss 11 13)]) (.keep [0,1,6,7,14] (.cond (.t 14) .skip (.exit 0)))) (.keep [0,1,6,7] (.seq (.block 1 (.seq (.seq (.reg false [(cMv 17 1), (cMv 18 7), (cA 19 1 17 18), (cLd 20 19 false 1), (cMv 21 0), (cLn 22 21), (cQ 23 [20,22] (.call (kF 53) [(.t 20), (.t 22)])), (cN 24 23)]) (.keep [0,1,6,7,24] (.cond (.t 24) (.seq (.reg false [(cQ 4 [] (.mv (.k (.z 1)))), (cQ 5 [] (.mv (kB false)))]) .ret) .skip))) (.keep [0,1,6,7] (.any false 0 [⟨(cMv 25 6), [], []⟩, ⟨(cMv 26 1), [], []⟩, ⟨(cMv 27 7), [], []⟩, ⟨(cA 28 1 26 27), [], [1,2]⟩, ⟨(cLd 29 28 false 1), [], [3,1,2]⟩, ⟨(cQ 30 [29] (.iad 1 (.t 29) (kI 0))), [], [4,3,1,2]⟩, ⟨(cLd 31 30 false 1), [], [5,4,3,1,2]⟩, ⟨(cMv 32 1), [], []⟩, ⟨(cMv 33 7), [], []⟩, ⟨(cA 34 1 32 33), [], [7,8]⟩, ⟨(cLd 35 34 false 1), [], [9,7,8]⟩, ⟨(cQ 36 [35] (.iad 1 (.t 35) (kI 1))), [], [10,9,7,8]⟩, ⟨(cLd 37 36 false 1), [], [11,10,9,7,8]⟩, ⟨(cQ 38 [25,31,37] (.call (kF 21) [(.t 25), (.t 31), (.t 37)])), [], [0,6,5,4,3,1,2,12,11,10,9,7,8]⟩, ⟨(cMv 6 38), [], [13,0,6,5,4,3,1,2,12,11,10,9,7,8]⟩])))) (.keep [0,1,6,7] (.drp 0 (.reg false [(cMv 15 7), (cC 16 .add 15 1), (cMv 7 16)])))))))))) (.keep [6] (.seq (.reg false [(cMv 39 6), (cMv 4 39), (cQ 5 [] (.mv (kB true)))]) .ret)))))))
def pu22 : List Nat := []
def rs22 : List RV := [.t 4, .t 5]
theorem cc22 : CCx Try.prog Try.f22 pu22 rc22 := by unfold CCx; kernel_rfl
theorem cb22 : CBx Try.f22 := by unfold CBx; kernel_rfl
theorem cs22 : CSx Try.prog Try.f22 rs22 := by unfold CSx; kernel_rfl
theorem cn22 : 2 ≤ Try.f22.ntmps := by decide
def rc4 : RC := (.seq (.reg false [(cX 4 1), (cQ 6 [] (.mv (kB false)))]) (.keep [0,2,4] (.seq (.seq (.reg true [(cMv 15 0), (cLn 16 15), (cC 17 .gtr 16 20), (cMv 18 17), (gMv 19 18 false 2), (gQ 20 18 false [19] (.len (.t 19))), (gQ 21 18 false [20] (.bin .gtr (.t 20) (kI 20))), (cQ 22 [18,21] (.pick (.t 18) (kB true) (.t 21))), (cMv 23 22), (gMv 24 23 false 0), (gQ 25 23 false [24] (.call (kF 18) [(.t 24)])), (gQ 26 23 false [25] (.not (.t 25))), (cQ 27 [23,26] (.pick (.t 23) (kB true) (.t 26)))]) (.keep [0,2,4,27] (.cond (.t 27) (.seq (.reg false [(cQ 28 [] (.call (kF 15) [])), (cMv 6 28)]) .ret) .skip))) (.keep [0,2,4] (.seq (.reg false [(cMv 30 0), (cQ 31 [30] (.call (kF 19) [(.t 30)])), (cMv 29 31), (cEx 32 29 0), (cEx 33 29 1), (cMv 7 32), (cMv 8 33)]) (.keep [0,2,4,7,8] (.seq (.seq (.reg true [(cMv 34 8), (cC 35 .neq 34 0), (cMv 36 35), (gMv 37 36 false 7), (gQ 38 36 false [37] (.bin .lss (.t 37) (kI 0))), (cQ 39 [36,38] (.pick (.t 36) (kB true) (.t 38))), (cMv 40 39), (gMv 41 40 false 7), (gMv 42 40 false 0), (gQ 43 40 false [42] (.len (.t 42))), (gQ 44 40 false [43] (.bin .sub (.t 43) (kI 1))), (gQ 45 40 false [44] (.mx (kI 0) (.t 44))), (gQ 46 40 false [41,45] (.bin .gtr (.t 41) (.t 45))), (cQ 47 [40,46] (.pick (.t 40) (kB true) (.t 46))), (cMv 48 47), (gMv 49 48 false 7), (gQ 50 48 false [49] (.bin .eql (.t 49) (kI 0))), (gMv 51 48 false 0), (gQ 52 48 false [51] (.call (kF 20) [(.t 51)])), (gQ 53 48 false [50,52] (.bq true (.t 50) (.t 52))), (cQ 54 [48,53] (.pick (.t 48) (kB true) (.t 53)))]) (.keep [0,2,4,7,54] (.cond (.t 54) (.seq (.reg false [(cQ 6 [] (.mv (kB false)))]) .ret) .skip))) (.keep [0,2,4,7] (.seq (.seq (.reg true [(cFa 55 4 0), (cLd 56 55 false 1), (cC 57 .geq 56 0), (cMv 58 57), (gQ 59 58 true [4] (.fad 0 (.t 4))), (gQ 60 58 true [59] (.ld false 1 (.t 59))), (gMv 61 58 true 0), (gQ 62 58 true [61] (.len (.t 61))), (gQ 63 58 true [60,62] (.bin .lss (.t 60) (.t 62))), (cQ 64 [58,63] (.pick (.t 58) (.t 63) (kB false))), (cMv 65 64), (gQ 66 65 true [4] (.fad 1 (.t 4))), (gQ 67 65 true [66] (.ld false 1 (.t 66))), (gQ 68 65 true [67] (.bin .geq (.t 67) (kI 0))), (cQ 69 [65,68] (.pick (.t 65) (.t 68) (kB false))), (cMv 70 69), (gQ 71 70 true [4] (.fad 1 (.t 4))), (gQ 72 70 true [71] (.ld false 1 (.t 71))), (gMv 73 70 true 0), (gQ 74 70 true [73] (.len (.t 73))), (gQ 75 70 true [72,74] (.bin .lss (.t 72) (.t 74))), (cQ 76 [70,75] (.pick (.t 70) (.t 75) (kB false))), (cMv 77 76), (gQ 78 77 true [4] (.fad 0 (.t 4))), (gQ 79 77 true [78] (.ld false 1 (.t 78))), (gQ 80 77 true [4] (.fad 1 (.t 4))), (gQ 81 77 true [80] (.ld false 1 (.t 80))), (gQ 82 77 true [79,81] (.bin .neq (.t 79) (.t 81))), (cQ 83 [77,82] (.pick (.t 77) (.t 82) (kB false)))]) (.keep [0,2,4,7,83] (.cond (.t 83) (.seq (.reg false [(cMv 85 0), (cFa 86 4 0), (cLd 87 86 false 1), (cFa 88 4 1), (cLd 89 88 false 1), (cQ 90 [85,87,89] (.call (kF 21) [(.t 85), (.t 87), (.t 89)])), (cQ 91 [90] (.call (kF 19) [(.t 90)])), (cMv 84 91), (cEx 92 84 0), (cEx 93 84 1), (cMv 9 92), (cMv 10 93)]) (.keep [0,2,7,9,10] (.seq (.reg true [(cMv 94 10), (cC 95 .neq 94 0), (cMv 96 95), (gMv 97 96 false 9), (gMv 98 96 false 7), (gQ 99 96 false [98] (.bin .sub (.t 98) (kI 1))), (gQ 100 96 false [97,99] (.bin .neq (.t 97) (.t 99))), (gMv 101 96 false 100), (gMv 102 101 true 9), (gMv 103 101 true 7), (gQ 104 101 true [103] (.bin .add (.t 103) (kI 1))), (gQ 105 101 true [102,104] (.bin .neq (.t 102) (.t 104))), (gQ 106 96 false [101,105] (.pick (.t 101) (.t 105) (kB false))), (cQ 107 [96,106] (.pick (.t 96) (kB true) (.t 106)))]) (.keep [0,2,7,107] (.cond (.t 107) (.seq (.reg false [(cQ 6 [] (.mv (kB false)))]) .ret) .skip))))) .skip))) (.keep [0,2,7] (.seq (.reg false [(cMv 109 0), (cMv 110 2), (cQ 111 [109,110] (.call (kF 22) [(.t 109), (.t 110)])), (cMv 108 111), (cEx 112 108 0), (cEx 113 108 1), (cMv 11 112), (cMv 12 113)]) (.keep [0,2,7,11,12] (.seq (.seq (.reg true [(cMv 114 12), (cMv 115 114), (gMv 116 115 true 11), (gQ 117 115 true [116] (.call (kF 20) [(.t 116)])), (cQ 118 [115,117] (.pick (.t 115) (.t 117) (kB false))), (cMv 119 118), (gMv 120 119 true 2), (gQ 121 119 true [120] (.len (.t 120))), (gMv 122 119 true 7), (gQ 123 119 true [121,122] (.bin .lss (.t 121) (.t 122))), (cQ 124 [119,123] (.pick (.t 119) (.t 123) (kB false)))]) (.keep [0,7,124] (.cond (.t 124) (.seq (.reg false [(cQ 6 [] (.mv (kB false)))]) .ret) .skip))) (.keep [0,7] (.seq (.reg false [(cMv 126 0), (cQ 127 [126] (.call (kF 23) [(.t 126)])), (cQ 128 [127] (.call (kF 19) [(.t 127)])), (cMv 125 128), (cEx 129 125 0), (cEx 130 125 1), (cMv 13 129), (cMv 14 130)]) (.keep [7,13,14] (.seq (.reg true [(cMv 131 14), (cC 132 .eql 131 0), (cMv 133 132), (gMv 134 133 true 13), (gMv 135 133 true 7), (gQ 136 133 true [134,135] (.bin .eql (.t 134) (.t 135))), (cQ 137 [133,136] (.pick (.t 133) (.t 136) (kB false))), (cMv 138 137), (gQ 139 138 true [] (.call (kF 15) [])), (cQ 140 [138,139] (.pick (.t 138) (.t 139) (kB false))), (cMv 6 140)]) .ret)))))))))))))))))
def pu4 : List Nat := [4]
def rs4 : List RV := [.t 6]
theorem cc4 : CCx Try.prog Try.f4 pu4 rc4 := by unfold CCx; kernel_rfl
theorem cb4 : CBx Try.f4 := by unfold CBx; kernel_rfl
theorem cs4 : CSx Try.prog Try.f4 rs4 := by unfold CSx; kernel_rfl
theorem cn4 : 3 ≤ Try.f4.ntmps := by decide
end Go.C10
set_option linter.unusedSimpArgs false
set_option linter.unusedVariables false
namespace Go.C10
open Go.Fam Go.Proofs
variable {Γ : Gam}
theorem Qo9 {α : Type} {l : List α} {k : Nat} {x : α} (h : l[k]? = some x) : l.take k ++ [x] ++ l.drop (k + 1) = l := by
 obtain ⟨hk, rfl⟩ := List.getElem?_eq_some_iff.1 h
 rw [Z5, List.singleton_append, ← List.drop_eq_getElem_cons hk, List.take_append_drop]
theorem Qw7 (n : Nat) : ∀ l : List Int, upL n (l.map eI).flatten = (l.map eI).flatten
 | [] => rfl
 | a :: l => by
  have := Qw7 n l
  simp only [Qb, Zv, eI, Q6, Q3, upL, upV] at this ⊢
  rw [this]
theorem Qrc {t : List Int} {i : Nat} {x : Int} (h : t[i]? = some x) : atN t i = x := by unfold atN; rw [Q1, h]; rfl
theorem W20 (t : List Int) (h : t.length ≤ 1000000) : Qak Try.prog 20 [.sl 1 (t.map eI)] (.b (Qbz t)) := by
 refine Qaj Qrp hmix Try.func20 cb20 cc20 cs20 cn20 ?_
 simp only [rc20, rs20, Qa9, Qa8, Qac, Qa4, Qae, Qa5, Qa2, Fam.step, Qag, evO, opv, qv, Qa1, Qa0, Qa3, ↓reduceIte, Qb, Qe, zipA, true_and, reduceCtorEq]
 refine Qbh t.length (fun i => ⟨lkp [(0, .sl 1 (t.map eI)), (3, .i i)], []⟩) (fun i => ∀ j : Nat, j < i → atN t j = j) ?_ ?_ ?_ ?_
 ·simp only [Ze, kp, Qa0, Qa3, ↓reduceIte, Qb, Qe, reduceCtorEq]
 ·intro j hj; omega
 ·intro i hi hc
  obtain ⟨x, hx⟩ : ∃ x, t[i]? = some x := ⟨_, Q0 hi⟩
  have ex := Qrc hx
  have hlt : (i : Int) < t.length := by omega
  have h3 : inI ((i : Int) + 1) := by unfold inI; omega
  by_cases e : x = i
  ·simp only [hx, hlt, h3, e, Zg, Zf, Qad, Qa9, Qa8, Qab, Qac, Qa4, Qae, Qai, Qa5, Qa2, Fam.step, Qag, evO, opv, qv, binV, ldV, iadV, lenV, kp, Qa1, Qa0, Qa3, ↓reduceIte, Nat.reduceEqDiff, Nat.reduceLeDiff, Qb, Qe, Qc, Qd, Qh, Qn, Q2, Qi, Qt, Qa, decide_true, true_and, and_true, and_self, reduceCtorEq, Q4, Qf, Q1, Qp, Qy, eI]
   intro j hj
   by_cases hji : j < i
   ·exact hc j hji
   ·have : j = i := by omega
    subst this
    rw [ex, e]
  ·have : Qbz t = false := by
    rw [Bool.eq_false_iff]
    intro h2
    have := Qiq.1 h2 i hi
    rw [ex] at this; exact e this
   simp only [hx, hlt, e, this, Qad, Qa9, Qa8, Qab, Qac, Qaf, Qa4, Qae, Qai, Qa5, Qa2, Fam.step, Qag, evO, opv, qv, binV, ldV, iadV, lenV, kp, Qa1, Qa0, Qa3, ↓reduceIte, Nat.reduceEqDiff, Nat.reduceLeDiff, Qb, Qe, Qc, Qd, Qh, Qn, endQ, rvs, rv1, resV, vw_b, Q2, Qi, Qv, Qa, decide_true, decide_false, and_self, reduceCtorEq, Q4, Qf, Q1, Qp, Qy, eI]
 ·intro hc
  have hlt : ¬ ((t.length : Int) < t.length) := by omega
  have := Qiq.2 hc
  simp only [hlt, this, Qa9, Qa8, Qab, Qb1, Qaf, Qa4, Qae, Qai, Qa5, Qa2, Fam.step, Qag, evO, opv, qv, binV, lenV, Qa1, Qa0, Qa3, ↓reduceIte, Nat.reduceEqDiff, Qb, Qe, endQ, rvs, rv1, resV, vw_b, Qa, decide_false, and_self, reduceCtorEq, Qf]
def e20 (a : List Int) : List V := [.sl 1 (a.map eI)]
def d20 : List V → List Int | [.sl _ x0] => (x0.map dI) | _ => ([])
theorem Qwg (a : List Int) : d20 (e20 a) = a := by simp [d20, e20, Function.comp_def, Qcx]
noncomputable def HZ1 : Gam := HN10.ext 20 (fnG e20 d20 (fun a => (fun (t : List Int) => t.length ≤ 1000000) a) (fun a => (fun (t : List Int) => Qbz t) a) .b)
theorem Qvx : GOk Try.prog HZ1 := Qrp.ext (f := 20) (fun a w => Try.call20 a w) (Qb2 (e := e20) (d := d20) (ok := (fun a => (fun (t : List Int) => t.length ≤ 1000000) a)) (g := (fun a => (fun (t : List Int) => Qbz t) a)) (eb := .b) fun a h => W20 a h)
theorem h20 (t : List Int) : HZ1 20 [.sl 1 (t.map eI)] = (t.length ≤ 1000000, .b (Qbz t)) :=
 (show HZ1 20 _ = fnG e20 d20 (fun a => (fun (t : List Int) => t.length ≤ 1000000) a) (fun a => (fun (t : List Int) => Qbz t) a) .b (e20 (t)) from rfl).trans (Qb4 _ (Qwg _))
def inB (t : List Int) (x : Int) : Prop := 0 ≤ x ∧ x ≤ t.length - 1
theorem W21 (t : List Int) (a b : Int) (h : t.length ≤ 1000000 ∧ inB t a ∧ inB t b) : Qak Try.prog 21 [.sl 1 (t.map eI), .i a, .i b] (.sl 1 ((Qc1 t a b).map eI)) := by
 refine Qaj Qvx hmix Try.func21 cb21 cc21 cs21 cn21 ?_
 obtain ⟨hl, ⟨a0, a1⟩, b0, b1⟩ := h
 have f0 : Qay t.length := by unfold Qay; omega
 have f1 : Qay (0 + t.length) := by unfold Qay; omega
 obtain ⟨x, hx⟩ : ∃ x, t[a.toNat]? = some x := ⟨_, Q0 (by omega)⟩
 obtain ⟨y, hy⟩ : ∃ x, t[b.toNat]? = some x := ⟨_, Q0 (by omega)⟩
 have ex : atN t a = x := by unfold atN; rw [hx]; rfl
 have ey : atN t b = y := by unfold atN; rw [hy]; rfl
 have d1 := Qen hx
 have d2 := Qen hy
 have s1 := Qgh t a.toNat y (by omega)
 have s2 := Qgh (t.set a.toNat y) b.toNat x (by simp; omega)
 unfold putAt at s1 s2
 simp only [Qc, Qd, Qi] at s1 s2
 have hsw : (t.set a.toNat y).set b.toNat x = Qc1 t a b := by unfold Qc1; rw [ex, ey]
 rw [hsw] at s2
 have l1 := Qet (t.set a.toNat y)
 rw [List.length_set] at l1
 have l2 := Qet (Qc1 t a b)
 rw [Qfd] at l2
 have c1 := Qel (Qc1 t a b)
 rw [Qfd] at c1
 have k1 : a < t.length ∧ b < t.length ∧ a.toNat + 1 ≤ t.length ∧ b.toNat + 1 ≤ t.length := by omega
 simp only [rc21, rs21, f0, Qet, a0, b0, k1, d1, d2, s1, s2, l1, l2, c1, Zw, Zx, vw_I, Zq, Q3, Qa9, Qbr, Qa8, Qaf, Qa4, Qb9, optL, putB, Qae, Qa5, Qa2, Fam.step, Qag, Qck, Qb8, runX, eff, Qb7, fpR, fpQ, fpV, Qc3, hits, putB, nv, sv, Qcf, evO, opv, qv, ldV, iadV, Qav, putAt, Qbf, Qb6, V.cells, Qar, Qbw, Qa1, Qc8, Qa0, Qa3, ↓reduceIte, Nat.reduceEqDiff, Nat.reduceAdd, Qb, Qe, Qr, Qq, Qc, Qd, Q6, Q3, Qj, Qu, Qx, Q5, Qn, Za, Zk, Qz, Zb, List.isEmpty_cons, endQ, rvs, rv1, resV, Qez, zipA, Qi, Qm, Qs, Zr, Q8, Ql, Zy, Qt, Qv, Qa, and_self, reduceCtorEq, List.any_cons, Zc, List.contains_cons, Q7, Qf, Qp]
def e21 (a : List Int × Int × Int) : List V := [.sl 1 (a.1.map eI), .i a.2.1, .i a.2.2]
def d21 : List V → List Int × Int × Int | [.sl _ x0, .i x1, .i x2] => (x0.map dI, x1, x2) | _ => ([], 0, 0)
theorem Qwh (a : List Int × Int × Int) : d21 (e21 a) = a := by simp [d21, e21, Function.comp_def, Qcx]
noncomputable def HZ2 : Gam := HZ1.ext 21 (fnG e21 d21 (fun a => (fun (t : List Int) (a : Int) (b : Int) => t.length ≤ 1000000 ∧ inB t a ∧ inB t b) a.1 a.2.1 a.2.2) (fun a => (fun (t : List Int) (a : Int) (b : Int) => Qc1 t a b) a.1 a.2.1 a.2.2) (fun l => .sl 1 (l.map eI)))
theorem Qvy : GOk Try.prog HZ2 := Qvx.ext (f := 21) (fun a w => Try.call21 a w) (Qb2 (e := e21) (d := d21) (ok := (fun a => (fun (t : List Int) (a : Int) (b : Int) => t.length ≤ 1000000 ∧ inB t a ∧ inB t b) a.1 a.2.1 a.2.2)) (g := (fun a => (fun (t : List Int) (a : Int) (b : Int) => Qc1 t a b) a.1 a.2.1 a.2.2)) (eb := (fun l => .sl 1 (l.map eI))) fun a h => W21 a.1 a.2.1 a.2.2 h)
theorem h21 (t : List Int) (a : Int) (b : Int) : HZ2 21 [.sl 1 (t.map eI), .i a, .i b] = (t.length ≤ 1000000 ∧ inB t a ∧ inB t b, ((fun l => .sl 1 (l.map eI))) (Qc1 t a b)) :=
 (show HZ2 21 _ = fnG e21 d21 (fun a => (fun (t : List Int) (a : Int) (b : Int) => t.length ≤ 1000000 ∧ inB t a ∧ inB t b) a.1 a.2.1 a.2.2) (fun a => (fun (t : List Int) (a : Int) (b : Int) => Qc1 t a b) a.1 a.2.1 a.2.2) (fun l => .sl 1 (l.map eI)) (e21 (t, a, b)) from rfl).trans (Qb4 _ (Qwh _))
theorem W53 (l : List Int) (n : Int) : Qak Try.prog 53 [.sl 1 (l.map eI), .i n] (.b (Qc4 l n)) := by
 refine Qaj Qvy hmix Try.func53 cb53 cc53 cs53 cn53 ?_
 by_cases h2 : l.length = 2
 ·obtain ⟨x, y, rfl⟩ : ∃ x y, l = [x, y] := by
   match l, h2 with
   | [x, y], _ => exact ⟨x, y, rfl⟩
  have e : Qc4 [x, y] n = (decide (0 ≤ x) && (decide (x < y) && decide (y < n))) := by
   unfold Qc4 atN; simp
  rw [e]
  have i2 : ((2 : Nat) : Int) = 2 := rfl
  have i3 : (0 : Int) < 2 ∧ (1 : Int) < 2 := by omega
  by_cases h0 : 0 ≤ x <;> by_cases h1 : x < y <;> by_cases h3 : y < n <;> simp only [rc53, rs53, h0, h1, h3, i2, i3, Qa9, Qbr, Qa8, Qaf, Qa4, Qb9, Qae, Qa5, Qa2, Fam.step, Qag, Qau, Qap, ug, runX, eff, Qb7, fpR, fpQ, fpV, Qc3, hits, evO, opv, qv, Qah, binV, ldV, iadV, lenV, Qa1, Qa0, Qa3, ↓reduceIte, Nat.reduceEqDiff, Nat.reduceAdd, Nat.reduceLeDiff, Int.reduceToNat, Zi, Int.reduceLE, Qb, Qe, Qr, Qq, Qc, Qd, Qh, Q6, Q3, Qj, Qu, Qx, Q5, Qn, Za, Qz, Zb, endQ, rvs, rv1, resV, vw_b, zipA, beq_self_eq_true, Qi, Qm, Qs, Q8, Zh, Ql, Qt, Qv, Qa, Qo, decide_true, decide_false, and_true, and_self, forall_const, implies_true, reduceCtorEq, Zc, Q7, beq_true, imp_self, Qp, eI]
 ·have h2' : ¬ (l.length : Int) = 2 := by omega
  have e : Qc4 l n = false := by unfold Qc4; simp [h2]
  simp only [rc53, rs53, h2', e, Qa9, Qbr, Qa8, Qaf, Qa4, Qb9, Qae, Qa5, Qa2, Fam.step, Qag, Qau, Qap, ug, runX, eff, Qb7, fpR, fpQ, fpV, Qc3, hits, evO, opv, qv, Qdl, binV, ldV, iadV, lenV, Qa1, Qa0, Qa3, ↓reduceIte, Nat.reduceEqDiff, Int.reduceToNat, Zi, Int.reduceLE, Qb, Qe, Qr, Qq, Q6, Q3, Qj, Q5, Za, Qz, Zb, endQ, rvs, rv1, resV, vw_b, zipA, Qi, Qm, Qs, Q8, Ql, Qt, Qv, Qa, decide_false, true_and, and_self, false_and, forall_const, implies_true, reduceCtorEq, Zc, Q7, beq_true, imp_self, Qf, Qp, Qy]
def e53 (a : List Int × Int) : List V := [.sl 1 (a.1.map eI), .i a.2]
def d53 : List V → List Int × Int | [.sl _ x0, .i x1] => (x0.map dI, x1) | _ => ([], 0)
theorem Qwv (a : List Int × Int) : d53 (e53 a) = a := by simp [d53, e53, Function.comp_def, Qcx]
noncomputable def HZ3 : Gam := HZ2.ext 53 (fnG e53 d53 (fun a => (fun (l : List Int) (n : Int) => True) a.1 a.2) (fun a => (fun (l : List Int) (n : Int) => Qc4 l n) a.1 a.2) .b)
theorem Qvz : GOk Try.prog HZ3 := Qvy.ext (f := 53) (fun a w => Try.call53 a w) (Qb2 (e := e53) (d := d53) (ok := (fun a => (fun (l : List Int) (n : Int) => True) a.1 a.2)) (g := (fun a => (fun (l : List Int) (n : Int) => Qc4 l n) a.1 a.2)) (eb := .b) fun a h => W53 a.1 a.2)
theorem h53 (l : List Int) (n : Int) : HZ3 53 [.sl 1 (l.map eI), .i n] = (True, .b (Qc4 l n)) :=
 (show HZ3 53 _ = fnG e53 d53 (fun a => (fun (l : List Int) (n : Int) => True) a.1 a.2) (fun a => (fun (l : List Int) (n : Int) => Qc4 l n) a.1 a.2) .b (e53 (l, n)) from rfl).trans (Qb4 _ (Qwv _))
def Qdf (t : List Int) (l : List (List Int)) : List Int × Bool := match Qc9 t.length l t with | some p => (p, true) | none => ([], false)
theorem Qj1 {n : Int} : ∀ (l : List (List Int)) (t p : List Int), Qc9 n l t = some p → p.length = t.length
 | [], t, p, e => by cases e; rfl
 | q :: l, t, p, e => by
  rw [Qc9] at e
  by_cases hq : Qc4 q n = true
  ·rw [if_pos hq] at e
   rw [Qj1 l _ p e, Qfd]
  ·rw [if_neg hq] at e; cases e
theorem Qu5 (l : List Int) (n : Int)  : HZ3 53 [.sl 1 (l.map eI), .i n] = (True, .b (Qc4 l n)) := h53 l n
theorem Qu4 (t : List Int) (a : Int) (b : Int)  : HZ3 21 [.sl 1 (t.map eI), .i a, .i b] = (t.length ≤ 1000000 ∧ inB t a ∧ inB t b, ((fun l => .sl 1 (l.map eI))) (Qc1 t a b)) := h21 t a b
set_option maxHeartbeats 1000000 in
theorem W22 (t : List Int) (l : List (List Int)) (h : t.length ≤ 1000000 ∧ l.length ≤ 1000000) : Qak Try.prog 22 [.sl 1 (t.map eI), .sl 1 (l.map eCan)] (.tp [.sl 1 ((Qdf t l).1.map eI), .b (Qdf t l).2]) := by
 refine Qaj Qvz hmix Try.func22 cb22 cc22 cs22 cn22 ?_
 obtain ⟨ht, hl⟩ := h
 have f0 : Qay t.length := by unfold Qay; omega
 have f1 : Qay (0 + t.length) := by unfold Qay; omega
 simp only [rc22, rs22, f0, Zq, Q3, Qa9, Qa8, Qac, Qa4, Qcw, ↓Qc2, cutH, putB, Qae, Qa5, Qa2, Fam.step, Qag, Qck, Qb8, putB, nv, sv, Qcf, evO, opv, qv, Qav, Qbf, Qb6, cutV, Qa1, Qa0, Qa3, ↓reduceIte, Nat.reduceEqDiff, Nat.reduceMul, Nat.reduceLT, Qb, Qe, Qd, Zt, Q3, Qu, Zk, Qz, Qez, zipA, Qi, true_and, and_self, reduceCtorEq, Qf]
 have c0 := Qel t
 simp only [Zw]
 refine Qbh l.length (fun i => ⟨lkp [(0, .sl 1 (t.map eI)), (1, .sl 1 (l.map eCan)), (6, .sl 1 (((Qc9 t.length (l.take i) t).getD []).map eI)), (7, .i i)], []⟩) (fun i => ∃ p, Qc9 t.length (l.take i) t = some p) ?_ ?_ ?_ ?_
 ·have e0 : (Qc9 t.length (l.take 0) t).getD [] = t := rfl
  rw [e0]
  simp only [Ze, hpF, upB, Qw7, c0, Qet, Zw, Zx, vw_I, kp, Qa0, Qa3, ↓reduceIte, Nat.reduceEqDiff, Qb, Qe, Qk, Zt, Q3, Qu, and_self, reduceCtorEq]
 ·exact ⟨t, rfl⟩
 ·rintro i hi ⟨p, hp⟩
  have hpl := Qj1 _ _ _ hp
  obtain ⟨q, hq⟩ : ∃ q, l[i]? = some q := ⟨_, Q0 hi⟩
  have hlt : (i : Int) < l.length := by omega
  have h3 : inI ((i : Int) + 1) := by unfold inI; omega
  have ec : eCan q = [.sl 1 (q.map eI)] := rfl
  have g1 := Qu5 q t.length
  by_cases hqp : Qc4 q t.length = true
  ·obtain ⟨q2, q0, q1, qn⟩ := Qja.1 hqp
   obtain ⟨x, hx⟩ : ∃ x, q[0]? = some x := ⟨_, Q0 (by omega)⟩
   obtain ⟨y, hy⟩ : ∃ x, q[1]? = some x := ⟨_, Q0 (by omega)⟩
   have e0 : atN q 0 = x := by unfold atN; rw [show (0 : Int).toNat = 0 from rfl, hx]; rfl
   have e1 : atN q 1 = y := by unfold atN; rw [show (1 : Int).toNat = 1 from rfl, hy]; rfl
   rw [e0] at q0 q1
   rw [e1] at q1 qn
   have q3 : (0 : Int) < q.length ∧ (1 : Int) < q.length := by omega
   have t0 : (0 : Int).toNat = 0 := rfl
   have t1 : (1 : Int).toNat = 1 := rfl
   have hn : Qc9 t.length (l.take (i + 1)) t = some (Qc1 p x y) := by
    rw [Qbn hq, Qfz, hp, Z6, Qc9, if_pos hqp, e0, e1]; rfl
   have g2 := Qu4 p x y
   have hb : (p.length ≤ 1000000 ∧ inB p x ∧ inB p y) = True := eq_true (by unfold inB; rw [hpl]; exact ⟨ht, by omega, by omega⟩)
   rw [hb] at g2
   rw [hp, hn, Qn, Qn]
   simp only [hq, hlt, h3, g1, hqp, g2, q3, t0, t1, hx, hy, Zg, Zf, Qad, Qa9, Qbr, Qa8, Qab, Qac, Qa4, Qcw, ↓Qc2, Qb9, cutH, Qae, Qai, Qa5, Qa2, Fam.step, Qag, runX, eff, Qb7, fpR, fpQ, fpV, Qc3, hits, evO, opv, qv, binV, ldV, iadV, lenV, Qao, Qaa, Qa6, flat, kp, cutV, Qa1, Qa0, Qa3, ↓reduceIte, Nat.reduceEqDiff, Nat.reduceLT, Nat.reduceLeDiff, Int.reduceLE, Qb, Qe, Qq, Qc, Qd, Q9, Qh, Q6, Q3, Qj, Q5, Qn, Za, Qz, Zb, vw_i, Qal, Q2, Qi, Z2.injEq, Qm, Qs, Q8, Ql, Qt, Qv, Qa, decide_true, true_and, and_true, and_self, implies_true, reduceCtorEq, Q4, Zc, Q7, imp_self, Qf, Q1, Qp, Qy, eI, eCan]
   exact ⟨_, rfl⟩
  ·have hn : Qc9 t.length l t = none := by
    have : l = l.take i ++ q :: l.drop (i + 1) := by
     have := Qo9 hq
     rw [Z5] at this
     exact this.symm
    rw [this, Qfz, hp, Z6, Qc9, if_neg hqp]
   simp only [hq, hlt, g1, hqp, Qdf, hn, Qad, Qa9, Qa8, Qab, Qac, Qaf, Qa4, Qae, Qai, Qa5, Qa2, Fam.step, Qag, evO, opv, qv, binV, ldV, iadV, lenV, Qao, Qaa, Qa6, flat, kp, Qa1, Qa0, Qa3, ↓reduceIte, Nat.reduceEqDiff, Nat.reduceLT, Nat.reduceLeDiff, Qb, Qe, Qc, Qd, Qh, Qj, Q5, Qn, endQ, rvs, rv1, resV, vw_i, vw_b, vw_z, Qal, Qcv, Q2, Qi, Ql, Qv, Qa, decide_true, and_self, implies_true, reduceCtorEq, Q4, Qf, Q1, Qp, Qy, eCan]
 ·rintro ⟨p, hp⟩
  have hlt : ¬ ((l.length : Int) < l.length) := by omega
  rw [Z7] at hp
  have hr : Qdf t l = (p, true) := by unfold Qdf; rw [hp]
  simp only [hlt, hr, hp, Z7, Qa9, Qa8, Qab, Qb1, Qaf, Qa4, Qae, Qai, Qa5, Qa2, Fam.step, Qag, evO, opv, qv, binV, ldV, lenV, Qa1, Qa0, Qa3, ↓reduceIte, Nat.reduceEqDiff, Qb, Qe, Q5, Qn, endQ, rvs, rv1, resV, vw_b, Qal, Qcv, Qa, decide_false, and_self, reduceCtorEq, Qf]
def e22 (a : List Int × List (List Int)) : List V := [.sl 1 (a.1.map eI), .sl 1 (a.2.map eCan)]
def d22 : List V → List Int × List (List Int) | [.sl _ x0, .sl _ x1] => (x0.map dI, x1.map dCan) | _ => ([], [])
theorem Qwi (a : List Int × List (List Int)) : d22 (e22 a) = a := by simp [d22, e22, Function.comp_def, Qcx, Qj6]
noncomputable def HZ4 : Gam := HZ3.ext 22 (fnG e22 d22 (fun a => (fun (t : List Int) (l : List (List Int)) => t.length ≤ 1000000 ∧ l.length ≤ 1000000) a.1 a.2) (fun a => (fun (t : List Int) (l : List (List Int)) => Qdf t l) a.1 a.2) (fun r => .tp [.sl 1 (r.1.map eI), .b r.2]))
theorem Qw0 : GOk Try.prog HZ4 := Qvz.ext (f := 22) (fun a w => Try.call22 a w) (Qb2 (e := e22) (d := d22) (ok := (fun a => (fun (t : List Int) (l : List (List Int)) => t.length ≤ 1000000 ∧ l.length ≤ 1000000) a.1 a.2)) (g := (fun a => (fun (t : List Int) (l : List (List Int)) => Qdf t l) a.1 a.2)) (eb := (fun r => .tp [.sl 1 (r.1.map eI), .b r.2])) fun a h => W22 a.1 a.2 h)
theorem h22 (t : List Int) (l : List (List Int)) : HZ4 22 [.sl 1 (t.map eI), .sl 1 (l.map eCan)] = (t.length ≤ 1000000 ∧ l.length ≤ 1000000, ((fun r => .tp [.sl 1 (r.1.map eI), .b r.2])) (Qdf t l)) :=
 (show HZ4 22 _ = fnG e22 d22 (fun a => (fun (t : List Int) (l : List (List Int)) => t.length ≤ 1000000 ∧ l.length ≤ 1000000) a.1 a.2) (fun a => (fun (t : List Int) (l : List (List Int)) => Qdf t l) a.1 a.2) (fun r => .tp [.sl 1 (r.1.map eI), .b r.2]) (e22 (t, l)) from rfl).trans (Qb4 _ (Qwi _))
theorem W23 (t : List Int) (h : IsTak t.length t ∧ t.length ≤ 1000000) : Qak Try.prog 23 [.sl 1 (t.map eI)] (.sl 1 ((bkN t t.length).map eI)) := by
 refine Qaj Qw0 hmix Try.func23 cb23 cc23 cs23 cn23 ?_
 obtain ⟨hT, hl⟩ := h
 have f0 : Qay t.length := by unfold Qay; omega
 simp only [rc23, rs23, Int.le_refl, Q1, Qa9, Qa8, Qac, Qa4, Qae, Qa5, Qa2, Fam.step, Qag, Qck, Qb8, nv, evO, opv, qv, lenV, Qa1, Qa0, Qa3, ↓reduceIte, Nat.reduceEqDiff, Qb, Qe, Qd, Q3, zipA, Q2, true_and, reduceCtorEq, Qf, Q1]
 refine ⟨by omega, ?_⟩
 refine Qcs t.length (fun i => ⟨lkp [(0, .sl 1 (t.map eI)), (3, .rf 0 0 0 t.length 1), (4, .i i)], [.cells 0 ((bkN t i).map eI).flatten]⟩) ?_ ?_ ?_
 ·have e0 : ((bkN t 0).map eI).flatten = (List.replicate t.length [V.i 0]).flatten := by
   unfold bkN
   rw [List.map_replicate]; rfl
  simp only [Ze, e0, kp, Qa0, Qa3, ↓reduceIte, Nat.reduceEqDiff, Qb, Qe, reduceCtorEq]
 ·intro i hi
  obtain ⟨x, hx⟩ : ∃ x, t[i]? = some x := ⟨_, Q0 hi⟩
  have ex := Qrc hx
  have hx2 := hT.at hi
  rw [ex] at hx2
  have hlt : (i : Int) < t.length := by omega
  have h3 : inI ((i : Int) + 1) := by unfold inI; omega
  have s1 := Qgh (bkN t i) x.toNat i (by rw [Qh6]; omega)
  have e1 : (bkN t i).set x.toNat i = bkN t (i + 1) := by rw [bkN, ex]
  rw [e1] at s1
  unfold putAt at s1
  simp only [Qc, Qd, Qi] at s1
  have l1 := Qet (bkN t i)
  rw [Qh6] at l1
  have k1 : x.toNat + 1 ≤ t.length := by omega
  simp only [hx, hlt, h3, hx2, s1, l1, k1, Zw, Zg, Zf, Qad, Qa9, Qa8, Qab, Qac, Qa4, putB, Qae, Qai, Qa5, Qa2, Fam.step, Qag, Qck, Qb8, putB, nv, sv, evO, opv, qv, binV, ldV, iadV, lenV, putAt, V.cells, Qar, Qbw, kp, Qa1, Qc8, Qa0, Qa3, ↓reduceIte, Nat.reduceEqDiff, Nat.reduceLeDiff, Qb, Qe, Qr, Qq, Qc, Qd, Qh, Qu, Qn, Zk, Q2, Qi, Qm, Qa, decide_true, and_self, reduceCtorEq, Q4, Qf, Q1, Qp, Qy, eI]
 ·have hlt : ¬ ((t.length : Int) < t.length) := by omega
  have l1 := Qet (bkN t t.length)
  rw [Qh6] at l1
  have c1 := Qel (bkN t t.length)
  rw [Qh6] at c1
  simp only [hlt, l1, c1, Zw, Zx, vw_I, Qa9, Qa8, Qab, Qb1, Qaf, Qa4, Qae, Qai, Qa5, Qa2, Fam.step, Qag, evO, opv, qv, binV, lenV, Qa1, Qa0, Qa3, ↓reduceIte, Nat.reduceEqDiff, Qb, Qe, Qu, endQ, rvs, rv1, resV, Qez, Qi, Qa, decide_false, and_self, reduceCtorEq, Qf]
def e23 (a : List Int) : List V := [.sl 1 (a.map eI)]
def d23 : List V → List Int | [.sl _ x0] => (x0.map dI) | _ => ([])
theorem Qwj (a : List Int) : d23 (e23 a) = a := by simp [d23, e23, Function.comp_def, Qcx]
noncomputable def HZ5 : Gam := HZ4.ext 23 (fnG e23 d23 (fun a => (fun (t : List Int) => IsTak t.length t ∧ t.length ≤ 1000000) a) (fun a => (fun (t : List Int) => bkN t t.length) a) (fun l => .sl 1 (l.map eI)))
theorem Qxn : GOk Try.prog HZ5 := Qw0.ext (f := 23) (fun a w => Try.call23 a w) (Qb2 (e := e23) (d := d23) (ok := (fun a => (fun (t : List Int) => IsTak t.length t ∧ t.length ≤ 1000000) a)) (g := (fun a => (fun (t : List Int) => bkN t t.length) a)) (eb := (fun l => .sl 1 (l.map eI))) fun a h => W23 a h)
theorem h23 (t : List Int) : HZ5 23 [.sl 1 (t.map eI)] = (IsTak t.length t ∧ t.length ≤ 1000000, ((fun l => .sl 1 (l.map eI))) (bkN t t.length)) :=
 (show HZ5 23 _ = fnG e23 d23 (fun a => (fun (t : List Int) => IsTak t.length t ∧ t.length ≤ 1000000) a) (fun a => (fun (t : List Int) => bkN t t.length) a) (fun l => .sl 1 (l.map eI)) (e23 (t)) from rfl).trans (Qb4 _ (Qwj _))
end Go.C10
set_option linter.unusedSimpArgs false
set_option linter.unusedVariables false
namespace Go.C10
open Go.Fam Go.Proofs
variable {Γ : Gam}
theorem Qsc {t : List Int} (hT : IsTak t.length t) (h7 : t.length ≤ 7) : ∃ L, Qde t = (L, 0) ∧ L.length = mN t ∧ Qc9 t.length L t = some (exS t t.length).1 ∧ Qbz (exS t t.length).1 = true := by
 have hB : takB t = true := (Qhs t).2 ⟨h7, hT⟩
 have h0 : takE t = 0 := by unfold takE; rw [if_pos hB]
 obtain ⟨h1, _, _⟩ := Qky hT t.length (Zx _)
 refine ⟨(exS t t.length).2, by unfold Qde; rw [if_pos h0], Qs9 hT, Qms hT _ (Zx _), ?_⟩
 rw [Qmd h1]
 exact Qoz hT
theorem Qjp {t : List Int} (hT : IsTak t.length t) (h7 : t.length ≤ 7) : (((Qde t).1.length : Nat) : Int) = mN t ∧ (Qde t).2 = 0 := by
 obtain ⟨L, e, hl, _⟩ := Qsc hT h7
 rw [e]; exact ⟨by rw [hl], rfl⟩
theorem h15Z : HZ5 15 [] = (True, .b true) := (show HZ5 15 [] = HN10 15 [] from rfl).trans h15
theorem Qu6 (t : List Int)  : HZ5 18 [.sl 1 (t.map eI)] = (t.length ≤ 1000000, .b (takB t)) := h18 t
theorem Qof (t : List Int)  : HZ5 19 [.sl 1 (t.map eI)] = (t.length ≤ 1000000, ((fun r => .tp [.i r.1.length, .i r.2])) (Qde t)) := h19 t
theorem Qrb (t : List Int)  : HZ5 20 [.sl 1 (t.map eI)] = (t.length ≤ 1000000, .b (Qbz t)) := h20 t
theorem Qu7 (t : List Int) (a : Int) (b : Int)  : HZ5 21 [.sl 1 (t.map eI), .i a, .i b] = (t.length ≤ 1000000 ∧ inB t a ∧ inB t b, ((fun l => .sl 1 (l.map eI))) (Qc1 t a b)) := h21 t a b
theorem Qu8 (t : List Int) (l : List (List Int))  : HZ5 22 [.sl 1 (t.map eI), .sl 1 (l.map eCan)] = (t.length ≤ 1000000 ∧ l.length ≤ 1000000, ((fun r => .tp [.sl 1 (r.1.map eI), .b r.2])) (Qdf t l)) := h22 t l
theorem Qu9 (t : List Int)  : HZ5 23 [.sl 1 (t.map eI)] = (IsTak t.length t ∧ t.length ≤ 1000000, ((fun l => .sl 1 (l.map eI))) (bkN t t.length)) := h23 t
set_option maxRecDepth 100000 in
set_option maxHeartbeats 8000000 in
theorem P4 (t : List Int) (a b : Int) (l : List (List Int)) : Qak Try.prog 4 [.sl 1 (t.map eI), .ag [.i a, .i b], .sl 1 (l.map eCan)] (.b true) := by
 refine Qaj Qxn hmix Try.func4 cb4 cc4 cs4 cn4 ?_
 have g1 := Qu6 t
 have g2 := Qof t
 have g3 := Qrb t
 have g4 := Qu7 t a b
 have g5 := Qof (Qc1 t a b)
 have g6 := Qu8 t l
 have g8 := Qu9 t
 have g9 := Qof (bkN t t.length)
 by_cases h20 : (20 : Int) < t.length
 ·simp only [rc4, rs4, h20, h15Z, Qa9, Qa8, Qab, Qaf, Qa4, Qae, Qa5, Qa2, Fam.step, Qag, Qau, Qap, ug, evO, opv, qv, Qah, Qe9, binV, lenV, Qao, V.cells, Qar, Qaa, Qa6, flat, Qa1, Qa0, Qa3, ↓reduceIte, Nat.reduceEqDiff, Nat.reduceAdd, Nat.reduceLT, Qb, Qe, Qr, Qq, Qj, endQ, rvs, rv1, resV, vw_i, vw_b, Qal, Qas, zipA, Qi, Qm, Qs, Ql, Qt, Qa, Qo, decide_true, true_and, and_true, and_self, false_and, forall_const, false_implies, implies_true, reduceCtorEq, beq_false, imp_self, Qf]
 by_cases l20 : (20 : Int) < l.length
 ·simp only [rc4, rs4, h20, l20, h15Z, Qa9, Qa8, Qab, Qaf, Qa4, Qae, Qa5, Qa2, Fam.step, Qag, Qau, Qap, ug, evO, opv, qv, Qah, Qe9, binV, lenV, Qao, V.cells, Qar, Qaa, Qa6, flat, Qa1, Qa0, Qa3, ↓reduceIte, Nat.reduceEqDiff, Nat.reduceAdd, Nat.reduceLT, Qb, Qe, Qr, Qq, Qj, endQ, rvs, rv1, resV, vw_i, vw_b, Qal, Qas, zipA, beq_self_eq_true, Qi, Qm, Qs, Ql, Qt, Qa, Qo, decide_true, decide_false, true_and, and_true, and_self, false_and, forall_const, false_implies, implies_true, reduceCtorEq, beq_false, imp_self, Qf]
 have htl : t.length ≤ 1000000 := by omega
 have hll : l.length ≤ 1000000 := by omega
 cases hB : takB t with
 | false => simp only [rc4, rs4, h20, l20, h15Z, g1, htl, hB, Qa9, Qa8, Qab, Qaf, Qa4, Qae, Qa5, Qa2, Fam.step, Qag, Qau, Qap, ug, evO, opv, qv, Qah, binV, lenV, Qao, V.cells, Qar, Qaa, Qa6, flat, Qa1, Qa0, Qa3, ↓reduceIte, Nat.reduceEqDiff, Nat.reduceAdd, Nat.reduceLT, Qb, Qe, Qr, Qq, Qj, endQ, rvs, rv1, resV, vw_i, vw_b, Qal, Qas, zipA, beq_self_eq_true, Qi, Qm, Ql, Qv, Qa, decide_false, and_self, forall_const, implies_true, reduceCtorEq, Qf]
 | true =>
  obtain ⟨h7, hT⟩ := (Qhs t).1 hB
  obtain ⟨c1, c2⟩ := Qjp hT h7
  obtain ⟨N, hN⟩ : ∃ N : Int, N = mN t := ⟨_, rfl⟩
  simp only [c1, c2, ← hN] at g2
  have hle := Qut hT
  have N0 : ¬ N < 0 := by omega
  have Nm : ¬ max 0 ((t.length : Int) - 1) < N := by omega
  have i1 : inI ((t.length : Int) - 1) ∧ inI (N - 1) ∧ inI (N + 1) := by unfold inI; omega
  obtain ⟨rb, hrb⟩ : ∃ r, r = Qbz t := ⟨_, rfl⟩
  have hd : decide (N = 0) = rb := by
   rw [hrb, Bool.eq_iff_iff, decide_eq_true_eq, Qmd hT]; omega
  rw [← hrb] at g3
  have hbT := Qre hT
  have hbl := Qh6 t t.length
  have hbs : (bkN t t.length).length ≤ 1000000 := by omega
  obtain ⟨b1, b2⟩ := Qjp (t := bkN t t.length) (by rw [hbl]; exact hbT) (by omega)
  simp only [b1, b2, bk_m hT, ← hN] at g9
  have hTT : (IsTak t.length t ∧ t.length ≤ 1000000) = True := eq_true ⟨hT, htl⟩
  rw [hTT] at g8
  have tail : Qdf t l = ([], false) ∨ (∃ p, Qdf t l = (p, true) ∧ p.length ≤ 1000000 ∧ Qbz p = false) ∨ ∃ p, Qdf t l = (p, true) ∧ p.length ≤ 1000000 ∧ Qbz p = true ∧ ¬ (l.length : Int) < N := by
   unfold Qdf
   cases ha : Qc9 t.length l t with
   | none => exact .inl rfl
   | some p =>
    obtain ⟨hp, hlen⟩ := Qkl l t p hT ha
    have hpl := hp.size
    cases hr : Qbz p with
    | false => exact .inr (.inl ⟨p, rfl, by omega, hr⟩)
    | true =>
     refine .inr (.inr ⟨p, rfl, by omega, hr, ?_⟩)
     rw [← hpl] at hp
     have := (Qmd hp).1 hr
     omega
  have fin : ∀ p, HZ5 20 [.sl 1 (p.map eI)] = (p.length ≤ 1000000, .b (Qbz p)) := fun p => Qrb p
  by_cases a0 : 0 ≤ a
  rotate_left
  ·rcases tail with e | ⟨p, e, hp, hr⟩ | ⟨p, e, hp, hr, hnl⟩ <;> rw [e] at g6 <;> try have g7 := fin p
   ·simp only [rc4, rs4, h20, l20, h15Z, g1, g2, g3, g6, g8, g9, htl, hll, hB, N0, Nm, i1, hd, hbs, a0, Qad, Qa9, Qa8, Qab, Qaf, Qa4, Qae, Qa5, Qa2, Fam.step, Qag, Qau, Qap, ug, evO, opv, qv, Qah, Qdl, binV, ldV, lenV, Qao, V.cells, Qar, Qaa, Qa6, flat, Qby, Qa1, Qa0, Qa3, ↓reduceIte, Nat.reduceEqDiff, Nat.reduceAdd, Nat.reduceLT, Nat.reduceLeDiff, Qb, Qe, Qr, Qq, Qc, Qd, Qg, Qk, Qh, Qj, Qu, Qx, Qn, endQ, rvs, rv1, resV, vw_i, vw_b, Qal, Qas, zipA, beq_self_eq_true, Qi, Qm, Qs, Ql, Qt, Qa, Qo, decide_true, decide_false, true_and, and_true, and_self, false_and, forall_const, false_implies, implies_true, reduceCtorEq, beq_true, Zd, imp_self, Qf]
   ·simp only [rc4, rs4, h20, l20, h15Z, g1, g2, g3, g6, g8, g9, htl, hll, hB, N0, Nm, i1, hd, hbs, g7, hp, hr, a0, Qad, Qa9, Qa8, Qab, Qaf, Qa4, Qae, Qa5, Qa2, Fam.step, Qag, Qau, Qap, ug, evO, opv, qv, Qah, binV, ldV, lenV, Qao, V.cells, Qar, Qaa, Qa6, flat, Qby, Qa1, Qa0, Qa3, ↓reduceIte, Nat.reduceEqDiff, Nat.reduceAdd, Nat.reduceLT, Nat.reduceLeDiff, Qb, Qe, Qr, Qq, Qc, Qd, Qg, Qk, Qh, Qj, Qu, Qx, Qn, endQ, rvs, rv1, resV, vw_i, vw_b, Qal, Qas, zipA, beq_self_eq_true, Qi, Qm, Qs, Ql, Qt, Qa, Qo, decide_true, decide_false, and_true, and_self, forall_const, implies_true, reduceCtorEq, beq_true, Zd, imp_self, Qf]
   ·simp only [rc4, rs4, h20, l20, h15Z, g1, g2, g3, g6, g8, g9, htl, hll, hB, N0, Nm, i1, hd, hbs, g7, hp, hr, hnl, a0, Qad, Qa9, Qa8, Qab, Qaf, Qa4, Qae, Qa5, Qa2, Fam.step, Qag, Qau, Qap, ug, evO, opv, qv, Qah, binV, ldV, lenV, Qao, V.cells, Qar, Qaa, Qa6, flat, Qby, Qa1, Qa0, Qa3, ↓reduceIte, Nat.reduceEqDiff, Nat.reduceAdd, Nat.reduceLT, Nat.reduceLeDiff, Qb, Qe, Qr, Qq, Qc, Qd, Qg, Qk, Qh, Qj, Qu, Qx, Qn, endQ, rvs, rv1, resV, vw_i, vw_b, Qal, Qas, zipA, beq_self_eq_true, Qi, Qm, Qs, Ql, Qt, Qa, Qo, decide_true, decide_false, and_true, and_self, forall_const, implies_true, reduceCtorEq, beq_true, Zd, imp_self, Qf]
  by_cases a1 : a < t.length
  rotate_left
  ·rcases tail with e | ⟨p, e, hp, hr⟩ | ⟨p, e, hp, hr, hnl⟩ <;> rw [e] at g6 <;> try have g7 := fin p
   ·simp only [rc4, rs4, h20, l20, h15Z, g1, g2, g3, g6, g8, g9, htl, hll, hB, N0, Nm, i1, hd, hbs, a0, a1, Qad, Qa9, Qa8, Qab, Qaf, Qa4, Qae, Qa5, Qa2, Fam.step, Qag, Qau, Qap, ug, evO, opv, qv, Qah, Qdl, binV, ldV, lenV, Qao, V.cells, Qar, Qaa, Qa6, flat, Qby, Qa1, Qa0, Qa3, ↓reduceIte, Nat.reduceEqDiff, Nat.reduceAdd, Nat.reduceLT, Nat.reduceLeDiff, Qb, Qe, Qr, Qq, Qc, Qd, Qg, Qk, Qh, Qj, Qu, Qx, Qn, endQ, rvs, rv1, resV, vw_i, vw_b, Qal, Qas, zipA, beq_self_eq_true, Qi, Qm, Qs, Ql, Qt, Qa, Qo, decide_true, decide_false, true_and, and_true, and_self, false_and, forall_const, false_implies, implies_true, reduceCtorEq, beq_true, Zd, imp_self, Qf]
   ·simp only [rc4, rs4, h20, l20, h15Z, g1, g2, g3, g6, g8, g9, htl, hll, hB, N0, Nm, i1, hd, hbs, g7, hp, hr, a0, a1, Qad, Qa9, Qa8, Qab, Qaf, Qa4, Qae, Qa5, Qa2, Fam.step, Qag, Qau, Qap, ug, evO, opv, qv, Qah, binV, ldV, lenV, Qao, V.cells, Qar, Qaa, Qa6, flat, Qby, Qa1, Qa0, Qa3, ↓reduceIte, Nat.reduceEqDiff, Nat.reduceAdd, Nat.reduceLT, Nat.reduceLeDiff, Qb, Qe, Qr, Qq, Qc, Qd, Qg, Qk, Qh, Qj, Qu, Qx, Qn, endQ, rvs, rv1, resV, vw_i, vw_b, Qal, Qas, zipA, beq_self_eq_true, Qi, Qm, Qs, Ql, Qt, Qa, Qo, decide_true, decide_false, and_true, and_self, forall_const, implies_true, reduceCtorEq, beq_true, Zd, imp_self, Qf]
   ·simp only [rc4, rs4, h20, l20, h15Z, g1, g2, g3, g6, g8, g9, htl, hll, hB, N0, Nm, i1, hd, hbs, g7, hp, hr, hnl, a0, a1, Qad, Qa9, Qa8, Qab, Qaf, Qa4, Qae, Qa5, Qa2, Fam.step, Qag, Qau, Qap, ug, evO, opv, qv, Qah, binV, ldV, lenV, Qao, V.cells, Qar, Qaa, Qa6, flat, Qby, Qa1, Qa0, Qa3, ↓reduceIte, Nat.reduceEqDiff, Nat.reduceAdd, Nat.reduceLT, Nat.reduceLeDiff, Qb, Qe, Qr, Qq, Qc, Qd, Qg, Qk, Qh, Qj, Qu, Qx, Qn, endQ, rvs, rv1, resV, vw_i, vw_b, Qal, Qas, zipA, beq_self_eq_true, Qi, Qm, Qs, Ql, Qt, Qa, Qo, decide_true, decide_false, and_true, and_self, forall_const, implies_true, reduceCtorEq, beq_true, Zd, imp_self, Qf]
  by_cases b0 : 0 ≤ b
  rotate_left
  ·rcases tail with e | ⟨p, e, hp, hr⟩ | ⟨p, e, hp, hr, hnl⟩ <;> rw [e] at g6 <;> try have g7 := fin p
   ·simp only [rc4, rs4, h20, l20, h15Z, g1, g2, g3, g6, g8, g9, htl, hll, hB, N0, Nm, i1, hd, hbs, a0, a1, b0, Qad, Qa9, Qa8, Qab, Qaf, Qa4, Qae, Qa5, Qa2, Fam.step, Qag, Qau, Qap, ug, evO, opv, qv, Qah, Qdl, binV, ldV, lenV, Qao, V.cells, Qar, Qaa, Qa6, flat, Qby, Qa1, Qa0, Qa3, ↓reduceIte, Nat.reduceEqDiff, Nat.reduceAdd, Nat.reduceLT, Nat.reduceLeDiff, Qb, Qe, Qr, Qq, Qc, Qd, Qg, Qk, Qh, Qj, Qu, Qx, Qn, endQ, rvs, rv1, resV, vw_i, vw_b, Qal, Qas, zipA, beq_self_eq_true, Qi, Qm, Qs, Ql, Qt, Qa, Qo, decide_true, decide_false, true_and, and_true, and_self, false_and, forall_const, false_implies, implies_true, reduceCtorEq, beq_true, Zd, imp_self, Qf]
   ·simp only [rc4, rs4, h20, l20, h15Z, g1, g2, g3, g6, g8, g9, htl, hll, hB, N0, Nm, i1, hd, hbs, g7, hp, hr, a0, a1, b0, Qad, Qa9, Qa8, Qab, Qaf, Qa4, Qae, Qa5, Qa2, Fam.step, Qag, Qau, Qap, ug, evO, opv, qv, Qah, binV, ldV, lenV, Qao, V.cells, Qar, Qaa, Qa6, flat, Qby, Qa1, Qa0, Qa3, ↓reduceIte, Nat.reduceEqDiff, Nat.reduceAdd, Nat.reduceLT, Nat.reduceLeDiff, Qb, Qe, Qr, Qq, Qc, Qd, Qg, Qk, Qh, Qj, Qu, Qx, Qn, endQ, rvs, rv1, resV, vw_i, vw_b, Qal, Qas, zipA, beq_self_eq_true, Qi, Qm, Qs, Ql, Qt, Qa, Qo, decide_true, decide_false, and_true, and_self, forall_const, implies_true, reduceCtorEq, beq_true, Zd, imp_self, Qf]
   ·simp only [rc4, rs4, h20, l20, h15Z, g1, g2, g3, g6, g8, g9, htl, hll, hB, N0, Nm, i1, hd, hbs, g7, hp, hr, hnl, a0, a1, b0, Qad, Qa9, Qa8, Qab, Qaf, Qa4, Qae, Qa5, Qa2, Fam.step, Qag, Qau, Qap, ug, evO, opv, qv, Qah, binV, ldV, lenV, Qao, V.cells, Qar, Qaa, Qa6, flat, Qby, Qa1, Qa0, Qa3, ↓reduceIte, Nat.reduceEqDiff, Nat.reduceAdd, Nat.reduceLT, Nat.reduceLeDiff, Qb, Qe, Qr, Qq, Qc, Qd, Qg, Qk, Qh, Qj, Qu, Qx, Qn, endQ, rvs, rv1, resV, vw_i, vw_b, Qal, Qas, zipA, beq_self_eq_true, Qi, Qm, Qs, Ql, Qt, Qa, Qo, decide_true, decide_false, and_true, and_self, forall_const, implies_true, reduceCtorEq, beq_true, Zd, imp_self, Qf]
  by_cases b1 : b < t.length
  rotate_left
  ·rcases tail with e | ⟨p, e, hp, hr⟩ | ⟨p, e, hp, hr, hnl⟩ <;> rw [e] at g6 <;> try have g7 := fin p
   ·simp only [rc4, rs4, h20, l20, h15Z, g1, g2, g3, g6, g8, g9, htl, hll, hB, N0, Nm, i1, hd, hbs, a0, a1, b0, b1, Qad, Qa9, Qa8, Qab, Qaf, Qa4, Qae, Qa5, Qa2, Fam.step, Qag, Qau, Qap, ug, evO, opv, qv, Qah, Qdl, binV, ldV, lenV, Qao, V.cells, Qar, Qaa, Qa6, flat, Qby, Qa1, Qa0, Qa3, ↓reduceIte, Nat.reduceEqDiff, Nat.reduceAdd, Nat.reduceLT, Nat.reduceLeDiff, Qb, Qe, Qr, Qq, Qc, Qd, Qg, Qk, Qh, Qj, Qu, Qx, Qn, endQ, rvs, rv1, resV, vw_i, vw_b, Qal, Qas, zipA, beq_self_eq_true, Qi, Qm, Qs, Ql, Qt, Qa, Qo, decide_true, decide_false, true_and, and_true, and_self, false_and, forall_const, false_implies, implies_true, reduceCtorEq, beq_true, Zd, imp_self, Qf]
   ·simp only [rc4, rs4, h20, l20, h15Z, g1, g2, g3, g6, g8, g9, htl, hll, hB, N0, Nm, i1, hd, hbs, g7, hp, hr, a0, a1, b0, b1, Qad, Qa9, Qa8, Qab, Qaf, Qa4, Qae, Qa5, Qa2, Fam.step, Qag, Qau, Qap, ug, evO, opv, qv, Qah, binV, ldV, lenV, Qao, V.cells, Qar, Qaa, Qa6, flat, Qby, Qa1, Qa0, Qa3, ↓reduceIte, Nat.reduceEqDiff, Nat.reduceAdd, Nat.reduceLT, Nat.reduceLeDiff, Qb, Qe, Qr, Qq, Qc, Qd, Qg, Qk, Qh, Qj, Qu, Qx, Qn, endQ, rvs, rv1, resV, vw_i, vw_b, Qal, Qas, zipA, beq_self_eq_true, Qi, Qm, Qs, Ql, Qt, Qa, Qo, decide_true, decide_false, and_true, and_self, forall_const, implies_true, reduceCtorEq, beq_true, Zd, imp_self, Qf]
   ·simp only [rc4, rs4, h20, l20, h15Z, g1, g2, g3, g6, g8, g9, htl, hll, hB, N0, Nm, i1, hd, hbs, g7, hp, hr, hnl, a0, a1, b0, b1, Qad, Qa9, Qa8, Qab, Qaf, Qa4, Qae, Qa5, Qa2, Fam.step, Qag, Qau, Qap, ug, evO, opv, qv, Qah, binV, ldV, lenV, Qao, V.cells, Qar, Qaa, Qa6, flat, Qby, Qa1, Qa0, Qa3, ↓reduceIte, Nat.reduceEqDiff, Nat.reduceAdd, Nat.reduceLT, Nat.reduceLeDiff, Qb, Qe, Qr, Qq, Qc, Qd, Qg, Qk, Qh, Qj, Qu, Qx, Qn, endQ, rvs, rv1, resV, vw_i, vw_b, Qal, Qas, zipA, beq_self_eq_true, Qi, Qm, Qs, Ql, Qt, Qa, Qo, decide_true, decide_false, and_true, and_self, forall_const, implies_true, reduceCtorEq, beq_true, Zd, imp_self, Qf]
  by_cases ab : a = b
  ·rcases tail with e | ⟨p, e, hp, hr⟩ | ⟨p, e, hp, hr, hnl⟩ <;> rw [e] at g6 <;> try have g7 := fin p
   ·simp only [rc4, rs4, h20, l20, h15Z, g1, g2, g3, g6, g8, g9, htl, hll, hB, N0, Nm, i1, hd, hbs, b0, b1, ab, Qad, Qa9, Qa8, Qab, Qaf, Qa4, Qae, Qa5, Qa2, Fam.step, Qag, Qau, Qap, ug, evO, opv, qv, Qah, Qdl, binV, ldV, lenV, Qao, V.cells, Qar, Qaa, Qa6, flat, Qby, Qa1, Qa0, Qa3, ↓reduceIte, Nat.reduceEqDiff, Nat.reduceAdd, Nat.reduceLT, Nat.reduceLeDiff, Qb, Qe, Qr, Qq, Qc, Qd, Qg, Qk, Qh, Qj, Qu, Qx, Qn, endQ, rvs, rv1, resV, vw_i, vw_b, Qal, Qas, zipA, beq_self_eq_true, Qi, Qm, Qs, Ql, Qt, Qa, Qo, decide_true, decide_false, true_and, and_true, and_self, false_and, forall_const, false_implies, implies_true, reduceCtorEq, beq_true, Zd, imp_self, Qf]
   ·simp only [rc4, rs4, h20, l20, h15Z, g1, g2, g3, g6, g8, g9, htl, hll, hB, N0, Nm, i1, hd, hbs, g7, hp, hr, b0, b1, ab, Qad, Qa9, Qa8, Qab, Qaf, Qa4, Qae, Qa5, Qa2, Fam.step, Qag, Qau, Qap, ug, evO, opv, qv, Qah, binV, ldV, lenV, Qao, V.cells, Qar, Qaa, Qa6, flat, Qby, Qa1, Qa0, Qa3, ↓reduceIte, Nat.reduceEqDiff, Nat.reduceAdd, Nat.reduceLT, Nat.reduceLeDiff, Qb, Qe, Qr, Qq, Qc, Qd, Qg, Qk, Qh, Qj, Qu, Qx, Qn, endQ, rvs, rv1, resV, vw_i, vw_b, Qal, Qas, zipA, beq_self_eq_true, Qi, Qm, Qs, Ql, Qt, Qa, Qo, decide_true, decide_false, and_true, and_self, forall_const, implies_true, reduceCtorEq, beq_true, Zd, imp_self, Qf]
   ·simp only [rc4, rs4, h20, l20, h15Z, g1, g2, g3, g6, g8, g9, htl, hll, hB, N0, Nm, i1, hd, hbs, g7, hp, hr, hnl, b0, b1, ab, Qad, Qa9, Qa8, Qab, Qaf, Qa4, Qae, Qa5, Qa2, Fam.step, Qag, Qau, Qap, ug, evO, opv, qv, Qah, binV, ldV, lenV, Qao, V.cells, Qar, Qaa, Qa6, flat, Qby, Qa1, Qa0, Qa3, ↓reduceIte, Nat.reduceEqDiff, Nat.reduceAdd, Nat.reduceLT, Nat.reduceLeDiff, Qb, Qe, Qr, Qq, Qc, Qd, Qg, Qk, Qh, Qj, Qu, Qx, Qn, endQ, rvs, rv1, resV, vw_i, vw_b, Qal, Qas, zipA, beq_self_eq_true, Qi, Qm, Qs, Ql, Qt, Qa, Qo, decide_true, decide_false, and_self, forall_const, implies_true, reduceCtorEq, Zd, imp_self, Qf]
  have hab : (t.length ≤ 1000000 ∧ inB t a ∧ inB t b) = True := eq_true ⟨htl, ⟨a0, by omega⟩, b0, by omega⟩
  simp only [hab] at g4
  have hsT := Qd4 hT (a := a) (b := b) ⟨a0, a1⟩ ⟨b0, b1⟩
  have hsl := Qfd t a b
  obtain ⟨d1, d2⟩ := Qjp (t := Qc1 t a b) (by rw [hsl]; exact hsT) (by omega)
  obtain ⟨M, hM⟩ : ∃ M : Int, M = mN (Qc1 t a b) := ⟨_, rfl⟩
  simp only [d1, d2, ← hM] at g5
  have hss : (Qc1 t a b).length ≤ 1000000 := by omega
  have hMN : M = N - 1 ∨ (M = N + 1 ∧ ¬ N + 1 = N - 1) := by
   have := Qpg hT (a := a) (b := b) ⟨a0, a1⟩ ⟨b0, b1⟩ ab
   omega
  rcases hMN with hm | ⟨hm, hm2⟩
  ·rcases tail with e | ⟨p, e, hp, hr⟩ | ⟨p, e, hp, hr, hnl⟩ <;> rw [e] at g6 <;> try have g7 := fin p
   ·simp only [rc4, rs4, h20, l20, h15Z, g1, g2, g3, g6, g8, g9, htl, hll, hB, N0, Nm, i1, hd, hbs, a0, a1, b0, b1, ab, g4, g5, hss, hm, Qad, Qa9, Qa8, Qab, Qaf, Qa4, Qae, Qa5, Qa2, Fam.step, Qag, Qau, Qap, ug, evO, opv, qv, Qah, Qdl, binV, ldV, lenV, Qao, V.cells, Qar, Qaa, Qa6, flat, Qby, Qa1, Qa0, Qa3, ↓reduceIte, Nat.reduceEqDiff, Nat.reduceAdd, Nat.reduceLT, Nat.reduceLeDiff, Qb, Qe, Qr, Qq, Qc, Qd, Qg, Qk, Qh, Qj, Qu, Qx, Qn, endQ, rvs, rv1, resV, vw_i, vw_b, Qal, Qas, zipA, beq_self_eq_true, Qi, Qm, Qs, Zh, Ql, Qt, Qv, Qa, Qo, decide_true, decide_false, true_and, and_true, and_self, false_and, forall_const, false_implies, implies_true, reduceCtorEq, beq_true, Zd, imp_self, Qf]
   ·simp only [rc4, rs4, h20, l20, h15Z, g1, g2, g3, g6, g8, g9, htl, hll, hB, N0, Nm, i1, hd, hbs, g7, hp, hr, a0, a1, b0, b1, ab, g4, g5, hss, hm, Qad, Qa9, Qa8, Qab, Qaf, Qa4, Qae, Qa5, Qa2, Fam.step, Qag, Qau, Qap, ug, evO, opv, qv, Qah, binV, ldV, lenV, Qao, V.cells, Qar, Qaa, Qa6, flat, Qby, Qa1, Qa0, Qa3, ↓reduceIte, Nat.reduceEqDiff, Nat.reduceAdd, Nat.reduceLT, Nat.reduceLeDiff, Qb, Qe, Qr, Qq, Qc, Qd, Qg, Qk, Qh, Qj, Qu, Qx, Qn, endQ, rvs, rv1, resV, vw_i, vw_b, Qal, Qas, zipA, beq_self_eq_true, Qi, Qm, Qs, Zh, Ql, Qt, Qv, Qa, Qo, decide_true, decide_false, and_true, and_self, forall_const, implies_true, reduceCtorEq, beq_true, Zd, imp_self, Qf]
   ·simp only [rc4, rs4, h20, l20, h15Z, g1, g2, g3, g6, g8, g9, htl, hll, hB, N0, Nm, i1, hd, hbs, g7, hp, hr, hnl, a0, a1, b0, b1, ab, g4, g5, hss, hm, Qad, Qa9, Qa8, Qab, Qaf, Qa4, Qae, Qa5, Qa2, Fam.step, Qag, Qau, Qap, ug, evO, opv, qv, Qah, binV, ldV, lenV, Qao, V.cells, Qar, Qaa, Qa6, flat, Qby, Qa1, Qa0, Qa3, ↓reduceIte, Nat.reduceEqDiff, Nat.reduceAdd, Nat.reduceLT, Nat.reduceLeDiff, Qb, Qe, Qr, Qq, Qc, Qd, Qg, Qk, Qh, Qj, Qu, Qx, Qn, endQ, rvs, rv1, resV, vw_i, vw_b, Qal, Qas, zipA, beq_self_eq_true, Qi, Qm, Qs, Zh, Ql, Qt, Qv, Qa, Qo, decide_true, decide_false, and_true, and_self, forall_const, implies_true, reduceCtorEq, beq_true, Zd, imp_self, Qf]
  ·rcases tail with e | ⟨p, e, hp, hr⟩ | ⟨p, e, hp, hr, hnl⟩ <;> rw [e] at g6 <;> try have g7 := fin p
   ·simp only [rc4, rs4, h20, l20, h15Z, g1, g2, g3, g6, g8, g9, htl, hll, hB, N0, Nm, i1, hd, hbs, a0, a1, b0, b1, ab, g4, g5, hss, hm, hm2, Qad, Qa9, Qa8, Qab, Qaf, Qa4, Qae, Qa5, Qa2, Fam.step, Qag, Qau, Qap, ug, evO, opv, qv, Qah, Qdl, binV, ldV, lenV, Qao, V.cells, Qar, Qaa, Qa6, flat, Qby, Qa1, Qa0, Qa3, ↓reduceIte, Nat.reduceEqDiff, Nat.reduceAdd, Nat.reduceLT, Nat.reduceLeDiff, Qb, Qe, Qr, Qq, Qc, Qd, Qg, Qk, Qh, Qj, Qu, Qx, Qn, endQ, rvs, rv1, resV, vw_i, vw_b, Qal, Qas, zipA, beq_self_eq_true, Qi, Qm, Qs, Ql, Qt, Qv, Qa, Qo, decide_true, decide_false, true_and, and_true, and_self, false_and, forall_const, false_implies, implies_true, reduceCtorEq, beq_true, Zd, imp_self, Qf]
   ·simp only [rc4, rs4, h20, l20, h15Z, g1, g2, g3, g6, g8, g9, htl, hll, hB, N0, Nm, i1, hd, hbs, g7, hp, hr, a0, a1, b0, b1, ab, g4, g5, hss, hm, hm2, Qad, Qa9, Qa8, Qab, Qaf, Qa4, Qae, Qa5, Qa2, Fam.step, Qag, Qau, Qap, ug, evO, opv, qv, Qah, binV, ldV, lenV, Qao, V.cells, Qar, Qaa, Qa6, flat, Qby, Qa1, Qa0, Qa3, ↓reduceIte, Nat.reduceEqDiff, Nat.reduceAdd, Nat.reduceLT, Nat.reduceLeDiff, Qb, Qe, Qr, Qq, Qc, Qd, Qg, Qk, Qh, Qj, Qu, Qx, Qn, endQ, rvs, rv1, resV, vw_i, vw_b, Qal, Qas, zipA, beq_self_eq_true, Qi, Qm, Qs, Ql, Qt, Qv, Qa, Qo, decide_true, decide_false, and_true, and_self, forall_const, implies_true, reduceCtorEq, beq_true, Zd, imp_self, Qf]
   ·simp only [rc4, rs4, h20, l20, h15Z, g1, g2, g3, g6, g8, g9, htl, hll, hB, N0, Nm, i1, hd, hbs, g7, hp, hr, hnl, a0, a1, b0, b1, ab, g4, g5, hss, hm, hm2, Qad, Qa9, Qa8, Qab, Qaf, Qa4, Qae, Qa5, Qa2, Fam.step, Qag, Qau, Qap, ug, evO, opv, qv, Qah, binV, ldV, lenV, Qao, V.cells, Qar, Qaa, Qa6, flat, Qby, Qa1, Qa0, Qa3, ↓reduceIte, Nat.reduceEqDiff, Nat.reduceAdd, Nat.reduceLT, Nat.reduceLeDiff, Qb, Qe, Qr, Qq, Qc, Qd, Qg, Qk, Qh, Qj, Qu, Qx, Qn, endQ, rvs, rv1, resV, vw_i, vw_b, Qal, Qas, zipA, beq_self_eq_true, Qi, Qm, Qs, Ql, Qt, Qv, Qa, Qo, decide_true, decide_false, and_self, forall_const, implies_true, reduceCtorEq, Zd, imp_self, Qf]
end Go.C10
