import Derived.Test.YtoeiaekighfifaaG3
import Derived.Test.YtoeiaekighfifaaChecked
import Derived.Test.YtoeiaekighfifaaG6
set_option linter.all false
open List renaming map_cons → Qb, map_nil → Qc, length_cons → Qd, length_nil → Qe, length_map → Qg, headD_cons → Qh, drop_succ_cons → Qi, append_nil → Qj, drop_zero → Ql, take_succ_cons → Qm, getD_eq_getElem?_getD → Qn, all_nil → Qp, all_cons → Qq, take_nil → Qu, getElem?_map → Qx, replicate_zero → Qy, getElem?_nil → Qz, getElem?_eq_getElem → Q3, nil_append → Q4, cons_append → Q6, contains_nil → Q7, isEmpty_nil → Q9, any_nil → Zd, mem_of_getElem? → Ze, getElem?_cons_zero → Zf, take_zero → Zg, replicate_succ → Zj, flatten_nil → Zl, getElem?_of_mem → Zm, mem_range → Zn, any_eq_true → Zq, set_cons_zero → Zr, length_append → Zs, all_eq_false → Zt, flatten_cons → Zu, length_filter_le → Zv, all_eq_true → Zw, any_eq_false → Zy, drop_nil → Z0, length_take → Z1, getElem?_cons_succ → Z2, map_append → Z3, getElem?_eq_none → Z5, length_singleton → Z6, flatten_append → Z8, length_pos_iff → Z9, mem_singleton → Xb, take_length → Xg, mem_filter → Xj
open Nat renaming zero_add → Qf, mul_one → Z7, le_trans → Xe, add_zero → Xf, le_refl → Xi
open Bool renaming false_eq_true → Qa, or_false → Qk, and_self → Qo, true_eq_false → Qr, not_true → Qs, and_true → Qt, not_false → Qw, false_and → Q5, or_eq_false_iff → Zh, true_and → Zi, and_false → Zk, and_eq_true → Zp, false_or → Zz, and_eq_false_iff → Z4, true_or → Xc, not_eq_true' → Xd
open Option renaming getD_some → Qv, map_some → Q1, getD_none → Q8, map_none → Zx, some → Xh
open Int renaming natCast_nonneg → Q0, toNat_natCast → Q2, natCast_zero → Za, natCast_one → Zb, natCast_add → Zc, toNat_zero → Zo, lt_irrefl → Xa
set_option maxRecDepth 8000
namespace Go.C10
open Go.Fam Go.Proofs
def rc36 : RC := (.seq (.reg false [(cX 1 0), (cI 2 0)]) (.keep [1] (.seq (.seq (.reg true [(cFa 4 1 0), (cLd 5 4 false 1), (cC 6 .lss 5 0), (cMv 7 6), (gQ 8 7 false [1] (.fad 0 (.t 1))), (gQ 9 7 false [8] (.ld false 1 (.t 8))), (gQ 10 7 false [9] (.bin .gtr (.t 9) (kI 7))), (cQ 11 [7,10] (.pick (.t 7) (kB true) (.t 10))), (cMv 12 11), (gQ 13 12 false [1] (.fad 2 (.t 1))), (gQ 14 12 false [13] (.ld false 1 (.t 13))), (gQ 15 12 false [14] (.bin .lss (.t 14) (kI 0))), (cQ 16 [12,15] (.pick (.t 12) (kB true) (.t 15))), (cMv 17 16), (gQ 18 17 false [1] (.fad 2 (.t 1))), (gQ 19 17 false [18] (.ld false 1 (.t 18))), (gQ 20 17 false [19] (.bin .gtr (.t 19) (kI 7))), (cQ 21 [17,20] (.pick (.t 17) (kB true) (.t 20)))]) (.keep [1,21] (.cond (.t 21) (.seq (.reg false [(cI 2 100)]) .ret) .skip))) (.keep [1] (.seq (.seq (.reg false [(cFa 22 1 1), (cLd 23 22 false 1), (cLn 24 23), (cC 25 .gtr 24 20)]) (.keep [1,25] (.cond (.t 25) (.seq (.reg false [(cI 2 101)]) .ret) .skip))) (.keep [1] (.seq (.seq (.reg false [(cI 3 0)]) (.keep [1,3] (.block 0 (.loop [1,3] none (.seq (.seq (.reg false [(cMv 26 3), (cFa 27 1 1), (cLd 28 27 false 1), (cLn 29 28), (cB 30 .lss 26 29)]) (.keep [1,3,30] (.cond (.t 30) .skip (.exit 0)))) (.keep [1,3] (.seq (.block 1 (.seq (.any false 0 [⟨(cLd 33 1 true 3), [], []⟩, ⟨(cFa 34 1 1), [], []⟩, ⟨(cLd 35 34 false 1), [], [1]⟩, ⟨(cMv 36 3), [], []⟩, ⟨(cA 37 4 35 36), [], [2,1,3]⟩, ⟨(cLd 38 37 true 4), [], [4,2,1,3]⟩, ⟨(cQ 39 [33,38] (.call (kF 65) [(.t 33), (.t 38)])), [], [0,5,4,2,1,3]⟩, ⟨(cN 40 39), [], [6,0,5,4,2,1,3]⟩]) (.keep [1,3,40] (.cond (.t 40) (.seq (.reg false [(cI 2 101)]) .ret) .skip)))) (.keep [1,3] (.reg false [(cMv 31 3), (cC 32 .add 31 1), (cMv 3 32)]))))))))) (.keep [] (.seq (.reg false [(cI 2 0)]) .ret)))))))))
def pu36 : List Nat := [1]
def rs36 : List RV := [.t 2]
theorem cc36 : CCx Try.prog Try.f36 pu36 rc36 := by unfold CCx; kernel_rfl
theorem cb36 : CBx Try.f36 := by unfold CBx; kernel_rfl
theorem cs36 : CSx Try.prog Try.f36 rs36 := by unfold CSx; kernel_rfl
theorem cn36 : 1 ≤ Try.f36.ntmps := by decide
def rc65 : RC := (.seq (.reg false [(cX 2 0), (cX 3 1), (cQ 4 [] (.mv (kB false)))]) (.keep [2,3] (.seq (.seq (.reg true [(cLd 6 2 true 3), (cFa 7 3 1), (cLd 8 7 false 1), (cQ 9 [6,8] (.call (kF 62) [(.t 6), (.t 8)])), (cN 10 9), (cMv 11 10), (gQ 12 11 false [2] (.ld true 3 (.t 2))), (gQ 13 11 false [3] (.fad 2 (.t 3))), (gQ 14 11 false [13] (.ld false 1 (.t 13))), (gQ 15 11 false [12,14] (.call (kF 62) [(.t 12), (.t 14)])), (gQ 16 11 false [15] (.not (.t 15))), (cQ 17 [11,16] (.pick (.t 11) (kB true) (.t 16)))]) (.keep [2,3,17] (.cond (.t 17) (.seq (.reg false [(cQ 4 [] (.mv (kB false)))]) .ret) .skip))) (.keep [2,3] (.seq (.seq (.reg true [(cFa 18 3 0), (cLd 19 18 false 1), (cC 20 .eql 19 3), (cMv 21 20), (gQ 22 21 false [3] (.fad 0 (.t 3))), (gQ 23 21 false [22] (.ld false 1 (.t 22))), (gQ 24 21 false [23] (.bin .eql (.t 23) (kI 4))), (cQ 25 [21,24] (.pick (.t 21) (kB true) (.t 24)))]) (.keep [2,3,25] (.cond (.t 25) (.seq (.reg true [(cFa 26 3 3), (cLd 27 26 false 1), (cLn 28 27), (cC 29 .eql 28 0), (cMv 30 29), (gQ 31 30 true [3] (.fad 1 (.t 3))), (gQ 32 30 true [31] (.ld false 1 (.t 31))), (gQ 33 30 true [3] (.fad 2 (.t 3))), (gQ 34 30 true [33] (.ld false 1 (.t 33))), (gQ 35 30 true [32,34] (.bin .neq (.t 32) (.t 34))), (cQ 36 [30,35] (.pick (.t 30) (.t 35) (kB false))), (cMv 4 36)]) .ret) .skip))) (.keep [2,3] (.seq (.seq (.reg true [(cFa 37 3 0), (cLd 38 37 false 1), (cC 39 .neq 38 1), (cMv 40 39), (gQ 41 40 true [3] (.fad 0 (.t 3))), (gQ 42 40 true [41] (.ld false 1 (.t 41))), (gQ 43 40 true [42] (.bin .neq (.t 42) (kI 2))), (cQ 44 [40,43] (.pick (.t 40) (.t 43) (kB false))), (cMv 45 44), (gQ 46 45 false [3] (.fad 3 (.t 3))), (gQ 47 45 false [46] (.ld false 1 (.t 46))), (gQ 48 45 false [47] (.len (.t 47))), (gQ 49 45 false [48] (.bin .eql (.t 48) (kI 0))), (cQ 50 [45,49] (.pick (.t 45) (kB true) (.t 49))), (cMv 51 50), (gQ 52 51 false [3] (.fad 2 (.t 3))), (gQ 53 51 false [52] (.ld false 1 (.t 52))), (gQ 54 51 false [53] (.bin .neq (.t 53) (kI 0))), (cQ 55 [51,54] (.pick (.t 51) (kB true) (.t 54)))]) (.keep [2,3,55] (.cond (.t 55) (.seq (.reg false [(cQ 4 [] (.mv (kB false)))]) .ret) .skip))) (.keep [2,3] (.seq (.seq (.reg false [(cI 5 0)]) (.keep [2,3,5] (.block 0 (.loop [2,3,5] none (.seq (.seq (.reg false [(cMv 56 5), (cFa 57 3 3), (cLd 58 57 false 1), (cLn 59 58), (cB 60 .lss 56 59)]) (.keep [2,3,5,60] (.cond (.t 60) .skip (.exit 0)))) (.keep [2,3,5] (.seq (.block 1 (.seq (.any true 0 [⟨(cLd 63 2 true 3), [], []⟩, ⟨(cFa 64 3 3), [], []⟩, ⟨(cLd 65 64 false 1), [], [1]⟩, ⟨(cMv 66 5), [], []⟩, ⟨(cA 67 1 65 66), [], [2,1,3]⟩, ⟨(cLd 68 67 false 1), [], [4,2,1,3]⟩, ⟨(cQ 69 [63,68] (.call (kF 62) [(.t 63), (.t 68)])), [], [0,5,4,2,1,3]⟩, ⟨(cN 70 69), [], [6,0,5,4,2,1,3]⟩, ⟨(cMv 71 70), [], [7,6,0,5,4,2,1,3]⟩, ⟨(gMv 72 71 false 5), [], [8,7,6,0,5,4,2,1,3]⟩, ⟨(gQ 73 71 false [72] (.bin .gtr (.t 72) (kI 0))), [], [9,8,7,6,0,5,4,2,1,3]⟩, ⟨(gMv 74 71 false 73), [], [10,9,8,7,6,0,5,4,2,1,3]⟩, ⟨(gQ 75 74 true [3] (.fad 3 (.t 3))), [], [11,10,9,8,7,6,0,5,4,2,1,3]⟩, ⟨(gQ 76 74 true [75] (.ld false 1 (.t 75))), [], [12,11,10,9,8,7,6,0,5,4,2,1,3]⟩, ⟨(gMv 77 74 true 5), [], [11,10,9,8,7,6,0,5,4,2,1,3]⟩, ⟨(gQ 78 74 true [76,77] (.iad 1 (.t 76) (.t 77))), [], [13,12,11,10,9,8,7,6,0,5,4,2,1,3,14]⟩, ⟨(gQ 79 74 true [78] (.ld false 1 (.t 78))), [], [15,13,12,11,10,9,8,7,6,0,5,4,2,1,3,14]⟩, ⟨(gQ 80 74 true [3] (.fad 3 (.t 3))), [], [11,10,9,8,7,6,0,5,4,2,1,3]⟩, ⟨(gQ 81 74 true [80] (.ld false 1 (.t 80))), [], [17,11,10,9,8,7,6,0,5,4,2,1,3]⟩, ⟨(gMv 82 74 true 5), [], [11,10,9,8,7,6,0,5,4,2,1,3]⟩, ⟨(gQ 83 74 true [82] (.bin .sub (.t 82) (kI 1))), [], [19,11,10,9,8,7,6,0,5,4,2,1,3]⟩, ⟨(gQ 84 74 true [81,83] (.iad 1 (.t 81) (.t 83))), [], [18,17,11,10,9,8,7,6,0,5,4,2,1,3,20,19]⟩, ⟨(gQ 85 74 true [84] (.ld false 1 (.t 84))), [], [21,18,17,11,10,9,8,7,6,0,5,4,2,1,3,20,19]⟩, ⟨(gQ 86 74 true [79,85] (.bin .leq (.t 79) (.t 85))), [], [16,15,13,12,11,10,9,8,7,6,0,5,4,2,1,3,14,22,21,18,17,20,19]⟩, ⟨(gQ 87 71 false [74,86] (.pick (.t 74) (.t 86) (kB false))), [], [11,10,9,8,7,6,0,5,4,2,1,3,23,16,15,13,12,14,22,21,18,17,20,19]⟩, ⟨(cQ 88 [71,87] (.pick (.t 71) (kB true) (.t 87))), [], [8,7,6,0,5,4,2,1,3,24,11,10,9,23,16,15,13,12,14,22,21,18,17,20,19]⟩]) (.keep [2,3,5,88] (.cond (.t 88) (.seq (.reg false [(cQ 4 [] (.mv (kB false)))]) .ret) .skip)))) (.keep [2,3,5] (.reg false [(cMv 61 5), (cC 62 .add 61 1), (cMv 5 62)]))))))))) (.keep [] (.seq (.reg false [(cQ 4 [] (.mv (kB true)))]) .ret)))))))))))
def pu65 : List Nat := [2,3]
def rs65 : List RV := [.t 4]
theorem cc65 : CCx Try.prog Try.f65 pu65 rc65 := by unfold CCx; kernel_rfl
theorem cb65 : CBx Try.f65 := by unfold CBx; kernel_rfl
theorem cs65 : CSx Try.prog Try.f65 rs65 := by unfold CSx; kernel_rfl
theorem cn65 : 2 ≤ Try.f65.ntmps := by decide
def rc62 : RC := (.seq (.reg false [(cX 2 0), (cQ 4 [] (.mv (kB false)))]) (.keep [1,2] (.seq (.reg true [(cMv 5 1), (cC 6 .geq 5 0), (cMv 7 6), (gMv 8 7 true 1), (gQ 9 7 true [2] (.fad 0 (.t 2))), (gQ 10 7 true [9] (.ld false 1 (.t 9))), (gQ 11 7 true [8,10] (.bin .lss (.t 8) (.t 10))), (cQ 12 [7,11] (.pick (.t 7) (.t 11) (kB false))), (cMv 4 12)]) .ret)))
def pu62 : List Nat := [2]
def rs62 : List RV := [.t 4]
theorem cc62 : CCx Try.prog Try.f62 pu62 rc62 := by unfold CCx; kernel_rfl
theorem cb62 : CBx Try.f62 := by unfold CBx; kernel_rfl
theorem cs62 : CSx Try.prog Try.f62 rs62 := by unfold CSx; kernel_rfl
theorem cn62 : 2 ≤ Try.f62.ntmps := by decide
def rc52 : RC := (.seq (.reg false [(cQ 4 [] (.mv (kB false)))]) (.keep [0,1] (.seq (.seq (.reg false [(cI 5 0)]) (.keep [0,1,5] (.block 0 (.loop [0,1,5] none (.seq (.seq (.reg false [(cMv 6 5), (cMv 7 0), (cLn 8 7), (cB 9 .lss 6 8)]) (.keep [0,1,5,9] (.cond (.t 9) .skip (.exit 0)))) (.keep [0,1,5] (.seq (.block 1 (.seq (.reg false [(cMv 12 0), (cMv 13 5), (cA 14 1 12 13), (cLd 15 14 false 1), (cMv 16 1), (cB 17 .eql 15 16)]) (.keep [0,1,5,17] (.cond (.t 17) (.seq (.reg false [(cQ 4 [] (.mv (kB true)))]) .ret) .skip)))) (.keep [0,1,5] (.reg false [(cMv 10 5), (cC 11 .add 10 1), (cMv 5 11)]))))))))) (.keep [] (.seq (.reg false [(cQ 4 [] (.mv (kB false)))]) .ret)))))
def pu52 : List Nat := []
def rs52 : List RV := [.t 4]
theorem cc52 : CCx Try.prog Try.f52 pu52 rc52 := by unfold CCx; kernel_rfl
theorem cb52 : CBx Try.f52 := by unfold CBx; kernel_rfl
theorem cs52 : CSx Try.prog Try.f52 rs52 := by unfold CSx; kernel_rfl
theorem cn52 : 2 ≤ Try.f52.ntmps := by decide
def rc38 : RC := (.seq (.reg false [(cQ 4 [] (.mv (kB false)))]) (.keep [0,1] (.seq (.seq (.reg false [(cI 5 0)]) (.keep [0,1,5] (.block 0 (.loop [0,1,5] none (.seq (.seq (.reg false [(cMv 6 5), (cMv 7 0), (cLn 8 7), (cB 9 .lss 6 8)]) (.keep [0,1,5,9] (.cond (.t 9) .skip (.exit 0)))) (.keep [0,1,5] (.seq (.block 1 (.seq (.reg false [(cMv 12 0), (cMv 13 5), (cA 14 1 12 13), (cLd 15 14 false 1), (cMv 16 1), (cB 17 .eql 15 16)]) (.keep [0,1,5,17] (.cond (.t 17) (.seq (.reg false [(cQ 4 [] (.mv (kB true)))]) .ret) .skip)))) (.keep [0,1,5] (.reg false [(cMv 10 5), (cC 11 .add 10 1), (cMv 5 11)]))))))))) (.keep [] (.seq (.reg false [(cQ 4 [] (.mv (kB false)))]) .ret)))))
def pu38 : List Nat := []
def rs38 : List RV := [.t 4]
theorem cc38 : CCx Try.prog Try.f38 pu38 rc38 := by unfold CCx; kernel_rfl
theorem cb38 : CBx Try.f38 := by unfold CBx; kernel_rfl
theorem cs38 : CSx Try.prog Try.f38 rs38 := by unfold CSx; kernel_rfl
theorem cn38 : 2 ≤ Try.f38.ntmps := by decide
def rc43 : RC := (.seq (.reg false [(cX 2 0), (cQ 4 [] (.mv (kB false)))]) (.keep [1,2] (.seq (.seq (.reg false [(cFa 5 2 0), (cLd 6 5 false 1)]) (.keep [1,2,6] (.block 0 (.seq (.reg false [(cC 8 .eql 6 1), (cMv 7 8)]) (.keep [1,2,6,7] (.cond (.t 7) (.seq (.any false 0 [⟨(cFa 9 2 3), [], []⟩, ⟨(cLd 10 9 false 1), [], [0]⟩, ⟨(cMv 11 1), [], []⟩, ⟨(cFa 12 2 1), [], []⟩, ⟨(cLd 13 12 false 1), [], [3]⟩, ⟨(cA 14 1 11 13), [], [2,4,3]⟩, ⟨(cLd 15 14 false 1), [], [5,2,4,3]⟩, ⟨(cQ 16 [10,15] (.call (kF 52) [(.t 10), (.t 15)])), [], [1,0,6,5,2,4,3]⟩, ⟨(cMv 4 16), [], [7,1,0,6,5,2,4,3]⟩]) .ret) (.seq (.reg false [(cC 18 .eql 6 2), (cMv 17 18)]) (.keep [1,2,6,17] (.cond (.t 17) (.seq (.any false 0 [⟨(cFa 19 2 3), [], []⟩, ⟨(cLd 20 19 false 1), [], [0]⟩, ⟨(cMv 21 1), [], []⟩, ⟨(cFa 22 2 1), [], []⟩, ⟨(cLd 23 22 false 1), [], [3]⟩, ⟨(cA 24 1 21 23), [], [2,4,3]⟩, ⟨(cLd 25 24 false 1), [], [5,2,4,3]⟩, ⟨(cQ 26 [20,25] (.call (kF 52) [(.t 20), (.t 25)])), [], [1,0,6,5,2,4,3]⟩, ⟨(cN 27 26), [], [7,1,0,6,5,2,4,3]⟩, ⟨(cMv 4 27), [], [8,7,1,0,6,5,2,4,3]⟩]) .ret) (.seq (.reg false [(cC 29 .eql 6 3), (cMv 28 29)]) (.keep [1,2,28] (.cond (.t 28) (.seq (.any true 0 [⟨(cMv 30 1), [], []⟩, ⟨(cFa 31 2 1), [], []⟩, ⟨(cLd 32 31 false 1), [], [1]⟩, ⟨(cA 33 1 30 32), [], [0,2,1]⟩, ⟨(cLd 34 33 false 1), [], [3,0,2,1]⟩, ⟨(cFa 35 2 2), [], []⟩, ⟨(cLd 36 35 false 1), [], [5]⟩, ⟨(cB 37 .eql 34 36), [], [4,3,0,2,1,6,5]⟩, ⟨(cMv 38 37), [], [7,4,3,0,2,1,6,5]⟩, ⟨(gMv 39 38 true 1), [], [8,7,4,3,0,2,1,6,5]⟩, ⟨(gQ 40 38 true [2] (.fad 2 (.t 2))), [], [8,7,4,3,0,2,1,6,5]⟩, ⟨(gQ 41 38 true [40] (.ld false 1 (.t 40))), [], [10,8,7,4,3,0,2,1,6,5]⟩, ⟨(gQ 42 38 true [39,41] (.iad 1 (.t 39) (.t 41))), [], [9,8,7,4,3,0,2,1,6,5,11,10]⟩, ⟨(gQ 43 38 true [42] (.ld false 1 (.t 42))), [], [12,9,8,7,4,3,0,2,1,6,5,11,10]⟩, ⟨(gQ 44 38 true [2] (.fad 1 (.t 2))), [], [8,7,4,3,0,2,1,6,5]⟩, ⟨(gQ 45 38 true [44] (.ld false 1 (.t 44))), [], [14,8,7,4,3,0,2,1,6,5]⟩, ⟨(gQ 46 38 true [43,45] (.bin .eql (.t 43) (.t 45))), [], [13,12,9,8,7,4,3,0,2,1,6,5,11,10,15,14]⟩, ⟨(cQ 47 [38,46] (.pick (.t 38) (.t 46) (kB false))), [], [8,7,4,3,0,2,1,6,5,16,13,12,9,11,10,15,14]⟩, ⟨(cMv 4 47), [], [17,8,7,4,3,0,2,1,6,5,16,13,12,9,11,10,15,14]⟩]) .ret) .skip)))))))))))) (.keep [1,2] (.seq (.any true 0 [⟨(cMv 48 1), [], []⟩, ⟨(cFa 49 2 1), [], []⟩, ⟨(cLd 50 49 false 1), [], [1]⟩, ⟨(cA 51 1 48 50), [], [0,2,1]⟩, ⟨(cLd 52 51 false 1), [], [3,0,2,1]⟩, ⟨(cFa 53 2 1), [], []⟩, ⟨(cLd 54 53 false 1), [], [5]⟩, ⟨(cB 55 .eql 52 54), [], [4,3,0,2,1,6,5]⟩, ⟨(cMv 56 55), [], [7,4,3,0,2,1,6,5]⟩, ⟨(gMv 57 56 false 1), [], [8,7,4,3,0,2,1,6,5]⟩, ⟨(gQ 58 56 false [2] (.fad 2 (.t 2))), [], [8,7,4,3,0,2,1,6,5]⟩, ⟨(gQ 59 56 false [58] (.ld false 1 (.t 58))), [], [10,8,7,4,3,0,2,1,6,5]⟩, ⟨(gQ 60 56 false [57,59] (.iad 1 (.t 57) (.t 59))), [], [9,8,7,4,3,0,2,1,6,5,11,10]⟩, ⟨(gQ 61 56 false [60] (.ld false 1 (.t 60))), [], [12,9,8,7,4,3,0,2,1,6,5,11,10]⟩, ⟨(gQ 62 56 false [2] (.fad 2 (.t 2))), [], [8,7,4,3,0,2,1,6,5]⟩, ⟨(gQ 63 56 false [62] (.ld false 1 (.t 62))), [], [14,8,7,4,3,0,2,1,6,5]⟩, ⟨(gQ 64 56 false [61,63] (.bin .eql (.t 61) (.t 63))), [], [13,12,9,8,7,4,3,0,2,1,6,5,11,10,15,14]⟩, ⟨(cQ 65 [56,64] (.pick (.t 56) (kB true) (.t 64))), [], [8,7,4,3,0,2,1,6,5,16,13,12,9,11,10,15,14]⟩, ⟨(cMv 4 65), [], [17,8,7,4,3,0,2,1,6,5,16,13,12,9,11,10,15,14]⟩]) .ret)))))
def pu43 : List Nat := [2]
def rs43 : List RV := [.t 4]
theorem cc43 : CCx Try.prog Try.f43 pu43 rc43 := by unfold CCx; kernel_rfl
theorem cb43 : CBx Try.f43 := by unfold CBx; kernel_rfl
theorem cs43 : CSx Try.prog Try.f43 rs43 := by unfold CSx; kernel_rfl
theorem cn43 : 2 ≤ Try.f43.ntmps := by decide
def rc18 : RC := (.seq (.reg false [(cQ 2 [] (.mv (kB false)))]) (.keep [0] (.seq (.seq (.reg false [(cI 3 0)]) (.keep [0,3] (.block 0 (.loop [0,3] none (.seq (.seq (.reg false [(cMv 4 3), (cMv 5 0), (cLn 6 5), (cB 7 .lss 4 6)]) (.keep [0,3,7] (.cond (.t 7) .skip (.exit 0)))) (.keep [0,3] (.seq (.block 1 (.seq (.any true 0 [⟨(cMv 10 0), [], []⟩, ⟨(cMv 11 3), [], []⟩, ⟨(cA 12 1 10 11), [], [0,1]⟩, ⟨(cLd 13 12 false 1), [], [2,0,1]⟩, ⟨(cC 14 .lss 13 0), [], [3,2,0,1]⟩, ⟨(cMv 15 14), [], [4,3,2,0,1]⟩, ⟨(gMv 16 15 false 0), [], [5,4,3,2,0,1]⟩, ⟨(gMv 17 15 false 3), [], [5,4,3,2,0,1]⟩, ⟨(gQ 18 15 false [16,17] (.iad 1 (.t 16) (.t 17))), [], [6,5,4,3,2,0,1,7]⟩, ⟨(gQ 19 15 false [18] (.ld false 1 (.t 18))), [], [8,6,5,4,3,2,0,1,7]⟩, ⟨(gMv 20 15 false 0), [], [5,4,3,2,0,1]⟩, ⟨(gQ 21 15 false [20] (.len (.t 20))), [], [10,5,4,3,2,0,1]⟩, ⟨(gQ 22 15 false [19,21] (.bin .geq (.t 19) (.t 21))), [], [9,8,6,5,4,3,2,0,1,7,11,10]⟩, ⟨(cQ 23 [15,22] (.pick (.t 15) (kB true) (.t 22))), [], [5,4,3,2,0,1,12,9,8,6,7,11,10]⟩, ⟨(cMv 24 23), [], [13,5,4,3,2,0,1,12,9,8,6,7,11,10]⟩, ⟨(gMv 25 24 false 0), [], [14,13,5,4,3,2,0,1,12,9,8,6,7,11,10]⟩, ⟨(gMv 26 24 false 3), [], [14,13,5,4,3,2,0,1,12,9,8,6,7,11,10]⟩, ⟨(gQ 27 24 false [25,26] (.slc 1 (.t 25) none (some (.t 26)))), [], [15,14,13,5,4,3,2,0,1,12,9,8,6,7,11,10,16]⟩, ⟨(gMv 28 24 false 0), [], [14,13,5,4,3,2,0,1,12,9,8,6,7,11,10]⟩, ⟨(gMv 29 24 false 3), [], [14,13,5,4,3,2,0,1,12,9,8,6,7,11,10]⟩, ⟨(gQ 30 24 false [28,29] (.iad 1 (.t 28) (.t 29))), [], [18,14,13,5,4,3,2,0,1,12,9,8,6,7,11,10,19]⟩, ⟨(gQ 31 24 false [30] (.ld false 1 (.t 30))), [], [20,18,14,13,5,4,3,2,0,1,12,9,8,6,7,11,10,19]⟩, ⟨(gQ 32 24 false [27,31] (.call (kF 52) [(.t 27), (.t 31)])), [], [17,15,14,13,5,4,3,2,0,1,12,9,8,6,7,11,10,16,21,20,18,19]⟩, ⟨(cQ 33 [24,32] (.pick (.t 24) (kB true) (.t 32))), [], [14,13,5,4,3,2,0,1,12,9,8,6,7,11,10,22,17,15,16,21,20,18,19]⟩]) (.keep [0,3,33] (.cond (.t 33) (.seq (.reg false [(cQ 2 [] (.mv (kB false)))]) .ret) .skip)))) (.keep [0,3] (.reg false [(cMv 8 3), (cC 9 .add 8 1), (cMv 3 9)]))))))))) (.keep [0] (.seq (.reg false [(cMv 34 0), (cLn 35 34), (cC 36 .leq 35 7), (cMv 2 36)]) .ret)))))
def pu18 : List Nat := []
def rs18 : List RV := [.t 2]
theorem cc18 : CCx Try.prog Try.f18 pu18 rc18 := by unfold CCx; kernel_rfl
theorem cb18 : CBx Try.f18 := by unfold CBx; kernel_rfl
theorem cs18 : CSx Try.prog Try.f18 rs18 := by unfold CSx; kernel_rfl
theorem cn18 : 1 ≤ Try.f18.ntmps := by decide
def rc40 : RC := (.seq (.reg false [(cX 2 0), (cQ 4 [] (.mv (kB false)))]) (.keep [1,2] (.seq (.seq (.reg true [(cMv 7 1), (cLn 8 7), (cFa 9 2 0), (cLd 10 9 false 1), (cB 11 .neq 8 10), (cMv 12 11), (gMv 13 12 false 1), (gQ 14 12 false [13] (.call (kF 18) [(.t 13)])), (gQ 15 12 false [14] (.not (.t 14))), (cQ 16 [12,15] (.pick (.t 12) (kB true) (.t 15)))]) (.keep [1,2,16] (.cond (.t 16) (.seq (.reg false [(cQ 4 [] (.mv (kB false)))]) .ret) .skip))) (.keep [1,2] (.seq (.reg false [(cI 5 0)]) (.keep [1,2,5] (.seq (.seq (.reg false [(cI 6 0)]) (.keep [1,2,5,6] (.block 0 (.loop [1,2,5,6] none (.seq (.seq (.reg false [(cMv 17 6), (cFa 18 2 1), (cLd 19 18 false 1), (cLn 20 19), (cB 21 .lss 17 20)]) (.keep [1,2,5,6,21] (.cond (.t 21) .skip (.exit 0)))) (.keep [1,2,5,6] (.seq (.block 1 (.seq (.reg false [(cFa 24 2 1), (cLd 25 24 false 1), (cMv 26 6), (cA 27 4 25 26), (cLd 28 27 true 4), (cMv 29 1), (cQ 30 [28,29] (.call (kF 43) [(.t 28), (.t 29)])), (cN 31 30)]) (.keep [1,2,5,6,31] (.cond (.t 31) (.reg false [(cMv 32 5), (cC 33 .add 32 1), (cMv 5 33)]) .skip)))) (.keep [1,2,5,6] (.reg false [(cMv 22 6), (cC 23 .add 22 1), (cMv 6 23)]))))))))) (.keep [2,5] (.seq (.reg false [(cMv 34 5), (cFa 35 2 2), (cLd 36 35 false 1), (cB 37 .leq 34 36), (cMv 4 37)]) .ret)))))))))
def pu40 : List Nat := [2]
def rs40 : List RV := [.t 4]
theorem cc40 : CCx Try.prog Try.f40 pu40 rc40 := by unfold CCx; kernel_rfl
theorem cb40 : CBx Try.f40 := by unfold CBx; kernel_rfl
theorem cs40 : CSx Try.prog Try.f40 rs40 := by unfold CSx; kernel_rfl
theorem cn40 : 2 ≤ Try.f40.ntmps := by decide
def rc35 : RC := (.seq (.reg false [(cX 1 0), (cQ 2 [] (.mv (kB false)))]) (.keep [1] (.seq (.seq (.reg false [(cFa 4 1 1), (cLd 5 4 false 1), (cLn 6 5), (cC 7 .gtr 6 60)]) (.keep [1,7] (.cond (.t 7) (.seq (.reg false [(cQ 2 [] (.mv (kB true)))]) .ret) .skip))) (.keep [1] (.seq (.seq (.reg false [(cI 3 0)]) (.keep [1,3] (.block 0 (.loop [1,3] none (.seq (.seq (.reg false [(cMv 8 3), (cFa 9 1 1), (cLd 10 9 false 1), (cLn 11 10), (cB 12 .lss 8 11)]) (.keep [1,3,12] (.cond (.t 12) .skip (.exit 0)))) (.keep [1,3] (.seq (.block 1 (.seq (.reg false [(cFa 15 1 1), (cLd 16 15 false 1), (cMv 17 3), (cA 18 4 16 17), (cFa 19 18 3), (cLd 20 19 false 1), (cLn 21 20), (cC 22 .gtr 21 60)]) (.keep [1,3,22] (.cond (.t 22) (.seq (.reg false [(cQ 2 [] (.mv (kB true)))]) .ret) .skip)))) (.keep [1,3] (.reg false [(cMv 13 3), (cC 14 .add 13 1), (cMv 3 14)]))))))))) (.keep [1] (.seq (.reg true [(cLd 23 1 true 3), (cQ 24 [23] (.call (kF 36) [(.t 23)])), (cC 25 .eql 24 0), (cMv 26 25), (gQ 27 26 true [1] (.fad 0 (.t 1))), (gQ 28 26 true [27] (.ld false 1 (.t 27))), (gQ 29 26 true [28] (.bin .gtr (.t 28) (kI 6))), (cQ 30 [26,29] (.pick (.t 26) (.t 29) (kB false))), (cMv 2 30)]) .ret)))))))
def pu35 : List Nat := [1]
def rs35 : List RV := [.t 2]
theorem cc35 : CCx Try.prog Try.f35 pu35 rc35 := by unfold CCx; kernel_rfl
theorem cb35 : CBx Try.f35 := by unfold CBx; kernel_rfl
theorem cs35 : CSx Try.prog Try.f35 rs35 := by unfold CSx; kernel_rfl
theorem cn35 : 1 ≤ Try.f35.ntmps := by decide
def rc29 : RC := (.seq (.reg false [(cX 1 0), (cQ 2 [] (.mv (kB false)))]) (.keep [1] (.seq (.reg true [(cLd 3 1 true 3), (cQ 4 [3] (.call (kF 35) [(.t 3)])), (cMv 5 4), (gQ 6 5 false [1] (.ld true 3 (.t 1))), (gQ 7 5 false [6] (.call (kF 36) [(.t 6)])), (gQ 8 5 false [7] (.bin .eql (.t 7) (kI 0))), (gMv 9 5 false 8), (gQ 10 9 true [1] (.fad 0 (.t 1))), (gQ 11 9 true [10] (.ld false 1 (.t 10))), (gQ 12 9 true [11] (.bin .gtr (.t 11) (kI 4))), (gQ 13 5 false [9,12] (.pick (.t 9) (.t 12) (kB false))), (cQ 14 [5,13] (.pick (.t 5) (kB true) (.t 13))), (cMv 2 14)]) .ret)))
def pu29 : List Nat := [1]
def rs29 : List RV := [.t 2]
theorem cc29 : CCx Try.prog Try.f29 pu29 rc29 := by unfold CCx; kernel_rfl
theorem cb29 : CBx Try.f29 := by unfold CBx; kernel_rfl
theorem cs29 : CSx Try.prog Try.f29 rs29 := by unfold CSx; kernel_rfl
theorem cn29 : 1 ≤ Try.f29.ntmps := by decide
def rc14 : RC := (.seq (.reg false [(cX 1 0), (cQ 2 [] (.mv (kB false)))]) (.keep [1] (.seq (.reg true [(cLd 3 1 true 3), (cQ 4 [3] (.call (kF 29) [(.t 3)])), (cN 5 4), (cMv 6 5), (gQ 7 6 true [1] (.ld true 3 (.t 1))), (gQ 8 6 true [7] (.call (kF 36) [(.t 7)])), (gQ 9 6 true [8] (.bin .eql (.t 8) (kI 0))), (cQ 10 [6,9] (.pick (.t 6) (.t 9) (kB false))), (cMv 2 10)]) .ret)))
def pu14 : List Nat := [1]
def rs14 : List RV := [.t 2]
theorem cc14 : CCx Try.prog Try.f14 pu14 rc14 := by unfold CCx; kernel_rfl
theorem cb14 : CBx Try.f14 := by unfold CBx; kernel_rfl
theorem cs14 : CSx Try.prog Try.f14 rs14 := by unfold CSx; kernel_rfl
theorem cn14 : 1 ≤ Try.f14.ntmps := by decide
def rc49 : RC := (.seq (.reg false [⟨(some 0), none, [], none, .w (.alc [(.i 0), (.z 4), (.i 0)])⟩]) (.keep [0] (.seq (.reg false [(cQ 1 [] (.bsl 1 2 [(.i 0)] [(0,1, (kI 1)), (1,1, (kI 2))])), (cQ 2 [1] (.bld [(.i 0), (.i 0), (.i 0), (.z 1)] [(0,1, (kI 1)), (3,1, (.t 1))])), (cQ 3 [] (.bsl 1 1 [(.i 0)] [(0,1, (kI 3))])), (cQ 4 [3] (.bld [(.i 0), (.i 0), (.i 0), (.z 1)] [(0,1, (kI 2)), (1,1, (kI 3)), (3,1, (.t 3))])), (cQ 5 [] (.bld [(.i 0), (.i 0), (.i 0), (.z 1)] [(0,1, (kI 4)), (1,1, (kI 1)), (2,1, (kI 2))])), (cQ 6 [2,4,5] (.bsl 4 3 [(.i 0), (.i 0), (.i 0), (.z 1)] [(0,4, (.t 2)), (4,4, (.t 4)), (8,4, (.t 5))])), (cQ 7 [6] (.bld [(.i 0), (.z 4), (.i 0)] [(0,1, (kI 4)), (1,1, (.t 6))])), ⟨none, none, [0,7], none, .w (.st 3 (.t 0) (.t 7))⟩]) .ret)))
def pu49 : List Nat := [1,3,6]
def rs49 : List RV := [.c 0 true 3]
theorem cc49 : CCx Try.prog Try.f49 pu49 rc49 := by unfold CCx; kernel_rfl
theorem cb49 : CBx Try.f49 := by unfold CBx; kernel_rfl
theorem cs49 : CSx Try.prog Try.f49 rs49 := by unfold CSx; kernel_rfl
theorem cn49 : 0 ≤ Try.f49.ntmps := by decide
def rc15 : RC := (.seq (.reg false [(cQ 0 [] (.mv (kB false)))]) (.keep [] (.seq (.reg false [(cQ 13 [] (.call (kF 49) [])), ⟨(some 1), none, [], none, .w (.alc [(.i 0), (.z 4), (.i 0)])⟩, ⟨none, none, [1,13], none, .w (.st 3 (.t 1) (.t 13))⟩]) (.keep [1] (.seq (.reg false [(cLd 15 1 true 3), (cQ 16 [15] (.call (kF 16) [(.t 15)])), (cMv 14 16), (cEx 17 14 0), (cEx 18 14 1), (cMv 2 17), (cMv 3 18)]) (.keep [1,2,3] (.seq (.reg false [(cLd 20 1 true 3), (cQ 21 [20] (.call (kF 41) [(.t 20)])), (cMv 19 21), (cEx 22 19 0), (cEx 23 19 1), (cMv 4 22), (cMv 5 23)]) (.keep [1,2,3,4,5] (.seq (.reg false [(cLd 25 1 true 3), (cQ 26 [25] (.call (kF 17) [(.t 25)])), (cMv 24 26), (cEx 27 24 0), (cEx 28 24 1), (cMv 6 27), (cMv 7 28)]) (.keep [2,3,4,5,6,7] (.seq (.reg false [(cQ 30 [] (.bsl 1 4 [(.i 0)] [(0,1, (kI 1)), (1,1, (kI 2)), (2,1, (kI 0)), (3,1, (kI 3))])), (cQ 31 [30] (.call (kF 19) [(.t 30)])), (cMv 29 31), (cEx 32 29 0), (cEx 33 29 1), (cMv 8 32), (cMv 9 33)]) (.keep [2,3,4,5,6,7,8,9] (.seq (.reg false [(cQ 35 [] (.bsl 1 4 [(.i 0)] [(0,1, (kI 1)), (1,1, (kI 2)), (2,1, (kI 0)), (3,1, (kI 3))])), (cQ 36 [35] (.call (kF 24) [(.t 35)])), (cMv 34 36), (cEx 37 34 0), (cEx 38 34 1), (cEx 39 34 2), (cMv 10 37), (cMv 11 38), (cMv 12 39)]) (.keep [2,3,4,5,6,7,8,9,10,11,12] (.seq (.reg true [(cMv 40 3), (cC 41 .eql 40 0), (cMv 42 41), (gMv 43 42 true 5), (gQ 44 42 true [43] (.bin .eql (.t 43) (kI 0))), (cQ 45 [42,44] (.pick (.t 42) (.t 44) (kB false))), (cMv 46 45), (gMv 47 46 true 7), (gQ 48 46 true [47] (.bin .eql (.t 47) (kI 0))), (cQ 49 [46,48] (.pick (.t 46) (.t 48) (kB false))), (cMv 50 49), (gMv 51 50 true 9), (gQ 52 50 true [51] (.bin .eql (.t 51) (kI 0))), (cQ 53 [50,52] (.pick (.t 50) (.t 52) (kB false))), (cMv 54 53), (gMv 55 54 true 12), (gQ 56 54 true [55] (.bin .eql (.t 55) (kI 0))), (cQ 57 [54,56] (.pick (.t 54) (.t 56) (kB false))), (cMv 58 57), (gMv 59 58 true 2), (gQ 60 58 true [59] (.bin .eql (.t 59) (kI 2))), (cQ 61 [58,60] (.pick (.t 58) (.t 60) (kB false))), (cMv 62 61), (gMv 63 62 true 4), (gQ 64 62 true [] (.bsl 1 4 [(.i 0)] [(0,1, (.k (.i (-1)))), (1,1, (.k (.i (-1)))), (2,1, (.k (.i (-1)))), (3,1, (kI 0))])), (gQ 65 62 true [63,64] (.call (kF 28) [(.t 63), (.t 64)])), (cQ 66 [62,65] (.pick (.t 62) (.t 65) (kB false))), (cMv 67 66), (gMv 68 67 true 6), (gQ 69 67 true [68] (.bin .eql (.t 68) (kI 1))), (cQ 70 [67,69] (.pick (.t 67) (.t 69) (kB false))), (cMv 71 70), (gMv 72 71 true 8), (gQ 73 71 true [72] (.bin .eql (.t 72) (kI 2))), (cQ 74 [71,73] (.pick (.t 71) (.t 73) (kB false))), (cMv 75 74), (gMv 76 75 true 10), (gQ 77 75 true [76] (.len (.t 76))), (gMv 78 75 true 11), (gQ 79 75 true [78] (.len (.t 78))), (gQ 80 75 true [77,79] (.bin .add (.t 77) (.t 79))), (gQ 81 75 true [80] (.bin .gtr (.t 80) (kI 0))), (cQ 82 [75,81] (.pick (.t 75) (.t 81) (kB false))), (cMv 0 82)]) .ret)))))))))))))))
def pu15 : List Nat := [30,35,64]
def rs15 : List RV := [.t 0]
theorem cc15 : CCx Try.prog Try.f15 pu15 rc15 := by unfold CCx; kernel_rfl
theorem cb15 : CBx Try.f15 := by unfold CBx; kernel_rfl
theorem cs15 : CSx Try.prog Try.f15 rs15 := by unfold CSx; kernel_rfl
theorem cn15 : 0 ≤ Try.f15.ntmps := by decide
def rc28 : RC := (.seq (.reg false [(cQ 4 [] (.mv (kB false)))]) (.keep [0,1] (.seq (.seq (.reg false [(cMv 6 0), (cLn 7 6), (cMv 8 1), (cLn 9 8), (cB 10 .neq 7 9)]) (.keep [0,1,10] (.cond (.t 10) (.seq (.reg false [(cQ 4 [] (.mv (kB false)))]) .ret) .skip))) (.keep [0,1] (.seq (.seq (.reg false [(cI 5 0)]) (.keep [0,1,5] (.block 0 (.loop [0,1,5] none (.seq (.seq (.reg false [(cMv 11 5), (cMv 12 0), (cLn 13 12), (cB 14 .lss 11 13)]) (.keep [0,1,5,14] (.cond (.t 14) .skip (.exit 0)))) (.keep [0,1,5] (.seq (.block 1 (.seq (.any false 0 [⟨(cMv 17 0), [], []⟩, ⟨(cMv 18 5), [], []⟩, ⟨(cA 19 1 17 18), [], [0,1]⟩, ⟨(cLd 20 19 false 1), [], [2,0,1]⟩, ⟨(cMv 21 1), [], []⟩, ⟨(cMv 22 5), [], []⟩, ⟨(cA 23 1 21 22), [], [4,5]⟩, ⟨(cLd 24 23 false 1), [], [6,4,5]⟩, ⟨(cB 25 .neq 20 24), [], [3,2,0,1,7,6,4,5]⟩]) (.keep [0,1,5,25] (.cond (.t 25) (.seq (.reg false [(cQ 4 [] (.mv (kB false)))]) .ret) .skip)))) (.keep [0,1,5] (.reg false [(cMv 15 5), (cC 16 .add 15 1), (cMv 5 16)]))))))))) (.keep [] (.seq (.reg false [(cQ 4 [] (.mv (kB true)))]) .ret)))))))
def pu28 : List Nat := []
def rs28 : List RV := [.t 4]
theorem cc28 : CCx Try.prog Try.f28 pu28 rc28 := by unfold CCx; kernel_rfl
theorem cb28 : CBx Try.f28 := by unfold CBx; kernel_rfl
theorem cs28 : CSx Try.prog Try.f28 rs28 := by unfold CSx; kernel_rfl
theorem cn28 : 2 ≤ Try.f28.ntmps := by decide
def rc33 : RC := (.seq (.reg false [(cX 2 0), (cX 3 1), (cQ 4 [] (.mv (kB false)))]) (.keep [2,3] (.seq (.seq (.reg true [(cFa 8 2 0), (cLd 9 8 false 1), (cFa 10 3 0), (cLd 11 10 false 1), (cB 12 .neq 9 11), (cMv 13 12), (gQ 14 13 false [2] (.fad 2 (.t 2))), (gQ 15 13 false [14] (.ld false 1 (.t 14))), (gQ 16 13 false [3] (.fad 2 (.t 3))), (gQ 17 13 false [16] (.ld false 1 (.t 16))), (gQ 18 13 false [15,17] (.bin .neq (.t 15) (.t 17))), (cQ 19 [13,18] (.pick (.t 13) (kB true) (.t 18))), (cMv 20 19), (gQ 21 20 false [2] (.fad 1 (.t 2))), (gQ 22 20 false [21] (.ld false 1 (.t 21))), (gQ 23 20 false [22] (.len (.t 22))), (gQ 24 20 false [3] (.fad 1 (.t 3))), (gQ 25 20 false [24] (.ld false 1 (.t 24))), (gQ 26 20 false [25] (.len (.t 25))), (gQ 27 20 false [23,26] (.bin .neq (.t 23) (.t 26))), (cQ 28 [20,27] (.pick (.t 20) (kB true) (.t 27)))]) (.keep [2,3,28] (.cond (.t 28) (.seq (.reg false [(cQ 4 [] (.mv (kB false)))]) .ret) .skip))) (.keep [2,3] (.seq (.seq (.reg false [(cI 5 0)]) (.keep [2,3,5] (.block 0 (.loop [2,3,5] (some 0) (.seq (.seq (.reg false [(cMv 29 5), (cFa 30 2 1), (cLd 31 30 false 1), (cLn 32 31), (cB 33 .lss 29 32)]) (.keep [2,3,5,33] (.cond (.t 33) .skip (.exit 0)))) (.keep [2,3,5] (.seq (.block 1 (.seq (.any false 2 [⟨(cFa 36 2 1), [], []⟩, ⟨(cLd 37 36 false 1), [], [0]⟩, ⟨(cMv 38 5), [], []⟩, ⟨(cA 39 4 37 38), [], [1,0,2]⟩, ⟨(cLd 40 39 true 4), [], [3,1,0,2]⟩, ⟨(cFa 41 3 1), [], []⟩, ⟨(cLd 42 41 false 1), [], [5]⟩, ⟨(cMv 43 5), [], []⟩, ⟨(cA 44 4 42 43), [], [6,5,7]⟩, ⟨(cLd 45 44 true 4), [], [8,6,5,7]⟩, ⟨⟨(some 6), none, [], (some 0), .w (.alc [(.i 0), (.i 0), (.i 0), (.z 1)])⟩, [0,1,2,3,4,5,6,7,8,9], []⟩, ⟨⟨(some 7), none, [], (some 1), .w (.alc [(.i 0), (.i 0), (.i 0), (.z 1)])⟩, [0,1,2,3,4,5,6,7,8,9,10], []⟩, ⟨⟨none, none, [6,40], none, .w (.st 4 (.t 6) (.t 40))⟩, [5,6,7,8,9], [10,4,3,1,0,2,11]⟩, ⟨⟨none, none, [7,45], none, .w (.st 4 (.t 7) (.t 45))⟩, [], [11,9,8,6,5,7,12,10,4,3,1,0,2]⟩]) (.keep [2,3,5,6,7] (.seq (.reg true [(cFa 46 6 0), (cLd 47 46 false 1), (cFa 48 7 0), (cLd 49 48 false 1), (cB 50 .neq 47 49), (cMv 51 50), (gQ 52 51 false [6] (.fad 1 (.t 6))), (gQ 53 51 false [52] (.ld false 1 (.t 52))), (gQ 54 51 false [7] (.fad 1 (.t 7))), (gQ 55 51 false [54] (.ld false 1 (.t 54))), (gQ 56 51 false [53,55] (.bin .neq (.t 53) (.t 55))), (cQ 57 [51,56] (.pick (.t 51) (kB true) (.t 56))), (cMv 58 57), (gQ 59 58 false [6] (.fad 2 (.t 6))), (gQ 60 58 false [59] (.ld false 1 (.t 59))), (gQ 61 58 false [7] (.fad 2 (.t 7))), (gQ 62 58 false [61] (.ld false 1 (.t 61))), (gQ 63 58 false [60,62] (.bin .neq (.t 60) (.t 62))), (cQ 64 [58,63] (.pick (.t 58) (kB true) (.t 63))), (cMv 65 64), (gQ 66 65 false [6] (.fad 3 (.t 6))), (gQ 67 65 false [66] (.ld false 1 (.t 66))), (gQ 68 65 false [7] (.fad 3 (.t 7))), (gQ 69 65 false [68] (.ld false 1 (.t 68))), (gQ 70 65 false [67,69] (.call (kF 28) [(.t 67), (.t 69)])), (gQ 71 65 false [70] (.not (.t 70))), (cQ 72 [65,71] (.pick (.t 65) (kB true) (.t 71)))]) (.keep [2,3,5,72] (.cond (.t 72) (.seq (.reg false [(cQ 4 [] (.mv (kB false)))]) .ret) .skip)))))) (.drp 0 (.keep [2,3,5] (.reg false [(cMv 34 5), (cC 35 .add 34 1), (cMv 5 35)])))))))))) (.keep [] (.seq (.reg false [(cQ 4 [] (.mv (kB true)))]) .ret)))))))
def pu33 : List Nat := [2,3]
def rs33 : List RV := [.t 4]
theorem cc33 : CCx Try.prog Try.f33 pu33 rc33 := by unfold CCx; kernel_rfl
theorem cb33 : CBx Try.f33 := by unfold CBx; kernel_rfl
theorem cs33 : CSx Try.prog Try.f33 rs33 := by unfold CSx; kernel_rfl
theorem cn33 : 2 ≤ Try.f33.ntmps := by decide
end Go.C10
set_option linter.unusedSimpArgs false
set_option linter.unusedVariables false
namespace Go.C10
open Go.Fam Go.Proofs
variable {Γ : Gam}
theorem W62 (s : Stand) (n : Int) : PureCall Try.prog 62 [.ag (Qa4 s), .i n] (.b (Qao s.guests n)) := by
 refine Qaj Qqj hmix Try.func62 cb62 cc62 cs62 cn62 ?_
 have e : Qao s.guests n = (decide (0 ≤ n) && decide (n < s.guests)) := by
  unfold Qao Qbb
  congr 1
  rw [decide_eq_decide]; omega
 by_cases h : 0 ≤ n <;> simp only [rc62, rs62, h, e, Qa9, Qa8, Qah, Qa5, Qad, Qa6, Qa2, Fam.step, Qae, Qaz, Qas, ug, evO, opv, qv, Qak, binV, ldV, V.cells, Qat, Qaa, Qa7, Qa1, Qa0, Qa3, ↓reduceIte, Nat.reduceEqDiff, Nat.reduceAdd, Nat.reduceLeDiff, Qb, Qc, Qq, Qp, Qd, Qe, Ql, Qh, endQ, rvs, rv1, resV, vw_i, vw_b, Qal, Qar, zipA, beq_self_eq_true, Qf, Qo, Qt, Zi, Q5, Qk, Qa, Qr, decide_true, decide_false, and_true, and_self, forall_const, implies_true, reduceCtorEq, beq_true, imp_self, Qa4]
theorem W52 (l : List Int) (n : Int) (h : l.length ≤ 1000000) : PureCall Try.prog 52 [.sl 1 (l.map eI), .i n] (.b (decide (n ∈ l))) := by
 refine Qaj Qqj hmix Try.func52 cb52 cc52 cs52 cn52 ?_
 simp only [rc52, rs52, Qa9, Qa8, Qac, Qa5, Qad, Qa6, Qa2, Fam.step, Qae, evO, opv, qv, Qa1, Qa0, Qa3, ↓reduceIte, Nat.reduceEqDiff, Qb, Qc, zipA, Qf, true_and, reduceCtorEq]
 refine Qbk l.length (fun i => ⟨lkp [(0, .sl 1 (l.map eI)), (1, .i n), (5, .i i)], []⟩) (fun i => ∀ j : Nat, j < i → ¬ l[j]? = some n) ?_ ?_ ?_ ?_
 ·simp only [Za, kp, Qa0, Qa3, ↓reduceIte, Nat.reduceEqDiff, Qb, Qc, reduceCtorEq]
 ·intro j hj; omega
 ·intro i hi hc
  obtain ⟨x, hx⟩ : ∃ x, l[i]? = some x := ⟨_, Q3 hi⟩
  have hlt : (i : Int) < l.length := by omega
  have h3 : inI ((i : Int) + 1) := by unfold inI; omega
  by_cases e : x = n
  ·have hm : n ∈ l := by rw [← e]; exact Ze hx
   simp only [hx, hlt, e, hm, Qaf, Qa9, Qa8, Qab, Qac, Qah, Qa5, Qad, Qai, Qa6, Qa2, Fam.step, Qae, evO, opv, qv, binV, ldV, iadV, lenV, kp, Qa1, Qa0, Qa3, ↓reduceIte, Nat.reduceEqDiff, Nat.reduceLeDiff, Qb, Qc, Qd, Qe, Qh, Qv, endQ, rvs, rv1, resV, vw_b, Q0, Qf, Qa, decide_true, and_self, reduceCtorEq, Q1, Qg, Q2, Qn, Qx, eI]
  ·simp only [hx, hlt, e, h3, Zc, Zb, Qaf, Qa9, Qa8, Qab, Qac, Qa5, Qad, Qai, Qa6, Qa2, Fam.step, Qae, evO, opv, qv, binV, ldV, iadV, lenV, kp, Qa1, Qa0, Qa3, ↓reduceIte, Nat.reduceEqDiff, Nat.reduceLeDiff, Qb, Qc, Qd, Qe, Qh, Qv, Q0, Qf, Qa, decide_true, decide_false, true_and, and_true, and_self, reduceCtorEq, Q1, Qg, Q2, Qn, Qx, eI]
   intro j hj hjx
   by_cases hji : j < i
   ·exact hc j hji hjx
   ·have : j = i := by omega
    subst this
    rw [hx] at hjx
    exact e (Xh.inj hjx)
 ·intro hc
  have hlt : ¬ ((l.length : Int) < l.length) := by omega
  have hm : n ∉ l := fun hm => by
   obtain ⟨j, hj⟩ := Zm hm
   exact hc j (Qam hj) hj
  simp only [hlt, hm, Qa9, Qa8, Qab, Qax, Qah, Qa5, Qad, Qai, Qa6, Qa2, Fam.step, Qae, evO, opv, qv, binV, lenV, Qa1, Qa0, Qa3, ↓reduceIte, Nat.reduceEqDiff, Qb, Qc, endQ, rvs, rv1, resV, vw_b, Qa, decide_false, and_self, reduceCtorEq, Qg]
theorem W38 (l : List Int) (n : Int) (h : l.length ≤ 1000000) : PureCall Try.prog 38 [.sl 1 (l.map eI), .i n] (.b (decide (n ∈ l))) := by
 refine Qaj Qqj hmix Try.func38 cb38 cc38 cs38 cn38 ?_
 simp only [rc38, rs38, Qa9, Qa8, Qac, Qa5, Qad, Qa6, Qa2, Fam.step, Qae, evO, opv, qv, Qa1, Qa0, Qa3, ↓reduceIte, Nat.reduceEqDiff, Qb, Qc, zipA, Qf, true_and, reduceCtorEq]
 refine Qbk l.length (fun i => ⟨lkp [(0, .sl 1 (l.map eI)), (1, .i n), (5, .i i)], []⟩) (fun i => ∀ j : Nat, j < i → ¬ l[j]? = some n) ?_ ?_ ?_ ?_
 ·simp only [Za, kp, Qa0, Qa3, ↓reduceIte, Nat.reduceEqDiff, Qb, Qc, reduceCtorEq]
 ·intro j hj; omega
 ·intro i hi hc
  obtain ⟨x, hx⟩ : ∃ x, l[i]? = some x := ⟨_, Q3 hi⟩
  have hlt : (i : Int) < l.length := by omega
  have h3 : inI ((i : Int) + 1) := by unfold inI; omega
  by_cases e : x = n
  ·have hm : n ∈ l := by rw [← e]; exact Ze hx
   simp only [hx, hlt, e, hm, Qaf, Qa9, Qa8, Qab, Qac, Qah, Qa5, Qad, Qai, Qa6, Qa2, Fam.step, Qae, evO, opv, qv, binV, ldV, iadV, lenV, kp, Qa1, Qa0, Qa3, ↓reduceIte, Nat.reduceEqDiff, Nat.reduceLeDiff, Qb, Qc, Qd, Qe, Qh, Qv, endQ, rvs, rv1, resV, vw_b, Q0, Qf, Qa, decide_true, and_self, reduceCtorEq, Q1, Qg, Q2, Qn, Qx, eI]
  ·simp only [hx, hlt, e, h3, Zc, Zb, Qaf, Qa9, Qa8, Qab, Qac, Qa5, Qad, Qai, Qa6, Qa2, Fam.step, Qae, evO, opv, qv, binV, ldV, iadV, lenV, kp, Qa1, Qa0, Qa3, ↓reduceIte, Nat.reduceEqDiff, Nat.reduceLeDiff, Qb, Qc, Qd, Qe, Qh, Qv, Q0, Qf, Qa, decide_true, decide_false, true_and, and_true, and_self, reduceCtorEq, Q1, Qg, Q2, Qn, Qx, eI]
   intro j hj hjx
   by_cases hji : j < i
   ·exact hc j hji hjx
   ·have : j = i := by omega
    subst this
    rw [hx] at hjx
    exact e (Xh.inj hjx)
 ·intro hc
  have hlt : ¬ ((l.length : Int) < l.length) := by omega
  have hm : n ∉ l := fun hm => by
   obtain ⟨j, hj⟩ := Zm hm
   exact hc j (Qam hj) hj
  simp only [hlt, hm, Qa9, Qa8, Qab, Qax, Qah, Qa5, Qad, Qai, Qa6, Qa2, Fam.step, Qae, evO, opv, qv, binV, lenV, Qa1, Qa0, Qa3, ↓reduceIte, Nat.reduceEqDiff, Qb, Qc, endQ, rvs, rv1, resV, vw_b, Qa, decide_false, and_self, reduceCtorEq, Qg]
def e62 (a : Stand × Int) : List V := [.ag (Qa4 a.1), .i a.2]
def d62 : List V → Stand × Int | [.ag x0, .i x1] => (Qaw x0, x1) | _ => (Qaw [], 0)
theorem Qx3 (a : Stand × Int) : d62 (e62 a) = a := by simp [d62, e62, Qb4]
noncomputable def HM1 : Gam := HL2.ext 62 (fnG e62 d62 (fun a => (fun (s : Stand) (n : Int) => True) a.1 a.2) (fun a => (fun (s : Stand) (n : Int) => Qao s.guests n) a.1 a.2) .b)
theorem Qxp : GOk Try.prog HM1 := Qqj.ext (f := 62) (fun a w => Try.call62 a w) (Qb0 (e := e62) (d := d62) (ok := (fun a => (fun (s : Stand) (n : Int) => True) a.1 a.2)) (g := (fun a => (fun (s : Stand) (n : Int) => Qao s.guests n) a.1 a.2)) (eb := .b) fun a h => W62 a.1 a.2)
theorem h62 (s : Stand) (n : Int) : HM1 62 [.ag (Qa4 s), .i n] = (True, .b (Qao s.guests n)) :=
 (show HM1 62 _ = fnG e62 d62 (fun a => (fun (s : Stand) (n : Int) => True) a.1 a.2) (fun a => (fun (s : Stand) (n : Int) => Qao s.guests n) a.1 a.2) .b (e62 (s, n)) from rfl).trans (Qb2 _ (Qx3 _))
def e52 (a : List Int × Int) : List V := [.sl 1 (a.1.map eI), .i a.2]
def d52 : List V → List Int × Int | [.sl _ x0, .i x1] => (x0.map dI, x1) | _ => ([], 0)
theorem Qww (a : List Int × Int) : d52 (e52 a) = a := by simp [d52, e52, Function.comp_def, Qd4]
noncomputable def HM2 : Gam := HM1.ext 52 (fnG e52 d52 (fun a => (fun (l : List Int) (n : Int) => l.length ≤ 1000000) a.1 a.2) (fun a => (fun (l : List Int) (n : Int) => decide (n ∈ l)) a.1 a.2) .b)
theorem Qxq : GOk Try.prog HM2 := Qxp.ext (f := 52) (fun a w => Try.call52 a w) (Qb0 (e := e52) (d := d52) (ok := (fun a => (fun (l : List Int) (n : Int) => l.length ≤ 1000000) a.1 a.2)) (g := (fun a => (fun (l : List Int) (n : Int) => decide (n ∈ l)) a.1 a.2)) (eb := .b) fun a h => W52 a.1 a.2 h)
theorem h52 (l : List Int) (n : Int) : HM2 52 [.sl 1 (l.map eI), .i n] = (l.length ≤ 1000000, .b (decide (n ∈ l))) :=
 (show HM2 52 _ = fnG e52 d52 (fun a => (fun (l : List Int) (n : Int) => l.length ≤ 1000000) a.1 a.2) (fun a => (fun (l : List Int) (n : Int) => decide (n ∈ l)) a.1 a.2) .b (e52 (l, n)) from rfl).trans (Qb2 _ (Qww _))
def e38 (a : List Int × Int) : List V := [.sl 1 (a.1.map eI), .i a.2]
def d38 : List V → List Int × Int | [.sl _ x0, .i x1] => (x0.map dI, x1) | _ => ([], 0)
noncomputable def HM3 : Gam := HM2.ext 38 (fnG e38 d38 (fun a => (fun (l : List Int) (n : Int) => l.length ≤ 1000000) a.1 a.2) (fun a => (fun (l : List Int) (n : Int) => decide (n ∈ l)) a.1 a.2) .b)
theorem Qvl : GOk Try.prog HM3 := Qxq.ext (f := 38) (fun a w => Try.call38 a w) (Qb0 (e := e38) (d := d38) (ok := (fun a => (fun (l : List Int) (n : Int) => l.length ≤ 1000000) a.1 a.2)) (g := (fun a => (fun (l : List Int) (n : Int) => decide (n ∈ l)) a.1 a.2)) (eb := .b) fun a h => W38 a.1 a.2 h)
theorem Qti (s : Stand) (n : Int)  : HM3 62 [.ag (Qa4 s), .i n] = (True, .b (Qao s.guests n)) := h62 s n
theorem Qnv {g : Int} {w : Word} (hg : Qao g w.guest = true) (ho : Qao g w.other = false) : Qgx g w = false := by
 unfold Qgx
 split
 ·by_cases h : w.other = 0
  ·rw [h] at ho
   simp only [Qao, Qbb, Zp, decide_eq_true_eq, Z4, decide_eq_false_iff_not] at hg ho
   omega
  ·simp [h]
 ·split
  ·rw [ho]; simp
  ·rfl
set_option maxHeartbeats 4000000 in
theorem W65 (s : Stand) (w : Word) (h : w.among.length ≤ 1000000) : PureCall Try.prog 65 [.ag (Qa4 s), .ag (eWord w)] (.b (Qbp s.guests w)) := by
 refine Qaj Qvl hmix Try.func65 cb65 cc65 cs65 cn65 ?_
 have g1 := fun n => Qti s n
 simp only [Qa4] at g1
 by_cases hg : Qao s.guests w.guest = true
 rotate_left
 ·have e : Qbp s.guests w = false := by unfold Qbp; simp [hg]
  simp only [rc65, rs65, g1, hg, e, Qa9, Qa8, Qab, Qah, Qa5, Qad, Qa6, Qa2, Fam.step, Qae, Qaz, Qas, ug, evO, opv, qv, Qak, ldV, Qan, V.cells, Qat, Qaa, Qa7, flat, Qa1, Qa0, Qa3, ↓reduceIte, Nat.reduceEqDiff, Nat.reduceAdd, Nat.reduceLT, Nat.reduceLeDiff, Qb, Qc, Qq, Qp, Qd, Qe, Qi, Ql, Qm, Qu, Qh, Qj, endQ, rvs, rv1, resV, vw_i, vw_b, Qal, Qar, zipA, Qf, Qo, Qt, Qk, Qs, Qw, Qa, Qr, and_true, and_self, forall_const, implies_true, reduceCtorEq, beq_false, imp_self, eWord, Qa4]
 by_cases ho : Qao s.guests w.other = true
 rotate_left
 ·have e : Qbp s.guests w = false := by unfold Qbp; rw [Qnv hg (by simpa using ho)]; simp
  simp only [rc65, rs65, g1, hg, ho, e, Qa9, Qa8, Qab, Qah, Qa5, Qad, Qa6, Qa2, Fam.step, Qae, Qaz, Qas, ug, evO, opv, qv, Qak, ldV, Qan, V.cells, Qat, Qaa, Qa7, flat, Qa1, Qa0, Qa3, ↓reduceIte, Nat.reduceEqDiff, Nat.reduceAdd, Nat.reduceLT, Nat.reduceLeDiff, Qb, Qc, Qq, Qp, Qd, Qe, Qi, Ql, Qm, Qu, Qh, Qj, endQ, rvs, rv1, resV, vw_i, vw_b, Qal, Qar, zipA, beq_self_eq_true, Qf, Qo, Qk, Qs, Qw, Qa, and_self, forall_const, implies_true, reduceCtorEq, eWord, Qa4]
 by_cases k3 : w.kind = 3 ∨ w.kind = 4
 ·have k12 : ¬ (w.kind = 1 ∨ w.kind = 2) := by omega
  by_cases hl : (w.among.length : Int) = 0
  ·have hl0 : w.among = [] := List.eq_nil_of_length_eq_zero (by omega)
   have e : Qbp s.guests w = decide (w.other ≠ w.guest) := by unfold Qbp Qgx Qfg; rw [if_neg k12, if_pos k3, hg, ho, hl0]; simp
   by_cases hn : w.guest = w.other
   ·have hn' := hn.symm
    rcases k3 with k3 | k3 <;> simp only [rc65, rs65, g1, ho, k3, hl, hn, e, eq_self, Qaf, Qa9, Qa8, Qab, Qah, Qa5, Qad, Qa6, Qa2, Fam.step, Qae, Qaz, Qas, ug, evO, opv, qv, Qak, binV, ldV, lenV, Qan, V.cells, Qat, Qaa, Qa7, flat, Qa1, Qa0, Qa3, ↓reduceIte, Nat.reduceEqDiff, Nat.reduceAdd, Nat.reduceLT, Nat.reduceLeDiff, Int.reduceEq, Qb, Qc, Qq, Qp, Qd, Qe, Qi, Ql, Qm, Qu, Qh, Qj, endQ, rvs, rv1, resV, vw_i, vw_b, Qal, Qar, zipA, beq_self_eq_true, Qf, Qo, Qt, Qk, Qs, Qa, Qr, decide_true, decide_false, and_true, and_self, forall_const, implies_true, reduceCtorEq, not_true_eq_false, ne_eq, beq_false, imp_self, Qg, eWord, Qa4]
   ·have hn' : ¬ w.other = w.guest := fun e => hn e.symm
    rcases k3 with k3 | k3 <;> simp only [rc65, rs65, g1, hg, ho, k3, hl, hn, hn', e, Qaf, Qa9, Qa8, Qab, Qah, Qa5, Qad, Qa6, Qa2, Fam.step, Qae, Qaz, Qas, ug, evO, opv, qv, Qak, binV, ldV, lenV, Qan, V.cells, Qat, Qaa, Qa7, flat, Qa1, Qa0, Qa3, ↓reduceIte, Nat.reduceEqDiff, Nat.reduceAdd, Nat.reduceLT, Nat.reduceLeDiff, Int.reduceEq, Qb, Qc, Qq, Qp, Qd, Qe, Qi, Ql, Qm, Qu, Qh, Qj, endQ, rvs, rv1, resV, vw_i, vw_b, Qal, Qar, zipA, beq_self_eq_true, Qf, Qo, Qt, Qk, Qs, Qw, Qa, Qr, decide_true, decide_false, and_true, and_self, forall_const, implies_true, reduceCtorEq, not_false_eq_true, ne_eq, beq_false, imp_self, Qg, eWord, Qa4]
  ·have e : Qbp s.guests w = false := by
    unfold Qbp Qgx; rw [if_neg k12, if_pos k3]
    have : ¬ w.among.length = 0 := by omega
    simp [this]
   rcases k3 with k3 | k3 <;> simp only [rc65, rs65, g1, hg, ho, k3, hl, e, Qaf, Qa9, Qa8, Qab, Qah, Qa5, Qad, Qa6, Qa2, Fam.step, Qae, Qaz, Qas, ug, evO, opv, qv, Qak, binV, ldV, lenV, Qan, V.cells, Qat, Qaa, Qa7, flat, Qa1, Qa0, Qa3, ↓reduceIte, Nat.reduceEqDiff, Nat.reduceAdd, Nat.reduceLT, Nat.reduceLeDiff, Int.reduceEq, Qb, Qc, Qq, Qp, Qd, Qe, Qi, Ql, Qm, Qu, Qh, Qj, endQ, rvs, rv1, resV, vw_i, vw_b, Qal, Qar, zipA, beq_self_eq_true, Qf, Qo, Qt, Qk, Qs, Qa, Qr, decide_true, decide_false, and_true, and_self, forall_const, implies_true, reduceCtorEq, beq_true, beq_false, imp_self, Qg, eWord, Qa4]
 have k3' : ¬ w.kind = 3 := by omega
 have k4' : ¬ w.kind = 4 := by omega
 by_cases hbad : (¬ w.kind = 1 ∧ ¬ w.kind = 2) ∨ (w.among.length : Int) = 0 ∨ ¬ w.other = 0
 ·have e : Qbp s.guests w = false := by
   unfold Qbp Qgx
   rw [if_neg k3]
   by_cases k12 : w.kind = 1 ∨ w.kind = 2
   ·rw [if_pos k12]
    rcases hbad with hb | hb | hb
    ·omega
    ·have : ¬ 0 < w.among.length := by omega
     simp [this]
    ·simp [hb]
   ·rw [if_neg k12]; simp
  by_cases k1 : w.kind = 1
  ·by_cases hl : (w.among.length : Int) = 0
   ·simp only [rc65, rs65, g1, hg, ho, k1, hl, e, Qaf, Qa9, Qa8, Qab, Qah, Qa5, Qad, Qa6, Qa2, Fam.step, Qae, Qaz, Qas, ug, evO, opv, qv, Qak, binV, ldV, lenV, Qan, V.cells, Qat, Qaa, Qa7, flat, Qa1, Qa0, Qa3, ↓reduceIte, Nat.reduceEqDiff, Nat.reduceAdd, Nat.reduceLT, Nat.reduceLeDiff, Int.reduceEq, Qb, Qc, Qq, Qp, Qd, Qe, Qi, Ql, Qm, Qu, Qh, Qj, endQ, rvs, rv1, resV, vw_i, vw_b, Qal, Qar, zipA, beq_self_eq_true, Qf, Qo, Qt, Qk, Qs, Qw, Qa, Qr, decide_true, decide_false, and_true, and_self, forall_const, implies_true, reduceCtorEq, beq_true, beq_false, imp_self, Qg, eWord, Qa4]
   ·have ho0 : ¬ w.other = 0 := by omega
    simp only [rc65, rs65, g1, hg, ho, k1, hl, ho0, e, Qaf, Qa9, Qa8, Qab, Qah, Qa5, Qad, Qa6, Qa2, Fam.step, Qae, Qaz, Qas, ug, evO, opv, qv, Qak, binV, ldV, lenV, Qan, V.cells, Qat, Qaa, Qa7, flat, Qa1, Qa0, Qa3, ↓reduceIte, Nat.reduceEqDiff, Nat.reduceAdd, Nat.reduceLT, Nat.reduceLeDiff, Int.reduceEq, Qb, Qc, Qq, Qp, Qd, Qe, Qi, Ql, Qm, Qu, Qh, Qj, endQ, rvs, rv1, resV, vw_i, vw_b, Qal, Qar, zipA, beq_self_eq_true, Qf, Qo, Qt, Qk, Qs, Qw, Qa, decide_true, decide_false, and_true, and_self, forall_const, implies_true, reduceCtorEq, beq_true, imp_self, Qg, eWord, Qa4]
  ·by_cases k2 : w.kind = 2
   ·by_cases hl : (w.among.length : Int) = 0
    ·simp only [rc65, rs65, g1, hg, ho, k2, hl, e, Qaf, Qa9, Qa8, Qab, Qah, Qa5, Qad, Qa6, Qa2, Fam.step, Qae, Qaz, Qas, ug, evO, opv, qv, Qak, binV, ldV, lenV, Qan, V.cells, Qat, Qaa, Qa7, flat, Qa1, Qa0, Qa3, ↓reduceIte, Nat.reduceEqDiff, Nat.reduceAdd, Nat.reduceLT, Nat.reduceLeDiff, Int.reduceEq, Qb, Qc, Qq, Qp, Qd, Qe, Qi, Ql, Qm, Qu, Qh, Qj, endQ, rvs, rv1, resV, vw_i, vw_b, Qal, Qar, zipA, beq_self_eq_true, Qf, Qo, Qt, Qk, Qs, Qw, Qa, Qr, decide_true, decide_false, and_true, and_self, forall_const, implies_true, reduceCtorEq, beq_false, imp_self, Qg, eWord, Qa4]
    ·have ho0 : ¬ w.other = 0 := by omega
     simp only [rc65, rs65, g1, hg, ho, k2, hl, ho0, e, Qaf, Qa9, Qa8, Qab, Qah, Qa5, Qad, Qa6, Qa2, Fam.step, Qae, Qaz, Qas, ug, evO, opv, qv, Qak, binV, ldV, lenV, Qan, V.cells, Qat, Qaa, Qa7, flat, Qa1, Qa0, Qa3, ↓reduceIte, Nat.reduceEqDiff, Nat.reduceAdd, Nat.reduceLT, Nat.reduceLeDiff, Int.reduceEq, Qb, Qc, Qq, Qp, Qd, Qe, Qi, Ql, Qm, Qu, Qh, Qj, endQ, rvs, rv1, resV, vw_i, vw_b, Qal, Qar, zipA, beq_self_eq_true, Qf, Qo, Qk, Qs, Qw, Qa, Qr, decide_true, decide_false, and_self, forall_const, implies_true, reduceCtorEq, Qg, eWord, Qa4]
   ·simp only [rc65, rs65, g1, hg, ho, k3', k4', k1, k2, e, Qaf, Qa9, Qa8, Qab, Qah, Qa5, Qad, Qa6, Qa2, Fam.step, Qae, Qaz, Qas, ug, evO, opv, qv, Qak, binV, ldV, lenV, Qan, V.cells, Qat, Qaa, Qa7, flat, Qa1, Qa0, Qa3, ↓reduceIte, Nat.reduceEqDiff, Nat.reduceAdd, Nat.reduceLT, Nat.reduceLeDiff, Qb, Qc, Qq, Qp, Qd, Qe, Qi, Ql, Qm, Qu, Qh, Qj, endQ, rvs, rv1, resV, vw_i, vw_b, Qal, Qar, zipA, beq_self_eq_true, Qf, Qo, Qt, Qk, Qs, Qw, Qa, Qr, decide_false, and_true, and_self, forall_const, implies_true, reduceCtorEq, beq_false, imp_self, Qg, eWord, Qa4]
 ·have hl : ¬ (w.among.length : Int) = 0 := by omega
  have ho0 : w.other = 0 := by omega
  have k12 : w.kind = 1 ∨ w.kind = 2 := by omega
  have ew : Qbp s.guests w = Qfg s.guests w.among := by
   unfold Qbp Qgx
   have : 0 < w.among.length := by omega
   rw [if_pos k12, hg]; simp [this, ho0]
  have k1or : w.kind = 1 ∨ (¬ w.kind = 1 ∧ w.kind = 2) := by omega
  have ho' := ho
  rw [ho0] at ho'
  rcases k1or with k1 | ⟨k1, k2⟩
  ·simp only [rc65, rs65, g1, hg, k1, hl, ho0, ho', Qaf, Qa9, Qa8, Qab, Qac, Qa5, Qad, Qa6, Qa2, Fam.step, Qae, Qaz, Qas, ug, evO, opv, qv, Qak, binV, ldV, lenV, Qan, V.cells, Qat, Qaa, Qa7, flat, Qa1, Qa0, Qa3, ↓reduceIte, Nat.reduceEqDiff, Nat.reduceAdd, Nat.reduceLT, Nat.reduceLeDiff, Int.reduceEq, Qb, Qc, Qq, Qp, Qd, Qe, Qi, Ql, Qm, Qu, Qh, Qj, vw_i, Qal, Qar, zipA, beq_self_eq_true, Qf, Qo, Qt, Qk, Qs, Qw, Qa, decide_true, decide_false, true_and, and_true, and_self, forall_const, implies_true, reduceCtorEq, beq_true, imp_self, Qg, eWord, Qa4]
   refine Qbk w.among.length (fun i => ⟨lkp [(2, .pa (Qa4 s)), (3, .pa (eWord w)), (5, .i i)], []⟩) (fun i => ∀ j : Nat, j < i → (Qao s.guests (w.among[j]?.getD 0) && (decide (j = 0) || decide (w.among[j - 1]?.getD 0 < w.among[j]?.getD 0))) = true) ?_ ?_ ?_ ?_
   ·simp only [Za, k1, ho0, kp, Qa0, Qa3, ↓reduceIte, Nat.reduceEqDiff, Qb, Qc, eWord, Qa4]
   ·intro j hj; omega
   ·intro i hi hc
    obtain ⟨x, hx⟩ : ∃ x, w.among[i]? = some x := ⟨_, Q3 hi⟩
    have hlt : (i : Int) < w.among.length := by omega
    have h3 : inI ((i : Int) + 1) ∧ inI ((i : Int) - 1) := by unfold inI; omega
    have hgd : w.among[i]?.getD 0 = x := by rw [hx]; rfl
    have fin : (Qao s.guests x && (decide (i = 0) || decide (w.among[i - 1]?.getD 0 < x))) = false → Qbp s.guests w = false := fun e => by
     rw [ew]; unfold Qfg
     rw [Zt]
     exact ⟨i, Zn.2 hi, by rw [hgd, e]; simp⟩
    have con : (Qao s.guests x && (decide (i = 0) || decide (w.among[i - 1]?.getD 0 < x))) = true → ∀ j : Nat, j < i + 1 → (Qao s.guests (w.among[j]?.getD 0) && (decide (j = 0) || decide (w.among[j - 1]?.getD 0 < w.among[j]?.getD 0))) = true := fun e j hj => by
     by_cases hji : j < i
     ·exact hc j hji
     ·have : j = i := by omega
      subst this
      rw [hgd]; exact e
    by_cases hgx : Qao s.guests x = true
    ·by_cases hi0 : i = 0
     ·subst hi0
      have hlt0 : (0 : Int) < w.among.length := by omega
      have i10 : inI 1 := by unfold inI; omega
      have hcon := con (by simp [hgx])
      rw [Qf] at hcon
      simp only [hx, hlt0, g1, hgx, Za, i10, Zb, Qaf, Qa9, Qbr, Qa8, Qab, Qac, Qa5, Qb9, Qad, Qai, Qa6, Qa2, Fam.step, Qae, Qaz, Qas, ug, runX, eff, Qb7, fpR, fpQ, fpV, Qc4, hits, evO, opv, qv, Qak, binV, ldV, iadV, lenV, Qan, Qaa, Qa7, flat, kp, Qa1, Qa0, Qa3, ↓reduceIte, Nat.reduceEqDiff, Nat.reduceAdd, Nat.reduceLT, Nat.reduceLeDiff, Int.reduceNeg, Int.reduceToNat, Zo, Int.reduceLE, Int.reduceAdd, Int.reduceSub, Qb, Qc, Qq, Qp, Qd, Qe, Qi, Ql, Qm, Qu, Qh, Q6, Q4, Qj, Qz, Qv, Q8, Qy, Q9, vw_i, Qal, Qar, Xa, beq_self_eq_true, Qf, Qo, Qt, Q5, Zk, Qk, Qs, Qw, Qa, decide_true, decide_false, true_and, and_true, and_self, false_and, and_false, forall_const, implies_true, Q1, Zd, Q7, beq_true, imp_self, Qg, Qn, Qx, eWord, Qa4, eI]
      exact hcon
     ·have hpos : (0 : Int) < i := by omega
      obtain ⟨y, hy⟩ : ∃ y, w.among[i - 1]? = some y := ⟨_, Q3 (by omega)⟩
      have hyd : w.among[i - 1]?.getD 0 = y := by rw [hy]; rfl
      have e1 : ((i : Int) - 1).toNat = i - 1 := by omega
      have e2 : (0 : Int) ≤ (i : Int) - 1 ∧ (i : Int) - 1 < w.among.length := by omega
      rw [hyd] at fin con
      by_cases hxy : x ≤ y
      ·simp only [hx, hlt, h3, g1, hgx, hpos, e1, e2, hy, hxy, Qaf, Qa9, Qbr, Qa8, Qab, Qac, Qah, Qa5, Qb9, Qad, Qai, Qa6, Qa2, Fam.step, Qae, Qaz, Qas, ug, runX, eff, Qb7, fpR, fpQ, fpV, Qc4, hits, evO, opv, qv, Qak, binV, ldV, iadV, lenV, Qan, Qaa, Qa7, flat, kp, Qa1, Qa0, Qa3, ↓reduceIte, Nat.reduceEqDiff, Nat.reduceAdd, Nat.reduceLT, Nat.reduceLeDiff, Qb, Qc, Qq, Qp, Qd, Qe, Qi, Ql, Qm, Qu, Qh, Q6, Q4, Qj, Qz, Qv, Q8, Qy, Q9, endQ, rvs, rv1, resV, vw_i, vw_b, Qal, Qar, Q0, beq_self_eq_true, Qf, V.b.injEq, Qo, Qt, Q5, Qk, Qs, Qw, Qa, Qr, decide_true, true_and, and_self, forall_const, implies_true, Q1, Zd, Q7, Qg, Q2, Qn, Qx, eWord, Qa4, eI]
       exact (fin (by simp [hi0]; intro _; omega)).symm
      ·simp only [hx, hlt, h3, g1, hgx, hpos, e1, e2, hy, hxy, Zc, Zb, Qaf, Qa9, Qbr, Qa8, Qab, Qac, Qa5, Qb9, Qad, Qai, Qa6, Qa2, Fam.step, Qae, Qaz, Qas, ug, runX, eff, Qb7, fpR, fpQ, fpV, Qc4, hits, evO, opv, qv, Qak, binV, ldV, iadV, lenV, Qan, Qaa, Qa7, flat, kp, Qa1, Qa0, Qa3, ↓reduceIte, Nat.reduceEqDiff, Nat.reduceAdd, Nat.reduceLT, Nat.reduceLeDiff, Qb, Qc, Qq, Qp, Qd, Qe, Qi, Ql, Qm, Qu, Qh, Q6, Q4, Qj, Qz, Qv, Q8, Qy, Q9, vw_i, Qal, Qar, Q0, beq_self_eq_true, Qf, Qo, Qt, Q5, Qk, Qs, Qw, Qa, Qr, decide_true, decide_false, true_and, and_true, and_self, forall_const, implies_true, Q1, Zd, Q7, Qg, Q2, Qn, Qx, eWord, Qa4, eI]
       exact con (by simp [hgx]; right; omega)
    ·simp only [hx, hlt, h3, g1, hgx, Qaf, Qa9, Qbr, Qa8, Qab, Qac, Qah, Qa5, Qb9, Qad, Qai, Qa6, Qa2, Fam.step, Qae, Qaz, Qas, ug, runX, eff, Qb7, fpR, fpQ, fpV, Qc4, hits, evO, opv, qv, Qev, binV, ldV, iadV, lenV, Qan, Qaa, Qa7, flat, kp, Qa1, Qa0, Qa3, ↓reduceIte, Nat.reduceEqDiff, Nat.reduceAdd, Nat.reduceLT, Nat.reduceLeDiff, Qb, Qc, Qq, Qp, Qd, Qe, Qi, Ql, Qm, Qu, Qh, Q6, Q4, Qj, Qz, Qv, Q8, Qy, Q9, endQ, rvs, rv1, resV, vw_i, vw_b, Qal, Qar, Q0, Qf, V.b.injEq, Qo, Qt, Q5, Qk, Qs, Qw, Qa, Qr, decide_true, decide_eq_true_eq, decide_eq_false_iff_not, true_and, and_true, and_self, false_and, forall_const, implies_true, Q1, Zd, Q7, beq_true, beq_false, imp_self, Qg, Q2, Qn, Qx, eWord, Qa4, eI]
     exact (fin (by simp [hgx])).symm
   ·intro hc
    have ha : Qbp s.guests w = true := by
     rw [ew]; unfold Qfg
     rw [Zw]
     intro i hi
     exact hc i (Zn.1 hi)
    have hlt : ¬ ((w.among.length : Int) < w.among.length) := by omega
    simp only [hlt, ha, Qa9, Qa8, Qab, Qax, Qah, Qa5, Qad, Qai, Qa6, Qa2, Fam.step, Qae, evO, opv, qv, binV, ldV, lenV, Qa1, Qa0, Qa3, ↓reduceIte, Nat.reduceEqDiff, Nat.reduceLeDiff, Qb, Qc, Qd, Qe, Qi, Ql, Qh, endQ, rvs, rv1, resV, vw_b, Qf, Qa, decide_false, and_self, Qg, eWord, Qa4]
  ·simp only [rc65, rs65, g1, hg, k2, hl, ho0, ho', Qaf, Qa9, Qa8, Qab, Qac, Qa5, Qad, Qa6, Qa2, Fam.step, Qae, Qaz, Qas, ug, evO, opv, qv, Qak, binV, ldV, lenV, Qan, V.cells, Qat, Qaa, Qa7, flat, Qa1, Qa0, Qa3, ↓reduceIte, Nat.reduceEqDiff, Nat.reduceAdd, Nat.reduceLT, Nat.reduceLeDiff, Int.reduceEq, Qb, Qc, Qq, Qp, Qd, Qe, Qi, Ql, Qm, Qu, Qh, Qj, vw_i, Qal, Qar, zipA, beq_self_eq_true, Qf, Qo, Qk, Qs, Qw, Qa, Qr, decide_true, decide_false, true_and, and_self, forall_const, implies_true, reduceCtorEq, Qg, eWord, Qa4]
   refine Qbk w.among.length (fun i => ⟨lkp [(2, .pa (Qa4 s)), (3, .pa (eWord w)), (5, .i i)], []⟩) (fun i => ∀ j : Nat, j < i → (Qao s.guests (w.among[j]?.getD 0) && (decide (j = 0) || decide (w.among[j - 1]?.getD 0 < w.among[j]?.getD 0))) = true) ?_ ?_ ?_ ?_
   ·simp only [Za, k2, ho0, kp, Qa0, Qa3, ↓reduceIte, Nat.reduceEqDiff, Qb, Qc, eWord, Qa4]
   ·intro j hj; omega
   ·intro i hi hc
    obtain ⟨x, hx⟩ : ∃ x, w.among[i]? = some x := ⟨_, Q3 hi⟩
    have hlt : (i : Int) < w.among.length := by omega
    have h3 : inI ((i : Int) + 1) ∧ inI ((i : Int) - 1) := by unfold inI; omega
    have hgd : w.among[i]?.getD 0 = x := by rw [hx]; rfl
    have fin : (Qao s.guests x && (decide (i = 0) || decide (w.among[i - 1]?.getD 0 < x))) = false → Qbp s.guests w = false := fun e => by
     rw [ew]; unfold Qfg
     rw [Zt]
     exact ⟨i, Zn.2 hi, by rw [hgd, e]; simp⟩
    have con : (Qao s.guests x && (decide (i = 0) || decide (w.among[i - 1]?.getD 0 < x))) = true → ∀ j : Nat, j < i + 1 → (Qao s.guests (w.among[j]?.getD 0) && (decide (j = 0) || decide (w.among[j - 1]?.getD 0 < w.among[j]?.getD 0))) = true := fun e j hj => by
     by_cases hji : j < i
     ·exact hc j hji
     ·have : j = i := by omega
      subst this
      rw [hgd]; exact e
    by_cases hgx : Qao s.guests x = true
    ·by_cases hi0 : i = 0
     ·subst hi0
      have hlt0 : (0 : Int) < w.among.length := by omega
      have i10 : inI 1 := by unfold inI; omega
      have hcon := con (by simp [hgx])
      rw [Qf] at hcon
      simp only [hx, hlt0, g1, hgx, Za, i10, Zb, Qaf, Qa9, Qbr, Qa8, Qab, Qac, Qa5, Qb9, Qad, Qai, Qa6, Qa2, Fam.step, Qae, Qaz, Qas, ug, runX, eff, Qb7, fpR, fpQ, fpV, Qc4, hits, evO, opv, qv, Qak, binV, ldV, iadV, lenV, Qan, Qaa, Qa7, flat, kp, Qa1, Qa0, Qa3, ↓reduceIte, Nat.reduceEqDiff, Nat.reduceAdd, Nat.reduceLT, Nat.reduceLeDiff, Int.reduceNeg, Int.reduceToNat, Zo, Int.reduceLE, Int.reduceAdd, Int.reduceSub, Qb, Qc, Qq, Qp, Qd, Qe, Qi, Ql, Qm, Qu, Qh, Q6, Q4, Qj, Qz, Qv, Q8, Qy, Q9, vw_i, Qal, Qar, Xa, beq_self_eq_true, Qf, Qo, Qt, Q5, Zk, Qk, Qs, Qw, Qa, decide_true, decide_false, true_and, and_true, and_self, false_and, and_false, forall_const, implies_true, Q1, Zd, Q7, beq_true, imp_self, Qg, Qn, Qx, eWord, Qa4, eI]
      exact hcon
     ·have hpos : (0 : Int) < i := by omega
      obtain ⟨y, hy⟩ : ∃ y, w.among[i - 1]? = some y := ⟨_, Q3 (by omega)⟩
      have hyd : w.among[i - 1]?.getD 0 = y := by rw [hy]; rfl
      have e1 : ((i : Int) - 1).toNat = i - 1 := by omega
      have e2 : (0 : Int) ≤ (i : Int) - 1 ∧ (i : Int) - 1 < w.among.length := by omega
      rw [hyd] at fin con
      by_cases hxy : x ≤ y
      ·simp only [hx, hlt, h3, g1, hgx, hpos, e1, e2, hy, hxy, Qaf, Qa9, Qbr, Qa8, Qab, Qac, Qah, Qa5, Qb9, Qad, Qai, Qa6, Qa2, Fam.step, Qae, Qaz, Qas, ug, runX, eff, Qb7, fpR, fpQ, fpV, Qc4, hits, evO, opv, qv, Qak, binV, ldV, iadV, lenV, Qan, Qaa, Qa7, flat, kp, Qa1, Qa0, Qa3, ↓reduceIte, Nat.reduceEqDiff, Nat.reduceAdd, Nat.reduceLT, Nat.reduceLeDiff, Qb, Qc, Qq, Qp, Qd, Qe, Qi, Ql, Qm, Qu, Qh, Q6, Q4, Qj, Qz, Qv, Q8, Qy, Q9, endQ, rvs, rv1, resV, vw_i, vw_b, Qal, Qar, Q0, beq_self_eq_true, Qf, V.b.injEq, Qo, Qt, Q5, Qk, Qs, Qw, Qa, Qr, decide_true, true_and, and_self, forall_const, implies_true, Q1, Zd, Q7, Qg, Q2, Qn, Qx, eWord, Qa4, eI]
       exact (fin (by simp [hi0]; intro _; omega)).symm
      ·simp only [hx, hlt, h3, g1, hgx, hpos, e1, e2, hy, hxy, Zc, Zb, Qaf, Qa9, Qbr, Qa8, Qab, Qac, Qa5, Qb9, Qad, Qai, Qa6, Qa2, Fam.step, Qae, Qaz, Qas, ug, runX, eff, Qb7, fpR, fpQ, fpV, Qc4, hits, evO, opv, qv, Qak, binV, ldV, iadV, lenV, Qan, Qaa, Qa7, flat, kp, Qa1, Qa0, Qa3, ↓reduceIte, Nat.reduceEqDiff, Nat.reduceAdd, Nat.reduceLT, Nat.reduceLeDiff, Qb, Qc, Qq, Qp, Qd, Qe, Qi, Ql, Qm, Qu, Qh, Q6, Q4, Qj, Qz, Qv, Q8, Qy, Q9, vw_i, Qal, Qar, Q0, beq_self_eq_true, Qf, Qo, Qt, Q5, Qk, Qs, Qw, Qa, Qr, decide_true, decide_false, true_and, and_true, and_self, forall_const, implies_true, Q1, Zd, Q7, Qg, Q2, Qn, Qx, eWord, Qa4, eI]
       exact con (by simp [hgx]; right; omega)
    ·simp only [hx, hlt, h3, g1, hgx, Qaf, Qa9, Qbr, Qa8, Qab, Qac, Qah, Qa5, Qb9, Qad, Qai, Qa6, Qa2, Fam.step, Qae, Qaz, Qas, ug, runX, eff, Qb7, fpR, fpQ, fpV, Qc4, hits, evO, opv, qv, Qev, binV, ldV, iadV, lenV, Qan, Qaa, Qa7, flat, kp, Qa1, Qa0, Qa3, ↓reduceIte, Nat.reduceEqDiff, Nat.reduceAdd, Nat.reduceLT, Nat.reduceLeDiff, Qb, Qc, Qq, Qp, Qd, Qe, Qi, Ql, Qm, Qu, Qh, Q6, Q4, Qj, Qz, Qv, Q8, Qy, Q9, endQ, rvs, rv1, resV, vw_i, vw_b, Qal, Qar, Q0, Qf, V.b.injEq, Qo, Qt, Q5, Qk, Qs, Qw, Qa, Qr, decide_true, decide_eq_true_eq, decide_eq_false_iff_not, true_and, and_true, and_self, false_and, forall_const, implies_true, Q1, Zd, Q7, beq_true, beq_false, imp_self, Qg, Q2, Qn, Qx, eWord, Qa4, eI]
     exact (fin (by simp [hgx])).symm
   ·intro hc
    have ha : Qbp s.guests w = true := by
     rw [ew]; unfold Qfg
     rw [Zw]
     intro i hi
     exact hc i (Zn.1 hi)
    have hlt : ¬ ((w.among.length : Int) < w.among.length) := by omega
    simp only [hlt, ha, Qa9, Qa8, Qab, Qax, Qah, Qa5, Qad, Qai, Qa6, Qa2, Fam.step, Qae, evO, opv, qv, binV, ldV, lenV, Qa1, Qa0, Qa3, ↓reduceIte, Nat.reduceEqDiff, Nat.reduceLeDiff, Qb, Qc, Qd, Qe, Qi, Ql, Qh, endQ, rvs, rv1, resV, vw_b, Qf, Qa, decide_false, and_self, Qg, eWord, Qa4]
end Go.C10
set_option linter.unusedSimpArgs false
set_option linter.unusedVariables false
namespace Go.C10
open Go.Fam Go.Proofs
variable {Γ : Gam}
def e65 (a : Stand × Word) : List V := [.ag (Qa4 a.1), .ag (eWord a.2)]
def d65 : List V → Stand × Word | [.ag x0, .ag x1] => (Qaw x0, Qeg x1) | _ => (Qaw [], Qeg [])
theorem Qx5 (a : Stand × Word) : d65 (e65 a) = a := by simp [d65, e65, Qb4, Qe4]
noncomputable def HN1 : Gam := HM3.ext 65 (fnG e65 d65 (fun a => (fun (s : Stand) (w : Word) => w.among.length ≤ 1000000) a.1 a.2) (fun a => (fun (s : Stand) (w : Word) => Qbp s.guests w) a.1 a.2) .b)
theorem Qvm : GOk Try.prog HN1 := Qvl.ext (f := 65) (fun a w => Try.call65 a w) (Qb0 (e := e65) (d := d65) (ok := (fun a => (fun (s : Stand) (w : Word) => w.among.length ≤ 1000000) a.1 a.2)) (g := (fun a => (fun (s : Stand) (w : Word) => Qbp s.guests w) a.1 a.2)) (eb := .b) fun a h => W65 a.1 a.2 h)
theorem h65 (s : Stand) (w : Word) : HN1 65 [.ag (Qa4 s), .ag (eWord w)] = (w.among.length ≤ 1000000, .b (Qbp s.guests w)) :=
 (show HN1 65 _ = fnG e65 d65 (fun a => (fun (s : Stand) (w : Word) => w.among.length ≤ 1000000) a.1 a.2) (fun a => (fun (s : Stand) (w : Word) => Qbp s.guests w) a.1 a.2) .b (e65 (s, w)) from rfl).trans (Qb2 _ (Qx5 _))
theorem W36 (s : Stand) (h : Qaq s) : PureCall Try.prog 36 [.ag (Qa4 s)] (.i (Qb1 s)) := by
 refine Qaj Qvm hmix Try.func36 cb36 cc36 cs36 cn36 ?_
 by_cases hg : Qbb s.guests 0 7 = true
 rotate_left
 ·have e : Qb1 s = 100 := by unfold Qb1; rw [if_pos (by simp [hg])]
  unfold Qbb at hg
  simp only [Zp, decide_eq_true_eq, not_and] at hg
  by_cases h1 : s.guests < 0
  ·simp only [rc36, rs36, h1, e, Qa9, Qa8, Qab, Qah, Qa5, Qad, Qa6, Qa2, Fam.step, Qae, Qaz, Qas, ug, evO, opv, qv, Qak, binV, ldV, V.cells, Qat, Qaa, Qa7, Qa1, Qa0, Qa3, ↓reduceIte, Nat.reduceEqDiff, Nat.reduceAdd, Nat.reduceLeDiff, Qb, Qc, Qq, Qp, Qd, Qe, Qi, Ql, Qh, endQ, rvs, rv1, resV, vw_i, Qal, Qar, zipA, Qf, Qo, Qt, Qk, Qs, Qa, Qr, decide_true, and_true, and_self, forall_const, implies_true, beq_false, imp_self, Qa4]
  ·have h2 : 7 < s.guests := by have := hg (by omega); omega
   simp only [rc36, rs36, h1, h2, e, Qa9, Qa8, Qab, Qah, Qa5, Qad, Qa6, Qa2, Fam.step, Qae, Qaz, Qas, ug, evO, opv, qv, Qak, binV, ldV, V.cells, Qat, Qaa, Qa7, Qa1, Qa0, Qa3, ↓reduceIte, Nat.reduceEqDiff, Nat.reduceAdd, Nat.reduceLeDiff, Qb, Qc, Qq, Qp, Qd, Qe, Qi, Ql, Qh, endQ, rvs, rv1, resV, vw_i, Qal, Qar, zipA, beq_self_eq_true, Qf, Qo, Qt, Qk, Qs, Qa, Qr, decide_true, decide_false, and_true, and_self, forall_const, implies_true, beq_false, imp_self, Qa4]
 have hg2 : ¬ s.guests < 0 ∧ ¬ 7 < s.guests := by
  unfold Qbb at hg
  simp only [Zp, decide_eq_true_eq] at hg; omega
 by_cases hw : Qbb s.wrong 0 7 = true
 rotate_left
 ·have e : Qb1 s = 100 := by unfold Qb1; rw [if_pos (by simp [hw])]
  unfold Qbb at hw
  simp only [Zp, decide_eq_true_eq, not_and] at hw
  by_cases h1 : s.wrong < 0
  ·simp only [rc36, rs36, hg2, h1, e, Qa9, Qa8, Qab, Qah, Qa5, Qad, Qa6, Qa2, Fam.step, Qae, Qaz, Qas, ug, evO, opv, qv, Qak, binV, ldV, V.cells, Qat, Qaa, Qa7, Qa1, Qa0, Qa3, ↓reduceIte, Nat.reduceEqDiff, Nat.reduceAdd, Nat.reduceLeDiff, Qb, Qc, Qq, Qp, Qd, Qe, Qi, Ql, Qh, endQ, rvs, rv1, resV, vw_i, Qal, Qar, zipA, beq_self_eq_true, Qf, Qo, Qt, Qk, Qs, Qa, Qr, decide_true, decide_false, and_true, and_self, forall_const, implies_true, beq_false, imp_self, Qa4]
  ·have h2 : 7 < s.wrong := by have := hw (by omega); omega
   simp only [rc36, rs36, hg2, h1, h2, e, Qa9, Qa8, Qab, Qah, Qa5, Qad, Qa6, Qa2, Fam.step, Qae, Qaz, Qas, ug, evO, opv, qv, Qak, binV, ldV, V.cells, Qat, Qaa, Qa7, Qa1, Qa0, Qa3, ↓reduceIte, Nat.reduceEqDiff, Nat.reduceAdd, Nat.reduceLeDiff, Qb, Qc, Qq, Qp, Qd, Qe, Qi, Ql, Qh, endQ, rvs, rv1, resV, vw_i, Qal, Qar, zipA, beq_self_eq_true, Qf, Qo, Qk, Qa, decide_true, decide_false, and_self, forall_const, implies_true, Qa4]
 have hw2 : ¬ s.wrong < 0 ∧ ¬ 7 < s.wrong := by
  unfold Qbb at hw
  simp only [Zp, decide_eq_true_eq] at hw; omega
 by_cases h20 : (20 : Int) < s.words.length
 ·have e : Qb1 s = 101 := by unfold Qb1; rw [if_neg (by simp [hg, hw]), if_pos (.inl (by omega))]
  simp only [rc36, rs36, hg2, hw2, h20, e, Qaf, Qa9, Qa8, Qab, Qah, Qa5, Qad, Qa6, Qa2, Fam.step, Qae, Qaz, Qas, ug, evO, opv, qv, Qak, binV, ldV, lenV, V.cells, Qat, Qaa, Qa7, Qa1, Qa0, Qa3, ↓reduceIte, Nat.reduceEqDiff, Nat.reduceAdd, Nat.reduceLeDiff, Qb, Qc, Qq, Qp, Qd, Qe, Qi, Ql, Qh, endQ, rvs, rv1, resV, vw_i, Qal, Qar, zipA, beq_self_eq_true, Qf, Qo, Qk, Qa, decide_true, decide_false, and_self, forall_const, implies_true, Qg, Qa4]
 ·simp only [rc36, rs36, hg2, hw2, h20, Qaf, Qa9, Qa8, Qab, Qac, Qa5, Qad, Qa6, Qa2, Fam.step, Qae, Qaz, Qas, ug, evO, opv, qv, Qak, binV, ldV, lenV, V.cells, Qat, Qaa, Qa7, Qa1, Qa0, Qa3, ↓reduceIte, Nat.reduceEqDiff, Nat.reduceAdd, Nat.reduceLeDiff, Qb, Qc, Qq, Qp, Qd, Qe, Qi, Ql, Qh, vw_i, Qal, Qar, zipA, beq_self_eq_true, Qf, Qo, Qk, Qa, decide_false, true_and, and_self, forall_const, implies_true, Qg, Qa4]
  have hck : Qb1 s = if (s.words.any fun w => !Qbp s.guests w) = true then 101 else 0 := by
   unfold Qb1
   rw [if_neg (by simp [hg, hw])]
   have : ¬ 20 < s.words.length := by omega
   simp only [this, false_or]
  refine Qbk s.words.length (fun i => ⟨lkp [(1, .pa (Qa4 s)), (3, .i i)], []⟩) (fun i => ∀ j w, j < i → s.words[j]? = some w → Qbp s.guests w = true) ?_ ?_ ?_ ?_
  ·simp only [Za, kp, Qa0, Qa3, ↓reduceIte, Nat.reduceEqDiff, Qb, Qc, Qa4]
  ·intro j w hj; omega
  ·intro i hi hc
   obtain ⟨w, hw⟩ : ∃ x, s.words[i]? = some x := ⟨_, Q3 hi⟩
   have hlt : (i : Int) < s.words.length := by omega
   have h3 : inI ((i : Int) + 1) := by unfold inI; omega
   have g1 := h65 s w
   simp only [Qa4, eWord] at g1
   have hs := h w (Ze hw)
   by_cases e : Qbp s.guests w = true
   ·simp only [hw, hlt, h3, g1, hs, e, Zc, Zb, Qaf, Qa9, Qbr, Qa8, Qab, Qac, Qa5, Qb9, Qad, Qai, Qa6, Qa2, Fam.step, Qae, runX, eff, Qb7, fpR, fpQ, fpV, Qc4, hits, evO, opv, qv, binV, ldV, iadV, lenV, Qan, Qaa, Qa7, flat, kp, Qa1, Qa0, Qa3, ↓reduceIte, Nat.reduceEqDiff, Nat.reduceAdd, Nat.reduceLT, Nat.reduceLeDiff, Qb, Qc, Qp, Qd, Qe, Qi, Ql, Qm, Qu, Qh, Q6, Q4, Qj, Qz, Qv, Q8, Qy, Q9, vw_i, Qal, Qar, Q0, Qf, Qo, Qt, Q5, Qk, Qs, Qw, Qa, decide_true, true_and, and_true, and_self, implies_true, Q1, Zd, Q7, Qg, Q2, Qn, Qx, eWord, Qa4]
    intro j w' hj hjw
    by_cases hji : j < i
    ·exact hc j w' hji hjw
    ·have : j = i := by omega
     subst this
     rw [hw] at hjw; cases hjw; exact e
   ·have he : Qb1 s = 101 := by
     rw [hck, if_pos]
     rw [Zq]
     exact ⟨w, Ze hw, by simp [e]⟩
    simp only [hw, hlt, g1, hs, e, he, Qaf, Qa9, Qbr, Qa8, Qab, Qac, Qah, Qa5, Qb9, Qad, Qai, Qa6, Qa2, Fam.step, Qae, runX, eff, Qb7, fpR, fpQ, fpV, Qc4, hits, evO, opv, qv, binV, ldV, iadV, lenV, Qan, Qaa, Qa7, flat, kp, Qa1, Qa0, Qa3, ↓reduceIte, Nat.reduceEqDiff, Nat.reduceAdd, Nat.reduceLT, Nat.reduceLeDiff, Qb, Qc, Qp, Qd, Qe, Qi, Ql, Qm, Qu, Qh, Q6, Q4, Qj, Qz, Qv, Q8, Qy, Q9, endQ, rvs, rv1, resV, vw_i, Qal, Qar, Q0, Qf, Qo, Qt, Q5, Qk, Qs, Qw, Qa, decide_true, and_self, implies_true, Q1, Zd, Q7, Qg, Q2, Qn, Qx, eWord, Qa4]
  ·intro hc
   have hlt : ¬ ((s.words.length : Int) < s.words.length) := by omega
   have he : Qb1 s = 0 := by
    rw [hck, if_neg]
    rw [Zq]
    rintro ⟨w, hw, e⟩
    obtain ⟨j, hj⟩ := Zm hw
    rw [hc j w (Qam hj) hj] at e
    cases e
   simp only [hlt, he, Qa9, Qa8, Qab, Qax, Qah, Qa5, Qad, Qai, Qa6, Qa2, Fam.step, Qae, evO, opv, qv, binV, ldV, lenV, Qa1, Qa0, Qa3, ↓reduceIte, Nat.reduceEqDiff, Nat.reduceAdd, Nat.reduceLeDiff, Qb, Qc, Qd, Qe, Qi, Ql, Qh, endQ, rvs, rv1, resV, vw_i, Qf, Qa, decide_false, and_self, Qg, Qa4]
def e36 (a : Stand) : List V := [.ag (Qa4 a)]
def d36 : List V → Stand | [.ag x0] => (Qaw x0) | _ => (Qaw [])
theorem Qwp (a : Stand) : d36 (e36 a) = a := by simp [d36, e36, Qb4]
noncomputable def HN2 : Gam := HN1.ext 36 (fnG e36 d36 (fun a => (fun (s : Stand) => Qaq s) a) (fun a => (fun (s : Stand) => Qb1 s) a) .i)
theorem Qvn : GOk Try.prog HN2 := Qvm.ext (f := 36) (fun a w => Try.call36 a w) (Qb0 (e := e36) (d := d36) (ok := (fun a => (fun (s : Stand) => Qaq s) a)) (g := (fun a => (fun (s : Stand) => Qb1 s) a)) (eb := .i) fun a h => W36 a h)
theorem h36 (s : Stand) : HN2 36 [.ag (Qa4 s)] = (Qaq s, .i (Qb1 s)) :=
 (show HN2 36 _ = fnG e36 d36 (fun a => (fun (s : Stand) => Qaq s) a) (fun a => (fun (s : Stand) => Qb1 s) a) .i (e36 (s)) from rfl).trans (Qb2 _ (Qwp _))
def Qle (s : Stand) : Bool := decide (60 < s.words.length) || s.words.any fun w => decide (60 < w.among.length)
def farB (s : Stand) : Bool := Qle s || (decide (Qb1 s = 0) && decide (6 < s.guests))
theorem Qhv {s : Stand} (h : Qle s = false) : Qaq s ∧ s.words.length ≤ 60 := by
 unfold Qle at h
 simp only [Zh, decide_eq_false_iff_not, Zy, decide_eq_true_eq] at h
 exact ⟨fun w hw => by have := h.2 w hw; omega, by omega⟩
theorem W35 (s : Stand) : PureCall Try.prog 35 [.ag (Qa4 s)] (.b (farB s)) := by
 refine Qaj Qvn hmix Try.func35 cb35 cc35 cs35 cn35 ?_
 by_cases h60 : (60 : Int) < s.words.length
 ·have e : farB s = true := by
   unfold farB Qle
   have : 60 < s.words.length := by omega
   simp [this]
  simp only [rc35, rs35, h60, e, Qa9, Qa8, Qab, Qah, Qa5, Qad, Qa6, Qa2, Fam.step, Qae, evO, opv, qv, binV, ldV, lenV, V.cells, Qat, Qaa, Qa7, Qa1, Qa0, Qa3, ↓reduceIte, Nat.reduceEqDiff, Nat.reduceAdd, Nat.reduceLeDiff, Qb, Qc, Qd, Qe, Qi, Ql, Qh, endQ, rvs, rv1, resV, vw_i, vw_b, Qal, Qar, zipA, Qf, Qk, Qa, decide_true, and_self, Qg, Qa4]
 ·have h60' : ¬ 60 < s.words.length := by omega
  simp only [rc35, rs35, h60, Qaf, Qa9, Qa8, Qab, Qac, Qa5, Qad, Qa6, Qa2, Fam.step, Qae, evO, opv, qv, binV, ldV, lenV, V.cells, Qat, Qaa, Qa7, Qa1, Qa0, Qa3, ↓reduceIte, Nat.reduceEqDiff, Nat.reduceAdd, Nat.reduceLeDiff, Qb, Qc, Qd, Qe, Qi, Ql, Qh, vw_i, Qal, Qar, zipA, Qf, Qk, Qa, decide_false, true_and, and_self, Qg, Qa4]
  refine Qbk s.words.length (fun i => ⟨lkp [(1, .pa (Qa4 s)), (3, .i i)], []⟩) (fun i => ∀ j w, j < i → s.words[j]? = some w → ¬ 60 < w.among.length) ?_ ?_ ?_ ?_
  ·simp only [Za, kp, Qa0, Qa3, ↓reduceIte, Nat.reduceEqDiff, Qb, Qc, Qa4]
  ·intro j w hj; omega
  ·intro i hi hc
   obtain ⟨w, hw⟩ : ∃ x, s.words[i]? = some x := ⟨_, Q3 hi⟩
   have hlt : (i : Int) < s.words.length := by omega
   have h3 : inI ((i : Int) + 1) := by unfold inI; omega
   by_cases e : (60 : Int) < w.among.length
   ·have he : farB s = true := by
     unfold farB Qle
     have : (s.words.any fun w => decide (60 < w.among.length)) = true := Zq.2 ⟨w, Ze hw, by simp; omega⟩
     simp [this]
    simp only [hw, hlt, e, he, Qaf, Qa9, Qa8, Qab, Qac, Qah, Qa5, Qad, Qai, Qa6, Qa2, Fam.step, Qae, evO, opv, qv, binV, ldV, iadV, lenV, kp, Qa1, Qa0, Qa3, ↓reduceIte, Nat.reduceEqDiff, Nat.reduceAdd, Nat.reduceLeDiff, Qb, Qc, Qd, Qe, Qi, Ql, Qh, Qv, endQ, rvs, rv1, resV, vw_b, Q0, Qf, Qa, decide_true, and_self, Q1, Qg, Q2, Qn, Qx, eWord, Qa4]
   ·simp only [hw, hlt, h3, e, Zc, Zb, Qaf, Qa9, Qa8, Qab, Qac, Qa5, Qad, Qai, Qa6, Qa2, Fam.step, Qae, evO, opv, qv, binV, ldV, iadV, lenV, kp, Qa1, Qa0, Qa3, ↓reduceIte, Nat.reduceEqDiff, Nat.reduceAdd, Nat.reduceLeDiff, Qb, Qc, Qd, Qe, Qi, Ql, Qh, Qv, Q0, Qf, Qa, decide_true, decide_false, true_and, and_true, and_self, Q1, Qg, Q2, Qn, Qx, eWord, Qa4]
    intro j w' hj hjw
    by_cases hji : j < i
    ·exact hc j w' hji hjw
    ·have : j = i := by omega
     subst this
     rw [hw] at hjw; cases hjw; omega
  ·intro hc
   have hlt : ¬ ((s.words.length : Int) < s.words.length) := by omega
   have hlong : Qle s = false := by
    unfold Qle
    simp only [Zh, decide_eq_false_iff_not, Zy, decide_eq_true_eq]
    refine ⟨h60', fun w hw => ?_⟩
    obtain ⟨j, hj⟩ := Zm hw
    exact hc j w (Qam hj) hj
   obtain ⟨hs, _⟩ := Qhv hlong
   have g1 := h36 s
   simp only [Qa4] at g1
   by_cases h0 : Qb1 s = 0
   ·simp only [hlt, g1, hs, h0, farB, hlong, Qa9, Qa8, Qab, Qax, Qah, Qa5, Qad, Qai, Qa6, Qa2, Fam.step, Qae, Qaz, Qas, ug, evO, opv, qv, Qak, binV, ldV, lenV, Qan, Qaa, Qa7, flat, Qa1, Qa0, Qa3, ↓reduceIte, Nat.reduceEqDiff, Nat.reduceAdd, Nat.reduceLT, Nat.reduceLeDiff, Qb, Qc, Qq, Qp, Qd, Qe, Qi, Ql, Qm, Qu, Qh, Qj, endQ, rvs, rv1, resV, vw_i, vw_b, Qal, Qar, beq_self_eq_true, Qf, Qo, Zi, Qk, Zz, Qa, Qr, decide_true, decide_false, and_self, forall_const, implies_true, Qg, Qa4]
   ·simp only [hlt, g1, hs, h0, farB, hlong, Qa9, Qa8, Qab, Qax, Qah, Qa5, Qad, Qai, Qa6, Qa2, Fam.step, Qae, Qaz, Qas, ug, evO, opv, qv, Qak, binV, ldV, lenV, Qan, Qaa, Qa7, flat, Qa1, Qa0, Qa3, ↓reduceIte, Nat.reduceEqDiff, Nat.reduceAdd, Nat.reduceLT, Nat.reduceLeDiff, Qb, Qc, Qq, Qp, Qd, Qe, Qi, Ql, Qm, Qu, Qh, Qj, endQ, rvs, rv1, resV, vw_i, vw_b, Qal, Qar, Qf, Qo, Qt, Q5, Qk, Qa, decide_false, and_true, and_self, forall_const, implies_true, beq_true, imp_self, Qg, Qa4]
def e35 (a : Stand) : List V := [.ag (Qa4 a)]
def d35 : List V → Stand | [.ag x0] => (Qaw x0) | _ => (Qaw [])
theorem Qwo (a : Stand) : d35 (e35 a) = a := by simp [d35, e35, Qb4]
noncomputable def HN3 : Gam := HN2.ext 35 (fnG e35 d35 (fun a => (fun (s : Stand) => True) a) (fun a => (fun (s : Stand) => farB s) a) .b)
theorem Qvo : GOk Try.prog HN3 := Qvn.ext (f := 35) (fun a w => Try.call35 a w) (Qb0 (e := e35) (d := d35) (ok := (fun a => (fun (s : Stand) => True) a)) (g := (fun a => (fun (s : Stand) => farB s) a)) (eb := .b) fun a h => W35 a)
theorem h35 (s : Stand) : HN3 35 [.ag (Qa4 s)] = (True, .b (farB s)) :=
 (show HN3 35 _ = fnG e35 d35 (fun a => (fun (s : Stand) => True) a) (fun a => (fun (s : Stand) => farB s) a) .b (e35 (s)) from rfl).trans (Qb2 _ (Qwo _))
theorem Qtj (s : Stand)  : HN3 36 [.ag (Qa4 s)] = (Qaq s, .i (Qb1 s)) := h36 s
def Qg3 (s : Stand) : Bool := farB s || (decide (Qb1 s = 0) && decide (4 < s.guests))
theorem Qjv {s : Stand} (h : farB s = false) : Qle s = false := by unfold farB at h; rw [Zh] at h; exact h.1
theorem W29 (s : Stand) : PureCall Try.prog 29 [.ag (Qa4 s)] (.b (Qg3 s)) := by
 refine Qaj Qvo hmix Try.func29 cb29 cc29 cs29 cn29 ?_
 have g1 := h35 s
 have g2 := Qtj s
 simp only [Qa4] at g1 g2
 cases hf : farB s with
 | true => simp only [rc29, rs29, g1, g2, hf, Qg3, Qa9, Qa8, Qah, Qa5, Qad, Qa6, Qa2, Fam.step, Qae, Qaz, Qas, ug, evO, opv, qv, Qak, binV, ldV, Qan, V.cells, Qat, Qaa, Qa7, flat, Qa1, Qa0, Qa3, ↓reduceIte, Nat.reduceEqDiff, Nat.reduceAdd, Nat.reduceLT, Nat.reduceLeDiff, Qb, Qc, Qq, Qp, Qd, Qe, Ql, Qm, Qu, Qh, Qj, endQ, rvs, rv1, resV, vw_i, vw_b, Qal, Qar, zipA, Qf, Qo, Qt, Q5, Qk, Xc, Qs, Qa, Qr, decide_eq_true_eq, decide_eq_false_iff_not, true_and, and_true, and_self, false_and, forall_const, implies_true, beq_true, beq_false, Qnt, imp_self, Qa4]
 | false =>
  obtain ⟨hs, _⟩ := Qhv (Qjv hf)
  by_cases h0 : Qb1 s = 0 <;> simp only [rc29, rs29, g1, g2, hs, hf, h0, Qg3, Qa9, Qa8, Qah, Qa5, Qad, Qa6, Qa2, Fam.step, Qae, Qaz, Qas, ug, evO, opv, qv, Qak, binV, ldV, Qan, V.cells, Qat, Qaa, Qa7, flat, Qa1, Qa0, Qa3, ↓reduceIte, Nat.reduceEqDiff, Nat.reduceAdd, Nat.reduceLT, Nat.reduceLeDiff, Qb, Qc, Qq, Qp, Qd, Qe, Ql, Qm, Qu, Qh, Qj, endQ, rvs, rv1, resV, vw_i, vw_b, Qal, Qar, zipA, beq_self_eq_true, Qf, Qo, Qt, Zi, Q5, Zk, Qk, Zz, Qa, Qr, decide_true, decide_false, and_true, and_self, forall_const, implies_true, beq_true, imp_self, Qa4]
def e29 (a : Stand) : List V := [.ag (Qa4 a)]
def d29 : List V → Stand | [.ag x0] => (Qaw x0) | _ => (Qaw [])
theorem Qwi (a : Stand) : d29 (e29 a) = a := by simp [d29, e29, Qb4]
noncomputable def HN4 : Gam := HN3.ext 29 (fnG e29 d29 (fun a => (fun (s : Stand) => True) a) (fun a => (fun (s : Stand) => Qg3 s) a) .b)
theorem Qvp : GOk Try.prog HN4 := Qvo.ext (f := 29) (fun a w => Try.call29 a w) (Qb0 (e := e29) (d := d29) (ok := (fun a => (fun (s : Stand) => True) a)) (g := (fun a => (fun (s : Stand) => Qg3 s) a)) (eb := .b) fun a h => W29 a)
theorem h29 (s : Stand) : HN4 29 [.ag (Qa4 s)] = (True, .b (Qg3 s)) :=
 (show HN4 29 _ = fnG e29 d29 (fun a => (fun (s : Stand) => True) a) (fun a => (fun (s : Stand) => Qg3 s) a) .b (e29 (s)) from rfl).trans (Qb2 _ (Qwi _))
theorem Qtk (s : Stand)  : HN4 36 [.ag (Qa4 s)] = (Qaq s, .i (Qb1 s)) := h36 s
def Qlk (s : Stand) : Bool := !Qg3 s && decide (Qb1 s = 0)
theorem Qml {s : Stand} (h : Qg3 s = false) : farB s = false := by unfold Qg3 at h; rw [Zh] at h; exact h.1
theorem W14 (s : Stand) : PureCall Try.prog 14 [.ag (Qa4 s)] (.b (Qlk s)) := by
 refine Qaj Qvp hmix Try.func14 cb14 cc14 cs14 cn14 ?_
 have g1 := h29 s
 have g2 := Qtk s
 simp only [Qa4] at g1 g2
 cases hf : Qg3 s with
 | true => simp only [rc14, rs14, g1, hf, Qlk, Qa9, Qa8, Qah, Qa5, Qad, Qa6, Qa2, Fam.step, Qae, Qaz, Qas, ug, evO, opv, qv, Qh1, binV, ldV, Qan, V.cells, Qat, Qaa, Qa7, flat, Qa1, Qa0, Qa3, ↓reduceIte, Nat.reduceEqDiff, Nat.reduceAdd, Nat.reduceLT, Nat.reduceLeDiff, Qb, Qc, Qq, Qp, Qd, Qe, Qm, Qu, Qj, endQ, rvs, rv1, resV, vw_i, vw_b, Qal, Qar, zipA, Qf, Qo, Qt, Q5, Qk, Qs, Qa, true_and, and_true, and_self, false_and, forall_const, false_implies, implies_true, beq_true, imp_self, Qa4]
 | false =>
  obtain ⟨hs, _⟩ := Qhv (Qjv (Qml hf))
  by_cases h0 : Qb1 s = 0 <;> simp only [rc14, rs14, g1, g2, hs, hf, h0, Qlk, Qa9, Qa8, Qah, Qa5, Qad, Qa6, Qa2, Fam.step, Qae, Qaz, Qas, ug, evO, opv, qv, Qak, binV, ldV, Qan, V.cells, Qat, Qaa, Qa7, flat, Qa1, Qa0, Qa3, ↓reduceIte, Nat.reduceEqDiff, Nat.reduceAdd, Nat.reduceLT, Nat.reduceLeDiff, Qb, Qc, Qq, Qp, Qd, Qe, Qm, Qu, Qj, endQ, rvs, rv1, resV, vw_i, vw_b, Qal, Qar, zipA, beq_self_eq_true, Qf, Qo, Zk, Qk, Qw, Qa, Qr, decide_true, decide_false, and_self, forall_const, implies_true, Qa4]
def e14 (a : Stand) : List V := [.ag (Qa4 a)]
def d14 : List V → Stand | [.ag x0] => (Qaw x0) | _ => (Qaw [])
noncomputable def HN5 : Gam := HN4.ext 14 (fnG e14 d14 (fun a => (fun (s : Stand) => True) a) (fun a => (fun (s : Stand) => Qlk s) a) .b)
theorem Qvq : GOk Try.prog HN5 := Qvp.ext (f := 14) (fun a w => Try.call14 a w) (Qb0 (e := e14) (d := d14) (ok := (fun a => (fun (s : Stand) => True) a)) (g := (fun a => (fun (s : Stand) => Qlk s) a)) (eb := .b) fun a h => W14 a)
theorem Qtl (l : List Int) (n : Int)  : HN5 52 [.sl 1 (l.map eI), .i n] = (l.length ≤ 1000000, .b (decide (n ∈ l))) := h52 l n
theorem W43 (w : Word) (t : List Int) (h : OkSo w t.length) : PureCall Try.prog 43 [.ag (eWord w), .sl 1 (t.map eI)] (.b (soB w t)) := by
 refine Qaj Qvq hmix Try.func43 cb43 cc43 cs43 cn43 ?_
 have g1 := fun n => Qtl w.among n
 simp only [rc43, rs43, Qa9, Qa8, Qac, Qa5, Qad, Qa6, Qa2, Fam.step, Qae, evO, opv, qv, binV, ldV, V.cells, Qat, Qaa, Qa7, Qa1, Qa0, Qa3, ↓reduceIte, Nat.reduceEqDiff, Nat.reduceAdd, Nat.reduceLeDiff, Qb, Qc, Qd, Qe, Ql, Qh, vw_i, Qal, Qar, zipA, Qf, Qk, Qa, true_and, and_self, reduceCtorEq, eWord]
 obtain ⟨⟨a1, a2⟩, ⟨b1, b2⟩, hl⟩ := h
 obtain ⟨x, hx⟩ : ∃ x, t[w.guest.toNat]? = some x := ⟨_, Q3 (by omega)⟩
 obtain ⟨y, hy⟩ : ∃ x, t[w.other.toNat]? = some x := ⟨_, Q3 (by omega)⟩
 have ex : atN t w.guest = x := by unfold atN; rw [hx]; rfl
 have ey : atN t w.other = y := by unfold atN; rw [hy]; rfl
 by_cases k1 : w.kind = 1
 ·simp only [k1, a1, a2, hx, g1, hl, soB, ex, Qbr, Qa8, Qab, Qah, Qb9, Qad, Qai, Qae, runX, eff, Qb7, fpR, fpQ, fpV, Qc4, hits, evO, opv, qv, ldV, iadV, Qan, Qaa, Qa7, flat, Qa1, Qa0, ↓reduceIte, Nat.reduceEqDiff, Nat.reduceAdd, Nat.reduceLT, Nat.reduceLeDiff, Qb, Qc, Qp, Qd, Qe, Qi, Ql, Qh, Q6, Q4, Qj, Qz, Qv, Q8, Qy, Q9, endQ, rvs, rv1, resV, vw_i, vw_b, Qal, Qf, Qo, Qt, Q5, Qk, Qs, Qw, Qa, decide_true, and_self, implies_true, Q1, Zd, Q7, Qg, Qn, Qx, eI]
 by_cases k2 : w.kind = 2
 ·simp only [k2, a1, a2, hx, g1, hl, soB, ex, Qa9, Qbr, Qa8, Qab, Qah, Qa5, Qb9, Qad, Qai, Qa6, Qa2, Fam.step, Qae, runX, eff, Qb7, fpR, fpQ, fpV, Qc4, hits, evO, opv, qv, binV, ldV, iadV, Qan, Qaa, Qa7, flat, Qa1, Qa0, Qa3, ↓reduceIte, Nat.reduceEqDiff, Nat.reduceAdd, Nat.reduceLT, Nat.reduceLeDiff, Int.reduceEq, Qb, Qc, Qp, Qd, Qe, Qi, Ql, Qh, Q6, Q4, Qj, Qz, Qv, Q8, Qy, Q9, endQ, rvs, rv1, resV, vw_i, vw_b, Qal, Qf, Qo, Qt, Q5, Qk, Qs, Qw, Qa, decide_true, decide_false, and_self, implies_true, Q1, Zd, Q7, Qg, Qn, Qx, eI]
 by_cases k3 : w.kind = 3
 ·by_cases e : x = w.other <;> simp only [k3, a1, a2, b1, b2, hx, hy, soB, ex, ey, e, Qa9, Qbr, Qa8, Qab, Qah, Qa5, Qb9, Qad, Qai, Qa6, Qa2, Fam.step, Qae, Qaz, Qas, ug, runX, eff, Qb7, fpR, fpQ, fpV, Qc4, hits, evO, opv, qv, Qak, binV, ldV, iadV, Qa1, Qa0, Qa3, ↓reduceIte, Nat.reduceEqDiff, Nat.reduceAdd, Nat.reduceLeDiff, Int.reduceEq, Qb, Qc, Qq, Qp, Qd, Qe, Qi, Ql, Qh, Q6, Q4, Qj, Qz, Qv, Q8, Qy, Q9, endQ, rvs, rv1, resV, vw_b, beq_self_eq_true, Qf, Qo, Qt, Zi, Q5, Qk, Qs, Qw, Qa, Qr, decide_true, decide_false, and_true, and_self, forall_const, implies_true, Q1, Zd, Q7, beq_true, imp_self, Qg, Qn, Qx, eI]
 ·by_cases e : x = w.guest <;> simp only [k1, k2, k3, a1, a2, b1, b2, hx, hy, soB, ex, ey, e, Qaf, Qa9, Qbr, Qa8, Qab, Qah, Qa5, Qb9, Qad, Qai, Qa6, Qa2, Fam.step, Qae, Qaz, Qas, ug, runX, eff, Qb7, fpR, fpQ, fpV, Qc4, hits, evO, opv, qv, Qak, binV, ldV, iadV, Qa1, Qa0, Qa3, ↓reduceIte, Nat.reduceEqDiff, Nat.reduceAdd, Nat.reduceLeDiff, Qb, Qc, Qq, Qp, Qd, Qe, Qi, Ql, Qh, Q6, Q4, Qj, Qz, Qv, Q8, Qy, Q9, endQ, rvs, rv1, resV, vw_b, beq_self_eq_true, Qf, Qo, Qt, Q5, Qk, Zz, Xc, Qs, Qw, Qa, Qr, decide_true, decide_false, and_true, and_self, forall_const, implies_true, Q1, Zd, Q7, beq_false, imp_self, Qg, Qn, Qx, eI]
def e43 (a : Word × List Int) : List V := [.ag (eWord a.1), .sl 1 (a.2.map eI)]
def d43 : List V → Word × List Int | [.ag x0, .sl _ x1] => (Qeg x0, x1.map dI) | _ => (Qeg [], [])
theorem Qws (a : Word × List Int) : d43 (e43 a) = a := by simp [d43, e43, Qe4, Function.comp_def, Qd4]
noncomputable def HN6 : Gam := HN5.ext 43 (fnG e43 d43 (fun a => (fun (w : Word) (t : List Int) => OkSo w t.length) a.1 a.2) (fun a => (fun (w : Word) (t : List Int) => soB w t) a.1 a.2) .b)
theorem Qvr : GOk Try.prog HN6 := Qvq.ext (f := 43) (fun a w => Try.call43 a w) (Qb0 (e := e43) (d := d43) (ok := (fun a => (fun (w : Word) (t : List Int) => OkSo w t.length) a.1 a.2)) (g := (fun a => (fun (w : Word) (t : List Int) => soB w t) a.1 a.2)) (eb := .b) fun a h => W43 a.1 a.2 h)
theorem h43 (w : Word) (t : List Int) : HN6 43 [.ag (eWord w), .sl 1 (t.map eI)] = (OkSo w t.length, .b (soB w t)) :=
 (show HN6 43 _ = fnG e43 d43 (fun a => (fun (w : Word) (t : List Int) => OkSo w t.length) a.1 a.2) (fun a => (fun (w : Word) (t : List Int) => soB w t) a.1 a.2) .b (e43 (w, t)) from rfl).trans (Qb2 _ (Qws _))
theorem Qtm (l : List Int) (n : Int)  : HN6 52 [.sl 1 (l.map eI), .i n] = (l.length ≤ 1000000, .b (decide (n ∈ l))) := h52 l n
theorem W18 (t : List Int) (h : t.length ≤ 1000000) : PureCall Try.prog 18 [.sl 1 (t.map eI)] (.b (takB t)) := by
 refine Qaj Qvr hmix Try.func18 cb18 cc18 cs18 cn18 ?_
 simp only [rc18, rs18, Qa9, Qa8, Qac, Qa5, Qad, Qa6, Qa2, Fam.step, Qae, evO, opv, qv, Qa1, Qa0, Qa3, ↓reduceIte, Qb, Qc, zipA, true_and, reduceCtorEq]
 refine Qbk t.length (fun i => ⟨lkp [(0, .sl 1 (t.map eI)), (3, .i i)], []⟩) (fun i => ∀ j : Nat, j < i → (Qbb (t[j]?.getD 0) 0 (t.length - 1) && !decide (t[j]?.getD 0 ∈ t.take j)) = true) ?_ ?_ ?_ ?_
 ·simp only [Za, kp, Qa0, Qa3, ↓reduceIte, Qb, Qc, reduceCtorEq]
 ·intro j hj; omega
 ·intro i hi hc
  obtain ⟨x, hx⟩ : ∃ x, t[i]? = some x := ⟨_, Q3 hi⟩
  have hlt : (i : Int) < t.length := by omega
  have h3 : inI ((i : Int) + 1) := by unfold inI; omega
  have hle : (i : Int) ≤ t.length := by omega
  have g2 := Qtm (t.take i) x
  have htl : (t.take i).length ≤ 1000000 := by rw [Z1]; omega
  have hmt : List.take i (t.map eI) = (t.take i).map eI := by rw [List.map_take]
  have bad : (Qbb x 0 (t.length - 1) && !decide (x ∈ t.take i)) = false → takB t = false := fun e => by
   unfold takB
   rw [Z4]; right
   rw [Zt]
   exact ⟨i, Zn.2 hi, by rw [hx, Qv, e]; simp⟩
  have good : (Qbb x 0 (t.length - 1) && !decide (x ∈ t.take i)) = true → ∀ j : Nat, j < i + 1 → (Qbb (t[j]?.getD 0) 0 (t.length - 1) && !decide (t[j]?.getD 0 ∈ t.take j)) = true := fun e j hj => by
   by_cases hji : j < i
   ·exact hc j hji
   ·have : j = i := by omega
    subst this
    rw [hx, Qv]; exact e
  by_cases hx0 : x < 0
  ·simp only [hx, hlt, hle, hx0, Qaf, Qa9, Qbr, Qa8, Qab, Qac, Qah, Qa5, Qb9, Qad, Qai, Qa6, Qa2, Fam.step, Qae, Qaz, Qas, ug, runX, eff, Qb7, fpR, fpQ, fpV, Qc4, hits, evO, opv, qv, Qak, Qev, binV, ldV, iadV, lenV, slcV, Qgv, Qan, Qaa, Qa7, kp, Qa1, Qa0, Qa3, ↓reduceIte, Nat.reduceEqDiff, Nat.reduceLT, Nat.reduceLeDiff, Zo, Int.reduceLE, Qb, Qc, Qq, Qp, Qd, Qe, Ql, Qh, Q6, Q4, Qj, Qz, Qv, Q8, Qy, Q9, endQ, rvs, rv1, resV, vw_i, vw_b, Qal, Q0, Qf, V.b.injEq, Qo, Qt, Q5, Qk, Qs, Qw, Qa, Qr, decide_true, true_and, and_true, and_self, false_and, forall_const, false_implies, implies_true, reduceCtorEq, Q1, Zx, Zd, Q7, beq_false, imp_self, Qg, Q2, Qn, Qx, eI]
   exact (bad (by unfold Qbb; simp; intro h5; omega)).symm
  ·by_cases hx1 : (t.length : Int) ≤ x
   ·simp only [hx, hlt, hle, hx0, hx1, Qaf, Qa9, Qbr, Qa8, Qab, Qac, Qah, Qa5, Qb9, Qad, Qai, Qa6, Qa2, Fam.step, Qae, Qaz, Qas, ug, runX, eff, Qb7, fpR, fpQ, fpV, Qc4, hits, evO, opv, qv, Qak, Qev, binV, ldV, iadV, lenV, slcV, Qgv, Qan, Qaa, Qa7, kp, Qa1, Qa0, Qa3, ↓reduceIte, Nat.reduceEqDiff, Nat.reduceLT, Nat.reduceLeDiff, Zo, Int.reduceLE, Qb, Qc, Qq, Qp, Qd, Qe, Ql, Qh, Q6, Q4, Qj, Qz, Qv, Q8, Qy, Q9, endQ, rvs, rv1, resV, vw_i, vw_b, Qal, Q0, beq_self_eq_true, Qf, V.b.injEq, Qo, Qt, Q5, Qk, Qs, Qw, Qa, Qr, decide_true, decide_false, true_and, and_true, and_self, false_and, forall_const, false_implies, implies_true, reduceCtorEq, Q1, Zx, Zd, Q7, beq_false, imp_self, Qg, Q2, Qn, Qx, eI]
    exact (bad (by unfold Qbb; simp; intro; omega)).symm
   ·have hw : Qbb x 0 (t.length - 1) = true := by unfold Qbb; simp; omega
    by_cases hm : x ∈ t.take i
    ·simp only [hx, hlt, hle, hx0, hx1, g2, htl, hmt, hm, Qaf, Qa9, Qbr, Qa8, Qab, Qac, Qah, Qa5, Qb9, Qad, Qai, Qa6, Qa2, Fam.step, Qae, Qaz, Qas, ug, runX, eff, Qb7, fpR, fpQ, fpV, Qc4, hits, evO, opv, qv, Qak, binV, ldV, iadV, lenV, slcV, Qgv, Qan, Qaa, Qa7, flat, kp, Qa1, Qa0, Qa3, ↓reduceIte, Nat.reduceEqDiff, Nat.reduceLT, Nat.reduceLeDiff, Zo, Int.reduceLE, Qb, Qc, Qq, Qp, Qd, Qe, Ql, Qh, Q6, Q4, Qj, Qz, Qv, Q8, Qy, Q9, endQ, rvs, rv1, resV, vw_i, vw_b, Qal, Q0, beq_self_eq_true, Qf, V.b.injEq, Qo, Qt, Q5, Qk, Qs, Qw, Qa, decide_true, decide_false, true_and, and_self, forall_const, implies_true, reduceCtorEq, Q1, Zx, Zd, Q7, Qg, Q2, Qn, Qx, eI]
     exact (bad (by simp [hm])).symm
    ·simp only [hx, hlt, h3, hle, hx0, hx1, g2, htl, hmt, hm, Zc, Zb, Qaf, Qa9, Qbr, Qa8, Qab, Qac, Qa5, Qb9, Qad, Qai, Qa6, Qa2, Fam.step, Qae, Qaz, Qas, ug, runX, eff, Qb7, fpR, fpQ, fpV, Qc4, hits, evO, opv, qv, Qak, binV, ldV, iadV, lenV, slcV, Qgv, Qan, Qaa, Qa7, flat, kp, Qa1, Qa0, Qa3, ↓reduceIte, Nat.reduceEqDiff, Nat.reduceLT, Nat.reduceLeDiff, Zo, Int.reduceLE, Qb, Qc, Qq, Qp, Qd, Qe, Ql, Qh, Q6, Q4, Qj, Qz, Qv, Q8, Qy, Q9, vw_i, Qal, Q0, beq_self_eq_true, Qf, Qo, Qt, Q5, Qk, Qs, Qw, Qa, decide_true, decide_false, true_and, and_true, and_self, forall_const, implies_true, reduceCtorEq, Q1, Zx, Zd, Q7, Qg, Q2, Qn, Qx, eI]
     exact good (by simp [hw, hm])
 ·intro hc
  have hlt : ¬ ((t.length : Int) < t.length) := by omega
  have e : takB t = decide (t.length ≤ 7) := by
   unfold takB
   have : ((List.range t.length).all fun i => Qbb (t[i]?.getD 0) 0 (t.length - 1) && !decide (t[i]?.getD 0 ∈ t.take i)) = true := by
    rw [Zw]
    exact fun i hi => hc i (Zn.1 hi)
   rw [this, Qt]
  simp only [hlt, e, Qa9, Qa8, Qab, Qax, Qah, Qa5, Qad, Qai, Qa6, Qa2, Fam.step, Qae, evO, opv, qv, binV, lenV, Qa1, Qa0, Qa3, ↓reduceIte, Nat.reduceEqDiff, Qb, Qc, endQ, rvs, rv1, resV, vw_b, V.b.injEq, Qa, decide_false, true_and, and_self, reduceCtorEq, Qg]
  rw [decide_eq_decide]; omega
def e18 (a : List Int) : List V := [.sl 1 (a.map eI)]
def d18 : List V → List Int | [.sl _ x0] => (x0.map dI) | _ => ([])
theorem Qwd (a : List Int) : d18 (e18 a) = a := by simp [d18, e18, Function.comp_def, Qd4]
noncomputable def HN7 : Gam := HN6.ext 18 (fnG e18 d18 (fun a => (fun (t : List Int) => t.length ≤ 1000000) a) (fun a => (fun (t : List Int) => takB t) a) .b)
theorem Qvs : GOk Try.prog HN7 := Qvr.ext (f := 18) (fun a w => Try.call18 a w) (Qb0 (e := e18) (d := d18) (ok := (fun a => (fun (t : List Int) => t.length ≤ 1000000) a)) (g := (fun a => (fun (t : List Int) => takB t) a)) (eb := .b) fun a h => W18 a h)
theorem h18 (t : List Int) : HN7 18 [.sl 1 (t.map eI)] = (t.length ≤ 1000000, .b (takB t)) :=
 (show HN7 18 _ = fnG e18 d18 (fun a => (fun (t : List Int) => t.length ≤ 1000000) a) (fun a => (fun (t : List Int) => takB t) a) .b (e18 (t)) from rfl).trans (Qb2 _ (Qwd _))
theorem W28 (l m : List Int) (h : l.length ≤ 1000000) : PureCall Try.prog 28 [.sl 1 (l.map eI), .sl 1 (m.map eI)] (.b (decide (l = m))) := by
 refine Qaj Qvs hmix Try.func28 cb28 cc28 cs28 cn28 ?_
 simp only [rc28, rs28, Qaf, Qa9, Qa8, Qab, Qhg, Qac, Qah, Qa5, Qad, Qa6, Qa2, Fam.step, Qae, evO, opv, qv, binV, lenV, Qa1, Qa0, Qa3, ↓reduceIte, Nat.reduceEqDiff, Qb, Qc, endQ, rvs, rv1, resV, vw_b, zipA, Qf, V.b.injEq, decide_eq_false_iff_not, true_and, and_self, reduceCtorEq, Xd, Qg, Classical.not_not]
 refine ⟨fun h1 => ?_, fun h1 => ?_⟩
 ·have : ¬ l = m := fun e => by rw [e] at h1; omega
  simp only [this, decide_false]
 ·have hlm : l.length = m.length := by omega
  refine Qbk l.length (fun i => ⟨lkp [(0, .sl 1 (l.map eI)), (1, .sl 1 (m.map eI)), (5, .i i)], []⟩) (fun i => ∀ j : Nat, j < i → l[j]? = m[j]?) ?_ ?_ ?_ ?_
  ·simp only [Za, kp, Qa0, Qa3, ↓reduceIte, Nat.reduceEqDiff, Qb, Qc, reduceCtorEq]
  ·intro j hj; omega
  ·intro i hi hc
   obtain ⟨n, hn⟩ : ∃ n, l[i]? = some n := ⟨_, Q3 hi⟩
   obtain ⟨n', hn'⟩ : ∃ n, m[i]? = some n := ⟨_, Q3 (by omega)⟩
   have hlt : (i : Int) < l.length := by omega
   have hlt2 : (i : Int) < m.length := by omega
   have h3 : inI ((i : Int) + 1) := by unfold inI; omega
   by_cases e : n = n'
   ·subst e
    simp only [hn, hn', hlt, hlt2, h3, Zc, Zb, Qaf, Qa9, Qbr, Qa8, Qab, Qac, Qa5, Qb9, Qad, Qai, Qa6, Qa2, Fam.step, Qae, runX, eff, Qb7, fpR, fpQ, fpV, Qc4, hits, evO, opv, qv, binV, ldV, iadV, lenV, kp, Qa1, Qa0, Qa3, ↓reduceIte, Nat.reduceEqDiff, Nat.reduceLeDiff, Qb, Qc, Qp, Qd, Qe, Qh, Q6, Q4, Qj, Qz, Qv, Q8, Qy, Q9, Q0, Qf, Qo, Qt, Q5, Qk, Qs, Qw, Qa, decide_true, true_and, and_true, and_self, reduceCtorEq, Q1, Zd, Q7, Qg, Q2, Qn, Qx, eI]
    intro j hj
    by_cases hji : j < i
    ·exact hc j hji
    ·have : j = i := by omega
     subst this
     rw [hn, hn']
   ·have : ¬ l = m := fun e2 => by rw [e2, hn'] at hn; exact e (Xh.inj hn).symm
    simp only [hn, hn', hlt, hlt2, e, this, Qaf, Qa9, Qbr, Qa8, Qab, Qac, Qah, Qa5, Qb9, Qad, Qai, Qa6, Qa2, Fam.step, Qae, runX, eff, Qb7, fpR, fpQ, fpV, Qc4, hits, evO, opv, qv, binV, ldV, iadV, lenV, kp, Qa1, Qa0, Qa3, ↓reduceIte, Nat.reduceEqDiff, Nat.reduceLeDiff, Qb, Qc, Qp, Qd, Qe, Qh, Q6, Q4, Qj, Qz, Qv, Q8, Qy, Q9, endQ, rvs, rv1, resV, vw_b, Q0, Qf, Qo, Qt, Q5, Qk, Qs, Qw, Qa, decide_true, decide_false, and_self, reduceCtorEq, Q1, Zd, Q7, Qg, Q2, Qn, Qx, eI]
  ·intro hc
   have hlt : ¬ ((l.length : Int) < l.length) := by omega
   have e : l = m := by
    apply List.ext_getElem?
    intro j
    by_cases hj : j < l.length
    ·exact hc j hj
    ·rw [Z5 (by omega), Z5 (by omega)]
   subst e
   simp only [hlt, eq_self, Qa9, Qa8, Qab, Qax, Qah, Qa5, Qad, Qai, Qa6, Qa2, Fam.step, Qae, evO, opv, qv, binV, lenV, Qa1, Qa0, Qa3, ↓reduceIte, Nat.reduceEqDiff, Qb, Qc, endQ, rvs, rv1, resV, vw_b, Qa, decide_true, decide_false, and_self, reduceCtorEq, Qg]
def e28 (a : List Int × List Int) : List V := [.sl 1 (a.1.map eI), .sl 1 (a.2.map eI)]
def d28 : List V → List Int × List Int | [.sl _ x0, .sl _ x1] => (x0.map dI, x1.map dI) | _ => ([], [])
theorem Qwh (a : List Int × List Int) : d28 (e28 a) = a := by simp [d28, e28, Function.comp_def, Qd4]
noncomputable def HN8 : Gam := HN7.ext 28 (fnG e28 d28 (fun a => (fun (l : List Int) (m : List Int) => l.length ≤ 1000000) a.1 a.2) (fun a => (fun (l : List Int) (m : List Int) => decide (l = m)) a.1 a.2) .b)
theorem Qvt : GOk Try.prog HN8 := Qvs.ext (f := 28) (fun a w => Try.call28 a w) (Qb0 (e := e28) (d := d28) (ok := (fun a => (fun (l : List Int) (m : List Int) => l.length ≤ 1000000) a.1 a.2)) (g := (fun a => (fun (l : List Int) (m : List Int) => decide (l = m)) a.1 a.2)) (eb := .b) fun a h => W28 a.1 a.2 h)
theorem h28 (l : List Int) (m : List Int) : HN8 28 [.sl 1 (l.map eI), .sl 1 (m.map eI)] = (l.length ≤ 1000000, .b (decide (l = m))) :=
 (show HN8 28 _ = fnG e28 d28 (fun a => (fun (l : List Int) (m : List Int) => l.length ≤ 1000000) a.1 a.2) (fun a => (fun (l : List Int) (m : List Int) => decide (l = m)) a.1 a.2) .b (e28 (l, m)) from rfl).trans (Qb2 _ (Qwh _))
def exS0 : Stand := ⟨4, [⟨1, 0, 0, [1, 2]⟩, ⟨2, 3, 0, [3]⟩, ⟨4, 1, 2, []⟩], 0⟩
theorem W49 : PureCall Try.prog 49 [] (.ag (Qa4 exS0)) := by
 refine Qaj Qvt hmix Try.func49 cb49 cc49 cs49 cn49 ?_
 simp only [rc49, rs49, exS0, Zu, Zl, Qa9, Qa8, Qah, Qa5, Qcp, putB, Qad, Qa6, Qa2, Fam.step, Qae, Qcf, Qb6, putB, nv, sv, evO, opv, qv, ldV, Qau, putAt, Qbc, Qb5, V.cells, Qat, Qbn, Qaa, Qa7, Qa1, Qbs, Qa0, Qa3, ↓reduceIte, Nat.reduceEqDiff, Nat.reduceAdd, Nat.reduceMul, Nat.reduceLeDiff, Qb, Qc, Qq, Qp, Qd, Qe, Qi, Ql, Z0, Qm, Zg, Qu, Q6, Q4, Qj, Zf, Zr, Qy, Zj, endQ, rvs, rv1, resV, vw_i, vw_z, Qal, Qar, zipA, Qf, Qo, Qk, true_and, and_self, reduceCtorEq, not_false_eq_true, ne_eq, eWord, Qa4, eI]
 rfl
noncomputable def HN9 : Gam := HN8.ext 49 fun vs => (vs = [], .ag (Qa4 exS0))
theorem Qvu : GOk Try.prog HN9 := Qvt.ext (f := 49) (fun a w => Try.call49 a w) fun vs h => by
 have e : vs = [] := h
 subst e
 exact W49
theorem h49 : HN9 49 [] = (True, .ag (Qa4 exS0)) := by
 refine (show HN9 49 [] = ((([] : List V) = []), V.ag (Qa4 exS0)) from rfl).trans ?_
 simp
theorem Qjs : Qaq exS0 := by
 intro w hw
 simp [exS0] at hw
 rcases hw with rfl | rfl | rfl <;> simp
theorem Qhm : Qb1 exS0 = 0 := by decide
theorem Qdk : Qag exS0 = [[1, 3, 2, 0], [2, 1, 3, 0]] := by decide +kernel
theorem Qmj : Qbo exS0 [] = ([[1, 3, 2, 0], [2, 1, 3, 0]], 0) := by
 unfold Qbo
 rw [if_neg (by rw [Qhm]; simp), if_neg (by simp), Qdk]
 rfl
theorem Qma {l : List (List Int)} {g n : Int} (h : ∀ t ∈ l, 0 ≤ atN t g ∧ atN t g ≤ n - 1) : Qcu l g = (ints 0 (n - 1)).filter fun u => l.any fun t => decide (atN t g = u) := by
 have hd := Qku (colN l g)
 refine Qji hd.1 ?_ fun x => ?_
 ·refine List.Pairwise.filter _ ?_
  unfold ints
  rw [List.pairwise_map]
  refine List.Pairwise.imp ?_ List.pairwise_lt_range
  intro a b hab; omega
 ·unfold Qcu
  rw [hd.2, Xj, Qcl, Zq]
  unfold colN
  rw [List.mem_map]
  constructor
  ·rintro ⟨t, ht, rfl⟩
   exact ⟨h t ht, t, ht, by simp⟩
  ·rintro ⟨_, t, ht, e⟩
   exact ⟨t, ht, by simpa using e⟩
theorem Qjt : ∀ g : Int, 0 ≤ g → g ≤ 3 → Qcu (Qag exS0) g = (ints 0 3).filter fun u => (Qag exS0).any fun t => decide (atN t g = u) := fun g h1 h2 => by
 refine Qma (n := 4) fun t ht => ?_
 have hS : OkS exS0 := Qeu Qhm Qjs
 have := (Qed (n := 4) (Qdx.1 ht).1 (x := g) (by omega)).2
 omega
theorem Qoo : Qda exS0 = ([-1, -1, -1, 0], 0) := by
 unfold Qda Qd5
 rw [Qmj, if_pos rfl]
 have e : ints 0 (exS0.guests - 1) = [0, 1, 2, 3] := by decide
 rw [e]
 simp only [Qb, Qc]
 rw [Qjt 0 (by decide) (by decide), Qjt 1 (by decide) (by decide), Qjt 2 (by decide) (by decide), Qjt 3 (by decide) (by decide), Qdk]
 decide +kernel
theorem Qrz : Qig exS0 = (2, 0) := by
 unfold Qig
 rw [if_pos Qhm, Qdk]; rfl
theorem Qqc : (Qbh exS0).1 = 1 ∧ (Qbh exS0).2.2 = 0 := by
 have hS : OkS exS0 := Qeu Qhm Qjs
 have hT := Qc7 hS
 have hne : Qag exS0 ≠ [] := by rw [Qdk]; simp
 obtain ⟨h1, h2⟩ := Qcz hT hne
 have c1 : canB 1 (Qag exS0) = true := by rw [Qdk]; decide +kernel
 have c0 : ¬ canB 0 (Qag exS0) = true := by rw [Qdk]; decide +kernel
 have hle := h2 1 c1
 have hge : Qc6 (Qag exS0) ≠ 0 := fun e => by rw [e] at h1; exact c0 h1
 have e1 : Qc6 (Qag exS0) = 1 := by omega
 unfold Qbh
 rw [Qmj, if_pos rfl]
 exact ⟨by show (Qc6 (Qag exS0) : Int) = 1; rw [e1]; rfl, rfl⟩
theorem Qry : ((Qel [1, 2, 0, 3]).1.length, (Qel [1, 2, 0, 3]).2) = (2, 0) := by decide +kernel
theorem Qop : (Qce [1, 2, 0, 3]).2.2 = 0 ∧ 0 < (Qce [1, 2, 0, 3]).1.length + (Qce [1, 2, 0, 3]).2.1.length ∧ (Qce [1, 2, 0, 3]).1.length + (Qce [1, 2, 0, 3]).2.1.length ≤ 100 := by decide +kernel
theorem Qtn (s : Stand)  : HN9 16 [.ag (Qa4 s)] = (Qaq s, ((fun r => .tp [.i r.1, .i r.2])) (Qig s)) := h16 s
theorem Qts (s : Stand)  : HN9 41 [.ag (Qa4 s)] = (Qaq s, ((fun r => .tp [.sl 1 (r.1.map eI), .i r.2])) (Qda s)) := h41 s
theorem Qto (s : Stand)  : HN9 17 [.ag (Qa4 s)] = (Qaq s, ((fun r => .tp [.i r.1, .i r.2.2])) (Qbh s)) := h17 s
theorem Qtp (t : List Int)  : HN9 19 [.sl 1 (t.map eI)] = (t.length ≤ 1000000, ((fun r => .tp [.i r.1.length, .i r.2])) (Qel t)) := h19 t
theorem Qtq (t : List Int)  : HN9 24 [.sl 1 (t.map eI)] = (t.length ≤ 1000000, r3V (Qce t)) := h24 t
theorem Qtr (l : List Int) (m : List Int)  : HN9 28 [.sl 1 (l.map eI), .sl 1 (m.map eI)] = (l.length ≤ 1000000, .b (decide (l = m))) := h28 l m
set_option maxHeartbeats 1000000 in
theorem W15 : PureCall Try.prog 15 [] (.b true) := by
 refine Qaj Qvu hmix Try.func15 cb15 cc15 cs15 cn15 ?_
 have g1 := Qtn exS0
 have g2 := Qts exS0
 have g3 := Qto exS0
 have g4 := Qtp [1, 2, 0, 3]
 have g5 := Qtq [1, 2, 0, 3]
 have g6 := Qtr [-1, -1, -1, 0] [-1, -1, -1, 0]
 obtain ⟨e1, e2⟩ := Qqc
 obtain ⟨e3, e4, e5⟩ := Qop
 have e6 := Qry
 rw [Prod.mk.injEq] at e6
 rw [Qrz] at g1
 rw [Qoo] at g2
 simp only [e1, e2] at g3
 simp only [e6.1, e6.2] at g4
 simp only [r3V, e3] at g5
 have hsh := Qjs
 obtain ⟨X, hX⟩ : ∃ X, X = exS0 := ⟨_, rfl⟩
 have hE := h49
 have eX : Qa4 exS0 = [V.i 4, V.sl 4 (exS0.words.map eWord), V.i 0] := rfl
 rw [eX] at g1 g2 g3 hE
 simp only [eI, Qb, Qc, Qd, Qe] at g2 g4 g5 g6
 have c2 : ∀ a b c d : V, Qca 1 [a, b, c, d] 0 4 = [[a], [b], [c], [d]] := fun _ _ _ _ => rfl
 simp only [rc15, rs15, hE, g1, g2, g3, g4, g5, g6, hsh, Zu, Zl, c2, Qa9, Qa8, Qah, Qa5, putB, Qad, Qa6, Qa2, Fam.step, Qae, Qcf, Qaz, Qb6, Qas, ug, putB, nv, sv, evO, opv, qv, Qak, binV, ldV, lenV, Qan, Qau, putAt, Qbc, Qb5, V.cells, Qat, Qbn, Qaa, Qa7, flat, Qcx, Qa1, Qbs, Qa0, Qa3, ↓reduceIte, Nat.reduceEqDiff, Nat.reduceAdd, Nat.reduceMul, Nat.reduceLT, Nat.reduceLeDiff, Int.reduceNeg, Qb, Qc, Qq, Qp, Qd, Qe, Qi, Ql, Z0, Qm, Zg, Qu, Q6, Q4, Qj, Zf, Z2, Qv, Zr, Qy, Zj, endQ, rvs, rv1, resV, vw_i, vw_b, Qal, Qar, zipA, beq_self_eq_true, Qf, V.b.injEq, Qo, Qt, Zk, Qk, Qa, Qr, decide_true, decide_eq_true_eq, decide_eq_false_iff_not, true_and, and_true, and_self, forall_const, implies_true, reduceCtorEq, not_false_eq_true, ne_eq, beq_true, Qnt, imp_self, Qg]
 have i1 : inI (((Qce [1, 2, 0, 3]).1.length : Int) + (Qce [1, 2, 0, 3]).2.1.length) := by unfold inI; omega
 have i2 : (0 : Int) < ((Qce [1, 2, 0, 3]).1.length : Int) + (Qce [1, 2, 0, 3]).2.1.length := by omega
 have i3 : ((2 : Nat) : Int) = 2 := rfl
 simp only [i1, i2, i3, and_self, decide_true, Qo, implies_true]
theorem call15 (hG : GOk Try.prog Γ) : GOk Try.prog (Γ.ext 15 fun vs => (vs = [], .b true)) := hG.ext (f := 15) (fun a w => Try.call15 a w) fun vs h => by
 have e : vs = [] := h
 subst e
 exact W15
noncomputable def HN10 : Gam := HN9.ext 15 fun vs => (vs = [], .b true)
theorem Qrb : GOk Try.prog HN10 := call15 Qvu
theorem h15 : HN10 15 [] = (True, .b true) := by
 refine (show HN10 15 [] = ((([] : List V) = []), V.b true) from rfl).trans ?_
 simp
end Go.C10
set_option maxRecDepth 8000
namespace Go.C10
open Go.Fam Go.Proofs
end Go.C10
set_option linter.unusedSimpArgs false
set_option linter.unusedVariables false
namespace Go.C10
open Go.Fam Go.Proofs
variable {Γ : Gam}
theorem Qlb {s : Stand} (hc : Qb1 s = 0) : Qbo s [] = if Qag s = [] then ([], 3) else (Qag s, 0) := by
 unfold Qbo
 rw [if_neg (by simpa using hc)]
 simp
theorem Qnz {s : Stand} (hc : Qb1 s = 0) (ht : Qag s = []) : Qbh s = (0, 0, 3) := by
 unfold Qbh
 rw [Qlb hc, if_pos ht]
 rfl
theorem Qo0 {s : Stand} (hc : Qb1 s = 0) (ht : Qag s ≠ []) : Qbh s = ((Qc6 (Qag s) : Int), (askN (Qc6 (Qag s)) (Qag s)).getD (-1), 0) := by
 unfold Qbh
 rw [Qlb hc, if_neg ht]
 rfl
theorem Qrl (w : Word) (t : List Int)  : HN10 43 [.ag (eWord w), .sl 1 (t.map eI)] = (OkSo w t.length, .b (soB w t)) := h43 w t
end Go.C10
set_option maxRecDepth 8000
namespace Go.C10
open Go.Fam Go.Proofs
def rc64 : RC := (.seq (.reg false [(cX 2 0), (cQ 4 [] (.mv (.k (.z 1))))]) (.keep [1,2] (.seq (.seq (.reg false [(cMv 7 1), (cLn 8 7), (cFa 9 2 0), (cLd 10 9 false 1), (cB 11 .eql 8 10)]) (.keep [1,2,11] (.cond (.t 11) (.seq (.seq (.reg false [(cLd 12 2 true 3), (cMv 13 1), (cQ 14 [12,13] (.call (kF 40) [(.t 12), (.t 13)]))]) (.keep [1,14] (.cond (.t 14) (.seq (.reg false [(cMv 15 1), (cQ 16 [15] (.bsl 1 1 [(.z 1)] [(0,1, (.t 15))])), (cMv 4 16)]) .ret) .skip))) (.keep [] (.seq (.reg false [(cQ 4 [] (.mv (.k (.z 1))))]) .ret))) .skip))) (.keep [1,2] (.seq (.reg false [(cQ 5 [] (.mv (.k (.z 1))))]) (.keep [1,2,5] (.seq (.seq (.reg false [(cI 6 0)]) (.keep [1,2,5,6] (.block 0 (.own 5 1 (.loop [1,2,5,6] (some 1) (.seq (.seq (.reg false [(cMv 17 6), (cFa 18 2 0), (cLd 19 18 false 1), (cB 20 .lss 17 19)]) (.keep [1,2,5,6,20] (.cond (.t 20) .skip (.exit 0)))) (.keep [1,2,5,6] (.seq (.block 1 (.seq (.reg false [(cMv 23 1), (cMv 24 6), (cQ 25 [23,24] (.call (kF 52) [(.t 23), (.t 24)])), (cN 26 25)]) (.keep [1,2,5,6,26] (.cond (.t 26) (.any false 4 [⟨(cMv 27 5), [], []⟩, ⟨(cLd 28 2 true 3), [], []⟩, ⟨⟨(some 29), none, [], (some 0), .w (.bso 1 0 [(.i 0)] [])⟩, [0,1], []⟩, ⟨(cMv 30 1), [2], []⟩, ⟨⟨(some 31), none, [29,30], (some 1), .w (.app 1 (.t 29) (.t 30))⟩, [0,1], [2,3]⟩, ⟨(cMv 32 6), [2,4], []⟩, ⟨(cQ 33 [32] (.bsl 1 1 [(.i 0)] [(0,1, (.t 32))])), [2,4], [5]⟩, ⟨⟨(some 34), none, [31,33], (some 2), .w (.app 1 (.t 31) (.t 33))⟩, [0,1], [4,2,3,6,5]⟩, ⟨⟨(some 35), none, [28,34], none, .o (kF 64) [(.t 28), (.t 34)]⟩, [0], [1,7,4,2,3,6,5]⟩, ⟨⟨(some 36), none, [27,35], (some 3), .w (.app 1 (.t 27) (.t 35))⟩, [], [0,8,1,7,4,2,3,6,5]⟩, ⟨(cMv 5 36), [], [9,0,8,1,7,4,2,3,6,5]⟩]) .skip)))) (.drp 1 (.keep [1,2,5,6] (.reg false [(cMv 21 6), (cC 22 .add 21 1), (cMv 6 22)]))))))))))) (.keep [5] (.seq (.reg false [(cMv 37 5), (cMv 4 37)]) .ret)))))))))
def pu64 : List Nat := [1000035,2,16,33]
def rs64 : List RV := [.t 4]
theorem cc64 : CCx Try.prog Try.f64 pu64 rc64 := by unfold CCx; kernel_rfl
theorem cb64 : CBx Try.f64 := by unfold CBx; kernel_rfl
theorem cs64 : CSx Try.prog Try.f64 rs64 := by unfold CSx; kernel_rfl
theorem cn64 : 2 ≤ Try.f64.ntmps := by decide
def rc60 : RC := (.seq (.reg false [(cX 2 0), (cQ 4 [] (.mv (.k (.z 1)))), (cI 5 0)]) (.keep [1,2] (.seq (.seq (.reg false [(cLd 8 2 true 3), (cQ 9 [8] (.call (kF 36) [(.t 8)])), (cMv 6 9)]) (.keep [1,2,6] (.seq (.reg false [(cMv 10 6), (cC 11 .neq 10 0)]) (.keep [1,2,6,11] (.cond (.t 11) (.seq (.reg false [(cMv 12 6), (cQ 4 [] (.mv (.k (.z 1)))), (cMv 5 12)]) .ret) .skip))))) (.keep [1,2] (.seq (.seq (.reg true [(cMv 13 1), (cQ 14 [13] (.bin .neq (.t 13) (.k (.i (-1000000))))), (cMv 15 14), (gQ 16 15 true [2] (.ld true 3 (.t 2))), (gMv 17 15 true 1), (gQ 18 15 true [16,17] (.call (kF 62) [(.t 16), (.t 17)])), (gQ 19 15 true [18] (.not (.t 18))), (cQ 20 [15,19] (.pick (.t 15) (.t 19) (kB false)))]) (.keep [2,20] (.cond (.t 20) (.seq (.reg false [(cQ 4 [] (.mv (.k (.z 1)))), (cI 5 1)]) .ret) .skip))) (.keep [2] (.seq (.reg false [(cLd 21 2 true 3), (cQ 22 [21] (.call (kF 64) [(.t 21), (.k (.z 1))])), (cMv 7 22)]) (.keep [7] (.seq (.seq (.reg false [(cMv 23 7), (cLn 24 23), (cC 25 .eql 24 0)]) (.keep [7,25] (.cond (.t 25) (.seq (.reg false [(cQ 4 [] (.mv (.k (.z 1)))), (cI 5 3)]) .ret) .skip))) (.keep [7] (.seq (.reg false [(cMv 26 7), (cMv 4 26), (cI 5 0)]) .ret)))))))))))
def pu60 : List Nat := [2]
def rs60 : List RV := [.t 4, .t 5]
theorem cc60 : CCx Try.prog Try.f60 pu60 rc60 := by unfold CCx; kernel_rfl
theorem cb60 : CBx Try.f60 := by unfold CBx; kernel_rfl
theorem cs60 : CSx Try.prog Try.f60 rs60 := by unfold CSx; kernel_rfl
theorem cn60 : 2 ≤ Try.f60.ntmps := by decide
def rc80 : RC := (.seq (.reg false [(cQ 6 [] (.mv (.k (.z 1))))]) (.keep [0,1,2] (.seq (.reg false [(cQ 7 [] (.mv (.k (.z 1))))]) (.keep [0,1,2,7] (.seq (.seq (.reg false [(cI 8 0)]) (.keep [0,1,2,7,8] (.block 0 (.own 7 1 (.loop [0,1,2,7,8] none (.seq (.seq (.reg false [(cMv 9 8), (cMv 10 0), (cLn 11 10), (cB 12 .lss 9 11)]) (.keep [0,1,2,7,8,12] (.cond (.t 12) .skip (.exit 0)))) (.keep [0,1,2,7,8] (.seq (.block 1 (.seq (.reg false [(cMv 15 0), (cMv 16 8), (cA 17 1 15 16), (cLd 18 17 false 1), (cMv 19 1), (cA 20 1 18 19), (cLd 21 20 false 1), (cMv 22 2), (cB 23 .eql 21 22)]) (.keep [0,1,2,7,8,23] (.cond (.t 23) (.reg false [(cMv 24 7), (cMv 25 0), (cMv 26 8), (cA 27 1 25 26), (cLd 28 27 false 1), (cQ 29 [28] (.bsl 1 1 [(.z 1)] [(0,1, (.t 28))])), ⟨(some 30), none, [24,29], none, .w (.app 1 (.t 24) (.t 29))⟩, (cMv 7 30)]) .skip)))) (.keep [0,1,2,7,8] (.reg false [(cMv 13 8), (cC 14 .add 13 1), (cMv 8 14)])))))))))) (.keep [7] (.seq (.reg false [(cMv 31 7), (cMv 6 31)]) .ret)))))))
def pu80 : List Nat := [29]
def rs80 : List RV := [.t 6]
theorem cc80 : CCx Try.prog Try.f80 pu80 rc80 := by unfold CCx; kernel_rfl
theorem cb80 : CBx Try.f80 := by unfold CBx; kernel_rfl
theorem cs80 : CSx Try.prog Try.f80 rs80 := by unfold CSx; kernel_rfl
theorem cn80 : 3 ≤ Try.f80.ntmps := by decide
def rc61 : RC := (.seq (.reg false [(cQ 6 [] (.mv (kB false)))]) (.keep [0,1,2] (.seq (.seq (.reg false [(cMv 8 0), (cLn 9 8), (cC 10 .leq 9 1)]) (.keep [0,1,2,10] (.cond (.t 10) (.seq (.reg false [(cQ 6 [] (.mv (kB true)))]) .ret) .skip))) (.keep [0,1,2] (.seq (.seq (.reg false [(cI 7 0)]) (.keep [0,1,2,7] (.block 0 (.loop [0,1,2,7] none (.seq (.seq (.reg true [(cMv 11 7), (cMv 12 1), (cB 13 .lss 11 12), (cMv 14 13), (gMv 15 14 true 2), (gQ 16 14 true [15] (.bin .gtr (.t 15) (kI 0))), (cQ 17 [14,16] (.pick (.t 14) (.t 16) (kB false)))]) (.keep [0,1,2,7,17] (.cond (.t 17) .skip (.exit 0)))) (.keep [0,1,2,7] (.seq (.block 1 (.seq (.reg false [(cMv 20 0), (cMv 21 1), (cMv 22 2), (cMv 23 7), (cQ 24 [20,21,22,23] (.call (kF 63) [(.t 20), (.t 21), (.t 22), (.t 23)]))]) (.keep [0,1,2,7,24] (.cond (.t 24) (.seq (.reg false [(cQ 6 [] (.mv (kB true)))]) .ret) .skip)))) (.keep [0,1,2,7] (.reg false [(cMv 18 7), (cC 19 .add 18 1), (cMv 7 19)]))))))))) (.keep [] (.seq (.reg false [(cQ 6 [] (.mv (kB false)))]) .ret)))))))
def pu61 : List Nat := []
def rs61 : List RV := [.t 6]
theorem cc61 : CCx Try.prog Try.f61 pu61 rc61 := by unfold CCx; kernel_rfl
theorem cb61 : CBx Try.f61 := by unfold CBx; kernel_rfl
theorem cs61 : CSx Try.prog Try.f61 rs61 := by unfold CSx; kernel_rfl
theorem cn61 : 3 ≤ Try.f61.ntmps := by decide
def rc63 : RC := (.seq (.reg false [(cQ 8 [] (.mv (kB false)))]) (.keep [0,1,2,3] (.seq (.seq (.reg false [(cI 9 0)]) (.keep [0,1,2,3,9] (.block 0 (.loop [0,1,2,3,9] none (.seq (.seq (.reg false [(cMv 10 9), (cMv 11 1), (cB 12 .lss 10 11)]) (.keep [0,1,2,3,9,12] (.cond (.t 12) .skip (.exit 0)))) (.keep [0,1,2,3,9] (.seq (.block 1 (.seq (.reg false [(cMv 15 0), (cMv 16 3), (cMv 17 9), (cQ 18 [15,16,17] (.call (kF 80) [(.t 15), (.t 16), (.t 17)])), (cMv 19 1), (cMv 20 2), (cC 21 .sub 20 1), (cQ 22 [18,19,21] (.call (kF 61) [(.t 18), (.t 19), (.t 21)])), (cN 23 22)]) (.keep [0,1,2,3,9,23] (.cond (.t 23) (.seq (.reg false [(cQ 8 [] (.mv (kB false)))]) .ret) .skip)))) (.keep [0,1,2,3,9] (.reg false [(cMv 13 9), (cC 14 .add 13 1), (cMv 9 14)]))))))))) (.keep [] (.seq (.reg false [(cQ 8 [] (.mv (kB true)))]) .ret)))))
def pu63 : List Nat := []
def rs63 : List RV := [.t 8]
theorem cc63 : CCx Try.prog Try.f63 pu63 rc63 := by unfold CCx; kernel_rfl
theorem cb63 : CBx Try.f63 := by unfold CBx; kernel_rfl
theorem cs63 : CSx Try.prog Try.f63 rs63 := by unfold CSx; kernel_rfl
theorem cn63 : 4 ≤ Try.f63.ntmps := by decide
def rc31 : RC := (.seq (.reg false [(cX 1 0), (cI 2 0), (cI 3 0)]) (.keep [1] (.seq (.reg false [(cLd 8 1 true 3), (cQ 9 [8] (.call (kF 60) [(.t 8), (.k (.i (-1000000)))])), (cMv 7 9), (cEx 10 7 0), (cEx 11 7 1), (cMv 4 10), (cMv 5 11)]) (.keep [1,4,5] (.seq (.seq (.reg false [(cMv 12 5), (cC 13 .neq 12 0)]) (.keep [1,4,5,13] (.cond (.t 13) (.seq (.reg false [(cMv 14 5), (cI 2 0), (cMv 3 14)]) .ret) .skip))) (.keep [1,4] (.seq (.reg false [(cI 6 0)]) (.keep [1,4,6] (.seq (.block 0 (.loop [1,4,6] none (.seq (.seq (.reg false [(cMv 15 4), (cFa 16 1 0), (cLd 17 16 false 1), (cMv 18 6), (cQ 19 [15,17,18] (.call (kF 61) [(.t 15), (.t 17), (.t 18)])), (cN 20 19)]) (.keep [1,4,6,20] (.cond (.t 20) .skip (.exit 0)))) (.keep [1,4,6] (.block 1 (.reg false [(cMv 21 6), (cC 22 .add 21 1), (cMv 6 22)])))))) (.keep [6] (.seq (.reg false [(cMv 23 6), (cMv 2 23), (cI 3 0)]) .ret)))))))))))
def pu31 : List Nat := [1]
def rs31 : List RV := [.t 2, .t 3]
theorem cc31 : CCx Try.prog Try.f31 pu31 rc31 := by unfold CCx; kernel_rfl
theorem cb31 : CBx Try.f31 := by unfold CBx; kernel_rfl
theorem cs31 : CSx Try.prog Try.f31 rs31 := by unfold CSx; kernel_rfl
theorem cn31 : 1 ≤ Try.f31.ntmps := by decide
def rc34 : RC := (.seq (.reg false [(cX 3 0), (cQ 6 [] (.mv (kB false)))]) (.keep [1,2,3] (.seq (.any true 0 [⟨(cLd 7 3 true 3), [], []⟩, ⟨(cMv 8 1), [], []⟩, ⟨(cQ 9 [7,8] (.call (kF 62) [(.t 7), (.t 8)])), [], [0,1]⟩, ⟨(cMv 10 9), [], [2,0,1]⟩, ⟨(gMv 11 10 true 2), [], [3,2,0,1]⟩, ⟨(gQ 12 10 true [11] (.bin .gtr (.t 11) (kI 0))), [], [4,3,2,0,1]⟩, ⟨(cQ 13 [10,12] (.pick (.t 10) (.t 12) (kB false))), [], [3,2,0,1,5,4]⟩, ⟨(cMv 14 13), [], [6,3,2,0,1,5,4]⟩, ⟨(gQ 15 14 true [3] (.ld true 3 (.t 3))), [], [7,6,3,2,0,1,5,4]⟩, ⟨(gQ 16 14 true [15] (.call (kF 64) [(.t 15), (.k (.z 1))])), [], [8,7,6,3,2,0,1,5,4]⟩, ⟨(gQ 17 14 true [3] (.fad 0 (.t 3))), [], [7,6,3,2,0,1,5,4]⟩, ⟨(gQ 18 14 true [17] (.ld false 1 (.t 17))), [], [10,7,6,3,2,0,1,5,4]⟩, ⟨(gMv 19 14 true 2), [], [7,6,3,2,0,1,5,4]⟩, ⟨(gMv 20 14 true 1), [], [7,6,3,2,0,1,5,4]⟩, ⟨(gQ 21 14 true [16,18,19,20] (.call (kF 63) [(.t 16), (.t 18), (.t 19), (.t 20)])), [], [9,8,7,6,3,2,0,1,5,4,11,10,12,13]⟩, ⟨(cQ 22 [14,21] (.pick (.t 14) (.t 21) (kB false))), [], [7,6,3,2,0,1,5,4,14,9,8,11,10,12,13]⟩, ⟨(cMv 6 22), [], [15,7,6,3,2,0,1,5,4,14,9,8,11,10,12,13]⟩]) .ret)))
def pu34 : List Nat := [3]
def rs34 : List RV := [.t 6]
theorem cc34 : CCx Try.prog Try.f34 pu34 rc34 := by unfold CCx; kernel_rfl
theorem cb34 : CBx Try.f34 := by unfold CBx; kernel_rfl
theorem cs34 : CSx Try.prog Try.f34 rs34 := by unfold CSx; kernel_rfl
theorem cn34 : 3 ≤ Try.f34.ntmps := by decide
def rc30 : RC := (.seq (.reg false [(cX 1 0), ⟨(some 2), none, [], none, .w (.alc [(.i 0), (.z 4), (.i 0)])⟩]) (.keep [1,2] (.seq (.reg false [(cLd 5 1 true 3), ⟨(some 3), none, [], none, .w (.alc [(.i 0), (.z 4), (.i 0)])⟩, ⟨none, none, [3,5], none, .w (.st 3 (.t 3) (.t 5))⟩]) (.keep [1,2,3] (.seq (.reg false [⟨(some 6), none, [], none, .w (.bso 4 0 [(.i 0), (.i 0), (.i 0), (.z 1)] [])⟩, (cFa 7 1 1), (cLd 8 7 false 1), ⟨(some 9), none, [6,8], none, .w (.app 4 (.t 6) (.t 8))⟩, (cFa 10 3 1), ⟨none, none, [10,9], none, .w (.st 1 (.t 10) (.t 9))⟩]) (.keep [1,2,3] (.seq (.seq (.reg false [(cI 4 0)]) (.keep [1,2,3,4] (.block 0 (.loop [1,2,3,4] (some 3) (.seq (.seq (.reg false [(cMv 11 4), (cFa 12 3 1), (cLd 13 12 false 1), (cLn 14 13), (cB 15 .lss 11 14)]) (.keep [1,2,3,4,15] (.cond (.t 15) .skip (.exit 0)))) (.keep [1,2,3,4] (.seq (.block 1 (.any false 2 [⟨(cFa 18 3 1), [], []⟩, ⟨(cLd 19 18 false 1), [], [0]⟩, ⟨(cMv 20 4), [], []⟩, ⟨⟨(some 21), none, [], (some 0), .w (.bso 1 0 [(.i 0)] [])⟩, [0,1,2], []⟩, ⟨(cFa 22 1 1), [3], []⟩, ⟨(cLd 23 22 false 1), [3], [4]⟩, ⟨(cMv 24 4), [3], []⟩, ⟨(cA 25 4 23 24), [3], [5,4,6]⟩, ⟨(cFa 26 25 3), [3], [7,5,4,6]⟩, ⟨(cLd 27 26 false 1), [3], [8,7,5,4,6]⟩, ⟨⟨(some 28), none, [21,27], (some 1), .w (.app 1 (.t 21) (.t 27))⟩, [0,1,2], [3,9,8,7,5,4,6]⟩, ⟨(cA 29 4 19 20), [], [1,0,2,3,4,5,6,7,8,9,10]⟩, ⟨(cFa 30 29 3), [], [11,1,0,2,3,4,5,6,7,8,9,10]⟩, ⟨⟨none, none, [30,28], none, .w (.st 1 (.t 30) (.t 28))⟩, [], [12,11,1,0,2,3,4,5,6,7,8,9,10]⟩])) (.drp 3 (.keep [1,2,3,4] (.reg false [(cMv 16 4), (cC 17 .add 16 1), (cMv 4 17)])))))))))) (.keep [2,3] (.seq (.reg false [(cLd 31 3 true 3), ⟨none, none, [2,31], none, .w (.st 3 (.t 2) (.t 31))⟩]) .ret)))))))))
def pu30 : List Nat := [1]
def rs30 : List RV := [.c 2 true 3]
theorem cc30 : CCx Try.prog Try.f30 pu30 rc30 := by unfold CCx; kernel_rfl
theorem cb30 : CBx Try.f30 := by unfold CBx; kernel_rfl
theorem cs30 : CSx Try.prog Try.f30 rs30 := by unfold CSx; kernel_rfl
theorem cn30 : 1 ≤ Try.f30.ntmps := by decide
end Go.C10
set_option linter.unusedSimpArgs false
set_option linter.unusedVariables false
namespace Go.C10
open Go.Fam Go.Proofs
variable {Γ : Gam}
theorem Qrk (t : List Int)  : HN10 18 [.sl 1 (t.map eI)] = (t.length ≤ 1000000, .b (takB t)) := h18 t
def Qd1 (s : Stand) (t : List Int) : Bool := decide ((t.length : Int) = s.guests) && (takB t && Qdw s t)
theorem W40 (s : Stand) (t : List Int) (h : OkS s) : PureCall Try.prog 40 [.ag (Qa4 s), .sl 1 (t.map eI)] (.b (Qd1 s t)) := by
 refine Qaj Qrb hmix Try.func40 cb40 cc40 cs40 cn40 ?_
 have hg := h.guests
 have hw20 := h.words
 by_cases hl : (t.length : Int) = s.guests
 rotate_left
 ·simp only [rc40, rs40, hl, Qd1, Qa9, Qa8, Qab, Qah, Qa5, Qad, Qa6, Qa2, Fam.step, Qae, Qaz, Qas, ug, evO, opv, qv, Qev, binV, ldV, lenV, Qan, V.cells, Qat, Qaa, Qa7, Qa1, Qa0, Qa3, ↓reduceIte, Nat.reduceEqDiff, Nat.reduceAdd, Nat.reduceLT, Nat.reduceLeDiff, Qb, Qc, Qq, Qp, Qd, Qe, Ql, Qh, Qj, endQ, rvs, rv1, resV, vw_i, vw_b, Qal, Qar, zipA, Qf, Qo, Qt, Q5, Qk, Qs, Qw, Qa, Qr, decide_false, true_and, and_true, and_self, false_and, forall_const, false_implies, implies_true, reduceCtorEq, beq_false, imp_self, Qg, Qa4]
 have g1 := Qrk t
 have htl : t.length ≤ 1000000 := by omega
 by_cases ht : takB t = true
 rotate_left
 ·simp only [rc40, rs40, hl, g1, htl, ht, Qd1, Qa9, Qa8, Qab, Qah, Qa5, Qad, Qa6, Qa2, Fam.step, Qae, Qaz, Qas, ug, evO, opv, qv, Qak, binV, ldV, lenV, Qan, V.cells, Qat, Qaa, Qa7, flat, Qa1, Qa0, Qa3, ↓reduceIte, Nat.reduceEqDiff, Nat.reduceAdd, Nat.reduceLT, Nat.reduceLeDiff, Qb, Qc, Qq, Qp, Qd, Qe, Ql, Qh, Qj, endQ, rvs, rv1, resV, vw_i, vw_b, Qal, Qar, zipA, beq_self_eq_true, Qf, Qo, Q5, Zk, Qk, Qs, Qw, Qa, decide_true, and_self, forall_const, implies_true, reduceCtorEq, Qg, Qa4]
 simp only [rc40, rs40, hl, g1, htl, ht, Qaf, Qa9, Qa8, Qab, Qac, Qa5, Qad, Qa6, Qa2, Fam.step, Qae, Qaz, Qas, ug, evO, opv, qv, Qak, binV, ldV, lenV, Qan, V.cells, Qat, Qaa, Qa7, flat, Qa1, Qa0, Qa3, ↓reduceIte, Nat.reduceEqDiff, Nat.reduceAdd, Nat.reduceLT, Nat.reduceLeDiff, Qb, Qc, Qq, Qp, Qd, Qe, Ql, Qh, Qj, vw_i, Qal, Qar, zipA, beq_self_eq_true, Qf, Qo, Qk, Qs, Qa, decide_true, true_and, and_self, forall_const, implies_true, reduceCtorEq, Qg, Qa4]
 refine Qc2 s.words.length (fun i => ⟨lkp [(1, .sl 1 (t.map eI)), (2, .pa (Qa4 s)), (5, .i (Qcv (s.words.take i) t)), (6, .i i)], []⟩) ?_ ?_ ?_
 ·simp only [Za, Zg, Qcv, List.countP_nil, kp, Qa0, Qa3, ↓reduceIte, Nat.reduceEqDiff, Qb, Qc, Zg, Qa4]
 ·intro i hi
  obtain ⟨w, hw⟩ : ∃ x, s.words[i]? = some x := ⟨_, Q3 hi⟩
  have hlt : (i : Int) < s.words.length := by omega
  have hm := Ze hw
  have hok : OkSo w t.length := by
   have := Qm6 (h.word w hm) (h.short w hm)
   rwa [show s.guests.toNat = t.length by omega] at this
  have g2 := Qrl w t
  simp only [eWord] at g2
  have h3 : inI ((i : Int) + 1) := by unfold inI; omega
  have hcp : Qcv (s.words.take i) t ≤ i := by
   unfold Qcv
   refine Xe List.countP_le_length ?_
   rw [Z1]; omega
  have h4 : inI ((Qcv (s.words.take i) t : Int) + 1) := by unfold inI; omega
  have hst : Qcv (s.words.take (i + 1)) t = Qcv (s.words.take i) t + if soB w t then 0 else 1 := by
   unfold Qcv
   rw [Qbg hw, List.countP_append]
   cases h : soB w t <;> simp [h]
  by_cases hs : soB w t = true
  ·simp only [hw, hlt, g2, hok, hs, h3, hst, Zc, Zb, Qaf, Qa9, Qa8, Qab, Qac, Qa5, Qad, Qai, Qa6, Qa2, Fam.step, Qae, evO, opv, qv, binV, ldV, iadV, lenV, Qan, Qaa, Qa7, flat, kp, Qa1, Qa0, Qa3, ↓reduceIte, Nat.reduceEqDiff, Nat.reduceAdd, Nat.reduceLT, Nat.reduceLeDiff, Qb, Qc, Qd, Qe, Qi, Ql, Qm, Qu, Qh, Qj, Qv, vw_i, Qal, Qar, Q0, Qf, Xf, Qk, Qs, Qa, decide_true, and_self, implies_true, Q1, Qg, Q2, Qn, Qx, eWord, Qa4]
  ·simp only [hw, hlt, g2, hok, hs, h3, h4, hst, Zc, Zb, Qaf, Qa9, Qa8, Qab, Qac, Qa5, Qad, Qai, Qa6, Qa2, Fam.step, Qae, evO, opv, qv, binV, ldV, iadV, lenV, Qan, Qaa, Qa7, flat, kp, Qa1, Qa0, Qa3, ↓reduceIte, Nat.reduceEqDiff, Nat.reduceAdd, Nat.reduceLT, Nat.reduceLeDiff, Qb, Qc, Qd, Qe, Qi, Ql, Qm, Qu, Qh, Qj, Qv, vw_i, Qal, Qar, Q0, Qf, Qk, Qw, Qa, decide_true, and_self, implies_true, Q1, Qg, Q2, Qn, Qx, eWord, Qa4]
 ·have hlt : ¬ ((s.words.length : Int) < s.words.length) := by omega
  simp only [hlt, Xg, Qd1, hl, ht, Qdw, Qa9, Qa8, Qab, Qax, Qah, Qa5, Qad, Qai, Qa6, Qa2, Fam.step, Qae, evO, opv, qv, binV, ldV, lenV, Qa1, Qa0, Qa3, ↓reduceIte, Nat.reduceEqDiff, Nat.reduceAdd, Nat.reduceLeDiff, Qb, Qc, Qd, Qe, Qi, Ql, Qh, endQ, rvs, rv1, resV, vw_b, Qf, Zi, Qa, decide_true, decide_false, and_self, Qg, Qa4]
def e40 (a : Stand × List Int) : List V := [.ag (Qa4 a.1), .sl 1 (a.2.map eI)]
def d40 : List V → Stand × List Int | [.ag x0, .sl _ x1] => (Qaw x0, x1.map dI) | _ => (Qaw [], [])
theorem Qwq (a : Stand × List Int) : d40 (e40 a) = a := by simp [d40, e40, Qb4, Function.comp_def, Qd4]
noncomputable def HQ1 : Gam := HN10.ext 40 (fnG e40 d40 (fun a => (fun (s : Stand) (t : List Int) => OkS s) a.1 a.2) (fun a => (fun (s : Stand) (t : List Int) => Qd1 s t) a.1 a.2) .b)
theorem Qsh : GOk Try.prog HQ1 := Qrb.ext (f := 40) (fun a w => Try.call40 a w) (Qb0 (e := e40) (d := d40) (ok := (fun a => (fun (s : Stand) (t : List Int) => OkS s) a.1 a.2)) (g := (fun a => (fun (s : Stand) (t : List Int) => Qd1 s t) a.1 a.2)) (eb := .b) fun a h => W40 a.1 a.2 h)
theorem h40 (s : Stand) (t : List Int) : HQ1 40 [.ag (Qa4 s), .sl 1 (t.map eI)] = (OkS s, .b (Qd1 s t)) :=
 (show HQ1 40 _ = fnG e40 d40 (fun a => (fun (s : Stand) (t : List Int) => OkS s) a.1 a.2) (fun a => (fun (s : Stand) (t : List Int) => Qd1 s t) a.1 a.2) .b (e40 (s, t)) from rfl).trans (Qb2 _ (Qwq _))
end Go.C10
set_option linter.unusedSimpArgs false
set_option linter.unusedVariables false
namespace Go.C10
open Go.Fam Go.Proofs
variable {Γ : Gam}
theorem Qsk {g k : Nat} (hg : g ≤ 7) (hk : k ≤ 7) : g ^ k ≤ 823543 := Xe (Nat.pow_le_pow_left hg k) (Xe (Nat.pow_le_pow_right (by decide) hk) (by decide))
structure Ok64 (s : Stand) (F : List Int) : Prop where
 st : OkS s
 len : (F.length : Int) ≤ s.guests
 in_ : ∀ x ∈ F, 0 ≤ x ∧ x ≤ s.guests - 1
 nodup : F.Nodup
theorem Quo {P : Program} {A : Type} {e : A → List V} {d : List V → A} {ok : A → Prop} {v : A → V} {hp : A → List Blk} {f : Nat} (hvB : ∀ a, ((hp a).map bV).map vB = hp a) (h : ∀ a, ok a → Qd3 P f (e a) (v a) (hp a))
  (vs : List V) (r : V) (bs : List V) (h1 : (fnG e d ok (fun a => a) (fun a => .tp [v a, .tp ((hp a).map bV)]) vs).1) (h2 : (fnG e d ok (fun a => a) (fun a => .tp [v a, .tp ((hp a).map bV)]) vs).2 = .tp [r, .tp bs]) : Qd3 P f vs r (bs.map vB) := by
 simp only [fnG, V.tp.injEq, List.cons.injEq, and_true] at h1 h2
 obtain ⟨rfl, rfl⟩ := h2
 have := h (d vs) h1.2
 rw [h1.1] at this
 rwa [hvB]
def Qgf (s : Stand) (F : List Int) : Nat := s.guests.toNat - F.length
def e64 (a : Stand × List Int) : List V := [.ag (Qa4 a.1), .sl 1 (a.2.map eI)]
def d64 : List V → Stand × List Int | [.ag s, .sl _ l] => (Qaw s, l.map dI) | _ => (Qaw [], [])
theorem Qx4 (a : Stand × List Int) : d64 (e64 a) = a := by simp [d64, e64, Qb4, Function.comp_def, Qd4]
noncomputable def G64 (k : Nat) : Gam := HQ1.ext 1000064 (fnG e64 d64 (fun a => Ok64 a.1 a.2 ∧ Qgf a.1 a.2 = k) (fun a => a) (fun a => .tp [.sl 1 ((Qbv a.1 (Qgf a.1 a.2) a.2).map eCan), .tp []]))
theorem q64 (k : Nat) (s : Stand) (F : List Int) : G64 k 1000064 [.ag (Qa4 s), .sl 1 (F.map eI)] = (Ok64 s F ∧ Qgf s F = k, .tp [.sl 1 ((Qbv s (Qgf s F) F).map eCan), .tp []]) :=
 (show G64 k 1000064 _ = fnG e64 d64 (fun a => Ok64 a.1 a.2 ∧ Qgf a.1 a.2 = k) (fun a => a) (fun a => .tp [.sl 1 ((Qbv a.1 (Qgf a.1 a.2) a.2).map eCan), .tp []]) (e64 (s, F)) from rfl).trans (Qb2 _ (Qx4 _))
theorem _root_.Go.Fam.PureCall.toOwn {P : Program} {f : Nat} {vs : List V} {r : V} (h : PureCall P f vs r) : Qd3 P f vs r [] := fun S w cargs hS hsz hr =>
 (h S w cargs hS hsz hr).mono fun e w' ⟨c, he, hev, hrep⟩ => ⟨c, Sfr S w w', noO, he, hev,
  ⟨fun n hn => hn.elim (fun hn => Nat.lt_of_lt_of_le (hS n hn) hev.size) (fun hn => hn.2), fun _ _ _ h => (nomatch h), fun _ _ _ _ _ h _ => (nomatch h), fun _ _ _ h => (nomatch h)⟩, hrep⟩
theorem Qqv {s : Stand} {F : List Int} (h : Ok64 s F) (hl : (F.length : Int) = s.guests) : Qd1 s F = Qdw s F := by
 have ht : takB F = true := by
  have hg := h.st.guests
  rw [Qkj]
  exact ⟨by omega, ⟨by omega, by rw [hl]; exact h.in_, h.nodup⟩⟩
 unfold Qd1
 rw [ht, Zi, decide_eq_true hl, Zi]
def Qnr (s : Stand) (F : List Int) (i : Nat) : Nat := (((ints 0 (s.guests - 1)).take i).filter fun u => decide (u ∉ F)).length
theorem Qos {s : Stand} {F : List Int} {i : Nat} (h : (i : Int) < s.guests) : Qnr s F (i + 1) = Qnr s F i + if (i : Int) ∈ F then 0 else 1 := by
 unfold Qnr
 have hx : (ints 0 (s.guests - 1))[i]? = some (i : Int) := by rw [Qhq (by omega)]; simp
 rw [Qbg hx, List.filter_append]
 by_cases hF : (i : Int) ∈ F <;> simp [hF]
theorem Qq9 (f : List Int) (x : Int) : Qca 1 ((f.map eI).flatten ++ [.i x]) 0 (f.length + 1) = (f ++ [x]).map eI := by
 have := Qfq (f ++ [x])
 simpa [eI] using this
theorem Qq4 (k : Nat) (l : List Int) (n : Int)  : (G64 k) 52 [.sl 1 (l.map eI), .i n] = (l.length ≤ 1000000, .b (decide (n ∈ l))) := h52 l n
set_option maxHeartbeats 2000000 in
theorem W64 : ∀ (k : Nat) (s : Stand) (F : List Int), Ok64 s F → Qgf s F = k → PureCall Try.prog 64 [.ag (Qa4 s), .sl 1 (F.map eI)] (.sl 1 ((Qbv s (Qgf s F) F).map eCan)) := by
 intro k
 induction k with
 | zero =>
  intro s F h hk
  have hg := h.st.guests
  have hl : (F.length : Int) = s.guests := by have := h.len; unfold Qgf at hk; omega
  refine Qaj Qsh hmix Try.func64 cb64 cc64 cs64 cn64 ?_
  have g1 := h40 s F
  simp only [Qa4] at g1
  have hS := h.st
  have ht := Qqv h hl
  rw [ht] at g1
  rw [hk]
  have hv : Qbv s 0 F = if Qdw s F = true then [F] else [] := by
   unfold Qbv extN
   by_cases hb : Qdw s F = true <;> simp [hb]
  by_cases hb : Qdw s F = true
  ·rw [hv, if_pos hb]
   simp only [rc64, rs64, hl, g1, hS, hb, Qa9, Qa8, Qab, Qah, Qa5, Qcp, Qad, Qa6, Qa2, Fam.step, Qae, evO, opv, qv, binV, ldV, lenV, Qan, Qau, putAt, Qbc, Qb5, V.cells, Qat, Qbn, Qaa, Qa7, flat, Qa1, Qa0, Qa3, ↓reduceIte, Nat.reduceEqDiff, Nat.reduceAdd, Nat.reduceMul, Nat.reduceLT, Nat.reduceLeDiff, Qb, Qc, Qq, Qp, Qd, Qe, Ql, Qm, Zg, Qu, Qh, Q6, Q4, Qj, Qy, Zj, endQ, rvs, rv1, resV, vw_i, Qal, Qar, zipA, Qf, Qo, Qk, Qa, decide_true, and_self, implies_true, reduceCtorEq, not_false_eq_true, ne_eq, Qg, Qa4, eCan]
  ·rw [hv, if_neg hb]
   simp only [rc64, rs64, hl, g1, hS, hb, Qaf, Qa9, Qa8, Qab, Qah, Qa5, Qad, Qa6, Qa2, Fam.step, Qae, evO, opv, qv, binV, ldV, lenV, Qan, V.cells, Qat, Qaa, Qa7, flat, Qa1, Qa0, Qa3, ↓reduceIte, Nat.reduceEqDiff, Nat.reduceAdd, Nat.reduceLT, Nat.reduceLeDiff, Qb, Qc, Qd, Qe, Ql, Qm, Qu, Qh, Qj, endQ, rvs, rv1, resV, vw_i, vw_z, Qal, Qar, zipA, Qf, Qk, Qa, decide_true, and_self, implies_true, reduceCtorEq, Qg, Qa4]
 | succ k ih =>
  intro s F h hk
  have hok : GOk Try.prog (G64 k) := Qsh.extO (f := 64) (fun a w => Try.call64 a w) (Quo (hp := fun _ => []) (fun _ => rfl) fun a h => PureCall.toOwn (ih a.1 a.2 h.1 h.2))
  refine Qaj hok hmix Try.func64 cb64 cc64 cs64 cn64 ?_
  have hg := h.st.guests
  have hlt0 : (F.length : Int) < s.guests := by have := h.len; unfold Qgf at hk; omega
  have hl : ¬ (F.length : Int) = s.guests := by omega
  rw [hk]
  simp only [rc64, rs64, hl, Qaf, Qa9, Qa8, Qab, Qac, Qa5, Qfm, Qad, Qa6, Qa2, Fam.step, Qae, evO, opv, qv, binV, ldV, lenV, V.cells, Qat, Qaa, Qa7, Qa1, Qa0, Qa3, ↓reduceIte, Nat.reduceEqDiff, Nat.reduceAdd, Nat.reduceLeDiff, Qb, Qc, Qd, Qe, Ql, Qh, Q4, vw_i, Qal, Qar, zipA, Qf, Qk, Qa, decide_false, true_and, and_self, reduceCtorEq, Qg, Qa4]
  refine Qc2 s.guests.toNat (fun i => ⟨lkp [(1, .sl 1 (F.map eI)), (2, .pa (Qa4 s)), (5, .rf 0 (Qnr s F i) 0 (accN s k F i).length 1), (6, .i i)],
   [.cells (Qnr s F i) ((accN s k F i).map eCan).flatten]⟩) ?_ ?_ ?_
  ·have e0 : accN s k F 0 = [] := rfl
   have e1 : Qnr s F 0 = 0 := rfl
   simp only [Za, e0, e1, Zl, cutH, kp, cutV, cutL, cutB, Qa0, Qa3, ↓reduceIte, Nat.reduceEqDiff, Nat.reduceLT, Qb, Qc, Qe, Qm, Qu, Qa4]
  ·intro i hi
   have hlt : (i : Int) < s.guests := by omega
   have h3 : inI ((i : Int) + 1) := by unfold inI; omega
   have g1 := Qq4 k F i
   have hF6 : F.length ≤ 1000000 := by omega
   have hst := Qhk (s := s) (r := k) (F := F) hlt
   have hfr := Qos (s := s) (F := F) hlt
   by_cases hF : (i : Int) ∈ F
   ·rw [if_pos hF] at hst hfr
    rw [Qj] at hst
    simp only [hlt, h3, g1, hF, hF6, hst, hfr, Zc, Zb, Qap _ _ _ (Qc1 _), Qaf, Qa9, Qa8, Qab, Qac, Qa5, Qcr, ↓Qc3, cutH, Qad, Qai, Qa6, Qa2, Fam.step, Qae, evO, opv, qv, binV, ldV, Qan, Qaa, Qa7, flat, kp, cutV, cutB, Qa1, Qa0, Qa3, ↓reduceIte, Nat.reduceEqDiff, Nat.reduceAdd, Nat.reduceLT, Nat.reduceLeDiff, Qb, Qc, Qd, Qe, Ql, Qm, Qu, Qh, Qj, vw_i, Qal, Qf, Xf, Qk, Qs, Qa, decide_true, and_self, implies_true, Qa4]
   ·rw [if_neg hF] at hst hfr
    have g2 := q64 k s (F ++ [(i : Int)])
    have hr : Qgf s (F ++ [(i : Int)]) = k := by unfold Qgf at hk ⊢; rw [Zs, Z6]; omega
    have h64 : Ok64 s (F ++ [(i : Int)]) := by
     refine ⟨h.st, by rw [Zs, Z6]; omega, fun x hx => ?_, ?_⟩
     ·rcases List.mem_append.1 hx with hx | hx
      ·exact h.in_ x hx
      ·rw [Xb] at hx; omega
     ·rw [List.nodup_append]
      exact ⟨h.nodup, by simp, fun a ha b hb e => by rw [Xb] at hb; subst hb; subst e; exact hF ha⟩
    rw [hr] at g2
    simp only [Qa4, Z3, Qb, Qc, eI] at g2
    have f0 : Qav F.length := by unfold Qav; omega
    have f1 : Qav (0 + F.length) := by unfold Qav; omega
    have f2 : Qav (F.length + 1) := by unfold Qav; omega
    have hpw := Qsk (g := s.guests.toNat) (k := k) (by omega) (by unfold Qgf at hk; omega)
    have f3 : Qav ((accN s k F i).length + (Qbv s k (F ++ [(i : Int)])).length) := by
     have a1 := Qjl (s := s) (r := k) (F := F) (i := i) (by omega)
     have a2 : (Qbv s k (F ++ [(i : Int)])).length ≤ (extN s.guests k (F ++ [(i : Int)])).length := Zv _ _
     have a3 := Qhn s.guests k (F ++ [(i : Int)])
     have a4 : i * s.guests.toNat ^ k ≤ 7 * 823543 := Nat.mul_le_mul (by omega) hpw
     unfold Qav
     omega
    have hnx : Qa7 (((accN s k F i).map eCan).flatten ++ ((Qbv s k (F ++ [(i : Int)])).map eCan).flatten) = false := by rw [Qbi, Qc1, Qc1]; rfl
    simp only [hlt, h3, g1, hF, hF6, g2, h64, hst, hfr, f0, f2, f3, Qgz, Qfe, Qq9, Zc, Zb, Z7, Zs, Z3, Z8, Qet, Qbi, Zl, Zu, Xi, vw_I, Qap _ _ _ hnx, Qaf, Qa9, Qbr, Qa8, Qab, Qac, Qa5, Qcr, Qcp, ↓Qc3, effO, Qk0, Qb9, optL, rids, Qd6, Qgy, Qiz, Qdj, cutH, Qad, Qai, Qa6, Qa2, Fam.step, Qae, Qb6, runX, eff, Qb7, fpR, fpQ, fpV, Qc4, hits, nv, sv, Qcd, evO, opv, qv, binV, ldV, Qan, Qau, putAt, Qbc, Qb5, V.cells, Qat, Qbn, Qaa, Qa7, flat, kp, cutV, cutL, cutB, Qa1, Qa0, Qa3, ↓reduceIte, Nat.reduceEqDiff, Nat.reduceAdd, Nat.reduceLT, Nat.reduceLeDiff, Qb, Qc, Qq, Qp, Qd, Qe, Qi, Ql, Z0, Qm, Zg, Qu, Qh, Q6, Q4, Qj, Zf, Z2, Qz, Qv, Q8, Zr, List.set_cons_succ, Qy, Zj, Q9, List.isEmpty_cons, vw_i, Qal, Qar, Qe0, Qf, Xf, Qo, Qt, Zi, Q5, Zk, Qk, Zz, Bool.or_true, Qs, Qw, Qa, decide_true, decide_false, and_self, implies_true, reduceCtorEq, not_false_eq_true, ne_eq, List.any_cons, Zd, List.contains_cons, Q7, Bool.not_not, Qg, Qn, Qa4, eI]
  ·have hgt : ¬ ((s.guests.toNat : Int) < s.guests) := by omega
   simp only [hgt, Qfe, Z7, Xi, Qek, vw_C, Qlu, Qa9, Qa8, Qab, Qax, Qah, Qa5, Qad, Qai, Qa6, Qa2, Fam.step, Qae, evO, opv, qv, binV, ldV, Qa1, Qa0, Qa3, ↓reduceIte, Nat.reduceEqDiff, Nat.reduceAdd, Nat.reduceLeDiff, Qb, Qc, Qd, Qe, Ql, Qh, Zf, endQ, rvs, rv1, resV, Qe0, Qf, Qa, decide_false, and_self, Qa4]
end Go.C10
set_option linter.unusedSimpArgs false
set_option linter.unusedVariables false
namespace Go.C10
open Go.Fam Go.Proofs
variable {Γ : Gam}
theorem W64n (s : Stand) (h : OkS s) : PureCall Try.prog 64 [.ag (Qa4 s), .sl 1 ([] : List (List V))] (.sl 1 ((Qag s).map eCan)) := by
 have := W64 _ s [] ⟨h, by have := h.guests; simp; omega, by simp, List.nodup_nil⟩ rfl
 simpa [Qgf, Qag] using this
def e64n (s : Stand) : List V := [.ag (Qa4 s), .sl 1 []]
def d64n : List V → Stand | [.ag s, _] => Qaw s | _ => Qaw []
theorem Quf (s : Stand) : d64n (e64n s) = s := by simp [d64n, e64n, Qb4]
noncomputable def HR1 : Gam := HQ1.ext 64 (fnG e64n d64n OkS Qag (fun l => .sl 1 (l.map eCan)))
theorem Qvv : GOk Try.prog HR1 := Qsh.ext (f := 64) (fun a w => Try.call64 a w) (Qb0 (e := e64n) (d := d64n) (ok := OkS) (g := Qag) (eb := fun l => .sl 1 (l.map eCan)) fun s h => W64n s h)
theorem h64 (s : Stand) : HR1 64 [.ag (Qa4 s), .sl 1 []] = (OkS s, .sl 1 ((Qag s).map eCan)) :=
 (show HR1 64 _ = fnG e64n d64n OkS Qag (fun l => .sl 1 (l.map eCan)) (e64n s) from rfl).trans (Qb2 _ (Quf _))
def Qci (s : Stand) (g : Int) : List (List Int) × Int :=
 if Qb1 s ≠ 0 then ([], Qb1 s) else if g ≠ -1000000 ∧ Qao s.guests g = false then ([], 1) else if Qag s = [] then ([], 3) else (Qag s, 0)
theorem Qm1 (s : Stand) : Qci s (-1000000) = Qbo s [] := by
 unfold Qci Qbo
 by_cases hc : Qb1 s ≠ 0
 ·rw [if_pos hc, if_pos hc]
 ·rw [if_neg hc, if_neg hc, if_neg (fun h => h.1 rfl), if_neg (show ¬ (([] : List Int).any fun n => !Qao s.guests n) = true by simp)]
theorem Qtt (s : Stand)  : HR1 36 [.ag (Qa4 s)] = (Qaq s, .i (Qb1 s)) := h36 s
theorem Qtu (s : Stand) (n : Int)  : HR1 62 [.ag (Qa4 s), .i n] = (True, .b (Qao s.guests n)) := h62 s n
theorem W60 (s : Stand) (g : Int) (h : Qaq s) : PureCall Try.prog 60 [.ag (Qa4 s), .i g] (.tp [.sl 1 ((Qci s g).1.map eCan), .i (Qci s g).2]) := by
 refine Qaj Qvv hmix Try.func60 cb60 cc60 cs60 cn60 ?_
 have g1 := Qtt s
 have g2 := Qtu s g
 have g3 := h64 s
 simp only [Qa4] at g1 g2 g3
 by_cases hc : Qb1 s = 0
 ·have hS := Qeu hc h
  have hc' : ¬ Qb1 s ≠ 0 := by simpa using hc
  by_cases hg : g = -1000000
  ·by_cases ht : Qag s = []
   ·have e : Qci s g = ([], 3) := by unfold Qci; rw [if_neg hc', if_neg (by simp [hg]), if_pos ht]
    rw [ht] at g3
    rw [e]
    simp only [rc60, rs60, g1, h, hc, hg, g3, hS, Za, Qaf, Qa9, Qa8, Qab, Qah, Qa5, Qad, Qa6, Qa2, Fam.step, Qae, Qaz, Qas, ug, evO, opv, qv, Qh1, binV, ldV, lenV, Qan, V.cells, Qat, Qaa, Qa7, flat, Qa1, Qa0, Qa3, ↓reduceIte, Nat.reduceEqDiff, Nat.reduceAdd, Nat.reduceLT, Nat.reduceLeDiff, Int.reduceNeg, Qb, Qc, Qq, Qp, Qd, Qe, Qm, Qu, Qj, Qz, endQ, rvs, rv1, resV, vw_i, vw_z, Qal, Qar, Qcg, zipA, Qf, Qo, Qt, Qk, Qs, Qa, decide_true, true_and, and_true, and_self, false_and, forall_const, false_implies, implies_true, reduceCtorEq, beq_true, imp_self, Qa4]
   ·have e : Qci s g = (Qag s, 0) := by unfold Qci; rw [if_neg hc', if_neg (by simp [hg]), if_neg ht]
    have hl : ¬ ((Qag s).length : Int) = 0 := by have := Z9.2 ht; omega
    rw [e]
    simp only [rc60, rs60, g1, h, hc, hg, g3, hS, hl, Qaf, Qa9, Qa8, Qab, Qah, Qa5, Qad, Qa6, Qa2, Fam.step, Qae, Qaz, Qas, ug, evO, opv, qv, Qh1, binV, ldV, lenV, Qan, V.cells, Qat, Qaa, Qa7, flat, Qa1, Qa0, Qa3, ↓reduceIte, Nat.reduceEqDiff, Nat.reduceAdd, Nat.reduceLT, Nat.reduceLeDiff, Int.reduceNeg, Qb, Qc, Qq, Qp, Qd, Qe, Qm, Qu, Qj, Qz, endQ, rvs, rv1, resV, vw_i, vw_z, Qal, Qar, Qcg, zipA, Qf, Qo, Qt, Qk, Qs, Qa, decide_true, decide_false, true_and, and_true, and_self, false_and, forall_const, false_implies, implies_true, reduceCtorEq, beq_true, imp_self, Qg, Qa4]
  ·cases hgb : Qao s.guests g with
   | false =>
    have e : Qci s g = ([], 1) := by unfold Qci; rw [if_neg hc', if_pos ⟨hg, hgb⟩]
    rw [e]
    simp only [rc60, rs60, g1, g2, h, hc, hg, hgb, Qaf, Qa9, Qa8, Qab, Qah, Qa5, Qad, Qa6, Qa2, Fam.step, Qae, Qaz, Qas, ug, evO, opv, qv, Qak, binV, ldV, Qan, V.cells, Qat, Qaa, Qa7, flat, Qa1, Qa0, Qa3, ↓reduceIte, Nat.reduceEqDiff, Nat.reduceAdd, Nat.reduceLT, Nat.reduceLeDiff, Int.reduceNeg, Qb, Qc, Qq, Qp, Qd, Qe, Qm, Qu, Qj, Qz, endQ, rvs, rv1, resV, vw_i, vw_z, Qal, Qar, Qcg, zipA, beq_self_eq_true, Qf, Qo, Qk, Qs, Qw, Qa, Qr, decide_true, decide_false, and_self, forall_const, implies_true, reduceCtorEq, Qa4]
   | true =>
    by_cases ht : Qag s = []
    ·have e : Qci s g = ([], 3) := by unfold Qci; rw [if_neg hc', if_neg (by simp [hgb]), if_pos ht]
     rw [ht] at g3
     rw [e]
     simp only [rc60, rs60, g1, g2, h, hc, hg, hgb, g3, hS, Za, Qaf, Qa9, Qa8, Qab, Qah, Qa5, Qad, Qa6, Qa2, Fam.step, Qae, Qaz, Qas, ug, evO, opv, qv, Qak, binV, ldV, lenV, Qan, V.cells, Qat, Qaa, Qa7, flat, Qa1, Qa0, Qa3, ↓reduceIte, Nat.reduceEqDiff, Nat.reduceAdd, Nat.reduceLT, Nat.reduceLeDiff, Int.reduceNeg, Qb, Qc, Qq, Qp, Qd, Qe, Qm, Qu, Qj, Qz, endQ, rvs, rv1, resV, vw_i, vw_z, Qal, Qar, Qcg, zipA, beq_self_eq_true, Qf, Qo, Qk, Qs, Qw, Qa, Qr, decide_true, decide_false, and_self, forall_const, implies_true, reduceCtorEq, imp_self, Qa4]
    ·have e : Qci s g = (Qag s, 0) := by unfold Qci; rw [if_neg hc', if_neg (by simp [hgb]), if_neg ht]
     have hl : ¬ ((Qag s).length : Int) = 0 := by have := Z9.2 ht; omega
     rw [e]
     simp only [rc60, rs60, g1, g2, h, hc, hg, hgb, g3, hS, hl, Qaf, Qa9, Qa8, Qab, Qah, Qa5, Qad, Qa6, Qa2, Fam.step, Qae, Qaz, Qas, ug, evO, opv, qv, Qak, binV, ldV, lenV, Qan, V.cells, Qat, Qaa, Qa7, flat, Qa1, Qa0, Qa3, ↓reduceIte, Nat.reduceEqDiff, Nat.reduceAdd, Nat.reduceLT, Nat.reduceLeDiff, Int.reduceNeg, Qb, Qc, Qq, Qp, Qd, Qe, Qm, Qu, Qj, Qz, endQ, rvs, rv1, resV, vw_i, vw_z, Qal, Qar, Qcg, zipA, beq_self_eq_true, Qf, Qo, Qk, Qs, Qw, Qa, Qr, decide_true, decide_false, and_self, forall_const, implies_true, reduceCtorEq, imp_self, Qg, Qa4]
 ·have e : Qci s g = ([], Qb1 s) := by unfold Qci; rw [if_pos hc]
  rw [e]
  simp only [rc60, rs60, g1, h, hc, Qa9, Qa8, Qab, Qah, Qa5, Qad, Qa6, Qa2, Fam.step, Qae, evO, opv, qv, binV, ldV, Qan, V.cells, Qat, Qaa, Qa7, flat, Qa1, Qa0, Qa3, ↓reduceIte, Nat.reduceEqDiff, Nat.reduceAdd, Nat.reduceLT, Nat.reduceLeDiff, Int.reduceNeg, Qb, Qc, Qd, Qe, Qm, Qu, Qj, Qz, endQ, rvs, rv1, resV, vw_i, vw_z, Qal, Qar, Qcg, zipA, Qf, Qk, Qw, Qa, decide_false, and_self, implies_true, reduceCtorEq, Qa4]
def e60 (a : Stand × Int) : List V := [.ag (Qa4 a.1), .i a.2]
def d60 : List V → Stand × Int | [.ag x0, .i x1] => (Qaw x0, x1) | _ => (Qaw [], 0)
theorem Qx2 (a : Stand × Int) : d60 (e60 a) = a := by simp [d60, e60, Qb4]
noncomputable def HR2 : Gam := HR1.ext 60 (fnG e60 d60 (fun a => (fun (s : Stand) (g : Int) => Qaq s) a.1 a.2) (fun a => (fun (s : Stand) (g : Int) => Qci s g) a.1 a.2) (fun r => .tp [.sl 1 (r.1.map eCan), .i r.2]))
theorem Qvw : GOk Try.prog HR2 := Qvv.ext (f := 60) (fun a w => Try.call60 a w) (Qb0 (e := e60) (d := d60) (ok := (fun a => (fun (s : Stand) (g : Int) => Qaq s) a.1 a.2)) (g := (fun a => (fun (s : Stand) (g : Int) => Qci s g) a.1 a.2)) (eb := (fun r => .tp [.sl 1 (r.1.map eCan), .i r.2])) fun a h => W60 a.1 a.2 h)
theorem h60 (s : Stand) (g : Int) : HR2 60 [.ag (Qa4 s), .i g] = (Qaq s, ((fun r => .tp [.sl 1 (r.1.map eCan), .i r.2])) (Qci s g)) :=
 (show HR2 60 _ = fnG e60 d60 (fun a => (fun (s : Stand) (g : Int) => Qaq s) a.1 a.2) (fun a => (fun (s : Stand) (g : Int) => Qci s g) a.1 a.2) (fun r => .tp [.sl 1 (r.1.map eCan), .i r.2]) (e60 (s, g)) from rfl).trans (Qb2 _ (Qx2 _))
structure OkL (l : List (List Int)) (g : Int) : Prop where
 len : l.length ≤ 1000000
 gd : 0 ≤ g ∧ g ≤ 1000
 at_ : ∀ t ∈ l, (t.length : Int) = g
theorem OkL.where_ {l : List (List Int)} {g x u : Int} (h : OkL l g) : OkL (Qbe l x u) g := by
 refine ⟨?_, h.gd, fun t ht => h.at_ t (Xj.1 ht).1⟩
 have := Zv (fun t => decide (atN t x = u)) l
 have := h.len
 unfold Qbe; omega
def Ok80 (l : List (List Int)) (x : Int) : Prop := l.length ≤ 1000000 ∧ ∀ t ∈ l, 0 ≤ x ∧ x < t.length
theorem Qr0 (l : List (List Int)) (g u : Int) : (Qbe l g u).length ≤ l.length := Zv _ _
theorem W80 (l : List (List Int)) (x u : Int) (h : Ok80 l x) : PureCall Try.prog 80 [.sl 1 (l.map eCan), .i x, .i u] (.sl 1 ((Qbe l x u).map eCan)) := by
 refine Qaj Qvw hmix Try.func80 cb80 cc80 cs80 cn80 ?_
 obtain ⟨hl, ha⟩ := h
 simp only [rc80, rs80, Qa9, Qa8, Qac, Qa5, Qfm, Qad, Qa6, Qa2, Fam.step, Qae, evO, opv, qv, Qa1, Qa0, Qa3, ↓reduceIte, Nat.reduceEqDiff, Nat.reduceAdd, Qb, Qc, Qe, Q4, zipA, Qf, true_and, reduceCtorEq]
 refine Qc2 l.length (fun i => ⟨lkp [(0, .sl 1 (l.map eCan)), (1, .i x), (2, .i u), (7, .rf 0 (Qbe (l.take i) x u).length 0 (Qbe (l.take i) x u).length 1), (8, .i i)],
   [.cells (Qbe (l.take i) x u).length ((Qbe (l.take i) x u).map eCan).flatten]⟩) ?_ ?_ ?_
 ·have e0 : Qbe [] x u = [] := rfl
  simp only [Za, Zg, e0, Zl, kp, Qa0, Qa3, ↓reduceIte, Nat.reduceEqDiff, Qb, Qc, Qe, Zg, reduceCtorEq]
 ·intro i hi
  obtain ⟨t, ht⟩ : ∃ t, l[i]? = some t := ⟨_, Q3 hi⟩
  obtain ⟨hx0, hx1⟩ := ha t (Ze ht)
  obtain ⟨y, hy⟩ : ∃ y, t[x.toNat]? = some y := ⟨_, Q3 (by omega)⟩
  have ey : atN t x = y := by unfold atN; rw [hy]; rfl
  have ec : eCan t = [.sl 1 (t.map eI)] := rfl
  have hlt : (i : Int) < l.length := by omega
  have h3 : inI ((i : Int) + 1) := by unfold inI; omega
  have hst : Qbe (l.take (i + 1)) x u = Qbe (l.take i) x u ++ if y = u then [t] else [] := by
   rw [Qbg ht, Qe1, ey]
  have hwl := Qr0 (l.take i) x u
  rw [Z1] at hwl
  have hfl : Qav ((Qbe (l.take i) x u).length + 1) := by unfold Qav; omega
  by_cases e : y = u
  ·rw [if_pos e] at hst
   have hnx : Qa7 (((Qbe (l.take i) x u).map eCan).flatten ++ [V.sl 1 (t.map eI)]) = false := by rw [Qbi, Qc1]; rfl
   simp only [hlt, ht, hx0, hx1, hy, e, h3, hst, hfl, Qfe, Zs, Z3, Z8, Zu, Zl, Z7, Zc, Zb, Qaf, Qa9, Qa8, Qab, Qac, Qa5, Qcp, putB, Qad, Qai, Qa6, Qa2, Fam.step, Qae, Qcf, Qb6, putB, nv, sv, Qcd, evO, opv, qv, binV, ldV, iadV, lenV, Qau, putAt, Qbc, Qb5, V.cells, Qat, Qbn, Qaa, Qa7, kp, Qa1, Qa0, Qa3, ↓reduceIte, Nat.reduceEqDiff, Nat.reduceLeDiff, Qb, Qc, Qq, Qp, Qd, Qe, Qi, Z0, Qm, Zg, Qu, Qh, Q4, Qj, Zf, Qv, Zr, Qy, Zj, Qal, Q0, Qf, Qo, Qk, Qa, decide_true, and_self, reduceCtorEq, not_false_eq_true, ne_eq, Q1, Qg, Q2, Qn, Qx, eI, eCan]
  ·rw [if_neg e, Qj] at hst
   simp only [hlt, ht, hx0, hx1, hy, e, h3, hst, Zc, Zb, Qaf, Qa9, Qa8, Qab, Qac, Qa5, Qad, Qai, Qa6, Qa2, Fam.step, Qae, evO, opv, qv, binV, ldV, iadV, lenV, kp, Qa1, Qa0, Qa3, ↓reduceIte, Nat.reduceEqDiff, Nat.reduceLeDiff, Qb, Qc, Qd, Qe, Qh, Qv, Q0, Qf, Qa, decide_true, decide_false, and_self, reduceCtorEq, Q1, Qg, Q2, Qn, Qx, eI, eCan]
 ·have hlt : ¬ ((l.length : Int) < l.length) := by omega
  simp only [hlt, Xg, Qfe, Z7, Xi, Qek, vw_C, Qa9, Qa8, Qab, Qax, Qah, Qa5, Qad, Qai, Qa6, Qa2, Fam.step, Qae, evO, opv, qv, binV, lenV, Qa1, Qa0, Qa3, ↓reduceIte, Nat.reduceEqDiff, Qb, Qc, Zf, endQ, rvs, rv1, resV, Qe0, Qf, Qa, decide_false, and_self, reduceCtorEq, Qg]
def e80 (a : List (List Int) × Int × Int) : List V := [.sl 1 (a.1.map eCan), .i a.2.1, .i a.2.2]
def d80 : List V → List (List Int) × Int × Int | [.sl _ x0, .i x1, .i x2] => (x0.map dCan, x1, x2) | _ => ([], 0, 0)
theorem Qxd (a : List (List Int) × Int × Int) : d80 (e80 a) = a := by simp [d80, e80, Function.comp_def, Qfh]
noncomputable def HR3 : Gam := HR2.ext 80 (fnG e80 d80 (fun a => (fun (l : List (List Int)) (x : Int) (u : Int) => Ok80 l x) a.1 a.2.1 a.2.2) (fun a => (fun (l : List (List Int)) (x : Int) (u : Int) => Qbe l x u) a.1 a.2.1 a.2.2) (fun l => .sl 1 (l.map eCan)))
theorem Qqk : GOk Try.prog HR3 := Qvw.ext (f := 80) (fun a w => Try.call80 a w) (Qb0 (e := e80) (d := d80) (ok := (fun a => (fun (l : List (List Int)) (x : Int) (u : Int) => Ok80 l x) a.1 a.2.1 a.2.2)) (g := (fun a => (fun (l : List (List Int)) (x : Int) (u : Int) => Qbe l x u) a.1 a.2.1 a.2.2)) (eb := (fun l => .sl 1 (l.map eCan))) fun a h => W80 a.1 a.2.1 a.2.2 h)
theorem h80 (l : List (List Int)) (x : Int) (u : Int) : HR3 80 [.sl 1 (l.map eCan), .i x, .i u] = (Ok80 l x, ((fun l => .sl 1 (l.map eCan))) (Qbe l x u)) :=
 (show HR3 80 _ = fnG e80 d80 (fun a => (fun (l : List (List Int)) (x : Int) (u : Int) => Ok80 l x) a.1 a.2.1 a.2.2) (fun a => (fun (l : List (List Int)) (x : Int) (u : Int) => Qbe l x u) a.1 a.2.1 a.2.2) (fun l => .sl 1 (l.map eCan)) (e80 (l, x, u)) from rfl).trans (Qb2 _ (Qxd _))
end Go.C10
set_option linter.unusedSimpArgs false
set_option linter.unusedVariables false
namespace Go.C10
open Go.Fam Go.Proofs
variable {Γ : Gam}
def Qbz (g : Int) : Nat → List (List Int) → Bool
 | 0, l => decide (l.length ≤ 1)
 | n + 1, l => decide (l.length ≤ 1) || (ints 0 (g - 1)).any fun x => (ints 0 (g - 1)).all fun u => Qbz g n (Qbe l x u)
def Qei (g : Int) (n : Nat) (l : List (List Int)) (x : Int) : Bool := (ints 0 (g - 1)).all fun u => Qbz g n (Qbe l x u)
def e61k (k : Nat) (a : List (List Int) × Int) : List V := [.sl 1 (a.1.map eCan), .i a.2, .i (k : Int)]
def d61k : List V → List (List Int) × Int | [.sl _ l, .i g, _] => (l.map dCan, g) | _ => ([], 0)
theorem Qub (k : Nat) (a : List (List Int) × Int) : d61k (e61k k a) = a := by simp [d61k, e61k, Function.comp_def, Qfh]
def e63k (k : Nat) (a : List (List Int) × Int × Int) : List V := [.sl 1 (a.1.map eCan), .i a.2.1, .i ((k : Int) + 1), .i a.2.2]
def d63k : List V → List (List Int) × Int × Int | [.sl _ l, .i g, _, .i x] => (l.map dCan, g, x) | _ => ([], 0, 0)
theorem Qud (k : Nat) (a : List (List Int) × Int × Int) : d63k (e63k k a) = a := by simp [d63k, e63k, Function.comp_def, Qfh]
noncomputable def GK (k : Nat) : Gam := HR3.ext 61 (fnG (e61k k) d61k (fun a => OkL a.1 a.2) (fun a => Qbz a.2 k a.1) .b)
noncomputable def GA (k : Nat) : Gam := HR3.ext 63 (fnG (e63k k) d63k (fun a => OkL a.1 a.2.1 ∧ 0 ≤ a.2.2 ∧ a.2.2 < a.2.1) (fun a => Qei a.2.1 k a.1 a.2.2) .b)
theorem q61 (k : Nat) (l : List (List Int)) (g : Int) : GK k 61 [.sl 1 (l.map eCan), .i g, .i (k : Int)] = (OkL l g, .b (Qbz g k l)) :=
 (show GK k 61 _ = fnG (e61k k) d61k (fun a => OkL a.1 a.2) (fun a => Qbz a.2 k a.1) .b (e61k k (l, g)) from rfl).trans (Qb2 _ (Qub k _))
theorem q63 (k : Nat) (l : List (List Int)) (g x : Int) : GA k 63 [.sl 1 (l.map eCan), .i g, .i ((k : Int) + 1), .i x] = (OkL l g ∧ 0 ≤ x ∧ x < g, .b (Qei g k l x)) :=
 (show GA k 63 _ = fnG (e63k k) d63k (fun a => OkL a.1 a.2.1 ∧ 0 ≤ a.2.2 ∧ a.2.2 < a.2.1) (fun a => Qei a.2.1 k a.1 a.2.2) .b (e63k k (l, g, x)) from rfl).trans (Qb2 _ (Qud k _))
theorem Qrh (k : Nat) (l : List (List Int)) (x : Int) (u : Int)  : (GK k) 80 [.sl 1 (l.map eCan), .i x, .i u] = (Ok80 l x, ((fun l => .sl 1 (l.map eCan))) (Qbe l x u)) := h80 l x u
theorem W63k (k : Nat) (hk : k ≤ 1000) (ih : ∀ l g, OkL l g → PureCall Try.prog 61 [.sl 1 (l.map eCan), .i g, .i (k : Int)] (.b (Qbz g k l)))
  (l : List (List Int)) (g x : Int) (h : OkL l g) (hx : 0 ≤ x ∧ x < g) : PureCall Try.prog 63 [.sl 1 (l.map eCan), .i g, .i ((k : Int) + 1), .i x] (.b (Qei g k l x)) := by
 have hok : GOk Try.prog (GK k) := Qqk.ext (f := 61) (fun a w => Try.call61 a w) (Qb0 (e := e61k k) (d := d61k) (ok := fun a => OkL a.1 a.2) (g := fun a => Qbz a.2 k a.1) (eb := .b) fun a h => ih a.1 a.2 h)
 refine Qaj hok hmix Try.func63 cb63 cc63 cs63 cn63 ?_
 have hg := h.gd
 have hll := h.len
 simp only [rc63, rs63, Qa9, Qa8, Qac, Qa5, Qad, Qa6, Qa2, Fam.step, Qae, evO, opv, qv, Qa1, Qa0, Qa3, ↓reduceIte, Nat.reduceEqDiff, Nat.reduceAdd, Qb, Qc, zipA, Qf, true_and, reduceCtorEq]
 refine Qbk g.toNat (fun i => ⟨lkp [(0, .sl 1 (l.map eCan)), (1, .i g), (2, .i ((k : Int) + 1)), (3, .i x), (9, .i i)], []⟩) (fun i => ∀ j : Nat, j < i → Qbz g k (Qbe l x j) = true) ?_ ?_ ?_ ?_
 ·simp only [Za, kp, Qa0, Qa3, ↓reduceIte, Nat.reduceEqDiff, Qb, Qc, reduceCtorEq]
 ·intro j hj; omega
 ·intro i hi hc
  have hlt : (i : Int) < g := by omega
  have h3 : inI ((i : Int) + 1) := by unfold inI; omega
  have h4 : inI (k : Int) := by unfold inI; omega
  have h5 : (k : Int) + 1 - 1 = k := by omega
  have g1 := Qrh k l x i
  have h80 : Ok80 l x := ⟨hll, fun t ht => by have := h.at_ t ht; omega⟩
  have g2 := q61 k (Qbe l x i) g
  have hw : OkL (Qbe l x i) g := h.where_
  simp only [hlt, h3, h4, h5, g1, h80, g2, hw, Zc, Zb, Qaf, Qa9, Qa8, Qab, Qhg, Qac, Qah, Qa5, Qad, Qai, Qa6, Qa2, Fam.step, Qae, evO, opv, qv, binV, Qan, Qaa, Qa7, flat, kp, Qa1, Qa0, Qa3, ↓reduceIte, Nat.reduceEqDiff, Nat.reduceLT, Qb, Qc, Qj, endQ, rvs, rv1, resV, vw_i, vw_b, Qal, V.b.injEq, Qk, Qa, decide_true, true_and, and_true, and_self, implies_true, reduceCtorEq, Xd, imp_self, Bool.not_eq_false]
  refine ⟨fun he => ?_, fun he => ?_⟩
  ·unfold Qei
   symm
   rw [Zt]
   exact ⟨i, Qcl.2 (by omega), by rw [he]; simp⟩
  ·intro j hj
   by_cases hji : j < i
   ·exact hc j hji
   ·have : j = i := by omega
    subst this
    exact he
 ·intro hc
  have hlt : ¬ ((g.toNat : Int) < g) := by omega
  have : Qei g k l x = true := by
   unfold Qei
   rw [Zw]
   intro u hu
   rw [Qcl] at hu
   have := hc u.toNat (by omega)
   rwa [show ((u.toNat : Nat) : Int) = u by omega] at this
  simp only [hlt, this, Qa9, Qa8, Qab, Qax, Qah, Qa5, Qad, Qai, Qa6, Qa2, Fam.step, Qae, evO, opv, qv, binV, Qa1, Qa0, Qa3, ↓reduceIte, Nat.reduceEqDiff, Qb, Qc, endQ, rvs, rv1, resV, vw_b, Qa, decide_false, and_self, reduceCtorEq]
theorem W61 : ∀ (k : Nat), k ≤ 1000 → ∀ (l : List (List Int)) (g : Int), OkL l g → PureCall Try.prog 61 [.sl 1 (l.map eCan), .i g, .i (k : Int)] (.b (Qbz g k l)) := by
 intro k
 induction k with
 | zero =>
  intro _ l g h
  refine Qaj Qqk hmix Try.func61 cb61 cc61 cs61 cn61 ?_
  have hg := h.gd
  by_cases h1 : l.length ≤ 1
  ·have h1' : (l.length : Int) ≤ 1 := by omega
   simp only [rc61, rs61, h1', Qbz, h1, Qa9, Qa8, Qab, Qah, Qa5, Qad, Qa6, Qa2, Fam.step, Qae, evO, opv, qv, binV, lenV, Qa1, Qa0, Qa3, ↓reduceIte, Nat.reduceEqDiff, Nat.reduceAdd, Qb, Qc, endQ, rvs, rv1, resV, vw_b, zipA, Qf, decide_true, and_self, reduceCtorEq, Qg]
  ·have h1' : ¬ (l.length : Int) ≤ 1 := by omega
   simp only [rc61, rs61, h1', Za, Qaf, Qa9, Qa8, Qab, Qac, Qa5, Qad, Qa6, Qa2, Fam.step, Qae, evO, opv, qv, binV, lenV, Qa1, Qa0, Qa3, ↓reduceIte, Nat.reduceEqDiff, Nat.reduceAdd, Qb, Qc, zipA, Qf, Qa, decide_false, true_and, reduceCtorEq, Qg]
   refine Qc2 0 (fun i => ⟨lkp [(0, .sl 1 (l.map eCan)), (1, .i g), (2, .i 0), (7, .i i)], []⟩) ?_ ?_ ?_
   ·simp only [Za, kp, Qa0, Qa3, ↓reduceIte, Nat.reduceEqDiff, Qb, Qc, reduceCtorEq]
   ·intro i hi; omega
   ·by_cases hg0 : 0 < g <;> simp only [Za, Qbz, h1, hg0, Qa9, Qa8, Qab, Qax, Qah, Qa5, Qad, Qai, Qa6, Qa2, Fam.step, Qae, Qaz, Qas, ug, evO, opv, qv, Qak, binV, Qa1, Qa0, Qa3, ↓reduceIte, Nat.reduceEqDiff, Qb, Qc, Qq, Qp, endQ, rvs, rv1, resV, vw_b, Xa, beq_self_eq_true, Qo, Qt, Qa, Qr, decide_true, decide_false, and_true, and_self, forall_const, implies_true, reduceCtorEq, beq_true, imp_self]
 | succ k ih =>
  intro hk l g h
  have hok : GOk Try.prog (GA k) := Qqk.ext (f := 63) (fun a w => Try.call63 a w) (Qb0 (e := e63k k) (d := d63k) (ok := fun a => OkL a.1 a.2.1 ∧ 0 ≤ a.2.2 ∧ a.2.2 < a.2.1) (g := fun a => Qei a.2.1 k a.1 a.2.2) (eb := .b) fun a h => W63k k (by omega) (ih (by omega)) a.1 a.2.1 a.2.2 h.1 h.2)
  refine Qaj hok hmix Try.func61 cb61 cc61 cs61 cn61 ?_
  have hg := h.gd
  by_cases h1 : l.length ≤ 1
  ·have h1' : (l.length : Int) ≤ 1 := by omega
   simp only [rc61, rs61, h1', Qbz, h1, Qa9, Qa8, Qab, Qah, Qa5, Qad, Qa6, Qa2, Fam.step, Qae, evO, opv, qv, binV, lenV, Qa1, Qa0, Qa3, ↓reduceIte, Nat.reduceEqDiff, Nat.reduceAdd, Qb, Qc, endQ, rvs, rv1, resV, vw_b, zipA, Qf, Xc, decide_true, and_self, reduceCtorEq, Qg]
  ·have h1' : ¬ (l.length : Int) ≤ 1 := by omega
   simp only [rc61, rs61, h1', Zc, Zb, Qaf, Qa9, Qa8, Qab, Qac, Qa5, Qad, Qa6, Qa2, Fam.step, Qae, evO, opv, qv, binV, lenV, Qa1, Qa0, Qa3, ↓reduceIte, Nat.reduceEqDiff, Nat.reduceAdd, Qb, Qc, zipA, Qf, Qa, decide_false, true_and, reduceCtorEq, Qg]
   refine Qbk g.toNat (fun i => ⟨lkp [(0, .sl 1 (l.map eCan)), (1, .i g), (2, .i ((k : Int) + 1)), (7, .i i)], []⟩) (fun i => ∀ j : Nat, j < i → Qei g k l j = false) ?_ ?_ ?_ ?_
   ·simp only [Za, kp, Qa0, Qa3, ↓reduceIte, Nat.reduceEqDiff, Qb, Qc, reduceCtorEq]
   ·intro j hj; omega
   ·intro i hi hc
    have hlt : (i : Int) < g := by omega
    have h3 : inI ((i : Int) + 1) := by unfold inI; omega
    have h5 : (0 : Int) < (k : Int) + 1 := by omega
    have g1 := q63 k l g i
    have hi0 : (0 : Int) ≤ i := by omega
    simp only [hlt, h3, h5, g1, h, Zc, Zb, Qaf, Qa9, Qa8, Qab, Qhg, Qac, Qah, Qa5, Qad, Qai, Qa6, Qa2, Fam.step, Qae, Qaz, Qas, ug, evO, opv, qv, Qak, binV, Qan, Qaa, Qa7, flat, kp, Qa1, Qa0, Qa3, ↓reduceIte, Nat.reduceEqDiff, Nat.reduceLT, Qb, Qc, Qq, Qp, Qj, endQ, rvs, rv1, resV, vw_i, vw_b, Qal, Q0, beq_self_eq_true, V.b.injEq, Qo, Qk, Qa, Qr, decide_true, true_and, and_true, and_self, forall_const, implies_true, reduceCtorEq, Bool.not_eq_true]
    refine ⟨fun he => ?_, fun he => ?_⟩
    ·rw [Qbz]
     symm
     rw [Bool.or_eq_true]
     right
     rw [Zq]
     exact ⟨i, Qcl.2 (by omega), he⟩
    ·intro j hj
     by_cases hji : j < i
     ·exact hc j hji
     ·have : j = i := by omega
      subst this
      exact he
   ·intro hc
    have hlt : ¬ ((g.toNat : Int) < g) := by omega
    have : Qbz g (k + 1) l = false := by
     rw [Qbz, Zh, decide_eq_false_iff_not, Zy]
     refine ⟨h1, fun x hx => ?_⟩
     rw [Qcl] at hx
     have := hc x.toNat (by omega)
     rw [show ((x.toNat : Nat) : Int) = x by omega] at this
     unfold Qei at this
     rw [this]; simp
    simp only [hlt, this, Qa9, Qa8, Qab, Qax, Qah, Qa5, Qad, Qai, Qa6, Qa2, Fam.step, Qae, Qaz, Qas, ug, evO, opv, qv, Qak, binV, Qa1, Qa0, Qa3, ↓reduceIte, Nat.reduceEqDiff, Qb, Qc, Qq, Qp, endQ, rvs, rv1, resV, vw_b, Qo, Qt, Qa, decide_false, and_true, and_self, forall_const, implies_true, reduceCtorEq, beq_true, imp_self]
end Go.C10
