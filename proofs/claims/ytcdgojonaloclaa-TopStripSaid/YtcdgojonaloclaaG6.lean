import Derived.Test.YtcdgojonaloclaaG3
import Derived.Test.YtcdgojonaloclaaChecked
import Derived.Test.YtcdgojonaloclaaG5
import Derived.Test.YtcdgojonaloclaaRows
set_option linter.all false
open List renaming map_cons → Qa, map_nil → Qb, length_nil → Qd, length_cons → Qe, nil_append → Qg, getElem?_cons_zero → Qh, getD_eq_getElem?_getD → Qi, headD_cons → Qj, drop_succ_cons → Qk, drop_zero → Ql, cons_append → Qm, length_map → Qn, getElem?_eq_getElem → Qo, take_zero → Qp, getElem?_cons_succ → Qq, append_nil → Qr, take_succ_cons → Qs, replicate_zero → Qx, mem_of_getElem? → Qz, getElem?_map → Q1, all_nil → Q2, getElem?_nil → Q3, replicate_succ → Za, all_cons → Zb, set_cons_zero → Zd, map_append → Ze, take_length → Zg, flatten_nil → Zk, length_append → Zm, set_cons_succ → Zn, contains_nil → Zp, length_filter_le → Zq, isEmpty_nil → Zs, take_nil → Zu, flatten_append → Zv, filter_append → Zx, any_nil → Z0, filter_nil → Z2, range_succ → Z3, range_zero → Z4, replicate → Z6, flatten_cons → Z8, append_assoc → Xa, all_eq_true → Xb, drop_append → Xc, mem_filter → Xf, take_left' → Xg, range → Xh
open Nat renaming zero_add → Qf, mul_one → Zf, le_refl → Zy, sub_self → Z9
open Bool renaming false_eq_true → Qc, or_false → Qt, and_self → Qu, not_eq_true' → Qy, and_true → Q8, not_eq_false' → Zh, or_eq_false_iff → Zi, and_eq_true → Zj, not_false → Zo, not_true → Zt, false_and → Zw, not_eq_true → Zz, or_eq_true → Z1, decide_eq_false → Z5, not_eq_false → Z7
open Option renaming getD_some → Qw, map_some → Q6, getD_none → Zr
open Int renaming toNat_natCast → Qv, natCast_nonneg → Q0, natCast_add → Q4, natCast_one → Q5, natCast_zero → Q7, lt_irrefl → Q9, tdiv_eq_ediv_of_nonneg → Zc, tmod_lt_of_pos → Zl, natCast_inj → Xd, tmod_nonneg → Xe
set_option maxRecDepth 8000
namespace Go.C02
open Go.Fam Go.Proofs
def rc16 : RC := (.seq (.reg false [(cX 1 0), (cQ 2 [] (.mv (kB false)))]) (.keep [1] (.seq (.reg true [(cLd 3 1 true 11), (cQ 4 [3] (.call (kF 29) [(.t 3)])), (cN 5 4), (cMv 6 5), (gQ 7 6 true [1] (.ld true 11 (.t 1))), (gQ 8 6 true [7] (.call (kF 36) [(.t 7)])), (gQ 9 6 true [8] (.bin .eql (.t 8) (kI 0))), (cQ 10 [6,9] (.pick (.t 6) (.t 9) (kB false))), (cMv 2 10)]) .ret)))
def pu16 : List Nat := [1]
def rs16 : List RV := [.t 2]
theorem cc16 : CCx Try.prog Try.f16 pu16 rc16 := by unfold CCx; kernel_rfl
theorem cb16 : CBx Try.f16 := by unfold CBx; kernel_rfl
theorem cs16 : CSx Try.prog Try.f16 rs16 := by unfold CSx; kernel_rfl
theorem cn16 : 1 ≤ Try.f16.ntmps := by decide
def rc17 : RC := (.seq (.reg false [(cQ 0 [] (.mv (kB false)))]) (.keep [] (.seq (.reg false [(cQ 10 [] (.call (kF 49) [])), ⟨(some 1), none, [], none, .w (.alc [(.z 4), (.z 1), (.i 0), (.z 2), (.z 1), (.i 0), (.i 0), (.i 0), (.i 0), (.z 1), (.z 1)])⟩, ⟨none, none, [1,10], none, .w (.st 11 (.t 1) (.t 10))⟩]) (.keep [1] (.seq (.reg false [(cLd 12 1 true 11), (cQ 13 [12] (.call (kF 19) [(.t 12)])), (cMv 11 13), (cEx 14 11 0), (cEx 15 11 1), (cMv 2 14), (cMv 3 15)]) (.keep [1,2,3] (.seq (.reg false [(cLd 17 1 true 11), (cQ 18 [17] (.call (kF 22) [(.t 17)])), (cMv 16 18), (cEx 19 16 0), (cEx 20 16 1), (cMv 4 19), (cMv 5 20)]) (.keep [1,2,3,4,5] (.seq (.reg false [(cLd 22 1 true 11), (cQ 23 [22] (.call (kF 26) [(.t 22)])), (cMv 21 23), (cEx 24 21 0), (cEx 25 21 1), (cMv 6 24), (cMv 7 25)]) (.keep [1,2,3,4,5,6,7] (.seq (.reg false [(cFa 26 1 8), ⟨none, none, [26], none, .w (.st 1 (.t 26) (kI 2))⟩]) (.keep [1,2,3,4,5,6,7] (.seq (.reg false [(cLd 28 1 true 11), (cQ 29 [28] (.call (kF 18) [(.t 28)])), (cMv 27 29), (cEx 30 27 0), (cEx 31 27 1), (cMv 8 30), (cMv 9 31)]) (.keep [2,3,4,5,6,7,8,9] (.seq (.reg true [(cMv 32 3), (cC 33 .eql 32 0), (cMv 34 33), (gMv 35 34 true 5), (gQ 36 34 true [35] (.bin .eql (.t 35) (kI 0))), (cQ 37 [34,36] (.pick (.t 34) (.t 36) (kB false))), (cMv 38 37), (gMv 39 38 true 7), (gQ 40 38 true [39] (.bin .eql (.t 39) (kI 0))), (cQ 41 [38,40] (.pick (.t 38) (.t 40) (kB false))), (cMv 42 41), (gMv 43 42 true 9), (gQ 44 42 true [43] (.bin .eql (.t 43) (kI 0))), (cQ 45 [42,44] (.pick (.t 42) (.t 44) (kB false))), (cMv 46 45), (gMv 47 46 true 2), (gQ 48 46 true [] (.bsl 1 2 [(.i 0)] [(0,1, (kI 0)), (1,1, (kI 3))])), (gQ 49 46 true [47,48] (.call (kF 32) [(.t 47), (.t 48)])), (cQ 50 [46,49] (.pick (.t 46) (.t 49) (kB false))), (cMv 51 50), (gMv 52 51 true 4), (gQ 53 51 true [52] (.bin .eql (.t 52) (kI 2))), (cQ 54 [51,53] (.pick (.t 51) (.t 53) (kB false))), (cMv 55 54), (gMv 56 55 true 6), (gQ 57 55 true [56] (.bin .eql (.t 56) (kI 13))), (cQ 58 [55,57] (.pick (.t 55) (.t 57) (kB false))), (cMv 59 58), (gMv 60 59 true 8), (gQ 61 59 true [60] (.bin .eql (.t 60) (kI 12))), (cQ 62 [59,61] (.pick (.t 59) (.t 61) (kB false))), (cMv 0 62)]) .ret)))))))))))))))
def pu17 : List Nat := [48]
def rs17 : List RV := [.t 0]
theorem cc17 : CCx Try.prog Try.f17 pu17 rc17 := by unfold CCx; kernel_rfl
theorem cb17 : CBx Try.f17 := by unfold CBx; kernel_rfl
theorem cs17 : CSx Try.prog Try.f17 rs17 := by unfold CSx; kernel_rfl
theorem cn17 : 0 ≤ Try.f17.ntmps := by decide
def rc18 : RC := (.seq (.reg false [(cX 1 0), (cI 2 0), (cI 3 0)]) (.keep [1,2] (.seq (.crl false [(cLd 8 1 true 11)] ⟨(some 9), none, [8], none, .o (kF 33) [(.t 8)]⟩ [(cMv 7 9), (cEx 10 7 0), (cEx 11 7 1), (cMv 4 10), (cMv 3 11)]) (.keep [2,3,4] (.seq (.seq (.reg false [(cMv 12 4), (cLn 13 12), (cI 14 0)]) (.keep [2,3,12,13,14] (.block 0 (.loop [2,3,12,13,14] none (.seq (.reg false [(cB 15 .lss 14 13)]) (.keep [2,3,12,13,14,15] (.seq (.cond (.t 15) .skip (.exit 0)) (.keep [2,3,12,13,14] (.seq (.block 1 (.seq (.reg false [(cA 16 1 12 14), (cLd 17 16 false 1), (cMv 6 17)]) (.keep [2,3,6,12,13,14] (.reg false [(cMv 18 2), (cMv 19 6), (cB 20 .add 18 19), (cMv 2 20)])))) (.keep [2,3,12,13,14] (.reg false [(cC 21 .add 14 1), (cMv 14 21)]))))))))))) (.keep [2,3] (.seq (.reg false [(cMv 22 2), (cMv 23 3), (cMv 2 22), (cMv 3 23)]) .ret)))))))
def pu18 : List Nat := [1]
def rs18 : List RV := [.t 2, .t 3]
theorem cc18 : CCx Try.prog Try.f18 pu18 rc18 := by unfold CCx; kernel_rfl
theorem cb18 : CBx Try.f18 := by unfold CBx; kernel_rfl
theorem cs18 : CSx Try.prog Try.f18 rs18 := by unfold CSx; kernel_rfl
theorem cn18 : 1 ≤ Try.f18.ntmps := by decide
def rc19 : RC := (.seq (.reg false [(cX 1 0), (cQ 2 [] (.mv (.k (.z 1)))), (cI 3 0)]) (.keep [1] (.seq (.reg false [(cLd 9 1 true 11), (cQ 10 [9] (.call (kF 50) [(.t 9), (kB true)])), (cMv 8 10), (cEx 11 8 0), (cEx 12 8 1), (cMv 4 11), (cMv 5 12)]) (.keep [4,5] (.seq (.seq (.reg false [(cMv 13 5), (cC 14 .neq 13 0)]) (.keep [4,5,14] (.cond (.t 14) (.seq (.reg false [(cMv 15 5), (cQ 2 [] (.mv (.k (.z 1)))), (cMv 3 15)]) .ret) .skip))) (.keep [4] (.seq (.reg false [(cQ 6 [] (.mv (.k (.z 1))))]) (.keep [4,6] (.seq (.seq (.reg false [(cMv 16 4), (cZ 17 16), (cFa 18 17 11), (cLd 19 18 false 1), (cLn 20 19), (cI 21 0)]) (.keep [4,6,20,21] (.block 0 (.own 6 1 (.loop [4,6,20,21] none (.seq (.reg false [(cB 22 .lss 21 20)]) (.keep [4,6,20,21,22] (.seq (.cond (.t 22) .skip (.exit 0)) (.keep [4,6,20,21] (.seq (.block 1 (.seq (.reg false [(cMv 23 21), (cMv 7 23)]) (.keep [4,6,7,20,21] (.seq (.reg false [(cMv 24 4), (cMv 25 7), (cQ 26 [24,25] (.call (kF 51) [(.t 24), (.t 25)])), (cC 27 .neq 26 1)]) (.keep [4,6,7,20,21,27] (.cond (.t 27) (.reg false [(cMv 28 6), (cMv 29 7), (cQ 30 [29] (.bsl 1 1 [(.i 0)] [(0,1, (.t 29))])), ⟨(some 31), none, [28,30], none, .w (.app 1 (.t 28) (.t 30))⟩, (cMv 6 31)]) .skip)))))) (.keep [4,6,20,21] (.reg false [(cC 32 .add 21 1), (cMv 21 32)])))))))))))) (.keep [6] (.seq (.drp 0 (.reg false [(cMv 33 6), (cMv 2 33), (cI 3 0)])) .ret)))))))))))
def pu19 : List Nat := [1,30]
def rs19 : List RV := [.t 2, .t 3]
theorem cc19 : CCx Try.prog Try.f19 pu19 rc19 := by unfold CCx; kernel_rfl
theorem cb19 : CBx Try.f19 := by unfold CBx; kernel_rfl
theorem cs19 : CSx Try.prog Try.f19 rs19 := by unfold CSx; kernel_rfl
theorem cn19 : 1 ≤ Try.f19.ntmps := by decide
def rc20 : RC := (.seq (.reg false [(cX 2 0), (cQ 4 [] (.mv (kB false)))]) (.keep [1,2] (.seq (.seq (.reg false [(cMv 5 1), (cFa 6 2 9), (cLd 7 6 false 1), (cLn 8 7), (cFa 9 2 6), (cLd 10 9 false 1), (cC 11 .sub 10 1), (cQ 12 [5,8,11] (.call (kF 52) [(.t 5), (.t 8), (kI 0), (.t 11)])), (cN 13 12)]) (.keep [1,2,13] (.cond (.t 13) (.seq (.reg false [(cQ 4 [] (.mv (kB false)))]) .ret) .skip))) (.keep [1,2] (.seq (.any false 0 [⟨(cLd 14 2 true 11), [], []⟩, ⟨(cLd 15 2 true 11), [], []⟩, ⟨(cQ 16 [15] (.call (kF 54) [(.t 15)])), [], [1]⟩, ⟨(cMv 17 1), [], []⟩, ⟨(cQ 18 [14,16,17] (.call (kF 53) [(.t 14), (.t 16), (.t 17)])), [], [0,2,1,3]⟩, ⟨(cMv 4 18), [], [4,0,2,1,3]⟩]) .ret)))))
def pu20 : List Nat := [2]
def rs20 : List RV := [.t 4]
theorem cc20 : CCx Try.prog Try.f20 pu20 rc20 := by unfold CCx; kernel_rfl
theorem cb20 : CBx Try.f20 := by unfold CBx; kernel_rfl
theorem cs20 : CSx Try.prog Try.f20 rs20 := by unfold CSx; kernel_rfl
theorem cn20 : 2 ≤ Try.f20.ntmps := by decide
def rc21 : RC := (.seq (.reg false [(cX 1 0), ⟨(some 2), none, [], none, .w (.alc [(.z 4), (.z 1), (.i 0), (.z 2), (.z 1), (.i 0), (.i 0), (.i 0), (.i 0), (.z 1), (.z 1)])⟩]) (.keep [1,2] (.seq (.reg false [(cLd 4 1 true 11), ⟨(some 3), none, [], none, .w (.alc [(.z 4), (.z 1), (.i 0), (.z 2), (.z 1), (.i 0), (.i 0), (.i 0), (.i 0), (.z 1), (.z 1)])⟩, ⟨none, none, [3,4], none, .w (.st 11 (.t 3) (.t 4))⟩]) (.keep [1,2,3] (.seq (.reg false [(cFa 5 1 0), (cLd 6 5 true 6), (cQ 7 [6] (.call (kF 55) [(.t 6)])), (cFa 8 3 0), ⟨none, none, [8,7], none, .w (.st 6 (.t 8) (.t 7))⟩]) (.keep [1,2,3] (.seq (.any false 4 [⟨⟨(some 9), none, [], (some 0), .w (.bso 1 0 [(.i 0)] [])⟩, [], []⟩, ⟨(cFa 10 1 9), [0], []⟩, ⟨(cLd 11 10 false 1), [0], [1]⟩, ⟨⟨(some 12), none, [9,11], (some 1), .w (.app 1 (.t 9) (.t 11))⟩, [], [0,2,1]⟩, ⟨⟨(some 13), none, [], (some 2), .w (.bso 1 0 [(.i 0)] [])⟩, [0,1,2,3], []⟩, ⟨(cFa 14 1 10), [0,3,4], []⟩, ⟨(cLd 15 14 false 1), [0,3,4], [5]⟩, ⟨⟨(some 16), none, [13,15], (some 3), .w (.app 1 (.t 13) (.t 15))⟩, [], [4,6,5,3,0,2,1]⟩, ⟨(cFa 17 3 9), [4,7], [0,1,2,3]⟩, ⟨⟨none, none, [17,12], none, .w (.st 1 (.t 17) (.t 12))⟩, [], [8,0,1,2,3,7,4,6,5]⟩, ⟨(cFa 18 3 10), [], [0,1,2,3,4,5,6,7,8,9]⟩, ⟨⟨none, none, [18,16], none, .w (.st 1 (.t 18) (.t 16))⟩, [], [10,0,1,2,3,4,5,6,7,8,9]⟩]) (.keep [2,3] (.seq (.reg false [(cLd 19 3 true 11), ⟨none, none, [2,19], none, .w (.st 11 (.t 2) (.t 19))⟩]) .ret)))))))))
def pu21 : List Nat := [1]
def rs21 : List RV := [.c 2 true 11]
theorem cc21 : CCx Try.prog Try.f21 pu21 rc21 := by unfold CCx; kernel_rfl
theorem cb21 : CBx Try.f21 := by unfold CBx; kernel_rfl
theorem cs21 : CSx Try.prog Try.f21 rs21 := by unfold CSx; kernel_rfl
theorem cn21 : 1 ≤ Try.f21.ntmps := by decide
def rc22 : RC := (.seq (.reg false [(cX 1 0), (cI 2 0), (cI 3 0)]) (.keep [1] (.seq (.reg false [(cLd 8 1 true 11), (cQ 9 [8] (.call (kF 50) [(.t 8), (kB true)])), (cMv 7 9), (cEx 10 7 0), (cEx 11 7 1), (cMv 4 10), (cMv 5 11)]) (.keep [4,5] (.seq (.seq (.reg false [(cMv 12 5), (cC 13 .neq 12 0)]) (.keep [4,5,13] (.cond (.t 13) (.seq (.reg false [(cMv 14 5), (cI 2 0), (cMv 3 14)]) .ret) .skip))) (.keep [4] (.seq (.reg false [(cI 6 0)]) (.keep [4,6] (.seq (.block 0 (.loop [4,6] none (.seq (.seq (.reg false [(cMv 15 4), (cMv 16 6), (cQ 17 [15,16] (.call (kF 56) [(.t 15), (.t 16)])), (cN 18 17)]) (.keep [4,6,18] (.cond (.t 18) .skip (.exit 0)))) (.keep [4,6] (.block 1 (.reg false [(cMv 19 6), (cC 20 .add 19 1), (cMv 6 20)])))))) (.keep [6] (.seq (.reg false [(cMv 21 6), (cMv 2 21), (cI 3 0)]) .ret)))))))))))
def pu22 : List Nat := [1]
def rs22 : List RV := [.t 2, .t 3]
theorem cc22 : CCx Try.prog Try.f22 pu22 rc22 := by unfold CCx; kernel_rfl
theorem cb22 : CBx Try.f22 := by unfold CBx; kernel_rfl
theorem cs22 : CSx Try.prog Try.f22 rs22 := by unfold CSx; kernel_rfl
theorem cn22 : 1 ≤ Try.f22.ntmps := by decide
def rc23 : RC := (.seq (.reg false [(cQ 4 [] (.mv (kB false)))]) (.keep [0,1] (.seq (.seq (.reg false [(cI 5 0)]) (.keep [0,1,5] (.block 0 (.loop [0,1,5] none (.seq (.seq (.reg false [(cMv 6 5), (cMv 7 0), (cLn 8 7), (cB 9 .lss 6 8)]) (.keep [0,1,5,9] (.cond (.t 9) .skip (.exit 0)))) (.keep [0,1,5] (.seq (.block 1 (.seq (.reg false [(cMv 12 0), (cMv 13 5), (cA 14 1 12 13), (cLd 15 14 false 1), (cMv 16 1), (cB 17 .eql 15 16)]) (.keep [0,1,5,17] (.cond (.t 17) (.seq (.reg false [(cQ 4 [] (.mv (kB true)))]) .ret) .skip)))) (.keep [0,1,5] (.reg false [(cMv 10 5), (cC 11 .add 10 1), (cMv 5 11)]))))))))) (.keep [] (.seq (.reg false [(cQ 4 [] (.mv (kB false)))]) .ret)))))
def pu23 : List Nat := []
def rs23 : List RV := [.t 4]
theorem cc23 : CCx Try.prog Try.f23 pu23 rc23 := by unfold CCx; kernel_rfl
theorem cb23 : CBx Try.f23 := by unfold CBx; kernel_rfl
theorem cs23 : CSx Try.prog Try.f23 rs23 := by unfold CSx; kernel_rfl
theorem cn23 : 2 ≤ Try.f23.ntmps := by decide
def rc24 : RC := (.seq (.reg false [(cX 1 0), (cQ 2 [] (.mv (kB false)))]) (.keep [1] (.seq (.reg true [(cFa 3 1 0), (cLd 4 3 true 6), (cQ 5 [4] (.call (kF 57) [(.t 4)])), (cMv 6 5), (gQ 7 6 false [1] (.fad 9 (.t 1))), (gQ 8 6 false [7] (.ld false 1 (.t 7))), (gQ 9 6 false [8] (.len (.t 8))), (gQ 10 6 false [9] (.bin .gtr (.t 9) (kI 60))), (cQ 11 [6,10] (.pick (.t 6) (kB true) (.t 10))), (cMv 12 11), (gQ 13 12 false [1] (.fad 10 (.t 1))), (gQ 14 12 false [13] (.ld false 1 (.t 13))), (gQ 15 12 false [14] (.len (.t 14))), (gQ 16 12 false [15] (.bin .gtr (.t 15) (kI 60))), (cQ 17 [12,16] (.pick (.t 12) (kB true) (.t 16))), (cMv 2 17)]) .ret)))
def pu24 : List Nat := [1]
def rs24 : List RV := [.t 2]
theorem cc24 : CCx Try.prog Try.f24 pu24 rc24 := by unfold CCx; kernel_rfl
theorem cb24 : CBx Try.f24 := by unfold CBx; kernel_rfl
theorem cs24 : CSx Try.prog Try.f24 rs24 := by unfold CSx; kernel_rfl
theorem cn24 : 1 ≤ Try.f24.ntmps := by decide
def rc25 : RC := (.seq (.reg false [(cX 1 0), (cI 2 0)]) (.keep [1] (.seq (.seq (.reg false [(cFa 5 1 0), (cLd 6 5 true 6), (cQ 7 [6] (.call (kF 58) [(.t 6)])), (cMv 3 7)]) (.keep [1,3] (.seq (.reg false [(cMv 8 3), (cC 9 .neq 8 0)]) (.keep [1,3,9] (.cond (.t 9) (.seq (.reg false [(cMv 10 3), (cMv 2 10)]) .ret) .skip))))) (.keep [1] (.seq (.reg false [(cFa 11 1 0), (cFa 12 11 1), (cLd 13 12 false 1), (cLn 14 13), (cMv 4 14)]) (.keep [1,4] (.seq (.seq (.reg true [(cFa 15 1 6), (cLd 16 15 false 1), (cC 17 .lss 16 1), (cMv 18 17), (gQ 19 18 false [1] (.fad 6 (.t 1))), (gQ 20 18 false [19] (.ld false 1 (.t 19))), (gQ 21 18 false [20] (.bin .gtr (.t 20) (kI 60))), (cQ 22 [18,21] (.pick (.t 18) (kB true) (.t 21))), (cMv 23 22), (gQ 24 23 false [1] (.fad 7 (.t 1))), (gQ 25 23 false [24] (.ld false 1 (.t 24))), (gQ 26 23 false [25] (.bin .lss (.t 25) (kI 0))), (cQ 27 [23,26] (.pick (.t 23) (kB true) (.t 26))), (cMv 28 27), (gQ 29 28 false [1] (.fad 7 (.t 1))), (gQ 30 28 false [29] (.ld false 1 (.t 29))), (gQ 31 28 false [30] (.bin .gtr (.t 30) (kI 2000))), (cQ 32 [28,31] (.pick (.t 28) (kB true) (.t 31))), (cMv 33 32), (gQ 34 33 false [1] (.fad 8 (.t 1))), (gQ 35 33 false [34] (.ld false 1 (.t 34))), (gQ 36 33 false [35] (.bin .lss (.t 35) (kI 0))), (cQ 37 [33,36] (.pick (.t 33) (kB true) (.t 36))), (cMv 38 37), (gQ 39 38 false [1] (.fad 8 (.t 1))), (gQ 40 38 false [39] (.ld false 1 (.t 39))), (gQ 41 38 false [1] (.fad 6 (.t 1))), (gQ 42 38 false [41] (.ld false 1 (.t 41))), (gQ 43 38 false [42] (.bin .quo (.t 42) (kI 2))), (gQ 44 38 false [40,43] (.bin .gtr (.t 40) (.t 43))), (cQ 45 [38,44] (.pick (.t 38) (kB true) (.t 44))), (cMv 46 45), (gQ 47 46 false [1] (.fad 9 (.t 1))), (gQ 48 46 false [47] (.ld false 1 (.t 47))), (gMv 49 46 false 4), (gQ 50 46 false [1] (.fad 6 (.t 1))), (gQ 51 46 false [50] (.ld false 1 (.t 50))), (gQ 52 46 false [51] (.bin .sub (.t 51) (kI 1))), (gQ 53 46 false [48,49,52] (.call (kF 52) [(.t 48), (.t 49), (kI 0), (.t 52)])), (gQ 54 46 false [53] (.not (.t 53))), (cQ 55 [46,54] (.pick (.t 46) (kB true) (.t 54))), (cMv 56 55), (gQ 57 56 false [1] (.fad 10 (.t 1))), (gQ 58 56 false [57] (.ld false 1 (.t 57))), (gMv 59 56 false 4), (gQ 60 56 false [58,59] (.call (kF 52) [(.t 58), (.t 59), (kI 1), (kI 99)])), (gQ 61 56 false [60] (.not (.t 60))), (cQ 62 [56,61] (.pick (.t 56) (kB true) (.t 61)))]) (.keep [62] (.cond (.t 62) (.seq (.reg false [(cI 2 40)]) .ret) .skip))) (.keep [] (.seq (.reg false [(cI 2 0)]) .ret)))))))))
def pu25 : List Nat := [1]
def rs25 : List RV := [.t 2]
theorem cc25 : CCx Try.prog Try.f25 pu25 rc25 := by unfold CCx; kernel_rfl
theorem cb25 : CBx Try.f25 := by unfold CBx; kernel_rfl
theorem cs25 : CSx Try.prog Try.f25 rs25 := by unfold CSx; kernel_rfl
theorem cn25 : 1 ≤ Try.f25.ntmps := by decide
def rc26 : RC := (.seq (.reg false [(cX 1 0), (cI 2 0), (cI 3 0)]) (.keep [1] (.seq (.reg false [(cLd 9 1 true 11), (cQ 10 [9] (.call (kF 35) [(.t 9)])), (cMv 8 10), (cEx 11 8 0), (cEx 12 8 1), (cMv 4 11), (cMv 5 12)]) (.keep [1,4,5] (.seq (.seq (.reg false [(cMv 13 5), (cC 14 .neq 13 0)]) (.keep [1,4,5,14] (.cond (.t 14) (.seq (.reg false [(cMv 15 5), (cI 2 0), (cMv 3 15)]) .ret) .skip))) (.keep [1,4] (.seq (.seq (.reg false [(cFa 16 1 10), (cLd 17 16 false 1), (cLn 18 17), (cI 19 0)]) (.keep [4,17,18,19] (.block 0 (.loop [4,17,18,19] none (.seq (.reg false [(cB 20 .lss 19 18)]) (.keep [4,17,18,19,20] (.seq (.cond (.t 20) .skip (.exit 0)) (.keep [4,17,18,19] (.seq (.block 1 (.seq (.reg false [(cMv 21 19), (cA 22 1 17 19), (cLd 23 22 false 1), (cMv 6 21), (cMv 7 23)]) (.keep [4,6,7,17,18,19] (.reg false [(cMv 24 4), (cMv 25 6), (cA 26 1 24 25), (cLd 27 26 false 1), (cMv 28 7), (cB 29 .add 27 28), (cA 30 1 24 25), ⟨none, none, [30,29], none, .w (.st 1 (.t 30) (.t 29))⟩])))) (.keep [4,17,18,19] (.reg false [(cC 31 .add 19 1), (cMv 19 31)]))))))))))) (.keep [4] (.seq (.reg false [(cMv 32 4), (cQ 33 [32] (.call (kF 59) [(.t 32)])), (cMv 2 33), (cI 3 0)]) .ret)))))))))
def pu26 : List Nat := [1]
def rs26 : List RV := [.t 2, .t 3]
theorem cc26 : CCx Try.prog Try.f26 pu26 rc26 := by unfold CCx; kernel_rfl
theorem cb26 : CBx Try.f26 := by unfold CBx; kernel_rfl
theorem cs26 : CSx Try.prog Try.f26 rs26 := by unfold CSx; kernel_rfl
theorem cn26 : 1 ≤ Try.f26.ntmps := by decide
def rc27 : RC := (.seq (.reg false [(cX 2 0), (cQ 4 [] (.mv (kB false)))]) (.keep [1,2] (.seq (.seq (.reg false [(cMv 10 1), (cFa 11 2 10), (cLd 12 11 false 1), (cLn 13 12), (cQ 14 [10,13] (.call (kF 52) [(.t 10), (.t 13), (kI 0), (kI 1000000)])), (cN 15 14)]) (.keep [1,2,15] (.cond (.t 15) (.seq (.reg false [(cQ 4 [] (.mv (kB false)))]) .ret) .skip))) (.keep [1,2] (.seq (.seq (.reg false [(cI 5 0)]) (.keep [1,2,5] (.block 0 (.loop [1,2,5] none (.seq (.seq (.reg false [(cMv 16 5), (cMv 17 1), (cLn 18 17), (cB 19 .lss 16 18)]) (.keep [1,2,5,19] (.cond (.t 19) .skip (.exit 0)))) (.keep [1,2,5] (.seq (.block 1 (.seq (.reg false [(cI 6 0)]) (.keep [1,2,5,6] (.block 2 (.loop [1,2,5,6] none (.seq (.seq (.reg false [(cMv 22 6), (cMv 23 5), (cB 24 .lss 22 23)]) (.keep [1,2,5,6,24] (.cond (.t 24) .skip (.exit 2)))) (.keep [1,2,5,6] (.seq (.block 3 (.seq (.seq (.any true 0 [⟨(cMv 27 1), [], []⟩, ⟨(cMv 28 5), [], []⟩, ⟨(cA 29 1 27 28), [], [0,1]⟩, ⟨(cLd 30 29 false 1), [], [2,0,1]⟩, ⟨(cMv 31 1), [], []⟩, ⟨(cMv 32 6), [], []⟩, ⟨(cA 33 1 31 32), [], [4,5]⟩, ⟨(cLd 34 33 false 1), [], [6,4,5]⟩, ⟨(cFa 35 2 10), [], []⟩, ⟨(cLd 36 35 false 1), [], [8]⟩, ⟨(cMv 37 6), [], []⟩, ⟨(cA 38 1 36 37), [], [9,8,10]⟩, ⟨(cLd 39 38 false 1), [], [11,9,8,10]⟩, ⟨(cB 40 .add 34 39), [], [7,6,4,5,12,11,9,8,10]⟩, ⟨(cB 41 .geq 30 40), [], [3,2,0,1,13,7,6,4,5,12,11,9,8,10]⟩, ⟨(cMv 42 41), [], [14,3,2,0,1,13,7,6,4,5,12,11,9,8,10]⟩, ⟨(gMv 43 42 false 1), [], [15,14,3,2,0,1,13,7,6,4,5,12,11,9,8,10]⟩, ⟨(gMv 44 42 false 6), [], [15,14,3,2,0,1,13,7,6,4,5,12,11,9,8,10]⟩, ⟨(gQ 45 42 false [43,44] (.iad 1 (.t 43) (.t 44))), [], [16,15,14,3,2,0,1,13,7,6,4,5,12,11,9,8,10,17]⟩, ⟨(gQ 46 42 false [45] (.ld false 1 (.t 45))), [], [18,16,15,14,3,2,0,1,13,7,6,4,5,12,11,9,8,10,17]⟩, ⟨(gMv 47 42 false 1), [], [15,14,3,2,0,1,13,7,6,4,5,12,11,9,8,10]⟩, ⟨(gMv 48 42 false 5), [], [15,14,3,2,0,1,13,7,6,4,5,12,11,9,8,10]⟩, ⟨(gQ 49 42 false [47,48] (.iad 1 (.t 47) (.t 48))), [], [20,15,14,3,2,0,1,13,7,6,4,5,12,11,9,8,10,21]⟩, ⟨(gQ 50 42 false [49] (.ld false 1 (.t 49))), [], [22,20,15,14,3,2,0,1,13,7,6,4,5,12,11,9,8,10,21]⟩, ⟨(gQ 51 42 false [2] (.fad 10 (.t 2))), [], [15,14,3,2,0,1,13,7,6,4,5,12,11,9,8,10]⟩, ⟨(gQ 52 42 false [51] (.ld false 1 (.t 51))), [], [24,15,14,3,2,0,1,13,7,6,4,5,12,11,9,8,10]⟩, ⟨(gMv 53 42 false 5), [], [15,14,3,2,0,1,13,7,6,4,5,12,11,9,8,10]⟩, ⟨(gQ 54 42 false [52,53] (.iad 1 (.t 52) (.t 53))), [], [25,24,15,14,3,2,0,1,13,7,6,4,5,12,11,9,8,10,26]⟩, ⟨(gQ 55 42 false [54] (.ld false 1 (.t 54))), [], [27,25,24,15,14,3,2,0,1,13,7,6,4,5,12,11,9,8,10,26]⟩, ⟨(gQ 56 42 false [50,55] (.bin .add (.t 50) (.t 55))), [], [23,22,20,15,14,3,2,0,1,13,7,6,4,5,12,11,9,8,10,21,28,27,25,24,26]⟩, ⟨(gQ 57 42 false [46,56] (.bin .geq (.t 46) (.t 56))), [], [19,18,16,15,14,3,2,0,1,13,7,6,4,5,12,11,9,8,10,17,29,23,22,20,21,28,27,25,24,26]⟩, ⟨(cQ 58 [42,57] (.pick (.t 42) (kB true) (.t 57))), [], [15,14,3,2,0,1,13,7,6,4,5,12,11,9,8,10,30,19,18,16,17,29,23,22,20,21,28,27,25,24,26]⟩]) (.keep [1,2,5,6,58] (.cond (.t 58) (.exit 3) .skip))) (.keep [1,2,5,6] (.seq (.any false 0 [⟨(cLd 59 2 true 11), [], []⟩, ⟨(cMv 60 1), [], []⟩, ⟨(cMv 61 5), [], []⟩, ⟨(cQ 62 [59,60,61] (.call (kF 60) [(.t 59), (.t 60), (.t 61)])), [], [0,1,2]⟩, ⟨(cLd 63 2 true 11), [], []⟩, ⟨(cMv 64 1), [], []⟩, ⟨(cMv 65 6), [], []⟩, ⟨(cQ 66 [63,64,65] (.call (kF 60) [(.t 63), (.t 64), (.t 65)])), [], [4,5,6,3,0,1,2]⟩, ⟨(cMv 7 62), [], [3,0,1,2,7,4,5,6]⟩, ⟨(cMv 8 66), [], [7,4,5,6,3,0,1,2,8]⟩]) (.keep [1,2,5,6,7,8] (.seq (.reg false [(cI 9 0)]) (.keep [1,2,5,6,7,8,9] (.block 4 (.loop [1,2,5,6,7,8,9] none (.seq (.seq (.reg false [(cMv 67 9), (cMv 68 1), (cLn 69 68), (cB 70 .lss 67 69)]) (.keep [1,2,5,6,7,8,9,70] (.cond (.t 70) .skip (.exit 4)))) (.keep [1,2,5,6,7,8,9] (.seq (.block 5 (.seq (.reg true [(cMv 73 7), (cMv 74 9), (cA 75 1 73 74), (cLd 76 75 false 1), (cMv 77 76), (gMv 78 77 true 8), (gMv 79 77 true 9), (gQ 80 77 true [78,79] (.iad 1 (.t 78) (.t 79))), (gQ 81 77 true [80] (.ld false 1 (.t 80))), (cQ 82 [77,81] (.pick (.t 77) (.t 81) (kB false)))]) (.keep [1,2,5,6,7,8,9,82] (.cond (.t 82) (.seq (.reg false [(cQ 4 [] (.mv (kB false)))]) .ret) .skip)))) (.keep [1,2,5,6,7,8,9] (.reg false [(cMv 71 9), (cC 72 .add 71 1), (cMv 9 72)])))))))))))))) (.keep [1,2,5,6] (.reg false [(cMv 25 6), (cC 26 .add 25 1), (cMv 6 26)])))))))))) (.keep [1,2,5] (.reg false [(cMv 20 5), (cC 21 .add 20 1), (cMv 5 21)]))))))))) (.keep [] (.seq (.reg false [(cQ 4 [] (.mv (kB true)))]) .ret)))))))
def pu27 : List Nat := [2]
def rs27 : List RV := [.t 4]
theorem cc27 : CCx Try.prog Try.f27 pu27 rc27 := by unfold CCx; kernel_rfl
theorem cb27 : CBx Try.f27 := by unfold CBx; kernel_rfl
theorem cs27 : CSx Try.prog Try.f27 rs27 := by unfold CSx; kernel_rfl
theorem cn27 : 2 ≤ Try.f27.ntmps := by decide
def rc28 : RC := (.seq (.reg false [(cX 2 0), (cI 4 0)]) (.keep [1,2] (.seq (.reg false [(cI 5 0)]) (.keep [1,2,5] (.seq (.seq (.reg false [(cI 6 0)]) (.keep [1,2,5,6] (.block 0 (.loop [1,2,5,6] none (.seq (.seq (.reg false [(cMv 7 6), (cMv 8 1), (cLn 9 8), (cB 10 .lss 7 9)]) (.keep [1,2,5,6,10] (.cond (.t 10) .skip (.exit 0)))) (.keep [1,2,5,6] (.seq (.block 1 (.any false 0 [⟨(cMv 13 5), [], []⟩, ⟨(cMv 14 1), [], []⟩, ⟨(cMv 15 6), [], []⟩, ⟨(cA 16 1 14 15), [], [1,2]⟩, ⟨(cLd 17 16 false 1), [], [3,1,2]⟩, ⟨(cFa 18 2 10), [], []⟩, ⟨(cLd 19 18 false 1), [], [5]⟩, ⟨(cMv 20 6), [], []⟩, ⟨(cA 21 1 19 20), [], [6,5,7]⟩, ⟨(cLd 22 21 false 1), [], [8,6,5,7]⟩, ⟨(cB 23 .add 17 22), [], [4,3,1,2,9,8,6,5,7]⟩, ⟨(cQ 24 [13,23] (.mx (.t 13) (.t 23))), [], [0,10,4,3,1,2,9,8,6,5,7]⟩, ⟨(cMv 5 24), [], [11,0,10,4,3,1,2,9,8,6,5,7]⟩])) (.keep [1,2,5,6] (.reg false [(cMv 11 6), (cC 12 .add 11 1), (cMv 6 12)]))))))))) (.keep [5] (.seq (.reg false [(cMv 25 5), (cMv 4 25)]) .ret)))))))
def pu28 : List Nat := [2]
def rs28 : List RV := [.t 4]
theorem cc28 : CCx Try.prog Try.f28 pu28 rc28 := by unfold CCx; kernel_rfl
theorem cb28 : CBx Try.f28 := by unfold CBx; kernel_rfl
theorem cs28 : CSx Try.prog Try.f28 rs28 := by unfold CSx; kernel_rfl
theorem cn28 : 2 ≤ Try.f28.ntmps := by decide
def rc29 : RC := (.seq (.reg false [(cX 1 0), (cQ 2 [] (.mv (kB false)))]) (.keep [1] (.seq (.reg true [(cLd 3 1 true 11), (cQ 4 [3] (.call (kF 24) [(.t 3)])), (cMv 5 4), (gQ 6 5 false [1] (.ld true 11 (.t 1))), (gQ 7 5 false [6] (.call (kF 25) [(.t 6)])), (gQ 8 5 false [7] (.bin .eql (.t 7) (kI 0))), (gMv 9 5 false 8), (gQ 10 9 true [1] (.fad 9 (.t 1))), (gQ 11 9 true [10] (.ld false 1 (.t 10))), (gQ 12 9 true [11] (.len (.t 11))), (gQ 13 9 true [12] (.bin .gtr (.t 12) (kI 5))), (gMv 14 9 true 13), (gQ 15 14 false [1] (.fad 6 (.t 1))), (gQ 16 14 false [15] (.ld false 1 (.t 15))), (gQ 17 14 false [16] (.bin .gtr (.t 16) (kI 8))), (gQ 18 9 true [14,17] (.pick (.t 14) (kB true) (.t 17))), (gQ 19 5 false [9,18] (.pick (.t 9) (.t 18) (kB false))), (cQ 20 [5,19] (.pick (.t 5) (kB true) (.t 19))), (cMv 2 20)]) .ret)))
def pu29 : List Nat := [1]
def rs29 : List RV := [.t 2]
theorem cc29 : CCx Try.prog Try.f29 pu29 rc29 := by unfold CCx; kernel_rfl
theorem cb29 : CBx Try.f29 := by unfold CBx; kernel_rfl
theorem cs29 : CSx Try.prog Try.f29 rs29 := by unfold CSx; kernel_rfl
theorem cn29 : 1 ≤ Try.f29.ntmps := by decide
def rc30 : RC := (.seq (.reg false [(cX 1 0), (cI 2 0), (cI 3 0)]) (.keep [1] (.seq (.seq (.reg false [(cLd 6 1 true 11), (cQ 7 [6] (.call (kF 61) [(.t 6), (kI 0)])), (cMv 4 7)]) (.keep [1,4] (.seq (.reg false [(cMv 8 4), (cC 9 .neq 8 0)]) (.keep [1,4,9] (.cond (.t 9) (.seq (.reg false [(cMv 10 4), (cI 2 0), (cMv 3 10)]) .ret) .skip))))) (.keep [1] (.seq (.any false 0 [⟨(cLd 11 1 true 11), [], []⟩, ⟨(cLd 12 1 true 11), [], []⟩, ⟨(cQ 13 [12] (.call (kF 54) [(.t 12)])), [], [1]⟩, ⟨(cQ 14 [11,13] (.call (kF 62) [(.t 11), (.t 13), (.k (.z 1))])), [], [0,2,1]⟩, ⟨(cMv 5 14), [], [3,0,2,1]⟩]) (.keep [5] (.seq (.seq (.reg false [(cMv 15 5), (cC 16 .lss 15 0)]) (.keep [5,16] (.cond (.t 16) (.seq (.reg false [(cI 2 0), (cI 3 3)]) .ret) .skip))) (.keep [5] (.seq (.reg false [(cMv 17 5), (cMv 2 17), (cI 3 0)]) .ret)))))))))
def pu30 : List Nat := [1]
def rs30 : List RV := [.t 2, .t 3]
theorem cc30 : CCx Try.prog Try.f30 pu30 rc30 := by unfold CCx; kernel_rfl
theorem cb30 : CBx Try.f30 := by unfold CBx; kernel_rfl
theorem cs30 : CSx Try.prog Try.f30 rs30 := by unfold CSx; kernel_rfl
theorem cn30 : 1 ≤ Try.f30.ntmps := by decide
def rc31 : RC := (.seq (.reg false [⟨(some 1), none, [0], none, .w (.bxo (.t 0))⟩, (cI 2 0), (cI 3 0)]) (.keep [1] (.seq (.seq (.reg false [(cLd 5 1 true 11), (cQ 6 [5] (.call (kF 61) [(.t 5), (kI 0)])), (cMv 4 6)]) (.keep [1,4] (.seq (.reg false [(cMv 7 4), (cC 8 .neq 7 0)]) (.keep [1,4,8] (.cond (.t 8) (.seq (.reg false [(cMv 9 4), (cI 2 0), (cMv 3 9)]) .ret) .skip))))) (.keep [1] (.seq (.reg false [(cFa 10 1 8), ⟨none, none, [10], none, .w (.st 1 (.t 10) (kI 0))⟩]) (.keep [1] (.seq (.block 0 (.loop [1] none (.seq (.seq (.any false 0 [⟨(cLd 11 1 true 11), [], []⟩, ⟨(cLd 12 1 true 11), [], []⟩, ⟨(cQ 13 [12] (.call (kF 54) [(.t 12)])), [], [1]⟩, ⟨(cQ 14 [11,13] (.call (kF 62) [(.t 11), (.t 13), (.k (.z 1))])), [], [0,2,1]⟩, ⟨(cC 15 .lss 14 0), [], [3,0,2,1]⟩]) (.keep [1,15] (.cond (.t 15) .skip (.exit 0)))) (.keep [1] (.block 1 (.reg false [(cFa 16 1 8), (cLd 17 16 false 1), (cC 18 .add 17 1), (cFa 19 1 8), ⟨none, none, [19,18], none, .w (.st 1 (.t 19) (.t 18))⟩])))))) (.keep [1] (.seq (.reg false [(cFa 20 1 8), (cLd 21 20 false 1), (cMv 2 21), (cI 3 0)]) .ret)))))))))
def pu31 : List Nat := []
def rs31 : List RV := [.t 2, .t 3]
theorem cc31 : CCx Try.prog Try.f31 pu31 rc31 := by unfold CCx; kernel_rfl
theorem cb31 : CBx Try.f31 := by unfold CBx; kernel_rfl
theorem cs31 : CSx Try.prog Try.f31 rs31 := by unfold CSx; kernel_rfl
theorem cn31 : 1 ≤ Try.f31.ntmps := by decide
def rc32 : RC := (.seq (.reg false [(cQ 4 [] (.mv (kB false)))]) (.keep [0,1] (.seq (.seq (.reg false [(cMv 6 0), (cLn 7 6), (cMv 8 1), (cLn 9 8), (cB 10 .neq 7 9)]) (.keep [0,1,10] (.cond (.t 10) (.seq (.reg false [(cQ 4 [] (.mv (kB false)))]) .ret) .skip))) (.keep [0,1] (.seq (.seq (.reg false [(cI 5 0)]) (.keep [0,1,5] (.block 0 (.loop [0,1,5] none (.seq (.seq (.reg false [(cMv 11 5), (cMv 12 0), (cLn 13 12), (cB 14 .lss 11 13)]) (.keep [0,1,5,14] (.cond (.t 14) .skip (.exit 0)))) (.keep [0,1,5] (.seq (.block 1 (.seq (.any false 0 [⟨(cMv 17 0), [], []⟩, ⟨(cMv 18 5), [], []⟩, ⟨(cA 19 1 17 18), [], [0,1]⟩, ⟨(cLd 20 19 false 1), [], [2,0,1]⟩, ⟨(cMv 21 1), [], []⟩, ⟨(cMv 22 5), [], []⟩, ⟨(cA 23 1 21 22), [], [4,5]⟩, ⟨(cLd 24 23 false 1), [], [6,4,5]⟩, ⟨(cB 25 .neq 20 24), [], [3,2,0,1,7,6,4,5]⟩]) (.keep [0,1,5,25] (.cond (.t 25) (.seq (.reg false [(cQ 4 [] (.mv (kB false)))]) .ret) .skip)))) (.keep [0,1,5] (.reg false [(cMv 15 5), (cC 16 .add 15 1), (cMv 5 16)]))))))))) (.keep [] (.seq (.reg false [(cQ 4 [] (.mv (kB true)))]) .ret)))))))
def pu32 : List Nat := []
def rs32 : List RV := [.t 4]
theorem cc32 : CCx Try.prog Try.f32 pu32 rc32 := by unfold CCx; kernel_rfl
theorem cb32 : CBx Try.f32 := by unfold CBx; kernel_rfl
theorem cs32 : CSx Try.prog Try.f32 rs32 := by unfold CSx; kernel_rfl
theorem cn32 : 2 ≤ Try.f32.ntmps := by decide
def rc33 : RC := (.seq (.reg false [(cX 1 0), (cQ 2 [] (.mv (.k (.z 1)))), (cI 3 0)]) (.keep [1] (.seq (.reg false [(cLd 9 1 true 11), (cQ 10 [9] (.call (kF 50) [(.t 9), (kB true)])), (cMv 8 10), (cEx 11 8 0), (cEx 12 8 1), (cMv 4 11), (cMv 5 12)]) (.keep [1,4,5] (.seq (.seq (.reg false [(cMv 13 5), (cC 14 .neq 13 0)]) (.keep [1,4,5,14] (.cond (.t 14) (.seq (.reg false [(cMv 15 5), (cQ 2 [] (.mv (.k (.z 1)))), (cMv 3 15)]) .ret) .skip))) (.keep [1,4] (.seq (.crl false [(cMv 17 4), (cFa 18 1 8), (cLd 19 18 false 1)] ⟨(some 20), none, [17,19], none, .o (kF 63) [(.t 17), (.t 19)]⟩ [(cMv 16 20), (cEx 21 16 0), (cEx 22 16 1), ⟨(some 6), none, [], none, .w (.alc [(.z 1), (.i 0)])⟩, ⟨none, none, [6,21], none, .w (.st 2 (.t 6) (.t 21))⟩, (cMv 7 22)]) (.keep [6,7] (.seq (.seq (.reg false [(cMv 23 7), (cN 24 23)]) (.keep [6,24] (.cond (.t 24) (.seq (.reg false [(cQ 2 [] (.mv (.k (.z 1)))), (cI 3 3)]) .ret) .skip))) (.keep [6] (.seq (.reg false [(cFa 25 6 0), (cLd 26 25 false 1), (cMv 2 26), (cI 3 0)]) .ret)))))))))))
def pu33 : List Nat := [1]
def rs33 : List RV := [.t 2, .t 3]
theorem cc33 : CCx Try.prog Try.f33 pu33 rc33 := by unfold CCx; kernel_rfl
theorem cb33 : CBx Try.f33 := by unfold CBx; kernel_rfl
theorem cs33 : CSx Try.prog Try.f33 rs33 := by unfold CSx; kernel_rfl
theorem cn33 : 1 ≤ Try.f33.ntmps := by decide
def rc34 : RC := (.seq (.reg false [(cX 1 0), (cI 2 0), (cI 3 0)]) (.keep [1] (.seq (.seq (.reg false [(cLd 8 1 true 11), (cQ 9 [8] (.call (kF 25) [(.t 8)])), (cMv 4 9)]) (.keep [1,4] (.seq (.reg false [(cMv 10 4), (cC 11 .neq 10 0)]) (.keep [1,4,11] (.cond (.t 11) (.seq (.reg false [(cMv 12 4), (cI 2 0), (cMv 3 12)]) .ret) .skip))))) (.keep [1] (.seq (.reg false [(cQ 5 [] (.mv (.k (.i (-1)))))]) (.keep [1,5] (.seq (.seq (.reg false [(cI 6 0)]) (.keep [1,5,6] (.block 0 (.loop [1,5,6] none (.seq (.seq (.reg false [(cMv 13 6), (cFa 14 1 10), (cLd 15 14 false 1), (cLn 16 15), (cB 17 .lss 13 16)]) (.keep [1,5,6,17] (.cond (.t 17) .skip (.exit 0)))) (.keep [1,5,6] (.seq (.block 1 (.seq (.any false 0 [⟨(cLd 20 1 true 11), [], []⟩, ⟨(cMv 21 6), [], []⟩, ⟨(cFa 22 1 10), [], []⟩, ⟨(cLd 23 22 false 1), [], [2]⟩, ⟨(cLn 24 23), [], [3,2]⟩, ⟨(cC 25 .sub 24 1), [], [4,3,2]⟩, ⟨(cQ 26 [20,21,25] (.call (kF 64) [(.t 20), (.t 21), (.t 25)])), [], [0,1,5,4,3,2]⟩, ⟨(cFa 27 1 10), [], []⟩, ⟨(cLd 28 27 false 1), [], [7]⟩, ⟨(cMv 29 6), [], []⟩, ⟨(cA 30 1 28 29), [], [8,7,9]⟩, ⟨(cLd 31 30 false 1), [], [10,8,7,9]⟩, ⟨(cB 32 .add 26 31), [], [6,0,1,5,4,3,2,11,10,8,7,9]⟩, ⟨(cMv 7 32), [], [12,6,0,1,5,4,3,2,11,10,8,7,9]⟩]) (.keep [1,5,6,7] (.seq (.reg true [(cMv 33 5), (cC 34 .lss 33 0), (cMv 35 34), (gMv 36 35 false 7), (gMv 37 35 false 5), (gQ 38 35 false [36,37] (.bin .lss (.t 36) (.t 37))), (cQ 39 [35,38] (.pick (.t 35) (kB true) (.t 38)))]) (.keep [1,5,6,7,39] (.cond (.t 39) (.reg false [(cMv 40 7), (cMv 5 40)]) .skip)))))) (.keep [1,5,6] (.reg false [(cMv 18 6), (cC 19 .add 18 1), (cMv 6 19)]))))))))) (.keep [5] (.seq (.reg false [(cMv 41 5), (cMv 2 41), (cI 3 0)]) .ret)))))))))
def pu34 : List Nat := [1]
def rs34 : List RV := [.t 2, .t 3]
theorem cc34 : CCx Try.prog Try.f34 pu34 rc34 := by unfold CCx; kernel_rfl
theorem cb34 : CBx Try.f34 := by unfold CBx; kernel_rfl
theorem cs34 : CSx Try.prog Try.f34 rs34 := by unfold CSx; kernel_rfl
theorem cn34 : 1 ≤ Try.f34.ntmps := by decide
def rc35 : RC := (.seq (.reg false [(cX 1 0), (cQ 2 [] (.mv (.k (.z 1)))), (cI 3 0)]) (.keep [1] (.seq (.seq (.reg false [(cLd 12 1 true 11), (cQ 13 [12] (.call (kF 41) [(.t 12)])), (cMv 4 13)]) (.keep [1,4] (.seq (.reg false [(cMv 14 4), (cC 15 .neq 14 0)]) (.keep [1,4,15] (.cond (.t 15) (.seq (.reg false [(cMv 16 4), (cQ 2 [] (.mv (.k (.z 1)))), (cMv 3 16)]) .ret) .skip))))) (.keep [1] (.seq (.crl false [(cFa 17 1 10), (cLd 18 17 false 1)] ⟨(some 19), none, [18], none, .o (kF 65) [(.t 18)]⟩ [⟨(some 5), none, [], none, .w (.alc [.pn])⟩, ⟨none, none, [5,19], none, .w (.st 1 (.t 5) (.t 19))⟩]) (.keep [1,5] (.seq (.reg false [(cFa 20 1 10), (cLd 21 20 false 1), (cLn 22 21), ⟨(some 6), none, [], none, .w (.alc [(.i 0)])⟩, ⟨none, none, [6,22], none, .w (.st 1 (.t 6) (.t 22))⟩]) (.keep [1,5,6] (.seq (.reg false [(cQ 23 [5,6] (.mkf 66 [(.t 5), (.t 6)])), (cMv 7 23)]) (.keep [1,5,6,7] (.seq (.reg false [(cI 8 0)]) (.keep [1,5,6,7,8] (.seq (.seq (.reg false [(cFa 24 1 10), (cLd 25 24 false 1), (cLn 26 25), (cI 27 0)]) (.keep [1,5,6,7,8,25,26,27] (.block 0 (.loop [1,5,6,7,8,25,26,27] none (.seq (.reg false [(cB 28 .lss 27 26)]) (.keep [1,5,6,7,8,25,26,27,28] (.seq (.cond (.t 28) .skip (.exit 0)) (.keep [1,5,6,7,8,25,26,27] (.seq (.block 1 (.seq (.reg false [(cMv 29 27), (cA 30 1 25 27), (cLd 31 30 false 1), (cMv 9 29), (cMv 10 31)]) (.keep [1,5,6,7,8,9,10,25,26,27] (.seq (.any false 0 [⟨(cLd 32 5 false 1), [], []⟩, ⟨(cZ 33 32), [], [0]⟩, ⟨(cFa 34 33 1), [], [1,0]⟩, ⟨(cLd 35 34 false 1), [], [2,1,0]⟩, ⟨(cMv 36 7), [], []⟩, ⟨(cMv 37 9), [], []⟩, ⟨(cQ 38 [36,37] (.call (.t 36) [(.t 37)])), [], [4,5]⟩, ⟨(cQ 39 [35,38] (.lkp (.i 0) false 86 true (.t 35) (.t 38))), [], [3,2,1,0,6,4,5]⟩, ⟨(cMv 40 10), [], []⟩, ⟨(cB 41 .add 39 40), [], [7,3,2,1,0,6,4,5,8]⟩, ⟨(cLd 42 5 false 1), [], []⟩, ⟨(cZ 43 42), [], [10]⟩, ⟨(cFa 44 43 1), [], [11,10]⟩, ⟨(cLd 45 44 false 1), [], [12,11,10]⟩, ⟨(cMv 46 7), [], []⟩, ⟨(cMv 47 8), [], []⟩, ⟨(cQ 48 [46,47] (.call (.t 46) [(.t 47)])), [], [14,15,6,4,5]⟩, ⟨(cQ 49 [45,48] (.lkp (.i 0) false 86 true (.t 45) (.t 48))), [], [13,12,11,10,16,14,15,6,4,5]⟩, ⟨(cFa 50 1 10), [], []⟩, ⟨(cLd 51 50 false 1), [], [18]⟩, ⟨(cMv 52 8), [], []⟩, ⟨(cA 53 1 51 52), [], [19,18,20]⟩, ⟨(cLd 54 53 false 1), [], [21,19,18,20]⟩, ⟨(cB 55 .add 49 54), [], [17,13,12,11,10,16,14,15,6,4,5,22,21,19,18,20]⟩, ⟨(cB 56 .lss 41 55), [], [9,7,3,2,1,0,6,4,5,8,23,17,13,12,11,10,16,14,15,22,21,19,18,20]⟩]) (.keep [1,5,6,7,8,9,25,26,27,56] (.cond (.t 56) (.reg false [(cMv 57 9), (cMv 8 57)]) .skip)))))) (.keep [1,5,6,7,8,25,26,27] (.reg false [(cC 58 .add 27 1), (cMv 27 58)]))))))))))) (.keep [5,6,7,8] (.seq (.reg false [(cLd 59 6 false 1), ⟨(some 60), none, [59,59], none, .w (.mks 1 [(.i 0)] (.t 59) (.t 59))⟩, (cMv 11 60)]) (.keep [5,7,8,11] (.seq (.any false 0 [⟨(cMv 61 11), [], []⟩, ⟨(cMv 62 8), [], []⟩, ⟨(cLd 63 5 false 1), [], []⟩, ⟨(cZ 64 63), [], [2]⟩, ⟨(cFa 65 64 1), [], [3,2]⟩, ⟨(cLd 66 65 false 1), [], [4,3,2]⟩, ⟨(cMv 67 7), [], []⟩, ⟨(cMv 68 8), [], []⟩, ⟨(cQ 69 [67,68] (.call (.t 67) [(.t 68)])), [], [6,7]⟩, ⟨(cQ 70 [66,69] (.lkp (.i 0) false 86 true (.t 66) (.t 69))), [], [5,4,3,2,8,6,7]⟩, ⟨(cA 71 1 61 62), [], [0,1,2,3,4,5,6,7,8,9]⟩, ⟨⟨none, none, [71,70], none, .w (.st 1 (.t 71) (.t 70))⟩, [], [10,0,1,2,3,4,5,6,7,8,9]⟩]) (.keep [5,7,8,11] (.seq (.hca false 0 [⟨(cLd 72 5 false 1), [], []⟩, ⟨(cMv 73 7), [], []⟩, ⟨(cMv 74 8), [], []⟩, ⟨(cQ 75 [73,74] (.call (.t 73) [(.t 74)])), [], [1,2]⟩, ⟨(cMv 76 11), [], []⟩] ⟨⟨(some 77), none, [72,75,76], none, .o (kF 68) [(.t 72), (.t 75), (.t 76)]⟩, [], [0,3,1,2,4]⟩ 0 []) (.keep [11] (.seq (.reg false [(cMv 78 11), (cMv 2 78), (cI 3 0)]) .ret)))))))))))))))))))))
def pu35 : List Nat := [1]
def rs35 : List RV := [.t 2, .t 3]
theorem cc35 : CCx Try.prog Try.f35 pu35 rc35 := by unfold CCx; kernel_rfl
theorem cb35 : CBx Try.f35 := by unfold CBx; kernel_rfl
theorem cs35 : CSx Try.prog Try.f35 rs35 := by unfold CSx; kernel_rfl
theorem cn35 : 1 ≤ Try.f35.ntmps := by decide
def rc36 : RC := (.seq (.reg false [(cX 1 0), (cI 2 0)]) (.keep [1] (.seq (.reg false [(cLd 3 1 true 11), (cQ 4 [3] (.call (kF 61) [(.t 3), (kI 0)])), (cMv 2 4)]) .ret)))
def pu36 : List Nat := [1]
def rs36 : List RV := [.t 2]
theorem cc36 : CCx Try.prog Try.f36 pu36 rc36 := by unfold CCx; kernel_rfl
theorem cb36 : CBx Try.f36 := by unfold CBx; kernel_rfl
theorem cs36 : CSx Try.prog Try.f36 rs36 := by unfold CSx; kernel_rfl
theorem cn36 : 1 ≤ Try.f36.ntmps := by decide
def rc38 : RC := (.seq (.reg false [(cX 2 0), (cI 4 0), (cI 5 0)]) (.keep [1,2] (.seq (.any false 0 [⟨(cLd 9 2 true 11), [], []⟩, ⟨(cMv 10 1), [], []⟩, ⟨(cFa 11 2 0), [], []⟩, ⟨(cFa 12 11 1), [], [2]⟩, ⟨(cLd 13 12 false 1), [], [3,2]⟩, ⟨(cLn 14 13), [], [4,3,2]⟩, ⟨(cC 15 .sub 14 1), [], [5,4,3,2]⟩, ⟨(cQ 16 [10,15] (.call (kF 70) [(.t 10), (kI 0), (.t 15)])), [], [1,6,5,4,3,2]⟩, ⟨(cQ 17 [9,16] (.call (kF 50) [(.t 9), (.t 16)])), [], [0,7,1,6,5,4,3,2]⟩, ⟨(cMv 8 17), [], [8,0,7,1,6,5,4,3,2]⟩, ⟨(cEx 18 8 0), [], [9,8,0,7,1,6,5,4,3,2]⟩, ⟨(cEx 19 8 1), [], [9,8,0,7,1,6,5,4,3,2]⟩, ⟨(cMv 6 18), [], [10,9,8,0,7,1,6,5,4,3,2]⟩, ⟨(cMv 7 19), [], [11,9,8,0,7,1,6,5,4,3,2,12,10]⟩]) (.keep [1,6,7] (.seq (.seq (.reg false [(cMv 20 7), (cC 21 .neq 20 0)]) (.keep [1,6,7,21] (.cond (.t 21) (.seq (.reg false [(cMv 22 7), (cI 4 0), (cMv 5 22)]) .ret) .skip))) (.keep [1,6] (.seq (.reg false [(cMv 23 6), (cMv 24 1), (cQ 25 [23,24] (.call (kF 51) [(.t 23), (.t 24)])), (cMv 4 25), (cI 5 0)]) .ret)))))))
def pu38 : List Nat := [2]
def rs38 : List RV := [.t 4, .t 5]
theorem cc38 : CCx Try.prog Try.f38 pu38 rc38 := by unfold CCx; kernel_rfl
theorem cb38 : CBx Try.f38 := by unfold CBx; kernel_rfl
theorem cs38 : CSx Try.prog Try.f38 rs38 := by unfold CSx; kernel_rfl
theorem cn38 : 2 ≤ Try.f38.ntmps := by decide
def rc39 : RC := (.seq (.reg false [(cX 4 0), (cQ 8 [] (.mv (kB false)))]) (.keep [1,2,3,4] (.seq (.any false 0 [⟨(cMv 10 1), [], []⟩, ⟨(cMv 11 2), [], []⟩, ⟨(cA 12 1 10 11), [], [0,1]⟩, ⟨(cLd 13 12 false 1), [], [2,0,1]⟩, ⟨(cFa 14 4 7), [], []⟩, ⟨(cLd 15 14 false 1), [], [4]⟩, ⟨(cMv 16 3), [], []⟩, ⟨(cQ 17 [15,16] (.call (kF 72) [(.t 15), (.t 16)])), [], [5,4,6]⟩, ⟨(cB 18 .add 13 17), [], [3,2,0,1,7,5,4,6]⟩, ⟨(cFa 19 4 6), [], []⟩, ⟨(cLd 20 19 false 1), [], [9]⟩, ⟨(cQ 21 [18,20] (.call (kF 71) [(.t 18), (.t 20)])), [], [8,3,2,0,1,7,5,4,6,10,9]⟩, ⟨(cMv 9 21), [], [11,8,3,2,0,1,7,5,4,6,10,9]⟩]) (.keep [1,2,4,9] (.seq (.any false 0 [⟨(cLd 22 4 true 11), [], []⟩, ⟨(cMv 23 9), [], []⟩, ⟨(cMv 24 1), [], []⟩, ⟨(cMv 25 2), [], []⟩, ⟨(cC 26 .add 25 1), [], [3]⟩, ⟨(cMv 27 1), [], []⟩, ⟨(cLn 28 27), [], [5]⟩, ⟨(cB 29 .rem 26 28), [], [4,3,6,5]⟩, ⟨(cA 30 1 24 29), [], [2,7,4,3,6,5]⟩, ⟨(cLd 31 30 false 1), [], [8,2,7,4,3,6,5]⟩, ⟨(cQ 32 [22,23,31] (.call (kF 73) [(.t 22), (.t 23), (.t 31)])), [], [0,1,9,8,2,7,4,3,6,5]⟩, ⟨(cMv 8 32), [], [10,0,1,9,8,2,7,4,3,6,5]⟩]) .ret)))))
def pu39 : List Nat := [4]
def rs39 : List RV := [.t 8]
theorem cc39 : CCx Try.prog Try.f39 pu39 rc39 := by unfold CCx; kernel_rfl
theorem cb39 : CBx Try.f39 := by unfold CBx; kernel_rfl
theorem cs39 : CSx Try.prog Try.f39 rs39 := by unfold CSx; kernel_rfl
theorem cn39 : 4 ≤ Try.f39.ntmps := by decide
def rc41 : RC := (.seq (.reg false [(cX 1 0), (cI 2 0)]) (.keep [1] (.seq (.seq (.reg false [(cFa 4 1 0), (cLd 5 4 true 6), (cQ 6 [5] (.call (kF 74) [(.t 5)])), (cMv 3 6)]) (.keep [1,3] (.seq (.reg false [(cMv 7 3), (cC 8 .neq 7 0)]) (.keep [1,3,8] (.cond (.t 8) (.seq (.reg false [(cMv 9 3), (cMv 2 9)]) .ret) .skip))))) (.keep [1] (.seq (.seq (.reg false [(cLd 10 1 true 11), (cQ 11 [10] (.call (kF 75) [(.t 10)])), (cN 12 11)]) (.keep [12] (.cond (.t 12) (.seq (.reg false [(cI 2 40)]) .ret) .skip))) (.keep [] (.seq (.reg false [(cI 2 0)]) .ret)))))))
def pu41 : List Nat := [1]
def rs41 : List RV := [.t 2]
theorem cc41 : CCx Try.prog Try.f41 pu41 rc41 := by unfold CCx; kernel_rfl
theorem cb41 : CBx Try.f41 := by unfold CBx; kernel_rfl
theorem cs41 : CSx Try.prog Try.f41 rs41 := by unfold CSx; kernel_rfl
theorem cn41 : 1 ≤ Try.f41.ntmps := by decide
def rc42 : RC := (.seq (.reg false [(cX 2 0), (cI 4 0), (cI 5 0)]) (.keep [1,2] (.seq (.seq (.reg false [(cLd 8 2 true 11), (cMv 9 1), (cQ 10 [8,9] (.call (kF 61) [(.t 8), (.t 9)])), (cMv 6 10)]) (.keep [1,2,6] (.seq (.reg false [(cMv 11 6), (cC 12 .neq 11 0)]) (.keep [1,2,6,12] (.cond (.t 12) (.seq (.reg false [(cMv 13 6), (cI 4 0), (cMv 5 13)]) .ret) .skip))))) (.keep [1,2] (.seq (.reg false [(cLd 14 2 true 11), (cQ 15 [14] (.call (kF 54) [(.t 14)])), (cMv 16 1), (cA 17 1 15 16), (cLd 18 17 false 1), (cMv 7 18)]) (.keep [1,2,7] (.seq (.seq (.reg false [(cLd 19 2 true 11), (cMv 20 7), (cFa 21 2 9), (cLd 22 21 false 1), (cMv 23 1), (cQ 24 [19,20,22,23] (.call (kF 76) [(.t 19), (.t 20), (.t 22), (.t 23)]))]) (.keep [7,24] (.block 0 (.seq (.reg false [(cMv 26 7), (cLn 27 26), (cB 28 .eql 24 27), (cMv 25 28)]) (.keep [24,25] (.cond (.t 25) (.seq (.reg false [(cI 4 1), (cI 5 0)]) .ret) (.seq (.reg false [(cC 30 .eql 24 0), (cMv 29 30)]) (.keep [29] (.cond (.t 29) (.seq (.reg false [(cI 4 2), (cI 5 0)]) .ret) .skip))))))))) (.keep [] (.seq (.reg false [(cI 4 3), (cI 5 0)]) .ret)))))))))
def pu42 : List Nat := [2]
def rs42 : List RV := [.t 4, .t 5]
theorem cc42 : CCx Try.prog Try.f42 pu42 rc42 := by unfold CCx; kernel_rfl
theorem cb42 : CBx Try.f42 := by unfold CBx; kernel_rfl
theorem cs42 : CSx Try.prog Try.f42 rs42 := by unfold CSx; kernel_rfl
theorem cn42 : 2 ≤ Try.f42.ntmps := by decide
def rc43 : RC := (.seq (.reg false [(cX 1 0), (cQ 2 [] (.mv (.k (.z 1)))), (cI 3 0)]) (.keep [1] (.seq (.seq (.reg false [(cLd 9 1 true 11), (cQ 10 [9] (.call (kF 61) [(.t 9), (kI 0)])), (cMv 4 10)]) (.keep [1,4] (.seq (.reg false [(cMv 11 4), (cC 12 .neq 11 0)]) (.keep [1,4,12] (.cond (.t 12) (.seq (.reg false [(cMv 13 4), (cQ 2 [] (.mv (.k (.z 1)))), (cMv 3 13)]) .ret) .skip))))) (.keep [1] (.seq (.reg false [(cQ 5 [] (.mv (.k (.z 1))))]) (.keep [1,5] (.seq (.seq (.reg false [(cI 6 0)]) (.keep [1,5,6] (.block 0 (.loop [1,5,6] none (.seq (.seq (.reg false [(cMv 14 6), (cFa 15 1 9), (cLd 16 15 false 1), (cLn 17 16), (cB 18 .lss 14 17)]) (.keep [1,5,6,18] (.cond (.t 18) .skip (.exit 0)))) (.keep [1,5,6] (.seq (.block 1 (.seq (.reg false [(cLd 22 1 true 11), (cMv 23 6), (cQ 24 [22,23] (.call (kF 42) [(.t 22), (.t 23)])), (cMv 21 24), (cEx 25 21 0), (cEx 26 21 1), (cMv 7 25), (cMv 8 26)]) (.keep [1,5,6,7] (.seq (.reg false [(cMv 27 7), (cC 28 .neq 27 1)]) (.keep [1,5,6,28] (.cond (.t 28) (.reg false [(cMv 29 5), (cMv 30 6), (cQ 31 [30] (.bsl 1 1 [(.i 0)] [(0,1, (.t 30))])), ⟨(some 32), none, [29,31], none, .w (.app 1 (.t 29) (.t 31))⟩, (cMv 5 32)]) .skip)))))) (.keep [1,5,6] (.reg false [(cMv 19 6), (cC 20 .add 19 1), (cMv 6 20)]))))))))) (.keep [5] (.seq (.reg false [(cMv 33 5), (cMv 2 33), (cI 3 0)]) .ret)))))))))
def pu43 : List Nat := [1,31]
def rs43 : List RV := [.t 2, .t 3]
theorem cc43 : CCx Try.prog Try.f43 pu43 rc43 := by unfold CCx; kernel_rfl
theorem cb43 : CBx Try.f43 := by unfold CBx; kernel_rfl
theorem cs43 : CSx Try.prog Try.f43 rs43 := by unfold CSx; kernel_rfl
theorem cn43 : 1 ≤ Try.f43.ntmps := by decide
def rc44 : RC := (.seq (.reg false [(cQ 0 [] (.mv (kB false)))]) (.keep [] (.seq (.reg false [(cQ 6 [] (.call (kF 78) [])), (cQ 7 [6] (.call (kF 77) [(.t 6), (kI 2)])), (cMv 5 7), (cEx 8 5 0), (cEx 9 5 1), ⟨(some 1), none, [], none, .w (.alc [(.i 0), (.i 0)])⟩, ⟨none, none, [1,8], none, .w (.st 2 (.t 1) (.t 8))⟩, (cMv 2 9)]) (.keep [1,2] (.seq (.reg false [(cQ 11 [] (.call (kF 49) [])), (cQ 12 [11] (.call (kF 22) [(.t 11)])), (cMv 10 12), (cEx 13 10 0), (cEx 14 10 1), (cMv 3 13), (cMv 4 14)]) (.keep [1,2,3,4] (.seq (.reg true [(cMv 15 2), (cC 16 .eql 15 0), (cMv 17 16), (gMv 18 17 true 4), (gQ 19 17 true [18] (.bin .eql (.t 18) (kI 0))), (cQ 20 [17,19] (.pick (.t 17) (.t 19) (kB false))), (cMv 21 20), (gQ 22 21 true [1] (.ld true 2 (.t 1))), (gQ 23 21 true [] (.bld [(.i 0), (.i 0)] [(0,1, (kI 802)), (1,1, (kI 808))])), (gQ 24 21 true [22,23] (.eqs false 50 (.t 22) (.t 23))), (cQ 25 [21,24] (.pick (.t 21) (.t 24) (kB false))), (cMv 26 25), (gMv 27 26 true 3), (gQ 28 26 true [27] (.bin .eql (.t 27) (kI 2))), (cQ 29 [26,28] (.pick (.t 26) (.t 28) (kB false))), (cMv 0 29)]) .ret)))))))
def pu44 : List Nat := []
def rs44 : List RV := [.t 0]
theorem cc44 : CCx Try.prog Try.f44 pu44 rc44 := by unfold CCx; kernel_rfl
theorem cb44 : CBx Try.f44 := by unfold CBx; kernel_rfl
theorem cs44 : CSx Try.prog Try.f44 rs44 := by unfold CSx; kernel_rfl
theorem cn44 : 0 ≤ Try.f44.ntmps := by decide
def rc46 : RC := (.seq (.reg false [(cQ 4 [] (.mv (kB false)))]) (.keep [0,1] (.seq (.seq (.reg false [(cI 5 0)]) (.keep [0,1,5] (.block 0 (.loop [0,1,5] none (.seq (.seq (.reg false [(cMv 8 5), (cMv 9 0), (cLn 10 9), (cB 11 .lss 8 10)]) (.keep [0,1,5,11] (.cond (.t 11) .skip (.exit 0)))) (.keep [0,1,5] (.seq (.block 1 (.seq (.reg false [(cQ 6 [] (.mv (kB false)))]) (.keep [0,1,5,6] (.seq (.seq (.reg false [(cI 7 0)]) (.keep [0,1,5,6,7] (.block 2 (.loop [0,1,5,6,7] none (.seq (.seq (.reg false [(cMv 14 7), (cMv 15 1), (cLn 16 15), (cB 17 .lss 14 16)]) (.keep [0,1,5,6,7,17] (.cond (.t 17) .skip (.exit 2)))) (.keep [0,1,5,6,7] (.seq (.block 3 (.any true 0 [⟨(cMv 20 6), [], []⟩, ⟨(cMv 21 20), [], [0]⟩, ⟨(gMv 22 21 false 0), [], [1,0]⟩, ⟨(gMv 23 21 false 5), [], [1,0]⟩, ⟨(gQ 24 21 false [22,23] (.iad 1 (.t 22) (.t 23))), [], [2,1,0,3]⟩, ⟨(gQ 25 21 false [24] (.ld false 1 (.t 24))), [], [4,2,1,0,3]⟩, ⟨(gMv 26 21 false 1), [], [1,0]⟩, ⟨(gMv 27 21 false 7), [], [1,0]⟩, ⟨(gQ 28 21 false [26,27] (.iad 1 (.t 26) (.t 27))), [], [6,1,0,7]⟩, ⟨(gQ 29 21 false [28] (.ld false 1 (.t 28))), [], [8,6,1,0,7]⟩, ⟨(gQ 30 21 false [25,29] (.bin .eql (.t 25) (.t 29))), [], [5,4,2,1,0,3,9,8,6,7]⟩, ⟨(cQ 31 [21,30] (.pick (.t 21) (kB true) (.t 30))), [], [1,0,10,5,4,2,3,9,8,6,7]⟩, ⟨(cMv 6 31), [], [11,1,0,10,5,4,2,3,9,8,6,7]⟩])) (.keep [0,1,5,6,7] (.reg false [(cMv 18 7), (cC 19 .add 18 1), (cMv 7 19)]))))))))) (.keep [0,1,5,6] (.seq (.reg false [(cMv 32 6), (cN 33 32)]) (.keep [0,1,5,33] (.cond (.t 33) (.seq (.reg false [(cQ 4 [] (.mv (kB false)))]) .ret) .skip)))))))) (.keep [0,1,5] (.reg false [(cMv 12 5), (cC 13 .add 12 1), (cMv 5 13)]))))))))) (.keep [] (.seq (.reg false [(cQ 4 [] (.mv (kB true)))]) .ret)))))
def pu46 : List Nat := []
def rs46 : List RV := [.t 4]
theorem cc46 : CCx Try.prog Try.f46 pu46 rc46 := by unfold CCx; kernel_rfl
theorem cb46 : CBx Try.f46 := by unfold CBx; kernel_rfl
theorem cs46 : CSx Try.prog Try.f46 rs46 := by unfold CSx; kernel_rfl
theorem cn46 : 2 ≤ Try.f46.ntmps := by decide
def rc48 : RC := (.seq (.reg false [(cQ 4 [] (.mv (kB false)))]) (.keep [0,1] (.seq (.seq (.reg false [(cMv 6 0), (cLn 7 6), (cMv 8 1), (cLn 9 8), (cB 10 .neq 7 9)]) (.keep [0,1,10] (.cond (.t 10) (.seq (.reg false [(cQ 4 [] (.mv (kB false)))]) .ret) .skip))) (.keep [0,1] (.seq (.seq (.reg false [(cI 5 0)]) (.keep [0,1,5] (.block 0 (.loop [0,1,5] none (.seq (.seq (.reg false [(cMv 11 5), (cMv 12 0), (cLn 13 12), (cB 14 .lss 11 13)]) (.keep [0,1,5,14] (.cond (.t 14) .skip (.exit 0)))) (.keep [0,1,5] (.seq (.block 1 (.seq (.any false 0 [⟨(cMv 17 0), [], []⟩, ⟨(cMv 18 5), [], []⟩, ⟨(cA 19 1 17 18), [], [0,1]⟩, ⟨(cLd 20 19 false 1), [], [2,0,1]⟩, ⟨(cMv 21 1), [], []⟩, ⟨(cMv 22 5), [], []⟩, ⟨(cA 23 1 21 22), [], [4,5]⟩, ⟨(cLd 24 23 false 1), [], [6,4,5]⟩, ⟨(cB 25 .neq 20 24), [], [3,2,0,1,7,6,4,5]⟩]) (.keep [0,1,5,25] (.cond (.t 25) (.seq (.reg false [(cQ 4 [] (.mv (kB false)))]) .ret) .skip)))) (.keep [0,1,5] (.reg false [(cMv 15 5), (cC 16 .add 15 1), (cMv 5 16)]))))))))) (.keep [] (.seq (.reg false [(cQ 4 [] (.mv (kB true)))]) .ret)))))))
def pu48 : List Nat := []
def rs48 : List RV := [.t 4]
theorem cc48 : CCx Try.prog Try.f48 pu48 rc48 := by unfold CCx; kernel_rfl
theorem cb48 : CBx Try.f48 := by unfold CBx; kernel_rfl
theorem cs48 : CSx Try.prog Try.f48 rs48 := by unfold CSx; kernel_rfl
theorem cn48 : 2 ≤ Try.f48.ntmps := by decide
def rc49 : RC := (.seq (.reg false [⟨(some 0), none, [], none, .w (.alc [(.z 4), (.z 1), (.i 0), (.z 2), (.z 1), (.i 0), (.i 0), (.i 0), (.i 0), (.z 1), (.z 1)])⟩]) (.keep [0] (.seq (.reg false [(cQ 1 [] (.call (kF 78) [])), (cQ 2 [] (.bsl 1 4 [(.i 0)] [(0,1, (kI 0)), (1,1, (kI 3)), (2,1, (kI 8)), (3,1, (kI 0))])), (cQ 3 [] (.bsl 1 4 [(.i 0)] [(0,1, (kI 5)), (1,1, (kI 3)), (2,1, (kI 8)), (3,1, (kI 2))])), (cQ 4 [1,2,3] (.bld [(.z 4), (.z 1), (.i 0), (.z 2), (.z 1), (.i 0), (.i 0), (.i 0), (.i 0), (.z 1), (.z 1)] [(0,6, (.t 1)), (6,1, (kI 12)), (7,1, (kI 100)), (8,1, (kI 1)), (9,1, (.t 2)), (10,1, (.t 3))])), ⟨none, none, [0,4], none, .w (.st 11 (.t 0) (.t 4))⟩]) .ret)))
def pu49 : List Nat := [2,3]
def rs49 : List RV := [.c 0 true 11]
theorem cc49 : CCx Try.prog Try.f49 pu49 rc49 := by unfold CCx; kernel_rfl
theorem cb49 : CBx Try.f49 := by unfold CBx; kernel_rfl
theorem cs49 : CSx Try.prog Try.f49 rs49 := by unfold CSx; kernel_rfl
theorem cn49 : 0 ≤ Try.f49.ntmps := by decide
def rc50 : RC := (.seq (.reg false [(cX 2 0), (cQ 4 [] (.mv (.k .pn))), (cI 5 0)]) (.keep [1,2] (.seq (.seq (.reg false [(cLd 15 2 true 11), (cQ 16 [15] (.call (kF 41) [(.t 15)])), (cMv 6 16)]) (.keep [1,2,6] (.seq (.reg false [(cMv 17 6), (cC 18 .neq 17 0)]) (.keep [1,2,6,18] (.cond (.t 18) (.seq (.reg false [(cMv 19 6), (cQ 4 [] (.mv (.k .pn))), (cMv 5 19)]) .ret) .skip))))) (.keep [1,2] (.seq (.seq (.reg false [(cMv 20 1), (cN 21 20)]) (.keep [2,21] (.cond (.t 21) (.seq (.reg false [(cQ 4 [] (.mv (.k .pn))), (cI 5 1)]) .ret) .skip))) (.keep [2] (.seq (.reg false [(cLd 22 2 true 11), (cQ 23 [22] (.bld [(.z 4), (.z 1), (.i 0), (.z 2), (.z 1), (.i 0), (.i 0), (.i 0), (.i 0), (.z 1), (.z 1), (.z 1)] [(0,11, (.t 22))])), ⟨(some 24), none, [23], none, .w (.bxo (.t 23))⟩, (cMv 7 24)]) (.keep [2,7] (.seq (.seq (.reg false [(cFa 25 2 0), (cFa 26 25 1), (cLd 27 26 false 1), (cLn 28 27), (cI 29 0)]) (.keep [2,7,27,28,29] (.block 0 (.ownc 7 11 1 (.loop [2,7,27,28,29] none (.seq (.reg false [(cB 30 .lss 29 28)]) (.keep [2,7,27,28,29,30] (.seq (.cond (.t 30) .skip (.exit 0)) (.keep [2,7,27,28,29] (.seq (.block 1 (.seq (.reg false [(cA 31 1 27 29), (cLd 32 31 false 1), (cMv 9 32)]) (.keep [2,7,9,27,28,29] (.seq (.reg false [(cFa 34 2 0), (cLd 35 34 true 6), (cMv 36 9), (cQ 37 [35,36] (.call (kF 82) [(.t 35), (.t 36)])), (cMv 33 37), (cEx 38 33 0), (cEx 39 33 1), (cMv 10 38), (cMv 11 39)]) (.keep [2,7,10,11,27,28,29] (.seq (.seq (.reg false [(cMv 40 11), (cC 41 .neq 40 0)]) (.keep [2,7,10,11,27,28,29,41] (.cond (.t 41) (.seq (.reg false [(cMv 42 11), (cQ 4 [] (.mv (.k .pn))), (cMv 5 42)]) .ret) .skip))) (.keep [2,7,10,27,28,29] (.seq (.reg false [(cQ 12 [] (.mv (.k (.z 1))))]) (.keep [2,7,10,12,27,28,29] (.seq (.seq (.reg false [(cMv 43 10), (cLn 44 43), (cI 45 0)]) (.keep [2,7,12,27,28,29,43,44,45] (.block 2 (.own 12 1 (.loop [2,7,12,27,28,29,43,44,45] none (.seq (.reg false [(cB 46 .lss 45 44)]) (.keep [2,7,12,27,28,29,43,44,45,46] (.seq (.cond (.t 46) .skip (.exit 2)) (.keep [2,7,12,27,28,29,43,44,45] (.seq (.block 3 (.seq (.reg false [(cA 47 1 43 45), (cLd 48 47 false 1), (cMv 14 48)]) (.keep [2,7,12,14,27,28,29,43,44,45] (.reg false [(cMv 49 12), (cFa 50 2 7), (cLd 51 50 false 1), (cMv 52 14), (cQ 53 [52] (.bin .add (kI 1000) (.t 52))), (cB 54 .mul 51 53), (cC 55 .quo 54 1000), (cFa 56 2 6), (cLd 57 56 false 1), (cB 58 .rem 55 57), (cQ 59 [58] (.bsl 1 1 [(.i 0)] [(0,1, (.t 58))])), ⟨(some 60), none, [49,59], none, .w (.app 1 (.t 49) (.t 59))⟩, (cMv 12 60)])))) (.keep [2,7,12,27,28,29,43,44,45] (.reg false [(cC 61 .add 45 1), (cMv 45 61)])))))))))))) (.keep [2,7,12,27,28,29] (.drp 2 (.reg false [(cMv 62 7), (cMv 63 7), (cZ 64 63), (cFa 65 64 11), (cLd 66 65 false 1), (cMv 67 12), (cQ 68 [67] (.bsl 1 1 [(.z 1)] [(0,1, (.t 67))])), ⟨(some 69), none, [66,68], none, .w (.app 1 (.t 66) (.t 68))⟩, (cZ 70 62), (cFa 71 70 11), ⟨none, none, [71,69], none, .w (.st 1 (.t 71) (.t 69))⟩]))))))))))))) (.keep [2,7,27,28,29] (.reg false [(cC 72 .add 29 1), (cMv 29 72)])))))))))))) (.keep [7] (.seq (.drp 0 (.reg false [(cMv 73 7), (cMv 4 73), (cI 5 0)])) .ret)))))))))))
def pu50 : List Nat := [2,59,68]
def rs50 : List RV := [.t 4, .t 5]
theorem cc50 : CCx Try.prog Try.f50 pu50 rc50 := by unfold CCx; kernel_rfl
theorem cb50 : CBx Try.f50 := by unfold CBx; kernel_rfl
theorem cs50 : CSx Try.prog Try.f50 rs50 := by unfold CSx; kernel_rfl
theorem cn50 : 2 ≤ Try.f50.ntmps := by decide
def rc51 : RC := (.seq (.reg false [(cI 4 0)]) (.keep [0,1] (.seq (.any false 0 [⟨(cMv 5 0), [], []⟩, ⟨(cMv 6 1), [], []⟩, ⟨(cMv 7 0), [], []⟩, ⟨(cMv 8 0), [], []⟩, ⟨(cZ 9 8), [], [3]⟩, ⟨(cFa 10 9 0), [], [4,3]⟩, ⟨(cFa 11 10 9), [], [5,4,3]⟩, ⟨(cLd 12 11 false 1), [], [6,5,4,3]⟩, ⟨(cMv 13 0), [], []⟩, ⟨(cMv 14 1), [], []⟩, ⟨(cQ 15 [13,14] (.call (kF 85) [(.t 13), (.t 14)])), [], [8,9]⟩, ⟨(cA 16 1 12 15), [], [7,6,5,4,3,10,8,9]⟩, ⟨(cLd 17 16 false 1), [], [11,7,6,5,4,3,10,8,9]⟩, ⟨(cMv 18 0), [], []⟩, ⟨(cZ 19 18), [], [13]⟩, ⟨(cFa 20 19 0), [], [14,13]⟩, ⟨(cFa 21 20 9), [], [15,14,13]⟩, ⟨(cLd 22 21 false 1), [], [16,15,14,13]⟩, ⟨(cMv 23 1), [], []⟩, ⟨(cA 24 1 22 23), [], [17,16,15,14,13,18]⟩, ⟨(cLd 25 24 false 1), [], [19,17,16,15,14,13,18]⟩, ⟨(cB 26 .sub 17 25), [], [12,11,7,6,5,4,3,10,8,9,20,19,17,16,15,14,13,18]⟩, ⟨(cQ 27 [7,26] (.call (kF 84) [(.t 7), (.t 26)])), [], [2,21,12,11,7,6,5,4,3,10,8,9,20,19,17,16,15,14,13,18]⟩, ⟨(cMv 28 0), [], []⟩, ⟨(cZ 29 28), [], [23]⟩, ⟨(cFa 30 29 0), [], [24,23]⟩, ⟨(cFa 31 30 8), [], [25,24,23]⟩, ⟨(cLd 32 31 false 1), [], [26,25,24,23]⟩, ⟨(cQ 33 [5,6,27,32] (.call (kF 83) [(.t 5), (.t 6), (.t 27), (.t 32)])), [], [0,1,22,2,21,12,11,7,6,5,4,3,10,8,9,20,19,17,16,15,14,13,18,27,26,25,24,23]⟩, ⟨(cMv 4 33), [], [28,0,1,22,2,21,12,11,7,6,5,4,3,10,8,9,20,19,17,16,15,14,13,18,27,26,25,24,23]⟩]) .ret)))
def pu51 : List Nat := []
def rs51 : List RV := [.t 4]
theorem cc51 : CCx Try.prog Try.f51 pu51 rc51 := by unfold CCx; kernel_rfl
theorem cb51 : CBx Try.f51 := by unfold CBx; kernel_rfl
theorem cs51 : CSx Try.prog Try.f51 rs51 := by unfold CSx; kernel_rfl
theorem cn51 : 2 ≤ Try.f51.ntmps := by decide
def rc52 : RC := (.seq (.reg false [(cQ 8 [] (.mv (kB false)))]) (.keep [0,1,2,3] (.seq (.seq (.reg false [(cI 9 0)]) (.keep [0,1,2,3,9] (.block 0 (.loop [0,1,2,3,9] none (.seq (.seq (.reg false [(cMv 10 9), (cMv 11 0), (cLn 12 11), (cB 13 .lss 10 12)]) (.keep [0,1,2,3,9,13] (.cond (.t 13) .skip (.exit 0)))) (.keep [0,1,2,3,9] (.seq (.block 1 (.seq (.reg true [(cMv 16 0), (cMv 17 9), (cA 18 1 16 17), (cLd 19 18 false 1), (cMv 20 2), (cB 21 .lss 19 20), (cMv 22 21), (gMv 23 22 false 0), (gMv 24 22 false 9), (gQ 25 22 false [23,24] (.iad 1 (.t 23) (.t 24))), (gQ 26 22 false [25] (.ld false 1 (.t 25))), (gMv 27 22 false 3), (gQ 28 22 false [26,27] (.bin .gtr (.t 26) (.t 27))), (cQ 29 [22,28] (.pick (.t 22) (kB true) (.t 28)))]) (.keep [0,1,2,3,9,29] (.cond (.t 29) (.seq (.reg false [(cQ 8 [] (.mv (kB false)))]) .ret) .skip)))) (.keep [0,1,2,3,9] (.reg false [(cMv 14 9), (cC 15 .add 14 1), (cMv 9 15)]))))))))) (.keep [0,1] (.seq (.reg false [(cMv 30 0), (cLn 31 30), (cMv 32 1), (cB 33 .eql 31 32), (cMv 8 33)]) .ret)))))
def pu52 : List Nat := []
def rs52 : List RV := [.t 8]
theorem cc52 : CCx Try.prog Try.f52 pu52 rc52 := by unfold CCx; kernel_rfl
theorem cb52 : CBx Try.f52 := by unfold CBx; kernel_rfl
theorem cs52 : CSx Try.prog Try.f52 rs52 := by unfold CSx; kernel_rfl
theorem cn52 : 4 ≤ Try.f52.ntmps := by decide
def rc53 : RC := (.seq (.reg false [(cX 3 0), (cQ 6 [] (.mv (kB false)))]) (.keep [1,2,3] (.seq (.seq (.reg false [(cI 7 0)]) (.keep [1,2,3,7] (.block 0 (.loop [1,2,3,7] none (.seq (.seq (.reg false [(cMv 8 7), (cMv 9 2), (cLn 10 9), (cB 11 .lss 8 10)]) (.keep [1,2,3,7,11] (.cond (.t 11) .skip (.exit 0)))) (.keep [1,2,3,7] (.seq (.block 1 (.seq (.any false 0 [⟨(cLd 14 3 true 11), [], []⟩, ⟨(cMv 15 1), [], []⟩, ⟨(cMv 16 7), [], []⟩, ⟨(cA 17 1 15 16), [], [1,2]⟩, ⟨(cLd 18 17 false 1), [], [3,1,2]⟩, ⟨(cMv 19 2), [], []⟩, ⟨(cMv 20 7), [], []⟩, ⟨(cQ 21 [14,18,19,20] (.call (kF 76) [(.t 14), (.t 18), (.t 19), (.t 20)])), [], [0,4,3,1,2,5,6]⟩, ⟨(cMv 22 1), [], []⟩, ⟨(cMv 23 7), [], []⟩, ⟨(cA 24 1 22 23), [], [8,9]⟩, ⟨(cLd 25 24 false 1), [], [10,8,9]⟩, ⟨(cLn 26 25), [], [11,10,8,9]⟩, ⟨(cB 27 .lss 21 26), [], [7,0,4,3,1,2,5,6,12,11,10,8,9]⟩]) (.keep [1,2,3,7,27] (.cond (.t 27) (.seq (.reg false [(cQ 6 [] (.mv (kB false)))]) .ret) .skip)))) (.keep [1,2,3,7] (.reg false [(cMv 12 7), (cC 13 .add 12 1), (cMv 7 13)]))))))))) (.keep [] (.seq (.reg false [(cQ 6 [] (.mv (kB true)))]) .ret)))))
def pu53 : List Nat := [3]
def rs53 : List RV := [.t 6]
theorem cc53 : CCx Try.prog Try.f53 pu53 rc53 := by unfold CCx; kernel_rfl
theorem cb53 : CBx Try.f53 := by unfold CBx; kernel_rfl
theorem cs53 : CSx Try.prog Try.f53 rs53 := by unfold CSx; kernel_rfl
theorem cn53 : 3 ≤ Try.f53.ntmps := by decide
def rc54 : RC := (.seq (.reg false [(cX 1 0), (cQ 2 [] (.mv (.k (.z 1))))]) (.keep [1] (.seq (.reg false [(cQ 3 [] (.mv (.k (.z 1))))]) (.keep [1,3] (.seq (.seq (.reg false [(cI 4 0)]) (.keep [1,3,4] (.block 0 (.loop [1,3,4] none (.seq (.seq (.reg false [(cMv 7 4), (cFa 8 1 0), (cFa 9 8 1), (cLd 10 9 false 1), (cLn 11 10), (cB 12 .lss 7 11)]) (.keep [1,3,4,12] (.cond (.t 12) .skip (.exit 0)))) (.keep [1,3,4] (.seq (.block 1 (.seq (.any false 0 [⟨(cFa 16 1 0), [], []⟩, ⟨(cLd 17 16 true 6), [], [0]⟩, ⟨(cFa 18 1 0), [], []⟩, ⟨(cFa 19 18 1), [], [2]⟩, ⟨(cLd 20 19 false 1), [], [3,2]⟩, ⟨(cMv 21 4), [], []⟩, ⟨(cA 22 1 20 21), [], [4,3,2,5]⟩, ⟨(cLd 23 22 false 1), [], [6,4,3,2,5]⟩, ⟨(cQ 24 [17,23] (.call (kF 86) [(.t 17), (.t 23)])), [], [1,0,7,6,4,3,2,5]⟩, ⟨(cMv 15 24), [], [8,1,0,7,6,4,3,2,5]⟩, ⟨(cEx 25 15 0), [], [9,8,1,0,7,6,4,3,2,5]⟩, ⟨(cEx 26 15 1), [], [9,8,1,0,7,6,4,3,2,5]⟩, ⟨(cMv 5 25), [], [10,9,8,1,0,7,6,4,3,2,5]⟩, ⟨(cMv 6 26), [], [11,9,8,1,0,7,6,4,3,2,5,12,10]⟩]) (.keep [1,3,4,5] (.reg false [(cMv 27 3), (cMv 28 5), (cQ 29 [28] (.bsl 1 1 [(.z 1)] [(0,1, (.t 28))])), ⟨(some 30), none, [27,29], none, .w (.app 1 (.t 27) (.t 29))⟩, (cMv 3 30)])))) (.keep [1,3,4] (.reg false [(cMv 13 4), (cC 14 .add 13 1), (cMv 4 14)]))))))))) (.keep [3] (.seq (.reg false [(cMv 31 3), (cMv 2 31)]) .ret)))))))
def pu54 : List Nat := [1,29]
def rs54 : List RV := [.t 2]
theorem cc54 : CCx Try.prog Try.f54 pu54 rc54 := by unfold CCx; kernel_rfl
theorem cb54 : CBx Try.f54 := by unfold CBx; kernel_rfl
theorem cs54 : CSx Try.prog Try.f54 rs54 := by unfold CSx; kernel_rfl
theorem cn54 : 1 ≤ Try.f54.ntmps := by decide
def rc56 : RC := (.seq (.reg false [(cQ 4 [] (.mv (kB false)))]) (.keep [0,1] (.seq (.reg false [⟨(some 12), none, [], none, .w (.mkm false)⟩, ⟨none, none, [12], none, .w (.mup 3 false (.t 12) (kI 0) (kI 1))⟩, (cMv 13 12), (cMv 5 13)]) (.keep [0,1,5] (.seq (.seq (.reg false [(cMv 14 0), (cMv 15 1), (cQ 16 [14,15] (.call (kF 87) [(.t 14), (.t 15)])), (cLn 17 16), (cI 18 0)]) (.keep [0,5,16,17,18] (.block 0 (.loop [0,5,16,17,18] (some 1) (.seq (.reg false [(cB 19 .lss 18 17)]) (.keep [0,5,16,17,18,19] (.seq (.cond (.t 19) .skip (.exit 0)) (.keep [0,5,16,17,18] (.seq (.block 1 (.seq (.reg false [(cA 20 1 16 18), (cLd 21 20 false 1), (cMv 7 21)]) (.keep [0,5,7,16,17,18] (.seq (.reg false [⟨(some 22), none, [], none, .w (.mkm false)⟩, (cMv 8 22)]) (.keep [0,5,7,8,16,17,18] (.seq (.seq (.reg false [(cMv 23 5), ⟨(some 24), none, [23], none, .w (.rng (.t 23))⟩]) (.keep [0,7,8,16,17,18,24] (.block 2 (.loop [0,7,8,16,17,18,24] none (.seq (.nxt 25 26 24) (.keep [0,7,8,16,17,18,24,26] (.seq (.cond (.t 26) .skip (.exit 2)) (.keep [0,7,8,16,17,18,24] (.block 3 (.seq (.reg false [(cQ 27 [24] (.ent (.t 24))), (cEx 28 27 0), (cMv 9 28)]) (.keep [0,7,8,9,16,17,18,24] (.seq (.reg false [(cMv 29 7), (cLn 30 29), (cI 31 0)]) (.keep [0,7,8,9,16,17,18,24,29,30,31] (.block 4 (.loop [0,7,8,9,16,17,18,24,29,30,31] none (.seq (.reg false [(cB 32 .lss 31 30)]) (.keep [0,7,8,9,16,17,18,24,29,30,31,32] (.seq (.cond (.t 32) .skip (.exit 4)) (.keep [0,7,8,9,16,17,18,24,29,30,31] (.seq (.block 5 (.seq (.reg false [(cA 33 1 29 31), (cLd 34 33 false 1), (cMv 11 34)]) (.keep [0,7,8,9,11,16,17,18,24,29,30,31] (.reg false [(cMv 35 8), (cMv 36 0), (cMv 37 9), (cMv 38 11), (cB 39 .add 37 38), (cQ 40 [36,39] (.call (kF 84) [(.t 36), (.t 39)])), (cQ 41 [35,40] (.lkp (.i 0) false 3 false (.t 35) (.t 40))), (cC 42 .add 41 1), ⟨none, none, [35,40,42], none, .w (.mup 3 false (.t 35) (.t 40) (.t 42))⟩])))) (.keep [0,7,8,9,16,17,18,24,29,30,31] (.reg false [(cC 43 .add 31 1), (cMv 31 43)])))))))))))))))))))))) (.keep [0,8,16,17,18] (.swp 0 1 (.reg false [(cMv 44 8), (cMv 5 44)]))))))))) (.drp 1 (.keep [0,5,16,17,18] (.reg false [(cC 45 .add 18 1), (cMv 18 45)])))))))))))) (.keep [5] (.seq (.reg false [(cMv 46 5), (cQ 47 [46] (.lkp (.i 0) false 3 false (.t 46) (kI 0))), (cC 48 .gtr 47 0), (cMv 4 48)]) .ret)))))))
def pu56 : List Nat := []
def rs56 : List RV := [.t 4]
theorem cc56 : CCx Try.prog Try.f56 pu56 rc56 := by unfold CCx; kernel_rfl
theorem cb56 : CBx Try.f56 := by unfold CBx; kernel_rfl
theorem cs56 : CSx Try.prog Try.f56 rs56 := by unfold CSx; kernel_rfl
theorem cn56 : 2 ≤ Try.f56.ntmps := by decide
def rc59 : RC := (.seq (.reg false [(cI 2 0)]) (.keep [0] (.seq (.seq (.reg false [(cMv 5 0), (cLn 6 5), (cC 7 .lss 6 1)]) (.keep [0,7] (.cond (.t 7) .no .skip))) (.keep [0] (.seq (.reg false [(cMv 9 0), (cQ 10 [9] (.iad 1 (.t 9) (kI 0))), (cLd 11 10 false 1), (cMv 3 11)]) (.keep [0,3] (.seq (.seq (.reg false [(cI 4 1)]) (.keep [0,3,4] (.block 0 (.loop [0,3,4] none (.seq (.seq (.reg false [(cMv 12 4), (cMv 13 0), (cLn 14 13), (cB 15 .lss 12 14)]) (.keep [0,3,4,15] (.cond (.t 15) .skip (.exit 0)))) (.keep [0,3,4] (.seq (.block 1 (.reg false [(cMv 18 3), (cMv 19 0), (cMv 20 4), (cA 21 1 19 20), (cLd 22 21 false 1), (cQ 23 [18,22] (.mx (.t 18) (.t 22))), (cMv 3 23)])) (.keep [0,3,4] (.reg false [(cMv 16 4), (cC 17 .add 16 1), (cMv 4 17)]))))))))) (.keep [3] (.seq (.reg false [(cMv 24 3), (cMv 2 24)]) .ret)))))))))
def pu59 : List Nat := []
def rs59 : List RV := [.t 2]
theorem cc59 : CCx Try.prog Try.f59 pu59 rc59 := by unfold CCx; kernel_rfl
theorem cb59 : CBx Try.f59 := by unfold CBx; kernel_rfl
theorem cs59 : CSx Try.prog Try.f59 rs59 := by unfold CSx; kernel_rfl
theorem cn59 : 1 ≤ Try.f59.ntmps := by decide
def rc60 : RC := (.seq (.reg false [(cX 3 0), (cQ 6 [] (.mv (.k (.z 1))))]) (.keep [1,2,3] (.seq (.reg false [(cMv 11 1), (cLn 12 11), (cMv 7 12)]) (.keep [1,2,3,7] (.seq (.reg false [(cMv 13 7), ⟨(some 14), none, [13,13], none, .w (.mks 1 [(.b false)] (.t 13) (.t 13))⟩, (cMv 8 14)]) (.keep [1,2,3,7,8] (.seq (.any false 0 [⟨(cMv 15 8), [], []⟩, ⟨(cMv 16 2), [], []⟩, ⟨(cMv 17 8), [], []⟩, ⟨(cMv 18 2), [], []⟩, ⟨(cC 19 .add 18 1), [], [3]⟩, ⟨(cMv 20 7), [], []⟩, ⟨(cB 21 .rem 19 20), [], [4,3,5]⟩, ⟨(cA 22 1 15 16), [], [0,1]⟩, ⟨⟨none, none, [22], none, .w (.st 1 (.t 22) (kB true))⟩, [2,3,4,5,6], [7,0,1]⟩, ⟨(cA 23 1 17 21), [], [2,6,4,3,5,0,1,7,8]⟩, ⟨⟨none, none, [23], none, .w (.st 1 (.t 23) (kB true))⟩, [], [9,2,6,4,3,5,0,1,7,8]⟩]) (.keep [1,2,3,7,8] (.seq (.seq (.reg false [(cI 9 0)]) (.keep [1,2,3,7,8,9] (.block 0 (.loop [1,2,3,7,8,9] none (.seq (.seq (.reg false [(cMv 24 9), (cMv 25 7), (cB 26 .lss 24 25)]) (.keep [1,2,3,7,8,9,26] (.cond (.t 26) .skip (.exit 0)))) (.keep [1,2,3,7,8,9] (.seq (.block 1 (.seq (.reg false [(cI 10 0)]) (.keep [1,2,3,7,8,9,10] (.block 2 (.loop [1,2,3,7,8,9,10] none (.seq (.seq (.reg false [(cMv 29 10), (cMv 30 7), (cB 31 .lss 29 30)]) (.keep [1,2,3,7,8,9,10,31] (.cond (.t 31) .skip (.exit 2)))) (.keep [1,2,3,7,8,9,10] (.seq (.block 3 (.seq (.any true 0 [⟨(cMv 34 1), [], []⟩, ⟨(cMv 35 10), [], []⟩, ⟨(cA 36 1 34 35), [], [0,1]⟩, ⟨(cLd 37 36 false 1), [], [2,0,1]⟩, ⟨(cFa 38 3 10), [], []⟩, ⟨(cLd 39 38 false 1), [], [4]⟩, ⟨(cMv 40 10), [], []⟩, ⟨(cA 41 1 39 40), [], [5,4,6]⟩, ⟨(cLd 42 41 false 1), [], [7,5,4,6]⟩, ⟨(cB 43 .add 37 42), [], [3,2,0,1,8,7,5,4,6]⟩, ⟨(cMv 44 1), [], []⟩, ⟨(cMv 45 2), [], []⟩, ⟨(cA 46 1 44 45), [], [10,11]⟩, ⟨(cLd 47 46 false 1), [], [12,10,11]⟩, ⟨(cB 48 .leq 43 47), [], [9,3,2,0,1,8,7,5,4,6,13,12,10,11]⟩, ⟨(cMv 49 48), [], [14,9,3,2,0,1,8,7,5,4,6,13,12,10,11]⟩, ⟨(gMv 50 49 true 8), [], [15,14,9,3,2,0,1,8,7,5,4,6,13,12,10,11]⟩, ⟨(gMv 51 49 true 10), [], [15,14,9,3,2,0,1,8,7,5,4,6,13,12,10,11]⟩, ⟨(gQ 52 49 true [50,51] (.iad 1 (.t 50) (.t 51))), [], [16,15,14,9,3,2,0,1,8,7,5,4,6,13,12,10,11,17]⟩, ⟨(gQ 53 49 true [52] (.ld false 1 (.t 52))), [], [18,16,15,14,9,3,2,0,1,8,7,5,4,6,13,12,10,11,17]⟩, ⟨(gMv 54 49 true 53), [], [19,18,16,15,14,9,3,2,0,1,8,7,5,4,6,13,12,10,11,17]⟩, ⟨(gMv 55 54 false 8), [], [20,19,18,16,15,14,9,3,2,0,1,8,7,5,4,6,13,12,10,11,17]⟩, ⟨(gMv 56 54 false 10), [], [20,19,18,16,15,14,9,3,2,0,1,8,7,5,4,6,13,12,10,11,17]⟩, ⟨(gQ 57 54 false [56] (.bin .add (.t 56) (kI 1))), [], [22,20,19,18,16,15,14,9,3,2,0,1,8,7,5,4,6,13,12,10,11,17]⟩, ⟨(gMv 58 54 false 7), [], [20,19,18,16,15,14,9,3,2,0,1,8,7,5,4,6,13,12,10,11,17]⟩, ⟨(gQ 59 54 false [57,58] (.bin .rem (.t 57) (.t 58))), [], [23,22,20,19,18,16,15,14,9,3,2,0,1,8,7,5,4,6,13,12,10,11,17,24]⟩, ⟨(gQ 60 54 false [55,59] (.iad 1 (.t 55) (.t 59))), [], [21,20,19,18,16,15,14,9,3,2,0,1,8,7,5,4,6,13,12,10,11,17,25,23,22,24]⟩, ⟨(gQ 61 54 false [60] (.ld false 1 (.t 60))), [], [26,21,20,19,18,16,15,14,9,3,2,0,1,8,7,5,4,6,13,12,10,11,17,25,23,22,24]⟩, ⟨(gQ 62 49 true [54,61] (.pick (.t 54) (kB true) (.t 61))), [], [20,19,18,16,15,14,9,3,2,0,1,8,7,5,4,6,13,12,10,11,17,27,26,21,25,23,22,24]⟩, ⟨(cQ 63 [49,62] (.pick (.t 49) (.t 62) (kB false))), [], [15,14,9,3,2,0,1,8,7,5,4,6,13,12,10,11,28,20,19,18,16,17,27,26,21,25,23,22,24]⟩]) (.keep [1,2,3,7,8,9,10,63] (.cond (.t 63) (.any false 0 [⟨(cMv 64 8), [], []⟩, ⟨(cMv 65 10), [], []⟩, ⟨(cMv 66 8), [], []⟩, ⟨(cMv 67 10), [], []⟩, ⟨(cC 68 .add 67 1), [], [3]⟩, ⟨(cMv 69 7), [], []⟩, ⟨(cB 70 .rem 68 69), [], [4,3,5]⟩, ⟨(cA 71 1 64 65), [], [0,1]⟩, ⟨⟨none, none, [71], none, .w (.st 1 (.t 71) (kB true))⟩, [2,3,4,5,6], [7,0,1]⟩, ⟨(cA 72 1 66 70), [], [2,6,4,3,5,0,1,7,8]⟩, ⟨⟨none, none, [72], none, .w (.st 1 (.t 72) (kB true))⟩, [], [9,2,6,4,3,5,0,1,7,8]⟩]) .skip)))) (.keep [1,2,3,7,8,9,10] (.reg false [(cMv 32 10), (cC 33 .add 32 1), (cMv 10 33)])))))))))) (.keep [1,2,3,7,8,9] (.reg false [(cMv 27 9), (cC 28 .add 27 1), (cMv 9 28)]))))))))) (.keep [8] (.seq (.reg false [(cMv 73 8), (cMv 6 73)]) .ret)))))))))))
def pu60 : List Nat := [3]
def rs60 : List RV := [.t 6]
theorem cc60 : CCx Try.prog Try.f60 pu60 rc60 := by unfold CCx; kernel_rfl
theorem cb60 : CBx Try.f60 := by unfold CBx; kernel_rfl
theorem cs60 : CSx Try.prog Try.f60 rs60 := by unfold CSx; kernel_rfl
theorem cn60 : 3 ≤ Try.f60.ntmps := by decide
def rc61 : RC := (.seq (.reg false [(cX 2 0), (cI 4 0)]) (.keep [1,2] (.seq (.seq (.reg false [(cLd 8 2 true 11), (cQ 9 [8] (.call (kF 25) [(.t 8)])), (cMv 5 9)]) (.keep [1,2,5] (.seq (.reg false [(cMv 10 5), (cC 11 .neq 10 0)]) (.keep [1,2,5,11] (.cond (.t 11) (.seq (.reg false [(cMv 12 5), (cMv 4 12)]) .ret) .skip))))) (.keep [1,2] (.seq (.seq (.reg true [(cMv 13 1), (cC 14 .lss 13 0), (cMv 15 14), (gMv 16 15 false 1), (gQ 17 15 false [2] (.fad 9 (.t 2))), (gQ 18 15 false [17] (.ld false 1 (.t 17))), (gQ 19 15 false [18] (.len (.t 18))), (gQ 20 15 false [16,19] (.bin .geq (.t 16) (.t 19))), (cQ 21 [15,20] (.pick (.t 15) (kB true) (.t 20)))]) (.keep [2,21] (.cond (.t 21) (.seq (.reg false [(cI 4 1)]) .ret) .skip))) (.keep [2] (.seq (.reg false [(cFa 23 2 0), (cLd 24 23 true 6), (cQ 25 [24] (.call (kF 86) [(.t 24), (kI 0)])), (cMv 22 25), (cEx 26 22 0), (cEx 27 22 1), (cMv 6 26), (cMv 7 27)]) (.keep [7] (.seq (.reg false [(cMv 28 7), (cMv 4 28)]) .ret)))))))))
def pu61 : List Nat := [2]
def rs61 : List RV := [.t 4]
theorem cc61 : CCx Try.prog Try.f61 pu61 rc61 := by unfold CCx; kernel_rfl
theorem cb61 : CBx Try.f61 := by unfold CBx; kernel_rfl
theorem cs61 : CSx Try.prog Try.f61 rs61 := by unfold CSx; kernel_rfl
theorem cn61 : 2 ≤ Try.f61.ntmps := by decide
def rc62 : RC := (.seq (.reg false [(cX 3 0), (cI 6 0)]) (.keep [1,2,3] (.seq (.reg false [(cMv 14 2), (cLn 15 14), (cMv 7 15)]) (.keep [1,2,3,7] (.seq (.seq (.reg false [(cMv 16 7), (cFa 17 3 9), (cLd 18 17 false 1), (cLn 19 18), (cB 20 .eql 16 19)]) (.keep [1,2,3,7,20] (.cond (.t 20) (.seq (.seq (.reg false [(cLd 21 3 true 11), (cMv 22 1), (cMv 23 2), (cQ 24 [21,22,23] (.call (kF 53) [(.t 21), (.t 22), (.t 23)])), (cN 25 24)]) (.keep [2,7,25] (.cond (.t 25) (.seq (.reg false [(cQ 6 [] (.mv (.k (.i (-1)))))]) .ret) .skip))) (.keep [2,7] (.seq (.reg false [(cI 8 0)]) (.keep [2,7,8] (.seq (.seq (.reg false [(cI 9 0)]) (.keep [2,7,8,9] (.block 0 (.loop [2,7,8,9] none (.seq (.seq (.reg false [(cMv 26 9), (cMv 27 7), (cB 28 .lss 26 27)]) (.keep [2,7,8,9,28] (.cond (.t 28) .skip (.exit 0)))) (.keep [2,7,8,9] (.seq (.block 1 (.reg false [(cMv 31 8), (cMv 32 2), (cMv 33 9), (cA 34 1 32 33), (cLd 35 34 false 1), (cB 36 .add 31 35), (cMv 8 36)])) (.keep [2,7,8,9] (.reg false [(cMv 29 9), (cC 30 .add 29 1), (cMv 9 30)]))))))))) (.keep [8] (.seq (.reg false [(cMv 37 8), (cMv 6 37)]) .ret))))))) .skip))) (.keep [1,2,3,7] (.seq (.reg false [(cQ 10 [] (.mv (.k (.i (-1)))))]) (.keep [1,2,3,7,10] (.seq (.seq (.reg false [(cI 11 0)]) (.keep [1,2,3,7,10,11] (.block 2 (.loop [1,2,3,7,10,11] (some 0) (.seq (.seq (.reg false [(cMv 38 11), (cFa 39 3 6), (cLd 40 39 false 1), (cB 41 .lss 38 40)]) (.keep [1,2,3,7,10,11,41] (.cond (.t 41) .skip (.exit 2)))) (.keep [1,2,3,7,10,11] (.seq (.block 3 (.seq (.reg false [⟨(some 44), none, [], none, .w (.bso 1 0 [(.i 0)] [])⟩, (cMv 45 2), ⟨(some 46), none, [44,45], none, .w (.app 1 (.t 44) (.t 45))⟩, (cMv 47 11), (cQ 48 [47] (.bsl 1 1 [(.i 0)] [(0,1, (.t 47))])), ⟨(some 49), none, [46,48], none, .w (.app 1 (.t 46) (.t 48))⟩, (cMv 12 49)]) (.keep [1,2,3,7,10,11,12] (.seq (.seq (.any true 0 [⟨(cMv 50 7), [], []⟩, ⟨(cC 51 .gtr 50 0), [], [0]⟩, ⟨(cMv 52 51), [], [1,0]⟩, ⟨(gQ 53 52 true [3] (.ld true 11 (.t 3))), [], [2,1,0]⟩, ⟨(gMv 54 52 true 1), [], [2,1,0]⟩, ⟨(gMv 55 52 true 7), [], [2,1,0]⟩, ⟨(gQ 56 52 true [55] (.bin .sub (.t 55) (kI 1))), [], [5,2,1,0]⟩, ⟨(gQ 57 52 true [54,56] (.iad 1 (.t 54) (.t 56))), [], [4,2,1,0,6,5]⟩, ⟨(gQ 58 52 true [57] (.ld false 1 (.t 57))), [], [7,4,2,1,0,6,5]⟩, ⟨(gMv 59 52 true 12), [], [2,1,0]⟩, ⟨(gMv 60 52 true 7), [], [2,1,0]⟩, ⟨(gQ 61 52 true [60] (.bin .sub (.t 60) (kI 1))), [], [10,2,1,0]⟩, ⟨(gQ 62 52 true [59,61] (.iad 1 (.t 59) (.t 61))), [], [9,2,1,0,11,10]⟩, ⟨(gQ 63 52 true [62] (.ld false 1 (.t 62))), [], [12,9,2,1,0,11,10]⟩, ⟨(gMv 64 52 true 11), [], [2,1,0]⟩, ⟨(gQ 65 52 true [53,58,63,64] (.call (kF 91) [(.t 53), (.t 58), (.t 63), (.t 64)])), [], [3,2,1,0,8,7,4,6,5,13,12,9,11,10,14]⟩, ⟨(gQ 66 52 true [65] (.not (.t 65))), [], [15,3,2,1,0,8,7,4,6,5,13,12,9,11,10,14]⟩, ⟨(cQ 67 [52,66] (.pick (.t 52) (.t 66) (kB false))), [], [2,1,0,16,15,3,8,7,4,6,5,13,12,9,11,10,14]⟩]) (.keep [1,2,3,7,10,11,12,67] (.cond (.t 67) (.exit 3) .skip))) (.keep [1,2,3,7,10,11,12] (.seq (.reg false [(cLd 68 3 true 11), (cMv 69 1), (cMv 70 12), (cQ 71 [68,69,70] (.call (kF 62) [(.t 68), (.t 69), (.t 70)])), (cMv 13 71)]) (.keep [1,2,3,7,10,11,13] (.seq (.reg true [(cMv 72 13), (cC 73 .geq 72 0), (cMv 74 73), (gMv 75 74 true 10), (gQ 76 74 true [75] (.bin .lss (.t 75) (kI 0))), (gMv 77 74 true 76), (gMv 78 77 false 13), (gMv 79 77 false 10), (gQ 80 77 false [78,79] (.bin .lss (.t 78) (.t 79))), (gQ 81 74 true [77,80] (.pick (.t 77) (kB true) (.t 80))), (cQ 82 [74,81] (.pick (.t 74) (.t 81) (kB false)))]) (.keep [1,2,3,7,10,11,13,82] (.cond (.t 82) (.reg false [(cMv 83 13), (cMv 10 83)]) .skip)))))))))) (.drp 0 (.keep [1,2,3,7,10,11] (.reg false [(cMv 42 11), (cC 43 .add 42 1), (cMv 11 43)])))))))))) (.keep [10] (.seq (.reg false [(cMv 84 10), (cMv 6 84)]) .ret)))))))))))
def pu62 : List Nat := [3,48]
def rs62 : List RV := [.t 6]
theorem cc62 : CCx Try.prog Try.f62 pu62 rc62 := by unfold CCx; kernel_rfl
theorem cb62 : CBx Try.f62 := by unfold CBx; kernel_rfl
theorem cs62 : CSx Try.prog Try.f62 rs62 := by unfold CSx; kernel_rfl
theorem cn62 : 3 ≤ Try.f62.ntmps := by decide
def rc63 : RC := (.seq (.reg false [⟨(some 4), none, [], none, .w (.alc [(.z 1), (.i 0)])⟩, (cQ 5 [] (.mv (kB false)))]) (.keep [0,1,4] (.seq (.reg false [(cMv 22 0), (cMv 23 1), (cQ 24 [22,23] (.call (kF 87) [(.t 22), (.t 23)])), (cMv 6 24)]) (.keep [0,1,4,6] (.seq (.reg false [⟨(some 7), none, [], none, .w (.alc [(.z 1), (.i 0)])⟩]) (.keep [0,1,4,6,7] (.seq (.reg false [(cQ 8 [] (.mv (kB false)))]) (.keep [0,1,4,6,7,8] (.seq (.seq (.reg false [(cMv 25 0), (cZ 26 25), (cFa 27 26 0), (cFa 28 27 6), (cLd 29 28 false 1), (cI 30 0)]) (.keep [0,1,4,6,7,8,29,30] (.block 0 (.loop [0,1,4,6,7,8,29,30] (some 2) (.seq (.reg false [(cB 31 .lss 30 29)]) (.keep [0,1,4,6,7,8,29,30,31] (.seq (.cond (.t 31) .skip (.exit 0)) (.keep [0,1,4,6,7,8,29,30] (.seq (.block 1 (.seq (.reg false [(cMv 32 30), (cMv 9 32)]) (.keep [0,1,4,6,7,8,9,29,30] (.seq (.reg false [⟨(some 33), none, [], none, .w (.mkm false)⟩, (cMv 34 9), (cMv 35 9), (cQ 36 [35] (.bsl 1 1 [(.i 0)] [(0,1, (.t 35))])), (cMv 37 9), (cQ 38 [36,37] (.bld [(.z 1), (.i 0)] [(0,1, (.t 36)), (1,1, (.t 37))])), ⟨none, none, [33,34,38], none, .w (.mup 3 false (.t 33) (.t 34) (.t 38))⟩, (cMv 39 33), (cMv 10 39)]) (.keep [0,1,4,6,7,8,9,10,29,30] (.seq (.seq (.reg false [(cMv 40 6), (cLn 41 40), (cC 42 .sub 41 1), (cI 43 0)]) (.keep [0,1,4,6,7,8,9,10,29,30,42,43] (.block 2 (.loop [0,1,4,6,7,8,9,10,29,30,42,43] (some 3) (.seq (.reg false [(cB 44 .lss 43 42)]) (.keep [0,1,4,6,7,8,9,10,29,30,42,43,44] (.seq (.cond (.t 44) .skip (.exit 2)) (.keep [0,1,4,6,7,8,9,10,29,30,42,43] (.seq (.block 3 (.seq (.reg false [(cMv 45 43), (cMv 11 45)]) (.keep [0,1,4,6,7,8,9,10,11,29,30,42,43] (.seq (.reg false [⟨(some 46), none, [], none, .w (.mkm false)⟩, (cMv 12 46)]) (.keep [0,1,4,6,7,8,9,10,11,12,29,30,42,43] (.seq (.seq (.reg false [(cMv 47 10), ⟨(some 48), none, [47], none, .w (.rng (.t 47))⟩]) (.keep [0,1,4,6,7,8,9,11,12,29,30,42,43,48] (.block 4 (.loop [0,1,4,6,7,8,9,11,12,29,30,42,43,48] (some 5) (.seq (.nxt 49 50 48) (.keep [0,1,4,6,7,8,9,11,12,29,30,42,43,48,50] (.seq (.cond (.t 50) .skip (.exit 4)) (.keep [0,1,4,6,7,8,9,11,12,29,30,42,43,48] (.block 5 (.seq (.reg false [(cQ 51 [48] (.ent (.t 48))), (cEx 52 51 0), (cEx 53 51 1), ⟨(some 14), none, [], none, .w (.alc [(.z 1), (.i 0)])⟩, (cMv 13 52), ⟨none, none, [14,53], none, .w (.st 2 (.t 14) (.t 53))⟩]) (.keep [0,1,4,6,7,8,9,11,12,13,14,29,30,42,43,48] (.seq (.reg false [(cMv 54 6), (cMv 55 11), (cA 56 1 54 55), (cLd 57 56 false 1), (cLn 58 57), (cI 59 0)]) (.keep [0,1,4,6,7,8,9,11,12,13,14,29,30,42,43,48,57,58,59] (.block 6 (.loop [0,1,4,6,7,8,9,11,12,13,14,29,30,42,43,48,57,58,59] (some 6) (.seq (.reg false [(cB 60 .lss 59 58)]) (.keep [0,1,4,6,7,8,9,11,12,13,14,29,30,42,43,48,57,58,59,60] (.seq (.cond (.t 60) .skip (.exit 6)) (.keep [0,1,4,6,7,8,9,11,12,13,14,29,30,42,43,48,57,58,59] (.seq (.block 7 (.seq (.reg false [(cA 61 1 57 59), (cLd 62 61 false 1), (cMv 16 62)]) (.keep [0,1,4,6,7,8,9,11,12,13,14,16,29,30,42,43,48,57,58,59] (.seq (.reg false [(cMv 63 0), (cMv 64 13), (cMv 65 16), (cB 66 .add 64 65), (cQ 67 [63,66] (.call (kF 84) [(.t 63), (.t 66)])), (cMv 17 67)]) (.keep [0,1,4,6,7,8,9,11,12,13,14,17,29,30,42,43,48,57,58,59] (.seq (.reg false [(cMv 69 12), (cMv 70 17), (cQ 71 [69,70] (.lkp (.ag [(.z 1), (.i 0)]) true 3 false (.t 69) (.t 70))), (cMv 68 71), (cEx 72 68 0), (cEx 73 68 1), ⟨(some 18), none, [], none, .w (.alc [(.z 1), (.i 0)])⟩, ⟨none, none, [18,72], none, .w (.st 2 (.t 18) (.t 72))⟩, (cMv 19 73)]) (.keep [0,1,4,6,7,8,9,11,12,13,14,17,18,19,29,30,42,43,48,57,58,59] (.seq (.reg true [(cMv 74 19), (cN 75 74), (cMv 76 75), (gQ 77 76 false [14] (.fad 1 (.t 14))), (gQ 78 76 false [77] (.ld false 1 (.t 77))), (gMv 79 76 false 17), (gQ 80 76 false [78,79] (.bin .add (.t 78) (.t 79))), (gQ 81 76 false [18] (.fad 1 (.t 18))), (gQ 82 76 false [81] (.ld false 1 (.t 81))), (gQ 83 76 false [80,82] (.bin .lss (.t 80) (.t 82))), (cQ 84 [76,83] (.pick (.t 76) (kB true) (.t 83)))]) (.keep [0,1,4,6,7,8,9,11,12,13,14,17,29,30,42,43,48,57,58,59,84] (.cond (.t 84) (.any false 1 [⟨(cMv 85 12), [], []⟩, ⟨(cMv 86 17), [], []⟩, ⟨(cFa 87 14 0), [], []⟩, ⟨(cLd 88 87 false 1), [], [2]⟩, ⟨(cFa 89 14 0), [], []⟩, ⟨(cLd 90 89 false 1), [], [4]⟩, ⟨(cLn 91 90), [], [5,4]⟩, ⟨(cFa 92 14 0), [], []⟩, ⟨(cLd 93 92 false 1), [], [7]⟩, ⟨(cLn 94 93), [], [8,7]⟩, ⟨(cQ 95 [88,91,94] (.slx 1 (.t 88) (.t 91) (.t 94))), [], [3,2,6,5,4,9,8,7]⟩, ⟨(cMv 96 17), [], []⟩, ⟨(cQ 97 [96] (.bsl 1 1 [(.i 0)] [(0,1, (.t 96))])), [], [11]⟩, ⟨⟨(some 98), none, [95,97], (some 0), .w (.app 1 (.t 95) (.t 97))⟩, [0,1], [10,3,2,6,5,4,9,8,7,12,11]⟩, ⟨(cFa 99 14 1), [13], []⟩, ⟨(cLd 100 99 false 1), [13], [14]⟩, ⟨(cMv 101 17), [13], []⟩, ⟨(cB 102 .add 100 101), [13], [15,14,16]⟩, ⟨(cQ 103 [98,102] (.bld [(.z 1), (.i 0)] [(0,1, (.t 98)), (1,1, (.t 102))])), [], [13,10,3,2,6,5,4,9,8,7,12,11,17,15,14,16]⟩, ⟨⟨none, none, [85,86,103], none, .w (.mup 3 false (.t 85) (.t 86) (.t 103))⟩, [], [0,1,18,13,10,3,2,6,5,4,9,8,7,12,11,17,15,14,16]⟩]) .skip)))))))))) (.drp 6 (.keep [0,1,4,6,7,8,9,11,12,13,14,29,30,42,43,48,57,58,59] (.reg false [(cC 104 .add 59 1), (cMv 59 104)]))))))))))))))))))))))) (.keep [0,1,4,6,7,8,9,12,29,30,42,43] (.swp 2 3 (.reg false [(cMv 105 12), (cMv 10 105)]))))))))) (.drp 3 (.keep [0,1,4,6,7,8,9,10,29,30,42,43] (.reg false [(cC 106 .add 43 1), (cMv 43 106)])))))))))))) (.keep [0,1,4,6,7,8,9,10,29,30] (.seq (.reg false [(cMv 107 10), ⟨(some 108), none, [107], none, .w (.rng (.t 107))⟩]) (.keep [0,1,4,6,7,8,9,29,30,108] (.block 8 (.loop [0,1,4,6,7,8,9,29,30,108] (some 4) (.seq (.nxt 109 110 108) (.keep [0,1,4,6,7,8,9,29,30,108,110] (.seq (.cond (.t 110) .skip (.exit 8)) (.keep [0,1,4,6,7,8,9,29,30,108] (.block 9 (.seq (.reg false [(cQ 111 [108] (.ent (.t 108))), (cEx 112 111 0), (cEx 113 111 1), ⟨(some 21), none, [], none, .w (.alc [(.z 1), (.i 0)])⟩, (cMv 20 112), ⟨none, none, [21,113], none, .w (.st 2 (.t 21) (.t 113))⟩]) (.keep [0,1,4,6,7,8,9,20,21,29,30,108] (.seq (.reg true [(cMv 114 0), (cMv 115 6), (cLn 116 115), (cC 117 .sub 116 1), (cMv 118 0), (cMv 119 9), (cMv 120 20), (cB 121 .sub 119 120), (cQ 122 [118,121] (.call (kF 84) [(.t 118), (.t 121)])), (cMv 123 1), (cQ 124 [114,117,122,123] (.call (kF 83) [(.t 114), (.t 117), (.t 122), (.t 123)])), (cC 125 .eql 124 1), (cMv 126 125), (gMv 127 126 true 8), (gQ 128 126 true [127] (.not (.t 127))), (gMv 129 126 true 128), (gQ 130 129 false [21] (.fad 1 (.t 21))), (gQ 131 129 false [130] (.ld false 1 (.t 130))), (gQ 132 129 false [7] (.fad 1 (.t 7))), (gQ 133 129 false [132] (.ld false 1 (.t 132))), (gQ 134 129 false [131,133] (.bin .lss (.t 131) (.t 133))), (gQ 135 126 true [129,134] (.pick (.t 129) (kB true) (.t 134))), (cQ 136 [126,135] (.pick (.t 126) (.t 135) (kB false)))]) (.keep [0,1,4,6,7,8,9,21,29,30,108,136] (.cond (.t 136) (.reg false [(cLd 137 21 true 2), ⟨none, none, [7,137], none, .w (.st 2 (.t 7) (.t 137))⟩, (cQ 8 [] (.mv (kB true)))]) .skip))))))))))))))))))))) (.drp 2 (.keep [0,1,4,6,7,8,29,30] (.reg false [(cC 138 .add 30 1), (cMv 30 138)])))))))))))) (.keep [4,7,8] (.seq (.reg false [(cLd 139 7 true 2), (cMv 140 8), ⟨none, none, [4,139], none, .w (.st 2 (.t 4) (.t 139))⟩, (cMv 5 140)]) .ret)))))))))))
def pu63 : List Nat := [36,97]
def rs63 : List RV := [.c 4 true 2, .t 5]
theorem cc63 : CCx Try.prog Try.f63 pu63 rc63 := by unfold CCx; kernel_rfl
theorem cb63 : CBx Try.f63 := by unfold CBx; kernel_rfl
theorem cs63 : CSx Try.prog Try.f63 rs63 := by unfold CSx; kernel_rfl
theorem cn63 : 2 ≤ Try.f63.ntmps := by decide
def rc64 : RC := (.seq (.reg false [(cX 3 0), (cI 6 0)]) (.keep [1,2,3] (.seq (.seq (.reg false [(cMv 11 2), (cC 12 .eql 11 0)]) (.keep [1,2,3,12] (.cond (.t 12) (.seq (.reg false [(cI 6 0)]) .ret) .skip))) (.keep [1,2,3] (.seq (.reg false [(cFa 13 3 10), (cLd 14 13 false 1), (cLn 15 14), (cMv 7 15)]) (.keep [1,2,3,7] (.seq (.reg false [(cQ 8 [] (.mv (.k (.i (-1)))))]) (.keep [1,2,3,7,8] (.seq (.seq (.reg false [(cI 9 1)]) (.keep [1,2,3,7,8,9] (.block 0 (.loop [1,2,3,7,8,9] none (.seq (.seq (.reg false [(cMv 16 9), (cMv 17 2), (cB 18 .leq 16 17)]) (.keep [1,2,3,7,8,9,18] (.cond (.t 18) .skip (.exit 0)))) (.keep [1,2,3,7,8,9] (.seq (.block 1 (.seq (.any false 0 [⟨(cLd 21 3 true 11), [], []⟩, ⟨(cMv 22 1), [], []⟩, ⟨(cMv 23 9), [], []⟩, ⟨(cC 24 .sub 23 1), [], [2]⟩, ⟨(cQ 25 [21,22,24] (.call (kF 64) [(.t 21), (.t 22), (.t 24)])), [], [0,1,3,2]⟩, ⟨(cLd 26 3 true 11), [], []⟩, ⟨(cMv 27 1), [], []⟩, ⟨(cMv 28 9), [], []⟩, ⟨(cB 29 .add 27 28), [], [6,7]⟩, ⟨(cMv 30 2), [], []⟩, ⟨(cMv 31 9), [], []⟩, ⟨(cB 32 .sub 30 31), [], [9,10]⟩, ⟨(cQ 33 [26,29,32] (.call (kF 64) [(.t 26), (.t 29), (.t 32)])), [], [5,8,6,7,11,9,10,4,0,1,3,2]⟩, ⟨(cQ 34 [25,33] (.mx (.t 25) (.t 33))), [], [4,0,1,3,2,12,5,8,6,7,11,9,10]⟩, ⟨(cFa 35 3 10), [], []⟩, ⟨(cLd 36 35 false 1), [], [14]⟩, ⟨(cMv 37 1), [], []⟩, ⟨(cMv 38 9), [], []⟩, ⟨(cB 39 .add 37 38), [], [16,17]⟩, ⟨(cMv 40 7), [], []⟩, ⟨(cB 41 .rem 39 40), [], [18,16,17,19]⟩, ⟨(cA 42 1 36 41), [], [15,14,20,18,16,17,19]⟩, ⟨(cLd 43 42 false 1), [], [21,15,14,20,18,16,17,19]⟩, ⟨(cB 44 .add 34 43), [], [13,4,0,1,3,2,12,5,8,6,7,11,9,10,22,21,15,14,20,18,16,17,19]⟩, ⟨(cMv 10 44), [], [23,13,4,0,1,3,2,12,5,8,6,7,11,9,10,22,21,15,14,20,18,16,17,19]⟩]) (.keep [1,2,3,7,8,9,10] (.seq (.reg true [(cMv 45 8), (cC 46 .lss 45 0), (cMv 47 46), (gMv 48 47 false 10), (gMv 49 47 false 8), (gQ 50 47 false [48,49] (.bin .lss (.t 48) (.t 49))), (cQ 51 [47,50] (.pick (.t 47) (kB true) (.t 50)))]) (.keep [1,2,3,7,8,9,10,51] (.cond (.t 51) (.reg false [(cMv 52 10), (cMv 8 52)]) .skip)))))) (.keep [1,2,3,7,8,9] (.reg false [(cMv 19 9), (cC 20 .add 19 1), (cMv 9 20)]))))))))) (.keep [8] (.seq (.reg false [(cMv 53 8), (cMv 6 53)]) .ret)))))))))))
def pu64 : List Nat := [3]
def rs64 : List RV := [.t 6]
theorem cc64 : CCx Try.prog Try.f64 pu64 rc64 := by unfold CCx; kernel_rfl
theorem cb64 : CBx Try.f64 := by unfold CBx; kernel_rfl
theorem cs64 : CSx Try.prog Try.f64 rs64 := by unfold CSx; kernel_rfl
theorem cn64 : 3 ≤ Try.f64.ntmps := by decide
def rc65 : RC := (.seq (.reg false [(cQ 2 [] (.mv (.k .pn)))]) (.keep [0] (.seq (.reg false [(cMv 14 0), ⟨(some 15), none, [], none, .w (.mkm true)⟩, ⟨(some 16), none, [], none, .w (.mkm true)⟩, (cQ 17 [14,15,16] (.bld [(.z 1), .u, .u] [(0,1, (.t 14)), (1,1, (.t 15)), (2,1, (.t 16))])), ⟨(some 18), none, [17], none, .w (.bxo (.t 17))⟩, (cMv 3 18)]) (.keep [0,3] (.seq (.seq (.reg false [(cMv 19 0), (cLn 20 19), (cI 21 0)]) (.keep [0,3,20,21] (.block 0 (.loop [0,3,20,21] none (.seq (.reg false [(cB 22 .lss 21 20)]) (.keep [0,3,20,21,22] (.seq (.cond (.t 22) .skip (.exit 0)) (.keep [0,3,20,21] (.seq (.block 1 (.seq (.reg false [(cMv 23 21), (cMv 4 23)]) (.keep [0,3,4,20,21] (.reg false [(cMv 24 3), (cZ 25 24), (cFa 26 25 1), (cLd 27 26 false 1), (cMv 28 4), (cQ 29 [28] (.bld [(.i 0), (.i 0)] [(0,1, (.t 28)), (1,1, (kI 0))])), ⟨none, none, [27,29], none, .w (.mup 86 true (.t 27) (.t 29) (kI 0))⟩])))) (.keep [0,3,20,21] (.reg false [(cC 30 .add 21 1), (cMv 21 30)]))))))))))) (.keep [0,3] (.seq (.seq (.reg false [(cI 5 1)]) (.keep [0,3,5] (.block 2 (.loop [0,3,5] (some 3) (.seq (.seq (.reg false [(cMv 31 5), (cMv 32 0), (cLn 33 32), (cB 34 .lss 31 33)]) (.keep [0,3,5,34] (.cond (.t 34) .skip (.exit 2)))) (.keep [0,3,5] (.seq (.block 3 (.seq (.reg false [(cMv 37 0), (cLn 38 37), (cI 39 0)]) (.keep [0,3,5,38,39] (.block 4 (.loop [0,3,5,38,39] (some 3) (.seq (.reg false [(cB 40 .lss 39 38)]) (.keep [0,3,5,38,39,40] (.seq (.cond (.t 40) .skip (.exit 4)) (.keep [0,3,5,38,39] (.seq (.block 5 (.seq (.reg false [(cMv 41 39), (cMv 6 41)]) (.keep [0,3,5,6,38,39] (.seq (.reg false [(cMv 42 6), (cMv 43 5), (cQ 44 [42,43] (.bld [(.i 0), (.i 0)] [(0,1, (.t 42)), (1,1, (.t 43))])), ⟨(some 7), none, [], none, .w (.alc [(.i 0), (.i 0)])⟩, ⟨none, none, [7,44], none, .w (.st 2 (.t 7) (.t 44))⟩]) (.keep [0,3,5,6,7,38,39] (.seq (.reg false [(cMv 45 5), (cI 46 0)]) (.keep [0,3,5,6,7,38,39,45,46] (.block 6 (.loop [0,3,5,6,7,38,39,45,46] (some 4) (.seq (.reg false [(cB 47 .lss 46 45)]) (.keep [0,3,5,6,7,38,39,45,46,47] (.seq (.cond (.t 47) .skip (.exit 6)) (.keep [0,3,5,6,7,38,39,45,46] (.seq (.block 7 (.seq (.reg false [(cMv 48 46), (cMv 8 48)]) (.keep [0,3,5,6,7,8,38,39,45,46] (.seq (.reg false [(cMv 50 3), (cLd 51 7 true 2), (cMv 52 8), (cQ 53 [50,51,52] (.call (kF 92) [(.t 50), (.t 51), (.t 52)])), (cMv 49 53), (cEx 54 49 0), (cEx 55 49 1), ⟨(some 9), none, [], none, .w (.alc [(.i 0), (.i 0)])⟩, ⟨(some 10), none, [], none, .w (.alc [(.i 0), (.i 0)])⟩, ⟨none, none, [9,54], none, .w (.st 2 (.t 9) (.t 54))⟩, ⟨none, none, [10,55], none, .w (.st 2 (.t 10) (.t 55))⟩]) (.keep [0,3,5,6,7,8,9,10,38,39,45,46] (.seq (.any false 0 [⟨(cMv 56 3), [], []⟩, ⟨(cZ 57 56), [], [0]⟩, ⟨(cFa 58 57 1), [], [1,0]⟩, ⟨(cLd 59 58 false 1), [], [2,1,0]⟩, ⟨(cLd 60 9 true 2), [], []⟩, ⟨(cQ 61 [59,60] (.lkp (.i 0) false 86 true (.t 59) (.t 60))), [], [3,2,1,0,4]⟩, ⟨(cMv 62 3), [], []⟩, ⟨(cZ 63 62), [], [6]⟩, ⟨(cFa 64 63 1), [], [7,6]⟩, ⟨(cLd 65 64 false 1), [], [8,7,6]⟩, ⟨(cLd 66 10 true 2), [], []⟩, ⟨(cQ 67 [65,66] (.lkp (.i 0) false 86 true (.t 65) (.t 66))), [], [9,8,7,6,10]⟩, ⟨(cQ 68 [61,67] (.mx (.t 61) (.t 67))), [], [5,3,2,1,0,4,11,9,8,7,6,10]⟩, ⟨(cMv 69 0), [], []⟩, ⟨(cMv 70 3), [], []⟩, ⟨(cMv 71 6), [], []⟩, ⟨(cMv 72 8), [], []⟩, ⟨(cQ 73 [70,71,72] (.call (kF 67) [(.t 70), (.t 71), (.t 72)])), [], [14,15,16]⟩, ⟨(cA 74 1 69 73), [], [13,17,14,15,16]⟩, ⟨(cLd 75 74 false 1), [], [18,13,17,14,15,16]⟩, ⟨(cB 76 .add 68 75), [], [12,5,3,2,1,0,4,11,9,8,7,6,10,19,18,13,17,14,15,16]⟩, ⟨(cMv 11 76), [], [20,12,5,3,2,1,0,4,11,9,8,7,6,10,19,18,13,17,14,15,16]⟩]) (.keep [0,3,5,6,7,8,11,38,39,45,46] (.seq (.any false 0 [⟨(cMv 78 3), [], []⟩, ⟨(cZ 79 78), [], [0]⟩, ⟨(cFa 80 79 1), [], [1,0]⟩, ⟨(cLd 81 80 false 1), [], [2,1,0]⟩, ⟨(cLd 82 7 true 2), [], []⟩, ⟨(cQ 83 [81,82] (.lkp (.i 0) true 86 true (.t 81) (.t 82))), [], [3,2,1,0,4]⟩, ⟨(cMv 77 83), [], [5,3,2,1,0,4]⟩, ⟨(cEx 84 77 0), [], [6,5,3,2,1,0,4]⟩, ⟨(cEx 85 77 1), [], [6,5,3,2,1,0,4]⟩, ⟨(cMv 12 84), [], [7,6,5,3,2,1,0,4]⟩, ⟨(cMv 13 85), [], [8,6,5,3,2,1,0,4,9,7]⟩]) (.keep [0,3,5,6,7,8,11,12,13,38,39,45,46] (.seq (.reg true [(cMv 86 13), (cN 87 86), (cMv 88 87), (gMv 89 88 false 11), (gMv 90 88 false 12), (gQ 91 88 false [89,90] (.bin .lss (.t 89) (.t 90))), (cQ 92 [88,91] (.pick (.t 88) (kB true) (.t 91)))]) (.keep [0,3,5,6,7,8,11,38,39,45,46,92] (.cond (.t 92) (.any false 0 [⟨(cMv 93 3), [], []⟩, ⟨(cZ 94 93), [], [0]⟩, ⟨(cFa 95 94 1), [], [1,0]⟩, ⟨(cLd 96 95 false 1), [], [2,1,0]⟩, ⟨(cLd 97 7 true 2), [], []⟩, ⟨(cMv 98 3), [], []⟩, ⟨(cZ 99 98), [], [5]⟩, ⟨(cFa 100 99 2), [], [6,5]⟩, ⟨(cLd 101 100 false 1), [], [7,6,5]⟩, ⟨(cLd 102 7 true 2), [], []⟩, ⟨(cMv 103 11), [], []⟩, ⟨(cMv 104 8), [], []⟩, ⟨⟨(some 105), none, [96,97], none, .w (.men 86 true (.i 0) (.t 96) (.t 97))⟩, [9,10,11], [3,2,1,0,4,8,7,6,5]⟩, ⟨(cEx 106 105 1), [], [12,3,2,1,0,4,8,7,6,5]⟩, ⟨⟨none, none, [96,106,103], none, .w (.mes (.t 96) (.t 106) (.t 103))⟩, [9,11], [3,2,1,0,13,12,4,8,7,6,5,10]⟩, ⟨⟨(some 107), none, [101,102], none, .w (.men 86 true (.i 0) (.t 101) (.t 102))⟩, [11], [8,7,6,5,9,14,3,2,1,0,13,12,4,10]⟩, ⟨(cEx 108 107 1), [], [15,8,7,6,5,9,14,3,2,1,0,13,12,4,10]⟩, ⟨⟨none, none, [101,108,104], none, .w (.mes (.t 101) (.t 108) (.t 104))⟩, [], [8,7,6,5,16,15,9,14,3,2,1,0,13,12,4,10,11]⟩]) .skip)))))))))))) (.drp 4 (.keep [0,3,5,6,7,38,39,45,46] (.reg false [(cC 109 .add 46 1), (cMv 46 109)]))))))))))))))))) (.drp 3 (.keep [0,3,5,38,39] (.reg false [(cC 110 .add 39 1), (cMv 39 110)]))))))))))))) (.drp 3 (.keep [0,3,5] (.reg false [(cMv 35 5), (cC 36 .add 35 1), (cMv 5 36)])))))))))) (.keep [3] (.seq (.reg false [(cMv 111 3), (cMv 2 111)]) .ret)))))))))
def pu65 : List Nat := []
def rs65 : List RV := [.t 2]
theorem cc65 : CCx Try.prog Try.f65 pu65 rc65 := by unfold CCx; kernel_rfl
theorem cb65 : CBx Try.f65 := by unfold CBx; kernel_rfl
theorem cs65 : CSx Try.prog Try.f65 rs65 := by unfold CSx; kernel_rfl
theorem cn65 : 1 ≤ Try.f65.ntmps := by decide
def rc66 : RC := (.seq (.reg false [⟨(some 4), none, [], none, .w (.alc [(.i 0), (.i 0)])⟩]) (.keep [0,1,2,4] (.seq (.any false 0 [⟨(cLd 5 1 false 1), [], []⟩, ⟨(cMv 6 0), [], []⟩, ⟨(cQ 7 [5,6] (.call (kF 67) [(.t 5), (.t 6), (kI 1)])), [], [0,1]⟩, ⟨(cLd 8 2 false 1), [], []⟩, ⟨(cC 9 .sub 8 1), [], [3]⟩, ⟨(cQ 10 [7,9] (.bld [(.i 0), (.i 0)] [(0,1, (.t 7)), (1,1, (.t 9))])), [], [2,0,1,4,3]⟩, ⟨⟨none, none, [4,10], none, .w (.st 2 (.t 4) (.t 10))⟩, [], [5,2,0,1,4,3]⟩]) .ret)))
def pu66 : List Nat := []
def rs66 : List RV := [.c 4 true 2]
theorem cc66 : CCx Try.prog Try.f66 pu66 rc66 := by unfold CCx; kernel_rfl
theorem cb66 : CBx Try.f66 := by unfold CBx; kernel_rfl
theorem cs66 : CSx Try.prog Try.f66 rs66 := by unfold CSx; kernel_rfl
theorem cn66 : 3 ≤ Try.f66.ntmps := by decide
def rc67 : RC := (.seq (.reg false [(cI 6 0)]) (.keep [0,1,2] (.seq (.reg false [(cMv 7 1), (cMv 8 2), (cB 9 .add 7 8), (cMv 10 0), (cZ 11 10), (cFa 12 11 0), (cLd 13 12 false 1), (cLn 14 13), (cB 15 .rem 9 14), (cMv 6 15)]) .ret)))
def pu67 : List Nat := []
def rs67 : List RV := [.t 6]
theorem cc67 : CCx Try.prog Try.f67 pu67 rc67 := by unfold CCx; kernel_rfl
theorem cb67 : CBx Try.f67 := by unfold CBx; kernel_rfl
theorem cs67 : CSx Try.prog Try.f67 rs67 := by unfold CSx; kernel_rfl
theorem cn67 : 3 ≤ Try.f67.ntmps := by decide
def rc68 : RC := (.seq (.reg false [(cX 4 1)]) (.keep [0,2,4] (.seq (.seq (.reg false [(cFa 8 4 1), (cLd 9 8 false 1), (cC 10 .eql 9 0)]) (.keep [0,2,4,10] (.cond (.t 10) .ret .skip))) (.keep [0,2,4] (.seq (.any false 2 [⟨(cMv 12 0), [], []⟩, ⟨(cLd 13 4 true 2), [], []⟩, ⟨(cMv 14 0), [], []⟩, ⟨(cZ 15 14), [], [2]⟩, ⟨(cFa 16 15 2), [], [3,2]⟩, ⟨(cLd 17 16 false 1), [], [4,3,2]⟩, ⟨(cLd 18 4 true 2), [], []⟩, ⟨(cQ 19 [17,18] (.lkp (.i 0) false 86 true (.t 17) (.t 18))), [], [5,4,3,2,6]⟩, ⟨(cQ 20 [12,13,19] (.call (kF 92) [(.t 12), (.t 13), (.t 19)])), [], [0,1,7,5,4,3,2,6]⟩, ⟨(cMv 11 20), [], [8,0,1,7,5,4,3,2,6]⟩, ⟨(cEx 21 11 0), [], [9,8,0,1,7,5,4,3,2,6]⟩, ⟨(cEx 22 11 1), [], [9,8,0,1,7,5,4,3,2,6]⟩, ⟨⟨(some 6), none, [], (some 0), .w (.alc [(.i 0), (.i 0)])⟩, [0,1,2,3,4,5,6,7,8,9,10,11], []⟩, ⟨⟨(some 7), none, [], (some 1), .w (.alc [(.i 0), (.i 0)])⟩, [0,1,2,3,4,5,6,7,8,9,10,11,12], []⟩, ⟨⟨none, none, [6,21], none, .w (.st 2 (.t 6) (.t 21))⟩, [11], [12,10,9,8,0,1,7,5,4,3,2,6,13]⟩, ⟨⟨none, none, [7,22], none, .w (.st 2 (.t 7) (.t 22))⟩, [], [13,11,9,8,0,1,7,5,4,3,2,6,14,12,10]⟩]) (.keep [0,2,4,6,7] (.seq (.any false 0 [⟨(cMv 23 2), [], []⟩, ⟨(cMv 24 0), [], []⟩, ⟨(cFa 25 4 0), [], []⟩, ⟨(cLd 26 25 false 1), [], [2]⟩, ⟨(cMv 27 0), [], []⟩, ⟨(cZ 28 27), [], [4]⟩, ⟨(cFa 29 28 2), [], [5,4]⟩, ⟨(cLd 30 29 false 1), [], [6,5,4]⟩, ⟨(cLd 31 4 true 2), [], []⟩, ⟨(cQ 32 [30,31] (.lkp (.i 0) false 86 true (.t 30) (.t 31))), [], [7,6,5,4,8]⟩, ⟨(cQ 33 [24,26,32] (.call (kF 67) [(.t 24), (.t 26), (.t 32)])), [], [1,3,2,9,7,6,5,4,8]⟩, ⟨(cMv 34 0), [], []⟩, ⟨(cZ 35 34), [], [11]⟩, ⟨(cFa 36 35 1), [], [12,11]⟩, ⟨(cLd 37 36 false 1), [], [13,12,11]⟩, ⟨(cLd 38 6 true 2), [], []⟩, ⟨(cQ 39 [37,38] (.lkp (.i 0) false 86 true (.t 37) (.t 38))), [], [14,13,12,11,15]⟩, ⟨(cMv 40 0), [], []⟩, ⟨(cZ 41 40), [], [17]⟩, ⟨(cFa 42 41 1), [], [18,17]⟩, ⟨(cLd 43 42 false 1), [], [19,18,17]⟩, ⟨(cLd 44 7 true 2), [], []⟩, ⟨(cQ 45 [43,44] (.lkp (.i 0) false 86 true (.t 43) (.t 44))), [], [20,19,18,17,21]⟩, ⟨(cQ 46 [39,45] (.mx (.t 39) (.t 45))), [], [16,14,13,12,11,15,22,20,19,18,17,21]⟩, ⟨(cA 47 1 23 33), [], [0,10,1,3,2,9,7,6,5,4,8,11,12,13,14,15,16,17,18,19,20,21,22,23]⟩, ⟨⟨none, none, [47,46], none, .w (.st 1 (.t 47) (.t 46))⟩, [], [24,0,10,1,3,2,9,7,6,5,4,8,11,12,13,14,15,16,17,18,19,20,21,22,23]⟩]) (.keep [0,2,6,7] (.seq (.drp 6 (.hcl false [(cMv 48 0), (cLd 49 6 true 2), (cMv 50 2)] ⟨(some 51), none, [48,49,50], none, .o (kF 68) [(.t 48), (.t 49), (.t 50)]⟩ [])) (.keep [0,2,7] (.drp 6 (.hcl false [(cMv 52 0), (cLd 53 7 true 2), (cMv 54 2)] ⟨(some 55), none, [52,53,54], none, .o (kF 68) [(.t 52), (.t 53), (.t 54)]⟩ []))))))))))))
def pu68 : List Nat := [4]
def rs68 : List RV := []
theorem cb68 : CBx Try.f68 := by unfold CBx; kernel_rfl
theorem cs68 : CSx Try.prog Try.f68 rs68 := by unfold CSx; kernel_rfl
theorem cn68 : 3 ≤ Try.f68.ntmps := by decide
def rc70 : RC := (.seq (.reg false [(cQ 6 [] (.mv (kB false)))]) (.keep [0,1,2] (.seq (.reg true [(cMv 7 1), (cMv 8 0), (cB 9 .leq 7 8), (cMv 10 9), (gMv 11 10 true 0), (gMv 12 10 true 2), (gQ 13 10 true [11,12] (.bin .leq (.t 11) (.t 12))), (cQ 14 [10,13] (.pick (.t 10) (.t 13) (kB false))), (cMv 6 14)]) .ret)))
def pu70 : List Nat := []
def rs70 : List RV := [.t 6]
theorem cc70 : CCx Try.prog Try.f70 pu70 rc70 := by unfold CCx; kernel_rfl
theorem cb70 : CBx Try.f70 := by unfold CBx; kernel_rfl
theorem cs70 : CSx Try.prog Try.f70 rs70 := by unfold CSx; kernel_rfl
theorem cn70 : 3 ≤ Try.f70.ntmps := by decide
def rc71 : RC := (.seq (.reg false [(cI 4 0)]) (.keep [0,1] (.seq (.reg false [(cMv 5 0), (cMv 6 1), (cB 7 .rem 5 6), (cMv 8 1), (cB 9 .add 7 8), (cMv 10 1), (cB 11 .rem 9 10), (cMv 4 11)]) .ret)))
def pu71 : List Nat := []
def rs71 : List RV := [.t 4]
theorem cc71 : CCx Try.prog Try.f71 pu71 rc71 := by unfold CCx; kernel_rfl
theorem cb71 : CBx Try.f71 := by unfold CBx; kernel_rfl
theorem cs71 : CSx Try.prog Try.f71 rs71 := by unfold CSx; kernel_rfl
theorem cn71 : 2 ≤ Try.f71.ntmps := by decide
def rc73 : RC := (.seq (.reg false [(cX 3 0), (cQ 6 [] (.mv (kB false)))]) (.keep [1,2,3] (.seq (.any false 0 [⟨(cMv 7 1), [], []⟩, ⟨(cMv 8 2), [], []⟩, ⟨(cB 9 .sub 7 8), [], [0,1]⟩, ⟨(cFa 10 3 6), [], []⟩, ⟨(cLd 11 10 false 1), [], [3]⟩, ⟨(cQ 12 [9,11] (.call (kF 71) [(.t 9), (.t 11)])), [], [2,0,1,4,3]⟩, ⟨(cMv 13 2), [], []⟩, ⟨(cMv 14 1), [], []⟩, ⟨(cB 15 .sub 13 14), [], [6,7]⟩, ⟨(cFa 16 3 6), [], []⟩, ⟨(cLd 17 16 false 1), [], [9]⟩, ⟨(cQ 18 [15,17] (.call (kF 71) [(.t 15), (.t 17)])), [], [8,6,7,10,9,5,2,0,1,4,3]⟩, ⟨(cQ 19 [12,18] (.mn (.t 12) (.t 18))), [], [5,2,0,1,4,3,11,8,6,7,10,9]⟩, ⟨(cFa 20 3 8), [], []⟩, ⟨(cLd 21 20 false 1), [], [13]⟩, ⟨(cB 22 .leq 19 21), [], [12,5,2,0,1,4,3,11,8,6,7,10,9,14,13]⟩, ⟨(cMv 6 22), [], [15,12,5,2,0,1,4,3,11,8,6,7,10,9,14,13]⟩]) .ret)))
def pu73 : List Nat := [3]
def rs73 : List RV := [.t 6]
theorem cc73 : CCx Try.prog Try.f73 pu73 rc73 := by unfold CCx; kernel_rfl
theorem cb73 : CBx Try.f73 := by unfold CBx; kernel_rfl
theorem cs73 : CSx Try.prog Try.f73 rs73 := by unfold CSx; kernel_rfl
theorem cn73 : 3 ≤ Try.f73.ntmps := by decide
def rc75 : RC := (.seq (.reg false [(cX 1 0), (cQ 2 [] (.mv (kB false)))]) (.keep [1] (.seq (.seq (.reg true [(cFa 4 1 6), (cLd 5 4 false 1), (cQ 6 [5] (.call (kF 70) [(.t 5), (kI 1), (kI 60)])), (cN 7 6), (cMv 8 7), (gQ 9 8 false [1] (.fad 7 (.t 1))), (gQ 10 8 false [9] (.ld false 1 (.t 9))), (gQ 11 8 false [10] (.call (kF 70) [(.t 10), (kI 0), (kI 2000)])), (gQ 12 8 false [11] (.not (.t 11))), (cQ 13 [8,12] (.pick (.t 8) (kB true) (.t 12))), (cMv 14 13), (gQ 15 14 false [1] (.fad 8 (.t 1))), (gQ 16 14 false [15] (.ld false 1 (.t 15))), (gQ 17 14 false [1] (.fad 6 (.t 1))), (gQ 18 14 false [17] (.ld false 1 (.t 17))), (gQ 19 14 false [18] (.bin .quo (.t 18) (kI 2))), (gQ 20 14 false [16,19] (.call (kF 70) [(.t 16), (kI 0), (.t 19)])), (gQ 21 14 false [20] (.not (.t 20))), (cQ 22 [14,21] (.pick (.t 14) (kB true) (.t 21))), (cMv 23 22), (gQ 24 23 false [1] (.fad 9 (.t 1))), (gQ 25 23 false [24] (.ld false 1 (.t 24))), (gQ 26 23 false [25] (.len (.t 25))), (gQ 27 23 false [1] (.fad 0 (.t 1))), (gQ 28 23 false [27] (.fad 1 (.t 27))), (gQ 29 23 false [28] (.ld false 1 (.t 28))), (gQ 30 23 false [29] (.len (.t 29))), (gQ 31 23 false [26,30] (.bin .neq (.t 26) (.t 30))), (cQ 32 [23,31] (.pick (.t 23) (kB true) (.t 31))), (cMv 33 32), (gQ 34 33 false [1] (.fad 10 (.t 1))), (gQ 35 33 false [34] (.ld false 1 (.t 34))), (gQ 36 33 false [35] (.len (.t 35))), (gQ 37 33 false [1] (.fad 0 (.t 1))), (gQ 38 33 false [37] (.fad 1 (.t 37))), (gQ 39 33 false [38] (.ld false 1 (.t 38))), (gQ 40 33 false [39] (.len (.t 39))), (gQ 41 33 false [36,40] (.bin .neq (.t 36) (.t 40))), (cQ 42 [33,41] (.pick (.t 33) (kB true) (.t 41)))]) (.keep [1,42] (.cond (.t 42) (.seq (.reg false [(cQ 2 [] (.mv (kB false)))]) .ret) .skip))) (.keep [1] (.seq (.seq (.reg false [(cFa 43 1 9), (cLd 44 43 false 1), (cLn 45 44), (cI 46 0)]) (.keep [1,45,46] (.block 0 (.loop [1,45,46] none (.seq (.reg false [(cB 47 .lss 46 45)]) (.keep [1,45,46,47] (.seq (.cond (.t 47) .skip (.exit 0)) (.keep [1,45,46] (.seq (.block 1 (.seq (.reg false [(cMv 48 46), (cMv 3 48)]) (.keep [1,3,45,46] (.seq (.any true 0 [⟨(cFa 49 1 9), [], []⟩, ⟨(cLd 50 49 false 1), [], [0]⟩, ⟨(cMv 51 3), [], []⟩, ⟨(cA 52 1 50 51), [], [1,0,2]⟩, ⟨(cLd 53 52 false 1), [], [3,1,0,2]⟩, ⟨(cFa 54 1 6), [], []⟩, ⟨(cLd 55 54 false 1), [], [5]⟩, ⟨(cC 56 .sub 55 1), [], [6,5]⟩, ⟨(cQ 57 [53,56] (.call (kF 70) [(.t 53), (kI 0), (.t 56)])), [], [4,3,1,0,2,7,6,5]⟩, ⟨(cN 58 57), [], [8,4,3,1,0,2,7,6,5]⟩, ⟨(cMv 59 58), [], [9,8,4,3,1,0,2,7,6,5]⟩, ⟨(gQ 60 59 false [1] (.fad 10 (.t 1))), [], [10,9,8,4,3,1,0,2,7,6,5]⟩, ⟨(gQ 61 59 false [60] (.ld false 1 (.t 60))), [], [11,10,9,8,4,3,1,0,2,7,6,5]⟩, ⟨(gMv 62 59 false 3), [], [10,9,8,4,3,1,0,2,7,6,5]⟩, ⟨(gQ 63 59 false [61,62] (.iad 1 (.t 61) (.t 62))), [], [12,11,10,9,8,4,3,1,0,2,7,6,5,13]⟩, ⟨(gQ 64 59 false [63] (.ld false 1 (.t 63))), [], [14,12,11,10,9,8,4,3,1,0,2,7,6,5,13]⟩, ⟨(gQ 65 59 false [64] (.call (kF 70) [(.t 64), (kI 1), (kI 99)])), [], [15,14,12,11,10,9,8,4,3,1,0,2,7,6,5,13]⟩, ⟨(gQ 66 59 false [65] (.not (.t 65))), [], [16,15,14,12,11,10,9,8,4,3,1,0,2,7,6,5,13]⟩, ⟨(cQ 67 [59,66] (.pick (.t 59) (kB true) (.t 66))), [], [10,9,8,4,3,1,0,2,7,6,5,17,16,15,14,12,11,13]⟩]) (.keep [1,45,46,67] (.cond (.t 67) (.seq (.reg false [(cQ 2 [] (.mv (kB false)))]) .ret) .skip)))))) (.keep [1,45,46] (.reg false [(cC 68 .add 46 1), (cMv 46 68)]))))))))))) (.keep [] (.seq (.reg false [(cQ 2 [] (.mv (kB true)))]) .ret)))))))
def pu75 : List Nat := [1]
def rs75 : List RV := [.t 2]
theorem cc75 : CCx Try.prog Try.f75 pu75 rc75 := by unfold CCx; kernel_rfl
theorem cb75 : CBx Try.f75 := by unfold CBx; kernel_rfl
theorem cs75 : CSx Try.prog Try.f75 rs75 := by unfold CSx; kernel_rfl
theorem cn75 : 1 ≤ Try.f75.ntmps := by decide
def rc76 : RC := (.seq (.reg false [(cX 4 0), (cI 8 0)]) (.keep [1,2,3,4] (.seq (.reg false [(cI 9 0)]) (.keep [1,2,3,4,9] (.seq (.seq (.reg false [(cI 10 0)]) (.keep [1,2,3,4,9,10] (.block 0 (.loop [1,2,3,4,9,10] none (.seq (.seq (.reg false [(cMv 11 10), (cMv 12 1), (cLn 13 12), (cB 14 .lss 11 13)]) (.keep [1,2,3,4,9,10,14] (.cond (.t 14) .skip (.exit 0)))) (.keep [1,2,3,4,9,10] (.seq (.block 1 (.seq (.any false 0 [⟨(cLd 17 4 true 11), [], []⟩, ⟨(cMv 18 2), [], []⟩, ⟨(cMv 19 3), [], []⟩, ⟨(cMv 20 1), [], []⟩, ⟨(cMv 21 10), [], []⟩, ⟨(cA 22 1 20 21), [], [3,4]⟩, ⟨(cLd 23 22 false 1), [], [5,3,4]⟩, ⟨(cQ 24 [17,18,19,23] (.call (kF 39) [(.t 17), (.t 18), (.t 19), (.t 23)])), [], [0,1,2,6,5,3,4]⟩]) (.keep [1,2,3,4,9,10,24] (.cond (.t 24) (.reg false [(cMv 25 9), (cC 26 .add 25 1), (cMv 9 26)]) .skip)))) (.keep [1,2,3,4,9,10] (.reg false [(cMv 15 10), (cC 16 .add 15 1), (cMv 10 16)]))))))))) (.keep [9] (.seq (.reg false [(cMv 27 9), (cMv 8 27)]) .ret)))))))
def pu76 : List Nat := [4]
def rs76 : List RV := [.t 8]
theorem cc76 : CCx Try.prog Try.f76 pu76 rc76 := by unfold CCx; kernel_rfl
theorem cb76 : CBx Try.f76 := by unfold CBx; kernel_rfl
theorem cs76 : CSx Try.prog Try.f76 rs76 := by unfold CSx; kernel_rfl
theorem cn76 : 4 ≤ Try.f76.ntmps := by decide
def rc83 : RC := (.seq (.reg false [(cI 8 0)]) (.keep [0,1,2,3] (.seq (.reg false [(cI 9 0)]) (.keep [0,1,2,3,9] (.seq (.seq (.reg false [(cMv 12 0), (cZ 13 12), (cFa 14 13 11), (cLd 15 14 false 1), (cMv 16 1), (cA 17 1 15 16), (cLd 18 17 false 1), (cLn 19 18), (cI 20 0)]) (.keep [0,1,2,3,9,18,19,20] (.block 0 (.loop [0,1,2,3,9,18,19,20] none (.seq (.reg false [(cB 21 .lss 20 19)]) (.keep [0,1,2,3,9,18,19,20,21] (.seq (.cond (.t 21) .skip (.exit 0)) (.keep [0,1,2,3,9,18,19,20] (.seq (.block 1 (.seq (.reg false [(cA 22 1 18 20), (cLd 23 22 false 1), (cMv 11 23)]) (.keep [0,1,2,3,9,11,18,19,20] (.seq (.reg false [(cMv 24 0), (cMv 25 11), (cMv 26 2), (cQ 27 [24,25,26] (.call (kF 104) [(.t 24), (.t 25), (.t 26)])), (cMv 28 3), (cB 29 .leq 27 28)]) (.keep [0,1,2,3,9,18,19,20,29] (.cond (.t 29) (.reg false [(cMv 30 9), (cC 31 .add 30 1), (cMv 9 31)]) .skip)))))) (.keep [0,1,2,3,9,18,19,20] (.reg false [(cC 32 .add 20 1), (cMv 20 32)]))))))))))) (.keep [0,1,9] (.seq (.seq (.reg false [(cMv 33 9)]) (.keep [0,1,33] (.block 2 (.seq (.reg false [(cMv 35 0), (cZ 36 35), (cFa 37 36 11), (cLd 38 37 false 1), (cMv 39 1), (cA 40 1 38 39), (cLd 41 40 false 1), (cLn 42 41), (cB 43 .eql 33 42), (cMv 34 43)]) (.keep [33,34] (.cond (.t 34) (.seq (.reg false [(cI 8 1)]) .ret) (.seq (.reg false [(cC 45 .eql 33 0), (cMv 44 45)]) (.keep [44] (.cond (.t 44) (.seq (.reg false [(cI 8 2)]) .ret) .skip))))))))) (.keep [] (.seq (.reg false [(cI 8 3)]) .ret)))))))))
def pu83 : List Nat := []
def rs83 : List RV := [.t 8]
theorem cc83 : CCx Try.prog Try.f83 pu83 rc83 := by unfold CCx; kernel_rfl
theorem cb83 : CBx Try.f83 := by unfold CBx; kernel_rfl
theorem cs83 : CSx Try.prog Try.f83 rs83 := by unfold CSx; kernel_rfl
theorem cn83 : 4 ≤ Try.f83.ntmps := by decide
def rc84 : RC := (.seq (.reg false [(cI 4 0)]) (.keep [0,1] (.seq (.any false 0 [⟨(cMv 5 1), [], []⟩, ⟨(cMv 6 0), [], []⟩, ⟨(cZ 7 6), [], [1]⟩, ⟨(cFa 8 7 0), [], [2,1]⟩, ⟨(cFa 9 8 6), [], [3,2,1]⟩, ⟨(cLd 10 9 false 1), [], [4,3,2,1]⟩, ⟨(cB 11 .rem 5 10), [], [0,5,4,3,2,1]⟩, ⟨(cMv 12 0), [], []⟩, ⟨(cZ 13 12), [], [7]⟩, ⟨(cFa 14 13 0), [], [8,7]⟩, ⟨(cFa 15 14 6), [], [9,8,7]⟩, ⟨(cLd 16 15 false 1), [], [10,9,8,7]⟩, ⟨(cB 17 .add 11 16), [], [6,0,5,4,3,2,1,11,10,9,8,7]⟩, ⟨(cMv 18 0), [], []⟩, ⟨(cZ 19 18), [], [13]⟩, ⟨(cFa 20 19 0), [], [14,13]⟩, ⟨(cFa 21 20 6), [], [15,14,13]⟩, ⟨(cLd 22 21 false 1), [], [16,15,14,13]⟩, ⟨(cB 23 .rem 17 22), [], [12,6,0,5,4,3,2,1,11,10,9,8,7,17,16,15,14,13]⟩, ⟨(cMv 4 23), [], [18,12,6,0,5,4,3,2,1,11,10,9,8,7,17,16,15,14,13]⟩]) .ret)))
def pu84 : List Nat := []
def rs84 : List RV := [.t 4]
theorem cc84 : CCx Try.prog Try.f84 pu84 rc84 := by unfold CCx; kernel_rfl
theorem cb84 : CBx Try.f84 := by unfold CBx; kernel_rfl
theorem cs84 : CSx Try.prog Try.f84 rs84 := by unfold CSx; kernel_rfl
theorem cn84 : 2 ≤ Try.f84.ntmps := by decide
def rc85 : RC := (.seq (.reg false [(cI 4 0)]) (.keep [0,1] (.seq (.reg false [(cMv 5 1), (cC 6 .add 5 1), (cMv 7 0), (cZ 8 7), (cFa 9 8 11), (cLd 10 9 false 1), (cLn 11 10), (cB 12 .rem 6 11), (cMv 4 12)]) .ret)))
def pu85 : List Nat := []
def rs85 : List RV := [.t 4]
theorem cc85 : CCx Try.prog Try.f85 pu85 rc85 := by unfold CCx; kernel_rfl
theorem cb85 : CBx Try.f85 := by unfold CBx; kernel_rfl
theorem cs85 : CSx Try.prog Try.f85 rs85 := by unfold CSx; kernel_rfl
theorem cn85 : 2 ≤ Try.f85.ntmps := by decide
end Go.C02
set_option maxRecDepth 8000
namespace Go.C02
open Go.Fam Go.Proofs
def rc87 : RC := (.seq (.reg false [(cQ 4 [] (.mv (.k (.z 1))))]) (.keep [0,1] (.seq (.reg false [(cMv 8 0), (cZ 9 8), (cFa 10 9 11), (cLd 11 10 false 1), (cLn 12 11), ⟨(some 13), none, [12,12], none, .w (.mks 1 [(.z 1)] (.t 12) (.t 12))⟩, (cMv 5 13)]) (.keep [0,1,5] (.seq (.seq (.reg false [(cMv 14 0), (cZ 15 14), (cFa 16 15 11), (cLd 17 16 false 1), (cLn 18 17), (cI 19 0)]) (.keep [0,1,5,18,19] (.block 0 (.loop [0,1,5,18,19] none (.seq (.reg false [(cB 20 .lss 19 18)]) (.keep [0,1,5,18,19,20] (.seq (.cond (.t 20) .skip (.exit 0)) (.keep [0,1,5,18,19] (.seq (.block 1 (.seq (.reg false [(cMv 21 19), (cMv 6 21)]) (.keep [0,1,5,6,18,19] (.seq (.reg false [(cMv 22 0), (cZ 23 22), (cFa 24 23 0), (cFa 25 24 6), (cLd 26 25 false 1), (cI 27 0)]) (.keep [0,1,5,6,18,19,26,27] (.block 2 (.owni 5 6 0 1 (.loop [0,1,5,6,18,19,26,27] none (.seq (.reg false [(cB 28 .lss 27 26)]) (.keep [0,1,5,6,18,19,26,27,28] (.seq (.cond (.t 28) .skip (.exit 2)) (.keep [0,1,5,6,18,19,26,27] (.seq (.block 3 (.seq (.reg false [(cMv 29 27), (cMv 7 29)]) (.keep [0,1,5,6,7,18,19,26,27] (.seq (.reg false [(cMv 30 0), (cMv 31 6), (cMv 32 7), (cMv 33 1), (cQ 34 [30,31,32,33] (.call (kF 83) [(.t 30), (.t 31), (.t 32), (.t 33)])), (cC 35 .eql 34 1)]) (.keep [0,1,5,6,7,18,19,26,27,35] (.cond (.t 35) (.reg false [(cMv 36 5), (cMv 37 6), (cMv 38 5), (cMv 39 6), (cA 40 1 38 39), (cLd 41 40 false 1), (cMv 42 7), (cQ 43 [42] (.bsl 1 1 [(.i 0)] [(0,1, (.t 42))])), ⟨(some 44), none, [41,43], none, .w (.app 1 (.t 41) (.t 43))⟩, (cA 45 1 36 37), ⟨none, none, [45,44], none, .w (.st 1 (.t 45) (.t 44))⟩]) .skip)))))) (.keep [0,1,5,6,18,19,26,27] (.reg false [(cC 46 .add 27 1), (cMv 27 46)]))))))))))))))) (.keep [0,1,5,18,19] (.drp 1 (.reg false [(cC 47 .add 19 1), (cMv 19 47)])))))))))))) (.keep [5] (.seq (.drp 0 (.reg false [(cMv 48 5), (cMv 4 48)])) .ret)))))))
def pu87 : List Nat := [43]
def rs87 : List RV := [.t 4]
theorem cc87 : CCx Try.prog Try.f87 pu87 rc87 := by unfold CCx; kernel_rfl
theorem cb87 : CBx Try.f87 := by unfold CBx; kernel_rfl
theorem cs87 : CSx Try.prog Try.f87 rs87 := by unfold CSx; kernel_rfl
theorem cn87 : 2 ≤ Try.f87.ntmps := by decide
def rc91 : RC := (.seq (.reg false [(cX 4 0), (cQ 8 [] (.mv (kB false)))]) (.keep [1,2,3,4] (.seq (.seq (.reg false [(cI 9 0)]) (.keep [1,2,3,4,9] (.block 0 (.loop [1,2,3,4,9] none (.seq (.seq (.reg false [(cMv 10 9), (cMv 11 1), (cLn 12 11), (cB 13 .lss 10 12)]) (.keep [1,2,3,4,9,13] (.cond (.t 13) .skip (.exit 0)))) (.keep [1,2,3,4,9] (.seq (.block 1 (.seq (.any false 0 [⟨(cLd 16 4 true 11), [], []⟩, ⟨(cMv 17 2), [], []⟩, ⟨(cFa 18 4 7), [], []⟩, ⟨(cLd 19 18 false 1), [], [2]⟩, ⟨(cMv 20 1), [], []⟩, ⟨(cMv 21 9), [], []⟩, ⟨(cA 22 1 20 21), [], [4,5]⟩, ⟨(cLd 23 22 false 1), [], [6,4,5]⟩, ⟨(cQ 24 [19,23] (.call (kF 72) [(.t 19), (.t 23)])), [], [3,2,7,6,4,5]⟩, ⟨(cB 25 .add 17 24), [], [1,8,3,2,7,6,4,5]⟩, ⟨(cFa 26 4 6), [], []⟩, ⟨(cLd 27 26 false 1), [], [10]⟩, ⟨(cQ 28 [25,27] (.call (kF 71) [(.t 25), (.t 27)])), [], [9,1,8,3,2,7,6,4,5,11,10]⟩, ⟨(cMv 29 3), [], []⟩, ⟨(cQ 30 [16,28,29] (.call (kF 73) [(.t 16), (.t 28), (.t 29)])), [], [0,12,9,1,8,3,2,7,6,4,5,11,10,13]⟩, ⟨(cN 31 30), [], [14,0,12,9,1,8,3,2,7,6,4,5,11,10,13]⟩]) (.keep [1,2,3,4,9,31] (.cond (.t 31) (.seq (.reg false [(cQ 8 [] (.mv (kB false)))]) .ret) .skip)))) (.keep [1,2,3,4,9] (.reg false [(cMv 14 9), (cC 15 .add 14 1), (cMv 9 15)]))))))))) (.keep [] (.seq (.reg false [(cQ 8 [] (.mv (kB true)))]) .ret)))))
def pu91 : List Nat := [4]
def rs91 : List RV := [.t 8]
theorem cc91 : CCx Try.prog Try.f91 pu91 rc91 := by unfold CCx; kernel_rfl
theorem cb91 : CBx Try.f91 := by unfold CBx; kernel_rfl
theorem cs91 : CSx Try.prog Try.f91 rs91 := by unfold CSx; kernel_rfl
theorem cn91 : 4 ≤ Try.f91.ntmps := by decide
def rc92 : RC := (.seq (.reg false [(cX 4 1), ⟨(some 6), none, [], none, .w (.alc [(.i 0), (.i 0)])⟩, ⟨(some 7), none, [], none, .w (.alc [(.i 0), (.i 0)])⟩]) (.keep [0,2,4,6,7] (.seq (.any false 0 [⟨(cFa 8 4 0), [], []⟩, ⟨(cLd 9 8 false 1), [], [0]⟩, ⟨(cMv 10 2), [], []⟩, ⟨(cQ 11 [9,10] (.bld [(.i 0), (.i 0)] [(0,1, (.t 9)), (1,1, (.t 10))])), [], [1,0,2]⟩, ⟨(cMv 12 0), [], []⟩, ⟨(cFa 13 4 0), [], []⟩, ⟨(cLd 14 13 false 1), [], [5]⟩, ⟨(cMv 15 2), [], []⟩, ⟨(cC 16 .add 15 1), [], [7]⟩, ⟨(cQ 17 [12,14,16] (.call (kF 67) [(.t 12), (.t 14), (.t 16)])), [], [4,6,5,8,7]⟩, ⟨(cFa 18 4 1), [], []⟩, ⟨(cLd 19 18 false 1), [], [10]⟩, ⟨(cMv 20 2), [], []⟩, ⟨(cB 21 .sub 19 20), [], [11,10,12]⟩, ⟨(cC 22 .sub 21 1), [], [13,11,10,12]⟩, ⟨(cQ 23 [17,22] (.bld [(.i 0), (.i 0)] [(0,1, (.t 17)), (1,1, (.t 22))])), [], [9,4,6,5,8,7,14,13,11,10,12]⟩, ⟨⟨none, none, [6,11], none, .w (.st 2 (.t 6) (.t 11))⟩, [10,11,12,13,14,15], [3,1,0,2,9,4,6,5,8,7]⟩, ⟨⟨none, none, [7,23], none, .w (.st 2 (.t 7) (.t 23))⟩, [], [15,9,4,6,5,8,7,14,13,11,10,12,16,3,1,0,2]⟩]) .ret)))
def pu92 : List Nat := [4]
def rs92 : List RV := [.c 6 true 2, .c 7 true 2]
theorem cc92 : CCx Try.prog Try.f92 pu92 rc92 := by unfold CCx; kernel_rfl
theorem cb92 : CBx Try.f92 := by unfold CBx; kernel_rfl
theorem cs92 : CSx Try.prog Try.f92 rs92 := by unfold CSx; kernel_rfl
theorem cn92 : 3 ≤ Try.f92.ntmps := by decide
def rc104 : RC := (.seq (.reg false [(cI 6 0)]) (.keep [0,1,2] (.seq (.reg false [(cMv 7 0), (cMv 8 1), (cMv 9 2), (cB 10 .sub 8 9), (cQ 11 [7,10] (.call (kF 84) [(.t 7), (.t 10)])), (cMv 12 0), (cMv 13 2), (cMv 14 1), (cB 15 .sub 13 14), (cQ 16 [12,15] (.call (kF 84) [(.t 12), (.t 15)])), (cQ 17 [11,16] (.mn (.t 11) (.t 16))), (cMv 6 17)]) .ret)))
def pu104 : List Nat := []
def rs104 : List RV := [.t 6]
theorem cc104 : CCx Try.prog Try.f104 pu104 rc104 := by unfold CCx; kernel_rfl
theorem cb104 : CBx Try.f104 := by unfold CBx; kernel_rfl
theorem cs104 : CSx Try.prog Try.f104 rs104 := by unfold CSx; kernel_rfl
theorem cn104 : 3 ≤ Try.f104.ntmps := by decide
end Go.C02
set_option linter.unusedSimpArgs false
set_option linter.unusedVariables false
namespace Go.C02
open Go.Fam Go.Proofs
structure Fig where
 dome : Dome
 period : Int
 run : Int
 near : Int
 starts : List Int
 times : List Int
structure Ring where
 fig : Fig
 moves : List (List Int)
def eFig (f : Fig) : List V := [.sl 4 (f.dome.bolts.map eBolt), .sl 1 (f.dome.gores.map eI), .i f.dome.loss, .sl 2 (f.dome.rounds.map eSpan), .sl 1 (f.dome.widths.map eI), .i f.dome.slope,
 .i f.period, .i f.run, .i f.near, .sl 1 (f.starts.map eI), .sl 1 (f.times.map eI)]
def Qb5 (r : Ring) : List V := [.sl 4 (r.fig.dome.bolts.map eBolt), .sl 1 (r.fig.dome.gores.map eI), .i r.fig.dome.loss, .sl 2 (r.fig.dome.rounds.map eSpan), .sl 1 (r.fig.dome.widths.map eI), .i r.fig.dome.slope,
 .i r.fig.period, .i r.fig.run, .i r.fig.near, .sl 1 (r.fig.starts.map eI), .sl 1 (r.fig.times.map eI), .sl 1 (r.moves.map eCan)]
def dFig : List V → Fig | [a, b, c, d, e, f, g, h, i, j, k] => ⟨Qjh [a, b, c, d, e, f], gI g, gI h, gI i, (gR j).map dI, (gR k).map dI⟩ | _ => ⟨Qjh [], 0, 0, 0, [], []⟩
def Qpm : List V → Ring | [a, b, c, d, e, f, g, h, i, j, k, l] => ⟨dFig [a, b, c, d, e, f, g, h, i, j, k], (gR l).map dCan⟩ | _ => ⟨dFig [], []⟩
theorem Qcw (f : Fig) : dFig (eFig f) = f := by
 have := Qdh f.dome
 unfold Qal at this
 simp [dFig, eFig, gI, gR, this, Function.comp_def, Qfc]
theorem Qrc (r : Ring) : Qpm (Qb5 r) = r := by
 have := Qcw r.fig
 unfold eFig at this
 simp [Qpm, Qb5, gR, this, Function.comp_def, Qv9]
def modN (a n : Int) : Int := ((a.tmod n) + n).tmod n
theorem Qma {a n : Int} (hn : 0 < n) : -n < a.tmod n ∧ a.tmod n < n := by
 have h1 := Zl a hn
 have h2 := Int.neg_tmod a n
 have h3 := Zl (-a) hn
 omega
theorem Qeg {a n : Int} (hn : 0 < n) : modN a n = a % n := by
 unfold modN
 have h := Qma (a := a) hn
 rw [Int.tmod_eq_emod_of_nonneg (by omega), Int.add_emod_right, Int.tmod_eq_emod]
 split
 ·simp
 ·rw [Int.sub_emod]; simp [Int.natAbs_of_nonneg (Int.le_of_lt hn)]
theorem W70 (n lo hi : Int) : Qab Try.prog 70 [.i n, .i lo, .i hi] (.b (Qak n lo hi)) := by
 refine Qac okZ hmix Try.func70 cb70 cc70 cs70 cn70 ?_
 simp only [rc70, rs70, Qa7, Qa8, Qai, Qa4, Qae, Qa5, Qa2, Fam.step, Qaf, Qbz, Qbq, ug, evO, opv, qv, Qb2, binV, Qa3, Qa0, Qa1, ↓reduceIte, Nat.reduceEqDiff, Nat.reduceAdd, Qa, Qb, Zb, Q2, endQ, rvs, rv1, resV, vw_b, zipA, Qf, V.b.injEq, Qu, Q8, decide_eq_true_eq, decide_eq_false_iff_not, true_and, and_true, and_self, implies_true, reduceCtorEq, beq_true, Qff, imp_self]
 by_cases h : lo ≤ n <;> simp [h, Qak]
theorem W71 (a n : Int) (hn : 0 < n ∧ n ≤ 1000000) : Qab Try.prog 71 [.i a, .i n] (.i (modN a n)) := by
 refine Qac okZ hmix Try.func71 cb71 cc71 cs71 cn71 ?_
 simp only [rc71, rs71, Qa7, Qa8, Qai, Qa4, Qae, Qa5, Qa2, Fam.step, Qaf, evO, opv, qv, binV, Qa3, Qa0, Qa1, ↓reduceIte, Nat.reduceEqDiff, Qa, Qb, endQ, rvs, rv1, resV, vw_i, zipA, Qf, V.i.injEq, true_and, and_self, reduceCtorEq, ne_eq]
 have := Qma (a := a) hn.1
 refine ⟨by omega, by unfold inI; omega, by omega, rfl⟩
theorem W84 (r : Ring) (a : Int) (hn : 0 < r.fig.period ∧ r.fig.period ≤ 1000000) : Qab Try.prog 84 [.pa (Qb5 r), .i a] (.i (modN a r.fig.period)) := by
 refine Qac okZ hmix Try.func84 cb84 cc84 cs84 cn84 ?_
 simp only [rc84, rs84, Qa7, Qbf, Qa8, Qai, Qa4, Qba, Qae, Qa5, Qa2, Fam.step, Qaf, runX, eff, Qb9, fpR, fpQ, fpV, Qbp, hits, evO, opv, qv, binV, ldV, Qa3, Qa0, Qa1, ↓reduceIte, Nat.reduceEqDiff, Nat.reduceAdd, Nat.reduceLeDiff, Qa, Qb, Q2, Qe, Qd, Qk, Ql, Qj, Qm, Qg, Qr, Q3, Zr, Qx, Zs, endQ, rvs, rv1, resV, vw_i, zipA, Qf, V.i.injEq, Qu, Q8, Zw, Qt, Zt, Zo, Qc, true_and, and_self, reduceCtorEq, ne_eq, Z0, Zp, Qi, Qb5]
 have := Qma (a := a) hn.1
 refine ⟨by omega, by unfold inI; omega, by omega, rfl⟩
theorem W85 (r : Ring) (a : Int) (hn : 0 < r.moves.length ∧ r.moves.length ≤ 1000000) (ha : tame 1000000 a) : Qab Try.prog 85 [.pa (Qb5 r), .i a] (.i ((a + 1).tmod r.moves.length)) := by
 refine Qac okZ hmix Try.func85 cb85 cc85 cs85 cn85 ?_
 simp only [rc85, rs85, Qa7, Qa8, Qai, Qa4, Qae, Qa5, Qa2, Fam.step, Qaf, evO, opv, qv, binV, ldV, lenV, Qa3, Qa0, Qa1, ↓reduceIte, Nat.reduceEqDiff, Nat.reduceLeDiff, Qa, Qb, Qe, Qd, Qk, Ql, Qj, endQ, rvs, rv1, resV, vw_i, zipA, Qf, Qc, true_and, and_true, and_self, reduceCtorEq, ne_eq, Qn, Qb5]
 unfold tame at ha
 exact ⟨by unfold inI; omega, by omega⟩
def eRN (a : Ring × Int) : List V := [.pa (Qb5 a.1), .i a.2]
def dRN : List V → Ring × Int | [.pa r, .i n] => (Qpm r, n) | _ => (Qpm [], 0)
theorem Qrb (a : Ring × Int) : dRN (eRN a) = a := by obtain ⟨r, n⟩ := a; simp [dRN, eRN, Qrc]
def s70 : List V → Prop × V | [.i n, .i lo, .i hi] => (True, .b (Qak n lo hi)) | _ => (False, .u)
theorem Zcz (vs : List V) (h : (s70 vs).1) : Qab Try.prog 70 vs (s70 vs).2 := by
 unfold s70 at h ⊢
 split at h
 ·exact W70 _ _ _
 ·exact h.elim
def s71 : List V → Prop × V | [.i a, .i n] => (0 < n ∧ n ≤ 1000000, .i (modN a n)) | _ => (False, .u)
theorem Zd0 (vs : List V) (h : (s71 vs).1) : Qab Try.prog 71 vs (s71 vs).2 := by
 unfold s71 at h ⊢
 split at h
 ·exact W71 _ _ h
 ·exact h.elim
def s84 : List V → Prop × V := fnG eRN dRN (fun a => 0 < a.1.fig.period ∧ a.1.fig.period ≤ 1000000) (fun a => modN a.2 a.1.fig.period) .i
def s85 : List V → Prop × V := fnG eRN dRN (fun a => (0 < a.1.moves.length ∧ a.1.moves.length ≤ 1000000) ∧ tame 1000000 a.2) (fun a => (a.2 + 1).tmod a.1.moves.length) .i
noncomputable def H1 : Gam := (((GZ.ext 70 s70).ext 71 s71).ext 84 s84).ext 85 s85
theorem okH1 : GOk Try.prog H1 := by
 have k1 := okZ.ext (f := 70) (r := s70) (fun a w => Try.call70 a w) Zcz
 have k2 := k1.ext (f := 71) (r := s71) (fun a w => Try.call71 a w) Zd0
 have k3 := k2.ext (f := 84) (r := s84) (fun a w => Try.call84 a w) (Qau fun a h => W84 a.1 a.2 h)
 exact k3.ext (f := 85) (r := s85) (fun a w => Try.call85 a w) (Qau fun a h => W85 a.1 a.2 h.1 h.2)
theorem h70 (n lo hi : Int) : H1 70 [.i n, .i lo, .i hi] = (True, .b (Qak n lo hi)) := rfl
theorem h84 (r : Ring) (a : Int) : H1 84 [.pa (Qb5 r), .i a] = (0 < r.fig.period ∧ r.fig.period ≤ 1000000, .i (modN a r.fig.period)) :=
 (show H1 84 _ = s84 (eRN (r, a)) from rfl).trans (Qb1 _ (Qrb _))
theorem h85 (r : Ring) (a : Int) : H1 85 [.pa (Qb5 r), .i a] = ((0 < r.moves.length ∧ r.moves.length ≤ 1000000) ∧ tame 1000000 a, .i ((a + 1).tmod r.moves.length)) :=
 (show H1 85 _ = s85 (eRN (r, a)) from rfl).trans (Qb1 _ (Qrb _))
def farN (p a b : Int) : Int := min (modN (a - b) p) (modN (b - a) p)
theorem W104 (r : Ring) (a b : Int) (hn : 0 < r.fig.period ∧ r.fig.period ≤ 1000000) (ha : tame 1000000 a) (hb : tame 1000000 b) : Qab Try.prog 104 [.pa (Qb5 r), .i a, .i b] (.i (farN r.fig.period a b)) := by
 refine Qac okH1 hmix Try.func104 cb104 cc104 cs104 cn104 ?_
 have g1 := h84 r (a - b)
 have g2 := h84 r (b - a)
 unfold Qb5 at g1 g2
 unfold tame at ha hb
 simp only [rc104, rs104, g1, g2, Qa7, Qa8, Qai, Qa4, Qae, Qa5, Qa2, Fam.step, Qaf, evO, opv, qv, binV, Qaw, Qaa, Qa6, flat, Qa3, Qa0, Qa1, ↓reduceIte, Nat.reduceEqDiff, Nat.reduceAdd, Nat.reduceLT, Qa, Qb, Qr, endQ, rvs, rv1, resV, vw_i, Qda, zipA, Qf, V.i.injEq, Qt, Qc, true_and, and_true, and_self, implies_true, reduceCtorEq, Qb5]
 exact ⟨by unfold inI; omega, hn, by unfold inI; omega, hn, rfl⟩
end Go.C02
set_option linter.unusedSimpArgs false
set_option linter.unusedVariables false
namespace Go.C02
open Go.Fam Go.Proofs Go.ChangeAt
variable {H : Type} {enc : TypeId × Value → H} {W : World}
theorem uInt : Try.prog.underlying 3 = some (.int .i64) := by kernel_rfl
theorem Qm0 : Rd enc Try.prog W 3 eI inI := Zcq uInt
theorem Qx0 : Rd enc Try.prog W 50 eSpan (fun _ => True) :=
 (RdP.rd (fs := Try.prog.fieldsOf 50) (n := 2) (ps := [(3, 0), (3, 1)]) (by kernel_rfl) (by kernel_rfl) (by kernel_rfl)
  (Qc3 (k := 1) (by kernel_rfl) Qm0 (Qc3 (k := 1) (by kernel_rfl) Qm0 (Qm1 (by decide))))).map (fun p => ⟨p.1, p.2.1⟩) (fun _ => rfl) fun _ _ => trivial
theorem Qx1 : Rd enc Try.prog W 52 eStrip (fun _ => True) :=
 (RdP.rd (fs := Try.prog.fieldsOf 52) (n := 3) (ps := [(3, 0), (50, 1)]) (by kernel_rfl) (by kernel_rfl) (by kernel_rfl)
  (Qc3 (k := 1) (by kernel_rfl) Qm0 (Qc3 (k := 2) (by kernel_rfl) Qx0 (Qm1 (by decide))))).map (fun p => ⟨p.1, p.2.1⟩) (fun _ => rfl) fun _ _ => trivial
theorem Qz6 : Rd enc Try.prog W 53 (fun l : List Strip => [.sl 3 (l.map eStrip)]) (fun _ => True) :=
 (Qkp (el := 52) (es := 3) (by kernel_rfl) (by kernel_rfl) (by decide) Qx1).map id (fun _ => rfl) fun _ _ => trivial
theorem Qth : Rd enc Try.prog W 23 (fun l : List Int => [.sl 1 (l.map eI)]) (fun l => ∀ x ∈ l, inI x) :=
 (Qkp (el := 3) (es := 1) (by kernel_rfl) (by kernel_rfl) (by decide) Qm0).map id (fun _ => rfl) fun _ h => h.1
theorem Zb2 : Rd enc Try.prog W 24 (fun l : List Span => [.sl 2 (l.map eSpan)]) (fun _ => True) :=
 (Qkp (el := 50) (es := 2) (by kernel_rfl) (by kernel_rfl) (by decide) Qx0).map id (fun _ => rfl) fun _ _ => trivial
theorem Zcn : Rd enc Try.prog W 55 eBolt (fun _ => True) :=
 (RdP.rd (fs := Try.prog.fieldsOf 55) (n := 4) (ps := [(50, 0), (53, 2), (3, 3)]) (by kernel_rfl) (by kernel_rfl) (by kernel_rfl)
  (Qc3 (k := 2) (by kernel_rfl) Qx0 (Qc3 (k := 1) (by kernel_rfl) Qz6 (Qc3 (k := 1) (by kernel_rfl) Qm0 (Qm1 (by decide)))))).map (fun p => ⟨p.1, p.2.1, p.2.2.1⟩) (fun _ => rfl) fun _ _ => trivial
theorem Zb0 : Rd enc Try.prog W 22 (fun l : List Bolt => [.sl 4 (l.map eBolt)]) (fun _ => True) :=
 (Qkp (el := 55) (es := 4) (by kernel_rfl) (by kernel_rfl) (by decide) Zcn).map id (fun _ => rfl) fun _ _ => trivial
theorem Zco : Rd enc Try.prog W 26 Qal (fun _ => True) :=
 (RdP.rd (fs := Try.prog.fieldsOf 26) (n := 6) (ps := [(22, 0), (23, 1), (3, 2), (24, 3), (23, 4), (3, 5)]) (by kernel_rfl) (by kernel_rfl) (by kernel_rfl)
  (Qc3 (k := 1) (by kernel_rfl) Zb0 (Qc3 (k := 1) (by kernel_rfl) Qth (Qc3 (k := 1) (by kernel_rfl) Qm0
   (Qc3 (k := 1) (by kernel_rfl) Zb2 (Qc3 (k := 1) (by kernel_rfl) Qth (Qc3 (k := 1) (by kernel_rfl) Qm0 (Qm1 (by decide))))))))).map
  (fun p => ⟨p.1, p.2.1, p.2.2.1, p.2.2.2.1, p.2.2.2.2.1, p.2.2.2.2.2.1⟩) (fun _ => rfl) fun _ _ => trivial
theorem Zdo : Rd enc Try.prog W 28 eFig (fun _ => True) :=
 (RdP.rd (fs := Try.prog.fieldsOf 28) (n := 11) (ps := [(26, 0), (3, 6), (3, 7), (3, 8), (23, 9), (23, 10)]) (by kernel_rfl) (by kernel_rfl) (by kernel_rfl)
  (Qc3 (k := 6) (by kernel_rfl) Zco (Qc3 (k := 1) (by kernel_rfl) Qm0 (Qc3 (k := 1) (by kernel_rfl) Qm0
   (Qc3 (k := 1) (by kernel_rfl) Qm0 (Qc3 (k := 1) (by kernel_rfl) Qth (Qc3 (k := 1) (by kernel_rfl) Qth (Qm1 (by decide))))))))).map
  (fun p => ⟨p.1, p.2.1, p.2.2.1, p.2.2.2.1, p.2.2.2.2.1, p.2.2.2.2.2.1⟩) (fun _ => rfl) fun _ _ => trivial
theorem aFig : RdV enc Try.prog W 28 (fun d => .ag (eFig d)) (fun _ => True) := Zdo.agg (fs := Try.prog.fieldsOf 28) (by kernel_rfl)
theorem aStrip : RdV enc Try.prog W 52 (fun s => .ag (eStrip s)) (fun _ => True) := Qx1.agg (fs := Try.prog.fieldsOf 52) (by kernel_rfl)
theorem aInt : RdV enc Try.prog W 3 (fun n => .i n) inI := Rd.one (Zay uInt) Qm0
theorem own : ownKnob Try.prog.godebug = none := by kernel_rfl
theorem laid : laidOutB Try.prog = true := by kernel_rfl
end Go.C02
set_option linter.unusedSimpArgs false
set_option linter.unusedVariables false
namespace Go.C02
open Go.Fam Go.Proofs
theorem Qkh {α : Type} {p : α → Bool} {l : List α} {i : Nat} {x : α} (hx : l[i]? = some x) : (l.take (i + 1)).all p = ((l.take i).all p && p x) := by
 rw [Qar hx, List.all_append]; simp
theorem Qhe {α : Type} {p : α → Bool} {l : List α} {i : Nat} {x : α} (hx : l[i]? = some x) (h : p x = false) : l.all p = false := by
 rw [Bool.eq_false_iff]; intro h'
 have := Xb.1 h' x (Qz hx)
 rw [h] at this; cases this
def allN (l : List Int) (many lo hi : Int) : Bool := l.all (fun x => Qak x lo hi) && decide ((l.length : Int) = many)
theorem W52 (l : List Int) (many lo up : Int) (h : l.length < 10000000) : Qab Try.prog 52 [.sl 1 (l.map eI), .i many, .i lo, .i up] (.b (allN l many lo up)) := by
 refine Qac okH1 hmix Try.func52 cb52 cc52 cs52 cn52 ?_
 simp only [rc52, rs52, Qa7, Qa8, Qa9, Qa4, Qae, Qa5, Qa2, Fam.step, Qaf, evO, opv, qv, Qa3, Qa0, Qa1, ↓reduceIte, Nat.reduceEqDiff, Nat.reduceAdd, Qa, Qb, zipA, Qf, true_and, reduceCtorEq]
 refine Qb8 l.length (fun i => ⟨lkp [(0, .sl 1 (l.map eI)), (1, .i many), (2, .i lo), (3, .i up), (9, .i i)], []⟩) (fun i => (l.take i).all (fun x => Qak x lo up) = true) ?_ ?_ ?_ ?_
 ·simp only [Q7, kp, Qa0, Qa1, ↓reduceIte, Nat.reduceEqDiff, Qa, Qb, reduceCtorEq]
 ·simp
 ·intro i hi hc
  obtain ⟨x, hx⟩ : ∃ x, l[i]? = some x := ⟨_, Qo hi⟩
  have hlt : (i : Int) < l.length := by omega
  have h3 : inI ((i : Int) + 1) := by unfold inI; omega
  simp only [hx, hlt, Q4, Q5, Qkh hx, hc, h3, Qag, Qa7, Qa8, Qad, Qbe, Qa9, Qai, Qa4, Qae, Qaj, Qa5, Qa2, Fam.step, Qaf, Qbz, Qbq, ug, evO, opv, qv, Qb2, binV, ldV, iadV, lenV, kp, Qa3, Qa0, Qa1, ↓reduceIte, Nat.reduceEqDiff, Nat.reduceLeDiff, Qa, Qb, Zb, Q2, Qe, Qd, Qj, Qw, endQ, rvs, rv1, resV, vw_b, Q0, Qf, V.b.injEq, Qu, Q8, Bool.true_and, Qc, decide_true, decide_eq_true_eq, decide_eq_false_iff_not, true_and, and_true, and_self, implies_true, reduceCtorEq, Q6, beq_false, Qy, Qf1, imp_self, Qn, Qv, Qi, Q1, Zz, eI]
  refine ⟨fun e => ?_, fun e => ?_⟩
  ·have : Qak x lo up = false := by
    simp only [Z1, decide_eq_true_eq] at e
    simp only [Qak, Bool.and_eq_false_iff, decide_eq_false_iff_not]
    omega
   unfold allN
   rw [Qhe hx this]; rfl
  ·simp only [Zi, decide_eq_false_iff_not] at e
   simp only [Qak, Zj, decide_eq_true_eq]
   omega
 ·intro hc
  rw [Zg] at hc
  simp only [Qa7, Qa8, Qad, Qam, Qai, Qa4, Qae, Qaj, Qa5, Qa2, Fam.step, Qaf, evO, opv, qv, binV, lenV, Qa3, Qa0, Qa1, ↓reduceIte, Nat.reduceEqDiff, Qa, Qb, endQ, rvs, rv1, resV, vw_b, Q9, V.b.injEq, Qc, decide_false, true_and, and_self, reduceCtorEq, Qn]
  simp [allN, hc]
def Qdz (f : Fig) : Bool := Qak f.period 1 60 && Qak f.run 0 2000 && Qak f.near 0 (f.period.tdiv 2) && decide (f.starts.length = f.dome.gores.length) && decide (f.times.length = f.dome.gores.length) &&
 f.starts.all (fun x => Qak x 0 (f.period - 1)) && f.times.all (fun x => Qak x 1 99)
theorem W75 (f : Fig) (h : f.dome.gores.length < 10000000) : Qab Try.prog 75 [.ag (eFig f)] (.b (Qdz f)) := by
 refine Qac okH1 hmix Try.func75 cb75 cc75 cs75 cn75 ?_
 simp only [rc75, rs75, h70, Qag, Qa7, Qa8, Qad, Qbe, Qa9, Qai, Qa4, Qae, Qa5, Qa2, Fam.step, Qaf, Qbz, Qbq, ug, evO, opv, qv, Qb2, binV, ldV, lenV, Qaw, V.cells, Qas, Qaa, Qa6, flat, Qa3, Qa0, Qa1, ↓reduceIte, Nat.reduceEqDiff, Nat.reduceAdd, Nat.reduceLT, Nat.reduceLeDiff, Int.reduceEq, Qa, Qb, Zb, Q2, Qe, Qd, Qk, Ql, Qj, Qr, endQ, rvs, rv1, resV, vw_i, vw_b, Qay, Qaz, zipA, Qf, V.b.injEq, Qu, Q8, Qt, Qc, true_and, and_true, and_self, implies_true, not_false_eq_true, ne_eq, beq_false, Bool.not_not, Zh, Qy, Qf1, Bool.decide_eq_true, Z5, imp_self, Qn, Zz, eFig]
 refine ⟨fun e => ⟨e, ?_⟩, fun e => ?_, fun e => ?_⟩
 ·simp only [Zi, Zh, Qak, Zj, decide_eq_true_eq] at e
  rw [Zc (by omega)]
  unfold inI; omega
 ·unfold Qdz
  simp only [Z1, Qy, decide_eq_false_iff_not, Xd] at e
  rcases e with (((e | e) | e) | e) | e <;> simp [e]
 simp only [Zi, Zh, decide_eq_true_eq, Xd] at e
 obtain ⟨⟨⟨⟨e1, e2⟩, e3⟩, e4⟩, e5⟩ := e
 have hp : 1 ≤ f.period ∧ f.period ≤ 60 := by simpa only [Qak, Zj, decide_eq_true_eq] using e1
 have hgf : Qdz f = (f.starts.all (fun x => Qak x 0 (f.period - 1)) && f.times.all (fun x => Qak x 1 99)) := by
  simp [Qdz, e1, e2, e3, e4, e5]
 refine Qb8 f.starts.length (fun i => ⟨lkp [(1, .pa (eFig f)), (45, .i f.starts.length), (46, .i i)], []⟩) (fun i => (f.starts.take i).all (fun x => Qak x 0 (f.period - 1)) = true ∧ (f.times.take i).all (fun x => Qak x 1 99) = true) ?_ ?_ ?_ ?_
 ·simp only [Q7, kp, Qa0, Qa1, ↓reduceIte, Nat.reduceEqDiff, Qa, Qb, eFig]
 ·simp
 ·intro i hi hc
  obtain ⟨x, hx⟩ : ∃ x, f.starts[i]? = some x := ⟨_, Qo hi⟩
  obtain ⟨y, hy⟩ : ∃ y, f.times[i]? = some y := ⟨_, Qo (by omega)⟩
  have hlt : (i : Int) < f.starts.length := by omega
  have hlt' : (i : Int) < f.times.length := by omega
  have h3 : inI ((i : Int) + 1) := by unfold inI; omega
  have h4 : inI (f.period - 1) := by unfold inI; omega
  simp only [hx, hy, hlt, hlt', Q4, Q5, Qkh hx, Qkh hy, hc.1, hc.2, h3, h4, h70, Qag, Qa7, Qbf, Qa8, Qad, Qbe, Qa9, Qai, Qa4, Qba, Qae, Qaj, Qa5, Qa2, Fam.step, Qaf, Qbz, Qbq, ug, runX, eff, Qb9, fpR, fpQ, fpV, Qbp, hits, evO, opv, qv, Qb2, binV, ldV, iadV, Qaw, Qaa, Qa6, flat, kp, Qa3, Qa0, Qa1, ↓reduceIte, Nat.reduceEqDiff, Nat.reduceAdd, Nat.reduceLT, Nat.reduceLeDiff, Qa, Qb, Zb, Q2, Qe, Qd, Qk, Ql, Qj, Qm, Qg, Qr, Q3, Qw, Zr, Qx, Zs, endQ, rvs, rv1, resV, vw_i, vw_b, Q0, Qf, V.b.injEq, Qu, Q8, Bool.true_and, Zw, Qt, Zt, Zo, Qc, decide_true, true_and, and_true, and_self, implies_true, Q6, Z0, Zp, beq_false, Bool.not_not, Zh, Qy, Qf1, Z5, imp_self, Qn, Qv, Qi, Q1, Zz, eI, eFig]
  refine ⟨fun e => ?_, fun e => ?_⟩
  ·rw [hgf]
   simp only [Z1, Qy] at e
   rcases e with e | e
   ·rw [Qhe hx e]; rfl
   ·rw [Qhe hy e]; simp
  ·simpa only [Zi, Zh] using e
 ·intro hc
  rw [Zg, e4, ← e5, Zg] at hc
  simp only [Qa7, Qa8, Qad, Qam, Qai, Qa4, Qae, Qaj, Qa5, Qa2, Fam.step, Qaf, evO, opv, qv, binV, Qa3, Qa0, Qa1, ↓reduceIte, Nat.reduceEqDiff, Qa, Qb, endQ, rvs, rv1, resV, vw_b, Q9, V.b.injEq, Qc, decide_false, true_and, and_self, eFig]
  simp [hgf, hc]
def s52 : List V → Prop × V | [.sl 1 l, .i m, .i lo, .i up] => (l = (l.map dI).map eI ∧ l.length < 10000000, .b (allN (l.map dI) m lo up)) | _ => (False, .u)
theorem Zcw (vs : List V) (h : (s52 vs).1) : Qab Try.prog 52 vs (s52 vs).2 := by
 unfold s52 at h ⊢
 split at h
 ·rename_i l m lo up
  obtain ⟨h1, h2⟩ := h
  rw [h1]
  have := W52 (l.map dI) m lo up (by simpa using h2)
  simp only [Qeu Qfc]
  exact this
 ·exact h.elim
def s75 : List V → Prop × V := fnG (fun f => [.ag (eFig f)]) (fun vs => match vs with | [.ag r] => dFig r | _ => dFig []) (fun f => f.dome.gores.length < 10000000) Qdz .b
noncomputable def H2 : Gam := (H1.ext 52 s52).ext 75 s75
theorem okH2 : GOk Try.prog H2 := by
 have k1 := okH1.ext (f := 52) (r := s52) (fun a w => Try.call52 a w) Zcw
 exact k1.ext (f := 75) (r := s75) (fun a w => Try.call75 a w) (Qau fun a h => W75 a h)
theorem h52 (l : List Int) (m lo up : Int) : H2 52 [.sl 1 (l.map eI), .i m, .i lo, .i up] = (l.length < 10000000, .b (allN l m lo up)) := by
 refine (show H2 52 _ = s52 [.sl 1 (l.map eI), .i m, .i lo, .i up] from rfl).trans ?_
 simp [s52, Qeu Qfc]
theorem h75 (f : Fig) : H2 75 [.ag (eFig f)] = (f.dome.gores.length < 10000000, .b (Qdz f)) :=
 (show H2 75 _ = s75 [.ag (eFig f)] from rfl).trans (Qb1 _ (Qcw _))
theorem h74 (d : Dome) : H2 74 [.ag (Qal d)] = (True, .i (Qcl d)) := gJ41 d
def Qao (f : Fig) : Int := if Qcl f.dome ≠ 0 then Qcl f.dome else if Qdz f then 0 else 40
theorem Qr5 {d : Dome} (h : Qcl d = 0) : d.gores.length < 1000 := by
 have := Qg9 h
 have := this.ng
 omega
theorem W41 (f : Fig) : Qab Try.prog 41 [.ag (eFig f)] (.i (Qao f)) := by
 refine Qac okH2 hmix Try.func41 cb41 cc41 cs41 cn41 ?_
 have g1 := h74 f.dome
 have g2 := h75 f
 unfold Qal at g1
 unfold eFig at g2
 simp only [rc41, rs41, g1, g2, Qag, Qa7, Qa8, Qad, Qbe, Qai, Qa4, Qae, Qa5, Qa2, Fam.step, Qaf, evO, opv, qv, binV, ldV, Qaw, V.cells, Qas, Qaa, Qa6, flat, Qa3, Qa0, Qa1, ↓reduceIte, Nat.reduceEqDiff, Nat.reduceAdd, Nat.reduceLT, Nat.reduceLeDiff, Qa, Qb, Qe, Qd, Ql, Qs, Qp, Zu, Qr, endQ, rvs, rv1, resV, vw_i, Qay, Qaz, zipA, Qf, V.i.injEq, Qt, Qc, decide_eq_false_iff_not, true_and, and_true, and_self, implies_true, Qy, Z7, Classical.not_not, eFig]
 unfold Qao
 refine ⟨fun e => by rw [if_pos e], fun e => ⟨by have := Qr5 e; omega, fun e2 => ?_, fun e2 => ?_⟩⟩ <;> simp [e, e2]
structure ValidF (f : Fig) : Prop where
 dome : Valid f.dome
 period : 1 ≤ f.period ∧ f.period ≤ 60
 run : 0 ≤ f.run ∧ f.run ≤ 2000
 near : 0 ≤ f.near ∧ f.near ≤ f.period / 2
 ns : f.starts.length = f.dome.gores.length
 nt : f.times.length = f.dome.gores.length
 starts : ∀ x ∈ f.starts, 0 ≤ x ∧ x < f.period
 times : ∀ x ∈ f.times, 1 ≤ x ∧ x ≤ 99
theorem Qbs {f : Fig} (h : Qao f = 0) : ValidF f := by
 unfold Qao at h
 split at h
 ·rename_i h1; exact absurd h h1
 ·rename_i h1
  split at h
  ·rename_i h2
   have h1 : Qcl f.dome = 0 := by omega
   simp only [Qdz, Qak, Zj, decide_eq_true_eq, Xb] at h2
   obtain ⟨⟨⟨⟨⟨⟨e1, e2⟩, e3⟩, e4⟩, e5⟩, e6⟩, e7⟩ := h2
   rw [Zc (by omega)] at e3
   exact ⟨Qg9 h1, e1, e2, e3, e4, e5, fun x hx => by have := e6 x hx; omega, e7⟩
  ·cases h
end Go.C02
set_option linter.unusedSimpArgs false
set_option linter.unusedVariables false
namespace Go.C02
open Go.Fam Go.Proofs
def eRNN (a : Ring × Int × Int) : List V := [.pa (Qb5 a.1), .i a.2.1, .i a.2.2]
def dRNN : List V → Ring × Int × Int | [.pa r, .i n, .i m] => (Qpm r, n, m) | _ => (Qpm [], 0, 0)
theorem Zc1 (a : Ring × Int × Int) : dRNN (eRNN a) = a := by obtain ⟨r, n, m⟩ := a; simp [dRNN, eRNN, Qrc]
def s104 : List V → Prop × V := fnG eRNN dRNN (fun a => (0 < a.1.fig.period ∧ a.1.fig.period ≤ 1000000) ∧ tame 1000000 a.2.1 ∧ tame 1000000 a.2.2) (fun a => farN a.1.fig.period a.2.1 a.2.2) .i
noncomputable def H3 : Gam := (H2.ext 104 s104).ext 41 (fnG (fun f => [.ag (eFig f)]) (fun vs => match vs with | [.ag r] => dFig r | _ => dFig []) (fun _ => True) Qao .i)
theorem okH3 : GOk Try.prog H3 := by
 have k1 := okH2.ext (f := 104) (r := s104) (fun a w => Try.call104 a w) (Qau fun a h => W104 a.1 a.2.1 a.2.2 h.1 h.2.1 h.2.2)
 exact k1.ext (f := 41) (fun a w => Try.call41 a w) (Qau fun a h => W41 a)
theorem h104 (r : Ring) (a b : Int) : H3 104 [.pa (Qb5 r), .i a, .i b] = ((0 < r.fig.period ∧ r.fig.period ≤ 1000000) ∧ tame 1000000 a ∧ tame 1000000 b, .i (farN r.fig.period a b)) :=
 (show H3 104 _ = s104 (eRNN (r, a, b)) from rfl).trans (Qb1 _ (Zc1 _))
theorem h41 (f : Fig) : H3 41 [.ag (eFig f)] = (True, .i (Qao f)) :=
 (show H3 41 _ = fnG (fun f => [.ag (eFig f)]) (fun vs => match vs with | [.ag r] => dFig r | _ => dFig []) (fun _ => True) Qao .i [.ag (eFig f)] from rfl).trans (Qb1 _ (Qcw _))
structure OkR (r : Ring) : Prop where
 period : 1 ≤ r.fig.period ∧ r.fig.period ≤ 60
 near : 0 ≤ r.fig.near ∧ r.fig.near ≤ r.fig.period / 2
 len : 3 ≤ r.moves.length ∧ r.moves.length ≤ 16
 ns : r.fig.starts.length = r.moves.length
 starts : ∀ x ∈ r.fig.starts, 0 ≤ x ∧ x < r.fig.period
 moves : ∀ l ∈ r.moves, l.length < 1000 ∧ ∀ x ∈ l, 0 ≤ x ∧ x < r.fig.period
def Qim (p : Int) (ms : List Int) (later near : Int) : Nat := (ms.filter fun n => decide (farN p n later ≤ near)).length
def Qci (p : Int) (ms : List Int) (later near : Int) : Int := if Qim p ms later near = ms.length then 1 else if Qim p ms later near = 0 then 2 else 3
def Qbt (r : Ring) (seam : Int) : List Int := r.moves[seam.toNat]?.getD []
theorem Qu7 {p later near : Int} {ms : List Int} {i : Nat} {x : Int} (hx : ms[i]? = some x) :
  Qim p (ms.take (i + 1)) later near = if farN p x later ≤ near then Qim p (ms.take i) later near + 1 else Qim p (ms.take i) later near := by
 unfold Qim
 rw [Qar hx, Zx, Zm]
 by_cases h : farN p x later ≤ near <;> simp [h]
theorem Qt0 (p : Int) (ms : List Int) (later near : Int) : Qim p ms later near ≤ ms.length := Zq _ _
theorem W83 (r : Ring) (seam later near : Int) (h : OkR r) (hs : 0 ≤ seam ∧ seam < r.moves.length) (hl : tame 1000000 later) :
  Qab Try.prog 83 [.pa (Qb5 r), .i seam, .i later, .i near] (.i (Qci r.fig.period (Qbt r seam) later near)) := by
 refine Qac okH3 hmix Try.func83 cb83 cc83 cs83 cn83 ?_
 obtain ⟨ms, hms⟩ : ∃ ms, r.moves[seam.toNat]? = some ms := ⟨_, Qo (by omega)⟩
 obtain ⟨hml, hmx⟩ := h.moves ms (Qz hms)
 have hm0 : Qbt r seam = ms := by simp [Qbt, hms]
 rw [hm0]
 simp only [rc83, rs83, hms, hs.1, hs.2, Qa7, Qa8, Qa9, Qa4, Qae, Qa5, Qa2, Fam.step, Qaf, evO, opv, qv, ldV, iadV, lenV, Qa3, Qa0, Qa1, ↓reduceIte, Nat.reduceEqDiff, Nat.reduceAdd, Nat.reduceLeDiff, Qa, Qb, Qe, Qd, Qk, Ql, Qj, Qw, zipA, Qf, Qc, true_and, and_self, reduceCtorEq, Q6, Qn, Qi, Q1, eCan, Qb5]
 refine Qb8 ms.length (fun i => ⟨lkp [(0, .pa (Qb5 r)), (1, .i seam), (2, .i later), (3, .i near), (9, .i (Qim r.fig.period (ms.take i) later near)), (18, .sl 1 (ms.map eI)), (19, .i ms.length), (20, .i i)], []⟩) (fun i => True) ?_ trivial ?_ ?_
 ·simp only [Q7, Qim, Qp, Z2, Qd, kp, Qa0, Qa1, ↓reduceIte, Nat.reduceEqDiff, Qa, Qb, Qd, Qp, reduceCtorEq, Qb5]
 ·intro i hi _
  obtain ⟨x, hx⟩ : ∃ x, ms[i]? = some x := ⟨_, Qo hi⟩
  have hlt : (i : Int) < ms.length := by omega
  have h3 : inI ((i : Int) + 1) := by unfold inI; omega
  have hxx := hmx x (Qz hx)
  have hp := h.period
  have hg := Qt0 r.fig.period (ms.take i) later near
  have hgl : (ms.take i).length ≤ ms.length := by simp; omega
  have h4 : inI ((Qim r.fig.period (ms.take i) later near : Int) + 1) := by unfold inI; omega
  have g1 := h104 r x later
  unfold Qb5 at g1
  simp only [hx, hlt, Q4, Q5, h3, h4, g1, Qu7 hx, Qag, Qa7, Qa8, Qad, Qbe, Qa9, Qa4, Qae, Qaj, Qa5, Qa2, Fam.step, Qaf, evO, opv, qv, binV, ldV, iadV, Qaw, Qaa, Qa6, flat, kp, Qa3, Qa0, Qa1, ↓reduceIte, Nat.reduceEqDiff, Nat.reduceLT, Nat.reduceLeDiff, Qa, Qb, Qe, Qd, Qj, Qr, Qw, vw_i, Qda, Q0, Qf, Qt, Qc, decide_true, decide_eq_true_eq, true_and, and_true, and_self, implies_true, reduceCtorEq, Q6, Qn, Qv, Qi, Q1, eI, Qb5]
  refine ⟨⟨by omega, by unfold tame; omega, hl⟩, fun e => ?_, fun e => ?_⟩
  ·simp only [e, ↓reduceIte]; rfl
  ·simp only [e, ↓reduceIte]
 ·intro _
  have hg := Qt0 r.fig.period ms later near
  simp only [Zg, hms, hs.1, hs.2, Qag, Qa7, Qa8, Qad, Qbe, Qa9, Qam, Qai, Qa4, Qae, Qaj, Qa5, Qa2, Fam.step, Qaf, evO, opv, qv, binV, ldV, iadV, lenV, Qa3, Qa0, Qa1, ↓reduceIte, Nat.reduceEqDiff, Nat.reduceLeDiff, Qa, Qb, Qe, Qd, Qk, Ql, Qj, Qw, endQ, rvs, rv1, resV, vw_i, Q9, Qf, V.i.injEq, Qc, decide_false, decide_eq_true_eq, true_and, and_self, reduceCtorEq, Q6, Qn, Qi, Q1, eCan, Qb5]
  unfold Qci
  exact ⟨fun e => by rw [if_pos (by omega)], fun e => ⟨fun e2 => by rw [if_neg (by omega), if_pos (by omega)], fun e2 => by rw [if_neg (by omega), if_neg (by omega)]⟩⟩
def Qyg (a : Ring × Int × Int × Int) : List V := [.pa (Qb5 a.1), .i a.2.1, .i a.2.2.1, .i a.2.2.2]
def Za9 : List V → Ring × Int × Int × Int | [.pa r, .i n, .i m, .i k] => (Qpm r, n, m, k) | _ => (Qpm [], 0, 0, 0)
theorem Zaa (a : Ring × Int × Int × Int) : Za9 (Qyg a) = a := by obtain ⟨r, n, m, k⟩ := a; simp [Za9, Qyg, Qrc]
def s83 : List V → Prop × V := fnG Qyg Za9 (fun a => OkR a.1 ∧ (0 ≤ a.2.1 ∧ a.2.1 < a.1.moves.length) ∧ tame 1000000 a.2.2.1) (fun a => Qci a.1.fig.period (Qbt a.1 a.2.1) a.2.2.1 a.2.2.2) .i
noncomputable def H4 : Gam := H3.ext 83 s83
theorem okH4 : GOk Try.prog H4 := okH3.ext (f := 83) (r := s83) (fun a w => Try.call83 a w) (Qau fun a h => W83 a.1 a.2.1 a.2.2.1 a.2.2.2 h.1 h.2.1 h.2.2)
theorem h83 (r : Ring) (a b c : Int) : H4 83 [.pa (Qb5 r), .i a, .i b, .i c] = (OkR r ∧ (0 ≤ a ∧ a < r.moves.length) ∧ tame 1000000 b, .i (Qci r.fig.period (Qbt r a) b c)) :=
 (show H4 83 _ = s83 (Qyg (r, a, b, c)) from rfl).trans (Qb1 _ (Zaa _))
theorem Zdj (r : Ring) (a : Int) : H4 84 [.pa (Qb5 r), .i a] = (0 < r.fig.period ∧ r.fig.period ≤ 1000000, .i (modN a r.fig.period)) := h84 r a
theorem Zdk (r : Ring) (a : Int) : H4 85 [.pa (Qb5 r), .i a] = ((0 < r.moves.length ∧ r.moves.length ≤ 1000000) ∧ tame 1000000 a, .i ((a + 1).tmod r.moves.length)) := h85 r a
def Qd4 (f : Fig) (k : Int) : Int := f.starts[k.toNat]?.getD 0
def ownN (r : Ring) (seam : Int) : Int := Qci r.fig.period (Qbt r seam) (modN (Qd4 r.fig ((seam + 1).tmod r.moves.length) - Qd4 r.fig seam) r.fig.period) r.fig.near
theorem Qwr {n seam : Int} (h : 0 ≤ seam ∧ seam < n) : 0 ≤ (seam + 1).tmod n ∧ (seam + 1).tmod n < n := by
 have := Zl (seam + 1) (show 0 < n by omega)
 have := Xe n (show 0 ≤ seam + 1 by omega)
 omega
theorem Qng {f : Fig} {k : Int} (h : ∀ x ∈ f.starts, 0 ≤ x ∧ x < f.period) (hk : 0 ≤ k ∧ k < f.starts.length) : f.starts[k.toNat]? = some (Qd4 f k) ∧ 0 ≤ Qd4 f k ∧ Qd4 f k < f.period := by
 have e : f.starts[k.toNat]? = some (Qd4 f k) := by
  unfold Qd4
  rw [Qo (show k.toNat < f.starts.length by omega)]; rfl
 exact ⟨e, h _ (Qz e)⟩
theorem W51 (r : Ring) (seam : Int) (h : OkR r) (hs : 0 ≤ seam ∧ seam < r.moves.length) : Qab Try.prog 51 [.pa (Qb5 r), .i seam] (.i (ownN r seam)) := by
 refine Qac okH4 hmix Try.func51 cb51 cc51 cs51 cn51 ?_
 have hn := Qwr hs
 obtain ⟨e1, b1⟩ := Qng (k := (seam + 1).tmod r.moves.length) h.starts (by rw [h.ns]; exact hn)
 obtain ⟨e2, b2⟩ := Qng (k := seam) h.starts (by rw [h.ns]; exact hs)
 have hp := h.period
 have hl := h.len
 have hns := h.ns
 have hmod : tame 1000000 (modN (Qd4 r.fig ((seam + 1).tmod r.moves.length) - Qd4 r.fig seam) r.fig.period) := by
  rw [Qeg (by omega)]
  have := Int.emod_nonneg (Qd4 r.fig ((seam + 1).tmod r.moves.length) - Qd4 r.fig seam) (show r.fig.period ≠ 0 by omega)
  have := Int.emod_lt_of_pos (Qd4 r.fig ((seam + 1).tmod r.moves.length) - Qd4 r.fig seam) (show 0 < r.fig.period by omega)
  unfold tame; omega
 have g1 := Zdk r seam
 have g2 := Zdj r (Qd4 r.fig ((seam + 1).tmod r.moves.length) - Qd4 r.fig seam)
 have g3 := h83 r seam (modN (Qd4 r.fig ((seam + 1).tmod r.moves.length) - Qd4 r.fig seam) r.fig.period) r.fig.near
 unfold Qb5 at g1 g2 g3
 have hlt1 : (seam + 1).tmod r.moves.length < r.fig.starts.length := by omega
 have hlt2 : seam < r.fig.starts.length := by omega
 simp only [rc51, rs51, g1, g2, g3, e1, e2, hlt1, hlt2, hs.1, hn.1, Qa7, Qbf, Qa8, Qai, Qa4, Qba, Qae, Qa5, Qa2, Fam.step, Qaf, runX, eff, Qb9, fpR, fpQ, fpV, Qbp, hits, evO, opv, qv, binV, ldV, iadV, Qaw, Qaa, Qa6, flat, Qa3, Qa0, Qa1, ↓reduceIte, Nat.reduceEqDiff, Nat.reduceAdd, Nat.reduceLT, Nat.reduceLeDiff, Qa, Qb, Q2, Qe, Qd, Qk, Ql, Qj, Qm, Qg, Qr, Q3, Qw, Zr, Qx, Zs, endQ, rvs, rv1, resV, vw_i, Qda, zipA, Qf, V.i.injEq, Qu, Q8, Zw, Qt, Zt, Zo, Qc, true_and, and_true, and_self, implies_true, reduceCtorEq, Q6, Z0, Zp, Qn, Qi, Q1, eI, Qb5]
 exact ⟨⟨by omega, by unfold tame; omega⟩, by unfold inI; omega, by omega, ⟨h, hs.2, hmod⟩, rfl⟩
end Go.C02
set_option linter.unusedSimpArgs false
set_option linter.unusedVariables false
namespace Go.C02
open Go.Fam Go.Proofs
theorem h82 (d : Dome) (n : Int) : H4 82 [.ag (Qal d), .i n] = (d.bolts.length < 1000, eLE (Qcc d n)) :=
 (show H4 82 _ = r36 (eDN (d, n)) from rfl).trans (Qb1 _ (Qy5 _))
theorem h41' (f : Fig) : H4 41 [.ag (eFig f)] = (True, .i (Qao f)) := h41 f
def Qht (f : Fig) (s : Int) : Int := ((f.run * (1000 + s)).tdiv 1000).tmod f.period
def Qgv (f : Fig) (g : Int) : List Int := (Qan (Qdo f.dome g)).map (Qht f)
def Qb0 (f : Fig) : Ring := ⟨f, f.dome.gores.map (Qgv f)⟩
def Qc2 (f : Fig) (is : Bool) : Int := if Qao f ≠ 0 then Qao f else if is then Qbc f.dome true else 1
def Qjo (f : Fig) (is : Bool) : V := .tp [if Qc2 f is = 0 then .pa (Qb5 (Qb0 f)) else .pn, .i (Qc2 f is)]
theorem W50 (f : Fig) (is : Bool) : Qab Try.prog 50 [.ag (eFig f), .b is] (Qjo f is) := by
 refine Qac okH4 hmix Try.func50 cb50 cc50 cs50 cn50 ?_
 have g1 := h41' f
 unfold eFig at g1
 simp only [rc50, rs50, g1, Qag, Qa7, Qa8, Qad, Qbe, Qa9, Qai, Qa4, Qm4, Qae, Qa5, Qa2, Fam.step, Qaf, Qbi, Qb4, nv, evO, opv, qv, binV, ldV, lenV, Qaw, Qap, putAt, Qb7, V.cells, Qas, Qb3, Qaa, Qa6, flat, Qa3, Qa0, Qa1, ↓reduceIte, Nat.reduceEqDiff, Nat.reduceAdd, Nat.reduceLT, Nat.reduceLeDiff, Qa, Qb, Zb, Q2, Qe, Qd, Qk, Ql, Qs, Qp, Zu, Qj, Qm, Qg, Qr, Qh, Qq, Q3, Zd, Zn, endQ, rvs, rv1, resV, vw_i, Qul, Qay, Qaz, Qcg, zipA, Qf, Qu, Qt, Qc, decide_eq_false_iff_not, true_and, and_self, implies_true, reduceCtorEq, Qy, Qn, Z7, Classical.not_not, eFig]
 refine ⟨fun h => ?_, fun h => ⟨fun h2 => ?_, fun h2 => ?_⟩⟩
 ·have e : Qc2 f is = Qao f := by simp [Qc2, h]
  unfold Qjo
  rw [e, if_neg h]
 ·have e : Qc2 f is = 1 := by simp [Qc2, h, h2]
  unfold Qjo
  rw [e]; rfl
 have hv := Qbs h
 have hd := hv.dome
 have hng := hd.ng
 refine Qb8 f.dome.gores.length (fun i => ⟨lkp [(2, .pa (eFig f)), (7, .ad 0 0 0), (27, .sl 1 (f.dome.gores.map eI)), (28, .i f.dome.gores.length), (29, .i i)],
  [.cells 0 (eFig f ++ [.rf 1 i 0 i 1]), .cells i (((Qb0 f).moves.take i).map eCan).flatten]⟩) (fun i => i = 0 ∨ Qbc f.dome true = 0) ?_ (.inl rfl) ?_ ?_
 ·simp only [Q7, Qp, Qb, Zk, Qm, Qg, kp, Qa0, Qa1, ↓reduceIte, Nat.reduceEqDiff, Qa, Qb, Qp, Qm, Qg, eFig]
 ·intro i hi hc
  obtain ⟨g, hg⟩ : ∃ g, f.dome.gores[i]? = some g := ⟨_, Qo hi⟩
  have hgm := hd.gores g (Qz hg)
  have hb : Qbx f.dome g = true := by simp only [Qbx, Qak, Zj, decide_eq_true_eq]; omega
  have hlt : (i : Int) < f.dome.gores.length := by omega
  have h3 : inI ((i : Int) + 1) := by unfold inI; omega
  have hnb := hd.nb
  have g2 := h82 f.dome g
  unfold Qal at g2
  rw [Qcc, hb] at g2
  by_cases hp : Qbc f.dome true = 0
  ·rw [if_pos hp] at g2
   simp only [eLE] at g2
   simp only [hg, hlt, g2, Q4, Q5, Qag, Qa7, Qa8, Qad, Qa9, Qa4, Qgh, Qae, Qa5, Qa2, Fam.step, Qaf, evO, opv, qv, binV, ldV, iadV, lenV, Qaw, Qaa, Qa6, flat, Qcy, kp, Qa3, Qa0, Qa1, ↓reduceIte, Nat.reduceEqDiff, Nat.reduceAdd, Nat.reduceLT, Nat.reduceLeDiff, Qa, Qb, Qe, Qd, Ql, Qs, Qp, Qj, Qm, Qg, Qr, Qh, Qq, Qw, vw_i, Qay, Qaz, Q0, Qf, Qu, Q8, Qt, Zt, Qc, decide_true, true_and, and_true, and_self, reduceCtorEq, Q6, imp_self, Qn, Qv, Qi, Q1, eI, eFig]
   refine ⟨by omega, ?_⟩
   obtain ⟨b, hbb⟩ : ∃ b, f.dome.bolts[g.toNat]? = some b := ⟨_, Qo (by omega)⟩
   have hvb := hd.bolts b (Qz hbb)
   have hba : Qdo f.dome g = b := by simp [Qdo, hbb]
   have hst := hvb.st
   have hnl := Qcf hvb
   rw [hba]
   have hnx : ∀ s ∈ Qan b, 0 ≤ s ∧ s ≤ 60 := by
    intro s hs
    simp only [Qan, Xf, Qiw] at hs
    omega
   have hrun := hv.run
   have hper := hv.period
   refine Qb8 (Qan b).length (fun j => ⟨lkp [(2, .pa (eFig f)), (7, .ad 0 0 0), (12, .rf 2 j 0 j 1), (27, .sl 1 (f.dome.gores.map eI)), (28, .i f.dome.gores.length), (29, .i i), (43, .sl 1 ((Qan b).map eI)), (44, .i (Qan b).length), (45, .i j)],
    [.cells 0 (eFig f ++ [.rf 1 i 0 i 1]), .cells i (((Qb0 f).moves.take i).map eCan).flatten, .cells j ((((Qan b).take j).map (Qht f)).map eI).flatten]⟩) (fun j => True) ?_ trivial ?_ ?_
   ·simp only [Q7, Qp, Qb, Zk, kp, Qa0, Qa1, ↓reduceIte, Nat.reduceEqDiff, Qa, Qb, Qp, Qm, Qg, eFig]
   ·intro j hj _
    obtain ⟨x, hx⟩ : ∃ x, (Qan b)[j]? = some x := ⟨_, Qo hj⟩
    have hlt' : (j : Int) < (Qan b).length := by omega
    have h4 : inI ((j : Int) + 1) := by unfold inI; omega
    have hxx := hnx x (Qz hx)
    simp only [hx, hlt', h4, Q4, Q5, Qet, Zf, Qn, List.length_take, Nat.min_eq_left (Nat.le_of_lt hj), Qar hx, Ze, Zv, Qag, Qa7, Qa8, Qad, Qa9, Qa4, Qcv, putB, Qae, Qaj, Qa5, Qa2, Fam.step, Qaf, Qbi, Qb4, putB, nv, sv, Qce, evO, opv, qv, binV, ldV, iadV, Qap, putAt, Qb7, Qb6, V.cells, Qas, Qb3, Qaa, Qa6, kp, Qa3, Qa0, Qa1, ↓reduceIte, Nat.reduceEqDiff, Nat.reduceAdd, Nat.reduceLeDiff, Int.reduceEq, Qa, Qb, Zb, Q2, Qe, Qd, Qk, Ql, Qs, Qp, Qj, Qm, Qg, Qh, Qq, Qw, Zd, Zn, Qx, Za, vw_i, Q0, Qf, Qu, Qt, Qc, decide_true, true_and, and_self, reduceCtorEq, not_false_eq_true, ne_eq, Q6, Qn, Qv, Qi, Q1, eI, eFig]
    have m1 : 0 ≤ f.run * (1000 + x) := Int.mul_nonneg hrun.1 (by omega)
    have m2 : f.run * (1000 + x) ≤ 2000 * 1060 := Int.mul_le_mul hrun.2 (by omega) (by omega) (by omega)
    exact ⟨by unfold inI; omega, by unfold inI; omega, by rw [Zc m1]; unfold inI; omega, by omega, by unfold Qbd; omega, rfl⟩
   ·intro _
    have hmv : (Qb0 f).moves[i]? = some (Qgv f g) := by simp [Qb0, hg]
    have hmv2 : (Qan b).map (Qht f) = Qgv f g := by unfold Qgv; rw [hba]
    have hmvl : (Qgv f g).length = (Qan b).length := by rw [← hmv2, Qn]
    have hti := Qar hmv
    have hlen : ((Qb0 f).moves.take i).length = i := by simp [Qb0]; omega
    rw [Zg, hmv2, ← hmvl]
    simp only [hpF, upB, Qah _ _ _ (Qfh ((Qb0 f).moves.take i)), Qc8 _ _ (Qdu (Qgv f g)), Qet, Zf, Zy, Qdp, vw_I, vw8, hti, Qgq, Z8, Zk, h3, Qa7, Qa8, Qad, Qam, Qa4, Qc5, Qcv, ↓Qbl, cutH, putB, Qae, Qaj, Qa5, Qa2, Fam.step, Qaf, Qbi, Qb4, putB, nv, sv, Qce, evO, opv, qv, binV, ldV, curG, Qap, putAt, Qb7, Qb6, V.cells, Qas, Qb3, Qaa, Qa6, cutV, cutL, cutB, Qa3, Qat, Qa0, Qa1, ↓reduceIte, Nat.reduceEqDiff, Nat.reduceAdd, Nat.reduceLT, Qa, Qb, Zb, Q2, Qe, Qd, Qk, Ql, List.drop_nil, Qs, Qp, Zu, Qj, Qm, Qg, Qr, Qh, Qq, Zd, Zn, Qx, Za, Qay, Qdw, Q9, beq_self_eq_true, Qf, Qu, Qt, Qc, decide_false, true_and, and_true, and_self, reduceCtorEq, not_false_eq_true, ne_eq, eCan, eFig]
    exact ⟨⟨by rw [Qo9, hlen, Zf], by unfold Qbd; omega⟩, .inr hp⟩
  ·rw [if_neg hp] at g2
   simp only [eLE] at g2
   simp only [hg, hlt, g2, Q4, Q5, hp, Qag, Qa7, Qa8, Qad, Qa9, Qai, Qa4, Qae, Qaj, Qa5, Qa2, Fam.step, Qaf, evO, opv, qv, binV, ldV, iadV, Qaw, Qaa, Qa6, flat, Qcy, kp, Qa3, Qa0, Qa1, ↓reduceIte, Nat.reduceEqDiff, Nat.reduceAdd, Nat.reduceLT, Nat.reduceLeDiff, Qa, Qb, Qe, Qd, Ql, Qs, Qp, Qj, Qm, Qg, Qr, Qh, Qq, Qw, endQ, rvs, rv1, resV, vw_i, Qul, Qay, Qaz, Qcg, Q0, Qf, Qu, Q8, Qt, Zo, Qc, decide_true, decide_false, true_and, and_true, and_self, reduceCtorEq, Q6, imp_self, Qn, Qv, Qi, Q1, eI, eFig]
   have e : Qc2 f is = Qbc f.dome true := by simp [Qc2, h, h2]
   refine ⟨by omega, ?_⟩
   unfold Qjo
   rw [e, if_neg hp]
 ·intro hc
  have hp : Qbc f.dome true = 0 := by rcases hc with hc | hc <;> first | omega | exact hc
  have e : Qc2 f is = 0 := by simp [Qc2, h, h2, hp]
  have hl : f.dome.gores.length = (Qb0 f).moves.length := by simp [Qb0]
  simp only [Qjo, e, Qo9, Zf, hl, Zg, Zy, Qky, vw_C, hpF, upB, upL, upV, Qc8 _ _ (Qfh (Qb0 f).moves), Qa7, Qa8, Qad, Qam, Qai, Qa4, Qc5, ↓Qbl, cutH, Qae, Qaj, Qa5, Qa2, Fam.step, Qaf, evO, opv, qv, binV, ldV, cutV, Qa3, Qa0, Qa1, ↓reduceIte, Nat.reduceEqDiff, Nat.reduceLT, Qa, Qb, Ql, Qp, Qm, Qg, Qh, Qq, Q3, endQ, rvs, rv1, resV, vw_i, Qay, Qda, Qcg, Qjx, Qdw, Q9, Qf, Qc, decide_false, true_and, and_self, eFig, Qb5]
  rfl
end Go.C02
set_option linter.unusedSimpArgs false
set_option linter.unusedVariables false
namespace Go.C02
open Go.Fam Go.Proofs
def eFB (a : Fig × Bool) : List V := [.ag (eFig a.1), .b a.2]
def dFB : List V → Fig × Bool | [.ag r, .b x] => (dFig r, x) | _ => (dFig [], false)
theorem Zde (a : Fig × Bool) : dFB (eFB a) = a := by obtain ⟨f, b⟩ := a; simp [dFB, eFB, Qcw]
def s50 : List V → Prop × V := fnG eFB dFB (fun _ => True) (fun a => a) (fun a => Qjo a.1 a.2)
def s51 : List V → Prop × V := fnG eRN dRN (fun a => OkR a.1 ∧ 0 ≤ a.2 ∧ a.2 < a.1.moves.length) (fun a => ownN a.1 a.2) .i
noncomputable def H5 : Gam := (H4.ext 50 s50).ext 51 s51
theorem okH5 : GOk Try.prog H5 := by
 have k1 := okH4.ext (f := 50) (r := s50) (fun a w => Try.call50 a w) (Qau fun a h => W50 a.1 a.2)
 exact k1.ext (f := 51) (r := s51) (fun a w => Try.call51 a w) (Qau fun a h => W51 a.1 a.2 h.1 h.2)
theorem h50 (f : Fig) (b : Bool) : H5 50 [.ag (eFig f), .b b] = (True, Qjo f b) :=
 (show H5 50 _ = s50 (eFB (f, b)) from rfl).trans (Qb1 _ (Zde _))
theorem h51 (r : Ring) (n : Int) : H5 51 [.pa (Qb5 r), .i n] = (OkR r ∧ 0 ≤ n ∧ n < r.moves.length, .i (ownN r n)) :=
 (show H5 51 _ = s51 (eRN (r, n)) from rfl).trans (Qb1 _ (Qrb _))
theorem h70' (n lo hi : Int) : H5 70 [.i n, .i lo, .i hi] = (True, .b (Qak n lo hi)) := rfl
theorem Qek {f : Fig} {is : Bool} (h : Qc2 f is = 0) : Qao f = 0 ∧ is = true ∧ Qbc f.dome true = 0 := by
 unfold Qc2 at h
 split at h
 ·rename_i h1; exact absurd h h1
 ·rename_i h1
  split at h
  ·rename_i h2; exact ⟨by omega, h2, h⟩
  ·cases h
theorem Qiz {f : Fig} (h : Qao f = 0) : OkR (Qb0 f) := by
 have hv := Qbs h
 have hd := hv.dome
 have hg := hd.ng
 refine ⟨hv.period, hv.near, by simpa [Qb0] using hg, by simp [Qb0, hv.ns], hv.starts, ?_⟩
 intro l hl
 simp only [Qb0, List.mem_map] at hl
 obtain ⟨g, hgm, rfl⟩ := hl
 have hgb := hd.gores g hgm
 obtain ⟨b, hbb⟩ : ∃ b, f.dome.bolts[g.toNat]? = some b := ⟨_, Qo (by omega)⟩
 have hvb := hd.bolts b (Qz hbb)
 have hba : Qdo f.dome g = b := by simp [Qdo, hbb]
 have hnl := Qcf hvb
 have hst := hvb.st
 have hrun := hv.run
 have hper := hv.period
 unfold Qgv
 rw [hba]
 refine ⟨by rw [Qn]; omega, fun x hx => ?_⟩
 obtain ⟨s, hs, rfl⟩ := List.mem_map.1 hx
 simp only [Qan, Xf, Qiw] at hs
 unfold Qht
 have m1 : 0 ≤ f.run * (1000 + s) := Int.mul_nonneg hrun.1 (by omega)
 rw [Zc m1]
 have m2 : 0 ≤ f.run * (1000 + s) / 1000 := Int.ediv_nonneg m1 (by decide)
 exact ⟨Xe _ m2, Zl _ (by omega)⟩
def Qec (f : Fig) (seam : Int) : Int × Int := if Qc2 f (Qak seam 0 (f.dome.gores.length - 1)) = 0 then (ownN (Qb0 f) seam, 0) else (0, Qc2 f (Qak seam 0 (f.dome.gores.length - 1)))
theorem W38 (f : Fig) (seam : Int) (hg : f.dome.gores.length < 1000000) : Qab Try.prog 38 [.ag (eFig f), .i seam] (.tp [.i (Qec f seam).1, .i (Qec f seam).2]) := by
 refine Qac okH5 hmix Try.func38 cb38 cc38 cs38 cn38 ?_
 have g1 := h50 f (Qak seam 0 (f.dome.gores.length - 1))
 unfold Qjo eFig at g1
 have hin : inI ((f.dome.gores.length : Int) - 1) := by unfold inI; omega
 simp only [rc38, rs38, h70', g1, hin, Qag, Qa7, Qbf, Qa8, Qad, Qbe, Qai, Qa4, Qba, Qae, Qa5, Qa2, Fam.step, Qaf, runX, eff, Qb9, fpR, fpQ, fpV, Qbp, hits, evO, opv, qv, binV, ldV, lenV, Qaw, V.cells, Qas, Qaa, Qa6, flat, Qcy, Qa3, Qa0, Qa1, ↓reduceIte, Nat.reduceEqDiff, Nat.reduceAdd, Nat.reduceLT, Nat.reduceLeDiff, Qa, Qb, Q2, Qe, Qd, Qk, Ql, Qs, Zu, Qj, Qm, Qg, Qr, Qh, Qq, Q3, Qw, Zr, Qx, Zs, endQ, rvs, rv1, resV, vw_i, vw_b, Qay, Qaz, Qcg, zipA, Qf, Qu, Q8, Zw, Qt, Zt, Zo, Qc, decide_eq_false_iff_not, true_and, and_self, false_implies, implies_true, reduceCtorEq, Z0, Zp, Qy, Qn, Qi, Classical.not_not, eFig, Qb5]
 refine ⟨fun h => ?_, fun h => ?_⟩
 ·simp only [Qec, if_neg h]
 ·obtain ⟨h1, h2, h3⟩ := Qek h
  have g2 := h51 (Qb0 f) seam
  unfold Qb5 at g2
  simp only [h, g2, Qec, Qaa, flat, ↓reduceIte, vw_i, Qda, Qc, and_true, implies_true]
  have := Qhp h2
  exact ⟨Qiz h1, this.1, by simpa [Qb0] using this.2⟩
def Qfz (f : Fig) (n : Nat) : List Int := ((Xh n).map fun i : Nat => (i : Int)).filter fun s => decide (ownN (Qb0 f) s ≠ 1)
theorem Qmm (f : Fig) (n : Nat) : Qfz f (n + 1) = if ownN (Qb0 f) n ≠ 1 then Qfz f n ++ [(n : Int)] else Qfz f n := by
 unfold Qfz
 rw [Z3, Ze, Zx]
 by_cases h : ownN (Qb0 f) n = 1 <;> simp [h]
theorem Qp7 (f : Fig) (n : Nat) : (Qfz f n).length ≤ n := by
 unfold Qfz
 refine Nat.le_trans (Zq _ _) ?_
 simp
def badR (f : Fig) : List Int × Int := if Qc2 f true = 0 then (Qfz f f.dome.gores.length, 0) else ([], Qc2 f true)
theorem W19 (f : Fig) : Qab Try.prog 19 [.ag (eFig f)] (eLE (badR f)) := by
 refine Qac okH5 hmix Try.func19 cb19 cc19 cs19 cn19 ?_
 have g1 := h50 f true
 unfold Qjo eFig at g1
 simp only [rc19, rs19, g1, Qag, Qa7, Qa8, Qad, Qbe, Qa9, Qai, Qa4, Qgh, Qae, Qa5, Qa2, Fam.step, Qaf, evO, opv, qv, binV, ldV, lenV, curG, Qaw, V.cells, Qas, Qaa, Qa6, flat, Qcy, Qa3, Qa0, Qa1, ↓reduceIte, Nat.reduceEqDiff, Nat.reduceAdd, Nat.reduceLT, Nat.reduceLeDiff, Qa, Qb, Qe, Qd, Qs, Zu, Qg, Qr, Qh, Qq, Q3, Qw, endQ, rvs, rv1, resV, vw_i, vw_b, vw_z, Qay, Qaz, Qcg, zipA, Qf, Qu, Q8, Qt, Qc, decide_eq_false_iff_not, true_and, and_self, false_implies, Qy, Classical.not_not, eFig, Qb5]
 refine ⟨fun h => ?_, fun h => ?_⟩
 ·simp only [badR, if_neg h, eLE, Qb]
 ·obtain ⟨h1, h2, h3⟩ := Qek h
  have hR := Qiz h1
  have hlen := hR.len
  have hml : (Qb0 f).moves.length = f.dome.gores.length := by simp [Qb0]
  simp only [h, ↓reduceIte, Nat.reduceLeDiff, Qe, Qd, Qk, Ql, Qj, Qf, true_and, Qn]
  refine Qb8 (Qb0 f).moves.length (fun i => ⟨lkp [(4, .pa (Qb5 (Qb0 f))), (6, .rf 0 (Qfz f i).length 0 (Qfz f i).length 1), (20, .i (Qb0 f).moves.length), (21, .i i)],
   [.cells (Qfz f i).length ((Qfz f i).map eI).flatten]⟩) (fun i => True) ?_ trivial ?_ ?_
  ·simp only [Q7, Qfz, Z4, Qb, Z2, Qd, Zk, kp, Qa0, Qa1, ↓reduceIte, Nat.reduceEqDiff, Qa, Qb, Qd, ne_eq, Qb5]
  ·intro i hi _
   have hlt : (i : Int) < (Qb0 f).moves.length := by omega
   have h4 : inI ((i : Int) + 1) := by unfold inI; omega
   have h5 := Qp7 f i
   have g2 := h51 (Qb0 f) i
   unfold Qb5 at g2
   simp only [hlt, h4, g2, Q4, Q5, Qmm, Qet, Zf, Qag, Qa7, Qa8, Qad, Qbe, Qa9, Qa4, Qcv, putB, Qae, Qaj, Qa5, Qa2, Fam.step, Qaf, Qbi, Qb4, putB, nv, sv, Qce, evO, opv, qv, binV, Qaw, Qap, putAt, Qb7, Qb6, V.cells, Qas, Qb3, Qaa, Qa6, flat, kp, Qa3, Qa0, Qa1, ↓reduceIte, Nat.reduceEqDiff, Nat.reduceLT, Nat.reduceLeDiff, Qa, Qb, Zb, Q2, Qe, Qd, Qs, Qp, Qm, Qg, Qr, Qh, Zd, Qx, Za, vw_i, Qda, Q0, Qf, Qu, Qt, Qc, decide_true, decide_eq_false_iff_not, true_and, and_true, and_self, implies_true, reduceCtorEq, not_false_eq_true, ne_eq, Qy, Classical.not_not, Qb5]
   refine ⟨hR, fun e => ?_, fun e => ?_⟩
   ·simp only [e, not_false_eq_true, Zm, Ze, Zv, ↓reduceIte, Qa, Qb, Qe, Qd, Qf, and_true, not_false_eq_true, eI]
    unfold Qbd; omega
   ·simp only [e, not_true_eq_false, ↓reduceIte, not_true_eq_false]
  ·intro _
   rw [hml]
   simp only [badR, h, eLE, Qet, Zf, Zy, Qdp, vw_I, hpF, upB, Qc8 _ _ (Qdu (Qfz f f.dome.gores.length)), Qa7, Qa8, Qad, Qam, Qai, Qa4, Qc5, ↓Qbl, cutH, Qae, Qaj, Qa5, Qa2, Fam.step, Qaf, evO, opv, qv, binV, ldV, cutV, Qa3, Qa0, Qa1, ↓reduceIte, Nat.reduceEqDiff, Nat.reduceLT, Qa, Qb, Ql, Qp, Qg, Qh, Q3, endQ, rvs, rv1, resV, vw_i, Qay, Qcg, Qdw, Q9, Qf, Qc, decide_false, and_self, Qb5]
end Go.C02
set_option linter.unusedSimpArgs false
set_option linter.unusedVariables false
namespace Go.C02
open Go.Fam Go.Proofs
def Qcs (r : Ring) (near : Int) (seam n : Nat) : List Int := ((Xh n).map fun i : Nat => (i : Int)).filter fun l => decide (Qci r.fig.period (Qbt r seam) l near = 1)
def Qct (r : Ring) (near : Int) (k : Nat) : List (List Int) := (Xh k).map fun s => Qcs r near s r.fig.period.toNat
def Qax (r : Ring) (near : Int) : List (List Int) := Qct r near r.moves.length
theorem Qs2 (r : Ring) (near : Int) (seam n : Nat) : Qcs r near seam (n + 1) = if Qci r.fig.period (Qbt r seam) n near = 1 then Qcs r near seam n ++ [(n : Int)] else Qcs r near seam n := by
 unfold Qcs
 rw [Z3, Ze, Zx]
 by_cases h : Qci r.fig.period (Qbt r seam) n near = 1 <;> simp [h]
theorem Qnh (r : Ring) (near : Int) (seam n : Nat) : (Qcs r near seam n).length ≤ n := by
 unfold Qcs
 refine Nat.le_trans (Zq _ _) ?_
 simp
theorem Qka (r : Ring) (near : Int) (k : Nat) : Qct r near (k + 1) = Qct r near k ++ [Qcs r near k r.fig.period.toNat] := by
 unfold Qct; rw [Z3, Ze]; rfl
def outC (r : Ring) (near : Int) (i : Nat) : List V := ((Qct r near i).map fun l => V.sl 1 (l.map eI)) ++ Z6 (r.moves.length - i) (.z 1)
theorem Qyr (l : List (List Int)) : Qa6 (l.map fun l => V.sl 1 (l.map eI)) = false := by
 induction l with
 | nil => rfl
 | cons x l ih => simp only [Qa, Qa6, Qaa, ih, Bool.or_self]
theorem Qys (n : Nat) : Qa6 (Z6 n (V.z 1)) = false := by
 induction n with
 | zero => rfl
 | succ n ih => simp only [Za, Qa6, Qaa, ih, Bool.or_self]
theorem h83' (r : Ring) (a b c : Int) : H5 83 [.pa (Qb5 r), .i a, .i b, .i c] = (OkR r ∧ (0 ≤ a ∧ a < r.moves.length) ∧ tame 1000000 b, .i (Qci r.fig.period (Qbt r a) b c)) := h83 r a b c
theorem W87 (r : Ring) (near : Int) (h : OkR r) : Qab Try.prog 87 [.pa (Qb5 r), .i near] (.sl 1 ((Qax r near).map eCan)) := by
 refine Qac okH5 hmix Try.func87 cb87 cc87 cs87 cn87 ?_
 have hlen := h.len
 simp only [rc87, rs87, Qa7, Qa8, Qa9, Qa4, Qae, Qa5, Qa2, Fam.step, Qaf, Qbi, Qb4, nv, evO, opv, qv, ldV, lenV, Qa3, Qa0, Qa1, ↓reduceIte, Nat.reduceEqDiff, Nat.reduceLeDiff, Qa, Qb, Qe, Qd, Qk, Ql, Qj, Qg, zipA, Q0, Qf, Qc, true_and, reduceCtorEq, Qn, Qv, Qb5]
 refine ⟨⟨by omega, by omega⟩, ?_⟩
 refine Qb8 r.moves.length (fun i => ⟨lkp [(0, .pa (Qb5 r)), (1, .i near), (5, .rf 0 0 0 r.moves.length 1), (18, .i r.moves.length), (19, .i i)], [.cells 0 (outC r near i)]⟩) (fun i => True) ?_ trivial ?_ ?_
 ·simp only [Q7, outC, Qct, Z4, Qb, Qg, Nat.sub_zero, List.flatten_replicate_singleton, kp, Qa0, Qa1, ↓reduceIte, Nat.reduceEqDiff, Qa, Qb, Qg, reduceCtorEq, Qb5]
 ·intro i hi _
  have hlt : (i : Int) < r.moves.length := by omega
  have h4 : inI ((i : Int) + 1) := by unfold inI; omega
  have hp := h.period
  obtain ⟨pre, hpre⟩ : ∃ pre, pre = (Qct r near i).map fun l => V.sl 1 (l.map eI) := ⟨_, rfl⟩
  obtain ⟨post, hpost⟩ : ∃ post, post = Z6 (r.moves.length - (i + 1)) (V.z 1) := ⟨_, rfl⟩
  have hpl : pre.length = i := by rw [hpre]; simp [Qct]
  have hpo : post.length = r.moves.length - (i + 1) := by rw [hpost]; simp
  have ho : outC r near i = pre ++ V.z 1 :: post := by
   unfold outC
   rw [← hpre, hpost, show r.moves.length - i = (r.moves.length - (i + 1)) + 1 by omega, Za]
  have hget : ∀ x : V, (pre ++ x :: post)[i]? = some x := fun x => by rw [List.getElem?_append_right (by omega), hpl, Z9]; rfl
  have hset : ∀ x y : V, (pre ++ x :: post).set i y = pre ++ y :: post := fun x y => by rw [List.set_append_right _ _ (by omega), hpl, Z9]; rfl
  simp only [ho, hlt, hget, hset, Qv, Zf, Qf, Nat.add_zero, Qag, Qa7, Qa8, Qad, Qa9, Qa4, Zb7, Qae, Qa5, Qa2, Fam.step, Qaf, evO, opv, qv, binV, ldV, kp, Qa3, Qa0, Qa1, ↓reduceIte, Nat.reduceEqDiff, Nat.reduceAdd, Nat.reduceLeDiff, Qa, Qb, Qe, Qd, Qk, Ql, Qj, Qm, Qg, Qh, Zd, Qf, Nat.add_zero, Qc, decide_true, true_and, reduceCtorEq, Qv, Qb5]
  have hput : ∀ x y : V, putAt i [y] (pre ++ x :: post) = pre ++ y :: post := fun x y => by
   unfold putAt
   rw [Xg hpl]
   simp [Xc, hpl]
  have hdrop : ∀ x : V, List.drop i (pre ++ x :: post) = x :: post := fun x => by simp [hpl]
  have htake : ∀ x : V, List.take i (pre ++ x :: post) = pre := fun x => Xg hpl
  have hdrop1 : ∀ x : V, List.drop (i + 1) (pre ++ x :: post) = post := fun x => by simp [Xc, hpl]
  have hle : i + 1 ≤ i + (r.moves.length - (i + 1) + 1) := by omega
  have hpn : (r.fig.period.toNat : Int) = r.fig.period := by omega
  refine Qb8 r.fig.period.toNat (fun j => ⟨lkp [(0, .pa (Qb5 r)), (1, .i near), (5, .rf 0 0 0 r.moves.length 1), (6, .i i), (18, .i r.moves.length), (19, .i i), (26, .i r.fig.period), (27, .i j)],
   [.cells 0 (pre ++ V.rf 1 (Qcs r near i j).length 0 (Qcs r near i j).length 1 :: post), .cells (Qcs r near i j).length ((Qcs r near i j).map eI).flatten]⟩) (fun i => True) ?_ trivial ?_ ?_
  ·simp only [Q7, Qcs, Z4, Qb, Z2, Qd, Zk, kp, Qa0, Qa1, ↓reduceIte, Nat.reduceEqDiff, Qa, Qb, Qd, reduceCtorEq, Qb5]
  ·intro j hj _
   have hlt' : (j : Int) < r.fig.period := by omega
   have h5 : inI ((j : Int) + 1) := by unfold inI; omega
   have h6 := Qnh r near i j
   have g1 := h83' r i j near
   unfold Qb5 at g1
   simp only [hlt', h5, g1, hlt, hdrop, hle, htake, hdrop1, Qj, Qs2, Qv, Zf, Qf, Q4, Q5, Qet, Zm, Qe, hpl, hpo, Qag, Qa7, Qa8, Qad, Qbe, Qa9, Qa4, Qcv, putB, Qae, Qaj, Qa5, Qa2, Fam.step, Qaf, Qbi, Qb4, putB, nv, sv, Qce, evO, opv, qv, binV, ldV, iadV, Qaw, Qap, putAt, Qb7, Qb6, V.cells, Qas, Qb3, Qaa, Qa6, flat, kp, Qa3, Qat, Qa0, Qa1, ↓reduceIte, Nat.reduceEqDiff, Nat.reduceLT, Nat.reduceLeDiff, Qa, Qb, Zb, Q2, Qe, Qd, Qs, Qp, Qj, Qm, Qg, Qr, Qh, Qq, Zd, Zn, Qx, Za, vw_i, Qda, Q0, Qf, Qu, Qt, Qc, decide_true, decide_eq_true_eq, true_and, and_true, and_self, implies_true, reduceCtorEq, not_false_eq_true, ne_eq, Qv, Qb5]
   refine ⟨⟨h, by unfold tame; omega⟩, fun e => ?_, fun e => ?_⟩
   ·refine ⟨by unfold Qbd; omega, ?_⟩
    simp only [e, Zm, Ze, Zv, Xa, ↓reduceIte, Qa, Qb, Qe, Qd, Qm, Qg, Qf, eI]
   ·simp only [e, ↓reduceIte]
  ·intro _
   have hcp : ∀ hp n, cutL hp n pre = pre := fun hp n => Qah hp n pre (by rw [hpre]; exact Qyr _)
   have hco : ∀ hp n, cutL hp n post = post := fun hp n => Qah hp n post (by rw [hpost]; exact Qys _)
   have hcI := fun hp n => Qah hp n _ (Qdu (Qcs r near i r.fig.period.toNat))
   have huI := fun n => Qc8 n _ (Qdu (Qcs r near i r.fig.period.toNat))
   simp only [hpn, Q9, h4, Qcp, hcp, hco, huI, hpF, upB, Qet, Zf, Zy, Qdp, vw_I, Q4, Q5, Qa7, Qa8, Qad, Qam, Qa4, Qc5, ↓Qbl, cutH, Qae, Qaj, Qa5, Qa2, Fam.step, Qaf, evO, opv, qv, binV, cutV, cutL, cutB, Qa3, Qa0, Qa1, ↓reduceIte, Nat.reduceEqDiff, Nat.reduceLT, Qa, Qb, Qk, Ql, Qs, Qp, Qm, Qg, Qh, Qq, Qdw, Q9, Qf, Qc, decide_false, true_and, and_self, reduceCtorEq, Qb5]
   have e : outC r near (i + 1) = pre ++ V.sl 1 ((Qcs r near i r.fig.period.toNat).map eI) :: post := by
    unfold outC
    rw [Qka, Ze, ← hpre, ← hpost, Xa]; rfl
   rw [e]
 ·intro _
  have e : outC r near r.moves.length = ((Qax r near).map eCan).flatten := by
   unfold outC Qax
   rw [Z9, Qx, Qr]
   generalize Qct r near r.moves.length = l
   induction l with
   | nil => rfl
   | cons x l ih => simp only [Qa, Z8, ih]; rfl
  have hl : r.moves.length = (Qax r near).length := by simp [Qax, Qct]
  rw [hl] at e
  simp only [e, hl, Q9, Qo9, Zf, Zy, Qky, vw_C, Qc8 _ _ (Qfh (Qax r near)), hpF, upB, Qa7, Qa8, Qad, Qam, Qai, Qa4, Qc5, ↓Qbl, cutH, Qae, Qaj, Qa5, Qa2, Fam.step, Qaf, evO, opv, qv, binV, cutV, Qa3, Qa0, Qa1, ↓reduceIte, Nat.reduceEqDiff, Nat.reduceLT, Qa, Qb, Ql, Qp, Qg, Qh, endQ, rvs, rv1, resV, Qay, Qdw, Q9, Qf, Qc, decide_false, and_self, reduceCtorEq, Qb5]
end Go.C02
