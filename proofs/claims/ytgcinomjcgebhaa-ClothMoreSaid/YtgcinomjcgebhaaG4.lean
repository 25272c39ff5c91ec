import Derived.Test.YtgcinomjcgebhaaG2
import Derived.Test.YtgcinomjcgebhaaChecked
import Derived.Test.YtgcinomjcgebhaaG3
set_option linter.all false
/- Resolved code, printed by program (wip/tools/mkrc.py). -/
set_option maxRecDepth 8000
namespace Go.C02
open Go.Fam Go.Proofs
/- ferrule/ferruleref02.Cut: params [26, 3], free 0, slots 31 -/
def rc30 : RC :=
  (.seq (.reg false [⟨(some 2), none, [0], none, .q (.box (.t 0))⟩,
    ⟨(some 4), none, [], none, .w (.alc [(.i 0), (.i 0)])⟩,
    ⟨(some 5), none, [], none, .q (.mv (.k (.i 0)))⟩])
  (.keep [1, 2, 4] (.seq (.reg false [⟨(some 11), none, [2], none, .q (.ld true 6 (.t 2))⟩,
    ⟨(some 12), none, [1], none, .q (.mv (.t 1))⟩,
    ⟨(some 13), none, [11, 12], none, .q (.call (.k (.fn 51 [])) [(.t 11), (.k (.i 0)), (.t 12)])⟩,
    ⟨(some 10), none, [13], none, .q (.mv (.t 13))⟩,
    ⟨(some 14), none, [10], none, .q (.ext (.t 10) 0)⟩,
    ⟨(some 15), none, [10], none, .q (.ext (.t 10) 1)⟩,
    ⟨(some 6), none, [14], none, .q (.mv (.t 14))⟩,
    ⟨(some 7), none, [15], none, .q (.mv (.t 15))⟩])
  (.keep [1, 2, 4, 6, 7] (.seq (.seq (.reg false [⟨(some 16), none, [7], none, .q (.mv (.t 7))⟩,
    ⟨(some 17), none, [16], none, .q (.bin .neq (.t 16) (.k (.i 0)))⟩])
  (.keep [1, 2, 4, 6, 7, 17] (.cond (.t 17)
    (.seq (.reg false [⟨(some 18), none, [], none, .q (.bld [(.i 0), (.i 0)] [])⟩,
      ⟨(some 19), none, [7], none, .q (.mv (.t 7))⟩,
      ⟨none, none, [4, 18], none, .w (.st 2 (.t 4) (.t 18))⟩,
      ⟨(some 5), none, [19], none, .q (.mv (.t 19))⟩])
    .ret)
    .skip)))
  (.keep [1, 2, 4, 6] (.seq (.reg false [⟨(some 21), none, [2], none, .q (.ld true 6 (.t 2))⟩,
    ⟨(some 22), none, [6], none, .q (.mv (.t 6))⟩,
    ⟨(some 23), none, [1], none, .q (.mv (.t 1))⟩,
    ⟨(some 24), none, [21, 22, 23], none, .q (.call (.k (.fn 53 [])) [(.t 21), (.t 22), (.t 23)])⟩,
    ⟨(some 20), none, [24], none, .q (.mv (.t 24))⟩,
    ⟨(some 25), none, [20], none, .q (.ext (.t 20) 0)⟩,
    ⟨(some 26), none, [20], none, .q (.ext (.t 20) 1)⟩,
    ⟨(some 8), none, [], none, .w (.alc [(.i 0), (.i 0)])⟩,
    ⟨none, none, [8, 25], none, .w (.st 2 (.t 8) (.t 25))⟩,
    ⟨(some 9), none, [26], none, .q (.mv (.t 26))⟩])
  (.keep [4, 8, 9] (.seq (.seq (.reg false [⟨(some 27), none, [9], none, .q (.mv (.t 9))⟩,
    ⟨(some 28), none, [27], none, .q (.not (.t 27))⟩])
  (.keep [4, 8, 28] (.cond (.t 28)
    (.seq (.reg false [⟨(some 29), none, [], none, .q (.bld [(.i 0), (.i 0)] [])⟩,
      ⟨none, none, [4, 29], none, .w (.st 2 (.t 4) (.t 29))⟩,
      ⟨(some 5), none, [], none, .q (.mv (.k (.i 3)))⟩])
    .ret)
    .skip)))
  (.keep [4, 8] (.seq (.reg false [⟨(some 30), none, [8], none, .q (.ld true 2 (.t 8))⟩,
    ⟨none, none, [4, 30], none, .w (.st 2 (.t 4) (.t 30))⟩,
    ⟨(some 5), none, [], none, .q (.mv (.k (.i 0)))⟩])
  .ret)))))))))))
def pu30 : List Nat := [2]
def rs30 : List RV := [.c 4 true 2, .t 5]
theorem cc30 : comp Try.prog pu30 (Try.f30.ntmps, 0) 0 1 rc30 (Try.f30.body.getD .skip) = some rc30 := by kernel_rfl
theorem cb30 : Try.f30.body = some (Try.f30.body.getD .skip) := by kernel_rfl
theorem cs30 : resRV Try.prog Try.f30.results.toList = some rs30 := by kernel_rfl
theorem cn30 : 2 ≤ Try.f30.ntmps := by decide
/- ferrule/cloth.Least: params [26], free 0, slots 24 -/
def rc31 : RC :=
  (.seq (.reg false [⟨(some 1), none, [0], none, .q (.box (.t 0))⟩,
    ⟨(some 2), none, [], none, .q (.mv (.k (.i 0)))⟩,
    ⟨(some 3), none, [], none, .q (.mv (.k (.i 0)))⟩])
  (.keep [1, 2] (.seq (.reg false [⟨(some 8), none, [1], none, .q (.ld true 6 (.t 1))⟩,
    ⟨(some 9), none, [8], none, .q (.call (.k (.fn 33 [])) [(.t 8)])⟩,
    ⟨(some 7), none, [9], none, .q (.mv (.t 9))⟩,
    ⟨(some 10), none, [7], none, .q (.ext (.t 7) 0)⟩,
    ⟨(some 11), none, [7], none, .q (.ext (.t 7) 1)⟩,
    ⟨(some 4), none, [10], none, .q (.mv (.t 10))⟩,
    ⟨(some 3), none, [11], none, .q (.mv (.t 11))⟩])
  (.keep [2, 3, 4] (.seq (.seq (.reg false [⟨(some 12), none, [4], none, .q (.mv (.t 4))⟩,
    ⟨(some 13), none, [12], none, .q (.len (.t 12))⟩,
    ⟨(some 14), none, [], none, .q (.mv (.k (.i 0)))⟩])
  (.keep [2, 3, 12, 13, 14] (.block 0 (.loop [2, 3, 12, 13, 14] none (.seq (.reg false [⟨(some 15), none, [14, 13], none, .q (.bin .lss (.t 14) (.t 13))⟩])
  (.keep [2, 3, 12, 13, 14, 15] (.seq (.cond (.t 15)
    .skip
    (.exit 0))
  (.keep [2, 3, 12, 13, 14] (.seq (.block 1 (.seq (.reg false [⟨(some 16), none, [12, 14], none, .q (.iad 1 (.t 12) (.t 14))⟩,
    ⟨(some 17), none, [16], none, .q (.ld false 1 (.t 16))⟩,
    ⟨(some 6), none, [17], none, .q (.mv (.t 17))⟩])
  (.keep [2, 3, 6, 12, 13, 14] (.reg false [⟨(some 18), none, [2], none, .q (.mv (.t 2))⟩,
    ⟨(some 19), none, [6], none, .q (.mv (.t 6))⟩,
    ⟨(some 20), none, [18, 19], none, .q (.bin .add (.t 18) (.t 19))⟩,
    ⟨(some 2), none, [20], none, .q (.mv (.t 20))⟩]))))
  (.keep [2, 3, 12, 13, 14] (.reg false [⟨(some 21), none, [14], none, .q (.bin .add (.t 14) (.k (.i 1)))⟩,
    ⟨(some 14), none, [21], none, .q (.mv (.t 21))⟩])))))))))))
  (.keep [2, 3] (.seq (.reg false [⟨(some 22), none, [2], none, .q (.mv (.t 2))⟩,
    ⟨(some 23), none, [3], none, .q (.mv (.t 3))⟩,
    ⟨(some 2), none, [22], none, .q (.mv (.t 22))⟩,
    ⟨(some 3), none, [23], none, .q (.mv (.t 23))⟩])
  .ret)))))))
def pu31 : List Nat := [1]
def rs31 : List RV := [.t 2, .t 3]
theorem cc31 : comp Try.prog pu31 (Try.f31.ntmps, 0) 0 1 rc31 (Try.f31.body.getD .skip) = some rc31 := by kernel_rfl
theorem cb31 : Try.f31.body = some (Try.f31.body.getD .skip) := by kernel_rfl
theorem cs31 : resRV Try.prog Try.f31.results.toList = some rs31 := by kernel_rfl
theorem cn31 : 1 ≤ Try.f31.ntmps := by decide
/- ferrule/ferruleref02.Least: params [26], free 0, slots 106 -/
def rc32 : RC :=
  (.seq (.reg false [⟨(some 1), none, [0], none, .q (.box (.t 0))⟩,
    ⟨(some 2), none, [], none, .q (.mv (.k (.i 0)))⟩,
    ⟨(some 3), none, [], none, .q (.mv (.k (.i 0)))⟩])
  (.keep [1] (.seq (.reg false [⟨(some 16), none, [1], none, .q (.ld true 6 (.t 1))⟩,
    ⟨(some 17), none, [16], none, .q (.call (.k (.fn 51 [])) [(.t 16), (.k (.i 0)), (.k (.i 0))])⟩,
    ⟨(some 15), none, [17], none, .q (.mv (.t 17))⟩,
    ⟨(some 18), none, [15], none, .q (.ext (.t 15) 0)⟩,
    ⟨(some 19), none, [15], none, .q (.ext (.t 15) 1)⟩,
    ⟨(some 4), none, [18], none, .q (.mv (.t 18))⟩,
    ⟨(some 5), none, [19], none, .q (.mv (.t 19))⟩])
  (.keep [1, 4, 5] (.seq (.seq (.reg false [⟨(some 20), none, [5], none, .q (.mv (.t 5))⟩,
    ⟨(some 21), none, [20], none, .q (.bin .neq (.t 20) (.k (.i 0)))⟩])
  (.keep [1, 4, 5, 21] (.cond (.t 21)
    (.seq (.reg false [⟨(some 22), none, [5], none, .q (.mv (.t 5))⟩,
      ⟨(some 2), none, [], none, .q (.mv (.k (.i 0)))⟩,
      ⟨(some 3), none, [22], none, .q (.mv (.t 22))⟩])
    .ret)
    .skip)))
  (.keep [1, 4] (.seq (.reg false [⟨(some 6), none, [], none, .q (.mv (.k (.z 1)))⟩])
  (.keep [1, 4, 6] (.seq (.seq (.reg false [⟨(some 7), none, [], none, .q (.mv (.k (.i 0)))⟩])
  (.keep [1, 4, 6, 7] (.block 0 (.loop [1, 4, 6, 7] (some 0) (.seq (.seq (.reg false [⟨(some 23), none, [7], none, .q (.mv (.t 7))⟩,
    ⟨(some 24), none, [1], none, .q (.fad 3 (.t 1))⟩,
    ⟨(some 25), none, [24], none, .q (.ld false 1 (.t 24))⟩,
    ⟨(some 26), none, [25], none, .q (.len (.t 25))⟩,
    ⟨(some 27), none, [23, 26], none, .q (.bin .lss (.t 23) (.t 26))⟩])
  (.keep [1, 4, 6, 7, 27] (.cond (.t 27)
    .skip
    (.exit 0))))
  (.keep [1, 4, 6, 7] (.seq (.block 1 (.seq (.reg false [⟨(some 31), none, [1], none, .q (.ld true 6 (.t 1))⟩,
    ⟨(some 32), none, [4], none, .q (.mv (.t 4))⟩,
    ⟨(some 33), none, [7], none, .q (.mv (.t 7))⟩,
    ⟨(some 34), none, [31, 32, 33], none, .q (.call (.k (.fn 53 [])) [(.t 31), (.t 32), (.t 33)])⟩,
    ⟨(some 30), none, [34], none, .q (.mv (.t 34))⟩,
    ⟨(some 35), none, [30], none, .q (.ext (.t 30) 0)⟩,
    ⟨(some 36), none, [30], none, .q (.ext (.t 30) 1)⟩,
    ⟨(some 8), none, [], none, .w (.alc [(.i 0), (.i 0)])⟩,
    ⟨none, none, [8, 35], none, .w (.st 2 (.t 8) (.t 35))⟩,
    ⟨(some 9), none, [36], none, .q (.mv (.t 36))⟩])
  (.keep [1, 4, 6, 7, 8, 9] (.seq (.seq (.reg false [⟨(some 37), none, [9], none, .q (.mv (.t 9))⟩,
    ⟨(some 38), none, [37], none, .q (.not (.t 37))⟩])
  (.keep [1, 4, 6, 7, 8, 38] (.cond (.t 38)
    (.seq (.reg false [⟨(some 2), none, [], none, .q (.mv (.k (.i 0)))⟩,
      ⟨(some 3), none, [], none, .q (.mv (.k (.i 3)))⟩])
    .ret)
    .skip)))
  (.keep [1, 4, 6, 7, 8] (.seq (.reg false [⟨(some 39), none, [], none, .w (.mks 1 [(.i 0)] (.k (.i 2001)) (.k (.i 2001)))⟩,
    ⟨(some 10), none, [39], none, .q (.mv (.t 39))⟩])
  (.keep [1, 4, 6, 7, 8, 10] (.seq (.seq (.reg false [⟨(some 11), none, [], none, .q (.mv (.k (.i 0)))⟩])
  (.keep [1, 4, 6, 7, 8, 10, 11] (.block 2 (.loop [1, 4, 6, 7, 8, 10, 11] none (.seq (.seq (.reg false [⟨(some 40), none, [11], none, .q (.mv (.t 11))⟩,
    ⟨(some 41), none, [40], none, .q (.bin .leq (.t 40) (.k (.i 2000)))⟩])
  (.keep [1, 4, 6, 7, 8, 10, 11, 41] (.cond (.t 41)
    .skip
    (.exit 2))))
  (.keep [1, 4, 6, 7, 8, 10, 11] (.seq (.block 3 (.seq (.reg false [⟨(some 44), none, [10], none, .q (.mv (.t 10))⟩,
    ⟨(some 45), none, [11], none, .q (.mv (.t 11))⟩,
    ⟨(some 46), none, [44, 45], none, .q (.iad 1 (.t 44) (.t 45))⟩,
    ⟨none, none, [46], none, .w (.st 1 (.t 46) (.k (.i 1073741824)))⟩])
  (.keep [1, 4, 6, 7, 8, 10, 11] (.seq (.seq (.reg false [⟨(some 47), none, [11], none, .q (.mv (.t 11))⟩,
    ⟨(some 48), none, [8], none, .q (.fad 0 (.t 8))⟩,
    ⟨(some 49), none, [48], none, .q (.ld false 1 (.t 48))⟩,
    ⟨(some 50), none, [8], none, .q (.fad 1 (.t 8))⟩,
    ⟨(some 51), none, [50], none, .q (.ld false 1 (.t 50))⟩,
    ⟨(some 52), none, [47, 49, 51], none, .q (.call (.k (.fn 54 [])) [(.t 47), (.t 49), (.t 51)])⟩,
    ⟨(some 53), none, [52], none, .q (.not (.t 52))⟩])
  (.keep [1, 4, 6, 7, 8, 10, 11, 53] (.cond (.t 53)
    (.exit 3)
    .skip)))
  (.keep [1, 4, 6, 7, 8, 10, 11] (.seq (.seq (.reg false [⟨(some 54), none, [7], none, .q (.mv (.t 7))⟩,
    ⟨(some 55), none, [54], none, .q (.bin .eql (.t 54) (.k (.i 0)))⟩])
  (.keep [1, 4, 6, 7, 8, 10, 11, 55] (.cond (.t 55)
    (.reg false [⟨(some 56), none, [10], none, .q (.mv (.t 10))⟩,
      ⟨(some 57), none, [11], none, .q (.mv (.t 11))⟩,
      ⟨(some 58), none, [11], none, .q (.mv (.t 11))⟩,
      ⟨(some 59), none, [56, 57], none, .q (.iad 1 (.t 56) (.t 57))⟩,
      ⟨none, none, [59, 58], none, .w (.st 1 (.t 59) (.t 58))⟩])
    .skip)))
  (.keep [1, 4, 6, 7, 8, 10, 11] (.seq (.reg false [⟨(some 60), none, [11], none, .q (.mv (.t 11))⟩,
    ⟨(some 61), none, [1], none, .q (.fad 5 (.t 1))⟩,
    ⟨(some 62), none, [61], none, .q (.ld false 1 (.t 61))⟩,
    ⟨(some 63), none, [60, 62], none, .q (.bin .sub (.t 60) (.t 62))⟩,
    ⟨(some 64), none, [63], none, .q (.mx (.k (.i 0)) (.t 63))⟩,
    ⟨(some 12), none, [64], none, .q (.mv (.t 64))⟩])
  (.keep [1, 4, 6, 7, 8, 10, 11, 12] (.block 4 (.loop [1, 4, 6, 7, 8, 10, 11, 12] none (.seq (.seq (.reg true [⟨(some 65), none, [7], none, .q (.mv (.t 7))⟩,
    ⟨(some 66), none, [65], none, .q (.bin .gtr (.t 65) (.k (.i 0)))⟩,
    ⟨(some 67), none, [66], none, .q (.mv (.t 66))⟩,
    ⟨(some 68), (some (67, true)), [12], none, .q (.mv (.t 12))⟩,
    ⟨(some 69), (some (67, true)), [11], none, .q (.mv (.t 11))⟩,
    ⟨(some 70), (some (67, true)), [1], none, .q (.fad 5 (.t 1))⟩,
    ⟨(some 71), (some (67, true)), [70], none, .q (.ld false 1 (.t 70))⟩,
    ⟨(some 72), (some (67, true)), [69, 71], none, .q (.bin .add (.t 69) (.t 71))⟩,
    ⟨(some 73), (some (67, true)), [72], none, .q (.mn (.k (.i 2000)) (.t 72))⟩,
    ⟨(some 74), (some (67, true)), [68, 73], none, .q (.bin .leq (.t 68) (.t 73))⟩,
    ⟨(some 75), none, [67, 74], none, .q (.pick (.t 67) (.t 74) (.k (.b false)))⟩])
  (.keep [1, 4, 6, 7, 8, 10, 11, 12, 75] (.cond (.t 75)
    .skip
    (.exit 4))))
  (.keep [1, 4, 6, 7, 8, 10, 11, 12] (.seq (.block 5 (.any false 0 [⟨⟨(some 78), none, [10], none, .q (.mv (.t 10))⟩, [], []⟩,
    ⟨⟨(some 79), none, [11], none, .q (.mv (.t 11))⟩, [], []⟩,
    ⟨⟨(some 80), none, [10], none, .q (.mv (.t 10))⟩, [], []⟩,
    ⟨⟨(some 81), none, [11], none, .q (.mv (.t 11))⟩, [], []⟩,
    ⟨⟨(some 82), none, [80, 81], none, .q (.iad 1 (.t 80) (.t 81))⟩, [], [2, 3]⟩,
    ⟨⟨(some 83), none, [82], none, .q (.ld false 1 (.t 82))⟩, [], [4, 2, 3]⟩,
    ⟨⟨(some 84), none, [6], none, .q (.mv (.t 6))⟩, [], []⟩,
    ⟨⟨(some 85), none, [12], none, .q (.mv (.t 12))⟩, [], []⟩,
    ⟨⟨(some 86), none, [84, 85], none, .q (.iad 1 (.t 84) (.t 85))⟩, [], [6, 7]⟩,
    ⟨⟨(some 87), none, [86], none, .q (.ld false 1 (.t 86))⟩, [], [8, 6, 7]⟩,
    ⟨⟨(some 88), none, [11], none, .q (.mv (.t 11))⟩, [], []⟩,
    ⟨⟨(some 89), none, [87, 88], none, .q (.bin .add (.t 87) (.t 88))⟩, [], [9, 8, 6, 7, 10]⟩,
    ⟨⟨(some 90), none, [83, 89], none, .q (.mn (.t 83) (.t 89))⟩, [], [5, 4, 2, 3, 11, 9, 8, 6, 7, 10]⟩,
    ⟨⟨(some 91), none, [78, 79], none, .q (.iad 1 (.t 78) (.t 79))⟩, [], [0, 1, 2, 3, 4, 5, 6, 7, 8, 9, 10, 11, 12]⟩,
    ⟨⟨none, none, [91, 90], none, .w (.st 1 (.t 91) (.t 90))⟩, [], [13, 0, 1, 2, 3, 4, 5, 6, 7, 8, 9, 10, 11, 12]⟩]))
  (.keep [1, 4, 6, 7, 8, 10, 11, 12] (.reg false [⟨(some 76), none, [12], none, .q (.mv (.t 12))⟩,
    ⟨(some 77), none, [76], none, .q (.bin .add (.t 76) (.k (.i 1)))⟩,
    ⟨(some 12), none, [77], none, .q (.mv (.t 77))⟩]))))))))))))))))
  (.keep [1, 4, 6, 7, 8, 10, 11] (.reg false [⟨(some 42), none, [11], none, .q (.mv (.t 11))⟩,
    ⟨(some 43), none, [42], none, .q (.bin .add (.t 42) (.k (.i 1)))⟩,
    ⟨(some 11), none, [43], none, .q (.mv (.t 43))⟩])))))))))
  (.keep [1, 4, 7, 10] (.reg false [⟨(some 92), none, [10], none, .q (.mv (.t 10))⟩,
    ⟨(some 6), none, [92], none, .q (.mv (.t 92))⟩]))))))))))
  (.drp 0 (.keep [1, 4, 6, 7] (.reg false [⟨(some 28), none, [7], none, .q (.mv (.t 7))⟩,
    ⟨(some 29), none, [28], none, .q (.bin .add (.t 28) (.k (.i 1)))⟩,
    ⟨(some 7), none, [29], none, .q (.mv (.t 29))⟩]))))))))))
  (.keep [6] (.seq (.reg false [⟨(some 13), none, [], none, .q (.mv (.k (.i 1073741824)))⟩])
  (.keep [6, 13] (.seq (.seq (.reg false [⟨(some 14), none, [], none, .q (.mv (.k (.i 0)))⟩])
  (.keep [6, 13, 14] (.block 6 (.loop [6, 13, 14] none (.seq (.seq (.reg false [⟨(some 93), none, [14], none, .q (.mv (.t 14))⟩,
    ⟨(some 94), none, [93], none, .q (.bin .leq (.t 93) (.k (.i 2000)))⟩])
  (.keep [6, 13, 14, 94] (.cond (.t 94)
    .skip
    (.exit 6))))
  (.keep [6, 13, 14] (.seq (.block 7 (.reg false [⟨(some 97), none, [13], none, .q (.mv (.t 13))⟩,
    ⟨(some 98), none, [6], none, .q (.mv (.t 6))⟩,
    ⟨(some 99), none, [14], none, .q (.mv (.t 14))⟩,
    ⟨(some 100), none, [98, 99], none, .q (.iad 1 (.t 98) (.t 99))⟩,
    ⟨(some 101), none, [100], none, .q (.ld false 1 (.t 100))⟩,
    ⟨(some 102), none, [97, 101], none, .q (.mn (.t 97) (.t 101))⟩,
    ⟨(some 13), none, [102], none, .q (.mv (.t 102))⟩]))
  (.keep [6, 13, 14] (.reg false [⟨(some 95), none, [14], none, .q (.mv (.t 14))⟩,
    ⟨(some 96), none, [95], none, .q (.bin .add (.t 95) (.k (.i 1)))⟩,
    ⟨(some 14), none, [96], none, .q (.mv (.t 96))⟩])))))))))
  (.keep [13] (.seq (.seq (.reg false [⟨(some 103), none, [13], none, .q (.mv (.t 13))⟩,
    ⟨(some 104), none, [103], none, .q (.bin .geq (.t 103) (.k (.i 1073741824)))⟩])
  (.keep [13, 104] (.cond (.t 104)
    (.seq (.reg false [⟨(some 2), none, [], none, .q (.mv (.k (.i 0)))⟩,
      ⟨(some 3), none, [], none, .q (.mv (.k (.i 3)))⟩])
    .ret)
    .skip)))
  (.keep [13] (.seq (.reg false [⟨(some 105), none, [13], none, .q (.mv (.t 13))⟩,
    ⟨(some 2), none, [105], none, .q (.mv (.t 105))⟩,
    ⟨(some 3), none, [], none, .q (.mv (.k (.i 0)))⟩])
  .ret)))))))))))))))))
def pu32 : List Nat := [1]
def rs32 : List RV := [.t 2, .t 3]
theorem cc32 : comp Try.prog pu32 (Try.f32.ntmps, 0) 0 1 rc32 (Try.f32.body.getD .skip) = some rc32 := by kernel_rfl
theorem cb32 : Try.f32.body = some (Try.f32.body.getD .skip) := by kernel_rfl
theorem cs32 : resRV Try.prog Try.f32.results.toList = some rs32 := by kernel_rfl
theorem cn32 : 1 ≤ Try.f32.ntmps := by decide
/- ferrule/cloth.Curve: params [26], free 0, slots 85 -/
def rc33 : RC :=
  (.seq (.reg false [⟨(some 1), none, [0], none, .q (.box (.t 0))⟩,
    ⟨(some 2), none, [], none, .q (.mv (.k (.z 1)))⟩,
    ⟨(some 3), none, [], none, .q (.mv (.k (.i 0)))⟩])
  (.keep [1] (.seq (.reg false [⟨(some 17), none, [1], none, .q (.ld true 6 (.t 1))⟩,
    ⟨(some 18), none, [17], none, .q (.call (.k (.fn 45 [])) [(.t 17), (.k (.b true))])⟩,
    ⟨(some 16), none, [18], none, .q (.mv (.t 18))⟩,
    ⟨(some 19), none, [16], none, .q (.ext (.t 16) 0)⟩,
    ⟨(some 20), none, [16], none, .q (.ext (.t 16) 1)⟩,
    ⟨(some 4), none, [19], none, .q (.mv (.t 19))⟩,
    ⟨(some 5), none, [20], none, .q (.mv (.t 20))⟩])
  (.keep [1, 4, 5] (.seq (.seq (.reg false [⟨(some 21), none, [5], none, .q (.mv (.t 5))⟩,
    ⟨(some 22), none, [21], none, .q (.bin .neq (.t 21) (.k (.i 0)))⟩])
  (.keep [1, 4, 5, 22] (.cond (.t 22)
    (.seq (.reg false [⟨(some 23), none, [5], none, .q (.mv (.t 5))⟩,
      ⟨(some 2), none, [], none, .q (.mv (.k (.z 1)))⟩,
      ⟨(some 3), none, [23], none, .q (.mv (.t 23))⟩])
    .ret)
    .skip)))
  (.keep [1, 4] (.seq (.reg false [⟨(some 6), none, [], none, .q (.mv (.k (.z 2)))⟩])
  (.keep [1, 4, 6] (.seq (.seq (.reg false [⟨(some 24), none, [1], none, .q (.fad 3 (.t 1))⟩,
    ⟨(some 25), none, [24], none, .q (.ld false 1 (.t 24))⟩,
    ⟨(some 26), none, [25], none, .q (.len (.t 25))⟩,
    ⟨(some 27), none, [], none, .q (.mv (.k (.i 0)))⟩])
  (.keep [1, 4, 6, 26, 27] (.block 0 (.own 6 2 (.loop [1, 4, 6, 26, 27] (some 1) (.seq (.reg false [⟨(some 28), none, [27, 26], none, .q (.bin .lss (.t 27) (.t 26))⟩])
  (.keep [1, 4, 6, 26, 27, 28] (.seq (.cond (.t 28)
    .skip
    (.exit 0))
  (.keep [1, 4, 6, 26, 27] (.seq (.block 1 (.seq (.reg false [⟨(some 29), none, [27], none, .q (.mv (.t 27))⟩,
    ⟨(some 7), none, [29], none, .q (.mv (.t 29))⟩])
  (.keep [1, 4, 6, 7, 26, 27] (.seq (.reg false [⟨(some 31), none, [4], none, .q (.mv (.t 4))⟩,
    ⟨(some 32), none, [7], none, .q (.mv (.t 7))⟩,
    ⟨(some 33), none, [31, 32], none, .q (.call (.k (.fn 48 [])) [(.t 31), (.t 32)])⟩,
    ⟨(some 30), none, [33], none, .q (.mv (.t 33))⟩,
    ⟨(some 34), none, [30], none, .q (.ext (.t 30) 0)⟩,
    ⟨(some 35), none, [30], none, .q (.ext (.t 30) 1)⟩,
    ⟨(some 8), none, [], none, .w (.alc [(.i 0), (.i 0)])⟩,
    ⟨none, none, [8, 34], none, .w (.st 2 (.t 8) (.t 34))⟩,
    ⟨(some 9), none, [35], none, .q (.mv (.t 35))⟩])
  (.keep [1, 4, 6, 8, 9, 26, 27] (.seq (.seq (.reg false [⟨(some 36), none, [9], none, .q (.mv (.t 9))⟩,
    ⟨(some 37), none, [36], none, .q (.not (.t 36))⟩])
  (.keep [1, 4, 6, 8, 26, 27, 37] (.cond (.t 37)
    (.seq (.reg false [⟨(some 2), none, [], none, .q (.mv (.k (.z 1)))⟩,
      ⟨(some 3), none, [], none, .q (.mv (.k (.i 3)))⟩])
    .ret)
    .skip)))
  (.keep [1, 4, 6, 8, 26, 27] (.reg false [⟨(some 38), none, [6], none, .q (.mv (.t 6))⟩,
    ⟨(some 39), none, [8], none, .q (.ld true 2 (.t 8))⟩,
    ⟨(some 40), none, [39], none, .q (.bsl 2 1 [(.i 0), (.i 0)] [(0, 2, (.t 39))])⟩,
    ⟨(some 41), none, [38, 40], none, .w (.app 2 (.t 38) (.t 40))⟩,
    ⟨(some 6), none, [41], none, .q (.mv (.t 41))⟩]))))))))
  (.drp 1 (.keep [1, 4, 6, 26, 27] (.reg false [⟨(some 42), none, [27], none, .q (.bin .add (.t 27) (.k (.i 1)))⟩,
    ⟨(some 27), none, [42], none, .q (.mv (.t 42))⟩])))))))))))))
  (.keep [1, 6] (.seq (.reg false [⟨(some 10), none, [], none, .q (.mv (.k (.z 1)))⟩])
  (.keep [1, 6, 10] (.seq (.seq (.reg false [⟨(some 43), none, [6], none, .q (.mv (.t 6))⟩,
    ⟨(some 44), none, [43], none, .q (.len (.t 43))⟩,
    ⟨(some 45), none, [], none, .q (.mv (.k (.i 0)))⟩])
  (.keep [1, 6, 10, 43, 44, 45] (.block 2 (.own 10 1 (.loop [1, 6, 10, 43, 44, 45] (some 2) (.seq (.reg false [⟨(some 46), none, [45, 44], none, .q (.bin .lss (.t 45) (.t 44))⟩])
  (.keep [1, 6, 10, 43, 44, 45, 46] (.seq (.cond (.t 46)
    .skip
    (.exit 2))
  (.keep [1, 6, 10, 43, 44, 45] (.seq (.block 3 (.seq (.reg false [⟨(some 47), none, [45], none, .q (.mv (.t 45))⟩,
    ⟨(some 48), none, [43, 45], none, .q (.iad 2 (.t 43) (.t 45))⟩,
    ⟨(some 49), none, [48], none, .q (.ld true 2 (.t 48))⟩,
    ⟨(some 12), none, [], none, .w (.alc [(.i 0), (.i 0)])⟩,
    ⟨(some 11), none, [47], none, .q (.mv (.t 47))⟩,
    ⟨none, none, [12, 49], none, .w (.st 2 (.t 12) (.t 49))⟩])
  (.keep [1, 6, 10, 11, 12, 43, 44, 45] (.seq (.reg false [⟨(some 50), none, [12], none, .q (.fad 0 (.t 12))⟩,
    ⟨(some 51), none, [50], none, .q (.ld false 1 (.t 50))⟩,
    ⟨(some 13), none, [51], none, .q (.mv (.t 51))⟩])
  (.keep [1, 6, 10, 11, 12, 13, 43, 44, 45] (.seq (.seq (.reg false [⟨(some 52), none, [6], none, .q (.mv (.t 6))⟩,
    ⟨(some 53), none, [52], none, .q (.len (.t 52))⟩,
    ⟨(some 54), none, [], none, .q (.mv (.k (.i 0)))⟩])
  (.keep [1, 6, 10, 11, 12, 13, 43, 44, 45, 52, 53, 54] (.block 4 (.loop [1, 6, 10, 11, 12, 13, 43, 44, 45, 52, 53, 54] (some 3) (.seq (.reg false [⟨(some 55), none, [54, 53], none, .q (.bin .lss (.t 54) (.t 53))⟩])
  (.keep [1, 6, 10, 11, 12, 13, 43, 44, 45, 52, 53, 54, 55] (.seq (.cond (.t 55)
    .skip
    (.exit 4))
  (.keep [1, 6, 10, 11, 12, 13, 43, 44, 45, 52, 53, 54] (.seq (.block 5 (.seq (.reg false [⟨(some 56), none, [54], none, .q (.mv (.t 54))⟩,
    ⟨(some 57), none, [52, 54], none, .q (.iad 2 (.t 52) (.t 54))⟩,
    ⟨(some 58), none, [57], none, .q (.ld true 2 (.t 57))⟩,
    ⟨(some 15), none, [], none, .w (.alc [(.i 0), (.i 0)])⟩,
    ⟨(some 14), none, [56], none, .q (.mv (.t 56))⟩,
    ⟨none, none, [15, 58], none, .w (.st 2 (.t 15) (.t 58))⟩])
  (.keep [1, 6, 10, 11, 12, 13, 14, 15, 43, 44, 45, 52, 53, 54] (.reg false [⟨(some 59), none, [13], none, .q (.mv (.t 13))⟩,
    ⟨(some 60), none, [15], none, .q (.fad 0 (.t 15))⟩,
    ⟨(some 61), none, [60], none, .q (.ld false 1 (.t 60))⟩,
    ⟨(some 62), none, [1], none, .q (.fad 5 (.t 1))⟩,
    ⟨(some 63), none, [62], none, .q (.ld false 1 (.t 62))⟩,
    ⟨(some 64), none, [11], none, .q (.mv (.t 11))⟩,
    ⟨(some 65), none, [14], none, .q (.mv (.t 14))⟩,
    ⟨(some 66), none, [64, 65], none, .q (.bin .sub (.t 64) (.t 65))⟩,
    ⟨(some 67), none, [14], none, .q (.mv (.t 14))⟩,
    ⟨(some 68), none, [11], none, .q (.mv (.t 11))⟩,
    ⟨(some 69), none, [67, 68], none, .q (.bin .sub (.t 67) (.t 68))⟩,
    ⟨(some 70), none, [66, 69], none, .q (.mx (.t 66) (.t 69))⟩,
    ⟨(some 71), none, [63, 70], none, .q (.bin .mul (.t 63) (.t 70))⟩,
    ⟨(some 72), none, [61, 71], none, .q (.bin .sub (.t 61) (.t 71))⟩,
    ⟨(some 73), none, [59, 72], none, .q (.mx (.t 59) (.t 72))⟩,
    ⟨(some 13), none, [73], none, .q (.mv (.t 73))⟩]))))
  (.drp 3 (.keep [1, 6, 10, 11, 12, 13, 43, 44, 45, 52, 53, 54] (.reg false [⟨(some 74), none, [54], none, .q (.bin .add (.t 54) (.k (.i 1)))⟩,
    ⟨(some 54), none, [74], none, .q (.mv (.t 74))⟩]))))))))))))
  (.keep [1, 6, 10, 12, 13, 43, 44, 45] (.seq (.seq (.reg false [⟨(some 75), none, [13], none, .q (.mv (.t 13))⟩,
    ⟨(some 76), none, [12], none, .q (.fad 1 (.t 12))⟩,
    ⟨(some 77), none, [76], none, .q (.ld false 1 (.t 76))⟩,
    ⟨(some 78), none, [75, 77], none, .q (.bin .gtr (.t 75) (.t 77))⟩])
  (.keep [1, 6, 10, 13, 43, 44, 45, 78] (.cond (.t 78)
    (.seq (.reg false [⟨(some 2), none, [], none, .q (.mv (.k (.z 1)))⟩,
      ⟨(some 3), none, [], none, .q (.mv (.k (.i 3)))⟩])
    .ret)
    .skip)))
  (.keep [1, 6, 10, 13, 43, 44, 45] (.reg false [⟨(some 79), none, [10], none, .q (.mv (.t 10))⟩,
    ⟨(some 80), none, [13], none, .q (.mv (.t 13))⟩,
    ⟨(some 81), none, [80], none, .q (.bsl 1 1 [(.i 0)] [(0, 1, (.t 80))])⟩,
    ⟨(some 82), none, [79, 81], none, .w (.app 1 (.t 79) (.t 81))⟩,
    ⟨(some 10), none, [82], none, .q (.mv (.t 82))⟩]))))))))))
  (.drp 2 (.keep [1, 6, 10, 43, 44, 45] (.reg false [⟨(some 83), none, [45], none, .q (.bin .add (.t 45) (.k (.i 1)))⟩,
    ⟨(some 45), none, [83], none, .q (.mv (.t 83))⟩])))))))))))))
  (.keep [10] (.seq (.reg false [⟨(some 84), none, [10], none, .q (.mv (.t 10))⟩,
    ⟨(some 2), none, [84], none, .q (.mv (.t 84))⟩,
    ⟨(some 3), none, [], none, .q (.mv (.k (.i 0)))⟩])
  .ret)))))))))))))))
def pu33 : List Nat := [1, 40, 81]
def rs33 : List RV := [.t 2, .t 3]
theorem cc33 : comp Try.prog pu33 (Try.f33.ntmps, 0) 0 1 rc33 (Try.f33.body.getD .skip) = some rc33 := by kernel_rfl
theorem cb33 : Try.f33.body = some (Try.f33.body.getD .skip) := by kernel_rfl
theorem cs33 : resRV Try.prog Try.f33.results.toList = some rs33 := by kernel_rfl
theorem cn33 : 1 ≤ Try.f33.ntmps := by decide
/- ferrule/ferruleref02.IsCurve: params [26, 23], free 0, slots 64 -/
def rc34 : RC :=
  (.seq (.reg false [⟨(some 2), none, [0], none, .q (.box (.t 0))⟩,
    ⟨(some 4), none, [], none, .q (.mv (.k (.b false)))⟩])
  (.keep [1, 2] (.seq (.seq (.reg false [⟨(some 7), none, [1], none, .q (.mv (.t 1))⟩,
    ⟨(some 8), none, [7], none, .q (.len (.t 7))⟩,
    ⟨(some 9), none, [2], none, .q (.fad 3 (.t 2))⟩,
    ⟨(some 10), none, [9], none, .q (.ld false 1 (.t 9))⟩,
    ⟨(some 11), none, [10], none, .q (.len (.t 10))⟩,
    ⟨(some 12), none, [8, 11], none, .q (.bin .neq (.t 8) (.t 11))⟩])
  (.keep [1, 2, 12] (.cond (.t 12)
    (.seq (.reg false [⟨(some 4), none, [], none, .q (.mv (.k (.b false)))⟩])
    .ret)
    .skip)))
  (.keep [1, 2] (.seq (.reg false [⟨(some 13), none, [2], none, .q (.ld true 6 (.t 2))⟩,
    ⟨(some 14), none, [13], none, .q (.call (.k (.fn 55 [])) [(.t 13), (.k (.z 1))])⟩,
    ⟨(some 5), none, [14], none, .q (.mv (.t 14))⟩])
  (.keep [1, 2, 5] (.seq (.seq (.reg false [⟨(some 6), none, [], none, .q (.mv (.k (.i 0)))⟩])
  (.keep [1, 2, 5, 6] (.block 0 (.loop [1, 2, 5, 6] none (.seq (.seq (.reg false [⟨(some 15), none, [6], none, .q (.mv (.t 6))⟩,
    ⟨(some 16), none, [1], none, .q (.mv (.t 1))⟩,
    ⟨(some 17), none, [16], none, .q (.len (.t 16))⟩,
    ⟨(some 18), none, [15, 17], none, .q (.bin .lss (.t 15) (.t 17))⟩])
  (.keep [1, 2, 5, 6, 18] (.cond (.t 18)
    .skip
    (.exit 0))))
  (.keep [1, 2, 5, 6] (.seq (.block 1 (.seq (.seq (.any true 0 [⟨⟨(some 21), none, [1], none, .q (.mv (.t 1))⟩, [], []⟩,
    ⟨⟨(some 22), none, [6], none, .q (.mv (.t 6))⟩, [], []⟩,
    ⟨⟨(some 23), none, [21, 22], none, .q (.iad 1 (.t 21) (.t 22))⟩, [], [0, 1]⟩,
    ⟨⟨(some 24), none, [23], none, .q (.ld false 1 (.t 23))⟩, [], [2, 0, 1]⟩,
    ⟨⟨(some 25), none, [2], none, .q (.fad 2 (.t 2))⟩, [], []⟩,
    ⟨⟨(some 26), none, [25], none, .q (.ld false 1 (.t 25))⟩, [], [4]⟩,
    ⟨⟨(some 27), none, [26], none, .q (.bin .mul (.k (.i 2)) (.t 26))⟩, [], [5, 4]⟩,
    ⟨⟨(some 28), none, [24, 27], none, .q (.call (.k (.fn 54 [])) [(.t 24), (.t 27), (.k (.i 2000))])⟩, [], [3, 2, 0, 1, 6, 5, 4]⟩,
    ⟨⟨(some 29), none, [28], none, .q (.not (.t 28))⟩, [], [7, 3, 2, 0, 1, 6, 5, 4]⟩,
    ⟨⟨(some 30), none, [29], none, .q (.mv (.t 29))⟩, [], [8, 7, 3, 2, 0, 1, 6, 5, 4]⟩,
    ⟨⟨(some 31), (some (30, false)), [2], none, .q (.ld true 6 (.t 2))⟩, [], [9, 8, 7, 3, 2, 0, 1, 6, 5, 4]⟩,
    ⟨⟨(some 32), (some (30, false)), [5], none, .q (.mv (.t 5))⟩, [], [9, 8, 7, 3, 2, 0, 1, 6, 5, 4]⟩,
    ⟨⟨(some 33), (some (30, false)), [6], none, .q (.mv (.t 6))⟩, [], [9, 8, 7, 3, 2, 0, 1, 6, 5, 4]⟩,
    ⟨⟨(some 34), (some (30, false)), [1], none, .q (.mv (.t 1))⟩, [], [9, 8, 7, 3, 2, 0, 1, 6, 5, 4]⟩,
    ⟨⟨(some 35), (some (30, false)), [6], none, .q (.mv (.t 6))⟩, [], [9, 8, 7, 3, 2, 0, 1, 6, 5, 4]⟩,
    ⟨⟨(some 36), (some (30, false)), [34, 35], none, .q (.iad 1 (.t 34) (.t 35))⟩, [], [13, 9, 8, 7, 3, 2, 0, 1, 6, 5, 4, 14]⟩,
    ⟨⟨(some 37), (some (30, false)), [36], none, .q (.ld false 1 (.t 36))⟩, [], [15, 13, 9, 8, 7, 3, 2, 0, 1, 6, 5, 4, 14]⟩,
    ⟨⟨(some 38), (some (30, false)), [31, 32, 33, 37], none, .q (.call (.k (.fn 52 [])) [(.t 31), (.t 32), (.t 33), (.t 37)])⟩, [], [10, 9, 8, 7, 3, 2, 0, 1, 6, 5, 4, 11, 12, 16, 15, 13, 14]⟩,
    ⟨⟨(some 39), (some (30, false)), [5], none, .q (.mv (.t 5))⟩, [], [9, 8, 7, 3, 2, 0, 1, 6, 5, 4]⟩,
    ⟨⟨(some 40), (some (30, false)), [39], none, .q (.len (.t 39))⟩, [], [18, 9, 8, 7, 3, 2, 0, 1, 6, 5, 4]⟩,
    ⟨⟨(some 41), (some (30, false)), [38, 40], none, .q (.bin .lss (.t 38) (.t 40))⟩, [], [17, 10, 9, 8, 7, 3, 2, 0, 1, 6, 5, 4, 11, 12, 16, 15, 13, 14, 19, 18]⟩,
    ⟨⟨(some 42), none, [30, 41], none, .q (.pick (.t 30) (.k (.b true)) (.t 41))⟩, [], [9, 8, 7, 3, 2, 0, 1, 6, 5, 4, 20, 17, 10, 11, 12, 16, 15, 13, 14, 19, 18]⟩])
  (.keep [1, 2, 5, 6, 42] (.cond (.t 42)
    (.seq (.reg false [⟨(some 4), none, [], none, .q (.mv (.k (.b false)))⟩])
    .ret)
    .skip)))
  (.keep [1, 2, 5, 6] (.seq (.any true 0 [⟨⟨(some 43), none, [6], none, .q (.mv (.t 6))⟩, [], []⟩,
    ⟨⟨(some 44), none, [43], none, .q (.bin .gtr (.t 43) (.k (.i 0)))⟩, [], [0]⟩,
    ⟨⟨(some 45), none, [44], none, .q (.mv (.t 44))⟩, [], [1, 0]⟩,
    ⟨⟨(some 46), (some (45, true)), [1], none, .q (.mv (.t 1))⟩, [], [2, 1, 0]⟩,
    ⟨⟨(some 47), (some (45, true)), [6], none, .q (.mv (.t 6))⟩, [], [2, 1, 0]⟩,
    ⟨⟨(some 48), (some (45, true)), [46, 47], none, .q (.iad 1 (.t 46) (.t 47))⟩, [], [3, 2, 1, 0, 4]⟩,
    ⟨⟨(some 49), (some (45, true)), [48], none, .q (.ld false 1 (.t 48))⟩, [], [5, 3, 2, 1, 0, 4]⟩,
    ⟨⟨(some 50), (some (45, true)), [1], none, .q (.mv (.t 1))⟩, [], [2, 1, 0]⟩,
    ⟨⟨(some 51), (some (45, true)), [6], none, .q (.mv (.t 6))⟩, [], [2, 1, 0]⟩,
    ⟨⟨(some 52), (some (45, true)), [51], none, .q (.bin .sub (.t 51) (.k (.i 1)))⟩, [], [8, 2, 1, 0]⟩,
    ⟨⟨(some 53), (some (45, true)), [50, 52], none, .q (.iad 1 (.t 50) (.t 52))⟩, [], [7, 2, 1, 0, 9, 8]⟩,
    ⟨⟨(some 54), (some (45, true)), [53], none, .q (.ld false 1 (.t 53))⟩, [], [10, 7, 2, 1, 0, 9, 8]⟩,
    ⟨⟨(some 55), (some (45, true)), [49, 54], none, .q (.bin .sub (.t 49) (.t 54))⟩, [], [6, 5, 3, 2, 1, 0, 4, 11, 10, 7, 9, 8]⟩,
    ⟨⟨(some 56), (some (45, true)), [2], none, .q (.fad 5 (.t 2))⟩, [], [2, 1, 0]⟩,
    ⟨⟨(some 57), (some (45, true)), [56], none, .q (.ld false 1 (.t 56))⟩, [], [13, 2, 1, 0]⟩,
    ⟨⟨(some 58), (some (45, true)), [57], none, .q (.neg (.t 57))⟩, [], [14, 13, 2, 1, 0]⟩,
    ⟨⟨(some 59), (some (45, true)), [2], none, .q (.fad 5 (.t 2))⟩, [], [2, 1, 0]⟩,
    ⟨⟨(some 60), (some (45, true)), [59], none, .q (.ld false 1 (.t 59))⟩, [], [16, 2, 1, 0]⟩,
    ⟨⟨(some 61), (some (45, true)), [55, 58, 60], none, .q (.call (.k (.fn 54 [])) [(.t 55), (.t 58), (.t 60)])⟩, [], [12, 6, 5, 3, 2, 1, 0, 4, 11, 10, 7, 9, 8, 15, 14, 13, 17, 16]⟩,
    ⟨⟨(some 62), (some (45, true)), [61], none, .q (.not (.t 61))⟩, [], [18, 12, 6, 5, 3, 2, 1, 0, 4, 11, 10, 7, 9, 8, 15, 14, 13, 17, 16]⟩,
    ⟨⟨(some 63), none, [45, 62], none, .q (.pick (.t 45) (.t 62) (.k (.b false)))⟩, [], [2, 1, 0, 19, 18, 12, 6, 5, 3, 4, 11, 10, 7, 9, 8, 15, 14, 13, 17, 16]⟩])
  (.keep [1, 2, 5, 6, 63] (.cond (.t 63)
    (.seq (.reg false [⟨(some 4), none, [], none, .q (.mv (.k (.b false)))⟩])
    .ret)
    .skip))))))
  (.keep [1, 2, 5, 6] (.reg false [⟨(some 19), none, [6], none, .q (.mv (.t 6))⟩,
    ⟨(some 20), none, [19], none, .q (.bin .add (.t 19) (.k (.i 1)))⟩,
    ⟨(some 6), none, [20], none, .q (.mv (.t 20))⟩])))))))))
  (.keep [] (.seq (.reg false [⟨(some 4), none, [], none, .q (.mv (.k (.b true)))⟩])
  .ret)))))))))
def pu34 : List Nat := [2]
def rs34 : List RV := [.t 4]
theorem cc34 : comp Try.prog pu34 (Try.f34.ntmps, 0) 0 1 rc34 (Try.f34.body.getD .skip) = some rc34 := by kernel_rfl
theorem cb34 : Try.f34.body = some (Try.f34.body.getD .skip) := by kernel_rfl
theorem cs34 : resRV Try.prog Try.f34.results.toList = some rs34 := by kernel_rfl
theorem cn34 : 2 ≤ Try.f34.ntmps := by decide
/- ferrule/ferruleref02.IsTruth: params [26, 23], free 0, slots 29 -/
def rc35 : RC :=
  (.seq (.reg false [⟨(some 2), none, [0], none, .q (.box (.t 0))⟩,
    ⟨(some 4), none, [], none, .q (.mv (.k (.b false)))⟩])
  (.keep [1, 2] (.seq (.seq (.reg false [⟨(some 6), none, [1], none, .q (.mv (.t 1))⟩,
    ⟨(some 7), none, [6], none, .q (.len (.t 6))⟩,
    ⟨(some 8), none, [2], none, .q (.fad 0 (.t 2))⟩,
    ⟨(some 9), none, [8], none, .q (.ld false 1 (.t 8))⟩,
    ⟨(some 10), none, [9], none, .q (.len (.t 9))⟩,
    ⟨(some 11), none, [7, 10], none, .q (.bin .neq (.t 7) (.t 10))⟩])
  (.keep [1, 2, 11] (.cond (.t 11)
    (.seq (.reg false [⟨(some 4), none, [], none, .q (.mv (.k (.b false)))⟩])
    .ret)
    .skip)))
  (.keep [1, 2] (.seq (.seq (.reg false [⟨(some 5), none, [], none, .q (.mv (.k (.i 0)))⟩])
  (.keep [1, 2, 5] (.block 0 (.loop [1, 2, 5] none (.seq (.seq (.reg false [⟨(some 12), none, [5], none, .q (.mv (.t 5))⟩,
    ⟨(some 13), none, [1], none, .q (.mv (.t 1))⟩,
    ⟨(some 14), none, [13], none, .q (.len (.t 13))⟩,
    ⟨(some 15), none, [12, 14], none, .q (.bin .lss (.t 12) (.t 14))⟩])
  (.keep [1, 2, 5, 15] (.cond (.t 15)
    .skip
    (.exit 0))))
  (.keep [1, 2, 5] (.seq (.block 1 (.seq (.any false 0 [⟨⟨(some 18), none, [2], none, .q (.fad 0 (.t 2))⟩, [], []⟩,
    ⟨⟨(some 19), none, [18], none, .q (.ld false 1 (.t 18))⟩, [], [0]⟩,
    ⟨⟨(some 20), none, [5], none, .q (.mv (.t 5))⟩, [], []⟩,
    ⟨⟨(some 21), none, [19, 20], none, .q (.iad 4 (.t 19) (.t 20))⟩, [], [1, 0, 2]⟩,
    ⟨⟨(some 22), none, [21], none, .q (.ld true 4 (.t 21))⟩, [], [3, 1, 0, 2]⟩,
    ⟨⟨(some 23), none, [1], none, .q (.mv (.t 1))⟩, [], []⟩,
    ⟨⟨(some 24), none, [5], none, .q (.mv (.t 5))⟩, [], []⟩,
    ⟨⟨(some 25), none, [23, 24], none, .q (.iad 1 (.t 23) (.t 24))⟩, [], [5, 6]⟩,
    ⟨⟨(some 26), none, [25], none, .q (.ld false 1 (.t 25))⟩, [], [7, 5, 6]⟩,
    ⟨⟨(some 27), none, [22, 26], none, .q (.call (.k (.fn 49 [])) [(.t 22), (.t 26)])⟩, [], [4, 3, 1, 0, 2, 8, 7, 5, 6]⟩,
    ⟨⟨(some 28), none, [27], none, .q (.not (.t 27))⟩, [], [9, 4, 3, 1, 0, 2, 8, 7, 5, 6]⟩])
  (.keep [1, 2, 5, 28] (.cond (.t 28)
    (.seq (.reg false [⟨(some 4), none, [], none, .q (.mv (.k (.b false)))⟩])
    .ret)
    .skip))))
  (.keep [1, 2, 5] (.reg false [⟨(some 16), none, [5], none, .q (.mv (.t 5))⟩,
    ⟨(some 17), none, [16], none, .q (.bin .add (.t 16) (.k (.i 1)))⟩,
    ⟨(some 5), none, [17], none, .q (.mv (.t 17))⟩])))))))))
  (.keep [] (.seq (.reg false [⟨(some 4), none, [], none, .q (.mv (.k (.b true)))⟩])
  .ret)))))))
def pu35 : List Nat := [2]
def rs35 : List RV := [.t 4]
theorem cc35 : comp Try.prog pu35 (Try.f35.ntmps, 0) 0 1 rc35 (Try.f35.body.getD .skip) = some rc35 := by kernel_rfl
theorem cb35 : Try.f35.body = some (Try.f35.body.getD .skip) := by kernel_rfl
theorem cs35 : resRV Try.prog Try.f35.results.toList = some rs35 := by kernel_rfl
theorem cn35 : 2 ≤ Try.f35.ntmps := by decide
/- ferrule/cloth.Stretches: params [26, 3], free 0, slots 26 -/
def rc36 : RC :=
  (.seq (.reg false [⟨(some 2), none, [0], none, .q (.box (.t 0))⟩,
    ⟨(some 4), none, [], none, .q (.mv (.k (.z 1)))⟩,
    ⟨(some 5), none, [], none, .q (.mv (.k (.i 0)))⟩])
  (.keep [1, 2] (.seq (.any false 0 [⟨⟨(some 9), none, [2], none, .q (.ld true 6 (.t 2))⟩, [], []⟩,
    ⟨⟨(some 10), none, [2], none, .q (.ld true 6 (.t 2))⟩, [], []⟩,
    ⟨⟨(some 11), none, [1], none, .q (.mv (.t 1))⟩, [], []⟩,
    ⟨⟨(some 12), none, [10, 11], none, .q (.call (.k (.fn 56 [])) [(.t 10), (.t 11)])⟩, [], [1, 2]⟩,
    ⟨⟨(some 13), none, [9, 12], none, .q (.call (.k (.fn 45 [])) [(.t 9), (.t 12)])⟩, [], [0, 3, 1, 2]⟩,
    ⟨⟨(some 8), none, [13], none, .q (.mv (.t 13))⟩, [], [4, 0, 3, 1, 2]⟩,
    ⟨⟨(some 14), none, [8], none, .q (.ext (.t 8) 0)⟩, [], [5, 4, 0, 3, 1, 2]⟩,
    ⟨⟨(some 15), none, [8], none, .q (.ext (.t 8) 1)⟩, [], [5, 4, 0, 3, 1, 2]⟩,
    ⟨⟨(some 6), none, [14], none, .q (.mv (.t 14))⟩, [], [6, 5, 4, 0, 3, 1, 2]⟩,
    ⟨⟨(some 7), none, [15], none, .q (.mv (.t 15))⟩, [], [7, 5, 4, 0, 3, 1, 2, 8, 6]⟩])
  (.keep [1, 6, 7] (.seq (.seq (.reg false [⟨(some 16), none, [7], none, .q (.mv (.t 7))⟩,
    ⟨(some 17), none, [16], none, .q (.bin .neq (.t 16) (.k (.i 0)))⟩])
  (.keep [1, 6, 7, 17] (.cond (.t 17)
    (.seq (.reg false [⟨(some 18), none, [7], none, .q (.mv (.t 7))⟩,
      ⟨(some 4), none, [], none, .q (.mv (.k (.z 1)))⟩,
      ⟨(some 5), none, [18], none, .q (.mv (.t 18))⟩])
    .ret)
    .skip)))
  (.keep [1, 6] (.seq (.reg false [⟨(some 19), none, [6], none, .q (.mv (.t 6))⟩,
    ⟨(some 20), none, [19], none, .q (.nilc (.t 19))⟩,
    ⟨(some 21), none, [20], none, .q (.fad 6 (.t 20))⟩,
    ⟨(some 22), none, [21], none, .q (.ld false 1 (.t 21))⟩,
    ⟨(some 23), none, [1], none, .q (.mv (.t 1))⟩,
    ⟨(some 24), none, [22, 23], none, .q (.iad 1 (.t 22) (.t 23))⟩,
    ⟨(some 25), none, [24], none, .q (.ld false 1 (.t 24))⟩,
    ⟨(some 4), none, [25], none, .q (.mv (.t 25))⟩,
    ⟨(some 5), none, [], none, .q (.mv (.k (.i 0)))⟩])
  .ret)))))))
def pu36 : List Nat := [2]
def rs36 : List RV := [.t 4, .t 5]
theorem cc36 : comp Try.prog pu36 (Try.f36.ntmps, 0) 0 1 rc36 (Try.f36.body.getD .skip) = some rc36 := by kernel_rfl
theorem cb36 : Try.f36.body = some (Try.f36.body.getD .skip) := by kernel_rfl
theorem cs36 : resRV Try.prog Try.f36.results.toList = some rs36 := by kernel_rfl
theorem cn36 : 2 ≤ Try.f36.ntmps := by decide
/- ferrule/ferrulelaw02.in: params [23, 3], free 0, slots 18 -/
def rc37 : RC :=
  (.seq (.reg false [⟨(some 4), none, [], none, .q (.mv (.k (.b false)))⟩])
  (.keep [0, 1] (.seq (.seq (.reg false [⟨(some 5), none, [], none, .q (.mv (.k (.i 0)))⟩])
  (.keep [0, 1, 5] (.block 0 (.loop [0, 1, 5] none (.seq (.seq (.reg false [⟨(some 6), none, [5], none, .q (.mv (.t 5))⟩,
    ⟨(some 7), none, [0], none, .q (.mv (.t 0))⟩,
    ⟨(some 8), none, [7], none, .q (.len (.t 7))⟩,
    ⟨(some 9), none, [6, 8], none, .q (.bin .lss (.t 6) (.t 8))⟩])
  (.keep [0, 1, 5, 9] (.cond (.t 9)
    .skip
    (.exit 0))))
  (.keep [0, 1, 5] (.seq (.block 1 (.seq (.reg false [⟨(some 12), none, [0], none, .q (.mv (.t 0))⟩,
    ⟨(some 13), none, [5], none, .q (.mv (.t 5))⟩,
    ⟨(some 14), none, [12, 13], none, .q (.iad 1 (.t 12) (.t 13))⟩,
    ⟨(some 15), none, [14], none, .q (.ld false 1 (.t 14))⟩,
    ⟨(some 16), none, [1], none, .q (.mv (.t 1))⟩,
    ⟨(some 17), none, [15, 16], none, .q (.bin .eql (.t 15) (.t 16))⟩])
  (.keep [0, 1, 5, 17] (.cond (.t 17)
    (.seq (.reg false [⟨(some 4), none, [], none, .q (.mv (.k (.b true)))⟩])
    .ret)
    .skip))))
  (.keep [0, 1, 5] (.reg false [⟨(some 10), none, [5], none, .q (.mv (.t 5))⟩,
    ⟨(some 11), none, [10], none, .q (.bin .add (.t 10) (.k (.i 1)))⟩,
    ⟨(some 5), none, [11], none, .q (.mv (.t 11))⟩])))))))))
  (.keep [] (.seq (.reg false [⟨(some 4), none, [], none, .q (.mv (.k (.b false)))⟩])
  .ret)))))
def pu37 : List Nat := []
def rs37 : List RV := [.t 4]
theorem cc37 : comp Try.prog pu37 (Try.f37.ntmps, 0) 0 1 rc37 (Try.f37.body.getD .skip) = some rc37 := by kernel_rfl
theorem cb37 : Try.f37.body = some (Try.f37.body.getD .skip) := by kernel_rfl
theorem cs37 : resRV Try.prog Try.f37.results.toList = some rs37 := by kernel_rfl
theorem cn37 : 2 ≤ Try.f37.ntmps := by decide
/- ferrule/ferruleref02.RoundBy: params [26, 3, 23], free 0, slots 33 -/
def rc38 : RC :=
  (.seq (.reg false [⟨(some 3), none, [0], none, .q (.box (.t 0))⟩,
    ⟨(some 6), none, [], none, .q (.mv (.k (.i 0)))⟩])
  (.keep [1, 2, 3] (.seq (.reg false [⟨(some 7), none, [], none, .q (.mv (.k (.i 0)))⟩])
  (.keep [1, 2, 3, 7] (.seq (.seq (.reg false [⟨(some 8), none, [], none, .q (.mv (.k (.i 0)))⟩])
  (.keep [1, 2, 3, 7, 8] (.block 0 (.loop [1, 2, 3, 7, 8] none (.seq (.seq (.reg false [⟨(some 9), none, [8], none, .q (.mv (.t 8))⟩,
    ⟨(some 10), none, [3], none, .q (.fad 1 (.t 3))⟩,
    ⟨(some 11), none, [10], none, .q (.ld false 1 (.t 10))⟩,
    ⟨(some 12), none, [11], none, .q (.len (.t 11))⟩,
    ⟨(some 13), none, [9, 12], none, .q (.bin .lss (.t 9) (.t 12))⟩])
  (.keep [1, 2, 3, 7, 8, 13] (.cond (.t 13)
    .skip
    (.exit 0))))
  (.keep [1, 2, 3, 7, 8] (.seq (.block 1 (.any false 0 [⟨⟨(some 16), none, [7], none, .q (.mv (.t 7))⟩, [], []⟩,
    ⟨⟨(some 17), none, [1], none, .q (.mv (.t 1))⟩, [], []⟩,
    ⟨⟨(some 18), none, [3], none, .q (.fad 2 (.t 3))⟩, [], []⟩,
    ⟨⟨(some 19), none, [18], none, .q (.ld false 1 (.t 18))⟩, [], [2]⟩,
    ⟨⟨(some 20), none, [19], none, .q (.bin .mul (.k (.i 2)) (.t 19))⟩, [], [3, 2]⟩,
    ⟨⟨(some 21), none, [17, 20], none, .q (.bin .sub (.t 17) (.t 20))⟩, [], [1, 4, 3, 2]⟩,
    ⟨⟨(some 22), none, [2], none, .q (.mv (.t 2))⟩, [], []⟩,
    ⟨⟨(some 23), none, [3], none, .q (.fad 1 (.t 3))⟩, [], []⟩,
    ⟨⟨(some 24), none, [23], none, .q (.ld false 1 (.t 23))⟩, [], [7]⟩,
    ⟨⟨(some 25), none, [8], none, .q (.mv (.t 8))⟩, [], []⟩,
    ⟨⟨(some 26), none, [24, 25], none, .q (.iad 1 (.t 24) (.t 25))⟩, [], [8, 7, 9]⟩,
    ⟨⟨(some 27), none, [26], none, .q (.ld false 1 (.t 26))⟩, [], [10, 8, 7, 9]⟩,
    ⟨⟨(some 28), none, [22, 27], none, .q (.iad 1 (.t 22) (.t 27))⟩, [], [6, 11, 10, 8, 7, 9]⟩,
    ⟨⟨(some 29), none, [28], none, .q (.ld false 1 (.t 28))⟩, [], [12, 6, 11, 10, 8, 7, 9]⟩,
    ⟨⟨(some 30), none, [21, 29], none, .q (.call (.k (.fn 57 [])) [(.t 21), (.t 29)])⟩, [], [5, 1, 4, 3, 2, 13, 12, 6, 11, 10, 8, 7, 9]⟩,
    ⟨⟨(some 31), none, [16, 30], none, .q (.bin .add (.t 16) (.t 30))⟩, [], [0, 14, 5, 1, 4, 3, 2, 13, 12, 6, 11, 10, 8, 7, 9]⟩,
    ⟨⟨(some 7), none, [31], none, .q (.mv (.t 31))⟩, [], [15, 0, 14, 5, 1, 4, 3, 2, 13, 12, 6, 11, 10, 8, 7, 9]⟩]))
  (.keep [1, 2, 3, 7, 8] (.reg false [⟨(some 14), none, [8], none, .q (.mv (.t 8))⟩,
    ⟨(some 15), none, [14], none, .q (.bin .add (.t 14) (.k (.i 1)))⟩,
    ⟨(some 8), none, [15], none, .q (.mv (.t 15))⟩])))))))))
  (.keep [7] (.seq (.reg false [⟨(some 32), none, [7], none, .q (.mv (.t 7))⟩,
    ⟨(some 6), none, [32], none, .q (.mv (.t 32))⟩])
  .ret)))))))
def pu38 : List Nat := [3]
def rs38 : List RV := [.t 6]
theorem cc38 : comp Try.prog pu38 (Try.f38.ntmps, 0) 0 1 rc38 (Try.f38.body.getD .skip) = some rc38 := by kernel_rfl
theorem cb38 : Try.f38.body = some (Try.f38.body.getD .skip) := by kernel_rfl
theorem cs38 : resRV Try.prog Try.f38.results.toList = some rs38 := by kernel_rfl
theorem cn38 : 3 ≤ Try.f38.ntmps := by decide
/- ferrule/ferruleref02.Check: params [26], free 0, slots 104 -/
def rc39 : RC :=
  (.seq (.reg false [⟨(some 1), none, [0], none, .q (.box (.t 0))⟩,
    ⟨(some 2), none, [], none, .q (.mv (.k (.i 0)))⟩])
  (.keep [1] (.seq (.seq (.reg true [⟨(some 6), none, [1], none, .q (.fad 0 (.t 1))⟩,
    ⟨(some 7), none, [6], none, .q (.ld false 1 (.t 6))⟩,
    ⟨(some 8), none, [7], none, .q (.len (.t 7))⟩,
    ⟨(some 9), none, [8], none, .q (.call (.k (.fn 54 [])) [(.t 8), (.k (.i 1)), (.k (.i 4))])⟩,
    ⟨(some 10), none, [9], none, .q (.not (.t 9))⟩,
    ⟨(some 11), none, [10], none, .q (.mv (.t 10))⟩,
    ⟨(some 12), (some (11, false)), [1], none, .q (.fad 1 (.t 1))⟩,
    ⟨(some 13), (some (11, false)), [12], none, .q (.ld false 1 (.t 12))⟩,
    ⟨(some 14), (some (11, false)), [13], none, .q (.len (.t 13))⟩,
    ⟨(some 15), (some (11, false)), [14], none, .q (.call (.k (.fn 54 [])) [(.t 14), (.k (.i 3)), (.k (.i 16))])⟩,
    ⟨(some 16), (some (11, false)), [15], none, .q (.not (.t 15))⟩,
    ⟨(some 17), none, [11, 16], none, .q (.pick (.t 11) (.k (.b true)) (.t 16))⟩,
    ⟨(some 18), none, [17], none, .q (.mv (.t 17))⟩,
    ⟨(some 19), (some (18, false)), [1], none, .q (.fad 2 (.t 1))⟩,
    ⟨(some 20), (some (18, false)), [19], none, .q (.ld false 1 (.t 19))⟩,
    ⟨(some 21), (some (18, false)), [20], none, .q (.call (.k (.fn 54 [])) [(.t 20), (.k (.i 0)), (.k (.i 20))])⟩,
    ⟨(some 22), (some (18, false)), [21], none, .q (.not (.t 21))⟩,
    ⟨(some 23), none, [18, 22], none, .q (.pick (.t 18) (.k (.b true)) (.t 22))⟩,
    ⟨(some 24), none, [23], none, .q (.mv (.t 23))⟩,
    ⟨(some 25), (some (24, false)), [1], none, .q (.fad 3 (.t 1))⟩,
    ⟨(some 26), (some (24, false)), [25], none, .q (.ld false 1 (.t 25))⟩,
    ⟨(some 27), (some (24, false)), [26], none, .q (.len (.t 26))⟩,
    ⟨(some 28), (some (24, false)), [27], none, .q (.call (.k (.fn 54 [])) [(.t 27), (.k (.i 1)), (.k (.i 12))])⟩,
    ⟨(some 29), (some (24, false)), [28], none, .q (.not (.t 28))⟩,
    ⟨(some 30), none, [24, 29], none, .q (.pick (.t 24) (.k (.b true)) (.t 29))⟩,
    ⟨(some 31), none, [30], none, .q (.mv (.t 30))⟩,
    ⟨(some 32), (some (31, false)), [1], none, .q (.fad 4 (.t 1))⟩,
    ⟨(some 33), (some (31, false)), [32], none, .q (.ld false 1 (.t 32))⟩,
    ⟨(some 34), (some (31, false)), [33], none, .q (.len (.t 33))⟩,
    ⟨(some 35), (some (31, false)), [1], none, .q (.fad 3 (.t 1))⟩,
    ⟨(some 36), (some (31, false)), [35], none, .q (.ld false 1 (.t 35))⟩,
    ⟨(some 37), (some (31, false)), [36], none, .q (.len (.t 36))⟩,
    ⟨(some 38), (some (31, false)), [34, 37], none, .q (.bin .neq (.t 34) (.t 37))⟩,
    ⟨(some 39), none, [31, 38], none, .q (.pick (.t 31) (.k (.b true)) (.t 38))⟩,
    ⟨(some 40), none, [39], none, .q (.mv (.t 39))⟩,
    ⟨(some 41), (some (40, false)), [1], none, .q (.fad 5 (.t 1))⟩,
    ⟨(some 42), (some (40, false)), [41], none, .q (.ld false 1 (.t 41))⟩,
    ⟨(some 43), (some (40, false)), [42], none, .q (.call (.k (.fn 54 [])) [(.t 42), (.k (.i 0)), (.k (.i 500))])⟩,
    ⟨(some 44), (some (40, false)), [43], none, .q (.not (.t 43))⟩,
    ⟨(some 45), none, [40, 44], none, .q (.pick (.t 40) (.k (.b true)) (.t 44))⟩])
  (.keep [1, 45] (.cond (.t 45)
    (.seq (.reg false [⟨(some 2), none, [], none, .q (.mv (.k (.i 20)))⟩])
    .ret)
    .skip)))
  (.keep [1] (.seq (.seq (.reg false [⟨(some 3), none, [], none, .q (.mv (.k (.i 0)))⟩])
  (.keep [1, 3] (.block 0 (.loop [1, 3] none (.seq (.seq (.reg false [⟨(some 46), none, [3], none, .q (.mv (.t 3))⟩,
    ⟨(some 47), none, [1], none, .q (.fad 1 (.t 1))⟩,
    ⟨(some 48), none, [47], none, .q (.ld false 1 (.t 47))⟩,
    ⟨(some 49), none, [48], none, .q (.len (.t 48))⟩,
    ⟨(some 50), none, [46, 49], none, .q (.bin .lss (.t 46) (.t 49))⟩])
  (.keep [1, 3, 50] (.cond (.t 50)
    .skip
    (.exit 0))))
  (.keep [1, 3] (.seq (.block 1 (.seq (.any false 0 [⟨⟨(some 53), none, [1], none, .q (.fad 1 (.t 1))⟩, [], []⟩,
    ⟨⟨(some 54), none, [53], none, .q (.ld false 1 (.t 53))⟩, [], [0]⟩,
    ⟨⟨(some 55), none, [3], none, .q (.mv (.t 3))⟩, [], []⟩,
    ⟨⟨(some 56), none, [54, 55], none, .q (.iad 1 (.t 54) (.t 55))⟩, [], [1, 0, 2]⟩,
    ⟨⟨(some 57), none, [56], none, .q (.ld false 1 (.t 56))⟩, [], [3, 1, 0, 2]⟩,
    ⟨⟨(some 58), none, [1], none, .q (.fad 0 (.t 1))⟩, [], []⟩,
    ⟨⟨(some 59), none, [58], none, .q (.ld false 1 (.t 58))⟩, [], [5]⟩,
    ⟨⟨(some 60), none, [59], none, .q (.len (.t 59))⟩, [], [6, 5]⟩,
    ⟨⟨(some 61), none, [60], none, .q (.bin .sub (.t 60) (.k (.i 1)))⟩, [], [7, 6, 5]⟩,
    ⟨⟨(some 62), none, [57, 61], none, .q (.call (.k (.fn 54 [])) [(.t 57), (.k (.i 0)), (.t 61)])⟩, [], [4, 3, 1, 0, 2, 8, 7, 6, 5]⟩,
    ⟨⟨(some 63), none, [62], none, .q (.not (.t 62))⟩, [], [9, 4, 3, 1, 0, 2, 8, 7, 6, 5]⟩])
  (.keep [1, 3, 63] (.cond (.t 63)
    (.seq (.reg false [⟨(some 2), none, [], none, .q (.mv (.k (.i 20)))⟩])
    .ret)
    .skip))))
  (.keep [1, 3] (.reg false [⟨(some 51), none, [3], none, .q (.mv (.t 3))⟩,
    ⟨(some 52), none, [51], none, .q (.bin .add (.t 51) (.k (.i 1)))⟩,
    ⟨(some 3), none, [52], none, .q (.mv (.t 52))⟩])))))))))
  (.keep [1] (.seq (.seq (.reg false [⟨(some 4), none, [], none, .q (.mv (.k (.i 0)))⟩])
  (.keep [1, 4] (.block 2 (.loop [1, 4] none (.seq (.seq (.reg false [⟨(some 64), none, [4], none, .q (.mv (.t 4))⟩,
    ⟨(some 65), none, [1], none, .q (.fad 3 (.t 1))⟩,
    ⟨(some 66), none, [65], none, .q (.ld false 1 (.t 65))⟩,
    ⟨(some 67), none, [66], none, .q (.len (.t 66))⟩,
    ⟨(some 68), none, [64, 67], none, .q (.bin .lss (.t 64) (.t 67))⟩])
  (.keep [1, 4, 68] (.cond (.t 68)
    .skip
    (.exit 2))))
  (.keep [1, 4] (.seq (.block 3 (.seq (.any true 0 [⟨⟨(some 71), none, [1], none, .q (.fad 3 (.t 1))⟩, [], []⟩,
    ⟨⟨(some 72), none, [71], none, .q (.ld false 1 (.t 71))⟩, [], [0]⟩,
    ⟨⟨(some 73), none, [4], none, .q (.mv (.t 4))⟩, [], []⟩,
    ⟨⟨(some 74), none, [72, 73], none, .q (.iad 2 (.t 72) (.t 73))⟩, [], [1, 0, 2]⟩,
    ⟨⟨(some 75), none, [74], none, .q (.ld true 2 (.t 74))⟩, [], [3, 1, 0, 2]⟩,
    ⟨⟨(some 76), none, [75], none, .q (.call (.k (.fn 58 [])) [(.t 75), (.k (.i 40000))])⟩, [], [4, 3, 1, 0, 2]⟩,
    ⟨⟨(some 77), none, [76], none, .q (.not (.t 76))⟩, [], [5, 4, 3, 1, 0, 2]⟩,
    ⟨⟨(some 78), none, [77], none, .q (.mv (.t 77))⟩, [], [6, 5, 4, 3, 1, 0, 2]⟩,
    ⟨⟨(some 79), (some (78, false)), [1], none, .q (.fad 4 (.t 1))⟩, [], [7, 6, 5, 4, 3, 1, 0, 2]⟩,
    ⟨⟨(some 80), (some (78, false)), [79], none, .q (.ld false 1 (.t 79))⟩, [], [8, 7, 6, 5, 4, 3, 1, 0, 2]⟩,
    ⟨⟨(some 81), (some (78, false)), [4], none, .q (.mv (.t 4))⟩, [], [7, 6, 5, 4, 3, 1, 0, 2]⟩,
    ⟨⟨(some 82), (some (78, false)), [80, 81], none, .q (.iad 1 (.t 80) (.t 81))⟩, [], [9, 8, 7, 6, 5, 4, 3, 1, 0, 2, 10]⟩,
    ⟨⟨(some 83), (some (78, false)), [82], none, .q (.ld false 1 (.t 82))⟩, [], [11, 9, 8, 7, 6, 5, 4, 3, 1, 0, 2, 10]⟩,
    ⟨⟨(some 84), (some (78, false)), [1], none, .q (.fad 2 (.t 1))⟩, [], [7, 6, 5, 4, 3, 1, 0, 2]⟩,
    ⟨⟨(some 85), (some (78, false)), [84], none, .q (.ld false 1 (.t 84))⟩, [], [13, 7, 6, 5, 4, 3, 1, 0, 2]⟩,
    ⟨⟨(some 86), (some (78, false)), [85], none, .q (.bin .mul (.k (.i 2)) (.t 85))⟩, [], [14, 13, 7, 6, 5, 4, 3, 1, 0, 2]⟩,
    ⟨⟨(some 87), (some (78, false)), [83, 86], none, .q (.call (.k (.fn 54 [])) [(.t 83), (.t 86), (.k (.i 2000))])⟩, [], [12, 11, 9, 8, 7, 6, 5, 4, 3, 1, 0, 2, 10, 15, 14, 13]⟩,
    ⟨⟨(some 88), (some (78, false)), [87], none, .q (.not (.t 87))⟩, [], [16, 12, 11, 9, 8, 7, 6, 5, 4, 3, 1, 0, 2, 10, 15, 14, 13]⟩,
    ⟨⟨(some 89), none, [78, 88], none, .q (.pick (.t 78) (.k (.b true)) (.t 88))⟩, [], [7, 6, 5, 4, 3, 1, 0, 2, 17, 16, 12, 11, 9, 8, 10, 15, 14, 13]⟩])
  (.keep [1, 4, 89] (.cond (.t 89)
    (.seq (.reg false [⟨(some 2), none, [], none, .q (.mv (.k (.i 20)))⟩])
    .ret)
    .skip))))
  (.keep [1, 4] (.reg false [⟨(some 69), none, [4], none, .q (.mv (.t 4))⟩,
    ⟨(some 70), none, [69], none, .q (.bin .add (.t 69) (.k (.i 1)))⟩,
    ⟨(some 4), none, [70], none, .q (.mv (.t 70))⟩])))))))))
  (.keep [1] (.seq (.seq (.reg false [⟨(some 5), none, [], none, .q (.mv (.k (.i 0)))⟩])
  (.keep [1, 5] (.block 4 (.loop [1, 5] none (.seq (.seq (.reg false [⟨(some 90), none, [5], none, .q (.mv (.t 5))⟩,
    ⟨(some 91), none, [1], none, .q (.fad 0 (.t 1))⟩,
    ⟨(some 92), none, [91], none, .q (.ld false 1 (.t 91))⟩,
    ⟨(some 93), none, [92], none, .q (.len (.t 92))⟩,
    ⟨(some 94), none, [90, 93], none, .q (.bin .lss (.t 90) (.t 93))⟩])
  (.keep [1, 5, 94] (.cond (.t 94)
    .skip
    (.exit 4))))
  (.keep [1, 5] (.seq (.block 5 (.seq (.reg false [⟨(some 97), none, [1], none, .q (.fad 0 (.t 1))⟩,
    ⟨(some 98), none, [97], none, .q (.ld false 1 (.t 97))⟩,
    ⟨(some 99), none, [5], none, .q (.mv (.t 5))⟩,
    ⟨(some 100), none, [98, 99], none, .q (.iad 4 (.t 98) (.t 99))⟩,
    ⟨(some 101), none, [100], none, .q (.ld true 4 (.t 100))⟩,
    ⟨(some 102), none, [101], none, .q (.call (.k (.fn 59 [])) [(.t 101)])⟩,
    ⟨(some 103), none, [102], none, .q (.not (.t 102))⟩])
  (.keep [1, 5, 103] (.cond (.t 103)
    (.seq (.reg false [⟨(some 2), none, [], none, .q (.mv (.k (.i 21)))⟩])
    .ret)
    .skip))))
  (.keep [1, 5] (.reg false [⟨(some 95), none, [5], none, .q (.mv (.t 5))⟩,
    ⟨(some 96), none, [95], none, .q (.bin .add (.t 95) (.k (.i 1)))⟩,
    ⟨(some 5), none, [96], none, .q (.mv (.t 96))⟩])))))))))
  (.keep [] (.seq (.reg false [⟨(some 2), none, [], none, .q (.mv (.k (.i 0)))⟩])
  .ret)))))))))))
def pu39 : List Nat := [1]
def rs39 : List RV := [.t 2]
theorem cc39 : comp Try.prog pu39 (Try.f39.ntmps, 0) 0 1 rc39 (Try.f39.body.getD .skip) = some rc39 := by kernel_rfl
theorem cb39 : Try.f39.body = some (Try.f39.body.getD .skip) := by kernel_rfl
theorem cs39 : resRV Try.prog Try.f39.results.toList = some rs39 := by kernel_rfl
theorem cn39 : 1 ≤ Try.f39.ntmps := by decide
/- ferrule/cloth.Fewest: params [26, 3], free 0, slots 36 -/
def rc40 : RC :=
  (.seq (.reg false [⟨(some 2), none, [0], none, .q (.box (.t 0))⟩,
    ⟨(some 4), none, [], none, .q (.mv (.k (.i 0)))⟩,
    ⟨(some 5), none, [], none, .q (.mv (.k (.i 0)))⟩])
  (.keep [1, 2, 29] (.seq (.seq (.reg false [⟨(some 10), none, [2], none, .q (.ld true 6 (.t 2))⟩,
    ⟨(some 11), none, [10], none, .q (.call (.k (.fn 41 [])) [(.t 10)])⟩,
    ⟨(some 6), none, [11], none, .q (.mv (.t 11))⟩])
  (.keep [1, 2, 6, 29] (.seq (.reg false [⟨(some 12), none, [6], none, .q (.mv (.t 6))⟩,
    ⟨(some 13), none, [12], none, .q (.bin .neq (.t 12) (.k (.i 0)))⟩])
  (.keep [1, 2, 6, 13, 29] (.cond (.t 13)
    (.seq (.reg false [⟨(some 14), none, [6], none, .q (.mv (.t 6))⟩,
      ⟨(some 4), none, [], none, .q (.mv (.k (.i 0)))⟩,
      ⟨(some 5), none, [14], none, .q (.mv (.t 14))⟩])
    .ret)
    .skip)))))
  (.keep [1, 2, 29] (.seq (.seq (.reg false [⟨(some 15), none, [2], none, .q (.ld true 6 (.t 2))⟩,
    ⟨(some 16), none, [1], none, .q (.mv (.t 1))⟩,
    ⟨(some 17), none, [15, 16], none, .q (.call (.k (.fn 56 [])) [(.t 15), (.t 16)])⟩,
    ⟨(some 18), none, [17], none, .q (.not (.t 17))⟩])
  (.keep [1, 2, 18, 29] (.cond (.t 18)
    (.seq (.reg false [⟨(some 4), none, [], none, .q (.mv (.k (.i 0)))⟩,
      ⟨(some 5), none, [], none, .q (.mv (.k (.i 1)))⟩])
    .ret)
    .skip)))
  (.keep [1, 2, 29] (.seq (.reg false [⟨(some 19), none, [2], none, .q (.fad 0 (.t 2))⟩,
    ⟨(some 20), none, [19], none, .q (.ld false 1 (.t 19))⟩,
    ⟨(some 21), none, [1], none, .q (.mv (.t 1))⟩,
    ⟨(some 22), none, [20, 21], none, .q (.iad 4 (.t 20) (.t 21))⟩,
    ⟨(some 23), none, [22], none, .q (.ld true 4 (.t 22))⟩,
    ⟨(some 7), none, [], none, .w (.alc [(.i 0), (.i 0), (.z 3), (.i 0)])⟩,
    ⟨none, none, [7, 23], none, .w (.st 4 (.t 7) (.t 23))⟩])
  (.keep [7, 29] (.seq (.reg false [⟨(some 24), none, [7], none, .q (.fad 2 (.t 7))⟩,
    ⟨(some 25), none, [24], none, .q (.ld false 1 (.t 24))⟩,
    ⟨(some 26), none, [25], none, .q (.len (.t 25))⟩,
    ⟨(some 8), none, [], none, .w (.alc [(.i 0)])⟩,
    ⟨none, none, [8, 26], none, .w (.st 1 (.t 8) (.t 26))⟩])
  (.keep [7, 8, 29] (.seq (.seq (.reg false [⟨(some 27), none, [7], none, .q (.ld true 4 (.t 7))⟩,
    ⟨(some 28), none, [27], none, .q (.call (.k (.fn 60 [])) [(.t 27)])⟩])
  (.keep [7, 8, 28, 29] (.block 0 (.rfn (.t 28) [29] 2 (.reg false [⟨(some 9), none, [29], none, .q (.mv (.t 29))⟩])
  (.block 1 (.any false 0 [⟨⟨(some 30), none, [8], none, .q (.ld false 1 (.t 8))⟩, [], []⟩,
    ⟨⟨(some 31), none, [7], none, .q (.ld true 4 (.t 7))⟩, [], []⟩,
    ⟨⟨(some 32), none, [9], none, .q (.mv (.t 9))⟩, [], []⟩,
    ⟨⟨(some 33), none, [31, 32], none, .q (.call (.k (.fn 61 [])) [(.t 31), (.t 32)])⟩, [], [1, 2]⟩,
    ⟨⟨(some 34), none, [30, 33], none, .q (.mn (.t 30) (.t 33))⟩, [], [0, 3, 1, 2]⟩,
    ⟨⟨none, none, [8, 34], none, .w (.st 1 (.t 8) (.t 34))⟩, [], [4, 0, 3, 1, 2]⟩]))))))
  (.keep [8] (.seq (.reg false [⟨(some 35), none, [8], none, .q (.ld false 1 (.t 8))⟩,
    ⟨(some 4), none, [35], none, .q (.mv (.t 35))⟩,
    ⟨(some 5), none, [], none, .q (.mv (.k (.i 0)))⟩])
  .ret)))))))))))))
def pu40 : List Nat := [2]
def rs40 : List RV := [.t 4, .t 5]
theorem cc40 : comp Try.prog pu40 (Try.f40.ntmps, 0) 0 1 rc40 (Try.f40.body.getD .skip) = some rc40 := by kernel_rfl
theorem cb40 : Try.f40.body = some (Try.f40.body.getD .skip) := by kernel_rfl
theorem cs40 : resRV Try.prog Try.f40.results.toList = some rs40 := by kernel_rfl
theorem cn40 : 2 ≤ Try.f40.ntmps := by decide
/- ferrule/cloth.Check: params [26], free 0, slots 12 -/
def rc41 : RC :=
  (.seq (.reg false [⟨(some 1), none, [0], none, .q (.box (.t 0))⟩,
    ⟨(some 2), none, [], none, .q (.mv (.k (.i 0)))⟩])
  (.keep [1] (.seq (.block 0 (.seq (.reg false [⟨(some 4), none, [1], none, .q (.ld true 6 (.t 1))⟩,
    ⟨(some 5), none, [4], none, .q (.call (.k (.fn 62 [])) [(.t 4)])⟩,
    ⟨(some 6), none, [5], none, .q (.not (.t 5))⟩,
    ⟨(some 3), none, [6], none, .q (.mv (.t 6))⟩])
  (.keep [1, 3] (.cond (.t 3)
    (.seq (.reg false [⟨(some 2), none, [], none, .q (.mv (.k (.i 20)))⟩])
    .ret)
    (.seq (.reg false [⟨(some 8), none, [1], none, .q (.fad 0 (.t 1))⟩,
      ⟨(some 9), none, [8], none, .q (.ld false 1 (.t 8))⟩,
      ⟨(some 10), none, [9], none, .q (.call (.k (.fn 63 [])) [(.t 9), (.k (.fn 64 []))])⟩,
      ⟨(some 11), none, [10], none, .q (.not (.t 10))⟩,
      ⟨(some 7), none, [11], none, .q (.mv (.t 11))⟩])
    (.keep [7] (.cond (.t 7)
      (.seq (.reg false [⟨(some 2), none, [], none, .q (.mv (.k (.i 21)))⟩])
      .ret)
      .skip)))))))
  (.keep [] (.seq (.reg false [⟨(some 2), none, [], none, .q (.mv (.k (.i 0)))⟩])
  .ret)))))
def pu41 : List Nat := [1]
def rs41 : List RV := [.t 2]
theorem cc41 : comp Try.prog pu41 (Try.f41.ntmps, 0) 0 1 rc41 (Try.f41.body.getD .skip) = some rc41 := by kernel_rfl
theorem cb41 : Try.f41.body = some (Try.f41.body.getD .skip) := by kernel_rfl
theorem cs41 : resRV Try.prog Try.f41.results.toList = some rs41 := by kernel_rfl
theorem cn41 : 1 ≤ Try.f41.ntmps := by decide
/- ferrule/ferruleref02.Stretches: params [26, 3], free 0, slots 23 -/
def rc42 : RC :=
  (.seq (.reg false [⟨(some 2), none, [0], none, .q (.box (.t 0))⟩,
    ⟨(some 4), none, [], none, .q (.mv (.k (.z 1)))⟩,
    ⟨(some 5), none, [], none, .q (.mv (.k (.i 0)))⟩])
  (.keep [1, 2] (.seq (.seq (.reg false [⟨(some 9), none, [2], none, .q (.ld true 6 (.t 2))⟩,
    ⟨(some 10), none, [1], none, .q (.mv (.t 1))⟩,
    ⟨(some 11), none, [9, 10], none, .q (.call (.k (.fn 51 [])) [(.t 9), (.t 10), (.k (.i 0))])⟩,
    ⟨(some 8), none, [11], none, .q (.mv (.t 11))⟩,
    ⟨(some 12), none, [8], none, .q (.ext (.t 8) 0)⟩,
    ⟨(some 13), none, [8], none, .q (.ext (.t 8) 1)⟩,
    ⟨(some 6), none, [12], none, .q (.mv (.t 12))⟩,
    ⟨(some 7), none, [13], none, .q (.mv (.t 13))⟩])
  (.keep [1, 2, 7] (.seq (.reg false [⟨(some 14), none, [7], none, .q (.mv (.t 7))⟩,
    ⟨(some 15), none, [14], none, .q (.bin .neq (.t 14) (.k (.i 0)))⟩])
  (.keep [1, 2, 7, 15] (.cond (.t 15)
    (.seq (.reg false [⟨(some 16), none, [7], none, .q (.mv (.t 7))⟩,
      ⟨(some 4), none, [], none, .q (.mv (.k (.z 1)))⟩,
      ⟨(some 5), none, [16], none, .q (.mv (.t 16))⟩])
    .ret)
    .skip)))))
  (.keep [1, 2] (.seq (.reg false [⟨(some 17), none, [2], none, .q (.fad 0 (.t 2))⟩,
    ⟨(some 18), none, [17], none, .q (.ld false 1 (.t 17))⟩,
    ⟨(some 19), none, [1], none, .q (.mv (.t 1))⟩,
    ⟨(some 20), none, [18, 19], none, .q (.iad 4 (.t 18) (.t 19))⟩,
    ⟨(some 21), none, [20], none, .q (.ld true 4 (.t 20))⟩,
    ⟨(some 22), none, [21], none, .q (.call (.k (.fn 65 [])) [(.t 21)])⟩,
    ⟨(some 4), none, [22], none, .q (.mv (.t 22))⟩,
    ⟨(some 5), none, [], none, .q (.mv (.k (.i 0)))⟩])
  .ret)))))
def pu42 : List Nat := [2]
def rs42 : List RV := [.t 4, .t 5]
theorem cc42 : comp Try.prog pu42 (Try.f42.ntmps, 0) 0 1 rc42 (Try.f42.body.getD .skip) = some rc42 := by kernel_rfl
theorem cb42 : Try.f42.body = some (Try.f42.body.getD .skip) := by kernel_rfl
theorem cs42 : resRV Try.prog Try.f42.results.toList = some rs42 := by kernel_rfl
theorem cn42 : 2 ≤ Try.f42.ntmps := by decide
/- ferrule/ferruleref02.Fewest: params [26, 3], free 0, slots 46 -/
def rc43 : RC :=
  (.seq (.reg false [⟨(some 2), none, [0], none, .q (.box (.t 0))⟩,
    ⟨(some 4), none, [], none, .q (.mv (.k (.i 0)))⟩,
    ⟨(some 5), none, [], none, .q (.mv (.k (.i 0)))⟩])
  (.keep [1, 2] (.seq (.seq (.reg false [⟨(some 10), none, [2], none, .q (.ld true 6 (.t 2))⟩,
    ⟨(some 11), none, [10], none, .q (.call (.k (.fn 39 [])) [(.t 10)])⟩,
    ⟨(some 6), none, [11], none, .q (.mv (.t 11))⟩])
  (.keep [1, 2, 6] (.seq (.reg false [⟨(some 12), none, [6], none, .q (.mv (.t 6))⟩,
    ⟨(some 13), none, [12], none, .q (.bin .neq (.t 12) (.k (.i 0)))⟩])
  (.keep [1, 2, 6, 13] (.cond (.t 13)
    (.seq (.reg false [⟨(some 14), none, [6], none, .q (.mv (.t 6))⟩,
      ⟨(some 4), none, [], none, .q (.mv (.k (.i 0)))⟩,
      ⟨(some 5), none, [14], none, .q (.mv (.t 14))⟩])
    .ret)
    .skip)))))
  (.keep [1, 2] (.seq (.seq (.reg false [⟨(some 15), none, [1], none, .q (.mv (.t 1))⟩,
    ⟨(some 16), none, [2], none, .q (.fad 0 (.t 2))⟩,
    ⟨(some 17), none, [16], none, .q (.ld false 1 (.t 16))⟩,
    ⟨(some 18), none, [17], none, .q (.len (.t 17))⟩,
    ⟨(some 19), none, [18], none, .q (.bin .sub (.t 18) (.k (.i 1)))⟩,
    ⟨(some 20), none, [15, 19], none, .q (.call (.k (.fn 54 [])) [(.t 15), (.k (.i 0)), (.t 19)])⟩,
    ⟨(some 21), none, [20], none, .q (.not (.t 20))⟩])
  (.keep [1, 2, 21] (.cond (.t 21)
    (.seq (.reg false [⟨(some 4), none, [], none, .q (.mv (.k (.i 0)))⟩,
      ⟨(some 5), none, [], none, .q (.mv (.k (.i 1)))⟩])
    .ret)
    .skip)))
  (.keep [1, 2] (.seq (.reg false [⟨(some 22), none, [2], none, .q (.fad 0 (.t 2))⟩,
    ⟨(some 23), none, [22], none, .q (.ld false 1 (.t 22))⟩,
    ⟨(some 24), none, [1], none, .q (.mv (.t 1))⟩,
    ⟨(some 25), none, [23, 24], none, .q (.iad 4 (.t 23) (.t 24))⟩,
    ⟨(some 26), none, [25], none, .q (.ld true 4 (.t 25))⟩,
    ⟨(some 7), none, [], none, .w (.alc [(.i 0), (.i 0), (.z 3), (.i 0)])⟩,
    ⟨none, none, [7, 26], none, .w (.st 4 (.t 7) (.t 26))⟩])
  (.keep [7] (.seq (.reg false [⟨(some 27), none, [7], none, .q (.fad 2 (.t 7))⟩,
    ⟨(some 28), none, [27], none, .q (.ld false 1 (.t 27))⟩,
    ⟨(some 29), none, [28], none, .q (.len (.t 28))⟩,
    ⟨(some 8), none, [29], none, .q (.mv (.t 29))⟩])
  (.keep [7, 8] (.seq (.seq (.reg false [⟨(some 30), none, [7], none, .q (.fad 0 (.t 7))⟩,
    ⟨(some 31), none, [30], none, .q (.fad 0 (.t 30))⟩,
    ⟨(some 32), none, [31], none, .q (.ld false 1 (.t 31))⟩,
    ⟨(some 9), none, [32], none, .q (.mv (.t 32))⟩])
  (.keep [7, 8, 9] (.block 0 (.loop [7, 8, 9] none (.seq (.seq (.reg false [⟨(some 33), none, [9], none, .q (.mv (.t 9))⟩,
    ⟨(some 34), none, [7], none, .q (.fad 0 (.t 7))⟩,
    ⟨(some 35), none, [34], none, .q (.fad 1 (.t 34))⟩,
    ⟨(some 36), none, [35], none, .q (.ld false 1 (.t 35))⟩,
    ⟨(some 37), none, [33, 36], none, .q (.bin .leq (.t 33) (.t 36))⟩])
  (.keep [7, 8, 9, 37] (.cond (.t 37)
    .skip
    (.exit 0))))
  (.keep [7, 8, 9] (.seq (.block 1 (.reg false [⟨(some 40), none, [8], none, .q (.mv (.t 8))⟩,
    ⟨(some 41), none, [7], none, .q (.ld true 4 (.t 7))⟩,
    ⟨(some 42), none, [9], none, .q (.mv (.t 9))⟩,
    ⟨(some 43), none, [41, 42], none, .q (.call (.k (.fn 66 [])) [(.t 41), (.t 42)])⟩,
    ⟨(some 44), none, [40, 43], none, .q (.mn (.t 40) (.t 43))⟩,
    ⟨(some 8), none, [44], none, .q (.mv (.t 44))⟩]))
  (.keep [7, 8, 9] (.reg false [⟨(some 38), none, [9], none, .q (.mv (.t 9))⟩,
    ⟨(some 39), none, [38], none, .q (.bin .add (.t 38) (.k (.i 1)))⟩,
    ⟨(some 9), none, [39], none, .q (.mv (.t 39))⟩])))))))))
  (.keep [8] (.seq (.reg false [⟨(some 45), none, [8], none, .q (.mv (.t 8))⟩,
    ⟨(some 4), none, [45], none, .q (.mv (.t 45))⟩,
    ⟨(some 5), none, [], none, .q (.mv (.k (.i 0)))⟩])
  .ret)))))))))))))
def pu43 : List Nat := [2]
def rs43 : List RV := [.t 4, .t 5]
theorem cc43 : comp Try.prog pu43 (Try.f43.ntmps, 0) 0 1 rc43 (Try.f43.body.getD .skip) = some rc43 := by kernel_rfl
theorem cb43 : Try.f43.body = some (Try.f43.body.getD .skip) := by kernel_rfl
theorem cs43 : resRV Try.prog Try.f43.results.toList = some rs43 := by kernel_rfl
theorem cn43 : 2 ≤ Try.f43.ntmps := by decide
/- ferrule/ferrulelaw02.Example: params [], free 0, slots 16 -/
def rc44 : RC :=
  (.seq (.reg false [⟨(some 0), none, [], none, .w (.alc [(.z 4), (.z 1), (.i 0), (.z 2), (.z 1), (.i 0)])⟩])
  (.keep [0] (.seq (.reg false [⟨(some 1), none, [], none, .q (.bld [(.i 0), (.i 0)] [(1, 1, (.k (.i 20)))])⟩,
    ⟨(some 2), none, [], none, .q (.bld [(.i 0), (.i 0)] [(0, 1, (.k (.i 1005))), (1, 1, (.k (.i 1010)))])⟩,
    ⟨(some 3), none, [2], none, .q (.bld [(.i 0), (.i 0), (.i 0)] [(0, 1, (.k (.i 1000))), (1, 2, (.t 2))])⟩,
    ⟨(some 4), none, [3], none, .q (.bsl 3 1 [(.i 0), (.i 0), (.i 0)] [(0, 3, (.t 3))])⟩,
    ⟨(some 5), none, [1, 4], none, .q (.bld [(.i 0), (.i 0), (.z 3), (.i 0)] [(0, 2, (.t 1)), (2, 1, (.t 4))])⟩,
    ⟨(some 6), none, [], none, .q (.bld [(.i 0), (.i 0)] [(1, 1, (.k (.i 10)))])⟩,
    ⟨(some 7), none, [6], none, .q (.bld [(.i 0), (.i 0), (.z 3), (.i 0)] [(0, 2, (.t 6))])⟩,
    ⟨(some 8), none, [5, 7], none, .q (.bsl 4 2 [(.i 0), (.i 0), (.z 3), (.i 0)] [(0, 4, (.t 5)), (4, 4, (.t 7))])⟩,
    ⟨(some 9), none, [], none, .q (.bsl 1 4 [(.i 0)] [(0, 1, (.k (.i 0))), (1, 1, (.k (.i 0))), (2, 1, (.k (.i 1))), (3, 1, (.k (.i 1)))])⟩,
    ⟨(some 10), none, [], none, .q (.bld [(.i 0), (.i 0)] [(0, 1, (.k (.i 400))), (1, 1, (.k (.i 404)))])⟩,
    ⟨(some 11), none, [], none, .q (.bld [(.i 0), (.i 0)] [(0, 1, (.k (.i 600))), (1, 1, (.k (.i 650)))])⟩,
    ⟨(some 12), none, [], none, .q (.bld [(.i 0), (.i 0)] [(0, 1, (.k (.i 803))), (1, 1, (.k (.i 806)))])⟩,
    ⟨(some 13), none, [10, 11, 12], none, .w (.bso 2 3 [(.i 0), (.i 0)] [(0, 2, (.t 10)), (2, 2, (.t 11)), (4, 2, (.t 12))])⟩,
    ⟨(some 14), none, [], none, .q (.bsl 1 3 [(.i 0)] [(0, 1, (.k (.i 110))), (1, 1, (.k (.i 165))), (2, 1, (.k (.i 210)))])⟩,
    ⟨(some 15), none, [8, 9, 13, 14], none, .q (.bld [(.z 4), (.z 1), (.i 0), (.z 2), (.z 1), (.i 0)] [(0, 1, (.t 8)), (1, 1, (.t 9)), (2, 1, (.k (.i 5))), (3, 1, (.t 13)), (4, 1, (.t 14)), (5, 1, (.k (.i 50)))])⟩,
    ⟨none, none, [0, 15], none, .w (.st 6 (.t 0) (.t 15))⟩])
  .ret)))
def pu44 : List Nat := [4, 8, 9, 14]
def rs44 : List RV := [.c 0 true 6]
theorem cc44 : comp Try.prog pu44 (Try.f44.ntmps, 0) 0 1 rc44 (Try.f44.body.getD .skip) = some rc44 := by kernel_rfl
theorem cb44 : Try.f44.body = some (Try.f44.body.getD .skip) := by kernel_rfl
theorem cs44 : resRV Try.prog Try.f44.results.toList = some rs44 := by kernel_rfl
theorem cn44 : 0 ≤ Try.f44.ntmps := by decide
/- ferrule/cloth.pitch: params [26, 4], free 0, slots 57 -/
def rc45 : RC :=
  (.seq (.reg false [⟨(some 2), none, [0], none, .q (.box (.t 0))⟩,
    ⟨(some 4), none, [], none, .q (.mv (.k .pn))⟩,
    ⟨(some 5), none, [], none, .q (.mv (.k (.i 0)))⟩])
  (.keep [1, 2, 31] (.seq (.seq (.reg false [⟨(some 12), none, [2], none, .q (.ld true 6 (.t 2))⟩,
    ⟨(some 13), none, [12], none, .q (.call (.k (.fn 41 [])) [(.t 12)])⟩,
    ⟨(some 6), none, [13], none, .q (.mv (.t 13))⟩])
  (.keep [1, 2, 6, 31] (.seq (.reg false [⟨(some 14), none, [6], none, .q (.mv (.t 6))⟩,
    ⟨(some 15), none, [14], none, .q (.bin .neq (.t 14) (.k (.i 0)))⟩])
  (.keep [1, 2, 6, 15, 31] (.cond (.t 15)
    (.seq (.reg false [⟨(some 16), none, [6], none, .q (.mv (.t 6))⟩,
      ⟨(some 4), none, [], none, .q (.mv (.k .pn))⟩,
      ⟨(some 5), none, [16], none, .q (.mv (.t 16))⟩])
    .ret)
    .skip)))))
  (.keep [1, 2, 31] (.seq (.seq (.reg false [⟨(some 17), none, [1], none, .q (.mv (.t 1))⟩,
    ⟨(some 18), none, [17], none, .q (.not (.t 17))⟩])
  (.keep [2, 18, 31] (.cond (.t 18)
    (.seq (.reg false [⟨(some 4), none, [], none, .q (.mv (.k .pn))⟩,
      ⟨(some 5), none, [], none, .q (.mv (.k (.i 1)))⟩])
    .ret)
    .skip)))
  (.keep [2, 31] (.seq (.reg false [⟨(some 19), none, [2], none, .q (.ld true 6 (.t 2))⟩,
    ⟨(some 20), none, [19], none, .q (.bld [(.z 4), (.z 1), (.i 0), (.z 2), (.z 1), (.i 0), (.z 1)] [(0, 6, (.t 19))])⟩,
    ⟨(some 21), none, [20], none, .w (.bxo (.t 20))⟩,
    ⟨(some 7), none, [21], none, .q (.mv (.t 21))⟩])
  (.keep [2, 7, 31] (.seq (.seq (.reg false [⟨(some 22), none, [2], none, .q (.fad 0 (.t 2))⟩,
    ⟨(some 23), none, [22], none, .q (.ld false 1 (.t 22))⟩,
    ⟨(some 24), none, [23], none, .q (.len (.t 23))⟩,
    ⟨(some 25), none, [], none, .q (.mv (.k (.i 0)))⟩])
  (.keep [7, 23, 24, 25, 31] (.block 0 (.ownc 7 6 1 (.loop [7, 23, 24, 25, 31] (some 2) (.seq (.reg false [⟨(some 26), none, [25, 24], none, .q (.bin .lss (.t 25) (.t 24))⟩])
  (.keep [7, 23, 24, 25, 26, 31] (.seq (.cond (.t 26)
    .skip
    (.exit 0))
  (.keep [7, 23, 24, 25, 31] (.seq (.block 1 (.seq (.reg false [⟨(some 27), none, [23, 25], none, .q (.iad 4 (.t 23) (.t 25))⟩,
    ⟨(some 28), none, [27], none, .q (.ld true 4 (.t 27))⟩,
    ⟨(some 9), none, [], none, .w (.alc [(.i 0), (.i 0), (.z 3), (.i 0)])⟩,
    ⟨none, none, [9, 28], none, .w (.st 4 (.t 9) (.t 28))⟩])
  (.keep [7, 9, 23, 24, 25, 31] (.seq (.reg false [⟨(some 10), none, [], none, .w (.alc [(.z 1)])⟩])
  (.keep [7, 9, 10, 23, 24, 25, 31] (.seq (.seq (.reg false [⟨(some 29), none, [9], none, .q (.ld true 4 (.t 9))⟩,
    ⟨(some 30), none, [29], none, .q (.call (.k (.fn 60 [])) [(.t 29)])⟩])
  (.keep [7, 9, 10, 23, 24, 25, 30, 31] (.block 2 (.ownc 10 0 1 (.rfn (.t 30) [31] 5 (.reg false [⟨(some 11), none, [31], none, .q (.mv (.t 31))⟩])
  (.block 3 (.seq (.any false 0 [⟨⟨(some 32), none, [9], none, .q (.ld true 4 (.t 9))⟩, [], []⟩,
    ⟨⟨(some 33), none, [11], none, .q (.mv (.t 11))⟩, [], []⟩,
    ⟨⟨(some 34), none, [32, 33], none, .q (.call (.k (.fn 61 [])) [(.t 32), (.t 33)])⟩, [], [0, 1]⟩,
    ⟨⟨(some 35), none, [9], none, .q (.fad 3 (.t 9))⟩, [], []⟩,
    ⟨⟨(some 36), none, [35], none, .q (.ld false 1 (.t 35))⟩, [], [3]⟩,
    ⟨⟨(some 37), none, [34, 36], none, .q (.bin .leq (.t 34) (.t 36))⟩, [], [2, 0, 1, 4, 3]⟩])
  (.keep [10, 11, 37] (.cond (.t 37)
    (.reg false [⟨(some 38), none, [10], none, .q (.ld false 1 (.t 10))⟩,
      ⟨(some 39), none, [11], none, .q (.mv (.t 11))⟩,
      ⟨(some 40), none, [39], none, .q (.bsl 1 1 [(.i 0)] [(0, 1, (.t 39))])⟩,
      ⟨(some 41), none, [38, 40], none, .w (.app 1 (.t 38) (.t 40))⟩,
      ⟨none, none, [10, 41], none, .w (.st 1 (.t 10) (.t 41))⟩])
    .skip)))))))))
  (.keep [7, 10, 23, 24, 25, 31] (.seq (.seq (.reg false [⟨(some 42), none, [10], none, .q (.ld false 1 (.t 10))⟩,
    ⟨(some 43), none, [42], none, .q (.len (.t 42))⟩,
    ⟨(some 44), none, [43], none, .q (.bin .eql (.t 43) (.k (.i 0)))⟩])
  (.keep [7, 10, 23, 24, 25, 31, 44] (.cond (.t 44)
    (.seq (.reg false [⟨(some 4), none, [], none, .q (.mv (.k .pn))⟩,
      ⟨(some 5), none, [], none, .q (.mv (.k (.i 3)))⟩])
    .ret)
    .skip)))
  (.keep [7, 10, 23, 24, 25, 31] (.drp 2 (.any false 1 [⟨⟨(some 45), none, [7], none, .q (.mv (.t 7))⟩, [], []⟩,
    ⟨⟨(some 46), none, [7], none, .q (.mv (.t 7))⟩, [], []⟩,
    ⟨⟨(some 47), none, [46], none, .q (.nilc (.t 46))⟩, [], [1]⟩,
    ⟨⟨(some 48), none, [47], none, .q (.fad 6 (.t 47))⟩, [], [2, 1]⟩,
    ⟨⟨(some 49), none, [48], none, .q (.ld false 1 (.t 48))⟩, [], [3, 2, 1]⟩,
    ⟨⟨(some 50), none, [10], none, .q (.ld false 1 (.t 10))⟩, [], []⟩,
    ⟨⟨(some 51), none, [50], none, .q (.bsl 1 1 [(.z 1)] [(0, 1, (.t 50))])⟩, [], [5]⟩,
    ⟨⟨(some 52), none, [49, 51], (some 0), .w (.app 1 (.t 49) (.t 51))⟩, [0], [4, 3, 2, 1, 6, 5]⟩,
    ⟨⟨(some 53), none, [45], none, .q (.nilc (.t 45))⟩, [], [0, 1, 2, 3, 4, 5, 6, 7]⟩,
    ⟨⟨(some 54), none, [53], none, .q (.fad 6 (.t 53))⟩, [], [8, 0, 1, 2, 3, 4, 5, 6, 7]⟩,
    ⟨⟨none, none, [54, 52], none, .w (.st 1 (.t 54) (.t 52))⟩, [], [9, 8, 0, 1, 2, 3, 4, 5, 6, 7]⟩])))))))))))
  (.drp 2 (.keep [7, 23, 24, 25, 31] (.reg false [⟨(some 55), none, [25], none, .q (.bin .add (.t 25) (.k (.i 1)))⟩,
    ⟨(some 25), none, [55], none, .q (.mv (.t 55))⟩])))))))))))))
  (.keep [7] (.seq (.reg false [⟨(some 56), none, [7], none, .q (.mv (.t 7))⟩,
    ⟨(some 4), none, [56], none, .q (.mv (.t 56))⟩,
    ⟨(some 5), none, [], none, .q (.mv (.k (.i 0)))⟩])
  .ret)))))))))))
def pu45 : List Nat := [2, 40, 51]
def rs45 : List RV := [.t 4, .t 5]
theorem cc45 : comp Try.prog pu45 (Try.f45.ntmps, 0) 0 1 rc45 (Try.f45.body.getD .skip) = some rc45 := by kernel_rfl
theorem cb45 : Try.f45.body = some (Try.f45.body.getD .skip) := by kernel_rfl
theorem cs45 : resRV Try.prog Try.f45.results.toList = some rs45 := by kernel_rfl
theorem cn45 : 2 ≤ Try.f45.ntmps := by decide
/- ferrule/cloth.isRow: params [26, 3], free 0, slots 11 -/
def rc46 : RC :=
  (.seq (.reg false [⟨(some 2), none, [0], none, .q (.box (.t 0))⟩,
    ⟨(some 4), none, [], none, .q (.mv (.k (.b false)))⟩])
  (.keep [1, 2] (.seq (.reg false [⟨(some 5), none, [1], none, .q (.mv (.t 1))⟩,
    ⟨(some 6), none, [2], none, .q (.fad 3 (.t 2))⟩,
    ⟨(some 7), none, [6], none, .q (.ld false 1 (.t 6))⟩,
    ⟨(some 8), none, [7], none, .q (.len (.t 7))⟩,
    ⟨(some 9), none, [8], none, .q (.bin .sub (.t 8) (.k (.i 1)))⟩,
    ⟨(some 10), none, [5, 9], none, .q (.call (.k (.fn 67 [])) [(.t 5), (.k (.i 0)), (.t 9)])⟩,
    ⟨(some 4), none, [10], none, .q (.mv (.t 10))⟩])
  .ret)))
def pu46 : List Nat := [2]
def rs46 : List RV := [.t 4]
theorem cc46 : comp Try.prog pu46 (Try.f46.ntmps, 0) 0 1 rc46 (Try.f46.body.getD .skip) = some rc46 := by kernel_rfl
theorem cb46 : Try.f46.body = some (Try.f46.body.getD .skip) := by kernel_rfl
theorem cs46 : resRV Try.prog Try.f46.results.toList = some rs46 := by kernel_rfl
theorem cn46 : 2 ≤ Try.f46.ntmps := by decide
/- (*ferrule/cloth.tent).tight: params [66, 3, 3], free 0, slots 47 -/
def rc47 : RC :=
  (.seq (.reg false [⟨(some 6), none, [], none, .q (.mv (.k (.i 0)))⟩])
  (.keep [0, 1, 2] (.seq (.reg false [⟨(some 10), none, [0], none, .q (.mv (.t 0))⟩,
    ⟨(some 11), none, [10], none, .q (.nilc (.t 10))⟩,
    ⟨(some 12), none, [11], none, .q (.fad 0 (.t 11))⟩,
    ⟨(some 13), none, [12], none, .q (.fad 3 (.t 12))⟩,
    ⟨(some 14), none, [13], none, .q (.ld false 1 (.t 13))⟩,
    ⟨(some 15), none, [1], none, .q (.mv (.t 1))⟩,
    ⟨(some 16), none, [14, 15], none, .q (.iad 2 (.t 14) (.t 15))⟩,
    ⟨(some 17), none, [16], none, .q (.ld true 2 (.t 16))⟩,
    ⟨(some 7), none, [], none, .w (.alc [(.i 0), (.i 0)])⟩,
    ⟨none, none, [7, 17], none, .w (.st 2 (.t 7) (.t 17))⟩])
  (.keep [0, 2, 7] (.seq (.seq (.reg false [⟨(some 18), none, [0], none, .q (.mv (.t 0))⟩,
    ⟨(some 19), none, [2], none, .q (.mv (.t 2))⟩,
    ⟨(some 20), none, [18, 19], none, .q (.call (.k (.fn 50 [])) [(.t 18), (.t 19)])⟩,
    ⟨(some 8), none, [], none, .w (.alc [(.i 0), (.i 0)])⟩,
    ⟨none, none, [8, 20], none, .w (.st 2 (.t 8) (.t 20))⟩])
  (.keep [0, 2, 7, 8] (.seq (.reg true [⟨(some 21), none, [7], none, .q (.fad 0 (.t 7))⟩,
    ⟨(some 22), none, [21], none, .q (.ld false 1 (.t 21))⟩,
    ⟨(some 23), none, [8], none, .q (.fad 0 (.t 8))⟩,
    ⟨(some 24), none, [23], none, .q (.ld false 1 (.t 23))⟩,
    ⟨(some 25), none, [22, 24], none, .q (.bin .leq (.t 22) (.t 24))⟩,
    ⟨(some 26), none, [25], none, .q (.mv (.t 25))⟩,
    ⟨(some 27), (some (26, true)), [8], none, .q (.fad 1 (.t 8))⟩,
    ⟨(some 28), (some (26, true)), [27], none, .q (.ld false 1 (.t 27))⟩,
    ⟨(some 29), (some (26, true)), [7], none, .q (.fad 1 (.t 7))⟩,
    ⟨(some 30), (some (26, true)), [29], none, .q (.ld false 1 (.t 29))⟩,
    ⟨(some 31), (some (26, true)), [28, 30], none, .q (.bin .leq (.t 28) (.t 30))⟩,
    ⟨(some 32), none, [26, 31], none, .q (.pick (.t 26) (.t 31) (.k (.b false)))⟩])
  (.keep [0, 2, 7, 32] (.cond (.t 32)
    (.seq (.reg false [⟨(some 6), none, [], none, .q (.mv (.k (.i 1)))⟩])
    .ret)
    .skip)))))
  (.keep [0, 2, 7] (.seq (.seq (.crl false [⟨(some 33), none, [0], none, .q (.mv (.t 0))⟩,
    ⟨(some 34), none, [2], none, .q (.mv (.t 2))⟩]
    ⟨(some 35), none, [33, 34], none, .o (.k (.fn 68 [])) [(.t 33), (.t 34)]⟩ [⟨(some 36), none, [35], none, .w (.rng (.t 35))⟩])
  (.keep [7, 36] (.block 0 (.loop [7, 36] none (.seq (.nxt 37 38 36)
  (.keep [7, 36, 38] (.seq (.cond (.t 38)
    .skip
    (.exit 0))
  (.keep [7, 36] (.block 1 (.seq (.reg false [⟨(some 39), none, [36], none, .q (.ent (.t 36))⟩,
    ⟨(some 40), none, [39], none, .q (.ext (.t 39) 0)⟩,
    ⟨(some 9), none, [40], none, .q (.mv (.t 40))⟩])
  (.keep [7, 9, 36] (.seq (.reg false [⟨(some 41), none, [9], none, .q (.mv (.t 9))⟩,
    ⟨(some 42), none, [7], none, .q (.fad 0 (.t 7))⟩,
    ⟨(some 43), none, [42], none, .q (.ld false 1 (.t 42))⟩,
    ⟨(some 44), none, [7], none, .q (.fad 1 (.t 7))⟩,
    ⟨(some 45), none, [44], none, .q (.ld false 1 (.t 44))⟩,
    ⟨(some 46), none, [41, 43, 45], none, .q (.call (.k (.fn 67 [])) [(.t 41), (.t 43), (.t 45)])⟩])
  (.keep [7, 36, 46] (.cond (.t 46)
    (.seq (.reg false [⟨(some 6), none, [], none, .q (.mv (.k (.i 3)))⟩])
    .ret)
    .skip))))))))))))))
  (.keep [] (.seq (.reg false [⟨(some 6), none, [], none, .q (.mv (.k (.i 2)))⟩])
  .ret)))))))))
def pu47 : List Nat := []
def rs47 : List RV := [.t 6]
theorem cc47 : comp Try.prog pu47 (Try.f47.ntmps, 0) 0 1 rc47 (Try.f47.body.getD .skip) = some rc47 := by kernel_rfl
theorem cb47 : Try.f47.body = some (Try.f47.body.getD .skip) := by kernel_rfl
theorem cs47 : resRV Try.prog Try.f47.results.toList = some rs47 := by kernel_rfl
theorem cn47 : 3 ≤ Try.f47.ntmps := by decide
/- (*ferrule/cloth.tent).cut: params [66, 3], free 0, slots 50 -/
def rc48 : RC :=
  (.seq (.reg false [⟨(some 4), none, [], none, .w (.alc [(.i 0), (.i 0)])⟩,
    ⟨(some 5), none, [], none, .q (.mv (.k (.b false)))⟩])
  (.keep [0, 1, 4, 5] (.seq (.reg false [⟨(some 9), none, [0], none, .q (.mv (.t 0))⟩,
    ⟨(some 10), none, [9], none, .q (.nilc (.t 9))⟩,
    ⟨(some 11), none, [10], none, .q (.fad 0 (.t 10))⟩,
    ⟨(some 12), none, [11], none, .q (.fad 3 (.t 11))⟩,
    ⟨(some 13), none, [12], none, .q (.ld false 1 (.t 12))⟩,
    ⟨(some 14), none, [1], none, .q (.mv (.t 1))⟩,
    ⟨(some 15), none, [13, 14], none, .q (.iad 2 (.t 13) (.t 14))⟩,
    ⟨(some 16), none, [15], none, .q (.ld true 2 (.t 15))⟩,
    ⟨(some 6), none, [], none, .w (.alc [(.i 0), (.i 0)])⟩,
    ⟨none, none, [6, 16], none, .w (.st 2 (.t 6) (.t 16))⟩])
  (.keep [0, 4, 5, 6] (.seq (.seq (.reg false [⟨(some 17), none, [0], none, .q (.mv (.t 0))⟩,
    ⟨(some 18), none, [17], none, .q (.nilc (.t 17))⟩,
    ⟨(some 19), none, [18], none, .q (.fad 0 (.t 18))⟩,
    ⟨(some 20), none, [19], none, .q (.fad 2 (.t 19))⟩,
    ⟨(some 21), none, [20], none, .q (.ld false 1 (.t 20))⟩,
    ⟨(some 22), none, [21], none, .q (.bin .mul (.k (.i 2)) (.t 21))⟩,
    ⟨(some 7), none, [22], none, .q (.mv (.t 22))⟩])
  (.keep [0, 4, 5, 6, 7] (.block 0 (.loop [0, 4, 5, 6, 7] (some 2) (.seq (.seq (.reg false [⟨(some 23), none, [7], none, .q (.mv (.t 7))⟩,
    ⟨(some 24), none, [23], none, .q (.bin .leq (.t 23) (.k (.i 2000)))⟩])
  (.keep [0, 4, 5, 6, 7, 24] (.cond (.t 24)
    .skip
    (.exit 0))))
  (.keep [0, 4, 5, 6, 7] (.seq (.block 1 (.seq (.seq (.reg false [⟨(some 27), none, [0], none, .q (.mv (.t 0))⟩,
    ⟨(some 28), none, [7], none, .q (.mv (.t 7))⟩,
    ⟨(some 29), none, [27, 28], none, .q (.call (.k (.fn 50 [])) [(.t 27), (.t 28)])⟩,
    ⟨(some 8), none, [], none, .w (.alc [(.i 0), (.i 0)])⟩,
    ⟨none, none, [8, 29], none, .w (.st 2 (.t 8) (.t 29))⟩])
  (.keep [0, 4, 5, 6, 7, 8] (.seq (.reg true [⟨(some 30), none, [8], none, .q (.fad 0 (.t 8))⟩,
    ⟨(some 31), none, [30], none, .q (.ld false 1 (.t 30))⟩,
    ⟨(some 32), none, [6], none, .q (.fad 0 (.t 6))⟩,
    ⟨(some 33), none, [32], none, .q (.ld false 1 (.t 32))⟩,
    ⟨(some 34), none, [31, 33], none, .q (.bin .lss (.t 31) (.t 33))⟩,
    ⟨(some 35), none, [34], none, .q (.mv (.t 34))⟩,
    ⟨(some 36), (some (35, false)), [8], none, .q (.fad 1 (.t 8))⟩,
    ⟨(some 37), (some (35, false)), [36], none, .q (.ld false 1 (.t 36))⟩,
    ⟨(some 38), (some (35, false)), [6], none, .q (.fad 1 (.t 6))⟩,
    ⟨(some 39), (some (35, false)), [38], none, .q (.ld false 1 (.t 38))⟩,
    ⟨(some 40), (some (35, false)), [37, 39], none, .q (.bin .gtr (.t 37) (.t 39))⟩,
    ⟨(some 41), none, [35, 40], none, .q (.pick (.t 35) (.k (.b true)) (.t 40))⟩])
  (.keep [0, 4, 5, 6, 7, 41] (.cond (.t 41)
    (.exit 1)
    .skip)))))
  (.keep [0, 4, 5, 6, 7] (.seq (.seq (.reg false [⟨(some 42), none, [5], none, .q (.mv (.t 5))⟩,
    ⟨(some 43), none, [42], none, .q (.not (.t 42))⟩])
  (.keep [0, 4, 6, 7, 43] (.cond (.t 43)
    (.reg false [⟨(some 44), none, [7], none, .q (.mv (.t 7))⟩,
      ⟨(some 45), none, [4], none, .q (.fad 0 (.t 4))⟩,
      ⟨none, none, [45, 44], none, .w (.st 1 (.t 45) (.t 44))⟩])
    .skip)))
  (.keep [0, 4, 6, 7] (.reg false [⟨(some 46), none, [7], none, .q (.mv (.t 7))⟩,
    ⟨(some 47), none, [4], none, .q (.fad 1 (.t 4))⟩,
    ⟨none, none, [47, 46], none, .w (.st 1 (.t 47) (.t 46))⟩,
    ⟨(some 5), none, [], none, .q (.mv (.k (.b true)))⟩]))))))
  (.drp 2 (.keep [0, 4, 5, 6, 7] (.reg false [⟨(some 25), none, [7], none, .q (.mv (.t 7))⟩,
    ⟨(some 26), none, [25], none, .q (.bin .add (.t 25) (.k (.i 1)))⟩,
    ⟨(some 7), none, [26], none, .q (.mv (.t 26))⟩]))))))))))
  (.keep [4, 5] (.seq (.reg false [⟨(some 48), none, [4], none, .q (.ld true 2 (.t 4))⟩,
    ⟨(some 49), none, [5], none, .q (.mv (.t 5))⟩,
    ⟨none, none, [4, 48], none, .w (.st 2 (.t 4) (.t 48))⟩,
    ⟨(some 5), none, [49], none, .q (.mv (.t 49))⟩])
  .ret)))))))
def pu48 : List Nat := []
def rs48 : List RV := [.c 4 true 2, .t 5]
theorem cc48 : comp Try.prog pu48 (Try.f48.ntmps, 0) 0 1 rc48 (Try.f48.body.getD .skip) = some rc48 := by kernel_rfl
theorem cb48 : Try.f48.body = some (Try.f48.body.getD .skip) := by kernel_rfl
theorem cs48 : resRV Try.prog Try.f48.results.toList = some rs48 := by kernel_rfl
theorem cn48 : 2 ≤ Try.f48.ntmps := by decide
/- ferrule/ferruleref02.Can: params [57, 3], free 0, slots 21 -/
def rc49 : RC :=
  (.seq (.reg false [⟨(some 2), none, [0], none, .q (.box (.t 0))⟩,
    ⟨(some 4), none, [], none, .q (.mv (.k (.b false)))⟩])
  (.keep [1, 2] (.seq (.any true 0 [⟨⟨(some 5), none, [1], none, .q (.mv (.t 1))⟩, [], []⟩,
    ⟨⟨(some 6), none, [2], none, .q (.fad 0 (.t 2))⟩, [], []⟩,
    ⟨⟨(some 7), none, [6], none, .q (.fad 0 (.t 6))⟩, [], [1]⟩,
    ⟨⟨(some 8), none, [7], none, .q (.ld false 1 (.t 7))⟩, [], [2, 1]⟩,
    ⟨⟨(some 9), none, [2], none, .q (.fad 0 (.t 2))⟩, [], []⟩,
    ⟨⟨(some 10), none, [9], none, .q (.fad 1 (.t 9))⟩, [], [4]⟩,
    ⟨⟨(some 11), none, [10], none, .q (.ld false 1 (.t 10))⟩, [], [5, 4]⟩,
    ⟨⟨(some 12), none, [5, 8, 11], none, .q (.call (.k (.fn 54 [])) [(.t 5), (.t 8), (.t 11)])⟩, [], [0, 3, 2, 1, 6, 5, 4]⟩,
    ⟨⟨(some 13), none, [12], none, .q (.mv (.t 12))⟩, [], [7, 0, 3, 2, 1, 6, 5, 4]⟩,
    ⟨⟨(some 14), (some (13, true)), [2], none, .q (.ld true 4 (.t 2))⟩, [], [8, 7, 0, 3, 2, 1, 6, 5, 4]⟩,
    ⟨⟨(some 15), (some (13, true)), [1], none, .q (.mv (.t 1))⟩, [], [8, 7, 0, 3, 2, 1, 6, 5, 4]⟩,
    ⟨⟨(some 16), (some (13, true)), [14, 15], none, .q (.call (.k (.fn 66 [])) [(.t 14), (.t 15)])⟩, [], [9, 8, 7, 0, 3, 2, 1, 6, 5, 4, 10]⟩,
    ⟨⟨(some 17), (some (13, true)), [2], none, .q (.fad 3 (.t 2))⟩, [], [8, 7, 0, 3, 2, 1, 6, 5, 4]⟩,
    ⟨⟨(some 18), (some (13, true)), [17], none, .q (.ld false 1 (.t 17))⟩, [], [12, 8, 7, 0, 3, 2, 1, 6, 5, 4]⟩,
    ⟨⟨(some 19), (some (13, true)), [16, 18], none, .q (.bin .leq (.t 16) (.t 18))⟩, [], [11, 9, 8, 7, 0, 3, 2, 1, 6, 5, 4, 10, 13, 12]⟩,
    ⟨⟨(some 20), none, [13, 19], none, .q (.pick (.t 13) (.t 19) (.k (.b false)))⟩, [], [8, 7, 0, 3, 2, 1, 6, 5, 4, 14, 11, 9, 10, 13, 12]⟩,
    ⟨⟨(some 4), none, [20], none, .q (.mv (.t 20))⟩, [], [15, 8, 7, 0, 3, 2, 1, 6, 5, 4, 14, 11, 9, 10, 13, 12]⟩])
  .ret)))
def pu49 : List Nat := [2]
def rs49 : List RV := [.t 4]
theorem cc49 : comp Try.prog pu49 (Try.f49.ntmps, 0) 0 1 rc49 (Try.f49.body.getD .skip) = some rc49 := by kernel_rfl
theorem cb49 : Try.f49.body = some (Try.f49.body.getD .skip) := by kernel_rfl
theorem cs49 : resRV Try.prog Try.f49.results.toList = some rs49 := by kernel_rfl
theorem cn49 : 2 ≤ Try.f49.ntmps := by decide
/- (*ferrule/cloth.tent).round: params [66, 3], free 0, slots 62 -/
def rc50 : RC :=
  (.seq (.reg false [⟨(some 4), none, [], none, .w (.alc [(.i 0), (.i 0)])⟩])
  (.keep [0, 1, 4] (.seq (.seq (.reg false [⟨(some 8), none, [0], none, .q (.mv (.t 0))⟩,
    ⟨(some 9), none, [8], none, .q (.nilc (.t 8))⟩,
    ⟨(some 10), none, [9], none, .q (.fad 0 (.t 9))⟩,
    ⟨(some 11), none, [10], none, .q (.fad 1 (.t 10))⟩,
    ⟨(some 12), none, [11], none, .q (.ld false 1 (.t 11))⟩,
    ⟨(some 13), none, [12], none, .q (.len (.t 12))⟩,
    ⟨(some 14), none, [], none, .q (.mv (.k (.i 0)))⟩])
  (.keep [0, 1, 4, 12, 13, 14] (.block 0 (.loop [0, 1, 4, 12, 13, 14] none (.seq (.reg false [⟨(some 15), none, [14, 13], none, .q (.bin .lss (.t 14) (.t 13))⟩])
  (.keep [0, 1, 4, 12, 13, 14, 15] (.seq (.cond (.t 15)
    .skip
    (.exit 0))
  (.keep [0, 1, 4, 12, 13, 14] (.seq (.block 1 (.seq (.reg false [⟨(some 16), none, [12, 14], none, .q (.iad 1 (.t 12) (.t 14))⟩,
    ⟨(some 17), none, [16], none, .q (.ld false 1 (.t 16))⟩,
    ⟨(some 6), none, [17], none, .q (.mv (.t 17))⟩])
  (.keep [0, 1, 4, 6, 12, 13, 14] (.seq (.reg false [⟨(some 18), none, [0], none, .q (.mv (.t 0))⟩,
    ⟨(some 19), none, [18], none, .q (.nilc (.t 18))⟩,
    ⟨(some 20), none, [19], none, .q (.fad 6 (.t 19))⟩,
    ⟨(some 21), none, [20], none, .q (.ld false 1 (.t 20))⟩,
    ⟨(some 22), none, [6], none, .q (.mv (.t 6))⟩,
    ⟨(some 23), none, [21, 22], none, .q (.iad 1 (.t 21) (.t 22))⟩,
    ⟨(some 24), none, [23], none, .q (.ld false 1 (.t 23))⟩,
    ⟨(some 7), none, [24], none, .q (.mv (.t 24))⟩])
  (.keep [0, 1, 4, 7, 12, 13, 14] (.seq (.any false 0 [⟨⟨(some 25), none, [4], none, .q (.fad 0 (.t 4))⟩, [], []⟩,
    ⟨⟨(some 26), none, [25], none, .q (.ld false 1 (.t 25))⟩, [], [0]⟩,
    ⟨⟨(some 27), none, [1], none, .q (.mv (.t 1))⟩, [], []⟩,
    ⟨⟨(some 28), none, [0], none, .q (.mv (.t 0))⟩, [], []⟩,
    ⟨⟨(some 29), none, [28], none, .q (.nilc (.t 28))⟩, [], [3]⟩,
    ⟨⟨(some 30), none, [29], none, .q (.fad 0 (.t 29))⟩, [], [4, 3]⟩,
    ⟨⟨(some 31), none, [30], none, .q (.fad 2 (.t 30))⟩, [], [5, 4, 3]⟩,
    ⟨⟨(some 32), none, [31], none, .q (.ld false 1 (.t 31))⟩, [], [6, 5, 4, 3]⟩,
    ⟨⟨(some 33), none, [32], none, .q (.bin .mul (.k (.i 2)) (.t 32))⟩, [], [7, 6, 5, 4, 3]⟩,
    ⟨⟨(some 34), none, [27, 33], none, .q (.bin .sub (.t 27) (.t 33))⟩, [], [2, 8, 7, 6, 5, 4, 3]⟩,
    ⟨⟨(some 35), none, [7], none, .q (.mv (.t 7))⟩, [], []⟩,
    ⟨⟨(some 36), none, [35], none, .q (.iad 1 (.t 35) (.k (.i 0)))⟩, [], [10]⟩,
    ⟨⟨(some 37), none, [36], none, .q (.ld false 1 (.t 36))⟩, [], [11, 10]⟩,
    ⟨⟨(some 38), none, [34, 37], none, .q (.call (.k (.fn 69 [])) [(.t 34), (.t 37)])⟩, [], [9, 2, 8, 7, 6, 5, 4, 3, 12, 11, 10]⟩,
    ⟨⟨(some 39), none, [26, 38], none, .q (.bin .add (.t 26) (.t 38))⟩, [], [1, 0, 13, 9, 2, 8, 7, 6, 5, 4, 3, 12, 11, 10]⟩,
    ⟨⟨(some 40), none, [4], none, .q (.fad 0 (.t 4))⟩, [], [0, 1, 2, 3, 4, 5, 6, 7, 8, 9, 10, 11, 12, 13, 14]⟩,
    ⟨⟨none, none, [40, 39], none, .w (.st 1 (.t 40) (.t 39))⟩, [], [15, 0, 1, 2, 3, 4, 5, 6, 7, 8, 9, 10, 11, 12, 13, 14]⟩])
  (.keep [0, 1, 4, 7, 12, 13, 14] (.any false 0 [⟨⟨(some 41), none, [4], none, .q (.fad 1 (.t 4))⟩, [], []⟩,
    ⟨⟨(some 42), none, [41], none, .q (.ld false 1 (.t 41))⟩, [], [0]⟩,
    ⟨⟨(some 43), none, [1], none, .q (.mv (.t 1))⟩, [], []⟩,
    ⟨⟨(some 44), none, [0], none, .q (.mv (.t 0))⟩, [], []⟩,
    ⟨⟨(some 45), none, [44], none, .q (.nilc (.t 44))⟩, [], [3]⟩,
    ⟨⟨(some 46), none, [45], none, .q (.fad 0 (.t 45))⟩, [], [4, 3]⟩,
    ⟨⟨(some 47), none, [46], none, .q (.fad 2 (.t 46))⟩, [], [5, 4, 3]⟩,
    ⟨⟨(some 48), none, [47], none, .q (.ld false 1 (.t 47))⟩, [], [6, 5, 4, 3]⟩,
    ⟨⟨(some 49), none, [48], none, .q (.bin .mul (.k (.i 2)) (.t 48))⟩, [], [7, 6, 5, 4, 3]⟩,
    ⟨⟨(some 50), none, [43, 49], none, .q (.bin .sub (.t 43) (.t 49))⟩, [], [2, 8, 7, 6, 5, 4, 3]⟩,
    ⟨⟨(some 51), none, [7], none, .q (.mv (.t 7))⟩, [], []⟩,
    ⟨⟨(some 52), none, [7], none, .q (.mv (.t 7))⟩, [], []⟩,
    ⟨⟨(some 53), none, [52], none, .q (.len (.t 52))⟩, [], [11]⟩,
    ⟨⟨(some 54), none, [53], none, .q (.bin .sub (.t 53) (.k (.i 1)))⟩, [], [12, 11]⟩,
    ⟨⟨(some 55), none, [51, 54], none, .q (.iad 1 (.t 51) (.t 54))⟩, [], [10, 13, 12, 11]⟩,
    ⟨⟨(some 56), none, [55], none, .q (.ld false 1 (.t 55))⟩, [], [14, 10, 13, 12, 11]⟩,
    ⟨⟨(some 57), none, [50, 56], none, .q (.call (.k (.fn 69 [])) [(.t 50), (.t 56)])⟩, [], [9, 2, 8, 7, 6, 5, 4, 3, 15, 14, 10, 13, 12, 11]⟩,
    ⟨⟨(some 58), none, [42, 57], none, .q (.bin .add (.t 42) (.t 57))⟩, [], [1, 0, 16, 9, 2, 8, 7, 6, 5, 4, 3, 15, 14, 10, 13, 12, 11]⟩,
    ⟨⟨(some 59), none, [4], none, .q (.fad 1 (.t 4))⟩, [], [0, 1, 2, 3, 4, 5, 6, 7, 8, 9, 10, 11, 12, 13, 14, 15, 16, 17]⟩,
    ⟨⟨none, none, [59, 58], none, .w (.st 1 (.t 59) (.t 58))⟩, [], [18, 0, 1, 2, 3, 4, 5, 6, 7, 8, 9, 10, 11, 12, 13, 14, 15, 16, 17]⟩]))))))))
  (.keep [0, 1, 4, 12, 13, 14] (.reg false [⟨(some 60), none, [14], none, .q (.bin .add (.t 14) (.k (.i 1)))⟩,
    ⟨(some 14), none, [60], none, .q (.mv (.t 60))⟩])))))))))))
  (.keep [4] (.seq (.reg false [⟨(some 61), none, [4], none, .q (.ld true 2 (.t 4))⟩,
    ⟨none, none, [4, 61], none, .w (.st 2 (.t 4) (.t 61))⟩])
  .ret)))))
def pu50 : List Nat := []
def rs50 : List RV := [.c 4 true 2]
theorem cc50 : comp Try.prog pu50 (Try.f50.ntmps, 0) 0 1 rc50 (Try.f50.body.getD .skip) = some rc50 := by kernel_rfl
theorem cb50 : Try.f50.body = some (Try.f50.body.getD .skip) := by kernel_rfl
theorem cs50 : resRV Try.prog Try.f50.results.toList = some rs50 := by kernel_rfl
theorem cn50 : 2 ≤ Try.f50.ntmps := by decide
/- ferrule/ferruleref02.known: params [26, 3, 3], free 0, slots 37 -/
def rc51 : RC :=
  (.seq (.reg false [⟨(some 3), none, [0], none, .q (.box (.t 0))⟩,
    ⟨(some 6), none, [], none, .q (.mv (.k (.z 1)))⟩,
    ⟨(some 7), none, [], none, .q (.mv (.k (.i 0)))⟩])
  (.keep [1, 2, 3] (.seq (.seq (.reg false [⟨(some 10), none, [3], none, .q (.ld true 6 (.t 3))⟩,
    ⟨(some 11), none, [10], none, .q (.call (.k (.fn 39 [])) [(.t 10)])⟩,
    ⟨(some 8), none, [11], none, .q (.mv (.t 11))⟩])
  (.keep [1, 2, 3, 8] (.seq (.reg false [⟨(some 12), none, [8], none, .q (.mv (.t 8))⟩,
    ⟨(some 13), none, [12], none, .q (.bin .neq (.t 12) (.k (.i 0)))⟩])
  (.keep [1, 2, 3, 8, 13] (.cond (.t 13)
    (.seq (.reg false [⟨(some 14), none, [8], none, .q (.mv (.t 8))⟩,
      ⟨(some 6), none, [], none, .q (.mv (.k (.z 1)))⟩,
      ⟨(some 7), none, [14], none, .q (.mv (.t 14))⟩])
    .ret)
    .skip)))))
  (.keep [1, 2, 3] (.seq (.seq (.reg true [⟨(some 15), none, [1], none, .q (.mv (.t 1))⟩,
    ⟨(some 16), none, [3], none, .q (.fad 0 (.t 3))⟩,
    ⟨(some 17), none, [16], none, .q (.ld false 1 (.t 16))⟩,
    ⟨(some 18), none, [17], none, .q (.len (.t 17))⟩,
    ⟨(some 19), none, [18], none, .q (.bin .sub (.t 18) (.k (.i 1)))⟩,
    ⟨(some 20), none, [15, 19], none, .q (.call (.k (.fn 54 [])) [(.t 15), (.k (.i 0)), (.t 19)])⟩,
    ⟨(some 21), none, [20], none, .q (.not (.t 20))⟩,
    ⟨(some 22), none, [21], none, .q (.mv (.t 21))⟩,
    ⟨(some 23), (some (22, false)), [2], none, .q (.mv (.t 2))⟩,
    ⟨(some 24), (some (22, false)), [3], none, .q (.fad 3 (.t 3))⟩,
    ⟨(some 25), (some (22, false)), [24], none, .q (.ld false 1 (.t 24))⟩,
    ⟨(some 26), (some (22, false)), [25], none, .q (.len (.t 25))⟩,
    ⟨(some 27), (some (22, false)), [26], none, .q (.bin .sub (.t 26) (.k (.i 1)))⟩,
    ⟨(some 28), (some (22, false)), [23, 27], none, .q (.call (.k (.fn 54 [])) [(.t 23), (.k (.i 0)), (.t 27)])⟩,
    ⟨(some 29), (some (22, false)), [28], none, .q (.not (.t 28))⟩,
    ⟨(some 30), none, [22, 29], none, .q (.pick (.t 22) (.k (.b true)) (.t 29))⟩])
  (.keep [3, 30] (.cond (.t 30)
    (.seq (.reg false [⟨(some 6), none, [], none, .q (.mv (.k (.z 1)))⟩,
      ⟨(some 7), none, [], none, .q (.mv (.k (.i 1)))⟩])
    .ret)
    .skip)))
  (.keep [3] (.seq (.reg false [⟨(some 31), none, [3], none, .q (.ld true 6 (.t 3))⟩,
    ⟨(some 32), none, [31], none, .q (.call (.k (.fn 55 [])) [(.t 31), (.k (.z 1))])⟩,
    ⟨(some 9), none, [32], none, .q (.mv (.t 32))⟩])
  (.keep [9] (.seq (.seq (.reg false [⟨(some 33), none, [9], none, .q (.mv (.t 9))⟩,
    ⟨(some 34), none, [33], none, .q (.len (.t 33))⟩,
    ⟨(some 35), none, [34], none, .q (.bin .eql (.t 34) (.k (.i 0)))⟩])
  (.keep [9, 35] (.cond (.t 35)
    (.seq (.reg false [⟨(some 6), none, [], none, .q (.mv (.k (.z 1)))⟩,
      ⟨(some 7), none, [], none, .q (.mv (.k (.i 3)))⟩])
    .ret)
    .skip)))
  (.keep [9] (.seq (.reg false [⟨(some 36), none, [9], none, .q (.mv (.t 9))⟩,
    ⟨(some 6), none, [36], none, .q (.mv (.t 36))⟩,
    ⟨(some 7), none, [], none, .q (.mv (.k (.i 0)))⟩])
  .ret)))))))))))
def pu51 : List Nat := [3]
def rs51 : List RV := [.t 6, .t 7]
theorem cc51 : comp Try.prog pu51 (Try.f51.ntmps, 0) 0 1 rc51 (Try.f51.body.getD .skip) = some rc51 := by kernel_rfl
theorem cb51 : Try.f51.body = some (Try.f51.body.getD .skip) := by kernel_rfl
theorem cs51 : resRV Try.prog Try.f51.results.toList = some rs51 := by kernel_rfl
theorem cn51 : 3 ≤ Try.f51.ntmps := by decide
/- ferrule/ferruleref02.tight: params [26, 74, 3, 3], free 0, slots 40 -/
def rc52 : RC :=
  (.seq (.reg false [⟨(some 4), none, [0], none, .q (.box (.t 0))⟩,
    ⟨(some 8), none, [], none, .q (.mv (.k (.i 0)))⟩])
  (.keep [1, 2, 3, 4] (.seq (.reg false [⟨(some 9), none, [], none, .q (.mv (.k (.i 0)))⟩])
  (.keep [1, 2, 3, 4, 9] (.seq (.seq (.reg false [⟨(some 10), none, [], none, .q (.mv (.k (.i 0)))⟩])
  (.keep [1, 2, 3, 4, 9, 10] (.block 0 (.loop [1, 2, 3, 4, 9, 10] none (.seq (.seq (.reg false [⟨(some 11), none, [10], none, .q (.mv (.t 10))⟩,
    ⟨(some 12), none, [1], none, .q (.mv (.t 1))⟩,
    ⟨(some 13), none, [12], none, .q (.len (.t 12))⟩,
    ⟨(some 14), none, [11, 13], none, .q (.bin .lss (.t 11) (.t 13))⟩])
  (.keep [1, 2, 3, 4, 9, 10, 14] (.cond (.t 14)
    .skip
    (.exit 0))))
  (.keep [1, 2, 3, 4, 9, 10] (.seq (.block 1 (.seq (.any false 0 [⟨⟨(some 17), none, [4], none, .q (.ld true 6 (.t 4))⟩, [], []⟩,
    ⟨⟨(some 18), none, [3], none, .q (.mv (.t 3))⟩, [], []⟩,
    ⟨⟨(some 19), none, [1], none, .q (.mv (.t 1))⟩, [], []⟩,
    ⟨⟨(some 20), none, [10], none, .q (.mv (.t 10))⟩, [], []⟩,
    ⟨⟨(some 21), none, [19, 20], none, .q (.iad 1 (.t 19) (.t 20))⟩, [], [2, 3]⟩,
    ⟨⟨(some 22), none, [21], none, .q (.ld false 1 (.t 21))⟩, [], [4, 2, 3]⟩,
    ⟨⟨(some 23), none, [17, 18, 22], none, .q (.call (.k (.fn 38 [])) [(.t 17), (.t 18), (.t 22)])⟩, [], [0, 1, 5, 4, 2, 3]⟩,
    ⟨⟨(some 24), none, [4], none, .q (.fad 3 (.t 4))⟩, [], []⟩,
    ⟨⟨(some 25), none, [24], none, .q (.ld false 1 (.t 24))⟩, [], [7]⟩,
    ⟨⟨(some 26), none, [2], none, .q (.mv (.t 2))⟩, [], []⟩,
    ⟨⟨(some 27), none, [25, 26], none, .q (.iad 2 (.t 25) (.t 26))⟩, [], [8, 7, 9]⟩,
    ⟨⟨(some 28), none, [27], none, .q (.fad 0 (.t 27))⟩, [], [10, 8, 7, 9]⟩,
    ⟨⟨(some 29), none, [28], none, .q (.ld false 1 (.t 28))⟩, [], [11, 10, 8, 7, 9]⟩,
    ⟨⟨(some 30), none, [4], none, .q (.fad 3 (.t 4))⟩, [], []⟩,
    ⟨⟨(some 31), none, [30], none, .q (.ld false 1 (.t 30))⟩, [], [13]⟩,
    ⟨⟨(some 32), none, [2], none, .q (.mv (.t 2))⟩, [], []⟩,
    ⟨⟨(some 33), none, [31, 32], none, .q (.iad 2 (.t 31) (.t 32))⟩, [], [14, 13, 15]⟩,
    ⟨⟨(some 34), none, [33], none, .q (.fad 1 (.t 33))⟩, [], [16, 14, 13, 15]⟩,
    ⟨⟨(some 35), none, [34], none, .q (.ld false 1 (.t 34))⟩, [], [17, 16, 14, 13, 15]⟩,
    ⟨⟨(some 36), none, [23, 29, 35], none, .q (.call (.k (.fn 54 [])) [(.t 23), (.t 29), (.t 35)])⟩, [], [6, 0, 1, 5, 4, 2, 3, 12, 11, 10, 8, 7, 9, 18, 17, 16, 14, 13, 15]⟩])
  (.keep [1, 2, 3, 4, 9, 10, 36] (.cond (.t 36)
    (.reg false [⟨(some 37), none, [9], none, .q (.mv (.t 9))⟩,
      ⟨(some 38), none, [37], none, .q (.bin .add (.t 37) (.k (.i 1)))⟩,
      ⟨(some 9), none, [38], none, .q (.mv (.t 38))⟩])
    .skip))))
  (.keep [1, 2, 3, 4, 9, 10] (.reg false [⟨(some 15), none, [10], none, .q (.mv (.t 10))⟩,
    ⟨(some 16), none, [15], none, .q (.bin .add (.t 15) (.k (.i 1)))⟩,
    ⟨(some 10), none, [16], none, .q (.mv (.t 16))⟩])))))))))
  (.keep [9] (.seq (.reg false [⟨(some 39), none, [9], none, .q (.mv (.t 9))⟩,
    ⟨(some 8), none, [39], none, .q (.mv (.t 39))⟩])
  .ret)))))))
def pu52 : List Nat := [4]
def rs52 : List RV := [.t 8]
theorem cc52 : comp Try.prog pu52 (Try.f52.ntmps, 0) 0 1 rc52 (Try.f52.body.getD .skip) = some rc52 := by kernel_rfl
theorem cb52 : Try.f52.body = some (Try.f52.body.getD .skip) := by kernel_rfl
theorem cs52 : resRV Try.prog Try.f52.results.toList = some rs52 := by kernel_rfl
theorem cn52 : 4 ≤ Try.f52.ntmps := by decide
/- ferrule/ferruleref02.cut: params [26, 74, 3], free 0, slots 35 -/
def rc53 : RC :=
  (.seq (.reg false [⟨(some 3), none, [0], none, .q (.box (.t 0))⟩,
    ⟨(some 6), none, [], none, .w (.alc [(.i 0), (.i 0)])⟩,
    ⟨(some 7), none, [], none, .q (.mv (.k (.b false)))⟩])
  (.keep [1, 2, 3, 6] (.seq (.reg false [⟨(some 11), none, [], none, .q (.bld [(.i 0), (.i 0)] [])⟩,
    ⟨(some 8), none, [], none, .w (.alc [(.i 0), (.i 0)])⟩,
    ⟨none, none, [8, 11], none, .w (.st 2 (.t 8) (.t 11))⟩,
    ⟨(some 9), none, [], none, .q (.mv (.k (.b false)))⟩])
  (.keep [1, 2, 3, 6, 8, 9] (.seq (.seq (.reg false [⟨(some 12), none, [3], none, .q (.fad 2 (.t 3))⟩,
    ⟨(some 13), none, [12], none, .q (.ld false 1 (.t 12))⟩,
    ⟨(some 14), none, [13], none, .q (.bin .mul (.k (.i 2)) (.t 13))⟩,
    ⟨(some 10), none, [14], none, .q (.mv (.t 14))⟩])
  (.keep [1, 2, 3, 6, 8, 9, 10] (.block 0 (.loop [1, 2, 3, 6, 8, 9, 10] none (.seq (.seq (.reg false [⟨(some 15), none, [10], none, .q (.mv (.t 10))⟩,
    ⟨(some 16), none, [15], none, .q (.bin .leq (.t 15) (.k (.i 2000)))⟩])
  (.keep [1, 2, 3, 6, 8, 9, 10, 16] (.cond (.t 16)
    .skip
    (.exit 0))))
  (.keep [1, 2, 3, 6, 8, 9, 10] (.seq (.block 1 (.seq (.seq (.reg false [⟨(some 19), none, [3], none, .q (.ld true 6 (.t 3))⟩,
    ⟨(some 20), none, [1], none, .q (.mv (.t 1))⟩,
    ⟨(some 21), none, [2], none, .q (.mv (.t 2))⟩,
    ⟨(some 22), none, [10], none, .q (.mv (.t 10))⟩,
    ⟨(some 23), none, [19, 20, 21, 22], none, .q (.call (.k (.fn 52 [])) [(.t 19), (.t 20), (.t 21), (.t 22)])⟩,
    ⟨(some 24), none, [1], none, .q (.mv (.t 1))⟩,
    ⟨(some 25), none, [24], none, .q (.len (.t 24))⟩,
    ⟨(some 26), none, [23, 25], none, .q (.bin .lss (.t 23) (.t 25))⟩])
  (.keep [1, 2, 3, 6, 8, 9, 10, 26] (.cond (.t 26)
    (.exit 1)
    .skip)))
  (.keep [1, 2, 3, 6, 8, 9, 10] (.seq (.seq (.reg false [⟨(some 27), none, [9], none, .q (.mv (.t 9))⟩,
    ⟨(some 28), none, [27], none, .q (.not (.t 27))⟩])
  (.keep [1, 2, 3, 6, 8, 10, 28] (.cond (.t 28)
    (.reg false [⟨(some 29), none, [10], none, .q (.mv (.t 10))⟩,
      ⟨(some 30), none, [8], none, .q (.fad 0 (.t 8))⟩,
      ⟨none, none, [30, 29], none, .w (.st 1 (.t 30) (.t 29))⟩])
    .skip)))
  (.keep [1, 2, 3, 6, 8, 10] (.reg false [⟨(some 31), none, [10], none, .q (.mv (.t 10))⟩,
    ⟨(some 32), none, [8], none, .q (.fad 1 (.t 8))⟩,
    ⟨none, none, [32, 31], none, .w (.st 1 (.t 32) (.t 31))⟩,
    ⟨(some 9), none, [], none, .q (.mv (.k (.b true)))⟩]))))))
  (.keep [1, 2, 3, 6, 8, 9, 10] (.reg false [⟨(some 17), none, [10], none, .q (.mv (.t 10))⟩,
    ⟨(some 18), none, [17], none, .q (.bin .add (.t 17) (.k (.i 1)))⟩,
    ⟨(some 10), none, [18], none, .q (.mv (.t 18))⟩])))))))))
  (.keep [6, 8, 9] (.seq (.reg false [⟨(some 33), none, [8], none, .q (.ld true 2 (.t 8))⟩,
    ⟨(some 34), none, [9], none, .q (.mv (.t 9))⟩,
    ⟨none, none, [6, 33], none, .w (.st 2 (.t 6) (.t 33))⟩,
    ⟨(some 7), none, [34], none, .q (.mv (.t 34))⟩])
  .ret)))))))
def pu53 : List Nat := [3]
def rs53 : List RV := [.c 6 true 2, .t 7]
theorem cc53 : comp Try.prog pu53 (Try.f53.ntmps, 0) 0 1 rc53 (Try.f53.body.getD .skip) = some rc53 := by kernel_rfl
theorem cb53 : Try.f53.body = some (Try.f53.body.getD .skip) := by kernel_rfl
theorem cs53 : resRV Try.prog Try.f53.results.toList = some rs53 := by kernel_rfl
theorem cn53 : 3 ≤ Try.f53.ntmps := by decide
/- ferrule/ferruleref02.within: params [3, 3, 3], free 0, slots 15 -/
def rc54 : RC :=
  (.seq (.reg false [⟨(some 6), none, [], none, .q (.mv (.k (.b false)))⟩])
  (.keep [0, 1, 2] (.seq (.reg true [⟨(some 7), none, [0], none, .q (.mv (.t 0))⟩,
    ⟨(some 8), none, [1], none, .q (.mv (.t 1))⟩,
    ⟨(some 9), none, [7, 8], none, .q (.bin .geq (.t 7) (.t 8))⟩,
    ⟨(some 10), none, [9], none, .q (.mv (.t 9))⟩,
    ⟨(some 11), (some (10, true)), [0], none, .q (.mv (.t 0))⟩,
    ⟨(some 12), (some (10, true)), [2], none, .q (.mv (.t 2))⟩,
    ⟨(some 13), (some (10, true)), [11, 12], none, .q (.bin .leq (.t 11) (.t 12))⟩,
    ⟨(some 14), none, [10, 13], none, .q (.pick (.t 10) (.t 13) (.k (.b false)))⟩,
    ⟨(some 6), none, [14], none, .q (.mv (.t 14))⟩])
  .ret)))
def pu54 : List Nat := []
def rs54 : List RV := [.t 6]
theorem cc54 : comp Try.prog pu54 (Try.f54.ntmps, 0) 0 1 rc54 (Try.f54.body.getD .skip) = some rc54 := by kernel_rfl
theorem cb54 : Try.f54.body = some (Try.f54.body.getD .skip) := by kernel_rfl
theorem cs54 : resRV Try.prog Try.f54.results.toList = some rs54 := by kernel_rfl
theorem cn54 : 3 ≤ Try.f54.ntmps := by decide
/- ferrule/ferruleref02.truths: params [26, 23], free 0, slots 43 -/
def rc55 : RC :=
  (.seq (.reg false [⟨(some 2), none, [0], none, .q (.box (.t 0))⟩,
    ⟨(some 4), none, [], none, .q (.mv (.k (.z 1)))⟩])
  (.keep [1, 2] (.seq (.seq (.reg false [⟨(some 8), none, [1], none, .q (.mv (.t 1))⟩,
    ⟨(some 9), none, [8], none, .q (.len (.t 8))⟩,
    ⟨(some 10), none, [2], none, .q (.fad 0 (.t 2))⟩,
    ⟨(some 11), none, [10], none, .q (.ld false 1 (.t 10))⟩,
    ⟨(some 12), none, [11], none, .q (.len (.t 11))⟩,
    ⟨(some 13), none, [9, 12], none, .q (.bin .eql (.t 9) (.t 12))⟩])
  (.keep [1, 2, 13] (.cond (.t 13)
    (.seq (.reg false [⟨(some 14), none, [1], none, .q (.mv (.t 1))⟩,
      ⟨(some 15), none, [14], none, .q (.bsl 1 1 [(.z 1)] [(0, 1, (.t 14))])⟩,
      ⟨(some 4), none, [15], none, .q (.mv (.t 15))⟩])
    .ret)
    .skip)))
  (.keep [1, 2] (.seq (.reg false [⟨(some 5), none, [], none, .q (.mv (.k (.z 1)))⟩])
  (.keep [1, 2, 5] (.seq (.reg false [⟨(some 16), none, [2], none, .q (.fad 0 (.t 2))⟩,
    ⟨(some 17), none, [16], none, .q (.ld false 1 (.t 16))⟩,
    ⟨(some 18), none, [1], none, .q (.mv (.t 1))⟩,
    ⟨(some 19), none, [18], none, .q (.len (.t 18))⟩,
    ⟨(some 20), none, [17, 19], none, .q (.iad 4 (.t 17) (.t 19))⟩,
    ⟨(some 21), none, [20], none, .q (.ld true 4 (.t 20))⟩,
    ⟨(some 22), none, [21], none, .q (.call (.k (.fn 65 [])) [(.t 21)])⟩,
    ⟨(some 6), none, [22], none, .q (.mv (.t 22))⟩])
  (.keep [1, 2, 5, 6] (.seq (.seq (.reg false [⟨(some 7), none, [], none, .q (.mv (.k (.i 0)))⟩])
  (.keep [1, 2, 5, 6, 7] (.block 0 (.own 5 1 (.loop [1, 2, 5, 6, 7] (some 1) (.seq (.seq (.reg false [⟨(some 23), none, [7], none, .q (.mv (.t 7))⟩,
    ⟨(some 24), none, [6], none, .q (.mv (.t 6))⟩,
    ⟨(some 25), none, [24], none, .q (.len (.t 24))⟩,
    ⟨(some 26), none, [23, 25], none, .q (.bin .lss (.t 23) (.t 25))⟩])
  (.keep [1, 2, 5, 6, 7, 26] (.cond (.t 26)
    .skip
    (.exit 0))))
  (.keep [1, 2, 5, 6, 7] (.seq (.block 1 (.any false 4 [⟨⟨(some 29), none, [5], none, .q (.mv (.t 5))⟩, [], []⟩,
    ⟨⟨(some 30), none, [2], none, .q (.ld true 6 (.t 2))⟩, [], []⟩,
    ⟨⟨(some 31), none, [], (some 0), .w (.bso 1 0 [(.i 0)] [])⟩, [0, 1], []⟩,
    ⟨⟨(some 32), none, [1], none, .q (.mv (.t 1))⟩, [2], []⟩,
    ⟨⟨(some 33), none, [31, 32], (some 1), .w (.app 1 (.t 31) (.t 32))⟩, [0, 1], [2, 3]⟩,
    ⟨⟨(some 34), none, [6], none, .q (.mv (.t 6))⟩, [2, 4], []⟩,
    ⟨⟨(some 35), none, [7], none, .q (.mv (.t 7))⟩, [2, 4], []⟩,
    ⟨⟨(some 36), none, [34, 35], none, .q (.iad 1 (.t 34) (.t 35))⟩, [2, 4], [5, 6]⟩,
    ⟨⟨(some 37), none, [36], none, .q (.ld false 1 (.t 36))⟩, [2, 4], [7, 5, 6]⟩,
    ⟨⟨(some 38), none, [37], none, .q (.bsl 1 1 [(.i 0)] [(0, 1, (.t 37))])⟩, [2, 4], [8, 7, 5, 6]⟩,
    ⟨⟨(some 39), none, [33, 38], (some 2), .w (.app 1 (.t 33) (.t 38))⟩, [0, 1], [4, 2, 3, 9, 8, 7, 5, 6]⟩,
    ⟨⟨(some 40), none, [30, 39], none, .o (.k (.fn 55 [])) [(.t 30), (.t 39)]⟩, [0], [1, 10, 4, 2, 3, 9, 8, 7, 5, 6]⟩,
    ⟨⟨(some 41), none, [29, 40], (some 3), .w (.app 1 (.t 29) (.t 40))⟩, [], [0, 11, 1, 10, 4, 2, 3, 9, 8, 7, 5, 6]⟩,
    ⟨⟨(some 5), none, [41], none, .q (.mv (.t 41))⟩, [], [12, 0, 11, 1, 10, 4, 2, 3, 9, 8, 7, 5, 6]⟩]))
  (.drp 1 (.keep [1, 2, 5, 6, 7] (.reg false [⟨(some 27), none, [7], none, .q (.mv (.t 7))⟩,
    ⟨(some 28), none, [27], none, .q (.bin .add (.t 27) (.k (.i 1)))⟩,
    ⟨(some 7), none, [28], none, .q (.mv (.t 28))⟩])))))))))))
  (.keep [5] (.seq (.reg false [⟨(some 42), none, [5], none, .q (.mv (.t 5))⟩,
    ⟨(some 4), none, [42], none, .q (.mv (.t 42))⟩])
  .ret)))))))))))
def pu55 : List Nat := [1000040, 2, 15, 38]
def rs55 : List RV := [.t 4]
theorem cc55 : comp Try.prog pu55 (Try.f55.ntmps, 0) 0 1 rc55 (Try.f55.body.getD .skip) = some rc55 := by kernel_rfl
theorem cb55 : Try.f55.body = some (Try.f55.body.getD .skip) := by kernel_rfl
theorem cs55 : resRV Try.prog Try.f55.results.toList = some rs55 := by kernel_rfl
theorem cn55 : 2 ≤ Try.f55.ntmps := by decide
/- ferrule/cloth.isBoltOf: params [26, 3], free 0, slots 11 -/
def rc56 : RC :=
  (.seq (.reg false [⟨(some 2), none, [0], none, .q (.box (.t 0))⟩,
    ⟨(some 4), none, [], none, .q (.mv (.k (.b false)))⟩])
  (.keep [1, 2] (.seq (.reg false [⟨(some 5), none, [1], none, .q (.mv (.t 1))⟩,
    ⟨(some 6), none, [2], none, .q (.fad 0 (.t 2))⟩,
    ⟨(some 7), none, [6], none, .q (.ld false 1 (.t 6))⟩,
    ⟨(some 8), none, [7], none, .q (.len (.t 7))⟩,
    ⟨(some 9), none, [8], none, .q (.bin .sub (.t 8) (.k (.i 1)))⟩,
    ⟨(some 10), none, [5, 9], none, .q (.call (.k (.fn 67 [])) [(.t 5), (.k (.i 0)), (.t 9)])⟩,
    ⟨(some 4), none, [10], none, .q (.mv (.t 10))⟩])
  .ret)))
def pu56 : List Nat := [2]
def rs56 : List RV := [.t 4]
theorem cc56 : comp Try.prog pu56 (Try.f56.ntmps, 0) 0 1 rc56 (Try.f56.body.getD .skip) = some rc56 := by kernel_rfl
theorem cb56 : Try.f56.body = some (Try.f56.body.getD .skip) := by kernel_rfl
theorem cs56 : resRV Try.prog Try.f56.results.toList = some rs56 := by kernel_rfl
theorem cn56 : 2 ≤ Try.f56.ntmps := by decide
/- ferrule/ferruleref02.Pull: params [3, 3], free 0, slots 10 -/
def rc57 : RC :=
  (.seq (.reg false [⟨(some 4), none, [], none, .q (.mv (.k (.i 0)))⟩])
  (.keep [0, 1] (.seq (.reg false [⟨(some 5), none, [0], none, .q (.mv (.t 0))⟩,
    ⟨(some 6), none, [1], none, .q (.mv (.t 1))⟩,
    ⟨(some 7), none, [6], none, .q (.bin .add (.k (.i 1000)) (.t 6))⟩,
    ⟨(some 8), none, [5, 7], none, .q (.bin .mul (.t 5) (.t 7))⟩,
    ⟨(some 9), none, [8], none, .q (.bin .quo (.t 8) (.k (.i 1000)))⟩,
    ⟨(some 4), none, [9], none, .q (.mv (.t 9))⟩])
  .ret)))
def pu57 : List Nat := []
def rs57 : List RV := [.t 4]
theorem cc57 : comp Try.prog pu57 (Try.f57.ntmps, 0) 0 1 rc57 (Try.f57.body.getD .skip) = some rc57 := by kernel_rfl
theorem cb57 : Try.f57.body = some (Try.f57.body.getD .skip) := by kernel_rfl
theorem cs57 : resRV Try.prog Try.f57.results.toList = some rs57 := by kernel_rfl
theorem cn57 : 2 ≤ Try.f57.ntmps := by decide
/- ferrule/ferruleref02.isSpan: params [34, 3], free 0, slots 21 -/
def rc58 : RC :=
  (.seq (.reg false [⟨(some 2), none, [0], none, .q (.box (.t 0))⟩,
    ⟨(some 4), none, [], none, .q (.mv (.k (.b false)))⟩])
  (.keep [1, 2] (.seq (.reg true [⟨(some 5), none, [2], none, .q (.fad 0 (.t 2))⟩,
    ⟨(some 6), none, [5], none, .q (.ld false 1 (.t 5))⟩,
    ⟨(some 7), none, [6], none, .q (.bin .leq (.k (.i 0)) (.t 6))⟩,
    ⟨(some 8), none, [7], none, .q (.mv (.t 7))⟩,
    ⟨(some 9), (some (8, true)), [2], none, .q (.fad 0 (.t 2))⟩,
    ⟨(some 10), (some (8, true)), [9], none, .q (.ld false 1 (.t 9))⟩,
    ⟨(some 11), (some (8, true)), [2], none, .q (.fad 1 (.t 2))⟩,
    ⟨(some 12), (some (8, true)), [11], none, .q (.ld false 1 (.t 11))⟩,
    ⟨(some 13), (some (8, true)), [10, 12], none, .q (.bin .leq (.t 10) (.t 12))⟩,
    ⟨(some 14), none, [8, 13], none, .q (.pick (.t 8) (.t 13) (.k (.b false)))⟩,
    ⟨(some 15), none, [14], none, .q (.mv (.t 14))⟩,
    ⟨(some 16), (some (15, true)), [2], none, .q (.fad 1 (.t 2))⟩,
    ⟨(some 17), (some (15, true)), [16], none, .q (.ld false 1 (.t 16))⟩,
    ⟨(some 18), (some (15, true)), [1], none, .q (.mv (.t 1))⟩,
    ⟨(some 19), (some (15, true)), [17, 18], none, .q (.bin .leq (.t 17) (.t 18))⟩,
    ⟨(some 20), none, [15, 19], none, .q (.pick (.t 15) (.t 19) (.k (.b false)))⟩,
    ⟨(some 4), none, [20], none, .q (.mv (.t 20))⟩])
  .ret)))
def pu58 : List Nat := [2]
def rs58 : List RV := [.t 4]
theorem cc58 : comp Try.prog pu58 (Try.f58.ntmps, 0) 0 1 rc58 (Try.f58.body.getD .skip) = some rc58 := by kernel_rfl
theorem cb58 : Try.f58.body = some (Try.f58.body.getD .skip) := by kernel_rfl
theorem cs58 : resRV Try.prog Try.f58.results.toList = some rs58 := by kernel_rfl
theorem cn58 : 2 ≤ Try.f58.ntmps := by decide
/- ferrule/ferruleref02.isBolt: params [57], free 0, slots 45 -/
def rc59 : RC :=
  (.seq (.reg false [⟨(some 1), none, [0], none, .q (.box (.t 0))⟩,
    ⟨(some 2), none, [], none, .q (.mv (.k (.b false)))⟩])
  (.keep [1] (.seq (.seq (.reg true [⟨(some 4), none, [1], none, .q (.fad 0 (.t 1))⟩,
    ⟨(some 5), none, [4], none, .q (.ld true 2 (.t 4))⟩,
    ⟨(some 6), none, [5], none, .q (.call (.k (.fn 58 [])) [(.t 5), (.k (.i 60))])⟩,
    ⟨(some 7), none, [6], none, .q (.not (.t 6))⟩,
    ⟨(some 8), none, [7], none, .q (.mv (.t 7))⟩,
    ⟨(some 9), (some (8, false)), [1], none, .q (.fad 2 (.t 1))⟩,
    ⟨(some 10), (some (8, false)), [9], none, .q (.ld false 1 (.t 9))⟩,
    ⟨(some 11), (some (8, false)), [10], none, .q (.len (.t 10))⟩,
    ⟨(some 12), (some (8, false)), [11], none, .q (.bin .gtr (.t 11) (.k (.i 8)))⟩,
    ⟨(some 13), none, [8, 12], none, .q (.pick (.t 8) (.k (.b true)) (.t 12))⟩,
    ⟨(some 14), none, [13], none, .q (.mv (.t 13))⟩,
    ⟨(some 15), (some (14, false)), [1], none, .q (.fad 3 (.t 1))⟩,
    ⟨(some 16), (some (14, false)), [15], none, .q (.ld false 1 (.t 15))⟩,
    ⟨(some 17), (some (14, false)), [16], none, .q (.call (.k (.fn 54 [])) [(.t 16), (.k (.i 0)), (.k (.i 2))])⟩,
    ⟨(some 18), (some (14, false)), [17], none, .q (.not (.t 17))⟩,
    ⟨(some 19), none, [14, 18], none, .q (.pick (.t 14) (.k (.b true)) (.t 18))⟩])
  (.keep [1, 19] (.cond (.t 19)
    (.seq (.reg false [⟨(some 2), none, [], none, .q (.mv (.k (.b false)))⟩])
    .ret)
    .skip)))
  (.keep [1] (.seq (.seq (.reg false [⟨(some 3), none, [], none, .q (.mv (.k (.i 0)))⟩])
  (.keep [1, 3] (.block 0 (.loop [1, 3] none (.seq (.seq (.reg false [⟨(some 20), none, [3], none, .q (.mv (.t 3))⟩,
    ⟨(some 21), none, [1], none, .q (.fad 2 (.t 1))⟩,
    ⟨(some 22), none, [21], none, .q (.ld false 1 (.t 21))⟩,
    ⟨(some 23), none, [22], none, .q (.len (.t 22))⟩,
    ⟨(some 24), none, [20, 23], none, .q (.bin .lss (.t 20) (.t 23))⟩])
  (.keep [1, 3, 24] (.cond (.t 24)
    .skip
    (.exit 0))))
  (.keep [1, 3] (.seq (.block 1 (.seq (.reg true [⟨(some 27), none, [1], none, .q (.fad 2 (.t 1))⟩,
    ⟨(some 28), none, [27], none, .q (.ld false 1 (.t 27))⟩,
    ⟨(some 29), none, [3], none, .q (.mv (.t 3))⟩,
    ⟨(some 30), none, [28, 29], none, .q (.iad 3 (.t 28) (.t 29))⟩,
    ⟨(some 31), none, [30], none, .q (.fad 0 (.t 30))⟩,
    ⟨(some 32), none, [31], none, .q (.ld false 1 (.t 31))⟩,
    ⟨(some 33), none, [32], none, .q (.call (.k (.fn 54 [])) [(.t 32), (.k (.i 1)), (.k (.i 2000))])⟩,
    ⟨(some 34), none, [33], none, .q (.not (.t 33))⟩,
    ⟨(some 35), none, [34], none, .q (.mv (.t 34))⟩,
    ⟨(some 36), (some (35, false)), [1], none, .q (.fad 2 (.t 1))⟩,
    ⟨(some 37), (some (35, false)), [36], none, .q (.ld false 1 (.t 36))⟩,
    ⟨(some 38), (some (35, false)), [3], none, .q (.mv (.t 3))⟩,
    ⟨(some 39), (some (35, false)), [37, 38], none, .q (.iad 3 (.t 37) (.t 38))⟩,
    ⟨(some 40), (some (35, false)), [39], none, .q (.fad 1 (.t 39))⟩,
    ⟨(some 41), (some (35, false)), [40], none, .q (.ld true 2 (.t 40))⟩,
    ⟨(some 42), (some (35, false)), [41], none, .q (.call (.k (.fn 58 [])) [(.t 41), (.k (.i 4000))])⟩,
    ⟨(some 43), (some (35, false)), [42], none, .q (.not (.t 42))⟩,
    ⟨(some 44), none, [35, 43], none, .q (.pick (.t 35) (.k (.b true)) (.t 43))⟩])
  (.keep [1, 3, 44] (.cond (.t 44)
    (.seq (.reg false [⟨(some 2), none, [], none, .q (.mv (.k (.b false)))⟩])
    .ret)
    .skip))))
  (.keep [1, 3] (.reg false [⟨(some 25), none, [3], none, .q (.mv (.t 3))⟩,
    ⟨(some 26), none, [25], none, .q (.bin .add (.t 25) (.k (.i 1)))⟩,
    ⟨(some 3), none, [26], none, .q (.mv (.t 26))⟩])))))))))
  (.keep [] (.seq (.reg false [⟨(some 2), none, [], none, .q (.mv (.k (.b true)))⟩])
  .ret)))))))
def pu59 : List Nat := [1]
def rs59 : List RV := [.t 2]
theorem cc59 : comp Try.prog pu59 (Try.f59.ntmps, 0) 0 1 rc59 (Try.f59.body.getD .skip) = some rc59 := by kernel_rfl
theorem cb59 : Try.f59.body = some (Try.f59.body.getD .skip) := by kernel_rfl
theorem cs59 : resRV Try.prog Try.f59.results.toList = some rs59 := by kernel_rfl
theorem cn59 : 1 ≤ Try.f59.ntmps := by decide
/- ferrule/cloth.numbers: params [57], free 0, slots 4 -/
def rc60 : RC :=
  (.seq (.reg false [⟨(some 1), none, [0], none, .q (.box (.t 0))⟩,
    ⟨(some 2), none, [], none, .q (.mv (.k .u))⟩])
  (.keep [1] (.seq (.reg false [⟨(some 3), none, [1], none, .q (.mkf 70 [(.t 1)])⟩,
    ⟨(some 2), none, [3], none, .q (.mv (.t 3))⟩])
  .ret)))
def pu60 : List Nat := [1]
def rs60 : List RV := [.t 2]
theorem cc60 : comp Try.prog pu60 (Try.f60.ntmps, 0) 0 1 rc60 (Try.f60.body.getD .skip) = some rc60 := by kernel_rfl
theorem cb60 : Try.f60.body = some (Try.f60.body.getD .skip) := by kernel_rfl
theorem cs60 : resRV Try.prog Try.f60.results.toList = some rs60 := by kernel_rfl
theorem cn60 : 1 ≤ Try.f60.ntmps := by decide
/- ferrule/cloth.wrong: params [57, 3], free 0, slots 30 -/
def rc61 : RC :=
  (.seq (.reg false [⟨(some 2), none, [0], none, .q (.box (.t 0))⟩,
    ⟨(some 4), none, [], none, .q (.mv (.k (.i 0)))⟩])
  (.keep [1, 2, 4] (.seq (.seq (.reg false [⟨(some 7), none, [2], none, .q (.fad 2 (.t 2))⟩,
    ⟨(some 8), none, [7], none, .q (.ld false 1 (.t 7))⟩,
    ⟨(some 9), none, [8], none, .q (.len (.t 8))⟩,
    ⟨(some 10), none, [], none, .q (.mv (.k (.i 0)))⟩])
  (.keep [1, 4, 8, 9, 10] (.block 0 (.loop [1, 4, 8, 9, 10] (some 0) (.seq (.reg false [⟨(some 11), none, [10, 9], none, .q (.bin .lss (.t 10) (.t 9))⟩])
  (.keep [1, 4, 8, 9, 10, 11] (.seq (.cond (.t 11)
    .skip
    (.exit 0))
  (.keep [1, 4, 8, 9, 10] (.seq (.block 1 (.seq (.reg false [⟨(some 12), none, [8, 10], none, .q (.iad 3 (.t 8) (.t 10))⟩,
    ⟨(some 13), none, [12], none, .q (.ld true 3 (.t 12))⟩,
    ⟨(some 6), none, [], none, .w (.alc [(.i 0), (.i 0), (.i 0)])⟩,
    ⟨none, none, [6, 13], none, .w (.st 3 (.t 6) (.t 13))⟩])
  (.keep [1, 4, 6, 8, 9, 10] (.seq (.any false 0 [⟨⟨(some 14), none, [6], none, .q (.fad 0 (.t 6))⟩, [], []⟩,
    ⟨⟨(some 15), none, [14], none, .q (.ld false 1 (.t 14))⟩, [], [0]⟩,
    ⟨⟨(some 16), none, [1], none, .q (.mv (.t 1))⟩, [], []⟩,
    ⟨⟨(some 17), none, [15, 16], none, .q (.call (.k (.fn 69 [])) [(.t 15), (.t 16)])⟩, [], [1, 0, 2]⟩,
    ⟨⟨(some 18), none, [6], none, .q (.fad 1 (.t 6))⟩, [], []⟩,
    ⟨⟨(some 19), none, [18], none, .q (.fad 0 (.t 18))⟩, [], [4]⟩,
    ⟨⟨(some 20), none, [19], none, .q (.ld false 1 (.t 19))⟩, [], [5, 4]⟩,
    ⟨⟨(some 21), none, [6], none, .q (.fad 1 (.t 6))⟩, [], []⟩,
    ⟨⟨(some 22), none, [21], none, .q (.fad 1 (.t 21))⟩, [], [7]⟩,
    ⟨⟨(some 23), none, [22], none, .q (.ld false 1 (.t 22))⟩, [], [8, 7]⟩,
    ⟨⟨(some 24), none, [17, 20, 23], none, .q (.call (.k (.fn 67 [])) [(.t 17), (.t 20), (.t 23)])⟩, [], [3, 1, 0, 2, 6, 5, 4, 9, 8, 7]⟩,
    ⟨⟨(some 25), none, [24], none, .q (.not (.t 24))⟩, [], [10, 3, 1, 0, 2, 6, 5, 4, 9, 8, 7]⟩])
  (.keep [1, 4, 8, 9, 10, 25] (.cond (.t 25)
    (.reg false [⟨(some 26), none, [4], none, .q (.mv (.t 4))⟩,
      ⟨(some 27), none, [26], none, .q (.bin .add (.t 26) (.k (.i 1)))⟩,
      ⟨(some 4), none, [27], none, .q (.mv (.t 27))⟩])
    .skip))))))
  (.drp 0 (.keep [1, 4, 8, 9, 10] (.reg false [⟨(some 28), none, [10], none, .q (.bin .add (.t 10) (.k (.i 1)))⟩,
    ⟨(some 10), none, [28], none, .q (.mv (.t 28))⟩]))))))))))))
  (.keep [4] (.seq (.reg false [⟨(some 29), none, [4], none, .q (.mv (.t 4))⟩,
    ⟨(some 4), none, [29], none, .q (.mv (.t 29))⟩])
  .ret)))))
def pu61 : List Nat := [2]
def rs61 : List RV := [.t 4]
theorem cc61 : comp Try.prog pu61 (Try.f61.ntmps, 0) 0 1 rc61 (Try.f61.body.getD .skip) = some rc61 := by kernel_rfl
theorem cb61 : Try.f61.body = some (Try.f61.body.getD .skip) := by kernel_rfl
theorem cs61 : resRV Try.prog Try.f61.results.toList = some rs61 := by kernel_rfl
theorem cn61 : 2 ≤ Try.f61.ntmps := by decide
/- ferrule/cloth.isDome: params [26], free 0, slots 61 -/
def rc62 : RC :=
  (.seq (.reg false [⟨(some 1), none, [0], none, .q (.box (.t 0))⟩,
    ⟨(some 2), none, [], none, .q (.mv (.k (.b false)))⟩])
  (.keep [1] (.seq (.reg false [⟨(some 6), none, [1], none, .q (.mkf 71 [(.t 1)])⟩,
    ⟨(some 3), none, [6], none, .q (.mv (.t 6))⟩])
  (.keep [1, 3] (.seq (.reg false [⟨(some 4), none, [], none, .q (.mv (.k (.fn 72 [])))⟩])
  (.keep [1, 3, 4] (.seq (.reg false [⟨(some 7), none, [1], none, .q (.mkf 74 [(.t 1)])⟩,
    ⟨(some 5), none, [7], none, .q (.mv (.t 7))⟩])
  (.keep [1, 3, 4, 5] (.seq (.reg true [⟨(some 8), none, [1], none, .q (.fad 0 (.t 1))⟩,
    ⟨(some 9), none, [8], none, .q (.ld false 1 (.t 8))⟩,
    ⟨(some 10), none, [9], none, .q (.len (.t 9))⟩,
    ⟨(some 11), none, [10], none, .q (.call (.k (.fn 67 [])) [(.t 10), (.k (.i 1)), (.k (.i 4))])⟩,
    ⟨(some 12), none, [11], none, .q (.mv (.t 11))⟩,
    ⟨(some 13), (some (12, true)), [1], none, .q (.fad 1 (.t 1))⟩,
    ⟨(some 14), (some (12, true)), [13], none, .q (.ld false 1 (.t 13))⟩,
    ⟨(some 15), (some (12, true)), [14], none, .q (.len (.t 14))⟩,
    ⟨(some 16), (some (12, true)), [15], none, .q (.call (.k (.fn 67 [])) [(.t 15), (.k (.i 3)), (.k (.i 16))])⟩,
    ⟨(some 17), none, [12, 16], none, .q (.pick (.t 12) (.t 16) (.k (.b false)))⟩,
    ⟨(some 18), none, [17], none, .q (.mv (.t 17))⟩,
    ⟨(some 19), (some (18, true)), [1], none, .q (.fad 1 (.t 1))⟩,
    ⟨(some 20), (some (18, true)), [19], none, .q (.ld false 1 (.t 19))⟩,
    ⟨(some 21), (some (18, true)), [3], none, .q (.mv (.t 3))⟩,
    ⟨(some 22), (some (18, true)), [20, 21], none, .q (.call (.k (.fn 75 [])) [(.t 20), (.t 21)])⟩,
    ⟨(some 23), none, [18, 22], none, .q (.pick (.t 18) (.t 22) (.k (.b false)))⟩,
    ⟨(some 24), none, [23], none, .q (.mv (.t 23))⟩,
    ⟨(some 25), (some (24, true)), [1], none, .q (.fad 2 (.t 1))⟩,
    ⟨(some 26), (some (24, true)), [25], none, .q (.ld false 1 (.t 25))⟩,
    ⟨(some 27), (some (24, true)), [26], none, .q (.call (.k (.fn 67 [])) [(.t 26), (.k (.i 0)), (.k (.i 20))])⟩,
    ⟨(some 28), none, [24, 27], none, .q (.pick (.t 24) (.t 27) (.k (.b false)))⟩,
    ⟨(some 29), none, [28], none, .q (.mv (.t 28))⟩,
    ⟨(some 30), (some (29, true)), [1], none, .q (.fad 3 (.t 1))⟩,
    ⟨(some 31), (some (29, true)), [30], none, .q (.ld false 1 (.t 30))⟩,
    ⟨(some 32), (some (29, true)), [31], none, .q (.len (.t 31))⟩,
    ⟨(some 33), (some (29, true)), [32], none, .q (.call (.k (.fn 67 [])) [(.t 32), (.k (.i 1)), (.k (.i 12))])⟩,
    ⟨(some 34), none, [29, 33], none, .q (.pick (.t 29) (.t 33) (.k (.b false)))⟩,
    ⟨(some 35), none, [34], none, .q (.mv (.t 34))⟩,
    ⟨(some 36), (some (35, true)), [1], none, .q (.fad 3 (.t 1))⟩,
    ⟨(some 37), (some (35, true)), [36], none, .q (.ld false 1 (.t 36))⟩,
    ⟨(some 38), (some (35, true)), [4], none, .q (.mv (.t 4))⟩,
    ⟨(some 39), (some (35, true)), [37, 38], none, .q (.call (.k (.fn 76 [])) [(.t 37), (.t 38)])⟩,
    ⟨(some 40), none, [35, 39], none, .q (.pick (.t 35) (.t 39) (.k (.b false)))⟩,
    ⟨(some 41), none, [40], none, .q (.mv (.t 40))⟩,
    ⟨(some 42), (some (41, true)), [1], none, .q (.fad 4 (.t 1))⟩,
    ⟨(some 43), (some (41, true)), [42], none, .q (.ld false 1 (.t 42))⟩,
    ⟨(some 44), (some (41, true)), [43], none, .q (.len (.t 43))⟩,
    ⟨(some 45), (some (41, true)), [1], none, .q (.fad 3 (.t 1))⟩,
    ⟨(some 46), (some (41, true)), [45], none, .q (.ld false 1 (.t 45))⟩,
    ⟨(some 47), (some (41, true)), [46], none, .q (.len (.t 46))⟩,
    ⟨(some 48), (some (41, true)), [44, 47], none, .q (.bin .eql (.t 44) (.t 47))⟩,
    ⟨(some 49), none, [41, 48], none, .q (.pick (.t 41) (.t 48) (.k (.b false)))⟩,
    ⟨(some 50), none, [49], none, .q (.mv (.t 49))⟩,
    ⟨(some 51), (some (50, true)), [1], none, .q (.fad 4 (.t 1))⟩,
    ⟨(some 52), (some (50, true)), [51], none, .q (.ld false 1 (.t 51))⟩,
    ⟨(some 53), (some (50, true)), [5], none, .q (.mv (.t 5))⟩,
    ⟨(some 54), (some (50, true)), [52, 53], none, .q (.call (.k (.fn 75 [])) [(.t 52), (.t 53)])⟩,
    ⟨(some 55), none, [50, 54], none, .q (.pick (.t 50) (.t 54) (.k (.b false)))⟩,
    ⟨(some 56), none, [55], none, .q (.mv (.t 55))⟩,
    ⟨(some 57), (some (56, true)), [1], none, .q (.fad 5 (.t 1))⟩,
    ⟨(some 58), (some (56, true)), [57], none, .q (.ld false 1 (.t 57))⟩,
    ⟨(some 59), (some (56, true)), [58], none, .q (.call (.k (.fn 67 [])) [(.t 58), (.k (.i 0)), (.k (.i 500))])⟩,
    ⟨(some 60), none, [56, 59], none, .q (.pick (.t 56) (.t 59) (.k (.b false)))⟩,
    ⟨(some 2), none, [60], none, .q (.mv (.t 60))⟩])
  .ret)))))))))
def pu62 : List Nat := [1]
def rs62 : List RV := [.t 2]
theorem cc62 : comp Try.prog pu62 (Try.f62.ntmps, 0) 0 1 rc62 (Try.f62.body.getD .skip) = some rc62 := by kernel_rfl
theorem cb62 : Try.f62.body = some (Try.f62.body.getD .skip) := by kernel_rfl
theorem cs62 : resRV Try.prog Try.f62.results.toList = some rs62 := by kernel_rfl
theorem cn62 : 1 ≤ Try.f62.ntmps := by decide
/- ferrule/cloth.all[ferrule/api.Bolt]: params [22, 83], free 0, slots 9 -/
def rc63 : RC :=
  (.seq (.reg false [⟨(some 3), none, [1], none, .q (.box (.t 1))⟩,
    ⟨(some 4), none, [], none, .q (.mv (.k (.b false)))⟩])
  (.keep [0, 3] (.seq (.reg false [⟨(some 5), none, [0], none, .q (.mv (.t 0))⟩,
    ⟨(some 6), none, [3], none, .q (.mkf 78 [(.t 3)])⟩,
    ⟨(some 7), none, [5, 6], none, .q (.call (.k (.fn 77 [])) [(.t 5), (.t 6)])⟩,
    ⟨(some 8), none, [7], none, .q (.not (.t 7))⟩,
    ⟨(some 4), none, [8], none, .q (.mv (.t 8))⟩])
  .ret)))
def pu63 : List Nat := [3]
def rs63 : List RV := [.t 4]
theorem cc63 : comp Try.prog pu63 (Try.f63.ntmps, 0) 0 1 rc63 (Try.f63.body.getD .skip) = some rc63 := by kernel_rfl
theorem cb63 : Try.f63.body = some (Try.f63.body.getD .skip) := by kernel_rfl
theorem cs63 : resRV Try.prog Try.f63.results.toList = some rs63 := by kernel_rfl
theorem cn63 : 2 ≤ Try.f63.ntmps := by decide
/- ferrule/cloth.isBolt: params [57], free 0, slots 22 -/
def rc64 : RC :=
  (.seq (.reg false [⟨(some 1), none, [0], none, .q (.box (.t 0))⟩,
    ⟨(some 2), none, [], none, .q (.mv (.k (.b false)))⟩])
  (.keep [1] (.seq (.reg true [⟨(some 3), none, [1], none, .q (.fad 0 (.t 1))⟩,
    ⟨(some 4), none, [3], none, .q (.ld true 2 (.t 3))⟩,
    ⟨(some 5), none, [4], none, .q (.call (.k (.fn 73 [])) [(.t 4), (.k (.i 60))])⟩,
    ⟨(some 6), none, [5], none, .q (.mv (.t 5))⟩,
    ⟨(some 7), (some (6, true)), [1], none, .q (.fad 2 (.t 1))⟩,
    ⟨(some 8), (some (6, true)), [7], none, .q (.ld false 1 (.t 7))⟩,
    ⟨(some 9), (some (6, true)), [8], none, .q (.len (.t 8))⟩,
    ⟨(some 10), (some (6, true)), [9], none, .q (.bin .leq (.t 9) (.k (.i 8)))⟩,
    ⟨(some 11), none, [6, 10], none, .q (.pick (.t 6) (.t 10) (.k (.b false)))⟩,
    ⟨(some 12), none, [11], none, .q (.mv (.t 11))⟩,
    ⟨(some 13), (some (12, true)), [1], none, .q (.fad 2 (.t 1))⟩,
    ⟨(some 14), (some (12, true)), [13], none, .q (.ld false 1 (.t 13))⟩,
    ⟨(some 15), (some (12, true)), [14], none, .q (.call (.k (.fn 79 [])) [(.t 14), (.k (.fn 80 []))])⟩,
    ⟨(some 16), none, [12, 15], none, .q (.pick (.t 12) (.t 15) (.k (.b false)))⟩,
    ⟨(some 17), none, [16], none, .q (.mv (.t 16))⟩,
    ⟨(some 18), (some (17, true)), [1], none, .q (.fad 3 (.t 1))⟩,
    ⟨(some 19), (some (17, true)), [18], none, .q (.ld false 1 (.t 18))⟩,
    ⟨(some 20), (some (17, true)), [19], none, .q (.call (.k (.fn 67 [])) [(.t 19), (.k (.i 0)), (.k (.i 2))])⟩,
    ⟨(some 21), none, [17, 20], none, .q (.pick (.t 17) (.t 20) (.k (.b false)))⟩,
    ⟨(some 2), none, [21], none, .q (.mv (.t 21))⟩])
  .ret)))
def pu64 : List Nat := [1]
def rs64 : List RV := [.t 2]
theorem cc64 : comp Try.prog pu64 (Try.f64.ntmps, 0) 0 1 rc64 (Try.f64.body.getD .skip) = some rc64 := by kernel_rfl
theorem cb64 : Try.f64.body = some (Try.f64.body.getD .skip) := by kernel_rfl
theorem cs64 : resRV Try.prog Try.f64.results.toList = some rs64 := by kernel_rfl
theorem cn64 : 1 ≤ Try.f64.ntmps := by decide
/- ferrule/ferruleref02.numbers: params [57], free 0, slots 23 -/
def rc65 : RC :=
  (.seq (.reg false [⟨(some 1), none, [0], none, .q (.box (.t 0))⟩,
    ⟨(some 2), none, [], none, .q (.mv (.k (.z 1)))⟩])
  (.keep [1] (.seq (.reg false [⟨(some 3), none, [], none, .q (.mv (.k (.z 1)))⟩])
  (.keep [1, 3] (.seq (.seq (.reg false [⟨(some 5), none, [1], none, .q (.fad 0 (.t 1))⟩,
    ⟨(some 6), none, [5], none, .q (.fad 0 (.t 5))⟩,
    ⟨(some 7), none, [6], none, .q (.ld false 1 (.t 6))⟩,
    ⟨(some 4), none, [7], none, .q (.mv (.t 7))⟩])
  (.keep [1, 3, 4] (.block 0 (.own 3 1 (.loop [1, 3, 4] none (.seq (.seq (.reg false [⟨(some 8), none, [4], none, .q (.mv (.t 4))⟩,
    ⟨(some 9), none, [1], none, .q (.fad 0 (.t 1))⟩,
    ⟨(some 10), none, [9], none, .q (.fad 1 (.t 9))⟩,
    ⟨(some 11), none, [10], none, .q (.ld false 1 (.t 10))⟩,
    ⟨(some 12), none, [8, 11], none, .q (.bin .leq (.t 8) (.t 11))⟩])
  (.keep [1, 3, 4, 12] (.cond (.t 12)
    .skip
    (.exit 0))))
  (.keep [1, 3, 4] (.seq (.block 1 (.seq (.reg false [⟨(some 15), none, [1], none, .q (.ld true 4 (.t 1))⟩,
    ⟨(some 16), none, [4], none, .q (.mv (.t 4))⟩,
    ⟨(some 17), none, [15, 16], none, .q (.call (.k (.fn 49 [])) [(.t 15), (.t 16)])⟩])
  (.keep [1, 3, 4, 17] (.cond (.t 17)
    (.reg false [⟨(some 18), none, [3], none, .q (.mv (.t 3))⟩,
      ⟨(some 19), none, [4], none, .q (.mv (.t 4))⟩,
      ⟨(some 20), none, [19], none, .q (.bsl 1 1 [(.i 0)] [(0, 1, (.t 19))])⟩,
      ⟨(some 21), none, [18, 20], none, .w (.app 1 (.t 18) (.t 20))⟩,
      ⟨(some 3), none, [21], none, .q (.mv (.t 21))⟩])
    .skip))))
  (.keep [1, 3, 4] (.reg false [⟨(some 13), none, [4], none, .q (.mv (.t 4))⟩,
    ⟨(some 14), none, [13], none, .q (.bin .add (.t 13) (.k (.i 1)))⟩,
    ⟨(some 4), none, [14], none, .q (.mv (.t 14))⟩]))))))))))
  (.keep [3] (.seq (.reg false [⟨(some 22), none, [3], none, .q (.mv (.t 3))⟩,
    ⟨(some 2), none, [22], none, .q (.mv (.t 22))⟩])
  .ret)))))))
def pu65 : List Nat := [1, 20]
def rs65 : List RV := [.t 2]
theorem cc65 : comp Try.prog pu65 (Try.f65.ntmps, 0) 0 1 rc65 (Try.f65.body.getD .skip) = some rc65 := by kernel_rfl
theorem cb65 : Try.f65.body = some (Try.f65.body.getD .skip) := by kernel_rfl
theorem cs65 : resRV Try.prog Try.f65.results.toList = some rs65 := by kernel_rfl
theorem cn65 : 1 ≤ Try.f65.ntmps := by decide
/- ferrule/ferruleref02.False: params [57, 3], free 0, slots 41 -/
def rc66 : RC :=
  (.seq (.reg false [⟨(some 2), none, [0], none, .q (.box (.t 0))⟩,
    ⟨(some 4), none, [], none, .q (.mv (.k (.i 0)))⟩])
  (.keep [1, 2] (.seq (.reg false [⟨(some 5), none, [], none, .q (.mv (.k (.i 0)))⟩])
  (.keep [1, 2, 5] (.seq (.seq (.reg false [⟨(some 6), none, [], none, .q (.mv (.k (.i 0)))⟩])
  (.keep [1, 2, 5, 6] (.block 0 (.loop [1, 2, 5, 6] none (.seq (.seq (.reg false [⟨(some 7), none, [6], none, .q (.mv (.t 6))⟩,
    ⟨(some 8), none, [2], none, .q (.fad 2 (.t 2))⟩,
    ⟨(some 9), none, [8], none, .q (.ld false 1 (.t 8))⟩,
    ⟨(some 10), none, [9], none, .q (.len (.t 9))⟩,
    ⟨(some 11), none, [7, 10], none, .q (.bin .lss (.t 7) (.t 10))⟩])
  (.keep [1, 2, 5, 6, 11] (.cond (.t 11)
    .skip
    (.exit 0))))
  (.keep [1, 2, 5, 6] (.seq (.block 1 (.seq (.any false 0 [⟨⟨(some 14), none, [2], none, .q (.fad 2 (.t 2))⟩, [], []⟩,
    ⟨⟨(some 15), none, [14], none, .q (.ld false 1 (.t 14))⟩, [], [0]⟩,
    ⟨⟨(some 16), none, [6], none, .q (.mv (.t 6))⟩, [], []⟩,
    ⟨⟨(some 17), none, [15, 16], none, .q (.iad 3 (.t 15) (.t 16))⟩, [], [1, 0, 2]⟩,
    ⟨⟨(some 18), none, [17], none, .q (.fad 0 (.t 17))⟩, [], [3, 1, 0, 2]⟩,
    ⟨⟨(some 19), none, [18], none, .q (.ld false 1 (.t 18))⟩, [], [4, 3, 1, 0, 2]⟩,
    ⟨⟨(some 20), none, [1], none, .q (.mv (.t 1))⟩, [], []⟩,
    ⟨⟨(some 21), none, [19, 20], none, .q (.call (.k (.fn 57 [])) [(.t 19), (.t 20)])⟩, [], [5, 4, 3, 1, 0, 2, 6]⟩,
    ⟨⟨(some 22), none, [2], none, .q (.fad 2 (.t 2))⟩, [], []⟩,
    ⟨⟨(some 23), none, [22], none, .q (.ld false 1 (.t 22))⟩, [], [8]⟩,
    ⟨⟨(some 24), none, [6], none, .q (.mv (.t 6))⟩, [], []⟩,
    ⟨⟨(some 25), none, [23, 24], none, .q (.iad 3 (.t 23) (.t 24))⟩, [], [9, 8, 10]⟩,
    ⟨⟨(some 26), none, [25], none, .q (.fad 1 (.t 25))⟩, [], [11, 9, 8, 10]⟩,
    ⟨⟨(some 27), none, [26], none, .q (.fad 0 (.t 26))⟩, [], [12, 11, 9, 8, 10]⟩,
    ⟨⟨(some 28), none, [27], none, .q (.ld false 1 (.t 27))⟩, [], [13, 12, 11, 9, 8, 10]⟩,
    ⟨⟨(some 29), none, [2], none, .q (.fad 2 (.t 2))⟩, [], []⟩,
    ⟨⟨(some 30), none, [29], none, .q (.ld false 1 (.t 29))⟩, [], [15]⟩,
    ⟨⟨(some 31), none, [6], none, .q (.mv (.t 6))⟩, [], []⟩,
    ⟨⟨(some 32), none, [30, 31], none, .q (.iad 3 (.t 30) (.t 31))⟩, [], [16, 15, 17]⟩,
    ⟨⟨(some 33), none, [32], none, .q (.fad 1 (.t 32))⟩, [], [18, 16, 15, 17]⟩,
    ⟨⟨(some 34), none, [33], none, .q (.fad 1 (.t 33))⟩, [], [19, 18, 16, 15, 17]⟩,
    ⟨⟨(some 35), none, [34], none, .q (.ld false 1 (.t 34))⟩, [], [20, 19, 18, 16, 15, 17]⟩,
    ⟨⟨(some 36), none, [21, 28, 35], none, .q (.call (.k (.fn 54 [])) [(.t 21), (.t 28), (.t 35)])⟩, [], [7, 5, 4, 3, 1, 0, 2, 6, 14, 13, 12, 11, 9, 8, 10, 21, 20, 19, 18, 16, 15, 17]⟩,
    ⟨⟨(some 37), none, [36], none, .q (.not (.t 36))⟩, [], [22, 7, 5, 4, 3, 1, 0, 2, 6, 14, 13, 12, 11, 9, 8, 10, 21, 20, 19, 18, 16, 15, 17]⟩])
  (.keep [1, 2, 5, 6, 37] (.cond (.t 37)
    (.reg false [⟨(some 38), none, [5], none, .q (.mv (.t 5))⟩,
      ⟨(some 39), none, [38], none, .q (.bin .add (.t 38) (.k (.i 1)))⟩,
      ⟨(some 5), none, [39], none, .q (.mv (.t 39))⟩])
    .skip))))
  (.keep [1, 2, 5, 6] (.reg false [⟨(some 12), none, [6], none, .q (.mv (.t 6))⟩,
    ⟨(some 13), none, [12], none, .q (.bin .add (.t 12) (.k (.i 1)))⟩,
    ⟨(some 6), none, [13], none, .q (.mv (.t 13))⟩])))))))))
  (.keep [5] (.seq (.reg false [⟨(some 40), none, [5], none, .q (.mv (.t 5))⟩,
    ⟨(some 4), none, [40], none, .q (.mv (.t 40))⟩])
  .ret)))))))
def pu66 : List Nat := [2]
def rs66 : List RV := [.t 4]
theorem cc66 : comp Try.prog pu66 (Try.f66.ntmps, 0) 0 1 rc66 (Try.f66.body.getD .skip) = some rc66 := by kernel_rfl
theorem cb66 : Try.f66.body = some (Try.f66.body.getD .skip) := by kernel_rfl
theorem cs66 : resRV Try.prog Try.f66.results.toList = some rs66 := by kernel_rfl
theorem cn66 : 2 ≤ Try.f66.ntmps := by decide
/- ferrule/cloth.within: params [3, 3, 3], free 0, slots 15 -/
def rc67 : RC :=
  (.seq (.reg false [⟨(some 6), none, [], none, .q (.mv (.k (.b false)))⟩])
  (.keep [0, 1, 2] (.seq (.reg true [⟨(some 7), none, [1], none, .q (.mv (.t 1))⟩,
    ⟨(some 8), none, [0], none, .q (.mv (.t 0))⟩,
    ⟨(some 9), none, [7, 8], none, .q (.bin .leq (.t 7) (.t 8))⟩,
    ⟨(some 10), none, [9], none, .q (.mv (.t 9))⟩,
    ⟨(some 11), (some (10, true)), [0], none, .q (.mv (.t 0))⟩,
    ⟨(some 12), (some (10, true)), [2], none, .q (.mv (.t 2))⟩,
    ⟨(some 13), (some (10, true)), [11, 12], none, .q (.bin .leq (.t 11) (.t 12))⟩,
    ⟨(some 14), none, [10, 13], none, .q (.pick (.t 10) (.t 13) (.k (.b false)))⟩,
    ⟨(some 6), none, [14], none, .q (.mv (.t 14))⟩])
  .ret)))
def pu67 : List Nat := []
def rs67 : List RV := [.t 6]
theorem cc67 : comp Try.prog pu67 (Try.f67.ntmps, 0) 0 1 rc67 (Try.f67.body.getD .skip) = some rc67 := by kernel_rfl
theorem cb67 : Try.f67.body = some (Try.f67.body.getD .skip) := by kernel_rfl
theorem cs67 : resRV Try.prog Try.f67.results.toList = some rs67 := by kernel_rfl
theorem cn67 : 3 ≤ Try.f67.ntmps := by decide
/- (*ferrule/cloth.tent).sums: params [66, 3], free 0, slots 79 -/
def rc68 : RC :=
  (.seq (.reg false [⟨(some 4), none, [], none, .q (.mv (.k .u))⟩])
  (.keep [0, 1] (.seq (.reg false [⟨(some 15), none, [], none, .w (.mkm false)⟩,
    ⟨(some 5), none, [15], none, .q (.mv (.t 15))⟩])
  (.keep [0, 1, 5] (.seq (.seq (.reg false [⟨(some 16), none, [0], none, .q (.mv (.t 0))⟩,
    ⟨(some 17), none, [16], none, .q (.nilc (.t 16))⟩,
    ⟨(some 18), none, [17], none, .q (.fad 0 (.t 17))⟩,
    ⟨(some 19), none, [18], none, .q (.fad 1 (.t 18))⟩,
    ⟨(some 20), none, [19], none, .q (.ld false 1 (.t 19))⟩,
    ⟨(some 21), none, [20], none, .q (.len (.t 20))⟩,
    ⟨(some 22), none, [], none, .q (.mv (.k (.i 0)))⟩])
  (.keep [0, 1, 5, 20, 21, 22] (.block 0 (.loop [0, 1, 5, 20, 21, 22] none (.seq (.reg false [⟨(some 23), none, [22, 21], none, .q (.bin .lss (.t 22) (.t 21))⟩])
  (.keep [0, 1, 5, 20, 21, 22, 23] (.seq (.cond (.t 23)
    .skip
    (.exit 0))
  (.keep [0, 1, 5, 20, 21, 22] (.seq (.block 1 (.seq (.reg false [⟨(some 24), none, [20, 22], none, .q (.iad 1 (.t 20) (.t 22))⟩,
    ⟨(some 25), none, [24], none, .q (.ld false 1 (.t 24))⟩,
    ⟨(some 7), none, [25], none, .q (.mv (.t 25))⟩])
  (.keep [0, 1, 5, 7, 20, 21, 22] (.reg false [⟨(some 26), none, [5], none, .q (.mv (.t 5))⟩,
    ⟨(some 27), none, [7], none, .q (.mv (.t 7))⟩,
    ⟨(some 28), none, [26, 27], none, .q (.lkp (.i 0) false 3 false (.t 26) (.t 27))⟩,
    ⟨(some 29), none, [28], none, .q (.bin .add (.t 28) (.k (.i 1)))⟩,
    ⟨none, none, [26, 27, 29], none, .w (.mup 3 false (.t 26) (.t 27) (.t 29))⟩]))))
  (.keep [0, 1, 5, 20, 21, 22] (.reg false [⟨(some 30), none, [22], none, .q (.bin .add (.t 22) (.k (.i 1)))⟩,
    ⟨(some 22), none, [30], none, .q (.mv (.t 30))⟩])))))))))))
  (.keep [0, 1, 5] (.seq (.reg false [⟨(some 31), none, [], none, .w (.mkm false)⟩,
    ⟨none, none, [31], none, .w (.mup 3 false (.t 31) (.k (.i 0)) (.k (.i 1)))⟩,
    ⟨(some 32), none, [31], none, .q (.mv (.t 31))⟩,
    ⟨(some 8), none, [32], none, .q (.mv (.t 32))⟩])
  (.keep [0, 1, 5, 8] (.seq (.seq (.reg false [⟨(some 33), none, [5], none, .q (.mv (.t 5))⟩,
    ⟨(some 34), none, [33], none, .w (.rng (.t 33))⟩])
  (.keep [0, 1, 8, 34] (.block 2 (.loop [0, 1, 8, 34] (some 3) (.seq (.nxt 35 36 34)
  (.keep [0, 1, 8, 34, 36] (.seq (.cond (.t 36)
    .skip
    (.exit 2))
  (.keep [0, 1, 8, 34] (.block 3 (.seq (.reg false [⟨(some 37), none, [34], none, .q (.ent (.t 34))⟩,
    ⟨(some 38), none, [37], none, .q (.ext (.t 37) 0)⟩,
    ⟨(some 39), none, [37], none, .q (.ext (.t 37) 1)⟩,
    ⟨(some 9), none, [38], none, .q (.mv (.t 38))⟩,
    ⟨(some 10), none, [39], none, .q (.mv (.t 39))⟩])
  (.keep [0, 1, 8, 9, 10, 34] (.seq (.reg false [⟨(some 40), none, [], none, .w (.mkm false)⟩,
    ⟨(some 11), none, [40], none, .q (.mv (.t 40))⟩])
  (.keep [0, 1, 8, 9, 10, 11, 34] (.seq (.seq (.reg false [⟨(some 41), none, [8], none, .q (.mv (.t 8))⟩,
    ⟨(some 42), none, [41], none, .w (.rng (.t 41))⟩])
  (.keep [0, 1, 9, 10, 11, 34, 42] (.block 4 (.loop [0, 1, 9, 10, 11, 34, 42] none (.seq (.nxt 43 44 42)
  (.keep [0, 1, 9, 10, 11, 34, 42, 44] (.seq (.cond (.t 44)
    .skip
    (.exit 4))
  (.keep [0, 1, 9, 10, 11, 34, 42] (.block 5 (.seq (.reg false [⟨(some 45), none, [42], none, .q (.ent (.t 42))⟩,
    ⟨(some 46), none, [45], none, .q (.ext (.t 45) 0)⟩,
    ⟨(some 12), none, [46], none, .q (.mv (.t 46))⟩])
  (.keep [0, 1, 9, 10, 11, 12, 34, 42] (.seq (.reg false [⟨(some 47), none, [0], none, .q (.mv (.t 0))⟩,
    ⟨(some 48), none, [47], none, .q (.nilc (.t 47))⟩,
    ⟨(some 49), none, [48], none, .q (.fad 6 (.t 48))⟩,
    ⟨(some 50), none, [49], none, .q (.ld false 1 (.t 49))⟩,
    ⟨(some 51), none, [9], none, .q (.mv (.t 9))⟩,
    ⟨(some 52), none, [50, 51], none, .q (.iad 1 (.t 50) (.t 51))⟩,
    ⟨(some 53), none, [52], none, .q (.ld false 1 (.t 52))⟩,
    ⟨(some 54), none, [53], none, .q (.len (.t 53))⟩,
    ⟨(some 55), none, [], none, .q (.mv (.k (.i 0)))⟩])
  (.keep [0, 1, 9, 10, 11, 12, 34, 42, 53, 54, 55] (.block 6 (.loop [0, 1, 9, 10, 11, 12, 34, 42, 53, 54, 55] none (.seq (.reg false [⟨(some 56), none, [55, 54], none, .q (.bin .lss (.t 55) (.t 54))⟩])
  (.keep [0, 1, 9, 10, 11, 12, 34, 42, 53, 54, 55, 56] (.seq (.cond (.t 56)
    .skip
    (.exit 6))
  (.keep [0, 1, 9, 10, 11, 12, 34, 42, 53, 54, 55] (.seq (.block 7 (.seq (.reg false [⟨(some 57), none, [53, 55], none, .q (.iad 1 (.t 53) (.t 55))⟩,
    ⟨(some 58), none, [57], none, .q (.ld false 1 (.t 57))⟩,
    ⟨(some 14), none, [58], none, .q (.mv (.t 58))⟩])
  (.keep [0, 1, 9, 10, 11, 12, 14, 34, 42, 53, 54, 55] (.reg false [⟨(some 59), none, [11], none, .q (.mv (.t 11))⟩,
    ⟨(some 60), none, [12], none, .q (.mv (.t 12))⟩,
    ⟨(some 61), none, [10], none, .q (.mv (.t 10))⟩,
    ⟨(some 62), none, [1], none, .q (.mv (.t 1))⟩,
    ⟨(some 63), none, [0], none, .q (.mv (.t 0))⟩,
    ⟨(some 64), none, [63], none, .q (.nilc (.t 63))⟩,
    ⟨(some 65), none, [64], none, .q (.fad 0 (.t 64))⟩,
    ⟨(some 66), none, [65], none, .q (.fad 2 (.t 65))⟩,
    ⟨(some 67), none, [66], none, .q (.ld false 1 (.t 66))⟩,
    ⟨(some 68), none, [67], none, .q (.bin .mul (.k (.i 2)) (.t 67))⟩,
    ⟨(some 69), none, [62, 68], none, .q (.bin .sub (.t 62) (.t 68))⟩,
    ⟨(some 70), none, [14], none, .q (.mv (.t 14))⟩,
    ⟨(some 71), none, [69, 70], none, .q (.call (.k (.fn 69 [])) [(.t 69), (.t 70)])⟩,
    ⟨(some 72), none, [61, 71], none, .q (.bin .mul (.t 61) (.t 71))⟩,
    ⟨(some 73), none, [60, 72], none, .q (.bin .add (.t 60) (.t 72))⟩,
    ⟨(some 74), none, [59, 73], none, .q (.lkp (.i 0) false 3 false (.t 59) (.t 73))⟩,
    ⟨(some 75), none, [74], none, .q (.bin .add (.t 74) (.k (.i 1)))⟩,
    ⟨none, none, [59, 73, 75], none, .w (.mup 3 false (.t 59) (.t 73) (.t 75))⟩]))))
  (.keep [0, 1, 9, 10, 11, 12, 34, 42, 53, 54, 55] (.reg false [⟨(some 76), none, [55], none, .q (.bin .add (.t 55) (.k (.i 1)))⟩,
    ⟨(some 55), none, [76], none, .q (.mv (.t 76))⟩]))))))))))))))))))))))
  (.keep [0, 1, 11, 34] (.swp 1 3 (.reg false [⟨(some 77), none, [11], none, .q (.mv (.t 11))⟩,
    ⟨(some 8), none, [77], none, .q (.mv (.t 77))⟩])))))))))))))))))
  (.keep [8] (.seq (.swp 0 1 (.drp 1 (.reg false [⟨(some 78), none, [8], none, .q (.mv (.t 8))⟩,
    ⟨(some 4), none, [78], none, .q (.mv (.t 78))⟩])))
  .ret)))))))))))
def pu68 : List Nat := []
def rs68 : List RV := [.t 4]
theorem cc68 : comp Try.prog pu68 (Try.f68.ntmps, 0) 0 1 rc68 (Try.f68.body.getD .skip) = some rc68 := by kernel_rfl
theorem cb68 : Try.f68.body = some (Try.f68.body.getD .skip) := by kernel_rfl
theorem cs68 : resRV Try.prog Try.f68.results.toList = some rs68 := by kernel_rfl
theorem cn68 : 2 ≤ Try.f68.ntmps := by decide
/- ferrule/cloth.pull: params [3, 3], free 0, slots 10 -/
def rc69 : RC :=
  (.seq (.reg false [⟨(some 4), none, [], none, .q (.mv (.k (.i 0)))⟩])
  (.keep [0, 1] (.seq (.reg false [⟨(some 5), none, [0], none, .q (.mv (.t 0))⟩,
    ⟨(some 6), none, [1], none, .q (.mv (.t 1))⟩,
    ⟨(some 7), none, [6], none, .q (.bin .add (.k (.i 1000)) (.t 6))⟩,
    ⟨(some 8), none, [5, 7], none, .q (.bin .mul (.t 5) (.t 7))⟩,
    ⟨(some 9), none, [8], none, .q (.bin .quo (.t 8) (.k (.i 1000)))⟩,
    ⟨(some 4), none, [9], none, .q (.mv (.t 9))⟩])
  .ret)))
def pu69 : List Nat := []
def rs69 : List RV := [.t 4]
theorem cc69 : comp Try.prog pu69 (Try.f69.ntmps, 0) 0 1 rc69 (Try.f69.body.getD .skip) = some rc69 := by kernel_rfl
theorem cb69 : Try.f69.body = some (Try.f69.body.getD .skip) := by kernel_rfl
theorem cs69 : resRV Try.prog Try.f69.results.toList = some rs69 := by kernel_rfl
theorem cn69 : 2 ≤ Try.f69.ntmps := by decide
/- ferrule/cloth.numbers$1: params [91], free 1, slots 18 -/
def rc70 : RC :=
  (.seq (.reg false [⟨(some 4), none, [1], none, .q (.fad 0 (.t 1))⟩,
    ⟨(some 5), none, [4], none, .q (.fad 0 (.t 4))⟩,
    ⟨(some 6), none, [5], none, .q (.ld false 1 (.t 5))⟩,
    ⟨(some 3), none, [6], none, .q (.mv (.t 6))⟩])
  (.keep [0, 1, 3] (.block 0 (.loop [0, 1, 3] none (.seq (.seq (.reg false [⟨(some 7), none, [3], none, .q (.mv (.t 3))⟩,
    ⟨(some 8), none, [1], none, .q (.fad 0 (.t 1))⟩,
    ⟨(some 9), none, [8], none, .q (.fad 1 (.t 8))⟩,
    ⟨(some 10), none, [9], none, .q (.ld false 1 (.t 9))⟩,
    ⟨(some 11), none, [7, 10], none, .q (.bin .leq (.t 7) (.t 10))⟩])
  (.keep [0, 1, 3, 11] (.cond (.t 11)
    .skip
    (.exit 0))))
  (.keep [0, 1, 3] (.seq (.block 1 (.seq (.yrg false [⟨(some 14), none, [0], none, .q (.mv (.t 0))⟩,
    ⟨(some 15), none, [3], none, .q (.mv (.t 3))⟩]
    ⟨(some 16), none, [14, 15], none, .o (.t 14) [(.t 15)]⟩ [0, 1, 3] [⟨(some 17), none, [16], none, .q (.not (.t 16))⟩])
  (.keep [0, 1, 3, 17] (.cond (.t 17)
    .ret
    .skip))))
  (.keep [0, 1, 3] (.reg false [⟨(some 12), none, [3], none, .q (.mv (.t 3))⟩,
    ⟨(some 13), none, [12], none, .q (.bin .add (.t 12) (.k (.i 1)))⟩,
    ⟨(some 3), none, [13], none, .q (.mv (.t 13))⟩])))))))))
def pu70 : List Nat := []
def rs70 : List RV := []
theorem cc70 : comp Try.prog pu70 (Try.f70.ntmps, 2) 1 2 rc70 (Try.f70.body.getD .skip) = some rc70 := by kernel_rfl
theorem cb70 : Try.f70.body = some (Try.f70.body.getD .skip) := by kernel_rfl
theorem cs70 : resRV Try.prog Try.f70.results.toList = some rs70 := by kernel_rfl
theorem cn70 : 2 ≤ Try.f70.ntmps := by decide
/- ferrule/cloth.isDome$1: params [3], free 1, slots 10 -/
def rc71 : RC :=
  (.seq (.reg false [⟨(some 3), none, [], none, .q (.mv (.k (.b false)))⟩])
  (.keep [0, 1] (.seq (.reg false [⟨(some 4), none, [0], none, .q (.mv (.t 0))⟩,
    ⟨(some 5), none, [1], none, .q (.fad 0 (.t 1))⟩,
    ⟨(some 6), none, [5], none, .q (.ld false 1 (.t 5))⟩,
    ⟨(some 7), none, [6], none, .q (.len (.t 6))⟩,
    ⟨(some 8), none, [7], none, .q (.bin .sub (.t 7) (.k (.i 1)))⟩,
    ⟨(some 9), none, [4, 8], none, .q (.call (.k (.fn 67 [])) [(.t 4), (.k (.i 0)), (.t 8)])⟩,
    ⟨(some 3), none, [9], none, .q (.mv (.t 9))⟩])
  .ret)))
def pu71 : List Nat := []
def rs71 : List RV := [.t 3]
theorem cc71 : comp Try.prog pu71 (Try.f71.ntmps, 0) 0 1 rc71 (Try.f71.body.getD .skip) = some rc71 := by kernel_rfl
theorem cb71 : Try.f71.body = some (Try.f71.body.getD .skip) := by kernel_rfl
theorem cs71 : resRV Try.prog Try.f71.results.toList = some rs71 := by kernel_rfl
theorem cn71 : 2 ≤ Try.f71.ntmps := by decide
/- ferrule/cloth.isDome$2: params [34], free 0, slots 5 -/
def rc72 : RC :=
  (.seq (.reg false [⟨(some 1), none, [0], none, .q (.box (.t 0))⟩,
    ⟨(some 2), none, [], none, .q (.mv (.k (.b false)))⟩])
  (.keep [1] (.seq (.reg false [⟨(some 3), none, [1], none, .q (.ld true 2 (.t 1))⟩,
    ⟨(some 4), none, [3], none, .q (.call (.k (.fn 73 [])) [(.t 3), (.k (.i 40000))])⟩,
    ⟨(some 2), none, [4], none, .q (.mv (.t 4))⟩])
  .ret)))
def pu72 : List Nat := [1]
def rs72 : List RV := [.t 2]
theorem cc72 : comp Try.prog pu72 (Try.f72.ntmps, 0) 0 1 rc72 (Try.f72.body.getD .skip) = some rc72 := by kernel_rfl
theorem cb72 : Try.f72.body = some (Try.f72.body.getD .skip) := by kernel_rfl
theorem cs72 : resRV Try.prog Try.f72.results.toList = some rs72 := by kernel_rfl
theorem cn72 : 1 ≤ Try.f72.ntmps := by decide
/- ferrule/cloth.isSpan: params [34, 3], free 0, slots 16 -/
def rc73 : RC :=
  (.seq (.reg false [⟨(some 2), none, [0], none, .q (.box (.t 0))⟩,
    ⟨(some 4), none, [], none, .q (.mv (.k (.b false)))⟩])
  (.keep [1, 2] (.seq (.reg true [⟨(some 5), none, [2], none, .q (.fad 0 (.t 2))⟩,
    ⟨(some 6), none, [5], none, .q (.ld false 1 (.t 5))⟩,
    ⟨(some 7), none, [2], none, .q (.fad 1 (.t 2))⟩,
    ⟨(some 8), none, [7], none, .q (.ld false 1 (.t 7))⟩,
    ⟨(some 9), none, [6, 8], none, .q (.call (.k (.fn 67 [])) [(.t 6), (.k (.i 0)), (.t 8)])⟩,
    ⟨(some 10), none, [9], none, .q (.mv (.t 9))⟩,
    ⟨(some 11), (some (10, true)), [2], none, .q (.fad 1 (.t 2))⟩,
    ⟨(some 12), (some (10, true)), [11], none, .q (.ld false 1 (.t 11))⟩,
    ⟨(some 13), (some (10, true)), [1], none, .q (.mv (.t 1))⟩,
    ⟨(some 14), (some (10, true)), [12, 13], none, .q (.bin .leq (.t 12) (.t 13))⟩,
    ⟨(some 15), none, [10, 14], none, .q (.pick (.t 10) (.t 14) (.k (.b false)))⟩,
    ⟨(some 4), none, [15], none, .q (.mv (.t 15))⟩])
  .ret)))
def pu73 : List Nat := [2]
def rs73 : List RV := [.t 4]
theorem cc73 : comp Try.prog pu73 (Try.f73.ntmps, 0) 0 1 rc73 (Try.f73.body.getD .skip) = some rc73 := by kernel_rfl
theorem cb73 : Try.f73.body = some (Try.f73.body.getD .skip) := by kernel_rfl
theorem cs73 : resRV Try.prog Try.f73.results.toList = some rs73 := by kernel_rfl
theorem cn73 : 2 ≤ Try.f73.ntmps := by decide
/- ferrule/cloth.isDome$3: params [3], free 1, slots 9 -/
def rc74 : RC :=
  (.seq (.reg false [⟨(some 3), none, [], none, .q (.mv (.k (.b false)))⟩])
  (.keep [0, 1] (.seq (.reg false [⟨(some 4), none, [0], none, .q (.mv (.t 0))⟩,
    ⟨(some 5), none, [1], none, .q (.fad 2 (.t 1))⟩,
    ⟨(some 6), none, [5], none, .q (.ld false 1 (.t 5))⟩,
    ⟨(some 7), none, [6], none, .q (.bin .mul (.k (.i 2)) (.t 6))⟩,
    ⟨(some 8), none, [4, 7], none, .q (.call (.k (.fn 67 [])) [(.t 4), (.t 7), (.k (.i 2000))])⟩,
    ⟨(some 3), none, [8], none, .q (.mv (.t 8))⟩])
  .ret)))
def pu74 : List Nat := []
def rs74 : List RV := [.t 3]
theorem cc74 : comp Try.prog pu74 (Try.f74.ntmps, 0) 0 1 rc74 (Try.f74.body.getD .skip) = some rc74 := by kernel_rfl
theorem cb74 : Try.f74.body = some (Try.f74.body.getD .skip) := by kernel_rfl
theorem cs74 : resRV Try.prog Try.f74.results.toList = some rs74 := by kernel_rfl
theorem cn74 : 2 ≤ Try.f74.ntmps := by decide
/- ferrule/cloth.all[int]: params [23, 91], free 0, slots 9 -/
def rc75 : RC :=
  (.seq (.reg false [⟨(some 3), none, [1], none, .q (.box (.t 1))⟩,
    ⟨(some 4), none, [], none, .q (.mv (.k (.b false)))⟩])
  (.keep [0, 3] (.seq (.reg false [⟨(some 5), none, [0], none, .q (.mv (.t 0))⟩,
    ⟨(some 6), none, [3], none, .q (.mkf 82 [(.t 3)])⟩,
    ⟨(some 7), none, [5, 6], none, .q (.call (.k (.fn 81 [])) [(.t 5), (.t 6)])⟩,
    ⟨(some 8), none, [7], none, .q (.not (.t 7))⟩,
    ⟨(some 4), none, [8], none, .q (.mv (.t 8))⟩])
  .ret)))
def pu75 : List Nat := [3]
def rs75 : List RV := [.t 4]
theorem cc75 : comp Try.prog pu75 (Try.f75.ntmps, 0) 0 1 rc75 (Try.f75.body.getD .skip) = some rc75 := by kernel_rfl
theorem cb75 : Try.f75.body = some (Try.f75.body.getD .skip) := by kernel_rfl
theorem cs75 : resRV Try.prog Try.f75.results.toList = some rs75 := by kernel_rfl
theorem cn75 : 2 ≤ Try.f75.ntmps := by decide
/- ferrule/cloth.all[ferrule/api.Span]: params [24, 92], free 0, slots 9 -/
def rc76 : RC :=
  (.seq (.reg false [⟨(some 3), none, [1], none, .q (.box (.t 1))⟩,
    ⟨(some 4), none, [], none, .q (.mv (.k (.b false)))⟩])
  (.keep [0, 3] (.seq (.reg false [⟨(some 5), none, [0], none, .q (.mv (.t 0))⟩,
    ⟨(some 6), none, [3], none, .q (.mkf 84 [(.t 3)])⟩,
    ⟨(some 7), none, [5, 6], none, .q (.call (.k (.fn 83 [])) [(.t 5), (.t 6)])⟩,
    ⟨(some 8), none, [7], none, .q (.not (.t 7))⟩,
    ⟨(some 4), none, [8], none, .q (.mv (.t 8))⟩])
  .ret)))
def pu76 : List Nat := [3]
def rs76 : List RV := [.t 4]
theorem cc76 : comp Try.prog pu76 (Try.f76.ntmps, 0) 0 1 rc76 (Try.f76.body.getD .skip) = some rc76 := by kernel_rfl
theorem cb76 : Try.f76.body = some (Try.f76.body.getD .skip) := by kernel_rfl
theorem cs76 : resRV Try.prog Try.f76.results.toList = some rs76 := by kernel_rfl
theorem cn76 : 2 ≤ Try.f76.ntmps := by decide
/- slices.ContainsFunc[[]ferrule/api.Bolt,ferrule/api.Bolt]: params [22, 83], free 0, slots 9 -/
def rc77 : RC :=
  (.seq (.reg false [⟨(some 4), none, [], none, .q (.mv (.k (.b false)))⟩])
  (.keep [0, 1] (.seq (.reg false [⟨(some 5), none, [0], none, .q (.mv (.t 0))⟩,
    ⟨(some 6), none, [1], none, .q (.mv (.t 1))⟩,
    ⟨(some 7), none, [5, 6], none, .q (.call (.k (.fn 85 [])) [(.t 5), (.t 6)])⟩,
    ⟨(some 8), none, [7], none, .q (.bin .geq (.t 7) (.k (.i 0)))⟩,
    ⟨(some 4), none, [8], none, .q (.mv (.t 8))⟩])
  .ret)))
def pu77 : List Nat := []
def rs77 : List RV := [.t 4]
theorem cc77 : comp Try.prog pu77 (Try.f77.ntmps, 0) 0 1 rc77 (Try.f77.body.getD .skip) = some rc77 := by kernel_rfl
theorem cb77 : Try.f77.body = some (Try.f77.body.getD .skip) := by kernel_rfl
theorem cs77 : resRV Try.prog Try.f77.results.toList = some rs77 := by kernel_rfl
theorem cn77 : 2 ≤ Try.f77.ntmps := by decide
/- ferrule/cloth.all[ferrule/api.Bolt]$1: params [57], free 1, slots 8 -/
def rc78 : RC :=
  (.seq (.reg false [⟨(some 2), none, [0], none, .q (.box (.t 0))⟩,
    ⟨(some 3), none, [], none, .q (.mv (.k (.b false)))⟩])
  (.keep [1, 2] (.seq (.reg false [⟨(some 4), none, [1], none, .q (.ld false 1 (.t 1))⟩,
    ⟨(some 5), none, [2], none, .q (.ld true 4 (.t 2))⟩,
    ⟨(some 6), none, [4, 5], none, .q (.call (.t 4) [(.t 5)])⟩,
    ⟨(some 7), none, [6], none, .q (.not (.t 6))⟩,
    ⟨(some 3), none, [7], none, .q (.mv (.t 7))⟩])
  .ret)))
def pu78 : List Nat := [2]
def rs78 : List RV := [.t 3]
theorem cc78 : comp Try.prog pu78 (Try.f78.ntmps, 0) 0 1 rc78 (Try.f78.body.getD .skip) = some rc78 := by kernel_rfl
theorem cb78 : Try.f78.body = some (Try.f78.body.getD .skip) := by kernel_rfl
theorem cs78 : resRV Try.prog Try.f78.results.toList = some rs78 := by kernel_rfl
theorem cn78 : 2 ≤ Try.f78.ntmps := by decide
/- ferrule/cloth.all[ferrule/api.Strip]: params [55, 96], free 0, slots 9 -/
def rc79 : RC :=
  (.seq (.reg false [⟨(some 3), none, [1], none, .q (.box (.t 1))⟩,
    ⟨(some 4), none, [], none, .q (.mv (.k (.b false)))⟩])
  (.keep [0, 3] (.seq (.reg false [⟨(some 5), none, [0], none, .q (.mv (.t 0))⟩,
    ⟨(some 6), none, [3], none, .q (.mkf 87 [(.t 3)])⟩,
    ⟨(some 7), none, [5, 6], none, .q (.call (.k (.fn 86 [])) [(.t 5), (.t 6)])⟩,
    ⟨(some 8), none, [7], none, .q (.not (.t 7))⟩,
    ⟨(some 4), none, [8], none, .q (.mv (.t 8))⟩])
  .ret)))
def pu79 : List Nat := [3]
def rs79 : List RV := [.t 4]
theorem cc79 : comp Try.prog pu79 (Try.f79.ntmps, 0) 0 1 rc79 (Try.f79.body.getD .skip) = some rc79 := by kernel_rfl
theorem cb79 : Try.f79.body = some (Try.f79.body.getD .skip) := by kernel_rfl
theorem cs79 : resRV Try.prog Try.f79.results.toList = some rs79 := by kernel_rfl
theorem cn79 : 2 ≤ Try.f79.ntmps := by decide
/- ferrule/cloth.isStrip: params [52], free 0, slots 11 -/
def rc80 : RC :=
  (.seq (.reg false [⟨(some 1), none, [0], none, .q (.box (.t 0))⟩,
    ⟨(some 2), none, [], none, .q (.mv (.k (.b false)))⟩])
  (.keep [1] (.seq (.reg true [⟨(some 3), none, [1], none, .q (.fad 0 (.t 1))⟩,
    ⟨(some 4), none, [3], none, .q (.ld false 1 (.t 3))⟩,
    ⟨(some 5), none, [4], none, .q (.call (.k (.fn 67 [])) [(.t 4), (.k (.i 1)), (.k (.i 2000))])⟩,
    ⟨(some 6), none, [5], none, .q (.mv (.t 5))⟩,
    ⟨(some 7), (some (6, true)), [1], none, .q (.fad 1 (.t 1))⟩,
    ⟨(some 8), (some (6, true)), [7], none, .q (.ld true 2 (.t 7))⟩,
    ⟨(some 9), (some (6, true)), [8], none, .q (.call (.k (.fn 73 [])) [(.t 8), (.k (.i 4000))])⟩,
    ⟨(some 10), none, [6, 9], none, .q (.pick (.t 6) (.t 9) (.k (.b false)))⟩,
    ⟨(some 2), none, [10], none, .q (.mv (.t 10))⟩])
  .ret)))
def pu80 : List Nat := [1]
def rs80 : List RV := [.t 2]
theorem cc80 : comp Try.prog pu80 (Try.f80.ntmps, 0) 0 1 rc80 (Try.f80.body.getD .skip) = some rc80 := by kernel_rfl
theorem cb80 : Try.f80.body = some (Try.f80.body.getD .skip) := by kernel_rfl
theorem cs80 : resRV Try.prog Try.f80.results.toList = some rs80 := by kernel_rfl
theorem cn80 : 1 ≤ Try.f80.ntmps := by decide
/- slices.ContainsFunc[[]int,int]: params [23, 91], free 0, slots 9 -/
def rc81 : RC :=
  (.seq (.reg false [⟨(some 4), none, [], none, .q (.mv (.k (.b false)))⟩])
  (.keep [0, 1] (.seq (.reg false [⟨(some 5), none, [0], none, .q (.mv (.t 0))⟩,
    ⟨(some 6), none, [1], none, .q (.mv (.t 1))⟩,
    ⟨(some 7), none, [5, 6], none, .q (.call (.k (.fn 88 [])) [(.t 5), (.t 6)])⟩,
    ⟨(some 8), none, [7], none, .q (.bin .geq (.t 7) (.k (.i 0)))⟩,
    ⟨(some 4), none, [8], none, .q (.mv (.t 8))⟩])
  .ret)))
def pu81 : List Nat := []
def rs81 : List RV := [.t 4]
theorem cc81 : comp Try.prog pu81 (Try.f81.ntmps, 0) 0 1 rc81 (Try.f81.body.getD .skip) = some rc81 := by kernel_rfl
theorem cb81 : Try.f81.body = some (Try.f81.body.getD .skip) := by kernel_rfl
theorem cs81 : resRV Try.prog Try.f81.results.toList = some rs81 := by kernel_rfl
theorem cn81 : 2 ≤ Try.f81.ntmps := by decide
/- ferrule/cloth.all[int]$1: params [3], free 1, slots 8 -/
def rc82 : RC :=
  (.seq (.reg false [⟨(some 3), none, [], none, .q (.mv (.k (.b false)))⟩])
  (.keep [0, 1] (.seq (.reg false [⟨(some 4), none, [1], none, .q (.ld false 1 (.t 1))⟩,
    ⟨(some 5), none, [0], none, .q (.mv (.t 0))⟩,
    ⟨(some 6), none, [4, 5], none, .q (.call (.t 4) [(.t 5)])⟩,
    ⟨(some 7), none, [6], none, .q (.not (.t 6))⟩,
    ⟨(some 3), none, [7], none, .q (.mv (.t 7))⟩])
  .ret)))
def pu82 : List Nat := []
def rs82 : List RV := [.t 3]
theorem cc82 : comp Try.prog pu82 (Try.f82.ntmps, 0) 0 1 rc82 (Try.f82.body.getD .skip) = some rc82 := by kernel_rfl
theorem cb82 : Try.f82.body = some (Try.f82.body.getD .skip) := by kernel_rfl
theorem cs82 : resRV Try.prog Try.f82.results.toList = some rs82 := by kernel_rfl
theorem cn82 : 2 ≤ Try.f82.ntmps := by decide
/- slices.ContainsFunc[[]ferrule/api.Span,ferrule/api.Span]: params [24, 92], free 0, slots 9 -/
def rc83 : RC :=
  (.seq (.reg false [⟨(some 4), none, [], none, .q (.mv (.k (.b false)))⟩])
  (.keep [0, 1] (.seq (.reg false [⟨(some 5), none, [0], none, .q (.mv (.t 0))⟩,
    ⟨(some 6), none, [1], none, .q (.mv (.t 1))⟩,
    ⟨(some 7), none, [5, 6], none, .q (.call (.k (.fn 89 [])) [(.t 5), (.t 6)])⟩,
    ⟨(some 8), none, [7], none, .q (.bin .geq (.t 7) (.k (.i 0)))⟩,
    ⟨(some 4), none, [8], none, .q (.mv (.t 8))⟩])
  .ret)))
def pu83 : List Nat := []
def rs83 : List RV := [.t 4]
theorem cc83 : comp Try.prog pu83 (Try.f83.ntmps, 0) 0 1 rc83 (Try.f83.body.getD .skip) = some rc83 := by kernel_rfl
theorem cb83 : Try.f83.body = some (Try.f83.body.getD .skip) := by kernel_rfl
theorem cs83 : resRV Try.prog Try.f83.results.toList = some rs83 := by kernel_rfl
theorem cn83 : 2 ≤ Try.f83.ntmps := by decide
/- ferrule/cloth.all[ferrule/api.Span]$1: params [34], free 1, slots 8 -/
def rc84 : RC :=
  (.seq (.reg false [⟨(some 2), none, [0], none, .q (.box (.t 0))⟩,
    ⟨(some 3), none, [], none, .q (.mv (.k (.b false)))⟩])
  (.keep [1, 2] (.seq (.reg false [⟨(some 4), none, [1], none, .q (.ld false 1 (.t 1))⟩,
    ⟨(some 5), none, [2], none, .q (.ld true 2 (.t 2))⟩,
    ⟨(some 6), none, [4, 5], none, .q (.call (.t 4) [(.t 5)])⟩,
    ⟨(some 7), none, [6], none, .q (.not (.t 6))⟩,
    ⟨(some 3), none, [7], none, .q (.mv (.t 7))⟩])
  .ret)))
def pu84 : List Nat := [2]
def rs84 : List RV := [.t 3]
theorem cc84 : comp Try.prog pu84 (Try.f84.ntmps, 0) 0 1 rc84 (Try.f84.body.getD .skip) = some rc84 := by kernel_rfl
theorem cb84 : Try.f84.body = some (Try.f84.body.getD .skip) := by kernel_rfl
theorem cs84 : resRV Try.prog Try.f84.results.toList = some rs84 := by kernel_rfl
theorem cn84 : 2 ≤ Try.f84.ntmps := by decide
/- slices.IndexFunc[[]ferrule/api.Bolt,ferrule/api.Bolt]: params [22, 83], free 0, slots 19 -/
def rc85 : RC :=
  (.seq (.reg false [⟨(some 4), none, [], none, .q (.mv (.k (.i 0)))⟩])
  (.keep [0, 1] (.seq (.seq (.reg false [⟨(some 6), none, [0], none, .q (.mv (.t 0))⟩,
    ⟨(some 7), none, [6], none, .q (.len (.t 6))⟩,
    ⟨(some 8), none, [], none, .q (.mv (.k (.i 0)))⟩])
  (.keep [0, 1, 7, 8] (.block 0 (.loop [0, 1, 7, 8] none (.seq (.reg false [⟨(some 9), none, [8, 7], none, .q (.bin .lss (.t 8) (.t 7))⟩])
  (.keep [0, 1, 7, 8, 9] (.seq (.cond (.t 9)
    .skip
    (.exit 0))
  (.keep [0, 1, 7, 8] (.seq (.block 1 (.seq (.reg false [⟨(some 10), none, [8], none, .q (.mv (.t 8))⟩,
    ⟨(some 5), none, [10], none, .q (.mv (.t 10))⟩])
  (.keep [0, 1, 5, 7, 8] (.seq (.reg false [⟨(some 11), none, [1], none, .q (.mv (.t 1))⟩,
    ⟨(some 12), none, [0], none, .q (.mv (.t 0))⟩,
    ⟨(some 13), none, [5], none, .q (.mv (.t 5))⟩,
    ⟨(some 14), none, [12, 13], none, .q (.iad 4 (.t 12) (.t 13))⟩,
    ⟨(some 15), none, [14], none, .q (.ld true 4 (.t 14))⟩,
    ⟨(some 16), none, [11, 15], none, .q (.call (.t 11) [(.t 15)])⟩])
  (.keep [0, 1, 5, 7, 8, 16] (.cond (.t 16)
    (.seq (.reg false [⟨(some 17), none, [5], none, .q (.mv (.t 5))⟩,
      ⟨(some 4), none, [17], none, .q (.mv (.t 17))⟩])
    .ret)
    .skip))))))
  (.keep [0, 1, 7, 8] (.reg false [⟨(some 18), none, [8], none, .q (.bin .add (.t 8) (.k (.i 1)))⟩,
    ⟨(some 8), none, [18], none, .q (.mv (.t 18))⟩])))))))))))
  (.keep [] (.seq (.reg false [⟨(some 4), none, [], none, .q (.mv (.k (.i (-1))))⟩])
  .ret)))))
def pu85 : List Nat := []
def rs85 : List RV := [.t 4]
theorem cc85 : comp Try.prog pu85 (Try.f85.ntmps, 0) 0 1 rc85 (Try.f85.body.getD .skip) = some rc85 := by kernel_rfl
theorem cb85 : Try.f85.body = some (Try.f85.body.getD .skip) := by kernel_rfl
theorem cs85 : resRV Try.prog Try.f85.results.toList = some rs85 := by kernel_rfl
theorem cn85 : 2 ≤ Try.f85.ntmps := by decide
/- slices.ContainsFunc[[]ferrule/api.Strip,ferrule/api.Strip]: params [55, 96], free 0, slots 9 -/
def rc86 : RC :=
  (.seq (.reg false [⟨(some 4), none, [], none, .q (.mv (.k (.b false)))⟩])
  (.keep [0, 1] (.seq (.reg false [⟨(some 5), none, [0], none, .q (.mv (.t 0))⟩,
    ⟨(some 6), none, [1], none, .q (.mv (.t 1))⟩,
    ⟨(some 7), none, [5, 6], none, .q (.call (.k (.fn 90 [])) [(.t 5), (.t 6)])⟩,
    ⟨(some 8), none, [7], none, .q (.bin .geq (.t 7) (.k (.i 0)))⟩,
    ⟨(some 4), none, [8], none, .q (.mv (.t 8))⟩])
  .ret)))
def pu86 : List Nat := []
def rs86 : List RV := [.t 4]
theorem cc86 : comp Try.prog pu86 (Try.f86.ntmps, 0) 0 1 rc86 (Try.f86.body.getD .skip) = some rc86 := by kernel_rfl
theorem cb86 : Try.f86.body = some (Try.f86.body.getD .skip) := by kernel_rfl
theorem cs86 : resRV Try.prog Try.f86.results.toList = some rs86 := by kernel_rfl
theorem cn86 : 2 ≤ Try.f86.ntmps := by decide
/- ferrule/cloth.all[ferrule/api.Strip]$1: params [52], free 1, slots 8 -/
def rc87 : RC :=
  (.seq (.reg false [⟨(some 2), none, [0], none, .q (.box (.t 0))⟩,
    ⟨(some 3), none, [], none, .q (.mv (.k (.b false)))⟩])
  (.keep [1, 2] (.seq (.reg false [⟨(some 4), none, [1], none, .q (.ld false 1 (.t 1))⟩,
    ⟨(some 5), none, [2], none, .q (.ld true 3 (.t 2))⟩,
    ⟨(some 6), none, [4, 5], none, .q (.call (.t 4) [(.t 5)])⟩,
    ⟨(some 7), none, [6], none, .q (.not (.t 6))⟩,
    ⟨(some 3), none, [7], none, .q (.mv (.t 7))⟩])
  .ret)))
def pu87 : List Nat := [2]
def rs87 : List RV := [.t 3]
theorem cc87 : comp Try.prog pu87 (Try.f87.ntmps, 0) 0 1 rc87 (Try.f87.body.getD .skip) = some rc87 := by kernel_rfl
theorem cb87 : Try.f87.body = some (Try.f87.body.getD .skip) := by kernel_rfl
theorem cs87 : resRV Try.prog Try.f87.results.toList = some rs87 := by kernel_rfl
theorem cn87 : 2 ≤ Try.f87.ntmps := by decide
/- slices.IndexFunc[[]int,int]: params [23, 91], free 0, slots 19 -/
def rc88 : RC :=
  (.seq (.reg false [⟨(some 4), none, [], none, .q (.mv (.k (.i 0)))⟩])
  (.keep [0, 1] (.seq (.seq (.reg false [⟨(some 6), none, [0], none, .q (.mv (.t 0))⟩,
    ⟨(some 7), none, [6], none, .q (.len (.t 6))⟩,
    ⟨(some 8), none, [], none, .q (.mv (.k (.i 0)))⟩])
  (.keep [0, 1, 7, 8] (.block 0 (.loop [0, 1, 7, 8] none (.seq (.reg false [⟨(some 9), none, [8, 7], none, .q (.bin .lss (.t 8) (.t 7))⟩])
  (.keep [0, 1, 7, 8, 9] (.seq (.cond (.t 9)
    .skip
    (.exit 0))
  (.keep [0, 1, 7, 8] (.seq (.block 1 (.seq (.reg false [⟨(some 10), none, [8], none, .q (.mv (.t 8))⟩,
    ⟨(some 5), none, [10], none, .q (.mv (.t 10))⟩])
  (.keep [0, 1, 5, 7, 8] (.seq (.reg false [⟨(some 11), none, [1], none, .q (.mv (.t 1))⟩,
    ⟨(some 12), none, [0], none, .q (.mv (.t 0))⟩,
    ⟨(some 13), none, [5], none, .q (.mv (.t 5))⟩,
    ⟨(some 14), none, [12, 13], none, .q (.iad 1 (.t 12) (.t 13))⟩,
    ⟨(some 15), none, [14], none, .q (.ld false 1 (.t 14))⟩,
    ⟨(some 16), none, [11, 15], none, .q (.call (.t 11) [(.t 15)])⟩])
  (.keep [0, 1, 5, 7, 8, 16] (.cond (.t 16)
    (.seq (.reg false [⟨(some 17), none, [5], none, .q (.mv (.t 5))⟩,
      ⟨(some 4), none, [17], none, .q (.mv (.t 17))⟩])
    .ret)
    .skip))))))
  (.keep [0, 1, 7, 8] (.reg false [⟨(some 18), none, [8], none, .q (.bin .add (.t 8) (.k (.i 1)))⟩,
    ⟨(some 8), none, [18], none, .q (.mv (.t 18))⟩])))))))))))
  (.keep [] (.seq (.reg false [⟨(some 4), none, [], none, .q (.mv (.k (.i (-1))))⟩])
  .ret)))))
def pu88 : List Nat := []
def rs88 : List RV := [.t 4]
theorem cc88 : comp Try.prog pu88 (Try.f88.ntmps, 0) 0 1 rc88 (Try.f88.body.getD .skip) = some rc88 := by kernel_rfl
theorem cb88 : Try.f88.body = some (Try.f88.body.getD .skip) := by kernel_rfl
theorem cs88 : resRV Try.prog Try.f88.results.toList = some rs88 := by kernel_rfl
theorem cn88 : 2 ≤ Try.f88.ntmps := by decide
/- slices.IndexFunc[[]ferrule/api.Span,ferrule/api.Span]: params [24, 92], free 0, slots 19 -/
def rc89 : RC :=
  (.seq (.reg false [⟨(some 4), none, [], none, .q (.mv (.k (.i 0)))⟩])
  (.keep [0, 1] (.seq (.seq (.reg false [⟨(some 6), none, [0], none, .q (.mv (.t 0))⟩,
    ⟨(some 7), none, [6], none, .q (.len (.t 6))⟩,
    ⟨(some 8), none, [], none, .q (.mv (.k (.i 0)))⟩])
  (.keep [0, 1, 7, 8] (.block 0 (.loop [0, 1, 7, 8] none (.seq (.reg false [⟨(some 9), none, [8, 7], none, .q (.bin .lss (.t 8) (.t 7))⟩])
  (.keep [0, 1, 7, 8, 9] (.seq (.cond (.t 9)
    .skip
    (.exit 0))
  (.keep [0, 1, 7, 8] (.seq (.block 1 (.seq (.reg false [⟨(some 10), none, [8], none, .q (.mv (.t 8))⟩,
    ⟨(some 5), none, [10], none, .q (.mv (.t 10))⟩])
  (.keep [0, 1, 5, 7, 8] (.seq (.reg false [⟨(some 11), none, [1], none, .q (.mv (.t 1))⟩,
    ⟨(some 12), none, [0], none, .q (.mv (.t 0))⟩,
    ⟨(some 13), none, [5], none, .q (.mv (.t 5))⟩,
    ⟨(some 14), none, [12, 13], none, .q (.iad 2 (.t 12) (.t 13))⟩,
    ⟨(some 15), none, [14], none, .q (.ld true 2 (.t 14))⟩,
    ⟨(some 16), none, [11, 15], none, .q (.call (.t 11) [(.t 15)])⟩])
  (.keep [0, 1, 5, 7, 8, 16] (.cond (.t 16)
    (.seq (.reg false [⟨(some 17), none, [5], none, .q (.mv (.t 5))⟩,
      ⟨(some 4), none, [17], none, .q (.mv (.t 17))⟩])
    .ret)
    .skip))))))
  (.keep [0, 1, 7, 8] (.reg false [⟨(some 18), none, [8], none, .q (.bin .add (.t 8) (.k (.i 1)))⟩,
    ⟨(some 8), none, [18], none, .q (.mv (.t 18))⟩])))))))))))
  (.keep [] (.seq (.reg false [⟨(some 4), none, [], none, .q (.mv (.k (.i (-1))))⟩])
  .ret)))))
def pu89 : List Nat := []
def rs89 : List RV := [.t 4]
theorem cc89 : comp Try.prog pu89 (Try.f89.ntmps, 0) 0 1 rc89 (Try.f89.body.getD .skip) = some rc89 := by kernel_rfl
theorem cb89 : Try.f89.body = some (Try.f89.body.getD .skip) := by kernel_rfl
theorem cs89 : resRV Try.prog Try.f89.results.toList = some rs89 := by kernel_rfl
theorem cn89 : 2 ≤ Try.f89.ntmps := by decide
/- slices.IndexFunc[[]ferrule/api.Strip,ferrule/api.Strip]: params [55, 96], free 0, slots 19 -/
def rc90 : RC :=
  (.seq (.reg false [⟨(some 4), none, [], none, .q (.mv (.k (.i 0)))⟩])
  (.keep [0, 1] (.seq (.seq (.reg false [⟨(some 6), none, [0], none, .q (.mv (.t 0))⟩,
    ⟨(some 7), none, [6], none, .q (.len (.t 6))⟩,
    ⟨(some 8), none, [], none, .q (.mv (.k (.i 0)))⟩])
  (.keep [0, 1, 7, 8] (.block 0 (.loop [0, 1, 7, 8] none (.seq (.reg false [⟨(some 9), none, [8, 7], none, .q (.bin .lss (.t 8) (.t 7))⟩])
  (.keep [0, 1, 7, 8, 9] (.seq (.cond (.t 9)
    .skip
    (.exit 0))
  (.keep [0, 1, 7, 8] (.seq (.block 1 (.seq (.reg false [⟨(some 10), none, [8], none, .q (.mv (.t 8))⟩,
    ⟨(some 5), none, [10], none, .q (.mv (.t 10))⟩])
  (.keep [0, 1, 5, 7, 8] (.seq (.reg false [⟨(some 11), none, [1], none, .q (.mv (.t 1))⟩,
    ⟨(some 12), none, [0], none, .q (.mv (.t 0))⟩,
    ⟨(some 13), none, [5], none, .q (.mv (.t 5))⟩,
    ⟨(some 14), none, [12, 13], none, .q (.iad 3 (.t 12) (.t 13))⟩,
    ⟨(some 15), none, [14], none, .q (.ld true 3 (.t 14))⟩,
    ⟨(some 16), none, [11, 15], none, .q (.call (.t 11) [(.t 15)])⟩])
  (.keep [0, 1, 5, 7, 8, 16] (.cond (.t 16)
    (.seq (.reg false [⟨(some 17), none, [5], none, .q (.mv (.t 5))⟩,
      ⟨(some 4), none, [17], none, .q (.mv (.t 17))⟩])
    .ret)
    .skip))))))
  (.keep [0, 1, 7, 8] (.reg false [⟨(some 18), none, [8], none, .q (.bin .add (.t 8) (.k (.i 1)))⟩,
    ⟨(some 8), none, [18], none, .q (.mv (.t 18))⟩])))))))))))
  (.keep [] (.seq (.reg false [⟨(some 4), none, [], none, .q (.mv (.k (.i (-1))))⟩])
  .ret)))))
def pu90 : List Nat := []
def rs90 : List RV := [.t 4]
theorem cc90 : comp Try.prog pu90 (Try.f90.ntmps, 0) 0 1 rc90 (Try.f90.body.getD .skip) = some rc90 := by kernel_rfl
theorem cb90 : Try.f90.body = some (Try.f90.body.getD .skip) := by kernel_rfl
theorem cs90 : resRV Try.prog Try.f90.results.toList = some rs90 := by kernel_rfl
theorem cn90 : 2 ≤ Try.f90.ntmps := by decide
end Go.C02
set_option linter.unusedSimpArgs false
set_option linter.unusedVariables false
namespace Go.C02
open Go.Fam Go.Proofs
theorem hmix : Try.prog.follows .mixedOrders = true := by kernel_rfl
variable {Γ : Gam}

def within (n lo hi : Int) : Bool := decide (lo ≤ n) && decide (n ≤ hi)
def pull (l s : Int) : Int := (l * (1000 + s)).tdiv 1000
def tame (m n : Int) : Prop := -m ≤ n ∧ n ≤ m

theorem P54 (hG : GOk Try.prog Γ) (n lo hi : Int) : PureCall Try.prog 54 [.i n, .i lo, .i hi] (.b (within n lo hi)) := by
  refine pure_body hG hmix Try.func54 cb54 cc54 cs54 cn54 ?_
  simp only [rc54, rs54, ru_reg, ru_seq, ru_ret, ru_keep, thenQ, run_nil, run_cons, Fam.step, stepQ, needQ, condB, ug, evO, opv, qv, pickV_bb, binV, upd_some, lkp_cons, lkp_nil, ↓reduceIte, Nat.reduceEqDiff, Nat.reduceAdd, List.map_cons, List.map_nil, List.all_cons, List.all_nil, endQ, rvs, rv1, resV, vw_b, zipA, Nat.zero_add, V.b.injEq, Bool.and_self, Bool.and_true, decide_eq_true_eq, decide_eq_false_iff_not, true_and, and_true, and_self, implies_true, reduceCtorEq, beq_true, ite_f, imp_self]
  by_cases h : lo ≤ n <;> simp [h, within]
theorem P67 (hG : GOk Try.prog Γ) (n lo hi : Int) : PureCall Try.prog 67 [.i n, .i lo, .i hi] (.b (within n lo hi)) := by
  refine pure_body hG hmix Try.func67 cb67 cc67 cs67 cn67 ?_
  simp only [rc67, rs67, ru_reg, ru_seq, ru_ret, ru_keep, thenQ, run_nil, run_cons, Fam.step, stepQ, needQ, condB, ug, evO, opv, qv, pickV_bb, binV, upd_some, lkp_cons, lkp_nil, ↓reduceIte, Nat.reduceEqDiff, Nat.reduceAdd, List.map_cons, List.map_nil, List.all_cons, List.all_nil, endQ, rvs, rv1, resV, vw_b, zipA, Nat.zero_add, V.b.injEq, Bool.and_self, Bool.and_true, decide_eq_true_eq, decide_eq_false_iff_not, true_and, and_true, and_self, implies_true, reduceCtorEq, beq_true, ite_f, imp_self]
  by_cases h : lo ≤ n <;> simp [h, within]

theorem mul_tame {a b m n : Int} (ha : tame m a) (hb : tame n b) (hm : 0 ≤ m) (hn : 0 ≤ n) : tame (m * n) (a * b) := by
  unfold tame at *
  constructor
  · by_cases h : 0 ≤ a
    · by_cases h' : 0 ≤ b
      · have := Int.mul_nonneg h h'; have := Int.mul_nonneg hm hn; omega
      · have := Int.mul_le_mul ha.2 (show -b ≤ n by omega) (by omega) hm
        have e := Int.mul_neg a b
        omega
    · by_cases h' : 0 ≤ b
      · have := Int.mul_le_mul (show -a ≤ m by omega) hb.2 (by omega) hm
        have e := Int.neg_mul a b
        omega
      · have := Int.mul_nonneg (show 0 ≤ -a by omega) (show 0 ≤ -b by omega)
        have e := Int.neg_mul_neg a b
        have := Int.mul_nonneg hm hn
        omega
  · by_cases h : 0 ≤ a
    · by_cases h' : 0 ≤ b
      · exact Int.mul_le_mul ha.2 hb.2 h' hm
      · have := Int.mul_nonneg h (show 0 ≤ -b by omega)
        have e := Int.mul_neg a b
        have := Int.mul_nonneg hm hn
        omega
    · by_cases h' : 0 ≤ b
      · have := Int.mul_nonneg (show 0 ≤ -a by omega) h'
        have e := Int.neg_mul a b
        have := Int.mul_nonneg hm hn
        omega
      · have := Int.mul_le_mul (show -a ≤ m by omega) (show -b ≤ n by omega) (by omega) hm
        have e := Int.neg_mul_neg a b
        omega

theorem pull_in {l s : Int} (hl : tame 1000000 l) (hs : tame 1000000 s) : inI (1000 + s) ∧ inI (l * (1000 + s)) ∧ inI (pull l s) := by
  have h1 : tame 1001000 (1000 + s) := by unfold tame at *; omega
  have h2 := mul_tame hl h1 (by decide) (by decide)
  unfold pull inI
  unfold tame at *
  have h3 : (l * (1000 + s)).tdiv 1000 ≤ 1000000 * 1001000 ∧ -(1000000 * 1001000) ≤ (l * (1000 + s)).tdiv 1000 := by
    generalize l * (1000 + s) = x at *
    constructor
    · by_cases h : 0 ≤ x
      · rw [Int.tdiv_eq_ediv_of_nonneg h]; omega
      · have : x.tdiv 1000 ≤ 0 := by
          have e : x = -(-x) := by omega
          rw [e, Int.neg_tdiv, Int.tdiv_eq_ediv_of_nonneg (by omega)]; omega
        omega
    · by_cases h : 0 ≤ x
      · rw [Int.tdiv_eq_ediv_of_nonneg h]; omega
      · have e : x = -(-x) := by omega
        rw [e, Int.neg_tdiv, Int.tdiv_eq_ediv_of_nonneg (by omega)]; omega
  omega

theorem P57 (hG : GOk Try.prog Γ) (l s : Int) (hl : tame 1000000 l) (hs : tame 1000000 s) : PureCall Try.prog 57 [.i l, .i s] (.i (pull l s)) := by
  obtain ⟨h1, h2, h3⟩ := pull_in hl hs
  refine pure_body hG hmix Try.func57 cb57 cc57 cs57 cn57 ?_
  simp only [rc57, rs57, ru_reg, ru_seq, ru_ret, ru_keep, thenQ, run_nil, run_cons, Fam.step, stepQ, evO, opv, qv, binV, upd_some, lkp_cons, lkp_nil, ↓reduceIte, Nat.reduceEqDiff, Int.reduceEq, List.map_cons, List.map_nil, endQ, rvs, rv1, resV, vw_i, zipA, Nat.zero_add, V.i.injEq, true_and, and_self, reduceCtorEq, not_false_eq_true, ne_eq]
  exact ⟨h1, h2, by simpa [pull] using h3, rfl⟩
theorem P69 (hG : GOk Try.prog Γ) (l s : Int) (hl : tame 1000000 l) (hs : tame 1000000 s) : PureCall Try.prog 69 [.i l, .i s] (.i (pull l s)) := by
  obtain ⟨h1, h2, h3⟩ := pull_in hl hs
  refine pure_body hG hmix Try.func69 cb69 cc69 cs69 cn69 ?_
  simp only [rc69, rs69, ru_reg, ru_seq, ru_ret, ru_keep, thenQ, run_nil, run_cons, Fam.step, stepQ, evO, opv, qv, binV, upd_some, lkp_cons, lkp_nil, ↓reduceIte, Nat.reduceEqDiff, Int.reduceEq, List.map_cons, List.map_nil, endQ, rvs, rv1, resV, vw_i, zipA, Nat.zero_add, V.i.injEq, true_and, and_self, reduceCtorEq, not_false_eq_true, ne_eq]
  exact ⟨h1, h2, by simpa [pull] using h3, rfl⟩

def r54 : List V → Prop × V | [.i n, .i lo, .i hi] => (True, .b (within n lo hi)) | _ => (False, .u)
def r57 : List V → Prop × V | [.i l, .i s] => (tame 1000000 l ∧ tame 1000000 s, .i (pull l s)) | _ => (False, .u)
theorem h54 (hG : GOk Try.prog Γ) (vs : List V) (h : (r54 vs).1) : PureCall Try.prog 54 vs (r54 vs).2 := by
  unfold r54 at h ⊢; split at h <;> first | exact P54 hG _ _ _ | exact h.elim
theorem h67 (hG : GOk Try.prog Γ) (vs : List V) (h : (r54 vs).1) : PureCall Try.prog 67 vs (r54 vs).2 := by
  unfold r54 at h ⊢; split at h <;> first | exact P67 hG _ _ _ | exact h.elim
theorem h57 (hG : GOk Try.prog Γ) (vs : List V) (h : (r57 vs).1) : PureCall Try.prog 57 vs (r57 vs).2 := by
  unfold r57 at h ⊢; split at h <;> first | exact P57 hG _ _ h.1 h.2 | exact h.elim
theorem h69 (hG : GOk Try.prog Γ) (vs : List V) (h : (r57 vs).1) : PureCall Try.prog 69 vs (r57 vs).2 := by
  unfold r57 at h ⊢; split at h <;> first | exact P69 hG _ _ h.1 h.2 | exact h.elim
def GA : Gam := (((Γ0.ext 54 r54).ext 67 r54).ext 57 r57).ext 69 r57
theorem okA : GOk Try.prog GA :=
  (((g0_ok.ext (fun a w => Try.call54 a w) (h54 g0_ok)).ext (fun a w => Try.call67 a w) (h67 g0_ok)).ext (fun a w => Try.call57 a w) (h57 g0_ok)).ext (fun a w => Try.call69 a w) (h69 g0_ok)
theorem gA54 (n lo hi : Int) : GA 54 [.i n, .i lo, .i hi] = (True, .b (within n lo hi)) := rfl
theorem gA67 (n lo hi : Int) : GA 67 [.i n, .i lo, .i hi] = (True, .b (within n lo hi)) := rfl
theorem gA57 (l s : Int) : GA 57 [.i l, .i s] = (tame 1000000 l ∧ tame 1000000 s, .i (pull l s)) := rfl
end Go.C02
