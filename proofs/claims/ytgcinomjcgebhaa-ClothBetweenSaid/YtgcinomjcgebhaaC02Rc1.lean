import Derived.Test.YtgcinomjcgebhaaFam14
import Derived.Test.YtgcinomjcgebhaaChecked
set_option linter.all false
/- Resolved code, printed by program (wip/tools/mkrc.py). -/
set_option maxRecDepth 8000
namespace Go.C02
open Go.Fam Go.Proofs
/- ferrule/ferrulelaw02.ClothBetween: params [26, 3, 3], free 0, slots 93 -/
def rc3 : RC :=
  (.seq (.reg false [⟨(some 3), none, [0], none, .q (.box (.t 0))⟩,
    ⟨(some 6), none, [], none, .q (.mv (.k (.b false)))⟩])
  (.keep [1, 2, 3] (.seq (.seq (.reg true [⟨(some 11), none, [3], none, .q (.ld true 6 (.t 3))⟩,
    ⟨(some 12), none, [1], none, .q (.mv (.t 1))⟩,
    ⟨(some 13), none, [11, 12], none, .q (.call (.k (.fn 15 [])) [(.t 11), (.t 12)])⟩,
    ⟨(some 14), none, [13], none, .q (.not (.t 13))⟩,
    ⟨(some 15), none, [14], none, .q (.mv (.t 14))⟩,
    ⟨(some 16), (some (15, false)), [2], none, .q (.mv (.t 2))⟩,
    ⟨(some 17), (some (15, false)), [3], none, .q (.fad 2 (.t 3))⟩,
    ⟨(some 18), (some (15, false)), [17], none, .q (.ld false 1 (.t 17))⟩,
    ⟨(some 19), (some (15, false)), [18], none, .q (.bin .mul (.k (.i 2)) (.t 18))⟩,
    ⟨(some 20), (some (15, false)), [16, 19], none, .q (.bin .lss (.t 16) (.t 19))⟩,
    ⟨(some 21), none, [15, 20], none, .q (.pick (.t 15) (.k (.b true)) (.t 20))⟩,
    ⟨(some 22), none, [21], none, .q (.mv (.t 21))⟩,
    ⟨(some 23), (some (22, false)), [2], none, .q (.mv (.t 2))⟩,
    ⟨(some 24), (some (22, false)), [23], none, .q (.bin .gtr (.t 23) (.k (.i 2000)))⟩,
    ⟨(some 25), none, [22, 24], none, .q (.pick (.t 22) (.k (.b true)) (.t 24))⟩])
  (.keep [1, 2, 3, 25] (.cond (.t 25)
    (.seq (.reg false [⟨(some 26), none, [], none, .q (.call (.k (.fn 16 [])) [])⟩,
      ⟨(some 6), none, [26], none, .q (.mv (.t 26))⟩])
    .ret)
    .skip)))
  (.keep [1, 2, 3] (.seq (.reg false [⟨(some 28), none, [3], none, .q (.ld true 6 (.t 3))⟩,
    ⟨(some 29), none, [1], none, .q (.mv (.t 1))⟩,
    ⟨(some 30), none, [2], none, .q (.mv (.t 2))⟩,
    ⟨(some 31), none, [28, 29, 30], none, .q (.call (.k (.fn 18 [])) [(.t 28), (.t 29), (.t 30)])⟩,
    ⟨(some 32), none, [1], none, .q (.mv (.t 1))⟩,
    ⟨(some 33), none, [31, 32], none, .q (.call (.k (.fn 17 [])) [(.t 31), (.t 32)])⟩,
    ⟨(some 27), none, [33], none, .q (.mv (.t 33))⟩,
    ⟨(some 34), none, [27], none, .q (.ext (.t 27) 0)⟩,
    ⟨(some 35), none, [27], none, .q (.ext (.t 27) 1)⟩,
    ⟨(some 7), none, [34], none, .q (.mv (.t 34))⟩,
    ⟨(some 8), none, [35], none, .q (.mv (.t 35))⟩])
  (.keep [1, 2, 3, 7, 8] (.seq (.reg false [⟨(some 37), none, [3], none, .q (.ld true 6 (.t 3))⟩,
    ⟨(some 38), none, [1], none, .q (.mv (.t 1))⟩,
    ⟨(some 39), none, [37, 38], none, .q (.call (.k (.fn 19 [])) [(.t 37), (.t 38)])⟩,
    ⟨(some 36), none, [39], none, .q (.mv (.t 39))⟩,
    ⟨(some 40), none, [36], none, .q (.ext (.t 36) 0)⟩,
    ⟨(some 41), none, [36], none, .q (.ext (.t 36) 1)⟩,
    ⟨(some 9), none, [], none, .w (.alc [(.i 0), (.i 0)])⟩,
    ⟨none, none, [9, 40], none, .w (.st 2 (.t 9) (.t 40))⟩,
    ⟨(some 10), none, [41], none, .q (.mv (.t 41))⟩])
  (.keep [2, 3, 7, 8, 9, 10] (.seq (.seq (.reg false [⟨(some 42), none, [8], none, .q (.mv (.t 8))⟩,
    ⟨(some 43), none, [42], none, .q (.bin .neq (.t 42) (.k (.i 0)))⟩])
  (.keep [2, 3, 7, 8, 9, 10, 43] (.cond (.t 43)
    (.seq (.reg true [⟨(some 44), none, [8], none, .q (.mv (.t 8))⟩,
      ⟨(some 45), none, [44], none, .q (.bin .eql (.t 44) (.k (.i 3)))⟩,
      ⟨(some 46), none, [45], none, .q (.mv (.t 45))⟩,
      ⟨(some 47), (some (46, true)), [10], none, .q (.mv (.t 10))⟩,
      ⟨(some 48), (some (46, true)), [47], none, .q (.bin .eql (.t 47) (.k (.i 3)))⟩,
      ⟨(some 49), none, [46, 48], none, .q (.pick (.t 46) (.t 48) (.k (.b false)))⟩,
      ⟨(some 50), none, [49], none, .q (.mv (.t 49))⟩,
      ⟨(some 51), (some (50, true)), [], none, .q (.call (.k (.fn 16 [])) [])⟩,
      ⟨(some 52), none, [50, 51], none, .q (.pick (.t 50) (.t 51) (.k (.b false)))⟩,
      ⟨(some 6), none, [52], none, .q (.mv (.t 52))⟩])
    .ret)
    .skip)))
  (.keep [2, 3, 7, 9, 10] (.seq (.seq (.reg false [⟨(some 53), none, [10], none, .q (.mv (.t 10))⟩,
    ⟨(some 54), none, [53], none, .q (.bin .neq (.t 53) (.k (.i 0)))⟩])
  (.keep [2, 3, 7, 9, 10, 54] (.cond (.t 54)
    (.seq (.reg true [⟨(some 55), none, [10], none, .q (.mv (.t 10))⟩,
      ⟨(some 56), none, [55], none, .q (.bin .eql (.t 55) (.k (.i 3)))⟩,
      ⟨(some 57), none, [56], none, .q (.mv (.t 56))⟩,
      ⟨(some 58), (some (57, true)), [7], none, .q (.mv (.t 7))⟩,
      ⟨(some 59), (some (57, true)), [58], none, .q (.bin .neq (.t 58) (.k (.i 1)))⟩,
      ⟨(some 60), none, [57, 59], none, .q (.pick (.t 57) (.t 59) (.k (.b false)))⟩,
      ⟨(some 61), none, [60], none, .q (.mv (.t 60))⟩,
      ⟨(some 62), (some (61, true)), [], none, .q (.call (.k (.fn 16 [])) [])⟩,
      ⟨(some 63), none, [61, 62], none, .q (.pick (.t 61) (.t 62) (.k (.b false)))⟩,
      ⟨(some 6), none, [63], none, .q (.mv (.t 63))⟩])
    .ret)
    .skip)))
  (.keep [2, 3, 7, 9] (.seq (.reg true [⟨(some 64), none, [9], none, .q (.fad 0 (.t 9))⟩,
    ⟨(some 65), none, [64], none, .q (.ld false 1 (.t 64))⟩,
    ⟨(some 66), none, [3], none, .q (.fad 2 (.t 3))⟩,
    ⟨(some 67), none, [66], none, .q (.ld false 1 (.t 66))⟩,
    ⟨(some 68), none, [67], none, .q (.bin .mul (.k (.i 2)) (.t 67))⟩,
    ⟨(some 69), none, [65, 68], none, .q (.bin .geq (.t 65) (.t 68))⟩,
    ⟨(some 70), none, [69], none, .q (.mv (.t 69))⟩,
    ⟨(some 71), (some (70, true)), [9], none, .q (.fad 0 (.t 9))⟩,
    ⟨(some 72), (some (70, true)), [71], none, .q (.ld false 1 (.t 71))⟩,
    ⟨(some 73), (some (70, true)), [9], none, .q (.fad 1 (.t 9))⟩,
    ⟨(some 74), (some (70, true)), [73], none, .q (.ld false 1 (.t 73))⟩,
    ⟨(some 75), (some (70, true)), [72, 74], none, .q (.bin .leq (.t 72) (.t 74))⟩,
    ⟨(some 76), none, [70, 75], none, .q (.pick (.t 70) (.t 75) (.k (.b false)))⟩,
    ⟨(some 77), none, [76], none, .q (.mv (.t 76))⟩,
    ⟨(some 78), (some (77, true)), [9], none, .q (.fad 1 (.t 9))⟩,
    ⟨(some 79), (some (77, true)), [78], none, .q (.ld false 1 (.t 78))⟩,
    ⟨(some 80), (some (77, true)), [79], none, .q (.bin .leq (.t 79) (.k (.i 2000)))⟩,
    ⟨(some 81), none, [77, 80], none, .q (.pick (.t 77) (.t 80) (.k (.b false)))⟩,
    ⟨(some 82), none, [81], none, .q (.mv (.t 81))⟩,
    ⟨(some 83), (some (82, true)), [7], none, .q (.mv (.t 7))⟩,
    ⟨(some 84), (some (82, true)), [83], none, .q (.bin .eql (.t 83) (.k (.i 1)))⟩,
    ⟨(some 85), (some (82, true)), [9], none, .q (.ld true 2 (.t 9))⟩,
    ⟨(some 86), (some (82, true)), [2], none, .q (.mv (.t 2))⟩,
    ⟨(some 87), (some (82, true)), [85, 86], none, .q (.call (.k (.fn 20 [])) [(.t 85), (.t 86)])⟩,
    ⟨(some 88), (some (82, true)), [84, 87], none, .q (.bq false (.t 84) (.t 87))⟩,
    ⟨(some 89), none, [82, 88], none, .q (.pick (.t 82) (.t 88) (.k (.b false)))⟩,
    ⟨(some 90), none, [89], none, .q (.mv (.t 89))⟩,
    ⟨(some 91), (some (90, true)), [], none, .q (.call (.k (.fn 16 [])) [])⟩,
    ⟨(some 92), none, [90, 91], none, .q (.pick (.t 90) (.t 91) (.k (.b false)))⟩,
    ⟨(some 6), none, [92], none, .q (.mv (.t 92))⟩])
  .ret)))))))))))))
def pu3 : List Nat := [3]
def rs3 : List RV := [.t 6]
theorem cc3 : comp Try.prog pu3 (Try.f3.ntmps, 0) 0 1 rc3 (Try.f3.body.getD .skip) = some rc3 := by kernel_rfl
theorem cb3 : Try.f3.body = some (Try.f3.body.getD .skip) := by kernel_rfl
theorem cs3 : resRV Try.prog Try.f3.results.toList = some rs3 := by kernel_rfl
theorem cn3 : 3 ≤ Try.f3.ntmps := by decide
/- ferrule/ferrulelaw02.ready: params [26, 3], free 0, slots 24 -/
def rc15 : RC :=
  (.seq (.reg false [⟨(some 2), none, [0], none, .q (.box (.t 0))⟩,
    ⟨(some 4), none, [], none, .q (.mv (.k (.b false)))⟩])
  (.keep [1, 2] (.seq (.reg true [⟨(some 5), none, [2], none, .q (.ld true 6 (.t 2))⟩,
    ⟨(some 6), none, [5], none, .q (.call (.k (.fn 21 [])) [(.t 5)])⟩,
    ⟨(some 7), none, [6], none, .q (.not (.t 6))⟩,
    ⟨(some 8), none, [7], none, .q (.mv (.t 7))⟩,
    ⟨(some 9), (some (8, true)), [2], none, .q (.ld true 6 (.t 2))⟩,
    ⟨(some 10), (some (8, true)), [9], none, .q (.call (.k (.fn 39 [])) [(.t 9)])⟩,
    ⟨(some 11), (some (8, true)), [10], none, .q (.bin .eql (.t 10) (.k (.i 0)))⟩,
    ⟨(some 12), none, [8, 11], none, .q (.pick (.t 8) (.t 11) (.k (.b false)))⟩,
    ⟨(some 13), none, [12], none, .q (.mv (.t 12))⟩,
    ⟨(some 14), (some (13, true)), [1], none, .q (.mv (.t 1))⟩,
    ⟨(some 15), (some (13, true)), [14], none, .q (.bin .geq (.t 14) (.k (.i 0)))⟩,
    ⟨(some 16), none, [13, 15], none, .q (.pick (.t 13) (.t 15) (.k (.b false)))⟩,
    ⟨(some 17), none, [16], none, .q (.mv (.t 16))⟩,
    ⟨(some 18), (some (17, true)), [1], none, .q (.mv (.t 1))⟩,
    ⟨(some 19), (some (17, true)), [2], none, .q (.fad 3 (.t 2))⟩,
    ⟨(some 20), (some (17, true)), [19], none, .q (.ld false 1 (.t 19))⟩,
    ⟨(some 21), (some (17, true)), [20], none, .q (.len (.t 20))⟩,
    ⟨(some 22), (some (17, true)), [18, 21], none, .q (.bin .lss (.t 18) (.t 21))⟩,
    ⟨(some 23), none, [17, 22], none, .q (.pick (.t 17) (.t 22) (.k (.b false)))⟩,
    ⟨(some 4), none, [23], none, .q (.mv (.t 23))⟩])
  .ret)))
def pu15 : List Nat := [2]
def rs15 : List RV := [.t 4]
theorem cc15 : comp Try.prog pu15 (Try.f15.ntmps, 0) 0 1 rc15 (Try.f15.body.getD .skip) = some rc15 := by kernel_rfl
theorem cb15 : Try.f15.body = some (Try.f15.body.getD .skip) := by kernel_rfl
theorem cs15 : resRV Try.prog Try.f15.results.toList = some rs15 := by kernel_rfl
theorem cn15 : 2 ≤ Try.f15.ntmps := by decide
/- ferrule/ferrulelaw02.works: params [], free 0, slots 83 -/
def rc16 : RC :=
  (.seq (.reg false [⟨(some 0), none, [], none, .q (.mv (.k (.b false)))⟩])
  (.keep [] (.seq (.reg false [⟨(some 12), none, [], none, .o (.k (.fn 44 [])) []⟩,
    ⟨(some 1), none, [], none, .w (.alc [(.z 4), (.z 1), (.i 0), (.z 2), (.z 1), (.i 0)])⟩,
    ⟨none, none, [1, 12], none, .w (.st 6 (.t 1) (.t 12))⟩])
  (.keep [1] (.seq (.reg false [⟨(some 14), none, [1], none, .q (.ld true 6 (.t 1))⟩,
    ⟨(some 15), none, [14], none, .q (.call (.k (.fn 23 [])) [(.t 14), (.k (.i 2))])⟩,
    ⟨(some 13), none, [15], none, .q (.mv (.t 15))⟩,
    ⟨(some 16), none, [13], none, .q (.ext (.t 13) 0)⟩,
    ⟨(some 17), none, [13], none, .q (.ext (.t 13) 1)⟩,
    ⟨(some 2), none, [], none, .w (.alc [(.i 0), (.i 0)])⟩,
    ⟨none, none, [2, 16], none, .w (.st 2 (.t 2) (.t 16))⟩,
    ⟨(some 3), none, [17], none, .q (.mv (.t 17))⟩])
  (.keep [1, 2, 3] (.seq (.reg false [⟨(some 19), none, [1], none, .q (.ld true 6 (.t 1))⟩,
    ⟨(some 20), none, [19], none, .q (.call (.k (.fn 17 [])) [(.t 19), (.k (.i 1))])⟩,
    ⟨(some 18), none, [20], none, .q (.mv (.t 20))⟩,
    ⟨(some 21), none, [18], none, .q (.ext (.t 18) 0)⟩,
    ⟨(some 22), none, [18], none, .q (.ext (.t 18) 1)⟩,
    ⟨(some 4), none, [21], none, .q (.mv (.t 21))⟩,
    ⟨(some 5), none, [22], none, .q (.mv (.t 22))⟩])
  (.keep [1, 2, 3, 4, 5] (.seq (.reg false [⟨(some 24), none, [1], none, .q (.ld true 6 (.t 1))⟩,
    ⟨(some 25), none, [24], none, .q (.call (.k (.fn 19 [])) [(.t 24), (.k (.i 1))])⟩,
    ⟨(some 23), none, [25], none, .q (.mv (.t 25))⟩,
    ⟨(some 26), none, [23], none, .q (.ext (.t 23) 0)⟩,
    ⟨(some 27), none, [23], none, .q (.ext (.t 23) 1)⟩,
    ⟨(some 6), none, [], none, .w (.alc [(.i 0), (.i 0)])⟩,
    ⟨none, none, [6, 26], none, .w (.st 2 (.t 6) (.t 26))⟩,
    ⟨(some 7), none, [27], none, .q (.mv (.t 27))⟩])
  (.keep [1, 2, 3, 4, 5, 6, 7] (.seq (.reg false [⟨(some 29), none, [1], none, .q (.ld true 6 (.t 1))⟩,
    ⟨(some 30), none, [29], none, .o (.k (.fn 26 [])) [(.t 29)]⟩,
    ⟨(some 28), none, [30], none, .q (.mv (.t 30))⟩,
    ⟨(some 31), none, [28], none, .q (.ext (.t 28) 0)⟩,
    ⟨(some 32), none, [28], none, .q (.ext (.t 28) 1)⟩,
    ⟨(some 8), none, [31], none, .q (.mv (.t 31))⟩,
    ⟨(some 9), none, [32], none, .q (.mv (.t 32))⟩])
  (.keep [1, 2, 3, 4, 5, 6, 7, 8, 9] (.seq (.reg false [⟨(some 33), none, [1], none, .q (.fad 3 (.t 1))⟩,
    ⟨(some 34), none, [33], none, .q (.ld false 1 (.t 33))⟩,
    ⟨(some 35), none, [], none, .q (.bld [(.i 0), (.i 0)] [(0, 1, (.k (.i 800))), (1, 1, (.k (.i 808)))])⟩,
    ⟨(some 36), none, [34], none, .q (.iad 2 (.t 34) (.k (.i 2)))⟩,
    ⟨none, none, [36, 35], none, .w (.st 2 (.t 36) (.t 35))⟩])
  (.keep [1, 2, 3, 4, 5, 6, 7, 8, 9] (.seq (.reg false [⟨(some 38), none, [1], none, .q (.ld true 6 (.t 1))⟩,
    ⟨(some 39), none, [38], none, .q (.call (.k (.fn 31 [])) [(.t 38)])⟩,
    ⟨(some 37), none, [39], none, .q (.mv (.t 39))⟩,
    ⟨(some 40), none, [37], none, .q (.ext (.t 37) 0)⟩,
    ⟨(some 41), none, [37], none, .q (.ext (.t 37) 1)⟩,
    ⟨(some 10), none, [40], none, .q (.mv (.t 40))⟩,
    ⟨(some 11), none, [41], none, .q (.mv (.t 41))⟩])
  (.keep [2, 3, 4, 5, 6, 7, 8, 9, 10, 11] (.seq (.reg true [⟨(some 42), none, [3], none, .q (.mv (.t 3))⟩,
    ⟨(some 43), none, [42], none, .q (.bin .eql (.t 42) (.k (.i 0)))⟩,
    ⟨(some 44), none, [43], none, .q (.mv (.t 43))⟩,
    ⟨(some 45), (some (44, true)), [5], none, .q (.mv (.t 5))⟩,
    ⟨(some 46), (some (44, true)), [45], none, .q (.bin .eql (.t 45) (.k (.i 0)))⟩,
    ⟨(some 47), none, [44, 46], none, .q (.pick (.t 44) (.t 46) (.k (.b false)))⟩,
    ⟨(some 48), none, [47], none, .q (.mv (.t 47))⟩,
    ⟨(some 49), (some (48, true)), [7], none, .q (.mv (.t 7))⟩,
    ⟨(some 50), (some (48, true)), [49], none, .q (.bin .eql (.t 49) (.k (.i 0)))⟩,
    ⟨(some 51), none, [48, 50], none, .q (.pick (.t 48) (.t 50) (.k (.b false)))⟩,
    ⟨(some 52), none, [51], none, .q (.mv (.t 51))⟩,
    ⟨(some 53), (some (52, true)), [9], none, .q (.mv (.t 9))⟩,
    ⟨(some 54), (some (52, true)), [53], none, .q (.bin .eql (.t 53) (.k (.i 0)))⟩,
    ⟨(some 55), none, [52, 54], none, .q (.pick (.t 52) (.t 54) (.k (.b false)))⟩,
    ⟨(some 56), none, [55], none, .q (.mv (.t 55))⟩,
    ⟨(some 57), (some (56, true)), [11], none, .q (.mv (.t 11))⟩,
    ⟨(some 58), (some (56, true)), [57], none, .q (.bin .eql (.t 57) (.k (.i 0)))⟩,
    ⟨(some 59), none, [56, 58], none, .q (.pick (.t 56) (.t 58) (.k (.b false)))⟩,
    ⟨(some 60), none, [59], none, .q (.mv (.t 59))⟩,
    ⟨(some 61), (some (60, true)), [2], none, .q (.ld true 2 (.t 2))⟩,
    ⟨(some 62), (some (60, true)), [], none, .q (.bld [(.i 0), (.i 0)] [(0, 1, (.k (.i 802))), (1, 1, (.k (.i 808)))])⟩,
    ⟨(some 63), (some (60, true)), [61, 62], none, .q (.eqs false 34 (.t 61) (.t 62))⟩,
    ⟨(some 64), none, [60, 63], none, .q (.pick (.t 60) (.t 63) (.k (.b false)))⟩,
    ⟨(some 65), none, [64], none, .q (.mv (.t 64))⟩,
    ⟨(some 66), (some (65, true)), [4], none, .q (.mv (.t 4))⟩,
    ⟨(some 67), (some (65, true)), [66], none, .q (.bin .eql (.t 66) (.k (.i 1)))⟩,
    ⟨(some 68), none, [65, 67], none, .q (.pick (.t 65) (.t 67) (.k (.b false)))⟩,
    ⟨(some 69), none, [68], none, .q (.mv (.t 68))⟩,
    ⟨(some 70), (some (69, true)), [6], none, .q (.ld true 2 (.t 6))⟩,
    ⟨(some 71), (some (69, true)), [], none, .q (.bld [(.i 0), (.i 0)] [(0, 1, (.k (.i 160))), (1, 1, (.k (.i 171)))])⟩,
    ⟨(some 72), (some (69, true)), [70, 71], none, .q (.eqs false 34 (.t 70) (.t 71))⟩,
    ⟨(some 73), none, [69, 72], none, .q (.pick (.t 69) (.t 72) (.k (.b false)))⟩,
    ⟨(some 74), none, [73], none, .q (.mv (.t 73))⟩,
    ⟨(some 75), (some (74, true)), [8], none, .q (.mv (.t 8))⟩,
    ⟨(some 76), (some (74, true)), [], none, .q (.bsl 1 1 [(.i 0)] [(0, 1, (.k (.i 2)))])⟩,
    ⟨(some 77), (some (74, true)), [75, 76], none, .q (.call (.k (.fn 28 [])) [(.t 75), (.t 76)])⟩,
    ⟨(some 78), none, [74, 77], none, .q (.pick (.t 74) (.t 77) (.k (.b false)))⟩,
    ⟨(some 79), none, [78], none, .q (.mv (.t 78))⟩,
    ⟨(some 80), (some (79, true)), [10], none, .q (.mv (.t 10))⟩,
    ⟨(some 81), (some (79, true)), [80], none, .q (.bin .eql (.t 80) (.k (.i 480)))⟩,
    ⟨(some 82), none, [79, 81], none, .q (.pick (.t 79) (.t 81) (.k (.b false)))⟩,
    ⟨(some 0), none, [82], none, .q (.mv (.t 82))⟩])
  .ret)))))))))))))))))
def pu16 : List Nat := [1000012, 1000030, 76]
def rs16 : List RV := [.t 0]
theorem cc16 : comp Try.prog pu16 (Try.f16.ntmps, 0) 0 1 rc16 (Try.f16.body.getD .skip) = some rc16 := by kernel_rfl
theorem cb16 : Try.f16.body = some (Try.f16.body.getD .skip) := by kernel_rfl
theorem cs16 : resRV Try.prog Try.f16.results.toList = some rs16 := by kernel_rfl
theorem cn16 : 0 ≤ Try.f16.ntmps := by decide
/- ferrule/cloth.Tight: params [26, 3], free 0, slots 27 -/
def rc17 : RC :=
  (.seq (.reg false [⟨(some 2), none, [0], none, .q (.box (.t 0))⟩,
    ⟨(some 4), none, [], none, .q (.mv (.k (.i 0)))⟩,
    ⟨(some 5), none, [], none, .q (.mv (.k (.i 0)))⟩])
  (.keep [1, 2] (.seq (.any false 0 [⟨⟨(some 9), none, [2], none, .q (.ld true 6 (.t 2))⟩, [], []⟩,
    ⟨⟨(some 10), none, [2], none, .q (.ld true 6 (.t 2))⟩, [], []⟩,
    ⟨⟨(some 11), none, [1], none, .q (.mv (.t 1))⟩, [], []⟩,
    ⟨⟨(some 12), none, [10, 11], none, .q (.call (.k (.fn 46 [])) [(.t 10), (.t 11)])⟩, [], [1, 2]⟩,
    ⟨⟨(some 13), none, [9, 12], none, .q (.call (.k (.fn 45 [])) [(.t 9), (.t 12)])⟩, [], [0, 3, 1, 2]⟩,
    ⟨⟨(some 8), none, [13], none, .q (.mv (.t 13))⟩, [], [4, 0, 3, 1, 2]⟩,
    ⟨⟨(some 14), none, [8], none, .q (.ext (.t 8) 0)⟩, [], [5, 4, 0, 3, 1, 2]⟩,
    ⟨⟨(some 15), none, [8], none, .q (.ext (.t 8) 1)⟩, [], [5, 4, 0, 3, 1, 2]⟩,
    ⟨⟨(some 6), none, [14], none, .q (.mv (.t 14))⟩, [], [6, 5, 4, 0, 3, 1, 2]⟩,
    ⟨⟨(some 7), none, [15], none, .q (.mv (.t 15))⟩, [], [7, 5, 4, 0, 3, 1, 2, 8, 6]⟩])
  (.keep [1, 2, 6, 7] (.seq (.seq (.reg false [⟨(some 16), none, [7], none, .q (.mv (.t 7))⟩,
    ⟨(some 17), none, [16], none, .q (.bin .neq (.t 16) (.k (.i 0)))⟩])
  (.keep [1, 2, 6, 7, 17] (.cond (.t 17)
    (.seq (.reg false [⟨(some 18), none, [7], none, .q (.mv (.t 7))⟩,
      ⟨(some 4), none, [], none, .q (.mv (.k (.i 0)))⟩,
      ⟨(some 5), none, [18], none, .q (.mv (.t 18))⟩])
    .ret)
    .skip)))
  (.keep [1, 2, 6] (.seq (.reg false [⟨(some 19), none, [6], none, .q (.mv (.t 6))⟩,
    ⟨(some 20), none, [1], none, .q (.mv (.t 1))⟩,
    ⟨(some 21), none, [2], none, .q (.fad 4 (.t 2))⟩,
    ⟨(some 22), none, [21], none, .q (.ld false 1 (.t 21))⟩,
    ⟨(some 23), none, [1], none, .q (.mv (.t 1))⟩,
    ⟨(some 24), none, [22, 23], none, .q (.iad 1 (.t 22) (.t 23))⟩,
    ⟨(some 25), none, [24], none, .q (.ld false 1 (.t 24))⟩,
    ⟨(some 26), none, [19, 20, 25], none, .q (.call (.k (.fn 47 [])) [(.t 19), (.t 20), (.t 25)])⟩,
    ⟨(some 4), none, [26], none, .q (.mv (.t 26))⟩,
    ⟨(some 5), none, [], none, .q (.mv (.k (.i 0)))⟩])
  .ret)))))))
def pu17 : List Nat := [2]
def rs17 : List RV := [.t 4, .t 5]
theorem cc17 : comp Try.prog pu17 (Try.f17.ntmps, 0) 0 1 rc17 (Try.f17.body.getD .skip) = some rc17 := by kernel_rfl
theorem cb17 : Try.f17.body = some (Try.f17.body.getD .skip) := by kernel_rfl
theorem cs17 : resRV Try.prog Try.f17.results.toList = some rs17 := by kernel_rfl
theorem cn17 : 2 ≤ Try.f17.ntmps := by decide
/- ferrule/ferrulelaw02.cutTo: params [26, 3, 3], free 0, slots 16 -/
def rc18 : RC :=
  (.seq (.reg false [⟨(some 3), none, [0], none, .q (.box (.t 0))⟩,
    ⟨(some 6), none, [], none, .w (.alc [(.z 4), (.z 1), (.i 0), (.z 2), (.z 1), (.i 0)])⟩])
  (.keep [1, 2, 3, 6] (.seq (.reg false [⟨(some 8), none, [3], none, .q (.ld true 6 (.t 3))⟩,
    ⟨(some 9), none, [8], none, .o (.k (.fn 22 [])) [(.t 8)]⟩,
    ⟨(some 7), none, [], none, .w (.alc [(.z 4), (.z 1), (.i 0), (.z 2), (.z 1), (.i 0)])⟩,
    ⟨none, none, [7, 9], none, .w (.st 6 (.t 7) (.t 9))⟩])
  (.keep [1, 2, 6, 7] (.seq (.reg false [⟨(some 10), none, [7], none, .q (.fad 4 (.t 7))⟩,
    ⟨(some 11), none, [10], none, .q (.ld false 1 (.t 10))⟩,
    ⟨(some 12), none, [1], none, .q (.mv (.t 1))⟩,
    ⟨(some 13), none, [2], none, .q (.mv (.t 2))⟩,
    ⟨(some 14), none, [11, 12], none, .q (.iad 1 (.t 11) (.t 12))⟩,
    ⟨none, none, [14, 13], none, .w (.st 1 (.t 14) (.t 13))⟩])
  (.keep [6, 7] (.seq (.reg false [⟨(some 15), none, [7], none, .q (.ld true 6 (.t 7))⟩,
    ⟨none, none, [6, 15], none, .w (.st 6 (.t 6) (.t 15))⟩])
  .ret)))))))
def pu18 : List Nat := [1000009, 3]
def rs18 : List RV := [.c 6 true 6]
theorem cc18 : comp Try.prog pu18 (Try.f18.ntmps, 0) 0 1 rc18 (Try.f18.body.getD .skip) = some rc18 := by kernel_rfl
theorem cb18 : Try.f18.body = some (Try.f18.body.getD .skip) := by kernel_rfl
theorem cs18 : resRV Try.prog Try.f18.results.toList = some rs18 := by kernel_rfl
theorem cn18 : 3 ≤ Try.f18.ntmps := by decide
/- ferrule/cloth.Cut: params [26, 3], free 0, slots 32 -/
def rc19 : RC :=
  (.seq (.reg false [⟨(some 2), none, [0], none, .q (.box (.t 0))⟩,
    ⟨(some 4), none, [], none, .w (.alc [(.i 0), (.i 0)])⟩,
    ⟨(some 5), none, [], none, .q (.mv (.k (.i 0)))⟩])
  (.keep [1, 2, 4] (.seq (.any false 0 [⟨⟨(some 11), none, [2], none, .q (.ld true 6 (.t 2))⟩, [], []⟩,
    ⟨⟨(some 12), none, [2], none, .q (.ld true 6 (.t 2))⟩, [], []⟩,
    ⟨⟨(some 13), none, [1], none, .q (.mv (.t 1))⟩, [], []⟩,
    ⟨⟨(some 14), none, [12, 13], none, .q (.call (.k (.fn 46 [])) [(.t 12), (.t 13)])⟩, [], [1, 2]⟩,
    ⟨⟨(some 15), none, [11, 14], none, .q (.call (.k (.fn 45 [])) [(.t 11), (.t 14)])⟩, [], [0, 3, 1, 2]⟩,
    ⟨⟨(some 10), none, [15], none, .q (.mv (.t 15))⟩, [], [4, 0, 3, 1, 2]⟩,
    ⟨⟨(some 16), none, [10], none, .q (.ext (.t 10) 0)⟩, [], [5, 4, 0, 3, 1, 2]⟩,
    ⟨⟨(some 17), none, [10], none, .q (.ext (.t 10) 1)⟩, [], [5, 4, 0, 3, 1, 2]⟩,
    ⟨⟨(some 6), none, [16], none, .q (.mv (.t 16))⟩, [], [6, 5, 4, 0, 3, 1, 2]⟩,
    ⟨⟨(some 7), none, [17], none, .q (.mv (.t 17))⟩, [], [7, 5, 4, 0, 3, 1, 2, 8, 6]⟩])
  (.keep [1, 4, 6, 7] (.seq (.seq (.reg false [⟨(some 18), none, [7], none, .q (.mv (.t 7))⟩,
    ⟨(some 19), none, [18], none, .q (.bin .neq (.t 18) (.k (.i 0)))⟩])
  (.keep [1, 4, 6, 7, 19] (.cond (.t 19)
    (.seq (.reg false [⟨(some 20), none, [], none, .q (.bld [(.i 0), (.i 0)] [])⟩,
      ⟨(some 21), none, [7], none, .q (.mv (.t 7))⟩,
      ⟨none, none, [4, 20], none, .w (.st 2 (.t 4) (.t 20))⟩,
      ⟨(some 5), none, [21], none, .q (.mv (.t 21))⟩])
    .ret)
    .skip)))
  (.keep [1, 4, 6] (.seq (.reg false [⟨(some 23), none, [6], none, .q (.mv (.t 6))⟩,
    ⟨(some 24), none, [1], none, .q (.mv (.t 1))⟩,
    ⟨(some 25), none, [23, 24], none, .q (.call (.k (.fn 48 [])) [(.t 23), (.t 24)])⟩,
    ⟨(some 22), none, [25], none, .q (.mv (.t 25))⟩,
    ⟨(some 26), none, [22], none, .q (.ext (.t 22) 0)⟩,
    ⟨(some 27), none, [22], none, .q (.ext (.t 22) 1)⟩,
    ⟨(some 8), none, [], none, .w (.alc [(.i 0), (.i 0)])⟩,
    ⟨none, none, [8, 26], none, .w (.st 2 (.t 8) (.t 26))⟩,
    ⟨(some 9), none, [27], none, .q (.mv (.t 27))⟩])
  (.keep [4, 8, 9] (.seq (.seq (.reg false [⟨(some 28), none, [9], none, .q (.mv (.t 9))⟩,
    ⟨(some 29), none, [28], none, .q (.not (.t 28))⟩])
  (.keep [4, 8, 29] (.cond (.t 29)
    (.seq (.reg false [⟨(some 30), none, [], none, .q (.bld [(.i 0), (.i 0)] [])⟩,
      ⟨none, none, [4, 30], none, .w (.st 2 (.t 4) (.t 30))⟩,
      ⟨(some 5), none, [], none, .q (.mv (.k (.i 3)))⟩])
    .ret)
    .skip)))
  (.keep [4, 8] (.seq (.reg false [⟨(some 31), none, [8], none, .q (.ld true 2 (.t 8))⟩,
    ⟨none, none, [4, 31], none, .w (.st 2 (.t 4) (.t 31))⟩,
    ⟨(some 5), none, [], none, .q (.mv (.k (.i 0)))⟩])
  .ret)))))))))))
def pu19 : List Nat := [2]
def rs19 : List RV := [.c 4 true 2, .t 5]
theorem cc19 : comp Try.prog pu19 (Try.f19.ntmps, 0) 0 1 rc19 (Try.f19.body.getD .skip) = some rc19 := by kernel_rfl
theorem cb19 : Try.f19.body = some (Try.f19.body.getD .skip) := by kernel_rfl
theorem cs19 : resRV Try.prog Try.f19.results.toList = some rs19 := by kernel_rfl
theorem cn19 : 2 ≤ Try.f19.ntmps := by decide
/- ferrule/ferrulelaw02.holds: params [34, 3], free 0, slots 15 -/
def rc20 : RC :=
  (.seq (.reg false [⟨(some 2), none, [0], none, .q (.box (.t 0))⟩,
    ⟨(some 4), none, [], none, .q (.mv (.k (.b false)))⟩])
  (.keep [1, 2] (.seq (.reg true [⟨(some 5), none, [2], none, .q (.fad 0 (.t 2))⟩,
    ⟨(some 6), none, [5], none, .q (.ld false 1 (.t 5))⟩,
    ⟨(some 7), none, [1], none, .q (.mv (.t 1))⟩,
    ⟨(some 8), none, [6, 7], none, .q (.bin .leq (.t 6) (.t 7))⟩,
    ⟨(some 9), none, [8], none, .q (.mv (.t 8))⟩,
    ⟨(some 10), (some (9, true)), [1], none, .q (.mv (.t 1))⟩,
    ⟨(some 11), (some (9, true)), [2], none, .q (.fad 1 (.t 2))⟩,
    ⟨(some 12), (some (9, true)), [11], none, .q (.ld false 1 (.t 11))⟩,
    ⟨(some 13), (some (9, true)), [10, 12], none, .q (.bin .leq (.t 10) (.t 12))⟩,
    ⟨(some 14), none, [9, 13], none, .q (.pick (.t 9) (.t 13) (.k (.b false)))⟩,
    ⟨(some 4), none, [14], none, .q (.mv (.t 14))⟩])
  .ret)))
def pu20 : List Nat := [2]
def rs20 : List RV := [.t 4]
theorem cc20 : comp Try.prog pu20 (Try.f20.ntmps, 0) 0 1 rc20 (Try.f20.body.getD .skip) = some rc20 := by kernel_rfl
theorem cb20 : Try.f20.body = some (Try.f20.body.getD .skip) := by kernel_rfl
theorem cs20 : resRV Try.prog Try.f20.results.toList = some rs20 := by kernel_rfl
theorem cn20 : 2 ≤ Try.f20.ntmps := by decide
/- ferrule/ferrulelaw02.Far: params [26], free 0, slots 99 -/
def rc21 : RC :=
  (.seq (.reg false [⟨(some 1), none, [0], none, .q (.box (.t 0))⟩,
    ⟨(some 2), none, [], none, .q (.mv (.k (.b false)))⟩])
  (.keep [1] (.seq (.seq (.reg true [⟨(some 8), none, [1], none, .q (.fad 0 (.t 1))⟩,
    ⟨(some 9), none, [8], none, .q (.ld false 1 (.t 8))⟩,
    ⟨(some 10), none, [9], none, .q (.len (.t 9))⟩,
    ⟨(some 11), none, [10], none, .q (.bin .gtr (.t 10) (.k (.i 20)))⟩,
    ⟨(some 12), none, [11], none, .q (.mv (.t 11))⟩,
    ⟨(some 13), (some (12, false)), [1], none, .q (.fad 1 (.t 1))⟩,
    ⟨(some 14), (some (12, false)), [13], none, .q (.ld false 1 (.t 13))⟩,
    ⟨(some 15), (some (12, false)), [14], none, .q (.len (.t 14))⟩,
    ⟨(some 16), (some (12, false)), [15], none, .q (.bin .gtr (.t 15) (.k (.i 60)))⟩,
    ⟨(some 17), none, [12, 16], none, .q (.pick (.t 12) (.k (.b true)) (.t 16))⟩,
    ⟨(some 18), none, [17], none, .q (.mv (.t 17))⟩,
    ⟨(some 19), (some (18, false)), [1], none, .q (.fad 3 (.t 1))⟩,
    ⟨(some 20), (some (18, false)), [19], none, .q (.ld false 1 (.t 19))⟩,
    ⟨(some 21), (some (18, false)), [20], none, .q (.len (.t 20))⟩,
    ⟨(some 22), (some (18, false)), [21], none, .q (.bin .gtr (.t 21) (.k (.i 60)))⟩,
    ⟨(some 23), none, [18, 22], none, .q (.pick (.t 18) (.k (.b true)) (.t 22))⟩,
    ⟨(some 24), none, [23], none, .q (.mv (.t 23))⟩,
    ⟨(some 25), (some (24, false)), [1], none, .q (.fad 4 (.t 1))⟩,
    ⟨(some 26), (some (24, false)), [25], none, .q (.ld false 1 (.t 25))⟩,
    ⟨(some 27), (some (24, false)), [26], none, .q (.len (.t 26))⟩,
    ⟨(some 28), (some (24, false)), [27], none, .q (.bin .gtr (.t 27) (.k (.i 60)))⟩,
    ⟨(some 29), none, [24, 28], none, .q (.pick (.t 24) (.k (.b true)) (.t 28))⟩])
  (.keep [1, 29] (.cond (.t 29)
    (.seq (.reg false [⟨(some 2), none, [], none, .q (.mv (.k (.b true)))⟩])
    .ret)
    .skip)))
  (.keep [1] (.seq (.seq (.reg false [⟨(some 3), none, [], none, .q (.mv (.k (.i 0)))⟩])
  (.keep [1, 3] (.block 0 (.loop [1, 3] none (.seq (.seq (.reg false [⟨(some 30), none, [3], none, .q (.mv (.t 3))⟩,
    ⟨(some 31), none, [1], none, .q (.fad 0 (.t 1))⟩,
    ⟨(some 32), none, [31], none, .q (.ld false 1 (.t 31))⟩,
    ⟨(some 33), none, [32], none, .q (.len (.t 32))⟩,
    ⟨(some 34), none, [30, 33], none, .q (.bin .lss (.t 30) (.t 33))⟩])
  (.keep [1, 3, 34] (.cond (.t 34)
    .skip
    (.exit 0))))
  (.keep [1, 3] (.seq (.block 1 (.seq (.reg false [⟨(some 37), none, [1], none, .q (.fad 0 (.t 1))⟩,
    ⟨(some 38), none, [37], none, .q (.ld false 1 (.t 37))⟩,
    ⟨(some 39), none, [3], none, .q (.mv (.t 3))⟩,
    ⟨(some 40), none, [38, 39], none, .q (.iad 4 (.t 38) (.t 39))⟩,
    ⟨(some 41), none, [40], none, .q (.fad 2 (.t 40))⟩,
    ⟨(some 42), none, [41], none, .q (.ld false 1 (.t 41))⟩,
    ⟨(some 43), none, [42], none, .q (.len (.t 42))⟩,
    ⟨(some 44), none, [43], none, .q (.bin .gtr (.t 43) (.k (.i 60)))⟩])
  (.keep [1, 3, 44] (.cond (.t 44)
    (.seq (.reg false [⟨(some 2), none, [], none, .q (.mv (.k (.b true)))⟩])
    .ret)
    .skip))))
  (.keep [1, 3] (.reg false [⟨(some 35), none, [3], none, .q (.mv (.t 3))⟩,
    ⟨(some 36), none, [35], none, .q (.bin .add (.t 35) (.k (.i 1)))⟩,
    ⟨(some 3), none, [36], none, .q (.mv (.t 36))⟩])))))))))
  (.keep [1] (.seq (.seq (.reg false [⟨(some 45), none, [1], none, .q (.ld true 6 (.t 1))⟩,
    ⟨(some 46), none, [45], none, .q (.call (.k (.fn 39 [])) [(.t 45)])⟩,
    ⟨(some 47), none, [46], none, .q (.bin .neq (.t 46) (.k (.i 0)))⟩])
  (.keep [1, 47] (.cond (.t 47)
    (.seq (.reg false [⟨(some 2), none, [], none, .q (.mv (.k (.b false)))⟩])
    .ret)
    .skip)))
  (.keep [1] (.seq (.reg false [⟨(some 4), none, [], none, .q (.mv (.k (.i 1)))⟩])
  (.keep [1, 4] (.seq (.seq (.reg false [⟨(some 5), none, [], none, .q (.mv (.k (.i 0)))⟩])
  (.keep [1, 4, 5] (.block 2 (.loop [1, 4, 5] none (.seq (.seq (.reg false [⟨(some 48), none, [5], none, .q (.mv (.t 5))⟩,
    ⟨(some 49), none, [1], none, .q (.fad 0 (.t 1))⟩,
    ⟨(some 50), none, [49], none, .q (.ld false 1 (.t 49))⟩,
    ⟨(some 51), none, [50], none, .q (.len (.t 50))⟩,
    ⟨(some 52), none, [48, 51], none, .q (.bin .lss (.t 48) (.t 51))⟩])
  (.keep [1, 4, 5, 52] (.cond (.t 52)
    .skip
    (.exit 2))))
  (.keep [1, 4, 5] (.seq (.block 3 (.seq (.reg false [⟨(some 6), none, [], none, .q (.mv (.k (.i 0)))⟩])
  (.keep [1, 4, 5, 6] (.seq (.seq (.reg false [⟨(some 55), none, [1], none, .q (.fad 0 (.t 1))⟩,
    ⟨(some 56), none, [55], none, .q (.ld false 1 (.t 55))⟩,
    ⟨(some 57), none, [5], none, .q (.mv (.t 5))⟩,
    ⟨(some 58), none, [56, 57], none, .q (.iad 4 (.t 56) (.t 57))⟩,
    ⟨(some 59), none, [58], none, .q (.fad 0 (.t 58))⟩,
    ⟨(some 60), none, [59], none, .q (.fad 0 (.t 59))⟩,
    ⟨(some 61), none, [60], none, .q (.ld false 1 (.t 60))⟩,
    ⟨(some 7), none, [61], none, .q (.mv (.t 61))⟩])
  (.keep [1, 4, 5, 6, 7] (.block 4 (.loop [1, 4, 5, 6, 7] none (.seq (.seq (.reg false [⟨(some 62), none, [7], none, .q (.mv (.t 7))⟩,
    ⟨(some 63), none, [1], none, .q (.fad 0 (.t 1))⟩,
    ⟨(some 64), none, [63], none, .q (.ld false 1 (.t 63))⟩,
    ⟨(some 65), none, [5], none, .q (.mv (.t 5))⟩,
    ⟨(some 66), none, [64, 65], none, .q (.iad 4 (.t 64) (.t 65))⟩,
    ⟨(some 67), none, [66], none, .q (.fad 0 (.t 66))⟩,
    ⟨(some 68), none, [67], none, .q (.fad 1 (.t 67))⟩,
    ⟨(some 69), none, [68], none, .q (.ld false 1 (.t 68))⟩,
    ⟨(some 70), none, [62, 69], none, .q (.bin .leq (.t 62) (.t 69))⟩])
  (.keep [1, 4, 5, 6, 7, 70] (.cond (.t 70)
    .skip
    (.exit 4))))
  (.keep [1, 4, 5, 6, 7] (.seq (.block 5 (.seq (.reg false [⟨(some 73), none, [1], none, .q (.fad 0 (.t 1))⟩,
    ⟨(some 74), none, [73], none, .q (.ld false 1 (.t 73))⟩,
    ⟨(some 75), none, [5], none, .q (.mv (.t 5))⟩,
    ⟨(some 76), none, [74, 75], none, .q (.iad 4 (.t 74) (.t 75))⟩,
    ⟨(some 77), none, [76], none, .q (.ld true 4 (.t 76))⟩,
    ⟨(some 78), none, [7], none, .q (.mv (.t 7))⟩,
    ⟨(some 79), none, [77, 78], none, .q (.call (.k (.fn 49 [])) [(.t 77), (.t 78)])⟩])
  (.keep [1, 4, 5, 6, 7, 79] (.cond (.t 79)
    (.reg false [⟨(some 80), none, [6], none, .q (.mv (.t 6))⟩,
      ⟨(some 81), none, [80], none, .q (.bin .add (.t 80) (.k (.i 1)))⟩,
      ⟨(some 6), none, [81], none, .q (.mv (.t 81))⟩])
    .skip))))
  (.keep [1, 4, 5, 6, 7] (.reg false [⟨(some 71), none, [7], none, .q (.mv (.t 7))⟩,
    ⟨(some 72), none, [71], none, .q (.bin .add (.t 71) (.k (.i 1)))⟩,
    ⟨(some 7), none, [72], none, .q (.mv (.t 72))⟩])))))))))
  (.keep [1, 4, 5, 6] (.reg false [⟨(some 82), none, [4], none, .q (.mv (.t 4))⟩,
    ⟨(some 83), none, [6], none, .q (.mv (.t 6))⟩,
    ⟨(some 84), none, [82, 83], none, .q (.bin .mul (.t 82) (.t 83))⟩,
    ⟨(some 4), none, [84], none, .q (.mv (.t 84))⟩]))))))
  (.keep [1, 4, 5] (.reg false [⟨(some 53), none, [5], none, .q (.mv (.t 5))⟩,
    ⟨(some 54), none, [53], none, .q (.bin .add (.t 53) (.k (.i 1)))⟩,
    ⟨(some 5), none, [54], none, .q (.mv (.t 54))⟩])))))))))
  (.keep [1, 4] (.seq (.reg true [⟨(some 85), none, [4], none, .q (.mv (.t 4))⟩,
    ⟨(some 86), none, [85], none, .q (.bin .gtr (.t 85) (.k (.i 49)))⟩,
    ⟨(some 87), none, [86], none, .q (.mv (.t 86))⟩,
    ⟨(some 88), (some (87, false)), [1], none, .q (.fad 1 (.t 1))⟩,
    ⟨(some 89), (some (87, false)), [88], none, .q (.ld false 1 (.t 88))⟩,
    ⟨(some 90), (some (87, false)), [89], none, .q (.len (.t 89))⟩,
    ⟨(some 91), (some (87, false)), [90], none, .q (.bin .gtr (.t 90) (.k (.i 8)))⟩,
    ⟨(some 92), none, [87, 91], none, .q (.pick (.t 87) (.k (.b true)) (.t 91))⟩,
    ⟨(some 93), none, [92], none, .q (.mv (.t 92))⟩,
    ⟨(some 94), (some (93, false)), [1], none, .q (.fad 3 (.t 1))⟩,
    ⟨(some 95), (some (93, false)), [94], none, .q (.ld false 1 (.t 94))⟩,
    ⟨(some 96), (some (93, false)), [95], none, .q (.len (.t 95))⟩,
    ⟨(some 97), (some (93, false)), [96], none, .q (.bin .gtr (.t 96) (.k (.i 4)))⟩,
    ⟨(some 98), none, [93, 97], none, .q (.pick (.t 93) (.k (.b true)) (.t 97))⟩,
    ⟨(some 2), none, [98], none, .q (.mv (.t 98))⟩])
  .ret)))))))))))))
def pu21 : List Nat := [1]
def rs21 : List RV := [.t 2]
theorem cc21 : comp Try.prog pu21 (Try.f21.ntmps, 0) 0 1 rc21 (Try.f21.body.getD .skip) = some rc21 := by kernel_rfl
theorem cb21 : Try.f21.body = some (Try.f21.body.getD .skip) := by kernel_rfl
theorem cs21 : resRV Try.prog Try.f21.results.toList = some rs21 := by kernel_rfl
theorem cn21 : 1 ≤ Try.f21.ntmps := by decide
/- ferrule/ferruleref02.Copy: params [26], free 0, slots 47 -/
def rc22 : RC :=
  (.seq (.reg false [⟨(some 1), none, [0], none, .q (.box (.t 0))⟩,
    ⟨(some 2), none, [], none, .w (.alc [(.z 4), (.z 1), (.i 0), (.z 2), (.z 1), (.i 0)])⟩])
  (.keep [1, 2] (.seq (.reg false [⟨(some 5), none, [1], none, .q (.ld true 6 (.t 1))⟩,
    ⟨(some 3), none, [], none, .w (.alc [(.z 4), (.z 1), (.i 0), (.z 2), (.z 1), (.i 0)])⟩,
    ⟨none, none, [3, 5], none, .w (.st 6 (.t 3) (.t 5))⟩])
  (.keep [1, 2, 3] (.seq (.reg false [⟨(some 6), none, [], none, .w (.bso 4 0 [(.i 0), (.i 0), (.z 3), (.i 0)] [])⟩,
    ⟨(some 7), none, [1], none, .q (.fad 0 (.t 1))⟩,
    ⟨(some 8), none, [7], none, .q (.ld false 1 (.t 7))⟩,
    ⟨(some 9), none, [6, 8], none, .w (.app 4 (.t 6) (.t 8))⟩,
    ⟨(some 10), none, [3], none, .q (.fad 0 (.t 3))⟩,
    ⟨none, none, [10, 9], none, .w (.st 1 (.t 10) (.t 9))⟩])
  (.keep [1, 2, 3] (.seq (.seq (.reg false [⟨(some 4), none, [], none, .q (.mv (.k (.i 0)))⟩])
  (.keep [1, 2, 3, 4] (.block 0 (.loop [1, 2, 3, 4] (some 3) (.seq (.seq (.reg false [⟨(some 11), none, [4], none, .q (.mv (.t 4))⟩,
    ⟨(some 12), none, [3], none, .q (.fad 0 (.t 3))⟩,
    ⟨(some 13), none, [12], none, .q (.ld false 1 (.t 12))⟩,
    ⟨(some 14), none, [13], none, .q (.len (.t 13))⟩,
    ⟨(some 15), none, [11, 14], none, .q (.bin .lss (.t 11) (.t 14))⟩])
  (.keep [1, 2, 3, 4, 15] (.cond (.t 15)
    .skip
    (.exit 0))))
  (.keep [1, 2, 3, 4] (.seq (.block 1 (.any false 2 [⟨⟨(some 18), none, [3], none, .q (.fad 0 (.t 3))⟩, [], []⟩,
    ⟨⟨(some 19), none, [18], none, .q (.ld false 1 (.t 18))⟩, [], [0]⟩,
    ⟨⟨(some 20), none, [4], none, .q (.mv (.t 4))⟩, [], []⟩,
    ⟨⟨(some 21), none, [], (some 0), .w (.bso 3 0 [(.i 0), (.i 0), (.i 0)] [])⟩, [0, 1, 2], []⟩,
    ⟨⟨(some 22), none, [1], none, .q (.fad 0 (.t 1))⟩, [3], []⟩,
    ⟨⟨(some 23), none, [22], none, .q (.ld false 1 (.t 22))⟩, [3], [4]⟩,
    ⟨⟨(some 24), none, [4], none, .q (.mv (.t 4))⟩, [3], []⟩,
    ⟨⟨(some 25), none, [23, 24], none, .q (.iad 4 (.t 23) (.t 24))⟩, [3], [5, 4, 6]⟩,
    ⟨⟨(some 26), none, [25], none, .q (.fad 2 (.t 25))⟩, [3], [7, 5, 4, 6]⟩,
    ⟨⟨(some 27), none, [26], none, .q (.ld false 1 (.t 26))⟩, [3], [8, 7, 5, 4, 6]⟩,
    ⟨⟨(some 28), none, [21, 27], (some 1), .w (.app 3 (.t 21) (.t 27))⟩, [0, 1, 2], [3, 9, 8, 7, 5, 4, 6]⟩,
    ⟨⟨(some 29), none, [19, 20], none, .q (.iad 4 (.t 19) (.t 20))⟩, [], [1, 0, 2, 3, 4, 5, 6, 7, 8, 9, 10]⟩,
    ⟨⟨(some 30), none, [29], none, .q (.fad 2 (.t 29))⟩, [], [11, 1, 0, 2, 3, 4, 5, 6, 7, 8, 9, 10]⟩,
    ⟨⟨none, none, [30, 28], none, .w (.st 1 (.t 30) (.t 28))⟩, [], [12, 11, 1, 0, 2, 3, 4, 5, 6, 7, 8, 9, 10]⟩]))
  (.drp 3 (.keep [1, 2, 3, 4] (.reg false [⟨(some 16), none, [4], none, .q (.mv (.t 4))⟩,
    ⟨(some 17), none, [16], none, .q (.bin .add (.t 16) (.k (.i 1)))⟩,
    ⟨(some 4), none, [17], none, .q (.mv (.t 17))⟩]))))))))))
  (.keep [1, 2, 3] (.seq (.any false 6 [⟨⟨(some 31), none, [], (some 0), .w (.bso 1 0 [(.i 0)] [])⟩, [], []⟩,
    ⟨⟨(some 32), none, [1], none, .q (.fad 1 (.t 1))⟩, [0], []⟩,
    ⟨⟨(some 33), none, [32], none, .q (.ld false 1 (.t 32))⟩, [0], [1]⟩,
    ⟨⟨(some 34), none, [31, 33], (some 1), .w (.app 1 (.t 31) (.t 33))⟩, [], [0, 2, 1]⟩,
    ⟨⟨(some 35), none, [], (some 2), .w (.bso 2 0 [(.i 0), (.i 0)] [])⟩, [0, 1, 2, 3], []⟩,
    ⟨⟨(some 36), none, [1], none, .q (.fad 3 (.t 1))⟩, [0, 3, 4], []⟩,
    ⟨⟨(some 37), none, [36], none, .q (.ld false 1 (.t 36))⟩, [0, 3, 4], [5]⟩,
    ⟨⟨(some 38), none, [35, 37], (some 3), .w (.app 2 (.t 35) (.t 37))⟩, [], [4, 6, 5, 3, 0, 2, 1]⟩,
    ⟨⟨(some 39), none, [], (some 4), .w (.bso 1 0 [(.i 0)] [])⟩, [0, 1, 2, 3, 4, 5, 6, 7], []⟩,
    ⟨⟨(some 40), none, [1], none, .q (.fad 4 (.t 1))⟩, [0, 3, 4, 7, 8], []⟩,
    ⟨⟨(some 41), none, [40], none, .q (.ld false 1 (.t 40))⟩, [0, 3, 4, 7, 8], [9]⟩,
    ⟨⟨(some 42), none, [39, 41], (some 5), .w (.app 1 (.t 39) (.t 41))⟩, [], [8, 10, 9, 7, 4, 6, 5, 3, 0, 2, 1]⟩,
    ⟨⟨(some 43), none, [3], none, .q (.fad 1 (.t 3))⟩, [4, 7, 8, 11], [0, 1, 2, 3]⟩,
    ⟨⟨none, none, [43, 34], none, .w (.st 1 (.t 43) (.t 34))⟩, [], [12, 0, 1, 2, 3, 11, 8, 10, 9, 7, 4, 6, 5]⟩,
    ⟨⟨(some 44), none, [3], none, .q (.fad 3 (.t 3))⟩, [], [0, 1, 2, 3, 4, 5, 6, 7, 12, 13, 11, 8, 10, 9]⟩,
    ⟨⟨none, none, [44, 38], none, .w (.st 1 (.t 44) (.t 38))⟩, [], [14, 0, 1, 2, 3, 4, 5, 6, 7, 12, 13, 11, 8, 10, 9]⟩,
    ⟨⟨(some 45), none, [3], none, .q (.fad 4 (.t 3))⟩, [], [0, 1, 2, 3, 4, 5, 6, 7, 8, 9, 10, 11, 12, 13, 14, 15]⟩,
    ⟨⟨none, none, [45, 42], none, .w (.st 1 (.t 45) (.t 42))⟩, [], [16, 0, 1, 2, 3, 4, 5, 6, 7, 8, 9, 10, 11, 12, 13, 14, 15]⟩])
  (.keep [2, 3] (.seq (.reg false [⟨(some 46), none, [3], none, .q (.ld true 6 (.t 3))⟩,
    ⟨none, none, [2, 46], none, .w (.st 6 (.t 2) (.t 46))⟩])
  .ret)))))))))))
def pu22 : List Nat := [1]
def rs22 : List RV := [.c 2 true 6]
theorem cc22 : comp Try.prog pu22 (Try.f22.ntmps, 0) 0 1 rc22 (Try.f22.body.getD .skip) = some rc22 := by kernel_rfl
theorem cb22 : Try.f22.body = some (Try.f22.body.getD .skip) := by kernel_rfl
theorem cs22 : resRV Try.prog Try.f22.results.toList = some rs22 := by kernel_rfl
theorem cn22 : 1 ≤ Try.f22.ntmps := by decide
/- ferrule/cloth.Round: params [26, 3], free 0, slots 27 -/
def rc23 : RC :=
  (.seq (.reg false [⟨(some 2), none, [0], none, .q (.box (.t 0))⟩,
    ⟨(some 4), none, [], none, .w (.alc [(.i 0), (.i 0)])⟩,
    ⟨(some 5), none, [], none, .q (.mv (.k (.i 0)))⟩])
  (.keep [1, 2, 4] (.seq (.any false 0 [⟨⟨(some 9), none, [2], none, .q (.ld true 6 (.t 2))⟩, [], []⟩,
    ⟨⟨(some 10), none, [2], none, .q (.ld true 6 (.t 2))⟩, [], []⟩,
    ⟨⟨(some 11), none, [1], none, .q (.mv (.t 1))⟩, [], []⟩,
    ⟨⟨(some 12), none, [10, 11], none, .q (.call (.k (.fn 46 [])) [(.t 10), (.t 11)])⟩, [], [1, 2]⟩,
    ⟨⟨(some 13), none, [9, 12], none, .q (.call (.k (.fn 45 [])) [(.t 9), (.t 12)])⟩, [], [0, 3, 1, 2]⟩,
    ⟨⟨(some 8), none, [13], none, .q (.mv (.t 13))⟩, [], [4, 0, 3, 1, 2]⟩,
    ⟨⟨(some 14), none, [8], none, .q (.ext (.t 8) 0)⟩, [], [5, 4, 0, 3, 1, 2]⟩,
    ⟨⟨(some 15), none, [8], none, .q (.ext (.t 8) 1)⟩, [], [5, 4, 0, 3, 1, 2]⟩,
    ⟨⟨(some 6), none, [14], none, .q (.mv (.t 14))⟩, [], [6, 5, 4, 0, 3, 1, 2]⟩,
    ⟨⟨(some 7), none, [15], none, .q (.mv (.t 15))⟩, [], [7, 5, 4, 0, 3, 1, 2, 8, 6]⟩])
  (.keep [1, 2, 4, 6, 7] (.seq (.seq (.reg false [⟨(some 16), none, [7], none, .q (.mv (.t 7))⟩,
    ⟨(some 17), none, [16], none, .q (.bin .neq (.t 16) (.k (.i 0)))⟩])
  (.keep [1, 2, 4, 6, 7, 17] (.cond (.t 17)
    (.seq (.reg false [⟨(some 18), none, [], none, .q (.bld [(.i 0), (.i 0)] [])⟩,
      ⟨(some 19), none, [7], none, .q (.mv (.t 7))⟩,
      ⟨none, none, [4, 18], none, .w (.st 2 (.t 4) (.t 18))⟩,
      ⟨(some 5), none, [19], none, .q (.mv (.t 19))⟩])
    .ret)
    .skip)))
  (.keep [1, 2, 4, 6] (.seq (.reg false [⟨(some 20), none, [6], none, .q (.mv (.t 6))⟩,
    ⟨(some 21), none, [2], none, .q (.fad 4 (.t 2))⟩,
    ⟨(some 22), none, [21], none, .q (.ld false 1 (.t 21))⟩,
    ⟨(some 23), none, [1], none, .q (.mv (.t 1))⟩,
    ⟨(some 24), none, [22, 23], none, .q (.iad 1 (.t 22) (.t 23))⟩,
    ⟨(some 25), none, [24], none, .q (.ld false 1 (.t 24))⟩,
    ⟨(some 26), none, [20, 25], none, .q (.call (.k (.fn 50 [])) [(.t 20), (.t 25)])⟩,
    ⟨none, none, [4, 26], none, .w (.st 2 (.t 4) (.t 26))⟩,
    ⟨(some 5), none, [], none, .q (.mv (.k (.i 0)))⟩])
  .ret)))))))
def pu23 : List Nat := [2]
def rs23 : List RV := [.c 4 true 2, .t 5]
theorem cc23 : comp Try.prog pu23 (Try.f23.ntmps, 0) 0 1 rc23 (Try.f23.body.getD .skip) = some rc23 := by kernel_rfl
theorem cb23 : Try.f23.body = some (Try.f23.body.getD .skip) := by kernel_rfl
theorem cs23 : resRV Try.prog Try.f23.results.toList = some rs23 := by kernel_rfl
theorem cn23 : 2 ≤ Try.f23.ntmps := by decide
/- ferrule/cloth.Loose: params [26], free 0, slots 36 -/
def rc26 : RC :=
  (.seq (.reg false [⟨(some 1), none, [0], none, .q (.box (.t 0))⟩,
    ⟨(some 2), none, [], none, .q (.mv (.k (.z 1)))⟩,
    ⟨(some 3), none, [], none, .q (.mv (.k (.i 0)))⟩])
  (.keep [1] (.seq (.reg false [⟨(some 10), none, [1], none, .q (.ld true 6 (.t 1))⟩,
    ⟨(some 11), none, [10], none, .q (.call (.k (.fn 45 [])) [(.t 10), (.k (.b true))])⟩,
    ⟨(some 9), none, [11], none, .q (.mv (.t 11))⟩,
    ⟨(some 12), none, [9], none, .q (.ext (.t 9) 0)⟩,
    ⟨(some 13), none, [9], none, .q (.ext (.t 9) 1)⟩,
    ⟨(some 4), none, [12], none, .q (.mv (.t 12))⟩,
    ⟨(some 5), none, [13], none, .q (.mv (.t 13))⟩])
  (.keep [1, 4, 5] (.seq (.seq (.reg false [⟨(some 14), none, [5], none, .q (.mv (.t 5))⟩,
    ⟨(some 15), none, [14], none, .q (.bin .neq (.t 14) (.k (.i 0)))⟩])
  (.keep [1, 4, 5, 15] (.cond (.t 15)
    (.seq (.reg false [⟨(some 16), none, [5], none, .q (.mv (.t 5))⟩,
      ⟨(some 2), none, [], none, .q (.mv (.k (.z 1)))⟩,
      ⟨(some 3), none, [16], none, .q (.mv (.t 16))⟩])
    .ret)
    .skip)))
  (.keep [1, 4] (.seq (.reg false [⟨(some 6), none, [], none, .q (.mv (.k (.z 1)))⟩])
  (.keep [1, 4, 6] (.seq (.seq (.reg false [⟨(some 17), none, [1], none, .q (.fad 4 (.t 1))⟩,
    ⟨(some 18), none, [17], none, .q (.ld false 1 (.t 17))⟩,
    ⟨(some 19), none, [18], none, .q (.len (.t 18))⟩,
    ⟨(some 20), none, [], none, .q (.mv (.k (.i 0)))⟩])
  (.keep [4, 6, 18, 19, 20] (.block 0 (.own 6 1 (.loop [4, 6, 18, 19, 20] none (.seq (.reg false [⟨(some 21), none, [20, 19], none, .q (.bin .lss (.t 20) (.t 19))⟩])
  (.keep [4, 6, 18, 19, 20, 21] (.seq (.cond (.t 21)
    .skip
    (.exit 0))
  (.keep [4, 6, 18, 19, 20] (.seq (.block 1 (.seq (.reg false [⟨(some 22), none, [20], none, .q (.mv (.t 20))⟩,
    ⟨(some 23), none, [18, 20], none, .q (.iad 1 (.t 18) (.t 20))⟩,
    ⟨(some 24), none, [23], none, .q (.ld false 1 (.t 23))⟩,
    ⟨(some 7), none, [22], none, .q (.mv (.t 22))⟩,
    ⟨(some 8), none, [24], none, .q (.mv (.t 24))⟩])
  (.keep [4, 6, 7, 8, 18, 19, 20] (.seq (.reg false [⟨(some 25), none, [4], none, .q (.mv (.t 4))⟩,
    ⟨(some 26), none, [7], none, .q (.mv (.t 7))⟩,
    ⟨(some 27), none, [8], none, .q (.mv (.t 8))⟩,
    ⟨(some 28), none, [25, 26, 27], none, .q (.call (.k (.fn 47 [])) [(.t 25), (.t 26), (.t 27)])⟩,
    ⟨(some 29), none, [28], none, .q (.bin .neq (.t 28) (.k (.i 1)))⟩])
  (.keep [4, 6, 7, 18, 19, 20, 29] (.cond (.t 29)
    (.reg false [⟨(some 30), none, [6], none, .q (.mv (.t 6))⟩,
      ⟨(some 31), none, [7], none, .q (.mv (.t 7))⟩,
      ⟨(some 32), none, [31], none, .q (.bsl 1 1 [(.i 0)] [(0, 1, (.t 31))])⟩,
      ⟨(some 33), none, [30, 32], none, .w (.app 1 (.t 30) (.t 32))⟩,
      ⟨(some 6), none, [33], none, .q (.mv (.t 33))⟩])
    .skip))))))
  (.keep [4, 6, 18, 19, 20] (.reg false [⟨(some 34), none, [20], none, .q (.bin .add (.t 20) (.k (.i 1)))⟩,
    ⟨(some 20), none, [34], none, .q (.mv (.t 34))⟩]))))))))))))
  (.keep [6] (.seq (.reg false [⟨(some 35), none, [6], none, .q (.mv (.t 6))⟩,
    ⟨(some 2), none, [35], none, .q (.mv (.t 35))⟩,
    ⟨(some 3), none, [], none, .q (.mv (.k (.i 0)))⟩])
  .ret)))))))))))
def pu26 : List Nat := [1, 32]
def rs26 : List RV := [.t 2, .t 3]
theorem cc26 : comp Try.prog pu26 (Try.f26.ntmps, 0) 0 1 rc26 (Try.f26.body.getD .skip) = some rc26 := by kernel_rfl
theorem cb26 : Try.f26.body = some (Try.f26.body.getD .skip) := by kernel_rfl
theorem cs26 : resRV Try.prog Try.f26.results.toList = some rs26 := by kernel_rfl
theorem cn26 : 1 ≤ Try.f26.ntmps := by decide
/- ferrule/ferrulelaw02.sameInts: params [23, 23], free 0, slots 26 -/
def rc28 : RC :=
  (.seq (.reg false [⟨(some 4), none, [], none, .q (.mv (.k (.b false)))⟩])
  (.keep [0, 1] (.seq (.seq (.reg false [⟨(some 6), none, [0], none, .q (.mv (.t 0))⟩,
    ⟨(some 7), none, [6], none, .q (.len (.t 6))⟩,
    ⟨(some 8), none, [1], none, .q (.mv (.t 1))⟩,
    ⟨(some 9), none, [8], none, .q (.len (.t 8))⟩,
    ⟨(some 10), none, [7, 9], none, .q (.bin .neq (.t 7) (.t 9))⟩])
  (.keep [0, 1, 10] (.cond (.t 10)
    (.seq (.reg false [⟨(some 4), none, [], none, .q (.mv (.k (.b false)))⟩])
    .ret)
    .skip)))
  (.keep [0, 1] (.seq (.seq (.reg false [⟨(some 5), none, [], none, .q (.mv (.k (.i 0)))⟩])
  (.keep [0, 1, 5] (.block 0 (.loop [0, 1, 5] none (.seq (.seq (.reg false [⟨(some 11), none, [5], none, .q (.mv (.t 5))⟩,
    ⟨(some 12), none, [0], none, .q (.mv (.t 0))⟩,
    ⟨(some 13), none, [12], none, .q (.len (.t 12))⟩,
    ⟨(some 14), none, [11, 13], none, .q (.bin .lss (.t 11) (.t 13))⟩])
  (.keep [0, 1, 5, 14] (.cond (.t 14)
    .skip
    (.exit 0))))
  (.keep [0, 1, 5] (.seq (.block 1 (.seq (.any false 0 [⟨⟨(some 17), none, [0], none, .q (.mv (.t 0))⟩, [], []⟩,
    ⟨⟨(some 18), none, [5], none, .q (.mv (.t 5))⟩, [], []⟩,
    ⟨⟨(some 19), none, [17, 18], none, .q (.iad 1 (.t 17) (.t 18))⟩, [], [0, 1]⟩,
    ⟨⟨(some 20), none, [19], none, .q (.ld false 1 (.t 19))⟩, [], [2, 0, 1]⟩,
    ⟨⟨(some 21), none, [1], none, .q (.mv (.t 1))⟩, [], []⟩,
    ⟨⟨(some 22), none, [5], none, .q (.mv (.t 5))⟩, [], []⟩,
    ⟨⟨(some 23), none, [21, 22], none, .q (.iad 1 (.t 21) (.t 22))⟩, [], [4, 5]⟩,
    ⟨⟨(some 24), none, [23], none, .q (.ld false 1 (.t 23))⟩, [], [6, 4, 5]⟩,
    ⟨⟨(some 25), none, [20, 24], none, .q (.bin .neq (.t 20) (.t 24))⟩, [], [3, 2, 0, 1, 7, 6, 4, 5]⟩])
  (.keep [0, 1, 5, 25] (.cond (.t 25)
    (.seq (.reg false [⟨(some 4), none, [], none, .q (.mv (.k (.b false)))⟩])
    .ret)
    .skip))))
  (.keep [0, 1, 5] (.reg false [⟨(some 15), none, [5], none, .q (.mv (.t 5))⟩,
    ⟨(some 16), none, [15], none, .q (.bin .add (.t 15) (.k (.i 1)))⟩,
    ⟨(some 5), none, [16], none, .q (.mv (.t 16))⟩])))))))))
  (.keep [] (.seq (.reg false [⟨(some 4), none, [], none, .q (.mv (.k (.b true)))⟩])
  .ret)))))))
def pu28 : List Nat := []
def rs28 : List RV := [.t 4]
theorem cc28 : comp Try.prog pu28 (Try.f28.ntmps, 0) 0 1 rc28 (Try.f28.body.getD .skip) = some rc28 := by kernel_rfl
theorem cb28 : Try.f28.body = some (Try.f28.body.getD .skip) := by kernel_rfl
theorem cs28 : resRV Try.prog Try.f28.results.toList = some rs28 := by kernel_rfl
theorem cn28 : 2 ≤ Try.f28.ntmps := by decide
end Go.C02
