import Derived.Test.YtgcinomjcgebhaaFam14
import Derived.Test.YtgcinomjcgebhaaChecked
set_option linter.all false
/- Resolved code, printed by program (wip/tools/mkrc.py). -/
set_option maxRecDepth 8000
namespace Go.C02
open Go.Fam Go.Proofs
/- ferrule/ferrulelaw02.ClothBetween: params [26, 3, 3], free 0, slots 93 -/
def rc3 : RC :=
  (.seq (.reg false [⟨(some 3), none, [0], none, .q (.box (.t 0))⟩,
    ⟨(some 6), none, [], none, .q (.mv (.k (.b false)))⟩])
  (.keep [1, 2, 3] (.seq (.seq (.reg true [⟨(some 11), none, [3], none, .q (.ld true 6 (.t 3))⟩,
    ⟨(some 12), none, [1], none, .q (.mv (.t 1))⟩,
    ⟨(some 13), none, [11, 12], none, .q (.call (.k (.fn 15 [])) [(.t 11), (.t 12)])⟩,
    ⟨(some 14), none, [13], none, .q (.not (.t 13))⟩,
    ⟨(some 15), none, [14], none, .q (.mv (.t 14))⟩,
    ⟨(some 16), (some (15, false)), [2], none, .q (.mv (.t 2))⟩,
    ⟨(some 17), (some (15, false)), [3], none, .q (.fad 2 (.t 3))⟩,
    ⟨(some 18), (some (15, false)), [17], none, .q (.ld false 1 (.t 17))⟩,
    ⟨(some 19), (some (15, false)), [18], none, .q (.bin .mul (.k (.i 2)) (.t 18))⟩,
    ⟨(some 20), (some (15, false)), [16, 19], none, .q (.bin .lss (.t 16) (.t 19))⟩,
    ⟨(some 21), none, [15, 20], none, .q (.pick (.t 15) (.k (.b true)) (.t 20))⟩,
    ⟨(some 22), none, [21], none, .q (.mv (.t 21))⟩,
    ⟨(some 23), (some (22, false)), [2], none, .q (.mv (.t 2))⟩,
    ⟨(some 24), (some (22, false)), [23], none, .q (.bin .gtr (.t 23) (.k (.i 2000)))⟩,
    ⟨(some 25), none, [22, 24], none, .q (.pick (.t 22) (.k (.b true)) (.t 24))⟩])
  (.keep [1, 2, 3, 25] (.cond (.t 25)
    (.seq (.reg false [⟨(some 26), none, [], none, .q (.call (.k (.fn 16 [])) [])⟩,
      ⟨(some 6), none, [26], none, .q (.mv (.t 26))⟩])
    .ret)
    .skip)))
  (.keep [1, 2, 3] (.seq (.reg false [⟨(some 28), none, [3], none, .q (.ld true 6 (.t 3))⟩,
    ⟨(some 29), none, [1], none, .q (.mv (.t 1))⟩,
    ⟨(some 30), none, [2], none, .q (.mv (.t 2))⟩,
    ⟨(some 31), none, [28, 29, 30], none, .q (.call (.k (.fn 18 [])) [(.t 28), (.t 29), (.t 30)])⟩,
    ⟨(some 32), none, [1], none, .q (.mv (.t 1))⟩,
    ⟨(some 33), none, [31, 32], none, .q (.call (.k (.fn 17 [])) [(.t 31), (.t 32)])⟩,
    ⟨(some 27), none, [33], none, .q (.mv (.t 33))⟩,
    ⟨(some 34), none, [27], none, .q (.ext (.t 27) 0)⟩,
    ⟨(some 35), none, [27], none, .q (.ext (.t 27) 1)⟩,
    ⟨(some 7), none, [34], none, .q (.mv (.t 34))⟩,
    ⟨(some 8), none, [35], none, .q (.mv (.t 35))⟩])
  (.keep [1, 2, 3, 7, 8] (.seq (.reg false [⟨(some 37), none, [3], none, .q (.ld true 6 (.t 3))⟩,
    ⟨(some 38), none, [1], none, .q (.mv (.t 1))⟩,
    ⟨(some 39), none, [37, 38], none, .q (.call (.k (.fn 19 [])) [(.t 37), (.t 38)])⟩,
    ⟨(some 36), none, [39], none, .q (.mv (.t 39))⟩,
    ⟨(some 40), none, [36], none, .q (.ext (.t 36) 0)⟩,
    ⟨(some 41), none, [36], none, .q (.ext (.t 36) 1)⟩,
    ⟨(some 9), none, [], none, .w (.alc [(.i 0), (.i 0)])⟩,
    ⟨none, none, [9, 40], none, .w (.st 2 (.t 9) (.t 40))⟩,
    ⟨(some 10), none, [41], none, .q (.mv (.t 41))⟩])
  (.keep [2, 3, 7, 8, 9, 10] (.seq (.seq (.reg false [⟨(some 42), none, [8], none, .q (.mv (.t 8))⟩,
    ⟨(some 43), none, [42], none, .q (.bin .neq (.t 42) (.k (.i 0)))⟩])
  (.keep [2, 3, 7, 8, 9, 10, 43] (.cond (.t 43)
    (.seq (.reg true [⟨(some 44), none, [8], none, .q (.mv (.t 8))⟩,
      ⟨(some 45), none, [44], none, .q (.bin .eql (.t 44) (.k (.i 3)))⟩,
      ⟨(some 46), none, [45], none, .q (.mv (.t 45))⟩,
      ⟨(some 47), (some (46, true)), [10], none, .q (.mv (.t 10))⟩,
      ⟨(some 48), (some (46, true)), [47], none, .q (.bin .eql (.t 47) (.k (.i 3)))⟩,
      ⟨(some 49), none, [46, 48], none, .q (.pick (.t 46) (.t 48) (.k (.b false)))⟩,
      ⟨(some 50), none, [49], none, .q (.mv (.t 49))⟩,
      ⟨(some 51), (some (50, true)), [], none, .q (.call (.k (.fn 16 [])) [])⟩,
      ⟨(some 52), none, [50, 51], none, .q (.pick (.t 50) (.t 51) (.k (.b false)))⟩,
      ⟨(some 6), none, [52], none, .q (.mv (.t 52))⟩])
    .ret)
    .skip)))
  (.keep [2, 3, 7, 9, 10] (.seq (.seq (.reg false [⟨(some 53), none, [10], none, .q (.mv (.t 10))⟩,
    ⟨(some 54), none, [53], none, .q (.bin .neq (.t 53) (.k (.i 0)))⟩])
  (.keep [2, 3, 7, 9, 10, 54] (.cond (.t 54)
    (.seq (.reg true [⟨(some 55), none, [10], none, .q (.mv (.t 10))⟩,
      ⟨(some 56), none, [55], none, .q (.bin .eql (.t 55) (.k (.i 3)))⟩,
      ⟨(some 57), none, [56], none, .q (.mv (.t 56))⟩,
      ⟨(some 58), (some (57, true)), [7], none, .q (.mv (.t 7))⟩,
      ⟨(some 59), (some (57, true)), [58], none, .q (.bin .neq (.t 58) (.k (.i 1)))⟩,
      ⟨(some 60), none, [57, 59], none, .q (.pick (.t 57) (.t 59) (.k (.b false)))⟩,
      ⟨(some 61), none, [60], none, .q (.mv (.t 60))⟩,
      ⟨(some 62), (some (61, true)), [], none, .q (.call (.k (.fn 16 [])) [])⟩,
      ⟨(some 63), none, [61, 62], none, .q (.pick (.t 61) (.t 62) (.k (.b false)))⟩,
      ⟨(some 6), none, [63], none, .q (.mv (.t 63))⟩])
    .ret)
    .skip)))
  (.keep [2, 3, 7, 9] (.seq (.reg true [⟨(some 64), none, [9], none, .q (.fad 0 (.t 9))⟩,
    ⟨(some 65), none, [64], none, .q (.ld false 1 (.t 64))⟩,
    ⟨(some 66), none, [3], none, .q (.fad 2 (.t 3))⟩,
    ⟨(some 67), none, [66], none, .q (.ld false 1 (.t 66))⟩,
    ⟨(some 68), none, [67], none, .q (.bin .mul (.k (.i 2)) (.t 67))⟩,
    ⟨(some 69), none, [65, 68], none, .q (.bin .geq (.t 65) (.t 68))⟩,
    ⟨(some 70), none, [69], none, .q (.mv (.t 69))⟩,
    ⟨(some 71), (some (70, true)), [9], none, .q (.fad 0 (.t 9))⟩,
    ⟨(some 72), (some (70, true)), [71], none, .q (.ld false 1 (.t 71))⟩,
    ⟨(some 73), (some (70, true)), [9], none, .q (.fad 1 (.t 9))⟩,
    ⟨(some 74), (some (70, true)), [73], none, .q (.ld false 1 (.t 73))⟩,
    ⟨(some 75), (some (70, true)), [72, 74], none, .q (.bin .leq (.t 72) (.t 74))⟩,
    ⟨(some 76), none, [70, 75], none, .q (.pick (.t 70) (.t 75) (.k (.b false)))⟩,
    ⟨(some 77), none, [76], none, .q (.mv (.t 76))⟩,
    ⟨(some 78), (some (77, true)), [9], none, .q (.fad 1 (.t 9))⟩,
    ⟨(some 79), (some (77, true)), [78], none, .q (.ld false 1 (.t 78))⟩,
    ⟨(some 80), (some (77, true)), [79], none, .q (.bin .leq (.t 79) (.k (.i 2000)))⟩,
    ⟨(some 81), none, [77, 80], none, .q (.pick (.t 77) (.t 80) (.k (.b false)))⟩,
    ⟨(some 82), none, [81], none, .q (.mv (.t 81))⟩,
    ⟨(some 83), (some (82, true)), [7], none, .q (.mv (.t 7))⟩,
    ⟨(some 84), (some (82, true)), [83], none, .q (.bin .eql (.t 83) (.k (.i 1)))⟩,
    ⟨(some 85), (some (82, true)), [9], none, .q (.ld true 2 (.t 9))⟩,
    ⟨(some 86), (some (82, true)), [2], none, .q (.mv (.t 2))⟩,
    ⟨(some 87), (some (82, true)), [85, 86], none, .q (.call (.k (.fn 20 [])) [(.t 85), (.t 86)])⟩,
    ⟨(some 88), (some (82, true)), [84, 87], none, .q (.bq false (.t 84) (.t 87))⟩,
    ⟨(some 89), none, [82, 88], none, .q (.pick (.t 82) (.t 88) (.k (.b false)))⟩,
    ⟨(some 90), none, [89], none, .q (.mv (.t 89))⟩,
    ⟨(some 91), (some (90, true)), [], none, .q (.call (.k (.fn 16 [])) [])⟩,
    ⟨(some 92), none, [90, 91], none, .q (.pick (.t 90) (.t 91) (.k (.b false)))⟩,
    ⟨(some 6), none, [92], none, .q (.mv (.t 92))⟩])
  .ret)))))))))))))
def pu3 : List Nat := [3]
def rs3 : List RV := [.t 6]
theorem cc3 : comp Try.prog pu3 (Try.f3.ntmps, 0) 0 1 rc3 (Try.f3.body.getD .skip) = some rc3 := by kernel_rfl
theorem cb3 : Try.f3.body = some (Try.f3.body.getD .skip) := by kernel_rfl
theorem cs3 : resRV Try.prog Try.f3.results.toList = some rs3 := by kernel_rfl
theorem cn3 : 3 ≤ Try.f3.ntmps := by decide
/- ferrule/ferrulelaw02.ClothRounds: params [26, 3], free 0, slots 93 -/
def rc4 : RC :=
  (.seq (.reg false [⟨(some 2), none, [0], none, .q (.box (.t 0))⟩,
    ⟨(some 4), none, [], none, .q (.mv (.k (.b false)))⟩])
  (.keep [1, 2] (.seq (.seq (.reg false [⟨(some 18), none, [2], none, .q (.ld true 6 (.t 2))⟩,
    ⟨(some 19), none, [18], none, .q (.call (.k (.fn 21 [])) [(.t 18)])⟩])
  (.keep [1, 2, 19] (.cond (.t 19)
    (.seq (.reg false [⟨(some 20), none, [], none, .q (.call (.k (.fn 16 [])) [])⟩,
      ⟨(some 4), none, [20], none, .q (.mv (.t 20))⟩])
    .ret)
    .skip)))
  (.keep [1, 2] (.seq (.reg false [⟨(some 21), none, [2], none, .q (.ld true 6 (.t 2))⟩,
    ⟨(some 22), none, [21], none, .q (.call (.k (.fn 22 [])) [(.t 21)])⟩,
    ⟨(some 5), none, [], none, .w (.alc [(.z 4), (.z 1), (.i 0), (.z 2), (.z 1), (.i 0)])⟩,
    ⟨none, none, [5, 22], none, .w (.st 6 (.t 5) (.t 22))⟩])
  (.keep [1, 2, 5] (.seq (.reg false [⟨(some 24), none, [5], none, .q (.ld true 6 (.t 5))⟩,
    ⟨(some 25), none, [1], none, .q (.mv (.t 1))⟩,
    ⟨(some 26), none, [24, 25], none, .q (.call (.k (.fn 23 [])) [(.t 24), (.t 25)])⟩,
    ⟨(some 23), none, [26], none, .q (.mv (.t 26))⟩,
    ⟨(some 27), none, [23], none, .q (.ext (.t 23) 0)⟩,
    ⟨(some 28), none, [23], none, .q (.ext (.t 23) 1)⟩,
    ⟨(some 6), none, [], none, .w (.alc [(.i 0), (.i 0)])⟩,
    ⟨none, none, [6, 27], none, .w (.st 2 (.t 6) (.t 27))⟩,
    ⟨(some 7), none, [28], none, .q (.mv (.t 28))⟩])
  (.keep [1, 2, 5, 6, 7] (.seq (.reg false [⟨(some 30), none, [2], none, .q (.ld true 6 (.t 2))⟩,
    ⟨(some 31), none, [1], none, .q (.mv (.t 1))⟩,
    ⟨(some 32), none, [30, 31], none, .q (.call (.k (.fn 24 [])) [(.t 30), (.t 31)])⟩,
    ⟨(some 29), none, [32], none, .q (.mv (.t 32))⟩,
    ⟨(some 33), none, [29], none, .q (.ext (.t 29) 0)⟩,
    ⟨(some 34), none, [29], none, .q (.ext (.t 29) 1)⟩,
    ⟨(some 8), none, [], none, .w (.alc [(.i 0), (.i 0)])⟩,
    ⟨none, none, [8, 33], none, .w (.st 2 (.t 8) (.t 33))⟩,
    ⟨(some 9), none, [34], none, .q (.mv (.t 34))⟩])
  (.keep [1, 2, 5, 6, 7, 8, 9] (.seq (.reg false [⟨(some 36), none, [5], none, .q (.ld true 6 (.t 5))⟩,
    ⟨(some 37), none, [1], none, .q (.mv (.t 1))⟩,
    ⟨(some 38), none, [36, 37], none, .q (.call (.k (.fn 17 [])) [(.t 36), (.t 37)])⟩,
    ⟨(some 35), none, [38], none, .q (.mv (.t 38))⟩,
    ⟨(some 39), none, [35], none, .q (.ext (.t 35) 0)⟩,
    ⟨(some 40), none, [35], none, .q (.ext (.t 35) 1)⟩,
    ⟨(some 10), none, [39], none, .q (.mv (.t 39))⟩,
    ⟨(some 11), none, [40], none, .q (.mv (.t 40))⟩])
  (.keep [1, 2, 5, 6, 7, 8, 9, 10, 11] (.seq (.reg false [⟨(some 42), none, [2], none, .q (.ld true 6 (.t 2))⟩,
    ⟨(some 43), none, [1], none, .q (.mv (.t 1))⟩,
    ⟨(some 44), none, [42, 43], none, .q (.call (.k (.fn 25 [])) [(.t 42), (.t 43)])⟩,
    ⟨(some 41), none, [44], none, .q (.mv (.t 44))⟩,
    ⟨(some 45), none, [41], none, .q (.ext (.t 41) 0)⟩,
    ⟨(some 46), none, [41], none, .q (.ext (.t 41) 1)⟩,
    ⟨(some 12), none, [45], none, .q (.mv (.t 45))⟩,
    ⟨(some 13), none, [46], none, .q (.mv (.t 46))⟩])
  (.keep [2, 5, 6, 7, 8, 9, 10, 11, 12, 13] (.seq (.reg false [⟨(some 48), none, [5], none, .q (.ld true 6 (.t 5))⟩,
    ⟨(some 49), none, [48], none, .q (.call (.k (.fn 26 [])) [(.t 48)])⟩,
    ⟨(some 47), none, [49], none, .q (.mv (.t 49))⟩,
    ⟨(some 50), none, [47], none, .q (.ext (.t 47) 0)⟩,
    ⟨(some 51), none, [47], none, .q (.ext (.t 47) 1)⟩,
    ⟨(some 14), none, [50], none, .q (.mv (.t 50))⟩,
    ⟨(some 15), none, [51], none, .q (.mv (.t 51))⟩])
  (.keep [2, 5, 6, 7, 8, 9, 10, 11, 12, 13, 14, 15] (.seq (.reg false [⟨(some 53), none, [2], none, .q (.ld true 6 (.t 2))⟩,
    ⟨(some 54), none, [53], none, .q (.call (.k (.fn 27 [])) [(.t 53)])⟩,
    ⟨(some 52), none, [54], none, .q (.mv (.t 54))⟩,
    ⟨(some 55), none, [52], none, .q (.ext (.t 52) 0)⟩,
    ⟨(some 56), none, [52], none, .q (.ext (.t 52) 1)⟩,
    ⟨(some 16), none, [55], none, .q (.mv (.t 55))⟩,
    ⟨(some 17), none, [56], none, .q (.mv (.t 56))⟩])
  (.keep [2, 5, 6, 7, 8, 9, 10, 11, 12, 13, 14, 15, 16, 17] (.seq (.reg true [⟨(some 57), none, [6], none, .q (.ld true 2 (.t 6))⟩,
    ⟨(some 58), none, [8], none, .q (.ld true 2 (.t 8))⟩,
    ⟨(some 59), none, [57, 58], none, .q (.eqs false 34 (.t 57) (.t 58))⟩,
    ⟨(some 60), none, [59], none, .q (.mv (.t 59))⟩,
    ⟨(some 61), (some (60, true)), [7], none, .q (.mv (.t 7))⟩,
    ⟨(some 62), (some (60, true)), [9], none, .q (.mv (.t 9))⟩,
    ⟨(some 63), (some (60, true)), [61, 62], none, .q (.bin .eql (.t 61) (.t 62))⟩,
    ⟨(some 64), none, [60, 63], none, .q (.pick (.t 60) (.t 63) (.k (.b false)))⟩,
    ⟨(some 65), none, [64], none, .q (.mv (.t 64))⟩,
    ⟨(some 66), (some (65, true)), [10], none, .q (.mv (.t 10))⟩,
    ⟨(some 67), (some (65, true)), [12], none, .q (.mv (.t 12))⟩,
    ⟨(some 68), (some (65, true)), [66, 67], none, .q (.bin .eql (.t 66) (.t 67))⟩,
    ⟨(some 69), none, [65, 68], none, .q (.pick (.t 65) (.t 68) (.k (.b false)))⟩,
    ⟨(some 70), none, [69], none, .q (.mv (.t 69))⟩,
    ⟨(some 71), (some (70, true)), [11], none, .q (.mv (.t 11))⟩,
    ⟨(some 72), (some (70, true)), [13], none, .q (.mv (.t 13))⟩,
    ⟨(some 73), (some (70, true)), [71, 72], none, .q (.bin .eql (.t 71) (.t 72))⟩,
    ⟨(some 74), none, [70, 73], none, .q (.pick (.t 70) (.t 73) (.k (.b false)))⟩,
    ⟨(some 75), none, [74], none, .q (.mv (.t 74))⟩,
    ⟨(some 76), (some (75, true)), [14], none, .q (.mv (.t 14))⟩,
    ⟨(some 77), (some (75, true)), [16], none, .q (.mv (.t 16))⟩,
    ⟨(some 78), (some (75, true)), [76, 77], none, .q (.call (.k (.fn 28 [])) [(.t 76), (.t 77)])⟩,
    ⟨(some 79), none, [75, 78], none, .q (.pick (.t 75) (.t 78) (.k (.b false)))⟩,
    ⟨(some 80), none, [79], none, .q (.mv (.t 79))⟩,
    ⟨(some 81), (some (80, true)), [15], none, .q (.mv (.t 15))⟩,
    ⟨(some 82), (some (80, true)), [17], none, .q (.mv (.t 17))⟩,
    ⟨(some 83), (some (80, true)), [81, 82], none, .q (.bin .eql (.t 81) (.t 82))⟩,
    ⟨(some 84), none, [80, 83], none, .q (.pick (.t 80) (.t 83) (.k (.b false)))⟩,
    ⟨(some 85), none, [84], none, .q (.mv (.t 84))⟩,
    ⟨(some 86), (some (85, true)), [5], none, .q (.ld true 6 (.t 5))⟩,
    ⟨(some 87), (some (85, true)), [2], none, .q (.ld true 6 (.t 2))⟩,
    ⟨(some 88), (some (85, true)), [86, 87], none, .q (.call (.k (.fn 29 [])) [(.t 86), (.t 87)])⟩,
    ⟨(some 89), none, [85, 88], none, .q (.pick (.t 85) (.t 88) (.k (.b false)))⟩,
    ⟨(some 90), none, [89], none, .q (.mv (.t 89))⟩,
    ⟨(some 91), (some (90, true)), [], none, .q (.call (.k (.fn 16 [])) [])⟩,
    ⟨(some 92), none, [90, 91], none, .q (.pick (.t 90) (.t 91) (.k (.b false)))⟩,
    ⟨(some 4), none, [92], none, .q (.mv (.t 92))⟩])
  .ret)))))))))))))))))))
def pu4 : List Nat := [2]
def rs4 : List RV := [.t 4]
theorem cc4 : comp Try.prog pu4 (Try.f4.ntmps, 0) 0 1 rc4 (Try.f4.body.getD .skip) = some rc4 := by kernel_rfl
theorem cb4 : Try.f4.body = some (Try.f4.body.getD .skip) := by kernel_rfl
theorem cs4 : resRV Try.prog Try.f4.results.toList = some rs4 := by kernel_rfl
theorem cn4 : 2 ≤ Try.f4.ntmps := by decide
/- ferrule/ferrulelaw02.ClothCuts: params [26, 3], free 0, slots 67 -/
def rc5 : RC :=
  (.seq (.reg false [⟨(some 2), none, [0], none, .q (.box (.t 0))⟩,
    ⟨(some 4), none, [], none, .q (.mv (.k (.b false)))⟩])
  (.keep [1, 2] (.seq (.seq (.reg false [⟨(some 14), none, [2], none, .q (.ld true 6 (.t 2))⟩,
    ⟨(some 15), none, [14], none, .q (.call (.k (.fn 21 [])) [(.t 14)])⟩])
  (.keep [1, 2, 15] (.cond (.t 15)
    (.seq (.reg false [⟨(some 16), none, [], none, .q (.call (.k (.fn 16 [])) [])⟩,
      ⟨(some 4), none, [16], none, .q (.mv (.t 16))⟩])
    .ret)
    .skip)))
  (.keep [1, 2] (.seq (.reg false [⟨(some 17), none, [2], none, .q (.ld true 6 (.t 2))⟩,
    ⟨(some 18), none, [17], none, .q (.call (.k (.fn 22 [])) [(.t 17)])⟩,
    ⟨(some 5), none, [], none, .w (.alc [(.z 4), (.z 1), (.i 0), (.z 2), (.z 1), (.i 0)])⟩,
    ⟨none, none, [5, 18], none, .w (.st 6 (.t 5) (.t 18))⟩])
  (.keep [1, 2, 5] (.seq (.reg false [⟨(some 20), none, [5], none, .q (.ld true 6 (.t 5))⟩,
    ⟨(some 21), none, [1], none, .q (.mv (.t 1))⟩,
    ⟨(some 22), none, [20, 21], none, .q (.call (.k (.fn 19 [])) [(.t 20), (.t 21)])⟩,
    ⟨(some 19), none, [22], none, .q (.mv (.t 22))⟩,
    ⟨(some 23), none, [19], none, .q (.ext (.t 19) 0)⟩,
    ⟨(some 24), none, [19], none, .q (.ext (.t 19) 1)⟩,
    ⟨(some 6), none, [], none, .w (.alc [(.i 0), (.i 0)])⟩,
    ⟨none, none, [6, 23], none, .w (.st 2 (.t 6) (.t 23))⟩,
    ⟨(some 7), none, [24], none, .q (.mv (.t 24))⟩])
  (.keep [1, 2, 5, 6, 7] (.seq (.reg false [⟨(some 26), none, [2], none, .q (.ld true 6 (.t 2))⟩,
    ⟨(some 27), none, [1], none, .q (.mv (.t 1))⟩,
    ⟨(some 28), none, [26, 27], none, .q (.call (.k (.fn 30 [])) [(.t 26), (.t 27)])⟩,
    ⟨(some 25), none, [28], none, .q (.mv (.t 28))⟩,
    ⟨(some 29), none, [25], none, .q (.ext (.t 25) 0)⟩,
    ⟨(some 30), none, [25], none, .q (.ext (.t 25) 1)⟩,
    ⟨(some 8), none, [], none, .w (.alc [(.i 0), (.i 0)])⟩,
    ⟨none, none, [8, 29], none, .w (.st 2 (.t 8) (.t 29))⟩,
    ⟨(some 9), none, [30], none, .q (.mv (.t 30))⟩])
  (.keep [2, 5, 6, 7, 8, 9] (.seq (.reg false [⟨(some 32), none, [5], none, .q (.ld true 6 (.t 5))⟩,
    ⟨(some 33), none, [32], none, .q (.call (.k (.fn 31 [])) [(.t 32)])⟩,
    ⟨(some 31), none, [33], none, .q (.mv (.t 33))⟩,
    ⟨(some 34), none, [31], none, .q (.ext (.t 31) 0)⟩,
    ⟨(some 35), none, [31], none, .q (.ext (.t 31) 1)⟩,
    ⟨(some 10), none, [34], none, .q (.mv (.t 34))⟩,
    ⟨(some 11), none, [35], none, .q (.mv (.t 35))⟩])
  (.keep [2, 5, 6, 7, 8, 9, 10, 11] (.seq (.reg false [⟨(some 37), none, [2], none, .q (.ld true 6 (.t 2))⟩,
    ⟨(some 38), none, [37], none, .q (.call (.k (.fn 32 [])) [(.t 37)])⟩,
    ⟨(some 36), none, [38], none, .q (.mv (.t 38))⟩,
    ⟨(some 39), none, [36], none, .q (.ext (.t 36) 0)⟩,
    ⟨(some 40), none, [36], none, .q (.ext (.t 36) 1)⟩,
    ⟨(some 12), none, [39], none, .q (.mv (.t 39))⟩,
    ⟨(some 13), none, [40], none, .q (.mv (.t 40))⟩])
  (.keep [2, 5, 6, 7, 8, 9, 10, 11, 12, 13] (.seq (.reg true [⟨(some 41), none, [6], none, .q (.ld true 2 (.t 6))⟩,
    ⟨(some 42), none, [8], none, .q (.ld true 2 (.t 8))⟩,
    ⟨(some 43), none, [41, 42], none, .q (.eqs false 34 (.t 41) (.t 42))⟩,
    ⟨(some 44), none, [43], none, .q (.mv (.t 43))⟩,
    ⟨(some 45), (some (44, true)), [7], none, .q (.mv (.t 7))⟩,
    ⟨(some 46), (some (44, true)), [9], none, .q (.mv (.t 9))⟩,
    ⟨(some 47), (some (44, true)), [45, 46], none, .q (.bin .eql (.t 45) (.t 46))⟩,
    ⟨(some 48), none, [44, 47], none, .q (.pick (.t 44) (.t 47) (.k (.b false)))⟩,
    ⟨(some 49), none, [48], none, .q (.mv (.t 48))⟩,
    ⟨(some 50), (some (49, true)), [10], none, .q (.mv (.t 10))⟩,
    ⟨(some 51), (some (49, true)), [12], none, .q (.mv (.t 12))⟩,
    ⟨(some 52), (some (49, true)), [50, 51], none, .q (.bin .eql (.t 50) (.t 51))⟩,
    ⟨(some 53), none, [49, 52], none, .q (.pick (.t 49) (.t 52) (.k (.b false)))⟩,
    ⟨(some 54), none, [53], none, .q (.mv (.t 53))⟩,
    ⟨(some 55), (some (54, true)), [11], none, .q (.mv (.t 11))⟩,
    ⟨(some 56), (some (54, true)), [13], none, .q (.mv (.t 13))⟩,
    ⟨(some 57), (some (54, true)), [55, 56], none, .q (.bin .eql (.t 55) (.t 56))⟩,
    ⟨(some 58), none, [54, 57], none, .q (.pick (.t 54) (.t 57) (.k (.b false)))⟩,
    ⟨(some 59), none, [58], none, .q (.mv (.t 58))⟩,
    ⟨(some 60), (some (59, true)), [5], none, .q (.ld true 6 (.t 5))⟩,
    ⟨(some 61), (some (59, true)), [2], none, .q (.ld true 6 (.t 2))⟩,
    ⟨(some 62), (some (59, true)), [60, 61], none, .q (.call (.k (.fn 29 [])) [(.t 60), (.t 61)])⟩,
    ⟨(some 63), none, [59, 62], none, .q (.pick (.t 59) (.t 62) (.k (.b false)))⟩,
    ⟨(some 64), none, [63], none, .q (.mv (.t 63))⟩,
    ⟨(some 65), (some (64, true)), [], none, .q (.call (.k (.fn 16 [])) [])⟩,
    ⟨(some 66), none, [64, 65], none, .q (.pick (.t 64) (.t 65) (.k (.b false)))⟩,
    ⟨(some 4), none, [66], none, .q (.mv (.t 66))⟩])
  .ret)))))))))))))))
def pu5 : List Nat := [2]
def rs5 : List RV := [.t 4]
theorem cc5 : comp Try.prog pu5 (Try.f5.ntmps, 0) 0 1 rc5 (Try.f5.body.getD .skip) = some rc5 := by kernel_rfl
theorem cb5 : Try.f5.body = some (Try.f5.body.getD .skip) := by kernel_rfl
theorem cs5 : resRV Try.prog Try.f5.results.toList = some rs5 := by kernel_rfl
theorem cn5 : 2 ≤ Try.f5.ntmps := by decide
/- ferrule/ferrulelaw02.ClothCurve: params [26], free 0, slots 63 -/
def rc6 : RC :=
  (.seq (.reg false [⟨(some 1), none, [0], none, .q (.box (.t 0))⟩,
    ⟨(some 2), none, [], none, .q (.mv (.k (.b false)))⟩])
  (.keep [1] (.seq (.seq (.reg false [⟨(some 9), none, [1], none, .q (.ld true 6 (.t 1))⟩,
    ⟨(some 10), none, [9], none, .q (.call (.k (.fn 21 [])) [(.t 9)])⟩])
  (.keep [1, 10] (.cond (.t 10)
    (.seq (.reg false [⟨(some 11), none, [], none, .q (.call (.k (.fn 16 [])) [])⟩,
      ⟨(some 2), none, [11], none, .q (.mv (.t 11))⟩])
    .ret)
    .skip)))
  (.keep [1] (.seq (.reg false [⟨(some 13), none, [1], none, .q (.ld true 6 (.t 1))⟩,
    ⟨(some 14), none, [13], none, .q (.call (.k (.fn 22 [])) [(.t 13)])⟩,
    ⟨(some 15), none, [14], none, .q (.call (.k (.fn 33 [])) [(.t 14)])⟩,
    ⟨(some 12), none, [15], none, .q (.mv (.t 15))⟩,
    ⟨(some 16), none, [12], none, .q (.ext (.t 12) 0)⟩,
    ⟨(some 17), none, [12], none, .q (.ext (.t 12) 1)⟩,
    ⟨(some 3), none, [16], none, .q (.mv (.t 16))⟩,
    ⟨(some 4), none, [17], none, .q (.mv (.t 17))⟩])
  (.keep [1, 3, 4] (.seq (.reg false [⟨(some 19), none, [1], none, .q (.ld true 6 (.t 1))⟩,
    ⟨(some 20), none, [19], none, .q (.call (.k (.fn 32 [])) [(.t 19)])⟩,
    ⟨(some 18), none, [20], none, .q (.mv (.t 20))⟩,
    ⟨(some 21), none, [18], none, .q (.ext (.t 18) 0)⟩,
    ⟨(some 22), none, [18], none, .q (.ext (.t 18) 1)⟩,
    ⟨(some 5), none, [21], none, .q (.mv (.t 21))⟩,
    ⟨(some 6), none, [22], none, .q (.mv (.t 22))⟩])
  (.keep [1, 3, 4, 5, 6] (.seq (.seq (.reg true [⟨(some 23), none, [4], none, .q (.mv (.t 4))⟩,
    ⟨(some 24), none, [6], none, .q (.mv (.t 6))⟩,
    ⟨(some 25), none, [23, 24], none, .q (.bin .neq (.t 23) (.t 24))⟩,
    ⟨(some 26), none, [25], none, .q (.mv (.t 25))⟩,
    ⟨(some 27), (some (26, false)), [4], none, .q (.mv (.t 4))⟩,
    ⟨(some 28), (some (26, false)), [27], none, .q (.bin .neq (.t 27) (.k (.i 0)))⟩,
    ⟨(some 29), none, [26, 28], none, .q (.pick (.t 26) (.k (.b true)) (.t 28))⟩])
  (.keep [1, 3, 4, 5, 6, 29] (.cond (.t 29)
    (.seq (.reg true [⟨(some 30), none, [4], none, .q (.mv (.t 4))⟩,
      ⟨(some 31), none, [6], none, .q (.mv (.t 6))⟩,
      ⟨(some 32), none, [30, 31], none, .q (.bin .eql (.t 30) (.t 31))⟩,
      ⟨(some 33), none, [32], none, .q (.mv (.t 32))⟩,
      ⟨(some 34), (some (33, true)), [3], none, .q (.mv (.t 3))⟩,
      ⟨(some 35), (some (33, true)), [34], none, .q (.len (.t 34))⟩,
      ⟨(some 36), (some (33, true)), [35], none, .q (.bin .eql (.t 35) (.k (.i 0)))⟩,
      ⟨(some 37), none, [33, 36], none, .q (.pick (.t 33) (.t 36) (.k (.b false)))⟩,
      ⟨(some 38), none, [37], none, .q (.mv (.t 37))⟩,
      ⟨(some 39), (some (38, true)), [], none, .q (.call (.k (.fn 16 [])) [])⟩,
      ⟨(some 40), none, [38, 39], none, .q (.pick (.t 38) (.t 39) (.k (.b false)))⟩,
      ⟨(some 2), none, [40], none, .q (.mv (.t 40))⟩])
    .ret)
    .skip)))
  (.keep [1, 3, 5] (.seq (.seq (.reg false [⟨(some 41), none, [1], none, .q (.ld true 6 (.t 1))⟩,
    ⟨(some 42), none, [3], none, .q (.mv (.t 3))⟩,
    ⟨(some 43), none, [41, 42], none, .q (.call (.k (.fn 34 [])) [(.t 41), (.t 42)])⟩,
    ⟨(some 44), none, [43], none, .q (.not (.t 43))⟩])
  (.keep [3, 5, 44] (.cond (.t 44)
    (.seq (.reg false [⟨(some 2), none, [], none, .q (.mv (.k (.b false)))⟩])
    .ret)
    .skip)))
  (.keep [3, 5] (.seq (.reg false [⟨(some 7), none, [], none, .q (.mv (.k (.i 0)))⟩])
  (.keep [3, 5, 7] (.seq (.seq (.reg false [⟨(some 8), none, [], none, .q (.mv (.k (.i 0)))⟩])
  (.keep [3, 5, 7, 8] (.block 0 (.loop [3, 5, 7, 8] none (.seq (.seq (.reg false [⟨(some 45), none, [8], none, .q (.mv (.t 8))⟩,
    ⟨(some 46), none, [3], none, .q (.mv (.t 3))⟩,
    ⟨(some 47), none, [46], none, .q (.len (.t 46))⟩,
    ⟨(some 48), none, [45, 47], none, .q (.bin .lss (.t 45) (.t 47))⟩])
  (.keep [3, 5, 7, 8, 48] (.cond (.t 48)
    .skip
    (.exit 0))))
  (.keep [3, 5, 7, 8] (.seq (.block 1 (.reg false [⟨(some 51), none, [7], none, .q (.mv (.t 7))⟩,
    ⟨(some 52), none, [3], none, .q (.mv (.t 3))⟩,
    ⟨(some 53), none, [8], none, .q (.mv (.t 8))⟩,
    ⟨(some 54), none, [52, 53], none, .q (.iad 1 (.t 52) (.t 53))⟩,
    ⟨(some 55), none, [54], none, .q (.ld false 1 (.t 54))⟩,
    ⟨(some 56), none, [51, 55], none, .q (.bin .add (.t 51) (.t 55))⟩,
    ⟨(some 7), none, [56], none, .q (.mv (.t 56))⟩]))
  (.keep [3, 5, 7, 8] (.reg false [⟨(some 49), none, [8], none, .q (.mv (.t 8))⟩,
    ⟨(some 50), none, [49], none, .q (.bin .add (.t 49) (.k (.i 1)))⟩,
    ⟨(some 8), none, [50], none, .q (.mv (.t 50))⟩])))))))))
  (.keep [5, 7] (.seq (.reg true [⟨(some 57), none, [7], none, .q (.mv (.t 7))⟩,
    ⟨(some 58), none, [5], none, .q (.mv (.t 5))⟩,
    ⟨(some 59), none, [57, 58], none, .q (.bin .eql (.t 57) (.t 58))⟩,
    ⟨(some 60), none, [59], none, .q (.mv (.t 59))⟩,
    ⟨(some 61), (some (60, true)), [], none, .q (.call (.k (.fn 16 [])) [])⟩,
    ⟨(some 62), none, [60, 61], none, .q (.pick (.t 60) (.t 61) (.k (.b false)))⟩,
    ⟨(some 2), none, [62], none, .q (.mv (.t 62))⟩])
  .ret)))))))))))))))))
def pu6 : List Nat := [1]
def rs6 : List RV := [.t 2]
theorem cc6 : comp Try.prog pu6 (Try.f6.ntmps, 0) 0 1 rc6 (Try.f6.body.getD .skip) = some rc6 := by kernel_rfl
theorem cb6 : Try.f6.body = some (Try.f6.body.getD .skip) := by kernel_rfl
theorem cs6 : resRV Try.prog Try.f6.results.toList = some rs6 := by kernel_rfl
theorem cn6 : 1 ≤ Try.f6.ntmps := by decide
/- ferrule/ferrulelaw02.ClothTrue: params [26, 23, 3], free 0, slots 131 -/
def rc7 : RC :=
  (.seq (.reg false [⟨(some 3), none, [0], none, .q (.box (.t 0))⟩,
    ⟨(some 6), none, [], none, .q (.mv (.k (.b false)))⟩])
  (.keep [1, 2, 3] (.seq (.seq (.reg true [⟨(some 17), none, [3], none, .q (.ld true 6 (.t 3))⟩,
    ⟨(some 18), none, [2], none, .q (.mv (.t 2))⟩,
    ⟨(some 19), none, [17, 18], none, .q (.call (.k (.fn 15 [])) [(.t 17), (.t 18)])⟩,
    ⟨(some 20), none, [19], none, .q (.not (.t 19))⟩,
    ⟨(some 21), none, [20], none, .q (.mv (.t 20))⟩,
    ⟨(some 22), (some (21, false)), [3], none, .q (.ld true 6 (.t 3))⟩,
    ⟨(some 23), (some (21, false)), [1], none, .q (.mv (.t 1))⟩,
    ⟨(some 24), (some (21, false)), [22, 23], none, .q (.call (.k (.fn 35 [])) [(.t 22), (.t 23)])⟩,
    ⟨(some 25), (some (21, false)), [24], none, .q (.not (.t 24))⟩,
    ⟨(some 26), none, [21, 25], none, .q (.pick (.t 21) (.k (.b true)) (.t 25))⟩])
  (.keep [1, 2, 3, 26] (.cond (.t 26)
    (.seq (.reg false [⟨(some 27), none, [], none, .q (.call (.k (.fn 16 [])) [])⟩,
      ⟨(some 6), none, [27], none, .q (.mv (.t 27))⟩])
    .ret)
    .skip)))
  (.keep [1, 2, 3] (.seq (.seq (.reg false [⟨(some 7), none, [], none, .q (.mv (.k (.i 0)))⟩])
  (.keep [1, 2, 3, 7] (.block 0 (.loop [1, 2, 3, 7] none (.seq (.seq (.reg false [⟨(some 28), none, [7], none, .q (.mv (.t 7))⟩,
    ⟨(some 29), none, [1], none, .q (.mv (.t 1))⟩,
    ⟨(some 30), none, [29], none, .q (.len (.t 29))⟩,
    ⟨(some 31), none, [28, 30], none, .q (.bin .lss (.t 28) (.t 30))⟩])
  (.keep [1, 2, 3, 7, 31] (.cond (.t 31)
    .skip
    (.exit 0))))
  (.keep [1, 2, 3, 7] (.seq (.block 1 (.seq (.reg false [⟨(some 35), none, [3], none, .q (.ld true 6 (.t 3))⟩,
    ⟨(some 36), none, [7], none, .q (.mv (.t 7))⟩,
    ⟨(some 37), none, [35, 36], none, .q (.call (.k (.fn 36 [])) [(.t 35), (.t 36)])⟩,
    ⟨(some 34), none, [37], none, .q (.mv (.t 37))⟩,
    ⟨(some 38), none, [34], none, .q (.ext (.t 34) 0)⟩,
    ⟨(some 39), none, [34], none, .q (.ext (.t 34) 1)⟩,
    ⟨(some 8), none, [38], none, .q (.mv (.t 38))⟩,
    ⟨(some 9), none, [39], none, .q (.mv (.t 39))⟩])
  (.keep [1, 2, 3, 7, 8, 9] (.seq (.reg true [⟨(some 40), none, [9], none, .q (.mv (.t 9))⟩,
    ⟨(some 41), none, [40], none, .q (.bin .neq (.t 40) (.k (.i 0)))⟩,
    ⟨(some 42), none, [41], none, .q (.mv (.t 41))⟩,
    ⟨(some 43), (some (42, false)), [8], none, .q (.mv (.t 8))⟩,
    ⟨(some 44), (some (42, false)), [1], none, .q (.mv (.t 1))⟩,
    ⟨(some 45), (some (42, false)), [7], none, .q (.mv (.t 7))⟩,
    ⟨(some 46), (some (42, false)), [44, 45], none, .q (.iad 1 (.t 44) (.t 45))⟩,
    ⟨(some 47), (some (42, false)), [46], none, .q (.ld false 1 (.t 46))⟩,
    ⟨(some 48), (some (42, false)), [43, 47], none, .q (.call (.k (.fn 37 [])) [(.t 43), (.t 47)])⟩,
    ⟨(some 49), (some (42, false)), [48], none, .q (.not (.t 48))⟩,
    ⟨(some 50), none, [42, 49], none, .q (.pick (.t 42) (.k (.b true)) (.t 49))⟩])
  (.keep [1, 2, 3, 7, 50] (.cond (.t 50)
    (.seq (.reg false [⟨(some 6), none, [], none, .q (.mv (.k (.b false)))⟩])
    .ret)
    .skip))))))
  (.keep [1, 2, 3, 7] (.reg false [⟨(some 32), none, [7], none, .q (.mv (.t 7))⟩,
    ⟨(some 33), none, [32], none, .q (.bin .add (.t 32) (.k (.i 1)))⟩,
    ⟨(some 7), none, [33], none, .q (.mv (.t 33))⟩])))))))))
  (.keep [1, 2, 3] (.seq (.any false 0 [⟨⟨(some 51), none, [3], none, .q (.ld true 6 (.t 3))⟩, [], []⟩,
    ⟨⟨(some 52), none, [3], none, .q (.fad 4 (.t 3))⟩, [], []⟩,
    ⟨⟨(some 53), none, [52], none, .q (.ld false 1 (.t 52))⟩, [], [1]⟩,
    ⟨⟨(some 54), none, [2], none, .q (.mv (.t 2))⟩, [], []⟩,
    ⟨⟨(some 55), none, [53, 54], none, .q (.iad 1 (.t 53) (.t 54))⟩, [], [2, 1, 3]⟩,
    ⟨⟨(some 56), none, [55], none, .q (.ld false 1 (.t 55))⟩, [], [4, 2, 1, 3]⟩,
    ⟨⟨(some 57), none, [1], none, .q (.mv (.t 1))⟩, [], []⟩,
    ⟨⟨(some 58), none, [51, 56, 57], none, .q (.call (.k (.fn 38 [])) [(.t 51), (.t 56), (.t 57)])⟩, [], [0, 5, 4, 2, 1, 3, 6]⟩,
    ⟨⟨(some 10), none, [58], none, .q (.mv (.t 58))⟩, [], [7, 0, 5, 4, 2, 1, 3, 6]⟩])
  (.keep [2, 3, 10] (.seq (.reg false [⟨(some 60), none, [3], none, .q (.ld true 6 (.t 3))⟩,
    ⟨(some 61), none, [2], none, .q (.mv (.t 2))⟩,
    ⟨(some 62), none, [60, 61], none, .q (.call (.k (.fn 23 [])) [(.t 60), (.t 61)])⟩,
    ⟨(some 59), none, [62], none, .q (.mv (.t 62))⟩,
    ⟨(some 63), none, [59], none, .q (.ext (.t 59) 0)⟩,
    ⟨(some 64), none, [59], none, .q (.ext (.t 59) 1)⟩,
    ⟨(some 11), none, [], none, .w (.alc [(.i 0), (.i 0)])⟩,
    ⟨none, none, [11, 63], none, .w (.st 2 (.t 11) (.t 63))⟩,
    ⟨(some 12), none, [64], none, .q (.mv (.t 64))⟩])
  (.keep [2, 3, 10, 11, 12] (.seq (.reg false [⟨(some 66), none, [3], none, .q (.ld true 6 (.t 3))⟩,
    ⟨(some 67), none, [2], none, .q (.mv (.t 2))⟩,
    ⟨(some 68), none, [66, 67], none, .q (.call (.k (.fn 17 [])) [(.t 66), (.t 67)])⟩,
    ⟨(some 65), none, [68], none, .q (.mv (.t 68))⟩,
    ⟨(some 69), none, [65], none, .q (.ext (.t 65) 0)⟩,
    ⟨(some 70), none, [65], none, .q (.ext (.t 65) 1)⟩,
    ⟨(some 13), none, [69], none, .q (.mv (.t 69))⟩,
    ⟨(some 14), none, [70], none, .q (.mv (.t 70))⟩])
  (.keep [2, 3, 10, 11, 12, 13, 14] (.seq (.reg false [⟨(some 72), none, [3], none, .q (.ld true 6 (.t 3))⟩,
    ⟨(some 73), none, [72], none, .q (.call (.k (.fn 26 [])) [(.t 72)])⟩,
    ⟨(some 71), none, [73], none, .q (.mv (.t 73))⟩,
    ⟨(some 74), none, [71], none, .q (.ext (.t 71) 0)⟩,
    ⟨(some 75), none, [71], none, .q (.ext (.t 71) 1)⟩,
    ⟨(some 15), none, [74], none, .q (.mv (.t 74))⟩,
    ⟨(some 16), none, [75], none, .q (.mv (.t 75))⟩])
  (.keep [2, 3, 10, 11, 12, 13, 14, 15, 16] (.seq (.seq (.reg true [⟨(some 76), none, [12], none, .q (.mv (.t 12))⟩,
    ⟨(some 77), none, [76], none, .q (.bin .neq (.t 76) (.k (.i 0)))⟩,
    ⟨(some 78), none, [77], none, .q (.mv (.t 77))⟩,
    ⟨(some 79), (some (78, false)), [14], none, .q (.mv (.t 14))⟩,
    ⟨(some 80), (some (78, false)), [79], none, .q (.bin .neq (.t 79) (.k (.i 0)))⟩,
    ⟨(some 81), none, [78, 80], none, .q (.pick (.t 78) (.k (.b true)) (.t 80))⟩,
    ⟨(some 82), none, [81], none, .q (.mv (.t 81))⟩,
    ⟨(some 83), (some (82, false)), [16], none, .q (.mv (.t 16))⟩,
    ⟨(some 84), (some (82, false)), [83], none, .q (.bin .neq (.t 83) (.k (.i 0)))⟩,
    ⟨(some 85), none, [82, 84], none, .q (.pick (.t 82) (.k (.b true)) (.t 84))⟩,
    ⟨(some 86), none, [85], none, .q (.mv (.t 85))⟩,
    ⟨(some 87), (some (86, false)), [11], none, .q (.ld true 2 (.t 11))⟩,
    ⟨(some 88), (some (86, false)), [10], none, .q (.mv (.t 10))⟩,
    ⟨(some 89), (some (86, false)), [87, 88], none, .q (.call (.k (.fn 20 [])) [(.t 87), (.t 88)])⟩,
    ⟨(some 90), (some (86, false)), [89], none, .q (.not (.t 89))⟩,
    ⟨(some 91), none, [86, 90], none, .q (.pick (.t 86) (.k (.b true)) (.t 90))⟩,
    ⟨(some 92), none, [91], none, .q (.mv (.t 91))⟩,
    ⟨(some 93), (some (92, false)), [15], none, .q (.mv (.t 15))⟩,
    ⟨(some 94), (some (92, false)), [2], none, .q (.mv (.t 2))⟩,
    ⟨(some 95), (some (92, false)), [93, 94], none, .q (.call (.k (.fn 37 [])) [(.t 93), (.t 94)])⟩,
    ⟨(some 96), (some (92, false)), [13], none, .q (.mv (.t 13))⟩,
    ⟨(some 97), (some (92, false)), [96], none, .q (.bin .neq (.t 96) (.k (.i 1)))⟩,
    ⟨(some 98), (some (92, false)), [95, 97], none, .q (.bq true (.t 95) (.t 97))⟩,
    ⟨(some 99), none, [92, 98], none, .q (.pick (.t 92) (.k (.b true)) (.t 98))⟩])
  (.keep [2, 3, 10, 13, 99] (.cond (.t 99)
    (.seq (.reg false [⟨(some 6), none, [], none, .q (.mv (.k (.b false)))⟩])
    .ret)
    .skip)))
  (.keep [2, 3, 10, 13] (.seq (.seq (.reg false [⟨(some 100), none, [13], none, .q (.mv (.t 13))⟩])
  (.keep [2, 3, 10, 13, 100] (.block 2 (.seq (.reg false [⟨(some 102), none, [100], none, .q (.bin .eql (.t 100) (.k (.i 1)))⟩,
    ⟨(some 101), none, [102], none, .q (.mv (.t 102))⟩])
  (.keep [2, 3, 10, 13, 100, 101] (.cond (.t 101)
    (.seq (.reg true [⟨(some 103), none, [3], none, .q (.fad 3 (.t 3))⟩,
      ⟨(some 104), none, [103], none, .q (.ld false 1 (.t 103))⟩,
      ⟨(some 105), none, [2], none, .q (.mv (.t 2))⟩,
      ⟨(some 106), none, [104, 105], none, .q (.iad 2 (.t 104) (.t 105))⟩,
      ⟨(some 107), none, [106], none, .q (.ld true 2 (.t 106))⟩,
      ⟨(some 108), none, [10], none, .q (.mv (.t 10))⟩,
      ⟨(some 109), none, [107, 108], none, .q (.call (.k (.fn 20 [])) [(.t 107), (.t 108)])⟩,
      ⟨(some 110), none, [109], none, .q (.mv (.t 109))⟩,
      ⟨(some 111), (some (110, true)), [], none, .q (.call (.k (.fn 16 [])) [])⟩,
      ⟨(some 112), none, [110, 111], none, .q (.pick (.t 110) (.t 111) (.k (.b false)))⟩,
      ⟨(some 6), none, [112], none, .q (.mv (.t 112))⟩])
    .ret)
    (.seq (.reg false [⟨(some 114), none, [100], none, .q (.bin .eql (.t 100) (.k (.i 2)))⟩,
      ⟨(some 113), none, [114], none, .q (.mv (.t 114))⟩])
    (.keep [2, 3, 10, 13, 113] (.cond (.t 113)
      (.seq (.reg true [⟨(some 115), none, [3], none, .q (.fad 3 (.t 3))⟩,
        ⟨(some 116), none, [115], none, .q (.ld false 1 (.t 115))⟩,
        ⟨(some 117), none, [2], none, .q (.mv (.t 2))⟩,
        ⟨(some 118), none, [116, 117], none, .q (.iad 2 (.t 116) (.t 117))⟩,
        ⟨(some 119), none, [118], none, .q (.ld true 2 (.t 118))⟩,
        ⟨(some 120), none, [10], none, .q (.mv (.t 10))⟩,
        ⟨(some 121), none, [119, 120], none, .q (.call (.k (.fn 20 [])) [(.t 119), (.t 120)])⟩,
        ⟨(some 122), none, [121], none, .q (.not (.t 121))⟩,
        ⟨(some 123), none, [122], none, .q (.mv (.t 122))⟩,
        ⟨(some 124), (some (123, true)), [], none, .q (.call (.k (.fn 16 [])) [])⟩,
        ⟨(some 125), none, [123, 124], none, .q (.pick (.t 123) (.t 124) (.k (.b false)))⟩,
        ⟨(some 6), none, [125], none, .q (.mv (.t 125))⟩])
      .ret)
      .skip)))))))))
  (.keep [13] (.seq (.reg true [⟨(some 126), none, [13], none, .q (.mv (.t 13))⟩,
    ⟨(some 127), none, [126], none, .q (.bin .eql (.t 126) (.k (.i 3)))⟩,
    ⟨(some 128), none, [127], none, .q (.mv (.t 127))⟩,
    ⟨(some 129), (some (128, true)), [], none, .q (.call (.k (.fn 16 [])) [])⟩,
    ⟨(some 130), none, [128, 129], none, .q (.pick (.t 128) (.t 129) (.k (.b false)))⟩,
    ⟨(some 6), none, [130], none, .q (.mv (.t 130))⟩])
  .ret)))))))))))))))))))
def pu7 : List Nat := [3]
def rs7 : List RV := [.t 6]
theorem cc7 : comp Try.prog pu7 (Try.f7.ntmps, 0) 0 1 rc7 (Try.f7.body.getD .skip) = some rc7 := by kernel_rfl
theorem cb7 : Try.f7.body = some (Try.f7.body.getD .skip) := by kernel_rfl
theorem cs7 : resRV Try.prog Try.f7.results.toList = some rs7 := by kernel_rfl
theorem cn7 : 3 ≤ Try.f7.ntmps := by decide
/- ferrule/ferrulelaw02.ClothReached: params [26, 23, 3], free 0, slots 137 -/
def rc8 : RC :=
  (.seq (.reg false [⟨(some 3), none, [0], none, .q (.box (.t 0))⟩,
    ⟨(some 6), none, [], none, .q (.mv (.k (.b false)))⟩])
  (.keep [1, 2, 3] (.seq (.seq (.reg false [⟨(some 16), none, [3], none, .q (.ld true 6 (.t 3))⟩,
    ⟨(some 17), none, [2], none, .q (.mv (.t 2))⟩,
    ⟨(some 18), none, [16, 17], none, .q (.call (.k (.fn 15 [])) [(.t 16), (.t 17)])⟩,
    ⟨(some 19), none, [18], none, .q (.not (.t 18))⟩])
  (.keep [1, 2, 3, 19] (.cond (.t 19)
    (.seq (.reg false [⟨(some 20), none, [], none, .q (.call (.k (.fn 16 [])) [])⟩,
      ⟨(some 6), none, [20], none, .q (.mv (.t 20))⟩])
    .ret)
    .skip)))
  (.keep [1, 2, 3] (.seq (.reg false [⟨(some 22), none, [3], none, .q (.ld true 6 (.t 3))⟩,
    ⟨(some 23), none, [2], none, .q (.mv (.t 2))⟩,
    ⟨(some 24), none, [22, 23], none, .q (.call (.k (.fn 23 [])) [(.t 22), (.t 23)])⟩,
    ⟨(some 21), none, [24], none, .q (.mv (.t 24))⟩,
    ⟨(some 25), none, [21], none, .q (.ext (.t 21) 0)⟩,
    ⟨(some 26), none, [21], none, .q (.ext (.t 21) 1)⟩,
    ⟨(some 7), none, [], none, .w (.alc [(.i 0), (.i 0)])⟩,
    ⟨none, none, [7, 25], none, .w (.st 2 (.t 7) (.t 25))⟩,
    ⟨(some 8), none, [26], none, .q (.mv (.t 26))⟩])
  (.keep [1, 2, 3, 7, 8] (.seq (.seq (.reg false [⟨(some 27), none, [8], none, .q (.mv (.t 8))⟩,
    ⟨(some 28), none, [27], none, .q (.bin .neq (.t 27) (.k (.i 0)))⟩])
  (.keep [1, 2, 3, 7, 8, 28] (.cond (.t 28)
    (.seq (.reg true [⟨(some 29), none, [8], none, .q (.mv (.t 8))⟩,
      ⟨(some 30), none, [29], none, .q (.bin .eql (.t 29) (.k (.i 3)))⟩,
      ⟨(some 31), none, [30], none, .q (.mv (.t 30))⟩,
      ⟨(some 32), (some (31, true)), [], none, .q (.call (.k (.fn 16 [])) [])⟩,
      ⟨(some 33), none, [31, 32], none, .q (.pick (.t 31) (.t 32) (.k (.b false)))⟩,
      ⟨(some 6), none, [33], none, .q (.mv (.t 33))⟩])
    .ret)
    .skip)))
  (.keep [1, 2, 3, 7] (.seq (.reg false [⟨(some 9), none, [], none, .q (.mv (.k (.z 1)))⟩,
    ⟨(some 10), none, [], none, .q (.mv (.k (.z 1)))⟩,
    ⟨(some 11), none, [], none, .q (.mv (.k (.z 1)))⟩])
  (.keep [1, 2, 3, 7, 9, 10, 11] (.seq (.seq (.reg false [⟨(some 12), none, [], none, .q (.mv (.k (.i 0)))⟩])
  (.keep [1, 2, 3, 7, 9, 10, 11, 12] (.block 0 (.own 9 1 (.own 10 1 (.own 11 1 (.loop [1, 2, 3, 7, 9, 10, 11, 12] (some 4) (.seq (.seq (.reg false [⟨(some 34), none, [12], none, .q (.mv (.t 12))⟩,
    ⟨(some 35), none, [3], none, .q (.fad 0 (.t 3))⟩,
    ⟨(some 36), none, [35], none, .q (.ld false 1 (.t 35))⟩,
    ⟨(some 37), none, [36], none, .q (.len (.t 36))⟩,
    ⟨(some 38), none, [34, 37], none, .q (.bin .lss (.t 34) (.t 37))⟩])
  (.keep [1, 2, 3, 7, 9, 10, 11, 12, 38] (.cond (.t 38)
    .skip
    (.exit 0))))
  (.keep [1, 2, 3, 7, 9, 10, 11, 12] (.seq (.block 1 (.seq (.reg false [⟨(some 42), none, [3], none, .q (.ld true 6 (.t 3))⟩,
    ⟨(some 43), none, [12], none, .q (.mv (.t 12))⟩,
    ⟨(some 44), none, [42, 43], none, .q (.call (.k (.fn 36 [])) [(.t 42), (.t 43)])⟩,
    ⟨(some 41), none, [44], none, .q (.mv (.t 44))⟩,
    ⟨(some 45), none, [41], none, .q (.ext (.t 41) 0)⟩,
    ⟨(some 46), none, [41], none, .q (.ext (.t 41) 1)⟩,
    ⟨(some 13), none, [45], none, .q (.mv (.t 45))⟩,
    ⟨(some 14), none, [46], none, .q (.mv (.t 46))⟩])
  (.keep [1, 2, 3, 7, 9, 10, 11, 12, 13, 14] (.seq (.seq (.reg true [⟨(some 47), none, [14], none, .q (.mv (.t 14))⟩,
    ⟨(some 48), none, [47], none, .q (.bin .neq (.t 47) (.k (.i 0)))⟩,
    ⟨(some 49), none, [48], none, .q (.mv (.t 48))⟩,
    ⟨(some 50), (some (49, false)), [13], none, .q (.mv (.t 13))⟩,
    ⟨(some 51), (some (49, false)), [50], none, .q (.len (.t 50))⟩,
    ⟨(some 52), (some (49, false)), [51], none, .q (.bin .eql (.t 51) (.k (.i 0)))⟩,
    ⟨(some 53), none, [49, 52], none, .q (.pick (.t 49) (.k (.b true)) (.t 52))⟩])
  (.keep [1, 2, 3, 7, 9, 10, 11, 12, 13, 53] (.cond (.t 53)
    (.seq (.reg false [⟨(some 6), none, [], none, .q (.mv (.k (.b false)))⟩])
    .ret)
    .skip)))
  (.keep [1, 2, 3, 7, 9, 10, 11, 12, 13] (.seq (.any false 2 [⟨⟨(some 54), none, [9], none, .q (.mv (.t 9))⟩, [], []⟩,
    ⟨⟨(some 55), none, [13], none, .q (.mv (.t 13))⟩, [], []⟩,
    ⟨⟨(some 56), none, [55], none, .q (.iad 1 (.t 55) (.k (.i 0)))⟩, [], [1]⟩,
    ⟨⟨(some 57), none, [56], none, .q (.ld false 1 (.t 56))⟩, [], [2, 1]⟩,
    ⟨⟨(some 58), none, [57], none, .q (.bsl 1 1 [(.i 0)] [(0, 1, (.t 57))])⟩, [], [3, 2, 1]⟩,
    ⟨⟨(some 59), none, [54, 58], (some 0), .w (.app 1 (.t 54) (.t 58))⟩, [], [0, 4, 3, 2, 1]⟩,
    ⟨⟨(some 60), none, [10], none, .q (.mv (.t 10))⟩, [5], []⟩,
    ⟨⟨(some 61), none, [13], none, .q (.mv (.t 13))⟩, [5], []⟩,
    ⟨⟨(some 62), none, [13], none, .q (.mv (.t 13))⟩, [5], []⟩,
    ⟨⟨(some 63), none, [62], none, .q (.len (.t 62))⟩, [5], [8]⟩,
    ⟨⟨(some 64), none, [63], none, .q (.bin .sub (.t 63) (.k (.i 1)))⟩, [5], [9, 8]⟩,
    ⟨⟨(some 65), none, [61, 64], none, .q (.iad 1 (.t 61) (.t 64))⟩, [5], [7, 10, 9, 8]⟩,
    ⟨⟨(some 66), none, [65], none, .q (.ld false 1 (.t 65))⟩, [5], [11, 7, 10, 9, 8]⟩,
    ⟨⟨(some 67), none, [66], none, .q (.bsl 1 1 [(.i 0)] [(0, 1, (.t 66))])⟩, [5], [12, 11, 7, 10, 9, 8]⟩,
    ⟨⟨(some 68), none, [60, 67], (some 1), .w (.app 1 (.t 60) (.t 67))⟩, [], [6, 13, 12, 11, 7, 10, 9, 8, 5, 0, 4, 3, 2, 1]⟩,
    ⟨⟨(some 9), none, [59], none, .q (.mv (.t 59))⟩, [], [5, 0, 4, 3, 2, 1, 14, 6, 13, 12, 11, 7, 10, 9, 8]⟩,
    ⟨⟨(some 10), none, [68], none, .q (.mv (.t 68))⟩, [], [14, 6, 13, 12, 11, 7, 10, 9, 8, 5, 0, 4, 3, 2, 1, 15]⟩])
  (.keep [1, 2, 3, 7, 9, 10, 11, 12, 13] (.seq (.reg false [⟨(some 15), none, [], none, .q (.mv (.k (.i 0)))⟩])
  (.keep [1, 2, 3, 7, 9, 10, 11, 12, 13, 15] (.seq (.seq (.reg true [⟨(some 69), none, [12], none, .q (.mv (.t 12))⟩,
    ⟨(some 70), none, [1], none, .q (.mv (.t 1))⟩,
    ⟨(some 71), none, [70], none, .q (.len (.t 70))⟩,
    ⟨(some 72), none, [69, 71], none, .q (.bin .lss (.t 69) (.t 71))⟩,
    ⟨(some 73), none, [72], none, .q (.mv (.t 72))⟩,
    ⟨(some 74), (some (73, true)), [1], none, .q (.mv (.t 1))⟩,
    ⟨(some 75), (some (73, true)), [12], none, .q (.mv (.t 12))⟩,
    ⟨(some 76), (some (73, true)), [74, 75], none, .q (.iad 1 (.t 74) (.t 75))⟩,
    ⟨(some 77), (some (73, true)), [76], none, .q (.ld false 1 (.t 76))⟩,
    ⟨(some 78), (some (73, true)), [77], none, .q (.bin .gtr (.t 77) (.k (.i 0)))⟩,
    ⟨(some 79), none, [73, 78], none, .q (.pick (.t 73) (.t 78) (.k (.b false)))⟩])
  (.keep [1, 2, 3, 7, 9, 10, 11, 12, 13, 15, 79] (.cond (.t 79)
    (.reg false [⟨(some 80), none, [1], none, .q (.mv (.t 1))⟩,
      ⟨(some 81), none, [12], none, .q (.mv (.t 12))⟩,
      ⟨(some 82), none, [80, 81], none, .q (.iad 1 (.t 80) (.t 81))⟩,
      ⟨(some 83), none, [82], none, .q (.ld false 1 (.t 82))⟩,
      ⟨(some 84), none, [13], none, .q (.mv (.t 13))⟩,
      ⟨(some 85), none, [84], none, .q (.len (.t 84))⟩,
      ⟨(some 86), none, [83, 85], none, .q (.bin .rem (.t 83) (.t 85))⟩,
      ⟨(some 15), none, [86], none, .q (.mv (.t 86))⟩])
    .skip)))
  (.keep [1, 2, 3, 7, 9, 10, 11, 12, 13, 15] (.reg false [⟨(some 87), none, [11], none, .q (.mv (.t 11))⟩,
    ⟨(some 88), none, [13], none, .q (.mv (.t 13))⟩,
    ⟨(some 89), none, [15], none, .q (.mv (.t 15))⟩,
    ⟨(some 90), none, [88, 89], none, .q (.iad 1 (.t 88) (.t 89))⟩,
    ⟨(some 91), none, [90], none, .q (.ld false 1 (.t 90))⟩,
    ⟨(some 92), none, [91], none, .q (.bsl 1 1 [(.i 0)] [(0, 1, (.t 91))])⟩,
    ⟨(some 93), none, [87, 92], none, .w (.app 1 (.t 87) (.t 92))⟩,
    ⟨(some 11), none, [93], none, .q (.mv (.t 93))⟩]))))))))))))
  (.drp 4 (.keep [1, 2, 3, 7, 9, 10, 11, 12] (.reg false [⟨(some 39), none, [12], none, .q (.mv (.t 12))⟩,
    ⟨(some 40), none, [39], none, .q (.bin .add (.t 39) (.k (.i 1)))⟩,
    ⟨(some 12), none, [40], none, .q (.mv (.t 40))⟩])))))))))))))
  (.keep [2, 3, 7, 9, 10, 11] (.seq (.seq (.reg true [⟨(some 94), none, [3], none, .q (.ld true 6 (.t 3))⟩,
    ⟨(some 95), none, [9], none, .q (.mv (.t 9))⟩,
    ⟨(some 96), none, [94, 95], none, .q (.call (.k (.fn 35 [])) [(.t 94), (.t 95)])⟩,
    ⟨(some 97), none, [96], none, .q (.not (.t 96))⟩,
    ⟨(some 98), none, [97], none, .q (.mv (.t 97))⟩,
    ⟨(some 99), (some (98, false)), [3], none, .q (.ld true 6 (.t 3))⟩,
    ⟨(some 100), (some (98, false)), [10], none, .q (.mv (.t 10))⟩,
    ⟨(some 101), (some (98, false)), [99, 100], none, .q (.call (.k (.fn 35 [])) [(.t 99), (.t 100)])⟩,
    ⟨(some 102), (some (98, false)), [101], none, .q (.not (.t 101))⟩,
    ⟨(some 103), none, [98, 102], none, .q (.pick (.t 98) (.k (.b true)) (.t 102))⟩,
    ⟨(some 104), none, [103], none, .q (.mv (.t 103))⟩,
    ⟨(some 105), (some (104, false)), [3], none, .q (.ld true 6 (.t 3))⟩,
    ⟨(some 106), (some (104, false)), [11], none, .q (.mv (.t 11))⟩,
    ⟨(some 107), (some (104, false)), [105, 106], none, .q (.call (.k (.fn 35 [])) [(.t 105), (.t 106)])⟩,
    ⟨(some 108), (some (104, false)), [107], none, .q (.not (.t 107))⟩,
    ⟨(some 109), none, [104, 108], none, .q (.pick (.t 104) (.k (.b true)) (.t 108))⟩])
  (.keep [2, 3, 7, 9, 10, 109] (.cond (.t 109)
    (.seq (.reg false [⟨(some 6), none, [], none, .q (.mv (.k (.b false)))⟩])
    .ret)
    .skip)))
  (.keep [2, 3, 7, 9, 10] (.seq (.any true 0 [⟨⟨(some 110), none, [3], none, .q (.ld true 6 (.t 3))⟩, [], []⟩,
    ⟨⟨(some 111), none, [3], none, .q (.fad 4 (.t 3))⟩, [], []⟩,
    ⟨⟨(some 112), none, [111], none, .q (.ld false 1 (.t 111))⟩, [], [1]⟩,
    ⟨⟨(some 113), none, [2], none, .q (.mv (.t 2))⟩, [], []⟩,
    ⟨⟨(some 114), none, [112, 113], none, .q (.iad 1 (.t 112) (.t 113))⟩, [], [2, 1, 3]⟩,
    ⟨⟨(some 115), none, [114], none, .q (.ld false 1 (.t 114))⟩, [], [4, 2, 1, 3]⟩,
    ⟨⟨(some 116), none, [9], none, .q (.mv (.t 9))⟩, [], []⟩,
    ⟨⟨(some 117), none, [110, 115, 116], none, .q (.call (.k (.fn 38 [])) [(.t 110), (.t 115), (.t 116)])⟩, [], [0, 5, 4, 2, 1, 3, 6]⟩,
    ⟨⟨(some 118), none, [7], none, .q (.fad 0 (.t 7))⟩, [], []⟩,
    ⟨⟨(some 119), none, [118], none, .q (.ld false 1 (.t 118))⟩, [], [8]⟩,
    ⟨⟨(some 120), none, [117, 119], none, .q (.bin .eql (.t 117) (.t 119))⟩, [], [7, 0, 5, 4, 2, 1, 3, 6, 9, 8]⟩,
    ⟨⟨(some 121), none, [120], none, .q (.mv (.t 120))⟩, [], [10, 7, 0, 5, 4, 2, 1, 3, 6, 9, 8]⟩,
    ⟨⟨(some 122), (some (121, true)), [3], none, .q (.ld true 6 (.t 3))⟩, [], [11, 10, 7, 0, 5, 4, 2, 1, 3, 6, 9, 8]⟩,
    ⟨⟨(some 123), (some (121, true)), [3], none, .q (.fad 4 (.t 3))⟩, [], [11, 10, 7, 0, 5, 4, 2, 1, 3, 6, 9, 8]⟩,
    ⟨⟨(some 124), (some (121, true)), [123], none, .q (.ld false 1 (.t 123))⟩, [], [13, 11, 10, 7, 0, 5, 4, 2, 1, 3, 6, 9, 8]⟩,
    ⟨⟨(some 125), (some (121, true)), [2], none, .q (.mv (.t 2))⟩, [], [11, 10, 7, 0, 5, 4, 2, 1, 3, 6, 9, 8]⟩,
    ⟨⟨(some 126), (some (121, true)), [124, 125], none, .q (.iad 1 (.t 124) (.t 125))⟩, [], [14, 13, 11, 10, 7, 0, 5, 4, 2, 1, 3, 6, 9, 8, 15]⟩,
    ⟨⟨(some 127), (some (121, true)), [126], none, .q (.ld false 1 (.t 126))⟩, [], [16, 14, 13, 11, 10, 7, 0, 5, 4, 2, 1, 3, 6, 9, 8, 15]⟩,
    ⟨⟨(some 128), (some (121, true)), [10], none, .q (.mv (.t 10))⟩, [], [11, 10, 7, 0, 5, 4, 2, 1, 3, 6, 9, 8]⟩,
    ⟨⟨(some 129), (some (121, true)), [122, 127, 128], none, .q (.call (.k (.fn 38 [])) [(.t 122), (.t 127), (.t 128)])⟩, [], [12, 11, 10, 7, 0, 5, 4, 2, 1, 3, 6, 9, 8, 17, 16, 14, 13, 15, 18]⟩,
    ⟨⟨(some 130), (some (121, true)), [7], none, .q (.fad 1 (.t 7))⟩, [], [11, 10, 7, 0, 5, 4, 2, 1, 3, 6, 9, 8]⟩,
    ⟨⟨(some 131), (some (121, true)), [130], none, .q (.ld false 1 (.t 130))⟩, [], [20, 11, 10, 7, 0, 5, 4, 2, 1, 3, 6, 9, 8]⟩,
    ⟨⟨(some 132), (some (121, true)), [129, 131], none, .q (.bin .eql (.t 129) (.t 131))⟩, [], [19, 12, 11, 10, 7, 0, 5, 4, 2, 1, 3, 6, 9, 8, 17, 16, 14, 13, 15, 18, 21, 20]⟩,
    ⟨⟨(some 133), none, [121, 132], none, .q (.pick (.t 121) (.t 132) (.k (.b false)))⟩, [], [11, 10, 7, 0, 5, 4, 2, 1, 3, 6, 9, 8, 22, 19, 12, 17, 16, 14, 13, 15, 18, 21, 20]⟩,
    ⟨⟨(some 134), none, [133], none, .q (.mv (.t 133))⟩, [], [23, 11, 10, 7, 0, 5, 4, 2, 1, 3, 6, 9, 8, 22, 19, 12, 17, 16, 14, 13, 15, 18, 21, 20]⟩,
    ⟨⟨(some 135), (some (134, true)), [], none, .q (.call (.k (.fn 16 [])) [])⟩, [], [24, 23, 11, 10, 7, 0, 5, 4, 2, 1, 3, 6, 9, 8, 22, 19, 12, 17, 16, 14, 13, 15, 18, 21, 20]⟩,
    ⟨⟨(some 136), none, [134, 135], none, .q (.pick (.t 134) (.t 135) (.k (.b false)))⟩, [], [24, 23, 11, 10, 7, 0, 5, 4, 2, 1, 3, 6, 9, 8, 22, 19, 12, 17, 16, 14, 13, 15, 18, 21, 20, 25]⟩,
    ⟨⟨(some 6), none, [136], none, .q (.mv (.t 136))⟩, [], [26, 24, 23, 11, 10, 7, 0, 5, 4, 2, 1, 3, 6, 9, 8, 22, 19, 12, 17, 16, 14, 13, 15, 18, 21, 20, 25]⟩])
  .ret)))))))))))))))
def pu8 : List Nat := [3, 58, 67, 92]
def rs8 : List RV := [.t 6]
theorem cc8 : comp Try.prog pu8 (Try.f8.ntmps, 0) 0 1 rc8 (Try.f8.body.getD .skip) = some rc8 := by kernel_rfl
theorem cb8 : Try.f8.body = some (Try.f8.body.getD .skip) := by kernel_rfl
theorem cs8 : resRV Try.prog Try.f8.results.toList = some rs8 := by kernel_rfl
theorem cn8 : 3 ≤ Try.f8.ntmps := by decide
/- ferrule/ferrulelaw02.ClothMore: params [26, 52, 54], free 0, slots 217 -/
def rc9 : RC :=
  (.seq (.reg false [⟨(some 3), none, [0], none, .q (.box (.t 0))⟩,
    ⟨(some 4), none, [1], none, .q (.box (.t 1))⟩,
    ⟨(some 5), none, [2], none, .q (.box (.t 2))⟩,
    ⟨(some 6), none, [], none, .q (.mv (.k (.b false)))⟩])
  (.keep [3, 4, 5] (.seq (.seq (.reg true [⟨(some 25), none, [3], none, .q (.ld true 6 (.t 3))⟩,
    ⟨(some 26), none, [5], none, .q (.fad 1 (.t 5))⟩,
    ⟨(some 27), none, [26], none, .q (.ld false 1 (.t 26))⟩,
    ⟨(some 28), none, [25, 27], none, .q (.call (.k (.fn 15 [])) [(.t 25), (.t 27)])⟩,
    ⟨(some 29), none, [28], none, .q (.not (.t 28))⟩,
    ⟨(some 30), none, [29], none, .q (.mv (.t 29))⟩,
    ⟨(some 31), (some (30, false)), [5], none, .q (.fad 0 (.t 5))⟩,
    ⟨(some 32), (some (30, false)), [31], none, .q (.ld false 1 (.t 31))⟩,
    ⟨(some 33), (some (30, false)), [32], none, .q (.bin .lss (.t 32) (.k (.i 0)))⟩,
    ⟨(some 34), none, [30, 33], none, .q (.pick (.t 30) (.k (.b true)) (.t 33))⟩,
    ⟨(some 35), none, [34], none, .q (.mv (.t 34))⟩,
    ⟨(some 36), (some (35, false)), [5], none, .q (.fad 0 (.t 5))⟩,
    ⟨(some 37), (some (35, false)), [36], none, .q (.ld false 1 (.t 36))⟩,
    ⟨(some 38), (some (35, false)), [3], none, .q (.fad 0 (.t 3))⟩,
    ⟨(some 39), (some (35, false)), [38], none, .q (.ld false 1 (.t 38))⟩,
    ⟨(some 40), (some (35, false)), [39], none, .q (.len (.t 39))⟩,
    ⟨(some 41), (some (35, false)), [37, 40], none, .q (.bin .geq (.t 37) (.t 40))⟩,
    ⟨(some 42), none, [35, 41], none, .q (.pick (.t 35) (.k (.b true)) (.t 41))⟩,
    ⟨(some 43), none, [42], none, .q (.mv (.t 42))⟩,
    ⟨(some 44), (some (43, false)), [3], none, .q (.fad 0 (.t 3))⟩,
    ⟨(some 45), (some (43, false)), [44], none, .q (.ld false 1 (.t 44))⟩,
    ⟨(some 46), (some (43, false)), [5], none, .q (.fad 0 (.t 5))⟩,
    ⟨(some 47), (some (43, false)), [46], none, .q (.ld false 1 (.t 46))⟩,
    ⟨(some 48), (some (43, false)), [45, 47], none, .q (.iad 4 (.t 45) (.t 47))⟩,
    ⟨(some 49), (some (43, false)), [48], none, .q (.fad 2 (.t 48))⟩,
    ⟨(some 50), (some (43, false)), [49], none, .q (.ld false 1 (.t 49))⟩,
    ⟨(some 51), (some (43, false)), [50], none, .q (.len (.t 50))⟩,
    ⟨(some 52), (some (43, false)), [51], none, .q (.bin .geq (.t 51) (.k (.i 8)))⟩,
    ⟨(some 53), none, [43, 52], none, .q (.pick (.t 43) (.k (.b true)) (.t 52))⟩])
  (.keep [3, 4, 5, 53] (.cond (.t 53)
    (.seq (.reg false [⟨(some 54), none, [], none, .q (.call (.k (.fn 16 [])) [])⟩,
      ⟨(some 6), none, [54], none, .q (.mv (.t 54))⟩])
    .ret)
    .skip)))
  (.keep [3, 4, 5] (.seq (.reg false [⟨(some 55), none, [3], none, .q (.ld true 6 (.t 3))⟩,
    ⟨(some 56), none, [55], none, .q (.call (.k (.fn 22 [])) [(.t 55)])⟩,
    ⟨(some 7), none, [], none, .w (.alc [(.z 4), (.z 1), (.i 0), (.z 2), (.z 1), (.i 0)])⟩,
    ⟨none, none, [7, 56], none, .w (.st 6 (.t 7) (.t 56))⟩])
  (.keep [3, 4, 5, 7] (.seq (.any false 1 [⟨⟨(some 57), none, [7], none, .q (.fad 0 (.t 7))⟩, [], []⟩,
    ⟨⟨(some 58), none, [57], none, .q (.ld false 1 (.t 57))⟩, [], [0]⟩,
    ⟨⟨(some 59), none, [5], none, .q (.fad 0 (.t 5))⟩, [], []⟩,
    ⟨⟨(some 60), none, [59], none, .q (.ld false 1 (.t 59))⟩, [], [2]⟩,
    ⟨⟨(some 61), none, [7], none, .q (.fad 0 (.t 7))⟩, [], []⟩,
    ⟨⟨(some 62), none, [61], none, .q (.ld false 1 (.t 61))⟩, [], [4]⟩,
    ⟨⟨(some 63), none, [5], none, .q (.fad 0 (.t 5))⟩, [], []⟩,
    ⟨⟨(some 64), none, [63], none, .q (.ld false 1 (.t 63))⟩, [], [6]⟩,
    ⟨⟨(some 65), none, [62, 64], none, .q (.iad 4 (.t 62) (.t 64))⟩, [], [5, 4, 7, 6]⟩,
    ⟨⟨(some 66), none, [65], none, .q (.fad 2 (.t 65))⟩, [], [8, 5, 4, 7, 6]⟩,
    ⟨⟨(some 67), none, [66], none, .q (.ld false 1 (.t 66))⟩, [], [9, 8, 5, 4, 7, 6]⟩,
    ⟨⟨(some 68), none, [4], none, .q (.ld true 3 (.t 4))⟩, [], []⟩,
    ⟨⟨(some 69), none, [68], none, .q (.bsl 3 1 [(.i 0), (.i 0), (.i 0)] [(0, 3, (.t 68))])⟩, [], [11]⟩,
    ⟨⟨(some 70), none, [67, 69], (some 0), .w (.app 3 (.t 67) (.t 69))⟩, [0, 1, 2, 3], [10, 9, 8, 5, 4, 7, 6, 12, 11]⟩,
    ⟨⟨(some 71), none, [58, 60], none, .q (.iad 4 (.t 58) (.t 60))⟩, [], [1, 0, 3, 2, 4, 5, 6, 7, 8, 9, 10, 11, 12, 13]⟩,
    ⟨⟨(some 72), none, [71], none, .q (.fad 2 (.t 71))⟩, [], [14, 1, 0, 3, 2, 4, 5, 6, 7, 8, 9, 10, 11, 12, 13]⟩,
    ⟨⟨none, none, [72, 70], none, .w (.st 1 (.t 72) (.t 70))⟩, [], [15, 14, 1, 0, 3, 2, 4, 5, 6, 7, 8, 9, 10, 11, 12, 13]⟩])
  (.keep [3, 5, 7] (.seq (.seq (.reg false [⟨(some 73), none, [7], none, .q (.ld true 6 (.t 7))⟩,
    ⟨(some 74), none, [73], none, .q (.call (.k (.fn 39 [])) [(.t 73)])⟩,
    ⟨(some 75), none, [74], none, .q (.bin .neq (.t 74) (.k (.i 0)))⟩])
  (.keep [3, 5, 7, 75] (.cond (.t 75)
    (.seq (.reg false [⟨(some 76), none, [], none, .q (.call (.k (.fn 16 [])) [])⟩,
      ⟨(some 6), none, [76], none, .q (.mv (.t 76))⟩])
    .ret)
    .skip)))
  (.keep [3, 5, 7] (.seq (.reg false [⟨(some 78), none, [3], none, .q (.ld true 6 (.t 3))⟩,
    ⟨(some 79), none, [5], none, .q (.fad 0 (.t 5))⟩,
    ⟨(some 80), none, [79], none, .q (.ld false 1 (.t 79))⟩,
    ⟨(some 81), none, [78, 80], none, .q (.call (.k (.fn 36 [])) [(.t 78), (.t 80)])⟩,
    ⟨(some 77), none, [81], none, .q (.mv (.t 81))⟩,
    ⟨(some 82), none, [77], none, .q (.ext (.t 77) 0)⟩,
    ⟨(some 83), none, [77], none, .q (.ext (.t 77) 1)⟩,
    ⟨(some 8), none, [82], none, .q (.mv (.t 82))⟩,
    ⟨(some 9), none, [83], none, .q (.mv (.t 83))⟩])
  (.keep [3, 5, 7, 8, 9] (.seq (.reg false [⟨(some 85), none, [7], none, .q (.ld true 6 (.t 7))⟩,
    ⟨(some 86), none, [5], none, .q (.fad 0 (.t 5))⟩,
    ⟨(some 87), none, [86], none, .q (.ld false 1 (.t 86))⟩,
    ⟨(some 88), none, [85, 87], none, .q (.call (.k (.fn 36 [])) [(.t 85), (.t 87)])⟩,
    ⟨(some 84), none, [88], none, .q (.mv (.t 88))⟩,
    ⟨(some 89), none, [84], none, .q (.ext (.t 84) 0)⟩,
    ⟨(some 90), none, [84], none, .q (.ext (.t 84) 1)⟩,
    ⟨(some 10), none, [89], none, .q (.mv (.t 89))⟩,
    ⟨(some 11), none, [90], none, .q (.mv (.t 90))⟩])
  (.keep [3, 5, 7, 8, 9, 10, 11] (.seq (.seq (.reg false [⟨(some 91), none, [11], none, .q (.mv (.t 11))⟩,
    ⟨(some 92), none, [91], none, .q (.bin .neq (.t 91) (.k (.i 0)))⟩])
  (.keep [3, 5, 7, 8, 9, 10, 11, 92] (.cond (.t 92)
    (.seq (.reg true [⟨(some 93), none, [11], none, .q (.mv (.t 11))⟩,
      ⟨(some 94), none, [93], none, .q (.bin .eql (.t 93) (.k (.i 3)))⟩,
      ⟨(some 95), none, [94], none, .q (.mv (.t 94))⟩,
      ⟨(some 96), (some (95, true)), [], none, .q (.call (.k (.fn 16 [])) [])⟩,
      ⟨(some 97), none, [95, 96], none, .q (.pick (.t 95) (.t 96) (.k (.b false)))⟩,
      ⟨(some 6), none, [97], none, .q (.mv (.t 97))⟩])
    .ret)
    .skip)))
  (.keep [3, 5, 7, 8, 9, 10] (.seq (.reg false [⟨(some 99), none, [3], none, .q (.ld true 6 (.t 3))⟩,
    ⟨(some 100), none, [5], none, .q (.fad 1 (.t 5))⟩,
    ⟨(some 101), none, [100], none, .q (.ld false 1 (.t 100))⟩,
    ⟨(some 102), none, [99, 101], none, .q (.call (.k (.fn 23 [])) [(.t 99), (.t 101)])⟩,
    ⟨(some 98), none, [102], none, .q (.mv (.t 102))⟩,
    ⟨(some 103), none, [98], none, .q (.ext (.t 98) 0)⟩,
    ⟨(some 104), none, [98], none, .q (.ext (.t 98) 1)⟩,
    ⟨(some 12), none, [], none, .w (.alc [(.i 0), (.i 0)])⟩,
    ⟨none, none, [12, 103], none, .w (.st 2 (.t 12) (.t 103))⟩,
    ⟨(some 13), none, [104], none, .q (.mv (.t 104))⟩])
  (.keep [3, 5, 7, 8, 9, 10, 12, 13] (.seq (.reg false [⟨(some 106), none, [7], none, .q (.ld true 6 (.t 7))⟩,
    ⟨(some 107), none, [5], none, .q (.fad 1 (.t 5))⟩,
    ⟨(some 108), none, [107], none, .q (.ld false 1 (.t 107))⟩,
    ⟨(some 109), none, [106, 108], none, .q (.call (.k (.fn 23 [])) [(.t 106), (.t 108)])⟩,
    ⟨(some 105), none, [109], none, .q (.mv (.t 109))⟩,
    ⟨(some 110), none, [105], none, .q (.ext (.t 105) 0)⟩,
    ⟨(some 111), none, [105], none, .q (.ext (.t 105) 1)⟩,
    ⟨(some 14), none, [], none, .w (.alc [(.i 0), (.i 0)])⟩,
    ⟨none, none, [14, 110], none, .w (.st 2 (.t 14) (.t 110))⟩,
    ⟨(some 15), none, [111], none, .q (.mv (.t 111))⟩])
  (.keep [3, 5, 7, 8, 9, 10, 12, 13, 14, 15] (.seq (.reg false [⟨(some 113), none, [3], none, .q (.ld true 6 (.t 3))⟩,
    ⟨(some 114), none, [5], none, .q (.fad 1 (.t 5))⟩,
    ⟨(some 115), none, [114], none, .q (.ld false 1 (.t 114))⟩,
    ⟨(some 116), none, [113, 115], none, .q (.call (.k (.fn 17 [])) [(.t 113), (.t 115)])⟩,
    ⟨(some 112), none, [116], none, .q (.mv (.t 116))⟩,
    ⟨(some 117), none, [112], none, .q (.ext (.t 112) 0)⟩,
    ⟨(some 118), none, [112], none, .q (.ext (.t 112) 1)⟩,
    ⟨(some 16), none, [117], none, .q (.mv (.t 117))⟩,
    ⟨(some 17), none, [118], none, .q (.mv (.t 118))⟩])
  (.keep [3, 5, 7, 8, 9, 10, 12, 13, 14, 15, 16, 17] (.seq (.reg false [⟨(some 120), none, [7], none, .q (.ld true 6 (.t 7))⟩,
    ⟨(some 121), none, [5], none, .q (.fad 1 (.t 5))⟩,
    ⟨(some 122), none, [121], none, .q (.ld false 1 (.t 121))⟩,
    ⟨(some 123), none, [120, 122], none, .q (.call (.k (.fn 17 [])) [(.t 120), (.t 122)])⟩,
    ⟨(some 119), none, [123], none, .q (.mv (.t 123))⟩,
    ⟨(some 124), none, [119], none, .q (.ext (.t 119) 0)⟩,
    ⟨(some 125), none, [119], none, .q (.ext (.t 119) 1)⟩,
    ⟨(some 18), none, [124], none, .q (.mv (.t 124))⟩,
    ⟨(some 19), none, [125], none, .q (.mv (.t 125))⟩])
  (.keep [3, 5, 7, 8, 9, 10, 12, 13, 14, 15, 16, 17, 18, 19] (.seq (.seq (.reg true [⟨(some 126), none, [9], none, .q (.mv (.t 9))⟩,
    ⟨(some 127), none, [126], none, .q (.bin .neq (.t 126) (.k (.i 0)))⟩,
    ⟨(some 128), none, [127], none, .q (.mv (.t 127))⟩,
    ⟨(some 129), (some (128, false)), [13], none, .q (.mv (.t 13))⟩,
    ⟨(some 130), (some (128, false)), [129], none, .q (.bin .neq (.t 129) (.k (.i 0)))⟩,
    ⟨(some 131), none, [128, 130], none, .q (.pick (.t 128) (.k (.b true)) (.t 130))⟩,
    ⟨(some 132), none, [131], none, .q (.mv (.t 131))⟩,
    ⟨(some 133), (some (132, false)), [15], none, .q (.mv (.t 15))⟩,
    ⟨(some 134), (some (132, false)), [133], none, .q (.bin .neq (.t 133) (.k (.i 0)))⟩,
    ⟨(some 135), none, [132, 134], none, .q (.pick (.t 132) (.k (.b true)) (.t 134))⟩,
    ⟨(some 136), none, [135], none, .q (.mv (.t 135))⟩,
    ⟨(some 137), (some (136, false)), [17], none, .q (.mv (.t 17))⟩,
    ⟨(some 138), (some (136, false)), [137], none, .q (.bin .neq (.t 137) (.k (.i 0)))⟩,
    ⟨(some 139), none, [136, 138], none, .q (.pick (.t 136) (.k (.b true)) (.t 138))⟩,
    ⟨(some 140), none, [139], none, .q (.mv (.t 139))⟩,
    ⟨(some 141), (some (140, false)), [19], none, .q (.mv (.t 19))⟩,
    ⟨(some 142), (some (140, false)), [141], none, .q (.bin .neq (.t 141) (.k (.i 0)))⟩,
    ⟨(some 143), none, [140, 142], none, .q (.pick (.t 140) (.k (.b true)) (.t 142))⟩,
    ⟨(some 144), none, [143], none, .q (.mv (.t 143))⟩,
    ⟨(some 145), (some (144, false)), [14], none, .q (.fad 0 (.t 14))⟩,
    ⟨(some 146), (some (144, false)), [145], none, .q (.ld false 1 (.t 145))⟩,
    ⟨(some 147), (some (144, false)), [12], none, .q (.fad 0 (.t 12))⟩,
    ⟨(some 148), (some (144, false)), [147], none, .q (.ld false 1 (.t 147))⟩,
    ⟨(some 149), (some (144, false)), [146, 148], none, .q (.bin .lss (.t 146) (.t 148))⟩,
    ⟨(some 150), none, [144, 149], none, .q (.pick (.t 144) (.k (.b true)) (.t 149))⟩,
    ⟨(some 151), none, [150], none, .q (.mv (.t 150))⟩,
    ⟨(some 152), (some (151, false)), [14], none, .q (.fad 1 (.t 14))⟩,
    ⟨(some 153), (some (151, false)), [152], none, .q (.ld false 1 (.t 152))⟩,
    ⟨(some 154), (some (151, false)), [12], none, .q (.fad 1 (.t 12))⟩,
    ⟨(some 155), (some (151, false)), [154], none, .q (.ld false 1 (.t 154))⟩,
    ⟨(some 156), (some (151, false)), [153, 155], none, .q (.bin .gtr (.t 153) (.t 155))⟩,
    ⟨(some 157), none, [151, 156], none, .q (.pick (.t 151) (.k (.b true)) (.t 156))⟩,
    ⟨(some 158), none, [157], none, .q (.mv (.t 157))⟩,
    ⟨(some 159), (some (158, false)), [16], none, .q (.mv (.t 16))⟩,
    ⟨(some 160), (some (158, false)), [159], none, .q (.bin .neq (.t 159) (.k (.i 3)))⟩,
    ⟨(some 161), (some (158, false)), [160], none, .q (.mv (.t 160))⟩,
    ⟨(some 162), (some (161, true)), [16], none, .q (.mv (.t 16))⟩,
    ⟨(some 163), (some (161, true)), [18], none, .q (.mv (.t 18))⟩,
    ⟨(some 164), (some (161, true)), [162, 163], none, .q (.bin .neq (.t 162) (.t 163))⟩,
    ⟨(some 165), (some (158, false)), [161, 164], none, .q (.pick (.t 161) (.t 164) (.k (.b false)))⟩,
    ⟨(some 166), none, [158, 165], none, .q (.pick (.t 158) (.k (.b true)) (.t 165))⟩])
  (.keep [3, 5, 7, 8, 10, 166] (.cond (.t 166)
    (.seq (.reg false [⟨(some 6), none, [], none, .q (.mv (.k (.b false)))⟩])
    .ret)
    .skip)))
  (.keep [3, 5, 7, 8, 10] (.seq (.seq (.reg false [⟨(some 20), none, [], none, .q (.mv (.k (.i 0)))⟩])
  (.keep [3, 5, 7, 8, 10, 20] (.block 0 (.loop [3, 5, 7, 8, 10, 20] none (.seq (.seq (.reg false [⟨(some 167), none, [20], none, .q (.mv (.t 20))⟩,
    ⟨(some 168), none, [10], none, .q (.mv (.t 10))⟩,
    ⟨(some 169), none, [168], none, .q (.len (.t 168))⟩,
    ⟨(some 170), none, [167, 169], none, .q (.bin .lss (.t 167) (.t 169))⟩])
  (.keep [3, 5, 7, 8, 10, 20, 170] (.cond (.t 170)
    .skip
    (.exit 0))))
  (.keep [3, 5, 7, 8, 10, 20] (.seq (.block 1 (.seq (.reg false [⟨(some 173), none, [8], none, .q (.mv (.t 8))⟩,
    ⟨(some 174), none, [10], none, .q (.mv (.t 10))⟩,
    ⟨(some 175), none, [20], none, .q (.mv (.t 20))⟩,
    ⟨(some 176), none, [174, 175], none, .q (.iad 1 (.t 174) (.t 175))⟩,
    ⟨(some 177), none, [176], none, .q (.ld false 1 (.t 176))⟩,
    ⟨(some 178), none, [173, 177], none, .q (.call (.k (.fn 37 [])) [(.t 173), (.t 177)])⟩,
    ⟨(some 179), none, [178], none, .q (.not (.t 178))⟩])
  (.keep [3, 5, 7, 8, 10, 20, 179] (.cond (.t 179)
    (.seq (.reg false [⟨(some 6), none, [], none, .q (.mv (.k (.b false)))⟩])
    .ret)
    .skip))))
  (.keep [3, 5, 7, 8, 10, 20] (.reg false [⟨(some 171), none, [20], none, .q (.mv (.t 20))⟩,
    ⟨(some 172), none, [171], none, .q (.bin .add (.t 171) (.k (.i 1)))⟩,
    ⟨(some 20), none, [172], none, .q (.mv (.t 172))⟩])))))))))
  (.keep [3, 5, 7] (.seq (.reg false [⟨(some 181), none, [3], none, .q (.ld true 6 (.t 3))⟩,
    ⟨(some 182), none, [5], none, .q (.fad 1 (.t 5))⟩,
    ⟨(some 183), none, [182], none, .q (.ld false 1 (.t 182))⟩,
    ⟨(some 184), none, [181, 183], none, .q (.call (.k (.fn 19 [])) [(.t 181), (.t 183)])⟩,
    ⟨(some 180), none, [184], none, .q (.mv (.t 184))⟩,
    ⟨(some 185), none, [180], none, .q (.ext (.t 180) 0)⟩,
    ⟨(some 186), none, [180], none, .q (.ext (.t 180) 1)⟩,
    ⟨(some 21), none, [], none, .w (.alc [(.i 0), (.i 0)])⟩,
    ⟨none, none, [21, 185], none, .w (.st 2 (.t 21) (.t 185))⟩,
    ⟨(some 22), none, [186], none, .q (.mv (.t 186))⟩])
  (.keep [5, 7, 21, 22] (.seq (.reg false [⟨(some 188), none, [7], none, .q (.ld true 6 (.t 7))⟩,
    ⟨(some 189), none, [5], none, .q (.fad 1 (.t 5))⟩,
    ⟨(some 190), none, [189], none, .q (.ld false 1 (.t 189))⟩,
    ⟨(some 191), none, [188, 190], none, .q (.call (.k (.fn 19 [])) [(.t 188), (.t 190)])⟩,
    ⟨(some 187), none, [191], none, .q (.mv (.t 191))⟩,
    ⟨(some 192), none, [187], none, .q (.ext (.t 187) 0)⟩,
    ⟨(some 193), none, [187], none, .q (.ext (.t 187) 1)⟩,
    ⟨(some 23), none, [], none, .w (.alc [(.i 0), (.i 0)])⟩,
    ⟨none, none, [23, 192], none, .w (.st 2 (.t 23) (.t 192))⟩,
    ⟨(some 24), none, [193], none, .q (.mv (.t 193))⟩])
  (.keep [21, 22, 23, 24] (.seq (.reg true [⟨(some 194), none, [22], none, .q (.mv (.t 22))⟩,
    ⟨(some 195), none, [194], none, .q (.bin .neq (.t 194) (.k (.i 0)))⟩,
    ⟨(some 196), none, [195], none, .q (.mv (.t 195))⟩,
    ⟨(some 197), (some (196, false)), [24], none, .q (.mv (.t 24))⟩,
    ⟨(some 198), (some (196, false)), [197], none, .q (.bin .eql (.t 197) (.k (.i 0)))⟩,
    ⟨(some 199), (some (196, false)), [198], none, .q (.mv (.t 198))⟩,
    ⟨(some 200), (some (199, true)), [23], none, .q (.fad 0 (.t 23))⟩,
    ⟨(some 201), (some (199, true)), [200], none, .q (.ld false 1 (.t 200))⟩,
    ⟨(some 202), (some (199, true)), [21], none, .q (.fad 0 (.t 21))⟩,
    ⟨(some 203), (some (199, true)), [202], none, .q (.ld false 1 (.t 202))⟩,
    ⟨(some 204), (some (199, true)), [201, 203], none, .q (.bin .leq (.t 201) (.t 203))⟩,
    ⟨(some 205), (some (196, false)), [199, 204], none, .q (.pick (.t 199) (.t 204) (.k (.b false)))⟩,
    ⟨(some 206), (some (196, false)), [205], none, .q (.mv (.t 205))⟩,
    ⟨(some 207), (some (206, true)), [23], none, .q (.fad 1 (.t 23))⟩,
    ⟨(some 208), (some (206, true)), [207], none, .q (.ld false 1 (.t 207))⟩,
    ⟨(some 209), (some (206, true)), [21], none, .q (.fad 1 (.t 21))⟩,
    ⟨(some 210), (some (206, true)), [209], none, .q (.ld false 1 (.t 209))⟩,
    ⟨(some 211), (some (206, true)), [208, 210], none, .q (.bin .geq (.t 208) (.t 210))⟩,
    ⟨(some 212), (some (196, false)), [206, 211], none, .q (.pick (.t 206) (.t 211) (.k (.b false)))⟩,
    ⟨(some 213), none, [196, 212], none, .q (.pick (.t 196) (.k (.b true)) (.t 212))⟩,
    ⟨(some 214), none, [213], none, .q (.mv (.t 213))⟩,
    ⟨(some 215), (some (214, true)), [], none, .q (.call (.k (.fn 16 [])) [])⟩,
    ⟨(some 216), none, [214, 215], none, .q (.pick (.t 214) (.t 215) (.k (.b false)))⟩,
    ⟨(some 6), none, [216], none, .q (.mv (.t 216))⟩])
  .ret)))))))))))))))))))))))))))))))))
def pu9 : List Nat := [3, 4, 5, 69]
def rs9 : List RV := [.t 6]
theorem cc9 : comp Try.prog pu9 (Try.f9.ntmps, 0) 0 1 rc9 (Try.f9.body.getD .skip) = some rc9 := by kernel_rfl
theorem cb9 : Try.f9.body = some (Try.f9.body.getD .skip) := by kernel_rfl
theorem cs9 : resRV Try.prog Try.f9.results.toList = some rs9 := by kernel_rfl
theorem cn9 : 3 ≤ Try.f9.ntmps := by decide
/- ferrule/ferrulelaw02.ClothWider: params [26, 3, 61], free 0, slots 159 -/
def rc10 : RC :=
  (.seq (.reg false [⟨(some 3), none, [0], none, .q (.box (.t 0))⟩,
    ⟨(some 5), none, [2], none, .q (.box (.t 2))⟩,
    ⟨(some 6), none, [], none, .q (.mv (.k (.b false)))⟩])
  (.keep [1, 3, 5] (.seq (.seq (.any true 0 [⟨⟨(some 19), none, [3], none, .q (.ld true 6 (.t 3))⟩, [], []⟩,
    ⟨⟨(some 20), none, [1], none, .q (.mv (.t 1))⟩, [], []⟩,
    ⟨⟨(some 21), none, [19, 20], none, .q (.call (.k (.fn 15 [])) [(.t 19), (.t 20)])⟩, [], [0, 1]⟩,
    ⟨⟨(some 22), none, [21], none, .q (.not (.t 21))⟩, [], [2, 0, 1]⟩,
    ⟨⟨(some 23), none, [22], none, .q (.mv (.t 22))⟩, [], [3, 2, 0, 1]⟩,
    ⟨⟨(some 24), (some (23, false)), [5], none, .q (.fad 0 (.t 5))⟩, [], [4, 3, 2, 0, 1]⟩,
    ⟨⟨(some 25), (some (23, false)), [24], none, .q (.ld false 1 (.t 24))⟩, [], [5, 4, 3, 2, 0, 1]⟩,
    ⟨⟨(some 26), (some (23, false)), [25], none, .q (.bin .lss (.t 25) (.k (.i 0)))⟩, [], [6, 5, 4, 3, 2, 0, 1]⟩,
    ⟨⟨(some 27), none, [23, 26], none, .q (.pick (.t 23) (.k (.b true)) (.t 26))⟩, [], [4, 3, 2, 0, 1, 7, 6, 5]⟩,
    ⟨⟨(some 28), none, [27], none, .q (.mv (.t 27))⟩, [], [8, 4, 3, 2, 0, 1, 7, 6, 5]⟩,
    ⟨⟨(some 29), (some (28, false)), [5], none, .q (.fad 0 (.t 5))⟩, [], [9, 8, 4, 3, 2, 0, 1, 7, 6, 5]⟩,
    ⟨⟨(some 30), (some (28, false)), [29], none, .q (.ld false 1 (.t 29))⟩, [], [10, 9, 8, 4, 3, 2, 0, 1, 7, 6, 5]⟩,
    ⟨⟨(some 31), (some (28, false)), [3], none, .q (.fad 4 (.t 3))⟩, [], [9, 8, 4, 3, 2, 0, 1, 7, 6, 5]⟩,
    ⟨⟨(some 32), (some (28, false)), [31], none, .q (.ld false 1 (.t 31))⟩, [], [12, 9, 8, 4, 3, 2, 0, 1, 7, 6, 5]⟩,
    ⟨⟨(some 33), (some (28, false)), [1], none, .q (.mv (.t 1))⟩, [], [9, 8, 4, 3, 2, 0, 1, 7, 6, 5]⟩,
    ⟨⟨(some 34), (some (28, false)), [32, 33], none, .q (.iad 1 (.t 32) (.t 33))⟩, [], [13, 12, 9, 8, 4, 3, 2, 0, 1, 7, 6, 5, 14]⟩,
    ⟨⟨(some 35), (some (28, false)), [34], none, .q (.ld false 1 (.t 34))⟩, [], [15, 13, 12, 9, 8, 4, 3, 2, 0, 1, 7, 6, 5, 14]⟩,
    ⟨⟨(some 36), (some (28, false)), [35], none, .q (.bin .sub (.k (.i 2000)) (.t 35))⟩, [], [16, 15, 13, 12, 9, 8, 4, 3, 2, 0, 1, 7, 6, 5, 14]⟩,
    ⟨⟨(some 37), (some (28, false)), [30, 36], none, .q (.bin .gtr (.t 30) (.t 36))⟩, [], [11, 10, 9, 8, 4, 3, 2, 0, 1, 7, 6, 5, 17, 16, 15, 13, 12, 14]⟩,
    ⟨⟨(some 38), none, [28, 37], none, .q (.pick (.t 28) (.k (.b true)) (.t 37))⟩, [], [9, 8, 4, 3, 2, 0, 1, 7, 6, 5, 18, 11, 10, 17, 16, 15, 13, 12, 14]⟩,
    ⟨⟨(some 39), none, [38], none, .q (.mv (.t 38))⟩, [], [19, 9, 8, 4, 3, 2, 0, 1, 7, 6, 5, 18, 11, 10, 17, 16, 15, 13, 12, 14]⟩,
    ⟨⟨(some 40), (some (39, false)), [5], none, .q (.fad 1 (.t 5))⟩, [], [20, 19, 9, 8, 4, 3, 2, 0, 1, 7, 6, 5, 18, 11, 10, 17, 16, 15, 13, 12, 14]⟩,
    ⟨⟨(some 41), (some (39, false)), [40], none, .q (.ld false 1 (.t 40))⟩, [], [21, 20, 19, 9, 8, 4, 3, 2, 0, 1, 7, 6, 5, 18, 11, 10, 17, 16, 15, 13, 12, 14]⟩,
    ⟨⟨(some 42), (some (39, false)), [41], none, .q (.bin .lss (.t 41) (.k (.i 0)))⟩, [], [22, 21, 20, 19, 9, 8, 4, 3, 2, 0, 1, 7, 6, 5, 18, 11, 10, 17, 16, 15, 13, 12, 14]⟩,
    ⟨⟨(some 43), none, [39, 42], none, .q (.pick (.t 39) (.k (.b true)) (.t 42))⟩, [], [20, 19, 9, 8, 4, 3, 2, 0, 1, 7, 6, 5, 18, 11, 10, 17, 16, 15, 13, 12, 14, 23, 22, 21]⟩,
    ⟨⟨(some 44), none, [43], none, .q (.mv (.t 43))⟩, [], [24, 20, 19, 9, 8, 4, 3, 2, 0, 1, 7, 6, 5, 18, 11, 10, 17, 16, 15, 13, 12, 14, 23, 22, 21]⟩,
    ⟨⟨(some 45), (some (44, false)), [5], none, .q (.fad 1 (.t 5))⟩, [], [25, 24, 20, 19, 9, 8, 4, 3, 2, 0, 1, 7, 6, 5, 18, 11, 10, 17, 16, 15, 13, 12, 14, 23, 22, 21]⟩,
    ⟨⟨(some 46), (some (44, false)), [45], none, .q (.ld false 1 (.t 45))⟩, [], [26, 25, 24, 20, 19, 9, 8, 4, 3, 2, 0, 1, 7, 6, 5, 18, 11, 10, 17, 16, 15, 13, 12, 14, 23, 22, 21]⟩,
    ⟨⟨(some 47), (some (44, false)), [3], none, .q (.fad 2 (.t 3))⟩, [], [25, 24, 20, 19, 9, 8, 4, 3, 2, 0, 1, 7, 6, 5, 18, 11, 10, 17, 16, 15, 13, 12, 14, 23, 22, 21]⟩,
    ⟨⟨(some 48), (some (44, false)), [47], none, .q (.ld false 1 (.t 47))⟩, [], [28, 25, 24, 20, 19, 9, 8, 4, 3, 2, 0, 1, 7, 6, 5, 18, 11, 10, 17, 16, 15, 13, 12, 14, 23, 22, 21]⟩,
    ⟨⟨(some 49), (some (44, false)), [48], none, .q (.bin .sub (.k (.i 20)) (.t 48))⟩, [], [29, 28, 25, 24, 20, 19, 9, 8, 4, 3, 2, 0, 1, 7, 6, 5, 18, 11, 10, 17, 16, 15, 13, 12, 14, 23, 22, 21]⟩,
    ⟨⟨(some 50), (some (44, false)), [46, 49], none, .q (.bin .gtr (.t 46) (.t 49))⟩, [], [27, 26, 25, 24, 20, 19, 9, 8, 4, 3, 2, 0, 1, 7, 6, 5, 18, 11, 10, 17, 16, 15, 13, 12, 14, 23, 22, 21, 30, 29, 28]⟩,
    ⟨⟨(some 51), none, [44, 50], none, .q (.pick (.t 44) (.k (.b true)) (.t 50))⟩, [], [25, 24, 20, 19, 9, 8, 4, 3, 2, 0, 1, 7, 6, 5, 18, 11, 10, 17, 16, 15, 13, 12, 14, 23, 22, 21, 31, 27, 26, 30, 29, 28]⟩])
  (.keep [1, 3, 5, 51] (.cond (.t 51)
    (.seq (.reg false [⟨(some 52), none, [], none, .q (.call (.k (.fn 16 [])) [])⟩,
      ⟨(some 6), none, [52], none, .q (.mv (.t 52))⟩])
    .ret)
    .skip)))
  (.keep [1, 3, 5] (.seq (.any false 1 [⟨⟨(some 53), none, [3], none, .q (.ld true 6 (.t 3))⟩, [], []⟩,
    ⟨⟨(some 54), none, [1], none, .q (.mv (.t 1))⟩, [], []⟩,
    ⟨⟨(some 55), none, [3], none, .q (.fad 4 (.t 3))⟩, [], []⟩,
    ⟨⟨(some 56), none, [55], none, .q (.ld false 1 (.t 55))⟩, [], [2]⟩,
    ⟨⟨(some 57), none, [1], none, .q (.mv (.t 1))⟩, [], []⟩,
    ⟨⟨(some 58), none, [56, 57], none, .q (.iad 1 (.t 56) (.t 57))⟩, [], [3, 2, 4]⟩,
    ⟨⟨(some 59), none, [58], none, .q (.ld false 1 (.t 58))⟩, [], [5, 3, 2, 4]⟩,
    ⟨⟨(some 60), none, [5], none, .q (.fad 0 (.t 5))⟩, [], []⟩,
    ⟨⟨(some 61), none, [60], none, .q (.ld false 1 (.t 60))⟩, [], [7]⟩,
    ⟨⟨(some 62), none, [59, 61], none, .q (.bin .add (.t 59) (.t 61))⟩, [], [6, 5, 3, 2, 4, 8, 7]⟩,
    ⟨⟨(some 63), none, [53, 54, 62], none, .q (.call (.k (.fn 18 [])) [(.t 53), (.t 54), (.t 62)])⟩, [], [0, 1, 9, 6, 5, 3, 2, 4, 8, 7]⟩,
    ⟨⟨(some 7), none, [], (some 0), .w (.alc [(.z 4), (.z 1), (.i 0), (.z 2), (.z 1), (.i 0)])⟩, [0, 1, 2, 3, 4, 5, 6, 7, 8, 9, 10], []⟩,
    ⟨⟨none, none, [7, 63], none, .w (.st 6 (.t 7) (.t 63))⟩, [], [11, 10, 0, 1, 9, 6, 5, 3, 2, 4, 8, 7]⟩])
  (.keep [1, 3, 5, 7] (.seq (.reg false [⟨(some 65), none, [3], none, .q (.ld true 6 (.t 3))⟩,
    ⟨(some 66), none, [1], none, .q (.mv (.t 1))⟩,
    ⟨(some 67), none, [65, 66], none, .q (.call (.k (.fn 23 [])) [(.t 65), (.t 66)])⟩,
    ⟨(some 64), none, [67], none, .q (.mv (.t 67))⟩,
    ⟨(some 68), none, [64], none, .q (.ext (.t 64) 0)⟩,
    ⟨(some 69), none, [64], none, .q (.ext (.t 64) 1)⟩,
    ⟨(some 8), none, [], none, .w (.alc [(.i 0), (.i 0)])⟩,
    ⟨none, none, [8, 68], none, .w (.st 2 (.t 8) (.t 68))⟩,
    ⟨(some 9), none, [69], none, .q (.mv (.t 69))⟩])
  (.keep [1, 3, 5, 7, 8, 9] (.seq (.reg false [⟨(some 71), none, [7], none, .q (.ld true 6 (.t 7))⟩,
    ⟨(some 72), none, [1], none, .q (.mv (.t 1))⟩,
    ⟨(some 73), none, [71, 72], none, .q (.call (.k (.fn 23 [])) [(.t 71), (.t 72)])⟩,
    ⟨(some 70), none, [73], none, .q (.mv (.t 73))⟩,
    ⟨(some 74), none, [70], none, .q (.ext (.t 70) 0)⟩,
    ⟨(some 75), none, [70], none, .q (.ext (.t 70) 1)⟩,
    ⟨(some 10), none, [], none, .w (.alc [(.i 0), (.i 0)])⟩,
    ⟨none, none, [10, 74], none, .w (.st 2 (.t 10) (.t 74))⟩,
    ⟨(some 11), none, [75], none, .q (.mv (.t 75))⟩])
  (.keep [1, 3, 5, 8, 9, 10, 11] (.seq (.seq (.reg true [⟨(some 76), none, [9], none, .q (.mv (.t 9))⟩,
    ⟨(some 77), none, [11], none, .q (.mv (.t 11))⟩,
    ⟨(some 78), none, [76, 77], none, .q (.bin .neq (.t 76) (.t 77))⟩,
    ⟨(some 79), none, [78], none, .q (.mv (.t 78))⟩,
    ⟨(some 80), (some (79, false)), [9], none, .q (.mv (.t 9))⟩,
    ⟨(some 81), (some (79, false)), [80], none, .q (.bin .neq (.t 80) (.k (.i 0)))⟩,
    ⟨(some 82), (some (79, false)), [81], none, .q (.mv (.t 81))⟩,
    ⟨(some 83), (some (82, true)), [9], none, .q (.mv (.t 9))⟩,
    ⟨(some 84), (some (82, true)), [83], none, .q (.bin .neq (.t 83) (.k (.i 3)))⟩,
    ⟨(some 85), (some (79, false)), [82, 84], none, .q (.pick (.t 82) (.t 84) (.k (.b false)))⟩,
    ⟨(some 86), none, [79, 85], none, .q (.pick (.t 79) (.k (.b true)) (.t 85))⟩,
    ⟨(some 87), none, [86], none, .q (.mv (.t 86))⟩,
    ⟨(some 88), (some (87, false)), [10], none, .q (.fad 0 (.t 10))⟩,
    ⟨(some 89), (some (87, false)), [88], none, .q (.ld false 1 (.t 88))⟩,
    ⟨(some 90), (some (87, false)), [8], none, .q (.fad 0 (.t 8))⟩,
    ⟨(some 91), (some (87, false)), [90], none, .q (.ld false 1 (.t 90))⟩,
    ⟨(some 92), (some (87, false)), [89, 91], none, .q (.bin .lss (.t 89) (.t 91))⟩,
    ⟨(some 93), none, [87, 92], none, .q (.pick (.t 87) (.k (.b true)) (.t 92))⟩,
    ⟨(some 94), none, [93], none, .q (.mv (.t 93))⟩,
    ⟨(some 95), (some (94, false)), [10], none, .q (.fad 1 (.t 10))⟩,
    ⟨(some 96), (some (94, false)), [95], none, .q (.ld false 1 (.t 95))⟩,
    ⟨(some 97), (some (94, false)), [8], none, .q (.fad 1 (.t 8))⟩,
    ⟨(some 98), (some (94, false)), [97], none, .q (.ld false 1 (.t 97))⟩,
    ⟨(some 99), (some (94, false)), [96, 98], none, .q (.bin .lss (.t 96) (.t 98))⟩,
    ⟨(some 100), none, [94, 99], none, .q (.pick (.t 94) (.k (.b true)) (.t 99))⟩])
  (.keep [1, 3, 5, 8, 9, 100] (.cond (.t 100)
    (.seq (.reg false [⟨(some 6), none, [], none, .q (.mv (.k (.b false)))⟩])
    .ret)
    .skip)))
  (.keep [1, 3, 5, 8, 9] (.seq (.reg false [⟨(some 101), none, [3], none, .q (.ld true 6 (.t 3))⟩,
    ⟨(some 102), none, [101], none, .q (.call (.k (.fn 22 [])) [(.t 101)])⟩,
    ⟨(some 12), none, [], none, .w (.alc [(.z 4), (.z 1), (.i 0), (.z 2), (.z 1), (.i 0)])⟩,
    ⟨none, none, [12, 102], none, .w (.st 6 (.t 12) (.t 102))⟩])
  (.keep [1, 3, 5, 8, 9, 12] (.seq (.reg false [⟨(some 103), none, [12], none, .q (.fad 2 (.t 12))⟩,
    ⟨(some 104), none, [103], none, .q (.ld false 1 (.t 103))⟩,
    ⟨(some 105), none, [5], none, .q (.fad 1 (.t 5))⟩,
    ⟨(some 106), none, [105], none, .q (.ld false 1 (.t 105))⟩,
    ⟨(some 107), none, [104, 106], none, .q (.bin .add (.t 104) (.t 106))⟩,
    ⟨(some 108), none, [12], none, .q (.fad 2 (.t 12))⟩,
    ⟨none, none, [108, 107], none, .w (.st 1 (.t 108) (.t 107))⟩])
  (.keep [1, 3, 8, 9, 12] (.seq (.seq (.reg false [⟨(some 109), none, [12], none, .q (.ld true 6 (.t 12))⟩,
    ⟨(some 110), none, [109], none, .q (.call (.k (.fn 39 [])) [(.t 109)])⟩,
    ⟨(some 111), none, [110], none, .q (.bin .neq (.t 110) (.k (.i 0)))⟩])
  (.keep [1, 3, 8, 9, 12, 111] (.cond (.t 111)
    (.seq (.reg false [⟨(some 112), none, [], none, .q (.call (.k (.fn 16 [])) [])⟩,
      ⟨(some 6), none, [112], none, .q (.mv (.t 112))⟩])
    .ret)
    .skip)))
  (.keep [1, 3, 8, 9, 12] (.seq (.reg false [⟨(some 114), none, [12], none, .q (.ld true 6 (.t 12))⟩,
    ⟨(some 115), none, [1], none, .q (.mv (.t 1))⟩,
    ⟨(some 116), none, [114, 115], none, .q (.call (.k (.fn 23 [])) [(.t 114), (.t 115)])⟩,
    ⟨(some 113), none, [116], none, .q (.mv (.t 116))⟩,
    ⟨(some 117), none, [113], none, .q (.ext (.t 113) 0)⟩,
    ⟨(some 118), none, [113], none, .q (.ext (.t 113) 1)⟩,
    ⟨(some 13), none, [], none, .w (.alc [(.i 0), (.i 0)])⟩,
    ⟨none, none, [13, 117], none, .w (.st 2 (.t 13) (.t 117))⟩,
    ⟨(some 14), none, [118], none, .q (.mv (.t 118))⟩])
  (.keep [3, 8, 9, 12, 13, 14] (.seq (.reg false [⟨(some 120), none, [3], none, .q (.ld true 6 (.t 3))⟩,
    ⟨(some 121), none, [120], none, .q (.call (.k (.fn 36 [])) [(.t 120), (.k (.i 0))])⟩,
    ⟨(some 119), none, [121], none, .q (.mv (.t 121))⟩,
    ⟨(some 122), none, [119], none, .q (.ext (.t 119) 0)⟩,
    ⟨(some 123), none, [119], none, .q (.ext (.t 119) 1)⟩,
    ⟨(some 15), none, [122], none, .q (.mv (.t 122))⟩,
    ⟨(some 16), none, [123], none, .q (.mv (.t 123))⟩])
  (.keep [8, 9, 12, 13, 14, 15, 16] (.seq (.reg false [⟨(some 125), none, [12], none, .q (.ld true 6 (.t 12))⟩,
    ⟨(some 126), none, [125], none, .q (.call (.k (.fn 36 [])) [(.t 125), (.k (.i 0))])⟩,
    ⟨(some 124), none, [126], none, .q (.mv (.t 126))⟩,
    ⟨(some 127), none, [124], none, .q (.ext (.t 124) 0)⟩,
    ⟨(some 128), none, [124], none, .q (.ext (.t 124) 1)⟩,
    ⟨(some 17), none, [127], none, .q (.mv (.t 127))⟩,
    ⟨(some 18), none, [128], none, .q (.mv (.t 128))⟩])
  (.keep [8, 9, 13, 14, 15, 16, 17, 18] (.seq (.reg true [⟨(some 129), none, [14], none, .q (.mv (.t 14))⟩,
    ⟨(some 130), none, [9], none, .q (.mv (.t 9))⟩,
    ⟨(some 131), none, [129, 130], none, .q (.bin .eql (.t 129) (.t 130))⟩,
    ⟨(some 132), none, [131], none, .q (.mv (.t 131))⟩,
    ⟨(some 133), (some (132, true)), [13], none, .q (.fad 0 (.t 13))⟩,
    ⟨(some 134), (some (132, true)), [133], none, .q (.ld false 1 (.t 133))⟩,
    ⟨(some 135), (some (132, true)), [8], none, .q (.fad 0 (.t 8))⟩,
    ⟨(some 136), (some (132, true)), [135], none, .q (.ld false 1 (.t 135))⟩,
    ⟨(some 137), (some (132, true)), [134, 136], none, .q (.bin .leq (.t 134) (.t 136))⟩,
    ⟨(some 138), none, [132, 137], none, .q (.pick (.t 132) (.t 137) (.k (.b false)))⟩,
    ⟨(some 139), none, [138], none, .q (.mv (.t 138))⟩,
    ⟨(some 140), (some (139, true)), [13], none, .q (.fad 1 (.t 13))⟩,
    ⟨(some 141), (some (139, true)), [140], none, .q (.ld false 1 (.t 140))⟩,
    ⟨(some 142), (some (139, true)), [8], none, .q (.fad 1 (.t 8))⟩,
    ⟨(some 143), (some (139, true)), [142], none, .q (.ld false 1 (.t 142))⟩,
    ⟨(some 144), (some (139, true)), [141, 143], none, .q (.bin .leq (.t 141) (.t 143))⟩,
    ⟨(some 145), none, [139, 144], none, .q (.pick (.t 139) (.t 144) (.k (.b false)))⟩,
    ⟨(some 146), none, [145], none, .q (.mv (.t 145))⟩,
    ⟨(some 147), (some (146, true)), [16], none, .q (.mv (.t 16))⟩,
    ⟨(some 148), (some (146, true)), [18], none, .q (.mv (.t 18))⟩,
    ⟨(some 149), (some (146, true)), [147, 148], none, .q (.bin .eql (.t 147) (.t 148))⟩,
    ⟨(some 150), none, [146, 149], none, .q (.pick (.t 146) (.t 149) (.k (.b false)))⟩,
    ⟨(some 151), none, [150], none, .q (.mv (.t 150))⟩,
    ⟨(some 152), (some (151, true)), [15], none, .q (.mv (.t 15))⟩,
    ⟨(some 153), (some (151, true)), [17], none, .q (.mv (.t 17))⟩,
    ⟨(some 154), (some (151, true)), [152, 153], none, .q (.call (.k (.fn 28 [])) [(.t 152), (.t 153)])⟩,
    ⟨(some 155), none, [151, 154], none, .q (.pick (.t 151) (.t 154) (.k (.b false)))⟩,
    ⟨(some 156), none, [155], none, .q (.mv (.t 155))⟩,
    ⟨(some 157), (some (156, true)), [], none, .q (.call (.k (.fn 16 [])) [])⟩,
    ⟨(some 158), none, [156, 157], none, .q (.pick (.t 156) (.t 157) (.k (.b false)))⟩,
    ⟨(some 6), none, [158], none, .q (.mv (.t 158))⟩])
  .ret)))))))))))))))))))))))))
def pu10 : List Nat := [3, 5]
def rs10 : List RV := [.t 6]
theorem cc10 : comp Try.prog pu10 (Try.f10.ntmps, 0) 0 1 rc10 (Try.f10.body.getD .skip) = some rc10 := by kernel_rfl
theorem cb10 : Try.f10.body = some (Try.f10.body.getD .skip) := by kernel_rfl
theorem cs10 : resRV Try.prog Try.f10.results.toList = some rs10 := by kernel_rfl
theorem cn10 : 3 ≤ Try.f10.ntmps := by decide
/- ferrule/ferrulelaw02.ClothOrder: params [26, 3, 54], free 0, slots 240 -/
def rc11 : RC :=
  (.seq (.reg false [⟨(some 3), none, [0], none, .q (.box (.t 0))⟩,
    ⟨(some 5), none, [2], none, .q (.box (.t 2))⟩,
    ⟨(some 6), none, [], none, .q (.mv (.k (.b false)))⟩])
  (.keep [1, 3, 5] (.seq (.seq (.reg true [⟨(some 32), none, [3], none, .q (.ld true 6 (.t 3))⟩,
    ⟨(some 33), none, [5], none, .q (.fad 1 (.t 5))⟩,
    ⟨(some 34), none, [33], none, .q (.ld false 1 (.t 33))⟩,
    ⟨(some 35), none, [32, 34], none, .q (.call (.k (.fn 15 [])) [(.t 32), (.t 34)])⟩,
    ⟨(some 36), none, [35], none, .q (.not (.t 35))⟩,
    ⟨(some 37), none, [36], none, .q (.mv (.t 36))⟩,
    ⟨(some 38), (some (37, false)), [5], none, .q (.fad 0 (.t 5))⟩,
    ⟨(some 39), (some (37, false)), [38], none, .q (.ld false 1 (.t 38))⟩,
    ⟨(some 40), (some (37, false)), [39], none, .q (.bin .lss (.t 39) (.k (.i 0)))⟩,
    ⟨(some 41), none, [37, 40], none, .q (.pick (.t 37) (.k (.b true)) (.t 40))⟩,
    ⟨(some 42), none, [41], none, .q (.mv (.t 41))⟩,
    ⟨(some 43), (some (42, false)), [5], none, .q (.fad 0 (.t 5))⟩,
    ⟨(some 44), (some (42, false)), [43], none, .q (.ld false 1 (.t 43))⟩,
    ⟨(some 45), (some (42, false)), [3], none, .q (.fad 0 (.t 3))⟩,
    ⟨(some 46), (some (42, false)), [45], none, .q (.ld false 1 (.t 45))⟩,
    ⟨(some 47), (some (42, false)), [46], none, .q (.len (.t 46))⟩,
    ⟨(some 48), (some (42, false)), [44, 47], none, .q (.bin .geq (.t 44) (.t 47))⟩,
    ⟨(some 49), none, [42, 48], none, .q (.pick (.t 42) (.k (.b true)) (.t 48))⟩,
    ⟨(some 50), none, [49], none, .q (.mv (.t 49))⟩,
    ⟨(some 51), (some (50, false)), [1], none, .q (.mv (.t 1))⟩,
    ⟨(some 52), (some (50, false)), [51], none, .q (.bin .lss (.t 51) (.k (.i 0)))⟩,
    ⟨(some 53), none, [50, 52], none, .q (.pick (.t 50) (.k (.b true)) (.t 52))⟩,
    ⟨(some 54), none, [53], none, .q (.mv (.t 53))⟩,
    ⟨(some 55), (some (54, false)), [1], none, .q (.mv (.t 1))⟩,
    ⟨(some 56), (some (54, false)), [55], none, .q (.bin .gtr (.t 55) (.k (.i 1000)))⟩,
    ⟨(some 57), none, [54, 56], none, .q (.pick (.t 54) (.k (.b true)) (.t 56))⟩])
  (.keep [1, 3, 5, 57] (.cond (.t 57)
    (.seq (.reg false [⟨(some 58), none, [], none, .q (.call (.k (.fn 16 [])) [])⟩,
      ⟨(some 6), none, [58], none, .q (.mv (.t 58))⟩])
    .ret)
    .skip)))
  (.keep [1, 3, 5] (.seq (.reg false [⟨(some 59), none, [3], none, .q (.ld true 6 (.t 3))⟩,
    ⟨(some 60), none, [59], none, .q (.call (.k (.fn 22 [])) [(.t 59)])⟩,
    ⟨(some 7), none, [], none, .w (.alc [(.z 4), (.z 1), (.i 0), (.z 2), (.z 1), (.i 0)])⟩,
    ⟨none, none, [7, 60], none, .w (.st 6 (.t 7) (.t 60))⟩])
  (.keep [1, 3, 5, 7] (.seq (.seq (.reg false [⟨(some 8), none, [], none, .q (.mv (.k (.i 0)))⟩])
  (.keep [1, 3, 5, 7, 8] (.block 0 (.loop [1, 3, 5, 7, 8] none (.seq (.seq (.reg false [⟨(some 61), none, [8], none, .q (.mv (.t 8))⟩,
    ⟨(some 62), none, [3], none, .q (.fad 1 (.t 3))⟩,
    ⟨(some 63), none, [62], none, .q (.ld false 1 (.t 62))⟩,
    ⟨(some 64), none, [63], none, .q (.len (.t 63))⟩,
    ⟨(some 65), none, [61, 64], none, .q (.bin .lss (.t 61) (.t 64))⟩])
  (.keep [1, 3, 5, 7, 8, 65] (.cond (.t 65)
    .skip
    (.exit 0))))
  (.keep [1, 3, 5, 7, 8] (.seq (.block 1 (.any false 0 [⟨⟨(some 68), none, [7], none, .q (.fad 1 (.t 7))⟩, [], []⟩,
    ⟨⟨(some 69), none, [68], none, .q (.ld false 1 (.t 68))⟩, [], [0]⟩,
    ⟨⟨(some 70), none, [8], none, .q (.mv (.t 8))⟩, [], []⟩,
    ⟨⟨(some 71), none, [3], none, .q (.fad 1 (.t 3))⟩, [], []⟩,
    ⟨⟨(some 72), none, [71], none, .q (.ld false 1 (.t 71))⟩, [], [3]⟩,
    ⟨⟨(some 73), none, [8], none, .q (.mv (.t 8))⟩, [], []⟩,
    ⟨⟨(some 74), none, [1], none, .q (.mv (.t 1))⟩, [], []⟩,
    ⟨⟨(some 75), none, [73, 74], none, .q (.bin .add (.t 73) (.t 74))⟩, [], [5, 6]⟩,
    ⟨⟨(some 76), none, [3], none, .q (.fad 1 (.t 3))⟩, [], []⟩,
    ⟨⟨(some 77), none, [76], none, .q (.ld false 1 (.t 76))⟩, [], [8]⟩,
    ⟨⟨(some 78), none, [77], none, .q (.len (.t 77))⟩, [], [9, 8]⟩,
    ⟨⟨(some 79), none, [75, 78], none, .q (.bin .rem (.t 75) (.t 78))⟩, [], [7, 5, 6, 10, 9, 8]⟩,
    ⟨⟨(some 80), none, [72, 79], none, .q (.iad 1 (.t 72) (.t 79))⟩, [], [4, 3, 11, 7, 5, 6, 10, 9, 8]⟩,
    ⟨⟨(some 81), none, [80], none, .q (.ld false 1 (.t 80))⟩, [], [12, 4, 3, 11, 7, 5, 6, 10, 9, 8]⟩,
    ⟨⟨(some 82), none, [69, 70], none, .q (.iad 1 (.t 69) (.t 70))⟩, [], [1, 0, 2, 3, 4, 5, 6, 7, 8, 9, 10, 11, 12, 13]⟩,
    ⟨⟨none, none, [82, 81], none, .w (.st 1 (.t 82) (.t 81))⟩, [], [14, 1, 0, 2, 3, 4, 5, 6, 7, 8, 9, 10, 11, 12, 13]⟩]))
  (.keep [1, 3, 5, 7, 8] (.reg false [⟨(some 66), none, [8], none, .q (.mv (.t 8))⟩,
    ⟨(some 67), none, [66], none, .q (.bin .add (.t 66) (.k (.i 1)))⟩,
    ⟨(some 8), none, [67], none, .q (.mv (.t 67))⟩])))))))))
  (.keep [1, 3, 5, 7] (.seq (.seq (.reg false [⟨(some 9), none, [], none, .q (.mv (.k (.i 0)))⟩])
  (.keep [1, 3, 5, 7, 9] (.block 2 (.loop [1, 3, 5, 7, 9] none (.seq (.seq (.reg false [⟨(some 83), none, [9], none, .q (.mv (.t 9))⟩,
    ⟨(some 84), none, [3], none, .q (.fad 0 (.t 3))⟩,
    ⟨(some 85), none, [84], none, .q (.ld false 1 (.t 84))⟩,
    ⟨(some 86), none, [85], none, .q (.len (.t 85))⟩,
    ⟨(some 87), none, [83, 86], none, .q (.bin .lss (.t 83) (.t 86))⟩])
  (.keep [1, 3, 5, 7, 9, 87] (.cond (.t 87)
    .skip
    (.exit 2))))
  (.keep [1, 3, 5, 7, 9] (.seq (.block 3 (.seq (.reg false [⟨(some 90), none, [3], none, .q (.fad 0 (.t 3))⟩,
    ⟨(some 91), none, [90], none, .q (.ld false 1 (.t 90))⟩,
    ⟨(some 92), none, [9], none, .q (.mv (.t 9))⟩,
    ⟨(some 93), none, [91, 92], none, .q (.iad 4 (.t 91) (.t 92))⟩,
    ⟨(some 94), none, [93], none, .q (.fad 2 (.t 93))⟩,
    ⟨(some 95), none, [94], none, .q (.ld false 1 (.t 94))⟩,
    ⟨(some 10), none, [95], none, .q (.mv (.t 95))⟩])
  (.keep [1, 3, 5, 7, 9, 10] (.seq (.reg false [⟨(some 11), none, [], none, .q (.mv (.k (.i 0)))⟩])
  (.keep [1, 3, 5, 7, 9, 10, 11] (.block 4 (.loop [1, 3, 5, 7, 9, 10, 11] none (.seq (.seq (.reg false [⟨(some 96), none, [11], none, .q (.mv (.t 11))⟩,
    ⟨(some 97), none, [10], none, .q (.mv (.t 10))⟩,
    ⟨(some 98), none, [97], none, .q (.len (.t 97))⟩,
    ⟨(some 99), none, [96, 98], none, .q (.bin .lss (.t 96) (.t 98))⟩])
  (.keep [1, 3, 5, 7, 9, 10, 11, 99] (.cond (.t 99)
    .skip
    (.exit 4))))
  (.keep [1, 3, 5, 7, 9, 10, 11] (.seq (.block 5 (.any false 0 [⟨⟨(some 102), none, [7], none, .q (.fad 0 (.t 7))⟩, [], []⟩,
    ⟨⟨(some 103), none, [102], none, .q (.ld false 1 (.t 102))⟩, [], [0]⟩,
    ⟨⟨(some 104), none, [9], none, .q (.mv (.t 9))⟩, [], []⟩,
    ⟨⟨(some 105), none, [103, 104], none, .q (.iad 4 (.t 103) (.t 104))⟩, [], [1, 0, 2]⟩,
    ⟨⟨(some 106), none, [105], none, .q (.fad 2 (.t 105))⟩, [], [3, 1, 0, 2]⟩,
    ⟨⟨(some 107), none, [106], none, .q (.ld false 1 (.t 106))⟩, [], [4, 3, 1, 0, 2]⟩,
    ⟨⟨(some 108), none, [11], none, .q (.mv (.t 11))⟩, [], []⟩,
    ⟨⟨(some 109), none, [10], none, .q (.mv (.t 10))⟩, [], []⟩,
    ⟨⟨(some 110), none, [10], none, .q (.mv (.t 10))⟩, [], []⟩,
    ⟨⟨(some 111), none, [110], none, .q (.len (.t 110))⟩, [], [8]⟩,
    ⟨⟨(some 112), none, [111], none, .q (.bin .sub (.t 111) (.k (.i 1)))⟩, [], [9, 8]⟩,
    ⟨⟨(some 113), none, [11], none, .q (.mv (.t 11))⟩, [], []⟩,
    ⟨⟨(some 114), none, [1], none, .q (.mv (.t 1))⟩, [], []⟩,
    ⟨⟨(some 115), none, [113, 114], none, .q (.bin .add (.t 113) (.t 114))⟩, [], [11, 12]⟩,
    ⟨⟨(some 116), none, [10], none, .q (.mv (.t 10))⟩, [], []⟩,
    ⟨⟨(some 117), none, [116], none, .q (.len (.t 116))⟩, [], [14]⟩,
    ⟨⟨(some 118), none, [115, 117], none, .q (.bin .rem (.t 115) (.t 117))⟩, [], [13, 11, 12, 15, 14]⟩,
    ⟨⟨(some 119), none, [112, 118], none, .q (.bin .sub (.t 112) (.t 118))⟩, [], [10, 9, 8, 16, 13, 11, 12, 15, 14]⟩,
    ⟨⟨(some 120), none, [109, 119], none, .q (.iad 3 (.t 109) (.t 119))⟩, [], [7, 17, 10, 9, 8, 16, 13, 11, 12, 15, 14]⟩,
    ⟨⟨(some 121), none, [120], none, .q (.ld true 3 (.t 120))⟩, [], [18, 7, 17, 10, 9, 8, 16, 13, 11, 12, 15, 14]⟩,
    ⟨⟨(some 122), none, [107, 108], none, .q (.iad 3 (.t 107) (.t 108))⟩, [], [5, 4, 3, 1, 0, 2, 6, 7, 8, 9, 10, 11, 12, 13, 14, 15, 16, 17, 18, 19]⟩,
    ⟨⟨none, none, [122, 121], none, .w (.st 3 (.t 122) (.t 121))⟩, [], [20, 5, 4, 3, 1, 0, 2, 6, 7, 8, 9, 10, 11, 12, 13, 14, 15, 16, 17, 18, 19]⟩]))
  (.keep [1, 3, 5, 7, 9, 10, 11] (.reg false [⟨(some 100), none, [11], none, .q (.mv (.t 11))⟩,
    ⟨(some 101), none, [100], none, .q (.bin .add (.t 100) (.k (.i 1)))⟩,
    ⟨(some 11), none, [101], none, .q (.mv (.t 101))⟩]))))))))))))
  (.keep [1, 3, 5, 7, 9] (.reg false [⟨(some 88), none, [9], none, .q (.mv (.t 9))⟩,
    ⟨(some 89), none, [88], none, .q (.bin .add (.t 88) (.k (.i 1)))⟩,
    ⟨(some 9), none, [89], none, .q (.mv (.t 89))⟩])))))))))
  (.keep [3, 5, 7] (.seq (.reg false [⟨(some 124), none, [3], none, .q (.ld true 6 (.t 3))⟩,
    ⟨(some 125), none, [5], none, .q (.fad 0 (.t 5))⟩,
    ⟨(some 126), none, [125], none, .q (.ld false 1 (.t 125))⟩,
    ⟨(some 127), none, [124, 126], none, .q (.call (.k (.fn 36 [])) [(.t 124), (.t 126)])⟩,
    ⟨(some 123), none, [127], none, .q (.mv (.t 127))⟩,
    ⟨(some 128), none, [123], none, .q (.ext (.t 123) 0)⟩,
    ⟨(some 129), none, [123], none, .q (.ext (.t 123) 1)⟩,
    ⟨(some 12), none, [128], none, .q (.mv (.t 128))⟩,
    ⟨(some 13), none, [129], none, .q (.mv (.t 129))⟩])
  (.keep [3, 5, 7, 12, 13] (.seq (.reg false [⟨(some 131), none, [7], none, .q (.ld true 6 (.t 7))⟩,
    ⟨(some 132), none, [5], none, .q (.fad 0 (.t 5))⟩,
    ⟨(some 133), none, [132], none, .q (.ld false 1 (.t 132))⟩,
    ⟨(some 134), none, [131, 133], none, .q (.call (.k (.fn 36 [])) [(.t 131), (.t 133)])⟩,
    ⟨(some 130), none, [134], none, .q (.mv (.t 134))⟩,
    ⟨(some 135), none, [130], none, .q (.ext (.t 130) 0)⟩,
    ⟨(some 136), none, [130], none, .q (.ext (.t 130) 1)⟩,
    ⟨(some 14), none, [135], none, .q (.mv (.t 135))⟩,
    ⟨(some 15), none, [136], none, .q (.mv (.t 136))⟩])
  (.keep [3, 5, 7, 12, 13, 14, 15] (.seq (.reg false [⟨(some 138), none, [3], none, .q (.ld true 6 (.t 3))⟩,
    ⟨(some 139), none, [5], none, .q (.fad 1 (.t 5))⟩,
    ⟨(some 140), none, [139], none, .q (.ld false 1 (.t 139))⟩,
    ⟨(some 141), none, [138, 140], none, .q (.call (.k (.fn 23 [])) [(.t 138), (.t 140)])⟩,
    ⟨(some 137), none, [141], none, .q (.mv (.t 141))⟩,
    ⟨(some 142), none, [137], none, .q (.ext (.t 137) 0)⟩,
    ⟨(some 143), none, [137], none, .q (.ext (.t 137) 1)⟩,
    ⟨(some 16), none, [], none, .w (.alc [(.i 0), (.i 0)])⟩,
    ⟨none, none, [16, 142], none, .w (.st 2 (.t 16) (.t 142))⟩,
    ⟨(some 17), none, [143], none, .q (.mv (.t 143))⟩])
  (.keep [3, 5, 7, 12, 13, 14, 15, 16, 17] (.seq (.reg false [⟨(some 145), none, [7], none, .q (.ld true 6 (.t 7))⟩,
    ⟨(some 146), none, [5], none, .q (.fad 1 (.t 5))⟩,
    ⟨(some 147), none, [146], none, .q (.ld false 1 (.t 146))⟩,
    ⟨(some 148), none, [145, 147], none, .q (.call (.k (.fn 23 [])) [(.t 145), (.t 147)])⟩,
    ⟨(some 144), none, [148], none, .q (.mv (.t 148))⟩,
    ⟨(some 149), none, [144], none, .q (.ext (.t 144) 0)⟩,
    ⟨(some 150), none, [144], none, .q (.ext (.t 144) 1)⟩,
    ⟨(some 18), none, [], none, .w (.alc [(.i 0), (.i 0)])⟩,
    ⟨none, none, [18, 149], none, .w (.st 2 (.t 18) (.t 149))⟩,
    ⟨(some 19), none, [150], none, .q (.mv (.t 150))⟩])
  (.keep [3, 5, 7, 12, 13, 14, 15, 16, 17, 18, 19] (.seq (.reg false [⟨(some 152), none, [3], none, .q (.ld true 6 (.t 3))⟩,
    ⟨(some 153), none, [5], none, .q (.fad 1 (.t 5))⟩,
    ⟨(some 154), none, [153], none, .q (.ld false 1 (.t 153))⟩,
    ⟨(some 155), none, [152, 154], none, .q (.call (.k (.fn 17 [])) [(.t 152), (.t 154)])⟩,
    ⟨(some 151), none, [155], none, .q (.mv (.t 155))⟩,
    ⟨(some 156), none, [151], none, .q (.ext (.t 151) 0)⟩,
    ⟨(some 157), none, [151], none, .q (.ext (.t 151) 1)⟩,
    ⟨(some 20), none, [156], none, .q (.mv (.t 156))⟩,
    ⟨(some 21), none, [157], none, .q (.mv (.t 157))⟩])
  (.keep [3, 5, 7, 12, 13, 14, 15, 16, 17, 18, 19, 20, 21] (.seq (.reg false [⟨(some 159), none, [7], none, .q (.ld true 6 (.t 7))⟩,
    ⟨(some 160), none, [5], none, .q (.fad 1 (.t 5))⟩,
    ⟨(some 161), none, [160], none, .q (.ld false 1 (.t 160))⟩,
    ⟨(some 162), none, [159, 161], none, .q (.call (.k (.fn 17 [])) [(.t 159), (.t 161)])⟩,
    ⟨(some 158), none, [162], none, .q (.mv (.t 162))⟩,
    ⟨(some 163), none, [158], none, .q (.ext (.t 158) 0)⟩,
    ⟨(some 164), none, [158], none, .q (.ext (.t 158) 1)⟩,
    ⟨(some 22), none, [163], none, .q (.mv (.t 163))⟩,
    ⟨(some 23), none, [164], none, .q (.mv (.t 164))⟩])
  (.keep [3, 5, 7, 12, 13, 14, 15, 16, 17, 18, 19, 20, 21, 22, 23] (.seq (.reg false [⟨(some 166), none, [3], none, .q (.ld true 6 (.t 3))⟩,
    ⟨(some 167), none, [5], none, .q (.fad 1 (.t 5))⟩,
    ⟨(some 168), none, [167], none, .q (.ld false 1 (.t 167))⟩,
    ⟨(some 169), none, [166, 168], none, .q (.call (.k (.fn 19 [])) [(.t 166), (.t 168)])⟩,
    ⟨(some 165), none, [169], none, .q (.mv (.t 169))⟩,
    ⟨(some 170), none, [165], none, .q (.ext (.t 165) 0)⟩,
    ⟨(some 171), none, [165], none, .q (.ext (.t 165) 1)⟩,
    ⟨(some 24), none, [], none, .w (.alc [(.i 0), (.i 0)])⟩,
    ⟨none, none, [24, 170], none, .w (.st 2 (.t 24) (.t 170))⟩,
    ⟨(some 25), none, [171], none, .q (.mv (.t 171))⟩])
  (.keep [3, 5, 7, 12, 13, 14, 15, 16, 17, 18, 19, 20, 21, 22, 23, 24, 25] (.seq (.reg false [⟨(some 173), none, [7], none, .q (.ld true 6 (.t 7))⟩,
    ⟨(some 174), none, [5], none, .q (.fad 1 (.t 5))⟩,
    ⟨(some 175), none, [174], none, .q (.ld false 1 (.t 174))⟩,
    ⟨(some 176), none, [173, 175], none, .q (.call (.k (.fn 19 [])) [(.t 173), (.t 175)])⟩,
    ⟨(some 172), none, [176], none, .q (.mv (.t 176))⟩,
    ⟨(some 177), none, [172], none, .q (.ext (.t 172) 0)⟩,
    ⟨(some 178), none, [172], none, .q (.ext (.t 172) 1)⟩,
    ⟨(some 26), none, [], none, .w (.alc [(.i 0), (.i 0)])⟩,
    ⟨none, none, [26, 177], none, .w (.st 2 (.t 26) (.t 177))⟩,
    ⟨(some 27), none, [178], none, .q (.mv (.t 178))⟩])
  (.keep [3, 7, 12, 13, 14, 15, 16, 17, 18, 19, 20, 21, 22, 23, 24, 25, 26, 27] (.seq (.reg false [⟨(some 180), none, [3], none, .q (.ld true 6 (.t 3))⟩,
    ⟨(some 181), none, [180], none, .q (.call (.k (.fn 31 [])) [(.t 180)])⟩,
    ⟨(some 179), none, [181], none, .q (.mv (.t 181))⟩,
    ⟨(some 182), none, [179], none, .q (.ext (.t 179) 0)⟩,
    ⟨(some 183), none, [179], none, .q (.ext (.t 179) 1)⟩,
    ⟨(some 28), none, [182], none, .q (.mv (.t 182))⟩,
    ⟨(some 29), none, [183], none, .q (.mv (.t 183))⟩])
  (.keep [7, 12, 13, 14, 15, 16, 17, 18, 19, 20, 21, 22, 23, 24, 25, 26, 27, 28, 29] (.seq (.reg false [⟨(some 185), none, [7], none, .q (.ld true 6 (.t 7))⟩,
    ⟨(some 186), none, [185], none, .q (.call (.k (.fn 31 [])) [(.t 185)])⟩,
    ⟨(some 184), none, [186], none, .q (.mv (.t 186))⟩,
    ⟨(some 187), none, [184], none, .q (.ext (.t 184) 0)⟩,
    ⟨(some 188), none, [184], none, .q (.ext (.t 184) 1)⟩,
    ⟨(some 30), none, [187], none, .q (.mv (.t 187))⟩,
    ⟨(some 31), none, [188], none, .q (.mv (.t 188))⟩])
  (.keep [12, 13, 14, 15, 16, 17, 18, 19, 20, 21, 22, 23, 24, 25, 26, 27, 28, 29, 30, 31] (.seq (.reg true [⟨(some 189), none, [12], none, .q (.mv (.t 12))⟩,
    ⟨(some 190), none, [14], none, .q (.mv (.t 14))⟩,
    ⟨(some 191), none, [189, 190], none, .q (.call (.k (.fn 28 [])) [(.t 189), (.t 190)])⟩,
    ⟨(some 192), none, [191], none, .q (.mv (.t 191))⟩,
    ⟨(some 193), (some (192, true)), [13], none, .q (.mv (.t 13))⟩,
    ⟨(some 194), (some (192, true)), [15], none, .q (.mv (.t 15))⟩,
    ⟨(some 195), (some (192, true)), [193, 194], none, .q (.bin .eql (.t 193) (.t 194))⟩,
    ⟨(some 196), none, [192, 195], none, .q (.pick (.t 192) (.t 195) (.k (.b false)))⟩,
    ⟨(some 197), none, [196], none, .q (.mv (.t 196))⟩,
    ⟨(some 198), (some (197, true)), [16], none, .q (.ld true 2 (.t 16))⟩,
    ⟨(some 199), (some (197, true)), [18], none, .q (.ld true 2 (.t 18))⟩,
    ⟨(some 200), (some (197, true)), [198, 199], none, .q (.eqs false 34 (.t 198) (.t 199))⟩,
    ⟨(some 201), none, [197, 200], none, .q (.pick (.t 197) (.t 200) (.k (.b false)))⟩,
    ⟨(some 202), none, [201], none, .q (.mv (.t 201))⟩,
    ⟨(some 203), (some (202, true)), [17], none, .q (.mv (.t 17))⟩,
    ⟨(some 204), (some (202, true)), [19], none, .q (.mv (.t 19))⟩,
    ⟨(some 205), (some (202, true)), [203, 204], none, .q (.bin .eql (.t 203) (.t 204))⟩,
    ⟨(some 206), none, [202, 205], none, .q (.pick (.t 202) (.t 205) (.k (.b false)))⟩,
    ⟨(some 207), none, [206], none, .q (.mv (.t 206))⟩,
    ⟨(some 208), (some (207, true)), [20], none, .q (.mv (.t 20))⟩,
    ⟨(some 209), (some (207, true)), [22], none, .q (.mv (.t 22))⟩,
    ⟨(some 210), (some (207, true)), [208, 209], none, .q (.bin .eql (.t 208) (.t 209))⟩,
    ⟨(some 211), none, [207, 210], none, .q (.pick (.t 207) (.t 210) (.k (.b false)))⟩,
    ⟨(some 212), none, [211], none, .q (.mv (.t 211))⟩,
    ⟨(some 213), (some (212, true)), [21], none, .q (.mv (.t 21))⟩,
    ⟨(some 214), (some (212, true)), [23], none, .q (.mv (.t 23))⟩,
    ⟨(some 215), (some (212, true)), [213, 214], none, .q (.bin .eql (.t 213) (.t 214))⟩,
    ⟨(some 216), none, [212, 215], none, .q (.pick (.t 212) (.t 215) (.k (.b false)))⟩,
    ⟨(some 217), none, [216], none, .q (.mv (.t 216))⟩,
    ⟨(some 218), (some (217, true)), [24], none, .q (.ld true 2 (.t 24))⟩,
    ⟨(some 219), (some (217, true)), [26], none, .q (.ld true 2 (.t 26))⟩,
    ⟨(some 220), (some (217, true)), [218, 219], none, .q (.eqs false 34 (.t 218) (.t 219))⟩,
    ⟨(some 221), none, [217, 220], none, .q (.pick (.t 217) (.t 220) (.k (.b false)))⟩,
    ⟨(some 222), none, [221], none, .q (.mv (.t 221))⟩,
    ⟨(some 223), (some (222, true)), [25], none, .q (.mv (.t 25))⟩,
    ⟨(some 224), (some (222, true)), [27], none, .q (.mv (.t 27))⟩,
    ⟨(some 225), (some (222, true)), [223, 224], none, .q (.bin .eql (.t 223) (.t 224))⟩,
    ⟨(some 226), none, [222, 225], none, .q (.pick (.t 222) (.t 225) (.k (.b false)))⟩,
    ⟨(some 227), none, [226], none, .q (.mv (.t 226))⟩,
    ⟨(some 228), (some (227, true)), [28], none, .q (.mv (.t 28))⟩,
    ⟨(some 229), (some (227, true)), [30], none, .q (.mv (.t 30))⟩,
    ⟨(some 230), (some (227, true)), [228, 229], none, .q (.bin .eql (.t 228) (.t 229))⟩,
    ⟨(some 231), none, [227, 230], none, .q (.pick (.t 227) (.t 230) (.k (.b false)))⟩,
    ⟨(some 232), none, [231], none, .q (.mv (.t 231))⟩,
    ⟨(some 233), (some (232, true)), [29], none, .q (.mv (.t 29))⟩,
    ⟨(some 234), (some (232, true)), [31], none, .q (.mv (.t 31))⟩,
    ⟨(some 235), (some (232, true)), [233, 234], none, .q (.bin .eql (.t 233) (.t 234))⟩,
    ⟨(some 236), none, [232, 235], none, .q (.pick (.t 232) (.t 235) (.k (.b false)))⟩,
    ⟨(some 237), none, [236], none, .q (.mv (.t 236))⟩,
    ⟨(some 238), (some (237, true)), [], none, .q (.call (.k (.fn 16 [])) [])⟩,
    ⟨(some 239), none, [237, 238], none, .q (.pick (.t 237) (.t 238) (.k (.b false)))⟩,
    ⟨(some 6), none, [239], none, .q (.mv (.t 239))⟩])
  .ret)))))))))))))))))))))))))))))))
def pu11 : List Nat := [3, 5]
def rs11 : List RV := [.t 6]
theorem cc11 : comp Try.prog pu11 (Try.f11.ntmps, 0) 0 1 rc11 (Try.f11.body.getD .skip) = some rc11 := by kernel_rfl
theorem cb11 : Try.f11.body = some (Try.f11.body.getD .skip) := by kernel_rfl
theorem cs11 : resRV Try.prog Try.f11.results.toList = some rs11 := by kernel_rfl
theorem cn11 : 3 ≤ Try.f11.ntmps := by decide
/- ferrule/ferrulelaw02.ClothBest: params [26, 23, 3], free 0, slots 165 -/
def rc12 : RC :=
  (.seq (.reg false [⟨(some 3), none, [0], none, .q (.box (.t 0))⟩,
    ⟨(some 6), none, [], none, .q (.mv (.k (.b false)))⟩])
  (.keep [1, 2, 3] (.seq (.seq (.reg true [⟨(some 20), none, [3], none, .q (.ld true 6 (.t 3))⟩,
    ⟨(some 21), none, [20], none, .q (.call (.k (.fn 15 [])) [(.t 20), (.k (.i 0))])⟩,
    ⟨(some 22), none, [21], none, .q (.not (.t 21))⟩,
    ⟨(some 23), none, [22], none, .q (.mv (.t 22))⟩,
    ⟨(some 24), (some (23, false)), [1], none, .q (.mv (.t 1))⟩,
    ⟨(some 25), (some (23, false)), [24], none, .q (.len (.t 24))⟩,
    ⟨(some 26), (some (23, false)), [25], none, .q (.bin .gtr (.t 25) (.k (.i 40)))⟩,
    ⟨(some 27), none, [23, 26], none, .q (.pick (.t 23) (.k (.b true)) (.t 26))⟩,
    ⟨(some 28), none, [27], none, .q (.mv (.t 27))⟩,
    ⟨(some 29), (some (28, false)), [2], none, .q (.mv (.t 2))⟩,
    ⟨(some 30), (some (28, false)), [29], none, .q (.bin .lss (.t 29) (.k (.i 0)))⟩,
    ⟨(some 31), none, [28, 30], none, .q (.pick (.t 28) (.k (.b true)) (.t 30))⟩,
    ⟨(some 32), none, [31], none, .q (.mv (.t 31))⟩,
    ⟨(some 33), (some (32, false)), [2], none, .q (.mv (.t 2))⟩,
    ⟨(some 34), (some (32, false)), [3], none, .q (.fad 5 (.t 3))⟩,
    ⟨(some 35), (some (32, false)), [34], none, .q (.ld false 1 (.t 34))⟩,
    ⟨(some 36), (some (32, false)), [35], none, .q (.bin .sub (.k (.i 500)) (.t 35))⟩,
    ⟨(some 37), (some (32, false)), [33, 36], none, .q (.bin .gtr (.t 33) (.t 36))⟩,
    ⟨(some 38), none, [32, 37], none, .q (.pick (.t 32) (.k (.b true)) (.t 37))⟩])
  (.keep [1, 2, 3, 38] (.cond (.t 38)
    (.seq (.reg false [⟨(some 39), none, [], none, .q (.call (.k (.fn 16 [])) [])⟩,
      ⟨(some 6), none, [39], none, .q (.mv (.t 39))⟩])
    .ret)
    .skip)))
  (.keep [1, 2, 3] (.seq (.reg false [⟨(some 41), none, [3], none, .q (.ld true 6 (.t 3))⟩,
    ⟨(some 42), none, [41], none, .q (.call (.k (.fn 31 [])) [(.t 41)])⟩,
    ⟨(some 40), none, [42], none, .q (.mv (.t 42))⟩,
    ⟨(some 43), none, [40], none, .q (.ext (.t 40) 0)⟩,
    ⟨(some 44), none, [40], none, .q (.ext (.t 40) 1)⟩,
    ⟨(some 7), none, [43], none, .q (.mv (.t 43))⟩,
    ⟨(some 8), none, [44], none, .q (.mv (.t 44))⟩])
  (.keep [1, 2, 3, 7, 8] (.seq (.seq (.reg true [⟨(some 45), none, [8], none, .q (.mv (.t 8))⟩,
    ⟨(some 46), none, [45], none, .q (.bin .neq (.t 45) (.k (.i 0)))⟩,
    ⟨(some 47), none, [46], none, .q (.mv (.t 46))⟩,
    ⟨(some 48), (some (47, true)), [8], none, .q (.mv (.t 8))⟩,
    ⟨(some 49), (some (47, true)), [48], none, .q (.bin .neq (.t 48) (.k (.i 3)))⟩,
    ⟨(some 50), none, [47, 49], none, .q (.pick (.t 47) (.t 49) (.k (.b false)))⟩])
  (.keep [1, 2, 3, 7, 8, 50] (.cond (.t 50)
    (.seq (.reg false [⟨(some 6), none, [], none, .q (.mv (.k (.b false)))⟩])
    .ret)
    .skip)))
  (.keep [1, 2, 3, 7, 8] (.seq (.reg false [⟨(some 52), none, [3], none, .q (.ld true 6 (.t 3))⟩,
    ⟨(some 53), none, [52], none, .q (.call (.k (.fn 36 [])) [(.t 52), (.k (.i 0))])⟩,
    ⟨(some 51), none, [53], none, .q (.mv (.t 53))⟩,
    ⟨(some 54), none, [51], none, .q (.ext (.t 51) 0)⟩,
    ⟨(some 55), none, [51], none, .q (.ext (.t 51) 1)⟩,
    ⟨(some 9), none, [54], none, .q (.mv (.t 54))⟩,
    ⟨(some 10), none, [55], none, .q (.mv (.t 55))⟩])
  (.keep [1, 2, 3, 7, 8, 9, 10] (.seq (.seq (.reg true [⟨(some 56), none, [10], none, .q (.mv (.t 10))⟩,
    ⟨(some 57), none, [56], none, .q (.bin .eql (.t 56) (.k (.i 0)))⟩,
    ⟨(some 58), none, [57], none, .q (.mv (.t 57))⟩,
    ⟨(some 59), (some (58, true)), [9], none, .q (.mv (.t 9))⟩,
    ⟨(some 60), (some (58, true)), [59], none, .q (.len (.t 59))⟩,
    ⟨(some 61), (some (58, true)), [60], none, .q (.bin .gtr (.t 60) (.k (.i 0)))⟩,
    ⟨(some 62), none, [58, 61], none, .q (.pick (.t 58) (.t 61) (.k (.b false)))⟩,
    ⟨(some 63), none, [62], none, .q (.mv (.t 62))⟩,
    ⟨(some 64), (some (63, true)), [3], none, .q (.ld true 6 (.t 3))⟩,
    ⟨(some 65), (some (63, true)), [1], none, .q (.mv (.t 1))⟩,
    ⟨(some 66), (some (63, true)), [64, 65], none, .q (.call (.k (.fn 34 [])) [(.t 64), (.t 65)])⟩,
    ⟨(some 67), none, [63, 66], none, .q (.pick (.t 63) (.t 66) (.k (.b false)))⟩])
  (.keep [1, 2, 3, 7, 8, 67] (.cond (.t 67)
    (.seq (.reg false [⟨(some 11), none, [], none, .q (.mv (.k (.i 0)))⟩])
    (.keep [1, 2, 3, 7, 8, 11] (.seq (.seq (.reg false [⟨(some 12), none, [], none, .q (.mv (.k (.i 0)))⟩])
    (.keep [1, 2, 3, 7, 8, 11, 12] (.block 0 (.loop [1, 2, 3, 7, 8, 11, 12] none (.seq (.seq (.reg false [⟨(some 68), none, [12], none, .q (.mv (.t 12))⟩,
      ⟨(some 69), none, [1], none, .q (.mv (.t 1))⟩,
      ⟨(some 70), none, [69], none, .q (.len (.t 69))⟩,
      ⟨(some 71), none, [68, 70], none, .q (.bin .lss (.t 68) (.t 70))⟩])
    (.keep [1, 2, 3, 7, 8, 11, 12, 71] (.cond (.t 71)
      .skip
      (.exit 0))))
    (.keep [1, 2, 3, 7, 8, 11, 12] (.seq (.block 1 (.reg false [⟨(some 74), none, [11], none, .q (.mv (.t 11))⟩,
      ⟨(some 75), none, [1], none, .q (.mv (.t 1))⟩,
      ⟨(some 76), none, [12], none, .q (.mv (.t 12))⟩,
      ⟨(some 77), none, [75, 76], none, .q (.iad 1 (.t 75) (.t 76))⟩,
      ⟨(some 78), none, [77], none, .q (.ld false 1 (.t 77))⟩,
      ⟨(some 79), none, [74, 78], none, .q (.bin .add (.t 74) (.t 78))⟩,
      ⟨(some 11), none, [79], none, .q (.mv (.t 79))⟩]))
    (.keep [1, 2, 3, 7, 8, 11, 12] (.reg false [⟨(some 72), none, [12], none, .q (.mv (.t 12))⟩,
      ⟨(some 73), none, [72], none, .q (.bin .add (.t 72) (.k (.i 1)))⟩,
      ⟨(some 12), none, [73], none, .q (.mv (.t 73))⟩])))))))))
    (.keep [2, 3, 7, 8, 11] (.seq (.reg true [⟨(some 80), none, [8], none, .q (.mv (.t 8))⟩,
      ⟨(some 81), none, [80], none, .q (.bin .neq (.t 80) (.k (.i 0)))⟩,
      ⟨(some 82), none, [81], none, .q (.mv (.t 81))⟩,
      ⟨(some 83), (some (82, false)), [11], none, .q (.mv (.t 11))⟩,
      ⟨(some 84), (some (82, false)), [7], none, .q (.mv (.t 7))⟩,
      ⟨(some 85), (some (82, false)), [83, 84], none, .q (.bin .lss (.t 83) (.t 84))⟩,
      ⟨(some 86), none, [82, 85], none, .q (.pick (.t 82) (.k (.b true)) (.t 85))⟩])
    (.keep [2, 3, 7, 8, 86] (.cond (.t 86)
      (.seq (.reg false [⟨(some 6), none, [], none, .q (.mv (.k (.b false)))⟩])
      .ret)
      .skip)))))))
    .skip)))
  (.keep [2, 3, 7, 8] (.seq (.any false 2 [⟨⟨(some 87), none, [3], none, .q (.ld true 6 (.t 3))⟩, [], []⟩,
    ⟨⟨(some 88), none, [87], none, .q (.call (.k (.fn 22 [])) [(.t 87)])⟩, [], [0]⟩,
    ⟨⟨(some 89), none, [3], none, .q (.ld true 6 (.t 3))⟩, [], []⟩,
    ⟨⟨(some 90), none, [89], none, .q (.call (.k (.fn 22 [])) [(.t 89)])⟩, [], [2, 1, 0]⟩,
    ⟨⟨(some 13), none, [], (some 0), .w (.alc [(.z 4), (.z 1), (.i 0), (.z 2), (.z 1), (.i 0)])⟩, [0, 1, 2, 3], []⟩,
    ⟨⟨(some 14), none, [], (some 1), .w (.alc [(.z 4), (.z 1), (.i 0), (.z 2), (.z 1), (.i 0)])⟩, [0, 1, 2, 3, 4], []⟩,
    ⟨⟨none, none, [13, 88], none, .w (.st 6 (.t 13) (.t 88))⟩, [], [4, 1, 0, 3, 2, 5]⟩,
    ⟨⟨none, none, [14, 90], none, .w (.st 6 (.t 14) (.t 90))⟩, [], [5, 3, 2, 1, 0, 6, 4]⟩])
  (.keep [2, 3, 7, 8, 13, 14] (.seq (.reg false [⟨(some 91), none, [13], none, .q (.fad 5 (.t 13))⟩,
    ⟨(some 92), none, [91], none, .q (.ld false 1 (.t 91))⟩,
    ⟨(some 93), none, [2], none, .q (.mv (.t 2))⟩,
    ⟨(some 94), none, [92, 93], none, .q (.bin .add (.t 92) (.t 93))⟩,
    ⟨(some 95), none, [13], none, .q (.fad 5 (.t 13))⟩,
    ⟨none, none, [95, 94], none, .w (.st 1 (.t 95) (.t 94))⟩])
  (.keep [3, 7, 8, 13, 14] (.seq (.seq (.reg false [⟨(some 15), none, [], none, .q (.mv (.k (.i 0)))⟩])
  (.keep [3, 7, 8, 13, 14, 15] (.block 2 (.loop [3, 7, 8, 13, 14, 15] none (.seq (.seq (.reg false [⟨(some 96), none, [15], none, .q (.mv (.t 15))⟩,
    ⟨(some 97), none, [3], none, .q (.fad 3 (.t 3))⟩,
    ⟨(some 98), none, [97], none, .q (.ld false 1 (.t 97))⟩,
    ⟨(some 99), none, [98], none, .q (.len (.t 98))⟩,
    ⟨(some 100), none, [96, 99], none, .q (.bin .lss (.t 96) (.t 99))⟩])
  (.keep [3, 7, 8, 13, 14, 15, 100] (.cond (.t 100)
    .skip
    (.exit 2))))
  (.keep [3, 7, 8, 13, 14, 15] (.seq (.block 3 (.any false 0 [⟨⟨(some 103), none, [14], none, .q (.fad 3 (.t 14))⟩, [], []⟩,
    ⟨⟨(some 104), none, [103], none, .q (.ld false 1 (.t 103))⟩, [], [0]⟩,
    ⟨⟨(some 105), none, [15], none, .q (.mv (.t 15))⟩, [], []⟩,
    ⟨⟨(some 106), none, [14], none, .q (.fad 4 (.t 14))⟩, [], []⟩,
    ⟨⟨(some 107), none, [106], none, .q (.ld false 1 (.t 106))⟩, [], [3]⟩,
    ⟨⟨(some 108), none, [15], none, .q (.mv (.t 15))⟩, [], []⟩,
    ⟨⟨(some 109), none, [3], none, .q (.fad 3 (.t 3))⟩, [], []⟩,
    ⟨⟨(some 110), none, [109], none, .q (.ld false 1 (.t 109))⟩, [], [6]⟩,
    ⟨⟨(some 111), none, [3], none, .q (.fad 3 (.t 3))⟩, [], []⟩,
    ⟨⟨(some 112), none, [111], none, .q (.ld false 1 (.t 111))⟩, [], [8]⟩,
    ⟨⟨(some 113), none, [112], none, .q (.len (.t 112))⟩, [], [9, 8]⟩,
    ⟨⟨(some 114), none, [113], none, .q (.bin .sub (.t 113) (.k (.i 1)))⟩, [], [10, 9, 8]⟩,
    ⟨⟨(some 115), none, [15], none, .q (.mv (.t 15))⟩, [], []⟩,
    ⟨⟨(some 116), none, [114, 115], none, .q (.bin .sub (.t 114) (.t 115))⟩, [], [11, 10, 9, 8, 12]⟩,
    ⟨⟨(some 117), none, [110, 116], none, .q (.iad 2 (.t 110) (.t 116))⟩, [], [7, 6, 13, 11, 10, 9, 8, 12]⟩,
    ⟨⟨(some 118), none, [117], none, .q (.ld true 2 (.t 117))⟩, [], [14, 7, 6, 13, 11, 10, 9, 8, 12]⟩,
    ⟨⟨(some 119), none, [3], none, .q (.fad 4 (.t 3))⟩, [], []⟩,
    ⟨⟨(some 120), none, [119], none, .q (.ld false 1 (.t 119))⟩, [], [16]⟩,
    ⟨⟨(some 121), none, [3], none, .q (.fad 3 (.t 3))⟩, [], []⟩,
    ⟨⟨(some 122), none, [121], none, .q (.ld false 1 (.t 121))⟩, [], [18]⟩,
    ⟨⟨(some 123), none, [122], none, .q (.len (.t 122))⟩, [], [19, 18]⟩,
    ⟨⟨(some 124), none, [123], none, .q (.bin .sub (.t 123) (.k (.i 1)))⟩, [], [20, 19, 18]⟩,
    ⟨⟨(some 125), none, [15], none, .q (.mv (.t 15))⟩, [], []⟩,
    ⟨⟨(some 126), none, [124, 125], none, .q (.bin .sub (.t 124) (.t 125))⟩, [], [21, 20, 19, 18, 22]⟩,
    ⟨⟨(some 127), none, [120, 126], none, .q (.iad 1 (.t 120) (.t 126))⟩, [], [17, 16, 23, 21, 20, 19, 18, 22]⟩,
    ⟨⟨(some 128), none, [127], none, .q (.ld false 1 (.t 127))⟩, [], [24, 17, 16, 23, 21, 20, 19, 18, 22]⟩,
    ⟨⟨(some 129), none, [104, 105], none, .q (.iad 2 (.t 104) (.t 105))⟩, [], [1, 0, 2, 6, 7, 8, 9, 10, 11, 12, 13, 14, 15, 25, 24, 17, 16, 23, 21, 20, 19, 18, 22]⟩,
    ⟨⟨none, none, [129, 118], none, .w (.st 2 (.t 129) (.t 118))⟩, [3, 4, 5], [26, 1, 0, 2, 6, 7, 8, 9, 10, 11, 12, 13, 14, 15, 25, 24, 17, 16, 23, 21, 20, 19, 18, 22]⟩,
    ⟨⟨(some 130), none, [107, 108], none, .q (.iad 1 (.t 107) (.t 108))⟩, [], [4, 3, 5, 0, 1, 2, 6, 7, 8, 9, 10, 11, 12, 13, 14, 15, 16, 17, 18, 19, 20, 21, 22, 23, 24, 25, 26, 27]⟩,
    ⟨⟨none, none, [130, 128], none, .w (.st 1 (.t 130) (.t 128))⟩, [], [28, 4, 3, 5, 0, 1, 2, 6, 7, 8, 9, 10, 11, 12, 13, 14, 15, 16, 17, 18, 19, 20, 21, 22, 23, 24, 25, 26, 27]⟩]))
  (.keep [3, 7, 8, 13, 14, 15] (.reg false [⟨(some 101), none, [15], none, .q (.mv (.t 15))⟩,
    ⟨(some 102), none, [101], none, .q (.bin .add (.t 101) (.k (.i 1)))⟩,
    ⟨(some 15), none, [102], none, .q (.mv (.t 102))⟩])))))))))
  (.keep [7, 8, 13, 14] (.seq (.reg false [⟨(some 132), none, [13], none, .q (.ld true 6 (.t 13))⟩,
    ⟨(some 133), none, [132], none, .q (.call (.k (.fn 31 [])) [(.t 132)])⟩,
    ⟨(some 131), none, [133], none, .q (.mv (.t 133))⟩,
    ⟨(some 134), none, [131], none, .q (.ext (.t 131) 0)⟩,
    ⟨(some 135), none, [131], none, .q (.ext (.t 131) 1)⟩,
    ⟨(some 16), none, [134], none, .q (.mv (.t 134))⟩,
    ⟨(some 17), none, [135], none, .q (.mv (.t 135))⟩])
  (.keep [7, 8, 14, 16, 17] (.seq (.reg false [⟨(some 137), none, [14], none, .q (.ld true 6 (.t 14))⟩,
    ⟨(some 138), none, [137], none, .q (.call (.k (.fn 31 [])) [(.t 137)])⟩,
    ⟨(some 136), none, [138], none, .q (.mv (.t 138))⟩,
    ⟨(some 139), none, [136], none, .q (.ext (.t 136) 0)⟩,
    ⟨(some 140), none, [136], none, .q (.ext (.t 136) 1)⟩,
    ⟨(some 18), none, [139], none, .q (.mv (.t 139))⟩,
    ⟨(some 19), none, [140], none, .q (.mv (.t 140))⟩])
  (.keep [7, 8, 16, 17, 18, 19] (.seq (.reg true [⟨(some 141), none, [8], none, .q (.mv (.t 8))⟩,
    ⟨(some 142), none, [141], none, .q (.bin .neq (.t 141) (.k (.i 0)))⟩,
    ⟨(some 143), none, [142], none, .q (.mv (.t 142))⟩,
    ⟨(some 144), (some (143, false)), [17], none, .q (.mv (.t 17))⟩,
    ⟨(some 145), (some (143, false)), [144], none, .q (.bin .eql (.t 144) (.k (.i 0)))⟩,
    ⟨(some 146), (some (143, false)), [145], none, .q (.mv (.t 145))⟩,
    ⟨(some 147), (some (146, true)), [16], none, .q (.mv (.t 16))⟩,
    ⟨(some 148), (some (146, true)), [7], none, .q (.mv (.t 7))⟩,
    ⟨(some 149), (some (146, true)), [147, 148], none, .q (.bin .leq (.t 147) (.t 148))⟩,
    ⟨(some 150), (some (143, false)), [146, 149], none, .q (.pick (.t 146) (.t 149) (.k (.b false)))⟩,
    ⟨(some 151), none, [143, 150], none, .q (.pick (.t 143) (.k (.b true)) (.t 150))⟩,
    ⟨(some 152), none, [151], none, .q (.mv (.t 151))⟩,
    ⟨(some 153), (some (152, true)), [19], none, .q (.mv (.t 19))⟩,
    ⟨(some 154), (some (152, true)), [8], none, .q (.mv (.t 8))⟩,
    ⟨(some 155), (some (152, true)), [153, 154], none, .q (.bin .eql (.t 153) (.t 154))⟩,
    ⟨(some 156), none, [152, 155], none, .q (.pick (.t 152) (.t 155) (.k (.b false)))⟩,
    ⟨(some 157), none, [156], none, .q (.mv (.t 156))⟩,
    ⟨(some 158), (some (157, true)), [18], none, .q (.mv (.t 18))⟩,
    ⟨(some 159), (some (157, true)), [7], none, .q (.mv (.t 7))⟩,
    ⟨(some 160), (some (157, true)), [158, 159], none, .q (.bin .eql (.t 158) (.t 159))⟩,
    ⟨(some 161), none, [157, 160], none, .q (.pick (.t 157) (.t 160) (.k (.b false)))⟩,
    ⟨(some 162), none, [161], none, .q (.mv (.t 161))⟩,
    ⟨(some 163), (some (162, true)), [], none, .q (.call (.k (.fn 16 [])) [])⟩,
    ⟨(some 164), none, [162, 163], none, .q (.pick (.t 162) (.t 163) (.k (.b false)))⟩,
    ⟨(some 6), none, [164], none, .q (.mv (.t 164))⟩])
  .ret)))))))))))))))))))))))
def pu12 : List Nat := [3]
def rs12 : List RV := [.t 6]
theorem cc12 : comp Try.prog pu12 (Try.f12.ntmps, 0) 0 1 rc12 (Try.f12.body.getD .skip) = some rc12 := by kernel_rfl
theorem cb12 : Try.f12.body = some (Try.f12.body.getD .skip) := by kernel_rfl
theorem cs12 : resRV Try.prog Try.f12.results.toList = some rs12 := by kernel_rfl
theorem cn12 : 3 ≤ Try.f12.ntmps := by decide
/- ferrule/ferrulelaw02.ClothFalse: params [26, 54, 3], free 0, slots 166 -/
def rc13 : RC :=
  (.seq (.reg false [⟨(some 3), none, [0], none, .q (.box (.t 0))⟩,
    ⟨(some 4), none, [1], none, .q (.box (.t 1))⟩,
    ⟨(some 6), none, [], none, .q (.mv (.k (.b false)))⟩])
  (.keep [2, 3, 4] (.seq (.seq (.reg true [⟨(some 19), none, [3], none, .q (.ld true 6 (.t 3))⟩,
    ⟨(some 20), none, [4], none, .q (.fad 1 (.t 4))⟩,
    ⟨(some 21), none, [20], none, .q (.ld false 1 (.t 20))⟩,
    ⟨(some 22), none, [19, 21], none, .q (.call (.k (.fn 15 [])) [(.t 19), (.t 21)])⟩,
    ⟨(some 23), none, [22], none, .q (.not (.t 22))⟩,
    ⟨(some 24), none, [23], none, .q (.mv (.t 23))⟩,
    ⟨(some 25), (some (24, false)), [4], none, .q (.fad 0 (.t 4))⟩,
    ⟨(some 26), (some (24, false)), [25], none, .q (.ld false 1 (.t 25))⟩,
    ⟨(some 27), (some (24, false)), [26], none, .q (.bin .lss (.t 26) (.k (.i 0)))⟩,
    ⟨(some 28), none, [24, 27], none, .q (.pick (.t 24) (.k (.b true)) (.t 27))⟩,
    ⟨(some 29), none, [28], none, .q (.mv (.t 28))⟩,
    ⟨(some 30), (some (29, false)), [4], none, .q (.fad 0 (.t 4))⟩,
    ⟨(some 31), (some (29, false)), [30], none, .q (.ld false 1 (.t 30))⟩,
    ⟨(some 32), (some (29, false)), [3], none, .q (.fad 0 (.t 3))⟩,
    ⟨(some 33), (some (29, false)), [32], none, .q (.ld false 1 (.t 32))⟩,
    ⟨(some 34), (some (29, false)), [33], none, .q (.len (.t 33))⟩,
    ⟨(some 35), (some (29, false)), [31, 34], none, .q (.bin .geq (.t 31) (.t 34))⟩,
    ⟨(some 36), none, [29, 35], none, .q (.pick (.t 29) (.k (.b true)) (.t 35))⟩])
  (.keep [2, 3, 4, 36] (.cond (.t 36)
    (.seq (.reg false [⟨(some 37), none, [], none, .q (.call (.k (.fn 16 [])) [])⟩,
      ⟨(some 6), none, [37], none, .q (.mv (.t 37))⟩])
    .ret)
    .skip)))
  (.keep [2, 3, 4] (.seq (.reg false [⟨(some 39), none, [3], none, .q (.ld true 6 (.t 3))⟩,
    ⟨(some 40), none, [4], none, .q (.fad 1 (.t 4))⟩,
    ⟨(some 41), none, [40], none, .q (.ld false 1 (.t 40))⟩,
    ⟨(some 42), none, [39, 41], none, .q (.call (.k (.fn 23 [])) [(.t 39), (.t 41)])⟩,
    ⟨(some 38), none, [42], none, .q (.mv (.t 42))⟩,
    ⟨(some 43), none, [38], none, .q (.ext (.t 38) 0)⟩,
    ⟨(some 44), none, [38], none, .q (.ext (.t 38) 1)⟩,
    ⟨(some 7), none, [], none, .w (.alc [(.i 0), (.i 0)])⟩,
    ⟨none, none, [7, 43], none, .w (.st 2 (.t 7) (.t 43))⟩,
    ⟨(some 8), none, [44], none, .q (.mv (.t 44))⟩])
  (.keep [2, 3, 4, 8] (.seq (.reg false [⟨(some 9), none, [], none, .q (.mv (.k (.b true)))⟩])
  (.keep [2, 3, 4, 8, 9] (.seq (.seq (.reg false [⟨(some 10), none, [], none, .q (.mv (.k (.i 0)))⟩])
  (.keep [2, 3, 4, 8, 9, 10] (.block 0 (.loop [2, 3, 4, 8, 9, 10] none (.seq (.seq (.reg false [⟨(some 45), none, [10], none, .q (.mv (.t 10))⟩,
    ⟨(some 46), none, [3], none, .q (.fad 0 (.t 3))⟩,
    ⟨(some 47), none, [46], none, .q (.ld false 1 (.t 46))⟩,
    ⟨(some 48), none, [47], none, .q (.len (.t 47))⟩,
    ⟨(some 49), none, [45, 48], none, .q (.bin .lss (.t 45) (.t 48))⟩])
  (.keep [2, 3, 4, 8, 9, 10, 49] (.cond (.t 49)
    .skip
    (.exit 0))))
  (.keep [2, 3, 4, 8, 9, 10] (.seq (.block 1 (.seq (.reg false [⟨(some 53), none, [3], none, .q (.ld true 6 (.t 3))⟩,
    ⟨(some 54), none, [10], none, .q (.mv (.t 10))⟩,
    ⟨(some 55), none, [53, 54], none, .q (.call (.k (.fn 40 [])) [(.t 53), (.t 54)])⟩,
    ⟨(some 52), none, [55], none, .q (.mv (.t 55))⟩,
    ⟨(some 56), none, [52], none, .q (.ext (.t 52) 0)⟩,
    ⟨(some 57), none, [52], none, .q (.ext (.t 52) 1)⟩,
    ⟨(some 11), none, [56], none, .q (.mv (.t 56))⟩,
    ⟨(some 12), none, [57], none, .q (.mv (.t 57))⟩])
  (.keep [2, 3, 4, 8, 9, 10, 11, 12] (.seq (.seq (.reg true [⟨(some 58), none, [12], none, .q (.mv (.t 12))⟩,
    ⟨(some 59), none, [58], none, .q (.bin .neq (.t 58) (.k (.i 0)))⟩,
    ⟨(some 60), none, [59], none, .q (.mv (.t 59))⟩,
    ⟨(some 61), (some (60, false)), [11], none, .q (.mv (.t 11))⟩,
    ⟨(some 62), (some (60, false)), [61], none, .q (.bin .lss (.t 61) (.k (.i 0)))⟩,
    ⟨(some 63), none, [60, 62], none, .q (.pick (.t 60) (.k (.b true)) (.t 62))⟩,
    ⟨(some 64), none, [63], none, .q (.mv (.t 63))⟩,
    ⟨(some 65), (some (64, false)), [11], none, .q (.mv (.t 11))⟩,
    ⟨(some 66), (some (64, false)), [3], none, .q (.fad 0 (.t 3))⟩,
    ⟨(some 67), (some (64, false)), [66], none, .q (.ld false 1 (.t 66))⟩,
    ⟨(some 68), (some (64, false)), [10], none, .q (.mv (.t 10))⟩,
    ⟨(some 69), (some (64, false)), [67, 68], none, .q (.iad 4 (.t 67) (.t 68))⟩,
    ⟨(some 70), (some (64, false)), [69], none, .q (.fad 2 (.t 69))⟩,
    ⟨(some 71), (some (64, false)), [70], none, .q (.ld false 1 (.t 70))⟩,
    ⟨(some 72), (some (64, false)), [71], none, .q (.len (.t 71))⟩,
    ⟨(some 73), (some (64, false)), [65, 72], none, .q (.bin .gtr (.t 65) (.t 72))⟩,
    ⟨(some 74), none, [64, 73], none, .q (.pick (.t 64) (.k (.b true)) (.t 73))⟩])
  (.keep [2, 3, 4, 8, 9, 10, 11, 74] (.cond (.t 74)
    (.seq (.reg false [⟨(some 6), none, [], none, .q (.mv (.k (.b false)))⟩])
    .ret)
    .skip)))
  (.keep [2, 3, 4, 8, 9, 10, 11] (.reg true [⟨(some 75), none, [9], none, .q (.mv (.t 9))⟩,
    ⟨(some 76), none, [75], none, .q (.mv (.t 75))⟩,
    ⟨(some 77), (some (76, true)), [11], none, .q (.mv (.t 11))⟩,
    ⟨(some 78), (some (76, true)), [3], none, .q (.fad 0 (.t 3))⟩,
    ⟨(some 79), (some (76, true)), [78], none, .q (.ld false 1 (.t 78))⟩,
    ⟨(some 80), (some (76, true)), [10], none, .q (.mv (.t 10))⟩,
    ⟨(some 81), (some (76, true)), [79, 80], none, .q (.iad 4 (.t 79) (.t 80))⟩,
    ⟨(some 82), (some (76, true)), [81], none, .q (.fad 3 (.t 81))⟩,
    ⟨(some 83), (some (76, true)), [82], none, .q (.ld false 1 (.t 82))⟩,
    ⟨(some 84), (some (76, true)), [77, 83], none, .q (.bin .leq (.t 77) (.t 83))⟩,
    ⟨(some 85), none, [76, 84], none, .q (.pick (.t 76) (.t 84) (.k (.b false)))⟩,
    ⟨(some 9), none, [85], none, .q (.mv (.t 85))⟩]))))))
  (.keep [2, 3, 4, 8, 9, 10] (.reg false [⟨(some 50), none, [10], none, .q (.mv (.t 10))⟩,
    ⟨(some 51), none, [50], none, .q (.bin .add (.t 50) (.k (.i 1)))⟩,
    ⟨(some 10), none, [51], none, .q (.mv (.t 51))⟩])))))))))
  (.keep [2, 3, 4, 8, 9] (.seq (.seq (.reg true [⟨(some 86), none, [8], none, .q (.mv (.t 8))⟩,
    ⟨(some 87), none, [86], none, .q (.bin .neq (.t 86) (.k (.i 0)))⟩,
    ⟨(some 88), none, [87], none, .q (.mv (.t 87))⟩,
    ⟨(some 89), (some (88, true)), [8], none, .q (.mv (.t 8))⟩,
    ⟨(some 90), (some (88, true)), [89], none, .q (.bin .neq (.t 89) (.k (.i 3)))⟩,
    ⟨(some 91), none, [88, 90], none, .q (.pick (.t 88) (.t 90) (.k (.b false)))⟩,
    ⟨(some 92), none, [91], none, .q (.mv (.t 91))⟩,
    ⟨(some 93), (some (92, false)), [8], none, .q (.mv (.t 8))⟩,
    ⟨(some 94), (some (92, false)), [93], none, .q (.bin .eql (.t 93) (.k (.i 0)))⟩,
    ⟨(some 95), (some (92, false)), [9], none, .q (.mv (.t 9))⟩,
    ⟨(some 96), (some (92, false)), [94, 95], none, .q (.bq true (.t 94) (.t 95))⟩,
    ⟨(some 97), none, [92, 96], none, .q (.pick (.t 92) (.k (.b true)) (.t 96))⟩])
  (.keep [2, 3, 4, 97] (.cond (.t 97)
    (.seq (.reg false [⟨(some 6), none, [], none, .q (.mv (.k (.b false)))⟩])
    .ret)
    .skip)))
  (.keep [2, 3, 4] (.seq (.reg false [⟨(some 98), none, [3], none, .q (.fad 0 (.t 3))⟩,
    ⟨(some 99), none, [98], none, .q (.ld false 1 (.t 98))⟩,
    ⟨(some 100), none, [4], none, .q (.fad 0 (.t 4))⟩,
    ⟨(some 101), none, [100], none, .q (.ld false 1 (.t 100))⟩,
    ⟨(some 102), none, [99, 101], none, .q (.iad 4 (.t 99) (.t 101))⟩,
    ⟨(some 103), none, [102], none, .q (.fad 2 (.t 102))⟩,
    ⟨(some 104), none, [103], none, .q (.ld false 1 (.t 103))⟩,
    ⟨(some 13), none, [104], none, .q (.mv (.t 104))⟩])
  (.keep [2, 3, 4, 13] (.seq (.seq (.reg true [⟨(some 105), none, [2], none, .q (.mv (.t 2))⟩,
    ⟨(some 106), none, [105], none, .q (.bin .lss (.t 105) (.k (.i 0)))⟩,
    ⟨(some 107), none, [106], none, .q (.mv (.t 106))⟩,
    ⟨(some 108), (some (107, false)), [2], none, .q (.mv (.t 2))⟩,
    ⟨(some 109), (some (107, false)), [13], none, .q (.mv (.t 13))⟩,
    ⟨(some 110), (some (107, false)), [109], none, .q (.len (.t 109))⟩,
    ⟨(some 111), (some (107, false)), [108, 110], none, .q (.bin .geq (.t 108) (.t 110))⟩,
    ⟨(some 112), none, [107, 111], none, .q (.pick (.t 107) (.k (.b true)) (.t 111))⟩])
  (.keep [2, 3, 4, 13, 112] (.cond (.t 112)
    (.seq (.reg false [⟨(some 113), none, [], none, .q (.call (.k (.fn 16 [])) [])⟩,
      ⟨(some 6), none, [113], none, .q (.mv (.t 113))⟩])
    .ret)
    .skip)))
  (.keep [2, 3, 4, 13] (.seq (.reg false [⟨(some 114), none, [3], none, .q (.ld true 6 (.t 3))⟩,
    ⟨(some 115), none, [114], none, .q (.call (.k (.fn 22 [])) [(.t 114)])⟩,
    ⟨(some 14), none, [], none, .w (.alc [(.z 4), (.z 1), (.i 0), (.z 2), (.z 1), (.i 0)])⟩,
    ⟨none, none, [14, 115], none, .w (.st 6 (.t 14) (.t 115))⟩])
  (.keep [2, 3, 4, 13, 14] (.seq (.any false 3 [⟨⟨(some 116), none, [14], none, .q (.fad 0 (.t 14))⟩, [], []⟩,
    ⟨⟨(some 117), none, [116], none, .q (.ld false 1 (.t 116))⟩, [], [0]⟩,
    ⟨⟨(some 118), none, [4], none, .q (.fad 0 (.t 4))⟩, [], []⟩,
    ⟨⟨(some 119), none, [118], none, .q (.ld false 1 (.t 118))⟩, [], [2]⟩,
    ⟨⟨(some 120), none, [], (some 0), .w (.bso 3 0 [(.i 0), (.i 0), (.i 0)] [])⟩, [0, 1, 2, 3], []⟩,
    ⟨⟨(some 121), none, [13], none, .q (.mv (.t 13))⟩, [4], []⟩,
    ⟨⟨(some 122), none, [2], none, .q (.mv (.t 2))⟩, [4], []⟩,
    ⟨⟨(some 123), none, [121, 122], none, .q (.slc 3 (.t 121) none (some (.t 122)))⟩, [4], [5, 6]⟩,
    ⟨⟨(some 124), none, [120, 123], (some 1), .w (.app 3 (.t 120) (.t 123))⟩, [0, 1, 2, 3], [4, 7, 5, 6]⟩,
    ⟨⟨(some 125), none, [13], none, .q (.mv (.t 13))⟩, [4, 8], []⟩,
    ⟨⟨(some 126), none, [2], none, .q (.mv (.t 2))⟩, [4, 8], []⟩,
    ⟨⟨(some 127), none, [126], none, .q (.bin .add (.t 126) (.k (.i 1)))⟩, [4, 8], [10]⟩,
    ⟨⟨(some 128), none, [125, 127], none, .q (.slc 3 (.t 125) (some (.t 127)) none)⟩, [4, 8], [9, 11, 10]⟩,
    ⟨⟨(some 129), none, [124, 128], (some 2), .w (.app 3 (.t 124) (.t 128))⟩, [0, 1, 2, 3], [8, 4, 7, 5, 6, 12, 9, 11, 10]⟩,
    ⟨⟨(some 130), none, [117, 119], none, .q (.iad 4 (.t 117) (.t 119))⟩, [], [1, 0, 3, 2, 4, 5, 6, 7, 8, 9, 10, 11, 12, 13]⟩,
    ⟨⟨(some 131), none, [130], none, .q (.fad 2 (.t 130))⟩, [], [14, 1, 0, 3, 2, 4, 5, 6, 7, 8, 9, 10, 11, 12, 13]⟩,
    ⟨⟨none, none, [131, 129], none, .w (.st 1 (.t 131) (.t 129))⟩, [], [15, 14, 1, 0, 3, 2, 4, 5, 6, 7, 8, 9, 10, 11, 12, 13]⟩])
  (.keep [3, 4, 14] (.seq (.reg false [⟨(some 133), none, [3], none, .q (.ld true 6 (.t 3))⟩,
    ⟨(some 134), none, [4], none, .q (.fad 0 (.t 4))⟩,
    ⟨(some 135), none, [134], none, .q (.ld false 1 (.t 134))⟩,
    ⟨(some 136), none, [133, 135], none, .q (.call (.k (.fn 40 [])) [(.t 133), (.t 135)])⟩,
    ⟨(some 132), none, [136], none, .q (.mv (.t 136))⟩,
    ⟨(some 137), none, [132], none, .q (.ext (.t 132) 0)⟩,
    ⟨(some 138), none, [132], none, .q (.ext (.t 132) 1)⟩,
    ⟨(some 15), none, [137], none, .q (.mv (.t 137))⟩,
    ⟨(some 16), none, [138], none, .q (.mv (.t 138))⟩])
  (.keep [4, 14, 15, 16] (.seq (.reg false [⟨(some 140), none, [14], none, .q (.ld true 6 (.t 14))⟩,
    ⟨(some 141), none, [4], none, .q (.fad 0 (.t 4))⟩,
    ⟨(some 142), none, [141], none, .q (.ld false 1 (.t 141))⟩,
    ⟨(some 143), none, [140, 142], none, .q (.call (.k (.fn 40 [])) [(.t 140), (.t 142)])⟩,
    ⟨(some 139), none, [143], none, .q (.mv (.t 143))⟩,
    ⟨(some 144), none, [139], none, .q (.ext (.t 139) 0)⟩,
    ⟨(some 145), none, [139], none, .q (.ext (.t 139) 1)⟩,
    ⟨(some 17), none, [144], none, .q (.mv (.t 144))⟩,
    ⟨(some 18), none, [145], none, .q (.mv (.t 145))⟩])
  (.keep [15, 16, 17, 18] (.seq (.reg true [⟨(some 146), none, [16], none, .q (.mv (.t 16))⟩,
    ⟨(some 147), none, [146], none, .q (.bin .eql (.t 146) (.k (.i 0)))⟩,
    ⟨(some 148), none, [147], none, .q (.mv (.t 147))⟩,
    ⟨(some 149), (some (148, true)), [18], none, .q (.mv (.t 18))⟩,
    ⟨(some 150), (some (148, true)), [149], none, .q (.bin .eql (.t 149) (.k (.i 0)))⟩,
    ⟨(some 151), none, [148, 150], none, .q (.pick (.t 148) (.t 150) (.k (.b false)))⟩,
    ⟨(some 152), none, [151], none, .q (.mv (.t 151))⟩,
    ⟨(some 153), (some (152, true)), [17], none, .q (.mv (.t 17))⟩,
    ⟨(some 154), (some (152, true)), [15], none, .q (.mv (.t 15))⟩,
    ⟨(some 155), (some (152, true)), [153, 154], none, .q (.bin .leq (.t 153) (.t 154))⟩,
    ⟨(some 156), none, [152, 155], none, .q (.pick (.t 152) (.t 155) (.k (.b false)))⟩,
    ⟨(some 157), none, [156], none, .q (.mv (.t 156))⟩,
    ⟨(some 158), (some (157, true)), [15], none, .q (.mv (.t 15))⟩,
    ⟨(some 159), (some (157, true)), [17], none, .q (.mv (.t 17))⟩,
    ⟨(some 160), (some (157, true)), [159], none, .q (.bin .add (.t 159) (.k (.i 1)))⟩,
    ⟨(some 161), (some (157, true)), [158, 160], none, .q (.bin .leq (.t 158) (.t 160))⟩,
    ⟨(some 162), none, [157, 161], none, .q (.pick (.t 157) (.t 161) (.k (.b false)))⟩,
    ⟨(some 163), none, [162], none, .q (.mv (.t 162))⟩,
    ⟨(some 164), (some (163, true)), [], none, .q (.call (.k (.fn 16 [])) [])⟩,
    ⟨(some 165), none, [163, 164], none, .q (.pick (.t 163) (.t 164) (.k (.b false)))⟩,
    ⟨(some 6), none, [165], none, .q (.mv (.t 165))⟩])
  .ret)))))))))))))))))))))))))
def pu13 : List Nat := [3, 4]
def rs13 : List RV := [.t 6]
theorem cc13 : comp Try.prog pu13 (Try.f13.ntmps, 0) 0 1 rc13 (Try.f13.body.getD .skip) = some rc13 := by kernel_rfl
theorem cb13 : Try.f13.body = some (Try.f13.body.getD .skip) := by kernel_rfl
theorem cs13 : resRV Try.prog Try.f13.results.toList = some rs13 := by kernel_rfl
theorem cn13 : 3 ≤ Try.f13.ntmps := by decide
/- ferrule/ferrulelaw02.ClothStretch: params [26, 3], free 0, slots 74 -/
def rc14 : RC :=
  (.seq (.reg false [⟨(some 2), none, [0], none, .q (.box (.t 0))⟩,
    ⟨(some 4), none, [], none, .q (.mv (.k (.b false)))⟩])
  (.keep [1, 2] (.seq (.seq (.reg false [⟨(some 14), none, [2], none, .q (.ld true 6 (.t 2))⟩,
    ⟨(some 15), none, [14], none, .q (.call (.k (.fn 21 [])) [(.t 14)])⟩])
  (.keep [1, 2, 15] (.cond (.t 15)
    (.seq (.reg false [⟨(some 16), none, [], none, .q (.call (.k (.fn 16 [])) [])⟩,
      ⟨(some 4), none, [16], none, .q (.mv (.t 16))⟩])
    .ret)
    .skip)))
  (.keep [1, 2] (.seq (.reg false [⟨(some 17), none, [2], none, .q (.ld true 6 (.t 2))⟩,
    ⟨(some 18), none, [17], none, .q (.call (.k (.fn 22 [])) [(.t 17)])⟩,
    ⟨(some 5), none, [], none, .w (.alc [(.z 4), (.z 1), (.i 0), (.z 2), (.z 1), (.i 0)])⟩,
    ⟨none, none, [5, 18], none, .w (.st 6 (.t 5) (.t 18))⟩])
  (.keep [1, 2, 5] (.seq (.seq (.any false 0 [⟨⟨(some 19), none, [5], none, .q (.ld true 6 (.t 5))⟩, [], []⟩,
    ⟨⟨(some 20), none, [19], none, .q (.call (.k (.fn 41 [])) [(.t 19)])⟩, [], [0]⟩,
    ⟨⟨(some 21), none, [2], none, .q (.ld true 6 (.t 2))⟩, [], []⟩,
    ⟨⟨(some 22), none, [21], none, .q (.call (.k (.fn 39 [])) [(.t 21)])⟩, [], [2, 1, 0]⟩,
    ⟨⟨(some 23), none, [20, 22], none, .q (.bin .neq (.t 20) (.t 22))⟩, [], [1, 0, 3, 2]⟩])
  (.keep [1, 2, 5, 23] (.cond (.t 23)
    (.seq (.reg false [⟨(some 4), none, [], none, .q (.mv (.k (.b false)))⟩])
    .ret)
    .skip)))
  (.keep [1, 2, 5] (.seq (.reg false [⟨(some 25), none, [5], none, .q (.ld true 6 (.t 5))⟩,
    ⟨(some 26), none, [1], none, .q (.mv (.t 1))⟩,
    ⟨(some 27), none, [25, 26], none, .q (.call (.k (.fn 36 [])) [(.t 25), (.t 26)])⟩,
    ⟨(some 24), none, [27], none, .q (.mv (.t 27))⟩,
    ⟨(some 28), none, [24], none, .q (.ext (.t 24) 0)⟩,
    ⟨(some 29), none, [24], none, .q (.ext (.t 24) 1)⟩,
    ⟨(some 6), none, [28], none, .q (.mv (.t 28))⟩,
    ⟨(some 7), none, [29], none, .q (.mv (.t 29))⟩])
  (.keep [1, 2, 5, 6, 7] (.seq (.reg false [⟨(some 31), none, [2], none, .q (.ld true 6 (.t 2))⟩,
    ⟨(some 32), none, [1], none, .q (.mv (.t 1))⟩,
    ⟨(some 33), none, [31, 32], none, .q (.call (.k (.fn 42 [])) [(.t 31), (.t 32)])⟩,
    ⟨(some 30), none, [33], none, .q (.mv (.t 33))⟩,
    ⟨(some 34), none, [30], none, .q (.ext (.t 30) 0)⟩,
    ⟨(some 35), none, [30], none, .q (.ext (.t 30) 1)⟩,
    ⟨(some 8), none, [34], none, .q (.mv (.t 34))⟩,
    ⟨(some 9), none, [35], none, .q (.mv (.t 35))⟩])
  (.keep [1, 2, 5, 6, 7, 8, 9] (.seq (.reg false [⟨(some 37), none, [5], none, .q (.ld true 6 (.t 5))⟩,
    ⟨(some 38), none, [1], none, .q (.mv (.t 1))⟩,
    ⟨(some 39), none, [37, 38], none, .q (.call (.k (.fn 40 [])) [(.t 37), (.t 38)])⟩,
    ⟨(some 36), none, [39], none, .q (.mv (.t 39))⟩,
    ⟨(some 40), none, [36], none, .q (.ext (.t 36) 0)⟩,
    ⟨(some 41), none, [36], none, .q (.ext (.t 36) 1)⟩,
    ⟨(some 10), none, [40], none, .q (.mv (.t 40))⟩,
    ⟨(some 11), none, [41], none, .q (.mv (.t 41))⟩])
  (.keep [1, 2, 5, 6, 7, 8, 9, 10, 11] (.seq (.reg false [⟨(some 43), none, [2], none, .q (.ld true 6 (.t 2))⟩,
    ⟨(some 44), none, [1], none, .q (.mv (.t 1))⟩,
    ⟨(some 45), none, [43, 44], none, .q (.call (.k (.fn 43 [])) [(.t 43), (.t 44)])⟩,
    ⟨(some 42), none, [45], none, .q (.mv (.t 45))⟩,
    ⟨(some 46), none, [42], none, .q (.ext (.t 42) 0)⟩,
    ⟨(some 47), none, [42], none, .q (.ext (.t 42) 1)⟩,
    ⟨(some 12), none, [46], none, .q (.mv (.t 46))⟩,
    ⟨(some 13), none, [47], none, .q (.mv (.t 47))⟩])
  (.keep [2, 5, 6, 7, 8, 9, 10, 11, 12, 13] (.seq (.reg true [⟨(some 48), none, [6], none, .q (.mv (.t 6))⟩,
    ⟨(some 49), none, [8], none, .q (.mv (.t 8))⟩,
    ⟨(some 50), none, [48, 49], none, .q (.call (.k (.fn 28 [])) [(.t 48), (.t 49)])⟩,
    ⟨(some 51), none, [50], none, .q (.mv (.t 50))⟩,
    ⟨(some 52), (some (51, true)), [7], none, .q (.mv (.t 7))⟩,
    ⟨(some 53), (some (51, true)), [9], none, .q (.mv (.t 9))⟩,
    ⟨(some 54), (some (51, true)), [52, 53], none, .q (.bin .eql (.t 52) (.t 53))⟩,
    ⟨(some 55), none, [51, 54], none, .q (.pick (.t 51) (.t 54) (.k (.b false)))⟩,
    ⟨(some 56), none, [55], none, .q (.mv (.t 55))⟩,
    ⟨(some 57), (some (56, true)), [10], none, .q (.mv (.t 10))⟩,
    ⟨(some 58), (some (56, true)), [12], none, .q (.mv (.t 12))⟩,
    ⟨(some 59), (some (56, true)), [57, 58], none, .q (.bin .eql (.t 57) (.t 58))⟩,
    ⟨(some 60), none, [56, 59], none, .q (.pick (.t 56) (.t 59) (.k (.b false)))⟩,
    ⟨(some 61), none, [60], none, .q (.mv (.t 60))⟩,
    ⟨(some 62), (some (61, true)), [11], none, .q (.mv (.t 11))⟩,
    ⟨(some 63), (some (61, true)), [13], none, .q (.mv (.t 13))⟩,
    ⟨(some 64), (some (61, true)), [62, 63], none, .q (.bin .eql (.t 62) (.t 63))⟩,
    ⟨(some 65), none, [61, 64], none, .q (.pick (.t 61) (.t 64) (.k (.b false)))⟩,
    ⟨(some 66), none, [65], none, .q (.mv (.t 65))⟩,
    ⟨(some 67), (some (66, true)), [5], none, .q (.ld true 6 (.t 5))⟩,
    ⟨(some 68), (some (66, true)), [2], none, .q (.ld true 6 (.t 2))⟩,
    ⟨(some 69), (some (66, true)), [67, 68], none, .q (.call (.k (.fn 29 [])) [(.t 67), (.t 68)])⟩,
    ⟨(some 70), none, [66, 69], none, .q (.pick (.t 66) (.t 69) (.k (.b false)))⟩,
    ⟨(some 71), none, [70], none, .q (.mv (.t 70))⟩,
    ⟨(some 72), (some (71, true)), [], none, .q (.call (.k (.fn 16 [])) [])⟩,
    ⟨(some 73), none, [71, 72], none, .q (.pick (.t 71) (.t 72) (.k (.b false)))⟩,
    ⟨(some 4), none, [73], none, .q (.mv (.t 73))⟩])
  .ret)))))))))))))))))
def pu14 : List Nat := [2]
def rs14 : List RV := [.t 4]
theorem cc14 : comp Try.prog pu14 (Try.f14.ntmps, 0) 0 1 rc14 (Try.f14.body.getD .skip) = some rc14 := by kernel_rfl
theorem cb14 : Try.f14.body = some (Try.f14.body.getD .skip) := by kernel_rfl
theorem cs14 : resRV Try.prog Try.f14.results.toList = some rs14 := by kernel_rfl
theorem cn14 : 2 ≤ Try.f14.ntmps := by decide
/- ferrule/ferrulelaw02.ready: params [26, 3], free 0, slots 24 -/
def rc15 : RC :=
  (.seq (.reg false [⟨(some 2), none, [0], none, .q (.box (.t 0))⟩,
    ⟨(some 4), none, [], none, .q (.mv (.k (.b false)))⟩])
  (.keep [1, 2] (.seq (.reg true [⟨(some 5), none, [2], none, .q (.ld true 6 (.t 2))⟩,
    ⟨(some 6), none, [5], none, .q (.call (.k (.fn 21 [])) [(.t 5)])⟩,
    ⟨(some 7), none, [6], none, .q (.not (.t 6))⟩,
    ⟨(some 8), none, [7], none, .q (.mv (.t 7))⟩,
    ⟨(some 9), (some (8, true)), [2], none, .q (.ld true 6 (.t 2))⟩,
    ⟨(some 10), (some (8, true)), [9], none, .q (.call (.k (.fn 39 [])) [(.t 9)])⟩,
    ⟨(some 11), (some (8, true)), [10], none, .q (.bin .eql (.t 10) (.k (.i 0)))⟩,
    ⟨(some 12), none, [8, 11], none, .q (.pick (.t 8) (.t 11) (.k (.b false)))⟩,
    ⟨(some 13), none, [12], none, .q (.mv (.t 12))⟩,
    ⟨(some 14), (some (13, true)), [1], none, .q (.mv (.t 1))⟩,
    ⟨(some 15), (some (13, true)), [14], none, .q (.bin .geq (.t 14) (.k (.i 0)))⟩,
    ⟨(some 16), none, [13, 15], none, .q (.pick (.t 13) (.t 15) (.k (.b false)))⟩,
    ⟨(some 17), none, [16], none, .q (.mv (.t 16))⟩,
    ⟨(some 18), (some (17, true)), [1], none, .q (.mv (.t 1))⟩,
    ⟨(some 19), (some (17, true)), [2], none, .q (.fad 3 (.t 2))⟩,
    ⟨(some 20), (some (17, true)), [19], none, .q (.ld false 1 (.t 19))⟩,
    ⟨(some 21), (some (17, true)), [20], none, .q (.len (.t 20))⟩,
    ⟨(some 22), (some (17, true)), [18, 21], none, .q (.bin .lss (.t 18) (.t 21))⟩,
    ⟨(some 23), none, [17, 22], none, .q (.pick (.t 17) (.t 22) (.k (.b false)))⟩,
    ⟨(some 4), none, [23], none, .q (.mv (.t 23))⟩])
  .ret)))
def pu15 : List Nat := [2]
def rs15 : List RV := [.t 4]
theorem cc15 : comp Try.prog pu15 (Try.f15.ntmps, 0) 0 1 rc15 (Try.f15.body.getD .skip) = some rc15 := by kernel_rfl
theorem cb15 : Try.f15.body = some (Try.f15.body.getD .skip) := by kernel_rfl
theorem cs15 : resRV Try.prog Try.f15.results.toList = some rs15 := by kernel_rfl
theorem cn15 : 2 ≤ Try.f15.ntmps := by decide
/- ferrule/ferrulelaw02.works: params [], free 0, slots 83 -/
def rc16 : RC :=
  (.seq (.reg false [⟨(some 0), none, [], none, .q (.mv (.k (.b false)))⟩])
  (.keep [] (.seq (.reg false [⟨(some 12), none, [], none, .o (.k (.fn 44 [])) []⟩,
    ⟨(some 1), none, [], none, .w (.alc [(.z 4), (.z 1), (.i 0), (.z 2), (.z 1), (.i 0)])⟩,
    ⟨none, none, [1, 12], none, .w (.st 6 (.t 1) (.t 12))⟩])
  (.keep [1] (.seq (.reg false [⟨(some 14), none, [1], none, .q (.ld true 6 (.t 1))⟩,
    ⟨(some 15), none, [14], none, .q (.call (.k (.fn 23 [])) [(.t 14), (.k (.i 2))])⟩,
    ⟨(some 13), none, [15], none, .q (.mv (.t 15))⟩,
    ⟨(some 16), none, [13], none, .q (.ext (.t 13) 0)⟩,
    ⟨(some 17), none, [13], none, .q (.ext (.t 13) 1)⟩,
    ⟨(some 2), none, [], none, .w (.alc [(.i 0), (.i 0)])⟩,
    ⟨none, none, [2, 16], none, .w (.st 2 (.t 2) (.t 16))⟩,
    ⟨(some 3), none, [17], none, .q (.mv (.t 17))⟩])
  (.keep [1, 2, 3] (.seq (.reg false [⟨(some 19), none, [1], none, .q (.ld true 6 (.t 1))⟩,
    ⟨(some 20), none, [19], none, .q (.call (.k (.fn 17 [])) [(.t 19), (.k (.i 1))])⟩,
    ⟨(some 18), none, [20], none, .q (.mv (.t 20))⟩,
    ⟨(some 21), none, [18], none, .q (.ext (.t 18) 0)⟩,
    ⟨(some 22), none, [18], none, .q (.ext (.t 18) 1)⟩,
    ⟨(some 4), none, [21], none, .q (.mv (.t 21))⟩,
    ⟨(some 5), none, [22], none, .q (.mv (.t 22))⟩])
  (.keep [1, 2, 3, 4, 5] (.seq (.reg false [⟨(some 24), none, [1], none, .q (.ld true 6 (.t 1))⟩,
    ⟨(some 25), none, [24], none, .q (.call (.k (.fn 19 [])) [(.t 24), (.k (.i 1))])⟩,
    ⟨(some 23), none, [25], none, .q (.mv (.t 25))⟩,
    ⟨(some 26), none, [23], none, .q (.ext (.t 23) 0)⟩,
    ⟨(some 27), none, [23], none, .q (.ext (.t 23) 1)⟩,
    ⟨(some 6), none, [], none, .w (.alc [(.i 0), (.i 0)])⟩,
    ⟨none, none, [6, 26], none, .w (.st 2 (.t 6) (.t 26))⟩,
    ⟨(some 7), none, [27], none, .q (.mv (.t 27))⟩])
  (.keep [1, 2, 3, 4, 5, 6, 7] (.seq (.reg false [⟨(some 29), none, [1], none, .q (.ld true 6 (.t 1))⟩,
    ⟨(some 30), none, [29], none, .o (.k (.fn 26 [])) [(.t 29)]⟩,
    ⟨(some 28), none, [30], none, .q (.mv (.t 30))⟩,
    ⟨(some 31), none, [28], none, .q (.ext (.t 28) 0)⟩,
    ⟨(some 32), none, [28], none, .q (.ext (.t 28) 1)⟩,
    ⟨(some 8), none, [31], none, .q (.mv (.t 31))⟩,
    ⟨(some 9), none, [32], none, .q (.mv (.t 32))⟩])
  (.keep [1, 2, 3, 4, 5, 6, 7, 8, 9] (.seq (.reg false [⟨(some 33), none, [1], none, .q (.fad 3 (.t 1))⟩,
    ⟨(some 34), none, [33], none, .q (.ld false 1 (.t 33))⟩,
    ⟨(some 35), none, [], none, .q (.bld [(.i 0), (.i 0)] [(0, 1, (.k (.i 800))), (1, 1, (.k (.i 808)))])⟩,
    ⟨(some 36), none, [34], none, .q (.iad 2 (.t 34) (.k (.i 2)))⟩,
    ⟨none, none, [36, 35], none, .w (.st 2 (.t 36) (.t 35))⟩])
  (.keep [1, 2, 3, 4, 5, 6, 7, 8, 9] (.seq (.reg false [⟨(some 38), none, [1], none, .q (.ld true 6 (.t 1))⟩,
    ⟨(some 39), none, [38], none, .q (.call (.k (.fn 31 [])) [(.t 38)])⟩,
    ⟨(some 37), none, [39], none, .q (.mv (.t 39))⟩,
    ⟨(some 40), none, [37], none, .q (.ext (.t 37) 0)⟩,
    ⟨(some 41), none, [37], none, .q (.ext (.t 37) 1)⟩,
    ⟨(some 10), none, [40], none, .q (.mv (.t 40))⟩,
    ⟨(some 11), none, [41], none, .q (.mv (.t 41))⟩])
  (.keep [2, 3, 4, 5, 6, 7, 8, 9, 10, 11] (.seq (.reg true [⟨(some 42), none, [3], none, .q (.mv (.t 3))⟩,
    ⟨(some 43), none, [42], none, .q (.bin .eql (.t 42) (.k (.i 0)))⟩,
    ⟨(some 44), none, [43], none, .q (.mv (.t 43))⟩,
    ⟨(some 45), (some (44, true)), [5], none, .q (.mv (.t 5))⟩,
    ⟨(some 46), (some (44, true)), [45], none, .q (.bin .eql (.t 45) (.k (.i 0)))⟩,
    ⟨(some 47), none, [44, 46], none, .q (.pick (.t 44) (.t 46) (.k (.b false)))⟩,
    ⟨(some 48), none, [47], none, .q (.mv (.t 47))⟩,
    ⟨(some 49), (some (48, true)), [7], none, .q (.mv (.t 7))⟩,
    ⟨(some 50), (some (48, true)), [49], none, .q (.bin .eql (.t 49) (.k (.i 0)))⟩,
    ⟨(some 51), none, [48, 50], none, .q (.pick (.t 48) (.t 50) (.k (.b false)))⟩,
    ⟨(some 52), none, [51], none, .q (.mv (.t 51))⟩,
    ⟨(some 53), (some (52, true)), [9], none, .q (.mv (.t 9))⟩,
    ⟨(some 54), (some (52, true)), [53], none, .q (.bin .eql (.t 53) (.k (.i 0)))⟩,
    ⟨(some 55), none, [52, 54], none, .q (.pick (.t 52) (.t 54) (.k (.b false)))⟩,
    ⟨(some 56), none, [55], none, .q (.mv (.t 55))⟩,
    ⟨(some 57), (some (56, true)), [11], none, .q (.mv (.t 11))⟩,
    ⟨(some 58), (some (56, true)), [57], none, .q (.bin .eql (.t 57) (.k (.i 0)))⟩,
    ⟨(some 59), none, [56, 58], none, .q (.pick (.t 56) (.t 58) (.k (.b false)))⟩,
    ⟨(some 60), none, [59], none, .q (.mv (.t 59))⟩,
    ⟨(some 61), (some (60, true)), [2], none, .q (.ld true 2 (.t 2))⟩,
    ⟨(some 62), (some (60, true)), [], none, .q (.bld [(.i 0), (.i 0)] [(0, 1, (.k (.i 802))), (1, 1, (.k (.i 808)))])⟩,
    ⟨(some 63), (some (60, true)), [61, 62], none, .q (.eqs false 34 (.t 61) (.t 62))⟩,
    ⟨(some 64), none, [60, 63], none, .q (.pick (.t 60) (.t 63) (.k (.b false)))⟩,
    ⟨(some 65), none, [64], none, .q (.mv (.t 64))⟩,
    ⟨(some 66), (some (65, true)), [4], none, .q (.mv (.t 4))⟩,
    ⟨(some 67), (some (65, true)), [66], none, .q (.bin .eql (.t 66) (.k (.i 1)))⟩,
    ⟨(some 68), none, [65, 67], none, .q (.pick (.t 65) (.t 67) (.k (.b false)))⟩,
    ⟨(some 69), none, [68], none, .q (.mv (.t 68))⟩,
    ⟨(some 70), (some (69, true)), [6], none, .q (.ld true 2 (.t 6))⟩,
    ⟨(some 71), (some (69, true)), [], none, .q (.bld [(.i 0), (.i 0)] [(0, 1, (.k (.i 160))), (1, 1, (.k (.i 171)))])⟩,
    ⟨(some 72), (some (69, true)), [70, 71], none, .q (.eqs false 34 (.t 70) (.t 71))⟩,
    ⟨(some 73), none, [69, 72], none, .q (.pick (.t 69) (.t 72) (.k (.b false)))⟩,
    ⟨(some 74), none, [73], none, .q (.mv (.t 73))⟩,
    ⟨(some 75), (some (74, true)), [8], none, .q (.mv (.t 8))⟩,
    ⟨(some 76), (some (74, true)), [], none, .q (.bsl 1 1 [(.i 0)] [(0, 1, (.k (.i 2)))])⟩,
    ⟨(some 77), (some (74, true)), [75, 76], none, .q (.call (.k (.fn 28 [])) [(.t 75), (.t 76)])⟩,
    ⟨(some 78), none, [74, 77], none, .q (.pick (.t 74) (.t 77) (.k (.b false)))⟩,
    ⟨(some 79), none, [78], none, .q (.mv (.t 78))⟩,
    ⟨(some 80), (some (79, true)), [10], none, .q (.mv (.t 10))⟩,
    ⟨(some 81), (some (79, true)), [80], none, .q (.bin .eql (.t 80) (.k (.i 480)))⟩,
    ⟨(some 82), none, [79, 81], none, .q (.pick (.t 79) (.t 81) (.k (.b false)))⟩,
    ⟨(some 0), none, [82], none, .q (.mv (.t 82))⟩])
  .ret)))))))))))))))))
def pu16 : List Nat := [1000012, 1000030, 76]
def rs16 : List RV := [.t 0]
theorem cc16 : comp Try.prog pu16 (Try.f16.ntmps, 0) 0 1 rc16 (Try.f16.body.getD .skip) = some rc16 := by kernel_rfl
theorem cb16 : Try.f16.body = some (Try.f16.body.getD .skip) := by kernel_rfl
theorem cs16 : resRV Try.prog Try.f16.results.toList = some rs16 := by kernel_rfl
theorem cn16 : 0 ≤ Try.f16.ntmps := by decide
/- ferrule/cloth.Tight: params [26, 3], free 0, slots 27 -/
def rc17 : RC :=
  (.seq (.reg false [⟨(some 2), none, [0], none, .q (.box (.t 0))⟩,
    ⟨(some 4), none, [], none, .q (.mv (.k (.i 0)))⟩,
    ⟨(some 5), none, [], none, .q (.mv (.k (.i 0)))⟩])
  (.keep [1, 2] (.seq (.any false 0 [⟨⟨(some 9), none, [2], none, .q (.ld true 6 (.t 2))⟩, [], []⟩,
    ⟨⟨(some 10), none, [2], none, .q (.ld true 6 (.t 2))⟩, [], []⟩,
    ⟨⟨(some 11), none, [1], none, .q (.mv (.t 1))⟩, [], []⟩,
    ⟨⟨(some 12), none, [10, 11], none, .q (.call (.k (.fn 46 [])) [(.t 10), (.t 11)])⟩, [], [1, 2]⟩,
    ⟨⟨(some 13), none, [9, 12], none, .q (.call (.k (.fn 45 [])) [(.t 9), (.t 12)])⟩, [], [0, 3, 1, 2]⟩,
    ⟨⟨(some 8), none, [13], none, .q (.mv (.t 13))⟩, [], [4, 0, 3, 1, 2]⟩,
    ⟨⟨(some 14), none, [8], none, .q (.ext (.t 8) 0)⟩, [], [5, 4, 0, 3, 1, 2]⟩,
    ⟨⟨(some 15), none, [8], none, .q (.ext (.t 8) 1)⟩, [], [5, 4, 0, 3, 1, 2]⟩,
    ⟨⟨(some 6), none, [14], none, .q (.mv (.t 14))⟩, [], [6, 5, 4, 0, 3, 1, 2]⟩,
    ⟨⟨(some 7), none, [15], none, .q (.mv (.t 15))⟩, [], [7, 5, 4, 0, 3, 1, 2, 8, 6]⟩])
  (.keep [1, 2, 6, 7] (.seq (.seq (.reg false [⟨(some 16), none, [7], none, .q (.mv (.t 7))⟩,
    ⟨(some 17), none, [16], none, .q (.bin .neq (.t 16) (.k (.i 0)))⟩])
  (.keep [1, 2, 6, 7, 17] (.cond (.t 17)
    (.seq (.reg false [⟨(some 18), none, [7], none, .q (.mv (.t 7))⟩,
      ⟨(some 4), none, [], none, .q (.mv (.k (.i 0)))⟩,
      ⟨(some 5), none, [18], none, .q (.mv (.t 18))⟩])
    .ret)
    .skip)))
  (.keep [1, 2, 6] (.seq (.reg false [⟨(some 19), none, [6], none, .q (.mv (.t 6))⟩,
    ⟨(some 20), none, [1], none, .q (.mv (.t 1))⟩,
    ⟨(some 21), none, [2], none, .q (.fad 4 (.t 2))⟩,
    ⟨(some 22), none, [21], none, .q (.ld false 1 (.t 21))⟩,
    ⟨(some 23), none, [1], none, .q (.mv (.t 1))⟩,
    ⟨(some 24), none, [22, 23], none, .q (.iad 1 (.t 22) (.t 23))⟩,
    ⟨(some 25), none, [24], none, .q (.ld false 1 (.t 24))⟩,
    ⟨(some 26), none, [19, 20, 25], none, .q (.call (.k (.fn 47 [])) [(.t 19), (.t 20), (.t 25)])⟩,
    ⟨(some 4), none, [26], none, .q (.mv (.t 26))⟩,
    ⟨(some 5), none, [], none, .q (.mv (.k (.i 0)))⟩])
  .ret)))))))
def pu17 : List Nat := [2]
def rs17 : List RV := [.t 4, .t 5]
theorem cc17 : comp Try.prog pu17 (Try.f17.ntmps, 0) 0 1 rc17 (Try.f17.body.getD .skip) = some rc17 := by kernel_rfl
theorem cb17 : Try.f17.body = some (Try.f17.body.getD .skip) := by kernel_rfl
theorem cs17 : resRV Try.prog Try.f17.results.toList = some rs17 := by kernel_rfl
theorem cn17 : 2 ≤ Try.f17.ntmps := by decide
/- ferrule/ferrulelaw02.cutTo: params [26, 3, 3], free 0, slots 16 -/
def rc18 : RC :=
  (.seq (.reg false [⟨(some 3), none, [0], none, .q (.box (.t 0))⟩,
    ⟨(some 6), none, [], none, .w (.alc [(.z 4), (.z 1), (.i 0), (.z 2), (.z 1), (.i 0)])⟩])
  (.keep [1, 2, 3, 6] (.seq (.reg false [⟨(some 8), none, [3], none, .q (.ld true 6 (.t 3))⟩,
    ⟨(some 9), none, [8], none, .o (.k (.fn 22 [])) [(.t 8)]⟩,
    ⟨(some 7), none, [], none, .w (.alc [(.z 4), (.z 1), (.i 0), (.z 2), (.z 1), (.i 0)])⟩,
    ⟨none, none, [7, 9], none, .w (.st 6 (.t 7) (.t 9))⟩])
  (.keep [1, 2, 6, 7] (.seq (.reg false [⟨(some 10), none, [7], none, .q (.fad 4 (.t 7))⟩,
    ⟨(some 11), none, [10], none, .q (.ld false 1 (.t 10))⟩,
    ⟨(some 12), none, [1], none, .q (.mv (.t 1))⟩,
    ⟨(some 13), none, [2], none, .q (.mv (.t 2))⟩,
    ⟨(some 14), none, [11, 12], none, .q (.iad 1 (.t 11) (.t 12))⟩,
    ⟨none, none, [14, 13], none, .w (.st 1 (.t 14) (.t 13))⟩])
  (.keep [6, 7] (.seq (.reg false [⟨(some 15), none, [7], none, .q (.ld true 6 (.t 7))⟩,
    ⟨none, none, [6, 15], none, .w (.st 6 (.t 6) (.t 15))⟩])
  .ret)))))))
def pu18 : List Nat := [1000009, 3]
def rs18 : List RV := [.c 6 true 6]
theorem cc18 : comp Try.prog pu18 (Try.f18.ntmps, 0) 0 1 rc18 (Try.f18.body.getD .skip) = some rc18 := by kernel_rfl
theorem cb18 : Try.f18.body = some (Try.f18.body.getD .skip) := by kernel_rfl
theorem cs18 : resRV Try.prog Try.f18.results.toList = some rs18 := by kernel_rfl
theorem cn18 : 3 ≤ Try.f18.ntmps := by decide
/- ferrule/cloth.Cut: params [26, 3], free 0, slots 32 -/
def rc19 : RC :=
  (.seq (.reg false [⟨(some 2), none, [0], none, .q (.box (.t 0))⟩,
    ⟨(some 4), none, [], none, .w (.alc [(.i 0), (.i 0)])⟩,
    ⟨(some 5), none, [], none, .q (.mv (.k (.i 0)))⟩])
  (.keep [1, 2, 4] (.seq (.any false 0 [⟨⟨(some 11), none, [2], none, .q (.ld true 6 (.t 2))⟩, [], []⟩,
    ⟨⟨(some 12), none, [2], none, .q (.ld true 6 (.t 2))⟩, [], []⟩,
    ⟨⟨(some 13), none, [1], none, .q (.mv (.t 1))⟩, [], []⟩,
    ⟨⟨(some 14), none, [12, 13], none, .q (.call (.k (.fn 46 [])) [(.t 12), (.t 13)])⟩, [], [1, 2]⟩,
    ⟨⟨(some 15), none, [11, 14], none, .q (.call (.k (.fn 45 [])) [(.t 11), (.t 14)])⟩, [], [0, 3, 1, 2]⟩,
    ⟨⟨(some 10), none, [15], none, .q (.mv (.t 15))⟩, [], [4, 0, 3, 1, 2]⟩,
    ⟨⟨(some 16), none, [10], none, .q (.ext (.t 10) 0)⟩, [], [5, 4, 0, 3, 1, 2]⟩,
    ⟨⟨(some 17), none, [10], none, .q (.ext (.t 10) 1)⟩, [], [5, 4, 0, 3, 1, 2]⟩,
    ⟨⟨(some 6), none, [16], none, .q (.mv (.t 16))⟩, [], [6, 5, 4, 0, 3, 1, 2]⟩,
    ⟨⟨(some 7), none, [17], none, .q (.mv (.t 17))⟩, [], [7, 5, 4, 0, 3, 1, 2, 8, 6]⟩])
  (.keep [1, 4, 6, 7] (.seq (.seq (.reg false [⟨(some 18), none, [7], none, .q (.mv (.t 7))⟩,
    ⟨(some 19), none, [18], none, .q (.bin .neq (.t 18) (.k (.i 0)))⟩])
  (.keep [1, 4, 6, 7, 19] (.cond (.t 19)
    (.seq (.reg false [⟨(some 20), none, [], none, .q (.bld [(.i 0), (.i 0)] [])⟩,
      ⟨(some 21), none, [7], none, .q (.mv (.t 7))⟩,
      ⟨none, none, [4, 20], none, .w (.st 2 (.t 4) (.t 20))⟩,
      ⟨(some 5), none, [21], none, .q (.mv (.t 21))⟩])
    .ret)
    .skip)))
  (.keep [1, 4, 6] (.seq (.reg false [⟨(some 23), none, [6], none, .q (.mv (.t 6))⟩,
    ⟨(some 24), none, [1], none, .q (.mv (.t 1))⟩,
    ⟨(some 25), none, [23, 24], none, .q (.call (.k (.fn 48 [])) [(.t 23), (.t 24)])⟩,
    ⟨(some 22), none, [25], none, .q (.mv (.t 25))⟩,
    ⟨(some 26), none, [22], none, .q (.ext (.t 22) 0)⟩,
    ⟨(some 27), none, [22], none, .q (.ext (.t 22) 1)⟩,
    ⟨(some 8), none, [], none, .w (.alc [(.i 0), (.i 0)])⟩,
    ⟨none, none, [8, 26], none, .w (.st 2 (.t 8) (.t 26))⟩,
    ⟨(some 9), none, [27], none, .q (.mv (.t 27))⟩])
  (.keep [4, 8, 9] (.seq (.seq (.reg false [⟨(some 28), none, [9], none, .q (.mv (.t 9))⟩,
    ⟨(some 29), none, [28], none, .q (.not (.t 28))⟩])
  (.keep [4, 8, 29] (.cond (.t 29)
    (.seq (.reg false [⟨(some 30), none, [], none, .q (.bld [(.i 0), (.i 0)] [])⟩,
      ⟨none, none, [4, 30], none, .w (.st 2 (.t 4) (.t 30))⟩,
      ⟨(some 5), none, [], none, .q (.mv (.k (.i 3)))⟩])
    .ret)
    .skip)))
  (.keep [4, 8] (.seq (.reg false [⟨(some 31), none, [8], none, .q (.ld true 2 (.t 8))⟩,
    ⟨none, none, [4, 31], none, .w (.st 2 (.t 4) (.t 31))⟩,
    ⟨(some 5), none, [], none, .q (.mv (.k (.i 0)))⟩])
  .ret)))))))))))
def pu19 : List Nat := [2]
def rs19 : List RV := [.c 4 true 2, .t 5]
theorem cc19 : comp Try.prog pu19 (Try.f19.ntmps, 0) 0 1 rc19 (Try.f19.body.getD .skip) = some rc19 := by kernel_rfl
theorem cb19 : Try.f19.body = some (Try.f19.body.getD .skip) := by kernel_rfl
theorem cs19 : resRV Try.prog Try.f19.results.toList = some rs19 := by kernel_rfl
theorem cn19 : 2 ≤ Try.f19.ntmps := by decide
/- ferrule/ferrulelaw02.holds: params [34, 3], free 0, slots 15 -/
def rc20 : RC :=
  (.seq (.reg false [⟨(some 2), none, [0], none, .q (.box (.t 0))⟩,
    ⟨(some 4), none, [], none, .q (.mv (.k (.b false)))⟩])
  (.keep [1, 2] (.seq (.reg true [⟨(some 5), none, [2], none, .q (.fad 0 (.t 2))⟩,
    ⟨(some 6), none, [5], none, .q (.ld false 1 (.t 5))⟩,
    ⟨(some 7), none, [1], none, .q (.mv (.t 1))⟩,
    ⟨(some 8), none, [6, 7], none, .q (.bin .leq (.t 6) (.t 7))⟩,
    ⟨(some 9), none, [8], none, .q (.mv (.t 8))⟩,
    ⟨(some 10), (some (9, true)), [1], none, .q (.mv (.t 1))⟩,
    ⟨(some 11), (some (9, true)), [2], none, .q (.fad 1 (.t 2))⟩,
    ⟨(some 12), (some (9, true)), [11], none, .q (.ld false 1 (.t 11))⟩,
    ⟨(some 13), (some (9, true)), [10, 12], none, .q (.bin .leq (.t 10) (.t 12))⟩,
    ⟨(some 14), none, [9, 13], none, .q (.pick (.t 9) (.t 13) (.k (.b false)))⟩,
    ⟨(some 4), none, [14], none, .q (.mv (.t 14))⟩])
  .ret)))
def pu20 : List Nat := [2]
def rs20 : List RV := [.t 4]
theorem cc20 : comp Try.prog pu20 (Try.f20.ntmps, 0) 0 1 rc20 (Try.f20.body.getD .skip) = some rc20 := by kernel_rfl
theorem cb20 : Try.f20.body = some (Try.f20.body.getD .skip) := by kernel_rfl
theorem cs20 : resRV Try.prog Try.f20.results.toList = some rs20 := by kernel_rfl
theorem cn20 : 2 ≤ Try.f20.ntmps := by decide
/- ferrule/ferrulelaw02.Far: params [26], free 0, slots 99 -/
def rc21 : RC :=
  (.seq (.reg false [⟨(some 1), none, [0], none, .q (.box (.t 0))⟩,
    ⟨(some 2), none, [], none, .q (.mv (.k (.b false)))⟩])
  (.keep [1] (.seq (.seq (.reg true [⟨(some 8), none, [1], none, .q (.fad 0 (.t 1))⟩,
    ⟨(some 9), none, [8], none, .q (.ld false 1 (.t 8))⟩,
    ⟨(some 10), none, [9], none, .q (.len (.t 9))⟩,
    ⟨(some 11), none, [10], none, .q (.bin .gtr (.t 10) (.k (.i 20)))⟩,
    ⟨(some 12), none, [11], none, .q (.mv (.t 11))⟩,
    ⟨(some 13), (some (12, false)), [1], none, .q (.fad 1 (.t 1))⟩,
    ⟨(some 14), (some (12, false)), [13], none, .q (.ld false 1 (.t 13))⟩,
    ⟨(some 15), (some (12, false)), [14], none, .q (.len (.t 14))⟩,
    ⟨(some 16), (some (12, false)), [15], none, .q (.bin .gtr (.t 15) (.k (.i 60)))⟩,
    ⟨(some 17), none, [12, 16], none, .q (.pick (.t 12) (.k (.b true)) (.t 16))⟩,
    ⟨(some 18), none, [17], none, .q (.mv (.t 17))⟩,
    ⟨(some 19), (some (18, false)), [1], none, .q (.fad 3 (.t 1))⟩,
    ⟨(some 20), (some (18, false)), [19], none, .q (.ld false 1 (.t 19))⟩,
    ⟨(some 21), (some (18, false)), [20], none, .q (.len (.t 20))⟩,
    ⟨(some 22), (some (18, false)), [21], none, .q (.bin .gtr (.t 21) (.k (.i 60)))⟩,
    ⟨(some 23), none, [18, 22], none, .q (.pick (.t 18) (.k (.b true)) (.t 22))⟩,
    ⟨(some 24), none, [23], none, .q (.mv (.t 23))⟩,
    ⟨(some 25), (some (24, false)), [1], none, .q (.fad 4 (.t 1))⟩,
    ⟨(some 26), (some (24, false)), [25], none, .q (.ld false 1 (.t 25))⟩,
    ⟨(some 27), (some (24, false)), [26], none, .q (.len (.t 26))⟩,
    ⟨(some 28), (some (24, false)), [27], none, .q (.bin .gtr (.t 27) (.k (.i 60)))⟩,
    ⟨(some 29), none, [24, 28], none, .q (.pick (.t 24) (.k (.b true)) (.t 28))⟩])
  (.keep [1, 29] (.cond (.t 29)
    (.seq (.reg false [⟨(some 2), none, [], none, .q (.mv (.k (.b true)))⟩])
    .ret)
    .skip)))
  (.keep [1] (.seq (.seq (.reg false [⟨(some 3), none, [], none, .q (.mv (.k (.i 0)))⟩])
  (.keep [1, 3] (.block 0 (.loop [1, 3] none (.seq (.seq (.reg false [⟨(some 30), none, [3], none, .q (.mv (.t 3))⟩,
    ⟨(some 31), none, [1], none, .q (.fad 0 (.t 1))⟩,
    ⟨(some 32), none, [31], none, .q (.ld false 1 (.t 31))⟩,
    ⟨(some 33), none, [32], none, .q (.len (.t 32))⟩,
    ⟨(some 34), none, [30, 33], none, .q (.bin .lss (.t 30) (.t 33))⟩])
  (.keep [1, 3, 34] (.cond (.t 34)
    .skip
    (.exit 0))))
  (.keep [1, 3] (.seq (.block 1 (.seq (.reg false [⟨(some 37), none, [1], none, .q (.fad 0 (.t 1))⟩,
    ⟨(some 38), none, [37], none, .q (.ld false 1 (.t 37))⟩,
    ⟨(some 39), none, [3], none, .q (.mv (.t 3))⟩,
    ⟨(some 40), none, [38, 39], none, .q (.iad 4 (.t 38) (.t 39))⟩,
    ⟨(some 41), none, [40], none, .q (.fad 2 (.t 40))⟩,
    ⟨(some 42), none, [41], none, .q (.ld false 1 (.t 41))⟩,
    ⟨(some 43), none, [42], none, .q (.len (.t 42))⟩,
    ⟨(some 44), none, [43], none, .q (.bin .gtr (.t 43) (.k (.i 60)))⟩])
  (.keep [1, 3, 44] (.cond (.t 44)
    (.seq (.reg false [⟨(some 2), none, [], none, .q (.mv (.k (.b true)))⟩])
    .ret)
    .skip))))
  (.keep [1, 3] (.reg false [⟨(some 35), none, [3], none, .q (.mv (.t 3))⟩,
    ⟨(some 36), none, [35], none, .q (.bin .add (.t 35) (.k (.i 1)))⟩,
    ⟨(some 3), none, [36], none, .q (.mv (.t 36))⟩])))))))))
  (.keep [1] (.seq (.seq (.reg false [⟨(some 45), none, [1], none, .q (.ld true 6 (.t 1))⟩,
    ⟨(some 46), none, [45], none, .q (.call (.k (.fn 39 [])) [(.t 45)])⟩,
    ⟨(some 47), none, [46], none, .q (.bin .neq (.t 46) (.k (.i 0)))⟩])
  (.keep [1, 47] (.cond (.t 47)
    (.seq (.reg false [⟨(some 2), none, [], none, .q (.mv (.k (.b false)))⟩])
    .ret)
    .skip)))
  (.keep [1] (.seq (.reg false [⟨(some 4), none, [], none, .q (.mv (.k (.i 1)))⟩])
  (.keep [1, 4] (.seq (.seq (.reg false [⟨(some 5), none, [], none, .q (.mv (.k (.i 0)))⟩])
  (.keep [1, 4, 5] (.block 2 (.loop [1, 4, 5] none (.seq (.seq (.reg false [⟨(some 48), none, [5], none, .q (.mv (.t 5))⟩,
    ⟨(some 49), none, [1], none, .q (.fad 0 (.t 1))⟩,
    ⟨(some 50), none, [49], none, .q (.ld false 1 (.t 49))⟩,
    ⟨(some 51), none, [50], none, .q (.len (.t 50))⟩,
    ⟨(some 52), none, [48, 51], none, .q (.bin .lss (.t 48) (.t 51))⟩])
  (.keep [1, 4, 5, 52] (.cond (.t 52)
    .skip
    (.exit 2))))
  (.keep [1, 4, 5] (.seq (.block 3 (.seq (.reg false [⟨(some 6), none, [], none, .q (.mv (.k (.i 0)))⟩])
  (.keep [1, 4, 5, 6] (.seq (.seq (.reg false [⟨(some 55), none, [1], none, .q (.fad 0 (.t 1))⟩,
    ⟨(some 56), none, [55], none, .q (.ld false 1 (.t 55))⟩,
    ⟨(some 57), none, [5], none, .q (.mv (.t 5))⟩,
    ⟨(some 58), none, [56, 57], none, .q (.iad 4 (.t 56) (.t 57))⟩,
    ⟨(some 59), none, [58], none, .q (.fad 0 (.t 58))⟩,
    ⟨(some 60), none, [59], none, .q (.fad 0 (.t 59))⟩,
    ⟨(some 61), none, [60], none, .q (.ld false 1 (.t 60))⟩,
    ⟨(some 7), none, [61], none, .q (.mv (.t 61))⟩])
  (.keep [1, 4, 5, 6, 7] (.block 4 (.loop [1, 4, 5, 6, 7] none (.seq (.seq (.reg false [⟨(some 62), none, [7], none, .q (.mv (.t 7))⟩,
    ⟨(some 63), none, [1], none, .q (.fad 0 (.t 1))⟩,
    ⟨(some 64), none, [63], none, .q (.ld false 1 (.t 63))⟩,
    ⟨(some 65), none, [5], none, .q (.mv (.t 5))⟩,
    ⟨(some 66), none, [64, 65], none, .q (.iad 4 (.t 64) (.t 65))⟩,
    ⟨(some 67), none, [66], none, .q (.fad 0 (.t 66))⟩,
    ⟨(some 68), none, [67], none, .q (.fad 1 (.t 67))⟩,
    ⟨(some 69), none, [68], none, .q (.ld false 1 (.t 68))⟩,
    ⟨(some 70), none, [62, 69], none, .q (.bin .leq (.t 62) (.t 69))⟩])
  (.keep [1, 4, 5, 6, 7, 70] (.cond (.t 70)
    .skip
    (.exit 4))))
  (.keep [1, 4, 5, 6, 7] (.seq (.block 5 (.seq (.reg false [⟨(some 73), none, [1], none, .q (.fad 0 (.t 1))⟩,
    ⟨(some 74), none, [73], none, .q (.ld false 1 (.t 73))⟩,
    ⟨(some 75), none, [5], none, .q (.mv (.t 5))⟩,
    ⟨(some 76), none, [74, 75], none, .q (.iad 4 (.t 74) (.t 75))⟩,
    ⟨(some 77), none, [76], none, .q (.ld true 4 (.t 76))⟩,
    ⟨(some 78), none, [7], none, .q (.mv (.t 7))⟩,
    ⟨(some 79), none, [77, 78], none, .q (.call (.k (.fn 49 [])) [(.t 77), (.t 78)])⟩])
  (.keep [1, 4, 5, 6, 7, 79] (.cond (.t 79)
    (.reg false [⟨(some 80), none, [6], none, .q (.mv (.t 6))⟩,
      ⟨(some 81), none, [80], none, .q (.bin .add (.t 80) (.k (.i 1)))⟩,
      ⟨(some 6), none, [81], none, .q (.mv (.t 81))⟩])
    .skip))))
  (.keep [1, 4, 5, 6, 7] (.reg false [⟨(some 71), none, [7], none, .q (.mv (.t 7))⟩,
    ⟨(some 72), none, [71], none, .q (.bin .add (.t 71) (.k (.i 1)))⟩,
    ⟨(some 7), none, [72], none, .q (.mv (.t 72))⟩])))))))))
  (.keep [1, 4, 5, 6] (.reg false [⟨(some 82), none, [4], none, .q (.mv (.t 4))⟩,
    ⟨(some 83), none, [6], none, .q (.mv (.t 6))⟩,
    ⟨(some 84), none, [82, 83], none, .q (.bin .mul (.t 82) (.t 83))⟩,
    ⟨(some 4), none, [84], none, .q (.mv (.t 84))⟩]))))))
  (.keep [1, 4, 5] (.reg false [⟨(some 53), none, [5], none, .q (.mv (.t 5))⟩,
    ⟨(some 54), none, [53], none, .q (.bin .add (.t 53) (.k (.i 1)))⟩,
    ⟨(some 5), none, [54], none, .q (.mv (.t 54))⟩])))))))))
  (.keep [1, 4] (.seq (.reg true [⟨(some 85), none, [4], none, .q (.mv (.t 4))⟩,
    ⟨(some 86), none, [85], none, .q (.bin .gtr (.t 85) (.k (.i 49)))⟩,
    ⟨(some 87), none, [86], none, .q (.mv (.t 86))⟩,
    ⟨(some 88), (some (87, false)), [1], none, .q (.fad 1 (.t 1))⟩,
    ⟨(some 89), (some (87, false)), [88], none, .q (.ld false 1 (.t 88))⟩,
    ⟨(some 90), (some (87, false)), [89], none, .q (.len (.t 89))⟩,
    ⟨(some 91), (some (87, false)), [90], none, .q (.bin .gtr (.t 90) (.k (.i 8)))⟩,
    ⟨(some 92), none, [87, 91], none, .q (.pick (.t 87) (.k (.b true)) (.t 91))⟩,
    ⟨(some 93), none, [92], none, .q (.mv (.t 92))⟩,
    ⟨(some 94), (some (93, false)), [1], none, .q (.fad 3 (.t 1))⟩,
    ⟨(some 95), (some (93, false)), [94], none, .q (.ld false 1 (.t 94))⟩,
    ⟨(some 96), (some (93, false)), [95], none, .q (.len (.t 95))⟩,
    ⟨(some 97), (some (93, false)), [96], none, .q (.bin .gtr (.t 96) (.k (.i 4)))⟩,
    ⟨(some 98), none, [93, 97], none, .q (.pick (.t 93) (.k (.b true)) (.t 97))⟩,
    ⟨(some 2), none, [98], none, .q (.mv (.t 98))⟩])
  .ret)))))))))))))
def pu21 : List Nat := [1]
def rs21 : List RV := [.t 2]
theorem cc21 : comp Try.prog pu21 (Try.f21.ntmps, 0) 0 1 rc21 (Try.f21.body.getD .skip) = some rc21 := by kernel_rfl
theorem cb21 : Try.f21.body = some (Try.f21.body.getD .skip) := by kernel_rfl
theorem cs21 : resRV Try.prog Try.f21.results.toList = some rs21 := by kernel_rfl
theorem cn21 : 1 ≤ Try.f21.ntmps := by decide
/- ferrule/ferruleref02.Copy: params [26], free 0, slots 47 -/
def rc22 : RC :=
  (.seq (.reg false [⟨(some 1), none, [0], none, .q (.box (.t 0))⟩,
    ⟨(some 2), none, [], none, .w (.alc [(.z 4), (.z 1), (.i 0), (.z 2), (.z 1), (.i 0)])⟩])
  (.keep [1, 2] (.seq (.reg false [⟨(some 5), none, [1], none, .q (.ld true 6 (.t 1))⟩,
    ⟨(some 3), none, [], none, .w (.alc [(.z 4), (.z 1), (.i 0), (.z 2), (.z 1), (.i 0)])⟩,
    ⟨none, none, [3, 5], none, .w (.st 6 (.t 3) (.t 5))⟩])
  (.keep [1, 2, 3] (.seq (.reg false [⟨(some 6), none, [], none, .w (.bso 4 0 [(.i 0), (.i 0), (.z 3), (.i 0)] [])⟩,
    ⟨(some 7), none, [1], none, .q (.fad 0 (.t 1))⟩,
    ⟨(some 8), none, [7], none, .q (.ld false 1 (.t 7))⟩,
    ⟨(some 9), none, [6, 8], none, .w (.app 4 (.t 6) (.t 8))⟩,
    ⟨(some 10), none, [3], none, .q (.fad 0 (.t 3))⟩,
    ⟨none, none, [10, 9], none, .w (.st 1 (.t 10) (.t 9))⟩])
  (.keep [1, 2, 3] (.seq (.seq (.reg false [⟨(some 4), none, [], none, .q (.mv (.k (.i 0)))⟩])
  (.keep [1, 2, 3, 4] (.block 0 (.loop [1, 2, 3, 4] (some 3) (.seq (.seq (.reg false [⟨(some 11), none, [4], none, .q (.mv (.t 4))⟩,
    ⟨(some 12), none, [3], none, .q (.fad 0 (.t 3))⟩,
    ⟨(some 13), none, [12], none, .q (.ld false 1 (.t 12))⟩,
    ⟨(some 14), none, [13], none, .q (.len (.t 13))⟩,
    ⟨(some 15), none, [11, 14], none, .q (.bin .lss (.t 11) (.t 14))⟩])
  (.keep [1, 2, 3, 4, 15] (.cond (.t 15)
    .skip
    (.exit 0))))
  (.keep [1, 2, 3, 4] (.seq (.block 1 (.any false 2 [⟨⟨(some 18), none, [3], none, .q (.fad 0 (.t 3))⟩, [], []⟩,
    ⟨⟨(some 19), none, [18], none, .q (.ld false 1 (.t 18))⟩, [], [0]⟩,
    ⟨⟨(some 20), none, [4], none, .q (.mv (.t 4))⟩, [], []⟩,
    ⟨⟨(some 21), none, [], (some 0), .w (.bso 3 0 [(.i 0), (.i 0), (.i 0)] [])⟩, [0, 1, 2], []⟩,
    ⟨⟨(some 22), none, [1], none, .q (.fad 0 (.t 1))⟩, [3], []⟩,
    ⟨⟨(some 23), none, [22], none, .q (.ld false 1 (.t 22))⟩, [3], [4]⟩,
    ⟨⟨(some 24), none, [4], none, .q (.mv (.t 4))⟩, [3], []⟩,
    ⟨⟨(some 25), none, [23, 24], none, .q (.iad 4 (.t 23) (.t 24))⟩, [3], [5, 4, 6]⟩,
    ⟨⟨(some 26), none, [25], none, .q (.fad 2 (.t 25))⟩, [3], [7, 5, 4, 6]⟩,
    ⟨⟨(some 27), none, [26], none, .q (.ld false 1 (.t 26))⟩, [3], [8, 7, 5, 4, 6]⟩,
    ⟨⟨(some 28), none, [21, 27], (some 1), .w (.app 3 (.t 21) (.t 27))⟩, [0, 1, 2], [3, 9, 8, 7, 5, 4, 6]⟩,
    ⟨⟨(some 29), none, [19, 20], none, .q (.iad 4 (.t 19) (.t 20))⟩, [], [1, 0, 2, 3, 4, 5, 6, 7, 8, 9, 10]⟩,
    ⟨⟨(some 30), none, [29], none, .q (.fad 2 (.t 29))⟩, [], [11, 1, 0, 2, 3, 4, 5, 6, 7, 8, 9, 10]⟩,
    ⟨⟨none, none, [30, 28], none, .w (.st 1 (.t 30) (.t 28))⟩, [], [12, 11, 1, 0, 2, 3, 4, 5, 6, 7, 8, 9, 10]⟩]))
  (.drp 3 (.keep [1, 2, 3, 4] (.reg false [⟨(some 16), none, [4], none, .q (.mv (.t 4))⟩,
    ⟨(some 17), none, [16], none, .q (.bin .add (.t 16) (.k (.i 1)))⟩,
    ⟨(some 4), none, [17], none, .q (.mv (.t 17))⟩]))))))))))
  (.keep [1, 2, 3] (.seq (.any false 6 [⟨⟨(some 31), none, [], (some 0), .w (.bso 1 0 [(.i 0)] [])⟩, [], []⟩,
    ⟨⟨(some 32), none, [1], none, .q (.fad 1 (.t 1))⟩, [0], []⟩,
    ⟨⟨(some 33), none, [32], none, .q (.ld false 1 (.t 32))⟩, [0], [1]⟩,
    ⟨⟨(some 34), none, [31, 33], (some 1), .w (.app 1 (.t 31) (.t 33))⟩, [], [0, 2, 1]⟩,
    ⟨⟨(some 35), none, [], (some 2), .w (.bso 2 0 [(.i 0), (.i 0)] [])⟩, [0, 1, 2, 3], []⟩,
    ⟨⟨(some 36), none, [1], none, .q (.fad 3 (.t 1))⟩, [0, 3, 4], []⟩,
    ⟨⟨(some 37), none, [36], none, .q (.ld false 1 (.t 36))⟩, [0, 3, 4], [5]⟩,
    ⟨⟨(some 38), none, [35, 37], (some 3), .w (.app 2 (.t 35) (.t 37))⟩, [], [4, 6, 5, 3, 0, 2, 1]⟩,
    ⟨⟨(some 39), none, [], (some 4), .w (.bso 1 0 [(.i 0)] [])⟩, [0, 1, 2, 3, 4, 5, 6, 7], []⟩,
    ⟨⟨(some 40), none, [1], none, .q (.fad 4 (.t 1))⟩, [0, 3, 4, 7, 8], []⟩,
    ⟨⟨(some 41), none, [40], none, .q (.ld false 1 (.t 40))⟩, [0, 3, 4, 7, 8], [9]⟩,
    ⟨⟨(some 42), none, [39, 41], (some 5), .w (.app 1 (.t 39) (.t 41))⟩, [], [8, 10, 9, 7, 4, 6, 5, 3, 0, 2, 1]⟩,
    ⟨⟨(some 43), none, [3], none, .q (.fad 1 (.t 3))⟩, [4, 7, 8, 11], [0, 1, 2, 3]⟩,
    ⟨⟨none, none, [43, 34], none, .w (.st 1 (.t 43) (.t 34))⟩, [], [12, 0, 1, 2, 3, 11, 8, 10, 9, 7, 4, 6, 5]⟩,
    ⟨⟨(some 44), none, [3], none, .q (.fad 3 (.t 3))⟩, [], [0, 1, 2, 3, 4, 5, 6, 7, 12, 13, 11, 8, 10, 9]⟩,
    ⟨⟨none, none, [44, 38], none, .w (.st 1 (.t 44) (.t 38))⟩, [], [14, 0, 1, 2, 3, 4, 5, 6, 7, 12, 13, 11, 8, 10, 9]⟩,
    ⟨⟨(some 45), none, [3], none, .q (.fad 4 (.t 3))⟩, [], [0, 1, 2, 3, 4, 5, 6, 7, 8, 9, 10, 11, 12, 13, 14, 15]⟩,
    ⟨⟨none, none, [45, 42], none, .w (.st 1 (.t 45) (.t 42))⟩, [], [16, 0, 1, 2, 3, 4, 5, 6, 7, 8, 9, 10, 11, 12, 13, 14, 15]⟩])
  (.keep [2, 3] (.seq (.reg false [⟨(some 46), none, [3], none, .q (.ld true 6 (.t 3))⟩,
    ⟨none, none, [2, 46], none, .w (.st 6 (.t 2) (.t 46))⟩])
  .ret)))))))))))
def pu22 : List Nat := [1]
def rs22 : List RV := [.c 2 true 6]
theorem cc22 : comp Try.prog pu22 (Try.f22.ntmps, 0) 0 1 rc22 (Try.f22.body.getD .skip) = some rc22 := by kernel_rfl
theorem cb22 : Try.f22.body = some (Try.f22.body.getD .skip) := by kernel_rfl
theorem cs22 : resRV Try.prog Try.f22.results.toList = some rs22 := by kernel_rfl
theorem cn22 : 1 ≤ Try.f22.ntmps := by decide
/- ferrule/cloth.Round: params [26, 3], free 0, slots 27 -/
def rc23 : RC :=
  (.seq (.reg false [⟨(some 2), none, [0], none, .q (.box (.t 0))⟩,
    ⟨(some 4), none, [], none, .w (.alc [(.i 0), (.i 0)])⟩,
    ⟨(some 5), none, [], none, .q (.mv (.k (.i 0)))⟩])
  (.keep [1, 2, 4] (.seq (.any false 0 [⟨⟨(some 9), none, [2], none, .q (.ld true 6 (.t 2))⟩, [], []⟩,
    ⟨⟨(some 10), none, [2], none, .q (.ld true 6 (.t 2))⟩, [], []⟩,
    ⟨⟨(some 11), none, [1], none, .q (.mv (.t 1))⟩, [], []⟩,
    ⟨⟨(some 12), none, [10, 11], none, .q (.call (.k (.fn 46 [])) [(.t 10), (.t 11)])⟩, [], [1, 2]⟩,
    ⟨⟨(some 13), none, [9, 12], none, .q (.call (.k (.fn 45 [])) [(.t 9), (.t 12)])⟩, [], [0, 3, 1, 2]⟩,
    ⟨⟨(some 8), none, [13], none, .q (.mv (.t 13))⟩, [], [4, 0, 3, 1, 2]⟩,
    ⟨⟨(some 14), none, [8], none, .q (.ext (.t 8) 0)⟩, [], [5, 4, 0, 3, 1, 2]⟩,
    ⟨⟨(some 15), none, [8], none, .q (.ext (.t 8) 1)⟩, [], [5, 4, 0, 3, 1, 2]⟩,
    ⟨⟨(some 6), none, [14], none, .q (.mv (.t 14))⟩, [], [6, 5, 4, 0, 3, 1, 2]⟩,
    ⟨⟨(some 7), none, [15], none, .q (.mv (.t 15))⟩, [], [7, 5, 4, 0, 3, 1, 2, 8, 6]⟩])
  (.keep [1, 2, 4, 6, 7] (.seq (.seq (.reg false [⟨(some 16), none, [7], none, .q (.mv (.t 7))⟩,
    ⟨(some 17), none, [16], none, .q (.bin .neq (.t 16) (.k (.i 0)))⟩])
  (.keep [1, 2, 4, 6, 7, 17] (.cond (.t 17)
    (.seq (.reg false [⟨(some 18), none, [], none, .q (.bld [(.i 0), (.i 0)] [])⟩,
      ⟨(some 19), none, [7], none, .q (.mv (.t 7))⟩,
      ⟨none, none, [4, 18], none, .w (.st 2 (.t 4) (.t 18))⟩,
      ⟨(some 5), none, [19], none, .q (.mv (.t 19))⟩])
    .ret)
    .skip)))
  (.keep [1, 2, 4, 6] (.seq (.reg false [⟨(some 20), none, [6], none, .q (.mv (.t 6))⟩,
    ⟨(some 21), none, [2], none, .q (.fad 4 (.t 2))⟩,
    ⟨(some 22), none, [21], none, .q (.ld false 1 (.t 21))⟩,
    ⟨(some 23), none, [1], none, .q (.mv (.t 1))⟩,
    ⟨(some 24), none, [22, 23], none, .q (.iad 1 (.t 22) (.t 23))⟩,
    ⟨(some 25), none, [24], none, .q (.ld false 1 (.t 24))⟩,
    ⟨(some 26), none, [20, 25], none, .q (.call (.k (.fn 50 [])) [(.t 20), (.t 25)])⟩,
    ⟨none, none, [4, 26], none, .w (.st 2 (.t 4) (.t 26))⟩,
    ⟨(some 5), none, [], none, .q (.mv (.k (.i 0)))⟩])
  .ret)))))))
def pu23 : List Nat := [2]
def rs23 : List RV := [.c 4 true 2, .t 5]
theorem cc23 : comp Try.prog pu23 (Try.f23.ntmps, 0) 0 1 rc23 (Try.f23.body.getD .skip) = some rc23 := by kernel_rfl
theorem cb23 : Try.f23.body = some (Try.f23.body.getD .skip) := by kernel_rfl
theorem cs23 : resRV Try.prog Try.f23.results.toList = some rs23 := by kernel_rfl
theorem cn23 : 2 ≤ Try.f23.ntmps := by decide
/- ferrule/ferruleref02.Round: params [26, 3], free 0, slots 61 -/
def rc24 : RC :=
  (.seq (.reg false [⟨(some 2), none, [0], none, .q (.box (.t 0))⟩,
    ⟨(some 4), none, [], none, .w (.alc [(.i 0), (.i 0)])⟩,
    ⟨(some 5), none, [], none, .q (.mv (.k (.i 0)))⟩])
  (.keep [1, 2, 4] (.seq (.reg false [⟨(some 12), none, [2], none, .q (.ld true 6 (.t 2))⟩,
    ⟨(some 13), none, [1], none, .q (.mv (.t 1))⟩,
    ⟨(some 14), none, [12, 13], none, .q (.call (.k (.fn 51 [])) [(.t 12), (.k (.i 0)), (.t 13)])⟩,
    ⟨(some 11), none, [14], none, .q (.mv (.t 14))⟩,
    ⟨(some 15), none, [11], none, .q (.ext (.t 11) 0)⟩,
    ⟨(some 16), none, [11], none, .q (.ext (.t 11) 1)⟩,
    ⟨(some 6), none, [15], none, .q (.mv (.t 15))⟩,
    ⟨(some 7), none, [16], none, .q (.mv (.t 16))⟩])
  (.keep [1, 2, 4, 6, 7] (.seq (.seq (.reg false [⟨(some 17), none, [7], none, .q (.mv (.t 7))⟩,
    ⟨(some 18), none, [17], none, .q (.bin .neq (.t 17) (.k (.i 0)))⟩])
  (.keep [1, 2, 4, 6, 7, 18] (.cond (.t 18)
    (.seq (.reg false [⟨(some 19), none, [], none, .q (.bld [(.i 0), (.i 0)] [])⟩,
      ⟨(some 20), none, [7], none, .q (.mv (.t 7))⟩,
      ⟨none, none, [4, 19], none, .w (.st 2 (.t 4) (.t 19))⟩,
      ⟨(some 5), none, [20], none, .q (.mv (.t 20))⟩])
    .ret)
    .skip)))
  (.keep [1, 2, 4, 6] (.seq (.any false 0 [⟨⟨(some 21), none, [2], none, .q (.ld true 6 (.t 2))⟩, [], []⟩,
    ⟨⟨(some 22), none, [2], none, .q (.fad 4 (.t 2))⟩, [], []⟩,
    ⟨⟨(some 23), none, [22], none, .q (.ld false 1 (.t 22))⟩, [], [1]⟩,
    ⟨⟨(some 24), none, [1], none, .q (.mv (.t 1))⟩, [], []⟩,
    ⟨⟨(some 25), none, [23, 24], none, .q (.iad 1 (.t 23) (.t 24))⟩, [], [2, 1, 3]⟩,
    ⟨⟨(some 26), none, [25], none, .q (.ld false 1 (.t 25))⟩, [], [4, 2, 1, 3]⟩,
    ⟨⟨(some 27), none, [6], none, .q (.mv (.t 6))⟩, [], []⟩,
    ⟨⟨(some 28), none, [27], none, .q (.iad 1 (.t 27) (.k (.i 0)))⟩, [], [6]⟩,
    ⟨⟨(some 29), none, [28], none, .q (.ld false 1 (.t 28))⟩, [], [7, 6]⟩,
    ⟨⟨(some 30), none, [21, 26, 29], none, .q (.call (.k (.fn 38 [])) [(.t 21), (.t 26), (.t 29)])⟩, [], [0, 5, 4, 2, 1, 3, 8, 7, 6]⟩,
    ⟨⟨(some 8), none, [30], none, .q (.mv (.t 30))⟩, [], [9, 0, 5, 4, 2, 1, 3, 8, 7, 6]⟩])
  (.keep [1, 2, 4, 6, 8] (.seq (.reg false [⟨(some 31), none, [8], none, .q (.mv (.t 8))⟩,
    ⟨(some 32), none, [8], none, .q (.mv (.t 8))⟩,
    ⟨(some 33), none, [31, 32], none, .q (.bld [(.i 0), (.i 0)] [(0, 1, (.t 31)), (1, 1, (.t 32))])⟩,
    ⟨(some 9), none, [], none, .w (.alc [(.i 0), (.i 0)])⟩,
    ⟨none, none, [9, 33], none, .w (.st 2 (.t 9) (.t 33))⟩])
  (.keep [1, 2, 4, 6, 9] (.seq (.seq (.reg false [⟨(some 10), none, [], none, .q (.mv (.k (.i 0)))⟩])
  (.keep [1, 2, 4, 6, 9, 10] (.block 0 (.loop [1, 2, 4, 6, 9, 10] none (.seq (.seq (.reg false [⟨(some 34), none, [10], none, .q (.mv (.t 10))⟩,
    ⟨(some 35), none, [6], none, .q (.mv (.t 6))⟩,
    ⟨(some 36), none, [35], none, .q (.len (.t 35))⟩,
    ⟨(some 37), none, [34, 36], none, .q (.bin .lss (.t 34) (.t 36))⟩])
  (.keep [1, 2, 4, 6, 9, 10, 37] (.cond (.t 37)
    .skip
    (.exit 0))))
  (.keep [1, 2, 4, 6, 9, 10] (.seq (.block 1 (.seq (.any false 0 [⟨⟨(some 40), none, [2], none, .q (.ld true 6 (.t 2))⟩, [], []⟩,
    ⟨⟨(some 41), none, [2], none, .q (.fad 4 (.t 2))⟩, [], []⟩,
    ⟨⟨(some 42), none, [41], none, .q (.ld false 1 (.t 41))⟩, [], [1]⟩,
    ⟨⟨(some 43), none, [1], none, .q (.mv (.t 1))⟩, [], []⟩,
    ⟨⟨(some 44), none, [42, 43], none, .q (.iad 1 (.t 42) (.t 43))⟩, [], [2, 1, 3]⟩,
    ⟨⟨(some 45), none, [44], none, .q (.ld false 1 (.t 44))⟩, [], [4, 2, 1, 3]⟩,
    ⟨⟨(some 46), none, [6], none, .q (.mv (.t 6))⟩, [], []⟩,
    ⟨⟨(some 47), none, [10], none, .q (.mv (.t 10))⟩, [], []⟩,
    ⟨⟨(some 48), none, [46, 47], none, .q (.iad 1 (.t 46) (.t 47))⟩, [], [6, 7]⟩,
    ⟨⟨(some 49), none, [48], none, .q (.ld false 1 (.t 48))⟩, [], [8, 6, 7]⟩,
    ⟨⟨(some 50), none, [40, 45, 49], none, .q (.call (.k (.fn 38 [])) [(.t 40), (.t 45), (.t 49)])⟩, [], [0, 5, 4, 2, 1, 3, 9, 8, 6, 7]⟩,
    ⟨⟨(some 8), none, [50], none, .q (.mv (.t 50))⟩, [], [10, 0, 5, 4, 2, 1, 3, 9, 8, 6, 7]⟩])
  (.keep [1, 2, 4, 6, 8, 9, 10] (.reg false [⟨(some 51), none, [9], none, .q (.fad 0 (.t 9))⟩,
    ⟨(some 52), none, [51], none, .q (.ld false 1 (.t 51))⟩,
    ⟨(some 53), none, [8], none, .q (.mv (.t 8))⟩,
    ⟨(some 54), none, [52, 53], none, .q (.mn (.t 52) (.t 53))⟩,
    ⟨(some 55), none, [9], none, .q (.fad 1 (.t 9))⟩,
    ⟨(some 56), none, [55], none, .q (.ld false 1 (.t 55))⟩,
    ⟨(some 57), none, [8], none, .q (.mv (.t 8))⟩,
    ⟨(some 58), none, [56, 57], none, .q (.mx (.t 56) (.t 57))⟩,
    ⟨(some 59), none, [54, 58], none, .q (.bld [(.i 0), (.i 0)] [(0, 1, (.t 54)), (1, 1, (.t 58))])⟩,
    ⟨none, none, [9, 59], none, .w (.st 2 (.t 9) (.t 59))⟩]))))
  (.keep [1, 2, 4, 6, 9, 10] (.reg false [⟨(some 38), none, [10], none, .q (.mv (.t 10))⟩,
    ⟨(some 39), none, [38], none, .q (.bin .add (.t 38) (.k (.i 1)))⟩,
    ⟨(some 10), none, [39], none, .q (.mv (.t 39))⟩])))))))))
  (.keep [4, 9] (.seq (.reg false [⟨(some 60), none, [9], none, .q (.ld true 2 (.t 9))⟩,
    ⟨none, none, [4, 60], none, .w (.st 2 (.t 4) (.t 60))⟩,
    ⟨(some 5), none, [], none, .q (.mv (.k (.i 0)))⟩])
  .ret)))))))))))))
def pu24 : List Nat := [2]
def rs24 : List RV := [.c 4 true 2, .t 5]
theorem cc24 : comp Try.prog pu24 (Try.f24.ntmps, 0) 0 1 rc24 (Try.f24.body.getD .skip) = some rc24 := by kernel_rfl
theorem cb24 : Try.f24.body = some (Try.f24.body.getD .skip) := by kernel_rfl
theorem cs24 : resRV Try.prog Try.f24.results.toList = some rs24 := by kernel_rfl
theorem cn24 : 2 ≤ Try.f24.ntmps := by decide
/- ferrule/ferruleref02.Tight: params [26, 3], free 0, slots 32 -/
def rc25 : RC :=
  (.seq (.reg false [⟨(some 2), none, [0], none, .q (.box (.t 0))⟩,
    ⟨(some 4), none, [], none, .q (.mv (.k (.i 0)))⟩,
    ⟨(some 5), none, [], none, .q (.mv (.k (.i 0)))⟩])
  (.keep [1, 2] (.seq (.reg false [⟨(some 9), none, [2], none, .q (.ld true 6 (.t 2))⟩,
    ⟨(some 10), none, [1], none, .q (.mv (.t 1))⟩,
    ⟨(some 11), none, [9, 10], none, .q (.call (.k (.fn 51 [])) [(.t 9), (.k (.i 0)), (.t 10)])⟩,
    ⟨(some 8), none, [11], none, .q (.mv (.t 11))⟩,
    ⟨(some 12), none, [8], none, .q (.ext (.t 8) 0)⟩,
    ⟨(some 13), none, [8], none, .q (.ext (.t 8) 1)⟩,
    ⟨(some 6), none, [12], none, .q (.mv (.t 12))⟩,
    ⟨(some 7), none, [13], none, .q (.mv (.t 13))⟩])
  (.keep [1, 2, 6, 7] (.seq (.seq (.reg false [⟨(some 14), none, [7], none, .q (.mv (.t 7))⟩,
    ⟨(some 15), none, [14], none, .q (.bin .neq (.t 14) (.k (.i 0)))⟩])
  (.keep [1, 2, 6, 7, 15] (.cond (.t 15)
    (.seq (.reg false [⟨(some 16), none, [7], none, .q (.mv (.t 7))⟩,
      ⟨(some 4), none, [], none, .q (.mv (.k (.i 0)))⟩,
      ⟨(some 5), none, [16], none, .q (.mv (.t 16))⟩])
    .ret)
    .skip)))
  (.keep [1, 2, 6] (.seq (.seq (.any false 0 [⟨⟨(some 17), none, [2], none, .q (.ld true 6 (.t 2))⟩, [], []⟩,
    ⟨⟨(some 18), none, [6], none, .q (.mv (.t 6))⟩, [], []⟩,
    ⟨⟨(some 19), none, [1], none, .q (.mv (.t 1))⟩, [], []⟩,
    ⟨⟨(some 20), none, [2], none, .q (.fad 4 (.t 2))⟩, [], []⟩,
    ⟨⟨(some 21), none, [20], none, .q (.ld false 1 (.t 20))⟩, [], [3]⟩,
    ⟨⟨(some 22), none, [1], none, .q (.mv (.t 1))⟩, [], []⟩,
    ⟨⟨(some 23), none, [21, 22], none, .q (.iad 1 (.t 21) (.t 22))⟩, [], [4, 3, 5]⟩,
    ⟨⟨(some 24), none, [23], none, .q (.ld false 1 (.t 23))⟩, [], [6, 4, 3, 5]⟩,
    ⟨⟨(some 25), none, [17, 18, 19, 24], none, .q (.call (.k (.fn 52 [])) [(.t 17), (.t 18), (.t 19), (.t 24)])⟩, [], [0, 1, 2, 7, 6, 4, 3, 5]⟩])
  (.keep [6, 25] (.block 0 (.seq (.reg false [⟨(some 27), none, [6], none, .q (.mv (.t 6))⟩,
    ⟨(some 28), none, [27], none, .q (.len (.t 27))⟩,
    ⟨(some 29), none, [25, 28], none, .q (.bin .eql (.t 25) (.t 28))⟩,
    ⟨(some 26), none, [29], none, .q (.mv (.t 29))⟩])
  (.keep [25, 26] (.cond (.t 26)
    (.seq (.reg false [⟨(some 4), none, [], none, .q (.mv (.k (.i 1)))⟩,
      ⟨(some 5), none, [], none, .q (.mv (.k (.i 0)))⟩])
    .ret)
    (.seq (.reg false [⟨(some 31), none, [25], none, .q (.bin .eql (.t 25) (.k (.i 0)))⟩,
      ⟨(some 30), none, [31], none, .q (.mv (.t 31))⟩])
    (.keep [30] (.cond (.t 30)
      (.seq (.reg false [⟨(some 4), none, [], none, .q (.mv (.k (.i 2)))⟩,
        ⟨(some 5), none, [], none, .q (.mv (.k (.i 0)))⟩])
      .ret)
      .skip)))))))))
  (.keep [] (.seq (.reg false [⟨(some 4), none, [], none, .q (.mv (.k (.i 3)))⟩,
    ⟨(some 5), none, [], none, .q (.mv (.k (.i 0)))⟩])
  .ret)))))))))
def pu25 : List Nat := [2]
def rs25 : List RV := [.t 4, .t 5]
theorem cc25 : comp Try.prog pu25 (Try.f25.ntmps, 0) 0 1 rc25 (Try.f25.body.getD .skip) = some rc25 := by kernel_rfl
theorem cb25 : Try.f25.body = some (Try.f25.body.getD .skip) := by kernel_rfl
theorem cs25 : resRV Try.prog Try.f25.results.toList = some rs25 := by kernel_rfl
theorem cn25 : 2 ≤ Try.f25.ntmps := by decide
/- ferrule/cloth.Loose: params [26], free 0, slots 36 -/
def rc26 : RC :=
  (.seq (.reg false [⟨(some 1), none, [0], none, .q (.box (.t 0))⟩,
    ⟨(some 2), none, [], none, .q (.mv (.k (.z 1)))⟩,
    ⟨(some 3), none, [], none, .q (.mv (.k (.i 0)))⟩])
  (.keep [1] (.seq (.reg false [⟨(some 10), none, [1], none, .q (.ld true 6 (.t 1))⟩,
    ⟨(some 11), none, [10], none, .q (.call (.k (.fn 45 [])) [(.t 10), (.k (.b true))])⟩,
    ⟨(some 9), none, [11], none, .q (.mv (.t 11))⟩,
    ⟨(some 12), none, [9], none, .q (.ext (.t 9) 0)⟩,
    ⟨(some 13), none, [9], none, .q (.ext (.t 9) 1)⟩,
    ⟨(some 4), none, [12], none, .q (.mv (.t 12))⟩,
    ⟨(some 5), none, [13], none, .q (.mv (.t 13))⟩])
  (.keep [1, 4, 5] (.seq (.seq (.reg false [⟨(some 14), none, [5], none, .q (.mv (.t 5))⟩,
    ⟨(some 15), none, [14], none, .q (.bin .neq (.t 14) (.k (.i 0)))⟩])
  (.keep [1, 4, 5, 15] (.cond (.t 15)
    (.seq (.reg false [⟨(some 16), none, [5], none, .q (.mv (.t 5))⟩,
      ⟨(some 2), none, [], none, .q (.mv (.k (.z 1)))⟩,
      ⟨(some 3), none, [16], none, .q (.mv (.t 16))⟩])
    .ret)
    .skip)))
  (.keep [1, 4] (.seq (.reg false [⟨(some 6), none, [], none, .q (.mv (.k (.z 1)))⟩])
  (.keep [1, 4, 6] (.seq (.seq (.reg false [⟨(some 17), none, [1], none, .q (.fad 4 (.t 1))⟩,
    ⟨(some 18), none, [17], none, .q (.ld false 1 (.t 17))⟩,
    ⟨(some 19), none, [18], none, .q (.len (.t 18))⟩,
    ⟨(some 20), none, [], none, .q (.mv (.k (.i 0)))⟩])
  (.keep [4, 6, 18, 19, 20] (.block 0 (.own 6 1 (.loop [4, 6, 18, 19, 20] none (.seq (.reg false [⟨(some 21), none, [20, 19], none, .q (.bin .lss (.t 20) (.t 19))⟩])
  (.keep [4, 6, 18, 19, 20, 21] (.seq (.cond (.t 21)
    .skip
    (.exit 0))
  (.keep [4, 6, 18, 19, 20] (.seq (.block 1 (.seq (.reg false [⟨(some 22), none, [20], none, .q (.mv (.t 20))⟩,
    ⟨(some 23), none, [18, 20], none, .q (.iad 1 (.t 18) (.t 20))⟩,
    ⟨(some 24), none, [23], none, .q (.ld false 1 (.t 23))⟩,
    ⟨(some 7), none, [22], none, .q (.mv (.t 22))⟩,
    ⟨(some 8), none, [24], none, .q (.mv (.t 24))⟩])
  (.keep [4, 6, 7, 8, 18, 19, 20] (.seq (.reg false [⟨(some 25), none, [4], none, .q (.mv (.t 4))⟩,
    ⟨(some 26), none, [7], none, .q (.mv (.t 7))⟩,
    ⟨(some 27), none, [8], none, .q (.mv (.t 8))⟩,
    ⟨(some 28), none, [25, 26, 27], none, .q (.call (.k (.fn 47 [])) [(.t 25), (.t 26), (.t 27)])⟩,
    ⟨(some 29), none, [28], none, .q (.bin .neq (.t 28) (.k (.i 1)))⟩])
  (.keep [4, 6, 7, 18, 19, 20, 29] (.cond (.t 29)
    (.reg false [⟨(some 30), none, [6], none, .q (.mv (.t 6))⟩,
      ⟨(some 31), none, [7], none, .q (.mv (.t 7))⟩,
      ⟨(some 32), none, [31], none, .q (.bsl 1 1 [(.i 0)] [(0, 1, (.t 31))])⟩,
      ⟨(some 33), none, [30, 32], none, .w (.app 1 (.t 30) (.t 32))⟩,
      ⟨(some 6), none, [33], none, .q (.mv (.t 33))⟩])
    .skip))))))
  (.keep [4, 6, 18, 19, 20] (.reg false [⟨(some 34), none, [20], none, .q (.bin .add (.t 20) (.k (.i 1)))⟩,
    ⟨(some 20), none, [34], none, .q (.mv (.t 34))⟩]))))))))))))
  (.keep [6] (.seq (.reg false [⟨(some 35), none, [6], none, .q (.mv (.t 6))⟩,
    ⟨(some 2), none, [35], none, .q (.mv (.t 35))⟩,
    ⟨(some 3), none, [], none, .q (.mv (.k (.i 0)))⟩])
  .ret)))))))))))
def pu26 : List Nat := [1, 32]
def rs26 : List RV := [.t 2, .t 3]
theorem cc26 : comp Try.prog pu26 (Try.f26.ntmps, 0) 0 1 rc26 (Try.f26.body.getD .skip) = some rc26 := by kernel_rfl
theorem cb26 : Try.f26.body = some (Try.f26.body.getD .skip) := by kernel_rfl
theorem cs26 : resRV Try.prog Try.f26.results.toList = some rs26 := by kernel_rfl
theorem cn26 : 1 ≤ Try.f26.ntmps := by decide
/- ferrule/ferruleref02.Loose: params [26], free 0, slots 38 -/
def rc27 : RC :=
  (.seq (.reg false [⟨(some 1), none, [0], none, .q (.box (.t 0))⟩,
    ⟨(some 2), none, [], none, .q (.mv (.k (.z 1)))⟩,
    ⟨(some 3), none, [], none, .q (.mv (.k (.i 0)))⟩])
  (.keep [1] (.seq (.seq (.reg false [⟨(some 11), none, [1], none, .q (.ld true 6 (.t 1))⟩,
    ⟨(some 12), none, [11], none, .q (.call (.k (.fn 51 [])) [(.t 11), (.k (.i 0)), (.k (.i 0))])⟩,
    ⟨(some 10), none, [12], none, .q (.mv (.t 12))⟩,
    ⟨(some 13), none, [10], none, .q (.ext (.t 10) 0)⟩,
    ⟨(some 14), none, [10], none, .q (.ext (.t 10) 1)⟩,
    ⟨(some 4), none, [13], none, .q (.mv (.t 13))⟩,
    ⟨(some 5), none, [14], none, .q (.mv (.t 14))⟩])
  (.keep [1, 5] (.seq (.reg false [⟨(some 15), none, [5], none, .q (.mv (.t 5))⟩,
    ⟨(some 16), none, [15], none, .q (.bin .neq (.t 15) (.k (.i 0)))⟩])
  (.keep [1, 5, 16] (.cond (.t 16)
    (.seq (.reg false [⟨(some 17), none, [5], none, .q (.mv (.t 5))⟩,
      ⟨(some 2), none, [], none, .q (.mv (.k (.z 1)))⟩,
      ⟨(some 3), none, [17], none, .q (.mv (.t 17))⟩])
    .ret)
    .skip)))))
  (.keep [1] (.seq (.reg false [⟨(some 6), none, [], none, .q (.mv (.k (.z 1)))⟩])
  (.keep [1, 6] (.seq (.seq (.reg false [⟨(some 7), none, [], none, .q (.mv (.k (.i 0)))⟩])
  (.keep [1, 6, 7] (.block 0 (.own 6 1 (.loop [1, 6, 7] none (.seq (.seq (.reg false [⟨(some 18), none, [7], none, .q (.mv (.t 7))⟩,
    ⟨(some 19), none, [1], none, .q (.fad 3 (.t 1))⟩,
    ⟨(some 20), none, [19], none, .q (.ld false 1 (.t 19))⟩,
    ⟨(some 21), none, [20], none, .q (.len (.t 20))⟩,
    ⟨(some 22), none, [18, 21], none, .q (.bin .lss (.t 18) (.t 21))⟩])
  (.keep [1, 6, 7, 22] (.cond (.t 22)
    .skip
    (.exit 0))))
  (.keep [1, 6, 7] (.seq (.block 1 (.seq (.reg false [⟨(some 26), none, [1], none, .q (.ld true 6 (.t 1))⟩,
    ⟨(some 27), none, [7], none, .q (.mv (.t 7))⟩,
    ⟨(some 28), none, [26, 27], none, .q (.call (.k (.fn 25 [])) [(.t 26), (.t 27)])⟩,
    ⟨(some 25), none, [28], none, .q (.mv (.t 28))⟩,
    ⟨(some 29), none, [25], none, .q (.ext (.t 25) 0)⟩,
    ⟨(some 30), none, [25], none, .q (.ext (.t 25) 1)⟩,
    ⟨(some 8), none, [29], none, .q (.mv (.t 29))⟩,
    ⟨(some 9), none, [30], none, .q (.mv (.t 30))⟩])
  (.keep [1, 6, 7, 8] (.seq (.reg false [⟨(some 31), none, [8], none, .q (.mv (.t 8))⟩,
    ⟨(some 32), none, [31], none, .q (.bin .neq (.t 31) (.k (.i 1)))⟩])
  (.keep [1, 6, 7, 32] (.cond (.t 32)
    (.reg false [⟨(some 33), none, [6], none, .q (.mv (.t 6))⟩,
      ⟨(some 34), none, [7], none, .q (.mv (.t 7))⟩,
      ⟨(some 35), none, [34], none, .q (.bsl 1 1 [(.i 0)] [(0, 1, (.t 34))])⟩,
      ⟨(some 36), none, [33, 35], none, .w (.app 1 (.t 33) (.t 35))⟩,
      ⟨(some 6), none, [36], none, .q (.mv (.t 36))⟩])
    .skip))))))
  (.keep [1, 6, 7] (.reg false [⟨(some 23), none, [7], none, .q (.mv (.t 7))⟩,
    ⟨(some 24), none, [23], none, .q (.bin .add (.t 23) (.k (.i 1)))⟩,
    ⟨(some 7), none, [24], none, .q (.mv (.t 24))⟩]))))))))))
  (.keep [6] (.seq (.reg false [⟨(some 37), none, [6], none, .q (.mv (.t 6))⟩,
    ⟨(some 2), none, [37], none, .q (.mv (.t 37))⟩,
    ⟨(some 3), none, [], none, .q (.mv (.k (.i 0)))⟩])
  .ret)))))))))
def pu27 : List Nat := [1, 35]
def rs27 : List RV := [.t 2, .t 3]
theorem cc27 : comp Try.prog pu27 (Try.f27.ntmps, 0) 0 1 rc27 (Try.f27.body.getD .skip) = some rc27 := by kernel_rfl
theorem cb27 : Try.f27.body = some (Try.f27.body.getD .skip) := by kernel_rfl
theorem cs27 : resRV Try.prog Try.f27.results.toList = some rs27 := by kernel_rfl
theorem cn27 : 1 ≤ Try.f27.ntmps := by decide
/- ferrule/ferrulelaw02.sameInts: params [23, 23], free 0, slots 26 -/
def rc28 : RC :=
  (.seq (.reg false [⟨(some 4), none, [], none, .q (.mv (.k (.b false)))⟩])
  (.keep [0, 1] (.seq (.seq (.reg false [⟨(some 6), none, [0], none, .q (.mv (.t 0))⟩,
    ⟨(some 7), none, [6], none, .q (.len (.t 6))⟩,
    ⟨(some 8), none, [1], none, .q (.mv (.t 1))⟩,
    ⟨(some 9), none, [8], none, .q (.len (.t 8))⟩,
    ⟨(some 10), none, [7, 9], none, .q (.bin .neq (.t 7) (.t 9))⟩])
  (.keep [0, 1, 10] (.cond (.t 10)
    (.seq (.reg false [⟨(some 4), none, [], none, .q (.mv (.k (.b false)))⟩])
    .ret)
    .skip)))
  (.keep [0, 1] (.seq (.seq (.reg false [⟨(some 5), none, [], none, .q (.mv (.k (.i 0)))⟩])
  (.keep [0, 1, 5] (.block 0 (.loop [0, 1, 5] none (.seq (.seq (.reg false [⟨(some 11), none, [5], none, .q (.mv (.t 5))⟩,
    ⟨(some 12), none, [0], none, .q (.mv (.t 0))⟩,
    ⟨(some 13), none, [12], none, .q (.len (.t 12))⟩,
    ⟨(some 14), none, [11, 13], none, .q (.bin .lss (.t 11) (.t 13))⟩])
  (.keep [0, 1, 5, 14] (.cond (.t 14)
    .skip
    (.exit 0))))
  (.keep [0, 1, 5] (.seq (.block 1 (.seq (.any false 0 [⟨⟨(some 17), none, [0], none, .q (.mv (.t 0))⟩, [], []⟩,
    ⟨⟨(some 18), none, [5], none, .q (.mv (.t 5))⟩, [], []⟩,
    ⟨⟨(some 19), none, [17, 18], none, .q (.iad 1 (.t 17) (.t 18))⟩, [], [0, 1]⟩,
    ⟨⟨(some 20), none, [19], none, .q (.ld false 1 (.t 19))⟩, [], [2, 0, 1]⟩,
    ⟨⟨(some 21), none, [1], none, .q (.mv (.t 1))⟩, [], []⟩,
    ⟨⟨(some 22), none, [5], none, .q (.mv (.t 5))⟩, [], []⟩,
    ⟨⟨(some 23), none, [21, 22], none, .q (.iad 1 (.t 21) (.t 22))⟩, [], [4, 5]⟩,
    ⟨⟨(some 24), none, [23], none, .q (.ld false 1 (.t 23))⟩, [], [6, 4, 5]⟩,
    ⟨⟨(some 25), none, [20, 24], none, .q (.bin .neq (.t 20) (.t 24))⟩, [], [3, 2, 0, 1, 7, 6, 4, 5]⟩])
  (.keep [0, 1, 5, 25] (.cond (.t 25)
    (.seq (.reg false [⟨(some 4), none, [], none, .q (.mv (.k (.b false)))⟩])
    .ret)
    .skip))))
  (.keep [0, 1, 5] (.reg false [⟨(some 15), none, [5], none, .q (.mv (.t 5))⟩,
    ⟨(some 16), none, [15], none, .q (.bin .add (.t 15) (.k (.i 1)))⟩,
    ⟨(some 5), none, [16], none, .q (.mv (.t 16))⟩])))))))))
  (.keep [] (.seq (.reg false [⟨(some 4), none, [], none, .q (.mv (.k (.b true)))⟩])
  .ret)))))))
def pu28 : List Nat := []
def rs28 : List RV := [.t 4]
theorem cc28 : comp Try.prog pu28 (Try.f28.ntmps, 0) 0 1 rc28 (Try.f28.body.getD .skip) = some rc28 := by kernel_rfl
theorem cb28 : Try.f28.body = some (Try.f28.body.getD .skip) := by kernel_rfl
theorem cs28 : resRV Try.prog Try.f28.results.toList = some rs28 := by kernel_rfl
theorem cn28 : 2 ≤ Try.f28.ntmps := by decide
/- ferrule/ferrulelaw02.same: params [26, 26], free 0, slots 130 -/
def rc29 : RC :=
  (.seq (.reg false [⟨(some 2), none, [0], none, .q (.box (.t 0))⟩,
    ⟨(some 3), none, [1], none, .q (.box (.t 1))⟩,
    ⟨(some 4), none, [], none, .q (.mv (.k (.b false)))⟩])
  (.keep [2, 3] (.seq (.seq (.reg true [⟨(some 10), none, [2], none, .q (.fad 0 (.t 2))⟩,
    ⟨(some 11), none, [10], none, .q (.ld false 1 (.t 10))⟩,
    ⟨(some 12), none, [11], none, .q (.len (.t 11))⟩,
    ⟨(some 13), none, [3], none, .q (.fad 0 (.t 3))⟩,
    ⟨(some 14), none, [13], none, .q (.ld false 1 (.t 13))⟩,
    ⟨(some 15), none, [14], none, .q (.len (.t 14))⟩,
    ⟨(some 16), none, [12, 15], none, .q (.bin .neq (.t 12) (.t 15))⟩,
    ⟨(some 17), none, [16], none, .q (.mv (.t 16))⟩,
    ⟨(some 18), (some (17, false)), [2], none, .q (.fad 1 (.t 2))⟩,
    ⟨(some 19), (some (17, false)), [18], none, .q (.ld false 1 (.t 18))⟩,
    ⟨(some 20), (some (17, false)), [3], none, .q (.fad 1 (.t 3))⟩,
    ⟨(some 21), (some (17, false)), [20], none, .q (.ld false 1 (.t 20))⟩,
    ⟨(some 22), (some (17, false)), [19, 21], none, .q (.call (.k (.fn 28 [])) [(.t 19), (.t 21)])⟩,
    ⟨(some 23), (some (17, false)), [22], none, .q (.not (.t 22))⟩,
    ⟨(some 24), none, [17, 23], none, .q (.pick (.t 17) (.k (.b true)) (.t 23))⟩,
    ⟨(some 25), none, [24], none, .q (.mv (.t 24))⟩,
    ⟨(some 26), (some (25, false)), [2], none, .q (.fad 2 (.t 2))⟩,
    ⟨(some 27), (some (25, false)), [26], none, .q (.ld false 1 (.t 26))⟩,
    ⟨(some 28), (some (25, false)), [3], none, .q (.fad 2 (.t 3))⟩,
    ⟨(some 29), (some (25, false)), [28], none, .q (.ld false 1 (.t 28))⟩,
    ⟨(some 30), (some (25, false)), [27, 29], none, .q (.bin .neq (.t 27) (.t 29))⟩,
    ⟨(some 31), none, [25, 30], none, .q (.pick (.t 25) (.k (.b true)) (.t 30))⟩,
    ⟨(some 32), none, [31], none, .q (.mv (.t 31))⟩,
    ⟨(some 33), (some (32, false)), [2], none, .q (.fad 3 (.t 2))⟩,
    ⟨(some 34), (some (32, false)), [33], none, .q (.ld false 1 (.t 33))⟩,
    ⟨(some 35), (some (32, false)), [34], none, .q (.len (.t 34))⟩,
    ⟨(some 36), (some (32, false)), [3], none, .q (.fad 3 (.t 3))⟩,
    ⟨(some 37), (some (32, false)), [36], none, .q (.ld false 1 (.t 36))⟩,
    ⟨(some 38), (some (32, false)), [37], none, .q (.len (.t 37))⟩,
    ⟨(some 39), (some (32, false)), [35, 38], none, .q (.bin .neq (.t 35) (.t 38))⟩,
    ⟨(some 40), none, [32, 39], none, .q (.pick (.t 32) (.k (.b true)) (.t 39))⟩,
    ⟨(some 41), none, [40], none, .q (.mv (.t 40))⟩,
    ⟨(some 42), (some (41, false)), [2], none, .q (.fad 4 (.t 2))⟩,
    ⟨(some 43), (some (41, false)), [42], none, .q (.ld false 1 (.t 42))⟩,
    ⟨(some 44), (some (41, false)), [3], none, .q (.fad 4 (.t 3))⟩,
    ⟨(some 45), (some (41, false)), [44], none, .q (.ld false 1 (.t 44))⟩,
    ⟨(some 46), (some (41, false)), [43, 45], none, .q (.call (.k (.fn 28 [])) [(.t 43), (.t 45)])⟩,
    ⟨(some 47), (some (41, false)), [46], none, .q (.not (.t 46))⟩,
    ⟨(some 48), none, [41, 47], none, .q (.pick (.t 41) (.k (.b true)) (.t 47))⟩,
    ⟨(some 49), none, [48], none, .q (.mv (.t 48))⟩,
    ⟨(some 50), (some (49, false)), [2], none, .q (.fad 5 (.t 2))⟩,
    ⟨(some 51), (some (49, false)), [50], none, .q (.ld false 1 (.t 50))⟩,
    ⟨(some 52), (some (49, false)), [3], none, .q (.fad 5 (.t 3))⟩,
    ⟨(some 53), (some (49, false)), [52], none, .q (.ld false 1 (.t 52))⟩,
    ⟨(some 54), (some (49, false)), [51, 53], none, .q (.bin .neq (.t 51) (.t 53))⟩,
    ⟨(some 55), none, [49, 54], none, .q (.pick (.t 49) (.k (.b true)) (.t 54))⟩])
  (.keep [2, 3, 55] (.cond (.t 55)
    (.seq (.reg false [⟨(some 4), none, [], none, .q (.mv (.k (.b false)))⟩])
    .ret)
    .skip)))
  (.keep [2, 3] (.seq (.seq (.reg false [⟨(some 5), none, [], none, .q (.mv (.k (.i 0)))⟩])
  (.keep [2, 3, 5] (.block 0 (.loop [2, 3, 5] none (.seq (.seq (.reg false [⟨(some 56), none, [5], none, .q (.mv (.t 5))⟩,
    ⟨(some 57), none, [2], none, .q (.fad 3 (.t 2))⟩,
    ⟨(some 58), none, [57], none, .q (.ld false 1 (.t 57))⟩,
    ⟨(some 59), none, [58], none, .q (.len (.t 58))⟩,
    ⟨(some 60), none, [56, 59], none, .q (.bin .lss (.t 56) (.t 59))⟩])
  (.keep [2, 3, 5, 60] (.cond (.t 60)
    .skip
    (.exit 0))))
  (.keep [2, 3, 5] (.seq (.block 1 (.seq (.any false 0 [⟨⟨(some 63), none, [2], none, .q (.fad 3 (.t 2))⟩, [], []⟩,
    ⟨⟨(some 64), none, [63], none, .q (.ld false 1 (.t 63))⟩, [], [0]⟩,
    ⟨⟨(some 65), none, [5], none, .q (.mv (.t 5))⟩, [], []⟩,
    ⟨⟨(some 66), none, [64, 65], none, .q (.iad 2 (.t 64) (.t 65))⟩, [], [1, 0, 2]⟩,
    ⟨⟨(some 67), none, [66], none, .q (.ld true 2 (.t 66))⟩, [], [3, 1, 0, 2]⟩,
    ⟨⟨(some 68), none, [3], none, .q (.fad 3 (.t 3))⟩, [], []⟩,
    ⟨⟨(some 69), none, [68], none, .q (.ld false 1 (.t 68))⟩, [], [5]⟩,
    ⟨⟨(some 70), none, [5], none, .q (.mv (.t 5))⟩, [], []⟩,
    ⟨⟨(some 71), none, [69, 70], none, .q (.iad 2 (.t 69) (.t 70))⟩, [], [6, 5, 7]⟩,
    ⟨⟨(some 72), none, [71], none, .q (.ld true 2 (.t 71))⟩, [], [8, 6, 5, 7]⟩,
    ⟨⟨(some 73), none, [67, 72], none, .q (.eqs true 34 (.t 67) (.t 72))⟩, [], [4, 3, 1, 0, 2, 9, 8, 6, 5, 7]⟩])
  (.keep [2, 3, 5, 73] (.cond (.t 73)
    (.seq (.reg false [⟨(some 4), none, [], none, .q (.mv (.k (.b false)))⟩])
    .ret)
    .skip))))
  (.keep [2, 3, 5] (.reg false [⟨(some 61), none, [5], none, .q (.mv (.t 5))⟩,
    ⟨(some 62), none, [61], none, .q (.bin .add (.t 61) (.k (.i 1)))⟩,
    ⟨(some 5), none, [62], none, .q (.mv (.t 62))⟩])))))))))
  (.keep [2, 3] (.seq (.seq (.reg false [⟨(some 6), none, [], none, .q (.mv (.k (.i 0)))⟩])
  (.keep [2, 3, 6] (.block 2 (.loop [2, 3, 6] (some 0) (.seq (.seq (.reg false [⟨(some 74), none, [6], none, .q (.mv (.t 6))⟩,
    ⟨(some 75), none, [2], none, .q (.fad 0 (.t 2))⟩,
    ⟨(some 76), none, [75], none, .q (.ld false 1 (.t 75))⟩,
    ⟨(some 77), none, [76], none, .q (.len (.t 76))⟩,
    ⟨(some 78), none, [74, 77], none, .q (.bin .lss (.t 74) (.t 77))⟩])
  (.keep [2, 3, 6, 78] (.cond (.t 78)
    .skip
    (.exit 2))))
  (.keep [2, 3, 6] (.seq (.block 3 (.seq (.any false 2 [⟨⟨(some 81), none, [2], none, .q (.fad 0 (.t 2))⟩, [], []⟩,
    ⟨⟨(some 82), none, [81], none, .q (.ld false 1 (.t 81))⟩, [], [0]⟩,
    ⟨⟨(some 83), none, [6], none, .q (.mv (.t 6))⟩, [], []⟩,
    ⟨⟨(some 84), none, [82, 83], none, .q (.iad 4 (.t 82) (.t 83))⟩, [], [1, 0, 2]⟩,
    ⟨⟨(some 85), none, [84], none, .q (.ld true 4 (.t 84))⟩, [], [3, 1, 0, 2]⟩,
    ⟨⟨(some 86), none, [3], none, .q (.fad 0 (.t 3))⟩, [], []⟩,
    ⟨⟨(some 87), none, [86], none, .q (.ld false 1 (.t 86))⟩, [], [5]⟩,
    ⟨⟨(some 88), none, [6], none, .q (.mv (.t 6))⟩, [], []⟩,
    ⟨⟨(some 89), none, [87, 88], none, .q (.iad 4 (.t 87) (.t 88))⟩, [], [6, 5, 7]⟩,
    ⟨⟨(some 90), none, [89], none, .q (.ld true 4 (.t 89))⟩, [], [8, 6, 5, 7]⟩,
    ⟨⟨(some 7), none, [], (some 0), .w (.alc [(.i 0), (.i 0), (.z 3), (.i 0)])⟩, [0, 1, 2, 3, 4, 5, 6, 7, 8, 9], []⟩,
    ⟨⟨(some 8), none, [], (some 1), .w (.alc [(.i 0), (.i 0), (.z 3), (.i 0)])⟩, [0, 1, 2, 3, 4, 5, 6, 7, 8, 9, 10], []⟩,
    ⟨⟨none, none, [7, 85], none, .w (.st 4 (.t 7) (.t 85))⟩, [5, 6, 7, 8, 9], [10, 4, 3, 1, 0, 2, 11]⟩,
    ⟨⟨none, none, [8, 90], none, .w (.st 4 (.t 8) (.t 90))⟩, [], [11, 9, 8, 6, 5, 7, 12, 10, 4, 3, 1, 0, 2]⟩])
  (.keep [2, 3, 6, 7, 8] (.seq (.seq (.reg true [⟨(some 91), none, [7], none, .q (.fad 0 (.t 7))⟩,
    ⟨(some 92), none, [91], none, .q (.ld true 2 (.t 91))⟩,
    ⟨(some 93), none, [8], none, .q (.fad 0 (.t 8))⟩,
    ⟨(some 94), none, [93], none, .q (.ld true 2 (.t 93))⟩,
    ⟨(some 95), none, [92, 94], none, .q (.eqs true 34 (.t 92) (.t 94))⟩,
    ⟨(some 96), none, [95], none, .q (.mv (.t 95))⟩,
    ⟨(some 97), (some (96, false)), [7], none, .q (.fad 3 (.t 7))⟩,
    ⟨(some 98), (some (96, false)), [97], none, .q (.ld false 1 (.t 97))⟩,
    ⟨(some 99), (some (96, false)), [8], none, .q (.fad 3 (.t 8))⟩,
    ⟨(some 100), (some (96, false)), [99], none, .q (.ld false 1 (.t 99))⟩,
    ⟨(some 101), (some (96, false)), [98, 100], none, .q (.bin .neq (.t 98) (.t 100))⟩,
    ⟨(some 102), none, [96, 101], none, .q (.pick (.t 96) (.k (.b true)) (.t 101))⟩,
    ⟨(some 103), none, [102], none, .q (.mv (.t 102))⟩,
    ⟨(some 104), (some (103, false)), [7], none, .q (.fad 2 (.t 7))⟩,
    ⟨(some 105), (some (103, false)), [104], none, .q (.ld false 1 (.t 104))⟩,
    ⟨(some 106), (some (103, false)), [105], none, .q (.len (.t 105))⟩,
    ⟨(some 107), (some (103, false)), [8], none, .q (.fad 2 (.t 8))⟩,
    ⟨(some 108), (some (103, false)), [107], none, .q (.ld false 1 (.t 107))⟩,
    ⟨(some 109), (some (103, false)), [108], none, .q (.len (.t 108))⟩,
    ⟨(some 110), (some (103, false)), [106, 109], none, .q (.bin .neq (.t 106) (.t 109))⟩,
    ⟨(some 111), none, [103, 110], none, .q (.pick (.t 103) (.k (.b true)) (.t 110))⟩])
  (.keep [2, 3, 6, 7, 8, 111] (.cond (.t 111)
    (.seq (.reg false [⟨(some 4), none, [], none, .q (.mv (.k (.b false)))⟩])
    .ret)
    .skip)))
  (.keep [2, 3, 6, 7, 8] (.seq (.reg false [⟨(some 9), none, [], none, .q (.mv (.k (.i 0)))⟩])
  (.keep [2, 3, 6, 7, 8, 9] (.block 4 (.loop [2, 3, 6, 7, 8, 9] none (.seq (.seq (.reg false [⟨(some 112), none, [9], none, .q (.mv (.t 9))⟩,
    ⟨(some 113), none, [7], none, .q (.fad 2 (.t 7))⟩,
    ⟨(some 114), none, [113], none, .q (.ld false 1 (.t 113))⟩,
    ⟨(some 115), none, [114], none, .q (.len (.t 114))⟩,
    ⟨(some 116), none, [112, 115], none, .q (.bin .lss (.t 112) (.t 115))⟩])
  (.keep [2, 3, 6, 7, 8, 9, 116] (.cond (.t 116)
    .skip
    (.exit 4))))
  (.keep [2, 3, 6, 7, 8, 9] (.seq (.block 5 (.seq (.any false 0 [⟨⟨(some 119), none, [7], none, .q (.fad 2 (.t 7))⟩, [], []⟩,
    ⟨⟨(some 120), none, [119], none, .q (.ld false 1 (.t 119))⟩, [], [0]⟩,
    ⟨⟨(some 121), none, [9], none, .q (.mv (.t 9))⟩, [], []⟩,
    ⟨⟨(some 122), none, [120, 121], none, .q (.iad 3 (.t 120) (.t 121))⟩, [], [1, 0, 2]⟩,
    ⟨⟨(some 123), none, [122], none, .q (.ld true 3 (.t 122))⟩, [], [3, 1, 0, 2]⟩,
    ⟨⟨(some 124), none, [8], none, .q (.fad 2 (.t 8))⟩, [], []⟩,
    ⟨⟨(some 125), none, [124], none, .q (.ld false 1 (.t 124))⟩, [], [5]⟩,
    ⟨⟨(some 126), none, [9], none, .q (.mv (.t 9))⟩, [], []⟩,
    ⟨⟨(some 127), none, [125, 126], none, .q (.iad 3 (.t 125) (.t 126))⟩, [], [6, 5, 7]⟩,
    ⟨⟨(some 128), none, [127], none, .q (.ld true 3 (.t 127))⟩, [], [8, 6, 5, 7]⟩,
    ⟨⟨(some 129), none, [123, 128], none, .q (.eqs true 52 (.t 123) (.t 128))⟩, [], [4, 3, 1, 0, 2, 9, 8, 6, 5, 7]⟩])
  (.keep [2, 3, 6, 7, 8, 9, 129] (.cond (.t 129)
    (.seq (.reg false [⟨(some 4), none, [], none, .q (.mv (.k (.b false)))⟩])
    .ret)
    .skip))))
  (.keep [2, 3, 6, 7, 8, 9] (.reg false [⟨(some 117), none, [9], none, .q (.mv (.t 9))⟩,
    ⟨(some 118), none, [117], none, .q (.bin .add (.t 117) (.k (.i 1)))⟩,
    ⟨(some 9), none, [118], none, .q (.mv (.t 118))⟩]))))))))))))))
  (.drp 0 (.keep [2, 3, 6] (.reg false [⟨(some 79), none, [6], none, .q (.mv (.t 6))⟩,
    ⟨(some 80), none, [79], none, .q (.bin .add (.t 79) (.k (.i 1)))⟩,
    ⟨(some 6), none, [80], none, .q (.mv (.t 80))⟩]))))))))))
  (.keep [] (.seq (.reg false [⟨(some 4), none, [], none, .q (.mv (.k (.b true)))⟩])
  .ret)))))))))
def pu29 : List Nat := [2, 3]
def rs29 : List RV := [.t 4]
theorem cc29 : comp Try.prog pu29 (Try.f29.ntmps, 0) 0 1 rc29 (Try.f29.body.getD .skip) = some rc29 := by kernel_rfl
theorem cb29 : Try.f29.body = some (Try.f29.body.getD .skip) := by kernel_rfl
theorem cs29 : resRV Try.prog Try.f29.results.toList = some rs29 := by kernel_rfl
theorem cn29 : 2 ≤ Try.f29.ntmps := by decide
end Go.C02
