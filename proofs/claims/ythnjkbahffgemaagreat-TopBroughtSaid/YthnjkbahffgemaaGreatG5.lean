import Derived.Shelf.Small.Bits
import Derived.Shelf.Small.Wraps
import Derived.Shelf.Strconv.Itoa0
import Derived.Shelf.Sort.Plain
import Derived.Shelf.Slices.Turned
import Derived.Ground.Names2Prog
import Derived.Shelf.Slices.Clone
import Derived.Shelf.Slices.SearchI
import Derived.Shelf.Slices.In.SortNone
import Derived.Ground.SlgnProg
import Derived.Shelf.SlicesE.Clone
import Derived.Test.YthnjkbahffgemaaGreatProg
import Derived.Shelf.SlIterI.Nil
import Derived.Ground.GgzProg
import Derived.Test.YthnjkbahffgemaaGreatG4
import Derived.Test.YthnjkbahffgemaaGreatChecked
import Derived.RangeFuncLeaves
import Derived.WalkKit
import Derived.OwnWalkIn
import Derived.TacticsInMore
import Derived.LoopNIn
import Derived.LoopIn
import Derived.Test.YthnjkbahffgemaaGreatRows
set_option linter.all false
namespace Go.Proofs
open Go.Shelf
def Tryz.lays125_ren : Go.Shelf.Ren := ⟨fun | 125 => 65 | 128 => 89 | 129 => 90 | n => n, fun | 46 => 128 | 3 => 3 | 51 => 149 | 53 => 151 | 4 => 4 | 5 => 5 | 9 => 9 | n => n, fun | n => n⟩
theorem Tryz.lays125 : Go.Proofs.Lays.n125 Tryz.prog Tryz.lays125_ren := {
 mixed := by kernel_rfl
 f125 := Tryz.func65.trans (congrArg some (by kernel_rfl))
 f128 := Tryz.func89.trans (congrArg some (by kernel_rfl))
 f129 := Tryz.func90.trans (congrArg some (by kernel_rfl))
 t3 := Tryz.underlying3
 a3 := Tryz.isAgg3
 z3 := Tryz.sizeOf3
 v3 := Tryz.zeroValue3
 t4 := Tryz.underlying4
 a4 := Tryz.isAgg4
 z4 := Tryz.sizeOf4
 v4 := Tryz.zeroValue4
 t5 := Tryz.underlying5
 a5 := Tryz.isAgg5
 z5 := Tryz.sizeOf5
 v5 := Tryz.zeroValue5
 t9 := Tryz.underlying9
 a9 := Tryz.isAgg9
 z9 := Tryz.sizeOf9
 v9 := Tryz.zeroValue9
 t46 := Tryz.underlying128
 a46 := Tryz.isAgg128
 z46 := Tryz.sizeOf128
 v46 := Tryz.zeroValue128
 t51 := Tryz.underlying149
 a51 := Tryz.isAgg149
 z51 := Tryz.sizeOf149
 v51 := Tryz.zeroValue149
 t53 := Tryz.underlying151
 a53 := Tryz.isAgg151
 z53 := Tryz.sizeOf151
 v53 := Tryz.zeroValue151 }
theorem Tryz.bits_Len (x : Int) (w : World) (h0 : 0 ≤ x) (h1 : x ≤ 18446744073709551615) :
  Calls Tryz.prog 65 #[.int .u64 x] w fun e w' => e = .returned (.int .i64 (Lib.bitLen x.toNat)) ∧ w' = w := Any.bits_Len Tryz.lays125 x w h0 h1
def Tryz.lays189_ren : Go.Shelf.Ren := ⟨fun | 189 => 46 | 125 => 65 | 257 => 64 | 128 => 89 | 129 => 90 | 294 => 80 | 295 => 81 | 296 => 82 | 297 => 83 | 298 => 84 | 299 => 85 | 216 => 86 | 300 => 87 | 301 => 88 | 328 => 100 | 329 => 101 | 330 => 102 | 331 => 103 | 332 => 104 | 215 => 99 | 343 => 114 | n => n, fun | 28 => 22 | 3 => 3 | 46 => 128 | 0 => 0 | 51 => 149 | 53 => 151 | 4 => 4 | 183 => 143 | 182 => 142 | 131 => 37 | 5 => 5 | 9 => 9 | 218 => 158 | 222 => 162 | 228 => 169 | 229 => 170 | n => n, fun | n => n⟩
theorem Tryz.lays189 : Go.Proofs.Lays.n189 Tryz.prog Tryz.lays189_ren := {
 mixed := by kernel_rfl
 f125 := Tryz.func65.trans (congrArg some (by kernel_rfl))
 f128 := Tryz.func89.trans (congrArg some (by kernel_rfl))
 f129 := Tryz.func90.trans (congrArg some (by kernel_rfl))
 f189 := Tryz.func46.trans (congrArg some (by kernel_rfl))
 f215 := Tryz.func99.trans (congrArg some (by kernel_rfl))
 f216 := Tryz.func86.trans (congrArg some (by kernel_rfl))
 f257 := Tryz.func64.trans (congrArg some (by kernel_rfl))
 f294 := Tryz.func80.trans (congrArg some (by kernel_rfl))
 f295 := Tryz.func81.trans (congrArg some (by kernel_rfl))
 f296 := Tryz.func82.trans (congrArg some (by kernel_rfl))
 f297 := Tryz.func83.trans (congrArg some (by kernel_rfl))
 f298 := Tryz.func84.trans (congrArg some (by kernel_rfl))
 f299 := Tryz.func85.trans (congrArg some (by kernel_rfl))
 f300 := Tryz.func87.trans (congrArg some (by kernel_rfl))
 f301 := Tryz.func88.trans (congrArg some (by kernel_rfl))
 f328 := Tryz.func100.trans (congrArg some (by kernel_rfl))
 f329 := Tryz.func101.trans (congrArg some (by kernel_rfl))
 f330 := Tryz.func102.trans (congrArg some (by kernel_rfl))
 f331 := Tryz.func103.trans (congrArg some (by kernel_rfl))
 f332 := Tryz.func104.trans (congrArg some (by kernel_rfl))
 f343 := Tryz.func114.trans (congrArg some (by kernel_rfl))
 t0 := Tryz.underlying0
 a0 := Tryz.isAgg0
 z0 := Tryz.sizeOf0
 v0 := Tryz.zeroValue0
 t3 := Tryz.underlying3
 a3 := Tryz.isAgg3
 z3 := Tryz.sizeOf3
 v3 := Tryz.zeroValue3
 t4 := Tryz.underlying4
 a4 := Tryz.isAgg4
 z4 := Tryz.sizeOf4
 v4 := Tryz.zeroValue4
 t5 := Tryz.underlying5
 a5 := Tryz.isAgg5
 z5 := Tryz.sizeOf5
 v5 := Tryz.zeroValue5
 t9 := Tryz.underlying9
 a9 := Tryz.isAgg9
 z9 := Tryz.sizeOf9
 v9 := Tryz.zeroValue9
 t28 := Tryz.underlying22
 a28 := Tryz.isAgg22
 z28 := Tryz.sizeOf22
 v28 := Tryz.zeroValue22
 t46 := Tryz.underlying128
 a46 := Tryz.isAgg128
 z46 := Tryz.sizeOf128
 v46 := Tryz.zeroValue128
 t51 := Tryz.underlying149
 a51 := Tryz.isAgg149
 z51 := Tryz.sizeOf149
 v51 := Tryz.zeroValue149
 t53 := Tryz.underlying151
 a53 := Tryz.isAgg151
 z53 := Tryz.sizeOf151
 v53 := Tryz.zeroValue151
 t131 := Tryz.underlying37
 a131 := Tryz.isAgg37
 z131 := Tryz.sizeOf37
 v131 := Tryz.zeroValue37
 t182 := Tryz.underlying142
 a182 := Tryz.isAgg142
 z182 := Tryz.sizeOf142
 v182 := Tryz.zeroValue142
 t183 := Tryz.underlying143
 a183 := Tryz.isAgg143
 z183 := Tryz.sizeOf143
 v183 := Tryz.zeroValue143
 t218 := Tryz.underlying158
 a218 := Tryz.isAgg158
 z218 := Tryz.sizeOf158
 v218 := Tryz.zeroValue158
 t222 := Tryz.underlying162
 a222 := Tryz.isAgg162
 z222 := Tryz.sizeOf162
 v222 := Tryz.zeroValue162
 t228 := Tryz.underlying169
 a228 := Tryz.isAgg169
 z228 := Tryz.sizeOf169
 v228 := Tryz.zeroValue169
 t229 := Tryz.underlying170
 a229 := Tryz.isAgg170
 z229 := Tryz.sizeOf170
 v229 := Tryz.zeroValue170 }
open Go.Sort Go.RowKit in
theorem Tryz.slices_Sort_int (blk off cap : Nat) (zs : List Int) (w : World) (hH : Holds (Value.int .i64) w blk off zs.toArray) (hblk : blk < w.heap.size) (hsz : zs.length < 4611686018427387904) :
  Calls Tryz.prog 46 #[.slice (some ⟨blk, off, none⟩) zs.length cap] w fun e w' =>
   e = .returned (.tuple #[]) ∧ ∃ n os, w' = grow (putRow (Value.int .i64) (Sort.ahead w n) blk off (zs.mergeSort fun x y => decide (x ≤ y)).toArray) os := Any.slices_Sort_int Tryz.lays189 blk off cap zs w hH hblk hsz
open Go.RowKit Go.Sort in
theorem Tryz.slices_Sort_int_none (p : Option Addr) (cap : Nat) (w : World) :
  Calls Tryz.prog 46 #[.slice p 0 cap] w fun e w' => e = .returned (.tuple #[]) ∧ w' = w := Any.slices_Sort_int_none Tryz.lays189 p cap w
end Go.Proofs
namespace Go.Proofs
open Go.Shelf
def Tryz.sorted132_ren : Go.Shelf.Ren := ⟨fun | 6 => 27 | 8 => 45 | 9 => 46 | 11 => 63 | 13 => 65 | 12 => 64 | 23 => 89 | 24 => 90 | 14 => 80 | 15 => 81 | 16 => 82 | 17 => 83 | 18 => 84 | 19 => 85 | 20 => 86 | 21 => 87 | 22 => 88 | 25 => 100 | 26 => 101 | 27 => 102 | 28 => 103 | 29 => 104 | 30 => 99 | 31 => 114 | n => n, fun | 26 => 3 | 28 => 80 | 24 => 22 | 0 => 0 | 3 => 3 | 37 => 128 | 48 => 149 | 50 => 151 | 4 => 4 | 40 => 143 | 39 => 142 | 45 => 37 | 5 => 5 | 9 => 9 | 51 => 158 | 55 => 162 | 57 => 169 | 58 => 170 | 33 => 61 | n => n, fun | n => n⟩
theorem Tryz.sorted132 : Go.Proofs.SlLaysZI.n6 Tryz.prog Tryz.sorted132_ren := {
 mixed := by kernel_rfl
 f6 := ⟨Tryz.f27.name, by decide, Tryz.func27.trans (congrArg some (by kernel_rfl))⟩
 f8 := ⟨Tryz.f45.name, by decide, Tryz.func45.trans (congrArg some (by kernel_rfl))⟩
 f11 := ⟨Tryz.f63.name, by decide, Tryz.func63.trans (congrArg some (by kernel_rfl))⟩
 t0 := Tryz.underlying0
 a0 := Tryz.isAgg0
 z0 := Tryz.sizeOf0
 v0 := Tryz.zeroValue0
 t24 := Tryz.underlying22
 a24 := Tryz.isAgg22
 z24 := Tryz.sizeOf22
 v24 := Tryz.zeroValue22
 t26 := Tryz.underlying3
 a26 := Tryz.isAgg3
 z26 := Tryz.sizeOf3
 v26 := Tryz.zeroValue3
 t28 := Tryz.underlying80
 a28 := Tryz.isAgg80
 z28 := Tryz.sizeOf80
 v28 := Tryz.zeroValue80
 i26 := by kernel_rfl }
end Go.Proofs
set_option maxRecDepth 8000
namespace Go.CS
open Go.Fam Go.Proofs
def rc97 : RC := (.seq (.reg false [(cI 4 0)]) (.keep [0,1] (.seq (.seq (.reg false [(cMv 6 0), (cLn 7 6), (cI 8 0)]) (.keep [0,1,7,8] (.block 0 (.loop [0,1,7,8] none (.seq (.reg false [(cB 9 .lss 8 7)]) (.keep [0,1,7,8,9] (.seq (.cond (.t 9) .skip (.exit 0)) (.keep [0,1,7,8] (.seq (.block 1 (.seq (.reg false [(cMv 10 8), (cMv 5 10)]) (.keep [0,1,5,7,8] (.seq (.reg false [(cMv 11 1), (cMv 12 0), (cMv 13 5), (cA 14 1 12 13), (cLd 15 14 false 1), (cQ 16 [11,15] (.call (.t 11) [(.t 15)]))]) (.keep [0,1,5,7,8,16] (.cond (.t 16) (.seq (.reg false [(cMv 17 5), (cMv 4 17)]) .ret) .skip)))))) (.keep [0,1,7,8] (.reg false [(cC 18 .add 8 1), (cMv 8 18)]))))))))))) (.keep [] (.seq (.reg false [(cQ 4 [] (.mv (.k (.i (-1)))))]) .ret)))))
def pu97 : List Nat := []
def rs97 : List RV := [.t 4]
theorem cc97 : comp Tryz.prog pu97 (Tryz.f97.ntmps, 0) 0 1 rc97 (Tryz.f97.body.getD .skip) = some rc97 := by kernel_rfl
theorem cb97 : Tryz.f97.body = some (Tryz.f97.body.getD .skip) := by kernel_rfl
theorem cs97 : resRV Tryz.prog Tryz.f97.results.toList = some rs97 := by kernel_rfl
theorem cn97 : 2 ≤ Tryz.f97.ntmps := by decide
def rc75 : RC := (.seq (.reg false [(cQ 4 [] (.mv (kB false)))]) (.keep [0,1] (.seq (.reg false [(cMv 5 0), (cMv 6 1), (cQ 7 [5,6] (.call (kF 97) [(.t 5), (.t 6)])), (cC 8 .geq 7 0), (cMv 4 8)]) .ret)))
def pu75 : List Nat := []
def rs75 : List RV := [.t 4]
theorem cc75 : comp Tryz.prog pu75 (Tryz.f75.ntmps, 0) 0 1 rc75 (Tryz.f75.body.getD .skip) = some rc75 := by kernel_rfl
theorem cb75 : Tryz.f75.body = some (Tryz.f75.body.getD .skip) := by kernel_rfl
theorem cs75 : resRV Tryz.prog Tryz.f75.results.toList = some rs75 := by kernel_rfl
theorem cn75 : 2 ≤ Tryz.f75.ntmps := by decide
end Go.CS
set_option maxRecDepth 8000
namespace Go.CS
open Go.Fam Go.Proofs
def rc56 : RC := (.seq (.reg false [(cI 4 0)]) (.keep [0,1] (.seq (.seq (.reg false [(cMv 6 0), (cLn 7 6), (cI 8 0)]) (.keep [0,1,7,8] (.block 0 (.loop [0,1,7,8] none (.seq (.reg false [(cB 9 .lss 8 7)]) (.keep [0,1,7,8,9] (.seq (.cond (.t 9) .skip (.exit 0)) (.keep [0,1,7,8] (.seq (.block 1 (.seq (.reg false [(cMv 10 8), (cMv 5 10)]) (.keep [0,1,5,7,8] (.seq (.reg false [(cMv 11 1), (cMv 12 0), (cMv 13 5), (cA 14 1 12 13), (cLd 15 14 false 1), (cB 16 .eql 11 15)]) (.keep [0,1,5,7,8,16] (.cond (.t 16) (.seq (.reg false [(cMv 17 5), (cMv 4 17)]) .ret) .skip)))))) (.keep [0,1,7,8] (.reg false [(cC 18 .add 8 1), (cMv 8 18)]))))))))))) (.keep [] (.seq (.reg false [(cQ 4 [] (.mv (.k (.i (-1)))))]) .ret)))))
def pu56 : List Nat := []
def rs56 : List RV := [.t 4]
theorem cc56 : comp Tryz.prog pu56 (Tryz.f56.ntmps, 0) 0 1 rc56 (Tryz.f56.body.getD .skip) = some rc56 := by kernel_rfl
theorem cb56 : Tryz.f56.body = some (Tryz.f56.body.getD .skip) := by kernel_rfl
theorem cs56 : resRV Tryz.prog Tryz.f56.results.toList = some rs56 := by kernel_rfl
theorem cn56 : 2 ≤ Tryz.f56.ntmps := by decide
def rc35 : RC := (.seq (.reg false [(cQ 4 [] (.mv (kB false)))]) (.keep [0,1] (.seq (.reg false [(cMv 5 0), (cMv 6 1), (cQ 7 [5,6] (.call (kF 56) [(.t 5), (.t 6)])), (cC 8 .geq 7 0), (cMv 4 8)]) .ret)))
def pu35 : List Nat := []
def rs35 : List RV := [.t 4]
theorem cc35 : comp Tryz.prog pu35 (Tryz.f35.ntmps, 0) 0 1 rc35 (Tryz.f35.body.getD .skip) = some rc35 := by kernel_rfl
theorem cb35 : Tryz.f35.body = some (Tryz.f35.body.getD .skip) := by kernel_rfl
theorem cs35 : resRV Tryz.prog Tryz.f35.results.toList = some rs35 := by kernel_rfl
theorem cn35 : 2 ≤ Tryz.f35.ntmps := by decide
end Go.CS
set_option maxRecDepth 8000
namespace Go.CS
open Go.Fam Go.Proofs
def rc26 : RC := (.seq (.reg false [(cQ 6 [] (.mv (kB false)))]) (.keep [0,1,2] (.seq (.reg true [(cMv 7 1), (cMv 8 0), (cB 9 .leq 7 8), (cMv 10 9), (gMv 11 10 true 0), (gMv 12 10 true 2), (gQ 13 10 true [11,12] (.bin .leq (.t 11) (.t 12))), (cQ 14 [10,13] (.pick (.t 10) (.t 13) (kB false))), (cMv 6 14)]) .ret)))
def pu26 : List Nat := []
def rs26 : List RV := [.t 6]
theorem cc26 : comp Tryz.prog pu26 (Tryz.f26.ntmps, 0) 0 1 rc26 (Tryz.f26.body.getD .skip) = some rc26 := by kernel_rfl
theorem cb26 : Tryz.f26.body = some (Tryz.f26.body.getD .skip) := by kernel_rfl
theorem cs26 : resRV Tryz.prog Tryz.f26.results.toList = some rs26 := by kernel_rfl
theorem cn26 : 3 ≤ Tryz.f26.ntmps := by decide
def rc37 : RC := (.seq (.reg false [(cQ 2 [] (.mv (kB false)))]) (.keep [0] (.seq (.reg false [(cMv 3 0), (cQ 4 [3] (.call (kF 26) [(.t 3), (kI 0), (kI 99)])), (cMv 2 4)]) .ret)))
def pu37 : List Nat := []
def rs37 : List RV := [.t 2]
theorem cc37 : comp Tryz.prog pu37 (Tryz.f37.ntmps, 0) 0 1 rc37 (Tryz.f37.body.getD .skip) = some rc37 := by kernel_rfl
theorem cb37 : Tryz.f37.body = some (Tryz.f37.body.getD .skip) := by kernel_rfl
theorem cs37 : resRV Tryz.prog Tryz.f37.results.toList = some rs37 := by kernel_rfl
theorem cn37 : 1 ≤ Tryz.f37.ntmps := by decide
def rc71 : RC := (.seq (.reg false [(cX 1 0), (cQ 2 [] (.mv (kB false)))]) (.keep [1] (.seq (.seq (.reg false [(cFa 5 1 2), (cLd 6 5 false 1), (cFa 7 1 3), (cLd 8 7 false 1), (cFa 9 1 5), (cLd 10 9 false 1), (cFa 11 1 6), (cLd 12 11 false 1), (cQ 13 [6,8,10,12] (.bsl 1 4 [(.i 0)] [(0,1, (.t 6)), (1,1, (.t 8)), (2,1, (.t 10)), (3,1, (.t 12))])), (cLn 14 13), (cI 15 0)]) (.keep [1,13,14,15] (.block 0 (.loop [1,13,14,15] none (.seq (.reg false [(cB 16 .lss 15 14)]) (.keep [1,13,14,15,16] (.seq (.cond (.t 16) .skip (.exit 0)) (.keep [1,13,14,15] (.seq (.block 1 (.seq (.reg false [(cA 17 1 13 15), (cLd 18 17 false 1), (cMv 4 18)]) (.keep [1,4,13,14,15] (.seq (.reg false [(cMv 19 4), (cQ 20 [19] (.call (kF 26) [(.t 19), (kI 0), (kI 100000)])), (cN 21 20)]) (.keep [1,13,14,15,21] (.cond (.t 21) (.seq (.reg false [(cQ 2 [] (.mv (kB false)))]) .ret) .skip)))))) (.keep [1,13,14,15] (.reg false [(cC 22 .add 15 1), (cMv 15 22)]))))))))))) (.keep [1] (.seq (.reg true [(cFa 23 1 0), (cLd 24 23 false 1), (cQ 25 [24] (.call (kF 26) [(.t 24), (kI 0), (kI 9999)])), (cMv 26 25), (gQ 27 26 true [1] (.fad 1 (.t 1))), (gQ 28 26 true [27] (.ld false 1 (.t 27))), (gQ 29 26 true [28] (.call (kF 26) [(.t 28), (kI 1), (kI 9999)])), (cQ 30 [26,29] (.pick (.t 26) (.t 29) (kB false))), (cMv 31 30), (gQ 32 31 true [1] (.fad 4 (.t 1))), (gQ 33 31 true [32] (.ld false 1 (.t 32))), (gQ 34 31 true [33] (.call (kF 26) [(.t 33), (kI 1), (kI 9999)])), (cQ 35 [31,34] (.pick (.t 31) (.t 34) (kB false))), (cMv 2 35)]) .ret)))))
def pu71 : List Nat := [1,13]
def rs71 : List RV := [.t 2]
theorem cc71 : comp Tryz.prog pu71 (Tryz.f71.ntmps, 0) 0 1 rc71 (Tryz.f71.body.getD .skip) = some rc71 := by kernel_rfl
theorem cb71 : Tryz.f71.body = some (Tryz.f71.body.getD .skip) := by kernel_rfl
theorem cs71 : resRV Tryz.prog Tryz.f71.results.toList = some rs71 := by kernel_rfl
theorem cn71 : 1 ≤ Tryz.f71.ntmps := by decide
def rc73 : RC := (.seq (.reg false [(cX 2 0), (cX 3 1), (cQ 4 [] (.mv (kB false)))]) (.keep [2,3] (.seq (.reg true [(cFa 6 3 3), (cLd 7 6 false 1), (cC 8 .eql 7 1), (cMv 9 8), (gQ 10 9 false [3] (.fad 3 (.t 3))), (gQ 11 9 false [10] (.ld false 1 (.t 10))), (gQ 12 9 false [11] (.bin .eql (.t 11) (kI 2))), (gMv 13 9 false 12), (gQ 14 13 true [3] (.fad 5 (.t 3))), (gQ 15 13 true [14] (.ld false 1 (.t 14))), (gQ 16 13 true [15] (.bin .eql (.t 15) (kI 0))), (gQ 17 9 false [13,16] (.pick (.t 13) (.t 16) (kB false))), (cQ 18 [9,17] (.pick (.t 9) (kB true) (.t 17))), (cMv 5 18)]) (.keep [2,3,5] (.seq (.reg true [(cMv 19 5), (cMv 20 19), (gQ 21 20 true [3] (.fad 0 (.t 3))), (gQ 22 20 true [21] (.ld false 1 (.t 21))), (gQ 23 20 true [22] (.call (kF 37) [(.t 22)])), (cQ 24 [20,23] (.pick (.t 20) (.t 23) (kB false))), (cMv 25 24), (gQ 26 25 true [3] (.fad 5 (.t 3))), (gQ 27 25 true [26] (.ld false 1 (.t 26))), (gQ 28 25 true [27] (.call (kF 37) [(.t 27)])), (cQ 29 [25,28] (.pick (.t 25) (.t 28) (kB false))), (cMv 30 29), (gQ 31 30 true [3] (.fad 1 (.t 3))), (gQ 32 30 true [31] (.ld false 1 (.t 31))), (gQ 33 30 true [2] (.fad 0 (.t 2))), (gQ 34 30 true [33] (.ld false 1 (.t 33))), (gQ 35 30 true [34] (.len (.t 34))), (gQ 36 30 true [35] (.bin .sub (.t 35) (kI 1))), (gQ 37 30 true [32,36] (.call (kF 26) [(.t 32), (kI 0), (.t 36)])), (cQ 38 [30,37] (.pick (.t 30) (.t 37) (kB false))), (cMv 39 38), (gQ 40 39 true [3] (.fad 2 (.t 3))), (gQ 41 39 true [40] (.ld false 1 (.t 40))), (gQ 42 39 true [41] (.call (kF 26) [(.t 41), (kI 0), (kI 9999)])), (cQ 43 [39,42] (.pick (.t 39) (.t 42) (kB false))), (cMv 44 43), (gQ 45 44 true [3] (.fad 4 (.t 3))), (gQ 46 44 true [45] (.ld false 1 (.t 45))), (gQ 47 44 true [46] (.call (kF 26) [(.t 46), (kI 0), (kI 9)])), (cQ 48 [44,47] (.pick (.t 44) (.t 47) (kB false))), (cMv 4 48)]) .ret)))))
def pu73 : List Nat := [2,3]
def rs73 : List RV := [.t 4]
theorem cc73 : comp Tryz.prog pu73 (Tryz.f73.ntmps, 0) 0 1 rc73 (Tryz.f73.body.getD .skip) = some rc73 := by kernel_rfl
theorem cb73 : Tryz.f73.body = some (Tryz.f73.body.getD .skip) := by kernel_rfl
theorem cs73 : resRV Tryz.prog Tryz.f73.results.toList = some rs73 := by kernel_rfl
theorem cn73 : 2 ≤ Tryz.f73.ntmps := by decide
def rc72 : RC := (.seq (.reg false [(cX 2 0), (cQ 3 [] (.mv (kB false)))]) (.keep [1,2] (.seq (.reg false [(cLd 4 1 true 11), (cLd 5 2 true 6), (cQ 6 [4,5] (.call (kF 73) [(.t 4), (.t 5)])), (cN 7 6), (cMv 3 7)]) .ret)))
def pu72 : List Nat := [2]
def rs72 : List RV := [.t 3]
theorem cc72 : comp Tryz.prog pu72 (Tryz.f72.ntmps, 0) 0 1 rc72 (Tryz.f72.body.getD .skip) = some rc72 := by kernel_rfl
theorem cb72 : Tryz.f72.body = some (Tryz.f72.body.getD .skip) := by kernel_rfl
theorem cs72 : resRV Tryz.prog Tryz.f72.results.toList = some rs72 := by kernel_rfl
theorem cn72 : 2 ≤ Tryz.f72.ntmps := by decide
def rc74 : RC := (.seq (.reg false [(cQ 2 [] (.mv (kB false)))]) (.keep [0] (.seq (.reg false [(cMv 3 0), (cQ 4 [3] (.call (kF 37) [(.t 3)])), (cN 5 4), (cMv 2 5)]) .ret)))
def pu74 : List Nat := []
def rs74 : List RV := [.t 2]
theorem cc74 : comp Tryz.prog pu74 (Tryz.f74.ntmps, 0) 0 1 rc74 (Tryz.f74.body.getD .skip) = some rc74 := by kernel_rfl
theorem cb74 : Tryz.f74.body = some (Tryz.f74.body.getD .skip) := by kernel_rfl
theorem cs74 : resRV Tryz.prog Tryz.f74.results.toList = some rs74 := by kernel_rfl
theorem cn74 : 1 ≤ Tryz.f74.ntmps := by decide
def rc49 : RC := (.seq (.reg false [(cQ 4 [] (.mv (kB false)))]) (.keep [0,1] (.seq (.reg false [(cMv 5 0), (cMv 6 1), (cQ 7 [5,6] (.call (kF 61) [(.t 5), (.t 6)])), (cC 8 .geq 7 0), (cMv 4 8)]) .ret)))
def pu49 : List Nat := []
def rs49 : List RV := [.t 4]
theorem cc49 : comp Tryz.prog pu49 (Tryz.f49.ntmps, 0) 0 1 rc49 (Tryz.f49.body.getD .skip) = some rc49 := by kernel_rfl
theorem cb49 : Tryz.f49.body = some (Tryz.f49.body.getD .skip) := by kernel_rfl
theorem cs49 : resRV Tryz.prog Tryz.f49.results.toList = some rs49 := by kernel_rfl
theorem cn49 : 2 ≤ Tryz.f49.ntmps := by decide
def rc61 : RC := (.seq (.reg false [(cI 4 0)]) (.keep [0,1] (.seq (.seq (.reg false [(cMv 6 0), (cLn 7 6), (cI 8 0)]) (.keep [0,1,7,8] (.block 0 (.loop [0,1,7,8] none (.seq (.reg false [(cB 9 .lss 8 7)]) (.keep [0,1,7,8,9] (.seq (.cond (.t 9) .skip (.exit 0)) (.keep [0,1,7,8] (.seq (.block 1 (.seq (.reg false [(cMv 10 8), (cMv 5 10)]) (.keep [0,1,5,7,8] (.seq (.reg false [(cMv 11 1), (cMv 12 0), (cMv 13 5), (cA 14 6 12 13), (cLd 15 14 true 6), (cQ 16 [11,15] (.call (.t 11) [(.t 15)]))]) (.keep [0,1,5,7,8,16] (.cond (.t 16) (.seq (.reg false [(cMv 17 5), (cMv 4 17)]) .ret) .skip)))))) (.keep [0,1,7,8] (.reg false [(cC 18 .add 8 1), (cMv 8 18)]))))))))))) (.keep [] (.seq (.reg false [(cQ 4 [] (.mv (.k (.i (-1)))))]) .ret)))))
def pu61 : List Nat := []
def rs61 : List RV := [.t 4]
theorem cc61 : comp Tryz.prog pu61 (Tryz.f61.ntmps, 0) 0 1 rc61 (Tryz.f61.body.getD .skip) = some rc61 := by kernel_rfl
theorem cb61 : Tryz.f61.body = some (Tryz.f61.body.getD .skip) := by kernel_rfl
theorem cs61 : resRV Tryz.prog Tryz.f61.results.toList = some rs61 := by kernel_rfl
theorem cn61 : 2 ≤ Tryz.f61.ntmps := by decide
def rc59 : RC := (.seq (.reg false [(cX 1 0), (cQ 2 [] (.mv (kB false)))]) (.keep [1] (.seq (.seq (.reg true [(cFa 9 1 0), (cLd 10 9 false 1), (cLn 11 10), (cC 12 .gtr 11 3), (cMv 13 12), (gQ 14 13 false [1] (.fad 1 (.t 1))), (gQ 15 13 false [14] (.ld false 1 (.t 14))), (gQ 16 13 false [15] (.len (.t 15))), (gQ 17 13 false [16] (.bin .gtr (.t 16) (kI 12))), (cQ 18 [13,17] (.pick (.t 13) (kB true) (.t 17))), (cMv 19 18), (gQ 20 19 false [1] (.fad 2 (.t 1))), (gQ 21 19 false [20] (.ld false 1 (.t 20))), (gQ 22 19 false [21] (.len (.t 21))), (gQ 23 19 false [22] (.bin .gtr (.t 22) (kI 12))), (cQ 24 [19,23] (.pick (.t 19) (kB true) (.t 23))), (cMv 25 24), (gQ 26 25 false [1] (.fad 3 (.t 1))), (gQ 27 25 false [26] (.ld false 1 (.t 26))), (gQ 28 25 false [27] (.len (.t 27))), (gQ 29 25 false [28] (.bin .gtr (.t 28) (kI 4))), (cQ 30 [25,29] (.pick (.t 25) (kB true) (.t 29))), (cMv 31 30), (gQ 32 31 false [1] (.fad 4 (.t 1))), (gQ 33 31 false [32] (.ld true 7 (.t 32))), (gQ 34 31 false [33] (.call (kF 71) [(.t 33)])), (gQ 35 31 false [34] (.not (.t 34))), (cQ 36 [31,35] (.pick (.t 31) (kB true) (.t 35)))]) (.keep [1,36] (.cond (.t 36) (.seq (.reg false [(cQ 2 [] (.mv (kB false)))]) .ret) .skip))) (.keep [1] (.seq (.seq (.reg false [(cFa 37 1 0), (cLd 38 37 false 1), (cLn 39 38), (cI 40 0)]) (.keep [1,38,39,40] (.block 0 (.loop [1,38,39,40] (some 0) (.seq (.reg false [(cB 41 .lss 40 39)]) (.keep [1,38,39,40,41] (.seq (.cond (.t 41) .skip (.exit 0)) (.keep [1,38,39,40] (.seq (.block 1 (.seq (.reg false [(cA 42 2 38 40), (cLd 43 42 true 2), ⟨(some 4), none, [], none, .w (.alc [(.i 0), (.i 0)])⟩, ⟨none, none, [4,43], none, .w (.st 2 (.t 4) (.t 43))⟩]) (.keep [1,4,38,39,40] (.seq (.reg true [(cFa 44 4 0), (cLd 45 44 false 1), (cFa 46 4 1), (cLd 47 46 false 1), (cQ 48 [45,47] (.call (kF 26) [(.t 45), (.k (.i (-30))), (.t 47)])), (cN 49 48), (cMv 50 49), (gQ 51 50 false [4] (.fad 1 (.t 4))), (gQ 52 50 false [51] (.ld false 1 (.t 51))), (gQ 53 50 false [52] (.bin .gtr (.t 52) (kI 30))), (cQ 54 [50,53] (.pick (.t 50) (kB true) (.t 53)))]) (.keep [1,38,39,40,54] (.cond (.t 54) (.seq (.reg false [(cQ 2 [] (.mv (kB false)))]) .ret) .skip)))))) (.drp 0 (.keep [1,38,39,40] (.reg false [(cC 55 .add 40 1), (cMv 40 55)])))))))))))) (.keep [1] (.seq (.seq (.reg false [(cFa 56 1 3), (cLd 57 56 false 1), (cLn 58 57), (cI 59 0)]) (.keep [1,57,58,59] (.block 2 (.loop [1,57,58,59] (some 0) (.seq (.reg false [(cB 60 .lss 59 58)]) (.keep [1,57,58,59,60] (.seq (.cond (.t 60) .skip (.exit 2)) (.keep [1,57,58,59] (.seq (.block 3 (.seq (.reg false [(cMv 61 59), (cA 62 2 57 59), (cLd 63 62 true 2), ⟨(some 6), none, [], none, .w (.alc [(.i 0), (.i 0)])⟩, (cMv 5 61), ⟨none, none, [6,63], none, .w (.st 2 (.t 6) (.t 63))⟩]) (.keep [1,5,6,57,58,59] (.seq (.any true 0 [⟨(cFa 64 6 0), [], []⟩, ⟨(cLd 65 64 false 1), [], [0]⟩, ⟨(cFa 66 6 1), [], []⟩, ⟨(cLd 67 66 false 1), [], [2]⟩, ⟨(cQ 68 [65,67] (.call (kF 26) [(.t 65), (kI 0), (.t 67)])), [], [1,0,3,2]⟩, ⟨(cN 69 68), [], [4,1,0,3,2]⟩, ⟨(cMv 70 69), [], [5,4,1,0,3,2]⟩, ⟨(gQ 71 70 false [6] (.fad 1 (.t 6))), [], [6,5,4,1,0,3,2]⟩, ⟨(gQ 72 70 false [71] (.ld false 1 (.t 71))), [], [7,6,5,4,1,0,3,2]⟩, ⟨(gQ 73 70 false [72] (.bin .gtr (.t 72) (kI 9999))), [], [8,7,6,5,4,1,0,3,2]⟩, ⟨(cQ 74 [70,73] (.pick (.t 70) (kB true) (.t 73))), [], [6,5,4,1,0,3,2,9,8,7]⟩, ⟨(cMv 75 74), [], [10,6,5,4,1,0,3,2,9,8,7]⟩, ⟨(gMv 76 75 false 5), [], [11,10,6,5,4,1,0,3,2,9,8,7]⟩, ⟨(gQ 77 75 false [76] (.bin .gtr (.t 76) (kI 0))), [], [12,11,10,6,5,4,1,0,3,2,9,8,7]⟩, ⟨(gMv 78 75 false 77), [], [13,12,11,10,6,5,4,1,0,3,2,9,8,7]⟩, ⟨(gQ 79 78 true [6] (.fad 0 (.t 6))), [], [14,13,12,11,10,6,5,4,1,0,3,2,9,8,7]⟩, ⟨(gQ 80 78 true [79] (.ld false 1 (.t 79))), [], [15,14,13,12,11,10,6,5,4,1,0,3,2,9,8,7]⟩, ⟨(gQ 81 78 true [1] (.fad 3 (.t 1))), [], [14,13,12,11,10,6,5,4,1,0,3,2,9,8,7]⟩, ⟨(gQ 82 78 true [81] (.ld false 1 (.t 81))), [], [17,14,13,12,11,10,6,5,4,1,0,3,2,9,8,7]⟩, ⟨(gMv 83 78 true 5), [], [14,13,12,11,10,6,5,4,1,0,3,2,9,8,7]⟩, ⟨(gQ 84 78 true [83] (.bin .sub (.t 83) (kI 1))), [], [19,14,13,12,11,10,6,5,4,1,0,3,2,9,8,7]⟩, ⟨(gQ 85 78 true [82,84] (.iad 2 (.t 82) (.t 84))), [], [18,17,14,13,12,11,10,6,5,4,1,0,3,2,9,8,7,20,19]⟩, ⟨(gQ 86 78 true [85] (.fad 1 (.t 85))), [], [21,18,17,14,13,12,11,10,6,5,4,1,0,3,2,9,8,7,20,19]⟩, ⟨(gQ 87 78 true [86] (.ld false 1 (.t 86))), [], [22,21,18,17,14,13,12,11,10,6,5,4,1,0,3,2,9,8,7,20,19]⟩, ⟨(gQ 88 78 true [80,87] (.bin .leq (.t 80) (.t 87))), [], [16,15,14,13,12,11,10,6,5,4,1,0,3,2,9,8,7,23,22,21,18,17,20,19]⟩, ⟨(gQ 89 75 false [78,88] (.pick (.t 78) (.t 88) (kB false))), [], [14,13,12,11,10,6,5,4,1,0,3,2,9,8,7,24,16,15,23,22,21,18,17,20,19]⟩, ⟨(cQ 90 [75,89] (.pick (.t 75) (kB true) (.t 89))), [], [11,10,6,5,4,1,0,3,2,9,8,7,25,14,13,12,24,16,15,23,22,21,18,17,20,19]⟩]) (.keep [1,57,58,59,90] (.cond (.t 90) (.seq (.reg false [(cQ 2 [] (.mv (kB false)))]) .ret) .skip)))))) (.drp 0 (.keep [1,57,58,59] (.reg false [(cC 91 .add 59 1), (cMv 59 91)])))))))))))) (.keep [1] (.seq (.reg false [(cQ 92 [1] (.mkf 72 [(.t 1)])), (cMv 7 92)]) (.keep [1,7] (.seq (.reg false [(cQ 8 [] (.mv (kF 74)))]) (.keep [1,7,8] (.seq (.reg true [(cFa 93 1 1), (cLd 94 93 false 1), (cMv 95 7), (cQ 96 [94,95] (.call (kF 49) [(.t 94), (.t 95)])), (cN 97 96), (cMv 98 97), (gQ 99 98 true [1] (.fad 2 (.t 1))), (gQ 100 98 true [99] (.ld false 1 (.t 99))), (gMv 101 98 true 8), (gQ 102 98 true [100,101] (.call (kF 75) [(.t 100), (.t 101)])), (gQ 103 98 true [102] (.not (.t 102))), (cQ 104 [98,103] (.pick (.t 98) (.t 103) (kB false))), (cMv 2 104)]) .ret)))))))))))))
def pu59 : List Nat := [1]
def rs59 : List RV := [.t 2]
theorem cc59 : comp Tryz.prog pu59 (Tryz.f59.ntmps, 0) 0 1 rc59 (Tryz.f59.body.getD .skip) = some rc59 := by kernel_rfl
theorem cb59 : Tryz.f59.body = some (Tryz.f59.body.getD .skip) := by kernel_rfl
theorem cs59 : resRV Tryz.prog Tryz.f59.results.toList = some rs59 := by kernel_rfl
theorem cn59 : 1 ≤ Tryz.f59.ntmps := by decide
end Go.CS
set_option maxRecDepth 8000
namespace Go.CS
open Go.Fam Go.Proofs
def rc41 : RC := (.seq (.reg false [(cQ 2 [] (.mv (.k (.z 6)))), (cQ 3 [] (.mv (kB false)))]) (.keep [0] (.seq (.reg false [⟨(some 12), none, [], none, .w (.mkm false)⟩, (cMv 4 12)]) (.keep [0,4] (.seq (.seq (.reg false [(cMv 13 0), (cLn 14 13), (cI 15 0)]) (.keep [4,13,14,15] (.block 0 (.loop [4,13,14,15] (some 1) (.seq (.reg false [(cB 16 .lss 15 14)]) (.keep [4,13,14,15,16] (.seq (.cond (.t 16) .skip (.exit 0)) (.keep [4,13,14,15] (.seq (.block 1 (.seq (.reg false [(cA 17 6 13 15), (cLd 18 17 true 6), ⟨(some 6), none, [], none, .w (.alc [(.i 0), (.i 0), (.i 0), (.i 0), (.i 0), (.i 0)])⟩, ⟨none, none, [6,18], none, .w (.st 6 (.t 6) (.t 18))⟩]) (.keep [4,6,13,14,15] (.seq (.seq (.reg false [(cMv 20 4), (cFa 21 6 0), (cLd 22 21 false 1), (cQ 23 [20,22] (.lkp (.ag [(.i 0), (.i 0), (.i 0), (.i 0), (.i 0), (.i 0)]) true 3 false (.t 20) (.t 22))), (cMv 19 23), (cEx 24 19 0), (cEx 25 19 1), ⟨(some 7), none, [], none, .w (.alc [(.i 0), (.i 0), (.i 0), (.i 0), (.i 0), (.i 0)])⟩, ⟨none, none, [7,24], none, .w (.st 6 (.t 7) (.t 24))⟩, (cMv 8 25)]) (.keep [4,6,7,8,13,14,15] (.seq (.reg true [(cMv 26 8), (cMv 27 26), (gQ 28 27 true [7] (.ld true 6 (.t 7))), (gQ 29 27 true [6] (.ld true 6 (.t 6))), (gQ 30 27 true [28,29] (.eqs true 57 (.t 28) (.t 29))), (cQ 31 [27,30] (.pick (.t 27) (.t 30) (kB false)))]) (.keep [4,6,13,14,15,31] (.cond (.t 31) (.seq (.reg false [(cQ 2 [] (.mv (.k (.z 6)))), (cQ 3 [] (.mv (kB false)))]) .ret) .skip))))) (.keep [4,6,13,14,15] (.reg false [(cMv 32 4), (cFa 33 6 0), (cLd 34 33 false 1), (cLd 35 6 true 6), ⟨none, none, [32,34,35], none, .w (.mup 3 false (.t 32) (.t 34) (.t 35))⟩])))))) (.drp 1 (.keep [4,13,14,15] (.reg false [(cC 36 .add 15 1), (cMv 15 36)])))))))))))) (.keep [4] (.seq (.reg false [(cQ 9 [] (.mv (.k (.z 6))))]) (.keep [4,9] (.seq (.seq (.drp 0 (.reg false [(cMv 37 4), (cQ 38 [37] (.call (kF 60) [(.t 37)])), (cQ 39 [38] (.call (kF 27) [(.t 38)])), (cLn 40 39), (cI 41 0)])) (.keep [4,9,39,40,41] (.block 2 (.own 9 6 (.loop [4,9,39,40,41] none (.seq (.reg false [(cB 42 .lss 41 40)]) (.keep [4,9,39,40,41,42] (.seq (.cond (.t 42) .skip (.exit 2)) (.keep [4,9,39,40,41] (.seq (.block 3 (.seq (.reg false [(cA 43 1 39 41), (cLd 44 43 false 1), (cMv 11 44)]) (.keep [4,9,11,39,40,41] (.reg false [(cMv 45 9), (cMv 46 4), (cMv 47 11), (cQ 48 [46,47] (.lkp (.ag [(.i 0), (.i 0), (.i 0), (.i 0), (.i 0), (.i 0)]) false 3 false (.t 46) (.t 47))), (cQ 49 [48] (.bsl 6 1 [(.i 0), (.i 0), (.i 0), (.i 0), (.i 0), (.i 0)] [(0,6, (.t 48))])), ⟨(some 50), none, [45,49], none, .w (.app 6 (.t 45) (.t 49))⟩, (cMv 9 50)])))) (.keep [4,9,39,40,41] (.reg false [(cC 51 .add 41 1), (cMv 41 51)])))))))))))) (.keep [9] (.seq (.reg false [(cMv 52 9), (cMv 2 52), (cQ 3 [] (.mv (kB true)))]) .ret)))))))))))
def pu41 : List Nat := [49]
def rs41 : List RV := [.t 2, .t 3]
theorem cc41 : comp Tryz.prog pu41 (Tryz.f41.ntmps, 0) 0 1 rc41 (Tryz.f41.body.getD .skip) = some rc41 := by kernel_rfl
theorem cb41 : Tryz.f41.body = some (Tryz.f41.body.getD .skip) := by kernel_rfl
theorem cs41 : resRV Tryz.prog Tryz.f41.results.toList = some rs41 := by kernel_rfl
theorem cn41 : 1 ≤ Tryz.f41.ntmps := by decide
def rc40 : RC := (.seq (.reg false [(cX 1 0), (cI 2 0)]) (.keep [1] (.seq (.seq (.reg false [(cLd 5 1 true 11), (cQ 6 [5] (.call (kF 59) [(.t 5)])), (cN 7 6)]) (.keep [1,7] (.cond (.t 7) (.seq (.reg false [(cI 2 90)]) .ret) .skip))) (.keep [1] (.seq (.seq (.reg false [(cFa 9 1 1), (cLd 10 9 false 1), (cQ 11 [10] (.call (kF 41) [(.t 10)])), (cMv 8 11), (cEx 12 8 0), (cEx 13 8 1), (cMv 3 12), (cMv 4 13)]) (.keep [4] (.seq (.reg false [(cMv 14 4), (cN 15 14)]) (.keep [15] (.cond (.t 15) (.seq (.reg false [(cI 2 91)]) .ret) .skip))))) (.keep [] (.seq (.reg false [(cI 2 0)]) .ret)))))))
def pu40 : List Nat := [1]
def rs40 : List RV := [.t 2]
theorem cc40 : comp Tryz.prog pu40 (Tryz.f40.ntmps, 0) 0 1 rc40 (Tryz.f40.body.getD .skip) = some rc40 := by kernel_rfl
theorem cb40 : Tryz.f40.body = some (Tryz.f40.body.getD .skip) := by kernel_rfl
theorem cs40 : resRV Tryz.prog Tryz.f40.results.toList = some rs40 := by kernel_rfl
theorem cn40 : 1 ≤ Tryz.f40.ntmps := by decide
def rc60 : RC := (.seq (.reg false [(cX 1 0), (cQ 2 [] (.mv (.k .u)))]) (.keep [1] (.seq (.reg false [(cQ 3 [1] (.mkf 76 [(.t 1)])), (cMv 2 3)]) .ret)))
def pu60 : List Nat := [1]
def rs60 : List RV := [.t 2]
theorem cc60 : comp Tryz.prog pu60 (Tryz.f60.ntmps, 0) 0 1 rc60 (Tryz.f60.body.getD .skip) = some rc60 := by kernel_rfl
theorem cb60 : Tryz.f60.body = some (Tryz.f60.body.getD .skip) := by kernel_rfl
theorem cs60 : resRV Tryz.prog Tryz.f60.results.toList = some rs60 := by kernel_rfl
theorem cn60 : 1 ≤ Tryz.f60.ntmps := by decide
end Go.CS
set_option maxRecDepth 8000
namespace Go.CS
open Go.Fam Go.Proofs
def rc31 : RC := (.seq (.reg false [(cX 2 0), (cI 4 0)]) (.keep [1,2] (.seq (.seq (.reg false [(cMv 5 1), (cFa 6 2 4), (cLd 7 6 false 1), (cB 8 .geq 5 7)]) (.keep [1,2,8] (.cond (.t 8) (.seq (.reg false [(cFa 9 2 5), (cLd 10 9 false 1), (cMv 4 10)]) .ret) .skip))) (.keep [1,2] (.seq (.any false 0 [⟨(cFa 11 2 3), [], []⟩, ⟨(cLd 12 11 false 1), [], [0]⟩, ⟨(cFa 13 2 2), [], []⟩, ⟨(cLd 14 13 false 1), [], [2]⟩, ⟨(cMv 15 1), [], []⟩, ⟨(cFa 16 2 0), [], []⟩, ⟨(cLd 17 16 false 1), [], [5]⟩, ⟨(cB 18 .sub 15 17), [], [4,6,5]⟩, ⟨(cQ 19 [18] (.mx (kI 0) (.t 18))), [], [7,4,6,5]⟩, ⟨(cFa 20 2 1), [], []⟩, ⟨(cLd 21 20 false 1), [], [9]⟩, ⟨(cB 22 .add 19 21), [], [8,7,4,6,5,10,9]⟩, ⟨(cC 23 .sub 22 1), [], [11,8,7,4,6,5,10,9]⟩, ⟨(cFa 24 2 1), [], []⟩, ⟨(cLd 25 24 false 1), [], [13]⟩, ⟨(cB 26 .quo 23 25), [], [12,11,8,7,4,6,5,10,9,14,13]⟩, ⟨(cB 27 .mul 14 26), [], [3,2,15,12,11,8,7,4,6,5,10,9,14,13]⟩, ⟨(cQ 28 [12,27] (.mn (.t 12) (.t 27))), [], [1,0,16,3,2,15,12,11,8,7,4,6,5,10,9,14,13]⟩, ⟨(cMv 4 28), [], [17,1,0,16,3,2,15,12,11,8,7,4,6,5,10,9,14,13]⟩]) .ret)))))
def pu31 : List Nat := [2]
def rs31 : List RV := [.t 4]
theorem cc31 : comp Tryz.prog pu31 (Tryz.f31.ntmps, 0) 0 1 rc31 (Tryz.f31.body.getD .skip) = some rc31 := by kernel_rfl
theorem cb31 : Tryz.f31.body = some (Tryz.f31.body.getD .skip) := by kernel_rfl
theorem cs31 : resRV Tryz.prog Tryz.f31.results.toList = some rs31 := by kernel_rfl
theorem cn31 : 2 ≤ Tryz.f31.ntmps := by decide
def rc58 : RC := (.seq (.reg false [(cX 3 0), (cI 6 0)]) (.keep [1,2,3] (.seq (.reg false [(cMv 10 2), (cMv 11 1), (cB 12 .sub 10 11), (cMv 7 12)]) (.keep [1,2,3,7] (.seq (.seq (.reg false [(cFa 13 3 3), (cLd 14 13 false 1), (cLn 15 14), (cI 16 0)]) (.keep [1,2,7,14,15,16] (.block 0 (.loop [1,2,7,14,15,16] (some 0) (.seq (.reg false [(cB 17 .lss 16 15)]) (.keep [1,2,7,14,15,16,17] (.seq (.cond (.t 17) .skip (.exit 0)) (.keep [1,2,7,14,15,16] (.seq (.block 1 (.seq (.reg false [(cA 18 2 14 16), (cLd 19 18 true 2), ⟨(some 9), none, [], none, .w (.alc [(.i 0), (.i 0)])⟩, ⟨none, none, [9,19], none, .w (.st 2 (.t 9) (.t 19))⟩]) (.keep [1,2,7,9,14,15,16] (.reg false [(cMv 20 7), (cFa 21 9 1), (cLd 22 21 false 1), (cMv 23 2), (cC 24 .sub 23 1), (cQ 25 [22,24] (.mn (.t 22) (.t 24))), (cFa 26 9 0), (cLd 27 26 false 1), (cMv 28 1), (cQ 29 [27,28] (.mx (.t 27) (.t 28))), (cB 30 .sub 25 29), (cC 31 .add 30 1), (cQ 32 [31] (.mx (kI 0) (.t 31))), (cB 33 .sub 20 32), (cMv 7 33)])))) (.drp 0 (.keep [1,2,7,14,15,16] (.reg false [(cC 34 .add 16 1), (cMv 16 34)])))))))))))) (.keep [7] (.seq (.reg false [(cMv 35 7), (cMv 6 35)]) .ret)))))))
def pu58 : List Nat := [3]
def rs58 : List RV := [.t 6]
theorem cc58 : comp Tryz.prog pu58 (Tryz.f58.ntmps, 0) 0 1 rc58 (Tryz.f58.body.getD .skip) = some rc58 := by kernel_rfl
theorem cb58 : Tryz.f58.body = some (Tryz.f58.body.getD .skip) := by kernel_rfl
theorem cs58 : resRV Tryz.prog Tryz.f58.results.toList = some rs58 := by kernel_rfl
theorem cn58 : 3 ≤ Tryz.f58.ntmps := by decide
end Go.CS
set_option maxRecDepth 8000
namespace Go.CS
open Go.Fam Go.Proofs
def rc106 : RC := (.seq (.reg false [(cMv 10 1), (cC 11 .add 10 1), (cMv 8 11)]) (.keep [0,1,2,3,8] (.block 0 (.loop [0,1,2,3,8] none (.seq (.seq (.reg false [(cMv 12 8), (cMv 13 2), (cB 14 .lss 12 13)]) (.keep [0,1,2,3,8,14] (.cond (.t 14) .skip (.exit 0)))) (.keep [0,1,2,3,8] (.seq (.block 1 (.seq (.reg false [(cMv 17 8), (cMv 9 17)]) (.keep [0,1,2,3,8,9] (.block 2 (.loop [0,1,2,3,8,9] none (.seq (.seq (.any true 0 [⟨(cMv 18 9), [], []⟩, ⟨(cMv 19 1), [], []⟩, ⟨(cB 20 .gtr 18 19), [], [0,1]⟩, ⟨(cMv 21 20), [], [2,0,1]⟩, ⟨(gMv 22 21 true 3), [], [3,2,0,1]⟩, ⟨(gMv 23 21 true 0), [], [3,2,0,1]⟩, ⟨(gMv 24 21 true 9), [], [3,2,0,1]⟩, ⟨(gQ 25 21 true [23,24] (.iad 7 (.t 23) (.t 24))), [], [5,3,2,0,1,6]⟩, ⟨(gQ 26 21 true [25] (.ld true 7 (.t 25))), [], [7,5,3,2,0,1,6]⟩, ⟨(gMv 27 21 true 0), [], [3,2,0,1]⟩, ⟨(gMv 28 21 true 9), [], [3,2,0,1]⟩, ⟨(gQ 29 21 true [28] (.bin .sub (.t 28) (kI 1))), [], [10,3,2,0,1]⟩, ⟨(gQ 30 21 true [27,29] (.iad 7 (.t 27) (.t 29))), [], [9,3,2,0,1,11,10]⟩, ⟨(gQ 31 21 true [30] (.ld true 7 (.t 30))), [], [12,9,3,2,0,1,11,10]⟩, ⟨(gQ 32 21 true [22,26,31] (.call (.t 22) [(.t 26), (.t 31)])), [], [4,3,2,0,1,8,7,5,6,13,12,9,11,10]⟩, ⟨(gQ 33 21 true [32] (.bin .lss (.t 32) (kI 0))), [], [14,4,3,2,0,1,8,7,5,6,13,12,9,11,10]⟩, ⟨(cQ 34 [21,33] (.pick (.t 21) (.t 33) (kB false))), [], [3,2,0,1,15,14,4,8,7,5,6,13,12,9,11,10]⟩]) (.keep [0,1,2,3,8,9,34] (.cond (.t 34) .skip (.exit 2)))) (.keep [0,1,2,3,8,9] (.seq (.block 3 (.any false 0 [⟨(cMv 37 0), [], []⟩, ⟨(cMv 38 9), [], []⟩, ⟨(cMv 39 0), [], []⟩, ⟨(cMv 40 9), [], []⟩, ⟨(cC 41 .sub 40 1), [], [3]⟩, ⟨(cMv 42 0), [], []⟩, ⟨(cMv 43 9), [], []⟩, ⟨(cC 44 .sub 43 1), [], [6]⟩, ⟨(cA 45 7 42 44), [], [5,7,6]⟩, ⟨(cLd 46 45 true 7), [], [8,5,7,6]⟩, ⟨(cMv 47 0), [], []⟩, ⟨(cMv 48 9), [], []⟩, ⟨(cA 49 7 47 48), [], [10,11]⟩, ⟨(cLd 50 49 true 7), [], [12,10,11]⟩, ⟨(cA 51 7 37 38), [], [0,1,5,6,7,8,9,13,12,10,11]⟩, ⟨⟨none, none, [51,46], none, .w (.st 7 (.t 51) (.t 46))⟩, [2,3,4], [14,0,1,5,6,7,8,9,13,12,10,11]⟩, ⟨(cA 52 7 39 41), [], [2,4,3,0,1,5,6,7,8,9,10,11,12,13,14,15]⟩, ⟨⟨none, none, [52,50], none, .w (.st 7 (.t 52) (.t 50))⟩, [], [16,2,4,3,0,1,5,6,7,8,9,10,11,12,13,14,15]⟩])) (.keep [0,1,2,3,8,9] (.reg false [(cMv 35 9), (cC 36 .sub 35 1), (cMv 9 36)])))))))))) (.keep [0,1,2,3,8] (.reg false [(cMv 15 8), (cC 16 .add 15 1), (cMv 8 16)])))))))))
def pu106 : List Nat := []
def rs106 : List RV := []
theorem cc106 : comp Tryz.prog pu106 (Tryz.f106.ntmps, 0) 20 1 rc106 (Tryz.f106.body.getD .skip) = some rc106 := by kernel_rfl
theorem cb106 : Tryz.f106.body = some (Tryz.f106.body.getD .skip) := by kernel_rfl
theorem cs106 : resRV Tryz.prog Tryz.f106.results.toList = some rs106 := by kernel_rfl
theorem cn106 : 4 ≤ Tryz.f106.ntmps := by decide
def rc98 : RC := (.seq (.reg false [(cQ 10 [] (.mv (kB true)))]) (.keep [0,1,2,3,4,10] (.seq (.reg false [(cQ 11 [] (.mv (kB true)))]) (.keep [0,1,2,3,4,10,11] (.block 0 (.loop [0,1,2,3,4,10,11] none (.block 1 (.seq (.reg false [(cMv 21 2), (cMv 22 1), (cB 23 .sub 21 22), (cMv 12 23)]) (.keep [0,1,2,3,4,10,11,12] (.seq (.seq (.reg false [(cMv 24 12), (cC 25 .leq 24 12)]) (.keep [0,1,2,3,4,10,11,12,25] (.cond (.t 25) (.seq (.hcl false [(cMv 26 0), (cMv 27 1), (cMv 28 2), (cMv 29 4)] ⟨(some 30), none, [26,27,28,29], none, .o (kF 106) [(.t 26), (.t 27), (.t 28), (.t 29)]⟩ []) .ret) .skip))) (.keep [0,1,2,3,4,10,11,12] .no)))))))))))
def pu98 : List Nat := []
def rs98 : List RV := []
theorem cc98 : comp Tryz.prog pu98 (Tryz.f98.ntmps, 0) 20 1 rc98 (Tryz.f98.body.getD .skip) = some rc98 := by kernel_rfl
theorem cb98 : Tryz.f98.body = some (Tryz.f98.body.getD .skip) := by kernel_rfl
theorem cs98 : resRV Tryz.prog Tryz.f98.results.toList = some rs98 := by kernel_rfl
theorem cn98 : 5 ≤ Tryz.f98.ntmps := by decide
def rc77 : RC := (.seq (.reg false [(cMv 5 0), (cLn 6 5), (cMv 4 6)]) (.keep [0,1,4] (.hcl false [(cMv 7 0), (cMv 8 4), (cMv 9 4), (cQ 10 [9] (.cvk .u64 (.t 9))), (cQ 11 [10] (.call (kF 65) [(.t 10)])), (cMv 12 1)] ⟨(some 13), none, [7,8,11,12], none, .o (kF 98) [(.t 7), (kI 0), (.t 8), (.t 11), (.t 12)]⟩ [])))
def pu77 : List Nat := []
def rs77 : List RV := []
theorem cc77 : comp Tryz.prog pu77 (Tryz.f77.ntmps, 0) 20 1 rc77 (Tryz.f77.body.getD .skip) = some rc77 := by kernel_rfl
theorem cb77 : Tryz.f77.body = some (Tryz.f77.body.getD .skip) := by kernel_rfl
theorem cs77 : resRV Tryz.prog Tryz.f77.results.toList = some rs77 := by kernel_rfl
theorem cn77 : 2 ≤ Tryz.f77.ntmps := by decide
def rc78 : RC := (.seq (.reg false [(cX 2 0), (cX 3 1), (cI 4 0)]) (.keep [2,3] (.seq (.reg false [(cFa 5 2 6), (cLd 6 5 false 1), (cFa 7 3 6), (cLd 8 7 false 1), (cQ 9 [6,8] (.call (kF 79) [(.t 6), (.t 8)])), (cMv 4 9)]) .ret)))
def pu78 : List Nat := [2,3]
def rs78 : List RV := [.t 4]
theorem cc78 : comp Tryz.prog pu78 (Tryz.f78.ntmps, 0) 0 1 rc78 (Tryz.f78.body.getD .skip) = some rc78 := by kernel_rfl
theorem cb78 : Tryz.f78.body = some (Tryz.f78.body.getD .skip) := by kernel_rfl
theorem cs78 : resRV Tryz.prog Tryz.f78.results.toList = some rs78 := by kernel_rfl
theorem cn78 : 2 ≤ Tryz.f78.ntmps := by decide
def rc79 : RC := (.seq (.reg false [(cI 4 0)]) (.keep [0,1] (.seq (.reg false [(cMv 7 0), (cQ 8 [7] (.call (kF 99) [(.t 7)])), (cMv 5 8)]) (.keep [0,1,5] (.seq (.reg false [(cMv 9 1), (cQ 10 [9] (.call (kF 99) [(.t 9)])), (cMv 6 10)]) (.keep [0,1,5,6] (.seq (.seq (.reg false [(cMv 11 5)]) (.keep [0,1,6,11] (.cond (.t 11) (.seq (.seq (.reg false [(cMv 12 6)]) (.keep [12] (.cond (.t 12) (.seq (.reg false [(cI 4 0)]) .ret) .skip))) (.keep [] (.seq (.reg false [(cQ 4 [] (.mv (.k (.i (-1)))))]) .ret))) .skip))) (.keep [0,1,6] (.seq (.seq (.reg false [(cMv 13 6)]) (.keep [0,1,13] (.cond (.t 13) (.seq (.reg false [(cI 4 1)]) .ret) .skip))) (.keep [0,1] (.seq (.seq (.reg false [(cMv 14 0), (cMv 15 1), (cB 16 .lss 14 15)]) (.keep [0,1,16] (.cond (.t 16) (.seq (.reg false [(cQ 4 [] (.mv (.k (.i (-1)))))]) .ret) .skip))) (.keep [0,1] (.seq (.seq (.reg false [(cMv 17 0), (cMv 18 1), (cB 19 .gtr 17 18)]) (.keep [19] (.cond (.t 19) (.seq (.reg false [(cI 4 1)]) .ret) .skip))) (.keep [] (.seq (.reg false [(cI 4 0)]) .ret)))))))))))))))
def pu79 : List Nat := []
def rs79 : List RV := [.t 4]
theorem cc79 : comp Tryz.prog pu79 (Tryz.f79.ntmps, 0) 0 1 rc79 (Tryz.f79.body.getD .skip) = some rc79 := by kernel_rfl
theorem cb79 : Tryz.f79.body = some (Tryz.f79.body.getD .skip) := by kernel_rfl
theorem cs79 : resRV Tryz.prog Tryz.f79.results.toList = some rs79 := by kernel_rfl
theorem cn79 : 2 ≤ Tryz.f79.ntmps := by decide
def rc99 : RC := (.seq (.reg false [(cQ 2 [] (.mv (kB false)))]) (.keep [0] (.seq (.reg false [(cMv 3 0), (cMv 4 0), (cB 5 .neq 3 4), (cMv 2 5)]) .ret)))
def pu99 : List Nat := []
def rs99 : List RV := [.t 2]
theorem cc99 : comp Tryz.prog pu99 (Tryz.f99.ntmps, 0) 0 1 rc99 (Tryz.f99.body.getD .skip) = some rc99 := by kernel_rfl
theorem cb99 : Tryz.f99.body = some (Tryz.f99.body.getD .skip) := by kernel_rfl
theorem cs99 : resRV Tryz.prog Tryz.f99.results.toList = some rs99 := by kernel_rfl
theorem cn99 : 1 ≤ Tryz.f99.ntmps := by decide
end Go.CS
set_option maxRecDepth 8000
namespace Go.CS
open Go.Fam Go.Proofs
def rc62 : RC := (.seq (.reg false [(cQ 4 [] (.mv (.k .pn))), (cQ 5 [] (.mv (kB false)))]) (.keep [0,1] (.seq (.reg false [(cMv 14 1), (cQ 15 [14] (.call (kF 16) [(.t 14)])), (cQ 16 [15] (.bld [(.z 1), (.z 7), (.z 7), (.z 7), (.z 7), (.z 7), (.z 7), (.z 7), (.z 7), (.z 7), (.z 7)] [(0,1, (.t 15))])), ⟨(some 17), none, [16], none, .w (.bxo (.t 16))⟩, (cMv 6 17)]) (.keep [0,1,6] (.seq (.seq (.reg false [(cMv 18 0), (cZ 19 18), (cFa 20 19 11), (cLd 21 20 false 1), (cLn 22 21), (cI 23 0)]) (.keep [1,6,21,22,23] (.block 0 (.ownc 6 1 7 (.ownc 6 2 7 (.ownc 6 3 7 (.ownc 6 4 7 (.ownc 6 5 7 (.ownc 6 6 7 (.ownc 6 7 7 (.ownc 6 8 7 (.ownc 6 9 7 (.ownc 6 10 7 (.loop [1,6,21,22,23] (some 13) (.seq (.reg false [(cB 24 .lss 23 22)]) (.keep [1,6,21,22,23,24] (.seq (.cond (.t 24) .skip (.exit 0)) (.keep [1,6,21,22,23] (.seq (.block 1 (.seq (.reg false [(cA 25 6 21 23), (cLd 26 25 true 6), ⟨(some 8), none, [], none, .w (.alc [(.i 0), (.i 0), (.i 0), (.i 0), (.i 0), (.i 0)])⟩, ⟨none, none, [8,26], none, .w (.st 6 (.t 8) (.t 26))⟩]) (.keep [1,6,8,21,22,23] (.any false 1 [⟨(cMv 27 6), [], []⟩, ⟨(cFa 28 8 4), [], []⟩, ⟨(cLd 29 28 false 1), [], [1]⟩, ⟨(cMv 30 6), [], []⟩, ⟨(cFa 31 8 4), [], []⟩, ⟨(cLd 32 31 false 1), [], [4]⟩, ⟨(cZ 33 30), [], [3]⟩, ⟨(cFa 34 33 1), [], [6,3]⟩, ⟨(cQ 35 [34,32] (.iaa 1 10 (.t 34) (.t 32))), [], [7,6,3,5,4]⟩, ⟨(cLd 36 35 false 1), [], [8,7,6,3,5,4]⟩, ⟨(cLd 37 8 true 6), [], []⟩, ⟨(cFa 38 8 2), [], []⟩, ⟨(cLd 39 38 false 1), [], [11]⟩, ⟨(cMv 40 1), [], []⟩, ⟨(cFa 41 8 1), [], []⟩, ⟨(cLd 42 41 false 1), [], [14]⟩, ⟨(cA 43 1 40 42), [], [13,15,14]⟩, ⟨(cLd 44 43 false 1), [], [16,13,15,14]⟩, ⟨(cB 45 .add 39 44), [], [12,11,17,16,13,15,14]⟩, ⟨(cQ 46 [37,45] (.bld [(.i 0), (.i 0), (.i 0), (.i 0), (.i 0), (.i 0), (.i 0)] [(0,6, (.t 37)), (6,1, (.t 45))])), [], [10,18,12,11,17,16,13,15,14]⟩, ⟨(cQ 47 [46] (.bsl 7 1 [(.i 0), (.i 0), (.i 0), (.i 0), (.i 0), (.i 0), (.i 0)] [(0,7, (.t 46))])), [], [19,10,18,12,11,17,16,13,15,14]⟩, ⟨⟨(some 48), none, [36,47], (some 0), .w (.app 7 (.t 36) (.t 47))⟩, [0,1,2], [9,8,7,6,3,5,4,20,19,10,18,12,11,17,16,13,15,14]⟩, ⟨(cZ 49 27), [21], [0]⟩, ⟨(cFa 50 49 1), [21], [22,0]⟩, ⟨(cQ 51 [50,29] (.iaa 1 10 (.t 50) (.t 29))), [], [23,22,0,2,1,3,4,5,6,7,8,9,10,11,12,13,14,15,16,17,18,19,20,21]⟩, ⟨⟨none, none, [51,48], none, .w (.st 1 (.t 51) (.t 48))⟩, [], [24,23,22,0,2,1,3,4,5,6,7,8,9,10,11,12,13,14,15,16,17,18,19,20,21]⟩])))) (.drp 13 (.keep [1,6,21,22,23] (.reg false [(cC 52 .add 23 1), (cMv 23 52)])))))))))))))))))))))) (.keep [6] (.seq (.seq (.reg false [(cMv 53 6), (cZ 54 53), (cFa 55 54 1), (cLd 56 55 true 10), (cI 57 0)]) (.keep [6,56,57] (.block 2 (.loop [6,56,57] (some 13) (.seq (.reg false [(cC 58 .lss 57 10)]) (.keep [6,56,57,58] (.seq (.cond (.t 58) .skip (.exit 2)) (.keep [6,56,57] (.seq (.block 3 (.seq (.reg false [(cQ 59 [56,57] (.iva 10 (.t 56) (.t 57))), (cMv 10 59)]) (.keep [6,10,56,57] (.seq (.hcl false [(cMv 60 10)] ⟨(some 61), none, [60], none, .o (kF 77) [(.t 60), (kF 78)]⟩ []) (.keep [6,10,56,57] (.seq (.reg false [(cMv 62 10), (cLn 63 62), (cI 64 0)]) (.keep [6,10,56,57,62,63,64] (.block 4 (.loop [6,10,56,57,62,63,64] (some 13) (.seq (.reg false [(cB 65 .lss 64 63)]) (.keep [6,10,56,57,62,63,64,65] (.seq (.cond (.t 65) .skip (.exit 4)) (.keep [6,10,56,57,62,63,64] (.seq (.block 5 (.seq (.reg false [(cMv 66 64), (cA 67 7 62 64), (cLd 68 67 true 7), ⟨(some 12), none, [], none, .w (.alc [(.i 0), (.i 0), (.i 0), (.i 0), (.i 0), (.i 0), (.i 0)])⟩, (cMv 11 66), ⟨none, none, [12,68], none, .w (.st 7 (.t 12) (.t 68))⟩]) (.keep [6,10,11,12,56,57,62,63,64] (.seq (.reg false [(cI 13 1)]) (.keep [6,10,11,12,13,56,57,62,63,64] (.seq (.seq (.reg false [(cMv 69 11), (cC 70 .rem 69 2), (cC 71 .eql 70 1)]) (.keep [6,10,11,12,13,56,57,62,63,64,71] (.cond (.t 71) (.reg false [(cI 13 2)]) .skip))) (.keep [6,10,11,12,13,56,57,62,63,64] (.seq (.any true 0 [⟨(cFa 72 12 0), [], []⟩, ⟨(cFa 73 72 3), [], [0]⟩, ⟨(cLd 74 73 false 1), [], [1,0]⟩, ⟨(cMv 75 13), [], []⟩, ⟨(cB 76 .neq 74 75), [], [2,1,0,3]⟩, ⟨(cMv 77 76), [], [4,2,1,0,3]⟩, ⟨(gMv 78 77 false 11), [], [5,4,2,1,0,3]⟩, ⟨(gQ 79 77 false [78] (.bin .gtr (.t 78) (kI 0))), [], [6,5,4,2,1,0,3]⟩, ⟨(gMv 80 77 false 79), [], [7,6,5,4,2,1,0,3]⟩, ⟨(gQ 81 80 true [12] (.fad 6 (.t 12))), [], [8,7,6,5,4,2,1,0,3]⟩, ⟨(gQ 82 80 true [81] (.ld false 1 (.t 81))), [], [9,8,7,6,5,4,2,1,0,3]⟩, ⟨(gMv 83 80 true 10), [], [8,7,6,5,4,2,1,0,3]⟩, ⟨(gMv 84 80 true 11), [], [8,7,6,5,4,2,1,0,3]⟩, ⟨(gQ 85 80 true [84] (.bin .sub (.t 84) (kI 1))), [], [12,8,7,6,5,4,2,1,0,3]⟩, ⟨(gQ 86 80 true [83,85] (.iad 7 (.t 83) (.t 85))), [], [11,8,7,6,5,4,2,1,0,3,13,12]⟩, ⟨(gQ 87 80 true [86] (.fad 6 (.t 86))), [], [14,11,8,7,6,5,4,2,1,0,3,13,12]⟩, ⟨(gQ 88 80 true [87] (.ld false 1 (.t 87))), [], [15,14,11,8,7,6,5,4,2,1,0,3,13,12]⟩, ⟨(gQ 89 80 true [82,88] (.bin .eql (.t 82) (.t 88))), [], [10,9,8,7,6,5,4,2,1,0,3,16,15,14,11,13,12]⟩, ⟨(gQ 90 77 false [80,89] (.pick (.t 80) (.t 89) (kB false))), [], [8,7,6,5,4,2,1,0,3,17,10,9,16,15,14,11,13,12]⟩, ⟨(cQ 91 [77,90] (.pick (.t 77) (kB true) (.t 90))), [], [5,4,2,1,0,3,18,8,7,6,17,10,9,16,15,14,11,13,12]⟩]) (.keep [6,10,56,57,62,63,64,91] (.cond (.t 91) (.seq (.reg false [(cQ 4 [] (.mv (.k .pn))), (cQ 5 [] (.mv (kB false)))]) .ret) .skip)))))))))) (.drp 13 (.keep [6,10,56,57,62,63,64] (.reg false [(cC 92 .add 64 1), (cMv 64 92)]))))))))))))))))) (.drp 13 (.keep [6,56,57] (.reg false [(cC 93 .add 57 1), (cMv 57 93)])))))))))))) (.keep [6] (.seq (.reg false [(cMv 94 6), (cMv 4 94), (cQ 5 [] (.mv (kB true)))]) .ret)))))))))
def pu62 : List Nat := [47]
def rs62 : List RV := [.t 4, .t 5]
theorem cc62 : comp Tryz.prog pu62 (Tryz.f62.ntmps, 0) 2 1 rc62 (Tryz.f62.body.getD .skip) = some rc62 := by kernel_rfl
theorem cb62 : Tryz.f62.body = some (Tryz.f62.body.getD .skip) := by kernel_rfl
theorem cs62 : resRV Tryz.prog Tryz.f62.results.toList = some rs62 := by kernel_rfl
theorem cn62 : 2 ≤ Tryz.f62.ntmps := by decide
def rc16 : RC := (.seq (.reg false [(cQ 2 [] (.mv (.k (.z 1))))]) (.keep [0] (.seq (.seq (.rnl false [(cMv 3 0)] (cLn 4 3) []) (.keep [0,4] (.cond (.t 4) (.seq (.reg false [(cQ 2 [] (.mv (.k (.z 1))))]) .ret) .skip))) (.keep [0] (.seq (.reg false [⟨(some 5), none, [], none, .w (.bso 1 0 [(.i 0)] [])⟩, (cMv 6 0), ⟨(some 7), none, [5,6], none, .w (.app 1 (.t 5) (.t 6))⟩, (cMv 2 7)]) .ret)))))
def pu16 : List Nat := []
def rs16 : List RV := [.t 2]
theorem cc16 : comp Tryz.prog pu16 (Tryz.f16.ntmps, 0) 0 1 rc16 (Tryz.f16.body.getD .skip) = some rc16 := by kernel_rfl
theorem cb16 : Tryz.f16.body = some (Tryz.f16.body.getD .skip) := by kernel_rfl
theorem cs16 : resRV Tryz.prog Tryz.f16.results.toList = some rs16 := by kernel_rfl
theorem cn16 : 1 ≤ Tryz.f16.ntmps := by decide
end Go.CS
set_option maxRecDepth 8000
namespace Go.CS
open Go.Fam Go.Proofs
def rc44 : RC := (.seq (.reg false [(cMv 8 1), (cLn 9 8), (cMv 4 9)]) (.keep [0,1,4] (.seq (.seq (.reg false [(cMv 10 4), (cMv 11 0), (cZ 12 11), (cFa 13 12 0), (cFa 14 13 0), (cLd 15 14 false 1), (cLn 16 15), (cB 17 .eql 10 16)]) (.keep [0,1,4,17] (.cond (.t 17) (.seq (.seq (.hcl false [(cMv 19 0), (cMv 20 1)] ⟨(some 21), none, [19,20], none, .o (kF 62) [(.t 19), (.t 20)]⟩ [(cMv 18 21), (cEx 22 18 0), (cEx 23 18 1), (cMv 5 22), (cMv 6 23)]) (.keep [0,5,6] (.seq (.reg false [(cMv 24 6)]) (.keep [0,5,24] (.cond (.t 24) (.reg false [(cMv 25 0), (cMv 26 0), (cZ 27 26), (cFa 28 27 12), (cLd 29 28 false 1), (cMv 30 5), (cQ 31 [30] (.bsl 1 1 [.pn] [(0,1, (.t 30))])), ⟨(some 32), none, [29,31], none, .w (.app 1 (.t 29) (.t 31))⟩, (cZ 33 25), (cFa 34 33 12), ⟨none, none, [34,32], none, .w (.st 1 (.t 34) (.t 32))⟩]) .skip))))) .ret) .skip))) (.keep [0,1,4] (.seq (.reg false [(cMv 35 0), (cZ 36 35), (cFa 37 36 0), (cFa 38 37 0), (cLd 39 38 false 1), (cMv 40 4), (cA 41 2 39 40), (cFa 42 41 0), (cLd 43 42 false 1), (cMv 7 43)]) (.keep [0,1,4,7] (.block 0 (.loop [0,1,4,7] none (.seq (.seq (.reg false [(cMv 44 7), (cMv 45 0), (cZ 46 45), (cFa 47 46 0), (cFa 48 47 0), (cLd 49 48 false 1), (cMv 50 4), (cA 51 2 49 50), (cFa 52 51 1), (cLd 53 52 false 1), (cB 54 .leq 44 53)]) (.keep [0,1,4,7,54] (.cond (.t 54) .skip (.exit 0)))) (.keep [0,1,4,7] (.seq (.block 1 (.hcl false [(cMv 57 0), (cMv 58 1), (cMv 59 4), (cMv 60 4), (cQ 61 [58,59,60] (.slx 1 (.t 58) (.t 59) (.t 60))), (cMv 62 7), (cQ 63 [62] (.bsl 1 1 [(.i 0)] [(0,1, (.t 62))])), ⟨(some 64), none, [61,63], none, .w (.app 1 (.t 61) (.t 63))⟩] ⟨(some 65), none, [57,64], none, .o (kF 44) [(.t 57), (.t 64)]⟩ [])) (.keep [0,1,4,7] (.drp 2 (.reg false [(cMv 55 7), (cC 56 .add 55 1), (cMv 7 56)]))))))))))))))
def pu44 : List Nat := [31,63]
def rs44 : List RV := []
theorem cc44 : comp Tryz.prog pu44 (Tryz.f44.ntmps, 0) 2 1 rc44 (Tryz.f44.body.getD .skip) = some rc44 := by kernel_rfl
theorem cb44 : Tryz.f44.body = some (Tryz.f44.body.getD .skip) := by kernel_rfl
theorem cs44 : resRV Tryz.prog Tryz.f44.results.toList = some rs44 := by kernel_rfl
theorem cn44 : 2 ≤ Tryz.f44.ntmps := by decide
end Go.CS
set_option maxRecDepth 8000
namespace Go.CS
open Go.Fam Go.Proofs
def rc19 : RC := (.seq (.reg false [(cX 2 0), (cQ 4 [] (.mv (.k .pn))), (cI 5 0)]) (.keep [1,2] (.seq (.seq (.reg false [(cLd 8 2 true 11), (cQ 9 [8] (.call (kF 40) [(.t 8)])), (cMv 6 9)]) (.keep [1,2,6] (.seq (.reg false [(cMv 10 6), (cC 11 .neq 10 0)]) (.keep [1,2,6,11] (.cond (.t 11) (.seq (.reg false [(cMv 12 6), (cQ 4 [] (.mv (.k .pn))), (cMv 5 12)]) .ret) .skip))))) (.keep [1,2] (.seq (.reg false [(cLd 13 2 true 11), (cQ 14 [13] (.bld [(.z 2), (.z 6), (.z 1), (.z 2), (.i 0), (.i 0), (.i 0), (.i 0), (.i 0), (.i 0), (.i 0), (.z 6), (.z 1)] [(0,11, (.t 13))])), ⟨(some 15), none, [14], none, .w (.bxo (.t 14))⟩, (cMv 7 15)]) (.keep [1,2,7] (.seq (.reg false [(cMv 17 7), (cFa 18 2 1), (cLd 19 18 false 1), (cQ 20 [19] (.call (kF 41) [(.t 19)])), (cMv 16 20), (cEx 21 16 0), (cEx 22 16 1), (cZ 23 17), (cFa 24 23 11), ⟨none, none, [24,21], none, .w (.st 1 (.t 24) (.t 21))⟩]) (.keep [1,2,7] (.seq (.reg false [(cMv 25 7), (cMv 26 7), (cZ 27 26), (cFa 28 27 11), (cLd 29 28 false 1), (cQ 30 [2] (.mkf 43 [(.t 2)])), (cQ 31 [29,30] (.call (kF 42) [(.t 29), (.t 30)])), (cZ 32 25), (cFa 33 32 11), ⟨none, none, [33,31], none, .w (.st 1 (.t 33) (.t 31))⟩]) (.keep [1,7] (.seq (.seq (.reg false [(cMv 34 1), (cMv 35 7), (cQ 36 [34,35] (.call (.t 34) [(.t 35)])), (cN 37 36)]) (.keep [7,37] (.cond (.t 37) (.seq (.reg false [(cQ 4 [] (.mv (.k .pn))), (cI 5 1)]) .ret) .skip))) (.keep [7] (.seq (.ownc 7 12 1 (.hcl false [(cMv 38 7)] ⟨(some 39), none, [38], none, .o (kF 44) [(.t 38), (.k (.z 1))]⟩ [])) (.keep [7] (.seq (.seq (.reg false [(cMv 40 7), (cZ 41 40), (cFa 42 41 12), (cLd 43 42 false 1), (cLn 44 43), (cC 45 .eql 44 0)]) (.keep [7,45] (.cond (.t 45) (.seq (.reg false [(cQ 4 [] (.mv (.k .pn))), (cI 5 3)]) .ret) .skip))) (.keep [7] (.seq (.reg false [(cMv 46 7), (cMv 4 46), (cI 5 0)]) .ret)))))))))))))))))
def pu19 : List Nat := [2]
def rs19 : List RV := [.t 4, .t 5]
theorem cc19 : comp Tryz.prog pu19 (Tryz.f19.ntmps, 0) 0 1 rc19 (Tryz.f19.body.getD .skip) = some rc19 := by kernel_rfl
theorem cb19 : Tryz.f19.body = some (Tryz.f19.body.getD .skip) := by kernel_rfl
theorem cs19 : resRV Tryz.prog Tryz.f19.results.toList = some rs19 := by kernel_rfl
theorem cn19 : 2 ≤ Tryz.f19.ntmps := by decide
def rc42 : RC := (.seq (.reg false [(cQ 4 [] (.mv (.k (.z 6))))]) (.keep [0,1] (.seq (.reg false [(cMv 8 0), (cMv 9 1), (cQ 10 [8,9] (.call (kF 61) [(.t 8), (.t 9)])), (cMv 5 10)]) (.keep [0,1,5] (.seq (.seq (.reg false [(cMv 11 5), (cQ 12 [11] (.bin .eql (.t 11) (.k (.i (-1)))))]) (.keep [0,1,5,12] (.cond (.t 12) (.seq (.reg false [(cMv 13 0), (cMv 4 13)]) .ret) .skip))) (.keep [0,1,5] (.seq (.seq (.reg false [(cMv 14 5), (cC 15 .add 14 1), (cMv 6 15)]) (.keep [0,1,5,6] (.block 0 (.loop [0,1,5,6] (some 0) (.seq (.seq (.reg false [(cMv 16 6), (cMv 17 0), (cLn 18 17), (cB 19 .lss 16 18)]) (.keep [0,1,5,6,19] (.cond (.t 19) .skip (.exit 0)))) (.keep [0,1,5,6] (.seq (.block 1 (.seq (.reg false [(cMv 22 0), (cMv 23 6), (cA 24 6 22 23), (cLd 25 24 true 6), ⟨(some 7), none, [], none, .w (.alc [(.i 0), (.i 0), (.i 0), (.i 0), (.i 0), (.i 0)])⟩, ⟨none, none, [7,25], none, .w (.st 6 (.t 7) (.t 25))⟩]) (.keep [0,1,5,6,7] (.seq (.reg false [(cMv 26 1), (cLd 27 7 true 6), (cQ 28 [26,27] (.call (.t 26) [(.t 27)])), (cN 29 28)]) (.keep [0,1,5,6,7,29] (.cond (.t 29) (.seq (.reg false [(cMv 30 0), (cMv 31 5), (cLd 32 7 true 6), (cA 33 6 30 31), ⟨none, none, [33,32], none, .w (.st 6 (.t 33) (.t 32))⟩]) (.keep [0,1,5,6] (.reg false [(cMv 34 5), (cC 35 .add 34 1), (cMv 5 35)]))) .skip)))))) (.drp 0 (.keep [0,1,5,6] (.reg false [(cMv 20 6), (cC 21 .add 20 1), (cMv 6 21)])))))))))) (.keep [0,5] (.seq .no (.keep [0,5] (.seq (.reg false [(cMv 39 0), (cMv 40 5), (cQ 41 [39,40] (.slc 6 (.t 39) none (some (.t 40)))), (cMv 4 41)]) .ret)))))))))))
def pu42 : List Nat := []
def rs42 : List RV := [.t 4]
theorem cc42 : comp Tryz.prog pu42 (Tryz.f42.ntmps, 0) 0 1 rc42 (Tryz.f42.body.getD .skip) = some rc42 := by kernel_rfl
theorem cb42 : Tryz.f42.body = some (Tryz.f42.body.getD .skip) := by kernel_rfl
theorem cs42 : resRV Tryz.prog Tryz.f42.results.toList = some rs42 := by kernel_rfl
theorem cn42 : 2 ≤ Tryz.f42.ntmps := by decide
def rc43 : RC := (.seq (.reg false [(cX 2 0), (cQ 3 [] (.mv (kB false)))]) (.keep [1,2] (.seq (.reg false [(cFa 4 1 2), (cLd 5 4 false 1), (cFa 6 2 0), (cLd 7 6 false 1), (cQ 8 [5,7] (.call (kF 35) [(.t 5), (.t 7)])), (cMv 3 8)]) .ret)))
def pu43 : List Nat := [2]
def rs43 : List RV := [.t 3]
theorem cc43 : comp Tryz.prog pu43 (Tryz.f43.ntmps, 0) 0 1 rc43 (Tryz.f43.body.getD .skip) = some rc43 := by kernel_rfl
theorem cb43 : Tryz.f43.body = some (Tryz.f43.body.getD .skip) := by kernel_rfl
theorem cs43 : resRV Tryz.prog Tryz.f43.results.toList = some rs43 := by kernel_rfl
theorem cn43 : 2 ≤ Tryz.f43.ntmps := by decide
def rc48 : RC := (.seq (.reg false [(cQ 3 [] (.mv (kB false)))]) (.keep [0,1] (.seq (.reg false [(cMv 4 0), (cZ 5 4), (cFa 6 5 11), (cLd 7 6 false 1), (cQ 8 [1] (.mkf 50 [(.t 1)])), (cQ 9 [7,8] (.call (kF 49) [(.t 7), (.t 8)])), (cMv 3 9)]) .ret)))
def pu48 : List Nat := []
def rs48 : List RV := [.t 3]
theorem cc48 : comp Tryz.prog pu48 (Tryz.f48.ntmps, 0) 0 1 rc48 (Tryz.f48.body.getD .skip) = some rc48 := by kernel_rfl
theorem cb48 : Tryz.f48.body = some (Tryz.f48.body.getD .skip) := by kernel_rfl
theorem cs48 : resRV Tryz.prog Tryz.f48.results.toList = some rs48 := by kernel_rfl
theorem cn48 : 2 ≤ Tryz.f48.ntmps := by decide
def rc50 : RC := (.seq (.reg false [(cX 2 0), (cQ 3 [] (.mv (kB false)))]) (.keep [1,2] (.seq (.reg true [(cFa 4 2 0), (cLd 5 4 false 1), (cLd 6 1 false 1), (cB 7 .eql 5 6), (cMv 8 7), (gQ 9 8 true [2] (.fad 3 (.t 2))), (gQ 10 8 true [9] (.ld false 1 (.t 9))), (gQ 11 8 true [10] (.bin .eql (.t 10) (kI 1))), (cQ 12 [8,11] (.pick (.t 8) (.t 11) (kB false))), (cMv 3 12)]) .ret)))
def pu50 : List Nat := [2]
def rs50 : List RV := [.t 3]
theorem cc50 : comp Tryz.prog pu50 (Tryz.f50.ntmps, 0) 0 1 rc50 (Tryz.f50.body.getD .skip) = some rc50 := by kernel_rfl
theorem cb50 : Tryz.f50.body = some (Tryz.f50.body.getD .skip) := by kernel_rfl
theorem cs50 : resRV Tryz.prog Tryz.f50.results.toList = some rs50 := by kernel_rfl
theorem cn50 : 2 ≤ Tryz.f50.ntmps := by decide
end Go.CS
set_option maxRecDepth 8000
namespace Go.CS
open Go.Fam Go.Proofs
def rc57 : RC := (.seq (.reg false [(cLd 7 1 false 1), (cZ 8 7), (cFa 9 8 1), (cLd 10 9 true 10), (cI 11 0)]) (.keep [0,2,10,11] (.block 0 (.loop [0,2,10,11] none (.seq (.reg false [(cC 12 .lss 11 10)]) (.keep [0,2,10,11,12] (.seq (.cond (.t 12) .skip (.exit 0)) (.keep [0,2,10,11] (.seq (.block 1 (.seq (.reg false [(cQ 13 [10,11] (.iva 10 (.t 10) (.t 11))), (cMv 5 13)]) (.keep [0,2,5,10,11] (.seq (.reg false [(cI 6 0)]) (.keep [0,2,5,6,10,11] (.block 2 (.loop [0,2,5,6,10,11] none (.seq (.seq (.reg false [(cMv 14 6), (cC 15 .add 14 1), (cMv 16 5), (cLn 17 16), (cB 18 .lss 15 17)]) (.keep [0,2,5,6,10,11,18] (.cond (.t 18) .skip (.exit 2)))) (.keep [0,2,5,6,10,11] (.seq (.block 3 (.seq (.yrx false 0 [⟨(cMv 21 0), [], []⟩, ⟨(cMv 22 5), [], []⟩, ⟨(cMv 23 6), [], []⟩, ⟨(cA 24 7 22 23), [], [1,2]⟩, ⟨(cFa 25 24 0), [], [3,1,2]⟩, ⟨(cLd 26 25 true 6), [], [4,3,1,2]⟩, ⟨(cLd 27 2 false 1), [], []⟩, ⟨(cZ 28 27), [], [6]⟩, ⟨(cFa 29 28 0), [], [7,6]⟩, ⟨(cLd 30 29 true 11), [], [8,7,6]⟩, ⟨(cMv 31 5), [], []⟩, ⟨(cMv 32 6), [], []⟩, ⟨(cA 33 7 31 32), [], [10,11]⟩, ⟨(cFa 34 33 6), [], [12,10,11]⟩, ⟨(cLd 35 34 false 1), [], [13,12,10,11]⟩, ⟨(cMv 36 5), [], []⟩, ⟨(cMv 37 6), [], []⟩, ⟨(cC 38 .add 37 1), [], [16]⟩, ⟨(cA 39 7 36 38), [], [15,17,16]⟩, ⟨(cFa 40 39 6), [], [18,15,17,16]⟩, ⟨(cLd 41 40 false 1), [], [19,18,15,17,16]⟩, ⟨(cQ 42 [30,35,41] (.call (kF 58) [(.t 30), (.t 35), (.t 41)])), [], [9,8,7,6,14,13,12,10,11,20,19,18,15,17,16]⟩] ⟨⟨(some 43), none, [21,26,42], none, .o (.t 21) [(.t 26), (.t 42)]⟩, [], [0,5,4,3,1,2,21,9,8,7,6,14,13,12,10,11,20,19,18,15,17,16]⟩ 0 [⟨(cN 44 43), [], [22,0,5,4,3,1,2,21,9,8,7,6,14,13,12,10,11,20,19,18,15,17,16]⟩]) (.keep [0,2,5,6,10,11,44] (.cond (.t 44) .ret .skip)))) (.keep [0,2,5,6,10,11] (.reg false [(cMv 19 6), (cC 20 .add 19 2), (cMv 6 20)])))))))))))) (.keep [0,2,10,11] (.reg false [(cC 45 .add 11 1), (cMv 11 45)])))))))))))
def pu57 : List Nat := []
def rs57 : List RV := []
theorem cc57 : comp Tryz.prog pu57 (Tryz.f57.ntmps, 0) 3 3 rc57 (Tryz.f57.body.getD .skip) = some rc57 := by kernel_rfl
theorem cb57 : Tryz.f57.body = some (Tryz.f57.body.getD .skip) := by kernel_rfl
theorem cs57 : resRV Tryz.prog Tryz.f57.results.toList = some rs57 := by kernel_rfl
theorem cn57 : 3 ≤ Tryz.f57.ntmps := by decide
def rc22 : RC := (.seq (.reg false [⟨(some 4), none, [], none, .w (.alc [(.i 0), (.i 0)])⟩, (cQ 5 [] (.mv (kB false)))]) (.keep [0,1,4,5] (.seq (.seq (.reg false [(cMv 10 0), (cZ 11 10), (cFa 12 11 12), (cLd 13 12 false 1), (cLn 14 13), (cI 15 0)]) (.keep [1,4,5,13,14,15] (.block 0 (.loop [1,4,5,13,14,15] none (.seq (.reg false [(cB 16 .lss 15 14)]) (.keep [1,4,5,13,14,15,16] (.seq (.cond (.t 16) .skip (.exit 0)) (.keep [1,4,5,13,14,15] (.seq (.block 1 (.seq (.reg false [(cA 17 1 13 15), (cLd 18 17 false 1), (cMv 7 18)]) (.keep [1,4,5,7,13,14,15] (.seq (.reg false [(cMv 20 1), (cMv 21 7), (cQ 22 [20,21] (.call (.t 20) [(.t 21)])), (cMv 19 22), (cEx 23 19 0), (cEx 24 19 1), (cMv 8 23), (cMv 9 24)]) (.keep [1,4,5,8,9,13,14,15] (.block 2 (.seq (.reg false [(cMv 36 9), (cN 37 36), (cMv 35 37)]) (.keep [1,4,5,8,13,14,15,35] (.cond (.t 35) .skip (.seq (.reg false [(cMv 39 5), (cN 40 39), (cMv 38 40)]) (.keep [1,4,5,8,13,14,15,38] (.cond (.t 38) (.reg false [(cMv 41 8), (cMv 42 8), (cQ 43 [41,42] (.bld [(.i 0), (.i 0)] [(0,1, (.t 41)), (1,1, (.t 42))])), ⟨none, none, [4,43], none, .w (.st 2 (.t 4) (.t 43))⟩, (cQ 5 [] (.mv (kB true)))]) (.reg false [(cFa 25 4 0), (cLd 26 25 false 1), (cMv 27 8), (cQ 28 [26,27] (.mn (.t 26) (.t 27))), (cFa 29 4 1), (cLd 30 29 false 1), (cMv 31 8), (cQ 32 [30,31] (.mx (.t 30) (.t 31))), (cFa 33 4 0), ⟨none, none, [33,28], none, .w (.st 1 (.t 33) (.t 28))⟩, (cFa 34 4 1), ⟨none, none, [34,32], none, .w (.st 1 (.t 34) (.t 32))⟩]))))))))))))) (.keep [1,4,5,13,14,15] (.reg false [(cC 44 .add 15 1), (cMv 15 44)]))))))))))) (.keep [4,5] (.seq (.reg false [(cLd 45 4 true 2), (cMv 46 5), ⟨none, none, [4,45], none, .w (.st 2 (.t 4) (.t 45))⟩, (cMv 5 46)]) .ret)))))
def pu22 : List Nat := []
def rs22 : List RV := [.c 4 true 2, .t 5]
theorem cc22 : comp Tryz.prog pu22 (Tryz.f22.ntmps, 0) 0 1 rc22 (Tryz.f22.body.getD .skip) = some rc22 := by kernel_rfl
theorem cb22 : Tryz.f22.body = some (Tryz.f22.body.getD .skip) := by kernel_rfl
theorem cs22 : resRV Tryz.prog Tryz.f22.results.toList = some rs22 := by kernel_rfl
theorem cn22 : 2 ≤ Tryz.f22.ntmps := by decide
def rc39 : RC := (.seq (.reg false [(cX 2 0), (cX 3 1), (cQ 4 [] (.mv (.k .u)))]) (.keep [2,3] (.seq (.reg false [(cQ 5 [3,2] (.mkf 57 [(.t 3), (.t 2)])), (cMv 4 5)]) .ret)))
def pu39 : List Nat := [2,3]
def rs39 : List RV := [.t 4]
theorem cc39 : comp Tryz.prog pu39 (Tryz.f39.ntmps, 0) 0 1 rc39 (Tryz.f39.body.getD .skip) = some rc39 := by kernel_rfl
theorem cb39 : Tryz.f39.body = some (Tryz.f39.body.getD .skip) := by kernel_rfl
theorem cs39 : resRV Tryz.prog Tryz.f39.results.toList = some rs39 := by kernel_rfl
theorem cn39 : 2 ≤ Tryz.f39.ntmps := by decide
def rc29 : RC := (.seq (.reg false [(cX 3 0), (cX 4 1), (cX 5 2), ⟨(some 6), none, [], none, .w (.alc [(.i 0), (.i 0)])⟩, (cI 7 0)]) (.keep [3,4,5,6] (.seq (.reg false [(cLd 13 3 true 11), (cQ 14 [4] (.mkf 48 [(.t 4)])), (cQ 15 [13,14] (.call (kF 19) [(.t 13), (.t 14)])), (cMv 12 15), (cEx 16 12 0), (cEx 17 12 1), ⟨(some 8), none, [], none, .w (.alc [.pn])⟩, ⟨none, none, [8,16], none, .w (.st 1 (.t 8) (.t 16))⟩, (cMv 9 17)]) (.keep [4,5,6,8,9] (.seq (.seq (.reg false [(cMv 18 9), (cC 19 .neq 18 0)]) (.keep [4,5,6,8,9,19] (.cond (.t 19) (.seq (.reg false [(cQ 20 [] (.bld [(.i 0), (.i 0)] [])), (cMv 21 9), ⟨none, none, [6,20], none, .w (.st 2 (.t 6) (.t 20))⟩, (cMv 7 21)]) .ret) .skip))) (.keep [4,5,6,8] (.seq (.reg false [(cLd 23 8 false 1), (cQ 24 [8,4,5] (.mkf 51 [(.t 8), (.t 4), (.t 5)])), (cQ 25 [23,24] (.call (kF 22) [(.t 23), (.t 24)])), (cMv 22 25), (cEx 26 22 0), (cEx 27 22 1), ⟨(some 10), none, [], none, .w (.alc [(.i 0), (.i 0)])⟩, ⟨none, none, [10,26], none, .w (.st 2 (.t 10) (.t 26))⟩, (cMv 11 27)]) (.keep [6,10,11] (.seq (.seq (.reg false [(cMv 28 11), (cN 29 28)]) (.keep [6,10,29] (.cond (.t 29) (.seq (.reg false [(cQ 30 [] (.bld [(.i 0), (.i 0)] [])), ⟨none, none, [6,30], none, .w (.st 2 (.t 6) (.t 30))⟩, (cI 7 3)]) .ret) .skip))) (.keep [6,10] (.seq (.reg false [(cLd 31 10 true 2), ⟨none, none, [6,31], none, .w (.st 2 (.t 6) (.t 31))⟩, (cI 7 0)]) .ret)))))))))))
def pu29 : List Nat := [3,4,5]
def rs29 : List RV := [.c 6 true 2, .t 7]
theorem cc29 : comp Tryz.prog pu29 (Tryz.f29.ntmps, 0) 0 1 rc29 (Tryz.f29.body.getD .skip) = some rc29 := by kernel_rfl
theorem cb29 : Tryz.f29.body = some (Tryz.f29.body.getD .skip) := by kernel_rfl
theorem cs29 : resRV Tryz.prog Tryz.f29.results.toList = some rs29 := by kernel_rfl
theorem cn29 : 3 ≤ Tryz.f29.ntmps := by decide
def rc51 : RC := (.dum (.seq (.reg false [⟨(some 5), none, [], none, .w (.alc [(.i 0)])⟩, ⟨(some 6), none, [], none, .w (.alc [(.b false)])⟩]) (.keep [0,1,2,3,5,6,12,13] (.seq (.seq (.reg false [(cLd 9 1 false 1), (cMv 10 0), (cQ 11 [9,10] (.call (kF 39) [(.t 9), (.t 10)]))]) (.keep [2,3,5,6,11,12,13] (.block 0 (.rfh (.t 11) [12,13] 3 0 (.seq (.reg false [⟨(some 7), none, [], none, .w (.alc [(.i 0), (.i 0), (.i 0), (.i 0), (.i 0), (.i 0)])⟩, ⟨none, none, [7,12], none, .w (.st 6 (.t 7) (.t 12))⟩]) (.keep [2,3,5,6,7,13] (.reg false [(cMv 8 13)]))) (.block 1 (.seq (.reg false [(cFa 14 7 0), (cLd 15 14 false 1), (cLd 16 2 false 1), (cB 17 .eql 15 16)]) (.keep [3,5,6,8,17] (.cond (.t 17) (.seq (.reg false [(cLd 18 3 false 1), (cMv 19 8), (cQ 20 [18,19] (.call (.t 18) [(.t 19)])), ⟨none, none, [5,20], none, .w (.st 1 (.t 5) (.t 20))⟩, ⟨none, none, [6], none, .w (.st 1 (.t 6) (kB true))⟩]) .ret) .skip)))))))) (.keep [5,6] (.seq (.reg false [⟨none, none, [5], none, .w (.st 1 (.t 5) (kI 0))⟩, ⟨none, none, [6], none, .w (.st 1 (.t 6) (kB false))⟩]) .ret))))))
def pu51 : List Nat := []
def rs51 : List RV := [.c 5 false 1, .c 6 false 1]
theorem cc51 : comp Tryz.prog pu51 (Tryz.f51.ntmps, 0) 0 1 rc51 (Tryz.f51.body.getD .skip) = some rc51 := by kernel_rfl
theorem cb51 : Tryz.f51.body = some (Tryz.f51.body.getD .skip) := by kernel_rfl
theorem cs51 : resRV Tryz.prog Tryz.f51.results.toList = some rs51 := by kernel_rfl
theorem cn51 : 4 ≤ Tryz.f51.ntmps := by decide
def rc11 : RC := (.seq (.reg false [(cX 2 0), ⟨(some 4), none, [], none, .w (.alc [(.i 0), (.i 0)])⟩, (cI 5 0)]) (.keep [1,2,4] (.seq (.reg false [(cLd 6 2 true 11), (cMv 7 1), (cQ 8 [2] (.mkf 30 [(.t 2)])), (cQ 9 [6,7,8] (.call (kF 29) [(.t 6), (.t 7), (.t 8)])), (cEx 10 9 0), (cEx 11 9 1), ⟨none, none, [4,10], none, .w (.st 2 (.t 4) (.t 10))⟩, (cMv 5 11)]) .ret)))
def pu11 : List Nat := [2]
def rs11 : List RV := [.c 4 true 2, .t 5]
theorem cc11 : comp Tryz.prog pu11 (Tryz.f11.ntmps, 0) 0 1 rc11 (Tryz.f11.body.getD .skip) = some rc11 := by kernel_rfl
theorem cb11 : Tryz.f11.body = some (Tryz.f11.body.getD .skip) := by kernel_rfl
theorem cs11 : resRV Tryz.prog Tryz.f11.results.toList = some rs11 := by kernel_rfl
theorem cn11 : 2 ≤ Tryz.f11.ntmps := by decide
def rc30 : RC := (.seq (.reg false [(cI 3 0)]) (.keep [0,1] (.seq (.reg false [(cFa 4 1 4), (cLd 5 4 true 7), (cMv 6 0), (cQ 7 [5,6] (.call (kF 31) [(.t 5), (.t 6)])), (cMv 3 7)]) .ret)))
def pu30 : List Nat := []
def rs30 : List RV := [.t 3]
theorem cc30 : comp Tryz.prog pu30 (Tryz.f30.ntmps, 0) 0 1 rc30 (Tryz.f30.body.getD .skip) = some rc30 := by kernel_rfl
theorem cb30 : Tryz.f30.body = some (Tryz.f30.body.getD .skip) := by kernel_rfl
theorem cs30 : resRV Tryz.prog Tryz.f30.results.toList = some rs30 := by kernel_rfl
theorem cn30 : 2 ≤ Tryz.f30.ntmps := by decide
end Go.CS
set_option maxRecDepth 8000
namespace Go.CS
open Go.Fam Go.Proofs
def rc12 : RC := (.seq (.reg false [⟨(some 0), none, [], none, .w (.alc [(.z 2), (.z 6), (.z 1), (.z 2), (.i 0), (.i 0), (.i 0), (.i 0), (.i 0), (.i 0), (.i 0)])⟩]) (.keep [0] (.seq (.reg false [(cQ 1 [] (.bld [(.i 0), (.i 0)] [])), (cQ 2 [] (.bld [(.i 0), (.i 0)] [(0,1, (.k (.i (-2)))), (1,1, (kI 1))])), (cQ 3 [1,2] (.bsl 2 2 [(.i 0), (.i 0)] [(0,2, (.t 1)), (2,2, (.t 2))])), (cQ 4 [] (.bld [(.i 0), (.i 0), (.i 0), (.i 0), (.i 0), (.i 0)] [(0,1, (kI 1)), (2,1, (kI 100)), (3,1, (kI 1)), (4,1, (kI 3)), (5,1, (kI 7))])), (cQ 5 [] (.bld [(.i 0), (.i 0), (.i 0), (.i 0), (.i 0), (.i 0)] [(0,1, (kI 2)), (1,1, (kI 1)), (2,1, (kI 160)), (3,1, (kI 2)), (4,1, (kI 3))])), (cQ 6 [] (.bld [(.i 0), (.i 0), (.i 0), (.i 0), (.i 0), (.i 0)] [(0,1, (kI 3)), (2,1, (kI 161)), (3,1, (kI 1)), (4,1, (kI 3)), (5,1, (kI 8))])), (cQ 7 [] (.bld [(.i 0), (.i 0), (.i 0), (.i 0), (.i 0), (.i 0)] [(0,1, (kI 4)), (1,1, (kI 1)), (2,1, (kI 393)), (3,1, (kI 2)), (4,1, (kI 3))])), (cQ 8 [] (.bld [(.i 0), (.i 0), (.i 0), (.i 0), (.i 0), (.i 0)] [(0,1, (kI 5)), (2,1, (kI 120)), (3,1, (kI 1)), (4,1, (kI 4)), (5,1, (kI 7))])), (cQ 9 [4,5,6,7,8] (.bsl 6 5 [(.i 0), (.i 0), (.i 0), (.i 0), (.i 0), (.i 0)] [(0,6, (.t 4)), (6,6, (.t 5)), (12,6, (.t 6)), (18,6, (.t 7)), (24,6, (.t 8))])), (cQ 10 [] (.bld [(.i 0), (.i 0)] [(0,1, (kI 200)), (1,1, (kI 299))])), (cQ 11 [10] (.bsl 2 1 [(.i 0), (.i 0)] [(0,2, (.t 10))])), (cQ 12 [] (.bld [(.i 0), (.i 0), (.i 0), (.i 0), (.i 0), (.i 0), (.i 0)] [(0,1, (kI 10)), (1,1, (kI 30)), (2,1, (kI 50)), (3,1, (kI 400)), (4,1, (kI 500)), (5,1, (kI 1500)), (6,1, (kI 1000))])), (cQ 13 [3,9,11,12] (.bld [(.z 2), (.z 6), (.z 1), (.z 2), (.i 0), (.i 0), (.i 0), (.i 0), (.i 0), (.i 0), (.i 0)] [(0,1, (.t 3)), (1,1, (.t 9)), (3,1, (.t 11)), (4,7, (.t 12))])), ⟨none, none, [0,13], none, .w (.st 11 (.t 0) (.t 13))⟩]) .ret)))
def pu12 : List Nat := [3,9,11]
def rs12 : List RV := [.c 0 true 11]
theorem cc12 : comp Tryz.prog pu12 (Tryz.f12.ntmps, 0) 0 1 rc12 (Tryz.f12.body.getD .skip) = some rc12 := by kernel_rfl
theorem cb12 : Tryz.f12.body = some (Tryz.f12.body.getD .skip) := by kernel_rfl
theorem cs12 : resRV Tryz.prog Tryz.f12.results.toList = some rs12 := by kernel_rfl
theorem cn12 : 0 ≤ Tryz.f12.ntmps := by decide
end Go.CS
set_option maxRecDepth 8000
namespace Go.CS
open Go.Fam Go.Proofs
def rc36 : RC := (.seq (.reg false [(cQ 3 [] (.mv (kB false)))]) (.keep [1] (.seq (.reg false [(cLd 4 1 false 1), (cQ 5 [4] (.call (kF 37) [(.t 4)])), (cMv 3 5)]) .ret)))
def pu36 : List Nat := []
def rs36 : List RV := [.t 3]
theorem cc36 : comp Tryz.prog pu36 (Tryz.f36.ntmps, 0) 0 1 rc36 (Tryz.f36.body.getD .skip) = some rc36 := by kernel_rfl
theorem cb36 : Tryz.f36.body = some (Tryz.f36.body.getD .skip) := by kernel_rfl
theorem cs36 : resRV Tryz.prog Tryz.f36.results.toList = some rs36 := by kernel_rfl
theorem cn36 : 2 ≤ Tryz.f36.ntmps := by decide
def rc20 : RC := (.seq (.reg false [(cQ 3 [] (.mv (kB false)))]) (.keep [1] (.seq (.reg false [(cLd 4 1 false 1), (cQ 5 [4] (.call (kF 21) [(.t 4)])), (cMv 3 5)]) .ret)))
def pu20 : List Nat := []
def rs20 : List RV := [.t 3]
theorem cc20 : comp Tryz.prog pu20 (Tryz.f20.ntmps, 0) 0 1 rc20 (Tryz.f20.body.getD .skip) = some rc20 := by kernel_rfl
theorem cb20 : Tryz.f20.body = some (Tryz.f20.body.getD .skip) := by kernel_rfl
theorem cs20 : resRV Tryz.prog Tryz.f20.results.toList = some rs20 := by kernel_rfl
theorem cn20 : 2 ≤ Tryz.f20.ntmps := by decide
def rc25 : RC := (.seq (.reg false [(cQ 4 [] (.mv (kB false)))]) (.keep [1,2] (.seq (.reg true [(cLd 5 1 false 1), (cQ 6 [5] (.call (kF 26) [(.t 5), (kI 0), (kI 9)])), (cMv 7 6), (gQ 8 7 true [2] (.ld false 1 (.t 2))), (gQ 9 7 true [8] (.call (kF 21) [(.t 8)])), (cQ 10 [7,9] (.pick (.t 7) (.t 9) (kB false))), (cMv 4 10)]) .ret)))
def pu25 : List Nat := []
def rs25 : List RV := [.t 4]
theorem cc25 : comp Tryz.prog pu25 (Tryz.f25.ntmps, 0) 0 1 rc25 (Tryz.f25.body.getD .skip) = some rc25 := by kernel_rfl
theorem cb25 : Tryz.f25.body = some (Tryz.f25.body.getD .skip) := by kernel_rfl
theorem cs25 : resRV Tryz.prog Tryz.f25.results.toList = some rs25 := by kernel_rfl
theorem cn25 : 3 ≤ Tryz.f25.ntmps := by decide
def rc21 : RC := (.seq (.reg false [(cQ 2 [] (.mv (kB false)))]) (.keep [0] (.seq (.reg false [(cMv 3 0), (cQ 4 [3] (.call (kF 26) [(.t 3), (kI 0), (kI 9999)])), (cMv 2 4)]) .ret)))
def pu21 : List Nat := []
def rs21 : List RV := [.t 2]
theorem cc21 : comp Tryz.prog pu21 (Tryz.f21.ntmps, 0) 0 1 rc21 (Tryz.f21.body.getD .skip) = some rc21 := by kernel_rfl
theorem cb21 : Tryz.f21.body = some (Tryz.f21.body.getD .skip) := by kernel_rfl
theorem cs21 : resRV Tryz.prog Tryz.f21.results.toList = some rs21 := by kernel_rfl
theorem cn21 : 1 ≤ Tryz.f21.ntmps := by decide
def rc18 : RC := (.seq (.reg false [(cX 2 0), (cX 3 1), ⟨(some 4), none, [], none, .w (.alc [(.i 0), (.i 0)])⟩, (cI 5 0)]) (.keep [2,3,4] (.seq (.reg false [(cLd 11 2 true 11), (cQ 12 [3] (.mkf 36 [(.t 3)])), (cQ 13 [11,12] (.call (kF 19) [(.t 11), (.t 12)])), (cMv 10 13), (cEx 14 10 0), (cEx 15 10 1), ⟨(some 6), none, [], none, .w (.alc [.pn])⟩, ⟨none, none, [6,14], none, .w (.st 1 (.t 6) (.t 14))⟩, (cMv 7 15)]) (.keep [2,3,4,6,7] (.seq (.seq (.reg false [(cMv 16 7), (cC 17 .neq 16 0)]) (.keep [2,3,4,6,7,17] (.cond (.t 17) (.seq (.reg false [(cQ 18 [] (.bld [(.i 0), (.i 0)] [])), (cMv 19 7), ⟨none, none, [4,18], none, .w (.st 2 (.t 4) (.t 18))⟩, (cMv 5 19)]) .ret) .skip))) (.keep [2,3,4,6] (.seq (.reg false [(cLd 21 6 false 1), (cQ 22 [6,3,2] (.mkf 38 [(.t 6), (.t 3), (.t 2)])), (cQ 23 [21,22] (.call (kF 22) [(.t 21), (.t 22)])), (cMv 20 23), (cEx 24 20 0), (cEx 25 20 1), ⟨(some 8), none, [], none, .w (.alc [(.i 0), (.i 0)])⟩, ⟨none, none, [8,24], none, .w (.st 2 (.t 8) (.t 24))⟩, (cMv 9 25)]) (.keep [4,8] (.seq (.reg false [(cLd 26 8 true 2), ⟨none, none, [4,26], none, .w (.st 2 (.t 4) (.t 26))⟩, (cI 5 0)]) .ret)))))))))
def pu18 : List Nat := [2,3]
def rs18 : List RV := [.c 4 true 2, .t 5]
theorem cc18 : comp Tryz.prog pu18 (Tryz.f18.ntmps, 0) 0 1 rc18 (Tryz.f18.body.getD .skip) = some rc18 := by kernel_rfl
theorem cb18 : Tryz.f18.body = some (Tryz.f18.body.getD .skip) := by kernel_rfl
theorem cs18 : resRV Tryz.prog Tryz.f18.results.toList = some rs18 := by kernel_rfl
theorem cn18 : 2 ≤ Tryz.f18.ntmps := by decide
def rc9 : RC := (.seq (.reg false [(cX 2 0), (cX 3 1), ⟨(some 4), none, [], none, .w (.alc [(.i 0), (.i 0)])⟩, (cI 5 0)]) (.keep [2,3,4] (.seq (.reg false [(cLd 11 2 true 11), (cQ 12 [3] (.mkf 20 [(.t 3)])), (cQ 13 [11,12] (.call (kF 19) [(.t 11), (.t 12)])), (cMv 10 13), (cEx 14 10 0), (cEx 15 10 1), (cMv 6 14), (cMv 7 15)]) (.keep [2,3,4,6,7] (.seq (.seq (.reg false [(cMv 16 7), (cC 17 .neq 16 0)]) (.keep [2,3,4,6,7,17] (.cond (.t 17) (.seq (.reg false [(cQ 18 [] (.bld [(.i 0), (.i 0)] [])), (cMv 19 7), ⟨none, none, [4,18], none, .w (.st 2 (.t 4) (.t 18))⟩, (cMv 5 19)]) .ret) .skip))) (.keep [2,3,4,6] (.seq (.reg false [(cMv 21 6), (cQ 22 [3,2] (.mkf 23 [(.t 3), (.t 2)])), (cQ 23 [21,22] (.call (kF 22) [(.t 21), (.t 22)])), (cMv 20 23), (cEx 24 20 0), (cEx 25 20 1), ⟨(some 8), none, [], none, .w (.alc [(.i 0), (.i 0)])⟩, ⟨none, none, [8,24], none, .w (.st 2 (.t 8) (.t 24))⟩, (cMv 9 25)]) (.keep [4,8] (.seq (.reg false [(cLd 26 8 true 2), ⟨none, none, [4,26], none, .w (.st 2 (.t 4) (.t 26))⟩, (cI 5 0)]) .ret)))))))))
def pu9 : List Nat := [2,3]
def rs9 : List RV := [.c 4 true 2, .t 5]
theorem cc9 : comp Tryz.prog pu9 (Tryz.f9.ntmps, 0) 0 1 rc9 (Tryz.f9.body.getD .skip) = some rc9 := by kernel_rfl
theorem cb9 : Tryz.f9.body = some (Tryz.f9.body.getD .skip) := by kernel_rfl
theorem cs9 : resRV Tryz.prog Tryz.f9.results.toList = some rs9 := by kernel_rfl
theorem cn9 : 2 ≤ Tryz.f9.ntmps := by decide
def rc23 : RC := (.seq (.reg false [(cI 4 0), (cQ 5 [] (.mv (kB false)))]) (.keep [0,1,2] (.seq (.reg false [(cI 6 0)]) (.keep [0,1,2,6] (.seq (.seq (.reg false [(cI 10 0)]) (.keep [0,1,2,6,10] (.block 0 (.loop [0,1,2,6,10] (some 0) (.seq (.reg false [(cC 11 .lss 10 10)]) (.keep [0,1,2,6,10,11] (.seq (.cond (.t 11) .skip (.exit 0)) (.keep [0,1,2,6,10] (.seq (.block 1 (.seq (.reg false [(cMv 12 10), (cMv 7 12)]) (.keep [0,1,2,6,7,10] (.seq (.reg false [(cMv 14 0), (cMv 15 7), (cLd 16 1 false 1), (cQ 17 [14,15,16] (.call (kF 24) [(.t 14), (.t 15), (.t 16)])), (cMv 13 17), (cEx 18 13 0), (cEx 19 13 1), ⟨(some 8), none, [], none, .w (.alc [(.i 0), (.i 0), (.i 0), (.i 0), (.i 0), (.i 0), (.i 0)])⟩, ⟨none, none, [8,18], none, .w (.st 7 (.t 8) (.t 18))⟩, (cMv 9 19)]) (.keep [0,1,2,6,9,10] (.seq (.reg false [(cMv 20 9)]) (.keep [0,1,2,6,10,20] (.cond (.t 20) (.reg false [(cMv 21 6), (cFa 22 2 4), (cFa 23 22 6), (cLd 24 23 false 1), (cB 25 .add 21 24), (cMv 6 25)]) .skip)))))))) (.drp 0 (.keep [0,1,2,6,10] (.reg false [(cC 26 .add 10 1), (cMv 10 26)])))))))))))) (.keep [6] (.seq (.reg false [(cMv 27 6), (cMv 4 27), (cQ 5 [] (.mv (kB true)))]) .ret)))))))
def pu23 : List Nat := []
def rs23 : List RV := [.t 4, .t 5]
theorem cc23 : comp Tryz.prog pu23 (Tryz.f23.ntmps, 0) 0 1 rc23 (Tryz.f23.body.getD .skip) = some rc23 := by kernel_rfl
theorem cb23 : Tryz.f23.body = some (Tryz.f23.body.getD .skip) := by kernel_rfl
theorem cs23 : resRV Tryz.prog Tryz.f23.results.toList = some rs23 := by kernel_rfl
theorem cn23 : 3 ≤ Tryz.f23.ntmps := by decide
def rc24 : RC := (.seq (.reg false [⟨(some 6), none, [], none, .w (.alc [(.i 0), (.i 0), (.i 0), (.i 0), (.i 0), (.i 0), (.i 0)])⟩, (cQ 7 [] (.mv (kB false)))]) (.keep [0,1,2,6] (.seq (.reg false [⟨(some 8), none, [], none, .w (.alc [(.i 0), (.i 0), (.i 0), (.i 0), (.i 0), (.i 0), (.i 0)])⟩]) (.keep [0,1,2,6,8] (.seq (.reg false [(cQ 9 [] (.mv (kB false)))]) (.keep [0,1,2,6,8,9] (.seq (.seq (.reg false [(cMv 12 0), (cMv 13 1), (cZ 14 12), (cFa 15 14 1), (cQ 16 [15,13] (.iaa 1 10 (.t 15) (.t 13))), (cLd 17 16 false 1), (cLn 18 17), (cI 19 0)]) (.keep [2,6,8,9,17,18,19] (.block 0 (.loop [2,6,8,9,17,18,19] (some 2) (.seq (.reg false [(cB 20 .lss 19 18)]) (.keep [2,6,8,9,17,18,19,20] (.seq (.cond (.t 20) .skip (.exit 0)) (.keep [2,6,8,9,17,18,19] (.seq (.block 1 (.seq (.reg false [(cA 21 7 17 19), (cLd 22 21 true 7), ⟨(some 11), none, [], none, .w (.alc [(.i 0), (.i 0), (.i 0), (.i 0), (.i 0), (.i 0), (.i 0)])⟩, ⟨none, none, [11,22], none, .w (.st 7 (.t 11) (.t 22))⟩]) (.keep [2,6,8,9,11,17,18,19] (.seq (.reg false [(cFa 23 11 6), (cLd 24 23 false 1), (cMv 25 2), (cB 26 .leq 24 25)]) (.keep [2,6,8,9,11,17,18,19,26] (.cond (.t 26) (.any false 0 [⟨(cLd 27 11 true 7), [], []⟩, ⟨(cFa 28 11 0), [], []⟩, ⟨(cFa 29 28 3), [], [1]⟩, ⟨(cLd 30 29 false 1), [], [2,1]⟩, ⟨(cC 31 .eql 30 1), [], [3,2,1]⟩, ⟨⟨none, none, [8,27], none, .w (.st 7 (.t 8) (.t 27))⟩, [1,2,3,4], [0]⟩, ⟨(cMv 9 31), [], [4,3,2,1,5,0]⟩]) .skip)))))) (.drp 2 (.keep [2,6,8,9,17,18,19] (.reg false [(cC 32 .add 19 1), (cMv 19 32)])))))))))))) (.keep [6,8,9] (.seq (.reg false [(cLd 33 8 true 7), (cMv 34 9), ⟨none, none, [6,33], none, .w (.st 7 (.t 6) (.t 33))⟩, (cMv 7 34)]) .ret)))))))))
def pu24 : List Nat := []
def rs24 : List RV := [.c 6 true 7, .t 7]
theorem cc24 : comp Tryz.prog pu24 (Tryz.f24.ntmps, 0) 0 1 rc24 (Tryz.f24.body.getD .skip) = some rc24 := by kernel_rfl
theorem cb24 : Tryz.f24.body = some (Tryz.f24.body.getD .skip) := by kernel_rfl
theorem cs24 : resRV Tryz.prog Tryz.f24.results.toList = some rs24 := by kernel_rfl
theorem cn24 : 3 ≤ Tryz.f24.ntmps := by decide
def rc10 : RC := (.seq (.reg false [(cX 3 0), (cX 4 1), (cX 5 2), (cQ 6 [] (.mv (.k (.z 1)))), (cI 7 0)]) (.keep [3,4,5] (.seq (.reg false [(cLd 16 3 true 11), (cQ 17 [4,5] (.mkf 25 [(.t 4), (.t 5)])), (cQ 18 [16,17] (.call (kF 19) [(.t 16), (.t 17)])), (cMv 15 18), (cEx 19 15 0), (cEx 20 15 1), (cMv 8 19), (cMv 9 20)]) (.keep [4,5,8,9] (.seq (.seq (.reg false [(cMv 21 9), (cC 22 .neq 21 0)]) (.keep [4,5,8,9,22] (.cond (.t 22) (.seq (.reg false [(cMv 23 9), (cQ 6 [] (.mv (.k (.z 1)))), (cMv 7 23)]) .ret) .skip))) (.keep [4,5,8] (.seq (.reg false [⟨(some 24), none, [], none, .w (.mkm false)⟩, (cMv 10 24)]) (.keep [4,5,8,10] (.seq (.seq (.reg false [(cMv 25 8), (cZ 26 25), (cFa 27 26 12), (cLd 28 27 false 1), (cLn 29 28), (cI 30 0)]) (.keep [4,5,10,28,29,30] (.block 0 (.loop [4,5,10,28,29,30] (some 1) (.seq (.reg false [(cB 31 .lss 30 29)]) (.keep [4,5,10,28,29,30,31] (.seq (.cond (.t 31) .skip (.exit 0)) (.keep [4,5,10,28,29,30] (.seq (.block 1 (.seq (.reg false [(cA 32 1 28 30), (cLd 33 32 false 1), (cMv 12 33)]) (.keep [4,5,10,12,28,29,30] (.seq (.reg false [(cMv 35 12), (cLd 36 4 false 1), (cLd 37 5 false 1), (cQ 38 [35,36,37] (.call (kF 24) [(.t 35), (.t 36), (.t 37)])), (cMv 34 38), (cEx 39 34 0), (cEx 40 34 1), ⟨(some 13), none, [], none, .w (.alc [(.i 0), (.i 0), (.i 0), (.i 0), (.i 0), (.i 0), (.i 0)])⟩, ⟨none, none, [13,39], none, .w (.st 7 (.t 13) (.t 39))⟩, (cMv 14 40)]) (.keep [4,5,10,13,14,28,29,30] (.seq (.reg false [(cMv 41 14)]) (.keep [4,5,10,13,28,29,30,41] (.cond (.t 41) (.reg false [(cMv 42 10), (cFa 43 13 0), (cFa 44 43 5), (cLd 45 44 false 1), (cQ 46 [42,45] (.lkp (.i 0) false 3 false (.t 42) (.t 45))), (cC 47 .add 46 1), ⟨none, none, [42,45,47], none, .w (.mup 3 false (.t 42) (.t 45) (.t 47))⟩]) (.reg false [(cMv 48 10), (cQ 49 [48] (.lkp (.i 0) false 3 false (.t 48) (.k (.i (-1))))), (cC 50 .add 49 1), ⟨none, none, [48,50], none, .w (.mup 3 false (.t 48) (.k (.i (-1))) (.t 50))⟩]))))))))) (.drp 1 (.keep [4,5,10,28,29,30] (.reg false [(cC 51 .add 30 1), (cMv 30 51)])))))))))))) (.keep [10] (.seq (.drp 0 (.reg false [(cMv 52 10), (cQ 53 [52] (.call (kF 28) [(.t 52)])), (cQ 54 [53] (.call (kF 27) [(.t 53)])), (cMv 6 54), (cI 7 0)])) .ret)))))))))))
def pu10 : List Nat := [3,4,5]
def rs10 : List RV := [.t 6, .t 7]
theorem cc10 : comp Tryz.prog pu10 (Tryz.f10.ntmps, 0) 0 1 rc10 (Tryz.f10.body.getD .skip) = some rc10 := by kernel_rfl
theorem cb10 : Tryz.f10.body = some (Tryz.f10.body.getD .skip) := by kernel_rfl
theorem cs10 : resRV Tryz.prog Tryz.f10.results.toList = some rs10 := by kernel_rfl
theorem cn10 : 3 ≤ Tryz.f10.ntmps := by decide
def rc38 : RC := (.dum (.seq (.reg false [(cI 5 0), (cQ 6 [] (.mv (kB false)))]) (.keep [0,1,2,3,13,14] (.seq (.reg false [⟨(some 7), none, [], none, .w (.alc [(.i 0)])⟩, ⟨none, none, [7], none, .w (.st 1 (.t 7) (kI 0))⟩]) (.keep [0,1,2,3,7,13,14] (.seq (.seq (.reg false [(cLd 10 1 false 1), (cMv 11 0), (cQ 12 [10,11] (.call (kF 39) [(.t 10), (.t 11)]))]) (.keep [2,3,7,12,13,14] (.block 0 (.rfh (.t 12) [13,14] 2 0 (.seq (.reg false [⟨(some 8), none, [], none, .w (.alc [(.i 0), (.i 0), (.i 0), (.i 0), (.i 0), (.i 0)])⟩, ⟨none, none, [8,13], none, .w (.st 6 (.t 8) (.t 13))⟩]) (.keep [2,3,7,8,14] (.reg false [(cMv 9 14)]))) (.block 1 (.seq (.reg false [(cFa 15 8 5), (cLd 16 15 false 1), (cLd 17 2 false 1), (cB 18 .eql 16 17)]) (.keep [3,7,9,18] (.cond (.t 18) (.any false 0 [⟨(cLd 19 7 false 1), [], []⟩, ⟨(cFa 20 3 4), [], []⟩, ⟨(cLd 21 20 true 7), [], [1]⟩, ⟨(cMv 22 9), [], []⟩, ⟨(cQ 23 [21,22] (.call (kF 31) [(.t 21), (.t 22)])), [], [2,1,3]⟩, ⟨(cB 24 .add 19 23), [], [0,4,2,1,3]⟩, ⟨⟨none, none, [7,24], none, .w (.st 1 (.t 7) (.t 24))⟩, [], [5,0,4,2,1,3]⟩]) .skip)))))))) (.keep [7] (.seq (.reg false [(cLd 25 7 false 1), (cMv 5 25), (cQ 6 [] (.mv (kB true)))]) .ret))))))))
def pu38 : List Nat := []
def rs38 : List RV := [.t 5, .t 6]
theorem cc38 : comp Tryz.prog pu38 (Tryz.f38.ntmps, 0) 0 1 rc38 (Tryz.f38.body.getD .skip) = some rc38 := by kernel_rfl
theorem cb38 : Tryz.f38.body = some (Tryz.f38.body.getD .skip) := by kernel_rfl
theorem cs38 : resRV Tryz.prog Tryz.f38.results.toList = some rs38 := by kernel_rfl
theorem cn38 : 4 ≤ Tryz.f38.ntmps := by decide
end Go.CS
set_option maxRecDepth 8000
namespace Go.CS.N
open Go.Fam Go.Proofs
def rc57 : RC := (.seq (.reg false [(cLd 7 1 false 1), (cZ 8 7), (cFa 9 8 1), (cLd 10 9 true 10), (cI 11 0)]) (.keep [0,2,10,11] (.block 0 (.loop [0,2,10,11] none (.seq (.reg false [(cC 12 .lss 11 10)]) (.keep [0,2,10,11,12] (.seq (.cond (.t 12) .skip (.exit 0)) (.keep [0,2,10,11] (.seq (.block 1 (.seq (.reg false [(cQ 13 [10,11] (.iva 10 (.t 10) (.t 11))), (cMv 5 13)]) (.keep [0,2,5,10,11] (.seq (.reg false [(cI 6 0)]) (.keep [0,2,5,6,10,11] (.block 2 (.loop [0,2,5,6,10,11] none (.seq (.seq (.reg false [(cMv 14 6), (cC 15 .add 14 1), (cMv 16 5), (cLn 17 16), (cB 18 .lss 15 17)]) (.keep [0,2,5,6,10,11,18] (.cond (.t 18) .skip (.exit 2)))) (.keep [0,2,5,6,10,11] (.seq (.block 3 (.seq (.yrx false 0 [⟨(cMv 21 0), [], []⟩, ⟨(cMv 22 5), [], []⟩, ⟨(cMv 23 6), [], []⟩, ⟨(cA 24 7 22 23), [], [1,2]⟩, ⟨(cFa 25 24 0), [], [3,1,2]⟩, ⟨(cLd 26 25 true 6), [], [4,3,1,2]⟩, ⟨(cLd 27 2 false 1), [], []⟩, ⟨(cZ 28 27), [], [6]⟩, ⟨(cFa 29 28 0), [], [7,6]⟩, ⟨(cLd 30 29 true 11), [], [8,7,6]⟩, ⟨(cMv 31 5), [], []⟩, ⟨(cMv 32 6), [], []⟩, ⟨(cA 33 7 31 32), [], [10,11]⟩, ⟨(cFa 34 33 6), [], [12,10,11]⟩, ⟨(cLd 35 34 false 1), [], [13,12,10,11]⟩, ⟨(cMv 36 5), [], []⟩, ⟨(cMv 37 6), [], []⟩, ⟨(cC 38 .add 37 1), [], [16]⟩, ⟨(cA 39 7 36 38), [], [15,17,16]⟩, ⟨(cFa 40 39 6), [], [18,15,17,16]⟩, ⟨(cLd 41 40 false 1), [], [19,18,15,17,16]⟩, ⟨(cQ 42 [30,35,41] (.call (kF 58) [(.t 30), (.t 35), (.t 41)])), [], [9,8,7,6,14,13,12,10,11,20,19,18,15,17,16]⟩] ⟨⟨(some 43), none, [21,26,42], none, .o (.t 21) [(.t 26), (.t 42)]⟩, [], [0,5,4,3,1,2,21,9,8,7,6,14,13,12,10,11,20,19,18,15,17,16]⟩ 0 [⟨(cN 44 43), [], [22,0,5,4,3,1,2,21,9,8,7,6,14,13,12,10,11,20,19,18,15,17,16]⟩]) (.keep [0,2,5,6,10,11,44] (.cond (.t 44) .ret .skip)))) (.keep [0,2,5,6,10,11] (.reg false [(cMv 19 6), (cC 20 .add 19 2), (cMv 6 20)])))))))))))) (.keep [0,2,10,11] (.reg false [(cC 45 .add 11 1), (cMv 11 45)])))))))))))
def pu57 : List Nat := []
def rs57 : List RV := []
theorem cc57 : comp Tryz.prog pu57 (Tryz.f57.ntmps, 0) 2 3 rc57 (Tryz.f57.body.getD .skip) = some rc57 := by kernel_rfl
theorem cb57 : Tryz.f57.body = some (Tryz.f57.body.getD .skip) := by kernel_rfl
theorem cs57 : resRV Tryz.prog Tryz.f57.results.toList = some rs57 := by kernel_rfl
theorem cn57 : 3 ≤ Tryz.f57.ntmps := by decide
end Go.CS.N
set_option maxRecDepth 8000
namespace Go.CS
open Go.Fam Go.Proofs
def rc28 : RC := (.seq (.reg false [(cX 1 0), (cQ 2 [] (.mv (.k .u)))]) (.keep [1] (.seq (.reg false [(cQ 3 [1] (.mkf 47 [(.t 1)])), (cMv 2 3)]) .ret)))
def pu28 : List Nat := [1]
def rs28 : List RV := [.t 2]
theorem cc28 : comp Tryz.prog pu28 (Tryz.f28.ntmps, 0) 0 1 rc28 (Tryz.f28.body.getD .skip) = some rc28 := by kernel_rfl
theorem cb28 : Tryz.f28.body = some (Tryz.f28.body.getD .skip) := by kernel_rfl
theorem cs28 : resRV Tryz.prog Tryz.f28.results.toList = some rs28 := by kernel_rfl
theorem cn28 : 1 ≤ Tryz.f28.ntmps := by decide
end Go.CS
set_option maxRecDepth 8000
namespace Go.CS.S
open Go.Fam Go.Proofs
def rc34 : RC := (.seq (.reg false [(cQ 6 [] (.mv (kB false)))]) (.keep [0,1,2] (.seq (.reg true [(cMv 7 1), (cMv 8 0), (cB 9 .leq 7 8), (cMv 10 9), (gMv 11 10 true 0), (gMv 12 10 true 2), (gQ 13 10 true [11,12] (.bin .leq (.t 11) (.t 12))), (cQ 14 [10,13] (.pick (.t 10) (.t 13) (kB false))), (cMv 6 14)]) .ret)))
def pu34 : List Nat := []
def rs34 : List RV := [.t 6]
theorem cc34 : comp Tryz.prog pu34 (Tryz.f34.ntmps, 0) 0 1 rc34 (Tryz.f34.body.getD .skip) = some rc34 := by kernel_rfl
theorem cb34 : Tryz.f34.body = some (Tryz.f34.body.getD .skip) := by kernel_rfl
theorem cs34 : resRV Tryz.prog Tryz.f34.results.toList = some rs34 := by kernel_rfl
theorem cn34 : 3 ≤ Tryz.f34.ntmps := by decide
def rc15 : RC := (.seq (.reg false [(cI 2 0)]) (.keep [0] (.seq (.seq (.reg false [(cMv 5 0), (cLn 6 5), (cC 7 .gtr 6 7)]) (.keep [0,7] (.cond (.t 7) (.seq (.reg false [(cI 2 1)]) .ret) .skip))) (.keep [0] (.seq (.seq (.reg false [(cMv 8 0), (cLn 9 8), (cI 10 0)]) (.keep [0,8,9,10] (.block 0 (.loop [0,8,9,10] none (.seq (.reg false [(cB 11 .lss 10 9)]) (.keep [0,8,9,10,11] (.seq (.cond (.t 11) .skip (.exit 0)) (.keep [0,8,9,10] (.seq (.block 1 (.seq (.reg false [(cMv 12 10), (cA 13 1 8 10), (cLd 14 13 false 1), (cMv 3 12), (cMv 4 14)]) (.keep [0,3,4,8,9,10] (.seq (.reg true [(cMv 15 4), (cMv 16 0), (cLn 17 16), (cC 18 .sub 17 1), (cQ 19 [15,18] (.call (kF 34) [(.t 15), (kI 0), (.t 18)])), (cN 20 19), (cMv 21 20), (gMv 22 21 false 0), (gMv 23 21 false 3), (gQ 24 21 false [22,23] (.slc 1 (.t 22) none (some (.t 23)))), (gMv 25 21 false 4), (gQ 26 21 false [24,25] (.call (kF 35) [(.t 24), (.t 25)])), (cQ 27 [21,26] (.pick (.t 21) (kB true) (.t 26)))]) (.keep [0,8,9,10,27] (.cond (.t 27) (.seq (.reg false [(cI 2 1)]) .ret) .skip)))))) (.keep [0,8,9,10] (.reg false [(cC 28 .add 10 1), (cMv 10 28)]))))))))))) (.keep [] (.seq (.reg false [(cI 2 0)]) .ret)))))))
def pu15 : List Nat := []
def rs15 : List RV := [.t 2]
theorem cc15 : comp Tryz.prog pu15 (Tryz.f15.ntmps, 0) 0 1 rc15 (Tryz.f15.body.getD .skip) = some rc15 := by kernel_rfl
theorem cb15 : Tryz.f15.body = some (Tryz.f15.body.getD .skip) := by kernel_rfl
theorem cs15 : resRV Tryz.prog Tryz.f15.results.toList = some rs15 := by kernel_rfl
theorem cn15 : 1 ≤ Tryz.f15.ntmps := by decide
def rc17 : RC := (.seq (.reg false [(cQ 4 [] (.mv (.k (.z 1))))]) (.keep [0,1] (.seq (.reg false [(cMv 5 0), (cMv 6 1), (cQ 7 [5,6] (.mn (.t 5) (.t 6))), (cMv 8 0), (cMv 9 1), (cQ 10 [8,9] (.mx (.t 8) (.t 9))), (cQ 11 [7,10] (.bsl 1 2 [(.i 0)] [(0,1, (.t 7)), (1,1, (.t 10))])), (cMv 4 11)]) .ret)))
def pu17 : List Nat := [11]
def rs17 : List RV := [.t 4]
theorem cc17 : comp Tryz.prog pu17 (Tryz.f17.ntmps, 0) 0 1 rc17 (Tryz.f17.body.getD .skip) = some rc17 := by kernel_rfl
theorem cb17 : Tryz.f17.body = some (Tryz.f17.body.getD .skip) := by kernel_rfl
theorem cs17 : resRV Tryz.prog Tryz.f17.results.toList = some rs17 := by kernel_rfl
theorem cn17 : 2 ≤ Tryz.f17.ntmps := by decide
def rc16 : RC := (.seq (.reg false [(cQ 2 [] (.mv (.k (.z 1))))]) (.keep [0] (.seq (.seq (.rnl false [(cMv 3 0)] (cLn 4 3) []) (.keep [0,4] (.cond (.t 4) (.seq (.reg false [(cQ 2 [] (.mv (.k (.z 1))))]) (.owng 2 1 1 .ret)) .skip))) (.keep [0] (.seq (.reg false [⟨(some 5), none, [], none, .w (.bso 1 0 [(.i 0)] [])⟩, (cMv 6 0), ⟨(some 7), none, [5,6], none, .w (.app 1 (.t 5) (.t 6))⟩, (cMv 2 7)]) .ret)))))
def pu16 : List Nat := []
def rs16 : List RV := [.t 2]
theorem cc16 : comp Tryz.prog pu16 (Tryz.f16.ntmps, 0) 0 1 rc16 (Tryz.f16.body.getD .skip) = some rc16 := by kernel_rfl
theorem cb16 : Tryz.f16.body = some (Tryz.f16.body.getD .skip) := by kernel_rfl
theorem cs16 : resRV Tryz.prog Tryz.f16.results.toList = some rs16 := by kernel_rfl
theorem cn16 : 1 ≤ Tryz.f16.ntmps := by decide
def rc6 : RC := (.seq (.reg false [(cQ 2 [] (.mv (.k (.z 1)))), (cI 3 0)]) (.keep [0] (.seq (.seq (.reg false [(cMv 9 0), (cQ 10 [9] (.call (kF 15) [(.t 9)])), (cMv 4 10)]) (.keep [0,4] (.seq (.reg false [(cMv 11 4), (cC 12 .neq 11 0)]) (.keep [0,4,12] (.cond (.t 12) (.seq (.reg false [(cMv 13 4), (cQ 2 [] (.mv (.k (.z 1)))), (cMv 3 13)]) .ret) .skip))))) (.keep [0] (.seq (.reg false [(cMv 14 0), ⟨(some 15), none, [14], none, .o (kF 16) [(.t 14)]⟩, (cMv 5 15)]) (.keep [5] (.seq (.reg false [(cQ 6 [] (.mv (.k (.z 1))))]) (.keep [5,6] (.seq (.seq (.reg false [(cMv 16 5), (cLn 17 16), (cI 18 0)]) (.keep [5,6,17,18] (.block 0 (.own 6 1 (.loop [5,6,17,18] none (.seq (.reg false [(cB 19 .lss 18 17)]) (.keep [5,6,17,18,19] (.seq (.cond (.t 19) .skip (.exit 0)) (.keep [5,6,17,18] (.seq (.block 1 (.seq (.reg false [(cMv 20 18), (cMv 7 20)]) (.keep [5,6,7,17,18] (.block 2 (.loop [5,6,7,17,18] none (.seq (.seq (.reg false [(cMv 21 5), (cMv 22 7), (cA 23 1 21 22), (cLd 24 23 false 1), (cMv 25 7), (cB 26 .neq 24 25)]) (.keep [5,6,7,17,18,26] (.cond (.t 26) .skip (.exit 2)))) (.keep [5,6,7,17,18] (.block 3 (.seq (.reg false [(cMv 27 5), (cMv 28 7), (cA 29 1 27 28), (cLd 30 29 false 1), (cMv 8 30)]) (.keep [5,6,7,8,17,18] (.seq (.any false 0 [⟨(cMv 31 5), [], []⟩, ⟨(cMv 32 7), [], []⟩, ⟨(cMv 33 5), [], []⟩, ⟨(cMv 34 8), [], []⟩, ⟨(cMv 35 5), [], []⟩, ⟨(cMv 36 8), [], []⟩, ⟨(cA 37 1 35 36), [], [4,5]⟩, ⟨(cLd 38 37 false 1), [], [6,4,5]⟩, ⟨(cMv 39 5), [], []⟩, ⟨(cMv 40 7), [], []⟩, ⟨(cA 41 1 39 40), [], [8,9]⟩, ⟨(cLd 42 41 false 1), [], [10,8,9]⟩, ⟨(cA 43 1 31 32), [], [0,1,4,5,6,7,11,10,8,9]⟩, ⟨⟨none, none, [43,38], none, .w (.st 1 (.t 43) (.t 38))⟩, [2,3], [12,0,1,4,5,6,7,11,10,8,9]⟩, ⟨(cA 44 1 33 34), [], [2,3,0,1,4,5,6,7,8,9,10,11,12,13]⟩, ⟨⟨none, none, [44,42], none, .w (.st 1 (.t 44) (.t 42))⟩, [], [14,2,3,0,1,4,5,6,7,8,9,10,11,12,13]⟩]) (.keep [5,6,7,8,17,18] (.reg false [(cMv 45 6), (cMv 46 7), (cMv 47 8), (cQ 48 [46,47] (.call (kF 17) [(.t 46), (.t 47)])), (cQ 49 [48] (.bsl 1 1 [(.z 1)] [(0,1, (.t 48))])), ⟨(some 50), none, [45,49], none, .w (.app 1 (.t 45) (.t 49))⟩, (cMv 6 50)]))))))))))))) (.keep [5,6,17,18] (.reg false [(cC 51 .add 18 1), (cMv 18 51)])))))))))))) (.keep [6] (.seq (.reg false [(cMv 52 6), (cMv 2 52), (cI 3 0)]) .ret)))))))))))
def pu6 : List Nat := [1000015,49]
def rs6 : List RV := [.t 2, .t 3]
theorem cc6 : comp Tryz.prog pu6 (Tryz.f6.ntmps, 0) 0 1 rc6 (Tryz.f6.body.getD .skip) = some rc6 := by kernel_rfl
theorem cb6 : Tryz.f6.body = some (Tryz.f6.body.getD .skip) := by kernel_rfl
theorem cs6 : resRV Tryz.prog Tryz.f6.results.toList = some rs6 := by kernel_rfl
theorem cn6 : 1 ≤ Tryz.f6.ntmps := by decide
def rc5 : RC := (.seq (.reg false [(cI 2 0), (cI 3 0)]) (.keep [0] (.seq (.reg false [(cMv 7 0), (cQ 8 [7] (.call (kF 6) [(.t 7)])), (cMv 6 8), (cEx 9 6 0), (cEx 10 6 1), (cMv 4 9), (cMv 5 10)]) (.keep [4,5] (.seq (.reg false [(cMv 11 4), (cLn 12 11), (cMv 13 5), (cMv 2 12), (cMv 3 13)]) .ret)))))
def pu5 : List Nat := []
def rs5 : List RV := [.t 2, .t 3]
theorem cc5 : comp Tryz.prog pu5 (Tryz.f5.ntmps, 0) 0 1 rc5 (Tryz.f5.body.getD .skip) = some rc5 := by kernel_rfl
theorem cb5 : Tryz.f5.body = some (Tryz.f5.body.getD .skip) := by kernel_rfl
theorem cs5 : resRV Tryz.prog Tryz.f5.results.toList = some rs5 := by kernel_rfl
theorem cn5 : 1 ≤ Tryz.f5.ntmps := by decide
end Go.CS.S
set_option maxRecDepth 8000
namespace Go.CS
open Go.Fam Go.Proofs
def rc7 : RC := (.seq (.reg false [⟨(some 6), none, [], none, .w (.alc [(.z 2), (.z 6), (.z 1), (.z 2), (.i 0), (.i 0), (.i 0), (.i 0), (.i 0), (.i 0), (.i 0)])⟩]) (.keep [0,1,2,6] (.seq (.reg false [(cQ 9 [] (.bld [(.i 0), (.i 0)] [])), (cQ 10 [9] (.bsl 2 1 [(.i 0), (.i 0)] [(0,2, (.t 9))])), (cMv 11 2), (cQ 12 [11] (.bld [(.i 0), (.i 0), (.i 0), (.i 0), (.i 0), (.i 0), (.i 0)] [(1,1, (kI 1)), (2,1, (.t 11)), (3,1, (kI 100000)), (4,1, (kI 9999)), (6,1, (kI 50))])), (cQ 13 [10,12] (.bld [(.z 2), (.z 6), (.z 1), (.z 2), (.i 0), (.i 0), (.i 0), (.i 0), (.i 0), (.i 0), (.i 0)] [(0,1, (.t 10)), (4,7, (.t 12))])), ⟨(some 7), none, [], none, .w (.alc [(.z 2), (.z 6), (.z 1), (.z 2), (.i 0), (.i 0), (.i 0), (.i 0), (.i 0), (.i 0), (.i 0)])⟩, ⟨none, none, [7,13], none, .w (.st 11 (.t 7) (.t 13))⟩]) (.keep [0,1,6,7] (.seq (.seq (.ownc 7 1 6 (.reg false [(cI 8 0)])) (.keep [0,1,6,7,8] (.block 0 (.loop [0,1,6,7,8] (some 3) (.seq (.seq (.reg false [(cMv 14 8), (cMv 15 0), (cLn 16 15), (cB 17 .lss 14 16)]) (.keep [0,1,6,7,8,17] (.cond (.t 17) .skip (.exit 0)))) (.keep [0,1,6,7,8] (.seq (.block 1 (.any false 1 [⟨(cFa 20 7 1), [], []⟩, ⟨(cLd 21 20 false 1), [], [0]⟩, ⟨(cMv 22 8), [], []⟩, ⟨(cMv 23 1), [], []⟩, ⟨(cMv 24 8), [], []⟩, ⟨(cB 25 .add 23 24), [], [3,4]⟩, ⟨(cMv 26 8), [], []⟩, ⟨(cMv 27 8), [], []⟩, ⟨(cQ 28 [22,25,26,27] (.bld [(.i 0), (.i 0), (.i 0), (.i 0), (.i 0), (.i 0)] [(0,1, (.t 22)), (2,1, (.t 25)), (3,1, (kI 1)), (4,1, (.t 26)), (5,1, (.t 27))])), [], [2,5,3,4,6,7]⟩, ⟨(cMv 29 8), [], []⟩, ⟨(cQ 30 [29] (.bin .add (kI 20) (.t 29))), [], [9]⟩, ⟨(cMv 31 8), [], []⟩, ⟨(cQ 32 [31] (.bin .add (kI 100) (.t 31))), [], [11]⟩, ⟨(cMv 33 0), [], []⟩, ⟨(cMv 34 8), [], []⟩, ⟨(cA 35 1 33 34), [], [13,14]⟩, ⟨(cLd 36 35 false 1), [], [15,13,14]⟩, ⟨(cQ 37 [30,32,36] (.bld [(.i 0), (.i 0), (.i 0), (.i 0), (.i 0), (.i 0)] [(0,1, (.t 30)), (2,1, (.t 32)), (3,1, (kI 2)), (4,1, (.t 36))])), [], [10,9,12,11,16,15,13,14]⟩, ⟨(cQ 38 [28,37] (.bsl 6 2 [(.i 0), (.i 0), (.i 0), (.i 0), (.i 0), (.i 0)] [(0,6, (.t 28)), (6,6, (.t 37))])), [], [8,2,5,3,4,6,7,17,10,9,12,11,16,15,13,14]⟩, ⟨⟨(some 39), none, [21,38], (some 0), .w (.app 6 (.t 21) (.t 38))⟩, [], [1,0,18,8,2,5,3,4,6,7,17,10,9,12,11,16,15,13,14]⟩, ⟨(cFa 40 7 1), [], [0,1,2,3,4,5,6,7,8,9,10,11,12,13,14,15,16,17,18,19]⟩, ⟨⟨none, none, [40,39], none, .w (.st 1 (.t 40) (.t 39))⟩, [], [20,0,1,2,3,4,5,6,7,8,9,10,11,12,13,14,15,16,17,18,19]⟩])) (.drp 3 (.keep [0,1,6,7,8] (.reg false [(cMv 18 8), (cC 19 .add 18 1), (cMv 8 19)])))))))))) (.keep [6,7] (.seq (.reg false [(cLd 41 7 true 11), ⟨none, none, [6,41], none, .w (.st 11 (.t 6) (.t 41))⟩]) .ret)))))))
def pu7 : List Nat := [10,38]
def rs7 : List RV := [.c 6 true 11]
theorem cc7 : comp Tryz.prog pu7 (Tryz.f7.ntmps, 0) 0 1 rc7 (Tryz.f7.body.getD .skip) = some rc7 := by kernel_rfl
theorem cb7 : Tryz.f7.body = some (Tryz.f7.body.getD .skip) := by kernel_rfl
theorem cs7 : resRV Tryz.prog Tryz.f7.results.toList = some rs7 := by kernel_rfl
theorem cn7 : 3 ≤ Tryz.f7.ntmps := by decide
def rc8 : RC := (.seq (.reg false [(cX 2 0), (cI 4 0), (cQ 5 [] (.mv (kB false)))]) (.keep [1,2] (.seq (.reg false [(cI 6 0)]) (.keep [1,2,6] (.seq (.seq (.reg false [(cI 7 0)]) (.keep [1,2,6,7] (.block 0 (.loop [1,2,6,7] (some 0) (.seq (.seq (.reg false [(cMv 10 7), (cMv 11 1), (cB 12 .lss 10 11)]) (.keep [1,2,6,7,12] (.cond (.t 12) .skip (.exit 0)))) (.keep [1,2,6,7] (.seq (.block 1 (.seq (.reg false [(cLd 16 2 true 11), (cMv 17 7), (cQ 18 [16,17] (.call (kF 18) [(.t 16), (.t 17)])), (cMv 15 18), (cEx 19 15 0), (cEx 20 15 1), ⟨(some 8), none, [], none, .w (.alc [(.i 0), (.i 0)])⟩, ⟨none, none, [8,19], none, .w (.st 2 (.t 8) (.t 19))⟩, (cMv 9 20)]) (.keep [1,2,6,7,8,9] (.seq (.seq (.reg true [(cMv 21 9), (cC 22 .neq 21 0), (cMv 23 22), (gQ 24 23 false [8] (.fad 0 (.t 8))), (gQ 25 23 false [24] (.ld false 1 (.t 24))), (gQ 26 23 false [8] (.fad 1 (.t 8))), (gQ 27 23 false [26] (.ld false 1 (.t 26))), (gQ 28 23 false [25,27] (.bin .neq (.t 25) (.t 27))), (cQ 29 [23,28] (.pick (.t 23) (kB true) (.t 28))), (cMv 30 29), (gQ 31 30 false [8] (.fad 0 (.t 8))), (gQ 32 30 false [31] (.ld false 1 (.t 31))), (gQ 33 30 false [32] (.bin .lss (.t 32) (kI 0))), (cQ 34 [30,33] (.pick (.t 30) (kB true) (.t 33))), (cMv 35 34), (gQ 36 35 false [8] (.fad 1 (.t 8))), (gQ 37 35 false [36] (.ld false 1 (.t 36))), (gQ 38 35 false [37] (.bin .gtr (.t 37) (kI 100000))), (cQ 39 [35,38] (.pick (.t 35) (kB true) (.t 38)))]) (.keep [1,2,6,7,8,39] (.cond (.t 39) (.seq (.reg false [(cI 4 0), (cQ 5 [] (.mv (kB false)))]) .ret) .skip))) (.keep [1,2,6,7,8] (.reg false [(cMv 40 6), (cFa 41 8 0), (cLd 42 41 false 1), (cB 43 .add 40 42), (cMv 6 43)])))))) (.drp 0 (.keep [1,2,6,7] (.reg false [(cMv 13 7), (cC 14 .add 13 1), (cMv 7 14)])))))))))) (.keep [6] (.seq (.reg false [(cMv 44 6), (cMv 4 44), (cQ 5 [] (.mv (kB true)))]) .ret)))))))
def pu8 : List Nat := [2]
def rs8 : List RV := [.t 4, .t 5]
theorem cc8 : comp Tryz.prog pu8 (Tryz.f8.ntmps, 0) 0 1 rc8 (Tryz.f8.body.getD .skip) = some rc8 := by kernel_rfl
theorem cb8 : Tryz.f8.body = some (Tryz.f8.body.getD .skip) := by kernel_rfl
theorem cs8 : resRV Tryz.prog Tryz.f8.results.toList = some rs8 := by kernel_rfl
theorem cn8 : 2 ≤ Tryz.f8.ntmps := by decide
def rc4 : RC := (.seq (.reg false [(cQ 0 [] (.mv (kB false)))]) (.keep [] (.seq (.reg false [(cQ 8 [] (.call (kF 12) [])), (cQ 9 [8] (.call (kF 11) [(.t 8), (kI 3)])), (cMv 7 9), (cEx 10 7 0), (cEx 11 7 1), ⟨(some 1), none, [], none, .w (.alc [(.i 0), (.i 0)])⟩, ⟨none, none, [1,10], none, .w (.st 2 (.t 1) (.t 10))⟩, (cMv 2 11)]) (.keep [1,2] (.seq (.reg false [(cQ 13 [] (.bsl 1 4 [(.i 0)] [(0,1, (kI 1)), (1,1, (kI 2)), (2,1, (kI 0)), (3,1, (kI 3))])), (cQ 14 [13] (.call (kF 5) [(.t 13)])), (cMv 12 14), (cEx 15 12 0), (cEx 16 12 1), (cMv 3 15), (cMv 4 16)]) (.keep [1,2,3,4] (.seq (.reg false [(cQ 18 [] (.call (kF 14) [])), (cQ 19 [18] (.call (kF 13) [(.t 18)])), (cMv 17 19), (cEx 20 17 0), (cEx 21 17 1), (cMv 5 20), (cMv 6 21)]) (.keep [1,2,3,4,5,6] (.seq (.reg true [(cMv 22 2), (cC 23 .eql 22 0), (cMv 24 23), (gMv 25 24 true 4), (gQ 26 24 true [25] (.bin .eql (.t 25) (kI 0))), (cQ 27 [24,26] (.pick (.t 24) (.t 26) (kB false))), (cMv 28 27), (gMv 29 28 true 6), (gQ 30 28 true [29] (.bin .eql (.t 29) (kI 0))), (cQ 31 [28,30] (.pick (.t 28) (.t 30) (kB false))), (cMv 32 31), (gQ 33 32 true [1] (.ld true 2 (.t 1))), (gQ 34 32 true [] (.bld [(.i 0), (.i 0)] [(0,1, (kI 200)), (1,1, (kI 250))])), (gQ 35 32 true [33,34] (.eqs false 40 (.t 33) (.t 34))), (cQ 36 [32,35] (.pick (.t 32) (.t 35) (kB false))), (cMv 37 36), (gMv 38 37 true 3), (gQ 39 37 true [38] (.bin .eql (.t 38) (kI 2))), (cQ 40 [37,39] (.pick (.t 37) (.t 39) (kB false))), (cMv 41 40), (gMv 42 41 true 5), (gQ 43 41 true [42] (.bin .eql (.t 42) (kI 65))), (cQ 44 [41,43] (.pick (.t 41) (.t 43) (kB false))), (cMv 0 44)]) .ret)))))))))
def pu4 : List Nat := [13]
def rs4 : List RV := [.t 0]
theorem cc4 : comp Tryz.prog pu4 (Tryz.f4.ntmps, 0) 0 1 rc4 (Tryz.f4.body.getD .skip) = some rc4 := by kernel_rfl
theorem cb4 : Tryz.f4.body = some (Tryz.f4.body.getD .skip) := by kernel_rfl
theorem cs4 : resRV Tryz.prog Tryz.f4.results.toList = some rs4 := by kernel_rfl
theorem cn4 : 0 ≤ Tryz.f4.ntmps := by decide
def rc14 : RC := (.seq (.reg false [⟨(some 0), none, [], none, .w (.alc [(.i 0), (.i 0), (.z 3), (.i 0), (.z 2), (.i 0), (.i 0)])⟩]) (.keep [0] (.seq (.reg false [(cQ 1 [] (.bld [(.i 0), (.i 0)] [(0,1, (kI 2)), (1,1, (kI 3))])), (cQ 2 [1] (.bld [(.i 0), (.i 0), (.i 0)] [(1,2, (.t 1))])), (cQ 3 [] (.bld [(.i 0), (.i 0)] [(1,1, (kI 1))])), (cQ 4 [3] (.bld [(.i 0), (.i 0), (.i 0)] [(0,1, (kI 1)), (1,2, (.t 3))])), (cQ 5 [] (.bld [(.i 0), (.i 0), (.i 0)] [(0,1, (kI 2))])), (cQ 6 [] (.bld [(.i 0), (.i 0)] [(0,1, (kI 3)), (1,1, (kI 3))])), (cQ 7 [6] (.bld [(.i 0), (.i 0), (.i 0)] [(0,1, (kI 2)), (1,2, (.t 6))])), (cQ 8 [2,4,5,7] (.bsl 3 4 [(.i 0), (.i 0), (.i 0)] [(0,3, (.t 2)), (3,3, (.t 4)), (6,3, (.t 5)), (9,3, (.t 7))])), (cQ 9 [] (.bsl 1 4 [(.i 0)] [(0,1, (kI 0)), (1,1, (kI 2)), (2,1, (kI 4)), (3,1, (kI 6))])), (cQ 10 [9] (.bld [(.i 0), (.z 1)] [(0,1, (kI 10)), (1,1, (.t 9))])), (cQ 11 [] (.bsl 1 4 [(.i 0)] [(0,1, (kI 0)), (1,1, (kI 1)), (2,1, (kI 2)), (3,1, (kI 3))])), (cQ 12 [11] (.bld [(.i 0), (.z 1)] [(0,1, (kI 20)), (1,1, (.t 11))])), (cQ 13 [] (.bsl 1 4 [(.i 0)] [(0,1, (kI 6)), (1,1, (kI 6)), (2,1, (kI 6)), (3,1, (kI 6))])), (cQ 14 [13] (.bld [(.i 0), (.z 1)] [(0,1, (kI 5)), (1,1, (.t 13))])), (cQ 15 [10,12,14] (.bsl 2 3 [(.i 0), (.z 1)] [(0,2, (.t 10)), (2,2, (.t 12)), (4,2, (.t 14))])), (cQ 16 [8,15] (.bld [(.i 0), (.i 0), (.z 3), (.i 0), (.z 2), (.i 0), (.i 0)] [(0,1, (kI 3)), (1,1, (kI 2)), (2,1, (.t 8)), (3,1, (kI 1)), (4,1, (.t 15)), (5,1, (kI 1)), (6,1, (kI 7))])), ⟨none, none, [0,16], none, .w (.st 7 (.t 0) (.t 16))⟩]) .ret)))
def pu14 : List Nat := [8,9,11,13,15]
def rs14 : List RV := [.c 0 true 7]
theorem cc14 : comp Tryz.prog pu14 (Tryz.f14.ntmps, 0) 0 1 rc14 (Tryz.f14.body.getD .skip) = some rc14 := by kernel_rfl
theorem cb14 : Tryz.f14.body = some (Tryz.f14.body.getD .skip) := by kernel_rfl
theorem cs14 : resRV Tryz.prog Tryz.f14.results.toList = some rs14 := by kernel_rfl
theorem cn14 : 0 ≤ Tryz.f14.ntmps := by decide
end Go.CS
set_option maxRecDepth 8000
namespace Go.CS.R
open Go.Fam Go.Proofs
def rc91 : RC := (.seq (.reg false [(cQ 6 [] (.mv (kB false)))]) (.keep [0,1,2] (.seq (.reg true [(cMv 7 1), (cMv 8 0), (cB 9 .leq 7 8), (cMv 10 9), (gMv 11 10 true 0), (gMv 12 10 true 2), (gQ 13 10 true [11,12] (.bin .leq (.t 11) (.t 12))), (cQ 14 [10,13] (.pick (.t 10) (.t 13) (kB false))), (cMv 6 14)]) .ret)))
def pu91 : List Nat := []
def rs91 : List RV := [.t 6]
theorem cc91 : comp Tryz.prog pu91 (Tryz.f91.ntmps, 0) 0 1 rc91 (Tryz.f91.body.getD .skip) = some rc91 := by kernel_rfl
theorem cb91 : Tryz.f91.body = some (Tryz.f91.body.getD .skip) := by kernel_rfl
theorem cs91 : resRV Tryz.prog Tryz.f91.results.toList = some rs91 := by kernel_rfl
theorem cn91 : 3 ≤ Tryz.f91.ntmps := by decide
def rc94 : RC := (.seq (.reg false [(cX 2 0), (cQ 4 [] (.mv (kB false)))]) (.keep [1,2] (.seq (.any false 0 [⟨(cMv 5 1), [], []⟩, ⟨(cFa 6 2 0), [], []⟩, ⟨(cLd 7 6 false 1), [], [1]⟩, ⟨(cA 8 1 5 7), [], [0,2,1]⟩, ⟨(cLd 9 8 false 1), [], [3,0,2,1]⟩, ⟨(cFa 10 2 1), [], []⟩, ⟨(cFa 11 10 0), [], [5]⟩, ⟨(cLd 12 11 false 1), [], [6,5]⟩, ⟨(cFa 13 2 1), [], []⟩, ⟨(cFa 14 13 1), [], [8]⟩, ⟨(cLd 15 14 false 1), [], [9,8]⟩, ⟨(cQ 16 [9,12,15] (.call (kF 91) [(.t 9), (.t 12), (.t 15)])), [], [4,3,0,2,1,7,6,5,10,9,8]⟩, ⟨(cMv 4 16), [], [11,4,3,0,2,1,7,6,5,10,9,8]⟩]) .ret)))
def pu94 : List Nat := [2]
def rs94 : List RV := [.t 4]
theorem cc94 : comp Tryz.prog pu94 (Tryz.f94.ntmps, 0) 0 1 rc94 (Tryz.f94.body.getD .skip) = some rc94 := by kernel_rfl
theorem cb94 : Tryz.f94.body = some (Tryz.f94.body.getD .skip) := by kernel_rfl
theorem cs94 : resRV Tryz.prog Tryz.f94.results.toList = some rs94 := by kernel_rfl
theorem cn94 : 2 ≤ Tryz.f94.ntmps := by decide
def rc92 : RC := (.seq (.reg false [(cX 2 0), (cX 3 1), (cQ 4 [] (.mv (kB false)))]) (.keep [2,3] (.seq (.reg true [(cFa 5 3 0), (cLd 6 5 false 1), (cFa 7 2 0), (cLd 8 7 false 1), (cC 9 .sub 8 1), (cQ 10 [6,9] (.call (kF 91) [(.t 6), (kI 0), (.t 9)])), (cMv 11 10), (gQ 12 11 true [3] (.fad 1 (.t 3))), (gQ 13 11 true [12] (.fad 0 (.t 12))), (gQ 14 11 true [13] (.ld false 1 (.t 13))), (gQ 15 11 true [3] (.fad 1 (.t 3))), (gQ 16 11 true [15] (.fad 1 (.t 15))), (gQ 17 11 true [16] (.ld false 1 (.t 16))), (gQ 18 11 true [14,17] (.call (kF 91) [(.t 14), (kI 0), (.t 17)])), (cQ 19 [11,18] (.pick (.t 11) (.t 18) (kB false))), (cMv 20 19), (gQ 21 20 true [3] (.fad 1 (.t 3))), (gQ 22 20 true [21] (.fad 1 (.t 21))), (gQ 23 20 true [22] (.ld false 1 (.t 22))), (gQ 24 20 true [23] (.bin .leq (.t 23) (kI 3))), (cQ 25 [20,24] (.pick (.t 20) (.t 24) (kB false))), (cMv 4 25)]) .ret)))
def pu92 : List Nat := [2,3]
def rs92 : List RV := [.t 4]
theorem cc92 : comp Tryz.prog pu92 (Tryz.f92.ntmps, 0) 0 1 rc92 (Tryz.f92.body.getD .skip) = some rc92 := by kernel_rfl
theorem cb92 : Tryz.f92.body = some (Tryz.f92.body.getD .skip) := by kernel_rfl
theorem cs92 : resRV Tryz.prog Tryz.f92.results.toList = some rs92 := by kernel_rfl
theorem cn92 : 2 ≤ Tryz.f92.ntmps := by decide
def rc93 : RC := (.seq (.reg false [(cX 1 0), (cQ 2 [] (.mv (kB false)))]) (.keep [1] (.seq (.reg false [(cQ 3 [] (.mv (kF 105)))]) (.keep [1,3] (.seq (.reg true [(cFa 4 1 0), (cLd 5 4 false 1), (cQ 6 [5] (.call (kF 91) [(.t 5), (kI 0), (kI 999)])), (cMv 7 6), (gQ 8 7 true [1] (.fad 1 (.t 1))), (gQ 9 7 true [8] (.ld false 1 (.t 8))), (gQ 10 7 true [9] (.len (.t 9))), (gQ 11 7 true [10] (.bin .eql (.t 10) (kI 4))), (cQ 12 [7,11] (.pick (.t 7) (.t 11) (kB false))), (cMv 13 12), (gQ 14 13 true [1] (.fad 1 (.t 1))), (gQ 15 13 true [14] (.ld false 1 (.t 14))), (gMv 16 13 true 3), (gQ 17 13 true [15,16] (.call (kF 75) [(.t 15), (.t 16)])), (gQ 18 13 true [17] (.not (.t 17))), (cQ 19 [13,18] (.pick (.t 13) (.t 18) (kB false))), (cMv 2 19)]) .ret)))))
def pu93 : List Nat := [1]
def rs93 : List RV := [.t 2]
theorem cc93 : comp Tryz.prog pu93 (Tryz.f93.ntmps, 0) 0 1 rc93 (Tryz.f93.body.getD .skip) = some rc93 := by kernel_rfl
theorem cb93 : Tryz.f93.body = some (Tryz.f93.body.getD .skip) := by kernel_rfl
theorem cs93 : resRV Tryz.prog Tryz.f93.results.toList = some rs93 := by kernel_rfl
theorem cn93 : 1 ≤ Tryz.f93.ntmps := by decide
def rc105 : RC := (.seq (.reg false [(cQ 2 [] (.mv (kB false)))]) (.keep [0] (.seq (.reg false [(cMv 3 0), (cQ 4 [3] (.call (kF 91) [(.t 3), (kI 0), (kI 99)])), (cN 5 4), (cMv 2 5)]) .ret)))
def pu105 : List Nat := []
def rs105 : List RV := [.t 2]
theorem cc105 : comp Tryz.prog pu105 (Tryz.f105.ntmps, 0) 0 1 rc105 (Tryz.f105.body.getD .skip) = some rc105 := by kernel_rfl
theorem cb105 : Tryz.f105.body = some (Tryz.f105.body.getD .skip) := by kernel_rfl
theorem cs105 : resRV Tryz.prog Tryz.f105.results.toList = some rs105 := by kernel_rfl
theorem cn105 : 1 ≤ Tryz.f105.ntmps := by decide
def rc66 : RC := (.seq (.reg false [(cX 1 0), (cI 2 0)]) (.keep [1] (.seq (.seq (.reg true [(cFa 7 1 0), (cLd 8 7 false 1), (cQ 9 [8] (.call (kF 91) [(.t 8), (kI 1), (kI 6)])), (cN 10 9), (cMv 11 10), (gQ 12 11 false [1] (.fad 1 (.t 1))), (gQ 13 11 false [12] (.ld false 1 (.t 12))), (gQ 14 11 false [13] (.call (kF 91) [(.t 13), (kI 0), (kI 3)])), (gQ 15 11 false [14] (.not (.t 14))), (cQ 16 [11,15] (.pick (.t 11) (kB true) (.t 15))), (cMv 17 16), (gQ 18 17 false [1] (.fad 3 (.t 1))), (gQ 19 17 false [18] (.ld false 1 (.t 18))), (gQ 20 17 false [19] (.call (kF 91) [(.t 19), (kI 0), (kI 10)])), (gQ 21 17 false [20] (.not (.t 20))), (cQ 22 [17,21] (.pick (.t 17) (kB true) (.t 21))), (cMv 23 22), (gQ 24 23 false [1] (.fad 5 (.t 1))), (gQ 25 23 false [24] (.ld false 1 (.t 24))), (gQ 26 23 false [25] (.call (kF 91) [(.t 25), (kI 0), (kI 4)])), (gQ 27 23 false [26] (.not (.t 26))), (cQ 28 [23,27] (.pick (.t 23) (kB true) (.t 27))), (cMv 29 28), (gQ 30 29 false [1] (.fad 6 (.t 1))), (gQ 31 29 false [30] (.ld false 1 (.t 30))), (gQ 32 29 false [31] (.call (kF 91) [(.t 31), (kI 0), (kI 999)])), (gQ 33 29 false [32] (.not (.t 32))), (cQ 34 [29,33] (.pick (.t 29) (kB true) (.t 33))), (cMv 35 34), (gQ 36 35 false [1] (.fad 2 (.t 1))), (gQ 37 35 false [36] (.ld false 1 (.t 36))), (gQ 38 35 false [37] (.len (.t 37))), (gQ 39 35 false [38] (.bin .gtr (.t 38) (kI 10))), (cQ 40 [35,39] (.pick (.t 35) (kB true) (.t 39))), (cMv 41 40), (gQ 42 41 false [1] (.fad 4 (.t 1))), (gQ 43 41 false [42] (.ld false 1 (.t 42))), (gQ 44 41 false [43] (.len (.t 43))), (gQ 45 41 false [44] (.call (kF 91) [(.t 44), (kI 1), (kI 4)])), (gQ 46 41 false [45] (.not (.t 45))), (cQ 47 [41,46] (.pick (.t 41) (kB true) (.t 46)))]) (.keep [1,47] (.cond (.t 47) (.seq (.reg false [(cI 2 110)]) .ret) .skip))) (.keep [1] (.seq (.seq (.reg false [(cFa 48 1 2), (cLd 49 48 false 1), (cLn 50 49), (cI 51 0)]) (.keep [1,49,50,51] (.block 0 (.loop [1,49,50,51] (some 0) (.seq (.reg false [(cB 52 .lss 51 50)]) (.keep [1,49,50,51,52] (.seq (.cond (.t 52) .skip (.exit 0)) (.keep [1,49,50,51] (.seq (.block 1 (.seq (.reg false [(cA 53 3 49 51), (cLd 54 53 true 3), ⟨(some 4), none, [], none, .w (.alc [(.i 0), (.i 0), (.i 0)])⟩, ⟨none, none, [4,54], none, .w (.st 3 (.t 4) (.t 54))⟩]) (.keep [1,4,49,50,51] (.seq (.reg false [(cLd 55 1 true 7), (cLd 56 4 true 3), (cQ 57 [55,56] (.call (kF 92) [(.t 55), (.t 56)])), (cN 58 57)]) (.keep [1,49,50,51,58] (.cond (.t 58) (.seq (.reg false [(cI 2 110)]) .ret) .skip)))))) (.drp 0 (.keep [1,49,50,51] (.reg false [(cC 59 .add 51 1), (cMv 51 59)])))))))))))) (.keep [1] (.seq (.seq (.reg false [(cFa 60 1 4), (cLd 61 60 false 1), (cLn 62 61), (cI 63 0)]) (.keep [61,62,63] (.block 2 (.loop [61,62,63] (some 0) (.seq (.reg false [(cB 64 .lss 63 62)]) (.keep [61,62,63,64] (.seq (.cond (.t 64) .skip (.exit 2)) (.keep [61,62,63] (.seq (.block 3 (.seq (.reg false [(cA 65 2 61 63), (cLd 66 65 true 2), ⟨(some 6), none, [], none, .w (.alc [(.i 0), (.z 1)])⟩, ⟨none, none, [6,66], none, .w (.st 2 (.t 6) (.t 66))⟩]) (.keep [6,61,62,63] (.seq (.reg false [(cLd 67 6 true 2), (cQ 68 [67] (.call (kF 93) [(.t 67)])), (cN 69 68)]) (.keep [61,62,63,69] (.cond (.t 69) (.seq (.reg false [(cI 2 110)]) .ret) .skip)))))) (.drp 0 (.keep [61,62,63] (.reg false [(cC 70 .add 63 1), (cMv 63 70)])))))))))))) (.keep [] (.seq (.reg false [(cI 2 0)]) .ret)))))))))
def pu66 : List Nat := [1]
def rs66 : List RV := [.t 2]
theorem cc66 : comp Tryz.prog pu66 (Tryz.f66.ntmps, 0) 0 1 rc66 (Tryz.f66.body.getD .skip) = some rc66 := by kernel_rfl
theorem cb66 : Tryz.f66.body = some (Tryz.f66.body.getD .skip) := by kernel_rfl
theorem cs66 : resRV Tryz.prog Tryz.f66.results.toList = some rs66 := by kernel_rfl
theorem cn66 : 1 ≤ Tryz.f66.ntmps := by decide
def rc68 : RC := (.seq (.reg false [(cX 2 0), (cI 4 0)]) (.keep [1,2] (.seq (.reg false [(cI 5 0)]) (.keep [1,2,5] (.seq (.seq (.reg false [(cFa 8 2 2), (cLd 9 8 false 1), (cLn 10 9), (cI 11 0)]) (.keep [1,5,9,10,11] (.block 0 (.loop [1,5,9,10,11] (some 0) (.seq (.reg false [(cB 12 .lss 11 10)]) (.keep [1,5,9,10,11,12] (.seq (.cond (.t 12) .skip (.exit 0)) (.keep [1,5,9,10,11] (.seq (.block 1 (.seq (.reg false [(cA 13 3 9 11), (cLd 14 13 true 3), ⟨(some 7), none, [], none, .w (.alc [(.i 0), (.i 0), (.i 0)])⟩, ⟨none, none, [7,14], none, .w (.st 3 (.t 7) (.t 14))⟩]) (.keep [1,5,7,9,10,11] (.seq (.reg false [(cLd 15 7 true 3), (cMv 16 1), (cQ 17 [15,16] (.call (kF 94) [(.t 15), (.t 16)])), (cN 18 17)]) (.keep [1,5,9,10,11,18] (.cond (.t 18) (.reg false [(cMv 19 5), (cC 20 .add 19 1), (cMv 5 20)]) .skip)))))) (.drp 0 (.keep [1,5,9,10,11] (.reg false [(cC 21 .add 11 1), (cMv 11 21)])))))))))))) (.keep [5] (.seq (.reg false [(cMv 22 5), (cMv 4 22)]) .ret)))))))
def pu68 : List Nat := [2]
def rs68 : List RV := [.t 4]
theorem cc68 : comp Tryz.prog pu68 (Tryz.f68.ntmps, 0) 0 1 rc68 (Tryz.f68.body.getD .skip) = some rc68 := by kernel_rfl
theorem cb68 : Tryz.f68.body = some (Tryz.f68.body.getD .skip) := by kernel_rfl
theorem cs68 : resRV Tryz.prog Tryz.f68.results.toList = some rs68 := by kernel_rfl
theorem cn68 : 2 ≤ Tryz.f68.ntmps := by decide
def rc70 : RC := (.seq (.reg false [⟨(some 6), none, [], none, .w (.alc [(.i 0), (.i 0)])⟩]) (.keep [0,1,2,6] (.seq (.reg false [(cMv 12 0), (cZ 13 12), (cFa 14 13 0), (cFa 15 14 6), (cLd 16 15 false 1), (cQ 17 [16] (.bld [(.i 0), (.i 0)] [(1,1, (.t 16))])), ⟨(some 7), none, [], none, .w (.alc [(.i 0), (.i 0)])⟩, ⟨none, none, [7,17], none, .w (.st 2 (.t 7) (.t 17))⟩]) (.keep [0,1,2,6,7] (.seq (.seq (.reg false [(cMv 18 1), (cLn 19 18), (cI 20 0)]) (.keep [0,2,6,7,18,19,20] (.block 0 (.loop [0,2,6,7,18,19,20] (some 2) (.seq (.reg false [(cB 21 .lss 20 19)]) (.keep [0,2,6,7,18,19,20,21] (.seq (.cond (.t 21) .skip (.exit 0)) (.keep [0,2,6,7,18,19,20] (.seq (.block 1 (.seq (.reg false [(cMv 22 20), (cA 23 1 18 20), (cLd 24 23 false 1), (cMv 8 22), (cMv 9 24)]) (.keep [0,2,6,7,8,9,18,19,20] (.seq (.reg false [(cMv 25 0), (cZ 26 25), (cFa 27 26 0), (cFa 28 27 4), (cLd 29 28 false 1), (cMv 30 9), (cA 31 2 29 30), (cLd 32 31 true 2), ⟨(some 10), none, [], none, .w (.alc [(.i 0), (.z 1)])⟩, ⟨none, none, [10,32], none, .w (.st 2 (.t 10) (.t 32))⟩]) (.keep [0,2,6,7,8,10,18,19,20] (.seq (.any false 0 [⟨(cFa 33 7 1), [], []⟩, ⟨(cLd 34 33 false 1), [], [0]⟩, ⟨(cFa 35 10 1), [], []⟩, ⟨(cLd 36 35 false 1), [], [2]⟩, ⟨(cMv 37 2), [], []⟩, ⟨(cMv 38 8), [], []⟩, ⟨(cA 39 1 37 38), [], [4,5]⟩, ⟨(cLd 40 39 false 1), [], [6,4,5]⟩, ⟨(cA 41 1 36 40), [], [3,2,7,6,4,5]⟩, ⟨(cLd 42 41 false 1), [], [8,3,2,7,6,4,5]⟩, ⟨(cQ 43 [34,42] (.mn (.t 34) (.t 42))), [], [1,0,9,8,3,2,7,6,4,5]⟩, ⟨(cMv 11 43), [], [10,1,0,9,8,3,2,7,6,4,5]⟩]) (.keep [0,2,6,7,10,11,18,19,20] (.reg false [(cFa 44 7 0), (cLd 45 44 false 1), (cFa 46 10 0), (cLd 47 46 false 1), (cMv 48 11), (cB 49 .mul 47 48), (cB 50 .add 45 49), (cFa 51 7 1), (cLd 52 51 false 1), (cMv 53 11), (cB 54 .sub 52 53), (cFa 55 7 0), ⟨none, none, [55,50], none, .w (.st 1 (.t 55) (.t 50))⟩, (cFa 56 7 1), ⟨none, none, [56,54], none, .w (.st 1 (.t 56) (.t 54))⟩])))))))) (.drp 2 (.keep [0,2,6,7,18,19,20] (.reg false [(cC 57 .add 20 1), (cMv 20 57)])))))))))))) (.keep [6,7] (.seq (.reg false [(cLd 58 7 true 2), ⟨none, none, [6,58], none, .w (.st 2 (.t 6) (.t 58))⟩]) .ret)))))))
def pu70 : List Nat := []
def rs70 : List RV := [.c 6 true 2]
theorem cc70 : comp Tryz.prog pu70 (Tryz.f70.ntmps, 0) 0 1 rc70 (Tryz.f70.body.getD .skip) = some rc70 := by kernel_rfl
theorem cb70 : Tryz.f70.body = some (Tryz.f70.body.getD .skip) := by kernel_rfl
theorem cs70 : resRV Tryz.prog Tryz.f70.results.toList = some rs70 := by kernel_rfl
theorem cn70 : 3 ≤ Tryz.f70.ntmps := by decide
def rc54 : RC := (.seq (.reg false [⟨(some 6), none, [], none, .w (.alc [(.i 0), (.i 0)])⟩]) (.keep [0,1,2,6] (.seq (.reg false [(cMv 11 2), (cMv 12 0), (cMv 13 1), (cMv 14 0), (cZ 15 14), (cFa 16 15 7), (cLd 17 16 false 1), (cQ 18 [17] (.iad 1 (.t 17) (kI 0))), (cLd 19 18 false 1), (cQ 20 [12,13,19] (.call (kF 70) [(.t 12), (.t 13), (.t 19)])), (cQ 21 [11,20] (.call (.t 11) [(.t 20)])), (cMv 7 21)]) (.keep [0,1,2,6,7] (.seq (.reg false [(cMv 22 7), (cMv 23 7), (cQ 24 [22,23] (.bld [(.i 0), (.i 0)] [(0,1, (.t 22)), (1,1, (.t 23))])), ⟨(some 8), none, [], none, .w (.alc [(.i 0), (.i 0)])⟩, ⟨none, none, [8,24], none, .w (.st 2 (.t 8) (.t 24))⟩]) (.keep [0,1,2,6,8] (.seq (.seq (.reg false [(cMv 25 0), (cZ 26 25), (cFa 27 26 7), (cLd 28 27 false 1), (cQ 29 [28] (.slc 1 (.t 28) (some (kI 1)) none)), (cLn 30 29), (cI 31 0)]) (.keep [0,1,2,6,8,29,30,31] (.block 0 (.loop [0,1,2,6,8,29,30,31] none (.seq (.reg false [(cB 32 .lss 31 30)]) (.keep [0,1,2,6,8,29,30,31,32] (.seq (.cond (.t 32) .skip (.exit 0)) (.keep [0,1,2,6,8,29,30,31] (.seq (.block 1 (.seq (.reg false [(cA 33 1 29 31), (cLd 34 33 false 1), (cMv 10 34)]) (.keep [0,1,2,6,8,10,29,30,31] (.seq (.reg false [(cMv 35 2), (cMv 36 0), (cMv 37 1), (cMv 38 10), (cQ 39 [36,37,38] (.call (kF 70) [(.t 36), (.t 37), (.t 38)])), (cQ 40 [35,39] (.call (.t 35) [(.t 39)])), (cMv 7 40)]) (.keep [0,1,2,6,7,8,29,30,31] (.reg false [(cFa 41 8 0), (cLd 42 41 false 1), (cMv 43 7), (cQ 44 [42,43] (.mn (.t 42) (.t 43))), (cFa 45 8 1), (cLd 46 45 false 1), (cMv 47 7), (cQ 48 [46,47] (.mx (.t 46) (.t 47))), (cFa 49 8 0), ⟨none, none, [49,44], none, .w (.st 1 (.t 49) (.t 44))⟩, (cFa 50 8 1), ⟨none, none, [50,48], none, .w (.st 1 (.t 50) (.t 48))⟩])))))) (.keep [0,1,2,6,8,29,30,31] (.reg false [(cC 51 .add 31 1), (cMv 31 51)]))))))))))) (.keep [6,8] (.seq (.reg false [(cLd 52 8 true 2), ⟨none, none, [6,52], none, .w (.st 2 (.t 6) (.t 52))⟩]) .ret)))))))))
def pu54 : List Nat := []
def rs54 : List RV := [.c 6 true 2]
theorem cc54 : comp Tryz.prog pu54 (Tryz.f54.ntmps, 0) 0 1 rc54 (Tryz.f54.body.getD .skip) = some rc54 := by kernel_rfl
theorem cb54 : Tryz.f54.body = some (Tryz.f54.body.getD .skip) := by kernel_rfl
theorem cs54 : resRV Tryz.prog Tryz.f54.results.toList = some rs54 := by kernel_rfl
theorem cn54 : 3 ≤ Tryz.f54.ntmps := by decide
def rc55 : RC := (.seq (.reg false [(cX 1 0), (cI 2 0)]) (.keep [1] (.seq (.reg false [(cFa 3 1 0), (cLd 4 3 false 1), (cMv 2 4)]) .ret)))
def pu55 : List Nat := [1]
def rs55 : List RV := [.t 2]
theorem cc55 : comp Tryz.prog pu55 (Tryz.f55.ntmps, 0) 0 1 rc55 (Tryz.f55.body.getD .skip) = some rc55 := by kernel_rfl
theorem cb55 : Tryz.f55.body = some (Tryz.f55.body.getD .skip) := by kernel_rfl
theorem cs55 : resRV Tryz.prog Tryz.f55.results.toList = some rs55 := by kernel_rfl
theorem cn55 : 1 ≤ Tryz.f55.ntmps := by decide
def rc33 : RC := (.seq (.reg false [(cX 1 0), (cI 2 0)]) (.keep [1] (.seq (.reg false [(cFa 3 1 0), (cLd 4 3 false 1), (cMv 2 4)]) .ret)))
def pu33 : List Nat := [1]
def rs33 : List RV := [.t 2]
theorem cc33 : comp Tryz.prog pu33 (Tryz.f33.ntmps, 0) 0 1 rc33 (Tryz.f33.body.getD .skip) = some rc33 := by kernel_rfl
theorem cb33 : Tryz.f33.body = some (Tryz.f33.body.getD .skip) := by kernel_rfl
theorem cs33 : resRV Tryz.prog Tryz.f33.results.toList = some rs33 := by kernel_rfl
theorem cn33 : 1 ≤ Tryz.f33.ntmps := by decide
def rc14 : RC := (.seq (.reg false [⟨(some 0), none, [], none, .w (.alc [(.i 0), (.i 0), (.z 3), (.i 0), (.z 2), (.i 0), (.i 0)])⟩]) (.keep [0] (.seq (.reg false [(cQ 1 [] (.bld [(.i 0), (.i 0)] [(0,1, (kI 2)), (1,1, (kI 3))])), (cQ 2 [1] (.bld [(.i 0), (.i 0), (.i 0)] [(1,2, (.t 1))])), (cQ 3 [] (.bld [(.i 0), (.i 0)] [(1,1, (kI 1))])), (cQ 4 [3] (.bld [(.i 0), (.i 0), (.i 0)] [(0,1, (kI 1)), (1,2, (.t 3))])), (cQ 5 [] (.bld [(.i 0), (.i 0), (.i 0)] [(0,1, (kI 2))])), (cQ 6 [] (.bld [(.i 0), (.i 0)] [(0,1, (kI 3)), (1,1, (kI 3))])), (cQ 7 [6] (.bld [(.i 0), (.i 0), (.i 0)] [(0,1, (kI 2)), (1,2, (.t 6))])), (cQ 8 [2,4,5,7] (.bsl 3 4 [(.i 0), (.i 0), (.i 0)] [(0,3, (.t 2)), (3,3, (.t 4)), (6,3, (.t 5)), (9,3, (.t 7))])), (cQ 9 [] (.bsl 1 4 [(.i 0)] [(0,1, (kI 0)), (1,1, (kI 2)), (2,1, (kI 4)), (3,1, (kI 6))])), (cQ 10 [9] (.bld [(.i 0), (.z 1)] [(0,1, (kI 10)), (1,1, (.t 9))])), (cQ 11 [] (.bsl 1 4 [(.i 0)] [(0,1, (kI 0)), (1,1, (kI 1)), (2,1, (kI 2)), (3,1, (kI 3))])), (cQ 12 [11] (.bld [(.i 0), (.z 1)] [(0,1, (kI 20)), (1,1, (.t 11))])), (cQ 13 [] (.bsl 1 4 [(.i 0)] [(0,1, (kI 6)), (1,1, (kI 6)), (2,1, (kI 6)), (3,1, (kI 6))])), (cQ 14 [13] (.bld [(.i 0), (.z 1)] [(0,1, (kI 5)), (1,1, (.t 13))])), (cQ 15 [10,12,14] (.bsl 2 3 [(.i 0), (.z 1)] [(0,2, (.t 10)), (2,2, (.t 12)), (4,2, (.t 14))])), (cQ 16 [8,15] (.bld [(.i 0), (.i 0), (.z 3), (.i 0), (.z 2), (.i 0), (.i 0)] [(0,1, (kI 3)), (1,1, (kI 2)), (2,1, (.t 8)), (3,1, (kI 1)), (4,1, (.t 15)), (5,1, (kI 1)), (6,1, (kI 7))])), ⟨none, none, [0,16], none, .w (.st 7 (.t 0) (.t 16))⟩]) .ret)))
def pu14 : List Nat := [8,9,11,13,15]
def rs14 : List RV := [.c 0 true 7]
theorem cc14 : comp Tryz.prog pu14 (Tryz.f14.ntmps, 0) 0 1 rc14 (Tryz.f14.body.getD .skip) = some rc14 := by kernel_rfl
theorem cb14 : Tryz.f14.body = some (Tryz.f14.body.getD .skip) := by kernel_rfl
theorem cs14 : resRV Tryz.prog Tryz.f14.results.toList = some rs14 := by kernel_rfl
theorem cn14 : 0 ≤ Tryz.f14.ntmps := by decide
end Go.CS.R
set_option maxRecDepth 8000
namespace Go.CS.R
open Go.Fam Go.Proofs
def rc69 : RC := (.seq (.reg false [(cX 3 0), (cX 4 1), (cX 5 2), (cQ 6 [] (.mv (.k .u)))]) (.keep [3,4,5] (.seq (.reg false [(cQ 7 [3,4,5] (.mkf 95 [(.t 3), (.t 4), (.t 5)])), (cMv 6 7)]) .ret)))
def pu69 : List Nat := [3,4,5]
def rs69 : List RV := [.t 6]
theorem cc69 : comp Tryz.prog pu69 (Tryz.f69.ntmps, 0) 0 1 rc69 (Tryz.f69.body.getD .skip) = some rc69 := by kernel_rfl
theorem cb69 : Tryz.f69.body = some (Tryz.f69.body.getD .skip) := by kernel_rfl
theorem cs69 : resRV Tryz.prog Tryz.f69.results.toList = some rs69 := by kernel_rfl
theorem cn69 : 3 ≤ Tryz.f69.ntmps := by decide
def rc67 : RC := (.seq (.reg false [(cX 1 0), (cQ 2 [] (.mv (.k .u)))]) (.keep [1] (.seq (.reg false [(cFa 3 1 0), (cLd 4 3 false 1), (cFa 5 1 1), (cLd 6 5 false 1), (cQ 7 [4,6] (.call (kF 69) [(.t 4), (kI 3), (.t 6)])), (cMv 2 7)]) .ret)))
def pu67 : List Nat := [1]
def rs67 : List RV := [.t 2]
theorem cc67 : comp Tryz.prog pu67 (Tryz.f67.ntmps, 0) 0 1 rc67 (Tryz.f67.body.getD .skip) = some rc67 := by kernel_rfl
theorem cb67 : Tryz.f67.body = some (Tryz.f67.body.getD .skip) := by kernel_rfl
theorem cs67 : resRV Tryz.prog Tryz.f67.results.toList = some rs67 := by kernel_rfl
theorem cn67 : 1 ≤ Tryz.f67.ntmps := by decide
def rc53 : RC := (.seq (.reg false [(cX 1 0), (cQ 2 [] (.mv (.k .u)))]) (.keep [1] (.seq (.reg false [(cFa 3 1 0), (cLd 4 3 false 1), (cFa 5 1 4), (cLd 6 5 false 1), (cLn 7 6), (cC 8 .sub 7 1), (cFa 9 1 5), (cLd 10 9 false 1), (cQ 11 [4,8,10] (.call (kF 69) [(.t 4), (.t 8), (.t 10)])), (cMv 2 11)]) .ret)))
def pu53 : List Nat := [1]
def rs53 : List RV := [.t 2]
theorem cc53 : comp Tryz.prog pu53 (Tryz.f53.ntmps, 0) 0 1 rc53 (Tryz.f53.body.getD .skip) = some rc53 := by kernel_rfl
theorem cb53 : Tryz.f53.body = some (Tryz.f53.body.getD .skip) := by kernel_rfl
theorem cs53 : resRV Tryz.prog Tryz.f53.results.toList = some rs53 := by kernel_rfl
theorem cn53 : 1 ≤ Tryz.f53.ntmps := by decide
def rc96 : RC := (.seq (.reg false [(cQ 8 [] (.mv (kB false)))]) (.keep [0,1,2,3,4,5,6] (.seq (.seq (.reg false [(cMv 10 0), (cLd 11 1 false 1), (cB 12 .eql 10 11)]) (.keep [0,2,3,4,5,6,12] (.cond (.t 12) (.seq (.yrh false [(cLd 13 2 false 1), (cLd 14 3 false 1)] ⟨(some 15), none, [13,14], none, .o (.t 13) [(.t 14)]⟩ [(cMv 8 15)]) .ret) .skip))) (.keep [0,3,4,5,6] (.seq (.seq (.reg false [(cLd 16 4 false 1), (cC 17 .add 16 1), (cI 18 0)]) (.keep [0,3,5,6,17,18] (.block 0 (.loop [0,3,5,6,17,18] none (.seq (.reg false [(cB 19 .lss 18 17)]) (.keep [0,3,5,6,17,18,19] (.seq (.cond (.t 19) .skip (.exit 0)) (.keep [0,3,5,6,17,18] (.seq (.block 1 (.seq (.reg false [(cMv 20 18), (cMv 9 20)]) (.keep [0,3,5,6,9,17,18] (.seq (.seq (.any true 0 [⟨(cMv 21 0), [], []⟩, ⟨(cC 22 .gtr 21 0), [], [0]⟩, ⟨(cMv 23 22), [], [1,0]⟩, ⟨(gMv 24 23 true 9), [], [2,1,0]⟩, ⟨(gQ 25 23 true [3] (.ld false 1 (.t 3))), [], [2,1,0]⟩, ⟨(gMv 26 23 true 0), [], [2,1,0]⟩, ⟨(gQ 27 23 true [26] (.bin .sub (.t 26) (kI 1))), [], [5,2,1,0]⟩, ⟨(gQ 28 23 true [25,27] (.iad 1 (.t 25) (.t 27))), [], [4,2,1,0,6,5]⟩, ⟨(gQ 29 23 true [28] (.ld false 1 (.t 28))), [], [7,4,2,1,0,6,5]⟩, ⟨(gQ 30 23 true [24,29] (.bin .sub (.t 24) (.t 29))), [], [3,2,1,0,8,7,4,6,5]⟩, ⟨(gQ 31 23 true [5] (.ld false 1 (.t 5))), [], [2,1,0]⟩, ⟨(gQ 32 23 true [31] (.neg (.t 31))), [], [10,2,1,0]⟩, ⟨(gQ 33 23 true [5] (.ld false 1 (.t 5))), [], [2,1,0]⟩, ⟨(gQ 34 23 true [30,32,33] (.call (kF 91) [(.t 30), (.t 32), (.t 33)])), [], [9,3,2,1,0,8,7,4,6,5,11,10,12]⟩, ⟨(gQ 35 23 true [34] (.not (.t 34))), [], [13,9,3,2,1,0,8,7,4,6,5,11,10,12]⟩, ⟨(cQ 36 [23,35] (.pick (.t 23) (.t 35) (kB false))), [], [2,1,0,14,13,9,3,8,7,4,6,5,11,10,12]⟩]) (.keep [0,3,5,6,9,17,18,36] (.cond (.t 36) (.exit 1) .skip))) (.keep [0,3,5,6,9,17,18] (.seq (.reg false [(cLd 37 3 false 1), (cMv 38 0), (cMv 39 9), (cA 40 1 37 38), ⟨none, none, [40,39], none, .w (.st 1 (.t 40) (.t 39))⟩]) (.keep [0,3,5,6,17,18] (.seq (.ycl 7 false [(cLd 41 6 false 1), (cMv 42 0), (cC 43 .add 42 1)] ⟨(some 44), none, [41,43], none, .o (.t 41) [(.t 43)]⟩ [(cN 45 44)]) (.keep [0,3,5,6,17,18,45] (.cond (.t 45) (.seq (.reg false [(cQ 8 [] (.mv (kB false)))]) .ret) .skip)))))))))) (.keep [0,3,5,6,17,18] (.reg false [(cC 46 .add 18 1), (cMv 18 46)]))))))))))) (.keep [] (.seq (.reg false [(cQ 8 [] (.mv (kB true)))]) .ret)))))))
def pu96 : List Nat := []
def rs96 : List RV := [.t 8]
theorem cc96 : comp Tryz.prog pu96 (Tryz.f96.ntmps, 0) 7 3 rc96 (Tryz.f96.body.getD .skip) = some rc96 := by kernel_rfl
theorem cb96 : Tryz.f96.body = some (Tryz.f96.body.getD .skip) := by kernel_rfl
theorem cs96 : resRV Tryz.prog Tryz.f96.results.toList = some rs96 := by kernel_rfl
theorem cn96 : 7 ≤ Tryz.f96.ntmps := by decide
def rc95 : RC := (.seq (.reg false [(cX 4 0)]) (.keep [1,2,3,4] (.seq (.reg false [(cLd 7 1 false 1), ⟨(some 8), none, [7,7], none, .w (.mks 1 [(.i 0)] (.t 7) (.t 7))⟩, ⟨(some 5), none, [], none, .w (.alc [(.z 1)])⟩, ⟨none, none, [5,8], none, .w (.st 1 (.t 5) (.t 8))⟩]) (.keep [1,2,3,4,5] (.seq (.reg false [⟨(some 6), none, [], none, .w (.alc [.u])⟩]) (.keep [1,2,3,4,5,6] (.seq (.reg false [(cQ 9 [1,4,5,2,3,6] (.mkf 96 [(.t 1), (.t 4), (.t 5), (.t 2), (.t 3), (.t 6)])), ⟨none, none, [6,9], none, .w (.st 1 (.t 6) (.t 9))⟩]) (.keep [6] (.ycl 4 false [(cLd 10 6 false 1)] ⟨(some 11), none, [10], none, .o (.t 10) [(kI 0)]⟩ [])))))))))
def pu95 : List Nat := [4]
def rs95 : List RV := []
theorem cc95 : comp Tryz.prog pu95 (Tryz.f95.ntmps, 0) 4 3 rc95 (Tryz.f95.body.getD .skip) = some rc95 := by kernel_rfl
theorem cb95 : Tryz.f95.body = some (Tryz.f95.body.getD .skip) := by kernel_rfl
theorem cs95 : resRV Tryz.prog Tryz.f95.results.toList = some rs95 := by kernel_rfl
theorem cn95 : 4 ≤ Tryz.f95.ntmps := by decide
end Go.CS.R
set_option maxRecDepth 8000
namespace Go.CS.R
open Go.Fam Go.Proofs
def rc13 : RC := (.seq (.reg false [(cX 1 0), (cI 2 0), (cI 3 0)]) (.keep [1] (.seq (.reg false [(cLd 8 1 true 7), (cQ 9 [8] (.call (kF 32) [(.t 8), (kF 33)])), (cMv 7 9), (cEx 10 7 0), (cEx 11 7 1), (cEx 12 7 2), (cMv 4 10), (cMv 5 11), (cMv 6 12)]) (.keep [4,6] (.seq (.reg false [(cMv 13 4), (cMv 14 6), (cMv 2 13), (cMv 3 14)]) .ret)))))
def pu13 : List Nat := [1]
def rs13 : List RV := [.t 2, .t 3]
theorem cc13 : comp Tryz.prog pu13 (Tryz.f13.ntmps, 0) 0 1 rc13 (Tryz.f13.body.getD .skip) = some rc13 := by kernel_rfl
theorem cb13 : Tryz.f13.body = some (Tryz.f13.body.getD .skip) := by kernel_rfl
theorem cs13 : resRV Tryz.prog Tryz.f13.results.toList = some rs13 := by kernel_rfl
theorem cn13 : 1 ≤ Tryz.f13.ntmps := by decide
def rc52 : RC := (.dum (.seq (.reg false [(cX 2 0), (cQ 4 [] (.mv (.k .pn))), (cI 5 0)]) (.keep [1,2,21] (.seq (.seq (.reg false [(cLd 9 2 true 7), (cQ 10 [9] (.call (kF 66) [(.t 9)])), (cMv 6 10)]) (.keep [1,2,6,21] (.seq (.reg false [(cMv 11 6), (cC 12 .neq 11 0)]) (.keep [1,2,6,12,21] (.cond (.t 12) (.seq (.reg false [(cMv 13 6), (cQ 4 [] (.mv (.k .pn))), (cMv 5 13)]) .ret) .skip))))) (.keep [1,2,21] (.seq (.seq (.reg false [(cMv 14 1), (cN 15 14)]) (.keep [2,15,21] (.cond (.t 15) (.seq (.reg false [(cQ 4 [] (.mv (.k .pn))), (cI 5 1)]) .ret) .skip))) (.keep [2,21] (.seq (.reg false [(cLd 16 2 true 7), (cQ 17 [16] (.bld [(.i 0), (.i 0), (.z 3), (.i 0), (.z 2), (.i 0), (.i 0), (.z 1)] [(0,7, (.t 16))])), ⟨(some 18), none, [17], none, .w (.bxo (.t 17))⟩, ⟨(some 7), none, [], none, .w (.alc [.pn])⟩, ⟨none, none, [7,18], none, .w (.st 1 (.t 7) (.t 18))⟩]) (.keep [2,7,18,21] (.seq (.seq (.reg false [(cLd 19 2 true 7), (cQ 20 [19] (.call (kF 67) [(.t 19)]))]) (.keep [2,7,18,20,21] (.block 0 (.ownc 18 7 1 (.rfh (.t 20) [21] 4 3 (.reg false [(cMv 8 21)]) (.block 1 (.seq (.any false 0 [⟨(cLd 22 2 true 7), [], []⟩, ⟨(cMv 23 8), [], []⟩, ⟨(cQ 24 [22,23] (.call (kF 68) [(.t 22), (.t 23)])), [], [0,1]⟩, ⟨(cFa 25 2 3), [], []⟩, ⟨(cLd 26 25 false 1), [], [3]⟩, ⟨(cB 27 .leq 24 26), [], [2,0,1,4,3]⟩]) (.keep [7,8,27] (.cond (.t 27) (.any false 3 [⟨(cLd 28 7 false 1), [], []⟩, ⟨(cLd 29 7 false 1), [], []⟩, ⟨(cZ 30 29), [], [1]⟩, ⟨(cFa 31 30 7), [], [2,1]⟩, ⟨(cLd 32 31 false 1), [], [3,2,1]⟩, ⟨(cMv 33 8), [], []⟩, ⟨⟨(some 34), none, [33], (some 0), .o (kF 16) [(.t 33)]⟩, [0,1,2,3,4], [5]⟩, ⟨⟨(some 35), none, [34], (some 1), .w (.bso 1 1 [(.z 1)] [(0,1, (.t 34))])⟩, [0,1,2,3,4], [6,5]⟩, ⟨⟨(some 36), none, [32,35], (some 2), .w (.app 1 (.t 32) (.t 35))⟩, [0], [4,3,2,1,7,6,5]⟩, ⟨(cZ 37 28), [], [0,1,2,3,4,5,6,7,8]⟩, ⟨(cFa 38 37 7), [], [9,0,1,2,3,4,5,6,7,8]⟩, ⟨⟨none, none, [38,36], none, .w (.st 1 (.t 38) (.t 36))⟩, [], [10,9,0,1,2,3,4,5,6,7,8]⟩]) .skip))))))))) (.keep [7] (.seq (.seq (.reg false [(cLd 39 7 false 1), (cZ 40 39), (cFa 41 40 7), (cLd 42 41 false 1), (cLn 43 42), (cC 44 .eql 43 0)]) (.keep [7,44] (.cond (.t 44) (.seq (.reg false [(cQ 4 [] (.mv (.k .pn))), (cI 5 3)]) .ret) .skip))) (.keep [7] (.seq (.reg false [(cLd 45 7 false 1), (cMv 4 45), (cI 5 0)]) .ret))))))))))))))
def pu52 : List Nat := [1000034,2]
def rs52 : List RV := [.t 4, .t 5]
theorem cc52 : comp Tryz.prog pu52 (Tryz.f52.ntmps, 0) 0 1 rc52 (Tryz.f52.body.getD .skip) = some rc52 := by kernel_rfl
theorem cb52 : Tryz.f52.body = some (Tryz.f52.body.getD .skip) := by kernel_rfl
theorem cs52 : resRV Tryz.prog Tryz.f52.results.toList = some rs52 := by kernel_rfl
theorem cn52 : 2 ≤ Tryz.f52.ntmps := by decide
def rc32 : RC := (.dum (.seq (.reg false [(cX 2 0), (cX 3 1), (cI 4 0), (cQ 5 [] (.mv (.k (.z 1)))), (cI 6 0)]) (.keep [2,3,23] (.seq (.reg false [(cLd 14 2 true 7), (cQ 15 [14] (.call (kF 52) [(.t 14), (kB true)])), (cMv 13 15), (cEx 16 13 0), (cEx 17 13 1), ⟨(some 7), none, [], none, .w (.alc [.pn])⟩, ⟨none, none, [7,16], none, .w (.st 1 (.t 7) (.t 16))⟩, (cMv 8 17)]) (.keep [2,3,7,8,23] (.seq (.seq (.reg false [(cMv 18 8), (cC 19 .neq 18 0)]) (.keep [2,3,7,8,19,23] (.cond (.t 19) (.seq (.reg false [(cMv 20 8), (cI 4 0), (cQ 5 [] (.mv (.k (.z 1)))), (cMv 6 20)]) .ret) .skip))) (.keep [2,3,7,23] (.seq (.reg false [⟨(some 9), none, [], none, .w (.alc [(.i 0)])⟩, ⟨(some 10), none, [], none, .w (.alc [(.z 1)])⟩, ⟨none, none, [9], none, .w (.st 1 (.t 9) (.k (.i (-1))))⟩, ⟨none, none, [10], none, .w (.st 1 (.t 10) (.k (.z 1)))⟩]) (.keep [2,3,7,9,10,23] (.seq (.seq (.reg false [(cLd 21 2 true 7), (cQ 22 [21] (.call (kF 53) [(.t 21)]))]) (.keep [3,7,9,10,22,23] (.block 0 (.rfh (.t 22) [23] 4 3 (.reg false [(cMv 11 23)]) (.block 1 (.seq (.any false 0 [⟨(cLd 24 3 false 1), [], []⟩, ⟨(cLd 25 7 false 1), [], []⟩, ⟨(cMv 26 11), [], []⟩, ⟨(cQ 27 [25,26] (.call (kF 54) [(.t 25), (.t 26), (kF 55)])), [], [1,2]⟩, ⟨(cQ 28 [24,27] (.call (.t 24) [(.t 27)])), [], [0,3,1,2]⟩, ⟨(cMv 12 28), [], [4,0,3,1,2]⟩]) (.keep [9,10,11,12] (.seq (.reg false [(cMv 29 12), (cLd 30 9 false 1), (cB 31 .gtr 29 30)]) (.keep [9,10,11,12,31] (.cond (.t 31) (.reg false [(cMv 32 12), (cMv 33 11), ⟨(some 34), none, [33], none, .o (kF 16) [(.t 33)]⟩, ⟨none, none, [9,32], none, .w (.st 1 (.t 9) (.t 32))⟩, ⟨none, none, [10,34], none, .w (.st 1 (.t 10) (.t 34))⟩]) .skip)))))))))) (.keep [9,10] (.seq (.any false 0 [⟨(cLd 35 9 false 1), [], []⟩, ⟨(cLd 36 10 false 1), [], []⟩, ⟨(cMv 4 35), [], [0]⟩, ⟨(cMv 5 36), [], [1,2,0]⟩, ⟨(cI 6 0), [], [3,1,2,0]⟩]) .ret))))))))))))
def pu32 : List Nat := [1000034,2,3]
def rs32 : List RV := [.t 4, .t 5, .t 6]
theorem cc32 : comp Tryz.prog pu32 (Tryz.f32.ntmps, 0) 0 1 rc32 (Tryz.f32.body.getD .skip) = some rc32 := by kernel_rfl
theorem cb32 : Tryz.f32.body = some (Tryz.f32.body.getD .skip) := by kernel_rfl
theorem cs32 : resRV Tryz.prog Tryz.f32.results.toList = some rs32 := by kernel_rfl
theorem cn32 : 2 ≤ Tryz.f32.ntmps := by decide
end Go.CS.R
set_option maxRecDepth 8000
namespace Go.CS
open Go.Fam Go.Proofs
def rc3 : RC := (.seq (.reg false [(cQ 6 [] (.mv (kB false)))]) (.keep [0,1,2] (.seq (.seq (.reg true [(cMv 28 0), (cLn 29 28), (cC 30 .gtr 29 6), (cMv 31 30), (gMv 32 31 false 1), (gQ 33 31 false [32] (.bin .lss (.t 32) (kI 0))), (cQ 34 [31,33] (.pick (.t 31) (kB true) (.t 33))), (cMv 35 34), (gMv 36 35 false 1), (gQ 37 35 false [36] (.bin .gtr (.t 36) (kI 90))), (cQ 38 [35,37] (.pick (.t 35) (kB true) (.t 37))), (cMv 39 38), (gMv 40 39 false 2), (gQ 41 39 false [40] (.bin .lss (.t 40) (kI 0))), (cQ 42 [39,41] (.pick (.t 39) (kB true) (.t 41))), (cMv 43 42), (gMv 44 43 false 2), (gQ 45 43 false [44] (.bin .gtr (.t 44) (kI 99))), (cQ 46 [43,45] (.pick (.t 43) (kB true) (.t 45)))]) (.keep [0,1,2,46] (.cond (.t 46) (.seq (.reg false [(cQ 47 [] (.call (kF 4) [])), (cMv 6 47)]) .ret) .skip))) (.keep [0,1,2] (.seq (.reg false [(cMv 49 0), (cQ 50 [49] (.call (kF 5) [(.t 49)])), (cMv 48 50), (cEx 51 48 0), (cEx 52 48 1), (cMv 7 51), (cMv 8 52)]) (.keep [0,1,2,7,8] (.seq (.reg false [(cMv 54 0), (cQ 55 [54] (.call (kF 6) [(.t 54)])), (cMv 53 55), (cEx 56 53 0), (cEx 57 53 1), (cMv 9 56), (cMv 10 57)]) (.keep [0,1,2,7,8,9,10] (.seq (.seq (.reg true [(cMv 58 8), (cMv 59 10), (cB 60 .neq 58 59), (cMv 61 60), (gMv 62 61 false 8), (gQ 63 61 false [62] (.bin .neq (.t 62) (kI 0))), (gMv 64 61 false 63), (gMv 65 64 true 8), (gQ 66 64 true [65] (.bin .neq (.t 65) (kI 1))), (gQ 67 61 false [64,66] (.pick (.t 64) (.t 66) (kB false))), (cQ 68 [61,67] (.pick (.t 61) (kB true) (.t 67)))]) (.keep [0,1,2,7,8,9,68] (.cond (.t 68) (.seq (.reg false [(cQ 6 [] (.mv (kB false)))]) .ret) .skip))) (.keep [0,1,2,7,8,9] (.seq (.seq (.reg false [(cMv 69 8), (cC 70 .neq 69 0)]) (.keep [0,1,2,7,9,70] (.cond (.t 70) (.seq (.reg false [(cQ 71 [] (.call (kF 4) [])), (cMv 6 71)]) .ret) .skip))) (.keep [0,1,2,7,9] (.seq (.reg false [⟨(some 72), none, [], none, .w (.bso 1 0 [(.i 0)] [])⟩, (cMv 73 0), ⟨(some 74), none, [72,73], none, .w (.app 1 (.t 72) (.t 73))⟩, (cMv 11 74)]) (.keep [0,1,2,7,9,11] (.seq (.seq (.reg false [(cI 12 0)]) (.keep [0,1,2,7,9,11,12] (.block 0 (.loop [0,1,2,7,9,11,12] none (.seq (.seq (.reg false [(cMv 75 12), (cMv 76 11), (cLn 77 76), (cB 78 .lss 75 77)]) (.keep [0,1,2,7,9,11,12,78] (.cond (.t 78) .skip (.exit 0)))) (.keep [0,1,2,7,9,11,12] (.seq (.block 1 (.reg false [(cMv 81 11), (cMv 82 12), (cMv 83 12), (cA 84 1 81 82), ⟨none, none, [84,83], none, .w (.st 1 (.t 84) (.t 83))⟩])) (.keep [0,1,2,7,9,11,12] (.reg false [(cMv 79 12), (cC 80 .add 79 1), (cMv 12 80)]))))))))) (.keep [0,1,2,7,9,11] (.seq (.drp 0 (.reg false [(cMv 85 0), (cMv 86 1), (cMv 87 2), (cQ 88 [85,86,87] (.call (kF 7) [(.t 85), (.t 86), (.t 87)])), ⟨(some 13), none, [], none, .w (.alc [(.z 2), (.z 6), (.z 1), (.z 2), (.i 0), (.i 0), (.i 0), (.i 0), (.i 0), (.i 0), (.i 0)])⟩, ⟨none, none, [13,88], none, .w (.st 11 (.t 13) (.t 88))⟩])) (.keep [0,1,2,7,9,11,13] (.seq (.reg false [(cLd 90 13 true 11), (cMv 91 0), (cLn 92 91), (cQ 93 [90,92] (.call (kF 8) [(.t 90), (.t 92)])), (cMv 89 93), (cEx 94 89 0), (cEx 95 89 1), (cMv 14 94), (cMv 15 95)]) (.keep [0,1,2,7,9,11,13,14,15] (.seq (.reg false [(cMv 97 11), (cMv 98 1), (cMv 99 2), (cQ 100 [97,98,99] (.call (kF 7) [(.t 97), (.t 98), (.t 99)])), (cMv 101 0), (cLn 102 101), (cQ 103 [100,102] (.call (kF 8) [(.t 100), (.t 102)])), (cMv 96 103), (cEx 104 96 0), (cEx 105 96 1), (cMv 16 104), (cMv 17 105)]) (.keep [0,1,2,7,9,13,14,15,16,17] (.seq (.seq (.reg true [(cMv 106 15), (cN 107 106), (cMv 108 107), (gMv 109 108 false 17), (gQ 110 108 false [109] (.not (.t 109))), (cQ 111 [108,110] (.pick (.t 108) (kB true) (.t 110))), (cMv 112 111), (gMv 113 112 false 14), (gMv 114 112 false 16), (gQ 115 112 false [113,114] (.bin .neq (.t 113) (.t 114))), (cQ 116 [112,115] (.pick (.t 112) (kB true) (.t 115))), (cMv 117 116), (gMv 118 117 false 9), (gQ 119 117 false [118] (.len (.t 118))), (gMv 120 117 false 7), (gQ 121 117 false [119,120] (.bin .neq (.t 119) (.t 120))), (cQ 122 [117,121] (.pick (.t 117) (kB true) (.t 121)))]) (.keep [0,1,2,7,9,13,14,122] (.cond (.t 122) (.seq (.reg false [(cQ 6 [] (.mv (kB false)))]) .ret) .skip))) (.keep [0,1,2,7,9,13,14] (.seq (.reg false [(cLd 124 13 true 11), (cQ 125 [124] (.call (kF 9) [(.t 124), (kI 200)])), (cMv 123 125), (cEx 126 123 0), (cEx 127 123 1), ⟨(some 18), none, [], none, .w (.alc [(.i 0), (.i 0)])⟩, ⟨none, none, [18,126], none, .w (.st 2 (.t 18) (.t 126))⟩, (cMv 19 127)]) (.keep [0,1,2,7,9,13,14,18,19] (.seq (.seq (.reg true [(cMv 128 19), (cC 129 .neq 128 0), (cMv 130 129), (gQ 131 130 false [18] (.ld true 2 (.t 18))), (gQ 132 130 false [] (.bld [(.i 0), (.i 0)] [])), (gQ 133 130 false [131,132] (.eqs true 40 (.t 131) (.t 132))), (cQ 134 [130,133] (.pick (.t 130) (kB true) (.t 133)))]) (.keep [0,1,2,7,9,13,14,134] (.cond (.t 134) (.seq (.reg false [(cQ 6 [] (.mv (kB false)))]) .ret) .skip))) (.keep [0,1,2,7,9,13,14] (.seq (.seq (.reg false [(cI 20 0)]) (.keep [0,1,2,7,9,13,14,20] (.block 2 (.loop [0,1,2,7,9,13,14,20] none (.seq (.seq (.reg false [(cMv 135 20), (cMv 136 0), (cLn 137 136), (cB 138 .lss 135 137)]) (.keep [0,1,2,7,9,13,14,20,138] (.cond (.t 138) .skip (.exit 2)))) (.keep [0,1,2,7,9,13,14,20] (.seq (.block 3 (.seq (.reg false [(cLd 142 13 true 11), (cMv 143 20), (cQ 144 [142,143] (.call (kF 10) [(.t 142), (.t 143), (kI 200)])), (cMv 141 144), (cEx 145 141 0), (cEx 146 141 1), (cMv 21 145), (cMv 22 146)]) (.keep [0,1,2,7,9,13,14,20,21,22] (.seq (.reg true [(cMv 147 22), (cC 148 .neq 147 0), (cMv 149 148), (gMv 150 149 false 21), (gQ 151 149 false [150] (.len (.t 150))), (gQ 152 149 false [151] (.bin .neq (.t 151) (kI 1))), (cQ 153 [149,152] (.pick (.t 149) (kB true) (.t 152))), (cMv 154 153), (gMv 155 154 false 21), (gQ 156 154 false [155] (.iad 1 (.t 155) (kI 0))), (gQ 157 154 false [156] (.ld false 1 (.t 156))), (gQ 158 154 false [157] (.bin .neq (.t 157) (.k (.i (-1))))), (cQ 159 [154,158] (.pick (.t 154) (kB true) (.t 158)))]) (.keep [0,1,2,7,9,13,14,20,159] (.cond (.t 159) (.seq (.reg false [(cQ 6 [] (.mv (kB false)))]) .ret) .skip)))))) (.keep [0,1,2,7,9,13,14,20] (.reg false [(cMv 139 20), (cC 140 .add 139 1), (cMv 20 140)]))))))))) (.keep [0,1,2,7,9,14] (.seq (.seq (.reg false [(cMv 160 7), (cC 161 .eql 160 0)]) (.keep [0,1,2,7,9,14,161] (.cond (.t 161) (.seq (.reg false [(cQ 162 [] (.call (kF 4) [])), (cMv 6 162)]) .ret) .skip))) (.keep [0,1,2,7,9,14] (.seq (.seq (.any true 0 [⟨(cMv 163 9), [], []⟩, ⟨(cQ 164 [163] (.iad 1 (.t 163) (kI 0))), [], [0]⟩, ⟨(cLd 165 164 false 1), [], [1,0]⟩, ⟨(cLn 166 165), [], [2,1,0]⟩, ⟨(cC 167 .neq 166 2), [], [3,2,1,0]⟩, ⟨(cMv 168 167), [], [4,3,2,1,0]⟩, ⟨(gMv 169 168 false 9), [], [5,4,3,2,1,0]⟩, ⟨(gQ 170 168 false [169] (.iad 1 (.t 169) (kI 0))), [], [6,5,4,3,2,1,0]⟩, ⟨(gQ 171 168 false [170] (.ld false 1 (.t 170))), [], [7,6,5,4,3,2,1,0]⟩, ⟨(gQ 172 168 false [171] (.iad 1 (.t 171) (kI 0))), [], [8,7,6,5,4,3,2,1,0]⟩, ⟨(gQ 173 168 false [172] (.ld false 1 (.t 172))), [], [9,8,7,6,5,4,3,2,1,0]⟩, ⟨(gQ 174 168 false [173] (.bin .lss (.t 173) (kI 0))), [], [10,9,8,7,6,5,4,3,2,1,0]⟩, ⟨(cQ 175 [168,174] (.pick (.t 168) (kB true) (.t 174))), [], [5,4,3,2,1,0,11,10,9,8,7,6]⟩, ⟨(cMv 176 175), [], [12,5,4,3,2,1,0,11,10,9,8,7,6]⟩, ⟨(gMv 177 176 false 9), [], [13,12,5,4,3,2,1,0,11,10,9,8,7,6]⟩, ⟨(gQ 178 176 false [177] (.iad 1 (.t 177) (kI 0))), [], [14,13,12,5,4,3,2,1,0,11,10,9,8,7,6]⟩, ⟨(gQ 179 176 false [178] (.ld false 1 (.t 178))), [], [15,14,13,12,5,4,3,2,1,0,11,10,9,8,7,6]⟩, ⟨(gQ 180 176 false [179] (.iad 1 (.t 179) (kI 0))), [], [16,15,14,13,12,5,4,3,2,1,0,11,10,9,8,7,6]⟩, ⟨(gQ 181 176 false [180] (.ld false 1 (.t 180))), [], [17,16,15,14,13,12,5,4,3,2,1,0,11,10,9,8,7,6]⟩, ⟨(gMv 182 176 false 9), [], [13,12,5,4,3,2,1,0,11,10,9,8,7,6]⟩, ⟨(gQ 183 176 false [182] (.iad 1 (.t 182) (kI 0))), [], [19,13,12,5,4,3,2,1,0,11,10,9,8,7,6]⟩, ⟨(gQ 184 176 false [183] (.ld false 1 (.t 183))), [], [20,19,13,12,5,4,3,2,1,0,11,10,9,8,7,6]⟩, ⟨(gQ 185 176 false [184] (.iad 1 (.t 184) (kI 1))), [], [21,20,19,13,12,5,4,3,2,1,0,11,10,9,8,7,6]⟩, ⟨(gQ 186 176 false [185] (.ld false 1 (.t 185))), [], [22,21,20,19,13,12,5,4,3,2,1,0,11,10,9,8,7,6]⟩, ⟨(gQ 187 176 false [181,186] (.bin .geq (.t 181) (.t 186))), [], [18,17,16,15,14,13,12,5,4,3,2,1,0,11,10,9,8,7,6,23,22,21,20,19]⟩, ⟨(cQ 188 [176,187] (.pick (.t 176) (kB true) (.t 187))), [], [13,12,5,4,3,2,1,0,11,10,9,8,7,6,24,18,17,16,15,14,23,22,21,20,19]⟩, ⟨(cMv 189 188), [], [25,13,12,5,4,3,2,1,0,11,10,9,8,7,6,24,18,17,16,15,14,23,22,21,20,19]⟩, ⟨(gMv 190 189 false 9), [], [26,25,13,12,5,4,3,2,1,0,11,10,9,8,7,6,24,18,17,16,15,14,23,22,21,20,19]⟩, ⟨(gQ 191 189 false [190] (.iad 1 (.t 190) (kI 0))), [], [27,26,25,13,12,5,4,3,2,1,0,11,10,9,8,7,6,24,18,17,16,15,14,23,22,21,20,19]⟩, ⟨(gQ 192 189 false [191] (.ld false 1 (.t 191))), [], [28,27,26,25,13,12,5,4,3,2,1,0,11,10,9,8,7,6,24,18,17,16,15,14,23,22,21,20,19]⟩, ⟨(gQ 193 189 false [192] (.iad 1 (.t 192) (kI 1))), [], [29,28,27,26,25,13,12,5,4,3,2,1,0,11,10,9,8,7,6,24,18,17,16,15,14,23,22,21,20,19]⟩, ⟨(gQ 194 189 false [193] (.ld false 1 (.t 193))), [], [30,29,28,27,26,25,13,12,5,4,3,2,1,0,11,10,9,8,7,6,24,18,17,16,15,14,23,22,21,20,19]⟩, ⟨(gMv 195 189 false 0), [], [26,25,13,12,5,4,3,2,1,0,11,10,9,8,7,6,24,18,17,16,15,14,23,22,21,20,19]⟩, ⟨(gQ 196 189 false [195] (.len (.t 195))), [], [32,26,25,13,12,5,4,3,2,1,0,11,10,9,8,7,6,24,18,17,16,15,14,23,22,21,20,19]⟩, ⟨(gQ 197 189 false [194,196] (.bin .geq (.t 194) (.t 196))), [], [31,30,29,28,27,26,25,13,12,5,4,3,2,1,0,11,10,9,8,7,6,24,18,17,16,15,14,23,22,21,20,19,33,32]⟩, ⟨(cQ 198 [189,197] (.pick (.t 189) (kB true) (.t 197))), [], [26,25,13,12,5,4,3,2,1,0,11,10,9,8,7,6,24,18,17,16,15,14,23,22,21,20,19,34,31,30,29,28,27,33,32]⟩]) (.keep [0,1,2,7,9,14,198] (.cond (.t 198) (.seq (.reg false [(cQ 6 [] (.mv (kB false)))]) .ret) .skip))) (.keep [0,1,2,7,9,14] (.seq (.reg false [⟨(some 199), none, [], none, .w (.bso 1 0 [(.i 0)] [])⟩, (cMv 200 0), ⟨(some 201), none, [199,200], none, .w (.app 1 (.t 199) (.t 200))⟩, (cMv 23 201)]) (.keep [0,1,2,7,9,14,23] (.seq (.any false 0 [⟨(cMv 202 23), [], []⟩, ⟨(cMv 203 9), [], []⟩, ⟨(cQ 204 [203] (.iad 1 (.t 203) (kI 0))), [], [1]⟩, ⟨(cLd 205 204 false 1), [], [2,1]⟩, ⟨(cQ 206 [205] (.iad 1 (.t 205) (kI 0))), [], [3,2,1]⟩, ⟨(cLd 207 206 false 1), [], [4,3,2,1]⟩, ⟨(cMv 208 23), [], []⟩, ⟨(cMv 209 9), [], []⟩, ⟨(cQ 210 [209] (.iad 1 (.t 209) (kI 0))), [], [7]⟩, ⟨(cLd 211 210 false 1), [], [8,7]⟩, ⟨(cQ 212 [211] (.iad 1 (.t 211) (kI 1))), [], [9,8,7]⟩, ⟨(cLd 213 212 false 1), [], [10,9,8,7]⟩, ⟨(cMv 214 0), [], []⟩, ⟨(cMv 215 9), [], []⟩, ⟨(cQ 216 [215] (.iad 1 (.t 215) (kI 0))), [], [13]⟩, ⟨(cLd 217 216 false 1), [], [14,13]⟩, ⟨(cQ 218 [217] (.iad 1 (.t 217) (kI 1))), [], [15,14,13]⟩, ⟨(cLd 219 218 false 1), [], [16,15,14,13]⟩, ⟨(cA 220 1 214 219), [], [12,17,16,15,14,13]⟩, ⟨(cLd 221 220 false 1), [], [18,12,17,16,15,14,13]⟩, ⟨(cMv 222 0), [], []⟩, ⟨(cMv 223 9), [], []⟩, ⟨(cQ 224 [223] (.iad 1 (.t 223) (kI 0))), [], [21]⟩, ⟨(cLd 225 224 false 1), [], [22,21]⟩, ⟨(cQ 226 [225] (.iad 1 (.t 225) (kI 0))), [], [23,22,21]⟩, ⟨(cLd 227 226 false 1), [], [24,23,22,21]⟩, ⟨(cA 228 1 222 227), [], [20,25,24,23,22,21]⟩, ⟨(cLd 229 228 false 1), [], [26,20,25,24,23,22,21]⟩, ⟨(cA 230 1 202 207), [], [0,5,4,3,2,1,9,8,7,11,10,12,13,14,15,16,17,18,19,23,22,21,25,24,27,26,20]⟩, ⟨⟨none, none, [230,221], none, .w (.st 1 (.t 230) (.t 221))⟩, [6], [28,0,5,4,3,2,1,9,8,7,11,10,12,13,14,15,16,17,18,19,23,22,21,25,24,27,26,20]⟩, ⟨(cA 231 1 208 213), [], [6,11,10,9,8,7,0,1,2,3,4,5,12,13,14,15,16,17,18,19,20,21,22,23,24,25,26,27,28,29]⟩, ⟨⟨none, none, [231,229], none, .w (.st 1 (.t 231) (.t 229))⟩, [], [30,6,11,10,9,8,7,0,1,2,3,4,5,12,13,14,15,16,17,18,19,20,21,22,23,24,25,26,27,28,29]⟩]) (.keep [0,1,2,7,14,23] (.seq (.drp 0 (.reg false [(cMv 233 23), (cQ 234 [233] (.call (kF 5) [(.t 233)])), (cMv 232 234), (cEx 235 232 0), (cEx 236 232 1), (cMv 24 235), (cMv 25 236)])) (.keep [0,1,2,7,14,23,24,25] (.seq (.reg false [(cMv 238 23), (cMv 239 1), (cMv 240 2), (cQ 241 [238,239,240] (.call (kF 7) [(.t 238), (.t 239), (.t 240)])), (cMv 242 0), (cLn 243 242), (cQ 244 [241,243] (.call (kF 8) [(.t 241), (.t 243)])), (cMv 237 244), (cEx 245 237 0), (cEx 246 237 1), (cMv 26 245), (cMv 27 246)]) (.keep [7,14,24,25,26,27] (.seq (.reg true [(cMv 247 25), (cC 248 .eql 247 0), (cMv 249 248), (gMv 250 249 true 24), (gMv 251 249 true 7), (gQ 252 249 true [251] (.bin .sub (.t 251) (kI 1))), (gQ 253 249 true [250,252] (.bin .eql (.t 250) (.t 252))), (cQ 254 [249,253] (.pick (.t 249) (.t 253) (kB false))), (cMv 255 254), (gMv 256 255 true 27), (cQ 257 [255,256] (.pick (.t 255) (.t 256) (kB false))), (cMv 258 257), (gMv 259 258 true 26), (gMv 260 258 true 14), (gQ 261 258 true [259,260] (.bin .eql (.t 259) (.t 260))), (cQ 262 [258,261] (.pick (.t 258) (.t 261) (kB false))), (cMv 263 262), (gQ 264 263 true [] (.call (kF 4) [])), (cQ 265 [263,264] (.pick (.t 263) (.t 264) (kB false))), (cMv 6 265)]) .ret)))))))))))))))))))))))))))))))))))))))))))
def pu3 : List Nat := []
def rs3 : List RV := [.t 6]
theorem cc3 : comp Tryz.prog pu3 (Tryz.f3.ntmps, 0) 0 1 rc3 (Tryz.f3.body.getD .skip) = some rc3 := by kernel_rfl
theorem cb3 : Tryz.f3.body = some (Tryz.f3.body.getD .skip) := by kernel_rfl
theorem cs3 : resRV Tryz.prog Tryz.f3.results.toList = some rs3 := by kernel_rfl
theorem cn3 : 3 ≤ Tryz.f3.ntmps := by decide
end Go.CS
namespace Go.C06
open Go.Fam
structure Span where
 low : Int
 high : Int
 deriving DecidableEq
def eI (n : Int) : List V := [.i n]
def eIs (l : List Int) : V := .sl 1 (l.map eI)
def eSpan (s : Span) : List V := [.i s.low, .i s.high]
def gI : V → Int | .i n => n | _ => 0
def gR : V → List (List V) | .sl _ r => r | _ => []
def dI (r : List V) : Int := gI (r.headD .u)
theorem dI_eI (n : Int) : dI (eI n) = n := rfl
theorem spanE (s : Span) : (⟨s.low, s.high⟩ : Span) = s := rfl
def fnG {A B : Type} (e : A → List V) (d : List V → A) (ok : A → Prop) (g : A → B) (eb : B → V) : List V → Prop × V := fun vs => (e (d vs) = vs ∧ ok (d vs), eb (g (d vs)))
theorem fnG_ok {P : Program} {A B : Type} {e : A → List V} {d : List V → A} {ok : A → Prop} {g : A → B} {eb : B → V} {f : Nat} (h : ∀ a, ok a → PureCall P f (e a) (eb (g a))) (vs : List V) (hv : (fnG e d ok g eb vs).1) :
  PureCall P f vs (fnG e d ok g eb vs).2 := by
 have := h (d vs) hv.2
 rw [hv.1] at this
 exact this
theorem fnG_at {A B : Type} {e : A → List V} {d : List V → A} {ok : A → Prop} {g : A → B} {eb : B → V} (a : A) (h : d (e a) = a) : fnG e d ok g eb (e a) = (ok a, eb (g a)) := by
 simp [fnG, h]
def within (n lo hi : Int) : Bool := decide (lo ≤ n) && decide (n ≤ hi)
theorem take_succ_of {α : Type} {l : List α} {i : Nat} {x : α} (h : l[i]? = some x) : l.take (i + 1) = l.take i ++ [x] := by
 rw [List.take_add_one, h]; rfl
def idxOf {α : Type} (p : α → Bool) (l : List α) : Int := if l.any p then (l.findIdx p : Int) else -1
theorem idxOf_at {α : Type} {p : α → Bool} {l : List α} {i : Nat} {x : α} (hx : l[i]? = some x) (e : p x = true) (hc : ∀ j x, j < i → l[j]? = some x → p x = false) : idxOf p l = i := by
 have h1 : l.any p = true := List.any_eq_true.2 ⟨x, List.mem_of_getElem? hx, e⟩
 have hl := getElemLt hx
 have h2 : l[i] = x := by have := List.getElem?_eq_getElem hl; rw [this] at hx; exact Option.some.inj hx
 have h3 : l.findIdx p = i := (List.findIdx_eq hl).2 ⟨by rw [h2]; exact e, fun j hj => hc j _ hj (List.getElem?_eq_getElem (by omega))⟩
 simp [idxOf, h1, h3]
theorem idxOf_none {α : Type} {p : α → Bool} {l : List α} (h : ∀ x ∈ l, p x = false) : idxOf p l = -1 := by
 have : l.any p = false := by simpa using h
 simp [idxOf, this]
theorem idxOf_any {α : Type} (p : α → Bool) (l : List α) : decide (0 ≤ idxOf p l) = l.any p := by
 unfold idxOf
 cases h : l.any p <;> simp
theorem flat_len {α : Type} {e : α → List V} {k : Nat} (h : ∀ x, (e x).length = k) : ∀ l : List α, ((l.map e).flatten).length = l.length * k
 | [] => by simp
 | x :: l => by rw [List.map_cons, List.flatten_cons, List.length_append, h, flat_len h l, List.length_cons, Nat.succ_mul]; omega
mutual
theorem cutV_noref (hp : List Blk) (n : Nat) : ∀ v : V, hasRef v = false → cutV hp n v = v
 | .u, _ | .b _, _ | .i _, _ | .z _, _ | .sl _ _, _ | .sx _ _, _ | .pa _, _ | .pn, _ | .yl _, _ | .w _ _, _ | .pm _ _ _, _ | .fb _ _, _ => by simp [cutV]
 | .ag cs, h | .tp cs, h => by simp only [hasRef] at h; simp only [cutV, cutL_noref hp n cs h]
 | .fn f cs, h => by simp only [hasRef] at h; simp only [cutV, cutL_noref hp n cs h]
 | .gv q v, h => by simp only [hasRef] at h; simp only [cutV, cutV_noref hp n v h]
 | .ad _ _ _, h | .rf _ _ _ _ _, h | .mp _ _, h | .it _ _, h => by simp [hasRef] at h
theorem cutL_noref (hp : List Blk) (n : Nat) : ∀ vs : List V, hasRefL vs = false → cutL hp n vs = vs
 | [], _ => rfl
 | v :: vs, h => by
  simp only [hasRefL, Bool.or_eq_false_iff] at h
  simp only [cutL, cutV_noref hp n v h.1, cutL_noref hp n vs h.2]
end
theorem hasRefL_append : ∀ (a b : List V), hasRefL (a ++ b) = (hasRefL a || hasRefL b)
 | [], b => by simp [hasRefL]
 | v :: a, b => by simp only [List.cons_append, hasRefL, hasRefL_append a b, Bool.or_assoc]
mutual
theorem upV_noref (n : Nat) : ∀ v : V, hasRef v = false → upV n v = v
 | .u, _ | .b _, _ | .i _, _ | .z _, _ | .sl _ _, _ | .sx _ _, _ | .pa _, _ | .pn, _ | .yl _, _ | .w _ _, _ | .pm _ _ _, _ | .fb _ _, _ => by simp [upV]
 | .ag cs, h | .tp cs, h => by simp only [hasRef] at h; simp only [upV, upL_noref n cs h]
 | .fn f cs, h => by simp only [hasRef] at h; simp only [upV, upL_noref n cs h]
 | .gv q v, h => by simp only [hasRef] at h; simp only [upV, upV_noref n v h]
 | .ad _ _ _, h | .rf _ _ _ _ _, h | .mp _ _, h | .it _ _, h => by simp [hasRef] at h
theorem upL_noref (n : Nat) : ∀ vs : List V, hasRefL vs = false → upL n vs = vs
 | [], _ => rfl
 | v :: vs, h => by
  simp only [hasRefL, Bool.or_eq_false_iff] at h
  simp only [upL, upV_noref n v h.1, upL_noref n vs h.2]
end
theorem hasRefL_flat {α : Type} {e : α → List V} (h : ∀ x, hasRefL (e x) = false) : ∀ l : List α, hasRefL (l.map e).flatten = false
 | [] => rfl
 | x :: l => by simp only [List.map_cons, List.flatten_cons, hasRefL_append, h, hasRefL_flat h l, Bool.or_false]
theorem chunk_flat {α : Type} {e : α → List V} {k : Nat} (h : ∀ x, (e x).length = k) : ∀ (l : List α), chunk k ((l.map e).flatten) 0 l.length = l.map e
 | [] => by simp [chunk]
 | x :: l => by
  rw [List.length_cons, chunk_succ, List.map_cons, List.flatten_cons, Nat.zero_add, List.drop_zero]
  have e1 : (e x ++ (l.map e).flatten).take k = e x := by rw [List.take_append_of_le_length (by rw [h]; exact Nat.le_refl _), List.take_of_length_le (by rw [h]; exact Nat.le_refl _)]
  rw [e1]
  congr 1
  have ih := chunk_flat h l
  unfold chunk at ih ⊢
  conv => rhs; rw [← ih]
  apply List.map_congr_left
  intro j _
  congr 1
  have e2 : k + j * k = (e x).length + j * k := by rw [h]
  rw [e2, List.drop_append, Nat.zero_add]
  simp
theorem map_vw_rows {α : Type} {e : α → List V} (hp : List Blk) (n : Nat) (h : ∀ x, (e x).map (vw hp n) = e x) (l : List α) : (l.map e).map (fun r => r.map (vw hp n)) = l.map e := by
 rw [List.map_map]
 exact List.map_congr_left fun x _ => h x
theorem drop_cons {α : Type} {l : List α} {k : Nat} {x : α} (h : l[k]? = some x) : l.drop k = x :: l.drop (k + 1) := by
 have hl := getElemLt h
 rw [List.drop_eq_getElem_cons hl]
 rw [List.getElem?_eq_getElem hl] at h
 rw [Option.some.inj h]
theorem chunk_I (l : List Int) : chunk 1 ((l.map eI).flatten) 0 l.length = l.map eI := chunk_flat (e := eI) (k := 1) (fun _ => rfl) l
theorem len_I (l : List Int) : ((l.map eI).flatten).length = l.length * 1 := flat_len (e := eI) (k := 1) (fun _ => rfl) l
theorem vw_I (hp : List Blk) (n : Nat) (l : List Int) : (l.map eI).map (fun r => r.map (vw hp (n + 1))) = l.map eI := map_vw_rows (e := eI) hp (n + 1) (fun _ => rfl) l
theorem noref_I (l : List Int) : hasRefL ((l.map eI).flatten) = false := hasRefL_flat (e := eI) (fun _ => rfl) l
theorem ru_countE {Γ : Gam} {E : TypeId → Nat → Prop} {Q : Exit → St → Prop} {σ : St} {α : Type} {l : List Nat} {d : Option Nat} {a : RC} (n : Nat) (S : Nat → α → St) (C : Nat → α → Prop) (x0 : α) (h0 : kp l d σ = S 0 x0) (c0 : C 0 x0)
  (hs : ∀ i x, i < n → C i x → wpR Γ E a (thenQ (fun σ'' => ∃ y, C (i + 1) y ∧ kp l d σ'' = S (i + 1) y) Q) (S i x)) (hn : ∀ x, C n x → wpR Γ E a (thenQ (fun _ => False) Q) (S n x)) : wpR Γ E (.loop l d a) Q σ := by
 refine ru_loop (fun k σ => ∃ (i : Nat) (x : α), i ≤ n ∧ k = n - i ∧ C i x ∧ σ = S i x) ⟨n, 0, x0, Nat.zero_le _, rfl, c0, h0⟩ ?_
 rintro k _ ⟨i, x, hi, rfl, hc, rfl⟩
 rcases Nat.lt_or_ge i n with h | h
 ·refine wpR_mono _ _ _ _ (fun e σ he => ?_) (hs i x h hc)
  cases e <;> first | exact he | skip
  obtain ⟨y, hc', hk⟩ := he
  exact ⟨n - (i + 1), by omega, i + 1, y, h, rfl, hc', hk⟩
 ·have : i = n := by omega
  subst this
  refine wpR_mono _ _ _ _ (fun e σ he => ?_) (hn x hc)
  cases e <;> first | exact he | exact he.elim
end Go.C06
namespace Go.C06
open Go.Fam Go.Proofs
theorem hmix : Tryz.prog.follows .mixedOrders = true := by kernel_rfl
structure Bent where
 bend : Int
 back : Span
 deriving DecidableEq
structure Cane where
 spring : Span
 bents : List Bent
 wrong : Int
 limit : Int
 tire : Int
 deriving DecidableEq
def eLI (a : List Int × Int) : List V := [.sl 1 (a.1.map eI), .i a.2]
def dLI : List V → List Int × Int | [.sl _ l, .i n] => (l.map dI, n) | _ => ([], 0)
theorem dLI_e (a : List Int × Int) : dLI (eLI a) = a := by obtain ⟨s, n⟩ := a; simp [dLI, eLI, Function.comp_def, dI_eI]
end Go.C06
namespace Go.C06
open Go.Fam Go.Proofs
variable {Γ : Gam}
end Go.C06
namespace Go.C06
open Go.Fam Go.Proofs
variable {Γ : Gam}
def mostN (c : Cane) (i : Int) : Int := min 90 (c.limit - c.tire * i)
end Go.C06
namespace Go.C06
open Go.Fam Go.Proofs
variable {Γ : Gam}
end Go.C06
namespace Go.C06
open Go.Fam Go.Proofs
variable {Γ : Gam}
end Go.C06
namespace Go.C06
open Go.Fam Go.Proofs
def Poss (c : Cane) (l : List Int) : Prop := ∀ i : Nat, i < l.length → 1 ≤ l.getD i 0 ∧ l.getD i 0 ≤ mostN c i
theorem most_le (c : Cane) (i : Int) : mostN c i ≤ 90 := by unfold mostN; omega
theorem Poss.in_ {c : Cane} {l : List Int} (h : Poss c l) : ∀ n ∈ l, 1 ≤ n ∧ n ≤ 90 := by
 intro n hn
 obtain ⟨i, hi, rfl⟩ := List.mem_iff_getElem.1 hn
 have := h i hi
 rw [List.getD_eq_getElem?_getD, List.getElem?_eq_getElem hi] at this
 have h2 := most_le c i
 simp only [Option.getD_some] at this
 omega
end Go.C06
namespace Go.C06
open Go.Fam Go.Proofs
variable {Γ : Gam}
end Go.C06
namespace Go.C06
open Go.Fam Go.Proofs
variable {Γ : Gam}
end Go.C06
namespace Go.C06
open Go.Fam Go.Proofs
variable {Γ : Gam}
def RIt (al : List V → Prop) (xs : List V) (r : V) (hp : List Blk) : Prop :=
 ∃ (b : Bool) (bv : List V) (rest : List (List V)) (tl : List Blk), hp = .gh xs (some ((.b b :: bv) :: rest)) :: (bv.map vB ++ tl) ∧ (b = true → rest = []) ∧ al bv
end Go.C06
namespace Go.C06
open Go.Fam Go.Proofs
variable {Γ : Gam}
end Go.C06
namespace Go.C06
open Go.Fam Go.Proofs
variable {Γ : Gam}
end Go.C06
namespace Go.C06
open Go.Fam Go.Proofs
variable {Γ : Gam}
theorem flat_I (l : List Int) : (l.map eI).flatten = l.map V.i := by
 induction l with
 | nil => rfl
 | cons x l ih => simp [eI] at ih ⊢; exact ih
theorem hdD (l : List Int) (k : Nat) (h : k < l.length) : ((l.map V.i).drop k).headD .u = .i (l.getD k 0) := by
 rw [List.headD_eq_head?_getD, List.head?_drop, List.getElem?_map, List.getElem?_eq_getElem h, List.getD_eq_getElem?_getD, List.getElem?_eq_getElem h]; rfl
theorem putI (l : List Int) (k : Nat) (x : Int) (h : k < l.length) : (l.map V.i).take k ++ [V.i x] ++ (l.map V.i).drop (k + 1) = (l.set k x).map V.i := by
 have := putAt_set k (.i x) (l.map V.i) (by simpa using h)
 rw [List.map_set, ← this]; rfl
theorem chunkI (l : List Int) : chunk 1 (l.map V.i) 0 l.length = l.map eI := by rw [← flat_I]; exact chunk_I l
theorem noref_Is (l : List Int) : hasRefL (l.map V.i) = false := by rw [← flat_I]; exact noref_I l
end Go.C06
namespace Go.C06
open Go.Fam Go.Proofs
variable {Γ : Gam}
end Go.C06
namespace Go.C06
open Go.Fam Go.Proofs
variable {Γ : Gam}
end Go.C06
namespace Go.C06
open Go.Fam Go.Proofs
variable {Γ : Gam}
end Go.C06
namespace Go.C06
open Go.Fam Go.Proofs
end Go.C06
namespace Go.C06
open Go.Fam Go.Proofs
variable {Γ : Gam}
end Go.C06
namespace Go.C06
open Go.Fam Go.Proofs
variable {Γ : Gam}
end Go.C06
namespace Go.C06
open Go.Fam Go.Proofs
end Go.C06
namespace Go.C06
open Go.Fam Go.Proofs Go.RowKit
end Go.C06
namespace Go.C06
open Go.Fam Go.Proofs
variable {Γ : Gam}
end Go.C06
namespace Go.C06
open Go.Fam Go.Proofs
variable {Γ : Gam}
structure IsOrd (n : Nat) (l : List Int) : Prop where
 len : l.length = n
 in_ : ∀ x ∈ l, 0 ≤ x ∧ x < n
 nodup : l.Nodup
instance (n : Nat) (l : List Int) : Decidable (IsOrd n l) := decidable_of_iff (l.length = n ∧ (∀ x ∈ l, 0 ≤ x ∧ x < n) ∧ l.Nodup) ⟨fun h => ⟨h.1, h.2.1, h.2.2⟩, fun h => ⟨h.1, h.2, h.3⟩⟩
end Go.C06
namespace Go.C06
open Go.Fam Go.Proofs
variable {Γ : Gam}
end Go.C06
namespace Go.C06
open Go.Fam Go.Proofs
end Go.C06
set_option maxHeartbeats 4000000
namespace Go.CS
open Go.Fam Go.Proofs
open Go.C06 (Span eI eIs eSpan gI gR dI dI_eI spanE fnG fnG_ok fnG_at within take_succ_of idxOf idxOf_at idxOf_none idxOf_any flat_len chunk_flat map_vw_rows hasRefL_flat drop_cons chunk_I len_I vw_I noref_I hmix eLI dLI dLI_e ru_countE)
structure Spare where
 kind : Int
 sect : Int
 len : Span
 deriving DecidableEq
structure Slot where
 kind : Int
 secs : List Int
 len : Span
 deriving DecidableEq
structure Trial where
 spare : Int
 make : Int
 slot : Int
 fits : Int
 deriving DecidableEq
structure Work where
 spares : List Spare
 makes : List (List Slot)
 cut : Int
 table : List Trial
 deriving DecidableEq
structure Piece where
 color : Int
 size : Int
 letter : Int
 make : Int
 broken : List Int
 deriving DecidableEq
structure Wish where
 colors : List Int
 size : Span
 letter : Int
 due : Int
 price : Int
 deriving DecidableEq
structure Del where
 day : Int
 spare : Int
 many : Int
 deriving DecidableEq
structure Shop where
 work : Work
 stock : List Int
 pieces : List Piece
 wishes : List Wish
 dels : List Del
 carve : Int
 deriving DecidableEq
def eSpare (s : Spare) : List V := [.i s.kind, .i s.sect, .i s.len.low, .i s.len.high]
def eSlot (t : Slot) : List V := [.i t.kind, .sl 1 (t.secs.map eI), .i t.len.low, .i t.len.high]
def eMake (m : List Slot) : List V := [.sl 4 (m.map eSlot)]
def eTrial (t : Trial) : List V := [.i t.spare, .i t.make, .i t.slot, .i t.fits]
def eWork (w : Work) : List V := [.sl 4 (w.spares.map eSpare), .sl 1 (w.makes.map eMake), .i w.cut, .sl 4 (w.table.map eTrial)]
def ePiece (p : Piece) : List V := [.i p.color, .i p.size, .i p.letter, .i p.make, .sl 1 (p.broken.map eI)]
def eWish (x : Wish) : List V := [.sl 1 (x.colors.map eI), .i x.size.low, .i x.size.high, .i x.letter, .i x.due, .i x.price]
def eDel (d : Del) : List V := [.i d.day, .i d.spare, .i d.many]
def eShop (s : Shop) : List V := [.sl 4 (s.work.spares.map eSpare), .sl 1 (s.work.makes.map eMake), .i s.work.cut, .sl 4 (s.work.table.map eTrial), .sl 1 (s.stock.map eI), .sl 5 (s.pieces.map ePiece), .sl 6 (s.wishes.map eWish), .sl 3 (s.dels.map eDel), .i s.carve]
def ascB : List Int → Bool
 | x :: y :: r => decide (x < y) && ascB (y :: r)
 | _ => true
end Go.CS
namespace Go.CS
open Go.Fam Go.Proofs
open Go.C06 (Span eI eSpan)
theorem eSpan_e (s : Span) : eSpan s = [.i s.low, .i s.high] := rfl
def BL := And.intro BU2 (And.intro @eI.eq_1 (And.intro @eSpan_e (And.intro @eSpare.eq_1 (And.intro @eSlot.eq_1 (And.intro @eMake.eq_1 (And.intro @eTrial.eq_1 (And.intro @eWork.eq_1 (And.intro @ePiece.eq_1 (And.intro @eWish.eq_1 (And.intro @eDel.eq_1 @eShop.eq_1))))))))))
end Go.CS
set_option maxHeartbeats 4000000
namespace Go.CS
open Go.Fam Go.Proofs
open Go.C06 (Span eI eIs eSpan gI gR dI dI_eI spanE fnG fnG_ok fnG_at within take_succ_of idxOf idxOf_at idxOf_none idxOf_any flat_len chunk_flat map_vw_rows hasRefL_flat drop_cons chunk_I len_I vw_I noref_I hmix eLI dLI dLI_e ru_countE cutL_noref hasRefL_append upL_noref)
variable {Γ : Gam}
open Go.ChangeAt
variable {H : Type} {enc : TypeId × Value → H} {W : World}
theorem uInt : Tryz.prog.underlying 3 = some (.int .i64) := by kernel_rfl
theorem rdInt : Rd enc Tryz.prog W 3 eI inI := rd_int uInt
theorem rdInts : Rd enc Tryz.prog W 22 (fun l : List Int => [.sl 1 (l.map eI)]) (fun l => ∀ x ∈ l, inI x) :=
 (rd_slice (el := 3) (es := 1) (by kernel_rfl) (by kernel_rfl) (by decide) rdInt).map id (fun _ => rfl) fun _ h => h.1
theorem aInts : RdV enc Tryz.prog W 22 (fun l : List Int => .sl 1 (l.map eI)) (fun l => ∀ x ∈ l, inI x) := Rd.one (one_slice (el := 3) (by kernel_rfl)) rdInts
theorem aInt : RdV enc Tryz.prog W 3 (fun n => .i n) inI := Rd.one (one_int uInt) rdInt
theorem own : ownKnob Tryz.prog.godebug = none := by kernel_rfl
theorem laid : laidOutB Tryz.prog = true := by kernel_rfl
end Go.CS
namespace Go.CS
open Go.Fam Go.Proofs
open Go.C06 (fnG fnG_at)
theorem kx (K : Gam) (f : Nat) {Γ : Gam} {A B : Type} {e : A → List V} {d : List V → A} {ok : A → Prop} {g : A → B} {eb : B → V} {a : A} (h : d (e a) = a) (hK : K = Γ.ext f (fnG e d ok g eb)) : K f (e a) = (ok a, eb (g a)) := by
 rw [hK, ext_eq]
 exact fnG_at a h
theorem lft (K : Gam) {G : Gam} {f : Nat} {l : List V} {p : Prop × V} (h : G f l = p) (e : K f = G f) : K f l = p := by rw [e]; exact h
end Go.CS
set_option maxHeartbeats 4000000
namespace Go.CS
open Go.Fam Go.Proofs
open Go.C06 (Span eI eIs eSpan gI gR dI dI_eI spanE fnG fnG_ok fnG_at within take_succ_of idxOf idxOf_at idxOf_none idxOf_any flat_len chunk_flat map_vw_rows hasRefL_flat drop_cons chunk_I len_I vw_I noref_I hmix eLI dLI dLI_e ru_countE)
variable {Γ : Gam}
def okLen (s : Span) : Bool := within s.low 0 s.high && decide (s.high ≤ 999)
def okSlot (t : Slot) : Bool := (t.secs.all fun n => within n 0 9) && within t.kind 0 9 && decide ((t.secs.length : Int) ≤ 4) && ascB t.secs && okLen t.len
def makeAt (w : Work) (m : Int) : List Slot := w.makes.getD m.toNat []
def isSlotB (w : Work) (m k : Int) : Bool := within m 0 (w.makes.length - 1) && within k 0 ((makeAt w m).length - 1)
structure SmallW (w : Work) : Prop where
 spares : w.spares.length ≤ 1000000
 makes : w.makes.length ≤ 1000000
 slots : ∀ m ∈ w.makes, m.length ≤ 1000000
 secs : ∀ m ∈ w.makes, ∀ t ∈ m, t.secs.length ≤ 1000000
 table : w.table.length ≤ 1000000
end Go.CS
set_option maxHeartbeats 4000000
namespace Go.CS
open Go.Fam Go.Proofs
open Go.C06 (Span eI eIs eSpan gI gR dI dI_eI spanE fnG fnG_ok fnG_at within take_succ_of idxOf idxOf_at idxOf_none idxOf_any flat_len chunk_flat map_vw_rows hasRefL_flat drop_cons chunk_I len_I vw_I noref_I hmix eLI dLI dLI_e ru_countE)
variable {Γ : Gam}
theorem all_step {α : Type} {l : List α} {p : α → Bool} {i : Nat} {x : α} (hx : l[i]? = some x) (e : p x = true) (hc : ∀ j y, j < i → l[j]? = some y → p y = true) : ∀ j y, j < i + 1 → l[j]? = some y → p y = true := by
 intro j y hj hy
 by_cases hji : j < i
 ·exact hc j y hji hy
 ·have : j = i := by omega
  subst this
  rw [hx] at hy; cases hy; exact e
theorem all_no {α : Type} {l : List α} {p : α → Bool} {i : Nat} {x : α} (hx : l[i]? = some x) (e : p x = false) : l.all p = false := by
 rw [List.all_eq_false]; exact ⟨x, List.mem_of_getElem? hx, by rw [e]; simp⟩
theorem all_yes {α : Type} {l : List α} {p : α → Bool} (hc : ∀ j y, j < l.length → l[j]? = some y → p y = true) : l.all p = true := by
 rw [List.all_eq_true]
 intro x hx
 obtain ⟨j, hj⟩ := List.getElem?_of_mem hx
 exact hc j x (getElemLt hj) hj
def okSpare (s : Spare) : Bool := within s.kind 0 9 && within s.sect 0 9 && okLen s.len
def okTrial (w : Work) (t : Trial) : Bool := within t.spare 0 (w.spares.length - 1) && isSlotB w t.make t.slot && within t.fits 0 1
end Go.CS
set_option maxHeartbeats 4000000
namespace Go.CS
open Go.Fam Go.Proofs
open Go.C06 (Span eI eIs eSpan gI gR dI dI_eI spanE fnG fnG_ok fnG_at within take_succ_of idxOf idxOf_at idxOf_none idxOf_any flat_len chunk_flat map_vw_rows hasRefL_flat drop_cons chunk_I len_I vw_I noref_I hmix eLI dLI dLI_e ru_countE)
variable {Γ : Gam}
end Go.CS
set_option maxHeartbeats 4000000
namespace Go.CS
open Go.Fam Go.Proofs
open Go.C06 (Span eI eIs eSpan gI gR dI dI_eI spanE fnG fnG_ok fnG_at within take_succ_of idxOf idxOf_at idxOf_none idxOf_any flat_len chunk_flat map_vw_rows hasRefL_flat drop_cons chunk_I len_I vw_I noref_I hmix eLI dLI dLI_e ru_countE cutL_noref hasRefL_append)
variable {Γ : Gam}
structure OkW (w : Work) : Prop where
 nsp : w.spares.length ≤ 10
 nmk : w.makes.length ≤ 6
 cut : 0 ≤ w.cut ∧ w.cut ≤ 99
 ntb : w.table.length ≤ 30
 spare : ∀ s ∈ w.spares, okSpare s = true
 make : ∀ m ∈ w.makes, m.length ≤ 4 ∧ ∀ t ∈ m, okSlot t = true
 trial : ∀ t ∈ w.table, okTrial w t = true
theorem within_iff {n a b : Int} : within n a b = true ↔ a ≤ n ∧ n ≤ b := by simp [within]
theorem okLen_iff {s : Span} : okLen s = true ↔ 0 ≤ s.low ∧ s.low ≤ s.high ∧ s.high ≤ 999 := by
 simp [okLen, within, and_assoc]
theorem okSlot_is {t : Slot} (h : okSlot t = true) : t.secs.length ≤ 4 ∧ 0 ≤ t.len.low ∧ t.len.low ≤ t.len.high ∧ t.len.high ≤ 999 := by
 unfold okSlot at h
 simp only [Bool.and_eq_true, decide_eq_true_eq] at h
 have := okLen_iff.1 h.2
 exact ⟨by omega, this⟩
theorem OkW.small {w : Work} (h : OkW w) : SmallW w :=
 ⟨by have := h.nsp; omega, by have := h.nmk; omega, fun m hm => by have := (h.make m hm).1; omega, fun m hm t ht => by have := (okSlot_is ((h.make m hm).2 t ht)).1; omega, by have := h.ntb; omega⟩
structure OkF (w : Work) (i m k : Int) : Prop where
 ok : OkW w
 sp : 0 ≤ i ∧ i < w.spares.length
 sl : isSlotB w m k = true
structure OkI (w : Work) (i : Int) : Prop where
 ok : OkW w
 sp : 0 ≤ i ∧ i < w.spares.length
theorem OkI.fits {w : Work} {t : Trial} {i : Int} (h : OkI w i) (ht : t ∈ w.table) : OkF w i t.make t.slot := by
 have := h.ok.trial t ht
 unfold okTrial at this
 simp only [Bool.and_eq_true] at this
 exact ⟨h.ok, h.sp, this.1.2⟩
end Go.CS
set_option maxHeartbeats 4000000
namespace Go.CS
open Go.Fam Go.Proofs
open Go.C06 (Span eI eIs eSpan gI gR dI dI_eI spanE fnG fnG_ok fnG_at within take_succ_of idxOf idxOf_at idxOf_none idxOf_any flat_len chunk_flat map_vw_rows hasRefL_flat drop_cons chunk_I len_I vw_I noref_I hmix eLI dLI dLI_e ru_countE cutL_noref hasRefL_append)
variable {Γ : Gam}
end Go.CS
set_option maxHeartbeats 4000000
namespace Go.CS
open Go.Fam Go.Proofs
open Go.C06 (Span eI eIs eSpan gI gR dI dI_eI spanE fnG fnG_ok fnG_at within take_succ_of idxOf idxOf_at idxOf_none idxOf_any flat_len chunk_flat map_vw_rows hasRefL_flat drop_cons chunk_I len_I vw_I noref_I hmix eLI dLI dLI_e ru_countE cutL_noref hasRefL_append)
variable {Γ : Gam}
end Go.CS
set_option maxHeartbeats 4000000
namespace Go.CS
open Go.Fam Go.Proofs
open Go.C06 (Span eI eIs eSpan gI gR dI dI_eI spanE fnG fnG_ok fnG_at within take_succ_of idxOf idxOf_at idxOf_none idxOf_any flat_len chunk_flat map_vw_rows hasRefL_flat drop_cons chunk_I len_I vw_I noref_I hmix eLI dLI dLI_e ru_countE cutL_noref hasRefL_append)
variable {Γ : Gam}
theorem none_step {α : Type} {l : List α} {p : α → Bool} {i : Nat} {x : α} (hx : l[i]? = some x) (e : p x = false) (hc : ∀ j y, j < i → l[j]? = some y → p y = false) : ∀ j y, j < i + 1 → l[j]? = some y → p y = false := by
 intro j y hj hy
 by_cases hji : j < i
 ·exact hc j y hji hy
 ·have : j = i := by omega
  subst this
  rw [hx] at hy; cases hy; exact e
end Go.CS
set_option maxHeartbeats 4000000
namespace Go.CS
open Go.Fam Go.Proofs
open Go.C06 (Span eI eIs eSpan gI gR dI dI_eI spanE fnG fnG_ok fnG_at within take_succ_of idxOf idxOf_at idxOf_none idxOf_any flat_len chunk_flat map_vw_rows hasRefL_flat drop_cons chunk_I len_I vw_I noref_I hmix eLI dLI dLI_e ru_countE cutL_noref hasRefL_append)
variable {Γ : Gam}
end Go.CS
set_option maxHeartbeats 4000000
namespace Go.CS
open Go.Fam Go.Proofs
open Go.C06 (Span eI eIs eSpan gI gR dI dI_eI spanE fnG fnG_ok fnG_at within take_succ_of idxOf idxOf_at idxOf_none idxOf_any flat_len chunk_flat map_vw_rows hasRefL_flat drop_cons chunk_I len_I vw_I noref_I hmix eLI dLI dLI_e ru_countE cutL_noref hasRefL_append upL_noref)
variable {Γ : Gam}
end Go.CS
set_option maxHeartbeats 4000000
namespace Go.CS
open Go.Fam Go.Proofs
open Go.C06 (Span eI eIs eSpan gI gR dI dI_eI spanE fnG fnG_ok fnG_at within take_succ_of idxOf idxOf_at idxOf_none idxOf_any flat_len chunk_flat map_vw_rows hasRefL_flat drop_cons chunk_I len_I vw_I noref_I hmix eLI dLI dLI_e ru_countE cutL_noref hasRefL_append upL_noref)
variable {Γ : Gam}
end Go.CS
set_option maxHeartbeats 4000000
namespace Go.CS
open Go.Fam Go.Proofs
open Go.C06 (Span eI eIs eSpan gI gR dI dI_eI spanE fnG fnG_ok fnG_at within take_succ_of idxOf idxOf_at idxOf_none idxOf_any flat_len chunk_flat map_vw_rows hasRefL_flat drop_cons chunk_I len_I vw_I noref_I hmix eLI dLI dLI_e ru_countE cutL_noref hasRefL_append upL_noref)
variable {Γ : Gam}
end Go.CS
set_option maxHeartbeats 4000000
namespace Go.CS
open Go.Fam Go.Proofs
open Go.C06 (Span eI eIs eSpan gI gR dI dI_eI spanE fnG fnG_ok fnG_at within take_succ_of idxOf idxOf_at idxOf_none idxOf_any flat_len chunk_flat map_vw_rows hasRefL_flat drop_cons chunk_I len_I vw_I noref_I hmix eLI dLI dLI_e ru_countE cutL_noref hasRefL_append upL_noref)
variable {Γ : Gam}
end Go.CS
set_option maxHeartbeats 4000000
namespace Go.CS
open Go.Fam Go.Proofs
open Go.C06 (Span eI eIs eSpan gI gR dI dI_eI spanE fnG fnG_ok fnG_at within take_succ_of idxOf idxOf_at idxOf_none idxOf_any flat_len chunk_flat map_vw_rows hasRefL_flat drop_cons chunk_I len_I vw_I noref_I hmix eLI dLI dLI_e ru_countE cutL_noref hasRefL_append upL_noref)
variable {Γ : Gam}
end Go.CS
set_option maxHeartbeats 4000000
namespace Go.CS
open Go.Fam Go.Proofs
open Go.C06 (Span eI eIs eSpan gI gR dI dI_eI spanE fnG fnG_ok fnG_at within take_succ_of idxOf idxOf_at idxOf_none idxOf_any flat_len chunk_flat map_vw_rows hasRefL_flat drop_cons chunk_I len_I vw_I noref_I hmix eLI dLI dLI_e ru_countE cutL_noref hasRefL_append upL_noref)
variable {Γ : Gam}
end Go.CS
set_option maxHeartbeats 4000000
namespace Go.CS
open Go.Fam Go.Proofs
open Go.C06 (Span eI eIs eSpan gI gR dI dI_eI spanE fnG fnG_ok fnG_at within take_succ_of idxOf idxOf_at idxOf_none idxOf_any flat_len chunk_flat map_vw_rows hasRefL_flat drop_cons chunk_I len_I vw_I noref_I hmix eLI dLI dLI_e ru_countE cutL_noref hasRefL_append upL_noref)
variable {Γ : Gam}
end Go.CS
set_option maxHeartbeats 4000000
namespace Go.CS
open Go.Fam Go.Proofs
open Go.C06 (Span eI eIs eSpan gI gR dI dI_eI spanE fnG fnG_ok fnG_at within take_succ_of idxOf idxOf_at idxOf_none idxOf_any flat_len chunk_flat map_vw_rows hasRefL_flat drop_cons chunk_I len_I vw_I noref_I hmix eLI dLI dLI_e ru_countE cutL_noref hasRefL_append upL_noref)
variable {Γ : Gam}
end Go.CS
set_option maxHeartbeats 4000000
namespace Go.CS
open Go.Fam Go.Proofs
open Go.C06 (Span eI eIs eSpan gI gR dI dI_eI spanE fnG fnG_ok fnG_at within take_succ_of idxOf idxOf_at idxOf_none idxOf_any flat_len chunk_flat map_vw_rows hasRefL_flat drop_cons chunk_I len_I vw_I noref_I hmix eLI dLI dLI_e ru_countE cutL_noref hasRefL_append upL_noref)
variable {Γ : Gam}
end Go.CS
set_option maxHeartbeats 4000000
namespace Go.CS
open Go.Fam Go.Proofs
open Go.C06 (Span eI eIs eSpan gI gR dI dI_eI spanE fnG fnG_ok fnG_at within take_succ_of idxOf idxOf_at idxOf_none idxOf_any flat_len chunk_flat map_vw_rows hasRefL_flat drop_cons chunk_I len_I vw_I noref_I hmix eLI dLI dLI_e ru_countE cutL_noref hasRefL_append upL_noref)
variable {Γ : Gam}
end Go.CS
set_option maxHeartbeats 4000000
namespace Go.CS
open Go.Fam Go.Proofs
open Go.C06 (Span eI eIs eSpan gI gR dI dI_eI spanE fnG fnG_ok fnG_at within take_succ_of idxOf idxOf_at idxOf_none idxOf_any flat_len chunk_flat map_vw_rows hasRefL_flat drop_cons chunk_I len_I vw_I noref_I hmix eLI dLI dLI_e ru_countE cutL_noref hasRefL_append upL_noref)
variable {Γ : Gam}
end Go.CS
set_option maxHeartbeats 4000000
namespace Go.CS
open Go.Fam Go.Proofs
open Go.C06 (Span eI eIs eSpan gI gR dI dI_eI spanE fnG fnG_ok fnG_at within take_succ_of idxOf idxOf_at idxOf_none idxOf_any flat_len chunk_flat map_vw_rows hasRefL_flat drop_cons chunk_I len_I vw_I noref_I hmix eLI dLI dLI_e ru_countE cutL_noref hasRefL_append upL_noref)
variable {Γ : Gam}
end Go.CS
set_option maxHeartbeats 4000000
namespace Go.CS
open Go.Fam Go.Proofs
open Go.C06 (Span eI eIs eSpan gI gR dI dI_eI spanE fnG fnG_ok fnG_at within take_succ_of idxOf idxOf_at idxOf_none idxOf_any flat_len chunk_flat map_vw_rows hasRefL_flat drop_cons chunk_I len_I vw_I noref_I hmix eLI dLI dLI_e ru_countE cutL_noref hasRefL_append upL_noref)
variable {Γ : Gam}
end Go.CS
set_option maxHeartbeats 4000000
namespace Go.CS
open Go.Fam Go.Proofs
open Go.C06 (Span eI eIs eSpan gI gR dI dI_eI spanE fnG fnG_ok fnG_at within take_succ_of idxOf idxOf_at idxOf_none idxOf_any flat_len chunk_flat map_vw_rows hasRefL_flat drop_cons chunk_I len_I vw_I noref_I hmix eLI dLI dLI_e ru_countE cutL_noref hasRefL_append upL_noref)
variable {Γ : Gam}
end Go.CS
set_option maxHeartbeats 4000000
namespace Go.CS
open Go.Fam Go.Proofs
open Go.C06 (Span eI eIs eSpan gI gR dI dI_eI spanE fnG fnG_ok fnG_at within take_succ_of idxOf idxOf_at idxOf_none idxOf_any flat_len chunk_flat map_vw_rows hasRefL_flat drop_cons chunk_I len_I vw_I noref_I hmix eLI dLI dLI_e ru_countE cutL_noref hasRefL_append upL_noref)
variable {Γ : Gam}
end Go.CS
set_option maxHeartbeats 4000000
namespace Go.CS
open Go.Fam Go.Proofs
open Go.C06 (Span eI eIs eSpan gI gR dI dI_eI spanE fnG fnG_ok fnG_at within take_succ_of idxOf idxOf_at idxOf_none idxOf_any flat_len chunk_flat map_vw_rows hasRefL_flat drop_cons chunk_I len_I vw_I noref_I hmix eLI dLI dLI_e ru_countE cutL_noref hasRefL_append upL_noref)
variable {Γ : Gam}
end Go.CS
set_option maxHeartbeats 4000000
namespace Go.CS
open Go.Fam Go.Proofs
open Go.C06 (Span eI eIs eSpan gI gR dI dI_eI spanE fnG fnG_ok fnG_at within take_succ_of idxOf idxOf_at idxOf_none idxOf_any flat_len chunk_flat map_vw_rows hasRefL_flat drop_cons chunk_I len_I vw_I noref_I hmix eLI dLI dLI_e ru_countE cutL_noref hasRefL_append upL_noref)
variable {Γ : Gam}
end Go.CS
set_option maxHeartbeats 4000000
namespace Go.CS
open Go.Fam Go.Proofs
open Go.C06 (Span eI eIs eSpan gI gR dI dI_eI spanE fnG fnG_ok fnG_at within take_succ_of idxOf idxOf_at idxOf_none idxOf_any flat_len chunk_flat map_vw_rows hasRefL_flat drop_cons chunk_I len_I vw_I noref_I hmix eLI dLI dLI_e ru_countE cutL_noref hasRefL_append upL_noref)
variable {Γ : Gam}
end Go.CS
set_option maxHeartbeats 4000000
namespace Go.CS
open Go.Fam Go.Proofs
open Go.C06 (Span eI eIs eSpan gI gR dI dI_eI spanE fnG fnG_ok fnG_at within take_succ_of idxOf idxOf_at idxOf_none idxOf_any flat_len chunk_flat map_vw_rows hasRefL_flat drop_cons chunk_I len_I vw_I noref_I hmix eLI dLI dLI_e ru_countE cutL_noref hasRefL_append upL_noref)
variable {Γ : Gam}
end Go.CS
set_option maxHeartbeats 4000000
namespace Go.CS
open Go.Fam Go.Proofs
open Go.C06 (Span eI eIs eSpan gI gR dI dI_eI spanE fnG fnG_ok fnG_at within take_succ_of idxOf idxOf_at idxOf_none idxOf_any flat_len chunk_flat map_vw_rows hasRefL_flat drop_cons chunk_I len_I vw_I noref_I hmix eLI dLI dLI_e ru_countE cutL_noref hasRefL_append upL_noref)
variable {Γ : Gam}
end Go.CS
set_option maxHeartbeats 4000000
namespace Go.CS
open Go.Fam Go.Proofs
open Go.C06 (Span eI eIs eSpan gI gR dI dI_eI spanE fnG fnG_ok fnG_at within take_succ_of idxOf idxOf_at idxOf_none idxOf_any flat_len chunk_flat map_vw_rows hasRefL_flat drop_cons chunk_I len_I vw_I noref_I hmix eLI dLI dLI_e ru_countE cutL_noref hasRefL_append upL_noref)
variable {Γ : Gam}
end Go.CS
set_option maxHeartbeats 4000000
namespace Go.CS
open Go.Fam Go.Proofs
open Go.C06 (Span eI eIs eSpan gI gR dI dI_eI spanE fnG fnG_ok fnG_at within take_succ_of idxOf idxOf_at idxOf_none idxOf_any flat_len chunk_flat map_vw_rows hasRefL_flat drop_cons chunk_I len_I vw_I noref_I hmix eLI dLI dLI_e ru_countE cutL_noref hasRefL_append upL_noref)
variable {Γ : Gam}
end Go.CS
set_option maxHeartbeats 4000000
namespace Go.CS
open Go.Fam Go.Proofs
open Go.C06 (Span eI eIs eSpan gI gR dI dI_eI spanE fnG fnG_ok fnG_at within take_succ_of idxOf idxOf_at idxOf_none idxOf_any flat_len chunk_flat map_vw_rows hasRefL_flat drop_cons chunk_I len_I vw_I noref_I hmix eLI dLI dLI_e ru_countE cutL_noref hasRefL_append upL_noref)
variable {Γ : Gam}
end Go.CS
set_option maxHeartbeats 4000000
namespace Go.CS
open Go.Fam
def Clo (gd : Nat → Int → Bool) (n : Nat) (g : List Int) (S : List Int) (x : Int) : Prop :=
 ∃ i : Nat, i < n ∧ x = i ∧ g[i]?.getD 0 ≠ -1 ∧ ∀ k : Nat, k < n → gd k (g[i]?.getD 0) = true → (k : Int) ∈ S
theorem Clo.mono {gd : Nat → Int → Bool} {n : Nat} {g S S' : List Int} {x : Int} (h : Clo gd n g S x) (hs : ∀ y ∈ S, y ∈ S') : Clo gd n g S' x := by
 obtain ⟨i, hi, e, h1, h2⟩ := h
 exact ⟨i, hi, e, h1, fun k hk hg => hs _ (h2 k hk hg)⟩
theorem map_nod {α β : Type} {f : α → β} : ∀ {l : List α}, (∀ a ∈ l, ∀ b ∈ l, f a = f b → a = b) → l.Nodup → (l.map f).Nodup
 | [], _, _ => List.nodup_nil
 | a :: l, h, hn => by
  rw [List.nodup_cons] at hn
  rw [List.map_cons, List.nodup_cons]
  refine ⟨fun hm => ?_, map_nod (fun x hx y hy => h x (by simp [hx]) y (by simp [hy])) hn.2⟩
  obtain ⟨b, hb, e⟩ := List.mem_map.1 hm
  exact hn.1 (h b (by simp [hb]) a (by simp) e ▸ hb)
end Go.CS
set_option maxHeartbeats 4000000
namespace Go.CS
open Go.Fam Go.Proofs
open Go.C06 (Span eI eIs eSpan gI gR dI dI_eI spanE fnG fnG_ok fnG_at within take_succ_of idxOf idxOf_at idxOf_none idxOf_any flat_len chunk_flat map_vw_rows hasRefL_flat drop_cons chunk_I len_I vw_I noref_I hmix eLI dLI dLI_e ru_countE cutL_noref hasRefL_append upL_noref)
variable {Γ : Gam}
def PG (n m : Nat) (g s : List Int) : Prop := g.length = n ∧ (∀ v ∈ g, v = -1 ∨ (0 ≤ v ∧ v < m)) ∧ s.Nodup ∧ ∀ x ∈ s, 0 ≤ x ∧ x < n
theorem PG.set {n m : Nat} {g s : List Int} {i : Nat} {own : Int} (h : PG n m g s) (ho : 0 ≤ own ∧ own < m) : PG n m (g.set i own) s := by
 obtain ⟨h1, h2, h3, h4⟩ := h
 refine ⟨by rw [List.length_set]; exact h1, fun v hv => ?_, h3, h4⟩
 rcases List.mem_or_eq_of_mem_set hv with hv | rfl
 ·exact h2 v hv
 ·exact .inr ho
theorem PG.at {n m : Nat} {g s : List Int} {i : Nat} (h : PG n m g s) (hi : i < n) (h1 : g[i]?.getD 0 ≠ -1) : 0 ≤ g[i]?.getD 0 ∧ g[i]?.getD 0 < m := by
 have : i < g.length := by rw [h.1]; exact hi
 rw [List.getElem?_eq_getElem this, Option.getD_some] at h1 ⊢
 exact (h.2.1 _ (List.getElem_mem this)).resolve_left h1
end Go.CS
set_option maxHeartbeats 4000000
namespace Go.CS
open Go.Fam Go.Proofs
open Go.C06 (Span eI eIs eSpan gI gR dI dI_eI spanE fnG fnG_ok fnG_at within take_succ_of idxOf idxOf_at idxOf_none idxOf_any flat_len chunk_flat map_vw_rows hasRefL_flat drop_cons chunk_I len_I vw_I noref_I hmix eLI dLI dLI_e ru_countE cutL_noref hasRefL_append upL_noref)
variable {Γ : Gam}
end Go.CS
set_option maxHeartbeats 4000000
namespace Go.CS
open Go.Fam Go.Proofs
open Go.C06 (Span eI eIs eSpan gI gR dI dI_eI spanE fnG fnG_ok fnG_at within take_succ_of idxOf idxOf_at idxOf_none idxOf_any flat_len chunk_flat map_vw_rows hasRefL_flat drop_cons chunk_I len_I vw_I noref_I hmix eLI dLI dLI_e ru_countE cutL_noref hasRefL_append upL_noref)
variable {Γ : Gam}
end Go.CS
set_option maxHeartbeats 4000000
namespace Go.CS
open Go.Fam Go.Proofs
open Go.C06 (Span eI eIs eSpan gI gR dI dI_eI spanE fnG fnG_ok fnG_at within take_succ_of idxOf idxOf_at idxOf_none idxOf_any flat_len chunk_flat map_vw_rows hasRefL_flat drop_cons chunk_I len_I vw_I noref_I hmix eLI dLI dLI_e ru_countE cutL_noref hasRefL_append upL_noref)
variable {Γ : Gam}
end Go.CS
set_option maxHeartbeats 4000000
namespace Go.CS
open Go.Fam Go.Proofs
open Go.C06 (Span eI eIs eSpan gI gR dI dI_eI spanE fnG fnG_ok fnG_at within take_succ_of idxOf idxOf_at idxOf_none idxOf_any flat_len chunk_flat map_vw_rows hasRefL_flat drop_cons chunk_I len_I vw_I noref_I hmix eLI dLI dLI_e ru_countE cutL_noref hasRefL_append upL_noref)
variable {Γ : Gam}
end Go.CS
set_option maxHeartbeats 4000000
namespace Go.CS
open Go.Fam Go.Proofs
open Go.C06 (Span eI eIs eSpan gI gR dI dI_eI spanE fnG fnG_ok fnG_at within take_succ_of idxOf idxOf_at idxOf_none idxOf_any flat_len chunk_flat map_vw_rows hasRefL_flat drop_cons chunk_I len_I vw_I noref_I hmix eLI dLI dLI_e ru_countE cutL_noref hasRefL_append upL_noref)
variable {Γ : Gam}
theorem range_no {p : Nat → Bool} {n i : Nat} (hi : i < n) (h : p i = false) : (List.range n).all p = false := by
 rw [List.all_eq_false]
 exact ⟨i, List.mem_range.2 hi, by rw [h]; simp⟩
end Go.CS
set_option maxHeartbeats 4000000
namespace Go.CS
open Go.Fam Go.Proofs
open Go.C06 (Span eI eIs eSpan gI gR dI dI_eI spanE fnG fnG_ok fnG_at within take_succ_of idxOf idxOf_at idxOf_none idxOf_any flat_len chunk_flat map_vw_rows hasRefL_flat drop_cons chunk_I len_I vw_I noref_I hmix eLI dLI dLI_e ru_countE cutL_noref hasRefL_append upL_noref)
variable {Γ : Gam}
end Go.CS
