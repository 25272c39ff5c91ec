import Derived.Shelf.Small.Bits
import Derived.Shelf.Small.Wraps
import Derived.Shelf.Strconv.Itoa0
import Derived.Shelf.Sort.Plain
import Derived.Shelf.Bits.Mul64
import Derived.Shelf.Slices.Turned
import Derived.Ground.Names2Prog
import Derived.Shelf.Slices.Clone
import Derived.Shelf.Slices.SearchI
import Derived.Shelf.Slices.In.SortNone
import Derived.Ground.SlgnProg
import Derived.Shelf.SlicesE.Clone
import Derived.Test.YtjimcmcffjibmaaGreatProg
import Derived.Shelf.SlIterI.Nil
import Derived.Ground.GgzProg
set_option linter.all false
set_option maxHeartbeats 4000000
namespace Go.Proofs
open Go.Shelf
def Tryz.lays125_ren : Go.Shelf.Ren := ⟨fun | 125 => 170 | 128 => 185 | 129 => 186 | n => n,fun | 46 => 95 | 3 => 3 | 51 => 141 | 53 => 143 | 4 => 4 | 5 => 5 | 9 => 9 | n => n,fun | n => n⟩
def Tryz.lays125 : Go.Proofs.Lays.n125 Tryz.prog Tryz.lays125_ren := {
 mixed := by kernel_rfl
 f125 := Tryz.func170.trans (congrArg some (by kernel_rfl))
 f128 := Tryz.func185.trans (congrArg some (by kernel_rfl))
 f129 := Tryz.func186.trans (congrArg some (by kernel_rfl))
 t3 := Tryz.underlying3
 a3 := Tryz.isAgg3
 z3 := Tryz.sizeOf3
 v3 := Tryz.zeroValue3
 t4 := Tryz.underlying4
 a4 := Tryz.isAgg4
 z4 := Tryz.sizeOf4
 v4 := Tryz.zeroValue4
 t5 := Tryz.underlying5
 a5 := Tryz.isAgg5
 z5 := Tryz.sizeOf5
 v5 := Tryz.zeroValue5
 t9 := Tryz.underlying9
 a9 := Tryz.isAgg9
 z9 := Tryz.sizeOf9
 v9 := Tryz.zeroValue9
 t46 := Tryz.underlying95
 a46 := Tryz.isAgg95
 z46 := Tryz.sizeOf95
 v46 := Tryz.zeroValue95
 t51 := Tryz.underlying141
 a51 := Tryz.isAgg141
 z51 := Tryz.sizeOf141
 v51 := Tryz.zeroValue141
 t53 := Tryz.underlying143
 a53 := Tryz.isAgg143
 z53 := Tryz.sizeOf143
 v53 := Tryz.zeroValue143 }
def Tryz.bits_Len (x : Int) (w : World) (h0 : 0 ≤ x) (h1 : x ≤ 18446744073709551615) :
  Calls Tryz.prog 170 #[.int .u64 x] w fun e w' => e = .returned (.int .i64 (Lib.bitLen x.toNat)) ∧ w' = w := Any.bits_Len Tryz.lays125 x w h0 h1
def Tryz.lays189_ren : Go.Shelf.Ren := ⟨fun | 189 => 156 | 125 => 170 | 257 => 169 | 128 => 185 | 129 => 186 | 294 => 176 | 295 => 177 | 296 => 178 | 297 => 179 | 298 => 180 | 299 => 181 | 216 => 182 | 300 => 183 | 301 => 184 | 328 => 195 | 329 => 196 | 330 => 197 | 331 => 198 | 332 => 199 | 215 => 172 | 343 => 203 | n => n,fun | 28 => 27 | 3 => 3 | 46 => 95 | 0 => 0 | 51 => 141 | 53 => 143 | 4 => 4 | 183 => 243 | 182 => 242 | 131 => 185 | 5 => 5 | 9 => 9 | 218 => 254 | 222 => 258 | 228 => 262 | 229 => 263 | n => n,fun | n => n⟩
def Tryz.lays189 : Go.Proofs.Lays.n189 Tryz.prog Tryz.lays189_ren := {
 mixed := by kernel_rfl
 f125 := Tryz.func170.trans (congrArg some (by kernel_rfl))
 f128 := Tryz.func185.trans (congrArg some (by kernel_rfl))
 f129 := Tryz.func186.trans (congrArg some (by kernel_rfl))
 f189 := Tryz.func156.trans (congrArg some (by kernel_rfl))
 f215 := Tryz.func172.trans (congrArg some (by kernel_rfl))
 f216 := Tryz.func182.trans (congrArg some (by kernel_rfl))
 f257 := Tryz.func169.trans (congrArg some (by kernel_rfl))
 f294 := Tryz.func176.trans (congrArg some (by kernel_rfl))
 f295 := Tryz.func177.trans (congrArg some (by kernel_rfl))
 f296 := Tryz.func178.trans (congrArg some (by kernel_rfl))
 f297 := Tryz.func179.trans (congrArg some (by kernel_rfl))
 f298 := Tryz.func180.trans (congrArg some (by kernel_rfl))
 f299 := Tryz.func181.trans (congrArg some (by kernel_rfl))
 f300 := Tryz.func183.trans (congrArg some (by kernel_rfl))
 f301 := Tryz.func184.trans (congrArg some (by kernel_rfl))
 f328 := Tryz.func195.trans (congrArg some (by kernel_rfl))
 f329 := Tryz.func196.trans (congrArg some (by kernel_rfl))
 f330 := Tryz.func197.trans (congrArg some (by kernel_rfl))
 f331 := Tryz.func198.trans (congrArg some (by kernel_rfl))
 f332 := Tryz.func199.trans (congrArg some (by kernel_rfl))
 f343 := Tryz.func203.trans (congrArg some (by kernel_rfl))
 t0 := Tryz.underlying0
 a0 := Tryz.isAgg0
 z0 := Tryz.sizeOf0
 v0 := Tryz.zeroValue0
 t3 := Tryz.underlying3
 a3 := Tryz.isAgg3
 z3 := Tryz.sizeOf3
 v3 := Tryz.zeroValue3
 t4 := Tryz.underlying4
 a4 := Tryz.isAgg4
 z4 := Tryz.sizeOf4
 v4 := Tryz.zeroValue4
 t5 := Tryz.underlying5
 a5 := Tryz.isAgg5
 z5 := Tryz.sizeOf5
 v5 := Tryz.zeroValue5
 t9 := Tryz.underlying9
 a9 := Tryz.isAgg9
 z9 := Tryz.sizeOf9
 v9 := Tryz.zeroValue9
 t28 := Tryz.underlying27
 a28 := Tryz.isAgg27
 z28 := Tryz.sizeOf27
 v28 := Tryz.zeroValue27
 t46 := Tryz.underlying95
 a46 := Tryz.isAgg95
 z46 := Tryz.sizeOf95
 v46 := Tryz.zeroValue95
 t51 := Tryz.underlying141
 a51 := Tryz.isAgg141
 z51 := Tryz.sizeOf141
 v51 := Tryz.zeroValue141
 t53 := Tryz.underlying143
 a53 := Tryz.isAgg143
 z53 := Tryz.sizeOf143
 v53 := Tryz.zeroValue143
 t131 := Tryz.underlying185
 a131 := Tryz.isAgg185
 z131 := Tryz.sizeOf185
 v131 := Tryz.zeroValue185
 t182 := Tryz.underlying242
 a182 := Tryz.isAgg242
 z182 := Tryz.sizeOf242
 v182 := Tryz.zeroValue242
 t183 := Tryz.underlying243
 a183 := Tryz.isAgg243
 z183 := Tryz.sizeOf243
 v183 := Tryz.zeroValue243
 t218 := Tryz.underlying254
 a218 := Tryz.isAgg254
 z218 := Tryz.sizeOf254
 v218 := Tryz.zeroValue254
 t222 := Tryz.underlying258
 a222 := Tryz.isAgg258
 z222 := Tryz.sizeOf258
 v222 := Tryz.zeroValue258
 t228 := Tryz.underlying262
 a228 := Tryz.isAgg262
 z228 := Tryz.sizeOf262
 v228 := Tryz.zeroValue262
 t229 := Tryz.underlying263
 a229 := Tryz.isAgg263
 z229 := Tryz.sizeOf263
 v229 := Tryz.zeroValue263 }
open Go.Sort Go.RowKit in
theorem Tryz.slices_Sort_int (blk off cap : Nat) (zs : List Int) (w : World) (hH : Holds (Value.int .i64) w blk off zs.toArray) (hblk : blk < w.heap.size) (hsz : zs.length < 4611686018427387904) :
  Calls Tryz.prog 156 #[.slice (some ⟨blk,off,none⟩) zs.length cap] w fun e w' =>
   e = .returned (.tuple #[]) ∧ ∃ n os,w' = grow (putRow (Value.int .i64) (Sort.ahead w n) blk off (zs.mergeSort fun x y => decide (x ≤ y)).toArray) os := Any.slices_Sort_int Tryz.lays189 blk off cap zs w hH hblk hsz
def Tryz.lays212_ren : Go.Shelf.Ren := ⟨fun | 212 => 78 | 263 => 119 | 264 => 120 | n => n,fun | 46 => 95 | 51 => 141 | 146 => 202 | 53 => 143 | 148 => 204 | n => n,fun | n => n⟩
def Tryz.lays212 : Go.Proofs.Lays.n212 Tryz.prog Tryz.lays212_ren := {
 mixed := by kernel_rfl
 f212 := Tryz.func78.trans (congrArg some (by kernel_rfl))
 f263 := Tryz.func119.trans (congrArg some (by kernel_rfl))
 f264 := Tryz.func120.trans (congrArg some (by kernel_rfl))
 t46 := Tryz.underlying95
 a46 := Tryz.isAgg95
 z46 := Tryz.sizeOf95
 v46 := Tryz.zeroValue95
 t51 := Tryz.underlying141
 a51 := Tryz.isAgg141
 z51 := Tryz.sizeOf141
 v51 := Tryz.zeroValue141
 t53 := Tryz.underlying143
 a53 := Tryz.isAgg143
 z53 := Tryz.sizeOf143
 v53 := Tryz.zeroValue143
 t146 := Tryz.underlying202
 a146 := Tryz.isAgg202
 z146 := Tryz.sizeOf202
 v146 := Tryz.zeroValue202
 t148 := Tryz.underlying204
 a148 := Tryz.isAgg204
 z148 := Tryz.sizeOf204
 v148 := Tryz.zeroValue204 }
open Go.RowKit Go.Lib in
theorem Tryz.bits_Mul (x y : Nat) (hx : x < 18446744073709551616) (hy : y < 18446744073709551616) (w : World) :
  Calls Tryz.prog 78 #[.int .u64 x,.int .u64 y] w fun e w' => e = .returned (.tuple #[.int .u64 ((x * y / 18446744073709551616 : Nat) : Int),.int .u64 ((x * y % 18446744073709551616 : Nat) : Int)]) ∧ w' = w := Any.bits_Mul Tryz.lays212 x y hx hy w
open Go.RowKit Go.Sort in
theorem Tryz.slices_Sort_int_none (p : Option Addr) (cap : Nat) (w : World) :
  Calls Tryz.prog 156 #[.slice p 0 cap] w fun e w' => e = .returned (.tuple #[]) ∧ w' = w := Any.slices_Sort_int_none Tryz.lays189 p cap w
end Go.Proofs
namespace Go.Proofs
open Go.Shelf
def Tryz.sorted132_ren : Go.Shelf.Ren := ⟨fun | 6 => 132 | 8 => 155 | 9 => 156 | 11 => 168 | 13 => 170 | 12 => 169 | 23 => 185 | 24 => 186 | 14 => 176 | 15 => 177 | 16 => 178 | 17 => 179 | 18 => 180 | 19 => 181 | 20 => 182 | 21 => 183 | 22 => 184 | 25 => 195 | 26 => 196 | 27 => 197 | 28 => 198 | 29 => 199 | 30 => 172 | 31 => 203 | n => n,fun | 26 => 3 | 28 => 216 | 24 => 27 | 0 => 0 | 3 => 3 | 37 => 95 | 48 => 141 | 50 => 143 | 4 => 4 | 40 => 243 | 39 => 242 | 45 => 185 | 5 => 5 | 9 => 9 | 51 => 254 | 55 => 258 | 57 => 262 | 58 => 263 | 33 => 124 | n => n,fun | n => n⟩
def Tryz.sorted132 : Go.Proofs.SlLaysZI.n6 Tryz.prog Tryz.sorted132_ren := {
 mixed := by kernel_rfl
 f6 := ⟨Tryz.f132.name,by decide,Tryz.func132.trans (congrArg some (by kernel_rfl))⟩
 f8 := ⟨Tryz.f155.name,by decide,Tryz.func155.trans (congrArg some (by kernel_rfl))⟩
 f11 := ⟨Tryz.f168.name,by decide,Tryz.func168.trans (congrArg some (by kernel_rfl))⟩
 t0 := Tryz.underlying0
 a0 := Tryz.isAgg0
 z0 := Tryz.sizeOf0
 v0 := Tryz.zeroValue0
 t24 := Tryz.underlying27
 a24 := Tryz.isAgg27
 z24 := Tryz.sizeOf27
 v24 := Tryz.zeroValue27
 t26 := Tryz.underlying3
 a26 := Tryz.isAgg3
 z26 := Tryz.sizeOf3
 v26 := Tryz.zeroValue3
 t28 := Tryz.underlying216
 a28 := Tryz.isAgg216
 z28 := Tryz.sizeOf216
 v28 := Tryz.zeroValue216
 i26 := by kernel_rfl }
end Go.Proofs
