/-
 Texts ShC, as far as the statement needs them.
-/
import Derived.Shelf.Small.Wraps
import Derived.Shelf.Sort.Plain
import Derived.Test.YtljachhmdogkdaaGreatDoorProg
namespace Go.Proofs
open Go.Shelf
def Tryz.lays122_ren : Go.Shelf.Ren := ⟨fun | 122 => 36 | 215 => 75 | n => n, fun | 3 => 3 | 4 => 4 | n => n, fun | n => n⟩
theorem Tryz.lays122 : Go.Proofs.Lays.n122 Tryz.prog Tryz.lays122_ren := {
 mixed := by kernel_rfl
 f122 := Tryz.func36.trans (congrArg some (by kernel_rfl))
 f215 := Tryz.func75.trans (congrArg some (by kernel_rfl))
 t3 := Tryz.underlying3
 a3 := Tryz.isAgg3
 z3 := Tryz.sizeOf3
 v3 := Tryz.zeroValue3
 t4 := Tryz.underlying4
 a4 := Tryz.isAgg4
 z4 := Tryz.sizeOf4
 v4 := Tryz.zeroValue4 }
open Go.RowKit in
theorem Tryz.cmp_Compare_int (x y : Int) (w : World) :
  Calls Tryz.prog 36 #[.int .i64 x, .int .i64 y] w fun e w' => e = .returned (.int .i64 (Lib.compareInt x y)) ∧ w' = w := Any.cmp_Compare_int Tryz.lays122 x y w
def Tryz.lays190_ren : Go.Shelf.Ren := ⟨fun | 190 => 132 | 125 => 74 | 258 => 154 | 128 => 114 | 129 => 115 | 302 => 167 | 303 => 168 | 304 => 169 | 305 => 170 | 306 => 171 | 307 => 172 | 308 => 173 | 309 => 174 | 310 => 175 | 333 => 181 | 329 => 140 | 330 => 141 | 334 => 182 | 335 => 183 | 336 => 184 | 344 => 195 | n => n, fun | 31 => 55 | 9 => 9 | 3 => 3 | 46 => 128 | 0 => 0 | 51 => 166 | 53 => 168 | 4 => 4 | 183 => 160 | 182 => 159 | 131 => 96 | 5 => 5 | 218 => 184 | 222 => 188 | 228 => 206 | 229 => 207 | n => n, fun | n => n⟩
theorem Tryz.lays190 : Go.Proofs.Lays.n190 Tryz.prog Tryz.lays190_ren := {
 mixed := by kernel_rfl
 f125 := Tryz.func74.trans (congrArg some (by kernel_rfl))
 f128 := Tryz.func114.trans (congrArg some (by kernel_rfl))
 f129 := Tryz.func115.trans (congrArg some (by kernel_rfl))
 f190 := Tryz.func132.trans (congrArg some (by kernel_rfl))
 f258 := Tryz.func154.trans (congrArg some (by kernel_rfl))
 f302 := Tryz.func167.trans (congrArg some (by kernel_rfl))
 f303 := Tryz.func168.trans (congrArg some (by kernel_rfl))
 f304 := Tryz.func169.trans (congrArg some (by kernel_rfl))
 f305 := Tryz.func170.trans (congrArg some (by kernel_rfl))
 f306 := Tryz.func171.trans (congrArg some (by kernel_rfl))
 f307 := Tryz.func172.trans (congrArg some (by kernel_rfl))
 f308 := Tryz.func173.trans (congrArg some (by kernel_rfl))
 f309 := Tryz.func174.trans (congrArg some (by kernel_rfl))
 f310 := Tryz.func175.trans (congrArg some (by kernel_rfl))
 f329 := Tryz.func140.trans (congrArg some (by kernel_rfl))
 f330 := Tryz.func141.trans (congrArg some (by kernel_rfl))
 f333 := Tryz.func181.trans (congrArg some (by kernel_rfl))
 f334 := Tryz.func182.trans (congrArg some (by kernel_rfl))
 f335 := Tryz.func183.trans (congrArg some (by kernel_rfl))
 f336 := Tryz.func184.trans (congrArg some (by kernel_rfl))
 f344 := Tryz.func195.trans (congrArg some (by kernel_rfl))
 t0 := Tryz.underlying0
 a0 := Tryz.isAgg0
 z0 := Tryz.sizeOf0
 v0 := Tryz.zeroValue0
 t3 := Tryz.underlying3
 a3 := Tryz.isAgg3
 z3 := Tryz.sizeOf3
 v3 := Tryz.zeroValue3
 t4 := Tryz.underlying4
 a4 := Tryz.isAgg4
 z4 := Tryz.sizeOf4
 v4 := Tryz.zeroValue4
 t5 := Tryz.underlying5
 a5 := Tryz.isAgg5
 z5 := Tryz.sizeOf5
 v5 := Tryz.zeroValue5
 t9 := Tryz.underlying9
 a9 := Tryz.isAgg9
 z9 := Tryz.sizeOf9
 v9 := Tryz.zeroValue9
 t31 := Tryz.underlying55
 a31 := Tryz.isAgg55
 z31 := Tryz.sizeOf55
 v31 := Tryz.zeroValue55
 t46 := Tryz.underlying128
 a46 := Tryz.isAgg128
 z46 := Tryz.sizeOf128
 v46 := Tryz.zeroValue128
 t51 := Tryz.underlying166
 a51 := Tryz.isAgg166
 z51 := Tryz.sizeOf166
 v51 := Tryz.zeroValue166
 t53 := Tryz.underlying168
 a53 := Tryz.isAgg168
 z53 := Tryz.sizeOf168
 v53 := Tryz.zeroValue168
 t131 := Tryz.underlying96
 a131 := Tryz.isAgg96
 z131 := Tryz.sizeOf96
 v131 := Tryz.zeroValue96
 t182 := Tryz.underlying159
 a182 := Tryz.isAgg159
 z182 := Tryz.sizeOf159
 v182 := Tryz.zeroValue159
 t183 := Tryz.underlying160
 a183 := Tryz.isAgg160
 z183 := Tryz.sizeOf160
 v183 := Tryz.zeroValue160
 t218 := Tryz.underlying184
 a218 := Tryz.isAgg184
 z218 := Tryz.sizeOf184
 v218 := Tryz.zeroValue184
 t222 := Tryz.underlying188
 a222 := Tryz.isAgg188
 z222 := Tryz.sizeOf188
 v222 := Tryz.zeroValue188
 t228 := Tryz.underlying206
 a228 := Tryz.isAgg206
 z228 := Tryz.sizeOf206
 v228 := Tryz.zeroValue206
 t229 := Tryz.underlying207
 a229 := Tryz.isAgg207
 z229 := Tryz.sizeOf207
 v229 := Tryz.zeroValue207 }
open Go.Sort Go.RowKit in
theorem Tryz.slices_Sort_string (blk off cap : Nat) (ss : List (List UInt8)) (w : World) (hH : Holds encStr w blk off ss.toArray) (hblk : blk < w.heap.size) (hsz : ss.length < 4611686018427387904) :
  Calls Tryz.prog 132 #[.slice (some ⟨blk, off, none⟩) ss.length cap] w fun e w' =>
   e = .returned (.tuple #[]) ∧ ∃ n os, w' = grow (putRow encStr (Sort.ahead w n) blk off (ss.mergeSort fun x y => decide (x ≤ y)).toArray) os := Any.slices_Sort_string Tryz.lays190 blk off cap ss w hH hblk hsz
end Go.Proofs
