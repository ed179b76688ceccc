/-
More contracts of the library at this translation, laid by the kit.
-/
import Derived.Shelf.Sort.Plain
import Derived.Test.YthkeciodjomakaaDoorShelf
namespace Go.Proofs
open Go.Shelf
def Tryd.lays189_ren : Go.Shelf.Ren := ⟨fun | 189 => 70 | 125 => 105 | 257 => 104 | 128 => 156 | 129 => 157 | 294 => 147 | 295 => 148 | 296 => 149 | 297 => 150 | 298 => 151 | 299 => 152 | 216 => 153 | 300 => 154 | 301 => 155 | 328 => 187 | 329 => 188 | 330 => 189 | 331 => 190 | 332 => 191 | 215 => 174 | 343 => 202 | n => n, fun | 28 => 26 | 3 => 3 | 46 => 166 | 0 => 0 | 51 => 208 | 53 => 210 | 4 => 4 | 183 => 202 | 182 => 201 | 131 => 176 | 5 => 5 | 9 => 9 | 218 => 230 | 222 => 234 | 228 => 246 | 229 => 247 | n => n, fun | n => n⟩
theorem Tryd.lays189 : Go.Proofs.Lays.n189 Tryd.prog Tryd.lays189_ren := {
  mixed := by kernel_rfl
  f125 := Tryd.func105.trans (congrArg some (by kernel_rfl))
  f128 := Tryd.func156.trans (congrArg some (by kernel_rfl))
  f129 := Tryd.func157.trans (congrArg some (by kernel_rfl))
  f189 := Tryd.func70.trans (congrArg some (by kernel_rfl))
  f215 := Tryd.func174.trans (congrArg some (by kernel_rfl))
  f216 := Tryd.func153.trans (congrArg some (by kernel_rfl))
  f257 := Tryd.func104.trans (congrArg some (by kernel_rfl))
  f294 := Tryd.func147.trans (congrArg some (by kernel_rfl))
  f295 := Tryd.func148.trans (congrArg some (by kernel_rfl))
  f296 := Tryd.func149.trans (congrArg some (by kernel_rfl))
  f297 := Tryd.func150.trans (congrArg some (by kernel_rfl))
  f298 := Tryd.func151.trans (congrArg some (by kernel_rfl))
  f299 := Tryd.func152.trans (congrArg some (by kernel_rfl))
  f300 := Tryd.func154.trans (congrArg some (by kernel_rfl))
  f301 := Tryd.func155.trans (congrArg some (by kernel_rfl))
  f328 := Tryd.func187.trans (congrArg some (by kernel_rfl))
  f329 := Tryd.func188.trans (congrArg some (by kernel_rfl))
  f330 := Tryd.func189.trans (congrArg some (by kernel_rfl))
  f331 := Tryd.func190.trans (congrArg some (by kernel_rfl))
  f332 := Tryd.func191.trans (congrArg some (by kernel_rfl))
  f343 := Tryd.func202.trans (congrArg some (by kernel_rfl))
  t0 := Tryd.underlying0
  a0 := Tryd.isAgg0
  z0 := Tryd.sizeOf0
  v0 := Tryd.zeroValue0
  t3 := Tryd.underlying3
  a3 := Tryd.isAgg3
  z3 := Tryd.sizeOf3
  v3 := Tryd.zeroValue3
  t4 := Tryd.underlying4
  a4 := Tryd.isAgg4
  z4 := Tryd.sizeOf4
  v4 := Tryd.zeroValue4
  t5 := Tryd.underlying5
  a5 := Tryd.isAgg5
  z5 := Tryd.sizeOf5
  v5 := Tryd.zeroValue5
  t9 := Tryd.underlying9
  a9 := Tryd.isAgg9
  z9 := Tryd.sizeOf9
  v9 := Tryd.zeroValue9
  t28 := Tryd.underlying26
  a28 := Tryd.isAgg26
  z28 := Tryd.sizeOf26
  v28 := Tryd.zeroValue26
  t46 := Tryd.underlying166
  a46 := Tryd.isAgg166
  z46 := Tryd.sizeOf166
  v46 := Tryd.zeroValue166
  t51 := Tryd.underlying208
  a51 := Tryd.isAgg208
  z51 := Tryd.sizeOf208
  v51 := Tryd.zeroValue208
  t53 := Tryd.underlying210
  a53 := Tryd.isAgg210
  z53 := Tryd.sizeOf210
  v53 := Tryd.zeroValue210
  t131 := Tryd.underlying176
  a131 := Tryd.isAgg176
  z131 := Tryd.sizeOf176
  v131 := Tryd.zeroValue176
  t182 := Tryd.underlying201
  a182 := Tryd.isAgg201
  z182 := Tryd.sizeOf201
  v182 := Tryd.zeroValue201
  t183 := Tryd.underlying202
  a183 := Tryd.isAgg202
  z183 := Tryd.sizeOf202
  v183 := Tryd.zeroValue202
  t218 := Tryd.underlying230
  a218 := Tryd.isAgg230
  z218 := Tryd.sizeOf230
  v218 := Tryd.zeroValue230
  t222 := Tryd.underlying234
  a222 := Tryd.isAgg234
  z222 := Tryd.sizeOf234
  v222 := Tryd.zeroValue234
  t228 := Tryd.underlying246
  a228 := Tryd.isAgg246
  z228 := Tryd.sizeOf246
  v228 := Tryd.zeroValue246
  t229 := Tryd.underlying247
  a229 := Tryd.isAgg247
  z229 := Tryd.sizeOf247
  v229 := Tryd.zeroValue247 }
open Go.Sort Go.RowKit in
theorem Tryd.slices_Sort_int (blk off cap : Nat) (zs : List Int) (w : World) (hH : Holds (Value.int .i64) w blk off zs.toArray) (hblk : blk < w.heap.size) (hsz : zs.length < 4611686018427387904) :
    Calls Tryd.prog 70 #[.slice (some ⟨blk, off, none⟩) zs.length cap] w fun e w' =>
      e = .returned (.tuple #[]) ∧ ∃ n os, w' = grow (putRow (Value.int .i64) (Sort.ahead w n) blk off (zs.mergeSort fun x y => decide (x ≤ y)).toArray) os := Any.slices_Sort_int Tryd.lays189 blk off cap zs w hH hblk hsz
end Go.Proofs
