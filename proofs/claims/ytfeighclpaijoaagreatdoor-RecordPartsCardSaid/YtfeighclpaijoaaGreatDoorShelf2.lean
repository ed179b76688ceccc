/-
More contracts of the library at this translation, laid by the kit.
-/
import Derived.Shelf.Sort.Plain
import Derived.Test.YtfeighclpaijoaaGreatDoorShelf
namespace Go.Proofs
open Go.Shelf
def Tryz.lays189_ren : Go.Shelf.Ren := ⟨fun | 189 => 24 | 125 => 44 | 257 => 43 | 128 => 69 | 129 => 70 | 294 => 61 | 295 => 62 | 296 => 63 | 297 => 64 | 298 => 65 | 299 => 66 | 216 => 45 | 300 => 67 | 301 => 68 | 328 => 87 | 329 => 88 | 330 => 89 | 331 => 90 | 332 => 91 | 215 => 71 | 343 => 97 | n => n, fun | 28 => 38 | 3 => 3 | 46 => 84 | 0 => 0 | 51 => 104 | 53 => 106 | 4 => 4 | 183 => 98 | 182 => 97 | 131 => 70 | 5 => 5 | 9 => 9 | 218 => 117 | 222 => 121 | 228 => 125 | 229 => 126 | n => n, fun | n => n⟩
theorem Tryz.lays189 : Go.Proofs.Lays.n189 Tryz.prog Tryz.lays189_ren := {
  mixed := by kernel_rfl
  f125 := Tryz.func44.trans (congrArg some (by kernel_rfl))
  f128 := Tryz.func69.trans (congrArg some (by kernel_rfl))
  f129 := Tryz.func70.trans (congrArg some (by kernel_rfl))
  f189 := Tryz.func24.trans (congrArg some (by kernel_rfl))
  f215 := Tryz.func71.trans (congrArg some (by kernel_rfl))
  f216 := Tryz.func45.trans (congrArg some (by kernel_rfl))
  f257 := Tryz.func43.trans (congrArg some (by kernel_rfl))
  f294 := Tryz.func61.trans (congrArg some (by kernel_rfl))
  f295 := Tryz.func62.trans (congrArg some (by kernel_rfl))
  f296 := Tryz.func63.trans (congrArg some (by kernel_rfl))
  f297 := Tryz.func64.trans (congrArg some (by kernel_rfl))
  f298 := Tryz.func65.trans (congrArg some (by kernel_rfl))
  f299 := Tryz.func66.trans (congrArg some (by kernel_rfl))
  f300 := Tryz.func67.trans (congrArg some (by kernel_rfl))
  f301 := Tryz.func68.trans (congrArg some (by kernel_rfl))
  f328 := Tryz.func87.trans (congrArg some (by kernel_rfl))
  f329 := Tryz.func88.trans (congrArg some (by kernel_rfl))
  f330 := Tryz.func89.trans (congrArg some (by kernel_rfl))
  f331 := Tryz.func90.trans (congrArg some (by kernel_rfl))
  f332 := Tryz.func91.trans (congrArg some (by kernel_rfl))
  f343 := Tryz.func97.trans (congrArg some (by kernel_rfl))
  t0 := Tryz.underlying0
  a0 := Tryz.isAgg0
  z0 := Tryz.sizeOf0
  v0 := Tryz.zeroValue0
  t3 := Tryz.underlying3
  a3 := Tryz.isAgg3
  z3 := Tryz.sizeOf3
  v3 := Tryz.zeroValue3
  t4 := Tryz.underlying4
  a4 := Tryz.isAgg4
  z4 := Tryz.sizeOf4
  v4 := Tryz.zeroValue4
  t5 := Tryz.underlying5
  a5 := Tryz.isAgg5
  z5 := Tryz.sizeOf5
  v5 := Tryz.zeroValue5
  t9 := Tryz.underlying9
  a9 := Tryz.isAgg9
  z9 := Tryz.sizeOf9
  v9 := Tryz.zeroValue9
  t28 := Tryz.underlying38
  a28 := Tryz.isAgg38
  z28 := Tryz.sizeOf38
  v28 := Tryz.zeroValue38
  t46 := Tryz.underlying84
  a46 := Tryz.isAgg84
  z46 := Tryz.sizeOf84
  v46 := Tryz.zeroValue84
  t51 := Tryz.underlying104
  a51 := Tryz.isAgg104
  z51 := Tryz.sizeOf104
  v51 := Tryz.zeroValue104
  t53 := Tryz.underlying106
  a53 := Tryz.isAgg106
  z53 := Tryz.sizeOf106
  v53 := Tryz.zeroValue106
  t131 := Tryz.underlying70
  a131 := Tryz.isAgg70
  z131 := Tryz.sizeOf70
  v131 := Tryz.zeroValue70
  t182 := Tryz.underlying97
  a182 := Tryz.isAgg97
  z182 := Tryz.sizeOf97
  v182 := Tryz.zeroValue97
  t183 := Tryz.underlying98
  a183 := Tryz.isAgg98
  z183 := Tryz.sizeOf98
  v183 := Tryz.zeroValue98
  t218 := Tryz.underlying117
  a218 := Tryz.isAgg117
  z218 := Tryz.sizeOf117
  v218 := Tryz.zeroValue117
  t222 := Tryz.underlying121
  a222 := Tryz.isAgg121
  z222 := Tryz.sizeOf121
  v222 := Tryz.zeroValue121
  t228 := Tryz.underlying125
  a228 := Tryz.isAgg125
  z228 := Tryz.sizeOf125
  v228 := Tryz.zeroValue125
  t229 := Tryz.underlying126
  a229 := Tryz.isAgg126
  z229 := Tryz.sizeOf126
  v229 := Tryz.zeroValue126 }
open Go.Sort Go.RowKit in
theorem Tryz.slices_Sort_int (blk off cap : Nat) (zs : List Int) (w : World) (hH : Holds (Value.int .i64) w blk off zs.toArray) (hblk : blk < w.heap.size) (hsz : zs.length < 4611686018427387904) :
    Calls Tryz.prog 24 #[.slice (some ⟨blk, off, none⟩) zs.length cap] w fun e w' =>
      e = .returned (.tuple #[]) ∧ ∃ n os, w' = grow (putRow (Value.int .i64) (Sort.ahead w n) blk off (zs.mergeSort fun x y => decide (x ≤ y)).toArray) os := Any.slices_Sort_int Tryz.lays189 blk off cap zs w hH hblk hsz
end Go.Proofs
