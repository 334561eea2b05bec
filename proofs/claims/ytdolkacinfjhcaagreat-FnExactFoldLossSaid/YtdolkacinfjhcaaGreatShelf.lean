/-
 DERIVED: THE SHELF's CONTRACTS AT THIS DUMP, IN PLAIN WORDS (tools/lay-plain.mjs out of 'TryzShelf.lean', which tools/lay-shelf.mjs wrote): THE SAME DECLARATIONS UNDER THE SAME NAMES: 'import', 'namespace', 'open', 'def', 'theorem' AND NOTHING ELSE: no command of the shelf's: FOR A HAND-IN. Each laying: the table of numbers ('.._ren') and one theorem, a field a fact of the dump's own or the kernel's comparison; each contract: ONE APPLICATION.
-/
import Derived.Shelf.Sort.Plain
import Derived.Ground.Names2Prog
import Derived.Shelf.Slices.CompactI
import Derived.Shelf.Slices.In.SortNone
import Derived.Test.YtdolkacinfjhcaaGreatProg
namespace Go.Proofs
open Go.Shelf
def Try.lays189_ren : Go.Shelf.Ren := ⟨fun | 189 => 280 | 125 => 317 | 257 => 316 | 128 => 344 | 129 => 345 | 294 => 335 | 295 => 336 | 296 => 337 | 297 => 338 | 298 => 339 | 299 => 340 | 216 => 341 | 300 => 342 | 301 => 343 | 328 => 357 | 329 => 358 | 330 => 359 | 331 => 360 | 332 => 361 | 215 => 362 | 343 => 369 | n => n, fun | 28 => 25 | 3 => 3 | 46 => 251 | 0 => 0 | 51 => 284 | 53 => 106 | 4 => 4 | 183 => 278 | 182 => 277 | 131 => 135 | 5 => 5 | 9 => 9 | 218 => 292 | 222 => 296 | 228 => 301 | 229 => 302 | n => n, fun | n => n⟩
theorem Try.lays189 : Go.Proofs.Lays.n189 Tryz.prog Try.lays189_ren := {
 mixed := by kernel_rfl
 f125 := Tryz.func317.trans (congrArg some (by kernel_rfl))
 f128 := Tryz.func344.trans (congrArg some (by kernel_rfl))
 f129 := Tryz.func345.trans (congrArg some (by kernel_rfl))
 f189 := Tryz.func280.trans (congrArg some (by kernel_rfl))
 f215 := Tryz.func362.trans (congrArg some (by kernel_rfl))
 f216 := Tryz.func341.trans (congrArg some (by kernel_rfl))
 f257 := Tryz.func316.trans (congrArg some (by kernel_rfl))
 f294 := Tryz.func335.trans (congrArg some (by kernel_rfl))
 f295 := Tryz.func336.trans (congrArg some (by kernel_rfl))
 f296 := Tryz.func337.trans (congrArg some (by kernel_rfl))
 f297 := Tryz.func338.trans (congrArg some (by kernel_rfl))
 f298 := Tryz.func339.trans (congrArg some (by kernel_rfl))
 f299 := Tryz.func340.trans (congrArg some (by kernel_rfl))
 f300 := Tryz.func342.trans (congrArg some (by kernel_rfl))
 f301 := Tryz.func343.trans (congrArg some (by kernel_rfl))
 f328 := Tryz.func357.trans (congrArg some (by kernel_rfl))
 f329 := Tryz.func358.trans (congrArg some (by kernel_rfl))
 f330 := Tryz.func359.trans (congrArg some (by kernel_rfl))
 f331 := Tryz.func360.trans (congrArg some (by kernel_rfl))
 f332 := Tryz.func361.trans (congrArg some (by kernel_rfl))
 f343 := Tryz.func369.trans (congrArg some (by kernel_rfl))
 t0 := Tryz.underlying0
 a0 := Tryz.isAgg0
 z0 := Tryz.sizeOf0
 v0 := Tryz.zeroValue0
 t3 := Tryz.underlying3
 a3 := Tryz.isAgg3
 z3 := Tryz.sizeOf3
 v3 := Tryz.zeroValue3
 t4 := Tryz.underlying4
 a4 := Tryz.isAgg4
 z4 := Tryz.sizeOf4
 v4 := Tryz.zeroValue4
 t5 := Tryz.underlying5
 a5 := Tryz.isAgg5
 z5 := Tryz.sizeOf5
 v5 := Tryz.zeroValue5
 t9 := Tryz.underlying9
 a9 := Tryz.isAgg9
 z9 := Tryz.sizeOf9
 v9 := Tryz.zeroValue9
 t28 := Tryz.underlying25
 a28 := Tryz.isAgg25
 z28 := Tryz.sizeOf25
 v28 := Tryz.zeroValue25
 t46 := Tryz.underlying251
 a46 := Tryz.isAgg251
 z46 := Tryz.sizeOf251
 v46 := Tryz.zeroValue251
 t51 := Tryz.underlying284
 a51 := Tryz.isAgg284
 z51 := Tryz.sizeOf284
 v51 := Tryz.zeroValue284
 t53 := Tryz.underlying106
 a53 := Tryz.isAgg106
 z53 := Tryz.sizeOf106
 v53 := Tryz.zeroValue106
 t131 := Tryz.underlying135
 a131 := Tryz.isAgg135
 z131 := Tryz.sizeOf135
 v131 := Tryz.zeroValue135
 t182 := Tryz.underlying277
 a182 := Tryz.isAgg277
 z182 := Tryz.sizeOf277
 v182 := Tryz.zeroValue277
 t183 := Tryz.underlying278
 a183 := Tryz.isAgg278
 z183 := Tryz.sizeOf278
 v183 := Tryz.zeroValue278
 t218 := Tryz.underlying292
 a218 := Tryz.isAgg292
 z218 := Tryz.sizeOf292
 v218 := Tryz.zeroValue292
 t222 := Tryz.underlying296
 a222 := Tryz.isAgg296
 z222 := Tryz.sizeOf296
 v222 := Tryz.zeroValue296
 t228 := Tryz.underlying301
 a228 := Tryz.isAgg301
 z228 := Tryz.sizeOf301
 v228 := Tryz.zeroValue301
 t229 := Tryz.underlying302
 a229 := Tryz.isAgg302
 z229 := Tryz.sizeOf302
 v229 := Tryz.zeroValue302 }
open Go.Sort Go.RowKit in
theorem Try.slices_Sort_int (blk off cap : Nat) (zs : List Int) (w : World) (hH : Holds (Value.int .i64) w blk off zs.toArray) (hblk : blk < w.heap.size) (hsz : zs.length < 4611686018427387904) :
  Calls Tryz.prog 280 #[.slice (some ⟨blk, off, none⟩) zs.length cap] w fun e w' =>
   e = .returned (.tuple #[]) ∧ ∃ n os, w' = grow (putRow (Value.int .i64) (Sort.ahead w n) blk off (zs.mergeSort fun x y => decide (x ≤ y)).toArray) os := Any.slices_Sort_int Try.lays189 blk off cap zs w hH hblk hsz
def Try.laysNm220_ren : Go.Shelf.Ren := ⟨fun | 20 => 201 | n => n, fun | 22 => 25 | 3 => 3 | 4 => 4 | 0 => 0 | n => n, fun | n => n⟩
theorem Try.laysNm220 : Go.Proofs.Lays2.n20 Tryz.prog Try.laysNm220_ren := {
 mixed := by kernel_rfl
 f20 := Tryz.func201.trans (congrArg some (by kernel_rfl))
 t0 := Tryz.underlying0
 a0 := Tryz.isAgg0
 z0 := Tryz.sizeOf0
 v0 := Tryz.zeroValue0
 t3 := Tryz.underlying3
 a3 := Tryz.isAgg3
 z3 := Tryz.sizeOf3
 v3 := Tryz.zeroValue3
 t4 := Tryz.underlying4
 a4 := Tryz.isAgg4
 z4 := Tryz.sizeOf4
 v4 := Tryz.zeroValue4
 t22 := Tryz.underlying25
 a22 := Tryz.isAgg25
 z22 := Tryz.sizeOf25
 v22 := Tryz.zeroValue25
 i3 := by kernel_rfl }
open Go.RowKit Go.Lib Go.Sort in
open Go.RowKit Go.Lib Go.Sort in
theorem Try.slices_Compact_int (blk off cap : Nat) (zs : List Int) (w : World) (hH : Holds (Value.int .i64) w blk off zs.toArray) (hsz : zs.length ≤ 9223372036854775807) (hcap : zs.length ≤ cap) :
  Calls Tryz.prog 201 #[.slice (some ⟨blk, off, none⟩) zs.length cap] w fun e w' => e = .returned (.slice (some ⟨blk, off, none⟩) (Lib.compact zs).length cap) ∧ ∃ q, w' = putRow (Value.int .i64) (Sort.ahead w q) blk off (Lib.compact zs ++ List.replicate (zs.length - (Lib.compact zs).length) 0).toArray := Any.slices_Compact_int Try.laysNm220 blk off cap zs w hH hsz hcap
open Go.RowKit Go.Lib Go.Sort in
theorem Try.slices_Compact_int_empty (a : Option Addr) (cap : Nat) (w : World) :
  Calls Tryz.prog 201 #[.slice a 0 cap] w fun e w' => e = .returned (.slice a 0 cap) ∧ w' = w := Any.slices_Compact_int_empty Try.laysNm220 a cap w
open Go.RowKit Go.Sort in
theorem Try.slices_Sort_int_none (p : Option Addr) (cap : Nat) (w : World) :
  Calls Tryz.prog 280 #[.slice p 0 cap] w fun e w' => e = .returned (.tuple #[]) ∧ w' = w := Any.slices_Sort_int_none Try.lays189 p cap w
end Go.Proofs
