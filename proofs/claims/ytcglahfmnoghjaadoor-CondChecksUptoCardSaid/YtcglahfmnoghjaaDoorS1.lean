/-
  DERIVED: THE SHELF's CONTRACTS AT THIS DUMP, IN PLAIN WORDS (tools/lay-plain.mjs out of 'YtcglahfmnoghjaaDoorS1.lean', which tools/lay-shelf.mjs wrote): THE SAME DECLARATIONS UNDER THE SAME NAMES: 'import', 'namespace', 'open', 'def', 'theorem' AND NOTHING ELSE: no command of the shelf's: FOR A HAND-IN. Each laying: the table of numbers ('.._ren') and one theorem, a field a fact of the dump's own or the kernel's comparison; each contract: ONE APPLICATION.
-/
import Derived.Shelf.Sort.Plain
import Derived.Shelf.Slices.In.SortNone
import Derived.Shelf.Slices.Cells
import Derived.Ground.NamesProg
import Derived.Ground.Names2Prog
import Derived.Test.YtcglahfmnoghjaaDoorProg
namespace Go.Proofs
open Go.Shelf
def Tryd.lays189_ren : Go.Shelf.Ren := ⟨fun | 189 => 54 | 125 => 96 | 257 => 95 | 128 => 127 | 129 => 128 | 294 => 118 | 295 => 119 | 296 => 120 | 297 => 121 | 298 => 122 | 299 => 123 | 216 => 124 | 300 => 125 | 301 => 126 | 328 => 132 | 329 => 133 | 330 => 134 | 331 => 135 | 332 => 136 | 215 => 106 | 343 => 138 | n => n, fun | 28 => 25 | 3 => 3 | 46 => 52 | 0 => 0 | 51 => 150 | 53 => 110 | 4 => 4 | 183 => 199 | 182 => 198 | 131 => 204 | 5 => 5 | 9 => 9 | 218 => 217 | 222 => 221 | 228 => 223 | 229 => 72 | n => n, fun | n => n⟩
theorem Tryd.lays189 : Go.Proofs.Lays.n189 Tryd.prog Tryd.lays189_ren := {
  mixed := by kernel_rfl
  f125 := Tryd.func96.trans (congrArg some (by kernel_rfl))
  f128 := Tryd.func127.trans (congrArg some (by kernel_rfl))
  f129 := Tryd.func128.trans (congrArg some (by kernel_rfl))
  f189 := Tryd.func54.trans (congrArg some (by kernel_rfl))
  f215 := Tryd.func106.trans (congrArg some (by kernel_rfl))
  f216 := Tryd.func124.trans (congrArg some (by kernel_rfl))
  f257 := Tryd.func95.trans (congrArg some (by kernel_rfl))
  f294 := Tryd.func118.trans (congrArg some (by kernel_rfl))
  f295 := Tryd.func119.trans (congrArg some (by kernel_rfl))
  f296 := Tryd.func120.trans (congrArg some (by kernel_rfl))
  f297 := Tryd.func121.trans (congrArg some (by kernel_rfl))
  f298 := Tryd.func122.trans (congrArg some (by kernel_rfl))
  f299 := Tryd.func123.trans (congrArg some (by kernel_rfl))
  f300 := Tryd.func125.trans (congrArg some (by kernel_rfl))
  f301 := Tryd.func126.trans (congrArg some (by kernel_rfl))
  f328 := Tryd.func132.trans (congrArg some (by kernel_rfl))
  f329 := Tryd.func133.trans (congrArg some (by kernel_rfl))
  f330 := Tryd.func134.trans (congrArg some (by kernel_rfl))
  f331 := Tryd.func135.trans (congrArg some (by kernel_rfl))
  f332 := Tryd.func136.trans (congrArg some (by kernel_rfl))
  f343 := Tryd.func138.trans (congrArg some (by kernel_rfl))
  t0 := Tryd.underlying0
  a0 := Tryd.isAgg0
  z0 := Tryd.sizeOf0
  v0 := Tryd.zeroValue0
  t3 := Tryd.underlying3
  a3 := Tryd.isAgg3
  z3 := Tryd.sizeOf3
  v3 := Tryd.zeroValue3
  t4 := Tryd.underlying4
  a4 := Tryd.isAgg4
  z4 := Tryd.sizeOf4
  v4 := Tryd.zeroValue4
  t5 := Tryd.underlying5
  a5 := Tryd.isAgg5
  z5 := Tryd.sizeOf5
  v5 := Tryd.zeroValue5
  t9 := Tryd.underlying9
  a9 := Tryd.isAgg9
  z9 := Tryd.sizeOf9
  v9 := Tryd.zeroValue9
  t28 := Tryd.underlying25
  a28 := Tryd.isAgg25
  z28 := Tryd.sizeOf25
  v28 := Tryd.zeroValue25
  t46 := Tryd.underlying52
  a46 := Tryd.isAgg52
  z46 := Tryd.sizeOf52
  v46 := Tryd.zeroValue52
  t51 := Tryd.underlying150
  a51 := Tryd.isAgg150
  z51 := Tryd.sizeOf150
  v51 := Tryd.zeroValue150
  t53 := Tryd.underlying110
  a53 := Tryd.isAgg110
  z53 := Tryd.sizeOf110
  v53 := Tryd.zeroValue110
  t131 := Tryd.underlying204
  a131 := Tryd.isAgg204
  z131 := Tryd.sizeOf204
  v131 := Tryd.zeroValue204
  t182 := Tryd.underlying198
  a182 := Tryd.isAgg198
  z182 := Tryd.sizeOf198
  v182 := Tryd.zeroValue198
  t183 := Tryd.underlying199
  a183 := Tryd.isAgg199
  z183 := Tryd.sizeOf199
  v183 := Tryd.zeroValue199
  t218 := Tryd.underlying217
  a218 := Tryd.isAgg217
  z218 := Tryd.sizeOf217
  v218 := Tryd.zeroValue217
  t222 := Tryd.underlying221
  a222 := Tryd.isAgg221
  z222 := Tryd.sizeOf221
  v222 := Tryd.zeroValue221
  t228 := Tryd.underlying223
  a228 := Tryd.isAgg223
  z228 := Tryd.sizeOf223
  v228 := Tryd.zeroValue223
  t229 := Tryd.underlying72
  a229 := Tryd.isAgg72
  z229 := Tryd.sizeOf72
  v229 := Tryd.zeroValue72 }
def Tryd.lays2_20_ren : Go.Shelf.Ren := ⟨fun | 20 => 55 | n => n, fun | 22 => 25 | 3 => 3 | 4 => 4 | 0 => 0 | n => n, fun | n => n⟩
theorem Tryd.lays2_20 : Go.Proofs.Lays2.n20 Tryd.prog Tryd.lays2_20_ren := {
  mixed := by kernel_rfl
  f20 := Tryd.func55.trans (congrArg some (by kernel_rfl))
  t0 := Tryd.underlying0
  a0 := Tryd.isAgg0
  z0 := Tryd.sizeOf0
  v0 := Tryd.zeroValue0
  t3 := Tryd.underlying3
  a3 := Tryd.isAgg3
  z3 := Tryd.sizeOf3
  v3 := Tryd.zeroValue3
  t4 := Tryd.underlying4
  a4 := Tryd.isAgg4
  z4 := Tryd.sizeOf4
  v4 := Tryd.zeroValue4
  t22 := Tryd.underlying25
  a22 := Tryd.isAgg25
  z22 := Tryd.sizeOf25
  v22 := Tryd.zeroValue25
  i3 := by kernel_rfl }
end Go.Proofs
