/- The numbers of library functions of this program, held against those of the library of contracts. -/
import Derived.Shelf.Sort.Plain
import Derived.Shelf.Slices.CompactI
import Derived.Ground.NamesProg
import Derived.Ground.Names2Prog
import Derived.Test.YtjflgkadagkllaaGreatProg
set_option maxRecDepth 100000
namespace Go.Proofs.YtjflgkadagkllaaGreat
open Go Go.Proofs
open Go.Shelf
def lays189_ren : Go.Shelf.Ren := ⟨fun | 189 => 53 | 125 => 68 | 257 => 67 | 128 => 85 | 129 => 86 | 294 => 76 | 295 => 77 | 296 => 78 | 297 => 79 | 298 => 80 | 299 => 81 | 216 => 82 | 300 => 83 | 301 => 84 | 328 => 88 | 329 => 89 | 330 => 90 | 331 => 91 | 332 => 92 | 215 => 93 | 343 => 94 | n => n, fun | 28 => 31 | 3 => 3 | 46 => 80 | 0 => 0 | 51 => 143 | 53 => 184 | 4 => 4 | 183 => 175 | 182 => 174 | 131 => 180 | 5 => 5 | 9 => 9 | 218 => 186 | 222 => 190 | 228 => 193 | 229 => 194 | n => n, fun | n => n⟩
theorem lays189 : Go.Proofs.Lays.n189 Tryz.prog lays189_ren := {
 mixed := by kernel_rfl
 f125 := Tryz.func68.trans (congrArg some (by kernel_rfl))
 f128 := Tryz.func85.trans (congrArg some (by kernel_rfl))
 f129 := Tryz.func86.trans (congrArg some (by kernel_rfl))
 f189 := Tryz.func53.trans (congrArg some (by kernel_rfl))
 f215 := Tryz.func93.trans (congrArg some (by kernel_rfl))
 f216 := Tryz.func82.trans (congrArg some (by kernel_rfl))
 f257 := Tryz.func67.trans (congrArg some (by kernel_rfl))
 f294 := Tryz.func76.trans (congrArg some (by kernel_rfl))
 f295 := Tryz.func77.trans (congrArg some (by kernel_rfl))
 f296 := Tryz.func78.trans (congrArg some (by kernel_rfl))
 f297 := Tryz.func79.trans (congrArg some (by kernel_rfl))
 f298 := Tryz.func80.trans (congrArg some (by kernel_rfl))
 f299 := Tryz.func81.trans (congrArg some (by kernel_rfl))
 f300 := Tryz.func83.trans (congrArg some (by kernel_rfl))
 f301 := Tryz.func84.trans (congrArg some (by kernel_rfl))
 f328 := Tryz.func88.trans (congrArg some (by kernel_rfl))
 f329 := Tryz.func89.trans (congrArg some (by kernel_rfl))
 f330 := Tryz.func90.trans (congrArg some (by kernel_rfl))
 f331 := Tryz.func91.trans (congrArg some (by kernel_rfl))
 f332 := Tryz.func92.trans (congrArg some (by kernel_rfl))
 f343 := Tryz.func94.trans (congrArg some (by kernel_rfl))
 t0 := Tryz.underlying0
 a0 := Tryz.isAgg0
 z0 := Tryz.sizeOf0
 v0 := Tryz.zeroValue0
 t3 := Tryz.underlying3
 a3 := Tryz.isAgg3
 z3 := Tryz.sizeOf3
 v3 := Tryz.zeroValue3
 t4 := Tryz.underlying4
 a4 := Tryz.isAgg4
 z4 := Tryz.sizeOf4
 v4 := Tryz.zeroValue4
 t5 := Tryz.underlying5
 a5 := Tryz.isAgg5
 z5 := Tryz.sizeOf5
 v5 := Tryz.zeroValue5
 t9 := Tryz.underlying9
 a9 := Tryz.isAgg9
 z9 := Tryz.sizeOf9
 v9 := Tryz.zeroValue9
 t28 := Tryz.underlying31
 a28 := Tryz.isAgg31
 z28 := Tryz.sizeOf31
 v28 := Tryz.zeroValue31
 t46 := Tryz.underlying80
 a46 := Tryz.isAgg80
 z46 := Tryz.sizeOf80
 v46 := Tryz.zeroValue80
 t51 := Tryz.underlying143
 a51 := Tryz.isAgg143
 z51 := Tryz.sizeOf143
 v51 := Tryz.zeroValue143
 t53 := Tryz.underlying184
 a53 := Tryz.isAgg184
 z53 := Tryz.sizeOf184
 v53 := Tryz.zeroValue184
 t131 := Tryz.underlying180
 a131 := Tryz.isAgg180
 z131 := Tryz.sizeOf180
 v131 := Tryz.zeroValue180
 t182 := Tryz.underlying174
 a182 := Tryz.isAgg174
 z182 := Tryz.sizeOf174
 v182 := Tryz.zeroValue174
 t183 := Tryz.underlying175
 a183 := Tryz.isAgg175
 z183 := Tryz.sizeOf175
 v183 := Tryz.zeroValue175
 t218 := Tryz.underlying186
 a218 := Tryz.isAgg186
 z218 := Tryz.sizeOf186
 v218 := Tryz.zeroValue186
 t222 := Tryz.underlying190
 a222 := Tryz.isAgg190
 z222 := Tryz.sizeOf190
 v222 := Tryz.zeroValue190
 t228 := Tryz.underlying193
 a228 := Tryz.isAgg193
 z228 := Tryz.sizeOf193
 v228 := Tryz.zeroValue193
 t229 := Tryz.underlying194
 a229 := Tryz.isAgg194
 z229 := Tryz.sizeOf194
 v229 := Tryz.zeroValue194 }
def lays20_ren : Go.Shelf.Ren := ⟨fun | 20 => 54 | n => n, fun | 22 => 31 | 3 => 3 | 4 => 4 | 0 => 0 | n => n, fun | n => n⟩
theorem lays20 : Go.Proofs.Lays2.n20 Tryz.prog lays20_ren := {
 mixed := by kernel_rfl
 f20 := Tryz.func54.trans (congrArg some (by kernel_rfl))
 t0 := Tryz.underlying0
 a0 := Tryz.isAgg0
 z0 := Tryz.sizeOf0
 v0 := Tryz.zeroValue0
 t3 := Tryz.underlying3
 a3 := Tryz.isAgg3
 z3 := Tryz.sizeOf3
 v3 := Tryz.zeroValue3
 t4 := Tryz.underlying4
 a4 := Tryz.isAgg4
 z4 := Tryz.sizeOf4
 v4 := Tryz.zeroValue4
 t22 := Tryz.underlying31
 a22 := Tryz.isAgg31
 z22 := Tryz.sizeOf31
 v22 := Tryz.zeroValue31
 i3 := by kernel_rfl }
end Go.Proofs.YtjflgkadagkllaaGreat
