/- The library's sort of whole numbers: the facts of this program that the library's own theorem on it asks for (laid by the library's command). -/
import Derived.Shelf.Sort.Plain
import Derived.Shelf.Slices.In.SortNone
import Derived.Test.YtbgfgkegcchaoaaProg
namespace Go.Proofs.Ytbgfgkegcchaoaa
open Go.Proofs
open Go.Shelf
def lays189_ren : Go.Shelf.Ren := ⟨fun | 189 => 64 | 125 => 124 | 257 => 123 | 128 => 161 | 129 => 162 | 294 => 152 | 295 => 153 | 296 => 154 | 297 => 155 | 298 => 156 | 299 => 157 | 216 => 158 | 300 => 159 | 301 => 160 | 328 => 180 | 329 => 181 | 330 => 182 | 331 => 183 | 332 => 184 | 215 => 185 | 343 => 193 | n => n, fun | 28 => 49 | 3 => 3 | 46 => 165 | 0 => 0 | 51 => 196 | 53 => 31 | 4 => 4 | 183 => 188 | 182 => 187 | 131 => 193 | 5 => 5 | 9 => 9 | 218 => 206 | 222 => 210 | 228 => 217 | 229 => 24 | n => n, fun | n => n⟩
theorem lays189 : Go.Proofs.Lays.n189 Try.prog lays189_ren := {
  mixed := by kernel_rfl
  f125 := Try.func124.trans (congrArg some (by kernel_rfl))
  f128 := Try.func161.trans (congrArg some (by kernel_rfl))
  f129 := Try.func162.trans (congrArg some (by kernel_rfl))
  f189 := Try.func64.trans (congrArg some (by kernel_rfl))
  f215 := Try.func185.trans (congrArg some (by kernel_rfl))
  f216 := Try.func158.trans (congrArg some (by kernel_rfl))
  f257 := Try.func123.trans (congrArg some (by kernel_rfl))
  f294 := Try.func152.trans (congrArg some (by kernel_rfl))
  f295 := Try.func153.trans (congrArg some (by kernel_rfl))
  f296 := Try.func154.trans (congrArg some (by kernel_rfl))
  f297 := Try.func155.trans (congrArg some (by kernel_rfl))
  f298 := Try.func156.trans (congrArg some (by kernel_rfl))
  f299 := Try.func157.trans (congrArg some (by kernel_rfl))
  f300 := Try.func159.trans (congrArg some (by kernel_rfl))
  f301 := Try.func160.trans (congrArg some (by kernel_rfl))
  f328 := Try.func180.trans (congrArg some (by kernel_rfl))
  f329 := Try.func181.trans (congrArg some (by kernel_rfl))
  f330 := Try.func182.trans (congrArg some (by kernel_rfl))
  f331 := Try.func183.trans (congrArg some (by kernel_rfl))
  f332 := Try.func184.trans (congrArg some (by kernel_rfl))
  f343 := Try.func193.trans (congrArg some (by kernel_rfl))
  t0 := Try.underlying0
  a0 := Try.isAgg0
  z0 := Try.sizeOf0
  v0 := Try.zeroValue0
  t3 := Try.underlying3
  a3 := Try.isAgg3
  z3 := Try.sizeOf3
  v3 := Try.zeroValue3
  t4 := Try.underlying4
  a4 := Try.isAgg4
  z4 := Try.sizeOf4
  v4 := Try.zeroValue4
  t5 := Try.underlying5
  a5 := Try.isAgg5
  z5 := Try.sizeOf5
  v5 := Try.zeroValue5
  t9 := Try.underlying9
  a9 := Try.isAgg9
  z9 := Try.sizeOf9
  v9 := Try.zeroValue9
  t28 := Try.underlying49
  a28 := Try.isAgg49
  z28 := Try.sizeOf49
  v28 := Try.zeroValue49
  t46 := Try.underlying165
  a46 := Try.isAgg165
  z46 := Try.sizeOf165
  v46 := Try.zeroValue165
  t51 := Try.underlying196
  a51 := Try.isAgg196
  z51 := Try.sizeOf196
  v51 := Try.zeroValue196
  t53 := Try.underlying31
  a53 := Try.isAgg31
  z53 := Try.sizeOf31
  v53 := Try.zeroValue31
  t131 := Try.underlying193
  a131 := Try.isAgg193
  z131 := Try.sizeOf193
  v131 := Try.zeroValue193
  t182 := Try.underlying187
  a182 := Try.isAgg187
  z182 := Try.sizeOf187
  v182 := Try.zeroValue187
  t183 := Try.underlying188
  a183 := Try.isAgg188
  z183 := Try.sizeOf188
  v183 := Try.zeroValue188
  t218 := Try.underlying206
  a218 := Try.isAgg206
  z218 := Try.sizeOf206
  v218 := Try.zeroValue206
  t222 := Try.underlying210
  a222 := Try.isAgg210
  z222 := Try.sizeOf210
  v222 := Try.zeroValue210
  t228 := Try.underlying217
  a228 := Try.isAgg217
  z228 := Try.sizeOf217
  v228 := Try.zeroValue217
  t229 := Try.underlying24
  a229 := Try.isAgg24
  z229 := Try.sizeOf24
  v229 := Try.zeroValue24 }
end Go.Proofs.Ytbgfgkegcchaoaa
