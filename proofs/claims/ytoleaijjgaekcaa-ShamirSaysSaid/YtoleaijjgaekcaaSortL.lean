/- The library's sort of whole numbers: the facts of this program that the library's own theorem on it asks for (laid by the library's command). -/
import Derived.Shelf.Sort.Plain
import Derived.Shelf.Slices.In.SortNone
import Derived.Test.YtoleaijjgaekcaaProg
namespace Go.Proofs.Ytoleaijjgaekcaa
open Go.Proofs
open Go.Shelf
def lays189_ren : Go.Shelf.Ren := ⟨fun | 189 => 132 | 125 => 153 | 257 => 157 | 128 => 170 | 129 => 171 | 294 => 172 | 295 => 173 | 296 => 174 | 297 => 175 | 298 => 176 | 299 => 177 | 216 => 178 | 300 => 179 | 301 => 180 | 328 => 186 | 329 => 182 | 330 => 183 | 331 => 187 | 332 => 188 | 215 => 189 | 343 => 191 | n => n, fun | 28 => 60 | 3 => 3 | 46 => 183 | 0 => 0 | 51 => 199 | 53 => 24 | 4 => 4 | 183 => 192 | 182 => 191 | 131 => 196 | 5 => 5 | 9 => 9 | 218 => 207 | 222 => 211 | 228 => 215 | 229 => 41 | n => n, fun | n => n⟩
theorem lays189 : Go.Proofs.Lays.n189 Try.prog lays189_ren := {
  mixed := by kernel_rfl
  f125 := Try.func153.trans (congrArg some (by kernel_rfl))
  f128 := Try.func170.trans (congrArg some (by kernel_rfl))
  f129 := Try.func171.trans (congrArg some (by kernel_rfl))
  f189 := Try.func132.trans (congrArg some (by kernel_rfl))
  f215 := Try.func189.trans (congrArg some (by kernel_rfl))
  f216 := Try.func178.trans (congrArg some (by kernel_rfl))
  f257 := Try.func157.trans (congrArg some (by kernel_rfl))
  f294 := Try.func172.trans (congrArg some (by kernel_rfl))
  f295 := Try.func173.trans (congrArg some (by kernel_rfl))
  f296 := Try.func174.trans (congrArg some (by kernel_rfl))
  f297 := Try.func175.trans (congrArg some (by kernel_rfl))
  f298 := Try.func176.trans (congrArg some (by kernel_rfl))
  f299 := Try.func177.trans (congrArg some (by kernel_rfl))
  f300 := Try.func179.trans (congrArg some (by kernel_rfl))
  f301 := Try.func180.trans (congrArg some (by kernel_rfl))
  f328 := Try.func186.trans (congrArg some (by kernel_rfl))
  f329 := Try.func182.trans (congrArg some (by kernel_rfl))
  f330 := Try.func183.trans (congrArg some (by kernel_rfl))
  f331 := Try.func187.trans (congrArg some (by kernel_rfl))
  f332 := Try.func188.trans (congrArg some (by kernel_rfl))
  f343 := Try.func191.trans (congrArg some (by kernel_rfl))
  t0 := Try.underlying0
  a0 := Try.isAgg0
  z0 := Try.sizeOf0
  v0 := Try.zeroValue0
  t3 := Try.underlying3
  a3 := Try.isAgg3
  z3 := Try.sizeOf3
  v3 := Try.zeroValue3
  t4 := Try.underlying4
  a4 := Try.isAgg4
  z4 := Try.sizeOf4
  v4 := Try.zeroValue4
  t5 := Try.underlying5
  a5 := Try.isAgg5
  z5 := Try.sizeOf5
  v5 := Try.zeroValue5
  t9 := Try.underlying9
  a9 := Try.isAgg9
  z9 := Try.sizeOf9
  v9 := Try.zeroValue9
  t28 := Try.underlying60
  a28 := Try.isAgg60
  z28 := Try.sizeOf60
  v28 := Try.zeroValue60
  t46 := Try.underlying183
  a46 := Try.isAgg183
  z46 := Try.sizeOf183
  v46 := Try.zeroValue183
  t51 := Try.underlying199
  a51 := Try.isAgg199
  z51 := Try.sizeOf199
  v51 := Try.zeroValue199
  t53 := Try.underlying24
  a53 := Try.isAgg24
  z53 := Try.sizeOf24
  v53 := Try.zeroValue24
  t131 := Try.underlying196
  a131 := Try.isAgg196
  z131 := Try.sizeOf196
  v131 := Try.zeroValue196
  t182 := Try.underlying191
  a182 := Try.isAgg191
  z182 := Try.sizeOf191
  v182 := Try.zeroValue191
  t183 := Try.underlying192
  a183 := Try.isAgg192
  z183 := Try.sizeOf192
  v183 := Try.zeroValue192
  t218 := Try.underlying207
  a218 := Try.isAgg207
  z218 := Try.sizeOf207
  v218 := Try.zeroValue207
  t222 := Try.underlying211
  a222 := Try.isAgg211
  z222 := Try.sizeOf211
  v222 := Try.zeroValue211
  t228 := Try.underlying215
  a228 := Try.isAgg215
  z228 := Try.sizeOf215
  v228 := Try.zeroValue215
  t229 := Try.underlying41
  a229 := Try.isAgg41
  z229 := Try.sizeOf41
  v229 := Try.zeroValue41 }
end Go.Proofs.Ytoleaijjgaekcaa
