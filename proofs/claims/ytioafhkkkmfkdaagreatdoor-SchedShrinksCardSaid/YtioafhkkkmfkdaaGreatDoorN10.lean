/- The layings of the library's contracts (written by the kit's lay-shelf and lay-plain). Contracts of Go's library, and of reading and writing words, for the abstract machine. Contracts of strings.Join and strings.Split at a blank, for the abstract machine. Plain: texts by their words; cut at an x. Plain: schedules as texts, there and back. Contracts of sched: reading a schedule. Contracts of sched: a function told of each (slices.IndexFunc, ContainsFunc): paces, cores, steps. Contracts of sched: begun, and the first step of a core (slices.IndexFunc with a captured place). Contract of sched: Print. Contracts of vm: Ended, Prints, Ready. Contracts of the reference: fault, Ended. Contracts of sched: Timed. Contracts of the reference: ahead, Timed. -/
import Derived.Shelf.Strings.Builder1
import Derived.Shelf.Strings.Builder2
import Derived.Shelf.Strings.OnBuilder
import Derived.Shelf.Strings.Builder2Cap
import Derived.Shelf.Strconv.Itoa0
import Derived.Shelf.Strconv.Itoa1
import Derived.Shelf.LaysM
import Derived.Shelf.Strconv.Itoa2
import Derived.Shelf.Strconv.Itoa3
import Derived.Shelf.Strings.Search1
import Derived.Shelf.Strings.Search2
import Derived.Shelf.Strings.Search3
import Derived.Shelf.Strings.Cut
import Derived.Shelf.Strings.Count
import Derived.Shelf.Strings.Shaped
import Derived.Shelf.Strings.Prefix
import Derived.Shelf.Strings.Split
import Derived.Shelf.Strings.SplitShaped
import Derived.Shelf.Bits.Mul64
import Derived.Shelf.Unicode.DecodeSlow
import Derived.Shelf.Unicode.DecodeAny
import Derived.Test.YtioafhkkkmfkdaaGreatDoorProg
import Derived.Test.YtioafhkkkmfkdaaGreatDoorN7
import Derived.Test.YtioafhkkkmfkdaaGreatDoorN8
import Derived.Lib.ItoaLen
import Derived.Lib.AppendIntMem
import Derived.Test.YtioafhkkkmfkdaaGreatDoorN5
import Derived.Test.YtioafhkkkmfkdaaGreatDoorN4
import Derived.Test.YtioafhkkkmfkdaaGreatDoorN9
set_option linter.all false

set_option linter.all false
namespace Go.Proofs
open Go.Shelf
def Tryz.lays156_ren : Go.Shelf.Ren := ⟨fun | 156 => 50 | 165 => 79 | 166 => 80 | 169 => 81 | 240 => 104 | 241 => 105 | 276 => 138 | 277 => 139 | n => n, fun | 31 => 102 | 9 => 9 | 3 => 3 | 4 => 4 | 0 => 0 | 20 => 20 | 72 => 155 | 76 => 159 | 70 => 152 | 37 => 153 | 75 => 158 | 127 => 191 | 164 => 213 | 5 => 5 | 80 => 161 | n => n, fun | n => n⟩
theorem Tryz.lays156 : Go.Proofs.Lays.n156 Tryz.prog Tryz.lays156_ren := {
  mixed := by kernel_rfl
  f156 := Tryz.func50.trans (congrArg some (by kernel_rfl))
  f165 := Tryz.func79.trans (congrArg some (by kernel_rfl))
  f166 := Tryz.func80.trans (congrArg some (by kernel_rfl))
  f169 := Tryz.func81.trans (congrArg some (by kernel_rfl))
  f240 := Tryz.func104.trans (congrArg some (by kernel_rfl))
  f241 := Tryz.func105.trans (congrArg some (by kernel_rfl))
  f276 := Tryz.func138.trans (congrArg some (by kernel_rfl))
  f277 := Tryz.func139.trans (congrArg some (by kernel_rfl))
  t0 := Tryz.underlying0
  a0 := Tryz.isAgg0
  z0 := Tryz.sizeOf0
  v0 := Tryz.zeroValue0
  t3 := Tryz.underlying3
  a3 := Tryz.isAgg3
  z3 := Tryz.sizeOf3
  v3 := Tryz.zeroValue3
  t4 := Tryz.underlying4
  a4 := Tryz.isAgg4
  z4 := Tryz.sizeOf4
  v4 := Tryz.zeroValue4
  t9 := Tryz.underlying9
  a9 := Tryz.isAgg9
  z9 := Tryz.sizeOf9
  v9 := Tryz.zeroValue9
  t20 := Tryz.underlying20
  a20 := Tryz.isAgg20
  z20 := Tryz.sizeOf20
  v20 := Tryz.zeroValue20
  t31 := Tryz.underlying102
  a31 := Tryz.isAgg102
  z31 := Tryz.sizeOf102
  v31 := Tryz.zeroValue102
  t37 := Tryz.underlying153
  a37 := Tryz.isAgg153
  z37 := Tryz.sizeOf153
  v37 := Tryz.zeroValue153
  t70 := Tryz.underlying152
  a70 := Tryz.isAgg152
  z70 := Tryz.sizeOf152
  v70 := Tryz.zeroValue152
  t72 := Tryz.underlying155
  a72 := Tryz.isAgg155
  z72 := Tryz.sizeOf155
  v72 := Tryz.zeroValue155
  t75 := Tryz.underlying158
  a75 := Tryz.isAgg158
  z75 := Tryz.sizeOf158
  v75 := Tryz.zeroValue158
  t76 := Tryz.underlying159
  a76 := Tryz.isAgg159
  z76 := Tryz.sizeOf159
  v76 := Tryz.zeroValue159
  t127 := Tryz.underlying191
  a127 := Tryz.isAgg191
  z127 := Tryz.sizeOf191
  v127 := Tryz.zeroValue191
  t164 := Tryz.underlying213
  a164 := Tryz.isAgg213
  z164 := Tryz.sizeOf213
  v164 := Tryz.zeroValue213 }
theorem Tryz.Builder_Extra_156 : Builder.Extra Tryz.prog Tryz.lays156_ren := {
  sizeBuilder := by kernel_rfl
  liesBuilder := by kernel_rfl
  t5 := Tryz.underlying5
  a5 := Tryz.isAgg5
  z5 := Tryz.sizeOf5
  v5 := Tryz.zeroValue5
  infoByte := by kernel_rfl
  cellsByte := by kernel_rfl
  sizeByte := by kernel_rfl
  neB5 := by decide }
def Tryz.laysM171_ren : Go.Shelf.Ren := ⟨fun | 171 => 49 | 243 => 78 | 246 => 103 | 283 => 134 | 284 => 135 | 285 => 136 | 286 => 137 | 129 => 155 | 317 => 154 | 318 => 156 | 319 => 157 | 320 => 158 | 337 => 166 | 338 => 167 | n => n, fun | 3 => 3 | 9 => 9 | 2 => 2 | 4 => 4 | 171 => 208 | 0 => 0 | 53 => 53 | 37 => 153 | 5 => 5 | 173 => 211 | 212 => 232 | 51 => 233 | 20 => 20 | 213 => 234 | 46 => 126 | 232 => 252 | 233 => 253 | n => n, fun | 17 => 0 | 18 => 4 | 19 => 5 | n => n⟩
theorem Tryz.laysM171 : Go.Proofs.LaysM.n171 Tryz.prog Tryz.laysM171_ren := {
  mixed := by kernel_rfl
  f129 := Tryz.func155.trans (congrArg some (by kernel_rfl))
  f171 := Tryz.func49.trans (congrArg some (by kernel_rfl))
  f243 := Tryz.func78.trans (congrArg some (by kernel_rfl))
  f246 := Tryz.func103.trans (congrArg some (by kernel_rfl))
  f283 := Tryz.func134.trans (congrArg some (by kernel_rfl))
  f284 := Tryz.func135.trans (congrArg some (by kernel_rfl))
  f285 := Tryz.func136.trans (congrArg some (by kernel_rfl))
  f286 := Tryz.func137.trans (congrArg some (by kernel_rfl))
  f317 := Tryz.func154.trans (congrArg some (by kernel_rfl))
  f318 := Tryz.func156.trans (congrArg some (by kernel_rfl))
  f319 := Tryz.func157.trans (congrArg some (by kernel_rfl))
  f320 := Tryz.func158.trans (congrArg some (by kernel_rfl))
  f337 := Tryz.func166.trans (congrArg some (by kernel_rfl))
  f338 := Tryz.func167.trans (congrArg some (by kernel_rfl))
  t0 := Tryz.underlying0
  a0 := Tryz.isAgg0
  z0 := Tryz.sizeOf0
  v0 := Tryz.zeroValue0
  t2 := Tryz.underlying2
  a2 := Tryz.isAgg2
  z2 := Tryz.sizeOf2
  v2 := Tryz.zeroValue2
  t3 := Tryz.underlying3
  a3 := Tryz.isAgg3
  z3 := Tryz.sizeOf3
  v3 := Tryz.zeroValue3
  t4 := Tryz.underlying4
  a4 := Tryz.isAgg4
  z4 := Tryz.sizeOf4
  v4 := Tryz.zeroValue4
  t5 := Tryz.underlying5
  a5 := Tryz.isAgg5
  z5 := Tryz.sizeOf5
  v5 := Tryz.zeroValue5
  t9 := Tryz.underlying9
  a9 := Tryz.isAgg9
  z9 := Tryz.sizeOf9
  v9 := Tryz.zeroValue9
  t20 := Tryz.underlying20
  a20 := Tryz.isAgg20
  z20 := Tryz.sizeOf20
  v20 := Tryz.zeroValue20
  t37 := Tryz.underlying153
  a37 := Tryz.isAgg153
  z37 := Tryz.sizeOf153
  v37 := Tryz.zeroValue153
  t46 := Tryz.underlying126
  a46 := Tryz.isAgg126
  z46 := Tryz.sizeOf126
  v46 := Tryz.zeroValue126
  t51 := Tryz.underlying233
  a51 := Tryz.isAgg233
  z51 := Tryz.sizeOf233
  v51 := Tryz.zeroValue233
  t53 := Tryz.underlying53
  a53 := Tryz.isAgg53
  z53 := Tryz.sizeOf53
  v53 := Tryz.zeroValue53
  t171 := Tryz.underlying208
  a171 := Tryz.isAgg208
  z171 := Tryz.sizeOf208
  v171 := Tryz.zeroValue208
  t173 := Tryz.underlying211
  a173 := Tryz.isAgg211
  z173 := Tryz.sizeOf211
  v173 := Tryz.zeroValue211
  t212 := Tryz.underlying232
  a212 := Tryz.isAgg232
  z212 := Tryz.sizeOf232
  v212 := Tryz.zeroValue232
  t213 := Tryz.underlying234
  a213 := Tryz.isAgg234
  z213 := Tryz.sizeOf234
  t232 := Tryz.underlying252
  a232 := Tryz.isAgg252
  z232 := Tryz.sizeOf252
  v232 := Tryz.zeroValue252
  t233 := Tryz.underlying253
  a233 := Tryz.isAgg253
  z233 := Tryz.sizeOf253
  v233 := Tryz.zeroValue253
  g17 := by kernel_rfl
  g18 := by kernel_rfl
  g19 := by kernel_rfl
  i0 := by kernel_rfl
  i2 := by kernel_rfl
  i3 := by kernel_rfl
  i4 := by kernel_rfl
  i5 := by kernel_rfl
  i9 := by kernel_rfl
  i20 := by kernel_rfl
  i37 := by kernel_rfl
  i46 := by kernel_rfl
  i51 := by kernel_rfl
  i53 := by kernel_rfl
  i171 := by kernel_rfl
  i173 := by kernel_rfl
  i212 := by kernel_rfl
  i232 := by kernel_rfl
  i233 := by kernel_rfl
  m17 := by kernel_rfl
  m18 := by kernel_rfl
  m19 := by kernel_rfl }
def Tryz.lays219_ren : Go.Shelf.Ren := ⟨fun | 219 => 143 | 217 => 160 | 225 => 161 | 224 => 162 | 267 => 163 | 266 => 168 | 314 => 169 | n => n, fun | 9 => 9 | 3 => 3 | 4 => 4 | 5 => 5 | 46 => 126 | 146 => 249 | 51 => 233 | n => n, fun | 1 => 1 | n => n⟩
theorem Tryz.lays219 : Go.Proofs.Lays.n219 Tryz.prog Tryz.lays219_ren := {
  mixed := by kernel_rfl
  f217 := Tryz.func160.trans (congrArg some (by kernel_rfl))
  f219 := Tryz.func143.trans (congrArg some (by kernel_rfl))
  f224 := Tryz.func162.trans (congrArg some (by kernel_rfl))
  f225 := Tryz.func161.trans (congrArg some (by kernel_rfl))
  f266 := Tryz.func168.trans (congrArg some (by kernel_rfl))
  f267 := Tryz.func163.trans (congrArg some (by kernel_rfl))
  f314 := Tryz.func169.trans (congrArg some (by kernel_rfl))
  t3 := Tryz.underlying3
  a3 := Tryz.isAgg3
  z3 := Tryz.sizeOf3
  v3 := Tryz.zeroValue3
  t4 := Tryz.underlying4
  a4 := Tryz.isAgg4
  z4 := Tryz.sizeOf4
  v4 := Tryz.zeroValue4
  t5 := Tryz.underlying5
  a5 := Tryz.isAgg5
  z5 := Tryz.sizeOf5
  v5 := Tryz.zeroValue5
  t9 := Tryz.underlying9
  a9 := Tryz.isAgg9
  z9 := Tryz.sizeOf9
  v9 := Tryz.zeroValue9
  t46 := Tryz.underlying126
  a46 := Tryz.isAgg126
  z46 := Tryz.sizeOf126
  v46 := Tryz.zeroValue126
  t51 := Tryz.underlying233
  a51 := Tryz.isAgg233
  z51 := Tryz.sizeOf233
  v51 := Tryz.zeroValue233
  t146 := Tryz.underlying249
  a146 := Tryz.isAgg249
  z146 := Tryz.sizeOf249
  v146 := Tryz.zeroValue249
  g1 := by kernel_rfl }
def Tryz.lays143_ren : Go.Shelf.Ren := ⟨fun | 143 => 108 | 219 => 143 | 217 => 160 | 225 => 161 | 224 => 162 | 267 => 163 | 266 => 168 | 314 => 169 | n => n, fun | 9 => 9 | 3 => 3 | 4 => 4 | 5 => 5 | 46 => 126 | 146 => 249 | 51 => 233 | n => n, fun | 1 => 1 | n => n⟩
theorem Tryz.lays143 : Go.Proofs.Lays.n143 Tryz.prog Tryz.lays143_ren := {
  mixed := by kernel_rfl
  f143 := Tryz.func108.trans (congrArg some (by kernel_rfl))
  f217 := Tryz.func160.trans (congrArg some (by kernel_rfl))
  f219 := Tryz.func143.trans (congrArg some (by kernel_rfl))
  f224 := Tryz.func162.trans (congrArg some (by kernel_rfl))
  f225 := Tryz.func161.trans (congrArg some (by kernel_rfl))
  f266 := Tryz.func168.trans (congrArg some (by kernel_rfl))
  f267 := Tryz.func163.trans (congrArg some (by kernel_rfl))
  f314 := Tryz.func169.trans (congrArg some (by kernel_rfl))
  t3 := Tryz.underlying3
  a3 := Tryz.isAgg3
  z3 := Tryz.sizeOf3
  v3 := Tryz.zeroValue3
  t4 := Tryz.underlying4
  a4 := Tryz.isAgg4
  z4 := Tryz.sizeOf4
  v4 := Tryz.zeroValue4
  t5 := Tryz.underlying5
  a5 := Tryz.isAgg5
  z5 := Tryz.sizeOf5
  v5 := Tryz.zeroValue5
  t9 := Tryz.underlying9
  a9 := Tryz.isAgg9
  z9 := Tryz.sizeOf9
  v9 := Tryz.zeroValue9
  t46 := Tryz.underlying126
  a46 := Tryz.isAgg126
  z46 := Tryz.sizeOf126
  v46 := Tryz.zeroValue126
  t51 := Tryz.underlying233
  a51 := Tryz.isAgg233
  z51 := Tryz.sizeOf233
  v51 := Tryz.zeroValue233
  t146 := Tryz.underlying249
  a146 := Tryz.isAgg249
  z146 := Tryz.sizeOf249
  v146 := Tryz.zeroValue249
  g1 := by kernel_rfl }
def Tryz.lays138_ren : Go.Shelf.Ren := ⟨fun | 138 => 107 | 195 => 140 | 218 => 142 | 143 => 108 | 219 => 143 | 217 => 160 | 225 => 161 | 224 => 162 | 267 => 163 | 266 => 168 | 314 => 169 | n => n, fun | 9 => 9 | 3 => 3 | 4 => 4 | 5 => 5 | 0 => 0 | 46 => 126 | 146 => 249 | 51 => 233 | n => n, fun | 1 => 1 | n => n⟩
theorem Tryz.lays138 : Go.Proofs.Lays.n138 Tryz.prog Tryz.lays138_ren := {
  mixed := by kernel_rfl
  f138 := Tryz.func107.trans (congrArg some (by kernel_rfl))
  f143 := Tryz.func108.trans (congrArg some (by kernel_rfl))
  f195 := Tryz.func140.trans (congrArg some (by kernel_rfl))
  f217 := Tryz.func160.trans (congrArg some (by kernel_rfl))
  f218 := Tryz.func142.trans (congrArg some (by kernel_rfl))
  f219 := Tryz.func143.trans (congrArg some (by kernel_rfl))
  f224 := Tryz.func162.trans (congrArg some (by kernel_rfl))
  f225 := Tryz.func161.trans (congrArg some (by kernel_rfl))
  f266 := Tryz.func168.trans (congrArg some (by kernel_rfl))
  f267 := Tryz.func163.trans (congrArg some (by kernel_rfl))
  f314 := Tryz.func169.trans (congrArg some (by kernel_rfl))
  t0 := Tryz.underlying0
  a0 := Tryz.isAgg0
  z0 := Tryz.sizeOf0
  v0 := Tryz.zeroValue0
  t3 := Tryz.underlying3
  a3 := Tryz.isAgg3
  z3 := Tryz.sizeOf3
  v3 := Tryz.zeroValue3
  t4 := Tryz.underlying4
  a4 := Tryz.isAgg4
  z4 := Tryz.sizeOf4
  v4 := Tryz.zeroValue4
  t5 := Tryz.underlying5
  a5 := Tryz.isAgg5
  z5 := Tryz.sizeOf5
  v5 := Tryz.zeroValue5
  t9 := Tryz.underlying9
  a9 := Tryz.isAgg9
  z9 := Tryz.sizeOf9
  v9 := Tryz.zeroValue9
  t46 := Tryz.underlying126
  a46 := Tryz.isAgg126
  z46 := Tryz.sizeOf126
  v46 := Tryz.zeroValue126
  t51 := Tryz.underlying233
  a51 := Tryz.isAgg233
  z51 := Tryz.sizeOf233
  v51 := Tryz.zeroValue233
  t146 := Tryz.underlying249
  a146 := Tryz.isAgg249
  z146 := Tryz.sizeOf249
  v146 := Tryz.zeroValue249
  g1 := by kernel_rfl }
def Tryz.lays99_ren : Go.Shelf.Ren := ⟨fun | 99 => 83 | 206 => 109 | n => n, fun | 9 => 9 | 4 => 4 | 3 => 3 | n => n, fun | n => n⟩
theorem Tryz.lays99 : Go.Proofs.Lays.n99 Tryz.prog Tryz.lays99_ren := {
  mixed := by kernel_rfl
  f99 := Tryz.func83.trans (congrArg some (by kernel_rfl))
  f206 := Tryz.func109.trans (congrArg some (by kernel_rfl))
  t3 := Tryz.underlying3
  a3 := Tryz.isAgg3
  z3 := Tryz.sizeOf3
  v3 := Tryz.zeroValue3
  t4 := Tryz.underlying4
  a4 := Tryz.isAgg4
  z4 := Tryz.sizeOf4
  v4 := Tryz.zeroValue4
  t9 := Tryz.underlying9
  a9 := Tryz.isAgg9
  z9 := Tryz.sizeOf9
  v9 := Tryz.zeroValue9 }
def Tryz.lays221_ren : Go.Shelf.Ren := ⟨fun | 221 => 82 | 268 => 106 | 138 => 107 | 143 => 108 | 195 => 140 | 197 => 141 | 218 => 142 | 219 => 143 | 260 => 159 | 217 => 160 | 225 => 161 | 224 => 162 | 267 => 163 | 266 => 168 | 314 => 169 | n => n, fun | 9 => 9 | 3 => 3 | 31 => 102 | 4 => 4 | 0 => 0 | 105 => 217 | 21 => 21 | 5 => 5 | 46 => 126 | 119 => 245 | 139 => 248 | 138 => 247 | 146 => 249 | 51 => 233 | n => n, fun | 1 => 1 | 3 => 2 | 4 => 3 | n => n⟩
theorem Tryz.lays221 : Go.Proofs.Lays.n221 Tryz.prog Tryz.lays221_ren := {
  mixed := by kernel_rfl
  f138 := Tryz.func107.trans (congrArg some (by kernel_rfl))
  f143 := Tryz.func108.trans (congrArg some (by kernel_rfl))
  f195 := Tryz.func140.trans (congrArg some (by kernel_rfl))
  f197 := Tryz.func141.trans (congrArg some (by kernel_rfl))
  f217 := Tryz.func160.trans (congrArg some (by kernel_rfl))
  f218 := Tryz.func142.trans (congrArg some (by kernel_rfl))
  f219 := Tryz.func143.trans (congrArg some (by kernel_rfl))
  f221 := Tryz.func82.trans (congrArg some (by kernel_rfl))
  f224 := Tryz.func162.trans (congrArg some (by kernel_rfl))
  f225 := Tryz.func161.trans (congrArg some (by kernel_rfl))
  f260 := Tryz.func159.trans (congrArg some (by kernel_rfl))
  f266 := Tryz.func168.trans (congrArg some (by kernel_rfl))
  f267 := Tryz.func163.trans (congrArg some (by kernel_rfl))
  f268 := Tryz.func106.trans (congrArg some (by kernel_rfl))
  f314 := Tryz.func169.trans (congrArg some (by kernel_rfl))
  t0 := Tryz.underlying0
  a0 := Tryz.isAgg0
  z0 := Tryz.sizeOf0
  v0 := Tryz.zeroValue0
  t3 := Tryz.underlying3
  a3 := Tryz.isAgg3
  z3 := Tryz.sizeOf3
  v3 := Tryz.zeroValue3
  t4 := Tryz.underlying4
  a4 := Tryz.isAgg4
  z4 := Tryz.sizeOf4
  v4 := Tryz.zeroValue4
  t5 := Tryz.underlying5
  a5 := Tryz.isAgg5
  z5 := Tryz.sizeOf5
  v5 := Tryz.zeroValue5
  t9 := Tryz.underlying9
  a9 := Tryz.isAgg9
  z9 := Tryz.sizeOf9
  v9 := Tryz.zeroValue9
  t21 := Tryz.underlying21
  a21 := Tryz.isAgg21
  z21 := Tryz.sizeOf21
  v21 := Tryz.zeroValue21
  t31 := Tryz.underlying102
  a31 := Tryz.isAgg102
  z31 := Tryz.sizeOf102
  v31 := Tryz.zeroValue102
  t46 := Tryz.underlying126
  a46 := Tryz.isAgg126
  z46 := Tryz.sizeOf126
  v46 := Tryz.zeroValue126
  t51 := Tryz.underlying233
  a51 := Tryz.isAgg233
  z51 := Tryz.sizeOf233
  v51 := Tryz.zeroValue233
  t105 := Tryz.underlying217
  a105 := Tryz.isAgg217
  z105 := Tryz.sizeOf217
  v105 := Tryz.zeroValue217
  t119 := Tryz.underlying245
  a119 := Tryz.isAgg245
  z119 := Tryz.sizeOf245
  t138 := Tryz.underlying247
  a138 := Tryz.isAgg247
  z138 := Tryz.sizeOf247
  v138 := Tryz.zeroValue247
  t139 := Tryz.underlying248
  a139 := Tryz.isAgg248
  z139 := Tryz.sizeOf248
  v139 := Tryz.zeroValue248
  t146 := Tryz.underlying249
  a146 := Tryz.isAgg249
  z146 := Tryz.sizeOf249
  v146 := Tryz.zeroValue249
  g1 := by kernel_rfl
  g3 := by kernel_rfl
  g4 := by kernel_rfl }

end Go.Proofs

namespace Go.Proofs.YtioafhkkkmfkdaaGreatDoor.am
open Go Go.Proofs Go.RowKit

/-- a contract out of a law on calls: a function that only makes blocks of its own -/
theorem Ctr.ofCalls {f : Nat} {args : List AV} {a : AV} (hc : Callable Tryz.prog f) (h : ∀ (g : Gh) (w : World) (vs : Array Value), MSt g w (ofL []) → vs.size = args.length → (∀ (i : Nat) (v : Value) (a : AV), vs[i]? = some v → args[i]? = some a → Rep g w v a) →
    Calls Tryz.prog f vs w fun e w' => ∃ v, e = .returned v ∧ Below w.heap.size w w' ∧ (Grow g w g w' → MSt g w' (ofLO []) → Rep g w' v a)) : K f args [] (.ret a) [] := by
  refine ⟨hc, fun g w vs hun hm hsz hv => (h g w vs hm hsz hv).mono ?_⟩
  rintro e w' ⟨v, rfl, hb, hR⟩
  have hG : Grow g w g w' := ⟨hb.os, hb.tape, hb.output, hb.size, fun b hk => hb.block b hk.1, fun b hk => hb.block b (hm.xlt b hk), rfl, fun _ h => h, fun _ _ h => .inl h, fun k b e => .inl ⟨k, e⟩⟩
  have hM : MSt g w' (ofLO []) := ⟨fun h b e => (by simp [ofLO] at e), hm.inj, fun k b e => Nat.lt_of_lt_of_le (hm.lt k b e) hb.size, fun b hk => Nat.lt_of_lt_of_le (hm.xlt b hk) hb.size, hm.xl, hm.gl.grow hG⟩
  exact ⟨g, hG, hM, fun k _ l hl => (by have := hun k (Nat.zero_le _); rw [this] at hl; cases hl), hR hG hM⟩
theorem one_arg {vs : Array Value} (h : vs.size = 1) : ∃ v, vs = #[v] := by
  obtain ⟨l⟩ := vs
  match l, h with
  | [v], _ => exact ⟨v, rfl⟩
theorem two_arg {vs : Array Value} (h : vs.size = 2) : ∃ v u, vs = #[v, u] := by
  obtain ⟨l⟩ := vs
  match l, h with
  | [v, u], _ => exact ⟨v, u, rfl⟩
theorem four_arg {vs : Array Value} (h : vs.size = 4) : ∃ v u x y, vs = #[v, u, x, y] := by
  obtain ⟨l⟩ := vs
  match l, h with
  | [v, u, x, y], _ => exact ⟨v, u, x, y, rfl⟩

/-! the table of the powers of ten -/
theorem powTab {g : Gh} {w : World} (h : GL g w) {name : String} (hn : Tryz.prog.globalNamed name = some 0) : Lib.TabIs Tryz.prog w name .u64 Lib.pow10Tab := by
  obtain ⟨_, t, fz, e⟩ := h _ _ ⟨rfl, rfl⟩
  unfold Lib.TabIs World.var?
  rw [hn, Option.bind_some, e]
  rfl

def prnB (n : Int) : ByteArray := ⟨(ws.prn n).toArray⟩
theorem decDigits_dig (u : Nat) : Lib.decDigits u = ws.dig u := by
  induction u using Nat.strongRecOn with
  | _ u ih =>
    by_cases h : u < 10
    · rw [Lib.decDigits, dif_pos h, ws.dig_small h]; rfl
    · rw [Lib.decDigits, dif_neg h, ws.dig_big h, ih (u / 10) (by omega)]; rfl
theorem itoa_prn (n : Int) : Lib.itoa n = ws.prn n := by
  unfold Lib.itoa ws.prn
  split
  · rw [decDigits_dig, show n.natAbs = (-n).toNat by omega]
  · rw [decDigits_dig]
theorem prn_len {n : Int} (h1 : -9223372036854775808 ≤ n) (h2 : n ≤ 9223372036854775807) : (prnB n).size ≤ 21 := by
  show (ws.prn n).toArray.size ≤ 21
  rw [List.size_toArray, ← itoa_prn]
  exact Lib.itoa_length_le n h1 h2
theorem k_itoa (n : Int) : K 49 [.tr (ti n)] [] (.ret (.tr (ts (prnB n)))) [] := by
  refine Ctr.ofCalls (fun _ _ => by kernel_rfl) fun g w vs hm hsz hv => ?_
  obtain ⟨v, rfl⟩ := one_arg hsz
  obtain ⟨rfl, h1, h2⟩ := val_inv (hv 0 v (.tr (ti n)) rfl rfl)
  refine (Any.strconv_Itoa Tryz.laysM171 n h1 h2 w (powTab hm.gl (by kernel_rfl))).mono ?_
  rintro e w' ⟨rfl, k, os, rfl⟩
  rw [itoa_prn]
  exact ⟨_, rfl, Lib.below_grow _ _ (Nat.le_refl _) _ _, fun _ _ => .tr (.v (Nat.le_trans (prn_len h1 h2) (by omega)))⟩
/-- what Parse gives: the word, the error's number, the place -/
def prsB (s : ByteArray) : Int × Int × Int := ws.prs s.data.toList
theorem pgo_in {neg : Bool} {at_ : Nat} : ∀ (l : List UInt8) (i n : Nat), n ≤ ws.most neg → i + l.length ≤ 9223372036854775807 →
    (-9223372036854775808 ≤ (ws.pgo neg at_ l i n).1 ∧ (ws.pgo neg at_ l i n).1 ≤ 9223372036854775807) ∧ ((ws.pgo neg at_ l i n).2.1 = 0 ∨ (ws.pgo neg at_ l i n).2.1 = 10) ∧ 0 ≤ (ws.pgo neg at_ l i n).2.2 ∧ (ws.pgo neg at_ l i n).2.2 ≤ 9223372036854775807
  | [], i, n, h, hl => by
    simp only [List.length_nil] at hl
    unfold ws.pgo
    split
    · exact ⟨⟨by simp, by simp⟩, .inr rfl, by simp, by simp; omega⟩
    · refine ⟨?_, .inl rfl, by simp, by simp⟩
      cases neg with
      | true => have h : n ≤ 9223372036854775808 := h; simp only [ws.okV, if_true]; omega
      | false => have h : n ≤ 9223372036854775807 := h; simp only [ws.okV]; simp; omega
  | c :: r, i, n, h, hl => by
    simp only [List.length_cons] at hl
    unfold ws.pgo
    split
    · exact ⟨⟨by simp, by simp⟩, .inr rfl, by simp, by simp; omega⟩
    · rename_i hb
      refine pgo_in r (i + 1) _ ?_ (by omega)
      apply Decidable.byContradiction
      intro hc
      refine hb ?_
      unfold ws.bad
      simp
      omega
theorem prs_in (s : ByteArray) (hs : s.size ≤ 9223372036854775807) : (-9223372036854775808 ≤ (prsB s).1 ∧ (prsB s).1 ≤ 9223372036854775807) ∧ ((prsB s).2.1 = 0 ∨ (prsB s).2.1 = 10) ∧ 0 ≤ (prsB s).2.2 ∧ (prsB s).2.2 ≤ 9223372036854775807 := by
  have hl : s.data.toList.length = s.size := by simp
  unfold prsB ws.prs
  split
  · rename_i h
    have : 0 < s.data.toList.length := by
      unfold ws.isNeg at h
      cases hd : s.data.toList with
      | nil => rw [hd] at h; cases h
      | cons _ _ => simp
    exact pgo_in _ _ _ (Nat.zero_le _) (by rw [List.length_drop]; omega)
  · exact pgo_in _ _ _ (Nat.zero_le _) (by omega)
theorem k_parseW (s : ByteArray) : K 111 [.tr (ts s)] [] (.ret (.tup [.tr (ti (prsB s).1), .tr (ti (prsB s).2.1), .tr (ti (prsB s).2.2)])) [] := by
  refine Ctr.ofCalls (fun _ _ => by kernel_rfl) fun g w vs hm hsz hv => ?_
  obtain ⟨v, rfl⟩ := one_arg hsz
  obtain ⟨rfl, h1⟩ := val_inv (hv 0 v (.tr (ts s)) rfl rfl)
  have h1 : s.size ≤ 9223372036854775807 := h1
  refine (ws.parse_any s w h1).mono ?_
  rintro e w' ⟨rfl, rfl⟩
  obtain ⟨⟨p1, p2⟩, p3, p4, p5⟩ := prs_in s h1
  refine ⟨_, rfl, Below.refl _ _, fun _ _ => .tup rfl fun i c a e1 e2 => ?_⟩
  match i with
  | 0 => cases e1; cases e2; exact .tr (.v ⟨p1, p2⟩)
  | 1 => cases e1; cases e2; exact .tr (.v ⟨by rcases p3 with h | h <;> (unfold prsB at h; rw [h]; decide), by rcases p3 with h | h <;> (unfold prsB at h; rw [h]; decide)⟩)
  | 2 => cases e1; cases e2; exact .tr (.v ⟨Int.le_trans (by decide) p4, p5⟩)
  | i + 3 => simp at e1
def prefB (s p : ByteArray) : Bool := Lib.hasPrefix s.data.toList p.data.toList
theorem k_hasPrefix (s p : ByteArray) : K 83 [.tr (ts s), .tr (ts p)] [] (.ret (.tr (tb (prefB s p)))) [] := by
  refine Ctr.ofCalls (fun _ _ => by kernel_rfl) fun g w vs hm hsz hv => ?_
  obtain ⟨v, u, rfl⟩ := two_arg hsz
  obtain ⟨rfl, _⟩ := val_inv (hv 0 v (.tr (ts s)) rfl rfl)
  obtain ⟨rfl, _⟩ := val_inv (hv 1 u (.tr (ts p)) rfl rfl)
  refine (Any.strings_HasPrefix Tryz.lays99 s p w).mono ?_
  rintro e w' ⟨rfl, rfl⟩
  exact ⟨_, rfl, Below.refl _ _, fun _ _ => .tr (.v trivial)⟩
def idxB (s : ByteArray) (c : Int) : Int := Lib.indexByte s.data.toList c.toNat.toUInt8
end Go.Proofs.YtioafhkkkmfkdaaGreatDoor.am

namespace Go.Proofs.YtioafhkkkmfkdaaGreatDoor.am
open Go Go.Proofs Go.RowKit

def srow (s : ByteArray) : List Tr := [ts s]
abbrev strsT (l : List ByteArray) : Tr := .lst 1 16 (l.map srow)
def blank : ByteArray := ⟨#[32]⟩
def joinL (l : List ByteArray) : List UInt8 := Lib.join (l.map (·.data.toList)) [32]
def joinB (l : List ByteArray) : ByteArray := ⟨(joinL l).toArray⟩
theorem strs_inv {ok : Nat → Prop} {w : World} {v : Value} {l : List ByteArray} (h : RepT ok w v (strsT l)) :
    ∃ ao cap, v = .slice ao l.length cap ∧ l.length ≤ cap ∧ (0 < l.length → ∃ b o, ao = some ⟨b, o, none⟩ ∧ ok b ∧ ∀ j x, l[j]? = some x → w.cell? ⟨b, o + j, none⟩ = some (.string x)) ∧ l.length * 16 ≤ 150000000000000 ∧ ∀ x ∈ l, x.size ≤ 9223372036854775807 := by
  obtain ⟨ao, cap, f, rfl, q1, q2, q3, q4, q5, q6⟩ := lst_inv h
  simp only [List.length_map] at q1 q3 ⊢
  have get : ∀ j x, l[j]? = some x → (l.map srow)[j]? = some [ts x] := fun j x hj => by rw [List.getElem?_map, hj]; rfl
  refine ⟨ao, cap, rfl, q1, fun h0 => ?_, q3, fun x hx => ?_⟩
  · obtain ⟨_, b, o, e, hb, _⟩ := q5 0 [ts l[0]] (get 0 _ (by simp [h0]))
    refine ⟨b, o, e, hb, fun j x hj => ?_⟩
    obtain ⟨_, b', o', e', _, hc⟩ := q5 j [ts x] (get j x hj)
    rw [e] at e'; cases e'
    have := hc 0 (by decide)
    rw [Nat.mul_one, Nat.add_zero] at this
    rw [this]
    have := q6 j [ts x] 0 (ts x) (get j x hj) rfl
    generalize f j 0 = fv at this
    cases this with
    | v hg => rfl
  · obtain ⟨j, hj⟩ := List.mem_iff_getElem?.1 hx
    have := q6 j [ts x] 0 (ts x) (get j x hj) rfl
    generalize f j 0 = fv at this
    cases this with
    | v hg => exact hg
theorem k_join (l : List ByteArray) (hlen : (joinL l).length ≤ 140737488355328) : K 50 [.tr (strsT l), .tr (ts blank)] [] (.ret (.tr (ts (joinB l)))) [] := by
  refine Ctr.ofCalls (fun _ _ => by kernel_rfl) fun g w vs hm hsz hv => ?_
  obtain ⟨v, u, rfl⟩ := two_arg hsz
  have hr := (hv 0 v (.tr (strsT l)) rfl rfl).tr_inv
  obtain ⟨rfl, _⟩ := val_inv (hv 1 u (.tr (ts blank)) rfl rfl)
  obtain ⟨ao, cap, rfl, q1, q2, q3, q4⟩ := strs_inv hr
  have hjs : (joinB l).size ≤ 9223372036854775807 := by show (joinL l).toArray.size ≤ _; rw [List.size_toArray]; omega
  by_cases h0 : 0 < l.length
  · obtain ⟨b, o, rfl, hb, hc⟩ := q2 h0
    refine (Any.strings_Join Tryz.lays156 Tryz.Builder_Extra_156 b o cap l blank w hc hb.1 (by omega) q1 hlen).mono ?_
    rintro e w' ⟨rfl, hb⟩
    exact ⟨_, rfl, hb, fun _ _ => .tr (.v hjs)⟩
  · have : l = [] := List.eq_nil_of_length_eq_zero (by omega)
    subst this
    refine (Any.strings_Join_none Tryz.lays156 Tryz.Builder_Extra_156 ao cap blank w).mono ?_
    rintro e w' ⟨rfl, rfl⟩
    exact ⟨_, rfl, Below.refl _ _, fun _ _ => .tr (.v hjs)⟩
/-! cut at each blank -/
def splitBl (s : ByteArray) : List ByteArray := Lib.splitB blank 0 (Lib.countB s blank) s
theorem splitBl_len (s : ByteArray) : (splitBl s).length = Lib.countB s blank + 1 := Lib.splitB_all blank (by decide) 0 _ s rfl
theorem splitB_size (sep : ByteArray) (k : Nat) : ∀ s : ByteArray, ∀ x ∈ Lib.splitB sep 0 k s, x.size ≤ s.size := by
  induction k with
  | zero => intro s x hx; simp [Lib.splitB] at hx; subst hx; exact Nat.le_refl _
  | succ k ih =>
    intro s x hx
    unfold Lib.splitB at hx
    split at hx
    · simp at hx; subst hx; exact Nat.le_refl _
    · simp only [List.mem_cons] at hx
      rcases hx with rfl | hx
      · simp [ByteArray.size_extract]; omega
      · have := ih _ x hx
        simp only [ByteArray.size_extract] at this
        omega
theorem count_size (s : ByteArray) : Lib.countB s blank ≤ s.size := Lib.countB_le blank (by decide) s.size s (Nat.le_refl _)
theorem k_genSplit (s : ByteArray) (hs : s.size < 4294967281) : K 82 [.tr (ts s), .tr (ts blank), .tr (ti 0), .tr (ti (-1))] [] (.ret (.tr (strsT (splitBl s)))) [] := by
  refine Ctr.ofCalls (fun _ _ => by kernel_rfl) fun g w vs hm hsz hv => ?_
  obtain ⟨v, u, x, y, rfl⟩ := four_arg hsz
  obtain ⟨rfl, h1⟩ := val_inv (hv 0 v (.tr (ts s)) rfl rfl)
  obtain ⟨rfl, _⟩ := val_inv (hv 1 u (.tr (ts blank)) rfl rfl)
  obtain ⟨rfl, _⟩ := val_inv (hv 2 x (.tr (ti 0)) rfl rfl)
  obtain ⟨rfl, _⟩ := val_inv (hv 3 y (.tr (ti (-1))) rfl rfl)
  have hlen := splitBl_len s
  have hcs := count_size s
  have hsp : Lib.splitB blank 0 (Lib.countB s blank + 1 - 1) s = splitBl s := by rw [Nat.add_sub_cancel]; rfl
  have hsv : (0 : Nat) ≤ blank.size := Nat.zero_le _
  refine (Any.strings_genSplit_core Tryz.lays221 (by kernel_rfl) s blank 0 (-1) (Lib.countB s blank + 1) w hs (by decide) hsv (fun x c hx => ?_) ?_ (by decide) (by decide) (by rw [if_pos (by decide)]; omega)).mono ?_
  · have := Any.strings_Index_one Tryz.lays143 x 32 (w.alloc (.cells c 9))
    rw [← Lib.index_one] at this
    exact this
  · have := Any.strings_Count_one Tryz.lays138 s 32 w
    have e : Lib.countByte s.data.toList 32 = Lib.countB s blank := (Lib.count_one 32 s.data.toList).symm
    rw [e] at this
    exact this
  · rintro e w' ⟨rfl, rfl⟩
    rw [hsp, hlen]
    refine ⟨_, rfl, (Below.refl _ _).alloc (Nat.le_refl _) _, fun hG hM => .tr ?_⟩
    have hnew : (w.alloc (.cells (Lib.cellsOf (splitBl s) (Lib.countB s blank + 1)) 9)).heap[w.heap.size]? = some (.cells (Lib.cellsOf (splitBl s) (Lib.countB s blank + 1)) 9) := heap_alloc_new w _
    have hok : okB g (w.alloc (.cells (Lib.cellsOf (splitBl s) (Lib.countB s blank + 1)) 9)) w.heap.size := ⟨by simp, fun hx => by have := hm.xlt _ hx; omega, fun h ho => by have := hm.lt h _ ho; omega⟩
    have get : ∀ i row, ((splitBl s).map srow)[i]? = some row → ∃ x, (splitBl s)[i]? = some x ∧ row = [ts x] := fun i row h => by
      obtain ⟨x, h1, h2⟩ := map_get h
      exact ⟨x, h1, h2.symm⟩
    refine .lst (fun i _ => ((splitBl s)[i]?).elim default Value.string) (by rw [List.length_map, hlen]) (Nat.le_refl _) (by omega) (by omega) (fun h => by cases h) (fun i row hr => ?_) fun i row j t hr hj => ?_
    · obtain ⟨x, hx, rfl⟩ := get i row hr
      refine ⟨rfl, _, _, rfl, hok, fun j hj => ?_⟩
      have hj0 : j = 0 := by simp at hj; exact hj
      subst hj0
      have hi := (List.getElem?_eq_some_iff.1 hx).1
      rw [show 0 + i * 1 + 0 = i by omega]
      refine (cell_of_row _ w.heap.size i _ _ _ hnew).trans ?_
      rw [hx]
      unfold Lib.cellsOf
      rw [List.getElem?_toArray, List.getElem?_append_left (by simpa using hi), List.getElem?_map, hx]
      rfl
    · obtain ⟨x, hx, rfl⟩ := get i row hr
      have hj0 : j = 0 := by
        have := (List.getElem?_eq_some_iff.1 hj).1
        simp at this; exact this
      subst hj0
      simp at hj
      subst hj
      rw [hx]
      have := splitB_size blank _ s x (List.mem_of_getElem? hx)
      exact .v (Nat.le_trans this h1)
theorem k_split (s : ByteArray) (hs : s.size < 4294967281) : K 51 [.tr (ts s), .tr (ts blank)] [] (.ret (.tr (strsT (splitBl s)))) [] := by
  refine Ctr.of hT hmix Tryz.func51 rfl (fun _ _ => by kernel_rfl) rfl fun hok => ?_
  conv => whnf
  refine acall.pure _ (k_genSplit s hs) rfl rfl fun _ => ?_
  conv => whnf
  exact ⟨.inl rfl, trivial⟩
end Go.Proofs.YtioafhkkkmfkdaaGreatDoor.am

namespace Go.Proofs.YtioafhkkkmfkdaaGreatDoor.am
open Go Go.Proofs
set_option linter.all false

theorem dat_len (s : ByteArray) : s.data.toList.length = s.size := by simp
abbrev in64 (w : Int) : Prop := -9223372036854775808 ≤ w ∧ w ≤ 9223372036854775807
def emB : ByteArray := ⟨#[]⟩
abbrev errSched : Int := 260
abbrev errRange : Int := 2
def tlS (s : ByteArray) : ByteArray := s.extract 1 s.size
def mkB (l : List UInt8) : ByteArray := ⟨l.toArray⟩
theorem mkB_data (l : List UInt8) : (mkB l).data.toList = l := by simp [mkB]
theorem ba_exh {a b : ByteArray} (h : a.data.toList = b.data.toList) : a = b := by
  obtain ⟨⟨a⟩⟩ := a
  obtain ⟨⟨b⟩⟩ := b
  have : a = b := h
  rw [this]
theorem ib_at {c : UInt8} : ∀ (w r : List UInt8), c ∉ w → Lib.indexByte (w ++ c :: r) c = w.length
  | [], r, _ => by
    show (if (c == c) then (0 : Int) else _) = 0
    rw [if_pos (by simp)]
  | b :: w, r, h => by
    have hb : ¬ (b == c) = true := fun e => h (by rw [beq_iff_eq.1 e]; exact .head _)
    have ih := ib_at w r fun e => h (.tail _ e)
    show (if (b == c) then (0 : Int) else if Lib.indexByte (w ++ c :: r) c == -1 then -1 else Lib.indexByte (w ++ c :: r) c + 1) = _
    rw [if_neg hb, ih, if_neg (by rw [beq_iff_eq]; omega), List.length_cons]; omega
theorem ib_none {c : UInt8} : ∀ (w : List UInt8), c ∉ w → Lib.indexByte w c = -1
  | [], _ => rfl
  | b :: w, h => by
    have hb : ¬ (b == c) = true := fun e => h (by rw [beq_iff_eq.1 e]; exact .head _)
    have ih := ib_none w fun e => h (.tail _ e)
    show (if (b == c) then (0 : Int) else if Lib.indexByte w c == -1 then -1 else Lib.indexByte w c + 1) = _
    rw [if_neg hb, ih]; rfl
def jn : List (List UInt8) → List UInt8
  | [] => []
  | [w] => w
  | w :: v :: r => w ++ 32 :: jn (v :: r)
theorem cutAt (c : UInt8) : ∀ l : List UInt8, c ∉ l ∨ ∃ w r, c ∉ w ∧ l = w ++ c :: r
  | [] => .inl (by simp)
  | b :: l => by
    by_cases hb : b = c
    · exact .inr ⟨[], l, by simp, by rw [hb]; rfl⟩
    · rcases cutAt c l with h | ⟨w, r, h1, h2⟩
      · exact .inl (by simp only [List.mem_cons, not_or]; exact ⟨fun e => hb e.symm, h⟩)
      · exact .inr ⟨b :: w, r, by simp only [List.mem_cons, not_or]; exact ⟨fun e => hb e.symm, h1⟩, by rw [h2]; rfl⟩
theorem ext_data (s : ByteArray) (a b : Nat) : (s.extract a b).data.toList = (s.data.toList.take b).drop a := by
  rw [ByteArray.data_extract, Array.toList_extract]
  simp [List.extract, List.drop_take]
theorem ext_end (s : ByteArray) (a : Nat) : (s.extract a s.size).data.toList = s.data.toList.drop a := by
  rw [ext_data, List.take_of_length_le (by have := dat_len s; omega)]
theorem prn_data (n : Int) : (prnB n).data.toList = ws.prn n := by simp [prnB]
theorem prs_back' (s : ByteArray) (h : (prsB s).2.1 = 0) : s = prnB (prsB s).1 ∧ in64 (prsB s).1 := by
  unfold prsB at h ⊢
  rcases ws.prs_back s.data.toList with ⟨p, hp, _⟩ | ⟨v, hv, e, h1, h2⟩
  · rw [hp] at h; cases h
  · rw [hv]
    exact ⟨ba_exh (by rw [prn_data]; exact e.symm), h1, h2⟩
theorem pref_cons {s : ByteArray} {c : UInt8} (h : prefB s ⟨#[c]⟩ = true) : s.data.toList = c :: (tlS s).data.toList := by
  unfold prefB Lib.hasPrefix at h
  have e : (tlS s).data.toList = s.data.toList.drop 1 := by unfold tlS; rw [ext_end]
  rw [e]
  cases hl : s.data.toList with
  | nil => rw [hl] at h; simp at h
  | cons b l =>
    rw [hl] at h
    have : c = b := by simpa using h
    rw [this]; rfl
theorem cons_back {s t : ByteArray} {c : UInt8} (h : s.data.toList = c :: t.data.toList) : s = ⟨#[c]⟩ ++ t := ba_exh (by rw [h]; simp)
def okc (c : UInt8) : Prop := c ≠ 32 ∧ c ≠ 10 ∧ c ≠ 64
def okw (s : ByteArray) : Prop := ∀ c ∈ s.data.toList, okc c
instance (c : UInt8) : Decidable (okc c) := by unfold okc; infer_instance
def free (s : ByteArray) : Prop := 32 ∉ s.data.toList ∧ 10 ∉ s.data.toList
theorem okw.free {s : ByteArray} (h : okw s) : free s := ⟨fun hc => (h _ hc).1 rfl, fun hc => (h _ hc).2.1 rfl⟩
theorem seq_bh {a b : ByteArray} : (a.toList == b.toList) = true ↔ a = b := by
  rw [ByteArray.toList_eq, ByteArray.toList_eq, beq_iff_eq]
  exact ⟨fun h => ba_exh h, fun h => by rw [h]⟩
/-! cut at the first x -/
def xK : ByteArray := ⟨#[120]⟩
def idxX (s : ByteArray) : Int := Lib.indexByte s.data.toList 120
theorem idx_le (c : UInt8) : ∀ (l : List UInt8), Lib.indexByte l c ≤ l.length ∧ -1 ≤ Lib.indexByte l c ∧ (0 ≤ Lib.indexByte l c → Lib.indexByte l c < l.length) := by
  intro l
  induction l with
  | nil => exact ⟨by simp [Lib.indexByte], by simp [Lib.indexByte], by simp [Lib.indexByte]⟩
  | cons x l ih =>
    unfold Lib.indexByte
    have hl : ((x :: l).length : Int) = l.length + 1 := by simp
    split
    · exact ⟨by omega, by omega, by omega⟩
    · split <;> exact ⟨by omega, by omega, by omega⟩
def cutX (s : ByteArray) : ByteArray × ByteArray × Bool := bif decide (idxX s ≥ 0) then (s.extract 0 (idxX s).toNat, s.extract ((idxX s).toNat + 1) s.size, true) else (s, emB, false)
theorem ext_mk0 {s : ByteArray} {w r : List UInt8} (h : s.data.toList = w ++ r) : s.extract 0 w.length = mkB w := by
  apply ba_exh
  rw [ext_data, mkB_data, h, List.drop_zero, List.take_append_of_le_length (Nat.le_refl _), List.take_of_length_le (Nat.le_refl _)]
theorem cutX_at {s : ByteArray} {w r : List UInt8} (h : s.data.toList = w ++ 120 :: r) (hw : 120 ∉ w) : cutX s = (mkB w, mkB r, true) := by
  have e : idxX s = (w.length : Int) := by unfold idxX; rw [h]; exact ib_at w r hw
  unfold cutX
  rw [e, show decide (((w.length : Nat) : Int) ≥ 0) = true by simp, cond_true, Int.toNat_natCast]
  have e2 : s.extract (w.length + 1) s.size = mkB r := by
    apply ba_exh
    rw [ext_end, mkB_data, h, List.drop_append]
    simp
  rw [ext_mk0 h, e2]
theorem cutX_no {s : ByteArray} (h : 120 ∉ s.data.toList) : cutX s = (s, emB, false) := by
  unfold cutX
  have e : idxX s = -1 := by unfold idxX; exact ib_none _ h
  rw [e]; rfl
theorem cutX_cases (s : ByteArray) : ((cutX s).2.2 = true ∧ s.data.toList = (cutX s).1.data.toList ++ 120 :: (cutX s).2.1.data.toList) ∨ ((cutX s).2.2 = false ∧ (cutX s).1 = s) := by
  rcases cutAt 120 s.data.toList with h | ⟨w, r, h1, h2⟩
  · rw [cutX_no h]; exact .inr ⟨rfl, rfl⟩
  · rw [cutX_at h2 h1]; exact .inl ⟨rfl, by rw [mkB_data, mkB_data]; exact h2⟩
end Go.Proofs.YtioafhkkkmfkdaaGreatDoor.am

namespace Go.Proofs.YtioafhkkkmfkdaaGreatDoor.am
open Go Go.Proofs
set_option linter.all false

instance : DecidableEq Stp := fun a b => match a, b with
  | ⟨t, w⟩, ⟨u, v⟩ => if h : t = u ∧ w = v then isTrue (by rw [h.1, h.2]) else isFalse (fun e => h (by cases e; exact ⟨rfl, rfl⟩))
def lttB (k : Int) : ByteArray := bif k == 1 then ⟨#[114]⟩ else bif k == 2 then ⟨#[100]⟩ else ⟨#[]⟩
def stpOk (x : Stp) : Bool := (x.kind == 1 || x.kind == 2) && (decide (x.core ≥ 0) && decide (x.core < 8))
def cntS (x : Stp) : List Stp → Nat
  | [] => 0
  | y :: l => if y = x then cntS x l + 1 else 0
def grpS : Nat → List Stp → List (Stp × Nat)
  | 0, _ => []
  | _ + 1, [] => []
  | f + 1, x :: l => (x, cntS x l + 1) :: grpS f (l.drop (cntS x l))
def grps (l : List Stp) : List (Stp × Nat) := grpS l.length l
def timesB (n : Nat) : ByteArray := bif decide ((n : Int) > 1) then ⟨#[120]⟩ ++ prnB n else ⟨#[]⟩
def wordP (g : Stp × Nat) : ByteArray := (lttB g.1.kind ++ prnB g.1.core) ++ timesB g.2
def numW (s : ByteArray) (least most : Int) : Int × Bool := ((prsB s).1, ((prsB s).2.1 == 0) && (decide ((prsB s).1 ≥ least) && decide ((prsB s).1 ≤ most)))
def wordK (kd : Int) (c : ByteArray) : Stp × Int × Bool := bif (cutX c).2.2 then
  (⟨kd, (numW (cutX c).1 0 7).1⟩, (numW (cutX c).2.1 2 1048576).1, (numW (cutX c).2.1 2 1048576).2 && (numW (cutX c).1 0 7).2) else (⟨kd, (numW (cutX c).1 0 7).1⟩, 1, true && (numW (cutX c).1 0 7).2)
def wordR (w : ByteArray) : Stp × Int × Bool := bif prefB w ⟨#[114]⟩ then wordK 1 (tlS w) else bif prefB w ⟨#[100]⟩ then wordK 2 (tlS w) else (⟨0, 0⟩, 0, false)
def lastIs (out : List Stp) (x : Stp) : Bool := decide (out.getLast? = some x)
def parG : List ByteArray → List Stp → Int → List Stp × Int × Int
  | [], out, _ => (out, 0, 0)
  | w :: ws, out, at_ => bif !(wordR w).2.2 || lastIs out (wordR w).1 then ([], errSched, at_) else bif decide ((out.length : Int) + (wordR w).2.1 > 1048576) then ([], 3, 0) else parG ws (out ++ List.replicate (wordR w).2.1.toNat (wordR w).1) (at_ + w.size + 1)
def parT (s : ByteArray) : List Stp × Int × Int := bif s.toList == emB.toList then ([], 0, 0) else parG (splitBl s) [] 0
def prtT (l : List Stp) : ByteArray × Int := bif decide ((l.length : Int) > 1048576) then (⟨#[]⟩, 3) else bif l.all stpOk then (joinB ((grps l).map wordP), 0) else (⟨#[]⟩, errRange)
/-! groups -/
def flatG (g : List (Stp × Nat)) : List Stp := g.flatMap fun p => List.replicate p.2 p.1
theorem cnt_spec (x : Stp) : ∀ l : List Stp, l = List.replicate (cntS x l) x ++ l.drop (cntS x l) ∧ (l.drop (cntS x l)).head? ≠ some x
  | [] => ⟨rfl, by simp [cntS]⟩
  | y :: l => by
    unfold cntS
    by_cases h : y = x
    · rw [if_pos h]
      obtain ⟨h1, h2⟩ := cnt_spec x l
      refine ⟨?_, h2⟩
      rw [h, List.replicate_succ, List.cons_append, List.drop_succ_cons, ← h1]
    · rw [if_neg h]
      exact ⟨rfl, by simp [h]⟩
/-- neighbours are unlike -/
def apartG : List (Stp × Nat) → Prop
  | [] => True
  | [_] => True
  | a :: b :: g => a.1 ≠ b.1 ∧ apartG (b :: g)
/-! words -/
theorem num_backW {s : ByteArray} {least most : Int} (h : (numW s least most).2 = true) : s = prnB (numW s least most).1 ∧ least ≤ (numW s least most).1 ∧ (numW s least most).1 ≤ most := by
  unfold numW at h ⊢
  simp only [Bool.and_eq_true, beq_iff_eq, decide_eq_true_eq] at h
  exact ⟨(prs_back' s h.1).1, h.2.1, h.2.2⟩
theorem let_word {x : Stp} {n : Nat} (c : UInt8) (h : lttB x.kind = ⟨#[c]⟩) : wordP (x, n) = ⟨#[c]⟩ ++ (prnB x.core ++ timesB n) := by
  unfold wordP
  rw [h]
  exact ba_exh (by simp)
theorem wordK_back {kd : Int} {c : ByteArray} (h : (wordK kd c).2.2 = true) : ∃ n : Nat, (wordK kd c).2.1 = n ∧ 1 ≤ n ∧ n ≤ 1048576 ∧ (wordK kd c).1.kind = kd ∧ 0 ≤ (wordK kd c).1.core ∧ (wordK kd c).1.core < 8 ∧ c = prnB (wordK kd c).1.core ++ timesB n := by
  have hcx := cutX_cases c
  unfold wordK at h ⊢
  rcases hcx with ⟨h1, h2⟩ | ⟨h1, h2⟩
  · rw [h1] at h ⊢
    rw [cond_true] at h ⊢
    simp only [Bool.and_eq_true] at h
    obtain ⟨a1, a2, a3⟩ := num_backW h.1
    obtain ⟨b1, b2, b3⟩ := num_backW h.2
    refine ⟨(numW (cutX c).2.1 2 1048576).1.toNat, by show (numW (cutX c).2.1 2 1048576).1 = _; omega, by omega, by omega, rfl, b2, by show (numW (cutX c).1 0 7).1 < 8; omega, ?_⟩
    show c = prnB (numW (cutX c).1 0 7).1 ++ timesB (numW (cutX c).2.1 2 1048576).1.toNat
    unfold timesB
    rw [show (((numW (cutX c).2.1 2 1048576).1.toNat : Nat) : Int) = (numW (cutX c).2.1 2 1048576).1 by omega, decide_eq_true (show (numW (cutX c).2.1 2 1048576).1 > 1 by omega), cond_true, ← b1, ← a1]
    exact ba_exh (by rw [h2]; simp)
  · rw [h1] at h ⊢
    rw [cond_false] at h ⊢
    simp only [Bool.true_and] at h
    obtain ⟨b1, b2, b3⟩ := num_backW h
    refine ⟨1, rfl, Nat.le_refl _, by decide, rfl, b2, by show (numW (cutX c).1 0 7).1 < 8; omega, ?_⟩
    show c = prnB (numW (cutX c).1 0 7).1 ++ ⟨#[]⟩
    rw [← b1, h2]
    exact ba_exh (by simp)
theorem word_backR {w : ByteArray} (h : (wordR w).2.2 = true) : ∃ n : Nat, (wordR w).2.1 = n ∧ 1 ≤ n ∧ n ≤ 1048576 ∧ stpOk (wordR w).1 = true ∧ w = wordP ((wordR w).1, n) := by
  unfold wordR at h ⊢
  have fin : ∀ (kd : Int) (c : UInt8), (kd = 1 ∨ kd = 2) → lttB kd = ⟨#[c]⟩ → prefB w ⟨#[c]⟩ = true → (wordK kd (tlS w)).2.2 = true → ∃ n : Nat, (wordK kd (tlS w)).2.1 = n ∧ 1 ≤ n ∧ n ≤ 1048576 ∧ stpOk (wordK kd (tlS w)).1 = true ∧ w = wordP ((wordK kd (tlS w)).1, n) := fun kd c hk hl hp hq => by
    obtain ⟨n, h1, h2, h3, h4, h5, h6, h7⟩ := wordK_back hq
    refine ⟨n, h1, h2, h3, ?_, ?_⟩
    · unfold stpOk
      rw [h4, decide_eq_true h5, decide_eq_true h6]
      rcases hk with rfl | rfl <;> rfl
    · rw [let_word c (by rw [h4]; exact hl), ← h7]
      exact cons_back (pref_cons hp)
  cases h1 : prefB w ⟨#[114]⟩ with
  | true =>
    rw [h1, cond_true] at h
    exact fin 1 114 (.inl rfl) rfl h1 h
  | false =>
    rw [h1, cond_false] at h
    cases h2 : prefB w ⟨#[100]⟩ with
    | true =>
      rw [h2, cond_true] at h
      exact fin 2 100 (.inr rfl) rfl h2 h
    | false => rw [h2] at h; cases h
end Go.Proofs.YtioafhkkkmfkdaaGreatDoor.am

namespace Go.Proofs.YtioafhkkkmfkdaaGreatDoor.am
open Go Go.Proofs Go.RowKit
set_option linter.all false

abbrev stV (l : List Stp) : Blk := .vec 51 2 16 (l.map Stp.cells)
theorem s_letter (k : Int) : K 48 [.tr (tu k)] [] (.ret (.tr (ts (lttB k)))) [] := by
  generalize hB : lttB k = B
  unfold lttB at hB
  refine Ctr.of hT hmix Tryz.func48 rfl (fun _ _ => by kernel_rfl) rfl fun hok => ?_
  clear hok
  conv => whnf
  refine csplit (fun h1 => ?_) (fun h1 => ?_)
  · replace h1 : (k == 1) = true := h1
    rw [h1] at hB
    conv => whnf
    exact ⟨.inl (congrArg ts hB), trivial⟩
  replace h1 : (k == 1) = false := h1
  rw [h1] at hB
  conv => whnf
  refine csplit (fun h2 => ?_) (fun h2 => ?_)
  · replace h2 : (k == 2) = true := h2
    rw [h2] at hB
    conv => whnf
    exact ⟨.inl (congrArg ts hB), trivial⟩
  replace h2 : (k == 2) = false := h2
  rw [h2] at hB
  conv => whnf
  exact ⟨.inl (congrArg ts hB), trivial⟩
theorem s_index (s : ByteArray) : K 143 [.tr (ts s), .tr (ts xK)] [] (.ret (.tr (ti (idxX s)))) [] := by
  refine Ctr.ofCalls (fun _ _ => by kernel_rfl) fun g w vs hm hsz hv => ?_
  obtain ⟨v, u, rfl⟩ := two_arg hsz
  obtain ⟨rfl, h1⟩ := val_inv (hv 0 v (.tr (ts s)) rfl rfl)
  obtain ⟨rfl, _⟩ := val_inv (hv 1 u (.tr (ts xK)) rfl rfl)
  refine (Any.stringslite_Index_one Tryz.lays219 s 120 w).mono ?_
  rintro e w' ⟨rfl, rfl⟩
  have hi := idx_le 120 s.data.toList
  have h1 : s.size ≤ 9223372036854775807 := h1
  have hl := dat_len s
  exact ⟨_, rfl, Below.refl _ _, fun _ _ => .tr (.v ⟨Int.le_trans (by decide) hi.2.1, Int.le_trans hi.1 (by rw [hl]; exact Int.ofNat_le.2 h1)⟩)⟩
theorem s_cut0 (s : ByteArray) (hs : s.size < 4294967281) : K 110 [.tr (ts s), .tr (ts xK)] [] (.ret (.tup [.tr (ts (cutX s).1), .tr (ts (cutX s).2.1), .tr (tb (cutX s).2.2)])) [] := by
  have h1 := s_index s
  have hi := idx_le 120 s.data.toList
  have hl := dat_len s
  unfold cutX
  rw [show Lib.indexByte s.data.toList 120 = idxX s from rfl, hl] at hi
  generalize idxX s = i at h1 hi
  have hw : 0 ≤ i → IntKind.i64.wrap (i + 1) = i + 1 := fun h => by rw [w64 (by omega) (by omega)]
  refine Ctr.of hT hmix Tryz.func110 rfl (fun _ _ => by kernel_rfl) rfl fun hok => ?_
  clear hok
  conv => whnf
  refine acall.pure _ (h1) rfl rfl fun _ => ?_
  conv => whnf
  refine csplit (fun h => ?_) (fun h => ?_)
  · replace h : decide (i ≥ 0) = true := h
    have h0 : 0 ≤ i := of_decide_eq_true h
    rw [h]
    conv => whnf
    refine ⟨Int.le_refl _, h0, (show i ≤ (s.size : Int) by omega), ?_⟩
    conv => whnf
    refine ⟨(show 0 ≤ IntKind.i64.wrap (i + 1) by rw [hw h0]; omega), (show IntKind.i64.wrap (i + 1) ≤ (s.size : Int) by rw [hw h0]; omega), Int.le_refl _, ?_⟩
    conv => whnf
    refine ⟨by kernel_rfl, fun _ => ?_⟩
    conv => whnf
    refine ⟨⟨.inl rfl, .inl (congrArg ts ?_), .inl rfl, trivial⟩, trivial⟩
    show s.extract (IntKind.i64.wrap (i + 1)).toNat ((s.size : Int)).toNat = s.extract (i.toNat + 1) s.size
    rw [hw h0, Int.toNat_natCast, show (i + 1).toNat = i.toNat + 1 by omega]
  · replace h : decide (i ≥ 0) = false := h
    rw [h]
    conv => whnf
    exact ⟨⟨.inl rfl, .inl rfl, .inl rfl, trivial⟩, trivial⟩
theorem s_cut (s : ByteArray) (hs : s.size < 4294967281) : K 84 [.tr (ts s), .tr (ts xK)] [] (.ret (.tup [.tr (ts (cutX s).1), .tr (ts (cutX s).2.1), .tr (tb (cutX s).2.2)])) [] := by
  have h1 := s_cut0 s hs
  refine Ctr.of hT hmix Tryz.func84 rfl (fun _ _ => by kernel_rfl) rfl fun hok => ?_
  clear hok
  conv => whnf
  refine acall.pure _ (h1) rfl rfl fun _ => ?_
  conv => whnf
  exact ⟨⟨.inl rfl, .inl rfl, .inl rfl, trivial⟩, trivial⟩
theorem s_number (s : ByteArray) (least most : Int) : K 85 [.tr (ts s), .tr (ti least), .tr (ti most)] [] (.ret (.tup [.tr (ti (numW s least most).1), .tr (tb (numW s least most).2)])) [] := by
  have h1 := k_parseW s
  generalize hB : numW s least most = B
  unfold numW at hB
  generalize prsB s = P at h1 hB
  obtain ⟨p, e, k⟩ := P
  simp only at h1 hB
  subst hB
  refine Ctr.of hT hmix Tryz.func85 rfl (fun _ _ => by kernel_rfl) rfl fun hok => ?_
  clear hok
  conv => whnf
  refine acall.pure _ (h1) rfl rfl fun _ => ?_
  conv => whnf
  (repeat' (refine csplit (fun g => ?_) (fun g => ?_) <;> conv => whnf))
  all_goals (refine ⟨⟨.inl rfl, .inl (congrArg tb ?_), trivial⟩, trivial⟩; simp only [*, Bool.true_and, Bool.false_and, Bool.and_true, Bool.and_false] <;> rfl)
set_option maxRecDepth 100000 in
theorem s_word (w : ByteArray) (hs : w.size ≤ 4194304) : K 52 [.tr (ts w)] [] (.ret (.tup [.agg [.tr (tu (wordR w).1.kind), .tr (ti (wordR w).1.core)], .tr (ti (wordR w).2.1), .tr (tb (wordR w).2.2)])) [] := by
  have p1 := k_hasPrefix w ⟨#[114]⟩
  have p2 := k_hasPrefix w ⟨#[100]⟩
  have hc := s_cut (tlS w) (by unfold tlS; rw [ByteArray.size_extract]; omega)
  generalize hB : wordR w = B
  unfold wordR wordK at hB
  have hp1 : prefB w ⟨#[114]⟩ = true → 1 ≤ w.size := fun h => by
    have := congrArg List.length (pref_cons h)
    rw [dat_len, List.length_cons] at this; omega
  have hp2 : prefB w ⟨#[100]⟩ = true → 1 ≤ w.size := fun h => by
    have := congrArg List.length (pref_cons h)
    rw [dat_len, List.length_cons] at this; omega
  generalize prefB w ⟨#[114]⟩ = q1 at p1 hB hp1
  generalize prefB w ⟨#[100]⟩ = q2 at p2 hB hp2
  have n1 := s_number (cutX (tlS w)).1 0 7
  have n2 := s_number (cutX (tlS w)).2.1 2 1048576
  generalize numW (cutX (tlS w)).1 0 7 = N1 at n1 hB
  generalize numW (cutX (tlS w)).2.1 2 1048576 = N2 at n2 hB
  generalize cutX (tlS w) = C at hc n1 n2 hB
  obtain ⟨ca, cb, cf⟩ := C
  obtain ⟨a1, a2⟩ := N1
  obtain ⟨b1, b2⟩ := N2
  simp only at hc n1 n2 hB
  refine Ctr.new [] hT hmix Tryz.func52 rfl (fun _ _ => by kernel_rfl) rfl fun hok => ?_
  clear hok
  conv => whnf
  refine acall.pure _ (p1) rfl rfl fun _ => ?_
  conv => whnf
  cases q1
  · conv => whnf
    refine acall.pure _ (p2) rfl rfl fun _ => ?_
    conv => whnf
    cases q2
    · subst hB
      conv => whnf
      exact ⟨[], rfl, rfl, ⟨⟨.inl rfl, .inl rfl, trivial⟩, .inl rfl, .inl rfl, trivial⟩, trivial⟩
    · have hz := hp2 rfl
      conv => whnf
      refine ⟨(show (0 : Int) ≤ 1 by decide), (show (1 : Int) ≤ (w.size : Int) by omega), Int.le_refl _, ?_⟩
      conv => whnf
      refine acall.pure _ (hc) rfl rfl fun _ => ?_
      conv => whnf
      cases cf
      · subst hB
        conv => whnf
        refine acall.pure _ (n1) rfl rfl fun _ => ?_
        conv => whnf
        cases a2
        · exact ⟨[], rfl, rfl, ⟨⟨.inl rfl, .inl rfl, trivial⟩, .inl rfl, .inl rfl, trivial⟩, trivial⟩
        · exact ⟨[], rfl, rfl, ⟨⟨.inl rfl, .inl rfl, trivial⟩, .inl rfl, .inl rfl, trivial⟩, trivial⟩
      · subst hB
        conv => whnf
        refine acall.pure _ (n2) rfl rfl fun _ => ?_
        conv => whnf
        refine acall.pure _ (n1) rfl rfl fun _ => ?_
        conv => whnf
        cases b2
        · conv => whnf
          exact ⟨[], rfl, rfl, ⟨⟨.inl rfl, .inl rfl, trivial⟩, .inl rfl, .inl rfl, trivial⟩, trivial⟩
        · conv => whnf
          exact ⟨[], rfl, rfl, ⟨⟨.inl rfl, .inl rfl, trivial⟩, .inl rfl, .inl rfl, trivial⟩, trivial⟩
  · have hz := hp1 rfl
    conv => whnf
    refine ⟨(show (0 : Int) ≤ 1 by decide), (show (1 : Int) ≤ (w.size : Int) by omega), Int.le_refl _, ?_⟩
    conv => whnf
    refine acall.pure _ (hc) rfl rfl fun _ => ?_
    conv => whnf
    cases cf
    · subst hB
      conv => whnf
      refine acall.pure _ (n1) rfl rfl fun _ => ?_
      conv => whnf
      cases a2
      · exact ⟨[], rfl, rfl, ⟨⟨.inl rfl, .inl rfl, trivial⟩, .inl rfl, .inl rfl, trivial⟩, trivial⟩
      · exact ⟨[], rfl, rfl, ⟨⟨.inl rfl, .inl rfl, trivial⟩, .inl rfl, .inl rfl, trivial⟩, trivial⟩
    · subst hB
      conv => whnf
      refine acall.pure _ (n2) rfl rfl fun _ => ?_
      conv => whnf
      refine acall.pure _ (n1) rfl rfl fun _ => ?_
      conv => whnf
      cases b2
      · conv => whnf
        exact ⟨[], rfl, rfl, ⟨⟨.inl rfl, .inl rfl, trivial⟩, .inl rfl, .inl rfl, trivial⟩, trivial⟩
      · conv => whnf
        exact ⟨[], rfl, rfl, ⟨⟨.inl rfl, .inl rfl, trivial⟩, .inl rfl, .inl rfl, trivial⟩, trivial⟩
end Go.Proofs.YtioafhkkkmfkdaaGreatDoor.am

namespace Go.Proofs.YtioafhkkkmfkdaaGreatDoor.am
open Go Go.Proofs
set_option linter.all false

abbrev pacT (l : List Pac) : Tr := .lst 2 16 (l.map Pac.cells)
theorem pac_get {l : List Pac} {i : Nat} {row : List Tr} (h : (l.map Pac.cells)[i]? = some row) : ∃ d, l[i]? = some d ∧ row = d.cells := by
  rw [List.getElem?_map, Option.map_eq_some_iff] at h
  obtain ⟨d, h1, rfl⟩ := h
  exact ⟨d, h1, rfl⟩
theorem cst_get {l : List Cst} {i : Nat} {row : List Tr} (h : (l.map Cst.row)[i]? = some row) : ∃ d, l[i]? = some d ∧ row = d.row := by
  rw [List.getElem?_map, Option.map_eq_some_iff] at h
  obtain ⟨d, h1, rfl⟩ := h
  exact ⟨d, h1, rfl⟩
/-- the place of the first -/
def idxP {α : Type} (p : α → Bool) : List α → Nat → Int
  | [], _ => -1
  | x :: l, i => bif p x then i else idxP p l (i + 1)
theorem idxP_drop {α : Type} {p : α → Bool} {l : List α} {i : Nat} {x : α} (h : l[i]? = some x) : idxP p (l.drop i) i = bif p x then (i : Int) else idxP p (l.drop (i + 1)) (i + 1) := by
  have hlt := (List.getElem?_eq_some_iff.1 h).1
  rw [List.drop_eq_getElem_cons hlt, (List.getElem?_eq_some_iff.1 h).2]
  rfl
theorem idxP_any {α : Type} (p : α → Bool) : ∀ (l : List α) (i : Nat), decide (idxP p l i ≥ 0) = l.any p
  | [], _ => rfl
  | x :: l, i => by
    unfold idxP
    rw [List.any_cons]
    cases p x with
    | true => rw [cond_true, Bool.true_or]; exact decide_eq_true (Int.natCast_nonneg i)
    | false => rw [cond_false, Bool.false_or]; exact idxP_any p l (i + 1)
theorem idxP_find {α : Type} (p : α → Bool) : ∀ (l : List α) (i : Nat), (idxP p l i = -1 ∧ l.find? p = none) ∨ ∃ k x, idxP p l i = ((i + k : Nat) : Int) ∧ l[k]? = some x ∧ l.find? p = some x
  | [], _ => .inl ⟨rfl, rfl⟩
  | x :: l, i => by
    unfold idxP
    rw [List.find?_cons]
    cases p x with
    | true => exact .inr ⟨0, x, rfl, rfl, rfl⟩
    | false =>
      rcases idxP_find p l (i + 1) with ⟨h1, h2⟩ | ⟨k, y, h1, h2, h3⟩
      · exact .inl ⟨h1, h2⟩
      · exact .inr ⟨k + 1, y, by rw [cond_false, h1, show i + 1 + k = i + (k + 1) by omega], h2, h3⟩
theorem s_wrong (p : Pac) : K 41 [.agg [.tr (ti p.step), .tr (ti p.lag)]] [] (.ret (.tr (tb (!pacOk p)))) [] := by
  obtain ⟨a, b⟩ := p
  have hB : (!pacOk ⟨a, b⟩) = (decide (a < 1) || (decide (a > 65536) || (decide (b < 0) || decide (b > 65536)))) := by
    unfold pacOk
    have e1 : decide (a ≥ 1) = !decide (a < 1) := by rw [← decide_not]; exact decide_eq_decide.2 ⟨by omega, by omega⟩
    have e2 : decide (a ≤ 65536) = !decide (a > 65536) := by rw [← decide_not]; exact decide_eq_decide.2 ⟨by omega, by omega⟩
    have e3 : decide (b ≥ 0) = !decide (b < 0) := by rw [← decide_not]; exact decide_eq_decide.2 ⟨by omega, by omega⟩
    have e4 : decide (b ≤ 65536) = !decide (b > 65536) := by rw [← decide_not]; exact decide_eq_decide.2 ⟨by omega, by omega⟩
    show (!(decide (a ≥ 1) && (decide (a ≤ 65536) && (decide (b ≥ 0) && decide (b ≤ 65536))))) = _
    rw [e1, e2, e3, e4]
    simp only [Bool.not_and, Bool.not_not]
  rw [hB]
  refine Ctr.of hT hmix Tryz.func41 rfl (fun _ _ => by kernel_rfl) rfl fun hok => ?_
  clear hok hB
  conv => whnf
  (repeat' (refine csplit (fun g => ?_) (fun g => ?_) <;> conv => whnf))
  all_goals (refine ⟨.inl (congrArg tb ?_), trivial⟩; simp only [*, Bool.true_or, Bool.or_true, Bool.false_or, Bool.or_false])
set_option maxRecDepth 100000 in
theorem s_idxPac (l : List Pac) : K 73 [.tr (pacT l), .fn 41 []] [] (.ret (.tr (ti (idxP (fun p : Pac => !pacOk p) l 0)))) [] := by
  generalize hR : idxP (fun p : Pac => !pacOk p) l 0 = R
  refine Ctr.of hT hmix Tryz.func73 rfl (fun _ _ => by kernel_rfl) rfl fun hok => ?_
  obtain ⟨_, hl63, _⟩ := (hok.slot 0 rfl).tr.lst
  clear hok
  have hlm : (l.map Pac.cells).length = l.length := List.length_map ..
  rw [hlm] at hl63
  conv => whnf
  refine LoopL.by (fun i : Nat => ⟨[(0, .tr (pacT l)), (1, .fn 41 []), (7, .tr (ti (l.length : Int))), (8, .tr (ti i))], [], 10⟩) (fun i => i ≤ l.length ∧ idxP (fun p : Pac => !pacOk p) (l.drop i) i = R) (fun i => l.length - i) 0 [] [] (Sub.mk' rfl ⟨.inl rfl, ⟨rfl, trivial⟩, .inl (by rw [← hlm]), .inl rfl, trivial⟩ trivial rfl rfl) ⟨Nat.zero_le _, hR⟩ ?_
  rintro i ⟨hi, hS⟩ -
  conv => whnf
  refine csplit (fun hlt => ?_) (fun hge => ?_)
  · have hlt : i < l.length := by have := of_decide_eq_true hlt; omega
    obtain ⟨d, hd⟩ : ∃ d, l[i]? = some d := ⟨l[i], by simp [hlt]⟩
    rw [idxP_drop hd] at hS
    have hct := s_wrong d
    replace hS : (bif (!pacOk d) then (i : Int) else idxP (fun p : Pac => !pacOk p) (l.drop (i + 1)) (i + 1)) = R := hS
    generalize (!pacOk d) = b at hct hS
    conv => whnf
    refine ⟨rfl, (show (0 : Int) ≤ i by omega), (show (i : Int) < (l.map Pac.cells).length by rw [hlm]; omega), fun row hr => ?_⟩
    obtain ⟨d', hd', rfl⟩ := pac_get hr
    obtain rfl : d = d' := Option.some.inj (hd.symm.trans hd')
    clear hr hd'
    obtain ⟨xs, xl⟩ := d
    conv => whnf
    refine acall.pure _ (hct) rfl rfl fun _ => ?_
    conv => whnf
    cases b
    · have hS : idxP (fun p : Pac => !pacOk p) (l.drop (i + 1)) (i + 1) = R := hS
      conv => whnf
      exact ⟨i + 1, [], [], Sub.mk' rfl ⟨.inl rfl, ⟨rfl, trivial⟩, .inl rfl, .inl (ti_succ hlt hl63), trivial⟩ trivial rfl rfl, ⟨hlt, hS⟩, by omega⟩
    · have hS : (i : Int) = R := hS
      conv => whnf
      exact ⟨.inl (congrArg ti hS), trivial⟩
  · have hge : i = l.length := by have := of_decide_eq_false hge; omega
    subst hge
    rw [List.drop_length] at hS
    have hS : -1 = R := hS
    conv => whnf
    refine ⟨fun _ => ?_, fun h => absurd rfl h⟩
    conv => whnf
    exact ⟨.inl (congrArg ti hS), trivial⟩
theorem s_conPac (l : List Pac) : K 42 [.tr (pacT l), .fn 41 []] [] (.ret (.tr (tb (l.any fun p => !pacOk p)))) [] := by
  have h1 := s_idxPac l
  have h2 := idxP_any (fun p : Pac => !pacOk p) l 0
  generalize idxP (fun p : Pac => !pacOk p) l 0 = R at h1 h2
  refine Ctr.of hT hmix Tryz.func42 rfl (fun _ _ => by kernel_rfl) rfl fun hok => ?_
  clear hok
  conv => whnf
  refine acall.au [] [] h1 ?_
  intro _
  conv => whnf
  exact ⟨.inl (congrArg tb h2), trivial⟩
set_option maxRecDepth 100000 in
theorem s_idxCst (l : List Cst) (h16 : ∀ c ∈ l, c.regs.length = 16) : K 90 [.tr (csT l), .fn 59 []] [] (.ret (.tr (ti (idxP (fun c : Cst => runsB c) l 0)))) [] := by
  generalize hR : idxP (fun c : Cst => runsB c) l 0 = R
  refine Ctr.of hT hmix Tryz.func90 rfl (fun _ _ => by kernel_rfl) rfl fun hok => ?_
  obtain ⟨_, hl63, _⟩ := (hok.slot 0 rfl).tr.lst
  clear hok
  have hlm : (l.map Cst.row).length = l.length := List.length_map ..
  rw [hlm] at hl63
  conv => whnf
  refine LoopL.by (fun i : Nat => ⟨[(0, .tr (csT l)), (1, .fn 59 []), (7, .tr (ti (l.length : Int))), (8, .tr (ti i))], [], 10⟩) (fun i => i ≤ l.length ∧ idxP (fun c : Cst => runsB c) (l.drop i) i = R) (fun i => l.length - i) 0 [] [] (Sub.mk' rfl ⟨.inl rfl, ⟨rfl, trivial⟩, .inl (by rw [← hlm]), .inl rfl, trivial⟩ trivial rfl rfl) ⟨Nat.zero_le _, hR⟩ ?_
  rintro i ⟨hi, hS⟩ -
  conv => whnf
  refine csplit (fun hlt => ?_) (fun hge => ?_)
  · have hlt : i < l.length := by have := of_decide_eq_true hlt; omega
    obtain ⟨d, hd⟩ : ∃ d, l[i]? = some d := ⟨l[i], by simp [hlt]⟩
    rw [idxP_drop hd] at hS
    have hct := s_ended1 d (h16 d (List.mem_of_getElem? hd))
    replace hS : (bif runsB d then (i : Int) else idxP (fun c : Cst => runsB c) (l.drop (i + 1)) (i + 1)) = R := hS
    generalize runsB d = b at hct hS
    conv => whnf
    refine ⟨rfl, (show (0 : Int) ≤ i by omega), (show (i : Int) < (l.map Cst.row).length by rw [hlm]; omega), fun row hr => ?_⟩
    obtain ⟨d', hd', rfl⟩ := cst_get hr
    obtain rfl : d = d' := Option.some.inj (hd.symm.trans hd')
    clear hr hd'
    have h16d := h16 d (List.mem_of_getElem? hd)
    obtain ⟨ca, ch, cr, cb⟩ := d
    simp only at h16d
    obtain ⟨r0, r1, r2, r3, r4, r5, r6, r7, r8, r9, r10, r11, r12, r13, r14, r15, rfl⟩ := regs16 h16d
    conv => whnf
    refine acall.pure _ (hct) rfl rfl fun _ => ?_
    conv => whnf
    cases b
    · have hS : idxP (fun c : Cst => runsB c) (l.drop (i + 1)) (i + 1) = R := hS
      conv => whnf
      exact ⟨i + 1, [], [], Sub.mk' rfl ⟨.inl rfl, ⟨rfl, trivial⟩, .inl rfl, .inl (ti_succ hlt hl63), trivial⟩ trivial rfl rfl, ⟨hlt, hS⟩, by omega⟩
    · have hS : (i : Int) = R := hS
      conv => whnf
      exact ⟨.inl (congrArg ti hS), trivial⟩
  · have hge : i = l.length := by have := of_decide_eq_false hge; omega
    subst hge
    rw [List.drop_length] at hS
    have hS : -1 = R := hS
    conv => whnf
    refine ⟨fun _ => ?_, fun h => absurd rfl h⟩
    conv => whnf
    exact ⟨.inl (congrArg ti hS), trivial⟩
theorem s_conCst (l : List Cst) (h16 : ∀ c ∈ l, c.regs.length = 16) : K 58 [.tr (csT l), .fn 59 []] [] (.ret (.tr (tb (l.any fun c => runsB c)))) [] := by
  have h1 := s_idxCst l h16
  have h2 := idxP_any (fun c : Cst => runsB c) l 0
  generalize idxP (fun c : Cst => runsB c) l 0 = R at h1 h2
  refine Ctr.of hT hmix Tryz.func58 rfl (fun _ _ => by kernel_rfl) rfl fun hok => ?_
  clear hok
  conv => whnf
  refine acall.au [] [] h1 ?_
  intro _
  conv => whnf
  exact ⟨.inl (congrArg tb h2), trivial⟩
end Go.Proofs.YtioafhkkkmfkdaaGreatDoor.am

namespace Go.Proofs.YtioafhkkkmfkdaaGreatDoor.am
open Go Go.Proofs
set_option linter.all false

def begunE (o : Ob) (most : Int) : Int := bif (checkO o).1 != 0 then (checkO o).1 else bif (decide (most < 0) || decide (most > 1048576)) then 2 else 0
set_option maxRecDepth 100000 in
theorem s_begun (o : Ob) (most : Nat) (h0 : (checkO o).1 = 0) (hm : most ≤ 1048576) : K 30 [o.av, .tr (ti most)] [] (.ret (.tup [.ptr 0 0, .tr (ti 0)])) ((newM o).blks.map some) := by
  have hg := check_good h0
  have hn1 := k_vnew o h0 hg.mem hg.cores (fun c hc => (hg.code c hc).2)
  clear h0 hg
  generalize newM o = s0 at hn1 ⊢
  obtain ⟨memory, shared, locks, buffer, cores⟩ := o
  have c4 : decide ((most : Int) > 1048576) = false := decide_eq_false (by omega)
  refine Ctr.new [6] hT hmix Tryz.func30 rfl (fun _ _ => by kernel_rfl) rfl fun hok => ?_
  clear hok
  conv => whnf
  refine acall.new [] [] _ _ _ _ hn1 rfl rfl rfl rfl aut aut rfl rfl fun _ => ?_
  conv => whnf
  refine CutL.by (fun _ : Unit => ⟨[(6, .ptr 0 0)], [(0, maB s0), (1, csB s0.cores), (2, meB s0.mem), (3, prB s0.prints)], 10⟩) (fun _ => True) ?_ ?_
  · conv => whnf
    refine csplit (fun g => ctf g c4) (fun _ => ?_)
    conv => whnf
    exact ⟨(), [_, _, _, _], [], Sub.mk' rfl ⟨⟨rfl, rfl⟩, trivial⟩ ⟨⟨rfl, .inl rfl, .inl rfl, .inl rfl, .inl rfl, .inl rfl, ⟨rfl, rfl⟩, ⟨rfl, rfl⟩, ⟨rfl, rfl⟩, trivial⟩, ⟨rfl, rfl, rfl, rfl, .inl rfl⟩, ⟨rfl, rfl, rfl, rfl⟩, ⟨rfl, rfl, rfl, rfl⟩, trivial⟩ rfl rfl, trivial⟩
  · rintro - - -
    conv => whnf
    exact ⟨[0, 1, 2, 3], rfl, rfl, ⟨⟨rfl, rfl⟩, .inl rfl, trivial⟩, ⟨rfl, .inl rfl, .inl rfl, .inl rfl, .inl rfl, .inl rfl, ⟨rfl, rfl⟩, ⟨rfl, rfl⟩, ⟨rfl, rfl⟩, trivial⟩, ⟨rfl, rfl, rfl, rfl, .inl rfl⟩, ⟨rfl, rfl, rfl, rfl⟩, ⟨rfl, rfl, rfl, rfl⟩, trivial⟩
abbrev ceB (c : Nat) : Blk := .cells 3 [.tr (ti c)]
theorem s_isCore (x : Stp) (c : Nat) : K 34 [.agg [.tr (tu x.kind), .tr (ti x.core)], .ptr 0 0] [ceB c] (.ret (.tr (tb (ofCore c x)))) [some (ceB c)] := by
  have hB : ofCore c x = (x.core == (c : Int)) := rfl
  rw [hB]
  obtain ⟨k, q⟩ := x
  refine Ctr.of hT hmix Tryz.func34 rfl (fun _ _ => by kernel_rfl) rfl fun hok => ?_
  clear hok hB
  conv => whnf
  exact ⟨.inl rfl, ⟨rfl, .inl rfl, trivial⟩, trivial⟩
set_option maxRecDepth 100000 in
theorem s_idxStp (l : List Stp) (c : Nat) : K 33 [.tr (stepsT l), .fn 34 [.ptr 0 0]] [ceB c] (.ret (.tr (ti (idxP (ofCore c) l 0)))) [some (ceB c)] := by
  generalize hR : idxP (ofCore c) l 0 = R
  refine Ctr.of hT hmix Tryz.func33 rfl (fun _ _ => by kernel_rfl) rfl fun hok => ?_
  obtain ⟨_, hl63, _⟩ := (hok.slot 0 rfl).tr.lst
  clear hok
  have hlm : (l.map Stp.cells).length = l.length := List.length_map ..
  rw [hlm] at hl63
  conv => whnf
  refine LoopL.by (fun i : Nat => ⟨[(0, .tr (stepsT l)), (1, .fn 34 [.ptr 0 0]), (7, .tr (ti (l.length : Int))), (8, .tr (ti i))], [(0, ceB c)], 10⟩) (fun i => i ≤ l.length ∧ idxP (ofCore c) (l.drop i) i = R) (fun i => l.length - i) 0 [0] [] (Sub.mk' rfl ⟨.inl rfl, ⟨rfl, ⟨rfl, rfl⟩, trivial⟩, .inl (by rw [← hlm]), .inl rfl, trivial⟩ ⟨⟨rfl, .inl rfl, trivial⟩, trivial⟩ rfl rfl) ⟨Nat.zero_le _, hR⟩ ?_
  rintro i ⟨hi, hS⟩ -
  conv => whnf
  refine csplit (fun hlt => ?_) (fun hge => ?_)
  · have hlt : i < l.length := by have := of_decide_eq_true hlt; omega
    obtain ⟨d, hd⟩ : ∃ d, l[i]? = some d := ⟨l[i], by simp [hlt]⟩
    rw [idxP_drop hd] at hS
    have hct := s_isCore d c
    replace hS : (bif (ofCore c d) then (i : Int) else idxP (ofCore c) (l.drop (i + 1)) (i + 1)) = R := hS
    generalize (ofCore c d) = b at hct hS
    conv => whnf
    refine ⟨rfl, (show (0 : Int) ≤ i by omega), (show (i : Int) < (l.map Stp.cells).length by rw [hlm]; omega), fun row hr => ?_⟩
    obtain ⟨d', hd', rfl⟩ := stp_get hr
    obtain rfl : d = d' := Option.some.inj (hd.symm.trans hd')
    clear hr hd'
    obtain ⟨xs, xl⟩ := d
    conv => whnf
    refine acall.au [0] [] hct ?_
    intro _
    cases b
    · have hS : idxP (ofCore c) (l.drop (i + 1)) (i + 1) = R := hS
      conv => whnf
      exact ⟨i + 1, [0], [], Sub.mk' rfl ⟨.inl rfl, ⟨rfl, ⟨rfl, rfl⟩, trivial⟩, .inl rfl, .inl (ti_succ hlt hl63), trivial⟩ ⟨⟨rfl, .inl rfl, trivial⟩, trivial⟩ rfl rfl, ⟨hlt, hS⟩, by omega⟩
    · have hS : (i : Int) = R := hS
      conv => whnf
      exact ⟨.inl (congrArg ti hS), ⟨rfl, .inl rfl, trivial⟩, trivial⟩
  · have hge : i = l.length := by have := of_decide_eq_false hge; omega
    subst hge
    rw [List.drop_length] at hS
    have hS : -1 = R := hS
    conv => whnf
    refine ⟨fun _ => ?_, fun h => absurd rfl h⟩
    conv => whnf
    exact ⟨.inl (congrArg ti hS), ⟨rfl, .inl rfl, trivial⟩, trivial⟩
end Go.Proofs.YtioafhkkkmfkdaaGreatDoor.am

namespace Go.Proofs.YtioafhkkkmfkdaaGreatDoor.am
open Go Go.Proofs
set_option linter.all false

theorem acall.sn1 {P : Program} {m : Mem} {nh f h n : Nat} {xs : List AV} {K : EE} (ars : List AV) (res : AE) (hc : Ctr P f ars [] res [])
    (h5 : cvL m [] [] (seenS [] [h]) (.sl h n :: xs) ars) (h7 : (m h).isSome = true) (h8 : res.lowH 0 = true)
    (hK : K (res.out []) (rdOf m [h]) (callUp [] [h] res [])) : acall P m nh f (.sl h n :: xs) K :=
  acall.gen [] [h] ars [] res [] hc rfl rfl rfl rfl h5 trivial (by simp [h7]) h8 hK
theorem cnt_lt {x : Stp} {r : List Stp} {c : Nat} (hc : c ≤ cntS x r) : (c < cntS x r ∧ r[c]? = some x) ∨ (c = cntS x r ∧ r[c]? ≠ some x) := by
  obtain ⟨h1, h2⟩ := cnt_spec x r
  by_cases h : c < cntS x r
  · refine .inl ⟨h, ?_⟩
    rw [h1, List.getElem?_append_left (by rw [List.length_replicate]; exact h), List.getElem?_replicate, if_pos h]
  · have e : c = cntS x r := by omega
    refine .inr ⟨e, ?_⟩
    rw [List.head?_drop] at h2
    rw [e]
    exact h2
theorem cnt_le (x : Stp) (r : List Stp) : cntS x r ≤ r.length := by
  have h := congrArg List.length (cnt_spec x r).1
  rw [List.length_append, List.length_replicate] at h
  omega
theorem grpS_fuel : ∀ (f g : Nat) (l : List Stp), l.length ≤ f → l.length ≤ g → grpS f l = grpS g l
  | 0, g, l, h, _ => by
    obtain rfl : l = [] := List.eq_nil_of_length_eq_zero (by omega)
    cases g <;> rfl
  | f + 1, 0, l, _, h => by
    obtain rfl : l = [] := List.eq_nil_of_length_eq_zero (by omega)
    rfl
  | f + 1, g + 1, [], _, _ => rfl
  | f + 1, g + 1, x :: l, h1, h2 => by
    show (x, cntS x l + 1) :: grpS f _ = (x, cntS x l + 1) :: grpS g _
    rw [grpS_fuel f g _ (by rw [List.length_drop]; simp only [List.length_cons] at h1; omega) (by rw [List.length_drop]; simp only [List.length_cons] at h2; omega)]
theorem grps_at {l : List Stp} {i : Nat} {x : Stp} (h : l[i]? = some x) : grps (l.drop i) = (x, cntS x (l.drop (i + 1)) + 1) :: grps (l.drop (i + (cntS x (l.drop (i + 1)) + 1))) := by
  have hlt := (List.getElem?_eq_some_iff.1 h).1
  have e : l.drop i = x :: l.drop (i + 1) := by rw [List.drop_eq_getElem_cons hlt, (List.getElem?_eq_some_iff.1 h).2]
  rw [e]
  show (x, cntS x (l.drop (i + 1)) + 1) :: grpS (l.drop (i + 1)).length _ = _
  rw [List.drop_drop, show i + 1 + cntS x (l.drop (i + 1)) = i + (cntS x (l.drop (i + 1)) + 1) by omega]
  congr 1
  exact grpS_fuel _ _ _ (by rw [List.length_drop, List.length_drop]; omega) (Nat.le_refl _)
theorem joinL_le {l : List ByteArray} {m : Nat} (h : ∀ x ∈ l, x.size ≤ m) : (joinL l).length ≤ l.length * (m + 1) := by
  induction l with
  | nil => simp [joinL, Lib.join]
  | cons a r ih =>
    have ha := h a (.head _)
    have hr := ih (fun x hx => h x (.tail _ hx))
    have hd : a.data.toList.length = a.size := by simp
    cases r with
    | nil => simp [joinL, Lib.join]; omega
    | cons b r' =>
      have e : joinL (a :: b :: r') = a.data.toList ++ ([32] ++ joinL (b :: r')) := by simp [joinL, Lib.join]
      rw [e]
      simp only [List.length_append, List.length_cons, List.length_nil] at hr ⊢
      rw [Nat.succ_mul]
      omega
theorem ltt_size (k : Int) : (lttB k).size ≤ 1 := by
  unfold lttB
  cases (k == 1)
  · cases (k == 2)
    · exact Nat.zero_le _
    · exact Nat.le_refl _
  · exact Nat.le_refl _
theorem stp_rng {d : Stp} (h : ∀ t ∈ d.cells, TOkT t) : -9223372036854775808 ≤ d.core ∧ d.core ≤ 9223372036854775807 := (h (ti d.core) (by simp [Stp.cells])).i64
theorem ltt_empty (k : Int) : ((lttB k).toList == (⟨#[]⟩ : ByteArray).toList) = !(k == 1 || k == 2) := by
  unfold lttB
  cases (k == 1)
  · cases (k == 2)
    · exact seq_bh.2 rfl
    · show ((⟨#[100]⟩ : ByteArray).toList == (⟨#[]⟩ : ByteArray).toList) = false
      simp only [ByteArray.toList_eq]; rfl
  · show ((⟨#[114]⟩ : ByteArray).toList == (⟨#[]⟩ : ByteArray).toList) = false
    simp only [ByteArray.toList_eq]; rfl
set_option maxRecDepth 100000 in
set_option maxHeartbeats 4000000 in
theorem s_print (l : List Stp) : K 18 [.tr (stepsT l)] [] (.ret (.tup [.tr (ts (prtT l).1), .tr (ti (prtT l).2)])) [] := by
  generalize hP : prtT l = P
  unfold prtT at hP
  refine Ctr.of hT hmix Tryz.func18 rfl (fun _ _ => by kernel_rfl) rfl fun hok => ?_
  obtain ⟨_, hl63, hrows⟩ := (hok.slot 0 rfl).tr.lst
  have hrng : ∀ d ∈ l, -9223372036854775808 ≤ d.core ∧ d.core ≤ 9223372036854775807 := fun d hd => stp_rng (hrows d.cells (List.mem_map_of_mem hd)).2
  clear hok hrows
  have hlm : (l.map Stp.cells).length = l.length := List.length_map ..
  rw [hlm] at hl63
  conv => whnf
  refine csplit (fun h1 => ?_) (fun h1 => ?_)
  · replace h1 : decide (((l.map Stp.cells).length : Int) > 1048576) = true := h1
    rw [hlm] at h1
    rw [h1] at hP
    subst hP
    conv => whnf
    exact ⟨⟨.inl rfl, .inl rfl, trivial⟩, trivial⟩
  replace h1 : decide (((l.map Stp.cells).length : Int) > 1048576) = false := h1
  rw [hlm] at h1
  rw [h1] at hP
  have hlen : l.length ≤ 1048576 := by have := of_decide_eq_false h1; omega
  have hP : (bif l.all stpOk then (joinB ((grps l).map wordP), (0 : Int)) else (⟨#[]⟩, errRange)) = P := hP
  conv => whnf
  refine LoopL.by (fun i : Nat => ⟨[(0, .tr (stepsT l)), (13, .tr (stepsT l)), (14, .tr (ti (l.length : Int))), (15, .tr (ti i))], [], 10⟩) (fun i => i ≤ l.length ∧ l.all stpOk = (l.drop i).all stpOk) (fun i => l.length - i) 0 [] [] (Sub.mk' rfl ⟨.inl rfl, .inl rfl, .inl (by rw [← hlm]), .inl rfl, trivial⟩ trivial rfl rfl) ⟨Nat.zero_le _, rfl⟩ ?_
  rintro i ⟨hi, hall⟩ -
  conv => whnf
  refine csplit (fun hlt => ?_) (fun hge => ?_)
  · have hlt : i < l.length := by have := of_decide_eq_true hlt; omega
    obtain ⟨d, hd⟩ : ∃ d, l[i]? = some d := ⟨l[i], by simp [hlt]⟩
    rw [all_drop hd] at hall
    have hsl := s_letter d.kind
    have hem := ltt_empty d.kind
    generalize lttB d.kind = L at hsl hem
    have hok : stpOk d = ((d.kind == 1 || d.kind == 2) && (decide (d.core ≥ 0) && decide (d.core < 8))) := rfl
    rw [hok] at hall
    conv => whnf
    refine ⟨rfl, (show (0 : Int) ≤ i by omega), (show (i : Int) < (l.map Stp.cells).length by rw [hlm]; omega), fun row hr => ?_⟩
    obtain ⟨d', hd', rfl⟩ := stp_get hr
    obtain rfl : d = d' := Option.some.inj (hd.symm.trans hd')
    clear hr hd'
    obtain ⟨dk, dc⟩ := d
    simp only at hsl hem hall
    generalize (dk == 1 || dk == 2) = kb at hem hall
    conv => whnf
    refine acall.pure _ (hsl) rfl rfl fun _ => ?_
    conv => whnf
    rw [hem]
    cases kb
    · have hP : ((⟨#[]⟩ : ByteArray), errRange) = P := by rw [hall] at hP; exact hP
      subst hP
      conv => whnf
      exact ⟨⟨.inl rfl, .inl rfl, trivial⟩, trivial⟩
    · conv => whnf
      refine csplit (fun g1 => ?_) (fun g1 => ?_)
      · have q : decide (dc ≥ 0) = false := decide_eq_false (by have : dc < 0 := of_decide_eq_true g1; omega)
        rw [q] at hall
        have hP : ((⟨#[]⟩ : ByteArray), errRange) = P := by rw [hall] at hP; exact hP
        subst hP
        conv => whnf
        exact ⟨⟨.inl rfl, .inl rfl, trivial⟩, trivial⟩
      · have q : decide (dc ≥ 0) = true := decide_eq_true (by have : ¬ dc < 0 := of_decide_eq_false g1; omega)
        rw [q] at hall
        conv => whnf
        refine csplit (fun g2 => ?_) (fun g2 => ?_)
        · have q : decide (dc < 8) = false := decide_eq_false (by have : dc ≥ 8 := of_decide_eq_true g2; omega)
          rw [q] at hall
          have hP : ((⟨#[]⟩ : ByteArray), errRange) = P := by rw [hall] at hP; exact hP
          subst hP
          conv => whnf
          exact ⟨⟨.inl rfl, .inl rfl, trivial⟩, trivial⟩
        · have q : decide (dc < 8) = true := decide_eq_true (by have : ¬ dc ≥ 8 := of_decide_eq_false g2; omega)
          rw [q] at hall
          conv => whnf
          exact ⟨i + 1, [], [], Sub.mk' rfl ⟨.inl rfl, .inl rfl, .inl rfl, .inl (ti_succ hlt hl63), trivial⟩ trivial rfl rfl, ⟨hlt, hall⟩, by omega⟩
  · have hge : i = l.length := by have := of_decide_eq_false hge; omega
    subst hge
    rw [hall, List.drop_length] at hP
    have hP : (joinB ((grps l).map wordP), (0 : Int)) = P := hP
    clear hall hi
    conv => whnf
    refine ⟨fun _ => ?_, fun h => absurd rfl h⟩
    conv => whnf
    generalize hW : (grps l).map wordP = bigW at hP
    refine LoopL.by (fun x : List ByteArray × Nat => ⟨[(0, .tr (stepsT l)), (6, .sl 0 x.1.length), (7, .tr (ti x.2))], [(0, .vec 9 1 16 (x.1.map srow))], 10⟩) (fun x => x.2 ≤ l.length ∧ x.1.length ≤ x.2 ∧ (∀ w ∈ x.1, w.size ≤ 60) ∧ x.1 ++ (grps (l.drop x.2)).map wordP = bigW) (fun x => l.length - x.2) ([], 0) [] [0]
      (Sub.mk' rfl ⟨.inl rfl, ⟨rfl, rfl, rfl, rfl⟩, .inl rfl, trivial⟩ ⟨⟨rfl, _, _, _, rfl, by decide⟩, trivial⟩ rfl rfl) ⟨Nat.zero_le _, Nat.le_refl _, (fun w hw => by cases hw), hW⟩ ?_
    rintro ⟨ws, i⟩ ⟨hi, hwl, hwz, hS⟩ -
    simp only at hi hwl hwz hS
    conv => whnf
    refine csplit (fun hlt => ?_) (fun hge => ?_)
    · have hlt : i < l.length := by have : decide ((i : Int) < ((l.map Stp.cells).length : Int)) = true := hlt; rw [hlm] at this; have := of_decide_eq_true this; omega
      obtain ⟨x, hx⟩ : ∃ d, l[i]? = some d := ⟨l[i], by simp [hlt]⟩
      rw [grps_at hx] at hS
      have hcl := cnt_le x (l.drop (i + 1))
      rw [List.length_drop] at hcl
      have hxr := hrng x (List.mem_of_getElem? hx)
      conv => whnf
      refine LoopL.by (fun c : Nat => ⟨[(0, .tr (stepsT l)), (6, .sl 0 ws.length), (7, .tr (ti i)), (8, .tr (ti ((c + 1 : Nat) : Int)))], [(0, .vec 9 1 16 (ws.map srow))], 10⟩) (fun c => c ≤ cntS x (l.drop (i + 1))) (fun c => cntS x (l.drop (i + 1)) - c) 0 [0] []
        (Sub.mk' rfl ⟨.inl rfl, ⟨rfl, rfl⟩, .inl rfl, .inl rfl, trivial⟩ ⟨⟨rfl, rfl, rfl, rfl⟩, trivial⟩ rfl rfl) (Nat.zero_le _) ?_
      rintro c hc -
      have hic : IntKind.i64.wrap ((i : Int) + ((c + 1 : Nat) : Int)) = ((i + 1 + c : Nat) : Int) := by rw [w64 (by omega) (by omega)]; omega
      have hc1 : IntKind.i64.wrap (((c + 1 : Nat) : Int) + 1) = ((c + 1 + 1 : Nat) : Int) := by rw [w64 (by omega) (by omega)]; omega
      have hat : (l.drop (i + 1))[c]? = l[i + 1 + c]? := by rw [List.getElem?_drop]
      have hcs := cnt_lt hc
      rw [hat] at hcs
      have xget : ∀ row, (l.map Stp.cells)[i]? = some row → row = x.cells := fun row hr => by
        obtain ⟨d', hd', rfl⟩ := stp_get hr
        rw [Option.some.inj (hx.symm.trans hd')]
      conv => whnf
      rw [hic]
      cases hd : decide (((i + 1 + c : Nat) : Int) < ((l.map Stp.cells).length : Int)) with
      | true =>
        have hlt2 : i + 1 + c < l.length := by have := of_decide_eq_true hd; rw [hlm] at this; omega
        obtain ⟨y, hy⟩ : ∃ d, l[i + 1 + c]? = some d := ⟨l[i + 1 + c], by simp [hlt2]⟩
        rw [hy] at hcs
        have yget : ∀ row, (l.map Stp.cells)[i + 1 + c]? = some row → row = y.cells := fun row hr => by
          obtain ⟨d', hd', rfl⟩ := stp_get hr
          rw [Option.some.inj (hy.symm.trans hd')]
        obtain ⟨xk, xc⟩ := x
        obtain ⟨yk, yc⟩ := y
        conv => whnf
        rw [hic]
        refine ⟨rfl, (show (0 : Int) ≤ ((i + 1 + c : Nat) : Int) by omega), (show ((i + 1 + c : Nat) : Int) < (l.map Stp.cells).length by rw [hlm]; omega), fun row hr => ?_⟩
        obtain rfl := yget row hr
        clear hr
        conv => whnf
        refine ⟨rfl, (show (0 : Int) ≤ i by omega), (show (i : Int) < (l.map Stp.cells).length by rw [hlm]; omega), fun row hr => ?_⟩
        obtain rfl := xget row hr
        clear hr
        conv => whnf
        refine ⟨by kernel_rfl, fun _ => ?_⟩
        conv => whnf
        have hyx : ((yk == xk) && ((yc == xc) && true)) = true ↔ (⟨yk, yc⟩ : Stp) = ⟨xk, xc⟩ := by simp
        generalize ((yk == xk) && ((yc == xc) && true)) = B at hyx ⊢
        cases B
        · have hce : c = cntS ⟨xk, xc⟩ (l.drop (i + 1)) := by
            rcases hcs with ⟨_, q⟩ | ⟨q, _⟩
            · exact absurd (hyx.2 (Option.some.inj q)) (by decide)
            · exact q
          clear hcs hyx yget hat
          conv => whnf
          refine ⟨fun _ => ?_, fun h => absurd rfl h⟩
          conv => whnf
          have hsl := s_letter xk
          have hi1 := k_itoa xc
          have hi2 := k_itoa ((c + 1 : Nat) : Int)
          have z1 := ltt_size xk
          have hxr2 : -9223372036854775808 ≤ xc ∧ xc ≤ 9223372036854775807 := hxr
          have z2 := prn_len hxr2.1 hxr2.2
          have z3 := prn_len (n := ((c + 1 : Nat) : Int)) (by omega) (by omega)
          have zx : (⟨#[120]⟩ : ByteArray).size = 1 := rfl
          have hW0 : wordP (⟨xk, xc⟩, c + 1) = (lttB xk ++ prnB xc) ++ timesB (c + 1) := rfl
          have hin : IntKind.i64.wrap ((i : Int) + ((c + 1 : Nat) : Int)) = ((i + (c + 1) : Nat) : Int) := by rw [w64 (by omega) (by omega)]; omega
          rw [← hce, List.map_cons] at hS
          unfold timesB at hW0
          generalize hWg : wordP (⟨xk, xc⟩, c + 1) = W at hW0 hS
          have hS' : (ws ++ [W]) ++ (grps (l.drop (i + (c + 1)))).map wordP = bigW := by
            rw [← hS, List.append_assoc]
            rfl
          have hzW : W.size ≤ 60 := by
            rw [hW0]
            cases decide (((c + 1 : Nat) : Int) > 1)
            · show ((lttB xk ++ prnB xc) ++ ⟨#[]⟩).size ≤ 60
              rw [ByteArray.size_append, ByteArray.size_append]
              show _ + _ + 0 ≤ 60
              omega
            · show ((lttB xk ++ prnB xc) ++ (⟨#[120]⟩ ++ prnB ((c + 1 : Nat) : Int))).size ≤ 60
              rw [ByteArray.size_append, ByteArray.size_append, ByteArray.size_append]
              omega
          have hwz' : ∀ w ∈ ws ++ [W], w.size ≤ 60 := fun w hw => by
            rcases List.mem_append.1 hw with hw | hw
            · exact hwz w hw
            · have : w = W := by simpa using hw
              rw [this]; exact hzW
          have hda : (ws.map srow).take ws.length ++ [[ts W]] = (ws ++ [W]).map srow := by rw [List.take_of_length_le (by simp), List.map_append]; rfl
          clear hWg
          generalize lttB xk = B1 at hsl z1 hW0
          generalize prnB xc = B2 at hi1 z2 hW0
          generalize prnB ((c + 1 : Nat) : Int) = B3 at hi2 z3 hW0
          refine ⟨rfl, (show (0 : Int) ≤ i by omega), (show (i : Int) < (l.map Stp.cells).length by rw [hlm]; omega), fun row hr => ?_⟩
          obtain rfl := xget row hr
          clear hr
          conv => whnf
          refine acall.pure _ (hsl) rfl rfl ?_
          conv => whnf
          refine ⟨rfl, (show (0 : Int) ≤ i by omega), (show (i : Int) < (l.map Stp.cells).length by rw [hlm]; omega), fun row hr => ?_⟩
          obtain rfl := xget row hr
          clear hr
          conv => whnf
          refine acall.pure _ (hi1) rfl rfl ?_
          conv => whnf
          refine ⟨(by omega), ?_⟩
          conv => whnf
          refine ⟨by kernel_rfl, fun _ => ?_⟩
          conv => whnf
          cases hn1 : decide (((c + 1 : Nat) : Int) > 1) with
          | true =>
            rw [hn1] at hW0
            have hW0 : W = (B1 ++ B2) ++ (⟨#[120]⟩ ++ B3) := hW0
            conv => whnf
            refine acall.pure _ (hi2) rfl rfl fun _ => ?_
            conv => whnf
            refine ⟨(by omega), ?_⟩
            conv => whnf
            refine ⟨(by rw [ByteArray.size_append, ByteArray.size_append]; omega), ?_⟩
            rw [← hW0]
            conv => whnf
            refine ⟨rfl, rfl, rfl, (by rw [List.length_map]; exact Nat.le_refl _), (show (ws.length + 1) * 16 ≤ 150000000000000 by omega), fun q hq => ?_, ?_⟩
            · cases hq with
              | head => exact Nat.ne_of_beq_eq_false rfl
              | tail _ h => cases h
            conv => whnf
            exact ⟨(ws ++ [W], i + (c + 1)), [_], [], Sub.mk' rfl ⟨.inl rfl, ⟨rfl, by simp⟩, .inl (congrArg ti hin), trivial⟩ ⟨⟨rfl, rfl, rfl, hda⟩, trivial⟩ rfl rfl, ⟨by show i + (c + 1) ≤ l.length; omega, by show (ws ++ [W]).length ≤ i + (c + 1); simp; omega, hwz', hS'⟩, by show l.length - (i + (c + 1)) < l.length - i; omega⟩
          | false =>
            rw [hn1] at hW0
            have hW0 : W = B1 ++ B2 := by rw [hW0]; exact ba_exh (by simp)
            rw [← hW0]
            conv => whnf
            refine ⟨rfl, rfl, rfl, (by rw [List.length_map]; exact Nat.le_refl _), (show (ws.length + 1) * 16 ≤ 150000000000000 by omega), fun q hq => ?_, ?_⟩
            · cases hq with
              | head => exact Nat.ne_of_beq_eq_false rfl
              | tail _ h => cases h
            conv => whnf
            exact ⟨(ws ++ [W], i + (c + 1)), [_], [], Sub.mk' rfl ⟨.inl rfl, ⟨rfl, by simp⟩, .inl (congrArg ti hin), trivial⟩ ⟨⟨rfl, rfl, rfl, hda⟩, trivial⟩ rfl rfl, ⟨by show i + (c + 1) ≤ l.length; omega, by show (ws ++ [W]).length ≤ i + (c + 1); simp; omega, hwz', hS'⟩, by show l.length - (i + (c + 1)) < l.length - i; omega⟩
        · have hcl2 : c < cntS ⟨xk, xc⟩ (l.drop (i + 1)) := by
            rcases hcs with ⟨q, _⟩ | ⟨_, q⟩
            · exact q
            · exact absurd (congrArg some (hyx.1 rfl)) q
          conv => whnf
          exact ⟨c + 1, [0], [], Sub.mk' rfl ⟨.inl rfl, ⟨rfl, rfl⟩, .inl rfl, .inl (congrArg ti hc1), trivial⟩ ⟨⟨rfl, rfl, rfl, rfl⟩, trivial⟩ rfl rfl, hcl2, by show cntS ⟨xk, xc⟩ (l.drop (i + 1)) - (c + 1) < cntS ⟨xk, xc⟩ (l.drop (i + 1)) - c; omega⟩
      | false =>
        have hce : c = cntS x (l.drop (i + 1)) := by
          rcases hcs with ⟨_, q⟩ | ⟨q, _⟩
          · have := (List.getElem?_eq_some_iff.1 q).1
            have h2 := of_decide_eq_false hd
            rw [hlm] at h2
            omega
          · exact q
        obtain ⟨xk, xc⟩ := x
        clear hcs hat
        conv => whnf
        refine ⟨by kernel_rfl, fun _ => ?_⟩
        conv => whnf
        refine ⟨fun _ => ?_, fun h => absurd rfl h⟩
        conv => whnf
        have hsl := s_letter xk
        have hi1 := k_itoa xc
        have hi2 := k_itoa ((c + 1 : Nat) : Int)
        have z1 := ltt_size xk
        have hxr2 : -9223372036854775808 ≤ xc ∧ xc ≤ 9223372036854775807 := hxr
        have z2 := prn_len hxr2.1 hxr2.2
        have z3 := prn_len (n := ((c + 1 : Nat) : Int)) (by omega) (by omega)
        have zx : (⟨#[120]⟩ : ByteArray).size = 1 := rfl
        have hW0 : wordP (⟨xk, xc⟩, c + 1) = (lttB xk ++ prnB xc) ++ timesB (c + 1) := rfl
        have hin : IntKind.i64.wrap ((i : Int) + ((c + 1 : Nat) : Int)) = ((i + (c + 1) : Nat) : Int) := by rw [w64 (by omega) (by omega)]; omega
        rw [← hce, List.map_cons] at hS
        unfold timesB at hW0
        generalize hWg : wordP (⟨xk, xc⟩, c + 1) = W at hW0 hS
        have hS' : (ws ++ [W]) ++ (grps (l.drop (i + (c + 1)))).map wordP = bigW := by
          rw [← hS, List.append_assoc]
          rfl
        have hzW : W.size ≤ 60 := by
          rw [hW0]
          cases decide (((c + 1 : Nat) : Int) > 1)
          · show ((lttB xk ++ prnB xc) ++ ⟨#[]⟩).size ≤ 60
            rw [ByteArray.size_append, ByteArray.size_append]
            show _ + _ + 0 ≤ 60
            omega
          · show ((lttB xk ++ prnB xc) ++ (⟨#[120]⟩ ++ prnB ((c + 1 : Nat) : Int))).size ≤ 60
            rw [ByteArray.size_append, ByteArray.size_append, ByteArray.size_append]
            omega
        have hwz' : ∀ w ∈ ws ++ [W], w.size ≤ 60 := fun w hw => by
          rcases List.mem_append.1 hw with hw | hw
          · exact hwz w hw
          · have : w = W := by simpa using hw
            rw [this]; exact hzW
        have hda : (ws.map srow).take ws.length ++ [[ts W]] = (ws ++ [W]).map srow := by rw [List.take_of_length_le (by simp), List.map_append]; rfl
        clear hWg
        generalize lttB xk = B1 at hsl z1 hW0
        generalize prnB xc = B2 at hi1 z2 hW0
        generalize prnB ((c + 1 : Nat) : Int) = B3 at hi2 z3 hW0
        refine ⟨rfl, (show (0 : Int) ≤ i by omega), (show (i : Int) < (l.map Stp.cells).length by rw [hlm]; omega), fun row hr => ?_⟩
        obtain rfl := xget row hr
        clear hr
        conv => whnf
        refine acall.pure _ (hsl) rfl rfl ?_
        conv => whnf
        refine ⟨rfl, (show (0 : Int) ≤ i by omega), (show (i : Int) < (l.map Stp.cells).length by rw [hlm]; omega), fun row hr => ?_⟩
        obtain rfl := xget row hr
        clear hr
        conv => whnf
        refine acall.pure _ (hi1) rfl rfl ?_
        conv => whnf
        refine ⟨(by omega), ?_⟩
        conv => whnf
        refine ⟨by kernel_rfl, fun _ => ?_⟩
        conv => whnf
        cases hn1 : decide (((c + 1 : Nat) : Int) > 1) with
        | true =>
          rw [hn1] at hW0
          have hW0 : W = (B1 ++ B2) ++ (⟨#[120]⟩ ++ B3) := hW0
          conv => whnf
          refine acall.pure _ (hi2) rfl rfl fun _ => ?_
          conv => whnf
          refine ⟨(by omega), ?_⟩
          conv => whnf
          refine ⟨(by rw [ByteArray.size_append, ByteArray.size_append]; omega), ?_⟩
          rw [← hW0]
          conv => whnf
          refine ⟨rfl, rfl, rfl, (by rw [List.length_map]; exact Nat.le_refl _), (show (ws.length + 1) * 16 ≤ 150000000000000 by omega), fun q hq => ?_, ?_⟩
          · cases hq with
            | head => exact Nat.ne_of_beq_eq_false rfl
            | tail _ h => cases h
          conv => whnf
          exact ⟨(ws ++ [W], i + (c + 1)), [_], [], Sub.mk' rfl ⟨.inl rfl, ⟨rfl, by simp⟩, .inl (congrArg ti hin), trivial⟩ ⟨⟨rfl, rfl, rfl, hda⟩, trivial⟩ rfl rfl, ⟨by show i + (c + 1) ≤ l.length; omega, by show (ws ++ [W]).length ≤ i + (c + 1); simp; omega, hwz', hS'⟩, by show l.length - (i + (c + 1)) < l.length - i; omega⟩
        | false =>
          rw [hn1] at hW0
          have hW0 : W = B1 ++ B2 := by rw [hW0]; exact ba_exh (by simp)
          rw [← hW0]
          conv => whnf
          refine ⟨rfl, rfl, rfl, (by rw [List.length_map]; exact Nat.le_refl _), (show (ws.length + 1) * 16 ≤ 150000000000000 by omega), fun q hq => ?_, ?_⟩
          · cases hq with
            | head => exact Nat.ne_of_beq_eq_false rfl
            | tail _ h => cases h
          conv => whnf
          exact ⟨(ws ++ [W], i + (c + 1)), [_], [], Sub.mk' rfl ⟨.inl rfl, ⟨rfl, by simp⟩, .inl (congrArg ti hin), trivial⟩ ⟨⟨rfl, rfl, rfl, hda⟩, trivial⟩ rfl rfl, ⟨by show i + (c + 1) ≤ l.length; omega, by show (ws ++ [W]).length ≤ i + (c + 1); simp; omega, hwz', hS'⟩, by show l.length - (i + (c + 1)) < l.length - i; omega⟩
    · have hge : i = l.length := by have : decide ((i : Int) < ((l.map Stp.cells).length : Int)) = false := hge; rw [hlm] at this; have := of_decide_eq_false this; omega
      subst hge
      rw [List.drop_length] at hS
      have hS : ws = bigW := (List.append_nil _).symm.trans hS
      subst hS
      subst hP
      have hj := k_join ws (by have := joinL_le hwz; omega)
      conv => whnf
      refine ⟨fun _ => ?_, fun h => absurd rfl h⟩
      conv => whnf
      refine acall.sn1 _ _ hj ⟨⟨rfl, (by rw [List.length_map]; exact Nat.le_refl _), (by rw [List.take_of_length_le (by simp)])⟩, .inl rfl, trivial⟩ rfl rfl fun _ => ?_
      conv => whnf
      exact ⟨⟨.inl rfl, .inl rfl, trivial⟩, trivial⟩
end Go.Proofs.YtioafhkkkmfkdaaGreatDoor.am

namespace Go.Proofs.YtioafhkkkmfkdaaGreatDoor.am
open Go Go.Proofs
set_option linter.all false

theorem ended_any (s : Mst) : endedB s = !(s.cores.any fun c => runsB c) := by
  unfold endedB
  rw [List.not_any_eq_all_not]
  congr 1
  funext c
  unfold runsB
  rw [Bool.not_or, Bool.not_not]
  congr 1
  by_cases h : c.buf.length = 0
  · rw [h]; rfl
  · rw [show (c.buf.length == 0) = false by simpa using h, decide_eq_true (show (c.buf.length : Int) > 0 by omega)]; rfl
set_option maxRecDepth 100000 in
theorem s_ended (s : Mst) (h16 : ∀ c ∈ s.cores, c.regs.length = 16) : K 22 [.ptr 0 0] s.blks (.ret (.tr (tb (endedB s)))) (s.blks.map some) := by
  have h1 := s_conCst s.cores h16
  rw [ended_any]
  generalize (s.cores.any fun c => runsB c) = b at h1 ⊢
  refine Ctr.of hT hmix Tryz.func22 rfl (fun _ _ => by kernel_rfl) rfl fun hok => ?_
  clear hok
  conv => whnf
  refine acall.sn1 _ _ h1 ⟨⟨rfl, (by rw [List.length_map]; exact Nat.le_refl _), (by rw [List.take_of_length_le (by simp)])⟩, ⟨rfl, trivial⟩, trivial⟩ rfl rfl fun _ => ?_
  conv => whnf
  exact ⟨.inl rfl, ⟨rfl, .inl rfl, .inl rfl, .inl rfl, .inl rfl, .inl rfl, ⟨rfl, rfl⟩, ⟨rfl, rfl⟩, ⟨rfl, rfl⟩, trivial⟩, ⟨rfl, rfl, rfl, rfl, .inl rfl⟩, ⟨rfl, rfl, rfl, rfl⟩, ⟨rfl, rfl, rfl, rfl⟩, trivial⟩
abbrev prT0 (l : List Prn) : Tr := .lst 2 16 (l.map Prn.row)
abbrev prB0 (l : List Prn) : Blk := .vec 129 2 16 (l.map Prn.row)
set_option maxRecDepth 100000 in
set_option maxHeartbeats 4000000 in
theorem s_ready (s : Mst) (hV : VInv s) : K 32 [.ptr 0 0] s.blks (.ret (.tr (stepsT (readyL s)))) (s.blks.map some) := by
  have hco := s_cores s
  have hk8 : s.cores.length ≤ 8 := by rw [hV.len]; exact (check_good hV.chk).cores
  generalize hL : readyL s = L
  unfold readyL at hL
  refine Ctr.of hT hmix Tryz.func32 rfl (fun _ _ => by kernel_rfl) rfl fun hok => ?_
  clear hok
  conv => whnf
  refine acall.au [0, 1, 2, 3] [] hco ?_
  intro _
  conv => whnf
  refine LoopL.by (fun x : List Stp × Nat => ⟨[(0, .ptr 0 0), (3, .sl 4 x.1.length), (7, .tr (ti s.cores.length)), (8, .tr (ti x.2))], [(0, maB s), (1, csB s.cores), (2, meB s.mem), (3, prB s.prints), (4, stV x.1)], 10⟩) (fun x => x.2 ≤ s.cores.length ∧ x.1.length ≤ 2 * x.2 ∧ x.1 = (List.range x.2).flatMap (readyK s)) (fun x => s.cores.length - x.2) ([], 0) [0, 1, 2, 3] [4]
    (Sub.mk' rfl ⟨⟨rfl, rfl⟩, ⟨rfl, rfl, rfl, rfl⟩, .inl rfl, .inl rfl, trivial⟩ ⟨⟨rfl, .inl rfl, .inl rfl, .inl rfl, .inl rfl, .inl rfl, ⟨rfl, rfl⟩, ⟨rfl, rfl⟩, ⟨rfl, rfl⟩, trivial⟩, ⟨rfl, rfl, rfl, rfl, .inl rfl⟩, ⟨rfl, rfl, rfl, rfl⟩, ⟨rfl, rfl, rfl, rfl⟩, ⟨rfl, _, _, _, rfl, by decide⟩, trivial⟩ rfl rfl) ⟨Nat.zero_le _, Nat.le_refl _, rfl⟩ ?_
  rintro ⟨out, k⟩ ⟨hk, hol, ho⟩ -
  simp only at hk hol ho
  conv => whnf
  refine csplit (fun hlt => ?_) (fun hge => ?_)
  · have hlt : k < s.cores.length := by have : decide ((k : Int) < (s.cores.length : Int)) = true := hlt; have := of_decide_eq_true this; omega
    obtain ⟨c, hc⟩ : ∃ c, s.cores[k]? = some c := ⟨_, List.getElem?_eq_getElem hlt⟩
    obtain ⟨r, hr⟩ := hV.cor hc
    obtain ⟨i, e, hi, hR⟩ := hV.ins hc hr
    have hI := hV.core k c r hc hr
    have h16 := hI.regs
    have hcl := core_lt hc
    have hnx := k_nextN s k hc h16 hr hI.at0 hi
    have hst := k_stallsN s k i hc h16
    have hrk : readyK s k = (bif !c.halted && !(stallB s c i) then [⟨1, k⟩] else []) ++ (bif decide ((c.buf.length : Int) > 0) then [⟨2, k⟩] else []) := by
      unfold readyK waitB
      simp only [hc, e]
    have hon : out ++ readyK s k = (List.range (k + 1)).flatMap (readyK s) := by rw [List.range_succ, List.flatMap_append, ← ho]; simp
    rw [hrk] at hon
    generalize stallB s c i = st at hst hon
    clear hrk
    obtain ⟨kind, op, D, a, b, addr, to_, word, from_⟩ := i
    conv => whnf
    refine acall.au [0, 1, 2, 3] [] hnx ?_
    intro _
    conv => whnf
    refine ⟨rfl, hcl, fun row hrow => ?_⟩
    obtain rfl := row_of hc hrow
    clear hrow
    refine ⟨by rw [row_len h16]; show 0 + 1 < 19; decide, fun t ht => ?_⟩
    obtain rfl : t = tb c.halted := (Option.some.inj ht).symm
    clear ht
    generalize hch : c.halted = ch at hon
    have hbl : ((c.buf.map Sto.row).length : Int) = (c.buf.length : Int) := by rw [List.length_map]
    cases ch
    · conv => whnf
      refine acall.au [0, 1, 2, 3] [] hst ?_
      intro _
      cases st
      · conv => whnf
        refine ⟨rfl, rfl, rfl, (by rw [List.length_map]; exact Nat.le_refl _), (show (out.length + 1) * 16 ≤ 150000000000000 by omega), fun q hq => ?_, ?_⟩
        · cases hq with
          | head => exact Nat.ne_of_beq_eq_false rfl
          | tail _ h => cases h
        conv => whnf
        refine ⟨rfl, hcl, fun row hrow => ?_⟩
        obtain rfl := row_of hc hrow
        clear hrow
        refine ⟨by rw [row_len h16]; show 0 + 18 < 19; decide, fun t ht => ?_⟩
        obtain rfl := row_buf h16 ht
        clear ht
        conv => whnf
        refine ⟨by decide, ?_⟩
        conv => whnf
        cases hb : decide (((c.buf.map Sto.row).length : Int) > 0) with
        | true =>
          rw [hbl] at hb
          rw [hb] at hon
          conv => whnf
          refine ⟨rfl, rfl, rfl, (by simp), (by simp; omega), fun q hq => ?_, ?_⟩
          · cases hq with
            | head => exact Nat.ne_of_beq_eq_false rfl
            | tail _ h => cases h
          conv => whnf
          refine ⟨((out ++ [Stp.mk 1 k]) ++ [Stp.mk 2 k], k + 1), [0, 1, 2, 3, 46], [], Sub.pk [1] ?_, ⟨hlt, by simp; omega, by rw [← hon]; simp⟩, by show s.cores.length - (k + 1) < s.cores.length - k; omega⟩
          conv => whnf
          refine ⟨rfl, rfl, Nat.le_refl _, ?_⟩
          refine Sub0.mk' rfl ⟨⟨rfl, rfl⟩, ⟨rfl, by simp⟩, .inl rfl, .inl (ti_succ hlt (by omega)), trivial⟩ ⟨⟨rfl, .inl rfl, .inl rfl, .inl rfl, .inl rfl, .inl rfl, ⟨rfl, rfl⟩, ⟨rfl, rfl⟩, ⟨rfl, rfl⟩, trivial⟩, ⟨rfl, rfl, rfl, rfl, .inl ?_⟩, ⟨rfl, rfl, rfl, rfl⟩, ⟨rfl, rfl, rfl, rfl⟩, ⟨rfl, rfl, rfl, (by rw [List.take_of_length_le (by simp)]; simp [Stp.cells]; exact List.take_of_length_le (by simp))⟩, trivial⟩ rfl rfl
          show setC (s.cores.map Cst.row) k 18 (.lst 3 24 ((c.buf.map Sto.row).take (c.buf.map Sto.row).length)) = s.cores.map Cst.row
          rw [List.take_of_length_le (by simp)]
          exact setC_buf hc h16
        | false =>
          rw [hbl] at hb
          rw [hb] at hon
          conv => whnf
          refine ⟨((out ++ [Stp.mk 1 k]), k + 1), [0, 1, 2, 3, 33], [], Sub.pk [1] ?_, ⟨hlt, by simp; omega, by rw [← hon]; simp⟩, by show s.cores.length - (k + 1) < s.cores.length - k; omega⟩
          conv => whnf
          refine ⟨rfl, rfl, Nat.le_refl _, ?_⟩
          refine Sub0.mk' rfl ⟨⟨rfl, rfl⟩, ⟨rfl, by simp⟩, .inl rfl, .inl (ti_succ hlt (by omega)), trivial⟩ ⟨⟨rfl, .inl rfl, .inl rfl, .inl rfl, .inl rfl, .inl rfl, ⟨rfl, rfl⟩, ⟨rfl, rfl⟩, ⟨rfl, rfl⟩, trivial⟩, ⟨rfl, rfl, rfl, rfl, .inl ?_⟩, ⟨rfl, rfl, rfl, rfl⟩, ⟨rfl, rfl, rfl, rfl⟩, ⟨rfl, rfl, rfl, (by simp [Stp.cells]; exact List.take_of_length_le (by simp))⟩, trivial⟩ rfl rfl
          show setC (s.cores.map Cst.row) k 18 (.lst 3 24 ((c.buf.map Sto.row).take (c.buf.map Sto.row).length)) = s.cores.map Cst.row
          rw [List.take_of_length_le (by simp)]
          exact setC_buf hc h16
      · conv => whnf
        refine ⟨rfl, hcl, fun row hrow => ?_⟩
        obtain rfl := row_of hc hrow
        clear hrow
        refine ⟨by rw [row_len h16]; show 0 + 18 < 19; decide, fun t ht => ?_⟩
        obtain rfl := row_buf h16 ht
        clear ht
        conv => whnf
        refine ⟨by decide, ?_⟩
        conv => whnf
        cases hb : decide (((c.buf.map Sto.row).length : Int) > 0) with
        | true =>
          rw [hbl] at hb
          rw [hb] at hon
          conv => whnf
          refine ⟨rfl, rfl, rfl, (by rw [List.length_map]; exact Nat.le_refl _), (show (out.length + 1) * 16 ≤ 150000000000000 by omega), fun q hq => ?_, ?_⟩
          · cases hq with
            | head => exact Nat.ne_of_beq_eq_false rfl
            | tail _ h => cases h
          conv => whnf
          refine ⟨(out ++ [Stp.mk 2 k], k + 1), [0, 1, 2, 3, 40], [], Sub.pk [1] ?_, ⟨hlt, by simp; omega, by rw [← hon]; simp⟩, by show s.cores.length - (k + 1) < s.cores.length - k; omega⟩
          conv => whnf
          refine ⟨rfl, rfl, Nat.le_refl _, ?_⟩
          refine Sub0.mk' rfl ⟨⟨rfl, rfl⟩, ⟨rfl, by simp⟩, .inl rfl, .inl (ti_succ hlt (by omega)), trivial⟩ ⟨⟨rfl, .inl rfl, .inl rfl, .inl rfl, .inl rfl, .inl rfl, ⟨rfl, rfl⟩, ⟨rfl, rfl⟩, ⟨rfl, rfl⟩, trivial⟩, ⟨rfl, rfl, rfl, rfl, .inl ?_⟩, ⟨rfl, rfl, rfl, rfl⟩, ⟨rfl, rfl, rfl, rfl⟩, ⟨rfl, rfl, rfl, (by rw [List.take_of_length_le (by simp), List.map_append]; rfl)⟩, trivial⟩ rfl rfl
          show setC (s.cores.map Cst.row) k 18 (.lst 3 24 ((c.buf.map Sto.row).take (c.buf.map Sto.row).length)) = s.cores.map Cst.row
          rw [List.take_of_length_le (by simp)]
          exact setC_buf hc h16
        | false =>
          rw [hbl] at hb
          rw [hb] at hon
          conv => whnf
          refine ⟨(out, k + 1), [0, 1, 2, 3, 4], [], Sub.pk [1] ?_, ⟨hlt, by simp; omega, by rw [← hon]; simp⟩, by show s.cores.length - (k + 1) < s.cores.length - k; omega⟩
          conv => whnf
          refine ⟨rfl, rfl, Nat.le_refl _, ?_⟩
          refine Sub0.mk' rfl ⟨⟨rfl, rfl⟩, ⟨rfl, rfl⟩, .inl rfl, .inl (ti_succ hlt (by omega)), trivial⟩ ⟨⟨rfl, .inl rfl, .inl rfl, .inl rfl, .inl rfl, .inl rfl, ⟨rfl, rfl⟩, ⟨rfl, rfl⟩, ⟨rfl, rfl⟩, trivial⟩, ⟨rfl, rfl, rfl, rfl, .inl ?_⟩, ⟨rfl, rfl, rfl, rfl⟩, ⟨rfl, rfl, rfl, rfl⟩, ⟨rfl, rfl, rfl, rfl⟩, trivial⟩ rfl rfl
          show setC (s.cores.map Cst.row) k 18 (.lst 3 24 ((c.buf.map Sto.row).take (c.buf.map Sto.row).length)) = s.cores.map Cst.row
          rw [List.take_of_length_le (by simp)]
          exact setC_buf hc h16
    · conv => whnf
      refine ⟨rfl, hcl, fun row hrow => ?_⟩
      obtain rfl := row_of hc hrow
      clear hrow
      refine ⟨by rw [row_len h16]; show 0 + 18 < 19; decide, fun t ht => ?_⟩
      obtain rfl := row_buf h16 ht
      clear ht
      conv => whnf
      refine ⟨by decide, ?_⟩
      conv => whnf
      cases hb : decide (((c.buf.map Sto.row).length : Int) > 0) with
      | true =>
        rw [hbl] at hb
        rw [hb] at hon
        conv => whnf
        refine ⟨rfl, rfl, rfl, (by rw [List.length_map]; exact Nat.le_refl _), (show (out.length + 1) * 16 ≤ 150000000000000 by omega), fun q hq => ?_, ?_⟩
        · cases hq with
          | head => exact Nat.ne_of_beq_eq_false rfl
          | tail _ h => cases h
        conv => whnf
        refine ⟨(out ++ [Stp.mk 2 k], k + 1), [0, 1, 2, 3, 40], [], Sub.pk [1] ?_, ⟨hlt, by simp; omega, by rw [← hon]; simp⟩, by show s.cores.length - (k + 1) < s.cores.length - k; omega⟩
        conv => whnf
        refine ⟨rfl, rfl, Nat.le_refl _, ?_⟩
        refine Sub0.mk' rfl ⟨⟨rfl, rfl⟩, ⟨rfl, by simp⟩, .inl rfl, .inl (ti_succ hlt (by omega)), trivial⟩ ⟨⟨rfl, .inl rfl, .inl rfl, .inl rfl, .inl rfl, .inl rfl, ⟨rfl, rfl⟩, ⟨rfl, rfl⟩, ⟨rfl, rfl⟩, trivial⟩, ⟨rfl, rfl, rfl, rfl, .inl ?_⟩, ⟨rfl, rfl, rfl, rfl⟩, ⟨rfl, rfl, rfl, rfl⟩, ⟨rfl, rfl, rfl, (by rw [List.take_of_length_le (by simp), List.map_append]; rfl)⟩, trivial⟩ rfl rfl
        show setC (s.cores.map Cst.row) k 18 (.lst 3 24 ((c.buf.map Sto.row).take (c.buf.map Sto.row).length)) = s.cores.map Cst.row
        rw [List.take_of_length_le (by simp)]
        exact setC_buf hc h16
      | false =>
        rw [hbl] at hb
        rw [hb] at hon
        conv => whnf
        refine ⟨(out, k + 1), [0, 1, 2, 3, 4], [], Sub.pk [1] ?_, ⟨hlt, by simp; omega, by rw [← hon]; simp⟩, by show s.cores.length - (k + 1) < s.cores.length - k; omega⟩
        conv => whnf
        refine ⟨rfl, rfl, Nat.le_refl _, ?_⟩
        refine Sub0.mk' rfl ⟨⟨rfl, rfl⟩, ⟨rfl, rfl⟩, .inl rfl, .inl (ti_succ hlt (by omega)), trivial⟩ ⟨⟨rfl, .inl rfl, .inl rfl, .inl rfl, .inl rfl, .inl rfl, ⟨rfl, rfl⟩, ⟨rfl, rfl⟩, ⟨rfl, rfl⟩, trivial⟩, ⟨rfl, rfl, rfl, rfl, .inl ?_⟩, ⟨rfl, rfl, rfl, rfl⟩, ⟨rfl, rfl, rfl, rfl⟩, ⟨rfl, rfl, rfl, rfl⟩, trivial⟩ rfl rfl
        show setC (s.cores.map Cst.row) k 18 (.lst 3 24 ((c.buf.map Sto.row).take (c.buf.map Sto.row).length)) = s.cores.map Cst.row
        rw [List.take_of_length_le (by simp)]
        exact setC_buf hc h16
  · have hge : k = s.cores.length := by have : decide ((k : Int) < (s.cores.length : Int)) = false := hge; have := of_decide_eq_false this; omega
    subst hge
    have ho : out = L := ho.trans hL
    subst ho
    conv => whnf
    refine ⟨fun _ => ?_, fun h => absurd rfl h⟩
    conv => whnf
    exact ⟨⟨rfl, by rw [List.length_map]; exact Nat.le_refl _, by rw [List.take_of_length_le (by simp)]⟩, ⟨rfl, .inl rfl, .inl rfl, .inl rfl, .inl rfl, .inl rfl, ⟨rfl, rfl⟩, ⟨rfl, rfl⟩, ⟨rfl, rfl⟩, trivial⟩, ⟨rfl, rfl, rfl, rfl, .inl rfl⟩, ⟨rfl, rfl, rfl, rfl⟩, ⟨rfl, rfl, rfl, rfl⟩, trivial⟩
end Go.Proofs.YtioafhkkkmfkdaaGreatDoor.am

namespace Go.Proofs.YtioafhkkkmfkdaaGreatDoor.am
open Go Go.Proofs
set_option linter.all false

abbrev stB (s : Mst) : Blk := .cells 72 [.tr (intsT s.o.memory), .tr (ti s.o.shared), .tr (ti s.o.locks), .tr (ti s.o.buffer), .tr (coresT s.o.cores), .tr (csT s.cores), .tr (intsT s.mem), .tr (prT s.prints)]
end Go.Proofs.YtioafhkkkmfkdaaGreatDoor.am

namespace Go.Proofs.YtioafhkkkmfkdaaGreatDoor.am
open Go Go.Proofs
set_option linter.all false

def timedE (o : Ob) (l : List Pac) (most : Int) : Int := bif (checkO o).1 != 0 then (checkO o).1 else bif (l.length != o.cores.length) || ((l.any fun p => !pacOk p) || (decide (most < 0) || decide (most > 1048576))) then 2 else 0
def timedR (o : Ob) (l : List Pac) (most : Nat) : Mst × List Thg × List Stp := timedG l most (newM o) (startT o.cores.length) []
/-- how the steps are told: the machine is the state's, the agenda holds what comes -/
structure TmI (l : List Pac) (most : Nat) (X : Mst × List Thg × List Stp) (s : Mst) (R : List Com) (n : Nat) (put : Int) (out : List Stp) (T : List Thg) : Prop where
  inv : VInv s
  prints : s.prints.length ≤ out.length
  ag : AInv R n T
  tin : TInv l s T (65536 * out.length)
  cores : l.length = s.cores.length
  len : out.length ≤ most
  put0 : 0 ≤ put
  put1 : put ≤ l.length + 2 * out.length
  rl : R.length ≤ l.length + 2 * out.length + 1
  fin : timedG l (most - out.length) s T out = X
theorem startT_succ (j : Nat) : startT (j + 1) = startT j ++ [⟨0, true, (j : Int)⟩] := by
  unfold startT
  rw [List.range_succ, List.map_append]; rfl
theorem oneT_eq {l : List Pac} {s : Mst} {T : List Thg} {t c : Int} {b : Bool} (h : minT T = ⟨t, b, c⟩) : oneT l s T = bif b then ((stepS s 1 c).1, resT T ++ newT l ⟨t, true, c⟩ (stepS s 1 c).2.1 (stepS s 1 c).2.2, ⟨1, c⟩) else ((stepS s 2 c).1, resT T, ⟨2, c⟩) := by
  unfold oneT
  rw [h]
  cases b <;> rfl
theorem pac_row {l : List Pac} {c : Int} {row : List Tr} (h : (l.map Pac.cells)[c.toNat]? = some row) : row = (pacAt l c).cells := by
  obtain ⟨p, hp, rfl⟩ := pac_get h
  unfold pacAt
  rw [List.getD_eq_getElem?_getD, hp]; rfl
theorem pac_rng {l : List Pac} (hl : ∀ p ∈ l, pacOk p = true) {c : Int} (h0 : 0 ≤ c) (h1 : c < (l.length : Int)) : (1 ≤ (pacAt l c).step ∧ (pacAt l c).step ≤ 65536) ∧ (0 ≤ (pacAt l c).lag ∧ (pacAt l c).lag ≤ 65536) := by
  have hpa : pacOk (pacAt l c) = true := by
    unfold pacAt
    rw [List.getD_eq_getElem?_getD, List.getElem?_eq_getElem (by omega)]
    exact hl _ (List.getElem_mem _)
  unfold pacOk at hpa
  simp only [Bool.and_eq_true, decide_eq_true_eq] at hpa
  exact ⟨⟨hpa.1, hpa.2.1⟩, ⟨hpa.2.2.1, hpa.2.2.2⟩⟩
theorem TmI.step {l : List Pac} {most : Nat} {X : Mst × List Thg × List Stp} {s : Mst} {R : List Com} {n : Nat} {put : Int} {out : List Stp} {T : List Thg} (h : TmI l most X s R (n + 1) put out T) (hl : ∀ p ∈ l, pacOk p = true) (hlt : out.length < most) {t c : Int} {b : Bool} (hm : minT T = ⟨t, b, c⟩)
    {s' : Mst} {T1 T2 : List Thg} {x : Stp} (h1 : oneT l s T = (s', T1, x)) (hpm : T1.Perm T2) {R' : List Com} {n' : Nat} {put' : Int} (hA : AInv R' n' T1) (hp0 : 0 ≤ put') (hp1 : put' ≤ put + 2) (hr : R'.length ≤ R.length + 2) : TmI l most X s' R' n' put' (out ++ [x]) T1 := by
  have hT : 0 < T.length := by have := h.ag.size; omega
  have ht := h.tin.one hT hl h.cores
  have hf := h.fin
  rw [show most - out.length = (most - (out.length + 1)) + 1 by omega, timedG_succ, decide_eq_true hT, cond_true, h1] at hf
  rw [h1] at ht
  have hs' : s' = (stepS s x.kind x.core).1 := by
    have := congrArg Prod.fst h1
    have h3 := congrArg (fun q => q.2.2) h1
    rw [oneT_eq hm] at this h3
    cases b
    · have h3 : (⟨2, c⟩ : Stp) = x := h3
      rw [← h3]; exact this.symm
    · have h3 : (⟨1, c⟩ : Stp) = x := h3
      rw [← h3]; exact this.symm
  have hpr := stepS_prints s x.kind x.core
  have hcl := stepS_len s x.kind x.core
  rw [← hs'] at hpr hcl
  have hlen : (out ++ [x]).length = out.length + 1 := by rw [List.length_append, List.length_singleton]
  have h4 := h.prints
  have h5 := h.put1
  have h6 := h.rl
  refine ⟨by rw [hs']; exact stepS_inv h.inv _ _, by omega, hA, ?_, by rw [hcl]; exact h.cores, by omega, hp0, by rw [hlen]; omega, by rw [hlen]; omega, by rw [hlen]; exact hf⟩
  rw [hlen, show (65536 : Int) * ((out.length + 1 : Nat) : Int) = 65536 * out.length + 65536 by omega]
  exact ht
set_option maxRecDepth 100000 in
set_option maxHeartbeats 8000000 in
theorem s_timed (o : Ob) (l : List Pac) (most : Nat) (h0 : (checkO o).1 = 0) (hl : l.length = o.cores.length) (hp : ∀ p ∈ l, pacOk p = true) (hm : most ≤ 1048576) : K 16 [o.av, .tr (pacT l), .tr (ti most)] [] (.ret (.tup [.tr (stepsT (timedR o l most).2.2), .tr (tb ((timedR o l most).2.1.length == 0)), .tr (ti 0)])) [] := by
  have hg := check_good h0
  have hn1 := k_vnew o h0 hg.mem hg.cores (fun c hc => (hg.code c hc).2)
  have hcp := s_conPac l
  have hany : (l.any fun p => !pacOk p) = false := by
    rw [List.any_eq_false]
    intro p hpl
    rw [hp p hpl]; decide
  rw [hany] at hcp
  have hV := VInv.new h0
  have hpr0 : (newM o).prints.length = 0 := rfl
  have hcl0 : (newM o).cores.length = o.cores.length := by simp [newM]
  generalize hX : timedR o l most = X
  unfold timedR at hX
  rw [← hl] at hX hcl0
  have hk8 : l.length ≤ 8 := by rw [hl]; exact hg.cores
  have hlm : (l.map Pac.cells).length = l.length := List.length_map ..
  have hcm : ((o.cores.map Cor.cells).length : Int) = (l.length : Int) := by rw [List.length_map, hl]
  clear hl h0 hg hany
  generalize newM o = s0 at hn1 hV hpr0 hcl0 hX
  obtain ⟨memory, shared, locks, buffer, cores⟩ := o
  simp only at hcm
  have c1 : (((l.map Pac.cells).length : Int) != ((cores.map Cor.cells).length : Int)) = false := by rw [hcm, hlm]; simp
  have c4 : decide ((most : Int) > 1048576) = false := decide_eq_false (by omega)
  refine Ctr.cut [17] hT hmix Tryz.func16 rfl (fun _ _ => by kernel_rfl) rfl fun hok => ?_
  clear hok
  conv => whnf
  refine acall.new [] [] _ _ _ _ hn1 rfl rfl rfl rfl aut aut rfl rfl fun _ => ?_
  conv => whnf
  refine csplit (fun g => ctf g c1) (fun _ => ?_)
  conv => whnf
  refine acall.au [] [] hcp ?_
  intro _
  conv => whnf
  refine csplit (fun g => ctf g c4) (fun _ => ?_)
  conv => whnf
  refine LoopL.by (fun x : List Com × Nat => ⟨[(1, .tr (pacT l)), (2, .tr (ti most)), (9, .ptr 0 0), (12, .ptr 4 0), (48, .tr (ti l.length)), (49, .tr (ti x.2))], [(0, maB s0), (1, csB s0.cores), (2, meB s0.mem), (3, prB s0.prints), (4, agC 5 x.2 x.2), (5, coV x.1)], 10⟩) (fun x => x.2 ≤ l.length ∧ AInv x.1 x.2 (startT x.2) ∧ x.1.length = x.2) (fun x => l.length - x.2) ([], 0) [_, _, _, _, _] [5]
    (Sub.mk' rfl ⟨.inl rfl, .inl rfl, ⟨rfl, rfl⟩, ⟨rfl, rfl⟩, .inl (by rw [← hlm]), .inl rfl, trivial⟩ ⟨⟨rfl, .inl rfl, .inl rfl, .inl rfl, .inl rfl, .inl rfl, ⟨rfl, rfl⟩, ⟨rfl, rfl⟩, ⟨rfl, rfl⟩, trivial⟩, ⟨rfl, rfl, rfl, rfl, .inl rfl⟩, ⟨rfl, rfl, rfl, rfl⟩, ⟨rfl, rfl, rfl, rfl⟩, ⟨rfl, ⟨rfl, rfl, rfl, rfl⟩, .inl rfl, trivial⟩, ⟨rfl, _, _, _, rfl, by decide⟩, trivial⟩ rfl rfl)
    ⟨Nat.zero_le _, ⟨Nat.le_refl _, (fun k _ hk => by cases hk), (fun x hx => by cases hx), List.Perm.refl _⟩, rfl⟩ ?_
  rintro ⟨R, j⟩ ⟨hj, hA, hRl⟩ -
  simp only at hj hA hRl
  conv => whnf
  refine csplit (fun hlt => ?_) (fun hge => ?_)
  · have hlt : j < l.length := by have := of_decide_eq_true hlt; omega
    have had := s_add R j j 1 j 0 (by omega) (by omega) ⟨by omega, by omega⟩
    obtain ⟨hA2, hl2⟩ := hA.push (x := ⟨1, j, 0, j⟩) (T' := startT (j + 1)) (.inl rfl) (by rw [startT_succ]; exact (List.perm_append_singleton ..).symm)
    conv => whnf
    refine acall.new [4, 5] [] _ _ _ _ had rfl rfl rfl rfl aut aut rfl rfl fun _ => ?_
    conv => whnf
    exact ⟨(pushS R j ⟨1, j, 0, j⟩, j + 1), [0, 1, 2, 3, 4, _], [], Sub.mk' rfl ⟨.inl rfl, .inl rfl, ⟨rfl, rfl⟩, ⟨rfl, rfl⟩, .inl rfl, .inl (ti_succ hlt (by omega)), trivial⟩ ⟨⟨rfl, .inl rfl, .inl rfl, .inl rfl, .inl rfl, .inl rfl, ⟨rfl, rfl⟩, ⟨rfl, rfl⟩, ⟨rfl, rfl⟩, trivial⟩, ⟨rfl, rfl, rfl, rfl, .inl rfl⟩, ⟨rfl, rfl, rfl, rfl⟩, ⟨rfl, rfl, rfl, rfl⟩, ⟨rfl, ⟨rfl, rfl⟩, .inl rfl, trivial⟩, ⟨rfl, rfl, rfl, rfl⟩, trivial⟩ rfl rfl, ⟨hlt, hA2, hl2⟩, by show l.length - (j + 1) < l.length - j; omega⟩
  have hge : j = l.length := by have := of_decide_eq_false hge; omega
  subst hge
  conv => whnf
  refine ⟨fun _ => ?_, fun h => absurd rfl h⟩
  conv => whnf
  refine LoopL.by (fun x : Mst × List Com × Nat × Int × List Stp × List Thg => ⟨[(1, .tr (pacT l)), (2, .tr (ti most)), (9, .ptr 0 0), (12, .ptr 4 0), (14, .sl 6 x.2.2.2.2.1.length)], [(0, maB x.1), (1, csB x.1.cores), (2, meB x.1.mem), (3, prB x.1.prints), (4, agC 5 x.2.2.1 x.2.2.2.1), (5, coV x.2.1), (6, stV x.2.2.2.2.1)], 10⟩) (fun x => TmI l most X x.1 x.2.1 x.2.2.1 x.2.2.2.1 x.2.2.2.2.1 x.2.2.2.2.2) (fun x => most - x.2.2.2.2.1.length) (s0, R, l.length, (l.length : Int), [], startT l.length) [0, 1, 2, 3, 4, 5] [6]
    (Sub.mk' rfl ⟨.inl rfl, .inl rfl, ⟨rfl, rfl⟩, ⟨rfl, rfl⟩, ⟨rfl, rfl, rfl, rfl⟩, trivial⟩ ⟨⟨rfl, .inl rfl, .inl rfl, .inl rfl, .inl rfl, .inl rfl, ⟨rfl, rfl⟩, ⟨rfl, rfl⟩, ⟨rfl, rfl⟩, trivial⟩, ⟨rfl, rfl, rfl, rfl, .inl rfl⟩, ⟨rfl, rfl, rfl, rfl⟩, ⟨rfl, rfl, rfl, rfl⟩, ⟨rfl, ⟨rfl, rfl⟩, .inl rfl, trivial⟩, ⟨rfl, rfl, rfl, rfl⟩, ⟨rfl, _, _, _, rfl, by decide⟩, trivial⟩ rfl rfl)
    ⟨hV, by show s0.prints.length ≤ 0; omega, hA, (by have := TInv.start l s0; rw [hcl0] at this; exact this), hcl0.symm, Nat.zero_le _, Int.natCast_nonneg _, by show (l.length : Int) ≤ l.length + 2 * 0; omega, by show R.length ≤ l.length + 2 * 0 + 1; omega, hX⟩ ?_
  clear hA hX hRl hj hV hpr0 hcl0 hn1
  rintro ⟨s, R, n, put, out, T⟩ hI -
  simp only at hI
  have hnT := hI.ag.size
  have hlen := hI.len
  have hput1 := hI.put1
  have hrl := hI.rl
  conv => whnf
  refine acall.au [4, 5] [] (s_len R n put) ?_
  intro _
  conv => whnf
  refine csplit (fun g1 => ?_) (fun g1 => ?_)
  case refine_2 =>
    have hn0 : n = 0 := by have : decide ((n : Int) > 0) = false := g1; have := of_decide_eq_false this; omega
    have hf := hI.fin
    have hT0 : T = [] := List.eq_nil_of_length_eq_zero (by omega)
    rw [hT0, timedG_end] at hf
    subst hf
    have hfb : ((n : Int) == 0) = ((([] : List Thg).length) == 0) := by rw [hn0]; rfl
    conv => whnf
    refine ⟨fun _ => ?_, fun h => absurd rfl h⟩
    conv => whnf
    refine acall.au [4, 5] [] (s_len R n put) ?_
    intro _
    conv => whnf
    exact ⟨⟨⟨rfl, by rw [List.length_map]; exact Nat.le_refl _, by rw [List.take_of_length_le (by simp)]⟩, .inl (congrArg tb hfb), .inl rfl, trivial⟩, trivial⟩
  have hn0 : 0 < n := by have : decide ((n : Int) > 0) = true := g1; have := of_decide_eq_true this; omega
  conv => whnf
  refine csplit (fun g2 => ?_) (fun g2 => ?_)
  case refine_2 =>
    have hfu : out.length = most := by have : decide ((out.length : Int) < (most : Int)) = false := g2; have := of_decide_eq_false this; omega
    have hf := hI.fin
    rw [hfu, Nat.sub_self] at hf
    have hf : (s, T, out) = X := hf
    subst hf
    have hfb : ((n : Int) == 0) = (T.length == 0) := by
      rw [hnT]
      cases T <;> simp
      omega
    conv => whnf
    refine ⟨fun _ => ?_, fun h => absurd rfl h⟩
    conv => whnf
    refine acall.au [4, 5] [] (s_len R n put) ?_
    intro _
    conv => whnf
    exact ⟨⟨⟨rfl, by rw [List.length_map]; exact Nat.le_refl _, by rw [List.take_of_length_le (by simp)]⟩, .inl (congrArg tb hfb), .inl rfl, trivial⟩, trivial⟩
  have hlt : out.length < most := by have : decide ((out.length : Int) < (most : Int)) = true := g2; have := of_decide_eq_true this; omega
  obtain ⟨n, rfl⟩ : ∃ q, n = q + 1 := ⟨n - 1, by omega⟩
  have hpop := s_heapPop R n put hI.ag.len (by omega)
  obtain ⟨p1, p2, p3, p4⟩ := hI.ag.pop
  generalize (popS R n).getD n zeroC0 = y at hpop p1 p2
  obtain ⟨k, c, t, nu⟩ := y
  have hmem : minT T ∈ T := (resT_perm (by omega)).mem_iff.1 (.head _)
  have hmc := hI.tin.core _ hmem
  have hmt := hI.tin.time _ hmem
  rw [← p1] at hmc hmt
  have hmc : 0 ≤ c ∧ c < (s.cores.length : Int) := hmc
  have hmt : 0 ≤ t ∧ t ≤ 65536 * (out.length : Int) := hmt
  have hput0 := hI.put0
  have hal := hI.ag.len
  have hda : ∀ k : Int, (out.map Stp.cells).take out.length ++ [[tu k, ti c]] = (out ++ [Stp.mk k c]).map Stp.cells := fun k => by rw [List.take_of_length_le (by simp), List.map_append]; rfl
  conv => whnf
  refine acall.au [4, 5] [] hpop ?_
  intro _
  conv => whnf
  rcases p2 with hk | hk
  · have hk : k = 1 := hk
    subst hk
    have hm1 : minT T = ⟨t, true, c⟩ := p1.symm
    have hone := oneT_eq (l := l) (s := s) hm1
    have hst := k_step s hI.inv (by have := hI.prints; omega) 1 c
    generalize stepS s 1 c = S at hst hone
    obtain ⟨s', ⟨dk, dc, da, dd, dw, dp, dn⟩, e⟩ := S
    simp only at hst hone
    refine CutL.by (fun _ : Unit => ⟨[(1, .tr (pacT l)), (2, .tr (ti most)), (9, .ptr 0 0), (12, .ptr 4 0), (14, .sl 6 out.length), (15, .ptr 7 0), (16, .ptr 8 0), (17, .tr (ti e))], [(0, maB s'), (1, csB s'.cores), (2, meB s'.mem), (3, prB s'.prints), (4, agC 5 n put), (5, coV (popS R n)), (6, stV out), (7, .cells 93 [.tr (tu 1), .tr (ti c), .tr (ti t), .tr (ti nu)]), (8, diB ⟨dk, dc, da, dd, dw, dp, dn⟩)], 10⟩) (fun _ => True) ?_ ?_
    · conv => whnf
      rcases hst with hst | hst
      · refine acall.au [0, 1, 2, 3] [] hst ?_
        intro _
        conv => whnf
        exact ⟨(), [0, 1, 2, 3, 4, 5, 6, _, _], [], Sub.mk' rfl ⟨.inl rfl, .inl rfl, ⟨rfl, rfl⟩, ⟨rfl, rfl⟩, ⟨rfl, rfl⟩, ⟨rfl, rfl⟩, ⟨rfl, rfl⟩, .inl rfl, trivial⟩ ⟨⟨rfl, .inl rfl, .inl rfl, .inl rfl, .inl rfl, .inl rfl, ⟨rfl, rfl⟩, ⟨rfl, rfl⟩, ⟨rfl, rfl⟩, trivial⟩, ⟨rfl, rfl, rfl, rfl, .inl rfl⟩, ⟨rfl, rfl, rfl, rfl⟩, ⟨rfl, rfl, rfl, rfl⟩, ⟨rfl, ⟨rfl, rfl⟩, .inl rfl, trivial⟩, ⟨rfl, rfl, rfl, rfl⟩, ⟨rfl, rfl, rfl, rfl⟩, ⟨rfl, .inl rfl, .inl rfl, .inl rfl, .inl rfl, trivial⟩, ⟨rfl, .inl rfl, .inl rfl, .inl rfl, .inl rfl, .inl rfl, .inl rfl, .inl rfl, trivial⟩, trivial⟩ rfl rfl, trivial⟩
      · refine acall.new [0, 1, 2, 3] [] _ _ _ _ hst rfl rfl rfl rfl aut aut rfl rfl fun _ => ?_
        conv => whnf
        exact ⟨(), [0, 1, 2, _, 4, 5, 6, _, _], [], Sub.mk' rfl ⟨.inl rfl, .inl rfl, ⟨rfl, rfl⟩, ⟨rfl, rfl⟩, ⟨rfl, rfl⟩, ⟨rfl, rfl⟩, ⟨rfl, rfl⟩, .inl rfl, trivial⟩ ⟨⟨rfl, .inl rfl, .inl rfl, .inl rfl, .inl rfl, .inl rfl, ⟨rfl, rfl⟩, ⟨rfl, rfl⟩, ⟨rfl, rfl⟩, trivial⟩, ⟨rfl, rfl, rfl, rfl, .inl rfl⟩, ⟨rfl, rfl, rfl, rfl⟩, ⟨rfl, rfl, rfl, rfl⟩, ⟨rfl, ⟨rfl, rfl⟩, .inl rfl, trivial⟩, ⟨rfl, rfl, rfl, rfl⟩, ⟨rfl, rfl, rfl, rfl⟩, ⟨rfl, .inl rfl, .inl rfl, .inl rfl, .inl rfl, trivial⟩, ⟨rfl, .inl rfl, .inl rfl, .inl rfl, .inl rfl, .inl rfl, .inl rfl, .inl rfl, trivial⟩, trivial⟩ rfl rfl, trivial⟩
    rintro - - -
    have hda := hda 1
    conv => whnf
    refine ⟨rfl, rfl, rfl, (by rw [List.length_map]; exact Nat.le_refl _), (show (out.length + 1) * 16 ≤ 150000000000000 by omega), fun q hq => ?_, ?_⟩
    · cases hq with
      | head => exact Nat.ne_of_beq_eq_false rfl
      | tail _ h => cases h
    conv => whnf
    obtain ⟨⟨r1, r2⟩, ⟨r3, r4⟩⟩ := pac_rng hp (c := c) hmc.1 (by rw [hI.cores]; exact hmc.2)
    have hrowP := @pac_row l c
    have hlc : c < (l.length : Int) := by rw [hI.cores]; exact hmc.2
    generalize hpe : pacAt l c = P at r1 r2 r3 r4 hrowP
    obtain ⟨ps, pl⟩ := P
    simp only at r1 r2 r3 r4 hrowP
    have hw1 : IntKind.i64.wrap (t + ps) = t + ps := w64 (by omega) (by omega)
    have hw2 : IntKind.i64.wrap (t + pl) = t + pl := w64 (by omega) (by omega)
    have hagd : againB ⟨dk, dc, da, dd, dw, dp, dn⟩ e = (e == 181 || (dk != 0 && dk != 7)) := rfl
    refine csplit (fun g3 => ?_) (fun g3 => ?_)
    · replace g3 : (e == 181) = true := g3
      have hag : againB ⟨dk, dc, da, dd, dw, dp, dn⟩ e = true := by rw [hagd, g3]; rfl
      obtain ⟨hA1, hl1⟩ := p3.push (x := ⟨1, c, t + ps, put⟩) (T' := ⟨t + ps, true, c⟩ :: resT T) (.inl rfl) (List.Perm.refl _)
      have had1 := s_add (popS R n) n put 1 c (t + ps) p3.len (by omega) ⟨hput0, by omega⟩
      have had2 := s_add (pushS (popS R n) n ⟨1, c, t + ps, put⟩) (n + 1) (put + 1) 2 c (t + pl) (by rw [hl1]; exact Nat.le_refl _) (by rw [hl1]; omega) ⟨by omega, by omega⟩
      conv => whnf
      refine ⟨rfl, hmc.1, (show c < ((l.map Pac.cells).length : Int) by rw [hlm]; omega), fun row hrow => ?_⟩
      obtain rfl := hrowP hrow
      clear hrow
      conv => whnf
      rw [hw1]
      refine acall.new [4, 5] [] _ _ _ _ had1 rfl rfl rfl rfl aut aut rfl rfl ?_
      conv => whnf
      refine ⟨by kernel_rfl, fun _ => ?_⟩
      conv => whnf
      refine csplit (fun h3 => ?_) (fun h3 => ?_)
      · replace h3 : (dk == 3) = true := h3
        have hnt : newT l ⟨t, true, c⟩ ⟨dk, dc, da, dd, dw, dp, dn⟩ e = [⟨t + pl, false, c⟩] ++ [⟨t + ps, true, c⟩] := by unfold newT; rw [hag, h3, hpe]; rfl
        rw [hnt] at hone
        have hpm : (Thg.mk (t + pl) false c :: Thg.mk (t + ps) true c :: resT T).Perm (resT T ++ ([Thg.mk (t + pl) false c] ++ [Thg.mk (t + ps) true c])) := List.perm_append_comm (l₁ := [Thg.mk (t + pl) false c, Thg.mk (t + ps) true c]) (l₂ := resT T)
        obtain ⟨hA2, hl2⟩ := hA1.push (x := ⟨2, c, t + pl, put + 1⟩) (T' := resT T ++ ([Thg.mk (t + pl) false c] ++ [Thg.mk (t + ps) true c])) (.inr rfl) hpm
        have hI2 := hI.step hp hlt hm1 hone (List.Perm.refl _) hA2 (show 0 ≤ put + 1 + 1 by omega) (by omega) (by rw [hl2]; have := hI.ag.len; omega)
        conv => whnf
        refine ⟨rfl, hmc.1, (show c < ((l.map Pac.cells).length : Int) by rw [hlm]; omega), fun row hrow => ?_⟩
        obtain rfl := hrowP hrow
        clear hrow
        conv => whnf
        rw [hw2]
        refine acall.new [4, _] [] _ _ _ _ had2 rfl rfl rfl rfl aut aut rfl rfl ?_
        conv => whnf
        refine ⟨by kernel_rfl, fun _ => ?_⟩
        conv => whnf
        exact ⟨(s', pushS (pushS (popS R n) n ⟨1, c, t + ps, put⟩) (n + 1) ⟨2, c, t + pl, put + 1⟩, n + 1 + 1, put + 1 + 1, out ++ [Stp.mk 1 c], resT T ++ ([⟨t + pl, false, c⟩] ++ [⟨t + ps, true, c⟩])), [0, 1, 2, 3, 4, _, _], [], Sub.mk' rfl ⟨.inl rfl, .inl rfl, ⟨rfl, rfl⟩, ⟨rfl, rfl⟩, ⟨rfl, by simp⟩, trivial⟩ ⟨⟨rfl, .inl rfl, .inl rfl, .inl rfl, .inl rfl, .inl rfl, ⟨rfl, rfl⟩, ⟨rfl, rfl⟩, ⟨rfl, rfl⟩, trivial⟩, ⟨rfl, rfl, rfl, rfl, .inl rfl⟩, ⟨rfl, rfl, rfl, rfl⟩, ⟨rfl, rfl, rfl, rfl⟩, ⟨rfl, ⟨rfl, rfl⟩, .inl rfl, trivial⟩, ⟨rfl, rfl, rfl, rfl⟩, ⟨rfl, rfl, rfl, hda⟩, trivial⟩ rfl rfl, hI2, by show most - (out ++ [_]).length < most - out.length; rw [List.length_append, List.length_singleton]; omega⟩
      · replace h3 : (dk == 3) = false := h3
        have hnt : newT l ⟨t, true, c⟩ ⟨dk, dc, da, dd, dw, dp, dn⟩ e = [⟨t + ps, true, c⟩] := by unfold newT; rw [hag, h3, hpe]; rfl
        rw [hnt] at hone
        have hA1' : AInv (pushS (popS R n) n ⟨1, c, t + ps, put⟩) (n + 1) (resT T ++ [⟨t + ps, true, c⟩]) := ⟨hA1.len, hA1.heap, hA1.ok, hA1.perm.trans (List.perm_append_singleton ..).symm⟩
        have hI2 := hI.step hp hlt hm1 hone (List.Perm.refl _) hA1' (show 0 ≤ put + 1 by omega) (by omega) (by rw [hl1]; have := hI.ag.len; omega)
        conv => whnf
        exact ⟨(s', pushS (popS R n) n ⟨1, c, t + ps, put⟩, n + 1, put + 1, out ++ [Stp.mk 1 c], resT T ++ [⟨t + ps, true, c⟩]), [0, 1, 2, 3, 4, _, _], [], Sub.mk' rfl ⟨.inl rfl, .inl rfl, ⟨rfl, rfl⟩, ⟨rfl, rfl⟩, ⟨rfl, by simp⟩, trivial⟩ ⟨⟨rfl, .inl rfl, .inl rfl, .inl rfl, .inl rfl, .inl rfl, ⟨rfl, rfl⟩, ⟨rfl, rfl⟩, ⟨rfl, rfl⟩, trivial⟩, ⟨rfl, rfl, rfl, rfl, .inl rfl⟩, ⟨rfl, rfl, rfl, rfl⟩, ⟨rfl, rfl, rfl, rfl⟩, ⟨rfl, ⟨rfl, rfl⟩, .inl rfl, trivial⟩, ⟨rfl, rfl, rfl, rfl⟩, ⟨rfl, rfl, rfl, hda⟩, trivial⟩ rfl rfl, hI2, by show most - (out ++ [_]).length < most - out.length; rw [List.length_append, List.length_singleton]; omega⟩
    replace g3 : (e == 181) = false := g3
    conv => whnf
    refine csplit (fun g4 => ?_) (fun g4 => ?_)
    case refine_2 =>
      replace g4 : (dk != 0) = false := g4
      have hag : againB ⟨dk, dc, da, dd, dw, dp, dn⟩ e = false := by rw [hagd, g3, g4]; rfl
      have h3 : (dk == 3) = false := (by have h : dk = 0 := (by simpa using g4); rw [h]; rfl)
      have hnt : newT l ⟨t, true, c⟩ ⟨dk, dc, da, dd, dw, dp, dn⟩ e = [] := by unfold newT; rw [hag, h3]; rfl
      rw [hnt, List.append_nil] at hone
      have hI2 := hI.step hp hlt hm1 hone (List.Perm.refl _) p3 hput0 (by omega) (by omega)
      conv => whnf
      refine csplit (fun g => ctf g h3) (fun _ => ?_)
      conv => whnf
      exact ⟨(s', popS R n, n, put, out ++ [Stp.mk 1 c], resT T), [0, 1, 2, 3, 4, 5, _], [], Sub.mk' rfl ⟨.inl rfl, .inl rfl, ⟨rfl, rfl⟩, ⟨rfl, rfl⟩, ⟨rfl, by simp⟩, trivial⟩ ⟨⟨rfl, .inl rfl, .inl rfl, .inl rfl, .inl rfl, .inl rfl, ⟨rfl, rfl⟩, ⟨rfl, rfl⟩, ⟨rfl, rfl⟩, trivial⟩, ⟨rfl, rfl, rfl, rfl, .inl rfl⟩, ⟨rfl, rfl, rfl, rfl⟩, ⟨rfl, rfl, rfl, rfl⟩, ⟨rfl, ⟨rfl, rfl⟩, .inl rfl, trivial⟩, ⟨rfl, rfl, rfl, rfl⟩, ⟨rfl, rfl, rfl, hda⟩, trivial⟩ rfl rfl, hI2, by show most - (out ++ [_]).length < most - out.length; rw [List.length_append, List.length_singleton]; omega⟩
    replace g4 : (dk != 0) = true := g4
    conv => whnf
    refine csplit (fun g5 => ?_) (fun g5 => ?_)
    case refine_2 =>
      replace g5 : (dk != 7) = false := g5
      have hag : againB ⟨dk, dc, da, dd, dw, dp, dn⟩ e = false := by rw [hagd, g3, g4, g5]; rfl
      have h3 : (dk == 3) = false := (by have h : dk = 7 := (by simpa using g5); rw [h]; rfl)
      have hnt : newT l ⟨t, true, c⟩ ⟨dk, dc, da, dd, dw, dp, dn⟩ e = [] := by unfold newT; rw [hag, h3]; rfl
      rw [hnt, List.append_nil] at hone
      have hI2 := hI.step hp hlt hm1 hone (List.Perm.refl _) p3 hput0 (by omega) (by omega)
      conv => whnf
      refine csplit (fun g => ctf g h3) (fun _ => ?_)
      conv => whnf
      exact ⟨(s', popS R n, n, put, out ++ [Stp.mk 1 c], resT T), [0, 1, 2, 3, 4, 5, _], [], Sub.mk' rfl ⟨.inl rfl, .inl rfl, ⟨rfl, rfl⟩, ⟨rfl, rfl⟩, ⟨rfl, by simp⟩, trivial⟩ ⟨⟨rfl, .inl rfl, .inl rfl, .inl rfl, .inl rfl, .inl rfl, ⟨rfl, rfl⟩, ⟨rfl, rfl⟩, ⟨rfl, rfl⟩, trivial⟩, ⟨rfl, rfl, rfl, rfl, .inl rfl⟩, ⟨rfl, rfl, rfl, rfl⟩, ⟨rfl, rfl, rfl, rfl⟩, ⟨rfl, ⟨rfl, rfl⟩, .inl rfl, trivial⟩, ⟨rfl, rfl, rfl, rfl⟩, ⟨rfl, rfl, rfl, hda⟩, trivial⟩ rfl rfl, hI2, by show most - (out ++ [_]).length < most - out.length; rw [List.length_append, List.length_singleton]; omega⟩
    replace g5 : (dk != 7) = true := g5
    have hag : againB ⟨dk, dc, da, dd, dw, dp, dn⟩ e = true := by rw [hagd, g3, g4, g5]; rfl
    obtain ⟨hA1, hl1⟩ := p3.push (x := ⟨1, c, t + ps, put⟩) (T' := ⟨t + ps, true, c⟩ :: resT T) (.inl rfl) (List.Perm.refl _)
    have had1 := s_add (popS R n) n put 1 c (t + ps) p3.len (by omega) ⟨hput0, by omega⟩
    have had2 := s_add (pushS (popS R n) n ⟨1, c, t + ps, put⟩) (n + 1) (put + 1) 2 c (t + pl) (by rw [hl1]; exact Nat.le_refl _) (by rw [hl1]; omega) ⟨by omega, by omega⟩
    conv => whnf
    refine ⟨rfl, hmc.1, (show c < ((l.map Pac.cells).length : Int) by rw [hlm]; omega), fun row hrow => ?_⟩
    obtain rfl := hrowP hrow
    clear hrow
    conv => whnf
    rw [hw1]
    refine acall.new [4, 5] [] _ _ _ _ had1 rfl rfl rfl rfl aut aut rfl rfl ?_
    conv => whnf
    refine ⟨by kernel_rfl, fun _ => ?_⟩
    conv => whnf
    refine csplit (fun h3 => ?_) (fun h3 => ?_)
    · replace h3 : (dk == 3) = true := h3
      have hnt : newT l ⟨t, true, c⟩ ⟨dk, dc, da, dd, dw, dp, dn⟩ e = [⟨t + pl, false, c⟩] ++ [⟨t + ps, true, c⟩] := by unfold newT; rw [hag, h3, hpe]; rfl
      rw [hnt] at hone
      have hpm : (Thg.mk (t + pl) false c :: Thg.mk (t + ps) true c :: resT T).Perm (resT T ++ ([Thg.mk (t + pl) false c] ++ [Thg.mk (t + ps) true c])) := List.perm_append_comm (l₁ := [Thg.mk (t + pl) false c, Thg.mk (t + ps) true c]) (l₂ := resT T)
      obtain ⟨hA2, hl2⟩ := hA1.push (x := ⟨2, c, t + pl, put + 1⟩) (T' := resT T ++ ([Thg.mk (t + pl) false c] ++ [Thg.mk (t + ps) true c])) (.inr rfl) hpm
      have hI2 := hI.step hp hlt hm1 hone (List.Perm.refl _) hA2 (show 0 ≤ put + 1 + 1 by omega) (by omega) (by rw [hl2]; have := hI.ag.len; omega)
      conv => whnf
      refine ⟨rfl, hmc.1, (show c < ((l.map Pac.cells).length : Int) by rw [hlm]; omega), fun row hrow => ?_⟩
      obtain rfl := hrowP hrow
      clear hrow
      conv => whnf
      rw [hw2]
      refine acall.new [4, _] [] _ _ _ _ had2 rfl rfl rfl rfl aut aut rfl rfl ?_
      conv => whnf
      refine ⟨by kernel_rfl, fun _ => ?_⟩
      conv => whnf
      exact ⟨(s', pushS (pushS (popS R n) n ⟨1, c, t + ps, put⟩) (n + 1) ⟨2, c, t + pl, put + 1⟩, n + 1 + 1, put + 1 + 1, out ++ [Stp.mk 1 c], resT T ++ ([⟨t + pl, false, c⟩] ++ [⟨t + ps, true, c⟩])), [0, 1, 2, 3, 4, _, _], [], Sub.mk' rfl ⟨.inl rfl, .inl rfl, ⟨rfl, rfl⟩, ⟨rfl, rfl⟩, ⟨rfl, by simp⟩, trivial⟩ ⟨⟨rfl, .inl rfl, .inl rfl, .inl rfl, .inl rfl, .inl rfl, ⟨rfl, rfl⟩, ⟨rfl, rfl⟩, ⟨rfl, rfl⟩, trivial⟩, ⟨rfl, rfl, rfl, rfl, .inl rfl⟩, ⟨rfl, rfl, rfl, rfl⟩, ⟨rfl, rfl, rfl, rfl⟩, ⟨rfl, ⟨rfl, rfl⟩, .inl rfl, trivial⟩, ⟨rfl, rfl, rfl, rfl⟩, ⟨rfl, rfl, rfl, hda⟩, trivial⟩ rfl rfl, hI2, by show most - (out ++ [_]).length < most - out.length; rw [List.length_append, List.length_singleton]; omega⟩
    · replace h3 : (dk == 3) = false := h3
      have hnt : newT l ⟨t, true, c⟩ ⟨dk, dc, da, dd, dw, dp, dn⟩ e = [⟨t + ps, true, c⟩] := by unfold newT; rw [hag, h3, hpe]; rfl
      rw [hnt] at hone
      have hA1' : AInv (pushS (popS R n) n ⟨1, c, t + ps, put⟩) (n + 1) (resT T ++ [⟨t + ps, true, c⟩]) := ⟨hA1.len, hA1.heap, hA1.ok, hA1.perm.trans (List.perm_append_singleton ..).symm⟩
      have hI2 := hI.step hp hlt hm1 hone (List.Perm.refl _) hA1' (show 0 ≤ put + 1 by omega) (by omega) (by rw [hl1]; have := hI.ag.len; omega)
      conv => whnf
      exact ⟨(s', pushS (popS R n) n ⟨1, c, t + ps, put⟩, n + 1, put + 1, out ++ [Stp.mk 1 c], resT T ++ [⟨t + ps, true, c⟩]), [0, 1, 2, 3, 4, _, _], [], Sub.mk' rfl ⟨.inl rfl, .inl rfl, ⟨rfl, rfl⟩, ⟨rfl, rfl⟩, ⟨rfl, by simp⟩, trivial⟩ ⟨⟨rfl, .inl rfl, .inl rfl, .inl rfl, .inl rfl, .inl rfl, ⟨rfl, rfl⟩, ⟨rfl, rfl⟩, ⟨rfl, rfl⟩, trivial⟩, ⟨rfl, rfl, rfl, rfl, .inl rfl⟩, ⟨rfl, rfl, rfl, rfl⟩, ⟨rfl, rfl, rfl, rfl⟩, ⟨rfl, ⟨rfl, rfl⟩, .inl rfl, trivial⟩, ⟨rfl, rfl, rfl, rfl⟩, ⟨rfl, rfl, rfl, hda⟩, trivial⟩ rfl rfl, hI2, by show most - (out ++ [_]).length < most - out.length; rw [List.length_append, List.length_singleton]; omega⟩
  · have hk : k = 2 := hk
    subst hk
    have hm1 : minT T = ⟨t, false, c⟩ := p1.symm
    have hone := oneT_eq (l := l) (s := s) hm1
    have hst := k_step s hI.inv (by have := hI.prints; omega) 2 c
    generalize stepS s 2 c = S at hst hone
    obtain ⟨s', ⟨dk, dc, da, dd, dw, dp, dn⟩, e⟩ := S
    simp only at hst hone
    refine CutL.by (fun _ : Unit => ⟨[(1, .tr (pacT l)), (2, .tr (ti most)), (9, .ptr 0 0), (12, .ptr 4 0), (14, .sl 6 out.length), (15, .ptr 7 0), (16, .ptr 8 0), (17, .tr (ti e))], [(0, maB s'), (1, csB s'.cores), (2, meB s'.mem), (3, prB s'.prints), (4, agC 5 n put), (5, coV (popS R n)), (6, stV out), (7, .cells 93 [.tr (tu 2), .tr (ti c), .tr (ti t), .tr (ti nu)]), (8, diB ⟨dk, dc, da, dd, dw, dp, dn⟩)], 10⟩) (fun _ => True) ?_ ?_
    · conv => whnf
      rcases hst with hst | hst
      · refine acall.au [0, 1, 2, 3] [] hst ?_
        intro _
        conv => whnf
        exact ⟨(), [0, 1, 2, 3, 4, 5, 6, _, _], [], Sub.mk' rfl ⟨.inl rfl, .inl rfl, ⟨rfl, rfl⟩, ⟨rfl, rfl⟩, ⟨rfl, rfl⟩, ⟨rfl, rfl⟩, ⟨rfl, rfl⟩, .inl rfl, trivial⟩ ⟨⟨rfl, .inl rfl, .inl rfl, .inl rfl, .inl rfl, .inl rfl, ⟨rfl, rfl⟩, ⟨rfl, rfl⟩, ⟨rfl, rfl⟩, trivial⟩, ⟨rfl, rfl, rfl, rfl, .inl rfl⟩, ⟨rfl, rfl, rfl, rfl⟩, ⟨rfl, rfl, rfl, rfl⟩, ⟨rfl, ⟨rfl, rfl⟩, .inl rfl, trivial⟩, ⟨rfl, rfl, rfl, rfl⟩, ⟨rfl, rfl, rfl, rfl⟩, ⟨rfl, .inl rfl, .inl rfl, .inl rfl, .inl rfl, trivial⟩, ⟨rfl, .inl rfl, .inl rfl, .inl rfl, .inl rfl, .inl rfl, .inl rfl, .inl rfl, trivial⟩, trivial⟩ rfl rfl, trivial⟩
      · refine acall.new [0, 1, 2, 3] [] _ _ _ _ hst rfl rfl rfl rfl aut aut rfl rfl fun _ => ?_
        conv => whnf
        exact ⟨(), [0, 1, 2, _, 4, 5, 6, _, _], [], Sub.mk' rfl ⟨.inl rfl, .inl rfl, ⟨rfl, rfl⟩, ⟨rfl, rfl⟩, ⟨rfl, rfl⟩, ⟨rfl, rfl⟩, ⟨rfl, rfl⟩, .inl rfl, trivial⟩ ⟨⟨rfl, .inl rfl, .inl rfl, .inl rfl, .inl rfl, .inl rfl, ⟨rfl, rfl⟩, ⟨rfl, rfl⟩, ⟨rfl, rfl⟩, trivial⟩, ⟨rfl, rfl, rfl, rfl, .inl rfl⟩, ⟨rfl, rfl, rfl, rfl⟩, ⟨rfl, rfl, rfl, rfl⟩, ⟨rfl, ⟨rfl, rfl⟩, .inl rfl, trivial⟩, ⟨rfl, rfl, rfl, rfl⟩, ⟨rfl, rfl, rfl, rfl⟩, ⟨rfl, .inl rfl, .inl rfl, .inl rfl, .inl rfl, trivial⟩, ⟨rfl, .inl rfl, .inl rfl, .inl rfl, .inl rfl, .inl rfl, .inl rfl, .inl rfl, trivial⟩, trivial⟩ rfl rfl, trivial⟩
    rintro - - -
    have hda := hda 2
    have hI2 := hI.step hp hlt hm1 hone (List.Perm.refl _) p3 hput0 (by omega) (by omega)
    conv => whnf
    refine ⟨rfl, rfl, rfl, (by rw [List.length_map]; exact Nat.le_refl _), (show (out.length + 1) * 16 ≤ 150000000000000 by omega), fun q hq => ?_, ?_⟩
    · cases hq with
      | head => exact Nat.ne_of_beq_eq_false rfl
      | tail _ h => cases h
    conv => whnf
    refine ⟨fun _ => ?_, fun h => absurd rfl h⟩
    conv => whnf
    exact ⟨(s', popS R n, n, put, out ++ [Stp.mk 2 c], resT T), [0, 1, 2, 3, 4, 5, _], [], Sub.mk' rfl ⟨.inl rfl, .inl rfl, ⟨rfl, rfl⟩, ⟨rfl, rfl⟩, ⟨rfl, by simp⟩, trivial⟩ ⟨⟨rfl, .inl rfl, .inl rfl, .inl rfl, .inl rfl, .inl rfl, ⟨rfl, rfl⟩, ⟨rfl, rfl⟩, ⟨rfl, rfl⟩, trivial⟩, ⟨rfl, rfl, rfl, rfl, .inl rfl⟩, ⟨rfl, rfl, rfl, rfl⟩, ⟨rfl, rfl, rfl, rfl⟩, ⟨rfl, ⟨rfl, rfl⟩, .inl rfl, trivial⟩, ⟨rfl, rfl, rfl, rfl⟩, ⟨rfl, rfl, rfl, hda⟩, trivial⟩ rfl rfl, hI2, by show most - (out ++ [_]).length < most - out.length; rw [List.length_append, List.length_singleton]; omega⟩
end Go.Proofs.YtioafhkkkmfkdaaGreatDoor.am

namespace Go.Proofs.YtioafhkkkmfkdaaGreatDoor.am
open Go Go.Proofs
set_option linter.all false

def thgR (x : Thg × Int) : List Tr := [ti x.1.time, tb x.1.run, ti x.1.core, ti x.2]
abbrev tdT (Q : List (Thg × Int)) : Tr := .lst 4 32 (Q.map thgR)
abbrev tdV (Q : List (Thg × Int)) : Blk := .vec 99 4 32 (Q.map thgR)
end Go.Proofs.YtioafhkkkmfkdaaGreatDoor.am
