/- The layings of the library's contracts (written by the kit's lay-shelf and lay-plain). Contracts of Go's library, and of reading and writing words, for the abstract machine. Contracts of strings.Join and strings.Split at a blank, for the abstract machine. Contracts of target: the writer's methods. Contracts of target: numbers, kinds and fields of a text. Contract of target.instr. Plain: objects xs bytes, there and back. Plain: right objects as bytes are read as they were. Contracts of target: an instruction read from bytes. Contracts of target.head and target.memory. Contract of target.further. -/
import Derived.Shelf.Strings.Builder1
import Derived.Shelf.Strings.Builder2
import Derived.Shelf.Strings.OnBuilder
import Derived.Shelf.Small.Strs
import Derived.Shelf.Strings.Builder2Cap
import Derived.Shelf.Strconv.Itoa0
import Derived.Shelf.Strconv.Itoa1
import Derived.Shelf.LaysM
import Derived.Shelf.Strconv.Itoa2
import Derived.Shelf.Strconv.Itoa3
import Derived.Shelf.Strings.Search1
import Derived.Shelf.Strings.Search2
import Derived.Shelf.Strings.Search3
import Derived.Shelf.Strings.Count
import Derived.Shelf.Strings.Shaped
import Derived.Shelf.Strings.Prefix
import Derived.Shelf.Strings.Split
import Derived.Shelf.Strings.SplitShaped
import Derived.Shelf.Bits.Mul64
import Derived.Shelf.Unicode.DecodeSlow
import Derived.Shelf.Unicode.DecodeAny
import Derived.Test.YtffhoknkfohfgaaDoorProg
import Derived.Test.YtffhoknkfohfgaaDoorT6
import Derived.Lib.ItoaLen
import Derived.Lib.AppendIntMem
import Derived.Test.YtffhoknkfohfgaaDoorT7
set_option linter.all false

set_option linter.all false
namespace Go.Proofs
open Go.Shelf
def Tryd.lays156_ren : Go.Shelf.Ren := ⟨fun | 156 => 67 | 165 => 84 | 166 => 85 | 169 => 86 | 240 => 96 | 241 => 97 | 276 => 107 | 277 => 108 | n => n, fun | 31 => 94 | 9 => 9 | 3 => 3 | 4 => 4 | 0 => 0 | 20 => 20 | 72 => 130 | 76 => 133 | 70 => 128 | 37 => 38 | 75 => 132 | 127 => 143 | 164 => 153 | 5 => 5 | 80 => 92 | n => n, fun | n => n⟩
theorem Tryd.lays156 : Go.Proofs.Lays.n156 Tryd.prog Tryd.lays156_ren := {
  mixed := by kernel_rfl
  f156 := Tryd.func67.trans (congrArg some (by kernel_rfl))
  f165 := Tryd.func84.trans (congrArg some (by kernel_rfl))
  f166 := Tryd.func85.trans (congrArg some (by kernel_rfl))
  f169 := Tryd.func86.trans (congrArg some (by kernel_rfl))
  f240 := Tryd.func96.trans (congrArg some (by kernel_rfl))
  f241 := Tryd.func97.trans (congrArg some (by kernel_rfl))
  f276 := Tryd.func107.trans (congrArg some (by kernel_rfl))
  f277 := Tryd.func108.trans (congrArg some (by kernel_rfl))
  t0 := Tryd.underlying0
  a0 := Tryd.isAgg0
  z0 := Tryd.sizeOf0
  v0 := Tryd.zeroValue0
  t3 := Tryd.underlying3
  a3 := Tryd.isAgg3
  z3 := Tryd.sizeOf3
  v3 := Tryd.zeroValue3
  t4 := Tryd.underlying4
  a4 := Tryd.isAgg4
  z4 := Tryd.sizeOf4
  v4 := Tryd.zeroValue4
  t9 := Tryd.underlying9
  a9 := Tryd.isAgg9
  z9 := Tryd.sizeOf9
  v9 := Tryd.zeroValue9
  t20 := Tryd.underlying20
  a20 := Tryd.isAgg20
  z20 := Tryd.sizeOf20
  v20 := Tryd.zeroValue20
  t31 := Tryd.underlying94
  a31 := Tryd.isAgg94
  z31 := Tryd.sizeOf94
  v31 := Tryd.zeroValue94
  t37 := Tryd.underlying38
  a37 := Tryd.isAgg38
  z37 := Tryd.sizeOf38
  v37 := Tryd.zeroValue38
  t70 := Tryd.underlying128
  a70 := Tryd.isAgg128
  z70 := Tryd.sizeOf128
  v70 := Tryd.zeroValue128
  t72 := Tryd.underlying130
  a72 := Tryd.isAgg130
  z72 := Tryd.sizeOf130
  v72 := Tryd.zeroValue130
  t75 := Tryd.underlying132
  a75 := Tryd.isAgg132
  z75 := Tryd.sizeOf132
  v75 := Tryd.zeroValue132
  t76 := Tryd.underlying133
  a76 := Tryd.isAgg133
  z76 := Tryd.sizeOf133
  v76 := Tryd.zeroValue133
  t127 := Tryd.underlying143
  a127 := Tryd.isAgg143
  z127 := Tryd.sizeOf143
  v127 := Tryd.zeroValue143
  t164 := Tryd.underlying153
  a164 := Tryd.isAgg153
  z164 := Tryd.sizeOf153
  v164 := Tryd.zeroValue153 }
theorem Tryd.Builder_Extra_156 : Builder.Extra Tryd.prog Tryd.lays156_ren := {
  sizeBuilder := by kernel_rfl
  liesBuilder := by kernel_rfl
  t5 := Tryd.underlying5
  a5 := Tryd.isAgg5
  z5 := Tryd.sizeOf5
  v5 := Tryd.zeroValue5
  infoByte := by kernel_rfl
  cellsByte := by kernel_rfl
  sizeByte := by kernel_rfl
  neB5 := by decide }
def Tryd.lays137_ren : Go.Shelf.Ren := ⟨fun | 137 => 27 | 217 => 49 | 266 => 71 | n => n, fun | 9 => 9 | 5 => 5 | 3 => 3 | n => n, fun | n => n⟩
theorem Tryd.lays137 : Go.Proofs.Lays.n137 Tryd.prog Tryd.lays137_ren := {
  mixed := by kernel_rfl
  f137 := Tryd.func27.trans (congrArg some (by kernel_rfl))
  f217 := Tryd.func49.trans (congrArg some (by kernel_rfl))
  f266 := Tryd.func71.trans (congrArg some (by kernel_rfl))
  t3 := Tryd.underlying3
  a3 := Tryd.isAgg3
  z3 := Tryd.sizeOf3
  v3 := Tryd.zeroValue3
  t5 := Tryd.underlying5
  a5 := Tryd.isAgg5
  z5 := Tryd.sizeOf5
  v5 := Tryd.zeroValue5
  t9 := Tryd.underlying9
  a9 := Tryd.isAgg9
  z9 := Tryd.sizeOf9
  v9 := Tryd.zeroValue9 }
def Tryd.laysM171_ren : Go.Shelf.Ren := ⟨fun | 171 => 42 | 243 => 58 | 246 => 82 | 283 => 92 | 284 => 93 | 285 => 94 | 286 => 95 | 129 => 103 | 317 => 102 | 318 => 104 | 319 => 105 | 320 => 106 | 337 => 113 | 338 => 114 | n => n, fun | 3 => 3 | 9 => 9 | 2 => 2 | 4 => 4 | 171 => 138 | 0 => 0 | 53 => 66 | 37 => 38 | 5 => 5 | 173 => 141 | 212 => 148 | 51 => 149 | 20 => 20 | 213 => 150 | 46 => 103 | 232 => 163 | 233 => 164 | n => n, fun | 17 => 1 | 18 => 4 | 19 => 5 | n => n⟩
theorem Tryd.laysM171 : Go.Proofs.LaysM.n171 Tryd.prog Tryd.laysM171_ren := {
  mixed := by kernel_rfl
  f129 := Tryd.func103.trans (congrArg some (by kernel_rfl))
  f171 := Tryd.func42.trans (congrArg some (by kernel_rfl))
  f243 := Tryd.func58.trans (congrArg some (by kernel_rfl))
  f246 := Tryd.func82.trans (congrArg some (by kernel_rfl))
  f283 := Tryd.func92.trans (congrArg some (by kernel_rfl))
  f284 := Tryd.func93.trans (congrArg some (by kernel_rfl))
  f285 := Tryd.func94.trans (congrArg some (by kernel_rfl))
  f286 := Tryd.func95.trans (congrArg some (by kernel_rfl))
  f317 := Tryd.func102.trans (congrArg some (by kernel_rfl))
  f318 := Tryd.func104.trans (congrArg some (by kernel_rfl))
  f319 := Tryd.func105.trans (congrArg some (by kernel_rfl))
  f320 := Tryd.func106.trans (congrArg some (by kernel_rfl))
  f337 := Tryd.func113.trans (congrArg some (by kernel_rfl))
  f338 := Tryd.func114.trans (congrArg some (by kernel_rfl))
  t0 := Tryd.underlying0
  a0 := Tryd.isAgg0
  z0 := Tryd.sizeOf0
  v0 := Tryd.zeroValue0
  t2 := Tryd.underlying2
  a2 := Tryd.isAgg2
  z2 := Tryd.sizeOf2
  v2 := Tryd.zeroValue2
  t3 := Tryd.underlying3
  a3 := Tryd.isAgg3
  z3 := Tryd.sizeOf3
  v3 := Tryd.zeroValue3
  t4 := Tryd.underlying4
  a4 := Tryd.isAgg4
  z4 := Tryd.sizeOf4
  v4 := Tryd.zeroValue4
  t5 := Tryd.underlying5
  a5 := Tryd.isAgg5
  z5 := Tryd.sizeOf5
  v5 := Tryd.zeroValue5
  t9 := Tryd.underlying9
  a9 := Tryd.isAgg9
  z9 := Tryd.sizeOf9
  v9 := Tryd.zeroValue9
  t20 := Tryd.underlying20
  a20 := Tryd.isAgg20
  z20 := Tryd.sizeOf20
  v20 := Tryd.zeroValue20
  t37 := Tryd.underlying38
  a37 := Tryd.isAgg38
  z37 := Tryd.sizeOf38
  v37 := Tryd.zeroValue38
  t46 := Tryd.underlying103
  a46 := Tryd.isAgg103
  z46 := Tryd.sizeOf103
  v46 := Tryd.zeroValue103
  t51 := Tryd.underlying149
  a51 := Tryd.isAgg149
  z51 := Tryd.sizeOf149
  v51 := Tryd.zeroValue149
  t53 := Tryd.underlying66
  a53 := Tryd.isAgg66
  z53 := Tryd.sizeOf66
  v53 := Tryd.zeroValue66
  t171 := Tryd.underlying138
  a171 := Tryd.isAgg138
  z171 := Tryd.sizeOf138
  v171 := Tryd.zeroValue138
  t173 := Tryd.underlying141
  a173 := Tryd.isAgg141
  z173 := Tryd.sizeOf141
  v173 := Tryd.zeroValue141
  t212 := Tryd.underlying148
  a212 := Tryd.isAgg148
  z212 := Tryd.sizeOf148
  v212 := Tryd.zeroValue148
  t213 := Tryd.underlying150
  a213 := Tryd.isAgg150
  z213 := Tryd.sizeOf150
  t232 := Tryd.underlying163
  a232 := Tryd.isAgg163
  z232 := Tryd.sizeOf163
  v232 := Tryd.zeroValue163
  t233 := Tryd.underlying164
  a233 := Tryd.isAgg164
  z233 := Tryd.sizeOf164
  v233 := Tryd.zeroValue164
  g17 := by kernel_rfl
  g18 := by kernel_rfl
  g19 := by kernel_rfl
  i0 := by kernel_rfl
  i2 := by kernel_rfl
  i3 := by kernel_rfl
  i4 := by kernel_rfl
  i5 := by kernel_rfl
  i9 := by kernel_rfl
  i20 := by kernel_rfl
  i37 := by kernel_rfl
  i46 := by kernel_rfl
  i51 := by kernel_rfl
  i53 := by kernel_rfl
  i171 := by kernel_rfl
  i173 := by kernel_rfl
  i212 := by kernel_rfl
  i232 := by kernel_rfl
  i233 := by kernel_rfl
  m17 := by kernel_rfl
  m18 := by kernel_rfl
  m19 := by kernel_rfl }
def Tryd.lays143_ren : Go.Shelf.Ren := ⟨fun | 143 => 89 | 219 => 101 | 217 => 49 | 225 => 110 | 224 => 111 | 267 => 112 | 266 => 71 | 314 => 115 | n => n, fun | 9 => 9 | 3 => 3 | 4 => 4 | 5 => 5 | 46 => 103 | 146 => 161 | 51 => 149 | n => n, fun | 1 => 0 | n => n⟩
theorem Tryd.lays143 : Go.Proofs.Lays.n143 Tryd.prog Tryd.lays143_ren := {
  mixed := by kernel_rfl
  f143 := Tryd.func89.trans (congrArg some (by kernel_rfl))
  f217 := Tryd.func49.trans (congrArg some (by kernel_rfl))
  f219 := Tryd.func101.trans (congrArg some (by kernel_rfl))
  f224 := Tryd.func111.trans (congrArg some (by kernel_rfl))
  f225 := Tryd.func110.trans (congrArg some (by kernel_rfl))
  f266 := Tryd.func71.trans (congrArg some (by kernel_rfl))
  f267 := Tryd.func112.trans (congrArg some (by kernel_rfl))
  f314 := Tryd.func115.trans (congrArg some (by kernel_rfl))
  t3 := Tryd.underlying3
  a3 := Tryd.isAgg3
  z3 := Tryd.sizeOf3
  v3 := Tryd.zeroValue3
  t4 := Tryd.underlying4
  a4 := Tryd.isAgg4
  z4 := Tryd.sizeOf4
  v4 := Tryd.zeroValue4
  t5 := Tryd.underlying5
  a5 := Tryd.isAgg5
  z5 := Tryd.sizeOf5
  v5 := Tryd.zeroValue5
  t9 := Tryd.underlying9
  a9 := Tryd.isAgg9
  z9 := Tryd.sizeOf9
  v9 := Tryd.zeroValue9
  t46 := Tryd.underlying103
  a46 := Tryd.isAgg103
  z46 := Tryd.sizeOf103
  v46 := Tryd.zeroValue103
  t51 := Tryd.underlying149
  a51 := Tryd.isAgg149
  z51 := Tryd.sizeOf149
  v51 := Tryd.zeroValue149
  t146 := Tryd.underlying161
  a146 := Tryd.isAgg161
  z146 := Tryd.sizeOf161
  v146 := Tryd.zeroValue161
  g1 := by kernel_rfl }
def Tryd.lays138_ren : Go.Shelf.Ren := ⟨fun | 138 => 88 | 195 => 98 | 218 => 100 | 143 => 89 | 219 => 101 | 217 => 49 | 225 => 110 | 224 => 111 | 267 => 112 | 266 => 71 | 314 => 115 | n => n, fun | 9 => 9 | 3 => 3 | 4 => 4 | 5 => 5 | 0 => 0 | 46 => 103 | 146 => 161 | 51 => 149 | n => n, fun | 1 => 0 | n => n⟩
theorem Tryd.lays138 : Go.Proofs.Lays.n138 Tryd.prog Tryd.lays138_ren := {
  mixed := by kernel_rfl
  f138 := Tryd.func88.trans (congrArg some (by kernel_rfl))
  f143 := Tryd.func89.trans (congrArg some (by kernel_rfl))
  f195 := Tryd.func98.trans (congrArg some (by kernel_rfl))
  f217 := Tryd.func49.trans (congrArg some (by kernel_rfl))
  f218 := Tryd.func100.trans (congrArg some (by kernel_rfl))
  f219 := Tryd.func101.trans (congrArg some (by kernel_rfl))
  f224 := Tryd.func111.trans (congrArg some (by kernel_rfl))
  f225 := Tryd.func110.trans (congrArg some (by kernel_rfl))
  f266 := Tryd.func71.trans (congrArg some (by kernel_rfl))
  f267 := Tryd.func112.trans (congrArg some (by kernel_rfl))
  f314 := Tryd.func115.trans (congrArg some (by kernel_rfl))
  t0 := Tryd.underlying0
  a0 := Tryd.isAgg0
  z0 := Tryd.sizeOf0
  v0 := Tryd.zeroValue0
  t3 := Tryd.underlying3
  a3 := Tryd.isAgg3
  z3 := Tryd.sizeOf3
  v3 := Tryd.zeroValue3
  t4 := Tryd.underlying4
  a4 := Tryd.isAgg4
  z4 := Tryd.sizeOf4
  v4 := Tryd.zeroValue4
  t5 := Tryd.underlying5
  a5 := Tryd.isAgg5
  z5 := Tryd.sizeOf5
  v5 := Tryd.zeroValue5
  t9 := Tryd.underlying9
  a9 := Tryd.isAgg9
  z9 := Tryd.sizeOf9
  v9 := Tryd.zeroValue9
  t46 := Tryd.underlying103
  a46 := Tryd.isAgg103
  z46 := Tryd.sizeOf103
  v46 := Tryd.zeroValue103
  t51 := Tryd.underlying149
  a51 := Tryd.isAgg149
  z51 := Tryd.sizeOf149
  v51 := Tryd.zeroValue149
  t146 := Tryd.underlying161
  a146 := Tryd.isAgg161
  z146 := Tryd.sizeOf161
  v146 := Tryd.zeroValue161
  g1 := by kernel_rfl }
def Tryd.lays99_ren : Go.Shelf.Ren := ⟨fun | 99 => 73 | 206 => 90 | n => n, fun | 9 => 9 | 4 => 4 | 3 => 3 | n => n, fun | n => n⟩
theorem Tryd.lays99 : Go.Proofs.Lays.n99 Tryd.prog Tryd.lays99_ren := {
  mixed := by kernel_rfl
  f99 := Tryd.func73.trans (congrArg some (by kernel_rfl))
  f206 := Tryd.func90.trans (congrArg some (by kernel_rfl))
  t3 := Tryd.underlying3
  a3 := Tryd.isAgg3
  z3 := Tryd.sizeOf3
  v3 := Tryd.zeroValue3
  t4 := Tryd.underlying4
  a4 := Tryd.isAgg4
  z4 := Tryd.sizeOf4
  v4 := Tryd.zeroValue4
  t9 := Tryd.underlying9
  a9 := Tryd.isAgg9
  z9 := Tryd.sizeOf9
  v9 := Tryd.zeroValue9 }
def Tryd.lays221_ren : Go.Shelf.Ren := ⟨fun | 221 => 72 | 268 => 87 | 138 => 88 | 143 => 89 | 195 => 98 | 197 => 99 | 218 => 100 | 219 => 101 | 260 => 109 | 217 => 49 | 225 => 110 | 224 => 111 | 267 => 112 | 266 => 71 | 314 => 115 | n => n, fun | 9 => 9 | 3 => 3 | 31 => 94 | 4 => 4 | 0 => 0 | 105 => 145 | 21 => 21 | 5 => 5 | 46 => 103 | 119 => 157 | 139 => 160 | 138 => 159 | 146 => 161 | 51 => 149 | n => n, fun | 1 => 0 | 3 => 2 | 4 => 3 | n => n⟩
theorem Tryd.lays221 : Go.Proofs.Lays.n221 Tryd.prog Tryd.lays221_ren := {
  mixed := by kernel_rfl
  f138 := Tryd.func88.trans (congrArg some (by kernel_rfl))
  f143 := Tryd.func89.trans (congrArg some (by kernel_rfl))
  f195 := Tryd.func98.trans (congrArg some (by kernel_rfl))
  f197 := Tryd.func99.trans (congrArg some (by kernel_rfl))
  f217 := Tryd.func49.trans (congrArg some (by kernel_rfl))
  f218 := Tryd.func100.trans (congrArg some (by kernel_rfl))
  f219 := Tryd.func101.trans (congrArg some (by kernel_rfl))
  f221 := Tryd.func72.trans (congrArg some (by kernel_rfl))
  f224 := Tryd.func111.trans (congrArg some (by kernel_rfl))
  f225 := Tryd.func110.trans (congrArg some (by kernel_rfl))
  f260 := Tryd.func109.trans (congrArg some (by kernel_rfl))
  f266 := Tryd.func71.trans (congrArg some (by kernel_rfl))
  f267 := Tryd.func112.trans (congrArg some (by kernel_rfl))
  f268 := Tryd.func87.trans (congrArg some (by kernel_rfl))
  f314 := Tryd.func115.trans (congrArg some (by kernel_rfl))
  t0 := Tryd.underlying0
  a0 := Tryd.isAgg0
  z0 := Tryd.sizeOf0
  v0 := Tryd.zeroValue0
  t3 := Tryd.underlying3
  a3 := Tryd.isAgg3
  z3 := Tryd.sizeOf3
  v3 := Tryd.zeroValue3
  t4 := Tryd.underlying4
  a4 := Tryd.isAgg4
  z4 := Tryd.sizeOf4
  v4 := Tryd.zeroValue4
  t5 := Tryd.underlying5
  a5 := Tryd.isAgg5
  z5 := Tryd.sizeOf5
  v5 := Tryd.zeroValue5
  t9 := Tryd.underlying9
  a9 := Tryd.isAgg9
  z9 := Tryd.sizeOf9
  v9 := Tryd.zeroValue9
  t21 := Tryd.underlying21
  a21 := Tryd.isAgg21
  z21 := Tryd.sizeOf21
  v21 := Tryd.zeroValue21
  t31 := Tryd.underlying94
  a31 := Tryd.isAgg94
  z31 := Tryd.sizeOf94
  v31 := Tryd.zeroValue94
  t46 := Tryd.underlying103
  a46 := Tryd.isAgg103
  z46 := Tryd.sizeOf103
  v46 := Tryd.zeroValue103
  t51 := Tryd.underlying149
  a51 := Tryd.isAgg149
  z51 := Tryd.sizeOf149
  v51 := Tryd.zeroValue149
  t105 := Tryd.underlying145
  a105 := Tryd.isAgg145
  z105 := Tryd.sizeOf145
  v105 := Tryd.zeroValue145
  t119 := Tryd.underlying157
  a119 := Tryd.isAgg157
  z119 := Tryd.sizeOf157
  t138 := Tryd.underlying159
  a138 := Tryd.isAgg159
  z138 := Tryd.sizeOf159
  v138 := Tryd.zeroValue159
  t139 := Tryd.underlying160
  a139 := Tryd.isAgg160
  z139 := Tryd.sizeOf160
  v139 := Tryd.zeroValue160
  t146 := Tryd.underlying161
  a146 := Tryd.isAgg161
  z146 := Tryd.sizeOf161
  v146 := Tryd.zeroValue161
  g1 := by kernel_rfl
  g3 := by kernel_rfl
  g4 := by kernel_rfl }

end Go.Proofs

namespace Go.Proofs.YtffhoknkfohfgaaDoor.am
open Go Go.Proofs Go.RowKit

/-- a contract out of a law on calls: a function that only makes blocks of its own -/
theorem Ctr.ofCalls {f : Nat} {args : List AV} {a : AV} (hc : Callable Tryd.prog f) (h : ∀ (g : Gh) (w : World) (vs : Array Value), MSt g w (ofL []) → vs.size = args.length → (∀ (i : Nat) (v : Value) (a : AV), vs[i]? = some v → args[i]? = some a → Rep g w v a) →
    Calls Tryd.prog f vs w fun e w' => ∃ v, e = .returned v ∧ Below w.heap.size w w' ∧ (Grow g w g w' → MSt g w' (ofLO []) → Rep g w' v a)) : K f args [] (.ret a) [] := by
  refine ⟨hc, fun g w vs hun hm hsz hv => (h g w vs hm hsz hv).mono ?_⟩
  rintro e w' ⟨v, rfl, hb, hR⟩
  have hG : Grow g w g w' := ⟨hb.os, hb.tape, hb.output, hb.size, fun b hk => hb.block b hk.1, fun b hk => hb.block b (hm.xlt b hk), rfl, fun _ h => h, fun _ _ h => .inl h, fun k b e => .inl ⟨k, e⟩⟩
  have hM : MSt g w' (ofLO []) := ⟨fun h b e => (by simp [ofLO] at e), hm.inj, fun k b e => Nat.lt_of_lt_of_le (hm.lt k b e) hb.size, fun b hk => Nat.lt_of_lt_of_le (hm.xlt b hk) hb.size, hm.xl, hm.gl.grow hG⟩
  exact ⟨g, hG, hM, fun k _ l hl => (by have := hun k (Nat.zero_le _); rw [this] at hl; cases hl), hR hG hM⟩
theorem one_arg {vs : Array Value} (h : vs.size = 1) : ∃ v, vs = #[v] := by
  obtain ⟨l⟩ := vs
  match l, h with
  | [v], _ => exact ⟨v, rfl⟩
theorem two_arg {vs : Array Value} (h : vs.size = 2) : ∃ v u, vs = #[v, u] := by
  obtain ⟨l⟩ := vs
  match l, h with
  | [v, u], _ => exact ⟨v, u, rfl⟩
theorem four_arg {vs : Array Value} (h : vs.size = 4) : ∃ v u x y, vs = #[v, u, x, y] := by
  obtain ⟨l⟩ := vs
  match l, h with
  | [v, u, x, y], _ => exact ⟨v, u, x, y, rfl⟩

/-! the table of the powers of ten -/
theorem powTab {g : Gh} {w : World} (h : GL g w) {name : String} (hn : Tryd.prog.globalNamed name = some 1) : Lib.TabIs Tryd.prog w name .u64 Lib.pow10Tab := by
  obtain ⟨_, t, fz, e⟩ := h _ _ ⟨rfl, rfl⟩
  unfold Lib.TabIs World.var?
  rw [hn, Option.bind_some, e]
  rfl

def prnB (n : Int) : ByteArray := ⟨(ws.prn n).toArray⟩
theorem decDigits_dig (u : Nat) : Lib.decDigits u = ws.dig u := by
  induction u using Nat.strongRecOn with
  | _ u ih =>
    by_cases h : u < 10
    · rw [Lib.decDigits, dif_pos h, ws.dig_small h]; rfl
    · rw [Lib.decDigits, dif_neg h, ws.dig_big h, ih (u / 10) (by omega)]; rfl
theorem itoa_prn (n : Int) : Lib.itoa n = ws.prn n := by
  unfold Lib.itoa ws.prn
  split
  · rw [decDigits_dig, show n.natAbs = (-n).toNat by omega]
  · rw [decDigits_dig]
theorem prn_len {n : Int} (h1 : -9223372036854775808 ≤ n) (h2 : n ≤ 9223372036854775807) : (prnB n).size ≤ 21 := by
  show (ws.prn n).toArray.size ≤ 21
  rw [List.size_toArray, ← itoa_prn]
  exact Lib.itoa_length_le n h1 h2
theorem k_itoa (n : Int) : K 42 [.tr (ti n)] [] (.ret (.tr (ts (prnB n)))) [] := by
  refine Ctr.ofCalls (fun _ _ => by kernel_rfl) fun g w vs hm hsz hv => ?_
  obtain ⟨v, rfl⟩ := one_arg hsz
  obtain ⟨rfl, h1, h2⟩ := val_inv (hv 0 v (.tr (ti n)) rfl rfl)
  refine (Any.strconv_Itoa Tryd.laysM171 n h1 h2 w (powTab hm.gl (by kernel_rfl))).mono ?_
  rintro e w' ⟨rfl, k, os, rfl⟩
  rw [itoa_prn]
  exact ⟨_, rfl, Lib.below_grow _ _ (Nat.le_refl _) _ _, fun _ _ => .tr (.v (Nat.le_trans (prn_len h1 h2) (by omega)))⟩
theorem k_print (n : Int) : K 43 [.tr (ti n)] [] (.ret (.tr (ts (prnB n)))) [] := by
  refine Ctr.ofCalls (fun _ _ => by kernel_rfl) fun g w vs hm hsz hv => ?_
  obtain ⟨v, rfl⟩ := one_arg hsz
  obtain ⟨rfl, h1, h2⟩ := val_inv (hv 0 v (.tr (ti n)) rfl rfl)
  refine (ws.print_any n w h1 h2).mono ?_
  rintro e w' ⟨rfl, hb⟩
  exact ⟨_, rfl, hb, fun _ _ => .tr (.v (Nat.le_trans (prn_len h1 h2) (by omega)))⟩
/-- what Parse gives: the word, the error's number, the place -/
def prsB (s : ByteArray) : Int × Int × Int := ws.prs s.data.toList
theorem pgo_in {neg : Bool} {at_ : Nat} : ∀ (l : List UInt8) (i n : Nat), n ≤ ws.most neg → i + l.length ≤ 9223372036854775807 →
    (-9223372036854775808 ≤ (ws.pgo neg at_ l i n).1 ∧ (ws.pgo neg at_ l i n).1 ≤ 9223372036854775807) ∧ ((ws.pgo neg at_ l i n).2.1 = 0 ∨ (ws.pgo neg at_ l i n).2.1 = 10) ∧ 0 ≤ (ws.pgo neg at_ l i n).2.2 ∧ (ws.pgo neg at_ l i n).2.2 ≤ 9223372036854775807
  | [], i, n, h, hl => by
    simp only [List.length_nil] at hl
    unfold ws.pgo
    split
    · exact ⟨⟨by simp, by simp⟩, .inr rfl, by simp, by simp; omega⟩
    · refine ⟨?_, .inl rfl, by simp, by simp⟩
      cases neg with
      | true => have h : n ≤ 9223372036854775808 := h; simp only [ws.okV, if_true]; omega
      | false => have h : n ≤ 9223372036854775807 := h; simp only [ws.okV]; simp; omega
  | c :: r, i, n, h, hl => by
    simp only [List.length_cons] at hl
    unfold ws.pgo
    split
    · exact ⟨⟨by simp, by simp⟩, .inr rfl, by simp, by simp; omega⟩
    · rename_i hb
      refine pgo_in r (i + 1) _ ?_ (by omega)
      apply Decidable.byContradiction
      intro hc
      refine hb ?_
      unfold ws.bad
      simp
      omega
theorem prs_in (s : ByteArray) (hs : s.size ≤ 9223372036854775807) : (-9223372036854775808 ≤ (prsB s).1 ∧ (prsB s).1 ≤ 9223372036854775807) ∧ ((prsB s).2.1 = 0 ∨ (prsB s).2.1 = 10) ∧ 0 ≤ (prsB s).2.2 ∧ (prsB s).2.2 ≤ 9223372036854775807 := by
  have hl : s.data.toList.length = s.size := by simp
  unfold prsB ws.prs
  split
  · rename_i h
    have : 0 < s.data.toList.length := by
      unfold ws.isNeg at h
      cases hd : s.data.toList with
      | nil => rw [hd] at h; cases h
      | cons _ _ => simp
    exact pgo_in _ _ _ (Nat.zero_le _) (by rw [List.length_drop]; omega)
  · exact pgo_in _ _ _ (Nat.zero_le _) (by omega)
theorem k_parseW (s : ByteArray) : K 53 [.tr (ts s)] [] (.ret (.tup [.tr (ti (prsB s).1), .tr (ti (prsB s).2.1), .tr (ti (prsB s).2.2)])) [] := by
  refine Ctr.ofCalls (fun _ _ => by kernel_rfl) fun g w vs hm hsz hv => ?_
  obtain ⟨v, rfl⟩ := one_arg hsz
  obtain ⟨rfl, h1⟩ := val_inv (hv 0 v (.tr (ts s)) rfl rfl)
  have h1 : s.size ≤ 9223372036854775807 := h1
  refine (ws.parse_any s w h1).mono ?_
  rintro e w' ⟨rfl, rfl⟩
  obtain ⟨⟨p1, p2⟩, p3, p4, p5⟩ := prs_in s h1
  refine ⟨_, rfl, Below.refl _ _, fun _ _ => .tup rfl fun i c a e1 e2 => ?_⟩
  match i with
  | 0 => cases e1; cases e2; exact .tr (.v ⟨p1, p2⟩)
  | 1 => cases e1; cases e2; exact .tr (.v ⟨by rcases p3 with h | h <;> (unfold prsB at h; rw [h]; decide), by rcases p3 with h | h <;> (unfold prsB at h; rw [h]; decide)⟩)
  | 2 => cases e1; cases e2; exact .tr (.v ⟨Int.le_trans (by decide) p4, p5⟩)
  | i + 3 => simp at e1
def prefB (s p : ByteArray) : Bool := Lib.hasPrefix s.data.toList p.data.toList
theorem k_hasPrefix (s p : ByteArray) : K 73 [.tr (ts s), .tr (ts p)] [] (.ret (.tr (tb (prefB s p)))) [] := by
  refine Ctr.ofCalls (fun _ _ => by kernel_rfl) fun g w vs hm hsz hv => ?_
  obtain ⟨v, u, rfl⟩ := two_arg hsz
  obtain ⟨rfl, _⟩ := val_inv (hv 0 v (.tr (ts s)) rfl rfl)
  obtain ⟨rfl, _⟩ := val_inv (hv 1 u (.tr (ts p)) rfl rfl)
  refine (Any.strings_HasPrefix Tryd.lays99 s p w).mono ?_
  rintro e w' ⟨rfl, rfl⟩
  exact ⟨_, rfl, Below.refl _ _, fun _ _ => .tr (.v trivial)⟩
def idxB (s : ByteArray) (c : Int) : Int := Lib.indexByte s.data.toList c.toNat.toUInt8
theorem indexByte_le : ∀ (l : List UInt8) (c : UInt8), Lib.indexByte l c ≤ l.length ∧ -1 ≤ Lib.indexByte l c
  | [], c => ⟨by simp [Lib.indexByte], by simp [Lib.indexByte]⟩
  | b :: l, c => by
    have := indexByte_le l c
    unfold Lib.indexByte
    simp only [List.length_cons]
    split
    · constructor <;> omega
    · split <;> constructor <;> omega
theorem k_indexByte (s : ByteArray) (c : Int) : K 27 [.tr (ts s), .tr (tu c)] [] (.ret (.tr (ti (idxB s c)))) [] := by
  refine Ctr.ofCalls (fun _ _ => by kernel_rfl) fun g w vs hm hsz hv => ?_
  obtain ⟨v, u, rfl⟩ := two_arg hsz
  obtain ⟨rfl, h1⟩ := val_inv (hv 0 v (.tr (ts s)) rfl rfl)
  obtain ⟨rfl, _⟩ := val_inv (hv 1 u (.tr (tu c)) rfl rfl)
  have h1 : s.size ≤ 9223372036854775807 := h1
  refine (Any.strings_IndexByte Tryd.lays137 s c w).mono ?_
  rintro e w' ⟨rfl, rfl⟩
  have := indexByte_le s.data.toList c.toNat.toUInt8
  have hl : s.data.toList.length = s.size := by simp
  exact ⟨_, rfl, Below.refl _ _, fun _ _ => .tr (.v ⟨Int.le_trans (by decide) this.2, Int.le_trans this.1 (by rw [hl]; exact Int.ofNat_le.2 h1)⟩)⟩
end Go.Proofs.YtffhoknkfohfgaaDoor.am

namespace Go.Proofs.YtffhoknkfohfgaaDoor.am
open Go Go.Proofs Go.RowKit

def srow (s : ByteArray) : List Tr := [ts s]
abbrev strsT (l : List ByteArray) : Tr := .lst 1 16 (l.map srow)
def blank : ByteArray := ⟨#[32]⟩
def joinL (l : List ByteArray) : List UInt8 := Lib.join (l.map (·.data.toList)) [32]
def joinB (l : List ByteArray) : ByteArray := ⟨(joinL l).toArray⟩
theorem strs_inv {ok : Nat → Prop} {w : World} {v : Value} {l : List ByteArray} (h : RepT ok w v (strsT l)) :
    ∃ ao cap, v = .slice ao l.length cap ∧ l.length ≤ cap ∧ (0 < l.length → ∃ b o, ao = some ⟨b, o, none⟩ ∧ ok b ∧ ∀ j x, l[j]? = some x → w.cell? ⟨b, o + j, none⟩ = some (.string x)) ∧ l.length * 16 ≤ 150000000000000 ∧ ∀ x ∈ l, x.size ≤ 9223372036854775807 := by
  obtain ⟨ao, cap, f, rfl, q1, q2, q3, q4, q5, q6⟩ := lst_inv h
  simp only [List.length_map] at q1 q3 ⊢
  have get : ∀ j x, l[j]? = some x → (l.map srow)[j]? = some [ts x] := fun j x hj => by rw [List.getElem?_map, hj]; rfl
  refine ⟨ao, cap, rfl, q1, fun h0 => ?_, q3, fun x hx => ?_⟩
  · obtain ⟨_, b, o, e, hb, _⟩ := q5 0 [ts l[0]] (get 0 _ (by simp [h0]))
    refine ⟨b, o, e, hb, fun j x hj => ?_⟩
    obtain ⟨_, b', o', e', _, hc⟩ := q5 j [ts x] (get j x hj)
    rw [e] at e'; cases e'
    have := hc 0 (by decide)
    rw [Nat.mul_one, Nat.add_zero] at this
    rw [this]
    have := q6 j [ts x] 0 (ts x) (get j x hj) rfl
    generalize f j 0 = fv at this
    cases this with
    | v hg => rfl
  · obtain ⟨j, hj⟩ := List.mem_iff_getElem?.1 hx
    have := q6 j [ts x] 0 (ts x) (get j x hj) rfl
    generalize f j 0 = fv at this
    cases this with
    | v hg => exact hg
theorem k_join (l : List ByteArray) (hlen : (joinL l).length ≤ 140737488355328) : K 67 [.tr (strsT l), .tr (ts blank)] [] (.ret (.tr (ts (joinB l)))) [] := by
  refine Ctr.ofCalls (fun _ _ => by kernel_rfl) fun g w vs hm hsz hv => ?_
  obtain ⟨v, u, rfl⟩ := two_arg hsz
  have hr := (hv 0 v (.tr (strsT l)) rfl rfl).tr_inv
  obtain ⟨rfl, _⟩ := val_inv (hv 1 u (.tr (ts blank)) rfl rfl)
  obtain ⟨ao, cap, rfl, q1, q2, q3, q4⟩ := strs_inv hr
  have hjs : (joinB l).size ≤ 9223372036854775807 := by show (joinL l).toArray.size ≤ _; rw [List.size_toArray]; omega
  by_cases h0 : 0 < l.length
  · obtain ⟨b, o, rfl, hb, hc⟩ := q2 h0
    refine (Any.strings_Join Tryd.lays156 Tryd.Builder_Extra_156 b o cap l blank w hc hb.1 (by omega) q1 hlen).mono ?_
    rintro e w' ⟨rfl, hb⟩
    exact ⟨_, rfl, hb, fun _ _ => .tr (.v hjs)⟩
  · have : l = [] := List.eq_nil_of_length_eq_zero (by omega)
    subst this
    refine (Any.strings_Join_none Tryd.lays156 Tryd.Builder_Extra_156 ao cap blank w).mono ?_
    rintro e w' ⟨rfl, rfl⟩
    exact ⟨_, rfl, Below.refl _ _, fun _ _ => .tr (.v hjs)⟩
/-! cut at each blank -/
def splitBl (s : ByteArray) : List ByteArray := Lib.splitB blank 0 (Lib.countB s blank) s
theorem splitBl_len (s : ByteArray) : (splitBl s).length = Lib.countB s blank + 1 := Lib.splitB_all blank (by decide) 0 _ s rfl
theorem splitB_size (sep : ByteArray) (k : Nat) : ∀ s : ByteArray, ∀ x ∈ Lib.splitB sep 0 k s, x.size ≤ s.size := by
  induction k with
  | zero => intro s x hx; simp [Lib.splitB] at hx; subst hx; exact Nat.le_refl _
  | succ k ih =>
    intro s x hx
    unfold Lib.splitB at hx
    split at hx
    · simp at hx; subst hx; exact Nat.le_refl _
    · simp only [List.mem_cons] at hx
      rcases hx with rfl | hx
      · simp [ByteArray.size_extract]; omega
      · have := ih _ x hx
        simp only [ByteArray.size_extract] at this
        omega
theorem count_size (s : ByteArray) : Lib.countB s blank ≤ s.size := Lib.countB_le blank (by decide) s.size s (Nat.le_refl _)
theorem k_genSplit (s : ByteArray) (hs : s.size < 4294967281) : K 72 [.tr (ts s), .tr (ts blank), .tr (ti 0), .tr (ti (-1))] [] (.ret (.tr (strsT (splitBl s)))) [] := by
  refine Ctr.ofCalls (fun _ _ => by kernel_rfl) fun g w vs hm hsz hv => ?_
  obtain ⟨v, u, x, y, rfl⟩ := four_arg hsz
  obtain ⟨rfl, h1⟩ := val_inv (hv 0 v (.tr (ts s)) rfl rfl)
  obtain ⟨rfl, _⟩ := val_inv (hv 1 u (.tr (ts blank)) rfl rfl)
  obtain ⟨rfl, _⟩ := val_inv (hv 2 x (.tr (ti 0)) rfl rfl)
  obtain ⟨rfl, _⟩ := val_inv (hv 3 y (.tr (ti (-1))) rfl rfl)
  have hlen := splitBl_len s
  have hcs := count_size s
  have hsp : Lib.splitB blank 0 (Lib.countB s blank + 1 - 1) s = splitBl s := by rw [Nat.add_sub_cancel]; rfl
  have hsv : (0 : Nat) ≤ blank.size := Nat.zero_le _
  refine (Any.strings_genSplit_core Tryd.lays221 (by kernel_rfl) s blank 0 (-1) (Lib.countB s blank + 1) w hs (by decide) hsv (fun x c hx => ?_) ?_ (by decide) (by decide) (by rw [if_pos (by decide)]; omega)).mono ?_
  · have := Any.strings_Index_one Tryd.lays143 x 32 (w.alloc (.cells c 9))
    rw [← Lib.index_one] at this
    exact this
  · have := Any.strings_Count_one Tryd.lays138 s 32 w
    have e : Lib.countByte s.data.toList 32 = Lib.countB s blank := (Lib.count_one 32 s.data.toList).symm
    rw [e] at this
    exact this
  · rintro e w' ⟨rfl, rfl⟩
    rw [hsp, hlen]
    refine ⟨_, rfl, (Below.refl _ _).alloc (Nat.le_refl _) _, fun hG hM => .tr ?_⟩
    have hnew : (w.alloc (.cells (Lib.cellsOf (splitBl s) (Lib.countB s blank + 1)) 9)).heap[w.heap.size]? = some (.cells (Lib.cellsOf (splitBl s) (Lib.countB s blank + 1)) 9) := heap_alloc_new w _
    have hok : okB g (w.alloc (.cells (Lib.cellsOf (splitBl s) (Lib.countB s blank + 1)) 9)) w.heap.size := ⟨by simp, fun hx => by have := hm.xlt _ hx; omega, fun h ho => by have := hm.lt h _ ho; omega⟩
    have get : ∀ i row, ((splitBl s).map srow)[i]? = some row → ∃ x, (splitBl s)[i]? = some x ∧ row = [ts x] := fun i row h => by
      obtain ⟨x, h1, h2⟩ := map_get h
      exact ⟨x, h1, h2.symm⟩
    refine .lst (fun i _ => ((splitBl s)[i]?).elim default Value.string) (by rw [List.length_map, hlen]) (Nat.le_refl _) (by omega) (by omega) (fun h => by cases h) (fun i row hr => ?_) fun i row j t hr hj => ?_
    · obtain ⟨x, hx, rfl⟩ := get i row hr
      refine ⟨rfl, _, _, rfl, hok, fun j hj => ?_⟩
      have hj0 : j = 0 := by simp at hj; exact hj
      subst hj0
      have hi := (List.getElem?_eq_some_iff.1 hx).1
      rw [show 0 + i * 1 + 0 = i by omega]
      refine (cell_of_row _ w.heap.size i _ _ _ hnew).trans ?_
      rw [hx]
      unfold Lib.cellsOf
      rw [List.getElem?_toArray, List.getElem?_append_left (by simpa using hi), List.getElem?_map, hx]
      rfl
    · obtain ⟨x, hx, rfl⟩ := get i row hr
      have hj0 : j = 0 := by
        have := (List.getElem?_eq_some_iff.1 hj).1
        simp at this; exact this
      subst hj0
      simp at hj
      subst hj
      rw [hx]
      have := splitB_size blank _ s x (List.mem_of_getElem? hx)
      exact .v (Nat.le_trans this h1)
theorem k_split (s : ByteArray) (hs : s.size < 4294967281) : K 50 [.tr (ts s), .tr (ts blank)] [] (.ret (.tr (strsT (splitBl s)))) [] := by
  refine Ctr.of hT hmix Tryd.func50 rfl (fun _ _ => by kernel_rfl) rfl fun hok => ?_
  conv => whnf
  refine acall.pure _ (k_genSplit s hs) rfl rfl fun _ => ?_
  conv => whnf
  exact ⟨.inl rfl, trivial⟩
end Go.Proofs.YtffhoknkfohfgaaDoor.am

namespace Go.Proofs.YtffhoknkfohfgaaDoor.am
open Go Go.Proofs

/-- a writer's blocks: h is the handle of its words -/
abbrev wrB (i : Ins) (h : Nat) (l : List ByteArray) : Blk := .cells 112 [.tr (tu i.kind), .tr (tu i.op), .tr (ti i.d), .tr (ti i.a), .tr (ti i.b), .tr (ti i.addr), .tr (ti i.to_), .tr (ti i.word), .tr (ti i.from_), .sl h l.length]
abbrev wdB (l : List ByteArray) : Blk := .vec 9 1 16 (l.map srow)
/-- what a method of the writer does: it says a word -/
abbrev Says (f : Nat) (i : Ins) (args : List AV) (s : ByteArray) : Prop := ∀ l : List ByteArray, l.length ≤ 1000 → K f (.ptr 0 0 :: args) [wrB i 1 l, wdB l] (.ret (.tup [])) [some (wrB i 2 (l ++ [s])), none, some (wdB (l ++ [s]))]
theorem k_say (i : Ins) (s : ByteArray) : Says 59 i [.tr (ts s)] s := by
  intro l hl
  refine Ctr.new [] hT hmix Tryd.func59 rfl (fun _ _ => by kernel_rfl) rfl fun hok => ?_
  clear hok
  conv => whnf
  refine ⟨rfl, rfl, rfl, by simp, by simp; omega, fun q hq => by simp at hq; subst hq; simp, ?_⟩
  conv => whnf
  exact ⟨[0, 1, 9], rfl, rfl, trivial, (by repeat' (first | exact trivial | exact Or.inl rfl | exact rfl | exact Nat.le_refl _ | apply And.intro | (refine Or.inl ?_) | (simp [srow, List.take_of_length_le]; done)))⟩
theorem size_add (a b : ByteArray) : (a ++ b).size = a.size + b.size := by simp
def regB (n : Int) : ByteArray := ⟨#[114]⟩ ++ prnB n
theorem k_reg (i : Ins) (n : Int) (hn : -9223372036854775808 ≤ n ∧ n ≤ 9223372036854775807) : Says 83 i [.tr (ti n)] (regB n) := by
  intro l hl
  refine Ctr.new [] hT hmix Tryd.func83 rfl (fun _ _ => by kernel_rfl) rfl fun hok => ?_
  clear hok
  have hp := prn_len hn.1 hn.2
  conv => whnf
  refine acall.pure _ (k_itoa n) rfl rfl fun _ => ?_
  conv => whnf
  refine ⟨by show (⟨#[114]⟩ : ByteArray).size + (prnB n).size ≤ _; have : (⟨#[114]⟩ : ByteArray).size = 1 := rfl; omega, ?_⟩
  conv => whnf
  refine acall.new [0, 1] [] _ _ _ _ (k_say i (regB n) l hl) rfl rfl rfl rfl aut aut rfl rfl fun _ => ?_
  conv => whnf
  exact ⟨[0, 1, 6], rfl, rfl, trivial, aut⟩
theorem k_w_op (i : Ins) : Says 60 i [] (opword i.op) := by
  intro l hl
  refine Ctr.new [] hT hmix Tryd.func60 rfl (fun _ _ => by kernel_rfl) rfl fun hok => ?_
  have hb := ((hok.cells 0 rfl) _ (.tail _ (.head _))).tr.u8
  clear hok
  conv => whnf
  refine acall.pure _ (k_operator i.op) rfl rfl fun _ => ?_
  conv => whnf
  refine acall.new [0, 1] [] _ _ _ _ (k_say i (opword i.op) l hl) rfl rfl rfl rfl aut aut rfl rfl fun _ => ?_
  conv => whnf
  exact ⟨[0, 1, 9], rfl, rfl, trivial, aut⟩
theorem k_w_d (i : Ins) : Says 61 i [] (regB i.d) := by
  intro l hl
  refine Ctr.new [] hT hmix Tryd.func61 rfl (fun _ _ => by kernel_rfl) rfl fun hok => ?_
  have hb := ((hok.cells 0 rfl) _ (.tail _ (.tail _ (.head _)))).tr.i64
  clear hok
  conv => whnf
  refine acall.new [0, 1] [] _ _ _ _ (k_reg i (i.d) hb l hl) rfl rfl rfl rfl aut aut rfl rfl fun _ => ?_
  conv => whnf
  exact ⟨[0, 1, 8], rfl, rfl, trivial, aut⟩
theorem k_w_a (i : Ins) : Says 62 i [] (regB i.a) := by
  intro l hl
  refine Ctr.new [] hT hmix Tryd.func62 rfl (fun _ _ => by kernel_rfl) rfl fun hok => ?_
  have hb := ((hok.cells 0 rfl) _ (.tail _ (.tail _ (.tail _ (.head _))))).tr.i64
  clear hok
  conv => whnf
  refine acall.new [0, 1] [] _ _ _ _ (k_reg i (i.a) hb l hl) rfl rfl rfl rfl aut aut rfl rfl fun _ => ?_
  conv => whnf
  exact ⟨[0, 1, 8], rfl, rfl, trivial, aut⟩
theorem k_w_b (i : Ins) : Says 63 i [] (regB i.b) := by
  intro l hl
  refine Ctr.new [] hT hmix Tryd.func63 rfl (fun _ _ => by kernel_rfl) rfl fun hok => ?_
  have hb := ((hok.cells 0 rfl) _ (.tail _ (.tail _ (.tail _ (.tail _ (.head _)))))).tr.i64
  clear hok
  conv => whnf
  refine acall.new [0, 1] [] _ _ _ _ (k_reg i (i.b) hb l hl) rfl rfl rfl rfl aut aut rfl rfl fun _ => ?_
  conv => whnf
  exact ⟨[0, 1, 8], rfl, rfl, trivial, aut⟩
theorem k_w_addr (i : Ins) : Says 64 i [] (prnB i.addr) := by
  intro l hl
  refine Ctr.new [] hT hmix Tryd.func64 rfl (fun _ _ => by kernel_rfl) rfl fun hok => ?_
  have hb := ((hok.cells 0 rfl) _ (.tail _ (.tail _ (.tail _ (.tail _ (.tail _ (.head _))))))).tr.i64
  clear hok
  conv => whnf
  refine acall.pure _ (k_itoa i.addr) rfl rfl fun _ => ?_
  conv => whnf
  refine acall.new [0, 1] [] _ _ _ _ (k_say i (prnB i.addr) l hl) rfl rfl rfl rfl aut aut rfl rfl fun _ => ?_
  conv => whnf
  exact ⟨[0, 1, 9], rfl, rfl, trivial, aut⟩
theorem k_w_to (i : Ins) : Says 65 i [] (prnB i.to_) := by
  intro l hl
  refine Ctr.new [] hT hmix Tryd.func65 rfl (fun _ _ => by kernel_rfl) rfl fun hok => ?_
  have hb := ((hok.cells 0 rfl) _ (.tail _ (.tail _ (.tail _ (.tail _ (.tail _ (.tail _ (.head _)))))))).tr.i64
  clear hok
  conv => whnf
  refine acall.pure _ (k_itoa i.to_) rfl rfl fun _ => ?_
  conv => whnf
  refine acall.new [0, 1] [] _ _ _ _ (k_say i (prnB i.to_) l hl) rfl rfl rfl rfl aut aut rfl rfl fun _ => ?_
  conv => whnf
  exact ⟨[0, 1, 9], rfl, rfl, trivial, aut⟩
theorem k_w_word (i : Ins) : Says 66 i [] (prnB i.word) := by
  intro l hl
  refine Ctr.new [] hT hmix Tryd.func66 rfl (fun _ _ => by kernel_rfl) rfl fun hok => ?_
  have hb := ((hok.cells 0 rfl) _ (.tail _ (.tail _ (.tail _ (.tail _ (.tail _ (.tail _ (.tail _ (.head _))))))))).tr.i64
  clear hok
  conv => whnf
  refine acall.pure _ (k_print i.word) rfl rfl fun _ => ?_
  conv => whnf
  refine acall.new [0, 1] [] _ _ _ _ (k_say i (prnB i.word) l hl) rfl rfl rfl rfl aut aut rfl rfl fun _ => ?_
  conv => whnf
  exact ⟨[0, 1, 9], rfl, rfl, trivial, aut⟩
end Go.Proofs.YtffhoknkfohfgaaDoor.am

namespace Go.Proofs.YtffhoknkfohfgaaDoor.am
open Go Go.Proofs
def numS (s : ByteArray) : Int × Bool := ((prsB s).1, (prsB s).2.1 == 0 && decide ((prsB s).1 ≥ 0))
theorem k_number (s : ByteArray) : K 52 [.tr (ts s)] [] (.ret (.tup [.tr (ti (numS s).1), .tr (tb (numS s).2)])) [] := by
  refine Ctr.of hT hmix Tryd.func52 rfl (fun _ _ => by kernel_rfl) rfl fun hok => ?_
  clear hok
  have hc := k_parseW s
  unfold numS
  generalize prsB s = R at hc ⊢
  conv => whnf
  refine acall.pure _ (hc) rfl rfl fun _ => ?_
  conv => whnf
  refine csplit (fun h => ?_) (fun h => ?_)
  · rw [h]
    conv => whnf
    exact ⟨⟨.inl rfl, .inl rfl, trivial⟩, trivial⟩
  · rw [h]
    conv => whnf
    exact ⟨⟨.inl rfl, .inl rfl, trivial⟩, trivial⟩
def noT (s : ByteArray) : Bool := seq s ⟨#[]⟩
def opG (s : ByteArray) : Nat → Int → Int × Int × Bool
  | 0, _ => (0, 0, false)
  | n + 1, op => bif seq (opword op) s then (2, op, true) else opG s n (op + 1)
def kindG (s : ByteArray) : Nat → Int → Int × Int × Bool
  | 0, _ => opG s 18 1
  | n + 1, k => bif seq (kword k) s && !seq s ⟨#[]⟩ then (k, 0, true) else kindG s n (k + 1)
def kindS (s : ByteArray) : Int × Int × Bool := kindG s 10 1
theorem forms_at {k : Int} (hk : 1 ≤ k ∧ k < 11) : ∃ W a b c d, W = kword k ∧ kuse k = [a, b, c, d] ∧ K 37 [.tr (tu k)] [] (.ret (.tup [.agg [.tr (ts W), .tr (tu a), .tr (tu b), .tr (tu c), .tr (tu d)], .tr (tb true)])) [] := by
  have hc : k = 1 ∨ k = 2 ∨ k = 3 ∨ k = 4 ∨ k = 5 ∨ k = 6 ∨ k = 7 ∨ k = 8 ∨ k = 9 ∨ k = 10 := by omega
  rcases hc with rfl | rfl | rfl | rfl | rfl | rfl | rfl | rfl | rfl | rfl <;> exact ⟨_, _, _, _, _, rfl, rfl, k_forms _⟩
theorem k_kind (s : ByteArray) : K 74 [.tr (ts s)] [] (.ret (.tup [.tr (tu (kindS s).1), .tr (tu (kindS s).2.1), .tr (tb (kindS s).2.2)])) [] := by
  refine Ctr.of hT hmix Tryd.func74 rfl (fun _ _ => by kernel_rfl) rfl fun hok => ?_
  clear hok
  obtain ⟨R, hR⟩ : ∃ R, R = kindS s := ⟨_, rfl⟩
  rw [← hR]
  conv => whnf
  refine LoopL.by (fun i : Nat => ⟨[(0, .tr (ts s)), (5, .tr (tu ((i : Int) + 1)))], [], 10⟩) (fun i => i ≤ 10 ∧ R = kindG s (10 - i) ((i : Int) + 1)) (fun i => 10 - i) 0 [] [] (Sub.mk' rfl ⟨.inl rfl, .inl rfl, trivial⟩ trivial rfl rfl) ⟨Nat.zero_le _, hR⟩ ?_
  rintro i ⟨hi, hf⟩ -
  conv => whnf
  refine csplit (fun hlt => ?_) (fun hge => ?_)
  · have hlt : i < 10 := by have h' := of_decide_eq_true hlt; omega
    obtain ⟨W, a, b, c, d, hW, _, hc⟩ := forms_at (k := (i : Int) + 1) (by omega)
    rw [show 10 - i = (10 - (i + 1)) + 1 by omega] at hf
    unfold kindG at hf
    rw [← hW] at hf
    clear hW
    have hw : IntKind.u8.wrap ((i : Int) + 1 + 1) = ((i + 1 : Nat) : Int) + 1 := by rw [wu8 (by omega) (by omega)]; omega
    conv => whnf
    refine acall.pure _ (hc) rfl rfl fun _ => ?_
    conv => whnf
    refine csplit (fun h => ?_) (fun h => ?_)
    · replace h : seq W s = true := h
      rw [h] at hf
      conv => whnf
      refine csplit (fun hn => ?_) (fun hn => ?_)
      · replace hn : (!seq s ⟨#[]⟩) = true := hn
        rw [hn] at hf
        rw [hf]
        conv => whnf
        exact ⟨⟨.inl rfl, .inl rfl, .inl rfl, trivial⟩, trivial⟩
      · replace hn : (!seq s ⟨#[]⟩) = false := hn
        rw [hn] at hf
        conv => whnf
        exact ⟨i + 1, [], [], Sub.mk' rfl ⟨.inl rfl, .inl (congrArg tu hw), trivial⟩ trivial rfl rfl, ⟨by omega, hf⟩, by omega⟩
    · replace h : seq W s = false := h
      rw [h] at hf
      conv => whnf
      exact ⟨i + 1, [], [], Sub.mk' rfl ⟨.inl rfl, .inl (congrArg tu hw), trivial⟩ trivial rfl rfl, ⟨by omega, hf⟩, by omega⟩
  · have hge : 10 ≤ i := by have h' := of_decide_eq_false hge; omega
    obtain rfl : i = 10 := by omega
    conv => whnf
    refine ⟨fun _ => ?_, fun h => absurd rfl h⟩
    conv => whnf
    refine LoopL.by (fun i : Nat => ⟨[(0, .tr (ts s)), (8, .tr (tu ((i : Int) + 1)))], [], 10⟩) (fun i => i ≤ 18 ∧ R = opG s (18 - i) ((i : Int) + 1)) (fun i => 18 - i) 0 [] [] (Sub.mk' rfl ⟨.inl rfl, .inl rfl, trivial⟩ trivial rfl rfl) ⟨Nat.zero_le _, hf⟩ ?_
    clear hf
    rintro i ⟨hi, hf⟩ -
    conv => whnf
    refine csplit (fun hlt => ?_) (fun hge => ?_)
    · have hlt : i < 18 := by have h' := of_decide_eq_true hlt; omega
      rw [show 18 - i = (18 - (i + 1)) + 1 by omega] at hf
      unfold opG at hf
      have hw : IntKind.u8.wrap ((i : Int) + 1 + 1) = ((i + 1 : Nat) : Int) + 1 := by rw [wu8 (by omega) (by omega)]; omega
      have ho := k_operator ((i : Int) + 1)
      generalize opword ((i : Int) + 1) = W at hf ho
      conv => whnf
      refine acall.pure _ (ho) rfl rfl fun _ => ?_
      conv => whnf
      refine csplit (fun h => ?_) (fun h => ?_)
      · replace h : seq W s = true := h
        rw [h] at hf
        rw [hf]
        conv => whnf
        exact ⟨⟨.inl rfl, .inl rfl, .inl rfl, trivial⟩, trivial⟩
      · replace h : seq W s = false := h
        rw [h] at hf
        conv => whnf
        exact ⟨i + 1, [], [], Sub.mk' rfl ⟨.inl rfl, .inl (congrArg tu hw), trivial⟩ trivial rfl rfl, ⟨by omega, hf⟩, by omega⟩
    · have hge : 18 ≤ i := by have h' := of_decide_eq_false hge; omega
      obtain rfl : i = 18 := by omega
      replace hf : R = (0, 0, false) := hf
      rw [hf]
      conv => whnf
      refine ⟨fun _ => ?_, fun h => absurd rfl h⟩
      conv => whnf
      exact ⟨⟨.inl rfl, .inl rfl, .inl rfl, trivial⟩, trivial⟩
/-! fields -/
def tlS (s : ByteArray) : ByteArray := s.extract 1 s.size
def rS : ByteArray := ⟨#[114]⟩
def setF (i : Ins) (u n : Int) : Ins :=
  bif u == 2 then { i with d := n } else bif u == 4 then { i with a := n } else bif u == 8 then { i with b := n } else bif u == 16 then { i with addr := n } else bif u == 32 then { i with to_ := n } else bif u == 64 then { i with word := n } else i
def fieldS (i : Ins) (u : Int) (s : ByteArray) : Ins × Bool :=
  bif u == 2 || u == 4 || u == 8 then (bif prefB s rS then (setF i u (numS (tlS s)).1, (numS (tlS s)).2) else (i, false))
  else bif u == 16 || u == 32 then (setF i u (numS s).1, (numS s).2) else bif u == 64 then (setF i u (prsB s).1, (prsB s).2.1 == 0) else (i, true)
theorem pref_pos {s p : ByteArray} (h : prefB s p = true) : p.size ≤ s.size := by
  unfold prefB Lib.hasPrefix at h
  have := (List.isPrefixOf_iff_prefix.1 h).length_le
  simpa using this
abbrev strC (s : ByteArray) : Blk := .cells 9 [.tr (ts s)]
abbrev boolC (b : Bool) : Blk := .cells 4 [.tr (tb b)]
set_option maxRecDepth 100000 in
theorem k_regTo (i : Ins) (u : Int) (s : ByteArray) (b : Bool) (off : Nat) (hu : (u = 2 ∧ off = 2) ∨ (u = 4 ∧ off = 3) ∨ (u = 8 ∧ off = 4)) : K 91 [.ptr 0 off, .ptr 1 0, .ptr 2 0] [insB i, strC s, boolC b] (.ret (.tup []))
    [some (insB (fieldS i u s).1), some (strC s), some (boolC (fieldS i u s).2)] := by
  obtain ⟨kind, op, d, a, b1, addr, to_, word, from_⟩ := i
  have hF : fieldS ⟨kind, op, d, a, b1, addr, to_, word, from_⟩ u s = bif prefB s rS then (setF ⟨kind, op, d, a, b1, addr, to_, word, from_⟩ u (numS (tlS s)).1, (numS (tlS s)).2) else (⟨kind, op, d, a, b1, addr, to_, word, from_⟩, false) := by
    rcases hu with ⟨rfl, rfl⟩ | ⟨rfl, rfl⟩ | ⟨rfl, rfl⟩ <;> rfl
  rw [hF]
  clear hF
  rcases hu with ⟨rfl, rfl⟩ | ⟨rfl, rfl⟩ | ⟨rfl, rfl⟩
  all_goals
    refine Ctr.of hT hmix Tryd.func91 rfl (fun _ _ => by kernel_rfl) rfl fun hok => ?_
    have hsz := (hok.cells 1 rfl _ (.head _)).tr.str
    clear hok
    conv => whnf
    refine acall.pure _ (k_hasPrefix s rS) rfl rfl fun _ => ?_
    conv => whnf
    refine csplit (fun h => ?_) (fun h => ?_)
    · have hp := pref_pos h
      replace hp : 1 ≤ s.size := hp
      rw [h]
      conv => whnf
      refine ⟨by decide, (show (1 : Int) ≤ s.size by omega), Int.le_refl _, ?_⟩
      conv => whnf
      refine acall.pure _ (k_number (tlS s)) rfl rfl fun _ => ?_
      conv => whnf
      exact aut
    · rw [h]
      conv => whnf
      exact aut
set_option maxRecDepth 100000 in
theorem k_field (i : Ins) (u : Int) (s : ByteArray) : K 75 [.ptr 0 0, .tr (tu u), .tr (ts s)] [insB i] (.ret (.tr (tb (fieldS i u s).2))) [some (insB (fieldS i u s).1)] := by
  obtain ⟨R, hR⟩ : ∃ R, R = fieldS i u s := ⟨_, rfl⟩
  have hq := k_regTo i
  rw [← hR]
  refine Ctr.of hT hmix Tryd.func75 rfl (fun _ _ => by kernel_rfl) rfl fun hok => ?_
  clear hok
  obtain ⟨kind, op, d, a, b, addr, to_, word, from_⟩ := i
  conv => whnf
  refine csplit (fun h => ?_) (fun h => ?_)
  · replace h : (u == 2) = true := h
    conv => whnf
    refine acall.gen [0, 1, 3] [] _ _ _ _ (hq u s true 2 (.inl ⟨by simpa using h, rfl⟩)) rfl rfl rfl rfl aut aut rfl rfl fun _ => ?_
    conv => whnf
    rw [hR]
    exact aut
  replace h : (u == 2) = false := h
  have h2 := h
  conv => whnf
  refine csplit (fun h => ?_) (fun h => ?_)
  · replace h : (u == 4) = true := h
    conv => whnf
    refine acall.gen [0, 1, 3] [] _ _ _ _ (hq u s true 3 (.inr (.inl ⟨by simpa using h, rfl⟩))) rfl rfl rfl rfl aut aut rfl rfl fun _ => ?_
    conv => whnf
    rw [hR]
    exact aut
  replace h : (u == 4) = false := h
  have h4 := h
  conv => whnf
  refine csplit (fun h => ?_) (fun h => ?_)
  · replace h : (u == 8) = true := h
    conv => whnf
    refine acall.gen [0, 1, 3] [] _ _ _ _ (hq u s true 4 (.inr (.inr ⟨by simpa using h, rfl⟩))) rfl rfl rfl rfl aut aut rfl rfl fun _ => ?_
    conv => whnf
    rw [hR]
    exact aut
  replace h : (u == 8) = false := h
  have h8 := h
  conv => whnf
  refine csplit (fun h => ?_) (fun h => ?_)
  · replace h : (u == 16) = true := h
    obtain rfl : u = 16 := by simpa using h
    replace hR : R = (setF ⟨kind, op, d, a, b, addr, to_, word, from_⟩ 16 (numS s).1, (numS s).2) := hR
    conv => whnf
    refine acall.pure _ (k_number s) rfl rfl fun _ => ?_
    conv => whnf
    rw [hR]
    exact aut
  replace h : (u == 16) = false := h
  have h16 := h
  conv => whnf
  refine csplit (fun h => ?_) (fun h => ?_)
  · replace h : (u == 32) = true := h
    obtain rfl : u = 32 := by simpa using h
    replace hR : R = (setF ⟨kind, op, d, a, b, addr, to_, word, from_⟩ 32 (numS s).1, (numS s).2) := hR
    conv => whnf
    refine acall.pure _ (k_number s) rfl rfl fun _ => ?_
    conv => whnf
    rw [hR]
    exact aut
  replace h : (u == 32) = false := h
  have h32 := h
  conv => whnf
  refine csplit (fun h => ?_) (fun h => ?_)
  · replace h : (u == 64) = true := h
    obtain rfl : u = 64 := by simpa using h
    replace hR : R = (setF ⟨kind, op, d, a, b, addr, to_, word, from_⟩ 64 (prsB s).1, (prsB s).2.1 == 0) := hR
    conv => whnf
    refine acall.pure _ (k_parseW s) rfl rfl fun _ => ?_
    conv => whnf
    rw [hR]
    exact aut
  replace h : (u == 64) = false := h
  conv => whnf
  unfold fieldS at hR
  rw [h2, h4, h8, h16, h32, h] at hR
  replace hR : R = (⟨kind, op, d, a, b, addr, to_, word, from_⟩, true) := hR
  rw [hR]
  exact aut
end Go.Proofs.YtffhoknkfohfgaaDoor.am

namespace Go.Proofs.YtffhoknkfohfgaaDoor.am
open Go Go.Proofs
def zeroI : Ins := ⟨0, 0, 0, 0, 0, 0, 0, 0, 0⟩
def fieldsG (all : Int) : List Int → Ins → List ByteArray → Ins × Bool
  | [], i, l => (i, (l.length : Int) == 0)
  | u :: us, i, l => bif band u all == 0 || u == 1 then fieldsG all us i l else match l with
    | [] => (i, false)
    | s :: l' => bif !(fieldS i u s).2 then ((fieldS i u s).1, false) else fieldsG all us (fieldS i u s).1 l'
theorem fieldsG_skip {all u : Int} {us : List Int} {i : Ins} {l : List ByteArray} (h : (band u all == 0 || u == 1) = true) : fieldsG all (u :: us) i l = fieldsG all us i l := by
  show (bif (band u all == 0 || u == 1) then fieldsG all us i l else _) = _
  rw [h]; rfl
def instrG (i : Ins) (l : List ByteArray) : Ins × Bool := match l with
  | [] => (i, false)
  | w :: r => bif !(kindS w).2.2 then ({ i with kind := (kindS w).1, op := (kindS w).2.1 }, false) else fieldsG (usedM (kindS w).1 (kindS w).2.1) (kuse (kindS w).1) { i with kind := (kindS w).1, op := (kindS w).2.1 } r
def aS : ByteArray := ⟨#[64]⟩
def lastS (l : List ByteArray) : ByteArray := l.getLast?.getD ⟨#[]⟩
def instrL (l : List ByteArray) : Ins × Bool :=
  bif decide ((l.length : Int) > 1) && prefB (lastS l) aS then (bif !(numS (tlS (lastS l))).2 || (numS (tlS (lastS l))).1 == 0 then (zeroI, false) else instrG { zeroI with from_ := (numS (tlS (lastS l))).1 } l.dropLast) else instrG zeroI l
def instrS (line : ByteArray) : Ins × Bool := instrL (splitBl line)
theorem opG_ok {s : ByteArray} : ∀ (n : Nat) (op : Int), (opG s n op).2.2 = true → 1 ≤ (opG s n op).1 ∧ (opG s n op).1 < 11
  | 0, _, h => by cases h
  | n + 1, op, h => by
    unfold opG at h ⊢
    cases hb : seq (opword op) s <;> rw [hb] at h
    · exact opG_ok n _ h
    · exact ⟨show (1 : Int) ≤ 2 by decide, show (2 : Int) < 11 by decide⟩
theorem kindG_ok {s : ByteArray} : ∀ (n : Nat) (k : Int), 1 ≤ k → k + n ≤ 11 → (kindG s n k).2.2 = true → 1 ≤ (kindG s n k).1 ∧ (kindG s n k).1 < 11
  | 0, _, _, _, h => opG_ok 18 1 h
  | n + 1, k, h1, h2, h => by
    unfold kindG at h ⊢
    cases hb : (seq (kword k) s && !seq s ⟨#[]⟩) <;> rw [hb] at h
    · exact kindG_ok n _ (by omega) (by omega) h
    · exact ⟨h1, by simp only [cond_true]; omega⟩
theorem kindS_ok {s : ByteArray} (h : (kindS s).2.2 = true) : 1 ≤ (kindS s).1 ∧ (kindS s).1 < 11 := kindG_ok 10 1 (by decide) (by decide) h
set_option maxRecDepth 100000 in
theorem k_instr (line : ByteArray) (hs : line.size < 4294967281) : K 51 [.tr (ts line)] [] (.ret (.tup [(instrS line).1.av, .tr (tb (instrS line).2)])) [] := by
  refine Ctr.cut [10] hT hmix Tryd.func51 rfl (fun _ _ => by kernel_rfl) rfl fun hok => ?_
  clear hok
  have hsp := k_split line hs
  have hlen := splitBl_len line
  have hcs := count_size line
  obtain ⟨R, hR⟩ : ∃ R, R = instrS line := ⟨_, rfl⟩
  rw [← hR]
  unfold instrS at hR
  generalize splitBl line = l at hsp hlen hR
  generalize hn : l.length = n at hlen
  have hn1 : 1 ≤ n := by omega
  have hn2 : n ≤ 4294967281 := by omega
  clear hlen hcs
  conv => whnf
  refine acall.pure _ (hsp) rfl rfl fun _ => ?_
  conv => whnf
  refine CutL.by (fun x : Ins × List ByteArray => ⟨[(2, .ptr 0 0), (4, .tr (strsT x.2)), (5, .ptr 1 0)], [(0, insB zeroI), (1, insB x.1)], 20⟩) (fun x => R = instrG x.1 x.2 ∧ 1 ≤ x.2.length ∧ x.2.length ≤ 4294967281) ?_ ?_
  · conv => whnf
    have hw : IntKind.i64.wrap (((List.map srow l).length : Int) - 1) = ((n - 1 : Nat) : Int) := by rw [List.length_map, hn, w64 (by omega) (by omega)]; omega
    refine ⟨rfl, by rw [hw]; omega, by rw [hw, List.length_map]; omega, fun row hrow => ?_⟩
    rw [hw] at hrow
    obtain ⟨w, hl, rfl⟩ := map_get hrow
    replace hl : l[n - 1]? = some w := hl
    have hlast : lastS l = w := by unfold lastS; rw [List.getLast?_eq_getElem?, hn, hl]; rfl
    unfold instrL at hR
    rw [hlast] at hR
    have hlm : (((List.map srow l).length : Nat) : Int) = l.length := by rw [List.length_map]
    conv => whnf
    refine csplit (fun h1 => ?_) (fun h1 => ?_)
    · replace h1 : decide ((l.length : Int) > 1) = true := by rw [← hlm]; exact h1
      rw [h1] at hR
      conv => whnf
      refine acall.pure _ (k_hasPrefix w aS) rfl rfl fun _ => ?_
      conv => whnf
      refine csplit (fun h2 => ?_) (fun h2 => ?_)
      · have hp := pref_pos h2
        replace hp : 1 ≤ w.size := hp
        rw [h2] at hR
        conv => whnf
        refine ⟨by decide, (show (1 : Int) ≤ w.size by omega), Int.le_refl _, ?_⟩
        conv => whnf
        have hnum := k_number (tlS w)
        generalize numS (tlS w) = N at hnum hR
        obtain ⟨N1, N2⟩ := N
        cases N2
        · refine acall.pure _ (hnum) rfl rfl fun _ => ?_
          conv => whnf
          replace hR : R = (zeroI, false) := hR
          rw [hR]
          exact aut
        · refine acall.pure _ (hnum) rfl rfl fun _ => ?_
          conv => whnf
          refine csplit (fun h3 => ?_) (fun h3 => ?_)
          · replace h3 : (N1 == 0) = true := h3
            have hR : R = bif !true || N1 == 0 then (zeroI, false) else instrG { zeroI with from_ := N1 } l.dropLast := hR
            rw [h3] at hR
            replace hR : R = (zeroI, false) := hR
            rw [hR]
            conv => whnf
            exact aut
          · replace h3 : (N1 == 0) = false := h3
            have hR : R = bif !true || N1 == 0 then (zeroI, false) else instrG { zeroI with from_ := N1 } l.dropLast := hR
            rw [h3] at hR
            replace hR : R = instrG { zeroI with from_ := N1 } l.dropLast := hR
            have hgt : 1 < n := by have := of_decide_eq_true h1; omega
            conv => whnf
            refine ⟨rfl, Int.le_refl _, (show (0 : Int) ≤ IntKind.i64.wrap _ by rw [hw]; omega), (show IntKind.i64.wrap _ ≤ ((List.map srow l).length : Int) by rw [hw, List.length_map]; omega), ?_⟩
            conv => whnf
            refine ⟨({ zeroI with from_ := N1 }, l.dropLast), [0, 6], [], Sub.mk' rfl ⟨⟨rfl, rfl⟩, .inl (congrArg (Tr.lst 1 16) ?_), ⟨rfl, rfl⟩, trivial⟩ aut rfl rfl, hR, by rw [List.length_dropLast]; omega, by rw [List.length_dropLast]; omega⟩
            show (List.take (IntKind.i64.wrap (((List.map srow l).length : Int) - 1)).toNat (l.map srow)).drop 0 = l.dropLast.map srow
            rw [hw, List.drop_zero, List.dropLast_eq_take, List.map_take, hn]
            rfl
      · rw [h2] at hR
        conv => whnf
        exact ⟨(zeroI, l), [0, 6], [], Sub.mk' rfl ⟨⟨rfl, rfl⟩, .inl rfl, ⟨rfl, rfl⟩, trivial⟩ aut rfl rfl, hR, by simp only; omega, by simp only; omega⟩
    · replace h1 : decide ((l.length : Int) > 1) = false := by rw [← hlm]; exact h1
      rw [h1] at hR
      conv => whnf
      exact ⟨(zeroI, l), [0, 6], [], Sub.mk' rfl ⟨⟨rfl, rfl⟩, .inl rfl, ⟨rfl, rfl⟩, trivial⟩ aut rfl rfl, hR, by simp only; omega, by simp only; omega⟩
  clear hR hn hn1 hn2 hsp
  rintro ⟨i, l⟩ ⟨hR, hl1, hl2⟩ -
  simp only at hR hl1 hl2
  have hlm : (((List.map srow l).length : Nat) : Int) = l.length := by rw [List.length_map]
  cases l with
  | nil => simp at hl1
  | cons w r =>
    have hk := k_kind w
    have hok := kindS_ok (s := w)
    obtain ⟨kind, op, d, a, b, addr, to_, word, from_⟩ := i
    have hR : R = bif !(kindS w).2.2 then (⟨(kindS w).1, (kindS w).2.1, d, a, b, addr, to_, word, from_⟩, false) else fieldsG (usedM (kindS w).1 (kindS w).2.1) (kuse (kindS w).1) ⟨(kindS w).1, (kindS w).2.1, d, a, b, addr, to_, word, from_⟩ r := hR
    generalize kindS w = Q at hk hok hR
    obtain ⟨Q1, Q2, Q3⟩ := Q
    simp only at hok
    conv => whnf
    refine ⟨rfl, by decide, by simp, fun row hrow => ?_⟩
    cases hrow
    conv => whnf
    refine acall.pure _ (hk) rfl rfl fun _ => ?_
    conv => whnf
    cases Q3
    · replace hR : R = (⟨Q1, Q2, d, a, b, addr, to_, word, from_⟩, false) := hR
      rw [hR]
      conv => whnf
      exact aut
    replace hR : R = fieldsG (usedM Q1 Q2) (kuse Q1) ⟨Q1, Q2, d, a, b, addr, to_, word, from_⟩ r := hR
    obtain ⟨W, u1, u2, u3, u4, hW, hU, hf⟩ := forms_at (hok rfl)
    have hu := k_used ⟨Q1, Q2, d, a, b, addr, to_, word, from_⟩
    simp only at hu
    generalize usedM Q1 Q2 = all at hu hR
    rw [hU] at hR
    clear hU hW hk
    conv => whnf
    refine acall.pure _ (hf) rfl rfl fun _ => ?_
    conv => whnf
    refine acall.pure _ (hu) rfl rfl fun _ => ?_
    conv => whnf
    refine ⟨rfl, by decide, (show (1 : Int) ≤ (List.map srow (w :: r)).length by rw [List.length_map, List.length_cons]; omega), Int.le_refl _, ?_⟩
    conv => whnf
    refine LoopL.by (fun x : Ins × List ByteArray × Nat => ⟨[(2, .ptr 0 0), (4, .tr (strsT x.2.1)), (5, .ptr 1 0), (12, .tr (tu all)), (79, .agg [.tr (tu u1), .tr (tu u2), .tr (tu u3), .tr (tu u4)]), (80, .tr (ti x.2.2))], [(0, insB zeroI), (1, insB x.1)], 20⟩)
      (fun x => x.2.2 ≤ 4 ∧ R = fieldsG all ([u1, u2, u3, u4].drop x.2.2) x.1 x.2.1 ∧ x.2.1.length ≤ 4294967281) (fun x => 4 - x.2.2) (⟨Q1, Q2, d, a, b, addr, to_, word, from_⟩, r, 0) [0, 1] []
      (Sub.mk' rfl ⟨⟨rfl, rfl⟩, .inl (congrArg (Tr.lst 1 16) ?_), ⟨rfl, rfl⟩, .inl rfl, aut, .inl rfl, trivial⟩ aut rfl rfl) ⟨Nat.zero_le _, hR, by simp only [List.length_cons] at hl2 ⊢; omega⟩ ?_
    · show (List.take (((List.map srow (w :: r)).length : Nat) : Int).toNat (List.map srow (w :: r))).drop 1 = r.map srow
      rw [Int.toNat_natCast, List.take_length]; rfl
    clear hR hl1 hl2 hlm hu hf hok
    rintro ⟨i, l, j⟩ ⟨hj, hR, hl⟩ -
    simp only at hj hR hl
    conv => whnf
    refine csplit (fun hlt => ?_) (fun hge => ?_)
    · have hlt : j < 4 := by have := of_decide_eq_true hlt; simp only at this; omega
      conv => whnf
      refine ⟨(show (0 : Int) ≤ j by omega), (show (j : Int) < 4 by omega), rfl, hlt, fun v hv => ?_⟩
      replace hv : ([u1, u2, u3, u4].map fun u => AV.tr (tu u))[j]? = some v := hv
      obtain ⟨u, hu, rfl⟩ := map_get hv
      rw [drop_cons hu] at hR
      have ht := ti_succ (n := 4) hlt (by decide)
      conv => whnf
      refine csplit (fun h1 => ?_) (fun h1 => ?_)
      · replace h1 : (band u all == 0) = true := h1
        have hR2 : R = fieldsG all ([u1, u2, u3, u4].drop (j + 1)) i l := by rw [hR]; exact fieldsG_skip (by rw [h1]; rfl)
        conv => whnf
        refine ⟨fun _ => ?_, fun h => absurd rfl h⟩
        conv => whnf
        exact ⟨(i, l, j + 1), [0, 1], [], Sub.mk' rfl ⟨⟨rfl, rfl⟩, .inl rfl, ⟨rfl, rfl⟩, .inl rfl, aut, .inl ht, trivial⟩ aut rfl rfl, ⟨by simp only; omega, hR2, hl⟩, by simp only; omega⟩
      replace h1 : (band u all == 0) = false := h1
      conv => whnf
      refine csplit (fun h2 => ?_) (fun h2 => ?_)
      · replace h2 : (u == 1) = true := h2
        have hR2 : R = fieldsG all ([u1, u2, u3, u4].drop (j + 1)) i l := by rw [hR]; exact fieldsG_skip (by rw [h1, h2]; rfl)
        conv => whnf
        refine ⟨fun _ => ?_, fun h => absurd rfl h⟩
        conv => whnf
        exact ⟨(i, l, j + 1), [0, 1], [], Sub.mk' rfl ⟨⟨rfl, rfl⟩, .inl rfl, ⟨rfl, rfl⟩, .inl rfl, aut, .inl ht, trivial⟩ aut rfl rfl, ⟨by simp only; omega, hR2, hl⟩, by simp only; omega⟩
      replace h2 : (u == 1) = false := h2
      unfold fieldsG at hR
      rw [h1, h2] at hR
      conv => whnf
      cases l with
      | nil =>
        replace hR : R = (i, false) := hR
        rw [hR]
        conv => whnf
        exact aut
      | cons s r =>
        have hk := k_field i u s
        have hR : R = bif !(fieldS i u s).2 then ((fieldS i u s).1, false) else fieldsG all ([u1, u2, u3, u4].drop (j + 1)) (fieldS i u s).1 r := hR
        generalize fieldS i u s = F at hk hR
        obtain ⟨F1, F2⟩ := F
        simp only at hk hR
        conv => whnf
        refine ⟨rfl, Int.le_refl _, (show (0 : Int) < (List.map srow (s :: r)).length by rw [List.length_map, List.length_cons]; omega), fun row hrow => ?_⟩
        cases hrow
        conv => whnf
        refine acall.gen [1] [] _ _ _ _ hk rfl rfl rfl rfl aut aut rfl rfl fun _ => ?_
        cases F2
        · conv => whnf
          replace hR : R = (F1, false) := hR
          rw [hR]
          exact aut
        · conv => whnf
          replace hR : R = fieldsG all ([u1, u2, u3, u4].drop (j + 1)) F1 r := hR
          refine ⟨rfl, by decide, (show (1 : Int) ≤ (List.map srow (s :: r)).length by rw [List.length_map, List.length_cons]; omega), Int.le_refl _, ?_⟩
          conv => whnf
          refine ⟨(F1, r, j + 1), [0, 1], [], Sub.mk' rfl ⟨⟨rfl, rfl⟩, .inl (congrArg (Tr.lst 1 16) ?_), ⟨rfl, rfl⟩, .inl rfl, aut, .inl ht, trivial⟩ aut rfl rfl, ⟨by simp only; omega, hR, by simp only [List.length_cons] at hl ⊢; omega⟩, by simp only; omega⟩
          show (List.take (((List.map srow (s :: r)).length : Nat) : Int).toNat (List.map srow (s :: r))).drop 1 = r.map srow
          rw [Int.toNat_natCast, List.take_length]; rfl
    · have hge : j = 4 := by have := of_decide_eq_false hge; simp only at this; omega
      subst hge
      replace hR : R = (i, (l.length : Int) == 0) := hR
      rw [hR]
      conv => whnf
      refine ⟨fun _ => ?_, fun h => absurd rfl h⟩
      conv => whnf
      exact ⟨⟨aut, .inl (by rw [List.length_map]), trivial⟩, trivial⟩
end Go.Proofs.YtffhoknkfohfgaaDoor.am

namespace Go.Proofs.YtffhoknkfohfgaaDoor.am
open Go Go.Proofs
abbrev PO (α : Type) := List UInt8 → Option (α × List UInt8)
structure Lim where
  op : Nat
  reg : Nat
  addr : Nat
  to_ : Nat
def smallO (most : Nat) : PO Nat := fun l => match numO l with
  | some (n, r) => if n ≤ most then some (n, r) else none
  | none => none
def wordO : PO Int := fun l => match numO l with
  | some (n, r) => some (unzN n, r)
  | none => none
abbrev in64 (w : Int) : Prop := -9223372036854775808 ≤ w ∧ w ≤ 9223372036854775807
theorem nuB_nat {x : Int} (h0 : 0 ≤ x) (h1 : x < 18446744073709551616) : nuB x = vari 9 x.toNat := by unfold nuB; rw [wu64 h0 h1]
theorem smallO_enc {most : Nat} {x : Int} (h0 : 0 ≤ x) (h1 : x ≤ most) (hm : most < 9223372036854775808) (r : List UInt8) : smallO most (nuB x ++ r) = some (x.toNat, r) := by
  unfold smallO
  rw [nuB_nat h0 (by omega), numO_enc _ (by omega)]
  show (if x.toNat ≤ most then _ else _) = _
  rw [if_pos (by omega)]
theorem smallO_inv {most n : Nat} {l r : List UInt8} (h : smallO most l = some (n, r)) : n ≤ most ∧ l = nuB n ++ r := by
  unfold smallO at h
  split at h
  · rename_i m r' hn
    split at h
    · simp only [Option.some.injEq, Prod.mk.injEq] at h
      obtain ⟨rfl, rfl⟩ := h
      obtain ⟨h1, h2⟩ := numO_inv hn
      refine ⟨by assumption, ?_⟩
      rw [nuB_nat (by omega) (by omega)]
      exact h2
    · cases h
  · cases h
theorem wordO_enc {w : Int} (h : in64 w) (r : List UInt8) : wordO (wrdB w ++ r) = some (w, r) := by
  unfold wordO wrdB varB
  rw [Int.toNat_natCast, numO_enc _ (zig_lt w)]
  show some (unzN (zig w), r) = _
  rw [zig_eq w h.1 h.2, unz_zig]
theorem unz_rng {n : Nat} (h : n < 18446744073709551616) : in64 (unzN n) := by
  unfold unzN in64
  split <;> omega
theorem wordO_inv {w : Int} {l r : List UInt8} (h : wordO l = some (w, r)) : in64 w ∧ l = wrdB w ++ r := by
  unfold wordO at h
  split at h
  · rename_i m r' hn
    simp only [Option.some.injEq, Prod.mk.injEq] at h
    obtain ⟨rfl, rfl⟩ := h
    obtain ⟨h1, h2⟩ := numO_inv hn
    have hr := unz_rng h1
    refine ⟨hr, ?_⟩
    unfold wrdB varB
    rw [Int.toNat_natCast, zig_eq _ hr.1 hr.2, zig_unz]
    exact h2
  · cases h
/-! fields -/
def fieldO (L : Lim) (i : Ins) (u : Int) : PO Ins := fun l =>
  if u = 1 then (smallO L.op l).map fun p => ({ i with op := p.1 }, p.2)
  else if u = 2 then (smallO L.reg l).map fun p => ({ i with d := p.1 }, p.2)
  else if u = 4 then (smallO L.reg l).map fun p => ({ i with a := p.1 }, p.2)
  else if u = 8 then (smallO L.reg l).map fun p => ({ i with b := p.1 }, p.2)
  else if u = 16 then (smallO L.addr l).map fun p => ({ i with addr := p.1 }, p.2)
  else if u = 32 then (smallO L.to_ l).map fun p => ({ i with to_ := p.1 }, p.2)
  else if u = 64 then (wordO l).map fun p => ({ i with word := p.1 }, p.2)
  else some (i, l)
def fieldsO (L : Lim) : List Int → Ins → PO Ins
  | [], i => fun l => some (i, l)
  | u :: us, i => fun l => match fieldO L i u l with
    | none => none
    | some (i', l') => fieldsO L us i' l'
def kuse3 (k : Int) : List Int := if k = 2 then [1, 2, 4] else kuse k
def instrO (L : Lim) : PO Ins := fun l => match smallO 11 l with
  | none => none
  | some (k, l) => match fieldsO L (kuse3 k) { zeroI with kind := k } l with
    | none => none
    | some (i, l) => match (if i.kind = 2 ∧ two i.op = true then fieldO L i 8 l else some (i, l)) with
      | none => none
      | some (i, l) => match smallO 4096 l with
        | none => none
        | some (n, l) => some ({ i with from_ := n }, l)
theorem map_inv {α β : Type} {p : Option α} {f : α → β} {y : β} (h : p.map f = some y) : ∃ x, p = some x ∧ f x = y := by
  cases p with
  | none => cases h
  | some x => exact ⟨x, rfl, by simpa using h⟩
theorem kuse3_cases {k : Nat} (h : k ≤ 11) : k = 0 ∨ k = 1 ∨ k = 2 ∨ k = 3 ∨ k = 4 ∨ k = 5 ∨ k = 6 ∨ k = 7 ∨ k = 8 ∨ k = 9 ∨ k = 10 ∨ k = 11 := by omega
theorem f1_inv {L : Lim} {i i' : Ins} {l r : List UInt8} (h : fieldO L i 1 l = some (i', r)) : ∃ n : Nat, n ≤ L.op ∧ i' = { i with op := n } ∧ l = nuB n ++ r := by
  obtain ⟨⟨n, r'⟩, h1, h2⟩ := map_inv (show (smallO L.op l).map _ = _ from h)
  simp only [Prod.mk.injEq] at h2
  obtain ⟨rfl, rfl⟩ := h2
  exact ⟨n, (smallO_inv h1).1, rfl, (smallO_inv h1).2⟩
theorem f2_inv {L : Lim} {i i' : Ins} {l r : List UInt8} (h : fieldO L i 2 l = some (i', r)) : ∃ n : Nat, n ≤ L.reg ∧ i' = { i with d := n } ∧ l = nuB n ++ r := by
  obtain ⟨⟨n, r'⟩, h1, h2⟩ := map_inv (show (smallO L.reg l).map _ = _ from h)
  simp only [Prod.mk.injEq] at h2
  obtain ⟨rfl, rfl⟩ := h2
  exact ⟨n, (smallO_inv h1).1, rfl, (smallO_inv h1).2⟩
theorem f4_inv {L : Lim} {i i' : Ins} {l r : List UInt8} (h : fieldO L i 4 l = some (i', r)) : ∃ n : Nat, n ≤ L.reg ∧ i' = { i with a := n } ∧ l = nuB n ++ r := by
  obtain ⟨⟨n, r'⟩, h1, h2⟩ := map_inv (show (smallO L.reg l).map _ = _ from h)
  simp only [Prod.mk.injEq] at h2
  obtain ⟨rfl, rfl⟩ := h2
  exact ⟨n, (smallO_inv h1).1, rfl, (smallO_inv h1).2⟩
theorem f8_inv {L : Lim} {i i' : Ins} {l r : List UInt8} (h : fieldO L i 8 l = some (i', r)) : ∃ n : Nat, n ≤ L.reg ∧ i' = { i with b := n } ∧ l = nuB n ++ r := by
  obtain ⟨⟨n, r'⟩, h1, h2⟩ := map_inv (show (smallO L.reg l).map _ = _ from h)
  simp only [Prod.mk.injEq] at h2
  obtain ⟨rfl, rfl⟩ := h2
  exact ⟨n, (smallO_inv h1).1, rfl, (smallO_inv h1).2⟩
theorem f16_inv {L : Lim} {i i' : Ins} {l r : List UInt8} (h : fieldO L i 16 l = some (i', r)) : ∃ n : Nat, n ≤ L.addr ∧ i' = { i with addr := n } ∧ l = nuB n ++ r := by
  obtain ⟨⟨n, r'⟩, h1, h2⟩ := map_inv (show (smallO L.addr l).map _ = _ from h)
  simp only [Prod.mk.injEq] at h2
  obtain ⟨rfl, rfl⟩ := h2
  exact ⟨n, (smallO_inv h1).1, rfl, (smallO_inv h1).2⟩
theorem f32_inv {L : Lim} {i i' : Ins} {l r : List UInt8} (h : fieldO L i 32 l = some (i', r)) : ∃ n : Nat, n ≤ L.to_ ∧ i' = { i with to_ := n } ∧ l = nuB n ++ r := by
  obtain ⟨⟨n, r'⟩, h1, h2⟩ := map_inv (show (smallO L.to_ l).map _ = _ from h)
  simp only [Prod.mk.injEq] at h2
  obtain ⟨rfl, rfl⟩ := h2
  exact ⟨n, (smallO_inv h1).1, rfl, (smallO_inv h1).2⟩
theorem f64_inv {L : Lim} {i i' : Ins} {l r : List UInt8} (h : fieldO L i 64 l = some (i', r)) : ∃ w : Int, in64 w ∧ i' = { i with word := w } ∧ l = wrdB w ++ r := by
  obtain ⟨⟨n, r'⟩, h1, h2⟩ := map_inv (show (wordO l).map _ = _ from h)
  simp only [Prod.mk.injEq] at h2
  obtain ⟨rfl, rfl⟩ := h2
  exact ⟨n, (wordO_inv h1).1, rfl, (wordO_inv h1).2⟩
theorem f0_inv {L : Lim} {i i' : Ins} {l r : List UInt8} (h : fieldO L i 0 l = some (i', r)) : i' = i ∧ l = r := by
  have h : some (i, l) = some (i', r) := h
  simp only [Option.some.injEq, Prod.mk.injEq] at h
  exact ⟨h.1.symm, h.2⟩
theorem fields_inv {L : Lim} {u : Int} {us : List Int} {i i' : Ins} {l r : List UInt8} (h : fieldsO L (u :: us) i l = some (i', r)) : ∃ i1 l1, fieldO L i u l = some (i1, l1) ∧ fieldsO L us i1 l1 = some (i', r) := by
  have h : (match fieldO L i u l with | none => none | some (i', l') => fieldsO L us i' l') = some (i', r) := h
  split at h
  · cases h
  · exact ⟨_, _, by assumption, h⟩
theorem fields_nil {L : Lim} {i i' : Ins} {l r : List UInt8} (h : fieldsO L [] i l = some (i', r)) : i' = i ∧ l = r := by
  have h : some (i, l) = some (i', r) := h
  simp only [Option.some.injEq, Prod.mk.injEq] at h
  exact ⟨h.1.symm, h.2⟩
theorem insE_of {i : Ins} {E : List UInt8} (h : fieldsE i = E) : insE i = nuB i.kind ++ E ++ nuB i.from_ := by unfold insE; rw [h]
theorem instr_core {L : Lim} {l r : List UInt8} {i : Ins} (h : instrO L l = some (i, r)) : ∃ (k : Nat) (l1 l2 l3 : List UInt8) (i1 i2 : Ins) (n : Nat), k ≤ 11 ∧ l = nuB k ++ l1 ∧ fieldsO L (kuse3 k) { zeroI with kind := k } l1 = some (i1, l2) ∧
    (if i1.kind = 2 ∧ two i1.op = true then fieldO L i1 8 l2 else some (i1, l2)) = some (i2, l3) ∧ n ≤ 4096 ∧ l3 = nuB n ++ r ∧ i = { i2 with from_ := n } := by
  unfold instrO at h
  split at h
  · cases h
  rename_i k l1 hk
  obtain ⟨k1, k2⟩ := smallO_inv hk
  split at h
  · cases h
  rename_i i1 l2 hf
  split at h
  · cases h
  rename_i i2 l3 hb
  split at h
  · cases h
  rename_i n r' hn
  obtain ⟨n1, n2⟩ := smallO_inv hn
  simp only [Option.some.injEq, Prod.mk.injEq] at h
  obtain ⟨rfl, rfl⟩ := h
  exact ⟨k, l1, l2, l3, i1, i2, n, k1, k2, hf, hb, n1, n2, rfl⟩
theorem instr_inv {L : Lim} {l r : List UInt8} {i : Ins} (h : instrO L l = some (i, r)) : l = insE i ++ r := by
  obtain ⟨k, l1, l2, l3, i1, i2, n, hk, rfl, hf, hb, hn, rfl, rfl⟩ := instr_core h
  clear h
  by_cases h2 : k = 2
  · subst h2
    obtain ⟨a1, s1, f1, hf⟩ := fields_inv (us := [2, 4]) hf
    obtain ⟨a2, s2, f2, hf⟩ := fields_inv hf
    obtain ⟨a3, s3, f3, hf⟩ := fields_inv hf
    obtain ⟨rfl, rfl⟩ := fields_nil hf
    obtain ⟨x1, _, rfl, rfl⟩ := f1_inv f1
    obtain ⟨x2, _, rfl, rfl⟩ := f2_inv f2
    obtain ⟨x3, _, rfl, rfl⟩ := f4_inv f3
    by_cases ht : two (x1 : Int) = true
    · rw [if_pos ⟨rfl, ht⟩] at hb
      obtain ⟨x4, _, rfl, rfl⟩ := f8_inv hb
      rw [insE_of (E := nuB x1 ++ (nuB x2 ++ (nuB x3 ++ nuB x4))) (by unfold fieldsE; simp only [ht]; simp [List.flatMap, kuse, byK, kuses, fieldE])]
      simp only [List.append_assoc]
    · rw [if_neg (fun h => ht h.2)] at hb
      have ht : two (x1 : Int) = false := by simpa using ht
      simp only [Option.some.injEq, Prod.mk.injEq] at hb
      obtain ⟨rfl, rfl⟩ := hb
      rw [insE_of (E := nuB x1 ++ (nuB x2 ++ nuB x3)) (by unfold fieldsE; simp only [ht]; simp [List.flatMap, fieldE])]
      simp only [List.append_assoc]
  · rcases kuse3_cases hk with rfl | rfl | rfl | rfl | rfl | rfl | rfl | rfl | rfl | rfl | rfl | rfl
    case inr.inr.inl => exact absurd rfl h2
    all_goals
      (first | (obtain ⟨a1, s1, f1, hf⟩ := fields_inv (u := 2) (us := [64, 0, 0]) hf) | (obtain ⟨a1, s1, f1, hf⟩ := fields_inv (u := 2) (us := [16, 0, 0]) hf) | (obtain ⟨a1, s1, f1, hf⟩ := fields_inv (u := 4) (us := [16, 0, 0]) hf) | (obtain ⟨a1, s1, f1, hf⟩ := fields_inv (u := 0) (us := [0, 0, 0]) hf) | (obtain ⟨a1, s1, f1, hf⟩ := fields_inv (u := 4) (us := [0, 0, 0]) hf) | (obtain ⟨a1, s1, f1, hf⟩ := fields_inv (u := 32) (us := [0, 0, 0]) hf) | (obtain ⟨a1, s1, f1, hf⟩ := fields_inv (u := 4) (us := [32, 0, 0]) hf))
      obtain ⟨a2, s2, f2, hf⟩ := fields_inv hf
      obtain ⟨a3, s3, f3, hf⟩ := fields_inv hf
      obtain ⟨a4, s4, f4, hf⟩ := fields_inv hf
      obtain ⟨rfl, rfl⟩ := fields_nil hf
      obtain ⟨rfl, rfl⟩ := f0_inv f4
      obtain ⟨rfl, rfl⟩ := f0_inv f3
      (first | (obtain ⟨x1, _, rfl, rfl⟩ := f2_inv f1) | (obtain ⟨x1, _, rfl, rfl⟩ := f4_inv f1) | (obtain ⟨x1, _, rfl, rfl⟩ := f32_inv f1) | (obtain ⟨rfl, rfl⟩ := f0_inv f1))
      (first | (obtain ⟨x2, _, rfl, rfl⟩ := f64_inv f2) | (obtain ⟨x2, _, rfl, rfl⟩ := f16_inv f2) | (obtain ⟨x2, _, rfl, rfl⟩ := f32_inv f2) | (obtain ⟨rfl, rfl⟩ := f0_inv f2))
      rw [if_neg (fun h => h2 (Int.ofNat.inj h.1))] at hb
      simp only [Option.some.injEq, Prod.mk.injEq] at hb
      obtain ⟨rfl, rfl⟩ := hb
      rw [insE_of rfl]
      simp only [List.append_assoc]
      try simp [fieldsE, List.flatMap, kuse, byK, kuses, fieldE, zeroI]
/-! lists -/
def repO {α : Type} (p : PO α) : Nat → PO (List α)
  | 0 => fun l => some ([], l)
  | n + 1 => fun l => match p l with
    | none => none
    | some (a, l) => match repO p n l with
      | none => none
      | some (xs, r) => some (a :: xs, r)
theorem rep_enc {α : Type} {p : PO α} {e : α → List UInt8} : ∀ (xs : List α) (r : List UInt8), (∀ a ∈ xs, ∀ r, p (e a ++ r) = some (a, r)) → repO p xs.length (xs.flatMap e ++ r) = some (xs, r) := by
  intro xs
  induction xs with
  | nil => intro r _; rfl
  | cons a xs ih =>
    intro r h
    show (match p ((a :: xs).flatMap e ++ r) with | none => none | some (a, l) => match repO p xs.length l with | none => none | some (xs, r) => some (a :: xs, r)) = _
    rw [List.flatMap_cons, List.append_assoc, h a (.head _)]
    show (match repO p xs.length (xs.flatMap e ++ r) with | none => none | some (xs, r) => some (a :: xs, r)) = _
    rw [ih r fun x hx => h x (.tail _ hx)]
theorem rep_inv {α : Type} {p : PO α} {e : α → List UInt8} (h : ∀ l a r, p l = some (a, r) → l = e a ++ r) : ∀ (n : Nat) (l : List UInt8) (xs : List α) (r : List UInt8), repO p n l = some (xs, r) → xs.length = n ∧ l = xs.flatMap e ++ r := by
  intro n
  induction n with
  | zero =>
    intro l xs r h1
    have h1 : some ([], l) = some (xs, r) := h1
    simp only [Option.some.injEq, Prod.mk.injEq] at h1
    obtain ⟨rfl, rfl⟩ := h1
    exact ⟨rfl, rfl⟩
  | succ n ih =>
    intro l xs r h1
    have h1 : (match p l with | none => none | some (a, l) => match repO p n l with | none => none | some (xs, r) => some (a :: xs, r)) = some (xs, r) := h1
    split at h1
    · cases h1
    rename_i a l1 ha
    split at h1
    · cases h1
    rename_i xs' r' hr
    simp only [Option.some.injEq, Prod.mk.injEq] at h1
    obtain ⟨rfl, rfl⟩ := h1
    obtain ⟨e1, e2⟩ := ih _ _ _ hr
    refine ⟨by rw [List.length_cons, e1], ?_⟩
    rw [h _ _ _ ha, e2, List.flatMap_cons, List.append_assoc]
/-! cores and objects -/
def nameO : PO ByteArray := fun l => match smallO 32 l with
  | none => none
  | some (n, r) => if n ≤ r.length then some (⟨(r.take n).toArray⟩, r.drop n) else none
def coreO (L : Nat → Lim) : PO Cor := fun l => match nameO l with
  | none => none
  | some (s, l) => match smallO 16384 l with
    | none => none
    | some (n, l) => match repO (instrO (L n)) n l with
      | none => none
      | some (c, l) => some (⟨s, c⟩, l)
def obO (L : Nat → Nat → Lim) : PO Ob := fun l => if l.take 4 = magicL then (match smallO 64 (l.drop 4) with
  | none => none
  | some (a, l) => match smallO 16 l with
    | none => none
    | some (b, l) => match smallO 16 l with
      | none => none
      | some (c, l) => match smallO 4096 l with
        | none => none
        | some (n, l) => match repO wordO n l with
          | none => none
          | some (m, l) => match smallO 8 l with
            | none => none
            | some (k, l) => match repO (coreO (L n)) k l with
              | none => none
              | some (cs, l) => some (⟨m, a, b, c, cs⟩, l)) else none
theorem name_inv {l r : List UInt8} {s : ByteArray} (h : nameO l = some (s, r)) : s.size ≤ 32 ∧ l = nuB s.size ++ (s.data.toList ++ r) := by
  unfold nameO at h
  split at h
  · cases h
  rename_i n r' hn
  obtain ⟨n1, rfl⟩ := smallO_inv hn
  split at h
  · rename_i hle
    simp only [Option.some.injEq, Prod.mk.injEq] at h
    obtain ⟨rfl, rfl⟩ := h
    have hs : ByteArray.size ⟨(r'.take n).toArray⟩ = n := by show (r'.take n).toArray.size = n; simp; omega
    refine ⟨by omega, ?_⟩
    rw [hs]
    simp
  · cases h
theorem core_inv {L : Nat → Lim} {l r : List UInt8} {c : Cor} (h : coreO L l = some (c, r)) : l = coreE c ++ r := by
  unfold coreO at h
  split at h
  · cases h
  rename_i s l1 h1
  split at h
  · cases h
  rename_i n l2 h2
  split at h
  · cases h
  rename_i cc l3 h3
  simp only [Option.some.injEq, Prod.mk.injEq] at h
  obtain ⟨rfl, rfl⟩ := h
  obtain ⟨_, rfl⟩ := name_inv h1
  obtain ⟨_, rfl⟩ := smallO_inv h2
  obtain ⟨e1, rfl⟩ := rep_inv (fun l a r h => instr_inv h) _ _ _ _ h3
  unfold coreE
  simp only [List.append_assoc, e1]
theorem ob_inv {L : Nat → Nat → Lim} {l r : List UInt8} {o : Ob} (h : obO L l = some (o, r)) : l = encB o ++ r := by
  unfold obO at h
  split at h
  case isFalse => cases h
  rename_i hmag
  have e : l = magicL ++ l.drop 4 := by rw [← hmag, List.take_append_drop]
  rw [e]
  clear e hmag
  generalize l.drop 4 = l at h
  split at h
  · cases h
  rename_i a l1 h1
  split at h
  · cases h
  rename_i b l2 h2
  split at h
  · cases h
  rename_i c l3 h3
  split at h
  · cases h
  rename_i n l4 h4
  split at h
  · cases h
  rename_i m l5 h5
  split at h
  · cases h
  rename_i k l6 h6
  split at h
  · cases h
  rename_i cs l7 h7
  simp only [Option.some.injEq, Prod.mk.injEq] at h
  obtain ⟨rfl, rfl⟩ := h
  obtain ⟨_, rfl⟩ := smallO_inv h1
  obtain ⟨_, rfl⟩ := smallO_inv h2
  obtain ⟨_, rfl⟩ := smallO_inv h3
  obtain ⟨_, rfl⟩ := smallO_inv h4
  obtain ⟨e5, rfl⟩ := rep_inv (e := wrdB) (fun l a r h => (wordO_inv h).2) _ _ _ _ h5
  obtain ⟨_, rfl⟩ := smallO_inv h6
  obtain ⟨e7, rfl⟩ := rep_inv (fun l a r h => core_inv h) _ _ _ _ h7
  unfold encB headE
  simp only [List.append_assoc, e5, e7]
end Go.Proofs.YtffhoknkfohfgaaDoor.am

namespace Go.Proofs.YtffhoknkfohfgaaDoor.am
open Go Go.Proofs
theorem within_inv {all n u most : Int} (h : withinB all n u most = true) : (band all u = 0 → n = 0) ∧ (band all u ≠ 0 → 0 ≤ n ∧ n < most) := by
  unfold withinB at h
  simp only [Bool.or_eq_true, Bool.and_eq_true, beq_iff_eq, bne_iff_ne, ne_eq, decide_eq_true_eq, ge_iff_le] at h
  rcases h with ⟨h1, h2⟩ | ⟨⟨h1, h2⟩, h3⟩
  · exact ⟨fun _ => h2, fun h => absurd h1 h⟩
  · exact ⟨fun h => absurd h h1, fun _ => ⟨h2, h3⟩⟩
structure RightF (i : Ins) (code mem : Int) : Prop where
  kind : 1 ≤ i.kind ∧ i.kind < 11
  from_ : 0 ≤ i.from_ ∧ i.from_ ≤ 4096
  op : (band (usedM i.kind i.op) 1 = 0 → i.op = 0) ∧ (band (usedM i.kind i.op) 1 ≠ 0 → 1 ≤ i.op ∧ i.op ≤ 18)
  d : (band (usedM i.kind i.op) 2 = 0 → i.d = 0) ∧ (band (usedM i.kind i.op) 2 ≠ 0 → 0 ≤ i.d ∧ i.d < 16)
  a : (band (usedM i.kind i.op) 4 = 0 → i.a = 0) ∧ (band (usedM i.kind i.op) 4 ≠ 0 → 0 ≤ i.a ∧ i.a < 16)
  b : (band (usedM i.kind i.op) 8 = 0 → i.b = 0) ∧ (band (usedM i.kind i.op) 8 ≠ 0 → 0 ≤ i.b ∧ i.b < 16)
  addr : (band (usedM i.kind i.op) 16 = 0 → i.addr = 0) ∧ (band (usedM i.kind i.op) 16 ≠ 0 → 0 ≤ i.addr ∧ i.addr < mem)
  to_ : (band (usedM i.kind i.op) 32 = 0 → i.to_ = 0) ∧ (band (usedM i.kind i.op) 32 ≠ 0 → 0 ≤ i.to_ ∧ i.to_ < code)
  word : band (usedM i.kind i.op) 64 = 0 → i.word = 0
theorem opword_low {op : Int} (h : op ≤ 0) : opword op = ⟨#[]⟩ := by
  unfold opword byK
  rw [show op.toNat = 0 by omega]; rfl
theorem right_inv {i : Ins} {code mem : Int} (h : rightB i code mem = true) : RightF i code mem := by
  have hk := right_kind h
  unfold rightB at h
  simp only [Bool.and_eq_true, Bool.not_eq_true', Bool.or_eq_false_iff, decide_eq_false_iff_not] at h
  obtain ⟨⟨⟨_, f1⟩, f2⟩, ⟨⟨⟨⟨⟨ho, hd⟩, ha⟩, hb⟩, hm⟩, ht⟩, hw⟩ := h
  refine ⟨hk, ⟨by omega, by omega⟩, ?_, within_inv hd, within_inv ha, within_inv hb, within_inv hm, within_inv ht, ?_⟩
  · unfold opB at ho
    simp only [Bool.or_eq_true, Bool.and_eq_true, beq_iff_eq, bne_iff_ne, ne_eq, Bool.not_eq_true'] at ho
    rcases ho with ⟨h1, h2⟩ | ⟨h1, h2⟩
    · exact ⟨fun _ => h2, fun h => absurd h1 h⟩
    · refine ⟨fun h => absurd h h1, fun _ => ?_⟩
      by_cases hl : i.op ≤ 0
      · rw [opword_low hl] at h2; simp [seq] at h2
      · by_cases hg : 19 ≤ i.op
        · rw [opword_big hg] at h2; simp [seq] at h2
        · omega
  · intro h0
    simp only [Bool.or_eq_true, bne_iff_ne, ne_eq, beq_iff_eq] at hw
    rcases hw with hw | hw
    · exact absurd h0 hw
    · exact hw
structure LimOk (L : Lim) (code mem : Int) : Prop where
  op : 18 ≤ L.op
  reg : 15 ≤ L.reg
  addr : mem ≤ L.addr
  to_ : code ≤ L.to_
  bop : L.op < 9223372036854775808
  breg : L.reg < 9223372036854775808
  baddr : L.addr < 9223372036854775808
  bto : L.to_ < 9223372036854775808
theorem small_map {most : Nat} {x : Int} (f : Nat × List UInt8 → Ins × List UInt8) (h0 : 0 ≤ x) (h1 : x ≤ most) (hm : most < 9223372036854775808) (r : List UInt8) : (smallO most (nuB x ++ r)).map f = some (f (x.toNat, r)) := by
  rw [smallO_enc h0 h1 hm]; rfl
theorem f1_enc {L : Lim} {i : Ins} {x : Int} (h0 : 0 ≤ x) (h1 : x ≤ L.op) (hm : L.op < 9223372036854775808) (r : List UInt8) : fieldO L i 1 (nuB x ++ r) = some ({ i with op := x }, r) := by
  refine (small_map (fun p => ({ i with op := p.1 }, p.2)) h0 h1 hm r).trans ?_
  simp only [Int.toNat_of_nonneg h0]
theorem f2_enc {L : Lim} {i : Ins} {x : Int} (h0 : 0 ≤ x) (h1 : x ≤ L.reg) (hm : L.reg < 9223372036854775808) (r : List UInt8) : fieldO L i 2 (nuB x ++ r) = some ({ i with d := x }, r) := by
  refine (small_map (fun p => ({ i with d := p.1 }, p.2)) h0 h1 hm r).trans ?_
  simp only [Int.toNat_of_nonneg h0]
theorem f4_enc {L : Lim} {i : Ins} {x : Int} (h0 : 0 ≤ x) (h1 : x ≤ L.reg) (hm : L.reg < 9223372036854775808) (r : List UInt8) : fieldO L i 4 (nuB x ++ r) = some ({ i with a := x }, r) := by
  refine (small_map (fun p => ({ i with a := p.1 }, p.2)) h0 h1 hm r).trans ?_
  simp only [Int.toNat_of_nonneg h0]
theorem f8_enc {L : Lim} {i : Ins} {x : Int} (h0 : 0 ≤ x) (h1 : x ≤ L.reg) (hm : L.reg < 9223372036854775808) (r : List UInt8) : fieldO L i 8 (nuB x ++ r) = some ({ i with b := x }, r) := by
  refine (small_map (fun p => ({ i with b := p.1 }, p.2)) h0 h1 hm r).trans ?_
  simp only [Int.toNat_of_nonneg h0]
theorem f16_enc {L : Lim} {i : Ins} {x : Int} (h0 : 0 ≤ x) (h1 : x ≤ L.addr) (hm : L.addr < 9223372036854775808) (r : List UInt8) : fieldO L i 16 (nuB x ++ r) = some ({ i with addr := x }, r) := by
  refine (small_map (fun p => ({ i with addr := p.1 }, p.2)) h0 h1 hm r).trans ?_
  simp only [Int.toNat_of_nonneg h0]
theorem f32_enc {L : Lim} {i : Ins} {x : Int} (h0 : 0 ≤ x) (h1 : x ≤ L.to_) (hm : L.to_ < 9223372036854775808) (r : List UInt8) : fieldO L i 32 (nuB x ++ r) = some ({ i with to_ := x }, r) := by
  refine (small_map (fun p => ({ i with to_ := p.1 }, p.2)) h0 h1 hm r).trans ?_
  simp only [Int.toNat_of_nonneg h0]
theorem f64_enc {L : Lim} {i : Ins} {x : Int} (h : in64 x) (r : List UInt8) : fieldO L i 64 (wrdB x ++ r) = some ({ i with word := x }, r) := by
  show (wordO (wrdB x ++ r)).map _ = _
  rw [wordO_enc h]; rfl
theorem fields_cons {L : Lim} {u : Int} {us : List Int} {i i1 : Ins} {l l1 : List UInt8} (h : fieldO L i u l = some (i1, l1)) : fieldsO L (u :: us) i l = fieldsO L us i1 l1 := by
  show (match fieldO L i u l with | none => none | some (i', l') => fieldsO L us i' l') = _
  rw [h]
theorem fields_zero {L : Lim} {us : List Int} {i : Ins} {l : List UInt8} : fieldsO L (0 :: us) i l = fieldsO L us i l := fields_cons rfl
theorem instr_mk {L : Lim} {k f : Int} {E E2 : List UInt8} {i1 i2 : Ins} {r : List UInt8} (hk : 0 ≤ k ∧ k ≤ 11) (hf0 : 0 ≤ f ∧ f ≤ 4096)
    (h1 : fieldsO L (kuse3 k) { zeroI with kind := k } (E ++ (E2 ++ (nuB f ++ r))) = some (i1, E2 ++ (nuB f ++ r)))
    (h2 : (if i1.kind = 2 ∧ two i1.op = true then fieldO L i1 8 (E2 ++ (nuB f ++ r)) else some (i1, E2 ++ (nuB f ++ r))) = some (i2, nuB f ++ r)) :
    instrO L (nuB k ++ (E ++ (E2 ++ (nuB f ++ r)))) = some ({ i2 with from_ := f }, r) := by
  unfold instrO
  rw [smallO_enc hk.1 hk.2 (by decide)]
  simp only [Int.toNat_of_nonneg hk.1, h1, h2, smallO_enc hf0.1 hf0.2 (by decide), Int.toNat_of_nonneg hf0.1]
set_option maxHeartbeats 1000000 in
theorem instr_enc {L : Lim} {code mem : Int} (hL : LimOk L code mem) {i : Ins} (hr : rightB i code mem = true) (hw : in64 i.word) (r : List UInt8) : instrO L (insE i ++ r) = some (i, r) := by
  obtain ⟨hk, hf, ho, hd, ha, hb, hm, ht, hwz⟩ := right_inv hr
  clear hr
  obtain ⟨L1, L2, L3, L4, B1, B2, B3, B4⟩ := hL
  obtain ⟨kind, op, d, a, b, addr, to_, word, from_⟩ := i
  simp only at hk hf ho hd ha hb hm ht hwz hw
  by_cases h2 : kind = 2
  · subst h2
    cases h2 : two op
    · have e : usedM 2 op = 7 := by unfold usedM; rw [h2]; rfl
      rw [e] at ho hd ha hb hm ht hwz
      have ho := ho.2 (by decide)
      have hd := hd.2 (by decide)
      have ha := ha.2 (by decide)
      obtain rfl := hb.1 (by decide)
      obtain rfl := hm.1 (by decide)
      obtain rfl := ht.1 (by decide)
      obtain rfl := hwz (by decide)
      rw [insE_of (E := nuB op ++ (nuB d ++ nuB a)) (by unfold fieldsE; simp only [h2]; simp [List.flatMap, fieldE])]
      simp only [List.append_assoc]
      refine (instr_mk (E := nuB op ++ (nuB d ++ nuB a)) (E2 := []) (by omega) hf (i1 := ⟨2, op, d, a, 0, 0, 0, 0, 0⟩) (i2 := ⟨2, op, d, a, 0, 0, 0, 0, 0⟩) ?_ ?_ |> fun h => by simpa only [List.append_assoc, List.nil_append] using h)
      · simp only [List.append_assoc, List.nil_append]
        exact (fields_cons (us := [2, 4]) (f1_enc (by omega) (by omega) B1 _)).trans ((fields_cons (f2_enc hd.1 (by omega) B2 _)).trans (fields_cons (f4_enc ha.1 (by omega) B2 _)))
      · rw [if_neg (fun h => by rw [h2] at h; cases h.2)]; rfl
    · have e : usedM 2 op = 15 := by unfold usedM; rw [h2]; rfl
      rw [e] at ho hd ha hb hm ht hwz
      have ho := ho.2 (by decide)
      have hd := hd.2 (by decide)
      have ha := ha.2 (by decide)
      have hb := hb.2 (by decide)
      obtain rfl := hm.1 (by decide)
      obtain rfl := ht.1 (by decide)
      obtain rfl := hwz (by decide)
      rw [insE_of (E := nuB op ++ (nuB d ++ (nuB a ++ nuB b))) (by unfold fieldsE; simp only [h2]; simp [List.flatMap, kuse, byK, kuses, fieldE])]
      simp only [List.append_assoc]
      refine (instr_mk (E := nuB op ++ (nuB d ++ nuB a)) (E2 := nuB b) (by omega) hf (i1 := ⟨2, op, d, a, 0, 0, 0, 0, 0⟩) (i2 := ⟨2, op, d, a, b, 0, 0, 0, 0⟩) ?_ ?_ |> fun h => by simpa only [List.append_assoc, List.nil_append] using h)
      · simp only [List.append_assoc, List.nil_append]
        exact (fields_cons (us := [2, 4]) (f1_enc (by omega) (by omega) B1 _)).trans ((fields_cons (f2_enc hd.1 (by omega) B2 _)).trans (fields_cons (f4_enc ha.1 (by omega) B2 _)))
      · rw [if_pos ⟨rfl, h2⟩]
        exact f8_enc hb.1 (by omega) B2 _
  · have hc : kind = 1 ∨ kind = 3 ∨ kind = 4 ∨ kind = 5 ∨ kind = 6 ∨ kind = 7 ∨ kind = 8 ∨ kind = 9 ∨ kind = 10 := by omega
    rcases hc with rfl | rfl | rfl | rfl | rfl | rfl | rfl | rfl | rfl
    all_goals
      simp only [show ∀ op, usedM 1 op = 66 from fun _ => rfl, show ∀ op, usedM 3 op = 18 from fun _ => rfl, show ∀ op, usedM 4 op = 20 from fun _ => rfl, show ∀ op, usedM 5 op = 18 from fun _ => rfl, show ∀ op, usedM 6 op = 0 from fun _ => rfl, show ∀ op, usedM 7 op = 4 from fun _ => rfl, show ∀ op, usedM 8 op = 32 from fun _ => rfl, show ∀ op, usedM 9 op = 36 from fun _ => rfl, show ∀ op, usedM 10 op = 0 from fun _ => rfl] at ho hd ha hb hm ht hwz
      obtain rfl := ho.1 rfl
      obtain rfl := hb.1 rfl
      try obtain rfl := hwz rfl
      try obtain rfl := hd.1 rfl
      try obtain rfl := ha.1 rfl
      try obtain rfl := hm.1 rfl
      try obtain rfl := ht.1 rfl
      try have hd := hd.2 (of_decide_eq_true rfl)
      try have ha := ha.2 (of_decide_eq_true rfl)
      try have hm := hm.2 (of_decide_eq_true rfl)
      try have ht := ht.2 (of_decide_eq_true rfl)
    · rw [insE_of (E := nuB d ++ wrdB word) (by simp [fieldsE, List.flatMap, kuse, byK, kuses, fieldE]), List.append_assoc, List.append_assoc]
      refine instr_mk (k := 1) (E2 := []) ⟨by decide, by decide⟩ hf (i1 := ⟨1, 0, d, 0, 0, 0, 0, word, 0⟩) (i2 := ⟨1, 0, d, 0, 0, 0, 0, word, 0⟩) ?_ (if_neg fun h => absurd (show (1 : Int) = 2 from h.1) (by decide))
      rw [List.append_assoc]
      exact (fields_cons (us := [64, 0, 0]) (f2_enc hd.1 (by omega) B2 _)).trans ((fields_cons (f64_enc hw _)).trans (fields_zero.trans fields_zero))
    · rw [insE_of (E := nuB d ++ nuB addr) (by simp [fieldsE, List.flatMap, kuse, byK, kuses, fieldE]), List.append_assoc, List.append_assoc]
      refine instr_mk (k := 3) (E2 := []) ⟨by decide, by decide⟩ hf (i1 := ⟨3, 0, d, 0, 0, addr, 0, 0, 0⟩) (i2 := ⟨3, 0, d, 0, 0, addr, 0, 0, 0⟩) ?_ (if_neg fun h => absurd (show (3 : Int) = 2 from h.1) (by decide))
      rw [List.append_assoc]
      exact (fields_cons (us := [16, 0, 0]) (f2_enc hd.1 (by omega) B2 _)).trans ((fields_cons (f16_enc hm.1 (by omega) B3 _)).trans (fields_zero.trans fields_zero))
    · rw [insE_of (E := nuB a ++ nuB addr) (by simp [fieldsE, List.flatMap, kuse, byK, kuses, fieldE]), List.append_assoc, List.append_assoc]
      refine instr_mk (k := 4) (E2 := []) ⟨by decide, by decide⟩ hf (i1 := ⟨4, 0, 0, a, 0, addr, 0, 0, 0⟩) (i2 := ⟨4, 0, 0, a, 0, addr, 0, 0, 0⟩) ?_ (if_neg fun h => absurd (show (4 : Int) = 2 from h.1) (by decide))
      rw [List.append_assoc]
      exact (fields_cons (us := [16, 0, 0]) (f4_enc ha.1 (by omega) B2 _)).trans ((fields_cons (f16_enc hm.1 (by omega) B3 _)).trans (fields_zero.trans fields_zero))
    · rw [insE_of (E := nuB d ++ nuB addr) (by simp [fieldsE, List.flatMap, kuse, byK, kuses, fieldE]), List.append_assoc, List.append_assoc]
      refine instr_mk (k := 5) (E2 := []) ⟨by decide, by decide⟩ hf (i1 := ⟨5, 0, d, 0, 0, addr, 0, 0, 0⟩) (i2 := ⟨5, 0, d, 0, 0, addr, 0, 0, 0⟩) ?_ (if_neg fun h => absurd (show (5 : Int) = 2 from h.1) (by decide))
      rw [List.append_assoc]
      exact (fields_cons (us := [16, 0, 0]) (f2_enc hd.1 (by omega) B2 _)).trans ((fields_cons (f16_enc hm.1 (by omega) B3 _)).trans (fields_zero.trans fields_zero))
    · rw [insE_of (E := []) (by simp [fieldsE, List.flatMap, kuse, byK, kuses, fieldE]), List.append_assoc, List.append_assoc]
      exact instr_mk (k := 6) (E2 := []) ⟨by decide, by decide⟩ hf (i1 := ⟨6, 0, 0, 0, 0, 0, 0, 0, 0⟩) (i2 := ⟨6, 0, 0, 0, 0, 0, 0, 0, 0⟩) (fields_zero.trans (fields_zero.trans (fields_zero.trans fields_zero))) (if_neg fun h => absurd (show (6 : Int) = 2 from h.1) (by decide))
    · rw [insE_of (E := nuB a) (by simp [fieldsE, List.flatMap, kuse, byK, kuses, fieldE]), List.append_assoc, List.append_assoc]
      refine instr_mk (k := 7) (E2 := []) ⟨by decide, by decide⟩ hf (i1 := ⟨7, 0, 0, a, 0, 0, 0, 0, 0⟩) (i2 := ⟨7, 0, 0, a, 0, 0, 0, 0, 0⟩) ?_ (if_neg fun h => absurd (show (7 : Int) = 2 from h.1) (by decide))
      exact (fields_cons (us := [0, 0, 0]) (f4_enc ha.1 (by omega) B2 _)).trans (fields_zero.trans (fields_zero.trans fields_zero))
    · rw [insE_of (E := nuB to_) (by simp [fieldsE, List.flatMap, kuse, byK, kuses, fieldE]), List.append_assoc, List.append_assoc]
      refine instr_mk (k := 8) (E2 := []) ⟨by decide, by decide⟩ hf (i1 := ⟨8, 0, 0, 0, 0, 0, to_, 0, 0⟩) (i2 := ⟨8, 0, 0, 0, 0, 0, to_, 0, 0⟩) ?_ (if_neg fun h => absurd (show (8 : Int) = 2 from h.1) (by decide))
      exact (fields_cons (us := [0, 0, 0]) (f32_enc ht.1 (by omega) B4 _)).trans (fields_zero.trans (fields_zero.trans fields_zero))
    · rw [insE_of (E := nuB a ++ nuB to_) (by simp [fieldsE, List.flatMap, kuse, byK, kuses, fieldE]), List.append_assoc, List.append_assoc]
      refine instr_mk (k := 9) (E2 := []) ⟨by decide, by decide⟩ hf (i1 := ⟨9, 0, 0, a, 0, 0, to_, 0, 0⟩) (i2 := ⟨9, 0, 0, a, 0, 0, to_, 0, 0⟩) ?_ (if_neg fun h => absurd (show (9 : Int) = 2 from h.1) (by decide))
      rw [List.append_assoc]
      exact (fields_cons (us := [32, 0, 0]) (f4_enc ha.1 (by omega) B2 _)).trans ((fields_cons (f32_enc ht.1 (by omega) B4 _)).trans (fields_zero.trans fields_zero))
    · rw [insE_of (E := []) (by simp [fieldsE, List.flatMap, kuse, byK, kuses, fieldE]), List.append_assoc, List.append_assoc]
      exact instr_mk (k := 10) (E2 := []) ⟨by decide, by decide⟩ hf (i1 := ⟨10, 0, 0, 0, 0, 0, 0, 0, 0⟩) (i2 := ⟨10, 0, 0, 0, 0, 0, 0, 0, 0⟩) (fields_zero.trans (fields_zero.trans (fields_zero.trans fields_zero))) (if_neg fun h => absurd (show (10 : Int) = 2 from h.1) (by decide))
theorem name_enc {s : ByteArray} (h : s.size ≤ 32) (r : List UInt8) : nameO (nuB s.size ++ (s.data.toList ++ r)) = some (s, r) := by
  unfold nameO
  rw [smallO_enc (by omega) (by omega) (by decide)]
  have hd := dat_len s
  simp only [Int.toNat_natCast]
  rw [if_pos (by rw [List.length_append]; omega), List.take_append_of_le_length (by omega), List.take_of_length_le (by omega), List.drop_append_of_le_length (by omega), List.drop_eq_nil_of_le (by omega)]
  rfl
structure Rng (o : Ob) : Prop where
  mem : ∀ w ∈ o.memory, in64 w
  word : ∀ c ∈ o.cores, ∀ i ∈ c.code, in64 i.word
theorem core_enc {L : Nat → Lim} {c : Cor} {mem : Int} (hn : nameB c.name = true) (hc : c.code.length ≤ 16384) (hL : LimOk (L c.code.length) c.code.length mem) (hr : ∀ i ∈ c.code, rightB i c.code.length mem = true) (hw : ∀ i ∈ c.code, in64 i.word) (r : List UInt8) : coreO L (coreE c ++ r) = some (c, r) := by
  unfold coreO coreE
  simp only [List.append_assoc]
  rw [name_enc (name_le hn)]
  simp only
  rw [smallO_enc (by omega) (by omega) (by decide)]
  simp only [Int.toNat_natCast]
  rw [rep_enc c.code r fun i hi r => instr_enc hL (hr i hi) (hw i hi) r]
theorem ob_enc {L : Nat → Nat → Lim} {o : Ob} (hG : Good o) (hR : Rng o) (hL : ∀ c ∈ o.cores, LimOk (L o.memory.length c.code.length) c.code.length o.memory.length) (r : List UInt8) : obO L (encB o ++ r) = some (o, r) := by
  obtain ⟨memory, shared, locks, buffer, cores⟩ := o
  obtain ⟨h1, h2, h3, _, h5, h6, h7, h8, h9⟩ := hG
  obtain ⟨hm, hw⟩ := hR
  simp only at h1 h2 h3 h5 h6 h7 h8 h9 hm hw hL
  unfold obO encB headE
  simp only [List.append_assoc]
  rw [if_pos (show List.take 4 (magicL ++ _) = magicL from rfl), show ∀ x : List UInt8, (magicL ++ x).drop 4 = x from fun _ => rfl]
  simp only [smallO_enc h1.1 h1.2 (by decide), smallO_enc h2.1 h2.2 (by decide), smallO_enc (Int.le_trans (by decide) h5.1) h5.2 (by decide), smallO_enc (x := (memory.length : Int)) (most := 4096) (by omega) (by omega) (by decide), Int.toNat_natCast, rep_enc memory _ fun w hx r => wordO_enc (hm w hx) r,
    smallO_enc (x := (cores.length : Int)) (most := 8) (by omega) (by omega) (by decide), rep_enc cores r fun c hc r => core_enc (h7 c hc) (h8 c hc).2 (hL c hc) (h9 c hc) (hw c hc) r]
  rw [Int.toNat_of_nonneg h1.1, Int.toNat_of_nonneg h2.1, Int.toNat_of_nonneg (by omega)]
end Go.Proofs.YtffhoknkfohfgaaDoor.am

namespace Go.Proofs.YtffhoknkfohfgaaDoor.am
open Go Go.Proofs
abbrev bxB (h : Nat) : Blk := .cells 87 [.ptr h 0]
def fldR (i : Ins) (u : Int) (r : Rd) : Ins × Rd :=
  bif u == 1 then ({ i with op := IntKind.u8.wrap (smallR 19 r).1 }, (smallR 19 r).2) else bif u == 2 then ({ i with d := (smallR 16384 r).1 }, (smallR 16384 r).2) else bif u == 4 then ({ i with a := (smallR 16384 r).1 }, (smallR 16384 r).2)
  else bif u == 8 then ({ i with b := (smallR 16384 r).1 }, (smallR 16384 r).2) else bif u == 16 then ({ i with addr := (smallR 16384 r).1 }, (smallR 16384 r).2) else bif u == 32 then ({ i with to_ := (smallR 16384 r).1 }, (smallR 16384 r).2)
  else bif u == 64 then ({ i with word := (wordR r).1 }, (wordR r).2) else (i, r)
def stepR (i : Ins) (u : Int) (r : Rd) : Ins × Rd := bif u == 8 && i.kind == 2 && !two i.op then (i, r) else fldR i u r
def stepsR : List Int → Ins → Rd → Ins × Rd
  | [], i, r => (i, r)
  | u :: us, i, r => stepsR us (stepR i u r).1 (stepR i u r).2
def fieldsR (i : Ins) (r : Rd) : Ins × Rd := stepsR (kuse i.kind) i r
theorem k_rdOp (n : Int) (r : Rd) : K 70 [.tr (tu 1), .ptr 0 0, .tr (.v (.pointer none)), .ptr 1 0] [.cells 3 [.tr (ti n)], bxB 2, r.blk] (.ret (.tup [])) [some (.cells 3 [.tr (ti (smallR 19 r).1)]), some (bxB 2), some (smallR 19 r).2.blk] := by
  refine Ctr.of hT hmix Tryd.func70 rfl (fun _ _ => by kernel_rfl) rfl fun hok => ?_
  clear hok
  have hs := k_smallR r 19 (by decide)
  generalize smallR 19 r = S at hs ⊢
  obtain ⟨n1, l1, b1⟩ := S
  obtain ⟨l, b⟩ := r
  conv => whnf
  refine acall.au [2] [] (hs) ?_
  intro _
  conv => whnf
  exact aut
theorem k_rdW (i : Ins) (r : Rd) : K 70 [.tr (tu 64), .tr (.v (.pointer none)), .ptr 0 7, .ptr 1 0] [insB i, bxB 2, r.blk] (.ret (.tup [])) [some (insB { i with word := (wordR r).1 }), some (bxB 2), some (wordR r).2.blk] := by
  refine Ctr.of hT hmix Tryd.func70 rfl (fun _ _ => by kernel_rfl) rfl fun hok => ?_
  clear hok
  have hs := k_wordR r
  generalize wordR r = S at hs ⊢
  obtain ⟨n1, l1, b1⟩ := S
  obtain ⟨l, b⟩ := r
  conv => whnf
  refine acall.au [2] [] (hs) ?_
  intro _
  conv => whnf
  exact aut

theorem k_rd2 (i : Ins) (r : Rd) : K 70 [.tr (tu 2), .ptr 0 2, .tr (.v (.pointer none)), .ptr 1 0] [insB i, bxB 2, r.blk] (.ret (.tup [])) [some (insB { i with d := (smallR 16384 r).1 }), some (bxB 2), some (smallR 16384 r).2.blk] := by
  refine Ctr.of hT hmix Tryd.func70 rfl (fun _ _ => by kernel_rfl) rfl fun hok => ?_
  clear hok
  have hs := k_smallR r 16384 (by decide)
  generalize smallR 16384 r = S at hs ⊢
  obtain ⟨n1, l1, b1⟩ := S
  obtain ⟨l, b⟩ := r
  conv => whnf
  refine acall.au [2] [] (hs) ?_
  intro _
  conv => whnf
  exact aut

theorem k_rd4 (i : Ins) (r : Rd) : K 70 [.tr (tu 4), .ptr 0 3, .tr (.v (.pointer none)), .ptr 1 0] [insB i, bxB 2, r.blk] (.ret (.tup [])) [some (insB { i with a := (smallR 16384 r).1 }), some (bxB 2), some (smallR 16384 r).2.blk] := by
  refine Ctr.of hT hmix Tryd.func70 rfl (fun _ _ => by kernel_rfl) rfl fun hok => ?_
  clear hok
  have hs := k_smallR r 16384 (by decide)
  generalize smallR 16384 r = S at hs ⊢
  obtain ⟨n1, l1, b1⟩ := S
  obtain ⟨l, b⟩ := r
  conv => whnf
  refine acall.au [2] [] (hs) ?_
  intro _
  conv => whnf
  exact aut

theorem k_rd8 (i : Ins) (r : Rd) : K 70 [.tr (tu 8), .ptr 0 4, .tr (.v (.pointer none)), .ptr 1 0] [insB i, bxB 2, r.blk] (.ret (.tup [])) [some (insB { i with b := (smallR 16384 r).1 }), some (bxB 2), some (smallR 16384 r).2.blk] := by
  refine Ctr.of hT hmix Tryd.func70 rfl (fun _ _ => by kernel_rfl) rfl fun hok => ?_
  clear hok
  have hs := k_smallR r 16384 (by decide)
  generalize smallR 16384 r = S at hs ⊢
  obtain ⟨n1, l1, b1⟩ := S
  obtain ⟨l, b⟩ := r
  conv => whnf
  refine acall.au [2] [] (hs) ?_
  intro _
  conv => whnf
  exact aut

theorem k_rd16 (i : Ins) (r : Rd) : K 70 [.tr (tu 16), .ptr 0 5, .tr (.v (.pointer none)), .ptr 1 0] [insB i, bxB 2, r.blk] (.ret (.tup [])) [some (insB { i with addr := (smallR 16384 r).1 }), some (bxB 2), some (smallR 16384 r).2.blk] := by
  refine Ctr.of hT hmix Tryd.func70 rfl (fun _ _ => by kernel_rfl) rfl fun hok => ?_
  clear hok
  have hs := k_smallR r 16384 (by decide)
  generalize smallR 16384 r = S at hs ⊢
  obtain ⟨n1, l1, b1⟩ := S
  obtain ⟨l, b⟩ := r
  conv => whnf
  refine acall.au [2] [] (hs) ?_
  intro _
  conv => whnf
  exact aut

theorem k_rd32 (i : Ins) (r : Rd) : K 70 [.tr (tu 32), .ptr 0 6, .tr (.v (.pointer none)), .ptr 1 0] [insB i, bxB 2, r.blk] (.ret (.tup [])) [some (insB { i with to_ := (smallR 16384 r).1 }), some (bxB 2), some (smallR 16384 r).2.blk] := by
  refine Ctr.of hT hmix Tryd.func70 rfl (fun _ _ => by kernel_rfl) rfl fun hok => ?_
  clear hok
  have hs := k_smallR r 16384 (by decide)
  generalize smallR 16384 r = S at hs ⊢
  obtain ⟨n1, l1, b1⟩ := S
  obtain ⟨l, b⟩ := r
  conv => whnf
  refine acall.au [2] [] (hs) ?_
  intro _
  conv => whnf
  exact aut

set_option maxRecDepth 100000 in
set_option maxHeartbeats 2000000 in
theorem k_fieldsD0 (r : Rd) : K 33 [.ptr 0 0, .fn 70 [.ptr 1 0]] [insB ⟨0, 0, 0, 0, 0, 0, 0, 0, 0⟩, bxB 2, r.blk] (.ret (.tup [])) [some (insB (fieldsR ⟨0, 0, 0, 0, 0, 0, 0, 0, 0⟩ r).1), some (bxB 2), some (fieldsR ⟨0, 0, 0, 0, 0, 0, 0, 0, 0⟩ r).2.blk] := by
  refine Ctr.of hT hmix Tryd.func33 rfl (fun _ _ => by kernel_rfl) rfl fun hok => ?_
  clear hok
  have hf := k_forms 0
  have eF : fieldsR ⟨0, 0, 0, 0, 0, 0, 0, 0, 0⟩ r = (⟨0, 0, 0, 0, 0, 0, 0, 0, 0⟩, r) := by
    have e : fieldsR ⟨0, 0, 0, 0, 0, 0, 0, 0, 0⟩ r = stepsR [0, 0, 0, 0] ⟨0, 0, 0, 0, 0, 0, 0, 0, 0⟩ r := rfl
    rw [e]
    simp [stepsR, stepR, fldR]
  rw [eF]
  clear eF
  obtain ⟨l, b⟩ := r
  conv => whnf
  refine acall.pure _ (hf) rfl rfl fun _ => ?_
  conv => whnf
  refine LoopL.un 5 ?_
  conv => whnf
  refine ⟨by decide, by decide, rfl, by decide, fun a ha => ?_⟩
  cases ha
  conv => whnf
  have hu := k_used ⟨0, 0, 0, 0, 0, 0, 0, 0, 0⟩
  replace hu : K _ _ _ (.ret (.tup [.tr (tu 0), .tr (tb false)])) _ := hu
  refine acall.pure _ (hu) rfl rfl fun _ => ?_
  conv => whnf
  clear hu
  refine ⟨by decide, by decide, rfl, by decide, fun a ha => ?_⟩
  cases ha
  conv => whnf
  have hu := k_used ⟨0, 0, 0, 0, 0, 0, 0, 0, 0⟩
  replace hu : K _ _ _ (.ret (.tup [.tr (tu 0), .tr (tb false)])) _ := hu
  refine acall.pure _ (hu) rfl rfl fun _ => ?_
  conv => whnf
  clear hu
  refine ⟨by decide, by decide, rfl, by decide, fun a ha => ?_⟩
  cases ha
  conv => whnf
  have hu := k_used ⟨0, 0, 0, 0, 0, 0, 0, 0, 0⟩
  replace hu : K _ _ _ (.ret (.tup [.tr (tu 0), .tr (tb false)])) _ := hu
  refine acall.pure _ (hu) rfl rfl fun _ => ?_
  conv => whnf
  clear hu
  refine ⟨by decide, by decide, rfl, by decide, fun a ha => ?_⟩
  cases ha
  conv => whnf
  have hu := k_used ⟨0, 0, 0, 0, 0, 0, 0, 0, 0⟩
  replace hu : K _ _ _ (.ret (.tup [.tr (tu 0), .tr (tb false)])) _ := hu
  refine acall.pure _ (hu) rfl rfl fun _ => ?_
  conv => whnf
  clear hu
  refine ⟨fun _ => ?_, fun h => absurd rfl h⟩
  conv => whnf
  exact aut
set_option maxRecDepth 100000 in
set_option maxHeartbeats 2000000 in
theorem k_fieldsD1 (r : Rd) : K 33 [.ptr 0 0, .fn 70 [.ptr 1 0]] [insB ⟨1, 0, 0, 0, 0, 0, 0, 0, 0⟩, bxB 2, r.blk] (.ret (.tup [])) [some (insB (fieldsR ⟨1, 0, 0, 0, 0, 0, 0, 0, 0⟩ r).1), some (bxB 2), some (fieldsR ⟨1, 0, 0, 0, 0, 0, 0, 0, 0⟩ r).2.blk] := by
  refine Ctr.of hT hmix Tryd.func33 rfl (fun _ _ => by kernel_rfl) rfl fun hok => ?_
  clear hok
  have hf := k_forms 1
  obtain ⟨⟨n1, r1⟩, hs1⟩ : ∃ p, smallR 16384 r = p := ⟨_, rfl⟩
  have c1 := k_rd2 ⟨1, 0, 0, 0, 0, 0, 0, 0, 0⟩ r
  rw [hs1] at c1
  obtain ⟨⟨n2, r2⟩, hs2⟩ : ∃ p, wordR r1 = p := ⟨_, rfl⟩
  have c2 := k_rdW ⟨1, 0, n1, 0, 0, 0, 0, 0, 0⟩ r1
  rw [hs2] at c2
  have eF : fieldsR ⟨1, 0, 0, 0, 0, 0, 0, 0, 0⟩ r = (⟨1, 0, n1, 0, 0, 0, 0, n2, 0⟩, r2) := by
    have e : fieldsR ⟨1, 0, 0, 0, 0, 0, 0, 0, 0⟩ r = stepsR [2, 64, 0, 0] ⟨1, 0, 0, 0, 0, 0, 0, 0, 0⟩ r := rfl
    rw [e]
    simp [stepsR, stepR, fldR, hs1, hs2]
  rw [eF]
  clear eF
  clear hs1
  clear hs2
  obtain ⟨l, b⟩ := r
  obtain ⟨l1, b1⟩ := r1
  obtain ⟨l2, b2⟩ := r2
  conv => whnf
  refine acall.pure _ (hf) rfl rfl fun _ => ?_
  conv => whnf
  refine LoopL.un 5 ?_
  conv => whnf
  refine ⟨by decide, by decide, rfl, by decide, fun a ha => ?_⟩
  cases ha
  conv => whnf
  have hu := k_used ⟨1, 0, 0, 0, 0, 0, 0, 0, 0⟩
  replace hu : K _ _ _ (.ret (.tup [.tr (tu 66), .tr (tb true)])) _ := hu
  refine acall.pure _ (hu) rfl rfl fun _ => ?_
  conv => whnf
  clear hu
  refine acall.gen [0, 1, 2] [] _ _ _ _ c1 rfl rfl rfl rfl aut aut rfl rfl fun _ => ?_
  conv => whnf
  refine ⟨by decide, by decide, rfl, by decide, fun a ha => ?_⟩
  cases ha
  conv => whnf
  have hu := k_used ⟨1, 0, n1, 0, 0, 0, 0, 0, 0⟩
  replace hu : K _ _ _ (.ret (.tup [.tr (tu 66), .tr (tb true)])) _ := hu
  refine acall.pure _ (hu) rfl rfl fun _ => ?_
  conv => whnf
  clear hu
  refine acall.gen [0, 1, 2] [] _ _ _ _ c2 rfl rfl rfl rfl aut aut rfl rfl fun _ => ?_
  conv => whnf
  refine ⟨by decide, by decide, rfl, by decide, fun a ha => ?_⟩
  cases ha
  conv => whnf
  have hu := k_used ⟨1, 0, n1, 0, 0, 0, 0, n2, 0⟩
  replace hu : K _ _ _ (.ret (.tup [.tr (tu 66), .tr (tb true)])) _ := hu
  refine acall.pure _ (hu) rfl rfl fun _ => ?_
  conv => whnf
  clear hu
  refine ⟨by decide, by decide, rfl, by decide, fun a ha => ?_⟩
  cases ha
  conv => whnf
  have hu := k_used ⟨1, 0, n1, 0, 0, 0, 0, n2, 0⟩
  replace hu : K _ _ _ (.ret (.tup [.tr (tu 66), .tr (tb true)])) _ := hu
  refine acall.pure _ (hu) rfl rfl fun _ => ?_
  conv => whnf
  clear hu
  refine ⟨fun _ => ?_, fun h => absurd rfl h⟩
  conv => whnf
  exact aut
set_option maxRecDepth 100000 in
set_option maxHeartbeats 2000000 in
theorem k_fieldsD3 (r : Rd) : K 33 [.ptr 0 0, .fn 70 [.ptr 1 0]] [insB ⟨3, 0, 0, 0, 0, 0, 0, 0, 0⟩, bxB 2, r.blk] (.ret (.tup [])) [some (insB (fieldsR ⟨3, 0, 0, 0, 0, 0, 0, 0, 0⟩ r).1), some (bxB 2), some (fieldsR ⟨3, 0, 0, 0, 0, 0, 0, 0, 0⟩ r).2.blk] := by
  refine Ctr.of hT hmix Tryd.func33 rfl (fun _ _ => by kernel_rfl) rfl fun hok => ?_
  clear hok
  have hf := k_forms 3
  obtain ⟨⟨n1, r1⟩, hs1⟩ : ∃ p, smallR 16384 r = p := ⟨_, rfl⟩
  have c1 := k_rd2 ⟨3, 0, 0, 0, 0, 0, 0, 0, 0⟩ r
  rw [hs1] at c1
  obtain ⟨⟨n2, r2⟩, hs2⟩ : ∃ p, smallR 16384 r1 = p := ⟨_, rfl⟩
  have c2 := k_rd16 ⟨3, 0, n1, 0, 0, 0, 0, 0, 0⟩ r1
  rw [hs2] at c2
  have eF : fieldsR ⟨3, 0, 0, 0, 0, 0, 0, 0, 0⟩ r = (⟨3, 0, n1, 0, 0, n2, 0, 0, 0⟩, r2) := by
    have e : fieldsR ⟨3, 0, 0, 0, 0, 0, 0, 0, 0⟩ r = stepsR [2, 16, 0, 0] ⟨3, 0, 0, 0, 0, 0, 0, 0, 0⟩ r := rfl
    rw [e]
    simp [stepsR, stepR, fldR, hs1, hs2]
  rw [eF]
  clear eF
  clear hs1
  clear hs2
  obtain ⟨l, b⟩ := r
  obtain ⟨l1, b1⟩ := r1
  obtain ⟨l2, b2⟩ := r2
  conv => whnf
  refine acall.pure _ (hf) rfl rfl fun _ => ?_
  conv => whnf
  refine LoopL.un 5 ?_
  conv => whnf
  refine ⟨by decide, by decide, rfl, by decide, fun a ha => ?_⟩
  cases ha
  conv => whnf
  have hu := k_used ⟨3, 0, 0, 0, 0, 0, 0, 0, 0⟩
  replace hu : K _ _ _ (.ret (.tup [.tr (tu 18), .tr (tb true)])) _ := hu
  refine acall.pure _ (hu) rfl rfl fun _ => ?_
  conv => whnf
  clear hu
  refine acall.gen [0, 1, 2] [] _ _ _ _ c1 rfl rfl rfl rfl aut aut rfl rfl fun _ => ?_
  conv => whnf
  refine ⟨by decide, by decide, rfl, by decide, fun a ha => ?_⟩
  cases ha
  conv => whnf
  have hu := k_used ⟨3, 0, n1, 0, 0, 0, 0, 0, 0⟩
  replace hu : K _ _ _ (.ret (.tup [.tr (tu 18), .tr (tb true)])) _ := hu
  refine acall.pure _ (hu) rfl rfl fun _ => ?_
  conv => whnf
  clear hu
  refine acall.gen [0, 1, 2] [] _ _ _ _ c2 rfl rfl rfl rfl aut aut rfl rfl fun _ => ?_
  conv => whnf
  refine ⟨by decide, by decide, rfl, by decide, fun a ha => ?_⟩
  cases ha
  conv => whnf
  have hu := k_used ⟨3, 0, n1, 0, 0, n2, 0, 0, 0⟩
  replace hu : K _ _ _ (.ret (.tup [.tr (tu 18), .tr (tb true)])) _ := hu
  refine acall.pure _ (hu) rfl rfl fun _ => ?_
  conv => whnf
  clear hu
  refine ⟨by decide, by decide, rfl, by decide, fun a ha => ?_⟩
  cases ha
  conv => whnf
  have hu := k_used ⟨3, 0, n1, 0, 0, n2, 0, 0, 0⟩
  replace hu : K _ _ _ (.ret (.tup [.tr (tu 18), .tr (tb true)])) _ := hu
  refine acall.pure _ (hu) rfl rfl fun _ => ?_
  conv => whnf
  clear hu
  refine ⟨fun _ => ?_, fun h => absurd rfl h⟩
  conv => whnf
  exact aut
set_option maxRecDepth 100000 in
set_option maxHeartbeats 2000000 in
theorem k_fieldsD4 (r : Rd) : K 33 [.ptr 0 0, .fn 70 [.ptr 1 0]] [insB ⟨4, 0, 0, 0, 0, 0, 0, 0, 0⟩, bxB 2, r.blk] (.ret (.tup [])) [some (insB (fieldsR ⟨4, 0, 0, 0, 0, 0, 0, 0, 0⟩ r).1), some (bxB 2), some (fieldsR ⟨4, 0, 0, 0, 0, 0, 0, 0, 0⟩ r).2.blk] := by
  refine Ctr.of hT hmix Tryd.func33 rfl (fun _ _ => by kernel_rfl) rfl fun hok => ?_
  clear hok
  have hf := k_forms 4
  obtain ⟨⟨n1, r1⟩, hs1⟩ : ∃ p, smallR 16384 r = p := ⟨_, rfl⟩
  have c1 := k_rd4 ⟨4, 0, 0, 0, 0, 0, 0, 0, 0⟩ r
  rw [hs1] at c1
  obtain ⟨⟨n2, r2⟩, hs2⟩ : ∃ p, smallR 16384 r1 = p := ⟨_, rfl⟩
  have c2 := k_rd16 ⟨4, 0, 0, n1, 0, 0, 0, 0, 0⟩ r1
  rw [hs2] at c2
  have eF : fieldsR ⟨4, 0, 0, 0, 0, 0, 0, 0, 0⟩ r = (⟨4, 0, 0, n1, 0, n2, 0, 0, 0⟩, r2) := by
    have e : fieldsR ⟨4, 0, 0, 0, 0, 0, 0, 0, 0⟩ r = stepsR [4, 16, 0, 0] ⟨4, 0, 0, 0, 0, 0, 0, 0, 0⟩ r := rfl
    rw [e]
    simp [stepsR, stepR, fldR, hs1, hs2]
  rw [eF]
  clear eF
  clear hs1
  clear hs2
  obtain ⟨l, b⟩ := r
  obtain ⟨l1, b1⟩ := r1
  obtain ⟨l2, b2⟩ := r2
  conv => whnf
  refine acall.pure _ (hf) rfl rfl fun _ => ?_
  conv => whnf
  refine LoopL.un 5 ?_
  conv => whnf
  refine ⟨by decide, by decide, rfl, by decide, fun a ha => ?_⟩
  cases ha
  conv => whnf
  have hu := k_used ⟨4, 0, 0, 0, 0, 0, 0, 0, 0⟩
  replace hu : K _ _ _ (.ret (.tup [.tr (tu 20), .tr (tb true)])) _ := hu
  refine acall.pure _ (hu) rfl rfl fun _ => ?_
  conv => whnf
  clear hu
  refine acall.gen [0, 1, 2] [] _ _ _ _ c1 rfl rfl rfl rfl aut aut rfl rfl fun _ => ?_
  conv => whnf
  refine ⟨by decide, by decide, rfl, by decide, fun a ha => ?_⟩
  cases ha
  conv => whnf
  have hu := k_used ⟨4, 0, 0, n1, 0, 0, 0, 0, 0⟩
  replace hu : K _ _ _ (.ret (.tup [.tr (tu 20), .tr (tb true)])) _ := hu
  refine acall.pure _ (hu) rfl rfl fun _ => ?_
  conv => whnf
  clear hu
  refine acall.gen [0, 1, 2] [] _ _ _ _ c2 rfl rfl rfl rfl aut aut rfl rfl fun _ => ?_
  conv => whnf
  refine ⟨by decide, by decide, rfl, by decide, fun a ha => ?_⟩
  cases ha
  conv => whnf
  have hu := k_used ⟨4, 0, 0, n1, 0, n2, 0, 0, 0⟩
  replace hu : K _ _ _ (.ret (.tup [.tr (tu 20), .tr (tb true)])) _ := hu
  refine acall.pure _ (hu) rfl rfl fun _ => ?_
  conv => whnf
  clear hu
  refine ⟨by decide, by decide, rfl, by decide, fun a ha => ?_⟩
  cases ha
  conv => whnf
  have hu := k_used ⟨4, 0, 0, n1, 0, n2, 0, 0, 0⟩
  replace hu : K _ _ _ (.ret (.tup [.tr (tu 20), .tr (tb true)])) _ := hu
  refine acall.pure _ (hu) rfl rfl fun _ => ?_
  conv => whnf
  clear hu
  refine ⟨fun _ => ?_, fun h => absurd rfl h⟩
  conv => whnf
  exact aut
set_option maxRecDepth 100000 in
set_option maxHeartbeats 2000000 in
theorem k_fieldsD5 (r : Rd) : K 33 [.ptr 0 0, .fn 70 [.ptr 1 0]] [insB ⟨5, 0, 0, 0, 0, 0, 0, 0, 0⟩, bxB 2, r.blk] (.ret (.tup [])) [some (insB (fieldsR ⟨5, 0, 0, 0, 0, 0, 0, 0, 0⟩ r).1), some (bxB 2), some (fieldsR ⟨5, 0, 0, 0, 0, 0, 0, 0, 0⟩ r).2.blk] := by
  refine Ctr.of hT hmix Tryd.func33 rfl (fun _ _ => by kernel_rfl) rfl fun hok => ?_
  clear hok
  have hf := k_forms 5
  obtain ⟨⟨n1, r1⟩, hs1⟩ : ∃ p, smallR 16384 r = p := ⟨_, rfl⟩
  have c1 := k_rd2 ⟨5, 0, 0, 0, 0, 0, 0, 0, 0⟩ r
  rw [hs1] at c1
  obtain ⟨⟨n2, r2⟩, hs2⟩ : ∃ p, smallR 16384 r1 = p := ⟨_, rfl⟩
  have c2 := k_rd16 ⟨5, 0, n1, 0, 0, 0, 0, 0, 0⟩ r1
  rw [hs2] at c2
  have eF : fieldsR ⟨5, 0, 0, 0, 0, 0, 0, 0, 0⟩ r = (⟨5, 0, n1, 0, 0, n2, 0, 0, 0⟩, r2) := by
    have e : fieldsR ⟨5, 0, 0, 0, 0, 0, 0, 0, 0⟩ r = stepsR [2, 16, 0, 0] ⟨5, 0, 0, 0, 0, 0, 0, 0, 0⟩ r := rfl
    rw [e]
    simp [stepsR, stepR, fldR, hs1, hs2]
  rw [eF]
  clear eF
  clear hs1
  clear hs2
  obtain ⟨l, b⟩ := r
  obtain ⟨l1, b1⟩ := r1
  obtain ⟨l2, b2⟩ := r2
  conv => whnf
  refine acall.pure _ (hf) rfl rfl fun _ => ?_
  conv => whnf
  refine LoopL.un 5 ?_
  conv => whnf
  refine ⟨by decide, by decide, rfl, by decide, fun a ha => ?_⟩
  cases ha
  conv => whnf
  have hu := k_used ⟨5, 0, 0, 0, 0, 0, 0, 0, 0⟩
  replace hu : K _ _ _ (.ret (.tup [.tr (tu 18), .tr (tb true)])) _ := hu
  refine acall.pure _ (hu) rfl rfl fun _ => ?_
  conv => whnf
  clear hu
  refine acall.gen [0, 1, 2] [] _ _ _ _ c1 rfl rfl rfl rfl aut aut rfl rfl fun _ => ?_
  conv => whnf
  refine ⟨by decide, by decide, rfl, by decide, fun a ha => ?_⟩
  cases ha
  conv => whnf
  have hu := k_used ⟨5, 0, n1, 0, 0, 0, 0, 0, 0⟩
  replace hu : K _ _ _ (.ret (.tup [.tr (tu 18), .tr (tb true)])) _ := hu
  refine acall.pure _ (hu) rfl rfl fun _ => ?_
  conv => whnf
  clear hu
  refine acall.gen [0, 1, 2] [] _ _ _ _ c2 rfl rfl rfl rfl aut aut rfl rfl fun _ => ?_
  conv => whnf
  refine ⟨by decide, by decide, rfl, by decide, fun a ha => ?_⟩
  cases ha
  conv => whnf
  have hu := k_used ⟨5, 0, n1, 0, 0, n2, 0, 0, 0⟩
  replace hu : K _ _ _ (.ret (.tup [.tr (tu 18), .tr (tb true)])) _ := hu
  refine acall.pure _ (hu) rfl rfl fun _ => ?_
  conv => whnf
  clear hu
  refine ⟨by decide, by decide, rfl, by decide, fun a ha => ?_⟩
  cases ha
  conv => whnf
  have hu := k_used ⟨5, 0, n1, 0, 0, n2, 0, 0, 0⟩
  replace hu : K _ _ _ (.ret (.tup [.tr (tu 18), .tr (tb true)])) _ := hu
  refine acall.pure _ (hu) rfl rfl fun _ => ?_
  conv => whnf
  clear hu
  refine ⟨fun _ => ?_, fun h => absurd rfl h⟩
  conv => whnf
  exact aut
set_option maxRecDepth 100000 in
set_option maxHeartbeats 2000000 in
theorem k_fieldsD6 (r : Rd) : K 33 [.ptr 0 0, .fn 70 [.ptr 1 0]] [insB ⟨6, 0, 0, 0, 0, 0, 0, 0, 0⟩, bxB 2, r.blk] (.ret (.tup [])) [some (insB (fieldsR ⟨6, 0, 0, 0, 0, 0, 0, 0, 0⟩ r).1), some (bxB 2), some (fieldsR ⟨6, 0, 0, 0, 0, 0, 0, 0, 0⟩ r).2.blk] := by
  refine Ctr.of hT hmix Tryd.func33 rfl (fun _ _ => by kernel_rfl) rfl fun hok => ?_
  clear hok
  have hf := k_forms 6
  have eF : fieldsR ⟨6, 0, 0, 0, 0, 0, 0, 0, 0⟩ r = (⟨6, 0, 0, 0, 0, 0, 0, 0, 0⟩, r) := by
    have e : fieldsR ⟨6, 0, 0, 0, 0, 0, 0, 0, 0⟩ r = stepsR [0, 0, 0, 0] ⟨6, 0, 0, 0, 0, 0, 0, 0, 0⟩ r := rfl
    rw [e]
    simp [stepsR, stepR, fldR]
  rw [eF]
  clear eF
  obtain ⟨l, b⟩ := r
  conv => whnf
  refine acall.pure _ (hf) rfl rfl fun _ => ?_
  conv => whnf
  refine LoopL.un 5 ?_
  conv => whnf
  refine ⟨by decide, by decide, rfl, by decide, fun a ha => ?_⟩
  cases ha
  conv => whnf
  have hu := k_used ⟨6, 0, 0, 0, 0, 0, 0, 0, 0⟩
  replace hu : K _ _ _ (.ret (.tup [.tr (tu 0), .tr (tb true)])) _ := hu
  refine acall.pure _ (hu) rfl rfl fun _ => ?_
  conv => whnf
  clear hu
  refine ⟨by decide, by decide, rfl, by decide, fun a ha => ?_⟩
  cases ha
  conv => whnf
  have hu := k_used ⟨6, 0, 0, 0, 0, 0, 0, 0, 0⟩
  replace hu : K _ _ _ (.ret (.tup [.tr (tu 0), .tr (tb true)])) _ := hu
  refine acall.pure _ (hu) rfl rfl fun _ => ?_
  conv => whnf
  clear hu
  refine ⟨by decide, by decide, rfl, by decide, fun a ha => ?_⟩
  cases ha
  conv => whnf
  have hu := k_used ⟨6, 0, 0, 0, 0, 0, 0, 0, 0⟩
  replace hu : K _ _ _ (.ret (.tup [.tr (tu 0), .tr (tb true)])) _ := hu
  refine acall.pure _ (hu) rfl rfl fun _ => ?_
  conv => whnf
  clear hu
  refine ⟨by decide, by decide, rfl, by decide, fun a ha => ?_⟩
  cases ha
  conv => whnf
  have hu := k_used ⟨6, 0, 0, 0, 0, 0, 0, 0, 0⟩
  replace hu : K _ _ _ (.ret (.tup [.tr (tu 0), .tr (tb true)])) _ := hu
  refine acall.pure _ (hu) rfl rfl fun _ => ?_
  conv => whnf
  clear hu
  refine ⟨fun _ => ?_, fun h => absurd rfl h⟩
  conv => whnf
  exact aut
set_option maxRecDepth 100000 in
set_option maxHeartbeats 2000000 in
theorem k_fieldsD7 (r : Rd) : K 33 [.ptr 0 0, .fn 70 [.ptr 1 0]] [insB ⟨7, 0, 0, 0, 0, 0, 0, 0, 0⟩, bxB 2, r.blk] (.ret (.tup [])) [some (insB (fieldsR ⟨7, 0, 0, 0, 0, 0, 0, 0, 0⟩ r).1), some (bxB 2), some (fieldsR ⟨7, 0, 0, 0, 0, 0, 0, 0, 0⟩ r).2.blk] := by
  refine Ctr.of hT hmix Tryd.func33 rfl (fun _ _ => by kernel_rfl) rfl fun hok => ?_
  clear hok
  have hf := k_forms 7
  obtain ⟨⟨n1, r1⟩, hs1⟩ : ∃ p, smallR 16384 r = p := ⟨_, rfl⟩
  have c1 := k_rd4 ⟨7, 0, 0, 0, 0, 0, 0, 0, 0⟩ r
  rw [hs1] at c1
  have eF : fieldsR ⟨7, 0, 0, 0, 0, 0, 0, 0, 0⟩ r = (⟨7, 0, 0, n1, 0, 0, 0, 0, 0⟩, r1) := by
    have e : fieldsR ⟨7, 0, 0, 0, 0, 0, 0, 0, 0⟩ r = stepsR [4, 0, 0, 0] ⟨7, 0, 0, 0, 0, 0, 0, 0, 0⟩ r := rfl
    rw [e]
    simp [stepsR, stepR, fldR, hs1]
  rw [eF]
  clear eF
  clear hs1
  obtain ⟨l, b⟩ := r
  obtain ⟨l1, b1⟩ := r1
  conv => whnf
  refine acall.pure _ (hf) rfl rfl fun _ => ?_
  conv => whnf
  refine LoopL.un 5 ?_
  conv => whnf
  refine ⟨by decide, by decide, rfl, by decide, fun a ha => ?_⟩
  cases ha
  conv => whnf
  have hu := k_used ⟨7, 0, 0, 0, 0, 0, 0, 0, 0⟩
  replace hu : K _ _ _ (.ret (.tup [.tr (tu 4), .tr (tb true)])) _ := hu
  refine acall.pure _ (hu) rfl rfl fun _ => ?_
  conv => whnf
  clear hu
  refine acall.gen [0, 1, 2] [] _ _ _ _ c1 rfl rfl rfl rfl aut aut rfl rfl fun _ => ?_
  conv => whnf
  refine ⟨by decide, by decide, rfl, by decide, fun a ha => ?_⟩
  cases ha
  conv => whnf
  have hu := k_used ⟨7, 0, 0, n1, 0, 0, 0, 0, 0⟩
  replace hu : K _ _ _ (.ret (.tup [.tr (tu 4), .tr (tb true)])) _ := hu
  refine acall.pure _ (hu) rfl rfl fun _ => ?_
  conv => whnf
  clear hu
  refine ⟨by decide, by decide, rfl, by decide, fun a ha => ?_⟩
  cases ha
  conv => whnf
  have hu := k_used ⟨7, 0, 0, n1, 0, 0, 0, 0, 0⟩
  replace hu : K _ _ _ (.ret (.tup [.tr (tu 4), .tr (tb true)])) _ := hu
  refine acall.pure _ (hu) rfl rfl fun _ => ?_
  conv => whnf
  clear hu
  refine ⟨by decide, by decide, rfl, by decide, fun a ha => ?_⟩
  cases ha
  conv => whnf
  have hu := k_used ⟨7, 0, 0, n1, 0, 0, 0, 0, 0⟩
  replace hu : K _ _ _ (.ret (.tup [.tr (tu 4), .tr (tb true)])) _ := hu
  refine acall.pure _ (hu) rfl rfl fun _ => ?_
  conv => whnf
  clear hu
  refine ⟨fun _ => ?_, fun h => absurd rfl h⟩
  conv => whnf
  exact aut
set_option maxRecDepth 100000 in
set_option maxHeartbeats 2000000 in
theorem k_fieldsD8 (r : Rd) : K 33 [.ptr 0 0, .fn 70 [.ptr 1 0]] [insB ⟨8, 0, 0, 0, 0, 0, 0, 0, 0⟩, bxB 2, r.blk] (.ret (.tup [])) [some (insB (fieldsR ⟨8, 0, 0, 0, 0, 0, 0, 0, 0⟩ r).1), some (bxB 2), some (fieldsR ⟨8, 0, 0, 0, 0, 0, 0, 0, 0⟩ r).2.blk] := by
  refine Ctr.of hT hmix Tryd.func33 rfl (fun _ _ => by kernel_rfl) rfl fun hok => ?_
  clear hok
  have hf := k_forms 8
  obtain ⟨⟨n1, r1⟩, hs1⟩ : ∃ p, smallR 16384 r = p := ⟨_, rfl⟩
  have c1 := k_rd32 ⟨8, 0, 0, 0, 0, 0, 0, 0, 0⟩ r
  rw [hs1] at c1
  have eF : fieldsR ⟨8, 0, 0, 0, 0, 0, 0, 0, 0⟩ r = (⟨8, 0, 0, 0, 0, 0, n1, 0, 0⟩, r1) := by
    have e : fieldsR ⟨8, 0, 0, 0, 0, 0, 0, 0, 0⟩ r = stepsR [32, 0, 0, 0] ⟨8, 0, 0, 0, 0, 0, 0, 0, 0⟩ r := rfl
    rw [e]
    simp [stepsR, stepR, fldR, hs1]
  rw [eF]
  clear eF
  clear hs1
  obtain ⟨l, b⟩ := r
  obtain ⟨l1, b1⟩ := r1
  conv => whnf
  refine acall.pure _ (hf) rfl rfl fun _ => ?_
  conv => whnf
  refine LoopL.un 5 ?_
  conv => whnf
  refine ⟨by decide, by decide, rfl, by decide, fun a ha => ?_⟩
  cases ha
  conv => whnf
  have hu := k_used ⟨8, 0, 0, 0, 0, 0, 0, 0, 0⟩
  replace hu : K _ _ _ (.ret (.tup [.tr (tu 32), .tr (tb true)])) _ := hu
  refine acall.pure _ (hu) rfl rfl fun _ => ?_
  conv => whnf
  clear hu
  refine acall.gen [0, 1, 2] [] _ _ _ _ c1 rfl rfl rfl rfl aut aut rfl rfl fun _ => ?_
  conv => whnf
  refine ⟨by decide, by decide, rfl, by decide, fun a ha => ?_⟩
  cases ha
  conv => whnf
  have hu := k_used ⟨8, 0, 0, 0, 0, 0, n1, 0, 0⟩
  replace hu : K _ _ _ (.ret (.tup [.tr (tu 32), .tr (tb true)])) _ := hu
  refine acall.pure _ (hu) rfl rfl fun _ => ?_
  conv => whnf
  clear hu
  refine ⟨by decide, by decide, rfl, by decide, fun a ha => ?_⟩
  cases ha
  conv => whnf
  have hu := k_used ⟨8, 0, 0, 0, 0, 0, n1, 0, 0⟩
  replace hu : K _ _ _ (.ret (.tup [.tr (tu 32), .tr (tb true)])) _ := hu
  refine acall.pure _ (hu) rfl rfl fun _ => ?_
  conv => whnf
  clear hu
  refine ⟨by decide, by decide, rfl, by decide, fun a ha => ?_⟩
  cases ha
  conv => whnf
  have hu := k_used ⟨8, 0, 0, 0, 0, 0, n1, 0, 0⟩
  replace hu : K _ _ _ (.ret (.tup [.tr (tu 32), .tr (tb true)])) _ := hu
  refine acall.pure _ (hu) rfl rfl fun _ => ?_
  conv => whnf
  clear hu
  refine ⟨fun _ => ?_, fun h => absurd rfl h⟩
  conv => whnf
  exact aut
set_option maxRecDepth 100000 in
set_option maxHeartbeats 2000000 in
theorem k_fieldsD9 (r : Rd) : K 33 [.ptr 0 0, .fn 70 [.ptr 1 0]] [insB ⟨9, 0, 0, 0, 0, 0, 0, 0, 0⟩, bxB 2, r.blk] (.ret (.tup [])) [some (insB (fieldsR ⟨9, 0, 0, 0, 0, 0, 0, 0, 0⟩ r).1), some (bxB 2), some (fieldsR ⟨9, 0, 0, 0, 0, 0, 0, 0, 0⟩ r).2.blk] := by
  refine Ctr.of hT hmix Tryd.func33 rfl (fun _ _ => by kernel_rfl) rfl fun hok => ?_
  clear hok
  have hf := k_forms 9
  obtain ⟨⟨n1, r1⟩, hs1⟩ : ∃ p, smallR 16384 r = p := ⟨_, rfl⟩
  have c1 := k_rd4 ⟨9, 0, 0, 0, 0, 0, 0, 0, 0⟩ r
  rw [hs1] at c1
  obtain ⟨⟨n2, r2⟩, hs2⟩ : ∃ p, smallR 16384 r1 = p := ⟨_, rfl⟩
  have c2 := k_rd32 ⟨9, 0, 0, n1, 0, 0, 0, 0, 0⟩ r1
  rw [hs2] at c2
  have eF : fieldsR ⟨9, 0, 0, 0, 0, 0, 0, 0, 0⟩ r = (⟨9, 0, 0, n1, 0, 0, n2, 0, 0⟩, r2) := by
    have e : fieldsR ⟨9, 0, 0, 0, 0, 0, 0, 0, 0⟩ r = stepsR [4, 32, 0, 0] ⟨9, 0, 0, 0, 0, 0, 0, 0, 0⟩ r := rfl
    rw [e]
    simp [stepsR, stepR, fldR, hs1, hs2]
  rw [eF]
  clear eF
  clear hs1
  clear hs2
  obtain ⟨l, b⟩ := r
  obtain ⟨l1, b1⟩ := r1
  obtain ⟨l2, b2⟩ := r2
  conv => whnf
  refine acall.pure _ (hf) rfl rfl fun _ => ?_
  conv => whnf
  refine LoopL.un 5 ?_
  conv => whnf
  refine ⟨by decide, by decide, rfl, by decide, fun a ha => ?_⟩
  cases ha
  conv => whnf
  have hu := k_used ⟨9, 0, 0, 0, 0, 0, 0, 0, 0⟩
  replace hu : K _ _ _ (.ret (.tup [.tr (tu 36), .tr (tb true)])) _ := hu
  refine acall.pure _ (hu) rfl rfl fun _ => ?_
  conv => whnf
  clear hu
  refine acall.gen [0, 1, 2] [] _ _ _ _ c1 rfl rfl rfl rfl aut aut rfl rfl fun _ => ?_
  conv => whnf
  refine ⟨by decide, by decide, rfl, by decide, fun a ha => ?_⟩
  cases ha
  conv => whnf
  have hu := k_used ⟨9, 0, 0, n1, 0, 0, 0, 0, 0⟩
  replace hu : K _ _ _ (.ret (.tup [.tr (tu 36), .tr (tb true)])) _ := hu
  refine acall.pure _ (hu) rfl rfl fun _ => ?_
  conv => whnf
  clear hu
  refine acall.gen [0, 1, 2] [] _ _ _ _ c2 rfl rfl rfl rfl aut aut rfl rfl fun _ => ?_
  conv => whnf
  refine ⟨by decide, by decide, rfl, by decide, fun a ha => ?_⟩
  cases ha
  conv => whnf
  have hu := k_used ⟨9, 0, 0, n1, 0, 0, n2, 0, 0⟩
  replace hu : K _ _ _ (.ret (.tup [.tr (tu 36), .tr (tb true)])) _ := hu
  refine acall.pure _ (hu) rfl rfl fun _ => ?_
  conv => whnf
  clear hu
  refine ⟨by decide, by decide, rfl, by decide, fun a ha => ?_⟩
  cases ha
  conv => whnf
  have hu := k_used ⟨9, 0, 0, n1, 0, 0, n2, 0, 0⟩
  replace hu : K _ _ _ (.ret (.tup [.tr (tu 36), .tr (tb true)])) _ := hu
  refine acall.pure _ (hu) rfl rfl fun _ => ?_
  conv => whnf
  clear hu
  refine ⟨fun _ => ?_, fun h => absurd rfl h⟩
  conv => whnf
  exact aut
set_option maxRecDepth 100000 in
set_option maxHeartbeats 2000000 in
theorem k_fieldsD10 (r : Rd) : K 33 [.ptr 0 0, .fn 70 [.ptr 1 0]] [insB ⟨10, 0, 0, 0, 0, 0, 0, 0, 0⟩, bxB 2, r.blk] (.ret (.tup [])) [some (insB (fieldsR ⟨10, 0, 0, 0, 0, 0, 0, 0, 0⟩ r).1), some (bxB 2), some (fieldsR ⟨10, 0, 0, 0, 0, 0, 0, 0, 0⟩ r).2.blk] := by
  refine Ctr.of hT hmix Tryd.func33 rfl (fun _ _ => by kernel_rfl) rfl fun hok => ?_
  clear hok
  have hf := k_forms 10
  have eF : fieldsR ⟨10, 0, 0, 0, 0, 0, 0, 0, 0⟩ r = (⟨10, 0, 0, 0, 0, 0, 0, 0, 0⟩, r) := by
    have e : fieldsR ⟨10, 0, 0, 0, 0, 0, 0, 0, 0⟩ r = stepsR [0, 0, 0, 0] ⟨10, 0, 0, 0, 0, 0, 0, 0, 0⟩ r := rfl
    rw [e]
    simp [stepsR, stepR, fldR]
  rw [eF]
  clear eF
  obtain ⟨l, b⟩ := r
  conv => whnf
  refine acall.pure _ (hf) rfl rfl fun _ => ?_
  conv => whnf
  refine LoopL.un 5 ?_
  conv => whnf
  refine ⟨by decide, by decide, rfl, by decide, fun a ha => ?_⟩
  cases ha
  conv => whnf
  have hu := k_used ⟨10, 0, 0, 0, 0, 0, 0, 0, 0⟩
  replace hu : K _ _ _ (.ret (.tup [.tr (tu 0), .tr (tb true)])) _ := hu
  refine acall.pure _ (hu) rfl rfl fun _ => ?_
  conv => whnf
  clear hu
  refine ⟨by decide, by decide, rfl, by decide, fun a ha => ?_⟩
  cases ha
  conv => whnf
  have hu := k_used ⟨10, 0, 0, 0, 0, 0, 0, 0, 0⟩
  replace hu : K _ _ _ (.ret (.tup [.tr (tu 0), .tr (tb true)])) _ := hu
  refine acall.pure _ (hu) rfl rfl fun _ => ?_
  conv => whnf
  clear hu
  refine ⟨by decide, by decide, rfl, by decide, fun a ha => ?_⟩
  cases ha
  conv => whnf
  have hu := k_used ⟨10, 0, 0, 0, 0, 0, 0, 0, 0⟩
  replace hu : K _ _ _ (.ret (.tup [.tr (tu 0), .tr (tb true)])) _ := hu
  refine acall.pure _ (hu) rfl rfl fun _ => ?_
  conv => whnf
  clear hu
  refine ⟨by decide, by decide, rfl, by decide, fun a ha => ?_⟩
  cases ha
  conv => whnf
  have hu := k_used ⟨10, 0, 0, 0, 0, 0, 0, 0, 0⟩
  replace hu : K _ _ _ (.ret (.tup [.tr (tu 0), .tr (tb true)])) _ := hu
  refine acall.pure _ (hu) rfl rfl fun _ => ?_
  conv => whnf
  clear hu
  refine ⟨fun _ => ?_, fun h => absurd rfl h⟩
  conv => whnf
  exact aut
set_option maxRecDepth 100000 in
set_option maxHeartbeats 2000000 in
theorem k_fieldsD11 (r : Rd) : K 33 [.ptr 0 0, .fn 70 [.ptr 1 0]] [insB ⟨11, 0, 0, 0, 0, 0, 0, 0, 0⟩, bxB 2, r.blk] (.ret (.tup [])) [some (insB (fieldsR ⟨11, 0, 0, 0, 0, 0, 0, 0, 0⟩ r).1), some (bxB 2), some (fieldsR ⟨11, 0, 0, 0, 0, 0, 0, 0, 0⟩ r).2.blk] := by
  refine Ctr.of hT hmix Tryd.func33 rfl (fun _ _ => by kernel_rfl) rfl fun hok => ?_
  clear hok
  have hf := k_forms 11
  have eF : fieldsR ⟨11, 0, 0, 0, 0, 0, 0, 0, 0⟩ r = (⟨11, 0, 0, 0, 0, 0, 0, 0, 0⟩, r) := by
    have e : fieldsR ⟨11, 0, 0, 0, 0, 0, 0, 0, 0⟩ r = stepsR [0, 0, 0, 0] ⟨11, 0, 0, 0, 0, 0, 0, 0, 0⟩ r := rfl
    rw [e]
    simp [stepsR, stepR, fldR]
  rw [eF]
  clear eF
  obtain ⟨l, b⟩ := r
  conv => whnf
  refine acall.pure _ (hf) rfl rfl fun _ => ?_
  conv => whnf
  refine LoopL.un 5 ?_
  conv => whnf
  refine ⟨by decide, by decide, rfl, by decide, fun a ha => ?_⟩
  cases ha
  conv => whnf
  have hu := k_used ⟨11, 0, 0, 0, 0, 0, 0, 0, 0⟩
  replace hu : K _ _ _ (.ret (.tup [.tr (tu 0), .tr (tb false)])) _ := hu
  refine acall.pure _ (hu) rfl rfl fun _ => ?_
  conv => whnf
  clear hu
  refine ⟨by decide, by decide, rfl, by decide, fun a ha => ?_⟩
  cases ha
  conv => whnf
  have hu := k_used ⟨11, 0, 0, 0, 0, 0, 0, 0, 0⟩
  replace hu : K _ _ _ (.ret (.tup [.tr (tu 0), .tr (tb false)])) _ := hu
  refine acall.pure _ (hu) rfl rfl fun _ => ?_
  conv => whnf
  clear hu
  refine ⟨by decide, by decide, rfl, by decide, fun a ha => ?_⟩
  cases ha
  conv => whnf
  have hu := k_used ⟨11, 0, 0, 0, 0, 0, 0, 0, 0⟩
  replace hu : K _ _ _ (.ret (.tup [.tr (tu 0), .tr (tb false)])) _ := hu
  refine acall.pure _ (hu) rfl rfl fun _ => ?_
  conv => whnf
  clear hu
  refine ⟨by decide, by decide, rfl, by decide, fun a ha => ?_⟩
  cases ha
  conv => whnf
  have hu := k_used ⟨11, 0, 0, 0, 0, 0, 0, 0, 0⟩
  replace hu : K _ _ _ (.ret (.tup [.tr (tu 0), .tr (tb false)])) _ := hu
  refine acall.pure _ (hu) rfl rfl fun _ => ?_
  conv => whnf
  clear hu
  refine ⟨fun _ => ?_, fun h => absurd rfl h⟩
  conv => whnf
  exact aut
set_option maxRecDepth 100000 in
set_option maxHeartbeats 2000000 in
theorem k_fieldsD2t (r : Rd) (h2 : two (IntKind.u8.wrap (smallR 19 r).1) = true) : K 33 [.ptr 0 0, .fn 70 [.ptr 1 0]] [insB ⟨2, 0, 0, 0, 0, 0, 0, 0, 0⟩, bxB 2, r.blk] (.ret (.tup [])) [some (insB (fieldsR ⟨2, 0, 0, 0, 0, 0, 0, 0, 0⟩ r).1), some (bxB 2), some (fieldsR ⟨2, 0, 0, 0, 0, 0, 0, 0, 0⟩ r).2.blk] := by
  refine Ctr.of hT hmix Tryd.func33 rfl (fun _ _ => by kernel_rfl) rfl fun hok => ?_
  clear hok
  have hf := k_forms 2
  obtain ⟨⟨n1, r1⟩, hs1⟩ : ∃ p, smallR 19 r = p := ⟨_, rfl⟩
  have c1 := k_rdOp (IntKind.i64.wrap 0) r
  rw [hs1] at c1
  obtain ⟨⟨n2, r2⟩, hs2⟩ : ∃ p, smallR 16384 r1 = p := ⟨_, rfl⟩
  have c2 := k_rd2 ⟨2, (IntKind.u8.wrap n1), 0, 0, 0, 0, 0, 0, 0⟩ r1
  rw [hs2] at c2
  obtain ⟨⟨n3, r3⟩, hs3⟩ : ∃ p, smallR 16384 r2 = p := ⟨_, rfl⟩
  have c3 := k_rd4 ⟨2, (IntKind.u8.wrap n1), n2, 0, 0, 0, 0, 0, 0⟩ r2
  rw [hs3] at c3
  obtain ⟨⟨n4, r4⟩, hs4⟩ : ∃ p, smallR 16384 r3 = p := ⟨_, rfl⟩
  have c4 := k_rd8 ⟨2, (IntKind.u8.wrap n1), n2, n3, 0, 0, 0, 0, 0⟩ r3
  rw [hs4] at c4
  rw [hs1] at h2
  have eF : fieldsR ⟨2, 0, 0, 0, 0, 0, 0, 0, 0⟩ r = (⟨2, (IntKind.u8.wrap n1), n2, n3, n4, 0, 0, 0, 0⟩, r4) := by
    have e : fieldsR ⟨2, 0, 0, 0, 0, 0, 0, 0, 0⟩ r = stepsR [1, 2, 4, 8] ⟨2, 0, 0, 0, 0, 0, 0, 0, 0⟩ r := rfl
    rw [e]
    simp [stepsR, stepR, fldR, hs1, hs2, hs3, hs4, h2]
  rw [eF]
  clear eF
  clear hs1
  clear hs2
  clear hs3
  clear hs4
  obtain ⟨l, b⟩ := r
  obtain ⟨l1, b1⟩ := r1
  obtain ⟨l2, b2⟩ := r2
  obtain ⟨l3, b3⟩ := r3
  obtain ⟨l4, b4⟩ := r4
  conv => whnf
  refine acall.pure _ (hf) rfl rfl fun _ => ?_
  conv => whnf
  refine LoopL.un 5 ?_
  conv => whnf
  refine ⟨by decide, by decide, rfl, by decide, fun a ha => ?_⟩
  cases ha
  conv => whnf
  have hu := k_used ⟨2, 0, 0, 0, 0, 0, 0, 0, 0⟩
  obtain ⟨mk, hm⟩ : ∃ m, usedM 2 0 = m := ⟨_, rfl⟩
  replace hu : K _ _ _ (.ret (.tup [.tr (tu mk), .tr (tb true)])) _ := hm ▸ hu
  obtain rfl : mk = 7 := hm.symm
  refine acall.pure _ (hu) rfl rfl fun _ => ?_
  conv => whnf
  clear hu
  refine acall.gen [8, 1, 2] [] _ _ _ _ c1 rfl rfl rfl rfl aut aut rfl rfl fun _ => ?_
  conv => whnf
  refine ⟨by decide, by decide, rfl, by decide, fun a ha => ?_⟩
  cases ha
  conv => whnf
  have hu := k_used ⟨2, (IntKind.u8.wrap n1), 0, 0, 0, 0, 0, 0, 0⟩
  obtain ⟨mk, hm⟩ : ∃ m, usedM 2 (IntKind.u8.wrap n1) = m := ⟨_, rfl⟩
  replace hu : K _ _ _ (.ret (.tup [.tr (tu mk), .tr (tb true)])) _ := hm ▸ hu
  obtain rfl : mk = 15 := by rw [← hm]; unfold usedM; rw [h2]; rfl
  refine acall.pure _ (hu) rfl rfl fun _ => ?_
  conv => whnf
  clear hu
  refine acall.gen [0, 1, 2] [] _ _ _ _ c2 rfl rfl rfl rfl aut aut rfl rfl fun _ => ?_
  conv => whnf
  refine ⟨by decide, by decide, rfl, by decide, fun a ha => ?_⟩
  cases ha
  conv => whnf
  have hu := k_used ⟨2, (IntKind.u8.wrap n1), n2, 0, 0, 0, 0, 0, 0⟩
  obtain ⟨mk, hm⟩ : ∃ m, usedM 2 (IntKind.u8.wrap n1) = m := ⟨_, rfl⟩
  replace hu : K _ _ _ (.ret (.tup [.tr (tu mk), .tr (tb true)])) _ := hm ▸ hu
  obtain rfl : mk = 15 := by rw [← hm]; unfold usedM; rw [h2]; rfl
  refine acall.pure _ (hu) rfl rfl fun _ => ?_
  conv => whnf
  clear hu
  refine acall.gen [0, 1, 2] [] _ _ _ _ c3 rfl rfl rfl rfl aut aut rfl rfl fun _ => ?_
  conv => whnf
  refine ⟨by decide, by decide, rfl, by decide, fun a ha => ?_⟩
  cases ha
  conv => whnf
  have hu := k_used ⟨2, (IntKind.u8.wrap n1), n2, n3, 0, 0, 0, 0, 0⟩
  obtain ⟨mk, hm⟩ : ∃ m, usedM 2 (IntKind.u8.wrap n1) = m := ⟨_, rfl⟩
  replace hu : K _ _ _ (.ret (.tup [.tr (tu mk), .tr (tb true)])) _ := hm ▸ hu
  obtain rfl : mk = 15 := by rw [← hm]; unfold usedM; rw [h2]; rfl
  refine acall.pure _ (hu) rfl rfl fun _ => ?_
  conv => whnf
  clear hu
  refine acall.gen [0, 1, 2] [] _ _ _ _ c4 rfl rfl rfl rfl aut aut rfl rfl fun _ => ?_
  conv => whnf
  refine ⟨fun _ => ?_, fun h => absurd rfl h⟩
  conv => whnf
  exact aut
set_option maxRecDepth 100000 in
set_option maxHeartbeats 2000000 in
theorem k_fieldsD2f (r : Rd) (h2 : two (IntKind.u8.wrap (smallR 19 r).1) = false) : K 33 [.ptr 0 0, .fn 70 [.ptr 1 0]] [insB ⟨2, 0, 0, 0, 0, 0, 0, 0, 0⟩, bxB 2, r.blk] (.ret (.tup [])) [some (insB (fieldsR ⟨2, 0, 0, 0, 0, 0, 0, 0, 0⟩ r).1), some (bxB 2), some (fieldsR ⟨2, 0, 0, 0, 0, 0, 0, 0, 0⟩ r).2.blk] := by
  refine Ctr.of hT hmix Tryd.func33 rfl (fun _ _ => by kernel_rfl) rfl fun hok => ?_
  clear hok
  have hf := k_forms 2
  obtain ⟨⟨n1, r1⟩, hs1⟩ : ∃ p, smallR 19 r = p := ⟨_, rfl⟩
  have c1 := k_rdOp (IntKind.i64.wrap 0) r
  rw [hs1] at c1
  obtain ⟨⟨n2, r2⟩, hs2⟩ : ∃ p, smallR 16384 r1 = p := ⟨_, rfl⟩
  have c2 := k_rd2 ⟨2, (IntKind.u8.wrap n1), 0, 0, 0, 0, 0, 0, 0⟩ r1
  rw [hs2] at c2
  obtain ⟨⟨n3, r3⟩, hs3⟩ : ∃ p, smallR 16384 r2 = p := ⟨_, rfl⟩
  have c3 := k_rd4 ⟨2, (IntKind.u8.wrap n1), n2, 0, 0, 0, 0, 0, 0⟩ r2
  rw [hs3] at c3
  rw [hs1] at h2
  have eF : fieldsR ⟨2, 0, 0, 0, 0, 0, 0, 0, 0⟩ r = (⟨2, (IntKind.u8.wrap n1), n2, n3, 0, 0, 0, 0, 0⟩, r3) := by
    have e : fieldsR ⟨2, 0, 0, 0, 0, 0, 0, 0, 0⟩ r = stepsR [1, 2, 4, 8] ⟨2, 0, 0, 0, 0, 0, 0, 0, 0⟩ r := rfl
    rw [e]
    simp [stepsR, stepR, fldR, hs1, hs2, hs3, h2]
  rw [eF]
  clear eF
  clear hs1
  clear hs2
  clear hs3
  obtain ⟨l, b⟩ := r
  obtain ⟨l1, b1⟩ := r1
  obtain ⟨l2, b2⟩ := r2
  obtain ⟨l3, b3⟩ := r3
  conv => whnf
  refine acall.pure _ (hf) rfl rfl fun _ => ?_
  conv => whnf
  refine LoopL.un 5 ?_
  conv => whnf
  refine ⟨by decide, by decide, rfl, by decide, fun a ha => ?_⟩
  cases ha
  conv => whnf
  have hu := k_used ⟨2, 0, 0, 0, 0, 0, 0, 0, 0⟩
  obtain ⟨mk, hm⟩ : ∃ m, usedM 2 0 = m := ⟨_, rfl⟩
  replace hu : K _ _ _ (.ret (.tup [.tr (tu mk), .tr (tb true)])) _ := hm ▸ hu
  obtain rfl : mk = 7 := hm.symm
  refine acall.pure _ (hu) rfl rfl fun _ => ?_
  conv => whnf
  clear hu
  refine acall.gen [8, 1, 2] [] _ _ _ _ c1 rfl rfl rfl rfl aut aut rfl rfl fun _ => ?_
  conv => whnf
  refine ⟨by decide, by decide, rfl, by decide, fun a ha => ?_⟩
  cases ha
  conv => whnf
  have hu := k_used ⟨2, (IntKind.u8.wrap n1), 0, 0, 0, 0, 0, 0, 0⟩
  obtain ⟨mk, hm⟩ : ∃ m, usedM 2 (IntKind.u8.wrap n1) = m := ⟨_, rfl⟩
  replace hu : K _ _ _ (.ret (.tup [.tr (tu mk), .tr (tb true)])) _ := hm ▸ hu
  obtain rfl : mk = 7 := by rw [← hm]; unfold usedM; rw [h2]; rfl
  refine acall.pure _ (hu) rfl rfl fun _ => ?_
  conv => whnf
  clear hu
  refine acall.gen [0, 1, 2] [] _ _ _ _ c2 rfl rfl rfl rfl aut aut rfl rfl fun _ => ?_
  conv => whnf
  refine ⟨by decide, by decide, rfl, by decide, fun a ha => ?_⟩
  cases ha
  conv => whnf
  have hu := k_used ⟨2, (IntKind.u8.wrap n1), n2, 0, 0, 0, 0, 0, 0⟩
  obtain ⟨mk, hm⟩ : ∃ m, usedM 2 (IntKind.u8.wrap n1) = m := ⟨_, rfl⟩
  replace hu : K _ _ _ (.ret (.tup [.tr (tu mk), .tr (tb true)])) _ := hm ▸ hu
  obtain rfl : mk = 7 := by rw [← hm]; unfold usedM; rw [h2]; rfl
  refine acall.pure _ (hu) rfl rfl fun _ => ?_
  conv => whnf
  clear hu
  refine acall.gen [0, 1, 2] [] _ _ _ _ c3 rfl rfl rfl rfl aut aut rfl rfl fun _ => ?_
  conv => whnf
  refine ⟨by decide, by decide, rfl, by decide, fun a ha => ?_⟩
  cases ha
  conv => whnf
  have hu := k_used ⟨2, (IntKind.u8.wrap n1), n2, n3, 0, 0, 0, 0, 0⟩
  obtain ⟨mk, hm⟩ : ∃ m, usedM 2 (IntKind.u8.wrap n1) = m := ⟨_, rfl⟩
  replace hu : K _ _ _ (.ret (.tup [.tr (tu mk), .tr (tb true)])) _ := hm ▸ hu
  obtain rfl : mk = 7 := by rw [← hm]; unfold usedM; rw [h2]; rfl
  refine acall.pure _ (hu) rfl rfl fun _ => ?_
  conv => whnf
  clear hu
  refine ⟨fun _ => ?_, fun h => absurd rfl h⟩
  conv => whnf
  exact aut
theorem k_fieldsD (k : Int) (hk : 0 ≤ k ∧ k ≤ 11) (r : Rd) : K 33 [.ptr 0 0, .fn 70 [.ptr 1 0]] [insB ⟨k, 0, 0, 0, 0, 0, 0, 0, 0⟩, bxB 2, r.blk] (.ret (.tup [])) [some (insB (fieldsR ⟨k, 0, 0, 0, 0, 0, 0, 0, 0⟩ r).1), some (bxB 2), some (fieldsR ⟨k, 0, 0, 0, 0, 0, 0, 0, 0⟩ r).2.blk] := by
  have hc : k = 0 ∨ k = 1 ∨ k = 2 ∨ k = 3 ∨ k = 4 ∨ k = 5 ∨ k = 6 ∨ k = 7 ∨ k = 8 ∨ k = 9 ∨ k = 10 ∨ k = 11 := by omega
  rcases hc with rfl | rfl | rfl | rfl | rfl | rfl | rfl | rfl | rfl | rfl | rfl | rfl
  · exact k_fieldsD0 r
  · exact k_fieldsD1 r
  · cases h2 : two (IntKind.u8.wrap (smallR 19 r).1)
    · exact k_fieldsD2f r h2
    · exact k_fieldsD2t r h2
  · exact k_fieldsD3 r
  · exact k_fieldsD4 r
  · exact k_fieldsD5 r
  · exact k_fieldsD6 r
  · exact k_fieldsD7 r
  · exact k_fieldsD8 r
  · exact k_fieldsD9 r
  · exact k_fieldsD10 r
  · exact k_fieldsD11 r
def insR (r : Rd) : Ins × Rd := ({ (fieldsR ⟨(smallR 11 r).1, 0, 0, 0, 0, 0, 0, 0, 0⟩ (smallR 11 r).2).1 with from_ := (smallR 4096 (fieldsR ⟨(smallR 11 r).1, 0, 0, 0, 0, 0, 0, 0, 0⟩ (smallR 11 r).2).2).1 },
  (smallR 4096 (fieldsR ⟨(smallR 11 r).1, 0, 0, 0, 0, 0, 0, 0, 0⟩ (smallR 11 r).2).2).2)
set_option maxRecDepth 100000 in
theorem k_insR (r : Rd) : K 48 [.ptr 0 0] [r.blk] (.ret (insR r).1.av) [some (insR r).2.blk] := by
  refine Ctr.of hT hmix Tryd.func48 rfl (fun _ _ => by kernel_rfl) rfl fun hok => ?_
  clear hok
  have h1 := k_smallR r 11 (by decide)
  have g1 := smallR_rng (most := 11) (by decide) r
  unfold insR
  generalize smallR 11 r = S at h1 g1 ⊢
  obtain ⟨k, r1⟩ := S
  have hk : IntKind.u8.wrap k = k := wu8 g1.1 (by simp only at g1; omega)
  have h2 := k_fieldsD k g1 r1
  simp only
  generalize fieldsR ⟨k, 0, 0, 0, 0, 0, 0, 0, 0⟩ r1 = F at h2 ⊢
  obtain ⟨i, r2⟩ := F
  have h3 := k_smallR r2 4096 (by decide)
  simp only
  generalize smallR 4096 r2 = S at h3 ⊢
  obtain ⟨n, r3⟩ := S
  simp only at h1 h2 h3 ⊢
  obtain ⟨l, b⟩ := r
  obtain ⟨l1, b1⟩ := r1
  obtain ⟨l2, b2⟩ := r2
  obtain ⟨l3, b3⟩ := r3
  obtain ⟨i1, i2, i3, i4, i5, i6, i7, i8, i9⟩ := i
  conv => whnf
  refine acall.au [0] [] (h1) ?_
  intro _
  conv => whnf
  refine acall.gen [7, 1, 0] [] _ _ _ _ h2 rfl rfl rfl rfl aut (by repeat' (first | exact trivial | exact Or.inl rfl | exact rfl | exact Nat.le_refl _ | exact Or.inl (congrArg tu hk) | apply And.intro)) rfl rfl fun _ => ?_
  conv => whnf
  refine acall.au [0] [] (h3) ?_
  intro _
  conv => whnf
  exact aut
end Go.Proofs.YtffhoknkfohfgaaDoor.am

namespace Go.Proofs.YtffhoknkfohfgaaDoor.am
open Go Go.Proofs
def objW : ByteArray := ⟨#[111, 98, 106, 101, 99, 116]⟩
def memW : ByteArray := ⟨#[109, 101, 109, 111, 114, 121]⟩
def headL : List ByteArray → Option (Int × Int × Int)
  | [w, a, b, c] => bif seq w objW && ((numS a).2 && ((numS b).2 && (numS c).2)) then some ((numS a).1, (numS b).1, (numS c).1) else none
  | _ => none
theorem four_of {l : List ByteArray} (h : l.length = 4) : ∃ w a b c, l = [w, a, b, c] := by
  match l, h with
  | [w, a, b, c], _ => exact ⟨w, a, b, c, rfl⟩
theorem headL_ne {l : List ByteArray} (h : l.length ≠ 4) : headL l = none := by
  unfold headL
  split
  · exact absurd rfl h
  · rfl
abbrev nilT : AV := .tr (.v (.slice none 0 0))
abbrev obB (m : AV) (a b c : Int) (k : AV) : Blk := .cells 25 [m, .tr (ti a), .tr (ti b), .tr (ti c), k]
set_option maxRecDepth 100000 in
theorem k_head (line : ByteArray) (hs : line.size < 4294967281) : match headL (splitBl line) with
    | some (a, b, c) => K 29 [.ptr 0 0, .tr (ts line)] [obB nilT 0 0 0 nilT] (.ret (.tr (tb true))) [some (obB nilT a b c nilT)]
    | none => K 29 [.ptr 0 0, .tr (ts line)] [obB nilT 0 0 0 nilT] (.ret (.tr (tb false))) [none] := by
  have hsp := k_split line hs
  have hlen := splitBl_len line
  have hcs := count_size line
  generalize splitBl line = l at hsp hlen ⊢
  by_cases h4 : l.length = 4
  · obtain ⟨w, a, b, c, rfl⟩ := four_of h4
    have ha := k_number a
    have hb := k_number b
    have hc := k_number c
    show match (bif seq w objW && ((numS a).2 && ((numS b).2 && (numS c).2)) then some ((numS a).1, (numS b).1, (numS c).1) else none) with
      | some (a, b, c) => K 29 [.ptr 0 0, .tr (ts line)] [obB nilT 0 0 0 nilT] (.ret (.tr (tb true))) [some (obB nilT a b c nilT)]
      | none => K 29 [.ptr 0 0, .tr (ts line)] [obB nilT 0 0 0 nilT] (.ret (.tr (tb false))) [none]
    generalize numS a = A at ha ⊢
    generalize numS b = B at hb ⊢
    generalize numS c = C at hc ⊢
    obtain ⟨A1, A2⟩ := A
    obtain ⟨B1, B2⟩ := B
    obtain ⟨C1, C2⟩ := C
    cases hw : seq w objW
    · show K _ _ _ _ _
      refine Ctr.new [] hT hmix Tryd.func29 rfl (fun _ _ => by kernel_rfl) rfl fun hok => ?_
      clear hok
      conv => whnf
      refine acall.pure _ (hsp) rfl rfl fun _ => ?_
      conv => whnf
      refine ⟨rfl, by decide, (by show (_ : Int) < 4; decide), fun row hrow => ?_⟩
      cases hrow
      conv => whnf
      refine csplit (fun h => ?_) (fun h => ?_)
      · conv => whnf
        exact ⟨[0], rfl, rfl, .inl rfl, aut⟩
      · exfalso
        have h : (!(seq w objW)) = false := h
        rw [hw] at h
        cases h
    cases A2
    · show K _ _ _ _ _
      refine Ctr.new [] hT hmix Tryd.func29 rfl (fun _ _ => by kernel_rfl) rfl fun hok => ?_
      clear hok
      conv => whnf
      refine acall.pure _ (hsp) rfl rfl fun _ => ?_
      conv => whnf
      refine ⟨rfl, by decide, (by show (_ : Int) < 4; decide), fun row hrow => ?_⟩
      cases hrow
      conv => whnf
      refine csplit (fun h => ?_) (fun h => ?_)
      · exfalso
        have h : (!(seq w objW)) = true := h
        rw [hw] at h
        cases h
      conv => whnf
      refine ⟨by kernel_rfl, fun _ => ?_⟩
      conv => whnf
      refine LoopL.un 4 ?_
      conv => whnf
      refine ⟨by decide, by decide, ?_⟩
      conv => whnf
      refine ⟨rfl, by decide, (by show (_ : Int) < 4; decide), fun row hrow => ?_⟩
      cases hrow
      conv => whnf
      refine acall.pure _ (ha) rfl rfl fun _ => ?_
      conv => whnf
      conv => whnf
      exact ⟨[0], rfl, rfl, .inl rfl, aut⟩
    cases B2
    · show K _ _ _ _ _
      refine Ctr.new [] hT hmix Tryd.func29 rfl (fun _ _ => by kernel_rfl) rfl fun hok => ?_
      clear hok
      conv => whnf
      refine acall.pure _ (hsp) rfl rfl fun _ => ?_
      conv => whnf
      refine ⟨rfl, by decide, (by show (_ : Int) < 4; decide), fun row hrow => ?_⟩
      cases hrow
      conv => whnf
      refine csplit (fun h => ?_) (fun h => ?_)
      · exfalso
        have h : (!(seq w objW)) = true := h
        rw [hw] at h
        cases h
      conv => whnf
      refine ⟨by kernel_rfl, fun _ => ?_⟩
      conv => whnf
      refine LoopL.un 4 ?_
      conv => whnf
      refine ⟨by decide, by decide, ?_⟩
      conv => whnf
      refine ⟨rfl, by decide, (by show (_ : Int) < 4; decide), fun row hrow => ?_⟩
      cases hrow
      conv => whnf
      refine acall.pure _ (ha) rfl rfl fun _ => ?_
      conv => whnf
      conv => whnf
      refine ⟨by decide, by decide, ?_⟩
      conv => whnf
      refine ⟨rfl, by decide, (by show (_ : Int) < 4; decide), fun row hrow => ?_⟩
      cases hrow
      conv => whnf
      refine acall.pure _ (hb) rfl rfl fun _ => ?_
      conv => whnf
      conv => whnf
      exact ⟨[0], rfl, rfl, .inl rfl, aut⟩
    cases C2
    · show K _ _ _ _ _
      refine Ctr.new [] hT hmix Tryd.func29 rfl (fun _ _ => by kernel_rfl) rfl fun hok => ?_
      clear hok
      conv => whnf
      refine acall.pure _ (hsp) rfl rfl fun _ => ?_
      conv => whnf
      refine ⟨rfl, by decide, (by show (_ : Int) < 4; decide), fun row hrow => ?_⟩
      cases hrow
      conv => whnf
      refine csplit (fun h => ?_) (fun h => ?_)
      · exfalso
        have h : (!(seq w objW)) = true := h
        rw [hw] at h
        cases h
      conv => whnf
      refine ⟨by kernel_rfl, fun _ => ?_⟩
      conv => whnf
      refine LoopL.un 4 ?_
      conv => whnf
      refine ⟨by decide, by decide, ?_⟩
      conv => whnf
      refine ⟨rfl, by decide, (by show (_ : Int) < 4; decide), fun row hrow => ?_⟩
      cases hrow
      conv => whnf
      refine acall.pure _ (ha) rfl rfl fun _ => ?_
      conv => whnf
      conv => whnf
      refine ⟨by decide, by decide, ?_⟩
      conv => whnf
      refine ⟨rfl, by decide, (by show (_ : Int) < 4; decide), fun row hrow => ?_⟩
      cases hrow
      conv => whnf
      refine acall.pure _ (hb) rfl rfl fun _ => ?_
      conv => whnf
      conv => whnf
      refine ⟨by decide, by decide, ?_⟩
      conv => whnf
      refine ⟨rfl, by decide, (by show (_ : Int) < 4; decide), fun row hrow => ?_⟩
      cases hrow
      conv => whnf
      refine acall.pure _ (hc) rfl rfl fun _ => ?_
      conv => whnf
      conv => whnf
      exact ⟨[0], rfl, rfl, .inl rfl, aut⟩
    · show K _ _ _ _ _
      refine Ctr.new [] hT hmix Tryd.func29 rfl (fun _ _ => by kernel_rfl) rfl fun hok => ?_
      clear hok
      conv => whnf
      refine acall.pure _ (hsp) rfl rfl fun _ => ?_
      conv => whnf
      refine ⟨rfl, by decide, (by show (_ : Int) < 4; decide), fun row hrow => ?_⟩
      cases hrow
      conv => whnf
      refine csplit (fun h => ?_) (fun h => ?_)
      · exfalso
        have h : (!(seq w objW)) = true := h
        rw [hw] at h
        cases h
      conv => whnf
      refine ⟨by kernel_rfl, fun _ => ?_⟩
      conv => whnf
      refine LoopL.un 4 ?_
      conv => whnf
      refine ⟨by decide, by decide, ?_⟩
      conv => whnf
      refine ⟨rfl, by decide, (by show (_ : Int) < 4; decide), fun row hrow => ?_⟩
      cases hrow
      conv => whnf
      refine acall.pure _ (ha) rfl rfl fun _ => ?_
      conv => whnf
      conv => whnf
      refine ⟨by decide, by decide, ?_⟩
      conv => whnf
      refine ⟨rfl, by decide, (by show (_ : Int) < 4; decide), fun row hrow => ?_⟩
      cases hrow
      conv => whnf
      refine acall.pure _ (hb) rfl rfl fun _ => ?_
      conv => whnf
      conv => whnf
      refine ⟨by decide, by decide, ?_⟩
      conv => whnf
      refine ⟨rfl, by decide, (by show (_ : Int) < 4; decide), fun row hrow => ?_⟩
      cases hrow
      conv => whnf
      refine acall.pure _ (hc) rfl rfl fun _ => ?_
      conv => whnf
      conv => whnf
      refine ⟨fun _ => ?_, fun h => absurd rfl h⟩
      conv => whnf
      exact ⟨[0], rfl, rfl, .inl rfl, aut⟩
  · rw [headL_ne h4]
    show K _ _ _ _ _
    refine Ctr.new [] hT hmix Tryd.func29 rfl (fun _ _ => by kernel_rfl) rfl fun hok => ?_
    clear hok
    conv => whnf
    refine acall.pure _ (hsp) rfl rfl fun _ => ?_
    conv => whnf
    refine csplit (fun h => ?_) (fun h => ?_)
    · conv => whnf
      exact ⟨[0], rfl, rfl, .inl rfl, aut⟩
    · exfalso
      have h' : (((List.map srow l).length : Nat) : Int) = 4 := by simpa using h
      rw [List.length_map] at h'
      omega
/-! the memory's line -/
def memG : List ByteArray → Option (List Int)
  | [] => some []
  | s :: r => bif (prsB s).2.1 != 0 then none else (memG r).map fun l => (prsB s).1 :: l
def memL : List ByteArray → Option (List Int)
  | [] => none
  | w :: r => bif seq w memW then memG r else none
/-- what the memory comes to, out of what is read and what is left -/
def memA (acc : List Int) (r : List ByteArray) : Option (List Int) := (memG r).map fun l => acc ++ l
theorem memA_cons {acc : List Int} {s : ByteArray} {r : List ByteArray} : memA acc (s :: r) = bif (prsB s).2.1 != 0 then none else memA (acc ++ [(prsB s).1]) r := by
  unfold memA
  show Option.map _ (bif (prsB s).2.1 != 0 then none else (memG r).map fun l => (prsB s).1 :: l) = _
  cases (prsB s).2.1 != 0
  · show Option.map _ ((memG r).map fun l => (prsB s).1 :: l) = Option.map _ (memG r)
    rw [Option.map_map]
    congr 1
    funext l
    simp
  · rfl
abbrev memBk (l : List Int) : Blk := .vec 2 1 8 (l.map irow)
set_option maxRecDepth 100000 in
theorem k_memory (line : ByteArray) (hs : line.size < 4294967281) (a b c : Int) : match memL (splitBl line) with
    | some l => K 30 [.ptr 0 0, .tr (ts line)] [obB nilT a b c nilT] (.ret (.tr (tb true))) [some (obB (.sl 1 l.length) a b c nilT), some (memBk l)]
    | none => K 30 [.ptr 0 0, .tr (ts line)] [obB nilT a b c nilT] (.ret (.tr (tb false))) [none] := by
  have hsp := k_split line hs
  have hlen := splitBl_len line
  have hcs := count_size line
  obtain ⟨R, hR⟩ : ∃ R, R = memL (splitBl line) := ⟨_, rfl⟩
  rw [← hR]
  generalize splitBl line = l at hsp hlen hR
  cases l with
  | nil => simp at hlen
  | cons w r =>
    have hR : R = bif seq w memW then memG r else none := hR
    have hlr : r.length ≤ 4294967281 := by simp only [List.length_cons] at hlen; omega
    clear hlen hcs
    cases hw : seq w memW
    · rw [hw] at hR
      obtain rfl : R = none := hR
      show K _ _ _ _ _
      refine Ctr.new [] hT hmix Tryd.func30 rfl (fun _ _ => by kernel_rfl) rfl fun hok => ?_
      clear hok
      conv => whnf
      refine acall.pure _ (hsp) rfl rfl fun _ => ?_
      conv => whnf
      refine ⟨rfl, by decide, (show (0 : Int) < (List.map srow (w :: r)).length by rw [List.length_map, List.length_cons]; omega), fun row hrow => ?_⟩
      cases hrow
      conv => whnf
      refine csplit (fun h => ?_) (fun h => ?_)
      · conv => whnf
        exact ⟨[0], rfl, rfl, .inl rfl, aut⟩
      · exfalso
        have h : (!(seq w memW)) = false := h
        rw [hw] at h
        cases h
    · rw [hw] at hR
      replace hR : R = memA [] r := by rw [show R = memG r from hR]; unfold memA; cases memG r <;> rfl
      have hdr : ((List.map srow (w :: r)).take (((List.map srow (w :: r)).length : Nat) : Int).toNat).drop 1 = r.map srow := by
        rw [Int.toNat_natCast, List.take_length]; rfl
      have hdl : (((List.map srow (w :: r)).take (((List.map srow (w :: r)).length : Nat) : Int).toNat).drop 1).length = r.length := by rw [hdr, List.length_map]
      have key : ∀ R', R' = R → match R' with
          | some l => K 30 [.ptr 0 0, .tr (ts line)] [obB nilT a b c nilT] (.ret (.tr (tb true))) [some (obB (.sl 1 l.length) a b c nilT), some (memBk l)]
          | none => K 30 [.ptr 0 0, .tr (ts line)] [obB nilT a b c nilT] (.ret (.tr (tb false))) [none] := by
        rintro (_ | m) hm
        · show K _ _ _ _ _
          rw [← hm] at hR
          refine Ctr.new [] hT hmix Tryd.func30 rfl (fun _ _ => by kernel_rfl) rfl fun hok => ?_
          clear hok
          conv => whnf
          refine acall.pure _ (hsp) rfl rfl fun _ => ?_
          conv => whnf
          refine ⟨rfl, by decide, (show (0 : Int) < (List.map srow (w :: r)).length by rw [List.length_map, List.length_cons]; omega), fun row hrow => ?_⟩
          cases hrow
          conv => whnf
          refine csplit (fun h => ?_) (fun h => ?_)
          · exfalso
            have h : (!(seq w memW)) = true := h
            rw [hw] at h
            cases h
          conv => whnf
          refine ⟨rfl, by decide, (show (1 : Int) ≤ (List.map srow (w :: r)).length by rw [List.length_map, List.length_cons]; omega), Int.le_refl _, ?_⟩
          conv => whnf
          refine LoopL.by (fun x : List Int × Nat => ⟨[(0, .ptr 0 0), (18, .tr (strsT r)), (19, .tr (ti r.length)), (20, .tr (ti x.2))], [(0, obB (.sl 1 x.1.length) a b c nilT), (1, memBk x.1)], 10⟩)
            (fun x => x.2 ≤ r.length ∧ none = memA x.1 (r.drop x.2) ∧ x.1.length = x.2) (fun x => r.length - x.2) ([], 0) [0] [1]
            (Sub.mk' rfl ⟨⟨rfl, rfl⟩, .inl (congrArg (Tr.lst 1 16) hdr), .inl (congrArg (fun n : Nat => ti (n : Int)) hdl), .inl rfl, trivial⟩ ⟨⟨rfl, ⟨rfl, rfl, rfl, rfl⟩, .inl rfl, .inl rfl, .inl rfl, .inl rfl, trivial⟩, ⟨rfl, 2, 1, 8, rfl, by omega⟩, trivial⟩ rfl rfl) ⟨Nat.zero_le _, hR, rfl⟩ ?_
          rintro ⟨acc, k⟩ ⟨hk, hf, hac⟩ -
          simp only at hk hf hac
          conv => whnf
          refine csplit (fun hlt => ?_) (fun hge => ?_)
          · have hlt : k < r.length := by simpa using hlt
            conv => whnf
            refine ⟨rfl, (show (0 : Int) ≤ k by omega), (show (k : Int) < (List.map srow r).length by rw [List.length_map]; omega), fun row hrow => ?_⟩
            obtain ⟨s, hd, rfl⟩ := map_get hrow
            replace hd : r[k]? = some s := hd
            rw [drop_cons hd, memA_cons] at hf
            have hp := k_parseW s
            generalize prsB s = Q at hf hp
            obtain ⟨Q1, Q2, Q3⟩ := Q
            simp only at hf hp
            conv => whnf
            refine acall.pure _ (hp) rfl rfl fun _ => ?_
            conv => whnf
            refine csplit (fun h2 => ?_) (fun h2 => ?_)
            · replace h2 : (Q2 != 0) = true := h2
              rw [h2] at hf
              conv => whnf
              exact ⟨[0], rfl, rfl, .inl rfl, aut⟩
            · replace h2 : (Q2 != 0) = false := h2
              rw [h2] at hf
              conv => whnf
              refine ⟨rfl, rfl, rfl, (show acc.length ≤ (acc.map irow).length by simp), (show (acc.length + 1) * 8 ≤ _ by omega), fun q hq => ?_, ?_⟩
              · simp at hq; subst hq; simp
              conv => whnf
              refine ⟨(acc ++ [Q1], k + 1), [0, 32], [], Sub.mk' rfl ⟨⟨rfl, rfl⟩, .inl rfl, .inl rfl, .inl (ti_succ hlt (by omega)), trivial⟩ ⟨⟨rfl, ⟨rfl, by simp⟩, .inl rfl, .inl rfl, .inl rfl, .inl rfl, trivial⟩, ⟨rfl, rfl, rfl, ?_⟩, trivial⟩ rfl rfl, ⟨by simp only; omega, hf, by simp only [List.length_append, List.length_cons, List.length_nil]; omega⟩, by simp only; omega⟩
              show (acc.map irow).take acc.length ++ List.take 1 [[ti Q1]] = (acc ++ [Q1]).map irow
              rw [List.take_of_length_le (by simp), List.map_append]
              rfl
          · have hge : r.length ≤ k := by simpa using hge
            rw [List.drop_eq_nil_of_le hge] at hf
            cases hf
        · show K _ _ _ _ _
          rw [← hm] at hR
          refine Ctr.new [] hT hmix Tryd.func30 rfl (fun _ _ => by kernel_rfl) rfl fun hok => ?_
          clear hok
          conv => whnf
          refine acall.pure _ (hsp) rfl rfl fun _ => ?_
          conv => whnf
          refine ⟨rfl, by decide, (show (0 : Int) < (List.map srow (w :: r)).length by rw [List.length_map, List.length_cons]; omega), fun row hrow => ?_⟩
          cases hrow
          conv => whnf
          refine csplit (fun h => ?_) (fun h => ?_)
          · exfalso
            have h : (!(seq w memW)) = true := h
            rw [hw] at h
            cases h
          conv => whnf
          refine ⟨rfl, by decide, (show (1 : Int) ≤ (List.map srow (w :: r)).length by rw [List.length_map, List.length_cons]; omega), Int.le_refl _, ?_⟩
          conv => whnf
          refine LoopL.by (fun x : List Int × Nat => ⟨[(0, .ptr 0 0), (18, .tr (strsT r)), (19, .tr (ti r.length)), (20, .tr (ti x.2))], [(0, obB (.sl 1 x.1.length) a b c nilT), (1, memBk x.1)], 10⟩)
            (fun x => x.2 ≤ r.length ∧ some m = memA x.1 (r.drop x.2) ∧ x.1.length = x.2) (fun x => r.length - x.2) ([], 0) [0] [1]
            (Sub.mk' rfl ⟨⟨rfl, rfl⟩, .inl (congrArg (Tr.lst 1 16) hdr), .inl (congrArg (fun n : Nat => ti (n : Int)) hdl), .inl rfl, trivial⟩ ⟨⟨rfl, ⟨rfl, rfl, rfl, rfl⟩, .inl rfl, .inl rfl, .inl rfl, .inl rfl, trivial⟩, ⟨rfl, 2, 1, 8, rfl, by omega⟩, trivial⟩ rfl rfl) ⟨Nat.zero_le _, hR, rfl⟩ ?_
          rintro ⟨acc, k⟩ ⟨hk, hf, hac⟩ -
          simp only at hk hf hac
          conv => whnf
          refine csplit (fun hlt => ?_) (fun hge => ?_)
          · have hlt : k < r.length := by simpa using hlt
            conv => whnf
            refine ⟨rfl, (show (0 : Int) ≤ k by omega), (show (k : Int) < (List.map srow r).length by rw [List.length_map]; omega), fun row hrow => ?_⟩
            obtain ⟨s, hd, rfl⟩ := map_get hrow
            replace hd : r[k]? = some s := hd
            rw [drop_cons hd, memA_cons] at hf
            have hp := k_parseW s
            generalize prsB s = Q at hf hp
            obtain ⟨Q1, Q2, Q3⟩ := Q
            simp only at hf hp
            conv => whnf
            refine acall.pure _ (hp) rfl rfl fun _ => ?_
            conv => whnf
            refine csplit (fun h2 => ?_) (fun h2 => ?_)
            · replace h2 : (Q2 != 0) = true := h2
              rw [h2] at hf
              cases hf
            · replace h2 : (Q2 != 0) = false := h2
              rw [h2] at hf
              conv => whnf
              refine ⟨rfl, rfl, rfl, (show acc.length ≤ (acc.map irow).length by simp), (show (acc.length + 1) * 8 ≤ _ by omega), fun q hq => ?_, ?_⟩
              · simp at hq; subst hq; simp
              conv => whnf
              refine ⟨(acc ++ [Q1], k + 1), [0, 32], [], Sub.mk' rfl ⟨⟨rfl, rfl⟩, .inl rfl, .inl rfl, .inl (ti_succ hlt (by omega)), trivial⟩ ⟨⟨rfl, ⟨rfl, by simp⟩, .inl rfl, .inl rfl, .inl rfl, .inl rfl, trivial⟩, ⟨rfl, rfl, rfl, ?_⟩, trivial⟩ rfl rfl, ⟨by simp only; omega, hf, by simp only [List.length_append, List.length_cons, List.length_nil]; omega⟩, by simp only; omega⟩
              show (acc.map irow).take acc.length ++ List.take 1 [[ti Q1]] = (acc ++ [Q1]).map irow
              rw [List.take_of_length_le (by simp), List.map_append]
              rfl
          · have hge : r.length ≤ k := by simpa using hge
            rw [List.drop_eq_nil_of_le hge] at hf
            have hf : some m = some (acc ++ []) := hf
            rw [List.append_nil] at hf
            cases hf
            conv => whnf
            refine ⟨fun _ => ?_, fun h => absurd rfl h⟩
            conv => whnf
            exact ⟨[0, 1], rfl, rfl, .inl rfl, aut⟩
      exact key R rfl
end Go.Proofs.YtffhoknkfohfgaaDoor.am

namespace Go.Proofs.YtffhoknkfohfgaaDoor.am
open Go Go.Proofs
def coreW : ByteArray := ⟨#[99, 111, 114, 101]⟩
def isCore (l : List ByteArray) : Option ByteArray := match l with
  | [w, n] => bif seq w coreW then some n else none
  | _ => none
def addI (cs : List Cor) (i : Ins) : List Cor := match cs[cs.length - 1]? with
  | some c => cs.set (cs.length - 1) ⟨c.name, c.code ++ [i]⟩
  | none => cs
abbrev newC (n : ByteArray) : Cor := ⟨n, []⟩
def furtherS (cs : List Cor) (line : ByteArray) : Option (List Cor) := match isCore (splitBl line) with
  | some n => some (cs ++ [newC n])
  | none => bif !(instrS line).2 || (cs.length : Int) == 0 then none else some (addI cs (instrS line).1)
abbrev coresBk (cs : List Cor) : Blk := .own 2 40 (cs.map Cor.cells) []
theorem two_of {l : List ByteArray} (h : l.length = 2) : ∃ w a, l = [w, a] := by
  match l, h with
  | [w, a], _ => exact ⟨w, a, rfl⟩
theorem new_leaf (n : ByteArray) : leafR [[ts n, .v (.slice none 0 0)]] := by
  intro row hr t ht
  simp only [List.mem_cons, List.not_mem_nil, or_false] at hr
  subst hr
  simp only [List.mem_cons, List.not_mem_nil, or_false] at ht
  rcases ht with rfl | rfl <;> exact ⟨_, rfl⟩
theorem nlL_refl : ∀ l : List Tr, nlL l l
  | [] => trivial
  | _ :: l => ⟨.inl rfl, nlL_refl l⟩
theorem nlR_app : ∀ (l : List (List Tr)) {r r' : List (List Tr)}, nlR r r' → nlR (l ++ r) (l ++ r')
  | [], _, _, h => h
  | a :: l, _, _, h => ⟨nlL_refl a, nlR_app l h⟩
theorem new_nl (cs : List Cor) (n : ByteArray) : nlR (cs.map Cor.cells ++ [[ts n, .v (.slice none 0 0)]]) ((cs ++ [newC n]).map Cor.cells) := by
  rw [List.map_append]
  exact nlR_app _ ⟨⟨.inl rfl, .inr ⟨rfl, 9, 64, rfl⟩, trivial⟩, trivial⟩
set_option maxRecDepth 100000 in
theorem k_furtherC (line : ByteArray) (hs : line.size < 4294967281) (mem : List Int) (a b c : Int) (cs : List Cor) (hn : cs.length ≤ 16777216) (n : ByteArray) (hc : isCore (splitBl line) = some n) :
    K 28 [.ptr 0 0, .tr (ts line)] [obB (.sl 1 mem.length) a b c (.sl 2 cs.length), memBk mem, coresBk cs] (.ret (.tr (tb true)))
      [some (obB (.sl 1 mem.length) a b c (.sl 3 (cs ++ [newC n]).length)), some (memBk mem), none, some (coresBk (cs ++ [newC n]))] := by
  have hsp := k_split line hs
  generalize splitBl line = l at hsp hc
  by_cases h2 : l.length = 2
  · obtain ⟨w, m, rfl⟩ := two_of h2
    replace hc : (bif seq w coreW then some m else none) = some n := hc
    cases hw : seq w coreW
    · rw [hw] at hc; cases hc
    rw [hw] at hc
    cases hc
    refine Ctr.new [] hT hmix Tryd.func28 rfl (fun _ _ => by kernel_rfl) rfl fun hok => ?_
    clear hok
    conv => whnf
    refine acall.pure _ (hsp) rfl rfl fun _ => ?_
    conv => whnf
    refine ⟨rfl, by decide, (by show (_ : Int) < 2; decide), fun row hrow => ?_⟩
    cases hrow
    conv => whnf
    refine csplit (fun h => ?_) (fun h => ?_)
    · conv => whnf
      refine ⟨rfl, by decide, (by show (_ : Int) < 2; decide), fun row hrow => ?_⟩
      cases hrow
      conv => whnf
      refine ⟨by simp, rfl, Nat.le_refl _, (show (cs.length + 1) * 40 ≤ 150000000000000 by omega), trivial, new_leaf n, trivial, ?_⟩
      conv => whnf
      refine ⟨by kernel_rfl, fun _ => ?_⟩
      conv => whnf
      exact ⟨[0, 1, 2, 26], rfl, rfl, .inl rfl, ⟨rfl, ⟨rfl, rfl⟩, .inl rfl, .inl rfl, .inl rfl, ⟨rfl, by simp⟩, trivial⟩, ⟨rfl, rfl, rfl, rfl⟩, ⟨rfl, rfl, rfl, rfl, .inr (new_nl cs n)⟩, trivial⟩
    · exfalso
      have h : seq w coreW = false := h
      rw [hw] at h
      cases h
  · exfalso
    unfold isCore at hc
    split at hc
    · exact h2 rfl
    · cases hc
theorem isCore_none {l : List ByteArray} (h : isCore l = none) (h2 : l.length = 2) : ∃ w a, l = [w, a] ∧ seq w coreW = false := by
  obtain ⟨w, a, rfl⟩ := two_of h2
  refine ⟨w, a, rfl, ?_⟩
  replace h : (bif seq w coreW then some a else none) = none := h
  cases hw : seq w coreW
  · rfl
  · rw [hw] at h; cases h
set_option maxRecDepth 100000 in
theorem k_furtherN (line : ByteArray) (hs : line.size < 4294967281) (mem : List Int) (a b c : Int) (cs : List Cor) (hc : isCore (splitBl line) = none) (hr : ((instrS line).2 = true → cs.length = 0)) :
    K 28 [.ptr 0 0, .tr (ts line)] [obB (.sl 1 mem.length) a b c (.sl 2 cs.length), memBk mem, coresBk cs] (.ret (.tr (tb false))) [none, none, none] := by
  have hsp := k_split line hs
  have hi := k_instr line hs
  generalize splitBl line = l at hsp hc
  generalize instrS line = R at hi hr
  obtain ⟨⟨i1, i2, i3, i4, i5, i6, i7, i8, i9⟩, R2⟩ := R
  simp only at hi hr
  refine Ctr.new [5] hT hmix Tryd.func28 rfl (fun _ _ => by kernel_rfl) rfl fun hok => ?_
  clear hok
  conv => whnf
  refine CutL.by (fun _ : Unit => ⟨[(0, .ptr 0 0), (1, .tr (ts line))], [(0, obB (.sl 1 mem.length) a b c (.sl 2 cs.length)), (1, memBk mem), (2, coresBk cs)], 10⟩) (fun _ => True) ?_ ?_
  · by_cases h2 : l.length = 2
    · obtain ⟨w, m, rfl, hw⟩ := isCore_none hc h2
      conv => whnf
      refine acall.pure _ (hsp) rfl rfl fun _ => ?_
      conv => whnf
      refine ⟨rfl, by decide, (by show (_ : Int) < 2; decide), fun row hrow => ?_⟩
      cases hrow
      conv => whnf
      refine csplit (fun h => ?_) (fun h => ?_)
      · exfalso
        have h : seq w coreW = true := h
        rw [hw] at h
        cases h
      · conv => whnf
        exact ⟨(), [0, 1, 2], [], Sub.mk' rfl ⟨⟨rfl, rfl⟩, .inl rfl, trivial⟩ aut rfl rfl, trivial⟩
    · conv => whnf
      refine acall.pure _ (hsp) rfl rfl fun _ => ?_
      conv => whnf
      refine csplit (fun h => ?_) (fun h => ?_)
      · exfalso
        have h' : (((List.map srow l).length : Nat) : Int) = 2 := by simpa using h
        rw [List.length_map] at h'
        omega
      · conv => whnf
        exact ⟨(), [0, 1, 2], [], Sub.mk' rfl ⟨⟨rfl, rfl⟩, .inl rfl, trivial⟩ aut rfl rfl, trivial⟩
  · rintro - - -
    cases R2
    · conv => whnf
      refine acall.pure _ (hi) rfl rfl fun _ => ?_
      conv => whnf
      exact ⟨[0, 1, 2], rfl, rfl, .inl rfl, aut⟩
    · have h0 := hr rfl
      conv => whnf
      refine acall.pure _ (hi) rfl rfl fun _ => ?_
      conv => whnf
      refine csplit (fun h => ?_) (fun h => ?_)
      · conv => whnf
        exact ⟨[0, 1, 2], rfl, rfl, .inl rfl, aut⟩
      · exfalso
        have h : ((cs.length : Int) == 0) = false := h
        rw [h0] at h
        cases h
theorem ins_leaf (i : Ins) : leafR [i.cells] := by
  intro row hr t ht
  simp only [List.mem_cons, List.not_mem_nil, or_false] at hr
  subst hr
  simp only [Ins.cells, List.mem_cons, List.not_mem_nil, or_false] at ht
  rcases ht with rfl | rfl | rfl | rfl | rfl | rfl | rfl | rfl | rfl <;> exact ⟨_, rfl⟩
theorem set_row {cs : List Cor} {n : Nat} {dn : ByteArray} {t : Tr} (hn : n < cs.length) : setC ((cs.map Cor.cells).set n [ts dn, .v (.slice none 0 0)]) n 1 t = (cs.map Cor.cells).set n [ts dn, t] := by
  unfold setC
  rw [List.getElem?_set_self (by rw [List.length_map]; exact hn), List.set_set]
  rfl
theorem addI_at {cs : List Cor} {i : Ins} {c : Cor} (h : cs[cs.length - 1]? = some c) : addI cs i = cs.set (cs.length - 1) ⟨c.name, c.code ++ [i]⟩ := by
  unfold addI; rw [h]
set_option maxRecDepth 100000 in
theorem k_furtherI (line : ByteArray) (hs : line.size < 4294967281) (mem : List Int) (a b c : Int) (cs : List Cor) (hn : cs.length ≤ 16777216) (hcd : ∀ c ∈ cs, c.code.length ≤ 16777216) (hc : isCore (splitBl line) = none) (hr : (instrS line).2 = true) (h0 : cs.length ≠ 0) :
    K 28 [.ptr 0 0, .tr (ts line)] [obB (.sl 1 mem.length) a b c (.sl 2 cs.length), memBk mem, coresBk cs] (.ret (.tr (tb true))) [some (obB (.sl 1 mem.length) a b c (.sl 2 (addI cs (instrS line).1).length)), some (memBk mem), some (coresBk (addI cs (instrS line).1))] := by
  have hsp := k_split line hs
  have hi := k_instr line hs
  generalize splitBl line = l at hsp hc
  generalize instrS line = R at hi hr ⊢
  obtain ⟨⟨i1, i2, i3, i4, i5, i6, i7, i8, i9⟩, R2⟩ := R
  simp only at hi hr
  subst hr
  obtain ⟨d, hd⟩ : ∃ d, cs[cs.length - 1]? = some d := ⟨cs[cs.length - 1]'(by omega), by simp⟩
  rw [addI_at hd]
  have hdc := hcd d (List.mem_of_getElem? hd)
  refine Ctr.pk [5] hT hmix Tryd.func28 rfl (fun _ _ => by kernel_rfl) rfl fun hok => ?_
  clear hok
  conv => whnf
  refine CutL.by (fun _ : Unit => ⟨[(0, .ptr 0 0), (1, .tr (ts line))], [(0, obB (.sl 1 mem.length) a b c (.sl 2 cs.length)), (1, memBk mem), (2, coresBk cs)], 10⟩) (fun _ => True) ?_ ?_
  · by_cases h2 : l.length = 2
    · obtain ⟨w, m, rfl, hw⟩ := isCore_none hc h2
      conv => whnf
      refine acall.pure _ (hsp) rfl rfl fun _ => ?_
      conv => whnf
      refine ⟨rfl, by decide, (by show (_ : Int) < 2; decide), fun row hrow => ?_⟩
      cases hrow
      conv => whnf
      refine csplit (fun h => ?_) (fun h => ?_)
      · exfalso
        have h : seq w coreW = true := h
        rw [hw] at h
        cases h
      · conv => whnf
        exact ⟨(), [0, 1, 2], [], Sub.mk' rfl ⟨⟨rfl, rfl⟩, .inl rfl, trivial⟩ aut rfl rfl, trivial⟩
    · conv => whnf
      refine acall.pure _ (hsp) rfl rfl fun _ => ?_
      conv => whnf
      refine csplit (fun h => ?_) (fun h => ?_)
      · exfalso
        have h' : (((List.map srow l).length : Nat) : Int) = 2 := by simpa using h
        rw [List.length_map] at h'
        omega
      · conv => whnf
        exact ⟨(), [0, 1, 2], [], Sub.mk' rfl ⟨⟨rfl, rfl⟩, .inl rfl, trivial⟩ aut rfl rfl, trivial⟩
  · rintro - - -
    conv => whnf
    refine acall.pure _ (hi) rfl rfl fun _ => ?_
    conv => whnf
    refine csplit (fun h => ?_) (fun h => ?_)
    · exfalso
      have h : ((cs.length : Int) == 0) = true := h
      have := of_decide_eq_true h
      omega
    conv => whnf
    have hw : IntKind.i64.wrap ((cs.length : Int) - 1) = ((cs.length - 1 : Nat) : Int) := by rw [w64 (by omega) (by omega)]; omega
    generalize IntKind.i64.wrap ((cs.length : Int) - 1) = z at hw
    subst hw
    refine ⟨rfl, by omega, by omega, ?_⟩
    conv => whnf
    refine ⟨by kernel_rfl, fun _ => ?_⟩
    conv => whnf
    have e : (List.map Cor.cells cs)[cs.length - 1]? = some (Cor.cells d) := by rw [List.getElem?_map, hd]; rfl
    obtain ⟨dn, dc⟩ := d
    refine ⟨rfl, (show cs.length - 1 < _ by rw [List.length_map]; omega), fun row hrow => ?_⟩
    replace hrow : (List.map Cor.cells cs)[cs.length - 1]? = some row := hrow
    rw [e] at hrow
    cases hrow
    refine ⟨(show (1 : Nat) < 2 by decide), fun t ht => ?_⟩
    cases ht
    conv => whnf
    refine ⟨by decide, ?_⟩
    conv => whnf
    refine ⟨by simp, rfl, Nat.le_refl _, (show ((dc.map Ins.cells).length + 1) * 64 ≤ 150000000000000 by rw [List.length_map]; simp only at hdc; omega), trivial, ins_leaf ⟨i1, i2, i3, i4, i5, i6, i7, i8, i9⟩, trivial, ?_⟩
    conv => whnf
    refine ⟨rfl, rfl, rfl, (show cs.length - 1 < _ by rw [List.length_map]; omega), ⟨fun _ => rfl, trivial⟩, fun row hrow => ?_⟩
    replace hrow : (List.map Cor.cells cs)[cs.length - 1]? = some row := hrow
    rw [e] at hrow
    cases hrow
    refine ⟨(show (2 : Nat) ≤ 2 by decide), ?_⟩
    conv => whnf
    refine ⟨by kernel_rfl, fun _ => ?_⟩
    conv => whnf
    refine ⟨[2], ?_⟩
    conv => whnf
    refine ⟨rfl, rfl, (show (dc.map Ins.cells).length + 1 ≤ (dc.map Ins.cells ++ [Ins.cells ⟨i1, i2, i3, i4, i5, i6, i7, i8, i9⟩]).length by simp), ?_⟩
    refine ⟨[0, 1, 2], rfl, rfl, .inl rfl, ⟨rfl, ⟨rfl, rfl⟩, .inl rfl, .inl rfl, .inl rfl, ⟨rfl, by simp⟩, trivial⟩, ⟨rfl, rfl, rfl, rfl⟩, ⟨rfl, rfl, rfl, rfl, .inl ?_⟩, trivial⟩
    show setC ((cs.map Cor.cells).set (cs.length - 1) [ts dn, .v (.slice none 0 0)]) (cs.length - 1) 1 (.lst 9 64 ((dc.map Ins.cells ++ [Ins.cells ⟨i1, i2, i3, i4, i5, i6, i7, i8, i9⟩]).take ((dc.map Ins.cells).length + 1))) = (cs.set (cs.length - 1) ⟨dn, dc ++ [⟨i1, i2, i3, i4, i5, i6, i7, i8, i9⟩]⟩).map Cor.cells
    rw [set_row (by omega), List.take_of_length_le (by simp), List.map_set]
    show List.set _ _ [ts dn, _] = List.set _ _ [ts dn, codeT (dc ++ [_])]
    rw [codeT, List.map_append]
    rfl
end Go.Proofs.YtffhoknkfohfgaaDoor.am
