/- The layings of the library's contracts (written by the kit's lay-shelf and lay-plain). Contracts of Go's library, and of reading and writing words, for the abstract machine. Contracts of strings.Join and strings.Split at a blank, for the abstract machine. Contracts of target: the writer's methods. Contracts of target: numbers, kinds and fields of a text. Contract of target.instr. Contracts of target.head and target.memory. Contract of target.further. Contract of target.Parse. -/
import Derived.Shelf.Strings.Builder1
import Derived.Shelf.Strings.Builder2
import Derived.Shelf.Strings.OnBuilder
import Derived.Shelf.Small.Strs
import Derived.Shelf.Strings.Builder2Cap
import Derived.Shelf.Strconv.Itoa0
import Derived.Shelf.Strconv.Itoa1
import Derived.Shelf.LaysM
import Derived.Shelf.Strconv.Itoa2
import Derived.Shelf.Strconv.Itoa3
import Derived.Shelf.Strings.Search1
import Derived.Shelf.Strings.Search2
import Derived.Shelf.Strings.Search3
import Derived.Shelf.Strings.Count
import Derived.Shelf.Strings.Shaped
import Derived.Shelf.Strings.Prefix
import Derived.Shelf.Strings.Split
import Derived.Shelf.Strings.SplitShaped
import Derived.Shelf.Bits.Mul64
import Derived.Shelf.Unicode.DecodeSlow
import Derived.Shelf.Unicode.DecodeAny
import Derived.Test.YtffhoknkfohfgaaDoorProg
import Derived.Test.YtffhoknkfohfgaaDoorM6
import Derived.Lib.ItoaLen
import Derived.Lib.AppendIntMem
set_option linter.all false

set_option linter.all false
namespace Go.Proofs
open Go.Shelf
def Tryd.lays156_ren : Go.Shelf.Ren := ⟨fun | 156 => 67 | 165 => 84 | 166 => 85 | 169 => 86 | 240 => 96 | 241 => 97 | 276 => 107 | 277 => 108 | n => n, fun | 31 => 94 | 9 => 9 | 3 => 3 | 4 => 4 | 0 => 0 | 20 => 20 | 72 => 130 | 76 => 133 | 70 => 128 | 37 => 38 | 75 => 132 | 127 => 143 | 164 => 153 | 5 => 5 | 80 => 92 | n => n, fun | n => n⟩
theorem Tryd.lays156 : Go.Proofs.Lays.n156 Tryd.prog Tryd.lays156_ren := {
  mixed := by kernel_rfl
  f156 := Tryd.func67.trans (congrArg some (by kernel_rfl))
  f165 := Tryd.func84.trans (congrArg some (by kernel_rfl))
  f166 := Tryd.func85.trans (congrArg some (by kernel_rfl))
  f169 := Tryd.func86.trans (congrArg some (by kernel_rfl))
  f240 := Tryd.func96.trans (congrArg some (by kernel_rfl))
  f241 := Tryd.func97.trans (congrArg some (by kernel_rfl))
  f276 := Tryd.func107.trans (congrArg some (by kernel_rfl))
  f277 := Tryd.func108.trans (congrArg some (by kernel_rfl))
  t0 := Tryd.underlying0
  a0 := Tryd.isAgg0
  z0 := Tryd.sizeOf0
  v0 := Tryd.zeroValue0
  t3 := Tryd.underlying3
  a3 := Tryd.isAgg3
  z3 := Tryd.sizeOf3
  v3 := Tryd.zeroValue3
  t4 := Tryd.underlying4
  a4 := Tryd.isAgg4
  z4 := Tryd.sizeOf4
  v4 := Tryd.zeroValue4
  t9 := Tryd.underlying9
  a9 := Tryd.isAgg9
  z9 := Tryd.sizeOf9
  v9 := Tryd.zeroValue9
  t20 := Tryd.underlying20
  a20 := Tryd.isAgg20
  z20 := Tryd.sizeOf20
  v20 := Tryd.zeroValue20
  t31 := Tryd.underlying94
  a31 := Tryd.isAgg94
  z31 := Tryd.sizeOf94
  v31 := Tryd.zeroValue94
  t37 := Tryd.underlying38
  a37 := Tryd.isAgg38
  z37 := Tryd.sizeOf38
  v37 := Tryd.zeroValue38
  t70 := Tryd.underlying128
  a70 := Tryd.isAgg128
  z70 := Tryd.sizeOf128
  v70 := Tryd.zeroValue128
  t72 := Tryd.underlying130
  a72 := Tryd.isAgg130
  z72 := Tryd.sizeOf130
  v72 := Tryd.zeroValue130
  t75 := Tryd.underlying132
  a75 := Tryd.isAgg132
  z75 := Tryd.sizeOf132
  v75 := Tryd.zeroValue132
  t76 := Tryd.underlying133
  a76 := Tryd.isAgg133
  z76 := Tryd.sizeOf133
  v76 := Tryd.zeroValue133
  t127 := Tryd.underlying143
  a127 := Tryd.isAgg143
  z127 := Tryd.sizeOf143
  v127 := Tryd.zeroValue143
  t164 := Tryd.underlying153
  a164 := Tryd.isAgg153
  z164 := Tryd.sizeOf153
  v164 := Tryd.zeroValue153 }
theorem Tryd.Builder_Extra_156 : Builder.Extra Tryd.prog Tryd.lays156_ren := {
  sizeBuilder := by kernel_rfl
  liesBuilder := by kernel_rfl
  t5 := Tryd.underlying5
  a5 := Tryd.isAgg5
  z5 := Tryd.sizeOf5
  v5 := Tryd.zeroValue5
  infoByte := by kernel_rfl
  cellsByte := by kernel_rfl
  sizeByte := by kernel_rfl
  neB5 := by decide }
def Tryd.lays137_ren : Go.Shelf.Ren := ⟨fun | 137 => 27 | 217 => 49 | 266 => 71 | n => n, fun | 9 => 9 | 5 => 5 | 3 => 3 | n => n, fun | n => n⟩
theorem Tryd.lays137 : Go.Proofs.Lays.n137 Tryd.prog Tryd.lays137_ren := {
  mixed := by kernel_rfl
  f137 := Tryd.func27.trans (congrArg some (by kernel_rfl))
  f217 := Tryd.func49.trans (congrArg some (by kernel_rfl))
  f266 := Tryd.func71.trans (congrArg some (by kernel_rfl))
  t3 := Tryd.underlying3
  a3 := Tryd.isAgg3
  z3 := Tryd.sizeOf3
  v3 := Tryd.zeroValue3
  t5 := Tryd.underlying5
  a5 := Tryd.isAgg5
  z5 := Tryd.sizeOf5
  v5 := Tryd.zeroValue5
  t9 := Tryd.underlying9
  a9 := Tryd.isAgg9
  z9 := Tryd.sizeOf9
  v9 := Tryd.zeroValue9 }
def Tryd.laysM171_ren : Go.Shelf.Ren := ⟨fun | 171 => 42 | 243 => 58 | 246 => 82 | 283 => 92 | 284 => 93 | 285 => 94 | 286 => 95 | 129 => 103 | 317 => 102 | 318 => 104 | 319 => 105 | 320 => 106 | 337 => 113 | 338 => 114 | n => n, fun | 3 => 3 | 9 => 9 | 2 => 2 | 4 => 4 | 171 => 138 | 0 => 0 | 53 => 66 | 37 => 38 | 5 => 5 | 173 => 141 | 212 => 148 | 51 => 149 | 20 => 20 | 213 => 150 | 46 => 103 | 232 => 163 | 233 => 164 | n => n, fun | 17 => 1 | 18 => 4 | 19 => 5 | n => n⟩
theorem Tryd.laysM171 : Go.Proofs.LaysM.n171 Tryd.prog Tryd.laysM171_ren := {
  mixed := by kernel_rfl
  f129 := Tryd.func103.trans (congrArg some (by kernel_rfl))
  f171 := Tryd.func42.trans (congrArg some (by kernel_rfl))
  f243 := Tryd.func58.trans (congrArg some (by kernel_rfl))
  f246 := Tryd.func82.trans (congrArg some (by kernel_rfl))
  f283 := Tryd.func92.trans (congrArg some (by kernel_rfl))
  f284 := Tryd.func93.trans (congrArg some (by kernel_rfl))
  f285 := Tryd.func94.trans (congrArg some (by kernel_rfl))
  f286 := Tryd.func95.trans (congrArg some (by kernel_rfl))
  f317 := Tryd.func102.trans (congrArg some (by kernel_rfl))
  f318 := Tryd.func104.trans (congrArg some (by kernel_rfl))
  f319 := Tryd.func105.trans (congrArg some (by kernel_rfl))
  f320 := Tryd.func106.trans (congrArg some (by kernel_rfl))
  f337 := Tryd.func113.trans (congrArg some (by kernel_rfl))
  f338 := Tryd.func114.trans (congrArg some (by kernel_rfl))
  t0 := Tryd.underlying0
  a0 := Tryd.isAgg0
  z0 := Tryd.sizeOf0
  v0 := Tryd.zeroValue0
  t2 := Tryd.underlying2
  a2 := Tryd.isAgg2
  z2 := Tryd.sizeOf2
  v2 := Tryd.zeroValue2
  t3 := Tryd.underlying3
  a3 := Tryd.isAgg3
  z3 := Tryd.sizeOf3
  v3 := Tryd.zeroValue3
  t4 := Tryd.underlying4
  a4 := Tryd.isAgg4
  z4 := Tryd.sizeOf4
  v4 := Tryd.zeroValue4
  t5 := Tryd.underlying5
  a5 := Tryd.isAgg5
  z5 := Tryd.sizeOf5
  v5 := Tryd.zeroValue5
  t9 := Tryd.underlying9
  a9 := Tryd.isAgg9
  z9 := Tryd.sizeOf9
  v9 := Tryd.zeroValue9
  t20 := Tryd.underlying20
  a20 := Tryd.isAgg20
  z20 := Tryd.sizeOf20
  v20 := Tryd.zeroValue20
  t37 := Tryd.underlying38
  a37 := Tryd.isAgg38
  z37 := Tryd.sizeOf38
  v37 := Tryd.zeroValue38
  t46 := Tryd.underlying103
  a46 := Tryd.isAgg103
  z46 := Tryd.sizeOf103
  v46 := Tryd.zeroValue103
  t51 := Tryd.underlying149
  a51 := Tryd.isAgg149
  z51 := Tryd.sizeOf149
  v51 := Tryd.zeroValue149
  t53 := Tryd.underlying66
  a53 := Tryd.isAgg66
  z53 := Tryd.sizeOf66
  v53 := Tryd.zeroValue66
  t171 := Tryd.underlying138
  a171 := Tryd.isAgg138
  z171 := Tryd.sizeOf138
  v171 := Tryd.zeroValue138
  t173 := Tryd.underlying141
  a173 := Tryd.isAgg141
  z173 := Tryd.sizeOf141
  v173 := Tryd.zeroValue141
  t212 := Tryd.underlying148
  a212 := Tryd.isAgg148
  z212 := Tryd.sizeOf148
  v212 := Tryd.zeroValue148
  t213 := Tryd.underlying150
  a213 := Tryd.isAgg150
  z213 := Tryd.sizeOf150
  t232 := Tryd.underlying163
  a232 := Tryd.isAgg163
  z232 := Tryd.sizeOf163
  v232 := Tryd.zeroValue163
  t233 := Tryd.underlying164
  a233 := Tryd.isAgg164
  z233 := Tryd.sizeOf164
  v233 := Tryd.zeroValue164
  g17 := by kernel_rfl
  g18 := by kernel_rfl
  g19 := by kernel_rfl
  i0 := by kernel_rfl
  i2 := by kernel_rfl
  i3 := by kernel_rfl
  i4 := by kernel_rfl
  i5 := by kernel_rfl
  i9 := by kernel_rfl
  i20 := by kernel_rfl
  i37 := by kernel_rfl
  i46 := by kernel_rfl
  i51 := by kernel_rfl
  i53 := by kernel_rfl
  i171 := by kernel_rfl
  i173 := by kernel_rfl
  i212 := by kernel_rfl
  i232 := by kernel_rfl
  i233 := by kernel_rfl
  m17 := by kernel_rfl
  m18 := by kernel_rfl
  m19 := by kernel_rfl }
def Tryd.lays143_ren : Go.Shelf.Ren := ⟨fun | 143 => 89 | 219 => 101 | 217 => 49 | 225 => 110 | 224 => 111 | 267 => 112 | 266 => 71 | 314 => 115 | n => n, fun | 9 => 9 | 3 => 3 | 4 => 4 | 5 => 5 | 46 => 103 | 146 => 161 | 51 => 149 | n => n, fun | 1 => 0 | n => n⟩
theorem Tryd.lays143 : Go.Proofs.Lays.n143 Tryd.prog Tryd.lays143_ren := {
  mixed := by kernel_rfl
  f143 := Tryd.func89.trans (congrArg some (by kernel_rfl))
  f217 := Tryd.func49.trans (congrArg some (by kernel_rfl))
  f219 := Tryd.func101.trans (congrArg some (by kernel_rfl))
  f224 := Tryd.func111.trans (congrArg some (by kernel_rfl))
  f225 := Tryd.func110.trans (congrArg some (by kernel_rfl))
  f266 := Tryd.func71.trans (congrArg some (by kernel_rfl))
  f267 := Tryd.func112.trans (congrArg some (by kernel_rfl))
  f314 := Tryd.func115.trans (congrArg some (by kernel_rfl))
  t3 := Tryd.underlying3
  a3 := Tryd.isAgg3
  z3 := Tryd.sizeOf3
  v3 := Tryd.zeroValue3
  t4 := Tryd.underlying4
  a4 := Tryd.isAgg4
  z4 := Tryd.sizeOf4
  v4 := Tryd.zeroValue4
  t5 := Tryd.underlying5
  a5 := Tryd.isAgg5
  z5 := Tryd.sizeOf5
  v5 := Tryd.zeroValue5
  t9 := Tryd.underlying9
  a9 := Tryd.isAgg9
  z9 := Tryd.sizeOf9
  v9 := Tryd.zeroValue9
  t46 := Tryd.underlying103
  a46 := Tryd.isAgg103
  z46 := Tryd.sizeOf103
  v46 := Tryd.zeroValue103
  t51 := Tryd.underlying149
  a51 := Tryd.isAgg149
  z51 := Tryd.sizeOf149
  v51 := Tryd.zeroValue149
  t146 := Tryd.underlying161
  a146 := Tryd.isAgg161
  z146 := Tryd.sizeOf161
  v146 := Tryd.zeroValue161
  g1 := by kernel_rfl }
def Tryd.lays138_ren : Go.Shelf.Ren := ⟨fun | 138 => 88 | 195 => 98 | 218 => 100 | 143 => 89 | 219 => 101 | 217 => 49 | 225 => 110 | 224 => 111 | 267 => 112 | 266 => 71 | 314 => 115 | n => n, fun | 9 => 9 | 3 => 3 | 4 => 4 | 5 => 5 | 0 => 0 | 46 => 103 | 146 => 161 | 51 => 149 | n => n, fun | 1 => 0 | n => n⟩
theorem Tryd.lays138 : Go.Proofs.Lays.n138 Tryd.prog Tryd.lays138_ren := {
  mixed := by kernel_rfl
  f138 := Tryd.func88.trans (congrArg some (by kernel_rfl))
  f143 := Tryd.func89.trans (congrArg some (by kernel_rfl))
  f195 := Tryd.func98.trans (congrArg some (by kernel_rfl))
  f217 := Tryd.func49.trans (congrArg some (by kernel_rfl))
  f218 := Tryd.func100.trans (congrArg some (by kernel_rfl))
  f219 := Tryd.func101.trans (congrArg some (by kernel_rfl))
  f224 := Tryd.func111.trans (congrArg some (by kernel_rfl))
  f225 := Tryd.func110.trans (congrArg some (by kernel_rfl))
  f266 := Tryd.func71.trans (congrArg some (by kernel_rfl))
  f267 := Tryd.func112.trans (congrArg some (by kernel_rfl))
  f314 := Tryd.func115.trans (congrArg some (by kernel_rfl))
  t0 := Tryd.underlying0
  a0 := Tryd.isAgg0
  z0 := Tryd.sizeOf0
  v0 := Tryd.zeroValue0
  t3 := Tryd.underlying3
  a3 := Tryd.isAgg3
  z3 := Tryd.sizeOf3
  v3 := Tryd.zeroValue3
  t4 := Tryd.underlying4
  a4 := Tryd.isAgg4
  z4 := Tryd.sizeOf4
  v4 := Tryd.zeroValue4
  t5 := Tryd.underlying5
  a5 := Tryd.isAgg5
  z5 := Tryd.sizeOf5
  v5 := Tryd.zeroValue5
  t9 := Tryd.underlying9
  a9 := Tryd.isAgg9
  z9 := Tryd.sizeOf9
  v9 := Tryd.zeroValue9
  t46 := Tryd.underlying103
  a46 := Tryd.isAgg103
  z46 := Tryd.sizeOf103
  v46 := Tryd.zeroValue103
  t51 := Tryd.underlying149
  a51 := Tryd.isAgg149
  z51 := Tryd.sizeOf149
  v51 := Tryd.zeroValue149
  t146 := Tryd.underlying161
  a146 := Tryd.isAgg161
  z146 := Tryd.sizeOf161
  v146 := Tryd.zeroValue161
  g1 := by kernel_rfl }
def Tryd.lays99_ren : Go.Shelf.Ren := ⟨fun | 99 => 73 | 206 => 90 | n => n, fun | 9 => 9 | 4 => 4 | 3 => 3 | n => n, fun | n => n⟩
theorem Tryd.lays99 : Go.Proofs.Lays.n99 Tryd.prog Tryd.lays99_ren := {
  mixed := by kernel_rfl
  f99 := Tryd.func73.trans (congrArg some (by kernel_rfl))
  f206 := Tryd.func90.trans (congrArg some (by kernel_rfl))
  t3 := Tryd.underlying3
  a3 := Tryd.isAgg3
  z3 := Tryd.sizeOf3
  v3 := Tryd.zeroValue3
  t4 := Tryd.underlying4
  a4 := Tryd.isAgg4
  z4 := Tryd.sizeOf4
  v4 := Tryd.zeroValue4
  t9 := Tryd.underlying9
  a9 := Tryd.isAgg9
  z9 := Tryd.sizeOf9
  v9 := Tryd.zeroValue9 }
def Tryd.lays221_ren : Go.Shelf.Ren := ⟨fun | 221 => 72 | 268 => 87 | 138 => 88 | 143 => 89 | 195 => 98 | 197 => 99 | 218 => 100 | 219 => 101 | 260 => 109 | 217 => 49 | 225 => 110 | 224 => 111 | 267 => 112 | 266 => 71 | 314 => 115 | n => n, fun | 9 => 9 | 3 => 3 | 31 => 94 | 4 => 4 | 0 => 0 | 105 => 145 | 21 => 21 | 5 => 5 | 46 => 103 | 119 => 157 | 139 => 160 | 138 => 159 | 146 => 161 | 51 => 149 | n => n, fun | 1 => 0 | 3 => 2 | 4 => 3 | n => n⟩
theorem Tryd.lays221 : Go.Proofs.Lays.n221 Tryd.prog Tryd.lays221_ren := {
  mixed := by kernel_rfl
  f138 := Tryd.func88.trans (congrArg some (by kernel_rfl))
  f143 := Tryd.func89.trans (congrArg some (by kernel_rfl))
  f195 := Tryd.func98.trans (congrArg some (by kernel_rfl))
  f197 := Tryd.func99.trans (congrArg some (by kernel_rfl))
  f217 := Tryd.func49.trans (congrArg some (by kernel_rfl))
  f218 := Tryd.func100.trans (congrArg some (by kernel_rfl))
  f219 := Tryd.func101.trans (congrArg some (by kernel_rfl))
  f221 := Tryd.func72.trans (congrArg some (by kernel_rfl))
  f224 := Tryd.func111.trans (congrArg some (by kernel_rfl))
  f225 := Tryd.func110.trans (congrArg some (by kernel_rfl))
  f260 := Tryd.func109.trans (congrArg some (by kernel_rfl))
  f266 := Tryd.func71.trans (congrArg some (by kernel_rfl))
  f267 := Tryd.func112.trans (congrArg some (by kernel_rfl))
  f268 := Tryd.func87.trans (congrArg some (by kernel_rfl))
  f314 := Tryd.func115.trans (congrArg some (by kernel_rfl))
  t0 := Tryd.underlying0
  a0 := Tryd.isAgg0
  z0 := Tryd.sizeOf0
  v0 := Tryd.zeroValue0
  t3 := Tryd.underlying3
  a3 := Tryd.isAgg3
  z3 := Tryd.sizeOf3
  v3 := Tryd.zeroValue3
  t4 := Tryd.underlying4
  a4 := Tryd.isAgg4
  z4 := Tryd.sizeOf4
  v4 := Tryd.zeroValue4
  t5 := Tryd.underlying5
  a5 := Tryd.isAgg5
  z5 := Tryd.sizeOf5
  v5 := Tryd.zeroValue5
  t9 := Tryd.underlying9
  a9 := Tryd.isAgg9
  z9 := Tryd.sizeOf9
  v9 := Tryd.zeroValue9
  t21 := Tryd.underlying21
  a21 := Tryd.isAgg21
  z21 := Tryd.sizeOf21
  v21 := Tryd.zeroValue21
  t31 := Tryd.underlying94
  a31 := Tryd.isAgg94
  z31 := Tryd.sizeOf94
  v31 := Tryd.zeroValue94
  t46 := Tryd.underlying103
  a46 := Tryd.isAgg103
  z46 := Tryd.sizeOf103
  v46 := Tryd.zeroValue103
  t51 := Tryd.underlying149
  a51 := Tryd.isAgg149
  z51 := Tryd.sizeOf149
  v51 := Tryd.zeroValue149
  t105 := Tryd.underlying145
  a105 := Tryd.isAgg145
  z105 := Tryd.sizeOf145
  v105 := Tryd.zeroValue145
  t119 := Tryd.underlying157
  a119 := Tryd.isAgg157
  z119 := Tryd.sizeOf157
  t138 := Tryd.underlying159
  a138 := Tryd.isAgg159
  z138 := Tryd.sizeOf159
  v138 := Tryd.zeroValue159
  t139 := Tryd.underlying160
  a139 := Tryd.isAgg160
  z139 := Tryd.sizeOf160
  v139 := Tryd.zeroValue160
  t146 := Tryd.underlying161
  a146 := Tryd.isAgg161
  z146 := Tryd.sizeOf161
  v146 := Tryd.zeroValue161
  g1 := by kernel_rfl
  g3 := by kernel_rfl
  g4 := by kernel_rfl }

end Go.Proofs

namespace Go.Proofs.YtffhoknkfohfgaaDoor.am
open Go Go.Proofs Go.RowKit

/-- a contract out of a law on calls: a function that only makes blocks of its own -/
theorem Ctr.ofCalls {f : Nat} {args : List AV} {a : AV} (hc : Callable Tryd.prog f) (h : ∀ (g : Gh) (w : World) (vs : Array Value), MSt g w (ofL []) → vs.size = args.length → (∀ (i : Nat) (v : Value) (a : AV), vs[i]? = some v → args[i]? = some a → Rep g w v a) →
    Calls Tryd.prog f vs w fun e w' => ∃ v, e = .returned v ∧ Below w.heap.size w w' ∧ (Grow g w g w' → MSt g w' (ofLO []) → Rep g w' v a)) : K f args [] (.ret a) [] := by
  refine ⟨hc, fun g w vs hun hm hsz hv => (h g w vs hm hsz hv).mono ?_⟩
  rintro e w' ⟨v, rfl, hb, hR⟩
  have hG : Grow g w g w' := ⟨hb.os, hb.tape, hb.output, hb.size, fun b hk => hb.block b hk.1, fun b hk => hb.block b (hm.xlt b hk), rfl, fun _ h => h, fun _ _ h => .inl h, fun k b e => .inl ⟨k, e⟩⟩
  have hM : MSt g w' (ofLO []) := ⟨fun h b e => (by simp [ofLO] at e), hm.inj, fun k b e => Nat.lt_of_lt_of_le (hm.lt k b e) hb.size, fun b hk => Nat.lt_of_lt_of_le (hm.xlt b hk) hb.size, hm.xl, hm.gl.grow hG⟩
  exact ⟨g, hG, hM, fun k _ l hl => (by have := hun k (Nat.zero_le _); rw [this] at hl; cases hl), hR hG hM⟩
theorem one_arg {vs : Array Value} (h : vs.size = 1) : ∃ v, vs = #[v] := by
  obtain ⟨l⟩ := vs
  match l, h with
  | [v], _ => exact ⟨v, rfl⟩
theorem two_arg {vs : Array Value} (h : vs.size = 2) : ∃ v u, vs = #[v, u] := by
  obtain ⟨l⟩ := vs
  match l, h with
  | [v, u], _ => exact ⟨v, u, rfl⟩
theorem four_arg {vs : Array Value} (h : vs.size = 4) : ∃ v u x y, vs = #[v, u, x, y] := by
  obtain ⟨l⟩ := vs
  match l, h with
  | [v, u, x, y], _ => exact ⟨v, u, x, y, rfl⟩

/-! the table of the powers of ten -/
theorem powTab {g : Gh} {w : World} (h : GL g w) {name : String} (hn : Tryd.prog.globalNamed name = some 1) : Lib.TabIs Tryd.prog w name .u64 Lib.pow10Tab := by
  obtain ⟨_, t, fz, e⟩ := h _ _ ⟨rfl, rfl⟩
  unfold Lib.TabIs World.var?
  rw [hn, Option.bind_some, e]
  rfl

def prnB (n : Int) : ByteArray := ⟨(ws.prn n).toArray⟩
theorem decDigits_dig (u : Nat) : Lib.decDigits u = ws.dig u := by
  induction u using Nat.strongRecOn with
  | _ u ih =>
    by_cases h : u < 10
    · rw [Lib.decDigits, dif_pos h, ws.dig_small h]; rfl
    · rw [Lib.decDigits, dif_neg h, ws.dig_big h, ih (u / 10) (by omega)]; rfl
theorem itoa_prn (n : Int) : Lib.itoa n = ws.prn n := by
  unfold Lib.itoa ws.prn
  split
  · rw [decDigits_dig, show n.natAbs = (-n).toNat by omega]
  · rw [decDigits_dig]
theorem prn_len {n : Int} (h1 : -9223372036854775808 ≤ n) (h2 : n ≤ 9223372036854775807) : (prnB n).size ≤ 21 := by
  show (ws.prn n).toArray.size ≤ 21
  rw [List.size_toArray, ← itoa_prn]
  exact Lib.itoa_length_le n h1 h2
theorem k_itoa (n : Int) : K 42 [.tr (ti n)] [] (.ret (.tr (ts (prnB n)))) [] := by
  refine Ctr.ofCalls (fun _ _ => by kernel_rfl) fun g w vs hm hsz hv => ?_
  obtain ⟨v, rfl⟩ := one_arg hsz
  obtain ⟨rfl, h1, h2⟩ := val_inv (hv 0 v (.tr (ti n)) rfl rfl)
  refine (Any.strconv_Itoa Tryd.laysM171 n h1 h2 w (powTab hm.gl (by kernel_rfl))).mono ?_
  rintro e w' ⟨rfl, k, os, rfl⟩
  rw [itoa_prn]
  exact ⟨_, rfl, Lib.below_grow _ _ (Nat.le_refl _) _ _, fun _ _ => .tr (.v (Nat.le_trans (prn_len h1 h2) (by omega)))⟩
theorem k_print (n : Int) : K 43 [.tr (ti n)] [] (.ret (.tr (ts (prnB n)))) [] := by
  refine Ctr.ofCalls (fun _ _ => by kernel_rfl) fun g w vs hm hsz hv => ?_
  obtain ⟨v, rfl⟩ := one_arg hsz
  obtain ⟨rfl, h1, h2⟩ := val_inv (hv 0 v (.tr (ti n)) rfl rfl)
  refine (ws.print_any n w h1 h2).mono ?_
  rintro e w' ⟨rfl, hb⟩
  exact ⟨_, rfl, hb, fun _ _ => .tr (.v (Nat.le_trans (prn_len h1 h2) (by omega)))⟩
/-- what Parse gives: the word, the error's number, the place -/
def prsB (s : ByteArray) : Int × Int × Int := ws.prs s.data.toList
theorem pgo_in {neg : Bool} {at_ : Nat} : ∀ (l : List UInt8) (i n : Nat), n ≤ ws.most neg → i + l.length ≤ 9223372036854775807 →
    (-9223372036854775808 ≤ (ws.pgo neg at_ l i n).1 ∧ (ws.pgo neg at_ l i n).1 ≤ 9223372036854775807) ∧ ((ws.pgo neg at_ l i n).2.1 = 0 ∨ (ws.pgo neg at_ l i n).2.1 = 10) ∧ 0 ≤ (ws.pgo neg at_ l i n).2.2 ∧ (ws.pgo neg at_ l i n).2.2 ≤ 9223372036854775807
  | [], i, n, h, hl => by
    simp only [List.length_nil] at hl
    unfold ws.pgo
    split
    · exact ⟨⟨by simp, by simp⟩, .inr rfl, by simp, by simp; omega⟩
    · refine ⟨?_, .inl rfl, by simp, by simp⟩
      cases neg with
      | true => have h : n ≤ 9223372036854775808 := h; simp only [ws.okV, if_true]; omega
      | false => have h : n ≤ 9223372036854775807 := h; simp only [ws.okV]; simp; omega
  | c :: r, i, n, h, hl => by
    simp only [List.length_cons] at hl
    unfold ws.pgo
    split
    · exact ⟨⟨by simp, by simp⟩, .inr rfl, by simp, by simp; omega⟩
    · rename_i hb
      refine pgo_in r (i + 1) _ ?_ (by omega)
      apply Decidable.byContradiction
      intro hc
      refine hb ?_
      unfold ws.bad
      simp
      omega
theorem prs_in (s : ByteArray) (hs : s.size ≤ 9223372036854775807) : (-9223372036854775808 ≤ (prsB s).1 ∧ (prsB s).1 ≤ 9223372036854775807) ∧ ((prsB s).2.1 = 0 ∨ (prsB s).2.1 = 10) ∧ 0 ≤ (prsB s).2.2 ∧ (prsB s).2.2 ≤ 9223372036854775807 := by
  have hl : s.data.toList.length = s.size := by simp
  unfold prsB ws.prs
  split
  · rename_i h
    have : 0 < s.data.toList.length := by
      unfold ws.isNeg at h
      cases hd : s.data.toList with
      | nil => rw [hd] at h; cases h
      | cons _ _ => simp
    exact pgo_in _ _ _ (Nat.zero_le _) (by rw [List.length_drop]; omega)
  · exact pgo_in _ _ _ (Nat.zero_le _) (by omega)
theorem k_parseW (s : ByteArray) : K 53 [.tr (ts s)] [] (.ret (.tup [.tr (ti (prsB s).1), .tr (ti (prsB s).2.1), .tr (ti (prsB s).2.2)])) [] := by
  refine Ctr.ofCalls (fun _ _ => by kernel_rfl) fun g w vs hm hsz hv => ?_
  obtain ⟨v, rfl⟩ := one_arg hsz
  obtain ⟨rfl, h1⟩ := val_inv (hv 0 v (.tr (ts s)) rfl rfl)
  have h1 : s.size ≤ 9223372036854775807 := h1
  refine (ws.parse_any s w h1).mono ?_
  rintro e w' ⟨rfl, rfl⟩
  obtain ⟨⟨p1, p2⟩, p3, p4, p5⟩ := prs_in s h1
  refine ⟨_, rfl, Below.refl _ _, fun _ _ => .tup rfl fun i c a e1 e2 => ?_⟩
  match i with
  | 0 => cases e1; cases e2; exact .tr (.v ⟨p1, p2⟩)
  | 1 => cases e1; cases e2; exact .tr (.v ⟨by rcases p3 with h | h <;> (unfold prsB at h; rw [h]; decide), by rcases p3 with h | h <;> (unfold prsB at h; rw [h]; decide)⟩)
  | 2 => cases e1; cases e2; exact .tr (.v ⟨Int.le_trans (by decide) p4, p5⟩)
  | i + 3 => simp at e1
def prefB (s p : ByteArray) : Bool := Lib.hasPrefix s.data.toList p.data.toList
theorem k_hasPrefix (s p : ByteArray) : K 73 [.tr (ts s), .tr (ts p)] [] (.ret (.tr (tb (prefB s p)))) [] := by
  refine Ctr.ofCalls (fun _ _ => by kernel_rfl) fun g w vs hm hsz hv => ?_
  obtain ⟨v, u, rfl⟩ := two_arg hsz
  obtain ⟨rfl, _⟩ := val_inv (hv 0 v (.tr (ts s)) rfl rfl)
  obtain ⟨rfl, _⟩ := val_inv (hv 1 u (.tr (ts p)) rfl rfl)
  refine (Any.strings_HasPrefix Tryd.lays99 s p w).mono ?_
  rintro e w' ⟨rfl, rfl⟩
  exact ⟨_, rfl, Below.refl _ _, fun _ _ => .tr (.v trivial)⟩
def idxB (s : ByteArray) (c : Int) : Int := Lib.indexByte s.data.toList c.toNat.toUInt8
theorem indexByte_le : ∀ (l : List UInt8) (c : UInt8), Lib.indexByte l c ≤ l.length ∧ -1 ≤ Lib.indexByte l c
  | [], c => ⟨by simp [Lib.indexByte], by simp [Lib.indexByte]⟩
  | b :: l, c => by
    have := indexByte_le l c
    unfold Lib.indexByte
    simp only [List.length_cons]
    split
    · constructor <;> omega
    · split <;> constructor <;> omega
theorem k_indexByte (s : ByteArray) (c : Int) : K 27 [.tr (ts s), .tr (tu c)] [] (.ret (.tr (ti (idxB s c)))) [] := by
  refine Ctr.ofCalls (fun _ _ => by kernel_rfl) fun g w vs hm hsz hv => ?_
  obtain ⟨v, u, rfl⟩ := two_arg hsz
  obtain ⟨rfl, h1⟩ := val_inv (hv 0 v (.tr (ts s)) rfl rfl)
  obtain ⟨rfl, _⟩ := val_inv (hv 1 u (.tr (tu c)) rfl rfl)
  have h1 : s.size ≤ 9223372036854775807 := h1
  refine (Any.strings_IndexByte Tryd.lays137 s c w).mono ?_
  rintro e w' ⟨rfl, rfl⟩
  have := indexByte_le s.data.toList c.toNat.toUInt8
  have hl : s.data.toList.length = s.size := by simp
  exact ⟨_, rfl, Below.refl _ _, fun _ _ => .tr (.v ⟨Int.le_trans (by decide) this.2, Int.le_trans this.1 (by rw [hl]; exact Int.ofNat_le.2 h1)⟩)⟩
end Go.Proofs.YtffhoknkfohfgaaDoor.am

namespace Go.Proofs.YtffhoknkfohfgaaDoor.am
open Go Go.Proofs Go.RowKit

def srow (s : ByteArray) : List Tr := [ts s]
abbrev strsT (l : List ByteArray) : Tr := .lst 1 16 (l.map srow)
def blank : ByteArray := ⟨#[32]⟩
def joinL (l : List ByteArray) : List UInt8 := Lib.join (l.map (·.data.toList)) [32]
def joinB (l : List ByteArray) : ByteArray := ⟨(joinL l).toArray⟩
theorem strs_inv {ok : Nat → Prop} {w : World} {v : Value} {l : List ByteArray} (h : RepT ok w v (strsT l)) :
    ∃ ao cap, v = .slice ao l.length cap ∧ l.length ≤ cap ∧ (0 < l.length → ∃ b o, ao = some ⟨b, o, none⟩ ∧ ok b ∧ ∀ j x, l[j]? = some x → w.cell? ⟨b, o + j, none⟩ = some (.string x)) ∧ l.length * 16 ≤ 140737488351232 ∧ ∀ x ∈ l, x.size ≤ 9223372036854775807 := by
  obtain ⟨ao, cap, f, rfl, q1, q2, q3, q4, q5, q6⟩ := lst_inv h
  simp only [List.length_map] at q1 q3 ⊢
  have get : ∀ j x, l[j]? = some x → (l.map srow)[j]? = some [ts x] := fun j x hj => by rw [List.getElem?_map, hj]; rfl
  refine ⟨ao, cap, rfl, q1, fun h0 => ?_, q3, fun x hx => ?_⟩
  · obtain ⟨_, b, o, e, hb, _⟩ := q5 0 [ts l[0]] (get 0 _ (by simp [h0]))
    refine ⟨b, o, e, hb, fun j x hj => ?_⟩
    obtain ⟨_, b', o', e', _, hc⟩ := q5 j [ts x] (get j x hj)
    rw [e] at e'; cases e'
    have := hc 0 (by decide)
    rw [Nat.mul_one, Nat.add_zero] at this
    rw [this]
    have := q6 j [ts x] 0 (ts x) (get j x hj) rfl
    generalize f j 0 = fv at this
    cases this with
    | v hg => rfl
  · obtain ⟨j, hj⟩ := List.mem_iff_getElem?.1 hx
    have := q6 j [ts x] 0 (ts x) (get j x hj) rfl
    generalize f j 0 = fv at this
    cases this with
    | v hg => exact hg
theorem k_join (l : List ByteArray) (hlen : (joinL l).length ≤ 140737488355328) : K 67 [.tr (strsT l), .tr (ts blank)] [] (.ret (.tr (ts (joinB l)))) [] := by
  refine Ctr.ofCalls (fun _ _ => by kernel_rfl) fun g w vs hm hsz hv => ?_
  obtain ⟨v, u, rfl⟩ := two_arg hsz
  have hr := (hv 0 v (.tr (strsT l)) rfl rfl).tr_inv
  obtain ⟨rfl, _⟩ := val_inv (hv 1 u (.tr (ts blank)) rfl rfl)
  obtain ⟨ao, cap, rfl, q1, q2, q3, q4⟩ := strs_inv hr
  have hjs : (joinB l).size ≤ 9223372036854775807 := by show (joinL l).toArray.size ≤ _; rw [List.size_toArray]; omega
  by_cases h0 : 0 < l.length
  · obtain ⟨b, o, rfl, hb, hc⟩ := q2 h0
    refine (Any.strings_Join Tryd.lays156 Tryd.Builder_Extra_156 b o cap l blank w hc hb.1 (by omega) q1 hlen).mono ?_
    rintro e w' ⟨rfl, hb⟩
    exact ⟨_, rfl, hb, fun _ _ => .tr (.v hjs)⟩
  · have : l = [] := List.eq_nil_of_length_eq_zero (by omega)
    subst this
    refine (Any.strings_Join_none Tryd.lays156 Tryd.Builder_Extra_156 ao cap blank w).mono ?_
    rintro e w' ⟨rfl, rfl⟩
    exact ⟨_, rfl, Below.refl _ _, fun _ _ => .tr (.v hjs)⟩
/-! cut at each blank -/
def splitBl (s : ByteArray) : List ByteArray := Lib.splitB blank 0 (Lib.countB s blank) s
theorem splitBl_len (s : ByteArray) : (splitBl s).length = Lib.countB s blank + 1 := Lib.splitB_all blank (by decide) 0 _ s rfl
theorem splitBl_lists (s : ByteArray) : (splitBl s).map (·.data.toList) = Lib.split s.data.toList [32] := Lib.splitB_data blank 0 _ s
theorem splitB_size (sep : ByteArray) (k : Nat) : ∀ s : ByteArray, ∀ x ∈ Lib.splitB sep 0 k s, x.size ≤ s.size := by
  induction k with
  | zero => intro s x hx; simp [Lib.splitB] at hx; subst hx; exact Nat.le_refl _
  | succ k ih =>
    intro s x hx
    unfold Lib.splitB at hx
    split at hx
    · simp at hx; subst hx; exact Nat.le_refl _
    · simp only [List.mem_cons] at hx
      rcases hx with rfl | hx
      · simp [ByteArray.size_extract]; omega
      · have := ih _ x hx
        simp only [ByteArray.size_extract] at this
        omega
theorem count_size (s : ByteArray) : Lib.countB s blank ≤ s.size := Lib.countB_le blank (by decide) s.size s (Nat.le_refl _)
theorem k_genSplit (s : ByteArray) (hs : s.size < 4294967281) : K 72 [.tr (ts s), .tr (ts blank), .tr (ti 0), .tr (ti (-1))] [] (.ret (.tr (strsT (splitBl s)))) [] := by
  refine Ctr.ofCalls (fun _ _ => by kernel_rfl) fun g w vs hm hsz hv => ?_
  obtain ⟨v, u, x, y, rfl⟩ := four_arg hsz
  obtain ⟨rfl, h1⟩ := val_inv (hv 0 v (.tr (ts s)) rfl rfl)
  obtain ⟨rfl, _⟩ := val_inv (hv 1 u (.tr (ts blank)) rfl rfl)
  obtain ⟨rfl, _⟩ := val_inv (hv 2 x (.tr (ti 0)) rfl rfl)
  obtain ⟨rfl, _⟩ := val_inv (hv 3 y (.tr (ti (-1))) rfl rfl)
  have hlen := splitBl_len s
  have hcs := count_size s
  have hsp : Lib.splitB blank 0 (Lib.countB s blank + 1 - 1) s = splitBl s := by rw [Nat.add_sub_cancel]; rfl
  have hsv : (0 : Nat) ≤ blank.size := Nat.zero_le _
  refine (Any.strings_genSplit_core Tryd.lays221 (by kernel_rfl) s blank 0 (-1) (Lib.countB s blank + 1) w hs (by decide) hsv (fun x c hx => ?_) ?_ (by decide) (by decide) (by rw [if_pos (by decide)]; omega)).mono ?_
  · have := Any.strings_Index_one Tryd.lays143 x 32 (w.alloc (.cells c 9))
    rw [← Lib.index_one] at this
    exact this
  · have := Any.strings_Count_one Tryd.lays138 s 32 w
    have e : Lib.countByte s.data.toList 32 = Lib.countB s blank := (Lib.count_one 32 s.data.toList).symm
    rw [e] at this
    exact this
  · rintro e w' ⟨rfl, rfl⟩
    rw [hsp, hlen]
    refine ⟨_, rfl, (Below.refl _ _).alloc (Nat.le_refl _) _, fun hG hM => .tr ?_⟩
    have hnew : (w.alloc (.cells (Lib.cellsOf (splitBl s) (Lib.countB s blank + 1)) 9)).heap[w.heap.size]? = some (.cells (Lib.cellsOf (splitBl s) (Lib.countB s blank + 1)) 9) := heap_alloc_new w _
    have hok : okB g (w.alloc (.cells (Lib.cellsOf (splitBl s) (Lib.countB s blank + 1)) 9)) w.heap.size := ⟨by simp, fun hx => by have := hm.xlt _ hx; omega, fun h ho => by have := hm.lt h _ ho; omega⟩
    have get : ∀ i row, ((splitBl s).map srow)[i]? = some row → ∃ x, (splitBl s)[i]? = some x ∧ row = [ts x] := fun i row h => by
      obtain ⟨x, h1, h2⟩ := map_get h
      exact ⟨x, h1, h2.symm⟩
    refine .lst (fun i _ => ((splitBl s)[i]?).elim default Value.string) (by rw [List.length_map, hlen]) (Nat.le_refl _) (by omega) (by omega) (fun h => by cases h) (fun i row hr => ?_) fun i row j t hr hj => ?_
    · obtain ⟨x, hx, rfl⟩ := get i row hr
      refine ⟨rfl, _, _, rfl, hok, fun j hj => ?_⟩
      have hj0 : j = 0 := by simp at hj; exact hj
      subst hj0
      have hi := (List.getElem?_eq_some_iff.1 hx).1
      rw [show 0 + i * 1 + 0 = i by omega]
      refine (cell_of_row _ w.heap.size i _ _ _ hnew).trans ?_
      rw [hx]
      unfold Lib.cellsOf
      rw [List.getElem?_toArray, List.getElem?_append_left (by simpa using hi), List.getElem?_map, hx]
      rfl
    · obtain ⟨x, hx, rfl⟩ := get i row hr
      have hj0 : j = 0 := by
        have := (List.getElem?_eq_some_iff.1 hj).1
        simp at this; exact this
      subst hj0
      simp at hj
      subst hj
      rw [hx]
      have := splitB_size blank _ s x (List.mem_of_getElem? hx)
      exact .v (Nat.le_trans this h1)
theorem k_split (s : ByteArray) (hs : s.size < 4294967281) : K 50 [.tr (ts s), .tr (ts blank)] [] (.ret (.tr (strsT (splitBl s)))) [] := by
  refine Ctr.of hT hmix Tryd.func50 rfl (fun _ _ => by kernel_rfl) rfl fun hok => ?_
  conv => whnf
  refine acall.pure _ (k_genSplit s hs) rfl rfl fun _ => ?_
  conv => whnf
  exact ⟨.inl rfl, trivial⟩
end Go.Proofs.YtffhoknkfohfgaaDoor.am

namespace Go.Proofs.YtffhoknkfohfgaaDoor.am
open Go Go.Proofs

/-- a writer's blocks: h is the handle of its words -/
abbrev wrB (i : Ins) (h : Nat) (l : List ByteArray) : Blk := .cells 112 [.tr (tu i.kind), .tr (tu i.op), .tr (ti i.d), .tr (ti i.a), .tr (ti i.b), .tr (ti i.addr), .tr (ti i.to_), .tr (ti i.word), .tr (ti i.from_), .sl h l.length]
abbrev wdB (l : List ByteArray) : Blk := .vec 9 1 16 (l.map srow)
/-- what a method of the writer does: it says a word -/
abbrev Says (f : Nat) (i : Ins) (args : List AV) (s : ByteArray) : Prop := ∀ l : List ByteArray, l.length ≤ 1000 → K f (.ptr 0 0 :: args) [wrB i 1 l, wdB l] (.ret (.tup [])) [some (wrB i 2 (l ++ [s])), none, some (wdB (l ++ [s]))]
theorem k_say (i : Ins) (s : ByteArray) : Says 59 i [.tr (ts s)] s := by
  intro l hl
  refine Ctr.new [] hT hmix Tryd.func59 rfl (fun _ _ => by kernel_rfl) rfl fun hok => ?_
  clear hok
  conv => whnf
  refine ⟨rfl, rfl, rfl, by simp, by simp; omega, fun q hq => by simp at hq; subst hq; simp, ?_⟩
  conv => whnf
  exact ⟨[0, 1, 9], rfl, rfl, trivial, (by repeat' (first | exact trivial | exact Or.inl rfl | exact rfl | exact Nat.le_refl _ | apply And.intro | (refine Or.inl ?_) | (simp [srow, List.take_of_length_le]; done)))⟩
theorem size_add (a b : ByteArray) : (a ++ b).size = a.size + b.size := by simp
def regB (n : Int) : ByteArray := ⟨#[114]⟩ ++ prnB n
theorem k_reg (i : Ins) (n : Int) (hn : -9223372036854775808 ≤ n ∧ n ≤ 9223372036854775807) : Says 83 i [.tr (ti n)] (regB n) := by
  intro l hl
  refine Ctr.new [] hT hmix Tryd.func83 rfl (fun _ _ => by kernel_rfl) rfl fun hok => ?_
  clear hok
  have hp := prn_len hn.1 hn.2
  conv => whnf
  refine acall.pure _ (k_itoa n) rfl rfl fun _ => ?_
  conv => whnf
  refine ⟨by show (⟨#[114]⟩ : ByteArray).size + (prnB n).size ≤ _; have : (⟨#[114]⟩ : ByteArray).size = 1 := rfl; omega, ?_⟩
  conv => whnf
  refine acall.new [0, 1] [] _ _ _ _ (k_say i (regB n) l hl) rfl rfl rfl rfl (by repeat' (first | exact trivial | exact Or.inl (ti_succ (by assumption) (by assumption)) | exact Or.inl rfl | exact rfl | exact Nat.le_refl _ | apply And.intro)) (by repeat' (first | exact trivial | exact Or.inl (ti_succ (by assumption) (by assumption)) | exact Or.inl rfl | exact rfl | exact Nat.le_refl _ | apply And.intro)) rfl rfl fun _ => ?_
  conv => whnf
  exact ⟨[0, 1, 6], rfl, rfl, trivial, (by repeat' (first | exact trivial | exact Or.inl (ti_succ (by assumption) (by assumption)) | exact Or.inl rfl | exact rfl | exact Nat.le_refl _ | apply And.intro))⟩
theorem k_w_op (i : Ins) : Says 60 i [] (opword i.op) := by
  intro l hl
  refine Ctr.new [] hT hmix Tryd.func60 rfl (fun _ _ => by kernel_rfl) rfl fun hok => ?_
  have hb := ((hok.cells 0 rfl) _ (.tail _ (.head _))).tr.u8
  clear hok
  conv => whnf
  refine acall.pure _ (k_operator i.op) rfl rfl fun _ => ?_
  conv => whnf
  refine acall.new [0, 1] [] _ _ _ _ (k_say i (opword i.op) l hl) rfl rfl rfl rfl (by repeat' (first | exact trivial | exact Or.inl (ti_succ (by assumption) (by assumption)) | exact Or.inl rfl | exact rfl | exact Nat.le_refl _ | apply And.intro)) (by repeat' (first | exact trivial | exact Or.inl (ti_succ (by assumption) (by assumption)) | exact Or.inl rfl | exact rfl | exact Nat.le_refl _ | apply And.intro)) rfl rfl fun _ => ?_
  conv => whnf
  exact ⟨[0, 1, 9], rfl, rfl, trivial, (by repeat' (first | exact trivial | exact Or.inl (ti_succ (by assumption) (by assumption)) | exact Or.inl rfl | exact rfl | exact Nat.le_refl _ | apply And.intro))⟩
theorem k_w_d (i : Ins) : Says 61 i [] (regB i.d) := by
  intro l hl
  refine Ctr.new [] hT hmix Tryd.func61 rfl (fun _ _ => by kernel_rfl) rfl fun hok => ?_
  have hb := ((hok.cells 0 rfl) _ (.tail _ (.tail _ (.head _)))).tr.i64
  clear hok
  conv => whnf
  refine acall.new [0, 1] [] _ _ _ _ (k_reg i (i.d) hb l hl) rfl rfl rfl rfl (by repeat' (first | exact trivial | exact Or.inl (ti_succ (by assumption) (by assumption)) | exact Or.inl rfl | exact rfl | exact Nat.le_refl _ | apply And.intro)) (by repeat' (first | exact trivial | exact Or.inl (ti_succ (by assumption) (by assumption)) | exact Or.inl rfl | exact rfl | exact Nat.le_refl _ | apply And.intro)) rfl rfl fun _ => ?_
  conv => whnf
  exact ⟨[0, 1, 8], rfl, rfl, trivial, (by repeat' (first | exact trivial | exact Or.inl (ti_succ (by assumption) (by assumption)) | exact Or.inl rfl | exact rfl | exact Nat.le_refl _ | apply And.intro))⟩
theorem k_w_a (i : Ins) : Says 62 i [] (regB i.a) := by
  intro l hl
  refine Ctr.new [] hT hmix Tryd.func62 rfl (fun _ _ => by kernel_rfl) rfl fun hok => ?_
  have hb := ((hok.cells 0 rfl) _ (.tail _ (.tail _ (.tail _ (.head _))))).tr.i64
  clear hok
  conv => whnf
  refine acall.new [0, 1] [] _ _ _ _ (k_reg i (i.a) hb l hl) rfl rfl rfl rfl (by repeat' (first | exact trivial | exact Or.inl (ti_succ (by assumption) (by assumption)) | exact Or.inl rfl | exact rfl | exact Nat.le_refl _ | apply And.intro)) (by repeat' (first | exact trivial | exact Or.inl (ti_succ (by assumption) (by assumption)) | exact Or.inl rfl | exact rfl | exact Nat.le_refl _ | apply And.intro)) rfl rfl fun _ => ?_
  conv => whnf
  exact ⟨[0, 1, 8], rfl, rfl, trivial, (by repeat' (first | exact trivial | exact Or.inl (ti_succ (by assumption) (by assumption)) | exact Or.inl rfl | exact rfl | exact Nat.le_refl _ | apply And.intro))⟩
theorem k_w_b (i : Ins) : Says 63 i [] (regB i.b) := by
  intro l hl
  refine Ctr.new [] hT hmix Tryd.func63 rfl (fun _ _ => by kernel_rfl) rfl fun hok => ?_
  have hb := ((hok.cells 0 rfl) _ (.tail _ (.tail _ (.tail _ (.tail _ (.head _)))))).tr.i64
  clear hok
  conv => whnf
  refine acall.new [0, 1] [] _ _ _ _ (k_reg i (i.b) hb l hl) rfl rfl rfl rfl (by repeat' (first | exact trivial | exact Or.inl (ti_succ (by assumption) (by assumption)) | exact Or.inl rfl | exact rfl | exact Nat.le_refl _ | apply And.intro)) (by repeat' (first | exact trivial | exact Or.inl (ti_succ (by assumption) (by assumption)) | exact Or.inl rfl | exact rfl | exact Nat.le_refl _ | apply And.intro)) rfl rfl fun _ => ?_
  conv => whnf
  exact ⟨[0, 1, 8], rfl, rfl, trivial, (by repeat' (first | exact trivial | exact Or.inl (ti_succ (by assumption) (by assumption)) | exact Or.inl rfl | exact rfl | exact Nat.le_refl _ | apply And.intro))⟩
theorem k_w_addr (i : Ins) : Says 64 i [] (prnB i.addr) := by
  intro l hl
  refine Ctr.new [] hT hmix Tryd.func64 rfl (fun _ _ => by kernel_rfl) rfl fun hok => ?_
  have hb := ((hok.cells 0 rfl) _ (.tail _ (.tail _ (.tail _ (.tail _ (.tail _ (.head _))))))).tr.i64
  clear hok
  conv => whnf
  refine acall.pure _ (k_itoa i.addr) rfl rfl fun _ => ?_
  conv => whnf
  refine acall.new [0, 1] [] _ _ _ _ (k_say i (prnB i.addr) l hl) rfl rfl rfl rfl (by repeat' (first | exact trivial | exact Or.inl (ti_succ (by assumption) (by assumption)) | exact Or.inl rfl | exact rfl | exact Nat.le_refl _ | apply And.intro)) (by repeat' (first | exact trivial | exact Or.inl (ti_succ (by assumption) (by assumption)) | exact Or.inl rfl | exact rfl | exact Nat.le_refl _ | apply And.intro)) rfl rfl fun _ => ?_
  conv => whnf
  exact ⟨[0, 1, 9], rfl, rfl, trivial, (by repeat' (first | exact trivial | exact Or.inl (ti_succ (by assumption) (by assumption)) | exact Or.inl rfl | exact rfl | exact Nat.le_refl _ | apply And.intro))⟩
theorem k_w_to (i : Ins) : Says 65 i [] (prnB i.to_) := by
  intro l hl
  refine Ctr.new [] hT hmix Tryd.func65 rfl (fun _ _ => by kernel_rfl) rfl fun hok => ?_
  have hb := ((hok.cells 0 rfl) _ (.tail _ (.tail _ (.tail _ (.tail _ (.tail _ (.tail _ (.head _)))))))).tr.i64
  clear hok
  conv => whnf
  refine acall.pure _ (k_itoa i.to_) rfl rfl fun _ => ?_
  conv => whnf
  refine acall.new [0, 1] [] _ _ _ _ (k_say i (prnB i.to_) l hl) rfl rfl rfl rfl (by repeat' (first | exact trivial | exact Or.inl (ti_succ (by assumption) (by assumption)) | exact Or.inl rfl | exact rfl | exact Nat.le_refl _ | apply And.intro)) (by repeat' (first | exact trivial | exact Or.inl (ti_succ (by assumption) (by assumption)) | exact Or.inl rfl | exact rfl | exact Nat.le_refl _ | apply And.intro)) rfl rfl fun _ => ?_
  conv => whnf
  exact ⟨[0, 1, 9], rfl, rfl, trivial, (by repeat' (first | exact trivial | exact Or.inl (ti_succ (by assumption) (by assumption)) | exact Or.inl rfl | exact rfl | exact Nat.le_refl _ | apply And.intro))⟩
theorem k_w_word (i : Ins) : Says 66 i [] (prnB i.word) := by
  intro l hl
  refine Ctr.new [] hT hmix Tryd.func66 rfl (fun _ _ => by kernel_rfl) rfl fun hok => ?_
  have hb := ((hok.cells 0 rfl) _ (.tail _ (.tail _ (.tail _ (.tail _ (.tail _ (.tail _ (.tail _ (.head _))))))))).tr.i64
  clear hok
  conv => whnf
  refine acall.pure _ (k_print i.word) rfl rfl fun _ => ?_
  conv => whnf
  refine acall.new [0, 1] [] _ _ _ _ (k_say i (prnB i.word) l hl) rfl rfl rfl rfl (by repeat' (first | exact trivial | exact Or.inl (ti_succ (by assumption) (by assumption)) | exact Or.inl rfl | exact rfl | exact Nat.le_refl _ | apply And.intro)) (by repeat' (first | exact trivial | exact Or.inl (ti_succ (by assumption) (by assumption)) | exact Or.inl rfl | exact rfl | exact Nat.le_refl _ | apply And.intro)) rfl rfl fun _ => ?_
  conv => whnf
  exact ⟨[0, 1, 9], rfl, rfl, trivial, (by repeat' (first | exact trivial | exact Or.inl (ti_succ (by assumption) (by assumption)) | exact Or.inl rfl | exact rfl | exact Nat.le_refl _ | apply And.intro))⟩
end Go.Proofs.YtffhoknkfohfgaaDoor.am

namespace Go.Proofs.YtffhoknkfohfgaaDoor.am
open Go Go.Proofs
def numS (s : ByteArray) : Int × Bool := ((prsB s).1, (prsB s).2.1 == 0 && decide ((prsB s).1 ≥ 0))
theorem k_number (s : ByteArray) : K 52 [.tr (ts s)] [] (.ret (.tup [.tr (ti (numS s).1), .tr (tb (numS s).2)])) [] := by
  refine Ctr.of hT hmix Tryd.func52 rfl (fun _ _ => by kernel_rfl) rfl fun hok => ?_
  clear hok
  have hc := k_parseW s
  unfold numS
  generalize prsB s = R at hc ⊢
  conv => whnf
  refine acall.pure _ (hc) rfl rfl fun _ => ?_
  conv => whnf
  refine csplit (fun h => ?_) (fun h => ?_)
  · rw [h]
    conv => whnf
    exact ⟨⟨.inl rfl, .inl rfl, trivial⟩, trivial⟩
  · rw [h]
    conv => whnf
    exact ⟨⟨.inl rfl, .inl rfl, trivial⟩, trivial⟩
def noT (s : ByteArray) : Bool := seq s ⟨#[]⟩
def opG (s : ByteArray) : Nat → Int → Int × Int × Bool
  | 0, _ => (0, 0, false)
  | n + 1, op => bif seq (opword op) s then (2, op, true) else opG s n (op + 1)
def kindG (s : ByteArray) : Nat → Int → Int × Int × Bool
  | 0, _ => opG s 18 1
  | n + 1, k => bif seq (kword k) s && !seq s ⟨#[]⟩ then (k, 0, true) else kindG s n (k + 1)
def kindS (s : ByteArray) : Int × Int × Bool := kindG s 10 1
theorem forms_at {k : Int} (hk : 1 ≤ k ∧ k < 11) : ∃ W a b c d, W = kword k ∧ kuse k = [a, b, c, d] ∧ K 37 [.tr (tu k)] [] (.ret (.tup [.agg [.tr (ts W), .tr (tu a), .tr (tu b), .tr (tu c), .tr (tu d)], .tr (tb true)])) [] := by
  have hc : k = 1 ∨ k = 2 ∨ k = 3 ∨ k = 4 ∨ k = 5 ∨ k = 6 ∨ k = 7 ∨ k = 8 ∨ k = 9 ∨ k = 10 := by omega
  rcases hc with rfl | rfl | rfl | rfl | rfl | rfl | rfl | rfl | rfl | rfl <;> exact ⟨_, _, _, _, _, rfl, rfl, k_forms _⟩
theorem k_kind (s : ByteArray) : K 74 [.tr (ts s)] [] (.ret (.tup [.tr (tu (kindS s).1), .tr (tu (kindS s).2.1), .tr (tb (kindS s).2.2)])) [] := by
  refine Ctr.of hT hmix Tryd.func74 rfl (fun _ _ => by kernel_rfl) rfl fun hok => ?_
  clear hok
  obtain ⟨R, hR⟩ : ∃ R, R = kindS s := ⟨_, rfl⟩
  rw [← hR]
  conv => whnf
  refine LoopL.by (fun i : Nat => ⟨[(0, .tr (ts s)), (5, .tr (tu ((i : Int) + 1)))], [], 10⟩) (fun i => i ≤ 10 ∧ R = kindG s (10 - i) ((i : Int) + 1)) (fun i => 10 - i) 0 [] [] (Sub.mk' rfl ⟨.inl rfl, .inl rfl, trivial⟩ trivial rfl rfl) ⟨Nat.zero_le _, hR⟩ ?_
  rintro i ⟨hi, hf⟩ -
  conv => whnf
  refine csplit (fun hlt => ?_) (fun hge => ?_)
  · have hlt : i < 10 := by have h' := of_decide_eq_true hlt; omega
    obtain ⟨W, a, b, c, d, hW, _, hc⟩ := forms_at (k := (i : Int) + 1) (by omega)
    rw [show 10 - i = (10 - (i + 1)) + 1 by omega] at hf
    unfold kindG at hf
    rw [← hW] at hf
    clear hW
    have hw : IntKind.u8.wrap ((i : Int) + 1 + 1) = ((i + 1 : Nat) : Int) + 1 := by rw [wu8 (by omega) (by omega)]; omega
    conv => whnf
    refine acall.pure _ (hc) rfl rfl fun _ => ?_
    conv => whnf
    refine csplit (fun h => ?_) (fun h => ?_)
    · replace h : seq W s = true := h
      rw [h] at hf
      conv => whnf
      refine csplit (fun hn => ?_) (fun hn => ?_)
      · replace hn : (!seq s ⟨#[]⟩) = true := hn
        rw [hn] at hf
        rw [hf]
        conv => whnf
        exact ⟨⟨.inl rfl, .inl rfl, .inl rfl, trivial⟩, trivial⟩
      · replace hn : (!seq s ⟨#[]⟩) = false := hn
        rw [hn] at hf
        conv => whnf
        exact ⟨i + 1, [], [], Sub.mk' rfl ⟨.inl rfl, .inl (congrArg tu hw), trivial⟩ trivial rfl rfl, ⟨by omega, hf⟩, by omega⟩
    · replace h : seq W s = false := h
      rw [h] at hf
      conv => whnf
      exact ⟨i + 1, [], [], Sub.mk' rfl ⟨.inl rfl, .inl (congrArg tu hw), trivial⟩ trivial rfl rfl, ⟨by omega, hf⟩, by omega⟩
  · have hge : 10 ≤ i := by have h' := of_decide_eq_false hge; omega
    obtain rfl : i = 10 := by omega
    conv => whnf
    refine ⟨fun _ => ?_, fun h => absurd rfl h⟩
    conv => whnf
    refine LoopL.by (fun i : Nat => ⟨[(0, .tr (ts s)), (8, .tr (tu ((i : Int) + 1)))], [], 10⟩) (fun i => i ≤ 18 ∧ R = opG s (18 - i) ((i : Int) + 1)) (fun i => 18 - i) 0 [] [] (Sub.mk' rfl ⟨.inl rfl, .inl rfl, trivial⟩ trivial rfl rfl) ⟨Nat.zero_le _, hf⟩ ?_
    clear hf
    rintro i ⟨hi, hf⟩ -
    conv => whnf
    refine csplit (fun hlt => ?_) (fun hge => ?_)
    · have hlt : i < 18 := by have h' := of_decide_eq_true hlt; omega
      rw [show 18 - i = (18 - (i + 1)) + 1 by omega] at hf
      unfold opG at hf
      have hw : IntKind.u8.wrap ((i : Int) + 1 + 1) = ((i + 1 : Nat) : Int) + 1 := by rw [wu8 (by omega) (by omega)]; omega
      have ho := k_operator ((i : Int) + 1)
      generalize opword ((i : Int) + 1) = W at hf ho
      conv => whnf
      refine acall.pure _ (ho) rfl rfl fun _ => ?_
      conv => whnf
      refine csplit (fun h => ?_) (fun h => ?_)
      · replace h : seq W s = true := h
        rw [h] at hf
        rw [hf]
        conv => whnf
        exact ⟨⟨.inl rfl, .inl rfl, .inl rfl, trivial⟩, trivial⟩
      · replace h : seq W s = false := h
        rw [h] at hf
        conv => whnf
        exact ⟨i + 1, [], [], Sub.mk' rfl ⟨.inl rfl, .inl (congrArg tu hw), trivial⟩ trivial rfl rfl, ⟨by omega, hf⟩, by omega⟩
    · have hge : 18 ≤ i := by have h' := of_decide_eq_false hge; omega
      obtain rfl : i = 18 := by omega
      replace hf : R = (0, 0, false) := hf
      rw [hf]
      conv => whnf
      refine ⟨fun _ => ?_, fun h => absurd rfl h⟩
      conv => whnf
      exact ⟨⟨.inl rfl, .inl rfl, .inl rfl, trivial⟩, trivial⟩
/-! fields -/
def tlS (s : ByteArray) : ByteArray := s.extract 1 s.size
def rS : ByteArray := ⟨#[114]⟩
def setF (i : Ins) (u n : Int) : Ins :=
  bif u == 2 then { i with d := n } else bif u == 4 then { i with a := n } else bif u == 8 then { i with b := n } else bif u == 16 then { i with addr := n } else bif u == 32 then { i with to_ := n } else bif u == 64 then { i with word := n } else i
def fieldS (i : Ins) (u : Int) (s : ByteArray) : Ins × Bool :=
  bif u == 2 || u == 4 || u == 8 then (bif prefB s rS then (setF i u (numS (tlS s)).1, (numS (tlS s)).2) else (i, false))
  else bif u == 16 || u == 32 then (setF i u (numS s).1, (numS s).2) else bif u == 64 then (setF i u (prsB s).1, (prsB s).2.1 == 0) else (i, true)
theorem pref_pos {s p : ByteArray} (h : prefB s p = true) : p.size ≤ s.size := by
  unfold prefB Lib.hasPrefix at h
  have := (List.isPrefixOf_iff_prefix.1 h).length_le
  simpa using this
abbrev strC (s : ByteArray) : Blk := .cells 9 [.tr (ts s)]
abbrev boolC (b : Bool) : Blk := .cells 4 [.tr (tb b)]
set_option maxRecDepth 100000 in
theorem k_regTo (i : Ins) (u : Int) (s : ByteArray) (b : Bool) (off : Nat) (hu : (u = 2 ∧ off = 2) ∨ (u = 4 ∧ off = 3) ∨ (u = 8 ∧ off = 4)) : K 91 [.ptr 0 off, .ptr 1 0, .ptr 2 0] [insB i, strC s, boolC b] (.ret (.tup []))
    [some (insB (fieldS i u s).1), some (strC s), some (boolC (fieldS i u s).2)] := by
  obtain ⟨kind, op, d, a, b1, addr, to_, word, from_⟩ := i
  have hF : fieldS ⟨kind, op, d, a, b1, addr, to_, word, from_⟩ u s = bif prefB s rS then (setF ⟨kind, op, d, a, b1, addr, to_, word, from_⟩ u (numS (tlS s)).1, (numS (tlS s)).2) else (⟨kind, op, d, a, b1, addr, to_, word, from_⟩, false) := by
    rcases hu with ⟨rfl, rfl⟩ | ⟨rfl, rfl⟩ | ⟨rfl, rfl⟩ <;> rfl
  rw [hF]
  clear hF
  rcases hu with ⟨rfl, rfl⟩ | ⟨rfl, rfl⟩ | ⟨rfl, rfl⟩
  all_goals
    refine Ctr.of hT hmix Tryd.func91 rfl (fun _ _ => by kernel_rfl) rfl fun hok => ?_
    have hsz := (hok.cells 1 rfl _ (.head _)).tr.str
    clear hok
    conv => whnf
    refine acall.pure _ (k_hasPrefix s rS) rfl rfl fun _ => ?_
    conv => whnf
    refine csplit (fun h => ?_) (fun h => ?_)
    · have hp := pref_pos h
      replace hp : 1 ≤ s.size := hp
      rw [h]
      conv => whnf
      refine ⟨by decide, (show (1 : Int) ≤ s.size by omega), Int.le_refl _, ?_⟩
      conv => whnf
      refine acall.pure _ (k_number (tlS s)) rfl rfl fun _ => ?_
      conv => whnf
      exact (by repeat' (first | exact trivial | exact Or.inl (ti_succ (by assumption) (by assumption)) | exact Or.inl rfl | exact rfl | exact Nat.le_refl _ | apply And.intro))
    · rw [h]
      conv => whnf
      exact (by repeat' (first | exact trivial | exact Or.inl (ti_succ (by assumption) (by assumption)) | exact Or.inl rfl | exact rfl | exact Nat.le_refl _ | apply And.intro))
set_option maxRecDepth 100000 in
theorem k_field (i : Ins) (u : Int) (s : ByteArray) : K 75 [.ptr 0 0, .tr (tu u), .tr (ts s)] [insB i] (.ret (.tr (tb (fieldS i u s).2))) [some (insB (fieldS i u s).1)] := by
  obtain ⟨R, hR⟩ : ∃ R, R = fieldS i u s := ⟨_, rfl⟩
  have hq := k_regTo i
  rw [← hR]
  refine Ctr.of hT hmix Tryd.func75 rfl (fun _ _ => by kernel_rfl) rfl fun hok => ?_
  clear hok
  obtain ⟨kind, op, d, a, b, addr, to_, word, from_⟩ := i
  conv => whnf
  refine csplit (fun h => ?_) (fun h => ?_)
  · replace h : (u == 2) = true := h
    conv => whnf
    refine acall.gen [0, 1, 3] [] _ _ _ _ (hq u s true 2 (.inl ⟨by simpa using h, rfl⟩)) rfl rfl rfl rfl (by repeat' (first | exact trivial | exact Or.inl (ti_succ (by assumption) (by assumption)) | exact Or.inl rfl | exact rfl | exact Nat.le_refl _ | apply And.intro)) (by repeat' (first | exact trivial | exact Or.inl (ti_succ (by assumption) (by assumption)) | exact Or.inl rfl | exact rfl | exact Nat.le_refl _ | apply And.intro)) rfl rfl fun _ => ?_
    conv => whnf
    rw [hR]
    exact (by repeat' (first | exact trivial | exact Or.inl (ti_succ (by assumption) (by assumption)) | exact Or.inl rfl | exact rfl | exact Nat.le_refl _ | apply And.intro))
  replace h : (u == 2) = false := h
  have h2 := h
  conv => whnf
  refine csplit (fun h => ?_) (fun h => ?_)
  · replace h : (u == 4) = true := h
    conv => whnf
    refine acall.gen [0, 1, 3] [] _ _ _ _ (hq u s true 3 (.inr (.inl ⟨by simpa using h, rfl⟩))) rfl rfl rfl rfl (by repeat' (first | exact trivial | exact Or.inl (ti_succ (by assumption) (by assumption)) | exact Or.inl rfl | exact rfl | exact Nat.le_refl _ | apply And.intro)) (by repeat' (first | exact trivial | exact Or.inl (ti_succ (by assumption) (by assumption)) | exact Or.inl rfl | exact rfl | exact Nat.le_refl _ | apply And.intro)) rfl rfl fun _ => ?_
    conv => whnf
    rw [hR]
    exact (by repeat' (first | exact trivial | exact Or.inl (ti_succ (by assumption) (by assumption)) | exact Or.inl rfl | exact rfl | exact Nat.le_refl _ | apply And.intro))
  replace h : (u == 4) = false := h
  have h4 := h
  conv => whnf
  refine csplit (fun h => ?_) (fun h => ?_)
  · replace h : (u == 8) = true := h
    conv => whnf
    refine acall.gen [0, 1, 3] [] _ _ _ _ (hq u s true 4 (.inr (.inr ⟨by simpa using h, rfl⟩))) rfl rfl rfl rfl (by repeat' (first | exact trivial | exact Or.inl (ti_succ (by assumption) (by assumption)) | exact Or.inl rfl | exact rfl | exact Nat.le_refl _ | apply And.intro)) (by repeat' (first | exact trivial | exact Or.inl (ti_succ (by assumption) (by assumption)) | exact Or.inl rfl | exact rfl | exact Nat.le_refl _ | apply And.intro)) rfl rfl fun _ => ?_
    conv => whnf
    rw [hR]
    exact (by repeat' (first | exact trivial | exact Or.inl (ti_succ (by assumption) (by assumption)) | exact Or.inl rfl | exact rfl | exact Nat.le_refl _ | apply And.intro))
  replace h : (u == 8) = false := h
  have h8 := h
  conv => whnf
  refine csplit (fun h => ?_) (fun h => ?_)
  · replace h : (u == 16) = true := h
    obtain rfl : u = 16 := by simpa using h
    replace hR : R = (setF ⟨kind, op, d, a, b, addr, to_, word, from_⟩ 16 (numS s).1, (numS s).2) := hR
    conv => whnf
    refine acall.pure _ (k_number s) rfl rfl fun _ => ?_
    conv => whnf
    rw [hR]
    exact (by repeat' (first | exact trivial | exact Or.inl (ti_succ (by assumption) (by assumption)) | exact Or.inl rfl | exact rfl | exact Nat.le_refl _ | apply And.intro))
  replace h : (u == 16) = false := h
  have h16 := h
  conv => whnf
  refine csplit (fun h => ?_) (fun h => ?_)
  · replace h : (u == 32) = true := h
    obtain rfl : u = 32 := by simpa using h
    replace hR : R = (setF ⟨kind, op, d, a, b, addr, to_, word, from_⟩ 32 (numS s).1, (numS s).2) := hR
    conv => whnf
    refine acall.pure _ (k_number s) rfl rfl fun _ => ?_
    conv => whnf
    rw [hR]
    exact (by repeat' (first | exact trivial | exact Or.inl (ti_succ (by assumption) (by assumption)) | exact Or.inl rfl | exact rfl | exact Nat.le_refl _ | apply And.intro))
  replace h : (u == 32) = false := h
  have h32 := h
  conv => whnf
  refine csplit (fun h => ?_) (fun h => ?_)
  · replace h : (u == 64) = true := h
    obtain rfl : u = 64 := by simpa using h
    replace hR : R = (setF ⟨kind, op, d, a, b, addr, to_, word, from_⟩ 64 (prsB s).1, (prsB s).2.1 == 0) := hR
    conv => whnf
    refine acall.pure _ (k_parseW s) rfl rfl fun _ => ?_
    conv => whnf
    rw [hR]
    exact (by repeat' (first | exact trivial | exact Or.inl (ti_succ (by assumption) (by assumption)) | exact Or.inl rfl | exact rfl | exact Nat.le_refl _ | apply And.intro))
  replace h : (u == 64) = false := h
  conv => whnf
  unfold fieldS at hR
  rw [h2, h4, h8, h16, h32, h] at hR
  replace hR : R = (⟨kind, op, d, a, b, addr, to_, word, from_⟩, true) := hR
  rw [hR]
  exact (by repeat' (first | exact trivial | exact Or.inl (ti_succ (by assumption) (by assumption)) | exact Or.inl rfl | exact rfl | exact Nat.le_refl _ | apply And.intro))
end Go.Proofs.YtffhoknkfohfgaaDoor.am

namespace Go.Proofs.YtffhoknkfohfgaaDoor.am
open Go Go.Proofs
def zeroI : Ins := ⟨0, 0, 0, 0, 0, 0, 0, 0, 0⟩
def fieldsG (all : Int) : List Int → Ins → List ByteArray → Ins × Bool
  | [], i, l => (i, (l.length : Int) == 0)
  | u :: us, i, l => bif band u all == 0 || u == 1 then fieldsG all us i l else match l with
    | [] => (i, false)
    | s :: l' => bif !(fieldS i u s).2 then ((fieldS i u s).1, false) else fieldsG all us (fieldS i u s).1 l'
theorem fieldsG_skip {all u : Int} {us : List Int} {i : Ins} {l : List ByteArray} (h : (band u all == 0 || u == 1) = true) : fieldsG all (u :: us) i l = fieldsG all us i l := by
  show (bif (band u all == 0 || u == 1) then fieldsG all us i l else _) = _
  rw [h]; rfl
def instrG (i : Ins) (l : List ByteArray) : Ins × Bool := match l with
  | [] => (i, false)
  | w :: r => bif !(kindS w).2.2 then ({ i with kind := (kindS w).1, op := (kindS w).2.1 }, false) else fieldsG (usedM (kindS w).1 (kindS w).2.1) (kuse (kindS w).1) { i with kind := (kindS w).1, op := (kindS w).2.1 } r
def aS : ByteArray := ⟨#[64]⟩
def lastS (l : List ByteArray) : ByteArray := l.getLast?.getD ⟨#[]⟩
def instrL (l : List ByteArray) : Ins × Bool :=
  bif decide ((l.length : Int) > 1) && prefB (lastS l) aS then (bif !(numS (tlS (lastS l))).2 || (numS (tlS (lastS l))).1 == 0 then (zeroI, false) else instrG { zeroI with from_ := (numS (tlS (lastS l))).1 } l.dropLast) else instrG zeroI l
def instrS (line : ByteArray) : Ins × Bool := instrL (splitBl line)
theorem opG_ok {s : ByteArray} : ∀ (n : Nat) (op : Int), (opG s n op).2.2 = true → 1 ≤ (opG s n op).1 ∧ (opG s n op).1 < 11
  | 0, _, h => by cases h
  | n + 1, op, h => by
    unfold opG at h ⊢
    cases hb : seq (opword op) s <;> rw [hb] at h
    · exact opG_ok n _ h
    · exact ⟨show (1 : Int) ≤ 2 by decide, show (2 : Int) < 11 by decide⟩
theorem kindG_ok {s : ByteArray} : ∀ (n : Nat) (k : Int), 1 ≤ k → k + n ≤ 11 → (kindG s n k).2.2 = true → 1 ≤ (kindG s n k).1 ∧ (kindG s n k).1 < 11
  | 0, _, _, _, h => opG_ok 18 1 h
  | n + 1, k, h1, h2, h => by
    unfold kindG at h ⊢
    cases hb : (seq (kword k) s && !seq s ⟨#[]⟩) <;> rw [hb] at h
    · exact kindG_ok n _ (by omega) (by omega) h
    · exact ⟨h1, by simp only [cond_true]; omega⟩
theorem kindS_ok {s : ByteArray} (h : (kindS s).2.2 = true) : 1 ≤ (kindS s).1 ∧ (kindS s).1 < 11 := kindG_ok 10 1 (by decide) (by decide) h
set_option maxRecDepth 100000 in
theorem k_instr (line : ByteArray) (hs : line.size < 4294967281) : K 51 [.tr (ts line)] [] (.ret (.tup [(instrS line).1.av, .tr (tb (instrS line).2)])) [] := by
  refine Ctr.cut [10] hT hmix Tryd.func51 rfl (fun _ _ => by kernel_rfl) rfl fun hok => ?_
  clear hok
  have hsp := k_split line hs
  have hlen := splitBl_len line
  have hcs := count_size line
  obtain ⟨R, hR⟩ : ∃ R, R = instrS line := ⟨_, rfl⟩
  rw [← hR]
  unfold instrS at hR
  generalize splitBl line = l at hsp hlen hR
  generalize hn : l.length = n at hlen
  have hn1 : 1 ≤ n := by omega
  have hn2 : n ≤ 4294967281 := by omega
  clear hlen hcs
  conv => whnf
  refine acall.pure _ (hsp) rfl rfl fun _ => ?_
  conv => whnf
  refine CutL.by (fun x : Ins × List ByteArray => ⟨[(2, .ptr 0 0), (4, .tr (strsT x.2)), (5, .ptr 1 0)], [(0, insB zeroI), (1, insB x.1)], 20⟩) (fun x => R = instrG x.1 x.2 ∧ 1 ≤ x.2.length ∧ x.2.length ≤ 4294967281) ?_ ?_
  · conv => whnf
    have hw : IntKind.i64.wrap (((List.map srow l).length : Int) - 1) = ((n - 1 : Nat) : Int) := by rw [List.length_map, hn, w64 (by omega) (by omega)]; omega
    refine ⟨rfl, by rw [hw]; omega, by rw [hw, List.length_map]; omega, fun row hrow => ?_⟩
    rw [hw] at hrow
    obtain ⟨w, hl, rfl⟩ := map_get hrow
    replace hl : l[n - 1]? = some w := hl
    have hlast : lastS l = w := by unfold lastS; rw [List.getLast?_eq_getElem?, hn, hl]; rfl
    unfold instrL at hR
    rw [hlast] at hR
    have hlm : (((List.map srow l).length : Nat) : Int) = l.length := by rw [List.length_map]
    conv => whnf
    refine csplit (fun h1 => ?_) (fun h1 => ?_)
    · replace h1 : decide ((l.length : Int) > 1) = true := by rw [← hlm]; exact h1
      rw [h1] at hR
      conv => whnf
      refine acall.pure _ (k_hasPrefix w aS) rfl rfl fun _ => ?_
      conv => whnf
      refine csplit (fun h2 => ?_) (fun h2 => ?_)
      · have hp := pref_pos h2
        replace hp : 1 ≤ w.size := hp
        rw [h2] at hR
        conv => whnf
        refine ⟨by decide, (show (1 : Int) ≤ w.size by omega), Int.le_refl _, ?_⟩
        conv => whnf
        have hnum := k_number (tlS w)
        generalize numS (tlS w) = N at hnum hR
        obtain ⟨N1, N2⟩ := N
        cases N2
        · refine acall.pure _ (hnum) rfl rfl fun _ => ?_
          conv => whnf
          replace hR : R = (zeroI, false) := hR
          rw [hR]
          exact (by repeat' (first | exact trivial | exact Or.inl (ti_succ (by assumption) (by assumption)) | exact Or.inl rfl | exact rfl | exact Nat.le_refl _ | apply And.intro))
        · refine acall.pure _ (hnum) rfl rfl fun _ => ?_
          conv => whnf
          refine csplit (fun h3 => ?_) (fun h3 => ?_)
          · replace h3 : (N1 == 0) = true := h3
            have hR : R = bif !true || N1 == 0 then (zeroI, false) else instrG { zeroI with from_ := N1 } l.dropLast := hR
            rw [h3] at hR
            replace hR : R = (zeroI, false) := hR
            rw [hR]
            conv => whnf
            exact (by repeat' (first | exact trivial | exact Or.inl (ti_succ (by assumption) (by assumption)) | exact Or.inl rfl | exact rfl | exact Nat.le_refl _ | apply And.intro))
          · replace h3 : (N1 == 0) = false := h3
            have hR : R = bif !true || N1 == 0 then (zeroI, false) else instrG { zeroI with from_ := N1 } l.dropLast := hR
            rw [h3] at hR
            replace hR : R = instrG { zeroI with from_ := N1 } l.dropLast := hR
            have hgt : 1 < n := by have := of_decide_eq_true h1; omega
            conv => whnf
            refine ⟨rfl, Int.le_refl _, (show (0 : Int) ≤ IntKind.i64.wrap _ by rw [hw]; omega), (show IntKind.i64.wrap _ ≤ ((List.map srow l).length : Int) by rw [hw, List.length_map]; omega), ?_⟩
            conv => whnf
            refine ⟨({ zeroI with from_ := N1 }, l.dropLast), [0, 6], [], Sub.mk' rfl ⟨⟨rfl, rfl⟩, .inl (congrArg (Tr.lst 1 16) ?_), ⟨rfl, rfl⟩, trivial⟩ (by repeat' (first | exact trivial | exact Or.inl (ti_succ (by assumption) (by assumption)) | exact Or.inl rfl | exact rfl | exact Nat.le_refl _ | apply And.intro)) rfl rfl, hR, by rw [List.length_dropLast]; omega, by rw [List.length_dropLast]; omega⟩
            show (List.take (IntKind.i64.wrap (((List.map srow l).length : Int) - 1)).toNat (l.map srow)).drop 0 = l.dropLast.map srow
            rw [hw, List.drop_zero, List.dropLast_eq_take, List.map_take, hn]
            rfl
      · rw [h2] at hR
        conv => whnf
        exact ⟨(zeroI, l), [0, 6], [], Sub.mk' rfl ⟨⟨rfl, rfl⟩, .inl rfl, ⟨rfl, rfl⟩, trivial⟩ (by repeat' (first | exact trivial | exact Or.inl (ti_succ (by assumption) (by assumption)) | exact Or.inl rfl | exact rfl | exact Nat.le_refl _ | apply And.intro)) rfl rfl, hR, by simp only; omega, by simp only; omega⟩
    · replace h1 : decide ((l.length : Int) > 1) = false := by rw [← hlm]; exact h1
      rw [h1] at hR
      conv => whnf
      exact ⟨(zeroI, l), [0, 6], [], Sub.mk' rfl ⟨⟨rfl, rfl⟩, .inl rfl, ⟨rfl, rfl⟩, trivial⟩ (by repeat' (first | exact trivial | exact Or.inl (ti_succ (by assumption) (by assumption)) | exact Or.inl rfl | exact rfl | exact Nat.le_refl _ | apply And.intro)) rfl rfl, hR, by simp only; omega, by simp only; omega⟩
  clear hR hn hn1 hn2 hsp
  rintro ⟨i, l⟩ ⟨hR, hl1, hl2⟩ -
  simp only at hR hl1 hl2
  have hlm : (((List.map srow l).length : Nat) : Int) = l.length := by rw [List.length_map]
  cases l with
  | nil => simp at hl1
  | cons w r =>
    have hk := k_kind w
    have hok := kindS_ok (s := w)
    obtain ⟨kind, op, d, a, b, addr, to_, word, from_⟩ := i
    have hR : R = bif !(kindS w).2.2 then (⟨(kindS w).1, (kindS w).2.1, d, a, b, addr, to_, word, from_⟩, false) else fieldsG (usedM (kindS w).1 (kindS w).2.1) (kuse (kindS w).1) ⟨(kindS w).1, (kindS w).2.1, d, a, b, addr, to_, word, from_⟩ r := hR
    generalize kindS w = Q at hk hok hR
    obtain ⟨Q1, Q2, Q3⟩ := Q
    simp only at hok
    conv => whnf
    refine ⟨rfl, by decide, by simp, fun row hrow => ?_⟩
    cases hrow
    conv => whnf
    refine acall.pure _ (hk) rfl rfl fun _ => ?_
    conv => whnf
    cases Q3
    · replace hR : R = (⟨Q1, Q2, d, a, b, addr, to_, word, from_⟩, false) := hR
      rw [hR]
      conv => whnf
      exact (by repeat' (first | exact trivial | exact Or.inl (ti_succ (by assumption) (by assumption)) | exact Or.inl rfl | exact rfl | exact Nat.le_refl _ | apply And.intro))
    replace hR : R = fieldsG (usedM Q1 Q2) (kuse Q1) ⟨Q1, Q2, d, a, b, addr, to_, word, from_⟩ r := hR
    obtain ⟨W, u1, u2, u3, u4, hW, hU, hf⟩ := forms_at (hok rfl)
    have hu := k_used ⟨Q1, Q2, d, a, b, addr, to_, word, from_⟩
    simp only at hu
    generalize usedM Q1 Q2 = all at hu hR
    rw [hU] at hR
    clear hU hW hk
    conv => whnf
    refine acall.pure _ (hf) rfl rfl fun _ => ?_
    conv => whnf
    refine acall.pure _ (hu) rfl rfl fun _ => ?_
    conv => whnf
    refine ⟨rfl, by decide, (show (1 : Int) ≤ (List.map srow (w :: r)).length by rw [List.length_map, List.length_cons]; omega), Int.le_refl _, ?_⟩
    conv => whnf
    refine LoopL.by (fun x : Ins × List ByteArray × Nat => ⟨[(2, .ptr 0 0), (4, .tr (strsT x.2.1)), (5, .ptr 1 0), (12, .tr (tu all)), (79, .agg [.tr (tu u1), .tr (tu u2), .tr (tu u3), .tr (tu u4)]), (80, .tr (ti x.2.2))], [(0, insB zeroI), (1, insB x.1)], 20⟩)
      (fun x => x.2.2 ≤ 4 ∧ R = fieldsG all ([u1, u2, u3, u4].drop x.2.2) x.1 x.2.1 ∧ x.2.1.length ≤ 4294967281) (fun x => 4 - x.2.2) (⟨Q1, Q2, d, a, b, addr, to_, word, from_⟩, r, 0) [0, 1] []
      (Sub.mk' rfl ⟨⟨rfl, rfl⟩, .inl (congrArg (Tr.lst 1 16) ?_), ⟨rfl, rfl⟩, .inl rfl, (by repeat' (first | exact trivial | exact Or.inl (ti_succ (by assumption) (by assumption)) | exact Or.inl rfl | exact rfl | exact Nat.le_refl _ | apply And.intro)), .inl rfl, trivial⟩ (by repeat' (first | exact trivial | exact Or.inl (ti_succ (by assumption) (by assumption)) | exact Or.inl rfl | exact rfl | exact Nat.le_refl _ | apply And.intro)) rfl rfl) ⟨Nat.zero_le _, hR, by simp only [List.length_cons] at hl2 ⊢; omega⟩ ?_
    · show (List.take (((List.map srow (w :: r)).length : Nat) : Int).toNat (List.map srow (w :: r))).drop 1 = r.map srow
      rw [Int.toNat_natCast, List.take_length]; rfl
    clear hR hl1 hl2 hlm hu hf hok
    rintro ⟨i, l, j⟩ ⟨hj, hR, hl⟩ -
    simp only at hj hR hl
    conv => whnf
    refine csplit (fun hlt => ?_) (fun hge => ?_)
    · have hlt : j < 4 := by have := of_decide_eq_true hlt; simp only at this; omega
      conv => whnf
      refine ⟨(show (0 : Int) ≤ j by omega), (show (j : Int) < 4 by omega), rfl, hlt, fun v hv => ?_⟩
      replace hv : ([u1, u2, u3, u4].map fun u => AV.tr (tu u))[j]? = some v := hv
      obtain ⟨u, hu, rfl⟩ := map_get hv
      rw [drop_cons hu] at hR
      have ht := ti_succ (n := 4) hlt (by decide)
      conv => whnf
      refine csplit (fun h1 => ?_) (fun h1 => ?_)
      · replace h1 : (band u all == 0) = true := h1
        have hR2 : R = fieldsG all ([u1, u2, u3, u4].drop (j + 1)) i l := by rw [hR]; exact fieldsG_skip (by rw [h1]; rfl)
        conv => whnf
        refine ⟨fun _ => ?_, fun h => absurd rfl h⟩
        conv => whnf
        exact ⟨(i, l, j + 1), [0, 1], [], Sub.mk' rfl ⟨⟨rfl, rfl⟩, .inl rfl, ⟨rfl, rfl⟩, .inl rfl, (by repeat' (first | exact trivial | exact Or.inl (ti_succ (by assumption) (by assumption)) | exact Or.inl rfl | exact rfl | exact Nat.le_refl _ | apply And.intro)), .inl ht, trivial⟩ (by repeat' (first | exact trivial | exact Or.inl (ti_succ (by assumption) (by assumption)) | exact Or.inl rfl | exact rfl | exact Nat.le_refl _ | apply And.intro)) rfl rfl, ⟨by simp only; omega, hR2, hl⟩, by simp only; omega⟩
      replace h1 : (band u all == 0) = false := h1
      conv => whnf
      refine csplit (fun h2 => ?_) (fun h2 => ?_)
      · replace h2 : (u == 1) = true := h2
        have hR2 : R = fieldsG all ([u1, u2, u3, u4].drop (j + 1)) i l := by rw [hR]; exact fieldsG_skip (by rw [h1, h2]; rfl)
        conv => whnf
        refine ⟨fun _ => ?_, fun h => absurd rfl h⟩
        conv => whnf
        exact ⟨(i, l, j + 1), [0, 1], [], Sub.mk' rfl ⟨⟨rfl, rfl⟩, .inl rfl, ⟨rfl, rfl⟩, .inl rfl, (by repeat' (first | exact trivial | exact Or.inl (ti_succ (by assumption) (by assumption)) | exact Or.inl rfl | exact rfl | exact Nat.le_refl _ | apply And.intro)), .inl ht, trivial⟩ (by repeat' (first | exact trivial | exact Or.inl (ti_succ (by assumption) (by assumption)) | exact Or.inl rfl | exact rfl | exact Nat.le_refl _ | apply And.intro)) rfl rfl, ⟨by simp only; omega, hR2, hl⟩, by simp only; omega⟩
      replace h2 : (u == 1) = false := h2
      unfold fieldsG at hR
      rw [h1, h2] at hR
      conv => whnf
      cases l with
      | nil =>
        replace hR : R = (i, false) := hR
        rw [hR]
        conv => whnf
        exact (by repeat' (first | exact trivial | exact Or.inl (ti_succ (by assumption) (by assumption)) | exact Or.inl rfl | exact rfl | exact Nat.le_refl _ | apply And.intro))
      | cons s r =>
        have hk := k_field i u s
        have hR : R = bif !(fieldS i u s).2 then ((fieldS i u s).1, false) else fieldsG all ([u1, u2, u3, u4].drop (j + 1)) (fieldS i u s).1 r := hR
        generalize fieldS i u s = F at hk hR
        obtain ⟨F1, F2⟩ := F
        simp only at hk hR
        conv => whnf
        refine ⟨rfl, Int.le_refl _, (show (0 : Int) < (List.map srow (s :: r)).length by rw [List.length_map, List.length_cons]; omega), fun row hrow => ?_⟩
        cases hrow
        conv => whnf
        refine acall.gen [1] [] _ _ _ _ hk rfl rfl rfl rfl (by repeat' (first | exact trivial | exact Or.inl (ti_succ (by assumption) (by assumption)) | exact Or.inl rfl | exact rfl | exact Nat.le_refl _ | apply And.intro)) (by repeat' (first | exact trivial | exact Or.inl (ti_succ (by assumption) (by assumption)) | exact Or.inl rfl | exact rfl | exact Nat.le_refl _ | apply And.intro)) rfl rfl fun _ => ?_
        cases F2
        · conv => whnf
          replace hR : R = (F1, false) := hR
          rw [hR]
          exact (by repeat' (first | exact trivial | exact Or.inl (ti_succ (by assumption) (by assumption)) | exact Or.inl rfl | exact rfl | exact Nat.le_refl _ | apply And.intro))
        · conv => whnf
          replace hR : R = fieldsG all ([u1, u2, u3, u4].drop (j + 1)) F1 r := hR
          refine ⟨rfl, by decide, (show (1 : Int) ≤ (List.map srow (s :: r)).length by rw [List.length_map, List.length_cons]; omega), Int.le_refl _, ?_⟩
          conv => whnf
          refine ⟨(F1, r, j + 1), [0, 1], [], Sub.mk' rfl ⟨⟨rfl, rfl⟩, .inl (congrArg (Tr.lst 1 16) ?_), ⟨rfl, rfl⟩, .inl rfl, (by repeat' (first | exact trivial | exact Or.inl (ti_succ (by assumption) (by assumption)) | exact Or.inl rfl | exact rfl | exact Nat.le_refl _ | apply And.intro)), .inl ht, trivial⟩ (by repeat' (first | exact trivial | exact Or.inl (ti_succ (by assumption) (by assumption)) | exact Or.inl rfl | exact rfl | exact Nat.le_refl _ | apply And.intro)) rfl rfl, ⟨by simp only; omega, hR, by simp only [List.length_cons] at hl ⊢; omega⟩, by simp only; omega⟩
          show (List.take (((List.map srow (s :: r)).length : Nat) : Int).toNat (List.map srow (s :: r))).drop 1 = r.map srow
          rw [Int.toNat_natCast, List.take_length]; rfl
    · have hge : j = 4 := by have := of_decide_eq_false hge; simp only at this; omega
      subst hge
      replace hR : R = (i, (l.length : Int) == 0) := hR
      rw [hR]
      conv => whnf
      refine ⟨fun _ => ?_, fun h => absurd rfl h⟩
      conv => whnf
      exact ⟨⟨(by repeat' (first | exact trivial | exact Or.inl (ti_succ (by assumption) (by assumption)) | exact Or.inl rfl | exact rfl | exact Nat.le_refl _ | apply And.intro)), .inl (by rw [List.length_map]), trivial⟩, trivial⟩
end Go.Proofs.YtffhoknkfohfgaaDoor.am

namespace Go.Proofs.YtffhoknkfohfgaaDoor.am
open Go Go.Proofs
def objW : ByteArray := ⟨#[111, 98, 106, 101, 99, 116]⟩
def memW : ByteArray := ⟨#[109, 101, 109, 111, 114, 121]⟩
def headL : List ByteArray → Option (Int × Int × Int)
  | [w, a, b, c] => bif seq w objW && ((numS a).2 && ((numS b).2 && (numS c).2)) then some ((numS a).1, (numS b).1, (numS c).1) else none
  | _ => none
theorem four_of {l : List ByteArray} (h : l.length = 4) : ∃ w a b c, l = [w, a, b, c] := by
  match l, h with
  | [w, a, b, c], _ => exact ⟨w, a, b, c, rfl⟩
theorem headL_ne {l : List ByteArray} (h : l.length ≠ 4) : headL l = none := by
  unfold headL
  split
  · exact absurd rfl h
  · rfl
abbrev nilT : AV := .tr (.v (.slice none 0 0))
abbrev obB (m : AV) (a b c : Int) (k : AV) : Blk := .cells 25 [m, .tr (ti a), .tr (ti b), .tr (ti c), k]
set_option maxRecDepth 100000 in
theorem k_head (line : ByteArray) (hs : line.size < 4294967281) : match headL (splitBl line) with
    | some (a, b, c) => K 29 [.ptr 0 0, .tr (ts line)] [obB nilT 0 0 0 nilT] (.ret (.tr (tb true))) [some (obB nilT a b c nilT)]
    | none => K 29 [.ptr 0 0, .tr (ts line)] [obB nilT 0 0 0 nilT] (.ret (.tr (tb false))) [none] := by
  have hsp := k_split line hs
  have hlen := splitBl_len line
  have hcs := count_size line
  generalize splitBl line = l at hsp hlen ⊢
  by_cases h4 : l.length = 4
  · obtain ⟨w, a, b, c, rfl⟩ := four_of h4
    have ha := k_number a
    have hb := k_number b
    have hc := k_number c
    show match (bif seq w objW && ((numS a).2 && ((numS b).2 && (numS c).2)) then some ((numS a).1, (numS b).1, (numS c).1) else none) with
      | some (a, b, c) => K 29 [.ptr 0 0, .tr (ts line)] [obB nilT 0 0 0 nilT] (.ret (.tr (tb true))) [some (obB nilT a b c nilT)]
      | none => K 29 [.ptr 0 0, .tr (ts line)] [obB nilT 0 0 0 nilT] (.ret (.tr (tb false))) [none]
    generalize numS a = A at ha ⊢
    generalize numS b = B at hb ⊢
    generalize numS c = C at hc ⊢
    obtain ⟨A1, A2⟩ := A
    obtain ⟨B1, B2⟩ := B
    obtain ⟨C1, C2⟩ := C
    cases hw : seq w objW
    · show K _ _ _ _ _
      refine Ctr.new [] hT hmix Tryd.func29 rfl (fun _ _ => by kernel_rfl) rfl fun hok => ?_
      clear hok
      conv => whnf
      refine acall.pure _ (hsp) rfl rfl fun _ => ?_
      conv => whnf
      refine ⟨rfl, by decide, (by show (_ : Int) < 4; decide), fun row hrow => ?_⟩
      cases hrow
      conv => whnf
      refine csplit (fun h => ?_) (fun h => ?_)
      · conv => whnf
        exact ⟨[0], rfl, rfl, .inl rfl, (by repeat' (first | exact trivial | exact Or.inl (ti_succ (by assumption) (by assumption)) | exact Or.inl rfl | exact rfl | exact Nat.le_refl _ | apply And.intro))⟩
      · exfalso
        have h : (!(seq w objW)) = false := h
        rw [hw] at h
        cases h
    cases A2
    · show K _ _ _ _ _
      refine Ctr.new [] hT hmix Tryd.func29 rfl (fun _ _ => by kernel_rfl) rfl fun hok => ?_
      clear hok
      conv => whnf
      refine acall.pure _ (hsp) rfl rfl fun _ => ?_
      conv => whnf
      refine ⟨rfl, by decide, (by show (_ : Int) < 4; decide), fun row hrow => ?_⟩
      cases hrow
      conv => whnf
      refine csplit (fun h => ?_) (fun h => ?_)
      · exfalso
        have h : (!(seq w objW)) = true := h
        rw [hw] at h
        cases h
      conv => whnf
      refine ⟨by kernel_rfl, fun _ => ?_⟩
      conv => whnf
      refine LoopL.un 4 ?_
      conv => whnf
      refine ⟨by decide, by decide, ?_⟩
      conv => whnf
      refine ⟨rfl, by decide, (by show (_ : Int) < 4; decide), fun row hrow => ?_⟩
      cases hrow
      conv => whnf
      refine acall.pure _ (ha) rfl rfl fun _ => ?_
      conv => whnf
      conv => whnf
      exact ⟨[0], rfl, rfl, .inl rfl, (by repeat' (first | exact trivial | exact Or.inl (ti_succ (by assumption) (by assumption)) | exact Or.inl rfl | exact rfl | exact Nat.le_refl _ | apply And.intro))⟩
    cases B2
    · show K _ _ _ _ _
      refine Ctr.new [] hT hmix Tryd.func29 rfl (fun _ _ => by kernel_rfl) rfl fun hok => ?_
      clear hok
      conv => whnf
      refine acall.pure _ (hsp) rfl rfl fun _ => ?_
      conv => whnf
      refine ⟨rfl, by decide, (by show (_ : Int) < 4; decide), fun row hrow => ?_⟩
      cases hrow
      conv => whnf
      refine csplit (fun h => ?_) (fun h => ?_)
      · exfalso
        have h : (!(seq w objW)) = true := h
        rw [hw] at h
        cases h
      conv => whnf
      refine ⟨by kernel_rfl, fun _ => ?_⟩
      conv => whnf
      refine LoopL.un 4 ?_
      conv => whnf
      refine ⟨by decide, by decide, ?_⟩
      conv => whnf
      refine ⟨rfl, by decide, (by show (_ : Int) < 4; decide), fun row hrow => ?_⟩
      cases hrow
      conv => whnf
      refine acall.pure _ (ha) rfl rfl fun _ => ?_
      conv => whnf
      conv => whnf
      refine ⟨by decide, by decide, ?_⟩
      conv => whnf
      refine ⟨rfl, by decide, (by show (_ : Int) < 4; decide), fun row hrow => ?_⟩
      cases hrow
      conv => whnf
      refine acall.pure _ (hb) rfl rfl fun _ => ?_
      conv => whnf
      conv => whnf
      exact ⟨[0], rfl, rfl, .inl rfl, (by repeat' (first | exact trivial | exact Or.inl (ti_succ (by assumption) (by assumption)) | exact Or.inl rfl | exact rfl | exact Nat.le_refl _ | apply And.intro))⟩
    cases C2
    · show K _ _ _ _ _
      refine Ctr.new [] hT hmix Tryd.func29 rfl (fun _ _ => by kernel_rfl) rfl fun hok => ?_
      clear hok
      conv => whnf
      refine acall.pure _ (hsp) rfl rfl fun _ => ?_
      conv => whnf
      refine ⟨rfl, by decide, (by show (_ : Int) < 4; decide), fun row hrow => ?_⟩
      cases hrow
      conv => whnf
      refine csplit (fun h => ?_) (fun h => ?_)
      · exfalso
        have h : (!(seq w objW)) = true := h
        rw [hw] at h
        cases h
      conv => whnf
      refine ⟨by kernel_rfl, fun _ => ?_⟩
      conv => whnf
      refine LoopL.un 4 ?_
      conv => whnf
      refine ⟨by decide, by decide, ?_⟩
      conv => whnf
      refine ⟨rfl, by decide, (by show (_ : Int) < 4; decide), fun row hrow => ?_⟩
      cases hrow
      conv => whnf
      refine acall.pure _ (ha) rfl rfl fun _ => ?_
      conv => whnf
      conv => whnf
      refine ⟨by decide, by decide, ?_⟩
      conv => whnf
      refine ⟨rfl, by decide, (by show (_ : Int) < 4; decide), fun row hrow => ?_⟩
      cases hrow
      conv => whnf
      refine acall.pure _ (hb) rfl rfl fun _ => ?_
      conv => whnf
      conv => whnf
      refine ⟨by decide, by decide, ?_⟩
      conv => whnf
      refine ⟨rfl, by decide, (by show (_ : Int) < 4; decide), fun row hrow => ?_⟩
      cases hrow
      conv => whnf
      refine acall.pure _ (hc) rfl rfl fun _ => ?_
      conv => whnf
      conv => whnf
      exact ⟨[0], rfl, rfl, .inl rfl, (by repeat' (first | exact trivial | exact Or.inl (ti_succ (by assumption) (by assumption)) | exact Or.inl rfl | exact rfl | exact Nat.le_refl _ | apply And.intro))⟩
    · show K _ _ _ _ _
      refine Ctr.new [] hT hmix Tryd.func29 rfl (fun _ _ => by kernel_rfl) rfl fun hok => ?_
      clear hok
      conv => whnf
      refine acall.pure _ (hsp) rfl rfl fun _ => ?_
      conv => whnf
      refine ⟨rfl, by decide, (by show (_ : Int) < 4; decide), fun row hrow => ?_⟩
      cases hrow
      conv => whnf
      refine csplit (fun h => ?_) (fun h => ?_)
      · exfalso
        have h : (!(seq w objW)) = true := h
        rw [hw] at h
        cases h
      conv => whnf
      refine ⟨by kernel_rfl, fun _ => ?_⟩
      conv => whnf
      refine LoopL.un 4 ?_
      conv => whnf
      refine ⟨by decide, by decide, ?_⟩
      conv => whnf
      refine ⟨rfl, by decide, (by show (_ : Int) < 4; decide), fun row hrow => ?_⟩
      cases hrow
      conv => whnf
      refine acall.pure _ (ha) rfl rfl fun _ => ?_
      conv => whnf
      conv => whnf
      refine ⟨by decide, by decide, ?_⟩
      conv => whnf
      refine ⟨rfl, by decide, (by show (_ : Int) < 4; decide), fun row hrow => ?_⟩
      cases hrow
      conv => whnf
      refine acall.pure _ (hb) rfl rfl fun _ => ?_
      conv => whnf
      conv => whnf
      refine ⟨by decide, by decide, ?_⟩
      conv => whnf
      refine ⟨rfl, by decide, (by show (_ : Int) < 4; decide), fun row hrow => ?_⟩
      cases hrow
      conv => whnf
      refine acall.pure _ (hc) rfl rfl fun _ => ?_
      conv => whnf
      conv => whnf
      refine ⟨fun _ => ?_, fun h => absurd rfl h⟩
      conv => whnf
      exact ⟨[0], rfl, rfl, .inl rfl, (by repeat' (first | exact trivial | exact Or.inl (ti_succ (by assumption) (by assumption)) | exact Or.inl rfl | exact rfl | exact Nat.le_refl _ | apply And.intro))⟩
  · rw [headL_ne h4]
    show K _ _ _ _ _
    refine Ctr.new [] hT hmix Tryd.func29 rfl (fun _ _ => by kernel_rfl) rfl fun hok => ?_
    clear hok
    conv => whnf
    refine acall.pure _ (hsp) rfl rfl fun _ => ?_
    conv => whnf
    refine csplit (fun h => ?_) (fun h => ?_)
    · conv => whnf
      exact ⟨[0], rfl, rfl, .inl rfl, (by repeat' (first | exact trivial | exact Or.inl (ti_succ (by assumption) (by assumption)) | exact Or.inl rfl | exact rfl | exact Nat.le_refl _ | apply And.intro))⟩
    · exfalso
      have h' : (((List.map srow l).length : Nat) : Int) = 4 := by simpa using h
      rw [List.length_map] at h'
      omega
/-! the memory's line -/
def memG : List ByteArray → Option (List Int)
  | [] => some []
  | s :: r => bif (prsB s).2.1 != 0 then none else (memG r).map fun l => (prsB s).1 :: l
def memL : List ByteArray → Option (List Int)
  | [] => none
  | w :: r => bif seq w memW then memG r else none
/-- what the memory comes to, out of what is read and what is left -/
def memA (acc : List Int) (r : List ByteArray) : Option (List Int) := (memG r).map fun l => acc ++ l
theorem memA_cons {acc : List Int} {s : ByteArray} {r : List ByteArray} : memA acc (s :: r) = bif (prsB s).2.1 != 0 then none else memA (acc ++ [(prsB s).1]) r := by
  unfold memA
  show Option.map _ (bif (prsB s).2.1 != 0 then none else (memG r).map fun l => (prsB s).1 :: l) = _
  cases (prsB s).2.1 != 0
  · show Option.map _ ((memG r).map fun l => (prsB s).1 :: l) = Option.map _ (memG r)
    rw [Option.map_map]
    congr 1
    funext l
    simp
  · rfl
abbrev memBk (l : List Int) : Blk := .vec 2 1 8 (l.map irow)
set_option maxRecDepth 100000 in
theorem k_memory (line : ByteArray) (hs : line.size < 4294967281) (a b c : Int) : match memL (splitBl line) with
    | some l => K 30 [.ptr 0 0, .tr (ts line)] [obB nilT a b c nilT] (.ret (.tr (tb true))) [some (obB (.sl 1 l.length) a b c nilT), some (memBk l)]
    | none => K 30 [.ptr 0 0, .tr (ts line)] [obB nilT a b c nilT] (.ret (.tr (tb false))) [none] := by
  have hsp := k_split line hs
  have hlen := splitBl_len line
  have hcs := count_size line
  obtain ⟨R, hR⟩ : ∃ R, R = memL (splitBl line) := ⟨_, rfl⟩
  rw [← hR]
  generalize splitBl line = l at hsp hlen hR
  cases l with
  | nil => simp at hlen
  | cons w r =>
    have hR : R = bif seq w memW then memG r else none := hR
    have hlr : r.length ≤ 4294967281 := by simp only [List.length_cons] at hlen; omega
    clear hlen hcs
    cases hw : seq w memW
    · rw [hw] at hR
      obtain rfl : R = none := hR
      show K _ _ _ _ _
      refine Ctr.new [] hT hmix Tryd.func30 rfl (fun _ _ => by kernel_rfl) rfl fun hok => ?_
      clear hok
      conv => whnf
      refine acall.pure _ (hsp) rfl rfl fun _ => ?_
      conv => whnf
      refine ⟨rfl, by decide, (show (0 : Int) < (List.map srow (w :: r)).length by rw [List.length_map, List.length_cons]; omega), fun row hrow => ?_⟩
      cases hrow
      conv => whnf
      refine csplit (fun h => ?_) (fun h => ?_)
      · conv => whnf
        exact ⟨[0], rfl, rfl, .inl rfl, (by repeat' (first | exact trivial | exact Or.inl (ti_succ (by assumption) (by assumption)) | exact Or.inl rfl | exact rfl | exact Nat.le_refl _ | apply And.intro))⟩
      · exfalso
        have h : (!(seq w memW)) = false := h
        rw [hw] at h
        cases h
    · rw [hw] at hR
      replace hR : R = memA [] r := by rw [show R = memG r from hR]; unfold memA; cases memG r <;> rfl
      have hdr : ((List.map srow (w :: r)).take (((List.map srow (w :: r)).length : Nat) : Int).toNat).drop 1 = r.map srow := by
        rw [Int.toNat_natCast, List.take_length]; rfl
      have hdl : (((List.map srow (w :: r)).take (((List.map srow (w :: r)).length : Nat) : Int).toNat).drop 1).length = r.length := by rw [hdr, List.length_map]
      have key : ∀ R', R' = R → match R' with
          | some l => K 30 [.ptr 0 0, .tr (ts line)] [obB nilT a b c nilT] (.ret (.tr (tb true))) [some (obB (.sl 1 l.length) a b c nilT), some (memBk l)]
          | none => K 30 [.ptr 0 0, .tr (ts line)] [obB nilT a b c nilT] (.ret (.tr (tb false))) [none] := by
        rintro (_ | m) hm
        · show K _ _ _ _ _
          rw [← hm] at hR
          refine Ctr.new [] hT hmix Tryd.func30 rfl (fun _ _ => by kernel_rfl) rfl fun hok => ?_
          clear hok
          conv => whnf
          refine acall.pure _ (hsp) rfl rfl fun _ => ?_
          conv => whnf
          refine ⟨rfl, by decide, (show (0 : Int) < (List.map srow (w :: r)).length by rw [List.length_map, List.length_cons]; omega), fun row hrow => ?_⟩
          cases hrow
          conv => whnf
          refine csplit (fun h => ?_) (fun h => ?_)
          · exfalso
            have h : (!(seq w memW)) = true := h
            rw [hw] at h
            cases h
          conv => whnf
          refine ⟨rfl, by decide, (show (1 : Int) ≤ (List.map srow (w :: r)).length by rw [List.length_map, List.length_cons]; omega), Int.le_refl _, ?_⟩
          conv => whnf
          refine LoopL.by (fun x : List Int × Nat => ⟨[(0, .ptr 0 0), (18, .tr (strsT r)), (19, .tr (ti r.length)), (20, .tr (ti x.2))], [(0, obB (.sl 1 x.1.length) a b c nilT), (1, memBk x.1)], 10⟩)
            (fun x => x.2 ≤ r.length ∧ none = memA x.1 (r.drop x.2) ∧ x.1.length = x.2) (fun x => r.length - x.2) ([], 0) [0] [1]
            (Sub.mk' rfl ⟨⟨rfl, rfl⟩, .inl (congrArg (Tr.lst 1 16) hdr), .inl (congrArg (fun n : Nat => ti (n : Int)) hdl), .inl rfl, trivial⟩ ⟨⟨rfl, ⟨rfl, rfl, rfl, rfl⟩, .inl rfl, .inl rfl, .inl rfl, .inl rfl, trivial⟩, ⟨rfl, 2, 1, 8, rfl, by omega⟩, trivial⟩ rfl rfl) ⟨Nat.zero_le _, hR, rfl⟩ ?_
          rintro ⟨acc, k⟩ ⟨hk, hf, hac⟩ -
          simp only at hk hf hac
          conv => whnf
          refine csplit (fun hlt => ?_) (fun hge => ?_)
          · have hlt : k < r.length := by simpa using hlt
            conv => whnf
            refine ⟨rfl, (show (0 : Int) ≤ k by omega), (show (k : Int) < (List.map srow r).length by rw [List.length_map]; omega), fun row hrow => ?_⟩
            obtain ⟨s, hd, rfl⟩ := map_get hrow
            replace hd : r[k]? = some s := hd
            rw [drop_cons hd, memA_cons] at hf
            have hp := k_parseW s
            generalize prsB s = Q at hf hp
            obtain ⟨Q1, Q2, Q3⟩ := Q
            simp only at hf hp
            conv => whnf
            refine acall.pure _ (hp) rfl rfl fun _ => ?_
            conv => whnf
            refine csplit (fun h2 => ?_) (fun h2 => ?_)
            · replace h2 : (Q2 != 0) = true := h2
              rw [h2] at hf
              conv => whnf
              exact ⟨[0], rfl, rfl, .inl rfl, (by repeat' (first | exact trivial | exact Or.inl (ti_succ (by assumption) (by assumption)) | exact Or.inl rfl | exact rfl | exact Nat.le_refl _ | apply And.intro))⟩
            · replace h2 : (Q2 != 0) = false := h2
              rw [h2] at hf
              conv => whnf
              refine ⟨rfl, rfl, rfl, (show acc.length ≤ (acc.map irow).length by simp), (show (acc.length + 1) * 8 ≤ _ by omega), fun q hq => ?_, ?_⟩
              · simp at hq; subst hq; simp
              conv => whnf
              refine ⟨(acc ++ [Q1], k + 1), [0, 32], [], Sub.mk' rfl ⟨⟨rfl, rfl⟩, .inl rfl, .inl rfl, .inl (ti_succ hlt (by omega)), trivial⟩ ⟨⟨rfl, ⟨rfl, by simp⟩, .inl rfl, .inl rfl, .inl rfl, .inl rfl, trivial⟩, ⟨rfl, rfl, rfl, ?_⟩, trivial⟩ rfl rfl, ⟨by simp only; omega, hf, by simp only [List.length_append, List.length_cons, List.length_nil]; omega⟩, by simp only; omega⟩
              show (acc.map irow).take acc.length ++ List.take 1 [[ti Q1]] = (acc ++ [Q1]).map irow
              rw [List.take_of_length_le (by simp), List.map_append]
              rfl
          · have hge : r.length ≤ k := by simpa using hge
            rw [List.drop_eq_nil_of_le hge] at hf
            cases hf
        · show K _ _ _ _ _
          rw [← hm] at hR
          refine Ctr.new [] hT hmix Tryd.func30 rfl (fun _ _ => by kernel_rfl) rfl fun hok => ?_
          clear hok
          conv => whnf
          refine acall.pure _ (hsp) rfl rfl fun _ => ?_
          conv => whnf
          refine ⟨rfl, by decide, (show (0 : Int) < (List.map srow (w :: r)).length by rw [List.length_map, List.length_cons]; omega), fun row hrow => ?_⟩
          cases hrow
          conv => whnf
          refine csplit (fun h => ?_) (fun h => ?_)
          · exfalso
            have h : (!(seq w memW)) = true := h
            rw [hw] at h
            cases h
          conv => whnf
          refine ⟨rfl, by decide, (show (1 : Int) ≤ (List.map srow (w :: r)).length by rw [List.length_map, List.length_cons]; omega), Int.le_refl _, ?_⟩
          conv => whnf
          refine LoopL.by (fun x : List Int × Nat => ⟨[(0, .ptr 0 0), (18, .tr (strsT r)), (19, .tr (ti r.length)), (20, .tr (ti x.2))], [(0, obB (.sl 1 x.1.length) a b c nilT), (1, memBk x.1)], 10⟩)
            (fun x => x.2 ≤ r.length ∧ some m = memA x.1 (r.drop x.2) ∧ x.1.length = x.2) (fun x => r.length - x.2) ([], 0) [0] [1]
            (Sub.mk' rfl ⟨⟨rfl, rfl⟩, .inl (congrArg (Tr.lst 1 16) hdr), .inl (congrArg (fun n : Nat => ti (n : Int)) hdl), .inl rfl, trivial⟩ ⟨⟨rfl, ⟨rfl, rfl, rfl, rfl⟩, .inl rfl, .inl rfl, .inl rfl, .inl rfl, trivial⟩, ⟨rfl, 2, 1, 8, rfl, by omega⟩, trivial⟩ rfl rfl) ⟨Nat.zero_le _, hR, rfl⟩ ?_
          rintro ⟨acc, k⟩ ⟨hk, hf, hac⟩ -
          simp only at hk hf hac
          conv => whnf
          refine csplit (fun hlt => ?_) (fun hge => ?_)
          · have hlt : k < r.length := by simpa using hlt
            conv => whnf
            refine ⟨rfl, (show (0 : Int) ≤ k by omega), (show (k : Int) < (List.map srow r).length by rw [List.length_map]; omega), fun row hrow => ?_⟩
            obtain ⟨s, hd, rfl⟩ := map_get hrow
            replace hd : r[k]? = some s := hd
            rw [drop_cons hd, memA_cons] at hf
            have hp := k_parseW s
            generalize prsB s = Q at hf hp
            obtain ⟨Q1, Q2, Q3⟩ := Q
            simp only at hf hp
            conv => whnf
            refine acall.pure _ (hp) rfl rfl fun _ => ?_
            conv => whnf
            refine csplit (fun h2 => ?_) (fun h2 => ?_)
            · replace h2 : (Q2 != 0) = true := h2
              rw [h2] at hf
              cases hf
            · replace h2 : (Q2 != 0) = false := h2
              rw [h2] at hf
              conv => whnf
              refine ⟨rfl, rfl, rfl, (show acc.length ≤ (acc.map irow).length by simp), (show (acc.length + 1) * 8 ≤ _ by omega), fun q hq => ?_, ?_⟩
              · simp at hq; subst hq; simp
              conv => whnf
              refine ⟨(acc ++ [Q1], k + 1), [0, 32], [], Sub.mk' rfl ⟨⟨rfl, rfl⟩, .inl rfl, .inl rfl, .inl (ti_succ hlt (by omega)), trivial⟩ ⟨⟨rfl, ⟨rfl, by simp⟩, .inl rfl, .inl rfl, .inl rfl, .inl rfl, trivial⟩, ⟨rfl, rfl, rfl, ?_⟩, trivial⟩ rfl rfl, ⟨by simp only; omega, hf, by simp only [List.length_append, List.length_cons, List.length_nil]; omega⟩, by simp only; omega⟩
              show (acc.map irow).take acc.length ++ List.take 1 [[ti Q1]] = (acc ++ [Q1]).map irow
              rw [List.take_of_length_le (by simp), List.map_append]
              rfl
          · have hge : r.length ≤ k := by simpa using hge
            rw [List.drop_eq_nil_of_le hge] at hf
            have hf : some m = some (acc ++ []) := hf
            rw [List.append_nil] at hf
            cases hf
            conv => whnf
            refine ⟨fun _ => ?_, fun h => absurd rfl h⟩
            conv => whnf
            exact ⟨[0, 1], rfl, rfl, .inl rfl, (by repeat' (first | exact trivial | exact Or.inl (ti_succ (by assumption) (by assumption)) | exact Or.inl rfl | exact rfl | exact Nat.le_refl _ | apply And.intro))⟩
      exact key R rfl
end Go.Proofs.YtffhoknkfohfgaaDoor.am

namespace Go.Proofs.YtffhoknkfohfgaaDoor.am
open Go Go.Proofs
def coreW : ByteArray := ⟨#[99, 111, 114, 101]⟩
def isCore (l : List ByteArray) : Option ByteArray := match l with
  | [w, n] => bif seq w coreW then some n else none
  | _ => none
def addI (cs : List Cor) (i : Ins) : List Cor := match cs[cs.length - 1]? with
  | some c => cs.set (cs.length - 1) ⟨c.name, c.code ++ [i]⟩
  | none => cs
abbrev newC (n : ByteArray) : Cor := ⟨n, []⟩
def furtherS (cs : List Cor) (line : ByteArray) : Option (List Cor) := match isCore (splitBl line) with
  | some n => some (cs ++ [newC n])
  | none => bif !(instrS line).2 || (cs.length : Int) == 0 then none else some (addI cs (instrS line).1)
abbrev coresBk (cs : List Cor) : Blk := .own 2 40 (cs.map Cor.cells) []
theorem two_of {l : List ByteArray} (h : l.length = 2) : ∃ w a, l = [w, a] := by
  match l, h with
  | [w, a], _ => exact ⟨w, a, rfl⟩
theorem new_leaf (n : ByteArray) : leafR [[ts n, .v (.slice none 0 0)]] := by
  intro row hr t ht
  simp only [List.mem_cons, List.not_mem_nil, or_false] at hr
  subst hr
  simp only [List.mem_cons, List.not_mem_nil, or_false] at ht
  rcases ht with rfl | rfl <;> exact ⟨_, rfl⟩
theorem nlL_refl : ∀ l : List Tr, nlL l l
  | [] => trivial
  | _ :: l => ⟨.inl rfl, nlL_refl l⟩
theorem nlR_app : ∀ (l : List (List Tr)) {r r' : List (List Tr)}, nlR r r' → nlR (l ++ r) (l ++ r')
  | [], _, _, h => h
  | a :: l, _, _, h => ⟨nlL_refl a, nlR_app l h⟩
theorem new_nl (cs : List Cor) (n : ByteArray) : nlR (cs.map Cor.cells ++ [[ts n, .v (.slice none 0 0)]]) ((cs ++ [newC n]).map Cor.cells) := by
  rw [List.map_append]
  exact nlR_app _ ⟨⟨.inl rfl, .inr ⟨rfl, 9, 64, rfl⟩, trivial⟩, trivial⟩
set_option maxRecDepth 100000 in
theorem k_furtherC (line : ByteArray) (hs : line.size < 4294967281) (mem : List Int) (a b c : Int) (cs : List Cor) (hn : cs.length ≤ 16777216) (n : ByteArray) (hc : isCore (splitBl line) = some n) :
    K 28 [.ptr 0 0, .tr (ts line)] [obB (.sl 1 mem.length) a b c (.sl 2 cs.length), memBk mem, coresBk cs] (.ret (.tr (tb true)))
      [some (obB (.sl 1 mem.length) a b c (.sl 3 (cs ++ [newC n]).length)), some (memBk mem), none, some (coresBk (cs ++ [newC n]))] := by
  have hsp := k_split line hs
  generalize splitBl line = l at hsp hc
  by_cases h2 : l.length = 2
  · obtain ⟨w, m, rfl⟩ := two_of h2
    replace hc : (bif seq w coreW then some m else none) = some n := hc
    cases hw : seq w coreW
    · rw [hw] at hc; cases hc
    rw [hw] at hc
    cases hc
    refine Ctr.new [] hT hmix Tryd.func28 rfl (fun _ _ => by kernel_rfl) rfl fun hok => ?_
    clear hok
    conv => whnf
    refine acall.pure _ (hsp) rfl rfl fun _ => ?_
    conv => whnf
    refine ⟨rfl, by decide, (by show (_ : Int) < 2; decide), fun row hrow => ?_⟩
    cases hrow
    conv => whnf
    refine csplit (fun h => ?_) (fun h => ?_)
    · conv => whnf
      refine ⟨rfl, by decide, (by show (_ : Int) < 2; decide), fun row hrow => ?_⟩
      cases hrow
      conv => whnf
      refine ⟨by simp, rfl, Nat.le_refl _, (show (cs.length + 1) * 40 ≤ 140737488351232 by omega), trivial, new_leaf n, trivial, ?_⟩
      conv => whnf
      refine ⟨by kernel_rfl, fun _ => ?_⟩
      conv => whnf
      exact ⟨[0, 1, 2, 26], rfl, rfl, .inl rfl, ⟨rfl, ⟨rfl, rfl⟩, .inl rfl, .inl rfl, .inl rfl, ⟨rfl, by simp⟩, trivial⟩, ⟨rfl, rfl, rfl, rfl⟩, ⟨rfl, rfl, rfl, rfl, .inr (new_nl cs n)⟩, trivial⟩
    · exfalso
      have h : seq w coreW = false := h
      rw [hw] at h
      cases h
  · exfalso
    unfold isCore at hc
    split at hc
    · exact h2 rfl
    · cases hc
theorem isCore_none {l : List ByteArray} (h : isCore l = none) (h2 : l.length = 2) : ∃ w a, l = [w, a] ∧ seq w coreW = false := by
  obtain ⟨w, a, rfl⟩ := two_of h2
  refine ⟨w, a, rfl, ?_⟩
  replace h : (bif seq w coreW then some a else none) = none := h
  cases hw : seq w coreW
  · rfl
  · rw [hw] at h; cases h
set_option maxRecDepth 100000 in
theorem k_furtherN (line : ByteArray) (hs : line.size < 4294967281) (mem : List Int) (a b c : Int) (cs : List Cor) (hc : isCore (splitBl line) = none) (hr : ((instrS line).2 = true → cs.length = 0)) :
    K 28 [.ptr 0 0, .tr (ts line)] [obB (.sl 1 mem.length) a b c (.sl 2 cs.length), memBk mem, coresBk cs] (.ret (.tr (tb false))) [none, none, none] := by
  have hsp := k_split line hs
  have hi := k_instr line hs
  generalize splitBl line = l at hsp hc
  generalize instrS line = R at hi hr
  obtain ⟨⟨i1, i2, i3, i4, i5, i6, i7, i8, i9⟩, R2⟩ := R
  simp only at hi hr
  refine Ctr.new [5] hT hmix Tryd.func28 rfl (fun _ _ => by kernel_rfl) rfl fun hok => ?_
  clear hok
  conv => whnf
  refine CutL.by (fun _ : Unit => ⟨[(0, .ptr 0 0), (1, .tr (ts line))], [(0, obB (.sl 1 mem.length) a b c (.sl 2 cs.length)), (1, memBk mem), (2, coresBk cs)], 10⟩) (fun _ => True) ?_ ?_
  · by_cases h2 : l.length = 2
    · obtain ⟨w, m, rfl, hw⟩ := isCore_none hc h2
      conv => whnf
      refine acall.pure _ (hsp) rfl rfl fun _ => ?_
      conv => whnf
      refine ⟨rfl, by decide, (by show (_ : Int) < 2; decide), fun row hrow => ?_⟩
      cases hrow
      conv => whnf
      refine csplit (fun h => ?_) (fun h => ?_)
      · exfalso
        have h : seq w coreW = true := h
        rw [hw] at h
        cases h
      · conv => whnf
        exact ⟨(), [0, 1, 2], [], Sub.mk' rfl ⟨⟨rfl, rfl⟩, .inl rfl, trivial⟩ (by repeat' (first | exact trivial | exact Or.inl (ti_succ (by assumption) (by assumption)) | exact Or.inl rfl | exact rfl | exact Nat.le_refl _ | apply And.intro)) rfl rfl, trivial⟩
    · conv => whnf
      refine acall.pure _ (hsp) rfl rfl fun _ => ?_
      conv => whnf
      refine csplit (fun h => ?_) (fun h => ?_)
      · exfalso
        have h' : (((List.map srow l).length : Nat) : Int) = 2 := by simpa using h
        rw [List.length_map] at h'
        omega
      · conv => whnf
        exact ⟨(), [0, 1, 2], [], Sub.mk' rfl ⟨⟨rfl, rfl⟩, .inl rfl, trivial⟩ (by repeat' (first | exact trivial | exact Or.inl (ti_succ (by assumption) (by assumption)) | exact Or.inl rfl | exact rfl | exact Nat.le_refl _ | apply And.intro)) rfl rfl, trivial⟩
  · rintro - - -
    cases R2
    · conv => whnf
      refine acall.pure _ (hi) rfl rfl fun _ => ?_
      conv => whnf
      exact ⟨[0, 1, 2], rfl, rfl, .inl rfl, (by repeat' (first | exact trivial | exact Or.inl (ti_succ (by assumption) (by assumption)) | exact Or.inl rfl | exact rfl | exact Nat.le_refl _ | apply And.intro))⟩
    · have h0 := hr rfl
      conv => whnf
      refine acall.pure _ (hi) rfl rfl fun _ => ?_
      conv => whnf
      refine csplit (fun h => ?_) (fun h => ?_)
      · conv => whnf
        exact ⟨[0, 1, 2], rfl, rfl, .inl rfl, (by repeat' (first | exact trivial | exact Or.inl (ti_succ (by assumption) (by assumption)) | exact Or.inl rfl | exact rfl | exact Nat.le_refl _ | apply And.intro))⟩
      · exfalso
        have h : ((cs.length : Int) == 0) = false := h
        rw [h0] at h
        cases h
theorem ins_leaf (i : Ins) : leafR [i.cells] := by
  intro row hr t ht
  simp only [List.mem_cons, List.not_mem_nil, or_false] at hr
  subst hr
  simp only [Ins.cells, List.mem_cons, List.not_mem_nil, or_false] at ht
  rcases ht with rfl | rfl | rfl | rfl | rfl | rfl | rfl | rfl | rfl <;> exact ⟨_, rfl⟩
theorem set_row {cs : List Cor} {n : Nat} {dn : ByteArray} {t : Tr} (hn : n < cs.length) : setC ((cs.map Cor.cells).set n [ts dn, .v (.slice none 0 0)]) n 1 t = (cs.map Cor.cells).set n [ts dn, t] := by
  unfold setC
  rw [List.getElem?_set_self (by rw [List.length_map]; exact hn), List.set_set]
  rfl
theorem addI_at {cs : List Cor} {i : Ins} {c : Cor} (h : cs[cs.length - 1]? = some c) : addI cs i = cs.set (cs.length - 1) ⟨c.name, c.code ++ [i]⟩ := by
  unfold addI; rw [h]
set_option maxRecDepth 100000 in
theorem k_furtherI (line : ByteArray) (hs : line.size < 4294967281) (mem : List Int) (a b c : Int) (cs : List Cor) (hn : cs.length ≤ 16777216) (hcd : ∀ c ∈ cs, c.code.length ≤ 16777216) (hc : isCore (splitBl line) = none) (hr : (instrS line).2 = true) (h0 : cs.length ≠ 0) :
    K 28 [.ptr 0 0, .tr (ts line)] [obB (.sl 1 mem.length) a b c (.sl 2 cs.length), memBk mem, coresBk cs] (.ret (.tr (tb true))) [some (obB (.sl 1 mem.length) a b c (.sl 2 (addI cs (instrS line).1).length)), some (memBk mem), some (coresBk (addI cs (instrS line).1))] := by
  have hsp := k_split line hs
  have hi := k_instr line hs
  generalize splitBl line = l at hsp hc
  generalize instrS line = R at hi hr ⊢
  obtain ⟨⟨i1, i2, i3, i4, i5, i6, i7, i8, i9⟩, R2⟩ := R
  simp only at hi hr
  subst hr
  obtain ⟨d, hd⟩ : ∃ d, cs[cs.length - 1]? = some d := ⟨cs[cs.length - 1]'(by omega), by simp⟩
  rw [addI_at hd]
  have hdc := hcd d (List.mem_of_getElem? hd)
  refine Ctr.pk [5] hT hmix Tryd.func28 rfl (fun _ _ => by kernel_rfl) rfl fun hok => ?_
  clear hok
  conv => whnf
  refine CutL.by (fun _ : Unit => ⟨[(0, .ptr 0 0), (1, .tr (ts line))], [(0, obB (.sl 1 mem.length) a b c (.sl 2 cs.length)), (1, memBk mem), (2, coresBk cs)], 10⟩) (fun _ => True) ?_ ?_
  · by_cases h2 : l.length = 2
    · obtain ⟨w, m, rfl, hw⟩ := isCore_none hc h2
      conv => whnf
      refine acall.pure _ (hsp) rfl rfl fun _ => ?_
      conv => whnf
      refine ⟨rfl, by decide, (by show (_ : Int) < 2; decide), fun row hrow => ?_⟩
      cases hrow
      conv => whnf
      refine csplit (fun h => ?_) (fun h => ?_)
      · exfalso
        have h : seq w coreW = true := h
        rw [hw] at h
        cases h
      · conv => whnf
        exact ⟨(), [0, 1, 2], [], Sub.mk' rfl ⟨⟨rfl, rfl⟩, .inl rfl, trivial⟩ (by repeat' (first | exact trivial | exact Or.inl (ti_succ (by assumption) (by assumption)) | exact Or.inl rfl | exact rfl | exact Nat.le_refl _ | apply And.intro)) rfl rfl, trivial⟩
    · conv => whnf
      refine acall.pure _ (hsp) rfl rfl fun _ => ?_
      conv => whnf
      refine csplit (fun h => ?_) (fun h => ?_)
      · exfalso
        have h' : (((List.map srow l).length : Nat) : Int) = 2 := by simpa using h
        rw [List.length_map] at h'
        omega
      · conv => whnf
        exact ⟨(), [0, 1, 2], [], Sub.mk' rfl ⟨⟨rfl, rfl⟩, .inl rfl, trivial⟩ (by repeat' (first | exact trivial | exact Or.inl (ti_succ (by assumption) (by assumption)) | exact Or.inl rfl | exact rfl | exact Nat.le_refl _ | apply And.intro)) rfl rfl, trivial⟩
  · rintro - - -
    conv => whnf
    refine acall.pure _ (hi) rfl rfl fun _ => ?_
    conv => whnf
    refine csplit (fun h => ?_) (fun h => ?_)
    · exfalso
      have h : ((cs.length : Int) == 0) = true := h
      have := of_decide_eq_true h
      omega
    conv => whnf
    have hw : IntKind.i64.wrap ((cs.length : Int) - 1) = ((cs.length - 1 : Nat) : Int) := by rw [w64 (by omega) (by omega)]; omega
    generalize IntKind.i64.wrap ((cs.length : Int) - 1) = z at hw
    subst hw
    refine ⟨rfl, by omega, by omega, ?_⟩
    conv => whnf
    refine ⟨by kernel_rfl, fun _ => ?_⟩
    conv => whnf
    have e : (List.map Cor.cells cs)[cs.length - 1]? = some (Cor.cells d) := by rw [List.getElem?_map, hd]; rfl
    obtain ⟨dn, dc⟩ := d
    refine ⟨rfl, (show cs.length - 1 < _ by rw [List.length_map]; omega), fun row hrow => ?_⟩
    replace hrow : (List.map Cor.cells cs)[cs.length - 1]? = some row := hrow
    rw [e] at hrow
    cases hrow
    refine ⟨(show (1 : Nat) < 2 by decide), fun t ht => ?_⟩
    cases ht
    conv => whnf
    refine ⟨by decide, ?_⟩
    conv => whnf
    refine ⟨by simp, rfl, Nat.le_refl _, (show ((dc.map Ins.cells).length + 1) * 64 ≤ 140737488351232 by rw [List.length_map]; simp only at hdc; omega), trivial, ins_leaf ⟨i1, i2, i3, i4, i5, i6, i7, i8, i9⟩, trivial, ?_⟩
    conv => whnf
    refine ⟨rfl, rfl, rfl, (show cs.length - 1 < _ by rw [List.length_map]; omega), ⟨fun _ => rfl, trivial⟩, fun row hrow => ?_⟩
    replace hrow : (List.map Cor.cells cs)[cs.length - 1]? = some row := hrow
    rw [e] at hrow
    cases hrow
    refine ⟨(show (2 : Nat) ≤ 2 by decide), ?_⟩
    conv => whnf
    refine ⟨by kernel_rfl, fun _ => ?_⟩
    conv => whnf
    refine ⟨[2], ?_⟩
    conv => whnf
    refine ⟨rfl, rfl, (show (dc.map Ins.cells).length + 1 ≤ (dc.map Ins.cells ++ [Ins.cells ⟨i1, i2, i3, i4, i5, i6, i7, i8, i9⟩]).length by simp), ?_⟩
    refine ⟨[0, 1, 2], rfl, rfl, .inl rfl, ⟨rfl, ⟨rfl, rfl⟩, .inl rfl, .inl rfl, .inl rfl, ⟨rfl, by simp⟩, trivial⟩, ⟨rfl, rfl, rfl, rfl⟩, ⟨rfl, rfl, rfl, rfl, .inl ?_⟩, trivial⟩
    show setC ((cs.map Cor.cells).set (cs.length - 1) [ts dn, .v (.slice none 0 0)]) (cs.length - 1) 1 (.lst 9 64 ((dc.map Ins.cells ++ [Ins.cells ⟨i1, i2, i3, i4, i5, i6, i7, i8, i9⟩]).take ((dc.map Ins.cells).length + 1))) = (cs.set (cs.length - 1) ⟨dn, dc ++ [⟨i1, i2, i3, i4, i5, i6, i7, i8, i9⟩]⟩).map Cor.cells
    rw [set_row (by omega), List.take_of_length_le (by simp), List.map_set]
    show List.set _ _ [ts dn, _] = List.set _ _ [ts dn, codeT (dc ++ [_])]
    rw [codeT, List.map_append]
    rfl
end Go.Proofs.YtffhoknkfohfgaaDoor.am

namespace Go.Proofs.YtffhoknkfohfgaaDoor.am
open Go Go.Proofs
def emptyO : Ob := ⟨[], 0, 0, 0, []⟩
def lnl (s : ByteArray) (at_ : Nat) : Int := idxB (s.extract at_ s.size) 10
/-- the lines behind the second; or the place of one that is none -/
def parseG (s : ByteArray) : Nat → Nat → List Cor → List Cor × Option Nat
  | 0, _, cs => (cs, none)
  | f + 1, at_, cs => bif decide ((at_ : Int) < s.size) then (bif decide (lnl s at_ < 0) then ([], some at_) else match furtherS cs (s.extract at_ (at_ + (lnl s at_).toNat)) with
    | none => ([], some at_)
    | some cs' => parseG s f (at_ + (lnl s at_).toNat + 1) cs') else (cs, none)
def doneP (o : Ob) : Ob × Int × Int := bif (checkO o).1 != 0 then (emptyO, (checkO o).1, 0) else (o, 0, 0)
def parseR (mem : List Int) (a b c : Int) (q : List Cor × Option Nat) : Ob × Int × Int := match q.2 with
  | some at_ => (emptyO, 161, at_)
  | none => doneP ⟨mem, a, b, c, q.1⟩
def parseM (s : ByteArray) (a b c : Int) (at_ : Nat) : Ob × Int × Int := bif decide (lnl s at_ < 0) then (emptyO, 161, at_) else match memL (splitBl (s.extract at_ (at_ + (lnl s at_).toNat))) with
  | none => (emptyO, 161, at_)
  | some mem => parseR mem a b c (parseG s (s.size - (at_ + (lnl s at_).toNat + 1)) (at_ + (lnl s at_).toNat + 1) [])
def parseH (s : ByteArray) : Ob × Int × Int := bif decide (lnl s 0 < 0) then (emptyO, 161, 0) else match headL (splitBl (s.extract 0 (0 + (lnl s 0).toNat))) with
  | none => (emptyO, 161, 0)
  | some (a, b, c) => parseM s a b c (0 + (lnl s 0).toNat + 1)
def parseS (s : ByteArray) : Ob × Int × Int := bif decide ((s.size : Int) > 16777216) then (emptyO, 4, 0) else parseH s
theorem parseS4 {s : ByteArray} (h : decide ((s.size : Int) > 16777216) = true) : parseS s = (emptyO, 4, 0) := by unfold parseS; rw [h]; rfl
inductive PSt where
  | h
  | m (a b c : Int) (at_ : Nat)
  | r (k at_ : Nat) (mem : List Int) (a b c : Int) (cs : List Cor)
def pJ (s : ByteArray) : PSt → LJ
  | .h => ⟨[(0, .tr (ts s)), (2, .ptr 0 0), (5, .ptr 1 0), (6, .tr (ti 0)), (7, .tr (ti 0))], [(0, obB nilT 0 0 0 nilT), (1, obB nilT 0 0 0 nilT)], 10⟩
  | .m a b c at_ => ⟨[(0, .tr (ts s)), (2, .ptr 0 0), (5, .ptr 1 0), (6, .tr (ti at_)), (7, .tr (ti 1))], [(0, obB nilT 0 0 0 nilT), (1, obB nilT a b c nilT)], 10⟩
  | .r k at_ mem a b c cs => ⟨[(0, .tr (ts s)), (2, .ptr 0 0), (5, .ptr 1 0), (6, .tr (ti at_)), (7, .tr (ti k))], [(0, obB nilT 0 0 0 nilT), (1, obB (.sl 2 mem.length) a b c (.sl 3 cs.length)), (2, memBk mem), (3, coresBk cs)], 10⟩
def pI (s : ByteArray) (R : Ob × Int × Int) : PSt → Prop
  | .h => R = parseH s
  | .m a b c at_ => at_ ≤ s.size ∧ R = parseM s a b c at_
  | .r k at_ mem a b c cs => 2 ≤ k ∧ k ≤ at_ + 2 ∧ at_ ≤ s.size ∧ cs.length ≤ at_ ∧ (∀ c ∈ cs, c.code.length ≤ at_) ∧ R = parseR mem a b c (parseG s (s.size - at_) at_ cs)
def pMu (s : ByteArray) : PSt → Nat
  | .h => s.size + 2
  | .m _ _ _ _ => s.size + 1
  | .r _ at_ _ _ _ _ _ => s.size - at_
theorem ext_size (s : ByteArray) (at_ : Nat) : (s.extract at_ s.size).size = s.size - at_ := by rw [ByteArray.size_extract]; omega
theorem idx_ne : ∀ (l : List UInt8) (c : UInt8), Lib.indexByte l c ≠ (l.length : Int)
  | [], c => by simp [Lib.indexByte]
  | b :: l, c => by
    have h := idx_ne l c
    have h2 := indexByte_le l c
    unfold Lib.indexByte
    simp only [List.length_cons]
    split
    · omega
    · split <;> omega
theorem lnl_lt (s : ByteArray) {at_ : Nat} (h : at_ ≤ s.size) (h0 : decide (lnl s at_ < 0) = false) : lnl s at_ = ((lnl s at_).toNat : Int) ∧ at_ + (lnl s at_).toNat < s.size := by
  have h1 : ¬ lnl s at_ < 0 := of_decide_eq_false h0
  have h2 := (indexByte_le (s.extract at_ s.size).data.toList (10 : Int).toNat.toUInt8).1
  have e : (s.extract at_ s.size).data.toList.length = (s.extract at_ s.size).size := by simp
  rw [ext_size] at e
  have h3 : lnl s at_ ≤ (s.size - at_ : Nat) := by rw [← e]; exact h2
  refine ⟨by omega, ?_⟩
  have h4 : lnl s at_ ≠ ((s.size - at_ : Nat) : Int) := by
    intro hc
    exact idx_ne (s.extract at_ s.size).data.toList (10 : Int).toNat.toUInt8 (by rw [e]; exact hc)
  omega
theorem addI_len (cs : List Cor) (i : Ins) : (addI cs i).length = cs.length := by
  unfold addI
  split
  · rw [List.length_set]
  · rfl
theorem addI_code {cs : List Cor} {i : Ins} {n : Nat} (h : ∀ c ∈ cs, c.code.length ≤ n) : ∀ c ∈ addI cs i, c.code.length ≤ n + 1 := by
  unfold addI
  split
  · rename_i d hd
    intro c hc
    rcases List.mem_or_eq_of_mem_set hc with hc | rfl
    · exact Nat.le_succ_of_le (h c hc)
    · have := h d (List.mem_of_getElem? hd)
      simp only [List.length_append, List.length_cons, List.length_nil]; omega
  · exact fun c hc => Nat.le_succ_of_le (h c hc)
theorem parseG_at {s : ByteArray} {at_ : Nat} {cs : List Cor} (h : at_ < s.size) : parseG s (s.size - at_) at_ cs = bif decide (lnl s at_ < 0) then ([], some at_) else match furtherS cs (s.extract at_ (at_ + (lnl s at_).toNat)) with
    | none => ([], some at_)
    | some cs' => parseG s (s.size - at_ - 1) (at_ + (lnl s at_).toNat + 1) cs' := by
  obtain ⟨f, hf⟩ : ∃ f, s.size - at_ = f + 1 := ⟨s.size - at_ - 1, by omega⟩
  rw [hf]
  show (bif decide ((at_ : Int) < s.size) then _ else _) = _
  rw [show decide ((at_ : Int) < s.size) = true from decide_eq_true (by omega)]
  rfl
theorem parseG_end {s : ByteArray} {at_ : Nat} {cs : List Cor} (h : s.size ≤ at_) (f : Nat) : parseG s f at_ cs = (cs, none) := by
  cases f with
  | zero => rfl
  | succ f =>
    show (bif decide ((at_ : Int) < s.size) then _ else _) = _
    rw [show decide ((at_ : Int) < s.size) = false from decide_eq_false (by omega)]
    rfl
/-- more fuel than there are bytes is as good -/
theorem parseG_fuel (s : ByteArray) : ∀ (f f' at_ : Nat) (cs : List Cor), s.size - at_ ≤ f → s.size - at_ ≤ f' → parseG s f at_ cs = parseG s f' at_ cs
  | 0, f', at_, cs, h, _ => by rw [parseG_end (by omega), parseG_end (by omega)]
  | f + 1, 0, at_, cs, _, h => by rw [parseG_end (by omega), parseG_end (by omega)]
  | f + 1, f' + 1, at_, cs, h, h' => by
    show (bif decide ((at_ : Int) < s.size) then (bif decide (lnl s at_ < 0) then _ else _) else _) = (bif decide ((at_ : Int) < s.size) then (bif decide (lnl s at_ < 0) then _ else _) else _)
    cases hb : decide ((at_ : Int) < s.size)
    · rfl
    · cases decide (lnl s at_ < 0)
      · show (match furtherS cs (s.extract at_ (at_ + (lnl s at_).toNat)) with | none => ([], some at_) | some cs' => parseG s f (at_ + (lnl s at_).toNat + 1) cs') = (match furtherS cs (s.extract at_ (at_ + (lnl s at_).toNat)) with | none => ([], some at_) | some cs' => parseG s f' (at_ + (lnl s at_).toNat + 1) cs')
        cases furtherS cs (s.extract at_ (at_ + (lnl s at_).toNat)) with
        | none => rfl
        | some cs' => exact parseG_fuel s f f' _ cs' (by omega) (by omega)
      · rfl
set_option maxRecDepth 100000 in
set_option maxHeartbeats 2000000 in
theorem k_parseErr (s : ByteArray) {R : Ob × Int × Int} (hR : R = parseS s) (h0 : R.2.1 ≠ 0) : K 9 [.tr (ts s)] [] (.ret (.tup [.agg [nilT, .tr (ti 0), .tr (ti 0), .tr (ti 0), nilT], .tr (ti R.2.1), .tr (ti R.2.2)])) [] := by
  refine Ctr.new [] hT hmix Tryd.func9 rfl (fun _ _ => by kernel_rfl) rfl fun hok => ?_
  have hsz := (hok.slot 0 rfl).tr.str
  clear hok
  conv => whnf
  refine csplit (fun hbig => ?_) (fun hsm => ?_)
  · replace hR := hR.trans (parseS4 hbig)
    conv => whnf
    rw [hR]
    exact ⟨[], rfl, rfl, (by repeat' (first | exact trivial | exact Or.inl (ti_succ (by assumption) (by assumption)) | exact Or.inl rfl | exact rfl | exact Nat.le_refl _ | apply And.intro))⟩
  have hsm : s.size ≤ 16777216 := by have := of_decide_eq_false hsm; omega
  have hH : R = parseH s := by rw [hR]; unfold parseS; rw [show decide ((s.size : Int) > 16777216) = false from decide_eq_false (by omega)]; rfl
  clear hR
  conv => whnf
  refine LoopL.by (pJ s) (pI s R) (pMu s) .h [0, 7] [] (Sub.mk' rfl ⟨.inl rfl, ⟨rfl, rfl⟩, ⟨rfl, rfl⟩, .inl rfl, .inl rfl, trivial⟩ (by repeat' (first | exact trivial | exact Or.inl (ti_succ (by assumption) (by assumption)) | exact Or.inl rfl | exact rfl | exact Nat.le_refl _ | apply And.intro)) rfl rfl) hH ?_
  clear hH
  rintro x hI -
  cases x with
  | h =>
    replace hI : R = parseH s := hI
    have hi := k_indexByte (s.extract 0 s.size) 10
    have hd := lnl_lt s (Nat.zero_le _)
    unfold parseH at hI
    have hln : idxB (s.extract 0 s.size) 10 = lnl s 0 := rfl
    rw [hln] at hi
    generalize lnl s 0 = n at hi hd hI
    conv => whnf
    refine ⟨by decide, (show (0 : Int) ≤ s.size by omega), Int.le_refl _, ?_⟩
    conv => whnf
    refine acall.pure _ (hi) rfl rfl fun _ => ?_
    conv => whnf
    refine csplit (fun hn => ?_) (fun hn => ?_)
    · replace hn : decide (n < 0) = true := hn
      rw [hn] at hI
      replace hI : R = (emptyO, 161, 0) := hI
      conv => whnf
      (rw [hI]; exact ⟨[], rfl, rfl, (by repeat' (first | exact trivial | exact Or.inl (ti_succ (by assumption) (by assumption)) | exact Or.inl rfl | exact rfl | exact Nat.le_refl _ | apply And.intro))⟩)
    replace hn : decide (n < 0) = false := hn
    rw [hn] at hI
    obtain ⟨hd1, hd2⟩ := hd hn
    generalize n.toNat = N at hd1 hd2 hI
    subst hd1
    have hk := k_head (s.extract 0 (0 + N)) (by rw [ByteArray.size_extract]; omega)
    have hw : IntKind.i64.wrap (0 + (N : Int)) = ((0 + N : Nat) : Int) := by rw [w64 (by omega) (by omega)]; omega
    have hw2 : IntKind.i64.wrap (0 + IntKind.i64.wrap ((N : Int) + 1)) = ((0 + N + 1 : Nat) : Int) := by rw [w64 (n := (N : Int) + 1) (by omega) (by omega), w64 (by omega) (by omega)]; omega
    have hx : s.extract 0 (IntKind.i64.wrap (0 + (N : Int))).toNat = s.extract 0 (0 + N) := by rw [hw]; rfl
    refine ⟨by decide, (show (0 : Int) ≤ IntKind.i64.wrap (0 + (N : Int)) by rw [hw]; omega), (show IntKind.i64.wrap (0 + (N : Int)) ≤ s.size by rw [hw]; omega), ?_⟩
    conv => whnf
    have hI : R = match headL (splitBl (s.extract 0 (0 + N))) with
      | none => (emptyO, 161, 0)
      | some (a, b, c) => parseM s a b c (0 + N + 1) := hI
    generalize headL (splitBl (s.extract 0 (0 + N))) = L at hk hI
    cases L with
    | none =>
      replace hI : R = (emptyO, 161, 0) := hI
      refine acall.new [1] [] _ _ _ _ hk rfl rfl rfl rfl ⟨⟨rfl, rfl⟩, .inl (congrArg ts hx), trivial⟩ (by repeat' (first | exact trivial | exact Or.inl (ti_succ (by assumption) (by assumption)) | exact Or.inl rfl | exact rfl | exact Nat.le_refl _ | apply And.intro)) rfl rfl fun _ => ?_
      conv => whnf
      (rw [hI]; exact ⟨[], rfl, rfl, (by repeat' (first | exact trivial | exact Or.inl (ti_succ (by assumption) (by assumption)) | exact Or.inl rfl | exact rfl | exact Nat.le_refl _ | apply And.intro))⟩)
    | some v =>
      obtain ⟨a, b, c⟩ := v
      replace hI : R = parseM s a b c (0 + N + 1) := hI
      refine acall.new [1] [] _ _ _ _ hk rfl rfl rfl rfl ⟨⟨rfl, rfl⟩, .inl (congrArg ts hx), trivial⟩ (by repeat' (first | exact trivial | exact Or.inl (ti_succ (by assumption) (by assumption)) | exact Or.inl rfl | exact rfl | exact Nat.le_refl _ | apply And.intro)) rfl rfl fun _ => ?_
      conv => whnf
      exact ⟨.m a b c (0 + N + 1), [0, 1], [], Sub.mk' rfl ⟨.inl rfl, ⟨rfl, rfl⟩, ⟨rfl, rfl⟩, .inl (congrArg ti hw2), .inl rfl, trivial⟩ (by repeat' (first | exact trivial | exact Or.inl (ti_succ (by assumption) (by assumption)) | exact Or.inl rfl | exact rfl | exact Nat.le_refl _ | apply And.intro)) rfl rfl, ⟨by omega, hI⟩, by show s.size + 1 < s.size + 2; omega⟩
  | m a b c at_ =>
    obtain ⟨hat, hI⟩ := hI
    have hi := k_indexByte (s.extract at_ s.size) 10
    have hd := lnl_lt s hat
    unfold parseM at hI
    have hln : idxB (s.extract at_ s.size) 10 = lnl s at_ := rfl
    rw [hln] at hi
    generalize lnl s at_ = n at hi hd hI
    conv => whnf
    refine ⟨(show (0 : Int) ≤ at_ by omega), (show (at_ : Int) ≤ s.size by omega), Int.le_refl _, ?_⟩
    conv => whnf
    refine acall.pure _ (hi) rfl rfl fun _ => ?_
    conv => whnf
    refine csplit (fun hn => ?_) (fun hn => ?_)
    · replace hn : decide (n < 0) = true := hn
      rw [hn] at hI
      replace hI : R = (emptyO, 161, (at_ : Int)) := hI
      conv => whnf
      (rw [hI]; exact ⟨[], rfl, rfl, (by repeat' (first | exact trivial | exact Or.inl (ti_succ (by assumption) (by assumption)) | exact Or.inl rfl | exact rfl | exact Nat.le_refl _ | apply And.intro))⟩)
    replace hn : decide (n < 0) = false := hn
    rw [hn] at hI
    obtain ⟨hd1, hd2⟩ := hd hn
    generalize n.toNat = N at hd1 hd2 hI
    subst hd1
    have hk := k_memory (s.extract at_ (at_ + N)) (by rw [ByteArray.size_extract]; omega) a b c
    have hw : IntKind.i64.wrap ((at_ : Int) + (N : Int)) = ((at_ + N : Nat) : Int) := by rw [w64 (by omega) (by omega)]; omega
    have hw2 : IntKind.i64.wrap ((at_ : Int) + IntKind.i64.wrap ((N : Int) + 1)) = ((at_ + N + 1 : Nat) : Int) := by rw [w64 (n := (N : Int) + 1) (by omega) (by omega), w64 (by omega) (by omega)]; omega
    have hx : s.extract at_ (IntKind.i64.wrap ((at_ : Int) + (N : Int))).toNat = s.extract at_ (at_ + N) := by rw [hw]; rfl
    refine ⟨(show (0 : Int) ≤ at_ by omega), (show (at_ : Int) ≤ IntKind.i64.wrap ((at_ : Int) + (N : Int)) by rw [hw]; omega), (show IntKind.i64.wrap ((at_ : Int) + (N : Int)) ≤ s.size by rw [hw]; omega), ?_⟩
    conv => whnf
    have hI : R = match memL (splitBl (s.extract at_ (at_ + N))) with
      | none => (emptyO, 161, (at_ : Int))
      | some mem => parseR mem a b c (parseG s (s.size - (at_ + N + 1)) (at_ + N + 1) []) := hI
    generalize memL (splitBl (s.extract at_ (at_ + N))) = L at hk hI
    cases L with
    | none =>
      replace hI : R = (emptyO, 161, (at_ : Int)) := hI
      refine acall.new [1] [] _ _ _ _ hk rfl rfl rfl rfl ⟨⟨rfl, rfl⟩, .inl (congrArg ts hx), trivial⟩ (by repeat' (first | exact trivial | exact Or.inl (ti_succ (by assumption) (by assumption)) | exact Or.inl rfl | exact rfl | exact Nat.le_refl _ | apply And.intro)) rfl rfl fun _ => ?_
      conv => whnf
      (rw [hI]; exact ⟨[], rfl, rfl, (by repeat' (first | exact trivial | exact Or.inl (ti_succ (by assumption) (by assumption)) | exact Or.inl rfl | exact rfl | exact Nat.le_refl _ | apply And.intro))⟩)
    | some mem =>
      replace hI : R = parseR mem a b c (parseG s (s.size - (at_ + N + 1)) (at_ + N + 1) []) := hI
      refine acall.new [1] [] _ _ _ _ hk rfl rfl rfl rfl ⟨⟨rfl, rfl⟩, .inl (congrArg ts hx), trivial⟩ (by repeat' (first | exact trivial | exact Or.inl (ti_succ (by assumption) (by assumption)) | exact Or.inl rfl | exact rfl | exact Nat.le_refl _ | apply And.intro)) rfl rfl fun _ => ?_
      conv => whnf
      exact ⟨.r 2 (at_ + N + 1) mem a b c [], [0, 1, 40], [3], Sub.mk' rfl ⟨.inl rfl, ⟨rfl, rfl⟩, ⟨rfl, rfl⟩, .inl (congrArg ti hw2), .inl rfl, trivial⟩
        ⟨⟨rfl, .inl rfl, .inl rfl, .inl rfl, .inl rfl, .inl rfl, trivial⟩, ⟨rfl, ⟨rfl, rfl⟩, .inl rfl, .inl rfl, .inl rfl, ⟨rfl, rfl, rfl, rfl⟩, trivial⟩, ⟨rfl, rfl, rfl, rfl⟩, ⟨rfl, rfl, rfl, by omega⟩, trivial⟩ rfl rfl,
        ⟨by omega, by omega, by omega, Nat.zero_le _, (fun c hc => absurd hc (by simp)), hI⟩, by show s.size - (at_ + N + 1) < s.size + 1; omega⟩
  | r k at_ mem a b c cs =>
    obtain ⟨hk2, hka, hat, hcl, hcd, hI⟩ := hI
    conv => whnf
    refine csplit (fun h2 => ?_) (fun h2 => ?_)
    · exfalso
      have := of_decide_eq_true h2
      omega
    conv => whnf
    refine csplit (fun h3 => ?_) (fun h3 => ?_)
    · have hlt : at_ < s.size := by have := of_decide_eq_true h3; omega
      have hi := k_indexByte (s.extract at_ s.size) 10
      have hd := lnl_lt s hat
      rw [parseG_at hlt] at hI
      have hln : idxB (s.extract at_ s.size) 10 = lnl s at_ := rfl
      rw [hln] at hi
      generalize lnl s at_ = n at hi hd hI
      conv => whnf
      refine ⟨(show (0 : Int) ≤ at_ by omega), (show (at_ : Int) ≤ s.size by omega), Int.le_refl _, ?_⟩
      conv => whnf
      refine acall.pure _ (hi) rfl rfl fun _ => ?_
      conv => whnf
      refine csplit (fun h4 => ?_) (fun h4 => ?_)
      · exfalso
        have : (k : Int) = 0 := by simpa using h4
        omega
      conv => whnf
      refine csplit (fun h5 => ?_) (fun h5 => ?_)
      · exfalso
        have : (k : Int) = 1 := by simpa using h5
        omega
      conv => whnf
      refine csplit (fun hn => ?_) (fun hn => ?_)
      · replace hn : decide (n < 0) = true := hn
        rw [hn] at hI
        replace hI : R = (emptyO, 161, (at_ : Int)) := hI
        conv => whnf
        (rw [hI]; exact ⟨[], rfl, rfl, (by repeat' (first | exact trivial | exact Or.inl (ti_succ (by assumption) (by assumption)) | exact Or.inl rfl | exact rfl | exact Nat.le_refl _ | apply And.intro))⟩)
      replace hn : decide (n < 0) = false := hn
      rw [hn] at hI
      obtain ⟨hd1, hd2⟩ := hd hn
      generalize n.toNat = N at hd1 hd2 hI
      subst hd1
      have hls : (s.extract at_ (at_ + N)).size < 4294967281 := by rw [ByteArray.size_extract]; omega
      have hw : IntKind.i64.wrap ((at_ : Int) + (N : Int)) = ((at_ + N : Nat) : Int) := by rw [w64 (by omega) (by omega)]; omega
      have hw2 : IntKind.i64.wrap ((at_ : Int) + IntKind.i64.wrap ((N : Int) + 1)) = ((at_ + N + 1 : Nat) : Int) := by rw [w64 (n := (N : Int) + 1) (by omega) (by omega), w64 (by omega) (by omega)]; omega
      have hk3 : IntKind.i64.wrap ((k : Int) + 1) = ((k + 1 : Nat) : Int) := by rw [w64 (by omega) (by omega)]; omega
      have hx : s.extract at_ (IntKind.i64.wrap ((at_ : Int) + (N : Int))).toNat = s.extract at_ (at_ + N) := by rw [hw]; rfl
      refine ⟨(show (0 : Int) ≤ at_ by omega), (show (at_ : Int) ≤ IntKind.i64.wrap ((at_ : Int) + (N : Int)) by rw [hw]; omega), (show IntKind.i64.wrap ((at_ : Int) + (N : Int)) ≤ s.size by rw [hw]; omega), ?_⟩
      conv => whnf
      have hfu : ∀ cs', parseG s (s.size - at_ - 1) (at_ + N + 1) cs' = parseG s (s.size - (at_ + N + 1)) (at_ + N + 1) cs' := fun cs' => parseG_fuel s _ _ _ _ (by omega) (by omega)
      have hI : R = parseR mem a b c (match furtherS cs (s.extract at_ (at_ + N)) with
        | none => ([], some at_)
        | some cs' => parseG s (s.size - at_ - 1) (at_ + N + 1) cs') := hI
      cases hC : isCore (splitBl (s.extract at_ (at_ + N))) with
      | some nm =>
        have hF : furtherS cs (s.extract at_ (at_ + N)) = some (cs ++ [newC nm]) := by unfold furtherS; rw [hC]
        rw [hF] at hI
        replace hI : R = parseR mem a b c (parseG s (s.size - at_ - 1) (at_ + N + 1) (cs ++ [newC nm])) := hI
        rw [hfu] at hI
        refine acall.new [1, 2, 3] [] _ _ _ _ (k_furtherC (s.extract at_ (at_ + N)) hls mem a b c cs (by omega) nm hC) rfl rfl rfl rfl ⟨⟨rfl, rfl⟩, .inl (congrArg ts hx), trivial⟩ ⟨⟨rfl, ⟨rfl, rfl⟩, .inl rfl, .inl rfl, .inl rfl, ⟨rfl, rfl⟩, trivial⟩, ⟨rfl, rfl, rfl, rfl⟩, ⟨rfl, rfl, rfl, rfl, .inl rfl⟩, trivial⟩ rfl rfl fun _ => ?_
        conv => whnf
        refine ⟨.r (k + 1) (at_ + N + 1) mem a b c (cs ++ [newC nm]), [0, 1, 2, 39], [], Sub.mk' rfl ⟨.inl rfl, ⟨rfl, rfl⟩, ⟨rfl, rfl⟩, .inl (congrArg ti hw2), .inl (congrArg ti hk3), trivial⟩ ⟨⟨rfl, .inl rfl, .inl rfl, .inl rfl, .inl rfl, .inl rfl, trivial⟩, ⟨rfl, ⟨rfl, rfl⟩, .inl rfl, .inl rfl, .inl rfl, ⟨rfl, rfl⟩, trivial⟩, ⟨rfl, rfl, rfl, rfl⟩, ⟨rfl, rfl, rfl, rfl, .inl rfl⟩, trivial⟩ rfl rfl, ⟨by omega, by omega, by omega, ?_, ?_, hI⟩, by show s.size - (at_ + N + 1) < s.size - at_; omega⟩
        · simp only [List.length_append, List.length_cons, List.length_nil]; omega
        · intro d hd
          rcases List.mem_append.1 hd with hd | hd
          · have := hcd d hd; omega
          · simp only [List.mem_singleton] at hd; subst hd; exact Nat.zero_le _
      | none =>
        by_cases hgo : (instrS (s.extract at_ (at_ + N))).2 = true ∧ cs.length ≠ 0
        · obtain ⟨g1, g2⟩ := hgo
          have hF : furtherS cs (s.extract at_ (at_ + N)) = some (addI cs (instrS (s.extract at_ (at_ + N))).1) := by
            unfold furtherS; rw [hC]
            show (bif !(instrS (s.extract at_ (at_ + N))).2 || (cs.length : Int) == 0 then none else some _) = _
            rw [g1, show ((cs.length : Int) == 0) = false from beq_eq_false_iff_ne.2 (by omega)]; rfl
          rw [hF] at hI
          replace hI : R = parseR mem a b c (parseG s (s.size - at_ - 1) (at_ + N + 1) (addI cs (instrS (s.extract at_ (at_ + N))).1)) := hI
          rw [hfu] at hI
          refine acall.new [1, 2, 3] [] _ _ _ _ (k_furtherI (s.extract at_ (at_ + N)) hls mem a b c cs (by omega) (fun d hd => Nat.le_trans (hcd d hd) (by omega)) hC g1 g2) rfl rfl rfl rfl ⟨⟨rfl, rfl⟩, .inl (congrArg ts hx), trivial⟩ ⟨⟨rfl, ⟨rfl, rfl⟩, .inl rfl, .inl rfl, .inl rfl, ⟨rfl, rfl⟩, trivial⟩, ⟨rfl, rfl, rfl, rfl⟩, ⟨rfl, rfl, rfl, rfl, .inl rfl⟩, trivial⟩ rfl rfl fun _ => ?_
          conv => whnf
          refine ⟨.r (k + 1) (at_ + N + 1) mem a b c (addI cs (instrS (s.extract at_ (at_ + N))).1), [0, 1, 2, 3], [], Sub.mk' rfl ⟨.inl rfl, ⟨rfl, rfl⟩, ⟨rfl, rfl⟩, .inl (congrArg ti hw2), .inl (congrArg ti hk3), trivial⟩ ⟨⟨rfl, .inl rfl, .inl rfl, .inl rfl, .inl rfl, .inl rfl, trivial⟩, ⟨rfl, ⟨rfl, rfl⟩, .inl rfl, .inl rfl, .inl rfl, ⟨rfl, rfl⟩, trivial⟩, ⟨rfl, rfl, rfl, rfl⟩, ⟨rfl, rfl, rfl, rfl, .inl rfl⟩, trivial⟩ rfl rfl, ⟨by omega, by omega, by omega, ?_, ?_, hI⟩, by show s.size - (at_ + N + 1) < s.size - at_; omega⟩
          · rw [addI_len]; omega
          · intro d hd
            have := addI_code hcd d hd
            omega
        · have hF : furtherS cs (s.extract at_ (at_ + N)) = none := by
            unfold furtherS; rw [hC]
            show (bif !(instrS (s.extract at_ (at_ + N))).2 || (cs.length : Int) == 0 then none else some _) = _
            cases hb : (instrS (s.extract at_ (at_ + N))).2
            · rfl
            · rw [show ((cs.length : Int) == 0) = true from by rw [Classical.not_not.1 (fun hne => hgo ⟨hb, hne⟩)]; rfl]; rfl
          rw [hF] at hI
          replace hI : R = (emptyO, 161, (at_ : Int)) := hI
          refine acall.new [1, 2, 3] [] _ _ _ _ (k_furtherN (s.extract at_ (at_ + N)) hls mem a b c cs hC (fun hb => Classical.not_not.1 fun hne => hgo ⟨hb, hne⟩)) rfl rfl rfl rfl ⟨⟨rfl, rfl⟩, .inl (congrArg ts hx), trivial⟩ ⟨⟨rfl, ⟨rfl, rfl⟩, .inl rfl, .inl rfl, .inl rfl, ⟨rfl, rfl⟩, trivial⟩, ⟨rfl, rfl, rfl, rfl⟩, ⟨rfl, rfl, rfl, rfl, .inl rfl⟩, trivial⟩ rfl rfl fun _ => ?_
          conv => whnf
          (rw [hI]; exact ⟨[], rfl, rfl, (by repeat' (first | exact trivial | exact Or.inl (ti_succ (by assumption) (by assumption)) | exact Or.inl rfl | exact rfl | exact Nat.le_refl _ | apply And.intro))⟩)
    · have hge : s.size ≤ at_ := by have := of_decide_eq_false h3; omega
      rw [parseG_end hge] at hI
      replace hI : R = doneP ⟨mem, a, b, c, cs⟩ := hI
      conv => whnf
      refine ⟨fun _ => ?_, fun h => absurd rfl h⟩
      conv => whnf
      have hk := k_check ⟨mem, a, b, c, cs⟩
      unfold doneP at hI
      generalize checkO ⟨mem, a, b, c, cs⟩ = Q at hk hI
      refine acall.gen [] [2, 3] _ _ _ _ hk rfl rfl rfl rfl ⟨⟨⟨rfl, by simp, by rw [List.take_of_length_le (by simp)]⟩, .inl rfl, .inl rfl, .inl rfl, ⟨rfl, by simp, by rw [List.take_of_length_le (by simp)]⟩, trivial⟩, trivial⟩ trivial rfl rfl fun _ => ?_
      conv => whnf
      refine csplit (fun hq => ?_) (fun hq => ?_)
      · replace hq : (Q.1 != 0) = true := hq
        rw [hq] at hI
        replace hI : R = (emptyO, Q.1, 0) := hI
        conv => whnf
        rw [hI]
        exact ⟨[], rfl, rfl, (by repeat' (first | exact trivial | exact Or.inl (ti_succ (by assumption) (by assumption)) | exact Or.inl rfl | exact rfl | exact Nat.le_refl _ | apply And.intro))⟩
      · replace hq : (Q.1 != 0) = false := hq
        rw [hq] at hI
        replace hI : R = (⟨mem, a, b, c, cs⟩, 0, 0) := hI
        exfalso
        rw [hI] at h0
        exact h0 rfl
set_option maxRecDepth 100000 in
set_option maxHeartbeats 2000000 in
theorem k_parseOwn (s : ByteArray) {R : Ob × Int × Int} (hR : R = parseS s) (h0 : R.2.1 = 0) : K 9 [.tr (ts s)] [] (.ret (.tup [.agg [.sl 0 R.1.memory.length, .tr (ti R.1.shared), .tr (ti R.1.locks), .tr (ti R.1.buffer), .sl 1 R.1.cores.length], .tr (ti 0), .tr (ti 0)])) [some (memBk R.1.memory), some (coresBk R.1.cores)] := by
  refine Ctr.new [] hT hmix Tryd.func9 rfl (fun _ _ => by kernel_rfl) rfl fun hok => ?_
  have hsz := (hok.slot 0 rfl).tr.str
  clear hok
  conv => whnf
  refine csplit (fun hbig => ?_) (fun hsm => ?_)
  · replace hR := hR.trans (parseS4 hbig)
    conv => whnf
    exfalso
    rw [hR] at h0
    exact absurd h0 (by decide)
  have hsm : s.size ≤ 16777216 := by have := of_decide_eq_false hsm; omega
  have hH : R = parseH s := by rw [hR]; unfold parseS; rw [show decide ((s.size : Int) > 16777216) = false from decide_eq_false (by omega)]; rfl
  clear hR
  conv => whnf
  refine LoopL.by (pJ s) (pI s R) (pMu s) .h [0, 7] [] (Sub.mk' rfl ⟨.inl rfl, ⟨rfl, rfl⟩, ⟨rfl, rfl⟩, .inl rfl, .inl rfl, trivial⟩ (by repeat' (first | exact trivial | exact Or.inl (ti_succ (by assumption) (by assumption)) | exact Or.inl rfl | exact rfl | exact Nat.le_refl _ | apply And.intro)) rfl rfl) hH ?_
  clear hH
  rintro x hI -
  cases x with
  | h =>
    replace hI : R = parseH s := hI
    have hi := k_indexByte (s.extract 0 s.size) 10
    have hd := lnl_lt s (Nat.zero_le _)
    unfold parseH at hI
    have hln : idxB (s.extract 0 s.size) 10 = lnl s 0 := rfl
    rw [hln] at hi
    generalize lnl s 0 = n at hi hd hI
    conv => whnf
    refine ⟨by decide, (show (0 : Int) ≤ s.size by omega), Int.le_refl _, ?_⟩
    conv => whnf
    refine acall.pure _ (hi) rfl rfl fun _ => ?_
    conv => whnf
    refine csplit (fun hn => ?_) (fun hn => ?_)
    · replace hn : decide (n < 0) = true := hn
      rw [hn] at hI
      replace hI : R = (emptyO, 161, 0) := hI
      conv => whnf
      (exfalso; rw [hI] at h0; exact absurd (show (161 : Int) = 0 from h0) (by decide))
    replace hn : decide (n < 0) = false := hn
    rw [hn] at hI
    obtain ⟨hd1, hd2⟩ := hd hn
    generalize n.toNat = N at hd1 hd2 hI
    subst hd1
    have hk := k_head (s.extract 0 (0 + N)) (by rw [ByteArray.size_extract]; omega)
    have hw : IntKind.i64.wrap (0 + (N : Int)) = ((0 + N : Nat) : Int) := by rw [w64 (by omega) (by omega)]; omega
    have hw2 : IntKind.i64.wrap (0 + IntKind.i64.wrap ((N : Int) + 1)) = ((0 + N + 1 : Nat) : Int) := by rw [w64 (n := (N : Int) + 1) (by omega) (by omega), w64 (by omega) (by omega)]; omega
    have hx : s.extract 0 (IntKind.i64.wrap (0 + (N : Int))).toNat = s.extract 0 (0 + N) := by rw [hw]; rfl
    refine ⟨by decide, (show (0 : Int) ≤ IntKind.i64.wrap (0 + (N : Int)) by rw [hw]; omega), (show IntKind.i64.wrap (0 + (N : Int)) ≤ s.size by rw [hw]; omega), ?_⟩
    conv => whnf
    have hI : R = match headL (splitBl (s.extract 0 (0 + N))) with
      | none => (emptyO, 161, 0)
      | some (a, b, c) => parseM s a b c (0 + N + 1) := hI
    generalize headL (splitBl (s.extract 0 (0 + N))) = L at hk hI
    cases L with
    | none =>
      replace hI : R = (emptyO, 161, 0) := hI
      refine acall.new [1] [] _ _ _ _ hk rfl rfl rfl rfl ⟨⟨rfl, rfl⟩, .inl (congrArg ts hx), trivial⟩ (by repeat' (first | exact trivial | exact Or.inl (ti_succ (by assumption) (by assumption)) | exact Or.inl rfl | exact rfl | exact Nat.le_refl _ | apply And.intro)) rfl rfl fun _ => ?_
      conv => whnf
      (exfalso; rw [hI] at h0; exact absurd (show (161 : Int) = 0 from h0) (by decide))
    | some v =>
      obtain ⟨a, b, c⟩ := v
      replace hI : R = parseM s a b c (0 + N + 1) := hI
      refine acall.new [1] [] _ _ _ _ hk rfl rfl rfl rfl ⟨⟨rfl, rfl⟩, .inl (congrArg ts hx), trivial⟩ (by repeat' (first | exact trivial | exact Or.inl (ti_succ (by assumption) (by assumption)) | exact Or.inl rfl | exact rfl | exact Nat.le_refl _ | apply And.intro)) rfl rfl fun _ => ?_
      conv => whnf
      exact ⟨.m a b c (0 + N + 1), [0, 1], [], Sub.mk' rfl ⟨.inl rfl, ⟨rfl, rfl⟩, ⟨rfl, rfl⟩, .inl (congrArg ti hw2), .inl rfl, trivial⟩ (by repeat' (first | exact trivial | exact Or.inl (ti_succ (by assumption) (by assumption)) | exact Or.inl rfl | exact rfl | exact Nat.le_refl _ | apply And.intro)) rfl rfl, ⟨by omega, hI⟩, by show s.size + 1 < s.size + 2; omega⟩
  | m a b c at_ =>
    obtain ⟨hat, hI⟩ := hI
    have hi := k_indexByte (s.extract at_ s.size) 10
    have hd := lnl_lt s hat
    unfold parseM at hI
    have hln : idxB (s.extract at_ s.size) 10 = lnl s at_ := rfl
    rw [hln] at hi
    generalize lnl s at_ = n at hi hd hI
    conv => whnf
    refine ⟨(show (0 : Int) ≤ at_ by omega), (show (at_ : Int) ≤ s.size by omega), Int.le_refl _, ?_⟩
    conv => whnf
    refine acall.pure _ (hi) rfl rfl fun _ => ?_
    conv => whnf
    refine csplit (fun hn => ?_) (fun hn => ?_)
    · replace hn : decide (n < 0) = true := hn
      rw [hn] at hI
      replace hI : R = (emptyO, 161, (at_ : Int)) := hI
      conv => whnf
      (exfalso; rw [hI] at h0; exact absurd (show (161 : Int) = 0 from h0) (by decide))
    replace hn : decide (n < 0) = false := hn
    rw [hn] at hI
    obtain ⟨hd1, hd2⟩ := hd hn
    generalize n.toNat = N at hd1 hd2 hI
    subst hd1
    have hk := k_memory (s.extract at_ (at_ + N)) (by rw [ByteArray.size_extract]; omega) a b c
    have hw : IntKind.i64.wrap ((at_ : Int) + (N : Int)) = ((at_ + N : Nat) : Int) := by rw [w64 (by omega) (by omega)]; omega
    have hw2 : IntKind.i64.wrap ((at_ : Int) + IntKind.i64.wrap ((N : Int) + 1)) = ((at_ + N + 1 : Nat) : Int) := by rw [w64 (n := (N : Int) + 1) (by omega) (by omega), w64 (by omega) (by omega)]; omega
    have hx : s.extract at_ (IntKind.i64.wrap ((at_ : Int) + (N : Int))).toNat = s.extract at_ (at_ + N) := by rw [hw]; rfl
    refine ⟨(show (0 : Int) ≤ at_ by omega), (show (at_ : Int) ≤ IntKind.i64.wrap ((at_ : Int) + (N : Int)) by rw [hw]; omega), (show IntKind.i64.wrap ((at_ : Int) + (N : Int)) ≤ s.size by rw [hw]; omega), ?_⟩
    conv => whnf
    have hI : R = match memL (splitBl (s.extract at_ (at_ + N))) with
      | none => (emptyO, 161, (at_ : Int))
      | some mem => parseR mem a b c (parseG s (s.size - (at_ + N + 1)) (at_ + N + 1) []) := hI
    generalize memL (splitBl (s.extract at_ (at_ + N))) = L at hk hI
    cases L with
    | none =>
      replace hI : R = (emptyO, 161, (at_ : Int)) := hI
      refine acall.new [1] [] _ _ _ _ hk rfl rfl rfl rfl ⟨⟨rfl, rfl⟩, .inl (congrArg ts hx), trivial⟩ (by repeat' (first | exact trivial | exact Or.inl (ti_succ (by assumption) (by assumption)) | exact Or.inl rfl | exact rfl | exact Nat.le_refl _ | apply And.intro)) rfl rfl fun _ => ?_
      conv => whnf
      (exfalso; rw [hI] at h0; exact absurd (show (161 : Int) = 0 from h0) (by decide))
    | some mem =>
      replace hI : R = parseR mem a b c (parseG s (s.size - (at_ + N + 1)) (at_ + N + 1) []) := hI
      refine acall.new [1] [] _ _ _ _ hk rfl rfl rfl rfl ⟨⟨rfl, rfl⟩, .inl (congrArg ts hx), trivial⟩ (by repeat' (first | exact trivial | exact Or.inl (ti_succ (by assumption) (by assumption)) | exact Or.inl rfl | exact rfl | exact Nat.le_refl _ | apply And.intro)) rfl rfl fun _ => ?_
      conv => whnf
      exact ⟨.r 2 (at_ + N + 1) mem a b c [], [0, 1, 40], [3], Sub.mk' rfl ⟨.inl rfl, ⟨rfl, rfl⟩, ⟨rfl, rfl⟩, .inl (congrArg ti hw2), .inl rfl, trivial⟩
        ⟨⟨rfl, .inl rfl, .inl rfl, .inl rfl, .inl rfl, .inl rfl, trivial⟩, ⟨rfl, ⟨rfl, rfl⟩, .inl rfl, .inl rfl, .inl rfl, ⟨rfl, rfl, rfl, rfl⟩, trivial⟩, ⟨rfl, rfl, rfl, rfl⟩, ⟨rfl, rfl, rfl, by omega⟩, trivial⟩ rfl rfl,
        ⟨by omega, by omega, by omega, Nat.zero_le _, (fun c hc => absurd hc (by simp)), hI⟩, by show s.size - (at_ + N + 1) < s.size + 1; omega⟩
  | r k at_ mem a b c cs =>
    obtain ⟨hk2, hka, hat, hcl, hcd, hI⟩ := hI
    conv => whnf
    refine csplit (fun h2 => ?_) (fun h2 => ?_)
    · exfalso
      have := of_decide_eq_true h2
      omega
    conv => whnf
    refine csplit (fun h3 => ?_) (fun h3 => ?_)
    · have hlt : at_ < s.size := by have := of_decide_eq_true h3; omega
      have hi := k_indexByte (s.extract at_ s.size) 10
      have hd := lnl_lt s hat
      rw [parseG_at hlt] at hI
      have hln : idxB (s.extract at_ s.size) 10 = lnl s at_ := rfl
      rw [hln] at hi
      generalize lnl s at_ = n at hi hd hI
      conv => whnf
      refine ⟨(show (0 : Int) ≤ at_ by omega), (show (at_ : Int) ≤ s.size by omega), Int.le_refl _, ?_⟩
      conv => whnf
      refine acall.pure _ (hi) rfl rfl fun _ => ?_
      conv => whnf
      refine csplit (fun h4 => ?_) (fun h4 => ?_)
      · exfalso
        have : (k : Int) = 0 := by simpa using h4
        omega
      conv => whnf
      refine csplit (fun h5 => ?_) (fun h5 => ?_)
      · exfalso
        have : (k : Int) = 1 := by simpa using h5
        omega
      conv => whnf
      refine csplit (fun hn => ?_) (fun hn => ?_)
      · replace hn : decide (n < 0) = true := hn
        rw [hn] at hI
        replace hI : R = (emptyO, 161, (at_ : Int)) := hI
        conv => whnf
        (exfalso; rw [hI] at h0; exact absurd (show (161 : Int) = 0 from h0) (by decide))
      replace hn : decide (n < 0) = false := hn
      rw [hn] at hI
      obtain ⟨hd1, hd2⟩ := hd hn
      generalize n.toNat = N at hd1 hd2 hI
      subst hd1
      have hls : (s.extract at_ (at_ + N)).size < 4294967281 := by rw [ByteArray.size_extract]; omega
      have hw : IntKind.i64.wrap ((at_ : Int) + (N : Int)) = ((at_ + N : Nat) : Int) := by rw [w64 (by omega) (by omega)]; omega
      have hw2 : IntKind.i64.wrap ((at_ : Int) + IntKind.i64.wrap ((N : Int) + 1)) = ((at_ + N + 1 : Nat) : Int) := by rw [w64 (n := (N : Int) + 1) (by omega) (by omega), w64 (by omega) (by omega)]; omega
      have hk3 : IntKind.i64.wrap ((k : Int) + 1) = ((k + 1 : Nat) : Int) := by rw [w64 (by omega) (by omega)]; omega
      have hx : s.extract at_ (IntKind.i64.wrap ((at_ : Int) + (N : Int))).toNat = s.extract at_ (at_ + N) := by rw [hw]; rfl
      refine ⟨(show (0 : Int) ≤ at_ by omega), (show (at_ : Int) ≤ IntKind.i64.wrap ((at_ : Int) + (N : Int)) by rw [hw]; omega), (show IntKind.i64.wrap ((at_ : Int) + (N : Int)) ≤ s.size by rw [hw]; omega), ?_⟩
      conv => whnf
      have hfu : ∀ cs', parseG s (s.size - at_ - 1) (at_ + N + 1) cs' = parseG s (s.size - (at_ + N + 1)) (at_ + N + 1) cs' := fun cs' => parseG_fuel s _ _ _ _ (by omega) (by omega)
      have hI : R = parseR mem a b c (match furtherS cs (s.extract at_ (at_ + N)) with
        | none => ([], some at_)
        | some cs' => parseG s (s.size - at_ - 1) (at_ + N + 1) cs') := hI
      cases hC : isCore (splitBl (s.extract at_ (at_ + N))) with
      | some nm =>
        have hF : furtherS cs (s.extract at_ (at_ + N)) = some (cs ++ [newC nm]) := by unfold furtherS; rw [hC]
        rw [hF] at hI
        replace hI : R = parseR mem a b c (parseG s (s.size - at_ - 1) (at_ + N + 1) (cs ++ [newC nm])) := hI
        rw [hfu] at hI
        refine acall.new [1, 2, 3] [] _ _ _ _ (k_furtherC (s.extract at_ (at_ + N)) hls mem a b c cs (by omega) nm hC) rfl rfl rfl rfl ⟨⟨rfl, rfl⟩, .inl (congrArg ts hx), trivial⟩ ⟨⟨rfl, ⟨rfl, rfl⟩, .inl rfl, .inl rfl, .inl rfl, ⟨rfl, rfl⟩, trivial⟩, ⟨rfl, rfl, rfl, rfl⟩, ⟨rfl, rfl, rfl, rfl, .inl rfl⟩, trivial⟩ rfl rfl fun _ => ?_
        conv => whnf
        refine ⟨.r (k + 1) (at_ + N + 1) mem a b c (cs ++ [newC nm]), [0, 1, 2, 39], [], Sub.mk' rfl ⟨.inl rfl, ⟨rfl, rfl⟩, ⟨rfl, rfl⟩, .inl (congrArg ti hw2), .inl (congrArg ti hk3), trivial⟩ ⟨⟨rfl, .inl rfl, .inl rfl, .inl rfl, .inl rfl, .inl rfl, trivial⟩, ⟨rfl, ⟨rfl, rfl⟩, .inl rfl, .inl rfl, .inl rfl, ⟨rfl, rfl⟩, trivial⟩, ⟨rfl, rfl, rfl, rfl⟩, ⟨rfl, rfl, rfl, rfl, .inl rfl⟩, trivial⟩ rfl rfl, ⟨by omega, by omega, by omega, ?_, ?_, hI⟩, by show s.size - (at_ + N + 1) < s.size - at_; omega⟩
        · simp only [List.length_append, List.length_cons, List.length_nil]; omega
        · intro d hd
          rcases List.mem_append.1 hd with hd | hd
          · have := hcd d hd; omega
          · simp only [List.mem_singleton] at hd; subst hd; exact Nat.zero_le _
      | none =>
        by_cases hgo : (instrS (s.extract at_ (at_ + N))).2 = true ∧ cs.length ≠ 0
        · obtain ⟨g1, g2⟩ := hgo
          have hF : furtherS cs (s.extract at_ (at_ + N)) = some (addI cs (instrS (s.extract at_ (at_ + N))).1) := by
            unfold furtherS; rw [hC]
            show (bif !(instrS (s.extract at_ (at_ + N))).2 || (cs.length : Int) == 0 then none else some _) = _
            rw [g1, show ((cs.length : Int) == 0) = false from beq_eq_false_iff_ne.2 (by omega)]; rfl
          rw [hF] at hI
          replace hI : R = parseR mem a b c (parseG s (s.size - at_ - 1) (at_ + N + 1) (addI cs (instrS (s.extract at_ (at_ + N))).1)) := hI
          rw [hfu] at hI
          refine acall.new [1, 2, 3] [] _ _ _ _ (k_furtherI (s.extract at_ (at_ + N)) hls mem a b c cs (by omega) (fun d hd => Nat.le_trans (hcd d hd) (by omega)) hC g1 g2) rfl rfl rfl rfl ⟨⟨rfl, rfl⟩, .inl (congrArg ts hx), trivial⟩ ⟨⟨rfl, ⟨rfl, rfl⟩, .inl rfl, .inl rfl, .inl rfl, ⟨rfl, rfl⟩, trivial⟩, ⟨rfl, rfl, rfl, rfl⟩, ⟨rfl, rfl, rfl, rfl, .inl rfl⟩, trivial⟩ rfl rfl fun _ => ?_
          conv => whnf
          refine ⟨.r (k + 1) (at_ + N + 1) mem a b c (addI cs (instrS (s.extract at_ (at_ + N))).1), [0, 1, 2, 3], [], Sub.mk' rfl ⟨.inl rfl, ⟨rfl, rfl⟩, ⟨rfl, rfl⟩, .inl (congrArg ti hw2), .inl (congrArg ti hk3), trivial⟩ ⟨⟨rfl, .inl rfl, .inl rfl, .inl rfl, .inl rfl, .inl rfl, trivial⟩, ⟨rfl, ⟨rfl, rfl⟩, .inl rfl, .inl rfl, .inl rfl, ⟨rfl, rfl⟩, trivial⟩, ⟨rfl, rfl, rfl, rfl⟩, ⟨rfl, rfl, rfl, rfl, .inl rfl⟩, trivial⟩ rfl rfl, ⟨by omega, by omega, by omega, ?_, ?_, hI⟩, by show s.size - (at_ + N + 1) < s.size - at_; omega⟩
          · rw [addI_len]; omega
          · intro d hd
            have := addI_code hcd d hd
            omega
        · have hF : furtherS cs (s.extract at_ (at_ + N)) = none := by
            unfold furtherS; rw [hC]
            show (bif !(instrS (s.extract at_ (at_ + N))).2 || (cs.length : Int) == 0 then none else some _) = _
            cases hb : (instrS (s.extract at_ (at_ + N))).2
            · rfl
            · rw [show ((cs.length : Int) == 0) = true from by rw [Classical.not_not.1 (fun hne => hgo ⟨hb, hne⟩)]; rfl]; rfl
          rw [hF] at hI
          replace hI : R = (emptyO, 161, (at_ : Int)) := hI
          refine acall.new [1, 2, 3] [] _ _ _ _ (k_furtherN (s.extract at_ (at_ + N)) hls mem a b c cs hC (fun hb => Classical.not_not.1 fun hne => hgo ⟨hb, hne⟩)) rfl rfl rfl rfl ⟨⟨rfl, rfl⟩, .inl (congrArg ts hx), trivial⟩ ⟨⟨rfl, ⟨rfl, rfl⟩, .inl rfl, .inl rfl, .inl rfl, ⟨rfl, rfl⟩, trivial⟩, ⟨rfl, rfl, rfl, rfl⟩, ⟨rfl, rfl, rfl, rfl, .inl rfl⟩, trivial⟩ rfl rfl fun _ => ?_
          conv => whnf
          (exfalso; rw [hI] at h0; exact absurd (show (161 : Int) = 0 from h0) (by decide))
    · have hge : s.size ≤ at_ := by have := of_decide_eq_false h3; omega
      rw [parseG_end hge] at hI
      replace hI : R = doneP ⟨mem, a, b, c, cs⟩ := hI
      conv => whnf
      refine ⟨fun _ => ?_, fun h => absurd rfl h⟩
      conv => whnf
      have hk := k_check ⟨mem, a, b, c, cs⟩
      unfold doneP at hI
      generalize checkO ⟨mem, a, b, c, cs⟩ = Q at hk hI
      refine acall.gen [] [2, 3] _ _ _ _ hk rfl rfl rfl rfl ⟨⟨⟨rfl, by simp, by rw [List.take_of_length_le (by simp)]⟩, .inl rfl, .inl rfl, .inl rfl, ⟨rfl, by simp, by rw [List.take_of_length_le (by simp)]⟩, trivial⟩, trivial⟩ trivial rfl rfl fun _ => ?_
      conv => whnf
      refine csplit (fun hq => ?_) (fun hq => ?_)
      · replace hq : (Q.1 != 0) = true := hq
        rw [hq] at hI
        replace hI : R = (emptyO, Q.1, 0) := hI
        conv => whnf
        exfalso
        rw [hI] at h0
        rw [show Q.1 = 0 from h0] at hq
        cases hq
      · replace hq : (Q.1 != 0) = false := hq
        rw [hq] at hI
        replace hI : R = (⟨mem, a, b, c, cs⟩, 0, 0) := hI
        rw [hI]
        conv => whnf
        exact ⟨[2, 3], rfl, rfl, ⟨⟨⟨rfl, rfl⟩, .inl rfl, .inl rfl, .inl rfl, ⟨rfl, rfl⟩, trivial⟩, .inl rfl, .inl rfl, trivial⟩, ⟨rfl, rfl, rfl, rfl⟩, ⟨rfl, rfl, rfl, rfl, .inl rfl⟩, trivial⟩
set_option maxRecDepth 100000 in
set_option maxHeartbeats 2000000 in
theorem k_parseA (s : ByteArray) {R : Ob × Int × Int} (hR : R = parseS s) : K 9 [.tr (ts s)] [] (.ret (.tup [R.1.av, .tr (ti R.2.1), .tr (ti R.2.2)])) [] := by
  refine Ctr.new [] hT hmix Tryd.func9 rfl (fun _ _ => by kernel_rfl) rfl fun hok => ?_
  have hsz := (hok.slot 0 rfl).tr.str
  clear hok
  conv => whnf
  refine csplit (fun hbig => ?_) (fun hsm => ?_)
  · replace hR := hR.trans (parseS4 hbig)
    conv => whnf
    rw [hR]
    exact ⟨[], rfl, rfl, (by repeat' (first | exact trivial | exact Or.inl rfl | exact Or.inr ⟨rfl, _, _, rfl⟩ | exact rfl | exact Nat.le_refl _ | apply And.intro))⟩
  have hsm : s.size ≤ 16777216 := by have := of_decide_eq_false hsm; omega
  have hH : R = parseH s := by rw [hR]; unfold parseS; rw [show decide ((s.size : Int) > 16777216) = false from decide_eq_false (by omega)]; rfl
  clear hR
  conv => whnf
  refine LoopL.by (pJ s) (pI s R) (pMu s) .h [0, 7] [] (Sub.mk' rfl ⟨.inl rfl, ⟨rfl, rfl⟩, ⟨rfl, rfl⟩, .inl rfl, .inl rfl, trivial⟩ (by repeat' (first | exact trivial | exact Or.inl (ti_succ (by assumption) (by assumption)) | exact Or.inl rfl | exact rfl | exact Nat.le_refl _ | apply And.intro)) rfl rfl) hH ?_
  clear hH
  rintro x hI -
  cases x with
  | h =>
    replace hI : R = parseH s := hI
    have hi := k_indexByte (s.extract 0 s.size) 10
    have hd := lnl_lt s (Nat.zero_le _)
    unfold parseH at hI
    have hln : idxB (s.extract 0 s.size) 10 = lnl s 0 := rfl
    rw [hln] at hi
    generalize lnl s 0 = n at hi hd hI
    conv => whnf
    refine ⟨by decide, (show (0 : Int) ≤ s.size by omega), Int.le_refl _, ?_⟩
    conv => whnf
    refine acall.pure _ (hi) rfl rfl fun _ => ?_
    conv => whnf
    refine csplit (fun hn => ?_) (fun hn => ?_)
    · replace hn : decide (n < 0) = true := hn
      rw [hn] at hI
      replace hI : R = (emptyO, 161, 0) := hI
      conv => whnf
      (rw [hI]; exact ⟨[], rfl, rfl, (by repeat' (first | exact trivial | exact Or.inl rfl | exact Or.inr ⟨rfl, _, _, rfl⟩ | exact rfl | exact Nat.le_refl _ | apply And.intro))⟩)
    replace hn : decide (n < 0) = false := hn
    rw [hn] at hI
    obtain ⟨hd1, hd2⟩ := hd hn
    generalize n.toNat = N at hd1 hd2 hI
    subst hd1
    have hk := k_head (s.extract 0 (0 + N)) (by rw [ByteArray.size_extract]; omega)
    have hw : IntKind.i64.wrap (0 + (N : Int)) = ((0 + N : Nat) : Int) := by rw [w64 (by omega) (by omega)]; omega
    have hw2 : IntKind.i64.wrap (0 + IntKind.i64.wrap ((N : Int) + 1)) = ((0 + N + 1 : Nat) : Int) := by rw [w64 (n := (N : Int) + 1) (by omega) (by omega), w64 (by omega) (by omega)]; omega
    have hx : s.extract 0 (IntKind.i64.wrap (0 + (N : Int))).toNat = s.extract 0 (0 + N) := by rw [hw]; rfl
    refine ⟨by decide, (show (0 : Int) ≤ IntKind.i64.wrap (0 + (N : Int)) by rw [hw]; omega), (show IntKind.i64.wrap (0 + (N : Int)) ≤ s.size by rw [hw]; omega), ?_⟩
    conv => whnf
    have hI : R = match headL (splitBl (s.extract 0 (0 + N))) with
      | none => (emptyO, 161, 0)
      | some (a, b, c) => parseM s a b c (0 + N + 1) := hI
    generalize headL (splitBl (s.extract 0 (0 + N))) = L at hk hI
    cases L with
    | none =>
      replace hI : R = (emptyO, 161, 0) := hI
      refine acall.new [1] [] _ _ _ _ hk rfl rfl rfl rfl ⟨⟨rfl, rfl⟩, .inl (congrArg ts hx), trivial⟩ (by repeat' (first | exact trivial | exact Or.inl (ti_succ (by assumption) (by assumption)) | exact Or.inl rfl | exact rfl | exact Nat.le_refl _ | apply And.intro)) rfl rfl fun _ => ?_
      conv => whnf
      (rw [hI]; exact ⟨[], rfl, rfl, (by repeat' (first | exact trivial | exact Or.inl rfl | exact Or.inr ⟨rfl, _, _, rfl⟩ | exact rfl | exact Nat.le_refl _ | apply And.intro))⟩)
    | some v =>
      obtain ⟨a, b, c⟩ := v
      replace hI : R = parseM s a b c (0 + N + 1) := hI
      refine acall.new [1] [] _ _ _ _ hk rfl rfl rfl rfl ⟨⟨rfl, rfl⟩, .inl (congrArg ts hx), trivial⟩ (by repeat' (first | exact trivial | exact Or.inl (ti_succ (by assumption) (by assumption)) | exact Or.inl rfl | exact rfl | exact Nat.le_refl _ | apply And.intro)) rfl rfl fun _ => ?_
      conv => whnf
      exact ⟨.m a b c (0 + N + 1), [0, 1], [], Sub.mk' rfl ⟨.inl rfl, ⟨rfl, rfl⟩, ⟨rfl, rfl⟩, .inl (congrArg ti hw2), .inl rfl, trivial⟩ (by repeat' (first | exact trivial | exact Or.inl (ti_succ (by assumption) (by assumption)) | exact Or.inl rfl | exact rfl | exact Nat.le_refl _ | apply And.intro)) rfl rfl, ⟨by omega, hI⟩, by show s.size + 1 < s.size + 2; omega⟩
  | m a b c at_ =>
    obtain ⟨hat, hI⟩ := hI
    have hi := k_indexByte (s.extract at_ s.size) 10
    have hd := lnl_lt s hat
    unfold parseM at hI
    have hln : idxB (s.extract at_ s.size) 10 = lnl s at_ := rfl
    rw [hln] at hi
    generalize lnl s at_ = n at hi hd hI
    conv => whnf
    refine ⟨(show (0 : Int) ≤ at_ by omega), (show (at_ : Int) ≤ s.size by omega), Int.le_refl _, ?_⟩
    conv => whnf
    refine acall.pure _ (hi) rfl rfl fun _ => ?_
    conv => whnf
    refine csplit (fun hn => ?_) (fun hn => ?_)
    · replace hn : decide (n < 0) = true := hn
      rw [hn] at hI
      replace hI : R = (emptyO, 161, (at_ : Int)) := hI
      conv => whnf
      (rw [hI]; exact ⟨[], rfl, rfl, (by repeat' (first | exact trivial | exact Or.inl rfl | exact Or.inr ⟨rfl, _, _, rfl⟩ | exact rfl | exact Nat.le_refl _ | apply And.intro))⟩)
    replace hn : decide (n < 0) = false := hn
    rw [hn] at hI
    obtain ⟨hd1, hd2⟩ := hd hn
    generalize n.toNat = N at hd1 hd2 hI
    subst hd1
    have hk := k_memory (s.extract at_ (at_ + N)) (by rw [ByteArray.size_extract]; omega) a b c
    have hw : IntKind.i64.wrap ((at_ : Int) + (N : Int)) = ((at_ + N : Nat) : Int) := by rw [w64 (by omega) (by omega)]; omega
    have hw2 : IntKind.i64.wrap ((at_ : Int) + IntKind.i64.wrap ((N : Int) + 1)) = ((at_ + N + 1 : Nat) : Int) := by rw [w64 (n := (N : Int) + 1) (by omega) (by omega), w64 (by omega) (by omega)]; omega
    have hx : s.extract at_ (IntKind.i64.wrap ((at_ : Int) + (N : Int))).toNat = s.extract at_ (at_ + N) := by rw [hw]; rfl
    refine ⟨(show (0 : Int) ≤ at_ by omega), (show (at_ : Int) ≤ IntKind.i64.wrap ((at_ : Int) + (N : Int)) by rw [hw]; omega), (show IntKind.i64.wrap ((at_ : Int) + (N : Int)) ≤ s.size by rw [hw]; omega), ?_⟩
    conv => whnf
    have hI : R = match memL (splitBl (s.extract at_ (at_ + N))) with
      | none => (emptyO, 161, (at_ : Int))
      | some mem => parseR mem a b c (parseG s (s.size - (at_ + N + 1)) (at_ + N + 1) []) := hI
    generalize memL (splitBl (s.extract at_ (at_ + N))) = L at hk hI
    cases L with
    | none =>
      replace hI : R = (emptyO, 161, (at_ : Int)) := hI
      refine acall.new [1] [] _ _ _ _ hk rfl rfl rfl rfl ⟨⟨rfl, rfl⟩, .inl (congrArg ts hx), trivial⟩ (by repeat' (first | exact trivial | exact Or.inl (ti_succ (by assumption) (by assumption)) | exact Or.inl rfl | exact rfl | exact Nat.le_refl _ | apply And.intro)) rfl rfl fun _ => ?_
      conv => whnf
      (rw [hI]; exact ⟨[], rfl, rfl, (by repeat' (first | exact trivial | exact Or.inl rfl | exact Or.inr ⟨rfl, _, _, rfl⟩ | exact rfl | exact Nat.le_refl _ | apply And.intro))⟩)
    | some mem =>
      replace hI : R = parseR mem a b c (parseG s (s.size - (at_ + N + 1)) (at_ + N + 1) []) := hI
      refine acall.new [1] [] _ _ _ _ hk rfl rfl rfl rfl ⟨⟨rfl, rfl⟩, .inl (congrArg ts hx), trivial⟩ (by repeat' (first | exact trivial | exact Or.inl (ti_succ (by assumption) (by assumption)) | exact Or.inl rfl | exact rfl | exact Nat.le_refl _ | apply And.intro)) rfl rfl fun _ => ?_
      conv => whnf
      exact ⟨.r 2 (at_ + N + 1) mem a b c [], [0, 1, 40], [3], Sub.mk' rfl ⟨.inl rfl, ⟨rfl, rfl⟩, ⟨rfl, rfl⟩, .inl (congrArg ti hw2), .inl rfl, trivial⟩
        ⟨⟨rfl, .inl rfl, .inl rfl, .inl rfl, .inl rfl, .inl rfl, trivial⟩, ⟨rfl, ⟨rfl, rfl⟩, .inl rfl, .inl rfl, .inl rfl, ⟨rfl, rfl, rfl, rfl⟩, trivial⟩, ⟨rfl, rfl, rfl, rfl⟩, ⟨rfl, rfl, rfl, by omega⟩, trivial⟩ rfl rfl,
        ⟨by omega, by omega, by omega, Nat.zero_le _, (fun c hc => absurd hc (by simp)), hI⟩, by show s.size - (at_ + N + 1) < s.size + 1; omega⟩
  | r k at_ mem a b c cs =>
    obtain ⟨hk2, hka, hat, hcl, hcd, hI⟩ := hI
    conv => whnf
    refine csplit (fun h2 => ?_) (fun h2 => ?_)
    · exfalso
      have := of_decide_eq_true h2
      omega
    conv => whnf
    refine csplit (fun h3 => ?_) (fun h3 => ?_)
    · have hlt : at_ < s.size := by have := of_decide_eq_true h3; omega
      have hi := k_indexByte (s.extract at_ s.size) 10
      have hd := lnl_lt s hat
      rw [parseG_at hlt] at hI
      have hln : idxB (s.extract at_ s.size) 10 = lnl s at_ := rfl
      rw [hln] at hi
      generalize lnl s at_ = n at hi hd hI
      conv => whnf
      refine ⟨(show (0 : Int) ≤ at_ by omega), (show (at_ : Int) ≤ s.size by omega), Int.le_refl _, ?_⟩
      conv => whnf
      refine acall.pure _ (hi) rfl rfl fun _ => ?_
      conv => whnf
      refine csplit (fun h4 => ?_) (fun h4 => ?_)
      · exfalso
        have : (k : Int) = 0 := by simpa using h4
        omega
      conv => whnf
      refine csplit (fun h5 => ?_) (fun h5 => ?_)
      · exfalso
        have : (k : Int) = 1 := by simpa using h5
        omega
      conv => whnf
      refine csplit (fun hn => ?_) (fun hn => ?_)
      · replace hn : decide (n < 0) = true := hn
        rw [hn] at hI
        replace hI : R = (emptyO, 161, (at_ : Int)) := hI
        conv => whnf
        (rw [hI]; exact ⟨[], rfl, rfl, (by repeat' (first | exact trivial | exact Or.inl rfl | exact Or.inr ⟨rfl, _, _, rfl⟩ | exact rfl | exact Nat.le_refl _ | apply And.intro))⟩)
      replace hn : decide (n < 0) = false := hn
      rw [hn] at hI
      obtain ⟨hd1, hd2⟩ := hd hn
      generalize n.toNat = N at hd1 hd2 hI
      subst hd1
      have hls : (s.extract at_ (at_ + N)).size < 4294967281 := by rw [ByteArray.size_extract]; omega
      have hw : IntKind.i64.wrap ((at_ : Int) + (N : Int)) = ((at_ + N : Nat) : Int) := by rw [w64 (by omega) (by omega)]; omega
      have hw2 : IntKind.i64.wrap ((at_ : Int) + IntKind.i64.wrap ((N : Int) + 1)) = ((at_ + N + 1 : Nat) : Int) := by rw [w64 (n := (N : Int) + 1) (by omega) (by omega), w64 (by omega) (by omega)]; omega
      have hk3 : IntKind.i64.wrap ((k : Int) + 1) = ((k + 1 : Nat) : Int) := by rw [w64 (by omega) (by omega)]; omega
      have hx : s.extract at_ (IntKind.i64.wrap ((at_ : Int) + (N : Int))).toNat = s.extract at_ (at_ + N) := by rw [hw]; rfl
      refine ⟨(show (0 : Int) ≤ at_ by omega), (show (at_ : Int) ≤ IntKind.i64.wrap ((at_ : Int) + (N : Int)) by rw [hw]; omega), (show IntKind.i64.wrap ((at_ : Int) + (N : Int)) ≤ s.size by rw [hw]; omega), ?_⟩
      conv => whnf
      have hfu : ∀ cs', parseG s (s.size - at_ - 1) (at_ + N + 1) cs' = parseG s (s.size - (at_ + N + 1)) (at_ + N + 1) cs' := fun cs' => parseG_fuel s _ _ _ _ (by omega) (by omega)
      have hI : R = parseR mem a b c (match furtherS cs (s.extract at_ (at_ + N)) with
        | none => ([], some at_)
        | some cs' => parseG s (s.size - at_ - 1) (at_ + N + 1) cs') := hI
      cases hC : isCore (splitBl (s.extract at_ (at_ + N))) with
      | some nm =>
        have hF : furtherS cs (s.extract at_ (at_ + N)) = some (cs ++ [newC nm]) := by unfold furtherS; rw [hC]
        rw [hF] at hI
        replace hI : R = parseR mem a b c (parseG s (s.size - at_ - 1) (at_ + N + 1) (cs ++ [newC nm])) := hI
        rw [hfu] at hI
        refine acall.new [1, 2, 3] [] _ _ _ _ (k_furtherC (s.extract at_ (at_ + N)) hls mem a b c cs (by omega) nm hC) rfl rfl rfl rfl ⟨⟨rfl, rfl⟩, .inl (congrArg ts hx), trivial⟩ ⟨⟨rfl, ⟨rfl, rfl⟩, .inl rfl, .inl rfl, .inl rfl, ⟨rfl, rfl⟩, trivial⟩, ⟨rfl, rfl, rfl, rfl⟩, ⟨rfl, rfl, rfl, rfl, .inl rfl⟩, trivial⟩ rfl rfl fun _ => ?_
        conv => whnf
        refine ⟨.r (k + 1) (at_ + N + 1) mem a b c (cs ++ [newC nm]), [0, 1, 2, 39], [], Sub.mk' rfl ⟨.inl rfl, ⟨rfl, rfl⟩, ⟨rfl, rfl⟩, .inl (congrArg ti hw2), .inl (congrArg ti hk3), trivial⟩ ⟨⟨rfl, .inl rfl, .inl rfl, .inl rfl, .inl rfl, .inl rfl, trivial⟩, ⟨rfl, ⟨rfl, rfl⟩, .inl rfl, .inl rfl, .inl rfl, ⟨rfl, rfl⟩, trivial⟩, ⟨rfl, rfl, rfl, rfl⟩, ⟨rfl, rfl, rfl, rfl, .inl rfl⟩, trivial⟩ rfl rfl, ⟨by omega, by omega, by omega, ?_, ?_, hI⟩, by show s.size - (at_ + N + 1) < s.size - at_; omega⟩
        · simp only [List.length_append, List.length_cons, List.length_nil]; omega
        · intro d hd
          rcases List.mem_append.1 hd with hd | hd
          · have := hcd d hd; omega
          · simp only [List.mem_singleton] at hd; subst hd; exact Nat.zero_le _
      | none =>
        by_cases hgo : (instrS (s.extract at_ (at_ + N))).2 = true ∧ cs.length ≠ 0
        · obtain ⟨g1, g2⟩ := hgo
          have hF : furtherS cs (s.extract at_ (at_ + N)) = some (addI cs (instrS (s.extract at_ (at_ + N))).1) := by
            unfold furtherS; rw [hC]
            show (bif !(instrS (s.extract at_ (at_ + N))).2 || (cs.length : Int) == 0 then none else some _) = _
            rw [g1, show ((cs.length : Int) == 0) = false from beq_eq_false_iff_ne.2 (by omega)]; rfl
          rw [hF] at hI
          replace hI : R = parseR mem a b c (parseG s (s.size - at_ - 1) (at_ + N + 1) (addI cs (instrS (s.extract at_ (at_ + N))).1)) := hI
          rw [hfu] at hI
          refine acall.new [1, 2, 3] [] _ _ _ _ (k_furtherI (s.extract at_ (at_ + N)) hls mem a b c cs (by omega) (fun d hd => Nat.le_trans (hcd d hd) (by omega)) hC g1 g2) rfl rfl rfl rfl ⟨⟨rfl, rfl⟩, .inl (congrArg ts hx), trivial⟩ ⟨⟨rfl, ⟨rfl, rfl⟩, .inl rfl, .inl rfl, .inl rfl, ⟨rfl, rfl⟩, trivial⟩, ⟨rfl, rfl, rfl, rfl⟩, ⟨rfl, rfl, rfl, rfl, .inl rfl⟩, trivial⟩ rfl rfl fun _ => ?_
          conv => whnf
          refine ⟨.r (k + 1) (at_ + N + 1) mem a b c (addI cs (instrS (s.extract at_ (at_ + N))).1), [0, 1, 2, 3], [], Sub.mk' rfl ⟨.inl rfl, ⟨rfl, rfl⟩, ⟨rfl, rfl⟩, .inl (congrArg ti hw2), .inl (congrArg ti hk3), trivial⟩ ⟨⟨rfl, .inl rfl, .inl rfl, .inl rfl, .inl rfl, .inl rfl, trivial⟩, ⟨rfl, ⟨rfl, rfl⟩, .inl rfl, .inl rfl, .inl rfl, ⟨rfl, rfl⟩, trivial⟩, ⟨rfl, rfl, rfl, rfl⟩, ⟨rfl, rfl, rfl, rfl, .inl rfl⟩, trivial⟩ rfl rfl, ⟨by omega, by omega, by omega, ?_, ?_, hI⟩, by show s.size - (at_ + N + 1) < s.size - at_; omega⟩
          · rw [addI_len]; omega
          · intro d hd
            have := addI_code hcd d hd
            omega
        · have hF : furtherS cs (s.extract at_ (at_ + N)) = none := by
            unfold furtherS; rw [hC]
            show (bif !(instrS (s.extract at_ (at_ + N))).2 || (cs.length : Int) == 0 then none else some _) = _
            cases hb : (instrS (s.extract at_ (at_ + N))).2
            · rfl
            · rw [show ((cs.length : Int) == 0) = true from by rw [Classical.not_not.1 (fun hne => hgo ⟨hb, hne⟩)]; rfl]; rfl
          rw [hF] at hI
          replace hI : R = (emptyO, 161, (at_ : Int)) := hI
          refine acall.new [1, 2, 3] [] _ _ _ _ (k_furtherN (s.extract at_ (at_ + N)) hls mem a b c cs hC (fun hb => Classical.not_not.1 fun hne => hgo ⟨hb, hne⟩)) rfl rfl rfl rfl ⟨⟨rfl, rfl⟩, .inl (congrArg ts hx), trivial⟩ ⟨⟨rfl, ⟨rfl, rfl⟩, .inl rfl, .inl rfl, .inl rfl, ⟨rfl, rfl⟩, trivial⟩, ⟨rfl, rfl, rfl, rfl⟩, ⟨rfl, rfl, rfl, rfl, .inl rfl⟩, trivial⟩ rfl rfl fun _ => ?_
          conv => whnf
          (rw [hI]; exact ⟨[], rfl, rfl, (by repeat' (first | exact trivial | exact Or.inl rfl | exact Or.inr ⟨rfl, _, _, rfl⟩ | exact rfl | exact Nat.le_refl _ | apply And.intro))⟩)
    · have hge : s.size ≤ at_ := by have := of_decide_eq_false h3; omega
      rw [parseG_end hge] at hI
      replace hI : R = doneP ⟨mem, a, b, c, cs⟩ := hI
      conv => whnf
      refine ⟨fun _ => ?_, fun h => absurd rfl h⟩
      conv => whnf
      have hk := k_check ⟨mem, a, b, c, cs⟩
      unfold doneP at hI
      generalize checkO ⟨mem, a, b, c, cs⟩ = Q at hk hI
      refine acall.gen [] [2, 3] _ _ _ _ hk rfl rfl rfl rfl ⟨⟨⟨rfl, by simp, by rw [List.take_of_length_le (by simp)]⟩, .inl rfl, .inl rfl, .inl rfl, ⟨rfl, by simp, by rw [List.take_of_length_le (by simp)]⟩, trivial⟩, trivial⟩ trivial rfl rfl fun _ => ?_
      conv => whnf
      refine csplit (fun hq => ?_) (fun hq => ?_)
      · replace hq : (Q.1 != 0) = true := hq
        rw [hq] at hI
        replace hI : R = (emptyO, Q.1, 0) := hI
        conv => whnf
        rw [hI]
        exact ⟨[], rfl, rfl, (by repeat' (first | exact trivial | exact Or.inl rfl | exact Or.inr ⟨rfl, _, _, rfl⟩ | exact rfl | exact Nat.le_refl _ | apply And.intro))⟩
      · replace hq : (Q.1 != 0) = false := hq
        rw [hq] at hI
        replace hI : R = (⟨mem, a, b, c, cs⟩, 0, 0) := hI
        rw [hI]
        conv => whnf
        exact ⟨[], rfl, rfl, ⟨⟨⟨rfl, by simp, by rw [List.take_of_length_le (by simp)]⟩, .inl rfl, .inl rfl, .inl rfl, ⟨rfl, by simp, by rw [List.take_of_length_le (by simp)]⟩, trivial⟩, .inl rfl, .inl rfl, trivial⟩, trivial⟩
theorem doneP_cases (o : Ob) : (doneP o = (o, 0, 0) ∧ (checkO o).1 = 0) ∨ ∃ w, w ≠ 0 ∧ doneP o = (emptyO, w, 0) := by
  unfold doneP
  by_cases h : (checkO o).1 = 0
  · left; rw [show ((checkO o).1 != 0) = false by rw [h]; rfl]; exact ⟨rfl, h⟩
  · right; refine ⟨_, h, ?_⟩; rw [show ((checkO o).1 != 0) = true by simpa using h]; rfl
theorem parseS_cases (s : ByteArray) : (∃ o, parseS s = (o, 0, 0) ∧ (checkO o).1 = 0) ∨ ∃ w a, w ≠ 0 ∧ parseS s = (emptyO, w, a) := by
  unfold parseS parseH
  cases decide ((s.size : Int) > 16777216)
  · simp only [cond_false]
    cases decide (lnl s 0 < 0)
    · simp only [cond_false]
      split
      · exact .inr ⟨161, 0, by decide, rfl⟩
      · unfold parseM
        cases decide (lnl s (0 + (lnl s 0).toNat + 1) < 0)
        · simp only [cond_false]
          split
          · exact .inr ⟨161, _, by decide, rfl⟩
          · unfold parseR
            split
            · exact .inr ⟨161, _, by decide, rfl⟩
            · rename_i mem _ _ _
              rcases doneP_cases ⟨mem, _, _, _, _⟩ with ⟨h1, h2⟩ | ⟨w, h1, h2⟩
              · exact .inl ⟨_, h1, h2⟩
              · exact .inr ⟨w, 0, h1, h2⟩
        · exact .inr ⟨161, _, by decide, rfl⟩
    · exact .inr ⟨161, 0, by decide, rfl⟩
  · exact .inr ⟨4, 0, by decide, rfl⟩
theorem k_parseT (s : ByteArray) {R : Ob × Int × Int} (hR : R = parseS s) (h0 : R.2.1 = 0) : K 9 [.tr (ts s)] [] (.ret (.tup [R.1.av, .tr (ti 0), .tr (ti 0)])) [] := by
  have h := k_parseA s hR
  rcases parseS_cases s with ⟨o, e, _⟩ | ⟨w, a, hw, e⟩
  · rw [hR, e] at h ⊢
    exact h
  · rw [hR, e] at h0
    exact absurd h0 hw
end Go.Proofs.YtffhoknkfohfgaaDoor.am
