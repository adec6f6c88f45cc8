/- The layings of the library's contracts (written by the kit's lay-shelf and lay-plain). Contracts of Go's library, and of reading and writing -/
import Derived.Shelf.Strings.Builder1
import Derived.Shelf.Strings.Builder2
import Derived.Shelf.Strings.OnBuilder
import Derived.Shelf.Utf8.RuneCount
import Derived.Shelf.Strings.Builder2Cap
import Derived.Shelf.Strconv.Itoa0
import Derived.Shelf.Strconv.Itoa1
import Derived.Shelf.LaysM
import Derived.Shelf.Strconv.Itoa2
import Derived.Shelf.Strconv.Itoa3
import Derived.Shelf.Strings.Search1
import Derived.Shelf.Strings.Search2
import Derived.Shelf.Strings.Search3
import Derived.Shelf.Strings.Cut
import Derived.Shelf.Strings.Count
import Derived.Shelf.Strings.Shaped
import Derived.Shelf.Strings.Prefix
import Derived.Shelf.Strings.Split
import Derived.Shelf.Strings.SplitShaped
import Derived.Shelf.Unicode.Decode
import Derived.Shelf.Strings.RuneCount
import Derived.Shelf.Strings.Explode
import Derived.Shelf.Bits.Mul64
import Derived.Shelf.Unicode.DecodeSlow
import Derived.Shelf.Unicode.DecodeAny
import Derived.Ground.SlgnProg
import Derived.Shelf.SlicesE.Clone
import Derived.Test.YtbflekglkkdipaaGreatDoorProg
import Derived.Test.YtbflekglkkdipaaGreatDoorW7
import Derived.Test.YtbflekglkkdipaaGreatDoorW8
import Derived.Lib.ItoaLen
import Derived.Lib.AppendIntMem
import Derived.Test.YtbflekglkkdipaaGreatDoorW5
import Derived.Test.YtbflekglkkdipaaGreatDoorW9
set_option linter.all false
set_option linter.all false
namespace Go.Proofs
open Go.Shelf
def Tryz.lays156_ren:Go.Shelf.Ren:=⟨fun | 156=>27 | 165=>48 | 166=>49 | 169=>50 | 240=>70 | 241=>71 | 276=>99 | 277=>100 | n=>n,fun | 31=>84 | 9=>9 | 3=>3 | 4=>4 | 0=>0 | 20=>20 | 72=>115 | 76=>119 | 70=>112 | 37=>113 | 75=>118 | 127=>157 | 164=>179 | 5=>5 | 80=>121 | n=>n,fun | n=>n⟩
theorem Tryz.lays156:Go.Proofs.Lays.n156 Tryz.prog Tryz.lays156_ren := {
 mixed:=by kernel_rfl
 f156:=Tryz.func27.trans (congrArg some (by kernel_rfl))
 f165:=Tryz.func48.trans (congrArg some (by kernel_rfl))
 f166:=Tryz.func49.trans (congrArg some (by kernel_rfl))
 f169:=Tryz.func50.trans (congrArg some (by kernel_rfl))
 f240:=Tryz.func70.trans (congrArg some (by kernel_rfl))
 f241:=Tryz.func71.trans (congrArg some (by kernel_rfl))
 f276:=Tryz.func99.trans (congrArg some (by kernel_rfl))
 f277:=Tryz.func100.trans (congrArg some (by kernel_rfl))
 t0:=Tryz.underlying0
 a0:=Tryz.isAgg0
 z0:=Tryz.sizeOf0
 v0:=Tryz.zeroValue0
 t3:=Tryz.underlying3
 a3:=Tryz.isAgg3
 z3:=Tryz.sizeOf3
 v3:=Tryz.zeroValue3
 t4:=Tryz.underlying4
 a4:=Tryz.isAgg4
 z4:=Tryz.sizeOf4
 v4:=Tryz.zeroValue4
 t9:=Tryz.underlying9
 a9:=Tryz.isAgg9
 z9:=Tryz.sizeOf9
 v9:=Tryz.zeroValue9
 t20:=Tryz.underlying20
 a20:=Tryz.isAgg20
 z20:=Tryz.sizeOf20
 v20:=Tryz.zeroValue20
 t31:=Tryz.underlying84
 a31:=Tryz.isAgg84
 z31:=Tryz.sizeOf84
 v31:=Tryz.zeroValue84
 t37:=Tryz.underlying113
 a37:=Tryz.isAgg113
 z37:=Tryz.sizeOf113
 v37:=Tryz.zeroValue113
 t70:=Tryz.underlying112
 a70:=Tryz.isAgg112
 z70:=Tryz.sizeOf112
 v70:=Tryz.zeroValue112
 t72:=Tryz.underlying115
 a72:=Tryz.isAgg115
 z72:=Tryz.sizeOf115
 v72:=Tryz.zeroValue115
 t75:=Tryz.underlying118
 a75:=Tryz.isAgg118
 z75:=Tryz.sizeOf118
 v75:=Tryz.zeroValue118
 t76:=Tryz.underlying119
 a76:=Tryz.isAgg119
 z76:=Tryz.sizeOf119
 v76:=Tryz.zeroValue119
 t127:=Tryz.underlying157
 a127:=Tryz.isAgg157
 z127:=Tryz.sizeOf157
 v127:=Tryz.zeroValue157
 t164:=Tryz.underlying179
 a164:=Tryz.isAgg179
 z164:=Tryz.sizeOf179
 v164:=Tryz.zeroValue179 }
theorem Tryz.Builder_Extra_156:Builder.Extra Tryz.prog Tryz.lays156_ren := {
 sizeBuilder:=by kernel_rfl
 liesBuilder:=by kernel_rfl
 t5:=Tryz.underlying5
 a5:=Tryz.isAgg5
 z5:=Tryz.sizeOf5
 v5:=Tryz.zeroValue5
 infoByte:=by kernel_rfl
 cellsByte:=by kernel_rfl
 sizeByte:=by kernel_rfl
 neB5:=by decide }
def Tryz.laysM171_ren:Go.Shelf.Ren:=⟨fun | 171=>26 | 243=>47 | 246=>69 | 283=>95 | 284=>96 | 285=>97 | 286=>98 | 129=>111 | 317=>110 | 318=>112 | 319=>113 | 320=>114 | 337=>121 | 338=>122 | n=>n,fun | 3=>3 | 9=>9 | 2=>2 | 4=>4 | 171=>173 | 0=>0 | 53=>174 | 37=>113 | 5=>5 | 173=>177 | 212=>195 | 51=>196 | 20=>20 | 213=>197 | 46=>198 | 232=>215 | 233=>216 | n=>n,fun | 17=>0 | 18=>4 | 19=>5 | n=>n⟩
theorem Tryz.laysM171:Go.Proofs.LaysM.n171 Tryz.prog Tryz.laysM171_ren := {
 mixed:=by kernel_rfl
 f129:=Tryz.func111.trans (congrArg some (by kernel_rfl))
 f171:=Tryz.func26.trans (congrArg some (by kernel_rfl))
 f243:=Tryz.func47.trans (congrArg some (by kernel_rfl))
 f246:=Tryz.func69.trans (congrArg some (by kernel_rfl))
 f283:=Tryz.func95.trans (congrArg some (by kernel_rfl))
 f284:=Tryz.func96.trans (congrArg some (by kernel_rfl))
 f285:=Tryz.func97.trans (congrArg some (by kernel_rfl))
 f286:=Tryz.func98.trans (congrArg some (by kernel_rfl))
 f317:=Tryz.func110.trans (congrArg some (by kernel_rfl))
 f318:=Tryz.func112.trans (congrArg some (by kernel_rfl))
 f319:=Tryz.func113.trans (congrArg some (by kernel_rfl))
 f320:=Tryz.func114.trans (congrArg some (by kernel_rfl))
 f337:=Tryz.func121.trans (congrArg some (by kernel_rfl))
 f338:=Tryz.func122.trans (congrArg some (by kernel_rfl))
 t0:=Tryz.underlying0
 a0:=Tryz.isAgg0
 z0:=Tryz.sizeOf0
 v0:=Tryz.zeroValue0
 t2:=Tryz.underlying2
 a2:=Tryz.isAgg2
 z2:=Tryz.sizeOf2
 v2:=Tryz.zeroValue2
 t3:=Tryz.underlying3
 a3:=Tryz.isAgg3
 z3:=Tryz.sizeOf3
 v3:=Tryz.zeroValue3
 t4:=Tryz.underlying4
 a4:=Tryz.isAgg4
 z4:=Tryz.sizeOf4
 v4:=Tryz.zeroValue4
 t5:=Tryz.underlying5
 a5:=Tryz.isAgg5
 z5:=Tryz.sizeOf5
 v5:=Tryz.zeroValue5
 t9:=Tryz.underlying9
 a9:=Tryz.isAgg9
 z9:=Tryz.sizeOf9
 v9:=Tryz.zeroValue9
 t20:=Tryz.underlying20
 a20:=Tryz.isAgg20
 z20:=Tryz.sizeOf20
 v20:=Tryz.zeroValue20
 t37:=Tryz.underlying113
 a37:=Tryz.isAgg113
 z37:=Tryz.sizeOf113
 v37:=Tryz.zeroValue113
 t46:=Tryz.underlying198
 a46:=Tryz.isAgg198
 z46:=Tryz.sizeOf198
 v46:=Tryz.zeroValue198
 t51:=Tryz.underlying196
 a51:=Tryz.isAgg196
 z51:=Tryz.sizeOf196
 v51:=Tryz.zeroValue196
 t53:=Tryz.underlying174
 a53:=Tryz.isAgg174
 z53:=Tryz.sizeOf174
 v53:=Tryz.zeroValue174
 t171:=Tryz.underlying173
 a171:=Tryz.isAgg173
 z171:=Tryz.sizeOf173
 v171:=Tryz.zeroValue173
 t173:=Tryz.underlying177
 a173:=Tryz.isAgg177
 z173:=Tryz.sizeOf177
 v173:=Tryz.zeroValue177
 t212:=Tryz.underlying195
 a212:=Tryz.isAgg195
 z212:=Tryz.sizeOf195
 v212:=Tryz.zeroValue195
 t213:=Tryz.underlying197
 a213:=Tryz.isAgg197
 z213:=Tryz.sizeOf197
 t232:=Tryz.underlying215
 a232:=Tryz.isAgg215
 z232:=Tryz.sizeOf215
 v232:=Tryz.zeroValue215
 t233:=Tryz.underlying216
 a233:=Tryz.isAgg216
 z233:=Tryz.sizeOf216
 v233:=Tryz.zeroValue216
 g17:=by kernel_rfl
 g18:=by kernel_rfl
 g19:=by kernel_rfl
 i0:=by kernel_rfl
 i2:=by kernel_rfl
 i3:=by kernel_rfl
 i4:=by kernel_rfl
 i5:=by kernel_rfl
 i9:=by kernel_rfl
 i20:=by kernel_rfl
 i37:=by kernel_rfl
 i46:=by kernel_rfl
 i51:=by kernel_rfl
 i53:=by kernel_rfl
 i171:=by kernel_rfl
 i173:=by kernel_rfl
 i212:=by kernel_rfl
 i232:=by kernel_rfl
 i233:=by kernel_rfl
 m17:=by kernel_rfl
 m18:=by kernel_rfl
 m19:=by kernel_rfl }
def Tryz.lays219_ren:Go.Shelf.Ren:=⟨fun | 219=>104 | 217=>116 | 225=>117 | 224=>118 | 267=>119 | 266=>123 | 314=>124 | n=>n,fun | 9=>9 | 3=>3 | 4=>4 | 5=>5 | 46=>198 | 146=>212 | 51=>196 | n=>n,fun | 1=>1 | n=>n⟩
theorem Tryz.lays219:Go.Proofs.Lays.n219 Tryz.prog Tryz.lays219_ren := {
 mixed:=by kernel_rfl
 f217:=Tryz.func116.trans (congrArg some (by kernel_rfl))
 f219:=Tryz.func104.trans (congrArg some (by kernel_rfl))
 f224:=Tryz.func118.trans (congrArg some (by kernel_rfl))
 f225:=Tryz.func117.trans (congrArg some (by kernel_rfl))
 f266:=Tryz.func123.trans (congrArg some (by kernel_rfl))
 f267:=Tryz.func119.trans (congrArg some (by kernel_rfl))
 f314:=Tryz.func124.trans (congrArg some (by kernel_rfl))
 t3:=Tryz.underlying3
 a3:=Tryz.isAgg3
 z3:=Tryz.sizeOf3
 v3:=Tryz.zeroValue3
 t4:=Tryz.underlying4
 a4:=Tryz.isAgg4
 z4:=Tryz.sizeOf4
 v4:=Tryz.zeroValue4
 t5:=Tryz.underlying5
 a5:=Tryz.isAgg5
 z5:=Tryz.sizeOf5
 v5:=Tryz.zeroValue5
 t9:=Tryz.underlying9
 a9:=Tryz.isAgg9
 z9:=Tryz.sizeOf9
 v9:=Tryz.zeroValue9
 t46:=Tryz.underlying198
 a46:=Tryz.isAgg198
 z46:=Tryz.sizeOf198
 v46:=Tryz.zeroValue198
 t51:=Tryz.underlying196
 a51:=Tryz.isAgg196
 z51:=Tryz.sizeOf196
 v51:=Tryz.zeroValue196
 t146:=Tryz.underlying212
 a146:=Tryz.isAgg212
 z146:=Tryz.sizeOf212
 v146:=Tryz.zeroValue212
 g1:=by kernel_rfl }
def Tryz.lays143_ren:Go.Shelf.Ren:=⟨fun | 143=>74 | 219=>104 | 217=>116 | 225=>117 | 224=>118 | 267=>119 | 266=>123 | 314=>124 | n=>n,fun | 9=>9 | 3=>3 | 4=>4 | 5=>5 | 46=>198 | 146=>212 | 51=>196 | n=>n,fun | 1=>1 | n=>n⟩
theorem Tryz.lays143:Go.Proofs.Lays.n143 Tryz.prog Tryz.lays143_ren := {
 mixed:=by kernel_rfl
 f143:=Tryz.func74.trans (congrArg some (by kernel_rfl))
 f217:=Tryz.func116.trans (congrArg some (by kernel_rfl))
 f219:=Tryz.func104.trans (congrArg some (by kernel_rfl))
 f224:=Tryz.func118.trans (congrArg some (by kernel_rfl))
 f225:=Tryz.func117.trans (congrArg some (by kernel_rfl))
 f266:=Tryz.func123.trans (congrArg some (by kernel_rfl))
 f267:=Tryz.func119.trans (congrArg some (by kernel_rfl))
 f314:=Tryz.func124.trans (congrArg some (by kernel_rfl))
 t3:=Tryz.underlying3
 a3:=Tryz.isAgg3
 z3:=Tryz.sizeOf3
 v3:=Tryz.zeroValue3
 t4:=Tryz.underlying4
 a4:=Tryz.isAgg4
 z4:=Tryz.sizeOf4
 v4:=Tryz.zeroValue4
 t5:=Tryz.underlying5
 a5:=Tryz.isAgg5
 z5:=Tryz.sizeOf5
 v5:=Tryz.zeroValue5
 t9:=Tryz.underlying9
 a9:=Tryz.isAgg9
 z9:=Tryz.sizeOf9
 v9:=Tryz.zeroValue9
 t46:=Tryz.underlying198
 a46:=Tryz.isAgg198
 z46:=Tryz.sizeOf198
 v46:=Tryz.zeroValue198
 t51:=Tryz.underlying196
 a51:=Tryz.isAgg196
 z51:=Tryz.sizeOf196
 v51:=Tryz.zeroValue196
 t146:=Tryz.underlying212
 a146:=Tryz.isAgg212
 z146:=Tryz.sizeOf212
 v146:=Tryz.zeroValue212
 g1:=by kernel_rfl }
def Tryz.lays138_ren:Go.Shelf.Ren:=⟨fun | 138=>73 | 195=>101 | 218=>103 | 143=>74 | 219=>104 | 217=>116 | 225=>117 | 224=>118 | 267=>119 | 266=>123 | 314=>124 | n=>n,fun | 9=>9 | 3=>3 | 4=>4 | 5=>5 | 0=>0 | 46=>198 | 146=>212 | 51=>196 | n=>n,fun | 1=>1 | n=>n⟩
theorem Tryz.lays138:Go.Proofs.Lays.n138 Tryz.prog Tryz.lays138_ren := {
 mixed:=by kernel_rfl
 f138:=Tryz.func73.trans (congrArg some (by kernel_rfl))
 f143:=Tryz.func74.trans (congrArg some (by kernel_rfl))
 f195:=Tryz.func101.trans (congrArg some (by kernel_rfl))
 f217:=Tryz.func116.trans (congrArg some (by kernel_rfl))
 f218:=Tryz.func103.trans (congrArg some (by kernel_rfl))
 f219:=Tryz.func104.trans (congrArg some (by kernel_rfl))
 f224:=Tryz.func118.trans (congrArg some (by kernel_rfl))
 f225:=Tryz.func117.trans (congrArg some (by kernel_rfl))
 f266:=Tryz.func123.trans (congrArg some (by kernel_rfl))
 f267:=Tryz.func119.trans (congrArg some (by kernel_rfl))
 f314:=Tryz.func124.trans (congrArg some (by kernel_rfl))
 t0:=Tryz.underlying0
 a0:=Tryz.isAgg0
 z0:=Tryz.sizeOf0
 v0:=Tryz.zeroValue0
 t3:=Tryz.underlying3
 a3:=Tryz.isAgg3
 z3:=Tryz.sizeOf3
 v3:=Tryz.zeroValue3
 t4:=Tryz.underlying4
 a4:=Tryz.isAgg4
 z4:=Tryz.sizeOf4
 v4:=Tryz.zeroValue4
 t5:=Tryz.underlying5
 a5:=Tryz.isAgg5
 z5:=Tryz.sizeOf5
 v5:=Tryz.zeroValue5
 t9:=Tryz.underlying9
 a9:=Tryz.isAgg9
 z9:=Tryz.sizeOf9
 v9:=Tryz.zeroValue9
 t46:=Tryz.underlying198
 a46:=Tryz.isAgg198
 z46:=Tryz.sizeOf198
 v46:=Tryz.zeroValue198
 t51:=Tryz.underlying196
 a51:=Tryz.isAgg196
 z51:=Tryz.sizeOf196
 v51:=Tryz.zeroValue196
 t146:=Tryz.underlying212
 a146:=Tryz.isAgg212
 z146:=Tryz.sizeOf212
 v146:=Tryz.zeroValue212
 g1:=by kernel_rfl }
def Tryz.lays99_ren:Go.Shelf.Ren:=⟨fun | 99=>52 | 206=>75 | n=>n,fun | 9=>9 | 4=>4 | 3=>3 | n=>n,fun | n=>n⟩
theorem Tryz.lays99:Go.Proofs.Lays.n99 Tryz.prog Tryz.lays99_ren := {
 mixed:=by kernel_rfl
 f99:=Tryz.func52.trans (congrArg some (by kernel_rfl))
 f206:=Tryz.func75.trans (congrArg some (by kernel_rfl))
 t3:=Tryz.underlying3
 a3:=Tryz.isAgg3
 z3:=Tryz.sizeOf3
 v3:=Tryz.zeroValue3
 t4:=Tryz.underlying4
 a4:=Tryz.isAgg4
 z4:=Tryz.sizeOf4
 v4:=Tryz.zeroValue4
 t9:=Tryz.underlying9
 a9:=Tryz.isAgg9
 z9:=Tryz.sizeOf9
 v9:=Tryz.zeroValue9 }
def Tryz.lays221_ren:Go.Shelf.Ren:=⟨fun | 221=>51 | 268=>72 | 138=>73 | 143=>74 | 195=>101 | 197=>102 | 218=>103 | 219=>104 | 260=>115 | 217=>116 | 225=>117 | 224=>118 | 267=>119 | 266=>123 | 314=>124 | n=>n,fun | 9=>9 | 3=>3 | 31=>84 | 4=>4 | 0=>0 | 105=>183 | 21=>21 | 5=>5 | 46=>198 | 119=>208 | 139=>211 | 138=>210 | 146=>212 | 51=>196 | n=>n,fun | 1=>1 | 3=>2 | 4=>3 | n=>n⟩
theorem Tryz.lays221:Go.Proofs.Lays.n221 Tryz.prog Tryz.lays221_ren := {
 mixed:=by kernel_rfl
 f138:=Tryz.func73.trans (congrArg some (by kernel_rfl))
 f143:=Tryz.func74.trans (congrArg some (by kernel_rfl))
 f195:=Tryz.func101.trans (congrArg some (by kernel_rfl))
 f197:=Tryz.func102.trans (congrArg some (by kernel_rfl))
 f217:=Tryz.func116.trans (congrArg some (by kernel_rfl))
 f218:=Tryz.func103.trans (congrArg some (by kernel_rfl))
 f219:=Tryz.func104.trans (congrArg some (by kernel_rfl))
 f221:=Tryz.func51.trans (congrArg some (by kernel_rfl))
 f224:=Tryz.func118.trans (congrArg some (by kernel_rfl))
 f225:=Tryz.func117.trans (congrArg some (by kernel_rfl))
 f260:=Tryz.func115.trans (congrArg some (by kernel_rfl))
 f266:=Tryz.func123.trans (congrArg some (by kernel_rfl))
 f267:=Tryz.func119.trans (congrArg some (by kernel_rfl))
 f268:=Tryz.func72.trans (congrArg some (by kernel_rfl))
 f314:=Tryz.func124.trans (congrArg some (by kernel_rfl))
 t0:=Tryz.underlying0
 a0:=Tryz.isAgg0
 z0:=Tryz.sizeOf0
 v0:=Tryz.zeroValue0
 t3:=Tryz.underlying3
 a3:=Tryz.isAgg3
 z3:=Tryz.sizeOf3
 v3:=Tryz.zeroValue3
 t4:=Tryz.underlying4
 a4:=Tryz.isAgg4
 z4:=Tryz.sizeOf4
 v4:=Tryz.zeroValue4
 t5:=Tryz.underlying5
 a5:=Tryz.isAgg5
 z5:=Tryz.sizeOf5
 v5:=Tryz.zeroValue5
 t9:=Tryz.underlying9
 a9:=Tryz.isAgg9
 z9:=Tryz.sizeOf9
 v9:=Tryz.zeroValue9
 t21:=Tryz.underlying21
 a21:=Tryz.isAgg21
 z21:=Tryz.sizeOf21
 v21:=Tryz.zeroValue21
 t31:=Tryz.underlying84
 a31:=Tryz.isAgg84
 z31:=Tryz.sizeOf84
 v31:=Tryz.zeroValue84
 t46:=Tryz.underlying198
 a46:=Tryz.isAgg198
 z46:=Tryz.sizeOf198
 v46:=Tryz.zeroValue198
 t51:=Tryz.underlying196
 a51:=Tryz.isAgg196
 z51:=Tryz.sizeOf196
 v51:=Tryz.zeroValue196
 t105:=Tryz.underlying183
 a105:=Tryz.isAgg183
 z105:=Tryz.sizeOf183
 v105:=Tryz.zeroValue183
 t119:=Tryz.underlying208
 a119:=Tryz.isAgg208
 z119:=Tryz.sizeOf208
 t138:=Tryz.underlying210
 a138:=Tryz.isAgg210
 z138:=Tryz.sizeOf210
 v138:=Tryz.zeroValue210
 t139:=Tryz.underlying211
 a139:=Tryz.isAgg211
 z139:=Tryz.sizeOf211
 v139:=Tryz.zeroValue211
 t146:=Tryz.underlying212
 a146:=Tryz.isAgg212
 z146:=Tryz.sizeOf212
 v146:=Tryz.zeroValue212
 g1:=by kernel_rfl
 g3:=by kernel_rfl
 g4:=by kernel_rfl }
end Go.Proofs
namespace Go.Proofs.YtbflekglkkdipaaGreatDoor.am
open Go Go.Proofs Go.RowKit
theorem Ctr.ofCalls {f:Nat} {args:List AV} {a:AV} (hc:Callable Tryz.prog f) (h : ∀ (g:Gh) (w:World) (vs:Array Value),MSt g w (ofL [])→vs.size=args.length→(∀ (i:Nat) (v:Value) (a:AV),vs[i]? = some v→args[i]? = some a→Rep g w v a) →
  Calls Tryz.prog f vs w fun e w' => ∃ v,e = .returned v∧Below w.heap.size w w'∧(Grow g w g w'→MSt g w' (ofLO [])→Rep g w' v a)):K f args [] (.ret a) []:=by
 refine ⟨hc,fun g w vs hun hm hsz hv=>(h g w vs hm hsz hv).mono ?_⟩
 rintro e w' ⟨v,rfl,hb,hR⟩
 have hG:Grow g w g w':=⟨hb.os,hb.tape,hb.output,hb.size,fun b hk=>hb.block b hk.1,fun b hk=>hb.block b (hm.xlt b hk),rfl,fun _ h=>h,fun _ _ h => .inl h,fun k b e => .inl ⟨k,e⟩⟩
 have hM:MSt g w' (ofLO []):=⟨fun h b e=>(by simp [ofLO] at e),hm.inj,fun k b e=>Nat.lt_of_lt_of_le (hm.lt k b e) hb.size,fun b hk=>Nat.lt_of_lt_of_le (hm.xlt b hk) hb.size,hm.xl,hm.gl.grow hG⟩
 exact ⟨g,hG,hM,fun k _ l hl=>(by have:=hun k (Nat.zero_le _); rw [this] at hl; cases hl),hR hG hM⟩
theorem one_arg {vs:Array Value} (h:vs.size=1) : ∃ v,vs = #[v]:=by
 obtain ⟨l⟩:=vs
 match l,h with
 | [v],_=>exact ⟨v,rfl⟩
theorem two_arg {vs:Array Value} (h:vs.size=2) : ∃ v u,vs = #[v,u]:=by
 obtain ⟨l⟩:=vs
 match l,h with
 | [v,u],_=>exact ⟨v,u,rfl⟩
theorem four_arg {vs:Array Value} (h:vs.size=4) : ∃ v u x y,vs = #[v,u,x,y]:=by
 obtain ⟨l⟩:=vs
 match l,h with
 | [v,u,x,y],_=>exact ⟨v,u,x,y,rfl⟩
theorem powTab {g:Gh} {w:World} (h:GL g w) {name:String} (hn : Tryz.prog.globalNamed name=some 0):Lib.TabIs Tryz.prog w name .u64 Lib.pow10Tab:=by
 obtain ⟨_,t,fz,e⟩:=h _ _ ⟨rfl,rfl⟩
 unfold Lib.TabIs World.var?
 rw [hn,Option.bind_some,e]
 rfl
def prnB (n:Int):ByteArray:=⟨(ws.prn n).toArray⟩
theorem decDigits_dig (u:Nat):Lib.decDigits u=ws.dig u:=by
 induction u using Nat.strongRecOn with
 | _ u ih =>
  by_cases h:u<10
  ·rw [Lib.decDigits,dif_pos h,ws.dig_small h]; rfl
  ·rw [Lib.decDigits,dif_neg h,ws.dig_big h,ih (u / 10) (by omega)]; rfl
theorem itoa_prn (n:Int):Lib.itoa n=ws.prn n:=by
 unfold Lib.itoa ws.prn
 split
 ·rw [decDigits_dig,show n.natAbs=(-n).toNat by omega]
 ·rw [decDigits_dig]
theorem prn_len {n:Int} (h1 : -9223372036854775808≤n) (h2:n≤9223372036854775807):(prnB n).size≤21:=by
 show (ws.prn n).toArray.size≤21
 rw [List.size_toArray,← itoa_prn]
 exact Lib.itoa_length_le n h1 h2
theorem k_itoa (n:Int):K 26 [.tr (ti n)] [] (.ret (.tr (ts (prnB n)))) []:=by
 refine Ctr.ofCalls (fun _ _=>by kernel_rfl) fun g w vs hm hsz hv => ?_
 obtain ⟨v,rfl⟩:=one_arg hsz
 obtain ⟨rfl,h1,h2⟩:=val_inv (hv 0 v (.tr (ti n)) rfl rfl)
 refine (Any.strconv_Itoa Tryz.laysM171 n h1 h2 w (powTab hm.gl (by kernel_rfl))).mono ?_
 rintro e w' ⟨rfl,k,os,rfl⟩
 rw [itoa_prn]
 exact ⟨_,rfl,Lib.below_grow _ _ (Nat.le_refl _) _ _,fun _ _ => .tr (.v (Nat.le_trans (prn_len h1 h2) (by omega)))⟩
def prsB (s:ByteArray):Int × Int × Int:=ws.prs s.data.toList
theorem pgo_in {neg:Bool} {at_:Nat} : ∀ (l:List UInt8) (i n:Nat),n≤ws.most neg→i+l.length≤9223372036854775807 →
  (-9223372036854775808≤(ws.pgo neg at_ l i n).1∧(ws.pgo neg at_ l i n).1≤9223372036854775807)∧((ws.pgo neg at_ l i n).2.1=0∨(ws.pgo neg at_ l i n).2.1=10)∧0≤(ws.pgo neg at_ l i n).2.2∧(ws.pgo neg at_ l i n).2.2≤9223372036854775807
 | [],i,n,h,hl=>by
  simp only [List.length_nil] at hl
  unfold ws.pgo
  split
  ·exact ⟨⟨by simp,by simp⟩,.inr rfl,by simp,by simp; omega⟩
  ·refine ⟨?_,.inl rfl,by simp,by simp⟩
   cases neg with
   | true=>have h:n≤9223372036854775808:=h; simp only [ws.okV,if_true]; omega
   | false=>have h:n≤9223372036854775807:=h; simp only [ws.okV]; simp; omega
 | c::r,i,n,h,hl=>by
  simp only [List.length_cons] at hl
  unfold ws.pgo
  split
  ·exact ⟨⟨by simp,by simp⟩,.inr rfl,by simp,by simp; omega⟩
  ·rename_i hb
   refine pgo_in r (i+1) _ ?_ (by omega)
   apply Decidable.byContradiction
   intro hc
   refine hb ?_
   unfold ws.bad
   simp
   omega
theorem prs_in (s:ByteArray) (hs:s.size≤9223372036854775807):(-9223372036854775808≤(prsB s).1∧(prsB s).1≤9223372036854775807)∧((prsB s).2.1=0∨(prsB s).2.1=10)∧0≤(prsB s).2.2∧(prsB s).2.2≤9223372036854775807:=by
 have hl:s.data.toList.length=s.size:=by simp
 unfold prsB ws.prs
 split
 ·rename_i h
  have:0<s.data.toList.length:=by
   unfold ws.isNeg at h
   cases hd:s.data.toList with
   | nil=>rw [hd] at h; cases h
   | cons _ _=>simp
  exact pgo_in _ _ _ (Nat.zero_le _) (by rw [List.length_drop]; omega)
 ·exact pgo_in _ _ _ (Nat.zero_le _) (by omega)
theorem k_parseW (s:ByteArray):K 77 [.tr (ts s)] [] (.ret (.tup [.tr (ti (prsB s).1),.tr (ti (prsB s).2.1),.tr (ti (prsB s).2.2)])) []:=by
 refine Ctr.ofCalls (fun _ _=>by kernel_rfl) fun g w vs hm hsz hv => ?_
 obtain ⟨v,rfl⟩:=one_arg hsz
 obtain ⟨rfl,h1⟩:=val_inv (hv 0 v (.tr (ts s)) rfl rfl)
 have h1:s.size≤9223372036854775807:=h1
 refine (ws.parse_any s w h1).mono ?_
 rintro e w' ⟨rfl,rfl⟩
 obtain ⟨⟨p1,p2⟩,p3,p4,p5⟩:=prs_in s h1
 refine ⟨_,rfl,Below.refl _ _,fun _ _ => .tup rfl fun i c a e1 e2 => ?_⟩
 match i with
 | 0=>cases e1; cases e2; exact .tr (.v ⟨p1,p2⟩)
 | 1=>cases e1; cases e2; exact .tr (.v ⟨by rcases p3 with h | h <;> (unfold prsB at h; rw [h]; decide),by rcases p3 with h | h <;> (unfold prsB at h; rw [h]; decide)⟩)
 | 2=>cases e1; cases e2; exact .tr (.v ⟨Int.le_trans (by decide) p4,p5⟩)
 | i+3=>simp at e1
def prefB (s p:ByteArray):Bool:=Lib.hasPrefix s.data.toList p.data.toList
theorem k_hasPrefix (s p:ByteArray):K 52 [.tr (ts s),.tr (ts p)] [] (.ret (.tr (tb (prefB s p)))) []:=by
 refine Ctr.ofCalls (fun _ _=>by kernel_rfl) fun g w vs hm hsz hv => ?_
 obtain ⟨v,u,rfl⟩:=two_arg hsz
 obtain ⟨rfl,_⟩:=val_inv (hv 0 v (.tr (ts s)) rfl rfl)
 obtain ⟨rfl,_⟩:=val_inv (hv 1 u (.tr (ts p)) rfl rfl)
 refine (Any.strings_HasPrefix Tryz.lays99 s p w).mono ?_
 rintro e w' ⟨rfl,rfl⟩
 exact ⟨_,rfl,Below.refl _ _,fun _ _ => .tr (.v trivial)⟩
end Go.Proofs.YtbflekglkkdipaaGreatDoor.am
namespace Go.Proofs.YtbflekglkkdipaaGreatDoor.am
open Go Go.Proofs Go.RowKit
def srow (s:ByteArray):List Tr:=[ts s]
abbrev strsT (l:List ByteArray):Tr := .lst 1 16 (l.map srow)
def blank:ByteArray:=⟨#[32]⟩
def joinL (l:List ByteArray):List UInt8:=Lib.join (l.map (·.data.toList)) [32]
def joinB (l:List ByteArray):ByteArray:=⟨(joinL l).toArray⟩
theorem strs_inv {ok:Nat→Prop} {w:World} {v:Value} {l:List ByteArray} (h:RepT ok w v (strsT l)) :
  ∃ ao cap,v = .slice ao l.length cap∧l.length≤cap∧(0<l.length → ∃ b o,ao=some ⟨b,o,none⟩∧ok b ∧ ∀ j x,l[j]? = some x→w.cell? ⟨b,o+j,none⟩=some (.string x))∧l.length*16≤150000000000000 ∧ ∀ x ∈ l,x.size≤9223372036854775807:=by
 obtain ⟨ao,cap,f,rfl,q1,q2,q3,q4,q5,q6⟩:=lst_inv h
 simp only [List.length_map] at q1 q3 ⊢
 have get : ∀ j x,l[j]? = some x→(l.map srow)[j]? = some [ts x]:=fun j x hj=>by rw [List.getElem?_map,hj]; rfl
 refine ⟨ao,cap,rfl,q1,fun h0 => ?_,q3,fun x hx => ?_⟩
 ·obtain ⟨_,b,o,e,hb,_⟩:=q5 0 [ts l[0]] (get 0 _ (by simp [h0]))
  refine ⟨b,o,e,hb,fun j x hj => ?_⟩
  obtain ⟨_,b',o',e',_,hc⟩:=q5 j [ts x] (get j x hj)
  rw [e] at e'; cases e'
  have:=hc 0 (by decide)
  rw [Nat.mul_one,Nat.add_zero] at this
  rw [this]
  have:=q6 j [ts x] 0 (ts x) (get j x hj) rfl
  generalize f j 0=fv at this
  cases this with
  | v hg=>rfl
 ·obtain ⟨j,hj⟩:=List.mem_iff_getElem?.1 hx
  have:=q6 j [ts x] 0 (ts x) (get j x hj) rfl
  generalize f j 0=fv at this
  cases this with
  | v hg=>exact hg
theorem k_join (l:List ByteArray) (hlen:(joinL l).length≤140737488355328):K 27 [.tr (strsT l),.tr (ts blank)] [] (.ret (.tr (ts (joinB l)))) []:=by
 refine Ctr.ofCalls (fun _ _=>by kernel_rfl) fun g w vs hm hsz hv => ?_
 obtain ⟨v,u,rfl⟩:=two_arg hsz
 have hr:=(hv 0 v (.tr (strsT l)) rfl rfl).tr_inv
 obtain ⟨rfl,_⟩:=val_inv (hv 1 u (.tr (ts blank)) rfl rfl)
 obtain ⟨ao,cap,rfl,q1,q2,q3,q4⟩:=strs_inv hr
 have hjs:(joinB l).size≤9223372036854775807:=by show (joinL l).toArray.size≤_; rw [List.size_toArray]; omega
 by_cases h0:0<l.length
 ·obtain ⟨b,o,rfl,hb,hc⟩:=q2 h0
  refine (Any.strings_Join Tryz.lays156 Tryz.Builder_Extra_156 b o cap l blank w hc hb.1 (by omega) q1 hlen).mono ?_
  rintro e w' ⟨rfl,hb⟩
  exact ⟨_,rfl,hb,fun _ _ => .tr (.v hjs)⟩
 ·have:l=[]:=List.eq_nil_of_length_eq_zero (by omega)
  subst this
  refine (Any.strings_Join_none Tryz.lays156 Tryz.Builder_Extra_156 ao cap blank w).mono ?_
  rintro e w' ⟨rfl,rfl⟩
  exact ⟨_,rfl,Below.refl _ _,fun _ _ => .tr (.v hjs)⟩
def splitBl (s:ByteArray):List ByteArray:=Lib.splitB blank 0 (Lib.countB s blank) s
theorem splitBl_len (s:ByteArray):(splitBl s).length=Lib.countB s blank+1:=Lib.splitB_all blank (by decide) 0 _ s rfl
theorem splitB_size (sep:ByteArray) (k:Nat) : ∀ s:ByteArray,∀ x ∈ Lib.splitB sep 0 k s,x.size≤s.size:=by
 induction k with
 | zero=>intro s x hx; simp [Lib.splitB] at hx; subst hx; exact Nat.le_refl _
 | succ k ih =>
  intro s x hx
  unfold Lib.splitB at hx
  split at hx
  ·simp at hx; subst hx; exact Nat.le_refl _
  ·simp only [List.mem_cons] at hx
   rcases hx with rfl | hx
   ·simp [ByteArray.size_extract]; omega
   ·have:=ih _ x hx
    simp only [ByteArray.size_extract] at this
    omega
theorem count_size (s:ByteArray):Lib.countB s blank≤s.size:=Lib.countB_le blank (by decide) s.size s (Nat.le_refl _)
theorem k_genSplit (s:ByteArray) (hs:s.size<4294967281):K 51 [.tr (ts s),.tr (ts blank),.tr (ti 0),.tr (ti (-1))] [] (.ret (.tr (strsT (splitBl s)))) []:=by
 refine Ctr.ofCalls (fun _ _=>by kernel_rfl) fun g w vs hm hsz hv => ?_
 obtain ⟨v,u,x,y,rfl⟩:=four_arg hsz
 obtain ⟨rfl,h1⟩:=val_inv (hv 0 v (.tr (ts s)) rfl rfl)
 obtain ⟨rfl,_⟩:=val_inv (hv 1 u (.tr (ts blank)) rfl rfl)
 obtain ⟨rfl,_⟩:=val_inv (hv 2 x (.tr (ti 0)) rfl rfl)
 obtain ⟨rfl,_⟩:=val_inv (hv 3 y (.tr (ti (-1))) rfl rfl)
 have hlen:=splitBl_len s
 have hcs:=count_size s
 have hsp:Lib.splitB blank 0 (Lib.countB s blank+1 - 1) s=splitBl s:=by rw [Nat.add_sub_cancel]; rfl
 have hsv:(0:Nat)≤blank.size:=Nat.zero_le _
 refine (Any.strings_genSplit_core Tryz.lays221 (by kernel_rfl) s blank 0 (-1) (Lib.countB s blank+1) w hs (by decide) hsv (fun x c hx => ?_) ?_ (by decide) (by decide) (by rw [if_pos (by decide)]; omega)).mono ?_
 ·have:=Any.strings_Index_one Tryz.lays143 x 32 (w.alloc (.cells c 9))
  rw [← Lib.index_one] at this
  exact this
 ·have:=Any.strings_Count_one Tryz.lays138 s 32 w
  have e:Lib.countByte s.data.toList 32=Lib.countB s blank:=(Lib.count_one 32 s.data.toList).symm
  rw [e] at this
  exact this
 ·rintro e w' ⟨rfl,rfl⟩
  rw [hsp,hlen]
  refine ⟨_,rfl,(Below.refl _ _).alloc (Nat.le_refl _) _,fun hG hM => .tr ?_⟩
  have hnew:(w.alloc (.cells (Lib.cellsOf (splitBl s) (Lib.countB s blank+1)) 9)).heap[w.heap.size]? = some (.cells (Lib.cellsOf (splitBl s) (Lib.countB s blank+1)) 9):=heap_alloc_new w _
  have hok:okB g (w.alloc (.cells (Lib.cellsOf (splitBl s) (Lib.countB s blank+1)) 9)) w.heap.size:=⟨by simp,fun hx=>by have:=hm.xlt _ hx; omega,fun h ho=>by have:=hm.lt h _ ho; omega⟩
  have get : ∀ i row,((splitBl s).map srow)[i]? = some row → ∃ x,(splitBl s)[i]? = some x∧row=[ts x]:=fun i row h=>by
   obtain ⟨x,h1,h2⟩:=map_get h
   exact ⟨x,h1,h2.symm⟩
  refine .lst (fun i _=>((splitBl s)[i]?).elim default Value.string) (by rw [List.length_map,hlen]) (Nat.le_refl _) (by omega) (by omega) (fun h=>by cases h) (fun i row hr => ?_) fun i row j t hr hj => ?_
  ·obtain ⟨x,hx,rfl⟩:=get i row hr
   refine ⟨rfl,_,_,rfl,hok,fun j hj => ?_⟩
   have hj0:j=0:=by simp at hj; exact hj
   subst hj0
   have hi:=(List.getElem?_eq_some_iff.1 hx).1
   rw [show 0+i*1+0=i by omega]
   refine (cell_of_row _ w.heap.size i _ _ _ hnew).trans ?_
   rw [hx]
   unfold Lib.cellsOf
   rw [List.getElem?_toArray,List.getElem?_append_left (by simpa using hi),List.getElem?_map,hx]
   rfl
  ·obtain ⟨x,hx,rfl⟩:=get i row hr
   have hj0:j=0:=by
    have:=(List.getElem?_eq_some_iff.1 hj).1
    simp at this; exact this
   subst hj0
   simp at hj
   subst hj
   rw [hx]
   have:=splitB_size blank _ s x (List.mem_of_getElem? hx)
   exact .v (Nat.le_trans this h1)
theorem k_split (s:ByteArray) (hs:s.size<4294967281):K 28 [.tr (ts s),.tr (ts blank)] [] (.ret (.tr (strsT (splitBl s)))) []:=by
 refine Ctr.of hT hmix Tryz.func28 rfl (fun _ _=>by kernel_rfl) rfl fun hok => ?_
 conv=>whnf
 refine acall.pure _ (k_genSplit s hs) rfl rfl fun _ => ?_
 conv=>whnf
 exact ⟨.inl rfl,trivial⟩
end Go.Proofs.YtbflekglkkdipaaGreatDoor.am
namespace Go.Proofs.YtbflekglkkdipaaGreatDoor.am
open Go Go.Proofs
set_option linter.all false
theorem dat_len (s:ByteArray):s.data.toList.length=s.size:=by simp
abbrev in64 (w:Int):Prop := -9223372036854775808≤w∧w≤9223372036854775807
def emB:ByteArray:=⟨#[]⟩
abbrev errSched:Int:=260
abbrev errRange:Int:=2
def tlS (s:ByteArray):ByteArray:=s.extract 1 s.size
def mkB (l:List UInt8):ByteArray:=⟨l.toArray⟩
theorem mkB_data (l:List UInt8):(mkB l).data.toList=l:=by simp [mkB]
theorem ba_exh {a b:ByteArray} (h:a.data.toList=b.data.toList):a=b:=by
 obtain ⟨⟨a⟩⟩:=a
 obtain ⟨⟨b⟩⟩:=b
 have:a=b:=h
 rw [this]
theorem ib_at {c:UInt8} : ∀ (w r:List UInt8),c ∉ w→Lib.indexByte (w++c::r) c=w.length
 | [],r,_=>by
  show (if (c == c) then (0:Int) else _)=0
  rw [if_pos (by simp)]
 | b::w,r,h=>by
  have hb : ¬ (b == c)=true:=fun e=>h (by rw [beq_iff_eq.1 e]; exact .head _)
  have ih:=ib_at w r fun e=>h (.tail _ e)
  show (if (b == c) then (0:Int) else if Lib.indexByte (w++c::r) c == -1 then -1 else Lib.indexByte (w++c::r) c+1)=_
  rw [if_neg hb,ih,if_neg (by rw [beq_iff_eq]; omega),List.length_cons]; omega
theorem ib_none {c:UInt8} : ∀ (w:List UInt8),c ∉ w→Lib.indexByte w c = -1
 | [],_=>rfl
 | b::w,h=>by
  have hb : ¬ (b == c)=true:=fun e=>h (by rw [beq_iff_eq.1 e]; exact .head _)
  have ih:=ib_none w fun e=>h (.tail _ e)
  show (if (b == c) then (0:Int) else if Lib.indexByte w c == -1 then -1 else Lib.indexByte w c+1)=_
  rw [if_neg hb,ih]; rfl
theorem cutAt (c:UInt8) : ∀ l:List UInt8,c ∉ l ∨ ∃ w r,c ∉ w∧l=w++c::r
 | [] => .inl (by simp)
 | b::l=>by
  by_cases hb:b=c
  ·exact .inr ⟨[],l,by simp,by rw [hb]; rfl⟩
  ·rcases cutAt c l with h | ⟨w,r,h1,h2⟩
   ·exact .inl (by simp only [List.mem_cons,not_or]; exact ⟨fun e=>hb e.symm,h⟩)
   ·exact .inr ⟨b::w,r,by simp only [List.mem_cons,not_or]; exact ⟨fun e=>hb e.symm,h1⟩,by rw [h2]; rfl⟩
theorem ext_data (s:ByteArray) (a b:Nat):(s.extract a b).data.toList=(s.data.toList.take b).drop a:=by
 rw [ByteArray.data_extract,Array.toList_extract]
 simp [List.extract,List.drop_take]
theorem ext_end (s:ByteArray) (a:Nat):(s.extract a s.size).data.toList=s.data.toList.drop a:=by
 rw [ext_data,List.take_of_length_le (by have:=dat_len s; omega)]
theorem prn_data (n:Int):(prnB n).data.toList=ws.prn n:=by simp [prnB]
theorem prs_back' (s:ByteArray) (h:(prsB s).2.1=0):s=prnB (prsB s).1∧in64 (prsB s).1:=by
 unfold prsB at h ⊢
 rcases ws.prs_back s.data.toList with ⟨p,hp,_⟩ | ⟨v,hv,e,h1,h2⟩
 ·rw [hp] at h; cases h
 ·rw [hv]
  exact ⟨ba_exh (by rw [prn_data]; exact e.symm),h1,h2⟩
theorem pref_cons {s:ByteArray} {c:UInt8} (h:prefB s ⟨#[c]⟩=true):s.data.toList=c::(tlS s).data.toList:=by
 unfold prefB Lib.hasPrefix at h
 have e:(tlS s).data.toList=s.data.toList.drop 1:=by unfold tlS; rw [ext_end]
 rw [e]
 cases hl:s.data.toList with
 | nil=>rw [hl] at h; simp at h
 | cons b l =>
  rw [hl] at h
  have:c=b:=by simpa using h
  rw [this]; rfl
theorem cons_back {s t:ByteArray} {c:UInt8} (h:s.data.toList=c::t.data.toList):s=⟨#[c]⟩++t:=ba_exh (by rw [h]; simp)
def okc (c:UInt8):Prop:=c≠32∧c≠10∧c≠64
def okw (s:ByteArray):Prop := ∀ c ∈ s.data.toList,okc c
instance (c:UInt8):Decidable (okc c):=by unfold okc; infer_instance
theorem seq_bh {a b:ByteArray}:(a.toList == b.toList)=true↔a=b:=by
 rw [ByteArray.toList_eq,ByteArray.toList_eq,beq_iff_eq]
 exact ⟨fun h=>ba_exh h,fun h=>by rw [h]⟩
def xK:ByteArray:=⟨#[120]⟩
def idxX (s:ByteArray):Int:=Lib.indexByte s.data.toList 120
theorem idx_le (c:UInt8) : ∀ (l:List UInt8),Lib.indexByte l c≤l.length ∧ -1≤Lib.indexByte l c∧(0≤Lib.indexByte l c→Lib.indexByte l c<l.length):=by
 intro l
 induction l with
 | nil=>exact ⟨by simp [Lib.indexByte],by simp [Lib.indexByte],by simp [Lib.indexByte]⟩
 | cons x l ih =>
  unfold Lib.indexByte
  have hl:((x::l).length:Int)=l.length+1:=by simp
  split
  ·exact ⟨by omega,by omega,by omega⟩
  ·split <;> exact ⟨by omega,by omega,by omega⟩
def cutX (s:ByteArray):ByteArray × ByteArray × Bool:=bif decide (idxX s ≥ 0) then (s.extract 0 (idxX s).toNat,s.extract ((idxX s).toNat+1) s.size,true) else (s,emB,false)
theorem ext_mk0 {s:ByteArray} {w r:List UInt8} (h:s.data.toList=w++r):s.extract 0 w.length=mkB w:=by
 apply ba_exh
 rw [ext_data,mkB_data,h,List.drop_zero,List.take_append_of_le_length (Nat.le_refl _),List.take_of_length_le (Nat.le_refl _)]
theorem cutX_at {s:ByteArray} {w r:List UInt8} (h:s.data.toList=w++120::r) (hw:120 ∉ w):cutX s=(mkB w,mkB r,true):=by
 have e:idxX s=(w.length:Int):=by unfold idxX; rw [h]; exact ib_at w r hw
 unfold cutX
 rw [e,show decide (((w.length:Nat):Int) ≥ 0)=true by simp,cond_true,Int.toNat_natCast]
 have e2:s.extract (w.length+1) s.size=mkB r:=by
  apply ba_exh
  rw [ext_end,mkB_data,h,List.drop_append]
  simp
 rw [ext_mk0 h,e2]
theorem cutX_no {s:ByteArray} (h:120 ∉ s.data.toList):cutX s=(s,emB,false):=by
 unfold cutX
 have e:idxX s = -1:=by unfold idxX; exact ib_none _ h
 rw [e]; rfl
theorem cutX_cases (s:ByteArray):((cutX s).2.2=true∧s.data.toList=(cutX s).1.data.toList++120::(cutX s).2.1.data.toList)∨((cutX s).2.2=false∧(cutX s).1=s):=by
 rcases cutAt 120 s.data.toList with h | ⟨w,r,h1,h2⟩
 ·rw [cutX_no h]; exact .inr ⟨rfl,rfl⟩
 ·rw [cutX_at h2 h1]; exact .inl ⟨rfl,by rw [mkB_data,mkB_data]; exact h2⟩
end Go.Proofs.YtbflekglkkdipaaGreatDoor.am
namespace Go.Proofs.YtbflekglkkdipaaGreatDoor.am
open Go Go.Proofs
set_option linter.all false
instance:DecidableEq Stp:=fun a b=>match a,b with
 | ⟨t,w⟩,⟨u,v⟩=>if h:t=u∧w=v then isTrue (by rw [h.1,h.2]) else isFalse (fun e=>h (by cases e; exact ⟨rfl,rfl⟩))
def lttB (k:Int):ByteArray:=bif k == 1 then ⟨#[114]⟩ else bif k == 2 then ⟨#[100]⟩ else ⟨#[]⟩
def stpOk (x:Stp):Bool:=(x.kind == 1 || x.kind == 2) && (decide (x.core ≥ 0) && decide (x.core<8))
def cntS (x:Stp):List Stp→Nat
 | []=>0
 | y::l=>if y=x then cntS x l+1 else 0
def grpS:Nat→List Stp→List (Stp × Nat)
 | 0,_=>[]
 | _+1,[]=>[]
 | f+1,x::l=>(x,cntS x l+1)::grpS f (l.drop (cntS x l))
def grps (l:List Stp):List (Stp × Nat):=grpS l.length l
def timesB (n:Nat):ByteArray:=bif decide ((n:Int) > 1) then ⟨#[120]⟩++prnB n else ⟨#[]⟩
def wordP (g:Stp × Nat):ByteArray:=(lttB g.1.kind++prnB g.1.core)++timesB g.2
def numW (s:ByteArray) (least most:Int):Int × Bool:=((prsB s).1,((prsB s).2.1 == 0) && (decide ((prsB s).1 ≥ least) && decide ((prsB s).1≤most)))
def wordK (kd:Int) (c:ByteArray):Stp × Int × Bool:=bif (cutX c).2.2 then
 (⟨kd,(numW (cutX c).1 0 7).1⟩,(numW (cutX c).2.1 2 1048576).1,(numW (cutX c).2.1 2 1048576).2 && (numW (cutX c).1 0 7).2) else (⟨kd,(numW (cutX c).1 0 7).1⟩,1,true && (numW (cutX c).1 0 7).2)
def wordR (w:ByteArray):Stp × Int × Bool:=bif prefB w ⟨#[114]⟩ then wordK 1 (tlS w) else bif prefB w ⟨#[100]⟩ then wordK 2 (tlS w) else (⟨0,0⟩,0,false)
def lastIs (out:List Stp) (x:Stp):Bool:=decide (out.getLast? = some x)
def parG:List ByteArray→List Stp→Int→List Stp × Int × Int
 | [],out,_=>(out,0,0)
 | w::ws,out,at_=>bif !(wordR w).2.2 || lastIs out (wordR w).1 then ([],errSched,at_) else bif decide ((out.length:Int)+(wordR w).2.1 > 1048576) then ([],3,0) else parG ws (out++List.replicate (wordR w).2.1.toNat (wordR w).1) (at_+w.size+1)
def parT (s:ByteArray):List Stp × Int × Int:=bif s.toList == emB.toList then ([],0,0) else parG (splitBl s) [] 0
def prtT (l:List Stp):ByteArray × Int:=bif decide ((l.length:Int) > 1048576) then (⟨#[]⟩,3) else bif l.all stpOk then (joinB ((grps l).map wordP),0) else (⟨#[]⟩,errRange)
theorem cnt_spec (x:Stp) : ∀ l:List Stp,l=List.replicate (cntS x l) x++l.drop (cntS x l)∧(l.drop (cntS x l)).head? ≠ some x
 | []=>⟨rfl,by simp [cntS]⟩
 | y::l=>by
  unfold cntS
  by_cases h:y=x
  ·rw [if_pos h]
   obtain ⟨h1,h2⟩:=cnt_spec x l
   refine ⟨?_,h2⟩
   rw [h,List.replicate_succ,List.cons_append,List.drop_succ_cons,← h1]
  ·rw [if_neg h]
   exact ⟨rfl,by simp [h]⟩
theorem num_backW {s:ByteArray} {least most:Int} (h:(numW s least most).2=true):s=prnB (numW s least most).1∧least≤(numW s least most).1∧(numW s least most).1≤most:=by
 unfold numW at h ⊢
 simp only [Bool.and_eq_true,beq_iff_eq,decide_eq_true_eq] at h
 exact ⟨(prs_back' s h.1).1,h.2.1,h.2.2⟩
theorem let_word {x:Stp} {n:Nat} (c:UInt8) (h:lttB x.kind=⟨#[c]⟩):wordP (x,n)=⟨#[c]⟩++(prnB x.core++timesB n):=by
 unfold wordP
 rw [h]
 exact ba_exh (by simp)
theorem wordK_back {kd:Int} {c:ByteArray} (h:(wordK kd c).2.2=true) : ∃ n:Nat,(wordK kd c).2.1=n∧1≤n∧n≤1048576∧(wordK kd c).1.kind=kd∧0≤(wordK kd c).1.core∧(wordK kd c).1.core<8∧c=prnB (wordK kd c).1.core++timesB n:=by
 have hcx:=cutX_cases c
 unfold wordK at h ⊢
 rcases hcx with ⟨h1,h2⟩ | ⟨h1,h2⟩
 ·rw [h1] at h ⊢
  rw [cond_true] at h ⊢
  simp only [Bool.and_eq_true] at h
  obtain ⟨a1,a2,a3⟩:=num_backW h.1
  obtain ⟨b1,b2,b3⟩:=num_backW h.2
  refine ⟨(numW (cutX c).2.1 2 1048576).1.toNat,by show (numW (cutX c).2.1 2 1048576).1=_; omega,by omega,by omega,rfl,b2,by show (numW (cutX c).1 0 7).1<8; omega,?_⟩
  show c=prnB (numW (cutX c).1 0 7).1++timesB (numW (cutX c).2.1 2 1048576).1.toNat
  unfold timesB
  rw [show (((numW (cutX c).2.1 2 1048576).1.toNat:Nat):Int)=(numW (cutX c).2.1 2 1048576).1 by omega,decide_eq_true (show (numW (cutX c).2.1 2 1048576).1 > 1 by omega),cond_true,← b1,← a1]
  exact ba_exh (by rw [h2]; simp)
 ·rw [h1] at h ⊢
  rw [cond_false] at h ⊢
  simp only [Bool.true_and] at h
  obtain ⟨b1,b2,b3⟩:=num_backW h
  refine ⟨1,rfl,Nat.le_refl _,by decide,rfl,b2,by show (numW (cutX c).1 0 7).1<8; omega,?_⟩
  show c=prnB (numW (cutX c).1 0 7).1++⟨#[]⟩
  rw [← b1,h2]
  exact ba_exh (by simp)
theorem word_backR {w:ByteArray} (h:(wordR w).2.2=true) : ∃ n:Nat,(wordR w).2.1=n∧1≤n∧n≤1048576∧stpOk (wordR w).1=true∧w=wordP ((wordR w).1,n):=by
 unfold wordR at h ⊢
 have fin : ∀ (kd:Int) (c:UInt8),(kd=1∨kd=2)→lttB kd=⟨#[c]⟩→prefB w ⟨#[c]⟩=true→(wordK kd (tlS w)).2.2=true → ∃ n:Nat,(wordK kd (tlS w)).2.1=n∧1≤n∧n≤1048576∧stpOk (wordK kd (tlS w)).1=true∧w=wordP ((wordK kd (tlS w)).1,n):=fun kd c hk hl hp hq=>by
  obtain ⟨n,h1,h2,h3,h4,h5,h6,h7⟩:=wordK_back hq
  refine ⟨n,h1,h2,h3,?_,?_⟩
  ·unfold stpOk
   rw [h4,decide_eq_true h5,decide_eq_true h6]
   rcases hk with rfl | rfl <;> rfl
  ·rw [let_word c (by rw [h4]; exact hl),← h7]
   exact cons_back (pref_cons hp)
 cases h1:prefB w ⟨#[114]⟩ with
 | true =>
  rw [h1,cond_true] at h
  exact fin 1 114 (.inl rfl) rfl h1 h
 | false =>
  rw [h1,cond_false] at h
  cases h2:prefB w ⟨#[100]⟩ with
  | true =>
   rw [h2,cond_true] at h
   exact fin 2 100 (.inr rfl) rfl h2 h
  | false=>rw [h2] at h; cases h
end Go.Proofs.YtbflekglkkdipaaGreatDoor.am
namespace Go.Proofs.YtbflekglkkdipaaGreatDoor.am
open Go Go.Proofs Go.RowKit
set_option linter.all false
abbrev stV (l:List Stp):Blk := .vec 34 2 16 (l.map Stp.cells)
theorem s_letter (k:Int):K 25 [.tr (tu k)] [] (.ret (.tr (ts (lttB k)))) []:=by
 generalize hB:lttB k=B
 unfold lttB at hB
 refine Ctr.of hT hmix Tryz.func25 rfl (fun _ _=>by kernel_rfl) rfl fun hok => ?_
 clear hok
 conv=>whnf
 refine csplit (fun h1 => ?_) (fun h1 => ?_)
 ·replace h1:(k == 1)=true:=h1
  rw [h1] at hB
  conv=>whnf
  exact ⟨.inl (congrArg ts hB),trivial⟩
 replace h1:(k == 1)=false:=h1
 rw [h1] at hB
 conv=>whnf
 refine csplit (fun h2 => ?_) (fun h2 => ?_)
 ·replace h2:(k == 2)=true:=h2
  rw [h2] at hB
  conv=>whnf
  exact ⟨.inl (congrArg ts hB),trivial⟩
 replace h2:(k == 2)=false:=h2
 rw [h2] at hB
 conv=>whnf
 exact ⟨.inl (congrArg ts hB),trivial⟩
theorem s_index (s:ByteArray):K 104 [.tr (ts s),.tr (ts xK)] [] (.ret (.tr (ti (idxX s)))) []:=by
 refine Ctr.ofCalls (fun _ _=>by kernel_rfl) fun g w vs hm hsz hv => ?_
 obtain ⟨v,u,rfl⟩:=two_arg hsz
 obtain ⟨rfl,h1⟩:=val_inv (hv 0 v (.tr (ts s)) rfl rfl)
 obtain ⟨rfl,_⟩:=val_inv (hv 1 u (.tr (ts xK)) rfl rfl)
 refine (Any.stringslite_Index_one Tryz.lays219 s 120 w).mono ?_
 rintro e w' ⟨rfl,rfl⟩
 have hi:=idx_le 120 s.data.toList
 have h1:s.size≤9223372036854775807:=h1
 have hl:=dat_len s
 exact ⟨_,rfl,Below.refl _ _,fun _ _ => .tr (.v ⟨Int.le_trans (by decide) hi.2.1,Int.le_trans hi.1 (by rw [hl]; exact Int.ofNat_le.2 h1)⟩)⟩
theorem s_cut0 (s:ByteArray) (hs:s.size<4294967281):K 76 [.tr (ts s),.tr (ts xK)] [] (.ret (.tup [.tr (ts (cutX s).1),.tr (ts (cutX s).2.1),.tr (tb (cutX s).2.2)])) []:=by
 have h1:=s_index s
 have hi:=idx_le 120 s.data.toList
 have hl:=dat_len s
 unfold cutX
 rw [show Lib.indexByte s.data.toList 120=idxX s from rfl,hl] at hi
 generalize idxX s=i at h1 hi
 have hw:0≤i→IntKind.i64.wrap (i+1)=i+1:=fun h=>by rw [w64 (by omega) (by omega)]
 refine Ctr.of hT hmix Tryz.func76 rfl (fun _ _=>by kernel_rfl) rfl fun hok => ?_
 clear hok
 conv=>whnf
 refine acall.pure _ (h1) rfl rfl fun _ => ?_
 conv=>whnf
 refine csplit (fun h => ?_) (fun h => ?_)
 ·replace h:decide (i ≥ 0)=true:=h
  have h0:0≤i:=of_decide_eq_true h
  rw [h]
  conv=>whnf
  refine ⟨Int.le_refl _,h0,(show i≤(s.size:Int) by omega),?_⟩
  conv=>whnf
  refine ⟨(show 0≤IntKind.i64.wrap (i+1) by rw [hw h0]; omega),(show IntKind.i64.wrap (i+1)≤(s.size:Int) by rw [hw h0]; omega),Int.le_refl _,?_⟩
  conv=>whnf
  refine ⟨by kernel_rfl,fun _ => ?_⟩
  conv=>whnf
  refine ⟨⟨.inl rfl,.inl (congrArg ts ?_),.inl rfl,trivial⟩,trivial⟩
  show s.extract (IntKind.i64.wrap (i+1)).toNat ((s.size:Int)).toNat=s.extract (i.toNat+1) s.size
  rw [hw h0,Int.toNat_natCast,show (i+1).toNat=i.toNat+1 by omega]
 ·replace h:decide (i ≥ 0)=false:=h
  rw [h]
  conv=>whnf
  exact ⟨⟨.inl rfl,.inl rfl,.inl rfl,trivial⟩,trivial⟩
theorem s_cut (s:ByteArray) (hs:s.size<4294967281):K 53 [.tr (ts s),.tr (ts xK)] [] (.ret (.tup [.tr (ts (cutX s).1),.tr (ts (cutX s).2.1),.tr (tb (cutX s).2.2)])) []:=by
 have h1:=s_cut0 s hs
 refine Ctr.of hT hmix Tryz.func53 rfl (fun _ _=>by kernel_rfl) rfl fun hok => ?_
 clear hok
 conv=>whnf
 refine acall.pure _ (h1) rfl rfl fun _ => ?_
 conv=>whnf
 exact ⟨⟨.inl rfl,.inl rfl,.inl rfl,trivial⟩,trivial⟩
theorem s_number (s:ByteArray) (least most:Int):K 54 [.tr (ts s),.tr (ti least),.tr (ti most)] [] (.ret (.tup [.tr (ti (numW s least most).1),.tr (tb (numW s least most).2)])) []:=by
 have h1:=k_parseW s
 generalize hB:numW s least most=B
 unfold numW at hB
 generalize prsB s=P at h1 hB
 obtain ⟨p,e,k⟩:=P
 simp only at h1 hB
 subst hB
 refine Ctr.of hT hmix Tryz.func54 rfl (fun _ _=>by kernel_rfl) rfl fun hok => ?_
 clear hok
 conv=>whnf
 refine acall.pure _ (h1) rfl rfl fun _ => ?_
 conv=>whnf
 (repeat' (refine csplit (fun g => ?_) (fun g => ?_) <;> conv=>whnf))
 all_goals (refine ⟨⟨.inl rfl,.inl (congrArg tb ?_),trivial⟩,trivial⟩; simp only [*,Bool.true_and,Bool.false_and,Bool.and_true,Bool.and_false] <;> rfl)
set_option maxRecDepth 100000 in
theorem s_word (w:ByteArray) (hs:w.size≤4194304):K 29 [.tr (ts w)] [] (.ret (.tup [.agg [.tr (tu (wordR w).1.kind),.tr (ti (wordR w).1.core)],.tr (ti (wordR w).2.1),.tr (tb (wordR w).2.2)])) []:=by
 have p1:=k_hasPrefix w ⟨#[114]⟩
 have p2:=k_hasPrefix w ⟨#[100]⟩
 have hc:=s_cut (tlS w) (by unfold tlS; rw [ByteArray.size_extract]; omega)
 generalize hB:wordR w=B
 unfold wordR wordK at hB
 have hp1:prefB w ⟨#[114]⟩=true→1≤w.size:=fun h=>by
  have:=congrArg List.length (pref_cons h)
  rw [dat_len,List.length_cons] at this; omega
 have hp2:prefB w ⟨#[100]⟩=true→1≤w.size:=fun h=>by
  have:=congrArg List.length (pref_cons h)
  rw [dat_len,List.length_cons] at this; omega
 generalize prefB w ⟨#[114]⟩=q1 at p1 hB hp1
 generalize prefB w ⟨#[100]⟩=q2 at p2 hB hp2
 have n1:=s_number (cutX (tlS w)).1 0 7
 have n2:=s_number (cutX (tlS w)).2.1 2 1048576
 generalize numW (cutX (tlS w)).1 0 7=N1 at n1 hB
 generalize numW (cutX (tlS w)).2.1 2 1048576=N2 at n2 hB
 generalize cutX (tlS w)=C at hc n1 n2 hB
 obtain ⟨ca,cb,cf⟩:=C
 obtain ⟨a1,a2⟩:=N1
 obtain ⟨b1,b2⟩:=N2
 simp only at hc n1 n2 hB
 refine Ctr.new [] hT hmix Tryz.func29 rfl (fun _ _=>by kernel_rfl) rfl fun hok => ?_
 clear hok
 conv=>whnf
 refine acall.pure _ (p1) rfl rfl fun _ => ?_
 conv=>whnf
 cases q1
 ·conv=>whnf
  refine acall.pure _ (p2) rfl rfl fun _ => ?_
  conv=>whnf
  cases q2
  ·subst hB
   conv=>whnf
   exact ⟨[],rfl,rfl,⟨⟨.inl rfl,.inl rfl,trivial⟩,.inl rfl,.inl rfl,trivial⟩,trivial⟩
  ·have hz:=hp2 rfl
   conv=>whnf
   refine ⟨(show (0:Int)≤1 by decide),(show (1:Int)≤(w.size:Int) by omega),Int.le_refl _,?_⟩
   conv=>whnf
   refine acall.pure _ (hc) rfl rfl fun _ => ?_
   conv=>whnf
   cases cf
   ·subst hB
    conv=>whnf
    refine acall.pure _ (n1) rfl rfl fun _ => ?_
    conv=>whnf
    cases a2
    ·exact ⟨[],rfl,rfl,⟨⟨.inl rfl,.inl rfl,trivial⟩,.inl rfl,.inl rfl,trivial⟩,trivial⟩
    ·exact ⟨[],rfl,rfl,⟨⟨.inl rfl,.inl rfl,trivial⟩,.inl rfl,.inl rfl,trivial⟩,trivial⟩
   ·subst hB
    conv=>whnf
    refine acall.pure _ (n2) rfl rfl fun _ => ?_
    conv=>whnf
    refine acall.pure _ (n1) rfl rfl fun _ => ?_
    conv=>whnf
    cases b2
    ·conv=>whnf
     exact ⟨[],rfl,rfl,⟨⟨.inl rfl,.inl rfl,trivial⟩,.inl rfl,.inl rfl,trivial⟩,trivial⟩
    ·conv=>whnf
     exact ⟨[],rfl,rfl,⟨⟨.inl rfl,.inl rfl,trivial⟩,.inl rfl,.inl rfl,trivial⟩,trivial⟩
 ·have hz:=hp1 rfl
  conv=>whnf
  refine ⟨(show (0:Int)≤1 by decide),(show (1:Int)≤(w.size:Int) by omega),Int.le_refl _,?_⟩
  conv=>whnf
  refine acall.pure _ (hc) rfl rfl fun _ => ?_
  conv=>whnf
  cases cf
  ·subst hB
   conv=>whnf
   refine acall.pure _ (n1) rfl rfl fun _ => ?_
   conv=>whnf
   cases a2
   ·exact ⟨[],rfl,rfl,⟨⟨.inl rfl,.inl rfl,trivial⟩,.inl rfl,.inl rfl,trivial⟩,trivial⟩
   ·exact ⟨[],rfl,rfl,⟨⟨.inl rfl,.inl rfl,trivial⟩,.inl rfl,.inl rfl,trivial⟩,trivial⟩
  ·subst hB
   conv=>whnf
   refine acall.pure _ (n2) rfl rfl fun _ => ?_
   conv=>whnf
   refine acall.pure _ (n1) rfl rfl fun _ => ?_
   conv=>whnf
   cases b2
   ·conv=>whnf
    exact ⟨[],rfl,rfl,⟨⟨.inl rfl,.inl rfl,trivial⟩,.inl rfl,.inl rfl,trivial⟩,trivial⟩
   ·conv=>whnf
    exact ⟨[],rfl,rfl,⟨⟨.inl rfl,.inl rfl,trivial⟩,.inl rfl,.inl rfl,trivial⟩,trivial⟩
end Go.Proofs.YtbflekglkkdipaaGreatDoor.am
namespace Go.Proofs.YtbflekglkkdipaaGreatDoor.am
open Go Go.Proofs
set_option linter.all false
abbrev pacT (l:List Pac):Tr := .lst 2 16 (l.map Pac.cells)
theorem pac_get {l:List Pac} {i:Nat} {row:List Tr} (h:(l.map Pac.cells)[i]? = some row) : ∃ d,l[i]? = some d∧row=d.cells:=by
 rw [List.getElem?_map,Option.map_eq_some_iff] at h
 obtain ⟨d,h1,rfl⟩:=h
 exact ⟨d,h1,rfl⟩
theorem cst_get {l:List Cst} {i:Nat} {row:List Tr} (h:(l.map Cst.row)[i]? = some row) : ∃ d,l[i]? = some d∧row=d.row:=by
 rw [List.getElem?_map,Option.map_eq_some_iff] at h
 obtain ⟨d,h1,rfl⟩:=h
 exact ⟨d,h1,rfl⟩
def idxP {α:Type} (p:α→Bool):List α→Nat→Int
 | [],_ => -1
 | x::l,i=>bif p x then i else idxP p l (i+1)
theorem idxP_drop {α:Type} {p:α→Bool} {l:List α} {i:Nat} {x:α} (h:l[i]? = some x):idxP p (l.drop i) i=bif p x then (i:Int) else idxP p (l.drop (i+1)) (i+1):=by
 have hlt:=(List.getElem?_eq_some_iff.1 h).1
 rw [List.drop_eq_getElem_cons hlt,(List.getElem?_eq_some_iff.1 h).2]
 rfl
theorem idxP_any {α:Type} (p:α→Bool) : ∀ (l:List α) (i:Nat),decide (idxP p l i ≥ 0)=l.any p
 | [],_=>rfl
 | x::l,i=>by
  unfold idxP
  rw [List.any_cons]
  cases p x with
  | true=>rw [cond_true,Bool.true_or]; exact decide_eq_true (Int.natCast_nonneg i)
  | false=>rw [cond_false,Bool.false_or]; exact idxP_any p l (i+1)
theorem idxP_find {α:Type} (p:α→Bool) : ∀ (l:List α) (i:Nat),(idxP p l i = -1∧l.find? p=none) ∨ ∃ k x,idxP p l i=((i+k:Nat):Int)∧l[k]? = some x∧l.find? p=some x
 | [],_ => .inl ⟨rfl,rfl⟩
 | x::l,i=>by
  unfold idxP
  rw [List.find?_cons]
  cases p x with
  | true=>exact .inr ⟨0,x,rfl,rfl,rfl⟩
  | false =>
   rcases idxP_find p l (i+1) with ⟨h1,h2⟩ | ⟨k,y,h1,h2,h3⟩
   ·exact .inl ⟨h1,h2⟩
   ·exact .inr ⟨k+1,y,by rw [cond_false,h1,show i+1+k=i+(k+1) by omega],h2,h3⟩
theorem s_wrong (p:Pac):K 19 [.agg [.tr (ti p.step),.tr (ti p.lag)]] [] (.ret (.tr (tb (!pacOk p)))) []:=by
 obtain ⟨a,b⟩:=p
 have hB:(!pacOk ⟨a,b⟩)=(decide (a<1) || (decide (a > 65536) || (decide (b<0) || decide (b > 65536)))):=by
  unfold pacOk
  have e1:decide (a ≥ 1) = !decide (a<1):=by rw [← decide_not]; exact decide_eq_decide.2 ⟨by omega,by omega⟩
  have e2:decide (a≤65536) = !decide (a > 65536):=by rw [← decide_not]; exact decide_eq_decide.2 ⟨by omega,by omega⟩
  have e3:decide (b ≥ 0) = !decide (b<0):=by rw [← decide_not]; exact decide_eq_decide.2 ⟨by omega,by omega⟩
  have e4:decide (b≤65536) = !decide (b > 65536):=by rw [← decide_not]; exact decide_eq_decide.2 ⟨by omega,by omega⟩
  show (!(decide (a ≥ 1) && (decide (a≤65536) && (decide (b ≥ 0) && decide (b≤65536)))))=_
  rw [e1,e2,e3,e4]
  simp only [Bool.not_and,Bool.not_not]
 rw [hB]
 refine Ctr.of hT hmix Tryz.func19 rfl (fun _ _=>by kernel_rfl) rfl fun hok => ?_
 clear hok hB
 conv=>whnf
 (repeat' (refine csplit (fun g => ?_) (fun g => ?_) <;> conv=>whnf))
 all_goals (refine ⟨.inl (congrArg tb ?_),trivial⟩; simp only [*,Bool.true_or,Bool.or_true,Bool.false_or,Bool.or_false])
set_option maxRecDepth 100000 in
theorem s_idxPac (l:List Pac):K 42 [.tr (pacT l),.fn 19 []] [] (.ret (.tr (ti (idxP (fun p:Pac => !pacOk p) l 0)))) []:=by
 generalize hR:idxP (fun p:Pac => !pacOk p) l 0=R
 refine Ctr.of hT hmix Tryz.func42 rfl (fun _ _=>by kernel_rfl) rfl fun hok => ?_
 obtain ⟨_,hl63,_⟩:=(hok.slot 0 rfl).tr.lst
 clear hok
 have hlm:(l.map Pac.cells).length=l.length:=List.length_map ..
 rw [hlm] at hl63
 conv=>whnf
 refine LoopL.by (fun i:Nat=>⟨[(0,.tr (pacT l)),(1,.fn 19 []),(7,.tr (ti (l.length:Int))),(8,.tr (ti i))],[],10⟩) (fun i=>i≤l.length∧idxP (fun p:Pac => !pacOk p) (l.drop i) i=R) (fun i=>l.length - i) 0 [] [] (Sub.mk' rfl ⟨.inl rfl,⟨rfl,trivial⟩,.inl (by rw [← hlm]),.inl rfl,trivial⟩ trivial rfl rfl) ⟨Nat.zero_le _,hR⟩ ?_
 rintro i ⟨hi,hS⟩ -
 conv=>whnf
 refine csplit (fun hlt => ?_) (fun hge => ?_)
 ·have hlt:i<l.length:=by have:=of_decide_eq_true hlt; omega
  obtain ⟨d,hd⟩ : ∃ d,l[i]? = some d:=⟨l[i],by simp [hlt]⟩
  rw [idxP_drop hd] at hS
  have hct:=s_wrong d
  replace hS:(bif (!pacOk d) then (i:Int) else idxP (fun p:Pac => !pacOk p) (l.drop (i+1)) (i+1))=R:=hS
  generalize (!pacOk d)=b at hct hS
  conv=>whnf
  refine ⟨rfl,(show (0:Int)≤i by omega),(show (i:Int)<(l.map Pac.cells).length by rw [hlm]; omega),fun row hr => ?_⟩
  obtain ⟨d',hd',rfl⟩:=pac_get hr
  obtain rfl:d=d':=Option.some.inj (hd.symm.trans hd')
  clear hr hd'
  obtain ⟨xs,xl⟩:=d
  conv=>whnf
  refine acall.pure _ (hct) rfl rfl fun _ => ?_
  conv=>whnf
  cases b
  ·have hS:idxP (fun p:Pac => !pacOk p) (l.drop (i+1)) (i+1)=R:=hS
   conv=>whnf
   exact ⟨i+1,[],[],Sub.mk' rfl ⟨.inl rfl,⟨rfl,trivial⟩,.inl rfl,.inl (ti_succ hlt hl63),trivial⟩ trivial rfl rfl,⟨hlt,hS⟩,by omega⟩
  ·have hS:(i:Int)=R:=hS
   conv=>whnf
   exact ⟨.inl (congrArg ti hS),trivial⟩
 ·have hge:i=l.length:=by have:=of_decide_eq_false hge; omega
  subst hge
  rw [List.drop_length] at hS
  have hS : -1=R:=hS
  conv=>whnf
  refine ⟨fun _ => ?_,fun h=>absurd rfl h⟩
  conv=>whnf
  exact ⟨.inl (congrArg ti hS),trivial⟩
theorem s_conPac (l:List Pac):K 20 [.tr (pacT l),.fn 19 []] [] (.ret (.tr (tb (l.any fun p => !pacOk p)))) []:=by
 have h1:=s_idxPac l
 have h2:=idxP_any (fun p:Pac => !pacOk p) l 0
 generalize idxP (fun p:Pac => !pacOk p) l 0=R at h1 h2
 refine Ctr.of hT hmix Tryz.func20 rfl (fun _ _=>by kernel_rfl) rfl fun hok => ?_
 clear hok
 conv=>whnf
 refine acall.au [] [] h1 ?_
 intro _
 conv=>whnf
 exact ⟨.inl (congrArg tb h2),trivial⟩
set_option maxRecDepth 100000 in
theorem s_idxCst (l:List Cst) (h16 : ∀ c ∈ l,c.regs.length=16):K 78 [.tr (csT l),.fn 58 []] [] (.ret (.tr (ti (idxP (fun c:Cst=>runsB c) l 0)))) []:=by
 generalize hR:idxP (fun c:Cst=>runsB c) l 0=R
 refine Ctr.of hT hmix Tryz.func78 rfl (fun _ _=>by kernel_rfl) rfl fun hok => ?_
 obtain ⟨_,hl63,_⟩:=(hok.slot 0 rfl).tr.lst
 clear hok
 have hlm:(l.map Cst.row).length=l.length:=List.length_map ..
 rw [hlm] at hl63
 conv=>whnf
 refine LoopL.by (fun i:Nat=>⟨[(0,.tr (csT l)),(1,.fn 58 []),(7,.tr (ti (l.length:Int))),(8,.tr (ti i))],[],10⟩) (fun i=>i≤l.length∧idxP (fun c:Cst=>runsB c) (l.drop i) i=R) (fun i=>l.length - i) 0 [] [] (Sub.mk' rfl ⟨.inl rfl,⟨rfl,trivial⟩,.inl (by rw [← hlm]),.inl rfl,trivial⟩ trivial rfl rfl) ⟨Nat.zero_le _,hR⟩ ?_
 rintro i ⟨hi,hS⟩ -
 conv=>whnf
 refine csplit (fun hlt => ?_) (fun hge => ?_)
 ·have hlt:i<l.length:=by have:=of_decide_eq_true hlt; omega
  obtain ⟨d,hd⟩ : ∃ d,l[i]? = some d:=⟨l[i],by simp [hlt]⟩
  rw [idxP_drop hd] at hS
  have hct:=s_ended1 d (h16 d (List.mem_of_getElem? hd))
  replace hS:(bif runsB d then (i:Int) else idxP (fun c:Cst=>runsB c) (l.drop (i+1)) (i+1))=R:=hS
  generalize runsB d=b at hct hS
  conv=>whnf
  refine ⟨rfl,(show (0:Int)≤i by omega),(show (i:Int)<(l.map Cst.row).length by rw [hlm]; omega),fun row hr => ?_⟩
  obtain ⟨d',hd',rfl⟩:=cst_get hr
  obtain rfl:d=d':=Option.some.inj (hd.symm.trans hd')
  clear hr hd'
  have h16d:=h16 d (List.mem_of_getElem? hd)
  obtain ⟨ca,ch,cr,cb⟩:=d
  simp only at h16d
  obtain ⟨r0,r1,r2,r3,r4,r5,r6,r7,r8,r9,r10,r11,r12,r13,r14,r15,rfl⟩:=regs16 h16d
  conv=>whnf
  refine acall.pure _ (hct) rfl rfl fun _ => ?_
  conv=>whnf
  cases b
  ·have hS:idxP (fun c:Cst=>runsB c) (l.drop (i+1)) (i+1)=R:=hS
   conv=>whnf
   exact ⟨i+1,[],[],Sub.mk' rfl ⟨.inl rfl,⟨rfl,trivial⟩,.inl rfl,.inl (ti_succ hlt hl63),trivial⟩ trivial rfl rfl,⟨hlt,hS⟩,by omega⟩
  ·have hS:(i:Int)=R:=hS
   conv=>whnf
   exact ⟨.inl (congrArg ti hS),trivial⟩
 ·have hge:i=l.length:=by have:=of_decide_eq_false hge; omega
  subst hge
  rw [List.drop_length] at hS
  have hS : -1=R:=hS
  conv=>whnf
  refine ⟨fun _ => ?_,fun h=>absurd rfl h⟩
  conv=>whnf
  exact ⟨.inl (congrArg ti hS),trivial⟩
theorem s_conCst (l:List Cst) (h16 : ∀ c ∈ l,c.regs.length=16):K 57 [.tr (csT l),.fn 58 []] [] (.ret (.tr (tb (l.any fun c=>runsB c)))) []:=by
 have h1:=s_idxCst l h16
 have h2:=idxP_any (fun c:Cst=>runsB c) l 0
 generalize idxP (fun c:Cst=>runsB c) l 0=R at h1 h2
 refine Ctr.of hT hmix Tryz.func57 rfl (fun _ _=>by kernel_rfl) rfl fun hok => ?_
 clear hok
 conv=>whnf
 refine acall.au [] [] h1 ?_
 intro _
 conv=>whnf
 exact ⟨.inl (congrArg tb h2),trivial⟩
end Go.Proofs.YtbflekglkkdipaaGreatDoor.am
namespace Go.Proofs.YtbflekglkkdipaaGreatDoor.am
open Go Go.Proofs
set_option linter.all false
theorem acall.sn1 {P:Program} {m:Mem} {nh f h n:Nat} {xs:List AV} {K:EE} (ars:List AV) (res:AE) (hc:Ctr P f ars [] res [])
  (h5:cvL m [] [] (seenS [] [h]) (.sl h n::xs) ars) (h7:(m h).isSome=true) (h8:res.lowH 0=true)
  (hK:K (res.out []) (rdOf m [h]) (callUp [] [h] res [])):acall P m nh f (.sl h n::xs) K :=
 acall.gen [] [h] ars [] res [] hc rfl rfl rfl rfl h5 trivial (by simp [h7]) h8 hK
theorem cnt_lt {x:Stp} {r:List Stp} {c:Nat} (hc:c≤cntS x r):(c<cntS x r∧r[c]? = some x)∨(c=cntS x r∧r[c]? ≠ some x):=by
 obtain ⟨h1,h2⟩:=cnt_spec x r
 by_cases h:c<cntS x r
 ·refine .inl ⟨h,?_⟩
  rw [h1,List.getElem?_append_left (by rw [List.length_replicate]; exact h),List.getElem?_replicate,if_pos h]
 ·have e:c=cntS x r:=by omega
  refine .inr ⟨e,?_⟩
  rw [List.head?_drop] at h2
  rw [e]
  exact h2
theorem cnt_le (x:Stp) (r:List Stp):cntS x r≤r.length:=by
 have h:=congrArg List.length (cnt_spec x r).1
 rw [List.length_append,List.length_replicate] at h
 omega
theorem grpS_fuel : ∀ (f g:Nat) (l:List Stp),l.length≤f→l.length≤g→grpS f l=grpS g l
 | 0,g,l,h,_=>by
  obtain rfl:l=[]:=List.eq_nil_of_length_eq_zero (by omega)
  cases g <;> rfl
 | f+1,0,l,_,h=>by
  obtain rfl:l=[]:=List.eq_nil_of_length_eq_zero (by omega)
  rfl
 | f+1,g+1,[],_,_=>rfl
 | f+1,g+1,x::l,h1,h2=>by
  show (x,cntS x l+1)::grpS f _=(x,cntS x l+1)::grpS g _
  rw [grpS_fuel f g _ (by rw [List.length_drop]; simp only [List.length_cons] at h1; omega) (by rw [List.length_drop]; simp only [List.length_cons] at h2; omega)]
theorem grps_at {l:List Stp} {i:Nat} {x:Stp} (h:l[i]? = some x):grps (l.drop i)=(x,cntS x (l.drop (i+1))+1)::grps (l.drop (i+(cntS x (l.drop (i+1))+1))):=by
 have hlt:=(List.getElem?_eq_some_iff.1 h).1
 have e:l.drop i=x::l.drop (i+1):=by rw [List.drop_eq_getElem_cons hlt,(List.getElem?_eq_some_iff.1 h).2]
 rw [e]
 show (x,cntS x (l.drop (i+1))+1)::grpS (l.drop (i+1)).length _=_
 rw [List.drop_drop,show i+1+cntS x (l.drop (i+1))=i+(cntS x (l.drop (i+1))+1) by omega]
 congr 1
 exact grpS_fuel _ _ _ (by rw [List.length_drop,List.length_drop]; omega) (Nat.le_refl _)
theorem joinL_le {l:List ByteArray} {m:Nat} (h : ∀ x ∈ l,x.size≤m):(joinL l).length≤l.length*(m+1):=by
 induction l with
 | nil=>simp [joinL,Lib.join]
 | cons a r ih =>
  have ha:=h a (.head _)
  have hr:=ih (fun x hx=>h x (.tail _ hx))
  have hd:a.data.toList.length=a.size:=by simp
  cases r with
  | nil=>simp [joinL,Lib.join]; omega
  | cons b r' =>
   have e:joinL (a::b::r')=a.data.toList++([32]++joinL (b::r')):=by simp [joinL,Lib.join]
   rw [e]
   simp only [List.length_append,List.length_cons,List.length_nil] at hr ⊢
   rw [Nat.succ_mul]
   omega
theorem ltt_size (k:Int):(lttB k).size≤1:=by
 unfold lttB
 cases (k == 1)
 ·cases (k == 2)
  ·exact Nat.zero_le _
  ·exact Nat.le_refl _
 ·exact Nat.le_refl _
theorem stp_rng {d:Stp} (h : ∀ t ∈ d.cells,TOkT t) : -9223372036854775808≤d.core∧d.core≤9223372036854775807:=(h (ti d.core) (by simp [Stp.cells])).i64
theorem ltt_empty (k:Int):((lttB k).toList == (⟨#[]⟩:ByteArray).toList) = !(k == 1 || k == 2):=by
 unfold lttB
 cases (k == 1)
 ·cases (k == 2)
  ·exact seq_bh.2 rfl
  ·show ((⟨#[100]⟩:ByteArray).toList == (⟨#[]⟩:ByteArray).toList)=false
   simp only [ByteArray.toList_eq]; rfl
 ·show ((⟨#[114]⟩:ByteArray).toList == (⟨#[]⟩:ByteArray).toList)=false
  simp only [ByteArray.toList_eq]; rfl
set_option maxRecDepth 100000 in
set_option maxHeartbeats 4000000 in
theorem s_print (l:List Stp):K 9 [.tr (stepsT l)] [] (.ret (.tup [.tr (ts (prtT l).1),.tr (ti (prtT l).2)])) []:=by
 generalize hP:prtT l=P
 unfold prtT at hP
 refine Ctr.of hT hmix Tryz.func9 rfl (fun _ _=>by kernel_rfl) rfl fun hok => ?_
 obtain ⟨_,hl63,hrows⟩:=(hok.slot 0 rfl).tr.lst
 have hrng : ∀ d ∈ l,-9223372036854775808≤d.core∧d.core≤9223372036854775807:=fun d hd=>stp_rng (hrows d.cells (List.mem_map_of_mem hd)).2
 clear hok hrows
 have hlm:(l.map Stp.cells).length=l.length:=List.length_map ..
 rw [hlm] at hl63
 conv=>whnf
 refine csplit (fun h1 => ?_) (fun h1 => ?_)
 ·replace h1:decide (((l.map Stp.cells).length:Int) > 1048576)=true:=h1
  rw [hlm] at h1
  rw [h1] at hP
  subst hP
  conv=>whnf
  exact ⟨⟨.inl rfl,.inl rfl,trivial⟩,trivial⟩
 replace h1:decide (((l.map Stp.cells).length:Int) > 1048576)=false:=h1
 rw [hlm] at h1
 rw [h1] at hP
 have hlen:l.length≤1048576:=by have:=of_decide_eq_false h1; omega
 have hP:(bif l.all stpOk then (joinB ((grps l).map wordP),(0:Int)) else (⟨#[]⟩,errRange))=P:=hP
 conv=>whnf
 refine LoopL.by (fun i:Nat=>⟨[(0,.tr (stepsT l)),(13,.tr (stepsT l)),(14,.tr (ti (l.length:Int))),(15,.tr (ti i))],[],10⟩) (fun i=>i≤l.length∧l.all stpOk=(l.drop i).all stpOk) (fun i=>l.length - i) 0 [] [] (Sub.mk' rfl ⟨.inl rfl,.inl rfl,.inl (by rw [← hlm]),.inl rfl,trivial⟩ trivial rfl rfl) ⟨Nat.zero_le _,rfl⟩ ?_
 rintro i ⟨hi,hall⟩ -
 conv=>whnf
 refine csplit (fun hlt => ?_) (fun hge => ?_)
 ·have hlt:i<l.length:=by have:=of_decide_eq_true hlt; omega
  obtain ⟨d,hd⟩ : ∃ d,l[i]? = some d:=⟨l[i],by simp [hlt]⟩
  rw [all_drop hd] at hall
  have hsl:=s_letter d.kind
  have hem:=ltt_empty d.kind
  generalize lttB d.kind=L at hsl hem
  have hok:stpOk d=((d.kind == 1 || d.kind == 2) && (decide (d.core ≥ 0) && decide (d.core<8))):=rfl
  rw [hok] at hall
  conv=>whnf
  refine ⟨rfl,(show (0:Int)≤i by omega),(show (i:Int)<(l.map Stp.cells).length by rw [hlm]; omega),fun row hr => ?_⟩
  obtain ⟨d',hd',rfl⟩:=stp_get hr
  obtain rfl:d=d':=Option.some.inj (hd.symm.trans hd')
  clear hr hd'
  obtain ⟨dk,dc⟩:=d
  simp only at hsl hem hall
  generalize (dk == 1 || dk == 2)=kb at hem hall
  conv=>whnf
  refine acall.pure _ (hsl) rfl rfl fun _ => ?_
  conv=>whnf
  rw [hem]
  cases kb
  ·have hP:((⟨#[]⟩:ByteArray),errRange)=P:=by rw [hall] at hP; exact hP
   subst hP
   conv=>whnf
   exact ⟨⟨.inl rfl,.inl rfl,trivial⟩,trivial⟩
  ·conv=>whnf
   refine csplit (fun g1 => ?_) (fun g1 => ?_)
   ·have q:decide (dc ≥ 0)=false:=decide_eq_false (by have:dc<0:=of_decide_eq_true g1; omega)
    rw [q] at hall
    have hP:((⟨#[]⟩:ByteArray),errRange)=P:=by rw [hall] at hP; exact hP
    subst hP
    conv=>whnf
    exact ⟨⟨.inl rfl,.inl rfl,trivial⟩,trivial⟩
   ·have q:decide (dc ≥ 0)=true:=decide_eq_true (by have : ¬ dc<0:=of_decide_eq_false g1; omega)
    rw [q] at hall
    conv=>whnf
    refine csplit (fun g2 => ?_) (fun g2 => ?_)
    ·have q:decide (dc<8)=false:=decide_eq_false (by have:dc ≥ 8:=of_decide_eq_true g2; omega)
     rw [q] at hall
     have hP:((⟨#[]⟩:ByteArray),errRange)=P:=by rw [hall] at hP; exact hP
     subst hP
     conv=>whnf
     exact ⟨⟨.inl rfl,.inl rfl,trivial⟩,trivial⟩
    ·have q:decide (dc<8)=true:=decide_eq_true (by have : ¬ dc ≥ 8:=of_decide_eq_false g2; omega)
     rw [q] at hall
     conv=>whnf
     exact ⟨i+1,[],[],Sub.mk' rfl ⟨.inl rfl,.inl rfl,.inl rfl,.inl (ti_succ hlt hl63),trivial⟩ trivial rfl rfl,⟨hlt,hall⟩,by omega⟩
 ·have hge:i=l.length:=by have:=of_decide_eq_false hge; omega
  subst hge
  rw [hall,List.drop_length] at hP
  have hP:(joinB ((grps l).map wordP),(0:Int))=P:=hP
  clear hall hi
  conv=>whnf
  refine ⟨fun _ => ?_,fun h=>absurd rfl h⟩
  conv=>whnf
  generalize hW:(grps l).map wordP=bigW at hP
  refine LoopL.by (fun x:List ByteArray × Nat=>⟨[(0,.tr (stepsT l)),(6,.sl 0 x.1.length),(7,.tr (ti x.2))],[(0,.vec 9 1 16 (x.1.map srow))],10⟩) (fun x=>x.2≤l.length∧x.1.length≤x.2∧(∀ w ∈ x.1,w.size≤60)∧x.1++(grps (l.drop x.2)).map wordP=bigW) (fun x=>l.length - x.2) ([],0) [] [0]
   (Sub.mk' rfl ⟨.inl rfl,⟨rfl,rfl,rfl,rfl⟩,.inl rfl,trivial⟩ ⟨⟨rfl,_,_,_,rfl,by decide⟩,trivial⟩ rfl rfl) ⟨Nat.zero_le _,Nat.le_refl _,(fun w hw=>by cases hw),hW⟩ ?_
  rintro ⟨ws,i⟩ ⟨hi,hwl,hwz,hS⟩ -
  simp only at hi hwl hwz hS
  conv=>whnf
  refine csplit (fun hlt => ?_) (fun hge => ?_)
  ·have hlt:i<l.length:=by have:decide ((i:Int)<((l.map Stp.cells).length:Int))=true:=hlt; rw [hlm] at this; have:=of_decide_eq_true this; omega
   obtain ⟨x,hx⟩ : ∃ d,l[i]? = some d:=⟨l[i],by simp [hlt]⟩
   rw [grps_at hx] at hS
   have hcl:=cnt_le x (l.drop (i+1))
   rw [List.length_drop] at hcl
   have hxr:=hrng x (List.mem_of_getElem? hx)
   conv=>whnf
   refine LoopL.by (fun c:Nat=>⟨[(0,.tr (stepsT l)),(6,.sl 0 ws.length),(7,.tr (ti i)),(8,.tr (ti ((c+1:Nat):Int)))],[(0,.vec 9 1 16 (ws.map srow))],10⟩) (fun c=>c≤cntS x (l.drop (i+1))) (fun c=>cntS x (l.drop (i+1)) - c) 0 [0] []
    (Sub.mk' rfl ⟨.inl rfl,⟨rfl,rfl⟩,.inl rfl,.inl rfl,trivial⟩ ⟨⟨rfl,rfl,rfl,rfl⟩,trivial⟩ rfl rfl) (Nat.zero_le _) ?_
   rintro c hc -
   have hic:IntKind.i64.wrap ((i:Int)+((c+1:Nat):Int))=((i+1+c:Nat):Int):=by rw [w64 (by omega) (by omega)]; omega
   have hc1:IntKind.i64.wrap (((c+1:Nat):Int)+1)=((c+1+1:Nat):Int):=by rw [w64 (by omega) (by omega)]; omega
   have hat:(l.drop (i+1))[c]? = l[i+1+c]? := by rw [List.getElem?_drop]
   have hcs:=cnt_lt hc
   rw [hat] at hcs
   have xget : ∀ row,(l.map Stp.cells)[i]? = some row→row=x.cells:=fun row hr=>by
    obtain ⟨d',hd',rfl⟩:=stp_get hr
    rw [Option.some.inj (hx.symm.trans hd')]
   conv=>whnf
   rw [hic]
   cases hd:decide (((i+1+c:Nat):Int)<((l.map Stp.cells).length:Int)) with
   | true =>
    have hlt2:i+1+c<l.length:=by have:=of_decide_eq_true hd; rw [hlm] at this; omega
    obtain ⟨y,hy⟩ : ∃ d,l[i+1+c]? = some d:=⟨l[i+1+c],by simp [hlt2]⟩
    rw [hy] at hcs
    have yget : ∀ row,(l.map Stp.cells)[i+1+c]? = some row→row=y.cells:=fun row hr=>by
     obtain ⟨d',hd',rfl⟩:=stp_get hr
     rw [Option.some.inj (hy.symm.trans hd')]
    obtain ⟨xk,xc⟩:=x
    obtain ⟨yk,yc⟩:=y
    conv=>whnf
    rw [hic]
    refine ⟨rfl,(show (0:Int)≤((i+1+c:Nat):Int) by omega),(show ((i+1+c:Nat):Int)<(l.map Stp.cells).length by rw [hlm]; omega),fun row hr => ?_⟩
    obtain rfl:=yget row hr
    clear hr
    conv=>whnf
    refine ⟨rfl,(show (0:Int)≤i by omega),(show (i:Int)<(l.map Stp.cells).length by rw [hlm]; omega),fun row hr => ?_⟩
    obtain rfl:=xget row hr
    clear hr
    conv=>whnf
    refine ⟨by kernel_rfl,fun _ => ?_⟩
    conv=>whnf
    have hyx:((yk == xk) && ((yc == xc) && true))=true↔(⟨yk,yc⟩:Stp)=⟨xk,xc⟩:=by simp
    generalize ((yk == xk) && ((yc == xc) && true))=B at hyx ⊢
    cases B
    ·have hce:c=cntS ⟨xk,xc⟩ (l.drop (i+1)):=by
      rcases hcs with ⟨_,q⟩ | ⟨q,_⟩
      ·exact absurd (hyx.2 (Option.some.inj q)) (by decide)
      ·exact q
     clear hcs hyx yget hat
     conv=>whnf
     refine ⟨fun _ => ?_,fun h=>absurd rfl h⟩
     conv=>whnf
     have hsl:=s_letter xk
     have hi1:=k_itoa xc
     have hi2:=k_itoa ((c+1:Nat):Int)
     have z1:=ltt_size xk
     have hxr2 : -9223372036854775808≤xc∧xc≤9223372036854775807:=hxr
     have z2:=prn_len hxr2.1 hxr2.2
     have z3:=prn_len (n:=((c+1:Nat):Int)) (by omega) (by omega)
     have zx:(⟨#[120]⟩:ByteArray).size=1:=rfl
     have hW0:wordP (⟨xk,xc⟩,c+1)=(lttB xk++prnB xc)++timesB (c+1):=rfl
     have hin:IntKind.i64.wrap ((i:Int)+((c+1:Nat):Int))=((i+(c+1):Nat):Int):=by rw [w64 (by omega) (by omega)]; omega
     rw [← hce,List.map_cons] at hS
     unfold timesB at hW0
     generalize hWg:wordP (⟨xk,xc⟩,c+1)=W at hW0 hS
     have hS':(ws++[W])++(grps (l.drop (i+(c+1)))).map wordP=bigW:=by
      rw [← hS,List.append_assoc]
      rfl
     have hzW:W.size≤60:=by
      rw [hW0]
      cases decide (((c+1:Nat):Int) > 1)
      ·show ((lttB xk++prnB xc)++⟨#[]⟩).size≤60
       rw [ByteArray.size_append,ByteArray.size_append]
       show _+_+0≤60
       omega
      ·show ((lttB xk++prnB xc)++(⟨#[120]⟩++prnB ((c+1:Nat):Int))).size≤60
       rw [ByteArray.size_append,ByteArray.size_append,ByteArray.size_append]
       omega
     have hwz' : ∀ w ∈ ws++[W],w.size≤60:=fun w hw=>by
      rcases List.mem_append.1 hw with hw | hw
      ·exact hwz w hw
      ·have:w=W:=by simpa using hw
       rw [this]; exact hzW
     have hda:(ws.map srow).take ws.length++[[ts W]]=(ws++[W]).map srow:=by rw [List.take_of_length_le (by simp),List.map_append]; rfl
     clear hWg
     generalize lttB xk=B1 at hsl z1 hW0
     generalize prnB xc=B2 at hi1 z2 hW0
     generalize prnB ((c+1:Nat):Int)=B3 at hi2 z3 hW0
     refine ⟨rfl,(show (0:Int)≤i by omega),(show (i:Int)<(l.map Stp.cells).length by rw [hlm]; omega),fun row hr => ?_⟩
     obtain rfl:=xget row hr
     clear hr
     conv=>whnf
     refine acall.pure _ (hsl) rfl rfl ?_
     conv=>whnf
     refine ⟨rfl,(show (0:Int)≤i by omega),(show (i:Int)<(l.map Stp.cells).length by rw [hlm]; omega),fun row hr => ?_⟩
     obtain rfl:=xget row hr
     clear hr
     conv=>whnf
     refine acall.pure _ (hi1) rfl rfl ?_
     conv=>whnf
     refine ⟨(by omega),?_⟩
     conv=>whnf
     refine ⟨by kernel_rfl,fun _ => ?_⟩
     conv=>whnf
     cases hn1:decide (((c+1:Nat):Int) > 1) with
     | true =>
      rw [hn1] at hW0
      have hW0:W=(B1++B2)++(⟨#[120]⟩++B3):=hW0
      conv=>whnf
      refine acall.pure _ (hi2) rfl rfl fun _ => ?_
      conv=>whnf
      refine ⟨(by omega),?_⟩
      conv=>whnf
      refine ⟨(by rw [ByteArray.size_append,ByteArray.size_append]; omega),?_⟩
      rw [← hW0]
      conv=>whnf
      refine ⟨rfl,rfl,rfl,(by rw [List.length_map]; exact Nat.le_refl _),(show (ws.length+1)*16≤150000000000000 by omega),fun q hq => ?_,?_⟩
      ·cases hq with
       | head=>exact Nat.ne_of_beq_eq_false rfl
       | tail _ h=>cases h
      conv=>whnf
      exact ⟨(ws++[W],i+(c+1)),[_],[],Sub.mk' rfl ⟨.inl rfl,⟨rfl,by simp⟩,.inl (congrArg ti hin),trivial⟩ ⟨⟨rfl,rfl,rfl,hda⟩,trivial⟩ rfl rfl,⟨by show i+(c+1)≤l.length; omega,by show (ws++[W]).length≤i+(c+1); simp; omega,hwz',hS'⟩,by show l.length - (i+(c+1))<l.length - i; omega⟩
     | false =>
      rw [hn1] at hW0
      have hW0:W=B1++B2:=by rw [hW0]; exact ba_exh (by simp)
      rw [← hW0]
      conv=>whnf
      refine ⟨rfl,rfl,rfl,(by rw [List.length_map]; exact Nat.le_refl _),(show (ws.length+1)*16≤150000000000000 by omega),fun q hq => ?_,?_⟩
      ·cases hq with
       | head=>exact Nat.ne_of_beq_eq_false rfl
       | tail _ h=>cases h
      conv=>whnf
      exact ⟨(ws++[W],i+(c+1)),[_],[],Sub.mk' rfl ⟨.inl rfl,⟨rfl,by simp⟩,.inl (congrArg ti hin),trivial⟩ ⟨⟨rfl,rfl,rfl,hda⟩,trivial⟩ rfl rfl,⟨by show i+(c+1)≤l.length; omega,by show (ws++[W]).length≤i+(c+1); simp; omega,hwz',hS'⟩,by show l.length - (i+(c+1))<l.length - i; omega⟩
    ·have hcl2:c<cntS ⟨xk,xc⟩ (l.drop (i+1)):=by
      rcases hcs with ⟨q,_⟩ | ⟨_,q⟩
      ·exact q
      ·exact absurd (congrArg some (hyx.1 rfl)) q
     conv=>whnf
     exact ⟨c+1,[0],[],Sub.mk' rfl ⟨.inl rfl,⟨rfl,rfl⟩,.inl rfl,.inl (congrArg ti hc1),trivial⟩ ⟨⟨rfl,rfl,rfl,rfl⟩,trivial⟩ rfl rfl,hcl2,by show cntS ⟨xk,xc⟩ (l.drop (i+1)) - (c+1)<cntS ⟨xk,xc⟩ (l.drop (i+1)) - c; omega⟩
   | false =>
    have hce:c=cntS x (l.drop (i+1)):=by
     rcases hcs with ⟨_,q⟩ | ⟨q,_⟩
     ·have:=(List.getElem?_eq_some_iff.1 q).1
      have h2:=of_decide_eq_false hd
      rw [hlm] at h2
      omega
     ·exact q
    obtain ⟨xk,xc⟩:=x
    clear hcs hat
    conv=>whnf
    refine ⟨by kernel_rfl,fun _ => ?_⟩
    conv=>whnf
    refine ⟨fun _ => ?_,fun h=>absurd rfl h⟩
    conv=>whnf
    have hsl:=s_letter xk
    have hi1:=k_itoa xc
    have hi2:=k_itoa ((c+1:Nat):Int)
    have z1:=ltt_size xk
    have hxr2 : -9223372036854775808≤xc∧xc≤9223372036854775807:=hxr
    have z2:=prn_len hxr2.1 hxr2.2
    have z3:=prn_len (n:=((c+1:Nat):Int)) (by omega) (by omega)
    have zx:(⟨#[120]⟩:ByteArray).size=1:=rfl
    have hW0:wordP (⟨xk,xc⟩,c+1)=(lttB xk++prnB xc)++timesB (c+1):=rfl
    have hin:IntKind.i64.wrap ((i:Int)+((c+1:Nat):Int))=((i+(c+1):Nat):Int):=by rw [w64 (by omega) (by omega)]; omega
    rw [← hce,List.map_cons] at hS
    unfold timesB at hW0
    generalize hWg:wordP (⟨xk,xc⟩,c+1)=W at hW0 hS
    have hS':(ws++[W])++(grps (l.drop (i+(c+1)))).map wordP=bigW:=by
     rw [← hS,List.append_assoc]
     rfl
    have hzW:W.size≤60:=by
     rw [hW0]
     cases decide (((c+1:Nat):Int) > 1)
     ·show ((lttB xk++prnB xc)++⟨#[]⟩).size≤60
      rw [ByteArray.size_append,ByteArray.size_append]
      show _+_+0≤60
      omega
     ·show ((lttB xk++prnB xc)++(⟨#[120]⟩++prnB ((c+1:Nat):Int))).size≤60
      rw [ByteArray.size_append,ByteArray.size_append,ByteArray.size_append]
      omega
    have hwz' : ∀ w ∈ ws++[W],w.size≤60:=fun w hw=>by
     rcases List.mem_append.1 hw with hw | hw
     ·exact hwz w hw
     ·have:w=W:=by simpa using hw
      rw [this]; exact hzW
    have hda:(ws.map srow).take ws.length++[[ts W]]=(ws++[W]).map srow:=by rw [List.take_of_length_le (by simp),List.map_append]; rfl
    clear hWg
    generalize lttB xk=B1 at hsl z1 hW0
    generalize prnB xc=B2 at hi1 z2 hW0
    generalize prnB ((c+1:Nat):Int)=B3 at hi2 z3 hW0
    refine ⟨rfl,(show (0:Int)≤i by omega),(show (i:Int)<(l.map Stp.cells).length by rw [hlm]; omega),fun row hr => ?_⟩
    obtain rfl:=xget row hr
    clear hr
    conv=>whnf
    refine acall.pure _ (hsl) rfl rfl ?_
    conv=>whnf
    refine ⟨rfl,(show (0:Int)≤i by omega),(show (i:Int)<(l.map Stp.cells).length by rw [hlm]; omega),fun row hr => ?_⟩
    obtain rfl:=xget row hr
    clear hr
    conv=>whnf
    refine acall.pure _ (hi1) rfl rfl ?_
    conv=>whnf
    refine ⟨(by omega),?_⟩
    conv=>whnf
    refine ⟨by kernel_rfl,fun _ => ?_⟩
    conv=>whnf
    cases hn1:decide (((c+1:Nat):Int) > 1) with
    | true =>
     rw [hn1] at hW0
     have hW0:W=(B1++B2)++(⟨#[120]⟩++B3):=hW0
     conv=>whnf
     refine acall.pure _ (hi2) rfl rfl fun _ => ?_
     conv=>whnf
     refine ⟨(by omega),?_⟩
     conv=>whnf
     refine ⟨(by rw [ByteArray.size_append,ByteArray.size_append]; omega),?_⟩
     rw [← hW0]
     conv=>whnf
     refine ⟨rfl,rfl,rfl,(by rw [List.length_map]; exact Nat.le_refl _),(show (ws.length+1)*16≤150000000000000 by omega),fun q hq => ?_,?_⟩
     ·cases hq with
      | head=>exact Nat.ne_of_beq_eq_false rfl
      | tail _ h=>cases h
     conv=>whnf
     exact ⟨(ws++[W],i+(c+1)),[_],[],Sub.mk' rfl ⟨.inl rfl,⟨rfl,by simp⟩,.inl (congrArg ti hin),trivial⟩ ⟨⟨rfl,rfl,rfl,hda⟩,trivial⟩ rfl rfl,⟨by show i+(c+1)≤l.length; omega,by show (ws++[W]).length≤i+(c+1); simp; omega,hwz',hS'⟩,by show l.length - (i+(c+1))<l.length - i; omega⟩
    | false =>
     rw [hn1] at hW0
     have hW0:W=B1++B2:=by rw [hW0]; exact ba_exh (by simp)
     rw [← hW0]
     conv=>whnf
     refine ⟨rfl,rfl,rfl,(by rw [List.length_map]; exact Nat.le_refl _),(show (ws.length+1)*16≤150000000000000 by omega),fun q hq => ?_,?_⟩
     ·cases hq with
      | head=>exact Nat.ne_of_beq_eq_false rfl
      | tail _ h=>cases h
     conv=>whnf
     exact ⟨(ws++[W],i+(c+1)),[_],[],Sub.mk' rfl ⟨.inl rfl,⟨rfl,by simp⟩,.inl (congrArg ti hin),trivial⟩ ⟨⟨rfl,rfl,rfl,hda⟩,trivial⟩ rfl rfl,⟨by show i+(c+1)≤l.length; omega,by show (ws++[W]).length≤i+(c+1); simp; omega,hwz',hS'⟩,by show l.length - (i+(c+1))<l.length - i; omega⟩
  ·have hge:i=l.length:=by have:decide ((i:Int)<((l.map Stp.cells).length:Int))=false:=hge; rw [hlm] at this; have:=of_decide_eq_false this; omega
   subst hge
   rw [List.drop_length] at hS
   have hS:ws=bigW:=(List.append_nil _).symm.trans hS
   subst hS
   subst hP
   have hj:=k_join ws (by have:=joinL_le hwz; omega)
   conv=>whnf
   refine ⟨fun _ => ?_,fun h=>absurd rfl h⟩
   conv=>whnf
   refine acall.sn1 _ _ hj ⟨⟨rfl,(by rw [List.length_map]; exact Nat.le_refl _),(by rw [List.take_of_length_le (by simp)])⟩,.inl rfl,trivial⟩ rfl rfl fun _ => ?_
   conv=>whnf
   exact ⟨⟨.inl rfl,.inl rfl,trivial⟩,trivial⟩
end Go.Proofs.YtbflekglkkdipaaGreatDoor.am
namespace Go.Proofs.YtbflekglkkdipaaGreatDoor.am
open Go Go.Proofs
set_option linter.all false
theorem ended_any (s:Mst):endedB s = !(s.cores.any fun c=>runsB c):=by
 unfold endedB
 rw [List.not_any_eq_all_not]
 congr 1
 funext c
 unfold runsB
 rw [Bool.not_or,Bool.not_not]
 congr 1
 by_cases h:c.buf.length=0
 ·rw [h]; rfl
 ·rw [show (c.buf.length == 0)=false by simpa using h,decide_eq_true (show (c.buf.length:Int) > 0 by omega)]; rfl
set_option maxRecDepth 100000 in
theorem s_ended (s:Mst) (h16 : ∀ c ∈ s.cores,c.regs.length=16):K 35 [.ptr 0 0] s.blks (.ret (.tr (tb (endedB s)))) (s.blks.map some):=by
 have h1:=s_conCst s.cores h16
 rw [ended_any]
 generalize (s.cores.any fun c=>runsB c)=b at h1 ⊢
 refine Ctr.of hT hmix Tryz.func35 rfl (fun _ _=>by kernel_rfl) rfl fun hok => ?_
 clear hok
 conv=>whnf
 refine acall.sn1 _ _ h1 ⟨⟨rfl,(by rw [List.length_map]; exact Nat.le_refl _),(by rw [List.take_of_length_le (by simp)])⟩,⟨rfl,trivial⟩,trivial⟩ rfl rfl fun _ => ?_
 conv=>whnf
 exact ⟨.inl rfl,⟨rfl,.inl rfl,.inl rfl,.inl rfl,.inl rfl,.inl rfl,⟨rfl,rfl⟩,⟨rfl,rfl⟩,⟨rfl,rfl⟩,trivial⟩,⟨rfl,rfl,rfl,rfl,.inl rfl⟩,⟨rfl,rfl,rfl,rfl⟩,⟨rfl,rfl,rfl,rfl⟩,trivial⟩
abbrev prB0 (l:List Prn):Blk := .vec 52 2 16 (l.map Prn.row)
set_option maxRecDepth 100000 in
set_option maxHeartbeats 4000000 in
theorem s_ready (s:Mst) (hV:VInv s):K 32 [.ptr 0 0] s.blks (.ret (.tr (stepsT (readyL s)))) (s.blks.map some):=by
 have hco:=s_cores s
 have hk8:s.cores.length≤8:=by rw [hV.len]; exact (check_good hV.chk).cores
 generalize hL:readyL s=L
 unfold readyL at hL
 refine Ctr.of hT hmix Tryz.func32 rfl (fun _ _=>by kernel_rfl) rfl fun hok => ?_
 clear hok
 conv=>whnf
 refine acall.au [0,1,2,3] [] hco ?_
 intro _
 conv=>whnf
 refine LoopL.by (fun x:List Stp × Nat=>⟨[(0,.ptr 0 0),(3,.sl 4 x.1.length),(7,.tr (ti s.cores.length)),(8,.tr (ti x.2))],[(0,maB s),(1,csB s.cores),(2,meB s.mem),(3,prB s.prints),(4,stV x.1)],10⟩) (fun x=>x.2≤s.cores.length∧x.1.length≤2*x.2∧x.1=(List.range x.2).flatMap (readyK s)) (fun x=>s.cores.length - x.2) ([],0) [0,1,2,3] [4]
  (Sub.mk' rfl ⟨⟨rfl,rfl⟩,⟨rfl,rfl,rfl,rfl⟩,.inl rfl,.inl rfl,trivial⟩ ⟨⟨rfl,.inl rfl,.inl rfl,.inl rfl,.inl rfl,.inl rfl,⟨rfl,rfl⟩,⟨rfl,rfl⟩,⟨rfl,rfl⟩,trivial⟩,⟨rfl,rfl,rfl,rfl,.inl rfl⟩,⟨rfl,rfl,rfl,rfl⟩,⟨rfl,rfl,rfl,rfl⟩,⟨rfl,_,_,_,rfl,by decide⟩,trivial⟩ rfl rfl) ⟨Nat.zero_le _,Nat.le_refl _,rfl⟩ ?_
 rintro ⟨out,k⟩ ⟨hk,hol,ho⟩ -
 simp only at hk hol ho
 conv=>whnf
 refine csplit (fun hlt => ?_) (fun hge => ?_)
 ·have hlt:k<s.cores.length:=by have:decide ((k:Int)<(s.cores.length:Int))=true:=hlt; have:=of_decide_eq_true this; omega
  obtain ⟨c,hc⟩ : ∃ c,s.cores[k]? = some c:=⟨_,List.getElem?_eq_getElem hlt⟩
  obtain ⟨r,hr⟩:=hV.cor hc
  obtain ⟨i,e,hi,hR⟩:=hV.ins hc hr
  have hI:=hV.core k c r hc hr
  have h16:=hI.regs
  have hcl:=core_lt hc
  have hnx:=k_nextN s k hc h16 hr hI.at0 hi
  have hst:=k_stallsN s k i hc h16
  have hrk:readyK s k=(bif !c.halted && !(stallB s c i) then [⟨1,k⟩] else [])++(bif decide ((c.buf.length:Int) > 0) then [⟨2,k⟩] else []):=by
   unfold readyK waitB
   simp only [hc,e]
  have hon:out++readyK s k=(List.range (k+1)).flatMap (readyK s):=by rw [List.range_succ,List.flatMap_append,← ho]; simp
  rw [hrk] at hon
  generalize stallB s c i=st at hst hon
  clear hrk
  obtain ⟨kind,op,D,a,b,addr,to_,word,from_⟩:=i
  conv=>whnf
  refine acall.au [0,1,2,3] [] hnx ?_
  intro _
  conv=>whnf
  refine ⟨rfl,hcl,fun row hrow => ?_⟩
  obtain rfl:=row_of hc hrow
  clear hrow
  refine ⟨by rw [row_len h16]; show 0+1<19; decide,fun t ht => ?_⟩
  obtain rfl:t=tb c.halted:=(Option.some.inj ht).symm
  clear ht
  generalize hch:c.halted=ch at hon
  have hbl:((c.buf.map Sto.row).length:Int)=(c.buf.length:Int):=by rw [List.length_map]
  cases ch
  ·conv=>whnf
   refine acall.au [0,1,2,3] [] hst ?_
   intro _
   cases st
   ·conv=>whnf
    refine ⟨rfl,rfl,rfl,(by rw [List.length_map]; exact Nat.le_refl _),(show (out.length+1)*16≤150000000000000 by omega),fun q hq => ?_,?_⟩
    ·cases hq with
     | head=>exact Nat.ne_of_beq_eq_false rfl
     | tail _ h=>cases h
    conv=>whnf
    refine ⟨rfl,hcl,fun row hrow => ?_⟩
    obtain rfl:=row_of hc hrow
    clear hrow
    refine ⟨by rw [row_len h16]; show 0+18<19; decide,fun t ht => ?_⟩
    obtain rfl:=row_buf h16 ht
    clear ht
    conv=>whnf
    refine ⟨by decide,?_⟩
    conv=>whnf
    cases hb:decide (((c.buf.map Sto.row).length:Int) > 0) with
    | true =>
     rw [hbl] at hb
     rw [hb] at hon
     conv=>whnf
     refine ⟨rfl,rfl,rfl,(by simp),(by simp; omega),fun q hq => ?_,?_⟩
     ·cases hq with
      | head=>exact Nat.ne_of_beq_eq_false rfl
      | tail _ h=>cases h
     conv=>whnf
     refine ⟨((out++[Stp.mk 1 k])++[Stp.mk 2 k],k+1),[0,1,2,3,46],[],Sub.pk [1] ?_,⟨hlt,by simp; omega,by rw [← hon]; simp⟩,by show s.cores.length - (k+1)<s.cores.length - k; omega⟩
     conv=>whnf
     refine ⟨rfl,rfl,Nat.le_refl _,?_⟩
     refine Sub0.mk' rfl ⟨⟨rfl,rfl⟩,⟨rfl,by simp⟩,.inl rfl,.inl (ti_succ hlt (by omega)),trivial⟩ ⟨⟨rfl,.inl rfl,.inl rfl,.inl rfl,.inl rfl,.inl rfl,⟨rfl,rfl⟩,⟨rfl,rfl⟩,⟨rfl,rfl⟩,trivial⟩,⟨rfl,rfl,rfl,rfl,.inl ?_⟩,⟨rfl,rfl,rfl,rfl⟩,⟨rfl,rfl,rfl,rfl⟩,⟨rfl,rfl,rfl,(by rw [List.take_of_length_le (by simp)]; simp [Stp.cells]; exact List.take_of_length_le (by simp))⟩,trivial⟩ rfl rfl
     show setC (s.cores.map Cst.row) k 18 (.lst 3 24 ((c.buf.map Sto.row).take (c.buf.map Sto.row).length))=s.cores.map Cst.row
     rw [List.take_of_length_le (by simp)]
     exact setC_buf hc h16
    | false =>
     rw [hbl] at hb
     rw [hb] at hon
     conv=>whnf
     refine ⟨((out++[Stp.mk 1 k]),k+1),[0,1,2,3,33],[],Sub.pk [1] ?_,⟨hlt,by simp; omega,by rw [← hon]; simp⟩,by show s.cores.length - (k+1)<s.cores.length - k; omega⟩
     conv=>whnf
     refine ⟨rfl,rfl,Nat.le_refl _,?_⟩
     refine Sub0.mk' rfl ⟨⟨rfl,rfl⟩,⟨rfl,by simp⟩,.inl rfl,.inl (ti_succ hlt (by omega)),trivial⟩ ⟨⟨rfl,.inl rfl,.inl rfl,.inl rfl,.inl rfl,.inl rfl,⟨rfl,rfl⟩,⟨rfl,rfl⟩,⟨rfl,rfl⟩,trivial⟩,⟨rfl,rfl,rfl,rfl,.inl ?_⟩,⟨rfl,rfl,rfl,rfl⟩,⟨rfl,rfl,rfl,rfl⟩,⟨rfl,rfl,rfl,(by simp [Stp.cells]; exact List.take_of_length_le (by simp))⟩,trivial⟩ rfl rfl
     show setC (s.cores.map Cst.row) k 18 (.lst 3 24 ((c.buf.map Sto.row).take (c.buf.map Sto.row).length))=s.cores.map Cst.row
     rw [List.take_of_length_le (by simp)]
     exact setC_buf hc h16
   ·conv=>whnf
    refine ⟨rfl,hcl,fun row hrow => ?_⟩
    obtain rfl:=row_of hc hrow
    clear hrow
    refine ⟨by rw [row_len h16]; show 0+18<19; decide,fun t ht => ?_⟩
    obtain rfl:=row_buf h16 ht
    clear ht
    conv=>whnf
    refine ⟨by decide,?_⟩
    conv=>whnf
    cases hb:decide (((c.buf.map Sto.row).length:Int) > 0) with
    | true =>
     rw [hbl] at hb
     rw [hb] at hon
     conv=>whnf
     refine ⟨rfl,rfl,rfl,(by rw [List.length_map]; exact Nat.le_refl _),(show (out.length+1)*16≤150000000000000 by omega),fun q hq => ?_,?_⟩
     ·cases hq with
      | head=>exact Nat.ne_of_beq_eq_false rfl
      | tail _ h=>cases h
     conv=>whnf
     refine ⟨(out++[Stp.mk 2 k],k+1),[0,1,2,3,40],[],Sub.pk [1] ?_,⟨hlt,by simp; omega,by rw [← hon]; simp⟩,by show s.cores.length - (k+1)<s.cores.length - k; omega⟩
     conv=>whnf
     refine ⟨rfl,rfl,Nat.le_refl _,?_⟩
     refine Sub0.mk' rfl ⟨⟨rfl,rfl⟩,⟨rfl,by simp⟩,.inl rfl,.inl (ti_succ hlt (by omega)),trivial⟩ ⟨⟨rfl,.inl rfl,.inl rfl,.inl rfl,.inl rfl,.inl rfl,⟨rfl,rfl⟩,⟨rfl,rfl⟩,⟨rfl,rfl⟩,trivial⟩,⟨rfl,rfl,rfl,rfl,.inl ?_⟩,⟨rfl,rfl,rfl,rfl⟩,⟨rfl,rfl,rfl,rfl⟩,⟨rfl,rfl,rfl,(by rw [List.take_of_length_le (by simp),List.map_append]; rfl)⟩,trivial⟩ rfl rfl
     show setC (s.cores.map Cst.row) k 18 (.lst 3 24 ((c.buf.map Sto.row).take (c.buf.map Sto.row).length))=s.cores.map Cst.row
     rw [List.take_of_length_le (by simp)]
     exact setC_buf hc h16
    | false =>
     rw [hbl] at hb
     rw [hb] at hon
     conv=>whnf
     refine ⟨(out,k+1),[0,1,2,3,4],[],Sub.pk [1] ?_,⟨hlt,by simp; omega,by rw [← hon]; simp⟩,by show s.cores.length - (k+1)<s.cores.length - k; omega⟩
     conv=>whnf
     refine ⟨rfl,rfl,Nat.le_refl _,?_⟩
     refine Sub0.mk' rfl ⟨⟨rfl,rfl⟩,⟨rfl,rfl⟩,.inl rfl,.inl (ti_succ hlt (by omega)),trivial⟩ ⟨⟨rfl,.inl rfl,.inl rfl,.inl rfl,.inl rfl,.inl rfl,⟨rfl,rfl⟩,⟨rfl,rfl⟩,⟨rfl,rfl⟩,trivial⟩,⟨rfl,rfl,rfl,rfl,.inl ?_⟩,⟨rfl,rfl,rfl,rfl⟩,⟨rfl,rfl,rfl,rfl⟩,⟨rfl,rfl,rfl,rfl⟩,trivial⟩ rfl rfl
     show setC (s.cores.map Cst.row) k 18 (.lst 3 24 ((c.buf.map Sto.row).take (c.buf.map Sto.row).length))=s.cores.map Cst.row
     rw [List.take_of_length_le (by simp)]
     exact setC_buf hc h16
  ·conv=>whnf
   refine ⟨rfl,hcl,fun row hrow => ?_⟩
   obtain rfl:=row_of hc hrow
   clear hrow
   refine ⟨by rw [row_len h16]; show 0+18<19; decide,fun t ht => ?_⟩
   obtain rfl:=row_buf h16 ht
   clear ht
   conv=>whnf
   refine ⟨by decide,?_⟩
   conv=>whnf
   cases hb:decide (((c.buf.map Sto.row).length:Int) > 0) with
   | true =>
    rw [hbl] at hb
    rw [hb] at hon
    conv=>whnf
    refine ⟨rfl,rfl,rfl,(by rw [List.length_map]; exact Nat.le_refl _),(show (out.length+1)*16≤150000000000000 by omega),fun q hq => ?_,?_⟩
    ·cases hq with
     | head=>exact Nat.ne_of_beq_eq_false rfl
     | tail _ h=>cases h
    conv=>whnf
    refine ⟨(out++[Stp.mk 2 k],k+1),[0,1,2,3,40],[],Sub.pk [1] ?_,⟨hlt,by simp; omega,by rw [← hon]; simp⟩,by show s.cores.length - (k+1)<s.cores.length - k; omega⟩
    conv=>whnf
    refine ⟨rfl,rfl,Nat.le_refl _,?_⟩
    refine Sub0.mk' rfl ⟨⟨rfl,rfl⟩,⟨rfl,by simp⟩,.inl rfl,.inl (ti_succ hlt (by omega)),trivial⟩ ⟨⟨rfl,.inl rfl,.inl rfl,.inl rfl,.inl rfl,.inl rfl,⟨rfl,rfl⟩,⟨rfl,rfl⟩,⟨rfl,rfl⟩,trivial⟩,⟨rfl,rfl,rfl,rfl,.inl ?_⟩,⟨rfl,rfl,rfl,rfl⟩,⟨rfl,rfl,rfl,rfl⟩,⟨rfl,rfl,rfl,(by rw [List.take_of_length_le (by simp),List.map_append]; rfl)⟩,trivial⟩ rfl rfl
    show setC (s.cores.map Cst.row) k 18 (.lst 3 24 ((c.buf.map Sto.row).take (c.buf.map Sto.row).length))=s.cores.map Cst.row
    rw [List.take_of_length_le (by simp)]
    exact setC_buf hc h16
   | false =>
    rw [hbl] at hb
    rw [hb] at hon
    conv=>whnf
    refine ⟨(out,k+1),[0,1,2,3,4],[],Sub.pk [1] ?_,⟨hlt,by simp; omega,by rw [← hon]; simp⟩,by show s.cores.length - (k+1)<s.cores.length - k; omega⟩
    conv=>whnf
    refine ⟨rfl,rfl,Nat.le_refl _,?_⟩
    refine Sub0.mk' rfl ⟨⟨rfl,rfl⟩,⟨rfl,rfl⟩,.inl rfl,.inl (ti_succ hlt (by omega)),trivial⟩ ⟨⟨rfl,.inl rfl,.inl rfl,.inl rfl,.inl rfl,.inl rfl,⟨rfl,rfl⟩,⟨rfl,rfl⟩,⟨rfl,rfl⟩,trivial⟩,⟨rfl,rfl,rfl,rfl,.inl ?_⟩,⟨rfl,rfl,rfl,rfl⟩,⟨rfl,rfl,rfl,rfl⟩,⟨rfl,rfl,rfl,rfl⟩,trivial⟩ rfl rfl
    show setC (s.cores.map Cst.row) k 18 (.lst 3 24 ((c.buf.map Sto.row).take (c.buf.map Sto.row).length))=s.cores.map Cst.row
    rw [List.take_of_length_le (by simp)]
    exact setC_buf hc h16
 ·have hge:k=s.cores.length:=by have:decide ((k:Int)<(s.cores.length:Int))=false:=hge; have:=of_decide_eq_false this; omega
  subst hge
  have ho:out=L:=ho.trans hL
  subst ho
  conv=>whnf
  refine ⟨fun _ => ?_,fun h=>absurd rfl h⟩
  conv=>whnf
  exact ⟨⟨rfl,by rw [List.length_map]; exact Nat.le_refl _,by rw [List.take_of_length_le (by simp)]⟩,⟨rfl,.inl rfl,.inl rfl,.inl rfl,.inl rfl,.inl rfl,⟨rfl,rfl⟩,⟨rfl,rfl⟩,⟨rfl,rfl⟩,trivial⟩,⟨rfl,rfl,rfl,rfl,.inl rfl⟩,⟨rfl,rfl,rfl,rfl⟩,⟨rfl,rfl,rfl,rfl⟩,trivial⟩
end Go.Proofs.YtbflekglkkdipaaGreatDoor.am
namespace Go.Proofs.YtbflekglkkdipaaGreatDoor.am
open Go Go.Proofs
set_option linter.all false
set_option maxRecDepth 100000 in
theorem s_cloneS (l:List Stp) (hl:l.length*16≤150000000000000):K 15 [.tr (stepsT l)] [] (.ret (.tr (stepsT l))) []:=by
 refine Ctr.cut [2000001] hT hmix Tryz.func15 rfl (fun _ _=>by kernel_rfl) rfl fun hok => ?_
 clear hok
 conv=>whnf
 refine nil_region rfl rfl rfl rfl rfl (by decide) fun b hb => ?_
 cases b
 ·conv=>whnf
  refine ⟨rfl,rfl,rfl,Nat.le_refl _,(by show (0+(l.map Stp.cells).length)*16≤150000000000000; rw [List.length_map]; omega),(fun q hq=>by cases hq),?_⟩
  conv=>whnf
  exact ⟨⟨rfl,by simp,by simp [List.take_of_length_le]⟩,trivial⟩
 ·obtain rfl:l=[]:=by
   cases l with
   | nil=>rfl
   | cons x l=>exact absurd (hb (by simp)) (by simp)
  conv=>whnf
  exact ⟨.inr ⟨rfl,_,_,rfl⟩,trivial⟩
set_option maxRecDepth 100000 in
theorem s_cloneN (l:List Prn) (hl:l.length*16≤150000000000000):K 65 [.tr (prT l)] [] (.ret (.sl 0 l.length)) [some (prB0 l)]:=by
 refine Ctr.new [2000001,0] hT hmix Tryz.func65 rfl (fun _ _=>by kernel_rfl) rfl fun hok => ?_
 clear hok
 conv=>whnf
 refine nil_region rfl rfl rfl rfl rfl (by decide) fun b hb => ?_
 cases b
 ·conv=>whnf
  refine CutL.by (fun _:Unit=>⟨[(2,.sl 0 l.length)],[(0,prB0 l)],10⟩) (fun _=>True) ?_ ?_
  ·conv=>whnf
   refine ⟨rfl,rfl,rfl,Nat.le_refl _,(by show (0+(l.map Prn.row).length)*16≤150000000000000; rw [List.length_map]; omega),(fun q hq=>by cases hq),?_⟩
   conv=>whnf
   exact ⟨(),[_],[],Sub.mk' rfl ⟨⟨rfl,by simp⟩,trivial⟩ ⟨⟨rfl,rfl,rfl,rfl⟩,trivial⟩ rfl rfl,trivial⟩
  ·rintro - - -
   conv=>whnf
   exact ⟨[0],rfl,rfl,⟨rfl,rfl⟩,⟨rfl,rfl,rfl,rfl⟩,trivial⟩
 ·obtain rfl:l=[]:=by
   cases l with
   | nil=>rfl
   | cons x l=>exact absurd (hb (by simp)) (by simp)
  conv=>whnf
  refine CutL.by (fun _:Unit=>⟨[(2,.sl 0 0)],[(0,prB0 [])],10⟩) (fun _=>True) ?_ ?_
  ·conv=>whnf
   exact ⟨(),[],[0],Sub.mk' rfl ⟨⟨rfl,rfl,rfl,rfl⟩,trivial⟩ ⟨⟨rfl,_,_,_,rfl,by decide⟩,trivial⟩ rfl rfl,trivial⟩
  ·rintro - - -
   conv=>whnf
   exact ⟨[0],rfl,rfl,⟨rfl,rfl⟩,⟨rfl,rfl,rfl,rfl⟩,trivial⟩
set_option maxRecDepth 100000 in
theorem s_prints (s:Mst) (hl:s.prints.length*16≤150000000000000):K 38 [.ptr 0 0] s.blks (.ret (.tr (prT s.prints))) [none,none,none,none]:=by
 have hc:=s_cloneN s.prints hl
 refine Ctr.of hT hmix Tryz.func38 rfl (fun _ _=>by kernel_rfl) rfl fun hok => ?_
 clear hok
 conv=>whnf
 refine acall.new [] [3] _ _ _ _ hc rfl rfl rfl rfl ⟨⟨rfl,(by rw [List.length_map]; exact Nat.le_refl _),(by rw [List.take_of_length_le (by simp)])⟩,trivial⟩ trivial rfl rfl fun _ => ?_
 conv=>whnf
 exact ⟨⟨rfl,(by rw [List.length_map]; exact Nat.le_refl _),(by rw [List.take_of_length_le (by simp)])⟩,trivial⟩
end Go.Proofs.YtbflekglkkdipaaGreatDoor.am
namespace Go.Proofs.YtbflekglkkdipaaGreatDoor.am
open Go Go.Proofs
set_option linter.all false
set_option maxRecDepth 100000 in
set_option maxHeartbeats 2000000 in
theorem s_printed (o:Ob) (l:List Stp) (h0:(checkO o).1=0) (hl:l.length≤1048576):K 14 [o.av,.tr (stepsT l)] [] (.ret (.tr (prT (finL (newM o) l).prints))) []:=by
 have hg:=check_good h0
 have hn1:=k_vnew o h0 hg.mem hg.cores (fun c hc=>(hg.code c hc).2)
 have hV:=VInv.new h0
 have hpr0:(newM o).prints.length=0:=rfl
 generalize hF:finL (newM o) l=sF
 clear h0 hg
 generalize newM o=s0 at hn1 hV hpr0 hF
 obtain ⟨memory,shared,locks,buffer,cores⟩:=o
 have hlm:(l.map Stp.cells).length=l.length:=List.length_map ..
 refine Ctr.of hT hmix Tryz.func14 rfl (fun _ _=>by kernel_rfl) rfl fun hok => ?_
 clear hok
 conv=>whnf
 refine acall.new [] [] _ _ _ _ hn1 rfl rfl rfl rfl aut aut rfl rfl fun _ => ?_
 conv=>whnf
 refine LoopL.by (fun x:Mst × Nat=>⟨[(5,.ptr 0 0),(14,.tr (stepsT l)),(15,.tr (ti l.length)),(16,.tr (ti x.2))],[(0,maB x.1),(1,csB x.1.cores),(2,meB x.1.mem),(3,prB x.1.prints)],10⟩) (fun x=>VInv x.1∧x.1.prints.length≤x.2∧x.2≤l.length∧finL x.1 (l.drop x.2)=sF) (fun x=>l.length - x.2) (s0,0) [_,_,_,_] []
  (Sub.mk' rfl ⟨⟨rfl,rfl⟩,.inl rfl,.inl (by rw [← hlm]),.inl rfl,trivial⟩ ⟨⟨rfl,.inl rfl,.inl rfl,.inl rfl,.inl rfl,.inl rfl,⟨rfl,rfl⟩,⟨rfl,rfl⟩,⟨rfl,rfl⟩,trivial⟩,⟨rfl,rfl,rfl,rfl,.inl rfl⟩,⟨rfl,rfl,rfl,rfl⟩,⟨rfl,rfl,rfl,rfl⟩,trivial⟩ rfl rfl)
  ⟨hV,by show s0.prints.length≤0; omega,Nat.zero_le _,hF⟩ ?_
 clear hV hpr0 hF hn1
 rintro ⟨s,i⟩ ⟨hV,hpr,hi,hrun⟩ -
 simp only at hV hpr hi hrun
 conv=>whnf
 refine csplit (fun hlt => ?_) (fun hge => ?_)
 ·have hlt:i<l.length:=by have:=of_decide_eq_true hlt; omega
  obtain ⟨x,hx⟩ : ∃ x,l[i]? = some x:=⟨_,List.getElem?_eq_getElem hlt⟩
  rw [finL_drop hx] at hrun
  obtain ⟨kd,c⟩:=x
  simp only at hrun
  have hst:=k_step s hV (by omega) kd c
  have hIn:=stepS_inv hV kd c
  have hpn:=stepS_prints s kd c
  generalize stepS s kd c=S at hst hIn hpn hrun
  obtain ⟨s',⟨dk,dc,da,dd,dw,dp,dn⟩,e⟩:=S
  simp only at hst hIn hpn hrun
  conv=>whnf
  refine ⟨rfl,(show (0:Int)≤i by omega),(show (i:Int)<((l.map Stp.cells).length:Int) by omega),fun row hrow => ?_⟩
  replace hrow:(l.map Stp.cells)[i]? = some row:=hrow
  rw [List.getElem?_map,hx] at hrow
  cases hrow
  conv=>whnf
  rcases hst with hst | hst
  ·refine acall.au [0,1,2,3] [] hst ?_
   intro _
   conv=>whnf
   exact ⟨(s',i+1),[0,1,2,3],[],Sub.mk' rfl ⟨⟨rfl,rfl⟩,.inl rfl,.inl rfl,.inl (ti_succ hlt (by omega)),trivial⟩ ⟨⟨rfl,.inl rfl,.inl rfl,.inl rfl,.inl rfl,.inl rfl,⟨rfl,rfl⟩,⟨rfl,rfl⟩,⟨rfl,rfl⟩,trivial⟩,⟨rfl,rfl,rfl,rfl,.inl rfl⟩,⟨rfl,rfl,rfl,rfl⟩,⟨rfl,rfl,rfl,rfl⟩,trivial⟩ rfl rfl,⟨hIn,by show s'.prints.length≤i+1; omega,hlt,hrun⟩,by show l.length - (i+1)<l.length - i; omega⟩
  ·refine acall.new [0,1,2,3] [] _ _ _ _ hst rfl rfl rfl rfl aut aut rfl rfl fun _ => ?_
   conv=>whnf
   exact ⟨(s',i+1),[0,1,2,_],[],Sub.mk' rfl ⟨⟨rfl,rfl⟩,.inl rfl,.inl rfl,.inl (ti_succ hlt (by omega)),trivial⟩ ⟨⟨rfl,.inl rfl,.inl rfl,.inl rfl,.inl rfl,.inl rfl,⟨rfl,rfl⟩,⟨rfl,rfl⟩,⟨rfl,rfl⟩,trivial⟩,⟨rfl,rfl,rfl,rfl,.inl rfl⟩,⟨rfl,rfl,rfl,rfl⟩,⟨rfl,rfl,rfl,rfl⟩,trivial⟩ rfl rfl,⟨hIn,by show s'.prints.length≤i+1; omega,hlt,hrun⟩,by show l.length - (i+1)<l.length - i; omega⟩
 have hge:i=l.length:=by have:=of_decide_eq_false hge; omega
 subst hge
 rw [List.drop_length] at hrun
 have hrun:s=sF:=hrun
 subst hrun
 have hpp:=s_prints s (by omega)
 conv=>whnf
 refine ⟨fun _ => ?_,fun h=>absurd rfl h⟩
 conv=>whnf
 refine acall.au [0,1,2,3] [] hpp ?_
 intro _
 conv=>whnf
 exact ⟨.inl rfl,trivial⟩
end Go.Proofs.YtbflekglkkdipaaGreatDoor.am
namespace Go.Proofs.YtbflekglkkdipaaGreatDoor.am
open Go Go.Proofs
set_option linter.all false
theorem prn_get {l:List Prn} {i:Nat} {row:List Tr} (h:(l.map Prn.row)[i]? = some row) : ∃ d,l[i]? = some d∧row=d.row:=by
 rw [List.getElem?_map,Option.map_eq_some_iff] at h
 obtain ⟨d,h1,rfl⟩:=h
 exact ⟨d,h1,rfl⟩
theorem eq_drop {a b:List Prn} {i:Nat} {x y:Prn} (h1:a[i]? = some x) (h2:b[i]? = some y):decide (a.drop i=b.drop i)=(decide (x=y) && decide (a.drop (i+1)=b.drop (i+1))):=by
 rw [List.drop_eq_getElem_cons (List.getElem?_eq_some_iff.1 h1).1,(List.getElem?_eq_some_iff.1 h1).2,List.drop_eq_getElem_cons (List.getElem?_eq_some_iff.1 h2).1,(List.getElem?_eq_some_iff.1 h2).2]
 by_cases e1:x=y <;> by_cases e2:a.drop (i+1)=b.drop (i+1) <;> simp [e1,e2]
set_option maxRecDepth 100000 in
theorem s_equalP (a b:List Prn):K 13 [.tr (prT a),.tr (prT b)] [] (.ret (.tr (tb (decide (a=b))))) []:=by
 have hR:decide (a.drop 0=b.drop 0)=decide (a=b):=rfl
 generalize decide (a=b)=R at hR ⊢
 have hla:(a.map Prn.row).length=a.length:=List.length_map ..
 have hlb:(b.map Prn.row).length=b.length:=List.length_map ..
 refine Ctr.of hT hmix Tryz.func13 rfl (fun _ _=>by kernel_rfl) rfl fun hok => ?_
 obtain ⟨_,hl63,_⟩:=(hok.slot 0 rfl).tr.lst
 rw [hla] at hl63
 clear hok
 conv=>whnf
 refine csplit (fun h1 => ?_) (fun h1 => ?_)
 ·have h1:a.length≠b.length:=by have:(((a.map Prn.row).length:Int) != ((b.map Prn.row).length:Int))=true:=h1; rw [hla,hlb] at this; intro e; rw [e] at this; simp at this
  have:R=false:=by rw [← hR]; exact decide_eq_false fun e=>h1 (congrArg List.length e)
  subst this
  conv=>whnf
  exact ⟨.inl rfl,trivial⟩
 have h1:a.length=b.length:=by have:(((a.map Prn.row).length:Int) != ((b.map Prn.row).length:Int))=false:=h1; rw [hla,hlb] at this; exact Int.ofNat_inj.1 (by simpa using this)
 conv=>whnf
 refine LoopL.by (fun i:Nat=>⟨[(0,.tr (prT a)),(1,.tr (prT b)),(12,.tr (ti a.length)),(13,.tr (ti i))],[],10⟩) (fun i=>i≤a.length∧decide (a.drop i=b.drop i)=R) (fun i=>a.length - i) 0 [] [] (Sub.mk' rfl ⟨.inl rfl,.inl rfl,.inl (by rw [← hla]),.inl rfl,trivial⟩ trivial rfl rfl) ⟨Nat.zero_le _,hR⟩ ?_
 rintro i ⟨hi,hR⟩ -
 conv=>whnf
 refine csplit (fun hlt => ?_) (fun hge => ?_)
 ·have hlt:i<a.length:=by have:=of_decide_eq_true hlt; omega
  obtain ⟨x,hx⟩ : ∃ x,a[i]? = some x:=⟨_,List.getElem?_eq_getElem hlt⟩
  obtain ⟨y,hy⟩ : ∃ y,b[i]? = some y:=⟨_,List.getElem?_eq_getElem (show i<b.length by omega)⟩
  rw [eq_drop hx hy] at hR
  obtain ⟨x1,x2⟩:=x
  obtain ⟨y1,y2⟩:=y
  conv=>whnf
  refine ⟨rfl,(show (0:Int)≤i by omega),(show (i:Int)<((a.map Prn.row).length:Int) by omega),fun row hr => ?_⟩
  obtain ⟨d',hd',rfl⟩:=prn_get hr
  obtain rfl:=Option.some.inj (hx.symm.trans hd')
  clear hr hd'
  conv=>whnf
  refine ⟨rfl,(show (0:Int)≤i by omega),(show (i:Int)<((b.map Prn.row).length:Int) by omega),fun row hr => ?_⟩
  obtain ⟨d',hd',rfl⟩:=prn_get hr
  obtain rfl:=Option.some.inj (hy.symm.trans hd')
  clear hr hd'
  conv=>whnf
  refine ⟨by kernel_rfl,fun _ => ?_⟩
  conv=>whnf
  have hB:decide (Prn.mk x1 x2=Prn.mk y1 y2)=(x1 == y1 && (x2 == y2 && true)):=by
   rw [Bool.and_true]
   by_cases e1:x1=y1 <;> by_cases e2:x2=y2 <;> simp [e1,e2]
  rw [hB] at hR
  refine csplit (fun g => ?_) (fun g => ?_)
  ·replace g:(!(x1 == y1 && (x2 == y2 && true)))=true:=g
   have g:(x1 == y1 && (x2 == y2 && true))=false:=by rw [← Bool.not_not (x1 == y1 && (x2 == y2 && true)),g]; rfl
   rw [g] at hR
   have hR:false=R:=hR
   subst hR
   conv=>whnf
   exact ⟨.inl rfl,trivial⟩
  ·replace g:(!(x1 == y1 && (x2 == y2 && true)))=false:=g
   have g:(x1 == y1 && (x2 == y2 && true))=true:=by rw [← Bool.not_not (x1 == y1 && (x2 == y2 && true)),g]; rfl
   rw [g,Bool.true_and] at hR
   conv=>whnf
   exact ⟨i+1,[],[],Sub.mk' rfl ⟨.inl rfl,.inl rfl,.inl rfl,.inl (ti_succ hlt hl63),trivial⟩ trivial rfl rfl,⟨hlt,hR⟩,by show a.length - (i+1)<a.length - i; omega⟩
 ·have hge:i=a.length:=by have:=of_decide_eq_false hge; omega
  subst hge
  rw [List.drop_length,h1,List.drop_length] at hR
  have hR:true=R:=hR
  subst hR
  conv=>whnf
  refine ⟨fun _ => ?_,fun h=>absurd rfl h⟩
  conv=>whnf
  exact ⟨.inl rfl,trivial⟩
end Go.Proofs.YtbflekglkkdipaaGreatDoor.am
namespace Go.Proofs.YtbflekglkkdipaaGreatDoor.am
open Go Go.Proofs
set_option linter.all false
end Go.Proofs.YtbflekglkkdipaaGreatDoor.am
namespace Go.Proofs.YtbflekglkkdipaaGreatDoor.am
open Go Go.Proofs
set_option linter.all false
abbrev growB (n:Nat):Blk := .vec 34 2 16 (List.replicate n [.v (.int .u8 0),.v (.int .i64 0)])
set_option maxRecDepth 100000 in
theorem s_grow (n:Nat) (h0:0<n) (h1:n≤4194304):K 39 [.tr (.v (.slice none 0 0)),.tr (ti n)] [] (.ret (.sl 0 0)) [some (growB n)]:=by
 have e0:IntKind.i64.wrap (0 - ((0:Nat):Int))=0:=by rw [w64 (by omega) (by omega)]; rfl
 have e1:IntKind.i64.wrap ((n:Int) - IntKind.i64.wrap (0 - ((0:Nat):Int)))=(n:Int):=by rw [e0,w64 (by omega) (by omega)]; omega
 refine Ctr.new [] hT hmix Tryz.func39 rfl (fun _ _=>by kernel_rfl) rfl fun hok => ?_
 clear hok
 conv=>whnf
 rw [e1]
 refine csplit (fun g2 => ?_) (fun g2 => ?_)
 ·conv=>whnf
  refine ⟨by decide,by decide,by decide,?_⟩
  conv=>whnf
  refine ⟨(show (0:Int)≤(n:Int) by omega),(show (n:Int)*16≤140737488351232 by omega),?_⟩
  conv=>whnf
  refine ⟨(show (0:Int)≤((0:Nat):Int) by decide),(show ((0:Nat):Int)≤((n:Nat):Int) by omega),?_⟩
  conv=>whnf
  exact ⟨[_],rfl,rfl,aut,aut⟩
 ·have:decide ((n:Int) > 0)=false:=g2
  have:=of_decide_eq_false this
  omega
set_option maxRecDepth 100000 in
theorem s_grow0:K 39 [.tr (.v (.slice none 0 0)),.tr (ti 0)] [] (.ret (.tr (.v (.slice none 0 0)))) []:=by
 refine Ctr.of hT hmix Tryz.func39 rfl (fun _ _=>by kernel_rfl) rfl fun hok => ?_
 clear hok
 conv=>whnf
 exact ⟨.inl rfl,trivial⟩
set_option maxRecDepth 100000 in
theorem s_concat (a b:List Stp) (hl:a.length+b.length≤4194304):K 17 [.tr (.lst 1 24 [[stepsT a],[stepsT b]])] [] (.ret (.tr (stepsT (a++b)))) []:=by
 have hla:(a.map Stp.cells).length=a.length:=List.length_map ..
 have hlb:(b.map Stp.cells).length=b.length:=List.length_map ..
 have e1:IntKind.i64.wrap (0+((a.map Stp.cells).length:Int))=(a.length:Int):=by rw [hla,w64 (by omega) (by omega)]; omega
 have e2:IntKind.i64.wrap ((a.length:Int)+((b.map Stp.cells).length:Int))=((a.length+b.length:Nat):Int):=by rw [hlb,w64 (by omega) (by omega)]; omega
 refine Ctr.of hT hmix Tryz.func17 rfl (fun _ _=>by kernel_rfl) rfl fun hok => ?_
 clear hok
 conv=>whnf
 refine LoopL.un 3 ?_
 conv=>whnf
 refine ⟨rfl,by decide,(show (_:Int)<2 by decide),fun row hrow => ?_⟩
 cases hrow
 conv=>whnf
 rw [e1]
 conv=>whnf
 refine ⟨rfl,by decide,(show (_:Int)<2 by decide),fun row hrow => ?_⟩
 cases hrow
 conv=>whnf
 rw [e2]
 conv=>whnf
 refine ⟨fun _ => ?_,fun h=>absurd rfl h⟩
 conv=>whnf
 by_cases hz:a.length+b.length=0
 ·obtain rfl:a=[]:=List.eq_nil_of_length_eq_zero (by omega)
  obtain rfl:b=[]:=List.eq_nil_of_length_eq_zero (by omega)
  refine acall.pure _ (s_grow0) rfl rfl fun _ => ?_
  conv=>whnf
  refine LoopL.un 3 ?_
  conv=>whnf
  refine ⟨rfl,by decide,(show (_:Int)<2 by decide),fun row hrow => ?_⟩
  cases hrow
  conv=>whnf
  refine ⟨by decide,?_⟩
  conv=>whnf
  refine ⟨rfl,by decide,(show (_:Int)<2 by decide),fun row hrow => ?_⟩
  cases hrow
  conv=>whnf
  refine ⟨rfl,rfl,rfl,Nat.zero_le _,by decide,(fun q hq=>by cases hq),?_⟩
  conv=>whnf
  refine ⟨fun _ => ?_,fun h=>absurd rfl h⟩
  conv=>whnf
  exact ⟨⟨rfl,Nat.zero_le _,rfl⟩,trivial⟩
 ·have hcut:stepsT (a++b) = .lst 2 16 ((((List.replicate (a.length+b.length) [Tr.v (.int .u8 0),Tr.v (.int .i64 0)]).take 0++(a.map Stp.cells).take (a.map Stp.cells).length).take (0+((a.map Stp.cells).take (a.map Stp.cells).length).length)++(b.map Stp.cells).take (b.map Stp.cells).length).take (0+((a.map Stp.cells).take (a.map Stp.cells).length).length+((b.map Stp.cells).take (b.map Stp.cells).length).length)):=by
   simp only [List.take_zero,List.nil_append,List.take_length,Nat.zero_add]
   rw [List.take_of_length_le (by rw [List.length_append]; exact Nat.le_refl _)]
   show Tr.lst 2 16 ((a++b).map Stp.cells)=_
   rw [List.map_append]
  refine acall.new [] [] _ _ _ _ (s_grow (a.length+b.length) (by omega) hl) rfl rfl rfl rfl aut aut rfl rfl fun _ => ?_
  conv=>whnf
  refine LoopL.un 3 ?_
  conv=>whnf
  refine ⟨rfl,by decide,(show (_:Int)<2 by decide),fun row hrow => ?_⟩
  cases hrow
  conv=>whnf
  refine ⟨rfl,rfl,rfl,Nat.zero_le _,(by show (0+(a.map Stp.cells).length)*16≤_; rw [hla]; omega),(fun q hq=>by cases hq),?_⟩
  conv=>whnf
  refine ⟨rfl,by decide,(show (_:Int)<2 by decide),fun row hrow => ?_⟩
  cases hrow
  conv=>whnf
  refine ⟨rfl,rfl,rfl,(by simp),(by show (0+(a.map Stp.cells).length+(b.map Stp.cells).length)*16≤_; rw [hla,hlb]; omega),(fun q hq=>by cases hq),?_⟩
  conv=>whnf
  refine ⟨fun _ => ?_,fun h=>absurd rfl h⟩
  conv=>whnf
  exact ⟨⟨rfl,by simp,by simp [List.take_of_length_le]⟩,trivial⟩
end Go.Proofs.YtbflekglkkdipaaGreatDoor.am
namespace Go.Proofs.YtbflekglkkdipaaGreatDoor.am
open Go Go.Proofs
set_option linter.all false
abbrev leftB (l:List Stp):Blk := .cells 26 [.tr (stepsT l)]
abbrev obB (o:Ob):Blk := .cells 25 [.tr (intsT o.memory),.tr (ti o.shared),.tr (ti o.locks),.tr (ti o.buffer),.tr (coresT o.cores)]
abbrev goalB (p:List Prn):Blk := .cells 27 [.tr (prT p)]
set_option maxRecDepth 100000 in
set_option maxHeartbeats 2000000 in
theorem s_turn (o:Ob) (l:List Stp) (p:List Prn) (n:Nat) (h0:(checkO o).1=0) (hn:0<n) (hn1:n≤1048576) (hl:l.length≤1048576):K 16 [.tr (ti n),.ptr 0 0,.ptr 1 0,.ptr 2 0] [leftB l,obB o,goalB p] (.ret (.tr (tb (turnR o p n l).2))) [some (leftB (turnR o p n l).1),some (obB o),some (goalB p)]:=by
 generalize hR0:turnR o p n l=R
 have hR:turnG o p n (l.length+1) 0 l false=R:=hR0
 clear hR0
 have hpt:=fun L hL=>s_printed o L h0 hL
 have heq:=fun L=>s_equalP (finL (newM o) L).prints p
 have hEnd:=turnG_end o p n
 have hSucc:=turnG_succ o p n
 have hFu:=fun f g at_ l any=>turnG_fuel o p hn f g at_ l any
 have hSB : ∀ L,showB o L p=decide ((finL (newM o) L).prints=p):=fun L=>rfl
 clear h0
 generalize showB o=SB at hSucc hSB
 generalize turnG o p n=TG at hR hEnd hSucc hFu
 replace heq:=fun L=>(hSB L) ▸ heq L
 clear hSB
 generalize finL (newM o)=FL at hpt heq
 obtain ⟨memory,shared,locks,buffer,cores⟩:=o
 refine Ctr.of hT hmix Tryz.func16 rfl (fun _ _=>by kernel_rfl) rfl fun hok => ?_
 clear hok
 conv=>whnf
 refine LoopL.by (fun x:List Stp × Nat × Bool=>⟨[(0,.tr (ti n)),(1,.ptr 0 0),(2,.ptr 1 0),(3,.ptr 2 0),(6,.tr (tb x.2.2)),(7,.tr (ti x.2.1))],[(0,.cells 26 [.tr (stepsT x.1)]),(1,.cells 25 [.tr (intsT memory),.tr (ti shared),.tr (ti locks),.tr (ti buffer),.tr (coresT cores)]),(2,.cells 27 [.tr (prT p)])],10⟩) (fun x=>x.2.1≤2097152∧x.1.length≤1048576∧TG (x.1.length - min x.2.1 x.1.length+1) (min x.2.1 x.1.length) x.1 x.2.2=R) (fun x=>x.1.length - x.2.1) (l,0,false) [0,1,2] []
  (Sub.mk' rfl ⟨.inl rfl,⟨rfl,rfl⟩,⟨rfl,rfl⟩,⟨rfl,rfl⟩,.inl rfl,.inl rfl,trivial⟩ ⟨⟨rfl,.inl rfl,trivial⟩,⟨rfl,.inl rfl,.inl rfl,.inl rfl,.inl rfl,.inl rfl,trivial⟩,⟨rfl,.inl rfl,trivial⟩,trivial⟩ rfl rfl) ⟨Nat.zero_le _,hl,by show TG (l.length - min 0 l.length+1) (min 0 l.length) l false=R; rw [Nat.zero_min]; exact hR⟩ ?_
 clear hR
 rintro ⟨L,a,any⟩ ⟨ha,hL,hR⟩ -
 simp only at ha hL hR
 have hqm:(L.map Stp.cells).length=L.length:=List.length_map ..
 conv=>whnf
 refine csplit (fun hlt => ?_) (fun hge => ?_)
 ·have hlt:a<L.length:=by have:decide ((a:Int)<((L.map Stp.cells).length:Int))=true:=hlt; have:=of_decide_eq_true this; omega
  rw [Nat.min_eq_left (Nat.le_of_lt hlt),hSucc,decide_eq_true hlt,cond_true] at hR
  obtain ⟨E,hE⟩ : ∃ E,min (a+n) L.length=E:=⟨_,rfl⟩
  have hE1:a<E∧E≤L.length∧E≤a+n:=by omega
  rw [hE] at hR
  have hw:IntKind.i64.wrap ((a:Int)+(n:Int))=((a+n:Nat):Int):=by rw [w64 (by omega) (by omega)]; omega
  have hmin:min (IntKind.i64.wrap ((a:Int)+(n:Int))) (((L.map Stp.cells).length:Nat):Int)=(E:Int):=by rw [w64 (by omega) (by omega),hqm]; omega
  have hX:Tr.lst 2 16 ((L.map Stp.cells).take a)=stepsT (L.take a):=by rw [← List.map_take]
  have hY:Tr.lst 2 16 (((L.map Stp.cells).take (L.map Stp.cells).length).drop E)=stepsT (L.drop E):=by rw [List.take_length,← List.map_drop]
  have hll:(L.take a++L.drop E).length=a+(L.length - E):=by rw [List.length_append,List.length_take,List.length_drop]; omega
  have hcc:=s_concat (L.take a) (L.drop E) (by rw [← List.length_append,hll]; omega)
  have hpt:=hpt (L.take a++L.drop E) (by omega)
  have heq:=heq (L.take a++L.drop E)
  generalize FL (L.take a++L.drop E)=Q at hpt heq
  generalize SB (L.take a++L.drop E) p=b at heq hR
  conv=>whnf
  refine ⟨rfl,(show (0:Int)≤0 by decide),(show (0:Int)≤(a:Int) by omega),(show (a:Int)≤((L.map Stp.cells).length:Int) by omega),?_⟩
  conv=>whnf
  rw [hmin]
  refine ⟨rfl,(show (0:Int)≤(E:Int) by omega),(show (E:Int)≤((L.map Stp.cells).length:Int) by omega),(show ((L.map Stp.cells).length:Int)≤((L.map Stp.cells).length:Int) from Int.le_refl _),?_⟩
  conv=>whnf
  refine acall.new [] [25] _ _ _ _ hcc rfl rfl rfl rfl ⟨⟨rfl,Nat.le_refl _,by rw [← hX,← hY]; rfl⟩,trivial⟩ trivial rfl rfl ?_
  conv=>whnf
  refine ⟨by kernel_rfl,fun _ => ?_⟩
  conv=>whnf
  refine acall.pure _ (hpt) rfl rfl ?_
  conv=>whnf
  refine acall.pure _ (heq) rfl rfl ?_
  conv=>whnf
  refine ⟨by kernel_rfl,fun _ => ?_⟩
  conv=>whnf
  cases b
  ·conv=>whnf
   rw [cond_false] at hR
   rw [hw]
   exact ⟨(L,a+n,any),[0,1,2],[],Sub.mk' rfl ⟨.inl rfl,⟨rfl,rfl⟩,⟨rfl,rfl⟩,⟨rfl,rfl⟩,.inl rfl,.inl rfl,trivial⟩ ⟨⟨rfl,.inl rfl,trivial⟩,⟨rfl,.inl rfl,.inl rfl,.inl rfl,.inl rfl,.inl rfl,trivial⟩,⟨rfl,.inl rfl,trivial⟩,trivial⟩ rfl rfl,⟨by show a+n≤2097152; omega,hL,by show TG (L.length - min (a+n) L.length+1) (min (a+n) L.length) L any=R; rw [hE,← hR]; exact hFu (L.length - E+1) (L.length - a) E L any (by omega) (by omega)⟩,by show L.length - (a+n)<L.length - a; omega⟩
  ·conv=>whnf
   rw [cond_true] at hR
   exact ⟨(L.take a++L.drop E,a,true),[0,1,2],[],Sub.mk' rfl ⟨.inl rfl,⟨rfl,rfl⟩,⟨rfl,rfl⟩,⟨rfl,rfl⟩,.inl rfl,.inl rfl,trivial⟩ ⟨⟨rfl,.inl rfl,trivial⟩,⟨rfl,.inl rfl,.inl rfl,.inl rfl,.inl rfl,.inl rfl,trivial⟩,⟨rfl,.inl rfl,trivial⟩,trivial⟩ rfl rfl,⟨ha,by show (L.take a++L.drop E).length≤_; rw [hll]; omega,by show TG ((L.take a++L.drop E).length - min a (L.take a++L.drop E).length+1) (min a (L.take a++L.drop E).length) (L.take a++L.drop E) true=R; rw [Nat.min_eq_left (by rw [hll]; omega),← hR]; exact hFu ((L.take a++L.drop E).length - a+1) (L.length - a) a (L.take a++L.drop E) true (by omega) (by rw [hll]; omega)⟩,by show (L.take a++L.drop E).length - a<L.length - a; rw [hll]; omega⟩
 ·have hge:L.length≤a:=by have:decide ((a:Int)<((L.map Stp.cells).length:Int))=false:=hge; have:=of_decide_eq_false this; omega
  rw [Nat.min_eq_right hge,hEnd _ _ _ _ (Nat.le_refl _)] at hR
  subst hR
  conv=>whnf
  refine ⟨fun _ => ?_,fun h=>absurd rfl h⟩
  conv=>whnf
  exact ⟨.inl rfl,⟨rfl,.inl rfl,trivial⟩,⟨rfl,.inl rfl,.inl rfl,.inl rfl,.inl rfl,.inl rfl,trivial⟩,⟨rfl,.inl rfl,trivial⟩,trivial⟩
end Go.Proofs.YtbflekglkkdipaaGreatDoor.am
namespace Go.Proofs.YtbflekglkkdipaaGreatDoor.am
open Go Go.Proofs
set_option linter.all false
def shrinkR (o:Ob) (l:List Stp) (p:List Prn):List Stp × Int :=
 bif (checkO o).1 != 0 then ([],(checkO o).1) else bif decide ((l.length:Int) > 1024) then ([],3) else bif !showB o l p then ([],261) else (shrL o p l,0)
def ShrI (o:Ob) (p:List Prn) (R:List Stp) (n:Nat) (L:List Stp):Prop := ∃ f,max n 1+L.length<f∧shrG o p f (max n 1) L=R
theorem ShrI.start (o:Ob) (p:List Prn) (l:List Stp):ShrI o p (shrL o p l) (l.length / 2) l:=⟨_,Nat.lt_succ_self _,rfl⟩
theorem ShrI.more {o:Ob} {p:List Prn} {R:List Stp} {n:Nat} {L:List Stp} (h:ShrI o p R n L) (hn:1<n):ShrI o p R (n / 2) (turnR o p n L).1:=by
 obtain ⟨f,h1,h2⟩:=h
 rw [show max n 1=n by omega] at h1 h2
 cases f with
 | zero=>omega
 | succ f =>
  have hb:(n == 1 && !(turnR o p n L).2)=false:=by
   rw [show (n == 1)=false by rw [beq_eq_false_iff_ne]; omega]; rfl
  rw [shrG_succ,hb,cond_false] at h2
  have:=shr_less o p (by omega:0<n) hb
  exact ⟨f,by omega,h2⟩
theorem ShrI.one {o:Ob} {p:List Prn} {R:List Stp} {n:Nat} {L:List Stp} (h:ShrI o p R n L) (hn:n≤1):ShrI o p R 1 L:=by
 obtain ⟨f,h1,h2⟩:=h
 rw [show max n 1=1 by omega] at h1 h2
 exact ⟨f,h1,h2⟩
theorem ShrI.last {o:Ob} {p:List Prn} {R:List Stp} {L:List Stp} (h:ShrI o p R 1 L) (hb:(turnR o p 1 L).2=false):(turnR o p 1 L).1=R:=by
 obtain ⟨f,h1,h2⟩:=h
 rw [show max 1 1=1 from rfl] at h1 h2
 cases f with
 | zero=>omega
 | succ f =>
  rw [shrG_succ,hb] at h2
  exact h2
theorem ShrI.again {o:Ob} {p:List Prn} {R:List Stp} {L:List Stp} (h:ShrI o p R 1 L) (hb:(turnR o p 1 L).2=true):ShrI o p R 1 (turnR o p 1 L).1:=by
 obtain ⟨f,h1,h2⟩:=h
 rw [show max 1 1=1 from rfl] at h1 h2
 cases f with
 | zero=>omega
 | succ f =>
  have hb2:((1:Nat) == 1 && !(turnR o p 1 L).2)=false:=by rw [hb]; rfl
  rw [shrG_succ,hb2,cond_false] at h2
  have:=shr_less o p (by decide:0<1) hb2
  exact ⟨f,by show max 1 1+_<f; omega,h2⟩
theorem ShrI.none {o:Ob} {p:List Prn} {R:List Stp} (h:ShrI o p R 1 []):R=[]:=by
 have hb:(turnR o p 1 []).2=false:=rfl
 exact (h.last hb).symm
theorem turnR_prop (o:Ob) (p:List Prn) {n:Nat} (hn:0<n) (L:List Stp):TurnP o p L false (turnR o p n L):=turnG_prop o p hn _ _ _ _
theorem turnR_len (o:Ob) (p:List Prn) {n:Nat} (hn:0<n) (L:List Stp):(turnR o p n L).1.length≤L.length∧((turnR o p n L).2=true→(turnR o p n L).1.length<L.length):=by
 have h:=turnR_prop o p hn L
 exact ⟨h.sub.length_le,fun q=>(h.less q).elim (fun w=>by cases w) id⟩
theorem quo2 (n:Nat) (h:n≤1048576):IntKind.i64.wrap ((n:Int).tdiv 2)=((n / 2:Nat):Int):=by
 have:(n:Int).tdiv 2=((n / 2:Nat):Int):=by
  rw [Int.tdiv_eq_ediv_of_nonneg (by omega)]; omega
 rw [this,w64 (by omega) (by omega)]
theorem shrinkR_cases (o:Ob) (l:List Stp) (p:List Prn):((checkO o).1≠0∧shrinkR o l p=([],(checkO o).1))∨((checkO o).1=0∧1024<l.length∧shrinkR o l p=([],3))∨((checkO o).1=0∧l.length≤1024∧showB o l p=false∧shrinkR o l p=([],261))∨((checkO o).1=0∧l.length≤1024∧showB o l p=true∧shrinkR o l p=(shrL o p l,0)):=by
 unfold shrinkR
 by_cases h:(checkO o).1=0
 ·rw [show ((checkO o).1 != 0)=false by rw [h]; rfl,cond_false]
  by_cases h2:l.length≤1024
  ·rw [decide_eq_false (by omega),cond_false]
   cases h3:showB o l p with
   | true=>exact .inr (.inr (.inr ⟨h,h2,rfl,rfl⟩))
   | false=>exact .inr (.inr (.inl ⟨h,h2,rfl,rfl⟩))
  ·rw [decide_eq_true (by omega),cond_true]
   exact .inr (.inl ⟨h,by omega,rfl⟩)
 ·rw [show ((checkO o).1 != 0)=true by simpa using h,cond_true]
  exact .inl ⟨h,rfl⟩
set_option maxRecDepth 100000 in
set_option maxHeartbeats 2000000 in
theorem s_shrink (o:Ob) (l:List Stp) (p:List Prn):K 5 [o.av,.tr (stepsT l),.tr (prT p)] [] (.ret (.tup [.tr (stepsT (shrinkR o l p).1),.tr (ti (shrinkR o l p).2)])) []:=by
 have hc:=k_check o
 have hlm:(l.map Stp.cells).length=l.length:=List.length_map ..
 have hcs:=shrinkR_cases o l p
 have hpt:=s_printed o l
 have heq:=s_equalP (finL (newM o) l).prints p
 have hsb:decide ((finL (newM o) l).prints=p)=showB o l p:=rfl
 rw [hsb] at heq
 clear hsb
 generalize (finL (newM o) l).prints=Q at hpt heq
 have hcl:=s_cloneS l
 have hTn:=fun n L h0 h1 h2 h3=>s_turn o L p n h0 h1 h2 h3
 have hLen:=fun n L h=>turnR_len o p (n:=n) h L
 have hS:=ShrI.start o p l
 have hMore:=fun R n L h=>ShrI.more (o:=o) (p:=p) (R:=R) (n:=n) (L:=L) h
 have hOne:=fun R n L h=>ShrI.one (o:=o) (p:=p) (R:=R) (n:=n) (L:=L) h
 have hLast:=fun R L h=>ShrI.last (o:=o) (p:=p) (R:=R) (L:=L) h
 have hAgain:=fun R L h=>ShrI.again (o:=o) (p:=p) (R:=R) (L:=L) h
 have hNone:=fun R h=>ShrI.none (o:=o) (p:=p) (R:=R) h
 generalize shrinkR o l p=R at hcs ⊢
 generalize checkO o=C at hc hpt hcs hTn
 generalize showB o l p=b at heq hcs
 generalize shrL o p l=F at hS hcs
 generalize ShrI o p=SI at hS hMore hOne hLast hAgain hNone
 generalize turnR o p=TR at hTn hLen hMore hLast hAgain
 obtain ⟨memory,shared,locks,buffer,cores⟩:=o
 refine Ctr.of hT hmix Tryz.func5 rfl (fun _ _=>by kernel_rfl) rfl fun hok => ?_
 clear hok
 conv=>whnf
 refine acall.pure _ (hc) rfl rfl fun _ => ?_
 conv=>whnf
 rcases hcs with ⟨g1,rfl⟩ | ⟨g1,g2,rfl⟩ | ⟨g1,g2,rfl,rfl⟩ | ⟨g1,g2,rfl,rfl⟩
 ·have e1:(C.1 != 0)=true:=by simpa using g1
  refine csplit (fun _ => ?_) (fun g=>ctf e1 g)
  conv=>whnf
  exact ⟨⟨.inr ⟨rfl,_,_,rfl⟩,.inl rfl,trivial⟩,trivial⟩
 all_goals
  have e1:(C.1 != 0)=false:=by rw [g1]; rfl
  refine csplit (fun g=>ctf g e1) (fun _ => ?_)
  conv=>whnf
 ·have e2:decide (((l.map Stp.cells).length:Int) > 1024)=true:=by rw [hlm]; exact decide_eq_true (by omega)
  rw [e2]
  conv=>whnf
  exact ⟨⟨.inr ⟨rfl,_,_,rfl⟩,.inl rfl,trivial⟩,trivial⟩
 all_goals
  have e2:decide (((l.map Stp.cells).length:Int) > 1024)=false:=by rw [hlm]; exact decide_eq_false (by omega)
  rw [e2]
  conv=>whnf
 ·refine acall.pure _ ((hpt g1 (by omega))) rfl rfl ?_
  conv=>whnf
  refine acall.pure _ (heq) rfl rfl ?_
  conv=>whnf
  refine ⟨by kernel_rfl,fun _ => ?_⟩
  conv=>whnf
  exact ⟨⟨.inr ⟨rfl,_,_,rfl⟩,.inl rfl,trivial⟩,trivial⟩
 refine acall.pure _ ((hpt g1 (by omega))) rfl rfl ?_
 conv=>whnf
 refine acall.pure _ (heq) rfl rfl ?_
 conv=>whnf
 refine ⟨by kernel_rfl,fun _ => ?_⟩
 conv=>whnf
 refine acall.pure _ ((hcl (by omega))) rfl rfl fun _ => ?_
 conv=>whnf
 have hq0:=quo2 l.length (by omega)
 rw [← hlm] at hq0
 refine ⟨by decide,?_⟩
 conv=>whnf
 rw [hq0,hlm]
 refine LoopL.by (fun x:List Stp × Nat=>⟨[(3,.ptr 0 0),(5,.ptr 1 0),(11,.ptr 2 0),(12,.fn 16 [.ptr 2 0,.ptr 0 0,.ptr 1 0]),(13,.tr (ti x.2))],[(0,.cells 25 [.tr (intsT memory),.tr (ti shared),.tr (ti locks),.tr (ti buffer),.tr (coresT cores)]),(1,.cells 27 [.tr (prT p)]),(2,.cells 26 [.tr (stepsT x.1)])],10⟩) (fun x=>x.1.length≤1024∧x.2≤1024∧SI F x.2 x.1) (fun x=>x.2) (l,l.length / 2) [0,1,_] []
  (Sub.mk' rfl ⟨⟨rfl,rfl⟩,⟨rfl,rfl⟩,⟨rfl,rfl⟩,⟨rfl,⟨rfl,rfl⟩,⟨rfl,rfl⟩,⟨rfl,rfl⟩,trivial⟩,.inl rfl,trivial⟩ ⟨⟨rfl,.inl rfl,.inl rfl,.inl rfl,.inl rfl,.inl rfl,trivial⟩,⟨rfl,.inl rfl,trivial⟩,⟨rfl,.inl rfl,trivial⟩,trivial⟩ rfl rfl) ⟨g2,by show l.length / 2≤1024; omega,hS⟩ ?_
 clear hS
 rintro ⟨L,n⟩ ⟨hL,hn,hS⟩ -
 simp only at hL hn hS
 conv=>whnf
 refine csplit (fun h => ?_) (fun h => ?_)
 ·have h:1<n:=by have:=of_decide_eq_true h; omega
  have hk:=hTn n L g1 (by omega) (by omega) (by omega)
  have hl2:=(hLen n L (by omega)).1
  have hS2:=hMore F n L hS h
  generalize TR n L=S at hk hl2 hS2
  obtain ⟨L',any⟩:=S
  simp only at hk hl2 hS2
  conv=>whnf
  refine acall.au [2,0,1] [] (hk) ?_
  intro _
  conv=>whnf
  refine ⟨by decide,?_⟩
  conv=>whnf
  rw [quo2 n (by omega)]
  exact ⟨(L',n / 2),[0,1,2],[],Sub.mk' rfl ⟨⟨rfl,rfl⟩,⟨rfl,rfl⟩,⟨rfl,rfl⟩,⟨rfl,⟨rfl,rfl⟩,⟨rfl,rfl⟩,⟨rfl,rfl⟩,trivial⟩,.inl rfl,trivial⟩ ⟨⟨rfl,.inl rfl,.inl rfl,.inl rfl,.inl rfl,.inl rfl,trivial⟩,⟨rfl,.inl rfl,trivial⟩,⟨rfl,.inl rfl,trivial⟩,trivial⟩ rfl rfl,⟨Nat.le_trans hl2 hL,by show n / 2≤1024; omega,hS2⟩,by show n / 2<n; omega⟩
 ·have h:n≤1:=by have:=of_decide_eq_false h; omega
  have hS:=hOne F n L hS h
  conv=>whnf
  refine ⟨fun _ => ?_,fun h=>absurd rfl h⟩
  conv=>whnf
  refine LoopL.by (fun L:List Stp=>⟨[(3,.ptr 0 0),(5,.ptr 1 0),(11,.ptr 2 0),(12,.fn 16 [.ptr 2 0,.ptr 0 0,.ptr 1 0])],[(0,.cells 25 [.tr (intsT memory),.tr (ti shared),.tr (ti locks),.tr (ti buffer),.tr (coresT cores)]),(1,.cells 27 [.tr (prT p)]),(2,.cells 26 [.tr (stepsT L)])],10⟩) (fun L=>L.length≤1024∧SI F 1 L) (fun L=>L.length) L [0,1,2] []
   (Sub.mk' rfl ⟨⟨rfl,rfl⟩,⟨rfl,rfl⟩,⟨rfl,rfl⟩,⟨rfl,⟨rfl,rfl⟩,⟨rfl,rfl⟩,⟨rfl,rfl⟩,trivial⟩,trivial⟩ ⟨⟨rfl,.inl rfl,.inl rfl,.inl rfl,.inl rfl,.inl rfl,trivial⟩,⟨rfl,.inl rfl,trivial⟩,⟨rfl,.inl rfl,trivial⟩,trivial⟩ rfl rfl) ⟨hL,hS⟩ ?_
  clear hS hL hn h
  rintro L ⟨hL,hS⟩ -
  have hk:=hTn 1 L g1 (by omega) (by omega) (by omega)
  obtain ⟨hl2,hl3⟩:=hLen 1 L (by omega)
  have hA:=hAgain F L hS
  have hB:=hLast F L hS
  generalize TR 1 L=S at hk hl2 hl3 hA hB
  obtain ⟨L',any⟩:=S
  simp only at hk hl2 hl3 hA hB
  conv=>whnf
  refine acall.au [2,0,1] [] (hk) ?_
  intro _
  conv=>whnf
  cases any
  ·have:=hB rfl
   subst this
   conv=>whnf
   refine ⟨fun _ => ?_,fun h=>absurd rfl h⟩
   conv=>whnf
   exact ⟨⟨.inl rfl,.inl rfl,trivial⟩,trivial⟩
  ·have hA:=hA rfl
   have hl3:=hl3 rfl
   conv=>whnf
   refine csplit (fun hz => ?_) (fun hz => ?_)
   ·have hz:L'.length=0:=by have:(((L'.map Stp.cells).length:Int) == 0)=true:=hz; have:=eq_of_beq this; rw [List.length_map] at this; omega
    obtain rfl:=List.eq_nil_of_length_eq_zero hz
    obtain rfl:=hNone F hA
    conv=>whnf
    refine ⟨fun h=>absurd h (by decide),fun _ => ?_⟩
    conv=>whnf
    refine ⟨fun _ => ?_,fun h=>absurd rfl h⟩
    conv=>whnf
    exact ⟨⟨.inl rfl,.inl rfl,trivial⟩,trivial⟩
   ·conv=>whnf
    exact ⟨L',[0,1,2],[],Sub.mk' rfl ⟨⟨rfl,rfl⟩,⟨rfl,rfl⟩,⟨rfl,rfl⟩,⟨rfl,⟨rfl,rfl⟩,⟨rfl,rfl⟩,⟨rfl,rfl⟩,trivial⟩,trivial⟩ ⟨⟨rfl,.inl rfl,.inl rfl,.inl rfl,.inl rfl,.inl rfl,trivial⟩,⟨rfl,.inl rfl,trivial⟩,⟨rfl,.inl rfl,trivial⟩,trivial⟩ rfl rfl,⟨Nat.le_trans hl2 hL,hA⟩,hl3⟩
end Go.Proofs.YtbflekglkkdipaaGreatDoor.am
namespace Go.Proofs.YtbflekglkkdipaaGreatDoor.am
open Go Go.Proofs
set_option linter.all false
theorem stp_leaf (l:List Stp):leafR (l.map Stp.cells):=by
 intro row hr t ht
 obtain ⟨s,_,rfl⟩:=List.mem_map.1 hr
 simp only [Stp.cells,List.mem_cons,List.not_mem_nil,or_false] at ht
 rcases ht with rfl | rfl <;> exact ⟨_,rfl⟩
theorem prn_leaf (l:List Prn):leafR (l.map Prn.row):=by
 intro row hr t ht
 obtain ⟨s,_,rfl⟩:=List.mem_map.1 hr
 simp only [Prn.row,List.mem_cons,List.not_mem_nil,or_false] at ht
 rcases ht with rfl | rfl <;> exact ⟨_,rfl⟩
abbrev stO (l:List Stp):Blk := .own 2 16 (l.map Stp.cells) []
abbrev prO (l:List Prn):Blk := .own 2 16 (l.map Prn.row) []
set_option maxRecDepth 100000 in
theorem s_cloneSO (l:List Stp) (hl:l.length*16≤150000000000000):K 15 [.tr (stepsT l)] [] (.ret (.sl 0 l.length)) [some (stO l)]:=by
 refine Ctr.new [2000001,0] hT hmix Tryz.func15 rfl (fun _ _=>by kernel_rfl) rfl fun hok => ?_
 clear hok
 conv=>whnf
 refine nil_region rfl rfl rfl rfl rfl (by decide) fun b hb => ?_
 cases b
 ·conv=>whnf
  refine CutL.by (fun _:Unit=>⟨[(2,.sl 0 l.length)],[(0,stO l)],10⟩) (fun _=>True) ?_ ?_
  ·conv=>whnf
   refine ⟨rfl,rfl,rfl,Nat.le_refl _,(by show (0+(l.map Stp.cells).length)*16≤150000000000000; rw [List.length_map]; omega),(fun q hq=>by cases hq),?_⟩
   conv=>whnf
   exact ⟨(),[_],[],Sub.mk' rfl ⟨⟨rfl,by simp⟩,trivial⟩ ⟨⟨rfl,rfl,rfl,by simp [stp_leaf],.inl (by simp)⟩,trivial⟩ rfl rfl,trivial⟩
  ·rintro - - -
   conv=>whnf
   exact ⟨[0],rfl,rfl,⟨rfl,rfl⟩,⟨rfl,rfl,rfl,rfl,.inl rfl⟩,trivial⟩
 ·obtain rfl:l=[]:=by
   cases l with
   | nil=>rfl
   | cons x l=>exact absurd (hb (by simp)) (by simp)
  conv=>whnf
  refine CutL.by (fun _:Unit=>⟨[(2,.sl 0 0)],[(0,stO [])],10⟩) (fun _=>True) ?_ ?_
  ·conv=>whnf
   exact ⟨(),[],[0],Sub.mk' rfl ⟨⟨rfl,rfl,rfl,rfl⟩,trivial⟩ ⟨⟨rfl,rfl,rfl,by decide⟩,trivial⟩ rfl rfl,trivial⟩
  ·rintro - - -
   conv=>whnf
   exact ⟨[0],rfl,rfl,⟨rfl,rfl⟩,⟨rfl,rfl,rfl,rfl,.inl rfl⟩,trivial⟩
set_option maxRecDepth 100000 in
theorem s_cloneNO (l:List Prn) (hl:l.length*16≤150000000000000):K 65 [.tr (prT l)] [] (.ret (.sl 0 l.length)) [some (prO l)]:=by
 refine Ctr.new [2000001,0] hT hmix Tryz.func65 rfl (fun _ _=>by kernel_rfl) rfl fun hok => ?_
 clear hok
 conv=>whnf
 refine nil_region rfl rfl rfl rfl rfl (by decide) fun b hb => ?_
 cases b
 ·conv=>whnf
  refine CutL.by (fun _:Unit=>⟨[(2,.sl 0 l.length)],[(0,prO l)],10⟩) (fun _=>True) ?_ ?_
  ·conv=>whnf
   refine ⟨rfl,rfl,rfl,Nat.le_refl _,(by show (0+(l.map Prn.row).length)*16≤150000000000000; rw [List.length_map]; omega),(fun q hq=>by cases hq),?_⟩
   conv=>whnf
   exact ⟨(),[_],[],Sub.mk' rfl ⟨⟨rfl,by simp⟩,trivial⟩ ⟨⟨rfl,rfl,rfl,by simp [prn_leaf],.inl (by simp)⟩,trivial⟩ rfl rfl,trivial⟩
  ·rintro - - -
   conv=>whnf
   exact ⟨[0],rfl,rfl,⟨rfl,rfl⟩,⟨rfl,rfl,rfl,rfl,.inl rfl⟩,trivial⟩
 ·obtain rfl:l=[]:=by
   cases l with
   | nil=>rfl
   | cons x l=>exact absurd (hb (by simp)) (by simp)
  conv=>whnf
  refine CutL.by (fun _:Unit=>⟨[(2,.sl 0 0)],[(0,prO [])],10⟩) (fun _=>True) ?_ ?_
  ·conv=>whnf
   exact ⟨(),[],[0],Sub.mk' rfl ⟨⟨rfl,rfl,rfl,rfl⟩,trivial⟩ ⟨⟨rfl,rfl,rfl,by decide⟩,trivial⟩ rfl rfl,trivial⟩
  ·rintro - - -
   conv=>whnf
   exact ⟨[0],rfl,rfl,⟨rfl,rfl⟩,⟨rfl,rfl,rfl,rfl,.inl rfl⟩,trivial⟩
set_option maxRecDepth 100000 in
theorem s_concatO (a b:List Stp) (hl:a.length+b.length≤4194304):K 17 [.tr (.lst 1 24 [[stepsT a],[stepsT b]])] [] (.ret (.sl 0 (a.length+b.length))) [some (stO (a++b))]:=by
 have hla:(a.map Stp.cells).length=a.length:=List.length_map ..
 have hlb:(b.map Stp.cells).length=b.length:=List.length_map ..
 have e1:IntKind.i64.wrap (0+((a.map Stp.cells).length:Int))=(a.length:Int):=by rw [hla,w64 (by omega) (by omega)]; omega
 have e2:IntKind.i64.wrap ((a.length:Int)+((b.map Stp.cells).length:Int))=((a.length+b.length:Nat):Int):=by rw [hlb,w64 (by omega) (by omega)]; omega
 refine Ctr.new [] hT hmix Tryz.func17 rfl (fun _ _=>by kernel_rfl) rfl fun hok => ?_
 clear hok
 conv=>whnf
 refine LoopL.un 3 ?_
 conv=>whnf
 refine ⟨rfl,by decide,(show (_:Int)<2 by decide),fun row hrow => ?_⟩
 cases hrow
 conv=>whnf
 rw [e1]
 conv=>whnf
 refine ⟨rfl,by decide,(show (_:Int)<2 by decide),fun row hrow => ?_⟩
 cases hrow
 conv=>whnf
 rw [e2]
 conv=>whnf
 refine ⟨fun _ => ?_,fun h=>absurd rfl h⟩
 conv=>whnf
 by_cases hz:a.length+b.length=0
 ·obtain rfl:a=[]:=List.eq_nil_of_length_eq_zero (by omega)
  obtain rfl:b=[]:=List.eq_nil_of_length_eq_zero (by omega)
  refine acall.pure _ (s_grow0) rfl rfl fun _ => ?_
  conv=>whnf
  refine LoopL.un 3 ?_
  conv=>whnf
  refine ⟨rfl,by decide,(show (_:Int)<2 by decide),fun row hrow => ?_⟩
  cases hrow
  conv=>whnf
  refine ⟨by decide,?_⟩
  conv=>whnf
  refine ⟨rfl,by decide,(show (_:Int)<2 by decide),fun row hrow => ?_⟩
  cases hrow
  conv=>whnf
  refine ⟨rfl,rfl,rfl,Nat.zero_le _,by decide,(fun q hq=>by cases hq),?_⟩
  conv=>whnf
  refine ⟨fun _ => ?_,fun h=>absurd rfl h⟩
  conv=>whnf
  exact ⟨[_],rfl,rfl,⟨rfl,rfl⟩,⟨rfl,rfl,rfl,(fun row hr=>by cases hr),.inl rfl⟩,trivial⟩
 ·have hkey:((List.replicate (a.length+b.length) [Tr.v (.int .u8 0),Tr.v (.int .i64 0)]).take 0++a.map Stp.cells).take (0+(a.map Stp.cells).length)++b.map Stp.cells=(a++b).map Stp.cells:=by
   simp only [List.take_zero,List.nil_append,List.take_length,Nat.zero_add]
   rw [List.map_append]
  refine acall.new [] [] _ _ _ _ (s_grow (a.length+b.length) (by omega) hl) rfl rfl rfl rfl aut aut rfl rfl fun _ => ?_
  conv=>whnf
  refine LoopL.un 3 ?_
  conv=>whnf
  refine ⟨rfl,by decide,(show (_:Int)<2 by decide),fun row hrow => ?_⟩
  cases hrow
  conv=>whnf
  refine ⟨rfl,rfl,rfl,Nat.zero_le _,(by show (0+(a.map Stp.cells).length)*16≤_; rw [hla]; omega),(fun q hq=>by cases hq),?_⟩
  conv=>whnf
  refine ⟨rfl,by decide,(show (_:Int)<2 by decide),fun row hrow => ?_⟩
  cases hrow
  conv=>whnf
  refine ⟨rfl,rfl,rfl,(by simp),(by show (0+(a.map Stp.cells).length+(b.map Stp.cells).length)*16≤_; rw [hla,hlb]; omega),(fun q hq=>by cases hq),?_⟩
  conv=>whnf
  refine ⟨fun _ => ?_,fun h=>absurd rfl h⟩
  conv=>whnf
  exact ⟨[_],rfl,rfl,⟨rfl,by simp⟩,⟨rfl,rfl,rfl,Eq.mpr (congrArg leafR hkey) (stp_leaf _),.inl hkey⟩,trivial⟩
set_option maxRecDepth 100000 in
theorem s_printsN (s:Mst) (hl:s.prints.length*16≤150000000000000):K 38 [.ptr 0 0] s.blks (.ret (.sl 4 s.prints.length)) [none,none,none,none,some (prO s.prints)]:=by
 have hc:=s_cloneNO s.prints hl
 refine Ctr.new [] hT hmix Tryz.func38 rfl (fun _ _=>by kernel_rfl) rfl fun hok => ?_
 clear hok
 conv=>whnf
 refine acall.new [] [3] _ _ _ _ hc rfl rfl rfl rfl ⟨⟨rfl,(by rw [List.length_map]; exact Nat.le_refl _),(by rw [List.take_of_length_le (by simp)])⟩,trivial⟩ trivial rfl rfl fun _ => ?_
 conv=>whnf
 exact ⟨[0,1,2,3,_],rfl,rfl,⟨rfl,rfl⟩,⟨rfl,rfl,rfl,rfl,.inl rfl⟩,trivial⟩
set_option maxRecDepth 100000 in
set_option maxHeartbeats 2000000 in
theorem s_printedN (o:Ob) (l:List Stp) (h0:(checkO o).1=0) (hl:l.length≤1048576):K 14 [o.av,.tr (stepsT l)] [] (.ret (.sl 0 (finL (newM o) l).prints.length)) [some (prO (finL (newM o) l).prints)]:=by
 have hg:=check_good h0
 have hn1:=k_vnew o h0 hg.mem hg.cores (fun c hc=>(hg.code c hc).2)
 have hV:=VInv.new h0
 have hpr0:(newM o).prints.length=0:=rfl
 generalize hF:finL (newM o) l=sF
 clear h0 hg
 generalize newM o=s0 at hn1 hV hpr0 hF
 obtain ⟨memory,shared,locks,buffer,cores⟩:=o
 have hlm:(l.map Stp.cells).length=l.length:=List.length_map ..
 refine Ctr.new [] hT hmix Tryz.func14 rfl (fun _ _=>by kernel_rfl) rfl fun hok => ?_
 clear hok
 conv=>whnf
 refine acall.new [] [] _ _ _ _ hn1 rfl rfl rfl rfl aut aut rfl rfl fun _ => ?_
 conv=>whnf
 refine LoopL.by (fun x:Mst × Nat=>⟨[(5,.ptr 0 0),(14,.tr (stepsT l)),(15,.tr (ti l.length)),(16,.tr (ti x.2))],[(0,maB x.1),(1,csB x.1.cores),(2,meB x.1.mem),(3,prB x.1.prints)],10⟩) (fun x=>VInv x.1∧x.1.prints.length≤x.2∧x.2≤l.length∧finL x.1 (l.drop x.2)=sF) (fun x=>l.length - x.2) (s0,0) [_,_,_,_] []
  (Sub.mk' rfl ⟨⟨rfl,rfl⟩,.inl rfl,.inl (by rw [← hlm]),.inl rfl,trivial⟩ ⟨⟨rfl,.inl rfl,.inl rfl,.inl rfl,.inl rfl,.inl rfl,⟨rfl,rfl⟩,⟨rfl,rfl⟩,⟨rfl,rfl⟩,trivial⟩,⟨rfl,rfl,rfl,rfl,.inl rfl⟩,⟨rfl,rfl,rfl,rfl⟩,⟨rfl,rfl,rfl,rfl⟩,trivial⟩ rfl rfl)
  ⟨hV,by show s0.prints.length≤0; omega,Nat.zero_le _,hF⟩ ?_
 clear hV hpr0 hF hn1
 rintro ⟨s,i⟩ ⟨hV,hpr,hi,hrun⟩ -
 simp only at hV hpr hi hrun
 conv=>whnf
 refine csplit (fun hlt => ?_) (fun hge => ?_)
 ·have hlt:i<l.length:=by have:=of_decide_eq_true hlt; omega
  obtain ⟨x,hx⟩ : ∃ x,l[i]? = some x:=⟨_,List.getElem?_eq_getElem hlt⟩
  rw [finL_drop hx] at hrun
  obtain ⟨kd,c⟩:=x
  simp only at hrun
  have hst:=k_step s hV (by omega) kd c
  have hIn:=stepS_inv hV kd c
  have hpn:=stepS_prints s kd c
  generalize stepS s kd c=S at hst hIn hpn hrun
  obtain ⟨s',⟨dk,dc,da,dd,dw,dp,dn⟩,e⟩:=S
  simp only at hst hIn hpn hrun
  conv=>whnf
  refine ⟨rfl,(show (0:Int)≤i by omega),(show (i:Int)<((l.map Stp.cells).length:Int) by omega),fun row hrow => ?_⟩
  replace hrow:(l.map Stp.cells)[i]? = some row:=hrow
  rw [List.getElem?_map,hx] at hrow
  cases hrow
  conv=>whnf
  rcases hst with hst | hst
  ·refine acall.au [0,1,2,3] [] hst ?_
   intro _
   conv=>whnf
   exact ⟨(s',i+1),[0,1,2,3],[],Sub.mk' rfl ⟨⟨rfl,rfl⟩,.inl rfl,.inl rfl,.inl (ti_succ hlt (by omega)),trivial⟩ ⟨⟨rfl,.inl rfl,.inl rfl,.inl rfl,.inl rfl,.inl rfl,⟨rfl,rfl⟩,⟨rfl,rfl⟩,⟨rfl,rfl⟩,trivial⟩,⟨rfl,rfl,rfl,rfl,.inl rfl⟩,⟨rfl,rfl,rfl,rfl⟩,⟨rfl,rfl,rfl,rfl⟩,trivial⟩ rfl rfl,⟨hIn,by show s'.prints.length≤i+1; omega,hlt,hrun⟩,by show l.length - (i+1)<l.length - i; omega⟩
  ·refine acall.new [0,1,2,3] [] _ _ _ _ hst rfl rfl rfl rfl aut aut rfl rfl fun _ => ?_
   conv=>whnf
   exact ⟨(s',i+1),[0,1,2,_],[],Sub.mk' rfl ⟨⟨rfl,rfl⟩,.inl rfl,.inl rfl,.inl (ti_succ hlt (by omega)),trivial⟩ ⟨⟨rfl,.inl rfl,.inl rfl,.inl rfl,.inl rfl,.inl rfl,⟨rfl,rfl⟩,⟨rfl,rfl⟩,⟨rfl,rfl⟩,trivial⟩,⟨rfl,rfl,rfl,rfl,.inl rfl⟩,⟨rfl,rfl,rfl,rfl⟩,⟨rfl,rfl,rfl,rfl⟩,trivial⟩ rfl rfl,⟨hIn,by show s'.prints.length≤i+1; omega,hlt,hrun⟩,by show l.length - (i+1)<l.length - i; omega⟩
 have hge:i=l.length:=by have:=of_decide_eq_false hge; omega
 subst hge
 rw [List.drop_length] at hrun
 have hrun:s=sF:=hrun
 subst hrun
 have hpp:=s_printsN s (by omega)
 conv=>whnf
 refine ⟨fun _ => ?_,fun h=>absurd rfl h⟩
 conv=>whnf
 refine acall.new [0,1,2,3] [] _ _ _ _ hpp rfl rfl rfl rfl aut aut rfl rfl fun _ => ?_
 conv=>whnf
 exact ⟨[_],rfl,rfl,⟨rfl,rfl⟩,⟨rfl,rfl,rfl,rfl,.inl rfl⟩,trivial⟩
end Go.Proofs.YtbflekglkkdipaaGreatDoor.am
