/- The layings of the library's contracts (written by the kit's lay-shelf and lay-plain). Contracts of Go's library, and of reading and writing -/
import Derived.Shelf.Strconv.Itoa0
import Derived.Shelf.Strconv.Itoa1
import Derived.Shelf.LaysM
import Derived.Shelf.Strconv.Itoa2
import Derived.Shelf.Strconv.Itoa3
import Derived.Test.YthboippafkcoiaaDoorProg
import Derived.Test.YthboippafkcoiaaDoorT8
import Derived.Test.YthboippafkcoiaaDoorT12
import Derived.Lib.ItoaLen
import Derived.Lib.AppendIntMem
import Derived.Test.YthboippafkcoiaaDoorT10
set_option linter.all false
set_option linter.all false
namespace Go.Proofs
open Go.Shelf
def Tryd.laysM171_ren:Go.Shelf.Ren:=⟨fun | 171=>36 | 243=>57 | 246=>77 | 283=>87 | 284=>88 | 285=>89 | 286=>90 | 129=>96 | 317=>95 | 318=>97 | 319=>98 | 320=>99 | 337=>104 | 338=>105 | n=>n,fun | 3=>3 | 9=>9 | 2=>2 | 4=>4 | 171=>145 | 0=>0 | 53=>146 | 37=>95 | 5=>5 | 173=>149 | 212=>159 | 51=>160 | 20=>20 | 213=>161 | 46=>163 | 232=>176 | 233=>177 | n=>n,fun | 17=>1 | 18=>2 | 19=>3 | n=>n⟩
theorem Tryd.laysM171:Go.Proofs.LaysM.n171 Tryd.prog Tryd.laysM171_ren := {
 mixed:=by kernel_rfl
 f129:=Tryd.func96.trans (congrArg some (by kernel_rfl))
 f171:=Tryd.func36.trans (congrArg some (by kernel_rfl))
 f243:=Tryd.func57.trans (congrArg some (by kernel_rfl))
 f246:=Tryd.func77.trans (congrArg some (by kernel_rfl))
 f283:=Tryd.func87.trans (congrArg some (by kernel_rfl))
 f284:=Tryd.func88.trans (congrArg some (by kernel_rfl))
 f285:=Tryd.func89.trans (congrArg some (by kernel_rfl))
 f286:=Tryd.func90.trans (congrArg some (by kernel_rfl))
 f317:=Tryd.func95.trans (congrArg some (by kernel_rfl))
 f318:=Tryd.func97.trans (congrArg some (by kernel_rfl))
 f319:=Tryd.func98.trans (congrArg some (by kernel_rfl))
 f320:=Tryd.func99.trans (congrArg some (by kernel_rfl))
 f337:=Tryd.func104.trans (congrArg some (by kernel_rfl))
 f338:=Tryd.func105.trans (congrArg some (by kernel_rfl))
 t0:=Tryd.underlying0
 a0:=Tryd.isAgg0
 z0:=Tryd.sizeOf0
 v0:=Tryd.zeroValue0
 t2:=Tryd.underlying2
 a2:=Tryd.isAgg2
 z2:=Tryd.sizeOf2
 v2:=Tryd.zeroValue2
 t3:=Tryd.underlying3
 a3:=Tryd.isAgg3
 z3:=Tryd.sizeOf3
 v3:=Tryd.zeroValue3
 t4:=Tryd.underlying4
 a4:=Tryd.isAgg4
 z4:=Tryd.sizeOf4
 v4:=Tryd.zeroValue4
 t5:=Tryd.underlying5
 a5:=Tryd.isAgg5
 z5:=Tryd.sizeOf5
 v5:=Tryd.zeroValue5
 t9:=Tryd.underlying9
 a9:=Tryd.isAgg9
 z9:=Tryd.sizeOf9
 v9:=Tryd.zeroValue9
 t20:=Tryd.underlying20
 a20:=Tryd.isAgg20
 z20:=Tryd.sizeOf20
 v20:=Tryd.zeroValue20
 t37:=Tryd.underlying95
 a37:=Tryd.isAgg95
 z37:=Tryd.sizeOf95
 v37:=Tryd.zeroValue95
 t46:=Tryd.underlying163
 a46:=Tryd.isAgg163
 z46:=Tryd.sizeOf163
 v46:=Tryd.zeroValue163
 t51:=Tryd.underlying160
 a51:=Tryd.isAgg160
 z51:=Tryd.sizeOf160
 v51:=Tryd.zeroValue160
 t53:=Tryd.underlying146
 a53:=Tryd.isAgg146
 z53:=Tryd.sizeOf146
 v53:=Tryd.zeroValue146
 t171:=Tryd.underlying145
 a171:=Tryd.isAgg145
 z171:=Tryd.sizeOf145
 v171:=Tryd.zeroValue145
 t173:=Tryd.underlying149
 a173:=Tryd.isAgg149
 z173:=Tryd.sizeOf149
 v173:=Tryd.zeroValue149
 t212:=Tryd.underlying159
 a212:=Tryd.isAgg159
 z212:=Tryd.sizeOf159
 v212:=Tryd.zeroValue159
 t213:=Tryd.underlying161
 a213:=Tryd.isAgg161
 z213:=Tryd.sizeOf161
 t232:=Tryd.underlying176
 a232:=Tryd.isAgg176
 z232:=Tryd.sizeOf176
 v232:=Tryd.zeroValue176
 t233:=Tryd.underlying177
 a233:=Tryd.isAgg177
 z233:=Tryd.sizeOf177
 v233:=Tryd.zeroValue177
 g17:=by kernel_rfl
 g18:=by kernel_rfl
 g19:=by kernel_rfl
 i0:=by kernel_rfl
 i2:=by kernel_rfl
 i3:=by kernel_rfl
 i4:=by kernel_rfl
 i5:=by kernel_rfl
 i9:=by kernel_rfl
 i20:=by kernel_rfl
 i37:=by kernel_rfl
 i46:=by kernel_rfl
 i51:=by kernel_rfl
 i53:=by kernel_rfl
 i171:=by kernel_rfl
 i173:=by kernel_rfl
 i212:=by kernel_rfl
 i232:=by kernel_rfl
 i233:=by kernel_rfl
 m17:=by kernel_rfl
 m18:=by kernel_rfl
 m19:=by kernel_rfl }
end Go.Proofs
namespace Go.Proofs.YthboippafkcoiaaDoor.am
open Go Go.Proofs Go.RowKit
theorem Ctr.ofCalls {f:Nat} {args:List AV} {a:AV} (hc:Callable Tryd.prog f) (h : ∀ (g:Gh) (w:World) (vs:Array Value),MSt g w (ofL [])→vs.size=args.length→(∀ (i:Nat) (v:Value) (a:AV),vs[i]? = some v→args[i]? = some a→Rep g w v a) →
  Calls Tryd.prog f vs w fun e w' => ∃ v,e = .returned v∧Below w.heap.size w w'∧(Grow g w g w'→MSt g w' (ofLO [])→Rep g w' v a)):K f args [] (.ret a) []:=by
 refine ⟨hc,fun g w vs hun hm hsz hv=>(h g w vs hm hsz hv).mono ?_⟩
 rintro e w' ⟨v,rfl,hb,hR⟩
 have hG:Grow g w g w':=⟨hb.os,hb.tape,hb.output,hb.size,fun b hk=>hb.block b hk.1,fun b hk=>hb.block b (hm.xlt b hk),rfl,fun _ h=>h,fun _ _ h => .inl h,fun k b e => .inl ⟨k,e⟩⟩
 have hM:MSt g w' (ofLO []):=⟨fun h b e=>(by simp [ofLO] at e),hm.inj,fun k b e=>Nat.lt_of_lt_of_le (hm.lt k b e) hb.size,fun b hk=>Nat.lt_of_lt_of_le (hm.xlt b hk) hb.size,hm.xl,hm.gl.grow hG⟩
 exact ⟨g,hG,hM,fun k _ l hl=>(by have:=hun k (Nat.zero_le _); rw [this] at hl; cases hl),hR hG hM⟩
theorem one_arg {vs:Array Value} (h:vs.size=1) : ∃ v,vs = #[v]:=by
 obtain ⟨l⟩:=vs
 match l,h with
 | [v],_=>exact ⟨v,rfl⟩
theorem powTab {g:Gh} {w:World} (h:GL g w) {name:String} (hn : Tryd.prog.globalNamed name=some 1):Lib.TabIs Tryd.prog w name .u64 Lib.pow10Tab:=by
 obtain ⟨_,t,fz,e⟩:=h _ _ ⟨rfl,rfl⟩
 unfold Lib.TabIs World.var?
 rw [hn,Option.bind_some,e]
 rfl
def prnB (n:Int):ByteArray:=⟨(ws.prn n).toArray⟩
theorem decDigits_dig (u:Nat):Lib.decDigits u=ws.dig u:=by
 induction u using Nat.strongRecOn with
 | _ u ih =>
  by_cases h:u<10
  ·rw [Lib.decDigits,dif_pos h,ws.dig_small h]; rfl
  ·rw [Lib.decDigits,dif_neg h,ws.dig_big h,ih (u / 10) (by omega)]; rfl
theorem itoa_prn (n:Int):Lib.itoa n=ws.prn n:=by
 unfold Lib.itoa ws.prn
 split
 ·rw [decDigits_dig,show n.natAbs=(-n).toNat by omega]
 ·rw [decDigits_dig]
theorem prn_len {n:Int} (h1 : -9223372036854775808≤n) (h2:n≤9223372036854775807):(prnB n).size≤21:=by
 show (ws.prn n).toArray.size≤21
 rw [List.size_toArray,← itoa_prn]
 exact Lib.itoa_length_le n h1 h2
theorem k_itoa (n:Int):K 36 [.tr (ti n)] [] (.ret (.tr (ts (prnB n)))) []:=by
 refine Ctr.ofCalls (fun _ _=>by kernel_rfl) fun g w vs hm hsz hv => ?_
 obtain ⟨v,rfl⟩:=one_arg hsz
 obtain ⟨rfl,h1,h2⟩:=val_inv (hv 0 v (.tr (ti n)) rfl rfl)
 refine (Any.strconv_Itoa Tryd.laysM171 n h1 h2 w (powTab hm.gl (by kernel_rfl))).mono ?_
 rintro e w' ⟨rfl,k,os,rfl⟩
 rw [itoa_prn]
 exact ⟨_,rfl,Lib.below_grow _ _ (Nat.le_refl _) _ _,fun _ _ => .tr (.v (Nat.le_trans (prn_len h1 h2) (by omega)))⟩
end Go.Proofs.YthboippafkcoiaaDoor.am
namespace Go.Proofs.YthboippafkcoiaaDoor.am
open Go Go.Proofs
set_option linter.all false
theorem prn_0:prnB 0=⟨#[48]⟩:=by unfold prnB ws.prn; rw [if_neg (by decide),show (0:Int).toNat=0 from rfl,ws.dig_small (by decide)]; rfl
theorem prn_1:prnB 1=⟨#[49]⟩:=by unfold prnB ws.prn; rw [if_neg (by decide),show (1:Int).toNat=1 from rfl,ws.dig_small (by decide)]; rfl
theorem prn_2:prnB 2=⟨#[50]⟩:=by unfold prnB ws.prn; rw [if_neg (by decide),show (2:Int).toNat=2 from rfl,ws.dig_small (by decide)]; rfl
theorem k_itoa0:K 36 [.tr (ti 0)] [] (.ret (.tr (ts ⟨#[48]⟩))) []:=by have:=k_itoa 0; rwa [prn_0] at this
theorem k_itoa1:K 36 [.tr (ti 1)] [] (.ret (.tr (ts ⟨#[49]⟩))) []:=by have:=k_itoa 1; rwa [prn_1] at this
theorem k_itoa2:K 36 [.tr (ti 2)] [] (.ret (.tr (ts ⟨#[50]⟩))) []:=by have:=k_itoa 2; rwa [prn_2] at this
set_option maxRecDepth 100000 in
theorem k_slot0T:K 79 [.tr (ti 0)] [] (.ret (.tr (ts ⟨#[115,48]⟩))) []:=by
 refine Ctr.of hT hmix Tryd.func79 rfl (fun _ _=>by kernel_rfl) rfl fun hok => ?_
 clear hok
 conv=>whnf
 refine acall.pure _ (k_itoa0) rfl rfl fun _ => ?_
 conv=>whnf
 refine ⟨by decide,?_⟩
 conv=>whnf
 exact ⟨.inl (congrArg ts (by kernel_rfl)),trivial⟩
set_option maxRecDepth 100000 in
theorem k_valS0:K 80 [valA true 0 0] [] (.ret (.tr (ts ⟨#[115,48]⟩))) []:=by
 refine Ctr.of hT hmix Tryd.func80 rfl (fun _ _=>by kernel_rfl) rfl fun hok => ?_
 clear hok
 conv=>whnf
 refine acall.pure _ (k_slot0T) rfl rfl fun _ => ?_
 conv=>whnf
 exact ⟨.inl rfl,trivial⟩
def u0:Un:=⟨p0.shared,[],[g0]⟩
set_option maxRecDepth 100000 in
theorem k_thing0:K 78 [.ptr 0 0,.ptr 1 0] [.cells 54 (nd0a.cells.map .tr),.cells 29 (u0.cells.map .tr)] (.ret (.tr (ts xS))) [some (.cells 54 (nd0a.cells.map .tr)),some (.cells 29 (u0.cells.map .tr))]:=by
 refine Ctr.of hT hmix Tryd.func78 rfl (fun _ _=>by kernel_rfl) rfl fun hok => ?_
 clear hok
 conv=>whnf
 refine ⟨rfl,by decide,by decide,fun row hrow => ?_⟩
 obtain rfl:Decl.cells ⟨xS,0,0⟩=row:=Option.some.inj hrow
 clear hrow
 conv=>whnf
 exact ⟨.inl rfl,⟨rfl,.inl rfl,.inl rfl,.inl rfl,.inl rfl,.inl rfl,.inl rfl,.inl rfl,.inl rfl,.inl rfl,.inl rfl,.inl rfl,.inl rfl,.inl rfl,trivial⟩,⟨rfl,.inl rfl,.inl rfl,.inl rfl,trivial⟩,trivial⟩
set_option maxRecDepth 100000 in
theorem k_does2:K 58 [u0.av,en0.av] [] (.ret (.tr (ts ⟨#[101,110,100]⟩))) []:=by
 refine Ctr.of hT hmix Tryd.func58 rfl (fun _ _=>by kernel_rfl) rfl fun hok => ?_
 clear hok
 conv=>whnf
 exact ⟨.inl rfl,trivial⟩
set_option maxRecDepth 100000 in
theorem k_does1:K 58 [u0.av,br0e.av] [] (.ret (.tr (ts ⟨#[98,114,97,110,99,104,32,115,48]⟩))) []:=by
 refine Ctr.of hT hmix Tryd.func58 rfl (fun _ _=>by kernel_rfl) rfl fun hok => ?_
 clear hok
 conv=>whnf
 refine acall.pure _ (k_valS0) rfl rfl fun _ => ?_
 conv=>whnf
 refine ⟨by decide,?_⟩
 conv=>whnf
 exact ⟨.inl (congrArg ts (by kernel_rfl)),trivial⟩
set_option maxRecDepth 100000 in
theorem k_does0:K 58 [u0.av,nd0a.av] [] (.ret (.tr (ts ⟨#[115,48,32,61,32,120]⟩))) []:=by
 refine Ctr.of hT hmix Tryd.func58 rfl (fun _ _=>by kernel_rfl) rfl fun hok => ?_
 clear hok
 conv=>whnf
 refine acall.pure _ (k_slot0T) rfl rfl fun _ => ?_
 conv=>whnf
 refine ⟨by decide,?_⟩
 conv=>whnf
 refine acall.au [1,0] [] (k_thing0) ?_
 intro _
 conv=>whnf
 refine ⟨by decide,?_⟩
 conv=>whnf
 exact ⟨.inl (congrArg ts (by kernel_rfl)),trivial⟩
set_option maxRecDepth 100000 in
theorem k_text0:K 37 [u0.av,nd0a.av] [] (.ret (.tr (ts ⟨#[115,48,32,61,32,120,32,45,62,32,49]⟩))) []:=by
 refine Ctr.of hT hmix Tryd.func37 rfl (fun _ _=>by kernel_rfl) rfl fun hok => ?_
 clear hok
 conv=>whnf
 refine acall.pure _ (k_does0) rfl rfl fun _ => ?_
 conv=>whnf
 refine acall.pure _ (k_itoa1) rfl rfl fun _ => ?_
 conv=>whnf
 refine ⟨by decide,?_⟩
 conv=>whnf
 refine ⟨by decide,?_⟩
 conv=>whnf
 exact ⟨.inl (congrArg ts (by kernel_rfl)),trivial⟩
set_option maxRecDepth 100000 in
theorem k_text1:K 37 [u0.av,br0e.av] [] (.ret (.tr (ts ⟨#[98,114,97,110,99,104,32,115,48,32,45,62,32,48,32,50]⟩))) []:=by
 refine Ctr.of hT hmix Tryd.func37 rfl (fun _ _=>by kernel_rfl) rfl fun hok => ?_
 clear hok
 conv=>whnf
 refine acall.pure _ (k_does1) rfl rfl fun _ => ?_
 conv=>whnf
 refine acall.pure _ (k_itoa0) rfl rfl fun _ => ?_
 conv=>whnf
 refine ⟨by decide,?_⟩
 conv=>whnf
 refine ⟨by decide,?_⟩
 conv=>whnf
 refine acall.pure _ (k_itoa2) rfl rfl fun _ => ?_
 conv=>whnf
 refine ⟨by decide,?_⟩
 conv=>whnf
 refine ⟨by decide,?_⟩
 conv=>whnf
 exact ⟨.inl (congrArg ts (by kernel_rfl)),trivial⟩
set_option maxRecDepth 100000 in
theorem k_text2:K 37 [u0.av,en0.av] [] (.ret (.tr (ts ⟨#[101,110,100]⟩))) []:=by
 refine Ctr.of hT hmix Tryd.func37 rfl (fun _ _=>by kernel_rfl) rfl fun hok => ?_
 clear hok
 conv=>whnf
 refine acall.pure _ (k_does2) rfl rfl fun _ => ?_
 conv=>whnf
 exact ⟨.inl (congrArg ts (by kernel_rfl)),trivial⟩
def prP:Nat→List UInt8
 | 0=>[116,104,114,101,97,100,32,97,10]
 | 1=>[116,104,114,101,97,100,32,97,10,48,32,115,48,32,61,32,120,32,45,62,32,49,10]
 | 2=>[116,104,114,101,97,100,32,97,10,48,32,115,48,32,61,32,120,32,45,62,32,49,10,49,32,98,114,97,110,99,104,32,115,48,32,45,62,32,48,32,50,10]
 | _=>[116,104,114,101,97,100,32,97,10,48,32,115,48,32,61,32,120,32,45,62,32,49,10,49,32,98,114,97,110,99,104,32,115,48,32,45,62,32,48,32,50,10,50,32,101,110,100,10]
abbrev prB (l:List UInt8):Blk := .vec 5 1 1 (brows l)
set_option maxRecDepth 100000 in
theorem k_print0:K 20 [u0.av] [] (.ret (.tup [.tr (ts ⟨#[116,104,114,101,97,100,32,97,10,48,32,115,48,32,61,32,120,32,45,62,32,49,10,49,32,98,114,97,110,99,104,32,115,48,32,45,62,32,48,32,50,10,50,32,101,110,100,10]⟩),.tr (ti 0)])) []:=by
 have hch:=k_check u0
 rw [show (checkU u0).1=0 from by kernel_rfl,show (checkU u0).2.1=0 from by kernel_rfl,show (checkU u0).2.2=0 from by kernel_rfl] at hch
 refine Ctr.of hT hmix Tryd.func20 rfl (fun _ _=>by kernel_rfl) rfl fun hok => ?_
 clear hok
 conv=>whnf
 refine acall.pure _ (hch) rfl rfl fun _ => ?_
 conv=>whnf
 refine .inl ⟨2,?_⟩
 conv=>whnf
 refine ⟨rfl,Int.le_refl _,(by decide),fun row hrow => ?_⟩
 obtain rfl:Gr.cells g0=row:=Option.some.inj hrow
 clear hrow
 conv=>whnf
 refine ⟨by decide,?_⟩
 conv=>whnf
 refine ⟨by decide,?_⟩
 conv=>whnf
 refine ⟨by decide,?_⟩
 conv=>whnf
 refine LoopL.by (fun i:Nat=>⟨[(1,.ptr 0 0),(7,.sl 1 (prP i).length),(22,.tr (graphsT [g0])),(23,.tr (ti 1)),(24,.tr (ti 0)),(35,.tr (nodesT g0.nodes)),(36,.tr (ti 3)),(37,.tr (ti (i:Nat)))],[(0,.cells 29 (u0.cells.map .tr)),(1,prB (prP i))],10⟩) (fun i=>i≤3) (fun i=>3 - i) 0 [_,_] []
  (Sub.mk' rfl ⟨⟨rfl,rfl⟩,⟨rfl,rfl⟩,.inl rfl,.inl rfl,.inl rfl,.inl rfl,.inl rfl,.inl rfl,trivial⟩ ⟨⟨rfl,.inl rfl,.inl rfl,.inl rfl,trivial⟩,⟨rfl,rfl,rfl,rfl⟩,trivial⟩ rfl rfl) (Nat.zero_le _) ?_
 rintro i hi -
 have hi4:i=0∨i=1∨i=2∨i=3:=by omega
 clear hi
 rcases hi4 with rfl | rfl | rfl | rfl
 ·conv=>whnf
  refine ⟨rfl,by decide,by decide,fun row hrow => ?_⟩
  obtain rfl:Nd.cells nd0a=row:=Option.some.inj hrow
  clear hrow
  conv=>whnf
  refine acall.pure _ (k_itoa0) rfl rfl ?_
  conv=>whnf
  refine ⟨by decide,?_⟩
  conv=>whnf
  refine acall.pure _ (k_text0) rfl rfl ?_
  conv=>whnf
  refine ⟨by decide,?_⟩
  conv=>whnf
  refine ⟨by decide,?_⟩
  conv=>whnf
  refine ⟨rfl,rfl,rfl,by decide,by decide,?_⟩
  conv=>whnf
  refine ⟨by kernel_rfl,fun _ => ?_⟩
  conv=>whnf
  exact ⟨1,[0,_],[],Sub.mk' rfl ⟨⟨rfl,rfl⟩,⟨rfl,by kernel_rfl⟩,.inl rfl,.inl rfl,.inl rfl,.inl rfl,.inl rfl,.inl rfl,trivial⟩ ⟨⟨rfl,.inl rfl,.inl rfl,.inl rfl,trivial⟩,⟨rfl,rfl,rfl,by kernel_rfl⟩,trivial⟩ rfl rfl,by decide,by decide⟩
 ·conv=>whnf
  refine ⟨rfl,by decide,by decide,fun row hrow => ?_⟩
  obtain rfl:Nd.cells br0e=row:=Option.some.inj hrow
  clear hrow
  conv=>whnf
  refine acall.pure _ (k_itoa1) rfl rfl ?_
  conv=>whnf
  refine ⟨by decide,?_⟩
  conv=>whnf
  refine acall.pure _ (k_text1) rfl rfl ?_
  conv=>whnf
  refine ⟨by decide,?_⟩
  conv=>whnf
  refine ⟨by decide,?_⟩
  conv=>whnf
  refine ⟨rfl,rfl,rfl,by decide,by decide,?_⟩
  conv=>whnf
  refine ⟨by kernel_rfl,fun _ => ?_⟩
  conv=>whnf
  exact ⟨2,[0,_],[],Sub.mk' rfl ⟨⟨rfl,rfl⟩,⟨rfl,by kernel_rfl⟩,.inl rfl,.inl rfl,.inl rfl,.inl rfl,.inl rfl,.inl rfl,trivial⟩ ⟨⟨rfl,.inl rfl,.inl rfl,.inl rfl,trivial⟩,⟨rfl,rfl,rfl,by kernel_rfl⟩,trivial⟩ rfl rfl,by decide,by decide⟩
 ·conv=>whnf
  refine ⟨rfl,by decide,by decide,fun row hrow => ?_⟩
  obtain rfl:Nd.cells en0=row:=Option.some.inj hrow
  clear hrow
  conv=>whnf
  refine acall.pure _ (k_itoa2) rfl rfl ?_
  conv=>whnf
  refine ⟨by decide,?_⟩
  conv=>whnf
  refine acall.pure _ (k_text2) rfl rfl ?_
  conv=>whnf
  refine ⟨by decide,?_⟩
  conv=>whnf
  refine ⟨by decide,?_⟩
  conv=>whnf
  refine ⟨rfl,rfl,rfl,by decide,by decide,?_⟩
  conv=>whnf
  refine ⟨by kernel_rfl,fun _ => ?_⟩
  conv=>whnf
  exact ⟨3,[0,_],[],Sub.mk' rfl ⟨⟨rfl,rfl⟩,⟨rfl,by kernel_rfl⟩,.inl rfl,.inl rfl,.inl rfl,.inl rfl,.inl rfl,.inl rfl,trivial⟩ ⟨⟨rfl,.inl rfl,.inl rfl,.inl rfl,trivial⟩,⟨rfl,rfl,rfl,by kernel_rfl⟩,trivial⟩ rfl rfl,by decide,by decide⟩
 ·conv=>whnf
  refine ⟨fun _ => ?_,fun h=>absurd rfl h⟩
  conv=>whnf
  refine ⟨fun _ => ?_,fun h=>absurd rfl h⟩
  conv=>whnf
  refine ⟨prP 3,by kernel_rfl,by decide,?_⟩
  conv=>whnf
  exact ⟨⟨.inl (congrArg ts (by kernel_rfl)),.inl rfl,trivial⟩,trivial⟩
end Go.Proofs.YthboippafkcoiaaDoor.am
namespace Go.Proofs.YthboippafkcoiaaDoor.am
open Go Go.Proofs
set_option linter.all false
theorem f0_0:fol g0 0=[1]:=by kernel_rfl
theorem f0_1:fol g0 1=[0,2]:=by kernel_rfl
theorem f0_2:fol g0 2=[]:=by kernel_rfl
theorem f0_n (n:Nat):fol g0 (n+3)=[]:=by
 unfold fol
 rw [List.getElem?_eq_none (show g0.nodes.length≤n+3 from Nat.le_add_left 3 n)]
theorem f0_lt : ∀ a,∀ b ∈ fol g0 a,b<3
 | 0,b,h=>by rw [f0_0] at h; simp at h; omega
 | 1,b,h=>by rw [f0_1] at h; simp at h; omega
 | 2,b,h=>by rw [f0_2] at h; cases h
 | n+3,b,h=>by rw [f0_n] at h; cases h
theorem r0_0 {c:Int}:Rch (fol g0) c 0 := .zero
theorem r0_1 {c:Int} (h:c≠0):Rch (fol g0) c 1 := .step .zero (fun w=>h w.symm) (by rw [f0_0]; simp)
theorem r0_2:Rch (fol g0) (-1) 2 := .step (r0_1 (by decide)) (by decide) (by rw [f0_1]; simp)
theorem d01:Dm (fol g0) 0 1:=dm_zero (r0_1 (by decide))
theorem d12:Dm (fol g0) 1 2:=by
 refine ⟨r0_1 (by decide),r0_2,.inr fun h => ?_⟩
 have : ∀ y,Rch (fol g0) ((1:Nat):Int) y→y=0∨y=1:=fun y hy=>by
  induction hy with
  | zero=>exact .inl rfl
  | step _ h1 h2 ih =>
   rcases ih with rfl | rfl
   ·rw [f0_0] at h2; simp at h2; exact .inr h2
   ·exact absurd rfl h1
 rcases this 2 h with w | w <;> cases w
theorem nd21 : ¬ Dm (fol g0) 2 1:=fun h=>h.2.2.elim (fun w=>by cases w) fun w=>w (r0_1 (by decide))
theorem nd10 : ¬ Dm (fol g0) 1 0:=not_dm_zero (by decide)
theorem lt0 {c x:Nat} (h:Dm (fol g0) c x):c=0∨c=1∨c=2:=by
 have:=h.1.lt (N:=3) (by decide) f0_lt
 omega
theorem idom0:idomL (fol g0) 3=[-1,0,1]:=by
 have e:=fun x v h=>idomI_eq (fol:=fol g0) (N:=3) (by decide) f0_lt (x:=x) (v:=v) h
 show [idomI (fol g0) 0,idomI (fol g0) 1,idomI (fol g0) 2]=_
 rw [e 0 (-1) (.inl ⟨rfl,.inl rfl⟩),e 1 0 (.inr ⟨by decide,0,rfl,by decide,d01,fun c hc hd => ?_⟩),e 2 1 (.inr ⟨by decide,1,rfl,by decide,d12,fun c hc hd => ?_⟩)]
 ·rcases lt0 hd with rfl | rfl | rfl
  ·exact d01
  ·exact dm_refl (r0_1 (by decide))
  ·exact absurd rfl hc
 ·rcases lt0 hd with rfl | rfl | rfl
  ·exact dm_refl r0_0
  ·exact absurd rfl hc
  ·exact absurd hd nd21
theorem in00:InLoop (fol g0) 0 0:=⟨⟨1,d01,by rw [f0_1]; simp⟩,.inl rfl⟩
theorem in01:InLoop (fol g0) 0 1:=⟨⟨1,d01,by rw [f0_1]; simp⟩,.inr (.back d01 (by rw [f0_1]; simp) (by decide))⟩
theorem nin02 : ¬ InLoop (fol g0) 0 2:=fun h=>h.2.elim (fun w=>by cases w) fun w=>by
 cases w with
 | back _ h2 _=>rw [f0_2] at h2; cases h2
 | pre _ h2 _ _=>rw [f0_2] at h2; cases h2
theorem nback1 : ¬ HasBack (fol g0) 1:=fun ⟨a,h1,h2⟩=>by
 match a,h1,h2 with
 | 0,h1,_=>exact nd10 h1
 | 1,_,h2=>rw [f0_1] at h2; simp at h2
 | 2,_,h2=>rw [f0_2] at h2; cases h2
 | n+3,_,h2=>rw [f0_n] at h2; cases h2
theorem nback2 : ¬ HasBack (fol g0) 2:=fun ⟨a,h1,h2⟩=>by
 match a,h1,h2 with
 | 0,_,h2=>rw [f0_0] at h2; simp at h2
 | 1,h1,_=>exact nd21 h1
 | 2,_,h2=>rw [f0_2] at h2; cases h2
 | n+3,_,h2=>rw [f0_n] at h2; cases h2
theorem depth0:depthL (fol g0) 3=[1,1,0]:=by
 have z : ∀ n,depthN (fol g0) 0 n=0:=fun n=>by simp [depthN]
 have s : ∀ n,depthN (fol g0) 3 n=depthN (fol g0) 1 n:=fun n=>by
  rw [depthN_succ,depthN_succ,if_neg fun w=>nback1 w.1,if_neg fun w=>nback2 w.1]; rfl
 show [depthN (fol g0) 3 0,depthN (fol g0) 3 1,depthN (fol g0) 3 2]=_
 rw [s,s,s,depthN_succ,depthN_succ,depthN_succ,z,z,z,if_pos in00,if_pos in01,if_neg nin02]
end Go.Proofs.YthboippafkcoiaaDoor.am
namespace Go.Proofs.YthboippafkcoiaaDoor.am
open Go Go.Proofs
set_option linter.all false
set_option maxRecDepth 100000 in
theorem k_rsame (l l':List Int):K 26 [.tr (intsT l),.tr (intsT l')] [] (.ret (.tr (tb (eqI2 l l')))) []:=by
 have h1:(l.map irow).length=l.length:=List.length_map ..
 have h2:(l'.map irow).length=l'.length:=List.length_map ..
 refine Ctr.of hT hmix Tryd.func26 rfl (fun _ _=>by kernel_rfl) rfl fun hok => ?_
 obtain ⟨_,hl1,_⟩:=(hok.slot 0 rfl).tr.lst
 rw [List.length_map] at hl1
 clear hok
 conv=>whnf
 cases hc:(((l.map irow).length:Int) != ((l'.map irow).length:Int)) with
 | true =>
  conv=>whnf
  exact ⟨.inl (congrArg tb (by rw [h1,h2] at hc; unfold eqI2; rw [hc]; rfl)),trivial⟩
 | false =>
 have hE:eqI2 l l'=eqI l l':=by rw [h1,h2] at hc; unfold eqI2; rw [hc]; rfl
 have hll:l.length=l'.length:=by
  rw [h1,h2] at hc
  refine Classical.byContradiction fun w => ?_
  rw [bne_iff_ne.2 (fun e=>w (by omega))] at hc
  cases hc
 rw [hE]
 generalize hR:eqI l l'=R
 clear hE hc
 conv=>whnf
 refine LoopL.by (fun i:Nat=>⟨[(0,.tr (intsT l)),(1,.tr (intsT l')),(5,.tr (ti i))],[],10⟩) (fun i=>i≤l.length∧R=eqI (l.drop i) (l'.drop i)) (fun i=>l.length - i) 0 [] []
  (Sub.mk' rfl ⟨.inl rfl,.inl rfl,.inl rfl,trivial⟩ trivial rfl rfl) ⟨Nat.zero_le _,hR.symm⟩ ?_
 clear hR
 rintro i ⟨hi,hR⟩ -
 conv=>whnf
 refine csplit (fun hit => ?_) (fun hit => ?_)
 ·have hit:i<l.length:=by have:decide ((i:Int)<((l.map irow).length:Int))=true:=hit; have:=of_decide_eq_true this; omega
  obtain ⟨a,ha⟩ : ∃ a,l[i]? = some a:=⟨_,List.getElem?_eq_getElem hit⟩
  obtain ⟨b,hb⟩ : ∃ b,l'[i]? = some b:=⟨_,List.getElem?_eq_getElem (by omega)⟩
  rw [drop_cons ha,drop_cons hb] at hR
  conv=>whnf
  refine ⟨rfl,(show (0:Int)≤i by omega),(show (i:Int)<((l.map irow).length:Int) by omega),fun row hrow => ?_⟩
  obtain ⟨d,hd,rfl⟩:=int_get hrow
  obtain rfl:=Option.some.inj (ha.symm.trans hd)
  clear hrow hd
  conv=>whnf
  refine ⟨rfl,(show (0:Int)≤i by omega),(show (i:Int)<((l'.map irow).length:Int) by omega),fun row hrow => ?_⟩
  obtain ⟨d,hd,rfl⟩:=int_get hrow
  obtain rfl:=Option.some.inj (hb.symm.trans hd)
  clear hrow hd
  conv=>whnf
  refine ⟨by kernel_rfl,fun _ => ?_⟩
  conv=>whnf
  cases hab:(a != b) with
  | true =>
   conv=>whnf
   exact ⟨.inl (by rw [hR]; show tb false=tb (bif a != b then false else _); rw [hab]; rfl),trivial⟩
  | false =>
   replace hR:R=eqI (l.drop (i+1)) (l'.drop (i+1)):=by rw [hR]; show (bif a != b then false else _)=_; rw [hab]; rfl
   conv=>whnf
   exact ⟨i+1,[],[],Sub.mk' rfl ⟨.inl rfl,.inl rfl,.inl (ti_succ hit (by omega)),trivial⟩ trivial rfl rfl,⟨hit,hR⟩,by show l.length - (i+1)<l.length - i; omega⟩
 have hit:l.length≤i:=by have:decide ((i:Int)<((l.map irow).length:Int))=false:=hit; have:=of_decide_eq_false this; omega
 rw [List.drop_of_length_le hit,List.drop_of_length_le (by omega)] at hR
 conv=>whnf
 refine ⟨fun _ => ?_,fun h=>absurd rfl h⟩
 conv=>whnf
 exact ⟨.inl (by rw [hR]; rfl),trivial⟩
set_option maxRecDepth 100000 in
theorem k_ints (l l':List Int):K 10 [.tr (intsT l),.tr (intsT l')] [] (.ret (.tr (tb (eqI2 l l')))) []:=by
 have h:=k_rsame l l'
 refine Ctr.of hT hmix Tryd.func10 rfl (fun _ _=>by kernel_rfl) rfl fun hok => ?_
 clear hok
 conv=>whnf
 refine acall.pure _ (h) rfl rfl fun _ => ?_
 conv=>whnf
 exact ⟨.inl rfl,trivial⟩
set_option maxRecDepth 100000 in
theorem k_begins:K 7 [] [] (.ret (.tr (tb true))) []:=by
 have hlo:=k_loop0
 have hlw:=k_lower0
 have hch:=k_check u0
 rw [show (checkU u0).1=0 from by kernel_rfl,show (checkU u0).2.1=0 from by kernel_rfl,show (checkU u0).2.2=0 from by kernel_rfl] at hch
 have hpr:=k_print0
 obtain ⟨S,hS⟩ : ∃ S:ByteArray,S=⟨#[116,104,114,101,97,100,32,97,10,48,32,115,48,32,61,32,120,32,45,62,32,49,10,49,32,98,114,97,110,99,104,32,115,48,32,45,62,32,48,32,50,10,50,32,101,110,100,10]⟩:=⟨_,rfl⟩
 replace hpr:K 20 [u0.av] [] (.ret (.tup [.tr (ts S),.tr (ti 0)])) []:=by rw [hS]; exact hpr
 have e:(S.toList == ByteArray.toList ⟨#[116,104,114,101,97,100,32,97,10,48,32,115,48,32,61,32,120,32,45,62,32,49,10,49,32,98,114,97,110,99,104,32,115,48,32,45,62,32,48,32,50,10,50,32,101,110,100,10]⟩)=true:=by rw [hS]; exact beq_self_eq_true _
 clear hS
 have hdp:=k_depth g0 (by kernel_rfl)
 rw [show g0.nodes.length=3 from rfl,depth0] at hdp
 have hdo:=k_dominators g0 (by kernel_rfl)
 rw [show g0.nodes.length=3 from rfl,idom0] at hdo
 have hi1:=k_ints [1,1,0] [1,1,0]
 rw [show eqI2 [1,1,0] [1,1,0]=true from by kernel_rfl] at hi1
 have hi2:=k_ints [-1,0,1] [-1,0,1]
 rw [show eqI2 [-1,0,1] [-1,0,1]=true from by kernel_rfl] at hi2
 refine Ctr.cut [6] hT hmix Tryd.func7 rfl (fun _ _=>by kernel_rfl) rfl fun hok => ?_
 clear hok
 conv=>whnf
 refine acall.pure _ (hlo) rfl rfl fun _ => ?_
 conv=>whnf
 refine acall.pure _ (hlw) rfl rfl fun _ => ?_
 conv=>whnf
 refine acall.pure _ (hch) rfl rfl fun _ => ?_
 conv=>whnf
 refine acall.pure _ (hpr) rfl rfl fun _ => ?_
 conv=>whnf
 refine CutL.by (fun _:Unit=>⟨[(0,.tr (tb false)),(1,.ptr 0 0)],[(0,.cells 29 (u0.cells.map .tr))],10⟩) (fun _=>True) ?_ ?_
 ·conv=>whnf
  rw [e]
  conv=>whnf
  exact ⟨(),[_],[],Sub.mk' rfl ⟨.inl rfl,⟨rfl,rfl⟩,trivial⟩ ⟨⟨rfl,.inl rfl,.inl rfl,.inl rfl,trivial⟩,trivial⟩ rfl rfl,trivial⟩
 rintro - - -
 conv=>whnf
 refine ⟨rfl,Int.le_refl _,(by decide),fun row hrow => ?_⟩
 obtain rfl:Gr.cells g0=row:=Option.some.inj hrow
 clear hrow
 conv=>whnf
 refine acall.pure _ (hdp) rfl rfl fun _ => ?_
 conv=>whnf
 refine acall.au [] [15] (hi1) ?_
 intro _
 conv=>whnf
 refine ⟨rfl,Int.le_refl _,(by decide),fun row hrow => ?_⟩
 obtain rfl:Gr.cells g0=row:=Option.some.inj hrow
 clear hrow
 conv=>whnf
 refine acall.pure _ (hdo) rfl rfl fun _ => ?_
 conv=>whnf
 refine acall.au [] [23] (hi2) ?_
 intro _
 conv=>whnf
 exact ⟨.inl rfl,trivial⟩
end Go.Proofs.YthboippafkcoiaaDoor.am
namespace Go.Proofs.YthboippafkcoiaaDoor.am
open Go Go.Proofs
set_option linter.all false
def kB (n:Nd):Bool:=decide (1≤n.kind) && decide (n.kind≤8)
def OkN (a:Nat) (D:List Nd):Prop := ∀ i n,D[i]? = some n→kB n=true∧n.origin=((a+i:Nat):Int)
theorem OkN.nil {a:Nat}:OkN a []:=fun i n e=>by cases e
theorem OkN.app {a k:Nat} {X Y:List Nd} (hx:OkN a X) (hk:X.length=k) (hy:OkN (a+k) Y):OkN a (X++Y):=by
 subst hk
 intro i n e
 by_cases q:i<X.length
 ·rw [List.getElem?_append_left q] at e; exact hx i n e
 ·rw [List.getElem?_append_right (by omega)] at e
  have:=hy _ n e
  rwa [show a+X.length+(i - X.length)=a+i by omega] at this
theorem OkN.cons {a:Nat} {n:Nd} {Y:List Nd} (h1:kB n=true) (h2:n.origin=(a:Nat)) (hy:OkN (a+1) Y):OkN a (n::Y):=by
 intro i m e
 cases i with
 | zero=>cases e; exact ⟨h1,h2⟩
 | succ j =>
  have:=hy j m e
  rwa [show a+1+j=a+(j+1) by omega] at this
theorem OkN.one {a:Nat} {n:Nd} (h1:kB n=true) (h2:n.origin=(a:Nat)):OkN a [n] := .cons h1 h2 .nil
mutual
theorem expr_okN (c:LowC) : ∀ (e:Expr) (a m to:Nat),OkN a (exprD c e a m to)
 | .mk kind op _ name kids _,a,m,to=>by
  have h0:=fun a m to=>kid0_okN c kids a m to
  have h1:=fun a m to=>kid1_okN c kids a m to
  unfold exprD
  cases kind == 1 with
  | true=>exact .nil
  | false =>
  cases kind == 2 with
  | true =>
   cases decide (localI c.p c.t name ≥ 0) with
   | true=>exact .nil
   | false=>exact .one rfl rfl
  | false =>
  cases two op with
  | true=>exact (h0 _ _ _).app (kid0D_len ..) ((h1 _ _ _).app (kid1D_len ..) (.one rfl (by rw [Nat.add_assoc])))
  | false=>exact (h0 _ _ _).app (kid0D_len ..) (.one rfl rfl)
theorem kid0_okN (c:LowC) : ∀ (l:List Expr) (a m to:Nat),OkN a (kid0D c l a m to)
 | [],a,m,to=>by unfold kid0D; exact .nil
 | e::_,a,m,to=>by unfold kid0D; exact expr_okN c e a m to
theorem kid1_okN (c:LowC) : ∀ (l:List Expr) (a m to:Nat),OkN a (kid1D c l a m to)
 | [],a,m,to=>by unfold kid1D; exact .nil
 | _::r,a,m,to=>by unfold kid1D; exact kid0_okN c r a m to
end
mutual
theorem stmt_okN (c:LowC) : ∀ (x:Stmt) (a m to:Nat),OkN a (stmtD c x a m to)
 | .mk kind name other e body els _,a,m,to=>by
  have h0:=fun a m to=>kid0_okN c e a m to
  have hb:=fun a m to=>block_okN c body a m to
  have hl:=fun a m to=>block_okN c els a m to
  have lb:=fun a m to=>blockD_len c body a m to
  unfold stmtD
  cases kind == 1 with
  | true =>
   refine (h0 _ _ _).app (kid0D_len ..) ?_
   unfold giveN
   cases decide (localI c.p c.t name ≥ 0) <;> exact .one rfl rfl
  | false =>
  cases kind == 2 with
  | true =>
   refine (h0 _ _ _).app (kid0D_len ..) ?_
   unfold swapD
   cases decide (localI c.p c.t name ≥ 0)
   ·exact .cons rfl rfl (.one rfl rfl)
   ·exact .one rfl rfl
  | false =>
  cases kind == 3 with
  | true=>exact (h0 _ _ _).app (kid0D_len ..) (.cons rfl rfl ((hb _ _ _).app (lb ..) (hl _ _ _)))
  | false =>
  cases kind == 4 with
  | true=>exact (h0 _ _ _).app (kid0D_len ..) (.cons rfl rfl (hb _ _ _))
  | false =>
  cases kind == 5 with
  | true=>exact .cons rfl rfl ((hb _ _ _).app (lb ..) (.one rfl rfl))
  | false =>
  cases kind == 6 with
  | true=>exact (h0 _ _ _).app (kid0D_len ..) (.one rfl rfl)
  | false=>exact .nil
theorem block_okN (c:LowC) : ∀ (l:List Stmt) (a m to:Nat),OkN a (blockD c l a m to)
 | [],a,m,to=>by unfold blockD; exact .nil
 | x::r,a,m,to=>by
  have hx:=fun a m to=>stmt_okN c x a m to
  have hr:=fun a m to=>block_okN c r a m to
  unfold blockD
  exact (hx _ _ _).app (stmtD_len ..) (hr _ _ _)
end
theorem thr_node (p:Prg) (t:Nat) (th:Thread) {k:Nat} {n:Nd} (h:(thrG p t th).nodes[k]? = some n):n.origin=(k:Nat)∧0≤n.kind∧(n.kind == 9)=(k == (thrG p t th).nodes.length - 1):=by
 have hlen:=thr_len p t th
 have hat:At (thrD p t th) 0 (thrD p t th):=fun i n e=>by rw [Nat.zero_add]; exact e
 have hend:=(hat.app (blockD_len ..)).2.cons.1
 rw [Nat.zero_add] at hend
 have hN:=block_okN (thrC p t th) th.body 0 (locN th) (szB (thrC p t th) th.body)
 have h:(thrD p t th)[k]? = some n:=h
 have hk:=(List.getElem?_eq_some_iff.1 h).1
 show n.origin=(k:Nat)∧0≤n.kind∧(n.kind == 9)=(k == (thrD p t th).length - 1)
 rw [hlen,Nat.add_sub_cancel]
 rcases Nat.lt_or_ge k (szB (thrC p t th) th.body) with q | q
 ·have h2:(blockD (thrC p t th) th.body 0 (locN th) (szB (thrC p t th) th.body))[k]? = some n:=by
   have:thrD p t th=_++_:=rfl
   rw [this,List.getElem?_append_left (by rw [blockD_len]; exact q)] at h
   exact h
  obtain ⟨q1,q2⟩:=hN k n h2
  unfold kB at q1
  rw [Bool.and_eq_true,decide_eq_true_eq,decide_eq_true_eq] at q1
  rw [Nat.zero_add] at q2
  refine ⟨q2,by omega,?_⟩
  have e1:(n.kind == 9)=false:=by rw [beq_eq_false_iff_ne]; omega
  have e2:(k == szB (thrC p t th) th.body)=false:=by rw [beq_eq_false_iff_ne]; omega
  rw [e1,e2]
 ·obtain rfl:k=szB (thrC p t th) th.body:=by omega
  obtain rfl:=Option.some.inj (hend.symm.trans h)
  exact ⟨rfl,(show (0:Int)≤9 by decide),by simp⟩
theorem thr_whole {p:Prg} {gs:List Gr} (hO:UnOk p gs) {t:Nat} {th:Thread} (ht:p.threads[t]? = some th):wholeB (thrG p t th)=true:=by
 have hz:=(hO.at_ t th ht).2
 refine whole_right (u:=⟨p.shared,p.locks,gs⟩) (thr_bad hO.prg ht hz) fun n hn=>⟨thr_right hO.prg ht hz gs n hn,?_⟩
 obtain ⟨i,hi,e⟩:=List.mem_iff_getElem.1 hn
 exact (thr_node p t th (k:=i) (by rw [List.getElem?_eq_getElem hi,e])).2.1
end Go.Proofs.YthboippafkcoiaaDoor.am
namespace Go.Proofs.YthboippafkcoiaaDoor.am
open Go Go.Proofs
set_option linter.all false
abbrev natR (l:List Nat):List (List Tr):=(l.map fun (x:Nat)=>(x:Int)).map irow
abbrev natB (l:List Nat):Blk := .vec 3 1 8 (natR l)
theorem natR_len (l:List Nat):(natR l).length=l.length:=by rw [List.length_map,List.length_map]
theorem natR_app (l:List Nat) (x:Nat):(natR l).take l.length++[[ti (x:Nat)]]=natR (l++[x]):=by
 rw [List.take_of_length_le (by rw [natR_len]; exact Nat.le_refl _)]
 unfold natR
 rw [List.map_append,List.map_append]; rfl
theorem skB_take {c:LowC} : ∀ {l:List Stmt} {i:Nat} {x:Stmt} (d:Nat),l[i]? = some x→skDeps (skB c (l.take (i+1))) d=skDeps (skB c (l.take i)) d++skDeps (skS c x) d∧szB c (l.take (i+1))=szB c (l.take i)+szS c x∧szB c (l.take i)+szS c x≤szB c l
 | [],i,x,d,h=>by cases h
 | y::l,0,x,d,h=>by
  cases h
  rw [List.take_succ_cons,List.take_zero]
  refine ⟨by simp [skB,skDeps],by simp [szB],by simp [szB]⟩
 | y::l,i+1,x,d,h=>by
  have:=skB_take (c:=c) d (show l[i]? = some x from h)
  rw [List.take_succ_cons,List.take_succ_cons]
  simp only [skB,szB,skDeps]
  rw [this.1,List.append_assoc]
  exact ⟨rfl,by omega,by omega⟩
theorem many_le {c:LowC} {kind:Int} {name other:ByteArray} {e:List Expr} {body els:List Stmt} {at_:Int} (hk:okS c (.mk kind name other e body els at_)=true) :
  manyN c (.mk kind name other e body els at_)+(szB c body+(szB c els+(bif kind == 5 then 1 else 0)))=szS c (.mk kind name other e body els at_):=by
 have:=congrArg List.length (skS_whiles hk 0)
 rw [skDeps_len,skS_size] at this
 simp only [List.length_append,List.length_replicate,skDeps_len,skB_size] at this
 rw [this]
 cases kind == 5 <;> rfl
theorem inn_le {c:LowC} {kind:Int} {name other:ByteArray} {e:List Expr} {body els:List Stmt} {at_:Int} {d:Nat} (hk:okS c (.mk kind name other e body els at_)=true) (h:d+szS c (.mk kind name other e body els at_)≤4096):innN d (.mk kind name other e body els at_)+szB c body≤4096∧innN d (.mk kind name other e body els at_)+szB c els≤4096:=by
 unfold okS at hk
 simp only [Bool.and_eq_true] at hk
 obtain ⟨f1,f2,f3,f4,f5,f6⟩:=fields_wf hk.1.1.1.1
 rw [Bool.and_eq_true,decide_eq_true_eq,decide_eq_true_eq] at f1
 have hz:szB c []=0:=by unfold szB; rfl
 unfold szS at h
 unfold innN
 obtain q | q | q | q | q | q | q:kind=1∨kind=2∨kind=3∨kind=4∨kind=5∨kind=6∨kind=7:=by omega
 ·obtain ⟨rfl,rfl⟩:=f3 (.inl q)
  subst q
  rw [hz]
  have h:d+(sz0 c e+1)≤4096:=h
  show d+0≤4096∧d+0≤4096
  omega
 ·obtain ⟨rfl,rfl⟩:=f3 (.inr (.inl q))
  subst q
  rw [hz]
  have h:d+(sz0 c e+(bif decide (localI c.p c.t name ≥ 0) then 1 else 2))≤4096:=h
  show d+0≤4096∧d+0≤4096
  omega
 ·subst q
  have h:d+(sz0 c e+(1+(szB c body+szB c els)))≤4096:=h
  show d+szB c body≤4096∧d+szB c els≤4096
  omega
 ·obtain rfl:=f4 (.inl q)
  subst q
  rw [hz]
  have h:d+(sz0 c e+(1+szB c body))≤4096:=h
  show d+1+szB c body≤4096∧d+1+0≤4096
  omega
 ·obtain rfl:=f4 (.inr q)
  subst q
  rw [hz]
  have h:d+(1+(szB c body+1))≤4096:=h
  show d+szB c body≤4096∧d+0≤4096
  omega
 ·obtain ⟨rfl,rfl⟩:=f3 (.inr (.inr (.inl q)))
  subst q
  rw [hz]
  have h:d+(sz0 c e+1)≤4096:=h
  show d+0≤4096∧d+0≤4096
  omega
 ·obtain ⟨rfl,rfl⟩:=f3 (.inr (.inr (.inr q)))
  subst q
  rw [hz]
  have h:d+0≤4096:=h
  show d+0≤4096∧d+0≤4096
  omega
set_option maxRecDepth 100000 in
set_option maxHeartbeats 2000000 in
theorem k_whiles (c:LowC) : ∀ (n:Nat) (l:List Stmt) (deep:Nat) (acc:List Nat),SizeOf.sizeOf l<n→okSs c l=true→deep+szB c l≤4096→acc.length+szB c l≤8192→K 9 [c.p.av,.tr (ti (c.t:Nat)),.tr (stmtsT l),.tr (ti (deep:Nat)),.sl 0 acc.length] [natB acc] (.ret (.sl 1 (acc++skDeps (skB c l) deep).length)) [none,some (natB (acc++skDeps (skB c l) deep))]:=by
 intro n
 induction n with
 | zero=>intro l deep acc h; omega
 | succ n ih =>
 intro l deep acc hsz hok6 hdp hln
 refine Ctr.mv [8,11,13,15,19,20,21] [1] 2 hT hmix Tryd.func9 rfl (fun _ _=>by kernel_rfl) rfl (fun hok => ?_)
 have hll:=(hok.slot 2 rfl).tr.lst.2.1
 rw [srows_len] at hll
 clear hok
 have hs0:skDeps (skB c (l.take 0)) deep=[]:=by rw [List.take_zero]; unfold skB; rfl
 conv=>whnf
 refine LoopL.by (fun i:Nat=>⟨[(1,.tr (ti (c.t:Nat))),(2,.tr (stmtsT l)),(3,.tr (ti (deep:Nat))),(4,.sl 1 ((acc++skDeps (skB c (l.take i)) deep)).length),(5,.ptr 2 0),(11,.tr (ti (i:Nat)))],[(1,natB ((acc++skDeps (skB c (l.take i)) deep))),(2,.cells 25 [.tr (declsT c.p.shared),.tr (declsT c.p.locks),.tr (threadsT c.p.threads)])],20⟩) (fun i=>i≤l.length) (fun i=>l.length - i) 0 [0,_,_] []
  (Sub.mk' rfl ⟨.inl rfl,.inl rfl,.inl rfl,⟨rfl,by rw [hs0,List.append_nil]⟩,⟨rfl,rfl⟩,.inl rfl,trivial⟩ ⟨⟨rfl,rfl,rfl,by rw [hs0,List.append_nil]⟩,⟨rfl,.inl rfl,.inl rfl,.inl rfl,trivial⟩,trivial⟩ rfl rfl) (Nat.zero_le _) ?_
 rintro i hi -
 conv=>whnf
 refine csplit (fun hit => ?_) (fun hit => ?_)
 ·replace hit:i<l.length:=by have:decide ((i:Int)<((Stmt.rows l).length:Int))=true:=hit; have:=of_decide_eq_true this; rw [srows_len] at this; omega
  obtain ⟨d,hd⟩ : ∃ d,l[i]? = some d:=⟨_,List.getElem?_eq_getElem hit⟩
  obtain ⟨q1,q2,q3⟩:=skB_take (c:=c) deep hd
  have hok7:=okSs_get hok6 hd
  have hsd:=size_kid2 hd
  have hfit:((acc++skDeps (skB c (l.take i)) deep)).length+szS c d≤8192:=by rw [List.length_append,skDeps_len,skB_size]; omega
  have hdp2:deep+szS c d≤4096:=by omega
  have hnext :  (acc++skDeps (skB c (l.take (i+1))) deep)=((acc++skDeps (skB c (l.take i)) deep))++skDeps (skS c d) deep:=by rw [q1,List.append_assoc]
  generalize hA:(acc++skDeps (skB c (l.take i)) deep)=A at hfit ⊢
  rw [hA] at hnext
  obtain ⟨kind,name,other,e,body,els,at_⟩:=d
  have hW:=skS_whiles hok7 deep
  have hM:=many_le hok7
  obtain ⟨hI1,hI2⟩:=inn_le hok7 hdp2
  rw [hW] at hnext
  clear hW q1 q2 q3 hA
  have hokp:=hok7
  unfold okS at hokp
  simp only [Bool.and_eq_true] at hokp
  obtain ⟨⟨⟨⟨hf,_⟩,hes⟩,hbs⟩,hls⟩:=hokp
  obtain ⟨f1,f2,f3,f4,f5,f6⟩:=fields_wf hf
  have hlo:=k21 c.p c.t name
  have hmn:manyN c (.mk kind name other e body els at_)=sz0 c e+((bif kind != 7 then 1 else 0)+(bif kind == 2 && decide (localI c.p c.t name<0) then 1 else 0)):=rfl
  have hin:innN deep (.mk kind name other e body els at_)=bif kind == 4 then deep+1 else deep:=rfl
  have hin2:innN deep (.mk kind name other e body els at_)≤4096:=by omega
  generalize manyN c (.mk kind name other e body els at_)=many at hmn hM hnext
  generalize innN deep (.mk kind name other e body els at_)=inn at hin hI1 hI2 hnext hin2
  conv=>whnf
  refine ⟨rfl,(show (0:Int)≤i by omega),(show (i:Int)<((Stmt.rows l).length:Int) by rw [srows_len]; omega),fun row hrow => ?_⟩
  obtain ⟨d,hd2,rfl⟩:=srows_get hrow
  obtain rfl:=Option.some.inj (hd.symm.trans hd2)
  clear hrow hd2
  conv=>whnf
  refine CutL.by (fun _:Unit=>⟨[(1,.tr (ti (c.t:Nat))),(2,.tr (stmtsT l)),(3,.tr (ti (deep:Nat))),(4,.sl 1 (A).length),(5,.ptr 2 0),(11,.tr (ti (i:Nat))),(12,.ptr 3 0),(13,.tr (ti (inn:Nat)))],[(1,natB (A)),(2,.cells 25 [.tr (declsT c.p.shared),.tr (declsT c.p.locks),.tr (threadsT c.p.threads)]),(3,.cells 77 ((Stmt.mk kind name other e body els at_).cells.map .tr))],20⟩) (fun _=>True) ?_ ?_
  ·conv=>whnf
   cases h4:(kind == 4) with
   | true =>
    rw [h4,cond_true] at hin
    conv=>whnf
    exact ⟨(),[0,1,2,_],[],Sub.mk' rfl ⟨.inl rfl,.inl rfl,.inl rfl,⟨rfl,rfl⟩,⟨rfl,rfl⟩,.inl rfl,⟨rfl,rfl⟩,.inl (by rw [hin,w64 (by omega) (by omega)]; rfl),trivial⟩ ⟨⟨rfl,rfl,rfl,rfl⟩,⟨rfl,.inl rfl,.inl rfl,.inl rfl,trivial⟩,⟨rfl,.inl rfl,.inl rfl,.inl rfl,.inl rfl,.inl rfl,.inl rfl,.inl rfl,trivial⟩,trivial⟩ rfl rfl,trivial⟩
   | false =>
    rw [h4,cond_false] at hin
    subst hin
    conv=>whnf
    exact ⟨(),[0,1,2,_],[],Sub.mk' rfl ⟨.inl rfl,.inl rfl,.inl rfl,⟨rfl,rfl⟩,⟨rfl,rfl⟩,.inl rfl,⟨rfl,rfl⟩,.inl rfl,trivial⟩ ⟨⟨rfl,rfl,rfl,rfl⟩,⟨rfl,.inl rfl,.inl rfl,.inl rfl,trivial⟩,⟨rfl,.inl rfl,.inl rfl,.inl rfl,.inl rfl,.inl rfl,.inl rfl,.inl rfl,trivial⟩,trivial⟩ rfl rfl,trivial⟩
  rintro - - -
  conv=>whnf
  refine CutL.by (fun _:Unit=>⟨[(1,.tr (ti (c.t:Nat))),(2,.tr (stmtsT l)),(3,.tr (ti (deep:Nat))),(4,.sl 1 (A).length),(5,.ptr 2 0),(11,.tr (ti (i:Nat))),(12,.ptr 3 0),(13,.tr (ti (inn:Nat))),(14,.tr (ti (sz0 c e:Nat)))],[(1,natB (A)),(2,.cells 25 [.tr (declsT c.p.shared),.tr (declsT c.p.locks),.tr (threadsT c.p.threads)]),(3,.cells 77 ((Stmt.mk kind name other e body els at_).cells.map .tr))],20⟩) (fun _=>True) ?_ ?_
  ·conv=>whnf
   cases hq:decide (((Expr.rows e).length:Int) > 0) with
   | true =>
    have hq:=of_decide_eq_true hq
    rw [erows_len] at hq
    obtain ⟨x,hx⟩ : ∃ x,e[0]? = some x:=⟨_,List.getElem?_eq_getElem (by omega)⟩
    have hze:sz0 c e=szE c x:=by
     obtain _ | ⟨y,r⟩:=e
     ·cases hx
     ·cases hx; unfold sz0; rfl
    have hpa:=k_parts6 c _ x (Nat.lt_succ_self _) (okEs_get hes hx) (by omega)
    rw [hze]
    obtain ⟨x1,x2,x3,x4,x5,x6⟩:=x
    conv=>whnf
    refine ⟨rfl,Int.le_refl _,(show (0:Int)<((Expr.rows e).length:Int) by rw [erows_len]; omega),fun row hrow => ?_⟩
    obtain ⟨d,hd2,rfl⟩:=erows_get hrow
    obtain rfl:=Option.some.inj (hx.symm.trans hd2)
    clear hrow hd2
    conv=>whnf
    refine acall.pure _ (hpa) rfl rfl ?_
    conv=>whnf
    refine ⟨by kernel_rfl,fun _ => ?_⟩
    conv=>whnf
    exact ⟨(),[0,1,2,3],[],Sub.mk' rfl ⟨.inl rfl,.inl rfl,.inl rfl,⟨rfl,rfl⟩,⟨rfl,rfl⟩,.inl rfl,⟨rfl,rfl⟩,.inl rfl,.inl rfl,trivial⟩ ⟨⟨rfl,rfl,rfl,rfl⟩,⟨rfl,.inl rfl,.inl rfl,.inl rfl,trivial⟩,⟨rfl,.inl rfl,.inl rfl,.inl rfl,.inl rfl,.inl rfl,.inl rfl,.inl rfl,trivial⟩,trivial⟩ rfl rfl,trivial⟩
   | false =>
    have hq:=of_decide_eq_false hq
    rw [erows_len] at hq
    obtain rfl:e=[]:=List.eq_nil_of_length_eq_zero (by omega)
    conv=>whnf
    exact ⟨(),[0,1,2,3],[],Sub.mk' rfl ⟨.inl rfl,.inl rfl,.inl rfl,⟨rfl,rfl⟩,⟨rfl,rfl⟩,.inl rfl,⟨rfl,rfl⟩,.inl rfl,.inl (by unfold sz0; rfl),trivial⟩ ⟨⟨rfl,rfl,rfl,rfl⟩,⟨rfl,.inl rfl,.inl rfl,.inl rfl,trivial⟩,⟨rfl,.inl rfl,.inl rfl,.inl rfl,.inl rfl,.inl rfl,.inl rfl,.inl rfl,trivial⟩,trivial⟩ rfl rfl,trivial⟩
  rintro - - -
  conv=>whnf
  refine CutL.by (fun _:Unit=>⟨[(1,.tr (ti (c.t:Nat))),(2,.tr (stmtsT l)),(3,.tr (ti (deep:Nat))),(4,.sl 1 (A).length),(5,.ptr 2 0),(11,.tr (ti (i:Nat))),(12,.ptr 3 0),(13,.tr (ti (inn:Nat))),(14,.tr (ti (sz0 c e+(bif kind != 7 then 1 else 0):Nat)))],[(1,natB (A)),(2,.cells 25 [.tr (declsT c.p.shared),.tr (declsT c.p.locks),.tr (threadsT c.p.threads)]),(3,.cells 77 ((Stmt.mk kind name other e body els at_).cells.map .tr))],20⟩) (fun _=>True) ?_ ?_
  ·conv=>whnf
   cases h7:(kind != 7) with
   | true =>
    rw [h7,cond_true] at hmn
    conv=>whnf
    exact ⟨(),[0,1,2,3],[],Sub.mk' rfl ⟨.inl rfl,.inl rfl,.inl rfl,⟨rfl,rfl⟩,⟨rfl,rfl⟩,.inl rfl,⟨rfl,rfl⟩,.inl rfl,.inl (by rw [w64 (by omega) (by omega)]; rfl),trivial⟩ ⟨⟨rfl,rfl,rfl,rfl⟩,⟨rfl,.inl rfl,.inl rfl,.inl rfl,trivial⟩,⟨rfl,.inl rfl,.inl rfl,.inl rfl,.inl rfl,.inl rfl,.inl rfl,.inl rfl,trivial⟩,trivial⟩ rfl rfl,trivial⟩
   | false =>
    conv=>whnf
    exact ⟨(),[0,1,2,3],[],Sub.mk' rfl ⟨.inl rfl,.inl rfl,.inl rfl,⟨rfl,rfl⟩,⟨rfl,rfl⟩,.inl rfl,⟨rfl,rfl⟩,.inl rfl,.inl rfl,trivial⟩ ⟨⟨rfl,rfl,rfl,rfl⟩,⟨rfl,.inl rfl,.inl rfl,.inl rfl,trivial⟩,⟨rfl,.inl rfl,.inl rfl,.inl rfl,.inl rfl,.inl rfl,.inl rfl,.inl rfl,trivial⟩,trivial⟩ rfl rfl,trivial⟩
  rintro - - -
  conv=>whnf
  refine CutL.by (fun _:Unit=>⟨[(1,.tr (ti (c.t:Nat))),(2,.tr (stmtsT l)),(3,.tr (ti (deep:Nat))),(4,.sl 1 (A).length),(5,.ptr 2 0),(11,.tr (ti (i:Nat))),(12,.ptr 3 0),(13,.tr (ti (inn:Nat))),(14,.tr (ti (many:Nat)))],[(1,natB (A)),(2,.cells 25 [.tr (declsT c.p.shared),.tr (declsT c.p.locks),.tr (threadsT c.p.threads)]),(3,.cells 77 ((Stmt.mk kind name other e body els at_).cells.map .tr))],20⟩) (fun _=>True) ?_ ?_
  ·generalize hg:sz0 c e+(bif kind != 7 then 1 else 0)=m1
   rw [← Nat.add_assoc,hg] at hmn
   conv=>whnf
   cases h2:(kind == 2) with
   | true =>
    rw [h2,Bool.true_and] at hmn
    conv=>whnf
    refine acall.pure _ (hlo) rfl rfl fun _ => ?_
    conv=>whnf
    cases h3:decide (localI c.p c.t name<0) with
    | true =>
     rw [h3,cond_true] at hmn
     conv=>whnf
     exact ⟨(),[0,1,2,3],[],Sub.mk' rfl ⟨.inl rfl,.inl rfl,.inl rfl,⟨rfl,rfl⟩,⟨rfl,rfl⟩,.inl rfl,⟨rfl,rfl⟩,.inl rfl,.inl (by rw [w64 (by omega) (by omega),hmn]; rfl),trivial⟩ ⟨⟨rfl,rfl,rfl,rfl⟩,⟨rfl,.inl rfl,.inl rfl,.inl rfl,trivial⟩,⟨rfl,.inl rfl,.inl rfl,.inl rfl,.inl rfl,.inl rfl,.inl rfl,.inl rfl,trivial⟩,trivial⟩ rfl rfl,trivial⟩
    | false =>
     rw [h3,cond_false] at hmn
     conv=>whnf
     exact ⟨(),[0,1,2,3],[],Sub.mk' rfl ⟨.inl rfl,.inl rfl,.inl rfl,⟨rfl,rfl⟩,⟨rfl,rfl⟩,.inl rfl,⟨rfl,rfl⟩,.inl rfl,.inl (by rw [hmn]; rfl),trivial⟩ ⟨⟨rfl,rfl,rfl,rfl⟩,⟨rfl,.inl rfl,.inl rfl,.inl rfl,trivial⟩,⟨rfl,.inl rfl,.inl rfl,.inl rfl,.inl rfl,.inl rfl,.inl rfl,.inl rfl,trivial⟩,trivial⟩ rfl rfl,trivial⟩
   | false =>
    rw [h2,Bool.false_and,cond_false] at hmn
    conv=>whnf
    exact ⟨(),[0,1,2,3],[],Sub.mk' rfl ⟨.inl rfl,.inl rfl,.inl rfl,⟨rfl,rfl⟩,⟨rfl,rfl⟩,.inl rfl,⟨rfl,rfl⟩,.inl rfl,.inl (by rw [hmn]; rfl),trivial⟩ ⟨⟨rfl,rfl,rfl,rfl⟩,⟨rfl,.inl rfl,.inl rfl,.inl rfl,trivial⟩,⟨rfl,.inl rfl,.inl rfl,.inl rfl,.inl rfl,.inl rfl,.inl rfl,.inl rfl,trivial⟩,trivial⟩ rfl rfl,trivial⟩
  rintro - - -
  clear hmn hin hlo
  conv=>whnf
  refine CutL.by (fun _:Unit=>⟨[(1,.tr (ti (c.t:Nat))),(2,.tr (stmtsT l)),(3,.tr (ti (deep:Nat))),(4,.sl 1 (A++List.replicate many inn).length),(5,.ptr 2 0),(11,.tr (ti (i:Nat))),(12,.ptr 3 0),(13,.tr (ti (inn:Nat)))],[(1,natB (A++List.replicate many inn)),(2,.cells 25 [.tr (declsT c.p.shared),.tr (declsT c.p.locks),.tr (threadsT c.p.threads)]),(3,.cells 77 ((Stmt.mk kind name other e body els at_).cells.map .tr))],20⟩) (fun _=>True) ?_ ?_
  ·conv=>whnf
   refine LoopL.by (fun k:Nat=>⟨[(1,.tr (ti (c.t:Nat))),(2,.tr (stmtsT l)),(3,.tr (ti (deep:Nat))),(4,.sl 1 (A++List.replicate k inn).length),(5,.ptr 2 0),(11,.tr (ti (i:Nat))),(12,.ptr 3 0),(13,.tr (ti (inn:Nat))),(14,.tr (ti (many:Nat))),(15,.tr (ti (k:Nat)))],[(1,natB (A++List.replicate k inn)),(2,.cells 25 [.tr (declsT c.p.shared),.tr (declsT c.p.locks),.tr (threadsT c.p.threads)]),(3,.cells 77 ((Stmt.mk kind name other e body els at_).cells.map .tr))],20⟩) (fun k=>k≤many) (fun k=>many - k) 0 [0,1,2,3] []
    (Sub.mk' rfl ⟨.inl rfl,.inl rfl,.inl rfl,⟨rfl,by rw [List.replicate_zero,List.append_nil]⟩,⟨rfl,rfl⟩,.inl rfl,⟨rfl,rfl⟩,.inl rfl,.inl rfl,.inl rfl,trivial⟩ ⟨⟨rfl,rfl,rfl,by rw [List.replicate_zero,List.append_nil]⟩,⟨rfl,.inl rfl,.inl rfl,.inl rfl,trivial⟩,⟨rfl,.inl rfl,.inl rfl,.inl rfl,.inl rfl,.inl rfl,.inl rfl,.inl rfl,trivial⟩,trivial⟩ rfl rfl) (Nat.zero_le _) ?_
   rintro k hk -
   conv=>whnf
   refine csplit (fun hkt => ?_) (fun hkt => ?_)
   ·replace hkt:k<many:=by have:=of_decide_eq_true hkt; omega
    have hfit2:(A++List.replicate k inn).length+1≤8193:=by rw [List.length_append,List.length_replicate]; omega
    have hrep:A++List.replicate (k+1) inn=(A++List.replicate k inn)++[inn]:=by rw [List.append_assoc,rep_one]
    generalize A++List.replicate k inn=A2 at hfit2 hrep ⊢
    have hA2:=natR_app A2 inn
    have hl2:A2.length+1=(A2++[inn]).length:=by rw [List.length_append]; rfl
    conv=>whnf
    refine ⟨rfl,rfl,rfl,(by rw [natR_len]; exact Nat.le_refl _),(show ((A2).length+1)*8≤150000000000000 by omega),fun q hq => ?_,?_⟩
    ·cases hq with
     | head=>exact Nat.ne_of_beq_eq_false rfl
     | tail _ h =>
      first
      | (cases h; done)
      | (cases h with
       | head=>exact Nat.ne_of_beq_eq_false rfl
       | tail _ h=>cases h)
    conv=>whnf
    conv=>whnf
    exact ⟨k+1,[0,_,2,3],[],Sub.mk' rfl ⟨.inl rfl,.inl rfl,.inl rfl,⟨rfl,by rw [hrep]; exact hl2⟩,⟨rfl,rfl⟩,.inl rfl,⟨rfl,rfl⟩,.inl rfl,.inl rfl,.inl (ti_succ hkt (by omega)),trivial⟩ ⟨⟨rfl,rfl,rfl,by rw [hrep]; exact hA2⟩,⟨rfl,.inl rfl,.inl rfl,.inl rfl,trivial⟩,⟨rfl,.inl rfl,.inl rfl,.inl rfl,.inl rfl,.inl rfl,.inl rfl,.inl rfl,trivial⟩,trivial⟩ rfl rfl,hkt,by show many - (k+1)<many - k; omega⟩
   replace hkt:k=many:=by have:=of_decide_eq_false hkt; omega
   subst hkt
   conv=>whnf
   refine ⟨fun _ => ?_,fun h=>absurd rfl h⟩
   conv=>whnf
   exact ⟨(),[0,1,2,3],[],Sub.mk' rfl ⟨.inl rfl,.inl rfl,.inl rfl,⟨rfl,rfl⟩,⟨rfl,rfl⟩,.inl rfl,⟨rfl,rfl⟩,.inl rfl,trivial⟩ ⟨⟨rfl,rfl,rfl,rfl⟩,⟨rfl,.inl rfl,.inl rfl,.inl rfl,trivial⟩,⟨rfl,.inl rfl,.inl rfl,.inl rfl,.inl rfl,.inl rfl,.inl rfl,.inl rfl,trivial⟩,trivial⟩ rfl rfl,trivial⟩
  rintro - - -
  have hl3:(A++List.replicate many inn).length=A.length+many:=by rw [List.length_append,List.length_replicate]
  rw [← List.append_assoc] at hnext
  generalize A++List.replicate many inn=A2 at hnext hl3 ⊢
  have hb:=ih body inn A2 (by simp only [Stmt.mk.sizeOf_spec] at hsd; omega) hbs hI1 (by omega)
  have hl4:(A2++skDeps (skB c body) inn).length=A2.length+szB c body:=by rw [List.length_append,skDeps_len,skB_size]
  rw [← List.append_assoc] at hnext
  generalize A2++skDeps (skB c body) inn=A3 at hb hnext hl4
  conv=>whnf
  refine CutL.by (fun _:Unit=>⟨[(1,.tr (ti (c.t:Nat))),(2,.tr (stmtsT l)),(3,.tr (ti (deep:Nat))),(4,.sl 1 (A3).length),(5,.ptr 2 0),(11,.tr (ti (i:Nat))),(12,.ptr 3 0),(13,.tr (ti (inn:Nat)))],[(1,natB (A3)),(2,.cells 25 [.tr (declsT c.p.shared),.tr (declsT c.p.locks),.tr (threadsT c.p.threads)]),(3,.cells 77 ((Stmt.mk kind name other e body els at_).cells.map .tr))],20⟩) (fun _=>True) ?_ ?_
  ·conv=>whnf
   refine acall.new [1] [] _ _ _ _ (hb) rfl rfl rfl rfl aut aut rfl rfl ?_
   conv=>whnf
   intro _
   conv=>whnf
   exact ⟨(),[0,_,2,3],[],Sub.mk' rfl ⟨.inl rfl,.inl rfl,.inl rfl,⟨rfl,rfl⟩,⟨rfl,rfl⟩,.inl rfl,⟨rfl,rfl⟩,.inl rfl,trivial⟩ ⟨⟨rfl,rfl,rfl,rfl⟩,⟨rfl,.inl rfl,.inl rfl,.inl rfl,trivial⟩,⟨rfl,.inl rfl,.inl rfl,.inl rfl,.inl rfl,.inl rfl,.inl rfl,.inl rfl,trivial⟩,trivial⟩ rfl rfl,trivial⟩
  rintro - - -
  have he:=ih els inn A3 (by simp only [Stmt.mk.sizeOf_spec] at hsd; omega) hls hI2 (by omega)
  have hl5:(A3++skDeps (skB c els) inn).length=A3.length+szB c els:=by rw [List.length_append,skDeps_len,skB_size]
  rw [← List.append_assoc] at hnext
  generalize A3++skDeps (skB c els) inn=A4 at he hnext hl5
  conv=>whnf
  refine CutL.by (fun _:Unit=>⟨[(1,.tr (ti (c.t:Nat))),(2,.tr (stmtsT l)),(3,.tr (ti (deep:Nat))),(4,.sl 1 (A4).length),(5,.ptr 2 0),(11,.tr (ti (i:Nat))),(12,.ptr 3 0),(13,.tr (ti (inn:Nat)))],[(1,natB (A4)),(2,.cells 25 [.tr (declsT c.p.shared),.tr (declsT c.p.locks),.tr (threadsT c.p.threads)]),(3,.cells 77 ((Stmt.mk kind name other e body els at_).cells.map .tr))],20⟩) (fun _=>True) ?_ ?_
  ·conv=>whnf
   refine acall.new [1] [] _ _ _ _ (he) rfl rfl rfl rfl aut aut rfl rfl ?_
   conv=>whnf
   intro _
   conv=>whnf
   exact ⟨(),[0,_,2,3],[],Sub.mk' rfl ⟨.inl rfl,.inl rfl,.inl rfl,⟨rfl,rfl⟩,⟨rfl,rfl⟩,.inl rfl,⟨rfl,rfl⟩,.inl rfl,trivial⟩ ⟨⟨rfl,rfl,rfl,rfl⟩,⟨rfl,.inl rfl,.inl rfl,.inl rfl,trivial⟩,⟨rfl,.inl rfl,.inl rfl,.inl rfl,.inl rfl,.inl rfl,.inl rfl,.inl rfl,trivial⟩,trivial⟩ rfl rfl,trivial⟩
  rintro - - -
  conv=>whnf
  cases h5:(kind == 5) with
  | true =>
   rw [h5,cond_true] at hnext hM
   have hfit3:A4.length+1≤8193:=by omega
   have hA2:=natR_app A4 inn
   have hl2:A4.length+1=(A4++[inn]).length:=by rw [List.length_append]; rfl
   conv=>whnf
   refine ⟨rfl,rfl,rfl,(by rw [natR_len]; exact Nat.le_refl _),(show ((A4).length+1)*8≤150000000000000 by omega),fun q hq => ?_,?_⟩
   ·cases hq with
    | head=>exact Nat.ne_of_beq_eq_false rfl
    | tail _ h =>
     first
     | (cases h; done)
     | (cases h with
      | head=>exact Nat.ne_of_beq_eq_false rfl
      | tail _ h=>cases h)
   conv=>whnf
   conv=>whnf
   exact ⟨i+1,[0,_,2],[],Sub.mk' rfl ⟨.inl rfl,.inl rfl,.inl rfl,⟨rfl,by rw [hnext]; exact hl2⟩,⟨rfl,rfl⟩,.inl (ti_succ hit hll),trivial⟩ ⟨⟨rfl,rfl,rfl,by rw [hnext]; exact hA2⟩,⟨rfl,.inl rfl,.inl rfl,.inl rfl,trivial⟩,trivial⟩ rfl rfl,hit,by show l.length - (i+1)<l.length - i; omega⟩
  | false =>
   rw [h5,cond_false,List.append_nil] at hnext
   conv=>whnf
   exact ⟨i+1,[0,1,2],[],Sub.mk' rfl ⟨.inl rfl,.inl rfl,.inl rfl,⟨rfl,by rw [hnext]⟩,⟨rfl,rfl⟩,.inl (ti_succ hit hll),trivial⟩ ⟨⟨rfl,rfl,rfl,by rw [hnext]⟩,⟨rfl,.inl rfl,.inl rfl,.inl rfl,trivial⟩,trivial⟩ rfl rfl,hit,by show l.length - (i+1)<l.length - i; omega⟩
 replace hit:i=l.length:=by have:decide ((i:Int)<((Stmt.rows l).length:Int))=false:=hit; have:=of_decide_eq_false this; rw [srows_len] at this; omega
 subst hit
 rw [List.take_length]
 conv=>whnf
 refine ⟨fun _ => ?_,fun h=>absurd rfl h⟩
 conv=>whnf
 exact ⟨[0,1],rfl,rfl,⟨rfl,rfl⟩,⟨rfl,rfl,rfl,rfl⟩,trivial⟩
set_option maxRecDepth 100000 in
set_option maxHeartbeats 2000000 in
theorem k_whiles0 (c:LowC) (l:List Stmt) (deep:Nat) (hok6:okSs c l=true) (hdp:deep+szB c l≤4096):K 9 [c.p.av,.tr (ti (c.t:Nat)),.tr (stmtsT l),.tr (ti (deep:Nat)),.tr (.v (.slice none 0 0))] [] (.ret (.sl 0 (skDeps (skB c l) deep).length)) [some (natB (skDeps (skB c l) deep))]:=by
 refine Ctr.new [8,11,13,15,19,20,21] hT hmix Tryd.func9 rfl (fun _ _=>by kernel_rfl) rfl fun hok => ?_
 have hll:=(hok.slot 2 rfl).tr.lst.2.1
 rw [srows_len] at hll
 clear hok
 have hs0:skDeps (skB c (l.take 0)) deep=[]:=by rw [List.take_zero]; unfold skB; rfl
 conv=>whnf
 refine LoopL.by (fun i:Nat=>⟨[(1,.tr (ti (c.t:Nat))),(2,.tr (stmtsT l)),(3,.tr (ti (deep:Nat))),(4,.sl 1 ((skDeps (skB c (l.take i)) deep)).length),(5,.ptr 0 0),(11,.tr (ti (i:Nat)))],[(1,natB ((skDeps (skB c (l.take i)) deep))),(0,.cells 25 [.tr (declsT c.p.shared),.tr (declsT c.p.locks),.tr (threadsT c.p.threads)])],20⟩) (fun i=>i≤l.length) (fun i=>l.length - i) 0 [_] [1]
  (Sub.mk' rfl ⟨.inl rfl,.inl rfl,.inl rfl,⟨rfl,by rw [hs0]; rfl,rfl,rfl⟩,⟨rfl,rfl⟩,.inl rfl,trivial⟩ ⟨⟨rfl,_,_,_,by rw [hs0]; rfl,by decide⟩,⟨rfl,.inl rfl,.inl rfl,.inl rfl,trivial⟩,trivial⟩ rfl rfl) (Nat.zero_le _) ?_
 rintro i hi -
 conv=>whnf
 refine csplit (fun hit => ?_) (fun hit => ?_)
 ·replace hit:i<l.length:=by have:decide ((i:Int)<((Stmt.rows l).length:Int))=true:=hit; have:=of_decide_eq_true this; rw [srows_len] at this; omega
  obtain ⟨d,hd⟩ : ∃ d,l[i]? = some d:=⟨_,List.getElem?_eq_getElem hit⟩
  obtain ⟨q1,q2,q3⟩:=skB_take (c:=c) deep hd
  have hok7:=okSs_get hok6 hd
  have hsd:=size_kid2 hd
  have hfit:((skDeps (skB c (l.take i)) deep)).length+szS c d≤8192:=by rw [skDeps_len,skB_size]; omega
  have hdp2:deep+szS c d≤4096:=by omega
  have hnext :  (skDeps (skB c (l.take (i+1))) deep)=((skDeps (skB c (l.take i)) deep))++skDeps (skS c d) deep:=by rw [q1]
  generalize hA:(skDeps (skB c (l.take i)) deep)=A at hfit ⊢
  rw [hA] at hnext
  obtain ⟨kind,name,other,e,body,els,at_⟩:=d
  have hW:=skS_whiles hok7 deep
  have hM:=many_le hok7
  obtain ⟨hI1,hI2⟩:=inn_le hok7 hdp2
  rw [hW] at hnext
  clear hW q1 q2 q3 hA
  have hokp:=hok7
  unfold okS at hokp
  simp only [Bool.and_eq_true] at hokp
  obtain ⟨⟨⟨⟨hf,_⟩,hes⟩,hbs⟩,hls⟩:=hokp
  obtain ⟨f1,f2,f3,f4,f5,f6⟩:=fields_wf hf
  have hlo:=k21 c.p c.t name
  have hmn:manyN c (.mk kind name other e body els at_)=sz0 c e+((bif kind != 7 then 1 else 0)+(bif kind == 2 && decide (localI c.p c.t name<0) then 1 else 0)):=rfl
  have hin:innN deep (.mk kind name other e body els at_)=bif kind == 4 then deep+1 else deep:=rfl
  have hin2:innN deep (.mk kind name other e body els at_)≤4096:=by omega
  generalize manyN c (.mk kind name other e body els at_)=many at hmn hM hnext
  generalize innN deep (.mk kind name other e body els at_)=inn at hin hI1 hI2 hnext hin2
  conv=>whnf
  refine ⟨rfl,(show (0:Int)≤i by omega),(show (i:Int)<((Stmt.rows l).length:Int) by rw [srows_len]; omega),fun row hrow => ?_⟩
  obtain ⟨d,hd2,rfl⟩:=srows_get hrow
  obtain rfl:=Option.some.inj (hd.symm.trans hd2)
  clear hrow hd2
  conv=>whnf
  refine CutL.by (fun _:Unit=>⟨[(1,.tr (ti (c.t:Nat))),(2,.tr (stmtsT l)),(3,.tr (ti (deep:Nat))),(4,.sl 1 (A).length),(5,.ptr 0 0),(11,.tr (ti (i:Nat))),(12,.ptr 2 0),(13,.tr (ti (inn:Nat)))],[(1,natB (A)),(0,.cells 25 [.tr (declsT c.p.shared),.tr (declsT c.p.locks),.tr (threadsT c.p.threads)]),(2,.cells 77 ((Stmt.mk kind name other e body els at_).cells.map .tr))],20⟩) (fun _=>True) ?_ ?_
  ·conv=>whnf
   cases h4:(kind == 4) with
   | true =>
    rw [h4,cond_true] at hin
    conv=>whnf
    exact ⟨(),[0,1,_],[],Sub.mk' rfl ⟨.inl rfl,.inl rfl,.inl rfl,⟨rfl,rfl⟩,⟨rfl,rfl⟩,.inl rfl,⟨rfl,rfl⟩,.inl (by rw [hin,w64 (by omega) (by omega)]; rfl),trivial⟩ ⟨⟨rfl,rfl,rfl,rfl⟩,⟨rfl,.inl rfl,.inl rfl,.inl rfl,trivial⟩,⟨rfl,.inl rfl,.inl rfl,.inl rfl,.inl rfl,.inl rfl,.inl rfl,.inl rfl,trivial⟩,trivial⟩ rfl rfl,trivial⟩
   | false =>
    rw [h4,cond_false] at hin
    subst hin
    conv=>whnf
    exact ⟨(),[0,1,_],[],Sub.mk' rfl ⟨.inl rfl,.inl rfl,.inl rfl,⟨rfl,rfl⟩,⟨rfl,rfl⟩,.inl rfl,⟨rfl,rfl⟩,.inl rfl,trivial⟩ ⟨⟨rfl,rfl,rfl,rfl⟩,⟨rfl,.inl rfl,.inl rfl,.inl rfl,trivial⟩,⟨rfl,.inl rfl,.inl rfl,.inl rfl,.inl rfl,.inl rfl,.inl rfl,.inl rfl,trivial⟩,trivial⟩ rfl rfl,trivial⟩
  rintro - - -
  conv=>whnf
  refine CutL.by (fun _:Unit=>⟨[(1,.tr (ti (c.t:Nat))),(2,.tr (stmtsT l)),(3,.tr (ti (deep:Nat))),(4,.sl 1 (A).length),(5,.ptr 0 0),(11,.tr (ti (i:Nat))),(12,.ptr 2 0),(13,.tr (ti (inn:Nat))),(14,.tr (ti (sz0 c e:Nat)))],[(1,natB (A)),(0,.cells 25 [.tr (declsT c.p.shared),.tr (declsT c.p.locks),.tr (threadsT c.p.threads)]),(2,.cells 77 ((Stmt.mk kind name other e body els at_).cells.map .tr))],20⟩) (fun _=>True) ?_ ?_
  ·conv=>whnf
   cases hq:decide (((Expr.rows e).length:Int) > 0) with
   | true =>
    have hq:=of_decide_eq_true hq
    rw [erows_len] at hq
    obtain ⟨x,hx⟩ : ∃ x,e[0]? = some x:=⟨_,List.getElem?_eq_getElem (by omega)⟩
    have hze:sz0 c e=szE c x:=by
     obtain _ | ⟨y,r⟩:=e
     ·cases hx
     ·cases hx; unfold sz0; rfl
    have hpa:=k_parts6 c _ x (Nat.lt_succ_self _) (okEs_get hes hx) (by omega)
    rw [hze]
    obtain ⟨x1,x2,x3,x4,x5,x6⟩:=x
    conv=>whnf
    refine ⟨rfl,Int.le_refl _,(show (0:Int)<((Expr.rows e).length:Int) by rw [erows_len]; omega),fun row hrow => ?_⟩
    obtain ⟨d,hd2,rfl⟩:=erows_get hrow
    obtain rfl:=Option.some.inj (hx.symm.trans hd2)
    clear hrow hd2
    conv=>whnf
    refine acall.pure _ (hpa) rfl rfl ?_
    conv=>whnf
    refine ⟨by kernel_rfl,fun _ => ?_⟩
    conv=>whnf
    exact ⟨(),[0,1,2],[],Sub.mk' rfl ⟨.inl rfl,.inl rfl,.inl rfl,⟨rfl,rfl⟩,⟨rfl,rfl⟩,.inl rfl,⟨rfl,rfl⟩,.inl rfl,.inl rfl,trivial⟩ ⟨⟨rfl,rfl,rfl,rfl⟩,⟨rfl,.inl rfl,.inl rfl,.inl rfl,trivial⟩,⟨rfl,.inl rfl,.inl rfl,.inl rfl,.inl rfl,.inl rfl,.inl rfl,.inl rfl,trivial⟩,trivial⟩ rfl rfl,trivial⟩
   | false =>
    have hq:=of_decide_eq_false hq
    rw [erows_len] at hq
    obtain rfl:e=[]:=List.eq_nil_of_length_eq_zero (by omega)
    conv=>whnf
    exact ⟨(),[0,1,2],[],Sub.mk' rfl ⟨.inl rfl,.inl rfl,.inl rfl,⟨rfl,rfl⟩,⟨rfl,rfl⟩,.inl rfl,⟨rfl,rfl⟩,.inl rfl,.inl (by unfold sz0; rfl),trivial⟩ ⟨⟨rfl,rfl,rfl,rfl⟩,⟨rfl,.inl rfl,.inl rfl,.inl rfl,trivial⟩,⟨rfl,.inl rfl,.inl rfl,.inl rfl,.inl rfl,.inl rfl,.inl rfl,.inl rfl,trivial⟩,trivial⟩ rfl rfl,trivial⟩
  rintro - - -
  conv=>whnf
  refine CutL.by (fun _:Unit=>⟨[(1,.tr (ti (c.t:Nat))),(2,.tr (stmtsT l)),(3,.tr (ti (deep:Nat))),(4,.sl 1 (A).length),(5,.ptr 0 0),(11,.tr (ti (i:Nat))),(12,.ptr 2 0),(13,.tr (ti (inn:Nat))),(14,.tr (ti (sz0 c e+(bif kind != 7 then 1 else 0):Nat)))],[(1,natB (A)),(0,.cells 25 [.tr (declsT c.p.shared),.tr (declsT c.p.locks),.tr (threadsT c.p.threads)]),(2,.cells 77 ((Stmt.mk kind name other e body els at_).cells.map .tr))],20⟩) (fun _=>True) ?_ ?_
  ·conv=>whnf
   cases h7:(kind != 7) with
   | true =>
    rw [h7,cond_true] at hmn
    conv=>whnf
    exact ⟨(),[0,1,2],[],Sub.mk' rfl ⟨.inl rfl,.inl rfl,.inl rfl,⟨rfl,rfl⟩,⟨rfl,rfl⟩,.inl rfl,⟨rfl,rfl⟩,.inl rfl,.inl (by rw [w64 (by omega) (by omega)]; rfl),trivial⟩ ⟨⟨rfl,rfl,rfl,rfl⟩,⟨rfl,.inl rfl,.inl rfl,.inl rfl,trivial⟩,⟨rfl,.inl rfl,.inl rfl,.inl rfl,.inl rfl,.inl rfl,.inl rfl,.inl rfl,trivial⟩,trivial⟩ rfl rfl,trivial⟩
   | false =>
    conv=>whnf
    exact ⟨(),[0,1,2],[],Sub.mk' rfl ⟨.inl rfl,.inl rfl,.inl rfl,⟨rfl,rfl⟩,⟨rfl,rfl⟩,.inl rfl,⟨rfl,rfl⟩,.inl rfl,.inl rfl,trivial⟩ ⟨⟨rfl,rfl,rfl,rfl⟩,⟨rfl,.inl rfl,.inl rfl,.inl rfl,trivial⟩,⟨rfl,.inl rfl,.inl rfl,.inl rfl,.inl rfl,.inl rfl,.inl rfl,.inl rfl,trivial⟩,trivial⟩ rfl rfl,trivial⟩
  rintro - - -
  conv=>whnf
  refine CutL.by (fun _:Unit=>⟨[(1,.tr (ti (c.t:Nat))),(2,.tr (stmtsT l)),(3,.tr (ti (deep:Nat))),(4,.sl 1 (A).length),(5,.ptr 0 0),(11,.tr (ti (i:Nat))),(12,.ptr 2 0),(13,.tr (ti (inn:Nat))),(14,.tr (ti (many:Nat)))],[(1,natB (A)),(0,.cells 25 [.tr (declsT c.p.shared),.tr (declsT c.p.locks),.tr (threadsT c.p.threads)]),(2,.cells 77 ((Stmt.mk kind name other e body els at_).cells.map .tr))],20⟩) (fun _=>True) ?_ ?_
  ·generalize hg:sz0 c e+(bif kind != 7 then 1 else 0)=m1
   rw [← Nat.add_assoc,hg] at hmn
   conv=>whnf
   cases h2:(kind == 2) with
   | true =>
    rw [h2,Bool.true_and] at hmn
    conv=>whnf
    refine acall.pure _ (hlo) rfl rfl fun _ => ?_
    conv=>whnf
    cases h3:decide (localI c.p c.t name<0) with
    | true =>
     rw [h3,cond_true] at hmn
     conv=>whnf
     exact ⟨(),[0,1,2],[],Sub.mk' rfl ⟨.inl rfl,.inl rfl,.inl rfl,⟨rfl,rfl⟩,⟨rfl,rfl⟩,.inl rfl,⟨rfl,rfl⟩,.inl rfl,.inl (by rw [w64 (by omega) (by omega),hmn]; rfl),trivial⟩ ⟨⟨rfl,rfl,rfl,rfl⟩,⟨rfl,.inl rfl,.inl rfl,.inl rfl,trivial⟩,⟨rfl,.inl rfl,.inl rfl,.inl rfl,.inl rfl,.inl rfl,.inl rfl,.inl rfl,trivial⟩,trivial⟩ rfl rfl,trivial⟩
    | false =>
     rw [h3,cond_false] at hmn
     conv=>whnf
     exact ⟨(),[0,1,2],[],Sub.mk' rfl ⟨.inl rfl,.inl rfl,.inl rfl,⟨rfl,rfl⟩,⟨rfl,rfl⟩,.inl rfl,⟨rfl,rfl⟩,.inl rfl,.inl (by rw [hmn]; rfl),trivial⟩ ⟨⟨rfl,rfl,rfl,rfl⟩,⟨rfl,.inl rfl,.inl rfl,.inl rfl,trivial⟩,⟨rfl,.inl rfl,.inl rfl,.inl rfl,.inl rfl,.inl rfl,.inl rfl,.inl rfl,trivial⟩,trivial⟩ rfl rfl,trivial⟩
   | false =>
    rw [h2,Bool.false_and,cond_false] at hmn
    conv=>whnf
    exact ⟨(),[0,1,2],[],Sub.mk' rfl ⟨.inl rfl,.inl rfl,.inl rfl,⟨rfl,rfl⟩,⟨rfl,rfl⟩,.inl rfl,⟨rfl,rfl⟩,.inl rfl,.inl (by rw [hmn]; rfl),trivial⟩ ⟨⟨rfl,rfl,rfl,rfl⟩,⟨rfl,.inl rfl,.inl rfl,.inl rfl,trivial⟩,⟨rfl,.inl rfl,.inl rfl,.inl rfl,.inl rfl,.inl rfl,.inl rfl,.inl rfl,trivial⟩,trivial⟩ rfl rfl,trivial⟩
  rintro - - -
  clear hmn hin hlo
  conv=>whnf
  refine CutL.by (fun _:Unit=>⟨[(1,.tr (ti (c.t:Nat))),(2,.tr (stmtsT l)),(3,.tr (ti (deep:Nat))),(4,.sl 1 (A++List.replicate many inn).length),(5,.ptr 0 0),(11,.tr (ti (i:Nat))),(12,.ptr 2 0),(13,.tr (ti (inn:Nat)))],[(1,natB (A++List.replicate many inn)),(0,.cells 25 [.tr (declsT c.p.shared),.tr (declsT c.p.locks),.tr (threadsT c.p.threads)]),(2,.cells 77 ((Stmt.mk kind name other e body els at_).cells.map .tr))],20⟩) (fun _=>True) ?_ ?_
  ·conv=>whnf
   refine LoopL.by (fun k:Nat=>⟨[(1,.tr (ti (c.t:Nat))),(2,.tr (stmtsT l)),(3,.tr (ti (deep:Nat))),(4,.sl 1 (A++List.replicate k inn).length),(5,.ptr 0 0),(11,.tr (ti (i:Nat))),(12,.ptr 2 0),(13,.tr (ti (inn:Nat))),(14,.tr (ti (many:Nat))),(15,.tr (ti (k:Nat)))],[(1,natB (A++List.replicate k inn)),(0,.cells 25 [.tr (declsT c.p.shared),.tr (declsT c.p.locks),.tr (threadsT c.p.threads)]),(2,.cells 77 ((Stmt.mk kind name other e body els at_).cells.map .tr))],20⟩) (fun k=>k≤many) (fun k=>many - k) 0 [0,1,2] []
    (Sub.mk' rfl ⟨.inl rfl,.inl rfl,.inl rfl,⟨rfl,by rw [List.replicate_zero,List.append_nil]⟩,⟨rfl,rfl⟩,.inl rfl,⟨rfl,rfl⟩,.inl rfl,.inl rfl,.inl rfl,trivial⟩ ⟨⟨rfl,rfl,rfl,by rw [List.replicate_zero,List.append_nil]⟩,⟨rfl,.inl rfl,.inl rfl,.inl rfl,trivial⟩,⟨rfl,.inl rfl,.inl rfl,.inl rfl,.inl rfl,.inl rfl,.inl rfl,.inl rfl,trivial⟩,trivial⟩ rfl rfl) (Nat.zero_le _) ?_
   rintro k hk -
   conv=>whnf
   refine csplit (fun hkt => ?_) (fun hkt => ?_)
   ·replace hkt:k<many:=by have:=of_decide_eq_true hkt; omega
    have hfit2:(A++List.replicate k inn).length+1≤8193:=by rw [List.length_append,List.length_replicate]; omega
    have hrep:A++List.replicate (k+1) inn=(A++List.replicate k inn)++[inn]:=by rw [List.append_assoc,rep_one]
    generalize A++List.replicate k inn=A2 at hfit2 hrep ⊢
    have hA2:=natR_app A2 inn
    have hl2:A2.length+1=(A2++[inn]).length:=by rw [List.length_append]; rfl
    conv=>whnf
    refine ⟨rfl,rfl,rfl,(by rw [natR_len]; exact Nat.le_refl _),(show ((A2).length+1)*8≤150000000000000 by omega),fun q hq => ?_,?_⟩
    ·cases hq with
     | head=>exact Nat.ne_of_beq_eq_false rfl
     | tail _ h =>
      first
      | (cases h; done)
      | (cases h with
       | head=>exact Nat.ne_of_beq_eq_false rfl
       | tail _ h=>cases h)
    conv=>whnf
    conv=>whnf
    exact ⟨k+1,[0,_,2],[],Sub.mk' rfl ⟨.inl rfl,.inl rfl,.inl rfl,⟨rfl,by rw [hrep]; exact hl2⟩,⟨rfl,rfl⟩,.inl rfl,⟨rfl,rfl⟩,.inl rfl,.inl rfl,.inl (ti_succ hkt (by omega)),trivial⟩ ⟨⟨rfl,rfl,rfl,by rw [hrep]; exact hA2⟩,⟨rfl,.inl rfl,.inl rfl,.inl rfl,trivial⟩,⟨rfl,.inl rfl,.inl rfl,.inl rfl,.inl rfl,.inl rfl,.inl rfl,.inl rfl,trivial⟩,trivial⟩ rfl rfl,hkt,by show many - (k+1)<many - k; omega⟩
   replace hkt:k=many:=by have:=of_decide_eq_false hkt; omega
   subst hkt
   conv=>whnf
   refine ⟨fun _ => ?_,fun h=>absurd rfl h⟩
   conv=>whnf
   exact ⟨(),[0,1,2],[],Sub.mk' rfl ⟨.inl rfl,.inl rfl,.inl rfl,⟨rfl,rfl⟩,⟨rfl,rfl⟩,.inl rfl,⟨rfl,rfl⟩,.inl rfl,trivial⟩ ⟨⟨rfl,rfl,rfl,rfl⟩,⟨rfl,.inl rfl,.inl rfl,.inl rfl,trivial⟩,⟨rfl,.inl rfl,.inl rfl,.inl rfl,.inl rfl,.inl rfl,.inl rfl,.inl rfl,trivial⟩,trivial⟩ rfl rfl,trivial⟩
  rintro - - -
  have hl3:(A++List.replicate many inn).length=A.length+many:=by rw [List.length_append,List.length_replicate]
  rw [← List.append_assoc] at hnext
  generalize A++List.replicate many inn=A2 at hnext hl3 ⊢
  have hb:=k_whiles c (SizeOf.sizeOf body+1) body inn A2 (Nat.lt_succ_self _) hbs hI1 (by omega)
  have hl4:(A2++skDeps (skB c body) inn).length=A2.length+szB c body:=by rw [List.length_append,skDeps_len,skB_size]
  rw [← List.append_assoc] at hnext
  generalize A2++skDeps (skB c body) inn=A3 at hb hnext hl4
  conv=>whnf
  refine CutL.by (fun _:Unit=>⟨[(1,.tr (ti (c.t:Nat))),(2,.tr (stmtsT l)),(3,.tr (ti (deep:Nat))),(4,.sl 1 (A3).length),(5,.ptr 0 0),(11,.tr (ti (i:Nat))),(12,.ptr 2 0),(13,.tr (ti (inn:Nat)))],[(1,natB (A3)),(0,.cells 25 [.tr (declsT c.p.shared),.tr (declsT c.p.locks),.tr (threadsT c.p.threads)]),(2,.cells 77 ((Stmt.mk kind name other e body els at_).cells.map .tr))],20⟩) (fun _=>True) ?_ ?_
  ·conv=>whnf
   refine acall.new [1] [] _ _ _ _ (hb) rfl rfl rfl rfl aut aut rfl rfl ?_
   conv=>whnf
   intro _
   conv=>whnf
   exact ⟨(),[0,_,2],[],Sub.mk' rfl ⟨.inl rfl,.inl rfl,.inl rfl,⟨rfl,rfl⟩,⟨rfl,rfl⟩,.inl rfl,⟨rfl,rfl⟩,.inl rfl,trivial⟩ ⟨⟨rfl,rfl,rfl,rfl⟩,⟨rfl,.inl rfl,.inl rfl,.inl rfl,trivial⟩,⟨rfl,.inl rfl,.inl rfl,.inl rfl,.inl rfl,.inl rfl,.inl rfl,.inl rfl,trivial⟩,trivial⟩ rfl rfl,trivial⟩
  rintro - - -
  have he:=k_whiles c (SizeOf.sizeOf els+1) els inn A3 (Nat.lt_succ_self _) hls hI2 (by omega)
  have hl5:(A3++skDeps (skB c els) inn).length=A3.length+szB c els:=by rw [List.length_append,skDeps_len,skB_size]
  rw [← List.append_assoc] at hnext
  generalize A3++skDeps (skB c els) inn=A4 at he hnext hl5
  conv=>whnf
  refine CutL.by (fun _:Unit=>⟨[(1,.tr (ti (c.t:Nat))),(2,.tr (stmtsT l)),(3,.tr (ti (deep:Nat))),(4,.sl 1 (A4).length),(5,.ptr 0 0),(11,.tr (ti (i:Nat))),(12,.ptr 2 0),(13,.tr (ti (inn:Nat)))],[(1,natB (A4)),(0,.cells 25 [.tr (declsT c.p.shared),.tr (declsT c.p.locks),.tr (threadsT c.p.threads)]),(2,.cells 77 ((Stmt.mk kind name other e body els at_).cells.map .tr))],20⟩) (fun _=>True) ?_ ?_
  ·conv=>whnf
   refine acall.new [1] [] _ _ _ _ (he) rfl rfl rfl rfl aut aut rfl rfl ?_
   conv=>whnf
   intro _
   conv=>whnf
   exact ⟨(),[0,_,2],[],Sub.mk' rfl ⟨.inl rfl,.inl rfl,.inl rfl,⟨rfl,rfl⟩,⟨rfl,rfl⟩,.inl rfl,⟨rfl,rfl⟩,.inl rfl,trivial⟩ ⟨⟨rfl,rfl,rfl,rfl⟩,⟨rfl,.inl rfl,.inl rfl,.inl rfl,trivial⟩,⟨rfl,.inl rfl,.inl rfl,.inl rfl,.inl rfl,.inl rfl,.inl rfl,.inl rfl,trivial⟩,trivial⟩ rfl rfl,trivial⟩
  rintro - - -
  conv=>whnf
  cases h5:(kind == 5) with
  | true =>
   rw [h5,cond_true] at hnext hM
   have hfit3:A4.length+1≤8193:=by omega
   have hA2:=natR_app A4 inn
   have hl2:A4.length+1=(A4++[inn]).length:=by rw [List.length_append]; rfl
   conv=>whnf
   refine ⟨rfl,rfl,rfl,(by rw [natR_len]; exact Nat.le_refl _),(show ((A4).length+1)*8≤150000000000000 by omega),fun q hq => ?_,?_⟩
   ·cases hq with
    | head=>exact Nat.ne_of_beq_eq_false rfl
    | tail _ h =>
     first
     | (cases h; done)
     | (cases h with
      | head=>exact Nat.ne_of_beq_eq_false rfl
      | tail _ h=>cases h)
   conv=>whnf
   conv=>whnf
   exact ⟨i+1,[0,_],[],Sub.mk' rfl ⟨.inl rfl,.inl rfl,.inl rfl,⟨rfl,by rw [hnext]; exact hl2⟩,⟨rfl,rfl⟩,.inl (ti_succ hit hll),trivial⟩ ⟨⟨rfl,rfl,rfl,by rw [hnext]; exact hA2⟩,⟨rfl,.inl rfl,.inl rfl,.inl rfl,trivial⟩,trivial⟩ rfl rfl,hit,by show l.length - (i+1)<l.length - i; omega⟩
  | false =>
   rw [h5,cond_false,List.append_nil] at hnext
   conv=>whnf
   exact ⟨i+1,[0,1],[],Sub.mk' rfl ⟨.inl rfl,.inl rfl,.inl rfl,⟨rfl,by rw [hnext]⟩,⟨rfl,rfl⟩,.inl (ti_succ hit hll),trivial⟩ ⟨⟨rfl,rfl,rfl,by rw [hnext]⟩,⟨rfl,.inl rfl,.inl rfl,.inl rfl,trivial⟩,trivial⟩ rfl rfl,hit,by show l.length - (i+1)<l.length - i; omega⟩
 replace hit:i=l.length:=by have:decide ((i:Int)<((Stmt.rows l).length:Int))=false:=hit; have:=of_decide_eq_false this; rw [srows_len] at this; omega
 subst hit
 rw [List.take_length]
 conv=>whnf
 refine ⟨fun _ => ?_,fun h=>absurd rfl h⟩
 conv=>whnf
 exact ⟨[1],rfl,rfl,⟨rfl,rfl⟩,⟨rfl,rfl,rfl,rfl⟩,trivial⟩
end Go.Proofs.YthboippafkcoiaaDoor.am
namespace Go.Proofs.YthboippafkcoiaaDoor.am
open Go Go.Proofs
set_option linter.all false
set_option maxRecDepth 100000 in
theorem k_cloops0 (p:Prg) (h0:(lowerU p).2≠0):K 3 [p.av] [] (.ret (.tr (tb true))) []:=by
 have hl:=k_lowerG p fun h th hth=>(check_wf h th hth).1
 have hbe:=k_begins
 generalize (lowerU p).2=w at hl h0
 generalize (lowerU p).1=U at hl
 have e:(w != 0)=true:=by simpa using h0
 refine Ctr.of hT hmix Tryd.func3 rfl (fun _ _=>by kernel_rfl) rfl fun hok => ?_
 clear hok
 conv=>whnf
 refine acall.pure _ (hbe) rfl rfl fun _ => ?_
 conv=>whnf
 refine acall.pure _ (hl) rfl rfl fun _ => ?_
 conv=>whnf
 rw [e]
 conv=>whnf
 exact ⟨.inl rfl,trivial⟩
set_option maxRecDepth 100000 in
set_option maxHeartbeats 2000000 in
theorem k_cloops1 (p:Prg) (gs:List Gr) (hU:lowerU p=(⟨p.shared,p.locks,gs⟩,0)) (hO:UnOk p gs):K 3 [p.av] [] (.ret (.tr (tb true))) []:=by
 have hl:=k_lowerG p fun h th hth=>(check_wf h th hth).1
 have hbe:=k_begins
 rw [hU] at hl
 have hgl:(gs.map Gr.cells).length=p.threads.length:=by rw [List.length_map]; exact hO.len
 have htl:(p.threads.map Thread.cells).length=p.threads.length:=List.length_map ..
 have e0:(((gs.map Gr.cells).length:Int) == ((p.threads.map Thread.cells).length:Int))=true:=by rw [hgl,htl]; simp
 have hat:=hO.at_
 have hwh:=fun t th ht=>thr_whole hO (t:=t) (th:=th) ht
 have hp:=hO.prg
 clear hU
 simp only at hl
 refine Ctr.cut [10] hT hmix Tryd.func3 rfl (fun _ _=>by kernel_rfl) rfl fun hok => ?_
 obtain ⟨_,hb3,_⟩:=((hok.slot 0 rfl).agg _ (.tail _ (.tail _ (.head _)))).tr.lst
 clear hok
 rw [htl] at hb3
 conv=>whnf
 refine acall.pure _ (hbe) rfl rfl fun _ => ?_
 conv=>whnf
 refine acall.pure _ (hl) rfl rfl fun _ => ?_
 conv=>whnf
 refine LoopL.by (fun i:Nat=>⟨[(1,.ptr 0 0),(3,.ptr 1 0),(5,.tr (ti (i:Nat)))],[(0,.cells 25 [.tr (declsT p.shared),.tr (declsT p.locks),.tr (threadsT p.threads)]),(1,.cells 29 [.tr (declsT p.shared),.tr (declsT p.locks),.tr (graphsT gs)])],10⟩) (fun i=>i≤p.threads.length) (fun i=>p.threads.length - i) 0 [_,_] []
  (Sub.mk' rfl ⟨⟨rfl,rfl⟩,⟨rfl,rfl⟩,.inl rfl,trivial⟩ ⟨⟨rfl,.inl rfl,.inl rfl,.inl rfl,trivial⟩,⟨rfl,.inl rfl,.inl rfl,.inl rfl,trivial⟩,trivial⟩ rfl rfl) (Nat.zero_le _) ?_
 rintro i hi -
 conv=>whnf
 cases hit:decide ((i:Int)<((gs.map Gr.cells).length:Int)) with
 | false =>
  conv=>whnf
  refine ⟨fun _ => ?_,fun h=>absurd rfl h⟩
  conv=>whnf
  rw [e0]
  conv=>whnf
  exact ⟨.inl rfl,trivial⟩
 | true =>
  replace hit:i<p.threads.length:=by have:=of_decide_eq_true hit; omega
  have e1:decide ((i:Int)<((p.threads.map Thread.cells).length:Int))=true:=decide_eq_true (by omega)
  obtain ⟨th,hth⟩ : ∃ th,p.threads[i]? = some th:=⟨_,List.getElem?_eq_getElem hit⟩
  obtain ⟨hg,hz⟩:=hat i th hth
  have hdep:=k_depth _ (hwh i th hth)
  have hds:depthL (fol (thrG p i th)) (thrG p i th).nodes.length=skDeps (skB (thrC p i th) th.body) 0++[0]:=by
   have h1:=(thr_whl p i th).depth
   rw [skB_size,← thr_len p i th] at h1
   exact h1
  rw [hds] at hdep
  have hwl:K 9 [p.av,.tr (ti (i:Nat)),.tr (stmtsT th.body),.tr (ti 0),.tr (.v (.slice none 0 0))] [] (.ret (.sl 0 (skDeps (skB (thrC p i th) th.body) 0).length)) [some (natB (skDeps (skB (thrC p i th) th.body) 0))]:=k_whiles0 (thrC p i th) th.body 0 (stmtsF_ok (thrC p i th) th.body 1 (hp.threads i th hth).body) (by omega)
  have hlen:(skDeps (skB (thrC p i th) th.body) 0).length≤4096:=by rw [skDeps_len,skB_size]; omega
  generalize skDeps (skB (thrC p i th) th.body) 0=D at hdep hwl hlen
  generalize thrG p i th=g at hg hdep
  have hin:=k_ints ((D++[0]).map fun (x:Nat)=>(x:Int)) ((D++[0]).map fun (x:Nat)=>(x:Int))
  rw [eqI2_rf] at hin
  have hA:=natR_app D 0
  have hAl:(natR (D++[0])).length=D.length+1:=by rw [natR_len,List.length_append]; rfl
  clear hat hwh hz hds
  conv=>whnf
  rw [e1]
  conv=>whnf
  refine CutL.by (fun _:Unit=>⟨[(1,.ptr 0 0),(3,.ptr 1 0),(5,.tr (ti (i:Nat))),(6,.tr (natsT (D++[0])))],[(0,.cells 25 [.tr (declsT p.shared),.tr (declsT p.locks),.tr (threadsT p.threads)]),(1,.cells 29 [.tr (declsT p.shared),.tr (declsT p.locks),.tr (graphsT gs)])],10⟩) (fun _=>True) ?_ ?_
  ·conv=>whnf
   refine ⟨rfl,(show (0:Int)≤i by omega),(show (i:Int)<((p.threads.map Thread.cells).length:Int) by omega),fun row hrow => ?_⟩
   obtain ⟨d,hd,rfl⟩:=thr_get hrow
   obtain rfl:=Option.some.inj (hth.symm.trans hd)
   clear hrow hd
   conv=>whnf
   refine acall.new [] [] _ _ _ _ (hwl) rfl rfl rfl rfl aut aut rfl rfl ?_
   conv=>whnf
   refine ⟨rfl,rfl,rfl,(by rw [natR_len]; exact Nat.le_refl _),(show (D.length+1)*8≤150000000000000 by omega),fun q hq => ?_,?_⟩
   ·cases hq with
    | head=>exact Nat.ne_of_beq_eq_false rfl
    | tail _ h =>
     first
     | (cases h; done)
     | (cases h with
      | head=>exact Nat.ne_of_beq_eq_false rfl
      | tail _ h=>cases h)
   conv=>whnf
   refine ⟨by kernel_rfl,fun _ => ?_⟩
   conv=>whnf
   exact ⟨(),[0,1],[],Sub.mk' rfl ⟨⟨rfl,rfl⟩,⟨rfl,rfl⟩,.inl rfl,⟨rfl,(by show D.length+1≤((natR D).take D.length++[[ti (0:Nat)]]).length; rw [hA,hAl]; exact Nat.le_refl _),(by show Tr.lst 1 8 (natR (D++[0]))=Tr.lst 1 8 (List.take (D.length+1) ((natR D).take D.length++[[ti (0:Nat)]])); rw [hA,List.take_of_length_le (by rw [hAl]; exact Nat.le_refl _)])⟩,trivial⟩ ⟨⟨rfl,.inl rfl,.inl rfl,.inl rfl,trivial⟩,⟨rfl,.inl rfl,.inl rfl,.inl rfl,trivial⟩,trivial⟩ rfl rfl,trivial⟩
  rintro - - -
  conv=>whnf
  refine ⟨rfl,(show (0:Int)≤i by omega),(show (i:Int)<((gs.map Gr.cells).length:Int) by omega),fun row hrow => ?_⟩
  obtain ⟨d,hd,rfl⟩:=gr_get hrow
  obtain rfl:=Option.some.inj (hg.symm.trans hd)
  clear hrow hd
  conv=>whnf
  refine acall.pure _ (hdep) rfl rfl fun _ => ?_
  conv=>whnf
  refine acall.pure _ (hin) rfl rfl fun _ => ?_
  conv=>whnf
  exact ⟨i+1,[0,1],[],Sub.mk' rfl ⟨⟨rfl,rfl⟩,⟨rfl,rfl⟩,.inl (ti_succ hit (by omega)),trivial⟩ ⟨⟨rfl,.inl rfl,.inl rfl,.inl rfl,trivial⟩,⟨rfl,.inl rfl,.inl rfl,.inl rfl,trivial⟩,trivial⟩ rfl rfl,hit,by show p.threads.length - (i+1)<p.threads.length - i; omega⟩
theorem k_cloops (p:Prg):K 3 [p.av] [] (.ret (.tr (tb true))) []:=by
 rcases lower_cases p with ⟨h0,_⟩ | ⟨gs,hU,hO⟩
 ·exact k_cloops0 p h0
 ·exact k_cloops1 p gs hU hO
end Go.Proofs.YthboippafkcoiaaDoor.am
