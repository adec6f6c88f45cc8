/- The layings of the library's contracts (written by the kit's lay-shelf and lay-plain). Contracts of Go's library, and of reading and writing -/
import Derived.Shelf.Strconv.Itoa0
import Derived.Shelf.Strconv.Itoa1
import Derived.Shelf.LaysM
import Derived.Shelf.Strconv.Itoa2
import Derived.Shelf.Strconv.Itoa3
import Derived.Test.YthboippafkcoiaaGreatDoorProg
import Derived.Test.YthboippafkcoiaaGreatDoorU8
import Derived.Test.YthboippafkcoiaaGreatDoorU13
import Derived.Lib.ItoaLen
import Derived.Lib.AppendIntMem
import Derived.Test.YthboippafkcoiaaGreatDoorU10
import Derived.Test.YthboippafkcoiaaGreatDoorU12
set_option linter.all false
set_option linter.all false
namespace Go.Proofs
open Go.Shelf
def Tryz.laysM171_ren:Go.Shelf.Ren:=⟨fun | 171=>74 | 243=>119 | 246=>156 | 283=>171 | 284=>172 | 285=>173 | 286=>174 | 129=>182 | 317=>181 | 318=>183 | 319=>184 | 320=>185 | 337=>195 | 338=>196 | n=>n,fun | 3=>3 | 9=>9 | 2=>2 | 4=>4 | 171=>205 | 0=>0 | 53=>169 | 37=>126 | 5=>5 | 173=>208 | 212=>219 | 51=>220 | 20=>20 | 213=>221 | 46=>191 | 232=>237 | 233=>238 | n=>n,fun | 17=>1 | 18=>2 | 19=>3 | n=>n⟩
theorem Tryz.laysM171:Go.Proofs.LaysM.n171 Tryz.prog Tryz.laysM171_ren := {
 mixed:=by kernel_rfl
 f129:=Tryz.func182.trans (congrArg some (by kernel_rfl))
 f171:=Tryz.func74.trans (congrArg some (by kernel_rfl))
 f243:=Tryz.func119.trans (congrArg some (by kernel_rfl))
 f246:=Tryz.func156.trans (congrArg some (by kernel_rfl))
 f283:=Tryz.func171.trans (congrArg some (by kernel_rfl))
 f284:=Tryz.func172.trans (congrArg some (by kernel_rfl))
 f285:=Tryz.func173.trans (congrArg some (by kernel_rfl))
 f286:=Tryz.func174.trans (congrArg some (by kernel_rfl))
 f317:=Tryz.func181.trans (congrArg some (by kernel_rfl))
 f318:=Tryz.func183.trans (congrArg some (by kernel_rfl))
 f319:=Tryz.func184.trans (congrArg some (by kernel_rfl))
 f320:=Tryz.func185.trans (congrArg some (by kernel_rfl))
 f337:=Tryz.func195.trans (congrArg some (by kernel_rfl))
 f338:=Tryz.func196.trans (congrArg some (by kernel_rfl))
 t0:=Tryz.underlying0
 a0:=Tryz.isAgg0
 z0:=Tryz.sizeOf0
 v0:=Tryz.zeroValue0
 t2:=Tryz.underlying2
 a2:=Tryz.isAgg2
 z2:=Tryz.sizeOf2
 v2:=Tryz.zeroValue2
 t3:=Tryz.underlying3
 a3:=Tryz.isAgg3
 z3:=Tryz.sizeOf3
 v3:=Tryz.zeroValue3
 t4:=Tryz.underlying4
 a4:=Tryz.isAgg4
 z4:=Tryz.sizeOf4
 v4:=Tryz.zeroValue4
 t5:=Tryz.underlying5
 a5:=Tryz.isAgg5
 z5:=Tryz.sizeOf5
 v5:=Tryz.zeroValue5
 t9:=Tryz.underlying9
 a9:=Tryz.isAgg9
 z9:=Tryz.sizeOf9
 v9:=Tryz.zeroValue9
 t20:=Tryz.underlying20
 a20:=Tryz.isAgg20
 z20:=Tryz.sizeOf20
 v20:=Tryz.zeroValue20
 t37:=Tryz.underlying126
 a37:=Tryz.isAgg126
 z37:=Tryz.sizeOf126
 v37:=Tryz.zeroValue126
 t46:=Tryz.underlying191
 a46:=Tryz.isAgg191
 z46:=Tryz.sizeOf191
 v46:=Tryz.zeroValue191
 t51:=Tryz.underlying220
 a51:=Tryz.isAgg220
 z51:=Tryz.sizeOf220
 v51:=Tryz.zeroValue220
 t53:=Tryz.underlying169
 a53:=Tryz.isAgg169
 z53:=Tryz.sizeOf169
 v53:=Tryz.zeroValue169
 t171:=Tryz.underlying205
 a171:=Tryz.isAgg205
 z171:=Tryz.sizeOf205
 v171:=Tryz.zeroValue205
 t173:=Tryz.underlying208
 a173:=Tryz.isAgg208
 z173:=Tryz.sizeOf208
 v173:=Tryz.zeroValue208
 t212:=Tryz.underlying219
 a212:=Tryz.isAgg219
 z212:=Tryz.sizeOf219
 v212:=Tryz.zeroValue219
 t213:=Tryz.underlying221
 a213:=Tryz.isAgg221
 z213:=Tryz.sizeOf221
 t232:=Tryz.underlying237
 a232:=Tryz.isAgg237
 z232:=Tryz.sizeOf237
 v232:=Tryz.zeroValue237
 t233:=Tryz.underlying238
 a233:=Tryz.isAgg238
 z233:=Tryz.sizeOf238
 v233:=Tryz.zeroValue238
 g17:=by kernel_rfl
 g18:=by kernel_rfl
 g19:=by kernel_rfl
 i0:=by kernel_rfl
 i2:=by kernel_rfl
 i3:=by kernel_rfl
 i4:=by kernel_rfl
 i5:=by kernel_rfl
 i9:=by kernel_rfl
 i20:=by kernel_rfl
 i37:=by kernel_rfl
 i46:=by kernel_rfl
 i51:=by kernel_rfl
 i53:=by kernel_rfl
 i171:=by kernel_rfl
 i173:=by kernel_rfl
 i212:=by kernel_rfl
 i232:=by kernel_rfl
 i233:=by kernel_rfl
 m17:=by kernel_rfl
 m18:=by kernel_rfl
 m19:=by kernel_rfl }
end Go.Proofs
namespace Go.Proofs.YthboippafkcoiaaGreatDoor.am
open Go Go.Proofs Go.RowKit
theorem Ctr.ofCalls {f:Nat} {args:List AV} {a:AV} (hc:Callable Tryz.prog f) (h : ∀ (g:Gh) (w:World) (vs:Array Value),MSt g w (ofL [])→vs.size=args.length→(∀ (i:Nat) (v:Value) (a:AV),vs[i]? = some v→args[i]? = some a→Rep g w v a) →
  Calls Tryz.prog f vs w fun e w' => ∃ v,e = .returned v∧Below w.heap.size w w'∧(Grow g w g w'→MSt g w' (ofLO [])→Rep g w' v a)):K f args [] (.ret a) []:=by
 refine ⟨hc,fun g w vs hun hm hsz hv=>(h g w vs hm hsz hv).mono ?_⟩
 rintro e w' ⟨v,rfl,hb,hR⟩
 have hG:Grow g w g w':=⟨hb.os,hb.tape,hb.output,hb.size,fun b hk=>hb.block b hk.1,fun b hk=>hb.block b (hm.xlt b hk),rfl,fun _ h=>h,fun _ _ h => .inl h,fun k b e => .inl ⟨k,e⟩⟩
 have hM:MSt g w' (ofLO []):=⟨fun h b e=>(by simp [ofLO] at e),hm.inj,fun k b e=>Nat.lt_of_lt_of_le (hm.lt k b e) hb.size,fun b hk=>Nat.lt_of_lt_of_le (hm.xlt b hk) hb.size,hm.xl,hm.gl.grow hG⟩
 exact ⟨g,hG,hM,fun k _ l hl=>(by have:=hun k (Nat.zero_le _); rw [this] at hl; cases hl),hR hG hM⟩
theorem one_arg {vs:Array Value} (h:vs.size=1) : ∃ v,vs = #[v]:=by
 obtain ⟨l⟩:=vs
 match l,h with
 | [v],_=>exact ⟨v,rfl⟩
theorem powTab {g:Gh} {w:World} (h:GL g w) {name:String} (hn : Tryz.prog.globalNamed name=some 1):Lib.TabIs Tryz.prog w name .u64 Lib.pow10Tab:=by
 obtain ⟨_,t,fz,e⟩:=h _ _ (.inl ⟨rfl,rfl⟩)
 unfold Lib.TabIs World.var?
 rw [hn,Option.bind_some,e]
 rfl
def prnB (n:Int):ByteArray:=⟨(ws.prn n).toArray⟩
theorem decDigits_dig (u:Nat):Lib.decDigits u=ws.dig u:=by
 induction u using Nat.strongRecOn with
 | _ u ih =>
  by_cases h:u<10
  ·rw [Lib.decDigits,dif_pos h,ws.dig_small h]; rfl
  ·rw [Lib.decDigits,dif_neg h,ws.dig_big h,ih (u / 10) (by omega)]; rfl
theorem itoa_prn (n:Int):Lib.itoa n=ws.prn n:=by
 unfold Lib.itoa ws.prn
 split
 ·rw [decDigits_dig,show n.natAbs=(-n).toNat by omega]
 ·rw [decDigits_dig]
theorem prn_len {n:Int} (h1 : -9223372036854775808≤n) (h2:n≤9223372036854775807):(prnB n).size≤21:=by
 show (ws.prn n).toArray.size≤21
 rw [List.size_toArray,← itoa_prn]
 exact Lib.itoa_length_le n h1 h2
theorem k_itoa (n:Int):K 74 [.tr (ti n)] [] (.ret (.tr (ts (prnB n)))) []:=by
 refine Ctr.ofCalls (fun _ _=>by kernel_rfl) fun g w vs hm hsz hv => ?_
 obtain ⟨v,rfl⟩:=one_arg hsz
 obtain ⟨rfl,h1,h2⟩:=val_inv (hv 0 v (.tr (ti n)) rfl rfl)
 refine (Any.strconv_Itoa Tryz.laysM171 n h1 h2 w (powTab hm.gl (by kernel_rfl))).mono ?_
 rintro e w' ⟨rfl,k,os,rfl⟩
 rw [itoa_prn]
 exact ⟨_,rfl,Lib.below_grow _ _ (Nat.le_refl _) _ _,fun _ _ => .tr (.v (Nat.le_trans (prn_len h1 h2) (by omega)))⟩
end Go.Proofs.YthboippafkcoiaaGreatDoor.am
namespace Go.Proofs.YthboippafkcoiaaGreatDoor.am
open Go Go.Proofs
set_option linter.all false
theorem prn_0:prnB 0=⟨#[48]⟩:=by unfold prnB ws.prn; rw [if_neg (by decide),show (0:Int).toNat=0 from rfl,ws.dig_small (by decide)]; rfl
theorem prn_1:prnB 1=⟨#[49]⟩:=by unfold prnB ws.prn; rw [if_neg (by decide),show (1:Int).toNat=1 from rfl,ws.dig_small (by decide)]; rfl
theorem prn_2:prnB 2=⟨#[50]⟩:=by unfold prnB ws.prn; rw [if_neg (by decide),show (2:Int).toNat=2 from rfl,ws.dig_small (by decide)]; rfl
theorem k_itoa0:K 74 [.tr (ti 0)] [] (.ret (.tr (ts ⟨#[48]⟩))) []:=by have:=k_itoa 0; rwa [prn_0] at this
theorem k_itoa1:K 74 [.tr (ti 1)] [] (.ret (.tr (ts ⟨#[49]⟩))) []:=by have:=k_itoa 1; rwa [prn_1] at this
theorem k_itoa2:K 74 [.tr (ti 2)] [] (.ret (.tr (ts ⟨#[50]⟩))) []:=by have:=k_itoa 2; rwa [prn_2] at this
set_option maxRecDepth 100000 in
theorem k_slot0T:K 158 [.tr (ti 0)] [] (.ret (.tr (ts ⟨#[115,48]⟩))) []:=by
 refine Ctr.of hT hmix Tryz.func158 rfl (fun _ _=>by kernel_rfl) rfl fun hok => ?_
 clear hok
 conv=>whnf
 refine acall.pure _ (k_itoa0) rfl rfl fun _ => ?_
 conv=>whnf
 refine ⟨by decide,?_⟩
 conv=>whnf
 exact ⟨.inl (congrArg ts (by kernel_rfl)),trivial⟩
set_option maxRecDepth 100000 in
theorem k_valS0:K 159 [valA true 0 0] [] (.ret (.tr (ts ⟨#[115,48]⟩))) []:=by
 refine Ctr.of hT hmix Tryz.func159 rfl (fun _ _=>by kernel_rfl) rfl fun hok => ?_
 clear hok
 conv=>whnf
 refine acall.pure _ (k_slot0T) rfl rfl fun _ => ?_
 conv=>whnf
 exact aut
def u0:Un:=⟨p0.shared,[],[g0]⟩
set_option maxRecDepth 100000 in
theorem k_thing0:K 157 [.ptr 0 0,.ptr 1 0] [.cells 75 (nd0a.cells.map .tr),.cells 29 (u0.cells.map .tr)] (.ret (.tr (ts xS))) [some (.cells 75 (nd0a.cells.map .tr)),some (.cells 29 (u0.cells.map .tr))]:=by
 refine Ctr.of hT hmix Tryz.func157 rfl (fun _ _=>by kernel_rfl) rfl fun hok => ?_
 clear hok
 conv=>whnf
 refine ⟨rfl,by decide,by decide,fun row hrow => ?_⟩
 obtain rfl:Decl.cells ⟨xS,0,0⟩=row:=Option.some.inj hrow
 clear hrow
 conv=>whnf
 exact aut
set_option maxRecDepth 100000 in
theorem k_does2:K 120 [u0.av,en0.av] [] (.ret (.tr (ts ⟨#[101,110,100]⟩))) []:=by
 refine Ctr.of hT hmix Tryz.func120 rfl (fun _ _=>by kernel_rfl) rfl fun hok => ?_
 clear hok
 conv=>whnf
 exact aut
set_option maxRecDepth 100000 in
theorem k_does1:K 120 [u0.av,br0e.av] [] (.ret (.tr (ts ⟨#[98,114,97,110,99,104,32,115,48]⟩))) []:=by
 refine Ctr.of hT hmix Tryz.func120 rfl (fun _ _=>by kernel_rfl) rfl fun hok => ?_
 clear hok
 conv=>whnf
 refine acall.pure _ (k_valS0) rfl rfl fun _ => ?_
 conv=>whnf
 refine ⟨by decide,?_⟩
 conv=>whnf
 exact ⟨.inl (congrArg ts (by kernel_rfl)),trivial⟩
set_option maxRecDepth 100000 in
theorem k_does0:K 120 [u0.av,nd0a.av] [] (.ret (.tr (ts ⟨#[115,48,32,61,32,120]⟩))) []:=by
 refine Ctr.of hT hmix Tryz.func120 rfl (fun _ _=>by kernel_rfl) rfl fun hok => ?_
 clear hok
 conv=>whnf
 refine acall.pure _ (k_slot0T) rfl rfl fun _ => ?_
 conv=>whnf
 refine ⟨by decide,?_⟩
 conv=>whnf
 refine acall.au [1,0] [] (k_thing0) ?_
 intro _
 conv=>whnf
 refine ⟨by decide,?_⟩
 conv=>whnf
 exact ⟨.inl (congrArg ts (by kernel_rfl)),trivial⟩
set_option maxRecDepth 100000 in
theorem k_text0:K 75 [u0.av,nd0a.av] [] (.ret (.tr (ts ⟨#[115,48,32,61,32,120,32,45,62,32,49]⟩))) []:=by
 refine Ctr.of hT hmix Tryz.func75 rfl (fun _ _=>by kernel_rfl) rfl fun hok => ?_
 clear hok
 conv=>whnf
 refine acall.pure _ (k_does0) rfl rfl fun _ => ?_
 conv=>whnf
 refine acall.pure _ (k_itoa1) rfl rfl fun _ => ?_
 conv=>whnf
 refine ⟨by decide,?_⟩
 conv=>whnf
 refine ⟨by decide,?_⟩
 conv=>whnf
 exact ⟨.inl (congrArg ts (by kernel_rfl)),trivial⟩
set_option maxRecDepth 100000 in
theorem k_text1:K 75 [u0.av,br0e.av] [] (.ret (.tr (ts ⟨#[98,114,97,110,99,104,32,115,48,32,45,62,32,48,32,50]⟩))) []:=by
 refine Ctr.of hT hmix Tryz.func75 rfl (fun _ _=>by kernel_rfl) rfl fun hok => ?_
 clear hok
 conv=>whnf
 refine acall.pure _ (k_does1) rfl rfl fun _ => ?_
 conv=>whnf
 refine acall.pure _ (k_itoa0) rfl rfl fun _ => ?_
 conv=>whnf
 refine ⟨by decide,?_⟩
 conv=>whnf
 refine ⟨by decide,?_⟩
 conv=>whnf
 refine acall.pure _ (k_itoa2) rfl rfl fun _ => ?_
 conv=>whnf
 refine ⟨by decide,?_⟩
 conv=>whnf
 refine ⟨by decide,?_⟩
 conv=>whnf
 exact ⟨.inl (congrArg ts (by kernel_rfl)),trivial⟩
set_option maxRecDepth 100000 in
theorem k_text2:K 75 [u0.av,en0.av] [] (.ret (.tr (ts ⟨#[101,110,100]⟩))) []:=by
 refine Ctr.of hT hmix Tryz.func75 rfl (fun _ _=>by kernel_rfl) rfl fun hok => ?_
 clear hok
 conv=>whnf
 refine acall.pure _ (k_does2) rfl rfl fun _ => ?_
 conv=>whnf
 exact ⟨.inl (congrArg ts (by kernel_rfl)),trivial⟩
def prP:Nat→List UInt8
 | 0=>[116,104,114,101,97,100,32,97,10]
 | 1=>[116,104,114,101,97,100,32,97,10,48,32,115,48,32,61,32,120,32,45,62,32,49,10]
 | 2=>[116,104,114,101,97,100,32,97,10,48,32,115,48,32,61,32,120,32,45,62,32,49,10,49,32,98,114,97,110,99,104,32,115,48,32,45,62,32,48,32,50,10]
 | _=>[116,104,114,101,97,100,32,97,10,48,32,115,48,32,61,32,120,32,45,62,32,49,10,49,32,98,114,97,110,99,104,32,115,48,32,45,62,32,48,32,50,10,50,32,101,110,100,10]
abbrev prB (l:List UInt8):Blk := .vec 5 1 1 (brows l)
set_option maxRecDepth 100000 in
theorem k_print0:K 33 [u0.av] [] (.ret (.tup [.tr (ts ⟨#[116,104,114,101,97,100,32,97,10,48,32,115,48,32,61,32,120,32,45,62,32,49,10,49,32,98,114,97,110,99,104,32,115,48,32,45,62,32,48,32,50,10,50,32,101,110,100,10]⟩),.tr (ti 0)])) []:=by
 have hch:=k_check u0
 rw [show (checkU u0).1=0 from by kernel_rfl,show (checkU u0).2.1=0 from by kernel_rfl,show (checkU u0).2.2=0 from by kernel_rfl] at hch
 refine Ctr.of hT hmix Tryz.func33 rfl (fun _ _=>by kernel_rfl) rfl fun hok => ?_
 clear hok
 conv=>whnf
 refine acall.pure _ (hch) rfl rfl fun _ => ?_
 conv=>whnf
 refine .inl ⟨2,?_⟩
 conv=>whnf
 refine ⟨rfl,Int.le_refl _,(by decide),fun row hrow => ?_⟩
 obtain rfl:Gr.cells g0=row:=Option.some.inj hrow
 clear hrow
 conv=>whnf
 refine ⟨by decide,?_⟩
 conv=>whnf
 refine ⟨by decide,?_⟩
 conv=>whnf
 refine ⟨by decide,?_⟩
 conv=>whnf
 refine LoopL.by (fun i:Nat=>⟨[(1,.ptr 0 0),(7,.sl 1 (prP i).length),(22,.tr (graphsT [g0])),(23,.tr (ti 1)),(24,.tr (ti 0)),(35,.tr (nodesT g0.nodes)),(36,.tr (ti 3)),(37,.tr (ti (i:Nat)))],[(0,.cells 29 (u0.cells.map .tr)),(1,prB (prP i))],10⟩) (fun i=>i≤3) (fun i=>3 - i) 0 [_,_] []
  (Sub.aw) (Nat.zero_le _) ?_
 rintro i hi -
 have hi4:i=0∨i=1∨i=2∨i=3:=by omega
 clear hi
 rcases hi4 with rfl | rfl | rfl | rfl
 ·conv=>whnf
  refine ⟨rfl,by decide,by decide,fun row hrow => ?_⟩
  obtain rfl:Nd.cells nd0a=row:=Option.some.inj hrow
  clear hrow
  conv=>whnf
  refine acall.pure _ (k_itoa0) rfl rfl ?_
  conv=>whnf
  refine ⟨by decide,?_⟩
  conv=>whnf
  refine acall.pure _ (k_text0) rfl rfl ?_
  conv=>whnf
  refine ⟨by decide,?_⟩
  conv=>whnf
  refine ⟨by decide,?_⟩
  conv=>whnf
  refine ⟨rfl,rfl,rfl,by decide,by decide,?_⟩
  conv=>whnf
  refine ⟨by kernel_rfl,fun _ => ?_⟩
  conv=>whnf
  exact ⟨1,[0,_],[],Sub.mk' rfl ⟨⟨rfl,rfl⟩,⟨rfl,by kernel_rfl⟩,.inl rfl,.inl rfl,.inl rfl,.inl rfl,.inl rfl,.inl rfl,trivial⟩ ⟨⟨rfl,.inl rfl,.inl rfl,.inl rfl,trivial⟩,⟨rfl,rfl,rfl,by kernel_rfl⟩,trivial⟩ rfl rfl,by decide,by decide⟩
 ·conv=>whnf
  refine ⟨rfl,by decide,by decide,fun row hrow => ?_⟩
  obtain rfl:Nd.cells br0e=row:=Option.some.inj hrow
  clear hrow
  conv=>whnf
  refine acall.pure _ (k_itoa1) rfl rfl ?_
  conv=>whnf
  refine ⟨by decide,?_⟩
  conv=>whnf
  refine acall.pure _ (k_text1) rfl rfl ?_
  conv=>whnf
  refine ⟨by decide,?_⟩
  conv=>whnf
  refine ⟨by decide,?_⟩
  conv=>whnf
  refine ⟨rfl,rfl,rfl,by decide,by decide,?_⟩
  conv=>whnf
  refine ⟨by kernel_rfl,fun _ => ?_⟩
  conv=>whnf
  exact ⟨2,[0,_],[],Sub.mk' rfl ⟨⟨rfl,rfl⟩,⟨rfl,by kernel_rfl⟩,.inl rfl,.inl rfl,.inl rfl,.inl rfl,.inl rfl,.inl rfl,trivial⟩ ⟨⟨rfl,.inl rfl,.inl rfl,.inl rfl,trivial⟩,⟨rfl,rfl,rfl,by kernel_rfl⟩,trivial⟩ rfl rfl,by decide,by decide⟩
 ·conv=>whnf
  refine ⟨rfl,by decide,by decide,fun row hrow => ?_⟩
  obtain rfl:Nd.cells en0=row:=Option.some.inj hrow
  clear hrow
  conv=>whnf
  refine acall.pure _ (k_itoa2) rfl rfl ?_
  conv=>whnf
  refine ⟨by decide,?_⟩
  conv=>whnf
  refine acall.pure _ (k_text2) rfl rfl ?_
  conv=>whnf
  refine ⟨by decide,?_⟩
  conv=>whnf
  refine ⟨by decide,?_⟩
  conv=>whnf
  refine ⟨rfl,rfl,rfl,by decide,by decide,?_⟩
  conv=>whnf
  refine ⟨by kernel_rfl,fun _ => ?_⟩
  conv=>whnf
  exact ⟨3,[0,_],[],Sub.mk' rfl ⟨⟨rfl,rfl⟩,⟨rfl,by kernel_rfl⟩,.inl rfl,.inl rfl,.inl rfl,.inl rfl,.inl rfl,.inl rfl,trivial⟩ ⟨⟨rfl,.inl rfl,.inl rfl,.inl rfl,trivial⟩,⟨rfl,rfl,rfl,by kernel_rfl⟩,trivial⟩ rfl rfl,by decide,by decide⟩
 ·conv=>whnf
  refine ⟨fun _ => ?_,fun h=>absurd rfl h⟩
  conv=>whnf
  refine ⟨fun _ => ?_,fun h=>absurd rfl h⟩
  conv=>whnf
  refine ⟨prP 3,by kernel_rfl,by decide,?_⟩
  conv=>whnf
  exact ⟨⟨.inl (congrArg ts (by kernel_rfl)),.inl rfl,trivial⟩,trivial⟩
end Go.Proofs.YthboippafkcoiaaGreatDoor.am
namespace Go.Proofs.YthboippafkcoiaaGreatDoor.am
open Go Go.Proofs
set_option linter.all false
theorem f0_0:fol g0 0=[1]:=by kernel_rfl
theorem f0_1:fol g0 1=[0,2]:=by kernel_rfl
theorem f0_2:fol g0 2=[]:=by kernel_rfl
theorem f0_n (n:Nat):fol g0 (n+3)=[]:=by
 unfold fol
 rw [List.getElem?_eq_none (show g0.nodes.length≤n+3 from Nat.le_add_left 3 n)]
theorem f0_lt : ∀ a,∀ b ∈ fol g0 a,b<3
 | 0,b,h=>by rw [f0_0] at h; simp at h; omega
 | 1,b,h=>by rw [f0_1] at h; simp at h; omega
 | 2,b,h=>by rw [f0_2] at h; cases h
 | n+3,b,h=>by rw [f0_n] at h; cases h
theorem r0_0 {c:Int}:Rch (fol g0) c 0 := .zero
theorem r0_1 {c:Int} (h:c≠0):Rch (fol g0) c 1 := .step .zero (fun w=>h w.symm) (by rw [f0_0]; simp)
theorem r0_2:Rch (fol g0) (-1) 2 := .step (r0_1 (by decide)) (by decide) (by rw [f0_1]; simp)
theorem d01:Dm (fol g0) 0 1:=dm_zero (r0_1 (by decide))
theorem d12:Dm (fol g0) 1 2:=by
 refine ⟨r0_1 (by decide),r0_2,.inr fun h => ?_⟩
 have : ∀ y,Rch (fol g0) ((1:Nat):Int) y→y=0∨y=1:=fun y hy=>by
  induction hy with
  | zero=>exact .inl rfl
  | step _ h1 h2 ih =>
   rcases ih with rfl | rfl
   ·rw [f0_0] at h2; simp at h2; exact .inr h2
   ·exact absurd rfl h1
 rcases this 2 h with w | w <;> cases w
theorem nd21 : ¬ Dm (fol g0) 2 1:=fun h=>h.2.2.elim (fun w=>by cases w) fun w=>w (r0_1 (by decide))
theorem nd10 : ¬ Dm (fol g0) 1 0:=not_dm_zero (by decide)
theorem lt0 {c x:Nat} (h:Dm (fol g0) c x):c=0∨c=1∨c=2:=by
 have:=h.1.lt (N:=3) (by decide) f0_lt
 omega
theorem idom0:idomL (fol g0) 3=[-1,0,1]:=by
 have e:=fun x v h=>idomI_eq (fol:=fol g0) (N:=3) (by decide) f0_lt (x:=x) (v:=v) h
 show [idomI (fol g0) 0,idomI (fol g0) 1,idomI (fol g0) 2]=_
 rw [e 0 (-1) (.inl aut),e 1 0 (.inr ⟨by decide,0,rfl,by decide,d01,fun c hc hd => ?_⟩),e 2 1 (.inr ⟨by decide,1,rfl,by decide,d12,fun c hc hd => ?_⟩)]
 ·rcases lt0 hd with rfl | rfl | rfl
  ·exact d01
  ·exact dm_refl (r0_1 (by decide))
  ·exact absurd rfl hc
 ·rcases lt0 hd with rfl | rfl | rfl
  ·exact dm_refl r0_0
  ·exact absurd rfl hc
  ·exact absurd hd nd21
theorem in00:InLoop (fol g0) 0 0:=⟨⟨1,d01,by rw [f0_1]; simp⟩,.inl rfl⟩
theorem in01:InLoop (fol g0) 0 1:=⟨⟨1,d01,by rw [f0_1]; simp⟩,.inr (.back d01 (by rw [f0_1]; simp) (by decide))⟩
theorem nin02 : ¬ InLoop (fol g0) 0 2:=fun h=>h.2.elim (fun w=>by cases w) fun w=>by
 cases w with
 | back _ h2 _=>rw [f0_2] at h2; cases h2
 | pre _ h2 _ _=>rw [f0_2] at h2; cases h2
theorem nback1 : ¬ HasBack (fol g0) 1:=fun ⟨a,h1,h2⟩=>by
 match a,h1,h2 with
 | 0,h1,_=>exact nd10 h1
 | 1,_,h2=>rw [f0_1] at h2; simp at h2
 | 2,_,h2=>rw [f0_2] at h2; cases h2
 | n+3,_,h2=>rw [f0_n] at h2; cases h2
theorem nback2 : ¬ HasBack (fol g0) 2:=fun ⟨a,h1,h2⟩=>by
 match a,h1,h2 with
 | 0,_,h2=>rw [f0_0] at h2; simp at h2
 | 1,h1,_=>exact nd21 h1
 | 2,_,h2=>rw [f0_2] at h2; cases h2
 | n+3,_,h2=>rw [f0_n] at h2; cases h2
theorem depth0:depthL (fol g0) 3=[1,1,0]:=by
 have z : ∀ n,depthN (fol g0) 0 n=0:=fun n=>by simp [depthN]
 have s : ∀ n,depthN (fol g0) 3 n=depthN (fol g0) 1 n:=fun n=>by
  rw [depthN_succ,depthN_succ,if_neg fun w=>nback1 w.1,if_neg fun w=>nback2 w.1]; rfl
 show [depthN (fol g0) 3 0,depthN (fol g0) 3 1,depthN (fol g0) 3 2]=_
 rw [s,s,s,depthN_succ,depthN_succ,depthN_succ,z,z,z,if_pos in00,if_pos in01,if_neg nin02]
end Go.Proofs.YthboippafkcoiaaGreatDoor.am
namespace Go.Proofs.YthboippafkcoiaaGreatDoor.am
open Go Go.Proofs
set_option linter.all false
set_option maxRecDepth 100000 in
theorem k_rsame (l l':List Int):K 60 [.tr (intsT l),.tr (intsT l')] [] (.ret (.tr (tb (eqI2 l l')))) []:=by
 have h1:(l.map irow).length=l.length:=List.length_map ..
 have h2:(l'.map irow).length=l'.length:=List.length_map ..
 refine Ctr.of hT hmix Tryz.func60 rfl (fun _ _=>by kernel_rfl) rfl fun hok => ?_
 obtain ⟨_,hl1,_⟩:=(hok.slot 0 rfl).tr.lst
 rw [List.length_map] at hl1
 clear hok
 conv=>whnf
 cases hc:(((l.map irow).length:Int) != ((l'.map irow).length:Int)) with
 | true =>
  conv=>whnf
  exact ⟨.inl (congrArg tb (by rw [h1,h2] at hc; unfold eqI2; rw [hc]; rfl)),trivial⟩
 | false =>
 have hE:eqI2 l l'=eqI l l':=by rw [h1,h2] at hc; unfold eqI2; rw [hc]; rfl
 have hll:l.length=l'.length:=by
  rw [h1,h2] at hc
  refine Classical.byContradiction fun w => ?_
  rw [bne_iff_ne.2 (fun e=>w (by omega))] at hc
  cases hc
 rw [hE]
 generalize hR:eqI l l'=R
 clear hE hc
 conv=>whnf
 refine LoopL.by (fun i:Nat=>⟨[(0,.tr (intsT l)),(1,.tr (intsT l')),(5,.tr (ti i))],[],10⟩) (fun i=>i≤l.length∧R=eqI (l.drop i) (l'.drop i)) (fun i=>l.length - i) 0 [] []
  (Sub.mk' rfl aut trivial rfl rfl) ⟨Nat.zero_le _,hR.symm⟩ ?_
 clear hR
 rintro i ⟨hi,hR⟩ -
 conv=>whnf
 refine csplit (fun hit => ?_) (fun hit => ?_)
 ·have hit:i<l.length:=by have:decide ((i:Int)<((l.map irow).length:Int))=true:=hit; have:=of_decide_eq_true this; omega
  obtain ⟨a,ha⟩ : ∃ a,l[i]? = some a:=⟨_,List.getElem?_eq_getElem hit⟩
  obtain ⟨b,hb⟩ : ∃ b,l'[i]? = some b:=⟨_,List.getElem?_eq_getElem (by omega)⟩
  rw [drop_cons ha,drop_cons hb] at hR
  conv=>whnf
  refine ⟨rfl,(show (0:Int)≤i by omega),(show (i:Int)<((l.map irow).length:Int) by omega),fun row hrow => ?_⟩
  obtain ⟨d,hd,rfl⟩:=int_get hrow
  obtain rfl:=Option.some.inj (ha.symm.trans hd)
  clear hrow hd
  conv=>whnf
  refine ⟨rfl,(show (0:Int)≤i by omega),(show (i:Int)<((l'.map irow).length:Int) by omega),fun row hrow => ?_⟩
  obtain ⟨d,hd,rfl⟩:=int_get hrow
  obtain rfl:=Option.some.inj (hb.symm.trans hd)
  clear hrow hd
  conv=>whnf
  refine ⟨by kernel_rfl,fun _ => ?_⟩
  conv=>whnf
  cases hab:(a != b) with
  | true =>
   conv=>whnf
   exact ⟨.inl (by rw [hR]; show tb false=tb (bif a != b then false else _); rw [hab]; rfl),trivial⟩
  | false =>
   replace hR:R=eqI (l.drop (i+1)) (l'.drop (i+1)):=by rw [hR]; show (bif a != b then false else _)=_; rw [hab]; rfl
   conv=>whnf
   exact ⟨i+1,[],[],Sub.mk' rfl ⟨.inl rfl,.inl rfl,.inl (ti_succ hit (by omega)),trivial⟩ trivial rfl rfl,⟨hit,hR⟩,by show l.length - (i+1)<l.length - i; omega⟩
 have hit:l.length≤i:=by have:decide ((i:Int)<((l.map irow).length:Int))=false:=hit; have:=of_decide_eq_false this; omega
 rw [List.drop_of_length_le hit,List.drop_of_length_le (by omega)] at hR
 conv=>whnf
 refine ⟨fun _ => ?_,fun h=>absurd rfl h⟩
 conv=>whnf
 exact ⟨.inl (by rw [hR]; rfl),trivial⟩
set_option maxRecDepth 100000 in
theorem k_ints (l l':List Int):K 23 [.tr (intsT l),.tr (intsT l')] [] (.ret (.tr (tb (eqI2 l l')))) []:=by
 have h:=k_rsame l l'
 refine Ctr.of hT hmix Tryz.func23 rfl (fun _ _=>by kernel_rfl) rfl fun hok => ?_
 clear hok
 conv=>whnf
 refine acall.pure _ (h) rfl rfl fun _ => ?_
 conv=>whnf
 exact aut
end Go.Proofs.YthboippafkcoiaaGreatDoor.am
namespace Go.Proofs.YthboippafkcoiaaGreatDoor.am
open Go Go.Proofs
set_option linter.all false
theorem low_p0:lowerU p0=(u0,0):=by kernel_rfl
theorem k_lowerL:K 10 [p0.av] [] (.ret (.tup [u0.av,.tr (ti 0)])) []:=by
 have h:=k_lowerG p0 fun h th hth=>(check_wf h th hth).1
 rw [low_p0] at h
 exact h
set_option maxRecDepth 100000 in
theorem k_beginsL:K 14 [] [] (.ret (.tr (tb true))) []:=by
 have hlo:=k_loop0
 have hlw:=k_lowerL
 have hch:=k_check u0
 rw [show (checkU u0).1=0 from by kernel_rfl,show (checkU u0).2.1=0 from by kernel_rfl,show (checkU u0).2.2=0 from by kernel_rfl] at hch
 have hpr:=k_print0
 obtain ⟨S,hS⟩ : ∃ S:ByteArray,S=⟨#[116,104,114,101,97,100,32,97,10,48,32,115,48,32,61,32,120,32,45,62,32,49,10,49,32,98,114,97,110,99,104,32,115,48,32,45,62,32,48,32,50,10,50,32,101,110,100,10]⟩:=⟨_,rfl⟩
 replace hpr:K 33 [u0.av] [] (.ret (.tup [.tr (ts S),.tr (ti 0)])) []:=by rw [hS]; exact hpr
 have e:(S.toList == ByteArray.toList ⟨#[116,104,114,101,97,100,32,97,10,48,32,115,48,32,61,32,120,32,45,62,32,49,10,49,32,98,114,97,110,99,104,32,115,48,32,45,62,32,48,32,50,10,50,32,101,110,100,10]⟩)=true:=by rw [hS]; exact beq_self_eq_true _
 clear hS
 have hdp:=k_depth g0 (by kernel_rfl)
 rw [show g0.nodes.length=3 from rfl,depth0] at hdp
 have hdo:=k_dominators g0 (by kernel_rfl)
 rw [show g0.nodes.length=3 from rfl,idom0] at hdo
 have hi1:=k_ints [1,1,0] [1,1,0]
 rw [show eqI2 [1,1,0] [1,1,0]=true from by kernel_rfl] at hi1
 have hi2:=k_ints [-1,0,1] [-1,0,1]
 rw [show eqI2 [-1,0,1] [-1,0,1]=true from by kernel_rfl] at hi2
 refine Ctr.cut [6] hT hmix Tryz.func14 rfl (fun _ _=>by kernel_rfl) rfl fun hok => ?_
 clear hok
 conv=>whnf
 refine acall.pure _ (hlo) rfl rfl fun _ => ?_
 conv=>whnf
 refine acall.pure _ (hlw) rfl rfl fun _ => ?_
 conv=>whnf
 refine acall.pure _ (hch) rfl rfl fun _ => ?_
 conv=>whnf
 refine acall.pure _ (hpr) rfl rfl fun _ => ?_
 conv=>whnf
 refine CutL.by (fun _:Unit=>⟨[(0,.tr (tb false)),(1,.ptr 0 0)],[(0,.cells 29 (u0.cells.map .tr))],10⟩) (fun _=>True) ?_ ?_
 ·conv=>whnf
  rw [e]
  conv=>whnf
  exact ⟨(),[_],[],Sub.aw,trivial⟩
 rintro - - -
 conv=>whnf
 refine ⟨rfl,Int.le_refl _,(by decide),fun row hrow => ?_⟩
 obtain rfl:Gr.cells g0=row:=Option.some.inj hrow
 clear hrow
 conv=>whnf
 refine acall.pure _ (hdp) rfl rfl fun _ => ?_
 conv=>whnf
 refine acall.au [] [15] (hi1) ?_
 intro _
 conv=>whnf
 refine ⟨rfl,Int.le_refl _,(by decide),fun row hrow => ?_⟩
 obtain rfl:Gr.cells g0=row:=Option.some.inj hrow
 clear hrow
 conv=>whnf
 refine acall.pure _ (hdo) rfl rfl fun _ => ?_
 conv=>whnf
 refine acall.au [] [23] (hi2) ?_
 intro _
 conv=>whnf
 exact aut
end Go.Proofs.YthboippafkcoiaaGreatDoor.am
namespace Go.Proofs.YthboippafkcoiaaGreatDoor.am
open Go Go.Proofs
set_option linter.all false
abbrev runX (p:Prg) (i:Nat) (ws:List Int) (s:RS) (hl ha:Nat):Blk := .cells 44 [.tr (declsT p.shared),.tr (declsT p.locks),.tr (threadsT p.threads),.tr (ti (i:Nat)),.sl hl s.locals.length,.tr (intsT ws),.tr (ti (s.reads:Nat)),.tr (ti s.fuel),.sl ha s.acts.length]
set_option maxRecDepth 100000 in
theorem k_cruns0 (p:Prg) (t:Int) (ws:List Int) (h0:(lowerU p).2≠0):K 4 [p.av,.tr (ti t),.tr (intsT ws)] [] (.ret (.tr (tb true))) []:=by
 have hl:=k_lowerG p fun h th hth=>(check_wf h th hth).1
 have hbe:=k_beginsL
 generalize (lowerU p).2=w at hl h0
 generalize (lowerU p).1=U at hl
 have e:(w != 0)=true:=by simpa using h0
 refine Ctr.of hT hmix Tryz.func4 rfl (fun _ _=>by kernel_rfl) rfl fun hok => ?_
 clear hok
 conv=>whnf
 refine acall.pure _ (hbe) rfl rfl fun _ => ?_
 conv=>whnf
 refine acall.pure _ (hl) rfl rfl fun _ => ?_
 conv=>whnf
 rw [e]
 conv=>whnf
 rw [e]
 conv=>whnf
 exact aut
set_option maxRecDepth 100000 in
theorem k_cruns1 (p:Prg) (t:Int) (ws:List Int) (gs:List Gr) (hU:lowerU p=(⟨p.shared,p.locks,gs⟩,0)) (hO:UnOk p gs) (hb:t<0∨(p.threads.length:Int)≤t):K 4 [p.av,.tr (ti t),.tr (intsT ws)] [] (.ret (.tr (tb true))) []:=by
 have hl:=k_lowerG p fun h th hth=>(check_wf h th hth).1
 have hbe:=k_beginsL
 rw [hU] at hl
 have hgl:(gs.map Gr.cells).length=p.threads.length:=by rw [List.length_map]; exact hO.len
 have htl:(p.threads.map Thread.cells).length=p.threads.length:=List.length_map ..
 have e0:(((gs.map Gr.cells).length:Int) == ((p.threads.map Thread.cells).length:Int))=true:=by rw [hgl,htl]; simp
 simp only at hl
 refine Ctr.of hT hmix Tryz.func4 rfl (fun _ _=>by kernel_rfl) rfl fun hok => ?_
 clear hok
 conv=>whnf
 refine acall.pure _ (hbe) rfl rfl fun _ => ?_
 conv=>whnf
 refine acall.pure _ (hl) rfl rfl fun _ => ?_
 conv=>whnf
 cases h1:decide (t<0) with
 | true =>
  conv=>whnf
  rw [e0]
  conv=>whnf
  exact aut
 | false =>
  have h1:=of_decide_eq_false h1
  have e1:decide (t ≥ ((p.threads.map Thread.cells).length:Int))=true:=decide_eq_true (by omega)
  conv=>whnf
  rw [e1]
  conv=>whnf
  rw [e0]
  conv=>whnf
  exact aut
set_option maxRecDepth 100000 in
set_option maxHeartbeats 4000000 in
theorem k_cruns2 (p:Prg) (i:Nat) (ws:List Int) (gs:List Gr) (hU:lowerU p=(⟨p.shared,p.locks,gs⟩,0)) (hO:UnOk p gs) (th:Thread) (hth:p.threads[i]? = some th):K 4 [p.av,.tr (ti (i:Nat)),.tr (intsT ws)] [] (.ret (.tr (tb true))) []:=by
 have hl:=k_lowerG p fun h th hth=>(check_wf h th hth).1
 have hbe:=k_beginsL
 rw [hU] at hl
 have hgl:(gs.map Gr.cells).length=p.threads.length:=by rw [List.length_map]; exact hO.len
 have htl:(p.threads.map Thread.cells).length=p.threads.length:=List.length_map ..
 have hit:i<p.threads.length:=(List.getElem?_eq_some_iff.1 hth).1
 obtain ⟨hg,hz⟩:=hO.at_ i th hth
 have hokb:=stmtsF_ok (thrC p i th) th.body 1 (hO.prg.threads i th hth).body
 have hloc:=localI_lt hth
 have hl64:=decls_few (most:=64) (hO.prg.threads i th hth).locals
 obtain ⟨hpre,hend⟩:=runs_same p i th ws hokb hloc
 have hnlc:(th.locals.map Decl.cells).length=locN th:=rfl
 have hn64:locN th≤64:=by unfold locN; rw [List.length_map]; exact hl64
 have hri:RI (locN th) ⟨List.replicate (locN th) 0,0,3000,[]⟩:=⟨by show (-3000:Int)≤3000; decide,Int.le_refl _,by show 0+2*(3000:Int).toNat≤20000; decide,Nat.le_refl _,List.length_replicate⟩
 have hblk:K 15 [.ptr 0 0,.tr (stmtsT th.body)] [runX p i ws ⟨List.replicate (locN th) 0,0,3000,[]⟩ 1 2,locB ⟨List.replicate (locN th) 0,0,3000,[]⟩,actB ⟨List.replicate (locN th) 0,0,3000,[]⟩] (.ret (.tup []))
   [some (runX p i ws (blockR6 (thrC p i th) ws th.body ⟨List.replicate (locN th) 0,0,3000,[]⟩) 1 3),some (locB (blockR6 (thrC p i th) ws th.body ⟨List.replicate (locN th) 0,0,3000,[]⟩)),none,some (actB (blockR6 (thrC p i th) ws th.body ⟨List.replicate (locN th) 0,0,3000,[]⟩))] :=
  k_blkRun (thrC p i th) ws (locN th) hloc _ th.body (Nat.lt_succ_self _) hokb _ hri
 have hnd : ∀ n ∈ (thrG p i th).nodes,NdIn (locN th+slB (thrC p i th) th.body+1) (szB (thrC p i th) th.body+1) n:=fun n hn=>by
  have hr:=thr_right hO.prg hth hz gs n hn
  refine nd_in rfl (thr_len p i th) (by omega) ?_ hr
  obtain ⟨k,hk,e⟩:=List.mem_iff_getElem.1 hn
  have h0:=(thr_node p i th (k:=k) (by rw [List.getElem?_eq_getElem hk,e])).2.1
  have h1:(n.kind == 0)=false:=by
   unfold rightB at hr
   cases hh:headR n with
   | true=>rw [hh] at hr; cases hr
   | false =>
    unfold headR at hh
    simp only [Bool.or_eq_false_iff] at hh
    exact hh.1.1.1
  rw [beq_eq_false_iff_ne] at h1
  omega
 have hsl:=slB_le (thrC p i th) th.body
 have hgr:=k_graphW (thrG p i th) ws (locN th+slB (thrC p i th) th.body) (szB (thrC p i th) th.body+1) rfl (by omega) (thr_len p i th) (by omega) (by omega) hnd
 have hgn:(thrG p i th).nodes=thrD p i th:=rfl
 rw [hgn] at hgr
 generalize hGV:gvRun (thrD p i th) ws 9000 ⟨List.replicate (locN th+slB (thrC p i th) th.body+1) 0,0,0,[]⟩=GV at hpre hend hgr
 generalize hSF:blockR6 (thrC p i th) ws th.body ⟨List.replicate (locN th) 0,0,3000,[]⟩=SF at hpre hend hblk
 clear hGV hSF
 generalize thrG p i th=g at hg hgr
 have e1:decide ((i:Int)<0)=false:=decide_eq_false (by omega)
 have e2:decide ((i:Int) ≥ ((p.threads.map Thread.cells).length:Int))=false:=decide_eq_false (by omega)
 have e3:decide ((i:Int) ≥ ((gs.map Gr.cells).length:Int))=false:=decide_eq_false (by omega)
 have hrep:List.replicate (locN th) [Tr.v (.int .i64 0)]=(List.replicate (locN th) (0:Int)).map irow:=by rw [List.map_replicate]; rfl
 have hlr:(List.replicate (locN th) (0:Int)).length=locN th:=List.length_replicate
 clear hU hnd hO hz hokb hloc hri hgn
 simp only at hl
 obtain ⟨GA,GE⟩:=GV
 simp only at hgr hpre hend
 refine Ctr.cut [6,7,8,9,11] hT hmix Tryz.func4 rfl (fun _ _=>by kernel_rfl) rfl fun hok => ?_
 clear hok
 conv=>whnf
 refine acall.pure _ (hbe) rfl rfl fun _ => ?_
 conv=>whnf
 refine acall.pure _ (hl) rfl rfl fun _ => ?_
 conv=>whnf
 refine CutL.by (fun _:Unit=>⟨[(1,.tr (ti (i:Nat))),(2,.tr (intsT ws)),(3,.ptr 0 0),(7,.ptr 1 0)],[(0,.cells 25 [.tr (declsT p.shared),.tr (declsT p.locks),.tr (threadsT p.threads)]),(1,.cells 29 [.tr (declsT p.shared),.tr (declsT p.locks),.tr (graphsT gs)])],20⟩) (fun _=>True) ?_ ?_
 ·conv=>whnf
  rw [e1]
  conv=>whnf
  rw [e2]
  conv=>whnf
  rw [e3]
  conv=>whnf
  exact ⟨(),[_,_],[],Sub.aw,trivial⟩
 rintro - - -
 conv=>whnf
 refine CutL.by (fun _:Unit=>⟨[(1,.tr (ti (i:Nat))),(2,.tr (intsT ws)),(3,.ptr 0 0),(7,.ptr 1 0),(9,.ptr 2 0)],[(0,.cells 25 [.tr (declsT p.shared),.tr (declsT p.locks),.tr (threadsT p.threads)]),(1,.cells 29 [.tr (declsT p.shared),.tr (declsT p.locks),.tr (graphsT gs)]),(2,runX p i ws (⟨List.replicate (locN th) 0,0,3000,[]⟩) 3 4),(3,locB (⟨List.replicate (locN th) 0,0,3000,[]⟩)),(4,actB (⟨List.replicate (locN th) 0,0,3000,[]⟩))],20⟩) (fun _=>True) ?_ ?_
 ·conv=>whnf
  refine ⟨rfl,(show (0:Int)≤i by omega),(show (i:Int)<((p.threads.map Thread.cells).length:Int) by omega),fun row hrow => ?_⟩
  obtain ⟨d,hd,rfl⟩:=thr_get hrow
  obtain rfl:=Option.some.inj (hth.symm.trans hd)
  clear hrow hd
  conv=>whnf
  rw [hnlc]
  refine ⟨by omega,Int.le_refl _,(by show ((locN th:Nat):Int)*8≤_; omega),?_⟩
  conv=>whnf
  rw [Int.toNat_natCast]
  refine ⟨by kernel_rfl,fun _ => ?_⟩
  conv=>whnf
  exact ⟨(),[0,1,_,_],[4],Sub.mk' rfl ⟨.inl rfl,.inl rfl,⟨rfl,rfl⟩,⟨rfl,rfl⟩,⟨rfl,rfl⟩,trivial⟩ ⟨⟨rfl,.inl rfl,.inl rfl,.inl rfl,trivial⟩,⟨rfl,.inl rfl,.inl rfl,.inl rfl,trivial⟩,⟨rfl,.inl rfl,.inl rfl,.inl rfl,.inl rfl,⟨rfl,by rw [hlr]⟩,.inl rfl,.inl rfl,.inl rfl,⟨rfl,rfl,rfl,rfl⟩,trivial⟩,⟨rfl,rfl,rfl,by rw [← hrep]; rfl⟩,⟨rfl,_,_,_,rfl,by decide⟩,trivial⟩ rfl rfl,trivial⟩
 rintro - - -
 conv=>whnf
 refine CutL.by (fun _:Unit=>⟨[(1,.tr (ti (i:Nat))),(2,.tr (intsT ws)),(3,.ptr 0 0),(7,.ptr 1 0),(9,.ptr 2 0)],[(0,.cells 25 [.tr (declsT p.shared),.tr (declsT p.locks),.tr (threadsT p.threads)]),(1,.cells 29 [.tr (declsT p.shared),.tr (declsT p.locks),.tr (graphsT gs)]),(2,runX p i ws (SF) 3 4),(3,locB (SF)),(4,actB (SF))],20⟩) (fun _=>True) ?_ ?_
 ·conv=>whnf
  refine ⟨rfl,(show (0:Int)≤i by omega),(show (i:Int)<((p.threads.map Thread.cells).length:Int) by omega),fun row hrow => ?_⟩
  obtain ⟨d,hd,rfl⟩:=thr_get hrow
  obtain rfl:=Option.some.inj (hth.symm.trans hd)
  clear hrow hd
  conv=>whnf
  refine acall.new [2,3,4] [] _ _ _ _ (hblk) rfl rfl rfl rfl aut aut rfl rfl ?_
  conv=>whnf
  intro _
  conv=>whnf
  exact ⟨(),[0,1,2,3,_],[],Sub.aw,trivial⟩
 rintro - - -
 clear hblk hrep hlr
 conv=>whnf
 refine CutL.by (fun _:Unit=>⟨[(9,.ptr 0 0),(10,.tr (actsT GA)),(11,.tr (tb GE))],[(0,runX p i ws SF 1 2),(1,locB SF),(2,actB SF)],20⟩) (fun _=>True) ?_ ?_
 ·conv=>whnf
  refine ⟨rfl,(show (0:Int)≤i by omega),(show (i:Int)<((gs.map Gr.cells).length:Int) by omega),fun row hrow => ?_⟩
  obtain ⟨d,hd,rfl⟩:=gr_get hrow
  obtain rfl:=Option.some.inj (hg.symm.trans hd)
  clear hrow hd
  conv=>whnf
  refine acall.pure _ (hgr) rfl rfl fun _ => ?_
  conv=>whnf
  exact ⟨(),[2,3,4],[],Sub.mk' rfl aut aut rfl rfl,trivial⟩
 rintro - - -
 obtain ⟨z,hz⟩:=hpre
 have hGl:(GA.map Act.cells).length=SF.acts.length+z.length:=by rw [List.length_map,← hz,List.length_append]
 have hgt : ∀ k,k<SF.acts.length→GA[k]? = SF.acts[k]? := fun k hk=>by rw [← hz,List.getElem?_append_left hk]
 conv=>whnf
 refine CutL.by (fun _:Unit=>⟨[(9,.ptr 0 0),(10,.tr (actsT GA)),(11,.tr (tb GE))],[(0,runX p i ws SF 1 2),(1,locB SF),(2,actB SF)],20⟩) (fun _=>True) ?_ ?_
 ·conv=>whnf
  cases hf:decide (SF.fuel > 0) with
  | true =>
   have hf:=of_decide_eq_true hf
   have:=hend hf
   cases this
   have e4:(((SF.acts.map Act.cells).length:Int) != (SF.acts.length:Int))=false:=by rw [List.length_map]; simp
   conv=>whnf
   rw [e4]
   conv=>whnf
   exact ⟨(),[0,1,2],[],Sub.mk' rfl aut aut rfl rfl,trivial⟩
  | false =>
   conv=>whnf
   exact ⟨(),[0,1,2],[],Sub.mk' rfl aut aut rfl rfl,trivial⟩
 rintro - - hok
 have hgl8:=(hok.slot 10 rfl).tr.lst.2.1
 clear hend hok
 conv=>whnf
 refine LoopL.by (fun k:Nat=>⟨[(9,.ptr 0 0),(10,.tr (actsT GA)),(11,.tr (tb GE)),(12,.tr (ti (k:Nat)))],[(0,runX p i ws SF 1 2),(1,locB SF),(2,actB SF)],20⟩) (fun k=>k≤SF.acts.length) (fun k=>SF.acts.length - k) 0 [0,1,2] []
  (Sub.mk' rfl aut aut rfl rfl) (Nat.zero_le _) ?_
 rintro k hk -
 conv=>whnf
 cases hq1:decide ((k:Int)<((GA.map Act.cells).length:Int)) with
 | false =>
  have e5:decide (((GA.map Act.cells).length:Int) ≥ (SF.acts.length:Int))=true:=decide_eq_true (by omega)
  conv=>whnf
  refine ⟨fun _ => ?_,fun h=>absurd rfl h⟩
  conv=>whnf
  rw [e5]
  conv=>whnf
  exact aut
 | true =>
  conv=>whnf
  cases hq2:decide ((k:Int)<(SF.acts.length:Int)) with
  | false =>
   have e5:decide (((GA.map Act.cells).length:Int) ≥ (SF.acts.length:Int))=true:=decide_eq_true (by omega)
   conv=>whnf
   refine ⟨fun _ => ?_,fun h=>absurd rfl h⟩
   conv=>whnf
   rw [e5]
   conv=>whnf
   exact aut
  | true =>
   have hq2:=of_decide_eq_true hq2
   have hgk:=hgt k (by omega)
   obtain ⟨a,ha⟩ : ∃ a,SF.acts[k]? = some a:=⟨_,List.getElem?_eq_getElem (by omega)⟩
   rw [ha] at hgk
   conv=>whnf
   refine ⟨rfl,(show (0:Int)≤k by omega),(show (k:Int)<((GA.map Act.cells).length:Int) by omega),fun row hrow => ?_⟩
   obtain ⟨d,hd,rfl⟩:=act_get hrow
   obtain rfl:=Option.some.inj (hgk.symm.trans hd)
   clear hrow hd
   conv=>whnf
   refine ⟨rfl,(show (0:Int)≤k by omega),hq2,?_⟩
   conv=>whnf
   refine ⟨rfl,(by show k<(SF.acts.map Act.cells).length; rw [List.length_map]; omega),fun row hrow => ?_⟩
   obtain ⟨d,hd,rfl⟩:=act_get hrow
   obtain rfl:=Option.some.inj (ha.symm.trans hd)
   clear hrow hd
   refine ⟨(show 0+3≤3 by decide),?_⟩
   conv=>whnf
   refine ⟨by kernel_rfl,fun _ => ?_⟩
   conv=>whnf
   have e6:(!(a.kind == a.kind && (a.thing == a.thing && (a.word == a.word && true))))=false:=by simp
   rw [e6]
   conv=>whnf
   exact ⟨k+1,[0,1,2],[],Sub.mk' rfl ⟨⟨rfl,rfl⟩,.inl rfl,.inl rfl,.inl (ti_succ (n:=(GA.map Act.cells).length) (by omega) hgl8),trivial⟩ aut rfl rfl,(show k+1≤SF.acts.length by omega),by show SF.acts.length - (k+1)<SF.acts.length - k; omega⟩
theorem k_cruns (p:Prg) (t:Int) (ws:List Int):K 4 [p.av,.tr (ti t),.tr (intsT ws)] [] (.ret (.tr (tb true))) []:=by
 rcases lower_cases p with ⟨h0,_⟩ | ⟨gs,hU,hO⟩
 ·exact k_cruns0 p t ws h0
 by_cases hb:t<0∨(p.threads.length:Int)≤t
 ·exact k_cruns1 p t ws gs hU hO hb
 ·obtain ⟨i,rfl⟩ : ∃ i:Nat,t=(i:Nat):=⟨t.toNat,by omega⟩
  obtain ⟨th,hth⟩ : ∃ th,p.threads[i]? = some th:=⟨_,List.getElem?_eq_getElem (by omega)⟩
  exact k_cruns2 p i ws gs hU hO th hth
end Go.Proofs.YthboippafkcoiaaGreatDoor.am
