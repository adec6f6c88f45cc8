/- The layings of the library's contracts (written by the kit's lay-shelf and lay-plain). Contracts of Go's library, and of reading and writing -/
import Derived.Shelf.Strconv.Itoa0
import Derived.Shelf.Strconv.Itoa1
import Derived.Shelf.LaysM
import Derived.Shelf.Strconv.Itoa2
import Derived.Shelf.Strconv.Itoa3
import Derived.Test.YthboippafkcoiaaGreatDoorProg
import Derived.Test.YthboippafkcoiaaGreatDoorV8
import Derived.Test.YthboippafkcoiaaGreatDoorV11
import Derived.Lib.ItoaLen
import Derived.Lib.AppendIntMem
import Derived.Test.YthboippafkcoiaaGreatDoorV10
import Derived.Test.YthboippafkcoiaaGreatDoorV6
set_option linter.all false
set_option linter.all false
namespace Go.Proofs
open Go.Shelf
def Tryz.laysM171_ren:Go.Shelf.Ren:=⟨fun | 171=>74 | 243=>119 | 246=>156 | 283=>171 | 284=>172 | 285=>173 | 286=>174 | 129=>182 | 317=>181 | 318=>183 | 319=>184 | 320=>185 | 337=>195 | 338=>196 | n=>n,fun | 3=>3 | 9=>9 | 2=>2 | 4=>4 | 171=>205 | 0=>0 | 53=>169 | 37=>126 | 5=>5 | 173=>208 | 212=>219 | 51=>220 | 20=>20 | 213=>221 | 46=>191 | 232=>237 | 233=>238 | n=>n,fun | 17=>1 | 18=>2 | 19=>3 | n=>n⟩
theorem Tryz.laysM171:Go.Proofs.LaysM.n171 Tryz.prog Tryz.laysM171_ren := {
 mixed:=by kernel_rfl
 f129:=Tryz.func182.trans (congrArg some (by kernel_rfl))
 f171:=Tryz.func74.trans (congrArg some (by kernel_rfl))
 f243:=Tryz.func119.trans (congrArg some (by kernel_rfl))
 f246:=Tryz.func156.trans (congrArg some (by kernel_rfl))
 f283:=Tryz.func171.trans (congrArg some (by kernel_rfl))
 f284:=Tryz.func172.trans (congrArg some (by kernel_rfl))
 f285:=Tryz.func173.trans (congrArg some (by kernel_rfl))
 f286:=Tryz.func174.trans (congrArg some (by kernel_rfl))
 f317:=Tryz.func181.trans (congrArg some (by kernel_rfl))
 f318:=Tryz.func183.trans (congrArg some (by kernel_rfl))
 f319:=Tryz.func184.trans (congrArg some (by kernel_rfl))
 f320:=Tryz.func185.trans (congrArg some (by kernel_rfl))
 f337:=Tryz.func195.trans (congrArg some (by kernel_rfl))
 f338:=Tryz.func196.trans (congrArg some (by kernel_rfl))
 t0:=Tryz.underlying0
 a0:=Tryz.isAgg0
 z0:=Tryz.sizeOf0
 v0:=Tryz.zeroValue0
 t2:=Tryz.underlying2
 a2:=Tryz.isAgg2
 z2:=Tryz.sizeOf2
 v2:=Tryz.zeroValue2
 t3:=Tryz.underlying3
 a3:=Tryz.isAgg3
 z3:=Tryz.sizeOf3
 v3:=Tryz.zeroValue3
 t4:=Tryz.underlying4
 a4:=Tryz.isAgg4
 z4:=Tryz.sizeOf4
 v4:=Tryz.zeroValue4
 t5:=Tryz.underlying5
 a5:=Tryz.isAgg5
 z5:=Tryz.sizeOf5
 v5:=Tryz.zeroValue5
 t9:=Tryz.underlying9
 a9:=Tryz.isAgg9
 z9:=Tryz.sizeOf9
 v9:=Tryz.zeroValue9
 t20:=Tryz.underlying20
 a20:=Tryz.isAgg20
 z20:=Tryz.sizeOf20
 v20:=Tryz.zeroValue20
 t37:=Tryz.underlying126
 a37:=Tryz.isAgg126
 z37:=Tryz.sizeOf126
 v37:=Tryz.zeroValue126
 t46:=Tryz.underlying191
 a46:=Tryz.isAgg191
 z46:=Tryz.sizeOf191
 v46:=Tryz.zeroValue191
 t51:=Tryz.underlying220
 a51:=Tryz.isAgg220
 z51:=Tryz.sizeOf220
 v51:=Tryz.zeroValue220
 t53:=Tryz.underlying169
 a53:=Tryz.isAgg169
 z53:=Tryz.sizeOf169
 v53:=Tryz.zeroValue169
 t171:=Tryz.underlying205
 a171:=Tryz.isAgg205
 z171:=Tryz.sizeOf205
 v171:=Tryz.zeroValue205
 t173:=Tryz.underlying208
 a173:=Tryz.isAgg208
 z173:=Tryz.sizeOf208
 v173:=Tryz.zeroValue208
 t212:=Tryz.underlying219
 a212:=Tryz.isAgg219
 z212:=Tryz.sizeOf219
 v212:=Tryz.zeroValue219
 t213:=Tryz.underlying221
 a213:=Tryz.isAgg221
 z213:=Tryz.sizeOf221
 t232:=Tryz.underlying237
 a232:=Tryz.isAgg237
 z232:=Tryz.sizeOf237
 v232:=Tryz.zeroValue237
 t233:=Tryz.underlying238
 a233:=Tryz.isAgg238
 z233:=Tryz.sizeOf238
 v233:=Tryz.zeroValue238
 g17:=by kernel_rfl
 g18:=by kernel_rfl
 g19:=by kernel_rfl
 i0:=by kernel_rfl
 i2:=by kernel_rfl
 i3:=by kernel_rfl
 i4:=by kernel_rfl
 i5:=by kernel_rfl
 i9:=by kernel_rfl
 i20:=by kernel_rfl
 i37:=by kernel_rfl
 i46:=by kernel_rfl
 i51:=by kernel_rfl
 i53:=by kernel_rfl
 i171:=by kernel_rfl
 i173:=by kernel_rfl
 i212:=by kernel_rfl
 i232:=by kernel_rfl
 i233:=by kernel_rfl
 m17:=by kernel_rfl
 m18:=by kernel_rfl
 m19:=by kernel_rfl }
end Go.Proofs
namespace Go.Proofs.YthboippafkcoiaaGreatDoor.am
open Go Go.Proofs Go.RowKit
theorem Ctr.ofCalls {f:Nat} {args:List AV} {a:AV} (hc:Callable Tryz.prog f) (h : ∀ (g:Gh) (w:World) (vs:Array Value),MSt g w (ofL [])→vs.size=args.length→(∀ (i:Nat) (v:Value) (a:AV),vs[i]? = some v→args[i]? = some a→Rep g w v a) →
  Calls Tryz.prog f vs w fun e w' => ∃ v,e = .returned v∧Below w.heap.size w w'∧(Grow g w g w'→MSt g w' (ofLO [])→Rep g w' v a)):K f args [] (.ret a) []:=by
 refine ⟨hc,fun g w vs hun hm hsz hv=>(h g w vs hm hsz hv).mono ?_⟩
 rintro e w' ⟨v,rfl,hb,hR⟩
 have hG:Grow g w g w':=⟨hb.os,hb.tape,hb.output,hb.size,fun b hk=>hb.block b hk.1,fun b hk=>hb.block b (hm.xlt b hk),rfl,fun _ h=>h,fun _ _ h => .inl h,fun k b e => .inl ⟨k,e⟩⟩
 have hM:MSt g w' (ofLO []):=⟨fun h b e=>(by simp [ofLO] at e),hm.inj,fun k b e=>Nat.lt_of_lt_of_le (hm.lt k b e) hb.size,fun b hk=>Nat.lt_of_lt_of_le (hm.xlt b hk) hb.size,hm.xl,hm.gl.grow hG⟩
 exact ⟨g,hG,hM,fun k _ l hl=>(by have:=hun k (Nat.zero_le _); rw [this] at hl; cases hl),hR hG hM⟩
theorem one_arg {vs:Array Value} (h:vs.size=1) : ∃ v,vs = #[v]:=by
 obtain ⟨l⟩:=vs
 match l,h with
 | [v],_=>exact ⟨v,rfl⟩
theorem powTab {g:Gh} {w:World} (h:GL g w) {name:String} (hn : Tryz.prog.globalNamed name=some 1):Lib.TabIs Tryz.prog w name .u64 Lib.pow10Tab:=by
 obtain ⟨_,t,fz,e⟩:=h _ _ (.inl ⟨rfl,rfl⟩)
 unfold Lib.TabIs World.var?
 rw [hn,Option.bind_some,e]
 rfl
def prnB (n:Int):ByteArray:=⟨(ws.prn n).toArray⟩
theorem decDigits_dig (u:Nat):Lib.decDigits u=ws.dig u:=by
 induction u using Nat.strongRecOn with
 | _ u ih =>
  by_cases h:u<10
  ·rw [Lib.decDigits,dif_pos h,ws.dig_small h]; rfl
  ·rw [Lib.decDigits,dif_neg h,ws.dig_big h,ih (u / 10) (by omega)]; rfl
theorem itoa_prn (n:Int):Lib.itoa n=ws.prn n:=by
 unfold Lib.itoa ws.prn
 split
 ·rw [decDigits_dig,show n.natAbs=(-n).toNat by omega]
 ·rw [decDigits_dig]
theorem prn_len {n:Int} (h1 : -9223372036854775808≤n) (h2:n≤9223372036854775807):(prnB n).size≤21:=by
 show (ws.prn n).toArray.size≤21
 rw [List.size_toArray,← itoa_prn]
 exact Lib.itoa_length_le n h1 h2
theorem k_itoa (n:Int):K 74 [.tr (ti n)] [] (.ret (.tr (ts (prnB n)))) []:=by
 refine Ctr.ofCalls (fun _ _=>by kernel_rfl) fun g w vs hm hsz hv => ?_
 obtain ⟨v,rfl⟩:=one_arg hsz
 obtain ⟨rfl,h1,h2⟩:=val_inv (hv 0 v (.tr (ti n)) rfl rfl)
 refine (Any.strconv_Itoa Tryz.laysM171 n h1 h2 w (powTab hm.gl (by kernel_rfl))).mono ?_
 rintro e w' ⟨rfl,k,os,rfl⟩
 rw [itoa_prn]
 exact ⟨_,rfl,Lib.below_grow _ _ (Nat.le_refl _) _ _,fun _ _ => .tr (.v (Nat.le_trans (prn_len h1 h2) (by omega)))⟩
end Go.Proofs.YthboippafkcoiaaGreatDoor.am
namespace Go.Proofs.YthboippafkcoiaaGreatDoor.am
open Go Go.Proofs
set_option linter.all false
theorem prn_0:prnB 0=⟨#[48]⟩:=by unfold prnB ws.prn; rw [if_neg (by decide),show (0:Int).toNat=0 from rfl,ws.dig_small (by decide)]; rfl
theorem prn_1:prnB 1=⟨#[49]⟩:=by unfold prnB ws.prn; rw [if_neg (by decide),show (1:Int).toNat=1 from rfl,ws.dig_small (by decide)]; rfl
theorem prn_2:prnB 2=⟨#[50]⟩:=by unfold prnB ws.prn; rw [if_neg (by decide),show (2:Int).toNat=2 from rfl,ws.dig_small (by decide)]; rfl
theorem k_itoa0:K 74 [.tr (ti 0)] [] (.ret (.tr (ts ⟨#[48]⟩))) []:=by have:=k_itoa 0; rwa [prn_0] at this
theorem k_itoa1:K 74 [.tr (ti 1)] [] (.ret (.tr (ts ⟨#[49]⟩))) []:=by have:=k_itoa 1; rwa [prn_1] at this
theorem k_itoa2:K 74 [.tr (ti 2)] [] (.ret (.tr (ts ⟨#[50]⟩))) []:=by have:=k_itoa 2; rwa [prn_2] at this
set_option maxRecDepth 100000 in
theorem k_slot0T:K 158 [.tr (ti 0)] [] (.ret (.tr (ts ⟨#[115,48]⟩))) []:=by
 refine Ctr.of hT hmix Tryz.func158 rfl (fun _ _=>by kernel_rfl) rfl fun hok => ?_
 clear hok
 conv=>whnf
 refine acall.pure _ (k_itoa0) rfl rfl fun _ => ?_
 conv=>whnf
 refine ⟨by decide,?_⟩
 conv=>whnf
 exact ⟨.inl (congrArg ts (by kernel_rfl)),trivial⟩
set_option maxRecDepth 100000 in
theorem k_valS0:K 159 [valA true 0 0] [] (.ret (.tr (ts ⟨#[115,48]⟩))) []:=by
 refine Ctr.of hT hmix Tryz.func159 rfl (fun _ _=>by kernel_rfl) rfl fun hok => ?_
 clear hok
 conv=>whnf
 refine acall.pure _ (k_slot0T) rfl rfl fun _ => ?_
 conv=>whnf
 exact aut
def u0:Un:=⟨p0.shared,[],[g0]⟩
set_option maxRecDepth 100000 in
theorem k_thing0:K 157 [.ptr 0 0,.ptr 1 0] [.cells 75 (nd0a.cells.map .tr),.cells 29 (u0.cells.map .tr)] (.ret (.tr (ts xS))) [some (.cells 75 (nd0a.cells.map .tr)),some (.cells 29 (u0.cells.map .tr))]:=by
 refine Ctr.of hT hmix Tryz.func157 rfl (fun _ _=>by kernel_rfl) rfl fun hok => ?_
 clear hok
 conv=>whnf
 refine ⟨rfl,by decide,by decide,fun row hrow => ?_⟩
 obtain rfl:Decl.cells ⟨xS,0,0⟩=row:=Option.some.inj hrow
 clear hrow
 conv=>whnf
 exact aut
set_option maxRecDepth 100000 in
theorem k_does2:K 120 [u0.av,en0.av] [] (.ret (.tr (ts ⟨#[101,110,100]⟩))) []:=by
 refine Ctr.of hT hmix Tryz.func120 rfl (fun _ _=>by kernel_rfl) rfl fun hok => ?_
 clear hok
 conv=>whnf
 exact aut
set_option maxRecDepth 100000 in
theorem k_does1:K 120 [u0.av,br0e.av] [] (.ret (.tr (ts ⟨#[98,114,97,110,99,104,32,115,48]⟩))) []:=by
 refine Ctr.of hT hmix Tryz.func120 rfl (fun _ _=>by kernel_rfl) rfl fun hok => ?_
 clear hok
 conv=>whnf
 refine acall.pure _ (k_valS0) rfl rfl fun _ => ?_
 conv=>whnf
 refine ⟨by decide,?_⟩
 conv=>whnf
 exact ⟨.inl (congrArg ts (by kernel_rfl)),trivial⟩
set_option maxRecDepth 100000 in
theorem k_does0:K 120 [u0.av,nd0a.av] [] (.ret (.tr (ts ⟨#[115,48,32,61,32,120]⟩))) []:=by
 refine Ctr.of hT hmix Tryz.func120 rfl (fun _ _=>by kernel_rfl) rfl fun hok => ?_
 clear hok
 conv=>whnf
 refine acall.pure _ (k_slot0T) rfl rfl fun _ => ?_
 conv=>whnf
 refine ⟨by decide,?_⟩
 conv=>whnf
 refine acall.au [1,0] [] (k_thing0) ?_
 intro _
 conv=>whnf
 refine ⟨by decide,?_⟩
 conv=>whnf
 exact ⟨.inl (congrArg ts (by kernel_rfl)),trivial⟩
set_option maxRecDepth 100000 in
theorem k_text0:K 75 [u0.av,nd0a.av] [] (.ret (.tr (ts ⟨#[115,48,32,61,32,120,32,45,62,32,49]⟩))) []:=by
 refine Ctr.of hT hmix Tryz.func75 rfl (fun _ _=>by kernel_rfl) rfl fun hok => ?_
 clear hok
 conv=>whnf
 refine acall.pure _ (k_does0) rfl rfl fun _ => ?_
 conv=>whnf
 refine acall.pure _ (k_itoa1) rfl rfl fun _ => ?_
 conv=>whnf
 refine ⟨by decide,?_⟩
 conv=>whnf
 refine ⟨by decide,?_⟩
 conv=>whnf
 exact ⟨.inl (congrArg ts (by kernel_rfl)),trivial⟩
set_option maxRecDepth 100000 in
theorem k_text1:K 75 [u0.av,br0e.av] [] (.ret (.tr (ts ⟨#[98,114,97,110,99,104,32,115,48,32,45,62,32,48,32,50]⟩))) []:=by
 refine Ctr.of hT hmix Tryz.func75 rfl (fun _ _=>by kernel_rfl) rfl fun hok => ?_
 clear hok
 conv=>whnf
 refine acall.pure _ (k_does1) rfl rfl fun _ => ?_
 conv=>whnf
 refine acall.pure _ (k_itoa0) rfl rfl fun _ => ?_
 conv=>whnf
 refine ⟨by decide,?_⟩
 conv=>whnf
 refine ⟨by decide,?_⟩
 conv=>whnf
 refine acall.pure _ (k_itoa2) rfl rfl fun _ => ?_
 conv=>whnf
 refine ⟨by decide,?_⟩
 conv=>whnf
 refine ⟨by decide,?_⟩
 conv=>whnf
 exact ⟨.inl (congrArg ts (by kernel_rfl)),trivial⟩
set_option maxRecDepth 100000 in
theorem k_text2:K 75 [u0.av,en0.av] [] (.ret (.tr (ts ⟨#[101,110,100]⟩))) []:=by
 refine Ctr.of hT hmix Tryz.func75 rfl (fun _ _=>by kernel_rfl) rfl fun hok => ?_
 clear hok
 conv=>whnf
 refine acall.pure _ (k_does2) rfl rfl fun _ => ?_
 conv=>whnf
 exact ⟨.inl (congrArg ts (by kernel_rfl)),trivial⟩
def prP:Nat→List UInt8
 | 0=>[116,104,114,101,97,100,32,97,10]
 | 1=>[116,104,114,101,97,100,32,97,10,48,32,115,48,32,61,32,120,32,45,62,32,49,10]
 | 2=>[116,104,114,101,97,100,32,97,10,48,32,115,48,32,61,32,120,32,45,62,32,49,10,49,32,98,114,97,110,99,104,32,115,48,32,45,62,32,48,32,50,10]
 | _=>[116,104,114,101,97,100,32,97,10,48,32,115,48,32,61,32,120,32,45,62,32,49,10,49,32,98,114,97,110,99,104,32,115,48,32,45,62,32,48,32,50,10,50,32,101,110,100,10]
abbrev prB (l:List UInt8):Blk := .vec 5 1 1 (brows l)
set_option maxRecDepth 100000 in
theorem k_print0:K 33 [u0.av] [] (.ret (.tup [.tr (ts ⟨#[116,104,114,101,97,100,32,97,10,48,32,115,48,32,61,32,120,32,45,62,32,49,10,49,32,98,114,97,110,99,104,32,115,48,32,45,62,32,48,32,50,10,50,32,101,110,100,10]⟩),.tr (ti 0)])) []:=by
 have hch:=k_check u0
 rw [show (checkU u0).1=0 from by kernel_rfl,show (checkU u0).2.1=0 from by kernel_rfl,show (checkU u0).2.2=0 from by kernel_rfl] at hch
 refine Ctr.of hT hmix Tryz.func33 rfl (fun _ _=>by kernel_rfl) rfl fun hok => ?_
 clear hok
 conv=>whnf
 refine acall.pure _ (hch) rfl rfl fun _ => ?_
 conv=>whnf
 refine .inl ⟨2,?_⟩
 conv=>whnf
 refine ⟨rfl,Int.le_refl _,(by decide),fun row hrow => ?_⟩
 obtain rfl:Gr.cells g0=row:=Option.some.inj hrow
 clear hrow
 conv=>whnf
 refine ⟨by decide,?_⟩
 conv=>whnf
 refine ⟨by decide,?_⟩
 conv=>whnf
 refine ⟨by decide,?_⟩
 conv=>whnf
 refine LoopL.by (fun i:Nat=>⟨[(1,.ptr 0 0),(7,.sl 1 (prP i).length),(22,.tr (graphsT [g0])),(23,.tr (ti 1)),(24,.tr (ti 0)),(35,.tr (nodesT g0.nodes)),(36,.tr (ti 3)),(37,.tr (ti (i:Nat)))],[(0,.cells 29 (u0.cells.map .tr)),(1,prB (prP i))],10⟩) (fun i=>i≤3) (fun i=>3 - i) 0 [_,_] []
  (Sub.aw) (Nat.zero_le _) ?_
 rintro i hi -
 have hi4:i=0∨i=1∨i=2∨i=3:=by omega
 clear hi
 rcases hi4 with rfl | rfl | rfl | rfl
 ·conv=>whnf
  refine ⟨rfl,by decide,by decide,fun row hrow => ?_⟩
  obtain rfl:Nd.cells nd0a=row:=Option.some.inj hrow
  clear hrow
  conv=>whnf
  refine acall.pure _ (k_itoa0) rfl rfl ?_
  conv=>whnf
  refine ⟨by decide,?_⟩
  conv=>whnf
  refine acall.pure _ (k_text0) rfl rfl ?_
  conv=>whnf
  refine ⟨by decide,?_⟩
  conv=>whnf
  refine ⟨by decide,?_⟩
  conv=>whnf
  refine ⟨rfl,rfl,rfl,by decide,by decide,?_⟩
  conv=>whnf
  refine ⟨by kernel_rfl,fun _ => ?_⟩
  conv=>whnf
  exact ⟨1,[0,_],[],Sub.mk' rfl ⟨⟨rfl,rfl⟩,⟨rfl,by kernel_rfl⟩,.inl rfl,.inl rfl,.inl rfl,.inl rfl,.inl rfl,.inl rfl,trivial⟩ ⟨⟨rfl,.inl rfl,.inl rfl,.inl rfl,trivial⟩,⟨rfl,rfl,rfl,by kernel_rfl⟩,trivial⟩ rfl rfl,by decide,by decide⟩
 ·conv=>whnf
  refine ⟨rfl,by decide,by decide,fun row hrow => ?_⟩
  obtain rfl:Nd.cells br0e=row:=Option.some.inj hrow
  clear hrow
  conv=>whnf
  refine acall.pure _ (k_itoa1) rfl rfl ?_
  conv=>whnf
  refine ⟨by decide,?_⟩
  conv=>whnf
  refine acall.pure _ (k_text1) rfl rfl ?_
  conv=>whnf
  refine ⟨by decide,?_⟩
  conv=>whnf
  refine ⟨by decide,?_⟩
  conv=>whnf
  refine ⟨rfl,rfl,rfl,by decide,by decide,?_⟩
  conv=>whnf
  refine ⟨by kernel_rfl,fun _ => ?_⟩
  conv=>whnf
  exact ⟨2,[0,_],[],Sub.mk' rfl ⟨⟨rfl,rfl⟩,⟨rfl,by kernel_rfl⟩,.inl rfl,.inl rfl,.inl rfl,.inl rfl,.inl rfl,.inl rfl,trivial⟩ ⟨⟨rfl,.inl rfl,.inl rfl,.inl rfl,trivial⟩,⟨rfl,rfl,rfl,by kernel_rfl⟩,trivial⟩ rfl rfl,by decide,by decide⟩
 ·conv=>whnf
  refine ⟨rfl,by decide,by decide,fun row hrow => ?_⟩
  obtain rfl:Nd.cells en0=row:=Option.some.inj hrow
  clear hrow
  conv=>whnf
  refine acall.pure _ (k_itoa2) rfl rfl ?_
  conv=>whnf
  refine ⟨by decide,?_⟩
  conv=>whnf
  refine acall.pure _ (k_text2) rfl rfl ?_
  conv=>whnf
  refine ⟨by decide,?_⟩
  conv=>whnf
  refine ⟨by decide,?_⟩
  conv=>whnf
  refine ⟨rfl,rfl,rfl,by decide,by decide,?_⟩
  conv=>whnf
  refine ⟨by kernel_rfl,fun _ => ?_⟩
  conv=>whnf
  exact ⟨3,[0,_],[],Sub.mk' rfl ⟨⟨rfl,rfl⟩,⟨rfl,by kernel_rfl⟩,.inl rfl,.inl rfl,.inl rfl,.inl rfl,.inl rfl,.inl rfl,trivial⟩ ⟨⟨rfl,.inl rfl,.inl rfl,.inl rfl,trivial⟩,⟨rfl,rfl,rfl,by kernel_rfl⟩,trivial⟩ rfl rfl,by decide,by decide⟩
 ·conv=>whnf
  refine ⟨fun _ => ?_,fun h=>absurd rfl h⟩
  conv=>whnf
  refine ⟨fun _ => ?_,fun h=>absurd rfl h⟩
  conv=>whnf
  refine ⟨prP 3,by kernel_rfl,by decide,?_⟩
  conv=>whnf
  exact ⟨⟨.inl (congrArg ts (by kernel_rfl)),.inl rfl,trivial⟩,trivial⟩
end Go.Proofs.YthboippafkcoiaaGreatDoor.am
namespace Go.Proofs.YthboippafkcoiaaGreatDoor.am
open Go Go.Proofs
set_option linter.all false
theorem f0_0:fol g0 0=[1]:=by kernel_rfl
theorem f0_1:fol g0 1=[0,2]:=by kernel_rfl
theorem f0_2:fol g0 2=[]:=by kernel_rfl
theorem f0_n (n:Nat):fol g0 (n+3)=[]:=by
 unfold fol
 rw [List.getElem?_eq_none (show g0.nodes.length≤n+3 from Nat.le_add_left 3 n)]
theorem f0_lt : ∀ a,∀ b ∈ fol g0 a,b<3
 | 0,b,h=>by rw [f0_0] at h; simp at h; omega
 | 1,b,h=>by rw [f0_1] at h; simp at h; omega
 | 2,b,h=>by rw [f0_2] at h; cases h
 | n+3,b,h=>by rw [f0_n] at h; cases h
theorem r0_0 {c:Int}:Rch (fol g0) c 0 := .zero
theorem r0_1 {c:Int} (h:c≠0):Rch (fol g0) c 1 := .step .zero (fun w=>h w.symm) (by rw [f0_0]; simp)
theorem r0_2:Rch (fol g0) (-1) 2 := .step (r0_1 (by decide)) (by decide) (by rw [f0_1]; simp)
theorem d01:Dm (fol g0) 0 1:=dm_zero (r0_1 (by decide))
theorem d12:Dm (fol g0) 1 2:=by
 refine ⟨r0_1 (by decide),r0_2,.inr fun h => ?_⟩
 have : ∀ y,Rch (fol g0) ((1:Nat):Int) y→y=0∨y=1:=fun y hy=>by
  induction hy with
  | zero=>exact .inl rfl
  | step _ h1 h2 ih =>
   rcases ih with rfl | rfl
   ·rw [f0_0] at h2; simp at h2; exact .inr h2
   ·exact absurd rfl h1
 rcases this 2 h with w | w <;> cases w
theorem nd21 : ¬ Dm (fol g0) 2 1:=fun h=>h.2.2.elim (fun w=>by cases w) fun w=>w (r0_1 (by decide))
theorem nd10 : ¬ Dm (fol g0) 1 0:=not_dm_zero (by decide)
theorem lt0 {c x:Nat} (h:Dm (fol g0) c x):c=0∨c=1∨c=2:=by
 have:=h.1.lt (N:=3) (by decide) f0_lt
 omega
theorem idom0:idomL (fol g0) 3=[-1,0,1]:=by
 have e:=fun x v h=>idomI_eq (fol:=fol g0) (N:=3) (by decide) f0_lt (x:=x) (v:=v) h
 show [idomI (fol g0) 0,idomI (fol g0) 1,idomI (fol g0) 2]=_
 rw [e 0 (-1) (.inl aut),e 1 0 (.inr ⟨by decide,0,rfl,by decide,d01,fun c hc hd => ?_⟩),e 2 1 (.inr ⟨by decide,1,rfl,by decide,d12,fun c hc hd => ?_⟩)]
 ·rcases lt0 hd with rfl | rfl | rfl
  ·exact d01
  ·exact dm_refl (r0_1 (by decide))
  ·exact absurd rfl hc
 ·rcases lt0 hd with rfl | rfl | rfl
  ·exact dm_refl r0_0
  ·exact absurd rfl hc
  ·exact absurd hd nd21
theorem in00:InLoop (fol g0) 0 0:=⟨⟨1,d01,by rw [f0_1]; simp⟩,.inl rfl⟩
theorem in01:InLoop (fol g0) 0 1:=⟨⟨1,d01,by rw [f0_1]; simp⟩,.inr (.back d01 (by rw [f0_1]; simp) (by decide))⟩
theorem nin02 : ¬ InLoop (fol g0) 0 2:=fun h=>h.2.elim (fun w=>by cases w) fun w=>by
 cases w with
 | back _ h2 _=>rw [f0_2] at h2; cases h2
 | pre _ h2 _ _=>rw [f0_2] at h2; cases h2
theorem nback1 : ¬ HasBack (fol g0) 1:=fun ⟨a,h1,h2⟩=>by
 match a,h1,h2 with
 | 0,h1,_=>exact nd10 h1
 | 1,_,h2=>rw [f0_1] at h2; simp at h2
 | 2,_,h2=>rw [f0_2] at h2; cases h2
 | n+3,_,h2=>rw [f0_n] at h2; cases h2
theorem nback2 : ¬ HasBack (fol g0) 2:=fun ⟨a,h1,h2⟩=>by
 match a,h1,h2 with
 | 0,_,h2=>rw [f0_0] at h2; simp at h2
 | 1,h1,_=>exact nd21 h1
 | 2,_,h2=>rw [f0_2] at h2; cases h2
 | n+3,_,h2=>rw [f0_n] at h2; cases h2
theorem depth0:depthL (fol g0) 3=[1,1,0]:=by
 have z : ∀ n,depthN (fol g0) 0 n=0:=fun n=>by simp [depthN]
 have s : ∀ n,depthN (fol g0) 3 n=depthN (fol g0) 1 n:=fun n=>by
  rw [depthN_succ,depthN_succ,if_neg fun w=>nback1 w.1,if_neg fun w=>nback2 w.1]; rfl
 show [depthN (fol g0) 3 0,depthN (fol g0) 3 1,depthN (fol g0) 3 2]=_
 rw [s,s,s,depthN_succ,depthN_succ,depthN_succ,z,z,z,if_pos in00,if_pos in01,if_neg nin02]
end Go.Proofs.YthboippafkcoiaaGreatDoor.am
namespace Go.Proofs.YthboippafkcoiaaGreatDoor.am
open Go Go.Proofs
set_option linter.all false
set_option maxRecDepth 100000 in
theorem k_rsame (l l':List Int):K 60 [.tr (intsT l),.tr (intsT l')] [] (.ret (.tr (tb (eqI2 l l')))) []:=by
 have h1:(l.map irow).length=l.length:=List.length_map ..
 have h2:(l'.map irow).length=l'.length:=List.length_map ..
 refine Ctr.of hT hmix Tryz.func60 rfl (fun _ _=>by kernel_rfl) rfl fun hok => ?_
 obtain ⟨_,hl1,_⟩:=(hok.slot 0 rfl).tr.lst
 rw [List.length_map] at hl1
 clear hok
 conv=>whnf
 cases hc:(((l.map irow).length:Int) != ((l'.map irow).length:Int)) with
 | true =>
  conv=>whnf
  exact ⟨.inl (congrArg tb (by rw [h1,h2] at hc; unfold eqI2; rw [hc]; rfl)),trivial⟩
 | false =>
 have hE:eqI2 l l'=eqI l l':=by rw [h1,h2] at hc; unfold eqI2; rw [hc]; rfl
 have hll:l.length=l'.length:=by
  rw [h1,h2] at hc
  refine Classical.byContradiction fun w => ?_
  rw [bne_iff_ne.2 (fun e=>w (by omega))] at hc
  cases hc
 rw [hE]
 generalize hR:eqI l l'=R
 clear hE hc
 conv=>whnf
 refine LoopL.by (fun i:Nat=>⟨[(0,.tr (intsT l)),(1,.tr (intsT l')),(5,.tr (ti i))],[],10⟩) (fun i=>i≤l.length∧R=eqI (l.drop i) (l'.drop i)) (fun i=>l.length - i) 0 [] []
  (Sub.mk' rfl aut trivial rfl rfl) ⟨Nat.zero_le _,hR.symm⟩ ?_
 clear hR
 rintro i ⟨hi,hR⟩ -
 conv=>whnf
 refine csplit (fun hit => ?_) (fun hit => ?_)
 ·have hit:i<l.length:=by have:decide ((i:Int)<((l.map irow).length:Int))=true:=hit; have:=of_decide_eq_true this; omega
  obtain ⟨a,ha⟩ : ∃ a,l[i]? = some a:=⟨_,List.getElem?_eq_getElem hit⟩
  obtain ⟨b,hb⟩ : ∃ b,l'[i]? = some b:=⟨_,List.getElem?_eq_getElem (by omega)⟩
  rw [drop_cons ha,drop_cons hb] at hR
  conv=>whnf
  refine ⟨rfl,(show (0:Int)≤i by omega),(show (i:Int)<((l.map irow).length:Int) by omega),fun row hrow => ?_⟩
  obtain ⟨d,hd,rfl⟩:=int_get hrow
  obtain rfl:=Option.some.inj (ha.symm.trans hd)
  clear hrow hd
  conv=>whnf
  refine ⟨rfl,(show (0:Int)≤i by omega),(show (i:Int)<((l'.map irow).length:Int) by omega),fun row hrow => ?_⟩
  obtain ⟨d,hd,rfl⟩:=int_get hrow
  obtain rfl:=Option.some.inj (hb.symm.trans hd)
  clear hrow hd
  conv=>whnf
  refine ⟨by kernel_rfl,fun _ => ?_⟩
  conv=>whnf
  cases hab:(a != b) with
  | true =>
   conv=>whnf
   exact ⟨.inl (by rw [hR]; show tb false=tb (bif a != b then false else _); rw [hab]; rfl),trivial⟩
  | false =>
   replace hR:R=eqI (l.drop (i+1)) (l'.drop (i+1)):=by rw [hR]; show (bif a != b then false else _)=_; rw [hab]; rfl
   conv=>whnf
   exact ⟨i+1,[],[],Sub.mk' rfl ⟨.inl rfl,.inl rfl,.inl (ti_succ hit (by omega)),trivial⟩ trivial rfl rfl,⟨hit,hR⟩,by show l.length - (i+1)<l.length - i; omega⟩
 have hit:l.length≤i:=by have:decide ((i:Int)<((l.map irow).length:Int))=false:=hit; have:=of_decide_eq_false this; omega
 rw [List.drop_of_length_le hit,List.drop_of_length_le (by omega)] at hR
 conv=>whnf
 refine ⟨fun _ => ?_,fun h=>absurd rfl h⟩
 conv=>whnf
 exact ⟨.inl (by rw [hR]; rfl),trivial⟩
set_option maxRecDepth 100000 in
theorem k_ints (l l':List Int):K 23 [.tr (intsT l),.tr (intsT l')] [] (.ret (.tr (tb (eqI2 l l')))) []:=by
 have h:=k_rsame l l'
 refine Ctr.of hT hmix Tryz.func23 rfl (fun _ _=>by kernel_rfl) rfl fun hok => ?_
 clear hok
 conv=>whnf
 refine acall.pure _ (h) rfl rfl fun _ => ?_
 conv=>whnf
 exact aut
end Go.Proofs.YthboippafkcoiaaGreatDoor.am
namespace Go.Proofs.YthboippafkcoiaaGreatDoor.am
open Go Go.Proofs
set_option linter.all false
def rfolI (n:Nd):List Int:=bif n.kind == 9 then [] else bif n.kind == 8 then [n.next,n.els] else [n.next]
set_option maxRecDepth 100000 in
theorem k_rfollows (n:Nd):K 62 [n.av] [] (.ret (.tr (intsT (rfolI n)))) []:=by
 refine Ctr.of hT hmix Tryz.func62 rfl (fun _ _=>by kernel_rfl) rfl fun hok => ?_
 clear hok
 conv=>whnf
 cases h1:(n.kind == 9) with
 | true =>
  conv=>whnf
  exact ⟨.inr ⟨rfl,1,8,by unfold rfolI; rw [h1]; rfl⟩,trivial⟩
 | false =>
 conv=>whnf
 cases h2:(n.kind == 8) with
 | true =>
  conv=>whnf
  exact ⟨⟨rfl,Nat.le_refl _,by unfold rfolI; rw [h1,h2]; rfl⟩,trivial⟩
 | false =>
  conv=>whnf
  exact ⟨⟨rfl,Nat.le_refl _,by unfold rfolI; rw [h1,h2]; rfl⟩,trivial⟩
end Go.Proofs.YthboippafkcoiaaGreatDoor.am
namespace Go.Proofs.YthboippafkcoiaaGreatDoor.am
open Go Go.Proofs
set_option linter.all false
def rfol (g:Gr) (x:Nat):List Nat:=match g.nodes[x]? with | some n=>(rfolI n).map Int.toNat | none=>[]
theorem rfolI_mem (n:Nd) (k:Int):k ∈ rfolI n↔k ∈ folI n:=by
 unfold rfolI folI
 cases h9:(n.kind == 9) with
 | true=>exact Iff.rfl
 | false =>
 cases h8:(n.kind == 8) with
 | false=>exact Iff.rfl
 | true =>
 cases he:(n.els != n.next) with
 | true=>exact Iff.rfl
 | false =>
  have:n.els=n.next:=by simpa [bne] using he
  rw [this]
  simp
theorem rfol_mem (g:Gr) (a b:Nat):b ∈ rfol g a↔b ∈ fol g a:=by
 unfold rfol fol
 cases g.nodes[a]? with
 | none=>exact Iff.rfl
 | some n =>
  simp only [List.mem_map]
  constructor
  ·rintro ⟨k,h1,h2⟩; exact ⟨k,(rfolI_mem n k).1 h1,h2⟩
  ·rintro ⟨k,h1,h2⟩; exact ⟨k,(rfolI_mem n k).2 h1,h2⟩
theorem rfolI_len (n:Nd):(rfolI n).length≤2:=by
 unfold rfolI
 cases (n.kind == 9) <;> cases (n.kind == 8) <;> exact Nat.le_of_ble_eq_true rfl
structure RWhole (g:Gr):Prop where
 fol : ∀ (x:Nat) n,g.nodes[x]? = some n→rfolI n=(rfol g x).map fun (x:Nat)=>(x:Int)
 lt : ∀ a,∀ b ∈ rfol g a,b<g.nodes.length
 len : ∀ a,(rfol g a).length≤2
theorem rwhole_of {g:Gr} (h:Whole g):RWhole g:=by
 refine ⟨fun x n hx => ?_,fun a b hb=>h.lt a b ((rfol_mem g a b).1 hb),fun a => ?_⟩
 ·have hf:=h.fol x n hx
  unfold rfol
  rw [hx]
  simp only [List.map_map]
  conv=>lhs; rw [← List.map_id (rfolI n)]
  refine List.map_congr_left fun k hk => ?_
  have:k ∈ folI n:=(rfolI_mem n k).1 hk
  rw [hf] at this
  obtain ⟨y,_,rfl⟩:=List.mem_map.1 this
  rfl
 ·unfold rfol
  split
  ·rw [List.length_map]; exact rfolI_len _
  ·exact Nat.zero_le _
theorem ahead_r (g:Gr) (N:Nat):aheadL (rfol g) N=aheadL (fol g) N:=aheadL_congr (rfol_mem g) N
def rnodeOk (N:Int) (n:Nd):Bool := !(decide (n.kind≤0) || decide (n.kind ≥ 10)) && (rfolI n).all fun k => !(decide (k<0) || decide (k ≥ N))
theorem all_congr {α:Type} {p:α→Bool} {l l':List α} (h : ∀ x,x ∈ l↔x ∈ l'):l.all p=l'.all p:=by
 cases q:l'.all p with
 | true=>exact List.all_eq_true.2 fun x hx=>List.all_eq_true.1 q x ((h x).1 hx)
 | false =>
  rw [List.all_eq_false] at q ⊢
  obtain ⟨x,h1,h2⟩:=q
  exact ⟨x,(h x).2 h1,h2⟩
theorem rnodeOk_eq {N:Int} {n:Nd} (h:0≤n.kind):rnodeOk N n=nodeOk N n:=by
 unfold rnodeOk nodeOk
 rw [all_congr (rfolI_mem n)]
 congr 3
 by_cases e:n.kind=0
 ·rw [e]; rfl
 ·rw [beq_eq_false_iff_ne.2 e,decide_eq_false (by omega)]
end Go.Proofs.YthboippafkcoiaaGreatDoor.am
namespace Go.Proofs.YthboippafkcoiaaGreatDoor.am
open Go Go.Proofs
set_option linter.all false
set_option maxRecDepth 100000 in
theorem k_rwhole (g:Gr):K 58 [g.av] [] (.ret (.tr (tb (wholeB g)))) []:=by
 generalize hR:wholeB g=R
 unfold wholeB at hR
 obtain ⟨name,locals,slots,nodes⟩:=g
 simp only at hR
 have hln:(nodes.map Nd.cells).length=nodes.length:=List.length_map ..
 refine Ctr.of hT hmix Tryz.func58 rfl (fun _ _=>by kernel_rfl) rfl fun hok => ?_
 have hrows:=((hok.slot 0 rfl).agg _ (.tail _ (.tail _ (.tail _ (.head _))))).tr.lst.2.2
 have hkind : ∀ n ∈ nodes,0≤n.kind:=fun n hn=>by
  obtain ⟨i,hi⟩:=List.mem_iff_getElem?.1 hn
  have h0:=((hrows n.cells (List.mem_map.2 ⟨n,hn,rfl⟩)).2 (tu n.kind) (.head _)).u8.1
  exact h0
 clear hok hrows
 have hall:nodes.all (nodeOk nodes.length)=nodes.all (rnodeOk nodes.length):=by
  cases q:nodes.all (nodeOk nodes.length) with
  | true=>exact (List.all_eq_true.2 fun n hn=>by rw [rnodeOk_eq (hkind n hn)]; exact List.all_eq_true.1 q n hn).symm
  | false =>
   rw [List.all_eq_false] at q
   obtain ⟨n,h1,h2⟩:=q
   exact (List.all_eq_false.2 ⟨n,h1,by rw [rnodeOk_eq (hkind n h1)]; exact h2⟩).symm
 rw [hall] at hR
 clear hall hkind
 by_cases hN:1≤nodes.length∧nodes.length≤4096
 case neg =>
  have hR:false=R:=by
   rw [← hR]
   have:(decide ((nodes.length:Int)<1) || decide ((nodes.length:Int) > 4096))=true:=by
    rw [Bool.or_eq_true]
    by_cases h:nodes.length<1
    ·exact .inl (decide_eq_true (by omega))
    ·exact .inr (decide_eq_true (by omega))
   rw [this]; rfl
  subst hR
  by_cases h:nodes.length<1
  ·have e1:decide (((nodes.map Nd.cells).length:Int)<1)=true:=by rw [hln]; exact decide_eq_true (by omega)
   conv=>whnf
   rw [e1]
   conv=>whnf
   exact aut
  ·have e1:decide (((nodes.map Nd.cells).length:Int)<1)=false:=by rw [hln]; exact decide_eq_false (by omega)
   have e2:decide (((nodes.map Nd.cells).length:Int) > 4096)=true:=by rw [hln]; exact decide_eq_true (by omega)
   conv=>whnf
   rw [e1]
   conv=>whnf
   rw [e2]
   conv=>whnf
   exact aut
 have e1:decide (((nodes.map Nd.cells).length:Int)<1)=false:=by rw [hln]; exact decide_eq_false (by omega)
 have e2:decide (((nodes.map Nd.cells).length:Int) > 4096)=false:=by rw [hln]; exact decide_eq_false (by omega)
 have hR:nodes.all (rnodeOk nodes.length)=R:=by
  rw [← hR,show decide ((nodes.length:Int)<1)=false by rw [← hln]; exact e1,show decide ((nodes.length:Int) > 4096)=false by rw [← hln]; exact e2]; rfl
 conv=>whnf
 rw [e1]
 conv=>whnf
 rw [e2]
 conv=>whnf
 refine LoopL.by (fun i:Nat=>⟨[(1,.ptr 0 0),(3,.tr (ti i))],[(0,.cells 50 [.tr (ts name),.tr (ti locals),.tr (ti slots),.tr (nodesT nodes)])],10⟩) (fun i=>i≤nodes.length∧(nodes.drop i).all (rnodeOk nodes.length)=R) (fun i=>nodes.length - i) 0 [_] []
  (Sub.aw) ⟨Nat.zero_le _,hR⟩ ?_
 clear hR
 rintro i ⟨hi,hR⟩ -
 conv=>whnf
 refine csplit (fun hlt => ?_) (fun hge => ?_)
 ·have hlt:i<nodes.length:=by have:decide ((i:Int)<((nodes.map Nd.cells).length:Int))=true:=hlt; have:=of_decide_eq_true this; omega
  obtain ⟨n,hn⟩ : ∃ n,nodes[i]? = some n:=⟨_,List.getElem?_eq_getElem hlt⟩
  rw [List.drop_eq_getElem_cons hlt,List.all_cons,(List.getElem?_eq_some_iff.1 hn).2] at hR
  have hf:=k_rfollows n
  have hnk:rnodeOk nodes.length n=(!(decide (n.kind≤0) || decide (n.kind ≥ 10)) && (rfolI n).all fun k => !(decide (k<0) || decide (k ≥ (nodes.length:Int)))):=rfl
  have hfl:=rfolI_len n
  rw [hnk] at hR
  clear hnk
  generalize rfolI n=F at hf hR hfl
  obtain ⟨kind,op,slot,thing,⟨sa,ka,wa⟩,⟨sb,kb,wb⟩,next,els,origin⟩:=n
  simp only at hR
  conv=>whnf
  refine ⟨rfl,(show (0:Int)≤i by omega),(show (i:Int)<((nodes.map Nd.cells).length:Int) by omega),fun row hrow => ?_⟩
  obtain ⟨d,hd,rfl⟩:=nd_get hrow
  obtain rfl:=Option.some.inj (hn.symm.trans hd)
  clear hrow hd
  conv=>whnf
  cases b1:decide (kind≤0)
  case true =>
   rw [b1,Bool.true_or,Bool.not_true,Bool.false_and,Bool.false_and] at hR
   subst hR
   conv=>whnf
   exact aut
  conv=>whnf
  cases b2:decide (kind ≥ 10)
  case true =>
   rw [b1,b2,Bool.or_true,Bool.not_true,Bool.false_and,Bool.false_and] at hR
   subst hR
   conv=>whnf
   exact aut
  conv=>whnf
  rw [b1,b2,Bool.or_false,Bool.not_false,Bool.true_and] at hR
  refine acall.pure _ (hf) rfl rfl fun _ => ?_
  conv=>whnf
  have hlF:(F.map irow).length=F.length:=List.length_map ..
  refine LoopL.by (fun j:Nat=>⟨[(1,.ptr 0 0),(3,.tr (ti i)),(5,.tr (intsT F)),(6,.tr (ti j))],[(0,.cells 50 [.tr (ts name),.tr (ti locals),.tr (ti slots),.tr (nodesT nodes)])],10⟩) (fun j=>j≤F.length∧((F.drop j).all (fun k => !(decide (k<0) || decide (k ≥ (nodes.length:Int)))) && (nodes.drop (i+1)).all (rnodeOk nodes.length))=R) (fun j=>F.length - j) 0 [0] []
   (Sub.mk' rfl aut aut rfl rfl) ⟨Nat.zero_le _,hR⟩ ?_
  clear hR hf
  rintro j ⟨hj,hR⟩ -
  conv=>whnf
  refine csplit (fun hjt => ?_) (fun hjt => ?_)
  ·have hjt:j<F.length:=by have:decide ((j:Int)<((F.map irow).length:Int))=true:=hjt; have:=of_decide_eq_true this; omega
   obtain ⟨k,hk⟩ : ∃ k,F[j]? = some k:=⟨_,List.getElem?_eq_getElem hjt⟩
   rw [List.drop_eq_getElem_cons hjt,List.all_cons,(List.getElem?_eq_some_iff.1 hk).2] at hR
   conv=>whnf
   refine ⟨rfl,(show (0:Int)≤j by omega),(show (j:Int)<((F.map irow).length:Int) by omega),fun row hrow => ?_⟩
   obtain ⟨d,hd,rfl⟩:=int_get hrow
   obtain rfl:=Option.some.inj (hk.symm.trans hd)
   clear hrow hd
   conv=>whnf
   cases c1:decide (k<0)
   case true =>
    rw [c1,Bool.true_or,Bool.not_true,Bool.false_and,Bool.false_and] at hR
    subst hR
    conv=>whnf
    refine ⟨by kernel_rfl,fun _ => ?_⟩
    conv=>whnf
    exact aut
   conv=>whnf
   refine ⟨rfl,(show (0:Int)≤j by omega),(show (j:Int)<((F.map irow).length:Int) by omega),fun row hrow => ?_⟩
   obtain ⟨d,hd,rfl⟩:=int_get hrow
   obtain rfl:=Option.some.inj (hk.symm.trans hd)
   clear hrow hd
   conv=>whnf
   refine ⟨by kernel_rfl,fun _ => ?_⟩
   conv=>whnf
   cases c2:decide (k ≥ (nodes.length:Int))
   case true =>
    rw [c1,c2,Bool.or_true,Bool.not_true,Bool.false_and,Bool.false_and] at hR
    subst hR
    rw [← hln] at c2
    rw [c2]
    conv=>whnf
    exact aut
   rw [c1,c2,Bool.or_false,Bool.not_false,Bool.true_and] at hR
   rw [← hln] at c2
   rw [c2]
   conv=>whnf
   exact ⟨j+1,[0],[],Sub.mk' rfl ⟨⟨rfl,rfl⟩,.inl rfl,.inl rfl,.inl (ti_succ hjt (by omega)),trivial⟩ aut rfl rfl,⟨hjt,hR⟩,by show F.length - (j+1)<F.length - j; omega⟩
  ·have hjt:j=F.length:=by have:decide ((j:Int)<((F.map irow).length:Int))=false:=hjt; have:=of_decide_eq_false this; omega
   subst hjt
   rw [List.drop_length] at hR
   have hR:(nodes.drop (i+1)).all (rnodeOk nodes.length)=R:=hR
   conv=>whnf
   refine ⟨fun _ => ?_,fun h=>absurd rfl h⟩
   conv=>whnf
   exact ⟨i+1,[0],[],Sub.mk' rfl ⟨⟨rfl,rfl⟩,.inl (ti_succ hlt (by omega)),trivial⟩ aut rfl rfl,⟨hlt,hR⟩,by show nodes.length - (i+1)<nodes.length - i; omega⟩
 ·have hge:i=nodes.length:=by have:decide ((i:Int)<((nodes.map Nd.cells).length:Int))=false:=hge; have:=of_decide_eq_false this; omega
  subst hge
  rw [List.drop_length] at hR
  have hR:true=R:=hR
  subst hR
  conv=>whnf
  refine ⟨fun _ => ?_,fun h=>absurd rfl h⟩
  conv=>whnf
  exact aut
end Go.Proofs.YthboippafkcoiaaGreatDoor.am
namespace Go.Proofs.YthboippafkcoiaaGreatDoor.am
open Go Go.Proofs
set_option linter.all false
abbrev addI (l:List Nat) (b:Bool) (i:Nat):List Nat:=l++(bif b then [i] else [])
theorem setC_same {X:List (List Nat)} {y:Nat} {l:List Nat} (h:X[y]? = some l):setC (X.map lrow) y 0 (Tr.lst 1 8 (((l.map fun (x:Nat)=>(x:Int)).map irow).take ((l.map fun (x:Nat)=>(x:Int)).map irow).length))=X.map lrow:=by
 rw [List.take_length]
 unfold setC
 have h1:(X.map lrow)[y]? = some (lrow l):=by rw [List.getElem?_map,h]; rfl
 rw [h1]
 show (X.map lrow).set y (lrow l)=X.map lrow
 refine List.ext_getElem? fun k => ?_
 by_cases e:k=y
 ·subst e
  rw [List.getElem?_set_self (List.getElem?_eq_some_iff.1 h1).1,h1]
 ·rw [List.getElem?_set_ne (fun w=>e w.symm)]
set_option maxRecDepth 100000 in
set_option maxHeartbeats 2000000 in
theorem k_rahead (g:Gr) (hW:wholeB g=true):K 22 [g.av] [] (.ret (.tr (listsT (aheadL (fol g) g.nodes.length)))) []:=by
 have hw:=k_rwhole g
 rw [hW] at hw
 have hW:=whole_of hW
 have hRW:=rwhole_of hW
 have hagain:=fun n j k a b=>aheadJ_again (fol:=rfol g) (N:=g.nodes.length) (n:=n) (j:=j) (k:=k) a b
 have hnew:=fun n j k a b c=>aheadJ_new (fol:=rfol g) (N:=g.nodes.length) (n:=n) (j:=j) (k:=k) a b c
 have hat:=fun n j k hk=>aheadJ_at (fol:=rfol g) (N:=g.nodes.length) (n:=n) (j:=j) (k:=k) hk
 have hnext:=fun n j hj=>aheadJ_next (fol:=rfol g) (N:=g.nodes.length) (n:=n) (j:=j) hj
 have hz:aheadJ (rfol g) g.nodes.length 0 0=List.replicate g.nodes.length []:=aheadJ_zero
 have hfin:aheadJ (rfol g) g.nodes.length g.nodes.length 0=aheadL (fol g) g.nodes.length:=aheadJ_fin.trans (ahead_r g _)
 have hlen : ∀ n j,(aheadJ (rfol g) g.nodes.length n j).length=g.nodes.length:=fun n j=>by simp [aheadJ]
 have hal : ∀ n k,(aheadN (rfol g) n k).length≤n:=fun n k=>by
  have:=List.length_filter_le (fun i=>(rfol g i).contains k) (List.range n)
  rwa [List.length_range] at this
 have hlast : ∀ n k x,x ∈ aheadN (rfol g) n k→x<n:=fun n k x h=>aheadN_mem_lt h
 have hfI:=hRW.fol
 have hlt:=hRW.lt
 have hfl:=hRW.len
 have hpos:=hW.pos
 have hmo:=hW.most
 clear hW hRW
 generalize aheadL (fol g) g.nodes.length=R at hfin ⊢
 generalize aheadJ (rfol g) g.nodes.length=A at hagain hnew hat hnext hz hfin hlen
 generalize aheadN (rfol g)=B at hnew hat hal hlast
 generalize rfol g=f at hagain hnew hat hnext hfI hlt hfl
 have hln:(g.nodes.map Nd.cells).length=g.nodes.length:=List.length_map ..
 obtain ⟨N,hNe⟩ : ∃ N,g.nodes.length=N:=⟨_,rfl⟩
 rw [hNe] at hnew hat hz hfin hlen hlt hpos hmo hln
 refine Ctr.cut [1000014] hT hmix Tryz.func22 rfl (fun _ _=>by kernel_rfl) rfl fun hok => ?_
 clear hok
 conv=>whnf
 refine acall.pure _ (hw) rfl rfl fun _ => ?_
 conv=>whnf
 refine ⟨(by rw [hln]; omega),Int.le_refl _,(by rw [hln]; show (N:Int)*24≤_; omega),?_⟩
 conv=>whnf
 rw [hln,Int.toNat_natCast]
 refine LoopL.by (fun i:Nat=>⟨[(1,.ptr 0 0),(4,.sl 1 N),(5,.tr (ti i))],[(0,grBl g),(1,.own 1 24 ((A i 0).map lrow) [])],10⟩) (fun i=>i≤N) (fun i=>N - i) 0 [0,_] []
  (Sub.mk' rfl ⟨⟨rfl,rfl⟩,⟨rfl,rfl⟩,.inl rfl,trivial⟩ ⟨⟨rfl,.inl rfl,.inl rfl,.inl rfl,.inl rfl,trivial⟩,⟨rfl,rfl,rfl,leaf_rep N,.inr (by show nlR _ ((A 0 0).map lrow); rw [hz]; exact nil_rows N)⟩,trivial⟩ rfl rfl) (Nat.zero_le _) ?_
 rintro i hi -
 conv=>whnf
 refine csplit (fun hlt1 => ?_) (fun hge => ?_)
 ·have hlt1:i<N:=by have:decide ((i:Int)<((g.nodes.map Nd.cells).length:Int))=true:=hlt1; have:=of_decide_eq_true this; omega
  obtain ⟨n,hn⟩ : ∃ n,g.nodes[i]? = some n:=⟨_,List.getElem?_eq_getElem (by omega)⟩
  have hf:=k_rfollows n
  rw [hfI i n hn] at hf
  have hflt:=hlt i
  have hfl:=hfl i
  have hagain:=hagain i
  have hnew:=hnew i
  have hnext:=hnext i
  have hat:=hat i
  obtain ⟨F,hF⟩ : ∃ F,f i=F:=⟨_,rfl⟩
  rw [hF] at hf hflt hfl hagain hnew hnext hat
  have hFl:=natsT_len F
  obtain ⟨kind,op,slot,thing,⟨sa,ka,wa⟩,⟨sb,kb,wb⟩,next,els,origin⟩:=n
  conv=>whnf
  refine ⟨rfl,(show (0:Int)≤i by omega),(show (i:Int)<((g.nodes.map Nd.cells).length:Int) by omega),fun row hrow => ?_⟩
  obtain ⟨d,hd,rfl⟩:=nd_get hrow
  obtain rfl:=Option.some.inj (hn.symm.trans hd)
  clear hrow hd hn
  conv=>whnf
  refine acall.pure _ (hf) rfl rfl fun _ => ?_
  conv=>whnf
  refine LoopL.by (fun j:Nat=>⟨[(1,.ptr 0 0),(4,.sl 1 N),(5,.tr (ti i)),(6,.tr (natsT F)),(7,.tr (ti j))],[(0,grBl g),(1,.own 1 24 ((A i j).map lrow) [])],10⟩) (fun j=>j≤F.length) (fun j=>F.length - j) 0 [0,1] []
   (Sub.mk' rfl aut aut rfl rfl) (Nat.zero_le _) ?_
  rintro j hj -
  conv=>whnf
  refine csplit (fun hjt => ?_) (fun hjt => ?_)
  ·have hjt:j<F.length:=by have:decide ((j:Int)<((((F.map fun (x:Nat)=>(x:Int))).map irow).length:Int))=true:=hjt; have:=of_decide_eq_true this; omega
   obtain ⟨y,hy⟩ : ∃ y,F[j]? = some y:=⟨_,List.getElem?_eq_getElem hjt⟩
   have hyN:=hflt y (List.mem_of_getElem? hy)
   have hget:=hat j y hyN
   have hbl:=hal i y
   have hlast:=hlast i y
   obtain ⟨c,hc⟩ : ∃ c,(F.take j).contains y=c:=⟨_,rfl⟩
   rw [hc] at hget
   obtain ⟨B0,hB0⟩ : ∃ B0,B i y=B0:=⟨_,rfl⟩
   rw [hB0] at hget hbl hlast
   have hnew:c=false→A i (j+1)=(A i j).set y (B0++[i]):=fun e=>by rw [hnew j y hy hyN (by rw [hc,e]),hB0]
   have hagain:c=true→A i (j+1)=A i j:=fun e=>hagain j y hy (by rw [hc,e])
   obtain ⟨l,hl⟩ : ∃ l,addI B0 c i=l:=⟨_,rfl⟩
   replace hget:(A i j)[y]? = some l:=hget.trans (by rw [← hl])
   have hll:l.length≤i+1:=by
    rw [← hl]
    unfold addI
    rw [List.length_append]
    cases c
    ·exact Nat.le_succ_of_le hbl
    ·exact Nat.succ_le_succ hbl
   conv=>whnf
   refine ⟨rfl,(show (0:Int)≤j by omega),(show (j:Int)<((((F.map fun (x:Nat)=>(x:Int))).map irow).length:Int) by omega),fun row hrow => ?_⟩
   obtain ⟨d,hd,rfl⟩:=natsT_get hrow
   obtain rfl:=Option.some.inj (hy.symm.trans hd)
   clear hrow hd
   conv=>whnf
   refine ⟨rfl,(show (0:Int)≤y by omega),(show (y:Int)<(N:Int) by omega),?_⟩
   conv=>whnf
   refine ⟨rfl,(by show y<((A i j).map lrow).length; rw [List.length_map,hlen]; exact hyN),fun row hrow => ?_⟩
   obtain ⟨d,hd,rfl⟩:=lrow_get hrow
   obtain rfl:=Option.some.inj (hget.symm.trans hd)
   clear hrow hd
   refine ⟨(show 0<1 by decide),fun t ht => ?_⟩
   cases ht
   conv=>whnf
   refine ⟨(show 0<1 by decide),?_⟩
   conv=>whnf
   refine CutL.by (fun _:Unit=>⟨[(1,.ptr 0 0),(4,.sl 1 N),(5,.tr (ti i)),(6,.tr (natsT F)),(7,.tr (ti j)),(8,.sl 2 ((l.map fun (x:Nat)=>(x:Int)).map irow).length),(55,.tr (tb !c))],[(0,grBl g),(1,.own 1 24 ((A i j).map lrow) [((y,0),(2,((l.map fun (x:Nat)=>(x:Int)).map irow).length))]),(2,.own 1 8 ((l.map fun (x:Nat)=>(x:Int)).map irow) [])],10⟩) (fun _=>True) ?_ ?_
   ·have hlen2:((l.map fun (x:Nat)=>(x:Int)).map irow).length=l.length:=natsT_len l
    have hk1:0<l.length→IntKind.i64.wrap ((((l.map fun (x:Nat)=>(x:Int)).map irow).length:Int) - 1)=((l.length - 1:Nat):Int):=fun h=>by rw [hlen2,w64 (by omega) (by omega)]; omega
    cases c with
    | true =>
     have hln:l=B0++[i]:=hl.symm
     have hpos:0<l.length:=by rw [hln,List.length_append]; exact Nat.succ_pos _
     have hk1:=hk1 hpos
     have e0:((((l.map fun (x:Nat)=>(x:Int)).map irow).length:Int) == 0)=false:=by rw [hlen2,beq_eq_false_iff_ne]; omega
     have hlst:l[l.length - 1]? = some i:=by rw [hln]; simp
     have e1:((i:Int) != (i:Int))=false:=by simp
     conv=>whnf
     rw [e0]
     conv=>whnf
     rw [hk1]
     refine ⟨rfl,(show (0:Int)≤((l.length - 1:Nat):Int) by omega),(show ((l.length - 1:Nat):Int)<(((l.map fun (x:Nat)=>(x:Int)).map irow).length:Int) by rw [hlen2]; omega),?_⟩
     conv=>whnf
     refine ⟨rfl,(by show l.length - 1<((l.map fun (x:Nat)=>(x:Int)).map irow).length; rw [hlen2]; omega),fun row hrow => ?_⟩
     obtain ⟨d,hd,rfl⟩:=natsT_get hrow
     obtain rfl:=Option.some.inj (hlst.symm.trans hd)
     clear hrow hd
     refine ⟨(show 0<1 by decide),fun t ht => ?_⟩
     cases ht
     conv=>whnf
     rw [e1]
     conv=>whnf
     exact ⟨(),[0,1,_],[],Sub.aw,trivial⟩
    | false =>
     have hln:l=B0:=by rw [← hl]; exact List.append_nil _
     cases e0:((((l.map fun (x:Nat)=>(x:Int)).map irow).length:Int) == 0) with
     | true =>
      conv=>whnf
      rw [e0]
      conv=>whnf
      exact ⟨(),[0,1,_],[],Sub.aw,trivial⟩
     | false =>
     have hpos:0<l.length:=by
      rw [hlen2,beq_eq_false_iff_ne] at e0
      omega
     have hk1:=hk1 hpos
     obtain ⟨x,hlst⟩ : ∃ x,l[l.length - 1]? = some x:=⟨_,List.getElem?_eq_getElem (by omega)⟩
     have hxi:=hlast x (by rw [← hln]; exact List.mem_of_getElem? hlst)
     have e1:((x:Int) != (i:Int))=true:=bne_iff_ne.2 (by omega)
     conv=>whnf
     rw [e0]
     conv=>whnf
     rw [hk1]
     refine ⟨rfl,(show (0:Int)≤((l.length - 1:Nat):Int) by omega),(show ((l.length - 1:Nat):Int)<(((l.map fun (x:Nat)=>(x:Int)).map irow).length:Int) by rw [hlen2]; omega),?_⟩
     conv=>whnf
     refine ⟨rfl,(by show l.length - 1<((l.map fun (x:Nat)=>(x:Int)).map irow).length; rw [hlen2]; omega),fun row hrow => ?_⟩
     obtain ⟨d,hd,rfl⟩:=natsT_get hrow
     obtain rfl:=Option.some.inj (hlst.symm.trans hd)
     clear hrow hd
     refine ⟨(show 0<1 by decide),fun t ht => ?_⟩
     cases ht
     conv=>whnf
     rw [e1]
     conv=>whnf
     exact ⟨(),[0,1,_],[],Sub.aw,trivial⟩
   rintro - - -
   cases c with
   | true =>
    have hag:=hagain rfl
    conv=>whnf
    refine ⟨j+1,[0,1],[],Sub.pk [1] ?_,hjt,by show F.length - (j+1)<F.length - j; omega⟩
    conv=>whnf
    refine ⟨rfl,rfl,Nat.le_refl _,?_⟩
    refine Sub0.mk' rfl ⟨⟨rfl,rfl⟩,⟨rfl,rfl⟩,.inl rfl,.inl rfl,.inl (ti_succ hjt (by omega)),trivial⟩ ⟨aut,⟨rfl,rfl,rfl,rfl,.inl ?_⟩,trivial⟩ rfl rfl
    rw [hag]
    exact setC_same hget
   | false =>
    have hne:=hnew rfl
    have hln:l=B0:=by rw [← hl]; exact List.append_nil _
    conv=>whnf
    refine ⟨rfl,(show (0:Int)≤j by omega),(show (j:Int)<((((F.map fun (x:Nat)=>(x:Int))).map irow).length:Int) by omega),fun row hrow => ?_⟩
    obtain ⟨d,hd,rfl⟩:=natsT_get hrow
    obtain rfl:=Option.some.inj (hy.symm.trans hd)
    clear hrow hd
    conv=>whnf
    refine ⟨rfl,rfl,Nat.le_refl _,(by show (((l.map fun (x:Nat)=>(x:Int)).map irow).length+1)*8≤_; rw [natsT_len]; omega),trivial,(fun row hr t ht=>by rw [List.mem_singleton.1 hr] at ht; rw [List.mem_singleton.1 ht]; exact ⟨_,rfl⟩),trivial,?_⟩
    conv=>whnf
    refine ⟨rfl,(show (0:Int)≤y by omega),(show (y:Int)<(N:Int) by omega),?_⟩
    conv=>whnf
    refine .inl ⟨rfl,rfl,rfl,(by show y<((A i j).map lrow).length; rw [List.length_map,hlen]; exact hyN),⟨fun _=>rfl,trivial⟩,fun row hrow => ?_⟩
    obtain ⟨d,hd,rfl⟩:=lrow_get hrow
    obtain rfl:=Option.some.inj (hget.symm.trans hd)
    clear hrow hd
    refine ⟨(show 0+1≤1 by decide),?_⟩
    conv=>whnf
    refine ⟨by kernel_rfl,fun _ => ?_⟩
    conv=>whnf
    refine ⟨j+1,[0,1],[],Sub.pk [1] ?_,hjt,by show F.length - (j+1)<F.length - j; omega⟩
    conv=>whnf
    refine ⟨rfl,rfl,(by show ((l.map fun (x:Nat)=>(x:Int)).map irow).length+1≤(((l.map fun (x:Nat)=>(x:Int)).map irow)++[[ti i]]).length; rw [List.length_append]; exact Nat.le_refl _),?_⟩
    refine Sub0.mk' rfl ⟨⟨rfl,rfl⟩,⟨rfl,rfl⟩,.inl rfl,.inl rfl,.inl (ti_succ hjt (by omega)),trivial⟩ ⟨aut,⟨rfl,rfl,rfl,rfl,.inl ?_⟩,trivial⟩ rfl rfl
    refine (setC_put (A i j) y _ _ (by rw [hlen]; exact hyN)).trans ?_
    rw [hne,List.map_set,← hln]
    exact congrArg (fun q=>((A i j).map lrow).set y [q]) (nats_snoc l i)
  ·have hjt:F.length≤j:=by have:decide ((j:Int)<((((F.map fun (x:Nat)=>(x:Int))).map irow).length:Int))=false:=hjt; have:=of_decide_eq_false this; omega
   conv=>whnf
   refine ⟨fun _ => ?_,fun h=>absurd rfl h⟩
   conv=>whnf
   exact ⟨i+1,[0,1],[],Sub.mk' rfl ⟨⟨rfl,rfl⟩,⟨rfl,rfl⟩,.inl (ti_succ hlt1 (by omega)),trivial⟩ ⟨aut,⟨rfl,rfl,rfl,rfl,.inl (by rw [hnext j hjt])⟩,trivial⟩ rfl rfl,hlt1,by show N - (i+1)<N - i; omega⟩
 ·have hge:i=N:=by have:decide ((i:Int)<((g.nodes.map Nd.cells).length:Int))=false:=hge; have:=of_decide_eq_false this; omega
  subst hge
  conv=>whnf
  refine ⟨fun _ => ?_,fun h=>absurd rfl h⟩
  conv=>whnf
  exact ⟨⟨rfl,(by show i≤((A i 0).map lrow).length; rw [List.length_map,hlen]; exact Nat.le_refl _),(by show listsT R=Tr.lst 1 24 (((A i 0).map lrow).take i); rw [List.take_of_length_le (by rw [List.length_map,hlen]; exact Nat.le_refl _),hfin])⟩,trivial⟩
set_option maxRecDepth 100000 in
theorem k_rahead0 (g:Gr) (hW:wholeB g=false):K 22 [g.av] [] (.ret (.tr (listsT []))) []:=by
 have h1:=k_rwhole g
 rw [hW] at h1
 obtain ⟨name,locals,slots,nodes⟩:=g
 refine Ctr.of hT hmix Tryz.func22 rfl (fun _ _=>by kernel_rfl) rfl fun hok => ?_
 clear hok
 conv=>whnf
 refine acall.pure _ (h1) rfl rfl fun _ => ?_
 conv=>whnf
 exact ⟨.inr ⟨rfl,_,_,rfl⟩,trivial⟩
end Go.Proofs.YthboippafkcoiaaGreatDoor.am
namespace Go.Proofs.YthboippafkcoiaaGreatDoor.am
open Go Go.Proofs
set_option linter.all false
end Go.Proofs.YthboippafkcoiaaGreatDoor.am
namespace Go.Proofs.YthboippafkcoiaaGreatDoor.am
open Go Go.Proofs
set_option linter.all false
end Go.Proofs.YthboippafkcoiaaGreatDoor.am
namespace Go.Proofs.YthboippafkcoiaaGreatDoor.am
open Go Go.Proofs
set_option linter.all false
theorem nrow_app {l:List Nat} (x:Nat):(l.map nrow).take l.length++[[ti (x:Nat)]]=(l++[x]).map nrow:=by
 rw [List.map_append,List.take_of_length_le (by rw [List.length_map]; exact Nat.le_refl _)]; rfl
end Go.Proofs.YthboippafkcoiaaGreatDoor.am
namespace Go.Proofs.YthboippafkcoiaaGreatDoor.am
open Go Go.Proofs
set_option linter.all false
end Go.Proofs.YthboippafkcoiaaGreatDoor.am
namespace Go.Proofs.YthboippafkcoiaaGreatDoor.am
open Go Go.Proofs
set_option linter.all false
end Go.Proofs.YthboippafkcoiaaGreatDoor.am
namespace Go.Proofs.YthboippafkcoiaaGreatDoor.am
open Go Go.Proofs
set_option linter.all false
theorem eqI_refl : ∀ l:List Int,eqI l l=true
 | []=>rfl
 | a::l=>by
  show (bif a != a then false else eqI l l)=true
  rw [eqI_refl l]; simp
theorem eqI2_refl (l:List Int):eqI2 l l=true:=by
 unfold eqI2
 rw [eqI_refl]; simp
abbrev ilrow (l:List Int):List Tr:=[intsT l]
abbrev ilistsT (L:List (List Int)):Tr := .lst 1 24 (L.map ilrow)
theorem ilrow_get {l:List (List Int)} {i:Nat} {row:List Tr} (h:(l.map ilrow)[i]? = some row) : ∃ d,l[i]? = some d∧row=ilrow d:=by
 rw [List.getElem?_map,Option.map_eq_some_iff] at h
 obtain ⟨d,h1,rfl⟩:=h
 exact ⟨d,h1,rfl⟩
theorem listsT_i (L:List (List Nat)):listsT L=ilistsT (L.map fun l=>l.map fun (x:Nat)=>(x:Int)):=by
 show Tr.lst 1 24 (L.map lrow)=Tr.lst 1 24 ((L.map _).map ilrow)
 rw [List.map_map]; rfl
set_option maxRecDepth 100000 in
theorem k_lists (L:List (List Int)):K 20 [.tr (ilistsT L),.tr (ilistsT L)] [] (.ret (.tr (tb true))) []:=by
 have h1:(L.map ilrow).length=L.length:=List.length_map ..
 have e0:(((L.map ilrow).length:Int) != ((L.map ilrow).length:Int))=false:=by simp
 refine Ctr.of hT hmix Tryz.func20 rfl (fun _ _=>by kernel_rfl) rfl fun hok => ?_
 obtain ⟨_,hl1,_⟩:=(hok.slot 0 rfl).tr.lst
 rw [List.length_map] at hl1
 clear hok
 conv=>whnf
 rw [e0]
 conv=>whnf
 refine LoopL.by (fun i:Nat=>⟨[(0,.tr (ilistsT L)),(1,.tr (ilistsT L)),(5,.tr (ti (i:Nat)))],[],10⟩) (fun i=>i≤L.length) (fun i=>L.length - i) 0 [] []
  (Sub.mk' rfl aut trivial rfl rfl) (Nat.zero_le _) ?_
 rintro i hi -
 conv=>whnf
 refine csplit (fun hit => ?_) (fun hit => ?_)
 ·replace hit:i<L.length:=by have:decide ((i:Int)<((L.map ilrow).length:Int))=true:=hit; have:=of_decide_eq_true this; omega
  obtain ⟨a,ha⟩ : ∃ a,L[i]? = some a:=⟨_,List.getElem?_eq_getElem hit⟩
  have hs:=k_rsame a a
  rw [eqI2_refl] at hs
  conv=>whnf
  refine ⟨rfl,(show (0:Int)≤i by omega),(show (i:Int)<((L.map ilrow).length:Int) by omega),fun row hrow => ?_⟩
  obtain ⟨d,hd,rfl⟩:=ilrow_get hrow
  obtain rfl:=Option.some.inj (ha.symm.trans hd)
  clear hrow hd
  conv=>whnf
  refine ⟨rfl,(show (0:Int)≤i by omega),(show (i:Int)<((L.map ilrow).length:Int) by omega),fun row hrow => ?_⟩
  obtain ⟨d,hd,rfl⟩:=ilrow_get hrow
  obtain rfl:=Option.some.inj (ha.symm.trans hd)
  clear hrow hd
  conv=>whnf
  refine acall.pure _ (hs) rfl rfl ?_
  conv=>whnf
  refine ⟨by kernel_rfl,fun _ => ?_⟩
  conv=>whnf
  exact ⟨i+1,[],[],Sub.mk' rfl ⟨.inl rfl,.inl rfl,.inl (ti_succ hit (by omega)),trivial⟩ trivial rfl rfl,hit,by show L.length - (i+1)<L.length - i; omega⟩
 ·replace hit:L.length≤i:=by have:decide ((i:Int)<((L.map ilrow).length:Int))=false:=hit; have:=of_decide_eq_false this; omega
  conv=>whnf
  refine ⟨fun _ => ?_,fun h=>absurd rfl h⟩
  conv=>whnf
  exact aut
end Go.Proofs.YthboippafkcoiaaGreatDoor.am
namespace Go.Proofs.YthboippafkcoiaaGreatDoor.am
open Go Go.Proofs
set_option linter.all false
theorem folI_two (n:Nd):rfolI n=folI n ∨ ∃ x,folI n=[x]∧rfolI n=[x,x]:=by
 unfold folI rfolI
 cases h9:(n.kind == 9) with
 | true=>exact .inl rfl
 | false =>
 cases h8:(n.kind == 8) with
 | false=>exact .inl rfl
 | true =>
 cases he:(n.els != n.next) with
 | true=>exact .inl rfl
 | false =>
  have:n.els=n.next:=by simpa [bne] using he
  exact .inr ⟨n.next,rfl,by rw [this]; rfl⟩
theorem lkAt_set {lk:List (Option (List Int))} {x:Nat} {now:List Int} (h:x<lk.length):lkAt (lk.set x (some now)) x=now:=by
 unfold lkAt
 rw [List.getD_eq_getElem?_getD,List.getElem?_set_self h]; rfl
theorem inH_two {now:List Int} {x:Nat} {s:HSt} (h:x<s.1.length):inH now [x,x] s=inH now [x] s:=by
 have e:inH now [x,x] s=bif s.2.contains x then (bif eqI2 (lkAt s.1 x) now then inH now [x] s else (s,some x)) else inH now [x] (s.1.set x (some now),s.2++[x]):=rfl
 have e1:inH now [x] s=bif s.2.contains x then (bif eqI2 (lkAt s.1 x) now then (s,none) else (s,some x)) else ((s.1.set x (some now),s.2++[x]),none):=rfl
 rw [e]
 cases hc:s.2.contains x with
 | true =>
  cases he:eqI2 (lkAt s.1 x) now with
  | true=>rfl
  | false=>rw [e1,hc,he]; rfl
 | false =>
  rw [e1,hc,cond_false,cond_false]
  show (bif (s.2++[x]).contains x then (bif eqI2 (lkAt (s.1.set x (some now)) x) now then ((s.1.set x (some now),s.2++[x]),none) else _) else _)=_
  rw [show (s.2++[x]).contains x=true by simp,lkAt_set h,eqI2_refl]; rfl
theorem inH_r {g:Gr} {a:Nat} {n:Nd} (hn:g.nodes[a]? = some n) (now:List Int) (s:HSt) (hlt : ∀ y ∈ rfol g a,y<s.1.length):inH now (rfol g a) s=inH now (fol g a) s:=by
 have h1:rfol g a=(rfolI n).map Int.toNat:=by unfold rfol; rw [hn]
 have h2:fol g a=(folI n).map Int.toNat:=by unfold fol; rw [hn]
 rcases folI_two n with q | ⟨x,q1,q2⟩
 ·rw [h1,h2,q]
 ·rw [h1,q2] at hlt
  rw [h1,h2,q1,q2]
  exact inH_two (hlt x.toNat (.head _))
def FdI (N:Nat) (fd:List Bool) (todo:List Nat):Prop:=fd.length=N ∧ ∀ x,x<N→fd[x]? = some (todo.contains x)
theorem FdI.push {N:Nat} {fd:List Bool} {todo:List Nat} {y:Nat} (h:FdI N fd todo) (hy:y<N):FdI N (fd.set y true) (todo++[y]):=by
 refine ⟨by rw [List.length_set]; exact h.1,fun x hx => ?_⟩
 by_cases e:x=y
 ·subst e
  rw [List.getElem?_set_self (by rw [h.1]; exact hx)]; simp
 ·rw [List.getElem?_set_ne (fun w=>e w.symm),h.2 x hx]
  congr 1
  have:(x == y)=false:=beq_eq_false_iff_ne.2 e
  simp [e]
theorem FdI.start {N:Nat} (h:0<N):FdI N ((List.replicate N false).set 0 true) [0]:=by
 have h0:FdI N (List.replicate N false) []:=⟨by simp,fun x hx=>by simp [hx]⟩
 exact h0.push h
abbrev heS (todo:List Nat) (k N:Nat) (r:List (Nat × AV)):List (Nat × AV):=(1,.ptr 0 0)::(4,.sl 1 N)::(5,.sl 2 N)::(6,.sl 3 todo.length)::(7,.tr (ti (k:Nat)))::r
abbrev heM (g:Gr) (lk:List (Option (List Int))) (fd:List Bool) (todo:List Nat) (r:List (Nat × Blk)):List (Nat × Blk):=(0,grBl g)::(1,hB lk)::(2,boolsB fd)::(3,natsB todo)::r
abbrev ndcB (n:Nd):Blk := .cells 75 (n.cells.map .tr)
set_option maxRecDepth 100000 in
set_option maxHeartbeats 4000000 in
theorem k_rheld (g:Gr) (hW:Whole g):K 73 [g.av] [] (.ret (.tup [.tr (heT (heldR g).1),.tr (ti (heldR g).2)])) []:=by
 have hR:heldR g=outH g (g.nodes.length+1) (List.replicate g.nodes.length none,[0]) 0:=rfl
 generalize heldR g=R at hR ⊢
 have hpos:=hW.pos
 have hmo:=hW.most
 have hRW:=rwhole_of hW
 have hlt:=hRW.lt
 have hfI:=hRW.fol
 have hfl:=hRW.len
 clear hW hRW
 have hO : ∀ f s k,outH g (f+1) s k=match s.2[k]? with
  | none=>(s.1,-1)
  | some a=>match g.nodes[a]? with
   | none=>([],0)
   | some n=>match nowN n (lkAt s.1 a) with
    | none=>([],(a:Int))
    | some now=>contH (outH g f) (k+1) (inH now (fol g a) s):=fun f s k=>rfl
 generalize outH g=OH at hR hO
 have hln:(g.nodes.map Nd.cells).length=g.nodes.length:=List.length_map ..
 obtain ⟨N,hNe⟩ : ∃ N,g.nodes.length=N:=⟨_,rfl⟩
 rw [hNe] at hR hpos hmo hlt hln
 refine Ctr.cut [10,20] hT hmix Tryz.func73 rfl (fun _ _=>by kernel_rfl) rfl fun hok => ?_
 clear hok
 conv=>whnf
 refine ⟨(by rw [hln]; omega),Int.le_refl _,(by rw [hln]; show (N:Int)*24≤_; omega),?_⟩
 conv=>whnf
 rw [hln,Int.toNat_natCast]
 refine ⟨(show (0:Int)≤N by omega),Int.le_refl _,(show (N:Int)*1≤140737488351232 by omega),?_⟩
 conv=>whnf
 try rw [Int.toNat_natCast]
 refine ⟨rfl,by decide,(show (0:Int)<(N:Int) by omega),?_⟩
 conv=>whnf
 refine ⟨rfl,rfl,(by rw [List.length_replicate]; exact hpos),fun row hrow => ?_⟩
 replace hrow:(List.replicate N [Tr.v (.bool false)])[0]? = some row:=hrow
 rw [List.getElem?_replicate,if_pos hpos] at hrow
 cases hrow
 refine ⟨by decide,?_⟩
 conv=>whnf
 refine LoopL.by (fun x:(HSt × List Bool) × Nat=>⟨heS x.1.1.2 x.2 N [],heM g x.1.1.1 x.1.2 x.1.1.2 [],10⟩) (fun x=>HInv N x.2 x.1.1.1 x.1.1.2∧x.2≤x.1.1.2.length∧FdI N x.1.2 x.1.1.2∧R=OH (N+1 - x.2) x.1.1 x.2) (fun x=>N+1 - x.2) (((List.replicate N none,[0]),(List.replicate N false).set 0 true),0) [0,_,_,_] []
  (Sub.mk' rfl ⟨⟨rfl,rfl⟩,⟨rfl,rfl⟩,⟨rfl,rfl⟩,⟨rfl,rfl⟩,.inl rfl,trivial⟩ ⟨⟨rfl,.inl rfl,.inl rfl,.inl rfl,.inl rfl,trivial⟩,⟨rfl,rfl,rfl,by rw [List.map_replicate]; rfl⟩,⟨rfl,rfl,rfl,by rw [← brow_set _ _ false,← brow_rep]; rfl⟩,⟨rfl,rfl,rfl,rfl⟩,trivial⟩ rfl rfl) ⟨⟨List.length_replicate ..,by simp,fun x hx=>by rw [List.mem_singleton.1 hx]; exact hpos,fun a l e=>by
   have e:(List.replicate N none)[a]? = some (some l):=e
   rw [List.getElem?_replicate] at e
   split at e <;> cases e⟩,Nat.zero_le _,FdI.start hpos,hR⟩ ?_
 clear hR
 rintro ⟨⟨⟨lk,todo⟩,fd⟩,k⟩ ⟨hI,hk,hfd,hR⟩ -
 simp only at hI hk hfd hR
 have htl:=hI.todo_len
 have hlkl:=hI.len
 have hO1:=hO (N - k) (lk,todo) k
 rw [show N - k+1=N+1 - k by omega,← hR] at hO1
 clear hR
 conv=>whnf
 refine csplit (fun hkt => ?_) (fun hkt => ?_)
 ·replace hkt:k<todo.length:=by have:decide ((k:Int)<(todo.length:Int))=true:=hkt; have:=of_decide_eq_true this; omega
  obtain ⟨a,ha⟩ : ∃ a,todo[k]? = some a:=⟨_,List.getElem?_eq_getElem hkt⟩
  have haN:=hI.lt a (List.mem_of_getElem? ha)
  obtain ⟨n,hn⟩ : ∃ n,g.nodes[a]? = some n:=⟨_,List.getElem?_eq_getElem (by omega)⟩
  obtain ⟨o,ho⟩ : ∃ o,lk[a]? = some o:=⟨_,List.getElem?_eq_getElem (by omega)⟩
  have hlk:lkAt lk a=o.getD []:=by unfold lkAt; rw [List.getD_eq_getElem?_getD,ho]; rfl
  have hir:=fun now=>inH_r hn now (lk,todo) (fun y hy=>by show y<lk.length; rw [hlkl]; exact hlt a y hy)
  have hO2:R=match nowN n (lkAt lk a) with
    | none=>([],(a:Int))
    | some now=>contH (OH (N - k)) (k+1) (inH now (rfol g a) (lk,todo)):=by
   rw [hO1]
   show (match todo[k]? with | none=>_ | some a=>_)=_
   rw [ha]
   show (match g.nodes[a]? with | none=>_ | some n=>_)=_
   rw [hn]
   simp only [hir]
  clear hO1 hir
  have hl0:=hI.at a
  have hf:=k_rfollows n
  rw [hfI a n hn] at hf
  have hflt:=hlt a
  have hfl:=hfl a
  conv=>whnf
  refine ⟨rfl,(show (0:Int)≤k by omega),(show (k:Int)<(todo.length:Int) by omega),?_⟩
  conv=>whnf
  refine ⟨rfl,(by show k<(todo.map nrow).length; rw [List.length_map]; omega),fun row hrow => ?_⟩
  obtain ⟨d,hd,rfl⟩:=nrow_get hrow
  obtain rfl:=Option.some.inj (ha.symm.trans hd)
  clear hrow hd
  refine ⟨(show 0<1 by decide),fun t ht => ?_⟩
  cases ht
  conv=>whnf
  refine ⟨rfl,(show (0:Int)≤a by omega),(show (a:Int)<((g.nodes.map Nd.cells).length:Int) by omega),fun row hrow => ?_⟩
  obtain ⟨d,hd,rfl⟩:=nd_get hrow
  obtain rfl:=Option.some.inj (hn.symm.trans hd)
  clear hrow hd
  conv=>whnf
  refine ⟨by kernel_rfl,fun _ => ?_⟩
  conv=>whnf
  refine CutL.by (fun _:Unit=>⟨heS todo k N [(8,.ptr 4 0),(9,.sl 5 (lkAt lk a).length)],heM g lk fd todo [(4,ndcB n),(5,ivB (lkAt lk a))],10⟩) (fun _=>True) ?_ ?_
  ·conv=>whnf
   refine ⟨rfl,(show (0:Int)≤k by omega),(show (k:Int)<(todo.length:Int) by omega),?_⟩
   conv=>whnf
   refine ⟨rfl,(by show k<(todo.map nrow).length; rw [List.length_map]; omega),fun row hrow => ?_⟩
   obtain ⟨d,hd,rfl⟩:=nrow_get hrow
   obtain rfl:=Option.some.inj (ha.symm.trans hd)
   clear hrow hd
   refine ⟨(show 0<1 by decide),fun t ht => ?_⟩
   cases ht
   conv=>whnf
   refine ⟨rfl,(show (0:Int)≤a by omega),(show (a:Int)<(N:Int) by omega),?_⟩
   conv=>whnf
   refine ⟨rfl,(by show a<(lk.map hrow).length; rw [List.length_map]; omega),fun row hrow => ?_⟩
   obtain ⟨d,hd,rfl⟩:=hrow_get hrow
   obtain rfl:=Option.some.inj (ho.symm.trans hd)
   clear hrow hd
   cases o with
   | none =>
    refine ⟨(show 0<1 by decide),fun t ht => ?_⟩
    cases ht
    conv=>whnf
    have hle:lkAt lk a=[]:=hlk
    refine ⟨rfl,rfl,rfl,Nat.le_refl _,(show (0+0)*8≤150000000000000 by omega),(fun q hq=>by cases hq),?_⟩
    conv=>whnf
    exact ⟨(),[0,1,2,3,_,_],[],Sub.mk' rfl ⟨⟨rfl,rfl⟩,⟨rfl,rfl⟩,⟨rfl,rfl⟩,⟨rfl,rfl⟩,.inl rfl,⟨rfl,rfl⟩,⟨rfl,by rw [hle]; rfl⟩,trivial⟩ ⟨⟨rfl,.inl rfl,.inl rfl,.inl rfl,.inl rfl,trivial⟩,⟨rfl,rfl,rfl,rfl⟩,⟨rfl,rfl,rfl,rfl⟩,⟨rfl,rfl,rfl,rfl⟩,⟨rfl,.inl rfl,.inl rfl,.inl rfl,.inl rfl,.inl rfl,.inl rfl,.inl rfl,.inl rfl,.inl rfl,.inl rfl,.inl rfl,.inl rfl,.inl rfl,trivial⟩,⟨rfl,rfl,rfl,by rw [hle]; rfl⟩,trivial⟩ rfl rfl,trivial⟩
   | some l =>
    refine ⟨(show 0<1 by decide),fun t ht => ?_⟩
    cases ht
    conv=>whnf
    have hle:lkAt lk a=l:=hlk
    rw [hle] at hl0
    refine ⟨rfl,rfl,rfl,Nat.le_refl _,(by show (0+(l.map irow).length)*8≤150000000000000; rw [List.length_map]; omega),(fun q hq=>by cases hq),?_⟩
    conv=>whnf
    exact ⟨(),[0,1,2,3,_,_],[],Sub.mk' rfl ⟨⟨rfl,rfl⟩,⟨rfl,rfl⟩,⟨rfl,rfl⟩,⟨rfl,rfl⟩,.inl rfl,⟨rfl,rfl⟩,⟨rfl,by rw [hle]; simp⟩,trivial⟩ ⟨⟨rfl,.inl rfl,.inl rfl,.inl rfl,.inl rfl,trivial⟩,⟨rfl,rfl,rfl,rfl⟩,⟨rfl,rfl,rfl,rfl⟩,⟨rfl,rfl,rfl,rfl⟩,⟨rfl,.inl rfl,.inl rfl,.inl rfl,.inl rfl,.inl rfl,.inl rfl,.inl rfl,.inl rfl,.inl rfl,.inl rfl,.inl rfl,.inl rfl,.inl rfl,trivial⟩,⟨rfl,rfl,rfl,by rw [hle]; rfl⟩,trivial⟩ rfl rfl,trivial⟩
  rintro - - -
  clear hlk ho
  generalize lkAt lk a=l0 at hO2 hl0
  have hll0:(l0.map irow).length=l0.length:=List.length_map ..
  have hlw:0<l0.length→IntKind.i64.wrap ((l0.length:Int) - 1)=((l0.length - 1:Nat):Int):=fun h=>by rw [w64 (by omega) (by omega)]; omega
  have hself:intsT l0=Tr.lst 1 8 ((l0.map irow).take l0.length):=by rw [List.take_of_length_le (Nat.le_of_eq hll0)]
  conv=>whnf
  refine CutL.by (fun now:List Int=>⟨heS todo k N [(8,.ptr 4 0),(9,.tr (intsT now))],heM g lk fd todo [(4,ndcB n)],10⟩) (fun now=>nowN n l0=some now) ?_ ?_
  ·conv=>whnf
   cases h5:(n.kind == 5) with
   | true =>
    conv=>whnf
    refine ⟨rfl,rfl,rfl,Nat.le_of_eq hll0.symm,(show (l0.length+1)*8≤150000000000000 by omega),fun q hq => ?_,?_⟩
    ·cases hq with
     | head=>exact Nat.ne_of_beq_eq_false rfl
     | tail _ h=>cases h
    conv=>whnf
    have htk:(l0.map irow).take l0.length++[[ti n.thing]]=(l0++[n.thing]).map irow:=by rw [List.take_of_length_le (Nat.le_of_eq hll0),List.map_append]; rfl
    have hle:l0.length+1≤((l0.map irow).take l0.length++[[ti n.thing]]).length:=by rw [htk,List.length_map,List.length_append]; exact Nat.le_refl _
    have heq:intsT (l0++[n.thing])=Tr.lst 1 8 (((l0.map irow).take l0.length++[[ti n.thing]]).take (l0.length+1)):=by rw [htk,List.take_of_length_le (by rw [List.length_map,List.length_append]; exact Nat.le_refl _)]
    exact ⟨l0++[n.thing],[0,1,2,3,4],[],Sub.mk' rfl ⟨⟨rfl,rfl⟩,⟨rfl,rfl⟩,⟨rfl,rfl⟩,⟨rfl,rfl⟩,.inl rfl,⟨rfl,rfl⟩,⟨rfl,hle,heq⟩,trivial⟩ aut rfl rfl,by unfold nowN; rw [h5]; rfl⟩
   | false =>
   conv=>whnf
   cases h6:(n.kind == 6) with
   | true =>
    conv=>whnf
    cases h7:((l0.length:Int) == 0) with
    | true =>
     have hRf:R=([],(a:Int)):=by rw [hO2]; unfold nowN; rw [h5,h6,h7]; rfl
     conv=>whnf
     refine ⟨by kernel_rfl,fun _ => ?_⟩
     conv=>whnf
     refine ⟨rfl,(show (0:Int)≤k by omega),(show (k:Int)<(todo.length:Int) by omega),?_⟩
     conv=>whnf
     refine ⟨rfl,(by show k<(todo.map nrow).length; rw [List.length_map]; omega),fun row hrow => ?_⟩
     obtain ⟨d2,hd2,rfl⟩:=nrow_get hrow
     obtain rfl:=Option.some.inj (ha.symm.trans hd2)
     clear hrow hd2
     refine ⟨(show 0<1 by decide),fun t ht => ?_⟩
     cases ht
     conv=>whnf
     refine ⟨by kernel_rfl,fun _ => ?_⟩
     conv=>whnf
     exact ⟨⟨.inr ⟨rfl,1,24,by rw [hRf]; rfl⟩,.inl (by rw [hRf]),trivial⟩,trivial⟩
    | false =>
    have h0:0<l0.length:=by
     have:=beq_eq_false_iff_ne.1 h7
     omega
    have hw1:=hlw h0
    obtain ⟨d,hd⟩ : ∃ d,l0[l0.length - 1]? = some d:=⟨_,List.getElem?_eq_getElem (by omega)⟩
    have hgd:l0.getD (l0.length - 1) 0=d:=by rw [List.getD_eq_getElem?_getD,hd]; rfl
    conv=>whnf
    rw [hw1]
    refine ⟨rfl,(show (0:Int)≤((l0.length - 1:Nat):Int) by omega),(show ((l0.length - 1:Nat):Int)<(l0.length:Int) by omega),?_⟩
    conv=>whnf
    refine ⟨rfl,(by show l0.length - 1<(l0.map irow).length; omega),fun row hrow => ?_⟩
    obtain ⟨d',hd',rfl⟩:=int_get hrow
    obtain rfl:=Option.some.inj (hd.symm.trans hd')
    clear hrow hd'
    refine ⟨(show 0<1 by decide),fun t ht => ?_⟩
    cases ht
    conv=>whnf
    refine ⟨by kernel_rfl,fun _ => ?_⟩
    conv=>whnf
    cases hne:(d != n.thing) with
    | true =>
     have hRf:R=([],(a:Int)):=by rw [hO2]; unfold nowN; rw [h5,h6,h7,hgd,hne]; rfl
     conv=>whnf
     refine ⟨rfl,(show (0:Int)≤k by omega),(show (k:Int)<(todo.length:Int) by omega),?_⟩
     conv=>whnf
     refine ⟨rfl,(by show k<(todo.map nrow).length; rw [List.length_map]; omega),fun row hrow => ?_⟩
     obtain ⟨d2,hd2,rfl⟩:=nrow_get hrow
     obtain rfl:=Option.some.inj (ha.symm.trans hd2)
     clear hrow hd2
     refine ⟨(show 0<1 by decide),fun t ht => ?_⟩
     cases ht
     conv=>whnf
     refine ⟨by kernel_rfl,fun _ => ?_⟩
     conv=>whnf
     exact ⟨⟨.inr ⟨rfl,1,24,by rw [hRf]; rfl⟩,.inl (by rw [hRf]),trivial⟩,trivial⟩
    | false =>
     conv=>whnf
     rw [hw1]
     refine ⟨(show (0:Int)≤((l0.length - 1:Nat):Int) by omega),(show ((l0.length - 1:Nat):Int)≤(l0.length:Int) by omega),?_⟩
     conv=>whnf
     exact ⟨l0.take (l0.length - 1),[0,1,2,3,4],[],Sub.mk' rfl ⟨⟨rfl,rfl⟩,⟨rfl,rfl⟩,⟨rfl,rfl⟩,⟨rfl,rfl⟩,.inl rfl,⟨rfl,rfl⟩,⟨rfl,(by show l0.length - 1≤(l0.map irow).length; omega),(by show Tr.lst 1 8 ((l0.take (l0.length - 1)).map irow)=Tr.lst 1 8 ((l0.map irow).take (l0.length - 1)); rw [List.map_take])⟩,trivial⟩ aut rfl rfl,by unfold nowN; rw [h5,h6,h7,hgd,hne]; rfl⟩
   | false =>
   conv=>whnf
   cases h9:(n.kind == 9) with
   | true =>
    conv=>whnf
    cases h7:decide ((l0.length:Int) > 0) with
    | true =>
     have hRf:R=([],(a:Int)):=by rw [hO2]; unfold nowN; rw [h5,h6,h9,h7]; rfl
     conv=>whnf
     refine ⟨rfl,(show (0:Int)≤k by omega),(show (k:Int)<(todo.length:Int) by omega),?_⟩
     conv=>whnf
     refine ⟨rfl,(by show k<(todo.map nrow).length; rw [List.length_map]; omega),fun row hrow => ?_⟩
     obtain ⟨d2,hd2,rfl⟩:=nrow_get hrow
     obtain rfl:=Option.some.inj (ha.symm.trans hd2)
     clear hrow hd2
     refine ⟨(show 0<1 by decide),fun t ht => ?_⟩
     cases ht
     conv=>whnf
     refine ⟨by kernel_rfl,fun _ => ?_⟩
     conv=>whnf
     exact ⟨⟨.inr ⟨rfl,1,24,by rw [hRf]; rfl⟩,.inl (by rw [hRf]),trivial⟩,trivial⟩
    | false =>
     conv=>whnf
     exact ⟨l0,[0,1,2,3,4],[],Sub.mk' rfl ⟨⟨rfl,rfl⟩,⟨rfl,rfl⟩,⟨rfl,rfl⟩,⟨rfl,rfl⟩,.inl rfl,⟨rfl,rfl⟩,⟨rfl,Nat.le_of_eq hll0.symm,hself⟩,trivial⟩ aut rfl rfl,by unfold nowN; rw [h5,h6,h9,h7]; rfl⟩
   | false =>
    conv=>whnf
    exact ⟨l0,[0,1,2,3,4],[],Sub.mk' rfl ⟨⟨rfl,rfl⟩,⟨rfl,rfl⟩,⟨rfl,rfl⟩,⟨rfl,rfl⟩,.inl rfl,⟨rfl,rfl⟩,⟨rfl,Nat.le_of_eq hll0.symm,hself⟩,trivial⟩ aut rfl rfl,by unfold nowN; rw [h5,h6,h9]; rfl⟩
  rintro now hnow -
  have hO3:R=contH (OH (N - k)) (k+1) (inH now (rfol g a) (lk,todo)):=by rw [hO2,hnow]
  have hnl:now.length≤k+1:=Nat.le_trans (nowN_len hnow) (by omega)
  have hI2:=hI.mono (Nat.le_succ k)
  obtain ⟨F,hF⟩ : ∃ F,rfol g a=F:=⟨_,rfl⟩
  rw [hF] at hf hflt hfl hO3
  have hFl:=natsT_len F
  clear hO2 hnow hl0 hlw hI hself hll0
  obtain ⟨kind,op,slot,thing,⟨sa,ka,wa⟩,⟨sb,kb,wb⟩,next,els,origin⟩:=n
  conv=>whnf
  refine acall.pure _ (hf) rfl rfl fun _ => ?_
  conv=>whnf
  refine LoopL.by (fun x:(HSt × List Bool) × Nat=>⟨heS x.1.1.2 k N [(9,.tr (intsT now)),(10,.tr (natsT F)),(11,.tr (ti (x.2:Nat)))],heM g x.1.1.1 x.1.2 x.1.1.2 [],10⟩) (fun x=>HInv N (k+1) x.1.1.1 x.1.1.2∧k<x.1.1.2.length∧x.2≤F.length∧FdI N x.1.2 x.1.1.2∧R=contH (OH (N - k)) (k+1) (inH now (F.drop x.2) x.1.1)) (fun x=>F.length - x.2) (((lk,todo),fd),0) [0,1,2,3] []
   (Sub.mk' rfl aut aut rfl rfl) ⟨hI2,hkt,Nat.zero_le _,hfd,hO3⟩ ?_
  clear hO3 hI2 hf hn ha haN hkt htl hlkl hk hfd
  rintro ⟨⟨⟨lk,todo⟩,fd⟩,j⟩ ⟨hI,hk,hj,hfd,hR⟩ -
  simp only at hI hk hj hfd hR
  have hlkl:=hI.len
  have htl:=hI.todo_len
  have hfl2:=hfd.1
  conv=>whnf
  refine csplit (fun hjt => ?_) (fun hjt => ?_)
  ·replace hjt:j<F.length:=by have:decide ((j:Int)<((((F.map fun (x:Nat)=>(x:Int))).map irow).length:Int))=true:=hjt; have:=of_decide_eq_true this; omega
   obtain ⟨y,hy⟩ : ∃ y,F[j]? = some y:=⟨_,List.getElem?_eq_getElem hjt⟩
   have hyN:=hflt y (List.mem_of_getElem? hy)
   rw [drop_cons hy] at hR
   obtain ⟨o,ho⟩ : ∃ o,lk[y]? = some o:=⟨_,List.getElem?_eq_getElem (by omega)⟩
   have hlk:lkAt lk y=o.getD []:=by unfold lkAt; rw [List.getD_eq_getElem?_getD,ho]; rfl
   have hR2:R=contH (OH (N - k)) (k+1) (bif todo.contains y then (bif eqI2 (lkAt lk y) now then inH now (F.drop (j+1)) (lk,todo) else ((lk,todo),some y)) else inH now (F.drop (j+1)) (lk.set y (some now),todo++[y])):=hR
   clear hR
   have hfy:=hfd.2 y hyN
   conv=>whnf
   refine ⟨rfl,(show (0:Int)≤j by omega),(show (j:Int)<((((F.map fun (x:Nat)=>(x:Int))).map irow).length:Int) by omega),fun row hrow => ?_⟩
   obtain ⟨d,hd,rfl⟩:=natsT_get hrow
   obtain rfl:=Option.some.inj (hy.symm.trans hd)
   clear hrow hd
   conv=>whnf
   refine ⟨rfl,(show (0:Int)≤y by omega),(show (y:Int)<(N:Int) by omega),?_⟩
   conv=>whnf
   refine ⟨rfl,(by show y<(fd.map brow).length; rw [List.length_map]; omega),fun row hrow => ?_⟩
   obtain ⟨d,hd,rfl⟩:=brow_get hrow
   obtain rfl:=Option.some.inj (hfy.symm.trans hd)
   clear hrow hd
   refine ⟨(show 0<1 by decide),fun t ht => ?_⟩
   cases ht
   cases hcon:todo.contains y with
   | false =>
    have hyT:y ∉ todo:=fun w=>by rw [List.contains_iff_mem.2 w] at hcon; cases hcon
    rw [hcon,cond_false] at hR2
    have hI3:=hI.put hyN hyT hnl
    have hfd2:=hfd.push hyN
    have hfy2:=hfy
    rw [hcon] at hfy2
    conv=>whnf
    refine ⟨rfl,(show (0:Int)≤j by omega),(show (j:Int)<((((F.map fun (x:Nat)=>(x:Int))).map irow).length:Int) by omega),fun row hrow => ?_⟩
    obtain ⟨d,hd,rfl⟩:=natsT_get hrow
    obtain rfl:=Option.some.inj (hy.symm.trans hd)
    clear hrow hd
    conv=>whnf
    refine ⟨rfl,(show (0:Int)≤y by omega),(show (y:Int)<(N:Int) by omega),?_⟩
    conv=>whnf
    refine ⟨rfl,rfl,(by show y<(fd.map brow).length; rw [List.length_map]; omega),fun row hrow => ?_⟩
    obtain ⟨d,hd,rfl⟩:=brow_get hrow
    obtain rfl:=Option.some.inj (hfy2.symm.trans hd)
    clear hrow hd
    refine ⟨(show 0+1≤1 by decide),?_⟩
    conv=>whnf
    refine ⟨rfl,(show (0:Int)≤j by omega),(show (j:Int)<((((F.map fun (x:Nat)=>(x:Int))).map irow).length:Int) by omega),fun row hrow => ?_⟩
    obtain ⟨d,hd,rfl⟩:=natsT_get hrow
    obtain rfl:=Option.some.inj (hy.symm.trans hd)
    clear hrow hd
    conv=>whnf
    refine ⟨rfl,(show (0:Int)≤y by omega),(show (y:Int)<(N:Int) by omega),?_⟩
    conv=>whnf
    refine ⟨rfl,rfl,(by show y<(lk.map hrow).length; rw [List.length_map]; omega),fun row hrw => ?_⟩
    obtain ⟨d,hd,rfl⟩:=hrow_get hrw
    clear hrw hd
    have hrl:(hrow d).length=1:=by cases d <;> rfl
    refine ⟨(by show 0+1≤(hrow d).length; omega),?_⟩
    conv=>whnf
    refine ⟨rfl,(show (0:Int)≤j by omega),(show (j:Int)<((((F.map fun (x:Nat)=>(x:Int))).map irow).length:Int) by omega),fun row hrow => ?_⟩
    obtain ⟨d,hd,rfl⟩:=natsT_get hrow
    obtain rfl:=Option.some.inj (hy.symm.trans hd)
    clear hrow hd
    conv=>whnf
    refine ⟨rfl,rfl,rfl,(by rw [List.length_map]; exact Nat.le_refl _),(show (todo.length+1)*8≤150000000000000 by omega),fun q hq => ?_,?_⟩
    ·cases hq with
     | head=>exact Nat.ne_of_beq_eq_false rfl
     | tail _ h=>cases h
    conv=>whnf
    have hda:=nrow_app (l:=todo) y
    have hlen2:(todo++[y]).length=todo.length+1:=by rw [List.length_append]; rfl
    have hset:(lk.map hrow).set y ((hrow d).take 0++[intsT now]++(hrow d).drop (0+1))=(lk.set y (some now)).map hrow:=by rw [List.map_set]; cases d <;> rfl
    exact ⟨(((lk.set y (some now),todo++[y]),fd.set y true),j+1),[0,1,2,_],[],Sub.mk' rfl ⟨⟨rfl,rfl⟩,⟨rfl,rfl⟩,⟨rfl,rfl⟩,⟨rfl,hlen2.symm⟩,.inl rfl,.inl rfl,.inl rfl,.inl (ti_succ hjt (by omega)),trivial⟩ ⟨⟨rfl,.inl rfl,.inl rfl,.inl rfl,.inl rfl,trivial⟩,⟨rfl,rfl,rfl,hset⟩,⟨rfl,rfl,rfl,brow_set fd y false true⟩,⟨rfl,rfl,rfl,hda⟩,trivial⟩ rfl rfl,⟨hI3,by show k<(todo++[y]).length; omega,hjt,hfd2,hR2⟩,by show F.length - (j+1)<F.length - j; omega⟩
   | true =>
    rw [hcon,cond_true,hlk] at hR2
    conv=>whnf
    refine ⟨rfl,(show (0:Int)≤j by omega),(show (j:Int)<((((F.map fun (x:Nat)=>(x:Int))).map irow).length:Int) by omega),fun row hrow => ?_⟩
    obtain ⟨d,hd,rfl⟩:=natsT_get hrow
    obtain rfl:=Option.some.inj (hy.symm.trans hd)
    clear hrow hd
    conv=>whnf
    refine ⟨rfl,(show (0:Int)≤y by omega),(show (y:Int)<(N:Int) by omega),?_⟩
    conv=>whnf
    refine ⟨rfl,(by show y<(lk.map hrow).length; rw [List.length_map]; omega),fun row hrw => ?_⟩
    obtain ⟨d,hd,rfl⟩:=hrow_get hrw
    obtain rfl:=Option.some.inj (ho.symm.trans hd)
    clear hrw hd
    cases o with
    | none =>
     refine ⟨(show 0<1 by decide),fun t ht => ?_⟩
     cases ht
     conv=>whnf
     refine acall.gen [] [] [.tr (intsT []),.tr (intsT now)] [] _ [] (k_rsame [] now) rfl rfl rfl rfl ⟨.inr ⟨rfl,1,8,rfl⟩,.inl rfl,trivial⟩ trivial rfl rfl fun _ => ?_
     conv=>whnf
     cases he:eqI2 [] now with
     | false =>
      have hRf:R=([],(y:Int)):=by rw [hR2]; show contH _ _ (bif eqI2 [] now then _ else _)=_; rw [he]; rfl
      conv=>whnf
      refine ⟨rfl,(show (0:Int)≤j by omega),(show (j:Int)<((((F.map fun (x:Nat)=>(x:Int))).map irow).length:Int) by omega),fun row hrow => ?_⟩
      obtain ⟨d,hd,rfl⟩:=natsT_get hrow
      obtain rfl:=Option.some.inj (hy.symm.trans hd)
      clear hrow hd
      conv=>whnf
      refine ⟨by kernel_rfl,fun _ => ?_⟩
      conv=>whnf
      exact ⟨⟨.inr ⟨rfl,1,24,by rw [hRf]; rfl⟩,.inl (by rw [hRf]),trivial⟩,trivial⟩
     | true =>
      have hR3:R=contH (OH (N - k)) (k+1) (inH now (F.drop (j+1)) (lk,todo)):=by rw [hR2]; show contH _ _ (bif eqI2 [] now then _ else _)=_; rw [he]; rfl
      conv=>whnf
      exact ⟨(((lk,todo),fd),j+1),[0,1,2,3],[],Sub.mk' rfl ⟨⟨rfl,rfl⟩,⟨rfl,rfl⟩,⟨rfl,rfl⟩,⟨rfl,rfl⟩,.inl rfl,.inl rfl,.inl rfl,.inl (ti_succ hjt (by omega)),trivial⟩ aut rfl rfl,⟨hI,hk,hjt,hfd,hR3⟩,by show F.length - (j+1)<F.length - j; omega⟩
    | some l =>
     refine ⟨(show 0<1 by decide),fun t ht => ?_⟩
     cases ht
     conv=>whnf
     refine acall.pure _ (k_rsame l now) rfl rfl fun _ => ?_
     conv=>whnf
     cases he:eqI2 l now with
     | false =>
      have hRf:R=([],(y:Int)):=by rw [hR2]; show contH _ _ (bif eqI2 l now then _ else _)=_; rw [he]; rfl
      conv=>whnf
      refine ⟨rfl,(show (0:Int)≤j by omega),(show (j:Int)<((((F.map fun (x:Nat)=>(x:Int))).map irow).length:Int) by omega),fun row hrow => ?_⟩
      obtain ⟨d,hd,rfl⟩:=natsT_get hrow
      obtain rfl:=Option.some.inj (hy.symm.trans hd)
      clear hrow hd
      conv=>whnf
      refine ⟨by kernel_rfl,fun _ => ?_⟩
      conv=>whnf
      exact ⟨⟨.inr ⟨rfl,1,24,by rw [hRf]; rfl⟩,.inl (by rw [hRf]),trivial⟩,trivial⟩
     | true =>
      have hR3:R=contH (OH (N - k)) (k+1) (inH now (F.drop (j+1)) (lk,todo)):=by rw [hR2]; show contH _ _ (bif eqI2 l now then _ else _)=_; rw [he]; rfl
      conv=>whnf
      exact ⟨(((lk,todo),fd),j+1),[0,1,2,3],[],Sub.mk' rfl ⟨⟨rfl,rfl⟩,⟨rfl,rfl⟩,⟨rfl,rfl⟩,⟨rfl,rfl⟩,.inl rfl,.inl rfl,.inl rfl,.inl (ti_succ hjt (by omega)),trivial⟩ aut rfl rfl,⟨hI,hk,hjt,hfd,hR3⟩,by show F.length - (j+1)<F.length - j; omega⟩
  ·replace hjt:F.length≤j:=by have:decide ((j:Int)<((((F.map fun (x:Nat)=>(x:Int))).map irow).length:Int))=false:=hjt; have:=of_decide_eq_false this; omega
   rw [List.drop_of_length_le hjt] at hR
   have hR2:R=OH (N - k) (lk,todo) (k+1):=hR
   conv=>whnf
   refine ⟨fun _ => ?_,fun h=>absurd rfl h⟩
   conv=>whnf
   exact ⟨(((lk,todo),fd),k+1),[0,1,2,3],[],Sub.mk' rfl ⟨⟨rfl,rfl⟩,⟨rfl,rfl⟩,⟨rfl,rfl⟩,⟨rfl,rfl⟩,.inl (ti_succ hk (by omega)),trivial⟩ aut rfl rfl,⟨hI,hk,hfd,by rw [hR2,show N+1 - (k+1)=N - k by omega]⟩,by show N+1 - (k+1)<N+1 - k; omega⟩
 ·replace hkt:todo.length≤k:=by have:decide ((k:Int)<(todo.length:Int))=false:=hkt; have:=of_decide_eq_false this; omega
  have hRe:R=(lk,-1):=by
   rw [hO1]
   show (match todo[k]? with | none=>_ | some a=>_)=_
   rw [List.getElem?_eq_none hkt]
  subst hRe
  conv=>whnf
  refine ⟨fun _ => ?_,fun h=>absurd rfl h⟩
  conv=>whnf
  exact ⟨⟨⟨rfl,(by show N≤(lk.map hrow).length; rw [List.length_map]; omega),(by show heT lk=Tr.lst 1 24 ((lk.map hrow).take N); rw [List.take_of_length_le (by rw [List.length_map]; omega)])⟩,.inl rfl,trivial⟩,trivial⟩
end Go.Proofs.YthboippafkcoiaaGreatDoor.am
