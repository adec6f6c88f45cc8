/- The layings of the library's contracts (written by the kit's lay-shelf and lay-plain). Contracts of Go's library, and of reading and writing words, for the abstract machine. Contracts of cfg: the texts of begins' nodes. Plain: the dominators and depths of begins' graph. Contracts of chapter 06's law: begins. Contracts of the reference: Follows, CopyGraph. Plain: the ways on as the reference tells them. Contracts of the reference: Whole, without, Reached. Contracts of the reference: Ahead, dominates. Contracts of the reference: dominates, Dominators. Contracts of the reference: Dominators; of cfg where a graph is not whole. Contract of the reference: Depth. The walk of CfgTree. The walk of CfgTree, for every graph. The law CfgWalks. Contract of the reference: held. -/
import Derived.Shelf.Strconv.Itoa0
import Derived.Shelf.Strconv.Itoa1
import Derived.Shelf.LaysM
import Derived.Shelf.Strconv.Itoa2
import Derived.Shelf.Strconv.Itoa3
import Derived.Test.YthboippafkcoiaaGreatDoorProg
import Derived.Test.YthboippafkcoiaaGreatDoorP7
import Derived.Test.YthboippafkcoiaaGreatDoorP9
import Derived.Lib.ItoaLen
import Derived.Lib.AppendIntMem
import Derived.Test.YthboippafkcoiaaGreatDoorP5
set_option linter.all false

set_option linter.all false
namespace Go.Proofs
open Go.Shelf
def Tryz.laysM171_ren : Go.Shelf.Ren := ⟨fun | 171 => 74 | 243 => 119 | 246 => 156 | 283 => 171 | 284 => 172 | 285 => 173 | 286 => 174 | 129 => 182 | 317 => 181 | 318 => 183 | 319 => 184 | 320 => 185 | 337 => 195 | 338 => 196 | n => n, fun | 3 => 3 | 9 => 9 | 2 => 2 | 4 => 4 | 171 => 205 | 0 => 0 | 53 => 169 | 37 => 126 | 5 => 5 | 173 => 208 | 212 => 219 | 51 => 220 | 20 => 20 | 213 => 221 | 46 => 191 | 232 => 237 | 233 => 238 | n => n, fun | 17 => 1 | 18 => 2 | 19 => 3 | n => n⟩
theorem Tryz.laysM171 : Go.Proofs.LaysM.n171 Tryz.prog Tryz.laysM171_ren := {
  mixed := by kernel_rfl
  f129 := Tryz.func182.trans (congrArg some (by kernel_rfl))
  f171 := Tryz.func74.trans (congrArg some (by kernel_rfl))
  f243 := Tryz.func119.trans (congrArg some (by kernel_rfl))
  f246 := Tryz.func156.trans (congrArg some (by kernel_rfl))
  f283 := Tryz.func171.trans (congrArg some (by kernel_rfl))
  f284 := Tryz.func172.trans (congrArg some (by kernel_rfl))
  f285 := Tryz.func173.trans (congrArg some (by kernel_rfl))
  f286 := Tryz.func174.trans (congrArg some (by kernel_rfl))
  f317 := Tryz.func181.trans (congrArg some (by kernel_rfl))
  f318 := Tryz.func183.trans (congrArg some (by kernel_rfl))
  f319 := Tryz.func184.trans (congrArg some (by kernel_rfl))
  f320 := Tryz.func185.trans (congrArg some (by kernel_rfl))
  f337 := Tryz.func195.trans (congrArg some (by kernel_rfl))
  f338 := Tryz.func196.trans (congrArg some (by kernel_rfl))
  t0 := Tryz.underlying0
  a0 := Tryz.isAgg0
  z0 := Tryz.sizeOf0
  v0 := Tryz.zeroValue0
  t2 := Tryz.underlying2
  a2 := Tryz.isAgg2
  z2 := Tryz.sizeOf2
  v2 := Tryz.zeroValue2
  t3 := Tryz.underlying3
  a3 := Tryz.isAgg3
  z3 := Tryz.sizeOf3
  v3 := Tryz.zeroValue3
  t4 := Tryz.underlying4
  a4 := Tryz.isAgg4
  z4 := Tryz.sizeOf4
  v4 := Tryz.zeroValue4
  t5 := Tryz.underlying5
  a5 := Tryz.isAgg5
  z5 := Tryz.sizeOf5
  v5 := Tryz.zeroValue5
  t9 := Tryz.underlying9
  a9 := Tryz.isAgg9
  z9 := Tryz.sizeOf9
  v9 := Tryz.zeroValue9
  t20 := Tryz.underlying20
  a20 := Tryz.isAgg20
  z20 := Tryz.sizeOf20
  v20 := Tryz.zeroValue20
  t37 := Tryz.underlying126
  a37 := Tryz.isAgg126
  z37 := Tryz.sizeOf126
  v37 := Tryz.zeroValue126
  t46 := Tryz.underlying191
  a46 := Tryz.isAgg191
  z46 := Tryz.sizeOf191
  v46 := Tryz.zeroValue191
  t51 := Tryz.underlying220
  a51 := Tryz.isAgg220
  z51 := Tryz.sizeOf220
  v51 := Tryz.zeroValue220
  t53 := Tryz.underlying169
  a53 := Tryz.isAgg169
  z53 := Tryz.sizeOf169
  v53 := Tryz.zeroValue169
  t171 := Tryz.underlying205
  a171 := Tryz.isAgg205
  z171 := Tryz.sizeOf205
  v171 := Tryz.zeroValue205
  t173 := Tryz.underlying208
  a173 := Tryz.isAgg208
  z173 := Tryz.sizeOf208
  v173 := Tryz.zeroValue208
  t212 := Tryz.underlying219
  a212 := Tryz.isAgg219
  z212 := Tryz.sizeOf219
  v212 := Tryz.zeroValue219
  t213 := Tryz.underlying221
  a213 := Tryz.isAgg221
  z213 := Tryz.sizeOf221
  t232 := Tryz.underlying237
  a232 := Tryz.isAgg237
  z232 := Tryz.sizeOf237
  v232 := Tryz.zeroValue237
  t233 := Tryz.underlying238
  a233 := Tryz.isAgg238
  z233 := Tryz.sizeOf238
  v233 := Tryz.zeroValue238
  g17 := by kernel_rfl
  g18 := by kernel_rfl
  g19 := by kernel_rfl
  i0 := by kernel_rfl
  i2 := by kernel_rfl
  i3 := by kernel_rfl
  i4 := by kernel_rfl
  i5 := by kernel_rfl
  i9 := by kernel_rfl
  i20 := by kernel_rfl
  i37 := by kernel_rfl
  i46 := by kernel_rfl
  i51 := by kernel_rfl
  i53 := by kernel_rfl
  i171 := by kernel_rfl
  i173 := by kernel_rfl
  i212 := by kernel_rfl
  i232 := by kernel_rfl
  i233 := by kernel_rfl
  m17 := by kernel_rfl
  m18 := by kernel_rfl
  m19 := by kernel_rfl }

end Go.Proofs

namespace Go.Proofs.YthboippafkcoiaaGreatDoor.am
open Go Go.Proofs Go.RowKit

/-- a contract out of a law on calls: a function that only makes blocks of its own -/
theorem Ctr.ofCalls {f : Nat} {args : List AV} {a : AV} (hc : Callable Tryz.prog f) (h : ∀ (g : Gh) (w : World) (vs : Array Value), MSt g w (ofL []) → vs.size = args.length → (∀ (i : Nat) (v : Value) (a : AV), vs[i]? = some v → args[i]? = some a → Rep g w v a) →
    Calls Tryz.prog f vs w fun e w' => ∃ v, e = .returned v ∧ Below w.heap.size w w' ∧ (Grow g w g w' → MSt g w' (ofLO []) → Rep g w' v a)) : K f args [] (.ret a) [] := by
  refine ⟨hc, fun g w vs hun hm hsz hv => (h g w vs hm hsz hv).mono ?_⟩
  rintro e w' ⟨v, rfl, hb, hR⟩
  have hG : Grow g w g w' := ⟨hb.os, hb.tape, hb.output, hb.size, fun b hk => hb.block b hk.1, fun b hk => hb.block b (hm.xlt b hk), rfl, fun _ h => h, fun _ _ h => .inl h, fun k b e => .inl ⟨k, e⟩⟩
  have hM : MSt g w' (ofLO []) := ⟨fun h b e => (by simp [ofLO] at e), hm.inj, fun k b e => Nat.lt_of_lt_of_le (hm.lt k b e) hb.size, fun b hk => Nat.lt_of_lt_of_le (hm.xlt b hk) hb.size, hm.xl, hm.gl.grow hG⟩
  exact ⟨g, hG, hM, fun k _ l hl => (by have := hun k (Nat.zero_le _); rw [this] at hl; cases hl), hR hG hM⟩
theorem one_arg {vs : Array Value} (h : vs.size = 1) : ∃ v, vs = #[v] := by
  obtain ⟨l⟩ := vs
  match l, h with
  | [v], _ => exact ⟨v, rfl⟩
/-! the table of the powers of ten -/
theorem powTab {g : Gh} {w : World} (h : GL g w) {name : String} (hn : Tryz.prog.globalNamed name = some 1) : Lib.TabIs Tryz.prog w name .u64 Lib.pow10Tab := by
  obtain ⟨_, t, fz, e⟩ := h _ _ (.inl ⟨rfl, rfl⟩)
  unfold Lib.TabIs World.var?
  rw [hn, Option.bind_some, e]
  rfl

def prnB (n : Int) : ByteArray := ⟨(ws.prn n).toArray⟩
theorem decDigits_dig (u : Nat) : Lib.decDigits u = ws.dig u := by
  induction u using Nat.strongRecOn with
  | _ u ih =>
    by_cases h : u < 10
    · rw [Lib.decDigits, dif_pos h, ws.dig_small h]; rfl
    · rw [Lib.decDigits, dif_neg h, ws.dig_big h, ih (u / 10) (by omega)]; rfl
theorem itoa_prn (n : Int) : Lib.itoa n = ws.prn n := by
  unfold Lib.itoa ws.prn
  split
  · rw [decDigits_dig, show n.natAbs = (-n).toNat by omega]
  · rw [decDigits_dig]
theorem prn_len {n : Int} (h1 : -9223372036854775808 ≤ n) (h2 : n ≤ 9223372036854775807) : (prnB n).size ≤ 21 := by
  show (ws.prn n).toArray.size ≤ 21
  rw [List.size_toArray, ← itoa_prn]
  exact Lib.itoa_length_le n h1 h2
theorem k_itoa (n : Int) : K 74 [.tr (ti n)] [] (.ret (.tr (ts (prnB n)))) [] := by
  refine Ctr.ofCalls (fun _ _ => by kernel_rfl) fun g w vs hm hsz hv => ?_
  obtain ⟨v, rfl⟩ := one_arg hsz
  obtain ⟨rfl, h1, h2⟩ := val_inv (hv 0 v (.tr (ti n)) rfl rfl)
  refine (Any.strconv_Itoa Tryz.laysM171 n h1 h2 w (powTab hm.gl (by kernel_rfl))).mono ?_
  rintro e w' ⟨rfl, k, os, rfl⟩
  rw [itoa_prn]
  exact ⟨_, rfl, Lib.below_grow _ _ (Nat.le_refl _) _ _, fun _ _ => .tr (.v (Nat.le_trans (prn_len h1 h2) (by omega)))⟩
theorem k_print (n : Int) : K 175 [.tr (ti n)] [] (.ret (.tr (ts (prnB n)))) [] := by
  refine Ctr.ofCalls (fun _ _ => by kernel_rfl) fun g w vs hm hsz hv => ?_
  obtain ⟨v, rfl⟩ := one_arg hsz
  obtain ⟨rfl, h1, h2⟩ := val_inv (hv 0 v (.tr (ti n)) rfl rfl)
  refine (ws.print_any n w h1 h2).mono ?_
  rintro e w' ⟨rfl, hb⟩
  exact ⟨_, rfl, hb, fun _ _ => .tr (.v (Nat.le_trans (prn_len h1 h2) (by omega)))⟩
end Go.Proofs.YthboippafkcoiaaGreatDoor.am

namespace Go.Proofs.YthboippafkcoiaaGreatDoor.am
open Go Go.Proofs
set_option linter.all false

theorem prn_0 : prnB 0 = ⟨#[48]⟩ := by unfold prnB ws.prn; rw [if_neg (by decide), show (0 : Int).toNat = 0 from rfl, ws.dig_small (by decide)]; rfl
theorem prn_1 : prnB 1 = ⟨#[49]⟩ := by unfold prnB ws.prn; rw [if_neg (by decide), show (1 : Int).toNat = 1 from rfl, ws.dig_small (by decide)]; rfl
theorem prn_2 : prnB 2 = ⟨#[50]⟩ := by unfold prnB ws.prn; rw [if_neg (by decide), show (2 : Int).toNat = 2 from rfl, ws.dig_small (by decide)]; rfl
theorem k_itoa0 : K 74 [.tr (ti 0)] [] (.ret (.tr (ts ⟨#[48]⟩))) [] := by have := k_itoa 0; rwa [prn_0] at this
theorem k_itoa1 : K 74 [.tr (ti 1)] [] (.ret (.tr (ts ⟨#[49]⟩))) [] := by have := k_itoa 1; rwa [prn_1] at this
theorem k_itoa2 : K 74 [.tr (ti 2)] [] (.ret (.tr (ts ⟨#[50]⟩))) [] := by have := k_itoa 2; rwa [prn_2] at this
set_option maxRecDepth 100000 in
theorem k_slot0T : K 158 [.tr (ti 0)] [] (.ret (.tr (ts ⟨#[115, 48]⟩))) [] := by
  refine Ctr.of hT hmix Tryz.func158 rfl (fun _ _ => by kernel_rfl) rfl fun hok => ?_
  clear hok
  conv => whnf
  refine acall.pure _ (k_itoa0) rfl rfl fun _ => ?_
  conv => whnf
  refine ⟨by decide, ?_⟩
  conv => whnf
  exact ⟨.inl (congrArg ts (by kernel_rfl)), trivial⟩
set_option maxRecDepth 100000 in
theorem k_valS0 : K 159 [valA true 0 0] [] (.ret (.tr (ts ⟨#[115, 48]⟩))) [] := by
  refine Ctr.of hT hmix Tryz.func159 rfl (fun _ _ => by kernel_rfl) rfl fun hok => ?_
  clear hok
  conv => whnf
  refine acall.pure _ (k_slot0T) rfl rfl fun _ => ?_
  conv => whnf
  exact ⟨.inl rfl, trivial⟩
def u0 : Un := ⟨p0.shared, [], [g0]⟩
set_option maxRecDepth 100000 in
theorem k_thing0 : K 157 [.ptr 0 0, .ptr 1 0] [.cells 75 (nd0a.cells.map .tr), .cells 29 (u0.cells.map .tr)] (.ret (.tr (ts xS))) [some (.cells 75 (nd0a.cells.map .tr)), some (.cells 29 (u0.cells.map .tr))] := by
  refine Ctr.of hT hmix Tryz.func157 rfl (fun _ _ => by kernel_rfl) rfl fun hok => ?_
  clear hok
  conv => whnf
  refine ⟨rfl, by decide, by decide, fun row hrow => ?_⟩
  obtain rfl : Decl.cells ⟨xS, 0, 0⟩ = row := Option.some.inj hrow
  clear hrow
  conv => whnf
  exact ⟨.inl rfl, ⟨rfl, .inl rfl, .inl rfl, .inl rfl, .inl rfl, .inl rfl, .inl rfl, .inl rfl, .inl rfl, .inl rfl, .inl rfl, .inl rfl, .inl rfl, .inl rfl, trivial⟩, ⟨rfl, .inl rfl, .inl rfl, .inl rfl, trivial⟩, trivial⟩
set_option maxRecDepth 100000 in
theorem k_does2 : K 120 [u0.av, en0.av] [] (.ret (.tr (ts ⟨#[101, 110, 100]⟩))) [] := by
  refine Ctr.of hT hmix Tryz.func120 rfl (fun _ _ => by kernel_rfl) rfl fun hok => ?_
  clear hok
  conv => whnf
  exact ⟨.inl rfl, trivial⟩
set_option maxRecDepth 100000 in
theorem k_does1 : K 120 [u0.av, br0e.av] [] (.ret (.tr (ts ⟨#[98, 114, 97, 110, 99, 104, 32, 115, 48]⟩))) [] := by
  refine Ctr.of hT hmix Tryz.func120 rfl (fun _ _ => by kernel_rfl) rfl fun hok => ?_
  clear hok
  conv => whnf
  refine acall.pure _ (k_valS0) rfl rfl fun _ => ?_
  conv => whnf
  refine ⟨by decide, ?_⟩
  conv => whnf
  exact ⟨.inl (congrArg ts (by kernel_rfl)), trivial⟩
set_option maxRecDepth 100000 in
theorem k_does0 : K 120 [u0.av, nd0a.av] [] (.ret (.tr (ts ⟨#[115, 48, 32, 61, 32, 120]⟩))) [] := by
  refine Ctr.of hT hmix Tryz.func120 rfl (fun _ _ => by kernel_rfl) rfl fun hok => ?_
  clear hok
  conv => whnf
  refine acall.pure _ (k_slot0T) rfl rfl fun _ => ?_
  conv => whnf
  refine ⟨by decide, ?_⟩
  conv => whnf
  refine acall.au [1, 0] [] (k_thing0) ?_
  intro _
  conv => whnf
  refine ⟨by decide, ?_⟩
  conv => whnf
  exact ⟨.inl (congrArg ts (by kernel_rfl)), trivial⟩
set_option maxRecDepth 100000 in
theorem k_text0 : K 75 [u0.av, nd0a.av] [] (.ret (.tr (ts ⟨#[115, 48, 32, 61, 32, 120, 32, 45, 62, 32, 49]⟩))) [] := by
  refine Ctr.of hT hmix Tryz.func75 rfl (fun _ _ => by kernel_rfl) rfl fun hok => ?_
  clear hok
  conv => whnf
  refine acall.pure _ (k_does0) rfl rfl fun _ => ?_
  conv => whnf
  refine acall.pure _ (k_itoa1) rfl rfl fun _ => ?_
  conv => whnf
  refine ⟨by decide, ?_⟩
  conv => whnf
  refine ⟨by decide, ?_⟩
  conv => whnf
  exact ⟨.inl (congrArg ts (by kernel_rfl)), trivial⟩
set_option maxRecDepth 100000 in
theorem k_text1 : K 75 [u0.av, br0e.av] [] (.ret (.tr (ts ⟨#[98, 114, 97, 110, 99, 104, 32, 115, 48, 32, 45, 62, 32, 48, 32, 50]⟩))) [] := by
  refine Ctr.of hT hmix Tryz.func75 rfl (fun _ _ => by kernel_rfl) rfl fun hok => ?_
  clear hok
  conv => whnf
  refine acall.pure _ (k_does1) rfl rfl fun _ => ?_
  conv => whnf
  refine acall.pure _ (k_itoa0) rfl rfl fun _ => ?_
  conv => whnf
  refine ⟨by decide, ?_⟩
  conv => whnf
  refine ⟨by decide, ?_⟩
  conv => whnf
  refine acall.pure _ (k_itoa2) rfl rfl fun _ => ?_
  conv => whnf
  refine ⟨by decide, ?_⟩
  conv => whnf
  refine ⟨by decide, ?_⟩
  conv => whnf
  exact ⟨.inl (congrArg ts (by kernel_rfl)), trivial⟩
set_option maxRecDepth 100000 in
theorem k_text2 : K 75 [u0.av, en0.av] [] (.ret (.tr (ts ⟨#[101, 110, 100]⟩))) [] := by
  refine Ctr.of hT hmix Tryz.func75 rfl (fun _ _ => by kernel_rfl) rfl fun hok => ?_
  clear hok
  conv => whnf
  refine acall.pure _ (k_does2) rfl rfl fun _ => ?_
  conv => whnf
  exact ⟨.inl (congrArg ts (by kernel_rfl)), trivial⟩
def prP : Nat → List UInt8
  | 0 => [116, 104, 114, 101, 97, 100, 32, 97, 10]
  | 1 => [116, 104, 114, 101, 97, 100, 32, 97, 10, 48, 32, 115, 48, 32, 61, 32, 120, 32, 45, 62, 32, 49, 10]
  | 2 => [116, 104, 114, 101, 97, 100, 32, 97, 10, 48, 32, 115, 48, 32, 61, 32, 120, 32, 45, 62, 32, 49, 10, 49, 32, 98, 114, 97, 110, 99, 104, 32, 115, 48, 32, 45, 62, 32, 48, 32, 50, 10]
  | _ => [116, 104, 114, 101, 97, 100, 32, 97, 10, 48, 32, 115, 48, 32, 61, 32, 120, 32, 45, 62, 32, 49, 10, 49, 32, 98, 114, 97, 110, 99, 104, 32, 115, 48, 32, 45, 62, 32, 48, 32, 50, 10, 50, 32, 101, 110, 100, 10]
abbrev prB (l : List UInt8) : Blk := .vec 5 1 1 (brows l)
set_option maxRecDepth 100000 in
theorem k_print0 : K 33 [u0.av] [] (.ret (.tup [.tr (ts ⟨#[116, 104, 114, 101, 97, 100, 32, 97, 10, 48, 32, 115, 48, 32, 61, 32, 120, 32, 45, 62, 32, 49, 10, 49, 32, 98, 114, 97, 110, 99, 104, 32, 115, 48, 32, 45, 62, 32, 48, 32, 50, 10, 50, 32, 101, 110, 100, 10]⟩), .tr (ti 0)])) [] := by
  have hch := k_check u0
  rw [show (checkU u0).1 = 0 from by kernel_rfl, show (checkU u0).2.1 = 0 from by kernel_rfl, show (checkU u0).2.2 = 0 from by kernel_rfl] at hch
  refine Ctr.of hT hmix Tryz.func33 rfl (fun _ _ => by kernel_rfl) rfl fun hok => ?_
  clear hok
  conv => whnf
  refine acall.pure _ (hch) rfl rfl fun _ => ?_
  conv => whnf
  refine .inl ⟨2, ?_⟩
  conv => whnf
  refine ⟨rfl, Int.le_refl _, (by decide), fun row hrow => ?_⟩
  obtain rfl : Gr.cells g0 = row := Option.some.inj hrow
  clear hrow
  conv => whnf
  refine ⟨by decide, ?_⟩
  conv => whnf
  refine ⟨by decide, ?_⟩
  conv => whnf
  refine ⟨by decide, ?_⟩
  conv => whnf
  refine LoopL.by (fun i : Nat => ⟨[(1, .ptr 0 0), (7, .sl 1 (prP i).length), (22, .tr (graphsT [g0])), (23, .tr (ti 1)), (24, .tr (ti 0)), (35, .tr (nodesT g0.nodes)), (36, .tr (ti 3)), (37, .tr (ti (i : Nat)))], [(0, .cells 29 (u0.cells.map .tr)), (1, prB (prP i))], 10⟩) (fun i => i ≤ 3) (fun i => 3 - i) 0 [_, _] []
    (Sub.mk' rfl ⟨⟨rfl, rfl⟩, ⟨rfl, rfl⟩, .inl rfl, .inl rfl, .inl rfl, .inl rfl, .inl rfl, .inl rfl, trivial⟩ ⟨⟨rfl, .inl rfl, .inl rfl, .inl rfl, trivial⟩, ⟨rfl, rfl, rfl, rfl⟩, trivial⟩ rfl rfl) (Nat.zero_le _) ?_
  rintro i hi -
  have hi4 : i = 0 ∨ i = 1 ∨ i = 2 ∨ i = 3 := by omega
  clear hi
  rcases hi4 with rfl | rfl | rfl | rfl
  · conv => whnf
    refine ⟨rfl, by decide, by decide, fun row hrow => ?_⟩
    obtain rfl : Nd.cells nd0a = row := Option.some.inj hrow
    clear hrow
    conv => whnf
    refine acall.pure _ (k_itoa0) rfl rfl ?_
    conv => whnf
    refine ⟨by decide, ?_⟩
    conv => whnf
    refine acall.pure _ (k_text0) rfl rfl ?_
    conv => whnf
    refine ⟨by decide, ?_⟩
    conv => whnf
    refine ⟨by decide, ?_⟩
    conv => whnf
    refine ⟨rfl, rfl, rfl, by decide, by decide, ?_⟩
    conv => whnf
    refine ⟨by kernel_rfl, fun _ => ?_⟩
    conv => whnf
    exact ⟨1, [0, _], [], Sub.mk' rfl ⟨⟨rfl, rfl⟩, ⟨rfl, by kernel_rfl⟩, .inl rfl, .inl rfl, .inl rfl, .inl rfl, .inl rfl, .inl rfl, trivial⟩ ⟨⟨rfl, .inl rfl, .inl rfl, .inl rfl, trivial⟩, ⟨rfl, rfl, rfl, by kernel_rfl⟩, trivial⟩ rfl rfl, by decide, by decide⟩
  · conv => whnf
    refine ⟨rfl, by decide, by decide, fun row hrow => ?_⟩
    obtain rfl : Nd.cells br0e = row := Option.some.inj hrow
    clear hrow
    conv => whnf
    refine acall.pure _ (k_itoa1) rfl rfl ?_
    conv => whnf
    refine ⟨by decide, ?_⟩
    conv => whnf
    refine acall.pure _ (k_text1) rfl rfl ?_
    conv => whnf
    refine ⟨by decide, ?_⟩
    conv => whnf
    refine ⟨by decide, ?_⟩
    conv => whnf
    refine ⟨rfl, rfl, rfl, by decide, by decide, ?_⟩
    conv => whnf
    refine ⟨by kernel_rfl, fun _ => ?_⟩
    conv => whnf
    exact ⟨2, [0, _], [], Sub.mk' rfl ⟨⟨rfl, rfl⟩, ⟨rfl, by kernel_rfl⟩, .inl rfl, .inl rfl, .inl rfl, .inl rfl, .inl rfl, .inl rfl, trivial⟩ ⟨⟨rfl, .inl rfl, .inl rfl, .inl rfl, trivial⟩, ⟨rfl, rfl, rfl, by kernel_rfl⟩, trivial⟩ rfl rfl, by decide, by decide⟩
  · conv => whnf
    refine ⟨rfl, by decide, by decide, fun row hrow => ?_⟩
    obtain rfl : Nd.cells en0 = row := Option.some.inj hrow
    clear hrow
    conv => whnf
    refine acall.pure _ (k_itoa2) rfl rfl ?_
    conv => whnf
    refine ⟨by decide, ?_⟩
    conv => whnf
    refine acall.pure _ (k_text2) rfl rfl ?_
    conv => whnf
    refine ⟨by decide, ?_⟩
    conv => whnf
    refine ⟨by decide, ?_⟩
    conv => whnf
    refine ⟨rfl, rfl, rfl, by decide, by decide, ?_⟩
    conv => whnf
    refine ⟨by kernel_rfl, fun _ => ?_⟩
    conv => whnf
    exact ⟨3, [0, _], [], Sub.mk' rfl ⟨⟨rfl, rfl⟩, ⟨rfl, by kernel_rfl⟩, .inl rfl, .inl rfl, .inl rfl, .inl rfl, .inl rfl, .inl rfl, trivial⟩ ⟨⟨rfl, .inl rfl, .inl rfl, .inl rfl, trivial⟩, ⟨rfl, rfl, rfl, by kernel_rfl⟩, trivial⟩ rfl rfl, by decide, by decide⟩
  · conv => whnf
    refine ⟨fun _ => ?_, fun h => absurd rfl h⟩
    conv => whnf
    refine ⟨fun _ => ?_, fun h => absurd rfl h⟩
    conv => whnf
    refine ⟨prP 3, by kernel_rfl, by decide, ?_⟩
    conv => whnf
    exact ⟨⟨.inl (congrArg ts (by kernel_rfl)), .inl rfl, trivial⟩, trivial⟩
end Go.Proofs.YthboippafkcoiaaGreatDoor.am

namespace Go.Proofs.YthboippafkcoiaaGreatDoor.am
open Go Go.Proofs
set_option linter.all false

theorem f0_0 : fol g0 0 = [1] := by kernel_rfl
theorem f0_1 : fol g0 1 = [0, 2] := by kernel_rfl
theorem f0_2 : fol g0 2 = [] := by kernel_rfl
theorem f0_n (n : Nat) : fol g0 (n + 3) = [] := by
  unfold fol
  rw [List.getElem?_eq_none (show g0.nodes.length ≤ n + 3 from Nat.le_add_left 3 n)]
theorem f0_lt : ∀ a, ∀ b ∈ fol g0 a, b < 3
  | 0, b, h => by rw [f0_0] at h; simp at h; omega
  | 1, b, h => by rw [f0_1] at h; simp at h; omega
  | 2, b, h => by rw [f0_2] at h; cases h
  | n + 3, b, h => by rw [f0_n] at h; cases h
theorem r0_0 {c : Int} : Rch (fol g0) c 0 := .zero
theorem r0_1 {c : Int} (h : c ≠ 0) : Rch (fol g0) c 1 := .step .zero (fun w => h w.symm) (by rw [f0_0]; simp)
theorem r0_2 : Rch (fol g0) (-1) 2 := .step (r0_1 (by decide)) (by decide) (by rw [f0_1]; simp)
theorem d01 : Dm (fol g0) 0 1 := dm_zero (r0_1 (by decide))
theorem d12 : Dm (fol g0) 1 2 := by
  refine ⟨r0_1 (by decide), r0_2, .inr fun h => ?_⟩
  have : ∀ y, Rch (fol g0) ((1 : Nat) : Int) y → y = 0 ∨ y = 1 := fun y hy => by
    induction hy with
    | zero => exact .inl rfl
    | step _ h1 h2 ih =>
      rcases ih with rfl | rfl
      · rw [f0_0] at h2; simp at h2; exact .inr h2
      · exact absurd rfl h1
  rcases this 2 h with w | w <;> cases w
theorem nd21 : ¬ Dm (fol g0) 2 1 := fun h => h.2.2.elim (fun w => by cases w) fun w => w (r0_1 (by decide))
theorem nd10 : ¬ Dm (fol g0) 1 0 := not_dm_zero (by decide)
theorem lt0 {c x : Nat} (h : Dm (fol g0) c x) : c = 0 ∨ c = 1 ∨ c = 2 := by
  have := h.1.lt (N := 3) (by decide) f0_lt
  omega
theorem idom0 : idomL (fol g0) 3 = [-1, 0, 1] := by
  have e := fun x v h => idomI_eq (fol := fol g0) (N := 3) (by decide) f0_lt (x := x) (v := v) h
  show [idomI (fol g0) 0, idomI (fol g0) 1, idomI (fol g0) 2] = _
  rw [e 0 (-1) (.inl ⟨rfl, .inl rfl⟩), e 1 0 (.inr ⟨by decide, 0, rfl, by decide, d01, fun c hc hd => ?_⟩), e 2 1 (.inr ⟨by decide, 1, rfl, by decide, d12, fun c hc hd => ?_⟩)]
  · rcases lt0 hd with rfl | rfl | rfl
    · exact d01
    · exact dm_refl (r0_1 (by decide))
    · exact absurd rfl hc
  · rcases lt0 hd with rfl | rfl | rfl
    · exact dm_refl r0_0
    · exact absurd rfl hc
    · exact absurd hd nd21
theorem in00 : InLoop (fol g0) 0 0 := ⟨⟨1, d01, by rw [f0_1]; simp⟩, .inl rfl⟩
theorem in01 : InLoop (fol g0) 0 1 := ⟨⟨1, d01, by rw [f0_1]; simp⟩, .inr (.back d01 (by rw [f0_1]; simp) (by decide))⟩
theorem nin02 : ¬ InLoop (fol g0) 0 2 := fun h => h.2.elim (fun w => by cases w) fun w => by
  cases w with
  | back _ h2 _ => rw [f0_2] at h2; cases h2
  | pre _ h2 _ _ => rw [f0_2] at h2; cases h2
theorem nback1 : ¬ HasBack (fol g0) 1 := fun ⟨a, h1, h2⟩ => by
  match a, h1, h2 with
  | 0, h1, _ => exact nd10 h1
  | 1, _, h2 => rw [f0_1] at h2; simp at h2
  | 2, _, h2 => rw [f0_2] at h2; cases h2
  | n + 3, _, h2 => rw [f0_n] at h2; cases h2
theorem nback2 : ¬ HasBack (fol g0) 2 := fun ⟨a, h1, h2⟩ => by
  match a, h1, h2 with
  | 0, _, h2 => rw [f0_0] at h2; simp at h2
  | 1, h1, _ => exact nd21 h1
  | 2, _, h2 => rw [f0_2] at h2; cases h2
  | n + 3, _, h2 => rw [f0_n] at h2; cases h2
theorem depth0 : depthL (fol g0) 3 = [1, 1, 0] := by
  have z : ∀ n, depthN (fol g0) 0 n = 0 := fun n => by simp [depthN]
  have s : ∀ n, depthN (fol g0) 3 n = depthN (fol g0) 1 n := fun n => by
    rw [depthN_succ, depthN_succ, if_neg fun w => nback1 w.1, if_neg fun w => nback2 w.1]; rfl
  show [depthN (fol g0) 3 0, depthN (fol g0) 3 1, depthN (fol g0) 3 2] = _
  rw [s, s, s, depthN_succ, depthN_succ, depthN_succ, z, z, z, if_pos in00, if_pos in01, if_neg nin02]
end Go.Proofs.YthboippafkcoiaaGreatDoor.am

namespace Go.Proofs.YthboippafkcoiaaGreatDoor.am
open Go Go.Proofs
set_option linter.all false

set_option maxRecDepth 100000 in
theorem k_rsame (l l' : List Int) : K 60 [.tr (intsT l), .tr (intsT l')] [] (.ret (.tr (tb (eqI2 l l')))) [] := by
  have h1 : (l.map irow).length = l.length := List.length_map ..
  have h2 : (l'.map irow).length = l'.length := List.length_map ..
  refine Ctr.of hT hmix Tryz.func60 rfl (fun _ _ => by kernel_rfl) rfl fun hok => ?_
  obtain ⟨_, hl1, _⟩ := (hok.slot 0 rfl).tr.lst
  rw [List.length_map] at hl1
  clear hok
  conv => whnf
  cases hc : (((l.map irow).length : Int) != ((l'.map irow).length : Int)) with
  | true =>
    conv => whnf
    exact ⟨.inl (congrArg tb (by rw [h1, h2] at hc; unfold eqI2; rw [hc]; rfl)), trivial⟩
  | false =>
  have hE : eqI2 l l' = eqI l l' := by rw [h1, h2] at hc; unfold eqI2; rw [hc]; rfl
  have hll : l.length = l'.length := by
    rw [h1, h2] at hc
    refine Classical.byContradiction fun w => ?_
    rw [bne_iff_ne.2 (fun e => w (by omega))] at hc
    cases hc
  rw [hE]
  generalize hR : eqI l l' = R
  clear hE hc
  conv => whnf
  refine LoopL.by (fun i : Nat => ⟨[(0, .tr (intsT l)), (1, .tr (intsT l')), (5, .tr (ti i))], [], 10⟩) (fun i => i ≤ l.length ∧ R = eqI (l.drop i) (l'.drop i)) (fun i => l.length - i) 0 [] []
    (Sub.mk' rfl ⟨.inl rfl, .inl rfl, .inl rfl, trivial⟩ trivial rfl rfl) ⟨Nat.zero_le _, hR.symm⟩ ?_
  clear hR
  rintro i ⟨hi, hR⟩ -
  conv => whnf
  refine csplit (fun hit => ?_) (fun hit => ?_)
  · have hit : i < l.length := by have : decide ((i : Int) < ((l.map irow).length : Int)) = true := hit; have := of_decide_eq_true this; omega
    obtain ⟨a, ha⟩ : ∃ a, l[i]? = some a := ⟨_, List.getElem?_eq_getElem hit⟩
    obtain ⟨b, hb⟩ : ∃ b, l'[i]? = some b := ⟨_, List.getElem?_eq_getElem (by omega)⟩
    rw [drop_cons ha, drop_cons hb] at hR
    conv => whnf
    refine ⟨rfl, (show (0 : Int) ≤ i by omega), (show (i : Int) < ((l.map irow).length : Int) by omega), fun row hrow => ?_⟩
    obtain ⟨d, hd, rfl⟩ := int_get hrow
    obtain rfl := Option.some.inj (ha.symm.trans hd)
    clear hrow hd
    conv => whnf
    refine ⟨rfl, (show (0 : Int) ≤ i by omega), (show (i : Int) < ((l'.map irow).length : Int) by omega), fun row hrow => ?_⟩
    obtain ⟨d, hd, rfl⟩ := int_get hrow
    obtain rfl := Option.some.inj (hb.symm.trans hd)
    clear hrow hd
    conv => whnf
    refine ⟨by kernel_rfl, fun _ => ?_⟩
    conv => whnf
    cases hab : (a != b) with
    | true =>
      conv => whnf
      exact ⟨.inl (by rw [hR]; show tb false = tb (bif a != b then false else _); rw [hab]; rfl), trivial⟩
    | false =>
      replace hR : R = eqI (l.drop (i + 1)) (l'.drop (i + 1)) := by rw [hR]; show (bif a != b then false else _) = _; rw [hab]; rfl
      conv => whnf
      exact ⟨i + 1, [], [], Sub.mk' rfl ⟨.inl rfl, .inl rfl, .inl (ti_succ hit (by omega)), trivial⟩ trivial rfl rfl, ⟨hit, hR⟩, by show l.length - (i + 1) < l.length - i; omega⟩
  have hit : l.length ≤ i := by have : decide ((i : Int) < ((l.map irow).length : Int)) = false := hit; have := of_decide_eq_false this; omega
  rw [List.drop_of_length_le hit, List.drop_of_length_le (by omega)] at hR
  conv => whnf
  refine ⟨fun _ => ?_, fun h => absurd rfl h⟩
  conv => whnf
  exact ⟨.inl (by rw [hR]; rfl), trivial⟩
set_option maxRecDepth 100000 in
theorem k_ints (l l' : List Int) : K 23 [.tr (intsT l), .tr (intsT l')] [] (.ret (.tr (tb (eqI2 l l')))) [] := by
  have h := k_rsame l l'
  refine Ctr.of hT hmix Tryz.func23 rfl (fun _ _ => by kernel_rfl) rfl fun hok => ?_
  clear hok
  conv => whnf
  refine acall.pure _ (h) rfl rfl fun _ => ?_
  conv => whnf
  exact ⟨.inl rfl, trivial⟩
def prS : ByteArray := ⟨(prP 3).toArray⟩
set_option maxRecDepth 100000 in
theorem k_begins : K 14 [] [] (.ret (.tr (tb true))) [] := by
  have hlo := k_loop0
  have hlw := k_lower0
  have hch := k_check u0
  rw [show (checkU u0).1 = 0 from by kernel_rfl, show (checkU u0).2.1 = 0 from by kernel_rfl, show (checkU u0).2.2 = 0 from by kernel_rfl] at hch
  have hpr := k_print0
  obtain ⟨S, hS⟩ : ∃ S : ByteArray, S = ⟨#[116, 104, 114, 101, 97, 100, 32, 97, 10, 48, 32, 115, 48, 32, 61, 32, 120, 32, 45, 62, 32, 49, 10, 49, 32, 98, 114, 97, 110, 99, 104, 32, 115, 48, 32, 45, 62, 32, 48, 32, 50, 10, 50, 32, 101, 110, 100, 10]⟩ := ⟨_, rfl⟩
  replace hpr : K 33 [u0.av] [] (.ret (.tup [.tr (ts S), .tr (ti 0)])) [] := by rw [hS]; exact hpr
  have e : (S.toList == ByteArray.toList ⟨#[116, 104, 114, 101, 97, 100, 32, 97, 10, 48, 32, 115, 48, 32, 61, 32, 120, 32, 45, 62, 32, 49, 10, 49, 32, 98, 114, 97, 110, 99, 104, 32, 115, 48, 32, 45, 62, 32, 48, 32, 50, 10, 50, 32, 101, 110, 100, 10]⟩) = true := by rw [hS]; exact beq_self_eq_true _
  clear hS
  have hdp := k_depth g0 (by kernel_rfl)
  rw [show g0.nodes.length = 3 from rfl, depth0] at hdp
  have hdo := k_dominators g0 (by kernel_rfl)
  rw [show g0.nodes.length = 3 from rfl, idom0] at hdo
  have hi1 := k_ints [1, 1, 0] [1, 1, 0]
  rw [show eqI2 [1, 1, 0] [1, 1, 0] = true from by kernel_rfl] at hi1
  have hi2 := k_ints [-1, 0, 1] [-1, 0, 1]
  rw [show eqI2 [-1, 0, 1] [-1, 0, 1] = true from by kernel_rfl] at hi2
  refine Ctr.cut [6] hT hmix Tryz.func14 rfl (fun _ _ => by kernel_rfl) rfl fun hok => ?_
  clear hok
  conv => whnf
  refine acall.pure _ (hlo) rfl rfl fun _ => ?_
  conv => whnf
  refine acall.pure _ (hlw) rfl rfl fun _ => ?_
  conv => whnf
  refine acall.pure _ (hch) rfl rfl fun _ => ?_
  conv => whnf
  refine acall.pure _ (hpr) rfl rfl fun _ => ?_
  conv => whnf
  refine CutL.by (fun _ : Unit => ⟨[(0, .tr (tb false)), (1, .ptr 0 0)], [(0, .cells 29 (u0.cells.map .tr))], 10⟩) (fun _ => True) ?_ ?_
  · conv => whnf
    rw [e]
    conv => whnf
    exact ⟨(), [_], [], Sub.mk' rfl ⟨.inl rfl, ⟨rfl, rfl⟩, trivial⟩ ⟨⟨rfl, .inl rfl, .inl rfl, .inl rfl, trivial⟩, trivial⟩ rfl rfl, trivial⟩
  rintro - - -
  conv => whnf
  refine ⟨rfl, Int.le_refl _, (by decide), fun row hrow => ?_⟩
  obtain rfl : Gr.cells g0 = row := Option.some.inj hrow
  clear hrow
  conv => whnf
  refine acall.pure _ (hdp) rfl rfl fun _ => ?_
  conv => whnf
  refine acall.au [] [15] (hi1) ?_
  intro _
  conv => whnf
  refine ⟨rfl, Int.le_refl _, (by decide), fun row hrow => ?_⟩
  obtain rfl : Gr.cells g0 = row := Option.some.inj hrow
  clear hrow
  conv => whnf
  refine acall.pure _ (hdo) rfl rfl fun _ => ?_
  conv => whnf
  refine acall.au [] [23] (hi2) ?_
  intro _
  conv => whnf
  exact ⟨.inl rfl, trivial⟩
end Go.Proofs.YthboippafkcoiaaGreatDoor.am

namespace Go.Proofs.YthboippafkcoiaaGreatDoor.am
open Go Go.Proofs
set_option linter.all false

def rfolI (n : Nd) : List Int := bif n.kind == 9 then [] else bif n.kind == 8 then [n.next, n.els] else [n.next]
set_option maxRecDepth 100000 in
theorem k_rfollows (n : Nd) : K 62 [n.av] [] (.ret (.tr (intsT (rfolI n)))) [] := by
  refine Ctr.of hT hmix Tryz.func62 rfl (fun _ _ => by kernel_rfl) rfl fun hok => ?_
  clear hok
  conv => whnf
  cases h1 : (n.kind == 9) with
  | true =>
    conv => whnf
    exact ⟨.inr ⟨rfl, 1, 8, by unfold rfolI; rw [h1]; rfl⟩, trivial⟩
  | false =>
  conv => whnf
  cases h2 : (n.kind == 8) with
  | true =>
    conv => whnf
    exact ⟨⟨rfl, Nat.le_refl _, by unfold rfolI; rw [h1, h2]; rfl⟩, trivial⟩
  | false =>
    conv => whnf
    exact ⟨⟨rfl, Nat.le_refl _, by unfold rfolI; rw [h1, h2]; rfl⟩, trivial⟩
end Go.Proofs.YthboippafkcoiaaGreatDoor.am

namespace Go.Proofs.YthboippafkcoiaaGreatDoor.am
open Go Go.Proofs
set_option linter.all false

def rfol (g : Gr) (x : Nat) : List Nat := match g.nodes[x]? with | some n => (rfolI n).map Int.toNat | none => []
theorem rfolI_mem (n : Nd) (k : Int) : k ∈ rfolI n ↔ k ∈ folI n := by
  unfold rfolI folI
  cases h9 : (n.kind == 9) with
  | true => exact Iff.rfl
  | false =>
  cases h8 : (n.kind == 8) with
  | false => exact Iff.rfl
  | true =>
  cases he : (n.els != n.next) with
  | true => exact Iff.rfl
  | false =>
    have : n.els = n.next := by simpa [bne] using he
    rw [this]
    simp
theorem rfol_mem (g : Gr) (a b : Nat) : b ∈ rfol g a ↔ b ∈ fol g a := by
  unfold rfol fol
  cases g.nodes[a]? with
  | none => exact Iff.rfl
  | some n =>
    simp only [List.mem_map]
    constructor
    · rintro ⟨k, h1, h2⟩; exact ⟨k, (rfolI_mem n k).1 h1, h2⟩
    · rintro ⟨k, h1, h2⟩; exact ⟨k, (rfolI_mem n k).2 h1, h2⟩
theorem rfolI_len (n : Nd) : (rfolI n).length ≤ 2 := by
  unfold rfolI
  cases (n.kind == 9) <;> cases (n.kind == 8) <;> exact Nat.le_of_ble_eq_true rfl
structure RWhole (g : Gr) : Prop where
  fol : ∀ (x : Nat) n, g.nodes[x]? = some n → rfolI n = (rfol g x).map fun (x : Nat) => (x : Int)
  lt : ∀ a, ∀ b ∈ rfol g a, b < g.nodes.length
  len : ∀ a, (rfol g a).length ≤ 2
theorem rwhole_of {g : Gr} (h : Whole g) : RWhole g := by
  refine ⟨fun x n hx => ?_, fun a b hb => h.lt a b ((rfol_mem g a b).1 hb), fun a => ?_⟩
  · have hf := h.fol x n hx
    unfold rfol
    rw [hx]
    simp only [List.map_map]
    conv => lhs; rw [← List.map_id (rfolI n)]
    refine List.map_congr_left fun k hk => ?_
    have : k ∈ folI n := (rfolI_mem n k).1 hk
    rw [hf] at this
    obtain ⟨y, _, rfl⟩ := List.mem_map.1 this
    rfl
  · unfold rfol
    split
    · rw [List.length_map]; exact rfolI_len _
    · exact Nat.zero_le _
/-- whole, as the reference says it -/
def rnodeOk (N : Int) (n : Nd) : Bool := !(decide (n.kind ≤ 0) || decide (n.kind ≥ 10)) && (rfolI n).all fun k => !(decide (k < 0) || decide (k ≥ N))
end Go.Proofs.YthboippafkcoiaaGreatDoor.am

namespace Go.Proofs.YthboippafkcoiaaGreatDoor.am
open Go Go.Proofs
set_option linter.all false

end Go.Proofs.YthboippafkcoiaaGreatDoor.am

namespace Go.Proofs.YthboippafkcoiaaGreatDoor.am
open Go Go.Proofs
set_option linter.all false

abbrev addI (l : List Nat) (b : Bool) (i : Nat) : List Nat := l ++ (bif b then [i] else [])
end Go.Proofs.YthboippafkcoiaaGreatDoor.am

namespace Go.Proofs.YthboippafkcoiaaGreatDoor.am
open Go Go.Proofs
set_option linter.all false

def drow (l : List Bool) : List Tr := [boolsT l]
abbrev tableT (D : List (List Bool)) : Tr := .lst 1 24 (D.map drow)
def trow : Option (List Bool) → List Tr
  | none => [nilT]
  | some l => [boolsT l]
abbrev tabB (D : List (Option (List Bool))) : Blk := .vec 56 1 24 (D.map trow)
/-- the first i rows are laid -/
noncomputable def tabI (f : Nat → List Nat) (N i : Nat) : List (Option (List Bool)) := (List.range N).map fun a => if a < i then some (dmR f N a) else none
end Go.Proofs.YthboippafkcoiaaGreatDoor.am

namespace Go.Proofs.YthboippafkcoiaaGreatDoor.am
open Go Go.Proofs
set_option linter.all false

end Go.Proofs.YthboippafkcoiaaGreatDoor.am

namespace Go.Proofs.YthboippafkcoiaaGreatDoor.am
open Go Go.Proofs
set_option linter.all false

theorem nrow_app {l : List Nat} (x : Nat) : (l.map nrow).take l.length ++ [[ti (x : Nat)]] = (l ++ [x]).map nrow := by
  rw [List.map_append, List.take_of_length_le (by rw [List.length_map]; exact Nat.le_refl _)]; rfl
abbrev dpS (RC : List Bool) (D : List (List Bool)) (A : List (List Nat)) (N h : Nat) (r : List (Nat × AV)) : List (Nat × AV) := (1, .ptr 0 0) :: (3, .tr (boolsT RC)) :: (4, .tr (tableT D)) :: (5, .tr (listsT A)) :: (6, .sl 1 N) :: (7, .tr (ti (h : Nat))) :: r
end Go.Proofs.YthboippafkcoiaaGreatDoor.am

namespace Go.Proofs.YthboippafkcoiaaGreatDoor.am
open Go Go.Proofs
set_option linter.all false

def cutG (g : Gr) (c : Nat) : Gr := ⟨g.name, g.locals, g.slots, g.nodes.set c enI⟩
end Go.Proofs.YthboippafkcoiaaGreatDoor.am

namespace Go.Proofs.YthboippafkcoiaaGreatDoor.am
open Go Go.Proofs
set_option linter.all false

end Go.Proofs.YthboippafkcoiaaGreatDoor.am

namespace Go.Proofs.YthboippafkcoiaaGreatDoor.am
open Go Go.Proofs
set_option linter.all false

theorem eqI_refl : ∀ l : List Int, eqI l l = true
  | [] => rfl
  | a :: l => by
    show (bif a != a then false else eqI l l) = true
    rw [eqI_refl l]; simp
theorem eqI2_refl (l : List Int) : eqI2 l l = true := by
  unfold eqI2
  rw [eqI_refl]; simp
abbrev ilrow (l : List Int) : List Tr := [intsT l]
abbrev ilistsT (L : List (List Int)) : Tr := .lst 1 24 (L.map ilrow)
end Go.Proofs.YthboippafkcoiaaGreatDoor.am

namespace Go.Proofs.YthboippafkcoiaaGreatDoor.am
open Go Go.Proofs
set_option linter.all false

theorem folI_two (n : Nd) : rfolI n = folI n ∨ ∃ x, folI n = [x] ∧ rfolI n = [x, x] := by
  unfold folI rfolI
  cases h9 : (n.kind == 9) with
  | true => exact .inl rfl
  | false =>
  cases h8 : (n.kind == 8) with
  | false => exact .inl rfl
  | true =>
  cases he : (n.els != n.next) with
  | true => exact .inl rfl
  | false =>
    have : n.els = n.next := by simpa [bne] using he
    exact .inr ⟨n.next, rfl, by rw [this]; rfl⟩
theorem lkAt_set {lk : List (Option (List Int))} {x : Nat} {now : List Int} (h : x < lk.length) : lkAt (lk.set x (some now)) x = now := by
  unfold lkAt
  rw [List.getD_eq_getElem?_getD, List.getElem?_set_self h]; rfl
theorem inH_two {now : List Int} {x : Nat} {s : HSt} (h : x < s.1.length) : inH now [x, x] s = inH now [x] s := by
  have e : inH now [x, x] s = bif s.2.contains x then (bif eqI2 (lkAt s.1 x) now then inH now [x] s else (s, some x)) else inH now [x] (s.1.set x (some now), s.2 ++ [x]) := rfl
  have e1 : inH now [x] s = bif s.2.contains x then (bif eqI2 (lkAt s.1 x) now then (s, none) else (s, some x)) else ((s.1.set x (some now), s.2 ++ [x]), none) := rfl
  rw [e]
  cases hc : s.2.contains x with
  | true =>
    cases he : eqI2 (lkAt s.1 x) now with
    | true => rfl
    | false => rw [e1, hc, he]; rfl
  | false =>
    rw [e1, hc, cond_false, cond_false]
    show (bif (s.2 ++ [x]).contains x then (bif eqI2 (lkAt (s.1.set x (some now)) x) now then ((s.1.set x (some now), s.2 ++ [x]), none) else _) else _) = _
    rw [show (s.2 ++ [x]).contains x = true by simp, lkAt_set h, eqI2_refl]; rfl
theorem inH_r {g : Gr} {a : Nat} {n : Nd} (hn : g.nodes[a]? = some n) (now : List Int) (s : HSt) (hlt : ∀ y ∈ rfol g a, y < s.1.length) : inH now (rfol g a) s = inH now (fol g a) s := by
  have h1 : rfol g a = (rfolI n).map Int.toNat := by unfold rfol; rw [hn]
  have h2 : fol g a = (folI n).map Int.toNat := by unfold fol; rw [hn]
  rcases folI_two n with q | ⟨x, q1, q2⟩
  · rw [h1, h2, q]
  · rw [h1, q2] at hlt
    rw [h1, h2, q1, q2]
    exact inH_two (hlt x.toNat (.head _))
/-- found: those that are to be gone on from -/
def FdI (N : Nat) (fd : List Bool) (todo : List Nat) : Prop := fd.length = N ∧ ∀ x, x < N → fd[x]? = some (todo.contains x)
theorem FdI.push {N : Nat} {fd : List Bool} {todo : List Nat} {y : Nat} (h : FdI N fd todo) (hy : y < N) : FdI N (fd.set y true) (todo ++ [y]) := by
  refine ⟨by rw [List.length_set]; exact h.1, fun x hx => ?_⟩
  by_cases e : x = y
  · subst e
    rw [List.getElem?_set_self (by rw [h.1]; exact hx)]; simp
  · rw [List.getElem?_set_ne (fun w => e w.symm), h.2 x hx]
    congr 1
    have : (x == y) = false := beq_eq_false_iff_ne.2 e
    simp [e]
theorem FdI.start {N : Nat} (h : 0 < N) : FdI N ((List.replicate N false).set 0 true) [0] := by
  have h0 : FdI N (List.replicate N false) [] := ⟨by simp, fun x hx => by simp [hx]⟩
  exact h0.push h
abbrev heS (todo : List Nat) (k N : Nat) (r : List (Nat × AV)) : List (Nat × AV) := (1, .ptr 0 0) :: (4, .sl 1 N) :: (5, .sl 2 N) :: (6, .sl 3 todo.length) :: (7, .tr (ti (k : Nat))) :: r
abbrev heM (g : Gr) (lk : List (Option (List Int))) (fd : List Bool) (todo : List Nat) (r : List (Nat × Blk)) : List (Nat × Blk) := (0, grBl g) :: (1, hB lk) :: (2, boolsB fd) :: (3, natsB todo) :: r
abbrev ndcB (n : Nd) : Blk := .cells 75 (n.cells.map .tr)
set_option maxRecDepth 100000 in
set_option maxHeartbeats 4000000 in
theorem k_rheld (g : Gr) (hW : Whole g) : K 73 [g.av] [] (.ret (.tup [.tr (heT (heldR g).1), .tr (ti (heldR g).2)])) [] := by
  have hR : heldR g = outH g (g.nodes.length + 1) (List.replicate g.nodes.length none, [0]) 0 := rfl
  generalize heldR g = R at hR ⊢
  have hpos := hW.pos
  have hmo := hW.most
  have hRW := rwhole_of hW
  have hlt := hRW.lt
  have hfI := hRW.fol
  have hfl := hRW.len
  clear hW hRW
  have hO : ∀ f s k, outH g (f + 1) s k = match s.2[k]? with
    | none => (s.1, -1)
    | some a => match g.nodes[a]? with
      | none => ([], 0)
      | some n => match nowN n (lkAt s.1 a) with
        | none => ([], (a : Int))
        | some now => contH (outH g f) (k + 1) (inH now (fol g a) s) := fun f s k => rfl
  generalize outH g = OH at hR hO
  have hln : (g.nodes.map Nd.cells).length = g.nodes.length := List.length_map ..
  obtain ⟨N, hNe⟩ : ∃ N, g.nodes.length = N := ⟨_, rfl⟩
  rw [hNe] at hR hpos hmo hlt hln
  refine Ctr.cut [10, 20] hT hmix Tryz.func73 rfl (fun _ _ => by kernel_rfl) rfl fun hok => ?_
  clear hok
  conv => whnf
  refine ⟨(by rw [hln]; omega), Int.le_refl _, (by rw [hln]; show (N : Int) * 24 ≤ _; omega), ?_⟩
  conv => whnf
  rw [hln, Int.toNat_natCast]
  refine ⟨(show (0 : Int) ≤ N by omega), Int.le_refl _, (show (N : Int) * 1 ≤ 140737488351232 by omega), ?_⟩
  conv => whnf
  try rw [Int.toNat_natCast]
  refine ⟨rfl, by decide, (show (0 : Int) < (N : Int) by omega), ?_⟩
  conv => whnf
  refine ⟨rfl, rfl, (by rw [List.length_replicate]; exact hpos), fun row hrow => ?_⟩
  replace hrow : (List.replicate N [Tr.v (.bool false)])[0]? = some row := hrow
  rw [List.getElem?_replicate, if_pos hpos] at hrow
  cases hrow
  refine ⟨by decide, ?_⟩
  conv => whnf
  refine LoopL.by (fun x : (HSt × List Bool) × Nat => ⟨heS x.1.1.2 x.2 N [], heM g x.1.1.1 x.1.2 x.1.1.2 [], 10⟩) (fun x => HInv N x.2 x.1.1.1 x.1.1.2 ∧ x.2 ≤ x.1.1.2.length ∧ FdI N x.1.2 x.1.1.2 ∧ R = OH (N + 1 - x.2) x.1.1 x.2) (fun x => N + 1 - x.2) (((List.replicate N none, [0]), (List.replicate N false).set 0 true), 0) [0, _, _, _] []
    (Sub.mk' rfl ⟨⟨rfl, rfl⟩, ⟨rfl, rfl⟩, ⟨rfl, rfl⟩, ⟨rfl, rfl⟩, .inl rfl, trivial⟩ ⟨⟨rfl, .inl rfl, .inl rfl, .inl rfl, .inl rfl, trivial⟩, ⟨rfl, rfl, rfl, by rw [List.map_replicate]; rfl⟩, ⟨rfl, rfl, rfl, by rw [← brow_set _ _ false, ← brow_rep]; rfl⟩, ⟨rfl, rfl, rfl, rfl⟩, trivial⟩ rfl rfl) ⟨⟨List.length_replicate .., by simp, fun x hx => by rw [List.mem_singleton.1 hx]; exact hpos, fun a l e => by
      have e : (List.replicate N none)[a]? = some (some l) := e
      rw [List.getElem?_replicate] at e
      split at e <;> cases e⟩, Nat.zero_le _, FdI.start hpos, hR⟩ ?_
  clear hR
  rintro ⟨⟨⟨lk, todo⟩, fd⟩, k⟩ ⟨hI, hk, hfd, hR⟩ -
  simp only at hI hk hfd hR
  have htl := hI.todo_len
  have hlkl := hI.len
  have hO1 := hO (N - k) (lk, todo) k
  rw [show N - k + 1 = N + 1 - k by omega, ← hR] at hO1
  clear hR
  conv => whnf
  refine csplit (fun hkt => ?_) (fun hkt => ?_)
  · replace hkt : k < todo.length := by have : decide ((k : Int) < (todo.length : Int)) = true := hkt; have := of_decide_eq_true this; omega
    obtain ⟨a, ha⟩ : ∃ a, todo[k]? = some a := ⟨_, List.getElem?_eq_getElem hkt⟩
    have haN := hI.lt a (List.mem_of_getElem? ha)
    obtain ⟨n, hn⟩ : ∃ n, g.nodes[a]? = some n := ⟨_, List.getElem?_eq_getElem (by omega)⟩
    obtain ⟨o, ho⟩ : ∃ o, lk[a]? = some o := ⟨_, List.getElem?_eq_getElem (by omega)⟩
    have hlk : lkAt lk a = o.getD [] := by unfold lkAt; rw [List.getD_eq_getElem?_getD, ho]; rfl
    have hir := fun now => inH_r hn now (lk, todo) (fun y hy => by show y < lk.length; rw [hlkl]; exact hlt a y hy)
    have hO2 : R = match nowN n (lkAt lk a) with
        | none => ([], (a : Int))
        | some now => contH (OH (N - k)) (k + 1) (inH now (rfol g a) (lk, todo)) := by
      rw [hO1]
      show (match todo[k]? with | none => _ | some a => _) = _
      rw [ha]
      show (match g.nodes[a]? with | none => _ | some n => _) = _
      rw [hn]
      simp only [hir]
    clear hO1 hir
    have hl0 := hI.at a
    have hf := k_rfollows n
    rw [hfI a n hn] at hf
    have hflt := hlt a
    have hfl := hfl a
    conv => whnf
    refine ⟨rfl, (show (0 : Int) ≤ k by omega), (show (k : Int) < (todo.length : Int) by omega), ?_⟩
    conv => whnf
    refine ⟨rfl, (by show k < (todo.map nrow).length; rw [List.length_map]; omega), fun row hrow => ?_⟩
    obtain ⟨d, hd, rfl⟩ := nrow_get hrow
    obtain rfl := Option.some.inj (ha.symm.trans hd)
    clear hrow hd
    refine ⟨(show 0 < 1 by decide), fun t ht => ?_⟩
    cases ht
    conv => whnf
    refine ⟨rfl, (show (0 : Int) ≤ a by omega), (show (a : Int) < ((g.nodes.map Nd.cells).length : Int) by omega), fun row hrow => ?_⟩
    obtain ⟨d, hd, rfl⟩ := nd_get hrow
    obtain rfl := Option.some.inj (hn.symm.trans hd)
    clear hrow hd
    conv => whnf
    refine ⟨by kernel_rfl, fun _ => ?_⟩
    conv => whnf
    refine CutL.by (fun _ : Unit => ⟨heS todo k N [(8, .ptr 4 0), (9, .sl 5 (lkAt lk a).length)], heM g lk fd todo [(4, ndcB n), (5, ivB (lkAt lk a))], 10⟩) (fun _ => True) ?_ ?_
    · conv => whnf
      refine ⟨rfl, (show (0 : Int) ≤ k by omega), (show (k : Int) < (todo.length : Int) by omega), ?_⟩
      conv => whnf
      refine ⟨rfl, (by show k < (todo.map nrow).length; rw [List.length_map]; omega), fun row hrow => ?_⟩
      obtain ⟨d, hd, rfl⟩ := nrow_get hrow
      obtain rfl := Option.some.inj (ha.symm.trans hd)
      clear hrow hd
      refine ⟨(show 0 < 1 by decide), fun t ht => ?_⟩
      cases ht
      conv => whnf
      refine ⟨rfl, (show (0 : Int) ≤ a by omega), (show (a : Int) < (N : Int) by omega), ?_⟩
      conv => whnf
      refine ⟨rfl, (by show a < (lk.map hrow).length; rw [List.length_map]; omega), fun row hrow => ?_⟩
      obtain ⟨d, hd, rfl⟩ := hrow_get hrow
      obtain rfl := Option.some.inj (ho.symm.trans hd)
      clear hrow hd
      cases o with
      | none =>
        refine ⟨(show 0 < 1 by decide), fun t ht => ?_⟩
        cases ht
        conv => whnf
        have hle : lkAt lk a = [] := hlk
        refine ⟨rfl, rfl, rfl, Nat.le_refl _, (show (0 + 0) * 8 ≤ 150000000000000 by omega), (fun q hq => by cases hq), ?_⟩
        conv => whnf
        exact ⟨(), [0, 1, 2, 3, _, _], [], Sub.mk' rfl ⟨⟨rfl, rfl⟩, ⟨rfl, rfl⟩, ⟨rfl, rfl⟩, ⟨rfl, rfl⟩, .inl rfl, ⟨rfl, rfl⟩, ⟨rfl, by rw [hle]; rfl⟩, trivial⟩ ⟨⟨rfl, .inl rfl, .inl rfl, .inl rfl, .inl rfl, trivial⟩, ⟨rfl, rfl, rfl, rfl⟩, ⟨rfl, rfl, rfl, rfl⟩, ⟨rfl, rfl, rfl, rfl⟩, ⟨rfl, .inl rfl, .inl rfl, .inl rfl, .inl rfl, .inl rfl, .inl rfl, .inl rfl, .inl rfl, .inl rfl, .inl rfl, .inl rfl, .inl rfl, .inl rfl, trivial⟩, ⟨rfl, rfl, rfl, by rw [hle]; rfl⟩, trivial⟩ rfl rfl, trivial⟩
      | some l =>
        refine ⟨(show 0 < 1 by decide), fun t ht => ?_⟩
        cases ht
        conv => whnf
        have hle : lkAt lk a = l := hlk
        rw [hle] at hl0
        refine ⟨rfl, rfl, rfl, Nat.le_refl _, (by show (0 + (l.map irow).length) * 8 ≤ 150000000000000; rw [List.length_map]; omega), (fun q hq => by cases hq), ?_⟩
        conv => whnf
        exact ⟨(), [0, 1, 2, 3, _, _], [], Sub.mk' rfl ⟨⟨rfl, rfl⟩, ⟨rfl, rfl⟩, ⟨rfl, rfl⟩, ⟨rfl, rfl⟩, .inl rfl, ⟨rfl, rfl⟩, ⟨rfl, by rw [hle]; simp⟩, trivial⟩ ⟨⟨rfl, .inl rfl, .inl rfl, .inl rfl, .inl rfl, trivial⟩, ⟨rfl, rfl, rfl, rfl⟩, ⟨rfl, rfl, rfl, rfl⟩, ⟨rfl, rfl, rfl, rfl⟩, ⟨rfl, .inl rfl, .inl rfl, .inl rfl, .inl rfl, .inl rfl, .inl rfl, .inl rfl, .inl rfl, .inl rfl, .inl rfl, .inl rfl, .inl rfl, .inl rfl, trivial⟩, ⟨rfl, rfl, rfl, by rw [hle]; rfl⟩, trivial⟩ rfl rfl, trivial⟩
    rintro - - -
    clear hlk ho
    generalize lkAt lk a = l0 at hO2 hl0
    have hll0 : (l0.map irow).length = l0.length := List.length_map ..
    have hlw : 0 < l0.length → IntKind.i64.wrap ((l0.length : Int) - 1) = ((l0.length - 1 : Nat) : Int) := fun h => by rw [w64 (by omega) (by omega)]; omega
    have hself : intsT l0 = Tr.lst 1 8 ((l0.map irow).take l0.length) := by rw [List.take_of_length_le (Nat.le_of_eq hll0)]
    conv => whnf
    refine CutL.by (fun now : List Int => ⟨heS todo k N [(8, .ptr 4 0), (9, .tr (intsT now))], heM g lk fd todo [(4, ndcB n)], 10⟩) (fun now => nowN n l0 = some now) ?_ ?_
    · conv => whnf
      cases h5 : (n.kind == 5) with
      | true =>
        conv => whnf
        refine ⟨rfl, rfl, rfl, Nat.le_of_eq hll0.symm, (show (l0.length + 1) * 8 ≤ 150000000000000 by omega), fun q hq => ?_, ?_⟩
        · cases hq with
          | head => exact Nat.ne_of_beq_eq_false rfl
          | tail _ h => cases h
        conv => whnf
        have htk : (l0.map irow).take l0.length ++ [[ti n.thing]] = (l0 ++ [n.thing]).map irow := by rw [List.take_of_length_le (Nat.le_of_eq hll0), List.map_append]; rfl
        have hle : l0.length + 1 ≤ ((l0.map irow).take l0.length ++ [[ti n.thing]]).length := by rw [htk, List.length_map, List.length_append]; exact Nat.le_refl _
        have heq : intsT (l0 ++ [n.thing]) = Tr.lst 1 8 (((l0.map irow).take l0.length ++ [[ti n.thing]]).take (l0.length + 1)) := by rw [htk, List.take_of_length_le (by rw [List.length_map, List.length_append]; exact Nat.le_refl _)]
        exact ⟨l0 ++ [n.thing], [0, 1, 2, 3, 4], [], Sub.mk' rfl ⟨⟨rfl, rfl⟩, ⟨rfl, rfl⟩, ⟨rfl, rfl⟩, ⟨rfl, rfl⟩, .inl rfl, ⟨rfl, rfl⟩, ⟨rfl, hle, heq⟩, trivial⟩ ⟨⟨rfl, .inl rfl, .inl rfl, .inl rfl, .inl rfl, trivial⟩, ⟨rfl, rfl, rfl, rfl⟩, ⟨rfl, rfl, rfl, rfl⟩, ⟨rfl, rfl, rfl, rfl⟩, ⟨rfl, .inl rfl, .inl rfl, .inl rfl, .inl rfl, .inl rfl, .inl rfl, .inl rfl, .inl rfl, .inl rfl, .inl rfl, .inl rfl, .inl rfl, .inl rfl, trivial⟩, trivial⟩ rfl rfl, by unfold nowN; rw [h5]; rfl⟩
      | false =>
      conv => whnf
      cases h6 : (n.kind == 6) with
      | true =>
        conv => whnf
        cases h7 : ((l0.length : Int) == 0) with
        | true =>
          have hRf : R = ([], (a : Int)) := by rw [hO2]; unfold nowN; rw [h5, h6, h7]; rfl
          conv => whnf
          refine ⟨by kernel_rfl, fun _ => ?_⟩
          conv => whnf
          refine ⟨rfl, (show (0 : Int) ≤ k by omega), (show (k : Int) < (todo.length : Int) by omega), ?_⟩
          conv => whnf
          refine ⟨rfl, (by show k < (todo.map nrow).length; rw [List.length_map]; omega), fun row hrow => ?_⟩
          obtain ⟨d2, hd2, rfl⟩ := nrow_get hrow
          obtain rfl := Option.some.inj (ha.symm.trans hd2)
          clear hrow hd2
          refine ⟨(show 0 < 1 by decide), fun t ht => ?_⟩
          cases ht
          conv => whnf
          refine ⟨by kernel_rfl, fun _ => ?_⟩
          conv => whnf
          exact ⟨⟨.inr ⟨rfl, 1, 24, by rw [hRf]; rfl⟩, .inl (by rw [hRf]), trivial⟩, trivial⟩
        | false =>
        have h0 : 0 < l0.length := by
          have := beq_eq_false_iff_ne.1 h7
          omega
        have hw1 := hlw h0
        obtain ⟨d, hd⟩ : ∃ d, l0[l0.length - 1]? = some d := ⟨_, List.getElem?_eq_getElem (by omega)⟩
        have hgd : l0.getD (l0.length - 1) 0 = d := by rw [List.getD_eq_getElem?_getD, hd]; rfl
        conv => whnf
        rw [hw1]
        refine ⟨rfl, (show (0 : Int) ≤ ((l0.length - 1 : Nat) : Int) by omega), (show ((l0.length - 1 : Nat) : Int) < (l0.length : Int) by omega), ?_⟩
        conv => whnf
        refine ⟨rfl, (by show l0.length - 1 < (l0.map irow).length; omega), fun row hrow => ?_⟩
        obtain ⟨d', hd', rfl⟩ := int_get hrow
        obtain rfl := Option.some.inj (hd.symm.trans hd')
        clear hrow hd'
        refine ⟨(show 0 < 1 by decide), fun t ht => ?_⟩
        cases ht
        conv => whnf
        refine ⟨by kernel_rfl, fun _ => ?_⟩
        conv => whnf
        cases hne : (d != n.thing) with
        | true =>
          have hRf : R = ([], (a : Int)) := by rw [hO2]; unfold nowN; rw [h5, h6, h7, hgd, hne]; rfl
          conv => whnf
          refine ⟨rfl, (show (0 : Int) ≤ k by omega), (show (k : Int) < (todo.length : Int) by omega), ?_⟩
          conv => whnf
          refine ⟨rfl, (by show k < (todo.map nrow).length; rw [List.length_map]; omega), fun row hrow => ?_⟩
          obtain ⟨d2, hd2, rfl⟩ := nrow_get hrow
          obtain rfl := Option.some.inj (ha.symm.trans hd2)
          clear hrow hd2
          refine ⟨(show 0 < 1 by decide), fun t ht => ?_⟩
          cases ht
          conv => whnf
          refine ⟨by kernel_rfl, fun _ => ?_⟩
          conv => whnf
          exact ⟨⟨.inr ⟨rfl, 1, 24, by rw [hRf]; rfl⟩, .inl (by rw [hRf]), trivial⟩, trivial⟩
        | false =>
          conv => whnf
          rw [hw1]
          refine ⟨(show (0 : Int) ≤ ((l0.length - 1 : Nat) : Int) by omega), (show ((l0.length - 1 : Nat) : Int) ≤ (l0.length : Int) by omega), ?_⟩
          conv => whnf
          exact ⟨l0.take (l0.length - 1), [0, 1, 2, 3, 4], [], Sub.mk' rfl ⟨⟨rfl, rfl⟩, ⟨rfl, rfl⟩, ⟨rfl, rfl⟩, ⟨rfl, rfl⟩, .inl rfl, ⟨rfl, rfl⟩, ⟨rfl, (by show l0.length - 1 ≤ (l0.map irow).length; omega), (by show Tr.lst 1 8 ((l0.take (l0.length - 1)).map irow) = Tr.lst 1 8 ((l0.map irow).take (l0.length - 1)); rw [List.map_take])⟩, trivial⟩ ⟨⟨rfl, .inl rfl, .inl rfl, .inl rfl, .inl rfl, trivial⟩, ⟨rfl, rfl, rfl, rfl⟩, ⟨rfl, rfl, rfl, rfl⟩, ⟨rfl, rfl, rfl, rfl⟩, ⟨rfl, .inl rfl, .inl rfl, .inl rfl, .inl rfl, .inl rfl, .inl rfl, .inl rfl, .inl rfl, .inl rfl, .inl rfl, .inl rfl, .inl rfl, .inl rfl, trivial⟩, trivial⟩ rfl rfl, by unfold nowN; rw [h5, h6, h7, hgd, hne]; rfl⟩
      | false =>
      conv => whnf
      cases h9 : (n.kind == 9) with
      | true =>
        conv => whnf
        cases h7 : decide ((l0.length : Int) > 0) with
        | true =>
          have hRf : R = ([], (a : Int)) := by rw [hO2]; unfold nowN; rw [h5, h6, h9, h7]; rfl
          conv => whnf
          refine ⟨rfl, (show (0 : Int) ≤ k by omega), (show (k : Int) < (todo.length : Int) by omega), ?_⟩
          conv => whnf
          refine ⟨rfl, (by show k < (todo.map nrow).length; rw [List.length_map]; omega), fun row hrow => ?_⟩
          obtain ⟨d2, hd2, rfl⟩ := nrow_get hrow
          obtain rfl := Option.some.inj (ha.symm.trans hd2)
          clear hrow hd2
          refine ⟨(show 0 < 1 by decide), fun t ht => ?_⟩
          cases ht
          conv => whnf
          refine ⟨by kernel_rfl, fun _ => ?_⟩
          conv => whnf
          exact ⟨⟨.inr ⟨rfl, 1, 24, by rw [hRf]; rfl⟩, .inl (by rw [hRf]), trivial⟩, trivial⟩
        | false =>
          conv => whnf
          exact ⟨l0, [0, 1, 2, 3, 4], [], Sub.mk' rfl ⟨⟨rfl, rfl⟩, ⟨rfl, rfl⟩, ⟨rfl, rfl⟩, ⟨rfl, rfl⟩, .inl rfl, ⟨rfl, rfl⟩, ⟨rfl, Nat.le_of_eq hll0.symm, hself⟩, trivial⟩ ⟨⟨rfl, .inl rfl, .inl rfl, .inl rfl, .inl rfl, trivial⟩, ⟨rfl, rfl, rfl, rfl⟩, ⟨rfl, rfl, rfl, rfl⟩, ⟨rfl, rfl, rfl, rfl⟩, ⟨rfl, .inl rfl, .inl rfl, .inl rfl, .inl rfl, .inl rfl, .inl rfl, .inl rfl, .inl rfl, .inl rfl, .inl rfl, .inl rfl, .inl rfl, .inl rfl, trivial⟩, trivial⟩ rfl rfl, by unfold nowN; rw [h5, h6, h9, h7]; rfl⟩
      | false =>
        conv => whnf
        exact ⟨l0, [0, 1, 2, 3, 4], [], Sub.mk' rfl ⟨⟨rfl, rfl⟩, ⟨rfl, rfl⟩, ⟨rfl, rfl⟩, ⟨rfl, rfl⟩, .inl rfl, ⟨rfl, rfl⟩, ⟨rfl, Nat.le_of_eq hll0.symm, hself⟩, trivial⟩ ⟨⟨rfl, .inl rfl, .inl rfl, .inl rfl, .inl rfl, trivial⟩, ⟨rfl, rfl, rfl, rfl⟩, ⟨rfl, rfl, rfl, rfl⟩, ⟨rfl, rfl, rfl, rfl⟩, ⟨rfl, .inl rfl, .inl rfl, .inl rfl, .inl rfl, .inl rfl, .inl rfl, .inl rfl, .inl rfl, .inl rfl, .inl rfl, .inl rfl, .inl rfl, .inl rfl, trivial⟩, trivial⟩ rfl rfl, by unfold nowN; rw [h5, h6, h9]; rfl⟩
    rintro now hnow -
    have hO3 : R = contH (OH (N - k)) (k + 1) (inH now (rfol g a) (lk, todo)) := by rw [hO2, hnow]
    have hnl : now.length ≤ k + 1 := Nat.le_trans (nowN_len hnow) (by omega)
    have hI2 := hI.mono (Nat.le_succ k)
    obtain ⟨F, hF⟩ : ∃ F, rfol g a = F := ⟨_, rfl⟩
    rw [hF] at hf hflt hfl hO3
    have hFl := natsT_len F
    clear hO2 hnow hl0 hlw hI hself hll0
    obtain ⟨kind, op, slot, thing, ⟨sa, ka, wa⟩, ⟨sb, kb, wb⟩, next, els, origin⟩ := n
    conv => whnf
    refine acall.pure _ (hf) rfl rfl fun _ => ?_
    conv => whnf
    refine LoopL.by (fun x : (HSt × List Bool) × Nat => ⟨heS x.1.1.2 k N [(9, .tr (intsT now)), (10, .tr (natsT F)), (11, .tr (ti (x.2 : Nat)))], heM g x.1.1.1 x.1.2 x.1.1.2 [], 10⟩) (fun x => HInv N (k + 1) x.1.1.1 x.1.1.2 ∧ k < x.1.1.2.length ∧ x.2 ≤ F.length ∧ FdI N x.1.2 x.1.1.2 ∧ R = contH (OH (N - k)) (k + 1) (inH now (F.drop x.2) x.1.1)) (fun x => F.length - x.2) (((lk, todo), fd), 0) [0, 1, 2, 3] []
      (Sub.mk' rfl ⟨⟨rfl, rfl⟩, ⟨rfl, rfl⟩, ⟨rfl, rfl⟩, ⟨rfl, rfl⟩, .inl rfl, .inl rfl, .inl rfl, .inl rfl, trivial⟩ ⟨⟨rfl, .inl rfl, .inl rfl, .inl rfl, .inl rfl, trivial⟩, ⟨rfl, rfl, rfl, rfl⟩, ⟨rfl, rfl, rfl, rfl⟩, ⟨rfl, rfl, rfl, rfl⟩, trivial⟩ rfl rfl) ⟨hI2, hkt, Nat.zero_le _, hfd, hO3⟩ ?_
    clear hO3 hI2 hf hn ha haN hkt htl hlkl hk hfd
    rintro ⟨⟨⟨lk, todo⟩, fd⟩, j⟩ ⟨hI, hk, hj, hfd, hR⟩ -
    simp only at hI hk hj hfd hR
    have hlkl := hI.len
    have htl := hI.todo_len
    have hfl2 := hfd.1
    conv => whnf
    refine csplit (fun hjt => ?_) (fun hjt => ?_)
    · replace hjt : j < F.length := by have : decide ((j : Int) < ((((F.map fun (x : Nat) => (x : Int))).map irow).length : Int)) = true := hjt; have := of_decide_eq_true this; omega
      obtain ⟨y, hy⟩ : ∃ y, F[j]? = some y := ⟨_, List.getElem?_eq_getElem hjt⟩
      have hyN := hflt y (List.mem_of_getElem? hy)
      rw [drop_cons hy] at hR
      obtain ⟨o, ho⟩ : ∃ o, lk[y]? = some o := ⟨_, List.getElem?_eq_getElem (by omega)⟩
      have hlk : lkAt lk y = o.getD [] := by unfold lkAt; rw [List.getD_eq_getElem?_getD, ho]; rfl
      have hR2 : R = contH (OH (N - k)) (k + 1) (bif todo.contains y then (bif eqI2 (lkAt lk y) now then inH now (F.drop (j + 1)) (lk, todo) else ((lk, todo), some y)) else inH now (F.drop (j + 1)) (lk.set y (some now), todo ++ [y])) := hR
      clear hR
      have hfy := hfd.2 y hyN
      conv => whnf
      refine ⟨rfl, (show (0 : Int) ≤ j by omega), (show (j : Int) < ((((F.map fun (x : Nat) => (x : Int))).map irow).length : Int) by omega), fun row hrow => ?_⟩
      obtain ⟨d, hd, rfl⟩ := natsT_get hrow
      obtain rfl := Option.some.inj (hy.symm.trans hd)
      clear hrow hd
      conv => whnf
      refine ⟨rfl, (show (0 : Int) ≤ y by omega), (show (y : Int) < (N : Int) by omega), ?_⟩
      conv => whnf
      refine ⟨rfl, (by show y < (fd.map brow).length; rw [List.length_map]; omega), fun row hrow => ?_⟩
      obtain ⟨d, hd, rfl⟩ := brow_get hrow
      obtain rfl := Option.some.inj (hfy.symm.trans hd)
      clear hrow hd
      refine ⟨(show 0 < 1 by decide), fun t ht => ?_⟩
      cases ht
      cases hcon : todo.contains y with
      | false =>
        have hyT : y ∉ todo := fun w => by rw [List.contains_iff_mem.2 w] at hcon; cases hcon
        rw [hcon, cond_false] at hR2
        have hI3 := hI.put hyN hyT hnl
        have hfd2 := hfd.push hyN
        have hfy2 := hfy
        rw [hcon] at hfy2
        conv => whnf
        refine ⟨rfl, (show (0 : Int) ≤ j by omega), (show (j : Int) < ((((F.map fun (x : Nat) => (x : Int))).map irow).length : Int) by omega), fun row hrow => ?_⟩
        obtain ⟨d, hd, rfl⟩ := natsT_get hrow
        obtain rfl := Option.some.inj (hy.symm.trans hd)
        clear hrow hd
        conv => whnf
        refine ⟨rfl, (show (0 : Int) ≤ y by omega), (show (y : Int) < (N : Int) by omega), ?_⟩
        conv => whnf
        refine ⟨rfl, rfl, (by show y < (fd.map brow).length; rw [List.length_map]; omega), fun row hrow => ?_⟩
        obtain ⟨d, hd, rfl⟩ := brow_get hrow
        obtain rfl := Option.some.inj (hfy2.symm.trans hd)
        clear hrow hd
        refine ⟨(show 0 + 1 ≤ 1 by decide), ?_⟩
        conv => whnf
        refine ⟨rfl, (show (0 : Int) ≤ j by omega), (show (j : Int) < ((((F.map fun (x : Nat) => (x : Int))).map irow).length : Int) by omega), fun row hrow => ?_⟩
        obtain ⟨d, hd, rfl⟩ := natsT_get hrow
        obtain rfl := Option.some.inj (hy.symm.trans hd)
        clear hrow hd
        conv => whnf
        refine ⟨rfl, (show (0 : Int) ≤ y by omega), (show (y : Int) < (N : Int) by omega), ?_⟩
        conv => whnf
        refine ⟨rfl, rfl, (by show y < (lk.map hrow).length; rw [List.length_map]; omega), fun row hrw => ?_⟩
        obtain ⟨d, hd, rfl⟩ := hrow_get hrw
        clear hrw hd
        have hrl : (hrow d).length = 1 := by cases d <;> rfl
        refine ⟨(by show 0 + 1 ≤ (hrow d).length; omega), ?_⟩
        conv => whnf
        refine ⟨rfl, (show (0 : Int) ≤ j by omega), (show (j : Int) < ((((F.map fun (x : Nat) => (x : Int))).map irow).length : Int) by omega), fun row hrow => ?_⟩
        obtain ⟨d, hd, rfl⟩ := natsT_get hrow
        obtain rfl := Option.some.inj (hy.symm.trans hd)
        clear hrow hd
        conv => whnf
        refine ⟨rfl, rfl, rfl, (by rw [List.length_map]; exact Nat.le_refl _), (show (todo.length + 1) * 8 ≤ 150000000000000 by omega), fun q hq => ?_, ?_⟩
        · cases hq with
          | head => exact Nat.ne_of_beq_eq_false rfl
          | tail _ h => cases h
        conv => whnf
        have hda := nrow_app (l := todo) y
        have hlen2 : (todo ++ [y]).length = todo.length + 1 := by rw [List.length_append]; rfl
        have hset : (lk.map hrow).set y ((hrow d).take 0 ++ [intsT now] ++ (hrow d).drop (0 + 1)) = (lk.set y (some now)).map hrow := by rw [List.map_set]; cases d <;> rfl
        exact ⟨(((lk.set y (some now), todo ++ [y]), fd.set y true), j + 1), [0, 1, 2, _], [], Sub.mk' rfl ⟨⟨rfl, rfl⟩, ⟨rfl, rfl⟩, ⟨rfl, rfl⟩, ⟨rfl, hlen2.symm⟩, .inl rfl, .inl rfl, .inl rfl, .inl (ti_succ hjt (by omega)), trivial⟩ ⟨⟨rfl, .inl rfl, .inl rfl, .inl rfl, .inl rfl, trivial⟩, ⟨rfl, rfl, rfl, hset⟩, ⟨rfl, rfl, rfl, brow_set fd y false true⟩, ⟨rfl, rfl, rfl, hda⟩, trivial⟩ rfl rfl, ⟨hI3, by show k < (todo ++ [y]).length; omega, hjt, hfd2, hR2⟩, by show F.length - (j + 1) < F.length - j; omega⟩
      | true =>
        rw [hcon, cond_true, hlk] at hR2
        conv => whnf
        refine ⟨rfl, (show (0 : Int) ≤ j by omega), (show (j : Int) < ((((F.map fun (x : Nat) => (x : Int))).map irow).length : Int) by omega), fun row hrow => ?_⟩
        obtain ⟨d, hd, rfl⟩ := natsT_get hrow
        obtain rfl := Option.some.inj (hy.symm.trans hd)
        clear hrow hd
        conv => whnf
        refine ⟨rfl, (show (0 : Int) ≤ y by omega), (show (y : Int) < (N : Int) by omega), ?_⟩
        conv => whnf
        refine ⟨rfl, (by show y < (lk.map hrow).length; rw [List.length_map]; omega), fun row hrw => ?_⟩
        obtain ⟨d, hd, rfl⟩ := hrow_get hrw
        obtain rfl := Option.some.inj (ho.symm.trans hd)
        clear hrw hd
        cases o with
        | none =>
          refine ⟨(show 0 < 1 by decide), fun t ht => ?_⟩
          cases ht
          conv => whnf
          refine acall.gen [] [] [.tr (intsT []), .tr (intsT now)] [] _ [] (k_rsame [] now) rfl rfl rfl rfl ⟨.inr ⟨rfl, 1, 8, rfl⟩, .inl rfl, trivial⟩ trivial rfl rfl fun _ => ?_
          conv => whnf
          cases he : eqI2 [] now with
          | false =>
            have hRf : R = ([], (y : Int)) := by rw [hR2]; show contH _ _ (bif eqI2 [] now then _ else _) = _; rw [he]; rfl
            conv => whnf
            refine ⟨rfl, (show (0 : Int) ≤ j by omega), (show (j : Int) < ((((F.map fun (x : Nat) => (x : Int))).map irow).length : Int) by omega), fun row hrow => ?_⟩
            obtain ⟨d, hd, rfl⟩ := natsT_get hrow
            obtain rfl := Option.some.inj (hy.symm.trans hd)
            clear hrow hd
            conv => whnf
            refine ⟨by kernel_rfl, fun _ => ?_⟩
            conv => whnf
            exact ⟨⟨.inr ⟨rfl, 1, 24, by rw [hRf]; rfl⟩, .inl (by rw [hRf]), trivial⟩, trivial⟩
          | true =>
            have hR3 : R = contH (OH (N - k)) (k + 1) (inH now (F.drop (j + 1)) (lk, todo)) := by rw [hR2]; show contH _ _ (bif eqI2 [] now then _ else _) = _; rw [he]; rfl
            conv => whnf
            exact ⟨(((lk, todo), fd), j + 1), [0, 1, 2, 3], [], Sub.mk' rfl ⟨⟨rfl, rfl⟩, ⟨rfl, rfl⟩, ⟨rfl, rfl⟩, ⟨rfl, rfl⟩, .inl rfl, .inl rfl, .inl rfl, .inl (ti_succ hjt (by omega)), trivial⟩ ⟨⟨rfl, .inl rfl, .inl rfl, .inl rfl, .inl rfl, trivial⟩, ⟨rfl, rfl, rfl, rfl⟩, ⟨rfl, rfl, rfl, rfl⟩, ⟨rfl, rfl, rfl, rfl⟩, trivial⟩ rfl rfl, ⟨hI, hk, hjt, hfd, hR3⟩, by show F.length - (j + 1) < F.length - j; omega⟩
        | some l =>
          refine ⟨(show 0 < 1 by decide), fun t ht => ?_⟩
          cases ht
          conv => whnf
          refine acall.pure _ (k_rsame l now) rfl rfl fun _ => ?_
          conv => whnf
          cases he : eqI2 l now with
          | false =>
            have hRf : R = ([], (y : Int)) := by rw [hR2]; show contH _ _ (bif eqI2 l now then _ else _) = _; rw [he]; rfl
            conv => whnf
            refine ⟨rfl, (show (0 : Int) ≤ j by omega), (show (j : Int) < ((((F.map fun (x : Nat) => (x : Int))).map irow).length : Int) by omega), fun row hrow => ?_⟩
            obtain ⟨d, hd, rfl⟩ := natsT_get hrow
            obtain rfl := Option.some.inj (hy.symm.trans hd)
            clear hrow hd
            conv => whnf
            refine ⟨by kernel_rfl, fun _ => ?_⟩
            conv => whnf
            exact ⟨⟨.inr ⟨rfl, 1, 24, by rw [hRf]; rfl⟩, .inl (by rw [hRf]), trivial⟩, trivial⟩
          | true =>
            have hR3 : R = contH (OH (N - k)) (k + 1) (inH now (F.drop (j + 1)) (lk, todo)) := by rw [hR2]; show contH _ _ (bif eqI2 l now then _ else _) = _; rw [he]; rfl
            conv => whnf
            exact ⟨(((lk, todo), fd), j + 1), [0, 1, 2, 3], [], Sub.mk' rfl ⟨⟨rfl, rfl⟩, ⟨rfl, rfl⟩, ⟨rfl, rfl⟩, ⟨rfl, rfl⟩, .inl rfl, .inl rfl, .inl rfl, .inl (ti_succ hjt (by omega)), trivial⟩ ⟨⟨rfl, .inl rfl, .inl rfl, .inl rfl, .inl rfl, trivial⟩, ⟨rfl, rfl, rfl, rfl⟩, ⟨rfl, rfl, rfl, rfl⟩, ⟨rfl, rfl, rfl, rfl⟩, trivial⟩ rfl rfl, ⟨hI, hk, hjt, hfd, hR3⟩, by show F.length - (j + 1) < F.length - j; omega⟩
    · replace hjt : F.length ≤ j := by have : decide ((j : Int) < ((((F.map fun (x : Nat) => (x : Int))).map irow).length : Int)) = false := hjt; have := of_decide_eq_false this; omega
      rw [List.drop_of_length_le hjt] at hR
      have hR2 : R = OH (N - k) (lk, todo) (k + 1) := hR
      conv => whnf
      refine ⟨fun _ => ?_, fun h => absurd rfl h⟩
      conv => whnf
      exact ⟨(((lk, todo), fd), k + 1), [0, 1, 2, 3], [], Sub.mk' rfl ⟨⟨rfl, rfl⟩, ⟨rfl, rfl⟩, ⟨rfl, rfl⟩, ⟨rfl, rfl⟩, .inl (ti_succ hk (by omega)), trivial⟩ ⟨⟨rfl, .inl rfl, .inl rfl, .inl rfl, .inl rfl, trivial⟩, ⟨rfl, rfl, rfl, rfl⟩, ⟨rfl, rfl, rfl, rfl⟩, ⟨rfl, rfl, rfl, rfl⟩, trivial⟩ rfl rfl, ⟨hI, hk, hfd, by rw [hR2, show N + 1 - (k + 1) = N - k by omega]⟩, by show N + 1 - (k + 1) < N + 1 - k; omega⟩
  · replace hkt : todo.length ≤ k := by have : decide ((k : Int) < (todo.length : Int)) = false := hkt; have := of_decide_eq_false this; omega
    have hRe : R = (lk, -1) := by
      rw [hO1]
      show (match todo[k]? with | none => _ | some a => _) = _
      rw [List.getElem?_eq_none hkt]
    subst hRe
    conv => whnf
    refine ⟨fun _ => ?_, fun h => absurd rfl h⟩
    conv => whnf
    exact ⟨⟨⟨rfl, (by show N ≤ (lk.map hrow).length; rw [List.length_map]; omega), (by show heT lk = Tr.lst 1 24 ((lk.map hrow).take N); rw [List.take_of_length_le (by rw [List.length_map]; omega)])⟩, .inl rfl, trivial⟩, trivial⟩
end Go.Proofs.YthboippafkcoiaaGreatDoor.am
