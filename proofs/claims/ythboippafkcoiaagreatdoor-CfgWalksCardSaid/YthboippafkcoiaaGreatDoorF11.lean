/- The layings of the library's contracts (written by the kit's lay-shelf and lay-plain). Contracts of Go's library, and of reading and writing words, for the abstract machine. Contracts of cfg: the texts of begins' nodes. Plain: the dominators and depths of begins' graph. Contracts of chapter 06's law: begins. Contracts of the reference: Follows, CopyGraph. Plain: the ways on as the reference tells them. Contracts of the reference: Whole, without, Reached. Contracts of the reference: Ahead, dominates. Contracts of the reference: dominates, Dominators. Contracts of the reference: Dominators; of cfg where a graph is not whole. Contract of the reference: Depth. The walk of CfgTree. The walk of CfgTree, for every graph. The law CfgWalks. -/
import Derived.Shelf.Strconv.Itoa0
import Derived.Shelf.Strconv.Itoa1
import Derived.Shelf.LaysM
import Derived.Shelf.Strconv.Itoa2
import Derived.Shelf.Strconv.Itoa3
import Derived.Test.YthboippafkcoiaaGreatDoorProg
import Derived.Test.YthboippafkcoiaaGreatDoorF7
import Derived.Test.YthboippafkcoiaaGreatDoorF9
import Derived.Lib.ItoaLen
import Derived.Lib.AppendIntMem
import Derived.Test.YthboippafkcoiaaGreatDoorF5
set_option linter.all false

set_option linter.all false
namespace Go.Proofs
open Go.Shelf
def Tryz.laysM171_ren : Go.Shelf.Ren := ⟨fun | 171 => 74 | 243 => 119 | 246 => 156 | 283 => 171 | 284 => 172 | 285 => 173 | 286 => 174 | 129 => 182 | 317 => 181 | 318 => 183 | 319 => 184 | 320 => 185 | 337 => 195 | 338 => 196 | n => n, fun | 3 => 3 | 9 => 9 | 2 => 2 | 4 => 4 | 171 => 205 | 0 => 0 | 53 => 169 | 37 => 126 | 5 => 5 | 173 => 208 | 212 => 219 | 51 => 220 | 20 => 20 | 213 => 221 | 46 => 191 | 232 => 237 | 233 => 238 | n => n, fun | 17 => 1 | 18 => 2 | 19 => 3 | n => n⟩
theorem Tryz.laysM171 : Go.Proofs.LaysM.n171 Tryz.prog Tryz.laysM171_ren := {
  mixed := by kernel_rfl
  f129 := Tryz.func182.trans (congrArg some (by kernel_rfl))
  f171 := Tryz.func74.trans (congrArg some (by kernel_rfl))
  f243 := Tryz.func119.trans (congrArg some (by kernel_rfl))
  f246 := Tryz.func156.trans (congrArg some (by kernel_rfl))
  f283 := Tryz.func171.trans (congrArg some (by kernel_rfl))
  f284 := Tryz.func172.trans (congrArg some (by kernel_rfl))
  f285 := Tryz.func173.trans (congrArg some (by kernel_rfl))
  f286 := Tryz.func174.trans (congrArg some (by kernel_rfl))
  f317 := Tryz.func181.trans (congrArg some (by kernel_rfl))
  f318 := Tryz.func183.trans (congrArg some (by kernel_rfl))
  f319 := Tryz.func184.trans (congrArg some (by kernel_rfl))
  f320 := Tryz.func185.trans (congrArg some (by kernel_rfl))
  f337 := Tryz.func195.trans (congrArg some (by kernel_rfl))
  f338 := Tryz.func196.trans (congrArg some (by kernel_rfl))
  t0 := Tryz.underlying0
  a0 := Tryz.isAgg0
  z0 := Tryz.sizeOf0
  v0 := Tryz.zeroValue0
  t2 := Tryz.underlying2
  a2 := Tryz.isAgg2
  z2 := Tryz.sizeOf2
  v2 := Tryz.zeroValue2
  t3 := Tryz.underlying3
  a3 := Tryz.isAgg3
  z3 := Tryz.sizeOf3
  v3 := Tryz.zeroValue3
  t4 := Tryz.underlying4
  a4 := Tryz.isAgg4
  z4 := Tryz.sizeOf4
  v4 := Tryz.zeroValue4
  t5 := Tryz.underlying5
  a5 := Tryz.isAgg5
  z5 := Tryz.sizeOf5
  v5 := Tryz.zeroValue5
  t9 := Tryz.underlying9
  a9 := Tryz.isAgg9
  z9 := Tryz.sizeOf9
  v9 := Tryz.zeroValue9
  t20 := Tryz.underlying20
  a20 := Tryz.isAgg20
  z20 := Tryz.sizeOf20
  v20 := Tryz.zeroValue20
  t37 := Tryz.underlying126
  a37 := Tryz.isAgg126
  z37 := Tryz.sizeOf126
  v37 := Tryz.zeroValue126
  t46 := Tryz.underlying191
  a46 := Tryz.isAgg191
  z46 := Tryz.sizeOf191
  v46 := Tryz.zeroValue191
  t51 := Tryz.underlying220
  a51 := Tryz.isAgg220
  z51 := Tryz.sizeOf220
  v51 := Tryz.zeroValue220
  t53 := Tryz.underlying169
  a53 := Tryz.isAgg169
  z53 := Tryz.sizeOf169
  v53 := Tryz.zeroValue169
  t171 := Tryz.underlying205
  a171 := Tryz.isAgg205
  z171 := Tryz.sizeOf205
  v171 := Tryz.zeroValue205
  t173 := Tryz.underlying208
  a173 := Tryz.isAgg208
  z173 := Tryz.sizeOf208
  v173 := Tryz.zeroValue208
  t212 := Tryz.underlying219
  a212 := Tryz.isAgg219
  z212 := Tryz.sizeOf219
  v212 := Tryz.zeroValue219
  t213 := Tryz.underlying221
  a213 := Tryz.isAgg221
  z213 := Tryz.sizeOf221
  t232 := Tryz.underlying237
  a232 := Tryz.isAgg237
  z232 := Tryz.sizeOf237
  v232 := Tryz.zeroValue237
  t233 := Tryz.underlying238
  a233 := Tryz.isAgg238
  z233 := Tryz.sizeOf238
  v233 := Tryz.zeroValue238
  g17 := by kernel_rfl
  g18 := by kernel_rfl
  g19 := by kernel_rfl
  i0 := by kernel_rfl
  i2 := by kernel_rfl
  i3 := by kernel_rfl
  i4 := by kernel_rfl
  i5 := by kernel_rfl
  i9 := by kernel_rfl
  i20 := by kernel_rfl
  i37 := by kernel_rfl
  i46 := by kernel_rfl
  i51 := by kernel_rfl
  i53 := by kernel_rfl
  i171 := by kernel_rfl
  i173 := by kernel_rfl
  i212 := by kernel_rfl
  i232 := by kernel_rfl
  i233 := by kernel_rfl
  m17 := by kernel_rfl
  m18 := by kernel_rfl
  m19 := by kernel_rfl }

end Go.Proofs

namespace Go.Proofs.YthboippafkcoiaaGreatDoor.am
open Go Go.Proofs Go.RowKit

/-- a contract out of a law on calls: a function that only makes blocks of its own -/
theorem Ctr.ofCalls {f : Nat} {args : List AV} {a : AV} (hc : Callable Tryz.prog f) (h : ∀ (g : Gh) (w : World) (vs : Array Value), MSt g w (ofL []) → vs.size = args.length → (∀ (i : Nat) (v : Value) (a : AV), vs[i]? = some v → args[i]? = some a → Rep g w v a) →
    Calls Tryz.prog f vs w fun e w' => ∃ v, e = .returned v ∧ Below w.heap.size w w' ∧ (Grow g w g w' → MSt g w' (ofLO []) → Rep g w' v a)) : K f args [] (.ret a) [] := by
  refine ⟨hc, fun g w vs hun hm hsz hv => (h g w vs hm hsz hv).mono ?_⟩
  rintro e w' ⟨v, rfl, hb, hR⟩
  have hG : Grow g w g w' := ⟨hb.os, hb.tape, hb.output, hb.size, fun b hk => hb.block b hk.1, fun b hk => hb.block b (hm.xlt b hk), rfl, fun _ h => h, fun _ _ h => .inl h, fun k b e => .inl ⟨k, e⟩⟩
  have hM : MSt g w' (ofLO []) := ⟨fun h b e => (by simp [ofLO] at e), hm.inj, fun k b e => Nat.lt_of_lt_of_le (hm.lt k b e) hb.size, fun b hk => Nat.lt_of_lt_of_le (hm.xlt b hk) hb.size, hm.xl, hm.gl.grow hG⟩
  exact ⟨g, hG, hM, fun k _ l hl => (by have := hun k (Nat.zero_le _); rw [this] at hl; cases hl), hR hG hM⟩
theorem one_arg {vs : Array Value} (h : vs.size = 1) : ∃ v, vs = #[v] := by
  obtain ⟨l⟩ := vs
  match l, h with
  | [v], _ => exact ⟨v, rfl⟩
/-! the table of the powers of ten -/
theorem powTab {g : Gh} {w : World} (h : GL g w) {name : String} (hn : Tryz.prog.globalNamed name = some 1) : Lib.TabIs Tryz.prog w name .u64 Lib.pow10Tab := by
  obtain ⟨_, t, fz, e⟩ := h _ _ ⟨rfl, rfl⟩
  unfold Lib.TabIs World.var?
  rw [hn, Option.bind_some, e]
  rfl

def prnB (n : Int) : ByteArray := ⟨(ws.prn n).toArray⟩
theorem decDigits_dig (u : Nat) : Lib.decDigits u = ws.dig u := by
  induction u using Nat.strongRecOn with
  | _ u ih =>
    by_cases h : u < 10
    · rw [Lib.decDigits, dif_pos h, ws.dig_small h]; rfl
    · rw [Lib.decDigits, dif_neg h, ws.dig_big h, ih (u / 10) (by omega)]; rfl
theorem itoa_prn (n : Int) : Lib.itoa n = ws.prn n := by
  unfold Lib.itoa ws.prn
  split
  · rw [decDigits_dig, show n.natAbs = (-n).toNat by omega]
  · rw [decDigits_dig]
theorem prn_len {n : Int} (h1 : -9223372036854775808 ≤ n) (h2 : n ≤ 9223372036854775807) : (prnB n).size ≤ 21 := by
  show (ws.prn n).toArray.size ≤ 21
  rw [List.size_toArray, ← itoa_prn]
  exact Lib.itoa_length_le n h1 h2
theorem k_itoa (n : Int) : K 74 [.tr (ti n)] [] (.ret (.tr (ts (prnB n)))) [] := by
  refine Ctr.ofCalls (fun _ _ => by kernel_rfl) fun g w vs hm hsz hv => ?_
  obtain ⟨v, rfl⟩ := one_arg hsz
  obtain ⟨rfl, h1, h2⟩ := val_inv (hv 0 v (.tr (ti n)) rfl rfl)
  refine (Any.strconv_Itoa Tryz.laysM171 n h1 h2 w (powTab hm.gl (by kernel_rfl))).mono ?_
  rintro e w' ⟨rfl, k, os, rfl⟩
  rw [itoa_prn]
  exact ⟨_, rfl, Lib.below_grow _ _ (Nat.le_refl _) _ _, fun _ _ => .tr (.v (Nat.le_trans (prn_len h1 h2) (by omega)))⟩
end Go.Proofs.YthboippafkcoiaaGreatDoor.am

namespace Go.Proofs.YthboippafkcoiaaGreatDoor.am
open Go Go.Proofs
set_option linter.all false

theorem prn_0 : prnB 0 = ⟨#[48]⟩ := by unfold prnB ws.prn; rw [if_neg (by decide), show (0 : Int).toNat = 0 from rfl, ws.dig_small (by decide)]; rfl
theorem prn_1 : prnB 1 = ⟨#[49]⟩ := by unfold prnB ws.prn; rw [if_neg (by decide), show (1 : Int).toNat = 1 from rfl, ws.dig_small (by decide)]; rfl
theorem prn_2 : prnB 2 = ⟨#[50]⟩ := by unfold prnB ws.prn; rw [if_neg (by decide), show (2 : Int).toNat = 2 from rfl, ws.dig_small (by decide)]; rfl
theorem k_itoa0 : K 74 [.tr (ti 0)] [] (.ret (.tr (ts ⟨#[48]⟩))) [] := by have := k_itoa 0; rwa [prn_0] at this
theorem k_itoa1 : K 74 [.tr (ti 1)] [] (.ret (.tr (ts ⟨#[49]⟩))) [] := by have := k_itoa 1; rwa [prn_1] at this
theorem k_itoa2 : K 74 [.tr (ti 2)] [] (.ret (.tr (ts ⟨#[50]⟩))) [] := by have := k_itoa 2; rwa [prn_2] at this
set_option maxRecDepth 100000 in
theorem k_slot0T : K 158 [.tr (ti 0)] [] (.ret (.tr (ts ⟨#[115, 48]⟩))) [] := by
  refine Ctr.of hT hmix Tryz.func158 rfl (fun _ _ => by kernel_rfl) rfl fun hok => ?_
  clear hok
  conv => whnf
  refine acall.pure _ (k_itoa0) rfl rfl fun _ => ?_
  conv => whnf
  refine ⟨by decide, ?_⟩
  conv => whnf
  exact ⟨.inl (congrArg ts (by kernel_rfl)), trivial⟩
set_option maxRecDepth 100000 in
theorem k_valS0 : K 159 [valA true 0 0] [] (.ret (.tr (ts ⟨#[115, 48]⟩))) [] := by
  refine Ctr.of hT hmix Tryz.func159 rfl (fun _ _ => by kernel_rfl) rfl fun hok => ?_
  clear hok
  conv => whnf
  refine acall.pure _ (k_slot0T) rfl rfl fun _ => ?_
  conv => whnf
  exact ⟨.inl rfl, trivial⟩
def u0 : Un := ⟨p0.shared, [], [g0]⟩
set_option maxRecDepth 100000 in
theorem k_thing0 : K 157 [.ptr 0 0, .ptr 1 0] [.cells 75 (nd0a.cells.map .tr), .cells 29 (u0.cells.map .tr)] (.ret (.tr (ts xS))) [some (.cells 75 (nd0a.cells.map .tr)), some (.cells 29 (u0.cells.map .tr))] := by
  refine Ctr.of hT hmix Tryz.func157 rfl (fun _ _ => by kernel_rfl) rfl fun hok => ?_
  clear hok
  conv => whnf
  refine ⟨rfl, by decide, by decide, fun row hrow => ?_⟩
  obtain rfl : Decl.cells ⟨xS, 0, 0⟩ = row := Option.some.inj hrow
  clear hrow
  conv => whnf
  exact ⟨.inl rfl, ⟨rfl, .inl rfl, .inl rfl, .inl rfl, .inl rfl, .inl rfl, .inl rfl, .inl rfl, .inl rfl, .inl rfl, .inl rfl, .inl rfl, .inl rfl, .inl rfl, trivial⟩, ⟨rfl, .inl rfl, .inl rfl, .inl rfl, trivial⟩, trivial⟩
set_option maxRecDepth 100000 in
theorem k_does2 : K 120 [u0.av, en0.av] [] (.ret (.tr (ts ⟨#[101, 110, 100]⟩))) [] := by
  refine Ctr.of hT hmix Tryz.func120 rfl (fun _ _ => by kernel_rfl) rfl fun hok => ?_
  clear hok
  conv => whnf
  exact ⟨.inl rfl, trivial⟩
set_option maxRecDepth 100000 in
theorem k_does1 : K 120 [u0.av, br0e.av] [] (.ret (.tr (ts ⟨#[98, 114, 97, 110, 99, 104, 32, 115, 48]⟩))) [] := by
  refine Ctr.of hT hmix Tryz.func120 rfl (fun _ _ => by kernel_rfl) rfl fun hok => ?_
  clear hok
  conv => whnf
  refine acall.pure _ (k_valS0) rfl rfl fun _ => ?_
  conv => whnf
  refine ⟨by decide, ?_⟩
  conv => whnf
  exact ⟨.inl (congrArg ts (by kernel_rfl)), trivial⟩
set_option maxRecDepth 100000 in
theorem k_does0 : K 120 [u0.av, nd0a.av] [] (.ret (.tr (ts ⟨#[115, 48, 32, 61, 32, 120]⟩))) [] := by
  refine Ctr.of hT hmix Tryz.func120 rfl (fun _ _ => by kernel_rfl) rfl fun hok => ?_
  clear hok
  conv => whnf
  refine acall.pure _ (k_slot0T) rfl rfl fun _ => ?_
  conv => whnf
  refine ⟨by decide, ?_⟩
  conv => whnf
  refine acall.au [1, 0] [] (k_thing0) ?_
  intro _
  conv => whnf
  refine ⟨by decide, ?_⟩
  conv => whnf
  exact ⟨.inl (congrArg ts (by kernel_rfl)), trivial⟩
set_option maxRecDepth 100000 in
theorem k_text0 : K 75 [u0.av, nd0a.av] [] (.ret (.tr (ts ⟨#[115, 48, 32, 61, 32, 120, 32, 45, 62, 32, 49]⟩))) [] := by
  refine Ctr.of hT hmix Tryz.func75 rfl (fun _ _ => by kernel_rfl) rfl fun hok => ?_
  clear hok
  conv => whnf
  refine acall.pure _ (k_does0) rfl rfl fun _ => ?_
  conv => whnf
  refine acall.pure _ (k_itoa1) rfl rfl fun _ => ?_
  conv => whnf
  refine ⟨by decide, ?_⟩
  conv => whnf
  refine ⟨by decide, ?_⟩
  conv => whnf
  exact ⟨.inl (congrArg ts (by kernel_rfl)), trivial⟩
set_option maxRecDepth 100000 in
theorem k_text1 : K 75 [u0.av, br0e.av] [] (.ret (.tr (ts ⟨#[98, 114, 97, 110, 99, 104, 32, 115, 48, 32, 45, 62, 32, 48, 32, 50]⟩))) [] := by
  refine Ctr.of hT hmix Tryz.func75 rfl (fun _ _ => by kernel_rfl) rfl fun hok => ?_
  clear hok
  conv => whnf
  refine acall.pure _ (k_does1) rfl rfl fun _ => ?_
  conv => whnf
  refine acall.pure _ (k_itoa0) rfl rfl fun _ => ?_
  conv => whnf
  refine ⟨by decide, ?_⟩
  conv => whnf
  refine ⟨by decide, ?_⟩
  conv => whnf
  refine acall.pure _ (k_itoa2) rfl rfl fun _ => ?_
  conv => whnf
  refine ⟨by decide, ?_⟩
  conv => whnf
  refine ⟨by decide, ?_⟩
  conv => whnf
  exact ⟨.inl (congrArg ts (by kernel_rfl)), trivial⟩
set_option maxRecDepth 100000 in
theorem k_text2 : K 75 [u0.av, en0.av] [] (.ret (.tr (ts ⟨#[101, 110, 100]⟩))) [] := by
  refine Ctr.of hT hmix Tryz.func75 rfl (fun _ _ => by kernel_rfl) rfl fun hok => ?_
  clear hok
  conv => whnf
  refine acall.pure _ (k_does2) rfl rfl fun _ => ?_
  conv => whnf
  exact ⟨.inl (congrArg ts (by kernel_rfl)), trivial⟩
def prP : Nat → List UInt8
  | 0 => [116, 104, 114, 101, 97, 100, 32, 97, 10]
  | 1 => [116, 104, 114, 101, 97, 100, 32, 97, 10, 48, 32, 115, 48, 32, 61, 32, 120, 32, 45, 62, 32, 49, 10]
  | 2 => [116, 104, 114, 101, 97, 100, 32, 97, 10, 48, 32, 115, 48, 32, 61, 32, 120, 32, 45, 62, 32, 49, 10, 49, 32, 98, 114, 97, 110, 99, 104, 32, 115, 48, 32, 45, 62, 32, 48, 32, 50, 10]
  | _ => [116, 104, 114, 101, 97, 100, 32, 97, 10, 48, 32, 115, 48, 32, 61, 32, 120, 32, 45, 62, 32, 49, 10, 49, 32, 98, 114, 97, 110, 99, 104, 32, 115, 48, 32, 45, 62, 32, 48, 32, 50, 10, 50, 32, 101, 110, 100, 10]
abbrev prB (l : List UInt8) : Blk := .vec 5 1 1 (brows l)
set_option maxRecDepth 100000 in
theorem k_print0 : K 33 [u0.av] [] (.ret (.tup [.tr (ts ⟨#[116, 104, 114, 101, 97, 100, 32, 97, 10, 48, 32, 115, 48, 32, 61, 32, 120, 32, 45, 62, 32, 49, 10, 49, 32, 98, 114, 97, 110, 99, 104, 32, 115, 48, 32, 45, 62, 32, 48, 32, 50, 10, 50, 32, 101, 110, 100, 10]⟩), .tr (ti 0)])) [] := by
  have hch := k_check u0
  rw [show (checkU u0).1 = 0 from by kernel_rfl, show (checkU u0).2.1 = 0 from by kernel_rfl, show (checkU u0).2.2 = 0 from by kernel_rfl] at hch
  refine Ctr.of hT hmix Tryz.func33 rfl (fun _ _ => by kernel_rfl) rfl fun hok => ?_
  clear hok
  conv => whnf
  refine acall.pure _ (hch) rfl rfl fun _ => ?_
  conv => whnf
  refine .inl ⟨2, ?_⟩
  conv => whnf
  refine ⟨rfl, Int.le_refl _, (by decide), fun row hrow => ?_⟩
  obtain rfl : Gr.cells g0 = row := Option.some.inj hrow
  clear hrow
  conv => whnf
  refine ⟨by decide, ?_⟩
  conv => whnf
  refine ⟨by decide, ?_⟩
  conv => whnf
  refine ⟨by decide, ?_⟩
  conv => whnf
  refine LoopL.by (fun i : Nat => ⟨[(1, .ptr 0 0), (7, .sl 1 (prP i).length), (22, .tr (graphsT [g0])), (23, .tr (ti 1)), (24, .tr (ti 0)), (35, .tr (nodesT g0.nodes)), (36, .tr (ti 3)), (37, .tr (ti (i : Nat)))], [(0, .cells 29 (u0.cells.map .tr)), (1, prB (prP i))], 10⟩) (fun i => i ≤ 3) (fun i => 3 - i) 0 [_, _] []
    (Sub.mk' rfl ⟨⟨rfl, rfl⟩, ⟨rfl, rfl⟩, .inl rfl, .inl rfl, .inl rfl, .inl rfl, .inl rfl, .inl rfl, trivial⟩ ⟨⟨rfl, .inl rfl, .inl rfl, .inl rfl, trivial⟩, ⟨rfl, rfl, rfl, rfl⟩, trivial⟩ rfl rfl) (Nat.zero_le _) ?_
  rintro i hi -
  have hi4 : i = 0 ∨ i = 1 ∨ i = 2 ∨ i = 3 := by omega
  clear hi
  rcases hi4 with rfl | rfl | rfl | rfl
  · conv => whnf
    refine ⟨rfl, by decide, by decide, fun row hrow => ?_⟩
    obtain rfl : Nd.cells nd0a = row := Option.some.inj hrow
    clear hrow
    conv => whnf
    refine acall.pure _ (k_itoa0) rfl rfl ?_
    conv => whnf
    refine ⟨by decide, ?_⟩
    conv => whnf
    refine acall.pure _ (k_text0) rfl rfl ?_
    conv => whnf
    refine ⟨by decide, ?_⟩
    conv => whnf
    refine ⟨by decide, ?_⟩
    conv => whnf
    refine ⟨rfl, rfl, rfl, by decide, by decide, ?_⟩
    conv => whnf
    refine ⟨by kernel_rfl, fun _ => ?_⟩
    conv => whnf
    exact ⟨1, [0, _], [], Sub.mk' rfl ⟨⟨rfl, rfl⟩, ⟨rfl, by kernel_rfl⟩, .inl rfl, .inl rfl, .inl rfl, .inl rfl, .inl rfl, .inl rfl, trivial⟩ ⟨⟨rfl, .inl rfl, .inl rfl, .inl rfl, trivial⟩, ⟨rfl, rfl, rfl, by kernel_rfl⟩, trivial⟩ rfl rfl, by decide, by decide⟩
  · conv => whnf
    refine ⟨rfl, by decide, by decide, fun row hrow => ?_⟩
    obtain rfl : Nd.cells br0e = row := Option.some.inj hrow
    clear hrow
    conv => whnf
    refine acall.pure _ (k_itoa1) rfl rfl ?_
    conv => whnf
    refine ⟨by decide, ?_⟩
    conv => whnf
    refine acall.pure _ (k_text1) rfl rfl ?_
    conv => whnf
    refine ⟨by decide, ?_⟩
    conv => whnf
    refine ⟨by decide, ?_⟩
    conv => whnf
    refine ⟨rfl, rfl, rfl, by decide, by decide, ?_⟩
    conv => whnf
    refine ⟨by kernel_rfl, fun _ => ?_⟩
    conv => whnf
    exact ⟨2, [0, _], [], Sub.mk' rfl ⟨⟨rfl, rfl⟩, ⟨rfl, by kernel_rfl⟩, .inl rfl, .inl rfl, .inl rfl, .inl rfl, .inl rfl, .inl rfl, trivial⟩ ⟨⟨rfl, .inl rfl, .inl rfl, .inl rfl, trivial⟩, ⟨rfl, rfl, rfl, by kernel_rfl⟩, trivial⟩ rfl rfl, by decide, by decide⟩
  · conv => whnf
    refine ⟨rfl, by decide, by decide, fun row hrow => ?_⟩
    obtain rfl : Nd.cells en0 = row := Option.some.inj hrow
    clear hrow
    conv => whnf
    refine acall.pure _ (k_itoa2) rfl rfl ?_
    conv => whnf
    refine ⟨by decide, ?_⟩
    conv => whnf
    refine acall.pure _ (k_text2) rfl rfl ?_
    conv => whnf
    refine ⟨by decide, ?_⟩
    conv => whnf
    refine ⟨by decide, ?_⟩
    conv => whnf
    refine ⟨rfl, rfl, rfl, by decide, by decide, ?_⟩
    conv => whnf
    refine ⟨by kernel_rfl, fun _ => ?_⟩
    conv => whnf
    exact ⟨3, [0, _], [], Sub.mk' rfl ⟨⟨rfl, rfl⟩, ⟨rfl, by kernel_rfl⟩, .inl rfl, .inl rfl, .inl rfl, .inl rfl, .inl rfl, .inl rfl, trivial⟩ ⟨⟨rfl, .inl rfl, .inl rfl, .inl rfl, trivial⟩, ⟨rfl, rfl, rfl, by kernel_rfl⟩, trivial⟩ rfl rfl, by decide, by decide⟩
  · conv => whnf
    refine ⟨fun _ => ?_, fun h => absurd rfl h⟩
    conv => whnf
    refine ⟨fun _ => ?_, fun h => absurd rfl h⟩
    conv => whnf
    refine ⟨prP 3, by kernel_rfl, by decide, ?_⟩
    conv => whnf
    exact ⟨⟨.inl (congrArg ts (by kernel_rfl)), .inl rfl, trivial⟩, trivial⟩
end Go.Proofs.YthboippafkcoiaaGreatDoor.am

namespace Go.Proofs.YthboippafkcoiaaGreatDoor.am
open Go Go.Proofs
set_option linter.all false

theorem f0_0 : fol g0 0 = [1] := by kernel_rfl
theorem f0_1 : fol g0 1 = [0, 2] := by kernel_rfl
theorem f0_2 : fol g0 2 = [] := by kernel_rfl
theorem f0_n (n : Nat) : fol g0 (n + 3) = [] := by
  unfold fol
  rw [List.getElem?_eq_none (show g0.nodes.length ≤ n + 3 from Nat.le_add_left 3 n)]
theorem f0_lt : ∀ a, ∀ b ∈ fol g0 a, b < 3
  | 0, b, h => by rw [f0_0] at h; simp at h; omega
  | 1, b, h => by rw [f0_1] at h; simp at h; omega
  | 2, b, h => by rw [f0_2] at h; cases h
  | n + 3, b, h => by rw [f0_n] at h; cases h
theorem r0_0 {c : Int} : Rch (fol g0) c 0 := .zero
theorem r0_1 {c : Int} (h : c ≠ 0) : Rch (fol g0) c 1 := .step .zero (fun w => h w.symm) (by rw [f0_0]; simp)
theorem r0_2 : Rch (fol g0) (-1) 2 := .step (r0_1 (by decide)) (by decide) (by rw [f0_1]; simp)
theorem d01 : Dm (fol g0) 0 1 := dm_zero (r0_1 (by decide))
theorem d12 : Dm (fol g0) 1 2 := by
  refine ⟨r0_1 (by decide), r0_2, .inr fun h => ?_⟩
  have : ∀ y, Rch (fol g0) ((1 : Nat) : Int) y → y = 0 ∨ y = 1 := fun y hy => by
    induction hy with
    | zero => exact .inl rfl
    | step _ h1 h2 ih =>
      rcases ih with rfl | rfl
      · rw [f0_0] at h2; simp at h2; exact .inr h2
      · exact absurd rfl h1
  rcases this 2 h with w | w <;> cases w
theorem nd21 : ¬ Dm (fol g0) 2 1 := fun h => h.2.2.elim (fun w => by cases w) fun w => w (r0_1 (by decide))
theorem nd10 : ¬ Dm (fol g0) 1 0 := not_dm_zero (by decide)
theorem lt0 {c x : Nat} (h : Dm (fol g0) c x) : c = 0 ∨ c = 1 ∨ c = 2 := by
  have := h.1.lt (N := 3) (by decide) f0_lt
  omega
theorem idom0 : idomL (fol g0) 3 = [-1, 0, 1] := by
  have e := fun x v h => idomI_eq (fol := fol g0) (N := 3) (by decide) f0_lt (x := x) (v := v) h
  show [idomI (fol g0) 0, idomI (fol g0) 1, idomI (fol g0) 2] = _
  rw [e 0 (-1) (.inl ⟨rfl, .inl rfl⟩), e 1 0 (.inr ⟨by decide, 0, rfl, by decide, d01, fun c hc hd => ?_⟩), e 2 1 (.inr ⟨by decide, 1, rfl, by decide, d12, fun c hc hd => ?_⟩)]
  · rcases lt0 hd with rfl | rfl | rfl
    · exact d01
    · exact dm_refl (r0_1 (by decide))
    · exact absurd rfl hc
  · rcases lt0 hd with rfl | rfl | rfl
    · exact dm_refl r0_0
    · exact absurd rfl hc
    · exact absurd hd nd21
theorem in00 : InLoop (fol g0) 0 0 := ⟨⟨1, d01, by rw [f0_1]; simp⟩, .inl rfl⟩
theorem in01 : InLoop (fol g0) 0 1 := ⟨⟨1, d01, by rw [f0_1]; simp⟩, .inr (.back d01 (by rw [f0_1]; simp) (by decide))⟩
theorem nin02 : ¬ InLoop (fol g0) 0 2 := fun h => h.2.elim (fun w => by cases w) fun w => by
  cases w with
  | back _ h2 _ => rw [f0_2] at h2; cases h2
  | pre _ h2 _ _ => rw [f0_2] at h2; cases h2
theorem nback1 : ¬ HasBack (fol g0) 1 := fun ⟨a, h1, h2⟩ => by
  match a, h1, h2 with
  | 0, h1, _ => exact nd10 h1
  | 1, _, h2 => rw [f0_1] at h2; simp at h2
  | 2, _, h2 => rw [f0_2] at h2; cases h2
  | n + 3, _, h2 => rw [f0_n] at h2; cases h2
theorem nback2 : ¬ HasBack (fol g0) 2 := fun ⟨a, h1, h2⟩ => by
  match a, h1, h2 with
  | 0, _, h2 => rw [f0_0] at h2; simp at h2
  | 1, h1, _ => exact nd21 h1
  | 2, _, h2 => rw [f0_2] at h2; cases h2
  | n + 3, _, h2 => rw [f0_n] at h2; cases h2
theorem depth0 : depthL (fol g0) 3 = [1, 1, 0] := by
  have z : ∀ n, depthN (fol g0) 0 n = 0 := fun n => by simp [depthN]
  have s : ∀ n, depthN (fol g0) 3 n = depthN (fol g0) 1 n := fun n => by
    rw [depthN_succ, depthN_succ, if_neg fun w => nback1 w.1, if_neg fun w => nback2 w.1]; rfl
  show [depthN (fol g0) 3 0, depthN (fol g0) 3 1, depthN (fol g0) 3 2] = _
  rw [s, s, s, depthN_succ, depthN_succ, depthN_succ, z, z, z, if_pos in00, if_pos in01, if_neg nin02]
end Go.Proofs.YthboippafkcoiaaGreatDoor.am

namespace Go.Proofs.YthboippafkcoiaaGreatDoor.am
open Go Go.Proofs
set_option linter.all false

set_option maxRecDepth 100000 in
theorem k_rsame (l l' : List Int) : K 60 [.tr (intsT l), .tr (intsT l')] [] (.ret (.tr (tb (eqI2 l l')))) [] := by
  have h1 : (l.map irow).length = l.length := List.length_map ..
  have h2 : (l'.map irow).length = l'.length := List.length_map ..
  refine Ctr.of hT hmix Tryz.func60 rfl (fun _ _ => by kernel_rfl) rfl fun hok => ?_
  obtain ⟨_, hl1, _⟩ := (hok.slot 0 rfl).tr.lst
  rw [List.length_map] at hl1
  clear hok
  conv => whnf
  cases hc : (((l.map irow).length : Int) != ((l'.map irow).length : Int)) with
  | true =>
    conv => whnf
    exact ⟨.inl (congrArg tb (by rw [h1, h2] at hc; unfold eqI2; rw [hc]; rfl)), trivial⟩
  | false =>
  have hE : eqI2 l l' = eqI l l' := by rw [h1, h2] at hc; unfold eqI2; rw [hc]; rfl
  have hll : l.length = l'.length := by
    rw [h1, h2] at hc
    refine Classical.byContradiction fun w => ?_
    rw [bne_iff_ne.2 (fun e => w (by omega))] at hc
    cases hc
  rw [hE]
  generalize hR : eqI l l' = R
  clear hE hc
  conv => whnf
  refine LoopL.by (fun i : Nat => ⟨[(0, .tr (intsT l)), (1, .tr (intsT l')), (5, .tr (ti i))], [], 10⟩) (fun i => i ≤ l.length ∧ R = eqI (l.drop i) (l'.drop i)) (fun i => l.length - i) 0 [] []
    (Sub.mk' rfl ⟨.inl rfl, .inl rfl, .inl rfl, trivial⟩ trivial rfl rfl) ⟨Nat.zero_le _, hR.symm⟩ ?_
  clear hR
  rintro i ⟨hi, hR⟩ -
  conv => whnf
  refine csplit (fun hit => ?_) (fun hit => ?_)
  · have hit : i < l.length := by have : decide ((i : Int) < ((l.map irow).length : Int)) = true := hit; have := of_decide_eq_true this; omega
    obtain ⟨a, ha⟩ : ∃ a, l[i]? = some a := ⟨_, List.getElem?_eq_getElem hit⟩
    obtain ⟨b, hb⟩ : ∃ b, l'[i]? = some b := ⟨_, List.getElem?_eq_getElem (by omega)⟩
    rw [drop_cons ha, drop_cons hb] at hR
    conv => whnf
    refine ⟨rfl, (show (0 : Int) ≤ i by omega), (show (i : Int) < ((l.map irow).length : Int) by omega), fun row hrow => ?_⟩
    obtain ⟨d, hd, rfl⟩ := int_get hrow
    obtain rfl := Option.some.inj (ha.symm.trans hd)
    clear hrow hd
    conv => whnf
    refine ⟨rfl, (show (0 : Int) ≤ i by omega), (show (i : Int) < ((l'.map irow).length : Int) by omega), fun row hrow => ?_⟩
    obtain ⟨d, hd, rfl⟩ := int_get hrow
    obtain rfl := Option.some.inj (hb.symm.trans hd)
    clear hrow hd
    conv => whnf
    refine ⟨by kernel_rfl, fun _ => ?_⟩
    conv => whnf
    cases hab : (a != b) with
    | true =>
      conv => whnf
      exact ⟨.inl (by rw [hR]; show tb false = tb (bif a != b then false else _); rw [hab]; rfl), trivial⟩
    | false =>
      replace hR : R = eqI (l.drop (i + 1)) (l'.drop (i + 1)) := by rw [hR]; show (bif a != b then false else _) = _; rw [hab]; rfl
      conv => whnf
      exact ⟨i + 1, [], [], Sub.mk' rfl ⟨.inl rfl, .inl rfl, .inl (ti_succ hit (by omega)), trivial⟩ trivial rfl rfl, ⟨hit, hR⟩, by show l.length - (i + 1) < l.length - i; omega⟩
  have hit : l.length ≤ i := by have : decide ((i : Int) < ((l.map irow).length : Int)) = false := hit; have := of_decide_eq_false this; omega
  rw [List.drop_of_length_le hit, List.drop_of_length_le (by omega)] at hR
  conv => whnf
  refine ⟨fun _ => ?_, fun h => absurd rfl h⟩
  conv => whnf
  exact ⟨.inl (by rw [hR]; rfl), trivial⟩
set_option maxRecDepth 100000 in
theorem k_ints (l l' : List Int) : K 23 [.tr (intsT l), .tr (intsT l')] [] (.ret (.tr (tb (eqI2 l l')))) [] := by
  have h := k_rsame l l'
  refine Ctr.of hT hmix Tryz.func23 rfl (fun _ _ => by kernel_rfl) rfl fun hok => ?_
  clear hok
  conv => whnf
  refine acall.pure _ (h) rfl rfl fun _ => ?_
  conv => whnf
  exact ⟨.inl rfl, trivial⟩
def prS : ByteArray := ⟨(prP 3).toArray⟩
set_option maxRecDepth 100000 in
theorem k_begins : K 14 [] [] (.ret (.tr (tb true))) [] := by
  have hlo := k_loop0
  have hlw := k_lower0
  have hch := k_check u0
  rw [show (checkU u0).1 = 0 from by kernel_rfl, show (checkU u0).2.1 = 0 from by kernel_rfl, show (checkU u0).2.2 = 0 from by kernel_rfl] at hch
  have hpr := k_print0
  obtain ⟨S, hS⟩ : ∃ S : ByteArray, S = ⟨#[116, 104, 114, 101, 97, 100, 32, 97, 10, 48, 32, 115, 48, 32, 61, 32, 120, 32, 45, 62, 32, 49, 10, 49, 32, 98, 114, 97, 110, 99, 104, 32, 115, 48, 32, 45, 62, 32, 48, 32, 50, 10, 50, 32, 101, 110, 100, 10]⟩ := ⟨_, rfl⟩
  replace hpr : K 33 [u0.av] [] (.ret (.tup [.tr (ts S), .tr (ti 0)])) [] := by rw [hS]; exact hpr
  have e : (S.toList == ByteArray.toList ⟨#[116, 104, 114, 101, 97, 100, 32, 97, 10, 48, 32, 115, 48, 32, 61, 32, 120, 32, 45, 62, 32, 49, 10, 49, 32, 98, 114, 97, 110, 99, 104, 32, 115, 48, 32, 45, 62, 32, 48, 32, 50, 10, 50, 32, 101, 110, 100, 10]⟩) = true := by rw [hS]; exact beq_self_eq_true _
  clear hS
  have hdp := k_depth g0 (by kernel_rfl)
  rw [show g0.nodes.length = 3 from rfl, depth0] at hdp
  have hdo := k_dominators g0 (by kernel_rfl)
  rw [show g0.nodes.length = 3 from rfl, idom0] at hdo
  have hi1 := k_ints [1, 1, 0] [1, 1, 0]
  rw [show eqI2 [1, 1, 0] [1, 1, 0] = true from by kernel_rfl] at hi1
  have hi2 := k_ints [-1, 0, 1] [-1, 0, 1]
  rw [show eqI2 [-1, 0, 1] [-1, 0, 1] = true from by kernel_rfl] at hi2
  refine Ctr.cut [6] hT hmix Tryz.func14 rfl (fun _ _ => by kernel_rfl) rfl fun hok => ?_
  clear hok
  conv => whnf
  refine acall.pure _ (hlo) rfl rfl fun _ => ?_
  conv => whnf
  refine acall.pure _ (hlw) rfl rfl fun _ => ?_
  conv => whnf
  refine acall.pure _ (hch) rfl rfl fun _ => ?_
  conv => whnf
  refine acall.pure _ (hpr) rfl rfl fun _ => ?_
  conv => whnf
  refine CutL.by (fun _ : Unit => ⟨[(0, .tr (tb false)), (1, .ptr 0 0)], [(0, .cells 29 (u0.cells.map .tr))], 10⟩) (fun _ => True) ?_ ?_
  · conv => whnf
    rw [e]
    conv => whnf
    exact ⟨(), [_], [], Sub.mk' rfl ⟨.inl rfl, ⟨rfl, rfl⟩, trivial⟩ ⟨⟨rfl, .inl rfl, .inl rfl, .inl rfl, trivial⟩, trivial⟩ rfl rfl, trivial⟩
  rintro - - -
  conv => whnf
  refine ⟨rfl, Int.le_refl _, (by decide), fun row hrow => ?_⟩
  obtain rfl : Gr.cells g0 = row := Option.some.inj hrow
  clear hrow
  conv => whnf
  refine acall.pure _ (hdp) rfl rfl fun _ => ?_
  conv => whnf
  refine acall.au [] [15] (hi1) ?_
  intro _
  conv => whnf
  refine ⟨rfl, Int.le_refl _, (by decide), fun row hrow => ?_⟩
  obtain rfl : Gr.cells g0 = row := Option.some.inj hrow
  clear hrow
  conv => whnf
  refine acall.pure _ (hdo) rfl rfl fun _ => ?_
  conv => whnf
  refine acall.au [] [23] (hi2) ?_
  intro _
  conv => whnf
  exact ⟨.inl rfl, trivial⟩
end Go.Proofs.YthboippafkcoiaaGreatDoor.am

namespace Go.Proofs.YthboippafkcoiaaGreatDoor.am
open Go Go.Proofs
set_option linter.all false

def rfolI (n : Nd) : List Int := bif n.kind == 9 then [] else bif n.kind == 8 then [n.next, n.els] else [n.next]
set_option maxRecDepth 100000 in
theorem k_rfollows (n : Nd) : K 62 [n.av] [] (.ret (.tr (intsT (rfolI n)))) [] := by
  refine Ctr.of hT hmix Tryz.func62 rfl (fun _ _ => by kernel_rfl) rfl fun hok => ?_
  clear hok
  conv => whnf
  cases h1 : (n.kind == 9) with
  | true =>
    conv => whnf
    exact ⟨.inr ⟨rfl, 1, 8, by unfold rfolI; rw [h1]; rfl⟩, trivial⟩
  | false =>
  conv => whnf
  cases h2 : (n.kind == 8) with
  | true =>
    conv => whnf
    exact ⟨⟨rfl, Nat.le_refl _, by unfold rfolI; rw [h1, h2]; rfl⟩, trivial⟩
  | false =>
    conv => whnf
    exact ⟨⟨rfl, Nat.le_refl _, by unfold rfolI; rw [h1, h2]; rfl⟩, trivial⟩
end Go.Proofs.YthboippafkcoiaaGreatDoor.am

namespace Go.Proofs.YthboippafkcoiaaGreatDoor.am
open Go Go.Proofs
set_option linter.all false

def rfol (g : Gr) (x : Nat) : List Nat := match g.nodes[x]? with | some n => (rfolI n).map Int.toNat | none => []
theorem rfolI_mem (n : Nd) (k : Int) : k ∈ rfolI n ↔ k ∈ folI n := by
  unfold rfolI folI
  cases h9 : (n.kind == 9) with
  | true => exact Iff.rfl
  | false =>
  cases h8 : (n.kind == 8) with
  | false => exact Iff.rfl
  | true =>
  cases he : (n.els != n.next) with
  | true => exact Iff.rfl
  | false =>
    have : n.els = n.next := by simpa [bne] using he
    rw [this]
    simp
theorem rfol_mem (g : Gr) (a b : Nat) : b ∈ rfol g a ↔ b ∈ fol g a := by
  unfold rfol fol
  cases g.nodes[a]? with
  | none => exact Iff.rfl
  | some n =>
    simp only [List.mem_map]
    constructor
    · rintro ⟨k, h1, h2⟩; exact ⟨k, (rfolI_mem n k).1 h1, h2⟩
    · rintro ⟨k, h1, h2⟩; exact ⟨k, (rfolI_mem n k).2 h1, h2⟩
theorem rfolI_len (n : Nd) : (rfolI n).length ≤ 2 := by
  unfold rfolI
  cases (n.kind == 9) <;> cases (n.kind == 8) <;> exact Nat.le_of_ble_eq_true rfl
structure RWhole (g : Gr) : Prop where
  fol : ∀ (x : Nat) n, g.nodes[x]? = some n → rfolI n = (rfol g x).map fun (x : Nat) => (x : Int)
  lt : ∀ a, ∀ b ∈ rfol g a, b < g.nodes.length
  len : ∀ a, (rfol g a).length ≤ 2
theorem rwhole_of {g : Gr} (h : Whole g) : RWhole g := by
  refine ⟨fun x n hx => ?_, fun a b hb => h.lt a b ((rfol_mem g a b).1 hb), fun a => ?_⟩
  · have hf := h.fol x n hx
    unfold rfol
    rw [hx]
    simp only [List.map_map]
    conv => lhs; rw [← List.map_id (rfolI n)]
    refine List.map_congr_left fun k hk => ?_
    have : k ∈ folI n := (rfolI_mem n k).1 hk
    rw [hf] at this
    obtain ⟨y, _, rfl⟩ := List.mem_map.1 this
    rfl
  · unfold rfol
    split
    · rw [List.length_map]; exact rfolI_len _
    · exact Nat.zero_le _
theorem rch_r (g : Gr) (cut : Int) (N : Nat) : rchL (rfol g) cut N = rchL (fol g) cut N := rchL_congr (rfol_mem g) cut N
theorem ahead_r (g : Gr) (N : Nat) : aheadL (rfol g) N = aheadL (fol g) N := aheadL_congr (rfol_mem g) N
/-- whole, as the reference says it -/
def rnodeOk (N : Int) (n : Nd) : Bool := !(decide (n.kind ≤ 0) || decide (n.kind ≥ 10)) && (rfolI n).all fun k => !(decide (k < 0) || decide (k ≥ N))
theorem all_congr {α : Type} {p : α → Bool} {l l' : List α} (h : ∀ x, x ∈ l ↔ x ∈ l') : l.all p = l'.all p := by
  cases q : l'.all p with
  | true => exact List.all_eq_true.2 fun x hx => List.all_eq_true.1 q x ((h x).1 hx)
  | false =>
    rw [List.all_eq_false] at q ⊢
    obtain ⟨x, h1, h2⟩ := q
    exact ⟨x, (h x).2 h1, h2⟩
theorem rnodeOk_eq {N : Int} {n : Nd} (h : 0 ≤ n.kind) : rnodeOk N n = nodeOk N n := by
  unfold rnodeOk nodeOk
  rw [all_congr (rfolI_mem n)]
  congr 3
  by_cases e : n.kind = 0
  · rw [e]; rfl
  · rw [beq_eq_false_iff_ne.2 e, decide_eq_false (by omega)]
end Go.Proofs.YthboippafkcoiaaGreatDoor.am

namespace Go.Proofs.YthboippafkcoiaaGreatDoor.am
open Go Go.Proofs
set_option linter.all false

set_option maxRecDepth 100000 in
theorem k_rwhole (g : Gr) : K 58 [g.av] [] (.ret (.tr (tb (wholeB g)))) [] := by
  generalize hR : wholeB g = R
  unfold wholeB at hR
  obtain ⟨name, locals, slots, nodes⟩ := g
  simp only at hR
  have hln : (nodes.map Nd.cells).length = nodes.length := List.length_map ..
  refine Ctr.of hT hmix Tryz.func58 rfl (fun _ _ => by kernel_rfl) rfl fun hok => ?_
  have hrows := ((hok.slot 0 rfl).agg _ (.tail _ (.tail _ (.tail _ (.head _))))).tr.lst.2.2
  have hkind : ∀ n ∈ nodes, 0 ≤ n.kind := fun n hn => by
    obtain ⟨i, hi⟩ := List.mem_iff_getElem?.1 hn
    have h0 := ((hrows n.cells (List.mem_map.2 ⟨n, hn, rfl⟩)).2 (tu n.kind) (.head _)).u8.1
    exact h0
  clear hok hrows
  have hall : nodes.all (nodeOk nodes.length) = nodes.all (rnodeOk nodes.length) := by
    cases q : nodes.all (nodeOk nodes.length) with
    | true => exact (List.all_eq_true.2 fun n hn => by rw [rnodeOk_eq (hkind n hn)]; exact List.all_eq_true.1 q n hn).symm
    | false =>
      rw [List.all_eq_false] at q
      obtain ⟨n, h1, h2⟩ := q
      exact (List.all_eq_false.2 ⟨n, h1, by rw [rnodeOk_eq (hkind n h1)]; exact h2⟩).symm
  rw [hall] at hR
  clear hall hkind
  by_cases hN : 1 ≤ nodes.length ∧ nodes.length ≤ 4096
  case neg =>
    have hR : false = R := by
      rw [← hR]
      have : (decide ((nodes.length : Int) < 1) || decide ((nodes.length : Int) > 4096)) = true := by
        rw [Bool.or_eq_true]
        by_cases h : nodes.length < 1
        · exact .inl (decide_eq_true (by omega))
        · exact .inr (decide_eq_true (by omega))
      rw [this]; rfl
    subst hR
    by_cases h : nodes.length < 1
    · have e1 : decide (((nodes.map Nd.cells).length : Int) < 1) = true := by rw [hln]; exact decide_eq_true (by omega)
      conv => whnf
      rw [e1]
      conv => whnf
      exact ⟨.inl rfl, trivial⟩
    · have e1 : decide (((nodes.map Nd.cells).length : Int) < 1) = false := by rw [hln]; exact decide_eq_false (by omega)
      have e2 : decide (((nodes.map Nd.cells).length : Int) > 4096) = true := by rw [hln]; exact decide_eq_true (by omega)
      conv => whnf
      rw [e1]
      conv => whnf
      rw [e2]
      conv => whnf
      exact ⟨.inl rfl, trivial⟩
  have e1 : decide (((nodes.map Nd.cells).length : Int) < 1) = false := by rw [hln]; exact decide_eq_false (by omega)
  have e2 : decide (((nodes.map Nd.cells).length : Int) > 4096) = false := by rw [hln]; exact decide_eq_false (by omega)
  have hR : nodes.all (rnodeOk nodes.length) = R := by
    rw [← hR, show decide ((nodes.length : Int) < 1) = false by rw [← hln]; exact e1, show decide ((nodes.length : Int) > 4096) = false by rw [← hln]; exact e2]; rfl
  conv => whnf
  rw [e1]
  conv => whnf
  rw [e2]
  conv => whnf
  refine LoopL.by (fun i : Nat => ⟨[(1, .ptr 0 0), (3, .tr (ti i))], [(0, .cells 50 [.tr (ts name), .tr (ti locals), .tr (ti slots), .tr (nodesT nodes)])], 10⟩) (fun i => i ≤ nodes.length ∧ (nodes.drop i).all (rnodeOk nodes.length) = R) (fun i => nodes.length - i) 0 [_] []
    (Sub.mk' rfl ⟨⟨rfl, rfl⟩, .inl rfl, trivial⟩ ⟨⟨rfl, .inl rfl, .inl rfl, .inl rfl, .inl rfl, trivial⟩, trivial⟩ rfl rfl) ⟨Nat.zero_le _, hR⟩ ?_
  clear hR
  rintro i ⟨hi, hR⟩ -
  conv => whnf
  refine csplit (fun hlt => ?_) (fun hge => ?_)
  · have hlt : i < nodes.length := by have : decide ((i : Int) < ((nodes.map Nd.cells).length : Int)) = true := hlt; have := of_decide_eq_true this; omega
    obtain ⟨n, hn⟩ : ∃ n, nodes[i]? = some n := ⟨_, List.getElem?_eq_getElem hlt⟩
    rw [List.drop_eq_getElem_cons hlt, List.all_cons, (List.getElem?_eq_some_iff.1 hn).2] at hR
    have hf := k_rfollows n
    have hnk : rnodeOk nodes.length n = (!(decide (n.kind ≤ 0) || decide (n.kind ≥ 10)) && (rfolI n).all fun k => !(decide (k < 0) || decide (k ≥ (nodes.length : Int)))) := rfl
    have hfl := rfolI_len n
    rw [hnk] at hR
    clear hnk
    generalize rfolI n = F at hf hR hfl
    obtain ⟨kind, op, slot, thing, ⟨sa, ka, wa⟩, ⟨sb, kb, wb⟩, next, els, origin⟩ := n
    simp only at hR
    conv => whnf
    refine ⟨rfl, (show (0 : Int) ≤ i by omega), (show (i : Int) < ((nodes.map Nd.cells).length : Int) by omega), fun row hrow => ?_⟩
    obtain ⟨d, hd, rfl⟩ := nd_get hrow
    obtain rfl := Option.some.inj (hn.symm.trans hd)
    clear hrow hd
    conv => whnf
    cases b1 : decide (kind ≤ 0)
    case true =>
      rw [b1, Bool.true_or, Bool.not_true, Bool.false_and, Bool.false_and] at hR
      subst hR
      conv => whnf
      exact ⟨.inl rfl, trivial⟩
    conv => whnf
    cases b2 : decide (kind ≥ 10)
    case true =>
      rw [b1, b2, Bool.or_true, Bool.not_true, Bool.false_and, Bool.false_and] at hR
      subst hR
      conv => whnf
      exact ⟨.inl rfl, trivial⟩
    conv => whnf
    rw [b1, b2, Bool.or_false, Bool.not_false, Bool.true_and] at hR
    refine acall.pure _ (hf) rfl rfl fun _ => ?_
    conv => whnf
    have hlF : (F.map irow).length = F.length := List.length_map ..
    refine LoopL.by (fun j : Nat => ⟨[(1, .ptr 0 0), (3, .tr (ti i)), (5, .tr (intsT F)), (6, .tr (ti j))], [(0, .cells 50 [.tr (ts name), .tr (ti locals), .tr (ti slots), .tr (nodesT nodes)])], 10⟩) (fun j => j ≤ F.length ∧ ((F.drop j).all (fun k => !(decide (k < 0) || decide (k ≥ (nodes.length : Int)))) && (nodes.drop (i + 1)).all (rnodeOk nodes.length)) = R) (fun j => F.length - j) 0 [0] []
      (Sub.mk' rfl ⟨⟨rfl, rfl⟩, .inl rfl, .inl rfl, .inl rfl, trivial⟩ ⟨⟨rfl, .inl rfl, .inl rfl, .inl rfl, .inl rfl, trivial⟩, trivial⟩ rfl rfl) ⟨Nat.zero_le _, hR⟩ ?_
    clear hR hf
    rintro j ⟨hj, hR⟩ -
    conv => whnf
    refine csplit (fun hjt => ?_) (fun hjt => ?_)
    · have hjt : j < F.length := by have : decide ((j : Int) < ((F.map irow).length : Int)) = true := hjt; have := of_decide_eq_true this; omega
      obtain ⟨k, hk⟩ : ∃ k, F[j]? = some k := ⟨_, List.getElem?_eq_getElem hjt⟩
      rw [List.drop_eq_getElem_cons hjt, List.all_cons, (List.getElem?_eq_some_iff.1 hk).2] at hR
      conv => whnf
      refine ⟨rfl, (show (0 : Int) ≤ j by omega), (show (j : Int) < ((F.map irow).length : Int) by omega), fun row hrow => ?_⟩
      obtain ⟨d, hd, rfl⟩ := int_get hrow
      obtain rfl := Option.some.inj (hk.symm.trans hd)
      clear hrow hd
      conv => whnf
      cases c1 : decide (k < 0)
      case true =>
        rw [c1, Bool.true_or, Bool.not_true, Bool.false_and, Bool.false_and] at hR
        subst hR
        conv => whnf
        refine ⟨by kernel_rfl, fun _ => ?_⟩
        conv => whnf
        exact ⟨.inl rfl, trivial⟩
      conv => whnf
      refine ⟨rfl, (show (0 : Int) ≤ j by omega), (show (j : Int) < ((F.map irow).length : Int) by omega), fun row hrow => ?_⟩
      obtain ⟨d, hd, rfl⟩ := int_get hrow
      obtain rfl := Option.some.inj (hk.symm.trans hd)
      clear hrow hd
      conv => whnf
      refine ⟨by kernel_rfl, fun _ => ?_⟩
      conv => whnf
      cases c2 : decide (k ≥ (nodes.length : Int))
      case true =>
        rw [c1, c2, Bool.or_true, Bool.not_true, Bool.false_and, Bool.false_and] at hR
        subst hR
        rw [← hln] at c2
        rw [c2]
        conv => whnf
        exact ⟨.inl rfl, trivial⟩
      rw [c1, c2, Bool.or_false, Bool.not_false, Bool.true_and] at hR
      rw [← hln] at c2
      rw [c2]
      conv => whnf
      exact ⟨j + 1, [0], [], Sub.mk' rfl ⟨⟨rfl, rfl⟩, .inl rfl, .inl rfl, .inl (ti_succ hjt (by omega)), trivial⟩ ⟨⟨rfl, .inl rfl, .inl rfl, .inl rfl, .inl rfl, trivial⟩, trivial⟩ rfl rfl, ⟨hjt, hR⟩, by show F.length - (j + 1) < F.length - j; omega⟩
    · have hjt : j = F.length := by have : decide ((j : Int) < ((F.map irow).length : Int)) = false := hjt; have := of_decide_eq_false this; omega
      subst hjt
      rw [List.drop_length] at hR
      have hR : (nodes.drop (i + 1)).all (rnodeOk nodes.length) = R := hR
      conv => whnf
      refine ⟨fun _ => ?_, fun h => absurd rfl h⟩
      conv => whnf
      exact ⟨i + 1, [0], [], Sub.mk' rfl ⟨⟨rfl, rfl⟩, .inl (ti_succ hlt (by omega)), trivial⟩ ⟨⟨rfl, .inl rfl, .inl rfl, .inl rfl, .inl rfl, trivial⟩, trivial⟩ rfl rfl, ⟨hlt, hR⟩, by show nodes.length - (i + 1) < nodes.length - i; omega⟩
  · have hge : i = nodes.length := by have : decide ((i : Int) < ((nodes.map Nd.cells).length : Int)) = false := hge; have := of_decide_eq_false this; omega
    subst hge
    rw [List.drop_length] at hR
    have hR : true = R := hR
    subst hR
    conv => whnf
    refine ⟨fun _ => ?_, fun h => absurd rfl h⟩
    conv => whnf
    exact ⟨.inl rfl, trivial⟩
set_option maxRecDepth 100000 in
set_option maxHeartbeats 2000000 in
theorem k_without (g : Gr) (cut : Int) (hW : Whole g) : K 59 [g.av, .tr (ti cut)] [] (.ret (.tr (boolsT (rchL (fol g) cut g.nodes.length)))) [] := by
  have hS : SprI (rfol g) cut g.nodes.length ((List.replicate g.nodes.length false).set 0 true) [0] := SprI.start hW.pos
  have hFin : ∀ out, SprI (rfol g) cut g.nodes.length out [] → out = rchL (fol g) cut g.nodes.length := fun out h => h.fin.trans (rch_r g cut g.nodes.length)
  have hpos := hW.pos
  have hmo := hW.most
  have hRW := rwhole_of hW
  have hfI := hRW.fol
  have hlt := hRW.lt
  have hfl := hRW.len
  clear hW hRW
  generalize hR : rchL (fol g) cut g.nodes.length = R at hFin ⊢
  clear hR
  generalize rfol g = f at hS hFin hfI hlt hfl
  have hln : (g.nodes.map Nd.cells).length = g.nodes.length := List.length_map ..
  obtain ⟨N, hNe⟩ : ∃ N, g.nodes.length = N := ⟨_, rfl⟩
  rw [hNe] at hS hFin hlt hpos hmo hln
  refine Ctr.of hT hmix Tryz.func59 rfl (fun _ _ => by kernel_rfl) rfl fun hok => ?_
  clear hok
  conv => whnf
  refine ⟨(by rw [hln]; omega), Int.le_refl _, (by rw [hln]; show (N : Int) * 1 ≤ _; omega), ?_⟩
  conv => whnf
  rw [hln, Int.toNat_natCast]
  refine ⟨rfl, by decide, (show (0 : Int) < (N : Int) by omega), ?_⟩
  conv => whnf
  refine ⟨rfl, rfl, (by rw [List.length_replicate]; exact hpos), fun row hrow => ?_⟩
  replace hrow : (List.replicate N [Tr.v (.bool false)])[0]? = some row := hrow
  rw [List.getElem?_replicate, if_pos hpos] at hrow
  cases hrow
  refine ⟨by decide, ?_⟩
  conv => whnf
  refine LoopL.by (fun x : List Bool × List Nat × Nat => ⟨[(1, .tr (ti cut)), (2, .ptr 0 0), (5, .sl 1 N), (6, .sl 2 x.2.1.length), (7, .tr (ti (x.2.2 : Nat)))], [(0, grBl g), (1, boolsB x.1), (2, natsB x.2.1)], 10⟩) (fun x => x.2.2 ≤ x.2.1.length ∧ x.2.1.length + unseen x.1 ≤ N ∧ SprI f cut N x.1 (x.2.1.drop x.2.2)) (fun x => N - x.2.2) ((List.replicate N false).set 0 true, [0], 0) [0, _, _] []
    (Sub.mk' rfl ⟨.inl rfl, ⟨rfl, rfl⟩, ⟨rfl, rfl⟩, ⟨rfl, rfl⟩, .inl rfl, trivial⟩ ⟨⟨rfl, .inl rfl, .inl rfl, .inl rfl, .inl rfl, trivial⟩, ⟨rfl, rfl, rfl, by rw [← brow_set _ _ false, ← brow_rep]; rfl⟩, ⟨rfl, rfl, rfl, rfl⟩, trivial⟩ rfl rfl) ⟨Nat.zero_le _, by show 1 + unseen ((List.replicate N false).set 0 true) ≤ N; have := unseen_rep hpos; omega, hS⟩ ?_
  clear hS
  rintro ⟨out, todo, i⟩ ⟨hi, hun, hS⟩ -
  simp only at hi hun hS
  conv => whnf
  refine csplit (fun hit => ?_) (fun hit => ?_)
  · have hit : i < todo.length := by have : decide ((i : Int) < (todo.length : Int)) = true := hit; have := of_decide_eq_true this; omega
    obtain ⟨a, ha⟩ : ∃ a, todo[i]? = some a := ⟨_, List.getElem?_eq_getElem hit⟩
    have hp : ∀ x, x ∈ todo.drop i ↔ x = a ∨ x ∈ todo.drop (i + 1) := fun x => by
      rw [drop_cons ha, List.mem_cons]
    have haN : a < N := hS.lt ((hp a).2 (.inl rfl))
    conv => whnf
    refine ⟨rfl, (show (0 : Int) ≤ i by omega), (show (i : Int) < (todo.length : Int) by omega), ?_⟩
    conv => whnf
    refine ⟨rfl, (by show i < (todo.map nrow).length; rw [List.length_map]; exact hit), fun row hrow => ?_⟩
    obtain ⟨d, hd, rfl⟩ := nrow_get hrow
    obtain rfl := Option.some.inj (ha.symm.trans hd)
    clear hrow hd
    refine ⟨(show 0 < 1 by decide), fun t ht => ?_⟩
    cases ht
    conv => whnf
    cases hac : ((a : Int) == cut)
    case true =>
      conv => whnf
      refine ⟨fun _ => ?_, fun h => absurd rfl h⟩
      conv => whnf
      exact ⟨(out, todo, i + 1), [0, 1, 2], [], Sub.mk' rfl ⟨.inl rfl, ⟨rfl, rfl⟩, ⟨rfl, rfl⟩, ⟨rfl, rfl⟩, .inl (ti_succ hit (by omega)), trivial⟩ ⟨⟨rfl, .inl rfl, .inl rfl, .inl rfl, .inl rfl, trivial⟩, ⟨rfl, rfl, rfl, rfl⟩, ⟨rfl, rfl, rfl, rfl⟩, trivial⟩ rfl rfl, ⟨hit, hun, hS.cut hp (eq_of_beq hac)⟩, by show N - (i + 1) < N - i; omega⟩
    obtain ⟨n, hn⟩ : ∃ n, g.nodes[a]? = some n := ⟨_, List.getElem?_eq_getElem (by omega)⟩
    have hf := k_rfollows n
    rw [hfI a n hn] at hf
    have hJ := hS.take hp (beq_eq_false_iff_ne.1 hac)
    have hflt := hlt a
    have hfl := hfl a
    obtain ⟨F, hF⟩ : ∃ F, f a = F := ⟨_, rfl⟩
    rw [hF] at hf hflt hfl
    have hFl := natsT_len F
    obtain ⟨kind, op, slot, thing, ⟨sa, ka, wa⟩, ⟨sb, kb, wb⟩, next, els, origin⟩ := n
    conv => whnf
    refine ⟨rfl, (show (0 : Int) ≤ i by omega), (show (i : Int) < (todo.length : Int) by omega), ?_⟩
    conv => whnf
    refine ⟨rfl, (by show i < (todo.map nrow).length; rw [List.length_map]; exact hit), fun row hrow => ?_⟩
    obtain ⟨d, hd, rfl⟩ := nrow_get hrow
    obtain rfl := Option.some.inj (ha.symm.trans hd)
    clear hrow hd
    refine ⟨(show 0 < 1 by decide), fun t ht => ?_⟩
    cases ht
    conv => whnf
    refine ⟨rfl, (show (0 : Int) ≤ a by omega), (show (a : Int) < ((g.nodes.map Nd.cells).length : Int) by omega), fun row hrow => ?_⟩
    obtain ⟨d, hd, rfl⟩ := nd_get hrow
    obtain rfl := Option.some.inj (hn.symm.trans hd)
    clear hrow hd hn
    conv => whnf
    refine acall.pure _ (hf) rfl rfl ?_
    conv => whnf
    refine ⟨by kernel_rfl, fun _ => ?_⟩
    conv => whnf
    refine LoopL.by (fun x : List Bool × List Nat × Nat => ⟨[(1, .tr (ti cut)), (2, .ptr 0 0), (5, .sl 1 N), (6, .sl 2 x.2.1.length), (7, .tr (ti (i : Nat))), (8, .tr (natsT F)), (9, .tr (ti (x.2.2 : Nat)))], [(0, grBl g), (1, boolsB x.1), (2, natsB x.2.1)], 10⟩) (fun x => i < x.2.1.length ∧ x.2.1.length + unseen x.1 ≤ N ∧ x.2.2 ≤ F.length ∧ SprJ f cut N x.1 (x.2.1.drop (i + 1)) a x.2.2) (fun x => F.length - x.2.2) (out, todo, 0) [0, 1, 2] []
      (Sub.mk' rfl ⟨.inl rfl, ⟨rfl, rfl⟩, ⟨rfl, rfl⟩, ⟨rfl, rfl⟩, .inl rfl, .inl rfl, .inl rfl, trivial⟩ ⟨⟨rfl, .inl rfl, .inl rfl, .inl rfl, .inl rfl, trivial⟩, ⟨rfl, rfl, rfl, rfl⟩, ⟨rfl, rfl, rfl, rfl⟩, trivial⟩ rfl rfl) ⟨hit, hun, Nat.zero_le _, hJ⟩ ?_
    clear hJ hf hS hp ha hun hit
    rintro ⟨o2, r2, j⟩ ⟨hit, hun, hj, hJ⟩ -
    simp only at hit hun hj hJ
    have hol := hJ.len
    conv => whnf
    refine csplit (fun hjt => ?_) (fun hjt => ?_)
    · have hjt : j < F.length := by have : decide ((j : Int) < ((((F.map fun (x : Nat) => (x : Int))).map irow).length : Int)) = true := hjt; have := of_decide_eq_true this; omega
      obtain ⟨y, hy⟩ : ∃ y, F[j]? = some y := ⟨_, List.getElem?_eq_getElem hjt⟩
      have hyN := hflt y (List.mem_of_getElem? hy)
      have hyf : (f a)[j]? = some y := by rw [hF]; exact hy
      obtain ⟨b, hb⟩ : ∃ b, o2[y]? = some b := ⟨_, List.getElem?_eq_getElem (by omega)⟩
      conv => whnf
      refine ⟨rfl, (show (0 : Int) ≤ j by omega), (show (j : Int) < ((((F.map fun (x : Nat) => (x : Int))).map irow).length : Int) by omega), fun row hrow => ?_⟩
      obtain ⟨d, hd, rfl⟩ := natsT_get hrow
      obtain rfl := Option.some.inj (hy.symm.trans hd)
      clear hrow hd
      conv => whnf
      refine ⟨rfl, (show (0 : Int) ≤ y by omega), (show (y : Int) < (N : Int) by omega), ?_⟩
      conv => whnf
      refine ⟨rfl, (by show y < (o2.map brow).length; rw [List.length_map]; omega), fun row hrow => ?_⟩
      obtain ⟨d, hd, rfl⟩ := brow_get hrow
      obtain rfl := Option.some.inj (hb.symm.trans hd)
      clear hrow hd
      refine ⟨(show 0 < 1 by decide), fun t ht => ?_⟩
      cases ht
      cases b
      · conv => whnf
        refine ⟨rfl, (show (0 : Int) ≤ j by omega), (show (j : Int) < ((((F.map fun (x : Nat) => (x : Int))).map irow).length : Int) by omega), fun row hrow => ?_⟩
        obtain ⟨d, hd, rfl⟩ := natsT_get hrow
        obtain rfl := Option.some.inj (hy.symm.trans hd)
        clear hrow hd
        conv => whnf
        refine ⟨rfl, (show (0 : Int) ≤ y by omega), (show (y : Int) < (N : Int) by omega), ?_⟩
        conv => whnf
        refine ⟨rfl, rfl, (by show y < (o2.map brow).length; rw [List.length_map]; omega), fun row hrow => ?_⟩
        obtain ⟨d, hd, rfl⟩ := brow_get hrow
        obtain rfl := Option.some.inj (hb.symm.trans hd)
        clear hrow hd
        refine ⟨(show 0 + 1 ≤ 1 by decide), ?_⟩
        conv => whnf
        refine ⟨rfl, (show (0 : Int) ≤ j by omega), (show (j : Int) < ((((F.map fun (x : Nat) => (x : Int))).map irow).length : Int) by omega), fun row hrow => ?_⟩
        obtain ⟨d, hd, rfl⟩ := natsT_get hrow
        obtain rfl := Option.some.inj (hy.symm.trans hd)
        clear hrow hd
        conv => whnf
        refine ⟨rfl, rfl, rfl, (by rw [List.length_map]; exact Nat.le_refl _), (show (r2.length + 1) * 8 ≤ 150000000000000 by omega), fun q hq => ?_, ?_⟩
        · cases hq with
          | head => exact Nat.ne_of_beq_eq_false rfl
          | tail _ h => cases h
        conv => whnf
        have hun2 := unseen_set hb
        have hda : (r2.map nrow).take r2.length ++ [[ti (y : Nat)]] = (r2 ++ [y]).map nrow := by rw [List.map_append, List.take_of_length_le (by rw [List.length_map]; exact Nat.le_refl _)]; rfl
        have hlen : (r2 ++ [y]).length = r2.length + 1 := by rw [List.length_append]; rfl
        have hdr : (r2 ++ [y]).drop (i + 1) = r2.drop (i + 1) ++ [y] := by rw [List.drop_append_of_le_length (by omega)]
        exact ⟨(o2.set y true, r2 ++ [y], j + 1), [0, 1, _], [], Sub.mk' rfl ⟨.inl rfl, ⟨rfl, rfl⟩, ⟨rfl, rfl⟩, ⟨rfl, hlen.symm⟩, .inl rfl, .inl rfl, .inl (ti_succ hjt (by omega)), trivial⟩ ⟨⟨rfl, .inl rfl, .inl rfl, .inl rfl, .inl rfl, trivial⟩, ⟨rfl, rfl, rfl, brow_set o2 y false true⟩, ⟨rfl, rfl, rfl, hda⟩, trivial⟩ rfl rfl, ⟨by show i < (r2 ++ [y]).length; omega, by show (r2 ++ [y]).length + unseen (o2.set y true) ≤ N; omega, hjt, hJ.push hyf hb (fun x => by show x ∈ (r2 ++ [y]).drop (i + 1) ↔ _; rw [hdr, List.mem_append, List.mem_singleton]; exact Or.comm)⟩, by show F.length - (j + 1) < F.length - j; omega⟩
      · conv => whnf
        exact ⟨(o2, r2, j + 1), [0, 1, 2], [], Sub.mk' rfl ⟨.inl rfl, ⟨rfl, rfl⟩, ⟨rfl, rfl⟩, ⟨rfl, rfl⟩, .inl rfl, .inl rfl, .inl (ti_succ hjt (by omega)), trivial⟩ ⟨⟨rfl, .inl rfl, .inl rfl, .inl rfl, .inl rfl, trivial⟩, ⟨rfl, rfl, rfl, rfl⟩, ⟨rfl, rfl, rfl, rfl⟩, trivial⟩ rfl rfl, ⟨hit, hun, hjt, hJ.skip hyf hb⟩, by show F.length - (j + 1) < F.length - j; omega⟩
    · have hjt : F.length ≤ j := by have : decide ((j : Int) < ((((F.map fun (x : Nat) => (x : Int))).map irow).length : Int)) = false := hjt; have := of_decide_eq_false this; omega
      conv => whnf
      refine ⟨fun _ => ?_, fun h => absurd rfl h⟩
      conv => whnf
      exact ⟨(o2, r2, i + 1), [0, 1, 2], [], Sub.mk' rfl ⟨.inl rfl, ⟨rfl, rfl⟩, ⟨rfl, rfl⟩, ⟨rfl, rfl⟩, .inl (ti_succ hit (by omega)), trivial⟩ ⟨⟨rfl, .inl rfl, .inl rfl, .inl rfl, .inl rfl, trivial⟩, ⟨rfl, rfl, rfl, rfl⟩, ⟨rfl, rfl, rfl, rfl⟩, trivial⟩ rfl rfl, ⟨hit, hun, hJ.fin (by rw [hF]; exact hjt)⟩, by show N - (i + 1) < N - i; omega⟩
  · have hit : i = todo.length := by have : decide ((i : Int) < (todo.length : Int)) = false := hit; have := of_decide_eq_false this; omega
    subst hit
    rw [List.drop_length] at hS
    have := hFin out hS
    subst this
    have hol := hS.len
    conv => whnf
    refine ⟨fun _ => ?_, fun h => absurd rfl h⟩
    conv => whnf
    exact ⟨⟨rfl, (by show N ≤ (out.map brow).length; rw [List.length_map]; omega), (by show boolsT out = Tr.lst 1 1 ((out.map brow).take N); rw [List.take_of_length_le (by rw [List.length_map]; omega)])⟩, trivial⟩
set_option maxRecDepth 100000 in
theorem k_rreached (g : Gr) (hW : wholeB g = true) : K 19 [g.av] [] (.ret (.tr (boolsT (rchL (fol g) (-1) g.nodes.length)))) [] := by
  have h1 := k_rwhole g
  rw [hW] at h1
  have h2 := k_without g (-1) (whole_of hW)
  generalize rchL (fol g) (-1) g.nodes.length = R at h2 ⊢
  obtain ⟨name, locals, slots, nodes⟩ := g
  refine Ctr.of hT hmix Tryz.func19 rfl (fun _ _ => by kernel_rfl) rfl fun hok => ?_
  clear hok
  conv => whnf
  refine acall.pure _ (h1) rfl rfl fun _ => ?_
  conv => whnf
  refine acall.pure _ (h2) rfl rfl fun _ => ?_
  conv => whnf
  exact ⟨.inl rfl, trivial⟩
set_option maxRecDepth 100000 in
theorem k_rreached0 (g : Gr) (hW : wholeB g = false) : K 19 [g.av] [] (.ret (.tr (boolsT []))) [] := by
  have h1 := k_rwhole g
  rw [hW] at h1
  obtain ⟨name, locals, slots, nodes⟩ := g
  refine Ctr.of hT hmix Tryz.func19 rfl (fun _ _ => by kernel_rfl) rfl fun hok => ?_
  clear hok
  conv => whnf
  refine acall.pure _ (h1) rfl rfl fun _ => ?_
  conv => whnf
  exact ⟨.inr ⟨rfl, _, _, rfl⟩, trivial⟩
end Go.Proofs.YthboippafkcoiaaGreatDoor.am

namespace Go.Proofs.YthboippafkcoiaaGreatDoor.am
open Go Go.Proofs
set_option linter.all false

abbrev addI (l : List Nat) (b : Bool) (i : Nat) : List Nat := l ++ (bif b then [i] else [])
theorem setC_same {X : List (List Nat)} {y : Nat} {l : List Nat} (h : X[y]? = some l) : setC (X.map lrow) y 0 (Tr.lst 1 8 (((l.map fun (x : Nat) => (x : Int)).map irow).take ((l.map fun (x : Nat) => (x : Int)).map irow).length)) = X.map lrow := by
  rw [List.take_length]
  unfold setC
  have h1 : (X.map lrow)[y]? = some (lrow l) := by rw [List.getElem?_map, h]; rfl
  rw [h1]
  show (X.map lrow).set y (lrow l) = X.map lrow
  refine List.ext_getElem? fun k => ?_
  by_cases e : k = y
  · subst e
    rw [List.getElem?_set_self (List.getElem?_eq_some_iff.1 h1).1, h1]
  · rw [List.getElem?_set_ne (fun w => e w.symm)]
set_option maxRecDepth 100000 in
set_option maxHeartbeats 2000000 in
theorem k_rahead (g : Gr) (hW : wholeB g = true) : K 22 [g.av] [] (.ret (.tr (listsT (aheadL (fol g) g.nodes.length)))) [] := by
  have hw := k_rwhole g
  rw [hW] at hw
  have hW := whole_of hW
  have hRW := rwhole_of hW
  have hagain := fun n j k a b => aheadJ_again (fol := rfol g) (N := g.nodes.length) (n := n) (j := j) (k := k) a b
  have hnew := fun n j k a b c => aheadJ_new (fol := rfol g) (N := g.nodes.length) (n := n) (j := j) (k := k) a b c
  have hat := fun n j k hk => aheadJ_at (fol := rfol g) (N := g.nodes.length) (n := n) (j := j) (k := k) hk
  have hnext := fun n j hj => aheadJ_next (fol := rfol g) (N := g.nodes.length) (n := n) (j := j) hj
  have hz : aheadJ (rfol g) g.nodes.length 0 0 = List.replicate g.nodes.length [] := aheadJ_zero
  have hfin : aheadJ (rfol g) g.nodes.length g.nodes.length 0 = aheadL (fol g) g.nodes.length := aheadJ_fin.trans (ahead_r g _)
  have hlen : ∀ n j, (aheadJ (rfol g) g.nodes.length n j).length = g.nodes.length := fun n j => by simp [aheadJ]
  have hal : ∀ n k, (aheadN (rfol g) n k).length ≤ n := fun n k => by
    have := List.length_filter_le (fun i => (rfol g i).contains k) (List.range n)
    rwa [List.length_range] at this
  have hlast : ∀ n k x, x ∈ aheadN (rfol g) n k → x < n := fun n k x h => aheadN_mem_lt h
  have hfI := hRW.fol
  have hlt := hRW.lt
  have hfl := hRW.len
  have hpos := hW.pos
  have hmo := hW.most
  clear hW hRW
  generalize aheadL (fol g) g.nodes.length = R at hfin ⊢
  generalize aheadJ (rfol g) g.nodes.length = A at hagain hnew hat hnext hz hfin hlen
  generalize aheadN (rfol g) = B at hnew hat hal hlast
  generalize rfol g = f at hagain hnew hat hnext hfI hlt hfl
  have hln : (g.nodes.map Nd.cells).length = g.nodes.length := List.length_map ..
  obtain ⟨N, hNe⟩ : ∃ N, g.nodes.length = N := ⟨_, rfl⟩
  rw [hNe] at hnew hat hz hfin hlen hlt hpos hmo hln
  refine Ctr.cut [1000014] hT hmix Tryz.func22 rfl (fun _ _ => by kernel_rfl) rfl fun hok => ?_
  clear hok
  conv => whnf
  refine acall.pure _ (hw) rfl rfl fun _ => ?_
  conv => whnf
  refine ⟨(by rw [hln]; omega), Int.le_refl _, (by rw [hln]; show (N : Int) * 24 ≤ _; omega), ?_⟩
  conv => whnf
  rw [hln, Int.toNat_natCast]
  refine LoopL.by (fun i : Nat => ⟨[(1, .ptr 0 0), (4, .sl 1 N), (5, .tr (ti i))], [(0, grBl g), (1, .own 1 24 ((A i 0).map lrow) [])], 10⟩) (fun i => i ≤ N) (fun i => N - i) 0 [0, _] []
    (Sub.mk' rfl ⟨⟨rfl, rfl⟩, ⟨rfl, rfl⟩, .inl rfl, trivial⟩ ⟨⟨rfl, .inl rfl, .inl rfl, .inl rfl, .inl rfl, trivial⟩, ⟨rfl, rfl, rfl, leaf_rep N, .inr (by show nlR _ ((A 0 0).map lrow); rw [hz]; exact nil_rows N)⟩, trivial⟩ rfl rfl) (Nat.zero_le _) ?_
  rintro i hi -
  conv => whnf
  refine csplit (fun hlt1 => ?_) (fun hge => ?_)
  · have hlt1 : i < N := by have : decide ((i : Int) < ((g.nodes.map Nd.cells).length : Int)) = true := hlt1; have := of_decide_eq_true this; omega
    obtain ⟨n, hn⟩ : ∃ n, g.nodes[i]? = some n := ⟨_, List.getElem?_eq_getElem (by omega)⟩
    have hf := k_rfollows n
    rw [hfI i n hn] at hf
    have hflt := hlt i
    have hfl := hfl i
    have hagain := hagain i
    have hnew := hnew i
    have hnext := hnext i
    have hat := hat i
    obtain ⟨F, hF⟩ : ∃ F, f i = F := ⟨_, rfl⟩
    rw [hF] at hf hflt hfl hagain hnew hnext hat
    have hFl := natsT_len F
    obtain ⟨kind, op, slot, thing, ⟨sa, ka, wa⟩, ⟨sb, kb, wb⟩, next, els, origin⟩ := n
    conv => whnf
    refine ⟨rfl, (show (0 : Int) ≤ i by omega), (show (i : Int) < ((g.nodes.map Nd.cells).length : Int) by omega), fun row hrow => ?_⟩
    obtain ⟨d, hd, rfl⟩ := nd_get hrow
    obtain rfl := Option.some.inj (hn.symm.trans hd)
    clear hrow hd hn
    conv => whnf
    refine acall.pure _ (hf) rfl rfl fun _ => ?_
    conv => whnf
    refine LoopL.by (fun j : Nat => ⟨[(1, .ptr 0 0), (4, .sl 1 N), (5, .tr (ti i)), (6, .tr (natsT F)), (7, .tr (ti j))], [(0, grBl g), (1, .own 1 24 ((A i j).map lrow) [])], 10⟩) (fun j => j ≤ F.length) (fun j => F.length - j) 0 [0, 1] []
      (Sub.mk' rfl ⟨⟨rfl, rfl⟩, ⟨rfl, rfl⟩, .inl rfl, .inl rfl, .inl rfl, trivial⟩ ⟨⟨rfl, .inl rfl, .inl rfl, .inl rfl, .inl rfl, trivial⟩, ⟨rfl, rfl, rfl, rfl, .inl rfl⟩, trivial⟩ rfl rfl) (Nat.zero_le _) ?_
    rintro j hj -
    conv => whnf
    refine csplit (fun hjt => ?_) (fun hjt => ?_)
    · have hjt : j < F.length := by have : decide ((j : Int) < ((((F.map fun (x : Nat) => (x : Int))).map irow).length : Int)) = true := hjt; have := of_decide_eq_true this; omega
      obtain ⟨y, hy⟩ : ∃ y, F[j]? = some y := ⟨_, List.getElem?_eq_getElem hjt⟩
      have hyN := hflt y (List.mem_of_getElem? hy)
      have hget := hat j y hyN
      have hbl := hal i y
      have hlast := hlast i y
      obtain ⟨c, hc⟩ : ∃ c, (F.take j).contains y = c := ⟨_, rfl⟩
      rw [hc] at hget
      obtain ⟨B0, hB0⟩ : ∃ B0, B i y = B0 := ⟨_, rfl⟩
      rw [hB0] at hget hbl hlast
      have hnew : c = false → A i (j + 1) = (A i j).set y (B0 ++ [i]) := fun e => by rw [hnew j y hy hyN (by rw [hc, e]), hB0]
      have hagain : c = true → A i (j + 1) = A i j := fun e => hagain j y hy (by rw [hc, e])
      obtain ⟨l, hl⟩ : ∃ l, addI B0 c i = l := ⟨_, rfl⟩
      replace hget : (A i j)[y]? = some l := hget.trans (by rw [← hl])
      have hll : l.length ≤ i + 1 := by
        rw [← hl]
        unfold addI
        rw [List.length_append]
        cases c
        · exact Nat.le_succ_of_le hbl
        · exact Nat.succ_le_succ hbl
      conv => whnf
      refine ⟨rfl, (show (0 : Int) ≤ j by omega), (show (j : Int) < ((((F.map fun (x : Nat) => (x : Int))).map irow).length : Int) by omega), fun row hrow => ?_⟩
      obtain ⟨d, hd, rfl⟩ := natsT_get hrow
      obtain rfl := Option.some.inj (hy.symm.trans hd)
      clear hrow hd
      conv => whnf
      refine ⟨rfl, (show (0 : Int) ≤ y by omega), (show (y : Int) < (N : Int) by omega), ?_⟩
      conv => whnf
      refine ⟨rfl, (by show y < ((A i j).map lrow).length; rw [List.length_map, hlen]; exact hyN), fun row hrow => ?_⟩
      obtain ⟨d, hd, rfl⟩ := lrow_get hrow
      obtain rfl := Option.some.inj (hget.symm.trans hd)
      clear hrow hd
      refine ⟨(show 0 < 1 by decide), fun t ht => ?_⟩
      cases ht
      conv => whnf
      refine ⟨(show 0 < 1 by decide), ?_⟩
      conv => whnf
      refine CutL.by (fun _ : Unit => ⟨[(1, .ptr 0 0), (4, .sl 1 N), (5, .tr (ti i)), (6, .tr (natsT F)), (7, .tr (ti j)), (8, .sl 2 ((l.map fun (x : Nat) => (x : Int)).map irow).length), (55, .tr (tb !c))], [(0, grBl g), (1, .own 1 24 ((A i j).map lrow) [((y, 0), (2, ((l.map fun (x : Nat) => (x : Int)).map irow).length))]), (2, .own 1 8 ((l.map fun (x : Nat) => (x : Int)).map irow) [])], 10⟩) (fun _ => True) ?_ ?_
      · have hlen2 : ((l.map fun (x : Nat) => (x : Int)).map irow).length = l.length := natsT_len l
        have hk1 : 0 < l.length → IntKind.i64.wrap ((((l.map fun (x : Nat) => (x : Int)).map irow).length : Int) - 1) = ((l.length - 1 : Nat) : Int) := fun h => by rw [hlen2, w64 (by omega) (by omega)]; omega
        cases c with
        | true =>
          have hln : l = B0 ++ [i] := hl.symm
          have hpos : 0 < l.length := by rw [hln, List.length_append]; exact Nat.succ_pos _
          have hk1 := hk1 hpos
          have e0 : ((((l.map fun (x : Nat) => (x : Int)).map irow).length : Int) == 0) = false := by rw [hlen2, beq_eq_false_iff_ne]; omega
          have hlst : l[l.length - 1]? = some i := by rw [hln]; simp
          have e1 : ((i : Int) != (i : Int)) = false := by simp
          conv => whnf
          rw [e0]
          conv => whnf
          rw [hk1]
          refine ⟨rfl, (show (0 : Int) ≤ ((l.length - 1 : Nat) : Int) by omega), (show ((l.length - 1 : Nat) : Int) < (((l.map fun (x : Nat) => (x : Int)).map irow).length : Int) by rw [hlen2]; omega), ?_⟩
          conv => whnf
          refine ⟨rfl, (by show l.length - 1 < ((l.map fun (x : Nat) => (x : Int)).map irow).length; rw [hlen2]; omega), fun row hrow => ?_⟩
          obtain ⟨d, hd, rfl⟩ := natsT_get hrow
          obtain rfl := Option.some.inj (hlst.symm.trans hd)
          clear hrow hd
          refine ⟨(show 0 < 1 by decide), fun t ht => ?_⟩
          cases ht
          conv => whnf
          rw [e1]
          conv => whnf
          exact ⟨(), [0, 1, _], [], Sub.mk' rfl ⟨⟨rfl, rfl⟩, ⟨rfl, rfl⟩, .inl rfl, .inl rfl, .inl rfl, ⟨rfl, rfl⟩, .inl rfl, trivial⟩ ⟨⟨rfl, .inl rfl, .inl rfl, .inl rfl, .inl rfl, trivial⟩, ⟨rfl, rfl, rfl, rfl, .inl rfl⟩, ⟨rfl, rfl, rfl, rfl, .inl rfl⟩, trivial⟩ rfl rfl, trivial⟩
        | false =>
          have hln : l = B0 := by rw [← hl]; exact List.append_nil _
          cases e0 : ((((l.map fun (x : Nat) => (x : Int)).map irow).length : Int) == 0) with
          | true =>
            conv => whnf
            rw [e0]
            conv => whnf
            exact ⟨(), [0, 1, _], [], Sub.mk' rfl ⟨⟨rfl, rfl⟩, ⟨rfl, rfl⟩, .inl rfl, .inl rfl, .inl rfl, ⟨rfl, rfl⟩, .inl rfl, trivial⟩ ⟨⟨rfl, .inl rfl, .inl rfl, .inl rfl, .inl rfl, trivial⟩, ⟨rfl, rfl, rfl, rfl, .inl rfl⟩, ⟨rfl, rfl, rfl, rfl, .inl rfl⟩, trivial⟩ rfl rfl, trivial⟩
          | false =>
          have hpos : 0 < l.length := by
            rw [hlen2, beq_eq_false_iff_ne] at e0
            omega
          have hk1 := hk1 hpos
          obtain ⟨x, hlst⟩ : ∃ x, l[l.length - 1]? = some x := ⟨_, List.getElem?_eq_getElem (by omega)⟩
          have hxi := hlast x (by rw [← hln]; exact List.mem_of_getElem? hlst)
          have e1 : ((x : Int) != (i : Int)) = true := bne_iff_ne.2 (by omega)
          conv => whnf
          rw [e0]
          conv => whnf
          rw [hk1]
          refine ⟨rfl, (show (0 : Int) ≤ ((l.length - 1 : Nat) : Int) by omega), (show ((l.length - 1 : Nat) : Int) < (((l.map fun (x : Nat) => (x : Int)).map irow).length : Int) by rw [hlen2]; omega), ?_⟩
          conv => whnf
          refine ⟨rfl, (by show l.length - 1 < ((l.map fun (x : Nat) => (x : Int)).map irow).length; rw [hlen2]; omega), fun row hrow => ?_⟩
          obtain ⟨d, hd, rfl⟩ := natsT_get hrow
          obtain rfl := Option.some.inj (hlst.symm.trans hd)
          clear hrow hd
          refine ⟨(show 0 < 1 by decide), fun t ht => ?_⟩
          cases ht
          conv => whnf
          rw [e1]
          conv => whnf
          exact ⟨(), [0, 1, _], [], Sub.mk' rfl ⟨⟨rfl, rfl⟩, ⟨rfl, rfl⟩, .inl rfl, .inl rfl, .inl rfl, ⟨rfl, rfl⟩, .inl rfl, trivial⟩ ⟨⟨rfl, .inl rfl, .inl rfl, .inl rfl, .inl rfl, trivial⟩, ⟨rfl, rfl, rfl, rfl, .inl rfl⟩, ⟨rfl, rfl, rfl, rfl, .inl rfl⟩, trivial⟩ rfl rfl, trivial⟩
      rintro - - -
      cases c with
      | true =>
        have hag := hagain rfl
        conv => whnf
        refine ⟨j + 1, [0, 1], [], Sub.pk [1] ?_, hjt, by show F.length - (j + 1) < F.length - j; omega⟩
        conv => whnf
        refine ⟨rfl, rfl, Nat.le_refl _, ?_⟩
        refine Sub0.mk' rfl ⟨⟨rfl, rfl⟩, ⟨rfl, rfl⟩, .inl rfl, .inl rfl, .inl (ti_succ hjt (by omega)), trivial⟩ ⟨⟨rfl, .inl rfl, .inl rfl, .inl rfl, .inl rfl, trivial⟩, ⟨rfl, rfl, rfl, rfl, .inl ?_⟩, trivial⟩ rfl rfl
        rw [hag]
        exact setC_same hget
      | false =>
        have hne := hnew rfl
        have hln : l = B0 := by rw [← hl]; exact List.append_nil _
        conv => whnf
        refine ⟨rfl, (show (0 : Int) ≤ j by omega), (show (j : Int) < ((((F.map fun (x : Nat) => (x : Int))).map irow).length : Int) by omega), fun row hrow => ?_⟩
        obtain ⟨d, hd, rfl⟩ := natsT_get hrow
        obtain rfl := Option.some.inj (hy.symm.trans hd)
        clear hrow hd
        conv => whnf
        refine ⟨rfl, rfl, Nat.le_refl _, (by show (((l.map fun (x : Nat) => (x : Int)).map irow).length + 1) * 8 ≤ _; rw [natsT_len]; omega), trivial, (fun row hr t ht => by rw [List.mem_singleton.1 hr] at ht; rw [List.mem_singleton.1 ht]; exact ⟨_, rfl⟩), trivial, ?_⟩
        conv => whnf
        refine ⟨rfl, (show (0 : Int) ≤ y by omega), (show (y : Int) < (N : Int) by omega), ?_⟩
        conv => whnf
        refine ⟨rfl, rfl, rfl, (by show y < ((A i j).map lrow).length; rw [List.length_map, hlen]; exact hyN), ⟨fun _ => rfl, trivial⟩, fun row hrow => ?_⟩
        obtain ⟨d, hd, rfl⟩ := lrow_get hrow
        obtain rfl := Option.some.inj (hget.symm.trans hd)
        clear hrow hd
        refine ⟨(show 0 + 1 ≤ 1 by decide), ?_⟩
        conv => whnf
        refine ⟨by kernel_rfl, fun _ => ?_⟩
        conv => whnf
        refine ⟨j + 1, [0, 1], [], Sub.pk [1] ?_, hjt, by show F.length - (j + 1) < F.length - j; omega⟩
        conv => whnf
        refine ⟨rfl, rfl, (by show ((l.map fun (x : Nat) => (x : Int)).map irow).length + 1 ≤ (((l.map fun (x : Nat) => (x : Int)).map irow) ++ [[ti i]]).length; rw [List.length_append]; exact Nat.le_refl _), ?_⟩
        refine Sub0.mk' rfl ⟨⟨rfl, rfl⟩, ⟨rfl, rfl⟩, .inl rfl, .inl rfl, .inl (ti_succ hjt (by omega)), trivial⟩ ⟨⟨rfl, .inl rfl, .inl rfl, .inl rfl, .inl rfl, trivial⟩, ⟨rfl, rfl, rfl, rfl, .inl ?_⟩, trivial⟩ rfl rfl
        refine (setC_put (A i j) y _ _ (by rw [hlen]; exact hyN)).trans ?_
        rw [hne, List.map_set, ← hln]
        exact congrArg (fun q => ((A i j).map lrow).set y [q]) (nats_snoc l i)
    · have hjt : F.length ≤ j := by have : decide ((j : Int) < ((((F.map fun (x : Nat) => (x : Int))).map irow).length : Int)) = false := hjt; have := of_decide_eq_false this; omega
      conv => whnf
      refine ⟨fun _ => ?_, fun h => absurd rfl h⟩
      conv => whnf
      exact ⟨i + 1, [0, 1], [], Sub.mk' rfl ⟨⟨rfl, rfl⟩, ⟨rfl, rfl⟩, .inl (ti_succ hlt1 (by omega)), trivial⟩ ⟨⟨rfl, .inl rfl, .inl rfl, .inl rfl, .inl rfl, trivial⟩, ⟨rfl, rfl, rfl, rfl, .inl (by rw [hnext j hjt])⟩, trivial⟩ rfl rfl, hlt1, by show N - (i + 1) < N - i; omega⟩
  · have hge : i = N := by have : decide ((i : Int) < ((g.nodes.map Nd.cells).length : Int)) = false := hge; have := of_decide_eq_false this; omega
    subst hge
    conv => whnf
    refine ⟨fun _ => ?_, fun h => absurd rfl h⟩
    conv => whnf
    exact ⟨⟨rfl, (by show i ≤ ((A i 0).map lrow).length; rw [List.length_map, hlen]; exact Nat.le_refl _), (by show listsT R = Tr.lst 1 24 (((A i 0).map lrow).take i); rw [List.take_of_length_le (by rw [List.length_map, hlen]; exact Nat.le_refl _), hfin])⟩, trivial⟩
set_option maxRecDepth 100000 in
theorem k_rahead0 (g : Gr) (hW : wholeB g = false) : K 22 [g.av] [] (.ret (.tr (listsT []))) [] := by
  have h1 := k_rwhole g
  rw [hW] at h1
  obtain ⟨name, locals, slots, nodes⟩ := g
  refine Ctr.of hT hmix Tryz.func22 rfl (fun _ _ => by kernel_rfl) rfl fun hok => ?_
  clear hok
  conv => whnf
  refine acall.pure _ (h1) rfl rfl fun _ => ?_
  conv => whnf
  exact ⟨.inr ⟨rfl, _, _, rfl⟩, trivial⟩
end Go.Proofs.YthboippafkcoiaaGreatDoor.am

namespace Go.Proofs.YthboippafkcoiaaGreatDoor.am
open Go Go.Proofs
set_option linter.all false

def drow (l : List Bool) : List Tr := [boolsT l]
abbrev tableT (D : List (List Bool)) : Tr := .lst 1 24 (D.map drow)
def trow : Option (List Bool) → List Tr
  | none => [nilT]
  | some l => [boolsT l]
abbrev tabB (D : List (Option (List Bool))) : Blk := .vec 56 1 24 (D.map trow)
theorem drow_get {l : List (List Bool)} {i : Nat} {row : List Tr} (h : (l.map drow)[i]? = some row) : ∃ d, l[i]? = some d ∧ row = drow d := by
  rw [List.getElem?_map, Option.map_eq_some_iff] at h
  obtain ⟨d, h1, rfl⟩ := h
  exact ⟨d, h1, rfl⟩
theorem trow_get {l : List (Option (List Bool))} {i : Nat} {row : List Tr} (h : (l.map trow)[i]? = some row) : ∃ d, l[i]? = some d ∧ row = trow d := by
  rw [List.getElem?_map, Option.map_eq_some_iff] at h
  obtain ⟨d, h1, rfl⟩ := h
  exact ⟨d, h1, rfl⟩
/-- the first i rows are laid -/
noncomputable def tabI (f : Nat → List Nat) (N i : Nat) : List (Option (List Bool)) := (List.range N).map fun a => if a < i then some (dmR f N a) else none
theorem tabI_len {f : Nat → List Nat} {N i : Nat} : (tabI f N i).length = N := by simp [tabI]
theorem tabI_zero {f : Nat → List Nat} {N : Nat} : tabI f N 0 = List.replicate N none := by
  refine List.ext_getElem? fun x => ?_
  by_cases hx : x < N
  · simp [tabI, hx]
  · rw [List.getElem?_eq_none (by rw [tabI_len]; omega), List.getElem?_eq_none (by simp; omega)]
theorem tabI_fin {f : Nat → List Nat} {N : Nat} : (tabI f N N).map trow = (dmL f N).map drow := by
  unfold tabI dmL
  rw [List.map_map, List.map_map]
  refine List.map_congr_left fun a ha => ?_
  show trow (if a < N then some (dmR f N a) else none) = drow (dmR f N a)
  rw [if_pos (List.mem_range.1 ha)]; rfl
theorem tabI_at {f : Nat → List Nat} {N i : Nat} (h : i < N) : (tabI f N i)[i]? = some none := by simp [tabI, h]
theorem tabI_set {f : Nat → List Nat} {N i : Nat} (h : i < N) : tabI f N (i + 1) = (tabI f N i).set i (some (dmR f N i)) := by
  refine List.ext_getElem? fun x => ?_
  by_cases hx : x < N
  · by_cases e : x = i
    · subst e
      rw [List.getElem?_set_self (by rw [tabI_len]; exact hx)]
      simp [tabI, hx]
    · rw [List.getElem?_set_ne (fun w => e w.symm)]
      have h1 : (tabI f N (i + 1))[x]? = some (if x < i + 1 then some (dmR f N x) else none) := by simp [tabI, hx]
      have h2 : (tabI f N i)[x]? = some (if x < i then some (dmR f N x) else none) := by simp [tabI, hx]
      rw [h1, h2]
      congr 1
      by_cases q : x < i
      · rw [if_pos q, if_pos (by omega)]
      · rw [if_neg q, if_neg (by omega)]
  · rw [List.getElem?_eq_none (by rw [tabI_len]; omega), List.getElem?_eq_none (by rw [List.length_set, tabI_len]; omega)]
set_option maxRecDepth 100000 in
set_option maxHeartbeats 2000000 in
theorem k_rdom (g : Gr) (hW : Whole g) : K 65 [g.av, .tr (boolsT (rchL (fol g) (-1) g.nodes.length))] [] (.ret (.tr (tableT (dmL (fol g) g.nodes.length)))) [] := by
  have hwo := fun cut => k_without g cut hW
  have hpos := hW.pos
  have hmo := hW.most
  have hrc := fun x hx => rchL_at (fol := fol g) (cut := -1) (N := g.nodes.length) (x := x) hx
  have hrl : (rchL (fol g) (-1) g.nodes.length).length = g.nodes.length := rchL_len
  have hlf := fun i x hx => rchL_at (fol := fol g) (cut := (i : Nat)) (N := g.nodes.length) (x := x) hx
  have hll : ∀ i : Nat, (rchL (fol g) (i : Nat) g.nodes.length).length = g.nodes.length := fun i => rchL_len
  generalize rchL (fol g) (-1) g.nodes.length = RC at hrc hrl ⊢
  generalize hLF : (fun i : Nat => rchL (fol g) (i : Int) g.nodes.length) = LF at *
  replace hwo : ∀ i : Nat, K 59 [g.av, .tr (ti (i : Nat))] [] (.ret (.tr (boolsT (LF i)))) [] := fun i => by rw [← hLF]; exact hwo i
  replace hlf : ∀ (i x : Nat), x < g.nodes.length → ((LF i)[x]? = some true ↔ Rch (fol g) (i : Nat) x) := fun i x hx => by rw [← hLF]; exact hlf i x hx
  replace hll : ∀ i : Nat, (LF i).length = g.nodes.length := fun i => by rw [← hLF]; exact hll i
  clear hLF hW
  generalize fol g = f at hrc hlf ⊢
  have hln : (g.nodes.map Nd.cells).length = g.nodes.length := List.length_map ..
  obtain ⟨N, hNe⟩ : ∃ N, g.nodes.length = N := ⟨_, rfl⟩
  rw [hNe] at hrc hrl hlf hll hpos hmo hln ⊢
  refine Ctr.cut [12] hT hmix Tryz.func65 rfl (fun _ _ => by kernel_rfl) rfl fun hok => ?_
  clear hok
  conv => whnf
  refine ⟨(by rw [hln]; omega), Int.le_refl _, (by rw [hln]; show (N : Int) * 24 ≤ _; omega), ?_⟩
  conv => whnf
  rw [hln, Int.toNat_natCast]
  refine LoopL.by (fun i : Nat => ⟨[(1, .tr (boolsT RC)), (2, .ptr 0 0), (5, .sl 1 N), (6, .tr (ti (i : Nat)))], [(0, grBl g), (1, tabB (tabI f N i))], 10⟩) (fun i => i ≤ N) (fun i => N - i) 0 [0, _] []
    (Sub.mk' rfl ⟨.inl rfl, ⟨rfl, rfl⟩, ⟨rfl, rfl⟩, .inl rfl, trivial⟩ ⟨⟨rfl, .inl rfl, .inl rfl, .inl rfl, .inl rfl, trivial⟩, ⟨rfl, rfl, rfl, by rw [tabI_zero, List.map_replicate]; rfl⟩, trivial⟩ rfl rfl) (Nat.zero_le _) ?_
  rintro i hi -
  conv => whnf
  refine csplit (fun hit => ?_) (fun hit => ?_)
  · have hit : i < N := by have : decide ((i : Int) < ((g.nodes.map Nd.cells).length : Int)) = true := hit; have := of_decide_eq_true this; omega
    obtain ⟨b, hb⟩ : ∃ b, RC[i]? = some b := ⟨_, List.getElem?_eq_getElem (by omega)⟩
    conv => whnf
    refine ⟨(by rw [hln]; omega), Int.le_refl _, (by rw [hln]; show (N : Int) * 1 ≤ _; omega), ?_⟩
    conv => whnf
    rw [hln, Int.toNat_natCast]
    refine CutL.by (fun _ : Unit => ⟨[(1, .tr (boolsT RC)), (2, .ptr 0 0), (5, .sl 1 N), (6, .tr (ti (i : Nat))), (7, .tr (boolsT (dmR f N i)))], [(0, grBl g), (1, tabB (tabI f N i))], 10⟩) (fun _ => True) ?_ ?_
    · conv => whnf
      refine ⟨rfl, (show (0 : Int) ≤ i by omega), (show (i : Int) < ((RC.map brow).length : Int) by rw [List.length_map]; omega), fun row hrow => ?_⟩
      obtain ⟨d, hd, rfl⟩ := brow_get hrow
      obtain rfl := Option.some.inj (hb.symm.trans hd)
      clear hrow hd
      have hlenR : (List.replicate N [Tr.v (.bool false)]).length = N := List.length_replicate ..
      cases b with
      | false =>
        have hno : ¬ Rch f (-1) i := fun w => by rw [(hrc i hit).2 w] at hb; cases hb
        have hrepT : boolsT (dmR f N i) = Tr.lst 1 1 ((List.replicate N [Tr.v (.bool false)]).take N) := by
          rw [dmR_no hno, List.take_of_length_le (Nat.le_of_eq hlenR)]
          show Tr.lst 1 1 ((List.replicate N false).map brow) = _
          rw [List.map_replicate]; rfl
        conv => whnf
        exact ⟨(), [0, 1], [], Sub.mk' rfl ⟨.inl rfl, ⟨rfl, rfl⟩, ⟨rfl, rfl⟩, .inl rfl, ⟨rfl, Nat.le_of_eq hlenR.symm, hrepT⟩, trivial⟩ ⟨⟨rfl, .inl rfl, .inl rfl, .inl rfl, .inl rfl, trivial⟩, ⟨rfl, rfl, rfl, rfl⟩, trivial⟩ rfl rfl, trivial⟩
      | true =>
        have hri : Rch f (-1) i := (hrc i hit).1 hb
        have hwo := hwo i
        have hlf := hlf i
        have hll := hll i
        generalize LF i = LL at hwo hlf hll
        conv => whnf
        refine acall.pure _ (hwo) rfl rfl fun _ => ?_
        conv => whnf
        refine LoopL.by (fun k : Nat => ⟨[(1, .tr (boolsT RC)), (2, .ptr 0 0), (5, .sl 1 N), (6, .tr (ti (i : Nat))), (7, .sl 2 N), (8, .tr (boolsT LL)), (9, .tr (ti (k : Nat)))], [(0, grBl g), (1, tabB (tabI f N i)), (2, boolsB (dmI f N i k))], 10⟩) (fun k => k ≤ N) (fun k => N - k) 0 [0, 1, _] []
          (Sub.mk' rfl ⟨.inl rfl, ⟨rfl, rfl⟩, ⟨rfl, rfl⟩, .inl rfl, ⟨rfl, rfl⟩, .inl rfl, .inl rfl, trivial⟩ ⟨⟨rfl, .inl rfl, .inl rfl, .inl rfl, .inl rfl, trivial⟩, ⟨rfl, rfl, rfl, rfl⟩, ⟨rfl, rfl, rfl, by rw [dmI_zero, List.map_replicate]; rfl⟩, trivial⟩ rfl rfl) (Nat.zero_le _) ?_
        rintro k hk -
        have hdl := dmI_len (fol := f) (N := N) (a := i) (k := k)
        conv => whnf
        refine csplit (fun hkt => ?_) (fun hkt => ?_)
        · have hkt : k < N := by have : decide ((k : Int) < (N : Int)) = true := hkt; have := of_decide_eq_true this; omega
          obtain ⟨rb, hrb⟩ : ∃ b, RC[k]? = some b := ⟨_, List.getElem?_eq_getElem (by omega)⟩
          obtain ⟨lb, hlb⟩ : ∃ b, LL[k]? = some b := ⟨_, List.getElem?_eq_getElem (by omega)⟩
          have hda := dmI_at (fol := f) (a := i) hkt
          have hset := fun b hb => dmI_set (fol := f) (a := i) (b := b) hkt hb
          conv => whnf
          refine ⟨rfl, (show (0 : Int) ≤ k by omega), (show (k : Int) < ((RC.map brow).length : Int) by rw [List.length_map]; omega), fun row hrow => ?_⟩
          obtain ⟨d, hd, rfl⟩ := brow_get hrow
          obtain rfl := Option.some.inj (hrb.symm.trans hd)
          clear hrow hd
          cases rb with
          | false =>
            have hv : (false = true ↔ Dm f i k) := ⟨fun w => (by cases w), fun w => (by rw [(hrc k hkt).2 w.2.1] at hrb; cases hrb)⟩
            conv => whnf
            refine ⟨rfl, (show (0 : Int) ≤ k by omega), (show (k : Int) < (N : Int) by omega), ?_⟩
            conv => whnf
            refine ⟨rfl, rfl, (by show k < ((dmI f N i k).map brow).length; rw [List.length_map]; omega), fun row hrow => ?_⟩
            obtain ⟨d, hd, rfl⟩ := brow_get hrow
            obtain rfl := Option.some.inj (hda.symm.trans hd)
            clear hrow hd
            refine ⟨(show 0 + 1 ≤ 1 by decide), ?_⟩
            conv => whnf
            exact ⟨k + 1, [0, 1, 2], [], Sub.mk' rfl ⟨.inl rfl, ⟨rfl, rfl⟩, ⟨rfl, rfl⟩, .inl rfl, ⟨rfl, rfl⟩, .inl rfl, .inl (ti_succ hkt (by omega)), trivial⟩ ⟨⟨rfl, .inl rfl, .inl rfl, .inl rfl, .inl rfl, trivial⟩, ⟨rfl, rfl, rfl, rfl⟩, ⟨rfl, rfl, rfl, by rw [hset false hv]; exact brow_set _ k false false⟩, trivial⟩ rfl rfl, hkt, by show N - (k + 1) < N - k; omega⟩
          | true =>
            have hrk : Rch f (-1) k := (hrc k hkt).1 hrb
            conv => whnf
            cases hki : ((k : Int) == (i : Int)) with
            | true =>
              obtain rfl : k = i := by have := eq_of_beq hki; omega
              have hv : true = true ↔ Dm f k k := ⟨fun _ => dm_refl hrk, fun _ => rfl⟩
              conv => whnf
              refine ⟨rfl, (show (0 : Int) ≤ k by omega), (show (k : Int) < (N : Int) by omega), ?_⟩
              conv => whnf
              refine ⟨rfl, rfl, (by show k < ((dmI f N k k).map brow).length; rw [List.length_map]; omega), fun row hrow => ?_⟩
              obtain ⟨d, hd, rfl⟩ := brow_get hrow
              obtain rfl := Option.some.inj (hda.symm.trans hd)
              clear hrow hd
              refine ⟨(show 0 + 1 ≤ 1 by decide), ?_⟩
              conv => whnf
              exact ⟨k + 1, [0, 1, 2], [], Sub.mk' rfl ⟨.inl rfl, ⟨rfl, rfl⟩, ⟨rfl, rfl⟩, .inl rfl, ⟨rfl, rfl⟩, .inl rfl, .inl (ti_succ hkt (by omega)), trivial⟩ ⟨⟨rfl, .inl rfl, .inl rfl, .inl rfl, .inl rfl, trivial⟩, ⟨rfl, rfl, rfl, rfl⟩, ⟨rfl, rfl, rfl, by rw [hset true hv]; exact brow_set _ k false true⟩, trivial⟩ rfl rfl, hkt, by show N - (k + 1) < N - k; omega⟩
            | false =>
              have hkne : k ≠ i := fun w => by rw [beq_eq_false_iff_ne] at hki; exact hki (by rw [w])
              have hv : (!lb) = true ↔ Dm f i k := by
                have h1 : lb = true ↔ Rch f (i : Nat) k := by rw [← hlf k hkt, hlb]; simp
                constructor
                · intro w
                  refine ⟨hri, hrk, .inr fun q => ?_⟩
                  rw [h1.2 q] at w; cases w
                · intro w
                  cases lb with
                  | false => rfl
                  | true => exact absurd (h1.1 rfl) (w.2.2.resolve_left hkne)
              conv => whnf
              refine ⟨rfl, (show (0 : Int) ≤ k by omega), (show (k : Int) < ((LL.map brow).length : Int) by rw [List.length_map]; omega), fun row hrow => ?_⟩
              obtain ⟨d, hd, rfl⟩ := brow_get hrow
              obtain rfl := Option.some.inj (hlb.symm.trans hd)
              clear hrow hd
              conv => whnf
              refine ⟨rfl, (show (0 : Int) ≤ k by omega), (show (k : Int) < (N : Int) by omega), ?_⟩
              conv => whnf
              refine ⟨rfl, rfl, (by show k < ((dmI f N i k).map brow).length; rw [List.length_map]; omega), fun row hrow => ?_⟩
              obtain ⟨d, hd, rfl⟩ := brow_get hrow
              obtain rfl := Option.some.inj (hda.symm.trans hd)
              clear hrow hd
              refine ⟨(show 0 + 1 ≤ 1 by decide), ?_⟩
              conv => whnf
              exact ⟨k + 1, [0, 1, 2], [], Sub.mk' rfl ⟨.inl rfl, ⟨rfl, rfl⟩, ⟨rfl, rfl⟩, .inl rfl, ⟨rfl, rfl⟩, .inl rfl, .inl (ti_succ hkt (by omega)), trivial⟩ ⟨⟨rfl, .inl rfl, .inl rfl, .inl rfl, .inl rfl, trivial⟩, ⟨rfl, rfl, rfl, rfl⟩, ⟨rfl, rfl, rfl, by rw [hset (!lb) hv]; exact brow_set _ k false (!lb)⟩, trivial⟩ rfl rfl, hkt, by show N - (k + 1) < N - k; omega⟩
        · have hkt : k = N := by have : decide ((k : Int) < (N : Int)) = false := hkt; have := of_decide_eq_false this; omega
          subst hkt
          have hfin := dmI_fin (fol := f) (N := k) (a := i)
          conv => whnf
          refine ⟨fun _ => ?_, fun h => absurd rfl h⟩
          conv => whnf
          exact ⟨(), [0, 1], [], Sub.mk' rfl ⟨.inl rfl, ⟨rfl, rfl⟩, ⟨rfl, rfl⟩, .inl rfl, ⟨rfl, (by rw [List.length_map]; omega), (by rw [hfin, List.take_of_length_le (by rw [List.length_map, dmR_len]; exact Nat.le_refl _)])⟩, trivial⟩ ⟨⟨rfl, .inl rfl, .inl rfl, .inl rfl, .inl rfl, trivial⟩, ⟨rfl, rfl, rfl, rfl⟩, trivial⟩ rfl rfl, trivial⟩
    rintro - - -
    have hta := tabI_at (f := f) hit
    have hts := tabI_set (f := f) hit
    have htl := tabI_len (f := f) (N := N) (i := i)
    generalize dmR f N i = DR at hts
    conv => whnf
    refine ⟨rfl, (show (0 : Int) ≤ i by omega), (show (i : Int) < (N : Int) by omega), ?_⟩
    conv => whnf
    refine ⟨rfl, rfl, (by show i < ((tabI f N i).map trow).length; rw [List.length_map]; omega), fun row hrow => ?_⟩
    obtain ⟨d, hd, rfl⟩ := trow_get hrow
    obtain rfl := Option.some.inj (hta.symm.trans hd)
    clear hrow hd
    refine ⟨(show 0 + 1 ≤ 1 by decide), ?_⟩
    conv => whnf
    exact ⟨i + 1, [0, 1], [], Sub.mk' rfl ⟨.inl rfl, ⟨rfl, rfl⟩, ⟨rfl, rfl⟩, .inl (ti_succ hit (by omega)), trivial⟩ ⟨⟨rfl, .inl rfl, .inl rfl, .inl rfl, .inl rfl, trivial⟩, ⟨rfl, rfl, rfl, by rw [hts, List.map_set]; rfl⟩, trivial⟩ rfl rfl, hit, by show N - (i + 1) < N - i; omega⟩
  · have hit : i = N := by have : decide ((i : Int) < ((g.nodes.map Nd.cells).length : Int)) = false := hit; have := of_decide_eq_false this; omega
    subst hit
    have hfin := tabI_fin (f := f) (N := i)
    have htl := tabI_len (f := f) (N := i) (i := i)
    conv => whnf
    refine ⟨fun _ => ?_, fun h => absurd rfl h⟩
    conv => whnf
    exact ⟨⟨rfl, (by show i ≤ ((tabI f i i).map trow).length; rw [List.length_map]; omega), (by show tableT (dmL f i) = Tr.lst 1 24 (((tabI f i i).map trow).take i); rw [List.take_of_length_le (by rw [List.length_map]; omega), hfin])⟩, trivial⟩
end Go.Proofs.YthboippafkcoiaaGreatDoor.am

namespace Go.Proofs.YthboippafkcoiaaGreatDoor.am
open Go Go.Proofs
set_option linter.all false

theorem irow_app {l : List Int} {k : Nat} (hk : l.length = k) (x : Int) : (l.map irow).take k ++ [[ti x]] = (l ++ [x]).map irow := by
  rw [List.map_append, List.take_of_length_le (by rw [List.length_map]; omega)]; rfl
set_option maxRecDepth 100000 in
theorem k_rreachedN (g : Gr) (hW : wholeB g = false) : K 19 [g.av] [] (.ret nilA) [] := by
  have h1 := k_rwhole g
  rw [hW] at h1
  obtain ⟨name, locals, slots, nodes⟩ := g
  refine Ctr.of hT hmix Tryz.func19 rfl (fun _ _ => by kernel_rfl) rfl fun hok => ?_
  clear hok
  conv => whnf
  refine acall.pure _ (h1) rfl rfl fun _ => ?_
  conv => whnf
  exact ⟨.inl rfl, trivial⟩
set_option maxRecDepth 100000 in
theorem k_rdominators0 (g : Gr) (hW : wholeB g = false) : K 25 [g.av] [] (.ret (.tr (intsT []))) [] := by
  have h1 := k_rreachedN g hW
  obtain ⟨name, locals, slots, nodes⟩ := g
  refine Ctr.of hT hmix Tryz.func25 rfl (fun _ _ => by kernel_rfl) rfl fun hok => ?_
  clear hok
  conv => whnf
  refine acall.pure _ (h1) rfl rfl fun _ => ?_
  conv => whnf
  exact ⟨.inr ⟨rfl, _, _, rfl⟩, trivial⟩
set_option maxRecDepth 100000 in
theorem k_rdepth0 (g : Gr) (hW : wholeB g = false) : K 27 [g.av] [] (.ret (.tr (intsT []))) [] := by
  have h1 := k_rreachedN g hW
  obtain ⟨name, locals, slots, nodes⟩ := g
  refine Ctr.of hT hmix Tryz.func27 rfl (fun _ _ => by kernel_rfl) rfl fun hok => ?_
  clear hok
  conv => whnf
  refine acall.pure _ (h1) rfl rfl fun _ => ?_
  conv => whnf
  exact ⟨.inr ⟨rfl, _, _, rfl⟩, trivial⟩
set_option maxRecDepth 100000 in
theorem k_dominatorsN (g : Gr) (hW : wholeB g = false) : K 24 [g.av] [] (.ret nilA) [] := by
  have h1 := k_whole g
  rw [hW] at h1
  obtain ⟨name, locals, slots, nodes⟩ := g
  refine Ctr.of hT hmix Tryz.func24 rfl (fun _ _ => by kernel_rfl) rfl fun hok => ?_
  clear hok
  conv => whnf
  refine acall.pure _ (h1) rfl rfl fun _ => ?_
  conv => whnf
  exact ⟨.inl rfl, trivial⟩
set_option maxRecDepth 100000 in
theorem k_depth0 (g : Gr) (hW : wholeB g = false) : K 26 [g.av] [] (.ret (.tr (intsT []))) [] := by
  have h1 := k_dominatorsN g hW
  obtain ⟨name, locals, slots, nodes⟩ := g
  refine Ctr.cut [2000033] hT hmix Tryz.func26 rfl (fun _ _ => by kernel_rfl) rfl fun hok => ?_
  clear hok
  conv => whnf
  refine acall.pure _ (h1) rfl rfl fun _ => ?_
  conv => whnf
  exact ⟨.inr ⟨rfl, _, _, rfl⟩, trivial⟩
set_option maxRecDepth 100000 in
set_option maxHeartbeats 2000000 in
theorem k_rdominators (g : Gr) (hW : wholeB g = true) : K 25 [g.av] [] (.ret (.tr (intsT (idomL (fol g) g.nodes.length)))) [] := by
  have hre := k_rreached g hW
  have hW := whole_of hW
  have hdo := k_rdom g hW
  have hpos := hW.pos
  have hmo := hW.most
  have hlt := hW.lt
  have hrl : (rchL (fol g) (-1) g.nodes.length).length = g.nodes.length := rchL_len
  have hDa : ∀ a, a < g.nodes.length → (dmL (fol g) g.nodes.length)[a]? = some (dmR (fol g) g.nodes.length a) := fun a h => dmL_at h
  have hRb : ∀ a b, b < g.nodes.length → ((dmR (fol g) g.nodes.length a)[b]? = some true ↔ Dm (fol g) a b) := fun a b h => dmR_at h
  have hRl : ∀ a, (dmR (fol g) g.nodes.length a).length = g.nodes.length := fun a => dmR_len
  have hDl : (dmL (fol g) g.nodes.length).length = g.nodes.length := dmL_len
  have hfin := fun b v h => NextI.fin (fol := fol g) (N := g.nodes.length) (b := b) (v := v) hpos hlt h
  have hid : ∀ x, x < g.nodes.length → (idomL (fol g) g.nodes.length)[x]? = some (idomI (fol g) x) := fun x hx => by simp [idomL, hx]
  have hil : (idomL (fol g) g.nodes.length).length = g.nodes.length := by simp [idomL]
  generalize rchL (fol g) (-1) g.nodes.length = RC at hre hdo hrl
  generalize dmL (fol g) g.nodes.length = D at hdo hDa hDl
  generalize dmR (fol g) g.nodes.length = R at hDa hRb hRl
  generalize idomL (fol g) g.nodes.length = IL at hid hil ⊢
  generalize idomI (fol g) = I1 at hfin hid
  clear hW hlt
  generalize fol g = f at hRb hfin
  have hln : (g.nodes.map Nd.cells).length = g.nodes.length := List.length_map ..
  obtain ⟨N, hNe⟩ : ∃ N, g.nodes.length = N := ⟨_, rfl⟩
  rw [hNe] at hpos hmo hrl hDa hRb hRl hDl hfin hid hil hln
  refine Ctr.of hT hmix Tryz.func25 rfl (fun _ _ => by kernel_rfl) rfl fun hok => ?_
  clear hok
  conv => whnf
  refine acall.pure _ (hre) rfl rfl fun _ => ?_
  conv => whnf
  refine ⟨(by rw [List.length_map]; omega), ?_⟩
  conv => whnf
  refine acall.pure _ (hdo) rfl rfl fun _ => ?_
  conv => whnf
  refine LoopL.by (fun b : Nat => ⟨[(1, .ptr 0 0), (4, .tr (tableT D)), (5, .sl 1 b), (6, .tr (ti (b : Nat)))], [(0, grBl g), (1, ivB (IL.take b))], 10⟩) (fun b => b ≤ N) (fun b => N - b) 0 [_] [1]
    (Sub.mk' rfl ⟨⟨rfl, rfl⟩, .inl rfl, ⟨rfl, rfl, rfl, rfl⟩, .inl rfl, trivial⟩ ⟨⟨rfl, .inl rfl, .inl rfl, .inl rfl, .inl rfl, trivial⟩, ⟨rfl, _, _, _, rfl, by decide⟩, trivial⟩ rfl rfl) (Nat.zero_le _) ?_
  rintro b hb -
  conv => whnf
  refine csplit (fun hbt => ?_) (fun hbt => ?_)
  · have hbt : b < N := by have : decide ((b : Int) < ((g.nodes.map Nd.cells).length : Int)) = true := hbt; have := of_decide_eq_true this; omega
    conv => whnf
    refine LoopL.by (fun x : Int × Nat => ⟨[(1, .ptr 0 0), (4, .tr (tableT D)), (5, .sl 1 b), (6, .tr (ti (b : Nat))), (7, .tr (ti x.1)), (8, .tr (ti (x.2 : Nat)))], [(0, grBl g), (1, ivB (IL.take b))], 10⟩) (fun x => x.2 ≤ N ∧ NextI f b x.2 x.1) (fun x => N - x.2) (-1, 0) [0, 1] []
      (Sub.mk' rfl ⟨⟨rfl, rfl⟩, .inl rfl, ⟨rfl, rfl⟩, .inl rfl, .inl rfl, .inl rfl, trivial⟩ ⟨⟨rfl, .inl rfl, .inl rfl, .inl rfl, .inl rfl, trivial⟩, ⟨rfl, rfl, rfl, rfl⟩, trivial⟩ rfl rfl) ⟨Nat.zero_le _, NextI.start f b⟩ ?_
    rintro ⟨v, a⟩ ⟨ha, hv⟩ -
    simp only at ha hv
    conv => whnf
    refine csplit (fun hat => ?_) (fun hat => ?_)
    · replace hat : a < N := by have : decide ((a : Int) < ((g.nodes.map Nd.cells).length : Int)) = true := hat; have := of_decide_eq_true this; omega
      conv => whnf
      cases hab : ((a : Int) != (b : Int)) with
      | false =>
        have hv2 := hv.skip (fun w => by rw [bne_eq_false_iff_eq] at hab; exact w.1 (by omega))
        conv => whnf
        exact ⟨(v, a + 1), [0, 1], [], Sub.mk' rfl ⟨⟨rfl, rfl⟩, .inl rfl, ⟨rfl, rfl⟩, .inl rfl, .inl rfl, .inl (ti_succ hat (by omega)), trivial⟩ ⟨⟨rfl, .inl rfl, .inl rfl, .inl rfl, .inl rfl, trivial⟩, ⟨rfl, rfl, rfl, rfl⟩, trivial⟩ rfl rfl, ⟨hat, hv2⟩, by show N - (a + 1) < N - a; omega⟩
      | true =>
        have hne : a ≠ b := fun w => by rw [bne_iff_ne] at hab; exact hab (by rw [w])
        obtain ⟨db, hdb⟩ : ∃ x, (R a)[b]? = some x := ⟨_, List.getElem?_eq_getElem (by rw [hRl]; exact hbt)⟩
        have hdm := hRb a b hbt
        rw [hdb] at hdm
        conv => whnf
        refine ⟨rfl, (show (0 : Int) ≤ a by omega), (show (a : Int) < ((D.map drow).length : Int) by rw [List.length_map]; omega), fun row hrow => ?_⟩
        obtain ⟨d, hd, rfl⟩ := drow_get hrow
        obtain rfl := Option.some.inj ((hDa a hat).symm.trans hd)
        clear hrow hd
        conv => whnf
        refine ⟨rfl, (show (0 : Int) ≤ b by omega), (show (b : Int) < (((R a).map brow).length : Int) by rw [List.length_map, hRl]; omega), fun row hrow => ?_⟩
        obtain ⟨d, hd, rfl⟩ := brow_get hrow
        obtain rfl := Option.some.inj (hdb.symm.trans hd)
        clear hrow hd
        cases db with
        | false =>
          have hv2 := hv.skip (fun w => by have := hdm.2 w.2; cases this)
          conv => whnf
          exact ⟨(v, a + 1), [0, 1], [], Sub.mk' rfl ⟨⟨rfl, rfl⟩, .inl rfl, ⟨rfl, rfl⟩, .inl rfl, .inl rfl, .inl (ti_succ hat (by omega)), trivial⟩ ⟨⟨rfl, .inl rfl, .inl rfl, .inl rfl, .inl rfl, trivial⟩, ⟨rfl, rfl, rfl, rfl⟩, trivial⟩ rfl rfl, ⟨hat, hv2⟩, by show N - (a + 1) < N - a; omega⟩
        | true =>
          have hdm := hdm.1 rfl
          conv => whnf
          cases hv0 : decide (v < 0) with
          | true =>
            have hv2 := hv.first (of_decide_eq_true hv0) hne hdm
            conv => whnf
            exact ⟨((a : Nat), a + 1), [0, 1], [], Sub.mk' rfl ⟨⟨rfl, rfl⟩, .inl rfl, ⟨rfl, rfl⟩, .inl rfl, .inl rfl, .inl (ti_succ hat (by omega)), trivial⟩ ⟨⟨rfl, .inl rfl, .inl rfl, .inl rfl, .inl rfl, trivial⟩, ⟨rfl, rfl, rfl, rfl⟩, trivial⟩ rfl rfl, ⟨hat, hv2⟩, by show N - (a + 1) < N - a; omega⟩
          | false =>
            have hv0 := of_decide_eq_false hv0
            obtain ⟨m, rfl, hma⟩ : ∃ m : Nat, v = m ∧ m < a := hv.rng.resolve_left (fun w => by omega)
            obtain ⟨mb, hmb⟩ : ∃ x, (R m)[a]? = some x := ⟨_, List.getElem?_eq_getElem (by rw [hRl]; exact hat)⟩
            have hmm := hRb m a hat
            rw [hmb] at hmm
            conv => whnf
            refine ⟨rfl, (show (0 : Int) ≤ m by omega), (show (m : Int) < ((D.map drow).length : Int) by rw [List.length_map]; omega), fun row hrow => ?_⟩
            obtain ⟨d, hd, rfl⟩ := drow_get hrow
            obtain rfl := Option.some.inj ((hDa m (by omega)).symm.trans hd)
            clear hrow hd
            conv => whnf
            refine ⟨rfl, (show (0 : Int) ≤ a by omega), (show (a : Int) < (((R m).map brow).length : Int) by rw [List.length_map, hRl]; omega), fun row hrow => ?_⟩
            obtain ⟨d, hd, rfl⟩ := brow_get hrow
            obtain rfl := Option.some.inj (hmb.symm.trans hd)
            clear hrow hd
            cases mb with
            | true =>
              have hv2 := hv.nearer hne hdm (hmm.1 rfl)
              conv => whnf
              exact ⟨((a : Nat), a + 1), [0, 1], [], Sub.mk' rfl ⟨⟨rfl, rfl⟩, .inl rfl, ⟨rfl, rfl⟩, .inl rfl, .inl rfl, .inl (ti_succ hat (by omega)), trivial⟩ ⟨⟨rfl, .inl rfl, .inl rfl, .inl rfl, .inl rfl, trivial⟩, ⟨rfl, rfl, rfl, rfl⟩, trivial⟩ rfl rfl, ⟨hat, hv2⟩, by show N - (a + 1) < N - a; omega⟩
            | false =>
              have hv2 := hv.farther hdm (fun w => by have := hmm.2 w; cases this)
              conv => whnf
              exact ⟨((m : Nat), a + 1), [0, 1], [], Sub.mk' rfl ⟨⟨rfl, rfl⟩, .inl rfl, ⟨rfl, rfl⟩, .inl rfl, .inl rfl, .inl (ti_succ hat (by omega)), trivial⟩ ⟨⟨rfl, .inl rfl, .inl rfl, .inl rfl, .inl rfl, trivial⟩, ⟨rfl, rfl, rfl, rfl⟩, trivial⟩ rfl rfl, ⟨hat, hv2⟩, by show N - (a + 1) < N - a; omega⟩
    · have hat : a = N := by have : decide ((a : Int) < ((g.nodes.map Nd.cells).length : Int)) = false := hat; have := of_decide_eq_false this; omega
      subst hat
      have hvi := hfin b v hv
      have htk : IL.take (b + 1) = IL.take b ++ [v] := by rw [List.take_succ, hid b hbt, hvi]; rfl
      have hlk : (IL.take b).length = b := by rw [List.length_take]; omega
      have hda := irow_app hlk v
      rw [← htk] at hda
      conv => whnf
      refine ⟨fun _ => ?_, fun h => absurd rfl h⟩
      conv => whnf
      refine ⟨rfl, rfl, rfl, (by rw [List.length_map]; omega), (show (b + 1) * 8 ≤ 150000000000000 by omega), fun q hq => ?_, ?_⟩
      · cases hq with
        | head => exact Nat.ne_of_beq_eq_false rfl
        | tail _ h => cases h
      conv => whnf
      exact ⟨b + 1, [0, _], [], Sub.mk' rfl ⟨⟨rfl, rfl⟩, .inl rfl, ⟨rfl, rfl⟩, .inl (ti_succ hbt (by omega)), trivial⟩ ⟨⟨rfl, .inl rfl, .inl rfl, .inl rfl, .inl rfl, trivial⟩, ⟨rfl, rfl, rfl, hda⟩, trivial⟩ rfl rfl, hbt, by show a - (b + 1) < a - b; omega⟩
  · have hbt : b = N := by have : decide ((b : Int) < ((g.nodes.map Nd.cells).length : Int)) = false := hbt; have := of_decide_eq_false this; omega
    subst hbt
    have htk : IL.take b = IL := List.take_of_length_le (by omega)
    rw [htk]
    conv => whnf
    refine ⟨fun _ => ?_, fun h => absurd rfl h⟩
    conv => whnf
    exact ⟨⟨rfl, (by show b ≤ (IL.map irow).length; rw [List.length_map]; omega), (by show intsT IL = Tr.lst 1 8 ((IL.map irow).take b); rw [List.take_of_length_le (by rw [List.length_map]; omega)])⟩, trivial⟩
end Go.Proofs.YthboippafkcoiaaGreatDoor.am

namespace Go.Proofs.YthboippafkcoiaaGreatDoor.am
open Go Go.Proofs
set_option linter.all false

theorem nrow_app {l : List Nat} (x : Nat) : (l.map nrow).take l.length ++ [[ti (x : Nat)]] = (l ++ [x]).map nrow := by
  rw [List.map_append, List.take_of_length_le (by rw [List.length_map]; exact Nat.le_refl _)]; rfl
theorem nrow_rep0 (N : Nat) : List.replicate N [Tr.v (.int .i64 0)] = (List.replicate N 0).map nrow := by
  rw [List.map_replicate]; rfl
abbrev dpS (RC : List Bool) (D : List (List Bool)) (A : List (List Nat)) (N h : Nat) (r : List (Nat × AV)) : List (Nat × AV) := (1, .ptr 0 0) :: (3, .tr (boolsT RC)) :: (4, .tr (tableT D)) :: (5, .tr (listsT A)) :: (6, .sl 1 N) :: (7, .tr (ti (h : Nat))) :: r
set_option maxRecDepth 100000 in
set_option maxHeartbeats 4000000 in
theorem k_rdepth (g : Gr) (hW : wholeB g = true) : K 27 [g.av] [] (.ret (.tr (natsT (depthL (fol g) g.nodes.length)))) [] := by
  have hre := k_rreached g hW
  have ha := k_rahead g hW
  have hW := whole_of hW
  have hdo := k_rdom g hW
  have hpos := hW.pos
  have hmo := hW.most
  have hlt := hW.lt
  have hrc := fun x hx => rchL_at (fol := fol g) (cut := -1) (N := g.nodes.length) (x := x) hx
  have hrl : (rchL (fol g) (-1) g.nodes.length).length = g.nodes.length := rchL_len
  have hDa : ∀ a, a < g.nodes.length → (dmL (fol g) g.nodes.length)[a]? = some (dmR (fol g) g.nodes.length a) := fun a h => dmL_at h
  have hRb : ∀ a b, b < g.nodes.length → ((dmR (fol g) g.nodes.length a)[b]? = some true ↔ Dm (fol g) a b) := fun a b h => dmR_at h
  have hRl : ∀ a, (dmR (fol g) g.nodes.length a).length = g.nodes.length := fun a => dmR_len
  have hDl : (dmL (fol g) g.nodes.length).length = g.nodes.length := dmL_len
  have hal : ∀ x, x < g.nodes.length → (aheadL (fol g) g.nodes.length)[x]? = some (aheadN (fol g) g.nodes.length x) := fun x hx => by simp [aheadL, hx]
  have hall : (aheadL (fol g) g.nodes.length).length = g.nodes.length := by simp [aheadL]
  have haN : ∀ x, ∀ p ∈ aheadN (fol g) g.nodes.length x, p < g.nodes.length ∧ x ∈ fol g p := fun x p hp => mem_aheadN.1 hp
  have hfd : ∀ a, g.nodes.length ≤ a → fol g a = [] := fun a h => by
    unfold fol
    rw [List.getElem?_eq_none h]
  have hgn := fun h I hG n => GatI.none (fol := fol g) (N := g.nodes.length) (h := h) (I := I) hfd hG n
  have hgf := fun h I todo hh hG hne => GatI.fin (fol := fol g) (N := g.nodes.length) (h := h) (I := I) (todo := todo) hfd hh hG hne
  have hjf := fun h I todo i n hJ => LpJ.fin (fol := fol g) (N := g.nodes.length) (h := h) (I := I) (todo := todo) (i := i) (n := n) hfd hJ
  have hBl : ∀ x, (aheadN (fol g) g.nodes.length x).length ≤ g.nodes.length := fun x => by
    have := List.length_filter_le (fun i => (fol g i).contains x) (List.range g.nodes.length)
    rwa [List.length_range] at this
  clear hW hlt hfd
  generalize rchL (fol g) (-1) g.nodes.length = RC at hre hdo hrl hrc
  generalize dmL (fol g) g.nodes.length = D at hdo hDa hDl
  generalize dmR (fol g) g.nodes.length = R at hDa hRb hRl
  generalize aheadL (fol g) g.nodes.length = A at ha hal hall
  generalize aheadN (fol g) g.nodes.length = B at hal haN hgn hgf hjf hBl
  obtain ⟨f, hf⟩ : ∃ f, fol g = f := ⟨_, rfl⟩
  rw [hf] at hrc hRb haN hgn hgf hjf ⊢
  clear hf
  have hln : (g.nodes.map Nd.cells).length = g.nodes.length := List.length_map ..
  obtain ⟨N, hNe⟩ : ∃ N, g.nodes.length = N := ⟨_, rfl⟩
  rw [hNe] at hpos hmo hrl hrc hDa hRb hRl hDl hal hall haN hgn hgf hjf hBl hln ⊢
  refine Ctr.of hT hmix Tryz.func27 rfl (fun _ _ => by kernel_rfl) rfl fun hok => ?_
  clear hok
  conv => whnf
  refine acall.pure _ (hre) rfl rfl fun _ => ?_
  conv => whnf
  refine ⟨(by rw [List.length_map]; omega), ?_⟩
  conv => whnf
  refine acall.pure _ (hdo) rfl rfl fun _ => ?_
  conv => whnf
  refine acall.pure _ (ha) rfl rfl fun _ => ?_
  conv => whnf
  refine ⟨(by rw [hln]; omega), Int.le_refl _, (by rw [hln]; show (N : Int) * 8 ≤ _; omega), ?_⟩
  conv => whnf
  rw [hln, Int.toNat_natCast]
  refine LoopL.by (fun h : Nat => ⟨dpS RC D A N h [], [(0, grBl g), (1, natsB (depthI f N h))], 10⟩) (fun h => h ≤ N) (fun h => N - h) 0 [_, _] []
    (Sub.mk' rfl ⟨⟨rfl, rfl⟩, .inl rfl, .inl rfl, .inl rfl, ⟨rfl, rfl⟩, .inl rfl, trivial⟩ ⟨⟨rfl, .inl rfl, .inl rfl, .inl rfl, .inl rfl, trivial⟩, ⟨rfl, rfl, rfl, by rw [depthI_zero]; exact nrow_rep0 N⟩, trivial⟩ rfl rfl) (Nat.zero_le _) ?_
  rintro h hh -
  conv => whnf
  refine csplit (fun hht => ?_) (fun hht => ?_)
  · replace hht : h < N := by have : decide ((h : Int) < ((g.nodes.map Nd.cells).length : Int)) = true := hht; have := of_decide_eq_true this; omega
    have haNh := haN h
    have hgn := hgn h
    have hgf := hgf h
    have hjf := hjf h
    have hBh := hBl h
    have halh := hal h hht
    obtain ⟨L, hL⟩ : ∃ L, B h = L := ⟨_, rfl⟩
    rw [hL] at haNh hgn hgf hBh halh
    have hLl := natsT_len L
    conv => whnf
    refine ⟨(by rw [hln]; omega), Int.le_refl _, (by rw [hln]; show (N : Int) * 1 ≤ _; omega), ?_⟩
    conv => whnf
    rw [hln, Int.toNat_natCast]
    refine LoopL.by (fun x : List Bool × List Nat × Nat => ⟨dpS RC D A N h [(8, .sl 2 N), (9, .sl 3 x.2.1.length), (10, .tr (ti (x.2.2 : Nat)))], [(0, grBl g), (1, natsB (depthI f N h)), (2, boolsB x.1), (3, natsB x.2.1)], 10⟩) (fun x => x.2.2 ≤ L.length ∧ GatI f N h x.1 x.2.1 (L.take x.2.2)) (fun x => L.length - x.2.2) (List.replicate N false, [], 0) [0, 1, _] [3]
      (Sub.mk' rfl ⟨⟨rfl, rfl⟩, .inl rfl, .inl rfl, .inl rfl, ⟨rfl, rfl⟩, .inl rfl, ⟨rfl, rfl⟩, ⟨rfl, rfl, rfl, rfl⟩, .inl rfl, trivial⟩ ⟨⟨rfl, .inl rfl, .inl rfl, .inl rfl, .inl rfl, trivial⟩, ⟨rfl, rfl, rfl, rfl⟩, ⟨rfl, rfl, rfl, brow_rep N false⟩, ⟨rfl, _, _, _, rfl, by decide⟩, trivial⟩ rfl rfl) ⟨Nat.zero_le _, GatI.start f N h⟩ ?_
    rintro ⟨I, todo, k⟩ ⟨hk, hG⟩ -
    simp only at hk hG
    have hIl := hG.len
    have htl := hG.todo_len
    conv => whnf
    refine ⟨rfl, (show (0 : Int) ≤ h by omega), (by show (h : Int) < ((A.map lrow).length : Int); rw [List.length_map, hall]; omega), fun row hrow => ?_⟩
    obtain ⟨d, hd, rfl⟩ := lrow_get hrow
    obtain rfl := Option.some.inj (halh.symm.trans hd)
    clear hrow hd
    conv => whnf
    refine csplit (fun hkt => ?_) (fun hkt => ?_)
    · replace hkt : k < L.length := by have : decide ((k : Int) < ((((L.map fun (x : Nat) => (x : Int))).map irow).length : Int)) = true := hkt; have := of_decide_eq_true this; omega
      obtain ⟨a, hka⟩ : ∃ a, L[k]? = some a := ⟨_, List.getElem?_eq_getElem hkt⟩
      obtain ⟨haN1, hha⟩ := haNh a (List.mem_of_getElem? hka)
      have htk : L.take (k + 1) = L.take k ++ [a] := take_snocL hka
      obtain ⟨ra, hra⟩ : ∃ b, RC[a]? = some b := ⟨_, List.getElem?_eq_getElem (by omega)⟩
      obtain ⟨da, hda⟩ : ∃ x, (R h)[a]? = some x := ⟨_, List.getElem?_eq_getElem (by rw [hRl]; exact haN1)⟩
      have hdm := hRb h a haN1
      rw [hda] at hdm
      obtain ⟨ia, hia⟩ : ∃ x, I[a]? = some x := ⟨_, List.getElem?_eq_getElem (by omega)⟩
      conv => whnf
      refine ⟨rfl, (show (0 : Int) ≤ h by omega), (by show (h : Int) < ((A.map lrow).length : Int); rw [List.length_map, hall]; omega), fun row hrow => ?_⟩
      obtain ⟨d, hd, rfl⟩ := lrow_get hrow
      obtain rfl := Option.some.inj (halh.symm.trans hd)
      clear hrow hd
      conv => whnf
      refine ⟨rfl, (show (0 : Int) ≤ k by omega), (show (k : Int) < ((((L.map fun (x : Nat) => (x : Int))).map irow).length : Int) by omega), fun row hrow => ?_⟩
      obtain ⟨d, hd, rfl⟩ := natsT_get hrow
      obtain rfl := Option.some.inj (hka.symm.trans hd)
      clear hrow hd
      conv => whnf
      refine ⟨rfl, (show (0 : Int) ≤ a by omega), (by show (a : Int) < ((RC.map brow).length : Int); rw [List.length_map]; omega), fun row hrow => ?_⟩
      obtain ⟨d, hd, rfl⟩ := brow_get hrow
      obtain rfl := Option.some.inj (hra.symm.trans hd)
      clear hrow hd
      have hskip : ¬ Dm f h a ∨ I[a]? = some true → GatI f N h I todo (L.take (k + 1)) := fun w => by rw [htk]; exact hG.skip w
      cases ra with
      | false =>
        have hG2 := hskip (.inl fun w => by rw [(hrc a haN1).2 w.2.1] at hra; cases hra)
        conv => whnf
        exact ⟨(I, todo, k + 1), [0, 1, 2, 3], [], Sub.mk' rfl ⟨⟨rfl, rfl⟩, .inl rfl, .inl rfl, .inl rfl, ⟨rfl, rfl⟩, .inl rfl, ⟨rfl, rfl⟩, ⟨rfl, rfl⟩, .inl (ti_succ hkt (by omega)), trivial⟩ ⟨⟨rfl, .inl rfl, .inl rfl, .inl rfl, .inl rfl, trivial⟩, ⟨rfl, rfl, rfl, rfl⟩, ⟨rfl, rfl, rfl, rfl⟩, ⟨rfl, rfl, rfl, rfl⟩, trivial⟩ rfl rfl, ⟨hkt, hG2⟩, by show L.length - (k + 1) < L.length - k; omega⟩
      | true =>
        conv => whnf
        refine ⟨rfl, (show (0 : Int) ≤ h by omega), (show (h : Int) < ((D.map drow).length : Int) by rw [List.length_map]; omega), fun row hrow => ?_⟩
        obtain ⟨d, hd, rfl⟩ := drow_get hrow
        obtain rfl := Option.some.inj ((hDa h hht).symm.trans hd)
        clear hrow hd
        conv => whnf
        refine ⟨rfl, (show (0 : Int) ≤ a by omega), (show (a : Int) < (((R h).map brow).length : Int) by rw [List.length_map, hRl]; omega), fun row hrow => ?_⟩
        obtain ⟨d, hd, rfl⟩ := brow_get hrow
        obtain rfl := Option.some.inj (hda.symm.trans hd)
        clear hrow hd
        cases da with
        | false =>
          have hG2 := hskip (.inl fun w => by have := hdm.2 w; cases this)
          conv => whnf
          exact ⟨(I, todo, k + 1), [0, 1, 2, 3], [], Sub.mk' rfl ⟨⟨rfl, rfl⟩, .inl rfl, .inl rfl, .inl rfl, ⟨rfl, rfl⟩, .inl rfl, ⟨rfl, rfl⟩, ⟨rfl, rfl⟩, .inl (ti_succ hkt (by omega)), trivial⟩ ⟨⟨rfl, .inl rfl, .inl rfl, .inl rfl, .inl rfl, trivial⟩, ⟨rfl, rfl, rfl, rfl⟩, ⟨rfl, rfl, rfl, rfl⟩, ⟨rfl, rfl, rfl, rfl⟩, trivial⟩ rfl rfl, ⟨hkt, hG2⟩, by show L.length - (k + 1) < L.length - k; omega⟩
        | true =>
          have hdm := hdm.1 rfl
          conv => whnf
          refine ⟨rfl, (show (0 : Int) ≤ a by omega), (show (a : Int) < (N : Int) by omega), ?_⟩
          conv => whnf
          refine ⟨rfl, (by show a < (I.map brow).length; rw [List.length_map]; omega), fun row hrow => ?_⟩
          obtain ⟨d, hd, rfl⟩ := brow_get hrow
          obtain rfl := Option.some.inj (hia.symm.trans hd)
          clear hrow hd
          refine ⟨(show 0 < 1 by decide), fun t ht => ?_⟩
          cases ht
          cases ia with
          | true =>
            have hG2 := hskip (.inr hia)
            conv => whnf
            exact ⟨(I, todo, k + 1), [0, 1, 2, 3], [], Sub.mk' rfl ⟨⟨rfl, rfl⟩, .inl rfl, .inl rfl, .inl rfl, ⟨rfl, rfl⟩, .inl rfl, ⟨rfl, rfl⟩, ⟨rfl, rfl⟩, .inl (ti_succ hkt (by omega)), trivial⟩ ⟨⟨rfl, .inl rfl, .inl rfl, .inl rfl, .inl rfl, trivial⟩, ⟨rfl, rfl, rfl, rfl⟩, ⟨rfl, rfl, rfl, rfl⟩, ⟨rfl, rfl, rfl, rfl⟩, trivial⟩ rfl rfl, ⟨hkt, hG2⟩, by show L.length - (k + 1) < L.length - k; omega⟩
          | false =>
            have hG2 := hG.push hia hdm hha
            rw [← htk] at hG2
            have hda2 := nrow_app (l := todo) a
            have hlen2 : (todo ++ [a]).length = todo.length + 1 := by rw [List.length_append]; rfl
            conv => whnf
            refine ⟨rfl, (show (0 : Int) ≤ a by omega), (show (a : Int) < (N : Int) by omega), ?_⟩
            conv => whnf
            refine ⟨rfl, rfl, (by show a < (I.map brow).length; rw [List.length_map]; omega), fun row hrow => ?_⟩
            obtain ⟨d, hd, rfl⟩ := brow_get hrow
            obtain rfl := Option.some.inj (hia.symm.trans hd)
            clear hrow hd
            refine ⟨(show 0 + 1 ≤ 1 by decide), ?_⟩
            conv => whnf
            refine ⟨rfl, rfl, rfl, (by rw [List.length_map]; exact Nat.le_refl _), (show (todo.length + 1) * 8 ≤ 150000000000000 by omega), fun q hq => ?_, ?_⟩
            · cases hq with
              | head => exact Nat.ne_of_beq_eq_false rfl
              | tail _ h => cases h
            conv => whnf
            exact ⟨(I.set a true, todo ++ [a], k + 1), [0, 1, 2, _], [], Sub.mk' rfl ⟨⟨rfl, rfl⟩, .inl rfl, .inl rfl, .inl rfl, ⟨rfl, rfl⟩, .inl rfl, ⟨rfl, rfl⟩, ⟨rfl, hlen2.symm⟩, .inl (ti_succ hkt (by omega)), trivial⟩ ⟨⟨rfl, .inl rfl, .inl rfl, .inl rfl, .inl rfl, trivial⟩, ⟨rfl, rfl, rfl, rfl⟩, ⟨rfl, rfl, rfl, brow_set I a false true⟩, ⟨rfl, rfl, rfl, hda2⟩, trivial⟩ rfl rfl, ⟨hkt, hG2⟩, by show L.length - (k + 1) < L.length - k; omega⟩
    · replace hkt : L.length ≤ k := by have : decide ((k : Int) < ((((L.map fun (x : Nat) => (x : Int))).map irow).length : Int)) = false := hkt; have := of_decide_eq_false this; omega
      rw [List.take_of_length_le hkt] at hG
      conv => whnf
      refine ⟨fun _ => ?_, fun h => absurd rfl h⟩
      conv => whnf
      cases ht0 : ((todo.length : Int) == 0) with
      | true =>
        obtain rfl : todo = [] := List.length_eq_zero_iff.1 (by have := eq_of_beq ht0; omega)
        have hsk := depthI_skip (N := N) (hgn I hG)
        conv => whnf
        refine ⟨fun _ => ?_, fun h => absurd rfl h⟩
        conv => whnf
        exact ⟨h + 1, [0, 1], [], Sub.mk' rfl ⟨⟨rfl, rfl⟩, .inl rfl, .inl rfl, .inl rfl, ⟨rfl, rfl⟩, .inl (ti_succ hht (by omega)), trivial⟩ ⟨⟨rfl, .inl rfl, .inl rfl, .inl rfl, .inl rfl, trivial⟩, ⟨rfl, rfl, rfl, by rw [hsk]⟩, trivial⟩ rfl rfl, hht, by show N - (h + 1) < N - h; omega⟩
      | false =>
      have hL0 := hgf I todo hht hG (fun w => by rw [w] at ht0; cases ht0)
      obtain ⟨ih, hih⟩ : ∃ x, I[h]? = some x := ⟨_, List.getElem?_eq_getElem (by omega)⟩
      clear hG hgn hgf
      conv => whnf
      refine ⟨rfl, (show (0 : Int) ≤ h by omega), (show (h : Int) < (N : Int) by omega), ?_⟩
      conv => whnf
      refine ⟨rfl, rfl, (by show h < (I.map brow).length; rw [List.length_map]; omega), fun row hrow => ?_⟩
      obtain ⟨d, hd, rfl⟩ := brow_get hrow
      obtain rfl := Option.some.inj (hih.symm.trans hd)
      clear hrow hd
      refine ⟨(show 0 + 1 ≤ 1 by decide), ?_⟩
      conv => whnf
      refine LoopL.by (fun x : List Bool × List Nat × Nat => ⟨dpS RC D A N h [(8, .sl 2 N), (9, .sl 3 x.2.1.length), (12, .tr (ti (x.2.2 : Nat)))], [(0, grBl g), (1, natsB (depthI f N h)), (2, boolsB x.1), (3, natsB x.2.1)], 10⟩) (fun x => x.2.2 ≤ x.2.1.length ∧ LpI f N h x.1 x.2.1 x.2.2) (fun x => N - x.2.2) (I.set h true, todo, 0) [0, 1, 2, 3] []
        (Sub.mk' rfl ⟨⟨rfl, rfl⟩, .inl rfl, .inl rfl, .inl rfl, ⟨rfl, rfl⟩, .inl rfl, ⟨rfl, rfl⟩, ⟨rfl, rfl⟩, .inl rfl, trivial⟩ ⟨⟨rfl, .inl rfl, .inl rfl, .inl rfl, .inl rfl, trivial⟩, ⟨rfl, rfl, rfl, rfl⟩, ⟨rfl, rfl, rfl, brow_set I h ih true⟩, ⟨rfl, rfl, rfl, rfl⟩, trivial⟩ rfl rfl) ⟨Nat.zero_le _, hL0⟩ ?_
      clear hL0 ht0 htl hIl hih hk hkt
      clear I todo k
      rintro ⟨I, todo, i⟩ ⟨hi, hLp⟩ -
      simp only at hi hLp
      have hIl := hLp.len
      have htl := hLp.todo_len
      conv => whnf
      refine csplit (fun hit => ?_) (fun hit => ?_)
      · replace hit : i < todo.length := by have : decide ((i : Int) < (todo.length : Int)) = true := hit; have := of_decide_eq_true this; omega
        obtain ⟨n, hn⟩ : ∃ n, todo[i]? = some n := ⟨_, List.getElem?_eq_getElem hit⟩
        have hnN := hLp.lt (List.mem_of_getElem? hn)
        conv => whnf
        refine ⟨rfl, (show (0 : Int) ≤ i by omega), (show (i : Int) < (todo.length : Int) by omega), ?_⟩
        conv => whnf
        refine ⟨rfl, (by show i < (todo.map nrow).length; rw [List.length_map]; exact hit), fun row hrow => ?_⟩
        obtain ⟨d, hd, rfl⟩ := nrow_get hrow
        obtain rfl := Option.some.inj (hn.symm.trans hd)
        clear hrow hd
        refine ⟨(show 0 < 1 by decide), fun t ht => ?_⟩
        cases ht
        conv => whnf
        cases hnh : ((n : Int) == (h : Int)) with
        | true =>
          obtain rfl : n = h := by have := eq_of_beq hnh; omega
          have hL2 := hLp.self hn
          conv => whnf
          refine ⟨fun _ => ?_, fun h => absurd rfl h⟩
          conv => whnf
          exact ⟨(I, todo, i + 1), [0, 1, 2, 3], [], Sub.mk' rfl ⟨⟨rfl, rfl⟩, .inl rfl, .inl rfl, .inl rfl, ⟨rfl, rfl⟩, .inl rfl, ⟨rfl, rfl⟩, ⟨rfl, rfl⟩, .inl (ti_succ hit (by omega)), trivial⟩ ⟨⟨rfl, .inl rfl, .inl rfl, .inl rfl, .inl rfl, trivial⟩, ⟨rfl, rfl, rfl, rfl⟩, ⟨rfl, rfl, rfl, rfl⟩, ⟨rfl, rfl, rfl, rfl⟩, trivial⟩ rfl rfl, ⟨hit, hL2⟩, by show N - (i + 1) < N - i; omega⟩
        | false =>
        have hne : n ≠ h := fun w => by rw [beq_eq_false_iff_ne] at hnh; exact hnh (by rw [w])
        have hJ0 := hLp.take hn hne
        have haln := hal n hnN
        have haNn := haN n
        have hBn := hBl n
        have hjfn := fun I todo i hJ => hjf I todo i n hJ
        obtain ⟨Q, hQ⟩ : ∃ Q, B n = Q := ⟨_, rfl⟩
        rw [hQ] at haln haNn hBn hjfn
        have hQl := natsT_len Q
        conv => whnf
        refine ⟨rfl, (show (0 : Int) ≤ i by omega), (show (i : Int) < (todo.length : Int) by omega), ?_⟩
        conv => whnf
        refine ⟨rfl, (by show i < (todo.map nrow).length; rw [List.length_map]; exact hit), fun row hrow => ?_⟩
        obtain ⟨d, hd, rfl⟩ := nrow_get hrow
        obtain rfl := Option.some.inj (hn.symm.trans hd)
        clear hrow hd
        refine ⟨(show 0 < 1 by decide), fun t ht => ?_⟩
        cases ht
        conv => whnf
        refine ⟨rfl, (show (0 : Int) ≤ n by omega), (by show (n : Int) < ((A.map lrow).length : Int); rw [List.length_map, hall]; omega), fun row hrow => ?_⟩
        obtain ⟨d, hd, rfl⟩ := lrow_get hrow
        obtain rfl := Option.some.inj (haln.symm.trans hd)
        clear hrow hd
        conv => whnf
        refine LoopL.by (fun x : List Bool × List Nat × Nat => ⟨dpS RC D A N h [(8, .sl 2 N), (9, .sl 3 x.2.1.length), (12, .tr (ti (i : Nat))), (13, .tr (natsT Q)), (14, .tr (ti (x.2.2 : Nat)))], [(0, grBl g), (1, natsB (depthI f N h)), (2, boolsB x.1), (3, natsB x.2.1)], 10⟩) (fun x => x.2.2 ≤ Q.length ∧ LpJ f N h x.1 x.2.1 i n (Q.take x.2.2)) (fun x => Q.length - x.2.2) (I, todo, 0) [0, 1, 2, 3] []
          (Sub.mk' rfl ⟨⟨rfl, rfl⟩, .inl rfl, .inl rfl, .inl rfl, ⟨rfl, rfl⟩, .inl rfl, ⟨rfl, rfl⟩, ⟨rfl, rfl⟩, .inl rfl, .inl rfl, .inl rfl, trivial⟩ ⟨⟨rfl, .inl rfl, .inl rfl, .inl rfl, .inl rfl, trivial⟩, ⟨rfl, rfl, rfl, rfl⟩, ⟨rfl, rfl, rfl, rfl⟩, ⟨rfl, rfl, rfl, rfl⟩, trivial⟩ rfl rfl) ⟨Nat.zero_le _, hJ0⟩ ?_
        clear hJ0 hn hLp hIl htl hi hit
        rintro ⟨I, todo, k⟩ ⟨hk, hJ⟩ -
        simp only at hk hJ
        have hIl := hJ.toI.len
        have htl := hJ.toI.todo_len
        have hit : i < todo.length := (List.getElem?_eq_some_iff.1 hJ.at_).1
        conv => whnf
        refine csplit (fun hkt => ?_) (fun hkt => ?_)
        · replace hkt : k < Q.length := by have : decide ((k : Int) < ((((Q.map fun (x : Nat) => (x : Int))).map irow).length : Int)) = true := hkt; have := of_decide_eq_true this; omega
          obtain ⟨a, hka⟩ : ∃ a, Q[k]? = some a := ⟨_, List.getElem?_eq_getElem hkt⟩
          obtain ⟨haN1, hha⟩ := haNn a (List.mem_of_getElem? hka)
          have htk : Q.take (k + 1) = Q.take k ++ [a] := take_snocL hka
          obtain ⟨ra, hra⟩ : ∃ b, RC[a]? = some b := ⟨_, List.getElem?_eq_getElem (by omega)⟩
          obtain ⟨ia, hia⟩ : ∃ x, I[a]? = some x := ⟨_, List.getElem?_eq_getElem (by omega)⟩
          have hskip : ¬ Rch f (-1) a ∨ I[a]? = some true → LpJ f N h I todo i n (Q.take (k + 1)) := fun w => by rw [htk]; exact hJ.skip w
          conv => whnf
          refine ⟨rfl, (show (0 : Int) ≤ k by omega), (show (k : Int) < ((((Q.map fun (x : Nat) => (x : Int))).map irow).length : Int) by omega), fun row hrow => ?_⟩
          obtain ⟨d, hd, rfl⟩ := natsT_get hrow
          obtain rfl := Option.some.inj (hka.symm.trans hd)
          clear hrow hd
          conv => whnf
          refine ⟨rfl, (show (0 : Int) ≤ a by omega), (by show (a : Int) < ((RC.map brow).length : Int); rw [List.length_map]; omega), fun row hrow => ?_⟩
          obtain ⟨d, hd, rfl⟩ := brow_get hrow
          obtain rfl := Option.some.inj (hra.symm.trans hd)
          clear hrow hd
          cases ra with
          | false =>
            have hG2 := hskip (.inl fun w => by rw [(hrc a haN1).2 w] at hra; cases hra)
            conv => whnf
            exact ⟨(I, todo, k + 1), [0, 1, 2, 3], [], Sub.mk' rfl ⟨⟨rfl, rfl⟩, .inl rfl, .inl rfl, .inl rfl, ⟨rfl, rfl⟩, .inl rfl, ⟨rfl, rfl⟩, ⟨rfl, rfl⟩, .inl rfl, .inl rfl, .inl (ti_succ hkt (by omega)), trivial⟩ ⟨⟨rfl, .inl rfl, .inl rfl, .inl rfl, .inl rfl, trivial⟩, ⟨rfl, rfl, rfl, rfl⟩, ⟨rfl, rfl, rfl, rfl⟩, ⟨rfl, rfl, rfl, rfl⟩, trivial⟩ rfl rfl, ⟨hkt, hG2⟩, by show Q.length - (k + 1) < Q.length - k; omega⟩
          | true =>
            have hra2 := (hrc a haN1).1 hra
            conv => whnf
            refine ⟨rfl, (show (0 : Int) ≤ k by omega), (show (k : Int) < ((((Q.map fun (x : Nat) => (x : Int))).map irow).length : Int) by omega), fun row hrow => ?_⟩
            obtain ⟨d, hd, rfl⟩ := natsT_get hrow
            obtain rfl := Option.some.inj (hka.symm.trans hd)
            clear hrow hd
            conv => whnf
            refine ⟨rfl, (show (0 : Int) ≤ a by omega), (show (a : Int) < (N : Int) by omega), ?_⟩
            conv => whnf
            refine ⟨rfl, (by show a < (I.map brow).length; rw [List.length_map]; omega), fun row hrow => ?_⟩
            obtain ⟨d, hd, rfl⟩ := brow_get hrow
            obtain rfl := Option.some.inj (hia.symm.trans hd)
            clear hrow hd
            refine ⟨(show 0 < 1 by decide), fun t ht => ?_⟩
            cases ht
            cases ia with
            | true =>
              have hG2 := hskip (.inr hia)
              conv => whnf
              exact ⟨(I, todo, k + 1), [0, 1, 2, 3], [], Sub.mk' rfl ⟨⟨rfl, rfl⟩, .inl rfl, .inl rfl, .inl rfl, ⟨rfl, rfl⟩, .inl rfl, ⟨rfl, rfl⟩, ⟨rfl, rfl⟩, .inl rfl, .inl rfl, .inl (ti_succ hkt (by omega)), trivial⟩ ⟨⟨rfl, .inl rfl, .inl rfl, .inl rfl, .inl rfl, trivial⟩, ⟨rfl, rfl, rfl, rfl⟩, ⟨rfl, rfl, rfl, rfl⟩, ⟨rfl, rfl, rfl, rfl⟩, trivial⟩ rfl rfl, ⟨hkt, hG2⟩, by show Q.length - (k + 1) < Q.length - k; omega⟩
            | false =>
              have hG2 := hJ.push hia hra2 hha
              rw [← htk] at hG2
              have hda2 := nrow_app (l := todo) a
              have hlen2 : (todo ++ [a]).length = todo.length + 1 := by rw [List.length_append]; rfl
              conv => whnf
              refine ⟨rfl, (show (0 : Int) ≤ k by omega), (show (k : Int) < ((((Q.map fun (x : Nat) => (x : Int))).map irow).length : Int) by omega), fun row hrow => ?_⟩
              obtain ⟨d, hd, rfl⟩ := natsT_get hrow
              obtain rfl := Option.some.inj (hka.symm.trans hd)
              clear hrow hd
              conv => whnf
              refine ⟨rfl, (show (0 : Int) ≤ a by omega), (show (a : Int) < (N : Int) by omega), ?_⟩
              conv => whnf
              refine ⟨rfl, rfl, (by show a < (I.map brow).length; rw [List.length_map]; omega), fun row hrow => ?_⟩
              obtain ⟨d, hd, rfl⟩ := brow_get hrow
              obtain rfl := Option.some.inj (hia.symm.trans hd)
              clear hrow hd
              refine ⟨(show 0 + 1 ≤ 1 by decide), ?_⟩
              conv => whnf
              refine ⟨rfl, (show (0 : Int) ≤ k by omega), (show (k : Int) < ((((Q.map fun (x : Nat) => (x : Int))).map irow).length : Int) by omega), fun row hrow => ?_⟩
              obtain ⟨d, hd, rfl⟩ := natsT_get hrow
              obtain rfl := Option.some.inj (hka.symm.trans hd)
              clear hrow hd
              conv => whnf
              refine ⟨rfl, rfl, rfl, (by rw [List.length_map]; exact Nat.le_refl _), (show (todo.length + 1) * 8 ≤ 150000000000000 by omega), fun q hq => ?_, ?_⟩
              · cases hq with
                | head => exact Nat.ne_of_beq_eq_false rfl
                | tail _ h => cases h
              conv => whnf
              exact ⟨(I.set a true, todo ++ [a], k + 1), [0, 1, 2, _], [], Sub.mk' rfl ⟨⟨rfl, rfl⟩, .inl rfl, .inl rfl, .inl rfl, ⟨rfl, rfl⟩, .inl rfl, ⟨rfl, rfl⟩, ⟨rfl, hlen2.symm⟩, .inl rfl, .inl rfl, .inl (ti_succ hkt (by omega)), trivial⟩ ⟨⟨rfl, .inl rfl, .inl rfl, .inl rfl, .inl rfl, trivial⟩, ⟨rfl, rfl, rfl, rfl⟩, ⟨rfl, rfl, rfl, brow_set I a false true⟩, ⟨rfl, rfl, rfl, hda2⟩, trivial⟩ rfl rfl, ⟨hkt, hG2⟩, by show Q.length - (k + 1) < Q.length - k; omega⟩
        · replace hkt : Q.length ≤ k := by have : decide ((k : Int) < ((((Q.map fun (x : Nat) => (x : Int))).map irow).length : Int)) = false := hkt; have := of_decide_eq_false this; omega
          rw [List.take_of_length_le hkt] at hJ
          have hL2 := hjfn I todo i hJ
          conv => whnf
          refine ⟨fun _ => ?_, fun h => absurd rfl h⟩
          conv => whnf
          exact ⟨(I, todo, i + 1), [0, 1, 2, 3], [], Sub.mk' rfl ⟨⟨rfl, rfl⟩, .inl rfl, .inl rfl, .inl rfl, ⟨rfl, rfl⟩, .inl rfl, ⟨rfl, rfl⟩, ⟨rfl, rfl⟩, .inl (ti_succ hit (by omega)), trivial⟩ ⟨⟨rfl, .inl rfl, .inl rfl, .inl rfl, .inl rfl, trivial⟩, ⟨rfl, rfl, rfl, rfl⟩, ⟨rfl, rfl, rfl, rfl⟩, ⟨rfl, rfl, rfl, rfl⟩, trivial⟩ rfl rfl, ⟨hit, hL2⟩, by show N - (i + 1) < N - i; omega⟩
      · replace hit : todo.length ≤ i := by have : decide ((i : Int) < (todo.length : Int)) = false := hit; have := of_decide_eq_false this; omega
        have hin := fun x => hLp.fin hit x
        have hc0 := cntJ_zero (fol := f) (h := h) (N := N)
        have hcN := cntJ_fin (fol := f) (h := h) (N := N)
        conv => whnf
        refine ⟨fun _ => ?_, fun h => absurd rfl h⟩
        conv => whnf
        refine LoopL.by (fun x : Nat => ⟨dpS RC D A N h [(8, .sl 2 N), (15, .tr (ti (x : Nat)))], [(0, grBl g), (1, natsB (cntJ f h N x)), (2, boolsB I)], 10⟩) (fun x => x ≤ N) (fun x => N - x) 0 [0, 1, 2] []
          (Sub.mk' rfl ⟨⟨rfl, rfl⟩, .inl rfl, .inl rfl, .inl rfl, ⟨rfl, rfl⟩, .inl rfl, ⟨rfl, rfl⟩, .inl rfl, trivial⟩ ⟨⟨rfl, .inl rfl, .inl rfl, .inl rfl, .inl rfl, trivial⟩, ⟨rfl, rfl, rfl, by rw [hc0]⟩, ⟨rfl, rfl, rfl, rfl⟩, trivial⟩ rfl rfl) (Nat.zero_le _) ?_
        rintro x hx -
        have hcl := cntJ_len (fol := f) (h := h) (N := N) (x := x)
        conv => whnf
        refine csplit (fun hxt => ?_) (fun hxt => ?_)
        · replace hxt : x < N := by have : decide ((x : Int) < (N : Int)) = true := hxt; have := of_decide_eq_true this; omega
          obtain ⟨b, hb⟩ : ∃ b, I[x]? = some b := ⟨_, List.getElem?_eq_getElem (by omega)⟩
          have hca := cntJ_at (fol := f) (h := h) hxt
          have hdl := depthN_le f h x
          conv => whnf
          refine ⟨rfl, (show (0 : Int) ≤ x by omega), (show (x : Int) < (N : Int) by omega), ?_⟩
          conv => whnf
          refine ⟨rfl, (by show x < (I.map brow).length; rw [List.length_map]; omega), fun row hrow => ?_⟩
          obtain ⟨d, hd, rfl⟩ := brow_get hrow
          obtain rfl := Option.some.inj (hb.symm.trans hd)
          clear hrow hd
          refine ⟨(show 0 < 1 by decide), fun t ht => ?_⟩
          cases ht
          cases b with
          | false =>
            have hno := cntJ_out hxt (fun w => by rw [(hin x).2 w] at hb; cases hb)
            conv => whnf
            exact ⟨x + 1, [0, 1, 2], [], Sub.mk' rfl ⟨⟨rfl, rfl⟩, .inl rfl, .inl rfl, .inl rfl, ⟨rfl, rfl⟩, .inl rfl, ⟨rfl, rfl⟩, .inl (ti_succ hxt (by omega)), trivial⟩ ⟨⟨rfl, .inl rfl, .inl rfl, .inl rfl, .inl rfl, trivial⟩, ⟨rfl, rfl, rfl, by rw [hno]⟩, ⟨rfl, rfl, rfl, rfl⟩, trivial⟩ rfl rfl, hxt, by show N - (x + 1) < N - x; omega⟩
          | true =>
            have hyes := cntJ_in hxt ((hin x).1 hb)
            have hts : ti (IntKind.i64.wrap ((depthN f h x : Int) + 1)) = ti ((depthN f h x + 1 : Nat) : Int) := ti_succ (show depthN f h x < N + 1 by omega) (by omega)
            generalize depthN f h x = dx at hca hyes hdl hts
            conv => whnf
            refine ⟨rfl, (show (0 : Int) ≤ x by omega), (show (x : Int) < (N : Int) by omega), ?_⟩
            conv => whnf
            refine ⟨rfl, (by show x < ((cntJ f h N x).map nrow).length; rw [List.length_map]; omega), fun row hrow => ?_⟩
            obtain ⟨d, hd, rfl⟩ := nrow_get hrow
            obtain rfl := Option.some.inj (hca.symm.trans hd)
            clear hrow hd
            refine ⟨(show 0 < 1 by decide), fun t ht => ?_⟩
            cases ht
            conv => whnf
            refine ⟨rfl, (show (0 : Int) ≤ x by omega), (show (x : Int) < (N : Int) by omega), ?_⟩
            conv => whnf
            refine ⟨rfl, rfl, (by show x < ((cntJ f h N x).map nrow).length; rw [List.length_map]; omega), fun row hrow => ?_⟩
            obtain ⟨d, hd, rfl⟩ := nrow_get hrow
            obtain rfl := Option.some.inj (hca.symm.trans hd)
            clear hrow hd
            refine ⟨(show 0 + 1 ≤ 1 by decide), ?_⟩
            conv => whnf
            exact ⟨x + 1, [0, 1, 2], [], Sub.mk' rfl ⟨⟨rfl, rfl⟩, .inl rfl, .inl rfl, .inl rfl, ⟨rfl, rfl⟩, .inl rfl, ⟨rfl, rfl⟩, .inl (ti_succ hxt (by omega)), trivial⟩ ⟨⟨rfl, .inl rfl, .inl rfl, .inl rfl, .inl rfl, trivial⟩, ⟨rfl, rfl, rfl, by rw [hyes, List.map_set]; exact congrArg (fun t => ((cntJ f h N x).map nrow).set x [t]) hts⟩, ⟨rfl, rfl, rfl, rfl⟩, trivial⟩ rfl rfl, hxt, by show N - (x + 1) < N - x; omega⟩
        · replace hxt : x = N := by have : decide ((x : Int) < (N : Int)) = false := hxt; have := of_decide_eq_false this; omega
          subst hxt
          conv => whnf
          refine ⟨fun _ => ?_, fun h => absurd rfl h⟩
          conv => whnf
          exact ⟨h + 1, [0, 1], [], Sub.mk' rfl ⟨⟨rfl, rfl⟩, .inl rfl, .inl rfl, .inl rfl, ⟨rfl, rfl⟩, .inl (ti_succ hht (by omega)), trivial⟩ ⟨⟨rfl, .inl rfl, .inl rfl, .inl rfl, .inl rfl, trivial⟩, ⟨rfl, rfl, rfl, by rw [hcN]⟩, trivial⟩ rfl rfl, hht, by show x - (h + 1) < x - h; omega⟩
  · replace hht : h = N := by have : decide ((h : Int) < ((g.nodes.map Nd.cells).length : Int)) = false := hht; have := of_decide_eq_false this; omega
    subst hht
    have hdl : (depthI f h h).length = h := depthI_len f h h
    have hnt : (((depthL f h).map fun (x : Nat) => (x : Int)).map irow) = (depthI f h h).map nrow := by
      rw [List.map_map]; rfl
    conv => whnf
    refine ⟨fun _ => ?_, fun h => absurd rfl h⟩
    conv => whnf
    exact ⟨⟨rfl, (by show h ≤ ((depthI f h h).map nrow).length; rw [List.length_map]; omega), (by show Tr.lst 1 8 (((depthL f h).map fun (x : Nat) => (x : Int)).map irow) = Tr.lst 1 8 (((depthI f h h).map nrow).take h); rw [List.take_of_length_le (by rw [List.length_map]; omega), hnt])⟩, trivial⟩
end Go.Proofs.YthboippafkcoiaaGreatDoor.am

namespace Go.Proofs.YthboippafkcoiaaGreatDoor.am
open Go Go.Proofs
set_option linter.all false

def cutG (g : Gr) (c : Nat) : Gr := ⟨g.name, g.locals, g.slots, g.nodes.set c enI⟩
end Go.Proofs.YthboippafkcoiaaGreatDoor.am

namespace Go.Proofs.YthboippafkcoiaaGreatDoor.am
open Go Go.Proofs
set_option linter.all false

set_option maxRecDepth 100000 in
theorem k_dominators0 (g : Gr) (hW : wholeB g = false) : K 24 [g.av] [] (.ret (.tr (intsT []))) [] := by
  have h1 := k_whole g
  rw [hW] at h1
  obtain ⟨name, locals, slots, nodes⟩ := g
  refine Ctr.of hT hmix Tryz.func24 rfl (fun _ _ => by kernel_rfl) rfl fun hok => ?_
  clear hok
  conv => whnf
  refine acall.pure _ (h1) rfl rfl fun _ => ?_
  conv => whnf
  exact ⟨.inr ⟨rfl, _, _, rfl⟩, trivial⟩
end Go.Proofs.YthboippafkcoiaaGreatDoor.am

namespace Go.Proofs.YthboippafkcoiaaGreatDoor.am
open Go Go.Proofs
set_option linter.all false

theorem eqI_refl : ∀ l : List Int, eqI l l = true
  | [] => rfl
  | a :: l => by
    show (bif a != a then false else eqI l l) = true
    rw [eqI_refl l]; simp
theorem eqI2_refl (l : List Int) : eqI2 l l = true := by
  unfold eqI2
  rw [eqI_refl]; simp
abbrev ilrow (l : List Int) : List Tr := [intsT l]
abbrev ilistsT (L : List (List Int)) : Tr := .lst 1 24 (L.map ilrow)
theorem ilrow_get {l : List (List Int)} {i : Nat} {row : List Tr} (h : (l.map ilrow)[i]? = some row) : ∃ d, l[i]? = some d ∧ row = ilrow d := by
  rw [List.getElem?_map, Option.map_eq_some_iff] at h
  obtain ⟨d, h1, rfl⟩ := h
  exact ⟨d, h1, rfl⟩
theorem listsT_i (L : List (List Nat)) : listsT L = ilistsT (L.map fun l => l.map fun (x : Nat) => (x : Int)) := by
  show Tr.lst 1 24 (L.map lrow) = Tr.lst 1 24 ((L.map _).map ilrow)
  rw [List.map_map]; rfl
set_option maxRecDepth 100000 in
theorem k_bools (l : List Bool) : K 17 [.tr (boolsT l), .tr (boolsT l)] [] (.ret (.tr (tb true))) [] := by
  have h1 : (l.map brow).length = l.length := List.length_map ..
  have e0 : (((l.map brow).length : Int) != ((l.map brow).length : Int)) = false := by simp
  refine Ctr.of hT hmix Tryz.func17 rfl (fun _ _ => by kernel_rfl) rfl fun hok => ?_
  obtain ⟨_, hl1, _⟩ := (hok.slot 0 rfl).tr.lst
  rw [List.length_map] at hl1
  clear hok
  conv => whnf
  rw [e0]
  conv => whnf
  refine LoopL.by (fun i : Nat => ⟨[(0, .tr (boolsT l)), (1, .tr (boolsT l)), (5, .tr (ti (i : Nat)))], [], 10⟩) (fun i => i ≤ l.length) (fun i => l.length - i) 0 [] []
    (Sub.mk' rfl ⟨.inl rfl, .inl rfl, .inl rfl, trivial⟩ trivial rfl rfl) (Nat.zero_le _) ?_
  rintro i hi -
  conv => whnf
  refine csplit (fun hit => ?_) (fun hit => ?_)
  · replace hit : i < l.length := by have : decide ((i : Int) < ((l.map brow).length : Int)) = true := hit; have := of_decide_eq_true this; omega
    obtain ⟨a, ha⟩ : ∃ a, l[i]? = some a := ⟨_, List.getElem?_eq_getElem hit⟩
    have haa : (!(a == a)) = false := by cases a <;> rfl
    conv => whnf
    refine ⟨rfl, (show (0 : Int) ≤ i by omega), (show (i : Int) < ((l.map brow).length : Int) by omega), fun row hrow => ?_⟩
    obtain ⟨d, hd, rfl⟩ := brow_get hrow
    obtain rfl := Option.some.inj (ha.symm.trans hd)
    clear hrow hd
    conv => whnf
    refine ⟨rfl, (show (0 : Int) ≤ i by omega), (show (i : Int) < ((l.map brow).length : Int) by omega), fun row hrow => ?_⟩
    obtain ⟨d, hd, rfl⟩ := brow_get hrow
    obtain rfl := Option.some.inj (ha.symm.trans hd)
    clear hrow hd
    cases a
    · conv => whnf
      refine ⟨by kernel_rfl, fun _ => ?_⟩
      conv => whnf
      exact ⟨i + 1, [], [], Sub.mk' rfl ⟨.inl rfl, .inl rfl, .inl (ti_succ hit (by omega)), trivial⟩ trivial rfl rfl, hit, by show l.length - (i + 1) < l.length - i; omega⟩
    · conv => whnf
      refine ⟨by kernel_rfl, fun _ => ?_⟩
      conv => whnf
      exact ⟨i + 1, [], [], Sub.mk' rfl ⟨.inl rfl, .inl rfl, .inl (ti_succ hit (by omega)), trivial⟩ trivial rfl rfl, hit, by show l.length - (i + 1) < l.length - i; omega⟩
  · replace hit : l.length ≤ i := by have : decide ((i : Int) < ((l.map brow).length : Int)) = false := hit; have := of_decide_eq_false this; omega
    conv => whnf
    refine ⟨fun _ => ?_, fun h => absurd rfl h⟩
    conv => whnf
    exact ⟨.inl rfl, trivial⟩
set_option maxRecDepth 100000 in
theorem k_lists (L : List (List Int)) : K 20 [.tr (ilistsT L), .tr (ilistsT L)] [] (.ret (.tr (tb true))) [] := by
  have h1 : (L.map ilrow).length = L.length := List.length_map ..
  have e0 : (((L.map ilrow).length : Int) != ((L.map ilrow).length : Int)) = false := by simp
  refine Ctr.of hT hmix Tryz.func20 rfl (fun _ _ => by kernel_rfl) rfl fun hok => ?_
  obtain ⟨_, hl1, _⟩ := (hok.slot 0 rfl).tr.lst
  rw [List.length_map] at hl1
  clear hok
  conv => whnf
  rw [e0]
  conv => whnf
  refine LoopL.by (fun i : Nat => ⟨[(0, .tr (ilistsT L)), (1, .tr (ilistsT L)), (5, .tr (ti (i : Nat)))], [], 10⟩) (fun i => i ≤ L.length) (fun i => L.length - i) 0 [] []
    (Sub.mk' rfl ⟨.inl rfl, .inl rfl, .inl rfl, trivial⟩ trivial rfl rfl) (Nat.zero_le _) ?_
  rintro i hi -
  conv => whnf
  refine csplit (fun hit => ?_) (fun hit => ?_)
  · replace hit : i < L.length := by have : decide ((i : Int) < ((L.map ilrow).length : Int)) = true := hit; have := of_decide_eq_true this; omega
    obtain ⟨a, ha⟩ : ∃ a, L[i]? = some a := ⟨_, List.getElem?_eq_getElem hit⟩
    have hs := k_rsame a a
    rw [eqI2_refl] at hs
    conv => whnf
    refine ⟨rfl, (show (0 : Int) ≤ i by omega), (show (i : Int) < ((L.map ilrow).length : Int) by omega), fun row hrow => ?_⟩
    obtain ⟨d, hd, rfl⟩ := ilrow_get hrow
    obtain rfl := Option.some.inj (ha.symm.trans hd)
    clear hrow hd
    conv => whnf
    refine ⟨rfl, (show (0 : Int) ≤ i by omega), (show (i : Int) < ((L.map ilrow).length : Int) by omega), fun row hrow => ?_⟩
    obtain ⟨d, hd, rfl⟩ := ilrow_get hrow
    obtain rfl := Option.some.inj (ha.symm.trans hd)
    clear hrow hd
    conv => whnf
    refine acall.pure _ (hs) rfl rfl ?_
    conv => whnf
    refine ⟨by kernel_rfl, fun _ => ?_⟩
    conv => whnf
    exact ⟨i + 1, [], [], Sub.mk' rfl ⟨.inl rfl, .inl rfl, .inl (ti_succ hit (by omega)), trivial⟩ trivial rfl rfl, hit, by show L.length - (i + 1) < L.length - i; omega⟩
  · replace hit : L.length ≤ i := by have : decide ((i : Int) < ((L.map ilrow).length : Int)) = false := hit; have := of_decide_eq_false this; omega
    conv => whnf
    refine ⟨fun _ => ?_, fun h => absurd rfl h⟩
    conv => whnf
    exact ⟨.inl rfl, trivial⟩
theorem k_intsR (l : List Int) : K 23 [.tr (intsT l), .tr (intsT l)] [] (.ret (.tr (tb true))) [] := by
  have := k_ints l l
  rwa [eqI2_refl] at this
/-- what the program and the reference tell of a graph -/
structure WalksC (g : Gr) : Prop where
  c : ∃ (R : List Bool) (A : List (List Int)) (D P : List Int), K 18 [g.av] [] (.ret (.tr (boolsT R))) [] ∧ K 19 [g.av] [] (.ret (.tr (boolsT R))) [] ∧
    K 21 [g.av] [] (.ret (.tr (ilistsT A))) [] ∧ K 22 [g.av] [] (.ret (.tr (ilistsT A))) [] ∧
    K 24 [g.av] [] (.ret (.tr (intsT D))) [] ∧ K 25 [g.av] [] (.ret (.tr (intsT D))) [] ∧
    K 26 [g.av] [] (.ret (.tr (intsT P))) [] ∧ K 27 [g.av] [] (.ret (.tr (intsT P))) []
theorem walksC (g : Gr) : WalksC g := by
  cases h : wholeB g with
  | true =>
    refine ⟨_, (aheadL (fol g) g.nodes.length).map (fun l => l.map fun (x : Nat) => (x : Int)), _, _, k_reached g h, k_rreached g h, ?_, ?_, k_dominators g h, k_rdominators g h, k_depth g h, k_rdepth g h⟩
    · rw [← listsT_i]; exact k_ahead g h
    · rw [← listsT_i]; exact k_rahead g h
  | false =>
    exact ⟨_, [], _, _, k_reached0 g h, k_rreached0 g h, k_ahead0 g h, k_rahead0 g h, k_dominators0 g h, k_rdominators0 g h, k_depth0 g h, k_rdepth0 g h⟩
set_option maxRecDepth 100000 in
theorem k_walks (g : Gr) : K 5 [g.av] [] (.ret (.tr (tb true))) [] := by
  obtain ⟨R, A, D, P, h1, h2, h3, h4, h5, h6, h7, h8⟩ := (walksC g).c
  have b1 := k_bools R
  have b2 := k_lists A
  have b3 := k_intsR D
  have b4 := k_intsR P
  have hbe := k_begins
  refine Ctr.of hT hmix Tryz.func5 rfl (fun _ _ => by kernel_rfl) rfl fun hok => ?_
  clear hok
  conv => whnf
  refine acall.pure _ (h1) rfl rfl ?_
  conv => whnf
  refine acall.pure _ (h2) rfl rfl ?_
  conv => whnf
  refine acall.pure _ (b1) rfl rfl ?_
  conv => whnf
  refine acall.pure _ (h3) rfl rfl ?_
  conv => whnf
  refine acall.pure _ (h4) rfl rfl ?_
  conv => whnf
  refine acall.pure _ (b2) rfl rfl ?_
  conv => whnf
  refine acall.pure _ (h5) rfl rfl ?_
  conv => whnf
  refine acall.pure _ (h6) rfl rfl ?_
  conv => whnf
  refine acall.pure _ (b3) rfl rfl ?_
  conv => whnf
  refine acall.pure _ (h7) rfl rfl ?_
  conv => whnf
  refine acall.pure _ (h8) rfl rfl ?_
  conv => whnf
  refine acall.pure _ (b4) rfl rfl ?_
  conv => whnf
  refine acall.pure _ (hbe) rfl rfl ?_
  conv => whnf
  refine ⟨by kernel_rfl, fun _ => ?_⟩
  conv => whnf
  exact ⟨.inl rfl, trivial⟩
end Go.Proofs.YthboippafkcoiaaGreatDoor.am
