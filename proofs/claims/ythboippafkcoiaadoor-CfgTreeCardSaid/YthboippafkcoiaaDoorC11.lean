/- The layings of the library's contracts (written by the kit's lay-shelf and lay-plain). Contracts of Go's library, and of reading and writing words, for the abstract machine. Contracts of cfg: the texts of begins' nodes. Plain: the dominators and depths of begins' graph. Contracts of chapter 06's law: begins. Contracts of the reference: Follows, CopyGraph. The walk of CfgTree. The walk of CfgTree, for every graph. -/
import Derived.Shelf.Strconv.Itoa0
import Derived.Shelf.Strconv.Itoa1
import Derived.Shelf.LaysM
import Derived.Shelf.Strconv.Itoa2
import Derived.Shelf.Strconv.Itoa3
import Derived.Shelf.Slices.Reverse
import Derived.Shelf.Slices.Equal
import Derived.Ground.Names2Prog
import Derived.Shelf.Slices.Clone
import Derived.Shelf.Slices.Cells
import Derived.Ground.SlgnProg
import Derived.Shelf.SlicesE.Clone
import Derived.Test.YthboippafkcoiaaDoorProg
import Derived.Test.YthboippafkcoiaaDoorC7
import Derived.Test.YthboippafkcoiaaDoorC9
import Derived.Lib.ItoaLen
import Derived.Lib.AppendIntMem
import Derived.Test.YthboippafkcoiaaDoorC5
set_option linter.all false

set_option linter.all false
namespace Go.Proofs
open Go.Shelf
def Tryd.laysM171_ren : Go.Shelf.Ren := ⟨fun | 171 => 36 | 243 => 57 | 246 => 77 | 283 => 87 | 284 => 88 | 285 => 89 | 286 => 90 | 129 => 96 | 317 => 95 | 318 => 97 | 319 => 98 | 320 => 99 | 337 => 104 | 338 => 105 | n => n, fun | 3 => 3 | 9 => 9 | 2 => 2 | 4 => 4 | 171 => 145 | 0 => 0 | 53 => 146 | 37 => 95 | 5 => 5 | 173 => 149 | 212 => 159 | 51 => 160 | 20 => 20 | 213 => 161 | 46 => 163 | 232 => 176 | 233 => 177 | n => n, fun | 17 => 1 | 18 => 2 | 19 => 3 | n => n⟩
theorem Tryd.laysM171 : Go.Proofs.LaysM.n171 Tryd.prog Tryd.laysM171_ren := {
  mixed := by kernel_rfl
  f129 := Tryd.func96.trans (congrArg some (by kernel_rfl))
  f171 := Tryd.func36.trans (congrArg some (by kernel_rfl))
  f243 := Tryd.func57.trans (congrArg some (by kernel_rfl))
  f246 := Tryd.func77.trans (congrArg some (by kernel_rfl))
  f283 := Tryd.func87.trans (congrArg some (by kernel_rfl))
  f284 := Tryd.func88.trans (congrArg some (by kernel_rfl))
  f285 := Tryd.func89.trans (congrArg some (by kernel_rfl))
  f286 := Tryd.func90.trans (congrArg some (by kernel_rfl))
  f317 := Tryd.func95.trans (congrArg some (by kernel_rfl))
  f318 := Tryd.func97.trans (congrArg some (by kernel_rfl))
  f319 := Tryd.func98.trans (congrArg some (by kernel_rfl))
  f320 := Tryd.func99.trans (congrArg some (by kernel_rfl))
  f337 := Tryd.func104.trans (congrArg some (by kernel_rfl))
  f338 := Tryd.func105.trans (congrArg some (by kernel_rfl))
  t0 := Tryd.underlying0
  a0 := Tryd.isAgg0
  z0 := Tryd.sizeOf0
  v0 := Tryd.zeroValue0
  t2 := Tryd.underlying2
  a2 := Tryd.isAgg2
  z2 := Tryd.sizeOf2
  v2 := Tryd.zeroValue2
  t3 := Tryd.underlying3
  a3 := Tryd.isAgg3
  z3 := Tryd.sizeOf3
  v3 := Tryd.zeroValue3
  t4 := Tryd.underlying4
  a4 := Tryd.isAgg4
  z4 := Tryd.sizeOf4
  v4 := Tryd.zeroValue4
  t5 := Tryd.underlying5
  a5 := Tryd.isAgg5
  z5 := Tryd.sizeOf5
  v5 := Tryd.zeroValue5
  t9 := Tryd.underlying9
  a9 := Tryd.isAgg9
  z9 := Tryd.sizeOf9
  v9 := Tryd.zeroValue9
  t20 := Tryd.underlying20
  a20 := Tryd.isAgg20
  z20 := Tryd.sizeOf20
  v20 := Tryd.zeroValue20
  t37 := Tryd.underlying95
  a37 := Tryd.isAgg95
  z37 := Tryd.sizeOf95
  v37 := Tryd.zeroValue95
  t46 := Tryd.underlying163
  a46 := Tryd.isAgg163
  z46 := Tryd.sizeOf163
  v46 := Tryd.zeroValue163
  t51 := Tryd.underlying160
  a51 := Tryd.isAgg160
  z51 := Tryd.sizeOf160
  v51 := Tryd.zeroValue160
  t53 := Tryd.underlying146
  a53 := Tryd.isAgg146
  z53 := Tryd.sizeOf146
  v53 := Tryd.zeroValue146
  t171 := Tryd.underlying145
  a171 := Tryd.isAgg145
  z171 := Tryd.sizeOf145
  v171 := Tryd.zeroValue145
  t173 := Tryd.underlying149
  a173 := Tryd.isAgg149
  z173 := Tryd.sizeOf149
  v173 := Tryd.zeroValue149
  t212 := Tryd.underlying159
  a212 := Tryd.isAgg159
  z212 := Tryd.sizeOf159
  v212 := Tryd.zeroValue159
  t213 := Tryd.underlying161
  a213 := Tryd.isAgg161
  z213 := Tryd.sizeOf161
  t232 := Tryd.underlying176
  a232 := Tryd.isAgg176
  z232 := Tryd.sizeOf176
  v232 := Tryd.zeroValue176
  t233 := Tryd.underlying177
  a233 := Tryd.isAgg177
  z233 := Tryd.sizeOf177
  v233 := Tryd.zeroValue177
  g17 := by kernel_rfl
  g18 := by kernel_rfl
  g19 := by kernel_rfl
  i0 := by kernel_rfl
  i2 := by kernel_rfl
  i3 := by kernel_rfl
  i4 := by kernel_rfl
  i5 := by kernel_rfl
  i9 := by kernel_rfl
  i20 := by kernel_rfl
  i37 := by kernel_rfl
  i46 := by kernel_rfl
  i51 := by kernel_rfl
  i53 := by kernel_rfl
  i171 := by kernel_rfl
  i173 := by kernel_rfl
  i212 := by kernel_rfl
  i232 := by kernel_rfl
  i233 := by kernel_rfl
  m17 := by kernel_rfl
  m18 := by kernel_rfl
  m19 := by kernel_rfl }

end Go.Proofs

namespace Go.Proofs.YthboippafkcoiaaDoor.am
open Go Go.Proofs Go.RowKit

/-- a contract out of a law on calls: a function that only makes blocks of its own -/
theorem Ctr.ofCalls {f : Nat} {args : List AV} {a : AV} (hc : Callable Tryd.prog f) (h : ∀ (g : Gh) (w : World) (vs : Array Value), MSt g w (ofL []) → vs.size = args.length → (∀ (i : Nat) (v : Value) (a : AV), vs[i]? = some v → args[i]? = some a → Rep g w v a) →
    Calls Tryd.prog f vs w fun e w' => ∃ v, e = .returned v ∧ Below w.heap.size w w' ∧ (Grow g w g w' → MSt g w' (ofLO []) → Rep g w' v a)) : K f args [] (.ret a) [] := by
  refine ⟨hc, fun g w vs hun hm hsz hv => (h g w vs hm hsz hv).mono ?_⟩
  rintro e w' ⟨v, rfl, hb, hR⟩
  have hG : Grow g w g w' := ⟨hb.os, hb.tape, hb.output, hb.size, fun b hk => hb.block b hk.1, fun b hk => hb.block b (hm.xlt b hk), rfl, fun _ h => h, fun _ _ h => .inl h, fun k b e => .inl ⟨k, e⟩⟩
  have hM : MSt g w' (ofLO []) := ⟨fun h b e => (by simp [ofLO] at e), hm.inj, fun k b e => Nat.lt_of_lt_of_le (hm.lt k b e) hb.size, fun b hk => Nat.lt_of_lt_of_le (hm.xlt b hk) hb.size, hm.xl, hm.gl.grow hG⟩
  exact ⟨g, hG, hM, fun k _ l hl => (by have := hun k (Nat.zero_le _); rw [this] at hl; cases hl), hR hG hM⟩
theorem one_arg {vs : Array Value} (h : vs.size = 1) : ∃ v, vs = #[v] := by
  obtain ⟨l⟩ := vs
  match l, h with
  | [v], _ => exact ⟨v, rfl⟩
/-! the table of the powers of ten -/
theorem powTab {g : Gh} {w : World} (h : GL g w) {name : String} (hn : Tryd.prog.globalNamed name = some 1) : Lib.TabIs Tryd.prog w name .u64 Lib.pow10Tab := by
  obtain ⟨_, t, fz, e⟩ := h _ _ ⟨rfl, rfl⟩
  unfold Lib.TabIs World.var?
  rw [hn, Option.bind_some, e]
  rfl

def prnB (n : Int) : ByteArray := ⟨(ws.prn n).toArray⟩
theorem decDigits_dig (u : Nat) : Lib.decDigits u = ws.dig u := by
  induction u using Nat.strongRecOn with
  | _ u ih =>
    by_cases h : u < 10
    · rw [Lib.decDigits, dif_pos h, ws.dig_small h]; rfl
    · rw [Lib.decDigits, dif_neg h, ws.dig_big h, ih (u / 10) (by omega)]; rfl
theorem itoa_prn (n : Int) : Lib.itoa n = ws.prn n := by
  unfold Lib.itoa ws.prn
  split
  · rw [decDigits_dig, show n.natAbs = (-n).toNat by omega]
  · rw [decDigits_dig]
theorem prn_len {n : Int} (h1 : -9223372036854775808 ≤ n) (h2 : n ≤ 9223372036854775807) : (prnB n).size ≤ 21 := by
  show (ws.prn n).toArray.size ≤ 21
  rw [List.size_toArray, ← itoa_prn]
  exact Lib.itoa_length_le n h1 h2
theorem k_itoa (n : Int) : K 36 [.tr (ti n)] [] (.ret (.tr (ts (prnB n)))) [] := by
  refine Ctr.ofCalls (fun _ _ => by kernel_rfl) fun g w vs hm hsz hv => ?_
  obtain ⟨v, rfl⟩ := one_arg hsz
  obtain ⟨rfl, h1, h2⟩ := val_inv (hv 0 v (.tr (ti n)) rfl rfl)
  refine (Any.strconv_Itoa Tryd.laysM171 n h1 h2 w (powTab hm.gl (by kernel_rfl))).mono ?_
  rintro e w' ⟨rfl, k, os, rfl⟩
  rw [itoa_prn]
  exact ⟨_, rfl, Lib.below_grow _ _ (Nat.le_refl _) _ _, fun _ _ => .tr (.v (Nat.le_trans (prn_len h1 h2) (by omega)))⟩
end Go.Proofs.YthboippafkcoiaaDoor.am

namespace Go.Proofs.YthboippafkcoiaaDoor.am
open Go Go.Proofs
set_option linter.all false

theorem prn_0 : prnB 0 = ⟨#[48]⟩ := by unfold prnB ws.prn; rw [if_neg (by decide), show (0 : Int).toNat = 0 from rfl, ws.dig_small (by decide)]; rfl
theorem prn_1 : prnB 1 = ⟨#[49]⟩ := by unfold prnB ws.prn; rw [if_neg (by decide), show (1 : Int).toNat = 1 from rfl, ws.dig_small (by decide)]; rfl
theorem prn_2 : prnB 2 = ⟨#[50]⟩ := by unfold prnB ws.prn; rw [if_neg (by decide), show (2 : Int).toNat = 2 from rfl, ws.dig_small (by decide)]; rfl
theorem k_itoa0 : K 36 [.tr (ti 0)] [] (.ret (.tr (ts ⟨#[48]⟩))) [] := by have := k_itoa 0; rwa [prn_0] at this
theorem k_itoa1 : K 36 [.tr (ti 1)] [] (.ret (.tr (ts ⟨#[49]⟩))) [] := by have := k_itoa 1; rwa [prn_1] at this
theorem k_itoa2 : K 36 [.tr (ti 2)] [] (.ret (.tr (ts ⟨#[50]⟩))) [] := by have := k_itoa 2; rwa [prn_2] at this
set_option maxRecDepth 100000 in
theorem k_slot0T : K 79 [.tr (ti 0)] [] (.ret (.tr (ts ⟨#[115, 48]⟩))) [] := by
  refine Ctr.of hT hmix Tryd.func79 rfl (fun _ _ => by kernel_rfl) rfl fun hok => ?_
  clear hok
  conv => whnf
  refine acall.pure _ (k_itoa0) rfl rfl fun _ => ?_
  conv => whnf
  refine ⟨by decide, ?_⟩
  conv => whnf
  exact ⟨.inl (congrArg ts (by kernel_rfl)), trivial⟩
set_option maxRecDepth 100000 in
theorem k_valS0 : K 80 [valA true 0 0] [] (.ret (.tr (ts ⟨#[115, 48]⟩))) [] := by
  refine Ctr.of hT hmix Tryd.func80 rfl (fun _ _ => by kernel_rfl) rfl fun hok => ?_
  clear hok
  conv => whnf
  refine acall.pure _ (k_slot0T) rfl rfl fun _ => ?_
  conv => whnf
  exact ⟨.inl rfl, trivial⟩
def u0 : Un := ⟨p0.shared, [], [g0]⟩
set_option maxRecDepth 100000 in
theorem k_thing0 : K 78 [.ptr 0 0, .ptr 1 0] [.cells 54 (nd0a.cells.map .tr), .cells 29 (u0.cells.map .tr)] (.ret (.tr (ts xS))) [some (.cells 54 (nd0a.cells.map .tr)), some (.cells 29 (u0.cells.map .tr))] := by
  refine Ctr.of hT hmix Tryd.func78 rfl (fun _ _ => by kernel_rfl) rfl fun hok => ?_
  clear hok
  conv => whnf
  refine ⟨rfl, by decide, by decide, fun row hrow => ?_⟩
  obtain rfl : Decl.cells ⟨xS, 0, 0⟩ = row := Option.some.inj hrow
  clear hrow
  conv => whnf
  exact ⟨.inl rfl, ⟨rfl, .inl rfl, .inl rfl, .inl rfl, .inl rfl, .inl rfl, .inl rfl, .inl rfl, .inl rfl, .inl rfl, .inl rfl, .inl rfl, .inl rfl, .inl rfl, trivial⟩, ⟨rfl, .inl rfl, .inl rfl, .inl rfl, trivial⟩, trivial⟩
set_option maxRecDepth 100000 in
theorem k_does2 : K 58 [u0.av, en0.av] [] (.ret (.tr (ts ⟨#[101, 110, 100]⟩))) [] := by
  refine Ctr.of hT hmix Tryd.func58 rfl (fun _ _ => by kernel_rfl) rfl fun hok => ?_
  clear hok
  conv => whnf
  exact ⟨.inl rfl, trivial⟩
set_option maxRecDepth 100000 in
theorem k_does1 : K 58 [u0.av, br0e.av] [] (.ret (.tr (ts ⟨#[98, 114, 97, 110, 99, 104, 32, 115, 48]⟩))) [] := by
  refine Ctr.of hT hmix Tryd.func58 rfl (fun _ _ => by kernel_rfl) rfl fun hok => ?_
  clear hok
  conv => whnf
  refine acall.pure _ (k_valS0) rfl rfl fun _ => ?_
  conv => whnf
  refine ⟨by decide, ?_⟩
  conv => whnf
  exact ⟨.inl (congrArg ts (by kernel_rfl)), trivial⟩
set_option maxRecDepth 100000 in
theorem k_does0 : K 58 [u0.av, nd0a.av] [] (.ret (.tr (ts ⟨#[115, 48, 32, 61, 32, 120]⟩))) [] := by
  refine Ctr.of hT hmix Tryd.func58 rfl (fun _ _ => by kernel_rfl) rfl fun hok => ?_
  clear hok
  conv => whnf
  refine acall.pure _ (k_slot0T) rfl rfl fun _ => ?_
  conv => whnf
  refine ⟨by decide, ?_⟩
  conv => whnf
  refine acall.au [1, 0] [] (k_thing0) ?_
  intro _
  conv => whnf
  refine ⟨by decide, ?_⟩
  conv => whnf
  exact ⟨.inl (congrArg ts (by kernel_rfl)), trivial⟩
set_option maxRecDepth 100000 in
theorem k_text0 : K 37 [u0.av, nd0a.av] [] (.ret (.tr (ts ⟨#[115, 48, 32, 61, 32, 120, 32, 45, 62, 32, 49]⟩))) [] := by
  refine Ctr.of hT hmix Tryd.func37 rfl (fun _ _ => by kernel_rfl) rfl fun hok => ?_
  clear hok
  conv => whnf
  refine acall.pure _ (k_does0) rfl rfl fun _ => ?_
  conv => whnf
  refine acall.pure _ (k_itoa1) rfl rfl fun _ => ?_
  conv => whnf
  refine ⟨by decide, ?_⟩
  conv => whnf
  refine ⟨by decide, ?_⟩
  conv => whnf
  exact ⟨.inl (congrArg ts (by kernel_rfl)), trivial⟩
set_option maxRecDepth 100000 in
theorem k_text1 : K 37 [u0.av, br0e.av] [] (.ret (.tr (ts ⟨#[98, 114, 97, 110, 99, 104, 32, 115, 48, 32, 45, 62, 32, 48, 32, 50]⟩))) [] := by
  refine Ctr.of hT hmix Tryd.func37 rfl (fun _ _ => by kernel_rfl) rfl fun hok => ?_
  clear hok
  conv => whnf
  refine acall.pure _ (k_does1) rfl rfl fun _ => ?_
  conv => whnf
  refine acall.pure _ (k_itoa0) rfl rfl fun _ => ?_
  conv => whnf
  refine ⟨by decide, ?_⟩
  conv => whnf
  refine ⟨by decide, ?_⟩
  conv => whnf
  refine acall.pure _ (k_itoa2) rfl rfl fun _ => ?_
  conv => whnf
  refine ⟨by decide, ?_⟩
  conv => whnf
  refine ⟨by decide, ?_⟩
  conv => whnf
  exact ⟨.inl (congrArg ts (by kernel_rfl)), trivial⟩
set_option maxRecDepth 100000 in
theorem k_text2 : K 37 [u0.av, en0.av] [] (.ret (.tr (ts ⟨#[101, 110, 100]⟩))) [] := by
  refine Ctr.of hT hmix Tryd.func37 rfl (fun _ _ => by kernel_rfl) rfl fun hok => ?_
  clear hok
  conv => whnf
  refine acall.pure _ (k_does2) rfl rfl fun _ => ?_
  conv => whnf
  exact ⟨.inl (congrArg ts (by kernel_rfl)), trivial⟩
def prP : Nat → List UInt8
  | 0 => [116, 104, 114, 101, 97, 100, 32, 97, 10]
  | 1 => [116, 104, 114, 101, 97, 100, 32, 97, 10, 48, 32, 115, 48, 32, 61, 32, 120, 32, 45, 62, 32, 49, 10]
  | 2 => [116, 104, 114, 101, 97, 100, 32, 97, 10, 48, 32, 115, 48, 32, 61, 32, 120, 32, 45, 62, 32, 49, 10, 49, 32, 98, 114, 97, 110, 99, 104, 32, 115, 48, 32, 45, 62, 32, 48, 32, 50, 10]
  | _ => [116, 104, 114, 101, 97, 100, 32, 97, 10, 48, 32, 115, 48, 32, 61, 32, 120, 32, 45, 62, 32, 49, 10, 49, 32, 98, 114, 97, 110, 99, 104, 32, 115, 48, 32, 45, 62, 32, 48, 32, 50, 10, 50, 32, 101, 110, 100, 10]
abbrev prB (l : List UInt8) : Blk := .vec 5 1 1 (brows l)
set_option maxRecDepth 100000 in
theorem k_print0 : K 20 [u0.av] [] (.ret (.tup [.tr (ts ⟨#[116, 104, 114, 101, 97, 100, 32, 97, 10, 48, 32, 115, 48, 32, 61, 32, 120, 32, 45, 62, 32, 49, 10, 49, 32, 98, 114, 97, 110, 99, 104, 32, 115, 48, 32, 45, 62, 32, 48, 32, 50, 10, 50, 32, 101, 110, 100, 10]⟩), .tr (ti 0)])) [] := by
  have hch := k_check u0
  rw [show (checkU u0).1 = 0 from by kernel_rfl, show (checkU u0).2.1 = 0 from by kernel_rfl, show (checkU u0).2.2 = 0 from by kernel_rfl] at hch
  refine Ctr.of hT hmix Tryd.func20 rfl (fun _ _ => by kernel_rfl) rfl fun hok => ?_
  clear hok
  conv => whnf
  refine acall.pure _ (hch) rfl rfl fun _ => ?_
  conv => whnf
  refine .inl ⟨2, ?_⟩
  conv => whnf
  refine ⟨rfl, Int.le_refl _, (by decide), fun row hrow => ?_⟩
  obtain rfl : Gr.cells g0 = row := Option.some.inj hrow
  clear hrow
  conv => whnf
  refine ⟨by decide, ?_⟩
  conv => whnf
  refine ⟨by decide, ?_⟩
  conv => whnf
  refine ⟨by decide, ?_⟩
  conv => whnf
  refine LoopL.by (fun i : Nat => ⟨[(1, .ptr 0 0), (7, .sl 1 (prP i).length), (22, .tr (graphsT [g0])), (23, .tr (ti 1)), (24, .tr (ti 0)), (35, .tr (nodesT g0.nodes)), (36, .tr (ti 3)), (37, .tr (ti (i : Nat)))], [(0, .cells 29 (u0.cells.map .tr)), (1, prB (prP i))], 10⟩) (fun i => i ≤ 3) (fun i => 3 - i) 0 [_, _] []
    (Sub.mk' rfl ⟨⟨rfl, rfl⟩, ⟨rfl, rfl⟩, .inl rfl, .inl rfl, .inl rfl, .inl rfl, .inl rfl, .inl rfl, trivial⟩ ⟨⟨rfl, .inl rfl, .inl rfl, .inl rfl, trivial⟩, ⟨rfl, rfl, rfl, rfl⟩, trivial⟩ rfl rfl) (Nat.zero_le _) ?_
  rintro i hi -
  have hi4 : i = 0 ∨ i = 1 ∨ i = 2 ∨ i = 3 := by omega
  clear hi
  rcases hi4 with rfl | rfl | rfl | rfl
  · conv => whnf
    refine ⟨rfl, by decide, by decide, fun row hrow => ?_⟩
    obtain rfl : Nd.cells nd0a = row := Option.some.inj hrow
    clear hrow
    conv => whnf
    refine acall.pure _ (k_itoa0) rfl rfl ?_
    conv => whnf
    refine ⟨by decide, ?_⟩
    conv => whnf
    refine acall.pure _ (k_text0) rfl rfl ?_
    conv => whnf
    refine ⟨by decide, ?_⟩
    conv => whnf
    refine ⟨by decide, ?_⟩
    conv => whnf
    refine ⟨rfl, rfl, rfl, by decide, by decide, ?_⟩
    conv => whnf
    refine ⟨by kernel_rfl, fun _ => ?_⟩
    conv => whnf
    exact ⟨1, [0, _], [], Sub.mk' rfl ⟨⟨rfl, rfl⟩, ⟨rfl, by kernel_rfl⟩, .inl rfl, .inl rfl, .inl rfl, .inl rfl, .inl rfl, .inl rfl, trivial⟩ ⟨⟨rfl, .inl rfl, .inl rfl, .inl rfl, trivial⟩, ⟨rfl, rfl, rfl, by kernel_rfl⟩, trivial⟩ rfl rfl, by decide, by decide⟩
  · conv => whnf
    refine ⟨rfl, by decide, by decide, fun row hrow => ?_⟩
    obtain rfl : Nd.cells br0e = row := Option.some.inj hrow
    clear hrow
    conv => whnf
    refine acall.pure _ (k_itoa1) rfl rfl ?_
    conv => whnf
    refine ⟨by decide, ?_⟩
    conv => whnf
    refine acall.pure _ (k_text1) rfl rfl ?_
    conv => whnf
    refine ⟨by decide, ?_⟩
    conv => whnf
    refine ⟨by decide, ?_⟩
    conv => whnf
    refine ⟨rfl, rfl, rfl, by decide, by decide, ?_⟩
    conv => whnf
    refine ⟨by kernel_rfl, fun _ => ?_⟩
    conv => whnf
    exact ⟨2, [0, _], [], Sub.mk' rfl ⟨⟨rfl, rfl⟩, ⟨rfl, by kernel_rfl⟩, .inl rfl, .inl rfl, .inl rfl, .inl rfl, .inl rfl, .inl rfl, trivial⟩ ⟨⟨rfl, .inl rfl, .inl rfl, .inl rfl, trivial⟩, ⟨rfl, rfl, rfl, by kernel_rfl⟩, trivial⟩ rfl rfl, by decide, by decide⟩
  · conv => whnf
    refine ⟨rfl, by decide, by decide, fun row hrow => ?_⟩
    obtain rfl : Nd.cells en0 = row := Option.some.inj hrow
    clear hrow
    conv => whnf
    refine acall.pure _ (k_itoa2) rfl rfl ?_
    conv => whnf
    refine ⟨by decide, ?_⟩
    conv => whnf
    refine acall.pure _ (k_text2) rfl rfl ?_
    conv => whnf
    refine ⟨by decide, ?_⟩
    conv => whnf
    refine ⟨by decide, ?_⟩
    conv => whnf
    refine ⟨rfl, rfl, rfl, by decide, by decide, ?_⟩
    conv => whnf
    refine ⟨by kernel_rfl, fun _ => ?_⟩
    conv => whnf
    exact ⟨3, [0, _], [], Sub.mk' rfl ⟨⟨rfl, rfl⟩, ⟨rfl, by kernel_rfl⟩, .inl rfl, .inl rfl, .inl rfl, .inl rfl, .inl rfl, .inl rfl, trivial⟩ ⟨⟨rfl, .inl rfl, .inl rfl, .inl rfl, trivial⟩, ⟨rfl, rfl, rfl, by kernel_rfl⟩, trivial⟩ rfl rfl, by decide, by decide⟩
  · conv => whnf
    refine ⟨fun _ => ?_, fun h => absurd rfl h⟩
    conv => whnf
    refine ⟨fun _ => ?_, fun h => absurd rfl h⟩
    conv => whnf
    refine ⟨prP 3, by kernel_rfl, by decide, ?_⟩
    conv => whnf
    exact ⟨⟨.inl (congrArg ts (by kernel_rfl)), .inl rfl, trivial⟩, trivial⟩
end Go.Proofs.YthboippafkcoiaaDoor.am

namespace Go.Proofs.YthboippafkcoiaaDoor.am
open Go Go.Proofs
set_option linter.all false

theorem f0_0 : fol g0 0 = [1] := by kernel_rfl
theorem f0_1 : fol g0 1 = [0, 2] := by kernel_rfl
theorem f0_2 : fol g0 2 = [] := by kernel_rfl
theorem f0_n (n : Nat) : fol g0 (n + 3) = [] := by
  unfold fol
  rw [List.getElem?_eq_none (show g0.nodes.length ≤ n + 3 from Nat.le_add_left 3 n)]
theorem f0_lt : ∀ a, ∀ b ∈ fol g0 a, b < 3
  | 0, b, h => by rw [f0_0] at h; simp at h; omega
  | 1, b, h => by rw [f0_1] at h; simp at h; omega
  | 2, b, h => by rw [f0_2] at h; cases h
  | n + 3, b, h => by rw [f0_n] at h; cases h
theorem r0_0 {c : Int} : Rch (fol g0) c 0 := .zero
theorem r0_1 {c : Int} (h : c ≠ 0) : Rch (fol g0) c 1 := .step .zero (fun w => h w.symm) (by rw [f0_0]; simp)
theorem r0_2 : Rch (fol g0) (-1) 2 := .step (r0_1 (by decide)) (by decide) (by rw [f0_1]; simp)
theorem d01 : Dm (fol g0) 0 1 := dm_zero (r0_1 (by decide))
theorem d12 : Dm (fol g0) 1 2 := by
  refine ⟨r0_1 (by decide), r0_2, .inr fun h => ?_⟩
  have : ∀ y, Rch (fol g0) ((1 : Nat) : Int) y → y = 0 ∨ y = 1 := fun y hy => by
    induction hy with
    | zero => exact .inl rfl
    | step _ h1 h2 ih =>
      rcases ih with rfl | rfl
      · rw [f0_0] at h2; simp at h2; exact .inr h2
      · exact absurd rfl h1
  rcases this 2 h with w | w <;> cases w
theorem nd21 : ¬ Dm (fol g0) 2 1 := fun h => h.2.2.elim (fun w => by cases w) fun w => w (r0_1 (by decide))
theorem nd10 : ¬ Dm (fol g0) 1 0 := not_dm_zero (by decide)
theorem lt0 {c x : Nat} (h : Dm (fol g0) c x) : c = 0 ∨ c = 1 ∨ c = 2 := by
  have := h.1.lt (N := 3) (by decide) f0_lt
  omega
theorem idom0 : idomL (fol g0) 3 = [-1, 0, 1] := by
  have e := fun x v h => idomI_eq (fol := fol g0) (N := 3) (by decide) f0_lt (x := x) (v := v) h
  show [idomI (fol g0) 0, idomI (fol g0) 1, idomI (fol g0) 2] = _
  rw [e 0 (-1) (.inl ⟨rfl, .inl rfl⟩), e 1 0 (.inr ⟨by decide, 0, rfl, by decide, d01, fun c hc hd => ?_⟩), e 2 1 (.inr ⟨by decide, 1, rfl, by decide, d12, fun c hc hd => ?_⟩)]
  · rcases lt0 hd with rfl | rfl | rfl
    · exact d01
    · exact dm_refl (r0_1 (by decide))
    · exact absurd rfl hc
  · rcases lt0 hd with rfl | rfl | rfl
    · exact dm_refl r0_0
    · exact absurd rfl hc
    · exact absurd hd nd21
theorem in00 : InLoop (fol g0) 0 0 := ⟨⟨1, d01, by rw [f0_1]; simp⟩, .inl rfl⟩
theorem in01 : InLoop (fol g0) 0 1 := ⟨⟨1, d01, by rw [f0_1]; simp⟩, .inr (.back d01 (by rw [f0_1]; simp) (by decide))⟩
theorem nin02 : ¬ InLoop (fol g0) 0 2 := fun h => h.2.elim (fun w => by cases w) fun w => by
  cases w with
  | back _ h2 _ => rw [f0_2] at h2; cases h2
  | pre _ h2 _ _ => rw [f0_2] at h2; cases h2
theorem nback1 : ¬ HasBack (fol g0) 1 := fun ⟨a, h1, h2⟩ => by
  match a, h1, h2 with
  | 0, h1, _ => exact nd10 h1
  | 1, _, h2 => rw [f0_1] at h2; simp at h2
  | 2, _, h2 => rw [f0_2] at h2; cases h2
  | n + 3, _, h2 => rw [f0_n] at h2; cases h2
theorem nback2 : ¬ HasBack (fol g0) 2 := fun ⟨a, h1, h2⟩ => by
  match a, h1, h2 with
  | 0, _, h2 => rw [f0_0] at h2; simp at h2
  | 1, h1, _ => exact nd21 h1
  | 2, _, h2 => rw [f0_2] at h2; cases h2
  | n + 3, _, h2 => rw [f0_n] at h2; cases h2
theorem depth0 : depthL (fol g0) 3 = [1, 1, 0] := by
  have z : ∀ n, depthN (fol g0) 0 n = 0 := fun n => by simp [depthN]
  have s : ∀ n, depthN (fol g0) 3 n = depthN (fol g0) 1 n := fun n => by
    rw [depthN_succ, depthN_succ, if_neg fun w => nback1 w.1, if_neg fun w => nback2 w.1]; rfl
  show [depthN (fol g0) 3 0, depthN (fol g0) 3 1, depthN (fol g0) 3 2] = _
  rw [s, s, s, depthN_succ, depthN_succ, depthN_succ, z, z, z, if_pos in00, if_pos in01, if_neg nin02]
end Go.Proofs.YthboippafkcoiaaDoor.am

namespace Go.Proofs.YthboippafkcoiaaDoor.am
open Go Go.Proofs
set_option linter.all false

set_option maxRecDepth 100000 in
theorem k_rsame (l l' : List Int) : K 26 [.tr (intsT l), .tr (intsT l')] [] (.ret (.tr (tb (eqI2 l l')))) [] := by
  have h1 : (l.map irow).length = l.length := List.length_map ..
  have h2 : (l'.map irow).length = l'.length := List.length_map ..
  refine Ctr.of hT hmix Tryd.func26 rfl (fun _ _ => by kernel_rfl) rfl fun hok => ?_
  obtain ⟨_, hl1, _⟩ := (hok.slot 0 rfl).tr.lst
  rw [List.length_map] at hl1
  clear hok
  conv => whnf
  cases hc : (((l.map irow).length : Int) != ((l'.map irow).length : Int)) with
  | true =>
    conv => whnf
    exact ⟨.inl (congrArg tb (by rw [h1, h2] at hc; unfold eqI2; rw [hc]; rfl)), trivial⟩
  | false =>
  have hE : eqI2 l l' = eqI l l' := by rw [h1, h2] at hc; unfold eqI2; rw [hc]; rfl
  have hll : l.length = l'.length := by
    rw [h1, h2] at hc
    refine Classical.byContradiction fun w => ?_
    rw [bne_iff_ne.2 (fun e => w (by omega))] at hc
    cases hc
  rw [hE]
  generalize hR : eqI l l' = R
  clear hE hc
  conv => whnf
  refine LoopL.by (fun i : Nat => ⟨[(0, .tr (intsT l)), (1, .tr (intsT l')), (5, .tr (ti i))], [], 10⟩) (fun i => i ≤ l.length ∧ R = eqI (l.drop i) (l'.drop i)) (fun i => l.length - i) 0 [] []
    (Sub.mk' rfl ⟨.inl rfl, .inl rfl, .inl rfl, trivial⟩ trivial rfl rfl) ⟨Nat.zero_le _, hR.symm⟩ ?_
  clear hR
  rintro i ⟨hi, hR⟩ -
  conv => whnf
  refine csplit (fun hit => ?_) (fun hit => ?_)
  · have hit : i < l.length := by have : decide ((i : Int) < ((l.map irow).length : Int)) = true := hit; have := of_decide_eq_true this; omega
    obtain ⟨a, ha⟩ : ∃ a, l[i]? = some a := ⟨_, List.getElem?_eq_getElem hit⟩
    obtain ⟨b, hb⟩ : ∃ b, l'[i]? = some b := ⟨_, List.getElem?_eq_getElem (by omega)⟩
    rw [drop_cons ha, drop_cons hb] at hR
    conv => whnf
    refine ⟨rfl, (show (0 : Int) ≤ i by omega), (show (i : Int) < ((l.map irow).length : Int) by omega), fun row hrow => ?_⟩
    obtain ⟨d, hd, rfl⟩ := int_get hrow
    obtain rfl := Option.some.inj (ha.symm.trans hd)
    clear hrow hd
    conv => whnf
    refine ⟨rfl, (show (0 : Int) ≤ i by omega), (show (i : Int) < ((l'.map irow).length : Int) by omega), fun row hrow => ?_⟩
    obtain ⟨d, hd, rfl⟩ := int_get hrow
    obtain rfl := Option.some.inj (hb.symm.trans hd)
    clear hrow hd
    conv => whnf
    refine ⟨by kernel_rfl, fun _ => ?_⟩
    conv => whnf
    cases hab : (a != b) with
    | true =>
      conv => whnf
      exact ⟨.inl (by rw [hR]; show tb false = tb (bif a != b then false else _); rw [hab]; rfl), trivial⟩
    | false =>
      replace hR : R = eqI (l.drop (i + 1)) (l'.drop (i + 1)) := by rw [hR]; show (bif a != b then false else _) = _; rw [hab]; rfl
      conv => whnf
      exact ⟨i + 1, [], [], Sub.mk' rfl ⟨.inl rfl, .inl rfl, .inl (ti_succ hit (by omega)), trivial⟩ trivial rfl rfl, ⟨hit, hR⟩, by show l.length - (i + 1) < l.length - i; omega⟩
  have hit : l.length ≤ i := by have : decide ((i : Int) < ((l.map irow).length : Int)) = false := hit; have := of_decide_eq_false this; omega
  rw [List.drop_of_length_le hit, List.drop_of_length_le (by omega)] at hR
  conv => whnf
  refine ⟨fun _ => ?_, fun h => absurd rfl h⟩
  conv => whnf
  exact ⟨.inl (by rw [hR]; rfl), trivial⟩
set_option maxRecDepth 100000 in
theorem k_ints (l l' : List Int) : K 10 [.tr (intsT l), .tr (intsT l')] [] (.ret (.tr (tb (eqI2 l l')))) [] := by
  have h := k_rsame l l'
  refine Ctr.of hT hmix Tryd.func10 rfl (fun _ _ => by kernel_rfl) rfl fun hok => ?_
  clear hok
  conv => whnf
  refine acall.pure _ (h) rfl rfl fun _ => ?_
  conv => whnf
  exact ⟨.inl rfl, trivial⟩
def prS : ByteArray := ⟨(prP 3).toArray⟩
set_option maxRecDepth 100000 in
theorem k_begins : K 7 [] [] (.ret (.tr (tb true))) [] := by
  have hlo := k_loop0
  have hlw := k_lower0
  have hch := k_check u0
  rw [show (checkU u0).1 = 0 from by kernel_rfl, show (checkU u0).2.1 = 0 from by kernel_rfl, show (checkU u0).2.2 = 0 from by kernel_rfl] at hch
  have hpr := k_print0
  obtain ⟨S, hS⟩ : ∃ S : ByteArray, S = ⟨#[116, 104, 114, 101, 97, 100, 32, 97, 10, 48, 32, 115, 48, 32, 61, 32, 120, 32, 45, 62, 32, 49, 10, 49, 32, 98, 114, 97, 110, 99, 104, 32, 115, 48, 32, 45, 62, 32, 48, 32, 50, 10, 50, 32, 101, 110, 100, 10]⟩ := ⟨_, rfl⟩
  replace hpr : K 20 [u0.av] [] (.ret (.tup [.tr (ts S), .tr (ti 0)])) [] := by rw [hS]; exact hpr
  have e : (S.toList == ByteArray.toList ⟨#[116, 104, 114, 101, 97, 100, 32, 97, 10, 48, 32, 115, 48, 32, 61, 32, 120, 32, 45, 62, 32, 49, 10, 49, 32, 98, 114, 97, 110, 99, 104, 32, 115, 48, 32, 45, 62, 32, 48, 32, 50, 10, 50, 32, 101, 110, 100, 10]⟩) = true := by rw [hS]; exact beq_self_eq_true _
  clear hS
  have hdp := k_depth g0 (by kernel_rfl)
  rw [show g0.nodes.length = 3 from rfl, depth0] at hdp
  have hdo := k_dominators g0 (by kernel_rfl)
  rw [show g0.nodes.length = 3 from rfl, idom0] at hdo
  have hi1 := k_ints [1, 1, 0] [1, 1, 0]
  rw [show eqI2 [1, 1, 0] [1, 1, 0] = true from by kernel_rfl] at hi1
  have hi2 := k_ints [-1, 0, 1] [-1, 0, 1]
  rw [show eqI2 [-1, 0, 1] [-1, 0, 1] = true from by kernel_rfl] at hi2
  refine Ctr.cut [6] hT hmix Tryd.func7 rfl (fun _ _ => by kernel_rfl) rfl fun hok => ?_
  clear hok
  conv => whnf
  refine acall.pure _ (hlo) rfl rfl fun _ => ?_
  conv => whnf
  refine acall.pure _ (hlw) rfl rfl fun _ => ?_
  conv => whnf
  refine acall.pure _ (hch) rfl rfl fun _ => ?_
  conv => whnf
  refine acall.pure _ (hpr) rfl rfl fun _ => ?_
  conv => whnf
  refine CutL.by (fun _ : Unit => ⟨[(0, .tr (tb false)), (1, .ptr 0 0)], [(0, .cells 29 (u0.cells.map .tr))], 10⟩) (fun _ => True) ?_ ?_
  · conv => whnf
    rw [e]
    conv => whnf
    exact ⟨(), [_], [], Sub.mk' rfl ⟨.inl rfl, ⟨rfl, rfl⟩, trivial⟩ ⟨⟨rfl, .inl rfl, .inl rfl, .inl rfl, trivial⟩, trivial⟩ rfl rfl, trivial⟩
  rintro - - -
  conv => whnf
  refine ⟨rfl, Int.le_refl _, (by decide), fun row hrow => ?_⟩
  obtain rfl : Gr.cells g0 = row := Option.some.inj hrow
  clear hrow
  conv => whnf
  refine acall.pure _ (hdp) rfl rfl fun _ => ?_
  conv => whnf
  refine acall.au [] [15] (hi1) ?_
  intro _
  conv => whnf
  refine ⟨rfl, Int.le_refl _, (by decide), fun row hrow => ?_⟩
  obtain rfl : Gr.cells g0 = row := Option.some.inj hrow
  clear hrow
  conv => whnf
  refine acall.pure _ (hdo) rfl rfl fun _ => ?_
  conv => whnf
  refine acall.au [] [23] (hi2) ?_
  intro _
  conv => whnf
  exact ⟨.inl rfl, trivial⟩
end Go.Proofs.YthboippafkcoiaaDoor.am

namespace Go.Proofs.YthboippafkcoiaaDoor.am
open Go Go.Proofs
set_option linter.all false

def rfolI (n : Nd) : List Int := bif n.kind == 9 then [] else bif n.kind == 8 then [n.next, n.els] else [n.next]
set_option maxRecDepth 100000 in
theorem k_copyG (g : Gr) : K 16 [g.av] [] (.ret (.agg [.tr (ts g.name), .tr (ti g.locals), .tr (ti g.slots), .sl 0 g.nodes.length])) [some (ndsB g.nodes)] := by
  have hln : (g.nodes.map Nd.cells).length = g.nodes.length := List.length_map ..
  refine Ctr.new [] hT hmix Tryd.func16 rfl (fun _ _ => by kernel_rfl) rfl fun hok => ?_
  obtain ⟨hb, _⟩ := ((hok.slot 0 rfl).agg _ (.tail _ (.tail _ (.tail _ (.head _))))).tr.lst
  clear hok
  conv => whnf
  refine ⟨rfl, rfl, rfl, Nat.le_refl _, (by show (0 + (g.nodes.map Nd.cells).length) * 96 ≤ 150000000000000; rw [Nat.zero_add]; exact hb), (fun q hq => by cases hq), ?_⟩
  conv => whnf
  exact ⟨[5], rfl, rfl, ⟨.inl rfl, .inl rfl, .inl rfl, ⟨rfl, (Nat.zero_add _).trans hln⟩, trivial⟩, ⟨rfl, rfl, rfl, rfl⟩, trivial⟩
end Go.Proofs.YthboippafkcoiaaDoor.am

namespace Go.Proofs.YthboippafkcoiaaDoor.am
open Go Go.Proofs
set_option linter.all false

def cutG (g : Gr) (c : Nat) : Gr := ⟨g.name, g.locals, g.slots, g.nodes.set c enI⟩
theorem cutG_whole {g : Gr} {c : Nat} (h : wholeB g = true) : wholeB (cutG g c) = true := by
  unfold wholeB at h ⊢
  have hl : (cutG g c).nodes.length = g.nodes.length := List.length_set
  rw [hl]
  cases hc : (decide ((g.nodes.length : Int) < 1) || decide ((g.nodes.length : Int) > 4096)) with
  | true => rw [hc] at h; cases h
  | false =>
    rw [hc, cond_false] at h
    refine List.all_eq_true.2 fun n hn => ?_
    rcases List.mem_or_eq_of_mem_set hn with q | q
    · exact List.all_eq_true.1 h n q
    · rw [q]; rfl
theorem cutG_fol {g : Gr} {c : Nat} (hc : c < g.nodes.length) : fol (cutG g c) c = [] ∧ ∀ a, a ≠ c → fol (cutG g c) a = fol g a := by
  refine ⟨?_, fun a ha => ?_⟩
  · show (match (g.nodes.set c enI)[c]? with | some n => (folI n).map Int.toNat | none => []) = []
    rw [List.getElem?_set_self hc]; rfl
  · show (match (g.nodes.set c enI)[a]? with | some n => (folI n).map Int.toNat | none => []) = (match g.nodes[a]? with | some n => (folI n).map Int.toNat | none => [])
    rw [List.getElem?_set_ne (fun w => ha w.symm)]
set_option maxRecDepth 100000 in
set_option maxHeartbeats 4000000 in
theorem k_tree1 (g : Gr) (k : Int) (hW : wholeB g = true) : K 5 [g.av, .tr (ti k)] [] (.ret (.tr (tb true))) [] := by
  have hd := k_dominators g hW
  have hre := k_reached g hW
  have hWh := whole_of hW
  have hbe := k_begins
  have hrc := fun x hx => rchL_at (fol := fol g) (cut := -1) (N := g.nodes.length) (x := x) hx
  have hrl : (rchL (fol g) (-1) g.nodes.length).length = g.nodes.length := rchL_len
  have hid : ∀ x, x < g.nodes.length → (idomL (fol g) g.nodes.length)[x]? = some (idomI (fol g) x) := fun x hx => by simp [idomL, hx]
  have hil : (idomL (fol g) g.nodes.length).length = g.nodes.length := by simp [idomL]
  have hi0 : ∀ x, x = 0 ∨ ¬ Rch (fol g) (-1) x → idomI (fol g) x = -1 := fun x h => idomI_eq hWh.pos hWh.lt (.inl ⟨rfl, h⟩)
  have hup : ∀ x, x ≠ 0 → Rch (fol g) (-1) x → ∃ a : Nat, idomI (fol g) x = a ∧ a ≠ x ∧ rankD (fol g) g.nodes.length a < rankD (fol g) g.nodes.length x ∧ Dm (fol g) a x ∧ ∀ h, Dm (fol g) h x ↔ h = x ∨ Dm (fol g) h a := fun x h0 hx => by
    rcases idom_up (idomI_is hWh.pos hWh.lt x) hx with ⟨_, q⟩ | ⟨a, q1, q2, q3, q4⟩
    · exact absurd ((q 0).1 (dm_zero hx)) (fun e => h0 e.symm)
    · exact ⟨a, q1, q2, rank_lt (hx.lt hWh.pos hWh.lt) q2 q3, q3, q4⟩
  have hrN : ∀ x, Rch (fol g) (-1) x → x < g.nodes.length := fun x hx => hx.lt hWh.pos hWh.lt
  have hpos := hWh.pos
  have hmo := hWh.most
  obtain ⟨N, hNe⟩ : ∃ N, g.nodes.length = N := ⟨_, rfl⟩
  rw [hNe] at hd hre hrc hrl hid hil hup hrN hpos hmo
  generalize idomL (fol g) N = IL at hd hid hil
  generalize rchL (fol g) (-1) N = RC at hre hrc hrl
  have hIL : (IL.map irow).length = N := by rw [List.length_map]; exact hil
  have hRL : (RC.map brow).length = N := by rw [List.length_map]; exact hrl
  refine Ctr.cut [19, 24] hT hmix Tryd.func5 rfl (fun _ _ => by kernel_rfl) rfl fun hok => ?_
  clear hok
  have e0 : (((RC.map brow).length : Int) == 0) = false := by rw [beq_eq_false_iff_ne]; omega
  have e1 : (((IL.map irow).length : Int) == ((RC.map brow).length : Int)) = true := by rw [hIL, hRL]; exact beq_self_eq_true _
  conv => whnf
  refine acall.pure _ (hbe) rfl rfl fun _ => ?_
  conv => whnf
  refine acall.pure _ (hd) rfl rfl fun _ => ?_
  conv => whnf
  refine acall.pure _ (hre) rfl rfl fun _ => ?_
  conv => whnf
  rw [e0]
  conv => whnf
  cases hk0 : decide (k < 0) with
  | true =>
    conv => whnf
    exact ⟨.inl (congrArg tb e1), trivial⟩
  | false =>
  conv => whnf
  cases hkN : decide (k ≥ ((IL.map irow).length : Int)) with
  | true =>
    conv => whnf
    exact ⟨.inl (congrArg tb e1), trivial⟩
  | false =>
  have hk0 := of_decide_eq_false hk0
  have hkN := of_decide_eq_false hkN
  obtain ⟨kn, rfl⟩ : ∃ kn : Nat, k = kn := ⟨k.toNat, by omega⟩
  have hkn : kn < N := by omega
  have hidk := hid kn hkn
  conv => whnf
  cases hkz : ((kn : Int) == 0) with
  | true =>
    have hv : idomI (fol g) kn = -1 := hi0 kn (.inl (by have := eq_of_beq hkz; omega))
    conv => whnf
    refine ⟨rfl, (show (0 : Int) ≤ kn by omega), (show (kn : Int) < ((IL.map irow).length : Int) by omega), fun row hrow => ?_⟩
    obtain ⟨d, hd', rfl⟩ := int_get hrow
    obtain rfl := Option.some.inj (hidk.symm.trans hd')
    clear hrow hd'
    conv => whnf
    exact ⟨.inl (congrArg tb (show (idomI (fol g) kn == (-1 : Int)) = true by rw [hv]; rfl)), trivial⟩
  | false =>
  have hkz : kn ≠ 0 := fun e => by rw [beq_eq_false_iff_ne] at hkz; exact hkz (by omega)
  obtain ⟨b, hb⟩ : ∃ b, RC[kn]? = some b := ⟨_, List.getElem?_eq_getElem (by omega)⟩
  conv => whnf
  refine ⟨rfl, (show (0 : Int) ≤ kn by omega), (show (kn : Int) < ((RC.map brow).length : Int) by omega), fun row hrow => ?_⟩
  obtain ⟨d, hd', rfl⟩ := brow_get hrow
  obtain rfl := Option.some.inj (hb.symm.trans hd')
  clear hrow hd'
  cases b with
  | false =>
    have hv : idomI (fol g) kn = -1 := hi0 kn (.inr fun w => by rw [(hrc kn hkn).2 w] at hb; cases hb)
    conv => whnf
    refine ⟨rfl, (show (0 : Int) ≤ kn by omega), (show (kn : Int) < ((IL.map irow).length : Int) by omega), fun row hrow => ?_⟩
    obtain ⟨d, hd', rfl⟩ := int_get hrow
    obtain rfl := Option.some.inj (hidk.symm.trans hd')
    clear hrow hd'
    conv => whnf
    exact ⟨.inl (congrArg tb (show (idomI (fol g) kn == (-1 : Int)) = true by rw [hv]; rfl)), trivial⟩
  | true =>
  have hkr : Rch (fol g) (-1) kn := (hrc kn hkn).1 hb
  have hst := ChainI.start (N := N) hkr
  have hrk : rankD (fol g) N kn ≤ N := by
    unfold rankD
    have := List.length_filter_le (fun a => @decide (Dm (fol g) a kn) (Classical.propDecidable _)) (List.range N)
    rwa [List.length_range] at this
  generalize rankD (fol g) N = rk at hup hrk
  conv => whnf
  refine ⟨(by rw [hIL]; omega), Int.le_refl _, (by rw [hIL]; show (N : Int) * 1 ≤ _; omega), ?_⟩
  conv => whnf
  rw [hIL, Int.toNat_natCast]
  refine CutL.by (fun C : List Bool => ⟨[(1, .tr (ti (kn : Nat))), (2, .ptr 0 0), (5, .tr (intsT IL)), (7, .sl 1 N)], [(0, grBl g), (1, boolsB C)], 10⟩) (fun C => C.length = N ∧ ∀ x, x < N → (C[x]? = some true ↔ Dm (fol g) x kn)) ?_ ?_
  · conv => whnf
    refine LoopL.by (fun x : Nat × List Bool × Nat => ⟨[(1, .tr (ti (kn : Nat))), (2, .ptr 0 0), (5, .tr (intsT IL)), (7, .sl 1 N), (8, .tr (ti (x.1 : Nat))), (9, .tr (ti (x.2.2 : Nat)))], [(0, grBl g), (1, boolsB x.2.1)], 10⟩) (fun x => ChainI (fol g) N kn x.1 x.2.1 ∧ x.2.2 + rk x.1 ≤ N) (fun x => rk x.1) (kn, List.replicate N false, 0) [0, _] []
      (Sub.mk' rfl ⟨.inl rfl, ⟨rfl, rfl⟩, .inl rfl, ⟨rfl, rfl⟩, .inl rfl, .inl rfl, trivial⟩ ⟨⟨rfl, .inl rfl, .inl rfl, .inl rfl, .inl rfl, trivial⟩, ⟨rfl, rfl, rfl, brow_rep N false⟩, trivial⟩ rfl rfl) ⟨hst, by show 0 + rk kn ≤ N; omega⟩ ?_
    rintro ⟨at_, ch, i⟩ ⟨hI, hi⟩ -
    simp only at hI hi
    have hat := hI.dm.1
    have hatN := hrN at_ hat
    have hnew := hI.new hatN
    have hchl := hI.len
    have hida := hid at_ hatN
    have e2 : decide ((i : Int) ≤ ((IL.map irow).length : Int)) = true := decide_eq_true (by omega)
    have e3 : decide ((at_ : Int) < 0) = false := decide_eq_false (by omega)
    have e4 : decide ((at_ : Int) ≥ ((IL.map irow).length : Int)) = false := decide_eq_false (by omega)
    conv => whnf
    rw [e2]
    conv => whnf
    rw [e4]
    conv => whnf
    refine ⟨rfl, (show (0 : Int) ≤ at_ by omega), (show (at_ : Int) < (N : Int) by omega), ?_⟩
    conv => whnf
    refine ⟨rfl, (by show at_ < (ch.map brow).length; rw [List.length_map]; omega), fun row hrow => ?_⟩
    obtain ⟨d, hd', rfl⟩ := brow_get hrow
    obtain rfl := Option.some.inj (hnew.symm.trans hd')
    clear hrow hd'
    refine ⟨(show 0 < 1 by decide), fun t ht => ?_⟩
    cases ht
    conv => whnf
    refine ⟨rfl, (show (0 : Int) ≤ at_ by omega), (show (at_ : Int) < (N : Int) by omega), ?_⟩
    conv => whnf
    refine ⟨rfl, rfl, (by show at_ < (ch.map brow).length; rw [List.length_map]; omega), fun row hrow => ?_⟩
    obtain ⟨d, hd', rfl⟩ := brow_get hrow
    obtain rfl := Option.some.inj (hnew.symm.trans hd')
    clear hrow hd'
    refine ⟨(show 0 + 1 ≤ 1 by decide), ?_⟩
    conv => whnf
    cases hz : ((at_ : Int) == 0) with
    | true =>
      obtain rfl : at_ = 0 := by have := eq_of_beq hz; omega
      conv => whnf
      refine ⟨fun h => absurd h (by decide), fun _ => ?_⟩
      conv => whnf
      refine ⟨fun _ => ?_, fun h => absurd rfl h⟩
      conv => whnf
      exact ⟨ch.set 0 true, [0, 1], [], Sub.mk' rfl ⟨.inl rfl, ⟨rfl, rfl⟩, .inl rfl, ⟨rfl, rfl⟩, trivial⟩ ⟨⟨rfl, .inl rfl, .inl rfl, .inl rfl, .inl rfl, trivial⟩, ⟨rfl, rfl, rfl, brow_set ch 0 false true⟩, trivial⟩ rfl rfl, by rw [List.length_set]; exact hchl, fun x hx => hI.top hpos x hx⟩
    | false =>
      have hz0 : at_ ≠ 0 := fun e => by rw [beq_eq_false_iff_ne] at hz; exact hz (by omega)
      obtain ⟨a, q1, q2, q3, q4, q5⟩ := hup at_ hz0 hat
      conv => whnf
      refine ⟨rfl, (show (0 : Int) ≤ at_ by omega), (show (at_ : Int) < ((IL.map irow).length : Int) by omega), fun row hrow => ?_⟩
      obtain ⟨d, hd', rfl⟩ := int_get hrow
      obtain rfl := Option.some.inj (hida.symm.trans hd')
      clear hrow hd'
      conv => whnf
      exact ⟨(a, ch.set at_ true, i + 1), [0, 1], [], Sub.mk' rfl ⟨.inl rfl, ⟨rfl, rfl⟩, .inl rfl, ⟨rfl, rfl⟩, .inl (congrArg ti q1), .inl (ti_succ (show i < N by omega) (by omega)), trivial⟩ ⟨⟨rfl, .inl rfl, .inl rfl, .inl rfl, .inl rfl, trivial⟩, ⟨rfl, rfl, rfl, brow_set ch at_ false true⟩, trivial⟩ rfl rfl, ⟨hI.up hatN q2 q4 q5, by show i + 1 + rk a ≤ N; omega⟩, q3⟩
  rintro C ⟨hCl, hC⟩ -
  clear hup hst hidk hid hi0
  conv => whnf
  refine LoopL.by (fun c : Nat => ⟨[(1, .tr (ti (kn : Nat))), (2, .ptr 0 0), (5, .tr (intsT IL)), (7, .sl 1 N), (10, .tr (ti (c : Nat)))], [(0, grBl g), (1, boolsB C)], 10⟩) (fun c => c ≤ N) (fun c => N - c) 0 [0, 1] []
    (Sub.mk' rfl ⟨.inl rfl, ⟨rfl, rfl⟩, .inl rfl, ⟨rfl, rfl⟩, .inl rfl, trivial⟩ ⟨⟨rfl, .inl rfl, .inl rfl, .inl rfl, .inl rfl, trivial⟩, ⟨rfl, rfl, rfl, rfl⟩, trivial⟩ rfl rfl) (Nat.zero_le _) ?_
  rintro c hc -
  conv => whnf
  refine csplit (fun hct => ?_) (fun hct => ?_)
  · have hct : c < N := by have : decide ((c : Int) < ((IL.map irow).length : Int)) = true := hct; have := of_decide_eq_true this; omega
    have hcg := k_copyG g
    rw [hNe] at hcg
    conv => whnf
    refine acall.new [] [] _ _ _ _ (hcg) rfl rfl rfl rfl aut aut rfl rfl ?_
    conv => whnf
    intro _
    conv => whnf
    refine CutL.by (fun _ : Unit => ⟨[(1, .tr (ti (kn : Nat))), (2, .ptr 0 0), (5, .tr (intsT IL)), (7, .sl 1 N), (10, .tr (ti (c : Nat))), (11, .ptr 2 0)], [(0, grBl g), (1, boolsB C), (2, .cells 42 [.tr (ts g.name), .tr (ti g.locals), .tr (ti g.slots), .sl 3 N]), (3, ndsB (g.nodes.set c enI))], 10⟩) (fun _ => True) ?_ ?_
    · conv => whnf
      refine ⟨rfl, (show (0 : Int) ≤ c by omega), (show (c : Int) < (N : Int) by omega), ?_⟩
      conv => whnf
      refine ⟨rfl, rfl, (by show c < (g.nodes.map Nd.cells).length; rw [List.length_map]; omega), fun row hrow => ?_⟩
      obtain ⟨d, hd', rfl⟩ := nd_get hrow
      clear hrow hd'
      refine ⟨(show 0 + 13 ≤ 13 by decide), ?_⟩
      conv => whnf
      exact ⟨(), [0, 1, _, _], [], Sub.mk' rfl ⟨.inl rfl, ⟨rfl, rfl⟩, .inl rfl, ⟨rfl, rfl⟩, .inl rfl, ⟨rfl, rfl⟩, trivial⟩ ⟨⟨rfl, .inl rfl, .inl rfl, .inl rfl, .inl rfl, trivial⟩, ⟨rfl, rfl, rfl, rfl⟩, ⟨rfl, .inl rfl, .inl rfl, .inl rfl, ⟨rfl, rfl⟩, trivial⟩, ⟨rfl, rfl, rfl, by rw [List.map_set]; rfl⟩, trivial⟩ rfl rfl, trivial⟩
    rintro - - -
    have hre2 := k_reached (cutG g c) (cutG_whole hW)
    obtain ⟨hf1, hf2⟩ := cutG_fol (g := g) (c := c) (by omega)
    have hnl : (cutG g c).nodes.length = N := by rw [← hNe]; exact List.length_set
    rw [hnl] at hre2
    have hLl : (rchL (fol (cutG g c)) (-1) N).length = N := rchL_len
    have hLa := (rchL_at (fol := fol (cutG g c)) (cut := -1) (N := N) (x := kn) hkn).trans (rch_cut hf1 hf2 kn)
    generalize rchL (fol (cutG g c)) (-1) N = LC at hre2 hLl hLa
    clear hf1 hf2 hnl
    obtain ⟨b1, hb1⟩ : ∃ b, LC[kn]? = some b := ⟨_, List.getElem?_eq_getElem (by omega)⟩
    obtain ⟨b2, hb2⟩ : ∃ b, C[c]? = some b := ⟨_, List.getElem?_eq_getElem (by omega)⟩
    have hLL : (LC.map brow).length = N := by rw [List.length_map]; exact hLl
    have e5 : (((LC.map brow).length : Int) != ((IL.map irow).length : Int)) = false := by rw [hLL, hIL]; simp
    have hse : (g.nodes.set c enI).map Nd.cells = ((g.nodes.set c enI).map Nd.cells).take N := by rw [List.take_of_length_le (by rw [List.length_map, List.length_set]; omega)]
    conv => whnf
    refine acall.gen [] [3] [(cutG g c).av] [] _ [] hre2 rfl rfl rfl rfl ⟨⟨.inl rfl, .inl rfl, .inl rfl, ⟨rfl, (by show N ≤ ((g.nodes.set c enI).map Nd.cells).length; rw [List.length_map, List.length_set]; omega), congrArg (Tr.lst 13 96) hse⟩, trivial⟩, trivial⟩ trivial rfl rfl fun _ => ?_
    conv => whnf
    rw [e5]
    conv => whnf
    by_cases hck : c = kn
    · have e6 : ((c : Int) != (kn : Int)) = false := by rw [hck]; simp
      rw [e6]
      conv => whnf
      refine ⟨by kernel_rfl, fun _ => ?_⟩
      conv => whnf
      exact ⟨c + 1, [0, 1], [], Sub.mk' rfl ⟨.inl rfl, ⟨rfl, rfl⟩, .inl rfl, ⟨rfl, rfl⟩, .inl (ti_succ hct (by omega)), trivial⟩ ⟨⟨rfl, .inl rfl, .inl rfl, .inl rfl, .inl rfl, trivial⟩, ⟨rfl, rfl, rfl, rfl⟩, trivial⟩ rfl rfl, hct, by show N - (c + 1) < N - c; omega⟩
    · have e6 : ((c : Int) != (kn : Int)) = true := bne_iff_ne.2 (by omega)
      have hdif : b1 = !b2 := by
        have h1 : b1 = true ↔ ¬ Dm (fol g) c kn := by
          rw [← cut_dm hkr hck, ← hLa, hb1]; simp
        have h2 : b2 = true ↔ Dm (fol g) c kn := by rw [← hC c hct, hb2]; simp
        cases b1 <;> cases b2 <;> simp_all
      subst hdif
      rw [e6]
      conv => whnf
      refine ⟨rfl, (show (0 : Int) ≤ kn by omega), (show (kn : Int) < ((LC.map brow).length : Int) by omega), fun row hrow => ?_⟩
      obtain ⟨d, hd', rfl⟩ := brow_get hrow
      obtain rfl := Option.some.inj (hb1.symm.trans hd')
      clear hrow hd'
      conv => whnf
      refine ⟨rfl, (show (0 : Int) ≤ c by omega), (show (c : Int) < (N : Int) by omega), ?_⟩
      conv => whnf
      refine ⟨rfl, (by show c < (C.map brow).length; rw [List.length_map]; omega), fun row hrow => ?_⟩
      obtain ⟨d, hd', rfl⟩ := brow_get hrow
      obtain rfl := Option.some.inj (hb2.symm.trans hd')
      clear hrow hd'
      refine ⟨(show 0 < 1 by decide), fun t ht => ?_⟩
      cases ht
      cases b2
      · conv => whnf
        refine ⟨by kernel_rfl, fun _ => ?_⟩
        conv => whnf
        exact ⟨c + 1, [0, 1], [], Sub.mk' rfl ⟨.inl rfl, ⟨rfl, rfl⟩, .inl rfl, ⟨rfl, rfl⟩, .inl (ti_succ hct (by omega)), trivial⟩ ⟨⟨rfl, .inl rfl, .inl rfl, .inl rfl, .inl rfl, trivial⟩, ⟨rfl, rfl, rfl, rfl⟩, trivial⟩ rfl rfl, hct, by show N - (c + 1) < N - c; omega⟩
      · conv => whnf
        refine ⟨by kernel_rfl, fun _ => ?_⟩
        conv => whnf
        exact ⟨c + 1, [0, 1], [], Sub.mk' rfl ⟨.inl rfl, ⟨rfl, rfl⟩, .inl rfl, ⟨rfl, rfl⟩, .inl (ti_succ hct (by omega)), trivial⟩ ⟨⟨rfl, .inl rfl, .inl rfl, .inl rfl, .inl rfl, trivial⟩, ⟨rfl, rfl, rfl, rfl⟩, trivial⟩ rfl rfl, hct, by show N - (c + 1) < N - c; omega⟩
  · have hct : N ≤ c := by have : decide ((c : Int) < ((IL.map irow).length : Int)) = false := hct; have := of_decide_eq_false this; omega
    conv => whnf
    refine ⟨fun _ => ?_, fun h => absurd rfl h⟩
    conv => whnf
    exact ⟨.inl rfl, trivial⟩
end Go.Proofs.YthboippafkcoiaaDoor.am

namespace Go.Proofs.YthboippafkcoiaaDoor.am
open Go Go.Proofs
set_option linter.all false

set_option maxRecDepth 100000 in
theorem k_dominators0 (g : Gr) (hW : wholeB g = false) : K 15 [g.av] [] (.ret (.tr (intsT []))) [] := by
  have h1 := k_whole g
  rw [hW] at h1
  obtain ⟨name, locals, slots, nodes⟩ := g
  refine Ctr.of hT hmix Tryd.func15 rfl (fun _ _ => by kernel_rfl) rfl fun hok => ?_
  clear hok
  conv => whnf
  refine acall.pure _ (h1) rfl rfl fun _ => ?_
  conv => whnf
  exact ⟨.inr ⟨rfl, _, _, rfl⟩, trivial⟩
set_option maxRecDepth 100000 in
theorem k_tree0 (g : Gr) (k : Int) (hW : wholeB g = false) : K 5 [g.av, .tr (ti k)] [] (.ret (.tr (tb true))) [] := by
  have hd := k_dominators0 g hW
  have hre := k_reached0 g hW
  have hbe := k_begins
  refine Ctr.of hT hmix Tryd.func5 rfl (fun _ _ => by kernel_rfl) rfl fun hok => ?_
  clear hok
  conv => whnf
  refine acall.pure _ (hbe) rfl rfl fun _ => ?_
  conv => whnf
  refine acall.pure _ (hd) rfl rfl fun _ => ?_
  conv => whnf
  refine acall.pure _ (hre) rfl rfl fun _ => ?_
  conv => whnf
  exact ⟨.inl rfl, trivial⟩
theorem k_tree (g : Gr) (k : Int) : K 5 [g.av, .tr (ti k)] [] (.ret (.tr (tb true))) [] := by
  cases h : wholeB g with
  | true => exact k_tree1 g k h
  | false => exact k_tree0 g k h
end Go.Proofs.YthboippafkcoiaaDoor.am
