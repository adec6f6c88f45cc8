/- The layings of the library's contracts (written by the kit's lay-shelf and lay-plain). Contracts of Go's library, and of reading and writing words, for the abstract machine. Contracts of cfg: the texts of begins' nodes. Plain: the dominators and depths of begins' graph. Contracts of chapter 06's law: begins. Contracts of the reference: Follows, CopyGraph. The walk of CfgAhead. -/
import Derived.Shelf.Strconv.Itoa0
import Derived.Shelf.Strconv.Itoa1
import Derived.Shelf.LaysM
import Derived.Shelf.Strconv.Itoa2
import Derived.Shelf.Strconv.Itoa3
import Derived.Test.YthboippafkcoiaaDoorProg
import Derived.Test.YthboippafkcoiaaDoorE7
import Derived.Test.YthboippafkcoiaaDoorE9
import Derived.Lib.ItoaLen
import Derived.Lib.AppendIntMem
import Derived.Test.YthboippafkcoiaaDoorE5
set_option linter.all false

set_option linter.all false
namespace Go.Proofs
open Go.Shelf
def Tryd.laysM171_ren : Go.Shelf.Ren := ⟨fun | 171 => 36 | 243 => 57 | 246 => 77 | 283 => 87 | 284 => 88 | 285 => 89 | 286 => 90 | 129 => 96 | 317 => 95 | 318 => 97 | 319 => 98 | 320 => 99 | 337 => 104 | 338 => 105 | n => n, fun | 3 => 3 | 9 => 9 | 2 => 2 | 4 => 4 | 171 => 145 | 0 => 0 | 53 => 146 | 37 => 95 | 5 => 5 | 173 => 149 | 212 => 159 | 51 => 160 | 20 => 20 | 213 => 161 | 46 => 163 | 232 => 176 | 233 => 177 | n => n, fun | 17 => 1 | 18 => 2 | 19 => 3 | n => n⟩
theorem Tryd.laysM171 : Go.Proofs.LaysM.n171 Tryd.prog Tryd.laysM171_ren := {
  mixed := by kernel_rfl
  f129 := Tryd.func96.trans (congrArg some (by kernel_rfl))
  f171 := Tryd.func36.trans (congrArg some (by kernel_rfl))
  f243 := Tryd.func57.trans (congrArg some (by kernel_rfl))
  f246 := Tryd.func77.trans (congrArg some (by kernel_rfl))
  f283 := Tryd.func87.trans (congrArg some (by kernel_rfl))
  f284 := Tryd.func88.trans (congrArg some (by kernel_rfl))
  f285 := Tryd.func89.trans (congrArg some (by kernel_rfl))
  f286 := Tryd.func90.trans (congrArg some (by kernel_rfl))
  f317 := Tryd.func95.trans (congrArg some (by kernel_rfl))
  f318 := Tryd.func97.trans (congrArg some (by kernel_rfl))
  f319 := Tryd.func98.trans (congrArg some (by kernel_rfl))
  f320 := Tryd.func99.trans (congrArg some (by kernel_rfl))
  f337 := Tryd.func104.trans (congrArg some (by kernel_rfl))
  f338 := Tryd.func105.trans (congrArg some (by kernel_rfl))
  t0 := Tryd.underlying0
  a0 := Tryd.isAgg0
  z0 := Tryd.sizeOf0
  v0 := Tryd.zeroValue0
  t2 := Tryd.underlying2
  a2 := Tryd.isAgg2
  z2 := Tryd.sizeOf2
  v2 := Tryd.zeroValue2
  t3 := Tryd.underlying3
  a3 := Tryd.isAgg3
  z3 := Tryd.sizeOf3
  v3 := Tryd.zeroValue3
  t4 := Tryd.underlying4
  a4 := Tryd.isAgg4
  z4 := Tryd.sizeOf4
  v4 := Tryd.zeroValue4
  t5 := Tryd.underlying5
  a5 := Tryd.isAgg5
  z5 := Tryd.sizeOf5
  v5 := Tryd.zeroValue5
  t9 := Tryd.underlying9
  a9 := Tryd.isAgg9
  z9 := Tryd.sizeOf9
  v9 := Tryd.zeroValue9
  t20 := Tryd.underlying20
  a20 := Tryd.isAgg20
  z20 := Tryd.sizeOf20
  v20 := Tryd.zeroValue20
  t37 := Tryd.underlying95
  a37 := Tryd.isAgg95
  z37 := Tryd.sizeOf95
  v37 := Tryd.zeroValue95
  t46 := Tryd.underlying163
  a46 := Tryd.isAgg163
  z46 := Tryd.sizeOf163
  v46 := Tryd.zeroValue163
  t51 := Tryd.underlying160
  a51 := Tryd.isAgg160
  z51 := Tryd.sizeOf160
  v51 := Tryd.zeroValue160
  t53 := Tryd.underlying146
  a53 := Tryd.isAgg146
  z53 := Tryd.sizeOf146
  v53 := Tryd.zeroValue146
  t171 := Tryd.underlying145
  a171 := Tryd.isAgg145
  z171 := Tryd.sizeOf145
  v171 := Tryd.zeroValue145
  t173 := Tryd.underlying149
  a173 := Tryd.isAgg149
  z173 := Tryd.sizeOf149
  v173 := Tryd.zeroValue149
  t212 := Tryd.underlying159
  a212 := Tryd.isAgg159
  z212 := Tryd.sizeOf159
  v212 := Tryd.zeroValue159
  t213 := Tryd.underlying161
  a213 := Tryd.isAgg161
  z213 := Tryd.sizeOf161
  t232 := Tryd.underlying176
  a232 := Tryd.isAgg176
  z232 := Tryd.sizeOf176
  v232 := Tryd.zeroValue176
  t233 := Tryd.underlying177
  a233 := Tryd.isAgg177
  z233 := Tryd.sizeOf177
  v233 := Tryd.zeroValue177
  g17 := by kernel_rfl
  g18 := by kernel_rfl
  g19 := by kernel_rfl
  i0 := by kernel_rfl
  i2 := by kernel_rfl
  i3 := by kernel_rfl
  i4 := by kernel_rfl
  i5 := by kernel_rfl
  i9 := by kernel_rfl
  i20 := by kernel_rfl
  i37 := by kernel_rfl
  i46 := by kernel_rfl
  i51 := by kernel_rfl
  i53 := by kernel_rfl
  i171 := by kernel_rfl
  i173 := by kernel_rfl
  i212 := by kernel_rfl
  i232 := by kernel_rfl
  i233 := by kernel_rfl
  m17 := by kernel_rfl
  m18 := by kernel_rfl
  m19 := by kernel_rfl }

end Go.Proofs

namespace Go.Proofs.YthboippafkcoiaaDoor.am
open Go Go.Proofs Go.RowKit

/-- a contract out of a law on calls: a function that only makes blocks of its own -/
theorem Ctr.ofCalls {f : Nat} {args : List AV} {a : AV} (hc : Callable Tryd.prog f) (h : ∀ (g : Gh) (w : World) (vs : Array Value), MSt g w (ofL []) → vs.size = args.length → (∀ (i : Nat) (v : Value) (a : AV), vs[i]? = some v → args[i]? = some a → Rep g w v a) →
    Calls Tryd.prog f vs w fun e w' => ∃ v, e = .returned v ∧ Below w.heap.size w w' ∧ (Grow g w g w' → MSt g w' (ofLO []) → Rep g w' v a)) : K f args [] (.ret a) [] := by
  refine ⟨hc, fun g w vs hun hm hsz hv => (h g w vs hm hsz hv).mono ?_⟩
  rintro e w' ⟨v, rfl, hb, hR⟩
  have hG : Grow g w g w' := ⟨hb.os, hb.tape, hb.output, hb.size, fun b hk => hb.block b hk.1, fun b hk => hb.block b (hm.xlt b hk), rfl, fun _ h => h, fun _ _ h => .inl h, fun k b e => .inl ⟨k, e⟩⟩
  have hM : MSt g w' (ofLO []) := ⟨fun h b e => (by simp [ofLO] at e), hm.inj, fun k b e => Nat.lt_of_lt_of_le (hm.lt k b e) hb.size, fun b hk => Nat.lt_of_lt_of_le (hm.xlt b hk) hb.size, hm.xl, hm.gl.grow hG⟩
  exact ⟨g, hG, hM, fun k _ l hl => (by have := hun k (Nat.zero_le _); rw [this] at hl; cases hl), hR hG hM⟩
theorem one_arg {vs : Array Value} (h : vs.size = 1) : ∃ v, vs = #[v] := by
  obtain ⟨l⟩ := vs
  match l, h with
  | [v], _ => exact ⟨v, rfl⟩
/-! the table of the powers of ten -/
theorem powTab {g : Gh} {w : World} (h : GL g w) {name : String} (hn : Tryd.prog.globalNamed name = some 1) : Lib.TabIs Tryd.prog w name .u64 Lib.pow10Tab := by
  obtain ⟨_, t, fz, e⟩ := h _ _ ⟨rfl, rfl⟩
  unfold Lib.TabIs World.var?
  rw [hn, Option.bind_some, e]
  rfl

def prnB (n : Int) : ByteArray := ⟨(ws.prn n).toArray⟩
theorem decDigits_dig (u : Nat) : Lib.decDigits u = ws.dig u := by
  induction u using Nat.strongRecOn with
  | _ u ih =>
    by_cases h : u < 10
    · rw [Lib.decDigits, dif_pos h, ws.dig_small h]; rfl
    · rw [Lib.decDigits, dif_neg h, ws.dig_big h, ih (u / 10) (by omega)]; rfl
theorem itoa_prn (n : Int) : Lib.itoa n = ws.prn n := by
  unfold Lib.itoa ws.prn
  split
  · rw [decDigits_dig, show n.natAbs = (-n).toNat by omega]
  · rw [decDigits_dig]
theorem prn_len {n : Int} (h1 : -9223372036854775808 ≤ n) (h2 : n ≤ 9223372036854775807) : (prnB n).size ≤ 21 := by
  show (ws.prn n).toArray.size ≤ 21
  rw [List.size_toArray, ← itoa_prn]
  exact Lib.itoa_length_le n h1 h2
theorem k_itoa (n : Int) : K 36 [.tr (ti n)] [] (.ret (.tr (ts (prnB n)))) [] := by
  refine Ctr.ofCalls (fun _ _ => by kernel_rfl) fun g w vs hm hsz hv => ?_
  obtain ⟨v, rfl⟩ := one_arg hsz
  obtain ⟨rfl, h1, h2⟩ := val_inv (hv 0 v (.tr (ti n)) rfl rfl)
  refine (Any.strconv_Itoa Tryd.laysM171 n h1 h2 w (powTab hm.gl (by kernel_rfl))).mono ?_
  rintro e w' ⟨rfl, k, os, rfl⟩
  rw [itoa_prn]
  exact ⟨_, rfl, Lib.below_grow _ _ (Nat.le_refl _) _ _, fun _ _ => .tr (.v (Nat.le_trans (prn_len h1 h2) (by omega)))⟩
end Go.Proofs.YthboippafkcoiaaDoor.am

namespace Go.Proofs.YthboippafkcoiaaDoor.am
open Go Go.Proofs
set_option linter.all false

theorem prn_0 : prnB 0 = ⟨#[48]⟩ := by unfold prnB ws.prn; rw [if_neg (by decide), show (0 : Int).toNat = 0 from rfl, ws.dig_small (by decide)]; rfl
theorem prn_1 : prnB 1 = ⟨#[49]⟩ := by unfold prnB ws.prn; rw [if_neg (by decide), show (1 : Int).toNat = 1 from rfl, ws.dig_small (by decide)]; rfl
theorem prn_2 : prnB 2 = ⟨#[50]⟩ := by unfold prnB ws.prn; rw [if_neg (by decide), show (2 : Int).toNat = 2 from rfl, ws.dig_small (by decide)]; rfl
theorem k_itoa0 : K 36 [.tr (ti 0)] [] (.ret (.tr (ts ⟨#[48]⟩))) [] := by have := k_itoa 0; rwa [prn_0] at this
theorem k_itoa1 : K 36 [.tr (ti 1)] [] (.ret (.tr (ts ⟨#[49]⟩))) [] := by have := k_itoa 1; rwa [prn_1] at this
theorem k_itoa2 : K 36 [.tr (ti 2)] [] (.ret (.tr (ts ⟨#[50]⟩))) [] := by have := k_itoa 2; rwa [prn_2] at this
set_option maxRecDepth 100000 in
theorem k_slot0T : K 79 [.tr (ti 0)] [] (.ret (.tr (ts ⟨#[115, 48]⟩))) [] := by
  refine Ctr.of hT hmix Tryd.func79 rfl (fun _ _ => by kernel_rfl) rfl fun hok => ?_
  clear hok
  conv => whnf
  refine acall.pure _ (k_itoa0) rfl rfl fun _ => ?_
  conv => whnf
  refine ⟨by decide, ?_⟩
  conv => whnf
  exact ⟨.inl (congrArg ts (by kernel_rfl)), trivial⟩
set_option maxRecDepth 100000 in
theorem k_valS0 : K 80 [valA true 0 0] [] (.ret (.tr (ts ⟨#[115, 48]⟩))) [] := by
  refine Ctr.of hT hmix Tryd.func80 rfl (fun _ _ => by kernel_rfl) rfl fun hok => ?_
  clear hok
  conv => whnf
  refine acall.pure _ (k_slot0T) rfl rfl fun _ => ?_
  conv => whnf
  exact ⟨.inl rfl, trivial⟩
def u0 : Un := ⟨p0.shared, [], [g0]⟩
set_option maxRecDepth 100000 in
theorem k_thing0 : K 78 [.ptr 0 0, .ptr 1 0] [.cells 54 (nd0a.cells.map .tr), .cells 29 (u0.cells.map .tr)] (.ret (.tr (ts xS))) [some (.cells 54 (nd0a.cells.map .tr)), some (.cells 29 (u0.cells.map .tr))] := by
  refine Ctr.of hT hmix Tryd.func78 rfl (fun _ _ => by kernel_rfl) rfl fun hok => ?_
  clear hok
  conv => whnf
  refine ⟨rfl, by decide, by decide, fun row hrow => ?_⟩
  obtain rfl : Decl.cells ⟨xS, 0, 0⟩ = row := Option.some.inj hrow
  clear hrow
  conv => whnf
  exact ⟨.inl rfl, ⟨rfl, .inl rfl, .inl rfl, .inl rfl, .inl rfl, .inl rfl, .inl rfl, .inl rfl, .inl rfl, .inl rfl, .inl rfl, .inl rfl, .inl rfl, .inl rfl, trivial⟩, ⟨rfl, .inl rfl, .inl rfl, .inl rfl, trivial⟩, trivial⟩
set_option maxRecDepth 100000 in
theorem k_does2 : K 58 [u0.av, en0.av] [] (.ret (.tr (ts ⟨#[101, 110, 100]⟩))) [] := by
  refine Ctr.of hT hmix Tryd.func58 rfl (fun _ _ => by kernel_rfl) rfl fun hok => ?_
  clear hok
  conv => whnf
  exact ⟨.inl rfl, trivial⟩
set_option maxRecDepth 100000 in
theorem k_does1 : K 58 [u0.av, br0e.av] [] (.ret (.tr (ts ⟨#[98, 114, 97, 110, 99, 104, 32, 115, 48]⟩))) [] := by
  refine Ctr.of hT hmix Tryd.func58 rfl (fun _ _ => by kernel_rfl) rfl fun hok => ?_
  clear hok
  conv => whnf
  refine acall.pure _ (k_valS0) rfl rfl fun _ => ?_
  conv => whnf
  refine ⟨by decide, ?_⟩
  conv => whnf
  exact ⟨.inl (congrArg ts (by kernel_rfl)), trivial⟩
set_option maxRecDepth 100000 in
theorem k_does0 : K 58 [u0.av, nd0a.av] [] (.ret (.tr (ts ⟨#[115, 48, 32, 61, 32, 120]⟩))) [] := by
  refine Ctr.of hT hmix Tryd.func58 rfl (fun _ _ => by kernel_rfl) rfl fun hok => ?_
  clear hok
  conv => whnf
  refine acall.pure _ (k_slot0T) rfl rfl fun _ => ?_
  conv => whnf
  refine ⟨by decide, ?_⟩
  conv => whnf
  refine acall.au [1, 0] [] (k_thing0) ?_
  intro _
  conv => whnf
  refine ⟨by decide, ?_⟩
  conv => whnf
  exact ⟨.inl (congrArg ts (by kernel_rfl)), trivial⟩
set_option maxRecDepth 100000 in
theorem k_text0 : K 37 [u0.av, nd0a.av] [] (.ret (.tr (ts ⟨#[115, 48, 32, 61, 32, 120, 32, 45, 62, 32, 49]⟩))) [] := by
  refine Ctr.of hT hmix Tryd.func37 rfl (fun _ _ => by kernel_rfl) rfl fun hok => ?_
  clear hok
  conv => whnf
  refine acall.pure _ (k_does0) rfl rfl fun _ => ?_
  conv => whnf
  refine acall.pure _ (k_itoa1) rfl rfl fun _ => ?_
  conv => whnf
  refine ⟨by decide, ?_⟩
  conv => whnf
  refine ⟨by decide, ?_⟩
  conv => whnf
  exact ⟨.inl (congrArg ts (by kernel_rfl)), trivial⟩
set_option maxRecDepth 100000 in
theorem k_text1 : K 37 [u0.av, br0e.av] [] (.ret (.tr (ts ⟨#[98, 114, 97, 110, 99, 104, 32, 115, 48, 32, 45, 62, 32, 48, 32, 50]⟩))) [] := by
  refine Ctr.of hT hmix Tryd.func37 rfl (fun _ _ => by kernel_rfl) rfl fun hok => ?_
  clear hok
  conv => whnf
  refine acall.pure _ (k_does1) rfl rfl fun _ => ?_
  conv => whnf
  refine acall.pure _ (k_itoa0) rfl rfl fun _ => ?_
  conv => whnf
  refine ⟨by decide, ?_⟩
  conv => whnf
  refine ⟨by decide, ?_⟩
  conv => whnf
  refine acall.pure _ (k_itoa2) rfl rfl fun _ => ?_
  conv => whnf
  refine ⟨by decide, ?_⟩
  conv => whnf
  refine ⟨by decide, ?_⟩
  conv => whnf
  exact ⟨.inl (congrArg ts (by kernel_rfl)), trivial⟩
set_option maxRecDepth 100000 in
theorem k_text2 : K 37 [u0.av, en0.av] [] (.ret (.tr (ts ⟨#[101, 110, 100]⟩))) [] := by
  refine Ctr.of hT hmix Tryd.func37 rfl (fun _ _ => by kernel_rfl) rfl fun hok => ?_
  clear hok
  conv => whnf
  refine acall.pure _ (k_does2) rfl rfl fun _ => ?_
  conv => whnf
  exact ⟨.inl (congrArg ts (by kernel_rfl)), trivial⟩
def prP : Nat → List UInt8
  | 0 => [116, 104, 114, 101, 97, 100, 32, 97, 10]
  | 1 => [116, 104, 114, 101, 97, 100, 32, 97, 10, 48, 32, 115, 48, 32, 61, 32, 120, 32, 45, 62, 32, 49, 10]
  | 2 => [116, 104, 114, 101, 97, 100, 32, 97, 10, 48, 32, 115, 48, 32, 61, 32, 120, 32, 45, 62, 32, 49, 10, 49, 32, 98, 114, 97, 110, 99, 104, 32, 115, 48, 32, 45, 62, 32, 48, 32, 50, 10]
  | _ => [116, 104, 114, 101, 97, 100, 32, 97, 10, 48, 32, 115, 48, 32, 61, 32, 120, 32, 45, 62, 32, 49, 10, 49, 32, 98, 114, 97, 110, 99, 104, 32, 115, 48, 32, 45, 62, 32, 48, 32, 50, 10, 50, 32, 101, 110, 100, 10]
abbrev prB (l : List UInt8) : Blk := .vec 5 1 1 (brows l)
set_option maxRecDepth 100000 in
theorem k_print0 : K 20 [u0.av] [] (.ret (.tup [.tr (ts ⟨#[116, 104, 114, 101, 97, 100, 32, 97, 10, 48, 32, 115, 48, 32, 61, 32, 120, 32, 45, 62, 32, 49, 10, 49, 32, 98, 114, 97, 110, 99, 104, 32, 115, 48, 32, 45, 62, 32, 48, 32, 50, 10, 50, 32, 101, 110, 100, 10]⟩), .tr (ti 0)])) [] := by
  have hch := k_check u0
  rw [show (checkU u0).1 = 0 from by kernel_rfl, show (checkU u0).2.1 = 0 from by kernel_rfl, show (checkU u0).2.2 = 0 from by kernel_rfl] at hch
  refine Ctr.of hT hmix Tryd.func20 rfl (fun _ _ => by kernel_rfl) rfl fun hok => ?_
  clear hok
  conv => whnf
  refine acall.pure _ (hch) rfl rfl fun _ => ?_
  conv => whnf
  refine .inl ⟨2, ?_⟩
  conv => whnf
  refine ⟨rfl, Int.le_refl _, (by decide), fun row hrow => ?_⟩
  obtain rfl : Gr.cells g0 = row := Option.some.inj hrow
  clear hrow
  conv => whnf
  refine ⟨by decide, ?_⟩
  conv => whnf
  refine ⟨by decide, ?_⟩
  conv => whnf
  refine ⟨by decide, ?_⟩
  conv => whnf
  refine LoopL.by (fun i : Nat => ⟨[(1, .ptr 0 0), (7, .sl 1 (prP i).length), (22, .tr (graphsT [g0])), (23, .tr (ti 1)), (24, .tr (ti 0)), (35, .tr (nodesT g0.nodes)), (36, .tr (ti 3)), (37, .tr (ti (i : Nat)))], [(0, .cells 29 (u0.cells.map .tr)), (1, prB (prP i))], 10⟩) (fun i => i ≤ 3) (fun i => 3 - i) 0 [_, _] []
    (Sub.mk' rfl ⟨⟨rfl, rfl⟩, ⟨rfl, rfl⟩, .inl rfl, .inl rfl, .inl rfl, .inl rfl, .inl rfl, .inl rfl, trivial⟩ ⟨⟨rfl, .inl rfl, .inl rfl, .inl rfl, trivial⟩, ⟨rfl, rfl, rfl, rfl⟩, trivial⟩ rfl rfl) (Nat.zero_le _) ?_
  rintro i hi -
  have hi4 : i = 0 ∨ i = 1 ∨ i = 2 ∨ i = 3 := by omega
  clear hi
  rcases hi4 with rfl | rfl | rfl | rfl
  · conv => whnf
    refine ⟨rfl, by decide, by decide, fun row hrow => ?_⟩
    obtain rfl : Nd.cells nd0a = row := Option.some.inj hrow
    clear hrow
    conv => whnf
    refine acall.pure _ (k_itoa0) rfl rfl ?_
    conv => whnf
    refine ⟨by decide, ?_⟩
    conv => whnf
    refine acall.pure _ (k_text0) rfl rfl ?_
    conv => whnf
    refine ⟨by decide, ?_⟩
    conv => whnf
    refine ⟨by decide, ?_⟩
    conv => whnf
    refine ⟨rfl, rfl, rfl, by decide, by decide, ?_⟩
    conv => whnf
    refine ⟨by kernel_rfl, fun _ => ?_⟩
    conv => whnf
    exact ⟨1, [0, _], [], Sub.mk' rfl ⟨⟨rfl, rfl⟩, ⟨rfl, by kernel_rfl⟩, .inl rfl, .inl rfl, .inl rfl, .inl rfl, .inl rfl, .inl rfl, trivial⟩ ⟨⟨rfl, .inl rfl, .inl rfl, .inl rfl, trivial⟩, ⟨rfl, rfl, rfl, by kernel_rfl⟩, trivial⟩ rfl rfl, by decide, by decide⟩
  · conv => whnf
    refine ⟨rfl, by decide, by decide, fun row hrow => ?_⟩
    obtain rfl : Nd.cells br0e = row := Option.some.inj hrow
    clear hrow
    conv => whnf
    refine acall.pure _ (k_itoa1) rfl rfl ?_
    conv => whnf
    refine ⟨by decide, ?_⟩
    conv => whnf
    refine acall.pure _ (k_text1) rfl rfl ?_
    conv => whnf
    refine ⟨by decide, ?_⟩
    conv => whnf
    refine ⟨by decide, ?_⟩
    conv => whnf
    refine ⟨rfl, rfl, rfl, by decide, by decide, ?_⟩
    conv => whnf
    refine ⟨by kernel_rfl, fun _ => ?_⟩
    conv => whnf
    exact ⟨2, [0, _], [], Sub.mk' rfl ⟨⟨rfl, rfl⟩, ⟨rfl, by kernel_rfl⟩, .inl rfl, .inl rfl, .inl rfl, .inl rfl, .inl rfl, .inl rfl, trivial⟩ ⟨⟨rfl, .inl rfl, .inl rfl, .inl rfl, trivial⟩, ⟨rfl, rfl, rfl, by kernel_rfl⟩, trivial⟩ rfl rfl, by decide, by decide⟩
  · conv => whnf
    refine ⟨rfl, by decide, by decide, fun row hrow => ?_⟩
    obtain rfl : Nd.cells en0 = row := Option.some.inj hrow
    clear hrow
    conv => whnf
    refine acall.pure _ (k_itoa2) rfl rfl ?_
    conv => whnf
    refine ⟨by decide, ?_⟩
    conv => whnf
    refine acall.pure _ (k_text2) rfl rfl ?_
    conv => whnf
    refine ⟨by decide, ?_⟩
    conv => whnf
    refine ⟨by decide, ?_⟩
    conv => whnf
    refine ⟨rfl, rfl, rfl, by decide, by decide, ?_⟩
    conv => whnf
    refine ⟨by kernel_rfl, fun _ => ?_⟩
    conv => whnf
    exact ⟨3, [0, _], [], Sub.mk' rfl ⟨⟨rfl, rfl⟩, ⟨rfl, by kernel_rfl⟩, .inl rfl, .inl rfl, .inl rfl, .inl rfl, .inl rfl, .inl rfl, trivial⟩ ⟨⟨rfl, .inl rfl, .inl rfl, .inl rfl, trivial⟩, ⟨rfl, rfl, rfl, by kernel_rfl⟩, trivial⟩ rfl rfl, by decide, by decide⟩
  · conv => whnf
    refine ⟨fun _ => ?_, fun h => absurd rfl h⟩
    conv => whnf
    refine ⟨fun _ => ?_, fun h => absurd rfl h⟩
    conv => whnf
    refine ⟨prP 3, by kernel_rfl, by decide, ?_⟩
    conv => whnf
    exact ⟨⟨.inl (congrArg ts (by kernel_rfl)), .inl rfl, trivial⟩, trivial⟩
end Go.Proofs.YthboippafkcoiaaDoor.am

namespace Go.Proofs.YthboippafkcoiaaDoor.am
open Go Go.Proofs
set_option linter.all false

theorem f0_0 : fol g0 0 = [1] := by kernel_rfl
theorem f0_1 : fol g0 1 = [0, 2] := by kernel_rfl
theorem f0_2 : fol g0 2 = [] := by kernel_rfl
theorem f0_n (n : Nat) : fol g0 (n + 3) = [] := by
  unfold fol
  rw [List.getElem?_eq_none (show g0.nodes.length ≤ n + 3 from Nat.le_add_left 3 n)]
theorem f0_lt : ∀ a, ∀ b ∈ fol g0 a, b < 3
  | 0, b, h => by rw [f0_0] at h; simp at h; omega
  | 1, b, h => by rw [f0_1] at h; simp at h; omega
  | 2, b, h => by rw [f0_2] at h; cases h
  | n + 3, b, h => by rw [f0_n] at h; cases h
theorem r0_0 {c : Int} : Rch (fol g0) c 0 := .zero
theorem r0_1 {c : Int} (h : c ≠ 0) : Rch (fol g0) c 1 := .step .zero (fun w => h w.symm) (by rw [f0_0]; simp)
theorem r0_2 : Rch (fol g0) (-1) 2 := .step (r0_1 (by decide)) (by decide) (by rw [f0_1]; simp)
theorem d01 : Dm (fol g0) 0 1 := dm_zero (r0_1 (by decide))
theorem d12 : Dm (fol g0) 1 2 := by
  refine ⟨r0_1 (by decide), r0_2, .inr fun h => ?_⟩
  have : ∀ y, Rch (fol g0) ((1 : Nat) : Int) y → y = 0 ∨ y = 1 := fun y hy => by
    induction hy with
    | zero => exact .inl rfl
    | step _ h1 h2 ih =>
      rcases ih with rfl | rfl
      · rw [f0_0] at h2; simp at h2; exact .inr h2
      · exact absurd rfl h1
  rcases this 2 h with w | w <;> cases w
theorem nd21 : ¬ Dm (fol g0) 2 1 := fun h => h.2.2.elim (fun w => by cases w) fun w => w (r0_1 (by decide))
theorem nd10 : ¬ Dm (fol g0) 1 0 := not_dm_zero (by decide)
theorem lt0 {c x : Nat} (h : Dm (fol g0) c x) : c = 0 ∨ c = 1 ∨ c = 2 := by
  have := h.1.lt (N := 3) (by decide) f0_lt
  omega
theorem idom0 : idomL (fol g0) 3 = [-1, 0, 1] := by
  have e := fun x v h => idomI_eq (fol := fol g0) (N := 3) (by decide) f0_lt (x := x) (v := v) h
  show [idomI (fol g0) 0, idomI (fol g0) 1, idomI (fol g0) 2] = _
  rw [e 0 (-1) (.inl ⟨rfl, .inl rfl⟩), e 1 0 (.inr ⟨by decide, 0, rfl, by decide, d01, fun c hc hd => ?_⟩), e 2 1 (.inr ⟨by decide, 1, rfl, by decide, d12, fun c hc hd => ?_⟩)]
  · rcases lt0 hd with rfl | rfl | rfl
    · exact d01
    · exact dm_refl (r0_1 (by decide))
    · exact absurd rfl hc
  · rcases lt0 hd with rfl | rfl | rfl
    · exact dm_refl r0_0
    · exact absurd rfl hc
    · exact absurd hd nd21
theorem in00 : InLoop (fol g0) 0 0 := ⟨⟨1, d01, by rw [f0_1]; simp⟩, .inl rfl⟩
theorem in01 : InLoop (fol g0) 0 1 := ⟨⟨1, d01, by rw [f0_1]; simp⟩, .inr (.back d01 (by rw [f0_1]; simp) (by decide))⟩
theorem nin02 : ¬ InLoop (fol g0) 0 2 := fun h => h.2.elim (fun w => by cases w) fun w => by
  cases w with
  | back _ h2 _ => rw [f0_2] at h2; cases h2
  | pre _ h2 _ _ => rw [f0_2] at h2; cases h2
theorem nback1 : ¬ HasBack (fol g0) 1 := fun ⟨a, h1, h2⟩ => by
  match a, h1, h2 with
  | 0, h1, _ => exact nd10 h1
  | 1, _, h2 => rw [f0_1] at h2; simp at h2
  | 2, _, h2 => rw [f0_2] at h2; cases h2
  | n + 3, _, h2 => rw [f0_n] at h2; cases h2
theorem nback2 : ¬ HasBack (fol g0) 2 := fun ⟨a, h1, h2⟩ => by
  match a, h1, h2 with
  | 0, _, h2 => rw [f0_0] at h2; simp at h2
  | 1, h1, _ => exact nd21 h1
  | 2, _, h2 => rw [f0_2] at h2; cases h2
  | n + 3, _, h2 => rw [f0_n] at h2; cases h2
theorem depth0 : depthL (fol g0) 3 = [1, 1, 0] := by
  have z : ∀ n, depthN (fol g0) 0 n = 0 := fun n => by simp [depthN]
  have s : ∀ n, depthN (fol g0) 3 n = depthN (fol g0) 1 n := fun n => by
    rw [depthN_succ, depthN_succ, if_neg fun w => nback1 w.1, if_neg fun w => nback2 w.1]; rfl
  show [depthN (fol g0) 3 0, depthN (fol g0) 3 1, depthN (fol g0) 3 2] = _
  rw [s, s, s, depthN_succ, depthN_succ, depthN_succ, z, z, z, if_pos in00, if_pos in01, if_neg nin02]
end Go.Proofs.YthboippafkcoiaaDoor.am

namespace Go.Proofs.YthboippafkcoiaaDoor.am
open Go Go.Proofs
set_option linter.all false

set_option maxRecDepth 100000 in
theorem k_rsame (l l' : List Int) : K 26 [.tr (intsT l), .tr (intsT l')] [] (.ret (.tr (tb (eqI2 l l')))) [] := by
  have h1 : (l.map irow).length = l.length := List.length_map ..
  have h2 : (l'.map irow).length = l'.length := List.length_map ..
  refine Ctr.of hT hmix Tryd.func26 rfl (fun _ _ => by kernel_rfl) rfl fun hok => ?_
  obtain ⟨_, hl1, _⟩ := (hok.slot 0 rfl).tr.lst
  rw [List.length_map] at hl1
  clear hok
  conv => whnf
  cases hc : (((l.map irow).length : Int) != ((l'.map irow).length : Int)) with
  | true =>
    conv => whnf
    exact ⟨.inl (congrArg tb (by rw [h1, h2] at hc; unfold eqI2; rw [hc]; rfl)), trivial⟩
  | false =>
  have hE : eqI2 l l' = eqI l l' := by rw [h1, h2] at hc; unfold eqI2; rw [hc]; rfl
  have hll : l.length = l'.length := by
    rw [h1, h2] at hc
    refine Classical.byContradiction fun w => ?_
    rw [bne_iff_ne.2 (fun e => w (by omega))] at hc
    cases hc
  rw [hE]
  generalize hR : eqI l l' = R
  clear hE hc
  conv => whnf
  refine LoopL.by (fun i : Nat => ⟨[(0, .tr (intsT l)), (1, .tr (intsT l')), (5, .tr (ti i))], [], 10⟩) (fun i => i ≤ l.length ∧ R = eqI (l.drop i) (l'.drop i)) (fun i => l.length - i) 0 [] []
    (Sub.mk' rfl ⟨.inl rfl, .inl rfl, .inl rfl, trivial⟩ trivial rfl rfl) ⟨Nat.zero_le _, hR.symm⟩ ?_
  clear hR
  rintro i ⟨hi, hR⟩ -
  conv => whnf
  refine csplit (fun hit => ?_) (fun hit => ?_)
  · have hit : i < l.length := by have : decide ((i : Int) < ((l.map irow).length : Int)) = true := hit; have := of_decide_eq_true this; omega
    obtain ⟨a, ha⟩ : ∃ a, l[i]? = some a := ⟨_, List.getElem?_eq_getElem hit⟩
    obtain ⟨b, hb⟩ : ∃ b, l'[i]? = some b := ⟨_, List.getElem?_eq_getElem (by omega)⟩
    rw [drop_cons ha, drop_cons hb] at hR
    conv => whnf
    refine ⟨rfl, (show (0 : Int) ≤ i by omega), (show (i : Int) < ((l.map irow).length : Int) by omega), fun row hrow => ?_⟩
    obtain ⟨d, hd, rfl⟩ := int_get hrow
    obtain rfl := Option.some.inj (ha.symm.trans hd)
    clear hrow hd
    conv => whnf
    refine ⟨rfl, (show (0 : Int) ≤ i by omega), (show (i : Int) < ((l'.map irow).length : Int) by omega), fun row hrow => ?_⟩
    obtain ⟨d, hd, rfl⟩ := int_get hrow
    obtain rfl := Option.some.inj (hb.symm.trans hd)
    clear hrow hd
    conv => whnf
    refine ⟨by kernel_rfl, fun _ => ?_⟩
    conv => whnf
    cases hab : (a != b) with
    | true =>
      conv => whnf
      exact ⟨.inl (by rw [hR]; show tb false = tb (bif a != b then false else _); rw [hab]; rfl), trivial⟩
    | false =>
      replace hR : R = eqI (l.drop (i + 1)) (l'.drop (i + 1)) := by rw [hR]; show (bif a != b then false else _) = _; rw [hab]; rfl
      conv => whnf
      exact ⟨i + 1, [], [], Sub.mk' rfl ⟨.inl rfl, .inl rfl, .inl (ti_succ hit (by omega)), trivial⟩ trivial rfl rfl, ⟨hit, hR⟩, by show l.length - (i + 1) < l.length - i; omega⟩
  have hit : l.length ≤ i := by have : decide ((i : Int) < ((l.map irow).length : Int)) = false := hit; have := of_decide_eq_false this; omega
  rw [List.drop_of_length_le hit, List.drop_of_length_le (by omega)] at hR
  conv => whnf
  refine ⟨fun _ => ?_, fun h => absurd rfl h⟩
  conv => whnf
  exact ⟨.inl (by rw [hR]; rfl), trivial⟩
set_option maxRecDepth 100000 in
theorem k_ints (l l' : List Int) : K 10 [.tr (intsT l), .tr (intsT l')] [] (.ret (.tr (tb (eqI2 l l')))) [] := by
  have h := k_rsame l l'
  refine Ctr.of hT hmix Tryd.func10 rfl (fun _ _ => by kernel_rfl) rfl fun hok => ?_
  clear hok
  conv => whnf
  refine acall.pure _ (h) rfl rfl fun _ => ?_
  conv => whnf
  exact ⟨.inl rfl, trivial⟩
def prS : ByteArray := ⟨(prP 3).toArray⟩
set_option maxRecDepth 100000 in
theorem k_begins : K 7 [] [] (.ret (.tr (tb true))) [] := by
  have hlo := k_loop0
  have hlw := k_lower0
  have hch := k_check u0
  rw [show (checkU u0).1 = 0 from by kernel_rfl, show (checkU u0).2.1 = 0 from by kernel_rfl, show (checkU u0).2.2 = 0 from by kernel_rfl] at hch
  have hpr := k_print0
  obtain ⟨S, hS⟩ : ∃ S : ByteArray, S = ⟨#[116, 104, 114, 101, 97, 100, 32, 97, 10, 48, 32, 115, 48, 32, 61, 32, 120, 32, 45, 62, 32, 49, 10, 49, 32, 98, 114, 97, 110, 99, 104, 32, 115, 48, 32, 45, 62, 32, 48, 32, 50, 10, 50, 32, 101, 110, 100, 10]⟩ := ⟨_, rfl⟩
  replace hpr : K 20 [u0.av] [] (.ret (.tup [.tr (ts S), .tr (ti 0)])) [] := by rw [hS]; exact hpr
  have e : (S.toList == ByteArray.toList ⟨#[116, 104, 114, 101, 97, 100, 32, 97, 10, 48, 32, 115, 48, 32, 61, 32, 120, 32, 45, 62, 32, 49, 10, 49, 32, 98, 114, 97, 110, 99, 104, 32, 115, 48, 32, 45, 62, 32, 48, 32, 50, 10, 50, 32, 101, 110, 100, 10]⟩) = true := by rw [hS]; exact beq_self_eq_true _
  clear hS
  have hdp := k_depth g0 (by kernel_rfl)
  rw [show g0.nodes.length = 3 from rfl, depth0] at hdp
  have hdo := k_dominators g0 (by kernel_rfl)
  rw [show g0.nodes.length = 3 from rfl, idom0] at hdo
  have hi1 := k_ints [1, 1, 0] [1, 1, 0]
  rw [show eqI2 [1, 1, 0] [1, 1, 0] = true from by kernel_rfl] at hi1
  have hi2 := k_ints [-1, 0, 1] [-1, 0, 1]
  rw [show eqI2 [-1, 0, 1] [-1, 0, 1] = true from by kernel_rfl] at hi2
  refine Ctr.cut [6] hT hmix Tryd.func7 rfl (fun _ _ => by kernel_rfl) rfl fun hok => ?_
  clear hok
  conv => whnf
  refine acall.pure _ (hlo) rfl rfl fun _ => ?_
  conv => whnf
  refine acall.pure _ (hlw) rfl rfl fun _ => ?_
  conv => whnf
  refine acall.pure _ (hch) rfl rfl fun _ => ?_
  conv => whnf
  refine acall.pure _ (hpr) rfl rfl fun _ => ?_
  conv => whnf
  refine CutL.by (fun _ : Unit => ⟨[(0, .tr (tb false)), (1, .ptr 0 0)], [(0, .cells 29 (u0.cells.map .tr))], 10⟩) (fun _ => True) ?_ ?_
  · conv => whnf
    rw [e]
    conv => whnf
    exact ⟨(), [_], [], Sub.mk' rfl ⟨.inl rfl, ⟨rfl, rfl⟩, trivial⟩ ⟨⟨rfl, .inl rfl, .inl rfl, .inl rfl, trivial⟩, trivial⟩ rfl rfl, trivial⟩
  rintro - - -
  conv => whnf
  refine ⟨rfl, Int.le_refl _, (by decide), fun row hrow => ?_⟩
  obtain rfl : Gr.cells g0 = row := Option.some.inj hrow
  clear hrow
  conv => whnf
  refine acall.pure _ (hdp) rfl rfl fun _ => ?_
  conv => whnf
  refine acall.au [] [15] (hi1) ?_
  intro _
  conv => whnf
  refine ⟨rfl, Int.le_refl _, (by decide), fun row hrow => ?_⟩
  obtain rfl : Gr.cells g0 = row := Option.some.inj hrow
  clear hrow
  conv => whnf
  refine acall.pure _ (hdo) rfl rfl fun _ => ?_
  conv => whnf
  refine acall.au [] [23] (hi2) ?_
  intro _
  conv => whnf
  exact ⟨.inl rfl, trivial⟩
end Go.Proofs.YthboippafkcoiaaDoor.am

namespace Go.Proofs.YthboippafkcoiaaDoor.am
open Go Go.Proofs
set_option linter.all false

def rfolI (n : Nd) : List Int := bif n.kind == 9 then [] else bif n.kind == 8 then [n.next, n.els] else [n.next]
set_option maxRecDepth 100000 in
theorem k_rfollows (n : Nd) : K 18 [n.av] [] (.ret (.tr (intsT (rfolI n)))) [] := by
  refine Ctr.of hT hmix Tryd.func18 rfl (fun _ _ => by kernel_rfl) rfl fun hok => ?_
  clear hok
  conv => whnf
  cases h1 : (n.kind == 9) with
  | true =>
    conv => whnf
    exact ⟨.inr ⟨rfl, 1, 8, by unfold rfolI; rw [h1]; rfl⟩, trivial⟩
  | false =>
  conv => whnf
  cases h2 : (n.kind == 8) with
  | true =>
    conv => whnf
    exact ⟨⟨rfl, Nat.le_refl _, by unfold rfolI; rw [h1, h2]; rfl⟩, trivial⟩
  | false =>
    conv => whnf
    exact ⟨⟨rfl, Nat.le_refl _, by unfold rfolI; rw [h1, h2]; rfl⟩, trivial⟩
end Go.Proofs.YthboippafkcoiaaDoor.am

namespace Go.Proofs.YthboippafkcoiaaDoor.am
open Go Go.Proofs
set_option linter.all false

def thereB (l : List Int) (i : Nat) : Bool := l.any fun x => x == (i : Int)
theorem there_take {l : List Int} {i j : Nat} {x : Int} (h : l[j]? = some x) : thereB (l.take (j + 1)) i = (thereB (l.take j) i || (x == (i : Int))) := by
  unfold thereB
  rw [List.take_succ, h, List.any_append]; simp
theorem ti_add {a b : Nat} (h : a + b ≤ 9223372036854775807) : ti (IntKind.i64.wrap ((a : Int) + (b : Int))) = ti ((a + b : Nat) : Int) := by
  have : IntKind.i64.wrap ((a : Int) + (b : Int)) = (a : Int) + (b : Int) := w64 (by omega) (by omega)
  rw [this]
  congr 1
theorem ti_sub {a b : Nat} (h : b ≤ a) (ha : a ≤ 9223372036854775807) : ti (IntKind.i64.wrap ((a : Int) - (b : Int))) = ti ((a - b : Nat) : Int) := by
  have : IntKind.i64.wrap ((a : Int) - (b : Int)) = (a : Int) - (b : Int) := w64 (by omega) (by omega)
  rw [this]
  congr 1
  omega
set_option maxRecDepth 100000 in
theorem k_cahead0 (g : Gr) (hW : wholeB g = false) : K 6 [g.av] [] (.ret (.tr (tb true))) [] := by
  have ha := k_ahead0 g hW
  have hre := k_reached0 g hW
  have hbe := k_begins
  refine Ctr.of hT hmix Tryd.func6 rfl (fun _ _ => by kernel_rfl) rfl fun hok => ?_
  clear hok
  conv => whnf
  refine acall.pure _ (hbe) rfl rfl fun _ => ?_
  conv => whnf
  refine acall.pure _ (ha) rfl rfl fun _ => ?_
  conv => whnf
  refine acall.pure _ (hre) rfl rfl fun _ => ?_
  conv => whnf
  exact ⟨.inl rfl, trivial⟩
theorem folI_rfolI (n : Nd) : (folI n = [] ∧ rfolI n = []) ∨ (∃ x, folI n = [x] ∧ rfolI n = [x]) ∨ (∃ x, folI n = [x] ∧ rfolI n = [x, x]) ∨ ∃ x y, y ≠ x ∧ folI n = [x, y] ∧ rfolI n = [x, y] := by
  unfold folI rfolI
  cases h9 : (n.kind == 9) with
  | true => exact .inl ⟨rfl, rfl⟩
  | false =>
  cases h8 : (n.kind == 8) with
  | false => exact .inr (.inl ⟨_, rfl, rfl⟩)
  | true =>
  cases he : (n.els != n.next) with
  | true => exact .inr (.inr (.inr ⟨_, _, bne_iff_ne.1 he, rfl, rfl⟩))
  | false =>
    have : n.els = n.next := by simpa [bne] using he
    exact .inr (.inr (.inl ⟨n.next, rfl, by rw [this]; rfl⟩))
set_option maxRecDepth 100000 in
set_option maxHeartbeats 4000000 in
theorem k_cahead1 (g : Gr) (hW : wholeB g = true) : K 6 [g.av] [] (.ret (.tr (tb true))) [] := by
  have ha := k_ahead g hW
  have hre := k_reached g hW
  have hbe := k_begins
  have hWh := whole_of hW
  have hpos := hWh.pos
  have hmo := hWh.most
  have hany := fun i hi => anyB_reached (fol := fol g) (N := g.nodes.length) (i := i) hpos hWh.lt hi
  have hrl : (rchL (fol g) (-1) g.nodes.length).length = g.nodes.length := rchL_len
  have hal : ∀ x, x < g.nodes.length → (aheadL (fol g) g.nodes.length)[x]? = some (aheadN (fol g) g.nodes.length x) := fun x hx => by simp [aheadL, hx]
  have hall : (aheadL (fol g) g.nodes.length).length = g.nodes.length := by simp [aheadL]
  have hsA := sumA_succ (fol g) g.nodes.length
  have hsF := sumF_succ (fol g)
  have hs2 := sum_two (fol := fol g) (N := g.nodes.length) hWh.nd hWh.lt
  have hsle := fun i => sumA_le (fol := fol g) (N := g.nodes.length) i
  have hsm := fun i j h => sumF_mono (fol := fol g) (i := i) (j := j) h
  have hmem := fun x a => mem_aheadN (fol := fol g) (n := g.nodes.length) (k := x) (i := a)
  have hsrt := fun x j a b => aheadN_lt (fol := fol g) (n := g.nodes.length) (k := x) (j := j) (a := a) (b := b)
  have hfI := hWh.fol
  have hlen := fun x => aheadN_len (fol := fol g) (n := g.nodes.length) (k := x)
  have hA0 : sumA (fol g) g.nodes.length 0 = 0 := rfl
  have hF0 : sumF (fol g) 0 = 0 := rfl
  generalize aheadL (fol g) g.nodes.length = A at ha hal hall
  generalize aheadN (fol g) g.nodes.length = B at hany hal hsA hmem hsrt hlen
  generalize rchL (fol g) (-1) g.nodes.length = RC at hre hany hrl
  generalize sumA (fol g) g.nodes.length = SA at hsA hs2 hsle hA0
  generalize sumF (fol g) = SF at hsF hs2 hsm hF0
  obtain ⟨N, hNe⟩ : ∃ N, g.nodes.length = N := ⟨_, rfl⟩
  rw [hNe] at hpos hmo hany hrl hal hall hs2 hsle hmem hlen
  have hln : (g.nodes.map Nd.cells).length = N := by rw [List.length_map]; exact hNe
  have hAl : (A.map lrow).length = N := by rw [List.length_map]; exact hall
  have hRl : (RC.map brow).length = N := by rw [List.length_map]; exact hrl
  have e0 : (((A.map lrow).length : Int) != ((RC.map brow).length : Int)) = false := by rw [hAl, hRl]; simp
  have e1 : (((A.map lrow).length : Int) == 0) = false := by rw [beq_eq_false_iff_ne]; omega
  have hslN := hsle N
  have hNN : N * N ≤ 4096 * 4096 := Nat.mul_le_mul hmo hmo
  refine Ctr.cut [18] hT hmix Tryd.func6 rfl (fun _ _ => by kernel_rfl) rfl fun hok => ?_
  clear hok
  conv => whnf
  refine acall.pure _ (hbe) rfl rfl fun _ => ?_
  conv => whnf
  refine acall.pure _ (ha) rfl rfl fun _ => ?_
  conv => whnf
  refine acall.pure _ (hre) rfl rfl fun _ => ?_
  conv => whnf
  rw [e0]
  conv => whnf
  rw [e1]
  conv => whnf
  refine LoopL.by (fun i : Nat => ⟨[(1, .ptr 0 0), (3, .tr (listsT A)), (4, .tr (boolsT RC)), (5, .tr (ti (SA i : Nat))), (6, .tr (ti (i : Nat)))], [(0, grBl g)], 10⟩) (fun i => i ≤ N) (fun i => N - i) 0 [_] []
    (Sub.mk' rfl ⟨⟨rfl, rfl⟩, .inl rfl, .inl rfl, .inl (by rw [hA0]; rfl), .inl rfl, trivial⟩ ⟨⟨rfl, .inl rfl, .inl rfl, .inl rfl, .inl rfl, trivial⟩, trivial⟩ rfl rfl) (Nat.zero_le _) ?_
  rintro i hi -
  conv => whnf
  refine csplit (fun hit => ?_) (fun hit => ?_)
  · have hit : i < N := by have : decide ((i : Int) < ((A.map lrow).length : Int)) = true := hit; have := of_decide_eq_true this; omega
    have hany := hany i hit
    have hal := hal i hit
    have hsA := hsA i
    have hsle := hsle i
    have hmem := hmem i
    have hsrt := hsrt i
    have hlen := hlen i
    obtain ⟨L, hL⟩ : ∃ L, B i = L := ⟨_, rfl⟩
    rw [hL] at hany hal hsA hmem hsrt hlen
    have hLl := natsT_len L
    have hiN : SA i + L.length ≤ 9223372036854775807 := by
      have : i * N ≤ N * N := Nat.mul_le_mul_right _ hi
      omega
    conv => whnf
    refine LoopL.by (fun k : Nat => ⟨[(1, .ptr 0 0), (3, .tr (listsT A)), (4, .tr (boolsT RC)), (5, .tr (ti (SA i : Nat))), (6, .tr (ti (i : Nat))), (7, .tr (tb (anyB RC i (L.take k)))), (8, .tr (ti (k : Nat)))], [(0, grBl g)], 10⟩) (fun k => k ≤ L.length) (fun k => L.length - k) 0 [0] []
      (Sub.mk' rfl ⟨⟨rfl, rfl⟩, .inl rfl, .inl rfl, .inl rfl, .inl rfl, .inl (by unfold anyB; simp), .inl rfl, trivial⟩ ⟨⟨rfl, .inl rfl, .inl rfl, .inl rfl, .inl rfl, trivial⟩, trivial⟩ rfl rfl) (Nat.zero_le _) ?_
    rintro k hk -
    conv => whnf
    refine ⟨rfl, (show (0 : Int) ≤ i by omega), (show (i : Int) < ((A.map lrow).length : Int) by omega), fun row hrow => ?_⟩
    obtain ⟨d, hd, rfl⟩ := lrow_get hrow
    obtain rfl := Option.some.inj (hal.symm.trans hd)
    clear hrow hd
    conv => whnf
    refine csplit (fun hkt => ?_) (fun hkt => ?_)
    · have hkt : k < L.length := by have := of_decide_eq_true hkt; omega
      obtain ⟨a, hka⟩ : ∃ a, L[k]? = some a := ⟨_, List.getElem?_eq_getElem hkt⟩
      obtain ⟨haN, hia⟩ := (hmem a).1 (List.mem_of_getElem? hka)
      obtain ⟨n, hn⟩ : ∃ n, g.nodes[a]? = some n := ⟨_, List.getElem?_eq_getElem (by omega)⟩
      obtain ⟨b, hb⟩ : ∃ b, RC[a]? = some b := ⟨_, List.getElem?_eq_getElem (by omega)⟩
      have hany2 : anyB RC i (L.take (k + 1)) = (anyB RC i (L.take k) || b) := by
        unfold anyB
        rw [any_take hka, List.getD_eq_getElem?_getD, hb, Bool.or_assoc]; rfl
      have hfo := k_rfollows n
      have hth : thereB (rfolI n) i = true := by
        have h1 : ((i : Nat) : Int) ∈ folI n := by rw [hfI a n hn]; exact List.mem_map.2 ⟨i, hia, rfl⟩
        have h2 : ((i : Nat) : Int) ∈ rfolI n := by
          rcases folI_rfolI n with ⟨q1, q2⟩ | ⟨x, q1, q2⟩ | ⟨x, q1, q2⟩ | ⟨x, y, _, q1, q2⟩ <;> rw [q1] at h1 <;> rw [q2]
          · exact h1
          · exact h1
          · exact List.mem_cons_of_mem _ h1
          · exact h1
        unfold thereB
        rw [List.any_eq_true]
        exact ⟨_, h2, beq_self_eq_true _⟩
      have hFl : (rfolI n).length ≤ 2 := by
        rcases folI_rfolI n with ⟨_, q2⟩ | ⟨x, _, q2⟩ | ⟨x, _, q2⟩ | ⟨x, y, _, _, q2⟩ <;> rw [q2] <;> exact Nat.le_of_ble_eq_true rfl
      generalize rfolI n = F at hfo hth hFl
      have hFm : (F.map irow).length = F.length := List.length_map ..
      have e2 : decide ((a : Int) < 0) = false := decide_eq_false (by omega)
      have e3 : decide ((a : Int) ≥ ((g.nodes.map Nd.cells).length : Int)) = false := decide_eq_false (by omega)
      obtain ⟨kind, op, slot, thing, ⟨sa, ka, wa⟩, ⟨sb, kb, wb⟩, next, els, origin⟩ := n
      conv => whnf
      refine ⟨rfl, (show (0 : Int) ≤ i by omega), (show (i : Int) < ((A.map lrow).length : Int) by omega), fun row hrow => ?_⟩
      obtain ⟨d, hd, rfl⟩ := lrow_get hrow
      obtain rfl := Option.some.inj (hal.symm.trans hd)
      clear hrow hd
      conv => whnf
      refine ⟨rfl, (show (0 : Int) ≤ k by omega), (show (k : Int) < ((((L.map fun (x : Nat) => (x : Int))).map irow).length : Int) by omega), fun row hrow => ?_⟩
      obtain ⟨d, hd, rfl⟩ := natsT_get hrow
      obtain rfl := Option.some.inj (hka.symm.trans hd)
      clear hrow hd
      conv => whnf
      refine CutL.by (fun _ : Unit => ⟨[(1, .ptr 0 0), (3, .tr (listsT A)), (4, .tr (boolsT RC)), (5, .tr (ti (SA i : Nat))), (6, .tr (ti (i : Nat))), (7, .tr (tb (anyB RC i (L.take k)))), (8, .tr (ti (k : Nat))), (9, .tr (ti (a : Nat)))], [(0, grBl g)], 10⟩) (fun _ => True) ?_ ?_
      · conv => whnf
        rw [e3]
        conv => whnf
        cases hk0 : decide ((k : Int) > 0) with
        | false =>
          conv => whnf
          exact ⟨(), [0], [], Sub.mk' rfl ⟨⟨rfl, rfl⟩, .inl rfl, .inl rfl, .inl rfl, .inl rfl, .inl rfl, .inl rfl, .inl rfl, trivial⟩ ⟨⟨rfl, .inl rfl, .inl rfl, .inl rfl, .inl rfl, trivial⟩, trivial⟩ rfl rfl, trivial⟩
        | true =>
          have hk0 := of_decide_eq_true hk0
          obtain ⟨a', hka'⟩ : ∃ a, L[k - 1]? = some a := ⟨_, List.getElem?_eq_getElem (by omega)⟩
          have hlt' : a' < a := hsrt (k - 1) a' a hka' (by rw [show k - 1 + 1 = k by omega]; exact hka)
          have hk1 : IntKind.i64.wrap ((k : Int) - 1) = ((k - 1 : Nat) : Int) := by rw [w64 (by omega) (by omega)]; omega
          have e4 : decide ((a' : Int) ≥ (a : Int)) = false := decide_eq_false (by omega)
          conv => whnf
          refine ⟨rfl, (show (0 : Int) ≤ i by omega), (show (i : Int) < ((A.map lrow).length : Int) by omega), fun row hrow => ?_⟩
          obtain ⟨d, hd, rfl⟩ := lrow_get hrow
          obtain rfl := Option.some.inj (hal.symm.trans hd)
          clear hrow hd
          conv => whnf
          rw [hk1]
          refine ⟨rfl, (show (0 : Int) ≤ (k - 1 : Nat) by omega), (show ((k - 1 : Nat) : Int) < ((((L.map fun (x : Nat) => (x : Int))).map irow).length : Int) by omega), fun row hrow => ?_⟩
          rw [Int.toNat_natCast] at hrow
          obtain ⟨d, hd, rfl⟩ := natsT_get hrow
          obtain rfl := Option.some.inj (hka'.symm.trans hd)
          clear hrow hd
          conv => whnf
          rw [e4]
          conv => whnf
          exact ⟨(), [0], [], Sub.mk' rfl ⟨⟨rfl, rfl⟩, .inl rfl, .inl rfl, .inl rfl, .inl rfl, .inl rfl, .inl rfl, .inl rfl, trivial⟩ ⟨⟨rfl, .inl rfl, .inl rfl, .inl rfl, .inl rfl, trivial⟩, trivial⟩ rfl rfl, trivial⟩
      rintro - - -
      conv => whnf
      refine ⟨rfl, (show (0 : Int) ≤ a by omega), (show (a : Int) < ((g.nodes.map Nd.cells).length : Int) by omega), fun row hrow => ?_⟩
      obtain ⟨d, hd, rfl⟩ := nd_get hrow
      obtain rfl := Option.some.inj (hn.symm.trans hd)
      clear hrow hd hn
      conv => whnf
      refine acall.pure _ (hfo) rfl rfl fun _ => ?_
      conv => whnf
      refine LoopL.by (fun j : Nat => ⟨[(1, .ptr 0 0), (3, .tr (listsT A)), (4, .tr (boolsT RC)), (5, .tr (ti (SA i : Nat))), (6, .tr (ti (i : Nat))), (7, .tr (tb (anyB RC i (L.take k)))), (8, .tr (ti (k : Nat))), (9, .tr (ti (a : Nat))), (10, .tr (intsT F)), (11, .tr (tb (thereB (F.take j) i))), (12, .tr (ti (j : Nat)))], [(0, grBl g)], 10⟩) (fun j => j ≤ F.length) (fun j => F.length - j) 0 [0] []
        (Sub.mk' rfl ⟨⟨rfl, rfl⟩, .inl rfl, .inl rfl, .inl rfl, .inl rfl, .inl rfl, .inl rfl, .inl rfl, .inl rfl, .inl rfl, .inl rfl, trivial⟩ ⟨⟨rfl, .inl rfl, .inl rfl, .inl rfl, .inl rfl, trivial⟩, trivial⟩ rfl rfl) (Nat.zero_le _) ?_
      rintro j hj -
      conv => whnf
      refine csplit (fun hjt => ?_) (fun hjt => ?_)
      · have hjt : j < F.length := by have : decide ((j : Int) < ((F.map irow).length : Int)) = true := hjt; have := of_decide_eq_true this; omega
        obtain ⟨x, hx⟩ : ∃ x, F[j]? = some x := ⟨_, List.getElem?_eq_getElem hjt⟩
        have htk := there_take (i := i) hx
        cases ht : thereB (F.take j) i with
        | true =>
          rw [ht, Bool.true_or] at htk
          conv => whnf
          exact ⟨j + 1, [0], [], Sub.mk' rfl ⟨⟨rfl, rfl⟩, .inl rfl, .inl rfl, .inl rfl, .inl rfl, .inl rfl, .inl rfl, .inl rfl, .inl rfl, .inl (by rw [htk]), .inl (ti_succ hjt (by omega)), trivial⟩ ⟨⟨rfl, .inl rfl, .inl rfl, .inl rfl, .inl rfl, trivial⟩, trivial⟩ rfl rfl, hjt, by show F.length - (j + 1) < F.length - j; omega⟩
        | false =>
          rw [ht, Bool.false_or] at htk
          conv => whnf
          refine ⟨rfl, (show (0 : Int) ≤ j by omega), (show (j : Int) < ((F.map irow).length : Int) by omega), fun row hrow => ?_⟩
          obtain ⟨d, hd, rfl⟩ := int_get hrow
          obtain rfl := Option.some.inj (hx.symm.trans hd)
          clear hrow hd
          conv => whnf
          exact ⟨j + 1, [0], [], Sub.mk' rfl ⟨⟨rfl, rfl⟩, .inl rfl, .inl rfl, .inl rfl, .inl rfl, .inl rfl, .inl rfl, .inl rfl, .inl rfl, .inl (by rw [htk]), .inl (ti_succ hjt (by omega)), trivial⟩ ⟨⟨rfl, .inl rfl, .inl rfl, .inl rfl, .inl rfl, trivial⟩, trivial⟩ rfl rfl, hjt, by show F.length - (j + 1) < F.length - j; omega⟩
      · have hjt : F.length ≤ j := by have : decide ((j : Int) < ((F.map irow).length : Int)) = false := hjt; have := of_decide_eq_false this; omega
        rw [List.take_of_length_le hjt, hth]
        conv => whnf
        refine ⟨fun _ => ?_, fun h => absurd rfl h⟩
        conv => whnf
        cases ha : anyB RC i (L.take k) with
        | true =>
          rw [ha, Bool.true_or] at hany2
          conv => whnf
          exact ⟨k + 1, [0], [], Sub.mk' rfl ⟨⟨rfl, rfl⟩, .inl rfl, .inl rfl, .inl rfl, .inl rfl, .inl (by rw [hany2]), .inl (ti_succ hkt (by omega)), trivial⟩ ⟨⟨rfl, .inl rfl, .inl rfl, .inl rfl, .inl rfl, trivial⟩, trivial⟩ rfl rfl, hkt, by show L.length - (k + 1) < L.length - k; omega⟩
        | false =>
          rw [ha, Bool.false_or] at hany2
          conv => whnf
          refine ⟨rfl, (show (0 : Int) ≤ a by omega), (show (a : Int) < ((RC.map brow).length : Int) by omega), fun row hrow => ?_⟩
          obtain ⟨d, hd, rfl⟩ := brow_get hrow
          obtain rfl := Option.some.inj (hb.symm.trans hd)
          clear hrow hd
          conv => whnf
          exact ⟨k + 1, [0], [], Sub.mk' rfl ⟨⟨rfl, rfl⟩, .inl rfl, .inl rfl, .inl rfl, .inl rfl, .inl (by rw [hany2]), .inl (ti_succ hkt (by omega)), trivial⟩ ⟨⟨rfl, .inl rfl, .inl rfl, .inl rfl, .inl rfl, trivial⟩, trivial⟩ rfl rfl, hkt, by show L.length - (k + 1) < L.length - k; omega⟩
    · have hkt : L.length ≤ k := by have := of_decide_eq_false hkt; omega
      rw [List.take_of_length_le hkt]
      have hsum : ti (IntKind.i64.wrap ((SA i : Int) + (L.length : Int))) = ti ((SA (i + 1) : Nat) : Int) := by rw [ti_add hiN, hsA]
      conv => whnf
      refine ⟨fun _ => ?_, fun h => absurd rfl h⟩
      conv => whnf
      refine ⟨rfl, (show (0 : Int) ≤ i by omega), (show (i : Int) < ((A.map lrow).length : Int) by omega), fun row hrow => ?_⟩
      obtain ⟨d, hd, rfl⟩ := lrow_get hrow
      obtain rfl := Option.some.inj (hal.symm.trans hd)
      clear hrow hd
      conv => whnf
      refine ⟨rfl, (show (0 : Int) ≤ i by omega), (show (i : Int) < ((RC.map brow).length : Int) by omega), fun row hrow => ?_⟩
      obtain ⟨d, hd, rfl⟩ := brow_get hrow
      obtain rfl := Option.some.inj (hany.symm.trans hd)
      clear hrow hd
      cases hab : anyB RC i L with
      | true =>
        rw [hab] at hany
        conv => whnf
        refine ⟨rfl, (show (0 : Int) ≤ i by omega), (show (i : Int) < ((RC.map brow).length : Int) by omega), fun row hrow => ?_⟩
        obtain ⟨d, hd, rfl⟩ := brow_get hrow
        obtain rfl := Option.some.inj (hany.symm.trans hd)
        clear hrow hd
        conv => whnf
        exact ⟨i + 1, [0], [], Sub.mk' rfl ⟨⟨rfl, rfl⟩, .inl rfl, .inl rfl, .inl (by rw [hLl]; exact hsum), .inl (ti_succ hit (by omega)), trivial⟩ ⟨⟨rfl, .inl rfl, .inl rfl, .inl rfl, .inl rfl, trivial⟩, trivial⟩ rfl rfl, hit, by show N - (i + 1) < N - i; omega⟩
      | false =>
        rw [hab] at hany
        conv => whnf
        refine ⟨rfl, (show (0 : Int) ≤ i by omega), (show (i : Int) < ((RC.map brow).length : Int) by omega), fun row hrow => ?_⟩
        obtain ⟨d, hd, rfl⟩ := brow_get hrow
        obtain rfl := Option.some.inj (hany.symm.trans hd)
        clear hrow hd
        conv => whnf
        exact ⟨i + 1, [0], [], Sub.mk' rfl ⟨⟨rfl, rfl⟩, .inl rfl, .inl rfl, .inl (by rw [hLl]; exact hsum), .inl (ti_succ hit (by omega)), trivial⟩ ⟨⟨rfl, .inl rfl, .inl rfl, .inl rfl, .inl rfl, trivial⟩, trivial⟩ rfl rfl, hit, by show N - (i + 1) < N - i; omega⟩
  · have hit : i = N := by have : decide ((i : Int) < ((A.map lrow).length : Int)) = false := hit; have := of_decide_eq_false this; omega
    subst hit
    clear hal hsA hmem hsrt hlen hany hsle
    have hsi : SF i ≤ 9223372036854775807 := by rw [← hs2]; exact Nat.le_trans hslN (by omega)
    conv => whnf
    refine ⟨fun _ => ?_, fun h => absurd rfl h⟩
    conv => whnf
    rw [hs2]
    refine LoopL.by (fun j : Nat => ⟨[(1, .ptr 0 0), (5, .tr (ti ((SF i - SF j : Nat) : Int))), (13, .tr (ti (j : Nat)))], [(0, grBl g)], 10⟩) (fun j => j ≤ i) (fun j => i - j) 0 [0] []
      (Sub.mk' rfl ⟨⟨rfl, rfl⟩, .inl (by rw [hF0]; rfl), .inl rfl, trivial⟩ ⟨⟨rfl, .inl rfl, .inl rfl, .inl rfl, .inl rfl, trivial⟩, trivial⟩ rfl rfl) (Nat.zero_le _) ?_
    rintro j hj -
    conv => whnf
    refine csplit (fun hjt => ?_) (fun hjt => ?_)
    · have hjt : j < i := by have : decide ((j : Int) < ((g.nodes.map Nd.cells).length : Int)) = true := hjt; have := of_decide_eq_true this; omega
      obtain ⟨n, hn⟩ : ∃ n, g.nodes[j]? = some n := ⟨_, List.getElem?_eq_getElem (by omega)⟩
      have hfo := k_rfollows n
      have hfl : (fol g j).length = (folI n).length := by rw [hfI j n hn, List.length_map]
      have hsj := hsF j
      rw [hfl] at hsj
      have hmo2 := hsm (j + 1) i (by omega)
      have hsub : ∀ m : Nat, m ≤ SF i - SF j → ti (IntKind.i64.wrap (((SF i - SF j : Nat) : Int) - (m : Int))) = ti ((SF i - SF j - m : Nat) : Int) := fun m h => ti_sub h (by omega)
      have hcell : n.av = .agg (n.cells.map .tr) := rfl
      rcases folI_rfolI n with ⟨q1, q2⟩ | ⟨x, q1, q2⟩ | ⟨x, q1, q2⟩ | ⟨x, y, hxy, q1, q2⟩ <;> rw [q2] at hfo <;> rw [q1] at hsj
      · have hsj : SF (j + 1) = SF j := hsj
        have hs := hsub 0 (by omega)
        conv => whnf
        refine ⟨rfl, (show (0 : Int) ≤ j by omega), (show (j : Int) < ((g.nodes.map Nd.cells).length : Int) by omega), fun row hrow => ?_⟩
        obtain ⟨d, hd, rfl⟩ := nd_get hrow
        obtain rfl := Option.some.inj (hn.symm.trans hd)
        clear hrow hd hn
        conv => whnf
        refine acall.pure _ (hfo) rfl rfl fun _ => ?_
        conv => whnf
        refine ⟨by kernel_rfl, fun _ => ?_⟩
        conv => whnf
        exact ⟨j + 1, [0], [], Sub.mk' rfl ⟨⟨rfl, rfl⟩, .inl (hs.trans (by rw [hsj]; rfl)), .inl (ti_succ hjt (by omega)), trivial⟩ ⟨⟨rfl, .inl rfl, .inl rfl, .inl rfl, .inl rfl, trivial⟩, trivial⟩ rfl rfl, hjt, by show i - (j + 1) < i - j; omega⟩
      · have hsj : SF (j + 1) = SF j + 1 := hsj
        have hs := hsub 1 (by omega)
        conv => whnf
        refine ⟨rfl, (show (0 : Int) ≤ j by omega), (show (j : Int) < ((g.nodes.map Nd.cells).length : Int) by omega), fun row hrow => ?_⟩
        obtain ⟨d, hd, rfl⟩ := nd_get hrow
        obtain rfl := Option.some.inj (hn.symm.trans hd)
        clear hrow hd hn
        conv => whnf
        refine acall.pure _ (hfo) rfl rfl fun _ => ?_
        conv => whnf
        refine ⟨by kernel_rfl, fun _ => ?_⟩
        conv => whnf
        exact ⟨j + 1, [0], [], Sub.mk' rfl ⟨⟨rfl, rfl⟩, .inl (hs.trans (by rw [hsj]; rfl)), .inl (ti_succ hjt (by omega)), trivial⟩ ⟨⟨rfl, .inl rfl, .inl rfl, .inl rfl, .inl rfl, trivial⟩, trivial⟩ rfl rfl, hjt, by show i - (j + 1) < i - j; omega⟩
      · have hsj : SF (j + 1) = SF j + 1 := hsj
        have hxx : (x == x) = true := beq_self_eq_true x
        have hs : ti (IntKind.i64.wrap (IntKind.i64.wrap (((SF i - SF j : Nat) : Int) - 2) + 1)) = ti ((SF i - SF (j + 1) : Nat) : Int) := by
          rw [w64 (n := ((SF i - SF j : Nat) : Int) - 2) (by omega) (by omega), w64 (by omega) (by omega)]
          congr 1
          omega
        conv => whnf
        refine ⟨rfl, (show (0 : Int) ≤ j by omega), (show (j : Int) < ((g.nodes.map Nd.cells).length : Int) by omega), fun row hrow => ?_⟩
        obtain ⟨d, hd, rfl⟩ := nd_get hrow
        obtain rfl := Option.some.inj (hn.symm.trans hd)
        clear hrow hd hn
        conv => whnf
        refine acall.pure _ (hfo) rfl rfl fun _ => ?_
        conv => whnf
        refine ⟨rfl, Int.le_refl _, Int.ofNat_lt.2 (Nat.le_of_ble_eq_true rfl), fun row hrow => ?_⟩
        obtain rfl : [ti x] = row := Option.some.inj hrow
        clear hrow
        conv => whnf
        refine ⟨rfl, (by decide), Int.ofNat_lt.2 (Nat.le_of_ble_eq_true rfl), fun row hrow => ?_⟩
        obtain rfl : [ti x] = row := Option.some.inj hrow
        clear hrow
        conv => whnf
        refine ⟨by kernel_rfl, fun _ => ?_⟩
        conv => whnf
        rw [hxx]
        conv => whnf
        exact ⟨j + 1, [0], [], Sub.mk' rfl ⟨⟨rfl, rfl⟩, .inl hs, .inl (ti_succ hjt (by omega)), trivial⟩ ⟨⟨rfl, .inl rfl, .inl rfl, .inl rfl, .inl rfl, trivial⟩, trivial⟩ rfl rfl, hjt, by show i - (j + 1) < i - j; omega⟩
      · have hsj : SF (j + 1) = SF j + 2 := hsj
        have hs := hsub 2 (by omega)
        have hne : (x == y) = false := beq_eq_false_iff_ne.2 (fun w => hxy w.symm)
        conv => whnf
        refine ⟨rfl, (show (0 : Int) ≤ j by omega), (show (j : Int) < ((g.nodes.map Nd.cells).length : Int) by omega), fun row hrow => ?_⟩
        obtain ⟨d, hd, rfl⟩ := nd_get hrow
        obtain rfl := Option.some.inj (hn.symm.trans hd)
        clear hrow hd hn
        conv => whnf
        refine acall.pure _ (hfo) rfl rfl fun _ => ?_
        conv => whnf
        refine ⟨rfl, Int.le_refl _, Int.ofNat_lt.2 (Nat.le_of_ble_eq_true rfl), fun row hrow => ?_⟩
        obtain rfl : [ti x] = row := Option.some.inj hrow
        clear hrow
        conv => whnf
        refine ⟨rfl, (by decide), Int.ofNat_lt.2 (Nat.le_of_ble_eq_true rfl), fun row hrow => ?_⟩
        obtain rfl : [ti y] = row := Option.some.inj hrow
        clear hrow
        conv => whnf
        refine ⟨by kernel_rfl, fun _ => ?_⟩
        conv => whnf
        rw [hne]
        conv => whnf
        exact ⟨j + 1, [0], [], Sub.mk' rfl ⟨⟨rfl, rfl⟩, .inl (hs.trans (by rw [hsj]; rfl)), .inl (ti_succ hjt (by omega)), trivial⟩ ⟨⟨rfl, .inl rfl, .inl rfl, .inl rfl, .inl rfl, trivial⟩, trivial⟩ rfl rfl, hjt, by show i - (j + 1) < i - j; omega⟩
    · have hjt : j = i := by have : decide ((j : Int) < ((g.nodes.map Nd.cells).length : Int)) = false := hjt; have := of_decide_eq_false this; omega
      subst hjt
      conv => whnf
      refine ⟨fun _ => ?_, fun h => absurd rfl h⟩
      conv => whnf
      exact ⟨.inl (congrArg tb (by rw [Nat.sub_self]; rfl)), trivial⟩
theorem k_cahead (g : Gr) : K 6 [g.av] [] (.ret (.tr (tb true))) [] := by
  cases h : wholeB g with
  | true => exact k_cahead1 g h
  | false => exact k_cahead0 g h
end Go.Proofs.YthboippafkcoiaaDoor.am
