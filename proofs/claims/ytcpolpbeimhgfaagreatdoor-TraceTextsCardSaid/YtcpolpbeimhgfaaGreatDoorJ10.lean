/- The layings of the library's contracts (written by the kit's lay-shelf and lay-plain). Contracts of strings.Join and of writing words, for the abstract machine. Contracts of words.Parse, strings.Split and strings.Cut, for the abstract machine. Contracts of trace: going along a line's words. Contract of trace: a line's Did. Contracts of trace: cut at a line's end, Parse. Contracts of strings.Builder: copyCheck, Len, WriteString, String of one that holds bytes. Contracts of strings.Builder, for the abstract machine. Contracts of trace: a line. Contracts of trace: Print. Contracts of the reference of trace: number, text. Contract of the reference of trace: fields. Contract of the reference of trace: kind. -/
import Derived.Shelf.Strings.Builder1
import Derived.Shelf.Strings.Builder2
import Derived.Shelf.Strings.OnBuilder
import Derived.Shelf.Strings.Builder2Cap
import Derived.Shelf.Strings.Search1
import Derived.Shelf.Strings.Search2
import Derived.Shelf.Strings.Search3
import Derived.Shelf.Strings.Cut
import Derived.Shelf.Strings.Count
import Derived.Shelf.LaysM
import Derived.Shelf.Strings.Shaped
import Derived.Shelf.Strings.Split
import Derived.Shelf.Strings.SplitShaped
import Derived.Shelf.Bits.Mul64
import Derived.Shelf.Unicode.DecodeSlow
import Derived.Shelf.Unicode.DecodeAny
import Derived.Test.YtcpolpbeimhgfaaGreatDoorProg
import Derived.Test.YtcpolpbeimhgfaaGreatDoorJ7
import Derived.Test.YtcpolpbeimhgfaaGreatDoorJ8
import Derived.Lib.ItoaLen
import Derived.Lib.Builder
import Derived.Lib.UnsafeStr
import Derived.Lib.Walk
import Derived.Laws.Externs
import Derived.WalkLawsBesides
import Derived.Deep.WholeRow
import Derived.Shelf.RegionOpenPlain
set_option linter.all false

set_option linter.all false
namespace Go.Proofs
open Go.Shelf
def Tryz.lays156_ren : Go.Shelf.Ren := ⟨fun | 156 => 27 | 165 => 44 | 166 => 14 | 169 => 15 | 240 => 28 | 241 => 59 | 276 => 45 | 277 => 81 | n => n, fun | 31 => 73 | 9 => 9 | 3 => 3 | 4 => 4 | 0 => 0 | 20 => 20 | 72 => 35 | 76 => 43 | 70 => 32 | 37 => 33 | 75 => 42 | 127 => 76 | 164 => 107 | 5 => 5 | 80 => 45 | n => n, fun | n => n⟩
theorem Tryz.lays156 : Go.Proofs.Lays.n156 Tryz.prog Tryz.lays156_ren := {
  mixed := by kernel_rfl
  f156 := Tryz.func27.trans (congrArg some (by kernel_rfl))
  f165 := Tryz.func44.trans (congrArg some (by kernel_rfl))
  f166 := Tryz.func14.trans (congrArg some (by kernel_rfl))
  f169 := Tryz.func15.trans (congrArg some (by kernel_rfl))
  f240 := Tryz.func28.trans (congrArg some (by kernel_rfl))
  f241 := Tryz.func59.trans (congrArg some (by kernel_rfl))
  f276 := Tryz.func45.trans (congrArg some (by kernel_rfl))
  f277 := Tryz.func81.trans (congrArg some (by kernel_rfl))
  t0 := Tryz.underlying0
  a0 := Tryz.isAgg0
  z0 := Tryz.sizeOf0
  v0 := Tryz.zeroValue0
  t3 := Tryz.underlying3
  a3 := Tryz.isAgg3
  z3 := Tryz.sizeOf3
  v3 := Tryz.zeroValue3
  t4 := Tryz.underlying4
  a4 := Tryz.isAgg4
  z4 := Tryz.sizeOf4
  v4 := Tryz.zeroValue4
  t9 := Tryz.underlying9
  a9 := Tryz.isAgg9
  z9 := Tryz.sizeOf9
  v9 := Tryz.zeroValue9
  t20 := Tryz.underlying20
  a20 := Tryz.isAgg20
  z20 := Tryz.sizeOf20
  v20 := Tryz.zeroValue20
  t31 := Tryz.underlying73
  a31 := Tryz.isAgg73
  z31 := Tryz.sizeOf73
  v31 := Tryz.zeroValue73
  t37 := Tryz.underlying33
  a37 := Tryz.isAgg33
  z37 := Tryz.sizeOf33
  v37 := Tryz.zeroValue33
  t70 := Tryz.underlying32
  a70 := Tryz.isAgg32
  z70 := Tryz.sizeOf32
  v70 := Tryz.zeroValue32
  t72 := Tryz.underlying35
  a72 := Tryz.isAgg35
  z72 := Tryz.sizeOf35
  v72 := Tryz.zeroValue35
  t75 := Tryz.underlying42
  a75 := Tryz.isAgg42
  z75 := Tryz.sizeOf42
  v75 := Tryz.zeroValue42
  t76 := Tryz.underlying43
  a76 := Tryz.isAgg43
  z76 := Tryz.sizeOf43
  v76 := Tryz.zeroValue43
  t127 := Tryz.underlying76
  a127 := Tryz.isAgg76
  z127 := Tryz.sizeOf76
  v127 := Tryz.zeroValue76
  t164 := Tryz.underlying107
  a164 := Tryz.isAgg107
  z164 := Tryz.sizeOf107
  v164 := Tryz.zeroValue107 }
theorem Tryz.Builder_Extra_156 : Builder.Extra Tryz.prog Tryz.lays156_ren := {
  sizeBuilder := by kernel_rfl
  liesBuilder := by kernel_rfl
  t5 := Tryz.underlying5
  a5 := Tryz.isAgg5
  z5 := Tryz.sizeOf5
  v5 := Tryz.zeroValue5
  infoByte := by kernel_rfl
  cellsByte := by kernel_rfl
  sizeByte := by kernel_rfl
  neB5 := by decide }
def Tryz.lays219_ren : Go.Shelf.Ren := ⟨fun | 219 => 47 | 217 => 60 | 225 => 61 | 224 => 62 | 267 => 63 | 266 => 82 | 314 => 83 | n => n, fun | 9 => 9 | 3 => 3 | 4 => 4 | 5 => 5 | 46 => 124 | 146 => 146 | 51 => 145 | n => n, fun | 1 => 0 | n => n⟩
theorem Tryz.lays219 : Go.Proofs.Lays.n219 Tryz.prog Tryz.lays219_ren := {
  mixed := by kernel_rfl
  f217 := Tryz.func60.trans (congrArg some (by kernel_rfl))
  f219 := Tryz.func47.trans (congrArg some (by kernel_rfl))
  f224 := Tryz.func62.trans (congrArg some (by kernel_rfl))
  f225 := Tryz.func61.trans (congrArg some (by kernel_rfl))
  f266 := Tryz.func82.trans (congrArg some (by kernel_rfl))
  f267 := Tryz.func63.trans (congrArg some (by kernel_rfl))
  f314 := Tryz.func83.trans (congrArg some (by kernel_rfl))
  t3 := Tryz.underlying3
  a3 := Tryz.isAgg3
  z3 := Tryz.sizeOf3
  v3 := Tryz.zeroValue3
  t4 := Tryz.underlying4
  a4 := Tryz.isAgg4
  z4 := Tryz.sizeOf4
  v4 := Tryz.zeroValue4
  t5 := Tryz.underlying5
  a5 := Tryz.isAgg5
  z5 := Tryz.sizeOf5
  v5 := Tryz.zeroValue5
  t9 := Tryz.underlying9
  a9 := Tryz.isAgg9
  z9 := Tryz.sizeOf9
  v9 := Tryz.zeroValue9
  t46 := Tryz.underlying124
  a46 := Tryz.isAgg124
  z46 := Tryz.sizeOf124
  v46 := Tryz.zeroValue124
  t51 := Tryz.underlying145
  a51 := Tryz.isAgg145
  z51 := Tryz.sizeOf145
  v51 := Tryz.zeroValue145
  t146 := Tryz.underlying146
  a146 := Tryz.isAgg146
  z146 := Tryz.sizeOf146
  v146 := Tryz.zeroValue146
  g1 := by kernel_rfl }
def Tryz.lays143_ren : Go.Shelf.Ren := ⟨fun | 143 => 66 | 219 => 47 | 217 => 60 | 225 => 61 | 224 => 62 | 267 => 63 | 266 => 82 | 314 => 83 | n => n, fun | 9 => 9 | 3 => 3 | 4 => 4 | 5 => 5 | 46 => 124 | 146 => 146 | 51 => 145 | n => n, fun | 1 => 0 | n => n⟩
theorem Tryz.lays143 : Go.Proofs.Lays.n143 Tryz.prog Tryz.lays143_ren := {
  mixed := by kernel_rfl
  f143 := Tryz.func66.trans (congrArg some (by kernel_rfl))
  f217 := Tryz.func60.trans (congrArg some (by kernel_rfl))
  f219 := Tryz.func47.trans (congrArg some (by kernel_rfl))
  f224 := Tryz.func62.trans (congrArg some (by kernel_rfl))
  f225 := Tryz.func61.trans (congrArg some (by kernel_rfl))
  f266 := Tryz.func82.trans (congrArg some (by kernel_rfl))
  f267 := Tryz.func63.trans (congrArg some (by kernel_rfl))
  f314 := Tryz.func83.trans (congrArg some (by kernel_rfl))
  t3 := Tryz.underlying3
  a3 := Tryz.isAgg3
  z3 := Tryz.sizeOf3
  v3 := Tryz.zeroValue3
  t4 := Tryz.underlying4
  a4 := Tryz.isAgg4
  z4 := Tryz.sizeOf4
  v4 := Tryz.zeroValue4
  t5 := Tryz.underlying5
  a5 := Tryz.isAgg5
  z5 := Tryz.sizeOf5
  v5 := Tryz.zeroValue5
  t9 := Tryz.underlying9
  a9 := Tryz.isAgg9
  z9 := Tryz.sizeOf9
  v9 := Tryz.zeroValue9
  t46 := Tryz.underlying124
  a46 := Tryz.isAgg124
  z46 := Tryz.sizeOf124
  v46 := Tryz.zeroValue124
  t51 := Tryz.underlying145
  a51 := Tryz.isAgg145
  z51 := Tryz.sizeOf145
  v51 := Tryz.zeroValue145
  t146 := Tryz.underlying146
  a146 := Tryz.isAgg146
  z146 := Tryz.sizeOf146
  v146 := Tryz.zeroValue146
  g1 := by kernel_rfl }
def Tryz.lays138_ren : Go.Shelf.Ren := ⟨fun | 138 => 65 | 195 => 84 | 218 => 86 | 143 => 66 | 219 => 47 | 217 => 60 | 225 => 61 | 224 => 62 | 267 => 63 | 266 => 82 | 314 => 83 | n => n, fun | 9 => 9 | 3 => 3 | 4 => 4 | 5 => 5 | 0 => 0 | 46 => 124 | 146 => 146 | 51 => 145 | n => n, fun | 1 => 0 | n => n⟩
theorem Tryz.lays138 : Go.Proofs.Lays.n138 Tryz.prog Tryz.lays138_ren := {
  mixed := by kernel_rfl
  f138 := Tryz.func65.trans (congrArg some (by kernel_rfl))
  f143 := Tryz.func66.trans (congrArg some (by kernel_rfl))
  f195 := Tryz.func84.trans (congrArg some (by kernel_rfl))
  f217 := Tryz.func60.trans (congrArg some (by kernel_rfl))
  f218 := Tryz.func86.trans (congrArg some (by kernel_rfl))
  f219 := Tryz.func47.trans (congrArg some (by kernel_rfl))
  f224 := Tryz.func62.trans (congrArg some (by kernel_rfl))
  f225 := Tryz.func61.trans (congrArg some (by kernel_rfl))
  f266 := Tryz.func82.trans (congrArg some (by kernel_rfl))
  f267 := Tryz.func63.trans (congrArg some (by kernel_rfl))
  f314 := Tryz.func83.trans (congrArg some (by kernel_rfl))
  t0 := Tryz.underlying0
  a0 := Tryz.isAgg0
  z0 := Tryz.sizeOf0
  v0 := Tryz.zeroValue0
  t3 := Tryz.underlying3
  a3 := Tryz.isAgg3
  z3 := Tryz.sizeOf3
  v3 := Tryz.zeroValue3
  t4 := Tryz.underlying4
  a4 := Tryz.isAgg4
  z4 := Tryz.sizeOf4
  v4 := Tryz.zeroValue4
  t5 := Tryz.underlying5
  a5 := Tryz.isAgg5
  z5 := Tryz.sizeOf5
  v5 := Tryz.zeroValue5
  t9 := Tryz.underlying9
  a9 := Tryz.isAgg9
  z9 := Tryz.sizeOf9
  v9 := Tryz.zeroValue9
  t46 := Tryz.underlying124
  a46 := Tryz.isAgg124
  z46 := Tryz.sizeOf124
  v46 := Tryz.zeroValue124
  t51 := Tryz.underlying145
  a51 := Tryz.isAgg145
  z51 := Tryz.sizeOf145
  v51 := Tryz.zeroValue145
  t146 := Tryz.underlying146
  a146 := Tryz.isAgg146
  z146 := Tryz.sizeOf146
  v146 := Tryz.zeroValue146
  g1 := by kernel_rfl }
def Tryz.lays221_ren : Go.Shelf.Ren := ⟨fun | 221 => 48 | 268 => 64 | 138 => 65 | 143 => 66 | 195 => 84 | 197 => 85 | 218 => 86 | 219 => 47 | 260 => 97 | 217 => 60 | 225 => 61 | 224 => 62 | 267 => 63 | 266 => 82 | 314 => 83 | n => n, fun | 9 => 9 | 3 => 3 | 31 => 73 | 4 => 4 | 0 => 0 | 105 => 149 | 21 => 21 | 5 => 5 | 46 => 124 | 119 => 176 | 139 => 179 | 138 => 178 | 146 => 146 | 51 => 145 | n => n, fun | 1 => 0 | 3 => 1 | 4 => 2 | n => n⟩
theorem Tryz.lays221 : Go.Proofs.Lays.n221 Tryz.prog Tryz.lays221_ren := {
  mixed := by kernel_rfl
  f138 := Tryz.func65.trans (congrArg some (by kernel_rfl))
  f143 := Tryz.func66.trans (congrArg some (by kernel_rfl))
  f195 := Tryz.func84.trans (congrArg some (by kernel_rfl))
  f197 := Tryz.func85.trans (congrArg some (by kernel_rfl))
  f217 := Tryz.func60.trans (congrArg some (by kernel_rfl))
  f218 := Tryz.func86.trans (congrArg some (by kernel_rfl))
  f219 := Tryz.func47.trans (congrArg some (by kernel_rfl))
  f221 := Tryz.func48.trans (congrArg some (by kernel_rfl))
  f224 := Tryz.func62.trans (congrArg some (by kernel_rfl))
  f225 := Tryz.func61.trans (congrArg some (by kernel_rfl))
  f260 := Tryz.func97.trans (congrArg some (by kernel_rfl))
  f266 := Tryz.func82.trans (congrArg some (by kernel_rfl))
  f267 := Tryz.func63.trans (congrArg some (by kernel_rfl))
  f268 := Tryz.func64.trans (congrArg some (by kernel_rfl))
  f314 := Tryz.func83.trans (congrArg some (by kernel_rfl))
  t0 := Tryz.underlying0
  a0 := Tryz.isAgg0
  z0 := Tryz.sizeOf0
  v0 := Tryz.zeroValue0
  t3 := Tryz.underlying3
  a3 := Tryz.isAgg3
  z3 := Tryz.sizeOf3
  v3 := Tryz.zeroValue3
  t4 := Tryz.underlying4
  a4 := Tryz.isAgg4
  z4 := Tryz.sizeOf4
  v4 := Tryz.zeroValue4
  t5 := Tryz.underlying5
  a5 := Tryz.isAgg5
  z5 := Tryz.sizeOf5
  v5 := Tryz.zeroValue5
  t9 := Tryz.underlying9
  a9 := Tryz.isAgg9
  z9 := Tryz.sizeOf9
  v9 := Tryz.zeroValue9
  t21 := Tryz.underlying21
  a21 := Tryz.isAgg21
  z21 := Tryz.sizeOf21
  v21 := Tryz.zeroValue21
  t31 := Tryz.underlying73
  a31 := Tryz.isAgg73
  z31 := Tryz.sizeOf73
  v31 := Tryz.zeroValue73
  t46 := Tryz.underlying124
  a46 := Tryz.isAgg124
  z46 := Tryz.sizeOf124
  v46 := Tryz.zeroValue124
  t51 := Tryz.underlying145
  a51 := Tryz.isAgg145
  z51 := Tryz.sizeOf145
  v51 := Tryz.zeroValue145
  t105 := Tryz.underlying149
  a105 := Tryz.isAgg149
  z105 := Tryz.sizeOf149
  v105 := Tryz.zeroValue149
  t119 := Tryz.underlying176
  a119 := Tryz.isAgg176
  z119 := Tryz.sizeOf176
  t138 := Tryz.underlying178
  a138 := Tryz.isAgg178
  z138 := Tryz.sizeOf178
  v138 := Tryz.zeroValue178
  t139 := Tryz.underlying179
  a139 := Tryz.isAgg179
  z139 := Tryz.sizeOf179
  v139 := Tryz.zeroValue179
  t146 := Tryz.underlying146
  a146 := Tryz.isAgg146
  z146 := Tryz.sizeOf146
  v146 := Tryz.zeroValue146
  g1 := by kernel_rfl
  g3 := by kernel_rfl
  g4 := by kernel_rfl }

end Go.Proofs

namespace Go.Proofs.YtcpolpbeimhgfaaGreatDoor.am
open Go Go.Proofs Go.RowKit

/-- a contract out of a law on calls: a function that only makes blocks of its own -/
theorem Ctr.ofCalls {f : Nat} {args : List AV} {a : AV} (hc : Callable Tryz.prog f) (h : ∀ (g : Gh) (w : World) (vs : Array Value), MSt g w (ofL []) → vs.size = args.length → (∀ (i : Nat) (v : Value) (a : AV), vs[i]? = some v → args[i]? = some a → Rep g w v a) →
    Calls Tryz.prog f vs w fun e w' => ∃ v, e = .returned v ∧ Below w.heap.size w w' ∧ (Grow g w g w' → MSt g w' (ofLO []) → Rep g w' v a)) : K f args [] (.ret a) [] := by
  refine ⟨hc, fun g w vs hun hm hsz hv => (h g w vs hm hsz hv).mono ?_⟩
  rintro e w' ⟨v, rfl, hb, hR⟩
  have hG : Grow g w g w' := ⟨hb.os, hb.tape, hb.output, hb.size, fun b hk => hb.block b hk.1, fun b hk => hb.block b (hm.xlt b hk), rfl, fun _ h => h, fun _ _ h => .inl h, fun k b e => .inl ⟨k, e⟩⟩
  have hM : MSt g w' (ofLO []) := ⟨fun h b e => (by simp [ofLO] at e), hm.inj, fun k b e => Nat.lt_of_lt_of_le (hm.lt k b e) hb.size, fun b hk => Nat.lt_of_lt_of_le (hm.xlt b hk) hb.size, hm.xl, hm.gl.grow hG⟩
  exact ⟨g, hG, hM, fun k _ l hl => (by have := hun k (Nat.zero_le _); rw [this] at hl; cases hl), hR hG hM⟩
theorem one_arg {vs : Array Value} (h : vs.size = 1) : ∃ v, vs = #[v] := by
  obtain ⟨l⟩ := vs
  match l, h with
  | [v], _ => exact ⟨v, rfl⟩
theorem two_arg {vs : Array Value} (h : vs.size = 2) : ∃ v u, vs = #[v, u] := by
  obtain ⟨l⟩ := vs
  match l, h with
  | [v, u], _ => exact ⟨v, u, rfl⟩
def prnB (n : Int) : ByteArray := ⟨(ws.prn n).toArray⟩
theorem decDigits_dig (u : Nat) : Lib.decDigits u = ws.dig u := by
  induction u using Nat.strongRecOn with
  | _ u ih =>
    by_cases h : u < 10
    · rw [Lib.decDigits, dif_pos h, ws.dig_small h]; rfl
    · rw [Lib.decDigits, dif_neg h, ws.dig_big h, ih (u / 10) (by omega)]; rfl
theorem itoa_prn (n : Int) : Lib.itoa n = ws.prn n := by
  unfold Lib.itoa ws.prn
  split
  · rw [decDigits_dig, show n.natAbs = (-n).toNat by omega]
  · rw [decDigits_dig]
theorem prn_len {n : Int} (h1 : -9223372036854775808 ≤ n) (h2 : n ≤ 9223372036854775807) : (prnB n).size ≤ 21 := by
  show (ws.prn n).toArray.size ≤ 21
  rw [List.size_toArray, ← itoa_prn]
  exact Lib.itoa_length_le n h1 h2
theorem k_print (n : Int) : K 26 [.tr (ti n)] [] (.ret (.tr (ts (prnB n)))) [] := by
  refine Ctr.ofCalls (fun _ _ => by kernel_rfl) fun g w vs hm hsz hv => ?_
  obtain ⟨v, rfl⟩ := one_arg hsz
  obtain ⟨rfl, h1, h2⟩ := val_inv (hv 0 v (.tr (ti n)) rfl rfl)
  refine (ws.print_any n w h1 h2).mono ?_
  rintro e w' ⟨rfl, hb⟩
  exact ⟨_, rfl, hb, fun _ _ => .tr (.v (Nat.le_trans (prn_len h1 h2) (by omega)))⟩
def srow (s : ByteArray) : List Tr := [ts s]
abbrev strsT (l : List ByteArray) : Tr := .lst 1 16 (l.map srow)
def blank : ByteArray := ⟨#[32]⟩
def joinL (l : List ByteArray) : List UInt8 := Lib.join (l.map (·.data.toList)) [32]
def joinB (l : List ByteArray) : ByteArray := ⟨(joinL l).toArray⟩
theorem strs_inv {ok : Nat → Prop} {w : World} {v : Value} {l : List ByteArray} (h : RepT ok w v (strsT l)) :
    ∃ ao cap, v = .slice ao l.length cap ∧ l.length ≤ cap ∧ (0 < l.length → ∃ b o, ao = some ⟨b, o, none⟩ ∧ ok b ∧ ∀ j x, l[j]? = some x → w.cell? ⟨b, o + j, none⟩ = some (.string x)) ∧ l.length * 16 ≤ 150000000000000 ∧ ∀ x ∈ l, x.size ≤ 9223372036854775807 := by
  obtain ⟨ao, cap, f, rfl, q1, q2, q3, q4, q5, q6⟩ := lst_inv h
  simp only [List.length_map] at q1 q3 ⊢
  have get : ∀ j x, l[j]? = some x → (l.map srow)[j]? = some [ts x] := fun j x hj => by rw [List.getElem?_map, hj]; rfl
  refine ⟨ao, cap, rfl, q1, fun h0 => ?_, q3, fun x hx => ?_⟩
  · obtain ⟨_, b, o, e, hb, _⟩ := q5 0 [ts l[0]] (get 0 _ (by simp [h0]))
    refine ⟨b, o, e, hb, fun j x hj => ?_⟩
    obtain ⟨_, b', o', e', _, hc⟩ := q5 j [ts x] (get j x hj)
    rw [e] at e'; cases e'
    have := hc 0 (by decide)
    rw [Nat.mul_one, Nat.add_zero] at this
    rw [this]
    have := q6 j [ts x] 0 (ts x) (get j x hj) rfl
    generalize f j 0 = fv at this
    cases this with
    | v hg => rfl
  · obtain ⟨j, hj⟩ := List.mem_iff_getElem?.1 hx
    have := q6 j [ts x] 0 (ts x) (get j x hj) rfl
    generalize f j 0 = fv at this
    cases this with
    | v hg => exact hg
theorem k_join (l : List ByteArray) (hlen : (joinL l).length ≤ 140737488355328) : K 27 [.tr (strsT l), .tr (ts blank)] [] (.ret (.tr (ts (joinB l)))) [] := by
  refine Ctr.ofCalls (fun _ _ => by kernel_rfl) fun g w vs hm hsz hv => ?_
  obtain ⟨v, u, rfl⟩ := two_arg hsz
  have hr := (hv 0 v (.tr (strsT l)) rfl rfl).tr_inv
  obtain ⟨rfl, _⟩ := val_inv (hv 1 u (.tr (ts blank)) rfl rfl)
  obtain ⟨ao, cap, rfl, q1, q2, q3, q4⟩ := strs_inv hr
  have hjs : (joinB l).size ≤ 9223372036854775807 := by show (joinL l).toArray.size ≤ _; rw [List.size_toArray]; omega
  by_cases h0 : 0 < l.length
  · obtain ⟨b, o, rfl, hb, hc⟩ := q2 h0
    refine (Any.strings_Join Tryz.lays156 Tryz.Builder_Extra_156 b o cap l blank w hc hb.1 (by omega) q1 hlen).mono ?_
    rintro e w' ⟨rfl, hb⟩
    exact ⟨_, rfl, hb, fun _ _ => .tr (.v hjs)⟩
  · have : l = [] := List.eq_nil_of_length_eq_zero (by omega)
    subst this
    refine (Any.strings_Join_none Tryz.lays156 Tryz.Builder_Extra_156 ao cap blank w).mono ?_
    rintro e w' ⟨rfl, rfl⟩
    exact ⟨_, rfl, Below.refl _ _, fun _ _ => .tr (.v hjs)⟩
end Go.Proofs.YtcpolpbeimhgfaaGreatDoor.am

namespace Go.Proofs.YtcpolpbeimhgfaaGreatDoor.am
open Go Go.Proofs Go.RowKit

theorem four_arg {vs : Array Value} (h : vs.size = 4) : ∃ v u x y, vs = #[v, u, x, y] := by
  obtain ⟨l⟩ := vs
  match l, h with
  | [v, u, x, y], _ => exact ⟨v, u, x, y, rfl⟩

/-! the table of the powers of ten -/
def prsB (s : ByteArray) : Int × Int × Int := ws.prs s.data.toList
theorem pgo_in {neg : Bool} {at_ : Nat} : ∀ (l : List UInt8) (i n : Nat), n ≤ ws.most neg → i + l.length ≤ 9223372036854775807 →
    (-9223372036854775808 ≤ (ws.pgo neg at_ l i n).1 ∧ (ws.pgo neg at_ l i n).1 ≤ 9223372036854775807) ∧ ((ws.pgo neg at_ l i n).2.1 = 0 ∨ (ws.pgo neg at_ l i n).2.1 = 10) ∧ 0 ≤ (ws.pgo neg at_ l i n).2.2 ∧ (ws.pgo neg at_ l i n).2.2 ≤ 9223372036854775807
  | [], i, n, h, hl => by
    simp only [List.length_nil] at hl
    unfold ws.pgo
    split
    · exact ⟨⟨by simp, by simp⟩, .inr rfl, by simp, by simp; omega⟩
    · refine ⟨?_, .inl rfl, by simp, by simp⟩
      cases neg with
      | true => have h : n ≤ 9223372036854775808 := h; simp only [ws.okV, if_true]; omega
      | false => have h : n ≤ 9223372036854775807 := h; simp only [ws.okV]; simp; omega
  | c :: r, i, n, h, hl => by
    simp only [List.length_cons] at hl
    unfold ws.pgo
    split
    · exact ⟨⟨by simp, by simp⟩, .inr rfl, by simp, by simp; omega⟩
    · rename_i hb
      refine pgo_in r (i + 1) _ ?_ (by omega)
      apply Decidable.byContradiction
      intro hc
      refine hb ?_
      unfold ws.bad
      simp
      omega
theorem prs_in (s : ByteArray) (hs : s.size ≤ 9223372036854775807) : (-9223372036854775808 ≤ (prsB s).1 ∧ (prsB s).1 ≤ 9223372036854775807) ∧ ((prsB s).2.1 = 0 ∨ (prsB s).2.1 = 10) ∧ 0 ≤ (prsB s).2.2 ∧ (prsB s).2.2 ≤ 9223372036854775807 := by
  have hl : s.data.toList.length = s.size := by simp
  unfold prsB ws.prs
  split
  · rename_i h
    have : 0 < s.data.toList.length := by
      unfold ws.isNeg at h
      cases hd : s.data.toList with
      | nil => rw [hd] at h; cases h
      | cons _ _ => simp
    exact pgo_in _ _ _ (Nat.zero_le _) (by rw [List.length_drop]; omega)
  · exact pgo_in _ _ _ (Nat.zero_le _) (by omega)
theorem k_parseW (s : ByteArray) : K 53 [.tr (ts s)] [] (.ret (.tup [.tr (ti (prsB s).1), .tr (ti (prsB s).2.1), .tr (ti (prsB s).2.2)])) [] := by
  refine Ctr.ofCalls (fun _ _ => by kernel_rfl) fun g w vs hm hsz hv => ?_
  obtain ⟨v, rfl⟩ := one_arg hsz
  obtain ⟨rfl, h1⟩ := val_inv (hv 0 v (.tr (ts s)) rfl rfl)
  have h1 : s.size ≤ 9223372036854775807 := h1
  refine (ws.parse_any s w h1).mono ?_
  rintro e w' ⟨rfl, rfl⟩
  obtain ⟨⟨p1, p2⟩, p3, p4, p5⟩ := prs_in s h1
  refine ⟨_, rfl, Below.refl _ _, fun _ _ => .tup rfl fun i c a e1 e2 => ?_⟩
  match i with
  | 0 => cases e1; cases e2; exact .tr (.v ⟨p1, p2⟩)
  | 1 => cases e1; cases e2; exact .tr (.v ⟨by rcases p3 with h | h <;> (unfold prsB at h; rw [h]; decide), by rcases p3 with h | h <;> (unfold prsB at h; rw [h]; decide)⟩)
  | 2 => cases e1; cases e2; exact .tr (.v ⟨Int.le_trans (by decide) p4, p5⟩)
  | i + 3 => simp at e1
def splitBl (s : ByteArray) : List ByteArray := Lib.splitB blank 0 (Lib.countB s blank) s
theorem splitBl_len (s : ByteArray) : (splitBl s).length = Lib.countB s blank + 1 := Lib.splitB_all blank (by decide) 0 _ s rfl
theorem splitBl_lists (s : ByteArray) : (splitBl s).map (·.data.toList) = Lib.split s.data.toList [32] := Lib.splitB_data blank 0 _ s
theorem splitB_size (sep : ByteArray) (k : Nat) : ∀ s : ByteArray, ∀ x ∈ Lib.splitB sep 0 k s, x.size ≤ s.size := by
  induction k with
  | zero => intro s x hx; simp [Lib.splitB] at hx; subst hx; exact Nat.le_refl _
  | succ k ih =>
    intro s x hx
    unfold Lib.splitB at hx
    split at hx
    · simp at hx; subst hx; exact Nat.le_refl _
    · simp only [List.mem_cons] at hx
      rcases hx with rfl | hx
      · simp [ByteArray.size_extract]; omega
      · have := ih _ x hx
        simp only [ByteArray.size_extract] at this
        omega
theorem count_size (s : ByteArray) : Lib.countB s blank ≤ s.size := Lib.countB_le blank (by decide) s.size s (Nat.le_refl _)
theorem k_genSplit (s : ByteArray) (hs : s.size < 4294967281) : K 48 [.tr (ts s), .tr (ts blank), .tr (ti 0), .tr (ti (-1))] [] (.ret (.tr (strsT (splitBl s)))) [] := by
  refine Ctr.ofCalls (fun _ _ => by kernel_rfl) fun g w vs hm hsz hv => ?_
  obtain ⟨v, u, x, y, rfl⟩ := four_arg hsz
  obtain ⟨rfl, h1⟩ := val_inv (hv 0 v (.tr (ts s)) rfl rfl)
  obtain ⟨rfl, _⟩ := val_inv (hv 1 u (.tr (ts blank)) rfl rfl)
  obtain ⟨rfl, _⟩ := val_inv (hv 2 x (.tr (ti 0)) rfl rfl)
  obtain ⟨rfl, _⟩ := val_inv (hv 3 y (.tr (ti (-1))) rfl rfl)
  have hlen := splitBl_len s
  have hcs := count_size s
  have hsp : Lib.splitB blank 0 (Lib.countB s blank + 1 - 1) s = splitBl s := by rw [Nat.add_sub_cancel]; rfl
  have hsv : (0 : Nat) ≤ blank.size := Nat.zero_le _
  refine (Any.strings_genSplit_core Tryz.lays221 (by kernel_rfl) s blank 0 (-1) (Lib.countB s blank + 1) w hs (by decide) hsv (fun x c hx => ?_) ?_ (by decide) (by decide) (by rw [if_pos (by decide)]; omega)).mono ?_
  · have := Any.strings_Index_one Tryz.lays143 x 32 (w.alloc (.cells c 9))
    rw [← Lib.index_one] at this
    exact this
  · have := Any.strings_Count_one Tryz.lays138 s 32 w
    have e : Lib.countByte s.data.toList 32 = Lib.countB s blank := (Lib.count_one 32 s.data.toList).symm
    rw [e] at this
    exact this
  · rintro e w' ⟨rfl, rfl⟩
    rw [hsp, hlen]
    refine ⟨_, rfl, (Below.refl _ _).alloc (Nat.le_refl _) _, fun hG hM => .tr ?_⟩
    have hnew : (w.alloc (.cells (Lib.cellsOf (splitBl s) (Lib.countB s blank + 1)) 9)).heap[w.heap.size]? = some (.cells (Lib.cellsOf (splitBl s) (Lib.countB s blank + 1)) 9) := heap_alloc_new w _
    have hok : okB g (w.alloc (.cells (Lib.cellsOf (splitBl s) (Lib.countB s blank + 1)) 9)) w.heap.size := ⟨by simp, fun hx => by have := hm.xlt _ hx; omega, fun h ho => by have := hm.lt h _ ho; omega⟩
    have get : ∀ i row, ((splitBl s).map srow)[i]? = some row → ∃ x, (splitBl s)[i]? = some x ∧ row = [ts x] := fun i row h => by
      obtain ⟨x, h1, h2⟩ := map_get h
      exact ⟨x, h1, h2.symm⟩
    refine .lst (fun i _ => ((splitBl s)[i]?).elim default Value.string) (by rw [List.length_map, hlen]) (Nat.le_refl _) (by omega) (by omega) (fun h => by cases h) (fun i row hr => ?_) fun i row j t hr hj => ?_
    · obtain ⟨x, hx, rfl⟩ := get i row hr
      refine ⟨rfl, _, _, rfl, hok, fun j hj => ?_⟩
      have hj0 : j = 0 := by simp at hj; exact hj
      subst hj0
      have hi := (List.getElem?_eq_some_iff.1 hx).1
      rw [show 0 + i * 1 + 0 = i by omega]
      refine (cell_of_row _ w.heap.size i _ _ _ hnew).trans ?_
      rw [hx]
      unfold Lib.cellsOf
      rw [List.getElem?_toArray, List.getElem?_append_left (by simpa using hi), List.getElem?_map, hx]
      rfl
    · obtain ⟨x, hx, rfl⟩ := get i row hr
      have hj0 : j = 0 := by
        have := (List.getElem?_eq_some_iff.1 hj).1
        simp at this; exact this
      subst hj0
      simp at hj
      subst hj
      rw [hx]
      have := splitB_size blank _ s x (List.mem_of_getElem? hx)
      exact .v (Nat.le_trans this h1)
theorem k_split (s : ByteArray) (hs : s.size < 4294967281) : K 33 [.tr (ts s), .tr (ts blank)] [] (.ret (.tr (strsT (splitBl s)))) [] := by
  refine Ctr.of hT hmix Tryz.func33 rfl (fun _ _ => by kernel_rfl) rfl fun hok => ?_
  conv => whnf
  refine acall.pure _ (k_genSplit s hs) rfl rfl fun _ => ?_
  conv => whnf
  exact ⟨.inl rfl, trivial⟩

/-! cut at the first line's end -/
def nlK : ByteArray := ⟨#[10]⟩
def idxNl (s : ByteArray) : Int := Lib.indexByte s.data.toList 10
theorem idxNl_le : ∀ (l : List UInt8), Lib.indexByte l 10 ≤ l.length ∧ -1 ≤ Lib.indexByte l 10 ∧ (0 ≤ Lib.indexByte l 10 → Lib.indexByte l 10 < l.length) := by
  intro l
  induction l with
  | nil => exact ⟨by decide, by decide, by decide⟩
  | cons x l ih =>
    unfold Lib.indexByte
    have hl : ((x :: l).length : Int) = l.length + 1 := by simp
    split
    · exact ⟨by omega, by omega, by omega⟩
    · split <;> exact ⟨by omega, by omega, by omega⟩
theorem d_index (s : ByteArray) : K 47 [.tr (ts s), .tr (ts nlK)] [] (.ret (.tr (ti (idxNl s)))) [] := by
  refine Ctr.ofCalls (fun _ _ => by kernel_rfl) fun g w vs hm hsz hv => ?_
  obtain ⟨v, u, rfl⟩ := two_arg hsz
  obtain ⟨rfl, h1⟩ := val_inv (hv 0 v (.tr (ts s)) rfl rfl)
  obtain ⟨rfl, _⟩ := val_inv (hv 1 u (.tr (ts nlK)) rfl rfl)
  refine (Any.stringslite_Index_one Tryz.lays219 s 10 w).mono ?_
  rintro e w' ⟨rfl, rfl⟩
  have hi := idxNl_le s.data.toList
  have h1 : s.size ≤ 9223372036854775807 := h1
  have hl : s.data.toList.length = s.size := by simp
  exact ⟨_, rfl, Below.refl _ _, fun _ _ => .tr (.v ⟨Int.le_trans (by decide) hi.2.1, Int.le_trans hi.1 (by rw [hl]; exact Int.ofNat_le.2 h1)⟩)⟩
end Go.Proofs.YtcpolpbeimhgfaaGreatDoor.am

namespace Go.Proofs.YtcpolpbeimhgfaaGreatDoor.am
open Go Go.Proofs
structure Rd where
  l : List ByteArray
  ok : Bool
def emB : ByteArray := ⟨#[]⟩
abbrev rdB (r : Rd) : Blk := .cells 81 [.tr (strsT r.l), .tr (tb r.ok)]
def nextS (r : Rd) : ByteArray × Rd := match r.l with
  | [] => (emB, ⟨[], false⟩)
  | x :: l => (x, ⟨l, r.ok⟩)
def wordS (r : Rd) : Int × Rd := ((prsB (nextS r).1).1, ⟨(nextS r).2.l, (nextS r).2.ok && ((prsB (nextS r).1).2.1 == 0)⟩)
def numS (r : Rd) : Int × Rd := ((wordS r).1, ⟨(wordS r).2.l, (wordS r).2.ok && decide ((wordS r).1 ≥ 0)⟩)
theorem str_get {l : List ByteArray} {i : Nat} {row : List Tr} (h : (l.map srow)[i]? = some row) : ∃ x, l[i]? = some x ∧ row = srow x := by
  rw [List.getElem?_map, Option.map_eq_some_iff] at h
  obtain ⟨x, h1, rfl⟩ := h
  exact ⟨x, h1, rfl⟩
set_option maxRecDepth 100000 in
theorem d_next (r : Rd) : K 35 [.ptr 0 0] [rdB r] (.ret (.tr (ts (nextS r).1))) [some (rdB (nextS r).2)] := by
  obtain ⟨l, ok⟩ := r
  refine Ctr.of hT hmix Tryz.func35 rfl (fun _ _ => by kernel_rfl) rfl fun hok => ?_
  cases l with
  | nil =>
    clear hok
    conv => whnf
    exact ⟨.inl rfl, ⟨rfl, .inl rfl, .inl rfl, trivial⟩, trivial⟩
  | cons x l =>
    clear hok
    conv => whnf
    refine ⟨rfl, Int.le_refl _, (show (0 : Int) < (((x :: l).map srow).length : Int) by simp), fun row hrow => ?_⟩
    cases hrow
    conv => whnf
    refine ⟨rfl, (by decide), (show (1 : Int) ≤ (((x :: l).map srow).length : Int) by simp; omega), Int.le_refl _, ?_⟩
    conv => whnf
    exact ⟨.inl rfl, ⟨rfl, .inl (congrArg (Tr.lst 1 16) (show List.drop 1 (List.take (((x :: l).map srow).length : Int).toNat ((x :: l).map srow)) = l.map srow by rw [Int.toNat_natCast, List.take_length]; rfl)), .inl rfl, trivial⟩, trivial⟩
theorem d_word (r : Rd) : K 37 [.ptr 0 0] [rdB r] (.ret (.tr (ti (wordS r).1))) [some (rdB (wordS r).2)] := by
  have h1 := d_next r
  have h2 := k_parseW (nextS r).1
  unfold wordS
  generalize nextS r = N at h1 h2
  obtain ⟨s, l, ok⟩ := N
  simp only at h1 h2 ⊢
  generalize prsB s = P at h2
  obtain ⟨p, e, k⟩ := P
  simp only at h2 ⊢
  refine Ctr.of hT hmix Tryz.func37 rfl (fun _ _ => by kernel_rfl) rfl fun hok => ?_
  clear hok
  conv => whnf
  refine acall.au [0] [] (h1) ?_
  intro _
  conv => whnf
  refine acall.pure _ (h2) rfl rfl fun _ => ?_
  conv => whnf
  cases ok
  · conv => whnf
    exact ⟨.inl rfl, ⟨rfl, .inl rfl, .inl rfl, trivial⟩, trivial⟩
  · conv => whnf
    exact ⟨.inl rfl, ⟨rfl, .inl rfl, .inl rfl, trivial⟩, trivial⟩
theorem d_num (r : Rd) : K 34 [.ptr 0 0] [rdB r] (.ret (.tr (ti (numS r).1))) [some (rdB (numS r).2)] := by
  have h1 := d_word r
  unfold numS
  generalize wordS r = N at h1
  obtain ⟨w, l, ok⟩ := N
  simp only at h1 ⊢
  refine Ctr.of hT hmix Tryz.func34 rfl (fun _ _ => by kernel_rfl) rfl fun hok => ?_
  clear hok
  conv => whnf
  refine acall.au [0] [] (h1) ?_
  intro _
  conv => whnf
  cases ok
  · conv => whnf
    exact ⟨.inl rfl, ⟨rfl, .inl rfl, .inl rfl, trivial⟩, trivial⟩
  · conv => whnf
    exact ⟨.inl rfl, ⟨rfl, .inl rfl, .inl rfl, trivial⟩, trivial⟩
end Go.Proofs.YtcpolpbeimhgfaaGreatDoor.am

namespace Go.Proofs.YtcpolpbeimhgfaaGreatDoor.am
open Go Go.Proofs
/-- a form's word, and what stands behind it -/
structure Frm where
  word : ByteArray
  addr : Bool
  word1 : Bool
  put : Bool
  own : Bool
def frmL : List Frm := [⟨⟨#[]⟩, false, false, false, false⟩, ⟨⟨#[99, 111, 109, 112, 117, 116, 101]⟩, false, false, false, false⟩, ⟨⟨#[108, 111, 97, 100]⟩, true, true, false, true⟩, ⟨⟨#[115, 116, 111, 114, 101]⟩, true, true, false, false⟩, ⟨⟨#[115, 119, 97, 112]⟩, true, true, true, false⟩, ⟨⟨#[102, 101, 110, 99, 101]⟩, false, false, false, false⟩, ⟨⟨#[112, 114, 105, 110, 116]⟩, false, true, false, false⟩, ⟨⟨#[104, 97, 108, 116]⟩, false, false, false, false⟩, ⟨⟨#[100, 114, 97, 105, 110]⟩, true, true, false, false⟩]
def ownW : ByteArray := ⟨#[111, 119, 110]⟩
abbrev LnS := Did × Rd
def addrS (b : Bool) (x : LnS) : LnS := bif b then ({ x.1 with addr := (numS x.2).1 }, (numS x.2).2) else x
def wrdS (b : Bool) (x : LnS) : LnS := bif b then ({ x.1 with word := (wordS x.2).1 }, (wordS x.2).2) else x
def putS (b : Bool) (x : LnS) : LnS := bif b then ({ x.1 with put := (wordS x.2).1 }, (wordS x.2).2) else x
def hasOwn (l : List ByteArray) : Bool := match l with
  | [s] => s.toList == ownW.toList
  | _ => false
def ownS (b : Bool) (x : LnS) : LnS := bif b && hasOwn x.2.l then ({ x.1 with own := true }, (nextS x.2).2) else x
def frmS (f : Frm) (x : LnS) : LnS := ownS f.own (putS f.put (wrdS f.word1 (addrS f.addr x)))
def frmK (w : ByteArray) (k : Nat) (f : Frm) (x : LnS) : LnS := bif f.word.toList == emB.toList || f.word.toList != w.toList then x else frmS f ({ x.1 with kind := k }, x.2)
def frmG (w : ByteArray) : List Frm → Nat → LnS → LnS
  | [], _, x => x
  | f :: l, k, x => frmG w l (k + 1) (frmK w k f x)
def did0 (s : ByteArray) : LnS := ({ kind := 0, core := (numS ⟨splitBl s, true⟩).1, at_ := (numS (numS ⟨splitBl s, true⟩).2).1, addr := 0, word := 0, put := 0, own := false }, (numS (numS ⟨splitBl s, true⟩).2).2)
def didL (s : ByteArray) : LnS := frmG (nextS (did0 s).2).1 frmL 0 ((did0 s).1, (nextS (did0 s).2).2)
def didOk (x : LnS) : Bool := x.2.ok && (rightD x.1 && (x.2.l.length == 0))
set_option maxRecDepth 100000 in
set_option maxHeartbeats 4000000 in
theorem d_did (s : ByteArray) (hs : s.size < 4294967281) : K 19 [.tr (ts s)] [] (.ret (.tup [(didL s).1.av, .tr (tb (didOk (didL s)))])) [] := by
  have h1 := k_split s hs
  have hfo := t_forms
  have h2 := d_num ⟨splitBl s, true⟩
  have h3 := d_num (numS ⟨splitBl s, true⟩).2
  have h4 := d_next (numS (numS ⟨splitBl s, true⟩).2).2
  generalize hL : didL s = L
  unfold didL did0 at hL
  generalize splitBl s = l0 at h1 h2 h3 h4 hL
  generalize numS ⟨l0, true⟩ = N1 at h2 h3 h4 hL
  obtain ⟨n1, r1⟩ := N1
  simp only at h2 h3 h4 hL
  generalize numS r1 = N2 at h3 h4 hL
  obtain ⟨n2, r2⟩ := N2
  simp only at h3 h4 hL
  generalize nextS r2 = N3 at h4 hL
  obtain ⟨w, r3⟩ := N3
  simp only at h4 hL
  refine Ctr.new [] hT hmix Tryz.func19 rfl (fun _ _ => by kernel_rfl) rfl fun hok => ?_
  clear hok
  conv => whnf
  refine acall.pure _ (h1) rfl rfl fun _ => ?_
  conv => whnf
  refine acall.gen [5] [] _ _ _ _ h2 rfl rfl rfl rfl aut ⟨⟨rfl, .inl rfl, .inl rfl, trivial⟩, trivial⟩ rfl rfl fun _ => ?_
  conv => whnf
  refine acall.gen [5] [] _ _ _ _ h3 rfl rfl rfl rfl aut ⟨⟨rfl, .inl rfl, .inl rfl, trivial⟩, trivial⟩ rfl rfl fun _ => ?_
  conv => whnf
  refine acall.gen [5] [] _ _ _ _ h4 rfl rfl rfl rfl aut ⟨⟨rfl, .inl rfl, .inl rfl, trivial⟩, trivial⟩ rfl rfl fun _ => ?_
  conv => whnf
  refine acall.pure _ (hfo) rfl rfl fun _ => ?_
  conv => whnf
  obtain ⟨rl3, ro3⟩ := r3
  refine LoopL.by (fun x : Nat × (Did × Rd) => ⟨[(2, .ptr 0 0), (4, .ptr 1 0), (5, .ptr 2 0), (6, .tr (ts w)), (22, formsA), (23, .tr (ti x.1))], [(0, diB ⟨0, 0, 0, 0, 0, 0, false⟩), (1, rdB x.2.2), (2, diB x.2.1)], 10⟩) (fun x => x.1 ≤ 9 ∧ frmG w (frmL.drop x.1) x.1 x.2 = L) (fun x => 9 - x.1) (0, _, _) [_, _, _] []
    (Sub.mk' rfl ⟨⟨rfl, rfl⟩, ⟨rfl, rfl⟩, ⟨rfl, rfl⟩, .inl rfl, ⟨.inl rfl, .inl rfl, .inl rfl, .inl rfl, .inl rfl, .inl rfl, .inl rfl, .inl rfl, .inl rfl, .inl rfl, .inl rfl, ⟨rfl, rfl, trivial⟩, .inl rfl, .inl rfl, .inl rfl, .inl rfl, .inl rfl, ⟨rfl, rfl, trivial⟩, .inl rfl, .inl rfl, .inl rfl, .inl rfl, .inl rfl, ⟨rfl, rfl, trivial⟩, .inl rfl, .inl rfl, .inl rfl, .inl rfl, .inl rfl, ⟨rfl, trivial⟩, .inl rfl, .inl rfl, .inl rfl, .inl rfl, .inl rfl, ⟨rfl, rfl, trivial⟩, .inl rfl, .inl rfl, .inl rfl, .inl rfl, .inl rfl, ⟨rfl, rfl, trivial⟩, .inl rfl, .inl rfl, .inl rfl, .inl rfl, .inl rfl, ⟨rfl, rfl, trivial⟩, .inl rfl, .inl rfl, .inl rfl, .inl rfl, .inl rfl, ⟨rfl, trivial⟩, trivial⟩, .inl rfl, trivial⟩ ⟨⟨rfl, .inl rfl, .inl rfl, .inl rfl, .inl rfl, .inl rfl, .inl rfl, .inl rfl, trivial⟩, ⟨rfl, .inl rfl, .inl rfl, trivial⟩, ⟨rfl, .inl rfl, .inl rfl, .inl rfl, .inl rfl, .inl rfl, .inl rfl, .inl rfl, trivial⟩, trivial⟩ rfl rfl) ⟨Nat.zero_le _, hL⟩ ?_
  rintro ⟨k, ⟨dk, dc, da, dd, dw, dp, dn⟩, l, ok⟩ ⟨hk, hLk⟩ -
  simp only at hk hLk
  have hk' : k = 0 ∨ k = 1 ∨ k = 2 ∨ k = 3 ∨ k = 4 ∨ k = 5 ∨ k = 6 ∨ k = 7 ∨ k = 8 ∨ k = 9 := by omega
  clear hk h1 h2 h3 h4 hfo hL
  rcases hk' with rfl | rfl | rfl | rfl | rfl | rfl | rfl | rfl | rfl | rfl
  · have ek : ((⟨#[]⟩ : ByteArray).toList == (⟨#[]⟩ : ByteArray).toList) = true := by simp only [ByteArray.toList_eq]; rfl
    replace hLk : frmG w (frmL.drop 1) 1 (bif (⟨#[]⟩ : ByteArray).toList == (⟨#[]⟩ : ByteArray).toList || (⟨#[]⟩ : ByteArray).toList != w.toList then (⟨dk, dc, da, dd, dw, dp, dn⟩, ⟨l, ok⟩) else frmS ⟨⟨#[]⟩, false, false, false, false⟩ (⟨0, dc, da, dd, dw, dp, dn⟩, ⟨l, ok⟩)) = L := hLk
    rw [ek] at hLk
    conv => whnf
    refine ⟨(show (0 : Int) ≤ (0 : Nat) by decide), (show ((0 : Nat) : Int) < 9 by decide), Nat.le_of_ble_eq_true rfl, ?_⟩
    conv => whnf
    rw [ek]
    conv => whnf
    refine ⟨fun _ => ?_, fun h => absurd rfl h⟩
    conv => whnf
    exact ⟨(1, ⟨dk, dc, da, dd, dw, dp, dn⟩, ⟨l, ok⟩), [0, 1, 2], [], Sub.mk' rfl ⟨⟨rfl, rfl⟩, ⟨rfl, rfl⟩, ⟨rfl, rfl⟩, .inl rfl, ⟨.inl rfl, .inl rfl, .inl rfl, .inl rfl, .inl rfl, .inl rfl, .inl rfl, .inl rfl, .inl rfl, .inl rfl, .inl rfl, ⟨rfl, rfl, trivial⟩, .inl rfl, .inl rfl, .inl rfl, .inl rfl, .inl rfl, ⟨rfl, rfl, trivial⟩, .inl rfl, .inl rfl, .inl rfl, .inl rfl, .inl rfl, ⟨rfl, rfl, trivial⟩, .inl rfl, .inl rfl, .inl rfl, .inl rfl, .inl rfl, ⟨rfl, trivial⟩, .inl rfl, .inl rfl, .inl rfl, .inl rfl, .inl rfl, ⟨rfl, rfl, trivial⟩, .inl rfl, .inl rfl, .inl rfl, .inl rfl, .inl rfl, ⟨rfl, rfl, trivial⟩, .inl rfl, .inl rfl, .inl rfl, .inl rfl, .inl rfl, ⟨rfl, rfl, trivial⟩, .inl rfl, .inl rfl, .inl rfl, .inl rfl, .inl rfl, ⟨rfl, trivial⟩, trivial⟩, .inl rfl, trivial⟩ ⟨⟨rfl, .inl rfl, .inl rfl, .inl rfl, .inl rfl, .inl rfl, .inl rfl, .inl rfl, trivial⟩, ⟨rfl, .inl rfl, .inl rfl, trivial⟩, ⟨rfl, .inl rfl, .inl rfl, .inl rfl, .inl rfl, .inl rfl, .inl rfl, .inl rfl, trivial⟩, trivial⟩ rfl rfl, ⟨(show (1 : Nat) ≤ 9 by decide), hLk⟩, (show (9 : Nat) - 1 < 9 - 0 by decide)⟩
  · have ek : ((⟨#[99, 111, 109, 112, 117, 116, 101]⟩ : ByteArray).toList == (⟨#[]⟩ : ByteArray).toList) = false := by simp only [ByteArray.toList_eq]; rfl
    replace hLk : frmG w (frmL.drop 2) 2 (bif (⟨#[99, 111, 109, 112, 117, 116, 101]⟩ : ByteArray).toList == (⟨#[]⟩ : ByteArray).toList || (⟨#[99, 111, 109, 112, 117, 116, 101]⟩ : ByteArray).toList != w.toList then (⟨dk, dc, da, dd, dw, dp, dn⟩, ⟨l, ok⟩) else frmS ⟨⟨#[99, 111, 109, 112, 117, 116, 101]⟩, false, false, false, false⟩ (⟨1, dc, da, dd, dw, dp, dn⟩, ⟨l, ok⟩)) = L := hLk
    rw [ek] at hLk
    conv => whnf
    refine ⟨(show (0 : Int) ≤ (1 : Nat) by decide), (show ((1 : Nat) : Int) < 9 by decide), Nat.le_of_ble_eq_true rfl, ?_⟩
    conv => whnf
    rw [ek]
    conv => whnf
    refine csplit (fun hw => ?_) (fun hw => ?_)
    · replace hw : ((⟨#[99, 111, 109, 112, 117, 116, 101]⟩ : ByteArray).toList != w.toList) = true := hw
      rw [hw] at hLk
      conv => whnf
      refine ⟨fun _ => ?_, fun h => absurd rfl h⟩
      conv => whnf
      exact ⟨(2, ⟨dk, dc, da, dd, dw, dp, dn⟩, ⟨l, ok⟩), [0, 1, 2], [], Sub.mk' rfl ⟨⟨rfl, rfl⟩, ⟨rfl, rfl⟩, ⟨rfl, rfl⟩, .inl rfl, ⟨.inl rfl, .inl rfl, .inl rfl, .inl rfl, .inl rfl, .inl rfl, .inl rfl, .inl rfl, .inl rfl, .inl rfl, .inl rfl, ⟨rfl, rfl, trivial⟩, .inl rfl, .inl rfl, .inl rfl, .inl rfl, .inl rfl, ⟨rfl, rfl, trivial⟩, .inl rfl, .inl rfl, .inl rfl, .inl rfl, .inl rfl, ⟨rfl, rfl, trivial⟩, .inl rfl, .inl rfl, .inl rfl, .inl rfl, .inl rfl, ⟨rfl, trivial⟩, .inl rfl, .inl rfl, .inl rfl, .inl rfl, .inl rfl, ⟨rfl, rfl, trivial⟩, .inl rfl, .inl rfl, .inl rfl, .inl rfl, .inl rfl, ⟨rfl, rfl, trivial⟩, .inl rfl, .inl rfl, .inl rfl, .inl rfl, .inl rfl, ⟨rfl, rfl, trivial⟩, .inl rfl, .inl rfl, .inl rfl, .inl rfl, .inl rfl, ⟨rfl, trivial⟩, trivial⟩, .inl rfl, trivial⟩ ⟨⟨rfl, .inl rfl, .inl rfl, .inl rfl, .inl rfl, .inl rfl, .inl rfl, .inl rfl, trivial⟩, ⟨rfl, .inl rfl, .inl rfl, trivial⟩, ⟨rfl, .inl rfl, .inl rfl, .inl rfl, .inl rfl, .inl rfl, .inl rfl, .inl rfl, trivial⟩, trivial⟩ rfl rfl, ⟨(show (2 : Nat) ≤ 9 by decide), hLk⟩, (show (9 : Nat) - 2 < 9 - 1 by decide)⟩
    replace hw : ((⟨#[99, 111, 109, 112, 117, 116, 101]⟩ : ByteArray).toList != w.toList) = false := hw
    rw [hw] at hLk
    clear hw ek
    replace hLk : frmG w (frmL.drop 2) 2 (frmS ⟨⟨#[99, 111, 109, 112, 117, 116, 101]⟩, false, false, false, false⟩ (⟨1, dc, da, dd, dw, dp, dn⟩, ⟨l, ok⟩)) = L := hLk
    unfold frmS at hLk
    simp only [addrS, wrdS, putS, ownS, cond_true, cond_false, Bool.true_and, Bool.false_and] at hLk
    conv => whnf
    exact ⟨(2, ⟨1, dc, da, dd, dw, dp, dn⟩, ⟨l, ok⟩), [0, 1, 2], [], Sub.mk' rfl ⟨⟨rfl, rfl⟩, ⟨rfl, rfl⟩, ⟨rfl, rfl⟩, .inl rfl, ⟨.inl rfl, .inl rfl, .inl rfl, .inl rfl, .inl rfl, .inl rfl, .inl rfl, .inl rfl, .inl rfl, .inl rfl, .inl rfl, ⟨rfl, rfl, trivial⟩, .inl rfl, .inl rfl, .inl rfl, .inl rfl, .inl rfl, ⟨rfl, rfl, trivial⟩, .inl rfl, .inl rfl, .inl rfl, .inl rfl, .inl rfl, ⟨rfl, rfl, trivial⟩, .inl rfl, .inl rfl, .inl rfl, .inl rfl, .inl rfl, ⟨rfl, trivial⟩, .inl rfl, .inl rfl, .inl rfl, .inl rfl, .inl rfl, ⟨rfl, rfl, trivial⟩, .inl rfl, .inl rfl, .inl rfl, .inl rfl, .inl rfl, ⟨rfl, rfl, trivial⟩, .inl rfl, .inl rfl, .inl rfl, .inl rfl, .inl rfl, ⟨rfl, rfl, trivial⟩, .inl rfl, .inl rfl, .inl rfl, .inl rfl, .inl rfl, ⟨rfl, trivial⟩, trivial⟩, .inl rfl, trivial⟩ ⟨⟨rfl, .inl rfl, .inl rfl, .inl rfl, .inl rfl, .inl rfl, .inl rfl, .inl rfl, trivial⟩, ⟨rfl, .inl rfl, .inl rfl, trivial⟩, ⟨rfl, .inl rfl, .inl rfl, .inl rfl, .inl rfl, .inl rfl, .inl rfl, .inl rfl, trivial⟩, trivial⟩ rfl rfl, ⟨(show (2 : Nat) ≤ 9 by decide), hLk⟩, (show (9 : Nat) - 2 < 9 - 1 by decide)⟩
  · have ek : ((⟨#[108, 111, 97, 100]⟩ : ByteArray).toList == (⟨#[]⟩ : ByteArray).toList) = false := by simp only [ByteArray.toList_eq]; rfl
    replace hLk : frmG w (frmL.drop 3) 3 (bif (⟨#[108, 111, 97, 100]⟩ : ByteArray).toList == (⟨#[]⟩ : ByteArray).toList || (⟨#[108, 111, 97, 100]⟩ : ByteArray).toList != w.toList then (⟨dk, dc, da, dd, dw, dp, dn⟩, ⟨l, ok⟩) else frmS ⟨⟨#[108, 111, 97, 100]⟩, true, true, false, true⟩ (⟨2, dc, da, dd, dw, dp, dn⟩, ⟨l, ok⟩)) = L := hLk
    rw [ek] at hLk
    conv => whnf
    refine ⟨(show (0 : Int) ≤ (2 : Nat) by decide), (show ((2 : Nat) : Int) < 9 by decide), Nat.le_of_ble_eq_true rfl, ?_⟩
    conv => whnf
    rw [ek]
    conv => whnf
    refine csplit (fun hw => ?_) (fun hw => ?_)
    · replace hw : ((⟨#[108, 111, 97, 100]⟩ : ByteArray).toList != w.toList) = true := hw
      rw [hw] at hLk
      conv => whnf
      refine ⟨fun _ => ?_, fun h => absurd rfl h⟩
      conv => whnf
      exact ⟨(3, ⟨dk, dc, da, dd, dw, dp, dn⟩, ⟨l, ok⟩), [0, 1, 2], [], Sub.mk' rfl ⟨⟨rfl, rfl⟩, ⟨rfl, rfl⟩, ⟨rfl, rfl⟩, .inl rfl, ⟨.inl rfl, .inl rfl, .inl rfl, .inl rfl, .inl rfl, .inl rfl, .inl rfl, .inl rfl, .inl rfl, .inl rfl, .inl rfl, ⟨rfl, rfl, trivial⟩, .inl rfl, .inl rfl, .inl rfl, .inl rfl, .inl rfl, ⟨rfl, rfl, trivial⟩, .inl rfl, .inl rfl, .inl rfl, .inl rfl, .inl rfl, ⟨rfl, rfl, trivial⟩, .inl rfl, .inl rfl, .inl rfl, .inl rfl, .inl rfl, ⟨rfl, trivial⟩, .inl rfl, .inl rfl, .inl rfl, .inl rfl, .inl rfl, ⟨rfl, rfl, trivial⟩, .inl rfl, .inl rfl, .inl rfl, .inl rfl, .inl rfl, ⟨rfl, rfl, trivial⟩, .inl rfl, .inl rfl, .inl rfl, .inl rfl, .inl rfl, ⟨rfl, rfl, trivial⟩, .inl rfl, .inl rfl, .inl rfl, .inl rfl, .inl rfl, ⟨rfl, trivial⟩, trivial⟩, .inl rfl, trivial⟩ ⟨⟨rfl, .inl rfl, .inl rfl, .inl rfl, .inl rfl, .inl rfl, .inl rfl, .inl rfl, trivial⟩, ⟨rfl, .inl rfl, .inl rfl, trivial⟩, ⟨rfl, .inl rfl, .inl rfl, .inl rfl, .inl rfl, .inl rfl, .inl rfl, .inl rfl, trivial⟩, trivial⟩ rfl rfl, ⟨(show (3 : Nat) ≤ 9 by decide), hLk⟩, (show (9 : Nat) - 3 < 9 - 2 by decide)⟩
    replace hw : ((⟨#[108, 111, 97, 100]⟩ : ByteArray).toList != w.toList) = false := hw
    rw [hw] at hLk
    clear hw ek
    replace hLk : frmG w (frmL.drop 3) 3 (frmS ⟨⟨#[108, 111, 97, 100]⟩, true, true, false, true⟩ (⟨2, dc, da, dd, dw, dp, dn⟩, ⟨l, ok⟩)) = L := hLk
    unfold frmS at hLk
    simp only [addrS, wrdS, putS, ownS, cond_true, cond_false, Bool.true_and, Bool.false_and] at hLk
    conv => whnf
    have hn := d_num ⟨l, ok⟩
    generalize numS ⟨l, ok⟩ = Na at hn hLk
    obtain ⟨xa, la, oa⟩ := Na
    simp only at hn hLk
    refine acall.gen [1] [] _ _ _ _ hn rfl rfl rfl rfl aut ⟨⟨rfl, .inl rfl, .inl rfl, trivial⟩, trivial⟩ rfl rfl fun _ => ?_
    conv => whnf
    have hv := d_word ⟨la, oa⟩
    generalize wordS ⟨la, oa⟩ = Nw at hv hLk
    obtain ⟨xw, lw, ow⟩ := Nw
    simp only at hv hLk
    refine acall.gen [1] [] _ _ _ _ hv rfl rfl rfl rfl aut ⟨⟨rfl, .inl rfl, .inl rfl, trivial⟩, trivial⟩ rfl rfl fun _ => ?_
    conv => whnf
    rcases lw with _ | ⟨s1, _ | ⟨s2, t⟩⟩
    · replace hLk : frmG w (frmL.drop 3) 3 (⟨2, dc, da, xa, xw, dp, dn⟩, ⟨[], ow⟩) = L := hLk
      conv => whnf
      exact ⟨(3, ⟨2, dc, da, xa, xw, dp, dn⟩, ⟨[], ow⟩), [0, 1, 2], [], Sub.mk' rfl ⟨⟨rfl, rfl⟩, ⟨rfl, rfl⟩, ⟨rfl, rfl⟩, .inl rfl, ⟨.inl rfl, .inl rfl, .inl rfl, .inl rfl, .inl rfl, .inl rfl, .inl rfl, .inl rfl, .inl rfl, .inl rfl, .inl rfl, ⟨rfl, rfl, trivial⟩, .inl rfl, .inl rfl, .inl rfl, .inl rfl, .inl rfl, ⟨rfl, rfl, trivial⟩, .inl rfl, .inl rfl, .inl rfl, .inl rfl, .inl rfl, ⟨rfl, rfl, trivial⟩, .inl rfl, .inl rfl, .inl rfl, .inl rfl, .inl rfl, ⟨rfl, trivial⟩, .inl rfl, .inl rfl, .inl rfl, .inl rfl, .inl rfl, ⟨rfl, rfl, trivial⟩, .inl rfl, .inl rfl, .inl rfl, .inl rfl, .inl rfl, ⟨rfl, rfl, trivial⟩, .inl rfl, .inl rfl, .inl rfl, .inl rfl, .inl rfl, ⟨rfl, rfl, trivial⟩, .inl rfl, .inl rfl, .inl rfl, .inl rfl, .inl rfl, ⟨rfl, trivial⟩, trivial⟩, .inl rfl, trivial⟩ ⟨⟨rfl, .inl rfl, .inl rfl, .inl rfl, .inl rfl, .inl rfl, .inl rfl, .inl rfl, trivial⟩, ⟨rfl, .inl rfl, .inl rfl, trivial⟩, ⟨rfl, .inl rfl, .inl rfl, .inl rfl, .inl rfl, .inl rfl, .inl rfl, .inl rfl, trivial⟩, trivial⟩ rfl rfl, ⟨(show (3 : Nat) ≤ 9 by decide), hLk⟩, (show (9 : Nat) - 3 < 9 - 2 by decide)⟩
    · replace hLk : frmG w (frmL.drop 3) 3 (bif s1.toList == ownW.toList then (⟨2, dc, da, xa, xw, dp, true⟩, ⟨[], ow⟩) else (⟨2, dc, da, xa, xw, dp, dn⟩, ⟨[s1], ow⟩)) = L := hLk
      conv => whnf
      refine ⟨rfl, Int.le_refl _, (show (0 : Int) < (([s1].map srow).length : Int) by simp), fun row hrow => ?_⟩
      cases hrow
      conv => whnf
      refine csplit (fun ho => ?_) (fun ho => ?_)
      · replace ho : (s1.toList == ownW.toList) = true := ho
        rw [ho] at hLk
        have hx := d_next ⟨[s1], ow⟩
        conv => whnf
        refine acall.gen [1] [] _ _ _ _ hx rfl rfl rfl rfl aut ⟨⟨rfl, .inl rfl, .inl rfl, trivial⟩, trivial⟩ rfl rfl fun _ => ?_
        conv => whnf
        exact ⟨(3, ⟨2, dc, da, xa, xw, dp, true⟩, ⟨[], ow⟩), [0, 1, 2], [], Sub.mk' rfl ⟨⟨rfl, rfl⟩, ⟨rfl, rfl⟩, ⟨rfl, rfl⟩, .inl rfl, ⟨.inl rfl, .inl rfl, .inl rfl, .inl rfl, .inl rfl, .inl rfl, .inl rfl, .inl rfl, .inl rfl, .inl rfl, .inl rfl, ⟨rfl, rfl, trivial⟩, .inl rfl, .inl rfl, .inl rfl, .inl rfl, .inl rfl, ⟨rfl, rfl, trivial⟩, .inl rfl, .inl rfl, .inl rfl, .inl rfl, .inl rfl, ⟨rfl, rfl, trivial⟩, .inl rfl, .inl rfl, .inl rfl, .inl rfl, .inl rfl, ⟨rfl, trivial⟩, .inl rfl, .inl rfl, .inl rfl, .inl rfl, .inl rfl, ⟨rfl, rfl, trivial⟩, .inl rfl, .inl rfl, .inl rfl, .inl rfl, .inl rfl, ⟨rfl, rfl, trivial⟩, .inl rfl, .inl rfl, .inl rfl, .inl rfl, .inl rfl, ⟨rfl, rfl, trivial⟩, .inl rfl, .inl rfl, .inl rfl, .inl rfl, .inl rfl, ⟨rfl, trivial⟩, trivial⟩, .inl rfl, trivial⟩ ⟨⟨rfl, .inl rfl, .inl rfl, .inl rfl, .inl rfl, .inl rfl, .inl rfl, .inl rfl, trivial⟩, ⟨rfl, .inl rfl, .inl rfl, trivial⟩, ⟨rfl, .inl rfl, .inl rfl, .inl rfl, .inl rfl, .inl rfl, .inl rfl, .inl rfl, trivial⟩, trivial⟩ rfl rfl, ⟨(show (3 : Nat) ≤ 9 by decide), hLk⟩, (show (9 : Nat) - 3 < 9 - 2 by decide)⟩
      · replace ho : (s1.toList == ownW.toList) = false := ho
        rw [ho] at hLk
        conv => whnf
        exact ⟨(3, ⟨2, dc, da, xa, xw, dp, dn⟩, ⟨[s1], ow⟩), [0, 1, 2], [], Sub.mk' rfl ⟨⟨rfl, rfl⟩, ⟨rfl, rfl⟩, ⟨rfl, rfl⟩, .inl rfl, ⟨.inl rfl, .inl rfl, .inl rfl, .inl rfl, .inl rfl, .inl rfl, .inl rfl, .inl rfl, .inl rfl, .inl rfl, .inl rfl, ⟨rfl, rfl, trivial⟩, .inl rfl, .inl rfl, .inl rfl, .inl rfl, .inl rfl, ⟨rfl, rfl, trivial⟩, .inl rfl, .inl rfl, .inl rfl, .inl rfl, .inl rfl, ⟨rfl, rfl, trivial⟩, .inl rfl, .inl rfl, .inl rfl, .inl rfl, .inl rfl, ⟨rfl, trivial⟩, .inl rfl, .inl rfl, .inl rfl, .inl rfl, .inl rfl, ⟨rfl, rfl, trivial⟩, .inl rfl, .inl rfl, .inl rfl, .inl rfl, .inl rfl, ⟨rfl, rfl, trivial⟩, .inl rfl, .inl rfl, .inl rfl, .inl rfl, .inl rfl, ⟨rfl, rfl, trivial⟩, .inl rfl, .inl rfl, .inl rfl, .inl rfl, .inl rfl, ⟨rfl, trivial⟩, trivial⟩, .inl rfl, trivial⟩ ⟨⟨rfl, .inl rfl, .inl rfl, .inl rfl, .inl rfl, .inl rfl, .inl rfl, .inl rfl, trivial⟩, ⟨rfl, .inl rfl, .inl rfl, trivial⟩, ⟨rfl, .inl rfl, .inl rfl, .inl rfl, .inl rfl, .inl rfl, .inl rfl, .inl rfl, trivial⟩, trivial⟩ rfl rfl, ⟨(show (3 : Nat) ≤ 9 by decide), hLk⟩, (show (9 : Nat) - 3 < 9 - 2 by decide)⟩
    · replace hLk : frmG w (frmL.drop 3) 3 (⟨2, dc, da, xa, xw, dp, dn⟩, ⟨s1 :: s2 :: t, ow⟩) = L := hLk
      have hl : ((((s1 :: s2 :: t).map srow).length : Int) == 1) = false := by simp; omega
      conv in (_ == _) => (change ((((s1 :: s2 :: t).map srow).length : Int) == 1); rw [hl])
      conv => whnf
      exact ⟨(3, ⟨2, dc, da, xa, xw, dp, dn⟩, ⟨s1 :: s2 :: t, ow⟩), [0, 1, 2], [], Sub.mk' rfl ⟨⟨rfl, rfl⟩, ⟨rfl, rfl⟩, ⟨rfl, rfl⟩, .inl rfl, ⟨.inl rfl, .inl rfl, .inl rfl, .inl rfl, .inl rfl, .inl rfl, .inl rfl, .inl rfl, .inl rfl, .inl rfl, .inl rfl, ⟨rfl, rfl, trivial⟩, .inl rfl, .inl rfl, .inl rfl, .inl rfl, .inl rfl, ⟨rfl, rfl, trivial⟩, .inl rfl, .inl rfl, .inl rfl, .inl rfl, .inl rfl, ⟨rfl, rfl, trivial⟩, .inl rfl, .inl rfl, .inl rfl, .inl rfl, .inl rfl, ⟨rfl, trivial⟩, .inl rfl, .inl rfl, .inl rfl, .inl rfl, .inl rfl, ⟨rfl, rfl, trivial⟩, .inl rfl, .inl rfl, .inl rfl, .inl rfl, .inl rfl, ⟨rfl, rfl, trivial⟩, .inl rfl, .inl rfl, .inl rfl, .inl rfl, .inl rfl, ⟨rfl, rfl, trivial⟩, .inl rfl, .inl rfl, .inl rfl, .inl rfl, .inl rfl, ⟨rfl, trivial⟩, trivial⟩, .inl rfl, trivial⟩ ⟨⟨rfl, .inl rfl, .inl rfl, .inl rfl, .inl rfl, .inl rfl, .inl rfl, .inl rfl, trivial⟩, ⟨rfl, .inl rfl, .inl rfl, trivial⟩, ⟨rfl, .inl rfl, .inl rfl, .inl rfl, .inl rfl, .inl rfl, .inl rfl, .inl rfl, trivial⟩, trivial⟩ rfl rfl, ⟨(show (3 : Nat) ≤ 9 by decide), hLk⟩, (show (9 : Nat) - 3 < 9 - 2 by decide)⟩
  · have ek : ((⟨#[115, 116, 111, 114, 101]⟩ : ByteArray).toList == (⟨#[]⟩ : ByteArray).toList) = false := by simp only [ByteArray.toList_eq]; rfl
    replace hLk : frmG w (frmL.drop 4) 4 (bif (⟨#[115, 116, 111, 114, 101]⟩ : ByteArray).toList == (⟨#[]⟩ : ByteArray).toList || (⟨#[115, 116, 111, 114, 101]⟩ : ByteArray).toList != w.toList then (⟨dk, dc, da, dd, dw, dp, dn⟩, ⟨l, ok⟩) else frmS ⟨⟨#[115, 116, 111, 114, 101]⟩, true, true, false, false⟩ (⟨3, dc, da, dd, dw, dp, dn⟩, ⟨l, ok⟩)) = L := hLk
    rw [ek] at hLk
    conv => whnf
    refine ⟨(show (0 : Int) ≤ (3 : Nat) by decide), (show ((3 : Nat) : Int) < 9 by decide), Nat.le_of_ble_eq_true rfl, ?_⟩
    conv => whnf
    rw [ek]
    conv => whnf
    refine csplit (fun hw => ?_) (fun hw => ?_)
    · replace hw : ((⟨#[115, 116, 111, 114, 101]⟩ : ByteArray).toList != w.toList) = true := hw
      rw [hw] at hLk
      conv => whnf
      refine ⟨fun _ => ?_, fun h => absurd rfl h⟩
      conv => whnf
      exact ⟨(4, ⟨dk, dc, da, dd, dw, dp, dn⟩, ⟨l, ok⟩), [0, 1, 2], [], Sub.mk' rfl ⟨⟨rfl, rfl⟩, ⟨rfl, rfl⟩, ⟨rfl, rfl⟩, .inl rfl, ⟨.inl rfl, .inl rfl, .inl rfl, .inl rfl, .inl rfl, .inl rfl, .inl rfl, .inl rfl, .inl rfl, .inl rfl, .inl rfl, ⟨rfl, rfl, trivial⟩, .inl rfl, .inl rfl, .inl rfl, .inl rfl, .inl rfl, ⟨rfl, rfl, trivial⟩, .inl rfl, .inl rfl, .inl rfl, .inl rfl, .inl rfl, ⟨rfl, rfl, trivial⟩, .inl rfl, .inl rfl, .inl rfl, .inl rfl, .inl rfl, ⟨rfl, trivial⟩, .inl rfl, .inl rfl, .inl rfl, .inl rfl, .inl rfl, ⟨rfl, rfl, trivial⟩, .inl rfl, .inl rfl, .inl rfl, .inl rfl, .inl rfl, ⟨rfl, rfl, trivial⟩, .inl rfl, .inl rfl, .inl rfl, .inl rfl, .inl rfl, ⟨rfl, rfl, trivial⟩, .inl rfl, .inl rfl, .inl rfl, .inl rfl, .inl rfl, ⟨rfl, trivial⟩, trivial⟩, .inl rfl, trivial⟩ ⟨⟨rfl, .inl rfl, .inl rfl, .inl rfl, .inl rfl, .inl rfl, .inl rfl, .inl rfl, trivial⟩, ⟨rfl, .inl rfl, .inl rfl, trivial⟩, ⟨rfl, .inl rfl, .inl rfl, .inl rfl, .inl rfl, .inl rfl, .inl rfl, .inl rfl, trivial⟩, trivial⟩ rfl rfl, ⟨(show (4 : Nat) ≤ 9 by decide), hLk⟩, (show (9 : Nat) - 4 < 9 - 3 by decide)⟩
    replace hw : ((⟨#[115, 116, 111, 114, 101]⟩ : ByteArray).toList != w.toList) = false := hw
    rw [hw] at hLk
    clear hw ek
    replace hLk : frmG w (frmL.drop 4) 4 (frmS ⟨⟨#[115, 116, 111, 114, 101]⟩, true, true, false, false⟩ (⟨3, dc, da, dd, dw, dp, dn⟩, ⟨l, ok⟩)) = L := hLk
    unfold frmS at hLk
    simp only [addrS, wrdS, putS, ownS, cond_true, cond_false, Bool.true_and, Bool.false_and] at hLk
    conv => whnf
    have hn := d_num ⟨l, ok⟩
    generalize numS ⟨l, ok⟩ = Na at hn hLk
    obtain ⟨xa, la, oa⟩ := Na
    simp only at hn hLk
    refine acall.gen [1] [] _ _ _ _ hn rfl rfl rfl rfl aut ⟨⟨rfl, .inl rfl, .inl rfl, trivial⟩, trivial⟩ rfl rfl fun _ => ?_
    conv => whnf
    have hv := d_word ⟨la, oa⟩
    generalize wordS ⟨la, oa⟩ = Nw at hv hLk
    obtain ⟨xw, lw, ow⟩ := Nw
    simp only at hv hLk
    refine acall.gen [1] [] _ _ _ _ hv rfl rfl rfl rfl aut ⟨⟨rfl, .inl rfl, .inl rfl, trivial⟩, trivial⟩ rfl rfl fun _ => ?_
    conv => whnf
    exact ⟨(4, ⟨3, dc, da, xa, xw, dp, dn⟩, ⟨lw, ow⟩), [0, 1, 2], [], Sub.mk' rfl ⟨⟨rfl, rfl⟩, ⟨rfl, rfl⟩, ⟨rfl, rfl⟩, .inl rfl, ⟨.inl rfl, .inl rfl, .inl rfl, .inl rfl, .inl rfl, .inl rfl, .inl rfl, .inl rfl, .inl rfl, .inl rfl, .inl rfl, ⟨rfl, rfl, trivial⟩, .inl rfl, .inl rfl, .inl rfl, .inl rfl, .inl rfl, ⟨rfl, rfl, trivial⟩, .inl rfl, .inl rfl, .inl rfl, .inl rfl, .inl rfl, ⟨rfl, rfl, trivial⟩, .inl rfl, .inl rfl, .inl rfl, .inl rfl, .inl rfl, ⟨rfl, trivial⟩, .inl rfl, .inl rfl, .inl rfl, .inl rfl, .inl rfl, ⟨rfl, rfl, trivial⟩, .inl rfl, .inl rfl, .inl rfl, .inl rfl, .inl rfl, ⟨rfl, rfl, trivial⟩, .inl rfl, .inl rfl, .inl rfl, .inl rfl, .inl rfl, ⟨rfl, rfl, trivial⟩, .inl rfl, .inl rfl, .inl rfl, .inl rfl, .inl rfl, ⟨rfl, trivial⟩, trivial⟩, .inl rfl, trivial⟩ ⟨⟨rfl, .inl rfl, .inl rfl, .inl rfl, .inl rfl, .inl rfl, .inl rfl, .inl rfl, trivial⟩, ⟨rfl, .inl rfl, .inl rfl, trivial⟩, ⟨rfl, .inl rfl, .inl rfl, .inl rfl, .inl rfl, .inl rfl, .inl rfl, .inl rfl, trivial⟩, trivial⟩ rfl rfl, ⟨(show (4 : Nat) ≤ 9 by decide), hLk⟩, (show (9 : Nat) - 4 < 9 - 3 by decide)⟩
  · have ek : ((⟨#[115, 119, 97, 112]⟩ : ByteArray).toList == (⟨#[]⟩ : ByteArray).toList) = false := by simp only [ByteArray.toList_eq]; rfl
    replace hLk : frmG w (frmL.drop 5) 5 (bif (⟨#[115, 119, 97, 112]⟩ : ByteArray).toList == (⟨#[]⟩ : ByteArray).toList || (⟨#[115, 119, 97, 112]⟩ : ByteArray).toList != w.toList then (⟨dk, dc, da, dd, dw, dp, dn⟩, ⟨l, ok⟩) else frmS ⟨⟨#[115, 119, 97, 112]⟩, true, true, true, false⟩ (⟨4, dc, da, dd, dw, dp, dn⟩, ⟨l, ok⟩)) = L := hLk
    rw [ek] at hLk
    conv => whnf
    refine ⟨(show (0 : Int) ≤ (4 : Nat) by decide), (show ((4 : Nat) : Int) < 9 by decide), Nat.le_of_ble_eq_true rfl, ?_⟩
    conv => whnf
    rw [ek]
    conv => whnf
    refine csplit (fun hw => ?_) (fun hw => ?_)
    · replace hw : ((⟨#[115, 119, 97, 112]⟩ : ByteArray).toList != w.toList) = true := hw
      rw [hw] at hLk
      conv => whnf
      refine ⟨fun _ => ?_, fun h => absurd rfl h⟩
      conv => whnf
      exact ⟨(5, ⟨dk, dc, da, dd, dw, dp, dn⟩, ⟨l, ok⟩), [0, 1, 2], [], Sub.mk' rfl ⟨⟨rfl, rfl⟩, ⟨rfl, rfl⟩, ⟨rfl, rfl⟩, .inl rfl, ⟨.inl rfl, .inl rfl, .inl rfl, .inl rfl, .inl rfl, .inl rfl, .inl rfl, .inl rfl, .inl rfl, .inl rfl, .inl rfl, ⟨rfl, rfl, trivial⟩, .inl rfl, .inl rfl, .inl rfl, .inl rfl, .inl rfl, ⟨rfl, rfl, trivial⟩, .inl rfl, .inl rfl, .inl rfl, .inl rfl, .inl rfl, ⟨rfl, rfl, trivial⟩, .inl rfl, .inl rfl, .inl rfl, .inl rfl, .inl rfl, ⟨rfl, trivial⟩, .inl rfl, .inl rfl, .inl rfl, .inl rfl, .inl rfl, ⟨rfl, rfl, trivial⟩, .inl rfl, .inl rfl, .inl rfl, .inl rfl, .inl rfl, ⟨rfl, rfl, trivial⟩, .inl rfl, .inl rfl, .inl rfl, .inl rfl, .inl rfl, ⟨rfl, rfl, trivial⟩, .inl rfl, .inl rfl, .inl rfl, .inl rfl, .inl rfl, ⟨rfl, trivial⟩, trivial⟩, .inl rfl, trivial⟩ ⟨⟨rfl, .inl rfl, .inl rfl, .inl rfl, .inl rfl, .inl rfl, .inl rfl, .inl rfl, trivial⟩, ⟨rfl, .inl rfl, .inl rfl, trivial⟩, ⟨rfl, .inl rfl, .inl rfl, .inl rfl, .inl rfl, .inl rfl, .inl rfl, .inl rfl, trivial⟩, trivial⟩ rfl rfl, ⟨(show (5 : Nat) ≤ 9 by decide), hLk⟩, (show (9 : Nat) - 5 < 9 - 4 by decide)⟩
    replace hw : ((⟨#[115, 119, 97, 112]⟩ : ByteArray).toList != w.toList) = false := hw
    rw [hw] at hLk
    clear hw ek
    replace hLk : frmG w (frmL.drop 5) 5 (frmS ⟨⟨#[115, 119, 97, 112]⟩, true, true, true, false⟩ (⟨4, dc, da, dd, dw, dp, dn⟩, ⟨l, ok⟩)) = L := hLk
    unfold frmS at hLk
    simp only [addrS, wrdS, putS, ownS, cond_true, cond_false, Bool.true_and, Bool.false_and] at hLk
    conv => whnf
    have hn := d_num ⟨l, ok⟩
    generalize numS ⟨l, ok⟩ = Na at hn hLk
    obtain ⟨xa, la, oa⟩ := Na
    simp only at hn hLk
    refine acall.gen [1] [] _ _ _ _ hn rfl rfl rfl rfl aut ⟨⟨rfl, .inl rfl, .inl rfl, trivial⟩, trivial⟩ rfl rfl fun _ => ?_
    conv => whnf
    have hv := d_word ⟨la, oa⟩
    generalize wordS ⟨la, oa⟩ = Nw at hv hLk
    obtain ⟨xw, lw, ow⟩ := Nw
    simp only at hv hLk
    refine acall.gen [1] [] _ _ _ _ hv rfl rfl rfl rfl aut ⟨⟨rfl, .inl rfl, .inl rfl, trivial⟩, trivial⟩ rfl rfl fun _ => ?_
    conv => whnf
    have hu := d_word ⟨lw, ow⟩
    generalize wordS ⟨lw, ow⟩ = Np at hu hLk
    obtain ⟨xp, lp, op⟩ := Np
    simp only at hu hLk
    refine acall.gen [1] [] _ _ _ _ hu rfl rfl rfl rfl aut ⟨⟨rfl, .inl rfl, .inl rfl, trivial⟩, trivial⟩ rfl rfl fun _ => ?_
    conv => whnf
    exact ⟨(5, ⟨4, dc, da, xa, xw, xp, dn⟩, ⟨lp, op⟩), [0, 1, 2], [], Sub.mk' rfl ⟨⟨rfl, rfl⟩, ⟨rfl, rfl⟩, ⟨rfl, rfl⟩, .inl rfl, ⟨.inl rfl, .inl rfl, .inl rfl, .inl rfl, .inl rfl, .inl rfl, .inl rfl, .inl rfl, .inl rfl, .inl rfl, .inl rfl, ⟨rfl, rfl, trivial⟩, .inl rfl, .inl rfl, .inl rfl, .inl rfl, .inl rfl, ⟨rfl, rfl, trivial⟩, .inl rfl, .inl rfl, .inl rfl, .inl rfl, .inl rfl, ⟨rfl, rfl, trivial⟩, .inl rfl, .inl rfl, .inl rfl, .inl rfl, .inl rfl, ⟨rfl, trivial⟩, .inl rfl, .inl rfl, .inl rfl, .inl rfl, .inl rfl, ⟨rfl, rfl, trivial⟩, .inl rfl, .inl rfl, .inl rfl, .inl rfl, .inl rfl, ⟨rfl, rfl, trivial⟩, .inl rfl, .inl rfl, .inl rfl, .inl rfl, .inl rfl, ⟨rfl, rfl, trivial⟩, .inl rfl, .inl rfl, .inl rfl, .inl rfl, .inl rfl, ⟨rfl, trivial⟩, trivial⟩, .inl rfl, trivial⟩ ⟨⟨rfl, .inl rfl, .inl rfl, .inl rfl, .inl rfl, .inl rfl, .inl rfl, .inl rfl, trivial⟩, ⟨rfl, .inl rfl, .inl rfl, trivial⟩, ⟨rfl, .inl rfl, .inl rfl, .inl rfl, .inl rfl, .inl rfl, .inl rfl, .inl rfl, trivial⟩, trivial⟩ rfl rfl, ⟨(show (5 : Nat) ≤ 9 by decide), hLk⟩, (show (9 : Nat) - 5 < 9 - 4 by decide)⟩
  · have ek : ((⟨#[102, 101, 110, 99, 101]⟩ : ByteArray).toList == (⟨#[]⟩ : ByteArray).toList) = false := by simp only [ByteArray.toList_eq]; rfl
    replace hLk : frmG w (frmL.drop 6) 6 (bif (⟨#[102, 101, 110, 99, 101]⟩ : ByteArray).toList == (⟨#[]⟩ : ByteArray).toList || (⟨#[102, 101, 110, 99, 101]⟩ : ByteArray).toList != w.toList then (⟨dk, dc, da, dd, dw, dp, dn⟩, ⟨l, ok⟩) else frmS ⟨⟨#[102, 101, 110, 99, 101]⟩, false, false, false, false⟩ (⟨5, dc, da, dd, dw, dp, dn⟩, ⟨l, ok⟩)) = L := hLk
    rw [ek] at hLk
    conv => whnf
    refine ⟨(show (0 : Int) ≤ (5 : Nat) by decide), (show ((5 : Nat) : Int) < 9 by decide), Nat.le_of_ble_eq_true rfl, ?_⟩
    conv => whnf
    rw [ek]
    conv => whnf
    refine csplit (fun hw => ?_) (fun hw => ?_)
    · replace hw : ((⟨#[102, 101, 110, 99, 101]⟩ : ByteArray).toList != w.toList) = true := hw
      rw [hw] at hLk
      conv => whnf
      refine ⟨fun _ => ?_, fun h => absurd rfl h⟩
      conv => whnf
      exact ⟨(6, ⟨dk, dc, da, dd, dw, dp, dn⟩, ⟨l, ok⟩), [0, 1, 2], [], Sub.mk' rfl ⟨⟨rfl, rfl⟩, ⟨rfl, rfl⟩, ⟨rfl, rfl⟩, .inl rfl, ⟨.inl rfl, .inl rfl, .inl rfl, .inl rfl, .inl rfl, .inl rfl, .inl rfl, .inl rfl, .inl rfl, .inl rfl, .inl rfl, ⟨rfl, rfl, trivial⟩, .inl rfl, .inl rfl, .inl rfl, .inl rfl, .inl rfl, ⟨rfl, rfl, trivial⟩, .inl rfl, .inl rfl, .inl rfl, .inl rfl, .inl rfl, ⟨rfl, rfl, trivial⟩, .inl rfl, .inl rfl, .inl rfl, .inl rfl, .inl rfl, ⟨rfl, trivial⟩, .inl rfl, .inl rfl, .inl rfl, .inl rfl, .inl rfl, ⟨rfl, rfl, trivial⟩, .inl rfl, .inl rfl, .inl rfl, .inl rfl, .inl rfl, ⟨rfl, rfl, trivial⟩, .inl rfl, .inl rfl, .inl rfl, .inl rfl, .inl rfl, ⟨rfl, rfl, trivial⟩, .inl rfl, .inl rfl, .inl rfl, .inl rfl, .inl rfl, ⟨rfl, trivial⟩, trivial⟩, .inl rfl, trivial⟩ ⟨⟨rfl, .inl rfl, .inl rfl, .inl rfl, .inl rfl, .inl rfl, .inl rfl, .inl rfl, trivial⟩, ⟨rfl, .inl rfl, .inl rfl, trivial⟩, ⟨rfl, .inl rfl, .inl rfl, .inl rfl, .inl rfl, .inl rfl, .inl rfl, .inl rfl, trivial⟩, trivial⟩ rfl rfl, ⟨(show (6 : Nat) ≤ 9 by decide), hLk⟩, (show (9 : Nat) - 6 < 9 - 5 by decide)⟩
    replace hw : ((⟨#[102, 101, 110, 99, 101]⟩ : ByteArray).toList != w.toList) = false := hw
    rw [hw] at hLk
    clear hw ek
    replace hLk : frmG w (frmL.drop 6) 6 (frmS ⟨⟨#[102, 101, 110, 99, 101]⟩, false, false, false, false⟩ (⟨5, dc, da, dd, dw, dp, dn⟩, ⟨l, ok⟩)) = L := hLk
    unfold frmS at hLk
    simp only [addrS, wrdS, putS, ownS, cond_true, cond_false, Bool.true_and, Bool.false_and] at hLk
    conv => whnf
    exact ⟨(6, ⟨5, dc, da, dd, dw, dp, dn⟩, ⟨l, ok⟩), [0, 1, 2], [], Sub.mk' rfl ⟨⟨rfl, rfl⟩, ⟨rfl, rfl⟩, ⟨rfl, rfl⟩, .inl rfl, ⟨.inl rfl, .inl rfl, .inl rfl, .inl rfl, .inl rfl, .inl rfl, .inl rfl, .inl rfl, .inl rfl, .inl rfl, .inl rfl, ⟨rfl, rfl, trivial⟩, .inl rfl, .inl rfl, .inl rfl, .inl rfl, .inl rfl, ⟨rfl, rfl, trivial⟩, .inl rfl, .inl rfl, .inl rfl, .inl rfl, .inl rfl, ⟨rfl, rfl, trivial⟩, .inl rfl, .inl rfl, .inl rfl, .inl rfl, .inl rfl, ⟨rfl, trivial⟩, .inl rfl, .inl rfl, .inl rfl, .inl rfl, .inl rfl, ⟨rfl, rfl, trivial⟩, .inl rfl, .inl rfl, .inl rfl, .inl rfl, .inl rfl, ⟨rfl, rfl, trivial⟩, .inl rfl, .inl rfl, .inl rfl, .inl rfl, .inl rfl, ⟨rfl, rfl, trivial⟩, .inl rfl, .inl rfl, .inl rfl, .inl rfl, .inl rfl, ⟨rfl, trivial⟩, trivial⟩, .inl rfl, trivial⟩ ⟨⟨rfl, .inl rfl, .inl rfl, .inl rfl, .inl rfl, .inl rfl, .inl rfl, .inl rfl, trivial⟩, ⟨rfl, .inl rfl, .inl rfl, trivial⟩, ⟨rfl, .inl rfl, .inl rfl, .inl rfl, .inl rfl, .inl rfl, .inl rfl, .inl rfl, trivial⟩, trivial⟩ rfl rfl, ⟨(show (6 : Nat) ≤ 9 by decide), hLk⟩, (show (9 : Nat) - 6 < 9 - 5 by decide)⟩
  · have ek : ((⟨#[112, 114, 105, 110, 116]⟩ : ByteArray).toList == (⟨#[]⟩ : ByteArray).toList) = false := by simp only [ByteArray.toList_eq]; rfl
    replace hLk : frmG w (frmL.drop 7) 7 (bif (⟨#[112, 114, 105, 110, 116]⟩ : ByteArray).toList == (⟨#[]⟩ : ByteArray).toList || (⟨#[112, 114, 105, 110, 116]⟩ : ByteArray).toList != w.toList then (⟨dk, dc, da, dd, dw, dp, dn⟩, ⟨l, ok⟩) else frmS ⟨⟨#[112, 114, 105, 110, 116]⟩, false, true, false, false⟩ (⟨6, dc, da, dd, dw, dp, dn⟩, ⟨l, ok⟩)) = L := hLk
    rw [ek] at hLk
    conv => whnf
    refine ⟨(show (0 : Int) ≤ (6 : Nat) by decide), (show ((6 : Nat) : Int) < 9 by decide), Nat.le_of_ble_eq_true rfl, ?_⟩
    conv => whnf
    rw [ek]
    conv => whnf
    refine csplit (fun hw => ?_) (fun hw => ?_)
    · replace hw : ((⟨#[112, 114, 105, 110, 116]⟩ : ByteArray).toList != w.toList) = true := hw
      rw [hw] at hLk
      conv => whnf
      refine ⟨fun _ => ?_, fun h => absurd rfl h⟩
      conv => whnf
      exact ⟨(7, ⟨dk, dc, da, dd, dw, dp, dn⟩, ⟨l, ok⟩), [0, 1, 2], [], Sub.mk' rfl ⟨⟨rfl, rfl⟩, ⟨rfl, rfl⟩, ⟨rfl, rfl⟩, .inl rfl, ⟨.inl rfl, .inl rfl, .inl rfl, .inl rfl, .inl rfl, .inl rfl, .inl rfl, .inl rfl, .inl rfl, .inl rfl, .inl rfl, ⟨rfl, rfl, trivial⟩, .inl rfl, .inl rfl, .inl rfl, .inl rfl, .inl rfl, ⟨rfl, rfl, trivial⟩, .inl rfl, .inl rfl, .inl rfl, .inl rfl, .inl rfl, ⟨rfl, rfl, trivial⟩, .inl rfl, .inl rfl, .inl rfl, .inl rfl, .inl rfl, ⟨rfl, trivial⟩, .inl rfl, .inl rfl, .inl rfl, .inl rfl, .inl rfl, ⟨rfl, rfl, trivial⟩, .inl rfl, .inl rfl, .inl rfl, .inl rfl, .inl rfl, ⟨rfl, rfl, trivial⟩, .inl rfl, .inl rfl, .inl rfl, .inl rfl, .inl rfl, ⟨rfl, rfl, trivial⟩, .inl rfl, .inl rfl, .inl rfl, .inl rfl, .inl rfl, ⟨rfl, trivial⟩, trivial⟩, .inl rfl, trivial⟩ ⟨⟨rfl, .inl rfl, .inl rfl, .inl rfl, .inl rfl, .inl rfl, .inl rfl, .inl rfl, trivial⟩, ⟨rfl, .inl rfl, .inl rfl, trivial⟩, ⟨rfl, .inl rfl, .inl rfl, .inl rfl, .inl rfl, .inl rfl, .inl rfl, .inl rfl, trivial⟩, trivial⟩ rfl rfl, ⟨(show (7 : Nat) ≤ 9 by decide), hLk⟩, (show (9 : Nat) - 7 < 9 - 6 by decide)⟩
    replace hw : ((⟨#[112, 114, 105, 110, 116]⟩ : ByteArray).toList != w.toList) = false := hw
    rw [hw] at hLk
    clear hw ek
    replace hLk : frmG w (frmL.drop 7) 7 (frmS ⟨⟨#[112, 114, 105, 110, 116]⟩, false, true, false, false⟩ (⟨6, dc, da, dd, dw, dp, dn⟩, ⟨l, ok⟩)) = L := hLk
    unfold frmS at hLk
    simp only [addrS, wrdS, putS, ownS, cond_true, cond_false, Bool.true_and, Bool.false_and] at hLk
    conv => whnf
    have hv := d_word ⟨l, ok⟩
    generalize wordS ⟨l, ok⟩ = Nw at hv hLk
    obtain ⟨xw, lw, ow⟩ := Nw
    simp only at hv hLk
    refine acall.gen [1] [] _ _ _ _ hv rfl rfl rfl rfl aut ⟨⟨rfl, .inl rfl, .inl rfl, trivial⟩, trivial⟩ rfl rfl fun _ => ?_
    conv => whnf
    exact ⟨(7, ⟨6, dc, da, dd, xw, dp, dn⟩, ⟨lw, ow⟩), [0, 1, 2], [], Sub.mk' rfl ⟨⟨rfl, rfl⟩, ⟨rfl, rfl⟩, ⟨rfl, rfl⟩, .inl rfl, ⟨.inl rfl, .inl rfl, .inl rfl, .inl rfl, .inl rfl, .inl rfl, .inl rfl, .inl rfl, .inl rfl, .inl rfl, .inl rfl, ⟨rfl, rfl, trivial⟩, .inl rfl, .inl rfl, .inl rfl, .inl rfl, .inl rfl, ⟨rfl, rfl, trivial⟩, .inl rfl, .inl rfl, .inl rfl, .inl rfl, .inl rfl, ⟨rfl, rfl, trivial⟩, .inl rfl, .inl rfl, .inl rfl, .inl rfl, .inl rfl, ⟨rfl, trivial⟩, .inl rfl, .inl rfl, .inl rfl, .inl rfl, .inl rfl, ⟨rfl, rfl, trivial⟩, .inl rfl, .inl rfl, .inl rfl, .inl rfl, .inl rfl, ⟨rfl, rfl, trivial⟩, .inl rfl, .inl rfl, .inl rfl, .inl rfl, .inl rfl, ⟨rfl, rfl, trivial⟩, .inl rfl, .inl rfl, .inl rfl, .inl rfl, .inl rfl, ⟨rfl, trivial⟩, trivial⟩, .inl rfl, trivial⟩ ⟨⟨rfl, .inl rfl, .inl rfl, .inl rfl, .inl rfl, .inl rfl, .inl rfl, .inl rfl, trivial⟩, ⟨rfl, .inl rfl, .inl rfl, trivial⟩, ⟨rfl, .inl rfl, .inl rfl, .inl rfl, .inl rfl, .inl rfl, .inl rfl, .inl rfl, trivial⟩, trivial⟩ rfl rfl, ⟨(show (7 : Nat) ≤ 9 by decide), hLk⟩, (show (9 : Nat) - 7 < 9 - 6 by decide)⟩
  · have ek : ((⟨#[104, 97, 108, 116]⟩ : ByteArray).toList == (⟨#[]⟩ : ByteArray).toList) = false := by simp only [ByteArray.toList_eq]; rfl
    replace hLk : frmG w (frmL.drop 8) 8 (bif (⟨#[104, 97, 108, 116]⟩ : ByteArray).toList == (⟨#[]⟩ : ByteArray).toList || (⟨#[104, 97, 108, 116]⟩ : ByteArray).toList != w.toList then (⟨dk, dc, da, dd, dw, dp, dn⟩, ⟨l, ok⟩) else frmS ⟨⟨#[104, 97, 108, 116]⟩, false, false, false, false⟩ (⟨7, dc, da, dd, dw, dp, dn⟩, ⟨l, ok⟩)) = L := hLk
    rw [ek] at hLk
    conv => whnf
    refine ⟨(show (0 : Int) ≤ (7 : Nat) by decide), (show ((7 : Nat) : Int) < 9 by decide), Nat.le_of_ble_eq_true rfl, ?_⟩
    conv => whnf
    rw [ek]
    conv => whnf
    refine csplit (fun hw => ?_) (fun hw => ?_)
    · replace hw : ((⟨#[104, 97, 108, 116]⟩ : ByteArray).toList != w.toList) = true := hw
      rw [hw] at hLk
      conv => whnf
      refine ⟨fun _ => ?_, fun h => absurd rfl h⟩
      conv => whnf
      exact ⟨(8, ⟨dk, dc, da, dd, dw, dp, dn⟩, ⟨l, ok⟩), [0, 1, 2], [], Sub.mk' rfl ⟨⟨rfl, rfl⟩, ⟨rfl, rfl⟩, ⟨rfl, rfl⟩, .inl rfl, ⟨.inl rfl, .inl rfl, .inl rfl, .inl rfl, .inl rfl, .inl rfl, .inl rfl, .inl rfl, .inl rfl, .inl rfl, .inl rfl, ⟨rfl, rfl, trivial⟩, .inl rfl, .inl rfl, .inl rfl, .inl rfl, .inl rfl, ⟨rfl, rfl, trivial⟩, .inl rfl, .inl rfl, .inl rfl, .inl rfl, .inl rfl, ⟨rfl, rfl, trivial⟩, .inl rfl, .inl rfl, .inl rfl, .inl rfl, .inl rfl, ⟨rfl, trivial⟩, .inl rfl, .inl rfl, .inl rfl, .inl rfl, .inl rfl, ⟨rfl, rfl, trivial⟩, .inl rfl, .inl rfl, .inl rfl, .inl rfl, .inl rfl, ⟨rfl, rfl, trivial⟩, .inl rfl, .inl rfl, .inl rfl, .inl rfl, .inl rfl, ⟨rfl, rfl, trivial⟩, .inl rfl, .inl rfl, .inl rfl, .inl rfl, .inl rfl, ⟨rfl, trivial⟩, trivial⟩, .inl rfl, trivial⟩ ⟨⟨rfl, .inl rfl, .inl rfl, .inl rfl, .inl rfl, .inl rfl, .inl rfl, .inl rfl, trivial⟩, ⟨rfl, .inl rfl, .inl rfl, trivial⟩, ⟨rfl, .inl rfl, .inl rfl, .inl rfl, .inl rfl, .inl rfl, .inl rfl, .inl rfl, trivial⟩, trivial⟩ rfl rfl, ⟨(show (8 : Nat) ≤ 9 by decide), hLk⟩, (show (9 : Nat) - 8 < 9 - 7 by decide)⟩
    replace hw : ((⟨#[104, 97, 108, 116]⟩ : ByteArray).toList != w.toList) = false := hw
    rw [hw] at hLk
    clear hw ek
    replace hLk : frmG w (frmL.drop 8) 8 (frmS ⟨⟨#[104, 97, 108, 116]⟩, false, false, false, false⟩ (⟨7, dc, da, dd, dw, dp, dn⟩, ⟨l, ok⟩)) = L := hLk
    unfold frmS at hLk
    simp only [addrS, wrdS, putS, ownS, cond_true, cond_false, Bool.true_and, Bool.false_and] at hLk
    conv => whnf
    exact ⟨(8, ⟨7, dc, da, dd, dw, dp, dn⟩, ⟨l, ok⟩), [0, 1, 2], [], Sub.mk' rfl ⟨⟨rfl, rfl⟩, ⟨rfl, rfl⟩, ⟨rfl, rfl⟩, .inl rfl, ⟨.inl rfl, .inl rfl, .inl rfl, .inl rfl, .inl rfl, .inl rfl, .inl rfl, .inl rfl, .inl rfl, .inl rfl, .inl rfl, ⟨rfl, rfl, trivial⟩, .inl rfl, .inl rfl, .inl rfl, .inl rfl, .inl rfl, ⟨rfl, rfl, trivial⟩, .inl rfl, .inl rfl, .inl rfl, .inl rfl, .inl rfl, ⟨rfl, rfl, trivial⟩, .inl rfl, .inl rfl, .inl rfl, .inl rfl, .inl rfl, ⟨rfl, trivial⟩, .inl rfl, .inl rfl, .inl rfl, .inl rfl, .inl rfl, ⟨rfl, rfl, trivial⟩, .inl rfl, .inl rfl, .inl rfl, .inl rfl, .inl rfl, ⟨rfl, rfl, trivial⟩, .inl rfl, .inl rfl, .inl rfl, .inl rfl, .inl rfl, ⟨rfl, rfl, trivial⟩, .inl rfl, .inl rfl, .inl rfl, .inl rfl, .inl rfl, ⟨rfl, trivial⟩, trivial⟩, .inl rfl, trivial⟩ ⟨⟨rfl, .inl rfl, .inl rfl, .inl rfl, .inl rfl, .inl rfl, .inl rfl, .inl rfl, trivial⟩, ⟨rfl, .inl rfl, .inl rfl, trivial⟩, ⟨rfl, .inl rfl, .inl rfl, .inl rfl, .inl rfl, .inl rfl, .inl rfl, .inl rfl, trivial⟩, trivial⟩ rfl rfl, ⟨(show (8 : Nat) ≤ 9 by decide), hLk⟩, (show (9 : Nat) - 8 < 9 - 7 by decide)⟩
  · have ek : ((⟨#[100, 114, 97, 105, 110]⟩ : ByteArray).toList == (⟨#[]⟩ : ByteArray).toList) = false := by simp only [ByteArray.toList_eq]; rfl
    replace hLk : frmG w (frmL.drop 9) 9 (bif (⟨#[100, 114, 97, 105, 110]⟩ : ByteArray).toList == (⟨#[]⟩ : ByteArray).toList || (⟨#[100, 114, 97, 105, 110]⟩ : ByteArray).toList != w.toList then (⟨dk, dc, da, dd, dw, dp, dn⟩, ⟨l, ok⟩) else frmS ⟨⟨#[100, 114, 97, 105, 110]⟩, true, true, false, false⟩ (⟨8, dc, da, dd, dw, dp, dn⟩, ⟨l, ok⟩)) = L := hLk
    rw [ek] at hLk
    conv => whnf
    refine ⟨(show (0 : Int) ≤ (8 : Nat) by decide), (show ((8 : Nat) : Int) < 9 by decide), Nat.le_of_ble_eq_true rfl, ?_⟩
    conv => whnf
    rw [ek]
    conv => whnf
    refine csplit (fun hw => ?_) (fun hw => ?_)
    · replace hw : ((⟨#[100, 114, 97, 105, 110]⟩ : ByteArray).toList != w.toList) = true := hw
      rw [hw] at hLk
      conv => whnf
      refine ⟨fun _ => ?_, fun h => absurd rfl h⟩
      conv => whnf
      exact ⟨(9, ⟨dk, dc, da, dd, dw, dp, dn⟩, ⟨l, ok⟩), [0, 1, 2], [], Sub.mk' rfl ⟨⟨rfl, rfl⟩, ⟨rfl, rfl⟩, ⟨rfl, rfl⟩, .inl rfl, ⟨.inl rfl, .inl rfl, .inl rfl, .inl rfl, .inl rfl, .inl rfl, .inl rfl, .inl rfl, .inl rfl, .inl rfl, .inl rfl, ⟨rfl, rfl, trivial⟩, .inl rfl, .inl rfl, .inl rfl, .inl rfl, .inl rfl, ⟨rfl, rfl, trivial⟩, .inl rfl, .inl rfl, .inl rfl, .inl rfl, .inl rfl, ⟨rfl, rfl, trivial⟩, .inl rfl, .inl rfl, .inl rfl, .inl rfl, .inl rfl, ⟨rfl, trivial⟩, .inl rfl, .inl rfl, .inl rfl, .inl rfl, .inl rfl, ⟨rfl, rfl, trivial⟩, .inl rfl, .inl rfl, .inl rfl, .inl rfl, .inl rfl, ⟨rfl, rfl, trivial⟩, .inl rfl, .inl rfl, .inl rfl, .inl rfl, .inl rfl, ⟨rfl, rfl, trivial⟩, .inl rfl, .inl rfl, .inl rfl, .inl rfl, .inl rfl, ⟨rfl, trivial⟩, trivial⟩, .inl rfl, trivial⟩ ⟨⟨rfl, .inl rfl, .inl rfl, .inl rfl, .inl rfl, .inl rfl, .inl rfl, .inl rfl, trivial⟩, ⟨rfl, .inl rfl, .inl rfl, trivial⟩, ⟨rfl, .inl rfl, .inl rfl, .inl rfl, .inl rfl, .inl rfl, .inl rfl, .inl rfl, trivial⟩, trivial⟩ rfl rfl, ⟨(show (9 : Nat) ≤ 9 by decide), hLk⟩, (show (9 : Nat) - 9 < 9 - 8 by decide)⟩
    replace hw : ((⟨#[100, 114, 97, 105, 110]⟩ : ByteArray).toList != w.toList) = false := hw
    rw [hw] at hLk
    clear hw ek
    replace hLk : frmG w (frmL.drop 9) 9 (frmS ⟨⟨#[100, 114, 97, 105, 110]⟩, true, true, false, false⟩ (⟨8, dc, da, dd, dw, dp, dn⟩, ⟨l, ok⟩)) = L := hLk
    unfold frmS at hLk
    simp only [addrS, wrdS, putS, ownS, cond_true, cond_false, Bool.true_and, Bool.false_and] at hLk
    conv => whnf
    have hn := d_num ⟨l, ok⟩
    generalize numS ⟨l, ok⟩ = Na at hn hLk
    obtain ⟨xa, la, oa⟩ := Na
    simp only at hn hLk
    refine acall.gen [1] [] _ _ _ _ hn rfl rfl rfl rfl aut ⟨⟨rfl, .inl rfl, .inl rfl, trivial⟩, trivial⟩ rfl rfl fun _ => ?_
    conv => whnf
    have hv := d_word ⟨la, oa⟩
    generalize wordS ⟨la, oa⟩ = Nw at hv hLk
    obtain ⟨xw, lw, ow⟩ := Nw
    simp only at hv hLk
    refine acall.gen [1] [] _ _ _ _ hv rfl rfl rfl rfl aut ⟨⟨rfl, .inl rfl, .inl rfl, trivial⟩, trivial⟩ rfl rfl fun _ => ?_
    conv => whnf
    exact ⟨(9, ⟨8, dc, da, xa, xw, dp, dn⟩, ⟨lw, ow⟩), [0, 1, 2], [], Sub.mk' rfl ⟨⟨rfl, rfl⟩, ⟨rfl, rfl⟩, ⟨rfl, rfl⟩, .inl rfl, ⟨.inl rfl, .inl rfl, .inl rfl, .inl rfl, .inl rfl, .inl rfl, .inl rfl, .inl rfl, .inl rfl, .inl rfl, .inl rfl, ⟨rfl, rfl, trivial⟩, .inl rfl, .inl rfl, .inl rfl, .inl rfl, .inl rfl, ⟨rfl, rfl, trivial⟩, .inl rfl, .inl rfl, .inl rfl, .inl rfl, .inl rfl, ⟨rfl, rfl, trivial⟩, .inl rfl, .inl rfl, .inl rfl, .inl rfl, .inl rfl, ⟨rfl, trivial⟩, .inl rfl, .inl rfl, .inl rfl, .inl rfl, .inl rfl, ⟨rfl, rfl, trivial⟩, .inl rfl, .inl rfl, .inl rfl, .inl rfl, .inl rfl, ⟨rfl, rfl, trivial⟩, .inl rfl, .inl rfl, .inl rfl, .inl rfl, .inl rfl, ⟨rfl, rfl, trivial⟩, .inl rfl, .inl rfl, .inl rfl, .inl rfl, .inl rfl, ⟨rfl, trivial⟩, trivial⟩, .inl rfl, trivial⟩ ⟨⟨rfl, .inl rfl, .inl rfl, .inl rfl, .inl rfl, .inl rfl, .inl rfl, .inl rfl, trivial⟩, ⟨rfl, .inl rfl, .inl rfl, trivial⟩, ⟨rfl, .inl rfl, .inl rfl, .inl rfl, .inl rfl, .inl rfl, .inl rfl, .inl rfl, trivial⟩, trivial⟩ rfl rfl, ⟨(show (9 : Nat) ≤ 9 by decide), hLk⟩, (show (9 : Nat) - 9 < 9 - 8 by decide)⟩
  · replace hLk : ((⟨dk, dc, da, dd, dw, dp, dn⟩, ⟨l, ok⟩) : LnS) = L := hLk
    subst hLk
    have hf := t_formOf ⟨dk, dc, da, dd, dw, dp, dn⟩
    have hc := formA_lit dk
    have hO : didOk (⟨dk, dc, da, dd, dw, dp, dn⟩, ⟨l, ok⟩) = (ok && (rightD ⟨dk, dc, da, dd, dw, dp, dn⟩ && (((l.map srow).length : Int) == 0))) := by
      unfold didOk
      rw [List.length_map]
      congr 2
      cases l <;> simp
      omega
    rw [hO]
    generalize rightD ⟨dk, dc, da, dd, dw, dp, dn⟩ = B at hf ⊢
    simp only at hf
    generalize formA dk = F at hf hc
    clear hO
    rcases hc with rfl | rfl | rfl | rfl | rfl | rfl | rfl | rfl | rfl
    all_goals (
      conv => whnf
      refine ⟨fun _ => ?_, fun h => absurd rfl h⟩
      conv => whnf
      refine acall.au [] [] hf ?_
      conv => whnf
      first | intro _ | skip
      conv => whnf
      cases ok
      · conv => whnf
        refine ⟨by kernel_rfl, fun _ => ?_⟩
        conv => whnf
        exact ⟨[], rfl, rfl, ⟨⟨.inl rfl, .inl rfl, .inl rfl, .inl rfl, .inl rfl, .inl rfl, .inl rfl, trivial⟩, .inl rfl, trivial⟩, trivial⟩
      · cases B
        · conv => whnf
          refine ⟨by kernel_rfl, fun _ => ?_⟩
          conv => whnf
          exact ⟨[], rfl, rfl, ⟨⟨.inl rfl, .inl rfl, .inl rfl, .inl rfl, .inl rfl, .inl rfl, .inl rfl, trivial⟩, .inl rfl, trivial⟩, trivial⟩
        · conv => whnf
          refine ⟨by kernel_rfl, fun _ => ?_⟩
          conv => whnf
          exact ⟨[], rfl, rfl, ⟨⟨.inl rfl, .inl rfl, .inl rfl, .inl rfl, .inl rfl, .inl rfl, .inl rfl, trivial⟩, .inl rfl, trivial⟩, trivial⟩)
end Go.Proofs.YtcpolpbeimhgfaaGreatDoor.am

namespace Go.Proofs.YtcpolpbeimhgfaaGreatDoor.am
open Go Go.Proofs
abbrev diW (l : List Did) : Blk := .vec 38 7 56 (l.map Did.cells)
def cutS (s : ByteArray) : ByteArray × ByteArray × Bool := bif decide (idxNl s ≥ 0) then (s.extract 0 (idxNl s).toNat, s.extract ((idxNl s).toNat + 1) s.size, true) else (s, emB, false)
theorem d_cut0 (s : ByteArray) (hs : s.size < 4294967281) : K 32 [.tr (ts s), .tr (ts nlK)] [] (.ret (.tup [.tr (ts (cutS s).1), .tr (ts (cutS s).2.1), .tr (tb (cutS s).2.2)])) [] := by
  have h1 := d_index s
  have hi := idxNl_le s.data.toList
  have hl : s.data.toList.length = s.size := by simp
  unfold cutS
  change Lib.indexByte s.data.toList 10 ≤ _ ∧ _ at hi
  rw [show Lib.indexByte s.data.toList 10 = idxNl s from rfl, hl] at hi
  generalize idxNl s = i at h1 hi
  have hw : 0 ≤ i → IntKind.i64.wrap (i + 1) = i + 1 := fun h => by rw [w64 (by omega) (by omega)]
  refine Ctr.of hT hmix Tryz.func32 rfl (fun _ _ => by kernel_rfl) rfl fun hok => ?_
  clear hok
  conv => whnf
  refine acall.pure _ (h1) rfl rfl fun _ => ?_
  conv => whnf
  refine csplit (fun h => ?_) (fun h => ?_)
  · replace h : decide (i ≥ 0) = true := h
    have h0 : 0 ≤ i := of_decide_eq_true h
    rw [h]
    conv => whnf
    refine ⟨Int.le_refl _, h0, (show i ≤ (s.size : Int) by omega), ?_⟩
    conv => whnf
    refine ⟨(show 0 ≤ IntKind.i64.wrap (i + 1) by rw [hw h0]; omega), (show IntKind.i64.wrap (i + 1) ≤ (s.size : Int) by rw [hw h0]; omega), Int.le_refl _, ?_⟩
    conv => whnf
    refine ⟨by kernel_rfl, fun _ => ?_⟩
    conv => whnf
    refine ⟨⟨.inl rfl, .inl (congrArg ts ?_), .inl rfl, trivial⟩, trivial⟩
    show s.extract (IntKind.i64.wrap (i + 1)).toNat ((s.size : Int)).toNat = s.extract (i.toNat + 1) s.size
    rw [hw h0, Int.toNat_natCast, show (i + 1).toNat = i.toNat + 1 by omega]
  · replace h : decide (i ≥ 0) = false := h
    rw [h]
    conv => whnf
    exact ⟨⟨.inl rfl, .inl rfl, .inl rfl, trivial⟩, trivial⟩
theorem d_cut (s : ByteArray) (hs : s.size < 4294967281) : K 18 [.tr (ts s), .tr (ts nlK)] [] (.ret (.tup [.tr (ts (cutS s).1), .tr (ts (cutS s).2.1), .tr (tb (cutS s).2.2)])) [] := by
  have h1 := d_cut0 s hs
  refine Ctr.of hT hmix Tryz.func18 rfl (fun _ _ => by kernel_rfl) rfl fun hok => ?_
  clear hok
  conv => whnf
  refine acall.pure _ (h1) rfl rfl fun _ => ?_
  conv => whnf
  exact ⟨⟨.inl rfl, .inl rfl, .inl rfl, trivial⟩, trivial⟩
/-- what Parse reads: the lines that are left, the next line's number, what is read so far -/
def readP : Nat → ByteArray → Nat → List Did → List Did × Int × Int
  | 0, _, _, l => (l, 0, 0)
  | f + 1, s, n, l => bif s.toList != emB.toList then (bif !(cutS s).2.2 || !(didOk (didL (cutS s).1)) then ([], 191, n) else readP f (cutS s).2.1 (n + 1) (l ++ [(didL (cutS s).1).1])) else (l, 0, 0)
def parseP (s : ByteArray) : List Did × Int × Int := bif decide ((s.size : Int) > 4194304) then ([], 4, 0) else readP (s.size + 1) s 1 []
theorem cutS_lt {s : ByteArray} (h : s.toList ≠ emB.toList) (hc : (cutS s).2.2 = true) : (cutS s).2.1.size < s.size ∧ (cutS s).1.size ≤ s.size := by
  unfold cutS at hc ⊢
  cases hd : decide (idxNl s ≥ 0) with
  | true =>
    have hi := idxNl_le s.data.toList
    have hl : s.data.toList.length = s.size := by simp
    have h0 : 0 ≤ idxNl s := of_decide_eq_true hd
    have hi2 : idxNl s < s.size := by have := hi.2.2 h0; rw [hl] at this; exact this
    simp only [cond_true, ByteArray.size_extract]
    omega
  | false => rw [hd] at hc; cases hc
theorem cutS_le (s : ByteArray) : (cutS s).1.size ≤ s.size := by
  unfold cutS
  cases hd : decide (idxNl s ≥ 0) with
  | true => simp only [cond_true, ByteArray.size_extract]; omega
  | false => exact Nat.le_refl _
theorem emB_eq {s : ByteArray} (h : s.size = 0) : (s.toList != emB.toList) = false := by
  have : s.toList = [] := by rw [ByteArray.toList_eq]; exact List.eq_nil_of_length_eq_zero (by simpa using h)
  rw [this]
  simp only [emB, ByteArray.toList_eq]
  rfl
theorem readP_fuel : ∀ (f g : Nat) (s : ByteArray) (n : Nat) (l : List Did), s.size < f → s.size < g → readP f s n l = readP g s n l
  | 0, _, _, _, _, h, _ => by omega
  | _, 0, _, _, _, _, h => by omega
  | f + 1, g + 1, s, n, l, h1, h2 => by
    show (bif s.toList != emB.toList then (bif !(cutS s).2.2 || !(didOk (didL (cutS s).1)) then ([], 191, (n : Int)) else readP f (cutS s).2.1 (n + 1) (l ++ [(didL (cutS s).1).1])) else (l, 0, 0)) = (bif s.toList != emB.toList then (bif !(cutS s).2.2 || !(didOk (didL (cutS s).1)) then ([], 191, (n : Int)) else readP g (cutS s).2.1 (n + 1) (l ++ [(didL (cutS s).1).1])) else (l, 0, 0))
    cases hq : (s.toList != emB.toList) with
    | false => rfl
    | true =>
      cases hf : (cutS s).2.2 with
      | false => rfl
      | true =>
        have := (cutS_lt (by simpa using hq) hf).1
        rw [readP_fuel f g (cutS s).2.1 (n + 1) _ (by omega) (by omega)]
set_option maxRecDepth 100000 in
set_option maxHeartbeats 2000000 in
theorem d_parse (s : ByteArray) : K 7 [.tr (ts s)] [] (.ret (.tup [.tr (didsT (parseP s).1), .tr (ti (parseP s).2.1), .tr (ti (parseP s).2.2)])) [] := by
  generalize hP : parseP s = P
  unfold parseP at hP
  refine Ctr.of hT hmix Tryz.func7 rfl (fun _ _ => by kernel_rfl) rfl fun hok => ?_
  clear hok
  conv => whnf
  refine csplit (fun h1 => ?_) (fun h1 => ?_)
  · replace h1 : decide ((s.size : Int) > 4194304) = true := h1
    rw [h1] at hP
    subst hP
    conv => whnf
    exact ⟨⟨.inr ⟨rfl, _, _, rfl⟩, .inl rfl, .inl rfl, trivial⟩, trivial⟩
  replace h1 : decide ((s.size : Int) > 4194304) = false := h1
  rw [h1] at hP
  replace hP : readP (s.size + 1) s 1 [] = P := hP
  have hs : s.size ≤ 4194304 := by have := of_decide_eq_false h1; omega
  conv => whnf
  refine LoopL.by (fun x : ByteArray × (Nat × List Did) => ⟨[(0, .tr (ts x.1)), (5, .sl 0 x.2.2.length), (6, .tr (ti x.2.1))], [(0, diW x.2.2)], 10⟩) (fun x => x.1.size + x.2.1 ≤ 4194305 ∧ x.2.2.length + 1 = x.2.1 ∧ readP (x.1.size + 1) x.1 x.2.1 x.2.2 = P) (fun x => x.1.size) (s, 1, []) [] [0]
    (Sub.mk' rfl ⟨.inl rfl, ⟨rfl, rfl, rfl, rfl⟩, .inl rfl, trivial⟩ ⟨⟨rfl, _, _, _, rfl, by decide⟩, trivial⟩ rfl rfl) ⟨by show s.size + 1 ≤ 4194305; omega, rfl, hP⟩ ?_
  rintro ⟨u, n, out⟩ ⟨hu, hn, hR⟩ -
  simp only at hu hn hR
  replace hR : (bif u.toList != emB.toList then (bif !(cutS u).2.2 || !(didOk (didL (cutS u).1)) then ([], 191, (n : Int)) else readP u.size (cutS u).2.1 (n + 1) (out ++ [(didL (cutS u).1).1])) else (out, 0, 0)) = P := hR
  conv => whnf
  refine csplit (fun h2 => ?_) (fun h2 => ?_)
  · replace h2 : (u.toList != emB.toList) = true := h2
    rw [h2] at hR
    have hne : u.toList ≠ emB.toList := by simpa using h2
    have hcl := cutS_lt hne
    have hc := d_cut u (by omega)
    have hca := cutS_le u
    generalize cutS u = C at hc hR hcl hca
    obtain ⟨a, b, f⟩ := C
    simp only at hc hR hcl hca
    have hd := d_did a (by omega)
    generalize didL a = X at hd hR
    generalize didOk X = okd at hd hR
    obtain ⟨⟨dk, dc, da, dd, dw, dp, dn⟩, r⟩ := X
    simp only at hd hR
    conv => whnf
    refine acall.pure _ (hc) rfl rfl fun _ => ?_
    conv => whnf
    refine acall.pure _ (hd) rfl rfl fun _ => ?_
    conv => whnf
    cases f
    · have hR : (([] : List Did), (191 : Int), (n : Int)) = P := hR
      subst hR
      conv => whnf
      exact ⟨⟨.inr ⟨rfl, _, _, rfl⟩, .inl rfl, .inl rfl, trivial⟩, trivial⟩
    cases okd
    · have hR : (([] : List Did), (191 : Int), (n : Int)) = P := hR
      subst hR
      conv => whnf
      exact ⟨⟨.inr ⟨rfl, _, _, rfl⟩, .inl rfl, .inl rfl, trivial⟩, trivial⟩
    have hR : readP u.size b (n + 1) (out ++ [⟨dk, dc, da, dd, dw, dp, dn⟩]) = P := hR
    have hlt := (hcl rfl).1
    rw [readP_fuel u.size (b.size + 1) b (n + 1) _ hlt (by omega)] at hR
    have hn1 : IntKind.i64.wrap ((n : Int) + 1) = ((n + 1 : Nat) : Int) := by rw [w64 (by omega) (by omega)]; omega
    have hda : (out.map Did.cells).take out.length ++ [[tu dk, ti dc, ti da, ti dd, ti dw, ti dp, tb dn]] = (out ++ [Did.mk dk dc da dd dw dp dn]).map Did.cells := by rw [List.take_of_length_le (by simp), List.map_append]; rfl
    conv => whnf
    refine ⟨rfl, rfl, rfl, (by rw [List.length_map]; exact Nat.le_refl _), (show (out.length + 1) * 56 ≤ 150000000000000 by omega), fun q hq => ?_, ?_⟩
    · cases hq with
      | head => exact Nat.ne_of_beq_eq_false rfl
      | tail _ h => cases h
    conv => whnf
    exact ⟨(b, n + 1, out ++ [Did.mk dk dc da dd dw dp dn]), [_], [], Sub.mk' rfl ⟨.inl rfl, ⟨rfl, by simp⟩, .inl (congrArg ti hn1), trivial⟩ ⟨⟨rfl, rfl, rfl, hda⟩, trivial⟩ rfl rfl, ⟨by show b.size + (n + 1) ≤ 4194305; omega, by show (out ++ _).length + 1 = n + 1; simp; omega, hR⟩, hlt⟩
  · replace h2 : (u.toList != emB.toList) = false := h2
    rw [h2] at hR
    have hR : (out, (0 : Int), (0 : Int)) = P := hR
    subst hR
    conv => whnf
    refine ⟨fun _ => ?_, fun h => absurd rfl h⟩
    conv => whnf
    exact ⟨⟨⟨rfl, by rw [List.length_map]; exact Nat.le_refl _, by rw [List.take_of_length_le (by simp)]⟩, .inl rfl, .inl rfl, trivial⟩, trivial⟩
end Go.Proofs.YtcpolpbeimhgfaaGreatDoor.am

namespace Go.Proofs.YtcpolpbeimhgfaaGreatDoor.am
open Go Go.Proofs Go.RowKit
section
set_option maxHeartbeats 1000000
set_option maxRecDepth 100000
theorem bt_u : Tryz.prog.underlying 32 = some (.pointer 35) := by kernel_rfl
theorem bt_p : Tryz.prog.underlying 107 = some .unsafePointer := by kernel_rfl
theorem bt_j : ∃ j, Tryz.prog.info? 35 = some j ∧ j.size = 2 := by
  obtain ⟨j, hj⟩ : ∃ j, Tryz.prog.info? 35 = some j := Option.isSome_iff_exists.1 (by kernel_rfl)
  have e : (Tryz.prog.info? 35).map (·.size) = some 2 := by kernel_rfl
  rw [hj] at e
  exact ⟨j, hj, by simpa using e⟩
theorem cc_used (b : Nat) (w : World) (h0 : w.cell? ⟨b, 0, none⟩ = some (.pointer (some ⟨b, 0, none⟩))) :
    Calls Tryz.prog 28 #[.pointer (some ⟨b, 0, none⟩)] w fun e w' => e = .returned (.tuple #[]) ∧ w' = w := by
  obtain ⟨j, hj, _⟩ := bt_j
  go_enter Tryz.func28, Tryz.ntmps28
  go_wp2
  rw [Lib.run_neq_ptr_same w _ bt_u hj]
  go_wp2
  go_end0
  exact ⟨rfl, rfl⟩
theorem cc_fresh (b : Nat) (w : World) (h0 : w.cell? ⟨b, 0, none⟩ = some (.pointer none)) (hsh : w.shape? b = some (35, 2)) (hfz : w.frozen? ⟨b, 0, none⟩ = false) :
    Calls Tryz.prog 28 #[.pointer (some ⟨b, 0, none⟩)] w fun e w' => e = .returned (.tuple #[]) ∧ w' = w.setCell ⟨b, 0, none⟩ (.pointer (some ⟨b, 0, none⟩)) := by
  obtain ⟨j, hj, hjs⟩ := bt_j
  go_enter Tryz.func28, Tryz.ntmps28
  go_wp2
  rw [Lib.run_to_unsafe w ⟨b, 0, none⟩ bt_u bt_p hj (by rw [hjs]; decide) hsh (Nat.zero_lt_succ 1)]
  simp only [Result.andThen]
  rw [Oper.upon_value]
  go_wp2
  rw [run_callFunc_extern Tryz.func45 (by kernel_rfl) (by kernel_rfl) (by kernel_rfl) (e := Extern.AbiNoEscape.same) (by kernel_rfl)]
  rw [Lib.run_noEscape]
  simp only [Result.andThen]
  rw [Oper.upon_value]
  go_wp2
  rw [Lib.run_from_unsafe w ⟨b, 0, none⟩ bt_p bt_u hj hsh (by kernel_rfl)]
  simp only [Result.andThen]
  rw [Oper.upon_value]
  go_wp2
  go_end0
  exact ⟨rfl, rfl⟩
theorem bs_run (b g cap : Nat) (p : Value) (cur : Array Value) (l : List UInt8) (w : World) (hb : w.heap[b]? = some (.cells #[p, .slice (some ⟨g, 0, none⟩) l.length cap] 35 (0, 0))) (hg : w.heap[g]? = some (.cells cur 5 (0, 0))) (hne : l ≠ []) (hcap : l.length ≤ cap) (hsz : cur.size = cap) (hcm : cap ≤ 9223372036854775807)
    (hcell : ∀ (j : Nat) (x : UInt8), l[j]? = some x → w.cell? ⟨g, j, none⟩ = some (.int .u8 x.toNat)) :
    Calls Tryz.prog 15 #[.pointer (some ⟨b, 0, none⟩)] w fun e w' => e = .returned (.string ⟨l.toArray⟩) ∧ w' = w.drew.freeze ⟨g, 0, none⟩ l.length := by
  have hl0 : l.length ≠ 0 := by simpa using hne
  have c1 : w.drew.cell? ⟨b, 1, none⟩ = some (.slice (some ⟨g, 0, none⟩) l.length cap) := by
    have : w.drew.heap[b]? = some (.cells #[p, .slice (some ⟨g, 0, none⟩) l.length cap] 35 (0, 0)) := hb
    rw [Lib.cell_of_heap this]; rfl
  have hSD : (Builtin.unsafeSliceData_ #[33] 76 #[.slice (some ⟨g, 0, none⟩) l.length cap]).run Tryz.prog w.drew = .ok (.pointer (some ⟨g, 0, none⟩)) w.drew :=
    Lib.run_unsafeSliceData_row _ _ _ _ _ _ (by omega)
  have hUS : (Builtin.unsafeString_ #[76, 3] 9 #[.pointer (some ⟨g, 0, none⟩), .int .i64 l.length]).run Tryz.prog w.drew = .ok (.string ⟨l.toArray⟩) (w.drew.freeze ⟨g, 0, none⟩ l.length) := by
    refine Lib.run_unsafeString_row w.drew 76 3 9 5 (by kernel_rfl) (by kernel_rfl) g cur.size (by have hg' : w.drew.heap[g]? = some (.cells cur 5 (0, 0)) := hg; simp [World.shape?, hg']) l hne (by omega) (by omega) ?_
    intro j x hx
    rw [add_mk, Nat.zero_add]
    exact hcell j x hx
  have mixed : Tryz.prog.follows .mixedOrders = true := hmix
  go_enter Tryz.func15, Tryz.ntmps15
  go_wp2
  go_region_o
  all_goals (go_wp2; go_ret; exact ⟨rfl, rfl⟩)
theorem bs_run0 (b : Nat) (p : Value) (w : World) (hb : w.heap[b]? = some (.cells #[p, .slice none 0 0] 35 (0, 0))) :
    Calls Tryz.prog 15 #[.pointer (some ⟨b, 0, none⟩)] w fun e w' => e = .returned (.string ⟨#[]⟩) ∧ w' = w.drew := by
  have c1 : w.drew.cell? ⟨b, 1, none⟩ = some (.slice none 0 0) := by
    have : w.drew.heap[b]? = some (.cells #[p, .slice none 0 0] 35 (0, 0)) := hb
    rw [Lib.cell_of_heap this]; rfl
  have hSD : (Builtin.unsafeSliceData_ #[33] 76 #[.slice none 0 0]).run Tryz.prog w.drew = .ok (.pointer none) w.drew := rfl
  have hUS := Lib.run_unsafeString_none (P := Tryz.prog) w.drew 76 3 9 none
  have mixed : Tryz.prog.follows .mixedOrders = true := hmix
  go_enter Tryz.func15, Tryz.ntmps15
  go_wp2
  go_region_o
  all_goals (go_wp2; go_ret; exact ⟨rfl, rfl⟩)
end
end Go.Proofs.YtcpolpbeimhgfaaGreatDoor.am

namespace Go.Proofs.YtcpolpbeimhgfaaGreatDoor.am
open Go Go.Proofs Go.RowKit
abbrev nilP : AV := .tr (.v (.pointer none))
abbrev bldC (p : AV) (h n : Nat) : Blk := .cells 35 [p, .sl h n]
abbrev byV (l : List UInt8) : Blk := .vec 5 1 1 (brows l)
/-- a contract by hand: what the blocks are -/
theorem bld_parts {g : Gh} {w : World} {p : AV} {n : Nat} {l : List UInt8} (hm : MSt g w (ofL [bldC p 1 n, byV l])) : ∃ b c0 c1, g 0 = .live (.blk b) ∧ w.heap[b]? = some (.cells #[c0, c1] 35 (0, 0)) ∧ Rep g w c0 p ∧ Rep g w c1 (.sl 1 n) := by
  obtain ⟨l0, g0, b, cs, rfl, hb, hs, h1, h2⟩ := hm.blk 0 _ rfl
  obtain ⟨L⟩ := cs
  match L, hs with
  | [c0, c1], _ => exact ⟨b, c0, c1, g0, hb, h2 0 c0 p rfl rfl, h2 1 c1 (.sl 1 n) rfl rfl⟩
theorem mst_LO {g : Gh} {w : World} {bl : List Blk} (h : MSt g w (ofL bl)) : MSt g w (ofLO (bl.map some)) := by
  have e : ofLO (bl.map some) = ofL bl := by
    funext i
    unfold ofLO ofL
    rw [List.getElem?_map]
    cases bl[i]? <;> rfl
  rw [e]
  exact h
theorem k_ccU (n : Nat) (l : List UInt8) : K 28 [.ptr 0 0] [bldC (.ptr 0 0) 1 n, byV l] (.ret (.tup [])) [some (bldC (.ptr 0 0) 1 n), some (byV l)] := by
  refine ⟨fun _ _ => by kernel_rfl, fun g w vs hun hm hsz hv => ?_⟩
  obtain ⟨v, rfl⟩ := one_arg hsz
  obtain ⟨b, c0, c1, g0, hb, r0, r1⟩ := bld_parts hm
  obtain rfl := (hv 0 v _ rfl rfl).ptr_inv g0
  obtain rfl := r0.ptr_inv g0
  refine (cc_used b w (by rw [Lib.cell_of_heap hb]; rfl)).mono ?_
  rintro e w' ⟨rfl, rfl⟩
  exact ⟨g, Grow.refl _ _, mst_LO hm, fun h hh l hl => (by rw [hun h hh] at hl; cases hl), .tup rfl fun i c a h => by simp at h⟩
theorem k_ccF (n : Nat) (l : List UInt8) : K 28 [.ptr 0 0] [bldC nilP 1 n, byV l] (.ret (.tup [])) [some (bldC (.ptr 0 0) 1 n), some (byV l)] := by
  refine ⟨fun _ _ => by kernel_rfl, fun g w vs hun hm hsz hv => ?_⟩
  obtain ⟨v, rfl⟩ := one_arg hsz
  obtain ⟨b, c0, c1, g0, hb, r0, r1⟩ := bld_parts hm
  obtain rfl := (hv 0 v _ rfl rfl).ptr_inv g0
  obtain ⟨rfl, _⟩ := val_inv r0
  have hlt : b < w.heap.size := (Array.getElem?_eq_some_iff.1 hb).1
  refine (cc_fresh b w (by rw [Lib.cell_of_heap hb]; rfl) (by simp [World.shape?, hb]) (by simp [World.frozen?, hb])).mono ?_
  rintro e w' ⟨rfl, rfl⟩
  have hk : ∀ k, k ≠ b → (w.setCell ⟨b, 0, none⟩ (.pointer (some ⟨b, 0, none⟩))).heap[k]? = w.heap[k]? := fun k hk => Below.heap_setCell _ _ _ _ (fun e => hk (by simp [e]))
  have hsz2 : (w.setCell ⟨b, 0, none⟩ (.pointer (some ⟨b, 0, none⟩))).heap.size = w.heap.size := by simp [World.setCell]
  have hnew : (w.setCell ⟨b, 0, none⟩ (.pointer (some ⟨b, 0, none⟩))).heap[b]? = some (.cells #[.pointer (some ⟨b, 0, none⟩), c1] 35 (0, 0)) := by
    simp [World.setCell, Array.getElem?_modify, hb]
  have hg := grow_write (b := b) (hm.xl 0 b (.root g0 rfl)) (.root g0 rfl) (w := w) (w' := w.setCell ⟨b, 0, none⟩ (.pointer (some ⟨b, 0, none⟩))) rfl rfl rfl hsz2 hk
  generalize w.setCell ⟨b, 0, none⟩ (.pointer (some ⟨b, 0, none⟩)) = w2 at *
  have hm2 := mst_write hm g0 (.inl rfl) hg hsz2 hk (bl := bldC (.ptr 0 0) 1 n) ⟨b, _, rfl, hnew, rfl, fun a ha => (by simp at ha; rcases ha with rfl | rfl <;> rfl), fun i c a h1 h2 => ?_⟩
  · refine ⟨g, hg, ?_, fun h hh l hl => (by rw [hun h hh] at hl; cases hl), .tup rfl fun i c a h => by simp at h⟩
    refine ⟨fun h bk hbk => hm2.blk h bk ?_, hm2.inj, hm2.lt, hm2.xlt, hm2.xl, hm2.gl⟩
    match h, hbk with
    | 0, e => exact e
    | 1, e => exact e
    | k + 2, e => simp [ofLO] at e
  · match i, h1, h2 with
    | 0, h1, h2 => cases h1; cases h2; exact .ptr g0
    | 1, h1, h2 => cases h1; cases h2; exact r1.grow hg
    | i + 2, h1, h2 => simp at h2
set_option maxRecDepth 100000 in
theorem k_bLenF (n : Nat) (l : List UInt8) : K 13 [.ptr 0 0] [bldC nilP 1 n, byV l] (.ret (.tr (ti n))) [some (bldC nilP 1 n), some (byV l)] := by
  refine Ctr.of hT hmix Tryz.func13 rfl (fun _ _ => by kernel_rfl) rfl fun hok => ?_
  clear hok
  conv => whnf
  exact ⟨.inl rfl, ⟨rfl, .inl rfl, ⟨rfl, rfl⟩, trivial⟩, ⟨rfl, rfl, rfl, rfl⟩, trivial⟩
set_option maxRecDepth 100000 in
theorem k_bLenU (n : Nat) (l : List UInt8) : K 13 [.ptr 0 0] [bldC (.ptr 0 0) 1 n, byV l] (.ret (.tr (ti n))) [some (bldC (.ptr 0 0) 1 n), some (byV l)] := by
  refine Ctr.of hT hmix Tryz.func13 rfl (fun _ _ => by kernel_rfl) rfl fun hok => ?_
  clear hok
  conv => whnf
  exact ⟨.inl rfl, ⟨rfl, ⟨rfl, rfl⟩, ⟨rfl, rfl⟩, trivial⟩, ⟨rfl, rfl, rfl, rfl⟩, trivial⟩
theorem brows_app (a b : List UInt8) : (brows a).take a.length ++ brows b = brows (a ++ b) := by
  rw [List.take_of_length_le (by simp [brows])]
  simp [brows]
abbrev wsRes (s : ByteArray) : AE := .ret (.tup [.tr (ti s.size), .tr (.v .nilIface)])
set_option maxRecDepth 100000 in
theorem k_wsF (l : List UInt8) (s : ByteArray) (hl : l.length + s.size ≤ 140737488351232) : K 14 [.ptr 0 0, .tr (ts s)] [bldC nilP 1 l.length, byV l] (wsRes s) [some (bldC (.ptr 0 0) 2 (l.length + s.size)), none, some (byV (l ++ s.data.toList))] := by
  have hc := k_ccF l.length l
  refine Ctr.new [] hT hmix Tryz.func14 rfl (fun _ _ => by kernel_rfl) rfl fun hok => ?_
  clear hok
  conv => whnf
  refine acall.au [0, 1] [] (hc) ?_
  intro _
  conv => whnf
  refine ⟨rfl, rfl, rfl, (by simp [brows]), hl, ?_⟩
  conv => whnf
  exact ⟨[0, 1, _], rfl, rfl, ⟨.inl rfl, .inl rfl, trivial⟩, ⟨rfl, ⟨rfl, rfl⟩, ⟨rfl, rfl⟩, trivial⟩, ⟨rfl, rfl, rfl, brows_app l s.data.toList⟩, trivial⟩
set_option maxRecDepth 100000 in
theorem k_wsU (l : List UInt8) (s : ByteArray) (hl : l.length + s.size ≤ 140737488351232) : K 14 [.ptr 0 0, .tr (ts s)] [bldC (.ptr 0 0) 1 l.length, byV l] (wsRes s) [some (bldC (.ptr 0 0) 2 (l.length + s.size)), none, some (byV (l ++ s.data.toList))] := by
  have hc := k_ccU l.length l
  refine Ctr.new [] hT hmix Tryz.func14 rfl (fun _ _ => by kernel_rfl) rfl fun hok => ?_
  clear hok
  conv => whnf
  refine acall.au [0, 1] [] (hc) ?_
  intro _
  conv => whnf
  refine ⟨rfl, rfl, rfl, (by simp [brows]), hl, ?_⟩
  conv => whnf
  exact ⟨[0, 1, _], rfl, rfl, ⟨.inl rfl, .inl rfl, trivial⟩, ⟨rfl, ⟨rfl, rfl⟩, ⟨rfl, rfl⟩, trivial⟩, ⟨rfl, rfl, rfl, brows_app l s.data.toList⟩, trivial⟩
theorem fr_parts (w : World) (b n : Nat) : (w.drew.freeze ⟨b, 0, none⟩ n).os = w.os ∧ (w.drew.freeze ⟨b, 0, none⟩ n).tape = w.tape ∧ (w.drew.freeze ⟨b, 0, none⟩ n).output = w.output ∧ (w.drew.freeze ⟨b, 0, none⟩ n).heap.size = w.heap.size ∧ ∀ k, k ≠ b → (w.drew.freeze ⟨b, 0, none⟩ n).heap[k]? = w.heap[k]? := by
  unfold World.freeze
  split
  · exact ⟨rfl, rfl, rfl, rfl, fun _ _ => rfl⟩
  · refine ⟨rfl, rfl, rfl, by rw [Array.size_modify]; rfl, fun k hk => ?_⟩
    simp only [Array.getElem?_modify]
    rw [if_neg (fun e => hk e.symm)]
    rfl
/-- the builder and its bytes are given up -/
theorem k_bStr (p : AV) (l : List UInt8) (hne : l ≠ []) : K 15 [.ptr 0 0] [bldC p 1 l.length, byV l] (.ret (.tr (ts ⟨l.toArray⟩))) [none, none] := by
  refine ⟨fun _ _ => by kernel_rfl, fun g w vs hun hm hsz hv => ?_⟩
  obtain ⟨v, rfl⟩ := one_arg hsz
  obtain ⟨b, c0, c1, g0, hb, r0, r1⟩ := bld_parts hm
  obtain rfl := (hv 0 v _ rfl rfl).ptr_inv g0
  obtain ⟨l1, g1, hB, hn, hv1⟩ := hm.blk 1 _ rfl
  have hll : (brows l).length = l.length := by simp [brows]
  have hl0 : 0 < l.length := List.length_pos_iff.2 hne
  rcases hv1 with ⟨_, hz⟩ | ⟨bg, cap, cur, rfl, hbg, hle, hcm, hcz, hrow, hcell⟩
  · rw [hz] at hll; simp at hll; omega
  rcases r1.sl_inv g1 with ⟨b', cap', e1, hle', rfl⟩ | ⟨e1, _, _⟩
  case inr => cases e1
  cases e1
  have hcells : ∀ (j : Nat) (x : UInt8), l[j]? = some x → w.cell? ⟨bg, j, none⟩ = some (.int .u8 x.toNat) := fun j x hj => by
    have : (brows l).flatten[j]? = some (.v (.int .u8 x.toNat)) := by
      rw [brows_flat, List.getElem?_map, hj]; rfl
    obtain ⟨c, q1, q2⟩ := hcell j _ this
    rw [Lib.cell_of_heap hbg, q1]
    cases q2 with
    | v _ => rfl
  refine (bs_run b bg cap c0 cur l w hb hbg hne hle' (by rw [hcz, Nat.mul_one]) hcm hcells).mono ?_
  rintro e w' ⟨rfl, rfl⟩
  obtain ⟨f1, f2, f3, f4, hk⟩ := fr_parts w bg l.length
  have hg : Grow g w g (w.drew.freeze ⟨bg, 0, none⟩ l.length) :=
    ⟨f1, f2, f3, Nat.le_of_eq f4.symm, fun k h => hk k fun e => h.2.2 1 (e ▸ .root g1 rfl), fun k h => hk k fun e => hm.xl 1 bg (.root g1 rfl) (e ▸ h), rfl, fun _ h => h, fun _ _ h => .inl h, fun h b e => .inl ⟨h, e⟩⟩
  refine ⟨g, hg, ⟨fun h b e => (by match h, e with | 0, e => cases e | 1, e => cases e | k + 2, e => simp [ofLO] at e), hm.inj, fun h b e => Nat.lt_of_lt_of_le (hm.lt h b e) hg.size, fun b hb => Nat.lt_of_lt_of_le (hm.xlt b hb) hg.size, hm.xl, hm.gl.grow hg⟩, fun h hh l hl => (by rw [hun h hh] at hl; cases hl), .tr (.v ?_)⟩
  show l.toArray.size ≤ _
  rw [List.size_toArray]; omega
theorem k_bStr0 : K 15 [.ptr 0 0] [.cells 35 [nilP, .tr (.v (.slice none 0 0))]] (.ret (.tr (ts ⟨#[]⟩))) [none] := by
  refine ⟨fun _ _ => by kernel_rfl, fun g w vs hun hm hsz hv => ?_⟩
  obtain ⟨v, rfl⟩ := one_arg hsz
  obtain ⟨l0, g0, b, cs, rfl, hb, hs, h1, h2⟩ := hm.blk 0 _ rfl
  obtain ⟨L⟩ := cs
  match L, hs with
  | [c0, c1], _ =>
    obtain ⟨rfl, _⟩ := val_inv (h2 1 c1 (.tr (.v (.slice none 0 0))) rfl rfl)
    obtain rfl := (hv 0 v _ rfl rfl).ptr_inv g0
    refine (bs_run0 b c0 w hb).mono ?_
    rintro e w' ⟨rfl, rfl⟩
    have hg : Grow g w g w.drew := ⟨rfl, rfl, rfl, Nat.le_refl _, fun _ _ => rfl, fun _ _ => rfl, rfl, fun _ h => h, fun _ _ h => .inl h, fun h b e => .inl ⟨h, e⟩⟩
    exact ⟨g, hg, ⟨fun h b e => (by match h, e with | 0, e => cases e | k + 1, e => simp [ofLO] at e), hm.inj, fun h b e => hm.lt h b e, fun b hb => hm.xlt b hb, hm.xl, hm.gl.grow hg⟩, fun h hh l hl => (by rw [hun h hh] at hl; cases hl), .tr (.v (show (0 : Nat) ≤ _ by omega))⟩
end Go.Proofs.YtcpolpbeimhgfaaGreatDoor.am

namespace Go.Proofs.YtcpolpbeimhgfaaGreatDoor.am
open Go Go.Proofs
/-- a call that is shown a slice of one's own, as its first argument -/
theorem acall.sn1 {P : Program} {m : Mem} {nh f h n : Nat} {xs : List AV} {K : EE} (ars : List AV) (res : AE) (hc : Ctr P f ars [] res [])
    (h5 : cvL m [] [] (seenS [] [h]) (.sl h n :: xs) ars) (h7 : (m h).isSome = true) (h8 : res.lowH 0 = true)
    (hK : K (res.out []) (rdOf m [h]) (callUp [] [h] res [])) : acall P m nh f (.sl h n :: xs) K :=
  acall.gen [] [h] ars [] res [] hc rfl rfl rfl rfl h5 trivial (by simp [h7]) h8 hK
def dwords : List ByteArray := [⟨#[]⟩, ⟨#[99, 111, 109, 112, 117, 116, 101]⟩, ⟨#[108, 111, 97, 100]⟩, ⟨#[115, 116, 111, 114, 101]⟩, ⟨#[115, 119, 97, 112]⟩, ⟨#[102, 101, 110, 99, 101]⟩, ⟨#[112, 114, 105, 110, 116]⟩, ⟨#[104, 97, 108, 116]⟩, ⟨#[100, 114, 97, 105, 110]⟩]
def dword (k : Int) : ByteArray := dwords.getD k.toNat ⟨#[]⟩
def wordK (k : Int) : Bool := addrK k || k == 6
def ownB : ByteArray := ⟨#[111, 119, 110]⟩
def nlB : ByteArray := ⟨#[10]⟩
/-- the words of a line -/
def lineW (d : Did) : List ByteArray := [prnB d.core, prnB d.at_, dword d.kind] ++ (bif addrK d.kind then [prnB d.addr] else []) ++ (bif wordK d.kind then [prnB d.word] else []) ++ (bif d.kind == 4 then [prnB d.put] else []) ++ (bif d.own then [ownB] else [])
def lineB (d : Did) : ByteArray := joinB (lineW d) ++ nlB
theorem joinL_le {l : List ByteArray} {m : Nat} (h : ∀ x ∈ l, x.size ≤ m) : (joinL l).length ≤ l.length * (m + 1) := by
  induction l with
  | nil => simp [joinL, Lib.join]
  | cons a r ih =>
    have ha := h a (.head _)
    have hr := ih (fun x hx => h x (.tail _ hx))
    have hd : a.data.toList.length = a.size := by simp
    cases r with
    | nil => simp [joinL, Lib.join]; omega
    | cons b r' =>
      have e : joinL (a :: b :: r') = a.data.toList ++ ([32] ++ joinL (b :: r')) := by simp [joinL, Lib.join]
      rw [e]
      simp only [List.length_append, List.length_cons, List.length_nil] at hr ⊢
      rw [Nat.succ_mul]
      omega
theorem k_tnumber (n : Int) : K 25 [.tr (ti n)] [] (.ret (.tr (ts (prnB n)))) [] := by
  have h := k_print n
  refine Ctr.of hT hmix Tryz.func25 rfl (fun _ _ => by kernel_rfl) rfl fun hok => ?_
  clear hok
  conv => whnf
  refine acall.pure _ (h) rfl rfl fun _ => ?_
  conv => whnf
  exact ⟨.inl rfl, trivial⟩
set_option maxRecDepth 100000 in
set_option maxHeartbeats 1000000 in
theorem t_line1 (dc da dd dw dp : Int) (dn : Bool) (hc1 : -9223372036854775808 ≤ dc ∧ dc ≤ 9223372036854775807) (ha1 : -9223372036854775808 ≤ da ∧ da ≤ 9223372036854775807) (hd1 : -9223372036854775808 ≤ dd ∧ dd ≤ 9223372036854775807) (hw1 : -9223372036854775808 ≤ dw ∧ dw ≤ 9223372036854775807) (hp1 : -9223372036854775808 ≤ dp ∧ dp ≤ 9223372036854775807) :
    K 12 [didA 1 dc da dd dw dp dn] [] (.ret (.tr (ts (lineB ⟨1, dc, da, dd, dw, dp, dn⟩)))) [] := by
  have hf := t_formOf1 dc da dd dw dp dn
  have hc := k_tnumber dc
  have ha := k_tnumber da
  have hd := k_tnumber dd
  have hw := k_print dw
  have hp := k_print dp
  have sc : (prnB dc).size ≤ 30 := Nat.le_trans (prn_len hc1.1 hc1.2) (by decide)
  have sa : (prnB da).size ≤ 30 := Nat.le_trans (prn_len ha1.1 ha1.2) (by decide)
  have sd : (prnB dd).size ≤ 30 := Nat.le_trans (prn_len hd1.1 hd1.2) (by decide)
  have sw : (prnB dw).size ≤ 30 := Nat.le_trans (prn_len hw1.1 hw1.2) (by decide)
  have sp : (prnB dp).size ≤ 30 := Nat.le_trans (prn_len hp1.1 hp1.2) (by decide)
  have hnl : (⟨#[10]⟩ : ByteArray).size = 1 := rfl
  refine Ctr.of hT hmix Tryz.func12 rfl (fun _ _ => by kernel_rfl) rfl fun hok => ?_
  clear hok
  generalize rightD ⟨1, dc, da, dd, dw, dp, dn⟩ = R at hf
  conv => whnf
  refine acall.pure _ (hf) rfl rfl fun _ => ?_
  conv => whnf
  refine acall.pure _ (hc) rfl rfl ?_
  conv => whnf
  refine acall.pure _ (ha) rfl rfl ?_
  conv => whnf
  refine ⟨by kernel_rfl, fun _ => ?_⟩
  conv => whnf
  refine csplit (fun ho => ?_) (fun ho => ?_)
  · subst ho
    conv => whnf
    refine ⟨rfl, rfl, rfl, (by simp), (show 4 * 16 ≤ 150000000000000 by decide), fun q hq => ?_, ?_⟩
    · cases hq with
      | head => exact Nat.ne_of_beq_eq_false rfl
      | tail _ h => cases h
    conv => whnf
    have hj := k_join [prnB dc, prnB da, ⟨#[99, 111, 109, 112, 117, 116, 101]⟩, ownB] (Nat.le_trans (joinL_le (m := 30) (fun x hx => by
        simp only [List.mem_cons, List.not_mem_nil, or_false] at hx
        rcases hx with rfl | rfl | rfl | rfl <;> first | assumption | exact Nat.le_of_ble_eq_true rfl)) (by simp))
    refine acall.sn1 _ _ hj ⟨⟨rfl, Nat.le_refl _, rfl⟩, .inl rfl, trivial⟩ rfl rfl fun _ => ?_
    conv => whnf
    have hjz : (joinB [prnB dc, prnB da, ⟨#[99, 111, 109, 112, 117, 116, 101]⟩, ownB]).size ≤ 1000 := by
      show (joinL _).toArray.size ≤ 1000
      rw [List.size_toArray]
      refine Nat.le_trans (joinL_le (m := 30) (fun x hx => by
        simp only [List.mem_cons, List.not_mem_nil, or_false] at hx
        rcases hx with rfl | rfl | rfl | rfl <;> first | assumption | exact Nat.le_of_ble_eq_true rfl)) (by simp)
    refine ⟨(by rw [hnl]; exact Nat.le_trans (Nat.add_le_add_right hjz 1) (by decide)), ?_⟩
    conv => whnf
    exact ⟨.inl rfl, trivial⟩
  · subst ho
    conv => whnf
    have hj := k_join [prnB dc, prnB da, ⟨#[99, 111, 109, 112, 117, 116, 101]⟩] (Nat.le_trans (joinL_le (m := 30) (fun x hx => by
        simp only [List.mem_cons, List.not_mem_nil, or_false] at hx
        rcases hx with rfl | rfl | rfl <;> first | assumption | exact Nat.le_of_ble_eq_true rfl)) (by simp))
    refine acall.sn1 _ _ hj ⟨⟨rfl, Nat.le_refl _, rfl⟩, .inl rfl, trivial⟩ rfl rfl fun _ => ?_
    conv => whnf
    have hjz : (joinB [prnB dc, prnB da, ⟨#[99, 111, 109, 112, 117, 116, 101]⟩]).size ≤ 1000 := by
      show (joinL _).toArray.size ≤ 1000
      rw [List.size_toArray]
      refine Nat.le_trans (joinL_le (m := 30) (fun x hx => by
        simp only [List.mem_cons, List.not_mem_nil, or_false] at hx
        rcases hx with rfl | rfl | rfl <;> first | assumption | exact Nat.le_of_ble_eq_true rfl)) (by simp)
    refine ⟨(by rw [hnl]; exact Nat.le_trans (Nat.add_le_add_right hjz 1) (by decide)), ?_⟩
    conv => whnf
    exact ⟨.inl rfl, trivial⟩
set_option maxRecDepth 100000 in
set_option maxHeartbeats 1000000 in
theorem t_line2 (dc da dd dw dp : Int) (dn : Bool) (hc1 : -9223372036854775808 ≤ dc ∧ dc ≤ 9223372036854775807) (ha1 : -9223372036854775808 ≤ da ∧ da ≤ 9223372036854775807) (hd1 : -9223372036854775808 ≤ dd ∧ dd ≤ 9223372036854775807) (hw1 : -9223372036854775808 ≤ dw ∧ dw ≤ 9223372036854775807) (hp1 : -9223372036854775808 ≤ dp ∧ dp ≤ 9223372036854775807) :
    K 12 [didA 2 dc da dd dw dp dn] [] (.ret (.tr (ts (lineB ⟨2, dc, da, dd, dw, dp, dn⟩)))) [] := by
  have hf := t_formOf2 dc da dd dw dp dn
  have hc := k_tnumber dc
  have ha := k_tnumber da
  have hd := k_tnumber dd
  have hw := k_print dw
  have hp := k_print dp
  have sc : (prnB dc).size ≤ 30 := Nat.le_trans (prn_len hc1.1 hc1.2) (by decide)
  have sa : (prnB da).size ≤ 30 := Nat.le_trans (prn_len ha1.1 ha1.2) (by decide)
  have sd : (prnB dd).size ≤ 30 := Nat.le_trans (prn_len hd1.1 hd1.2) (by decide)
  have sw : (prnB dw).size ≤ 30 := Nat.le_trans (prn_len hw1.1 hw1.2) (by decide)
  have sp : (prnB dp).size ≤ 30 := Nat.le_trans (prn_len hp1.1 hp1.2) (by decide)
  have hnl : (⟨#[10]⟩ : ByteArray).size = 1 := rfl
  refine Ctr.of hT hmix Tryz.func12 rfl (fun _ _ => by kernel_rfl) rfl fun hok => ?_
  clear hok
  generalize rightD ⟨2, dc, da, dd, dw, dp, dn⟩ = R at hf
  conv => whnf
  refine acall.pure _ (hf) rfl rfl fun _ => ?_
  conv => whnf
  refine acall.pure _ (hc) rfl rfl ?_
  conv => whnf
  refine acall.pure _ (ha) rfl rfl ?_
  conv => whnf
  refine ⟨by kernel_rfl, fun _ => ?_⟩
  conv => whnf
  refine acall.pure _ (hd) rfl rfl fun _ => ?_
  conv => whnf
  refine ⟨rfl, rfl, rfl, (by simp), (show 4 * 16 ≤ 150000000000000 by decide), fun q hq => ?_, ?_⟩
  · cases hq with
    | head => exact Nat.ne_of_beq_eq_false rfl
    | tail _ h => cases h
  conv => whnf
  refine acall.pure _ (hw) rfl rfl fun _ => ?_
  conv => whnf
  refine ⟨rfl, rfl, rfl, (by simp), (show 5 * 16 ≤ 150000000000000 by decide), fun q hq => ?_, ?_⟩
  · cases hq with
    | head => exact Nat.ne_of_beq_eq_false rfl
    | tail _ h => cases h
  conv => whnf
  refine csplit (fun ho => ?_) (fun ho => ?_)
  · subst ho
    conv => whnf
    refine ⟨rfl, rfl, rfl, (by simp), (show 6 * 16 ≤ 150000000000000 by decide), fun q hq => ?_, ?_⟩
    · cases hq with
      | head => exact Nat.ne_of_beq_eq_false rfl
      | tail _ h => cases h
    conv => whnf
    have hj := k_join [prnB dc, prnB da, ⟨#[108, 111, 97, 100]⟩, prnB dd, prnB dw, ownB] (Nat.le_trans (joinL_le (m := 30) (fun x hx => by
        simp only [List.mem_cons, List.not_mem_nil, or_false] at hx
        rcases hx with rfl | rfl | rfl | rfl | rfl | rfl <;> first | assumption | exact Nat.le_of_ble_eq_true rfl)) (by simp))
    refine acall.sn1 _ _ hj ⟨⟨rfl, Nat.le_refl _, rfl⟩, .inl rfl, trivial⟩ rfl rfl fun _ => ?_
    conv => whnf
    have hjz : (joinB [prnB dc, prnB da, ⟨#[108, 111, 97, 100]⟩, prnB dd, prnB dw, ownB]).size ≤ 1000 := by
      show (joinL _).toArray.size ≤ 1000
      rw [List.size_toArray]
      refine Nat.le_trans (joinL_le (m := 30) (fun x hx => by
        simp only [List.mem_cons, List.not_mem_nil, or_false] at hx
        rcases hx with rfl | rfl | rfl | rfl | rfl | rfl <;> first | assumption | exact Nat.le_of_ble_eq_true rfl)) (by simp)
    refine ⟨(by rw [hnl]; exact Nat.le_trans (Nat.add_le_add_right hjz 1) (by decide)), ?_⟩
    conv => whnf
    exact ⟨.inl rfl, trivial⟩
  · subst ho
    conv => whnf
    have hj := k_join [prnB dc, prnB da, ⟨#[108, 111, 97, 100]⟩, prnB dd, prnB dw] (Nat.le_trans (joinL_le (m := 30) (fun x hx => by
        simp only [List.mem_cons, List.not_mem_nil, or_false] at hx
        rcases hx with rfl | rfl | rfl | rfl | rfl <;> first | assumption | exact Nat.le_of_ble_eq_true rfl)) (by simp))
    refine acall.sn1 _ _ hj ⟨⟨rfl, Nat.le_refl _, rfl⟩, .inl rfl, trivial⟩ rfl rfl fun _ => ?_
    conv => whnf
    have hjz : (joinB [prnB dc, prnB da, ⟨#[108, 111, 97, 100]⟩, prnB dd, prnB dw]).size ≤ 1000 := by
      show (joinL _).toArray.size ≤ 1000
      rw [List.size_toArray]
      refine Nat.le_trans (joinL_le (m := 30) (fun x hx => by
        simp only [List.mem_cons, List.not_mem_nil, or_false] at hx
        rcases hx with rfl | rfl | rfl | rfl | rfl <;> first | assumption | exact Nat.le_of_ble_eq_true rfl)) (by simp)
    refine ⟨(by rw [hnl]; exact Nat.le_trans (Nat.add_le_add_right hjz 1) (by decide)), ?_⟩
    conv => whnf
    exact ⟨.inl rfl, trivial⟩
set_option maxRecDepth 100000 in
set_option maxHeartbeats 1000000 in
theorem t_line3 (dc da dd dw dp : Int) (dn : Bool) (hc1 : -9223372036854775808 ≤ dc ∧ dc ≤ 9223372036854775807) (ha1 : -9223372036854775808 ≤ da ∧ da ≤ 9223372036854775807) (hd1 : -9223372036854775808 ≤ dd ∧ dd ≤ 9223372036854775807) (hw1 : -9223372036854775808 ≤ dw ∧ dw ≤ 9223372036854775807) (hp1 : -9223372036854775808 ≤ dp ∧ dp ≤ 9223372036854775807) :
    K 12 [didA 3 dc da dd dw dp dn] [] (.ret (.tr (ts (lineB ⟨3, dc, da, dd, dw, dp, dn⟩)))) [] := by
  have hf := t_formOf3 dc da dd dw dp dn
  have hc := k_tnumber dc
  have ha := k_tnumber da
  have hd := k_tnumber dd
  have hw := k_print dw
  have hp := k_print dp
  have sc : (prnB dc).size ≤ 30 := Nat.le_trans (prn_len hc1.1 hc1.2) (by decide)
  have sa : (prnB da).size ≤ 30 := Nat.le_trans (prn_len ha1.1 ha1.2) (by decide)
  have sd : (prnB dd).size ≤ 30 := Nat.le_trans (prn_len hd1.1 hd1.2) (by decide)
  have sw : (prnB dw).size ≤ 30 := Nat.le_trans (prn_len hw1.1 hw1.2) (by decide)
  have sp : (prnB dp).size ≤ 30 := Nat.le_trans (prn_len hp1.1 hp1.2) (by decide)
  have hnl : (⟨#[10]⟩ : ByteArray).size = 1 := rfl
  refine Ctr.of hT hmix Tryz.func12 rfl (fun _ _ => by kernel_rfl) rfl fun hok => ?_
  clear hok
  generalize rightD ⟨3, dc, da, dd, dw, dp, dn⟩ = R at hf
  conv => whnf
  refine acall.pure _ (hf) rfl rfl fun _ => ?_
  conv => whnf
  refine acall.pure _ (hc) rfl rfl ?_
  conv => whnf
  refine acall.pure _ (ha) rfl rfl ?_
  conv => whnf
  refine ⟨by kernel_rfl, fun _ => ?_⟩
  conv => whnf
  refine acall.pure _ (hd) rfl rfl fun _ => ?_
  conv => whnf
  refine ⟨rfl, rfl, rfl, (by simp), (show 4 * 16 ≤ 150000000000000 by decide), fun q hq => ?_, ?_⟩
  · cases hq with
    | head => exact Nat.ne_of_beq_eq_false rfl
    | tail _ h => cases h
  conv => whnf
  refine acall.pure _ (hw) rfl rfl fun _ => ?_
  conv => whnf
  refine ⟨rfl, rfl, rfl, (by simp), (show 5 * 16 ≤ 150000000000000 by decide), fun q hq => ?_, ?_⟩
  · cases hq with
    | head => exact Nat.ne_of_beq_eq_false rfl
    | tail _ h => cases h
  conv => whnf
  refine csplit (fun ho => ?_) (fun ho => ?_)
  · subst ho
    conv => whnf
    refine ⟨rfl, rfl, rfl, (by simp), (show 6 * 16 ≤ 150000000000000 by decide), fun q hq => ?_, ?_⟩
    · cases hq with
      | head => exact Nat.ne_of_beq_eq_false rfl
      | tail _ h => cases h
    conv => whnf
    have hj := k_join [prnB dc, prnB da, ⟨#[115, 116, 111, 114, 101]⟩, prnB dd, prnB dw, ownB] (Nat.le_trans (joinL_le (m := 30) (fun x hx => by
        simp only [List.mem_cons, List.not_mem_nil, or_false] at hx
        rcases hx with rfl | rfl | rfl | rfl | rfl | rfl <;> first | assumption | exact Nat.le_of_ble_eq_true rfl)) (by simp))
    refine acall.sn1 _ _ hj ⟨⟨rfl, Nat.le_refl _, rfl⟩, .inl rfl, trivial⟩ rfl rfl fun _ => ?_
    conv => whnf
    have hjz : (joinB [prnB dc, prnB da, ⟨#[115, 116, 111, 114, 101]⟩, prnB dd, prnB dw, ownB]).size ≤ 1000 := by
      show (joinL _).toArray.size ≤ 1000
      rw [List.size_toArray]
      refine Nat.le_trans (joinL_le (m := 30) (fun x hx => by
        simp only [List.mem_cons, List.not_mem_nil, or_false] at hx
        rcases hx with rfl | rfl | rfl | rfl | rfl | rfl <;> first | assumption | exact Nat.le_of_ble_eq_true rfl)) (by simp)
    refine ⟨(by rw [hnl]; exact Nat.le_trans (Nat.add_le_add_right hjz 1) (by decide)), ?_⟩
    conv => whnf
    exact ⟨.inl rfl, trivial⟩
  · subst ho
    conv => whnf
    have hj := k_join [prnB dc, prnB da, ⟨#[115, 116, 111, 114, 101]⟩, prnB dd, prnB dw] (Nat.le_trans (joinL_le (m := 30) (fun x hx => by
        simp only [List.mem_cons, List.not_mem_nil, or_false] at hx
        rcases hx with rfl | rfl | rfl | rfl | rfl <;> first | assumption | exact Nat.le_of_ble_eq_true rfl)) (by simp))
    refine acall.sn1 _ _ hj ⟨⟨rfl, Nat.le_refl _, rfl⟩, .inl rfl, trivial⟩ rfl rfl fun _ => ?_
    conv => whnf
    have hjz : (joinB [prnB dc, prnB da, ⟨#[115, 116, 111, 114, 101]⟩, prnB dd, prnB dw]).size ≤ 1000 := by
      show (joinL _).toArray.size ≤ 1000
      rw [List.size_toArray]
      refine Nat.le_trans (joinL_le (m := 30) (fun x hx => by
        simp only [List.mem_cons, List.not_mem_nil, or_false] at hx
        rcases hx with rfl | rfl | rfl | rfl | rfl <;> first | assumption | exact Nat.le_of_ble_eq_true rfl)) (by simp)
    refine ⟨(by rw [hnl]; exact Nat.le_trans (Nat.add_le_add_right hjz 1) (by decide)), ?_⟩
    conv => whnf
    exact ⟨.inl rfl, trivial⟩
set_option maxRecDepth 100000 in
set_option maxHeartbeats 1000000 in
theorem t_line4 (dc da dd dw dp : Int) (dn : Bool) (hc1 : -9223372036854775808 ≤ dc ∧ dc ≤ 9223372036854775807) (ha1 : -9223372036854775808 ≤ da ∧ da ≤ 9223372036854775807) (hd1 : -9223372036854775808 ≤ dd ∧ dd ≤ 9223372036854775807) (hw1 : -9223372036854775808 ≤ dw ∧ dw ≤ 9223372036854775807) (hp1 : -9223372036854775808 ≤ dp ∧ dp ≤ 9223372036854775807) :
    K 12 [didA 4 dc da dd dw dp dn] [] (.ret (.tr (ts (lineB ⟨4, dc, da, dd, dw, dp, dn⟩)))) [] := by
  have hf := t_formOf4 dc da dd dw dp dn
  have hc := k_tnumber dc
  have ha := k_tnumber da
  have hd := k_tnumber dd
  have hw := k_print dw
  have hp := k_print dp
  have sc : (prnB dc).size ≤ 30 := Nat.le_trans (prn_len hc1.1 hc1.2) (by decide)
  have sa : (prnB da).size ≤ 30 := Nat.le_trans (prn_len ha1.1 ha1.2) (by decide)
  have sd : (prnB dd).size ≤ 30 := Nat.le_trans (prn_len hd1.1 hd1.2) (by decide)
  have sw : (prnB dw).size ≤ 30 := Nat.le_trans (prn_len hw1.1 hw1.2) (by decide)
  have sp : (prnB dp).size ≤ 30 := Nat.le_trans (prn_len hp1.1 hp1.2) (by decide)
  have hnl : (⟨#[10]⟩ : ByteArray).size = 1 := rfl
  refine Ctr.of hT hmix Tryz.func12 rfl (fun _ _ => by kernel_rfl) rfl fun hok => ?_
  clear hok
  generalize rightD ⟨4, dc, da, dd, dw, dp, dn⟩ = R at hf
  conv => whnf
  refine acall.pure _ (hf) rfl rfl fun _ => ?_
  conv => whnf
  refine acall.pure _ (hc) rfl rfl ?_
  conv => whnf
  refine acall.pure _ (ha) rfl rfl ?_
  conv => whnf
  refine ⟨by kernel_rfl, fun _ => ?_⟩
  conv => whnf
  refine acall.pure _ (hd) rfl rfl fun _ => ?_
  conv => whnf
  refine ⟨rfl, rfl, rfl, (by simp), (show 4 * 16 ≤ 150000000000000 by decide), fun q hq => ?_, ?_⟩
  · cases hq with
    | head => exact Nat.ne_of_beq_eq_false rfl
    | tail _ h => cases h
  conv => whnf
  refine acall.pure _ (hw) rfl rfl fun _ => ?_
  conv => whnf
  refine ⟨rfl, rfl, rfl, (by simp), (show 5 * 16 ≤ 150000000000000 by decide), fun q hq => ?_, ?_⟩
  · cases hq with
    | head => exact Nat.ne_of_beq_eq_false rfl
    | tail _ h => cases h
  conv => whnf
  refine acall.pure _ (hp) rfl rfl fun _ => ?_
  conv => whnf
  refine ⟨rfl, rfl, rfl, (by simp), (show 6 * 16 ≤ 150000000000000 by decide), fun q hq => ?_, ?_⟩
  · cases hq with
    | head => exact Nat.ne_of_beq_eq_false rfl
    | tail _ h => cases h
  conv => whnf
  refine csplit (fun ho => ?_) (fun ho => ?_)
  · subst ho
    conv => whnf
    refine ⟨rfl, rfl, rfl, (by simp), (show 7 * 16 ≤ 150000000000000 by decide), fun q hq => ?_, ?_⟩
    · cases hq with
      | head => exact Nat.ne_of_beq_eq_false rfl
      | tail _ h => cases h
    conv => whnf
    have hj := k_join [prnB dc, prnB da, ⟨#[115, 119, 97, 112]⟩, prnB dd, prnB dw, prnB dp, ownB] (Nat.le_trans (joinL_le (m := 30) (fun x hx => by
        simp only [List.mem_cons, List.not_mem_nil, or_false] at hx
        rcases hx with rfl | rfl | rfl | rfl | rfl | rfl | rfl <;> first | assumption | exact Nat.le_of_ble_eq_true rfl)) (by simp))
    refine acall.sn1 _ _ hj ⟨⟨rfl, Nat.le_refl _, rfl⟩, .inl rfl, trivial⟩ rfl rfl fun _ => ?_
    conv => whnf
    have hjz : (joinB [prnB dc, prnB da, ⟨#[115, 119, 97, 112]⟩, prnB dd, prnB dw, prnB dp, ownB]).size ≤ 1000 := by
      show (joinL _).toArray.size ≤ 1000
      rw [List.size_toArray]
      refine Nat.le_trans (joinL_le (m := 30) (fun x hx => by
        simp only [List.mem_cons, List.not_mem_nil, or_false] at hx
        rcases hx with rfl | rfl | rfl | rfl | rfl | rfl | rfl <;> first | assumption | exact Nat.le_of_ble_eq_true rfl)) (by simp)
    refine ⟨(by rw [hnl]; exact Nat.le_trans (Nat.add_le_add_right hjz 1) (by decide)), ?_⟩
    conv => whnf
    exact ⟨.inl rfl, trivial⟩
  · subst ho
    conv => whnf
    have hj := k_join [prnB dc, prnB da, ⟨#[115, 119, 97, 112]⟩, prnB dd, prnB dw, prnB dp] (Nat.le_trans (joinL_le (m := 30) (fun x hx => by
        simp only [List.mem_cons, List.not_mem_nil, or_false] at hx
        rcases hx with rfl | rfl | rfl | rfl | rfl | rfl <;> first | assumption | exact Nat.le_of_ble_eq_true rfl)) (by simp))
    refine acall.sn1 _ _ hj ⟨⟨rfl, Nat.le_refl _, rfl⟩, .inl rfl, trivial⟩ rfl rfl fun _ => ?_
    conv => whnf
    have hjz : (joinB [prnB dc, prnB da, ⟨#[115, 119, 97, 112]⟩, prnB dd, prnB dw, prnB dp]).size ≤ 1000 := by
      show (joinL _).toArray.size ≤ 1000
      rw [List.size_toArray]
      refine Nat.le_trans (joinL_le (m := 30) (fun x hx => by
        simp only [List.mem_cons, List.not_mem_nil, or_false] at hx
        rcases hx with rfl | rfl | rfl | rfl | rfl | rfl <;> first | assumption | exact Nat.le_of_ble_eq_true rfl)) (by simp)
    refine ⟨(by rw [hnl]; exact Nat.le_trans (Nat.add_le_add_right hjz 1) (by decide)), ?_⟩
    conv => whnf
    exact ⟨.inl rfl, trivial⟩
set_option maxRecDepth 100000 in
set_option maxHeartbeats 1000000 in
theorem t_line5 (dc da dd dw dp : Int) (dn : Bool) (hc1 : -9223372036854775808 ≤ dc ∧ dc ≤ 9223372036854775807) (ha1 : -9223372036854775808 ≤ da ∧ da ≤ 9223372036854775807) (hd1 : -9223372036854775808 ≤ dd ∧ dd ≤ 9223372036854775807) (hw1 : -9223372036854775808 ≤ dw ∧ dw ≤ 9223372036854775807) (hp1 : -9223372036854775808 ≤ dp ∧ dp ≤ 9223372036854775807) :
    K 12 [didA 5 dc da dd dw dp dn] [] (.ret (.tr (ts (lineB ⟨5, dc, da, dd, dw, dp, dn⟩)))) [] := by
  have hf := t_formOf5 dc da dd dw dp dn
  have hc := k_tnumber dc
  have ha := k_tnumber da
  have hd := k_tnumber dd
  have hw := k_print dw
  have hp := k_print dp
  have sc : (prnB dc).size ≤ 30 := Nat.le_trans (prn_len hc1.1 hc1.2) (by decide)
  have sa : (prnB da).size ≤ 30 := Nat.le_trans (prn_len ha1.1 ha1.2) (by decide)
  have sd : (prnB dd).size ≤ 30 := Nat.le_trans (prn_len hd1.1 hd1.2) (by decide)
  have sw : (prnB dw).size ≤ 30 := Nat.le_trans (prn_len hw1.1 hw1.2) (by decide)
  have sp : (prnB dp).size ≤ 30 := Nat.le_trans (prn_len hp1.1 hp1.2) (by decide)
  have hnl : (⟨#[10]⟩ : ByteArray).size = 1 := rfl
  refine Ctr.of hT hmix Tryz.func12 rfl (fun _ _ => by kernel_rfl) rfl fun hok => ?_
  clear hok
  generalize rightD ⟨5, dc, da, dd, dw, dp, dn⟩ = R at hf
  conv => whnf
  refine acall.pure _ (hf) rfl rfl fun _ => ?_
  conv => whnf
  refine acall.pure _ (hc) rfl rfl ?_
  conv => whnf
  refine acall.pure _ (ha) rfl rfl ?_
  conv => whnf
  refine ⟨by kernel_rfl, fun _ => ?_⟩
  conv => whnf
  refine csplit (fun ho => ?_) (fun ho => ?_)
  · subst ho
    conv => whnf
    refine ⟨rfl, rfl, rfl, (by simp), (show 4 * 16 ≤ 150000000000000 by decide), fun q hq => ?_, ?_⟩
    · cases hq with
      | head => exact Nat.ne_of_beq_eq_false rfl
      | tail _ h => cases h
    conv => whnf
    have hj := k_join [prnB dc, prnB da, ⟨#[102, 101, 110, 99, 101]⟩, ownB] (Nat.le_trans (joinL_le (m := 30) (fun x hx => by
        simp only [List.mem_cons, List.not_mem_nil, or_false] at hx
        rcases hx with rfl | rfl | rfl | rfl <;> first | assumption | exact Nat.le_of_ble_eq_true rfl)) (by simp))
    refine acall.sn1 _ _ hj ⟨⟨rfl, Nat.le_refl _, rfl⟩, .inl rfl, trivial⟩ rfl rfl fun _ => ?_
    conv => whnf
    have hjz : (joinB [prnB dc, prnB da, ⟨#[102, 101, 110, 99, 101]⟩, ownB]).size ≤ 1000 := by
      show (joinL _).toArray.size ≤ 1000
      rw [List.size_toArray]
      refine Nat.le_trans (joinL_le (m := 30) (fun x hx => by
        simp only [List.mem_cons, List.not_mem_nil, or_false] at hx
        rcases hx with rfl | rfl | rfl | rfl <;> first | assumption | exact Nat.le_of_ble_eq_true rfl)) (by simp)
    refine ⟨(by rw [hnl]; exact Nat.le_trans (Nat.add_le_add_right hjz 1) (by decide)), ?_⟩
    conv => whnf
    exact ⟨.inl rfl, trivial⟩
  · subst ho
    conv => whnf
    have hj := k_join [prnB dc, prnB da, ⟨#[102, 101, 110, 99, 101]⟩] (Nat.le_trans (joinL_le (m := 30) (fun x hx => by
        simp only [List.mem_cons, List.not_mem_nil, or_false] at hx
        rcases hx with rfl | rfl | rfl <;> first | assumption | exact Nat.le_of_ble_eq_true rfl)) (by simp))
    refine acall.sn1 _ _ hj ⟨⟨rfl, Nat.le_refl _, rfl⟩, .inl rfl, trivial⟩ rfl rfl fun _ => ?_
    conv => whnf
    have hjz : (joinB [prnB dc, prnB da, ⟨#[102, 101, 110, 99, 101]⟩]).size ≤ 1000 := by
      show (joinL _).toArray.size ≤ 1000
      rw [List.size_toArray]
      refine Nat.le_trans (joinL_le (m := 30) (fun x hx => by
        simp only [List.mem_cons, List.not_mem_nil, or_false] at hx
        rcases hx with rfl | rfl | rfl <;> first | assumption | exact Nat.le_of_ble_eq_true rfl)) (by simp)
    refine ⟨(by rw [hnl]; exact Nat.le_trans (Nat.add_le_add_right hjz 1) (by decide)), ?_⟩
    conv => whnf
    exact ⟨.inl rfl, trivial⟩
set_option maxRecDepth 100000 in
set_option maxHeartbeats 1000000 in
theorem t_line6 (dc da dd dw dp : Int) (dn : Bool) (hc1 : -9223372036854775808 ≤ dc ∧ dc ≤ 9223372036854775807) (ha1 : -9223372036854775808 ≤ da ∧ da ≤ 9223372036854775807) (hd1 : -9223372036854775808 ≤ dd ∧ dd ≤ 9223372036854775807) (hw1 : -9223372036854775808 ≤ dw ∧ dw ≤ 9223372036854775807) (hp1 : -9223372036854775808 ≤ dp ∧ dp ≤ 9223372036854775807) :
    K 12 [didA 6 dc da dd dw dp dn] [] (.ret (.tr (ts (lineB ⟨6, dc, da, dd, dw, dp, dn⟩)))) [] := by
  have hf := t_formOf6 dc da dd dw dp dn
  have hc := k_tnumber dc
  have ha := k_tnumber da
  have hd := k_tnumber dd
  have hw := k_print dw
  have hp := k_print dp
  have sc : (prnB dc).size ≤ 30 := Nat.le_trans (prn_len hc1.1 hc1.2) (by decide)
  have sa : (prnB da).size ≤ 30 := Nat.le_trans (prn_len ha1.1 ha1.2) (by decide)
  have sd : (prnB dd).size ≤ 30 := Nat.le_trans (prn_len hd1.1 hd1.2) (by decide)
  have sw : (prnB dw).size ≤ 30 := Nat.le_trans (prn_len hw1.1 hw1.2) (by decide)
  have sp : (prnB dp).size ≤ 30 := Nat.le_trans (prn_len hp1.1 hp1.2) (by decide)
  have hnl : (⟨#[10]⟩ : ByteArray).size = 1 := rfl
  refine Ctr.of hT hmix Tryz.func12 rfl (fun _ _ => by kernel_rfl) rfl fun hok => ?_
  clear hok
  generalize rightD ⟨6, dc, da, dd, dw, dp, dn⟩ = R at hf
  conv => whnf
  refine acall.pure _ (hf) rfl rfl fun _ => ?_
  conv => whnf
  refine acall.pure _ (hc) rfl rfl ?_
  conv => whnf
  refine acall.pure _ (ha) rfl rfl ?_
  conv => whnf
  refine ⟨by kernel_rfl, fun _ => ?_⟩
  conv => whnf
  refine acall.pure _ (hw) rfl rfl fun _ => ?_
  conv => whnf
  refine ⟨rfl, rfl, rfl, (by simp), (show 4 * 16 ≤ 150000000000000 by decide), fun q hq => ?_, ?_⟩
  · cases hq with
    | head => exact Nat.ne_of_beq_eq_false rfl
    | tail _ h => cases h
  conv => whnf
  refine csplit (fun ho => ?_) (fun ho => ?_)
  · subst ho
    conv => whnf
    refine ⟨rfl, rfl, rfl, (by simp), (show 5 * 16 ≤ 150000000000000 by decide), fun q hq => ?_, ?_⟩
    · cases hq with
      | head => exact Nat.ne_of_beq_eq_false rfl
      | tail _ h => cases h
    conv => whnf
    have hj := k_join [prnB dc, prnB da, ⟨#[112, 114, 105, 110, 116]⟩, prnB dw, ownB] (Nat.le_trans (joinL_le (m := 30) (fun x hx => by
        simp only [List.mem_cons, List.not_mem_nil, or_false] at hx
        rcases hx with rfl | rfl | rfl | rfl | rfl <;> first | assumption | exact Nat.le_of_ble_eq_true rfl)) (by simp))
    refine acall.sn1 _ _ hj ⟨⟨rfl, Nat.le_refl _, rfl⟩, .inl rfl, trivial⟩ rfl rfl fun _ => ?_
    conv => whnf
    have hjz : (joinB [prnB dc, prnB da, ⟨#[112, 114, 105, 110, 116]⟩, prnB dw, ownB]).size ≤ 1000 := by
      show (joinL _).toArray.size ≤ 1000
      rw [List.size_toArray]
      refine Nat.le_trans (joinL_le (m := 30) (fun x hx => by
        simp only [List.mem_cons, List.not_mem_nil, or_false] at hx
        rcases hx with rfl | rfl | rfl | rfl | rfl <;> first | assumption | exact Nat.le_of_ble_eq_true rfl)) (by simp)
    refine ⟨(by rw [hnl]; exact Nat.le_trans (Nat.add_le_add_right hjz 1) (by decide)), ?_⟩
    conv => whnf
    exact ⟨.inl rfl, trivial⟩
  · subst ho
    conv => whnf
    have hj := k_join [prnB dc, prnB da, ⟨#[112, 114, 105, 110, 116]⟩, prnB dw] (Nat.le_trans (joinL_le (m := 30) (fun x hx => by
        simp only [List.mem_cons, List.not_mem_nil, or_false] at hx
        rcases hx with rfl | rfl | rfl | rfl <;> first | assumption | exact Nat.le_of_ble_eq_true rfl)) (by simp))
    refine acall.sn1 _ _ hj ⟨⟨rfl, Nat.le_refl _, rfl⟩, .inl rfl, trivial⟩ rfl rfl fun _ => ?_
    conv => whnf
    have hjz : (joinB [prnB dc, prnB da, ⟨#[112, 114, 105, 110, 116]⟩, prnB dw]).size ≤ 1000 := by
      show (joinL _).toArray.size ≤ 1000
      rw [List.size_toArray]
      refine Nat.le_trans (joinL_le (m := 30) (fun x hx => by
        simp only [List.mem_cons, List.not_mem_nil, or_false] at hx
        rcases hx with rfl | rfl | rfl | rfl <;> first | assumption | exact Nat.le_of_ble_eq_true rfl)) (by simp)
    refine ⟨(by rw [hnl]; exact Nat.le_trans (Nat.add_le_add_right hjz 1) (by decide)), ?_⟩
    conv => whnf
    exact ⟨.inl rfl, trivial⟩
set_option maxRecDepth 100000 in
set_option maxHeartbeats 1000000 in
theorem t_line7 (dc da dd dw dp : Int) (dn : Bool) (hc1 : -9223372036854775808 ≤ dc ∧ dc ≤ 9223372036854775807) (ha1 : -9223372036854775808 ≤ da ∧ da ≤ 9223372036854775807) (hd1 : -9223372036854775808 ≤ dd ∧ dd ≤ 9223372036854775807) (hw1 : -9223372036854775808 ≤ dw ∧ dw ≤ 9223372036854775807) (hp1 : -9223372036854775808 ≤ dp ∧ dp ≤ 9223372036854775807) :
    K 12 [didA 7 dc da dd dw dp dn] [] (.ret (.tr (ts (lineB ⟨7, dc, da, dd, dw, dp, dn⟩)))) [] := by
  have hf := t_formOf7 dc da dd dw dp dn
  have hc := k_tnumber dc
  have ha := k_tnumber da
  have hd := k_tnumber dd
  have hw := k_print dw
  have hp := k_print dp
  have sc : (prnB dc).size ≤ 30 := Nat.le_trans (prn_len hc1.1 hc1.2) (by decide)
  have sa : (prnB da).size ≤ 30 := Nat.le_trans (prn_len ha1.1 ha1.2) (by decide)
  have sd : (prnB dd).size ≤ 30 := Nat.le_trans (prn_len hd1.1 hd1.2) (by decide)
  have sw : (prnB dw).size ≤ 30 := Nat.le_trans (prn_len hw1.1 hw1.2) (by decide)
  have sp : (prnB dp).size ≤ 30 := Nat.le_trans (prn_len hp1.1 hp1.2) (by decide)
  have hnl : (⟨#[10]⟩ : ByteArray).size = 1 := rfl
  refine Ctr.of hT hmix Tryz.func12 rfl (fun _ _ => by kernel_rfl) rfl fun hok => ?_
  clear hok
  generalize rightD ⟨7, dc, da, dd, dw, dp, dn⟩ = R at hf
  conv => whnf
  refine acall.pure _ (hf) rfl rfl fun _ => ?_
  conv => whnf
  refine acall.pure _ (hc) rfl rfl ?_
  conv => whnf
  refine acall.pure _ (ha) rfl rfl ?_
  conv => whnf
  refine ⟨by kernel_rfl, fun _ => ?_⟩
  conv => whnf
  refine csplit (fun ho => ?_) (fun ho => ?_)
  · subst ho
    conv => whnf
    refine ⟨rfl, rfl, rfl, (by simp), (show 4 * 16 ≤ 150000000000000 by decide), fun q hq => ?_, ?_⟩
    · cases hq with
      | head => exact Nat.ne_of_beq_eq_false rfl
      | tail _ h => cases h
    conv => whnf
    have hj := k_join [prnB dc, prnB da, ⟨#[104, 97, 108, 116]⟩, ownB] (Nat.le_trans (joinL_le (m := 30) (fun x hx => by
        simp only [List.mem_cons, List.not_mem_nil, or_false] at hx
        rcases hx with rfl | rfl | rfl | rfl <;> first | assumption | exact Nat.le_of_ble_eq_true rfl)) (by simp))
    refine acall.sn1 _ _ hj ⟨⟨rfl, Nat.le_refl _, rfl⟩, .inl rfl, trivial⟩ rfl rfl fun _ => ?_
    conv => whnf
    have hjz : (joinB [prnB dc, prnB da, ⟨#[104, 97, 108, 116]⟩, ownB]).size ≤ 1000 := by
      show (joinL _).toArray.size ≤ 1000
      rw [List.size_toArray]
      refine Nat.le_trans (joinL_le (m := 30) (fun x hx => by
        simp only [List.mem_cons, List.not_mem_nil, or_false] at hx
        rcases hx with rfl | rfl | rfl | rfl <;> first | assumption | exact Nat.le_of_ble_eq_true rfl)) (by simp)
    refine ⟨(by rw [hnl]; exact Nat.le_trans (Nat.add_le_add_right hjz 1) (by decide)), ?_⟩
    conv => whnf
    exact ⟨.inl rfl, trivial⟩
  · subst ho
    conv => whnf
    have hj := k_join [prnB dc, prnB da, ⟨#[104, 97, 108, 116]⟩] (Nat.le_trans (joinL_le (m := 30) (fun x hx => by
        simp only [List.mem_cons, List.not_mem_nil, or_false] at hx
        rcases hx with rfl | rfl | rfl <;> first | assumption | exact Nat.le_of_ble_eq_true rfl)) (by simp))
    refine acall.sn1 _ _ hj ⟨⟨rfl, Nat.le_refl _, rfl⟩, .inl rfl, trivial⟩ rfl rfl fun _ => ?_
    conv => whnf
    have hjz : (joinB [prnB dc, prnB da, ⟨#[104, 97, 108, 116]⟩]).size ≤ 1000 := by
      show (joinL _).toArray.size ≤ 1000
      rw [List.size_toArray]
      refine Nat.le_trans (joinL_le (m := 30) (fun x hx => by
        simp only [List.mem_cons, List.not_mem_nil, or_false] at hx
        rcases hx with rfl | rfl | rfl <;> first | assumption | exact Nat.le_of_ble_eq_true rfl)) (by simp)
    refine ⟨(by rw [hnl]; exact Nat.le_trans (Nat.add_le_add_right hjz 1) (by decide)), ?_⟩
    conv => whnf
    exact ⟨.inl rfl, trivial⟩
set_option maxRecDepth 100000 in
set_option maxHeartbeats 1000000 in
theorem t_line8 (dc da dd dw dp : Int) (dn : Bool) (hc1 : -9223372036854775808 ≤ dc ∧ dc ≤ 9223372036854775807) (ha1 : -9223372036854775808 ≤ da ∧ da ≤ 9223372036854775807) (hd1 : -9223372036854775808 ≤ dd ∧ dd ≤ 9223372036854775807) (hw1 : -9223372036854775808 ≤ dw ∧ dw ≤ 9223372036854775807) (hp1 : -9223372036854775808 ≤ dp ∧ dp ≤ 9223372036854775807) :
    K 12 [didA 8 dc da dd dw dp dn] [] (.ret (.tr (ts (lineB ⟨8, dc, da, dd, dw, dp, dn⟩)))) [] := by
  have hf := t_formOf8 dc da dd dw dp dn
  have hc := k_tnumber dc
  have ha := k_tnumber da
  have hd := k_tnumber dd
  have hw := k_print dw
  have hp := k_print dp
  have sc : (prnB dc).size ≤ 30 := Nat.le_trans (prn_len hc1.1 hc1.2) (by decide)
  have sa : (prnB da).size ≤ 30 := Nat.le_trans (prn_len ha1.1 ha1.2) (by decide)
  have sd : (prnB dd).size ≤ 30 := Nat.le_trans (prn_len hd1.1 hd1.2) (by decide)
  have sw : (prnB dw).size ≤ 30 := Nat.le_trans (prn_len hw1.1 hw1.2) (by decide)
  have sp : (prnB dp).size ≤ 30 := Nat.le_trans (prn_len hp1.1 hp1.2) (by decide)
  have hnl : (⟨#[10]⟩ : ByteArray).size = 1 := rfl
  refine Ctr.of hT hmix Tryz.func12 rfl (fun _ _ => by kernel_rfl) rfl fun hok => ?_
  clear hok
  generalize rightD ⟨8, dc, da, dd, dw, dp, dn⟩ = R at hf
  conv => whnf
  refine acall.pure _ (hf) rfl rfl fun _ => ?_
  conv => whnf
  refine acall.pure _ (hc) rfl rfl ?_
  conv => whnf
  refine acall.pure _ (ha) rfl rfl ?_
  conv => whnf
  refine ⟨by kernel_rfl, fun _ => ?_⟩
  conv => whnf
  refine acall.pure _ (hd) rfl rfl fun _ => ?_
  conv => whnf
  refine ⟨rfl, rfl, rfl, (by simp), (show 4 * 16 ≤ 150000000000000 by decide), fun q hq => ?_, ?_⟩
  · cases hq with
    | head => exact Nat.ne_of_beq_eq_false rfl
    | tail _ h => cases h
  conv => whnf
  refine acall.pure _ (hw) rfl rfl fun _ => ?_
  conv => whnf
  refine ⟨rfl, rfl, rfl, (by simp), (show 5 * 16 ≤ 150000000000000 by decide), fun q hq => ?_, ?_⟩
  · cases hq with
    | head => exact Nat.ne_of_beq_eq_false rfl
    | tail _ h => cases h
  conv => whnf
  refine csplit (fun ho => ?_) (fun ho => ?_)
  · subst ho
    conv => whnf
    refine ⟨rfl, rfl, rfl, (by simp), (show 6 * 16 ≤ 150000000000000 by decide), fun q hq => ?_, ?_⟩
    · cases hq with
      | head => exact Nat.ne_of_beq_eq_false rfl
      | tail _ h => cases h
    conv => whnf
    have hj := k_join [prnB dc, prnB da, ⟨#[100, 114, 97, 105, 110]⟩, prnB dd, prnB dw, ownB] (Nat.le_trans (joinL_le (m := 30) (fun x hx => by
        simp only [List.mem_cons, List.not_mem_nil, or_false] at hx
        rcases hx with rfl | rfl | rfl | rfl | rfl | rfl <;> first | assumption | exact Nat.le_of_ble_eq_true rfl)) (by simp))
    refine acall.sn1 _ _ hj ⟨⟨rfl, Nat.le_refl _, rfl⟩, .inl rfl, trivial⟩ rfl rfl fun _ => ?_
    conv => whnf
    have hjz : (joinB [prnB dc, prnB da, ⟨#[100, 114, 97, 105, 110]⟩, prnB dd, prnB dw, ownB]).size ≤ 1000 := by
      show (joinL _).toArray.size ≤ 1000
      rw [List.size_toArray]
      refine Nat.le_trans (joinL_le (m := 30) (fun x hx => by
        simp only [List.mem_cons, List.not_mem_nil, or_false] at hx
        rcases hx with rfl | rfl | rfl | rfl | rfl | rfl <;> first | assumption | exact Nat.le_of_ble_eq_true rfl)) (by simp)
    refine ⟨(by rw [hnl]; exact Nat.le_trans (Nat.add_le_add_right hjz 1) (by decide)), ?_⟩
    conv => whnf
    exact ⟨.inl rfl, trivial⟩
  · subst ho
    conv => whnf
    have hj := k_join [prnB dc, prnB da, ⟨#[100, 114, 97, 105, 110]⟩, prnB dd, prnB dw] (Nat.le_trans (joinL_le (m := 30) (fun x hx => by
        simp only [List.mem_cons, List.not_mem_nil, or_false] at hx
        rcases hx with rfl | rfl | rfl | rfl | rfl <;> first | assumption | exact Nat.le_of_ble_eq_true rfl)) (by simp))
    refine acall.sn1 _ _ hj ⟨⟨rfl, Nat.le_refl _, rfl⟩, .inl rfl, trivial⟩ rfl rfl fun _ => ?_
    conv => whnf
    have hjz : (joinB [prnB dc, prnB da, ⟨#[100, 114, 97, 105, 110]⟩, prnB dd, prnB dw]).size ≤ 1000 := by
      show (joinL _).toArray.size ≤ 1000
      rw [List.size_toArray]
      refine Nat.le_trans (joinL_le (m := 30) (fun x hx => by
        simp only [List.mem_cons, List.not_mem_nil, or_false] at hx
        rcases hx with rfl | rfl | rfl | rfl | rfl <;> first | assumption | exact Nat.le_of_ble_eq_true rfl)) (by simp)
    refine ⟨(by rw [hnl]; exact Nat.le_trans (Nat.add_le_add_right hjz 1) (by decide)), ?_⟩
    conv => whnf
    exact ⟨.inl rfl, trivial⟩
end Go.Proofs.YtcpolpbeimhgfaaGreatDoor.am

namespace Go.Proofs.YtcpolpbeimhgfaaGreatDoor.am
open Go Go.Proofs
structure RngD (d : Did) : Prop where
  kind : 0 ≤ d.kind
  core : -9223372036854775808 ≤ d.core ∧ d.core ≤ 9223372036854775807
  at_ : -9223372036854775808 ≤ d.at_ ∧ d.at_ ≤ 9223372036854775807
  addr : -9223372036854775808 ≤ d.addr ∧ d.addr ≤ 9223372036854775807
  word : -9223372036854775808 ≤ d.word ∧ d.word ≤ 9223372036854775807
  put : -9223372036854775808 ≤ d.put ∧ d.put ≤ 9223372036854775807
theorem rng_of {d : Did} (h : ∀ t ∈ d.cells, TOkT t) : RngD d := by
  have h0 := (h (tu d.kind) (List.mem_cons_self ..)).u8
  have h1 := (h (ti d.core) (by simp [Did.cells])).i64
  have h2 := (h (ti d.at_) (by simp [Did.cells])).i64
  have h3 := (h (ti d.addr) (by simp [Did.cells])).i64
  have h4 := (h (ti d.word) (by simp [Did.cells])).i64
  have h5 := (h (ti d.put) (by simp [Did.cells])).i64
  exact ⟨h0.1, h1, h2, h3, h4, h5⟩
theorem t_line (d : Did) (hr : rightD d = true) (h : RngD d) : K 12 [d.av] [] (.ret (.tr (ts (lineB d)))) [] := by
  have hk := right_kind' hr
  have hk0 := h.kind
  obtain ⟨_, h1, h2, h3, h4, h5⟩ := h
  obtain ⟨dk, dc, da, dd, dw, dp, dn⟩ := d
  simp only at hk hk0 h1 h2 h3 h4 h5
  rcases hk with rfl | rfl | rfl | rfl | rfl | rfl | rfl | rfl | hk
  · exact t_line1 dc da dd dw dp dn h1 h2 h3 h4 h5
  · exact t_line2 dc da dd dw dp dn h1 h2 h3 h4 h5
  · exact t_line3 dc da dd dw dp dn h1 h2 h3 h4 h5
  · exact t_line4 dc da dd dw dp dn h1 h2 h3 h4 h5
  · exact t_line5 dc da dd dw dp dn h1 h2 h3 h4 h5
  · exact t_line6 dc da dd dw dp dn h1 h2 h3 h4 h5
  · exact t_line7 dc da dd dw dp dn h1 h2 h3 h4 h5
  · exact t_line8 dc da dd dw dp dn h1 h2 h3 h4 h5
  · omega
/-- what is written, line by line; none: too long -/
def prtL : List UInt8 → List Did → Option (List UInt8)
  | acc, [] => some acc
  | acc, d :: l => bif decide ((acc.length : Int) + ((lineB d).size : Int) > 4194304) then none else prtL (acc ++ (lineB d).data.toList) l
theorem prtL_drop {acc : List UInt8} {l : List Did} {j : Nat} {d : Did} (h : l[j]? = some d) : prtL acc (l.drop j) = bif decide ((acc.length : Int) + ((lineB d).size : Int) > 4194304) then none else prtL (acc ++ (lineB d).data.toList) (l.drop (j + 1)) := by
  have hlt := (List.getElem?_eq_some_iff.1 h).1
  rw [List.drop_eq_getElem_cons hlt, (List.getElem?_eq_some_iff.1 h).2]
  rfl
def prtB : Option (List UInt8) → ByteArray × Int
  | none => (⟨#[]⟩, 4)
  | some l => (⟨l.toArray⟩, 0)
theorem lineB_size (d : Did) : (lineB d).size = (lineB d).data.toList.length := by simp
theorem dword_le (k : Int) : (dword k).size ≤ 30 := by
  unfold dword
  rw [List.getD_eq_getElem?_getD]
  cases h : dwords[k.toNat]? with
  | none => exact Nat.zero_le _
  | some x =>
    have := List.mem_of_getElem? h
    simp only [dwords, List.mem_cons, List.not_mem_nil, or_false] at this
    rcases this with rfl | rfl | rfl | rfl | rfl | rfl | rfl | rfl | rfl <;> exact Nat.le_of_ble_eq_true rfl
theorem mem_cond {α : Type} {b : Bool} {x y : α} (h : x ∈ (bif b then [y] else [])) : x = y := by
  cases b
  · simp at h
  · simpa using h
theorem lineB_le {d : Did} (h : RngD d) : (lineB d).size ≤ 1000 := by
  unfold lineB
  rw [ByteArray.size_append]
  have hj : (joinB (lineW d)).size = (joinL (lineW d)).length := by show (joinL _).toArray.size = _; simp
  have hn : nlB.size = 1 := rfl
  have hm : (joinL (lineW d)).length ≤ (lineW d).length * 31 := joinL_le (m := 30) fun x hx => by
    have p1 : (prnB d.core).size ≤ 30 := Nat.le_trans (prn_len h.core.1 h.core.2) (by decide)
    have p2 : (prnB d.at_).size ≤ 30 := Nat.le_trans (prn_len h.at_.1 h.at_.2) (by decide)
    have p3 : (prnB d.addr).size ≤ 30 := Nat.le_trans (prn_len h.addr.1 h.addr.2) (by decide)
    have p4 : (prnB d.word).size ≤ 30 := Nat.le_trans (prn_len h.word.1 h.word.2) (by decide)
    have p5 : (prnB d.put).size ≤ 30 := Nat.le_trans (prn_len h.put.1 h.put.2) (by decide)
    have p6 := dword_le d.kind
    have p7 : ownB.size ≤ 30 := Nat.le_of_ble_eq_true rfl
    unfold lineW at hx
    simp only [List.mem_append, List.mem_cons, List.not_mem_nil, or_false] at hx
    rcases hx with (((hx | hx) | hx) | hx) | hx
    · rcases hx with rfl | rfl | rfl <;> assumption
    · rw [mem_cond hx]; exact p3
    · rw [mem_cond hx]; exact p4
    · rw [mem_cond hx]; exact p5
    · rw [mem_cond hx]; exact p7
  have hl : (lineW d).length ≤ 7 := by
    unfold lineW
    cases addrK d.kind <;> cases wordK d.kind <;> cases (d.kind == 4) <;> cases d.own <;> simp
  omega
theorem lineB_ne (d : Did) : (lineB d).data.toList ≠ [] := by
  have : 0 < (lineB d).size := by
    unfold lineB
    rw [ByteArray.size_append]
    show 0 < _ + 1
    omega
  intro h
  rw [lineB_size, h] at this
  cases this
set_option maxRecDepth 100000 in
theorem t_printR (l : List Did) (h : l.all rightD = false) : K 5 [.tr (didsT l)] [] (.ret (.tup [.tr (ts ⟨#[]⟩), .tr (ti 190)])) [] := by
  have hr := t_right l
  rw [h] at hr
  refine Ctr.of hT hmix Tryz.func5 rfl (fun _ _ => by kernel_rfl) rfl fun hok => ?_
  clear hok
  conv => whnf
  refine acall.pure _ (hr) rfl rfl fun _ => ?_
  conv => whnf
  exact ⟨⟨.inl rfl, .inl rfl, trivial⟩, trivial⟩
set_option maxRecDepth 100000 in
theorem t_print0 : K 5 [.tr (didsT [])] [] (.ret (.tup [.tr (ts ⟨#[]⟩), .tr (ti 0)])) [] := by
  have hr := t_right []
  have hs := k_bStr0
  refine Ctr.of hT hmix Tryz.func5 rfl (fun _ _ => by kernel_rfl) rfl fun hok => ?_
  clear hok
  conv => whnf
  refine acall.pure _ (hr) rfl rfl fun _ => ?_
  conv => whnf
  refine LoopL.un 1 ?_
  conv => whnf
  refine ⟨fun _ => ?_, fun h => absurd rfl h⟩
  conv => whnf
  refine acall.au [_] [] (hs) ?_
  intro _
  conv => whnf
  exact ⟨⟨.inl rfl, .inl rfl, trivial⟩, trivial⟩
set_option maxRecDepth 100000 in
set_option maxHeartbeats 1000000 in
theorem t_print (l : List Did) (h : l.all rightD = true) (hne : l ≠ []) : K 5 [.tr (didsT l)] [] (.ret (.tup [.tr (ts (prtB (prtL [] l)).1), .tr (ti (prtB (prtL [] l)).2)])) [] := by
  have hr := t_right l
  rw [h] at hr
  generalize hR : prtL [] l = R
  refine Ctr.of hT hmix Tryz.func5 rfl (fun _ _ => by kernel_rfl) rfl fun hok => ?_
  obtain ⟨hB, hl63, hrows⟩ := (hok.slot 0 rfl).tr.lst
  have hrng : ∀ d ∈ l, RngD d := fun d hd => rng_of (hrows d.cells (List.mem_map_of_mem hd)).2
  have hlm : (l.map Did.cells).length = l.length := List.length_map ..
  rw [hlm] at hl63
  clear hok hrows
  conv => whnf
  refine acall.pure _ (hr) rfl rfl fun _ => ?_
  conv => whnf
  refine LoopL.by (fun x : Bool × List UInt8 × Nat => ⟨[(4, .ptr 0 0), (11, .tr (didsT l)), (12, .tr (ti (l.length : Int))), (13, .tr (ti x.2.2))], [(0, bldC (cond x.1 nilP (.ptr 0 0)) 1 x.2.1.length), (1, byV x.2.1)], 10⟩)
    (fun x => x.2.2 ≤ l.length ∧ R = prtL x.2.1 (l.drop x.2.2) ∧ x.2.1.length ≤ 4194304 ∧ ((x.1 = true ∧ x.2.1 = [] ∧ x.2.2 = 0) ∨ (x.1 = false ∧ x.2.1 ≠ []))) (fun x => l.length - x.2.2) (true, [], 0) [_] [1]
    (Sub.mk' rfl ⟨⟨rfl, rfl⟩, .inl rfl, .inl (by rw [← hlm]), .inl rfl, trivial⟩ ⟨⟨rfl, .inl rfl, ⟨rfl, rfl, rfl, rfl⟩, trivial⟩, ⟨rfl, _, _, _, rfl, by decide⟩, trivial⟩ rfl rfl)
    ⟨Nat.zero_le _, hR.symm, Nat.zero_le _, .inl ⟨rfl, rfl, rfl⟩⟩ ?_
  rintro ⟨fresh, acc, j⟩ ⟨hj, hRj, hacc, hfr⟩ -
  simp only at hj hRj hacc hfr
  cases fresh
  all_goals (
    conv => whnf
    refine csplit (fun hlt => ?_) (fun hge => ?_))
  · have hlt : j < l.length := by have : ((j : Nat) : Int) < (l.length : Int) := of_decide_eq_true hlt; omega
    obtain ⟨d, hd⟩ : ∃ x, l[j]? = some x := ⟨l[j], by simp [hlt]⟩
    rw [prtL_drop hd] at hRj
    have hmem := List.mem_of_getElem? hd
    have hln := t_line d (List.all_eq_true.1 h d hmem) (hrng d hmem)
    have hlz := lineB_size d
    have hln0 := lineB_ne d
    have hlb := lineB_le (hrng d hmem)
    conv => whnf
    refine ⟨rfl, (show (0 : Int) ≤ j by omega), (show (j : Int) < (l.map Did.cells).length by rw [hlm]; omega), fun row hr => ?_⟩
    obtain ⟨d', hd', rfl⟩ := did_get hr
    obtain rfl : d = d' := Option.some.inj (hd.symm.trans hd')
    clear hr hd'
    generalize lineB d = S at hRj hln hlz hln0 hlb
    have hwz : IntKind.i64.wrap ((acc.length : Int) + (S.size : Int)) = (acc.length : Int) + (S.size : Int) := w64 (by omega) (by omega)
    rw [← hwz] at hRj
    conv => whnf
    refine acall.pure _ (hln) rfl rfl fun _ => ?_
    conv => whnf
    refine acall.au [0, 1] [] (k_bLenU acc.length acc) ?_
    intro _
    conv => whnf
    refine csplit (fun hz => ?_) (fun hz => ?_)
    · replace hz : decide (IntKind.i64.wrap ((acc.length : Int) + (S.size : Int)) > 4194304) = true := hz
      rw [hz] at hRj
      obtain rfl : R = none := hRj
      conv => whnf
      exact ⟨⟨.inl rfl, .inl rfl, trivial⟩, trivial⟩
    · replace hz : decide (IntKind.i64.wrap ((acc.length : Int) + (S.size : Int)) > 4194304) = false := hz
      rw [hz] at hRj
      have hRj : R = prtL (acc ++ S.data.toList) (l.drop (j + 1)) := hRj
      have hz := of_decide_eq_false hz
      rw [hwz] at hz
      have hal : (acc ++ S.data.toList).length = acc.length + S.size := by rw [List.length_append, hlz]
      conv => whnf
      refine acall.new [0, 1] [] _ _ _ _ (k_wsU acc S (by omega)) rfl rfl rfl rfl aut aut rfl rfl fun _ => ?_
      conv => whnf
      exact ⟨(false, acc ++ S.data.toList, j + 1), [0, _], [], Sub.mk' rfl ⟨⟨rfl, rfl⟩, .inl rfl, .inl rfl, .inl (ti_succ hlt hl63), trivial⟩ ⟨⟨rfl, ⟨rfl, rfl⟩, ⟨rfl, hal.symm⟩, trivial⟩, ⟨rfl, rfl, rfl, rfl⟩, trivial⟩ rfl rfl, ⟨hlt, hRj, by show (acc ++ S.data.toList).length ≤ 4194304; omega, .inr ⟨rfl, by simp [hln0]⟩⟩, by show l.length - (j + 1) < l.length - j; omega⟩
  · have hge : j = l.length := by have : ¬ ((j : Nat) : Int) < (l.length : Int) := of_decide_eq_false hge; omega
    subst hge
    rw [List.drop_length] at hRj
    obtain rfl : R = some acc := hRj
    have hne2 : acc ≠ [] := by
      rcases hfr with ⟨h1, _, _⟩ | ⟨_, h2⟩
      · cases h1
      · exact h2
    conv => whnf
    refine ⟨fun _ => ?_, fun h => absurd rfl h⟩
    conv => whnf
    refine acall.au [0, 1] [] (k_bStr (.ptr 0 0) acc hne2) ?_
    intro _
    conv => whnf
    exact ⟨⟨.inl rfl, .inl rfl, trivial⟩, trivial⟩
  · have hlt : j < l.length := by have : ((j : Nat) : Int) < (l.length : Int) := of_decide_eq_true hlt; omega
    obtain ⟨d, hd⟩ : ∃ x, l[j]? = some x := ⟨l[j], by simp [hlt]⟩
    rw [prtL_drop hd] at hRj
    have hmem := List.mem_of_getElem? hd
    have hln := t_line d (List.all_eq_true.1 h d hmem) (hrng d hmem)
    have hlz := lineB_size d
    have hln0 := lineB_ne d
    have hlb := lineB_le (hrng d hmem)
    conv => whnf
    refine ⟨rfl, (show (0 : Int) ≤ j by omega), (show (j : Int) < (l.map Did.cells).length by rw [hlm]; omega), fun row hr => ?_⟩
    obtain ⟨d', hd', rfl⟩ := did_get hr
    obtain rfl : d = d' := Option.some.inj (hd.symm.trans hd')
    clear hr hd'
    generalize lineB d = S at hRj hln hlz hln0 hlb
    have hwz : IntKind.i64.wrap ((acc.length : Int) + (S.size : Int)) = (acc.length : Int) + (S.size : Int) := w64 (by omega) (by omega)
    rw [← hwz] at hRj
    conv => whnf
    refine acall.pure _ (hln) rfl rfl fun _ => ?_
    conv => whnf
    refine acall.au [0, 1] [] (k_bLenF acc.length acc) ?_
    intro _
    conv => whnf
    refine csplit (fun hz => ?_) (fun hz => ?_)
    · replace hz : decide (IntKind.i64.wrap ((acc.length : Int) + (S.size : Int)) > 4194304) = true := hz
      rw [hz] at hRj
      obtain rfl : R = none := hRj
      conv => whnf
      exact ⟨⟨.inl rfl, .inl rfl, trivial⟩, trivial⟩
    · replace hz : decide (IntKind.i64.wrap ((acc.length : Int) + (S.size : Int)) > 4194304) = false := hz
      rw [hz] at hRj
      have hRj : R = prtL (acc ++ S.data.toList) (l.drop (j + 1)) := hRj
      have hz := of_decide_eq_false hz
      rw [hwz] at hz
      have hal : (acc ++ S.data.toList).length = acc.length + S.size := by rw [List.length_append, hlz]
      conv => whnf
      refine acall.new [0, 1] [] _ _ _ _ (k_wsF acc S (by omega)) rfl rfl rfl rfl aut aut rfl rfl fun _ => ?_
      conv => whnf
      exact ⟨(false, acc ++ S.data.toList, j + 1), [0, _], [], Sub.mk' rfl ⟨⟨rfl, rfl⟩, .inl rfl, .inl rfl, .inl (ti_succ hlt hl63), trivial⟩ ⟨⟨rfl, ⟨rfl, rfl⟩, ⟨rfl, hal.symm⟩, trivial⟩, ⟨rfl, rfl, rfl, rfl⟩, trivial⟩ rfl rfl, ⟨hlt, hRj, by show (acc ++ S.data.toList).length ≤ 4194304; omega, .inr ⟨rfl, by simp [hln0]⟩⟩, by show l.length - (j + 1) < l.length - j; omega⟩
  · exfalso
    have hge : j = l.length := by have : ¬ ((j : Nat) : Int) < (l.length : Int) := of_decide_eq_false hge; omega
    rcases hfr with ⟨_, _, h1⟩ | ⟨h1, _⟩
    · exact hne (List.eq_nil_of_length_eq_zero (by omega))
    · cases h1
end Go.Proofs.YtcpolpbeimhgfaaGreatDoor.am

namespace Go.Proofs.YtcpolpbeimhgfaaGreatDoor.am
open Go Go.Proofs
theorem z_print (n : Int) : K 31 [.tr (ti n)] [] (.ret (.tr (ts (prnB n)))) [] := by
  refine Ctr.ofCalls (fun _ _ => by kernel_rfl) fun g w vs hm hsz hv => ?_
  obtain ⟨v, rfl⟩ := one_arg hsz
  obtain ⟨rfl, h1, h2⟩ := val_inv (hv 0 v (.tr (ti n)) rfl rfl)
  refine (ws.rprint_any n w h1 h2).mono ?_
  rintro e w' ⟨rfl, hb⟩
  exact ⟨_, rfl, hb, fun _ _ => .tr (.v (Nat.le_trans (prn_len h1 h2) (by omega)))⟩
theorem d_number (n : Int) : K 30 [.tr (ti n)] [] (.ret (.tr (ts (prnB n)))) [] := by
  have h1 := z_print n
  refine Ctr.of hT hmix Tryz.func30 rfl (fun _ _ => by kernel_rfl) rfl fun hok => ?_
  clear hok
  conv => whnf
  refine acall.pure _ (h1) rfl rfl fun _ => ?_
  conv => whnf
  exact ⟨.inl rfl, trivial⟩
set_option maxRecDepth 100000 in
set_option maxHeartbeats 2000000 in
theorem d_text (d : Did) (hr : rightD d = true) (h0 : 0 ≤ d.kind) (hg : RngD d) : K 17 [d.av] [] (.ret (.tr (ts (lineB d)))) [] := by
  have hk := right_kind' hr
  have h1 := d_number d.core
  have h2 := d_number d.at_
  have h3 := d_number d.addr
  have h4 := z_print d.word
  have h5 := z_print d.put
  have hown : d.kind ≠ 2 → d.own = false := fun h => by
    unfold rightD at hr
    cases ho : outD d with
    | true => rw [ho] at hr; cases hr
    | false =>
      rw [ho] at hr
      have hr : usdD d = true := hr
      unfold usdD at hr
      simp only [Bool.and_eq_true, Bool.or_eq_true] at hr
      rcases hr.2.2.2 with q | q
      · exact absurd (by simpa using q) h
      · simpa using q
  have s1 := prn_len hg.core.1 hg.core.2
  have s2 := prn_len hg.at_.1 hg.at_.2
  have s3 := prn_len hg.addr.1 hg.addr.2
  have s4 := prn_len hg.word.1 hg.word.2
  have s5 := prn_len hg.put.1 hg.put.2
  clear hg
  obtain ⟨dk, dc, da, dd, dw, dp, dn⟩ := d
  simp only at hk h1 h2 h3 h4 h5 h0 s1 s2 s3 s4 s5 hown
  clear hr
  have z0 : (⟨#[32]⟩ : ByteArray).size = 1 := rfl
  have z1 : (⟨#[10]⟩ : ByteArray).size = 1 := rfl
  have z2 : (⟨#[32, 111, 119, 110]⟩ : ByteArray).size = 4 := rfl
  have z3 : (⟨#[99, 111, 109, 112, 117, 116, 101]⟩ : ByteArray).size = 7 := rfl
  have z4 : (⟨#[108, 111, 97, 100, 32]⟩ : ByteArray).size = 5 := rfl
  have z5 : (⟨#[115, 116, 111, 114, 101, 32]⟩ : ByteArray).size = 6 := rfl
  have z6 : (⟨#[115, 119, 97, 112, 32]⟩ : ByteArray).size = 5 := rfl
  have z7 : (⟨#[102, 101, 110, 99, 101]⟩ : ByteArray).size = 5 := rfl
  have z8 : (⟨#[112, 114, 105, 110, 116, 32]⟩ : ByteArray).size = 6 := rfl
  have z9 : (⟨#[104, 97, 108, 116]⟩ : ByteArray).size = 4 := rfl
  have z10 : (⟨#[100, 114, 97, 105, 110, 32]⟩ : ByteArray).size = 6 := rfl
  refine Ctr.of hT hmix Tryz.func17 rfl (fun _ _ => by kernel_rfl) rfl fun hok => ?_
  clear hok
  conv => whnf
  refine acall.pure _ (h1) rfl rfl ?_
  conv => whnf
  refine ⟨(by (try simp only [ByteArray.size_append]); omega), ?_⟩
  conv => whnf
  refine acall.pure _ (h2) rfl rfl ?_
  conv => whnf
  refine ⟨(by (try simp only [ByteArray.size_append]); omega), ?_⟩
  conv => whnf
  refine ⟨(by (try simp only [ByteArray.size_append]); omega), ?_⟩
  conv => whnf
  refine ⟨by kernel_rfl, fun _ => ?_⟩
  conv => whnf
  refine acall.pure _ (h3) rfl rfl ?_
  conv => whnf
  refine ⟨(by (try simp only [ByteArray.size_append]); omega), ?_⟩
  conv => whnf
  refine acall.pure _ (h4) rfl rfl ?_
  conv => whnf
  refine ⟨(by (try simp only [ByteArray.size_append]); omega), ?_⟩
  conv => whnf
  refine ⟨by kernel_rfl, fun _ => ?_⟩
  conv => whnf
  rcases hk with rfl | rfl | rfl | rfl | rfl | rfl | rfl | rfl | hk
  · conv => whnf
    refine ⟨(by (try simp only [ByteArray.size_append]); omega), ?_⟩
    conv => whnf
    refine ⟨(by (try simp only [ByteArray.size_append]); omega), ?_⟩
    conv => whnf
    have ed : dword 1 = ⟨#[99, 111, 109, 112, 117, 116, 101]⟩ := rfl
    have hf := hown (by decide)
    subst hf
    exact ⟨.inl (congrArg ts (by apply ByteArray.ext; apply Array.ext'; simp [lineB, joinB, joinL, lineW, ed, addrK, wordK, Lib.join, nlB, ownB])), trivial⟩
  · cases dn
    · conv => whnf
      refine ⟨(by (try simp only [ByteArray.size_append]); omega), ?_⟩
      conv => whnf
      refine ⟨(by (try simp only [ByteArray.size_append]); omega), ?_⟩
      conv => whnf
      refine ⟨(by (try simp only [ByteArray.size_append]); omega), ?_⟩
      conv => whnf
      have ed : dword 2 = ⟨#[108, 111, 97, 100]⟩ := rfl
      exact ⟨.inl (congrArg ts (by apply ByteArray.ext; apply Array.ext'; simp [lineB, joinB, joinL, lineW, ed, addrK, wordK, Lib.join, nlB, ownB])), trivial⟩
    · conv => whnf
      refine ⟨(by (try simp only [ByteArray.size_append]); omega), ?_⟩
      conv => whnf
      refine ⟨(by (try simp only [ByteArray.size_append]); omega), ?_⟩
      conv => whnf
      refine ⟨(by (try simp only [ByteArray.size_append]); omega), ?_⟩
      conv => whnf
      refine ⟨(by (try simp only [ByteArray.size_append]); omega), ?_⟩
      conv => whnf
      have ed : dword 2 = ⟨#[108, 111, 97, 100]⟩ := rfl
      exact ⟨.inl (congrArg ts (by apply ByteArray.ext; apply Array.ext'; simp [lineB, joinB, joinL, lineW, ed, addrK, wordK, Lib.join, nlB, ownB])), trivial⟩
  · conv => whnf
    refine ⟨(by (try simp only [ByteArray.size_append]); omega), ?_⟩
    conv => whnf
    refine ⟨(by (try simp only [ByteArray.size_append]); omega), ?_⟩
    conv => whnf
    refine ⟨(by (try simp only [ByteArray.size_append]); omega), ?_⟩
    conv => whnf
    have ed : dword 3 = ⟨#[115, 116, 111, 114, 101]⟩ := rfl
    have hf := hown (by decide)
    subst hf
    exact ⟨.inl (congrArg ts (by apply ByteArray.ext; apply Array.ext'; simp [lineB, joinB, joinL, lineW, ed, addrK, wordK, Lib.join, nlB, ownB])), trivial⟩
  · conv => whnf
    refine ⟨(by (try simp only [ByteArray.size_append]); omega), ?_⟩
    conv => whnf
    refine ⟨(by (try simp only [ByteArray.size_append]); omega), ?_⟩
    conv => whnf
    refine ⟨(by (try simp only [ByteArray.size_append]); omega), ?_⟩
    conv => whnf
    refine acall.pure _ (h5) rfl rfl fun _ => ?_
    conv => whnf
    refine ⟨(by (try simp only [ByteArray.size_append]); omega), ?_⟩
    conv => whnf
    refine ⟨(by (try simp only [ByteArray.size_append]); omega), ?_⟩
    conv => whnf
    have ed : dword 4 = ⟨#[115, 119, 97, 112]⟩ := rfl
    have hf := hown (by decide)
    subst hf
    exact ⟨.inl (congrArg ts (by apply ByteArray.ext; apply Array.ext'; simp [lineB, joinB, joinL, lineW, ed, addrK, wordK, Lib.join, nlB, ownB])), trivial⟩
  · conv => whnf
    refine ⟨(by (try simp only [ByteArray.size_append]); omega), ?_⟩
    conv => whnf
    refine ⟨(by (try simp only [ByteArray.size_append]); omega), ?_⟩
    conv => whnf
    have ed : dword 5 = ⟨#[102, 101, 110, 99, 101]⟩ := rfl
    have hf := hown (by decide)
    subst hf
    exact ⟨.inl (congrArg ts (by apply ByteArray.ext; apply Array.ext'; simp [lineB, joinB, joinL, lineW, ed, addrK, wordK, Lib.join, nlB, ownB])), trivial⟩
  · conv => whnf
    refine ⟨(by (try simp only [ByteArray.size_append]); omega), ?_⟩
    conv => whnf
    refine acall.pure _ (h4) rfl rfl fun _ => ?_
    conv => whnf
    refine ⟨(by (try simp only [ByteArray.size_append]); omega), ?_⟩
    conv => whnf
    refine ⟨(by (try simp only [ByteArray.size_append]); omega), ?_⟩
    conv => whnf
    have ed : dword 6 = ⟨#[112, 114, 105, 110, 116]⟩ := rfl
    have hf := hown (by decide)
    subst hf
    exact ⟨.inl (congrArg ts (by apply ByteArray.ext; apply Array.ext'; simp [lineB, joinB, joinL, lineW, ed, addrK, wordK, Lib.join, nlB, ownB])), trivial⟩
  · conv => whnf
    refine ⟨(by (try simp only [ByteArray.size_append]); omega), ?_⟩
    conv => whnf
    refine ⟨(by (try simp only [ByteArray.size_append]); omega), ?_⟩
    conv => whnf
    have ed : dword 7 = ⟨#[104, 97, 108, 116]⟩ := rfl
    have hf := hown (by decide)
    subst hf
    exact ⟨.inl (congrArg ts (by apply ByteArray.ext; apply Array.ext'; simp [lineB, joinB, joinL, lineW, ed, addrK, wordK, Lib.join, nlB, ownB])), trivial⟩
  · conv => whnf
    refine ⟨(by (try simp only [ByteArray.size_append]); omega), ?_⟩
    conv => whnf
    refine ⟨(by (try simp only [ByteArray.size_append]); omega), ?_⟩
    conv => whnf
    refine ⟨(by (try simp only [ByteArray.size_append]); omega), ?_⟩
    conv => whnf
    have ed : dword 8 = ⟨#[100, 114, 97, 105, 110]⟩ := rfl
    have hf := hown (by decide)
    subst hf
    exact ⟨.inl (congrArg ts (by apply ByteArray.ext; apply Array.ext'; simp [lineB, joinB, joinL, lineW, ed, addrK, wordK, Lib.join, nlB, ownB])), trivial⟩
  · omega
end Go.Proofs.YtcpolpbeimhgfaaGreatDoor.am

namespace Go.Proofs.YtcpolpbeimhgfaaGreatDoor.am
open Go Go.Proofs
abbrev strV (l : List ByteArray) : Blk := .vec 9 1 16 (l.map srow)
def isBl (s : ByteArray) (i : Nat) : Bool := ((s.data.toList.getD i 0).toNat : Int) == 32
/-- the fields from the i-th byte on; the one that is under way began at `a` -/
def fldG (s : ByteArray) : Nat → Nat → Nat → List ByteArray
  | 0, _, _ => []
  | f + 1, i, a => bif (i : Int) == (s.size : Int) || isBl s i then s.extract a i :: fldG s f (i + 1) (i + 1) else fldG s f (i + 1) a
def fldS (s : ByteArray) : List ByteArray := fldG s (s.size + 1) 0 0
set_option maxRecDepth 100000 in
set_option maxHeartbeats 2000000 in
theorem d_fields (s : ByteArray) (hs : s.size ≤ 4194304) : K 38 [.tr (ts s)] [] (.ret (.tr (strsT (fldS s)))) [] := by
  generalize hL : fldS s = L
  unfold fldS at hL
  refine Ctr.of hT hmix Tryz.func38 rfl (fun _ _ => by kernel_rfl) rfl fun hok => ?_
  clear hok
  conv => whnf
  refine LoopL.by (fun x : List ByteArray × (Nat × Nat) => ⟨[(0, .tr (ts s)), (3, .sl 0 x.1.length), (4, .tr (ti x.2.2)), (5, .tr (ti x.2.1))], [(0, strV x.1)], 10⟩) (fun x => x.2.1 ≤ s.size + 1 ∧ x.2.2 ≤ x.2.1 ∧ x.1.length ≤ x.2.1 ∧ x.1 ++ fldG s (s.size + 1 - x.2.1) x.2.1 x.2.2 = L) (fun x => s.size + 1 - x.2.1) ([], 0, 0) [] [0]
    (Sub.mk' rfl ⟨.inl rfl, ⟨rfl, rfl, rfl, rfl⟩, .inl rfl, .inl rfl, trivial⟩ ⟨⟨rfl, _, _, _, rfl, by decide⟩, trivial⟩ rfl rfl) ⟨Nat.zero_le _, Nat.le_refl _, Nat.le_refl _, hL⟩ ?_
  rintro ⟨out, i, a⟩ ⟨hi, ha, ho, hR⟩ -
  simp only at hi ha ho hR
  have hi1 : IntKind.i64.wrap ((i : Int) + 1) = ((i + 1 : Nat) : Int) := by rw [w64 (by omega) (by omega)]; omega
  conv => whnf
  refine csplit (fun h1 => ?_) (fun h1 => ?_)
  · have hle : i ≤ s.size := by have : decide ((i : Int) ≤ (s.size : Int)) = true := h1; have := of_decide_eq_true this; omega
    rw [show s.size + 1 - i = (s.size - i) + 1 by omega] at hR
    replace hR : out ++ (bif (i : Int) == (s.size : Int) || isBl s i then s.extract a i :: fldG s (s.size - i) (i + 1) (i + 1) else fldG s (s.size - i) (i + 1) a) = L := hR
    rw [show s.size - i = s.size + 1 - (i + 1) by omega] at hR
    have hda : (out.map srow).take out.length ++ [[ts (s.extract a i)]] = (out ++ [s.extract a i]).map srow := by rw [List.take_of_length_le (by simp), List.map_append]; rfl
    conv => whnf
    refine csplit (fun h2 => ?_) (fun h2 => ?_)
    · replace h2 : ((i : Int) == (s.size : Int)) = true := h2
      rw [h2] at hR
      replace hR : out ++ (s.extract a i :: fldG s (s.size + 1 - (i + 1)) (i + 1) (i + 1)) = L := hR
      conv => whnf
      refine ⟨(show (0 : Int) ≤ a by omega), (show (a : Int) ≤ i by omega), (show (i : Int) ≤ s.size by omega), ?_⟩
      conv => whnf
      refine ⟨rfl, rfl, rfl, (by rw [List.length_map]; exact Nat.le_refl _), (show (out.length + 1) * 16 ≤ 150000000000000 by omega), fun q hq => ?_, ?_⟩
      · cases hq with
        | head => exact Nat.ne_of_beq_eq_false rfl
        | tail _ h => cases h
      conv => whnf
      exact ⟨(out ++ [s.extract a i], i + 1, i + 1), [_], [], Sub.mk' rfl ⟨.inl rfl, ⟨rfl, by simp⟩, .inl (congrArg ti hi1), .inl (congrArg ti hi1), trivial⟩ ⟨⟨rfl, rfl, rfl, hda⟩, trivial⟩ rfl rfl, ⟨by show i + 1 ≤ s.size + 1; omega, Nat.le_refl _, by show (out ++ _).length ≤ i + 1; simp; omega, by rw [List.append_assoc]; exact hR⟩, by show s.size + 1 - (i + 1) < s.size + 1 - i; omega⟩
    · replace h2 : ((i : Int) == (s.size : Int)) = false := h2
      have hlt : i < s.size := by have : (i : Int) ≠ (s.size : Int) := by simpa using h2
                                  omega
      rw [h2, Bool.false_or] at hR
      conv => whnf
      refine ⟨(show (0 : Int) ≤ i by omega), (show (i : Int) < s.size by omega), fun b hb => ?_⟩
      replace hb : s[i]? = some b := hb
      have hbl : isBl s i = ((b.toNat : Int) == 32) := by
        have e : s.data.toList[i]? = some b := by
          rw [← hb, getElem?_pos s i hlt]
          show s.data.toList[i]? = some (s.data[i]'hlt)
          rw [Array.getElem?_toList]
          exact getElem?_pos s.data i hlt
        unfold isBl
        rw [List.getD_eq_getElem?_getD, e]
        rfl
      rw [hbl] at hR
      conv => whnf
      refine csplit (fun h3 => ?_) (fun h3 => ?_)
      · replace h3 : ((b.toNat : Int) == 32) = true := h3
        rw [h3] at hR
        replace hR : out ++ (s.extract a i :: fldG s (s.size + 1 - (i + 1)) (i + 1) (i + 1)) = L := hR
        conv => whnf
        refine ⟨(show (0 : Int) ≤ a by omega), (show (a : Int) ≤ i by omega), (show (i : Int) ≤ s.size by omega), ?_⟩
        conv => whnf
        refine ⟨rfl, rfl, rfl, (by rw [List.length_map]; exact Nat.le_refl _), (show (out.length + 1) * 16 ≤ 150000000000000 by omega), fun q hq => ?_, ?_⟩
        · cases hq with
          | head => exact Nat.ne_of_beq_eq_false rfl
          | tail _ h => cases h
        conv => whnf
        exact ⟨(out ++ [s.extract a i], i + 1, i + 1), [_], [], Sub.mk' rfl ⟨.inl rfl, ⟨rfl, by simp⟩, .inl (congrArg ti hi1), .inl (congrArg ti hi1), trivial⟩ ⟨⟨rfl, rfl, rfl, hda⟩, trivial⟩ rfl rfl, ⟨by show i + 1 ≤ s.size + 1; omega, Nat.le_refl _, by show (out ++ _).length ≤ i + 1; simp; omega, by rw [List.append_assoc]; exact hR⟩, by show s.size + 1 - (i + 1) < s.size + 1 - i; omega⟩
      · replace h3 : ((b.toNat : Int) == 32) = false := h3
        rw [h3] at hR
        replace hR : out ++ fldG s (s.size + 1 - (i + 1)) (i + 1) a = L := hR
        conv => whnf
        exact ⟨(out, i + 1, a), [0], [], Sub.mk' rfl ⟨.inl rfl, ⟨rfl, rfl⟩, .inl rfl, .inl (congrArg ti hi1), trivial⟩ ⟨⟨rfl, rfl, rfl, rfl⟩, trivial⟩ rfl rfl, ⟨by show i + 1 ≤ s.size + 1; omega, by show a ≤ i + 1; omega, by show out.length ≤ i + 1; omega, hR⟩, by show s.size + 1 - (i + 1) < s.size + 1 - i; omega⟩
  · have hge : i = s.size + 1 := by have : decide ((i : Int) ≤ (s.size : Int)) = false := h1; have := of_decide_eq_false this; omega
    subst hge
    rw [Nat.sub_self] at hR
    have hR : out = L := (List.append_nil _).symm.trans hR
    subst hR
    conv => whnf
    refine ⟨fun _ => ?_, fun h => absurd rfl h⟩
    conv => whnf
    exact ⟨⟨rfl, by rw [List.length_map]; exact Nat.le_refl _, by rw [List.take_of_length_le (by simp)]⟩, trivial⟩
end Go.Proofs.YtcpolpbeimhgfaaGreatDoor.am

namespace Go.Proofs.YtcpolpbeimhgfaaGreatDoor.am
open Go Go.Proofs
def kwL : List ByteArray := [⟨#[]⟩, ⟨#[99, 111, 109, 112, 117, 116, 101]⟩, ⟨#[108, 111, 97, 100]⟩, ⟨#[115, 116, 111, 114, 101]⟩, ⟨#[115, 119, 97, 112]⟩, ⟨#[102, 101, 110, 99, 101]⟩, ⟨#[112, 114, 105, 110, 116]⟩, ⟨#[104, 97, 108, 116]⟩, ⟨#[100, 114, 97, 105, 110]⟩]
def kindG (s : ByteArray) : List ByteArray → Nat → Int
  | [], _ => 0
  | w :: l, k => bif w.toList == s.toList && decide ((k : Int) > 0) then k else kindG s l (k + 1)
def kindS (s : ByteArray) : Int := kindG s kwL 0
set_option maxRecDepth 100000 in
set_option maxHeartbeats 2000000 in
theorem d_kind (s : ByteArray) : K 40 [.tr (ts s)] [] (.ret (.tr (tu (kindS s)))) [] := by
  generalize hL : kindS s = L
  unfold kindS at hL
  refine Ctr.of hT hmix Tryz.func40 rfl (fun _ _ => by kernel_rfl) rfl fun hok => ?_
  clear hok
  conv => whnf
  refine LoopL.by (fun k : Nat => ⟨[(0, .tr (ts s)), (5, .sl 0 9), (6, .tr (ti 9)), (7, .tr (ti k))], [(0, strV kwL)], 10⟩) (fun k => k ≤ 9 ∧ kindG s (kwL.drop k) k = L) (fun k => 9 - k) 0 [_] []
    (Sub.mk' rfl ⟨.inl rfl, ⟨rfl, rfl⟩, .inl rfl, .inl rfl, trivial⟩ ⟨⟨rfl, rfl, rfl, rfl⟩, trivial⟩ rfl rfl) ⟨Nat.zero_le _, hL⟩ ?_
  rintro k ⟨hk, hR⟩ -
  have hk' : k = 0 ∨ k = 1 ∨ k = 2 ∨ k = 3 ∨ k = 4 ∨ k = 5 ∨ k = 6 ∨ k = 7 ∨ k = 8 ∨ k = 9 := by omega
  clear hk hL
  rcases hk' with rfl | rfl | rfl | rfl | rfl | rfl | rfl | rfl | rfl | rfl
  · replace hR : (bif (⟨#[]⟩ : ByteArray).toList == s.toList && false then 0 else kindG s (kwL.drop 1) 1) = L := hR
    conv => whnf
    refine ⟨rfl, (show (0 : Int) ≤ (0 : Nat) by decide), (show ((0 : Nat) : Int) < (9 : Nat) by decide), ?_⟩
    conv => whnf
    refine ⟨rfl, Nat.le_of_ble_eq_true rfl, fun row hrow => ?_⟩
    cases hrow
    refine ⟨Nat.zero_lt_one, fun t ht => ?_⟩
    cases ht
    conv => whnf
    refine csplit (fun h => ?_) (fun h => ?_)
    · replace h : ((⟨#[]⟩ : ByteArray).toList == s.toList) = true := h
      rw [h] at hR
      conv => whnf
      exact ⟨1, [0], [], Sub.mk' rfl ⟨.inl rfl, ⟨rfl, rfl⟩, .inl rfl, .inl rfl, trivial⟩ ⟨⟨rfl, rfl, rfl, rfl⟩, trivial⟩ rfl rfl, ⟨by decide, hR⟩, by decide⟩
    · replace h : ((⟨#[]⟩ : ByteArray).toList == s.toList) = false := h
      rw [h] at hR
      conv => whnf
      exact ⟨1, [0], [], Sub.mk' rfl ⟨.inl rfl, ⟨rfl, rfl⟩, .inl rfl, .inl rfl, trivial⟩ ⟨⟨rfl, rfl, rfl, rfl⟩, trivial⟩ rfl rfl, ⟨by decide, hR⟩, by decide⟩
  · replace hR : (bif (⟨#[99, 111, 109, 112, 117, 116, 101]⟩ : ByteArray).toList == s.toList && true then 1 else kindG s (kwL.drop 2) 2) = L := hR
    conv => whnf
    refine ⟨rfl, (show (0 : Int) ≤ (1 : Nat) by decide), (show ((1 : Nat) : Int) < (9 : Nat) by decide), ?_⟩
    conv => whnf
    refine ⟨rfl, Nat.le_of_ble_eq_true rfl, fun row hrow => ?_⟩
    cases hrow
    refine ⟨Nat.zero_lt_one, fun t ht => ?_⟩
    cases ht
    conv => whnf
    refine csplit (fun h => ?_) (fun h => ?_)
    · replace h : ((⟨#[99, 111, 109, 112, 117, 116, 101]⟩ : ByteArray).toList == s.toList) = true := h
      rw [h] at hR
      conv => whnf
      exact ⟨.inl (congrArg tu hR), trivial⟩
    · replace h : ((⟨#[99, 111, 109, 112, 117, 116, 101]⟩ : ByteArray).toList == s.toList) = false := h
      rw [h] at hR
      conv => whnf
      exact ⟨2, [0], [], Sub.mk' rfl ⟨.inl rfl, ⟨rfl, rfl⟩, .inl rfl, .inl rfl, trivial⟩ ⟨⟨rfl, rfl, rfl, rfl⟩, trivial⟩ rfl rfl, ⟨by decide, hR⟩, by decide⟩
  · replace hR : (bif (⟨#[108, 111, 97, 100]⟩ : ByteArray).toList == s.toList && true then 2 else kindG s (kwL.drop 3) 3) = L := hR
    conv => whnf
    refine ⟨rfl, (show (0 : Int) ≤ (2 : Nat) by decide), (show ((2 : Nat) : Int) < (9 : Nat) by decide), ?_⟩
    conv => whnf
    refine ⟨rfl, Nat.le_of_ble_eq_true rfl, fun row hrow => ?_⟩
    cases hrow
    refine ⟨Nat.zero_lt_one, fun t ht => ?_⟩
    cases ht
    conv => whnf
    refine csplit (fun h => ?_) (fun h => ?_)
    · replace h : ((⟨#[108, 111, 97, 100]⟩ : ByteArray).toList == s.toList) = true := h
      rw [h] at hR
      conv => whnf
      exact ⟨.inl (congrArg tu hR), trivial⟩
    · replace h : ((⟨#[108, 111, 97, 100]⟩ : ByteArray).toList == s.toList) = false := h
      rw [h] at hR
      conv => whnf
      exact ⟨3, [0], [], Sub.mk' rfl ⟨.inl rfl, ⟨rfl, rfl⟩, .inl rfl, .inl rfl, trivial⟩ ⟨⟨rfl, rfl, rfl, rfl⟩, trivial⟩ rfl rfl, ⟨by decide, hR⟩, by decide⟩
  · replace hR : (bif (⟨#[115, 116, 111, 114, 101]⟩ : ByteArray).toList == s.toList && true then 3 else kindG s (kwL.drop 4) 4) = L := hR
    conv => whnf
    refine ⟨rfl, (show (0 : Int) ≤ (3 : Nat) by decide), (show ((3 : Nat) : Int) < (9 : Nat) by decide), ?_⟩
    conv => whnf
    refine ⟨rfl, Nat.le_of_ble_eq_true rfl, fun row hrow => ?_⟩
    cases hrow
    refine ⟨Nat.zero_lt_one, fun t ht => ?_⟩
    cases ht
    conv => whnf
    refine csplit (fun h => ?_) (fun h => ?_)
    · replace h : ((⟨#[115, 116, 111, 114, 101]⟩ : ByteArray).toList == s.toList) = true := h
      rw [h] at hR
      conv => whnf
      exact ⟨.inl (congrArg tu hR), trivial⟩
    · replace h : ((⟨#[115, 116, 111, 114, 101]⟩ : ByteArray).toList == s.toList) = false := h
      rw [h] at hR
      conv => whnf
      exact ⟨4, [0], [], Sub.mk' rfl ⟨.inl rfl, ⟨rfl, rfl⟩, .inl rfl, .inl rfl, trivial⟩ ⟨⟨rfl, rfl, rfl, rfl⟩, trivial⟩ rfl rfl, ⟨by decide, hR⟩, by decide⟩
  · replace hR : (bif (⟨#[115, 119, 97, 112]⟩ : ByteArray).toList == s.toList && true then 4 else kindG s (kwL.drop 5) 5) = L := hR
    conv => whnf
    refine ⟨rfl, (show (0 : Int) ≤ (4 : Nat) by decide), (show ((4 : Nat) : Int) < (9 : Nat) by decide), ?_⟩
    conv => whnf
    refine ⟨rfl, Nat.le_of_ble_eq_true rfl, fun row hrow => ?_⟩
    cases hrow
    refine ⟨Nat.zero_lt_one, fun t ht => ?_⟩
    cases ht
    conv => whnf
    refine csplit (fun h => ?_) (fun h => ?_)
    · replace h : ((⟨#[115, 119, 97, 112]⟩ : ByteArray).toList == s.toList) = true := h
      rw [h] at hR
      conv => whnf
      exact ⟨.inl (congrArg tu hR), trivial⟩
    · replace h : ((⟨#[115, 119, 97, 112]⟩ : ByteArray).toList == s.toList) = false := h
      rw [h] at hR
      conv => whnf
      exact ⟨5, [0], [], Sub.mk' rfl ⟨.inl rfl, ⟨rfl, rfl⟩, .inl rfl, .inl rfl, trivial⟩ ⟨⟨rfl, rfl, rfl, rfl⟩, trivial⟩ rfl rfl, ⟨by decide, hR⟩, by decide⟩
  · replace hR : (bif (⟨#[102, 101, 110, 99, 101]⟩ : ByteArray).toList == s.toList && true then 5 else kindG s (kwL.drop 6) 6) = L := hR
    conv => whnf
    refine ⟨rfl, (show (0 : Int) ≤ (5 : Nat) by decide), (show ((5 : Nat) : Int) < (9 : Nat) by decide), ?_⟩
    conv => whnf
    refine ⟨rfl, Nat.le_of_ble_eq_true rfl, fun row hrow => ?_⟩
    cases hrow
    refine ⟨Nat.zero_lt_one, fun t ht => ?_⟩
    cases ht
    conv => whnf
    refine csplit (fun h => ?_) (fun h => ?_)
    · replace h : ((⟨#[102, 101, 110, 99, 101]⟩ : ByteArray).toList == s.toList) = true := h
      rw [h] at hR
      conv => whnf
      exact ⟨.inl (congrArg tu hR), trivial⟩
    · replace h : ((⟨#[102, 101, 110, 99, 101]⟩ : ByteArray).toList == s.toList) = false := h
      rw [h] at hR
      conv => whnf
      exact ⟨6, [0], [], Sub.mk' rfl ⟨.inl rfl, ⟨rfl, rfl⟩, .inl rfl, .inl rfl, trivial⟩ ⟨⟨rfl, rfl, rfl, rfl⟩, trivial⟩ rfl rfl, ⟨by decide, hR⟩, by decide⟩
  · replace hR : (bif (⟨#[112, 114, 105, 110, 116]⟩ : ByteArray).toList == s.toList && true then 6 else kindG s (kwL.drop 7) 7) = L := hR
    conv => whnf
    refine ⟨rfl, (show (0 : Int) ≤ (6 : Nat) by decide), (show ((6 : Nat) : Int) < (9 : Nat) by decide), ?_⟩
    conv => whnf
    refine ⟨rfl, Nat.le_of_ble_eq_true rfl, fun row hrow => ?_⟩
    cases hrow
    refine ⟨Nat.zero_lt_one, fun t ht => ?_⟩
    cases ht
    conv => whnf
    refine csplit (fun h => ?_) (fun h => ?_)
    · replace h : ((⟨#[112, 114, 105, 110, 116]⟩ : ByteArray).toList == s.toList) = true := h
      rw [h] at hR
      conv => whnf
      exact ⟨.inl (congrArg tu hR), trivial⟩
    · replace h : ((⟨#[112, 114, 105, 110, 116]⟩ : ByteArray).toList == s.toList) = false := h
      rw [h] at hR
      conv => whnf
      exact ⟨7, [0], [], Sub.mk' rfl ⟨.inl rfl, ⟨rfl, rfl⟩, .inl rfl, .inl rfl, trivial⟩ ⟨⟨rfl, rfl, rfl, rfl⟩, trivial⟩ rfl rfl, ⟨by decide, hR⟩, by decide⟩
  · replace hR : (bif (⟨#[104, 97, 108, 116]⟩ : ByteArray).toList == s.toList && true then 7 else kindG s (kwL.drop 8) 8) = L := hR
    conv => whnf
    refine ⟨rfl, (show (0 : Int) ≤ (7 : Nat) by decide), (show ((7 : Nat) : Int) < (9 : Nat) by decide), ?_⟩
    conv => whnf
    refine ⟨rfl, Nat.le_of_ble_eq_true rfl, fun row hrow => ?_⟩
    cases hrow
    refine ⟨Nat.zero_lt_one, fun t ht => ?_⟩
    cases ht
    conv => whnf
    refine csplit (fun h => ?_) (fun h => ?_)
    · replace h : ((⟨#[104, 97, 108, 116]⟩ : ByteArray).toList == s.toList) = true := h
      rw [h] at hR
      conv => whnf
      exact ⟨.inl (congrArg tu hR), trivial⟩
    · replace h : ((⟨#[104, 97, 108, 116]⟩ : ByteArray).toList == s.toList) = false := h
      rw [h] at hR
      conv => whnf
      exact ⟨8, [0], [], Sub.mk' rfl ⟨.inl rfl, ⟨rfl, rfl⟩, .inl rfl, .inl rfl, trivial⟩ ⟨⟨rfl, rfl, rfl, rfl⟩, trivial⟩ rfl rfl, ⟨by decide, hR⟩, by decide⟩
  · replace hR : (bif (⟨#[100, 114, 97, 105, 110]⟩ : ByteArray).toList == s.toList && true then 8 else kindG s (kwL.drop 9) 9) = L := hR
    conv => whnf
    refine ⟨rfl, (show (0 : Int) ≤ (8 : Nat) by decide), (show ((8 : Nat) : Int) < (9 : Nat) by decide), ?_⟩
    conv => whnf
    refine ⟨rfl, Nat.le_of_ble_eq_true rfl, fun row hrow => ?_⟩
    cases hrow
    refine ⟨Nat.zero_lt_one, fun t ht => ?_⟩
    cases ht
    conv => whnf
    refine csplit (fun h => ?_) (fun h => ?_)
    · replace h : ((⟨#[100, 114, 97, 105, 110]⟩ : ByteArray).toList == s.toList) = true := h
      rw [h] at hR
      conv => whnf
      exact ⟨.inl (congrArg tu hR), trivial⟩
    · replace h : ((⟨#[100, 114, 97, 105, 110]⟩ : ByteArray).toList == s.toList) = false := h
      rw [h] at hR
      conv => whnf
      exact ⟨9, [0], [], Sub.mk' rfl ⟨.inl rfl, ⟨rfl, rfl⟩, .inl rfl, .inl rfl, trivial⟩ ⟨⟨rfl, rfl, rfl, rfl⟩, trivial⟩ rfl rfl, ⟨by decide, hR⟩, by decide⟩
  · replace hR : (0 : Int) = L := hR
    conv => whnf
    refine ⟨fun _ => ?_, fun h => absurd rfl h⟩
    conv => whnf
    exact ⟨.inl (congrArg tu hR), trivial⟩
end Go.Proofs.YtcpolpbeimhgfaaGreatDoor.am
